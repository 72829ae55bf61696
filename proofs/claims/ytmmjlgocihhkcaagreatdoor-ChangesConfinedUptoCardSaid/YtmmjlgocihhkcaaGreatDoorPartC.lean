import Derived.Test.YtmmjlgocihhkcaaGreatDoorPartB
import Derived.Test.YtmmjlgocihhkcaaGreatDoorPartA
set_option linter.all false
namespace Go.Proofs.YtmmjlgocihhkcaaGreatDoor
open Go Go.Vm
set_option maxRecDepth 100000
set_option maxHeartbeats 4000000
abbrev QO := List (Option Nat × List Ava)
def cellO (x : Option Nat × List Ava) : V := match x.1 with | some p => .slR p 0 x.2.length x.2.length 2 | none => .slN
def inO (n0 : Nat) (S : Store) (x : Option Nat × List Ava) : Prop := match x.1 with | some p => n0 ≤ p ∧ S[p]? = some (.cells (fl x.2) 96) | none => x.2 = []
def InO (n0 : Nat) (S : Store) (q : QO) : Prop := ∀ x ∈ q, inO n0 S x
def namesO (q : QO) : List (List Ava) := q.map (·.2)
theorem inO.more {n0 : Nat} {S : Store} {x : Option Nat × List Ava} (h : inO n0 S x) (l : Store) : inO n0 (S ++ l) x := by
 obtain ⟨p, r⟩ := x
 cases p with
 | none => exact h
 | some p => exact ⟨h.1, get_more h.2 l⟩
theorem inO.set {n0 : Nat} {S : Store} {x : Option Nat × List Ava} (h : inO n0 S x) (p : Nat) (o : Ob) (hd : x.1 ≠ some p) : inO n0 (S.set p o) x := by
 obtain ⟨p', r⟩ := x
 cases p' with
 | none => exact h
 | some p' => exact ⟨h.1, get_set_ne h.2 (fun e => hd (by rw [e]))⟩
theorem InO.more {n0 : Nat} {S : Store} {q : QO} (h : InO n0 S q) (l : Store) : InO n0 (S ++ l) q := fun x hx => (h x hx).more l
theorem InO.set {n0 : Nat} {S : Store} {q : QO} (h : InO n0 S q) (p : Nat) (o : Ob) (hd : ∀ x ∈ q, x.1 ≠ some p) : InO n0 (S.set p o) q := fun x hx => (h x hx).set p o (hd x hx)
theorem InO.add {n0 : Nat} {S : Store} {q : QO} (h : InO n0 S q) {x : Option Nat × List Ava} (hx : inO n0 S x) : InO n0 S (q ++ [x]) := by
 intro y hy
 rcases List.mem_append.1 hy with h1 | h1
 ·exact h y h1
 ·rw [List.mem_singleton] at h1
  rw [h1]; exact hx
def doneC (x : Option Nat × List Ava) : V := match x.1 with | some _ => .slI x.2.length (fl x.2) | none => .slN
def doneO (q : QO) : V := .slI q.length (q.map doneC)
theorem doneO_isDn (S : Store) {n0 : Nat} {T : Store} {q : QO} (h : InO n0 T q) : isDn S (doneO q) (namesO q) := by
 refine ⟨q.map doneC, ⟨by simp [namesO], .inr (.inl (by simp [namesO, doneO]))⟩, fun i hi => ?_⟩
 have hi' : i < q.length := by simpa [namesO] using hi
 refine ⟨doneC q[i], by simp [hi'], ?_⟩
 have e : (namesO q).getD i [] = (q[i]).2 := by simp [namesO, List.getD, hi']
 rw [e]
 have hx := h q[i] (List.getElem_mem hi')
 generalize q[i] = x at hx
 obtain ⟨p, r⟩ := x
 cases p with
 | none =>
  have : r = [] := hx
  subst this
  exact ⟨rfl, .inl ⟨rfl, rfl⟩⟩
 | some p => exact ⟨flat_len _, .inr (.inl rfl)⟩
theorem frzIn_qo (d n0 : Nat) (S : Store) : ∀ q : QO, InO n0 S q → (q.map cellO).mapM (frzIn (d + 2) n0 S) = some (q.map doneC)
 | [], h => rfl
 | x :: q, h => by
  have h0 := h x (by simp)
  have ih := frzIn_qo d n0 S q (fun y hy => h y (by simp [hy]))
  have hx : frzIn (d + 2) n0 S (cellO x) = some (doneC x) := by
   obtain ⟨p, r⟩ := x
   cases p with
   | none => rfl
   | some p =>
    obtain ⟨h1, h2⟩ := h0
    simp only at h1 h2
    have hc : cellsAt S (.ref p 0) (r.length * 2) = some (fl r) := by
     have hl : (fl r).length = r.length * 2 := flat_len r
     generalize fl r = cs at h2 hl
     simp [cellsAt, cellsOf, h2, tk, ← hl]
    have hn : ¬ p < n0 := by omega
    show (if p < n0 then none else (cellsAt S (.ref p 0) (r.length * 2)).bind fun cs => (cs.mapM (frzIn (d + 1) n0 S)).bind fun cs => some (V.slI r.length cs)) = _
    rw [if_neg hn, hc, Option.bind_some, frzIn_strs, Option.bind_some]
    rfl
  rw [List.map_cons, List.mapM_cons, hx, ih]
  rfl
theorem madeO_frz {n0 : Nat} {S : Store} {q : QO} {o : Nat} (h : InO n0 S q) (h0 : n0 ≤ o) (ho : S[o]? = some (.cells (q.map cellO) 98)) :
  frz 6 n0 S (.slR o 0 q.length q.length 1) = some (doneO q) := by
 have hn : ¬ o < n0 := by omega
 have hc : cellsAt S (.ref o 0) (q.length * 1) = some (q.map cellO) := by
  simp [cellsAt, cellsOf, ho, tk, List.take_of_length_le]
 show (if o < n0 then some _ else frzIn 12 n0 S (.slR o 0 q.length q.length 1)) = _
 rw [if_neg hn]
 show (if o < n0 then none else (cellsAt S (.ref o 0) (q.length * 1)).bind fun cs => (cs.mapM (frzIn 11 n0 S)).bind fun cs => some (V.slI q.length cs)) = _
 rw [if_neg hn, hc, Option.bind_some, frzIn_qo 9 n0 S q h, Option.bind_some]
 rfl
structure St3 (n0 : Nat) (T : Store) (q : QO) (vn : V) (r : List Ava) (vr : V) : Prop where
 inn : InO n0 T q
 out : (q = [] ∧ vn = .slN) ∨ ∃ o, n0 ≤ o ∧ vn = .slR o 0 q.length q.length 1 ∧ T[o]? = some (.cells (q.map cellO) 98)
 stp : (r = [] ∧ vr = .slN) ∨ ∃ p, n0 ≤ p ∧ vr = .slR p 0 r.length r.length 2 ∧ T[p]? = some (.cells (fl r) 96) ∧ ∀ x ∈ q, x.1 ≠ some p
theorem St3.more {n0 : Nat} {T : Store} {q : QO} {vn : V} {r : List Ava} {vr : V} (h : St3 n0 T q vn r vr) (l : Store) : St3 n0 (T ++ l) q vn r vr := by
 refine ⟨h.inn.more l, ?_, ?_⟩
 ·rcases h.out with h | ⟨o, o1, o2, o3⟩
  ·exact .inl h
  ·exact .inr ⟨o, o1, o2, get_more o3 l⟩
 ·rcases h.stp with h | ⟨p, p1, p2, p3, p4⟩
  ·exact .inl h
  ·exact .inr ⟨p, p1, p2, get_more p3 l, p4⟩
theorem InO.fresh {n0 : Nat} {T : Store} {q : QO} (h : InO n0 T q) {p : Nat} (hp : T.length ≤ p) : ∀ x ∈ q, x.1 ≠ some p := by
 intro x hx he
 have h1 := h x hx
 obtain ⟨p', r⟩ := x
 simp only at he
 subst he
 have := lt_of_get h1.2
 omega
theorem St3.put {n0 : Nat} {T : Store} {q : QO} {vn : V} {r : List Ava} {vr : V} (h : St3 n0 T q vn r vr) (hn : n0 ≤ T.length) (a : Ava) (hr : r.length ≤ 1048576) :
  ∃ p', opBuildSlice E0 T 98 1 [(0, .agg [.str a.1, .str a.2])] = some (.slR T.length 0 1 1 2, T ++ [Ob.cells [.str a.1, .str a.2] 96]) ∧ ∃ T2, opAppend E0 (T ++ [Ob.cells [.str a.1, .str a.2] 96]) [98, 98] vr (.slR T.length 0 1 1 2) = some (.slR p' 0 (r.length + 1) (r.length + 1) 2, T2) ∧
   St3 n0 T2 q vn (r ++ [a]) (.slR p' 0 (r.length + 1) (r.length + 1) 2) ∧ Low n0 T T2 := by
 have hmk : opBuildSlice E0 T 98 1 [(0, .agg [.str a.1, .str a.2])] = some (.slR T.length 0 1 1 2, T ++ [Ob.cells [.str a.1, .str a.2] 96]) := ty38.mk1 T (.agg [.str a.1, .str a.2]) rfl rfl
 have hsc := sc_top [.str a.1, .str a.2] 1 (z := 2) rfl T (e := 96)
 obtain ⟨hi, hou, hst⟩ := h
 rcases hst with ⟨rfl, rfl⟩ | ⟨p, p1, rfl, p2, p3⟩
 ·have happ := ty38.app0 hsc (fun s => by simp) rfl (by omega) (by omega) (by omega)
  refine ⟨_, hmk, _, happ, ⟨(hi.more _).more _, ?_, .inr ⟨T.length + 1, by omega, by simp, by simp [fl, avaC], hi.fresh (by omega)⟩⟩, (Low.app hn _).trans (Low.app (by simp; omega) _)⟩
  rcases hou with ⟨rfl, rfl⟩ | ⟨o, o1, rfl, o2⟩
  ·exact .inl ⟨rfl, rfl⟩
  ·exact .inr ⟨o, o1, rfl, get_more (get_more o2 _) _⟩
 ·have hpl := lt_of_get p2
  have happ := ty38.app hsc (fun s => by simp) rfl (by omega) (get_more p2 _) (flat_len r) (by omega) (by omega)
  refine ⟨_, hmk, _, happ, ⟨((hi.more _).set _ _ p3).more _, ?_, .inr ⟨T.length + 1, by omega, by simp, by simp [fl, avaC], hi.fresh (by omega)⟩⟩, (Low.app hn _).trans ((Low.set (by simp; omega) p1).trans (Low.app (by simp; omega) _))⟩
  rcases hou with ⟨rfl, rfl⟩ | ⟨o, o1, rfl, o2⟩
  ·exact .inl ⟨rfl, rfl⟩
  ·exact .inr ⟨o, o1, rfl, get_more (get_set_ne (get_more o2 _) (ids_ne p2 o2)) _⟩
theorem St3.sort {n0 : Nat} {T : Store} {q : QO} {vn : V} {r : List Ava} {vr : V} (h : St3 n0 T q vn r vr) (hn : n0 ≤ T.length) (hs : SortOk r.length) :
  ∃ T2, vrun E0 (.fn 116) [vr, .fn (.func 117) [] []] T = some (.tup [], T2) ∧ St3 n0 T2 q vn (srt r) vr ∧ Low n0 T T2 := by
 obtain ⟨hi, hou, hst⟩ := h
 rcases hst with ⟨rfl, rfl⟩ | ⟨p, p1, rfl, p2, p3⟩
 ·exact ⟨T, sortN_ok T _, ⟨hi, hou, .inl ⟨rfl, rfl⟩⟩, Low.refl hn⟩
 ·refine ⟨_, hs T p r p2 rfl _ cmp36, ⟨hi.set _ _ p3, ?_, .inr ⟨p, p1, by rw [srt_len], by simp [lt_of_get p2], p3⟩⟩, Low.set hn p1⟩
  rcases hou with ⟨rfl, rfl⟩ | ⟨o, o1, rfl, o2⟩
  ·exact .inl ⟨rfl, rfl⟩
  ·exact .inr ⟨o, o1, rfl, get_set_ne o2 (ids_ne p2 o2)⟩
theorem St3.push {n0 : Nat} {T : Store} {q : QO} {vn : V} {r : List Ava} {vr : V} (h : St3 n0 T q vn r vr) (hn : n0 ≤ T.length) (hq : q.length ≤ 1048576) :
  ∃ T1 T2 y o' x, opBuildSlice E0 T 27 1 [(0, vr)] = some (y, T1) ∧ opAppend E0 T1 [27, 27] vn y = some (.slR o' 0 (q.length + 1) (q.length + 1) 1, T2) ∧
   St3 n0 T2 (q ++ [(x, r)]) (.slR o' 0 (q.length + 1) (q.length + 1) 1) [] .slN ∧ Low n0 T T2 := by
 obtain ⟨hi, hou, hst⟩ := h
 obtain ⟨x, hx, hc, hso⟩ : ∃ x, inO n0 T (x, r) ∧ vr = cellO (x, r) ∧ (solid vr = true ∧ vcells vr = [vr]) := by
  rcases hst with ⟨rfl, rfl⟩ | ⟨p, h1, rfl, h3, h4⟩
  ·exact ⟨none, rfl, rfl, rfl, rfl⟩
  ·exact ⟨some p, ⟨h1, h3⟩, rfl, rfl, rfl⟩
 have hmk : opBuildSlice E0 T 27 1 [(0, vr)] = some (.slR T.length 0 1 1 1, T ++ [Ob.cells [vr] 98]) := by
  have := ty24.mk1 T vr hso.1 (by rw [hso.2]; rfl)
  rw [hso.2] at this
  exact this
 have hsc := sc_top [vr] 1 (z := 1) rfl T (e := 98)
 have hadd : InO n0 T (q ++ [(x, r)]) := hi.add hx
 rcases hou with ⟨rfl, rfl⟩ | ⟨o, o1, rfl, o2⟩
 ·have happ := ty24.app0 hsc (fun s => by simp) rfl (by omega) (by omega) (by omega)
  exact ⟨_, _, _, _, x, hmk, happ, ⟨(hadd.more _).more _, .inr ⟨T.length + 1, by omega, by simp, by simp [hc]⟩, .inl ⟨rfl, rfl⟩⟩, (Low.app hn _).trans (Low.app (by simp; omega) _)⟩
 ·have happ := ty24.app (m := q.length) hsc (fun s => by simp) rfl (by omega) (get_more o2 _) (by simp) (by omega) (by omega)
  have hno : ∀ y ∈ q ++ [(x, r)], y.1 ≠ some o := by
   intro y hy he
   have h1 := hadd y hy
   obtain ⟨p, r'⟩ := y
   simp only at he
   subst he
   exact ids_ne h1.2 o2 rfl
  refine ⟨_, _, _, _, x, hmk, happ, ⟨((hadd.more _).set _ _ hno).more _, .inr ⟨T.length + 1, by omega, by simp, by simp [hc]⟩, .inl ⟨rfl, rfl⟩⟩, (Low.app hn _).trans ((Low.set (by simp; omega) o1).trans (Low.app (by simp; omega) _))⟩
theorem load_pre {S U : Store} (h : S <+: U) {t : TypeId} (hg : isAggO E0 t = some false) {a c : V} (hl : opLoad E0 S t a = some c) : opLoad E0 U t a = some c := by
 obtain ⟨L, rfl⟩ := h
 cases a with
 | ref id off =>
  rw [ld_ref hg] at hl ⊢
  cases hS : S[id]? with
  | none => simp [cellsOf, hS] at hl
  | some o =>
   have : cellsOf (S ++ L) id = cellsOf S id := by simp [cellsOf, hS, get_more hS L]
   rw [this]; exact hl
 | imm cs => exact hl
 | _ => simp [opLoad, cellsAt, hg] at hl
theorem isRdn.pre {S U : Store} (h : S <+: U) {v : V} {r : List Ava} (hr : isRdn S v r) : isRdn U v r := by
 obtain ⟨L, rfl⟩ := h
 exact hr.more L
theorem isDn.pre {S U : Store} (h : S <+: U) {v : V} {n : List (List Ava)} (hr : isDn S v n) : isDn U v n := by
 obtain ⟨L, rfl⟩ := h
 exact hr.more L
def normA (a : Ava) : Ava := (smallS a.1, foldS a.2)
def normR (r : List Ava) : List Ava := srt (r.map normA)
def normN (n : List (List Ava)) : List (List Ava) := n.map normR
theorem tb7 : Nat.testBit 254 2 = true := rfl
theorem tb8 : Nat.testBit 254 5 = true := rfl
theorem tb9 : Nat.testBit 511 2 = true := rfl
theorem tb10 : Nat.testBit 511 5 = true := rfl
theorem fr_agg (S : Store) (t : TypeId) (cs : List V) (x y : List UInt8) (id : Nat) (h : S[id]? = some (.cells [.str x, .str y] t)) : (∃ a, opFieldAddr E0 96 (.ref id 0) 0 = some a ∧ opLoad E0 S 9 a = some (.str x)) ∧ ∃ a, opFieldAddr E0 96 (.ref id 0) 1 = some a ∧ opLoad E0 S 9 a = some (.str y) := by
 have at_ : At S (.ref id 0) (.str x :: .str y :: []) := .inr ⟨id, 0, _, t, rfl, h, rfl⟩
 exact ⟨ava_type at_, ava_value at_⟩
theorem Norm_ok {S : Store} {v : V} {n : List (List Ava)} (hn : isDn S v n) (on : okN n) (hs : ∀ r ∈ n, SortOk r.length) : ∃ w, vrun E0 (.fn 82) [v] S = some (w, S) ∧ ∀ S', isDn S' w (normN n) := by
 suffices h : ∃ r, (∃ w, r = (w, S) ∧ ∀ S', isDn S' w (normN n)) ∧ vrun E0 (.fn 82) [v] S = some r by
  obtain ⟨r, ⟨w, rfl, h2⟩, h3⟩ := h
  exact ⟨w, h3, h2⟩
 refine fn_wsP Tryz.func82 rfl ?_
 have ln := hn.len
 repeat (first | refine WS.adm rfl ?_ | refine WS.region (by simp only [EV, TY, lget, ln, ↓reduceIte, Nat.reduceEqDiff]; with_reducible rfl) ?_)
 refine WS.loopB (fun j fr T => ∃ i q vn, j = n.length - i ∧ i ≤ n.length ∧ q.length = i ∧ lget fr 3 = vn ∧ lget fr 9 = v ∧ lget fr 10 = .int .i64 (n.length : Nat) ∧ lget fr 11 = .int .i64 (i : Nat) ∧ St3 S.length T q vn [] .slN ∧ Low S.length S T ∧ namesO q = (n.take i).map normR)
  (fun fr T => ∃ q vn, lget fr 3 = vn ∧ St3 S.length T q vn [] .slN ∧ Low S.length S T ∧ namesO q = normN n) (j := n.length) ?_ ?_ ?_
 ·refine ⟨0, [], .slN, by omega, by omega, rfl, ?_, ?_, ?_, ?_, ⟨fun x hx => by simp at hx, .inl ⟨rfl, rfl⟩, .inl ⟨rfl, rfl⟩⟩, Low.refl (Nat.le_refl _), by simp [namesO]⟩
  all_goals
   simp only [EV, lget, ↓reduceIte, Nat.reduceEqDiff, AT]
   try rfl
 ·rintro fr T ⟨q, vn, h3, hst, hlow, hnm⟩
  rcases hst.out with ⟨rfl, rfl⟩ | ⟨o, o1, rfl, o2⟩
  ·repeat (first | refine WS.adm rfl ?_ | refine WS.region (by simp only [EV, TY, h3, ↓reduceIte, Nat.reduceEqDiff]; with_reducible rfl) ?_)
   refine WS.ret1P (t := 2) rfl rfl ?_ hlow.pre (v := .slN) (v' := .slN) rfl ⟨.slN, rfl, fun S' => ?_⟩
   ·simp only [EV, ↓reduceIte, Nat.reduceEqDiff, AT]
   ·rw [← hnm]; exact nil_isDn S'
  ·repeat (first | refine WS.adm rfl ?_ | refine WS.region (by simp only [EV, TY, h3, ↓reduceIte, Nat.reduceEqDiff]; with_reducible rfl) ?_)
   refine WS.ret1P (t := 2) rfl rfl ?_ hlow.pre (madeO_frz hst.inn o1 o2) ⟨doneO q, rfl, fun S' => ?_⟩
   ·simp only [EV, ↓reduceIte, Nat.reduceEqDiff, AT]
   ·rw [← hnm]; exact doneO_isDn S' hst.inn
 ·rintro j fr T ⟨i, q, vn, rfl, hi, hq, h3, h9, h10, h11, hst, hlow, hnm⟩ ih last
  by_cases hlt : i < n.length
  ·have hlt' : ((i : Nat) : Int) < ((n.length : Nat) : Int) := by omega
   obtain ⟨a, c, i1, i2, i3⟩ := hn.at_ i hlt
   have oka := on.at_ i hlt
   have hsr : SortOk (n.getD i []).length := by
    have e : n.getD i [] = n[i] := by simp [List.getD, hlt]
    rw [e]; exact hs _ (List.getElem_mem hlt)
   have htk : (n.take (i + 1)).map normR = (n.take i).map normR ++ [normR (n.getD i [])] := by
    rw [List.take_succ_eq_append_getElem hlt, List.map_append]
    rw [show n.getD i [] = n[i] by simp [List.getD, hlt]]
    rfl
   generalize n.getD i [] = r at i3 oka hsr htk
   have i2T := load_pre hlow.pre isAggO_98 i2
   have lr := (i3.pre hlow.pre).len
   have iinc := wrap_inc i (by have := on.1; omega)
   repeat (first | refine WS.adm rfl ?_ | refine WS.region (by simp only [EV, TY, h9, h10, h11, hlt', i1, i2T, lr, ↓reduceIte, Nat.reduceEqDiff]; with_reducible rfl) ?_)
   refine WS.ct0 ?_
   repeat (first | refine WS.adm rfl ?_ | refine WS.region (by simp only [EV, TY, h9, h10, h11, hlt', i1, i2T, lr, ↓reduceIte, Nat.reduceEqDiff]; with_reducible rfl) ?_)
   refine WS.loopB (fun j fr U => ∃ m vr, j = r.length - m ∧ m ≤ r.length ∧ lget fr 3 = vn ∧ lget fr 6 = vr ∧ lget fr 9 = v ∧ lget fr 10 = .int .i64 (n.length : Nat) ∧ lget fr 11 = .int .i64 (i : Nat) ∧ lget fr 15 = c ∧ lget fr 16 = .int .i64 (r.length : Nat) ∧ lget fr 17 = .int .i64 (m : Nat) ∧ St3 S.length U q vn ((r.take m).map normA) vr ∧ Low S.length S U)
    (fun fr U => ∃ vr, lget fr 3 = vn ∧ lget fr 6 = vr ∧ lget fr 9 = v ∧ lget fr 10 = .int .i64 (n.length : Nat) ∧ lget fr 11 = .int .i64 (i : Nat) ∧ St3 S.length U q vn (r.map normA) vr ∧ Low S.length S U) (j := r.length) ?_ ?_ ?_
   ·refine ⟨0, .slN, by omega, by omega, ?_, ?_, ?_, ?_, ?_, ?_, ?_, ?_, by simpa using hst, hlow⟩
    all_goals
     simp only [EV, h3, h9, h10, h11, ↓reduceIte, Nat.reduceEqDiff, AT]
     try rfl
   ·rintro fr U ⟨vr, h3, h6, h9, h10, h11, hst, hlow⟩
    obtain ⟨U2, s1, s2, s3⟩ := hst.sort hlow.1 (by rw [List.length_map]; exact hsr)
    obtain ⟨U3, U4, y, o', x, p1, p2, p3, p4⟩ := s2.push (hlow.trans s3).1 (by have := on.1; omega)
    repeat (first | refine WS.adm rfl ?_ | refine WS.region (by simp only [EV, TY, h6, callV_116, s1, h3, p1, p2, h11, iinc, ↓reduceIte, Nat.reduceEqDiff]; with_reducible rfl) ?_)
    refine ih (n.length - (i + 1)) _ _ (by omega) ⟨i + 1, q ++ [(x, srt (r.map normA))], .slR o' 0 (q.length + 1) (q.length + 1) 1, rfl, by omega, by simp [hq], ?_, ?_, ?_, ?_, p3, (hlow.trans s3).trans p4, ?_⟩
    iterate 4 simp only [EV, h9, h10, ↓reduceIte, Nat.reduceEqDiff, AT]
    ·rw [htk, ← hnm]; simp [namesO, normR]
   ·rintro j fr U ⟨m, vr, rfl, hm, h3, h6, h9, h10, h11, h15, h16, h17, hst, hlow⟩ ihm lastm
    by_cases hmlt : m < r.length
    ·have hmlt' : ((m : Nat) : Int) < ((r.length : Nat) : Int) := by omega
     obtain ⟨qa, j1, ta, j2⟩ := (i3.pre hlow.pre).at_ m hmlt
     have j3 := ava_load j2
     have oka' := oka.at_ m hmlt
     have htm : (r.take (m + 1)).map normA = (r.take m).map normA ++ [normA (r.getD m ([], []))] := by
      rw [List.take_succ_eq_append_getElem hmlt, List.map_append]
      rw [show r.getD m ([], []) = r[m] by simp [List.getD, hmlt]]
      rfl
     generalize r.getD m ([], []) = x at j3 oka' htm
     have hal := alloc_40 U
     have hsto := st_40 U [.str [], .str []] rfl x.1 x.2
     generalize hW : U ++ [Ob.cells [V.str x.1, V.str x.2] 96] = W at hsto
     have hlowW : Low S.length S W := by rw [← hW]; exact hlow.trans (Low.app hlow.1 _)
     have hstW : St3 S.length W q vn ((r.take m).map normA) vr := by rw [← hW]; exact hst.more _
     have hcell : W[U.length]? = some (.cells [V.str x.1, V.str x.2] 96) := by rw [← hW]; simp
     obtain ⟨⟨fa, fa1, fa2⟩, ⟨fb, fb1, fb2⟩⟩ := fr_agg W 96 [] x.1 x.2 U.length hcell
     have sm := small_ok x.1 W oka'.1
     have fo := Fold_ok x.2 W oka'.2
     have hb40 := build_40 (smallS x.1) (foldS x.2)
     obtain ⟨p', g1, T2, g2, g3, g4⟩ := hstW.put hlowW.1 (normA x) (by rw [List.length_map, List.length_take]; have := oka.1; omega)
     have hlen : ((r.take m).map normA).length = m := by rw [List.length_map, List.length_take]; omega
     rw [hlen] at g2 g3
     unfold normA at g1 g2
     simp only at g1 g2
     have minc := wrap_inc m (by have := oka.1; omega)
     repeat (first | refine WS.adm rfl ?_ | refine WS.region (by simp only [EV, TY, h15, h16, h17, hmlt', ↓reduceIte, Nat.reduceEqDiff]; with_reducible rfl) ?_)
     refine WS.ct0 ?_
     repeat (first | refine WS.adm rfl ?_ | refine WS.region (by simp only [EV, TY, h15, h17, j1, j3, hal, hsto, ↓reduceIte, Nat.reduceEqDiff]; with_reducible rfl) ?_)
     refine WS.drawb (b := [0, 0, 2, 6, 0, 16, 62, 126, 254, 511, 1023]) (by kernel_rfl) (by simp only [DL, isEff, isRead, Nat.reduceAdd, EV, TY,  h6, fa1, fa2, fb1, fb2, callV_114, callV_115, sm, fo, hb40, g1, g2, tb7, tb8, tb9, tb10, ↓reduceIte, Nat.reduceEqDiff]; with_reducible rfl) ?_
     repeat (first | refine WS.adm rfl ?_ | refine WS.region (by simp only [EV, TY, h17, minc, ↓reduceIte, Nat.reduceEqDiff]; with_reducible rfl) ?_)
     refine ihm (r.length - (m + 1)) _ _ (by omega) ⟨m + 1, .slR p' 0 (m + 1) (m + 1) 2, rfl, by omega, ?_, ?_, ?_, ?_, ?_, ?_, ?_, ?_, by rw [htm]; exact g3, hlowW.trans g4⟩
     iterate 8 simp only [EV, h3, h9, h10, h11, h15, h16, ↓reduceIte, Nat.reduceEqDiff, AT]
    ·have hmlt' : ¬ ((m : Nat) : Int) < ((r.length : Nat) : Int) := by omega
     repeat (first | refine WS.adm rfl ?_ | refine WS.region (by simp only [EV, TY, h15, h16, h17, hmlt', ↓reduceIte, Nat.reduceEqDiff]; with_reducible rfl) ?_)
     refine WS.cf0 ?_
     refine WS.exit rfl ?_
     have : m = r.length := by omega
     subst this
     rw [List.take_length] at hst
     refine lastm _ _ ⟨vr, ?_, ?_, ?_, ?_, ?_, hst, hlow⟩
     iterate 5 simp only [EV, h3, h6, h9, h10, h11, ↓reduceIte, Nat.reduceEqDiff, AT]
  ·have hlt' : ¬ ((i : Nat) : Int) < ((n.length : Nat) : Int) := by omega
   repeat (first | refine WS.adm rfl ?_ | refine WS.region (by simp only [EV, TY, h9, h10, h11, hlt', ↓reduceIte, Nat.reduceEqDiff]; with_reducible rfl) ?_)
   refine WS.cf0 ?_
   refine WS.exit rfl ?_
   have : i = n.length := by omega
   subst this
   rw [List.take_length] at hnm
   refine last _ _ ⟨q, vn, ?_, hst, hlow, hnm⟩
   simp only [EV, h3, ↓reduceIte, Nat.reduceEqDiff, AT]
theorem Equal_ok {S : Store} {v w : V} {a b : List Ava} (ha : isRdn S v a) (hb : isRdn S w b) (la : a.length ≤ 1048576) : vrun E0 (.fn 77) [v, w] S = some (.bool (decide (a = b)), S) := by
 refine fn_ws Tryz.func77 rfl ?_
 have ea := ha.len
 have eb := hb.len
 by_cases hl : a.length = b.length
 ·have hne : (((a.length : Nat) : Int) != ((b.length : Nat) : Int)) = false := by simp [hl]
  repeat (first | refine WS.adm rfl ?_ | refine WS.region (by simp only [EV, TY, lget, ea, eb, hne, ↓reduceIte, Nat.reduceEqDiff]; with_reducible rfl) ?_)
  refine WS.cond_false (by simp only [EV, lget, ↓reduceIte, Nat.reduceEqDiff]) ?_
  repeat (first | refine WS.adm rfl ?_ | refine WS.region (by simp only [EV, TY, lget, ea, ↓reduceIte, Nat.reduceEqDiff]; with_reducible rfl) ?_)
  refine WS.loopB (fun j fr S' => ∃ i, j = a.length - i ∧ i ≤ a.length ∧ lget fr 0 = v ∧ lget fr 1 = w ∧ lget fr 12 = .int .i64 (a.length : Nat) ∧ lget fr 13 = .int .i64 (i : Nat) ∧ S = S' ∧ ∀ k, k < i → a.getD k ([], []) = b.getD k ([], []))
   (fun fr S' => S = S' ∧ ∀ k, k < a.length → a.getD k ([], []) = b.getD k ([], [])) (j := a.length) ?_ ?_ ?_
  ·refine ⟨0, by omega, by omega, ?_, ?_, ?_, ?_, rfl, fun k hk => by omega⟩
   all_goals
    simp only [EV, lget, ↓reduceIte, Nat.reduceEqDiff, AT]
    try rfl
  ·rintro fr S' ⟨rfl, hall⟩
   repeat (first | refine WS.adm rfl ?_ | refine WS.rl ?_)
   refine ret_bool (t := 4) rfl rfl (List.prefix_refl _) (decide_eq_true (ext_getD _ hl hall)) ?_
   simp only [EV, ↓reduceIte, Nat.reduceEqDiff, AT]
  ·rintro j fr S' ⟨i, rfl, hi, h0, h1, h12, h13, hSS, hall⟩ ih last
   subst hSS
   by_cases hlt : i < a.length
   ·have hlt' : ((i : Nat) : Int) < ((a.length : Nat) : Int) := by omega
    obtain ⟨qa, ja1, ta, ja2⟩ := ha.at_ i hlt
    obtain ⟨qb, jb1, tb, jb2⟩ := hb.at_ i (by omega)
    have ja3 := ava_load ja2
    have jb3 := ava_load jb2
    have bad : a.getD i ([], []) ≠ b.getD i ([], []) → a ≠ b := ne_getD _ i
    have hx : ∀ x y, a.getD i ([], []) = x → b.getD i ([], []) = y → x = y → a.getD i ([], []) = b.getD i ([], []) := fun x y h1 h2 h3 => by rw [h1, h2, h3]
    generalize hxa : a.getD i ([], []) = xa at ja3 bad hx
    generalize hxb : b.getD i ([], []) = xb at jb3 bad hx
    have hneq := fun l => ava_neq l xa.1 xa.2 xb.1 xb.2
    repeat (first | refine WS.adm rfl ?_ | refine WS.region (by simp only [EV, TY, h12, h13, hlt', ↓reduceIte, Nat.reduceEqDiff]; with_reducible rfl) ?_)
    refine WS.ct0 ?_
    repeat (first | refine WS.adm rfl ?_ | refine WS.region (by simp only [EV, TY, h13, ↓reduceIte, Nat.reduceEqDiff]; with_reducible rfl) ?_)
    by_cases he : xa = xb
    ·have hb' : (!((xa.1 == xb.1) && (xa.2 == xb.2))) = false := by simp [he]
     have hinc := wrap_inc i (by omega)
     refine WS.draw (by simp only [DL, isEff, isRead, EV, TY, h0, h1, h13, ja1, ja3, jb1, jb3, hneq, hb', ↓reduceIte, Nat.reduceEqDiff]; with_reducible rfl) ?_
     refine WS.cf0 ?_
     repeat (first | refine WS.adm rfl ?_ | refine WS.region (by simp only [EV, TY, h13, hinc, ↓reduceIte, Nat.reduceEqDiff]; with_reducible rfl) ?_)
     refine ih (a.length - (i + 1)) _ _ (by omega) ⟨i + 1, rfl, by omega, ?_, ?_, ?_, ?_, rfl, fun k hk => ?_⟩
     iterate 4 simp only [EV, h0, h1, h12, ↓reduceIte, Nat.reduceEqDiff, AT]
     ·rcases Nat.lt_or_ge k i with h | h
      ·exact hall k h
      ·obtain rfl : k = i := by omega
       rw [hxa, hxb]; exact he
    ·have hb' : (!((xa.1 == xb.1) && (xa.2 == xb.2))) = true := by
      obtain ⟨x1, x2⟩ := xa
      obtain ⟨y1, y2⟩ := xb
      simp at he ⊢
      exact Classical.not_and_iff_not_or_not.1 (fun h => he h.1 h.2)
     refine WS.draw (by simp only [DL, isEff, isRead, EV, TY, h0, h1, h13, ja1, ja3, jb1, jb3, hneq, hb', ↓reduceIte, Nat.reduceEqDiff]; with_reducible rfl) ?_
     refine WS.ct0 ?_
     repeat (first | refine WS.adm rfl ?_ | refine WS.r0 ?_)
     refine ret_bool (t := 4) rfl rfl (List.prefix_refl _) (decide_eq_false (bad he)) ?_
     simp only [EV, ↓reduceIte, Nat.reduceEqDiff, AT]
   ·have hlt' : ¬ ((i : Nat) : Int) < ((a.length : Nat) : Int) := by omega
    repeat (first | refine WS.adm rfl ?_ | refine WS.region (by simp only [EV, TY, h12, h13, hlt', ↓reduceIte, Nat.reduceEqDiff]; with_reducible rfl) ?_)
    refine WS.cf0 ?_
    refine WS.exit rfl ?_
    have : i = a.length := by omega
    subst this
    exact last _ _ ⟨rfl, hall⟩
 ·have hne : (((a.length : Nat) : Int) != ((b.length : Nat) : Int)) = true := bne_iff_ne.2 (by omega)
  repeat (first | refine WS.adm rfl ?_ | refine WS.region (by simp only [EV, TY, lget, ea, eb, hne, ↓reduceIte, Nat.reduceEqDiff]; with_reducible rfl) ?_)
  refine WS.cond_true (by simp only [EV, lget, ↓reduceIte, Nat.reduceEqDiff]) ?_
  repeat (first | refine WS.adm rfl ?_ | refine WS.rl ?_)
  refine ret_bool (t := 4) rfl rfl (List.prefix_refl _) (decide_eq_false fun e => hl (by rw [e])) ?_
  simp only [EV, lget, ↓reduceIte, Nat.reduceEqDiff, AT]
theorem Same1_ok {S : Store} {v w : V} {a b : List Ava} (ha : isRdn S v a) (hb : isRdn S w b) (la : a.length ≤ 1048576) : vrun E0 (.fn 104) [v, w] S = some (.bool (decide (a = b)), S) := by
 refine fn_ws Tryz.func104 rfl ?_
 have h := Equal_ok ha hb la
 repeat (first | refine WS.adm rfl ?_ | refine WS.region (by simp only [EV, TY, lget, callV_77, h, ↓reduceIte, Nat.reduceEqDiff]; with_reducible rfl) ?_)
 refine WS.ret1s (t := 4) rfl rfl (List.prefix_refl _) (frz_bool _ _ _) ?_
 simp only [EV, lget, ↓reduceIte, Nat.reduceEqDiff, AT]
def lenN (n : List (List Ava)) : Prop := n.length ≤ 1048576 ∧ ∀ r ∈ n, r.length ≤ 1048576
theorem lenN.at_ {n : List (List Ava)} (h : lenN n) (i : Nat) (hi : i < n.length) : (n.getD i []).length ≤ 1048576 := by
 rw [show n.getD i [] = n[i] by simp [List.getD, hi]]
 exact h.2 _ (List.getElem_mem hi)
theorem EqualFunc_ok {S : Store} {v w : V} {a b : List (List Ava)} (ha : isDn S v a) (hb : isDn S w b) (la : lenN a) : vrun E0 (.fn 75) [v, w, .fn (.func 104) [] []] S = some (.bool (decide (a = b)), S) := by
 refine fn_ws Tryz.func75 rfl ?_
 have ea := ha.len
 have eb := hb.len
 by_cases hl : a.length = b.length
 ·have hne : (((a.length : Nat) : Int) != ((b.length : Nat) : Int)) = false := by simp [hl]
  repeat (first | refine WS.adm rfl ?_ | refine WS.region (by simp only [EV, TY, lget, ea, eb, hne, ↓reduceIte, Nat.reduceEqDiff]; with_reducible rfl) ?_)
  refine WS.cond_false (by simp only [EV, lget, ↓reduceIte, Nat.reduceEqDiff]) ?_
  repeat (first | refine WS.adm rfl ?_ | refine WS.region (by simp only [EV, TY, lget, ea, ↓reduceIte, Nat.reduceEqDiff]; with_reducible rfl) ?_)
  refine WS.loopB (fun j fr S' => ∃ i, j = a.length - i ∧ i ≤ a.length ∧ lget fr 1 = w ∧ lget fr 2 = .fn (.func 104) [] [] ∧ lget fr 15 = v ∧ lget fr 16 = .int .i64 (a.length : Nat) ∧ lget fr 17 = .int .i64 (i : Nat) ∧ S = S' ∧ ∀ k, k < i → a.getD k [] = b.getD k [])
   (fun fr S' => S = S' ∧ ∀ k, k < a.length → a.getD k [] = b.getD k []) (j := a.length) ?_ ?_ ?_
  ·refine ⟨0, by omega, by omega, ?_, ?_, ?_, ?_, ?_, rfl, fun k hk => by omega⟩
   all_goals
    simp only [EV, lget, ↓reduceIte, Nat.reduceEqDiff, AT]
    try rfl
  ·rintro fr S' ⟨rfl, hall⟩
   repeat (first | refine WS.adm rfl ?_ | refine WS.rl ?_)
   refine ret_bool (t := 6) rfl rfl (List.prefix_refl _) (decide_eq_true (ext_getD _ hl hall)) ?_
   simp only [EV, ↓reduceIte, Nat.reduceEqDiff, AT]
  ·rintro j fr S' ⟨i, rfl, hi, h1, h2, h15, h16, h17, hSS, hall⟩ ih last
   subst hSS
   by_cases hlt : i < a.length
   ·have hlt' : ((i : Nat) : Int) < ((a.length : Nat) : Int) := by omega
    obtain ⟨pa, ca, ia1, ia2, ia3⟩ := ha.at_ i hlt
    obtain ⟨pb, cb, ib1, ib2, ib3⟩ := hb.at_ i (by omega)
    have lra := la.at_ i hlt
    have bad : a.getD i [] ≠ b.getD i [] → a ≠ b := ne_getD _ i
    generalize hxa : a.getD i [] = ra at ia3 bad lra
    generalize hxb : b.getD i [] = rb at ib3 bad
    have hs := Same1_ok ia3 ib3 lra
    have hinc := wrap_inc i (by have := la.1; omega)
    repeat (first | refine WS.adm rfl ?_ | refine WS.region (by simp only [EV, TY, h16, h17, hlt', ↓reduceIte, Nat.reduceEqDiff]; with_reducible rfl) ?_)
    refine WS.ct0 ?_
    by_cases he : ra = rb
    ·have hd : decide (ra = rb) = true := decide_eq_true he
     rw [hd] at hs
     repeat (first | refine WS.adm rfl ?_ | refine WS.region (by simp only [EV, TY, h1, h2, h15, h17, ia1, ia2, ib1, ib2, callV_104, hs, Bool.not_true, ↓reduceIte, Nat.reduceEqDiff]; with_reducible rfl) ?_)
     refine WS.cf0 ?_
     repeat (first | refine WS.adm rfl ?_ | refine WS.region (by simp only [EV, TY, h17, hinc, ↓reduceIte, Nat.reduceEqDiff]; with_reducible rfl) ?_)
     refine ih (a.length - (i + 1)) _ _ (by omega) ⟨i + 1, rfl, by omega, ?_, ?_, ?_, ?_, ?_, rfl, fun k hk => ?_⟩
     iterate 5 simp only [EV, h1, h2, h15, h16, ↓reduceIte, Nat.reduceEqDiff, AT]
     ·rcases Nat.lt_or_ge k i with h | h
      ·exact hall k h
      ·obtain rfl : k = i := by omega
       rw [hxa, hxb]; exact he
    ·have hd : decide (ra = rb) = false := decide_eq_false he
     rw [hd] at hs
     repeat (first | refine WS.adm rfl ?_ | refine WS.region (by simp only [EV, TY, h1, h2, h15, h17, ia1, ia2, ib1, ib2, callV_104, hs, Bool.not_false, ↓reduceIte, Nat.reduceEqDiff]; with_reducible rfl) ?_)
     refine WS.ct0 ?_
     repeat (first | refine WS.adm rfl ?_ | refine WS.r0 ?_)
     refine ret_bool (t := 6) rfl rfl (List.prefix_refl _) (decide_eq_false (bad he)) ?_
     simp only [EV, ↓reduceIte, Nat.reduceEqDiff, AT]
   ·have hlt' : ¬ ((i : Nat) : Int) < ((a.length : Nat) : Int) := by omega
    repeat (first | refine WS.adm rfl ?_ | refine WS.region (by simp only [EV, TY, h16, h17, hlt', ↓reduceIte, Nat.reduceEqDiff]; with_reducible rfl) ?_)
    refine WS.cf0 ?_
    refine WS.exit rfl ?_
    have : i = a.length := by omega
    subst this
    exact last _ _ ⟨rfl, hall⟩
 ·have hne : (((a.length : Nat) : Int) != ((b.length : Nat) : Int)) = true := bne_iff_ne.2 (by omega)
  repeat (first | refine WS.adm rfl ?_ | refine WS.region (by simp only [EV, TY, lget, ea, eb, hne, ↓reduceIte, Nat.reduceEqDiff]; with_reducible rfl) ?_)
  refine WS.cond_true (by simp only [EV, lget, ↓reduceIte, Nat.reduceEqDiff]) ?_
  repeat (first | refine WS.adm rfl ?_ | refine WS.rl ?_)
  refine ret_bool (t := 6) rfl rfl (List.prefix_refl _) (decide_eq_false fun e => hl (by rw [e])) ?_
  simp only [EV, lget, ↓reduceIte, Nat.reduceEqDiff, AT]
theorem lenN_norm {n : List (List Ava)} (h : okN n) : lenN (normN n) := by
 refine ⟨by simpa [normN] using h.1, fun r hr => ?_⟩
 obtain ⟨s, hs, rfl⟩ := List.mem_map.1 hr
 have := (h.2 s hs).1
 simpa [normR, srt_len] using this
def SortsN (n : List (List Ava)) : Prop := ∀ r ∈ n, SortOk r.length
theorem Same_ok {S : Store} {v w : V} {a b : List (List Ava)} (ha : isDn S v a) (hb : isDn S w b) (oa : okN a) (ob : okN b) (sa : SortsN a) (sb : SortsN b) : vrun E0 (.fn 63) [v, w] S = some (.bool (decide (normN a = normN b)), S) := by
 refine fn_ws Tryz.func63 rfl ?_
 obtain ⟨x, hx, dx⟩ := Norm_ok ha oa sa
 obtain ⟨y, hy, dy⟩ := Norm_ok hb ob sb
 have h := EqualFunc_ok (dx S) (dy S) (lenN_norm oa)
 repeat (first | refine WS.adm rfl ?_ | refine WS.region (by simp only [EV, TY, lget, callV_82, hx, hy, callV_75, h, ↓reduceIte, Nat.reduceEqDiff]; with_reducible rfl) ?_)
 refine WS.ret1s (t := 4) rfl rfl (List.prefix_refl _) (frz_bool _ _ _) ?_
 simp only [EV, lget, ↓reduceIte, Nat.reduceEqDiff, AT]
theorem isDn.drop {S : Store} {v : V} {n : List (List Ava)} (h : isDn S v n) (m : Nat) (hm : m ≤ n.length) : ∃ v', opSlice E0 27 v (some (.int .i64 (m : Nat))) none none = some v' ∧ isDn S v' (n.drop m) := by
 obtain ⟨cs, h1, h2⟩ := h
 obtain ⟨v', g1, g2⟩ := h1.drop (E := E0) Tryz.underlying27 tsize_98 .i64 m hm
 refine ⟨v', g1, cs.drop (m * 1), by rw [List.length_drop]; exact g2, fun i hi => ?_⟩
 rw [List.length_drop] at hi
 obtain ⟨c, h3, h4⟩ := h2 (m + i) (by omega)
 refine ⟨c, by rw [Nat.mul_one, List.getElem?_drop]; exact h3, ?_⟩
 have : (n.drop m).getD i [] = n.getD (m + i) [] := by simp [List.getD, List.getElem?_drop]
 rw [this]
 exact h4
def underB (a b : List (List Ava)) : Bool := decide (b.length ≤ a.length ∧ normN (a.drop (a.length - b.length)) = normN b)
theorem okN.drop {n : List (List Ava)} (h : okN n) (m : Nat) : okN (n.drop m) := ⟨by have := h.1; simp; omega, fun r hr => h.2 r (List.mem_of_mem_drop hr)⟩
theorem Under_ok {S : Store} {v w : V} {a b : List (List Ava)} (ha : isDn S v a) (hb : isDn S w b) (oa : okN a) (ob : okN b) (sa : SortsN a) (sb : SortsN b) : vrun E0 (.fn 31) [v, w] S = some (.bool (underB a b), S) := by
 refine fn_ws Tryz.func31 rfl ?_
 have ea := ha.len
 have eb := hb.len
 by_cases hl : b.length ≤ a.length
 ·have hl' : ((b.length : Nat) : Int) ≤ ((a.length : Nat) : Int) := by omega
  have hsub := wrap_subN a.length b.length hl (by have := oa.1; omega)
  obtain ⟨u, g1, g2⟩ := ha.drop (a.length - b.length) (by omega)
  have h := Same_ok g2 hb (oa.drop _) ob (fun r hr => sa r (List.mem_of_mem_drop hr)) sb
  repeat (first | refine WS.adm rfl ?_ | refine WS.region (by simp only [EV, TY, lget, ea, eb, hl', hsub, g1, callV_63, h, ↓reduceIte, Nat.reduceEqDiff]; with_reducible rfl) ?_)
  refine ret_bool (t := 4) rfl rfl (List.prefix_refl _) ?_ ?_ (b := decide (normN (a.drop (a.length - b.length)) = normN b))
  ·simp [underB, hl]
  ·simp only [EV, lget, ↓reduceIte, Nat.reduceEqDiff, AT]
 ·have hl' : ¬ ((b.length : Nat) : Int) ≤ ((a.length : Nat) : Int) := by omega
  repeat (first | refine WS.adm rfl ?_ | refine WS.region (by simp only [EV, TY, lget, ea, eb, hl', ↓reduceIte, Nat.reduceEqDiff]; with_reducible rfl) ?_)
  refine ret_bool (t := 4) rfl rfl (List.prefix_refl _) (decide_eq_false fun h => hl h.1) ?_
  simp only [EV, lget, ↓reduceIte, Nat.reduceEqDiff, AT]
theorem lt_le_trans {x y z : Ava} (h : ltA x y = true) (g : ltA z y = false) : ltA x z = true := by
 unfold ltA at *
 cases hxz : lessB x.1 z.1 with
 | true => rfl
 | false =>
  have := le_trans' (x := y.1) (y := z.1) (z := x.1) g hxz
  rw [h] at this; cases this
theorem le_lt_trans {x y z : Ava} (h : ltA y x = false) (g : ltA y z = true) : ltA x z = true := by
 unfold ltA at *
 cases hxz : lessB x.1 z.1 with
 | true => rfl
 | false =>
  have := le_trans' (x := z.1) (y := x.1) (z := y.1) hxz h
  rw [g] at this; cases this
theorem le_le_trans {x y z : Ava} (h : ltA y x = false) (g : ltA z y = false) : ltA z x = false := le_trans' h g
theorem lt_irrefl' (x : Ava) : ltA x x = false := less_irrefl _
theorem lt_le {x y : Ava} (h : ltA x y = true) : ltA y x = false := less_asymm h
theorem steq_comm {X Y : List Ava} (h : ∀ x ∈ X, ∀ y ∈ Y, x.1 ≠ y.1) : StEq (X ++ Y) (Y ++ X) := by
 intro k
 rw [List.filter_append, List.filter_append]
 by_cases hx : X.filter (fun x => x.1 == k) = []
 ·rw [hx]; simp
 ·have hy : Y.filter (fun x => x.1 == k) = [] := by
   rw [List.filter_eq_nil_iff]
   intro y hy hk
   apply hx
   rw [List.filter_eq_nil_iff]
   intro x hx' hk'
   have h1 : x.1 = k := by simpa using hk'
   have h2 : y.1 = k := by simpa using hk
   exact h x hx' y hy (h1.trans h2.symm)
  rw [hy]; simp
theorem ne_of_lt {x y : Ava} (h : ltA x y = true) : x.1 ≠ y.1 := fun e => by
 unfold ltA at h
 rw [e, less_irrefl] at h; cases h
theorem sorted_app {X Y : List Ava} (hx : Sorted X) (hy : Sorted Y) (h : ∀ x ∈ X, ∀ y ∈ Y, ltA y x = false) : Sorted (X ++ Y) := List.pairwise_append.2 ⟨hx, hy, h⟩
theorem sorted_parts {X Y : List Ava} (h : Sorted (X ++ Y)) : Sorted X ∧ Sorted Y ∧ ∀ x ∈ X, ∀ y ∈ Y, ltA y x = false := List.pairwise_append.1 h
theorem sorted_get {Z : List Ava} (h : Sorted Z) {i j : Nat} (hij : i ≤ j) (hj : j < Z.length) : ltA (Z.getD j ([], [])) (Z.getD i ([], [])) = false := by
 rcases Nat.lt_or_ge i j with hlt | hge
 ·have := List.pairwise_iff_getElem.1 h i j (by omega) hj hlt
  simpa [List.getD, hj, show i < Z.length by omega] using this
 ·obtain rfl : i = j := by omega
  exact lt_irrefl' _
theorem merge_first {x : Ava} {V1 V2 : List Ava} (hs : Sorted (V1 ++ V2)) (h1 : ∀ v ∈ V1, ltA v x = true) (h2 : ∀ v ∈ V2, ltA v x = false) : V1 ++ x :: V2 = srt ([x] ++ (V1 ++ V2)) := by
 obtain ⟨s1, s2, s3⟩ := sorted_parts hs
 refine sorted_unique ?_ (srt_sorted _) ?_
 ·refine sorted_app s1 (List.pairwise_cons.2 ⟨h2, s2⟩) fun v hv w hw => ?_
  rcases List.mem_cons.1 hw with rfl | hw
  ·exact lt_le (h1 v hv)
  ·exact s3 v hv w hw
 ·refine StEq.trans ?_ (srt_steq _).symm
  have : StEq (V1 ++ [x]) ([x] ++ V1) := steq_comm fun v hv w hw => by
   rw [List.mem_singleton] at hw
   subst hw
   exact ne_of_lt (h1 v hv)
  have := this.append (StEq.refl V2)
  simpa using this
theorem merge_last {y : Ava} {U1 U2 : List Ava} (hs : Sorted (U1 ++ U2)) (h1 : ∀ u ∈ U1, ltA y u = false) (h2 : ∀ u ∈ U2, ltA y u = true) : U1 ++ y :: U2 = srt ((U1 ++ U2) ++ [y]) := by
 obtain ⟨s1, s2, s3⟩ := sorted_parts hs
 refine sorted_unique ?_ (srt_sorted _) ?_
 ·refine sorted_app s1 (List.pairwise_cons.2 ⟨fun u hu => lt_le (h2 u hu), s2⟩) fun v hv w hw => ?_
  rcases List.mem_cons.1 hw with rfl | hw
  ·exact h1 v hv
  ·exact s3 v hv w hw
 ·refine StEq.trans ?_ (srt_steq _).symm
  have : StEq ([y] ++ U2) (U2 ++ [y]) := steq_comm fun v hv w hw => by
   rw [List.mem_singleton] at hv
   subst hv
   exact ne_of_lt (h2 w hw)
  have := (StEq.refl U1).append this
  simpa using this
theorem merge_mid {U1 U2 V1 V2 : List Ava} (hU : Sorted (U1 ++ U2)) (hV : Sorted (V1 ++ V2)) (h1 : ∀ u ∈ U2, ∀ v ∈ V1, ltA v u = true) (h2 : ∀ u ∈ U1, ∀ v ∈ V2, ltA v u = false) :
  srt (U1 ++ V1) ++ srt (U2 ++ V2) = srt ((U1 ++ U2) ++ (V1 ++ V2)) := by
 obtain ⟨a1, a2, a3⟩ := sorted_parts hU
 obtain ⟨b1, b2, b3⟩ := sorted_parts hV
 refine sorted_unique ?_ (srt_sorted _) ?_
 ·refine sorted_app (srt_sorted _) (srt_sorted _) fun x hx y hy => ?_
  rw [srt_mem, List.mem_append] at hx hy
  rcases hx with hx | hx <;> rcases hy with hy | hy
  ·exact a3 x hx y hy
  ·exact h2 x hx y hy
  ·exact lt_le (h1 y hy x hx)
  ·exact b3 x hx y hy
 ·refine StEq.trans ((srt_steq _).append (srt_steq _)) (StEq.trans ?_ (srt_steq _).symm)
  have h : StEq (V1 ++ U2) (U2 ++ V1) := steq_comm fun v hv u hu => ne_of_lt (h1 u hu v hv)
  have := ((StEq.refl U1).append h).append (StEq.refl V2)
  simpa using this
theorem srt_srt (X Y : List Ava) : srt (srt X ++ srt Y) = srt (X ++ Y) :=
 sorted_unique (srt_sorted _) (srt_sorted _) ((srt_steq _).trans (((srt_steq X).append (srt_steq Y)).trans (srt_steq _).symm))
theorem getD_at {α : Type} (d : α) {C A B : List α} {x : α} {i : Nat} (hC : C = A ++ x :: B) (hi : i = A.length) : C.getD i d = x := by subst hC hi; exact getD_mid d A x B
theorem set_at {α : Type} {C A B : List α} {x y : α} {i : Nat} (hC : C = A ++ x :: B) (hi : i = A.length) : C.set i y = A ++ y :: B := by subst hC hi; exact set_mid A x y B
theorem swap_mid {α : Type} (P Q R : List α) (x y : α) {C : List α} {i j : Nat} (hC : C = P ++ x :: (Q ++ y :: R)) (hi : i = P.length) (hj : j = P.length + 1 + Q.length) :
  (C.set i y).set j x = P ++ y :: (Q ++ x :: R) := by
 rw [set_at hC hi]
 rw [set_at (A := P ++ y :: Q) (B := R) (x := y) (by simp) (by simp; omega)]
 simp
theorem swap_mid' {α : Type} (P Q R : List α) (x y : α) {C : List α} {i j : Nat} (hC : C = P ++ x :: (Q ++ y :: R)) (hi : i = P.length) (hj : j = P.length + 1 + Q.length) :
  (C.set j x).set i y = P ++ y :: (Q ++ x :: R) := by
 rw [set_at (C := C) (A := P ++ x :: Q) (B := R) (x := y) (by rw [hC]; simp) (by simp; omega)]
 rw [set_at (A := P) (B := Q ++ x :: R) (x := x) (by simp) hi]
theorem set_id {T : Store} {id : Nat} {o : Ob} (h : T[id]? = some o) : T.set id o = T := List.ext_getElem? fun k => by
 by_cases hk : id = k
 ·subst hk; rw [List.getElem?_set_self (lt_of_get h), h]
 ·rw [List.getElem?_set_ne hk]
theorem wa (i j : Nat) (h : i + j ≤ 140737488355328) : IntKind.i64.wrap ((i : Int) + (j : Int)) = ((i + j : Nat) : Int) := wrap_addN i j h
theorem tb11 : Nat.testBit 2096911 13 = true := rfl
theorem tb12 : Nat.testBit 2096911 19 = true := rfl
theorem tb13 : Nat.testBit 8388607 13 = true := rfl
theorem tb14 : Nat.testBit 8388607 19 = true := rfl
theorem swapRange_ok {T : Store} {id : Nat} (A X M Y B : List Ava) {C : List Ava} (hC : C = A ++ (X ++ (M ++ (Y ++ B)))) (hT : T[id]? = some (.cells (fl C) 96)) (hN : C.length ≤ 1048576) (hXY : X.length = Y.length) (fv : V) (a b n : Nat) (ha : a = A.length) (hb : b = A.length + X.length + M.length) (hn : n = X.length) :
  vrun E0 (.fn 195) [.slR id 0 C.length C.length 2, .int .i64 (a : Nat), .int .i64 (b : Nat), .int .i64 (n : Nat), fv] T = some (.tup [], T.set id (.cells (fl (A ++ (Y ++ (M ++ (X ++ B))))) 96)) := by
 refine fn_ws Tryz.func195 rfl ?_
 have hid : id < T.length := lt_of_get hT
 have hCl : C.length = A.length + X.length + M.length + Y.length + B.length := by rw [hC]; simp; omega
 repeat (first | refine WS.adm rfl ?_ | refine WS.rl ?_)
 refine WS.loopB (fun j fr U => ∃ X1 X2 Y1 Y2, j = X2.length ∧ X = X1 ++ X2 ∧ Y = Y1 ++ Y2 ∧ X1.length = Y1.length ∧ lget fr 0 = .slR id 0 C.length C.length 2 ∧ lget fr 1 = .int .i64 (a : Nat) ∧ lget fr 2 = .int .i64 (b : Nat) ∧ lget fr 3 = .int .i64 (n : Nat) ∧ lget fr 10 = .int .i64 (X1.length : Nat) ∧ U = T.set id (.cells (fl (A ++ (Y1 ++ (X2 ++ (M ++ (X1 ++ (Y2 ++ B))))))) 96))
  (fun fr U => U = T.set id (.cells (fl (A ++ (Y ++ (M ++ (X ++ B))))) 96)) (j := X.length) ?_ ?_ ?_
 ·refine ⟨[], X, [], Y, rfl, rfl, rfl, rfl, ?_, ?_, ?_, ?_, ?_, ?_⟩
  iterate 4 simp only [EV, lget, ↓reduceIte, Nat.reduceEqDiff, AT]
  ·simp only [EV, lget, ↓reduceIte, Nat.reduceEqDiff, AT]
   rfl
  ·simp only [List.nil_append]
   rw [← hC, set_id hT]
 ·rintro fr U rfl
  exact ends0 rfl rfl
 ·rintro j fr U ⟨X1, X2, Y1, Y2, rfl, rfl, rfl, hl, h0, h1, h2, h3, h10, rfl⟩ ih last
  simp only [List.length_append] at hXY hCl hb hn
  cases X2 with
  | nil =>
   have hlt : ¬ ((X1.length : Nat) : Int) < ((n : Nat) : Int) := by simp at hn; omega
   obtain rfl : Y2 = [] := List.length_eq_zero_iff.1 (by simp at hXY; omega)
   repeat (first | refine WS.adm rfl ?_ | refine WS.region (by simp only [EV, TY, h3, h10, hlt, ↓reduceIte, Nat.reduceEqDiff]; with_reducible rfl) ?_)
   refine WS.cf0 ?_
   refine WS.exit rfl ?_
   exact last _ _ (by simp)
  | cons x X2 =>
   cases Y2 with
   | nil => simp at hXY; omega
   | cons y Y2 =>
    simp only [List.length_cons] at hXY hCl hb hn
    have hlt : ((X1.length : Nat) : Int) < ((n : Nat) : Int) := by omega
    generalize hD : A ++ (Y1 ++ (x :: X2 ++ (M ++ (X1 ++ (y :: Y2 ++ B))))) = D
    have hDe : D = (A ++ Y1) ++ x :: ((X2 ++ (M ++ X1)) ++ y :: (Y2 ++ B)) := by rw [← hD]; simp
    have hDl : D.length = C.length := by rw [hDe, hCl]; simp; omega
    have hU : (T.set id (.cells (fl D) 96))[id]? = some (.cells (fl D) 96) := by simp [hid]
    have hi : a + X1.length = (A ++ Y1).length := by simp; omega
    have hj : b + X1.length = (A ++ Y1).length + 1 + (X2 ++ (M ++ X1)).length := by simp; omega
    have w1 := wa a X1.length (by omega)
    have w2 := wa b X1.length (by omega)
    have ld1 := cell_ld hU (a + X1.length) (by omega)
    have ld2 := cell_ld hU (b + X1.length) (by omega)
    rw [getD_at _ hDe hi] at ld1
    rw [getD_at (A := (A ++ Y1) ++ x :: (X2 ++ (M ++ X1))) (B := Y2 ++ B) (x := y) _ (by rw [hDe]; simp) (by rw [hj]; simp; omega)] at ld2
    have ia1 := cell_ia id C.length (a + X1.length) (by omega)
    have ia2 := cell_ia id C.length (b + X1.length) (by omega)
    have st1 := cell_st hU (a + X1.length) (by omega) y
    rw [List.set_set] at st1
    have hU1 : (T.set id (.cells (fl (D.set (a + X1.length) y)) 96))[id]? = some (.cells (fl (D.set (a + X1.length) y)) 96) := by simp [hid]
    have st2 := cell_st hU1 (b + X1.length) (by rw [List.length_set]; omega) x
    rw [List.set_set, swap_mid _ _ _ _ _ hDe hi hj] at st2
    have iinc := wrap_inc X1.length (by omega)
    repeat (first | refine WS.adm rfl ?_ | refine WS.region (by simp only [EV, TY, h3, h10, hlt, ↓reduceIte, Nat.reduceEqDiff]; with_reducible rfl) ?_)
    refine WS.ct0 ?_
    repeat refine WS.adm rfl ?_
    refine WS.drawb (b := [0, 0, 0, 6, 0, 0, 0, 96, 0, 0, 0, 1536, 3840, 7936, 0, 0, 0, 98304, 245760, 507904, 1048335, 2096911, 4194303, 8388607]) (by kernel_rfl) (by simp only [DL, evDraw_guard, isEff, isRead, Nat.reduceAdd, EV, TY,  h0, h1, h2, h10, w1, w2, ia1, ia2, ld1, ld2, st1, st2, tb11, tb12, tb13, tb14, ↓reduceIte, Nat.reduceEqDiff]; with_reducible rfl) ?_
    repeat (first | refine WS.adm rfl ?_ | refine WS.region (by simp only [EV, TY, h10, iinc, ↓reduceIte, Nat.reduceEqDiff]; with_reducible rfl) ?_)
    refine ih X2.length _ _ (by simp) ⟨X1 ++ [x], X2, Y1 ++ [y], Y2, rfl, by simp, by simp, by simp [hl], ?_, ?_, ?_, ?_, ?_, by simp⟩
    iterate 4 simp only [EV, h0, h1, h2, h3, ↓reduceIte, Nat.reduceEqDiff, AT]
    ·simp only [EV, ↓reduceIte, Nat.reduceEqDiff, AT]
     simp
theorem ws_ (i j : Nat) (h : j ≤ i) (h2 : i ≤ 140737488355328) : IntKind.i64.wrap ((i : Int) - (j : Int)) = ((i - j : Nat) : Int) := wrap_subN i j h h2
theorem rotate_ok {T : Store} {id : Nat} (A U Z B : List Ava) {C : List Ava} (hC : C = A ++ (U ++ (Z ++ B))) (hT : T[id]? = some (.cells (fl C) 96)) (hN : C.length ≤ 1048576) (hU0 : U ≠ []) (hV0 : Z ≠ []) (fv : V) (a m b : Nat) (ha : a = A.length) (hm : m = A.length + U.length) (hb : b = A.length + U.length + Z.length) :
  vrun E0 (.fn 181) [.slR id 0 C.length C.length 2, .int .i64 (a : Nat), .int .i64 (m : Nat), .int .i64 (b : Nat), fv] T = some (.tup [], T.set id (.cells (fl (A ++ (Z ++ (U ++ B)))) 96)) := by
 refine fn_ws Tryz.func181 rfl ?_
 have hid : id < T.length := lt_of_get hT
 have hCl : C.length = A.length + U.length + Z.length + B.length := by rw [hC]; simp; omega
 have w1 := ws_ m a (by omega) (by omega)
 have w2 := ws_ b m (by omega) (by omega)
 repeat (first | refine WS.adm rfl ?_ | refine WS.region (by simp only [EV, TY, lget, w1, w2, ↓reduceIte, Nat.reduceEqDiff]; with_reducible rfl) ?_)
 refine WS.loopB (fun j fr S' => ∃ P U' Z' Q, j = U'.length + Z'.length ∧ U' ≠ [] ∧ Z' ≠ [] ∧ A.length + P.length + U'.length = m ∧ P ++ (Z' ++ (U' ++ Q)) = Z ++ U ∧ lget fr 0 = .slR id 0 C.length C.length 2 ∧ lget fr 2 = .int .i64 (m : Nat) ∧ lget fr 4 = fv ∧ lget fr 10 = .int .i64 (U'.length : Nat) ∧ lget fr 11 = .int .i64 (Z'.length : Nat) ∧ S' = T.set id (.cells (fl (A ++ (P ++ (U' ++ (Z' ++ (Q ++ B)))))) 96))
  (fun fr S' => ∃ P U' Z' Q, U'.length = Z'.length ∧ A.length + P.length + U'.length = m ∧ P ++ (Z' ++ (U' ++ Q)) = Z ++ U ∧ lget fr 0 = .slR id 0 C.length C.length 2 ∧ lget fr 2 = .int .i64 (m : Nat) ∧ lget fr 4 = fv ∧ lget fr 10 = .int .i64 (U'.length : Nat) ∧ lget fr 11 = .int .i64 (Z'.length : Nat) ∧ S' = T.set id (.cells (fl (A ++ (P ++ (U' ++ (Z' ++ (Q ++ B)))))) 96)) (j := U.length + Z.length) ?_ ?_ ?_
 ·refine ⟨[], U, Z, [], rfl, hU0, hV0, by simp; omega, by simp, ?_, ?_, ?_, ?_, ?_, ?_⟩
  iterate 3 simp only [EV, lget, ↓reduceIte, Nat.reduceEqDiff, AT]
  ·simp only [EV, lget, ↓reduceIte, Nat.reduceEqDiff, AT]
   rw [show m - a = U.length by omega]
  ·simp only [EV, lget, ↓reduceIte, Nat.reduceEqDiff, AT]
   rw [show b - m = Z.length by omega]
  ·simp only [List.nil_append]
   rw [← hC, set_id hT]
 ·rintro fr S' ⟨P, U', Z', Q, hl, hmm, hpq, h0, h2, h4, h10, h11, rfl⟩
  have hlen := congrArg List.length hpq
  simp only [List.length_append] at hlen
  have k1 := ws_ m U'.length (by omega) (by omega)
  have hD : A ++ (P ++ (U' ++ (Z' ++ (Q ++ B)))) = (A ++ P) ++ (U' ++ ([] ++ (Z' ++ (Q ++ B)))) := by simp
  have hDl : (A ++ (P ++ (U' ++ (Z' ++ (Q ++ B))))).length = C.length := by simp; omega
  have hS := swapRange_ok (T := T.set id (.cells (fl (A ++ (P ++ (U' ++ (Z' ++ (Q ++ B)))))) 96)) (id := id) (A ++ P) U' [] Z' (Q ++ B) hD (by simp [hid]) (by rw [hDl]; exact hN) hl fv (m - U'.length) m U'.length (by simp; omega) (by simp; omega) rfl
  rw [hDl, List.set_set] at hS
  have hfin : (A ++ P) ++ (Z' ++ ([] ++ (U' ++ (Q ++ B)))) = A ++ (Z ++ (U ++ B)) := by
   rw [← List.append_assoc Z U B, ← hpq]; simp
  rw [hfin] at hS
  repeat (first | refine WS.adm rfl ?_ | refine WS.region (by simp only [EV, TY, h0, h2, h4, h10, h11, k1, callV_195, hS, ↓reduceIte, Nat.reduceEqDiff]; with_reducible rfl) ?_)
  exact ends0 rfl rfl
 ·rintro j fr S' ⟨P, U', Z', Q, rfl, u0, v0, hmm, hpq, h0, h2, h4, h10, h11, rfl⟩ ih last
  have hlen := congrArg List.length hpq
  simp only [List.length_append] at hlen
  have pu : 0 < U'.length := List.length_pos_iff.2 u0
  have pv : 0 < Z'.length := List.length_pos_iff.2 v0
  have hDl : (A ++ (P ++ (U' ++ (Z' ++ (Q ++ B))))).length = C.length := by simp; omega
  have k1 := ws_ m U'.length (by omega) (by omega)
  by_cases he : U'.length = Z'.length
  ·have he' : (((U'.length : Nat) : Int) != ((Z'.length : Nat) : Int)) = false := by simp [he]
   repeat (first | refine WS.adm rfl ?_ | refine WS.region (by simp only [EV, TY, h10, h11, he', ↓reduceIte, Nat.reduceEqDiff]; with_reducible rfl) ?_)
   refine WS.cf0 ?_
   refine WS.exit rfl ?_
   refine last _ _ ⟨P, U', Z', Q, he, hmm, hpq, ?_, ?_, ?_, ?_, ?_, rfl⟩
   iterate 5 simp only [EV, h0, h2, h4, h10, h11, ↓reduceIte, Nat.reduceEqDiff, AT]
  ·have he' : (((U'.length : Nat) : Int) != ((Z'.length : Nat) : Int)) = true := bne_iff_ne.2 (by omega)
   by_cases hgt : Z'.length < U'.length
   ·have hgt' : ((Z'.length : Nat) : Int) < ((U'.length : Nat) : Int) := by omega
    obtain ⟨U1, U2, rfl, hu1⟩ : ∃ U1 U2, U' = U1 ++ U2 ∧ U1.length = Z'.length := ⟨U'.take Z'.length, U'.drop Z'.length, (List.take_append_drop _ _).symm, by simp; omega⟩
    simp only [List.length_append] at hgt pu hmm hlen k1
    have hD : A ++ (P ++ (U1 ++ U2 ++ (Z' ++ (Q ++ B)))) = (A ++ P) ++ (U1 ++ (U2 ++ (Z' ++ (Q ++ B)))) := by simp
    have hS := swapRange_ok (T := T.set id (.cells (fl (A ++ (P ++ (U1 ++ U2 ++ (Z' ++ (Q ++ B)))))) 96)) (id := id) (A ++ P) U1 U2 Z' (Q ++ B) hD (by simp [hid]) (by rw [hDl]; exact hN) hu1 fv (m - (U1 ++ U2).length) m Z'.length (by simp; omega) (by simp; omega) hu1.symm
    rw [hDl, List.set_set] at hS
    have k2 := ws_ (U1 ++ U2).length Z'.length (by simp; omega) (by simp; omega)
    have k1' : IntKind.i64.wrap ((m : Int) - (((U1 ++ U2).length : Nat) : Int)) = ((m - (U1 ++ U2).length : Nat) : Int) := ws_ m (U1 ++ U2).length (by simp; omega) (by omega)
    repeat (first | refine WS.adm rfl ?_ | refine WS.region (by simp only [EV, TY, h10, h11, he', hgt', ↓reduceIte, Nat.reduceEqDiff]; with_reducible rfl) ?_)
    refine WS.ct0 ?_
    repeat (first | refine WS.adm rfl ?_ | refine WS.region (by simp only [EV, TY, h10, h11, he', hgt', ↓reduceIte, Nat.reduceEqDiff]; with_reducible rfl) ?_)
    refine WS.ct0 ?_
    repeat (first | refine WS.adm rfl ?_ | refine WS.region (by simp only [EV, TY, h0, h2, h4, h10, h11, k1', callV_195, hS, k2, ↓reduceIte, Nat.reduceEqDiff]; with_reducible rfl) ?_)
    refine ih (U2.length + U1.length) _ _ (by simp; omega) ⟨P ++ Z', U2, U1, Q, rfl, ?_, ?_, by simp; omega, by rw [← hpq]; simp, ?_, ?_, ?_, ?_, ?_, by simp⟩
    ·intro h; subst h; simp at hgt; omega
    ·intro h; subst h; simp at hu1; omega
    iterate 3 simp only [EV, h0, h2, h4, ↓reduceIte, Nat.reduceEqDiff, AT]
    ·simp only [EV, ↓reduceIte, Nat.reduceEqDiff, AT]
     rw [show (U1 ++ U2).length - Z'.length = U2.length by simp; omega]
    ·simp only [EV, h11, ↓reduceIte, Nat.reduceEqDiff, AT]
     rw [hu1]
   ·have hgt' : ¬ ((Z'.length : Nat) : Int) < ((U'.length : Nat) : Int) := by omega
    obtain ⟨Z1, Z2, rfl, hv2⟩ : ∃ Z1 Z2, Z' = Z1 ++ Z2 ∧ Z2.length = U'.length := ⟨Z'.take (Z'.length - U'.length), Z'.drop (Z'.length - U'.length), (List.take_append_drop _ _).symm, by simp; omega⟩
    simp only [List.length_append] at hgt pv hlen he
    have hD : A ++ (P ++ (U' ++ (Z1 ++ Z2 ++ (Q ++ B)))) = (A ++ P) ++ (U' ++ (Z1 ++ (Z2 ++ (Q ++ B)))) := by simp
    have hS := swapRange_ok (T := T.set id (.cells (fl (A ++ (P ++ (U' ++ (Z1 ++ Z2 ++ (Q ++ B)))))) 96)) (id := id) (A ++ P) U' Z1 Z2 (Q ++ B) hD (by simp [hid]) (by rw [hDl]; exact hN) hv2.symm fv (m - U'.length) (m + (Z1 ++ Z2).length - U'.length) U'.length (by simp; omega) (by simp; omega) rfl
    rw [hDl, List.set_set] at hS
    have k2 := wa m (Z1 ++ Z2).length (by simp; omega)
    have k3 := ws_ (m + (Z1 ++ Z2).length) U'.length (by omega) (by simp; omega)
    have k4 := ws_ (Z1 ++ Z2).length U'.length (by simp; omega) (by simp; omega)
    repeat (first | refine WS.adm rfl ?_ | refine WS.region (by simp only [EV, TY, h10, h11, he', hgt', ↓reduceIte, Nat.reduceEqDiff]; with_reducible rfl) ?_)
    refine WS.ct0 ?_
    repeat (first | refine WS.adm rfl ?_ | refine WS.region (by simp only [EV, TY, h10, h11, he', hgt', ↓reduceIte, Nat.reduceEqDiff]; with_reducible rfl) ?_)
    refine WS.cf0 ?_
    repeat (first | refine WS.adm rfl ?_ | refine WS.region (by simp only [EV, TY, h0, h2, h4, h10, h11, k1, k2, k3, callV_195, hS, k4, ↓reduceIte, Nat.reduceEqDiff]; with_reducible rfl) ?_)
    refine ih (Z2.length + Z1.length) _ _ (by simp; omega) ⟨P, Z2, Z1, U' ++ Q, rfl, ?_, ?_, by omega, by rw [← hpq]; simp, ?_, ?_, ?_, ?_, ?_, by simp⟩
    ·intro h; subst h; simp at hv2; omega
    ·intro h; subst h; simp at he hgt; omega
    iterate 3 simp only [EV, h0, h2, h4, ↓reduceIte, Nat.reduceEqDiff, AT]
    ·simp only [EV, h10, ↓reduceIte, Nat.reduceEqDiff, AT]
     rw [hv2]
    ·simp only [EV, ↓reduceIte, Nat.reduceEqDiff, AT]
     rw [show (Z1 ++ Z2).length - U'.length = Z1.length by simp; omega]
end Go.Proofs.YtmmjlgocihhkcaaGreatDoor
