import Derived.Test.YtjcckafjopjdbaaDoorPartF
set_option linter.all false
namespace Go.Proofs.YtjcckafjopjdbaaDoor
open Go Go.Vm
set_option maxRecDepth 100000
set_option maxHeartbeats 4000000
set_option linter.unusedSimpArgs false
set_option linter.unusedVariables false
/-! ### a name that is being made, of which steps may be nil -/
abbrev QO := List (Option Nat × List Ava)
def cellO (x : Option Nat × List Ava) : V := match x.1 with | some p => .slR p 0 x.2.length x.2.length 2 | none => .slN
def inO (n0 : Nat) (S : Store) (x : Option Nat × List Ava) : Prop := match x.1 with | some p => n0 ≤ p ∧ S[p]? = some (.cells (fl x.2) 40) | none => x.2 = []
def InO (n0 : Nat) (S : Store) (q : QO) : Prop := ∀ x ∈ q, inO n0 S x
def namesO (q : QO) : List (List Ava) := q.map (·.2)
theorem inO.more {n0 : Nat} {S : Store} {x : Option Nat × List Ava} (h : inO n0 S x) (l : Store) : inO n0 (S ++ l) x := by
  obtain ⟨p, r⟩ := x
  cases p with
  | none => exact h
  | some p => exact ⟨h.1, get_more h.2 l⟩
theorem inO.set {n0 : Nat} {S : Store} {x : Option Nat × List Ava} (h : inO n0 S x) (p : Nat) (o : Ob) (hd : x.1 ≠ some p) : inO n0 (S.set p o) x := by
  obtain ⟨p', r⟩ := x
  cases p' with
  | none => exact h
  | some p' => exact ⟨h.1, get_set_ne h.2 (fun e => hd (by rw [e]))⟩
theorem InO.more {n0 : Nat} {S : Store} {q : QO} (h : InO n0 S q) (l : Store) : InO n0 (S ++ l) q := fun x hx => (h x hx).more l
theorem InO.set {n0 : Nat} {S : Store} {q : QO} (h : InO n0 S q) (p : Nat) (o : Ob) (hd : ∀ x ∈ q, x.1 ≠ some p) : InO n0 (S.set p o) q := fun x hx => (h x hx).set p o (hd x hx)
theorem InO.add {n0 : Nat} {S : Store} {q : QO} (h : InO n0 S q) {x : Option Nat × List Ava} (hx : inO n0 S x) : InO n0 S (q ++ [x]) := by
  intro y hy
  rcases List.mem_append.1 hy with h1 | h1
  · exact h y h1
  · rw [List.mem_singleton] at h1
    rw [h1]; exact hx
def doneC (x : Option Nat × List Ava) : V := match x.1 with | some _ => .slI x.2.length (fl x.2) | none => .slN
def doneO (q : QO) : V := .slI q.length (q.map doneC)
theorem doneO_isDn (S : Store) {n0 : Nat} {T : Store} {q : QO} (h : InO n0 T q) : isDn S (doneO q) (namesO q) := by
  refine ⟨q.map doneC, ⟨by simp [namesO], .inr (.inl (by simp [namesO, doneO]))⟩, fun i hi => ?_⟩
  have hi' : i < q.length := by simpa [namesO] using hi
  refine ⟨doneC q[i], by simp [hi'], ?_⟩
  have e : (namesO q).getD i [] = (q[i]).2 := by simp [namesO, List.getD, hi']
  rw [e]
  have hx := h q[i] (List.getElem_mem hi')
  generalize q[i] = x at hx
  obtain ⟨p, r⟩ := x
  cases p with
  | none =>
    have : r = [] := hx
    subst this
    exact ⟨rfl, .inl ⟨rfl, rfl⟩⟩
  | some p => exact ⟨flat_len _, .inr (.inl rfl)⟩
theorem frzIn_qo (d n0 : Nat) (S : Store) : ∀ q : QO, InO n0 S q → (q.map cellO).mapM (frzIn (d + 2) n0 S) = some (q.map doneC)
  | [], h => rfl
  | x :: q, h => by
    have h0 := h x (by simp)
    have ih := frzIn_qo d n0 S q (fun y hy => h y (by simp [hy]))
    have hx : frzIn (d + 2) n0 S (cellO x) = some (doneC x) := by
      obtain ⟨p, r⟩ := x
      cases p with
      | none => rfl
      | some p =>
        obtain ⟨h1, h2⟩ := h0
        simp only at h1 h2
        have hc : cellsAt S (.ref p 0) (r.length * 2) = some (fl r) := by
          have hl : (fl r).length = r.length * 2 := flat_len r
          generalize fl r = cs at h2 hl
          simp [cellsAt, cellsOf, h2, tk, ← hl]
        have hn : ¬ p < n0 := by omega
        show (if p < n0 then none else (cellsAt S (.ref p 0) (r.length * 2)).bind fun cs => (cs.mapM (frzIn (d + 1) n0 S)).bind fun cs => some (V.slI r.length cs)) = _
        rw [if_neg hn, hc, Option.bind_some, frzIn_strs, Option.bind_some]
        rfl
    rw [List.map_cons, List.mapM_cons, hx, ih]
    rfl
theorem madeO_frz {n0 : Nat} {S : Store} {q : QO} {o : Nat} (h : InO n0 S q) (h0 : n0 ≤ o) (ho : S[o]? = some (.cells (q.map cellO) 38)) :
    frz 6 n0 S (.slR o 0 q.length q.length 1) = some (doneO q) := by
  have hn : ¬ o < n0 := by omega
  have hc : cellsAt S (.ref o 0) (q.length * 1) = some (q.map cellO) := by
    simp [cellsAt, cellsOf, ho, tk, List.take_of_length_le]
  show (if o < n0 then some _ else frzIn 12 n0 S (.slR o 0 q.length q.length 1)) = _
  rw [if_neg hn]
  show (if o < n0 then none else (cellsAt S (.ref o 0) (q.length * 1)).bind fun cs => (cs.mapM (frzIn 11 n0 S)).bind fun cs => some (V.slI q.length cs)) = _
  rw [if_neg hn, hc, Option.bind_some, frzIn_qo 9 n0 S q h, Option.bind_some]
  rfl
structure St3 (n0 : Nat) (T : Store) (q : QO) (vn : V) (r : List Ava) (vr : V) : Prop where
  inn : InO n0 T q
  out : (q = [] ∧ vn = .slN) ∨ ∃ o, n0 ≤ o ∧ vn = .slR o 0 q.length q.length 1 ∧ T[o]? = some (.cells (q.map cellO) 38)
  stp : (r = [] ∧ vr = .slN) ∨ ∃ p, n0 ≤ p ∧ vr = .slR p 0 r.length r.length 2 ∧ T[p]? = some (.cells (fl r) 40) ∧ ∀ x ∈ q, x.1 ≠ some p
theorem St3.more {n0 : Nat} {T : Store} {q : QO} {vn : V} {r : List Ava} {vr : V} (h : St3 n0 T q vn r vr) (l : Store) : St3 n0 (T ++ l) q vn r vr := by
  refine ⟨h.inn.more l, ?_, ?_⟩
  · rcases h.out with h | ⟨o, o1, o2, o3⟩
    · exact .inl h
    · exact .inr ⟨o, o1, o2, get_more o3 l⟩
  · rcases h.stp with h | ⟨p, p1, p2, p3, p4⟩
    · exact .inl h
    · exact .inr ⟨p, p1, p2, get_more p3 l, p4⟩
theorem InO.fresh {n0 : Nat} {T : Store} {q : QO} (h : InO n0 T q) {p : Nat} (hp : T.length ≤ p) : ∀ x ∈ q, x.1 ≠ some p := by
  intro x hx he
  have h1 := h x hx
  obtain ⟨p', r⟩ := x
  simp only at he
  subst he
  have := lt_of_get h1.2
  omega
theorem St3.put {n0 : Nat} {T : Store} {q : QO} {vn : V} {r : List Ava} {vr : V} (h : St3 n0 T q vn r vr) (hn : n0 ≤ T.length) (a : Ava) (hr : r.length ≤ 1048576) :
    ∃ p', opBuildSlice E0 T 38 1 [(0, .agg [.str a.1, .str a.2])] = some (.slR T.length 0 1 1 2, T ++ [Ob.cells [.str a.1, .str a.2] 40]) ∧ ∃ T2, opAppend E0 (T ++ [Ob.cells [.str a.1, .str a.2] 40]) [38, 38] vr (.slR T.length 0 1 1 2) = some (.slR p' 0 (r.length + 1) (r.length + 1) 2, T2) ∧
      St3 n0 T2 q vn (r ++ [a]) (.slR p' 0 (r.length + 1) (r.length + 1) 2) ∧ Low n0 T T2 := by
  have hmk : opBuildSlice E0 T 38 1 [(0, .agg [.str a.1, .str a.2])] = some (.slR T.length 0 1 1 2, T ++ [Ob.cells [.str a.1, .str a.2] 40]) := ty38.mk1 T (.agg [.str a.1, .str a.2]) rfl rfl
  have hsc := sc_top [.str a.1, .str a.2] 1 (z := 2) rfl T (e := 40)
  obtain ⟨hi, hou, hst⟩ := h
  rcases hst with ⟨rfl, rfl⟩ | ⟨p, p1, rfl, p2, p3⟩
  · have happ := ty38.app0 hsc (fun s => by simp) rfl (by omega) (by omega) (by omega)
    refine ⟨_, hmk, _, happ, ⟨(hi.more _).more _, ?_, .inr ⟨T.length + 1, by omega, by simp, by simp [fl, avaC], hi.fresh (by omega)⟩⟩, (Low.app hn _).trans (Low.app (by simp; omega) _)⟩
    rcases hou with ⟨rfl, rfl⟩ | ⟨o, o1, rfl, o2⟩
    · exact .inl ⟨rfl, rfl⟩
    · exact .inr ⟨o, o1, rfl, get_more (get_more o2 _) _⟩
  · have hpl := lt_of_get p2
    have happ := ty38.app hsc (fun s => by simp) rfl (by omega) (get_more p2 _) (flat_len r) (by omega) (by omega)
    refine ⟨_, hmk, _, happ, ⟨((hi.more _).set _ _ p3).more _, ?_, .inr ⟨T.length + 1, by omega, by simp, by simp [fl, avaC], hi.fresh (by omega)⟩⟩, (Low.app hn _).trans ((Low.set (by simp; omega) p1).trans (Low.app (by simp; omega) _))⟩
    rcases hou with ⟨rfl, rfl⟩ | ⟨o, o1, rfl, o2⟩
    · exact .inl ⟨rfl, rfl⟩
    · exact .inr ⟨o, o1, rfl, get_more (get_set_ne (get_more o2 _) (ids_ne p2 o2)) _⟩
/-- The step is sorted. -/
theorem St3.sort {n0 : Nat} {T : Store} {q : QO} {vn : V} {r : List Ava} {vr : V} (h : St3 n0 T q vn r vr) (hn : n0 ≤ T.length) (hs : SortOk r.length) :
    ∃ T2, vrun E0 (.fn 35) [vr, .fn (.func 36) [] []] T = some (.tup [], T2) ∧ St3 n0 T2 q vn (srt r) vr ∧ Low n0 T T2 := by
  obtain ⟨hi, hou, hst⟩ := h
  rcases hst with ⟨rfl, rfl⟩ | ⟨p, p1, rfl, p2, p3⟩
  · exact ⟨T, sortN_ok T _, ⟨hi, hou, .inl ⟨rfl, rfl⟩⟩, Low.refl hn⟩
  · refine ⟨_, hs T p r p2 rfl _ cmp36, ⟨hi.set _ _ p3, ?_, .inr ⟨p, p1, by rw [srt_len], by simp [lt_of_get p2], p3⟩⟩, Low.set hn p1⟩
    rcases hou with ⟨rfl, rfl⟩ | ⟨o, o1, rfl, o2⟩
    · exact .inl ⟨rfl, rfl⟩
    · exact .inr ⟨o, o1, rfl, get_set_ne o2 (ids_ne p2 o2)⟩
theorem St3.push {n0 : Nat} {T : Store} {q : QO} {vn : V} {r : List Ava} {vr : V} (h : St3 n0 T q vn r vr) (hn : n0 ≤ T.length) (hq : q.length ≤ 1048576) :
    ∃ T1 T2 y o' x, opBuildSlice E0 T 24 1 [(0, vr)] = some (y, T1) ∧ opAppend E0 T1 [24, 24] vn y = some (.slR o' 0 (q.length + 1) (q.length + 1) 1, T2) ∧
      St3 n0 T2 (q ++ [(x, r)]) (.slR o' 0 (q.length + 1) (q.length + 1) 1) [] .slN ∧ Low n0 T T2 := by
  obtain ⟨hi, hou, hst⟩ := h
  obtain ⟨x, hx, hc, hso⟩ : ∃ x, inO n0 T (x, r) ∧ vr = cellO (x, r) ∧ (solid vr = true ∧ vcells vr = [vr]) := by
    rcases hst with ⟨rfl, rfl⟩ | ⟨p, h1, rfl, h3, h4⟩
    · exact ⟨none, rfl, rfl, rfl, rfl⟩
    · exact ⟨some p, ⟨h1, h3⟩, rfl, rfl, rfl⟩
  have hmk : opBuildSlice E0 T 24 1 [(0, vr)] = some (.slR T.length 0 1 1 1, T ++ [Ob.cells [vr] 38]) := by
    have := ty24.mk1 T vr hso.1 (by rw [hso.2]; rfl)
    rw [hso.2] at this
    exact this
  have hsc := sc_top [vr] 1 (z := 1) rfl T (e := 38)
  have hadd : InO n0 T (q ++ [(x, r)]) := hi.add hx
  rcases hou with ⟨rfl, rfl⟩ | ⟨o, o1, rfl, o2⟩
  · have happ := ty24.app0 hsc (fun s => by simp) rfl (by omega) (by omega) (by omega)
    exact ⟨_, _, _, _, x, hmk, happ, ⟨(hadd.more _).more _, .inr ⟨T.length + 1, by omega, by simp, by simp [hc]⟩, .inl ⟨rfl, rfl⟩⟩, (Low.app hn _).trans (Low.app (by simp; omega) _)⟩
  · have happ := ty24.app (m := q.length) hsc (fun s => by simp) rfl (by omega) (get_more o2 _) (by simp) (by omega) (by omega)
    have hno : ∀ y ∈ q ++ [(x, r)], y.1 ≠ some o := by
      intro y hy he
      have h1 := hadd y hy
      obtain ⟨p, r'⟩ := y
      simp only at he
      subst he
      exact ids_ne h1.2 o2 rfl
    refine ⟨_, _, _, _, x, hmk, happ, ⟨((hadd.more _).set _ _ hno).more _, .inr ⟨T.length + 1, by omega, by simp, by simp [hc]⟩, .inl ⟨rfl, rfl⟩⟩, (Low.app hn _).trans ((Low.set (by simp; omega) o1).trans (Low.app (by simp; omega) _))⟩
theorem load_pre {S U : Store} (h : S <+: U) {t : TypeId} (hg : isAggO E0 t = some false) {a c : V} (hl : opLoad E0 S t a = some c) : opLoad E0 U t a = some c := by
  obtain ⟨L, rfl⟩ := h
  cases a with
  | ref id off =>
    rw [ld_ref hg] at hl ⊢
    cases hS : S[id]? with
    | none => simp [cellsOf, hS] at hl
    | some o =>
      have : cellsOf (S ++ L) id = cellsOf S id := by simp [cellsOf, hS, get_more hS L]
      rw [this]; exact hl
  | imm cs => exact hl
  | _ => simp [opLoad, cellsAt, hg] at hl
theorem isRdn.pre {S U : Store} (h : S <+: U) {v : V} {r : List Ava} (hr : isRdn S v r) : isRdn U v r := by
  obtain ⟨L, rfl⟩ := h
  exact hr.more L
theorem isDn.pre {S U : Store} (h : S <+: U) {v : V} {n : List (List Ava)} (hr : isDn S v n) : isDn U v n := by
  obtain ⟨L, rfl⟩ := h
  exact hr.more L
/-! ### Norm -/
def normA (a : Ava) : Ava := (smallS a.1, foldS a.2)
def normR (r : List Ava) : List Ava := srt (r.map normA)
def normN (n : List (List Ava)) : List (List Ava) := n.map normR
theorem tb7 : Nat.testBit 254 2 = true := rfl
theorem tb8 : Nat.testBit 254 5 = true := rfl
theorem tb9 : Nat.testBit 511 2 = true := rfl
theorem tb10 : Nat.testBit 511 5 = true := rfl
theorem fr_agg (S : Store) (t : TypeId) (cs : List V) (x y : List UInt8) (id : Nat) (h : S[id]? = some (.cells [.str x, .str y] t)) : (∃ a, opFieldAddr E0 40 (.ref id 0) 0 = some a ∧ opLoad E0 S 9 a = some (.str x)) ∧ ∃ a, opFieldAddr E0 40 (.ref id 0) 1 = some a ∧ opLoad E0 S 9 a = some (.str y) := by
  have at_ : At S (.ref id 0) (.str x :: .str y :: []) := .inr ⟨id, 0, _, t, rfl, h, rfl⟩
  exact ⟨ava_type at_, ava_value at_⟩
theorem Norm_ok {S : Store} {v : V} {n : List (List Ava)} (hn : isDn S v n) (on : okN n) (hs : ∀ r ∈ n, SortOk r.length) : ∃ w, vrun E0 (.fn 18) [v] S = some (w, S) ∧ ∀ S', isDn S' w (normN n) := by
  suffices h : ∃ r, (∃ w, r = (w, S) ∧ ∀ S', isDn S' w (normN n)) ∧ vrun E0 (.fn 18) [v] S = some r by
    obtain ⟨r, ⟨w, rfl, h2⟩, h3⟩ := h
    exact ⟨w, h3, h2⟩
  refine fn_wsP Tryd.func18 rfl ?_
  have ln := hn.len
  repeat (first | refine WS.seq ?_ | refine WS.skip ?_ | refine WS.label ?_ | refine WS.block ?_ | refine WS.inBlock ?_ | refine WS.exit rfl ?_ | refine WS.scope ?_ | refine WS.inScope ?_ | refine WS.region (by simp only [EV, TY, lget, ln, ↓reduceIte, Nat.reduceEqDiff, decide_true, decide_false, eq_self]; with_reducible rfl) ?_)
  refine WS.loopB (fun j fr T => ∃ i q vn, j = n.length - i ∧ i ≤ n.length ∧ q.length = i ∧ lget fr 3 = vn ∧ lget fr 9 = v ∧ lget fr 10 = .int .i64 (n.length : Nat) ∧ lget fr 11 = .int .i64 (i : Nat) ∧ St3 S.length T q vn [] .slN ∧ Low S.length S T ∧ namesO q = (n.take i).map normR)
    (fun fr T => ∃ q vn, lget fr 3 = vn ∧ St3 S.length T q vn [] .slN ∧ Low S.length S T ∧ namesO q = normN n) (j := n.length) ?_ ?_ ?_
  · refine ⟨0, [], .slN, by omega, by omega, rfl, ?_, ?_, ?_, ?_, ⟨fun x hx => by simp at hx, .inl ⟨rfl, rfl⟩, .inl ⟨rfl, rfl⟩⟩, Low.refl (Nat.le_refl _), by simp [namesO]⟩
    all_goals
      simp only [EV, lget, ↓reduceIte, Nat.reduceEqDiff, decide_true, decide_false, eq_self, and_true, true_and, and_self]
      try rfl
  · rintro fr T ⟨q, vn, h3, hst, hlow, hnm⟩
    rcases hst.out with ⟨rfl, rfl⟩ | ⟨o, o1, rfl, o2⟩
    · repeat (first | refine WS.seq ?_ | refine WS.skip ?_ | refine WS.label ?_ | refine WS.block ?_ | refine WS.inBlock ?_ | refine WS.exit rfl ?_ | refine WS.scope ?_ | refine WS.inScope ?_ | refine WS.region (by simp only [EV, TY, h3, ↓reduceIte, Nat.reduceEqDiff, decide_true, decide_false, eq_self]; with_reducible rfl) ?_)
      refine WS.ret1P (t := 2) rfl rfl ?_ hlow.pre (v := .slN) (v' := .slN) rfl ⟨.slN, rfl, fun S' => ?_⟩
      · simp only [EV, ↓reduceIte, Nat.reduceEqDiff, decide_true, decide_false, eq_self, and_true, true_and, and_self]
      · rw [← hnm]; exact nil_isDn S'
    · repeat (first | refine WS.seq ?_ | refine WS.skip ?_ | refine WS.label ?_ | refine WS.block ?_ | refine WS.inBlock ?_ | refine WS.exit rfl ?_ | refine WS.scope ?_ | refine WS.inScope ?_ | refine WS.region (by simp only [EV, TY, h3, ↓reduceIte, Nat.reduceEqDiff, decide_true, decide_false, eq_self]; with_reducible rfl) ?_)
      refine WS.ret1P (t := 2) rfl rfl ?_ hlow.pre (madeO_frz hst.inn o1 o2) ⟨doneO q, rfl, fun S' => ?_⟩
      · simp only [EV, ↓reduceIte, Nat.reduceEqDiff, decide_true, decide_false, eq_self, and_true, true_and, and_self]
      · rw [← hnm]; exact doneO_isDn S' hst.inn
  · rintro j fr T ⟨i, q, vn, rfl, hi, hq, h3, h9, h10, h11, hst, hlow, hnm⟩ ih last
    by_cases hlt : i < n.length
    · have hlt' : ((i : Nat) : Int) < ((n.length : Nat) : Int) := by omega
      obtain ⟨a, c, i1, i2, i3⟩ := hn.at_ i hlt
      have oka := on.at_ i hlt
      have hsr : SortOk (n.getD i []).length := by
        have e : n.getD i [] = n[i] := by simp [List.getD, hlt]
        rw [e]; exact hs _ (List.getElem_mem hlt)
      have htk : (n.take (i + 1)).map normR = (n.take i).map normR ++ [normR (n.getD i [])] := by
        rw [List.take_succ_eq_append_getElem hlt, List.map_append]
        rw [show n.getD i [] = n[i] by simp [List.getD, hlt]]
        rfl
      generalize n.getD i [] = r at i3 oka hsr htk
      have i2T := load_pre hlow.pre isAggO_38 i2
      have lr := (i3.pre hlow.pre).len
      have iinc := wrap_inc i (by have := on.1; omega)
      repeat (first | refine WS.seq ?_ | refine WS.skip ?_ | refine WS.label ?_ | refine WS.block ?_ | refine WS.inBlock ?_ | refine WS.exit rfl ?_ | refine WS.scope ?_ | refine WS.inScope ?_ | refine WS.region (by simp only [EV, TY, h9, h10, h11, hlt', i1, i2T, lr, ↓reduceIte, Nat.reduceEqDiff, decide_true, decide_false, eq_self]; with_reducible rfl) ?_)
      refine WS.cond_true (by simp only [EV, ↓reduceIte, Nat.reduceEqDiff, decide_true, decide_false, eq_self]) ?_
      repeat (first | refine WS.seq ?_ | refine WS.skip ?_ | refine WS.label ?_ | refine WS.block ?_ | refine WS.inBlock ?_ | refine WS.exit rfl ?_ | refine WS.scope ?_ | refine WS.inScope ?_ | refine WS.region (by simp only [EV, TY, h9, h10, h11, hlt', i1, i2T, lr, ↓reduceIte, Nat.reduceEqDiff, decide_true, decide_false, eq_self]; with_reducible rfl) ?_)
      refine WS.loopB (fun j fr U => ∃ m vr, j = r.length - m ∧ m ≤ r.length ∧ lget fr 3 = vn ∧ lget fr 6 = vr ∧ lget fr 9 = v ∧ lget fr 10 = .int .i64 (n.length : Nat) ∧ lget fr 11 = .int .i64 (i : Nat) ∧ lget fr 15 = c ∧ lget fr 16 = .int .i64 (r.length : Nat) ∧ lget fr 17 = .int .i64 (m : Nat) ∧ St3 S.length U q vn ((r.take m).map normA) vr ∧ Low S.length S U)
        (fun fr U => ∃ vr, lget fr 3 = vn ∧ lget fr 6 = vr ∧ lget fr 9 = v ∧ lget fr 10 = .int .i64 (n.length : Nat) ∧ lget fr 11 = .int .i64 (i : Nat) ∧ St3 S.length U q vn (r.map normA) vr ∧ Low S.length S U) (j := r.length) ?_ ?_ ?_
      · refine ⟨0, .slN, by omega, by omega, ?_, ?_, ?_, ?_, ?_, ?_, ?_, ?_, by simpa using hst, hlow⟩
        all_goals
          simp only [EV, h3, h9, h10, h11, ↓reduceIte, Nat.reduceEqDiff, decide_true, decide_false, eq_self, and_true, true_and, and_self]
          try rfl
      · rintro fr U ⟨vr, h3, h6, h9, h10, h11, hst, hlow⟩
        obtain ⟨U2, s1, s2, s3⟩ := hst.sort hlow.1 (by rw [List.length_map]; exact hsr)
        obtain ⟨U3, U4, y, o', x, p1, p2, p3, p4⟩ := s2.push (hlow.trans s3).1 (by have := on.1; omega)
        repeat (first | refine WS.seq ?_ | refine WS.skip ?_ | refine WS.label ?_ | refine WS.block ?_ | refine WS.inBlock ?_ | refine WS.exit rfl ?_ | refine WS.scope ?_ | refine WS.inScope ?_ | refine WS.region (by simp only [EV, TY, h6, callV_35, s1, h3, p1, p2, h11, iinc, ↓reduceIte, Nat.reduceEqDiff, decide_true, decide_false, eq_self]; with_reducible rfl) ?_)
        refine ih (n.length - (i + 1)) _ _ (by omega) ⟨i + 1, q ++ [(x, srt (r.map normA))], .slR o' 0 (q.length + 1) (q.length + 1) 1, rfl, by omega, by simp [hq], ?_, ?_, ?_, ?_, p3, (hlow.trans s3).trans p4, ?_⟩
        · simp only [EV, ↓reduceIte, Nat.reduceEqDiff, decide_true, decide_false, eq_self, and_true, true_and, and_self]
        · simp only [EV, h9, ↓reduceIte, Nat.reduceEqDiff, decide_true, decide_false, eq_self, and_true, true_and, and_self]
        · simp only [EV, h10, ↓reduceIte, Nat.reduceEqDiff, decide_true, decide_false, eq_self, and_true, true_and, and_self]
        · simp only [EV, ↓reduceIte, Nat.reduceEqDiff, decide_true, decide_false, eq_self, and_true, true_and, and_self]
        · rw [htk, ← hnm]; simp [namesO, normR]
      · rintro j fr U ⟨m, vr, rfl, hm, h3, h6, h9, h10, h11, h15, h16, h17, hst, hlow⟩ ihm lastm
        by_cases hmlt : m < r.length
        · have hmlt' : ((m : Nat) : Int) < ((r.length : Nat) : Int) := by omega
          obtain ⟨qa, j1, ta, j2⟩ := (i3.pre hlow.pre).at_ m hmlt
          have j3 := ava_load j2
          have oka' := oka.at_ m hmlt
          have htm : (r.take (m + 1)).map normA = (r.take m).map normA ++ [normA (r.getD m ([], []))] := by
            rw [List.take_succ_eq_append_getElem hmlt, List.map_append]
            rw [show r.getD m ([], []) = r[m] by simp [List.getD, hmlt]]
            rfl
          generalize r.getD m ([], []) = x at j3 oka' htm
          have hal := alloc_40 U
          have hsto := st_40 U [.str [], .str []] rfl x.1 x.2
          generalize hW : U ++ [Ob.cells [V.str x.1, V.str x.2] 40] = W at hsto
          have hlowW : Low S.length S W := by rw [← hW]; exact hlow.trans (Low.app hlow.1 _)
          have hstW : St3 S.length W q vn ((r.take m).map normA) vr := by rw [← hW]; exact hst.more _
          have hcell : W[U.length]? = some (.cells [V.str x.1, V.str x.2] 40) := by rw [← hW]; simp
          obtain ⟨⟨fa, fa1, fa2⟩, ⟨fb, fb1, fb2⟩⟩ := fr_agg W 40 [] x.1 x.2 U.length hcell
          have sm := small_ok x.1 W oka'.1
          have fo := Fold_ok x.2 W oka'.2
          have hb40 := build_40 (smallS x.1) (foldS x.2)
          obtain ⟨p', g1, T2, g2, g3, g4⟩ := hstW.put hlowW.1 (normA x) (by rw [List.length_map, List.length_take]; have := oka.1; omega)
          have hlen : ((r.take m).map normA).length = m := by rw [List.length_map, List.length_take]; omega
          rw [hlen] at g2 g3
          unfold normA at g1 g2
          simp only at g1 g2
          have minc := wrap_inc m (by have := oka.1; omega)
          repeat (first | refine WS.seq ?_ | refine WS.skip ?_ | refine WS.label ?_ | refine WS.block ?_ | refine WS.inBlock ?_ | refine WS.exit rfl ?_ | refine WS.scope ?_ | refine WS.inScope ?_ | refine WS.region (by simp only [EV, TY, h15, h16, h17, hmlt', ↓reduceIte, Nat.reduceEqDiff, decide_true, decide_false, eq_self]; with_reducible rfl) ?_)
          refine WS.cond_true (by simp only [EV, ↓reduceIte, Nat.reduceEqDiff, decide_true, decide_false, eq_self]) ?_
          repeat (first | refine WS.seq ?_ | refine WS.skip ?_ | refine WS.label ?_ | refine WS.block ?_ | refine WS.inBlock ?_ | refine WS.exit rfl ?_ | refine WS.scope ?_ | refine WS.inScope ?_ | refine WS.region (by simp only [EV, TY, h15, h17, j1, j3, hal, hsto, ↓reduceIte, Nat.reduceEqDiff, decide_true, decide_false, eq_self]; with_reducible rfl) ?_)
          refine WS.drawb (b := [0, 0, 2, 6, 0, 16, 62, 126, 254, 511, 1023]) (by kernel_rfl) (by simp only [evDraw_nil, evDraw_plain, isEff, isRead, List.all_nil, List.all_cons, Bool.or_true, Bool.true_or, Bool.and_self, Bool.and_true, V.beq_refl, List.getD_cons_zero, List.getD_cons_succ, Nat.reduceAdd, EV, TY,  h6, fa1, fa2, fb1, fb2, callV_34, callV_17, sm, fo, hb40, g1, g2, tb7, tb8, tb9, tb10, ↓reduceIte, Nat.reduceEqDiff, decide_true, decide_false, eq_self]; with_reducible rfl) ?_
          repeat (first | refine WS.seq ?_ | refine WS.skip ?_ | refine WS.label ?_ | refine WS.block ?_ | refine WS.inBlock ?_ | refine WS.exit rfl ?_ | refine WS.scope ?_ | refine WS.inScope ?_ | refine WS.region (by simp only [EV, TY, h17, minc, ↓reduceIte, Nat.reduceEqDiff, decide_true, decide_false, eq_self]; with_reducible rfl) ?_)
          refine ihm (r.length - (m + 1)) _ _ (by omega) ⟨m + 1, .slR p' 0 (m + 1) (m + 1) 2, rfl, by omega, ?_, ?_, ?_, ?_, ?_, ?_, ?_, ?_, by rw [htm]; exact g3, hlowW.trans g4⟩
          · simp only [EV, h3, ↓reduceIte, Nat.reduceEqDiff, decide_true, decide_false, eq_self, and_true, true_and, and_self]
          · simp only [EV, ↓reduceIte, Nat.reduceEqDiff, decide_true, decide_false, eq_self, and_true, true_and, and_self]
          · simp only [EV, h9, ↓reduceIte, Nat.reduceEqDiff, decide_true, decide_false, eq_self, and_true, true_and, and_self]
          · simp only [EV, h10, ↓reduceIte, Nat.reduceEqDiff, decide_true, decide_false, eq_self, and_true, true_and, and_self]
          · simp only [EV, h11, ↓reduceIte, Nat.reduceEqDiff, decide_true, decide_false, eq_self, and_true, true_and, and_self]
          · simp only [EV, h15, ↓reduceIte, Nat.reduceEqDiff, decide_true, decide_false, eq_self, and_true, true_and, and_self]
          · simp only [EV, h16, ↓reduceIte, Nat.reduceEqDiff, decide_true, decide_false, eq_self, and_true, true_and, and_self]
          · simp only [EV, ↓reduceIte, Nat.reduceEqDiff, decide_true, decide_false, eq_self, and_true, true_and, and_self]
        · have hmlt' : ¬ ((m : Nat) : Int) < ((r.length : Nat) : Int) := by omega
          repeat (first | refine WS.seq ?_ | refine WS.skip ?_ | refine WS.label ?_ | refine WS.block ?_ | refine WS.inBlock ?_ | refine WS.exit rfl ?_ | refine WS.scope ?_ | refine WS.inScope ?_ | refine WS.region (by simp only [EV, TY, h15, h16, h17, hmlt', ↓reduceIte, Nat.reduceEqDiff, decide_true, decide_false, eq_self]; with_reducible rfl) ?_)
          refine WS.cond_false (by simp only [EV, ↓reduceIte, Nat.reduceEqDiff, decide_true, decide_false, eq_self]) ?_
          refine WS.exit rfl ?_
          have : m = r.length := by omega
          subst this
          rw [List.take_length] at hst
          refine lastm _ _ ⟨vr, ?_, ?_, ?_, ?_, ?_, hst, hlow⟩
          · simp only [EV, h3, ↓reduceIte, Nat.reduceEqDiff, decide_true, decide_false, eq_self, and_true, true_and, and_self]
          · simp only [EV, h6, ↓reduceIte, Nat.reduceEqDiff, decide_true, decide_false, eq_self, and_true, true_and, and_self]
          · simp only [EV, h9, ↓reduceIte, Nat.reduceEqDiff, decide_true, decide_false, eq_self, and_true, true_and, and_self]
          · simp only [EV, h10, ↓reduceIte, Nat.reduceEqDiff, decide_true, decide_false, eq_self, and_true, true_and, and_self]
          · simp only [EV, h11, ↓reduceIte, Nat.reduceEqDiff, decide_true, decide_false, eq_self, and_true, true_and, and_self]
    · have hlt' : ¬ ((i : Nat) : Int) < ((n.length : Nat) : Int) := by omega
      repeat (first | refine WS.seq ?_ | refine WS.skip ?_ | refine WS.label ?_ | refine WS.block ?_ | refine WS.inBlock ?_ | refine WS.exit rfl ?_ | refine WS.scope ?_ | refine WS.inScope ?_ | refine WS.region (by simp only [EV, TY, h9, h10, h11, hlt', ↓reduceIte, Nat.reduceEqDiff, decide_true, decide_false, eq_self]; with_reducible rfl) ?_)
      refine WS.cond_false (by simp only [EV, ↓reduceIte, Nat.reduceEqDiff, decide_true, decide_false, eq_self]) ?_
      refine WS.exit rfl ?_
      have : i = n.length := by omega
      subst this
      rw [List.take_length] at hnm
      refine last _ _ ⟨q, vn, ?_, hst, hlow, hnm⟩
      simp only [EV, h3, ↓reduceIte, Nat.reduceEqDiff, decide_true, decide_false, eq_self, and_true, true_and, and_self]
end Go.Proofs.YtjcckafjopjdbaaDoor
namespace Go.Proofs.YtjcckafjopjdbaaDoor
open Go Go.Vm
set_option maxRecDepth 100000
set_option maxHeartbeats 4000000
set_option linter.unusedSimpArgs false
set_option linter.unusedVariables false
theorem Equal_ok {S : Store} {v w : V} {a b : List Ava} (ha : isRdn S v a) (hb : isRdn S w b) (la : a.length ≤ 1048576) : vrun E0 (.fn 32) [v, w] S = some (.bool (decide (a = b)), S) := by
  refine fn_ws Tryd.func32 rfl ?_
  have ea := ha.len
  have eb := hb.len
  by_cases hl : a.length = b.length
  · have hne : (((a.length : Nat) : Int) != ((b.length : Nat) : Int)) = false := by simp [hl]
    repeat (first | refine WS.seq ?_ | refine WS.skip ?_ | refine WS.label ?_ | refine WS.block ?_ | refine WS.inBlock ?_ | refine WS.exit rfl ?_ | refine WS.scope ?_ | refine WS.inScope ?_ | refine WS.region (by simp only [EV, TY, lget, ea, eb, hne, ↓reduceIte, Nat.reduceEqDiff, decide_true, decide_false, eq_self]; with_reducible rfl) ?_)
    refine WS.cond_false (by simp only [EV, lget, ↓reduceIte, Nat.reduceEqDiff, decide_true, decide_false, eq_self]) ?_
    repeat (first | refine WS.seq ?_ | refine WS.skip ?_ | refine WS.label ?_ | refine WS.block ?_ | refine WS.inBlock ?_ | refine WS.exit rfl ?_ | refine WS.scope ?_ | refine WS.inScope ?_ | refine WS.region (by simp only [EV, TY, lget, ea, ↓reduceIte, Nat.reduceEqDiff, decide_true, decide_false, eq_self]; with_reducible rfl) ?_)
    refine WS.loopB (fun j fr S' => ∃ i, j = a.length - i ∧ i ≤ a.length ∧ lget fr 0 = v ∧ lget fr 1 = w ∧ lget fr 12 = .int .i64 (a.length : Nat) ∧ lget fr 13 = .int .i64 (i : Nat) ∧ S = S' ∧ ∀ k, k < i → a.getD k ([], []) = b.getD k ([], []))
      (fun fr S' => S = S' ∧ ∀ k, k < a.length → a.getD k ([], []) = b.getD k ([], [])) (j := a.length) ?_ ?_ ?_
    · refine ⟨0, by omega, by omega, ?_, ?_, ?_, ?_, rfl, fun k hk => by omega⟩
      all_goals
        simp only [EV, lget, ↓reduceIte, Nat.reduceEqDiff, decide_true, decide_false, eq_self, and_true, true_and, and_self]
        try rfl
    · rintro fr S' ⟨rfl, hall⟩
      repeat (first | refine WS.seq ?_ | refine WS.skip ?_ | refine WS.label ?_ | refine WS.block ?_ | refine WS.inBlock ?_ | refine WS.exit rfl ?_ | refine WS.scope ?_ | refine WS.inScope ?_ | refine WS.region (by simp only [EV, TY, lget, ↓reduceIte, Nat.reduceEqDiff, decide_true, decide_false, eq_self]; with_reducible rfl) ?_)
      refine ret_bool (t := 4) rfl rfl (List.prefix_refl _) (decide_eq_true (ext_getD _ hl hall)) ?_
      simp only [EV, ↓reduceIte, Nat.reduceEqDiff, decide_true, decide_false, eq_self, and_true, true_and, and_self]
    · rintro j fr S' ⟨i, rfl, hi, h0, h1, h12, h13, hSS, hall⟩ ih last
      subst hSS
      by_cases hlt : i < a.length
      · have hlt' : ((i : Nat) : Int) < ((a.length : Nat) : Int) := by omega
        obtain ⟨qa, ja1, ta, ja2⟩ := ha.at_ i hlt
        obtain ⟨qb, jb1, tb, jb2⟩ := hb.at_ i (by omega)
        have ja3 := ava_load ja2
        have jb3 := ava_load jb2
        have bad : a.getD i ([], []) ≠ b.getD i ([], []) → a ≠ b := ne_getD _ i
        have hx : ∀ x y, a.getD i ([], []) = x → b.getD i ([], []) = y → x = y → a.getD i ([], []) = b.getD i ([], []) := fun x y h1 h2 h3 => by rw [h1, h2, h3]
        generalize hxa : a.getD i ([], []) = xa at ja3 bad hx
        generalize hxb : b.getD i ([], []) = xb at jb3 bad hx
        have hneq := fun l => ava_neq l xa.1 xa.2 xb.1 xb.2
        repeat (first | refine WS.seq ?_ | refine WS.skip ?_ | refine WS.label ?_ | refine WS.block ?_ | refine WS.inBlock ?_ | refine WS.exit rfl ?_ | refine WS.scope ?_ | refine WS.inScope ?_ | refine WS.region (by simp only [EV, TY, h12, h13, hlt', ↓reduceIte, Nat.reduceEqDiff, decide_true, decide_false, eq_self]; with_reducible rfl) ?_)
        refine WS.cond_true (by simp only [EV, ↓reduceIte, Nat.reduceEqDiff, decide_true, decide_false, eq_self]) ?_
        repeat (first | refine WS.seq ?_ | refine WS.skip ?_ | refine WS.label ?_ | refine WS.block ?_ | refine WS.inBlock ?_ | refine WS.exit rfl ?_ | refine WS.scope ?_ | refine WS.inScope ?_ | refine WS.region (by simp only [EV, TY, h13, ↓reduceIte, Nat.reduceEqDiff, decide_true, decide_false, eq_self]; with_reducible rfl) ?_)
        by_cases he : xa = xb
        · have hb' : (!((xa.1 == xb.1) && (xa.2 == xb.2))) = false := by simp [he]
          have hinc := wrap_inc i (by omega)
          refine WS.draw (by simp only [evDraw_nil, evDraw_plain, isEff, isRead, List.all_nil, List.all_cons, Bool.or_true, Bool.and_self, Bool.and_true, V.beq_refl, EV, TY, h0, h1, h13, ja1, ja3, jb1, jb3, hneq, hb', ↓reduceIte, Nat.reduceEqDiff, decide_true, decide_false, eq_self]; with_reducible rfl) ?_
          refine WS.cond_false (by simp only [EV, ↓reduceIte, Nat.reduceEqDiff, decide_true, decide_false, eq_self]) ?_
          repeat (first | refine WS.seq ?_ | refine WS.skip ?_ | refine WS.label ?_ | refine WS.block ?_ | refine WS.inBlock ?_ | refine WS.exit rfl ?_ | refine WS.scope ?_ | refine WS.inScope ?_ | refine WS.region (by simp only [EV, TY, h13, hinc, ↓reduceIte, Nat.reduceEqDiff, decide_true, decide_false, eq_self]; with_reducible rfl) ?_)
          refine ih (a.length - (i + 1)) _ _ (by omega) ⟨i + 1, rfl, by omega, ?_, ?_, ?_, ?_, rfl, fun k hk => ?_⟩
          · simp only [EV, h0, ↓reduceIte, Nat.reduceEqDiff, decide_true, decide_false, eq_self, and_true, true_and, and_self]
          · simp only [EV, h1, ↓reduceIte, Nat.reduceEqDiff, decide_true, decide_false, eq_self, and_true, true_and, and_self]
          · simp only [EV, h12, ↓reduceIte, Nat.reduceEqDiff, decide_true, decide_false, eq_self, and_true, true_and, and_self]
          · simp only [EV, ↓reduceIte, Nat.reduceEqDiff, decide_true, decide_false, eq_self, and_true, true_and, and_self]
          · rcases Nat.lt_or_ge k i with h | h
            · exact hall k h
            · obtain rfl : k = i := by omega
              rw [hxa, hxb]; exact he
        · have hb' : (!((xa.1 == xb.1) && (xa.2 == xb.2))) = true := by
            obtain ⟨x1, x2⟩ := xa
            obtain ⟨y1, y2⟩ := xb
            simp at he ⊢
            exact Classical.not_and_iff_not_or_not.1 (fun h => he h.1 h.2)
          refine WS.draw (by simp only [evDraw_nil, evDraw_plain, isEff, isRead, List.all_nil, List.all_cons, Bool.or_true, Bool.and_self, Bool.and_true, V.beq_refl, EV, TY, h0, h1, h13, ja1, ja3, jb1, jb3, hneq, hb', ↓reduceIte, Nat.reduceEqDiff, decide_true, decide_false, eq_self]; with_reducible rfl) ?_
          refine WS.cond_true (by simp only [EV, ↓reduceIte, Nat.reduceEqDiff, decide_true, decide_false, eq_self]) ?_
          repeat (first | refine WS.seq ?_ | refine WS.skip ?_ | refine WS.label ?_ | refine WS.block ?_ | refine WS.inBlock ?_ | refine WS.exit rfl ?_ | refine WS.scope ?_ | refine WS.inScope ?_ | refine WS.region (by simp only [EV, TY, ↓reduceIte, Nat.reduceEqDiff, decide_true, decide_false, eq_self]; with_reducible rfl) ?_)
          refine ret_bool (t := 4) rfl rfl (List.prefix_refl _) (decide_eq_false (bad he)) ?_
          simp only [EV, ↓reduceIte, Nat.reduceEqDiff, decide_true, decide_false, eq_self, and_true, true_and, and_self]
      · have hlt' : ¬ ((i : Nat) : Int) < ((a.length : Nat) : Int) := by omega
        repeat (first | refine WS.seq ?_ | refine WS.skip ?_ | refine WS.label ?_ | refine WS.block ?_ | refine WS.inBlock ?_ | refine WS.exit rfl ?_ | refine WS.scope ?_ | refine WS.inScope ?_ | refine WS.region (by simp only [EV, TY, h12, h13, hlt', ↓reduceIte, Nat.reduceEqDiff, decide_true, decide_false, eq_self]; with_reducible rfl) ?_)
        refine WS.cond_false (by simp only [EV, ↓reduceIte, Nat.reduceEqDiff, decide_true, decide_false, eq_self]) ?_
        refine WS.exit rfl ?_
        have : i = a.length := by omega
        subst this
        exact last _ _ ⟨rfl, hall⟩
  · have hne : (((a.length : Nat) : Int) != ((b.length : Nat) : Int)) = true := bne_iff_ne.2 (by omega)
    repeat (first | refine WS.seq ?_ | refine WS.skip ?_ | refine WS.label ?_ | refine WS.block ?_ | refine WS.inBlock ?_ | refine WS.exit rfl ?_ | refine WS.scope ?_ | refine WS.inScope ?_ | refine WS.region (by simp only [EV, TY, lget, ea, eb, hne, ↓reduceIte, Nat.reduceEqDiff, decide_true, decide_false, eq_self]; with_reducible rfl) ?_)
    refine WS.cond_true (by simp only [EV, lget, ↓reduceIte, Nat.reduceEqDiff, decide_true, decide_false, eq_self]) ?_
    repeat (first | refine WS.seq ?_ | refine WS.skip ?_ | refine WS.label ?_ | refine WS.block ?_ | refine WS.inBlock ?_ | refine WS.exit rfl ?_ | refine WS.scope ?_ | refine WS.inScope ?_ | refine WS.region (by simp only [EV, TY, lget, ↓reduceIte, Nat.reduceEqDiff, decide_true, decide_false, eq_self]; with_reducible rfl) ?_)
    refine ret_bool (t := 4) rfl rfl (List.prefix_refl _) (decide_eq_false fun e => hl (by rw [e])) ?_
    simp only [EV, lget, ↓reduceIte, Nat.reduceEqDiff, decide_true, decide_false, eq_self, and_true, true_and, and_self]
theorem Same1_ok {S : Store} {v w : V} {a b : List Ava} (ha : isRdn S v a) (hb : isRdn S w b) (la : a.length ≤ 1048576) : vrun E0 (.fn 31) [v, w] S = some (.bool (decide (a = b)), S) := by
  refine fn_ws Tryd.func31 rfl ?_
  have h := Equal_ok ha hb la
  repeat (first | refine WS.seq ?_ | refine WS.skip ?_ | refine WS.label ?_ | refine WS.block ?_ | refine WS.inBlock ?_ | refine WS.exit rfl ?_ | refine WS.scope ?_ | refine WS.inScope ?_ | refine WS.region (by simp only [EV, TY, lget, callV_32, h, ↓reduceIte, Nat.reduceEqDiff, decide_true, decide_false, eq_self]; with_reducible rfl) ?_)
  refine WS.ret1s (t := 4) rfl rfl (List.prefix_refl _) (frz_bool _ _ _) ?_
  simp only [EV, lget, ↓reduceIte, Nat.reduceEqDiff, decide_true, decide_false, eq_self, and_true, true_and, and_self]
theorem callV_31 (c : CallT) (a b args : List V) (S : Store) : callV E0 c (.fn (.func 31) a b) args S = c (.fn 31) (a ++ args ++ b) S := by kernel_rfl
def lenN (n : List (List Ava)) : Prop := n.length ≤ 1048576 ∧ ∀ r ∈ n, r.length ≤ 1048576
theorem lenN.at_ {n : List (List Ava)} (h : lenN n) (i : Nat) (hi : i < n.length) : (n.getD i []).length ≤ 1048576 := by
  rw [show n.getD i [] = n[i] by simp [List.getD, hi]]
  exact h.2 _ (List.getElem_mem hi)
theorem EqualFunc_ok {S : Store} {v w : V} {a b : List (List Ava)} (ha : isDn S v a) (hb : isDn S w b) (la : lenN a) : vrun E0 (.fn 30) [v, w, .fn (.func 31) [] []] S = some (.bool (decide (a = b)), S) := by
  refine fn_ws Tryd.func30 rfl ?_
  have ea := ha.len
  have eb := hb.len
  by_cases hl : a.length = b.length
  · have hne : (((a.length : Nat) : Int) != ((b.length : Nat) : Int)) = false := by simp [hl]
    repeat (first | refine WS.seq ?_ | refine WS.skip ?_ | refine WS.label ?_ | refine WS.block ?_ | refine WS.inBlock ?_ | refine WS.exit rfl ?_ | refine WS.scope ?_ | refine WS.inScope ?_ | refine WS.region (by simp only [EV, TY, lget, ea, eb, hne, ↓reduceIte, Nat.reduceEqDiff, decide_true, decide_false, eq_self]; with_reducible rfl) ?_)
    refine WS.cond_false (by simp only [EV, lget, ↓reduceIte, Nat.reduceEqDiff, decide_true, decide_false, eq_self]) ?_
    repeat (first | refine WS.seq ?_ | refine WS.skip ?_ | refine WS.label ?_ | refine WS.block ?_ | refine WS.inBlock ?_ | refine WS.exit rfl ?_ | refine WS.scope ?_ | refine WS.inScope ?_ | refine WS.region (by simp only [EV, TY, lget, ea, ↓reduceIte, Nat.reduceEqDiff, decide_true, decide_false, eq_self]; with_reducible rfl) ?_)
    refine WS.loopB (fun j fr S' => ∃ i, j = a.length - i ∧ i ≤ a.length ∧ lget fr 1 = w ∧ lget fr 2 = .fn (.func 31) [] [] ∧ lget fr 15 = v ∧ lget fr 16 = .int .i64 (a.length : Nat) ∧ lget fr 17 = .int .i64 (i : Nat) ∧ S = S' ∧ ∀ k, k < i → a.getD k [] = b.getD k [])
      (fun fr S' => S = S' ∧ ∀ k, k < a.length → a.getD k [] = b.getD k []) (j := a.length) ?_ ?_ ?_
    · refine ⟨0, by omega, by omega, ?_, ?_, ?_, ?_, ?_, rfl, fun k hk => by omega⟩
      all_goals
        simp only [EV, lget, ↓reduceIte, Nat.reduceEqDiff, decide_true, decide_false, eq_self, and_true, true_and, and_self]
        try rfl
    · rintro fr S' ⟨rfl, hall⟩
      repeat (first | refine WS.seq ?_ | refine WS.skip ?_ | refine WS.label ?_ | refine WS.block ?_ | refine WS.inBlock ?_ | refine WS.exit rfl ?_ | refine WS.scope ?_ | refine WS.inScope ?_ | refine WS.region (by simp only [EV, TY, lget, ↓reduceIte, Nat.reduceEqDiff, decide_true, decide_false, eq_self]; with_reducible rfl) ?_)
      refine ret_bool (t := 6) rfl rfl (List.prefix_refl _) (decide_eq_true (ext_getD _ hl hall)) ?_
      simp only [EV, ↓reduceIte, Nat.reduceEqDiff, decide_true, decide_false, eq_self, and_true, true_and, and_self]
    · rintro j fr S' ⟨i, rfl, hi, h1, h2, h15, h16, h17, hSS, hall⟩ ih last
      subst hSS
      by_cases hlt : i < a.length
      · have hlt' : ((i : Nat) : Int) < ((a.length : Nat) : Int) := by omega
        obtain ⟨pa, ca, ia1, ia2, ia3⟩ := ha.at_ i hlt
        obtain ⟨pb, cb, ib1, ib2, ib3⟩ := hb.at_ i (by omega)
        have lra := la.at_ i hlt
        have bad : a.getD i [] ≠ b.getD i [] → a ≠ b := ne_getD _ i
        generalize hxa : a.getD i [] = ra at ia3 bad lra
        generalize hxb : b.getD i [] = rb at ib3 bad
        have hs := Same1_ok ia3 ib3 lra
        have hinc := wrap_inc i (by have := la.1; omega)
        repeat (first | refine WS.seq ?_ | refine WS.skip ?_ | refine WS.label ?_ | refine WS.block ?_ | refine WS.inBlock ?_ | refine WS.exit rfl ?_ | refine WS.scope ?_ | refine WS.inScope ?_ | refine WS.region (by simp only [EV, TY, h16, h17, hlt', ↓reduceIte, Nat.reduceEqDiff, decide_true, decide_false, eq_self]; with_reducible rfl) ?_)
        refine WS.cond_true (by simp only [EV, ↓reduceIte, Nat.reduceEqDiff, decide_true, decide_false, eq_self]) ?_
        by_cases he : ra = rb
        · have hd : decide (ra = rb) = true := decide_eq_true he
          rw [hd] at hs
          repeat (first | refine WS.seq ?_ | refine WS.skip ?_ | refine WS.label ?_ | refine WS.block ?_ | refine WS.inBlock ?_ | refine WS.exit rfl ?_ | refine WS.scope ?_ | refine WS.inScope ?_ | refine WS.region (by simp only [EV, TY, h1, h2, h15, h17, ia1, ia2, ib1, ib2, callV_31, hs, Bool.not_true, ↓reduceIte, Nat.reduceEqDiff, decide_true, decide_false, eq_self]; with_reducible rfl) ?_)
          refine WS.cond_false (by simp only [EV, ↓reduceIte, Nat.reduceEqDiff, decide_true, decide_false, eq_self]) ?_
          repeat (first | refine WS.seq ?_ | refine WS.skip ?_ | refine WS.label ?_ | refine WS.block ?_ | refine WS.inBlock ?_ | refine WS.exit rfl ?_ | refine WS.scope ?_ | refine WS.inScope ?_ | refine WS.region (by simp only [EV, TY, h17, hinc, ↓reduceIte, Nat.reduceEqDiff, decide_true, decide_false, eq_self]; with_reducible rfl) ?_)
          refine ih (a.length - (i + 1)) _ _ (by omega) ⟨i + 1, rfl, by omega, ?_, ?_, ?_, ?_, ?_, rfl, fun k hk => ?_⟩
          · simp only [EV, h1, ↓reduceIte, Nat.reduceEqDiff, decide_true, decide_false, eq_self, and_true, true_and, and_self]
          · simp only [EV, h2, ↓reduceIte, Nat.reduceEqDiff, decide_true, decide_false, eq_self, and_true, true_and, and_self]
          · simp only [EV, h15, ↓reduceIte, Nat.reduceEqDiff, decide_true, decide_false, eq_self, and_true, true_and, and_self]
          · simp only [EV, h16, ↓reduceIte, Nat.reduceEqDiff, decide_true, decide_false, eq_self, and_true, true_and, and_self]
          · simp only [EV, ↓reduceIte, Nat.reduceEqDiff, decide_true, decide_false, eq_self, and_true, true_and, and_self]
          · rcases Nat.lt_or_ge k i with h | h
            · exact hall k h
            · obtain rfl : k = i := by omega
              rw [hxa, hxb]; exact he
        · have hd : decide (ra = rb) = false := decide_eq_false he
          rw [hd] at hs
          repeat (first | refine WS.seq ?_ | refine WS.skip ?_ | refine WS.label ?_ | refine WS.block ?_ | refine WS.inBlock ?_ | refine WS.exit rfl ?_ | refine WS.scope ?_ | refine WS.inScope ?_ | refine WS.region (by simp only [EV, TY, h1, h2, h15, h17, ia1, ia2, ib1, ib2, callV_31, hs, Bool.not_false, ↓reduceIte, Nat.reduceEqDiff, decide_true, decide_false, eq_self]; with_reducible rfl) ?_)
          refine WS.cond_true (by simp only [EV, ↓reduceIte, Nat.reduceEqDiff, decide_true, decide_false, eq_self]) ?_
          repeat (first | refine WS.seq ?_ | refine WS.skip ?_ | refine WS.label ?_ | refine WS.block ?_ | refine WS.inBlock ?_ | refine WS.exit rfl ?_ | refine WS.scope ?_ | refine WS.inScope ?_ | refine WS.region (by simp only [EV, TY, ↓reduceIte, Nat.reduceEqDiff, decide_true, decide_false, eq_self]; with_reducible rfl) ?_)
          refine ret_bool (t := 6) rfl rfl (List.prefix_refl _) (decide_eq_false (bad he)) ?_
          simp only [EV, ↓reduceIte, Nat.reduceEqDiff, decide_true, decide_false, eq_self, and_true, true_and, and_self]
      · have hlt' : ¬ ((i : Nat) : Int) < ((a.length : Nat) : Int) := by omega
        repeat (first | refine WS.seq ?_ | refine WS.skip ?_ | refine WS.label ?_ | refine WS.block ?_ | refine WS.inBlock ?_ | refine WS.exit rfl ?_ | refine WS.scope ?_ | refine WS.inScope ?_ | refine WS.region (by simp only [EV, TY, h16, h17, hlt', ↓reduceIte, Nat.reduceEqDiff, decide_true, decide_false, eq_self]; with_reducible rfl) ?_)
        refine WS.cond_false (by simp only [EV, ↓reduceIte, Nat.reduceEqDiff, decide_true, decide_false, eq_self]) ?_
        refine WS.exit rfl ?_
        have : i = a.length := by omega
        subst this
        exact last _ _ ⟨rfl, hall⟩
  · have hne : (((a.length : Nat) : Int) != ((b.length : Nat) : Int)) = true := bne_iff_ne.2 (by omega)
    repeat (first | refine WS.seq ?_ | refine WS.skip ?_ | refine WS.label ?_ | refine WS.block ?_ | refine WS.inBlock ?_ | refine WS.exit rfl ?_ | refine WS.scope ?_ | refine WS.inScope ?_ | refine WS.region (by simp only [EV, TY, lget, ea, eb, hne, ↓reduceIte, Nat.reduceEqDiff, decide_true, decide_false, eq_self]; with_reducible rfl) ?_)
    refine WS.cond_true (by simp only [EV, lget, ↓reduceIte, Nat.reduceEqDiff, decide_true, decide_false, eq_self]) ?_
    repeat (first | refine WS.seq ?_ | refine WS.skip ?_ | refine WS.label ?_ | refine WS.block ?_ | refine WS.inBlock ?_ | refine WS.exit rfl ?_ | refine WS.scope ?_ | refine WS.inScope ?_ | refine WS.region (by simp only [EV, TY, lget, ↓reduceIte, Nat.reduceEqDiff, decide_true, decide_false, eq_self]; with_reducible rfl) ?_)
    refine ret_bool (t := 6) rfl rfl (List.prefix_refl _) (decide_eq_false fun e => hl (by rw [e])) ?_
    simp only [EV, lget, ↓reduceIte, Nat.reduceEqDiff, decide_true, decide_false, eq_self, and_true, true_and, and_self]
theorem lenN_norm {n : List (List Ava)} (h : okN n) : lenN (normN n) := by
  refine ⟨by simpa [normN] using h.1, fun r hr => ?_⟩
  obtain ⟨s, hs, rfl⟩ := List.mem_map.1 hr
  have := (h.2 s hs).1
  simpa [normR, srt_len] using this
/-- May all of a name's steps be sorted (as it is known here)? -/
def SortsN (n : List (List Ava)) : Prop := ∀ r ∈ n, SortOk r.length
theorem Same_ok {S : Store} {v w : V} {a b : List (List Ava)} (ha : isDn S v a) (hb : isDn S w b) (oa : okN a) (ob : okN b) (sa : SortsN a) (sb : SortsN b) : vrun E0 (.fn 15) [v, w] S = some (.bool (decide (normN a = normN b)), S) := by
  refine fn_ws Tryd.func15 rfl ?_
  obtain ⟨x, hx, dx⟩ := Norm_ok ha oa sa
  obtain ⟨y, hy, dy⟩ := Norm_ok hb ob sb
  have h := EqualFunc_ok (dx S) (dy S) (lenN_norm oa)
  repeat (first | refine WS.seq ?_ | refine WS.skip ?_ | refine WS.label ?_ | refine WS.block ?_ | refine WS.inBlock ?_ | refine WS.exit rfl ?_ | refine WS.scope ?_ | refine WS.inScope ?_ | refine WS.region (by simp only [EV, TY, lget, callV_18, hx, hy, callV_30, h, ↓reduceIte, Nat.reduceEqDiff, decide_true, decide_false, eq_self]; with_reducible rfl) ?_)
  refine WS.ret1s (t := 4) rfl rfl (List.prefix_refl _) (frz_bool _ _ _) ?_
  simp only [EV, lget, ↓reduceIte, Nat.reduceEqDiff, decide_true, decide_false, eq_self, and_true, true_and, and_self]
theorem isDn.drop {S : Store} {v : V} {n : List (List Ava)} (h : isDn S v n) (m : Nat) (hm : m ≤ n.length) : ∃ v', opSlice E0 24 v (some (.int .i64 (m : Nat))) none none = some v' ∧ isDn S v' (n.drop m) := by
  obtain ⟨cs, h1, h2⟩ := h
  obtain ⟨v', g1, g2⟩ := h1.drop (E := E0) Tryd.underlying24 tsize_38 .i64 m hm
  refine ⟨v', g1, cs.drop (m * 1), by rw [List.length_drop]; exact g2, fun i hi => ?_⟩
  rw [List.length_drop] at hi
  obtain ⟨c, h3, h4⟩ := h2 (m + i) (by omega)
  refine ⟨c, by rw [Nat.mul_one, List.getElem?_drop]; exact h3, ?_⟩
  have : (n.drop m).getD i [] = n.getD (m + i) [] := by simp [List.getD, List.getElem?_drop]
  rw [this]
  exact h4
def underB (a b : List (List Ava)) : Bool := decide (b.length ≤ a.length ∧ normN (a.drop (a.length - b.length)) = normN b)
theorem okN.drop {n : List (List Ava)} (h : okN n) (m : Nat) : okN (n.drop m) := ⟨by have := h.1; simp; omega, fun r hr => h.2 r (List.mem_of_mem_drop hr)⟩
theorem Under_ok {S : Store} {v w : V} {a b : List (List Ava)} (ha : isDn S v a) (hb : isDn S w b) (oa : okN a) (ob : okN b) (sa : SortsN a) (sb : SortsN b) : vrun E0 (.fn 16) [v, w] S = some (.bool (underB a b), S) := by
  refine fn_ws Tryd.func16 rfl ?_
  have ea := ha.len
  have eb := hb.len
  by_cases hl : b.length ≤ a.length
  · have hl' : ((b.length : Nat) : Int) ≤ ((a.length : Nat) : Int) := by omega
    have hsub := wrap_subN a.length b.length hl (by have := oa.1; omega)
    obtain ⟨u, g1, g2⟩ := ha.drop (a.length - b.length) (by omega)
    have h := Same_ok g2 hb (oa.drop _) ob (fun r hr => sa r (List.mem_of_mem_drop hr)) sb
    repeat (first | refine WS.seq ?_ | refine WS.skip ?_ | refine WS.label ?_ | refine WS.block ?_ | refine WS.inBlock ?_ | refine WS.exit rfl ?_ | refine WS.scope ?_ | refine WS.inScope ?_ | refine WS.region (by simp only [EV, TY, lget, ea, eb, hl', hsub, g1, callV_15, h, ↓reduceIte, Nat.reduceEqDiff, decide_true, decide_false, eq_self]; with_reducible rfl) ?_)
    refine ret_bool (t := 4) rfl rfl (List.prefix_refl _) ?_ ?_ (b := decide (normN (a.drop (a.length - b.length)) = normN b))
    · simp [underB, hl]
    · simp only [EV, lget, ↓reduceIte, Nat.reduceEqDiff, decide_true, decide_false, eq_self, and_true, true_and, and_self]
  · have hl' : ¬ ((b.length : Nat) : Int) ≤ ((a.length : Nat) : Int) := by omega
    repeat (first | refine WS.seq ?_ | refine WS.skip ?_ | refine WS.label ?_ | refine WS.block ?_ | refine WS.inBlock ?_ | refine WS.exit rfl ?_ | refine WS.scope ?_ | refine WS.inScope ?_ | refine WS.region (by simp only [EV, TY, lget, ea, eb, hl', ↓reduceIte, Nat.reduceEqDiff, decide_true, decide_false, eq_self]; with_reducible rfl) ?_)
    refine ret_bool (t := 4) rfl rfl (List.prefix_refl _) (decide_eq_false fun h => hl h.1) ?_
    simp only [EV, lget, ↓reduceIte, Nat.reduceEqDiff, decide_true, decide_false, eq_self, and_true, true_and, and_self]
end Go.Proofs.YtjcckafjopjdbaaDoor
