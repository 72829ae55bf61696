import Derived.Test.YtmmjlgocihhkcaaGreatDoorPartP
import Derived.Test.YtmmjlgocihhkcaaGreatDoorVmE
set_option linter.all false
namespace Go.Proofs.YtmmjlgocihhkcaaGreatDoor
open Go Go.Vm
set_option maxRecDepth 100000
set_option maxHeartbeats 8000000
def objC (tv kv : V) (d st : Int) (m1 m2 : V) : Ob := .cells [tv, kv, .int .u32 d, .int .i32 st, .int .u32 0, m1, m2] 84
theorem evOpsD_plain {E : Env} {c : CallT} {fr : Fr} {S : Store} (D : Dfr) (ops : List Oper) (d : Option Tmp) (op : Op) (t : TypeId) (p : String) (a : Array Edge) (rest : List Oper) :
  evOpsD E c ops (⟨d, op, t, p, a, none⟩ :: rest) fr S D = (match op with
   | .defer cl => (match cl.callee with
    | .value f => (match opnd E fr f with
     | .fn (.func g) first captured => evOpsD E c ops rest (put fr d (.tup [])) S ((g, first ++ cl.args.toList.map (opnd E fr) ++ captured) :: D)
     | _ => none)
    | _ => none)
   | _ => (match evOp E c (opnd E fr) S ⟨d, op, t, p, a, none⟩ with
    | some (v, S') => evOpsD E c ops rest (put fr d v) S' D
    | none => none)) := by
 cases op <;> rfl
theorem dnOk157 : dnOk E0 157 = true := by kernel_rfl
theorem dnOk158 : dnOk E0 158 = true := by kernel_rfl
theorem doSlow_ok {S S2 : Store} {b p : Nat} {tv kv m1 m2 : V} (h : S[b]? = some (objC tv kv 0 0 .mapN .mapN)) (h2 : S2[b]? = some (objC tv kv 0 1 m1 m2))
  (hf : vrun E0 (.fn 100) [.ref p 0] (S.set b (objC tv kv 0 1 .mapN .mapN)) = some (.tup [], S2)) :
  vrun E0 (.fn 134) [.ref b 2, .fn (.func 100) [] [.ref p 0]] S = some (.tup [], S2.set b (objC tv kv 1 0 m1 m2)) := by
 refine vrun_fnD Tryz.func134 rfl rfl ?_
 have hb := lt_of_get h
 have hb2 := lt_of_get h2
 have hlk : vrun E0 (.fn 156) [.ref b 3] S = some (.tup [], S.set b (objC tv kv 0 1 .mapN .mapN)) := Lock_ok (o := 3) h rfl (by simp)
 have h1 : (S.set b (objC tv kv 0 1 .mapN .mapN))[b]? = some (objC tv kv 0 1 .mapN .mapN) := List.getElem?_set_self hb
 have hld : vrun E0 (.fn 133) [.ref b 2] (S.set b (objC tv kv 0 1 .mapN .mapN)) = some (.bool ((0 : Int) != 0), _) := Load_ok (o := 2) h1 rfl
 have hst : vrun E0 (.fn 158) [.ref b 2, .bool true] S2 = some (.tup [], S2.set b (objC tv kv 1 1 m1 m2)) := Store_ok (o := 2) h2 rfl
 have h3 : (S2.set b (objC tv kv 1 1 m1 m2))[b]? = some (objC tv kv 1 1 m1 m2) := List.getElem?_set_self hb2
 have hul : vrun E0 (.fn 157) [.ref b 3] (S2.set b (objC tv kv 1 1 m1 m2)) = some (.tup [], (S2.set b (objC tv kv 1 1 m1 m2)).set b (objC tv kv 1 0 m1 m2)) := Unlock_ok (o := 3) h3 rfl (by simp)
 rw [List.set_set] at hul
 have hz : ((0 : Int) != 0) = false := rfl
 rw [hz] at hld
 refine WD.seq (WD.region (by simp only [evOpsD_nil, evOpsD_plain, EV, EV2, TY, lget, fa79_2, callV_156, hlk, ↓reduceIte, Nat.reduceEqDiff]; with_reducible rfl) ⟨rfl, ?_⟩)
 refine WD.seq (WD.region (by simp only [evOpsD_nil, evOpsD_plain, EV, EV2, TY, lget, fa79_2, ↓reduceIte, Nat.reduceEqDiff]; with_reducible rfl) ⟨rfl, ?_⟩)
 refine WD.seq (WD.region (by simp only [evOpsD_nil, evOpsD_plain, EV, EV2, TY, lget, fa79_1, callV_133, hld, ↓reduceIte, Nat.reduceEqDiff]; with_reducible rfl) ⟨rfl, ?_⟩)
 refine WD.cond_true (by simp only [EV, ↓reduceIte, Nat.reduceEqDiff]) ?_
 refine WD.seq (WD.region (by simp only [evOpsD_nil, evOpsD_plain, EV, EV2, TY, lget, fa79_1, ↓reduceIte, Nat.reduceEqDiff]; with_reducible rfl) ⟨rfl, ?_⟩)
 refine WD.region (by simp only [evOpsD_nil, evOpsD_plain, EV, EV2, TY, lget, callV_100, hf, ↓reduceIte, Nat.reduceEqDiff]; with_reducible rfl) ?_
 refine ⟨.inl rfl, S2.set b (objC tv kv 1 0 m1 m2), ?_, [], rfl, rfl⟩
 have c1 : E0.catches 158 = false := rfl
 have c2 : E0.catches 157 = false := rfl
 simp only [runD, c1, c2, dnOk157, dnOk158, Bool.false_eq_true, if_false, if_true, List.nil_append, List.append_nil, hst, hul]
theorem Do1_ok {S : Store} {b : Nat} {tv kv m1 m2 f : V} (h : S[b]? = some (objC tv kv 1 0 m1 m2)) : vrun E0 (.fn 99) [.ref b 2, f] S = some (.tup [], S) := by
 refine fn_ws Tryz.func99 rfl ?_
 have hld : vrun E0 (.fn 133) [.ref b 2] S = some (.bool ((1 : Int) != 0), _) := Load_ok (o := 2) h rfl
 rw [show ((1 : Int) != 0) = true from rfl] at hld
 repeat (first | refine WS.adm rfl ?_ | refine WS.region (by simp only [EV, TY, lget, EV2, fa79_1, callV_133, hld, ↓reduceIte, Nat.reduceEqDiff]; with_reducible rfl) ?_)
 refine WS.cf0 ?_
 repeat refine WS.adm rfl ?_
 exact ends0 rfl rfl
theorem Do0_ok {S S2 : Store} {b p : Nat} {tv kv m1 m2 : V} (h : S[b]? = some (objC tv kv 0 0 .mapN .mapN)) (h2 : S2[b]? = some (objC tv kv 0 1 m1 m2))
  (hf : vrun E0 (.fn 100) [.ref p 0] (S.set b (objC tv kv 0 1 .mapN .mapN)) = some (.tup [], S2)) :
  vrun E0 (.fn 99) [.ref b 2, .fn (.func 100) [] [.ref p 0]] S = some (.tup [], S2.set b (objC tv kv 1 0 m1 m2)) := by
 refine fn_ws Tryz.func99 rfl ?_
 have hld : vrun E0 (.fn 133) [.ref b 2] S = some (.bool ((0 : Int) != 0), _) := Load_ok (o := 2) h rfl
 rw [show ((0 : Int) != 0) = false from rfl] at hld
 repeat (first | refine WS.adm rfl ?_ | refine WS.region (by simp only [EV, TY, lget, EV2, fa79_1, callV_133, hld, ↓reduceIte, Nat.reduceEqDiff]; with_reducible rfl) ?_)
 refine WS.ct0 ?_
 repeat (first | refine WS.adm rfl ?_ | refine WS.region (by simp only [EV, TY, lget, callV_134, doSlow_ok h h2 hf, ↓reduceIte, Nat.reduceEqDiff]; with_reducible rfl) ?_)
 exact ends0 rfl rfl
abbrev Tab := List (List UInt8 × Int)
def idxU (l : List (List UInt8)) (i : Nat) : Tab := (List.range i).foldl (fun m k => mput m (smallS (l.getD k [])) ((k : Nat) : Int)) []
def idxL (l : List (List UInt8)) : Tab := idxU l l.length
theorem idxU_succ (l : List (List UInt8)) (i : Nat) : idxU l (i + 1) = mput (idxU l i) (smallS (l.getD i [])) ((i : Nat) : Int) := by
 unfold idxU
 rw [List.range_succ, List.foldl_append]
 rfl
def okTy (t : ATy) : Prop := t.1.length ≤ 1048576
def okCl (k : Cls) : Prop := k.1.length ≤ 1048576 ∧ k.2.2.1.length ≤ 1048576 ∧ (k.2.2.2.1.length + k.2.2.2.2.length ≤ 1048576) ∧ (∀ s ∈ k.2.2.2.1, s.length ≤ 1048576) ∧ ∀ s ∈ k.2.2.2.2, s.length ≤ 1048576
def fitS (s : SchD) : Prop := s.1.length ≤ 1048576 ∧ s.2.length ≤ 1048576 ∧ (∀ t ∈ s.1, okTy t) ∧ ∀ k ∈ s.2, okCl k
def tNames (s : SchD) : List (List UInt8) := s.1.map (·.1)
def kNames (s : SchD) : List (List UInt8) := s.2.map (·.1)
theorem ends0P {E : Env} {fr : Fr} {S S' : Store} {f : FuncId} {fn : Func} {P : V × Store → Prop} (hr : fn.results.toList = []) (hk : E.keep f = true) (hP : P (.tup [], S')) : WS E [] fr S' (PEnds E f fn S P) :=
 WS.done ⟨(.tup [], S'), hP, .inl rfl, [], by rw [hr]; rfl, by rw [hk]; rfl⟩
theorem build_82 (a c : Nat) : opBuild E0 82 [(0, .mapR a), (1, .mapR c)] = some (.agg [.mapR a, .mapR c]) := by kernel_rfl
theorem st_tabs {S : Store} {b : Nat} {tv kv m1 m2 x y : V} {d st : Int} (h : S[b]? = some (objC tv kv d st m1 m2)) : opStore E0 S 82 (.ref b 5) (.agg [x, y]) = some (S.set b (objC tv kv d st x y)) := by
 unfold objC at h
 unfold opStore
 simp [tsize_82, solid, vcells, putAt, cellsOf, Vm.elemOf, h, splice, objC]
theorem ty_at {S : Store} {v : V} {l : List ATy} (h : Arr 6 rTy S v l) (i : Nat) (hi : i < l.length) : ∃ a, opIndexAddr E0 22 v (.int .i64 (i : Int)) = some a ∧ opLoad E0 S 100 a = some (.agg (tyC l[i])) ∧ ∃ a', opFieldAddr E0 100 a 0 = some a' ∧ opLoad E0 S 9 a' = some (.str l[i].1) := by
 obtain ⟨a, c, r, h1, h2, h3, h4⟩ := h.at_ (E := E0) Tryz.underlying22 tsize_100 i hi
 rw [show c = tyC l[i] from h4] at h2
 have hl := h2.loadA (E := E0) isAggO_100 tsize_100 (by simp [tyC])
 obtain ⟨a', f1, f2⟩ := h2.field (E := E0) (s := 100) (f := 0) (m := 0) Tryz.underlying100 rfl tsize_9
 exact ⟨a, h1, hl, a', f1, f2.load isAggO_9 rfl⟩
theorem cl_at {S : Store} {v : V} {l : List Cls} (h : Arr 5 rCls S v l) (i : Nat) (hi : i < l.length) : ∃ a m y, opIndexAddr E0 23 v (.int .i64 (i : Int)) = some a ∧ opLoad E0 S 121 a = some (.agg [.str l[i].1, .int .i64 l[i].2.1, .str l[i].2.2.1, m, y]) ∧ pStrs m l[i].2.2.2.1 ∧ pStrs y l[i].2.2.2.2 ∧ (∃ a', opFieldAddr E0 121 a 1 = some a' ∧ opLoad E0 S 3 a' = some (.int .i64 l[i].2.1)) := by
 obtain ⟨a, c, r, h1, h2, h3, m, y, rfl, h4, h5⟩ := h.at_ (E := E0) Tryz.underlying23 tsize_121 i hi
 have hl := h2.loadA (E := E0) isAggO_121 tsize_121 (by simp)
 obtain ⟨a', f1, f2⟩ := h2.field (E := E0) (s := 121) (f := 1) (m := 0) Tryz.underlying121 rfl tsize_3
 exact ⟨a, m, y, h1, hl, h4, h5, a', f1, f2.load isAggO_3 rfl⟩
theorem getD_map {α : Type} (f : α → List UInt8) (l : List α) (i : Nat) (h : i < l.length) : (l.map f).getD i [] = f l[i] := by simp [List.getD, h]
theorem find1_ok {S : Store} {b p : Nat} {tv kv : V} {s : SchD} (hb : S[b]? = some (objC tv kv 0 1 .mapN .mapN)) (hp : S[p]? = some (.cells [.ref b 0] 33)) (ht : PArr 6 rTy tv s.1) (hk : PArr 5 rCls kv s.2) (fs : fitS s) :
  ∃ T, vrun E0 (.fn 100) [.ref p 0] S = some (.tup [], T) ∧ Low S.length (S.set b (objC tv kv 0 1 (.mapR S.length) (.mapR (S.length + 1)))) T ∧ T[S.length]? = some (.mp (mpC (idxL (tNames s)))) ∧ T[S.length + 1]? = some (.mp (mpC (idxL (kNames s)))) := by
 suffices g : ∃ r, (∃ T, r = (.tup [], T) ∧ Low S.length (S.set b (objC tv kv 0 1 (.mapR S.length) (.mapR (S.length + 1)))) T ∧ T[S.length]? = some (.mp (mpC (idxL (tNames s)))) ∧ T[S.length + 1]? = some (.mp (mpC (idxL (kNames s))))) ∧ vrun E0 (.fn 100) [.ref p 0] S = some r by
  obtain ⟨r, ⟨T, rfl, g2⟩, g3⟩ := g
  exact ⟨T, g3, g2⟩
 refine fn_wsP Tryz.func100 rfl ?_
 have hbl := lt_of_get hb
 have hpl := lt_of_get hp
 have hne : b ≠ p := by
  rintro rfl
  rw [hb] at hp
  simp [objC] at hp
 generalize hO : objC tv kv 0 1 (.mapR S.length) (.mapR (S.length + 1)) = O
 have l0 : opLoad E0 S 33 (.ref p 0) = some (.ref b 0) := var_ld1 isAggO_33 hp rfl
 have hlen1 : (S ++ [Ob.mp []]).length = S.length + 1 := by simp
 have hb2 : ((S ++ [Ob.mp []]) ++ [Ob.mp []])[b]? = some (objC tv kv 0 1 .mapN .mapN) := get_more (get_more hb _) _
 have s0 : opStore E0 ((S ++ [Ob.mp []]) ++ [Ob.mp []]) 82 (.ref b 5) (.agg [.mapR S.length, .mapR (S.length + 1)]) = some (S.set b O ++ [.mp [], .mp []]) := by
  rw [st_tabs hb2, hO]
  rw [List.append_assoc, List.set_append_left _ _ hbl]
  rfl
 have hSO : (S.set b O).length = S.length := List.length_set
 have step : ∀ U, Low S.length (S.set b O) U → U[b]? = some O ∧ U[p]? = some (.cells [.ref b 0] 33) := fun U h => by
  refine ⟨?_, ?_⟩
  ·rw [h.2 b hbl, List.getElem?_set_self hbl]
  ·rw [h.2 p hpl, List.getElem?_set_ne hne]
   exact hp
 have low0 : Low S.length (S.set b O) (S.set b O ++ [.mp [], .mp []]) := Low.app (by omega) _
 have q0 : (S.set b O ++ [Ob.mp [], .mp []])[S.length]? = some (.mp (mpC [])) := by
  rw [← hSO, getS0]; rfl
 have r0 : (S.set b O ++ [Ob.mp [], .mp []])[S.length + 1]? = some (.mp (mpC [])) := by
  rw [← hSO, getS]; rfl
 generalize hU0 : S.set b O ++ [Ob.mp [], Ob.mp []] = U0 at s0 low0 q0 r0
 have facts : ∀ U, Low S.length (S.set b O) U → opLoad E0 U 33 (.ref p 0) = some (.ref b 0) ∧ opLoad E0 U 22 (.ref b 0) = some tv ∧ opLoad E0 U 23 (.ref b 1) = some kv ∧ opLoad E0 U 80 (.ref b 5) = some (.mapR S.length) ∧ opLoad E0 U 80 (.ref b 6) = some (.mapR (S.length + 1)) := fun U h => by
  obtain ⟨h1, h2⟩ := step U h
  subst hO
  exact ⟨var_ld1 isAggO_33 h2 rfl, var_ld1 isAggO_22 h1 rfl, var_ld1 isAggO_23 h1 rfl, var_ld1 isAggO_80 h1 rfl, var_ld1 isAggO_80 h1 rfl⟩
 obtain ⟨a1, a2, a3, a4, a5⟩ := facts U0 low0
 have n1 := (ht.arr U0).len (E := E0) Tryz.underlying22
 repeat (first | refine WS.adm rfl ?_ | refine WS.region (by simp only [EV, TY, lget, EV2, EV3, l0, hlen1, build_82, fa84_2, s0, a1, a2, fa84_0, fa25_0, n1, ↓reduceIte, Nat.reduceEqDiff]; with_reducible rfl) ?_)
 refine WS.loopB (fun j fr U => ∃ i, j = s.1.length - i ∧ i ≤ s.1.length ∧ lget fr 0 = .ref p 0 ∧ lget fr 15 = tv ∧ lget fr 16 = .int .i64 (s.1.length : Nat) ∧ lget fr 17 = .int .i64 (i : Nat) ∧ Low S.length (S.set b O) U ∧ S.length + 2 ≤ U.length ∧ U[S.length]? = some (.mp (mpC (idxU (tNames s) i))) ∧ U[S.length + 1]? = some (.mp (mpC [])))
  (fun fr U => lget fr 0 = .ref p 0 ∧ Low S.length (S.set b O) U ∧ S.length + 2 ≤ U.length ∧ U[S.length]? = some (.mp (mpC (idxL (tNames s)))) ∧ U[S.length + 1]? = some (.mp (mpC []))) (j := s.1.length) ?_ ?_ ?_
 ·refine ⟨0, by omega, by omega, ?_, ?_, ?_, ?_, low0, by rw [← hU0]; simp, q0, r0⟩
  all_goals
   simp only [EV, lget, ↓reduceIte, Nat.reduceEqDiff, AT]
   try rfl
 ·rintro fr U ⟨h0, hlow, hlen, hq, hr⟩
  obtain ⟨b1, b2, b3, b4, b5⟩ := facts U hlow
  have n2 := (hk.arr U).len (E := E0) Tryz.underlying23
  repeat (first | refine WS.adm rfl ?_ | refine WS.region (by simp only [EV, TY, h0, EV2, b1, b3, fa84_0, fa25_1, n2, ↓reduceIte, Nat.reduceEqDiff]; with_reducible rfl) ?_)
  refine WS.loopB (fun j fr U => ∃ i, j = s.2.length - i ∧ i ≤ s.2.length ∧ lget fr 0 = .ref p 0 ∧ lget fr 36 = kv ∧ lget fr 37 = .int .i64 (s.2.length : Nat) ∧ lget fr 38 = .int .i64 (i : Nat) ∧ Low S.length (S.set b O) U ∧ S.length + 2 ≤ U.length ∧ U[S.length]? = some (.mp (mpC (idxL (tNames s)))) ∧ U[S.length + 1]? = some (.mp (mpC (idxU (kNames s) i))))
   (fun fr U => Low S.length (S.set b O) U ∧ U[S.length]? = some (.mp (mpC (idxL (tNames s)))) ∧ U[S.length + 1]? = some (.mp (mpC (idxL (kNames s))))) (j := s.2.length) ?_ ?_ ?_
  ·refine ⟨0, by omega, by omega, ?_, ?_, ?_, ?_, hlow, hlen, hq, hr⟩
   all_goals
    simp only [EV, h0, ↓reduceIte, Nat.reduceEqDiff, AT]
    try rfl
  ·rintro fr U ⟨hlow, hq, hr⟩
   repeat refine WS.adm rfl ?_
   exact ends0P rfl rfl ⟨U, rfl, hlow, hq, hr⟩
  ·rintro j fr U ⟨i, rfl, hi, h0, h36, h37, h38, hlow, hlen, hq, hr⟩ ih last
   by_cases hlt : i < s.2.length
   ·have hlt' : ((i : Nat) : Int) < ((s.2.length : Nat) : Int) := by omega
    obtain ⟨a, m, y, i1, i2, _, _, _⟩ := cl_at (hk.arr U) i hlt
    have fx : (s.2[i]).1.length ≤ 1048576 := (fs.2.2.2 _ (List.getElem_mem hlt)).1
    have hnm : (kNames s).getD i [] = (s.2[i]).1 := getD_map _ _ i hlt
    generalize s.2[i] = x at i1 i2 fx hnm
    have s1 := var_al (E := E0) zeroV_121 U
    have s2 := var_st (E := E0) (e := 121) tsize_121 U (zs := [.str [], .int .i64 0, .str [], .slN, .slN]) (xs := [.str x.1, .int .i64 x.2.1, .str x.2.2.1, m, y]) rfl rfl
    have hW : Low S.length (S.set b O) (U ++ [.cells [.str x.1, .int .i64 x.2.1, .str x.2.2.1, m, y] 121]) := hlow.trans (Low.app hlow.1 _)
    have l1 : opLoad E0 (U ++ [.cells [.str x.1, .int .i64 x.2.1, .str x.2.2.1, m, y] 121]) 9 (.ref U.length 0) = some (.str x.1) := var_ld1 isAggO_9 (getS0 _) rfl
    obtain ⟨a1, a2, a3, a4, a5⟩ := facts _ hW
    have hqW : (U ++ [Ob.cells [.str x.1, .int .i64 x.2.1, .str x.2.2.1, m, y] 121])[S.length]? = _ := get_more hq _
    have hrW : (U ++ [Ob.cells [.str x.1, .int .i64 x.2.1, .str x.2.2.1, m, y] 121])[S.length + 1]? = _ := get_more hr _
    have sm := smallS_ok x.1 (U ++ [.cells [.str x.1, .int .i64 x.2.1, .str x.2.2.1, m, y] 121]) fx
    have p1 := map_put (E := E0) Tryz.underlying80 Tryz.underlying9 hrW (smallS x.1) ((i : Nat) : Int)
    have iinc := wrap_inc i (by have := fs.1; have := fs.2.1; omega)
    repeat (first | refine WS.adm rfl ?_ | refine WS.region (by simp only [EV, TY, h37, h38, hlt', ↓reduceIte, Nat.reduceEqDiff]; with_reducible rfl) ?_)
    refine WS.ct0 ?_
    repeat (first | refine WS.adm rfl ?_ | refine WS.region (by simp only [EV, TY, lget, h36, h38, i1, i2, s1, s2, ↓reduceIte, Nat.reduceEqDiff]; with_reducible rfl) ?_)
    refine WS.drawb (b := [0, 1, 3, 7, 15, 0, 32, 96, 0, 511]) (by kernel_rfl) (by simp only [DL, isEff, isRead, Nat.reduceAdd, EV, TY,  lget, EV2, EV3, h0, a1, fa84_2, fa82_1, a5, fa121_0, l1, callV_60, sm, p1, Bool.false_or, Nat.reducePow, Nat.reduceDiv, Nat.reduceMod, ↓reduceIte, Nat.reduceEqDiff]; with_reducible rfl) ?_
    repeat (first | refine WS.adm rfl ?_ | refine WS.region (by simp only [EV, TY, h38, iinc, ↓reduceIte, Nat.reduceEqDiff]; with_reducible rfl) ?_)
    refine ih (s.2.length - (i + 1)) _ _ (by omega) ⟨i + 1, rfl, by omega, ?_, ?_, ?_, ?_, hW.trans (Low.set hW.1 (by omega)), by simp; omega, ?_, ?_⟩
    iterate 4 simp only [EV, h0, h36, h37, ↓reduceIte, Nat.reduceEqDiff, AT]
    ·rw [List.getElem?_set_ne (by omega)]
     exact hqW
    ·rw [List.getElem?_set_self (lt_of_get hrW), idxU_succ, hnm]
   ·have hlt' : ¬ ((i : Nat) : Int) < ((s.2.length : Nat) : Int) := by omega
    repeat (first | refine WS.adm rfl ?_ | refine WS.region (by simp only [EV, TY, h37, h38, hlt', ↓reduceIte, Nat.reduceEqDiff]; with_reducible rfl) ?_)
    refine WS.cf0 ?_
    refine WS.exit rfl ?_
    have : i = s.2.length := by omega
    subst this
    exact last _ _ ⟨hlow, hq, by simpa [idxL, kNames] using hr⟩
 ·rintro j fr U ⟨i, rfl, hi, h0, h15, h16, h17, hlow, hlen, hq, hr⟩ ih last
  by_cases hlt : i < s.1.length
  ·have hlt' : ((i : Nat) : Int) < ((s.1.length : Nat) : Int) := by omega
   obtain ⟨a, i1, i2, _⟩ := ty_at (ht.arr U) i hlt
   have fx : (s.1[i]).1.length ≤ 1048576 := fs.2.2.1 _ (List.getElem_mem hlt)
   have hnm : (tNames s).getD i [] = (s.1[i]).1 := getD_map _ _ i hlt
   generalize s.1[i] = x at i1 i2 fx hnm
   have s1 := var_al (E := E0) zeroV_100 U
   have s2 := var_st (E := E0) (e := 100) tsize_100 U (zs := [.str [], .int .i64 0, .bool false, .bool false, .bool false, .bool false]) (xs := (tyC x)) rfl rfl
   have hW : Low S.length (S.set b O) (U ++ [.cells (tyC x) 100]) := hlow.trans (Low.app hlow.1 _)
   have l1 : opLoad E0 (U ++ [.cells (tyC x) 100]) 9 (.ref U.length 0) = some (.str x.1) := var_ld1 isAggO_9 (getS0 _) rfl
   obtain ⟨a1, a2, a3, a4, a5⟩ := facts _ hW
   have hqW : (U ++ [Ob.cells (tyC x) 100])[S.length]? = _ := get_more hq _
   have hrW : (U ++ [Ob.cells (tyC x) 100])[S.length + 1]? = _ := get_more hr _
   have sm := smallS_ok x.1 (U ++ [.cells (tyC x) 100]) fx
   have p1 := map_put (E := E0) Tryz.underlying80 Tryz.underlying9 hqW (smallS x.1) ((i : Nat) : Int)
   have iinc := wrap_inc i (by have := fs.1; have := fs.2.1; omega)
   repeat (first | refine WS.adm rfl ?_ | refine WS.region (by simp only [EV, TY, h16, h17, hlt', ↓reduceIte, Nat.reduceEqDiff]; with_reducible rfl) ?_)
   refine WS.ct0 ?_
   repeat (first | refine WS.adm rfl ?_ | refine WS.region (by simp only [EV, TY, lget, h15, h17, i1, i2, s1, s2, ↓reduceIte, Nat.reduceEqDiff]; with_reducible rfl) ?_)
   refine WS.drawb (b := [0, 1, 3, 7, 15, 0, 32, 96, 0, 511]) (by kernel_rfl) (by simp only [DL, isEff, isRead, Nat.reduceAdd, EV, TY,  lget, EV2, EV3, h0, a1, fa84_2, fa82_0, a4, fa100_0, l1, callV_60, sm, p1, Bool.false_or, Nat.reducePow, Nat.reduceDiv, Nat.reduceMod, ↓reduceIte, Nat.reduceEqDiff]; with_reducible rfl) ?_
   repeat (first | refine WS.adm rfl ?_ | refine WS.region (by simp only [EV, TY, h17, iinc, ↓reduceIte, Nat.reduceEqDiff]; with_reducible rfl) ?_)
   refine ih (s.1.length - (i + 1)) _ _ (by omega) ⟨i + 1, rfl, by omega, ?_, ?_, ?_, ?_, hW.trans (Low.set hW.1 (by omega)), by simp; omega, ?_, ?_⟩
   iterate 4 simp only [EV, h0, h15, h16, ↓reduceIte, Nat.reduceEqDiff, AT]
   ·rw [List.getElem?_set_self (lt_of_get hqW), idxU_succ, hnm]
   ·rw [List.getElem?_set_ne (by omega)]
    exact hrW
  ·have hlt' : ¬ ((i : Nat) : Int) < ((s.1.length : Nat) : Int) := by omega
   repeat (first | refine WS.adm rfl ?_ | refine WS.region (by simp only [EV, TY, h16, h17, hlt', ↓reduceIte, Nat.reduceEqDiff]; with_reducible rfl) ?_)
   refine WS.cf0 ?_
   refine WS.exit rfl ?_
   have : i = s.1.length := by omega
   subst this
   refine last _ _ ⟨?_, hlow, hlen, by simpa [idxL, tNames] using hq, hr⟩
   simp only [EV, h0, ↓reduceIte, Nat.reduceEqDiff, AT]
structure Sch (S : Store) (b : Nat) (tv kv : V) (q r : Nat) (s : SchD) : Prop where
 ob : S[b]? = some (objC tv kv 1 0 (.mapR q) (.mapR r))
 tt : S[q]? = some (.mp (mpC (idxL (tNames s))))
 kt : S[r]? = some (.mp (mpC (idxL (kNames s))))
 ty : PArr 6 rTy tv s.1
 cl : PArr 5 rCls kv s.2
 ft : fitS s
theorem Sch.pre {S U : Store} {b q r : Nat} {tv kv : V} {s : SchD} (h : Sch S b tv kv q r s) (hp : S <+: U) : Sch U b tv kv q r s := ⟨get_pre hp h.ob, get_pre hp h.tt, get_pre hp h.kt, h.ty, h.cl, h.ft⟩
theorem find_ok {S : Store} {b q r : Nat} {tv kv : V} {s : SchD} (h : Sch S b tv kv q r s) : vrun E0 (.fn 59) [.ref b 0] S = some (.ref b 5, S ++ [.cells [.ref b 0] 33]) := by
 refine fn_ws Tryz.func59 rfl ?_
 have hb : opBox S 33 (.ref b 0) = some (.ref S.length 0, S ++ [.cells [.ref b 0] 33]) := rfl
 have l1 : opLoad E0 (S ++ [.cells [.ref b 0] 33]) 33 (.ref S.length 0) = some (.ref b 0) := var_ld1 isAggO_33 (getS0 _) rfl
 have d1 := Do1_ok (f := .fn (.func 100) [] [.ref S.length 0]) (get_more h.ob [.cells [.ref b 0] 33])
 repeat (first | refine WS.adm rfl ?_ | refine WS.region (by simp only [EV, TY, lget, EV2, hb, l1, fa84_1, fa84_2, callV_99, d1, ↓reduceIte, Nat.reduceEqDiff]; with_reducible rfl) ?_)
 refine WS.ret ⟨.inr rfl, [.ref b 5], ?_, rfl⟩
 rw [show Tryz.f59.results.toList = [.tmp 2] from rfl]
 simp only [resultV, EV, ↓reduceIte, Nat.reduceEqDiff]
 rfl
theorem findFirst_ok {S : Store} {b : Nat} {tv kv : V} {s : SchD} (h : S[b]? = some (objC tv kv 0 0 .mapN .mapN)) (ht : PArr 6 rTy tv s.1) (hk : PArr 5 rCls kv s.2) (fs : fitS s) :
  ∃ T q r, vrun E0 (.fn 59) [.ref b 0] S = some (.ref b 5, T) ∧ Sch T b tv kv q r s ∧ Low S.length (S.set b (objC tv kv 1 0 (.mapR q) (.mapR r))) T := by
 have hb := lt_of_get h
 have hbx : opBox S 33 (.ref b 0) = some (.ref S.length 0, S ++ [.cells [.ref b 0] 33]) := rfl
 have l1 : opLoad E0 (S ++ [.cells [.ref b 0] 33]) 33 (.ref S.length 0) = some (.ref b 0) := var_ld1 isAggO_33 (getS0 _) rfl
 have h1 := get_more h [Ob.cells [.ref b 0] 33]
 have hset : (S ++ [Ob.cells [.ref b 0] 33]).set b (objC tv kv 0 1 .mapN .mapN) = S.set b (objC tv kv 0 1 .mapN .mapN) ++ [Ob.cells [.ref b 0] 33] := List.set_append_left _ _ hb
 have h2 : ((S ++ [Ob.cells [.ref b 0] 33]).set b (objC tv kv 0 1 .mapN .mapN))[b]? = some (objC tv kv 0 1 .mapN .mapN) := List.getElem?_set_self (lt_of_get h1)
 have hp : ((S ++ [Ob.cells [.ref b 0] 33]).set b (objC tv kv 0 1 .mapN .mapN))[S.length]? = some (.cells [.ref b 0] 33) := by
  rw [List.getElem?_set_ne (by omega), getS0]; rfl
 obtain ⟨T, g1, g2, g3, g4⟩ := find1_ok h2 hp ht hk fs
 have hl : ((S ++ [Ob.cells [.ref b 0] 33]).set b (objC tv kv 0 1 .mapN .mapN)).length = S.length + 1 := by simp
 rw [hl] at g2 g3 g4
 have hT : T[b]? = some (objC tv kv 0 1 (.mapR (S.length + 1)) (.mapR (S.length + 1 + 1))) := by
  rw [g2.2 b (by omega), List.getElem?_set_self (by rw [hl]; omega)]
 have d0 := Do0_ok h1 hT g1
 have hTl : S.length + 1 ≤ T.length := g2.1
 have hbT : b < T.length := by omega
 refine ⟨T.set b (objC tv kv 1 0 (.mapR (S.length + 1)) (.mapR (S.length + 1 + 1))), S.length + 1, S.length + 1 + 1, ?_, ⟨List.getElem?_set_self hbT, ?_, ?_, ht, hk, fs⟩, ?_, ?_⟩
 ·refine fn_ws Tryz.func59 rfl ?_
  have l2 : opLoad E0 (T.set b (objC tv kv 1 0 (.mapR (S.length + 1)) (.mapR (S.length + 1 + 1)))) 33 (.ref S.length 0) = some (.ref b 0) := by
   refine var_ld1 isAggO_33 (cs := [.ref b 0]) (e := 33) ?_ rfl
   rw [List.getElem?_set_ne (by omega), g2.2 S.length (by omega), List.getElem?_set_ne (by omega)]
   exact hp
  repeat (first | refine WS.adm rfl ?_ | refine WS.region (by simp only [EV, TY, lget, EV2, hbx, l1, fa84_1, fa84_2, callV_99, d0, l2, ↓reduceIte, Nat.reduceEqDiff]; with_reducible rfl) ?_)
  refine WS.ret ⟨.inr rfl, [.ref b 5], ?_, rfl⟩
  rw [show Tryz.f59.results.toList = [.tmp 2] from rfl]
  simp only [resultV, EV, ↓reduceIte, Nat.reduceEqDiff]
  rfl
 ·rw [List.getElem?_set_ne (by omega)]; exact g3
 ·rw [List.getElem?_set_ne (by omega)]; exact g4
 ·simp; omega
 ·intro i hi
  by_cases he : b = i
  ·subst he
   rw [List.getElem?_set_self hbT, List.getElem?_set_self hb]
  ·rw [List.getElem?_set_ne he, List.getElem?_set_ne he, g2.2 i (by omega), List.getElem?_set_ne he, List.getElem?_set_ne he, List.getElem?_append_left hi]
theorem idxU_get (l : List (List UInt8)) (k : List UInt8) : ∀ i, (∃ j, j < i ∧ mget (idxU l i) k = some ((j : Nat) : Int) ∧ smallS (l.getD j []) = k ∧ ∀ m, j < m → m < i → smallS (l.getD m []) ≠ k) ∨ (mget (idxU l i) k = none ∧ ∀ j, j < i → smallS (l.getD j []) ≠ k)
 | 0 => .inr ⟨rfl, fun j hj => by omega⟩
 | i + 1 => by
  rw [idxU_succ, mget_put]
  by_cases hk : k = smallS (l.getD i [])
  ·rw [if_pos hk]
   exact .inl ⟨i, by omega, rfl, hk.symm, fun m h1 h2 => by omega⟩
  ·rw [if_neg hk]
   rcases idxU_get l k i with ⟨j, h1, h2, h3, h4⟩ | ⟨h1, h2⟩
   ·refine .inl ⟨j, by omega, h2, h3, fun m g1 g2 => ?_⟩
    rcases Nat.lt_or_ge m i with h | h
    ·exact h4 m g1 h
    ·obtain rfl : m = i := by omega
     exact fun e => hk e.symm
   ·refine .inr ⟨h1, fun j hj => ?_⟩
    rcases Nat.lt_or_ge j i with h | h
    ·exact h2 j h
    ·obtain rfl : j = i := by omega
     exact fun e => hk e.symm
def typ (s : SchD) (n : List UInt8) : Option ATy := match mget (idxL (tNames s)) (smallS n) with | some i => s.1[i.toNat]? | none => none
theorem typ_some {s : SchD} {n : List UInt8} {i : Int} (h : mget (idxL (tNames s)) (smallS n) = some i) : ∃ j, ∃ hj : j < s.1.length, i = ((j : Nat) : Int) ∧ typ s n = some s.1[j] := by
 rcases idxU_get (tNames s) (smallS n) (tNames s).length with ⟨j, h1, h2, h3, h4⟩ | ⟨h1, _⟩
 ·have : idxU (tNames s) (tNames s).length = idxL (tNames s) := rfl
  rw [this, h] at h2
  have hj : j < s.1.length := by simpa [tNames] using h1
  refine ⟨j, hj, Option.some.inj h2, ?_⟩
  unfold typ
  rw [h, Option.some.inj h2]
  simp [hj]
 ·have : idxU (tNames s) (tNames s).length = idxL (tNames s) := rfl
  rw [this, h] at h1
  cases h1
theorem typ_none {s : SchD} {n : List UInt8} (h : mget (idxL (tNames s)) (smallS n) = none) : typ s n = none := by unfold typ; rw [h]
def zTy : List V := [.str [], .int .i64 0, .bool false, .bool false, .bool false, .bool false]
def typV (o : Option ATy) : List V := match o with | some t => tyC t | none => zTy
theorem retCT {E : Env} {k : List Todo} {fr : Fr} {S S' : Store} {f : FuncId} {fn : Func} {a t : Nat} {u : TypeId} {v v' w : V} (hr : fn.results.toList = [.cell a u, .tmp t]) (hk : E.keep f = false) (hv : opLoad E S' u (lget fr a) = some v) (hp : S <+: S') (hf : frz 6 S.length S' (.tup [v, w]) = some (.tup [v', w])) (hw : lget fr t = w) : WS E (.code .ret :: k) fr S' (FnEnds E f fn S (.tup [v', w], S)) := by
 refine WS.ret ⟨.inr rfl, [v, w], ?_, ?_⟩
 ·rw [hr]
  simp only [resultV, hv, hw, Option.map_some, Option.bind_eq_bind, Option.bind_some]
 ·rw [hk]
  exact freezeRet_pre hp hf
theorem build_100 : opBuild E0 100 [] = some (.agg zTy) := by kernel_rfl
theorem Type2_ok {S : Store} {b q r : Nat} {tv kv : V} {s : SchD} (h : Sch S b tv kv q r s) (n : List UInt8) (hn : n.length ≤ 1048576) :
  vrun E0 (.fn 64) [.ref b 0, .str n] S = some (.tup [.agg (typV (typ s n)), .bool (typ s n).isSome], S) := by
 refine fn_ws Tryz.func64 rfl ?_
 have s1 := var_al (E := E0) zeroV_100 S
 have hf := find_ok (h.pre (List.prefix_append S [.cells zTy 100]))
 generalize hU : S ++ [Ob.cells zTy 100] = U at hf
 have hUe : S ++ [Ob.cells [.str [], .int .i64 0, .bool false, .bool false, .bool false, .bool false] 100] = U := hU
 rw [hUe] at s1
 have hSU : S <+: U := ⟨_, hU⟩
 have hb : U[b]? = _ := get_pre hSU h.ob
 have hb2 : (U ++ [Ob.cells [.ref b 0] 33])[b]? = _ := get_more hb _
 have l0 : opLoad E0 U 80 (.ref b 5) = some (.mapR q) := var_ld1 isAggO_80 hb rfl
 have l1 : opLoad E0 (U ++ [Ob.cells [.ref b 0] 33]) 80 (.ref b 5) = some (.mapR q) := var_ld1 isAggO_80 hb2 rfl
 have sm := smallS_ok n (U ++ [Ob.cells [.ref b 0] 33]) hn
 obtain ⟨g1, _⟩ := map_get (E := E0) Tryz.underlying80 Tryz.underlying9 zeroV_3 (get_more (get_pre hSU h.tt) [.cells [.ref b 0] 33]) (smallS n)
 have hv : (U ++ [Ob.cells [.ref b 0] 33])[S.length]? = some (.cells zTy 100) := get_more (by rw [← hU]; exact getS0 _) _
 have hpre : S <+: U ++ [Ob.cells [.ref b 0] 33] := hSU.trans (List.prefix_append _ _)
 cases hq : mget (idxL (tNames s)) (smallS n) with
 | none =>
  rw [hq] at g1
  rw [typ_none hq]
  have st := var_set (E := E0) (e := 100) tsize_100 hv (xs := zTy) rfl rfl
  have ld : opLoad E0 ((U ++ [Ob.cells [.ref b 0] 33]).set S.length (.cells zTy 100)) 100 (.ref S.length 0) = some (.agg zTy) := var_ld isAggO_100 tsize_100 (List.getElem?_set_self (lt_of_get hv)) rfl
  repeat (first | refine WS.adm rfl ?_ | refine WS.region (by simp only [EV, TY, lget, s1, ↓reduceIte, Nat.reduceEqDiff]; with_reducible rfl) ?_)
  refine WS.drawb (b := [0, 1, 3, 7, 15, 0, 35, 127, 255, 511, 511, 1023, 4095]) (by kernel_rfl) (by simp only [DL, isEff, isRead, Nat.reduceAdd, EV, TY,  lget, EV2, EV3, callV_59, hf, fa82_0, l0, l1, callV_60, sm, g1, Option.isSome_none, Bool.false_or, Nat.reducePow, Nat.reduceDiv, Nat.reduceMod, ↓reduceIte, Nat.reduceEqDiff]; with_reducible rfl) ?_
  repeat (first | refine WS.adm rfl ?_ | refine WS.rl ?_)
  refine WS.ct0 ?_
  repeat (first | refine WS.adm rfl ?_ | refine WS.region (by simp only [EV, TY, lget, build_100, st, ↓reduceIte, Nat.reduceEqDiff]; with_reducible rfl) ?_)
  refine retCT (a := 4) (t := 5) (u := 100) (v := .agg zTy) (v' := .agg zTy) rfl rfl ?_ ?_ ?_ ?_
  ·simp only [EV, lget, ↓reduceIte, Nat.reduceEqDiff, AT]
   exact ld
  ·have : Low S.length S ((U ++ [Ob.cells [.ref b 0] 33]).set S.length (.cells zTy 100)) := by
    have h1 : Low S.length S (U ++ [Ob.cells [.ref b 0] 33]) := by
     rw [← hU]
     exact (Low.app (Nat.le_refl _) _).trans (Low.app (by simp) _)
    exact h1.trans (Low.set h1.1 (Nat.le_refl _))
   exact this.pre
  ·rfl
  ·simp only [EV, lget, ↓reduceIte, Nat.reduceEqDiff, AT]
   rfl
 | some i =>
  rw [hq] at g1
  obtain ⟨j, hj, rfl, ht⟩ := typ_some hq
  rw [ht]
  obtain ⟨a, i1, i2, _⟩ := ty_at (h.ty.arr (U ++ [Ob.cells [.ref b 0] 33])) j hj
  have l2 : opLoad E0 (U ++ [Ob.cells [.ref b 0] 33]) 22 (.ref b 0) = some tv := var_ld1 isAggO_22 hb2 rfl
  generalize s.1[j] = t at i2
  have st := var_set (E := E0) (e := 100) tsize_100 hv (xs := tyC t) rfl rfl
  have ld : opLoad E0 ((U ++ [Ob.cells [.ref b 0] 33]).set S.length (.cells (tyC t) 100)) 100 (.ref S.length 0) = some (.agg (tyC t)) := var_ld isAggO_100 tsize_100 (List.getElem?_set_self (lt_of_get hv)) rfl
  repeat (first | refine WS.adm rfl ?_ | refine WS.region (by simp only [EV, TY, lget, s1, ↓reduceIte, Nat.reduceEqDiff]; with_reducible rfl) ?_)
  refine WS.drawb (b := [0, 1, 3, 7, 15, 0, 35, 127, 255, 511, 511, 1023, 4095]) (by kernel_rfl) (by simp only [DL, isEff, isRead, Nat.reduceAdd, EV, TY,  lget, EV2, EV3, callV_59, hf, fa82_0, l0, l1, callV_60, sm, g1, Option.isSome_some, Option.getD_some, Bool.false_or, Nat.reducePow, Nat.reduceDiv, Nat.reduceMod, ↓reduceIte, Nat.reduceEqDiff]; with_reducible rfl) ?_
  repeat (first | refine WS.adm rfl ?_ | refine WS.rl ?_)
  refine WS.cf0 ?_
  repeat (first | refine WS.adm rfl ?_ | refine WS.region (by simp only [EV, TY, lget, EV2, fa84_0, fa25_0, l2, i1, i2, st, ↓reduceIte, Nat.reduceEqDiff]; with_reducible rfl) ?_)
  refine retCT (a := 4) (t := 5) (u := 100) (v := .agg (tyC t)) (v' := .agg (tyC t)) rfl rfl ?_ ?_ ?_ ?_
  ·simp only [EV, lget, ↓reduceIte, Nat.reduceEqDiff, AT]
   exact ld
  ·have : Low S.length S ((U ++ [Ob.cells [.ref b 0] 33]).set S.length (.cells (tyC t) 100)) := by
    have h1 : Low S.length S (U ++ [Ob.cells [.ref b 0] 33]) := by
     rw [← hU]
     exact (Low.app (Nat.le_refl _) _).trans (Low.app (by simp) _)
    exact h1.trans (Low.set h1.1 (Nat.le_refl _))
   exact this.pre
  ·rfl
  ·simp only [EV, lget, ↓reduceIte, Nat.reduceEqDiff, AT]
   rfl
end Go.Proofs.YtmmjlgocihhkcaaGreatDoor
