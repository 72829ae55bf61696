import Derived.Test.YtmmjlgocihhkcaaGreatDoorPartR
set_option linter.all false
namespace Go.Proofs.YtmmjlgocihhkcaaGreatDoor
open Go Go.Vm
set_option maxRecDepth 100000
set_option maxHeartbeats 8000000
theorem idx_lt {l : List (List UInt8)} {k : List UInt8} {i : Int} (h : mget (idxL l) k = some i) : ∃ j : Nat, j < l.length ∧ i = ((j : Nat) : Int) := by
 have e : idxL l = idxU l l.length := rfl
 rw [e] at h
 rcases idxU_get l k l.length with ⟨j, h1, h2, _⟩ | ⟨h1, _⟩
 ·rw [h] at h2
  exact ⟨j, h1, Option.some.inj h2⟩
 ·rw [h] at h1
  cases h1
theorem build2_192 (U : Store) {m y : V} {a b : List (List UInt8)} (hm : PArr 1 rS m a) (hy : PArr 1 rS y b) : opBuildSlice E0 U 192 2 [(0, m), (1, y)] = some (.slR U.length 0 2 2 1, U ++ [.cells [m, y] 28]) := by
 have e1 := flatV.solid hm.flat
 have e2 := flatV.vcells hm.flat
 have e3 := flatV.solid hy.flat
 have e4 := flatV.vcells hy.flat
 have he := ety_192.el
 unfold opBuildSlice
 simp [he, tsize_28, zeroV_28, fillV, repl, splice, e1, e2, e3, e4, (show solid V.slN = true from rfl), (show vcells V.slN = [V.slN] from rfl)]
def okMust (a b : List (List UInt8)) : Prop := a.length + b.length ≤ 1048576 ∧ (∀ n ∈ a, n.length ≤ 1048576) ∧ ∀ n ∈ b, n.length ≤ 1048576
theorem asks_ok {U : Store} {b q r x : Nat} {tv kv m y : V} {s : SchD} {a c : List (List UInt8)} (h : Sch U b tv kv q r s) (hx : U[x]? = some (.cells [.ref b 0] 33)) (hm : PArr 1 rS m a) (hy : PArr 1 rS y c) (ok : okMust a c) :
  ∃ w g, vrun E0 (.fn 102) [.slR U.length 0 2 2 1] (U ++ [.cells [m, y] 28]) = some (w, U ++ [.cells [m, y] 28]) ∧ vrun E0 (.fn 65) [w, .fn (.func 103) [] [.ref x 0]] (U ++ [.cells [m, y] 28]) = some (.bool g, U ++ [.cells [m, y] 28]) := by
 have hL : Arr 1 rStrs (U ++ [.cells [m, y] 28]) (.slR U.length 0 2 2 1) [a, c] := by
  refine ⟨[m, y], ⟨[m], [y], rfl, rfl, ⟨m, rfl, hm⟩, ⟨[y], [], rfl, rfl, ⟨y, rfl, hy⟩, rfl⟩⟩, rfl, .inr (.inr ⟨U.length, 0, 2, [m, y], 28, rfl, Nat.le_refl _, getS0 _, rfl⟩)⟩
 obtain ⟨w, h1, h2⟩ := Concat_ok hL (by simp) (by simpa using ok.1)
 have hf : ([a, c] : List (List (List UInt8))).flatten = a ++ c := by simp
 rw [hf] at h2
 refine ⟨w, _, h1, ContainsFunc_ok (PArr.arr h2 _) (by rw [List.length_append]; exact ok.1) (fun n => !(typ s n).isSome) fun n hn => ?_⟩
 rw [callV_103]
 have hl : n.length ≤ 1048576 := by
  rcases List.mem_append.1 hn with h | h
  ·exact ok.2.1 n h
  ·exact ok.2.2 n h
 exact unknown_ok (h.pre (List.prefix_append _ _)) (get_more hx _) n hl
theorem rightClass_ok {S : Store} {b q r : Nat} {tv kv : V} {s : SchD} (h : Sch S b tv kv q r s) (i : Nat) (hi : i < s.2.length) : ∃ g, vrun E0 (.fn 62) [.ref b 0, .int .i64 (i : Nat)] S = some (.bool g, S) := by
 suffices g : ∃ rr, (∃ g, rr = (.bool g, S)) ∧ vrun E0 (.fn 62) [.ref b 0, .int .i64 (i : Nat)] S = some rr by
  obtain ⟨rr, ⟨g, rfl⟩, h3⟩ := g
  exact ⟨g, h3⟩
 refine fn_wsP Tryz.func62 rfl ?_
 have hbx : opBox S 33 (.ref b 0) = some (.ref S.length 0, S ++ [.cells [.ref b 0] 33]) := rfl
 have ha := h.pre (List.prefix_append S [.cells [.ref b 0] 33])
 have hpS : S <+: S ++ [.cells [.ref b 0] 33] := List.prefix_append _ _
 have hx0 : (S ++ [Ob.cells [.ref b 0] 33])[S.length]? = some (.cells [.ref b 0] 33) := getS0 _
 have hl0 : (S ++ [Ob.cells [.ref b 0] 33]).length = S.length + 1 := by simp
 generalize S ++ [Ob.cells [.ref b 0] 33] = A at hbx ha hpS hx0 hl0
 have l1 : opLoad E0 A 33 (.ref S.length 0) = some (.ref b 0) := var_ld1 isAggO_33 hx0 rfl
 have l2 : opLoad E0 A 23 (.ref b 1) = some kv := var_ld1 isAggO_23 ha.ob rfl
 obtain ⟨a, m, y, i1, i2, hm, hy, _⟩ := cl_at (ha.cl.arr A) i hi
 have ok := h.ft.2.2.2 _ (List.getElem_mem hi)
 generalize s.2[i] = k at i2 hm hy ok
 have s1 := var_al (E := E0) zeroV_121 A
 have s2 := var_st (E := E0) (e := 121) tsize_121 A (zs := [.str [], .int .i64 0, .str [], .slN, .slN]) (xs := [.str k.1, .int .i64 k.2.1, .str k.2.2.1, m, y]) rfl rfl
 have hv : (A ++ [Ob.cells [.str k.1, .int .i64 k.2.1, .str k.2.2.1, m, y] 121])[S.length + 1]? = some (.cells [.str k.1, .int .i64 k.2.1, .str k.2.2.1, m, y] 121) := by
  rw [← hl0]; exact getS0 _
 rw [hl0] at s1 s2
 have hB := ha.pre (List.prefix_append A [.cells [.str k.1, .int .i64 k.2.1, .str k.2.2.1, m, y] 121])
 have hpB : S <+: A ++ [.cells [.str k.1, .int .i64 k.2.1, .str k.2.2.1, m, y] 121] := hpS.trans (List.prefix_append _ _)
 have hxB : (A ++ [Ob.cells [.str k.1, .int .i64 k.2.1, .str k.2.2.1, m, y] 121])[S.length]? = some (.cells [.ref b 0] 33) := get_more hx0 _
 generalize A ++ [Ob.cells [.str k.1, .int .i64 k.2.1, .str k.2.2.1, m, y] 121] = B at s2 hv hB hpB hxB
 have k1 : opLoad E0 B 9 (.ref (S.length + 1) 0) = some (.str k.1) := var_ld1 isAggO_9 hv rfl
 have k2 : opLoad E0 B 3 (.ref (S.length + 1) 1) = some (.int .i64 k.2.1) := var_ld1 isAggO_3 hv rfl
 have k3 : opLoad E0 B 9 (.ref (S.length + 1) 2) = some (.str k.2.2.1) := var_ld1 isAggO_9 hv rfl
 have ty := Type_ok k.1 B ok.1
 repeat (first | refine WS.adm rfl ?_ | refine WS.region (by simp only [EV, TY, lget, EV2, hbx, l1, fa84_0, fa25_1, l2, i1, i2, s1, s2, ↓reduceIte, Nat.reduceEqDiff]; with_reducible rfl) ?_)
 by_cases c1 : typeB k.1 = true
 ·by_cases c2 : k.2.1 < 0
  ·repeat (first | refine WS.adm rfl ?_ | refine WS.region (by simp only [EV, TY, lget, fa121_0, fa121_1, k1, k2, callV_61, ty, c1, c2, ↓reduceIte, Nat.reduceEqDiff]; with_reducible rfl) ?_)
   refine WS.cond_true (by simp only [EV, c2, ↓reduceIte, Nat.reduceEqDiff]) ?_
   repeat (first | refine WS.adm rfl ?_ | refine WS.rl ?_)
   refine WS.ret1P (t := 4) rfl rfl (v := .bool false) ?_ hpB (frz_bool _ _ _) ⟨false, rfl⟩
   simp only [EV, ↓reduceIte, Nat.reduceEqDiff, AT]
  by_cases c3 : 2 < k.2.1
  ·repeat (first | refine WS.adm rfl ?_ | refine WS.region (by simp only [EV, TY, lget, fa121_0, fa121_1, k1, k2, callV_61, ty, c1, c2, c3, ↓reduceIte, Nat.reduceEqDiff]; with_reducible rfl) ?_)
   refine WS.cond_true (by simp only [EV, c3, ↓reduceIte, Nat.reduceEqDiff]) ?_
   repeat (first | refine WS.adm rfl ?_ | refine WS.rl ?_)
   refine WS.ret1P (t := 4) rfl rfl (v := .bool false) ?_ hpB (frz_bool _ _ _) ⟨false, rfl⟩
   simp only [EV, ↓reduceIte, Nat.reduceEqDiff, AT]
  repeat (first | refine WS.adm rfl ?_ | refine WS.region (by simp only [EV, TY, lget, fa121_0, fa121_1, k1, k2, callV_61, ty, c1, c2, c3, ↓reduceIte, Nat.reduceEqDiff]; with_reducible rfl) ?_)
  refine WS.cond_false (by simp only [EV, c3, ↓reduceIte, Nat.reduceEqDiff]) ?_
  repeat (first | refine WS.adm rfl ?_ | refine WS.region (by simp only [EV, TY, lget, fa121_2, k3, sne, ↓reduceIte, Nat.reduceEqDiff]; with_reducible rfl) ?_)
  refine WSjoin (fun fr U => lget fr 2 = .ref S.length 0 ∧ lget fr 5 = .ref (S.length + 1) 0 ∧ B <+: U) ?_ ?_
  ·rintro fr U ⟨f2, f5, hp⟩
   have hvU := get_pre hp hv
   have lm : opLoad E0 U 28 (.ref (S.length + 1) 3) = some m := var_ld1 isAggO_28 hvU rfl
   have ly : opLoad E0 U 28 (.ref (S.length + 1) 4) = some y := var_ld1 isAggO_28 hvU rfl
   have b2 := build2_192 U hm hy
   obtain ⟨w, g, w1, w2⟩ := asks_ok (hB.pre hp) (get_pre hp hxB) hm hy ⟨ok.2.2.1, ok.2.2.2.1, ok.2.2.2.2⟩
   repeat (first | refine WS.adm rfl ?_ | refine WS.region (by simp only [EV, TY, f2, f5, fa121_3, fa121_4, lm, ly, b2, callV_102, w1, callV_65, w2, ↓reduceIte, Nat.reduceEqDiff]; with_reducible rfl) ?_)
   refine WS.ret1P (t := 4) rfl rfl (v := .bool (!g)) ?_ ((hpB.trans hp).trans (List.prefix_append _ _)) (frz_bool _ _ _) ⟨_, rfl⟩
   simp only [EV, ↓reduceIte, Nat.reduceEqDiff, AT]
  ·intro join
   by_cases c4 : k.2.2.1 = []
   ·refine WS.cond_false (by simp only [EV, c4, ↓reduceIte, Nat.reduceEqDiff]) ?_
    refine WS.skip ?_
    refine join _ _ ⟨?_, ?_, List.prefix_refl _⟩
    iterate 2 simp only [EV, lget, ↓reduceIte, Nat.reduceEqDiff, AT]
   ·refine WS.cond_true (by simp only [EV, c4, ↓reduceIte, Nat.reduceEqDiff]) ?_
    have hfd := find_ok hB
    have hB2 := hB.pre (List.prefix_append B [.cells [.ref b 0] 33])
    have hv2 : (B ++ [Ob.cells [.ref b 0] 33])[S.length + 1]? = some (.cells [.str k.1, .int .i64 k.2.1, .str k.2.2.1, m, y] 121) := get_more hv _
    have hx2 : (B ++ [Ob.cells [.ref b 0] 33])[S.length]? = some (.cells [.ref b 0] 33) := get_more hxB _
    have hp2 : B <+: B ++ [Ob.cells [.ref b 0] 33] := List.prefix_append _ _
    have l0 : opLoad E0 B 33 (.ref S.length 0) = some (.ref b 0) := var_ld1 isAggO_33 hxB rfl
    generalize B ++ [Ob.cells [.ref b 0] 33] = C at hfd hB2 hv2 hx2 hp2
    have l0' : opLoad E0 C 33 (.ref S.length 0) = some (.ref b 0) := var_ld1 isAggO_33 hx2 rfl
    have l3 : opLoad E0 C 80 (.ref b 6) = some (.mapR r) := var_ld1 isAggO_80 hB2.ob rfl
    have l4 : opLoad E0 C 9 (.ref (S.length + 1) 2) = some (.str k.2.2.1) := var_ld1 isAggO_9 hv2 rfl
    have l5 : opLoad E0 C 23 (.ref b 1) = some kv := var_ld1 isAggO_23 hB2.ob rfl
    have l6 : opLoad E0 C 3 (.ref (S.length + 1) 1) = some (.int .i64 k.2.1) := var_ld1 isAggO_3 hv2 rfl
    have sm := smallS_ok k.2.2.1 C ok.2.1
    obtain ⟨g1, _⟩ := map_get (E := E0) Tryz.underlying80 Tryz.underlying9 zeroV_3 hB2.kt (smallS k.2.2.1)
    have l0b := l0
    have l3b := l3
    rw [ld_ref isAggO_33] at l0b
    rw [ld_ref isAggO_80] at l3b
    have l4b := k3
    rw [ld_ref isAggO_9] at l4b
    have fin : ∀ fr, lget fr 2 = .ref S.length 0 → lget fr 5 = .ref (S.length + 1) 0 → True := fun _ _ _ => trivial
    cases hq : mget (idxL (kNames s)) (smallS k.2.2.1) with
    | none =>
     rw [hq] at g1
     repeat refine WS.adm rfl ?_
     refine WS.drawb (b := [0, 1, 3, 7, 15, 0, 32, 99, 255, 511, 1023, 1023, 2047, 8191]) (by kernel_rfl) (by simp only [DL, isEff, isRead, Nat.reduceAdd, EV, TY,  lget, EV2, EV3, l0, l0b, callV_59, hfd, fa82_1, l3, l3b, fa121_2, k3, l4, l4b, callV_60, sm, g1, Option.isSome_none, Bool.false_or, Nat.reducePow, Nat.reduceDiv, Nat.reduceMod, ↓reduceIte, Nat.reduceEqDiff]; with_reducible rfl) ?_
     repeat refine WS.adm rfl ?_
     refine WS.draw (by simp only [DL, evDraw_guard, isEff, isRead, EV, TY, lget, EV2, ↓reduceIte, Nat.reduceEqDiff]; with_reducible rfl) ?_
     refine WS.ct0 ?_
     repeat (first | refine WS.adm rfl ?_ | refine WS.rl ?_)
     refine WS.ret1P (t := 4) rfl rfl (v := .bool false) ?_ (hpB.trans hp2) (frz_bool _ _ _) ⟨false, rfl⟩
     simp only [EV, ↓reduceIte, Nat.reduceEqDiff, AT]
    | some z =>
     rw [hq] at g1
     obtain ⟨j, hj, rfl⟩ := idx_lt hq
     have hj' : j < s.2.length := by simpa [kNames] using hj
     obtain ⟨a2, m2, y2, j1, j2, _, _, a3, j3, j4⟩ := cl_at (hB2.cl.arr C) j hj'
     generalize s.2[j] = k2' at j2 j4
     repeat refine WS.adm rfl ?_
     refine WS.drawb (b := [0, 1, 3, 7, 15, 0, 32, 99, 255, 511, 1023, 1023, 2047, 8191]) (by kernel_rfl) (by simp only [DL, isEff, isRead, Nat.reduceAdd, EV, TY,  lget, EV2, EV3, l0, l0b, callV_59, hfd, fa82_1, l3, l3b, fa121_2, k3, l4, l4b, callV_60, sm, g1, Option.isSome_some, Option.getD_some, Bool.false_or, Nat.reducePow, Nat.reduceDiv, Nat.reduceMod, ↓reduceIte, Nat.reduceEqDiff]; with_reducible rfl) ?_
     repeat refine WS.adm rfl ?_
     by_cases c5 : ((i : Nat) : Int) ≤ ((j : Nat) : Int)
     ·refine WS.draw (by simp only [DL, evDraw_guard, isEff, isRead, EV, TY, lget, EV2, c5, ↓reduceIte, Nat.reduceEqDiff]; with_reducible rfl) ?_
      refine WS.cond_true (by simp only [EV, c5, ↓reduceIte, Nat.reduceEqDiff]) ?_
      repeat (first | refine WS.adm rfl ?_ | refine WS.rl ?_)
      refine WS.ret1P (t := 4) rfl rfl (v := .bool false) ?_ (hpB.trans hp2) (frz_bool _ _ _) ⟨false, rfl⟩
      simp only [EV, ↓reduceIte, Nat.reduceEqDiff, AT]
     ·cases c6 : (k2'.2.1 != 0) with
      | false =>
       refine WS.draw (by simp only [DL, evDraw_guard, isEff, isRead, EV, TY, lget, EV2, c5, l0', fa84_0, fa25_1, l5, j1, j3, j4, c6, ↓reduceIte, Nat.reduceEqDiff]; with_reducible rfl) ?_
       refine WS.cond_false (by simp only [EV, c5, c6, ↓reduceIte, Nat.reduceEqDiff]) ?_
       refine WS.skip ?_
       refine join _ _ ⟨?_, ?_, hp2⟩
       iterate 2 simp only [EV, lget, ↓reduceIte, Nat.reduceEqDiff, AT]
      | true =>
       cases c7 : (k2'.2.1 != k.2.1) with
       | true =>
        refine WS.draw (by simp only [DL, evDraw_guard, isEff, isRead, EV, TY, lget, EV2, c5, l0', fa84_0, fa25_1, l5, j1, j3, j4, c6, fa121_1, l6, c7, ↓reduceIte, Nat.reduceEqDiff]; with_reducible rfl) ?_
        refine WS.cond_true (by simp only [EV, c5, c6, c7, ↓reduceIte, Nat.reduceEqDiff]) ?_
        repeat (first | refine WS.adm rfl ?_ | refine WS.rl ?_)
        refine WS.ret1P (t := 4) rfl rfl (v := .bool false) ?_ (hpB.trans hp2) (frz_bool _ _ _) ⟨false, rfl⟩
        simp only [EV, ↓reduceIte, Nat.reduceEqDiff, AT]
       | false =>
        refine WS.draw (by simp only [DL, evDraw_guard, isEff, isRead, EV, TY, lget, EV2, c5, l0', fa84_0, fa25_1, l5, j1, j3, j4, c6, fa121_1, l6, c7, ↓reduceIte, Nat.reduceEqDiff]; with_reducible rfl) ?_
        refine WS.cond_false (by simp only [EV, c5, c6, c7, ↓reduceIte, Nat.reduceEqDiff]) ?_
        refine WS.skip ?_
        refine join _ _ ⟨?_, ?_, hp2⟩
        iterate 2 simp only [EV, lget, ↓reduceIte, Nat.reduceEqDiff, AT]
 ·have c1 : typeB k.1 = false := by simpa using c1
  repeat (first | refine WS.adm rfl ?_ | refine WS.region (by simp only [EV, TY, lget, fa121_0, fa121_1, k1, k2, callV_61, ty, c1, ↓reduceIte, Nat.reduceEqDiff]; with_reducible rfl) ?_)
  refine WS.ct0 ?_
  repeat (first | refine WS.adm rfl ?_ | refine WS.rl ?_)
  refine WS.ret1P (t := 4) rfl rfl (v := .bool false) ?_ hpB (frz_bool _ _ _) ⟨false, rfl⟩
  simp only [EV, ↓reduceIte, Nat.reduceEqDiff, AT]
theorem aty_neq (k : Int) (b1 b2 b3 b4 : Bool) : ∃ r, ∀ l, opBin E0 l .neq 100 (.agg [.str [], .int .i64 k, .bool b1, .bool b2, .bool b3, .bool b4]) (.agg [.str [], .int .i64 1, .bool false, .bool false, .bool false, .bool false]) = some (.bool r) := by
 have hq : ∀ l, eqOk E0 l 100 (.agg [.str [], .int .i64 k, .bool b1, .bool b2, .bool b3, .bool b4]) (.agg [.str [], .int .i64 1, .bool false, .bool false, .bool false, .bool false]) = true := by
  intro l
  show (!(E0.P.eqGuardType E0.P.depth 100)) = true
  kernel_rfl
 have hs : E0.P.stoodInHeld 100 = false := by kernel_rfl
 have h9 : ∀ a b : List UInt8, vEq E0 99 9 (.str a) (.str b) = some (a == b) := fun a b => by
  have hu : E0.P.underlying 9 = _ := Tryz.underlying9
  rw [vEq]
  simp only [hu]
 have h3 : ∀ a b : Int, vEq E0 99 3 (.int .i64 a) (.int .i64 b) = some (a == b) := fun a b => by
  have hu : E0.P.underlying 3 = _ := Tryz.underlying3
  rw [vEq.eq_def]
  simp only [hu, if_true]
 have h4 : ∀ a b : Bool, vEq E0 99 4 (.bool a) (.bool b) = some (a == b) := fun a b => by
  have hu : E0.P.underlying 4 = _ := Tryz.underlying4
  rw [vEq]
  simp only [hu]
 have hv : ∃ r, vEq E0 100 100 (.agg [.str [], .int .i64 k, .bool b1, .bool b2, .bool b3, .bool b4]) (.agg [.str [], .int .i64 1, .bool false, .bool false, .bool false, .bool false]) = some r := by
  have hu : E0.P.underlying 100 = _ := Tryz.underlying100
  rw [vEq.eq_def]
  simp only [hu, hs, Bool.false_eq_true, if_false]
  simp only [vEqs, partV, isAggO_9, isAggO_3, isAggO_4, Option.bind_eq_bind, Option.bind_some, Bool.false_eq_true, if_false, List.getElem?_cons_zero, List.getElem?_cons_succ, h9, h3, h4]
  cases hx : (k == 1) <;> cases b1 <;> cases b2 <;> cases b3 <;> cases b4 <;> simp
 obtain ⟨r, hv⟩ := hv
 refine ⟨!r, fun l => ?_⟩
 unfold opBin
 simp only [hq, if_true, hv]
 rfl
theorem len_map {S : Store} {q : Nat} {m : Tab} (h : S[q]? = some (.mp (mpC m))) : opLen E0 S 80 (.mapR q) = some (.int .i64 (m.length : Nat)) := by
 have hu : E0.P.underlying 80 = some (.map 9 3) := Tryz.underlying80
 unfold opLen
 simp [hu, h, mpC]
theorem build_100b : opBuild E0 100 [(1, .int .i64 1)] = some (.agg [.str [], .int .i64 1, .bool false, .bool false, .bool false, .bool false]) := by kernel_rfl
theorem right_ok {S : Store} {b : Nat} {tv kv : V} {s : SchD} (h : S[b]? = some (objC tv kv 0 0 .mapN .mapN)) (ht : PArr 6 rTy tv s.1) (hk : PArr 5 rCls kv s.2) (fs : fitS s) :
  ∃ g T, vrun E0 (.fn 28) [.ref b 0] S = some (.bool g, T) ∧ Low b S T ∧ (g = true → ∃ q r, Sch T b tv kv q r s ∧ (idxL (tNames s)).length = s.1.length) := by
 suffices g : ∃ rr, (∃ g T, rr = (.bool g, T) ∧ Low b S T ∧ (g = true → ∃ q r, Sch T b tv kv q r s ∧ (idxL (tNames s)).length = s.1.length)) ∧ vrun E0 (.fn 28) [.ref b 0] S = some rr by
  obtain ⟨rr, ⟨g, T, rfl, h2⟩, h3⟩ := g
  exact ⟨g, T, h3, h2⟩
 refine fn_wsP Tryz.func28 rfl ?_
 have hbl := lt_of_get h
 have l1 : opLoad E0 S 22 (.ref b 0) = some tv := var_ld1 isAggO_22 h rfl
 have l2 : opLoad E0 S 23 (.ref b 1) = some kv := var_ld1 isAggO_23 h rfl
 have n1 := (ht.arr S).len (E := E0) Tryz.underlying22
 have n2 := (hk.arr S).len (E := E0) Tryz.underlying23
 have bad : ∀ U : Store, Low b S U → ∃ g T, ((V.bool false, U) : V × Store) = (.bool g, T) ∧ Low b S T ∧ (g = true → ∃ q r, Sch T b tv kv q r s ∧ (idxL (tNames s)).length = s.1.length) := fun U hU => ⟨false, U, rfl, hU, fun e => by cases e⟩
 have low0 : Low b S S := Low.refl (by omega)
 repeat refine WS.adm rfl ?_
 repeat (first | refine WS.adm rfl ?_ | refine WS.rl ?_)
 refine WS.draw (by simp only [DL, isEff, isRead, EV, TY, lget, EV2, fa84_0, fa25_0, fa25_1, l1, l2, ↓reduceIte, Nat.reduceEqDiff]; with_reducible rfl) ?_
 by_cases a1 : ((s.1.length : Nat) : Int) < 1
 ·repeat (first | refine WS.adm rfl ?_ | refine WS.region (by simp only [EV, TY, lget, n1, a1, ↓reduceIte, Nat.reduceEqDiff]; with_reducible rfl) ?_)
  refine WS.cond_true (by simp only [EV, a1, ↓reduceIte, Nat.reduceEqDiff]) ?_
  repeat (first | refine WS.adm rfl ?_ | refine WS.rl ?_)
  refine WS.ret1kP (t := 2) rfl rfl (v := .bool false) ?_ (bad _ low0)
  simp only [EV, ↓reduceIte, Nat.reduceEqDiff, AT]
 by_cases a2 : (40 : Int) < ((s.1.length : Nat) : Int)
 ·repeat (first | refine WS.adm rfl ?_ | refine WS.region (by simp only [EV, TY, lget, n1, a1, a2, ↓reduceIte, Nat.reduceEqDiff]; with_reducible rfl) ?_)
  refine WS.cond_true (by simp only [EV, a1, a2, ↓reduceIte, Nat.reduceEqDiff]) ?_
  repeat (first | refine WS.adm rfl ?_ | refine WS.rl ?_)
  refine WS.ret1kP (t := 2) rfl rfl (v := .bool false) ?_ (bad _ low0)
  simp only [EV, ↓reduceIte, Nat.reduceEqDiff, AT]
 by_cases a3 : (20 : Int) < ((s.2.length : Nat) : Int)
 ·repeat (first | refine WS.adm rfl ?_ | refine WS.region (by simp only [EV, TY, lget, n1, n2, a1, a2, a3, ↓reduceIte, Nat.reduceEqDiff]; with_reducible rfl) ?_)
  refine WS.cond_true (by simp only [EV, a1, a2, a3, ↓reduceIte, Nat.reduceEqDiff]) ?_
  repeat (first | refine WS.adm rfl ?_ | refine WS.rl ?_)
  refine WS.ret1kP (t := 2) rfl rfl (v := .bool false) ?_ (bad _ low0)
  simp only [EV, ↓reduceIte, Nat.reduceEqDiff, AT]
 obtain ⟨T, q, r, c1, c2, c3⟩ := findFirst_ok h ht hk fs
 have lowT : Low b S T := ⟨by have := c3.1; omega, fun i hi => by rw [c3.2 i (by omega), List.getElem?_set_ne (by omega)]⟩
 have m1 : opLoad E0 T 80 (.ref b 5) = some (.mapR q) := var_ld1 isAggO_80 c2.ob rfl
 have m2 := len_map c2.tt
 have n3 := (ht.arr T).len (E := E0) Tryz.underlying22
 cases a4 : (((idxL (tNames s)).length : Nat) : Int) != ((s.1.length : Nat) : Int) with
 | true =>
  repeat (first | refine WS.adm rfl ?_ | refine WS.region (by simp only [EV, TY, lget, EV2, n1, n2, a1, a2, a3, callV_59, c1, fa82_0, m1, m2, n3, a4, ↓reduceIte, Nat.reduceEqDiff]; with_reducible rfl) ?_)
  refine WS.cond_true (by simp only [EV, a1, a2, a3, a4, ↓reduceIte, Nat.reduceEqDiff]) ?_
  repeat (first | refine WS.adm rfl ?_ | refine WS.rl ?_)
  refine WS.ret1kP (t := 2) rfl rfl (v := .bool false) ?_ (bad _ lowT)
  simp only [EV, ↓reduceIte, Nat.reduceEqDiff, AT]
 | false =>
  have hlen : (idxL (tNames s)).length = s.1.length := by have h' := a4; simp at h'; omega
  have f1 := find_ok c2
  have c4 := c2.pre (List.prefix_append T [.cells [.ref b 0] 33])
  have lowU : Low b S (T ++ [.cells [.ref b 0] 33]) := lowT.trans (Low.app lowT.1 _)
  generalize T ++ [Ob.cells [.ref b 0] 33] = U at f1 c4 lowU
  have m3 : opLoad E0 U 80 (.ref b 6) = some (.mapR r) := var_ld1 isAggO_80 c4.ob rfl
  have m4 := len_map c4.kt
  have n4 := (hk.arr U).len (E := E0) Tryz.underlying23
  cases a5 : (((idxL (kNames s)).length : Nat) : Int) != ((s.2.length : Nat) : Int) with
  | true =>
   repeat (first | refine WS.adm rfl ?_ | refine WS.region (by simp only [EV, TY, lget, EV2, n1, n2, a1, a2, a3, callV_59, c1, fa82_0, m1, m2, n3, a4, f1, fa82_1, m3, m4, n4, a5, ↓reduceIte, Nat.reduceEqDiff]; with_reducible rfl) ?_)
   refine WS.cond_true (by simp only [EV, a1, a2, a3, a4, a5, ↓reduceIte, Nat.reduceEqDiff]) ?_
   repeat (first | refine WS.adm rfl ?_ | refine WS.rl ?_)
   refine WS.ret1kP (t := 2) rfl rfl (v := .bool false) ?_ (bad _ lowU)
   simp only [EV, ↓reduceIte, Nat.reduceEqDiff, AT]
  | false =>
   have hpos : 0 < s.1.length := by omega
   obtain ⟨a, i1, i2, _⟩ := ty_at (ht.arr U) 0 hpos
   have fx := fs.2.2.1 _ (List.getElem_mem hpos)
   generalize hx : s.1[0] = x at i2 fx
   have i1' : opIndexAddr E0 22 tv (.int .i64 0) = some a := i1
   have s1 := var_al (E := E0) zeroV_100 U
   have s2 := var_st (E := E0) (e := 100) tsize_100 U (zs := [.str [], .int .i64 0, .bool false, .bool false, .bool false, .bool false]) (xs := tyC x) rfl rfl
   have s3 := var_set1 (E := E0) tsize_9 (getS0 (S := U) [Ob.cells (tyC x) 100]) (o := 0) (by simp [tyC]) (x := .str []) rfl rfl
   have c5 : Sch ((U ++ [Ob.cells (tyC x) 100]).set U.length (.cells ((tyC x).set 0 (.str [])) 100)) b tv kv q r s := by
    rw [setS0]
    exact c4.pre (List.prefix_append _ _)
   have lowW : Low b S ((U ++ [Ob.cells (tyC x) 100]).set U.length (.cells ((tyC x).set 0 (.str [])) 100)) := by
    rw [setS0]
    exact lowU.trans (Low.app lowU.1 _)
   have hWv : ((U ++ [Ob.cells (tyC x) 100]).set U.length (.cells ((tyC x).set 0 (.str [])) 100))[U.length]? = some (.cells ((tyC x).set 0 (.str [])) 100) := List.getElem?_set_self (by simp)
   generalize (U ++ [Ob.cells (tyC x) 100]).set U.length (.cells ((tyC x).set 0 (.str [])) 100) = W at s3 c5 lowW hWv
   obtain ⟨a', j1, j2, fa, j3, j4⟩ := ty_at (ht.arr W) 0 hpos
   rw [i1] at j1
   obtain rfl := Option.some.inj j1
   rw [hx] at j4
   have sm := smallS_ok x.1 W fx
   have lv : opLoad E0 W 100 (.ref U.length 0) = some (.agg [.str [], .int .i64 x.2.1, .bool x.2.2.1, .bool x.2.2.2.1, .bool x.2.2.2.2.1, .bool x.2.2.2.2.2]) := var_ld isAggO_100 tsize_100 hWv rfl
   obtain ⟨rr, hr⟩ := aty_neq x.2.1 x.2.2.1 x.2.2.2.1 x.2.2.2.2.1 x.2.2.2.2.2
   have n5 := (ht.arr W).len (E := E0) Tryz.underlying22
   repeat (first | refine WS.adm rfl ?_ | refine WS.region (by simp only [EV, TY, lget, EV2, n1, n2, a1, a2, a3, callV_59, c1, fa82_0, m1, m2, n3, a4, f1, fa82_1, m3, m4, n4, a5, ↓reduceIte, Nat.reduceEqDiff]; with_reducible rfl) ?_)
   refine WS.cond_false (by simp only [EV, a1, a2, a3, a4, a5, ↓reduceIte, Nat.reduceEqDiff]) ?_
   repeat (first | refine WS.adm rfl ?_ | refine WS.region (by simp only [EV, TY, lget, i1', i2, s1, s2, fa100_0, s3, ↓reduceIte, Nat.reduceEqDiff]; with_reducible rfl) ?_)
   cases cq : (smallS x.1 == ([111, 98, 106, 101, 99, 116, 99, 108, 97, 115, 115] : List UInt8)) with
   | false =>
    repeat (first | refine WS.adm rfl ?_ | refine WS.region (by simp only [EV, TY, lget, i1', j3, j4, callV_60, sm, cq, ↓reduceIte, Nat.reduceEqDiff]; with_reducible rfl) ?_)
    refine WS.cond_true (by simp only [EV, cq, ↓reduceIte, Nat.reduceEqDiff]) ?_
    repeat (first | refine WS.adm rfl ?_ | refine WS.rl ?_)
    refine WS.ret1kP (t := 2) rfl rfl (v := .bool false) ?_ (bad _ lowW)
    simp only [EV, ↓reduceIte, Nat.reduceEqDiff, AT]
   | true =>
    cases rr with
    | true =>
     repeat (first | refine WS.adm rfl ?_ | refine WS.region (by simp only [EV, TY, lget, i1', j3, j4, callV_60, sm, cq, lv, build_100b, hr, ↓reduceIte, Nat.reduceEqDiff]; with_reducible rfl) ?_)
     refine WS.cond_true (by simp only [EV, cq, ↓reduceIte, Nat.reduceEqDiff]) ?_
     repeat (first | refine WS.adm rfl ?_ | refine WS.rl ?_)
     refine WS.ret1kP (t := 2) rfl rfl (v := .bool false) ?_ (bad _ lowW)
     simp only [EV, ↓reduceIte, Nat.reduceEqDiff, AT]
    | false =>
     repeat (first | refine WS.adm rfl ?_ | refine WS.region (by simp only [EV, TY, lget, i1', j3, j4, callV_60, sm, cq, lv, build_100b, hr, ↓reduceIte, Nat.reduceEqDiff]; with_reducible rfl) ?_)
     refine WS.cond_false (by simp only [EV, cq, ↓reduceIte, Nat.reduceEqDiff]) ?_
     repeat (first | refine WS.adm rfl ?_ | refine WS.region (by simp only [EV, TY, lget, n5, ↓reduceIte, Nat.reduceEqDiff]; with_reducible rfl) ?_)
     refine WS.loopB (fun j fr X => ∃ i, j = s.1.length - i ∧ i ≤ s.1.length ∧ lget fr 0 = .ref b 0 ∧ lget fr 4 = kv ∧ lget fr 69 = tv ∧ lget fr 70 = .int .i64 (s.1.length : Nat) ∧ lget fr 71 = .int .i64 (i : Nat) ∧ Sch X b tv kv q r s ∧ Low b S X)
      (fun fr X => lget fr 0 = .ref b 0 ∧ lget fr 4 = kv ∧ Sch X b tv kv q r s ∧ Low b S X) (j := s.1.length) ?_ ?_ ?_
     ·refine ⟨0, by omega, by omega, ?_, ?_, ?_, ?_, ?_, c5, lowW⟩
      all_goals
       simp only [EV, lget, ↓reduceIte, Nat.reduceEqDiff, AT]
       try rfl
     ·rintro fr X ⟨h0, h4, d1, d2⟩
      have n6 := (hk.arr X).len (E := E0) Tryz.underlying23
      repeat (first | refine WS.adm rfl ?_ | refine WS.region (by simp only [EV, TY, h4, n6, ↓reduceIte, Nat.reduceEqDiff]; with_reducible rfl) ?_)
      refine WS.loopB (fun j fr Y => ∃ i, j = s.2.length - i ∧ i ≤ s.2.length ∧ lget fr 0 = .ref b 0 ∧ lget fr 91 = .int .i64 (s.2.length : Nat) ∧ lget fr 92 = .int .i64 (i : Nat) ∧ Y = X)
       (fun fr Y => Y = X) (j := s.2.length) ?_ ?_ ?_
      ·refine ⟨0, by omega, by omega, ?_, ?_, ?_, rfl⟩
       all_goals
        simp only [EV, h0, ↓reduceIte, Nat.reduceEqDiff, AT]
        try rfl
      ·rintro fr Y rfl
       repeat (first | refine WS.adm rfl ?_ | refine WS.rl ?_)
       refine WS.ret1kP (t := 2) rfl rfl (v := .bool true) ?_ ⟨true, Y, rfl, d2, fun _ => ⟨q, r, d1, hlen⟩⟩
       simp only [EV, ↓reduceIte, Nat.reduceEqDiff, AT]
      ·rintro j fr Y ⟨i, rfl, hi, h0, h91, h92, rfl⟩ ih last
       by_cases hlt : i < s.2.length
       ·have hlt' : ((i : Nat) : Int) < ((s.2.length : Nat) : Int) := by omega
        obtain ⟨g, hg⟩ := rightClass_ok d1 i hlt
        have iinc := wrap_inc i (by have := fs.2.1; omega)
        repeat (first | refine WS.adm rfl ?_ | refine WS.region (by simp only [EV, TY, h91, h92, hlt', ↓reduceIte, Nat.reduceEqDiff]; with_reducible rfl) ?_)
        refine WS.ct0 ?_
        cases g with
        | false =>
         repeat (first | refine WS.adm rfl ?_ | refine WS.region (by simp only [EV, TY, lget, h0, h92, callV_62, hg, ↓reduceIte, Nat.reduceEqDiff]; with_reducible rfl) ?_)
         refine WS.ct0 ?_
         repeat (first | refine WS.adm rfl ?_ | refine WS.rl ?_)
         refine WS.ret1kP (t := 2) rfl rfl (v := .bool false) ?_ (bad _ d2)
         simp only [EV, ↓reduceIte, Nat.reduceEqDiff, AT]
        | true =>
         repeat (first | refine WS.adm rfl ?_ | refine WS.region (by simp only [EV, TY, lget, h0, h92, callV_62, hg, ↓reduceIte, Nat.reduceEqDiff]; with_reducible rfl) ?_)
         refine WS.cf0 ?_
         repeat (first | refine WS.adm rfl ?_ | refine WS.region (by simp only [EV, TY, h92, iinc, ↓reduceIte, Nat.reduceEqDiff]; with_reducible rfl) ?_)
         refine ih (s.2.length - (i + 1)) _ _ (by omega) ⟨i + 1, rfl, by omega, ?_, ?_, ?_, rfl⟩
         iterate 3 simp only [EV, h0, h91, ↓reduceIte, Nat.reduceEqDiff, AT]
       ·have hlt' : ¬ ((i : Nat) : Int) < ((s.2.length : Nat) : Int) := by omega
        repeat (first | refine WS.adm rfl ?_ | refine WS.region (by simp only [EV, TY, h91, h92, hlt', ↓reduceIte, Nat.reduceEqDiff]; with_reducible rfl) ?_)
        refine WS.cf0 ?_
        refine WS.exit rfl ?_
        exact last _ _ rfl
     ·rintro j fr X ⟨i, rfl, hi, h0, h4, h69, h70, h71, d1, d2⟩ ih last
      by_cases hlt : i < s.1.length
      ·have hlt' : ((i : Nat) : Int) < ((s.1.length : Nat) : Int) := by omega
       obtain ⟨a, i1, i2, _⟩ := ty_at (ht.arr X) i hlt
       have fx := fs.2.2.1 _ (List.getElem_mem hlt)
       generalize s.1[i] = x at i2 fx
       have s1 := var_al (E := E0) zeroV_100 X
       have s2 := var_st (E := E0) (e := 100) tsize_100 X (zs := [.str [], .int .i64 0, .bool false, .bool false, .bool false, .bool false]) (xs := tyC x) rfl rfl
       have k1 : opLoad E0 (X ++ [.cells (tyC x) 100]) 9 (.ref X.length 0) = some (.str x.1) := var_ld1 isAggO_9 (getS0 _) rfl
       have k2 : opLoad E0 (X ++ [.cells (tyC x) 100]) 3 (.ref X.length 1) = some (.int .i64 x.2.1) := var_ld1 isAggO_3 (getS0 _) rfl
       have e1 := d1.pre (List.prefix_append X [.cells (tyC x) 100])
       have e2 : Low b S (X ++ [.cells (tyC x) 100]) := d2.trans (Low.app d2.1 _)
       have ty := Type_ok x.1 (X ++ [.cells (tyC x) 100]) fx
       have iinc := wrap_inc i (by have := fs.1; omega)
       repeat (first | refine WS.adm rfl ?_ | refine WS.region (by simp only [EV, TY, h70, h71, hlt', ↓reduceIte, Nat.reduceEqDiff]; with_reducible rfl) ?_)
       refine WS.ct0 ?_
       repeat (first | refine WS.adm rfl ?_ | refine WS.region (by simp only [EV, TY, lget, h69, h71, i1, i2, s1, s2, ↓reduceIte, Nat.reduceEqDiff]; with_reducible rfl) ?_)
       cases g1 : typeB x.1 with
       | false =>
        repeat (first | refine WS.adm rfl ?_ | refine WS.region (by simp only [EV, TY, lget, fa100_0, fa100_1, k1, k2, callV_61, ty, g1, ↓reduceIte, Nat.reduceEqDiff]; with_reducible rfl) ?_)
        refine WS.cond_true (by simp only [EV, g1, ↓reduceIte, Nat.reduceEqDiff]) ?_
        repeat (first | refine WS.adm rfl ?_ | refine WS.rl ?_)
        refine WS.ret1kP (t := 2) rfl rfl (v := .bool false) ?_ (bad _ e2)
        simp only [EV, ↓reduceIte, Nat.reduceEqDiff, AT]
       | true =>
        by_cases g2 : x.2.1 < 1
        ·repeat (first | refine WS.adm rfl ?_ | refine WS.region (by simp only [EV, TY, lget, fa100_0, fa100_1, k1, k2, callV_61, ty, g1, g2, ↓reduceIte, Nat.reduceEqDiff]; with_reducible rfl) ?_)
         refine WS.cond_true (by simp only [EV, g1, g2, ↓reduceIte, Nat.reduceEqDiff]) ?_
         repeat (first | refine WS.adm rfl ?_ | refine WS.rl ?_)
         refine WS.ret1kP (t := 2) rfl rfl (v := .bool false) ?_ (bad _ e2)
         simp only [EV, ↓reduceIte, Nat.reduceEqDiff, AT]
        ·by_cases g3 : 5 < x.2.1
         ·repeat (first | refine WS.adm rfl ?_ | refine WS.region (by simp only [EV, TY, lget, fa100_0, fa100_1, k1, k2, callV_61, ty, g1, g2, g3, ↓reduceIte, Nat.reduceEqDiff]; with_reducible rfl) ?_)
          refine WS.cond_true (by simp only [EV, g1, g2, g3, ↓reduceIte, Nat.reduceEqDiff]) ?_
          repeat (first | refine WS.adm rfl ?_ | refine WS.rl ?_)
          refine WS.ret1kP (t := 2) rfl rfl (v := .bool false) ?_ (bad _ e2)
          simp only [EV, ↓reduceIte, Nat.reduceEqDiff, AT]
         ·repeat (first | refine WS.adm rfl ?_ | refine WS.region (by simp only [EV, TY, lget, fa100_0, fa100_1, k1, k2, callV_61, ty, g1, g2, g3, ↓reduceIte, Nat.reduceEqDiff]; with_reducible rfl) ?_)
          refine WS.cond_false (by simp only [EV, g1, g2, g3, ↓reduceIte, Nat.reduceEqDiff]) ?_
          repeat (first | refine WS.adm rfl ?_ | refine WS.region (by simp only [EV, TY, h71, iinc, ↓reduceIte, Nat.reduceEqDiff]; with_reducible rfl) ?_)
          refine ih (s.1.length - (i + 1)) _ _ (by omega) ⟨i + 1, rfl, by omega, ?_, ?_, ?_, ?_, ?_, e1, e2⟩
          iterate 5 simp only [EV, h0, h4, h69, h70, ↓reduceIte, Nat.reduceEqDiff, AT]
      ·have hlt' : ¬ ((i : Nat) : Int) < ((s.1.length : Nat) : Int) := by omega
       repeat (first | refine WS.adm rfl ?_ | refine WS.region (by simp only [EV, TY, h70, h71, hlt', ↓reduceIte, Nat.reduceEqDiff]; with_reducible rfl) ?_)
       refine WS.cf0 ?_
       refine WS.exit rfl ?_
       refine last _ _ ⟨?_, ?_, d1, d2⟩
       iterate 2 simp only [EV, h0, h4, ↓reduceIte, Nat.reduceEqDiff, AT]
theorem New_ok {S : Store} {tv kv : V} {s : SchD} (ht : PArr 6 rTy tv s.1) (hk : PArr 5 rCls kv s.2) (fs : fitS s) :
  ∃ T, Low S.length S T ∧ (vrun E0 (.fn 9) [.agg [tv, kv]] S = some (.tup [.nilp, .int .i64 130], T) ∨ ∃ b tw kw q r, vrun E0 (.fn 9) [.agg [tv, kv]] S = some (.tup [.ref b 0, .int .i64 0], T) ∧ Sch T b tw kw q r s ∧ (idxL (tNames s)).length = s.1.length) := by
 have hbx : opBox S 25 (.agg [tv, kv]) = some (.ref S.length 0, S ++ [.cells [tv, kv] 25]) := rfl
 have l1 : opLoad E0 (S ++ [.cells [tv, kv] 25]) 25 (.ref S.length 0) = some (.agg [tv, kv]) := var_ld isAggO_25 tsize_25 (getS0 _) rfl
 have low1 : Low S.length S (S ++ [.cells [tv, kv] 25]) := Low.app (Nat.le_refl _) _
 have hl1 : (S ++ [Ob.cells [tv, kv] 25]).length = S.length + 1 := by simp
 generalize S ++ [Ob.cells [tv, kv] 25] = A at hbx l1 low1 hl1
 obtain ⟨tw, kw, c1, c2, c3⟩ := clone_ok (S := A) ht hk fs
 have hbd : opBuild E0 84 [(0, .agg [tw, kw])] = some (.agg [tw, kw, .int .u32 0, .int .i32 0, .int .u32 0, .mapN, .mapN]) := by kernel_rfl
 have hb2 : opBox A 84 (.agg [tw, kw, .int .u32 0, .int .i32 0, .int .u32 0, .mapN, .mapN]) = some (.ref A.length 0, A ++ [objC tw kw 0 0 .mapN .mapN]) := rfl
 have hob : (A ++ [objC tw kw 0 0 .mapN .mapN])[A.length]? = some (objC tw kw 0 0 .mapN .mapN) := getS0 _
 have low2 : Low S.length S (A ++ [objC tw kw 0 0 .mapN .mapN]) := low1.trans (Low.app low1.1 _)
 obtain ⟨g, T, r1, r2, r3⟩ := right_ok hob c2 c3 fs
 have lowT : Low S.length S T := low2.trans ⟨by have := r2.1; omega, fun i hi => r2.2 i (by omega)⟩
 refine ⟨T, lowT, ?_⟩
 cases g with
 | false =>
  refine .inl (fn_ws Tryz.func9 rfl ?_)
  repeat (first | refine WS.adm rfl ?_ | refine WS.region (by simp only [EV, TY, lget, hbx, l1, callV_27, c1, hbd, hb2, ↓reduceIte, Nat.reduceEqDiff]; with_reducible rfl) ?_)
  repeat (first | refine WS.adm rfl ?_ | refine WS.region (by simp only [EV, TY, lget, callV_28, r1, ↓reduceIte, Nat.reduceEqDiff]; with_reducible rfl) ?_)
  refine WS.ct0 ?_
  repeat (first | refine WS.adm rfl ?_ | refine WS.rl ?_)
  refine WS.ret ⟨.inr rfl, [.nilp, .int .i64 130], ?_, rfl⟩
  rw [show Tryz.f9.results.toList = [.tmp 2, .tmp 3] from rfl]
  simp only [resultV, EV, ↓reduceIte, Nat.reduceEqDiff]
  rfl
 | true =>
  obtain ⟨q, r, r4, r5⟩ := r3 rfl
  refine .inr ⟨A.length, tw, kw, q, r, fn_ws Tryz.func9 rfl ?_, r4, r5⟩
  repeat (first | refine WS.adm rfl ?_ | refine WS.region (by simp only [EV, TY, lget, hbx, l1, callV_27, c1, hbd, hb2, ↓reduceIte, Nat.reduceEqDiff]; with_reducible rfl) ?_)
  repeat (first | refine WS.adm rfl ?_ | refine WS.region (by simp only [EV, TY, lget, callV_28, r1, ↓reduceIte, Nat.reduceEqDiff]; with_reducible rfl) ?_)
  refine WS.cf0 ?_
  repeat (first | refine WS.adm rfl ?_ | refine WS.rl ?_)
  refine WS.ret ⟨.inr rfl, [.ref A.length 0, .int .i64 0], ?_, rfl⟩
  rw [show Tryz.f9.results.toList = [.tmp 2, .tmp 3] from rfl]
  simp only [resultV, EV, ↓reduceIte, Nat.reduceEqDiff]
  rfl
end Go.Proofs.YtmmjlgocihhkcaaGreatDoor
