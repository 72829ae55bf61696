import Derived.Test.YtmmjlgocihhkcaaGreatDoorPartS
set_option linter.all false
namespace Go.Proofs.YtmmjlgocihhkcaaGreatDoor
open Go Go.Vm
set_option maxRecDepth 100000
set_option maxHeartbeats 8000000
def NmA (l : List Attr) : Prop := ∀ a ∈ l, a.1.length ≤ 1048576
def inT (g : List (List UInt8)) (n : List UInt8) : Bool := g.any fun m => smallS m == smallS n
def hasA (s : SchD) (g : List (List UInt8)) (a : Attr) : Bool := match typ s a.1 with | some t => !t.2.2.2.1 && inT g a.1 | none => false
def permP (s : SchD) (g : List (List UInt8)) (l : List Attr) : List Attr := l.filter (hasA s g)
theorem attr_at {S : Store} {v : V} {l : List Attr} (h : Arr 2 rAttr S v l) (i : Nat) (hi : i < l.length) :
  ∃ a w fa, opIndexAddr E0 50 v (.int .i64 (i : Int)) = some a ∧ opLoad E0 S 55 a = some (.agg [.str l[i].1, w]) ∧ opFieldAddr E0 55 a 0 = some fa ∧ opLoad E0 S 9 fa = some (.str l[i].1) ∧ pStrs w l[i].2 := by
 obtain ⟨a, c, r, h1, h2, h3, w, rfl, h4⟩ := h.at_ (E := E0) Tryz.underlying50 tsize_55 i hi
 obtain ⟨fa, f1, f2⟩ := h2.field (E := E0) (s := 55) (f := 0) (m := 0) Tryz.underlying55 rfl tsize_9
 have := h2.loadA (E := E0) isAggO_55 tsize_55 (by simp)
 exact ⟨a, w, fa, h1, this, f1, f2.load isAggO_9 rfl, h4⟩
theorem perm1_ok {S : Store} {p : Nat} {n a : List UInt8} {w : V} (h : S[p]? = some (.cells [.str a, w] 55)) (hn : n.length ≤ 1048576) (ha : a.length ≤ 1048576) : vrun E0 (.fn 66) [.str n, .ref p 0] S = some (.bool (smallS n == smallS a), S) := by
 refine fn_ws Tryz.func66 rfl ?_
 have l1 : opLoad E0 S 9 (.ref p 0) = some (.str a) := var_ld1 isAggO_9 h rfl
 have l1b := l1
 rw [ld_ref isAggO_9] at l1b
 have s1 := smallC_ok n S hn
 have s2 := smallC_ok a S ha
 repeat (first | refine WS.adm rfl ?_ | refine WS.rl ?_)
 refine WS.drawb (b := [0, 1, 0, 4, 15, 31, 63]) (by kernel_rfl) (by simp only [DL, isEff, isRead, Nat.reduceAdd, EV, TY,  lget, fa55_0, l1, l1b, callV_67, s1, s2, Bool.false_or, Nat.reducePow, Nat.reduceDiv, Nat.reduceMod, ↓reduceIte, Nat.reduceEqDiff]; with_reducible rfl) ?_
 refine WS.ret1s (t := 3) rfl rfl (List.prefix_refl _) (frz_bool _ _ _) ?_
 simp only [EV, ↓reduceIte, Nat.reduceEqDiff, AT]
theorem build_55 (x : List UInt8) {y : V} (f1 : solid y = true) (f2 : vcells y = [y]) : opBuild E0 55 [(0, .str x), (1, y)] = some (.agg [.str x, y]) := by
 have hu : E0.P.underlying 55 = _ := Tryz.underlying55
 unfold opBuild
 simp [hu, zeroV_55, tsize_9, tsize_28, fillV, fieldPlaces, splice, f1, f2, (show ∀ z, solid (.str z) = true from fun z => rfl), (show ∀ z, vcells (.str z) = [V.str z] from fun z => rfl), (show ∀ z, solid (.agg z) = true from fun z => rfl), (show ∀ z, vcells (.agg z) = z from fun z => rfl)]
theorem perm_ok {S : Store} {b q r : Nat} {tv kv bv gv v : V} {s : SchD} {g : List (List UInt8)} {l : List Attr} (h : Sch S b tv kv q r s) (hg : PArr 1 rS gv g) (hl : Arr 2 rAttr S v l) (og : g.length ≤ 1048576 ∧ ∀ n ∈ g, n.length ≤ 1048576) (ol : okTs l) (on : NmA l) :
  ∃ w, vrun E0 (.fn 32) [.ref b 0, .agg [bv, gv], v] S = some (w, S) ∧ PArr 2 rAttr w (permP s g l) := by
 suffices hh : ∃ rr, (∃ w, rr = (w, S) ∧ PArr 2 rAttr w (permP s g l)) ∧ vrun E0 (.fn 32) [.ref b 0, .agg [bv, gv], v] S = some rr by
  obtain ⟨rr, ⟨w, rfl, h2⟩, h3⟩ := hh
  exact ⟨w, h3, h2⟩
 refine fn_wsP Tryz.func32 rfl ?_
 have hbx : opBox S 30 (.agg [bv, gv]) = some (.ref S.length 0, S ++ [.cells [bv, gv] 30]) := rfl
 have hU0 : (S ++ [Ob.cells [bv, gv] 30])[S.length]? = some (.cells [bv, gv] 30) := getS0 _
 have low0 : Low S.length S (S ++ [.cells [bv, gv] 30]) := Low.app (Nat.le_refl _) _
 generalize S ++ [Ob.cells [bv, gv] 30] = U0 at hbx hU0 low0
 have n1 := (hl.pre low0.pre).len (E := E0) Tryz.underlying50
 repeat (first | refine WS.adm rfl ?_ | refine WS.region (by simp only [EV, TY, lget, hbx, n1, ↓reduceIte, Nat.reduceEqDiff]; with_reducible rfl) ?_)
 refine WS.loopB (fun j fr U => ∃ i w, j = l.length - i ∧ i ≤ l.length ∧ lget fr 0 = .ref b 0 ∧ lget fr 4 = .ref S.length 0 ∧ lget fr 7 = w ∧ lget fr 12 = v ∧ lget fr 13 = .int .i64 (l.length : Nat) ∧ lget fr 14 = .int .i64 (i : Nat) ∧ Low S.length S U ∧ U[S.length]? = some (.cells [bv, gv] 30) ∧ Lst (S.length + 1) 55 2 rAttr U w (permP s g (l.take i)))
  (fun fr U => ∃ w, lget fr 7 = w ∧ Low S.length S U ∧ Lst (S.length + 1) 55 2 rAttr U w (permP s g l)) (j := l.length) ?_ ?_ ?_
 ·refine ⟨0, .slN, by omega, by omega, ?_, ?_, ?_, ?_, ?_, ?_, low0, hU0, Lst.nil _ _ _ _ _⟩
  all_goals
   simp only [EV, lget, ↓reduceIte, Nat.reduceEqDiff, AT]
   try rfl
 ·rintro fr U ⟨w, h7, hlow, hw⟩
  have hw' : Lst S.length 55 2 rAttr U w (permP s g l) := by
   rcases hw with h | ⟨p, cs, p1, p2⟩
   ·exact .inl h
   ·exact .inr ⟨p, cs, by omega, p2⟩
  obtain ⟨w', d1, d2⟩ := hw'.done rAttr.flat 5
  repeat (first | refine WS.adm rfl ?_ | refine WS.region (by simp only [EV, TY, h7, ↓reduceIte, Nat.reduceEqDiff]; with_reducible rfl) ?_)
  refine WS.ret1P (t := 6) rfl rfl ?_ hlow.pre d1 ⟨w', rfl, d2⟩
  simp only [EV, ↓reduceIte, Nat.reduceEqDiff, AT]
 ·rintro j fr U ⟨i, w, rfl, hi, h0, h4, h7, h12, h13, h14, hlow, hU, hw⟩ ih last
  by_cases hlt : i < l.length
  ·have hlt' : ((i : Nat) : Int) < ((l.length : Nat) : Int) := by omega
   obtain ⟨a, y, fa, i1, i2, _, _, hy⟩ := attr_at (hl.pre hlow.pre) i hlt
   have hx1 := on _ (List.getElem_mem hlt)
   have hx2 : l[i].2.length ≤ 1048576 := ol.2 _ (List.getElem_mem hlt)
   have htk := List.take_succ_eq_append_getElem hlt
   have hUl := lt_of_get hU
   generalize l[i] = x at i2 hy hx1 hx2 htk
   have hnext : permP s g (l.take (i + 1)) = permP s g (l.take i) ++ (if hasA s g x then [x] else []) := by
    unfold permP
    rw [htk, filter_snoc]
    cases hasA s g x <;> simp
   have s1 := var_al (E := E0) zeroV_55 U
   have s2 := var_st (E := E0) (e := 55) tsize_55 U (zs := [.str [], .slN]) (xs := [.str x.1, y]) rfl rfl
   have hA := (h.pre hlow.pre).pre (List.prefix_append U [.cells [.str x.1, y] 55])
   have hAv : (U ++ [Ob.cells [.str x.1, y] 55])[U.length]? = some (.cells [.str x.1, y] 55) := getS0 _
   have lowA : Low S.length S (U ++ [.cells [.str x.1, y] 55]) := hlow.trans (Low.app hlow.1 _)
   have hUA : (U ++ [Ob.cells [.str x.1, y] 55])[S.length]? = some (.cells [bv, gv] 30) := get_more hU _
   have hwA := hw.more [.cells [.str x.1, y] 55]
   generalize hAe : U ++ [Ob.cells [.str x.1, y] 55] = A at s2 hA hAv lowA hUA hwA
   have k1 : opLoad E0 A 9 (.ref U.length 0) = some (.str x.1) := var_ld1 isAggO_9 hAv rfl
   have ty := Type2_ok hA x.1 hx1
   have s3 := var_al (E := E0) zeroV_100 A
   have s4 := var_st (E := E0) (e := 100) tsize_100 A (zs := [.str [], .int .i64 0, .bool false, .bool false, .bool false, .bool false]) (xs := typV (typ s x.1)) rfl (by cases typ s x.1 <;> rfl)
   have hBv : (A ++ [Ob.cells (typV (typ s x.1)) 100])[A.length]? = some (.cells (typV (typ s x.1)) 100) := getS0 _
   have hBx : (A ++ [Ob.cells (typV (typ s x.1)) 100])[U.length]? = some (.cells [.str x.1, y] 55) := get_more hAv _
   have lowB : Low S.length S (A ++ [.cells (typV (typ s x.1)) 100]) := lowA.trans (Low.app lowA.1 _)
   have hUB : (A ++ [Ob.cells (typV (typ s x.1)) 100])[S.length]? = some (.cells [bv, gv] 30) := get_more hUA _
   have hwB := hwA.more [.cells (typV (typ s x.1)) 100]
   generalize A ++ [Ob.cells (typV (typ s x.1)) 100] = B at s4 hBv hBx lowB hUB hwB
   have k2 : opLoad E0 B 28 (.ref S.length 1) = some gv := var_ld1 isAggO_28 hUB rfl
   have k3 : opLoad E0 B 9 (.ref U.length 0) = some (.str x.1) := var_ld1 isAggO_9 hBx rfl
   have k4 : opLoad E0 B 28 (.ref U.length 1) = some y := var_ld1 isAggO_28 hBx rfl
   have cf := ContainsFunc_ok (hg.arr B) og.1 (fun m => smallS m == smallS x.1) (f := .fn (.func 66) [] [.ref U.length 0]) fun n hn => by
    rw [callV_66]
    exact perm1_ok hBx (og.2 n hn) hx1
   have iinc := wrap_inc i (by have := ol.1; omega)
   have step : hasA s g x = false → ∀ fr', lget fr' 0 = .ref b 0 → lget fr' 4 = .ref S.length 0 → lget fr' 7 = w → lget fr' 12 = v → lget fr' 13 = .int .i64 (l.length : Nat) → lget fr' 14 = .int .i64 ((i + 1 : Nat)) → WS E0 _ fr' B _ := fun hf fr' a1 a2 a3 a4 a5 a6 =>
    ih (l.length - (i + 1)) fr' B (by omega) ⟨i + 1, w, rfl, by omega, a1, a2, a3, a4, a5, a6, lowB, hUB, by rw [hnext, hf]; simpa using hwB⟩
   repeat (first | refine WS.adm rfl ?_ | refine WS.region (by simp only [EV, TY, h13, h14, hlt', ↓reduceIte, Nat.reduceEqDiff]; with_reducible rfl) ?_)
   refine WS.ct0 ?_
   repeat (first | refine WS.adm rfl ?_ | refine WS.region (by simp only [EV, TY, lget, h12, h14, i1, i2, s1, s2, ↓reduceIte, Nat.reduceEqDiff]; with_reducible rfl) ?_)
   cases ht : typ s x.1 with
   | none =>
    have hf : hasA s g x = false := by unfold hasA; rw [ht]
    have step := step hf
    rw [ht] at ty s4
    repeat (first | refine WS.adm rfl ?_ | refine WS.region (by simp only [EV, TY, lget, h0, fa55_0, k1, callV_64, ty, s3, s4, Option.isSome_none, ↓reduceIte, Nat.reduceEqDiff]; with_reducible rfl) ?_)
    repeat (first | refine WS.adm rfl ?_ | refine WS.rl ?_)
    refine WS.cf0 ?_
    repeat (first | refine WS.adm rfl ?_ | refine WS.region (by simp only [EV, TY, h14, iinc, ↓reduceIte, Nat.reduceEqDiff]; with_reducible rfl) ?_)
    refine step _ ?_ ?_ ?_ ?_ ?_ ?_
    iterate 6 simp only [EV, h0, h4, h7, h12, h13, ↓reduceIte, Nat.reduceEqDiff, AT]
   | some t =>
    rw [ht] at ty s4 hBv
    have k5 : opLoad E0 B 4 (.ref A.length 3) = some (.bool t.2.2.2.1) := var_ld1 isAggO_4 hBv rfl
    cases hs : t.2.2.2.1 with
    | true =>
     rw [hs] at k5
     have hf : hasA s g x = false := by unfold hasA; rw [ht]; simp [hs]
     have step := step hf
     repeat (first | refine WS.adm rfl ?_ | refine WS.region (by simp only [EV, TY, lget, h0, fa55_0, k1, callV_64, ty, s3, s4, Option.isSome_some, ↓reduceIte, Nat.reduceEqDiff]; with_reducible rfl) ?_)
     repeat (first | refine WS.adm rfl ?_ | refine WS.region (by simp only [EV, TY, lget, fa100_3, k5, ↓reduceIte, Nat.reduceEqDiff]; with_reducible rfl) ?_)
     refine WS.cf0 ?_
     repeat (first | refine WS.adm rfl ?_ | refine WS.region (by simp only [EV, TY, h14, iinc, ↓reduceIte, Nat.reduceEqDiff]; with_reducible rfl) ?_)
     refine step _ ?_ ?_ ?_ ?_ ?_ ?_
     iterate 6 simp only [EV, h0, h4, h7, h12, h13, ↓reduceIte, Nat.reduceEqDiff, AT]
    | false =>
     rw [hs] at k5
     cases hi2 : inT g x.1 with
     | false =>
      have hf : hasA s g x = false := by unfold hasA; rw [ht]; simp [hs, hi2]
      have step := step hf
      have cf' : vrun E0 (.fn 65) [gv, .fn (.func 66) [] [.ref U.length 0]] B = some (.bool false, B) := by rw [cf]; unfold inT at hi2; rw [hi2]
      repeat (first | refine WS.adm rfl ?_ | refine WS.region (by simp only [EV, TY, lget, h0, fa55_0, k1, callV_64, ty, s3, s4, Option.isSome_some, ↓reduceIte, Nat.reduceEqDiff]; with_reducible rfl) ?_)
      repeat (first | refine WS.adm rfl ?_ | refine WS.region (by simp only [EV, TY, lget, fa100_3, k5, h4, fa30_1, k2, callV_65, cf', ↓reduceIte, Nat.reduceEqDiff]; with_reducible rfl) ?_)
      refine WS.cf0 ?_
      repeat (first | refine WS.adm rfl ?_ | refine WS.region (by simp only [EV, TY, h14, iinc, ↓reduceIte, Nat.reduceEqDiff]; with_reducible rfl) ?_)
      refine step _ ?_ ?_ ?_ ?_ ?_ ?_
      iterate 6 simp only [EV, h0, h4, h7, h12, h13, ↓reduceIte, Nat.reduceEqDiff, AT]
     | true =>
      have hf : hasA s g x = true := by unfold hasA; rw [ht]; simp [hs, hi2]
      have cf' : vrun E0 (.fn 65) [gv, .fn (.func 66) [] [.ref U.length 0]] B = some (.bool true, B) := by rw [cf]; unfold inT at hi2; rw [hi2]
      obtain ⟨y', c1, c2⟩ := CloneS_ok (S := B) hy hx2
      have hpl : (permP s g (l.take i)).length + 1 ≤ 1048577 := by
       have := List.length_filter_le (hasA s g) (l.take i)
       have h2 := ol.1
       rw [List.length_take] at this
       unfold permP
       omega
      obtain ⟨w2, T2, e1, e2, e3, e4⟩ := hwB.put ety_50 (show S.length + 1 ≤ B.length from lt_of_get hUB) (ofC.agg [.str x.1, y']) rfl (a := x) ⟨y', rfl, c2⟩ (by omega) (by omega)
      have bd : opBuild E0 55 [(0, .str x.1), (1, y')] = some (.agg [.str x.1, y']) := by
       have f1 := flatV.solid c2.flat
       have f2 := flatV.vcells c2.flat
       exact build_55 x.1 f1 f2
      have k3b := k3
      have k4b := k4
      rw [ld_ref isAggO_9] at k3b
      rw [ld_ref isAggO_28] at k4b
      repeat (first | refine WS.adm rfl ?_ | refine WS.region (by simp only [EV, TY, lget, h0, fa55_0, k1, callV_64, ty, s3, s4, Option.isSome_some, ↓reduceIte, Nat.reduceEqDiff]; with_reducible rfl) ?_)
      repeat (first | refine WS.adm rfl ?_ | refine WS.region (by simp only [EV, TY, lget, fa100_3, k5, h4, fa30_1, k2, callV_65, cf', ↓reduceIte, Nat.reduceEqDiff]; with_reducible rfl) ?_)
      refine WS.ct0 ?_
      repeat refine WS.adm rfl ?_
      refine WS.drawb (b := [0, 0, 2, 0, 8, 24, 62, 126, 255, 511]) (by kernel_rfl) (by simp only [DL, isEff, isRead, Nat.reduceAdd, EV, TY,  lget, h7, fa55_0, fa55_1, k3, k4, k3b, k4b, callV_58, c1, bd, e1, e2, Bool.false_or, Nat.reducePow, Nat.reduceDiv, Nat.reduceMod, ↓reduceIte, Nat.reduceEqDiff]; with_reducible rfl) ?_
      repeat (first | refine WS.adm rfl ?_ | refine WS.region (by simp only [EV, TY, h14, iinc, ↓reduceIte, Nat.reduceEqDiff]; with_reducible rfl) ?_)
      refine ih (l.length - (i + 1)) _ _ (by omega) ⟨i + 1, w2, rfl, by omega, ?_, ?_, ?_, ?_, ?_, ?_, lowB.trans ⟨by have := e4.1; omega, fun i hi => e4.2 i (by omega)⟩, ?_, by rw [hnext, hf]; exact e3⟩
      iterate 6 simp only [EV, h0, h4, h12, h13, ↓reduceIte, Nat.reduceEqDiff, AT]
      ·rw [e4.2 _ (by omega)]; exact hUB
  ·have hlt' : ¬ ((i : Nat) : Int) < ((l.length : Nat) : Int) := by omega
   repeat (first | refine WS.adm rfl ?_ | refine WS.region (by simp only [EV, TY, h13, h14, hlt', ↓reduceIte, Nat.reduceEqDiff]; with_reducible rfl) ?_)
   refine WS.cf0 ?_
   refine WS.exit rfl ?_
   have : i = l.length := by omega
   subst this
   rw [List.take_length] at hw
   refine last _ _ ⟨w, ?_, hlow, hw⟩
   simp only [EV, h7, ↓reduceIte, Nat.reduceEqDiff, AT]
abbrev Agr := List (List Ava) × List (List UInt8)
def fitGr (g : Agr) : Prop := fitN g.1 ∧ g.2.length ≤ 1048576 ∧ ∀ n ∈ g.2, n.length ≤ 1048576
def NmL (l : List Img) : Prop := ∀ x ∈ l, NmA x.2
def pick1 (s : SchD) (g : Agr) (l : List Img) (k : Nat) : List Img := match l[k]? with | some x => if decide (atI l x.1 = ((k : Nat) : Int)) && underB x.1 g.1 then [(x.1, permP s g.2 x.2)] else [] | none => []
def viewU (s : SchD) (g : Agr) (l : List Img) (i : Nat) : List Img := (List.range i).flatMap (pick1 s g l)
def viewP (s : SchD) (g : Agr) (l : List Img) : List Img := sortP (viewU s g l l.length)
theorem viewU_succ (s : SchD) (g : Agr) (l : List Img) (i : Nat) : viewU s g l (i + 1) = viewU s g l i ++ pick1 s g l i := by
 unfold viewU
 rw [List.range_succ, List.flatMap_append]
 simp
theorem pick1_len (s : SchD) (g : Agr) (l : List Img) (i : Nat) : (pick1 s g l i).length ≤ 1 := by
 unfold pick1
 split
 ·split <;> simp
 ·simp
theorem viewU_len (s : SchD) (g : Agr) (l : List Img) : ∀ i, (viewU s g l i).length ≤ i
 | 0 => by simp [viewU]
 | i + 1 => by
  have h1 := viewU_len s g l i
  have h2 := pick1_len s g l i
  rw [viewU_succ, List.length_append]
  omega
theorem pick1_mem {s : SchD} {g : Agr} {l : List Img} {k : Nat} {x : Img} (h : x ∈ pick1 s g l k) : ∃ y ∈ l, x = (y.1, permP s g.2 y.2) := by
 unfold pick1 at h
 split at h
 ·rename_i y hy
  split at h
  ·exact ⟨y, List.mem_of_getElem? hy, by simpa using h⟩
  ·cases h
 ·cases h
theorem viewU_mem {s : SchD} {g : Agr} {l : List Img} {i : Nat} {x : Img} (h : x ∈ viewU s g l i) : ∃ y ∈ l, x = (y.1, permP s g.2 y.2) := by
 obtain ⟨k, _, hk⟩ := List.mem_flatMap.1 h
 exact pick1_mem hk
theorem okTs_perm {s : SchD} {g : List (List UInt8)} {l : List Attr} (h : okTs l) : okTs (permP s g l) := ⟨Nat.le_trans (List.length_filter_le _ _) h.1, fun a ha => h.2 a (List.mem_filter.1 ha).1⟩
theorem fit_viewU {s : SchD} {g : Agr} {l : List Img} (fl : fitL l) (i : Nat) (hi : i ≤ l.length) : fitL (viewU s g l i) := by
 refine ⟨Nat.le_trans (viewU_len s g l i) (Nat.le_trans hi fl.1), fun x hx => ?_⟩
 obtain ⟨y, hy, rfl⟩ := viewU_mem hx
 exact ⟨(fl.2 y hy).1, okTs_perm (fl.2 y hy).2⟩
theorem build_52 {u y : V} (e1 : solid u = true) (e2 : vcells u = [u]) (f1 : solid y = true) (f2 : vcells y = [y]) : opBuild E0 52 [(0, u), (1, y)] = some (.agg [u, y]) := by
 have hu : E0.P.underlying 52 = _ := Tryz.underlying52
 unfold opBuild
 simp [hu, zeroV_52, tsize_27, tsize_50, fillV, fieldPlaces, splice, e1, e2, f1, f2, (show ∀ z, solid (.agg z) = true from fun z => rfl), (show ∀ z, vcells (.agg z) = z from fun z => rfl)]
theorem self_at {l : List Img} {i : Nat} (hi : i < l.length) : ∃ j, l.findIdx? (oneN l[i].1) = some j := by
 cases h : l.findIdx? (oneN l[i].1) with
 | some j => exact ⟨j, rfl⟩
 | none =>
  rw [List.findIdx?_eq_none_iff] at h
  have := h l[i] (List.getElem_mem hi)
  simp [oneN] at this
theorem firstIs {M : Tab} {l : List Img} (hM : isFirst M l) (fl : fitL l) {i : Nat} (hi : i < l.length) : ((mget M (kofN l[i].1)).getD 0 == ((i : Nat) : Int)) = decide (atI l l[i].1 = ((i : Nat) : Int)) := by
 obtain ⟨j, hj⟩ := self_at hi
 rw [hM.at_ fl (fl.at_ hi).1.1, hj, at_some hj]
 simp only [Option.map_some, Option.getD_some]
 rfl
def rNm (c : List V) (x : Img) : Prop := ∃ u w, c = [u, w] ∧ pDn u x.1
def rImgS (S : Store) (c : List V) (x : Img) : Prop := ∃ u w, c = [u, w] ∧ pDn u x.1 ∧ Arr 2 rAttr S w x.2
theorem Arr.mono {α : Type} {z : Nat} {R R' : List V → α → Prop} {S : Store} {v : V} {l : List α} (hR : ∀ c a, R c a → R' c a) (h : Arr z R S v l) : Arr z R' S v l := by
 obtain ⟨cs, h1, h2⟩ := h
 exact ⟨cs, Cs.mono hR h1, h2⟩
theorem rImgS.nm {S : Store} (c : List V) (x : Img) (h : rImgS S c x) : rNm c x := by
 obtain ⟨u, w, e, h1, _⟩ := h
 exact ⟨u, w, e, h1⟩
theorem rImg.s (S : Store) (c : List V) (x : Img) (h : rImg c x) : rImgS S c x := by
 obtain ⟨u, w, e, h1, h2⟩ := h
 exact ⟨u, w, e, h1, PArr.arr h2 S⟩
theorem imn_at {S : Store} {v : V} {l : List Img} (h : Arr 2 rNm S v l) (i : Nat) (hi : i < l.length) :
  ∃ a u w, opIndexAddr E0 31 v (.int .i64 (i : Int)) = some a ∧ opLoad E0 S 52 a = some (.agg [u, w]) ∧ pDn u l[i].1 := by
 obtain ⟨a, c, r, h1, h2, h3, u, w, rfl, h4⟩ := h.at_ (E := E0) Tryz.underlying31 tsize_52 i hi
 exact ⟨a, u, w, h1, h2.loadA (E := E0) isAggO_52 tsize_52 (by simp), h4⟩
theorem ims_at {S S0 : Store} {v : V} {l : List Img} (h : Arr 2 (rImgS S0) S v l) (i : Nat) (hi : i < l.length) :
  ∃ a u w, opIndexAddr E0 31 v (.int .i64 (i : Int)) = some a ∧ opLoad E0 S 52 a = some (.agg [u, w]) ∧ pDn u l[i].1 ∧ Arr 2 rAttr S0 w l[i].2 := by
 obtain ⟨a, c, r, h1, h2, h3, u, w, rfl, h4, h5⟩ := h.at_ (E := E0) Tryz.underlying31 tsize_52 i hi
 exact ⟨a, u, w, h1, h2.loadA (E := E0) isAggO_52 tsize_52 (by simp), h4, h5⟩
theorem first_ok2 {S : Store} {v : V} {l : List Img} (h : Arr 2 rNm S v l) (fl : fitL l) : ∃ id T M, vrun E0 (.fn 29) [v] S = some (.mapR id, T) ∧ T[id]? = some (.mp (mpC M)) ∧ S.length ≤ id ∧ Low S.length S T ∧ isFirst M l := by
 suffices g : ∃ r, (∃ id T M, r = (.mapR id, T) ∧ T[id]? = some (.mp (mpC M)) ∧ S.length ≤ id ∧ Low S.length S T ∧ isFirst M l) ∧ vrun E0 (.fn 29) [v] S = some r by
  obtain ⟨r, ⟨id, T, M, rfl, g2⟩, g3⟩ := g
  exact ⟨id, T, M, g3, g2⟩
 refine fn_wsP Tryz.func29 rfl ?_
 have ln := (h.pre (List.prefix_append S [.mp []])).len (E := E0) Tryz.underlying31
 repeat (first | refine WS.adm rfl ?_ | refine WS.region (by simp only [EV, TY, lget, EV3, ln, ↓reduceIte, Nat.reduceEqDiff]; with_reducible rfl) ?_)
 refine WS.loopB (fun j fr U => ∃ i M, j = l.length - i ∧ i ≤ l.length ∧ lget fr 3 = .mapR S.length ∧ lget fr 9 = v ∧ lget fr 10 = .int .i64 (l.length : Nat) ∧ lget fr 11 = .int .i64 (i : Nat) ∧ U[S.length]? = some (.mp (mpC M)) ∧ Low S.length S U ∧ isFirst M (l.take i))
  (fun fr U => ∃ M, lget fr 3 = .mapR S.length ∧ U[S.length]? = some (.mp (mpC M)) ∧ Low S.length S U ∧ isFirst M l) (j := l.length) ?_ ?_ ?_
 ·refine ⟨0, [], by omega, by omega, ?_, ?_, ?_, ?_, getS0 _, Low.app (Nat.le_refl _) _, isFirst.nil⟩
  all_goals
   simp only [EV, lget, ↓reduceIte, Nat.reduceEqDiff, AT]
   try rfl
 ·rintro fr U ⟨M, h3, hm, hlow, hf⟩
  repeat (first | refine WS.adm rfl ?_ | refine WS.region (by simp only [EV, TY, h3, ↓reduceIte, Nat.reduceEqDiff]; with_reducible rfl) ?_)
  refine WS.ret1kP (t := 2) rfl rfl (v := .mapR S.length) ?_ ⟨S.length, U, M, rfl, hm, Nat.le_refl _, hlow, hf⟩
  simp only [EV, ↓reduceIte, Nat.reduceEqDiff, AT]
 ·rintro j fr U ⟨i, M, rfl, hi, h3, h9, h10, h11, hm, hlow, hf⟩ ih last
  by_cases hlt : i < l.length
  ·have hlt' : ((i : Nat) : Int) < ((l.length : Nat) : Int) := by omega
   obtain ⟨a, u, w, i1, i2, i3⟩ := imn_at (h.pre hlow.pre) i hlt
   have fx := fl.at_ hlt
   have htk := List.take_succ_eq_append_getElem hlt
   have htl : (l.take i).length = i := by rw [List.length_take]; omega
   generalize l[i] = x at i3 fx htk
   have s1 := var_al (E := E0) zeroV_52 U
   have s2 := var_st (E := E0) (e := 52) tsize_52 U (zs := [.slN, .slN]) (xs := [u, w]) rfl rfl
   have l1 : opLoad E0 (U ++ [.cells [u, w] 52]) 52 (.ref U.length 0) = some (.agg [u, w]) := var_ld isAggO_52 tsize_52 (getS0 _) rfl
   generalize hW : U ++ [Ob.cells [u, w] 52] = W at s2 l1
   have hlowW : Low S.length S W := by rw [← hW]; exact hlow.trans (Low.app hlow.1 _)
   have hmW : W[S.length]? = some (.mp (mpC M)) := by rw [← hW]; exact get_more hm _
   have hk := key_ok (S := W) (w := w) i3 fx.1
   obtain ⟨g1, _⟩ := map_get (E := E0) Tryz.underlying80 Tryz.underlying9 zeroV_3 hmW (kofN x.1)
   have iinc := wrap_inc i (by have := fl.1; omega)
   repeat (first | refine WS.adm rfl ?_ | refine WS.region (by simp only [EV, TY, h10, h11, hlt', ↓reduceIte, Nat.reduceEqDiff]; with_reducible rfl) ?_)
   refine WS.ct0 ?_
   cases hq : (mget M (kofN x.1)).isSome with
   | true =>
    rw [hq] at g1
    repeat (first | refine WS.adm rfl ?_ | refine WS.region (by simp only [EV, TY, lget, EV3, h3, h9, h11, i1, i2, s1, s2, l1, callV_30, hk, g1, Bool.not_true, ↓reduceIte, Nat.reduceEqDiff]; with_reducible rfl) ?_)
    refine WS.cf0 ?_
    repeat (first | refine WS.adm rfl ?_ | refine WS.region (by simp only [EV, TY, h11, iinc, ↓reduceIte, Nat.reduceEqDiff]; with_reducible rfl) ?_)
    refine ih (l.length - (i + 1)) _ _ (by omega) ⟨i + 1, M, rfl, by omega, ?_, ?_, ?_, ?_, hmW, hlowW, by rw [htk]; exact hf.keep hq⟩
    iterate 4 simp only [EV, h3, h9, h10, ↓reduceIte, Nat.reduceEqDiff, AT]
   | false =>
    rw [hq] at g1
    have p1 := map_put (E := E0) Tryz.underlying80 Tryz.underlying9 hmW (kofN x.1) ((i : Nat) : Int)
    repeat (first | refine WS.adm rfl ?_ | refine WS.region (by simp only [EV, TY, lget, EV3, h3, h9, h11, i1, i2, s1, s2, l1, callV_30, hk, g1, Bool.not_false, ↓reduceIte, Nat.reduceEqDiff]; with_reducible rfl) ?_)
    refine WS.ct0 ?_
    repeat (first | refine WS.adm rfl ?_ | refine WS.region (by simp only [EV, TY, lget, EV3, h3, l1, callV_30, hk, p1, h11, iinc, ↓reduceIte, Nat.reduceEqDiff]; with_reducible rfl) ?_)
    refine ih (l.length - (i + 1)) _ _ (by omega) ⟨i + 1, mput M (kofN x.1) ((i : Nat) : Int), rfl, by omega, ?_, ?_, ?_, ?_, by rw [List.getElem?_set_self (lt_of_get hmW)], hlowW.trans (Low.set hlowW.1 (Nat.le_refl _)), ?_⟩
    iterate 4 simp only [EV, h3, h9, h10, ↓reduceIte, Nat.reduceEqDiff, AT]
    ·rw [htk]
     have := hf.put hq
     rwa [htl] at this
  ·have hlt' : ¬ ((i : Nat) : Int) < ((l.length : Nat) : Int) := by omega
   repeat (first | refine WS.adm rfl ?_ | refine WS.region (by simp only [EV, TY, h10, h11, hlt', ↓reduceIte, Nat.reduceEqDiff]; with_reducible rfl) ?_)
   refine WS.cf0 ?_
   refine WS.exit rfl ?_
   have : i = l.length := by omega
   subst this
   rw [List.take_length] at hf
   refine last _ _ ⟨M, ?_, hm, hlow, hf⟩
   simp only [EV, h3, ↓reduceIte, Nat.reduceEqDiff, AT]
theorem ViewA_ok {S : Store} {b q r : Nat} {tv kv bv gv v : V} {s : SchD} {g : Agr} {l : List Img} (h : Sch S b tv kv q r s) (hb : pDn bv g.1) (hg : PArr 1 rS gv g.2) (hl : Arr 2 (rImgS S) S v l) (og : fitGr g) (fl : fitL l) (on : NmL l) :
  ∃ w, vrun E0 (.fn 10) [.ref b 0, .agg [bv, gv], v] S = some (w, S) ∧ pImgs w (viewP s g l) := by
 suffices hh : ∃ rr, (∃ w, rr = (w, S) ∧ pImgs w (viewP s g l)) ∧ vrun E0 (.fn 10) [.ref b 0, .agg [bv, gv], v] S = some rr by
  obtain ⟨rr, ⟨w, rfl, h2⟩, h3⟩ := hh
  exact ⟨w, h3, h2⟩
 refine fn_wsP Tryz.func10 rfl ?_
 have hbx : opBox S 30 (.agg [bv, gv]) = some (.ref S.length 0, S ++ [.cells [bv, gv] 30]) := rfl
 have hU0 : (S ++ [Ob.cells [bv, gv] 30])[S.length]? = some (.cells [bv, gv] 30) := getS0 _
 have low0 : Low S.length S (S ++ [.cells [bv, gv] 30]) := Low.app (Nat.le_refl _) _
 have hl0 : (S ++ [Ob.cells [bv, gv] 30]).length = S.length + 1 := by simp
 generalize S ++ [Ob.cells [bv, gv] 30] = U0 at hbx hU0 low0 hl0
 obtain ⟨id, T, M, e1, e2, e3, e4, e5⟩ := first_ok2 ((Arr.mono rImgS.nm hl).pre low0.pre) fl
 have hT0 : T[S.length]? = some (.cells [bv, gv] 30) := by rw [e4.2 _ (by omega)]; exact hU0
 have lowT : Low S.length S T := low0.trans ⟨by have := e4.1; omega, fun i hi => e4.2 i (by omega)⟩
 have n1 := (hl.pre lowT.pre).len (E := E0) Tryz.underlying31
 have hidT := lt_of_get e2
 have hsT := lt_of_get hT0
 repeat (first | refine WS.adm rfl ?_ | refine WS.region (by simp only [EV, TY, lget, hbx, callV_29, e1, n1, ↓reduceIte, Nat.reduceEqDiff]; with_reducible rfl) ?_)
 refine WS.loopB (fun j fr U => ∃ i w, j = l.length - i ∧ i ≤ l.length ∧ lget fr 0 = .ref b 0 ∧ lget fr 4 = .ref S.length 0 ∧ lget fr 7 = w ∧ lget fr 8 = .mapR id ∧ lget fr 13 = v ∧ lget fr 14 = .int .i64 (l.length : Nat) ∧ lget fr 15 = .int .i64 (i : Nat) ∧ Low T.length T U ∧ Lst T.length 52 2 rImg U w (viewU s g l i))
  (fun fr U => ∃ w, lget fr 7 = w ∧ Low T.length T U ∧ Lst T.length 52 2 rImg U w (viewU s g l l.length)) (j := l.length) ?_ ?_ ?_
 ·refine ⟨0, .slN, by omega, by omega, ?_, ?_, ?_, ?_, ?_, ?_, ?_, Low.refl (Nat.le_refl _), Lst.nil _ _ _ _ _⟩
  all_goals
   simp only [EV, lget, ↓reduceIte, Nat.reduceEqDiff, AT]
   try rfl
 ·rintro fr U ⟨w, h7, hlow, hw⟩
  obtain ⟨U', r1, r2, r3⟩ := sorted_ok hw hlow.1 (fit_viewU fl _ (Nat.le_refl _))
  have lowF : Low S.length S U' := lowT.trans ⟨by have := (hlow.trans r3).1; omega, fun i hi => (hlow.trans r3).2 i (by omega)⟩
  have hw' : Lst S.length 52 2 rImg U' w (viewP s g l) := by
   rcases r2 with h | ⟨p, cs, p1, p2⟩
   ·exact .inl h
   ·exact .inr ⟨p, cs, by omega, p2⟩
  obtain ⟨w', d1, d2⟩ := hw'.done rImg.flat 5
  repeat (first | refine WS.adm rfl ?_ | refine WS.region (by simp only [EV, TY, h7, callV_33, r1, ↓reduceIte, Nat.reduceEqDiff]; with_reducible rfl) ?_)
  refine WS.ret1P (t := 6) rfl rfl ?_ lowF.pre d1 ⟨w', rfl, d2⟩
  simp only [EV, ↓reduceIte, Nat.reduceEqDiff, AT]
 ·rintro j fr U ⟨i, w, rfl, hi, h0, h4, h7, h8, h13, h14, h15, hlow, hw⟩ ih last
  by_cases hlt : i < l.length
  ·have hlt' : ((i : Nat) : Int) < ((l.length : Nat) : Int) := by omega
   obtain ⟨a, u, y, i1, i2, i3, i4⟩ := ims_at (hl.pre (lowT.pre.trans hlow.pre)) i hlt
   have fx := fl.at_ hlt
   have nx := on _ (List.getElem_mem hlt)
   have hfi := firstIs e5 fl hlt
   have hpk : pick1 s g l i = if decide (atI l l[i].1 = ((i : Nat) : Int)) && underB l[i].1 g.1 then [(l[i].1, permP s g.2 l[i].2)] else [] := by
    unfold pick1
    rw [List.getElem?_eq_getElem hlt]
   generalize l[i] = x at i2 i3 i4 fx nx hfi hpk
   have hnext := viewU_succ s g l i
   rw [hpk] at hnext
   have s1 := var_al (E := E0) zeroV_52 U
   have s2 := var_st (E := E0) (e := 52) tsize_52 U (zs := [.slN, .slN]) (xs := [u, y]) rfl rfl
   have hAv : (U ++ [Ob.cells [u, y] 52])[U.length]? = some (.cells [u, y] 52) := getS0 _
   have lowA : Low T.length T (U ++ [.cells [u, y] 52]) := hlow.trans (Low.app hlow.1 _)
   have hwA := hw.more [.cells [u, y] 52]
   generalize hAe : U ++ [Ob.cells [u, y] 52] = A at s2 hAv lowA hwA
   have hA := h.pre (lowT.pre.trans lowA.pre)
   have hUA : A[S.length]? = some (.cells [bv, gv] 30) := by rw [lowA.2 _ (by omega)]; exact hT0
   have hMA : A[id]? = some (.mp (mpC M)) := by rw [lowA.2 _ (by omega)]; exact e2
   have k1 : opLoad E0 A 52 (.ref U.length 0) = some (.agg [u, y]) := var_ld isAggO_52 tsize_52 hAv rfl
   have k2 : opLoad E0 A 27 (.ref U.length 0) = some u := var_ld1 isAggO_27 hAv rfl
   have k3 : opLoad E0 A 50 (.ref U.length 1) = some y := var_ld1 isAggO_50 hAv rfl
   have k4 : opLoad E0 A 27 (.ref S.length 0) = some bv := var_ld1 isAggO_27 hUA rfl
   have k5 : opLoad E0 A 30 (.ref S.length 0) = some (.agg [bv, gv]) := var_ld isAggO_30 tsize_30 hUA rfl
   have ky := key_ok (S := A) (w := y) i3 fx.1
   obtain ⟨_, g1⟩ := map_get (E := E0) Tryz.underlying80 Tryz.underlying9 zeroV_3 hMA (kofN x.1)
   have un := Under_ok (i3.is A) (hb.is A) fx.1.1 og.1.1 (sorts_all fx.1.1) (sorts_all og.1.1)
   have iinc := wrap_inc i (by have := fl.1; omega)
   have step : (decide (atI l x.1 = ((i : Nat) : Int)) && underB x.1 g.1) = false → ∀ fr', lget fr' 0 = .ref b 0 → lget fr' 4 = .ref S.length 0 → lget fr' 7 = w → lget fr' 8 = .mapR id → lget fr' 13 = v → lget fr' 14 = .int .i64 (l.length : Nat) → lget fr' 15 = .int .i64 ((i + 1 : Nat)) → WS E0 _ fr' A _ := fun hf fr' a1 a2 a3 a4 a5 a6 a7 =>
    ih (l.length - (i + 1)) fr' A (by omega) ⟨i + 1, w, rfl, by omega, a1, a2, a3, a4, a5, a6, a7, lowA, by rw [hnext, hf]; simpa using hwA⟩
   repeat (first | refine WS.adm rfl ?_ | refine WS.region (by simp only [EV, TY, h14, h15, hlt', ↓reduceIte, Nat.reduceEqDiff]; with_reducible rfl) ?_)
   refine WS.ct0 ?_
   repeat (first | refine WS.adm rfl ?_ | refine WS.region (by simp only [EV, TY, lget, h13, h15, i1, i2, s1, s2, ↓reduceIte, Nat.reduceEqDiff]; with_reducible rfl) ?_)
   cases c1 : decide (atI l x.1 = ((i : Nat) : Int)) with
   | false =>
    rw [c1] at hfi
    have step := step (by rw [c1]; rfl)
    repeat (first | refine WS.adm rfl ?_ | refine WS.region (by simp only [EV, TY, lget, EV3, h8, h15, k1, callV_30, ky, g1, hfi, ↓reduceIte, Nat.reduceEqDiff]; with_reducible rfl) ?_)
    refine WS.cond_false (by simp only [EV, hfi, ↓reduceIte, Nat.reduceEqDiff]) ?_
    repeat (first | refine WS.adm rfl ?_ | refine WS.region (by simp only [EV, TY, h15, iinc, ↓reduceIte, Nat.reduceEqDiff]; with_reducible rfl) ?_)
    refine step _ ?_ ?_ ?_ ?_ ?_ ?_ ?_
    iterate 7 simp only [EV, h0, h4, h7, h8, h13, h14, ↓reduceIte, Nat.reduceEqDiff, AT]
   | true =>
    rw [c1] at hfi
    cases c2 : underB x.1 g.1 with
    | false =>
     rw [c2] at un
     have step := step (by rw [c1, c2]; rfl)
     repeat (first | refine WS.adm rfl ?_ | refine WS.region (by simp only [EV, TY, lget, EV3, h8, h15, k1, callV_30, ky, g1, hfi, fa52_0, k2, h4, fa30_0, k4, callV_31, un, ↓reduceIte, Nat.reduceEqDiff]; with_reducible rfl) ?_)
     refine WS.cond_false (by simp only [EV, hfi, ↓reduceIte, Nat.reduceEqDiff]) ?_
     repeat (first | refine WS.adm rfl ?_ | refine WS.region (by simp only [EV, TY, h15, iinc, ↓reduceIte, Nat.reduceEqDiff]; with_reducible rfl) ?_)
     refine step _ ?_ ?_ ?_ ?_ ?_ ?_ ?_
     iterate 7 simp only [EV, h0, h4, h7, h8, h13, h14, ↓reduceIte, Nat.reduceEqDiff, AT]
    | true =>
     rw [c2] at un
     obtain ⟨y', p1, p2⟩ := perm_ok (bv := bv) hA hg (i4.pre (lowT.pre.trans lowA.pre)) og.2 fx.2 nx
     have hpl := viewU_len s g l i
     have hll := fl.1
     obtain ⟨w2, T2, q1, q2, q3, q4⟩ := hwA.put ety_31 lowA.1 (ofC.agg [u, y']) rfl (a := (x.1, permP s g.2 x.2)) (rImg_of i3 p2) (by omega) (by omega)
     have bd := build_52 (flatV.solid i3.flat) (flatV.vcells i3.flat) (flatV.solid p2.flat) (flatV.vcells p2.flat)
     have k2b := k2
     have k3b := k3
     rw [ld_ref isAggO_27] at k2b
     rw [ld_ref isAggO_50] at k3b
     repeat (first | refine WS.adm rfl ?_ | refine WS.region (by simp only [EV, TY, lget, EV3, h8, h15, k1, callV_30, ky, g1, hfi, fa52_0, k2, h4, fa30_0, k4, callV_31, un, ↓reduceIte, Nat.reduceEqDiff]; with_reducible rfl) ?_)
     refine WS.cond_true (by simp only [EV, hfi, ↓reduceIte, Nat.reduceEqDiff]) ?_
     repeat refine WS.adm rfl ?_
     refine WS.drawb (b := [0, 0, 2, 0, 0, 0, 32, 120, 254, 510, 1023, 2047]) (by kernel_rfl) (by simp only [DL, isEff, isRead, Nat.reduceAdd, EV, TY,  lget, h0, h4, h7, fa52_0, fa52_1, k2, k2b, k3, k3b, k5, callV_32, p1, bd, q1, q2, Bool.false_or, Nat.reducePow, Nat.reduceDiv, Nat.reduceMod, ↓reduceIte, Nat.reduceEqDiff]; with_reducible rfl) ?_
     repeat (first | refine WS.adm rfl ?_ | refine WS.region (by simp only [EV, TY, h15, iinc, ↓reduceIte, Nat.reduceEqDiff]; with_reducible rfl) ?_)
     refine ih (l.length - (i + 1)) _ _ (by omega) ⟨i + 1, w2, rfl, by omega, ?_, ?_, ?_, ?_, ?_, ?_, ?_, lowA.trans q4, by rw [hnext, c1, c2]; exact q3⟩
     iterate 7 simp only [EV, h0, h4, h8, h13, h14, ↓reduceIte, Nat.reduceEqDiff, AT]
  ·have hlt' : ¬ ((i : Nat) : Int) < ((l.length : Nat) : Int) := by omega
   repeat (first | refine WS.adm rfl ?_ | refine WS.region (by simp only [EV, TY, h14, h15, hlt', ↓reduceIte, Nat.reduceEqDiff]; with_reducible rfl) ?_)
   refine WS.cf0 ?_
   refine WS.exit rfl ?_
   have : i = l.length := by omega
   subst this
   refine last _ _ ⟨w, ?_, hlow, hw⟩
   simp only [EV, h7, ↓reduceIte, Nat.reduceEqDiff, AT]
theorem View_ok {S : Store} {b q r : Nat} {tv kv bv gv v : V} {s : SchD} {g : Agr} {l : List Img} (h : Sch S b tv kv q r s) (hb : pDn bv g.1) (hg : PArr 1 rS gv g.2) (hl : pImgs v l) (og : fitGr g) (fl : fitL l) (on : NmL l) :
  ∃ w, vrun E0 (.fn 10) [.ref b 0, .agg [bv, gv], v] S = some (w, S) ∧ pImgs w (viewP s g l) := ViewA_ok h hb hg (Arr.mono (rImg.s S) (PArr.arr hl S)) og fl on
theorem eq33n (l : Bool) : opBin E0 l .eql 33 .nilp .nilp = some (.bool true) := by kernel_rfl
theorem eq33r (l : Bool) (i : Nat) : opBin E0 l .eql 33 (.ref i 0) .nilp = some (.bool false) := by kernel_rfl
theorem insA_perm (a : IgS.Kd) : ∀ l, (IgS.insA a l).Perm (a :: l)
 | [] => by simp [IgS.insA]
 | b :: l => by
  unfold IgS.insA
  split
  ·exact List.Perm.refl _
  ·exact ((insA_perm a l).cons b).trans (List.Perm.swap a b l)
theorem srt_perm_aux : ∀ l acc : List IgS.Kd, (l.foldl (fun acc a => IgS.insA a acc) acc).Perm (acc ++ l)
 | [], acc => by simp
 | a :: l, acc => by
  rw [List.foldl_cons]
  refine (srt_perm_aux l _).trans ?_
  refine ((insA_perm a acc).append_right l).trans ?_
  rw [List.cons_append]
  exact List.perm_middle.symm
theorem srt_perm (l : List IgS.Kd) : (IgS.srt l).Perm l := by simpa [IgS.srt] using srt_perm_aux l []
theorem map_tag_snd (l : List Img) : (l.map tagK).map (·.2) = l := by
 rw [List.map_map]
 exact List.map_id' l
theorem sortP_perm (l : List Img) : (sortP l).Perm l := by
 have := (srt_perm (l.map tagK)).map (·.2)
 rw [map_tag_snd] at this
 exact this
def Unl (l : List Img) : Prop := l.Pairwise fun x y => normN x.1 ≠ normN y.1
theorem Unl.perm {l r : List Img} (h : Unl l) (p : l.Perm r) : Unl r := (List.Perm.pairwise_iff (fun {x y} hxy => Ne.symm hxy) p).1 h
theorem Unl.at_ {l : List Img} (h : Unl l) {i : Nat} (hi : i < l.length) : l.findIdx? (oneN l[i].1) = some i := by
 rw [List.findIdx?_eq_some_iff_getElem]
 refine ⟨hi, by simp [oneN], fun j hj => ?_⟩
 have := List.pairwise_iff_getElem.1 h j i (by omega) hi hj
 simpa [oneN] using this
theorem pick_unl {s : SchD} {g : Agr} {l : List Img} (h : Unl l) {i : Nat} (hi : i < l.length) : pick1 s g l i = if underB l[i].1 g.1 then [(l[i].1, permP s g.2 l[i].2)] else [] := by
 unfold pick1
 rw [List.getElem?_eq_getElem hi]
 simp only [at_some (h.at_ hi), decide_true, Bool.true_and]
theorem viewU_unl {s : SchD} {g : Agr} {l : List Img} (h : Unl l) : ∀ i, i ≤ l.length → viewU s g l i = ((l.take i).filter fun x => underB x.1 g.1).map fun x => (x.1, permP s g.2 x.2)
 | 0, _ => by simp [viewU]
 | i + 1, hi => by
  have hlt : i < l.length := by omega
  rw [viewU_succ, viewU_unl h i (by omega), pick_unl h hlt, List.take_succ_eq_append_getElem hlt, List.filter_append, List.map_append]
  congr 1
  cases c : underB l[i].1 g.1 with
  | true => simp [c]
  | false => simp [c]
theorem view_unl {s : SchD} {g : Agr} {l : List Img} (h : Unl l) : viewP s g l = sortP ((l.filter fun x => underB x.1 g.1).map fun x => (x.1, permP s g.2 x.2)) := by
 unfold viewP
 rw [viewU_unl h l.length (Nat.le_refl _), List.take_length]
theorem at_same {l : List Img} {n m : List (List Ava)} (h : normN n = normN m) : atI l n = atI l m := by
 unfold atI oneN
 rw [h]
theorem viewP_len (s : SchD) (g : Agr) (l : List Img) : (viewP s g l).length ≤ l.length := by
 unfold viewP
 rw [(sortP_perm _).length_eq]
 exact viewU_len s g l _
theorem fit_viewP {s : SchD} {g : Agr} {l : List Img} (fl : fitL l) : fitL (viewP s g l) := by
 have h := fit_viewU (s := s) (g := g) fl l.length (Nat.le_refl _)
 exact ⟨Nat.le_trans (viewP_len s g l) fl.1, fun x hx => h.2 x ((sortP_perm _).mem_iff.1 hx)⟩
end Go.Proofs.YtmmjlgocihhkcaaGreatDoor
