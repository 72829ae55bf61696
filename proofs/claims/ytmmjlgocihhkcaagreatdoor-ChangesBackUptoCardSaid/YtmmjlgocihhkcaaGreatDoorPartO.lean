import Derived.Test.YtmmjlgocihhkcaaGreatDoorPartN
set_option linter.all false
namespace Go.Proofs.YtmmjlgocihhkcaaGreatDoor
open Go Go.Vm
set_option maxRecDepth 100000
set_option maxHeartbeats 8000000
theorem apply_ok {S : Store} {v : V} {cd : List V} {a : List Img} {d : Dlt} (ha : pImgs v a) (hd : rDlt cd d) (fa : fitL a) (fd : fitD d) (hs : a.length + d.2.length ≤ 1048576) : ∃ w, vrun E0 (.fn 16) [v, .agg cd] S = some (w, S) ∧ pImgs w (applyP a d) := by
 suffices h : ∃ r, (∃ w, r = (w, S) ∧ pImgs w (applyP a d)) ∧ vrun E0 (.fn 16) [v, .agg cd] S = some r by
  obtain ⟨r, ⟨w, rfl, h2⟩, h3⟩ := h
  exact ⟨w, h3, h2⟩
 refine fn_wsP Tryz.func16 rfl ?_
 obtain ⟨g, pz, rfl, hg, hpz⟩ := hd
 have hbx : opBox S 43 (.agg [g, pz]) = some (.ref S.length 0, S ++ [.cells [g, pz] 43]) := by simp [opBox, solid, vcells]
 have lS : (S ++ [Ob.cells [g, pz] 43]).length = S.length + 1 := by simp
 have c0 : (S ++ [Ob.cells [g, pz] 43] ++ [.mp []])[S.length]? = some (.cells [g, pz] 43) := by simp
 have m0 : (S ++ [Ob.cells [g, pz] 43] ++ [.mp []])[S.length + 1]? = some (.mp (mpC [])) := by simp [mpC]
 have low0 : Low S.length S (S ++ [Ob.cells [g, pz] 43] ++ [.mp []]) := (Low.app (Nat.le_refl _) _).trans (Low.app (by simp) _)
 have hl0 : (S ++ [Ob.cells [g, pz] 43] ++ [Ob.mp []]).length = S.length + 2 := by simp
 have l0 : opLoad E0 (S ++ [Ob.cells [g, pz] 43] ++ [.mp []]) 41 (.ref S.length 0) = some g := var_ld1 isAggO_41 c0 rfl
 have lnG := (PArr.arr hg (S ++ [Ob.cells [g, pz] 43] ++ [.mp []])).len (E := E0) Tryz.underlying41
 repeat (first | refine WS.adm rfl ?_ | refine WS.region (by simp only [EV, TY, lget, hbx, EV3, lS, fa43_0, l0, lnG, ↓reduceIte, Nat.reduceEqDiff]; with_reducible rfl) ?_)
 generalize S ++ [Ob.cells [g, pz] 43] ++ [.mp []] = S2 at c0 m0 low0 hl0
 clear l0 lnG hbx lS
 refine WS.loopB (fun j fr U => ∃ i G, j = d.1.length - i ∧ i ≤ d.1.length ∧ lget fr 0 = v ∧ lget fr 3 = .ref S.length 0 ∧ lget fr 5 = .mapR (S.length + 1) ∧ lget fr 20 = g ∧ lget fr 21 = .int .i64 (d.1.length : Nat) ∧ lget fr 22 = .int .i64 (i : Nat) ∧
   U[S.length + 1]? = some (.mp (mpC G)) ∧ U[S.length]? = some (.cells [g, pz] 43) ∧ Low S.length S U ∧ isGone G (d.1.take i))
  (fun fr U => ∃ G, lget fr 0 = v ∧ lget fr 3 = .ref S.length 0 ∧ lget fr 5 = .mapR (S.length + 1) ∧ U[S.length + 1]? = some (.mp (mpC G)) ∧ U[S.length]? = some (.cells [g, pz] 43) ∧ Low S.length S U ∧ isGone G d.1) (j := d.1.length) ?_ ?_ ?_
 ·refine ⟨0, [], by omega, by omega, ?_, ?_, ?_, ?_, ?_, ?_, m0, c0, low0, fun k => rfl⟩
  all_goals
   simp only [EV, lget, ↓reduceIte, Nat.reduceEqDiff, AT]
   try rfl
 ·rintro fr U ⟨G, h0, h3, h5, hm, hc, hlow, hG⟩
  have hUl : S.length + 2 ≤ U.length := lt_of_get hm
  have lnA := (PArr.arr ha U).len (E := E0) Tryz.underlying31
  repeat (first | refine WS.adm rfl ?_ | refine WS.region (by simp only [EV, TY, lget, h0, lnA, ↓reduceIte, Nat.reduceEqDiff]; with_reducible rfl) ?_)
  refine WS.loopB (fun j fr X => ∃ i vo, j = a.length - i ∧ i ≤ a.length ∧ lget fr 3 = .ref S.length 0 ∧ lget fr 5 = .mapR (S.length + 1) ∧ lget fr 8 = vo ∧ lget fr 32 = v ∧ lget fr 33 = .int .i64 (a.length : Nat) ∧ lget fr 34 = .int .i64 (i : Nat) ∧
    Low U.length U X ∧ Lst U.length 52 2 rImg X vo ((a.take i).filter fun x => !goneB d.1 x))
   (fun fr X => ∃ vo, lget fr 3 = .ref S.length 0 ∧ lget fr 8 = vo ∧ Low U.length U X ∧ Lst U.length 52 2 rImg X vo (a.filter fun x => !goneB d.1 x)) (j := a.length) ?_ ?_ ?_
  ·refine ⟨0, .slN, by omega, by omega, ?_, ?_, ?_, ?_, ?_, ?_, Low.refl (Nat.le_refl _), Lst.nil _ _ _ _ _⟩
   all_goals
    simp only [EV, lget, h3, h5, h0, ↓reduceIte, Nat.reduceEqDiff, AT]
    try rfl
  ·rintro fr X ⟨vo, h3, h8, hlX, hout⟩
   have hfl0 : fitL (a.filter fun x => !goneB d.1 x) := ⟨by have := List.length_filter_le (fun x => !goneB d.1 x) a; omega, fun x hx => fa.2 x ((List.mem_filter.1 hx).1)⟩
   have hflen := List.length_filter_le (fun x => !goneB d.1 x) a
   have happL : applyL a d = d.2.foldl putOne (a.filter fun x => !goneB d.1 x) := rfl
   generalize (a.filter fun x => !goneB d.1 x) = o0 at hout hfl0 hflen happL
   obtain ⟨idm, Y, M, e1, m1, i1, low1, fst1⟩ := first_ok hout.arr hfl0
   have hcX : X[S.length]? = some (.cells [g, pz] 43) := by rw [hlX.2 _ (by omega)]; exact hc
   have hcY : Y[S.length]? = some (.cells [g, pz] 43) := by rw [low1.2 _ (lt_of_get hcX)]; exact hcX
   have hUX : U.length ≤ X.length := hlX.1
   have l1 : opLoad E0 Y 31 (.ref S.length 1) = some pz := var_ld1 isAggO_31 hcY rfl
   have lnP := (PArr.arr hpz Y).len (E := E0) Tryz.underlying31
   have houtY : Lst U.length 52 2 rImg Y vo o0 := Lst.low low1 (Nat.le_refl _) hout
   have hlowY : Low U.length U Y := hlX.trans ⟨Nat.le_trans hUX low1.1, fun q hq => low1.2 q (by omega)⟩
   repeat (first | refine WS.adm rfl ?_ | refine WS.region (by simp only [EV, TY, lget, h8, callV_29, e1, h3, fa43_1, l1, lnP, ↓reduceIte, Nat.reduceEqDiff]; with_reducible rfl) ?_)
   refine WS.loopB (fun j fr Z => ∃ i vo M out, j = d.2.length - i ∧ i ≤ d.2.length ∧ lget fr 8 = vo ∧ lget fr 13 = .mapR idm ∧ lget fr 55 = pz ∧ lget fr 56 = .int .i64 (d.2.length : Nat) ∧ lget fr 57 = .int .i64 (i : Nat) ∧
     Low U.length U Z ∧ Z[idm]? = some (.mp (mpC M)) ∧ isFirst M out ∧ Lst U.length 52 2 rImg Z vo out ∧ out = (d.2.take i).foldl putOne o0)
    (fun fr Z => ∃ vo, lget fr 8 = vo ∧ Low U.length U Z ∧ Lst U.length 52 2 rImg Z vo (applyL a d)) (j := d.2.length) ?_ ?_ ?_
   ·refine ⟨0, vo, M, o0, by omega, by omega, ?_, ?_, ?_, ?_, ?_, hlowY, m1, fst1, houtY, rfl⟩
    all_goals
     simp only [EV, lget, h8, ↓reduceIte, Nat.reduceEqDiff, AT]
     try rfl
   ·rintro fr Z ⟨vo, h8, hlZ, hout⟩
    have hfit : fitL (applyL a d) := by
     rw [happL]
     refine ⟨by have := fold_len d.2 o0; omega, fun x hx => ?_⟩
     rcases fold_mem hx with h | h
     ·exact fd.2.2 x h
     ·exact hfl0.2 x h
    obtain ⟨Z', s1, s2, s3⟩ := sorted_ok hout hlZ.1 hfit
    have hSZ : Low S.length S Z' := hlow.trans ⟨by have := hlZ.1; have := s3.1; omega, fun q hq => by rw [s3.2 q (by omega), hlZ.2 q (by omega)]⟩
    obtain ⟨w, f1, f2⟩ := (lst_weak s2 (show S.length ≤ U.length by omega)).done rImg.flat 5
    repeat (first | refine WS.adm rfl ?_ | refine WS.region (by simp only [EV, TY, lget, h8, callV_33, s1, ↓reduceIte, Nat.reduceEqDiff]; with_reducible rfl) ?_)
    refine WS.ret1P (t := 4) rfl rfl ?_ hSZ.pre f1 ⟨w, rfl, f2⟩
    simp only [EV, ↓reduceIte, Nat.reduceEqDiff, AT]
   ·rintro j fr Z ⟨i, vo, M, out, rfl, hi, h8, h13, h55, h56, h57, hlZ, hmZ, hfst, hout, hov⟩ ih last
    by_cases hlt : i < d.2.length
    ·have hlt' : ((i : Nat) : Int) < ((d.2.length : Nat) : Int) := by omega
     obtain ⟨qa, u, y, _, j1, j2, _, _, j3, j4⟩ := img_at (PArr.arr hpz Z) i hlt
     have fx := fd.2.at_ hlt
     have htk := List.take_succ_eq_append_getElem hlt
     have hstep : putOne out d.2[i] = (d.2.take (i + 1)).foldl putOne o0 := by rw [htk, List.foldl_append, ← hov]; rfl
     have hol : out.length ≤ 1048576 := by
      rw [hov]
      have := fold_len (d.2.take i) o0
      rw [List.length_take] at this
      omega
     have hofit : fitL out := by
      refine ⟨hol, fun x hx => ?_⟩
      rw [hov] at hx
      rcases fold_mem hx with h | h
      ·exact fd.2.2 x (List.mem_of_mem_take h)
      ·exact hfl0.2 x h
     generalize d.2[i] = x at j3 j4 fx hstep
     have s1 := var_al (E := E0) zeroV_52 Z
     have s2 := var_st (E := E0) (e := 52) tsize_52 Z (zs := [.slN, .slN]) (xs := [u, y]) rfl rfl
     have l1 : opLoad E0 (Z ++ [.cells [u, y] 52]) 52 (.ref Z.length 0) = some (.agg [u, y]) := var_ld isAggO_52 tsize_52 (getS0 _) rfl
     have houtW := hout.more [Ob.cells [u, y] 52]
     have hlW : Low U.length U (Z ++ [Ob.cells [u, y] 52]) := hlZ.trans (Low.app hlZ.1 _)
     have hmW : (Z ++ [Ob.cells [u, y] 52])[idm]? = some (.mp (mpC M)) := get_more hmZ _
     have hvW : (Z ++ [Ob.cells [u, y] 52])[Z.length]? = some (.cells [u, y] 52) := getS0 _
     generalize hWe : Z ++ [Ob.cells [u, y] 52] = W at s2 l1 houtW hlW hmW hvW
     have hk := fun X => key_ok (S := X) (w := y) j3 fx.1
     obtain ⟨g1, _⟩ := map_get (E := E0) Tryz.underlying80 Tryz.underlying9 zeroV_3 hmW (kofN x.1)
     have hat := hfst.at_ hofit fx.1.1
     rw [hat] at g1
     have iinc := wrap_inc i (by have := fd.2.1; omega)
     repeat (first | refine WS.adm rfl ?_ | refine WS.region (by simp only [EV, TY, h56, h57, hlt', ↓reduceIte, Nat.reduceEqDiff]; with_reducible rfl) ?_)
     refine WS.ct0 ?_
     cases hq : out.findIdx? (oneN x.1) with
     | some q =>
      rw [hq] at g1
      have g1' : opLookup E0 W 80 (.mapR idm) (.str (kofN x.1)) true = some (.tup [.int .i64 ((q : Nat) : Int), .bool true]) := g1
      obtain ⟨hqa, hqk, _⟩ := List.findIdx?_eq_some_iff_getElem.1 hq
      obtain ⟨pq, cs, r1, r2, r3, r4⟩ := houtW.set hqa Tryz.underlying31 tsize_52 (x := .slN) (c := [u, y]) (a := x) rfl (rImg_of j3 j4)
      have r3' : opStore E0 W 52 (.ref pq (q * 2)) (.agg [u, y]) = some (W.set pq (.cells (splice cs (q * 2) [u, y]) 52)) := by
       unfold opStore
       simp [tsize_52, solid, vcells, r3]
      have hne : W[pq]? ≠ some (.mp (mpC M)) := by
       intro he
       unfold putAt at r3
       simp [cellsOf, he] at r3
      have hmW2 : (W.set pq (.cells (splice cs (q * 2) [u, y]) 52))[idm]? = some (.mp (mpC M)) := by
       rw [List.getElem?_set_ne (fun e => hne (by rw [e]; exact hmW))]; exact hmW
      have hpo : putOne out x = out.set q x := by unfold putOne; rw [hq]
      have hkk : kofN out[q].1 = kofN x.1 := (kof_iff (hofit.at_ hqa).1.1 fx.1.1).2 (of_decide_eq_true hqk)
      repeat (first | refine WS.adm rfl ?_ | refine WS.region (by simp only [EV, TY, lget, EV3, h13, h55, h57, j1, j2, s1, s2, l1, callV_30, hk, g1', ↓reduceIte, Nat.reduceEqDiff]; with_reducible rfl) ?_)
      refine WS.ct0 ?_
      repeat (first | refine WS.adm rfl ?_ | refine WS.region (by simp only [EV, TY, lget, h8, r1, l1, r3', h57, iinc, ↓reduceIte, Nat.reduceEqDiff]; with_reducible rfl) ?_)
      refine ih (d.2.length - (i + 1)) _ _ (by omega) ⟨i + 1, vo, M, out.set q x, rfl, by omega, ?_, ?_, ?_, ?_, ?_, hlW.trans (Low.set hlW.1 r2), hmW2, hfst.set hqa hkk, r4, by rw [← hstep, hpo]⟩
      iterate 5 simp only [EV, h8, h13, h55, h56, ↓reduceIte, Nat.reduceEqDiff, AT]
     | none =>
      rw [hq] at g1
      have g1' : opLookup E0 W 80 (.mapR idm) (.str (kofN x.1)) true = some (.tup [.int .i64 0, .bool false]) := g1
      have hnone : (mget M (kofN x.1)).isSome = false := by rw [hat, hq]; rfl
      have hpo : putOne out x = out ++ [x] := by unfold putOne; rw [hq]
      have p1 := map_put (E := E0) Tryz.underlying80 Tryz.underlying9 hmW (kofN x.1) ((out.length : Nat) : Int)
      have lO := houtW.arr.len (E := E0) Tryz.underlying31
      have hUidm : U.length ≤ idm := by omega
      have hlW2 : Low U.length U (W.set idm (.mp (mpC (mput M (kofN x.1) ((out.length : Nat) : Int))))) := hlW.trans (Low.set hlW.1 hUidm)
      have hmW2 : (W.set idm (.mp (mpC (mput M (kofN x.1) ((out.length : Nat) : Int)))))[idm]? = some (.mp (mpC (mput M (kofN x.1) ((out.length : Nat) : Int)))) := by rw [List.getElem?_set_self (lt_of_get hmW)]
      have houtW2 : Lst U.length 52 2 rImg (W.set idm (.mp (mpC (mput M (kofN x.1) ((out.length : Nat) : Int))))) vo out := by
       rcases houtW with h | ⟨p, cs, q1, q2, q3, q4⟩
       ·exact .inl h
       ·refine .inr ⟨p, cs, q1, q2, ?_, q4⟩
        rw [List.getElem?_set_ne (fun e => by subst e; rw [hmW] at q3; cases q3)]; exact q3
      have hvne : idm ≠ Z.length := fun e => by rw [e, hvW] at hmW; cases hmW
      have l2 : opLoad E0 (W.set idm (.mp (mpC (mput M (kofN x.1) ((out.length : Nat) : Int))))) 52 (.ref Z.length 0) = some (.agg [u, y]) := var_ld isAggO_52 tsize_52 (by rw [List.getElem?_set_ne hvne]; exact hvW) rfl
      generalize W.set idm (.mp (mpC (mput M (kofN x.1) ((out.length : Nat) : Int)))) = W2 at p1 hlW2 hmW2 houtW2 l2
      obtain ⟨vo', T4, k1, k2, k3, k4, k5⟩ := Lst.put2 ety_31 houtW2 hlW2.1 (ofC.agg [u, y]) rfl (a := x) (rImg_of j3 j4) (by omega) (by omega)
      have hmT := k5 _ _ hmW2
      repeat (first | refine WS.adm rfl ?_ | refine WS.region (by simp only [EV, TY, lget, EV3, h13, h55, h57, j1, j2, s1, s2, l1, callV_30, hk, g1', ↓reduceIte, Nat.reduceEqDiff]; with_reducible rfl) ?_)
      refine WS.cf0 ?_
      repeat (first | refine WS.adm rfl ?_ | refine WS.region (by simp only [EV, TY, lget, EV3, h8, h13, l1, callV_30, hk, lO, p1, l2, k1, k2, h57, iinc, ↓reduceIte, Nat.reduceEqDiff]; with_reducible rfl) ?_)
      refine ih (d.2.length - (i + 1)) _ _ (by omega) ⟨i + 1, vo', _, out ++ [x], rfl, by omega, ?_, ?_, ?_, ?_, ?_, hlW2.trans k4, hmT, hfst.put hnone, k3, by rw [← hstep, hpo]⟩
      iterate 5 simp only [EV, h13, h55, h56, ↓reduceIte, Nat.reduceEqDiff, AT]
    ·have hlt' : ¬ ((i : Nat) : Int) < ((d.2.length : Nat) : Int) := by omega
     repeat (first | refine WS.adm rfl ?_ | refine WS.region (by simp only [EV, TY, h56, h57, hlt', ↓reduceIte, Nat.reduceEqDiff]; with_reducible rfl) ?_)
     refine WS.cf0 ?_
     refine WS.exit rfl ?_
     have : i = d.2.length := by omega
     subst this
     rw [List.take_length] at hov
     refine last _ _ ⟨vo, ?_, hlZ, by rw [happL, ← hov]; exact hout⟩
     simp only [EV, h8, ↓reduceIte, Nat.reduceEqDiff, AT]
  ·rintro j fr X ⟨i, vo, rfl, hi, h3, h5, h8, h32, h33, h34, hlX, hout⟩ ih last
   by_cases hlt : i < a.length
   ·have hlt' : ((i : Nat) : Int) < ((a.length : Nat) : Int) := by omega
    obtain ⟨qa, u, y, _, j1, j2, _, _, j3, j4⟩ := img_at (PArr.arr ha X) i hlt
    have fx := fa.at_ hlt
    have htk := List.take_succ_eq_append_getElem hlt
    have hfl := congrArg (fun l => l.filter fun x => !goneB d.1 x) htk
    simp only [filter_snoc] at hfl
    generalize a[i] = x at j3 j4 fx hfl
    have s1 := var_al (E := E0) zeroV_52 X
    have s2 := var_st (E := E0) (e := 52) tsize_52 X (zs := [.slN, .slN]) (xs := [u, y]) rfl rfl
    have l1 : opLoad E0 (X ++ [.cells [u, y] 52]) 52 (.ref X.length 0) = some (.agg [u, y]) := var_ld isAggO_52 tsize_52 (getS0 _) rfl
    have houtW := hout.more [Ob.cells [u, y] 52]
    have hlW : Low U.length U (X ++ [Ob.cells [u, y] 52]) := hlX.trans (Low.app hlX.1 _)
    generalize X ++ [Ob.cells [u, y] 52] = W at s2 l1 houtW hlW
    have hmW : W[S.length + 1]? = some (.mp (mpC G)) := by rw [hlW.2 _ (by omega)]; exact hm
    have hk := key_ok (S := W) (w := y) j3 fx.1
    obtain ⟨g1, _⟩ := map_get (E := E0) Tryz.underlying80 Tryz.underlying9 zeroV_3 hmW (kofN x.1)
    have hgo := hG.at_ fd.1 fx.1.1
    have iinc := wrap_inc i (by have := fa.1; omega)
    have hcnt : ((a.take i).filter fun x => !goneB d.1 x).length ≤ 1048576 := by have := fa.1; have := List.length_filter_le (fun x => !goneB d.1 x) (a.take i); rw [List.length_take] at this; omega
    rw [hgo] at g1
    repeat (first | refine WS.adm rfl ?_ | refine WS.region (by simp only [EV, TY, h33, h34, hlt', ↓reduceIte, Nat.reduceEqDiff]; with_reducible rfl) ?_)
    refine WS.ct0 ?_
    cases hq : goneB d.1 x with
    | true =>
     rw [hq] at g1 hfl
     repeat (first | refine WS.adm rfl ?_ | refine WS.region (by simp only [EV, TY, lget, EV3, h5, h32, h34, j1, j2, s1, s2, l1, callV_30, hk, g1, Bool.not_true, ↓reduceIte, Nat.reduceEqDiff]; with_reducible rfl) ?_)
     refine WS.cf0 ?_
     repeat (first | refine WS.adm rfl ?_ | refine WS.region (by simp only [EV, TY, h34, iinc, ↓reduceIte, Nat.reduceEqDiff]; with_reducible rfl) ?_)
     refine ih (a.length - (i + 1)) _ _ (by omega) ⟨i + 1, vo, rfl, by omega, ?_, ?_, ?_, ?_, ?_, ?_, hlW, by rw [hfl]; exact houtW⟩
     iterate 6 simp only [EV, h3, h5, h8, h32, h33, ↓reduceIte, Nat.reduceEqDiff, AT]
    | false =>
     rw [hq] at g1 hfl
     obtain ⟨vo', T4, k1, k2, k3, k4⟩ := houtW.put ety_31 hlW.1 (ofC.agg [u, y]) rfl (a := x) (rImg_of j3 j4) (by omega) (by omega)
     repeat (first | refine WS.adm rfl ?_ | refine WS.region (by simp only [EV, TY, lget, EV3, h5, h32, h34, j1, j2, s1, s2, l1, callV_30, hk, g1, Bool.not_false, ↓reduceIte, Nat.reduceEqDiff]; with_reducible rfl) ?_)
     refine WS.ct0 ?_
     repeat (first | refine WS.adm rfl ?_ | refine WS.region (by simp only [EV, TY, lget, h8, l1, k1, k2, h34, iinc, ↓reduceIte, Nat.reduceEqDiff]; with_reducible rfl) ?_)
     refine ih (a.length - (i + 1)) _ _ (by omega) ⟨i + 1, vo', rfl, by omega, ?_, ?_, ?_, ?_, ?_, ?_, hlW.trans k4, by rw [hfl, if_pos (by rfl)]; exact k3⟩
     iterate 6 simp only [EV, h3, h5, h32, h33, ↓reduceIte, Nat.reduceEqDiff, AT]
   ·have hlt' : ¬ ((i : Nat) : Int) < ((a.length : Nat) : Int) := by omega
    repeat (first | refine WS.adm rfl ?_ | refine WS.region (by simp only [EV, TY, h33, h34, hlt', ↓reduceIte, Nat.reduceEqDiff]; with_reducible rfl) ?_)
    refine WS.cf0 ?_
    refine WS.exit rfl ?_
    have : i = a.length := by omega
    subst this
    rw [List.take_length] at hout
    refine last _ _ ⟨vo, ?_, ?_, hlX, hout⟩
    iterate 2 simp only [EV, h3, h8, ↓reduceIte, Nat.reduceEqDiff, AT]
 ·rintro j fr U ⟨i, G, rfl, hi, h0, h3, h5, h20, h21, h22, hm, hc, hlow, hG⟩ ih last
  by_cases hlt : i < d.1.length
  ·have hlt' : ((i : Nat) : Int) < ((d.1.length : Nat) : Int) := by omega
   obtain ⟨qa, u, j1, j2, j3⟩ := dn_at (PArr.arr hg U) i hlt
   have fx := fd.1.2 _ (List.getElem_mem hlt)
   have htk := List.take_succ_eq_append_getElem hlt
   generalize d.1[i] = n at j3 fx htk
   have hk := keyOf_ok (j3.is U) fx
   have p1 := map_put (E := E0) Tryz.underlying80 Tryz.underlying9 hm (kofN n) ((i : Nat) : Int)
   have iinc := wrap_inc i (by have := fd.1.1; omega)
   repeat (first | refine WS.adm rfl ?_ | refine WS.region (by simp only [EV, TY, h21, h22, hlt', ↓reduceIte, Nat.reduceEqDiff]; with_reducible rfl) ?_)
   refine WS.ct0 ?_
   repeat (first | refine WS.adm rfl ?_ | refine WS.region (by simp only [EV, TY, lget, EV3, h5, h20, h22, j1, j2, callV_39, hk, p1, iinc, ↓reduceIte, Nat.reduceEqDiff]; with_reducible rfl) ?_)
   refine ih (d.1.length - (i + 1)) _ _ (by omega) ⟨i + 1, mput G (kofN n) ((i : Nat) : Int), rfl, by omega, ?_, ?_, ?_, ?_, ?_, ?_, by rw [List.getElem?_set_self (lt_of_get hm)], by rw [List.getElem?_set_ne (by omega)]; exact hc, hlow.trans (Low.set hlow.1 (by omega)), by rw [htk]; exact hG.put n _⟩
   iterate 6 simp only [EV, h0, h3, h5, h20, h21, ↓reduceIte, Nat.reduceEqDiff, AT]
  ·have hlt' : ¬ ((i : Nat) : Int) < ((d.1.length : Nat) : Int) := by omega
   repeat (first | refine WS.adm rfl ?_ | refine WS.region (by simp only [EV, TY, h21, h22, hlt', ↓reduceIte, Nat.reduceEqDiff]; with_reducible rfl) ?_)
   refine WS.cf0 ?_
   refine WS.exit rfl ?_
   have : i = d.1.length := by omega
   subst this
   rw [List.take_length] at hG
   refine last _ _ ⟨G, ?_, ?_, ?_, hm, hc, hlow, hG⟩
   iterate 3 simp only [EV, h0, h3, h5, ↓reduceIte, Nat.reduceEqDiff, AT]
end Go.Proofs.YtmmjlgocihhkcaaGreatDoor
