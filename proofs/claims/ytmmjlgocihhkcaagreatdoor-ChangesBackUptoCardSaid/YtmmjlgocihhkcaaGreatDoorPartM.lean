import Derived.Test.YtmmjlgocihhkcaaGreatDoorPartJ
set_option linter.all false
namespace Go.Proofs.YtmmjlgocihhkcaaGreatDoor
open Go Go.Vm
set_option maxRecDepth 100000
set_option maxHeartbeats 8000000
theorem okN.smallR {n : List (List Ava)} (h : okN n) : ∀ r ∈ n, smallR r := fun r hr => ⟨by have := (h.2 r hr).1; omega, fun a ha => ⟨by have := ((h.2 r hr).2 a ha).1; omega, by have := ((h.2 r hr).2 a ha).2; omega⟩⟩
theorem kof_iff {n m : List (List Ava)} (hn : okN n) (hm : okN m) : kofN n = kofN m ↔ normN n = normN m := ⟨fun h => kofT_inj (normN_ok hn).smallR (normN_ok hm).smallR h, fun h => by unfold kofN; rw [h]⟩
theorem fi_kof {l : List Img} {n : List (List Ava)} (fl : fitL l) (on : okN n) : (l.findIdx? fun x => decide (kofN x.1 = kofN n)) = l.findIdx? (oneN n) := by
 have h := fl.2
 clear fl
 induction l with
 | nil => rfl
 | cons x l ih =>
  rw [List.findIdx?_cons, List.findIdx?_cons, ih fun y hy => h y (by simp [hy])]
  have : decide (kofN x.1 = kofN n) = oneN n x := by
   unfold oneN
   rw [decide_eq_decide]
   exact kof_iff (h x (by simp)).1.1 on
  rw [this]
theorem isFirst.at_ {M : List (List UInt8 × Int)} {l : List Img} (h : isFirst M l) {n : List (List Ava)} (fl : fitL l) (on : okN n) : mget M (kofN n) = (l.findIdx? (oneN n)).map fun i => ((i : Nat) : Int) := by rw [h, fi_kof fl on]
def inL (l : List Img) (n : List (List Ava)) : Bool := (l.findIdx? (oneN n)).isSome
def putB (a : List Img) (x : Img) : Bool := match a.findIdx? (oneN x.1) with | none => true | some i => !decide (a[i]? = some x)
def diffP (a b : List Img) : Dlt := ((a.filter fun x => !inL b x.1).map (·.1), b.filter (putB a))
theorem filter_snoc {α : Type} (p : α → Bool) (l : List α) (x : α) : (l ++ [x]).filter p = if p x then l.filter p ++ [x] else l.filter p := by
 rw [List.filter_append]
 by_cases h : p x <;> simp [h]
theorem lowOth {n p : Nat} {T U : Store} (h : Low n T U) : Oth p n T U := ⟨h.1, fun q a _ => h.2 q a⟩
theorem Oth.here {p n : Nat} {T : Store} (hn : n ≤ T.length) (o : Ob) : Oth p n T (T.set p o) := ⟨by simpa using hn, fun q _ b => List.getElem?_set_ne (Ne.symm b)⟩
theorem lst_oth {α : Type} {p n0 n : Nat} {e : TypeId} {z : Nat} {R : List V → α → Prop} {T U : Store} {v : V} {l : List α} (h : Lst n0 e z R T v l) (hp : p < n0) (ho : Oth p n T U) (hn : T.length ≤ n) : Lst n0 e z R U v l := by
 rcases h with h | ⟨q, cs, h1, h2, h3, h4⟩
 ·exact .inl h
 ·exact .inr ⟨q, cs, h1, h2, by rw [ho.2 q (by have := lt_of_get h3; omega) (by omega)]; exact h3, h4⟩
theorem lst_weak {α : Type} {n0 m : Nat} {e : TypeId} {z : Nat} {R : List V → α → Prop} {T : Store} {v : V} {l : List α} (h : Lst n0 e z R T v l) (hm : m ≤ n0) : Lst m e z R T v l := by
 rcases h with h | ⟨q, cs, h1, h2, h3, h4⟩
 ·exact .inl h
 ·exact .inr ⟨q, cs, by omega, h2, h3, h4⟩
theorem lst_shape {α : Type} {n0 : Nat} {e : TypeId} {z : Nat} {R : List V → α → Prop} {T : Store} {v : V} {l : List α} (h : Lst n0 e z R T v l) : solid v = true ∧ vcells v = [v] := by
 rcases h with ⟨_, rfl⟩ | ⟨q, cs, _, rfl, _⟩ <;> exact ⟨rfl, rfl⟩
theorem low_oth {p n : Nat} {S T U : Store} (h : Low S.length S T) (ho : Oth p n T U) (hn : S.length ≤ n) (hp : S.length ≤ p) : Low S.length S U := ⟨Nat.le_trans hn ho.1, fun q hq => by rw [ho.2 q (by omega) (by omega)]; exact h.2 q hq⟩
theorem diff_ok {S : Store} {v w : V} {a b : List Img} (ha : pImgs v a) (hb : pImgs w b) (fa : fitL a) (fb : fitL b) : ∃ g p, vrun E0 (.fn 13) [v, w] S = some (.agg [g, p], S) ∧ PArr 1 rDn g (diffP a b).1 ∧ pImgs p (diffP a b).2 := by
 suffices h : ∃ r, (∃ g p, r = (.agg [g, p], S) ∧ PArr 1 rDn g (diffP a b).1 ∧ pImgs p (diffP a b).2) ∧ vrun E0 (.fn 13) [v, w] S = some r by
  obtain ⟨r, ⟨g, p, rfl, h2⟩, h3⟩ := h
  exact ⟨g, p, h3, h2⟩
 refine fn_wsP Tryz.func13 rfl ?_
 have al0 := var_al (E := E0) zeroV_43 S
 obtain ⟨id1, T1, M1, e1, m1, _, low1, fst1⟩ := first_ok (PArr.arr ha (S ++ [Ob.cells [.slN, .slN] 43])) fa
 obtain ⟨id2, T2, M2, e2, m2, i2, low2, fst2⟩ := first_ok (PArr.arr hb T1) fb
 have al1 := var_al (E := E0) zeroV_43 T2
 have lS : (S ++ [Ob.cells [V.slN, V.slN] 43]).length = S.length + 1 := by simp
 have c0 : T2[S.length]? = some (.cells [.slN, .slN] 43) := by
  rw [low2.2 _ (by have := low1.1; omega), low1.2 _ (by omega)]; exact getS0 _
 have hid1 : id1 < T1.length := lt_of_get m1
 have m1' : T2[id1]? = some (.mp (mpC M1)) := by rw [low2.2 _ hid1]; exact m1
 have hid2 : id2 < T2.length := lt_of_get m2
 have hp0 : S.length + 1 ≤ T2.length := by have := low1.1; have := low2.1; omega
 have lowS : Low S.length S T2 := ⟨by omega, fun q hq => by rw [low2.2 q (by have := low1.1; omega), low1.2 q (by omega), List.getElem?_append_left hq]⟩
 have hidlt1 : id1 < T2.length := lt_of_get m1'
 clear low1 low2 m1 i2 hid1
 generalize hp : T2.length = p at *
 have hT3 : (T2 ++ [Ob.cells [V.slN, V.slN] 43]).length = p + 1 := by simp [hp]
 have d3 : (T2 ++ [Ob.cells [V.slN, V.slN] 43])[p]? = some (.cells [.slN, .slN] 43) := by rw [← hp]; exact getS0 _
 have c3 : (T2 ++ [Ob.cells [V.slN, V.slN] 43])[S.length]? = some (.cells [.slN, .slN] 43) := get_more c0 _
 have n1 : (T2 ++ [Ob.cells [V.slN, V.slN] 43])[id1]? = some (.mp (mpC M1)) := get_more m1' _
 have n2 : (T2 ++ [Ob.cells [V.slN, V.slN] 43])[id2]? = some (.mp (mpC M2)) := get_more m2 _
 have lowS3 : Low S.length S (T2 ++ [Ob.cells [V.slN, V.slN] 43]) := lowS.trans (Low.app (by omega) _)
 have lnA := (PArr.arr ha (T2 ++ [Ob.cells [V.slN, V.slN] 43])).len (E := E0) Tryz.underlying31
 repeat (first | refine WS.adm rfl ?_ | refine WS.region (by simp only [EV, TY, lget, al0, callV_29, e1, e2, al1, hp, lnA, ↓reduceIte, Nat.reduceEqDiff]; with_reducible rfl) ?_)
 generalize T2 ++ [Ob.cells [V.slN, V.slN] 43] = T3 at hT3 d3 c3 n1 n2 lowS3 lnA
 clear m1' m2 c0 lowS e1 e2 al0 al1
 refine WS.loopB (fun j fr U => ∃ i g, j = a.length - i ∧ i ≤ a.length ∧ lget fr 0 = v ∧ lget fr 1 = w ∧ lget fr 4 = .ref S.length 0 ∧ lget fr 5 = .mapR id1 ∧ lget fr 6 = .mapR id2 ∧ lget fr 7 = .ref p 0 ∧ lget fr 20 = v ∧ lget fr 21 = .int .i64 (a.length : Nat) ∧ lget fr 22 = .int .i64 (i : Nat) ∧
   U[p]? = some (.cells [g, .slN] 43) ∧ Oth p (p + 1) T3 U ∧ Lst (p + 1) 27 1 rDn U g (((a.take i).filter fun x => !inL b x.1).map (·.1)))
  (fun fr U => ∃ g, lget fr 0 = v ∧ lget fr 1 = w ∧ lget fr 4 = .ref S.length 0 ∧ lget fr 5 = .mapR id1 ∧ lget fr 7 = .ref p 0 ∧ U[p]? = some (.cells [g, .slN] 43) ∧ Oth p (p + 1) T3 U ∧ Lst (p + 1) 27 1 rDn U g ((a.filter fun x => !inL b x.1).map (·.1))) (j := a.length) ?_ ?_ ?_
 ·refine ⟨0, .slN, by omega, by omega, ?_, ?_, ?_, ?_, ?_, ?_, ?_, ?_, ?_, d3, ⟨by omega, fun _ _ _ => rfl⟩, Lst.nil _ _ _ _ _⟩
  all_goals
   simp only [EV, lget, ↓reduceIte, Nat.reduceEqDiff, AT]
   try rfl
 ·rintro fr U ⟨g, h0, h1, h4, h5, h7, hd, ho, hg⟩
  have lnB := (PArr.arr hb U).len (E := E0) Tryz.underlying31
  have hUl : p + 1 ≤ U.length := ho.1
  repeat (first | refine WS.adm rfl ?_ | refine WS.region (by simp only [EV, TY, h1, lnB, ↓reduceIte, Nat.reduceEqDiff]; with_reducible rfl) ?_)
  refine WS.loopB (fun j fr X => ∃ i z, j = b.length - i ∧ i ≤ b.length ∧ lget fr 0 = v ∧ lget fr 4 = .ref S.length 0 ∧ lget fr 5 = .mapR id1 ∧ lget fr 7 = .ref p 0 ∧ lget fr 43 = w ∧ lget fr 44 = .int .i64 (b.length : Nat) ∧ lget fr 45 = .int .i64 (i : Nat) ∧
    X[p]? = some (.cells [g, z] 43) ∧ Oth p U.length U X ∧ Lst U.length 52 2 rImg X z ((b.take i).filter (putB a)))
   (fun fr X => ∃ z, lget fr 4 = .ref S.length 0 ∧ lget fr 7 = .ref p 0 ∧ X[p]? = some (.cells [g, z] 43) ∧ Oth p U.length U X ∧ Lst U.length 52 2 rImg X z (b.filter (putB a))) (j := b.length) ?_ ?_ ?_
  ·refine ⟨0, .slN, by omega, by omega, ?_, ?_, ?_, ?_, ?_, ?_, ?_, hd, ⟨Nat.le_refl _, fun _ _ _ => rfl⟩, Lst.nil _ _ _ _ _⟩
   all_goals
    simp only [EV, lget, h0, h4, h5, h7, ↓reduceIte, Nat.reduceEqDiff, AT]
    try rfl
  ·rintro fr X ⟨z, h4, h7, hx, hox, hz⟩
   have hgX := lst_oth hg (by omega) hox (Nat.le_refl _)
   have l1 : opLoad E0 X 43 (.ref p 0) = some (.agg [g, z]) := var_ld isAggO_43 tsize_43 hx rfl
   have hcX : X[S.length]? = some (.cells [.slN, .slN] 43) := by rw [hox.2 _ (by omega) (by omega), ho.2 _ (by omega) (by omega)]; exact c3
   have st := var_set (E := E0) tsize_43 (zs := [.slN, .slN]) (xs := [g, z]) hcX rfl rfl
   have hSX : Low S.length S X := low_oth (low_oth lowS3 ho (by omega) (by omega)) hox (by omega) (by omega)
   have hXl : S.length < X.length := lt_of_get hcX
   have hgY : Lst S.length 27 1 rDn (X.set S.length (.cells [g, z] 43)) g _ := lst_weak (lst_oth hgX (p := S.length) (by omega) (Oth.here (Nat.le_refl _) (.cells [g, z] 43)) (Nat.le_refl _)) (by omega)
   have hzY : Lst S.length 52 2 rImg (X.set S.length (.cells [g, z] 43)) z _ := lst_weak (lst_oth hz (p := S.length) (by omega) (Oth.here (Nat.le_refl _) (.cells [g, z] 43)) (Nat.le_refl _)) (by omega)
   obtain ⟨wg, f1, f2⟩ := hgY.done rDn.flat 4
   obtain ⟨wz, f3, f4⟩ := hzY.done rImg.flat 4
   repeat (first | refine WS.adm rfl ?_ | refine WS.region (by simp only [EV, TY, h4, h7, l1, st, ↓reduceIte, Nat.reduceEqDiff]; with_reducible rfl) ?_)
   refine WS.retC (a := 4) (u := 43) (v := .agg [g, z]) (v' := .agg [wg, wz]) rfl rfl ?_ (hSX.trans (Low.set hSX.1 (Nat.le_refl _))).pre ?_ ⟨wg, wz, rfl, f2, f4⟩
   ·simp only [EV, h4, ↓reduceIte, Nat.reduceEqDiff, AT]
    exact var_ld isAggO_43 tsize_43 (by rw [List.getElem?_set_self hXl]) rfl
   ·rw [frz]
    simp [f1, f3]
  ·rintro j fr X ⟨i, z, rfl, hi, h0, h4, h5, h7, h43, h44, h45, hx, hox, hz⟩ ih last
   by_cases hlt : i < b.length
   ·have hlt' : ((i : Nat) : Int) < ((b.length : Nat) : Int) := by omega
    obtain ⟨qa, u, y, _, i1, i2, _, _, i3, i4⟩ := img_at (PArr.arr hb X) i hlt
    have fx := fb.at_ hlt
    have htk := List.take_succ_eq_append_getElem hlt
    have hfl := congrArg (fun l => l.filter (putB a)) htk
    simp only [filter_snoc] at hfl
    generalize b[i] = x at i3 i4 fx hfl
    have s1 := var_al (E := E0) zeroV_52 X
    have s2 := var_st (E := E0) (e := 52) tsize_52 X (zs := [.slN, .slN]) (xs := [u, y]) rfl rfl
    have l1 : opLoad E0 (X ++ [.cells [u, y] 52]) 52 (.ref X.length 0) = some (.agg [u, y]) := var_ld isAggO_52 tsize_52 (getS0 _) rfl
    have hW0 : (X ++ [Ob.cells [u, y] 52])[p]? = some (.cells [g, z] 43) := get_more hx _
    have hzW := hz.more [Ob.cells [u, y] 52]
    have hoW : Oth p U.length U (X ++ [Ob.cells [u, y] 52]) := hox.trans (Oth.app hox.1 _)
    generalize hW : X ++ [Ob.cells [u, y] 52] = W at s2 l1 hW0 hzW hoW
    have n1W : W[id1]? = some (.mp (mpC M1)) := by rw [hoW.2 id1 (by omega) (by omega), ho.2 id1 (by omega) (by omega)]; exact n1
    have hk := key_ok (S := W) (w := y) i3 fx.1
    obtain ⟨g1, _⟩ := map_get (E := E0) Tryz.underlying80 Tryz.underlying9 zeroV_3 n1W (kofN x.1)
    have hat := fst1.at_ fa fx.1.1
    rw [hat] at g1
    have iinc := wrap_inc i (by have := fb.1; omega)
    have hcnt : ((b.take i).filter (putB a)).length ≤ 1048576 := by have := fb.1; have := List.length_filter_le (putB a) (b.take i); rw [List.length_take] at this; omega
    have l3 : opLoad E0 W 31 (.ref p 1) = some z := var_ld1 isAggO_31 hW0 rfl
    obtain ⟨z', T4, k1, k2, k3, k4⟩ := hzW.put ety_31 hoW.1 (ofC.agg [u, y]) rfl (a := x) (rImg_of i3 i4) (by omega) (by omega)
    have hd4 : T4[p]? = some (.cells [g, z] 43) := by rw [k4.2 p (by omega)]; exact hW0
    obtain ⟨q1, q2⟩ := lst_shape k3
    have st := var_set1 (E := E0) tsize_31 (o := 1) hd4 (by simp) q1 q2
    have st' : opStore E0 T4 31 (.ref p 1) z' = some (T4.set p (.cells [g, z'] 43)) := st
    have hnext := fun (hy : putB a x = true) => (show Lst U.length 52 2 rImg (T4.set p (.cells [g, z'] 43)) z' ((b.take (i + 1)).filter (putB a)) by
     rw [hfl, if_pos hy]
     exact lst_oth k3 (p := p) (by omega) (Oth.here (Nat.le_refl _) _) (Nat.le_refl _))
    have honext : Oth p U.length U (T4.set p (.cells [g, z'] 43)) := (hoW.trans (lowOth k4)).trans (Oth.here k4.1 _)
    have hdnext : (T4.set p (.cells [g, z'] 43))[p]? = some (.cells [g, z'] 43) := by rw [List.getElem?_set_self (lt_of_get hd4)]
    repeat (first | refine WS.adm rfl ?_ | refine WS.region (by simp only [EV, TY, h44, h45, hlt', ↓reduceIte, Nat.reduceEqDiff]; with_reducible rfl) ?_)
    refine WS.ct0 ?_
    cases hq : a.findIdx? (oneN x.1) with
    | none =>
     have hy : putB a x = true := by unfold putB; rw [hq]
     rw [hq] at g1
     have g1' : opLookup E0 W 80 (.mapR id1) (.str (kofN x.1)) true = some (.tup [.int .i64 0, .bool false]) := g1
     repeat (first | refine WS.adm rfl ?_ | refine WS.region (by simp only [EV, TY, lget, EV3, h5, h43, h45, i1, i2, s1, s2, l1, callV_30, hk, g1', ↓reduceIte, Nat.reduceEqDiff]; with_reducible rfl) ?_)
     refine WS.draw (by simp only [DL, evDraw_guard, isEff, isRead, EV, TY, lget, Bool.not_false, ↓reduceIte, Nat.reduceEqDiff]; with_reducible rfl) ?_
     refine WS.ct0 ?_
     repeat (first | refine WS.adm rfl ?_ | refine WS.region (by simp only [EV, TY, lget, h7, fa43_1, l3, l1, k1, k2, st', h45, iinc, ↓reduceIte, Nat.reduceEqDiff]; with_reducible rfl) ?_)
     refine ih (b.length - (i + 1)) _ _ (by omega) ⟨i + 1, z', rfl, by omega, ?_, ?_, ?_, ?_, ?_, ?_, ?_, hdnext, honext, hnext hy⟩
     iterate 7 simp only [EV, h0, h4, h5, h7, h43, h44, ↓reduceIte, Nat.reduceEqDiff, AT]
    | some q =>
     rw [hq] at g1
     have g1' : opLookup E0 W 80 (.mapR id1) (.str (kofN x.1)) true = some (.tup [.int .i64 ((q : Nat) : Int), .bool true]) := g1
     obtain ⟨hqa, _, _⟩ := List.findIdx?_eq_some_iff_getElem.1 hq
     obtain ⟨pa, u1, y1, _, j1, j2, _, _, j3, j4⟩ := img_at (PArr.arr ha W) q hqa
     have hal := alike_ok (S := W) (rImg_of j3 j4) (rImg_of i3 i4) (fa.at_ hqa)
     have hpb : putB a x = !decide (a[q] = x) := by unfold putB; rw [hq]; simp [hqa]
     cases hd : decide (a[q] = x) with
     | true =>
      rw [hd] at hal hpb
      rw [hpb] at hfl
      repeat (first | refine WS.adm rfl ?_ | refine WS.region (by simp only [EV, TY, lget, EV3, h5, h43, h45, i1, i2, s1, s2, l1, callV_30, hk, g1', ↓reduceIte, Nat.reduceEqDiff]; with_reducible rfl) ?_)
      refine WS.draw (by simp only [DL, evDraw_guard, isEff, isRead, EV, TY, lget, h0, Bool.not_true, j1, j2, l1, callV_37, hal, ↓reduceIte, Nat.reduceEqDiff]; with_reducible rfl) ?_
      refine WS.cf0 ?_
      repeat (first | refine WS.adm rfl ?_ | refine WS.region (by simp only [EV, TY, h45, iinc, ↓reduceIte, Nat.reduceEqDiff]; with_reducible rfl) ?_)
      refine ih (b.length - (i + 1)) _ _ (by omega) ⟨i + 1, z, rfl, by omega, ?_, ?_, ?_, ?_, ?_, ?_, ?_, hW0, hoW, by rw [hfl]; exact hzW⟩
      iterate 7 simp only [EV, h0, h4, h5, h7, h43, h44, ↓reduceIte, Nat.reduceEqDiff, AT]
     | false =>
      rw [hd] at hal hpb
      repeat (first | refine WS.adm rfl ?_ | refine WS.region (by simp only [EV, TY, lget, EV3, h5, h43, h45, i1, i2, s1, s2, l1, callV_30, hk, g1', ↓reduceIte, Nat.reduceEqDiff]; with_reducible rfl) ?_)
      refine WS.draw (by simp only [DL, evDraw_guard, isEff, isRead, EV, TY, lget, h0, Bool.not_true, Bool.not_false, j1, j2, l1, callV_37, hal, ↓reduceIte, Nat.reduceEqDiff]; with_reducible rfl) ?_
      refine WS.ct0 ?_
      repeat (first | refine WS.adm rfl ?_ | refine WS.region (by simp only [EV, TY, lget, h7, fa43_1, l3, l1, k1, k2, st', h45, iinc, ↓reduceIte, Nat.reduceEqDiff]; with_reducible rfl) ?_)
      refine ih (b.length - (i + 1)) _ _ (by omega) ⟨i + 1, z', rfl, by omega, ?_, ?_, ?_, ?_, ?_, ?_, ?_, hdnext, honext, hnext hpb⟩
      iterate 7 simp only [EV, h0, h4, h5, h7, h43, h44, ↓reduceIte, Nat.reduceEqDiff, AT]
   ·have hlt' : ¬ ((i : Nat) : Int) < ((b.length : Nat) : Int) := by omega
    repeat (first | refine WS.adm rfl ?_ | refine WS.region (by simp only [EV, TY, h44, h45, hlt', ↓reduceIte, Nat.reduceEqDiff]; with_reducible rfl) ?_)
    refine WS.cf0 ?_
    refine WS.exit rfl ?_
    have : i = b.length := by omega
    subst this
    rw [List.take_length] at hz
    refine last _ _ ⟨z, ?_, ?_, hx, hox, hz⟩
    iterate 2 simp only [EV, h4, h7, ↓reduceIte, Nat.reduceEqDiff, AT]
 ·rintro j fr U ⟨i, g, rfl, hi, h0, h1, h4, h5, h6, h7, h20, h21, h22, hd, ho, hg⟩ ih last
  by_cases hlt : i < a.length
  ·have hlt' : ((i : Nat) : Int) < ((a.length : Nat) : Int) := by omega
   obtain ⟨qa, u, z, _, i1, i2, _, _, i3, i4⟩ := img_at (PArr.arr ha U) i hlt
   have fx := fa.at_ hlt
   have htk := List.take_succ_eq_append_getElem hlt
   have hfl := congrArg (fun l => (l.filter fun x => !inL b x.1).map (·.1)) htk
   simp only [filter_snoc] at hfl
   generalize a[i] = x at i3 i4 fx hfl
   have s1 := var_al (E := E0) zeroV_52 U
   have s2 := var_st (E := E0) (e := 52) tsize_52 U (zs := [.slN, .slN]) (xs := [u, z]) rfl rfl
   have l1 : opLoad E0 (U ++ [.cells [u, z] 52]) 52 (.ref U.length 0) = some (.agg [u, z]) := var_ld isAggO_52 tsize_52 (getS0 _) rfl
   have l2 : opLoad E0 (U ++ [.cells [u, z] 52]) 27 (.ref U.length 0) = some u := var_ld1 isAggO_27 (getS0 _) rfl
   have hW0 : (U ++ [Ob.cells [u, z] 52])[p]? = some (.cells [g, .slN] 43) := get_more hd _
   have hgW := hg.more [Ob.cells [u, z] 52]
   have hoW : Oth p (p + 1) T3 (U ++ [Ob.cells [u, z] 52]) := ho.trans (Oth.app ho.1 _)
   generalize hW : U ++ [Ob.cells [u, z] 52] = W at s2 l1 l2 hW0 hgW hoW
   have n2W : W[id2]? = some (.mp (mpC M2)) := by rw [hoW.2 id2 (by omega) (by omega)]; exact n2
   have hk := key_ok (S := W) (w := z) i3 fx.1
   obtain ⟨g1, _⟩ := map_get (E := E0) Tryz.underlying80 Tryz.underlying9 zeroV_3 n2W (kofN x.1)
   have hat := fst2.at_ fb fx.1.1
   have iinc := wrap_inc i (by have := fa.1; omega)
   repeat (first | refine WS.adm rfl ?_ | refine WS.region (by simp only [EV, TY, h21, h22, hlt', ↓reduceIte, Nat.reduceEqDiff]; with_reducible rfl) ?_)
   refine WS.ct0 ?_
   cases hq : inL b x.1 with
   | true =>
    have hs : (mget M2 (kofN x.1)).isSome = true := by rw [hat, Option.isSome_map]; exact hq
    rw [hs] at g1
    rw [hq] at hfl
    repeat (first | refine WS.adm rfl ?_ | refine WS.region (by simp only [EV, TY, lget, EV3, h6, h20, h22, i1, i2, s1, s2, l1, callV_30, hk, g1, Bool.not_true, ↓reduceIte, Nat.reduceEqDiff]; with_reducible rfl) ?_)
    refine WS.cf0 ?_
    repeat (first | refine WS.adm rfl ?_ | refine WS.region (by simp only [EV, TY, h22, iinc, ↓reduceIte, Nat.reduceEqDiff]; with_reducible rfl) ?_)
    refine ih (a.length - (i + 1)) _ _ (by omega) ⟨i + 1, g, rfl, by omega, ?_, ?_, ?_, ?_, ?_, ?_, ?_, ?_, ?_, hW0, hoW, ?_⟩
    iterate 9 simp only [EV, h0, h1, h4, h5, h6, h7, h20, h21, ↓reduceIte, Nat.reduceEqDiff, AT]
    ·rw [hfl]; exact hgW
   | false =>
    have hs : (mget M2 (kofN x.1)).isSome = false := by rw [hat, Option.isSome_map]; exact hq
    rw [hs] at g1
    rw [hq] at hfl
    have l3 : opLoad E0 W 41 (.ref p 0) = some g := var_ld1 isAggO_41 hW0 rfl
    obtain ⟨g', T4, k1, k2, k3, k4⟩ := hgW.put ety_41 hoW.1 (ofC.flat i3.flat) rfl (a := x.1) ⟨u, rfl, i3⟩ (by have := fa.1; rw [List.length_map]; have := List.length_filter_le (fun x => !inL b x.1) (a.take i); rw [List.length_take] at this; omega) (by have := fa.1; rw [List.length_map]; have := List.length_filter_le (fun x => !inL b x.1) (a.take i); rw [List.length_take] at this; omega)
    have hd4 : T4[p]? = some (.cells [g, .slN] 43) := by rw [k4.2 p (by omega)]; exact hW0
    obtain ⟨q1, q2⟩ := lst_shape k3
    have st := var_set1 (E := E0) tsize_41 (o := 0) hd4 (by simp) q1 q2
    have st' : opStore E0 T4 41 (.ref p 0) g' = some (T4.set p (.cells [g', .slN] 43)) := st
    repeat (first | refine WS.adm rfl ?_ | refine WS.region (by simp only [EV, TY, lget, EV3, h6, h20, h22, i1, i2, s1, s2, l1, callV_30, hk, g1, Bool.not_false, ↓reduceIte, Nat.reduceEqDiff]; with_reducible rfl) ?_)
    refine WS.ct0 ?_
    repeat (first | refine WS.adm rfl ?_ | refine WS.region (by simp only [EV, TY, lget, h7, fa43_0, fa52_0, l3, l2, k1, k2, st', h22, iinc, ↓reduceIte, Nat.reduceEqDiff]; with_reducible rfl) ?_)
    refine ih (a.length - (i + 1)) _ _ (by omega) ⟨i + 1, g', rfl, by omega, ?_, ?_, ?_, ?_, ?_, ?_, ?_, ?_, ?_, by rw [List.getElem?_set_self (lt_of_get hd4)], (hoW.trans (lowOth k4)).trans (Oth.here k4.1 _), ?_⟩
    iterate 9 simp only [EV, h0, h1, h4, h5, h6, h7, h20, h21, ↓reduceIte, Nat.reduceEqDiff, AT]
    ·rw [hfl, if_pos (by rfl), List.map_append]
     exact lst_oth k3 (by omega) (Oth.here (Nat.le_refl _) _) (Nat.le_refl _)
  ·have hlt' : ¬ ((i : Nat) : Int) < ((a.length : Nat) : Int) := by omega
   repeat (first | refine WS.adm rfl ?_ | refine WS.region (by simp only [EV, TY, h21, h22, hlt', ↓reduceIte, Nat.reduceEqDiff]; with_reducible rfl) ?_)
   refine WS.cf0 ?_
   refine WS.exit rfl ?_
   have : i = a.length := by omega
   subst this
   rw [List.take_length] at hg
   refine last _ _ ⟨g, ?_, ?_, ?_, ?_, ?_, hd, ho, hg⟩
   iterate 5 simp only [EV, h0, h1, h4, h5, h7, ↓reduceIte, Nat.reduceEqDiff, AT]
theorem at_pos {l : List Img} {n : List (List Ava)} (h : inL l n = true) : ¬ atI l n < 0 := by
 unfold inL at h
 unfold atI
 cases hq : l.findIdx? (oneN n) with
 | none => rw [hq] at h; cases h
 | some i => simp [idxInt]
theorem at_some {l : List Img} {n : List (List Ava)} {i : Nat} (h : l.findIdx? (oneN n) = some i) : atI l n = ((i : Nat) : Int) := by unfold atI; rw [h]; rfl
end Go.Proofs.YtmmjlgocihhkcaaGreatDoor
