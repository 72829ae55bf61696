import Derived.Test.YtmmjlgocihhkcaaGreatDoorPartM
import Derived.Test.YtmmjlgocihhkcaaGreatDoorPartL
import Derived.Test.YtmmjlgocihhkcaaGreatDoorPartJ
set_option linter.all false
namespace Go.Proofs.YtmmjlgocihhkcaaGreatDoor
open Go Go.Vm
set_option maxRecDepth 100000
set_option maxHeartbeats 8000000
def tagK (x : Img) : IgS.Kd := (keyS x.1, x)
def sortP (l : List Img) : List Img := (IgS.srt (l.map tagK)).map (·.2)
def kd (a : ImS.Im) : IgS.Kd := (a.k, a.d)
theorem ins_kd (a : ImS.Im) : ∀ l : List ImS.Im, (ImS.insA a l).map kd = IgS.insA (kd a) (l.map kd)
 | [] => rfl
 | b :: l => by
  have ih := ins_kd a l
  unfold ImS.insA IgS.insA
  simp only [List.map_cons]
  have : ImS.ltA a b = IgS.ltA (kd a) (kd b) := rfl
  rw [this]
  split
  ·rfl
  ·simp [ih]
theorem srt_kd_aux : ∀ (l acc : List ImS.Im), (l.foldl (fun acc a => ImS.insA a acc) acc).map kd = (l.map kd).foldl (fun acc a => IgS.insA a acc) (acc.map kd)
 | [], acc => rfl
 | a :: l, acc => by
  rw [List.foldl_cons, List.map_cons, List.foldl_cons, srt_kd_aux l, ins_kd]
theorem srt_kd (l : List ImS.Im) : (ImS.srt l).map kd = IgS.srt (l.map kd) := srt_kd_aux l []
theorem kd_tag (l : List ImS.Im) : l.map kd = (l.map (·.d)).map tagK := by
 rw [List.map_map]
 refine List.map_congr_left fun a _ => ?_
 show (a.k, a.d) = (keyS a.d.1, a.d)
 rw [a.hk]
theorem sort_im (L : List ImS.Im) : (ImS.srt L).map (·.d) = sortP (L.map (·.d)) := by
 unfold sortP
 rw [← kd_tag, ← srt_kd, List.map_map]
 rfl
theorem im_of : ∀ {l : List Img} {cs : List V}, Cs 2 rImg cs l → (∀ x ∈ l, fitI x) → ∃ L : List ImS.Im, cs = ImS.fl L ∧ L.map (·.d) = l
 | [], cs, h, _ => ⟨[], h, rfl⟩
 | x :: l, cs, ⟨c, r, e, _, ⟨u, w, ec, hu, hw⟩, hr⟩, hf => by
  obtain ⟨L, e1, e2⟩ := im_of hr fun y hy => hf y (by simp [hy])
  refine ⟨⟨keyS x.1, u, w, x, hu, hw, (hf x (by simp)).1, rfl⟩ :: L, ?_, by simp [e2]⟩
  rw [e, ec, e1]
  rfl
theorem im_cs : ∀ L : List ImS.Im, Cs 2 rImg (ImS.fl L) (L.map (·.d))
 | [] => rfl
 | a :: L => ⟨[a.x, a.y], ImS.fl L, rfl, rfl, ⟨a.x, a.y, rfl, a.hx, a.hy⟩, im_cs L⟩
theorem sorted1_ok (T : Store) (a b : ImS.Im) : vrun E0 (.fn 69) [.agg [a.x, a.y], .agg [b.x, b.y]] T = some (.int .i64 (cmpZ a.k b.k), T) := by
 refine fn_ws Tryz.func69 rfl ?_
 obtain ⟨b1, b2⟩ := two_box T 52 a.x a.y b.x b.y
 obtain ⟨l1, _, l3, _⟩ := two_ld T 52 a.x a.y b.x b.y isAggO_27
 have hpre : T <+: T ++ [Ob.cells [a.x, a.y] 52, Ob.cells [b.x, b.y] 52] := List.prefix_append _ _
 generalize T ++ [Ob.cells [a.x, a.y] 52, Ob.cells [b.x, b.y] 52] = U at *
 have l1c := l1
 have l3c := l3
 rw [ld_ref isAggO_27] at l1c l3c
 have k1 := Key_ok (a.hx.is U) a.fit
 have k2 := Key_ok (b.hx.is U) b.fit
 have hc := Compare_ok (keyS a.d.1) (keyS b.d.1) U
 rw [a.hk, b.hk]
 repeat (first | refine WS.adm rfl ?_ | refine WS.region (by simp only [EV, TY, lget, b1, b2, ↓reduceIte, Nat.reduceEqDiff]; with_reducible rfl) ?_)
 refine WS.draw (by simp only [evDraw_nil, evDraw_plain, isEff, isRead, List.all_nil, List.all_cons, Bool.or_true, Bool.and_self, Bool.and_true, V.beq_refl, EV, TY, lget, fa52_0, l1, l3, l1c, l3c, callV_71, k1, k2, callV_70, hc, ↓reduceIte, Nat.reduceEqDiff]; with_reducible rfl) ?_
 repeat refine WS.adm rfl ?_
 refine WS.ret1s (t := 4) rfl rfl hpre (frz_int _ _ _ _) ?_
 simp only [EV, ↓reduceIte, Nat.reduceEqDiff, AT]
theorem cmp69 : ImS.CmpOk (.fn (.func 69) [] []) := fun T a b => by
 rw [callV_69]
 exact sorted1_ok T a b
theorem sorted_ok {n0 : Nat} {T : Store} {v : V} {l : List Img} (h : Lst n0 52 2 rImg T v l) (hn : n0 ≤ T.length) (fl : fitL l) : ∃ T', vrun E0 (.fn 33) [v] T = some (v, T') ∧ Lst n0 52 2 rImg T' v (sortP l) ∧ Low n0 T T' := by
 rcases h with ⟨rfl, rfl⟩ | ⟨p, cs, p1, rfl, p2, p3⟩
 ·refine ⟨T, ?_, .inl ⟨rfl, rfl⟩, Low.refl hn⟩
  refine fn_ws Tryz.func33 rfl ?_
  have hs := ImS.sortN_ok T (.fn (.func 69) [] [])
  repeat (first | refine WS.adm rfl ?_ | refine WS.region (by simp only [EV, TY, lget, callV_68, hs, ↓reduceIte, Nat.reduceEqDiff]; with_reducible rfl) ?_)
  refine ret1k (t := 2) rfl rfl ?_
  simp only [EV, ↓reduceIte, Nat.reduceEqDiff, AT]
 ·obtain ⟨L, rfl, e2⟩ := im_of p3 fl.2
  have hL : L.length = l.length := by rw [← e2, List.length_map]
  have hs := ImS.sortOk_all L.length (by have := fl.1; omega) T p L p2 rfl _ cmp69
  rw [hL] at hs
  have hlen : (sortP l).length = l.length := by rw [← e2, ← sort_im, List.length_map, List.length_map, ImS.srt_len]
  refine ⟨T.set p (.cells (ImS.fl (ImS.srt L)) 52), ?_, .inr ⟨p, ImS.fl (ImS.srt L), p1, by rw [hlen], by simp [lt_of_get p2], by rw [← e2, ← sort_im]; exact im_cs _⟩, Low.set hn p1⟩
  refine fn_ws Tryz.func33 rfl ?_
  repeat (first | refine WS.adm rfl ?_ | refine WS.region (by simp only [EV, TY, lget, callV_68, hs, ↓reduceIte, Nat.reduceEqDiff]; with_reducible rfl) ?_)
  refine ret1k (t := 2) rfl rfl ?_
  simp only [EV, ↓reduceIte, Nat.reduceEqDiff, AT]
end Go.Proofs.YtmmjlgocihhkcaaGreatDoor
namespace Go.Proofs.YtmmjlgocihhkcaaGreatDoor
open Go Go.Vm
set_option maxRecDepth 100000
set_option maxHeartbeats 8000000
theorem tag_mem {l : List Img} {y : IgS.Kd} (h : y ∈ IgS.srt (l.map tagK)) : y.2 ∈ l ∧ y.1 = keyS y.2.1 := by
 obtain ⟨x, hx, rfl⟩ := List.mem_map.1 (IgS.srt_mem.1 h)
 exact ⟨hx, rfl⟩
theorem sortP_snoc (l : List Img) (x : Img) : sortP (l ++ [x]) = (IgS.insA (tagK x) (IgS.srt (l.map tagK))).map (·.2) := by
 unfold sortP
 rw [List.map_append, List.map_cons, List.map_nil, IgS.srt_snoc]
theorem refSorted_ok {S : Store} {v : V} {l : List Img} (h : Arr 2 rImg S v l) (fl : fitL l) : ∃ w, vrun E0 (.fn 36) [v] S = some (w, S) ∧ pImgs w (sortP l) := by
 suffices g : ∃ r, (∃ w, r = (w, S) ∧ pImgs w (sortP l)) ∧ vrun E0 (.fn 36) [v] S = some r by
  obtain ⟨r, ⟨w, rfl, h2⟩, h3⟩ := g
  exact ⟨w, h3, h2⟩
 refine fn_wsP Tryz.func36 rfl ?_
 have hbl := fl.1
 repeat (first | refine WS.adm rfl ?_ | refine WS.rl ?_)
 refine WS.loopB (fun j fr T => ∃ i vo, j = l.length - i ∧ i ≤ l.length ∧ lget fr 0 = v ∧ lget fr 3 = vo ∧ lget fr 4 = .int .i64 (i : Nat) ∧ Low S.length S T ∧ Lst S.length 52 2 rImg T vo (sortP (l.take i)))
  (fun fr T => ∃ vo, lget fr 3 = vo ∧ Low S.length S T ∧ Lst S.length 52 2 rImg T vo (sortP l)) (j := l.length) ?_ ?_ ?_
 ·refine ⟨0, .slN, by omega, by omega, ?_, ?_, ?_, Low.refl (Nat.le_refl _), Lst.nil _ _ _ _ _⟩
  all_goals
   simp only [EV, lget, ↓reduceIte, Nat.reduceEqDiff, AT]
   try rfl
 ·rintro fr T ⟨vo, h3, hlow, hout⟩
  obtain ⟨w, f1, f2⟩ := hout.done rImg.flat 5
  repeat (first | refine WS.adm rfl ?_ | refine WS.region (by simp only [EV, TY, h3, ↓reduceIte, Nat.reduceEqDiff]; with_reducible rfl) ?_)
  refine WS.ret1P (t := 2) rfl rfl ?_ hlow.pre f1 ⟨w, rfl, f2⟩
  simp only [EV, ↓reduceIte, Nat.reduceEqDiff, AT]
 ·rintro j fr T ⟨i, vo, rfl, hi, h0, h3, h4, hlow, hout⟩ ih last
  have lnT := (h.pre hlow.pre).len (E := E0) Tryz.underlying31
  by_cases hlt : i < l.length
  ·have hlt' : ((i : Nat) : Int) < ((l.length : Nat) : Int) := by omega
   obtain ⟨qa, u, z, f, i1, i2, f1, f2, i3, i4⟩ := img_at (h.pre hlow.pre) i hlt
   have fx := fl.at_ hlt
   have htk := List.take_succ_eq_append_getElem hlt
   have hsn := sortP_snoc (l.take i) l[i]
   rw [← htk] at hsn
   have hxi : l[i] = l[i] := rfl
   generalize l[i] = x at i3 i4 fx hsn
   have hk := refKey_ok (i3.is T) fx.1
   have iinc := wrap_inc i (by omega)
   have hso := IgS.srt_sorted ((l.take i).map tagK)
   have hKl : (IgS.srt ((l.take i).map tagK)).length = i := by rw [IgS.srt_len, List.length_map, List.length_take]; omega
   have hKm : ∀ y ∈ IgS.srt ((l.take i).map tagK), fitI y.2 ∧ y.1 = keyS y.2.1 := fun y hy => ⟨fl.2 _ (List.mem_of_mem_take (tag_mem hy).1), (tag_mem hy).2⟩
   have hout' : Lst S.length 52 2 rImg T vo ((IgS.srt ((l.take i).map tagK)).map (·.2)) := hout
   generalize IgS.srt ((l.take i).map tagK) = K at hso hKl hKm hout' hsn
   clear hout
   have arT := hout'.arr
   have lO := arT.len (E := E0) Tryz.underlying31
   rw [List.length_map, hKl] at lO
   repeat (first | refine WS.adm rfl ?_ | refine WS.region (by simp only [EV, TY, h0, h4, lnT, hlt', ↓reduceIte, Nat.reduceEqDiff]; with_reducible rfl) ?_)
   refine WS.ct0 ?_
   repeat (first | refine WS.adm rfl ?_ | refine WS.region (by simp only [EV, TY, lget, h0, h3, h4, i1, f1, f2, callV_74, hk, lO, ↓reduceIte, Nat.reduceEqDiff]; with_reducible rfl) ?_)
   refine WS.loopB (fun j fr T' => ∃ p, j = p ∧ p ≤ i ∧ lget fr 0 = v ∧ lget fr 3 = vo ∧ lget fr 4 = .int .i64 (i : Nat) ∧ lget fr 5 = .str (keyS x.1) ∧ lget fr 6 = .int .i64 (p : Nat) ∧ T' = T ∧ ∀ y ∈ K.drop p, IgS.ltA (tagK x) y = true)
    (fun fr T' => ∃ p, p ≤ i ∧ lget fr 0 = v ∧ lget fr 3 = vo ∧ lget fr 4 = .int .i64 (i : Nat) ∧ lget fr 6 = .int .i64 (p : Nat) ∧ T' = T ∧ K.take p ++ tagK x :: K.drop p = IgS.insA (tagK x) K) (j := i) ?_ ?_ ?_
   ·refine ⟨i, rfl, Nat.le_refl _, ?_, ?_, ?_, ?_, ?_, rfl, by rw [List.drop_of_length_le (by omega)]; simp⟩
    all_goals
     simp only [EV, lget, h0, h3, h4, ↓reduceIte, Nat.reduceEqDiff, AT]
   ·rintro fr T' ⟨p, hp, h0, h3, h4, h6, rfl, hins⟩
    obtain ⟨k1, k2, k3⟩ := Lst.mk0 (n0 := T'.length) (T := T') ety_31 rImg (Nat.le_refl _)
    obtain ⟨v1, k4, k5⟩ := (arT.low k3).take (E := E0) Tryz.underlying31 tsize_52 p (by rw [List.length_map]; omega)
    obtain ⟨v2, T2, k6, k7, k8⟩ := k2.app ety_31 k3.1 k5 (by simp; omega) (by simp; omega)
    have low2 := k3.trans k8
    have hx2 : opLoad E0 T2 52 qa = some (.agg [u, z]) := by
     obtain ⟨qa', u', z', f', i1', i2', _, _, _, _⟩ := img_at ((h.pre hlow.pre).low low2) i hlt
     rw [i1] at i1'
     cases i1'
     obtain ⟨a0, c0, r0, e1, e2, e3, _⟩ := (h.pre hlow.pre).at_ (E := E0) Tryz.underlying31 tsize_52 i hlt
     rw [i1] at e1
     cases e1
     have hA2 : At T2 qa (c0 ++ r0) := by
      rcases e2 with rfl | ⟨id, off, cs, e, rfl, hS, hd⟩
      ·exact .inl rfl
      ·exact .inr ⟨id, off, cs, e, rfl, by rw [low2.2 id (lt_of_get hS)]; exact hS, hd⟩
     have q1 := hA2.loadA (E := E0) isAggO_52 tsize_52 (by simp; omega)
     have q2 := e2.loadA (E := E0) isAggO_52 tsize_52 (by simp; omega)
     rw [q1, ← q2]; exact i2
    obtain ⟨v3, T3, k9, k10, k11, k12⟩ := k7.put ety_31 low2.1 (ofC.agg [u, z]) rfl (a := x) (rImg_of i3 i4) (by simp; omega) (by simp; omega)
    have low3 := low2.trans k12
    obtain ⟨v4, k13, k14⟩ := (arT.low low3).drop (E := E0) Tryz.underlying31 tsize_52 p (by rw [List.length_map]; omega)
    obtain ⟨v5, T5, k15, k16, k17⟩ := k11.app ety_31 low3.1 k14 (by simp; omega) (by simp; omega)
    have low5 := low3.trans k17
    rw [List.nil_append, List.append_assoc] at k16
    have hres : (K.map (·.2)).take p ++ ([x] ++ (K.map (·.2)).drop p) = sortP (l.take (i + 1)) := by
     rw [hsn, ← hins, List.map_append, List.map_cons, List.map_take, List.map_drop]
     rfl
    rw [hres] at k16
    repeat (first | refine WS.adm rfl ?_ | refine WS.region (by simp only [EV, TY, lget, h0, h3, h4, h6, k1, k4, k6, i1, hx2, k9, k10, k13, k15, iinc, ↓reduceIte, Nat.reduceEqDiff]; with_reducible rfl) ?_)
    refine ih (l.length - (i + 1)) _ _ (by omega) ⟨i + 1, v5, rfl, by omega, ?_, ?_, ?_, hlow.trans ⟨Nat.le_trans hlow.1 low5.1, fun q hq => low5.2 q (Nat.lt_of_lt_of_le hq hlow.1)⟩, lst_weak k16 hlow.1⟩
    iterate 3 simp only [EV, h0, ↓reduceIte, Nat.reduceEqDiff, AT]
   ·rintro j fr T' ⟨p, rfl, hp, h0, h3, h4, h5, h6, rfl, hall⟩ again leave
    by_cases hp0 : 0 < j
    ·have hp0' : (0 : Int) < ((j : Nat) : Int) := by omega
     have m1 := wm1 j hp0 (by omega)
     have hj1 : j - 1 < K.length := by omega
     obtain ⟨qx, cx, rx, g, x1, x2, g1, g2, x3, x4⟩ := img_at arT (j - 1) (by rw [List.length_map]; omega)
     rw [List.getElem_map] at x3 x4
     obtain ⟨fy, ky⟩ := hKm _ (List.getElem_mem hj1)
     have hky := refKey_ok (x3.is T') fy.1
     rw [← ky] at hky
     have hsg := sgtr_lt K[j - 1].1 (keyS x.1)
     have htkl : (K.take j).getLast? = some K[j - 1] := by
      have e : K.take j = K.take (j - 1) ++ [K[j - 1]] := by
       have := List.take_succ_eq_append_getElem hj1
       rwa [show j - 1 + 1 = j by omega] at this
      rw [e]; exact List.getLast?_concat
     have hdrop : K.drop (j - 1) = K[j - 1] :: K.drop j := by
      have := List.drop_eq_getElem_cons hj1
      rwa [show j - 1 + 1 = j by omega] at this
     generalize hy : K[j - 1] = y at x3 x4 fy ky hky hsg htkl hdrop
     cases hless : lessB (keyS x.1) y.1 with
     | true =>
      rw [hless] at hsg
      repeat (first | refine WS.adm rfl ?_ | refine WS.region (by simp only [EV, TY, lget, h3, h5, h6, hp0', m1, x1, g1, g2, callV_74, hky, hsg, ↓reduceIte, Nat.reduceEqDiff]; with_reducible rfl) ?_)
      refine WS.cond_true (by simp only [EV, hsg, ↓reduceIte, Nat.reduceEqDiff]) ?_
      repeat (first | refine WS.adm rfl ?_ | refine WS.region (by simp only [EV, TY, h6, m1, ↓reduceIte, Nat.reduceEqDiff]; with_reducible rfl) ?_)
      refine again (j - 1) _ _ (by omega) ⟨j - 1, rfl, by omega, ?_, ?_, ?_, ?_, ?_, rfl, ?_⟩
      iterate 5 simp only [EV, h0, h3, h4, h5, ↓reduceIte, Nat.reduceEqDiff, AT]
      ·rw [hdrop]
       intro z hz
       rcases List.mem_cons.1 hz with rfl | hz
       ·exact hless
       ·exact hall z hz
     | false =>
      rw [hless] at hsg
      repeat (first | refine WS.adm rfl ?_ | refine WS.region (by simp only [EV, TY, lget, h3, h5, h6, hp0', m1, x1, g1, g2, callV_74, hky, hsg, ↓reduceIte, Nat.reduceEqDiff]; with_reducible rfl) ?_)
      refine WS.cond_false (by simp only [EV, hsg, ↓reduceIte, Nat.reduceEqDiff]) ?_
      refine WS.exit rfl ?_
      refine leave _ _ ⟨j, hp, ?_, ?_, ?_, ?_, rfl, ?_⟩
      iterate 4 simp only [EV, h0, h3, h4, h6, ↓reduceIte, Nat.reduceEqDiff, AT]
      ·have := IgS.ins_split (tagK x) (K.take j) (K.drop j) (by rw [List.take_append_drop]; exact hso) hall (fun z hz => by rw [htkl] at hz; cases hz; exact hless)
       rw [List.take_append_drop] at this
       exact this.symm
    ·have hp0' : ¬ (0 : Int) < ((j : Nat) : Int) := by omega
     repeat (first | refine WS.adm rfl ?_ | refine WS.region (by simp only [EV, TY, lget, h3, h5, h6, hp0', ↓reduceIte, Nat.reduceEqDiff]; with_reducible rfl) ?_)
     refine WS.cond_false (by simp only [EV, hp0', ↓reduceIte, Nat.reduceEqDiff]) ?_
     refine WS.exit rfl ?_
     have hj : j = 0 := by omega
     subst hj
     refine leave _ _ ⟨0, hp, ?_, ?_, ?_, ?_, rfl, ?_⟩
     iterate 4 simp only [EV, h0, h3, h4, h6, ↓reduceIte, Nat.reduceEqDiff, AT]
     ·have := IgS.ins_split (tagK x) [] K hso (by simpa using hall) (fun z hz => by simp at hz)
      simpa using this.symm
  ·have hlt' : ¬ ((i : Nat) : Int) < ((l.length : Nat) : Int) := by omega
   repeat (first | refine WS.adm rfl ?_ | refine WS.region (by simp only [EV, TY, h0, h4, lnT, hlt', ↓reduceIte, Nat.reduceEqDiff]; with_reducible rfl) ?_)
   refine WS.cf0 ?_
   refine WS.exit rfl ?_
   have : i = l.length := by omega
   subst this
   rw [List.take_length] at hout
   refine last _ _ ⟨vo, ?_, hlow, hout⟩
   simp only [EV, h3, ↓reduceIte, Nat.reduceEqDiff, AT]
end Go.Proofs.YtmmjlgocihhkcaaGreatDoor
namespace Go.Proofs.YtmmjlgocihhkcaaGreatDoor
open Go Go.Vm
set_option maxRecDepth 100000
set_option maxHeartbeats 8000000
def goneB (gl : List (List (List Ava))) (x : Img) : Bool := gl.any fun n => decide (normN x.1 = normN n)
def isGone (G : List (List UInt8 × Int)) (gl : List (List (List Ava))) : Prop := ∀ k, (mget G k).isSome = gl.any fun n => decide (kofN n = k)
theorem isGone.put {G : List (List UInt8 × Int)} {gl : List (List (List Ava))} (h : isGone G gl) (n : List (List Ava)) (v : Int) : isGone (mput G (kofN n) v) (gl ++ [n]) := by
 intro k
 rw [mget_put, List.any_append]
 by_cases hk : k = kofN n
 ·subst hk; simp
 ·rw [if_neg hk, h k]
  simp [show ¬ kofN n = k from fun e => hk e.symm]
theorem isGone.at_ {G : List (List UInt8 × Int)} {gl : List (List (List Ava))} (h : isGone G gl) {x : Img} (fg : fitG gl) (on : okN x.1) : (mget G (kofN x.1)).isSome = goneB gl x := by
 rw [h]
 unfold goneB
 have hf := fg.2
 clear fg h
 induction gl with
 | nil => rfl
 | cons n gl ih =>
  rw [List.any_cons, List.any_cons, ih fun m hm => hf m (by simp [hm])]
  have : decide (kofN n = kofN x.1) = decide (normN x.1 = normN n) := by
   rw [decide_eq_decide, kof_iff (hf n (by simp)).1 on]
   exact eq_comm
  rw [this]
theorem isFirst.set {M : List (List UInt8 × Int)} {l : List Img} (h : isFirst M l) {i : Nat} {x : Img} (hi : i < l.length) (hk : kofN l[i].1 = kofN x.1) : isFirst M (l.set i x) := by
 intro k
 rw [h k]
 have e1 : ∀ m : List Img, (m.findIdx? fun y => decide (kofN y.1 = k)) = (m.map fun y => kofN y.1).findIdx? fun s => decide (s = k) := fun m => by
  rw [List.findIdx?_map]; rfl
 have e2 : (l.set i x).map (fun y => kofN y.1) = l.map fun y => kofN y.1 := by
  rw [List.map_set]
  have : (l.map fun y => kofN y.1)[i]? = some (kofN x.1) := by simp [hi, hk]
  apply List.ext_getElem?
  intro j
  by_cases hj : i = j
  ·subst hj
   rw [List.getElem?_set_self (by simpa using hi), this]
  ·rw [List.getElem?_set_ne hj]
 rw [e1, e1, e2]
end Go.Proofs.YtmmjlgocihhkcaaGreatDoor
