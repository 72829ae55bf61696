import Derived.Test.YtmmjlgocihhkcaaGreatDoorPartT
set_option linter.all false
namespace Go.Proofs.YtmmjlgocihhkcaaGreatDoor
open Go Go.Vm
set_option maxRecDepth 100000
set_option maxHeartbeats 8000000
theorem mput_len2 (k : List UInt8) (v : Int) : ∀ m : Tab, (mput m k v).length = if (mget m k).isSome then m.length else m.length + 1
 | [] => by simp [mput, mget]
 | p :: m => by
  have ih := mput_len2 k v m
  cases h : k == p.1 with
  | true => simp [mput, mget, h]
  | false =>
   have e : mget (p :: m) k = mget m k := by unfold mget; rw [List.find?_cons]; simp [h]
   rw [e]
   simp only [mput, h, Bool.false_eq_true, if_false, List.length_cons, ih]
   split <;> rfl
theorem idxU_len (l : List (List UInt8)) : ∀ i, (idxU l i).length ≤ i
 | 0 => by simp [idxU]
 | i + 1 => by
  have := idxU_len l i
  rw [idxU_succ, mput_len2]
  split <;> omega
theorem idxU_len2 (l : List (List UInt8)) (i : Nat) : ∀ d, (idxU l (i + d)).length ≤ (idxU l i).length + d
 | 0 => by simp
 | d + 1 => by
  have := idxU_len2 l i d
  rw [← Nat.add_assoc, idxU_succ, mput_len2]
  split <;> omega
theorem unlike {l : List (List UInt8)} (h : (idxL l).length = l.length) {i j : Nat} (hi : i < l.length) (hj : j < i) : smallS (l.getD j []) ≠ smallS (l.getD i []) := by
 have h1 := idxU_len2 l (i + 1) (l.length - (i + 1))
 rw [show i + 1 + (l.length - (i + 1)) = l.length by omega] at h1
 have h2 : (idxU l l.length).length = l.length := h
 have h3 := idxU_len l i
 have h4 : (idxU l (i + 1)).length = if (mget (idxU l i) (smallS (l.getD i []))).isSome then (idxU l i).length else (idxU l i).length + 1 := by rw [idxU_succ, mput_len2]
 rcases idxU_get l (smallS (l.getD i [])) i with ⟨m, _, h5, _⟩ | ⟨_, h5⟩
 ·rw [h5] at h4
  simp at h4
  omega
 ·exact h5 j hj
def fiO (s : SchD) (n : List UInt8) : Option Nat := s.1.findIdx? fun t => smallS t.1 == smallS n
theorem typ_first {s : SchD} (h : (idxL (tNames s)).length = s.1.length) (n : List UInt8) : typ s n = (fiO s n).bind fun i => s.1[i]? := by
 have hl : (tNames s).length = s.1.length := by simp [tNames]
 have hg : ∀ i (hi : i < s.1.length), (tNames s).getD i [] = s.1[i].1 := fun i hi => getD_map _ _ i hi
 rcases idxU_get (tNames s) (smallS n) (tNames s).length with ⟨j, h1, h2, h3, h4⟩ | ⟨h1, h2⟩
 ·have hj : j < s.1.length := by omega
  have hf : fiO s n = some j := by
   unfold fiO
   rw [List.findIdx?_eq_some_iff_getElem]
   refine ⟨hj, by rw [← hg j hj, h3]; simp, fun m hm => ?_⟩
   have := unlike (by rw [hl]; exact h) h1 hm
   rw [h3, hg m (by omega)] at this
   simpa using this
  unfold typ
  rw [show mget (idxL (tNames s)) (smallS n) = some ((j : Nat) : Int) from h2, hf]
  simp
 ·have hf : fiO s n = none := by
   unfold fiO
   rw [List.findIdx?_eq_none_iff]
   intro t ht
   obtain ⟨i, hi, rfl⟩ := List.getElem_of_mem ht
   have := h2 i (by omega)
   rw [hg i hi] at this
   simpa using this
  rw [typ_none (show mget (idxL (tNames s)) (smallS n) = none from h1), hf]
  rfl
theorem refFind_ok {S : Store} {tv kv : V} {s : SchD} (ht : PArr 6 rTy tv s.1) (fs : fitS s) (n : List UInt8) (hn : n.length ≤ 1048576) : vrun E0 (.fn 73) [.agg [tv, kv], .str n] S = some (.int .i64 (ixF (fiO s n)), S) := by
 refine fn_ws Tryz.func73 rfl ?_
 have hbx : opBox S 25 (.agg [tv, kv]) = some (.ref S.length 0, S ++ [.cells [tv, kv] 25]) := rfl
 have hv : (S ++ [Ob.cells [tv, kv] 25])[S.length]? = some (.cells [tv, kv] 25) := getS0 _
 have hpre : S <+: S ++ [.cells [tv, kv] 25] := List.prefix_append _ _
 generalize S ++ [Ob.cells [tv, kv] 25] = U at hbx hv hpre
 have l1 : opLoad E0 U 22 (.ref S.length 0) = some tv := var_ld1 isAggO_22 hv rfl
 have n1 := (ht.arr U).len (E := E0) Tryz.underlying22
 have sm := Small_ok n U hn
 repeat (first | refine WS.adm rfl ?_ | refine WS.region (by simp only [EV, TY, lget, hbx, callV_42, sm, ↓reduceIte, Nat.reduceEqDiff]; with_reducible rfl) ?_)
 refine WS.loopB (fun j fr X => ∃ i, j = s.1.length - i ∧ i ≤ s.1.length ∧ lget fr 2 = .ref S.length 0 ∧ lget fr 5 = .str (smallS n) ∧ lget fr 6 = .int .i64 (i : Nat) ∧ X = U ∧ ∀ t ∈ s.1.take i, (smallS t.1 == smallS n) = false)
  (fun fr X => X = U ∧ ∀ t ∈ s.1, (smallS t.1 == smallS n) = false) (j := s.1.length) ?_ ?_ ?_
 ·refine ⟨0, by omega, by omega, ?_, ?_, ?_, rfl, fun t ht => by simp at ht⟩
  all_goals
   simp only [EV, lget, ↓reduceIte, Nat.reduceEqDiff, AT]
   try rfl
 ·rintro fr X ⟨rfl, hall⟩
  have hf : fiO s n = none := by
   unfold fiO
   rw [List.findIdx?_eq_none_iff]
   exact fun t ht => by simp [hall t ht]
  rw [hf]
  repeat (first | refine WS.adm rfl ?_ | refine WS.rl ?_)
  refine WS.ret1s (t := 4) rfl rfl hpre rfl ?_
  simp only [EV, ↓reduceIte, Nat.reduceEqDiff, AT]
  rfl
 ·rintro j fr X ⟨i, rfl, hi, h2, h5, h6, rfl, hall⟩ ih last
  by_cases hlt : i < s.1.length
  ·have hlt' : ((i : Nat) : Int) < ((s.1.length : Nat) : Int) := by omega
   obtain ⟨a, i1, i2, fa, i3, i4⟩ := ty_at (ht.arr X) i hlt
   have sm2 := Small_ok s.1[i].1 X (fs.2.2.1 _ (List.getElem_mem hlt))
   have iinc := wrap_inc i (by have := fs.1; omega)
   repeat (first | refine WS.adm rfl ?_ | refine WS.region (by simp only [EV, TY, h2, h6, fa25_0, l1, n1, hlt', ↓reduceIte, Nat.reduceEqDiff]; with_reducible rfl) ?_)
   refine WS.ct0 ?_
   cases hq : smallS s.1[i].1 == smallS n with
   | true =>
    have hf : fiO s n = some i := by
     unfold fiO
     rw [List.findIdx?_eq_some_iff_getElem]
     refine ⟨hlt, hq, fun m hm => ?_⟩
     have := hall s.1[m] (List.mem_take_iff_getElem.2 ⟨m, by omega, rfl⟩)
     simpa using this
    rw [hf]
    repeat (first | refine WS.adm rfl ?_ | refine WS.region (by simp only [EV, TY, lget, h2, h5, h6, fa25_0, l1, i1, i3, i4, callV_42, sm2, hq, ↓reduceIte, Nat.reduceEqDiff]; with_reducible rfl) ?_)
    refine WS.cond_true (by simp only [EV, hq, ↓reduceIte, Nat.reduceEqDiff]) ?_
    repeat (first | refine WS.adm rfl ?_ | refine WS.region (by simp only [EV, TY, lget, h6, ↓reduceIte, Nat.reduceEqDiff]; with_reducible rfl) ?_)
    refine WS.ret1s (t := 4) rfl rfl hpre rfl ?_
    simp only [EV, ↓reduceIte, Nat.reduceEqDiff, AT]
    rfl
   | false =>
    repeat (first | refine WS.adm rfl ?_ | refine WS.region (by simp only [EV, TY, lget, h2, h5, h6, fa25_0, l1, i1, i3, i4, callV_42, sm2, hq, ↓reduceIte, Nat.reduceEqDiff]; with_reducible rfl) ?_)
    refine WS.cond_false (by simp only [EV, hq, ↓reduceIte, Nat.reduceEqDiff]) ?_
    repeat (first | refine WS.adm rfl ?_ | refine WS.region (by simp only [EV, TY, h6, iinc, ↓reduceIte, Nat.reduceEqDiff]; with_reducible rfl) ?_)
    refine ih (s.1.length - (i + 1)) _ _ (by omega) ⟨i + 1, rfl, by omega, ?_, ?_, ?_, rfl, fun t ht => ?_⟩
    iterate 3 simp only [EV, h2, h5, ↓reduceIte, Nat.reduceEqDiff, AT]
    ·rw [List.take_succ_eq_append_getElem hlt, List.mem_append, List.mem_singleton] at ht
     rcases ht with ht | rfl
     ·exact hall t ht
     ·exact hq
  ·have hlt' : ¬ ((i : Nat) : Int) < ((s.1.length : Nat) : Int) := by omega
   repeat (first | refine WS.adm rfl ?_ | refine WS.region (by simp only [EV, TY, h2, h6, fa25_0, l1, n1, hlt', ↓reduceIte, Nat.reduceEqDiff]; with_reducible rfl) ?_)
   refine WS.cf0 ?_
   refine WS.exit rfl ?_
   have : i = s.1.length := by omega
   subst this
   rw [List.take_length] at hall
   exact last _ _ ⟨rfl, hall⟩
end Go.Proofs.YtmmjlgocihhkcaaGreatDoor
namespace Go.Proofs.YtmmjlgocihhkcaaGreatDoor
open Go Go.Vm
set_option maxRecDepth 100000
set_option maxHeartbeats 8000000
theorem inT_snoc (g : List (List UInt8)) (k : Nat) (hk : k < g.length) (n : List UInt8) : inT (g.take (k + 1)) n = (inT (g.take k) n || (smallS g[k] == smallS n)) := by
 unfold inT
 rw [List.take_succ_eq_append_getElem hk, List.any_append]
 simp
theorem ixF_neg : ixF none < 0 := by decide
theorem refPerm_ok {S : Store} {tv kv bv gv v : V} {s : SchD} {g : List (List UInt8)} {l : List Attr} (ht : PArr 6 rTy tv s.1) (fs : fitS s) (hu : (idxL (tNames s)).length = s.1.length) (hg : PArr 1 rS gv g) (hl : PArr 2 rAttr v l) (og : g.length ≤ 1048576 ∧ ∀ n ∈ g, n.length ≤ 1048576) (ol : okTs l) (on : NmA l) :
  ∃ w, vrun E0 (.fn 35) [.agg [tv, kv], .agg [bv, gv], v] S = some (w, S) ∧ PArr 2 rAttr w (permP s g l) := by
 suffices hh : ∃ rr, (∃ w, rr = (w, S) ∧ PArr 2 rAttr w (permP s g l)) ∧ vrun E0 (.fn 35) [.agg [tv, kv], .agg [bv, gv], v] S = some rr by
  obtain ⟨rr, ⟨w, rfl, h2⟩, h3⟩ := hh
  exact ⟨w, h3, h2⟩
 refine fn_wsP Tryz.func35 rfl ?_
 have hbx : opBox S 25 (.agg [tv, kv]) = some (.ref S.length 0, S ++ [.cells [tv, kv] 25]) := rfl
 have hl1 : (S ++ [Ob.cells [tv, kv] 25]).length = S.length + 1 := by simp
 have hbx2 : opBox (S ++ [.cells [tv, kv] 25]) 30 (.agg [bv, gv]) = some (.ref (S.length + 1) 0, (S ++ [.cells [tv, kv] 25]) ++ [.cells [bv, gv] 30]) := by rw [← hl1]; rfl
 have hv1 : ((S ++ [Ob.cells [tv, kv] 25]) ++ [Ob.cells [bv, gv] 30])[S.length]? = some (.cells [tv, kv] 25) := get_more (getS0 _) _
 have hv2 : ((S ++ [Ob.cells [tv, kv] 25]) ++ [Ob.cells [bv, gv] 30])[S.length + 1]? = some (.cells [bv, gv] 30) := by rw [← hl1]; exact getS0 _
 have low0 : Low S.length S ((S ++ [Ob.cells [tv, kv] 25]) ++ [Ob.cells [bv, gv] 30]) := (Low.app (Nat.le_refl _) _).trans (Low.app (by simp) _)
 have hl2 : ((S ++ [Ob.cells [tv, kv] 25]) ++ [Ob.cells [bv, gv] 30]).length = S.length + 2 := by simp
 generalize (S ++ [Ob.cells [tv, kv] 25]) ++ [Ob.cells [bv, gv] 30] = U0 at hbx2 hv1 hv2 low0 hl2
 repeat (first | refine WS.adm rfl ?_ | refine WS.region (by simp only [EV, TY, lget, hbx, hbx2, ↓reduceIte, Nat.reduceEqDiff]; with_reducible rfl) ?_)
 refine WS.loopB (fun j fr U => ∃ i w, j = l.length - i ∧ i ≤ l.length ∧ lget fr 2 = v ∧ lget fr 3 = .ref S.length 0 ∧ lget fr 4 = .ref (S.length + 1) 0 ∧ lget fr 7 = w ∧ lget fr 8 = .int .i64 (i : Nat) ∧ Low U0.length U0 U ∧ Lst U0.length 55 2 rAttr U w (permP s g (l.take i)))
  (fun fr U => ∃ w, lget fr 7 = w ∧ Low U0.length U0 U ∧ Lst U0.length 55 2 rAttr U w (permP s g l)) (j := l.length) ?_ ?_ ?_
 ·refine ⟨0, .slN, by omega, by omega, ?_, ?_, ?_, ?_, ?_, Low.refl (Nat.le_refl _), Lst.nil _ _ _ _ _⟩
  all_goals
   simp only [EV, lget, ↓reduceIte, Nat.reduceEqDiff, AT]
   try rfl
 ·rintro fr U ⟨w, h7, hlow, hw⟩
  have lowF : Low S.length S U := low0.trans ⟨by have := hlow.1; omega, fun i hi => hlow.2 i (by omega)⟩
  have hw' : Lst S.length 55 2 rAttr U w (permP s g l) := by
   rcases hw with h | ⟨p, cs, p1, p2⟩
   ·exact .inl h
   ·exact .inr ⟨p, cs, by omega, p2⟩
  obtain ⟨w', d1, d2⟩ := hw'.done rAttr.flat 5
  repeat (first | refine WS.adm rfl ?_ | refine WS.region (by simp only [EV, TY, h7, ↓reduceIte, Nat.reduceEqDiff]; with_reducible rfl) ?_)
  refine WS.ret1P (t := 6) rfl rfl ?_ lowF.pre d1 ⟨w', rfl, d2⟩
  simp only [EV, ↓reduceIte, Nat.reduceEqDiff, AT]
 ·rintro j fr U ⟨i, w, rfl, hi, h2, h3, h4, h7, h8, hlow, hw⟩ ih last
  have n1 := (hl.arr U).len (E := E0) Tryz.underlying50
  by_cases hlt : i < l.length
  ·have hlt' : ((i : Nat) : Int) < ((l.length : Nat) : Int) := by omega
   obtain ⟨a, y, fa, i1, i2, i3, i4, hy⟩ := attr_at (hl.arr U) i hlt
   have hx1 := on _ (List.getElem_mem hlt)
   have htk := List.take_succ_eq_append_getElem hlt
   have hU1 : U[S.length]? = some (.cells [tv, kv] 25) := by rw [hlow.2 _ (by omega)]; exact hv1
   have hU2 : U[S.length + 1]? = some (.cells [bv, gv] 30) := by rw [hlow.2 _ (by omega)]; exact hv2
   generalize l[i] = x at i2 i4 hy hx1 htk
   have hnext : permP s g (l.take (i + 1)) = permP s g (l.take i) ++ (if hasA s g x then [x] else []) := by
    unfold permP
    rw [htk, filter_snoc]
    cases hasA s g x <;> simp
   have k1 : opLoad E0 U 25 (.ref S.length 0) = some (.agg [tv, kv]) := var_ld isAggO_25 tsize_25 hU1 rfl
   have k2 : opLoad E0 U 28 (.ref (S.length + 1) 1) = some gv := var_ld1 isAggO_28 hU2 rfl
   have k3 : opLoad E0 U 22 (.ref S.length 0) = some tv := var_ld1 isAggO_22 hU1 rfl
   have fd := refFind_ok (S := U) (kv := kv) ht fs x.1 hx1
   have sm := Small_ok x.1 U hx1
   have n2 := (hg.arr U).len (E := E0) Tryz.underlying28
   have iinc := wrap_inc i (by have := ol.1; omega)
   have htp := typ_first hu x.1
   repeat (first | refine WS.adm rfl ?_ | refine WS.region (by simp only [EV, TY, h2, h8, n1, hlt', ↓reduceIte, Nat.reduceEqDiff]; with_reducible rfl) ?_)
   refine WS.ct0 ?_
   repeat refine WS.adm rfl ?_
   refine WS.draw (by simp only [evDraw_nil, evDraw_plain, isEff, isRead, List.all_nil, List.all_cons, Bool.or_true, Bool.and_self, Bool.and_true, V.beq_refl, EV, TY, lget, h2, h3, h8, k1, i1, fa55_0, i3, i4, callV_73, fd, ↓reduceIte, Nat.reduceEqDiff]; with_reducible rfl) ?_
   repeat (first | refine WS.adm rfl ?_ | refine WS.region (by simp only [EV, TY, lget, h2, h8, i1, i3, i4, callV_42, sm, ↓reduceIte, Nat.reduceEqDiff]; with_reducible rfl) ?_)
   refine WS.loopB (fun j fr X => ∃ k, j = g.length - k ∧ k ≤ g.length ∧ lget fr 2 = v ∧ lget fr 3 = .ref S.length 0 ∧ lget fr 4 = .ref (S.length + 1) 0 ∧ lget fr 7 = w ∧ lget fr 8 = .int .i64 (i : Nat) ∧ lget fr 9 = .int .i64 (ixF (fiO s x.1)) ∧ lget fr 10 = .str (smallS x.1) ∧ lget fr 11 = .bool (inT (g.take k) x.1) ∧ lget fr 12 = .int .i64 (k : Nat) ∧ X = U)
    (fun fr X => lget fr 2 = v ∧ lget fr 3 = .ref S.length 0 ∧ lget fr 4 = .ref (S.length + 1) 0 ∧ lget fr 7 = w ∧ lget fr 8 = .int .i64 (i : Nat) ∧ lget fr 9 = .int .i64 (ixF (fiO s x.1)) ∧ lget fr 11 = .bool (inT g x.1) ∧ X = U) (j := g.length) ?_ ?_ ?_
   ·refine ⟨0, by omega, by omega, ?_, ?_, ?_, ?_, ?_, ?_, ?_, ?_, ?_, rfl⟩
    all_goals
     simp only [EV, h2, h3, h4, h7, h8, ↓reduceIte, Nat.reduceEqDiff, AT]
     try rfl
   ·rintro fr X ⟨h2, h3, h4, h7, h8, h9, h11, rfl⟩
    have step : hasA s g x = false → ∀ fr', lget fr' 2 = v → lget fr' 3 = .ref S.length 0 → lget fr' 4 = .ref (S.length + 1) 0 → lget fr' 7 = w → lget fr' 8 = .int .i64 ((i + 1 : Nat)) → WS E0 _ fr' X _ := fun hf fr' a1 a2 a3 a4 a5 =>
     ih (l.length - (i + 1)) fr' X (by omega) ⟨i + 1, w, rfl, by omega, a1, a2, a3, a4, a5, hlow, by rw [hnext, hf]; simpa using hw⟩
    cases c1 : inT g x.1 with
    | false =>
     rw [c1] at h11
     have step := step (by unfold hasA; rw [c1]; cases typ s x.1 <;> simp)
     repeat (first | refine WS.adm rfl ?_ | refine WS.region (by simp only [EV, TY, lget, h11, ↓reduceIte, Nat.reduceEqDiff]; with_reducible rfl) ?_)
     refine WS.cf0 ?_
     repeat (first | refine WS.adm rfl ?_ | refine WS.region (by simp only [EV, TY, h8, iinc, ↓reduceIte, Nat.reduceEqDiff]; with_reducible rfl) ?_)
     refine step _ ?_ ?_ ?_ ?_ ?_
     iterate 5 simp only [EV, h2, h3, h4, h7, ↓reduceIte, Nat.reduceEqDiff, AT]
    | true =>
     rw [c1] at h11
     cases c2 : fiO s x.1 with
     | none =>
      rw [c2] at h9 htp
      have step := step (by unfold hasA; rw [htp]; rfl)
      have hneg : ¬ (0 : Int) ≤ ixF none := by have := ixF_neg; omega
      repeat (first | refine WS.adm rfl ?_ | refine WS.region (by simp only [EV, TY, lget, h9, h11, hneg, ↓reduceIte, Nat.reduceEqDiff]; with_reducible rfl) ?_)
      refine WS.cond_false (by simp only [EV, hneg, ↓reduceIte, Nat.reduceEqDiff]) ?_
      repeat (first | refine WS.adm rfl ?_ | refine WS.region (by simp only [EV, TY, h8, iinc, ↓reduceIte, Nat.reduceEqDiff]; with_reducible rfl) ?_)
      refine step _ ?_ ?_ ?_ ?_ ?_
      iterate 5 simp only [EV, h2, h3, h4, h7, ↓reduceIte, Nat.reduceEqDiff, AT]
     | some q =>
      rw [c2] at h9 htp
      have hq : q < s.1.length := (List.findIdx?_eq_some_iff_getElem.1 c2).1
      obtain ⟨b, j1, j2, _⟩ := ty_at (ht.arr X) q hq
      have j3 : ∃ fb, opFieldAddr E0 100 b 3 = some fb ∧ opLoad E0 X 4 fb = some (.bool s.1[q].2.2.2.1) := by
       obtain ⟨b', c, r, g1, g2, g3, g4⟩ := (ht.arr X).at_ (E := E0) Tryz.underlying22 tsize_100 q hq
       rw [j1] at g1
       obtain rfl := Option.some.inj g1
       rw [show c = tyC s.1[q] from g4] at g2
       obtain ⟨fb, f1, f2⟩ := g2.field (E := E0) (s := 100) (f := 3) (m := 0) Tryz.underlying100 rfl tsize_4
       exact ⟨fb, f1, f2.load isAggO_4 rfl⟩
      obtain ⟨fb, j3, j4⟩ := j3
      have htq : typ s x.1 = some s.1[q] := by rw [htp]; simp [hq]
      have hpos : (0 : Int) ≤ ((q : Nat) : Int) := by omega
      have h9 : lget fr 9 = .int .i64 ((q : Nat) : Int) := h9
      cases c3 : s.1[q].2.2.2.1 with
      | true =>
       rw [c3] at j4
       have step := step (by unfold hasA; rw [htq]; simp [c3])
       repeat (first | refine WS.adm rfl ?_ | refine WS.region (by simp only [EV, TY, lget, h3, h9, h11, hpos, fa25_0, k3, j1, j3, j4, ↓reduceIte, Nat.reduceEqDiff]; with_reducible rfl) ?_)
       refine WS.cond_false (by simp only [EV, hpos, ↓reduceIte, Nat.reduceEqDiff]) ?_
       repeat (first | refine WS.adm rfl ?_ | refine WS.region (by simp only [EV, TY, h8, iinc, ↓reduceIte, Nat.reduceEqDiff]; with_reducible rfl) ?_)
       refine step _ ?_ ?_ ?_ ?_ ?_
       iterate 5 simp only [EV, h2, h3, h4, h7, ↓reduceIte, Nat.reduceEqDiff, AT]
      | false =>
       rw [c3] at j4
       have hf : hasA s g x = true := by unfold hasA; rw [htq]; simp [c1, c3]
       have hpl : (permP s g (l.take i)).length + 1 ≤ 1048577 := by
        have := List.length_filter_le (hasA s g) (l.take i)
        have h2 := ol.1
        rw [List.length_take] at this
        unfold permP
        omega
       obtain ⟨w2, T2, e1, e2, e3, e4⟩ := hw.put ety_50 hlow.1 (ofC.agg [.str x.1, y]) rfl (a := x) ⟨y, rfl, hy⟩ (by omega) (by omega)
       repeat (first | refine WS.adm rfl ?_ | refine WS.region (by simp only [EV, TY, lget, h3, h9, h11, hpos, fa25_0, k3, j1, j3, j4, ↓reduceIte, Nat.reduceEqDiff]; with_reducible rfl) ?_)
       refine WS.cond_true (by simp only [EV, hpos, ↓reduceIte, Nat.reduceEqDiff]) ?_
       repeat (first | refine WS.adm rfl ?_ | refine WS.region (by simp only [EV, TY, h2, h7, h8, i1, i2, e1, e2, iinc, ↓reduceIte, Nat.reduceEqDiff]; with_reducible rfl) ?_)
       refine ih (l.length - (i + 1)) _ _ (by omega) ⟨i + 1, w2, rfl, by omega, ?_, ?_, ?_, ?_, ?_, hlow.trans e4, by rw [hnext, hf]; exact e3⟩
       iterate 5 simp only [EV, h2, h3, h4, ↓reduceIte, Nat.reduceEqDiff, AT]
   ·rintro j fr X ⟨k, rfl, hk, h2, h3, h4, h7, h8, h9, h10, h11, h12, rfl⟩ ih2 last2
    by_cases hlk : k < g.length
    ·have hlk' : ((k : Nat) : Int) < ((g.length : Nat) : Int) := by omega
     obtain ⟨b, j1, j2⟩ := str_at (hg.arr X) k hlk
     have sm2 := Small_ok g[k] X (og.2 _ (List.getElem_mem hlk))
     have kinc := wrap_inc k (by have := og.1; omega)
     have hs := inT_snoc g k hlk x.1
     generalize hgk : g[k] = z at j2 sm2 hs
     repeat (first | refine WS.adm rfl ?_ | refine WS.region (by simp only [EV, TY, lget, h4, h12, fa30_1, k2, n2, hlk', ↓reduceIte, Nat.reduceEqDiff]; with_reducible rfl) ?_)
     refine WS.ct0 ?_
     cases c1 : inT (g.take k) x.1 with
     | true =>
      rw [c1] at h11 hs
      repeat (first | refine WS.adm rfl ?_ | refine WS.region (by simp only [EV, TY, lget, h4, h11, h12, fa30_1, k2, j1, j2, callV_42, sm2, kinc, ↓reduceIte, Nat.reduceEqDiff]; with_reducible rfl) ?_)
      refine ih2 (g.length - (k + 1)) _ _ (by omega) ⟨k + 1, rfl, by omega, ?_, ?_, ?_, ?_, ?_, ?_, ?_, ?_, ?_, rfl⟩
      iterate 9 simp only [EV, h2, h3, h4, h7, h8, h9, h10, hs, Bool.true_or, ↓reduceIte, Nat.reduceEqDiff, AT]
     | false =>
      rw [c1] at h11 hs
      have hc : (smallS x.1 == smallS z) = (smallS z == smallS x.1) := by rw [Bool.eq_iff_iff, beq_iff_eq, beq_iff_eq]; exact eq_comm
      repeat (first | refine WS.adm rfl ?_ | refine WS.region (by simp only [EV, TY, lget, h4, h10, h11, h12, fa30_1, k2, j1, j2, callV_42, sm2, kinc, ↓reduceIte, Nat.reduceEqDiff]; with_reducible rfl) ?_)
      refine ih2 (g.length - (k + 1)) _ _ (by omega) ⟨k + 1, rfl, by omega, ?_, ?_, ?_, ?_, ?_, ?_, ?_, ?_, ?_, rfl⟩
      iterate 9 simp only [EV, h2, h3, h4, h7, h8, h9, h10, hs, hc, Bool.false_or, ↓reduceIte, Nat.reduceEqDiff, AT]
    ·have hlk' : ¬ ((k : Nat) : Int) < ((g.length : Nat) : Int) := by omega
     repeat (first | refine WS.adm rfl ?_ | refine WS.region (by simp only [EV, TY, lget, h4, h12, fa30_1, k2, n2, hlk', ↓reduceIte, Nat.reduceEqDiff]; with_reducible rfl) ?_)
     refine WS.cf0 ?_
     refine WS.exit rfl ?_
     have : k = g.length := by omega
     subst this
     rw [List.take_length] at h11
     refine last2 _ _ ⟨?_, ?_, ?_, ?_, ?_, ?_, ?_, rfl⟩
     iterate 7 simp only [EV, h2, h3, h4, h7, h8, h9, h11, ↓reduceIte, Nat.reduceEqDiff, AT]
  ·have hlt' : ¬ ((i : Nat) : Int) < ((l.length : Nat) : Int) := by omega
   repeat (first | refine WS.adm rfl ?_ | refine WS.region (by simp only [EV, TY, h2, h8, n1, hlt', ↓reduceIte, Nat.reduceEqDiff]; with_reducible rfl) ?_)
   refine WS.cf0 ?_
   refine WS.exit rfl ?_
   have : i = l.length := by omega
   subst this
   rw [List.take_length] at hw
   refine last _ _ ⟨w, ?_, hlow, hw⟩
   simp only [EV, h7, ↓reduceIte, Nat.reduceEqDiff, AT]
end Go.Proofs.YtmmjlgocihhkcaaGreatDoor
namespace Go.Proofs.YtmmjlgocihhkcaaGreatDoor
open Go Go.Vm
set_option maxRecDepth 100000
set_option maxHeartbeats 8000000
theorem refView_ok {S : Store} {tv kv bv gv v : V} {s : SchD} {g : Agr} {l : List Img} (ht : PArr 6 rTy tv s.1) (fs : fitS s) (hu : (idxL (tNames s)).length = s.1.length) (hb : pDn bv g.1) (hg : PArr 1 rS gv g.2) (hl : pImgs v l) (og : fitGr g) (fl : fitL l) (on : NmL l) :
  ∃ w, vrun E0 (.fn 12) [.agg [tv, kv], .agg [bv, gv], v] S = some (w, S) ∧ pImgs w (viewP s g l) := by
 suffices hh : ∃ rr, (∃ w, rr = (w, S) ∧ pImgs w (viewP s g l)) ∧ vrun E0 (.fn 12) [.agg [tv, kv], .agg [bv, gv], v] S = some rr by
  obtain ⟨rr, ⟨w, rfl, h2⟩, h3⟩ := hh
  exact ⟨w, h3, h2⟩
 refine fn_wsP Tryz.func12 rfl ?_
 have hbx : opBox S 25 (.agg [tv, kv]) = some (.ref S.length 0, S ++ [.cells [tv, kv] 25]) := rfl
 have hl1 : (S ++ [Ob.cells [tv, kv] 25]).length = S.length + 1 := by simp
 have hbx2 : opBox (S ++ [.cells [tv, kv] 25]) 30 (.agg [bv, gv]) = some (.ref (S.length + 1) 0, (S ++ [.cells [tv, kv] 25]) ++ [.cells [bv, gv] 30]) := by rw [← hl1]; rfl
 have hv1 : ((S ++ [Ob.cells [tv, kv] 25]) ++ [Ob.cells [bv, gv] 30])[S.length]? = some (.cells [tv, kv] 25) := get_more (getS0 _) _
 have hv2 : ((S ++ [Ob.cells [tv, kv] 25]) ++ [Ob.cells [bv, gv] 30])[S.length + 1]? = some (.cells [bv, gv] 30) := by rw [← hl1]; exact getS0 _
 have low0 : Low S.length S ((S ++ [Ob.cells [tv, kv] 25]) ++ [Ob.cells [bv, gv] 30]) := (Low.app (Nat.le_refl _) _).trans (Low.app (by simp) _)
 have hl2 : ((S ++ [Ob.cells [tv, kv] 25]) ++ [Ob.cells [bv, gv] 30]).length = S.length + 2 := by simp
 generalize (S ++ [Ob.cells [tv, kv] 25]) ++ [Ob.cells [bv, gv] 30] = U0 at hbx2 hv1 hv2 low0 hl2
 repeat (first | refine WS.adm rfl ?_ | refine WS.region (by simp only [EV, TY, lget, hbx, hbx2, ↓reduceIte, Nat.reduceEqDiff]; with_reducible rfl) ?_)
 refine WS.loopB (fun j fr U => ∃ i w, j = l.length - i ∧ i ≤ l.length ∧ lget fr 2 = v ∧ lget fr 3 = .ref S.length 0 ∧ lget fr 4 = .ref (S.length + 1) 0 ∧ lget fr 7 = w ∧ lget fr 8 = .int .i64 (i : Nat) ∧ Low U0.length U0 U ∧ Lst U0.length 52 2 rImg U w (viewU s g l i))
  (fun fr U => ∃ w, lget fr 7 = w ∧ Low U0.length U0 U ∧ Lst U0.length 52 2 rImg U w (viewU s g l l.length)) (j := l.length) ?_ ?_ ?_
 ·refine ⟨0, .slN, by omega, by omega, ?_, ?_, ?_, ?_, ?_, Low.refl (Nat.le_refl _), Lst.nil _ _ _ _ _⟩
  all_goals
   simp only [EV, lget, ↓reduceIte, Nat.reduceEqDiff, AT]
   try rfl
 ·rintro fr U ⟨w, h7, hlow, hw⟩
  have lowF : Low S.length S U := low0.trans ⟨by have := hlow.1; omega, fun i hi => hlow.2 i (by omega)⟩
  obtain ⟨w', s1, s2⟩ := refSorted_ok hw.arr (fit_viewU fl _ (Nat.le_refl _))
  repeat (first | refine WS.adm rfl ?_ | refine WS.region (by simp only [EV, TY, h7, callV_36, s1, ↓reduceIte, Nat.reduceEqDiff]; with_reducible rfl) ?_)
  refine WS.ret1P (t := 6) rfl rfl ?_ lowF.pre (flatV.frz (PArr.flat s2) 5 _ _) ⟨w', rfl, s2⟩
  simp only [EV, ↓reduceIte, Nat.reduceEqDiff, AT]
 ·rintro j fr U ⟨i, w, rfl, hi, h2, h3, h4, h7, h8, hlow, hw⟩ ih last
  have n1 := (PArr.arr hl U).len (E := E0) Tryz.underlying31
  by_cases hlt : i < l.length
  ·have hlt' : ((i : Nat) : Int) < ((l.length : Nat) : Int) := by omega
   obtain ⟨a, c, r, i1, i2, _, u, y, rfl, i3, i4⟩ := (PArr.arr hl U).at_ (E := E0) Tryz.underlying31 tsize_52 i hlt
   obtain ⟨fa, f1, f2⟩ := img_name i2
   obtain ⟨fb, f3, f4⟩ := img_attrs i2
   have fx := fl.at_ hlt
   have nx := on _ (List.getElem_mem hlt)
   have hpk : pick1 s g l i = if decide (atI l l[i].1 = ((i : Nat) : Int)) && underB l[i].1 g.1 then [(l[i].1, permP s g.2 l[i].2)] else [] := by
    unfold pick1
    rw [List.getElem?_eq_getElem hlt]
   generalize l[i] = x at i3 i4 fx nx hpk
   have hnext := viewU_succ s g l i
   rw [hpk] at hnext
   have hU1 : U[S.length]? = some (.cells [tv, kv] 25) := by rw [hlow.2 _ (by omega)]; exact hv1
   have hU2 : U[S.length + 1]? = some (.cells [bv, gv] 30) := by rw [hlow.2 _ (by omega)]; exact hv2
   have k1 : opLoad E0 U 25 (.ref S.length 0) = some (.agg [tv, kv]) := var_ld isAggO_25 tsize_25 hU1 rfl
   have k5 : opLoad E0 U 30 (.ref (S.length + 1) 0) = some (.agg [bv, gv]) := var_ld isAggO_30 tsize_30 hU2 rfl
   have k4 : opLoad E0 U 27 (.ref (S.length + 1) 0) = some bv := var_ld1 isAggO_27 hU2 rfl
   have k4b := k4
   rw [ld_ref isAggO_27] at k4b
   have hat := At_ok (PArr.arr hl U) i3 fl fx.1.1
   have un := refUnder_ok (i3.is U) (hb.is U) fx.1.1 og.1.1
   have hdec : (atI l x.1 == ((i : Nat) : Int)) = decide (atI l x.1 = ((i : Nat) : Int)) := rfl
   have iinc := wrap_inc i (by have := fl.1; omega)
   have step : (decide (atI l x.1 = ((i : Nat) : Int)) && underB x.1 g.1) = false → ∀ fr', lget fr' 2 = v → lget fr' 3 = .ref S.length 0 → lget fr' 4 = .ref (S.length + 1) 0 → lget fr' 7 = w → lget fr' 8 = .int .i64 ((i + 1 : Nat)) → WS E0 _ fr' U _ := fun hf fr' a1 a2 a3 a4 a5 =>
    ih (l.length - (i + 1)) fr' U (by omega) ⟨i + 1, w, rfl, by omega, a1, a2, a3, a4, a5, hlow, by rw [hnext, hf]; simpa using hw⟩
   repeat (first | refine WS.adm rfl ?_ | refine WS.region (by simp only [EV, TY, h2, h8, n1, hlt', ↓reduceIte, Nat.reduceEqDiff]; with_reducible rfl) ?_)
   refine WS.ct0 ?_
   repeat (first | refine WS.adm rfl ?_ | refine WS.region (by simp only [EV, TY, lget, h2, h8, i1, f1, f2, callV_21, hat, ↓reduceIte, Nat.reduceEqDiff]; with_reducible rfl) ?_)
   refine WS.drawb (b := [0, 0, 3, 7, 15, 0, 32, 127, 255]) (by kernel_rfl) (by simp only [evDraw_nil, evDraw_plain, isEff, isRead, List.all_nil, List.all_cons, Bool.or_true, Bool.true_or, Bool.and_self, Bool.and_true, V.beq_refl, List.getD_cons_zero, List.getD_cons_succ, Nat.reduceAdd, EV, TY,  lget, h2, h4, h8, i1, f1, f2, k4, k4b, fa30_0, callV_20, un, Bool.false_or, TB, ↓reduceIte, Nat.reduceEqDiff]; with_reducible rfl) ?_
   cases c1 : decide (atI l x.1 = ((i : Nat) : Int)) with
   | false =>
    rw [c1] at hdec
    have step := step (by rw [c1]; rfl)
    repeat (first | refine WS.adm rfl ?_ | refine WS.region (by simp only [EV, TY, lget, h8, hdec, ↓reduceIte, Nat.reduceEqDiff]; with_reducible rfl) ?_)
    refine WS.cond_false (by simp only [EV, hdec, ↓reduceIte, Nat.reduceEqDiff]) ?_
    repeat (first | refine WS.adm rfl ?_ | refine WS.region (by simp only [EV, TY, h8, iinc, ↓reduceIte, Nat.reduceEqDiff]; with_reducible rfl) ?_)
    refine step _ ?_ ?_ ?_ ?_ ?_
    iterate 5 simp only [EV, h2, h3, h4, h7, ↓reduceIte, Nat.reduceEqDiff, AT]
   | true =>
    rw [c1] at hdec
    cases c2 : underB x.1 g.1 with
    | false =>
     have step := step (by rw [c1, c2]; rfl)
     repeat (first | refine WS.adm rfl ?_ | refine WS.region (by simp only [EV, TY, lget, h8, hdec, c2, ↓reduceIte, Nat.reduceEqDiff]; with_reducible rfl) ?_)
     refine WS.cond_false (by simp only [EV, hdec, c2, ↓reduceIte, Nat.reduceEqDiff]) ?_
     repeat (first | refine WS.adm rfl ?_ | refine WS.region (by simp only [EV, TY, h8, iinc, ↓reduceIte, Nat.reduceEqDiff]; with_reducible rfl) ?_)
     refine step _ ?_ ?_ ?_ ?_ ?_
     iterate 5 simp only [EV, h2, h3, h4, h7, ↓reduceIte, Nat.reduceEqDiff, AT]
    | true =>
     obtain ⟨y', p1, p2⟩ := refPerm_ok (S := U) (kv := kv) (bv := bv) ht fs hu hg i4 og.2 fx.2 nx
     have hpl := viewU_len s g l i
     have hll := fl.1
     obtain ⟨w2, T2, q1, q2, q3, q4⟩ := hw.put ety_31 hlow.1 (ofC.agg [u, y']) rfl (a := (x.1, permP s g.2 x.2)) (rImg_of i3 p2) (by omega) (by omega)
     have bd := build_52 (flatV.solid i3.flat) (flatV.vcells i3.flat) (flatV.solid p2.flat) (flatV.vcells p2.flat)
     repeat (first | refine WS.adm rfl ?_ | refine WS.region (by simp only [EV, TY, lget, h8, hdec, c2, ↓reduceIte, Nat.reduceEqDiff]; with_reducible rfl) ?_)
     refine WS.cond_true (by simp only [EV, hdec, c2, ↓reduceIte, Nat.reduceEqDiff]) ?_
     repeat refine WS.adm rfl ?_
     refine WS.drawb (b := [0, 0, 0, 6, 14, 30, 0, 0, 0, 0, 768, 1792, 3840, 8128, 16382, 32766, 65535, 131071]) (by kernel_rfl) (by simp only [evDraw_nil, evDraw_plain, isEff, isRead, List.all_nil, List.all_cons, Bool.or_true, Bool.true_or, Bool.and_self, Bool.and_true, V.beq_refl, List.getD_cons_zero, List.getD_cons_succ, Nat.reduceAdd, EV, TY,  lget, h2, h3, h4, h7, h8, i1, f1, f2, f3, f4, k1, k5, callV_35, p1, bd, q1, q2, Bool.false_or, TB, ↓reduceIte, Nat.reduceEqDiff]; with_reducible rfl) ?_
     repeat (first | refine WS.adm rfl ?_ | refine WS.region (by simp only [EV, TY, h8, iinc, ↓reduceIte, Nat.reduceEqDiff]; with_reducible rfl) ?_)
     refine ih (l.length - (i + 1)) _ _ (by omega) ⟨i + 1, w2, rfl, by omega, ?_, ?_, ?_, ?_, ?_, hlow.trans q4, by rw [hnext, c1, c2]; exact q3⟩
     iterate 5 simp only [EV, h2, h3, h4, ↓reduceIte, Nat.reduceEqDiff, AT]
  ·have hlt' : ¬ ((i : Nat) : Int) < ((l.length : Nat) : Int) := by omega
   repeat (first | refine WS.adm rfl ?_ | refine WS.region (by simp only [EV, TY, h2, h8, n1, hlt', ↓reduceIte, Nat.reduceEqDiff]; with_reducible rfl) ?_)
   refine WS.cf0 ?_
   refine WS.exit rfl ?_
   have : i = l.length := by omega
   subst this
   refine last _ _ ⟨w, ?_, hlow, hw⟩
   simp only [EV, h7, ↓reduceIte, Nat.reduceEqDiff, AT]
end Go.Proofs.YtmmjlgocihhkcaaGreatDoor
