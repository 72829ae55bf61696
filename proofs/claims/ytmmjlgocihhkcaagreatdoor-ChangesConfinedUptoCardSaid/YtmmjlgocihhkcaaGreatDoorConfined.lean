/- The view stays the same, whatever values the attributes of other types have, and whatever images lie elsewhere: for all arguments whose bulk is at most 1048576, in any memory, the law returns true and each argument reads as before. Conditions: those of the given row and card alone (the listed package-level variables hold what the program's text lays). -/
import Derived.Test.YtmmjlgocihhkcaaGreatDoorPartU
import Derived.Test.YtmmjlgocihhkcaaGreatDoorPartV
import Derived.Test.YtmmjlgocihhkcaaGreatDoorFits
import Derived.Test.YtmmjlgocihhkcaaGreatDoorOpens
set_option linter.all false
namespace Go.Proofs.YtmmjlgocihhkcaaGreatDoor
open Go Go.Vm
set_option maxRecDepth 100000
set_option maxHeartbeats 8000000
theorem named_ok {S : Store} {gv : V} {g : List (List UInt8)} (hg : PArr 1 rS gv g) (og : g.length ≤ 1048576 ∧ ∀ n ∈ g, n.length ≤ 1048576) (n : List UInt8) (hn : n.length ≤ 1048576) : vrun E0 (.fn 19) [gv, .str n] S = some (.bool (inT g n), S) := by
 refine fn_ws Tryz.func19 rfl ?_
 have sm := Small_ok n S hn
 have ln := (hg.arr S).len (E := E0) Tryz.underlying28
 repeat (first | refine WS.adm rfl ?_ | refine WS.region (by simp only [EV, TY, lget, callV_42, sm, ↓reduceIte, Nat.reduceEqDiff]; with_reducible rfl) ?_)
 refine WS.loopB (fun j fr U => ∃ i, j = g.length - i ∧ i ≤ g.length ∧ lget fr 0 = gv ∧ lget fr 5 = .str (smallS n) ∧ lget fr 6 = .int .i64 (i : Nat) ∧ U = S ∧ inT (g.take i) n = false)
  (fun fr U => U = S ∧ inT g n = false) (j := g.length) ?_ ?_ ?_
 ·refine ⟨0, by omega, by omega, ?_, ?_, ?_, rfl, rfl⟩
  all_goals
   simp only [EV, lget, ↓reduceIte, Nat.reduceEqDiff, AT]
   try rfl
 ·rintro fr U ⟨rfl, hf⟩
  repeat (first | refine WS.adm rfl ?_ | refine WS.rl ?_)
  refine ret_bool (b := false) (t := 4) rfl rfl (List.prefix_refl _) hf ?_
  simp only [EV, ↓reduceIte, Nat.reduceEqDiff, AT]
 ·rintro j fr U ⟨i, rfl, hi, h0, h5, h6, rfl, hf⟩ ih last
  by_cases hlt : i < g.length
  ·have hlt' : ((i : Nat) : Int) < ((g.length : Nat) : Int) := by omega
   obtain ⟨b, j1, j2⟩ := str_at (hg.arr U) i hlt
   have sm2 := Small_ok g[i] U (og.2 _ (List.getElem_mem hlt))
   have iinc := wrap_inc i (by have := og.1; omega)
   have hs := inT_snoc g i hlt n
   rw [hf, Bool.false_or] at hs
   have hm : g[i] ∈ g := List.getElem_mem hlt
   generalize g[i] = z at j2 sm2 hs hm
   repeat (first | refine WS.adm rfl ?_ | refine WS.region (by simp only [EV, TY, h0, h6, ln, hlt', ↓reduceIte, Nat.reduceEqDiff]; with_reducible rfl) ?_)
   refine WS.ct0 ?_
   cases hq : smallS z == smallS n with
   | true =>
    have ht : inT g n = true := by unfold inT; exact List.any_eq_true.2 ⟨z, hm, hq⟩
    repeat (first | refine WS.adm rfl ?_ | refine WS.region (by simp only [EV, TY, lget, h0, h5, h6, j1, j2, callV_42, sm2, hq, ↓reduceIte, Nat.reduceEqDiff]; with_reducible rfl) ?_)
    refine WS.cond_true (by simp only [EV, hq, ↓reduceIte, Nat.reduceEqDiff]) ?_
    repeat (first | refine WS.adm rfl ?_ | refine WS.rl ?_)
    refine ret_bool (b := true) (t := 4) rfl rfl (List.prefix_refl _) ht ?_
    simp only [EV, ↓reduceIte, Nat.reduceEqDiff, AT]
   | false =>
    rw [hq] at hs
    repeat (first | refine WS.adm rfl ?_ | refine WS.region (by simp only [EV, TY, lget, h0, h5, h6, j1, j2, callV_42, sm2, hq, ↓reduceIte, Nat.reduceEqDiff]; with_reducible rfl) ?_)
    refine WS.cond_false (by simp only [EV, hq, ↓reduceIte, Nat.reduceEqDiff]) ?_
    repeat (first | refine WS.adm rfl ?_ | refine WS.region (by simp only [EV, TY, h6, iinc, ↓reduceIte, Nat.reduceEqDiff]; with_reducible rfl) ?_)
    refine ih (g.length - (i + 1)) _ _ (by omega) ⟨i + 1, rfl, by omega, ?_, ?_, ?_, rfl, hs⟩
    iterate 3 simp only [EV, h0, h5, ↓reduceIte, Nat.reduceEqDiff, AT]
  ·have hlt' : ¬ ((i : Nat) : Int) < ((g.length : Nat) : Int) := by omega
   repeat (first | refine WS.adm rfl ?_ | refine WS.region (by simp only [EV, TY, h0, h6, ln, hlt', ↓reduceIte, Nat.reduceEqDiff]; with_reducible rfl) ?_)
   refine WS.cf0 ?_
   refine WS.exit rfl ?_
   have : i = g.length := by omega
   subst this
   rw [List.take_length] at hf
   exact last _ _ ⟨rfl, hf⟩
def eOk (X : Store) (p : Nat) (a : V) (t : List Attr) : Prop := pAttrs a t ∨ ∃ q ds, q ≠ p ∧ a = .slR q 0 t.length t.length 2 ∧ X[q]? = some (.cells ds 55) ∧ Cs 2 rAttr ds t
theorem eOk.arr {X : Store} {p : Nat} {a : V} {t : List Attr} (h : eOk X p a t) : Arr 2 rAttr X a t := by
 rcases h with h | ⟨q, ds, _, rfl, h2, h3⟩
 ·exact PArr.arr h X
 ·exact Lst.arr (n0 := 0) (e := 55) (.inr ⟨q, ds, Nat.zero_le _, rfl, h2, h3⟩)
theorem eOk.keep {X X' : Store} {p p' : Nat} {a : V} {t : List Attr} (h : eOk X p a t) (hk : ∀ q, q < X.length → q ≠ p → X'[q]? = X[q]?) (hp : X.length ≤ p' ∨ p' = p) : eOk X' p' a t := by
 rcases h with h | ⟨q, ds, h1, rfl, h2, h3⟩
 ·exact .inl h
 ·have hq := lt_of_get h2
  exact .inr ⟨q, ds, by omega, rfl, by rw [hk q hq h1]; exact h2, h3⟩
def rBare (X : Store) (p : Nat) (c : List V) (x : Img) : Prop := ∃ u a, c = [u, a] ∧ pDn u x.1 ∧ eOk X p a x.2
def Bare (n0 : Nat) (X : Store) (w : V) (L : List Img) : Prop := (L = [] ∧ w = .slN) ∨ ∃ p cs, n0 ≤ p ∧ w = .slR p 0 L.length L.length 2 ∧ X[p]? = some (.cells cs 52) ∧ Cs 2 (rBare X p) cs L
theorem Bare.arr {n0 : Nat} {X : Store} {w : V} {L : List Img} (h : Bare n0 X w L) : Arr 2 (rImgS X) X w L := by
 rcases h with ⟨rfl, rfl⟩ | ⟨p, cs, _, rfl, h2, h3⟩
 ·exact Lst.arr (Lst.nil 0 52 2 _ X)
 ·refine Lst.arr (n0 := 0) (e := 52) (.inr ⟨p, cs, Nat.zero_le _, rfl, h2, Cs.mono ?_ h3⟩)
  rintro c x ⟨u, a, e, h4, h5⟩
  exact ⟨u, a, e, h4, h5.arr⟩
theorem Bare.low {n0 : Nat} {X X' : Store} {w : V} {L : List Img} (h : Bare n0 X w L) (hl : Low X.length X X') : Bare n0 X' w L := by
 rcases h with h | ⟨p, cs, h1, h2, h3, h4⟩
 ·exact .inl h
 ·refine .inr ⟨p, cs, h1, h2, by rw [hl.2 p (lt_of_get h3)]; exact h3, Cs.mono ?_ h4⟩
  rintro c x ⟨u, a, e, h5, h6⟩
  exact ⟨u, a, e, h5, h6.keep (fun q hq _ => hl.2 q hq) (.inr rfl)⟩
theorem Bare.ne {n0 : Nat} {X : Store} {w : V} {L : List Img} (h : Bare n0 X w L) {q : Nat} (hq : X.length ≤ q) (n : Nat) : w ≠ .slR q 0 n n 2 := by
 rcases h with ⟨rfl, rfl⟩ | ⟨p, cs, h1, rfl, h3, h4⟩
 ·intro e; cases e
 ·intro e
  have := lt_of_get h3
  cases e
  omega
theorem keepL (X : Store) (c D F : Ob) (p q : Nat) (hq : q < X.length) (hne : q ≠ p) : (((X ++ [c]).set p D) ++ [F])[q]? = X[q]? := by
 rw [List.getElem?_append_left (by simp; omega), List.getElem?_set_ne (Ne.symm hne), List.getElem?_append_left hq]
theorem Bare.put {n0 : Nat} {X : Store} {w : V} {L : List Img} (h : Bare n0 X w L) (hn : n0 ≤ X.length) {u a : V} {x : Img} (hu : pDn u x.1) (ha : pAttrs a x.2 ∨ ∃ q ds, (∀ n, w ≠ .slR q 0 n n 2) ∧ a = .slR q 0 x.2.length x.2.length 2 ∧ X[q]? = some (.cells ds 55) ∧ Cs 2 rAttr ds x.2) (hl : L.length + 1 ≤ 1048577) :
  ∃ w2 T2, opBuildSlice E0 X 31 1 [(0, .agg [u, a])] = some (.slR X.length 0 1 1 2, X ++ [.cells [u, a] 52]) ∧ opAppend E0 (X ++ [.cells [u, a] 52]) [31, 31] w (.slR X.length 0 1 1 2) = some (w2, T2) ∧ Bare n0 T2 w2 (L ++ [x]) ∧ Low n0 X T2 := by
 have ty := ety_31
 have hmk : opBuildSlice E0 X 31 1 [(0, .agg [u, a])] = some (.slR X.length 0 1 1 2, X ++ [.cells [u, a] 52]) := ty.mk1 X (.agg [u, a]) rfl rfl
 have hsc := sc_top [u, a] 1 (z := 2) (by simp) X (e := 52)
 have h2 : ([u, a] : List V).length = 2 := rfl
 rcases h with ⟨rfl, rfl⟩ | ⟨p, cs, p1, rfl, p2, p3⟩
 ·have happ := ty.app0 hsc (fun s => by simp) (by omega) (by omega) (by omega) (by omega)
  refine ⟨_, _, hmk, happ, .inr ⟨X.length + 1, [u, a], by omega, by simp, by simp, Cs.one rfl ⟨u, a, rfl, hu, ?_⟩⟩, (Low.app hn _).trans (Low.app (by simp; omega) _)⟩
  rcases ha with ha | ⟨q, ds, _, rfl, h2, h3⟩
  ·exact .inl ha
  ·exact .inr ⟨q, ds, by have := lt_of_get h2; omega, rfl, get_more (get_more h2 _) _, h3⟩
 ·have happ := ty.app (m := L.length) hsc (fun s => by simp) (by omega) (by omega) (get_pre (List.prefix_append X _) p2) p3.len (by omega) (by omega)
  refine ⟨_, _, hmk, happ, .inr ⟨X.length + 1, cs ++ [u, a], by omega, by simp, by simp, (Cs.mono ?_ p3).append (Cs.one rfl ⟨u, a, rfl, hu, ?_⟩)⟩, (Low.app hn _).trans ((Low.set (by simp; omega) p1).trans (Low.app (by simp; omega) _))⟩
  ·rintro c y ⟨u', a', e, h3, h4⟩
   exact ⟨u', a', e, h3, h4.keep (fun q hq hne => keepL X _ _ _ p q hq hne) (.inl (by omega))⟩
  ·rcases ha with ha | ⟨q, ds, hw, rfl, h2, h3⟩
   ·exact .inl ha
   ·have hqp : q ≠ p := fun e => hw L.length (by rw [e])
    exact .inr ⟨q, ds, by have := lt_of_get h2; omega, rfl, by rw [keepL X _ _ _ p q (lt_of_get h2) hqp]; exact h2, h3⟩
theorem build_52n {u : V} (e1 : solid u = true) (e2 : vcells u = [u]) : opBuild E0 52 [(0, u)] = some (.agg [u, .slN]) := by
 have hu : E0.P.underlying 52 = _ := Tryz.underlying52
 unfold opBuild
 simp [hu, zeroV_52, tsize_27, tsize_50, fillV, fieldPlaces, splice, e1, e2, (show ∀ z, solid (.agg z) = true from fun z => rfl), (show ∀ z, vcells (.agg z) = z from fun z => rfl)]
set_option maxHeartbeats 16000000
def elsew (g : Agr) (m : List Img) : List Img := m.filter fun x => !underB x.1 g.1
theorem fit_strip {gt : List (List UInt8)} {x : Img} (h : fitI x) : fitI (strip gt x) := ⟨h.1, Nat.le_trans (List.length_filter_le _ _) h.2.1, fun a ha => h.2.2 a (List.mem_filter.1 ha).1⟩
theorem fit_bare {g : Agr} {l m : List Img} (fl : fitL l) (fm : fitL m) (hs : l.length + m.length ≤ 1048576) : fitL (l.map (strip g.2) ++ elsew g m) := by
 have h1 := List.length_filter_le (fun x : Img => !underB x.1 g.1) m
 refine ⟨by unfold elsew; rw [List.length_append, List.length_map]; omega, fun x hx => ?_⟩
 rcases List.mem_append.1 hx with h | h
 ·obtain ⟨y, hy, rfl⟩ := List.mem_map.1 h
  exact fit_strip (fl.2 y hy)
 ·exact fm.2 x (List.mem_filter.1 h).1
theorem nm_bare {g : Agr} {l m : List Img} (on : NmL l) (om : NmL m) : NmL (l.map (strip g.2) ++ elsew g m) := by
 intro x hx
 rcases List.mem_append.1 hx with h | h
 ·obtain ⟨y, hy, rfl⟩ := List.mem_map.1 h
  exact fun a ha => on y hy a (List.mem_filter.1 ha).1
 ·exact om x (List.mem_filter.1 h).1
theorem law6_ok {cs cg : List V} {v v' : V} {s : SchD} {g : Agr} {l m : List Img} (hs : ∃ tv kv, cs = [tv, kv] ∧ PArr 6 rTy tv s.1 ∧ PArr 5 rCls kv s.2) (hg : ∃ bv gv, cg = [bv, gv] ∧ pDn bv g.1 ∧ PArr 1 rS gv g.2) (hl : pImgs v l) (hm : pImgs v' m) (fs : fitS s) (og : fitGr g) (fl : fitL l ∧ NmL l) (fm : fitL m ∧ NmL m) :
  vrun E0 (.fn 6) [.agg cs, .agg cg, v, v'] [] = some (.bool true, []) := by
 obtain ⟨tv, kv, rfl, ht, hk⟩ := hs
 obtain ⟨bv, gv, rfl, hb, hgr⟩ := hg
 obtain ⟨fl, on⟩ := fl
 obtain ⟨fm, om⟩ := fm
 refine fn_ws Tryz.func6 rfl ?_
 have hbx : opBox [] 25 (.agg [tv, kv]) = some (.ref 0 0, [.cells [tv, kv] 25]) := rfl
 have hbx2 : opBox [Ob.cells [tv, kv] 25] 30 (.agg [bv, gv]) = some (.ref 1 0, [.cells [tv, kv] 25, .cells [bv, gv] 30]) := rfl
 have c0 : ([Ob.cells [tv, kv] 25, .cells [bv, gv] 30] : Store)[0]? = some (.cells [tv, kv] 25) := rfl
 have c1 : ([Ob.cells [tv, kv] 25, .cells [bv, gv] 30] : Store)[1]? = some (.cells [bv, gv] 30) := rfl
 have hU2 : ([Ob.cells [tv, kv] 25, .cells [bv, gv] 30] : Store).length = 2 := rfl
 generalize [Ob.cells [tv, kv] 25, Ob.cells [bv, gv] 30] = U at hbx2 c0 c1 hU2
 have k0 : opLoad E0 U 25 (.ref 0 0) = some (.agg [tv, kv]) := var_ld isAggO_25 tsize_25 c0 rfl
 have la := (PArr.arr hl U).len (E := E0) Tryz.underlying31
 have lb := (PArr.arr hm U).len (E := E0) Tryz.underlying31
 by_cases n1 : 150 < l.length
 ·have n1' : (150 : Int) < ((l.length : Nat) : Int) := by omega
  repeat (first | refine WS.adm rfl ?_ | refine WS.region (by simp only [EV, TY, lget, hbx, hbx2, callV_8, la, lb, n1', ↓reduceIte, Nat.reduceEqDiff]; with_reducible rfl) ?_)
  refine WS.cond_true (by simp only [EV, n1', ↓reduceIte, Nat.reduceEqDiff]) ?_
  repeat (first | refine WS.adm rfl ?_ | refine WS.rl ?_)
  refine ret_bool (t := 8) rfl rfl List.nil_prefix rfl ?_
  simp only [EV, ↓reduceIte, Nat.reduceEqDiff, AT]
 have n1' : ¬ (150 : Int) < ((l.length : Nat) : Int) := by omega
 by_cases n2 : 150 < m.length
 ·have n2' : (150 : Int) < ((m.length : Nat) : Int) := by omega
  repeat (first | refine WS.adm rfl ?_ | refine WS.region (by simp only [EV, TY, lget, hbx, hbx2, callV_8, la, lb, n1', n2', ↓reduceIte, Nat.reduceEqDiff]; with_reducible rfl) ?_)
  refine WS.cond_true (by simp only [EV, n1', n2', ↓reduceIte, Nat.reduceEqDiff]) ?_
  repeat (first | refine WS.adm rfl ?_ | refine WS.rl ?_)
  refine ret_bool (t := 8) rfl rfl List.nil_prefix rfl ?_
  simp only [EV, ↓reduceIte, Nat.reduceEqDiff, AT]
 have n2' : ¬ (150 : Int) < ((m.length : Nat) : Int) := by omega
 obtain ⟨T, lowT, hN⟩ := New_ok (S := U) ht hk fs
 rcases hN with hN | ⟨b, tw, kw, q, r, hN, hsch, hu⟩
 ·repeat (first | refine WS.adm rfl ?_ | refine WS.region (by simp only [EV, TY, lget, hbx, hbx2, callV_8, la, lb, n1', n2', ↓reduceIte, Nat.reduceEqDiff]; with_reducible rfl) ?_)
  refine WS.cond_false (by simp only [EV, n1', n2', ↓reduceIte, Nat.reduceEqDiff]) ?_
  repeat (first | refine WS.adm rfl ?_ | refine WS.region (by simp only [EV, TY, lget, k0, callV_9, hN, eq33n, eq33r, ↓reduceIte, Nat.reduceEqDiff]; with_reducible rfl) ?_)
  refine WS.ct0 ?_
  repeat (first | refine WS.adm rfl ?_ | refine WS.rl ?_)
  refine ret_bool (t := 8) rfl rfl List.nil_prefix rfl ?_
  simp only [EV, ↓reduceIte, Nat.reduceEqDiff, AT]
  rfl
 have d1 : T[1]? = some (.cells [bv, gv] 30) := by rw [lowT.2 _ (by omega)]; exact c1
 have hT2 : 1 < T.length := lt_of_get d1
 have k2 : opLoad E0 T 30 (.ref 1 0) = some (.agg [bv, gv]) := var_ld isAggO_30 tsize_30 d1 rfl
 obtain ⟨w1, e1, e2⟩ := View_ok hsch hb hgr hl og fl on
 repeat (first | refine WS.adm rfl ?_ | refine WS.region (by simp only [EV, TY, lget, hbx, hbx2, callV_8, la, lb, n1', n2', ↓reduceIte, Nat.reduceEqDiff]; with_reducible rfl) ?_)
 refine WS.cond_false (by simp only [EV, n1', n2', ↓reduceIte, Nat.reduceEqDiff]) ?_
 repeat (first | refine WS.adm rfl ?_ | refine WS.region (by simp only [EV, TY, lget, k0, callV_9, hN, eq33n, eq33r, ↓reduceIte, Nat.reduceEqDiff]; with_reducible rfl) ?_)
 refine WS.cf0 ?_
 repeat (first | refine WS.adm rfl ?_ | refine WS.region (by simp only [EV, TY, lget, k2, callV_10, e1, ↓reduceIte, Nat.reduceEqDiff]; with_reducible rfl) ?_)
 refine WS.loopB (fun j fr X => ∃ i w, j = l.length - i ∧ i ≤ l.length ∧ lget fr 2 = v ∧ lget fr 3 = v' ∧ lget fr 5 = .ref 1 0 ∧ lget fr 9 = .bool true ∧ lget fr 10 = .ref b 0 ∧ lget fr 12 = w1 ∧ lget fr 13 = w ∧ lget fr 14 = .int .i64 (i : Nat) ∧ Low T.length T X ∧ Bare T.length X w ((l.take i).map (strip g.2)))
  (fun fr X => ∃ w, lget fr 3 = v' ∧ lget fr 5 = .ref 1 0 ∧ lget fr 9 = .bool true ∧ lget fr 10 = .ref b 0 ∧ lget fr 12 = w1 ∧ lget fr 13 = w ∧ Low T.length T X ∧ Bare T.length X w (l.map (strip g.2))) (j := l.length) ?_ ?_ ?_
 ·refine ⟨0, .slN, by omega, by omega, ?_, ?_, ?_, ?_, ?_, ?_, ?_, ?_, Low.refl (Nat.le_refl _), .inl ⟨rfl, rfl⟩⟩
  all_goals
   simp only [EV, lget, ↓reduceIte, Nat.reduceEqDiff, AT]
   try rfl
 ·rintro fr X ⟨w, h3, h5, h9, h10, h12, h13, hlow, hw⟩
  repeat (first | refine WS.adm rfl ?_ | refine WS.rl ?_)
  refine WS.loopB (fun j fr X => ∃ i w, j = m.length - i ∧ i ≤ m.length ∧ lget fr 3 = v' ∧ lget fr 5 = .ref 1 0 ∧ lget fr 9 = .bool true ∧ lget fr 10 = .ref b 0 ∧ lget fr 12 = w1 ∧ lget fr 13 = w ∧ lget fr 18 = .int .i64 (i : Nat) ∧ Low T.length T X ∧ Bare T.length X w (l.map (strip g.2) ++ elsew g (m.take i)))
   (fun fr X => ∃ w, lget fr 5 = .ref 1 0 ∧ lget fr 9 = .bool true ∧ lget fr 10 = .ref b 0 ∧ lget fr 12 = w1 ∧ lget fr 13 = w ∧ Low T.length T X ∧ Bare T.length X w (l.map (strip g.2) ++ elsew g m)) (j := m.length) ?_ ?_ ?_
  ·refine ⟨0, w, by omega, by omega, ?_, ?_, ?_, ?_, ?_, ?_, ?_, hlow, by unfold elsew; simpa using hw⟩
   iterate 6 simp only [EV, h3, h5, h9, h10, h12, h13, ↓reduceIte, Nat.reduceEqDiff, AT]
   ·simp only [EV, lget, ↓reduceIte, Nat.reduceEqDiff, AT]
    try rfl
  ·rintro fr X ⟨w, h5, h9, h10, h12, h13, hlow, hw⟩
   have d2 : X[1]? = some (.cells [bv, gv] 30) := by rw [hlow.2 _ (by omega)]; exact d1
   have k3 : opLoad E0 X 30 (.ref 1 0) = some (.agg [bv, gv]) := var_ld isAggO_30 tsize_30 d2 rfl
   have hsum : l.length + m.length ≤ 1048576 := by omega
   obtain ⟨w2, f1, f2⟩ := ViewA_ok (hsch.pre hlow.pre) hb hgr hw.arr og (fit_bare fl fm hsum) (nm_bare on om)
   rw [view_confined (fun x hx => by have := (List.mem_filter.1 hx).2; simpa using this)] at f2
   have fv : fitL (viewP s g l) := fit_viewP fl
   have t1 := Same_img_ok (PArr.arr e2 X) (PArr.arr f2 X) fv fv
   rw [decide_eq_true rfl] at t1
   repeat (first | refine WS.adm rfl ?_ | refine WS.region (by simp only [EV, TY, lget, h5, h9, h10, h12, h13, k3, callV_10, f1, callV_11, t1, ↓reduceIte, Nat.reduceEqDiff]; with_reducible rfl) ?_)
   refine ret_bool (t := 8) rfl rfl List.nil_prefix rfl ?_
   simp only [EV, ↓reduceIte, Nat.reduceEqDiff, AT]
  ·rintro j fr X ⟨i, w, rfl, hi, h3, h5, h9, h10, h12, h13, h18, hlow, hw⟩ ih last
   have ln := (PArr.arr hm X).len (E := E0) Tryz.underlying31
   by_cases hlt : i < m.length
   ·have hlt' : ((i : Nat) : Int) < ((m.length : Nat) : Int) := by omega
    obtain ⟨a, u, y, fa, i1, i2, f1, f2, i3, i4⟩ := img_at (PArr.arr hm X) i hlt
    have fx := fm.at_ hlt
    have d2 : X[1]? = some (.cells [bv, gv] 30) := by rw [hlow.2 _ (by omega)]; exact d1
    have k4 : opLoad E0 X 27 (.ref 1 0) = some bv := var_ld1 isAggO_27 d2 rfl
    have k4b := k4
    rw [ld_ref isAggO_27] at k4b
    have un := refUnder_ok (i3.is X) (hb.is X) fx.1.1 og.1.1
    have iinc := wrap_inc i (by have := fm.1; omega)
    have hnext : elsew g (m.take (i + 1)) = elsew g (m.take i) ++ (if underB m[i].1 g.1 then [] else [m[i]]) := by
     unfold elsew
     rw [List.take_succ_eq_append_getElem hlt, List.filter_append]
     cases hc : underB m[i].1 g.1 <;> simp [hc]
    have hlen : (l.map (strip g.2) ++ elsew g (m.take i)).length + 1 ≤ 1048577 := by
     have h1 := List.length_filter_le (fun x : Img => !underB x.1 g.1) (m.take i)
     rw [List.length_take] at h1
     unfold elsew
     rw [List.length_append, List.length_map]
     omega
    generalize m[i] = x at i3 i4 fx un hnext
    repeat (first | refine WS.adm rfl ?_ | refine WS.region (by simp only [EV, TY, h3, h18, ln, hlt', ↓reduceIte, Nat.reduceEqDiff]; with_reducible rfl) ?_)
    refine WS.ct0 ?_
    repeat refine WS.adm rfl ?_
    refine WS.drawb (b := [0, 0, 3, 7, 15, 0, 32, 127, 255]) (by kernel_rfl) (by simp only [DL, isEff, isRead, Nat.reduceAdd, EV, TY,  lget, h3, h5, h18, i1, f1, f2, k4, k4b, fa30_0, callV_20, un, Bool.false_or, Nat.reducePow, Nat.reduceDiv, Nat.reduceMod, ↓reduceIte, Nat.reduceEqDiff]; with_reducible rfl) ?_
    cases hc : underB x.1 g.1 with
    | true =>
     rw [hc, if_pos rfl, List.append_nil] at hnext
     repeat (first | refine WS.adm rfl ?_ | refine WS.region (by simp only [EV, TY, lget, hc, Bool.not_true, ↓reduceIte, Nat.reduceEqDiff]; with_reducible rfl) ?_)
     refine WS.cond_false (by simp only [EV, hc, ↓reduceIte, Nat.reduceEqDiff]) ?_
     repeat (first | refine WS.adm rfl ?_ | refine WS.region (by simp only [EV, TY, h18, iinc, ↓reduceIte, Nat.reduceEqDiff]; with_reducible rfl) ?_)
     refine ih (m.length - (i + 1)) _ _ (by omega) ⟨i + 1, w, rfl, by omega, ?_, ?_, ?_, ?_, ?_, ?_, ?_, hlow, by rw [hnext]; exact hw⟩
     iterate 7 simp only [EV, h3, h5, h9, h10, h12, h13, ↓reduceIte, Nat.reduceEqDiff, AT]
    | false =>
     rw [hc, if_neg (by simp), ] at hnext
     obtain ⟨w2, T2, q1, q2, q3, q4⟩ := hw.put hlow.1 i3 (a := y) (.inl i4) hlen
     repeat (first | refine WS.adm rfl ?_ | refine WS.region (by simp only [EV, TY, lget, hc, Bool.not_false, ↓reduceIte, Nat.reduceEqDiff]; with_reducible rfl) ?_)
     refine WS.cond_true (by simp only [EV, hc, ↓reduceIte, Nat.reduceEqDiff]) ?_
     repeat (first | refine WS.adm rfl ?_ | refine WS.region (by simp only [EV, TY, lget, h3, h13, h18, i1, i2, q1, q2, iinc, ↓reduceIte, Nat.reduceEqDiff]; with_reducible rfl) ?_)
     refine ih (m.length - (i + 1)) _ _ (by omega) ⟨i + 1, w2, rfl, by omega, ?_, ?_, ?_, ?_, ?_, ?_, ?_, hlow.trans q4, by rw [hnext, ← List.append_assoc]; exact q3⟩
     iterate 7 simp only [EV, h3, h5, h9, h10, h12, ↓reduceIte, Nat.reduceEqDiff, AT]
   ·have hlt' : ¬ ((i : Nat) : Int) < ((m.length : Nat) : Int) := by omega
    repeat (first | refine WS.adm rfl ?_ | refine WS.region (by simp only [EV, TY, h3, h18, ln, hlt', ↓reduceIte, Nat.reduceEqDiff]; with_reducible rfl) ?_)
    refine WS.cf0 ?_
    refine WS.exit rfl ?_
    have : i = m.length := by omega
    subst this
    rw [List.take_length] at hw
    refine last _ _ ⟨w, ?_, ?_, ?_, ?_, ?_, hlow, hw⟩
    iterate 5 simp only [EV, h5, h9, h10, h12, h13, ↓reduceIte, Nat.reduceEqDiff, AT]
 ·rintro j fr X ⟨i, w, rfl, hi, h2, h3, h5, h9, h10, h12, h13, h14, hlow, hw⟩ ih last
  have ln := (PArr.arr hl X).len (E := E0) Tryz.underlying31
  by_cases hlt : i < l.length
  ·have hlt' : ((i : Nat) : Int) < ((l.length : Nat) : Int) := by omega
   obtain ⟨a, u, y, fa, i1, _, f1, f2, i3, _⟩ := img_at (PArr.arr hl X) i hlt
   have fx := fl.at_ hlt
   have nx := on _ (List.getElem_mem hlt)
   have htk : (l.take (i + 1)).map (strip g.2) = (l.take i).map (strip g.2) ++ [strip g.2 l[i]] := by
    rw [List.take_succ_eq_append_getElem hlt, List.map_append]
    rfl
   have hlen : ((l.take i).map (strip g.2)).length + 1 ≤ 1048577 := by
    rw [List.length_map, List.length_take]
    omega
   have iinc := wrap_inc i (by have := fl.1; omega)
   have bd := build_52n (flatV.solid i3.flat) (flatV.vcells i3.flat)
   have s1 := var_al (E := E0) zeroV_52 X
   have s2 := var_st (E := E0) (e := 52) tsize_52 X (zs := [.slN, .slN]) (xs := [u, .slN]) rfl rfl
   have hY : (X ++ [Ob.cells [u, .slN] 52])[X.length]? = some (.cells [u, .slN] 52) := getS0 _
   have lowY : Low X.length X (X ++ [.cells [u, .slN] 52]) := Low.app (Nat.le_refl _) _
   have hlY : (X ++ [Ob.cells [u, .slN] 52]).length = X.length + 1 := by simp
   generalize hYe : X ++ [Ob.cells [u, .slN] 52] = Y at s2 hY lowY hlY
   have hxl : l[i].2.length ≤ 1048576 := fx.2.1
   repeat (first | refine WS.adm rfl ?_ | refine WS.region (by simp only [EV, TY, h2, h14, ln, hlt', ↓reduceIte, Nat.reduceEqDiff]; with_reducible rfl) ?_)
   refine WS.ct0 ?_
   repeat (first | refine WS.adm rfl ?_ | refine WS.region (by simp only [EV, TY, lget, h2, h14, i1, f1, f2, bd, s1, s2, ↓reduceIte, Nat.reduceEqDiff]; with_reducible rfl) ?_)
   refine WS.loopB (fun j fr Z => ∃ k c, j = l[i].2.length - k ∧ k ≤ l[i].2.length ∧ lget fr 2 = v ∧ lget fr 3 = v' ∧ lget fr 5 = .ref 1 0 ∧ lget fr 9 = .bool true ∧ lget fr 10 = .ref b 0 ∧ lget fr 12 = w1 ∧ lget fr 13 = w ∧ lget fr 14 = .int .i64 (i : Nat) ∧ lget fr 15 = .ref X.length 0 ∧ lget fr 16 = .int .i64 (k : Nat) ∧ Low X.length X Z ∧ Z[X.length]? = some (.cells [u, c] 52) ∧ Lst (X.length + 1) 55 2 rAttr Z c ((l[i].2.take k).filter fun t => inT g.2 t.1))
    (fun fr Z => ∃ c, lget fr 2 = v ∧ lget fr 3 = v' ∧ lget fr 5 = .ref 1 0 ∧ lget fr 9 = .bool true ∧ lget fr 10 = .ref b 0 ∧ lget fr 12 = w1 ∧ lget fr 13 = w ∧ lget fr 14 = .int .i64 (i : Nat) ∧ lget fr 15 = .ref X.length 0 ∧ Low X.length X Z ∧ Z[X.length]? = some (.cells [u, c] 52) ∧ Lst (X.length + 1) 55 2 rAttr Z c (strip g.2 l[i]).2) (j := l[i].2.length) ?_ ?_ ?_
   ·refine ⟨0, .slN, by omega, by omega, ?_, ?_, ?_, ?_, ?_, ?_, ?_, ?_, ?_, ?_, lowY, hY, Lst.nil _ _ _ _ _⟩
    iterate 9 simp only [EV, h2, h3, h5, h9, h10, h12, h13, h14, ↓reduceIte, Nat.reduceEqDiff, AT]
    ·simp only [EV, lget, ↓reduceIte, Nat.reduceEqDiff, AT]
     try rfl
   ·rintro fr Z ⟨c, h2, h3, h5, h9, h10, h12, h13, h14, h15, lowZ, hZ, hc⟩
    have l1 : opLoad E0 Z 52 (.ref X.length 0) = some (.agg [u, c]) := var_ld isAggO_52 tsize_52 hZ rfl
    have hZl := lt_of_get hZ
    have hTX := hlow.1
    obtain ⟨w2, T2, q1, q2, q3, q4⟩ := (hw.low lowZ).put (n0 := T.length) (x := strip g.2 l[i]) (u := u) (a := c) (by omega) i3 (by
     rcases hc with ⟨h1, h2⟩ | ⟨qq, ds, p1, p2, p3, p4⟩
     ·left
      rw [h1, h2]
      exact PArr.nil
     ·exact .inr ⟨qq, ds, fun n => hw.ne (by omega) n, p2, p3, p4⟩) hlen
    repeat (first | refine WS.adm rfl ?_ | refine WS.region (by simp only [EV, TY, lget, h13, h15, l1, q1, q2, ↓reduceIte, Nat.reduceEqDiff]; with_reducible rfl) ?_)
    repeat (first | refine WS.adm rfl ?_ | refine WS.region (by simp only [EV, TY, h14, iinc, ↓reduceIte, Nat.reduceEqDiff]; with_reducible rfl) ?_)
    refine ih (l.length - (i + 1)) _ _ (by omega) ⟨i + 1, w2, rfl, by omega, ?_, ?_, ?_, ?_, ?_, ?_, ?_, ?_, (hlow.trans ⟨by omega, fun p hp => lowZ.2 p (by omega)⟩).trans q4, by rw [htk]; exact q3⟩
    iterate 8 simp only [EV, h2, h3, h5, h9, h10, h12, ↓reduceIte, Nat.reduceEqDiff, AT]
   ·rintro j fr Z ⟨k, c, rfl, hkl, h2, h3, h5, h9, h10, h12, h13, h14, h15, h16, lowZ, hZ, hc⟩ ih2 last2
    obtain ⟨a', ca, ra, z1, z2, _, u', y', rfl, z3, z4⟩ := (PArr.arr hl Z).at_ (E := E0) Tryz.underlying31 tsize_52 i hlt
    rw [i1] at z1
    obtain rfl := Option.some.inj z1
    obtain ⟨fb, f3, f4⟩ := img_attrs z2
    have n5 := (PArr.arr z4 Z).len (E := E0) Tryz.underlying50
    by_cases hlk : k < l[i].2.length
    ·have hlk' : ((k : Nat) : Int) < ((l[i].2.length : Nat) : Int) := by omega
     obtain ⟨at_, z, fc, j1, j2, j3, j4, hz⟩ := attr_at (PArr.arr z4 Z) k hlk
     have hx1 := nx _ (List.getElem_mem hlk)
     have kinc := wrap_inc k (by omega)
     have d2 : Z[1]? = some (.cells [bv, gv] 30) := by rw [lowZ.2 _ (by have := hlow.1; omega), hlow.2 _ (by omega)]; exact d1
     have k4 : opLoad E0 Z 28 (.ref 1 1) = some gv := var_ld1 isAggO_28 d2 rfl
     have k4b := k4
     rw [ld_ref isAggO_28] at k4b
     have nm := named_ok (S := Z) hgr og.2 l[i].2[k].1 hx1
     have hnext : ((l[i].2.take (k + 1)).filter fun t => inT g.2 t.1) = ((l[i].2.take k).filter fun t => inT g.2 t.1) ++ (if inT g.2 l[i].2[k].1 then [l[i].2[k]] else []) := by
      rw [List.take_succ_eq_append_getElem hlk, List.filter_append]
      cases hq : inT g.2 l[i].2[k].1 <;> simp [hq]
     have hfl : ((l[i].2.take k).filter fun t => inT g.2 t.1).length + 1 ≤ 1048577 := by
      have h1 := List.length_filter_le (fun t : Attr => inT g.2 t.1) (l[i].2.take k)
      rw [List.length_take] at h1
      omega
     generalize l[i].2[k] = x at j2 j4 hz hx1 nm hnext
     repeat (first | refine WS.adm rfl ?_ | refine WS.region (by simp only [EV, TY, h2, h14, h16, i1, f3, f4, n5, hlk', ↓reduceIte, Nat.reduceEqDiff]; with_reducible rfl) ?_)
     refine WS.ct0 ?_
     repeat refine WS.adm rfl ?_
     refine WS.drawb (b := [0, 1, 0, 0, 12, 28, 60, 0, 252, 508, 1020, 2047, 4095]) (by kernel_rfl) (by simp only [DL, isEff, isRead, Nat.reduceAdd, EV, TY,  lget, h2, h5, h14, h16, i1, f3, f4, j1, j3, j4, k4, k4b, fa30_1, callV_19, nm, Bool.false_or, Nat.reducePow, Nat.reduceDiv, Nat.reduceMod, ↓reduceIte, Nat.reduceEqDiff]; with_reducible rfl) ?_
     cases hq : inT g.2 x.1 with
     | false =>
      rw [hq, if_neg (by simp), List.append_nil] at hnext
      repeat (first | refine WS.adm rfl ?_ | refine WS.region (by simp only [EV, TY, lget, hq, ↓reduceIte, Nat.reduceEqDiff]; with_reducible rfl) ?_)
      refine WS.cond_false (by simp only [EV, hq, ↓reduceIte, Nat.reduceEqDiff]) ?_
      repeat (first | refine WS.adm rfl ?_ | refine WS.region (by simp only [EV, TY, h16, kinc, ↓reduceIte, Nat.reduceEqDiff]; with_reducible rfl) ?_)
      refine ih2 (l[i].2.length - (k + 1)) _ _ (by omega) ⟨k + 1, c, rfl, by omega, ?_, ?_, ?_, ?_, ?_, ?_, ?_, ?_, ?_, ?_, lowZ, hZ, by rw [hnext]; exact hc⟩
      iterate 10 simp only [EV, h2, h3, h5, h9, h10, h12, h13, h14, h15, ↓reduceIte, Nat.reduceEqDiff, AT]
     | true =>
      rw [hq, if_pos rfl] at hnext
      have hZl := lt_of_get hZ
      have m1 : opLoad E0 Z 50 (.ref X.length 1) = some c := var_ld1 isAggO_50 hZ rfl
      have m1b := m1
      rw [ld_ref isAggO_50] at m1b
      have m1c : opLoad E0 (Z ++ [Ob.cells [.str x.1, z] 55]) 50 (.ref X.length 1) = some c := var_ld1 isAggO_50 (get_more hZ _) rfl
      rw [ld_ref isAggO_50] at m1c
      obtain ⟨c2, T2, q1, q2, q3, q4⟩ := hc.put ety_50 (by omega) (ofC.agg [.str x.1, z]) rfl (a := x) ⟨z, rfl, hz⟩ (by omega) (by omega)
      have hT2 : T2[X.length]? = some (.cells [u, c] 52) := by rw [q4.2 _ (by omega)]; exact hZ
      obtain ⟨sh1, sh2⟩ := lst_shape q3
      have m2 := var_set1 (E := E0) (t := 50) tsize_50 hT2 (o := 1) (by simp) sh1 sh2
      have hT2l := lt_of_get hT2
      repeat (first | refine WS.adm rfl ?_ | refine WS.region (by simp only [EV, TY, lget, hq, ↓reduceIte, Nat.reduceEqDiff]; with_reducible rfl) ?_)
      refine WS.cond_true (by simp only [EV, hq, ↓reduceIte, Nat.reduceEqDiff]) ?_
      repeat refine WS.adm rfl ?_
      refine WS.drawb (b := [0, 1, 0, 0, 12, 28, 60, 0, 252, 508, 1020, 2047, 4095, 8191]) (by kernel_rfl) (by simp only [DL, isEff, isRead, Nat.reduceAdd, EV, TY,  lget, h2, h14, h15, h16, i1, f3, f4, j1, j2, m1, m1b, m1c, Option.map_some, fa52_1, q1, q2, m2, Bool.false_or, Nat.reducePow, Nat.reduceDiv, Nat.reduceMod, ↓reduceIte, Nat.reduceEqDiff]; with_reducible rfl) ?_
      repeat (first | refine WS.adm rfl ?_ | refine WS.region (by simp only [EV, TY, h16, kinc, ↓reduceIte, Nat.reduceEqDiff]; with_reducible rfl) ?_)
      refine ih2 (l[i].2.length - (k + 1)) _ _ (by omega) ⟨k + 1, c2, rfl, by omega, ?_, ?_, ?_, ?_, ?_, ?_, ?_, ?_, ?_, ?_, (lowZ.trans ⟨by omega, fun p hp => q4.2 p (by omega)⟩).trans (Low.set (by omega) (Nat.le_refl _)), by rw [List.getElem?_set_self hT2l]; rfl, by rw [hnext]; exact lst_oth q3 (Nat.lt_succ_self _) (Oth.here (Nat.le_refl _) _) (Nat.le_refl _)⟩
      iterate 10 simp only [EV, h2, h3, h5, h9, h10, h12, h13, h14, h15, ↓reduceIte, Nat.reduceEqDiff, AT]
    ·have hlk' : ¬ ((k : Nat) : Int) < ((l[i].2.length : Nat) : Int) := by omega
     repeat (first | refine WS.adm rfl ?_ | refine WS.region (by simp only [EV, TY, h2, h14, h16, i1, f3, f4, n5, hlk', ↓reduceIte, Nat.reduceEqDiff]; with_reducible rfl) ?_)
     refine WS.cf0 ?_
     refine WS.exit rfl ?_
     have : k = l[i].2.length := by omega
     subst this
     rw [List.take_length] at hc
     refine last2 _ _ ⟨c, ?_, ?_, ?_, ?_, ?_, ?_, ?_, ?_, ?_, lowZ, hZ, hc⟩
     iterate 9 simp only [EV, h2, h3, h5, h9, h10, h12, h13, h14, h15, ↓reduceIte, Nat.reduceEqDiff, AT]
  ·have hlt' : ¬ ((i : Nat) : Int) < ((l.length : Nat) : Int) := by omega
   repeat (first | refine WS.adm rfl ?_ | refine WS.region (by simp only [EV, TY, h2, h14, ln, hlt', ↓reduceIte, Nat.reduceEqDiff]; with_reducible rfl) ?_)
   refine WS.cf0 ?_
   refine WS.exit rfl ?_
   have : i = l.length := by omega
   subst this
   rw [List.take_length] at hw
   refine last _ _ ⟨w, ?_, ?_, ?_, ?_, ?_, ?_, hlow, hw⟩
   iterate 6 simp only [EV, h3, h5, h9, h10, h12, h13, ↓reduceIte, Nat.reduceEqDiff, AT]
end Go.Proofs.YtmmjlgocihhkcaaGreatDoor
namespace Go.Proofs.YtmmjlgocihhkcaaGreatDoor.changesConfined
open Go Go.Vm Go.ChangeShapes Go.WideShapes Go.ChangeAt Go.RowKit
set_option maxRecDepth 100000
theorem lets (t : TypeId) (ht : t ∈ Tryz.f6.params.toList) : Tryz.prog.readableRec t = true ∧ t < Tryz.prog.types.size := by
 rw [Tryz.params6] at ht
 simp only [List.mem_cons, List.not_mem_nil, or_false] at ht
 rcases ht with rfl | rfl | rfl | rfl
 ·exact ⟨by kernel_rfl, of_decide_eq_true (by kernel_rfl)⟩
 ·exact ⟨by kernel_rfl, of_decide_eq_true (by kernel_rfl)⟩
 ·exact ⟨by kernel_rfl, of_decide_eq_true (by kernel_rfl)⟩
 ·exact ⟨by kernel_rfl, of_decide_eq_true (by kernel_rfl)⟩
theorem contract (H : Type) (enc : TypeId × Value → H) (W : World) (base : Nat) (args : Array Value) (ds gs : List (DataW H)) (before : List MemPlace)
  (hval : ∀ (j : Nat) t v, Tryz.f6.params[j]? = some t → args[j]? = some v → Value.okWide Tryz.prog W .any base t v)
  (hW : DataW.Whole enc Tryz.prog Tryz.f6.params.toList Rows.changesConfinedSpec.vars false W args.toList ds gs before) (hk : Rows.uptoSmall H (ds ++ gs) = true) :
  Calls Tryz.prog 6 args W fun e W' => ∃ v, e = .returned v ∧ Rows.changesConfinedSpec.post enc Tryz.prog Tryz.f6 false true false false W args v W' := by
 have hW' := hW
 obtain ⟨p, q, hA0, hV, rfl, hfz, hnd⟩ := hW
 have hA : DataW.TrodAll enc Tryz.prog W 0 (fun _ => true) true Tryz.f6.params.toList args.toList ds p := hA0
 rw [Tryz.params6] at hA hval
 obtain ⟨v0, vs0, d0, ds0, p0, q0, hargs, rfl, rfl, h0, r0⟩ := trodAll_cons hA
 obtain ⟨v1, vs1, d1, ds1, p1, q1, rfl, rfl, rfl, h1, r1⟩ := trodAll_cons r0
 obtain ⟨v2, vs2, d2, ds2, p2, q2, rfl, rfl, rfl, h2, r2⟩ := trodAll_cons r1
 obtain ⟨v3, vs3, d3, ds3, p3, q3, rfl, rfl, rfl, h3, r3⟩ := trodAll_cons r2
 obtain ⟨rfl, rfl, rfl⟩ := trodAll_nil r3
 obtain rfl : args = #[v0, v1, v2, v3] := by cases args; simp_all
 obtain ⟨rfl, rfl⟩ := trodVars_none hV
 have hb : Rows.uptoBulkAll [d0, d1, d2, d3] ≤ 1048576 := by
  have := of_decide_eq_true hk
  simpa using this
 simp only [Rows.uptoBulkAll, Rows.uptoBulk] at hb
 obtain ⟨u0, n0, hu0, hn0, hok0⟩ := open_sch (hval 0 25 v0 rfl rfl) h0 (fun x hx => by simpa using hW'.lt x (by simp [hx])) (by omega)
 obtain ⟨u1, n1, hu1, hn1, hok1⟩ := open_agr (hval 1 30 v1 rfl rfl) h1 (fun x hx => by simpa using hW'.lt x (by simp [hx])) (by omega)
 obtain ⟨u2, n2, hu2, hn2, hok2⟩ := open_imgn (hval 2 31 v2 rfl rfl) h2 (fun x hx => by simpa using hW'.lt x (by simp [hx])) (by omega)
 obtain ⟨u3, n3, hu3, hn3, hok3⟩ := open_imgn (hval 3 31 v3 rfl rfl) h3 (fun x hx => by simpa using hW'.lt x (by simp [hx])) (by omega)
 obtain ⟨k, hcall⟩ := vrun_some (law6_ok hn0 hn1 hn2 hn3 hok0 hok1 hok2 hok3)
 exact law_contract (callOk0 k) (fun _ => rfl) rfl laidOut lets rfl Tryz.underlying4 rfl rfl hW' (vs := [.agg u0, .agg u1, u2, u3]) ⟨_, _, rfl, hu0, ⟨_, _, rfl, hu1, ⟨_, _, rfl, hu2, ⟨_, _, rfl, hu3, rfl⟩⟩⟩⟩ hcall
noncomputable abbrev theWorld (os : Os) : World := World.laidAll Tryz.prog os Rows.changesConfinedUptoRow.laid
theorem laid_met (os : Os) : laidMet Tryz.prog Rows.changesConfinedUptoRow.laid ((theWorld os).forCall (fun _ _ => 0) ⟨#[], #[.agg #[.slice none 0 0, .slice none 0 0], .agg #[.slice none 0 0, .slice none 0 0], .slice none 0 0, .slice none 0 0], []⟩).memory :=
 laidMet_laidAll _ (by kernel_rfl) (by kernel_rfl)
theorem reads (os : Os) {H : Type} (enc : TypeId × Value → H) : ∃ places, DataW.whole enc Tryz.prog ((theWorld os).forCall (fun _ _ => 0) ⟨#[], #[.agg #[.slice none 0 0, .slice none 0 0], .agg #[.slice none 0 0, .slice none 0 0], .slice none 0 0, .slice none 0 0], []⟩).memory Tryz.f6.params.toList Rows.changesConfinedSpec.vars false #[Value.agg #[.slice none 0 0, .slice none 0 0], Value.agg #[.slice none 0 0, .slice none 0 0], Value.slice none 0 0, Value.slice none 0 0].toList 8 = some ([.agg [.nil, .nil], .agg [.nil, .nil], .nil, .nil], [], places) :=
 ⟨[], by kernel_rfl⟩
theorem liftedUpto (os : Os) (started : os.Started) (H : Type) (enc : TypeId × Value → H) (F : Stop.Interp) :
  ReturnsInHanded {} Tryz.checked os 6 .any ((Rows.OpenSpec.upto Rows.changesConfinedSpec).preRow enc Tryz.prog Tryz.f6 Rows.changesConfinedUptoRow.domain false Rows.changesConfinedUptoRow.laid) (((Rows.OpenSpec.upto Rows.changesConfinedSpec).at F).post enc Tryz.prog Tryz.f6 false true false false) := by
 obtain ⟨places, hx⟩ := reads os enc
 refine returnsInHanded_of_row (C := Tryz.checked) (s := Rows.OpenSpec.upto Rows.changesConfinedSpec) own started (by kernel_rfl) Tryz.func6
  (witness_row_at (enc := enc) (C := Tryz.checked) false (theWorld os) #[.agg #[.slice none 0 0, .slice none 0 0], .agg #[.slice none 0 0, .slice none 0 0], .slice none 0 0, .slice none 0 0] (World.laidAll_os _ _ _) (by kernel_rfl) (by kernel_rfl) (by kernel_rfl)
   (OpenSpec.preRow_of_cond 8 hx (by kernel_rfl) (fun k hk => by cases hk; kernel_rfl) (by kernel_rfl) (by first | exact laid_met os | (rw [MakeChecks.laidMetH_plain _ _ _ (by kernel_rfl)]; exact laid_met os)))) ?_
 intro W base args ds gs before hval hW _ hcond _ hL _ _
 exact contract H enc W base args ds gs before hval hW (hcond _ rfl)
theorem saidUpto : Rows.ChangesConfinedUptoSaid :=
 OpenClaim.holds_of_cond 6 Tryz.f6 rfl rfl rfl rfl rfl rfl rfl ⟨rfl, rfl, rfl, rfl, rfl⟩ rfl rfl rfl rfl rfl (by kernel_rfl) Tryz.func6 (by kernel_rfl)
  (of_decide_eq_true (by kernel_rfl)) (by unfold Func.isWrapper; first | (rw [if_pos (by decide +kernel)]; kernel_rfl) | (rw [if_neg (by decide +kernel)]; exact ⟨rfl, rfl⟩))
  (fun os started H enc _ F => by rw [OpenClaim.pre_eq_preRow]; exact liftedUpto os started H enc F)
theorem plain (f : FuncId) (fn : Func) (hf : Tryz.pinned.checked.prog.funcNamed "palatine/palatinelaw19.ChangesConfined" = some f) (hfn : Tryz.pinned.checked.prog.funcs[f]? = some fn) :
  true = Tryz.pinned.checked.prog.looks [] ∧ ∀ (j : Nat) t, fn.params[j]? = some t → Tryz.pinned.checked.prog.wantsStandIn t = false := by
 obtain rfl : f = 6 := Option.some.inj ((show Tryz.prog.funcNamed "palatine/palatinelaw19.ChangesConfined" = some 6 by kernel_rfl).symm.trans hf) |>.symm
 obtain rfl : fn = Tryz.f6 := (Option.some.inj (Tryz.func6.symm.trans hfn)).symm
 refine ⟨by kernel_rfl, fun j t ht => ?_⟩
 rw [Tryz.params6] at ht
 have hm := Array.mem_of_getElem? ht
 have hm' : t ∈ ([25, 30, 31, 31] : List TypeId) := by simpa using hm
 simp only [List.mem_cons, List.not_mem_nil, or_false] at hm'
 rcases hm' with rfl | rfl | rfl | rfl
 ·exact (show Tryz.prog.wantsStandIn 25 = false by kernel_rfl)
 ·exact (show Tryz.prog.wantsStandIn 30 = false by kernel_rfl)
 ·exact (show Tryz.prog.wantsStandIn 31 = false by kernel_rfl)
 ·exact (show Tryz.prog.wantsStandIn 31 = false by kernel_rfl)
theorem cardUpto : Rows.ChangesConfinedUptoCardSaid :=
 Claim7.holds_tied_plain_at .later [] _ _ _ _ saidUpto (fun _ h => by cases h) (by kernel_rfl) (fun _ h => by cases h) changesConfinedUpto_row_tie rfl ⟨rfl, rfl⟩ (by kernel_rfl) rfl plain (by kernel_rfl)
end Go.Proofs.YtmmjlgocihhkcaaGreatDoor.changesConfined
