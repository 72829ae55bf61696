import Derived.Test.YtmmjlgocihhkcaaGreatDoorPartQ
set_option linter.all false
namespace Go.Proofs.YtmmjlgocihhkcaaGreatDoor
open Go Go.Vm
set_option maxRecDepth 100000
set_option maxHeartbeats 8000000
def ixF (o : Option Nat) : Int := match o with | some i => ((i : Nat) : Int) | none => -1
theorem str_at {S : Store} {v : V} {l : List (List UInt8)} (h : Arr 1 rS S v l) (i : Nat) (hi : i < l.length) : ∃ a, opIndexAddr E0 28 v (.int .i64 (i : Int)) = some a ∧ opLoad E0 S 9 a = some (.str l[i]) := by
 obtain ⟨a, x, h1, h2, h3⟩ := h.ld1 (E := E0) Tryz.underlying28 tsize_9 isAggO_9 i hi
 obtain rfl : x = .str l[i] := by
  have : [x] = [V.str l[i]] := h3
  simpa using this
 exact ⟨a, h1, h2⟩
theorem IndexFunc_ok {S : Store} {v f : V} {l : List (List UInt8)} (h : Arr 1 rS S v l) (hl : l.length ≤ 1048576) (p : List UInt8 → Bool) (hf : ∀ s ∈ l, callV E0 (vrun E0) f [.str s] S = some (.bool (p s), S)) :
  vrun E0 (.fn 105) [v, f] S = some (.int .i64 (ixF (l.findIdx? p)), S) := by
 refine fn_ws Tryz.func105 rfl ?_
 have ln := h.len (E := E0) Tryz.underlying28
 repeat (first | refine WS.adm rfl ?_ | refine WS.region (by simp only [EV, TY, lget, ln, ↓reduceIte, Nat.reduceEqDiff]; with_reducible rfl) ?_)
 refine WS.loopB (fun j fr U => ∃ i, j = l.length - i ∧ i ≤ l.length ∧ lget fr 0 = v ∧ lget fr 1 = f ∧ lget fr 7 = .int .i64 (l.length : Nat) ∧ lget fr 8 = .int .i64 (i : Nat) ∧ U = S ∧ ∀ s ∈ l.take i, p s = false)
  (fun fr U => U = S ∧ ∀ s ∈ l, p s = false) (j := l.length) ?_ ?_ ?_
 ·refine ⟨0, by omega, by omega, ?_, ?_, ?_, ?_, rfl, fun s hs => by simp at hs⟩
  all_goals
   simp only [EV, lget, ↓reduceIte, Nat.reduceEqDiff, AT]
   try rfl
 ·rintro fr U ⟨rfl, hall⟩
  have hn : l.findIdx? p = none := List.findIdx?_eq_none_iff.2 fun s hs => by simp [hall s hs]
  rw [hn]
  repeat (first | refine WS.adm rfl ?_ | refine WS.r0 ?_)
  refine WS.ret1s (t := 4) rfl rfl (List.prefix_refl _) rfl ?_
  simp only [EV, ↓reduceIte, Nat.reduceEqDiff, AT]
  rfl
 ·rintro j fr U ⟨i, rfl, hi, h0, h1, h7, h8, rfl, hall⟩ ih last
  by_cases hlt : i < l.length
  ·have hlt' : ((i : Nat) : Int) < ((l.length : Nat) : Int) := by omega
   obtain ⟨a, i1, i2⟩ := str_at h i hlt
   have hc := hf l[i] (List.getElem_mem hlt)
   have htk := List.take_succ_eq_append_getElem hlt
   have iinc := wrap_inc i (by omega)
   repeat (first | refine WS.adm rfl ?_ | refine WS.region (by simp only [EV, TY, h7, h8, hlt', ↓reduceIte, Nat.reduceEqDiff]; with_reducible rfl) ?_)
   refine WS.ct0 ?_
   cases hp : p l[i] with
   | true =>
    rw [hp] at hc
    have hn : l.findIdx? p = some i := by
     rw [List.findIdx?_eq_some_iff_getElem]
     refine ⟨hlt, hp, fun j hj => ?_⟩
     have := hall l[j] (List.mem_take_iff_getElem.2 ⟨j, by omega, rfl⟩)
     simp [this]
    rw [hn]
    repeat (first | refine WS.adm rfl ?_ | refine WS.region (by simp only [EV, TY, lget, h0, h1, h8, i1, i2, hc, ↓reduceIte, Nat.reduceEqDiff]; with_reducible rfl) ?_)
    refine WS.ct0 ?_
    repeat (first | refine WS.adm rfl ?_ | refine WS.rl ?_)
    refine WS.ret1s (t := 4) rfl rfl (List.prefix_refl _) rfl ?_
    simp only [EV, ↓reduceIte, Nat.reduceEqDiff, AT]
    rfl
   | false =>
    rw [hp] at hc
    repeat (first | refine WS.adm rfl ?_ | refine WS.region (by simp only [EV, TY, lget, h0, h1, h8, i1, i2, hc, ↓reduceIte, Nat.reduceEqDiff]; with_reducible rfl) ?_)
    refine WS.cf0 ?_
    repeat (first | refine WS.adm rfl ?_ | refine WS.region (by simp only [EV, TY, h8, iinc, ↓reduceIte, Nat.reduceEqDiff]; with_reducible rfl) ?_)
    refine ih (l.length - (i + 1)) _ _ (by omega) ⟨i + 1, rfl, by omega, ?_, ?_, ?_, ?_, rfl, fun s hs => ?_⟩
    iterate 4 simp only [EV, h0, h1, h7, ↓reduceIte, Nat.reduceEqDiff, AT]
    ·rw [htk, List.mem_append, List.mem_singleton] at hs
     rcases hs with hs | rfl
     ·exact hall s hs
     ·exact hp
  ·have hlt' : ¬ ((i : Nat) : Int) < ((l.length : Nat) : Int) := by omega
   repeat (first | refine WS.adm rfl ?_ | refine WS.region (by simp only [EV, TY, h7, h8, hlt', ↓reduceIte, Nat.reduceEqDiff]; with_reducible rfl) ?_)
   refine WS.cf0 ?_
   refine WS.exit rfl ?_
   have : i = l.length := by omega
   subst this
   rw [List.take_length] at hall
   exact last _ _ ⟨rfl, hall⟩
theorem ContainsFunc_ok {S : Store} {v f : V} {l : List (List UInt8)} (h : Arr 1 rS S v l) (hl : l.length ≤ 1048576) (p : List UInt8 → Bool) (hf : ∀ s ∈ l, callV E0 (vrun E0) f [.str s] S = some (.bool (p s), S)) :
  vrun E0 (.fn 65) [v, f] S = some (.bool (l.any p), S) := by
 refine fn_ws Tryz.func65 rfl ?_
 have hi := IndexFunc_ok h hl p hf
 cases hn : l.findIdx? p with
 | some i =>
  rw [hn] at hi
  have ha : l.any p = true := by
   rw [List.findIdx?_eq_some_iff_getElem] at hn
   obtain ⟨h1, h2, _⟩ := hn
   exact List.any_eq_true.2 ⟨l[i], List.getElem_mem h1, h2⟩
  have hg : ((0 : Int) ≤ ((i : Nat) : Int)) := by omega
  simp only [ixF] at hi
  rw [ha]
  repeat (first | refine WS.adm rfl ?_ | refine WS.region (by simp only [EV, TY, lget, callV_105, hi, hg, ↓reduceIte, Nat.reduceEqDiff]; with_reducible rfl) ?_)
  refine ret_bool (t := 4) rfl rfl (List.prefix_refl _) (b := true) rfl ?_
  simp only [EV, hg, ↓reduceIte, Nat.reduceEqDiff, AT]
 | none =>
  rw [hn] at hi
  have ha : l.any p = false := by
   rw [List.findIdx?_eq_none_iff] at hn
   rw [List.any_eq_false]
   intro x hx
   simp [hn x hx]
  have hg : ¬ ((0 : Int) ≤ -1) := by omega
  simp only [ixF] at hi
  rw [ha]
  repeat (first | refine WS.adm rfl ?_ | refine WS.region (by simp only [EV, TY, lget, callV_105, hi, hg, ↓reduceIte, Nat.reduceEqDiff]; with_reducible rfl) ?_)
  refine ret_bool (t := 4) rfl rfl (List.prefix_refl _) (b := false) rfl ?_
  simp only [EV, hg, ↓reduceIte, Nat.reduceEqDiff, AT]
theorem unknown_ok {S : Store} {b q r x : Nat} {tv kv : V} {s : SchD} (h : Sch S b tv kv q r s) (hx : S[x]? = some (.cells [.ref b 0] 33)) (n : List UInt8) (hn : n.length ≤ 1048576) :
  vrun E0 (.fn 103) [.str n, .ref x 0] S = some (.bool (!(typ s n).isSome), S) := by
 refine fn_ws Tryz.func103 rfl ?_
 have l1 : opLoad E0 S 33 (.ref x 0) = some (.ref b 0) := var_ld1 isAggO_33 hx rfl
 have ty := Type2_ok h n hn
 have s1 := var_al (E := E0) zeroV_100 S
 have s2 := var_st (E := E0) (e := 100) tsize_100 S (zs := [.str [], .int .i64 0, .bool false, .bool false, .bool false, .bool false]) (xs := typV (typ s n)) rfl (by cases typ s n <;> rfl)
 repeat (first | refine WS.adm rfl ?_ | refine WS.region (by simp only [EV, TY, lget, l1, callV_64, ty, s1, s2, ↓reduceIte, Nat.reduceEqDiff]; with_reducible rfl) ?_)
 refine WS.ret1s (t := 3) rfl rfl (List.prefix_append _ _) (frz_bool _ _ _) ?_
 simp only [EV, ↓reduceIte, Nat.reduceEqDiff, AT]
theorem zeros_len (n : Nat) : (repl n [V.str []]).length = n := by simp [repl]
theorem grow_app (S : Store) (n : Nat) (h0 : 0 < n) (hn : n ≤ 1048576) : opAppend E0 S [28, 3] .slN (.int .i64 ((n : Nat) : Int)) = some (.slR S.length 0 n n 1, S ++ [.cells (repl n [.str []]) 9]) := by
 have hu : E0.P.underlying 3 = some (.int .i64) := Tryz.underlying3
 have he : elemT E0 28 = some 9 := ety_28.el
 have hb := ety_28.by_
 unfold opAppend
 simp only [he, tsize_9, hb, zeroV_9, hu, Option.bind_eq_bind, Option.bind_some, appendZ]
 rw [if_pos (by simp [solid, vcells]; omega)]
 simp [vcells]
theorem cap_N : opCap E0 28 .slN = some (.int .i64 0) := by kernel_rfl
theorem sl_N : opSlice E0 28 .slN none (some (.int .i64 0)) none = some .slN := by kernel_rfl
theorem sl_R (p n : Nat) : opSlice E0 28 (.slR p 0 n n 1) none (some (.int .i64 ((0 : Nat) : Int))) none = some (.slR p 0 0 n 1) := by
 have hu : E0.P.underlying 28 = some (.slice 9) := Tryz.underlying28
 unfold opSlice
 simp [hu, tsize_9, bnd]
theorem GrowS_ok (S : Store) (n : Nat) (hn : n ≤ 1048576) : (n = 0 ∧ vrun E0 (.fn 135) [.slN, .int .i64 ((n : Nat) : Int)] S = some (.slN, S)) ∨ (0 < n ∧ vrun E0 (.fn 135) [.slN, .int .i64 ((n : Nat) : Int)] S = some (.slR S.length 0 0 n 1, S ++ [.cells (repl n [.str []]) 9])) := by
 have w0 : IntKind.i64.wrap ((0 : Int) - ((0 : Nat) : Int)) = 0 := by decide
 have w1 : IntKind.i64.wrap (((n : Nat) : Int) - 0) = ((n : Nat) : Int) := by rw [wrap_i64 (by omega) (by omega)]; omega
 have n1 : ¬ ((n : Nat) : Int) < 0 := by omega
 rcases Nat.eq_zero_or_pos n with h0 | h0
 ·refine .inl ⟨h0, ?_⟩
  have n2 : ¬ (0 : Int) < ((n : Nat) : Int) := by omega
  refine fn_ws Tryz.func135 rfl ?_
  repeat (first | refine WS.adm rfl ?_ | refine WS.region (by simp only [EV, TY, lget, EV2, cap_N, w0, w1, n1, ↓reduceIte, Nat.reduceEqDiff]; with_reducible rfl) ?_)
  refine WS.cond_false (by simp only [EV, n1, ↓reduceIte, Nat.reduceEqDiff]) ?_
  repeat (first | refine WS.adm rfl ?_ | refine WS.region (by simp only [EV, TY, lget, EV2, cap_N, w0, w1, n1, n2, ↓reduceIte, Nat.reduceEqDiff]; with_reducible rfl) ?_)
  refine WS.cond_false (by simp only [EV, n2, ↓reduceIte, Nat.reduceEqDiff]) ?_
  repeat (first | refine WS.adm rfl ?_ | refine WS.rl ?_)
  refine WS.ret ⟨.inr rfl, [.slN], ?_, rfl⟩
  rw [show Tryz.f135.results.toList = [.tmp 4] from rfl]
  simp only [resultV, EV, ↓reduceIte, Nat.reduceEqDiff]
  rfl
 ·refine .inr ⟨h0, ?_⟩
  have n2 : (0 : Int) < ((n : Nat) : Int) := by omega
  refine fn_ws Tryz.func135 rfl ?_
  have ga := grow_app S n h0 hn
  repeat (first | refine WS.adm rfl ?_ | refine WS.region (by simp only [EV, TY, lget, EV2, cap_N, w0, w1, n1, ↓reduceIte, Nat.reduceEqDiff]; with_reducible rfl) ?_)
  refine WS.cond_false (by simp only [EV, n1, ↓reduceIte, Nat.reduceEqDiff]) ?_
  repeat (first | refine WS.adm rfl ?_ | refine WS.region (by simp only [EV, TY, lget, EV2, cap_N, w0, w1, n1, n2, ↓reduceIte, Nat.reduceEqDiff]; with_reducible rfl) ?_)
  refine WS.cond_true (by simp only [EV, n2, ↓reduceIte, Nat.reduceEqDiff]) ?_
  repeat (first | refine WS.adm rfl ?_ | refine WS.region (by simp only [EV, TY, lget, EV2, cap_N, sl_N, ga, sl_R, ↓reduceIte, Nat.reduceEqDiff]; with_reducible rfl) ?_)
  refine WS.ret ⟨.inr rfl, [.slR S.length 0 0 n 1], ?_, rfl⟩
  rw [show Tryz.f135.results.toList = [.tmp 4] from rfl]
  simp only [resultV, EV, ↓reduceIte, Nat.reduceEqDiff]
  rfl
def rStrs (c : List V) (l : List (List UInt8)) : Prop := ∃ v, c = [v] ∧ PArr 1 rS v l
theorem strss_at {S : Store} {v : V} {L : List (List (List UInt8))} (h : Arr 1 rStrs S v L) (i : Nat) (hi : i < L.length) : ∃ a x, opIndexAddr E0 192 v (.int .i64 (i : Int)) = some a ∧ opLoad E0 S 28 a = some x ∧ PArr 1 rS x L[i] := by
 obtain ⟨a, x, h1, h2, w, h3, h4⟩ := h.ld1 (E := E0) Tryz.underlying192 tsize_28 isAggO_28 i hi
 obtain rfl : x = w := by simpa using h3
 exact ⟨a, x, h1, h2, h4⟩
theorem putAt_cells {S : Store} {b o : Nat} {cs xs : List V} {e : TypeId} (h : S[b]? = some (.cells cs e)) (ho : o + xs.length ≤ cs.length) : putAt S (.ref b o) xs = some (S.set b (.cells (splice cs o xs) e)) := by
 unfold putAt
 simp only [cellsOf, h, Vm.elemOf, Option.bind_eq_bind, Option.bind_some]
 rw [if_pos ho]
theorem app_cap {U : Store} {p k n m : Nat} {cs new : List V} {x : V} (hp : U[p]? = some (.cells cs 9)) (hc : cs.length = n) (hx : sliceCells U x 1 = some (m, new)) (hs : ∀ s, x ≠ .str s) (hm : new.length = m) (h0 : 0 < m) (hk : k + m ≤ n) :
  opAppend E0 U [28, 28] (.slR p 0 k n 1) x = some (.slR p 0 (k + m) n 1, U.set p (.cells (splice cs k new) 9)) := by
 have ha : appended U 1 x = some (m, new) := by
  unfold appended
  split
  ·exact absurd rfl (hs _)
  ·exact hx
 have he : elemT E0 28 = some 9 := ety_28.el
 have hb := ety_28.by_
 have hu : E0.P.underlying 28 = some (.slice 9) := Tryz.underlying28
 have hne : ¬ m = 0 := by omega
 unfold opAppend
 simp only [he, tsize_9, hb, zeroV_9, hu, Option.bind_eq_bind, Option.bind_some, ha]
 simp [solid, vcells, hm, hne, hk, putAt_cells hp (show k + new.length ≤ cs.length by omega)]
def Made (S U : Store) (n : Nat) (w : V) (l : List (List UInt8)) : Prop :=
 Low S.length S U ∧ ((n = 0 ∧ w = .slN ∧ l = []) ∨ (0 < n ∧ ∃ cs, w = .slR S.length 0 l.length n 1 ∧ U[S.length]? = some (.cells cs 9) ∧ cs.length = n ∧ Cs 1 rS (cs.take l.length) l))
theorem Made.add {S U : Store} {n : Nat} {w x : V} {l m : List (List UInt8)} (h : Made S U n w l) (hx : PArr 1 rS x m) (hn : l.length + m.length ≤ n) : ∃ w' U', opAppend E0 U [28, 28] w x = some (w', U') ∧ Made S U' n w' (l ++ m) := by
 have hs := (hx.arr U).notStr
 obtain ⟨new, hc, hsl⟩ := hx.arr U
 have hsc := hsl.cellsOf_
 obtain ⟨hlow, h⟩ := h
 by_cases hm : m = []
 ·subst hm
  have : new = [] := hc
  subst this
  refine ⟨w, U, ety_28.appN hsc hs ?_, hlow, by simpa using h⟩
  rcases h with ⟨_, rfl, _⟩ | ⟨_, cs, rfl, _⟩
  ·exact .inl rfl
  ·exact .inr (.inr ⟨_, _, _, _, _, rfl⟩)
 ·have hmp := List.length_pos_iff.2 hm
  have hnl : new.length = m.length := by have := hc.len; simpa using this
  rcases h with ⟨h0, _⟩ | ⟨h0, cs, rfl, hp, hcl, hcs⟩
  ·omega
  ·refine ⟨_, _, app_cap hp hcl hsc hs hnl hmp hn, hlow.trans (Low.set hlow.1 (Nat.le_refl _)), .inr ⟨h0, splice cs l.length new, ?_, List.getElem?_set_self (lt_of_get hp), ?_, ?_⟩⟩
   ·rw [List.length_append]
   ·rw [splice_eq _ _ _ (by omega)]
    simp; omega
   ·rw [splice_eq _ _ _ (by omega), List.take_append_of_le_length (by simp; omega), List.length_append]
    rw [List.take_of_length_le (by simp; omega)]
    exact hcs.append hc
theorem Concat_ok {S : Store} {v : V} {L : List (List (List UInt8))} (h : Arr 1 rStrs S v L) (hl : L.length ≤ 1048576) (ht : L.flatten.length ≤ 1048576) : ∃ w, vrun E0 (.fn 102) [v] S = some (w, S) ∧ PArr 1 rS w L.flatten := by
 suffices g : ∃ r, (∃ w, r = (w, S) ∧ PArr 1 rS w L.flatten) ∧ vrun E0 (.fn 102) [v] S = some r by
  obtain ⟨r, ⟨w, rfl, h2⟩, h3⟩ := g
  exact ⟨w, h3, h2⟩
 have part : ∀ i, (hi : i < L.length) → (L.take (i + 1)).flatten = (L.take i).flatten ++ L[i] := fun i hi => by rw [List.take_succ_eq_append_getElem hi, List.flatten_append]; simp only [List.flatten_cons, List.flatten_nil, List.append_nil]
 have le : ∀ i, (L.take i).flatten.length ≤ L.flatten.length := fun i => by
  conv => rhs; rw [← List.take_append_drop i L]
  rw [List.flatten_append, List.length_append]
  omega
 refine fn_wsP Tryz.func102 rfl ?_
 have ln := h.len (E := E0) Tryz.underlying192
 repeat (first | refine WS.adm rfl ?_ | refine WS.region (by simp only [EV, TY, lget, ln, ↓reduceIte, Nat.reduceEqDiff]; with_reducible rfl) ?_)
 refine WS.loopB (fun j fr U => ∃ i, j = L.length - i ∧ i ≤ L.length ∧ lget fr 0 = v ∧ lget fr 9 = v ∧ lget fr 10 = .int .i64 (L.length : Nat) ∧ lget fr 11 = .int .i64 (i : Nat) ∧ lget fr 3 = .int .i64 ((L.take i).flatten.length : Nat) ∧ U = S)
  (fun fr U => lget fr 0 = v ∧ lget fr 3 = .int .i64 (L.flatten.length : Nat) ∧ U = S) (j := L.length) ?_ ?_ ?_
 ·refine ⟨0, by omega, by omega, ?_, ?_, ?_, ?_, ?_, rfl⟩
  all_goals
   simp only [EV, lget, ↓reduceIte, Nat.reduceEqDiff, AT]
   try rfl
 ·rintro fr U ⟨h0, h3, rfl⟩
  have mk : ∃ w U', vrun E0 (.fn 135) [.slN, .int .i64 (L.flatten.length : Nat)] U = some (w, U') ∧ Made U U' L.flatten.length w [] := by
   rcases GrowS_ok U L.flatten.length ht with ⟨g1, g2⟩ | ⟨g1, g2⟩
   ·exact ⟨_, _, g2, Low.refl (Nat.le_refl _), .inl ⟨g1, rfl, rfl⟩⟩
   ·exact ⟨_, _, g2, Low.app (Nat.le_refl _) _, .inr ⟨g1, _, rfl, getS0 _, zeros_len _, rfl⟩⟩
  obtain ⟨w, U', g1, g2⟩ := mk
  have ln2 := (h.pre g2.1.pre).len (E := E0) Tryz.underlying192
  repeat (first | refine WS.adm rfl ?_ | refine WS.region (by simp only [EV, TY, lget, h0, h3, callV_135, g1, ln2, ↓reduceIte, Nat.reduceEqDiff]; with_reducible rfl) ?_)
  refine WS.loopB (fun j fr T => ∃ i w, j = L.length - i ∧ i ≤ L.length ∧ lget fr 25 = v ∧ lget fr 26 = .int .i64 (L.length : Nat) ∧ lget fr 27 = .int .i64 (i : Nat) ∧ lget fr 6 = w ∧ Made U T L.flatten.length w (L.take i).flatten)
   (fun fr T => ∃ w, lget fr 6 = w ∧ Made U T L.flatten.length w L.flatten) (j := L.length) ?_ ?_ ?_
  ·refine ⟨0, w, by omega, by omega, ?_, ?_, ?_, ?_, g2⟩
   all_goals
    simp only [EV, lget, h0, ↓reduceIte, Nat.reduceEqDiff, AT]
    try rfl
  ·rintro fr T ⟨w, h6, hlow, hm⟩
   have dn : ∃ w', frz 6 U.length T w = some w' ∧ PArr 1 rS w' L.flatten := by
    rcases hm with ⟨_, rfl, he⟩ | ⟨_, cs, rfl, hp, hcl, hcs⟩
    ·exact ⟨.slN, rfl, by rw [he]; exact PArr.nil⟩
    ·have h2 : Lst U.length 9 1 rS T (.slR U.length 0 L.flatten.length L.flatten.length 1) L.flatten := .inr ⟨U.length, cs, Nat.le_refl _, rfl, hp, by rwa [List.take_of_length_le (by omega)] at hcs⟩
     exact h2.done rS.flat 5
   obtain ⟨w', d1, d2⟩ := dn
   repeat (first | refine WS.adm rfl ?_ | refine WS.region (by simp only [EV, TY, h6, ↓reduceIte, Nat.reduceEqDiff]; with_reducible rfl) ?_)
   refine WS.ret1P (t := 2) rfl rfl ?_ hlow.pre d1 ⟨w', rfl, d2⟩
   simp only [EV, ↓reduceIte, Nat.reduceEqDiff, AT]
  ·rintro j fr T ⟨i, w, rfl, hi, h25, h26, h27, h6, hm⟩ ih last
   by_cases hlt : i < L.length
   ·have hlt' : ((i : Nat) : Int) < ((L.length : Nat) : Int) := by omega
    obtain ⟨a, x, i1, i2, hx⟩ := strss_at (h.pre hm.1.pre) i hlt
    have hp := part i hlt
    obtain ⟨w', T', k1, k2⟩ := hm.add hx (by have := le (i + 1); rw [hp, List.length_append] at this; exact this)
    have iinc := wrap_inc i (by omega)
    repeat (first | refine WS.adm rfl ?_ | refine WS.region (by simp only [EV, TY, h26, h27, hlt', ↓reduceIte, Nat.reduceEqDiff]; with_reducible rfl) ?_)
    refine WS.ct0 ?_
    repeat (first | refine WS.adm rfl ?_ | refine WS.region (by simp only [EV, TY, lget, h25, h27, h6, i1, i2, k1, iinc, ↓reduceIte, Nat.reduceEqDiff]; with_reducible rfl) ?_)
    refine ih (L.length - (i + 1)) _ _ (by omega) ⟨i + 1, w', rfl, by omega, ?_, ?_, ?_, ?_, by rw [hp]; exact k2⟩
    iterate 4 simp only [EV, h25, h26, ↓reduceIte, Nat.reduceEqDiff, AT]
   ·have hlt' : ¬ ((i : Nat) : Int) < ((L.length : Nat) : Int) := by omega
    repeat (first | refine WS.adm rfl ?_ | refine WS.region (by simp only [EV, TY, h26, h27, hlt', ↓reduceIte, Nat.reduceEqDiff]; with_reducible rfl) ?_)
    refine WS.cf0 ?_
    refine WS.exit rfl ?_
    have : i = L.length := by omega
    subst this
    rw [List.take_length] at hm
    refine last _ _ ⟨w, ?_, hm⟩
    simp only [EV, h6, ↓reduceIte, Nat.reduceEqDiff, AT]
 ·rintro j fr U ⟨i, rfl, hi, h0, h9, h10, h11, h3, rfl⟩ ih last
  by_cases hlt : i < L.length
  ·have hlt' : ((i : Nat) : Int) < ((L.length : Nat) : Int) := by omega
   obtain ⟨a, x, i1, i2, hx⟩ := strss_at h i hlt
   have hp := part i hlt
   have lx := (hx.arr U).len (E := E0) Tryz.underlying28
   have hb := le (i + 1)
   have hsum : IntKind.i64.wrap ((((L.take i).flatten.length : Nat) : Int) + ((L[i].length : Nat) : Int)) = (((L.take (i + 1)).flatten.length : Nat) : Int) := by
    rw [hp, List.length_append] at hb ⊢
    rw [wrap_i64 (by omega) (by omega)]
    omega
   have hneg : ¬ (((L.take (i + 1)).flatten.length : Nat) : Int) < 0 := by omega
   have iinc := wrap_inc i (by omega)
   repeat (first | refine WS.adm rfl ?_ | refine WS.region (by simp only [EV, TY, h10, h11, hlt', ↓reduceIte, Nat.reduceEqDiff]; with_reducible rfl) ?_)
   refine WS.ct0 ?_
   repeat (first | refine WS.adm rfl ?_ | refine WS.region (by simp only [EV, TY, lget, h9, h11, h3, i1, i2, lx, hsum, hneg, ↓reduceIte, Nat.reduceEqDiff]; with_reducible rfl) ?_)
   refine WS.cond_false (by simp only [EV, hneg, ↓reduceIte, Nat.reduceEqDiff]) ?_
   repeat (first | refine WS.adm rfl ?_ | refine WS.region (by simp only [EV, TY, h11, iinc, ↓reduceIte, Nat.reduceEqDiff]; with_reducible rfl) ?_)
   refine ih (L.length - (i + 1)) _ _ (by omega) ⟨i + 1, rfl, by omega, ?_, ?_, ?_, ?_, ?_, rfl⟩
   iterate 5 simp only [EV, h0, h9, h10, ↓reduceIte, Nat.reduceEqDiff, AT]
  ·have hlt' : ¬ ((i : Nat) : Int) < ((L.length : Nat) : Int) := by omega
   repeat (first | refine WS.adm rfl ?_ | refine WS.region (by simp only [EV, TY, h10, h11, hlt', ↓reduceIte, Nat.reduceEqDiff]; with_reducible rfl) ?_)
   refine WS.cf0 ?_
   refine WS.exit rfl ?_
   have : i = L.length := by omega
   subst this
   rw [List.take_length] at h3
   refine last _ _ ⟨?_, ?_, rfl⟩
   iterate 2 simp only [EV, h0, h3, ↓reduceIte, Nat.reduceEqDiff, AT]
theorem fa121_3o (p o : Nat) : opFieldAddr E0 121 (.ref p o) 3 = some (.ref p (o + 3)) := by kernel_rfl
theorem fa121_4o (p o : Nat) : opFieldAddr E0 121 (.ref p o) 4 = some (.ref p (o + 4)) := by kernel_rfl
theorem set2 (A r : List V) (n k s m y m' y' : V) : ((A ++ [n, k, s, m, y] ++ r).set (A.length + 3) m').set (A.length + 4) y' = A ++ [n, k, s, m', y'] ++ r := by
 rw [List.append_assoc, List.set_append_right _ _ (by omega), List.set_append_right _ _ (by omega)]
 simp
theorem Cs_set2 {cs : List V} {l : List Cls} (h : Cs 5 rCls cs l) (i : Nat) (hi : i < l.length) {m' y' : V} (hm : PArr 1 rS m' l[i].2.2.2.1) (hy : PArr 1 rS y' l[i].2.2.2.2) : Cs 5 rCls ((cs.set (i * 5 + 3) m').set (i * 5 + 4) y') l := by
 obtain ⟨c, r, e1, e2, m, y, rfl, e3, e4⟩ := h.at_ i hi
 have ht := h.take i (by omega)
 have hd := h.drop (i + 1)
 have hlen := ht.len
 have h5 : (l.take i).length = i := by rw [List.length_take]; omega
 rw [h5] at hlen
 have hr : cs.drop ((i + 1) * 5) = r := by
  have := congrArg (List.drop 5) e1
  rw [List.drop_drop] at this
  rw [show (i + 1) * 5 = i * 5 + 5 by omega, this]
  rfl
 rw [hr] at hd
 have hcs : cs = cs.take (i * 5) ++ [.str l[i].1, .int .i64 l[i].2.1, .str l[i].2.2.1, m, y] ++ r := by
  rw [List.append_assoc, ← e1, List.take_append_drop]
 generalize cs.take (i * 5) = A at *
 subst hcs
 rw [← hlen, set2]
 have h1 : Cs 5 rCls [.str l[i].1, .int .i64 l[i].2.1, .str l[i].2.2.1, m', y'] [l[i]] := Cs.one rfl ⟨m', y', rfl, hm, hy⟩
 have := (ht.append h1).append hd
 rwa [← List.take_succ_eq_append_getElem hi, List.take_append_drop] at this
theorem clone_ok {S : Store} {tv kv : V} {s : SchD} (ht : PArr 6 rTy tv s.1) (hk : PArr 5 rCls kv s.2) (fs : fitS s) : ∃ tw kw, vrun E0 (.fn 27) [.agg [tv, kv]] S = some (.agg [tw, kw], S) ∧ PArr 6 rTy tw s.1 ∧ PArr 5 rCls kw s.2 := by
 suffices g : ∃ r, (∃ tw kw, r = (.agg [tw, kw], S) ∧ PArr 6 rTy tw s.1 ∧ PArr 5 rCls kw s.2) ∧ vrun E0 (.fn 27) [.agg [tv, kv]] S = some r by
  obtain ⟨r, ⟨tw, kw, rfl, h2⟩, h3⟩ := g
  exact ⟨tw, kw, h3, h2⟩
 refine fn_wsP Tryz.func27 rfl ?_
 have hbx : opBox S 25 (.agg [tv, kv]) = some (.ref S.length 0, S ++ [.cells [tv, kv] 25]) := rfl
 have s1 := var_al (E := E0) zeroV_25 (S ++ [.cells [tv, kv] 25])
 have hl1 : (S ++ [Ob.cells [tv, kv] 25]).length = S.length + 1 := by simp
 rw [hl1] at s1
 generalize hU : (S ++ [Ob.cells [tv, kv] 25]) ++ [Ob.cells [.slN, .slN] 25] = U at s1
 have hUl : U.length = S.length + 2 := by rw [← hU]; simp
 have hU1 : U[S.length]? = some (.cells [tv, kv] 25) := by rw [← hU]; exact get_more (getS0 _) _
 have hU2 : U[S.length + 1]? = some (.cells [.slN, .slN] 25) := by rw [← hU, ← hl1]; exact getS0 _
 have hlow : Low S.length S U := by
  rw [← hU]
  exact (Low.app (Nat.le_refl _) _).trans (Low.app (by simp) _)
 obtain ⟨tw, c1, c2⟩ := CloneT_ok (S := U) ht fs.1
 obtain ⟨kw, T, c3, c4, c5⟩ := CloneK_ok (S := U) hk fs.2.1
 have l1 : opLoad E0 U 22 (.ref S.length 0) = some tv := var_ld1 isAggO_22 hU1 rfl
 have l2 : opLoad E0 U 23 (.ref S.length 1) = some kv := var_ld1 isAggO_23 hU1 rfl
 have hT1 : T[S.length]? = some (.cells [tv, kv] 25) := by rw [c5.2 _ (by omega)]; exact hU1
 have hT2 : T[S.length + 1]? = some (.cells [.slN, .slN] 25) := by rw [c5.2 _ (by omega)]; exact hU2
 have l1' : opLoad E0 T 22 (.ref S.length 0) = some tv := var_ld1 isAggO_22 hT1 rfl
 have l2' : opLoad E0 T 23 (.ref S.length 1) = some kv := var_ld1 isAggO_23 hT1 rfl
 have kwS : solid kw = true ∧ vcells kw = [kw] := by rcases c4 with ⟨_, rfl⟩ | ⟨p, cs, _, rfl, _⟩ <;> exact ⟨rfl, rfl⟩
 have t1 := var_set1 (E := E0) tsize_22 hT1 (o := 0) (by simp) (flatV.solid c2.flat) (flatV.vcells c2.flat)
 have hT3 := List.getElem?_set_self (l := T) (a := Ob.cells ([tv, kv].set 0 tw) 25) (lt_of_get hT1)
 have t2 := var_set1 (E := E0) tsize_23 hT3 (o := 1) (by simp) kwS.1 kwS.2
 rw [List.set_set] at t2
 simp only [List.set_cons_zero, List.set_cons_succ] at t1 t2 hT3
 have low2 : Low S.length S (T.set S.length (.cells [tw, kw] 25)) := by
  have : Low S.length S T := ⟨by have := c5.1; omega, fun i hi => by rw [c5.2 i (by omega)]; exact hlow.2 i hi⟩
  exact this.trans (Low.set this.1 (Nat.le_refl _))
 have hV1 : (T.set S.length (.cells [tw, kw] 25))[S.length]? = some (.cells [tw, kw] 25) := List.getElem?_set_self (lt_of_get hT1)
 have hV2 : (T.set S.length (.cells [tw, kw] 25))[S.length + 1]? = some (.cells [.slN, .slN] 25) := by rw [List.getElem?_set_ne (by omega)]; exact hT2
 have hV3 : Lst (S.length + 2) 121 5 rCls (T.set S.length (.cells [tw, kw] 25)) kw s.2 := by
  rw [hUl] at c4
  rcases c4 with h | ⟨p, cs, p1, p2, p3, p4⟩
  ·exact .inl h
  ·exact .inr ⟨p, cs, p1, p2, by rw [List.getElem?_set_ne (by omega)]; exact p3, p4⟩
 generalize hV : T.set S.length (.cells [tw, kw] 25) = V0 at t2 low2 hV1 hV2 hV3
 have l3 : opLoad E0 V0 23 (.ref S.length 1) = some kw := var_ld1 isAggO_23 hV1 rfl
 have l1b := l1
 have l2b := l2
 rw [ld_ref isAggO_22] at l1b
 rw [ld_ref isAggO_23] at l2b
 have ln := hV3.arr.len (E := E0) Tryz.underlying23
 repeat (first | refine WS.adm rfl ?_ | refine WS.region (by simp only [EV, TY, lget, hbx, s1, ↓reduceIte, Nat.reduceEqDiff]; with_reducible rfl) ?_)
 refine WS.drawb (b := [0, 1, 3, 0, 8, 31, 31, 127, 255, 511]) (by kernel_rfl) (by simp only [DL, isEff, isRead, Nat.reduceAdd, EV, TY,  lget, fa25_0, fa25_1, l1, l2, l1b, l2b, callV_56, c1, callV_57, c3, t1, t2, Bool.false_or, Nat.reducePow, Nat.reduceDiv, Nat.reduceMod, ↓reduceIte, Nat.reduceEqDiff]; with_reducible rfl) ?_
 repeat (first | refine WS.adm rfl ?_ | refine WS.region (by simp only [EV, TY, lget, fa25_1, l3, ln, ↓reduceIte, Nat.reduceEqDiff]; with_reducible rfl) ?_)
 refine WS.loopB (fun j fr U => ∃ i, j = s.2.length - i ∧ i ≤ s.2.length ∧ lget fr 1 = .ref S.length 0 ∧ lget fr 2 = .ref (S.length + 1) 0 ∧ lget fr 14 = kw ∧ lget fr 15 = .int .i64 (s.2.length : Nat) ∧ lget fr 16 = .int .i64 (i : Nat) ∧ Low S.length S U ∧ U[S.length]? = some (.cells [tw, kw] 25) ∧ U[S.length + 1]? = some (.cells [.slN, .slN] 25) ∧ Lst (S.length + 2) 121 5 rCls U kw s.2)
  (fun fr U => lget fr 1 = .ref S.length 0 ∧ lget fr 2 = .ref (S.length + 1) 0 ∧ Low S.length S U ∧ U[S.length]? = some (.cells [tw, kw] 25) ∧ U[S.length + 1]? = some (.cells [.slN, .slN] 25) ∧ Lst (S.length + 2) 121 5 rCls U kw s.2) (j := s.2.length) ?_ ?_ ?_
 ·refine ⟨0, by omega, by omega, ?_, ?_, ?_, ?_, ?_, low2, hV1, hV2, hV3⟩
  all_goals
   simp only [EV, lget, ↓reduceIte, Nat.reduceEqDiff, AT]
   try rfl
 ·rintro fr U ⟨h1, h2, low3, g1, g2, g3⟩
  have l4 : opLoad E0 U 25 (.ref S.length 0) = some (.agg [tw, kw]) := var_ld isAggO_25 tsize_25 g1 rfl
  have st := var_set (E := E0) (e := 25) tsize_25 g2 (xs := [tw, kw]) rfl rfl
  have l5 : opLoad E0 (U.set (S.length + 1) (.cells [tw, kw] 25)) 25 (.ref (S.length + 1) 0) = some (.agg [tw, kw]) := var_ld isAggO_25 tsize_25 (List.getElem?_set_self (lt_of_get g2)) rfl
  have g4 : Lst S.length 121 5 rCls (U.set (S.length + 1) (.cells [tw, kw] 25)) kw s.2 := by
   rcases g3 with h | ⟨p, cs, p1, p2, p3, p4⟩
   ·exact .inl h
   ·exact .inr ⟨p, cs, by omega, p2, by rw [List.getElem?_set_ne (by omega)]; exact p3, p4⟩
  obtain ⟨w, d1, d2⟩ := g4.done rCls.flat 4
  have f1 := fun d => flatV.frz (PArr.flat c2) d S.length (U.set (S.length + 1) (.cells [tw, kw] 25))
  repeat (first | refine WS.adm rfl ?_ | refine WS.region (by simp only [EV, TY, h1, h2, l4, st, ↓reduceIte, Nat.reduceEqDiff]; with_reducible rfl) ?_)
  refine WS.retC (a := 2) (u := 25) (v := .agg [tw, kw]) (v' := .agg [tw, w]) rfl rfl ?_ (low3.trans (Low.set low3.1 (by omega))).pre ?_ ⟨tw, w, rfl, c2, d2⟩
  ·simp only [EV, h2, ↓reduceIte, Nat.reduceEqDiff, AT]
   exact l5
  ·rw [frz]
   simp [f1, d1]
 ·rintro j fr U ⟨i, rfl, hi, h1, h2, h14, h15, h16, hlow3, g1, g2, g3⟩ ih last
  by_cases hlt : i < s.2.length
  ·have hlt' : ((i : Nat) : Int) < ((s.2.length : Nat) : Int) := by omega
   have g3' := g3
   rcases g3' with ⟨he, _⟩ | ⟨p, cs, p1, rfl, p3, p4⟩
   ·rw [he] at hlt; simp at hlt
   obtain ⟨a, m, y, i1, i2, hm, hy, _⟩ := cl_at g3.arr i hlt
   have ia := ia_slR_23 p 0 s.2.length s.2.length .i64 i hlt
   rw [i1] at ia
   obtain rfl := Option.some.inj ia
   simp only [Nat.zero_add] at i1 i2
   have ok := fs.2.2.2 _ (List.getElem_mem hlt)
   have hcl := p4.len
   obtain ⟨nm, kd, su, hn⟩ : ∃ nm kd su, (V.agg [.str s.2[i].1, .int .i64 s.2[i].2.1, .str s.2[i].2.2.1, m, y]) = V.agg [nm, kd, su, m, y] := ⟨_, _, _, rfl⟩
   rw [hn] at i2
   have s1 := var_al (E := E0) zeroV_121 U
   have s2 := var_st (E := E0) (e := 121) tsize_121 U (zs := [.str [], .int .i64 0, .str [], .slN, .slN]) (xs := [nm, kd, su, m, y]) rfl rfl
   have hW1 : (U ++ [Ob.cells [nm, kd, su, m, y] 121])[S.length]? = some (.cells [tw, .slR p 0 s.2.length s.2.length 5] 25) := get_more g1 _
   have hWp : (U ++ [Ob.cells [nm, kd, su, m, y] 121])[p]? = some (.cells cs 121) := get_more p3 _
   have k1 : opLoad E0 (U ++ [.cells [nm, kd, su, m, y] 121]) 28 (.ref U.length 3) = some m := var_ld1 isAggO_28 (getS0 _) rfl
   have k2 : opLoad E0 (U ++ [.cells [nm, kd, su, m, y] 121]) 28 (.ref U.length 4) = some y := var_ld1 isAggO_28 (getS0 _) rfl
   have hlow4 : Low S.length S (U ++ [.cells [nm, kd, su, m, y] 121]) := hlow3.trans (Low.app hlow3.1 _)
   have g2' : (U ++ [Ob.cells [nm, kd, su, m, y] 121])[S.length + 1]? = some (.cells [.slN, .slN] 25) := get_more g2 _
   generalize hW : U ++ [Ob.cells [nm, kd, su, m, y] 121] = W at s2 hW1 hWp k1 k2 hlow4 g2'
   obtain ⟨m', c1, c2⟩ := CloneS_ok (S := W) hm (by have := ok.2.2.1; omega)
   obtain ⟨y', c3, c4⟩ := CloneS_ok (S := W) hy (by have := ok.2.2.1; omega)
   have hcs := Cs_set2 p4 i hlt c2 c4
   have l3 : opLoad E0 W 23 (.ref S.length 1) = some (.slR p 0 s.2.length s.2.length 5) := var_ld1 isAggO_23 hW1 rfl
   have t1 := var_set1 (E := E0) tsize_28 hWp (o := i * 5 + 3) (by omega) (flatV.solid c2.flat) (flatV.vcells c2.flat)
   have hW1' : (W.set p (.cells (cs.set (i * 5 + 3) m') 121))[S.length]? = some (.cells [tw, .slR p 0 s.2.length s.2.length 5] 25) := by rw [List.getElem?_set_ne (by omega)]; exact hW1
   have l3' : opLoad E0 (W.set p (.cells (cs.set (i * 5 + 3) m') 121)) 23 (.ref S.length 1) = some (.slR p 0 s.2.length s.2.length 5) := var_ld1 isAggO_23 hW1' rfl
   have t2 := var_set1 (E := E0) tsize_28 (List.getElem?_set_self (l := W) (a := Ob.cells (cs.set (i * 5 + 3) m') 121) (lt_of_get hWp)) (o := i * 5 + 4) (by simp; omega) (flatV.solid c4.flat) (flatV.vcells c4.flat)
   rw [List.set_set] at t2
   have l3b := l3
   have l3c := l3'
   have k1b := k1
   have k2b := k2
   rw [ld_ref isAggO_23] at l3b l3c
   rw [ld_ref isAggO_28] at k1b k2b
   have iinc := wrap_inc i (by have := fs.2.1; omega)
   have ia2 := ia_slR_23 p 0 s.2.length s.2.length .i64 i hlt
   simp only [Nat.zero_add] at ia2
   repeat (first | refine WS.adm rfl ?_ | refine WS.region (by simp only [EV, TY, h15, h16, hlt', ↓reduceIte, Nat.reduceEqDiff]; with_reducible rfl) ?_)
   refine WS.ct0 ?_
   repeat (first | refine WS.adm rfl ?_ | refine WS.region (by simp only [EV, TY, lget, h14, h16, ia2, i2, s1, s2, ↓reduceIte, Nat.reduceEqDiff]; with_reducible rfl) ?_)
   refine WS.drawb (b := [0, 1, 0, 0, 8, 0, 0, 64, 192, 0, 512, 1984, 4039, 8135, 16327, 32767, 65535, 131071]) (by kernel_rfl) (by simp only [DL, isEff, isRead, Nat.reduceAdd, EV, TY,  lget, h1, fa25_1, l3, l3', l3b, l3c, fa121_3, fa121_4, k1, k2, k1b, k2b, callV_58, c1, c3, ia2, fa121_3o, fa121_4o, t1, t2, Bool.false_or, Nat.reducePow, Nat.reduceDiv, Nat.reduceMod, ↓reduceIte, Nat.reduceEqDiff]; with_reducible rfl) ?_
   repeat (first | refine WS.adm rfl ?_ | refine WS.region (by simp only [EV, TY, h16, iinc, ↓reduceIte, Nat.reduceEqDiff]; with_reducible rfl) ?_)
   refine ih (s.2.length - (i + 1)) _ _ (by omega) ⟨i + 1, rfl, by omega, ?_, ?_, ?_, ?_, ?_, hlow4.trans (Low.set hlow4.1 (by omega)), ?_, ?_, .inr ⟨p, _, p1, rfl, List.getElem?_set_self (lt_of_get hWp), hcs⟩⟩
   iterate 5 simp only [EV, h1, h2, h14, h15, ↓reduceIte, Nat.reduceEqDiff, AT]
   ·rw [List.getElem?_set_ne (by omega)]; exact hW1
   ·rw [List.getElem?_set_ne (by omega)]; exact g2'
  ·have hlt' : ¬ ((i : Nat) : Int) < ((s.2.length : Nat) : Int) := by omega
   repeat (first | refine WS.adm rfl ?_ | refine WS.region (by simp only [EV, TY, h15, h16, hlt', ↓reduceIte, Nat.reduceEqDiff]; with_reducible rfl) ?_)
   refine WS.cf0 ?_
   refine WS.exit rfl ?_
   refine last _ _ ⟨?_, ?_, hlow3, g1, g2, g3⟩
   iterate 2 simp only [EV, h1, h2, ↓reduceIte, Nat.reduceEqDiff, AT]
end Go.Proofs.YtmmjlgocihhkcaaGreatDoor
