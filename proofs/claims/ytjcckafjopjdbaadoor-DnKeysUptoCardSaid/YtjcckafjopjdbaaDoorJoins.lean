import Derived.Test.YtjcckafjopjdbaaDoorPartG
import Derived.Test.YtjcckafjopjdbaaDoorAwake
set_option linter.all false
namespace Go.Proofs.YtjcckafjopjdbaaDoor
open Go Go.Vm
set_option maxRecDepth 100000
set_option maxHeartbeats 4000000
set_option linter.unusedSimpArgs false
set_option linter.unusedVariables false
/-! ### the plain law: a text behind another one, with a sign between -/
theorem escS_ext (s b : List UInt8) (h : (escS s).2 ≠ 0) : escS (s ++ b) = escS s := by
  have hl := escS_le s h
  have g1 : (s ++ b).getD 1 0 = s.getD 1 0 := by
    simp only [List.getD_eq_getElem?_getD]
    rw [List.getElem?_append_left (by omega)]
  by_cases h1 : 1 < s.length ∧ isIn escL (s.getD 1 0) = true
  · unfold escS
    rw [if_pos h1, if_pos ⟨by simp; omega, by rw [g1]; exact h1.2⟩, g1]
  · have h2 : 2 < s.length ∧ 0 ≤ dhex (s.getD 1 0) ∧ 0 ≤ dhex (s.getD 2 0) := by
      unfold escS at h
      rw [if_neg h1] at h
      by_cases h2 : 2 < s.length ∧ 0 ≤ dhex (s.getD 1 0) ∧ 0 ≤ dhex (s.getD 2 0)
      · exact h2
      · rw [if_neg h2] at h; exact absurd rfl h
    have g2 : (s ++ b).getD 2 0 = s.getD 2 0 := by
      simp only [List.getD_eq_getElem?_getD]
      rw [List.getElem?_append_left (by omega)]
    have h1' : ¬ (1 < (s ++ b).length ∧ isIn escL ((s ++ b).getD 1 0) = true) := fun g => h1 ⟨by omega, by rw [← g1]; exact g.2⟩
    unfold escS
    rw [if_neg h1, if_pos h2, if_neg h1', if_pos ⟨by simp; omega, by rw [g1]; exact h2.2.1, by rw [g2]; exact h2.2.2⟩, g1, g2]
theorem finR_ext {out : List UInt8} {bare : Bool} {s v rest : List UInt8} (t : List UInt8) (h : finR out bare s = some (v, rest)) : finR out bare (s ++ t) = some (v, rest ++ t) := by
  unfold finR at h ⊢
  split at h
  · cases h
  · rename_i hc
    injection h with h
    injection h with h1 h2
    subst h1 h2
    rw [if_neg hc]
theorem readL_ext (b : List UInt8) (out : List UInt8) (bare : Bool) (s : List UInt8) : ∀ {v rest}, readL out bare s = some (v, rest) → readL out bare (s ++ 44 :: b) = some (v, rest ++ 44 :: b) := by
  induction out, bare, s using readL.induct with
  | case1 out bare =>
    intro v rest h
    rw [readL] at h
    show readL out bare (44 :: b) = _
    rw [readL, if_pos (.inl rfl)]
    exact finR_ext (44 :: b) h
  | case2 out bare c t h1 =>
    intro v rest h
    rw [readL, if_pos h1] at h
    show readL out bare (c :: (t ++ 44 :: b)) = _
    rw [readL, if_pos h1]
    exact finR_ext (44 :: b) h
  | case3 out bare t h2 h3 => intro v rest h; rw [readL, if_neg h2, if_pos rfl, dif_pos h3] at h; cases h
  | case4 out bare t h2 h3 ih =>
    intro v rest h
    rw [readL, if_neg h2, if_pos rfl, dif_neg h3] at h
    have e := escS_ext (92 :: t) (44 :: b) h3
    have hl := escS_le _ h3
    have h3' : ¬ (escS (92 :: (t ++ 44 :: b))).2 = 0 := by
      show ¬ (escS (92 :: t ++ 44 :: b)).2 = 0
      rw [e]; exact h3
    show readL out bare (92 :: (t ++ 44 :: b)) = _
    rw [readL, if_neg h2, if_pos rfl, dif_neg h3']
    have e2 : escS (92 :: (t ++ 44 :: b)) = escS (92 :: t) := e
    rw [e2]
    have hd : (92 :: (t ++ 44 :: b)).drop (escS (92 :: t)).2 = (92 :: t).drop (escS (92 :: t)).2 ++ 44 :: b := by
      rw [show 92 :: (t ++ 44 :: b) = (92 :: t) ++ 44 :: b from rfl, List.drop_append_of_le_length hl.2]
    rw [hd]
    exact ih h
  | case5 out bare c t h1 h2 h3 => intro v rest h; rw [readL, if_neg h1, if_neg h2, if_pos h3] at h; cases h
  | case6 out bare c t h1 h2 h3 ih =>
    intro v rest h
    rw [readL, if_neg h1, if_neg h2, if_neg h3] at h
    show readL out bare (c :: (t ++ 44 :: b)) = _
    rw [readL, if_neg h1, if_neg h2, if_neg h3]
    exact ih h
theorem find_ext (s t : List UInt8) {k : Nat} (h : s.findIdx? (· == 61) = some k) : (s ++ t).findIdx? (· == 61) = some k := by
  rw [List.findIdx?_append, h]
  rfl
theorem parseL_ext (b : List UInt8) : ∀ (j : Nat) (acc : List (List Ava)) (r : List Ava) (s : List UInt8), s.length = j → ∀ x, parseL acc r s = some x → parseL acc r (s ++ 44 :: b) = parseL x [] b := by
  intro j
  induction j using Nat.strongRecOn with
  | _ j ih =>
    intro acc r s hj x hx
    cases hf : s.findIdx? (· == 61) with
    | none => rw [parseL_bad _ _ _ hf] at hx; cases hx
    | some k =>
      have hk : k < s.length := (List.findIdx?_eq_some_iff_getElem.1 hf).1
      cases hr : readL [] true (s.drop (k + 1)) with
      | none => rw [parseL_none _ _ _ hf hr] at hx; cases hx
      | some p =>
        obtain ⟨v, rest⟩ := p
        have hlen := (readL_suffix _ _ _ hr).2
        simp only [List.length_nil, List.length_drop] at hlen
        have hr' : readL [] true ((s ++ 44 :: b).drop (k + 1)) = some (v, rest ++ 44 :: b) := by
          rw [List.drop_append_of_le_length (by omega)]
          exact readL_ext b _ _ _ hr
        have ht : (s ++ 44 :: b).take k = s.take k := List.take_append_of_le_length (by omega)
        rw [parseL_some _ _ _ hf hr] at hx
        rw [parseL_some _ _ _ (find_ext s (44 :: b) hf) hr', ht, if_neg (by simp)]
        cases rest with
        | nil =>
          rw [if_pos rfl] at hx
          injection hx with hx
          subst hx
          simp
        | cons c t =>
          rw [if_neg (by simp)] at hx
          simp only [List.cons_append, List.getD_cons_zero, List.drop_succ_cons, List.drop_zero] at hx ⊢
          simp only [List.length_cons] at hlen
          split at hx
          · rename_i hc
            rw [if_pos hc]
            exact ih t.length (by omega) _ _ _ rfl _ hx
          · rename_i hc
            rw [if_neg hc]
            exact ih t.length (by omega) _ _ _ rfl _ hx
theorem parseL_acc (a : List (List Ava)) : ∀ (j : Nat) (acc : List (List Ava)) (r : List Ava) (s : List UInt8), s.length = j → parseL (a ++ acc) r s = (parseL acc r s).map (a ++ ·) := by
  intro j
  induction j using Nat.strongRecOn with
  | _ j ih =>
    intro acc r s hj
    cases hf : s.findIdx? (· == 61) with
    | none => rw [parseL_bad _ _ _ hf, parseL_bad _ _ _ hf]; rfl
    | some k =>
      have hk : k < s.length := (List.findIdx?_eq_some_iff_getElem.1 hf).1
      cases hr : readL [] true (s.drop (k + 1)) with
      | none => rw [parseL_none _ _ _ hf hr, parseL_none _ _ _ hf hr]; rfl
      | some p =>
        obtain ⟨v, rest⟩ := p
        have hlen := (readL_suffix _ _ _ hr).2
        simp only [List.length_nil, List.length_drop] at hlen
        rw [parseL_some _ _ _ hf hr, parseL_some _ _ _ hf hr]
        cases rest with
        | nil => simp
        | cons c t =>
          rw [if_neg (by simp)]
          simp only [List.length_cons] at hlen
          simp only [List.getD_cons_zero, List.drop_succ_cons, List.drop_zero]
          split
          · rw [List.append_assoc]
            exact ih t.length (by omega) _ _ _ rfl
          · exact ih t.length (by omega) _ _ _ rfl
theorem shapedP_of {n : List (List Ava)} (h : shapedB n = true) : shapedP n := by
  unfold shapedB at h
  exact @of_decide_eq_true _ (Classical.propDecidable _) h
theorem parseN_inv {s : List UInt8} (h : (parseN s).2 = 0) (hx : (parseN s).1 ≠ []) : s ≠ [] ∧ s.length ≤ 400 ∧ parseL [] [] s = some (parseN s).1 ∧ shapedP (parseN s).1 := by
  by_cases hl : 400 < s.length
  · rw [parseN_long hl] at h; simp at h
  · by_cases h0 : s = []
    · subst h0
      rw [parseN_nil] at hx; simp at hx
    · cases hp : parseL [] [] s with
      | none => rw [parseN_bad hl h0 hp] at h; simp at h
      | some n =>
        have e := parseN_some hl h0 hp
        by_cases hb : shapedB n = true
        · rw [if_pos hb] at e
          rw [e]
          exact ⟨h0, by omega, rfl, shapedP_of hb⟩
        · rw [if_neg hb] at e
          rw [e] at h; simp at h
theorem shapedP_append {x y : List (List Ava)} (hx : shapedP x) (hy : shapedP y) (h : x.length + y.length ≤ 16) : shapedP (x ++ y) := by
  refine ⟨by simpa using h, fun i hi => ?_⟩
  by_cases hlt : i < x.length
  · have : (x ++ y).getD i [] = x.getD i [] := by simp only [List.getD_eq_getElem?_getD]; rw [List.getElem?_append_left hlt]
    rw [this]; exact hx.2 i hlt
  · have : (x ++ y).getD i [] = y.getD (i - x.length) [] := by simp only [List.getD_eq_getElem?_getD]; rw [List.getElem?_append_right (by omega)]
    rw [this]; exact hy.2 _ (by simp at hi; omega)
theorem parse_join {a b : List UInt8} (ha : (parseN a).2 = 0) (hb : (parseN b).2 = 0) (na : (parseN a).1 ≠ []) (nb : (parseN b).1 ≠ []) (hl : a.length + b.length ≤ 399) (hn : (parseN a).1.length + (parseN b).1.length ≤ 16) :
    parseN (a ++ 44 :: b) = ((parseN a).1 ++ (parseN b).1, 0) := by
  obtain ⟨a0, a1, a2, a3⟩ := parseN_inv ha na
  obtain ⟨b0, b1, b2, b3⟩ := parseN_inv hb nb
  have hp : parseL [] [] (a ++ 44 :: b) = some ((parseN a).1 ++ (parseN b).1) := by
    rw [parseL_ext b _ _ _ a rfl _ a2]
    have := parseL_acc (parseN a).1 _ [] [] b rfl
    rw [List.append_nil, b2] at this
    rw [this]; rfl
  rw [parseN_some (by simp; omega) (by simp) hp, if_pos (shapedB_true (shapedP_append a3 b3 hn))]
theorem under_join (x y : List (List Ava)) : underB (x ++ y) y = true := by
  unfold underB
  refine decide_eq_true ⟨by simp, ?_⟩
  rw [List.length_append, Nat.add_sub_cancel, List.drop_left]
theorem sortsN_of_shaped {n : List (List Ava)} (h : shapedP n) : SortsN n := by
  intro r hr
  obtain ⟨i, hi, rfl⟩ := List.getElem_of_mem hr
  have := (h.2 i hi).2.1
  rw [show n.getD i [] = n[i] by simp [List.getD, hi]] at this
  exact sortOk_small _ (by omega)
/-! ### names that are finished, one behind the other -/
theorem done_cells {v : V} {n : List (List Ava)} (h : ∀ S, isDn S v n) (h0 : n ≠ []) : ∃ cs, v = .slI n.length cs ∧ cs.length = n.length ∧ ∀ i, i < n.length → ∃ c, cs[i]? = some c ∧ ∀ S, isRdn S c (n.getD i []) := by
  have hpos : 0 < n.length := List.length_pos_iff.2 h0
  obtain ⟨cs, ⟨h1, h2⟩, _⟩ := h []
  rcases h2 with ⟨_, h3⟩ | h3 | ⟨id, off, cap, cs', e, _, _, h3, _⟩
  · omega
  · refine ⟨cs, h3, by omega, fun i hi => ?_⟩
    have hc : i < cs.length := by omega
    refine ⟨cs[i], List.getElem?_eq_getElem hc, fun S => ?_⟩
    obtain ⟨cs', ⟨g1, g2⟩, g3⟩ := h S
    rcases g2 with ⟨g4, _⟩ | g4 | ⟨_, _, _, _, _, g4, _⟩
    · rw [h3] at g4; cases g4
    · rw [h3] at g4
      injection g4 with _ g4
      subst g4
      obtain ⟨c, g5, g6⟩ := g3 i hi
      rw [List.getElem?_eq_getElem hc] at g5
      injection g5 with g5
      rw [g5]; exact g6
    · rw [h3] at g4; cases g4
  · simp at h3
theorem both_ok {v w : V} {x y : List (List Ava)} (hx : ∀ S, isDn S v x) (hy : ∀ S, isDn S w y) (x0 : x ≠ []) (y0 : y ≠ []) (lx : x.length ≤ 1048576) (ly : y.length ≤ 1048576) (S : Store) :
    ∃ T1 T2 T3 u1 u2 u3, opBuildSlice E0 S 24 0 [] = some (u1, T1) ∧ opAppend E0 T1 [24, 24] u1 v = some (u2, T2) ∧ opAppend E0 T2 [24, 24] u2 w = some (u3, T3) ∧ isDn T3 u3 (x ++ y) ∧ Low S.length S T3 := by
  obtain ⟨cx, rfl, cx2, cx3⟩ := done_cells hx x0
  obtain ⟨cy, rfl, cy2, cy3⟩ := done_cells hy y0
  have px : 0 < x.length := List.length_pos_iff.2 x0
  have py : 0 < y.length := List.length_pos_iff.2 y0
  have h1 := ty24.mk0 S
  have hsx : ∀ T, sliceCells T (.slI x.length cx) 1 = some (x.length, cx) := fun T => by simp [sliceCells, cx2]
  have hsy : ∀ T, sliceCells T (.slI y.length cy) 1 = some (y.length, cy) := fun T => by simp [sliceCells, cy2]
  have h2 := ty24.app (S := S ++ [Ob.cells [] 38]) (p := S.length) (m := 0) (cells := []) (hsx _) (fun s => by simp) (by omega) px (by simp) rfl (by omega) (by omega)
  have hc2 : (((S ++ [Ob.cells [] 38]).set S.length .gone) ++ [Ob.cells ([] ++ cx) 38])[(S ++ [Ob.cells [] 38]).length]? = some (.cells ([] ++ cx) 38) := by simp
  have h3 := ty24.app (m := 0 + x.length) (hsy _) (fun s => by simp) (by omega) py hc2 (by simp; omega) (by omega) (by omega)
  refine ⟨_, _, _, _, _, _, h1, h2, h3, ?_, ?_⟩
  · refine ⟨cx ++ cy, ⟨by simp; omega, .inr (.inr ⟨S.length + 2, 0, x.length + y.length, cx ++ cy, 38, by simp, by simp, by simp, by rw [List.drop_zero, List.take_of_length_le (by simp; omega)]⟩)⟩, fun i hi => ?_⟩
    by_cases hlt : i < x.length
    · obtain ⟨c, c1, c2⟩ := cx3 i hlt
      refine ⟨c, by rw [List.getElem?_append_left (by omega)]; exact c1, ?_⟩
      have : (x ++ y).getD i [] = x.getD i [] := by simp only [List.getD_eq_getElem?_getD]; rw [List.getElem?_append_left hlt]
      rw [this]; exact c2 _
    · obtain ⟨c, c1, c2⟩ := cy3 (i - x.length) (by simp at hi; omega)
      refine ⟨c, by rw [List.getElem?_append_right (by omega), cx2]; exact c1, ?_⟩
      have : (x ++ y).getD i [] = y.getD (i - x.length) [] := by simp only [List.getD_eq_getElem?_getD]; rw [List.getElem?_append_right (by omega)]
      rw [this]; exact c2 _
  · exact (Low.app (Nat.le_refl _) _).trans ((Low.set (by simp) (Nat.le_refl _)).trans ((Low.app (by simp) _).trans ((Low.set (by simp) (by simp)).trans (Low.app (by simp) _))))
/-- DnJoins: the text of both, one behind the other. -/
theorem law6_ok (a b : List UInt8) (ha : a.length ≤ 1048576) (hb : b.length ≤ 1048576) : vrun E0 (.fn 6) [.str a, .str b] [] = some (.bool true, []) := by
  refine fn_ws Tryd.func6 rfl ?_
  obtain ⟨v, hv, hvd⟩ := Parse_ok a [] ha
  obtain ⟨w, hw, hwd⟩ := Parse_ok b [] hb
  have haw := awake_run
  have la := (hvd []).len
  have lb := (hwd []).len
  have okx := parseN_ok a
  have oky := parseN_ok b
  have hs : ∀ k : List Todo, ∀ fr S, lget fr 4 = .bool true → S = [] → WS E0 (.code .ret :: k) fr S (FnEnds E0 6 Tryd.f6 [] (.bool true, [])) := fun k fr S h1 h2 => by
    subst h2
    exact WS.ret1s (t := 4) rfl rfl (List.prefix_refl _) (frz_bool _ _ _) h1
  have join := @parse_join a b
  generalize hx : (parseN a).1 = x at la join okx hvd
  generalize hy : (parseN b).1 = y at lb join oky hwd
  generalize he : (parseN a).2 = e at hv join
  generalize hf : (parseN b).2 = f at hw join
  by_cases c1 : (e != 0) = true
  · repeat (first | refine WS.seq ?_ | refine WS.skip ?_ | refine WS.label ?_ | refine WS.block ?_ | refine WS.inBlock ?_ | refine WS.exit rfl ?_ | refine WS.scope ?_ | refine WS.inScope ?_ | refine WS.region (by simp only [EV, TY, lget, callV_9, callV_10, haw, hv, hw, c1, ↓reduceIte, Nat.reduceEqDiff, decide_true, decide_false, eq_self]; with_reducible rfl) ?_)
    refine WS.cond_true (by simp only [EV, lget, c1, ↓reduceIte, Nat.reduceEqDiff, decide_true, decide_false, eq_self]) ?_
    repeat (first | refine WS.seq ?_ | refine WS.skip ?_ | refine WS.label ?_ | refine WS.block ?_ | refine WS.inBlock ?_ | refine WS.exit rfl ?_ | refine WS.scope ?_ | refine WS.inScope ?_ | refine WS.region (by simp only [EV, TY, lget, ↓reduceIte, Nat.reduceEqDiff, decide_true, decide_false, eq_self]; with_reducible rfl) ?_)
    refine hs _ _ _ ?_ rfl
    simp only [EV, lget, ↓reduceIte, Nat.reduceEqDiff, decide_true, decide_false, eq_self, and_true, true_and, and_self]
  have c1' : (e != 0) = false := by simpa using c1
  have e0 : e = 0 := by simpa using c1
  by_cases c2 : (f != 0) = true
  · repeat (first | refine WS.seq ?_ | refine WS.skip ?_ | refine WS.label ?_ | refine WS.block ?_ | refine WS.inBlock ?_ | refine WS.exit rfl ?_ | refine WS.scope ?_ | refine WS.inScope ?_ | refine WS.region (by simp only [EV, TY, lget, callV_9, callV_10, haw, hv, hw, c1', c2, ↓reduceIte, Nat.reduceEqDiff, decide_true, decide_false, eq_self]; with_reducible rfl) ?_)
    refine WS.cond_true (by simp only [EV, lget, c1', c2, ↓reduceIte, Nat.reduceEqDiff, decide_true, decide_false, eq_self]) ?_
    repeat (first | refine WS.seq ?_ | refine WS.skip ?_ | refine WS.label ?_ | refine WS.block ?_ | refine WS.inBlock ?_ | refine WS.exit rfl ?_ | refine WS.scope ?_ | refine WS.inScope ?_ | refine WS.region (by simp only [EV, TY, lget, ↓reduceIte, Nat.reduceEqDiff, decide_true, decide_false, eq_self]; with_reducible rfl) ?_)
    refine hs _ _ _ ?_ rfl
    simp only [EV, lget, ↓reduceIte, Nat.reduceEqDiff, decide_true, decide_false, eq_self, and_true, true_and, and_self]
  have c2' : (f != 0) = false := by simpa using c2
  have f0 : f = 0 := by simpa using c2
  by_cases c3 : x.length = 0
  · have c3' : (((x.length : Nat) : Int) == 0) = true := by simp [c3]
    repeat (first | refine WS.seq ?_ | refine WS.skip ?_ | refine WS.label ?_ | refine WS.block ?_ | refine WS.inBlock ?_ | refine WS.exit rfl ?_ | refine WS.scope ?_ | refine WS.inScope ?_ | refine WS.region (by simp only [EV, TY, lget, callV_9, callV_10, haw, hv, hw, c1', c2', la, c3', ↓reduceIte, Nat.reduceEqDiff, decide_true, decide_false, eq_self]; with_reducible rfl) ?_)
    refine WS.cond_true (by simp only [EV, lget, c1', c2', c3', ↓reduceIte, Nat.reduceEqDiff, decide_true, decide_false, eq_self]) ?_
    repeat (first | refine WS.seq ?_ | refine WS.skip ?_ | refine WS.label ?_ | refine WS.block ?_ | refine WS.inBlock ?_ | refine WS.exit rfl ?_ | refine WS.scope ?_ | refine WS.inScope ?_ | refine WS.region (by simp only [EV, TY, lget, ↓reduceIte, Nat.reduceEqDiff, decide_true, decide_false, eq_self]; with_reducible rfl) ?_)
    refine hs _ _ _ ?_ rfl
    simp only [EV, lget, ↓reduceIte, Nat.reduceEqDiff, decide_true, decide_false, eq_self, and_true, true_and, and_self]
  have c3' : (((x.length : Nat) : Int) == 0) = false := beq_eq_false_iff_ne.2 (by omega)
  by_cases c4 : y.length = 0
  · have c4' : (((y.length : Nat) : Int) == 0) = true := by simp [c4]
    repeat (first | refine WS.seq ?_ | refine WS.skip ?_ | refine WS.label ?_ | refine WS.block ?_ | refine WS.inBlock ?_ | refine WS.exit rfl ?_ | refine WS.scope ?_ | refine WS.inScope ?_ | refine WS.region (by simp only [EV, TY, lget, callV_9, callV_10, haw, hv, hw, c1', c2', la, lb, c3', c4', ↓reduceIte, Nat.reduceEqDiff, decide_true, decide_false, eq_self]; with_reducible rfl) ?_)
    refine WS.cond_true (by simp only [EV, lget, c1', c2', c3', c4', ↓reduceIte, Nat.reduceEqDiff, decide_true, decide_false, eq_self]) ?_
    repeat (first | refine WS.seq ?_ | refine WS.skip ?_ | refine WS.label ?_ | refine WS.block ?_ | refine WS.inBlock ?_ | refine WS.exit rfl ?_ | refine WS.scope ?_ | refine WS.inScope ?_ | refine WS.region (by simp only [EV, TY, lget, ↓reduceIte, Nat.reduceEqDiff, decide_true, decide_false, eq_self]; with_reducible rfl) ?_)
    refine hs _ _ _ ?_ rfl
    simp only [EV, lget, ↓reduceIte, Nat.reduceEqDiff, decide_true, decide_false, eq_self, and_true, true_and, and_self]
  have c4' : (((y.length : Nat) : Int) == 0) = false := beq_eq_false_iff_ne.2 (by omega)
  have w1 := wrap_addN a.length b.length (by omega)
  have w2 := wrap_addN x.length y.length (by have := okx.1; have := oky.1; omega)
  by_cases c5 : (399 : Int) < ((a.length + b.length : Nat) : Int)
  · repeat (first | refine WS.seq ?_ | refine WS.skip ?_ | refine WS.label ?_ | refine WS.block ?_ | refine WS.inBlock ?_ | refine WS.exit rfl ?_ | refine WS.scope ?_ | refine WS.inScope ?_ | refine WS.region (by simp only [EV, TY, lget, callV_9, callV_10, haw, hv, hw, c1', c2', la, lb, c3', c4', w1, c5, ↓reduceIte, Nat.reduceEqDiff, decide_true, decide_false, eq_self]; with_reducible rfl) ?_)
    refine WS.cond_true (by simp only [EV, lget, c1', c2', c3', c4', c5, ↓reduceIte, Nat.reduceEqDiff, decide_true, decide_false, eq_self]) ?_
    repeat (first | refine WS.seq ?_ | refine WS.skip ?_ | refine WS.label ?_ | refine WS.block ?_ | refine WS.inBlock ?_ | refine WS.exit rfl ?_ | refine WS.scope ?_ | refine WS.inScope ?_ | refine WS.region (by simp only [EV, TY, lget, ↓reduceIte, Nat.reduceEqDiff, decide_true, decide_false, eq_self]; with_reducible rfl) ?_)
    refine hs _ _ _ ?_ rfl
    simp only [EV, lget, ↓reduceIte, Nat.reduceEqDiff, decide_true, decide_false, eq_self, and_true, true_and, and_self]
  by_cases c6 : (16 : Int) < ((x.length + y.length : Nat) : Int)
  · repeat (first | refine WS.seq ?_ | refine WS.skip ?_ | refine WS.label ?_ | refine WS.block ?_ | refine WS.inBlock ?_ | refine WS.exit rfl ?_ | refine WS.scope ?_ | refine WS.inScope ?_ | refine WS.region (by simp only [EV, TY, lget, callV_9, callV_10, haw, hv, hw, c1', c2', la, lb, c3', c4', w1, w2, c5, c6, ↓reduceIte, Nat.reduceEqDiff, decide_true, decide_false, eq_self]; with_reducible rfl) ?_)
    refine WS.cond_true (by simp only [EV, lget, c1', c2', c3', c4', c5, c6, ↓reduceIte, Nat.reduceEqDiff, decide_true, decide_false, eq_self]) ?_
    repeat (first | refine WS.seq ?_ | refine WS.skip ?_ | refine WS.label ?_ | refine WS.block ?_ | refine WS.inBlock ?_ | refine WS.exit rfl ?_ | refine WS.scope ?_ | refine WS.inScope ?_ | refine WS.region (by simp only [EV, TY, lget, ↓reduceIte, Nat.reduceEqDiff, decide_true, decide_false, eq_self]; with_reducible rfl) ?_)
    refine hs _ _ _ ?_ rfl
    simp only [EV, lget, ↓reduceIte, Nat.reduceEqDiff, decide_true, decide_false, eq_self, and_true, true_and, and_self]
  have nx : x ≠ [] := by intro h; rw [h] at c3; exact c3 rfl
  have ny : y ≠ [] := by intro h; rw [h] at c4; exact c4 rfl
  have hj := join e0 f0 nx ny (by omega) (by omega)
  obtain ⟨_, _, _, sx⟩ := parseN_inv (s := a) (by rw [he]; exact e0) (by rw [hx]; exact nx)
  obtain ⟨_, _, _, sy⟩ := parseN_inv (s := b) (by rw [hf]; exact f0) (by rw [hy]; exact ny)
  rw [hx] at sx
  rw [hy] at sy
  have sxy := shapedP_append sx sy (by omega)
  have okxy : okN (x ++ y) := by
    have := parseN_ok (a ++ 44 :: b)
    rw [hj] at this
    exact this
  obtain ⟨z, hz, hzd⟩ := Parse_ok (a ++ 44 :: b) [] (by simp; omega)
  rw [hj] at hz hzd
  simp only at hz hzd
  obtain ⟨T1, T2, T3, u1, u2, u3, b1, b2, b3, b4, b5⟩ := both_ok hvd hwd nx ny okx.1 oky.1 []
  have hone := One_ok (hzd T3) b4 okxy okxy
  have hd : decide (x ++ y = x ++ y) = true := decide_eq_true rfl
  rw [hd] at hone
  have hund := Under_ok (hzd T3) (hwd T3) okxy oky (sortsN_of_shaped sxy) (sortsN_of_shaped sy)
  rw [under_join] at hund
  have k1 : ∀ l, opBin E0 l .add 9 (.str a) (.str [44]) = some (.str (a ++ [44])) := fun l => bin_sadd _ _ _ _ (by simp; omega)
  have k2 : ∀ l, opBin E0 l .add 9 (.str (a ++ [44])) (.str b) = some (.str (a ++ 44 :: b)) := fun l => by
    rw [bin_sadd _ _ _ _ (by simp; omega)]; simp
  have z0 : ((0 : Int) == 0) = true := rfl
  repeat (first | refine WS.seq ?_ | refine WS.skip ?_ | refine WS.label ?_ | refine WS.block ?_ | refine WS.inBlock ?_ | refine WS.exit rfl ?_ | refine WS.scope ?_ | refine WS.inScope ?_ | refine WS.region (by simp only [EV, TY, lget, callV_9, callV_10, haw, hv, hw, c1', c2', la, lb, c3', c4', w1, w2, c5, c6, ↓reduceIte, Nat.reduceEqDiff, decide_true, decide_false, eq_self]; with_reducible rfl) ?_)
  refine WS.cond_false (by simp only [EV, lget, c1', c2', c3', c4', c5, c6, ↓reduceIte, Nat.reduceEqDiff, decide_true, decide_false, eq_self]) ?_
  repeat (first | refine WS.seq ?_ | refine WS.skip ?_ | refine WS.label ?_ | refine WS.block ?_ | refine WS.inBlock ?_ | refine WS.exit rfl ?_ | refine WS.scope ?_ | refine WS.inScope ?_ | refine WS.region (by simp only [EV, TY, lget, callV_10, k1, k2, hz, b1, b2, b3, callV_12, hone, callV_16, hund, z0, ↓reduceIte, Nat.reduceEqDiff, decide_true, decide_false, eq_self]; with_reducible rfl) ?_)
  refine WS.ret1s (t := 4) rfl rfl ?_ (frz_bool _ _ _) ?_
  · exact List.nil_prefix
  · simp only [EV, lget, ↓reduceIte, Nat.reduceEqDiff, decide_true, decide_false, eq_self, and_true, true_and, and_self]
end Go.Proofs.YtjcckafjopjdbaaDoor
