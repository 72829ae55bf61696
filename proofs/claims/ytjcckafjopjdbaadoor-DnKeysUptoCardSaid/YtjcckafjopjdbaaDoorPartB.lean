import Derived.Test.YtjcckafjopjdbaaDoorPartA
import Derived.Test.YtjcckafjopjdbaaDoorVmF
set_option linter.all false
namespace Go.Proofs.YtjcckafjopjdbaaDoor
open Go Go.Vm
set_option maxRecDepth 100000
set_option maxHeartbeats 4000000
set_option linter.unusedSimpArgs false
set_option linter.unusedVariables false
def spL : List UInt8 := [34, 43, 44, 59, 60, 62, 92]
def finR (out : List UInt8) (bare : Bool) (s : List UInt8) : Option (List UInt8 × List UInt8) :=
  if out ≠ [] ∧ out.getD (out.length - 1) 0 = 32 ∧ bare = true then none else some (out, s)
theorem escS_le (s : List UInt8) (h : (escS s).2 ≠ 0) : 2 ≤ (escS s).2 ∧ (escS s).2 ≤ s.length := by
  unfold escS at h ⊢
  split
  · rename_i h1
    exact ⟨by simp, h1.1⟩
  · rename_i h1
    rw [if_neg h1] at h
    split
    · rename_i h2
      exact ⟨by simp, h2.1⟩
    · rename_i h2
      rw [if_neg h2] at h
      simp at h
def readL (out : List UInt8) (bare : Bool) (s : List UInt8) : Option (List UInt8 × List UInt8) :=
  match s with
  | [] => finR out bare []
  | c :: t =>
    if c = 44 ∨ c = 43 then finR out bare (c :: t)
    else if c = 92 then
      if h : (escS (c :: t)).2 = 0 then none else readL (out ++ [(escS (c :: t)).1]) false ((c :: t).drop (escS (c :: t)).2)
    else if c = 0 ∨ isIn spL c = true ∨ (out = [] ∧ (c = 35 ∨ c = 32)) then none
    else readL (out ++ [c]) true t
termination_by s.length
decreasing_by
  · have := escS_le _ h
    simp at this ⊢
    omega
  · simp
def readV (r : Option (List UInt8 × List UInt8)) : V := match r with | none => .tup [.str [], .str [], .bool false] | some (v, r) => .tup [.str v, .str r, .bool true]
theorem read_ok (s : List UInt8) (S : Store) (hs : s.length ≤ 1048576) : vrun E0 (.fn 23) [.str s] S = some (readV (readL [] true s), S) := by
  refine fn_ws Tryd.func23 rfl ?_
  repeat (first | refine WS.seq ?_ | refine WS.skip ?_ | refine WS.label ?_ | refine WS.block ?_ | refine WS.inBlock ?_ | refine WS.exit rfl ?_ | refine WS.scope ?_ | refine WS.inScope ?_ | refine WS.region (by simp only [EV, TY, lget, ↓reduceIte, Nat.reduceEqDiff, decide_true, decide_false, eq_self]; with_reducible rfl) ?_)
  refine WS.loopB (fun j fr S' => ∃ out bare s' v, j = s'.length ∧ out.length + s'.length ≤ s.length ∧ lget fr 0 = .str s' ∧ lget fr 5 = v ∧ lget fr 6 = .bool bare ∧ readL out bare s' = readL [] true s ∧ Buf 5 S.length S' v out ∧ Low S.length S S')
    (fun fr S' => ∃ out bare s' v, out.length ≤ s.length ∧ lget fr 0 = .str s' ∧ lget fr 5 = v ∧ lget fr 6 = .bool bare ∧ finR out bare s' = readL [] true s ∧ Buf 5 S.length S' v out ∧ Low S.length S S') (j := s.length) ?_ ?_ ?_
  · refine ⟨[], true, s, .slN, rfl, by simp, ?_, ?_, ?_, rfl, Buf.new _ _ _, Low.refl (Nat.le_refl _)⟩
    all_goals
      simp only [EV, lget, ↓reduceIte, Nat.reduceEqDiff, decide_true, decide_false, eq_self, and_true, true_and, and_self]
  · rintro fr S' ⟨out, bare, s', v, hle, h0, h5, h6, hR, hb, hl⟩
    rw [← hR]
    have hlen := hb.len bt50
    cases ho : decide (out = []) with
    | true =>
      have ho : out = [] := by simpa using ho
      subst ho
      have hz : ¬ ((0 : Nat) : Int) > 0 := by simp
      have e1 : decide ((0 : Int) < ((([] : List UInt8).length : Nat) : Int)) = false := by simp
      repeat (first | refine WS.seq ?_ | refine WS.skip ?_ | refine WS.label ?_ | refine WS.block ?_ | refine WS.inBlock ?_ | refine WS.exit rfl ?_ | refine WS.scope ?_ | refine WS.inScope ?_ | refine WS.region (by simp only [EV, TY, h5, hlen, e1, ↓reduceIte, Nat.reduceEqDiff, decide_true, decide_false, eq_self]; with_reducible rfl) ?_)
      refine WS.cond_false (by simp only [EV, ↓reduceIte, Nat.reduceEqDiff, decide_true, decide_false, eq_self]) ?_
      have e2 := hb.conv bt50 Tryd.underlying9
      repeat (first | refine WS.seq ?_ | refine WS.skip ?_ | refine WS.label ?_ | refine WS.block ?_ | refine WS.inBlock ?_ | refine WS.exit rfl ?_ | refine WS.scope ?_ | refine WS.inScope ?_ | refine WS.region (by simp only [EV, TY, h5, e2, h0, ↓reduceIte, Nat.reduceEqDiff, decide_true, decide_false, eq_self]; with_reducible rfl) ?_)
      have : finR [] bare s' = some ([], s') := if_neg (by simp)
      rw [this]
      refine WS.ret3s (t := 2) (u := 3) (q := 4) rfl rfl hl.pre rfl ?_ ?_ ?_
      all_goals
        simp only [EV, ↓reduceIte, Nat.reduceEqDiff, decide_true, decide_false, eq_self, and_true, true_and, and_self]
    | false =>
      have ho : out ≠ [] := by simpa using ho
      have hpos : 0 < out.length := List.length_pos_iff.2 ho
      have e1 : decide ((0 : Int) < ((out.length : Nat) : Int)) = true := by simp; omega
      obtain ⟨a, a1, a2⟩ := hb.at_ bt50 .i64 (out.length - 1) (by omega)
      have e2 := hb.conv bt50 Tryd.underlying9
      have e4 := wrap_sub1 out.length (by omega) (by omega)
      cases hb6 : bare with
      | true =>
        subst hb6
        by_cases h32 : out.getD (out.length - 1) 0 = 32
        · repeat (first | refine WS.seq ?_ | refine WS.skip ?_ | refine WS.label ?_ | refine WS.block ?_ | refine WS.inBlock ?_ | refine WS.exit rfl ?_ | refine WS.scope ?_ | refine WS.inScope ?_ | refine WS.region (by simp only [EV, TY, h5, hlen, e1, e4, a1, a2, eq8t h32 32 rfl, h6, ↓reduceIte, Nat.reduceEqDiff, decide_true, decide_false, eq_self]; with_reducible rfl) ?_)
          refine WS.cond_true (by simp only [EV, ↓reduceIte, Nat.reduceEqDiff, decide_true, decide_false, eq_self]) ?_
          repeat (first | refine WS.seq ?_ | refine WS.skip ?_ | refine WS.label ?_ | refine WS.block ?_ | refine WS.inBlock ?_ | refine WS.exit rfl ?_ | refine WS.scope ?_ | refine WS.inScope ?_ | refine WS.region (by simp only [EV, TY, lget, ↓reduceIte, Nat.reduceEqDiff, decide_true, decide_false, eq_self]; with_reducible rfl) ?_)
          have : finR out true s' = none := if_pos ⟨ho, h32, rfl⟩
          rw [this]
          refine WS.ret3s (t := 2) (u := 3) (q := 4) rfl rfl hl.pre rfl ?_ ?_ ?_
          all_goals
            simp only [EV, ↓reduceIte, Nat.reduceEqDiff, decide_true, decide_false, eq_self, and_true, true_and, and_self]
        · repeat (first | refine WS.seq ?_ | refine WS.skip ?_ | refine WS.label ?_ | refine WS.block ?_ | refine WS.inBlock ?_ | refine WS.exit rfl ?_ | refine WS.scope ?_ | refine WS.inScope ?_ | refine WS.region (by simp only [EV, TY, h5, hlen, e1, e4, a1, a2, eq8f h32 32 rfl, h6, ↓reduceIte, Nat.reduceEqDiff, decide_true, decide_false, eq_self]; with_reducible rfl) ?_)
          refine WS.cond_false (by simp only [EV, ↓reduceIte, Nat.reduceEqDiff, decide_true, decide_false, eq_self]) ?_
          repeat (first | refine WS.seq ?_ | refine WS.skip ?_ | refine WS.label ?_ | refine WS.block ?_ | refine WS.inBlock ?_ | refine WS.exit rfl ?_ | refine WS.scope ?_ | refine WS.inScope ?_ | refine WS.region (by simp only [EV, TY, h5, e2, h0, ↓reduceIte, Nat.reduceEqDiff, decide_true, decide_false, eq_self]; with_reducible rfl) ?_)
          have : finR out true s' = some (out, s') := if_neg (fun h => h32 h.2.1)
          rw [this]
          refine WS.ret3s (t := 2) (u := 3) (q := 4) rfl rfl hl.pre rfl ?_ ?_ ?_
          all_goals
            simp only [EV, ↓reduceIte, Nat.reduceEqDiff, decide_true, decide_false, eq_self, and_true, true_and, and_self]
      | false =>
        subst hb6
        have : finR out false s' = some (out, s') := if_neg (by simp)
        rw [this]
        by_cases h32 : out.getD (out.length - 1) 0 = 32
        · repeat (first | refine WS.seq ?_ | refine WS.skip ?_ | refine WS.label ?_ | refine WS.block ?_ | refine WS.inBlock ?_ | refine WS.exit rfl ?_ | refine WS.scope ?_ | refine WS.inScope ?_ | refine WS.region (by simp only [EV, TY, h5, hlen, e1, e4, a1, a2, eq8t h32 32 rfl, h6, ↓reduceIte, Nat.reduceEqDiff, decide_true, decide_false, eq_self]; with_reducible rfl) ?_)
          refine WS.cond_false (by simp only [EV, ↓reduceIte, Nat.reduceEqDiff, decide_true, decide_false, eq_self]) ?_
          repeat (first | refine WS.seq ?_ | refine WS.skip ?_ | refine WS.label ?_ | refine WS.block ?_ | refine WS.inBlock ?_ | refine WS.exit rfl ?_ | refine WS.scope ?_ | refine WS.inScope ?_ | refine WS.region (by simp only [EV, TY, h5, e2, h0, ↓reduceIte, Nat.reduceEqDiff, decide_true, decide_false, eq_self]; with_reducible rfl) ?_)
          refine WS.ret3s (t := 2) (u := 3) (q := 4) rfl rfl hl.pre rfl ?_ ?_ ?_
          all_goals
            simp only [EV, ↓reduceIte, Nat.reduceEqDiff, decide_true, decide_false, eq_self, and_true, true_and, and_self]
        · repeat (first | refine WS.seq ?_ | refine WS.skip ?_ | refine WS.label ?_ | refine WS.block ?_ | refine WS.inBlock ?_ | refine WS.exit rfl ?_ | refine WS.scope ?_ | refine WS.inScope ?_ | refine WS.region (by simp only [EV, TY, h5, hlen, e1, e4, a1, a2, eq8f h32 32 rfl, h6, ↓reduceIte, Nat.reduceEqDiff, decide_true, decide_false, eq_self]; with_reducible rfl) ?_)
          refine WS.cond_false (by simp only [EV, ↓reduceIte, Nat.reduceEqDiff, decide_true, decide_false, eq_self]) ?_
          repeat (first | refine WS.seq ?_ | refine WS.skip ?_ | refine WS.label ?_ | refine WS.block ?_ | refine WS.inBlock ?_ | refine WS.exit rfl ?_ | refine WS.scope ?_ | refine WS.inScope ?_ | refine WS.region (by simp only [EV, TY, h5, e2, h0, ↓reduceIte, Nat.reduceEqDiff, decide_true, decide_false, eq_self]; with_reducible rfl) ?_)
          refine WS.ret3s (t := 2) (u := 3) (q := 4) rfl rfl hl.pre rfl ?_ ?_ ?_
          all_goals
            simp only [EV, ↓reduceIte, Nat.reduceEqDiff, decide_true, decide_false, eq_self, and_true, true_and, and_self]
  · rintro j fr S' ⟨out, bare, s', v, rfl, hle, h0, h5, h6, hR, hb, hl⟩ ih last
    cases s' with
    | nil =>
      repeat (first | refine WS.seq ?_ | refine WS.skip ?_ | refine WS.label ?_ | refine WS.block ?_ | refine WS.inBlock ?_ | refine WS.exit rfl ?_ | refine WS.scope ?_ | refine WS.inScope ?_ | refine WS.region (by simp only [EV, TY, h0, sne, ↓reduceIte, Nat.reduceEqDiff, decide_true, decide_false, eq_self]; with_reducible rfl) ?_)
      refine WS.cond_false (by simp only [EV, ↓reduceIte, Nat.reduceEqDiff, decide_true, decide_false, eq_self]) ?_
      refine WS.exit rfl ?_
      refine last _ _ ⟨out, bare, [], v, by omega, ?_, ?_, ?_, by rw [← hR, readL], hb, hl⟩
      all_goals
        simp only [EV, h0, h5, h6, ↓reduceIte, Nat.reduceEqDiff, decide_true, decide_false, eq_self, and_true, true_and, and_self]
    | cons c t =>
      have e1 : opIndex E0 9 (.str (c :: t)) (.int .i64 0) = some (.int .u8 c.toNat) := idx_str_9 (c :: t) .i64 0 (by simp)
      have hne : ¬ (c :: t) = [] := by simp
      repeat (first | refine WS.seq ?_ | refine WS.skip ?_ | refine WS.label ?_ | refine WS.block ?_ | refine WS.inBlock ?_ | refine WS.exit rfl ?_ | refine WS.scope ?_ | refine WS.inScope ?_ | refine WS.region (by simp only [EV, TY, h0, sne, hne, ↓reduceIte, Nat.reduceEqDiff, decide_true, decide_false, eq_self]; with_reducible rfl) ?_)
      refine WS.cond_true (by simp only [EV, ↓reduceIte, Nat.reduceEqDiff, decide_true, decide_false, eq_self]) ?_
      repeat (first | refine WS.seq ?_ | refine WS.skip ?_ | refine WS.label ?_ | refine WS.block ?_ | refine WS.inBlock ?_ | refine WS.exit rfl ?_ | refine WS.scope ?_ | refine WS.inScope ?_ | refine WS.region (by simp only [EV, TY, h0, e1, ↓reduceIte, Nat.reduceEqDiff, decide_true, decide_false, eq_self]; with_reducible rfl) ?_)
      by_cases c1 : c = 44
      · repeat (first | refine WS.seq ?_ | refine WS.skip ?_ | refine WS.label ?_ | refine WS.block ?_ | refine WS.inBlock ?_ | refine WS.exit rfl ?_ | refine WS.scope ?_ | refine WS.inScope ?_ | refine WS.region (by simp only [EV, TY, eq8t c1 44 rfl, ↓reduceIte, Nat.reduceEqDiff, decide_true, decide_false, eq_self]; with_reducible rfl) ?_)
        refine WS.cond_true (by simp only [EV, ↓reduceIte, Nat.reduceEqDiff, decide_true, decide_false, eq_self]) ?_
        refine WS.exit rfl ?_
        refine last _ _ ⟨out, bare, c :: t, v, by simp at hle; omega, ?_, ?_, ?_, by rw [← hR, readL, if_pos (.inl c1)], hb, hl⟩
        all_goals
          simp only [EV, h0, h5, h6, ↓reduceIte, Nat.reduceEqDiff, decide_true, decide_false, eq_self, and_true, true_and, and_self]
      by_cases c2 : c = 43
      · repeat (first | refine WS.seq ?_ | refine WS.skip ?_ | refine WS.label ?_ | refine WS.block ?_ | refine WS.inBlock ?_ | refine WS.exit rfl ?_ | refine WS.scope ?_ | refine WS.inScope ?_ | refine WS.region (by simp only [EV, TY, eq8f c1 44 rfl, eq8t c2 43 rfl, ↓reduceIte, Nat.reduceEqDiff, decide_true, decide_false, eq_self]; with_reducible rfl) ?_)
        refine WS.cond_true (by simp only [EV, ↓reduceIte, Nat.reduceEqDiff, decide_true, decide_false, eq_self]) ?_
        refine WS.exit rfl ?_
        refine last _ _ ⟨out, bare, c :: t, v, by simp at hle; omega, ?_, ?_, ?_, by rw [← hR, readL, if_pos (.inr c2)], hb, hl⟩
        all_goals
          simp only [EV, h0, h5, h6, ↓reduceIte, Nat.reduceEqDiff, decide_true, decide_false, eq_self, and_true, true_and, and_self]
      repeat (first | refine WS.seq ?_ | refine WS.skip ?_ | refine WS.label ?_ | refine WS.block ?_ | refine WS.inBlock ?_ | refine WS.exit rfl ?_ | refine WS.scope ?_ | refine WS.inScope ?_ | refine WS.region (by simp only [EV, TY, eq8f c1 44 rfl, eq8f c2 43 rfl, ↓reduceIte, Nat.reduceEqDiff, decide_true, decide_false, eq_self]; with_reducible rfl) ?_)
      refine WS.cond_false (by simp only [EV, ↓reduceIte, Nat.reduceEqDiff, decide_true, decide_false, eq_self]) ?_
      have c12 : ¬ (c = 44 ∨ c = 43) := fun h => h.elim c1 c2
      by_cases c3 : c = 92
      · repeat (first | refine WS.seq ?_ | refine WS.skip ?_ | refine WS.label ?_ | refine WS.block ?_ | refine WS.inBlock ?_ | refine WS.exit rfl ?_ | refine WS.scope ?_ | refine WS.inScope ?_ | refine WS.region (by simp only [EV, TY, eq8t c3 92 rfl, ↓reduceIte, Nat.reduceEqDiff, decide_true, decide_false, eq_self]; with_reducible rfl) ?_)
        refine WS.cond_true (by simp only [EV, ↓reduceIte, Nat.reduceEqDiff, decide_true, decide_false, eq_self]) ?_
        have e2 := escaped_ok (c :: t) S'
        repeat (first | refine WS.seq ?_ | refine WS.skip ?_ | refine WS.label ?_ | refine WS.block ?_ | refine WS.inBlock ?_ | refine WS.exit rfl ?_ | refine WS.scope ?_ | refine WS.inScope ?_ | refine WS.region (by simp only [EV, TY, h0, callV_44, e2, ↓reduceIte, Nat.reduceEqDiff, decide_true, decide_false, eq_self]; with_reducible rfl) ?_)
        by_cases n0 : (escS (c :: t)).2 = 0
        · have : ((((escS (c :: t)).2 : Nat) : Int) == 0) = true := by simp [n0]
          refine WS.cond_true (by simp only [EV, this, ↓reduceIte, Nat.reduceEqDiff, decide_true, decide_false, eq_self]) ?_
          repeat (first | refine WS.seq ?_ | refine WS.skip ?_ | refine WS.label ?_ | refine WS.block ?_ | refine WS.inBlock ?_ | refine WS.exit rfl ?_ | refine WS.scope ?_ | refine WS.inScope ?_ | refine WS.region (by simp only [EV, TY, lget, ↓reduceIte, Nat.reduceEqDiff, decide_true, decide_false, eq_self]; with_reducible rfl) ?_)
          have : readL [] true s = none := by rw [← hR, readL, if_neg c12, if_pos c3, dif_pos n0]
          rw [this]
          refine WS.ret3s (t := 2) (u := 3) (q := 4) rfl rfl hl.pre rfl ?_ ?_ ?_
          all_goals
            simp only [EV, ↓reduceIte, Nat.reduceEqDiff, decide_true, decide_false, eq_self, and_true, true_and, and_self]
        · have : ((((escS (c :: t)).2 : Nat) : Int) == 0) = false := by simp [n0]
          refine WS.cond_false (by simp only [EV, this, ↓reduceIte, Nat.reduceEqDiff, decide_true, decide_false, eq_self]) ?_
          repeat (first | refine WS.seq ?_ | refine WS.skip ?_ | refine WS.label ?_ | refine WS.block ?_ | refine WS.inBlock ?_ | refine WS.exit rfl ?_ | refine WS.scope ?_ | refine WS.inScope ?_)
          obtain ⟨g1, g2⟩ := escS_le _ n0
          have e3 := sl_lo (E := E0) Tryd.underlying9 (c :: t) .i64 _ g2
          obtain ⟨w, S2, f1, f2, f3⟩ := hb.app1 bt50 hl.1 (escS (c :: t)).1 (by omega)
          refine WS.draw (by simp only [evDraw_nil, evDraw_plain, isEff, isRead, List.all_nil, EV, TY, h0, h5, e3, mk1_ bt50, f1, ↓reduceIte, Nat.reduceEqDiff, decide_true, decide_false, eq_self]; with_reducible rfl) ?_
          refine WS.exit rfl ?_
          have hd : ((c :: t).drop (escS (c :: t)).2).length = (c :: t).length - (escS (c :: t)).2 := List.length_drop ..
          refine ih ((c :: t).drop (escS (c :: t)).2).length _ _ (by rw [hd]; omega) ⟨out ++ [(escS (c :: t)).1], false, _, w, rfl, ?_, ?_, ?_, ?_, ?_, f2, hl.trans f3⟩
          · rw [hd]; simp at hle ⊢; omega
          · simp only [EV, h0, ↓reduceIte, Nat.reduceEqDiff, decide_true, decide_false, eq_self, and_true, true_and, and_self]
          · simp only [EV, ↓reduceIte, Nat.reduceEqDiff, decide_true, decide_false, eq_self, and_true, true_and, and_self]
          · simp only [EV, ↓reduceIte, Nat.reduceEqDiff, decide_true, decide_false, eq_self, and_true, true_and, and_self]
          · rw [← hR]
            conv => rhs; rw [readL, if_neg c12, if_pos c3, dif_neg n0]
      · have hI := IndexByte_ok spL c S'
        simp only [spL] at hI
        repeat (first | refine WS.seq ?_ | refine WS.skip ?_ | refine WS.label ?_ | refine WS.block ?_ | refine WS.inBlock ?_ | refine WS.exit rfl ?_ | refine WS.scope ?_ | refine WS.inScope ?_ | refine WS.region (by simp only [EV, TY, eq8f c3 92 rfl, ↓reduceIte, Nat.reduceEqDiff, decide_true, decide_false, eq_self]; with_reducible rfl) ?_)
        refine WS.cond_false (by simp only [EV, ↓reduceIte, Nat.reduceEqDiff, decide_true, decide_false, eq_self]) ?_
        have hlen := hb.len bt50
        have bad : (c = 0 ∨ isIn spL c = true ∨ (out = [] ∧ (c = 35 ∨ c = 32))) → readL [] true s = none := fun h => by rw [← hR, readL, if_neg c12, if_neg c3, if_pos h]
        have good : ¬ (c = 0 ∨ isIn spL c = true ∨ (out = [] ∧ (c = 35 ∨ c = 32))) → readL (out ++ [c]) true t = readL [] true s := fun h => by rw [← hR, readL, if_neg c12, if_neg c3, if_neg h]
        by_cases c4 : c = 0
        · repeat (first | refine WS.seq ?_ | refine WS.skip ?_ | refine WS.label ?_ | refine WS.block ?_ | refine WS.inBlock ?_ | refine WS.exit rfl ?_ | refine WS.scope ?_ | refine WS.inScope ?_ | refine WS.region (by simp only [EV, TY, eq8t c4 0 rfl, ↓reduceIte, Nat.reduceEqDiff, decide_true, decide_false, eq_self]; with_reducible rfl) ?_)
          refine WS.cond_true (by simp only [EV, ↓reduceIte, Nat.reduceEqDiff, decide_true, decide_false, eq_self]) ?_
          repeat (first | refine WS.seq ?_ | refine WS.skip ?_ | refine WS.label ?_ | refine WS.block ?_ | refine WS.inBlock ?_ | refine WS.exit rfl ?_ | refine WS.scope ?_ | refine WS.inScope ?_ | refine WS.region (by simp only [EV, TY, lget, ↓reduceIte, Nat.reduceEqDiff, decide_true, decide_false, eq_self]; with_reducible rfl) ?_)
          rw [bad (.inl c4)]
          refine WS.ret3s (t := 2) (u := 3) (q := 4) rfl rfl hl.pre rfl ?_ ?_ ?_
          all_goals
            simp only [EV, ↓reduceIte, Nat.reduceEqDiff, decide_true, decide_false, eq_self, and_true, true_and, and_self]
        by_cases c5 : (0 : Int) ≤ idxInt (List.findIdx? (fun x => x == c) [34, 43, 44, 59, 60, 62, 92])
        · repeat (first | refine WS.seq ?_ | refine WS.skip ?_ | refine WS.label ?_ | refine WS.block ?_ | refine WS.inBlock ?_ | refine WS.exit rfl ?_ | refine WS.scope ?_ | refine WS.inScope ?_ | refine WS.region (by simp only [EV, TY, eq8f c4 0 rfl, callV_22, hI, c5, ↓reduceIte, Nat.reduceEqDiff, decide_true, decide_false, eq_self]; with_reducible rfl) ?_)
          refine WS.cond_true (by simp only [EV, ↓reduceIte, Nat.reduceEqDiff, decide_true, decide_false, eq_self]) ?_
          repeat (first | refine WS.seq ?_ | refine WS.skip ?_ | refine WS.label ?_ | refine WS.block ?_ | refine WS.inBlock ?_ | refine WS.exit rfl ?_ | refine WS.scope ?_ | refine WS.inScope ?_ | refine WS.region (by simp only [EV, TY, lget, ↓reduceIte, Nat.reduceEqDiff, decide_true, decide_false, eq_self]; with_reducible rfl) ?_)
          rw [bad (.inr (.inl ((idx_ge _ _).1 c5)))]
          refine WS.ret3s (t := 2) (u := 3) (q := 4) rfl rfl hl.pre rfl ?_ ?_ ?_
          all_goals
            simp only [EV, ↓reduceIte, Nat.reduceEqDiff, decide_true, decide_false, eq_self, and_true, true_and, and_self]
        have c5' : ¬ isIn spL c = true := fun h => c5 ((idx_ge _ _).2 h)
        obtain ⟨w, S2, f1, f2, f3⟩ := hb.app1 bt50 hl.1 c (by omega)
        have e3 : opSlice E0 9 (.str (c :: t)) (some (.int .i64 1)) none none = some (.str t) := sl_lo (E := E0) Tryd.underlying9 (c :: t) .i64 1 (by simp)
        by_cases c6 : out = []
        · have hz : (((out.length : Nat) : Int) == 0) = true := by simp [c6]
          by_cases c7 : c = 35
          · repeat (first | refine WS.seq ?_ | refine WS.skip ?_ | refine WS.label ?_ | refine WS.block ?_ | refine WS.inBlock ?_ | refine WS.exit rfl ?_ | refine WS.scope ?_ | refine WS.inScope ?_ | refine WS.region (by simp only [EV, TY, eq8f c4 0 rfl, callV_22, hI, c5, h5, hlen, hz, eq8t c7 35 rfl, ↓reduceIte, Nat.reduceEqDiff, decide_true, decide_false, eq_self]; with_reducible rfl) ?_)
            refine WS.cond_true (by simp only [EV, ↓reduceIte, Nat.reduceEqDiff, decide_true, decide_false, eq_self]) ?_
            repeat (first | refine WS.seq ?_ | refine WS.skip ?_ | refine WS.label ?_ | refine WS.block ?_ | refine WS.inBlock ?_ | refine WS.exit rfl ?_ | refine WS.scope ?_ | refine WS.inScope ?_ | refine WS.region (by simp only [EV, TY, lget, ↓reduceIte, Nat.reduceEqDiff, decide_true, decide_false, eq_self]; with_reducible rfl) ?_)
            rw [bad (.inr (.inr ⟨c6, .inl c7⟩))]
            refine WS.ret3s (t := 2) (u := 3) (q := 4) rfl rfl hl.pre rfl ?_ ?_ ?_
            all_goals
              simp only [EV, ↓reduceIte, Nat.reduceEqDiff, decide_true, decide_false, eq_self, and_true, true_and, and_self]
          by_cases c8 : c = 32
          · repeat (first | refine WS.seq ?_ | refine WS.skip ?_ | refine WS.label ?_ | refine WS.block ?_ | refine WS.inBlock ?_ | refine WS.exit rfl ?_ | refine WS.scope ?_ | refine WS.inScope ?_ | refine WS.region (by simp only [EV, TY, eq8f c4 0 rfl, callV_22, hI, c5, h5, hlen, hz, eq8f c7 35 rfl, eq8t c8 32 rfl, ↓reduceIte, Nat.reduceEqDiff, decide_true, decide_false, eq_self]; with_reducible rfl) ?_)
            refine WS.cond_true (by simp only [EV, ↓reduceIte, Nat.reduceEqDiff, decide_true, decide_false, eq_self]) ?_
            repeat (first | refine WS.seq ?_ | refine WS.skip ?_ | refine WS.label ?_ | refine WS.block ?_ | refine WS.inBlock ?_ | refine WS.exit rfl ?_ | refine WS.scope ?_ | refine WS.inScope ?_ | refine WS.region (by simp only [EV, TY, lget, ↓reduceIte, Nat.reduceEqDiff, decide_true, decide_false, eq_self]; with_reducible rfl) ?_)
            rw [bad (.inr (.inr ⟨c6, .inr c8⟩))]
            refine WS.ret3s (t := 2) (u := 3) (q := 4) rfl rfl hl.pre rfl ?_ ?_ ?_
            all_goals
              simp only [EV, ↓reduceIte, Nat.reduceEqDiff, decide_true, decide_false, eq_self, and_true, true_and, and_self]
          · repeat (first | refine WS.seq ?_ | refine WS.skip ?_ | refine WS.label ?_ | refine WS.block ?_ | refine WS.inBlock ?_ | refine WS.exit rfl ?_ | refine WS.scope ?_ | refine WS.inScope ?_ | refine WS.region (by simp only [EV, TY, eq8f c4 0 rfl, callV_22, hI, c5, h5, hlen, hz, eq8f c7 35 rfl, eq8f c8 32 rfl, ↓reduceIte, Nat.reduceEqDiff, decide_true, decide_false, eq_self]; with_reducible rfl) ?_)
            refine WS.cond_false (by simp only [EV, ↓reduceIte, Nat.reduceEqDiff, decide_true, decide_false, eq_self]) ?_
            repeat (first | refine WS.seq ?_ | refine WS.skip ?_ | refine WS.label ?_ | refine WS.block ?_ | refine WS.inBlock ?_ | refine WS.exit rfl ?_ | refine WS.scope ?_ | refine WS.inScope ?_)
            refine WS.draw (by simp only [evDraw_nil, evDraw_plain, isEff, isRead, List.all_nil, EV, TY, h0, h5, e3, mk1_ bt50, f1, ↓reduceIte, Nat.reduceEqDiff, decide_true, decide_false, eq_self]; with_reducible rfl) ?_
            repeat (first | refine WS.seq ?_ | refine WS.skip ?_ | refine WS.label ?_ | refine WS.block ?_ | refine WS.inBlock ?_ | refine WS.exit rfl ?_ | refine WS.scope ?_ | refine WS.inScope ?_)
            refine ih t.length _ _ (by simp) ⟨out ++ [c], true, t, w, rfl, by simp at hle ⊢; omega, ?_, ?_, ?_, good ?_, f2, hl.trans f3⟩
            · simp only [EV, h0, ↓reduceIte, Nat.reduceEqDiff, decide_true, decide_false, eq_self, and_true, true_and, and_self]
            · simp only [EV, ↓reduceIte, Nat.reduceEqDiff, decide_true, decide_false, eq_self, and_true, true_and, and_self]
            · simp only [EV, ↓reduceIte, Nat.reduceEqDiff, decide_true, decide_false, eq_self, and_true, true_and, and_self]
            · rintro (h | h | ⟨_, h | h⟩)
              · exact c4 h
              · exact c5' h
              · exact c7 h
              · exact c8 h
        · have hz : (((out.length : Nat) : Int) == 0) = false := by
            have := List.length_pos_iff.2 c6
            simp
            exact c6
          repeat (first | refine WS.seq ?_ | refine WS.skip ?_ | refine WS.label ?_ | refine WS.block ?_ | refine WS.inBlock ?_ | refine WS.exit rfl ?_ | refine WS.scope ?_ | refine WS.inScope ?_ | refine WS.region (by simp only [EV, TY, eq8f c4 0 rfl, callV_22, hI, c5, h5, hlen, hz, ↓reduceIte, Nat.reduceEqDiff, decide_true, decide_false, eq_self]; with_reducible rfl) ?_)
          refine WS.cond_false (by simp only [EV, ↓reduceIte, Nat.reduceEqDiff, decide_true, decide_false, eq_self]) ?_
          repeat (first | refine WS.seq ?_ | refine WS.skip ?_ | refine WS.label ?_ | refine WS.block ?_ | refine WS.inBlock ?_ | refine WS.exit rfl ?_ | refine WS.scope ?_ | refine WS.inScope ?_)
          refine WS.draw (by simp only [evDraw_nil, evDraw_plain, isEff, isRead, List.all_nil, EV, TY, h0, h5, e3, mk1_ bt50, f1, ↓reduceIte, Nat.reduceEqDiff, decide_true, decide_false, eq_self]; with_reducible rfl) ?_
          repeat (first | refine WS.seq ?_ | refine WS.skip ?_ | refine WS.label ?_ | refine WS.block ?_ | refine WS.inBlock ?_ | refine WS.exit rfl ?_ | refine WS.scope ?_ | refine WS.inScope ?_)
          refine ih t.length _ _ (by simp) ⟨out ++ [c], true, t, w, rfl, by simp at hle ⊢; omega, ?_, ?_, ?_, good ?_, f2, hl.trans f3⟩
          · simp only [EV, h0, ↓reduceIte, Nat.reduceEqDiff, decide_true, decide_false, eq_self, and_true, true_and, and_self]
          · simp only [EV, ↓reduceIte, Nat.reduceEqDiff, decide_true, decide_false, eq_self, and_true, true_and, and_self]
          · simp only [EV, ↓reduceIte, Nat.reduceEqDiff, decide_true, decide_false, eq_self, and_true, true_and, and_self]
          · rintro (h | h | ⟨h, _⟩)
            · exact c4 h
            · exact c5' h
            · exact c6 h
end Go.Proofs.YtjcckafjopjdbaaDoor
namespace Go.Proofs.YtjcckafjopjdbaaDoor
open Go Go.Vm
set_option maxRecDepth 100000
set_option maxHeartbeats 4000000
set_option linter.unusedSimpArgs false
set_option linter.unusedVariables false
theorem all256 {p : UInt8 → Bool} (h : (List.range 256).all (fun n => p (UInt8.ofNat n)) = true) (c : UInt8) : p c = true := by
  have := List.all_eq_true.1 h c.toNat (List.mem_range.2 c.toNat_lt)
  simpa using this
theorem sign_isIn (c : UInt8) : signZ c.toNat = isIn spL c := by
  have := all256 (p := fun c => signZ c.toNat == isIn spL c) (by decide +kernel) c
  simpa using this
theorem esc_isIn (c : UInt8) : isIn escL c = (signZ c.toNat || c == 35 || c == 61 || c == 32) := by
  have := all256 (p := fun c => isIn escL c == (signZ c.toNat || c == 35 || c == 61 || c == 32)) (by decide +kernel) c
  simpa using this
theorem hex_rel (c : UInt8) : (hexZ c.toNat = 16 ∧ dhex c < 0) ∨ (0 ≤ dhex c ∧ hexZ c.toNat = dhex c) := by
  have := all256 (p := fun c => (decide (hexZ c.toNat = 16) && decide (dhex c < 0)) || (decide (0 ≤ dhex c) && decide (hexZ c.toNat = dhex c))) (by decide +kernel) c
  simpa using this
theorem readL_bare (b b' : Bool) (s : List UInt8) : readL [] b s = readL [] b' s := by
  cases s with
  | nil =>
    rw [readL, readL]
    simp [finR]
  | cons c t =>
    rw [readL, readL]
    simp [finR]
def readsV (n : Nat) (r : Option (List UInt8 × List UInt8)) : V := match r with | none => .tup [.str [], .int .i64 (0 : Nat), .bool false] | some (v, r) => .tup [.str v, .int .i64 ((n - r.length : Nat)), .bool true]
theorem drop_cons (s : List UInt8) (i : Nat) (h : i < s.length) : s.drop i = s.getD i 0 :: s.drop (i + 1) := by
  rw [List.drop_eq_getElem_cons h]
  congr 1
  simp [List.getD_eq_getElem?_getD, h]
theorem getD_drop (s : List UInt8) (i j : Nat) : (s.drop i).getD j 0 = s.getD (i + j) 0 := by
  simp [List.getD_eq_getElem?_getD, List.getElem?_drop]
theorem reads_ok (s : List UInt8) (i0 : Nat) (S : Store) (hi0 : i0 ≤ s.length) (hs : s.length ≤ 1048576) : vrun E0 (.fn 25) [.str s, .int .i64 (i0 : Nat)] S = some (readsV s.length (readL [] true (s.drop i0)), S) := by
  refine fn_ws Tryd.func25 rfl ?_
  repeat (first | refine WS.seq ?_ | refine WS.skip ?_ | refine WS.label ?_ | refine WS.block ?_ | refine WS.inBlock ?_ | refine WS.exit rfl ?_ | refine WS.scope ?_ | refine WS.inScope ?_ | refine WS.region (by simp only [EV, TY, lget, ↓reduceIte, Nat.reduceEqDiff, decide_true, decide_false, eq_self]; with_reducible rfl) ?_)
  refine WS.loopB (fun j fr S' => ∃ out bare i v, j = s.length - i ∧ i ≤ s.length ∧ out.length ≤ i ∧ lget fr 0 = .str s ∧ lget fr 1 = .int .i64 (i : Nat) ∧ lget fr 7 = v ∧ lget fr 8 = .bool bare ∧ readL out bare (s.drop i) = readL [] true (s.drop i0) ∧ Buf 5 S.length S' v out ∧ Low S.length S S')
    (fun fr S' => ∃ out bare i v, i ≤ s.length ∧ out.length ≤ i ∧ lget fr 1 = .int .i64 (i : Nat) ∧ lget fr 7 = v ∧ lget fr 8 = .bool bare ∧ finR out bare (s.drop i) = readL [] true (s.drop i0) ∧ Buf 5 S.length S' v out ∧ Low S.length S S') (j := s.length - i0) ?_ ?_ ?_
  · refine ⟨[], false, i0, .slN, rfl, hi0, by simp, ?_, ?_, ?_, ?_, readL_bare _ _ _, Buf.new _ _ _, Low.refl (Nat.le_refl _)⟩
    all_goals
      simp only [EV, lget, ↓reduceIte, Nat.reduceEqDiff, decide_true, decide_false, eq_self, and_true, true_and, and_self]
  · rintro fr S' ⟨out, bare, i, v, hi, hle, h1, h7, h8, hR, hb, hl⟩
    rw [← hR]
    have hlen := hb.len bt50
    have e2 := hb.conv bt50 Tryd.underlying9
    have hend : s.length - (s.drop i).length = i := by simp; omega
    cases bare with
    | false =>
      repeat (first | refine WS.seq ?_ | refine WS.skip ?_ | refine WS.label ?_ | refine WS.block ?_ | refine WS.inBlock ?_ | refine WS.exit rfl ?_ | refine WS.scope ?_ | refine WS.inScope ?_ | refine WS.region (by simp only [EV, TY, h8, h7, hlen, lget, ↓reduceIte, Nat.reduceEqDiff, decide_true, decide_false, eq_self]; with_reducible rfl) ?_)
      refine WS.cond_false (by simp only [EV, ↓reduceIte, Nat.reduceEqDiff, decide_true, decide_false, eq_self]) ?_
      repeat (first | refine WS.seq ?_ | refine WS.skip ?_ | refine WS.label ?_ | refine WS.block ?_ | refine WS.inBlock ?_ | refine WS.exit rfl ?_ | refine WS.scope ?_ | refine WS.inScope ?_ | refine WS.region (by simp only [EV, TY, h7, h1, e2, ↓reduceIte, Nat.reduceEqDiff, decide_true, decide_false, eq_self]; with_reducible rfl) ?_)
      rw [show finR out false (s.drop i) = some (out, s.drop i) from if_neg (by simp)]
      simp only [readsV, hend]
      refine WS.ret3s (t := 4) (u := 5) (q := 6) rfl rfl hl.pre rfl ?_ ?_ ?_
      all_goals
        simp only [EV, ↓reduceIte, Nat.reduceEqDiff, decide_true, decide_false, eq_self, and_true, true_and, and_self]
    | true =>
      by_cases ho : out = []
      · have e1 : decide ((0 : Int) < ((out.length : Nat) : Int)) = false := by simp [ho]
        repeat (first | refine WS.seq ?_ | refine WS.skip ?_ | refine WS.label ?_ | refine WS.block ?_ | refine WS.inBlock ?_ | refine WS.exit rfl ?_ | refine WS.scope ?_ | refine WS.inScope ?_ | refine WS.region (by simp only [EV, TY, h8, h7, hlen, e1, ↓reduceIte, Nat.reduceEqDiff, decide_true, decide_false, eq_self]; with_reducible rfl) ?_)
        refine WS.cond_false (by simp only [EV, ↓reduceIte, Nat.reduceEqDiff, decide_true, decide_false, eq_self]) ?_
        repeat (first | refine WS.seq ?_ | refine WS.skip ?_ | refine WS.label ?_ | refine WS.block ?_ | refine WS.inBlock ?_ | refine WS.exit rfl ?_ | refine WS.scope ?_ | refine WS.inScope ?_ | refine WS.region (by simp only [EV, TY, h7, h1, e2, ↓reduceIte, Nat.reduceEqDiff, decide_true, decide_false, eq_self]; with_reducible rfl) ?_)
        rw [show finR out true (s.drop i) = some (out, s.drop i) from if_neg (fun h => h.1 ho)]
        simp only [readsV, hend]
        refine WS.ret3s (t := 4) (u := 5) (q := 6) rfl rfl hl.pre rfl ?_ ?_ ?_
        all_goals
          simp only [EV, ↓reduceIte, Nat.reduceEqDiff, decide_true, decide_false, eq_self, and_true, true_and, and_self]
      · have hpos : 0 < out.length := List.length_pos_iff.2 ho
        have e1 : decide ((0 : Int) < ((out.length : Nat) : Int)) = true := by simp; omega
        obtain ⟨a, a1, a2⟩ := hb.at_ bt50 .i64 (out.length - 1) (by omega)
        have e4 := wrap_sub1 out.length (by omega) (by omega)
        by_cases h32 : out.getD (out.length - 1) 0 = 32
        · repeat (first | refine WS.seq ?_ | refine WS.skip ?_ | refine WS.label ?_ | refine WS.block ?_ | refine WS.inBlock ?_ | refine WS.exit rfl ?_ | refine WS.scope ?_ | refine WS.inScope ?_ | refine WS.region (by simp only [EV, TY, h8, h7, hlen, e1, e4, a1, a2, eq8t h32 32 rfl, ↓reduceIte, Nat.reduceEqDiff, decide_true, decide_false, eq_self]; with_reducible rfl) ?_)
          refine WS.cond_true (by simp only [EV, ↓reduceIte, Nat.reduceEqDiff, decide_true, decide_false, eq_self]) ?_
          repeat (first | refine WS.seq ?_ | refine WS.skip ?_ | refine WS.label ?_ | refine WS.block ?_ | refine WS.inBlock ?_ | refine WS.exit rfl ?_ | refine WS.scope ?_ | refine WS.inScope ?_ | refine WS.region (by simp only [EV, TY, lget, ↓reduceIte, Nat.reduceEqDiff, decide_true, decide_false, eq_self]; with_reducible rfl) ?_)
          rw [show finR out true (s.drop i) = none from if_pos ⟨ho, h32, rfl⟩]
          simp only [readsV]
          refine WS.ret3s (t := 4) (u := 5) (q := 6) rfl rfl hl.pre rfl ?_ ?_ ?_
          all_goals
            simp only [EV, ↓reduceIte, Nat.reduceEqDiff, decide_true, decide_false, eq_self, and_true, true_and, and_self]
          rfl
        · repeat (first | refine WS.seq ?_ | refine WS.skip ?_ | refine WS.label ?_ | refine WS.block ?_ | refine WS.inBlock ?_ | refine WS.exit rfl ?_ | refine WS.scope ?_ | refine WS.inScope ?_ | refine WS.region (by simp only [EV, TY, h8, h7, hlen, e1, e4, a1, a2, eq8f h32 32 rfl, ↓reduceIte, Nat.reduceEqDiff, decide_true, decide_false, eq_self]; with_reducible rfl) ?_)
          refine WS.cond_false (by simp only [EV, ↓reduceIte, Nat.reduceEqDiff, decide_true, decide_false, eq_self]) ?_
          repeat (first | refine WS.seq ?_ | refine WS.skip ?_ | refine WS.label ?_ | refine WS.block ?_ | refine WS.inBlock ?_ | refine WS.exit rfl ?_ | refine WS.scope ?_ | refine WS.inScope ?_ | refine WS.region (by simp only [EV, TY, h7, h1, e2, ↓reduceIte, Nat.reduceEqDiff, decide_true, decide_false, eq_self]; with_reducible rfl) ?_)
          rw [show finR out true (s.drop i) = some (out, s.drop i) from if_neg (fun h => h32 h.2.1)]
          simp only [readsV, hend]
          refine WS.ret3s (t := 4) (u := 5) (q := 6) rfl rfl hl.pre rfl ?_ ?_ ?_
          all_goals
            simp only [EV, ↓reduceIte, Nat.reduceEqDiff, decide_true, decide_false, eq_self, and_true, true_and, and_self]
  · rintro j fr S' ⟨out, bare, i, v, rfl, hi, hle, h0, h1, h7, h8, hR, hb, hl⟩ ih last
    by_cases hlt : (i : Int) < (s.length : Int)
    · have hlt' : i < s.length := by omega
      have hd := drop_cons s i hlt'
      have e1 := idx_str_9 s .i64 i hlt'
      generalize hc : s.getD i 0 = c at hd e1
      have ex : (c = 44 ∨ c = 43) → finR out bare (s.drop i) = readL [] true (s.drop i0) := fun h => by rw [← hR, hd, readL, if_pos h]
      by_cases c1 : c = 44
      · repeat (first | refine WS.seq ?_ | refine WS.skip ?_ | refine WS.label ?_ | refine WS.block ?_ | refine WS.inBlock ?_ | refine WS.exit rfl ?_ | refine WS.scope ?_ | refine WS.inScope ?_ | refine WS.region (by simp only [EV, TY, h0, h1, hlt, e1, ne8f c1 44 rfl, ↓reduceIte, Nat.reduceEqDiff, decide_true, decide_false, eq_self]; with_reducible rfl) ?_)
        refine WS.cond_false (by simp only [EV, ↓reduceIte, Nat.reduceEqDiff, decide_true, decide_false, eq_self]) ?_
        refine WS.exit rfl ?_
        refine last _ _ ⟨out, bare, i, v, hi, hle, ?_, ?_, ?_, ex (.inl c1), hb, hl⟩
        all_goals
          simp only [EV, h1, h7, h8, ↓reduceIte, Nat.reduceEqDiff, decide_true, decide_false, eq_self, and_true, true_and, and_self]
      by_cases c2 : c = 43
      · repeat (first | refine WS.seq ?_ | refine WS.skip ?_ | refine WS.label ?_ | refine WS.block ?_ | refine WS.inBlock ?_ | refine WS.exit rfl ?_ | refine WS.scope ?_ | refine WS.inScope ?_ | refine WS.region (by simp only [EV, TY, h0, h1, hlt, e1, ne8t c1 44 rfl, ne8f c2 43 rfl, ↓reduceIte, Nat.reduceEqDiff, decide_true, decide_false, eq_self]; with_reducible rfl) ?_)
        refine WS.cond_false (by simp only [EV, ↓reduceIte, Nat.reduceEqDiff, decide_true, decide_false, eq_self]) ?_
        refine WS.exit rfl ?_
        refine last _ _ ⟨out, bare, i, v, hi, hle, ?_, ?_, ?_, ex (.inr c2), hb, hl⟩
        all_goals
          simp only [EV, h1, h7, h8, ↓reduceIte, Nat.reduceEqDiff, decide_true, decide_false, eq_self, and_true, true_and, and_self]
      have c12 : ¬ (c = 44 ∨ c = 43) := fun h => h.elim c1 c2
      repeat (first | refine WS.seq ?_ | refine WS.skip ?_ | refine WS.label ?_ | refine WS.block ?_ | refine WS.inBlock ?_ | refine WS.exit rfl ?_ | refine WS.scope ?_ | refine WS.inScope ?_ | refine WS.region (by simp only [EV, TY, h0, h1, hlt, e1, ne8t c1 44 rfl, ne8t c2 43 rfl, ↓reduceIte, Nat.reduceEqDiff, decide_true, decide_false, eq_self]; with_reducible rfl) ?_)
      refine WS.cond_true (by simp only [EV, ↓reduceIte, Nat.reduceEqDiff, decide_true, decide_false, eq_self]) ?_
      repeat (first | refine WS.seq ?_ | refine WS.skip ?_ | refine WS.label ?_ | refine WS.block ?_ | refine WS.inBlock ?_ | refine WS.exit rfl ?_ | refine WS.scope ?_ | refine WS.inScope ?_ | refine WS.region (by simp only [EV, TY, h0, h1, e1, callV_47, signs_ok, sign_isIn, ↓reduceIte, Nat.reduceEqDiff, decide_true, decide_false, eq_self]; with_reducible rfl) ?_)
      by_cases c3 : c = 92
      · have step : readL out bare (s.drop i) = if (escS (s.drop i)).2 = 0 then none else readL (out ++ [(escS (s.drop i)).1]) false (s.drop (i + (escS (s.drop i)).2)) := by
          rw [hd, readL, if_neg c12, if_pos c3]
          by_cases n0 : (escS (c :: s.drop (i + 1))).2 = 0
          · rw [dif_pos n0, if_pos n0]
          · rw [dif_neg n0, if_neg n0, ← hd, List.drop_drop]
        have escE : escS (s.drop i) = if 1 < s.length - i ∧ isIn escL (s.getD (i + 1) 0) = true then (s.getD (i + 1) 0, 2) else if 2 < s.length - i ∧ 0 ≤ dhex (s.getD (i + 1) 0) ∧ 0 ≤ dhex (s.getD (i + 2) 0) then (hexByte (s.getD (i + 1) 0) (s.getD (i + 2) 0), 3) else (0, 0) := by
          rw [escS, List.length_drop, getD_drop, getD_drop]
        have none_ : (escS (s.drop i)).2 = 0 → readL [] true (s.drop i0) = none := fun h => by rw [← hR, step, if_pos h]
        refine WS.cond_false (by simp only [EV, ne8f c3 92 rfl, ↓reduceIte, Nat.reduceEqDiff, decide_true, decide_false, eq_self]) ?_
        by_cases l1 : (s.length : Int) ≤ ((i + 1 : Nat) : Int)
        · have : (escS (s.drop i)).2 = 0 := by rw [escE, if_neg (by omega), if_neg (by omega)]
          repeat (first | refine WS.seq ?_ | refine WS.skip ?_ | refine WS.label ?_ | refine WS.block ?_ | refine WS.inBlock ?_ | refine WS.exit rfl ?_ | refine WS.scope ?_ | refine WS.inScope ?_ | refine WS.region (by simp only [EV, TY, h0, h1, wrap_inc i (by omega), l1, ↓reduceIte, Nat.reduceEqDiff, decide_true, decide_false, eq_self]; with_reducible rfl) ?_)
          refine WS.cond_true (by simp only [EV, lget, ↓reduceIte, Nat.reduceEqDiff, decide_true, decide_false, eq_self]) ?_
          repeat (first | refine WS.seq ?_ | refine WS.skip ?_ | refine WS.label ?_ | refine WS.block ?_ | refine WS.inBlock ?_ | refine WS.exit rfl ?_ | refine WS.scope ?_ | refine WS.inScope ?_ | refine WS.region (by simp only [EV, TY, lget, ↓reduceIte, Nat.reduceEqDiff, decide_true, decide_false, eq_self]; with_reducible rfl) ?_)
          rw [none_ this]
          simp only [readsV]
          refine WS.ret3s (t := 4) (u := 5) (q := 6) rfl rfl hl.pre rfl ?_ ?_ ?_
          all_goals
            simp only [EV, ↓reduceIte, Nat.reduceEqDiff, decide_true, decide_false, eq_self, and_true, true_and, and_self]
          rfl
        · have e2 := idx_str_9 s .i64 (i + 1) (by omega)
          generalize hc1 : s.getD (i + 1) 0 = d at e2 escE
          repeat (first | refine WS.seq ?_ | refine WS.skip ?_ | refine WS.label ?_ | refine WS.block ?_ | refine WS.inBlock ?_ | refine WS.exit rfl ?_ | refine WS.scope ?_ | refine WS.inScope ?_ | refine WS.region (by simp only [EV, TY, h0, h1, wrap_inc i (by omega), l1, ↓reduceIte, Nat.reduceEqDiff, decide_true, decide_false, eq_self]; with_reducible rfl) ?_)
          refine WS.cond_false (by simp only [EV, lget, ↓reduceIte, Nat.reduceEqDiff, decide_true, decide_false, eq_self]) ?_
          repeat (first | refine WS.seq ?_ | refine WS.skip ?_ | refine WS.label ?_ | refine WS.block ?_ | refine WS.inBlock ?_ | refine WS.exit rfl ?_ | refine WS.scope ?_ | refine WS.inScope ?_ | refine WS.region (by simp only [EV, TY, h0, h1, wrap_inc i (by omega), e2, callV_47, signs_ok, sign_isIn, ↓reduceIte, Nat.reduceEqDiff, decide_true, decide_false, eq_self]; with_reducible rfl) ?_)
          have two : isIn escL d = true → readL (out ++ [d]) false (s.drop (i + 2)) = readL [] true (s.drop i0) := fun h => by
            have e : escS (s.drop i) = (d, 2) := by rw [escE, if_pos ⟨by omega, h⟩]
            rw [← hR, step, e, if_neg (by simp)]
          obtain ⟨w, S2, f1, f2, f3⟩ := hb.app1 bt50 hl.1 d (by omega)
          have e5 : IntKind.i64.wrap ((i : Int) + 2) = ((i + 2 : Nat) : Int) := wrap_addN i 2 (by omega)
          have esc := esc_isIn d
          rw [sign_isIn] at esc
          by_cases d1 : isIn spL d = true
          · repeat (first | refine WS.seq ?_ | refine WS.skip ?_ | refine WS.label ?_ | refine WS.block ?_ | refine WS.inBlock ?_ | refine WS.exit rfl ?_ | refine WS.scope ?_ | refine WS.inScope ?_ | refine WS.region (by simp only [EV, TY, d1, ↓reduceIte, Nat.reduceEqDiff, decide_true, decide_false, eq_self]; with_reducible rfl) ?_)
            refine WS.cond_true (by simp only [EV, d1, ↓reduceIte, Nat.reduceEqDiff, decide_true, decide_false, eq_self]) ?_
            repeat (first | refine WS.seq ?_ | refine WS.skip ?_ | refine WS.label ?_ | refine WS.block ?_ | refine WS.inBlock ?_ | refine WS.exit rfl ?_ | refine WS.scope ?_ | refine WS.inScope ?_ | refine WS.region (by simp only [EV, TY, h1, h7, mk1_ bt50, f1, e5, ↓reduceIte, Nat.reduceEqDiff, decide_true, decide_false, eq_self]; with_reducible rfl) ?_)
            refine ih (s.length - (i + 2)) _ _ (by omega) ⟨out ++ [d], false, i + 2, w, rfl, by omega, by simp; omega, ?_, ?_, ?_, ?_, two (by rw [esc]; simp [d1]), f2, hl.trans f3⟩
            all_goals
              simp only [EV, h0, ne8f c3 92 rfl, ↓reduceIte, Nat.reduceEqDiff, decide_true, decide_false, eq_self, and_true, true_and, and_self]
          have d1 : isIn spL d = false := by simpa using d1
          by_cases d2 : d = 35
          · repeat (first | refine WS.seq ?_ | refine WS.skip ?_ | refine WS.label ?_ | refine WS.block ?_ | refine WS.inBlock ?_ | refine WS.exit rfl ?_ | refine WS.scope ?_ | refine WS.inScope ?_ | refine WS.region (by simp only [EV, TY, d1, eq8t d2 35 rfl, ↓reduceIte, Nat.reduceEqDiff, decide_true, decide_false, eq_self]; with_reducible rfl) ?_)
            refine WS.cond_true (by simp only [EV, d1, eq8t d2 35 rfl, ↓reduceIte, Nat.reduceEqDiff, decide_true, decide_false, eq_self]) ?_
            repeat (first | refine WS.seq ?_ | refine WS.skip ?_ | refine WS.label ?_ | refine WS.block ?_ | refine WS.inBlock ?_ | refine WS.exit rfl ?_ | refine WS.scope ?_ | refine WS.inScope ?_ | refine WS.region (by simp only [EV, TY, h1, h7, mk1_ bt50, f1, e5, ↓reduceIte, Nat.reduceEqDiff, decide_true, decide_false, eq_self]; with_reducible rfl) ?_)
            refine ih (s.length - (i + 2)) _ _ (by omega) ⟨out ++ [d], false, i + 2, w, rfl, by omega, by simp; omega, ?_, ?_, ?_, ?_, two (by rw [esc]; simp [d2]), f2, hl.trans f3⟩
            all_goals
              simp only [EV, h0, ne8f c3 92 rfl, ↓reduceIte, Nat.reduceEqDiff, decide_true, decide_false, eq_self, and_true, true_and, and_self]
          by_cases d3 : d = 61
          · repeat (first | refine WS.seq ?_ | refine WS.skip ?_ | refine WS.label ?_ | refine WS.block ?_ | refine WS.inBlock ?_ | refine WS.exit rfl ?_ | refine WS.scope ?_ | refine WS.inScope ?_ | refine WS.region (by simp only [EV, TY, d1, eq8f d2 35 rfl, eq8t d3 61 rfl, ↓reduceIte, Nat.reduceEqDiff, decide_true, decide_false, eq_self]; with_reducible rfl) ?_)
            refine WS.cond_true (by simp only [EV, d1, eq8f d2 35 rfl, eq8t d3 61 rfl, ↓reduceIte, Nat.reduceEqDiff, decide_true, decide_false, eq_self]) ?_
            repeat (first | refine WS.seq ?_ | refine WS.skip ?_ | refine WS.label ?_ | refine WS.block ?_ | refine WS.inBlock ?_ | refine WS.exit rfl ?_ | refine WS.scope ?_ | refine WS.inScope ?_ | refine WS.region (by simp only [EV, TY, h1, h7, mk1_ bt50, f1, e5, ↓reduceIte, Nat.reduceEqDiff, decide_true, decide_false, eq_self]; with_reducible rfl) ?_)
            refine ih (s.length - (i + 2)) _ _ (by omega) ⟨out ++ [d], false, i + 2, w, rfl, by omega, by simp; omega, ?_, ?_, ?_, ?_, two (by rw [esc]; simp [d3]), f2, hl.trans f3⟩
            all_goals
              simp only [EV, h0, ne8f c3 92 rfl, ↓reduceIte, Nat.reduceEqDiff, decide_true, decide_false, eq_self, and_true, true_and, and_self]
          by_cases d4 : d = 32
          · repeat (first | refine WS.seq ?_ | refine WS.skip ?_ | refine WS.label ?_ | refine WS.block ?_ | refine WS.inBlock ?_ | refine WS.exit rfl ?_ | refine WS.scope ?_ | refine WS.inScope ?_ | refine WS.region (by simp only [EV, TY, d1, eq8f d2 35 rfl, eq8f d3 61 rfl, eq8t d4 32 rfl, ↓reduceIte, Nat.reduceEqDiff, decide_true, decide_false, eq_self]; with_reducible rfl) ?_)
            refine WS.cond_true (by simp only [EV, d1, eq8f d2 35 rfl, eq8f d3 61 rfl, eq8t d4 32 rfl, ↓reduceIte, Nat.reduceEqDiff, decide_true, decide_false, eq_self]) ?_
            repeat (first | refine WS.seq ?_ | refine WS.skip ?_ | refine WS.label ?_ | refine WS.block ?_ | refine WS.inBlock ?_ | refine WS.exit rfl ?_ | refine WS.scope ?_ | refine WS.inScope ?_ | refine WS.region (by simp only [EV, TY, h1, h7, mk1_ bt50, f1, e5, ↓reduceIte, Nat.reduceEqDiff, decide_true, decide_false, eq_self]; with_reducible rfl) ?_)
            refine ih (s.length - (i + 2)) _ _ (by omega) ⟨out ++ [d], false, i + 2, w, rfl, by omega, by simp; omega, ?_, ?_, ?_, ?_, two (by rw [esc]; simp [d4]), f2, hl.trans f3⟩
            all_goals
              simp only [EV, h0, ne8f c3 92 rfl, ↓reduceIte, Nat.reduceEqDiff, decide_true, decide_false, eq_self, and_true, true_and, and_self]
          have esc0 : isIn escL d = false := by rw [esc]; simp [d1, d2, d3, d4]
          rw [if_neg (by simp [esc0])] at escE
          repeat (first | refine WS.seq ?_ | refine WS.skip ?_ | refine WS.label ?_ | refine WS.block ?_ | refine WS.inBlock ?_ | refine WS.exit rfl ?_ | refine WS.scope ?_ | refine WS.inScope ?_ | refine WS.region (by simp only [EV, TY, d1, eq8f d2 35 rfl, eq8f d3 61 rfl, eq8f d4 32 rfl, ↓reduceIte, Nat.reduceEqDiff, decide_true, decide_false, eq_self]; with_reducible rfl) ?_)
          refine WS.cond_false (by simp only [EV, d1, eq8f d2 35 rfl, eq8f d3 61 rfl, eq8f d4 32 rfl, ↓reduceIte, Nat.reduceEqDiff, decide_true, decide_false, eq_self]) ?_
          by_cases l2 : (s.length : Int) ≤ ((i + 2 : Nat) : Int)
          · have : (escS (s.drop i)).2 = 0 := by rw [escE, if_neg (by omega)]
            repeat (first | refine WS.seq ?_ | refine WS.skip ?_ | refine WS.label ?_ | refine WS.block ?_ | refine WS.inBlock ?_ | refine WS.exit rfl ?_ | refine WS.scope ?_ | refine WS.inScope ?_ | refine WS.region (by simp only [EV, TY, h0, h1, e5, l2, ↓reduceIte, Nat.reduceEqDiff, decide_true, decide_false, eq_self]; with_reducible rfl) ?_)
            refine WS.cond_true (by simp only [EV, lget, ↓reduceIte, Nat.reduceEqDiff, decide_true, decide_false, eq_self]) ?_
            repeat (first | refine WS.seq ?_ | refine WS.skip ?_ | refine WS.label ?_ | refine WS.block ?_ | refine WS.inBlock ?_ | refine WS.exit rfl ?_ | refine WS.scope ?_ | refine WS.inScope ?_ | refine WS.region (by simp only [EV, TY, lget, ↓reduceIte, Nat.reduceEqDiff, decide_true, decide_false, eq_self]; with_reducible rfl) ?_)
            rw [none_ this]
            simp only [readsV]
            refine WS.ret3s (t := 4) (u := 5) (q := 6) rfl rfl hl.pre rfl ?_ ?_ ?_
            all_goals
              simp only [EV, ↓reduceIte, Nat.reduceEqDiff, decide_true, decide_false, eq_self, and_true, true_and, and_self]
            rfl
          · have e3 := idx_str_9 s .i64 (i + 2) (by omega)
            generalize hc2 : s.getD (i + 2) 0 = g at e3 escE
            repeat (first | refine WS.seq ?_ | refine WS.skip ?_ | refine WS.label ?_ | refine WS.block ?_ | refine WS.inBlock ?_ | refine WS.exit rfl ?_ | refine WS.scope ?_ | refine WS.inScope ?_ | refine WS.region (by simp only [EV, TY, h0, h1, e5, l2, ↓reduceIte, Nat.reduceEqDiff, decide_true, decide_false, eq_self]; with_reducible rfl) ?_)
            refine WS.cond_false (by simp only [EV, lget, ↓reduceIte, Nat.reduceEqDiff, decide_true, decide_false, eq_self]) ?_
            have x1 := hex_ok d.toNat (by omega) (by have := d.toNat_lt; omega) S'
            have x2 := hex_ok g.toNat (by omega) (by have := g.toNat_lt; omega) S'
            repeat (first | refine WS.seq ?_ | refine WS.skip ?_ | refine WS.label ?_ | refine WS.block ?_ | refine WS.inBlock ?_ | refine WS.exit rfl ?_ | refine WS.scope ?_ | refine WS.inScope ?_ | refine WS.region (by simp only [EV, TY, h0, h1, e5, e3, callV_48, x1, x2, ↓reduceIte, Nat.reduceEqDiff, decide_true, decide_false, eq_self]; with_reducible rfl) ?_)
            rcases hex_rel d with ⟨y1, y2⟩ | ⟨y1, y2⟩
            · have y3 : (hexZ (d.toNat : Int) == 16) = true := by simp [y1]
              have : (escS (s.drop i)).2 = 0 := by rw [escE, if_neg (fun h => by omega)]
              repeat (first | refine WS.seq ?_ | refine WS.skip ?_ | refine WS.label ?_ | refine WS.block ?_ | refine WS.inBlock ?_ | refine WS.exit rfl ?_ | refine WS.scope ?_ | refine WS.inScope ?_ | refine WS.region (by simp only [EV, TY, y3, ↓reduceIte, Nat.reduceEqDiff, decide_true, decide_false, eq_self]; with_reducible rfl) ?_)
              refine WS.cond_true (by simp only [EV, y3, ↓reduceIte, Nat.reduceEqDiff, decide_true, decide_false, eq_self]) ?_
              repeat (first | refine WS.seq ?_ | refine WS.skip ?_ | refine WS.label ?_ | refine WS.block ?_ | refine WS.inBlock ?_ | refine WS.exit rfl ?_ | refine WS.scope ?_ | refine WS.inScope ?_ | refine WS.region (by simp only [EV, TY, lget, ↓reduceIte, Nat.reduceEqDiff, decide_true, decide_false, eq_self]; with_reducible rfl) ?_)
              rw [none_ this]
              simp only [readsV]
              refine WS.ret3s (t := 4) (u := 5) (q := 6) rfl rfl hl.pre rfl ?_ ?_ ?_
              all_goals
                simp only [EV, ↓reduceIte, Nat.reduceEqDiff, decide_true, decide_false, eq_self, and_true, true_and, and_self]
              rfl
            have lt1 := dhex_lt d
            have y3 : (hexZ (d.toNat : Int) == 16) = false := by simp; omega
            rcases hex_rel g with ⟨z1, z2⟩ | ⟨z1, z2⟩
            · have z3 : (hexZ (g.toNat : Int) == 16) = true := by simp [z1]
              have : (escS (s.drop i)).2 = 0 := by rw [escE, if_neg (fun h => by omega)]
              repeat (first | refine WS.seq ?_ | refine WS.skip ?_ | refine WS.label ?_ | refine WS.block ?_ | refine WS.inBlock ?_ | refine WS.exit rfl ?_ | refine WS.scope ?_ | refine WS.inScope ?_ | refine WS.region (by simp only [EV, TY, y3, z3, ↓reduceIte, Nat.reduceEqDiff, decide_true, decide_false, eq_self]; with_reducible rfl) ?_)
              refine WS.cond_true (by simp only [EV, y3, z3, ↓reduceIte, Nat.reduceEqDiff, decide_true, decide_false, eq_self]) ?_
              repeat (first | refine WS.seq ?_ | refine WS.skip ?_ | refine WS.label ?_ | refine WS.block ?_ | refine WS.inBlock ?_ | refine WS.exit rfl ?_ | refine WS.scope ?_ | refine WS.inScope ?_ | refine WS.region (by simp only [EV, TY, lget, ↓reduceIte, Nat.reduceEqDiff, decide_true, decide_false, eq_self]; with_reducible rfl) ?_)
              rw [none_ this]
              simp only [readsV]
              refine WS.ret3s (t := 4) (u := 5) (q := 6) rfl rfl hl.pre rfl ?_ ?_ ?_
              all_goals
                simp only [EV, ↓reduceIte, Nat.reduceEqDiff, decide_true, decide_false, eq_self, and_true, true_and, and_self]
              rfl
            have lt2 := dhex_lt g
            have z3 : (hexZ (g.toNat : Int) == 16) = false := by simp; omega
            have three : readL (out ++ [hexByte d g]) false (s.drop (i + 3)) = readL [] true (s.drop i0) := by
              have e : escS (s.drop i) = (hexByte d g, 3) := by rw [escE, if_pos ⟨by omega, y1, z1⟩]
              rw [← hR, step, e, if_neg (by simp)]
            have hb1 : (hexByte d g).toNat = 16 * (dhex d).toNat + (dhex g).toNat := by
              unfold hexByte
              rw [UInt8.toNat_ofNat_of_lt']
              show _ < 256
              omega
            have e6 : IntKind.u8.wrap (IntKind.i64.wrap (IntKind.i64.wrap (16 * hexZ (d.toNat : Int)) + hexZ (g.toNat : Int))) = (((hexByte d g).toNat : Nat) : Int) := by
              rw [y2, z2, wrap_i64 (n := 16 * dhex d) (by omega) (by omega), wrap_i64 (by omega) (by omega), wrap_u8, hb1]
              omega
            have e7 : IntKind.i64.wrap ((i : Int) + 3) = ((i + 3 : Nat) : Int) := wrap_addN i 3 (by omega)
            obtain ⟨w, S2, f1, f2, f3⟩ := hb.app1 bt50 hl.1 (hexByte d g) (by omega)
            repeat (first | refine WS.seq ?_ | refine WS.skip ?_ | refine WS.label ?_ | refine WS.block ?_ | refine WS.inBlock ?_ | refine WS.exit rfl ?_ | refine WS.scope ?_ | refine WS.inScope ?_ | refine WS.region (by simp only [EV, TY, y3, z3, ↓reduceIte, Nat.reduceEqDiff, decide_true, decide_false, eq_self]; with_reducible rfl) ?_)
            refine WS.cond_false (by simp only [EV, y3, z3, ↓reduceIte, Nat.reduceEqDiff, decide_true, decide_false, eq_self]) ?_
            repeat (first | refine WS.seq ?_ | refine WS.skip ?_ | refine WS.label ?_ | refine WS.block ?_ | refine WS.inBlock ?_ | refine WS.exit rfl ?_ | refine WS.scope ?_ | refine WS.inScope ?_ | refine WS.region (by simp only [EV, TY, h1, h7, conv_35, e6, mk1_ bt50, f1, e7, ↓reduceIte, Nat.reduceEqDiff, decide_true, decide_false, eq_self]; with_reducible rfl) ?_)
            refine ih (s.length - (i + 3)) _ _ (by omega) ⟨out ++ [hexByte d g], false, i + 3, w, rfl, by omega, by simp; omega, ?_, ?_, ?_, ?_, three, f2, hl.trans f3⟩
            all_goals
              simp only [EV, h0, ne8f c3 92 rfl, ↓reduceIte, Nat.reduceEqDiff, decide_true, decide_false, eq_self, and_true, true_and, and_self]
      · have hlen := hb.len bt50
        have step : readL out bare (s.drop i) = if c = 0 ∨ isIn spL c = true ∨ (out = [] ∧ (c = 35 ∨ c = 32)) then none else readL (out ++ [c]) true (s.drop (i + 1)) := by rw [hd, readL, if_neg c12, if_neg c3]
        have bad : (c = 0 ∨ isIn spL c = true ∨ (out = [] ∧ (c = 35 ∨ c = 32))) → readL [] true (s.drop i0) = none := fun h => by rw [← hR, step, if_pos h]
        have good : ¬ (c = 0 ∨ isIn spL c = true ∨ (out = [] ∧ (c = 35 ∨ c = 32))) → readL (out ++ [c]) true (s.drop (i + 1)) = readL [] true (s.drop i0) := fun h => by rw [← hR, step, if_neg h]
        obtain ⟨w, S2, f1, f2, f3⟩ := hb.app1 bt50 hl.1 c (by omega)
        refine WS.cond_true (by simp only [EV, ne8t c3 92 rfl, ↓reduceIte, Nat.reduceEqDiff, decide_true, decide_false, eq_self]) ?_
        by_cases c4 : c = 0
        · repeat (first | refine WS.seq ?_ | refine WS.skip ?_ | refine WS.label ?_ | refine WS.block ?_ | refine WS.inBlock ?_ | refine WS.exit rfl ?_ | refine WS.scope ?_ | refine WS.inScope ?_ | refine WS.region (by simp only [EV, TY, eq8t c4 0 rfl, ↓reduceIte, Nat.reduceEqDiff, decide_true, decide_false, eq_self]; with_reducible rfl) ?_)
          refine WS.cond_true (by simp only [EV, eq8t c4 0 rfl, ↓reduceIte, Nat.reduceEqDiff, decide_true, decide_false, eq_self]) ?_
          repeat (first | refine WS.seq ?_ | refine WS.skip ?_ | refine WS.label ?_ | refine WS.block ?_ | refine WS.inBlock ?_ | refine WS.exit rfl ?_ | refine WS.scope ?_ | refine WS.inScope ?_ | refine WS.region (by simp only [EV, TY, lget, ↓reduceIte, Nat.reduceEqDiff, decide_true, decide_false, eq_self]; with_reducible rfl) ?_)
          rw [bad (.inl c4)]
          simp only [readsV]
          refine WS.ret3s (t := 4) (u := 5) (q := 6) rfl rfl hl.pre rfl ?_ ?_ ?_
          all_goals
            simp only [EV, ↓reduceIte, Nat.reduceEqDiff, decide_true, decide_false, eq_self, and_true, true_and, and_self]
          rfl
        by_cases c5 : isIn spL c = true
        · repeat (first | refine WS.seq ?_ | refine WS.skip ?_ | refine WS.label ?_ | refine WS.block ?_ | refine WS.inBlock ?_ | refine WS.exit rfl ?_ | refine WS.scope ?_ | refine WS.inScope ?_ | refine WS.region (by simp only [EV, TY, eq8f c4 0 rfl, c5, ↓reduceIte, Nat.reduceEqDiff, decide_true, decide_false, eq_self]; with_reducible rfl) ?_)
          refine WS.cond_true (by simp only [EV, eq8f c4 0 rfl, c5, ↓reduceIte, Nat.reduceEqDiff, decide_true, decide_false, eq_self]) ?_
          repeat (first | refine WS.seq ?_ | refine WS.skip ?_ | refine WS.label ?_ | refine WS.block ?_ | refine WS.inBlock ?_ | refine WS.exit rfl ?_ | refine WS.scope ?_ | refine WS.inScope ?_ | refine WS.region (by simp only [EV, TY, lget, ↓reduceIte, Nat.reduceEqDiff, decide_true, decide_false, eq_self]; with_reducible rfl) ?_)
          rw [bad (.inr (.inl c5))]
          simp only [readsV]
          refine WS.ret3s (t := 4) (u := 5) (q := 6) rfl rfl hl.pre rfl ?_ ?_ ?_
          all_goals
            simp only [EV, ↓reduceIte, Nat.reduceEqDiff, decide_true, decide_false, eq_self, and_true, true_and, and_self]
          rfl
        have c5' : isIn spL c = false := by simpa using c5
        by_cases c6 : out = []
        · have hz : (((out.length : Nat) : Int) == 0) = true := by simp [c6]
          by_cases c7 : c = 35
          · repeat (first | refine WS.seq ?_ | refine WS.skip ?_ | refine WS.label ?_ | refine WS.block ?_ | refine WS.inBlock ?_ | refine WS.exit rfl ?_ | refine WS.scope ?_ | refine WS.inScope ?_ | refine WS.region (by simp only [EV, TY, eq8f c4 0 rfl, c5', h7, hlen, hz, eq8t c7 35 rfl, ↓reduceIte, Nat.reduceEqDiff, decide_true, decide_false, eq_self]; with_reducible rfl) ?_)
            refine WS.cond_true (by simp only [EV, eq8f c4 0 rfl, c5', h7, hlen, hz, eq8t c7 35 rfl, ↓reduceIte, Nat.reduceEqDiff, decide_true, decide_false, eq_self]) ?_
            repeat (first | refine WS.seq ?_ | refine WS.skip ?_ | refine WS.label ?_ | refine WS.block ?_ | refine WS.inBlock ?_ | refine WS.exit rfl ?_ | refine WS.scope ?_ | refine WS.inScope ?_ | refine WS.region (by simp only [EV, TY, lget, ↓reduceIte, Nat.reduceEqDiff, decide_true, decide_false, eq_self]; with_reducible rfl) ?_)
            rw [bad (.inr (.inr ⟨c6, .inl c7⟩))]
            simp only [readsV]
            refine WS.ret3s (t := 4) (u := 5) (q := 6) rfl rfl hl.pre rfl ?_ ?_ ?_
            all_goals
              simp only [EV, ↓reduceIte, Nat.reduceEqDiff, decide_true, decide_false, eq_self, and_true, true_and, and_self]
            rfl
          by_cases c8 : c = 32
          · repeat (first | refine WS.seq ?_ | refine WS.skip ?_ | refine WS.label ?_ | refine WS.block ?_ | refine WS.inBlock ?_ | refine WS.exit rfl ?_ | refine WS.scope ?_ | refine WS.inScope ?_ | refine WS.region (by simp only [EV, TY, eq8f c4 0 rfl, c5', h7, hlen, hz, eq8f c7 35 rfl, eq8t c8 32 rfl, ↓reduceIte, Nat.reduceEqDiff, decide_true, decide_false, eq_self]; with_reducible rfl) ?_)
            refine WS.cond_true (by simp only [EV, eq8f c4 0 rfl, c5', h7, hlen, hz, eq8f c7 35 rfl, eq8t c8 32 rfl, ↓reduceIte, Nat.reduceEqDiff, decide_true, decide_false, eq_self]) ?_
            repeat (first | refine WS.seq ?_ | refine WS.skip ?_ | refine WS.label ?_ | refine WS.block ?_ | refine WS.inBlock ?_ | refine WS.exit rfl ?_ | refine WS.scope ?_ | refine WS.inScope ?_ | refine WS.region (by simp only [EV, TY, lget, ↓reduceIte, Nat.reduceEqDiff, decide_true, decide_false, eq_self]; with_reducible rfl) ?_)
            rw [bad (.inr (.inr ⟨c6, .inr c8⟩))]
            simp only [readsV]
            refine WS.ret3s (t := 4) (u := 5) (q := 6) rfl rfl hl.pre rfl ?_ ?_ ?_
            all_goals
              simp only [EV, ↓reduceIte, Nat.reduceEqDiff, decide_true, decide_false, eq_self, and_true, true_and, and_self]
            rfl
          · repeat (first | refine WS.seq ?_ | refine WS.skip ?_ | refine WS.label ?_ | refine WS.block ?_ | refine WS.inBlock ?_ | refine WS.exit rfl ?_ | refine WS.scope ?_ | refine WS.inScope ?_ | refine WS.region (by simp only [EV, TY, eq8f c4 0 rfl, c5', h7, hlen, hz, eq8f c7 35 rfl, eq8f c8 32 rfl, ↓reduceIte, Nat.reduceEqDiff, decide_true, decide_false, eq_self]; with_reducible rfl) ?_)
            refine WS.cond_false (by simp only [EV, eq8f c4 0 rfl, hz, eq8f c7 35 rfl, eq8f c8 32 rfl, ↓reduceIte, Nat.reduceEqDiff, decide_true, decide_false, eq_self]) ?_
            repeat (first | refine WS.seq ?_ | refine WS.skip ?_ | refine WS.label ?_ | refine WS.block ?_ | refine WS.inBlock ?_ | refine WS.exit rfl ?_ | refine WS.scope ?_ | refine WS.inScope ?_ | refine WS.region (by simp only [EV, TY, h1, h7, mk1_ bt50, f1, wrap_inc i (by omega), ↓reduceIte, Nat.reduceEqDiff, decide_true, decide_false, eq_self]; with_reducible rfl) ?_)
            refine ih (s.length - (i + 1)) _ _ (by omega) ⟨out ++ [c], true, i + 1, w, rfl, by omega, by simp; omega, ?_, ?_, ?_, ?_, good ?_, f2, hl.trans f3⟩
            · simp only [EV, h0, ↓reduceIte, Nat.reduceEqDiff, decide_true, decide_false, eq_self, and_true, true_and, and_self]
            · simp only [EV, ↓reduceIte, Nat.reduceEqDiff, decide_true, decide_false, eq_self, and_true, true_and, and_self]
            · simp only [EV, ↓reduceIte, Nat.reduceEqDiff, decide_true, decide_false, eq_self, and_true, true_and, and_self]
            · simp only [EV, ne8t c3 92 rfl, ↓reduceIte, Nat.reduceEqDiff, decide_true, decide_false, eq_self, and_true, true_and, and_self]
            · rintro (h | h | ⟨_, h | h⟩)
              · exact c4 h
              · exact c5 h
              · exact c7 h
              · exact c8 h
        · have hz : (((out.length : Nat) : Int) == 0) = false := by
            have := List.length_pos_iff.2 c6
            simp
            exact c6
          repeat (first | refine WS.seq ?_ | refine WS.skip ?_ | refine WS.label ?_ | refine WS.block ?_ | refine WS.inBlock ?_ | refine WS.exit rfl ?_ | refine WS.scope ?_ | refine WS.inScope ?_ | refine WS.region (by simp only [EV, TY, eq8f c4 0 rfl, c5', h7, hlen, hz, ↓reduceIte, Nat.reduceEqDiff, decide_true, decide_false, eq_self]; with_reducible rfl) ?_)
          refine WS.cond_false (by simp only [EV, eq8f c4 0 rfl, hz, ↓reduceIte, Nat.reduceEqDiff, decide_true, decide_false, eq_self]) ?_
          repeat (first | refine WS.seq ?_ | refine WS.skip ?_ | refine WS.label ?_ | refine WS.block ?_ | refine WS.inBlock ?_ | refine WS.exit rfl ?_ | refine WS.scope ?_ | refine WS.inScope ?_ | refine WS.region (by simp only [EV, TY, h1, h7, mk1_ bt50, f1, wrap_inc i (by omega), ↓reduceIte, Nat.reduceEqDiff, decide_true, decide_false, eq_self]; with_reducible rfl) ?_)
          refine ih (s.length - (i + 1)) _ _ (by omega) ⟨out ++ [c], true, i + 1, w, rfl, by omega, by simp; omega, ?_, ?_, ?_, ?_, good ?_, f2, hl.trans f3⟩
          · simp only [EV, h0, ↓reduceIte, Nat.reduceEqDiff, decide_true, decide_false, eq_self, and_true, true_and, and_self]
          · simp only [EV, ↓reduceIte, Nat.reduceEqDiff, decide_true, decide_false, eq_self, and_true, true_and, and_self]
          · simp only [EV, ↓reduceIte, Nat.reduceEqDiff, decide_true, decide_false, eq_self, and_true, true_and, and_self]
          · simp only [EV, ne8t c3 92 rfl, ↓reduceIte, Nat.reduceEqDiff, decide_true, decide_false, eq_self, and_true, true_and, and_self]
          · rintro (h | h | ⟨h, _⟩)
            · exact c4 h
            · exact c5 h
            · exact c6 h
    · repeat (first | refine WS.seq ?_ | refine WS.skip ?_ | refine WS.label ?_ | refine WS.block ?_ | refine WS.inBlock ?_ | refine WS.exit rfl ?_ | refine WS.scope ?_ | refine WS.inScope ?_ | refine WS.region (by simp only [EV, TY, h0, h1, hlt, ↓reduceIte, Nat.reduceEqDiff, decide_true, decide_false, eq_self]; with_reducible rfl) ?_)
      refine WS.cond_false (by simp only [EV, ↓reduceIte, Nat.reduceEqDiff, decide_true, decide_false, eq_self]) ?_
      refine WS.exit rfl ?_
      have : i = s.length := by omega
      subst this
      refine last _ _ ⟨out, bare, s.length, v, hi, hle, ?_, ?_, ?_, by rw [← hR, List.drop_length, readL], hb, hl⟩
      all_goals
        simp only [EV, h1, h7, h8, ↓reduceIte, Nat.reduceEqDiff, decide_true, decide_false, eq_self, and_true, true_and, and_self]
end Go.Proofs.YtjcckafjopjdbaaDoor
namespace Go.Proofs.YtjcckafjopjdbaaDoor
open Go Go.Vm
set_option maxRecDepth 100000
set_option maxHeartbeats 4000000
set_option linter.unusedSimpArgs false
set_option linter.unusedVariables false
def tyCh (i : Nat) (c : UInt8) : Bool := letterZ c.toNat || (!(i == 0) && (digitZ c.toNat || c == 45))
def typeB (s : List UInt8) : Bool := decide (1 ≤ s.length) && decide (s.length ≤ 20) && (List.range s.length).all fun i => tyCh i (s.getD i 0)
theorem typeB_bad (s : List UInt8) (i : Nat) (h : i < s.length) (hb : tyCh i (s.getD i 0) = false) : typeB s = false := by
  unfold typeB
  have : (List.range s.length).all (fun i => tyCh i (s.getD i 0)) = false := by
    rw [List.all_eq_false]
    exact ⟨i, List.mem_range.2 h, by simp only [hb]; simp⟩
  rw [this]
  simp
theorem typeB_good (s : List UInt8) (h : ∀ i, i < s.length → tyCh i (s.getD i 0) = true) : typeB s = (decide (1 ≤ s.length) && decide (s.length ≤ 20)) := by
  unfold typeB
  have : (List.range s.length).all (fun i => tyCh i (s.getD i 0)) = true := by
    rw [List.all_eq_true]
    exact fun i hi => h i (List.mem_range.1 hi)
  rw [this]
  simp
theorem refType_ok (s : List UInt8) (S : Store) (hs : s.length ≤ 1048576) : vrun E0 (.fn 14) [.str s] S = some (.bool (typeB s), S) := by
  refine fn_ws Tryd.func14 rfl ?_
  repeat (first | refine WS.seq ?_ | refine WS.skip ?_ | refine WS.label ?_ | refine WS.block ?_ | refine WS.inBlock ?_ | refine WS.exit rfl ?_ | refine WS.scope ?_ | refine WS.inScope ?_ | refine WS.region (by simp only [EV, TY, lget, ↓reduceIte, Nat.reduceEqDiff, decide_true, decide_false, eq_self]; with_reducible rfl) ?_)
  refine WS.loopB (fun j fr S' => ∃ i, j = s.length - i ∧ i ≤ s.length ∧ lget fr 0 = .str s ∧ lget fr 3 = .int .i64 (i : Nat) ∧ S' = S ∧ ∀ k, k < i → tyCh k (s.getD k 0) = true)
    (fun fr S' => lget fr 0 = .str s ∧ S' = S ∧ ∀ k, k < s.length → tyCh k (s.getD k 0) = true) (j := s.length) ?_ ?_ ?_
  · refine ⟨0, by omega, by omega, ?_, ?_, rfl, fun k hk => by omega⟩
    all_goals
      simp only [EV, lget, ↓reduceIte, Nat.reduceEqDiff, decide_true, decide_false, eq_self, and_true, true_and, and_self]
    rfl
  · rintro fr S' ⟨h0, hSS, hall⟩
    subst S'
    rw [typeB_good s hall]
    by_cases a1 : (1 : Int) ≤ (s.length : Int)
    · by_cases a2 : (s.length : Int) ≤ 20
      · repeat (first | refine WS.seq ?_ | refine WS.skip ?_ | refine WS.label ?_ | refine WS.block ?_ | refine WS.inBlock ?_ | refine WS.exit rfl ?_ | refine WS.scope ?_ | refine WS.inScope ?_ | refine WS.region (by simp only [EV, TY, h0, a1, a2, ↓reduceIte, Nat.reduceEqDiff, decide_true, decide_false, eq_self]; with_reducible rfl) ?_)
        refine WS.ret1s (t := 2) rfl rfl (List.prefix_refl _) (frz_bool _ _ _) ?_
        simp only [EV, ↓reduceIte, Nat.reduceEqDiff, decide_true, decide_false, eq_self, and_true, true_and, and_self]
        simp; omega
      · repeat (first | refine WS.seq ?_ | refine WS.skip ?_ | refine WS.label ?_ | refine WS.block ?_ | refine WS.inBlock ?_ | refine WS.exit rfl ?_ | refine WS.scope ?_ | refine WS.inScope ?_ | refine WS.region (by simp only [EV, TY, h0, a1, a2, ↓reduceIte, Nat.reduceEqDiff, decide_true, decide_false, eq_self]; with_reducible rfl) ?_)
        refine WS.ret1s (t := 2) rfl rfl (List.prefix_refl _) (frz_bool _ _ _) ?_
        simp only [EV, ↓reduceIte, Nat.reduceEqDiff, decide_true, decide_false, eq_self, and_true, true_and, and_self]
        simp; omega
    · repeat (first | refine WS.seq ?_ | refine WS.skip ?_ | refine WS.label ?_ | refine WS.block ?_ | refine WS.inBlock ?_ | refine WS.exit rfl ?_ | refine WS.scope ?_ | refine WS.inScope ?_ | refine WS.region (by simp only [EV, TY, h0, a1, ↓reduceIte, Nat.reduceEqDiff, decide_true, decide_false, eq_self]; with_reducible rfl) ?_)
      refine WS.ret1s (t := 2) rfl rfl (List.prefix_refl _) (frz_bool _ _ _) ?_
      simp only [EV, ↓reduceIte, Nat.reduceEqDiff, decide_true, decide_false, eq_self, and_true, true_and, and_self]
      simp; omega
  · rintro j fr S' ⟨i, rfl, hi, h0, h3, hSS, hall⟩ ih last
    subst S'
    by_cases hlt : (i : Int) < (s.length : Int)
    · have hlt' : i < s.length := by omega
      have e1 := idx_str_9 s .i64 i hlt'
      generalize hc : s.getD i 0 = c at e1
      repeat (first | refine WS.seq ?_ | refine WS.skip ?_ | refine WS.label ?_ | refine WS.block ?_ | refine WS.inBlock ?_ | refine WS.exit rfl ?_ | refine WS.scope ?_ | refine WS.inScope ?_ | refine WS.region (by simp only [EV, TY, h0, h3, hlt, ↓reduceIte, Nat.reduceEqDiff, decide_true, decide_false, eq_self]; with_reducible rfl) ?_)
      refine WS.cond_true (by simp only [EV, hlt, ↓reduceIte, Nat.reduceEqDiff, decide_true, decide_false, eq_self]) ?_
      repeat (first | refine WS.seq ?_ | refine WS.skip ?_ | refine WS.label ?_ | refine WS.block ?_ | refine WS.inBlock ?_ | refine WS.exit rfl ?_ | refine WS.scope ?_ | refine WS.inScope ?_ | refine WS.region (by simp only [EV, TY, h0, h3, e1, callV_28, Letter_ok, callV_29, Digit_ok, ↓reduceIte, Nat.reduceEqDiff, decide_true, decide_false, eq_self]; with_reducible rfl) ?_)
      have good : tyCh i c = true → ∀ fr' : Fr, lget fr' 0 = .str s → lget fr' 3 = .int .i64 ((i + 1 : Nat)) → WS E0 _ fr' S _ := fun hg fr' a1 a2 => ih (s.length - (i + 1)) _ _ (by omega) ⟨i + 1, rfl, by omega, a1, a2, rfl, fun k hk => by
        rcases Nat.lt_or_ge k i with h | h
        · exact hall k h
        · obtain rfl : k = i := by omega
          rw [hc]; exact hg⟩
      have bad : tyCh i c = false → typeB s = false := fun h => typeB_bad s i hlt' (by rw [hc]; exact h)
      by_cases q1 : letterZ (c.toNat : Int) = true
      · repeat (first | refine WS.seq ?_ | refine WS.skip ?_ | refine WS.label ?_ | refine WS.block ?_ | refine WS.inBlock ?_ | refine WS.exit rfl ?_ | refine WS.scope ?_ | refine WS.inScope ?_ | refine WS.region (by simp only [EV, TY, q1, ↓reduceIte, Nat.reduceEqDiff, decide_true, decide_false, eq_self]; with_reducible rfl) ?_)
        refine WS.cond_false (by simp only [EV, q1, ↓reduceIte, Nat.reduceEqDiff, decide_true, decide_false, eq_self]) ?_
        repeat (first | refine WS.seq ?_ | refine WS.skip ?_ | refine WS.label ?_ | refine WS.block ?_ | refine WS.inBlock ?_ | refine WS.exit rfl ?_ | refine WS.scope ?_ | refine WS.inScope ?_ | refine WS.region (by simp only [EV, TY, h3, wrap_inc i (by omega), ↓reduceIte, Nat.reduceEqDiff, decide_true, decide_false, eq_self]; with_reducible rfl) ?_)
        refine good (by simp [tyCh, q1]) _ ?_ ?_
        all_goals
          simp only [EV, h0, ↓reduceIte, Nat.reduceEqDiff, decide_true, decide_false, eq_self, and_true, true_and, and_self]
      have q1 : letterZ (c.toNat : Int) = false := by simpa using q1
      by_cases q2 : i = 0
      · have q2' : ((i : Nat) : Int) == 0 := by simp [q2]
        repeat (first | refine WS.seq ?_ | refine WS.skip ?_ | refine WS.label ?_ | refine WS.block ?_ | refine WS.inBlock ?_ | refine WS.exit rfl ?_ | refine WS.scope ?_ | refine WS.inScope ?_ | refine WS.region (by simp only [EV, TY, q1, h3, q2', ↓reduceIte, Nat.reduceEqDiff, decide_true, decide_false, eq_self]; with_reducible rfl) ?_)
        refine WS.cond_true (by simp only [EV, q1, q2', ↓reduceIte, Nat.reduceEqDiff, decide_true, decide_false, eq_self]) ?_
        repeat (first | refine WS.seq ?_ | refine WS.skip ?_ | refine WS.label ?_ | refine WS.block ?_ | refine WS.inBlock ?_ | refine WS.exit rfl ?_ | refine WS.scope ?_ | refine WS.inScope ?_ | refine WS.region (by simp only [EV, TY, lget, ↓reduceIte, Nat.reduceEqDiff, decide_true, decide_false, eq_self]; with_reducible rfl) ?_)
        rw [bad (by simp [tyCh, q1, q2])]
        refine WS.ret1s (t := 2) rfl rfl (List.prefix_refl _) (frz_bool _ _ _) ?_
        simp only [EV, ↓reduceIte, Nat.reduceEqDiff, decide_true, decide_false, eq_self, and_true, true_and, and_self]
      have q2' : (((i : Nat) : Int) == 0) = false := by simp [q2]
      by_cases q3 : digitZ (c.toNat : Int) = true
      · repeat (first | refine WS.seq ?_ | refine WS.skip ?_ | refine WS.label ?_ | refine WS.block ?_ | refine WS.inBlock ?_ | refine WS.exit rfl ?_ | refine WS.scope ?_ | refine WS.inScope ?_ | refine WS.region (by simp only [EV, TY, q1, h3, q2', q3, ↓reduceIte, Nat.reduceEqDiff, decide_true, decide_false, eq_self]; with_reducible rfl) ?_)
        refine WS.cond_false (by simp only [EV, q1, q2', q3, ↓reduceIte, Nat.reduceEqDiff, decide_true, decide_false, eq_self]) ?_
        repeat (first | refine WS.seq ?_ | refine WS.skip ?_ | refine WS.label ?_ | refine WS.block ?_ | refine WS.inBlock ?_ | refine WS.exit rfl ?_ | refine WS.scope ?_ | refine WS.inScope ?_ | refine WS.region (by simp only [EV, TY, h3, wrap_inc i (by omega), ↓reduceIte, Nat.reduceEqDiff, decide_true, decide_false, eq_self]; with_reducible rfl) ?_)
        refine good (by simp [tyCh, q2, q3]) _ ?_ ?_
        all_goals
          simp only [EV, h0, ↓reduceIte, Nat.reduceEqDiff, decide_true, decide_false, eq_self, and_true, true_and, and_self]
      have q3 : digitZ (c.toNat : Int) = false := by simpa using q3
      by_cases q4 : c = 45
      · repeat (first | refine WS.seq ?_ | refine WS.skip ?_ | refine WS.label ?_ | refine WS.block ?_ | refine WS.inBlock ?_ | refine WS.exit rfl ?_ | refine WS.scope ?_ | refine WS.inScope ?_ | refine WS.region (by simp only [EV, TY, q1, h0, h3, q2', q3, e1, ne8f q4 45 rfl, ↓reduceIte, Nat.reduceEqDiff, decide_true, decide_false, eq_self]; with_reducible rfl) ?_)
        refine WS.cond_false (by simp only [EV, q1, q2', q3, ↓reduceIte, Nat.reduceEqDiff, decide_true, decide_false, eq_self]) ?_
        repeat (first | refine WS.seq ?_ | refine WS.skip ?_ | refine WS.label ?_ | refine WS.block ?_ | refine WS.inBlock ?_ | refine WS.exit rfl ?_ | refine WS.scope ?_ | refine WS.inScope ?_ | refine WS.region (by simp only [EV, TY, h3, wrap_inc i (by omega), ↓reduceIte, Nat.reduceEqDiff, decide_true, decide_false, eq_self]; with_reducible rfl) ?_)
        refine good (by simp [tyCh, q2, q4]) _ ?_ ?_
        all_goals
          simp only [EV, h0, ↓reduceIte, Nat.reduceEqDiff, decide_true, decide_false, eq_self, and_true, true_and, and_self]
      · repeat (first | refine WS.seq ?_ | refine WS.skip ?_ | refine WS.label ?_ | refine WS.block ?_ | refine WS.inBlock ?_ | refine WS.exit rfl ?_ | refine WS.scope ?_ | refine WS.inScope ?_ | refine WS.region (by simp only [EV, TY, q1, h0, h3, q2', q3, e1, ne8t q4 45 rfl, ↓reduceIte, Nat.reduceEqDiff, decide_true, decide_false, eq_self]; with_reducible rfl) ?_)
        refine WS.cond_true (by simp only [EV, q1, q2', q3, ↓reduceIte, Nat.reduceEqDiff, decide_true, decide_false, eq_self]) ?_
        repeat (first | refine WS.seq ?_ | refine WS.skip ?_ | refine WS.label ?_ | refine WS.block ?_ | refine WS.inBlock ?_ | refine WS.exit rfl ?_ | refine WS.scope ?_ | refine WS.inScope ?_ | refine WS.region (by simp only [EV, TY, lget, ↓reduceIte, Nat.reduceEqDiff, decide_true, decide_false, eq_self]; with_reducible rfl) ?_)
        rw [bad (by simp [tyCh, q1, q2, q3, q4])]
        refine WS.ret1s (t := 2) rfl rfl (List.prefix_refl _) (frz_bool _ _ _) ?_
        simp only [EV, ↓reduceIte, Nat.reduceEqDiff, decide_true, decide_false, eq_self, and_true, true_and, and_self]
    · repeat (first | refine WS.seq ?_ | refine WS.skip ?_ | refine WS.label ?_ | refine WS.block ?_ | refine WS.inBlock ?_ | refine WS.exit rfl ?_ | refine WS.scope ?_ | refine WS.inScope ?_ | refine WS.region (by simp only [EV, TY, h0, h3, hlt, ↓reduceIte, Nat.reduceEqDiff, decide_true, decide_false, eq_self]; with_reducible rfl) ?_)
      refine WS.cond_false (by simp only [EV, hlt, ↓reduceIte, Nat.reduceEqDiff, decide_true, decide_false, eq_self]) ?_
      refine WS.exit rfl ?_
      have : i = s.length := by omega
      subst this
      refine last _ _ ⟨?_, rfl, hall⟩
      simp only [EV, h0, ↓reduceIte, Nat.reduceEqDiff, decide_true, decide_false, eq_self, and_true, true_and, and_self]
end Go.Proofs.YtjcckafjopjdbaaDoor
namespace Go.Proofs.YtjcckafjopjdbaaDoor
open Go Go.Vm
set_option maxRecDepth 100000
set_option maxHeartbeats 4000000
set_option linter.unusedSimpArgs false
set_option linter.unusedVariables false
theorem Type_ok (s : List UInt8) (S : Store) (hs : s.length ≤ 1048576) : vrun E0 (.fn 13) [.str s] S = some (.bool (typeB s), S) := by
  refine fn_ws Tryd.func13 rfl ?_
  repeat (first | refine WS.seq ?_ | refine WS.skip ?_ | refine WS.label ?_ | refine WS.block ?_ | refine WS.inBlock ?_ | refine WS.exit rfl ?_ | refine WS.scope ?_ | refine WS.inScope ?_ | refine WS.region (by simp only [EV, TY, lget, evOp_rng (E := E0) Tryd.underlying9, ↓reduceIte, Nat.reduceEqDiff, decide_true, decide_false, eq_self]; with_reducible rfl) ?_)
  refine WS.loopB (fun j fr S' => ∃ i, j = s.length - i ∧ i ≤ s.length ∧ lget fr 0 = .str s ∧ lget fr 6 = .it S.length ∧ S' = S ++ [.iter s i] ∧ ∀ k, k < i → tyCh k (s.getD k 0) = true)
    (fun fr S' => lget fr 0 = .str s ∧ S <+: S' ∧ ∀ k, k < s.length → tyCh k (s.getD k 0) = true) (j := s.length) ?_ ?_ ?_
  · refine ⟨0, by omega, by omega, ?_, ?_, rfl, fun k hk => by omega⟩
    all_goals
      simp only [EV, lget, ↓reduceIte, Nat.reduceEqDiff, decide_true, decide_false, eq_self, and_true, true_and, and_self]
  · rintro fr S' ⟨h0, hp, hall⟩
    rw [typeB_good s hall]
    by_cases a1 : s = []
    · subst a1
      repeat (first | refine WS.seq ?_ | refine WS.skip ?_ | refine WS.label ?_ | refine WS.block ?_ | refine WS.inBlock ?_ | refine WS.exit rfl ?_ | refine WS.scope ?_ | refine WS.inScope ?_ | refine WS.region (by simp only [EV, TY, h0, sne, ↓reduceIte, Nat.reduceEqDiff, decide_true, decide_false, eq_self]; with_reducible rfl) ?_)
      refine WS.ret1s (t := 2) rfl rfl hp (frz_bool _ _ _) ?_
      simp only [EV, ↓reduceIte, Nat.reduceEqDiff, decide_true, decide_false, eq_self, and_true, true_and, and_self]
      simp
    · by_cases a2 : (s.length : Int) ≤ 20
      · repeat (first | refine WS.seq ?_ | refine WS.skip ?_ | refine WS.label ?_ | refine WS.block ?_ | refine WS.inBlock ?_ | refine WS.exit rfl ?_ | refine WS.scope ?_ | refine WS.inScope ?_ | refine WS.region (by simp only [EV, TY, h0, sne, a1, a2, ↓reduceIte, Nat.reduceEqDiff, decide_true, decide_false, eq_self]; with_reducible rfl) ?_)
        refine WS.ret1s (t := 2) rfl rfl hp (frz_bool _ _ _) ?_
        have := List.length_pos_iff.2 a1
        simp only [EV, ↓reduceIte, Nat.reduceEqDiff, decide_true, decide_false, eq_self, and_true, true_and, and_self]
        simp; omega
      · repeat (first | refine WS.seq ?_ | refine WS.skip ?_ | refine WS.label ?_ | refine WS.block ?_ | refine WS.inBlock ?_ | refine WS.exit rfl ?_ | refine WS.scope ?_ | refine WS.inScope ?_ | refine WS.region (by simp only [EV, TY, h0, sne, a1, a2, ↓reduceIte, Nat.reduceEqDiff, decide_true, decide_false, eq_self]; with_reducible rfl) ?_)
        refine WS.ret1s (t := 2) rfl rfl hp (frz_bool _ _ _) ?_
        simp only [EV, ↓reduceIte, Nat.reduceEqDiff, decide_true, decide_false, eq_self, and_true, true_and, and_self]
        simp; omega
  · rintro j fr S' ⟨i, rfl, hi, h0, h6, hSS, hall⟩ ih last
    subst hSS
    have hit : (S ++ [Ob.iter s i])[S.length]? = some (.iter s i) := getS0 _
    by_cases hlt : i < s.length
    · have hset : (S ++ [Ob.iter s i]).set S.length (.iter s (i + (Utf8.decode ⟨s.toArray⟩ i).2)) = S ++ [.iter s (i + (Utf8.decode ⟨s.toArray⟩ i).2)] := setS0 _ _
      have hlo := dec_lo s i hlt
      have hhi := dec_hi s i hlt
      have bad : tyCh i (s.getD i 0) = false → typeB s = false := fun h => typeB_bad s i hlt h
      generalize hc : s.getD i 0 = c at hlo hhi bad
      repeat (first | refine WS.seq ?_ | refine WS.skip ?_ | refine WS.label ?_ | refine WS.block ?_ | refine WS.inBlock ?_ | refine WS.exit rfl ?_ | refine WS.scope ?_ | refine WS.inScope ?_ | refine WS.region (by simp only [EV, TY, h6, hit, hlt, hset, ↓reduceIte, Nat.reduceEqDiff, decide_true, decide_false, eq_self]; with_reducible rfl) ?_)
      refine WS.cond_true (by simp only [EV, ↓reduceIte, Nat.reduceEqDiff, decide_true, decide_false, eq_self]) ?_
      have good : tyCh i c = true → c.toNat < 128 → ∀ fr' : Fr, lget fr' 0 = .str s → lget fr' 6 = .it S.length → WS E0 _ fr' (S ++ [.iter s (i + (Utf8.decode ⟨s.toArray⟩ i).2)]) _ := fun hg h128 fr' a1 a2 =>
        ih (s.length - (i + 1)) _ _ (by omega) ⟨i + 1, rfl, by omega, a1, a2, by rw [hlo h128], fun k hk => by
          rcases Nat.lt_or_ge k i with h | h
          · exact hall k h
          · obtain rfl : k = i := by omega
            rw [hc]; exact hg⟩
      have hi0 : ((i : Nat) : Int) = 0 ↔ i = 0 := by omega
      generalize hr : ((Utf8.decode ⟨s.toArray⟩ i).1 : Int) = r
      have rel : letterZ r = letterZ c.toNat ∧ (r < 48 ∨ 57 < r ↔ digitZ c.toNat = false) ∧ (r = 45 ↔ c = 45) ∧ (c.toNat < 128 ∨ (letterZ r = false ∧ (r < 48 ∨ 57 < r) ∧ r ≠ 45)) := by
        by_cases h128 : c.toNat < 128
        · have hd := hlo h128
          rw [hd] at hr
          subst hr
          refine ⟨rfl, by simp [digitZ]; omega, ?_, .inl h128⟩
          constructor
          · intro h
            apply UInt8.toNat_inj.1
            simp at h ⊢
            omega
          · intro h
            rw [h]
            rfl
        · have hd := hhi h128
          have h1 : letterZ r = false := by simp [letterZ]; omega
          refine ⟨?_, ?_, ?_, .inr ⟨h1, by omega, by omega⟩⟩
          · rw [h1]
            simp [letterZ]
            omega
          · simp [digitZ]; omega
          · constructor
            · intro h; omega
            · intro h
              rw [h] at h128
              exact absurd (by decide) h128
      obtain ⟨rel1, rel2, rel3, rel4⟩ := rel
      by_cases q1 : letterZ r = true
      · have h128 : c.toNat < 128 := rel4.resolve_right (fun h => by rw [q1] at h; simp at h)
        repeat (first | refine WS.seq ?_ | refine WS.skip ?_ | refine WS.label ?_ | refine WS.block ?_ | refine WS.inBlock ?_ | refine WS.exit rfl ?_ | refine WS.scope ?_ | refine WS.inScope ?_ | refine WS.region (by simp only [EV, TY, callV_27, letter_ok, hr, q1, ↓reduceIte, Nat.reduceEqDiff, decide_true, decide_false, eq_self]; with_reducible rfl) ?_)
        refine WS.cond_false (by simp only [EV, q1, ↓reduceIte, Nat.reduceEqDiff, decide_true, decide_false, eq_self]) ?_
        repeat (first | refine WS.seq ?_ | refine WS.skip ?_ | refine WS.label ?_ | refine WS.block ?_ | refine WS.inBlock ?_ | refine WS.exit rfl ?_ | refine WS.scope ?_ | refine WS.inScope ?_)
        refine good (by rw [tyCh, ← rel1, q1]; rfl) h128 _ ?_ ?_
        all_goals
          simp only [EV, h0, h6, ↓reduceIte, Nat.reduceEqDiff, decide_true, decide_false, eq_self, and_true, true_and, and_self]
      have q1 : letterZ r = false := by simpa using q1
      by_cases q2 : i = 0
      · have q2' : (((i : Nat) : Int) == 0) = true := by simp [q2]
        repeat (first | refine WS.seq ?_ | refine WS.skip ?_ | refine WS.label ?_ | refine WS.block ?_ | refine WS.inBlock ?_ | refine WS.exit rfl ?_ | refine WS.scope ?_ | refine WS.inScope ?_ | refine WS.region (by simp only [EV, TY, callV_27, letter_ok, hr, q1, q2', ↓reduceIte, Nat.reduceEqDiff, decide_true, decide_false, eq_self]; with_reducible rfl) ?_)
        refine WS.cond_true (by simp only [EV, q1, q2', ↓reduceIte, Nat.reduceEqDiff, decide_true, decide_false, eq_self]) ?_
        repeat (first | refine WS.seq ?_ | refine WS.skip ?_ | refine WS.label ?_ | refine WS.block ?_ | refine WS.inBlock ?_ | refine WS.exit rfl ?_ | refine WS.scope ?_ | refine WS.inScope ?_ | refine WS.region (by simp only [EV, TY, lget, ↓reduceIte, Nat.reduceEqDiff, decide_true, decide_false, eq_self]; with_reducible rfl) ?_)
        rw [bad (by rw [tyCh, ← rel1, q1, q2]; rfl)]
        refine WS.ret1s (t := 2) rfl rfl (List.prefix_append _ _) (frz_bool _ _ _) ?_
        simp only [EV, ↓reduceIte, Nat.reduceEqDiff, decide_true, decide_false, eq_self, and_true, true_and, and_self]
      have q2' : (((i : Nat) : Int) == 0) = false := by simp [q2]
      by_cases q3 : digitZ c.toNat = true
      · have nr : ¬ (r < 48 ∨ 57 < r) := fun h => by rw [rel2.1 h] at q3; simp at q3
        have n1 : ¬ r < 48 := fun h => nr (.inl h)
        have n2 : ¬ 57 < r := fun h => nr (.inr h)
        repeat (first | refine WS.seq ?_ | refine WS.skip ?_ | refine WS.label ?_ | refine WS.block ?_ | refine WS.inBlock ?_ | refine WS.exit rfl ?_ | refine WS.scope ?_ | refine WS.inScope ?_ | refine WS.region (by simp only [EV, TY, callV_27, letter_ok, hr, q1, q2', n1, n2, ↓reduceIte, Nat.reduceEqDiff, decide_true, decide_false, eq_self]; with_reducible rfl) ?_)
        refine WS.cond_false (by simp only [EV, q1, q2', n1, n2, ↓reduceIte, Nat.reduceEqDiff, decide_true, decide_false, eq_self]) ?_
        repeat (first | refine WS.seq ?_ | refine WS.skip ?_ | refine WS.label ?_ | refine WS.block ?_ | refine WS.inBlock ?_ | refine WS.exit rfl ?_ | refine WS.scope ?_ | refine WS.inScope ?_)
        refine good (by simp [tyCh, q2, q3]) (rel4.resolve_right (fun h => nr h.2.1)) _ ?_ ?_
        all_goals
          simp only [EV, h0, h6, ↓reduceIte, Nat.reduceEqDiff, decide_true, decide_false, eq_self, and_true, true_and, and_self]
      have q3 : digitZ c.toNat = false := by simpa using q3
      have nr := rel2.2 q3
      by_cases q4 : c = 45
      · have r45 : (r != 45) = false := by simp [rel3.2 q4]
        have h128 : c.toNat < 128 := by rw [q4]; decide
        rcases nr with n1 | n2
        · repeat (first | refine WS.seq ?_ | refine WS.skip ?_ | refine WS.label ?_ | refine WS.block ?_ | refine WS.inBlock ?_ | refine WS.exit rfl ?_ | refine WS.scope ?_ | refine WS.inScope ?_ | refine WS.region (by simp only [EV, TY, callV_27, letter_ok, hr, q1, q2', n1, r45, ↓reduceIte, Nat.reduceEqDiff, decide_true, decide_false, eq_self]; with_reducible rfl) ?_)
          refine WS.cond_false (by simp only [EV, q1, q2', n1, r45, ↓reduceIte, Nat.reduceEqDiff, decide_true, decide_false, eq_self]) ?_
          repeat (first | refine WS.seq ?_ | refine WS.skip ?_ | refine WS.label ?_ | refine WS.block ?_ | refine WS.inBlock ?_ | refine WS.exit rfl ?_ | refine WS.scope ?_ | refine WS.inScope ?_)
          refine good (by simp [tyCh, q2, q4]) (h128) _ ?_ ?_
          all_goals
            simp only [EV, h0, h6, ↓reduceIte, Nat.reduceEqDiff, decide_true, decide_false, eq_self, and_true, true_and, and_self]
        · by_cases n1 : r < 48
          · repeat (first | refine WS.seq ?_ | refine WS.skip ?_ | refine WS.label ?_ | refine WS.block ?_ | refine WS.inBlock ?_ | refine WS.exit rfl ?_ | refine WS.scope ?_ | refine WS.inScope ?_ | refine WS.region (by simp only [EV, TY, callV_27, letter_ok, hr, q1, q2', n1, r45, ↓reduceIte, Nat.reduceEqDiff, decide_true, decide_false, eq_self]; with_reducible rfl) ?_)
            refine WS.cond_false (by simp only [EV, q1, q2', n1, r45, ↓reduceIte, Nat.reduceEqDiff, decide_true, decide_false, eq_self]) ?_
            repeat (first | refine WS.seq ?_ | refine WS.skip ?_ | refine WS.label ?_ | refine WS.block ?_ | refine WS.inBlock ?_ | refine WS.exit rfl ?_ | refine WS.scope ?_ | refine WS.inScope ?_)
            refine good (by simp [tyCh, q2, q4]) (h128) _ ?_ ?_
            all_goals
              simp only [EV, h0, h6, ↓reduceIte, Nat.reduceEqDiff, decide_true, decide_false, eq_self, and_true, true_and, and_self]
          · repeat (first | refine WS.seq ?_ | refine WS.skip ?_ | refine WS.label ?_ | refine WS.block ?_ | refine WS.inBlock ?_ | refine WS.exit rfl ?_ | refine WS.scope ?_ | refine WS.inScope ?_ | refine WS.region (by simp only [EV, TY, callV_27, letter_ok, hr, q1, q2', n1, n2, r45, ↓reduceIte, Nat.reduceEqDiff, decide_true, decide_false, eq_self]; with_reducible rfl) ?_)
            refine WS.cond_false (by simp only [EV, q1, q2', n1, n2, r45, ↓reduceIte, Nat.reduceEqDiff, decide_true, decide_false, eq_self]) ?_
            repeat (first | refine WS.seq ?_ | refine WS.skip ?_ | refine WS.label ?_ | refine WS.block ?_ | refine WS.inBlock ?_ | refine WS.exit rfl ?_ | refine WS.scope ?_ | refine WS.inScope ?_)
            refine good (by simp [tyCh, q2, q4]) (h128) _ ?_ ?_
            all_goals
              simp only [EV, h0, h6, ↓reduceIte, Nat.reduceEqDiff, decide_true, decide_false, eq_self, and_true, true_and, and_self]
      · have r45 : (r != 45) = true := by simp; exact fun h => q4 (rel3.1 h)
        rcases nr with n1 | n2
        · repeat (first | refine WS.seq ?_ | refine WS.skip ?_ | refine WS.label ?_ | refine WS.block ?_ | refine WS.inBlock ?_ | refine WS.exit rfl ?_ | refine WS.scope ?_ | refine WS.inScope ?_ | refine WS.region (by simp only [EV, TY, callV_27, letter_ok, hr, q1, q2', n1, r45, ↓reduceIte, Nat.reduceEqDiff, decide_true, decide_false, eq_self]; with_reducible rfl) ?_)
          refine WS.cond_true (by simp only [EV, q1, q2', n1, r45, ↓reduceIte, Nat.reduceEqDiff, decide_true, decide_false, eq_self]) ?_
          repeat (first | refine WS.seq ?_ | refine WS.skip ?_ | refine WS.label ?_ | refine WS.block ?_ | refine WS.inBlock ?_ | refine WS.exit rfl ?_ | refine WS.scope ?_ | refine WS.inScope ?_ | refine WS.region (by simp only [EV, TY, lget, ↓reduceIte, Nat.reduceEqDiff, decide_true, decide_false, eq_self]; with_reducible rfl) ?_)
          rw [bad (by simp [tyCh, ← rel1, q1, q2, q3, q4])]
          refine WS.ret1s (t := 2) rfl rfl (List.prefix_append _ _) (frz_bool _ _ _) ?_
          simp only [EV, ↓reduceIte, Nat.reduceEqDiff, decide_true, decide_false, eq_self, and_true, true_and, and_self]
        · by_cases n1 : r < 48
          · repeat (first | refine WS.seq ?_ | refine WS.skip ?_ | refine WS.label ?_ | refine WS.block ?_ | refine WS.inBlock ?_ | refine WS.exit rfl ?_ | refine WS.scope ?_ | refine WS.inScope ?_ | refine WS.region (by simp only [EV, TY, callV_27, letter_ok, hr, q1, q2', n1, r45, ↓reduceIte, Nat.reduceEqDiff, decide_true, decide_false, eq_self]; with_reducible rfl) ?_)
            refine WS.cond_true (by simp only [EV, q1, q2', n1, r45, ↓reduceIte, Nat.reduceEqDiff, decide_true, decide_false, eq_self]) ?_
            repeat (first | refine WS.seq ?_ | refine WS.skip ?_ | refine WS.label ?_ | refine WS.block ?_ | refine WS.inBlock ?_ | refine WS.exit rfl ?_ | refine WS.scope ?_ | refine WS.inScope ?_ | refine WS.region (by simp only [EV, TY, lget, ↓reduceIte, Nat.reduceEqDiff, decide_true, decide_false, eq_self]; with_reducible rfl) ?_)
            rw [bad (by simp [tyCh, ← rel1, q1, q2, q3, q4])]
            refine WS.ret1s (t := 2) rfl rfl (List.prefix_append _ _) (frz_bool _ _ _) ?_
            simp only [EV, ↓reduceIte, Nat.reduceEqDiff, decide_true, decide_false, eq_self, and_true, true_and, and_self]
          · repeat (first | refine WS.seq ?_ | refine WS.skip ?_ | refine WS.label ?_ | refine WS.block ?_ | refine WS.inBlock ?_ | refine WS.exit rfl ?_ | refine WS.scope ?_ | refine WS.inScope ?_ | refine WS.region (by simp only [EV, TY, callV_27, letter_ok, hr, q1, q2', n1, n2, r45, ↓reduceIte, Nat.reduceEqDiff, decide_true, decide_false, eq_self]; with_reducible rfl) ?_)
            refine WS.cond_true (by simp only [EV, q1, q2', n1, n2, r45, ↓reduceIte, Nat.reduceEqDiff, decide_true, decide_false, eq_self]) ?_
            repeat (first | refine WS.seq ?_ | refine WS.skip ?_ | refine WS.label ?_ | refine WS.block ?_ | refine WS.inBlock ?_ | refine WS.exit rfl ?_ | refine WS.scope ?_ | refine WS.inScope ?_ | refine WS.region (by simp only [EV, TY, lget, ↓reduceIte, Nat.reduceEqDiff, decide_true, decide_false, eq_self]; with_reducible rfl) ?_)
            rw [bad (by simp [tyCh, ← rel1, q1, q2, q3, q4])]
            refine WS.ret1s (t := 2) rfl rfl (List.prefix_append _ _) (frz_bool _ _ _) ?_
            simp only [EV, ↓reduceIte, Nat.reduceEqDiff, decide_true, decide_false, eq_self, and_true, true_and, and_self]
    · repeat (first | refine WS.seq ?_ | refine WS.skip ?_ | refine WS.label ?_ | refine WS.block ?_ | refine WS.inBlock ?_ | refine WS.exit rfl ?_ | refine WS.scope ?_ | refine WS.inScope ?_ | refine WS.region (by simp only [EV, TY, h6, hit, hlt, ↓reduceIte, Nat.reduceEqDiff, decide_true, decide_false, eq_self]; with_reducible rfl) ?_)
      refine WS.cond_false (by simp only [EV, ↓reduceIte, Nat.reduceEqDiff, decide_true, decide_false, eq_self]) ?_
      refine WS.exit rfl ?_
      have : i = s.length := by omega
      subst this
      refine last _ _ ⟨?_, List.prefix_append _ _, hall⟩
      simp only [EV, h0, ↓reduceIte, Nat.reduceEqDiff, decide_true, decide_false, eq_self, and_true, true_and, and_self]
end Go.Proofs.YtjcckafjopjdbaaDoor
