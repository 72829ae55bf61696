import Derived.Test.YtjcckafjopjdbaaDoorPartJ
set_option linter.all false
namespace Go.Proofs.YtjcckafjopjdbaaDoor
open Go Go.Vm
set_option maxRecDepth 100000
set_option maxHeartbeats 8000000
set_option linter.unusedSimpArgs false
set_option linter.unusedVariables false
/-! ### a fresh Builder grows -/
theorem callV_74 (c : CallT) (n : Nat) (hn : n ≤ 140737488355328) (S : Store) : callV E0 c (.fn (.func 74) [] []) [.int .i64 (n : Nat)] S = some (.slR S.length 0 n n 1, S ++ [.cells (List.replicate n .junk) 5]) := by
  have h : callV E0 c (.fn (.func 74) [] []) [.int .i64 (n : Nat)] S = externV E0 "internal/bytealg.MakeNoZero" [50] [.int .i64 (n : Nat)] S := by kernel_rfl
  rw [h]
  unfold externV
  simp [elemT_50, tsize_5, hn]
  omega
theorem tb20 : Nat.testBit 255 3 = true := rfl
theorem growF_ok {T : Store} {id : Nat} {addr : V} (h1 : T[id]? = some (.cells [addr, .slN] 60)) (n : Nat) (hn0 : 0 < n) (hn : n ≤ 1073741824) : ∃ T', vrun E0 (.fn 67) [.ref id 0, .int .i64 (n : Nat)] T = some (.tup [], T') ∧ T'[id]? = some (.cells [addr, .slR T.length 0 0 n 1] 60) ∧ T'[T.length]? = some (.cells (List.replicate n .junk) 5) ∧ Low id T T' := by
  have hid := lt_of_get h1
  have l1 := bld_ld1 h1
  have l1c : ((cellsOf T id).bind fun cs => cs[1]?) = some .slN := by rw [cellsOf_of h1]; rfl
  have h2 : (T ++ [.cells (List.replicate n .junk) 5])[id]? = some (.cells [addr, .slN] 60) := get_more h1 _
  have l2 := bld_ld1 h2
  have st := bld_st1 h2 (v := .slR T.length 0 0 n 1) rfl (fun cs h => by cases h)
  have c0 : opCap E0 50 .slN = some (.int .i64 0) := by
    have hu : E0.P.underlying 50 = _ := Tryd.underlying50
    simp [opCap, hu]
  have w0 : IntKind.i64.wrap (2 * (0 : Int)) = 0 := by decide
  have w1 : IntKind.i64.wrap ((0 : Int) + ((n : Nat) : Int)) = ((n : Nat) : Int) := by rw [wrap_i64 (by omega) (by omega)]; omega
  have mk := fun c => callV_74 c n (by omega) T
  have sl : opSlice E0 50 (.slR T.length 0 n n 1) none (some (.int .i64 ((0 : Nat) : Int))) none = some (.slR T.length 0 0 n 1) := by
    have hu : E0.P.underlying 50 = _ := Tryd.underlying50
    unfold opSlice
    simp [hu, tsize_5, bnd]
  have cp : opCopy E0 (T ++ [.cells (List.replicate n .junk) 5]) [50, 50] (.slR T.length 0 0 n 1) .slN = some (.int .i64 0, T ++ [.cells (List.replicate n .junk) 5]) := by
    unfold opCopy
    simp [elemT_50, tsize_5, appended, sliceCells, putAt, cellsOf, Vm.elemOf, splice]
  refine ⟨(T ++ [Ob.cells (List.replicate n .junk) 5]).set id (.cells [addr, .slR T.length 0 0 n 1] 60), ?_, by rw [List.getElem?_set_self (by simp; omega)], ?_, (Low.app (by omega) _).trans (Low.set (by simp; omega) (Nat.le_refl _))⟩
  · refine fn_ws Tryd.func67 rfl ?_
    repeat (first | refine WS.seq ?_ | refine WS.skip ?_ | refine WS.label ?_ | refine WS.block ?_ | refine WS.inBlock ?_ | refine WS.exit rfl ?_ | refine WS.scope ?_ | refine WS.inScope ?_)
    refine WS.drawb (b := [0, 1, 3, 7, 15, 31, 0, 127, 255, 0, 512, 1536, 3584, 7680, 16383, 32767]) (by kernel_rfl) (by simp only [evDraw_nil, evDraw_plain, isEff, isRead, List.all_nil, List.all_cons, Bool.or_true, Bool.true_or, Bool.and_self, Bool.and_true, V.beq_refl, List.getD_cons_zero, List.getD_cons_succ, Nat.reduceAdd, EV, TY,  lget, EV2, fa60_1, l1, l1c, l2, c0, w0, w1, mk, sl, tb20, ↓reduceIte, Nat.reduceEqDiff, decide_true, decide_false, eq_self]; with_reducible rfl) ?_
    repeat (first | refine WS.seq ?_ | refine WS.skip ?_ | refine WS.label ?_ | refine WS.block ?_ | refine WS.inBlock ?_ | refine WS.exit rfl ?_ | refine WS.scope ?_ | refine WS.inScope ?_ | refine WS.region (by simp only [EV, TY, lget, EV2, fa60_1, l2, cp, st, ↓reduceIte, Nat.reduceEqDiff, decide_true, decide_false, eq_self]; with_reducible rfl) ?_)
    exact ends0 rfl rfl
  · rw [List.getElem?_set_ne (by omega)]
    exact getS0 _
theorem Grow_ok {T : Store} {id : Nat} {addr : V} (h1 : T[id]? = some (.cells [addr, .slN] 60)) (ha : addr = .nilp ∨ addr = .ref id 0) (n : Nat) (hn0 : 0 < n) (hn : n ≤ 1073741824) : ∃ T', vrun E0 (.fn 54) [.ref id 0, .int .i64 (n : Nat)] T = some (.tup [], T') ∧ Bld T' id [] ∧ Low id T T' := by
  have hid := lt_of_get h1
  have cc := copyCheck_ok h1 ha
  have g1 : (T.set id (.cells [.ref id 0, .slN] 60))[id]? = some (.cells [.ref id 0, .slN] 60) := by simp [hid]
  have l1 := bld_ld1 g1
  obtain ⟨T', e1, e2, e3, e4⟩ := growF_ok g1 n hn0 hn
  have c0 : opCap E0 50 .slN = some (.int .i64 0) := by
    have hu : E0.P.underlying 50 = _ := Tryd.underlying50
    simp [opCap, hu]
  have w0 : IntKind.i64.wrap ((0 : Int) - ((0 : Nat) : Int)) = 0 := by decide
  have hneg : ¬ ((n : Nat) : Int) < 0 := by omega
  have hlt : (0 : Int) < ((n : Nat) : Int) := by omega
  refine ⟨T', ?_, ⟨_, _, e2, .inr rfl, .inr ⟨_, n, List.replicate n .junk, ?_, rfl, ?_, by simp⟩, fun _ i o l c z h => by injection h; omega⟩, (Low.set (by omega) (Nat.le_refl _)).trans e4⟩
  · refine fn_ws Tryd.func54 rfl ?_
    repeat (first | refine WS.seq ?_ | refine WS.skip ?_ | refine WS.label ?_ | refine WS.block ?_ | refine WS.inBlock ?_ | refine WS.exit rfl ?_ | refine WS.scope ?_ | refine WS.inScope ?_ | refine WS.region (by simp only [EV, TY, lget, EV2, callV_56, cc, hneg, ↓reduceIte, Nat.reduceEqDiff, decide_true, decide_false, eq_self]; with_reducible rfl) ?_)
    refine WS.cond_false (by simp only [EV, lget, hneg, ↓reduceIte, Nat.reduceEqDiff, decide_true, decide_false, eq_self]) ?_
    repeat (first | refine WS.seq ?_ | refine WS.skip ?_ | refine WS.label ?_ | refine WS.block ?_ | refine WS.inBlock ?_ | refine WS.exit rfl ?_ | refine WS.scope ?_ | refine WS.inScope ?_)
    refine WS.draw (by simp only [evDraw_nil, evDraw_plain, isEff, isRead, List.all_nil, List.all_cons, Bool.or_true, Bool.and_self, Bool.and_true, V.beq_refl, EV, TY, lget, EV2, fa60_1, l1, c0, w0, hlt, ↓reduceIte, Nat.reduceEqDiff, decide_true, decide_false, eq_self]; with_reducible rfl) ?_
    refine WS.cond_true (by simp only [EV, lget, hlt, ↓reduceIte, Nat.reduceEqDiff, decide_true, decide_false, eq_self]) ?_
    repeat (first | refine WS.seq ?_ | refine WS.skip ?_ | refine WS.label ?_ | refine WS.block ?_ | refine WS.inBlock ?_ | refine WS.exit rfl ?_ | refine WS.scope ?_ | refine WS.inScope ?_ | refine WS.region (by simp only [EV, TY, lget, callV_67, e1, ↓reduceIte, Nat.reduceEqDiff, decide_true, decide_false, eq_self]; with_reducible rfl) ?_)
    exact ends0 rfl rfl
  · simp; omega
  · rw [e3]; rfl
end Go.Proofs.YtjcckafjopjdbaaDoor
namespace Go.Proofs.YtjcckafjopjdbaaDoor
open Go Go.Vm
set_option maxRecDepth 100000
set_option maxHeartbeats 8000000
set_option linter.unusedSimpArgs false
set_option linter.unusedVariables false
/-! ### strings.Join, with a sign of one byte -/
def joinC (c : UInt8) : List (List UInt8) → List UInt8
  | [] => []
  | a :: l => a ++ l.flatMap fun w => c :: w
def lsum (l : List (List UInt8)) : Nat := (l.map (·.length)).sum
abbrev isStrs (S : Store) (v : V) (l : List (List UInt8)) : Prop := Sl S 1 v l.length (strsC l)
theorem strs_at {S : Store} {v : V} {l : List (List UInt8)} (h : isStrs S v l) (i : Nat) (hi : i < l.length) : ∃ a, opIndexAddr E0 51 v (.int .i64 (i : Nat)) = some a ∧ opLoad E0 S 9 a = some (.str (l.getD i [])) := by
  obtain ⟨a, r, h1, h2⟩ := Sl.at_ (E := E0) h Tryd.underlying51 tsize_9 .i64 i hi
  refine ⟨a, h1, h2.load isAggO_9 (c := .str (l.getD i [])) (r := strsC (l.drop (i + 1)) ++ r) ?_⟩
  rw [Nat.mul_one]
  unfold strsC
  rw [← List.map_drop, drop_getD [] l i hi]
  rfl
theorem strs_pre {S U : Store} (h : S <+: U) {v : V} {l : List (List UInt8)} (hs : isStrs S v l) : isStrs U v l := by
  obtain ⟨L, rfl⟩ := h
  exact Sl.more hs L
theorem lsum_take (l : List (List UInt8)) (i : Nat) (hi : i < l.length) : lsum (l.take (i + 1)) = lsum (l.take i) + (l.getD i []).length := by
  unfold lsum
  rw [List.take_succ_eq_append_getElem hi, List.map_append, List.sum_append, show l.getD i [] = l[i] by simp [List.getD, hi]]
  simp
theorem wrap_full {n : Int} (h0 : -9223372036854775808 ≤ n) (h : n ≤ 9223372036854775807) : IntKind.i64.wrap n = n := by
  simp [IntKind.wrap, IntKind.bits, IntKind.signed]
  omega
theorem lsum_le (l : List (List UInt8)) (i : Nat) : lsum (l.take i) ≤ lsum l := by
  unfold lsum
  conv => rhs; rw [← List.take_append_drop i l]
  rw [List.map_append, List.sum_append]
  omega
theorem flat_len' (c : UInt8) (l : List (List UInt8)) : (l.flatMap fun w => c :: w).length = lsum l + l.length := by
  induction l with
  | nil => rfl
  | cons a l ih => simp only [List.flatMap_cons, List.length_append, List.length_cons, ih, lsum, List.map_cons, List.sum_cons]; omega
theorem Join_ok {S : Store} {v : V} {l : List (List UInt8)} (h : isStrs S v l) (c : UInt8) (hsum : lsum l + l.length ≤ 536870912) : vrun E0 (.fn 39) [v, .str [c]] S = some (.str (joinC c l), S) := by
  refine fn_ws Tryd.func39 rfl ?_
  have hl : opLen E0 S 51 v = some (.int .i64 (l.length : Nat)) := h.len Tryd.underlying51
  by_cases l0 : l.length = 0
  · obtain rfl : l = [] := List.length_eq_zero_iff.1 l0
    have e0 : (((([] : List (List UInt8)).length : Nat) : Int) == 0) = true := rfl
    repeat (first | refine WS.seq ?_ | refine WS.skip ?_ | refine WS.label ?_ | refine WS.block ?_ | refine WS.inBlock ?_ | refine WS.exit rfl ?_ | refine WS.scope ?_ | refine WS.inScope ?_ | refine WS.region (by simp only [EV, TY, lget, hl, e0, ↓reduceIte, Nat.reduceEqDiff, decide_true, decide_false, eq_self]; with_reducible rfl) ?_)
    refine WS.cond_true (by simp only [EV, ↓reduceIte, Nat.reduceEqDiff, decide_true, decide_false, eq_self]) ?_
    repeat (first | refine WS.seq ?_ | refine WS.skip ?_ | refine WS.label ?_ | refine WS.block ?_ | refine WS.inBlock ?_ | refine WS.exit rfl ?_ | refine WS.scope ?_ | refine WS.inScope ?_ | refine WS.region (by simp only [EV, TY, ↓reduceIte, Nat.reduceEqDiff, decide_true, decide_false, eq_self]; with_reducible rfl) ?_)
    refine WS.ret1s (t := 4) rfl rfl (List.prefix_refl _) (frz_str _ _ _) ?_
    simp only [EV, lget, ↓reduceIte, Nat.reduceEqDiff, decide_true, decide_false, eq_self, and_true, true_and, and_self]
    rfl
  have e0 : (((l.length : Nat) : Int) == 0) = false := beq_eq_false_iff_ne.2 (by omega)
  by_cases l1 : l.length = 1
  · have e1 : (((l.length : Nat) : Int) == 1) = true := beq_iff_eq.2 (by omega)
    obtain ⟨a, a1, a2⟩ := strs_at h 0 (by omega)
    simp only [Int.natCast_zero] at a1
    repeat (first | refine WS.seq ?_ | refine WS.skip ?_ | refine WS.label ?_ | refine WS.block ?_ | refine WS.inBlock ?_ | refine WS.exit rfl ?_ | refine WS.scope ?_ | refine WS.inScope ?_ | refine WS.region (by simp only [EV, TY, lget, hl, e0, ↓reduceIte, Nat.reduceEqDiff, decide_true, decide_false, eq_self]; with_reducible rfl) ?_)
    refine WS.cond_false (by simp only [EV, ↓reduceIte, Nat.reduceEqDiff, decide_true, decide_false, eq_self]) ?_
    repeat (first | refine WS.seq ?_ | refine WS.skip ?_ | refine WS.label ?_ | refine WS.block ?_ | refine WS.inBlock ?_ | refine WS.exit rfl ?_ | refine WS.scope ?_ | refine WS.inScope ?_ | refine WS.region (by simp only [EV, TY, lget, e1, ↓reduceIte, Nat.reduceEqDiff, decide_true, decide_false, eq_self]; with_reducible rfl) ?_)
    refine WS.cond_true (by simp only [EV, ↓reduceIte, Nat.reduceEqDiff, decide_true, decide_false, eq_self]) ?_
    repeat (first | refine WS.seq ?_ | refine WS.skip ?_ | refine WS.label ?_ | refine WS.block ?_ | refine WS.inBlock ?_ | refine WS.exit rfl ?_ | refine WS.scope ?_ | refine WS.inScope ?_ | refine WS.region (by simp only [EV, TY, lget, a1, a2, ↓reduceIte, Nat.reduceEqDiff, decide_true, decide_false, eq_self]; with_reducible rfl) ?_)
    refine WS.ret1s (t := 4) rfl rfl (List.prefix_refl _) (frz_str _ _ _) ?_
    simp only [EV, lget, ↓reduceIte, Nat.reduceEqDiff, decide_true, decide_false, eq_self, and_true, true_and, and_self]
    obtain ⟨w, rfl⟩ := List.length_eq_one_iff.1 l1
    simp [joinC]
  have e1 : (((l.length : Nat) : Int) == 1) = false := beq_eq_false_iff_ne.2 (by omega)
  have hc1 : (0 : Int) < 1 := by omega
  have hdec : IntKind.i64.wrap (((l.length : Nat) : Int) - 1) = ((l.length - 1 : Nat) : Int) := wrap_sub1 l.length (by omega) (by omega)
  have hq : ∀ b, opBin E0 b .quo 3 (.int .i64 9223372036854775807) (.int .i64 ((l.length - 1 : Nat) : Int)) = some (.int .i64 (IntKind.i64.wrap ((9223372036854775807 : Int).tdiv ((l.length - 1 : Nat) : Int)))) := fun b => bin_quo _ _ _ _ _ (by omega)
  have hq2 : ¬ IntKind.i64.wrap ((9223372036854775807 : Int).tdiv ((l.length - 1 : Nat) : Int)) ≤ 1 := by
    have hpos : (0 : Int) < ((l.length - 1 : Nat) : Int) := by omega
    rw [Int.tdiv_eq_ediv_of_nonneg (by omega)]
    have h1 : (2 : Int) ≤ 9223372036854775807 / ((l.length - 1 : Nat) : Int) := by
      rw [Int.le_ediv_iff_mul_le hpos]; omega
    have h2 : (9223372036854775807 : Int) / ((l.length - 1 : Nat) : Int) ≤ 9223372036854775807 := Int.ediv_le_self _ (by omega)
    rw [wrap_full (by omega) (by omega)]
    omega
  have hm : IntKind.i64.wrap (1 * ((l.length - 1 : Nat) : Int)) = ((l.length - 1 : Nat) : Int) := by rw [wrap_i64 (by omega) (by omega)]; omega
  have ha : IntKind.i64.wrap (0 + ((l.length - 1 : Nat) : Int)) = ((l.length - 1 : Nat) : Int) := by rw [wrap_i64 (by omega) (by omega)]; omega
  repeat (first | refine WS.seq ?_ | refine WS.skip ?_ | refine WS.label ?_ | refine WS.block ?_ | refine WS.inBlock ?_ | refine WS.exit rfl ?_ | refine WS.scope ?_ | refine WS.inScope ?_ | refine WS.region (by simp only [EV, TY, lget, hl, e0, ↓reduceIte, Nat.reduceEqDiff, decide_true, decide_false, eq_self]; with_reducible rfl) ?_)
  refine WS.cond_false (by simp only [EV, ↓reduceIte, Nat.reduceEqDiff, decide_true, decide_false, eq_self]) ?_
  repeat (first | refine WS.seq ?_ | refine WS.skip ?_ | refine WS.label ?_ | refine WS.block ?_ | refine WS.inBlock ?_ | refine WS.exit rfl ?_ | refine WS.scope ?_ | refine WS.inScope ?_ | refine WS.region (by simp only [EV, TY, lget, e1, ↓reduceIte, Nat.reduceEqDiff, decide_true, decide_false, eq_self]; with_reducible rfl) ?_)
  refine WS.cond_false (by simp only [EV, ↓reduceIte, Nat.reduceEqDiff, decide_true, decide_false, eq_self]) ?_
  repeat (first | refine WS.seq ?_ | refine WS.skip ?_ | refine WS.label ?_ | refine WS.block ?_ | refine WS.inBlock ?_ | refine WS.exit rfl ?_ | refine WS.scope ?_ | refine WS.inScope ?_ | refine WS.region (by simp only [EV, TY, lget, hl1, hc1, ↓reduceIte, Nat.reduceEqDiff, decide_true, decide_false, eq_self]; with_reducible rfl) ?_)
  refine WS.cond_true (by simp only [EV, ↓reduceIte, Nat.reduceEqDiff, decide_true, decide_false, eq_self]) ?_
  repeat (first | refine WS.seq ?_ | refine WS.skip ?_ | refine WS.label ?_ | refine WS.block ?_ | refine WS.inBlock ?_ | refine WS.exit rfl ?_ | refine WS.scope ?_ | refine WS.inScope ?_ | refine WS.region (by simp only [EV, TY, lget, hl, hl1, hdec, hq, hq2, ↓reduceIte, Nat.reduceEqDiff, decide_true, decide_false, eq_self]; with_reducible rfl) ?_)
  refine WS.cond_false (by simp only [EV, ↓reduceIte, Nat.reduceEqDiff, decide_true, decide_false, eq_self]) ?_
  repeat (first | refine WS.seq ?_ | refine WS.skip ?_ | refine WS.label ?_ | refine WS.block ?_ | refine WS.inBlock ?_ | refine WS.exit rfl ?_ | refine WS.scope ?_ | refine WS.inScope ?_ | refine WS.region (by simp only [EV, TY, lget, hl, hl1, hdec, hm, ha, ↓reduceIte, Nat.reduceEqDiff, decide_true, decide_false, eq_self]; with_reducible rfl) ?_)
  refine WS.loopB (fun j fr T => ∃ i, j = l.length - i ∧ i ≤ l.length ∧ lget fr 0 = v ∧ lget fr 1 = .str [c] ∧ lget fr 5 = .int .i64 ((l.length - 1 + lsum (l.take i) : Nat) : Int) ∧ lget fr 39 = v ∧ lget fr 40 = .int .i64 (l.length : Nat) ∧ lget fr 41 = .int .i64 (i : Nat) ∧ S = T)
    (fun fr T => lget fr 0 = v ∧ lget fr 1 = .str [c] ∧ lget fr 5 = .int .i64 ((l.length - 1 + lsum l : Nat) : Int) ∧ S = T) (j := l.length) ?_ ?_ ?_
  · refine ⟨0, by omega, by omega, ?_, ?_, ?_, ?_, ?_, ?_, rfl⟩
    all_goals
      simp only [EV, lget, ↓reduceIte, Nat.reduceEqDiff, decide_true, decide_false, eq_self, and_true, true_and, and_self]
      try rfl
  · rintro fr T ⟨h0, h1, h5, rfl⟩
    have hal := alloc_60 S
    obtain ⟨T1, g1, g2, g3⟩ := Grow_ok (T := S ++ [Ob.cells [.nilp, .slN] 60]) (id := S.length) (addr := .nilp) (getS0 _) (.inl rfl) (l.length - 1 + lsum l) (by omega) (by omega)
    have low1 : Low S.length S T1 := (Low.app (Nat.le_refl _) _).trans g3
    obtain ⟨a, a1, a2⟩ := strs_at h 0 (by omega)
    simp only [Int.natCast_zero] at a1
    have a3 := load_pre low1.pre isAggO_9 a2
    have l0le : (l.getD 0 []).length ≤ lsum l := by
      have h1 := lsum_take l 0 (by omega)
      have h2 := lsum_le l 1
      simp only [Nat.zero_add] at h1
      omega
    obtain ⟨T2, w1, w2, w3⟩ := WriteString_ok g2 (l.getD 0 []) (by simp only [List.length_nil]; omega)
    rw [List.nil_append] at w2
    obtain ⟨u, s1, s2⟩ := Sl.drop (E := E0) h Tryd.underlying51 tsize_9 .i64 1 (by omega)
    have s1' : opSlice E0 51 v (some (.int .i64 1)) none none = some u := s1
    have s2' : isStrs S u (l.drop 1) := by
      unfold isStrs
      rw [List.length_drop]
      have : strsC (l.drop 1) = (strsC l).drop (1 * 1) := by simp [strsC]
      rw [this]; exact s2
    have lu : opLen E0 T2 51 u = some (.int .i64 ((l.length - 1 : Nat) : Int)) := by
      have := (strs_pre (low1.trans w3).pre s2').len (E := E0) Tryd.underlying51
      rw [List.length_drop] at this
      exact this
    have low2 : Low S.length S T2 := low1.trans w3
    have hrest : lsum l = (l.getD 0 []).length + lsum (l.drop 1) := by
      obtain ⟨x, r, rfl⟩ : ∃ x r, l = x :: r := by
        cases l with
        | nil => exact absurd rfl l0
        | cons x r => exact ⟨x, r, rfl⟩
      simp [lsum]
    have hjoin : joinC c l = l.getD 0 [] ++ (l.drop 1).flatMap fun w => c :: w := by
      cases l with
      | nil => exact absurd rfl l0
      | cons x r => rfl
    have hrl : (l.drop 1).length = l.length - 1 := by simp
    rw [hjoin]
    generalize l.drop 1 = r at s2' hrest hrl
    rw [← hrl] at lu
    generalize l.getD 0 [] = x at a3 w1 w2 hrest l0le
    repeat (first | refine WS.seq ?_ | refine WS.skip ?_ | refine WS.label ?_ | refine WS.block ?_ | refine WS.inBlock ?_ | refine WS.exit rfl ?_ | refine WS.scope ?_ | refine WS.inScope ?_ | refine WS.region (by simp only [EV, TY, lget, h0, h1, h5, hal, callV_54, g1, a1, a3, callV_41, w1, s1', lu, ↓reduceIte, Nat.reduceEqDiff, decide_true, decide_false, eq_self]; with_reducible rfl) ?_)
    refine WS.loopB (fun j fr T => ∃ i, j = r.length - i ∧ i ≤ r.length ∧ lget fr 1 = .str [c] ∧ lget fr 8 = .ref S.length 0 ∧ lget fr 63 = u ∧ lget fr 64 = .int .i64 (r.length : Nat) ∧ lget fr 65 = .int .i64 (i : Nat) ∧ Bld T S.length (x ++ (r.take i).flatMap fun w => c :: w) ∧ Low S.length S T)
      (fun fr T => lget fr 8 = .ref S.length 0 ∧ Bld T S.length (x ++ r.flatMap fun w => c :: w) ∧ Low S.length S T) (j := r.length) ?_ ?_ ?_
    · refine ⟨0, by omega, by omega, ?_, ?_, ?_, ?_, ?_, by simpa using w2, low2⟩
      all_goals
        simp only [EV, lget, h1, ↓reduceIte, Nat.reduceEqDiff, decide_true, decide_false, eq_self, and_true, true_and, and_self]
        try rfl
    · rintro fr T ⟨h8, hb, hlow⟩
      obtain ⟨T', z1, z2⟩ := String_ok hb (by rw [List.length_append, flat_len']; omega)
      repeat (first | refine WS.seq ?_ | refine WS.skip ?_ | refine WS.label ?_ | refine WS.block ?_ | refine WS.inBlock ?_ | refine WS.exit rfl ?_ | refine WS.scope ?_ | refine WS.inScope ?_ | refine WS.region (by simp only [EV, TY, h8, callV_42, z1, ↓reduceIte, Nat.reduceEqDiff, decide_true, decide_false, eq_self]; with_reducible rfl) ?_)
      refine WS.ret1s (t := 4) rfl rfl (hlow.trans z2).pre (frz_str _ _ _) ?_
      simp only [EV, ↓reduceIte, Nat.reduceEqDiff, decide_true, decide_false, eq_self, and_true, true_and, and_self]
    · rintro j fr T ⟨i, rfl, hi, h1, h8, h63, h64, h65, hb, hlow⟩ ih last
      by_cases hlt : i < r.length
      · have hlt' : ((i : Nat) : Int) < ((r.length : Nat) : Int) := by omega
        obtain ⟨b, b1, b2⟩ := strs_at s2' i hlt
        have b3 := load_pre hlow.pre isAggO_9 b2
        have ht := lsum_take r i hlt
        have ht2 := lsum_le r (i + 1)
        have htk : (r.take (i + 1)).flatMap (fun w => c :: w) = ((r.take i).flatMap fun w => c :: w) ++ c :: r.getD i [] := by
          rw [List.take_succ_eq_append_getElem hlt, List.flatMap_append]
          simp [List.getD, hlt]
        generalize r.getD i [] = w at b3 ht htk
        have fl1 := flat_len' c (r.take i)
        rw [List.length_take, Nat.min_eq_left hi] at fl1
        obtain ⟨T1', p1, p2, p3⟩ := WriteString_ok hb [c] (by rw [List.length_append, fl1]; simp; omega)
        obtain ⟨T2', q1, q2, q3⟩ := WriteString_ok p2 w (by simp only [List.length_append, fl1]; simp; omega)
        have b4 := load_pre (hlow.trans p3).pre isAggO_9 b2
        have iinc := wrap_inc i (by omega)
        repeat (first | refine WS.seq ?_ | refine WS.skip ?_ | refine WS.label ?_ | refine WS.block ?_ | refine WS.inBlock ?_ | refine WS.exit rfl ?_ | refine WS.scope ?_ | refine WS.inScope ?_ | refine WS.region (by simp only [EV, TY, h64, h65, hlt', ↓reduceIte, Nat.reduceEqDiff, decide_true, decide_false, eq_self]; with_reducible rfl) ?_)
        refine WS.cond_true (by simp only [EV, ↓reduceIte, Nat.reduceEqDiff, decide_true, decide_false, eq_self]) ?_
        repeat (first | refine WS.seq ?_ | refine WS.skip ?_ | refine WS.label ?_ | refine WS.block ?_ | refine WS.inBlock ?_ | refine WS.exit rfl ?_ | refine WS.scope ?_ | refine WS.inScope ?_ | refine WS.region (by simp only [EV, TY, h1, h8, h63, h65, b1, b3, callV_41, p1, q1, iinc, ↓reduceIte, Nat.reduceEqDiff, decide_true, decide_false, eq_self]; with_reducible rfl) ?_)
        refine ih (r.length - (i + 1)) _ _ (by omega) ⟨i + 1, rfl, by omega, ?_, ?_, ?_, ?_, ?_, by rw [htk]; simpa using q2, (hlow.trans p3).trans q3⟩
        · simp only [EV, h1, ↓reduceIte, Nat.reduceEqDiff, decide_true, decide_false, eq_self, and_true, true_and, and_self]
        · simp only [EV, h8, ↓reduceIte, Nat.reduceEqDiff, decide_true, decide_false, eq_self, and_true, true_and, and_self]
        · simp only [EV, h63, ↓reduceIte, Nat.reduceEqDiff, decide_true, decide_false, eq_self, and_true, true_and, and_self]
        · simp only [EV, h64, ↓reduceIte, Nat.reduceEqDiff, decide_true, decide_false, eq_self, and_true, true_and, and_self]
        · simp only [EV, ↓reduceIte, Nat.reduceEqDiff, decide_true, decide_false, eq_self, and_true, true_and, and_self]
      · have hlt' : ¬ ((i : Nat) : Int) < ((r.length : Nat) : Int) := by omega
        repeat (first | refine WS.seq ?_ | refine WS.skip ?_ | refine WS.label ?_ | refine WS.block ?_ | refine WS.inBlock ?_ | refine WS.exit rfl ?_ | refine WS.scope ?_ | refine WS.inScope ?_ | refine WS.region (by simp only [EV, TY, h64, h65, hlt', ↓reduceIte, Nat.reduceEqDiff, decide_true, decide_false, eq_self]; with_reducible rfl) ?_)
        refine WS.cond_false (by simp only [EV, ↓reduceIte, Nat.reduceEqDiff, decide_true, decide_false, eq_self]) ?_
        refine WS.exit rfl ?_
        have : i = r.length := by omega
        subst this
        rw [List.take_length] at hb
        refine last _ _ ⟨?_, hb, hlow⟩
        simp only [EV, h8, ↓reduceIte, Nat.reduceEqDiff, decide_true, decide_false, eq_self, and_true, true_and, and_self]
  · rintro j fr T ⟨i, rfl, hi, h0, h1, h5, h39, h40, h41, rfl⟩ ih last
    by_cases hlt : i < l.length
    · have hlt' : ((i : Nat) : Int) < ((l.length : Nat) : Int) := by omega
      obtain ⟨a, a1, a2⟩ := strs_at h i hlt
      have ht := lsum_take l i hlt
      have ht2 := lsum_le l (i + 1)
      generalize l.getD i [] = w at a2 ht
      have iinc := wrap_inc i (by omega)
      have wsub : IntKind.i64.wrap (9223372036854775807 - ((l.length - 1 + lsum (l.take i) : Nat) : Int)) = 9223372036854775807 - ((l.length - 1 + lsum (l.take i) : Nat) : Int) := wrap_full (by omega) (by omega)
      have hng : ¬ (9223372036854775807 - ((l.length - 1 + lsum (l.take i) : Nat) : Int)) < ((w.length : Nat) : Int) := by omega
      have wadd := wrap_addN (l.length - 1 + lsum (l.take i)) w.length (by omega)
      repeat (first | refine WS.seq ?_ | refine WS.skip ?_ | refine WS.label ?_ | refine WS.block ?_ | refine WS.inBlock ?_ | refine WS.exit rfl ?_ | refine WS.scope ?_ | refine WS.inScope ?_ | refine WS.region (by simp only [EV, TY, h40, h41, hlt', ↓reduceIte, Nat.reduceEqDiff, decide_true, decide_false, eq_self]; with_reducible rfl) ?_)
      refine WS.cond_true (by simp only [EV, ↓reduceIte, Nat.reduceEqDiff, decide_true, decide_false, eq_self]) ?_
      repeat (first | refine WS.seq ?_ | refine WS.skip ?_ | refine WS.label ?_ | refine WS.block ?_ | refine WS.inBlock ?_ | refine WS.exit rfl ?_ | refine WS.scope ?_ | refine WS.inScope ?_ | refine WS.region (by simp only [EV, TY, h5, h39, h41, a1, a2, wsub, hng, ↓reduceIte, Nat.reduceEqDiff, decide_true, decide_false, eq_self]; with_reducible rfl) ?_)
      refine WS.cond_false (by simp only [EV, hng, ↓reduceIte, Nat.reduceEqDiff, decide_true, decide_false, eq_self]) ?_
      repeat (first | refine WS.seq ?_ | refine WS.skip ?_ | refine WS.label ?_ | refine WS.block ?_ | refine WS.inBlock ?_ | refine WS.exit rfl ?_ | refine WS.scope ?_ | refine WS.inScope ?_ | refine WS.region (by simp only [EV, TY, h5, wadd, h41, iinc, ↓reduceIte, Nat.reduceEqDiff, decide_true, decide_false, eq_self]; with_reducible rfl) ?_)
      refine ih (l.length - (i + 1)) _ _ (by omega) ⟨i + 1, rfl, by omega, ?_, ?_, ?_, ?_, ?_, ?_, rfl⟩
      · simp only [EV, h0, ↓reduceIte, Nat.reduceEqDiff, decide_true, decide_false, eq_self, and_true, true_and, and_self]
      · simp only [EV, h1, ↓reduceIte, Nat.reduceEqDiff, decide_true, decide_false, eq_self, and_true, true_and, and_self]
      · simp only [EV, ↓reduceIte, Nat.reduceEqDiff, decide_true, decide_false, eq_self, and_true, true_and, and_self]
        rw [ht, Nat.add_assoc]
      · simp only [EV, h39, ↓reduceIte, Nat.reduceEqDiff, decide_true, decide_false, eq_self, and_true, true_and, and_self]
      · simp only [EV, h40, ↓reduceIte, Nat.reduceEqDiff, decide_true, decide_false, eq_self, and_true, true_and, and_self]
      · simp only [EV, ↓reduceIte, Nat.reduceEqDiff, decide_true, decide_false, eq_self, and_true, true_and, and_self]
    · have hlt' : ¬ ((i : Nat) : Int) < ((l.length : Nat) : Int) := by omega
      repeat (first | refine WS.seq ?_ | refine WS.skip ?_ | refine WS.label ?_ | refine WS.block ?_ | refine WS.inBlock ?_ | refine WS.exit rfl ?_ | refine WS.scope ?_ | refine WS.inScope ?_ | refine WS.region (by simp only [EV, TY, h40, h41, hlt', ↓reduceIte, Nat.reduceEqDiff, decide_true, decide_false, eq_self]; with_reducible rfl) ?_)
      refine WS.cond_false (by simp only [EV, ↓reduceIte, Nat.reduceEqDiff, decide_true, decide_false, eq_self]) ?_
      refine WS.exit rfl ?_
      have : i = l.length := by omega
      subst this
      rw [List.take_length] at h5
      refine last _ _ ⟨?_, ?_, ?_, rfl⟩
      · simp only [EV, h0, ↓reduceIte, Nat.reduceEqDiff, decide_true, decide_false, eq_self, and_true, true_and, and_self]
      · simp only [EV, h1, ↓reduceIte, Nat.reduceEqDiff, decide_true, decide_false, eq_self, and_true, true_and, and_self]
      · simp only [EV, h5, ↓reduceIte, Nat.reduceEqDiff, decide_true, decide_false, eq_self, and_true, true_and, and_self]
end Go.Proofs.YtjcckafjopjdbaaDoor
namespace Go.Proofs.YtjcckafjopjdbaaDoor
open Go Go.Vm
set_option maxRecDepth 100000
set_option maxHeartbeats 8000000
set_option linter.unusedSimpArgs false
set_option linter.unusedVariables false
/-! ### texts of steps and names -/
theorem valF_len (n : Nat) : ∀ (s : List UInt8) (i : Nat), (valF n i s).length ≤ 3 * s.length
  | [], i => by simp [valF]
  | c :: s, i => by
    have h1 := valF_len n s (i + 1)
    have h2 := valB_len n i c
    simp only [valF, List.length_append, List.length_cons]
    omega
theorem valueS_len (s : List UInt8) : (valueS s).length ≤ 3 * s.length := valF_len _ _ _
def textA (a : Ava) : List UInt8 := a.1 ++ 61 :: valueS a.2
def stepS (r : List Ava) : List UInt8 := joinC 43 (r.map textA)
def printS (n : List (List Ava)) : List UInt8 := joinC 44 (n.map stepS)
theorem textA_len {a : Ava} (h : okA a) : (textA a).length ≤ 4194305 := by
  have h1 := valueS_len a.2
  have h2 := h.1
  have h3 := h.2
  simp only [textA, List.length_append, List.length_cons]
  omega
theorem lsum_bound (b : Nat) : ∀ l : List (List UInt8), (∀ w ∈ l, w.length ≤ b) → lsum l ≤ b * l.length
  | [], _ => by simp [lsum]
  | w :: l, h => by
    have h1 := lsum_bound b l (fun x hx => h x (by simp [hx]))
    have h2 := h w (by simp)
    simp only [lsum, List.map_cons, List.sum_cons, List.length_cons, Nat.mul_add, Nat.mul_one] at h1 ⊢
    omega
theorem joinC_len (c : UInt8) (l : List (List UInt8)) : (joinC c l).length ≤ lsum l + l.length := by
  cases l with
  | nil => simp [joinC]
  | cons a l =>
    simp only [joinC, List.length_append, flat_len', lsum, List.map_cons, List.sum_cons, List.length_cons]
    omega
theorem lsum_texts {r : List Ava} (h : ∀ a ∈ r, okA a) (h4 : r.length ≤ 4) : lsum (r.map textA) + (r.map textA).length ≤ 16777224 := by
  have := lsum_bound 4194305 (r.map textA) (fun w hw => by
    obtain ⟨a, ha, rfl⟩ := List.mem_map.1 hw
    exact textA_len (h a ha))
  rw [List.length_map] at this ⊢
  have : 4194305 * r.length ≤ 4194305 * 4 := Nat.mul_le_mul_left _ h4
  omega
theorem stepS_len {r : List Ava} (h : ∀ a ∈ r, okA a) (h4 : r.length ≤ 4) : (stepS r).length ≤ 16777224 := Nat.le_trans (joinC_len 43 _) (lsum_texts h h4)
/-- Texts that are being collected. -/
def SS (n0 : Nat) (T : Store) (v : V) (l : List (List UInt8)) : Prop := (l = [] ∧ v = .slN) ∨ ∃ p, n0 ≤ p ∧ v = .slR p 0 l.length l.length 1 ∧ T[p]? = some (.cells (strsC l) 9)
theorem SS.strs {n0 : Nat} {T : Store} {v : V} {l : List (List UInt8)} (h : SS n0 T v l) : isStrs T v l := by
  rcases h with ⟨rfl, rfl⟩ | ⟨p, h1, rfl, h2⟩
  · exact ⟨rfl, .inl ⟨rfl, rfl⟩⟩
  · exact ⟨by simp [strsC], .inr (.inr ⟨p, 0, l.length, _, 9, rfl, Nat.le_refl _, h2, by rw [List.drop_zero, List.take_of_length_le (by simp [strsC])]⟩)⟩
theorem SS.more {n0 : Nat} {T : Store} {v : V} {l : List (List UInt8)} (h : SS n0 T v l) (L : Store) : SS n0 (T ++ L) v l := by
  rcases h with h | ⟨p, h1, h2, h3⟩
  · exact .inl h
  · exact .inr ⟨p, h1, h2, get_more h3 L⟩
theorem SS.put {n0 : Nat} {T : Store} {v : V} {l : List (List UInt8)} (h : SS n0 T v l) (hn : n0 ≤ T.length) (w : List UInt8) (hl : l.length ≤ 1048576) :
    ∃ v' T2, opBuildSlice E0 T 51 1 [(0, .str w)] = some (.slR T.length 0 1 1 1, T ++ [Ob.cells [.str w] 9]) ∧ opAppend E0 (T ++ [Ob.cells [.str w] 9]) [51, 51] v (.slR T.length 0 1 1 1) = some (v', T2) ∧ SS n0 T2 v' (l ++ [w]) ∧ Low n0 T T2 := by
  have hmk : opBuildSlice E0 T 51 1 [(0, .str w)] = some (.slR T.length 0 1 1 1, T ++ [Ob.cells [.str w] 9]) := ty51.mk1 T (.str w) rfl rfl
  have hsc := sc_top [.str w] 1 (z := 1) rfl T (e := 9)
  rcases h with ⟨rfl, rfl⟩ | ⟨p, p1, rfl, p2⟩
  · have happ := ty51.app0 hsc (fun s => by simp) rfl (by omega) (by omega) (by omega)
    exact ⟨_, _, hmk, happ, .inr ⟨T.length + 1, by omega, by simp, by simp [strsC]⟩, (Low.app hn _).trans (Low.app (by simp; omega) _)⟩
  · have happ := ty51.app (m := l.length) hsc (fun s => by simp) rfl (by omega) (get_more p2 _) (by simp [strsC]) (by omega) (by omega)
    exact ⟨_, _, hmk, happ, .inr ⟨T.length + 1, by omega, by simp, by simp [strsC]⟩, (Low.app hn _).trans ((Low.set (by simp; omega) p1).trans (Low.app (by simp; omega) _))⟩
theorem step_ok {S : Store} {v : V} {r : List Ava} (h : isRdn S v r) (o : okR r) (h4 : r.length ≤ 4) : vrun E0 (.fn 38) [v] S = some (.str (stepS r), S) := by
  refine fn_ws Tryd.func38 rfl ?_
  have lr := h.len
  repeat (first | refine WS.seq ?_ | refine WS.skip ?_ | refine WS.label ?_ | refine WS.block ?_ | refine WS.inBlock ?_ | refine WS.exit rfl ?_ | refine WS.scope ?_ | refine WS.inScope ?_ | refine WS.region (by simp only [EV, TY, lget, lr, ↓reduceIte, Nat.reduceEqDiff, decide_true, decide_false, eq_self]; with_reducible rfl) ?_)
  refine WS.loopB (fun j fr U => ∃ m vr, j = r.length - m ∧ m ≤ r.length ∧ lget fr 3 = vr ∧ lget fr 6 = v ∧ lget fr 7 = .int .i64 (r.length : Nat) ∧ lget fr 8 = .int .i64 (m : Nat) ∧ SS S.length U vr ((r.take m).map textA) ∧ Low S.length S U)
    (fun fr U => ∃ vr, lget fr 3 = vr ∧ SS S.length U vr (r.map textA) ∧ Low S.length S U) (j := r.length) ?_ ?_ ?_
  · refine ⟨0, .slN, by omega, by omega, ?_, ?_, ?_, ?_, .inl ⟨by simp, rfl⟩, Low.refl (Nat.le_refl _)⟩
    all_goals
      simp only [EV, lget, ↓reduceIte, Nat.reduceEqDiff, decide_true, decide_false, eq_self, and_true, true_and, and_self]
      try rfl
  · rintro fr U ⟨vr, h3, hss, hlow⟩
    have hj := Join_ok hss.strs 43 (by have := lsum_texts o.2 h4; omega)
    have hj' : vrun E0 (.fn 39) [vr, .str [43]] U = some (.str (stepS r), U) := hj
    repeat (first | refine WS.seq ?_ | refine WS.skip ?_ | refine WS.label ?_ | refine WS.block ?_ | refine WS.inBlock ?_ | refine WS.exit rfl ?_ | refine WS.scope ?_ | refine WS.inScope ?_ | refine WS.region (by simp only [EV, TY, h3, callV_39, hj', ↓reduceIte, Nat.reduceEqDiff, decide_true, decide_false, eq_self]; with_reducible rfl) ?_)
    refine WS.ret1s (t := 2) rfl rfl hlow.pre (frz_str _ _ _) ?_
    simp only [EV, ↓reduceIte, Nat.reduceEqDiff, decide_true, decide_false, eq_self, and_true, true_and, and_self]
  · rintro j fr U ⟨m, vr, rfl, hm, h3, h6, h7, h8, hss, hlow⟩ ih last
    by_cases hmlt : m < r.length
    · have hmlt' : ((m : Nat) : Int) < ((r.length : Nat) : Int) := by omega
      obtain ⟨qa, j1, ta, j2⟩ := (h.pre hlow.pre).at_ m hmlt
      have j3 := ava_load j2
      have oka := o.at_ m hmlt
      have htm : (r.take (m + 1)).map textA = (r.take m).map textA ++ [textA (r.getD m ([], []))] := by
        rw [List.take_succ_eq_append_getElem hmlt, List.map_append]
        rw [show r.getD m ([], []) = r[m] by simp [List.getD, hmlt]]
        rfl
      generalize r.getD m ([], []) = x at j3 oka htm
      have hal := alloc_40 U
      have hsto := st_40 U [.str [], .str []] rfl x.1 x.2
      generalize hW : U ++ [Ob.cells [V.str x.1, V.str x.2] 40] = W at hsto
      have hlowW : Low S.length S W := by rw [← hW]; exact hlow.trans (Low.app hlow.1 _)
      have hssW : SS S.length W vr ((r.take m).map textA) := by rw [← hW]; exact hss.more _
      have hcell : W[U.length]? = some (.cells [V.str x.1, V.str x.2] 40) := by rw [← hW]; simp
      obtain ⟨⟨fa, fa1, fa2⟩, ⟨fb, fb1, fb2⟩⟩ := fr_agg W 40 [] x.1 x.2 U.length hcell
      have va := value_ok x.2 W oka.2
      have ln := valueS_len x.2
      have k1 : ∀ l, opBin E0 l .add 9 (.str x.1) (.str [61]) = some (.str (x.1 ++ [61])) := fun l => bin_sadd _ _ _ _ (by have := oka.1; simp; omega)
      have k2 : ∀ l, opBin E0 l .add 9 (.str (x.1 ++ [61])) (.str (valueS x.2)) = some (.str (textA x)) := fun l => by
        rw [bin_sadd _ _ _ _ (by have := oka.1; have := oka.2; simp; omega)]; simp [textA]
      obtain ⟨v', T2, g1, g2, g3, g4⟩ := hssW.put hlowW.1 (textA x) (by rw [List.length_map, List.length_take]; omega)
      have minc := wrap_inc m (by omega)
      repeat (first | refine WS.seq ?_ | refine WS.skip ?_ | refine WS.label ?_ | refine WS.block ?_ | refine WS.inBlock ?_ | refine WS.exit rfl ?_ | refine WS.scope ?_ | refine WS.inScope ?_ | refine WS.region (by simp only [EV, TY, h6, h7, h8, hmlt', ↓reduceIte, Nat.reduceEqDiff, decide_true, decide_false, eq_self]; with_reducible rfl) ?_)
      refine WS.cond_true (by simp only [EV, ↓reduceIte, Nat.reduceEqDiff, decide_true, decide_false, eq_self]) ?_
      repeat (first | refine WS.seq ?_ | refine WS.skip ?_ | refine WS.label ?_ | refine WS.block ?_ | refine WS.inBlock ?_ | refine WS.exit rfl ?_ | refine WS.scope ?_ | refine WS.inScope ?_ | refine WS.region (by simp only [EV, TY, h6, h8, j1, j3, hal, hsto, ↓reduceIte, Nat.reduceEqDiff, decide_true, decide_false, eq_self]; with_reducible rfl) ?_)
      refine WS.drawb (b := [0, 0, 2, 6, 0, 16, 48, 126, 254, 511, 1023]) (by kernel_rfl) (by simp only [evDraw_nil, evDraw_plain, isEff, isRead, List.all_nil, List.all_cons, Bool.or_true, Bool.true_or, Bool.and_self, Bool.and_true, V.beq_refl, List.getD_cons_zero, List.getD_cons_succ, Nat.reduceAdd, EV, TY,  h3, fa1, fa2, fb1, fb2, callV_53, va, k1, k2, g1, g2, tb7, tb8, tb9, tb10, ↓reduceIte, Nat.reduceEqDiff, decide_true, decide_false, eq_self]; with_reducible rfl) ?_
      repeat (first | refine WS.seq ?_ | refine WS.skip ?_ | refine WS.label ?_ | refine WS.block ?_ | refine WS.inBlock ?_ | refine WS.exit rfl ?_ | refine WS.scope ?_ | refine WS.inScope ?_ | refine WS.region (by simp only [EV, TY, h8, minc, ↓reduceIte, Nat.reduceEqDiff, decide_true, decide_false, eq_self]; with_reducible rfl) ?_)
      refine ih (r.length - (m + 1)) _ _ (by omega) ⟨m + 1, v', rfl, by omega, ?_, ?_, ?_, ?_, by rw [htm]; exact g3, hlowW.trans g4⟩
      · simp only [EV, ↓reduceIte, Nat.reduceEqDiff, decide_true, decide_false, eq_self, and_true, true_and, and_self]
      · simp only [EV, h6, ↓reduceIte, Nat.reduceEqDiff, decide_true, decide_false, eq_self, and_true, true_and, and_self]
      · simp only [EV, h7, ↓reduceIte, Nat.reduceEqDiff, decide_true, decide_false, eq_self, and_true, true_and, and_self]
      · simp only [EV, ↓reduceIte, Nat.reduceEqDiff, decide_true, decide_false, eq_self, and_true, true_and, and_self]
    · have hmlt' : ¬ ((m : Nat) : Int) < ((r.length : Nat) : Int) := by omega
      repeat (first | refine WS.seq ?_ | refine WS.skip ?_ | refine WS.label ?_ | refine WS.block ?_ | refine WS.inBlock ?_ | refine WS.exit rfl ?_ | refine WS.scope ?_ | refine WS.inScope ?_ | refine WS.region (by simp only [EV, TY, h6, h7, h8, hmlt', ↓reduceIte, Nat.reduceEqDiff, decide_true, decide_false, eq_self]; with_reducible rfl) ?_)
      refine WS.cond_false (by simp only [EV, ↓reduceIte, Nat.reduceEqDiff, decide_true, decide_false, eq_self]) ?_
      refine WS.exit rfl ?_
      have : m = r.length := by omega
      subst this
      rw [List.take_length] at hss
      refine last _ _ ⟨vr, ?_, hss, hlow⟩
      simp only [EV, h3, ↓reduceIte, Nat.reduceEqDiff, decide_true, decide_false, eq_self, and_true, true_and, and_self]
theorem shaped_bound {n : List (List Ava)} (on : okN n) (sh : shapedP n) : lsum (n.map stepS) + (n.map stepS).length ≤ 536870912 := by
  have h1 := lsum_bound 16777224 (n.map stepS) (fun w hw => by
    obtain ⟨r, hr, rfl⟩ := List.mem_map.1 hw
    obtain ⟨i, hi, rfl⟩ := List.getElem_of_mem hr
    have h4 := (sh.2 i hi).2.1
    rw [show n.getD i [] = n[i] by simp [List.getD, hi]] at h4
    exact stepS_len (on.2 _ hr).2 h4)
  have h2 := sh.1
  rw [List.length_map] at h1 ⊢
  have h3 : 16777224 * n.length ≤ 16777224 * 16 := Nat.mul_le_mul_left _ h2
  omega
theorem Print_ok {S : Store} {v : V} {n : List (List Ava)} (h : isDn S v n) (on : okN n) (sh : shapedP n) : vrun E0 (.fn 20) [v] S = some (.str (printS n), S) := by
  refine fn_ws Tryd.func20 rfl ?_
  have ln := h.len
  have hb := shaped_bound on sh
  repeat (first | refine WS.seq ?_ | refine WS.skip ?_ | refine WS.label ?_ | refine WS.block ?_ | refine WS.inBlock ?_ | refine WS.exit rfl ?_ | refine WS.scope ?_ | refine WS.inScope ?_ | refine WS.region (by simp only [EV, TY, lget, ln, ↓reduceIte, Nat.reduceEqDiff, decide_true, decide_false, eq_self]; with_reducible rfl) ?_)
  refine WS.loopB (fun j fr U => ∃ m vr, j = n.length - m ∧ m ≤ n.length ∧ lget fr 3 = vr ∧ lget fr 6 = v ∧ lget fr 7 = .int .i64 (n.length : Nat) ∧ lget fr 8 = .int .i64 (m : Nat) ∧ SS S.length U vr ((n.take m).map stepS) ∧ Low S.length S U)
    (fun fr U => ∃ vr, lget fr 3 = vr ∧ SS S.length U vr (n.map stepS) ∧ Low S.length S U) (j := n.length) ?_ ?_ ?_
  · refine ⟨0, .slN, by omega, by omega, ?_, ?_, ?_, ?_, .inl ⟨by simp, rfl⟩, Low.refl (Nat.le_refl _)⟩
    all_goals
      simp only [EV, lget, ↓reduceIte, Nat.reduceEqDiff, decide_true, decide_false, eq_self, and_true, true_and, and_self]
      try rfl
  · rintro fr U ⟨vr, h3, hss, hlow⟩
    have hj' : vrun E0 (.fn 39) [vr, .str [44]] U = some (.str (printS n), U) := Join_ok hss.strs 44 hb
    repeat (first | refine WS.seq ?_ | refine WS.skip ?_ | refine WS.label ?_ | refine WS.block ?_ | refine WS.inBlock ?_ | refine WS.exit rfl ?_ | refine WS.scope ?_ | refine WS.inScope ?_ | refine WS.region (by simp only [EV, TY, h3, callV_39, hj', ↓reduceIte, Nat.reduceEqDiff, decide_true, decide_false, eq_self]; with_reducible rfl) ?_)
    refine WS.ret1s (t := 2) rfl rfl hlow.pre (frz_str _ _ _) ?_
    simp only [EV, ↓reduceIte, Nat.reduceEqDiff, decide_true, decide_false, eq_self, and_true, true_and, and_self]
  · rintro j fr U ⟨m, vr, rfl, hm, h3, h6, h7, h8, hss, hlow⟩ ih last
    by_cases hmlt : m < n.length
    · have hmlt' : ((m : Nat) : Int) < ((n.length : Nat) : Int) := by omega
      obtain ⟨a, c, i1, i2, i3⟩ := (h.pre hlow.pre).at_ m hmlt
      have okr := on.at_ m hmlt
      have h4 := (sh.2 m hmlt).2.1
      have htm : (n.take (m + 1)).map stepS = (n.take m).map stepS ++ [stepS (n.getD m [])] := by
        rw [List.take_succ_eq_append_getElem hmlt, List.map_append]
        rw [show n.getD m [] = n[m] by simp [List.getD, hmlt]]
        rfl
      generalize n.getD m [] = r at i3 okr h4 htm
      have hs := step_ok i3 okr h4
      obtain ⟨v', T2, g1, g2, g3, g4⟩ := hss.put hlow.1 (stepS r) (by rw [List.length_map, List.length_take]; have := on.1; omega)
      have minc := wrap_inc m (by have := on.1; omega)
      repeat (first | refine WS.seq ?_ | refine WS.skip ?_ | refine WS.label ?_ | refine WS.block ?_ | refine WS.inBlock ?_ | refine WS.exit rfl ?_ | refine WS.scope ?_ | refine WS.inScope ?_ | refine WS.region (by simp only [EV, TY, h6, h7, h8, hmlt', ↓reduceIte, Nat.reduceEqDiff, decide_true, decide_false, eq_self]; with_reducible rfl) ?_)
      refine WS.cond_true (by simp only [EV, ↓reduceIte, Nat.reduceEqDiff, decide_true, decide_false, eq_self]) ?_
      repeat (first | refine WS.seq ?_ | refine WS.skip ?_ | refine WS.label ?_ | refine WS.block ?_ | refine WS.inBlock ?_ | refine WS.exit rfl ?_ | refine WS.scope ?_ | refine WS.inScope ?_ | refine WS.region (by simp only [EV, TY, h3, h6, h8, i1, i2, callV_38, hs, g1, g2, minc, ↓reduceIte, Nat.reduceEqDiff, decide_true, decide_false, eq_self]; with_reducible rfl) ?_)
      refine ih (n.length - (m + 1)) _ _ (by omega) ⟨m + 1, v', rfl, by omega, ?_, ?_, ?_, ?_, by rw [htm]; exact g3, hlow.trans g4⟩
      · simp only [EV, ↓reduceIte, Nat.reduceEqDiff, decide_true, decide_false, eq_self, and_true, true_and, and_self]
      · simp only [EV, h6, ↓reduceIte, Nat.reduceEqDiff, decide_true, decide_false, eq_self, and_true, true_and, and_self]
      · simp only [EV, h7, ↓reduceIte, Nat.reduceEqDiff, decide_true, decide_false, eq_self, and_true, true_and, and_self]
      · simp only [EV, ↓reduceIte, Nat.reduceEqDiff, decide_true, decide_false, eq_self, and_true, true_and, and_self]
    · have hmlt' : ¬ ((m : Nat) : Int) < ((n.length : Nat) : Int) := by omega
      repeat (first | refine WS.seq ?_ | refine WS.skip ?_ | refine WS.label ?_ | refine WS.block ?_ | refine WS.inBlock ?_ | refine WS.exit rfl ?_ | refine WS.scope ?_ | refine WS.inScope ?_ | refine WS.region (by simp only [EV, TY, h6, h7, h8, hmlt', ↓reduceIte, Nat.reduceEqDiff, decide_true, decide_false, eq_self]; with_reducible rfl) ?_)
      refine WS.cond_false (by simp only [EV, ↓reduceIte, Nat.reduceEqDiff, decide_true, decide_false, eq_self]) ?_
      refine WS.exit rfl ?_
      have : m = n.length := by omega
      subst this
      rw [List.take_length] at hss
      refine last _ _ ⟨vr, ?_, hss, hlow⟩
      simp only [EV, h3, ↓reduceIte, Nat.reduceEqDiff, decide_true, decide_false, eq_self, and_true, true_and, and_self]
theorem shapedP_of' {n : List (List Ava)} (h : shapedB n = true) : shapedP n := by
  unfold shapedB at h
  exact @of_decide_eq_true _ (Classical.propDecidable _) h
/-- May a name be? -/
def rightP (n : List (List Ava)) : Prop := shapedP n ∧ (printS n).length ≤ 400
noncomputable def rightB (n : List (List Ava)) : Bool := shapedB n && decide ((printS n).length ≤ 400)
theorem rightB_iff (n : List (List Ava)) : rightB n = true ↔ rightP n := by
  unfold rightB rightP
  rw [Bool.and_eq_true, decide_eq_true_iff]
  exact ⟨fun h => ⟨shapedP_of' h.1, h.2⟩, fun h => ⟨shapedB_true h.1, h.2⟩⟩
theorem Right_ok {S : Store} {v : V} {n : List (List Ava)} (h : isDn S v n) (on : okN n) : vrun E0 (.fn 19) [v] S = some (.bool (rightB n), S) := by
  refine fn_ws Tryd.func19 rfl ?_
  have hs := shaped_ok h on
  by_cases hb : shapedB n = true
  · have hp := Print_ok h on (shapedP_of' hb)
    have hr : rightB n = decide ((printS n).length ≤ 400) := by unfold rightB; rw [hb]; rfl
    have hr2 : decide (((printS n).length : Int) ≤ 400) = rightB n := by
      rw [hr]
      by_cases h : (printS n).length ≤ 400
      · rw [decide_eq_true h]; exact decide_eq_true (by omega)
      · rw [decide_eq_false h]; exact decide_eq_false (by omega)
    by_cases hl : (((printS n).length : Nat) : Int) ≤ 400
    · repeat (first | refine WS.seq ?_ | refine WS.skip ?_ | refine WS.label ?_ | refine WS.block ?_ | refine WS.inBlock ?_ | refine WS.exit rfl ?_ | refine WS.scope ?_ | refine WS.inScope ?_ | refine WS.region (by simp only [EV, TY, lget, callV_24, hs, hb, callV_20, hp, hl, ↓reduceIte, Nat.reduceEqDiff, decide_true, decide_false, eq_self]; with_reducible rfl) ?_)
      refine ret_bool (t := 2) (b := true) rfl rfl (List.prefix_refl _) (by rw [← hr2]; exact decide_eq_true hl) ?_
      simp only [EV, lget, ↓reduceIte, Nat.reduceEqDiff, decide_true, decide_false, eq_self, and_true, true_and, and_self]
    · repeat (first | refine WS.seq ?_ | refine WS.skip ?_ | refine WS.label ?_ | refine WS.block ?_ | refine WS.inBlock ?_ | refine WS.exit rfl ?_ | refine WS.scope ?_ | refine WS.inScope ?_ | refine WS.region (by simp only [EV, TY, lget, callV_24, hs, hb, callV_20, hp, hl, ↓reduceIte, Nat.reduceEqDiff, decide_true, decide_false, eq_self]; with_reducible rfl) ?_)
      refine ret_bool (t := 2) (b := false) rfl rfl (List.prefix_refl _) (by rw [← hr2]; exact decide_eq_false hl) ?_
      simp only [EV, lget, ↓reduceIte, Nat.reduceEqDiff, decide_true, decide_false, eq_self, and_true, true_and, and_self]
  · have hb : shapedB n = false := by simpa using hb
    repeat (first | refine WS.seq ?_ | refine WS.skip ?_ | refine WS.label ?_ | refine WS.block ?_ | refine WS.inBlock ?_ | refine WS.exit rfl ?_ | refine WS.scope ?_ | refine WS.inScope ?_ | refine WS.region (by simp only [EV, TY, lget, callV_24, hs, hb, ↓reduceIte, Nat.reduceEqDiff, decide_true, decide_false, eq_self]; with_reducible rfl) ?_)
    refine ret_bool (t := 2) (b := false) rfl rfl (List.prefix_refl _) (by unfold rightB; rw [hb]; rfl) ?_
    simp only [EV, lget, ↓reduceIte, Nat.reduceEqDiff, decide_true, decide_false, eq_self, and_true, true_and, and_self]
end Go.Proofs.YtjcckafjopjdbaaDoor
