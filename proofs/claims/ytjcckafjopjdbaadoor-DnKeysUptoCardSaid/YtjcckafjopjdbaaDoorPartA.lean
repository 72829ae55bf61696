import Derived.Test.YtjcckafjopjdbaaDoorBase
set_option linter.all false
namespace Go.Proofs.YtjcckafjopjdbaaDoor
open Go Go.Vm
set_option maxRecDepth 100000
set_option maxHeartbeats 2000000
set_option linter.unusedSimpArgs false
set_option linter.unusedVariables false
def smallB (c : UInt8) : UInt8 := if 65 ≤ c.toNat ∧ c.toNat ≤ 90 then c + 32 else c
def smallS (s : List UInt8) : List UInt8 := s.map smallB
theorem smallB_big {c : UInt8} (h1 : 65 ≤ c.toNat) (h2 : c.toNat ≤ 90) : (smallB c).toNat = c.toNat + 32 := by
  unfold smallB
  rw [if_pos ⟨h1, h2⟩, UInt8.toNat_add]
  simp
  omega
theorem small_step (s : List UInt8) (i : Nat) (h : i < s.length) : smallS (s.take (i + 1)) ++ s.drop (i + 1) = (smallS (s.take i) ++ s.drop i).set i (smallB (s.getD i 0)) := by
  have e : s.getD i 0 = s[i] := by simp [List.getD_eq_getElem?_getD, h]
  have hl : (smallS (s.take i)).length = i := by simp [smallS]; omega
  rw [e, List.set_append_right _ _ (by omega), hl, Nat.sub_self, List.drop_eq_getElem_cons h, List.set_cons_zero, List.take_succ_eq_append_getElem h]
  simp only [smallS, List.map_append, List.map_cons, List.map_nil, List.append_assoc, List.cons_append, List.nil_append]
theorem small_ok (s : List UInt8) (S : Store) (hs : s.length ≤ 1048576) : vrun E0 (.fn 34) [.str s] S = some (.str (smallS s), S) := by
  refine fn_ws Tryd.func34 rfl ?_
  have e1 := conv_bytes_9 S s (by omega)
  repeat (first | refine WS.seq ?_ | refine WS.skip ?_ | refine WS.label ?_ | refine WS.block ?_ | refine WS.inBlock ?_ | refine WS.exit rfl ?_ | refine WS.scope ?_ | refine WS.inScope ?_ | refine WS.region (by simp only [EV, TY, lget, e1, ↓reduceIte, Nat.reduceEqDiff, decide_true, decide_false, eq_self]; with_reducible rfl) ?_)
  refine WS.loop (fun j fr S' => ∃ i, i ≤ s.length ∧ j = s.length - i ∧ lget fr 10 = .int .i64 (i : Nat) ∧ lget fr 9 = .int .i64 s.length ∧ lget fr 8 = .slR S.length 0 s.length s.length 1 ∧ lget fr 3 = .slR S.length 0 s.length s.length 1 ∧
    S' = S ++ [.cells (bytesV (smallS (s.take i) ++ s.drop i)) 5]) (j := s.length) ?_ ?_
  · refine ⟨0, by omega, by omega, ?_⟩
    simp only [EV, lget, smallS, List.take_zero, List.drop_zero, ↓reduceIte, Nat.reduceEqDiff, decide_true, decide_false, eq_self, and_true, true_and, and_self]
    simp
  · rintro j fr S' ⟨i, hi, rfl, h10, h9, h8, h3, rfl⟩ ih
    repeat (first | refine WS.seq ?_ | refine WS.skip ?_ | refine WS.label ?_ | refine WS.block ?_ | refine WS.inBlock ?_ | refine WS.exit rfl ?_ | refine WS.scope ?_ | refine WS.inScope ?_ | refine WS.region (by simp only [EV, TY, h10, h9, ↓reduceIte, Nat.reduceEqDiff, decide_true, decide_false, eq_self]; with_reducible rfl) ?_)
    refine WS.cond (by simp only [EV, ↓reduceIte, Nat.reduceEqDiff, decide_true, decide_false, eq_self]; with_reducible rfl) (fun ht => ?_) (fun ht => ?_)
    · have hlt : i < s.length := by simpa using ht
      have hlen : (smallS (s.take i) ++ s.drop i).length = s.length := by simp [smallS]; omega
      have hget : (smallS (s.take i) ++ s.drop i).getD i 0 = s.getD i 0 := by
        simp [smallS, List.getD_eq_getElem?_getD, List.getElem?_append, Nat.min_eq_left (Nat.le_of_lt hlt)]
      have hS : (S ++ [Ob.cells (bytesV (smallS (s.take i) ++ s.drop i)) 5])[S.length]? = some (.cells (bytesV (smallS (s.take i) ++ s.drop i)) 5) := getS0 _
      have e2 := ld_ref_5 (S ++ [Ob.cells (bytesV (smallS (s.take i) ++ s.drop i)) 5]) S.length (0 + i * 1)
      rw [cellsOf_of hS] at e2
      simp only [Option.bind_some, Nat.zero_add, Nat.mul_one, bytesV_get _ i (by rw [hlen]; exact hlt), hget] at e2
      have e3 := ia_slR_50 S.length 0 s.length s.length .i64 i hlt
      simp only [Nat.zero_add, Nat.mul_one] at e3
      have hsm := small_step s i hlt
      generalize hc : s.getD i 0 = c at e2 hsm
      have fin : ∀ (fr' : Fr), lget fr' 10 = .int .i64 ((i + 1 : Nat)) → lget fr' 9 = .int .i64 s.length → lget fr' 8 = .slR S.length 0 s.length s.length 1 → lget fr' 3 = .slR S.length 0 s.length s.length 1 →
          WS E0 _ fr' (S ++ [.cells (bytesV (smallS (s.take (i + 1)) ++ s.drop (i + 1))) 5]) _ := fun fr' a1 a2 a3 a4 => ih (s.length - (i + 1)) _ _ (by omega) ⟨i + 1, by omega, rfl, a1, a2, a3, a4, rfl⟩
      have same : ¬ (65 ≤ c.toNat ∧ c.toNat ≤ 90) → smallS (s.take (i + 1)) ++ s.drop (i + 1) = smallS (s.take i) ++ s.drop i := by
        intro h
        rw [hsm, smallB, if_neg h, ← hc, ← hget]
        apply List.ext_getElem?
        intro q
        rw [List.getElem?_set]
        split
        · rename_i e
          subst e
          simp [hlen, hlt, List.getD_eq_getElem?_getD, List.getElem?_eq_getElem (show i < (smallS (s.take i) ++ s.drop i).length by omega)]
        · rfl
      repeat (first | refine WS.seq ?_ | refine WS.skip ?_ | refine WS.label ?_ | refine WS.block ?_ | refine WS.inBlock ?_ | refine WS.exit rfl ?_ | refine WS.scope ?_ | refine WS.inScope ?_ | refine WS.region (by simp only [EV, TY, h10, h8, e2, e3, ↓reduceIte, Nat.reduceEqDiff, decide_true, decide_false, eq_self]; with_reducible rfl) ?_)
      by_cases h1 : (65 : Int) ≤ (c.toNat : Int)
      · by_cases h2 : (c.toNat : Int) ≤ 90
        · repeat (first | refine WS.seq ?_ | refine WS.skip ?_ | refine WS.label ?_ | refine WS.block ?_ | refine WS.inBlock ?_ | refine WS.exit rfl ?_ | refine WS.scope ?_ | refine WS.inScope ?_ | refine WS.region (by simp only [EV, TY, h1, h2, ↓reduceIte, Nat.reduceEqDiff, decide_true, decide_false, eq_self]; with_reducible rfl) ?_)
          refine WS.cond_true (by simp only [EV, ↓reduceIte, Nat.reduceEqDiff, decide_true, decide_false, eq_self]) ?_
          have e4 : opStore E0 (S ++ [Ob.cells (bytesV (smallS (s.take i) ++ s.drop i)) 5]) 5 (.ref S.length i) (.int .u8 (IntKind.u8.wrap (IntKind.u8.wrap ((c.toNat : Int) + 97) - 65))) = some (S ++ [Ob.cells (bytesV (smallS (s.take (i + 1)) ++ s.drop (i + 1))) 5]) := by
            have : IntKind.u8.wrap (IntKind.u8.wrap ((c.toNat : Int) + 97) - 65) = ((smallB c).toNat : Int) := by
              rw [wrap_u8, wrap_u8]
              have := smallB_big (c := c) (by omega) (by omega)
              omega
            rw [this, st_one tsize_5 _ _ _ rfl (by simp), putAt_one hS (by rw [bytesV_length, hlen]; exact hlt), bytesV_set, hsm, setS0]
            rfl
          repeat (first | refine WS.seq ?_ | refine WS.skip ?_ | refine WS.label ?_ | refine WS.block ?_ | refine WS.inBlock ?_ | refine WS.exit rfl ?_ | refine WS.scope ?_ | refine WS.inScope ?_ | refine WS.region (by simp only [EV, TY, h3, e3, e4, h10, wrap_inc i (by omega), ↓reduceIte, Nat.reduceEqDiff, decide_true, decide_false, eq_self]; with_reducible rfl) ?_)
          apply fin
          all_goals
            simp only [EV, h9, h8, h3, ↓reduceIte, Nat.reduceEqDiff, decide_true, decide_false, eq_self, and_true, true_and, and_self]
        · repeat (first | refine WS.seq ?_ | refine WS.skip ?_ | refine WS.label ?_ | refine WS.block ?_ | refine WS.inBlock ?_ | refine WS.exit rfl ?_ | refine WS.scope ?_ | refine WS.inScope ?_ | refine WS.region (by simp only [EV, TY, h1, h2, ↓reduceIte, Nat.reduceEqDiff, decide_true, decide_false, eq_self]; with_reducible rfl) ?_)
          refine WS.cond_false (by simp only [EV, ↓reduceIte, Nat.reduceEqDiff, decide_true, decide_false, eq_self]) ?_
          rw [same (by omega)] at fin
          repeat (first | refine WS.seq ?_ | refine WS.skip ?_ | refine WS.label ?_ | refine WS.block ?_ | refine WS.inBlock ?_ | refine WS.exit rfl ?_ | refine WS.scope ?_ | refine WS.inScope ?_ | refine WS.region (by simp only [EV, TY, h3, e3, h10, wrap_inc i (by omega), ↓reduceIte, Nat.reduceEqDiff, decide_true, decide_false, eq_self]; with_reducible rfl) ?_)
          apply fin
          all_goals
            simp only [EV, h9, h8, h3, ↓reduceIte, Nat.reduceEqDiff, decide_true, decide_false, eq_self, and_true, true_and, and_self]
      · repeat (first | refine WS.seq ?_ | refine WS.skip ?_ | refine WS.label ?_ | refine WS.block ?_ | refine WS.inBlock ?_ | refine WS.exit rfl ?_ | refine WS.scope ?_ | refine WS.inScope ?_ | refine WS.region (by simp only [EV, TY, h1, ↓reduceIte, Nat.reduceEqDiff, decide_true, decide_false, eq_self]; with_reducible rfl) ?_)
        refine WS.cond_false (by simp only [EV, ↓reduceIte, Nat.reduceEqDiff, decide_true, decide_false, eq_self]) ?_
        rw [same (by omega)] at fin
        repeat (first | refine WS.seq ?_ | refine WS.skip ?_ | refine WS.label ?_ | refine WS.block ?_ | refine WS.inBlock ?_ | refine WS.exit rfl ?_ | refine WS.scope ?_ | refine WS.inScope ?_ | refine WS.region (by simp only [EV, TY, h3, e3, h10, wrap_inc i (by omega), ↓reduceIte, Nat.reduceEqDiff, decide_true, decide_false, eq_self]; with_reducible rfl) ?_)
        apply fin
        all_goals
          simp only [EV, h9, h8, h3, ↓reduceIte, Nat.reduceEqDiff, decide_true, decide_false, eq_self, and_true, true_and, and_self]
    · repeat (first | refine WS.seq ?_ | refine WS.skip ?_ | refine WS.label ?_ | refine WS.block ?_ | refine WS.inBlock ?_ | refine WS.exit rfl ?_ | refine WS.scope ?_ | refine WS.inScope ?_)
      have : i = s.length := by simp at ht; omega
      subst this
      rw [List.take_length, List.drop_length, List.append_nil]
      have e5 : opConvert E0 (S ++ [Ob.cells (bytesV (smallS s)) 5]) 50 9 (.slR S.length 0 s.length s.length 1) = some (.str (smallS s), S ++ [Ob.cells (bytesV (smallS s)) 5]) := by
        have := conv_str (E := E0) Tryd.underlying50 Tryd.underlying9 Tryd.underlying5 (S := S ++ [Ob.cells (bytesV (smallS s)) 5]) (id := S.length) (cap := s.length) (s := smallS s) (r := []) (w := 5) (by simp)
        simpa [smallS] using this
      repeat (first | refine WS.seq ?_ | refine WS.skip ?_ | refine WS.label ?_ | refine WS.block ?_ | refine WS.inBlock ?_ | refine WS.exit rfl ?_ | refine WS.scope ?_ | refine WS.inScope ?_ | refine WS.region (by simp only [EV, TY, h3, e5, ↓reduceIte, Nat.reduceEqDiff, decide_true, decide_false, eq_self]; with_reducible rfl) ?_)
      refine WS.ret1 (t := 2) rfl rfl ?_ (List.prefix_append _ _) (frz_str _ _ _)
      simp only [EV, ↓reduceIte, Nat.reduceEqDiff, decide_true, decide_false, eq_self, and_true, true_and, and_self]
end Go.Proofs.YtjcckafjopjdbaaDoor
namespace Go.Proofs.YtjcckafjopjdbaaDoor
open Go Go.Vm
set_option maxRecDepth 100000
set_option maxHeartbeats 2000000
set_option linter.unusedSimpArgs false
set_option linter.unusedVariables false
theorem callV_57 (c : CallT) (s : List UInt8) (b : UInt8) (S : Store) : callV E0 c (.fn (.func 57) [] []) [.str s, .int .u8 b.toNat] S = some (.int .i64 (idxInt (s.findIdx? (· == b))), S) := by
  have h : callV E0 c (.fn (.func 57) [] []) [.str s, .int .u8 b.toNat] S = some (.int .i64 (idxInt (s.findIdx? (· == UInt8.ofNat (b.toNat : Int).toNat))), S) := by kernel_rfl
  rw [h]
  simp
theorem IndexByte'_ok (s : List UInt8) (b : UInt8) (S : Store) : vrun E0 (.fn 43) [.str s, .int .u8 b.toNat] S = some (.int .i64 (idxInt (s.findIdx? (· == b))), S) := by
  refine fn_ws Tryd.func43 rfl ?_
  repeat (first | refine WS.seq ?_ | refine WS.skip ?_ | refine WS.label ?_ | refine WS.block ?_ | refine WS.inBlock ?_ | refine WS.exit rfl ?_ | refine WS.scope ?_ | refine WS.inScope ?_ | refine WS.region (by simp only [EV, TY, lget, callV_57, ↓reduceIte, Nat.reduceEqDiff, decide_true, decide_false, eq_self]; with_reducible rfl) ?_)
  refine WS.ret1 (t := 4) rfl rfl ?_ (List.prefix_refl _) (frz_int _ _ _ _)
  simp only [EV, ↓reduceIte, Nat.reduceEqDiff, decide_true, decide_false, eq_self, and_true, true_and, and_self]
theorem IndexByte_ok (s : List UInt8) (b : UInt8) (S : Store) : vrun E0 (.fn 22) [.str s, .int .u8 b.toNat] S = some (.int .i64 (idxInt (s.findIdx? (· == b))), S) := by
  refine fn_ws Tryd.func22 rfl ?_
  repeat (first | refine WS.seq ?_ | refine WS.skip ?_ | refine WS.label ?_ | refine WS.block ?_ | refine WS.inBlock ?_ | refine WS.exit rfl ?_ | refine WS.scope ?_ | refine WS.inScope ?_ | refine WS.region (by simp only [EV, TY, lget, callV_43, IndexByte'_ok, ↓reduceIte, Nat.reduceEqDiff, decide_true, decide_false, eq_self]; with_reducible rfl) ?_)
  refine WS.ret1 (t := 4) rfl rfl ?_ (List.prefix_refl _) (frz_int _ _ _ _)
  simp only [EV, ↓reduceIte, Nat.reduceEqDiff, decide_true, decide_false, eq_self, and_true, true_and, and_self]
def letterZ (c : Int) : Bool := decide (97 ≤ c ∧ c ≤ 122 ∨ 65 ≤ c ∧ c ≤ 90)
def digitZ (c : Int) : Bool := decide (48 ≤ c ∧ c ≤ 57)
theorem letter_ok (c : Int) (S : Store) : vrun E0 (.fn 27) [.int .i32 c] S = some (.bool (letterZ c), S) := by
  refine fn_ws Tryd.func27 rfl ?_
  by_cases h1 : 97 ≤ c <;> by_cases h2 : c ≤ 122 <;> by_cases h3 : 65 ≤ c <;> by_cases h4 : c ≤ 90
  all_goals
    repeat (first | refine WS.seq ?_ | refine WS.skip ?_ | refine WS.label ?_ | refine WS.block ?_ | refine WS.inBlock ?_ | refine WS.exit rfl ?_ | refine WS.scope ?_ | refine WS.inScope ?_ | refine WS.region (by simp only [EV, TY, lget, h1, h2, h3, h4, ↓reduceIte, Nat.reduceEqDiff, decide_true, decide_false, eq_self]; with_reducible rfl) ?_)
    refine WS.ret1 (t := 2) rfl rfl ?_ (List.prefix_refl _) (frz_bool _ _ _)
    simp only [EV, ↓reduceIte, Nat.reduceEqDiff, decide_true, decide_false, eq_self, and_true, true_and, and_self]
    simp [letterZ, h1, h2, h3, h4]
theorem Letter_ok (c : Int) (S : Store) : vrun E0 (.fn 28) [.int .u8 c] S = some (.bool (letterZ c), S) := by
  refine fn_ws Tryd.func28 rfl ?_
  by_cases h1 : 97 ≤ c <;> by_cases h2 : c ≤ 122 <;> by_cases h3 : 65 ≤ c <;> by_cases h4 : c ≤ 90
  all_goals
    repeat (first | refine WS.seq ?_ | refine WS.skip ?_ | refine WS.label ?_ | refine WS.block ?_ | refine WS.inBlock ?_ | refine WS.exit rfl ?_ | refine WS.scope ?_ | refine WS.inScope ?_ | refine WS.region (by simp only [EV, TY, lget, h1, h2, h3, h4, ↓reduceIte, Nat.reduceEqDiff, decide_true, decide_false, eq_self]; with_reducible rfl) ?_)
    refine WS.ret1 (t := 2) rfl rfl ?_ (List.prefix_refl _) (frz_bool _ _ _)
    simp only [EV, ↓reduceIte, Nat.reduceEqDiff, decide_true, decide_false, eq_self, and_true, true_and, and_self]
    simp [letterZ, h1, h2, h3, h4]
theorem Digit_ok (c : Int) (S : Store) : vrun E0 (.fn 29) [.int .u8 c] S = some (.bool (digitZ c), S) := by
  refine fn_ws Tryd.func29 rfl ?_
  by_cases h1 : 48 ≤ c <;> by_cases h2 : c ≤ 57
  all_goals
    repeat (first | refine WS.seq ?_ | refine WS.skip ?_ | refine WS.label ?_ | refine WS.block ?_ | refine WS.inBlock ?_ | refine WS.exit rfl ?_ | refine WS.scope ?_ | refine WS.inScope ?_ | refine WS.region (by simp only [EV, TY, lget, h1, h2, ↓reduceIte, Nat.reduceEqDiff, decide_true, decide_false, eq_self]; with_reducible rfl) ?_)
    refine WS.ret1 (t := 2) rfl rfl ?_ (List.prefix_refl _) (frz_bool _ _ _)
    simp only [EV, ↓reduceIte, Nat.reduceEqDiff, decide_true, decide_false, eq_self, and_true, true_and, and_self]
    simp [digitZ, h1, h2]
def signZ (c : Int) : Bool := c == 34 || c == 43 || c == 44 || c == 59 || c == 60 || c == 62 || c == 92
theorem signs_ok (c : Int) (S : Store) : vrun E0 (.fn 47) [.int .u8 c] S = some (.bool (signZ c), S) := by
  refine fn_ws Tryd.func47 rfl ?_
  have go : ∀ b1 b2 b3 b4 b5 b6 b7 : Bool, (c == 34) = b1 → (c == 43) = b2 → (c == 44) = b3 → (c == 59) = b4 → (c == 60) = b5 → (c == 62) = b6 → (c == 92) = b7 → WS E0 [.code (Tryd.f47.body.get rfl)] [.int .u8 c] S (FnEnds E0 47 Tryd.f47 S (.bool (signZ c), S)) := by
    intro b1 b2 b3 b4 b5 b6 b7 h1 h2 h3 h4 h5 h6 h7
    have hz : signZ c = (b1 || b2 || b3 || b4 || b5 || b6 || b7) := by simp [signZ, h1, h2, h3, h4, h5, h6, h7]
    rw [hz]
    have fin : ∀ fr : Fr, lget fr 2 = .bool (b1 || b2 || b3 || b4 || b5 || b6 || b7) → WS E0 [.code .ret] fr S (FnEnds E0 47 Tryd.f47 S (.bool (b1 || b2 || b3 || b4 || b5 || b6 || b7), S)) := fun fr h => WS.ret1 (t := 2) rfl rfl h (List.prefix_refl _) (frz_bool _ _ _)
    show WS E0 [.code _] _ _ _
    cases b1
    · cases b2
      · cases b3
        · cases b4
          · cases b5
            · cases b6
              · repeat (first | refine WS.seq ?_ | refine WS.skip ?_ | refine WS.label ?_ | refine WS.block ?_ | refine WS.inBlock ?_ | refine WS.exit rfl ?_ | refine WS.scope ?_ | refine WS.inScope ?_ | refine WS.region (by simp only [EV, TY, lget, h1, h2, h3, h4, h5, h6, h7, ↓reduceIte, Nat.reduceEqDiff, decide_true, decide_false, eq_self]; with_reducible rfl) ?_)
                apply fin
                simp only [EV, ↓reduceIte, Nat.reduceEqDiff, decide_true, decide_false, eq_self, and_true, true_and, and_self]
                rfl
              · repeat (first | refine WS.seq ?_ | refine WS.skip ?_ | refine WS.label ?_ | refine WS.block ?_ | refine WS.inBlock ?_ | refine WS.exit rfl ?_ | refine WS.scope ?_ | refine WS.inScope ?_ | refine WS.region (by simp only [EV, TY, lget, h1, h2, h3, h4, h5, h6, h7, ↓reduceIte, Nat.reduceEqDiff, decide_true, decide_false, eq_self]; with_reducible rfl) ?_)
                apply fin
                simp only [EV, ↓reduceIte, Nat.reduceEqDiff, decide_true, decide_false, eq_self, and_true, true_and, and_self]
                rfl
            · repeat (first | refine WS.seq ?_ | refine WS.skip ?_ | refine WS.label ?_ | refine WS.block ?_ | refine WS.inBlock ?_ | refine WS.exit rfl ?_ | refine WS.scope ?_ | refine WS.inScope ?_ | refine WS.region (by simp only [EV, TY, lget, h1, h2, h3, h4, h5, h6, h7, ↓reduceIte, Nat.reduceEqDiff, decide_true, decide_false, eq_self]; with_reducible rfl) ?_)
              apply fin
              simp only [EV, ↓reduceIte, Nat.reduceEqDiff, decide_true, decide_false, eq_self, and_true, true_and, and_self]
              rfl
          · repeat (first | refine WS.seq ?_ | refine WS.skip ?_ | refine WS.label ?_ | refine WS.block ?_ | refine WS.inBlock ?_ | refine WS.exit rfl ?_ | refine WS.scope ?_ | refine WS.inScope ?_ | refine WS.region (by simp only [EV, TY, lget, h1, h2, h3, h4, h5, h6, h7, ↓reduceIte, Nat.reduceEqDiff, decide_true, decide_false, eq_self]; with_reducible rfl) ?_)
            apply fin
            simp only [EV, ↓reduceIte, Nat.reduceEqDiff, decide_true, decide_false, eq_self, and_true, true_and, and_self]
            rfl
        · repeat (first | refine WS.seq ?_ | refine WS.skip ?_ | refine WS.label ?_ | refine WS.block ?_ | refine WS.inBlock ?_ | refine WS.exit rfl ?_ | refine WS.scope ?_ | refine WS.inScope ?_ | refine WS.region (by simp only [EV, TY, lget, h1, h2, h3, h4, h5, h6, h7, ↓reduceIte, Nat.reduceEqDiff, decide_true, decide_false, eq_self]; with_reducible rfl) ?_)
          apply fin
          simp only [EV, ↓reduceIte, Nat.reduceEqDiff, decide_true, decide_false, eq_self, and_true, true_and, and_self]
          rfl
      · repeat (first | refine WS.seq ?_ | refine WS.skip ?_ | refine WS.label ?_ | refine WS.block ?_ | refine WS.inBlock ?_ | refine WS.exit rfl ?_ | refine WS.scope ?_ | refine WS.inScope ?_ | refine WS.region (by simp only [EV, TY, lget, h1, h2, h3, h4, h5, h6, h7, ↓reduceIte, Nat.reduceEqDiff, decide_true, decide_false, eq_self]; with_reducible rfl) ?_)
        apply fin
        simp only [EV, ↓reduceIte, Nat.reduceEqDiff, decide_true, decide_false, eq_self, and_true, true_and, and_self]
        rfl
    · repeat (first | refine WS.seq ?_ | refine WS.skip ?_ | refine WS.label ?_ | refine WS.block ?_ | refine WS.inBlock ?_ | refine WS.exit rfl ?_ | refine WS.scope ?_ | refine WS.inScope ?_ | refine WS.region (by simp only [EV, TY, lget, h1, h2, h3, h4, h5, h6, h7, ↓reduceIte, Nat.reduceEqDiff, decide_true, decide_false, eq_self]; with_reducible rfl) ?_)
      apply fin
      simp only [EV, ↓reduceIte, Nat.reduceEqDiff, decide_true, decide_false, eq_self, and_true, true_and, and_self]
      rfl
  exact go _ _ _ _ _ _ _ rfl rfl rfl rfl rfl rfl rfl
end Go.Proofs.YtjcckafjopjdbaaDoor
namespace Go.Proofs.YtjcckafjopjdbaaDoor
open Go Go.Vm
set_option maxRecDepth 100000
set_option maxHeartbeats 2000000
set_option linter.unusedSimpArgs false
set_option linter.unusedVariables false
theorem conv_53 (S : Store) (j : IntKind) (n : Int) : opConvert E0 S 5 3 (.int j n) = some (.int .i64 (IntKind.i64.wrap n), S) := conv_int (E := E0) 5 .i64 Tryd.underlying5 Tryd.underlying3 j n
theorem conv_35 (S : Store) (j : IntKind) (n : Int) : opConvert E0 S 3 5 (.int j n) = some (.int .u8 (IntKind.u8.wrap n), S) := conv_int (E := E0) 3 .u8 Tryd.underlying3 Tryd.underlying5 j n
def hexZ (c : Int) : Int := if 48 ≤ c ∧ c ≤ 57 then c - 48 else if 97 ≤ c ∧ c ≤ 102 then c - 87 else if 65 ≤ c ∧ c ≤ 70 then c - 55 else 16
theorem hex_ok (c : Int) (h0 : 0 ≤ c) (h9 : c < 256) (S : Store) : vrun E0 (.fn 48) [.int .u8 c] S = some (.int .i64 (hexZ c), S) := by
  refine fn_ws Tryd.func48 rfl ?_
  rcases (show (48 ≤ c ∧ c ≤ 57) ∨ (48 ≤ c ∧ ¬ c ≤ 57) ∨ (¬ 48 ≤ c) by omega) with ⟨h1, h2⟩ | ⟨h1, h2⟩ | h1
  · repeat (first | refine WS.seq ?_ | refine WS.skip ?_ | refine WS.label ?_ | refine WS.block ?_ | refine WS.inBlock ?_ | refine WS.exit rfl ?_ | refine WS.scope ?_ | refine WS.inScope ?_ | refine WS.region (by simp only [EV, TY, lget, h1, h2, ↓reduceIte, Nat.reduceEqDiff, decide_true, decide_false, eq_self]; with_reducible rfl) ?_)
    refine WS.cond_true (by simp only [EV, lget, ↓reduceIte, Nat.reduceEqDiff, decide_true, decide_false, eq_self]) ?_
    repeat (first | refine WS.seq ?_ | refine WS.skip ?_ | refine WS.label ?_ | refine WS.block ?_ | refine WS.inBlock ?_ | refine WS.exit rfl ?_ | refine WS.scope ?_ | refine WS.inScope ?_ | refine WS.region (by simp only [EV, TY, lget, conv_53, ↓reduceIte, Nat.reduceEqDiff, decide_true, decide_false, eq_self]; with_reducible rfl) ?_)
    refine WS.ret1 (t := 2) rfl rfl ?_ (List.prefix_refl _) (frz_int _ _ _ _)
    simp only [EV, lget, ↓reduceIte, Nat.reduceEqDiff, decide_true, decide_false, eq_self, and_true, true_and, and_self]
    rw [wrap_u8, wrap_i64 (by omega) (by omega)]
    simp [hexZ, h1, h2]
    omega
  · repeat (first | refine WS.seq ?_ | refine WS.skip ?_ | refine WS.label ?_ | refine WS.block ?_ | refine WS.inBlock ?_ | refine WS.exit rfl ?_ | refine WS.scope ?_ | refine WS.inScope ?_ | refine WS.region (by simp only [EV, TY, lget, h1, h2, ↓reduceIte, Nat.reduceEqDiff, decide_true, decide_false, eq_self]; with_reducible rfl) ?_)
    refine WS.cond_false (by simp only [EV, lget, ↓reduceIte, Nat.reduceEqDiff, decide_true, decide_false, eq_self]) ?_
    rcases (show (97 ≤ c ∧ c ≤ 102) ∨ (97 ≤ c ∧ ¬ c ≤ 102) ∨ (¬ 97 ≤ c) by omega) with ⟨h3, h4⟩ | ⟨h3, h4⟩ | h3
    · repeat (first | refine WS.seq ?_ | refine WS.skip ?_ | refine WS.label ?_ | refine WS.block ?_ | refine WS.inBlock ?_ | refine WS.exit rfl ?_ | refine WS.scope ?_ | refine WS.inScope ?_ | refine WS.region (by simp only [EV, TY, lget, h3, h4, ↓reduceIte, Nat.reduceEqDiff, decide_true, decide_false, eq_self]; with_reducible rfl) ?_)
      refine WS.cond_true (by simp only [EV, lget, ↓reduceIte, Nat.reduceEqDiff, decide_true, decide_false, eq_self]) ?_
      repeat (first | refine WS.seq ?_ | refine WS.skip ?_ | refine WS.label ?_ | refine WS.block ?_ | refine WS.inBlock ?_ | refine WS.exit rfl ?_ | refine WS.scope ?_ | refine WS.inScope ?_ | refine WS.region (by simp only [EV, TY, lget, conv_53, ↓reduceIte, Nat.reduceEqDiff, decide_true, decide_false, eq_self]; with_reducible rfl) ?_)
      refine WS.ret1 (t := 2) rfl rfl ?_ (List.prefix_refl _) (frz_int _ _ _ _)
      simp only [EV, lget, ↓reduceIte, Nat.reduceEqDiff, decide_true, decide_false, eq_self, and_true, true_and, and_self]
      rw [wrap_u8, wrap_i64 (n := (c - 97) % 256) (by omega) (by omega), wrap_i64 (by omega) (by omega)]
      simp [hexZ, h1, h2, h3, h4]
      omega
    · repeat (first | refine WS.seq ?_ | refine WS.skip ?_ | refine WS.label ?_ | refine WS.block ?_ | refine WS.inBlock ?_ | refine WS.exit rfl ?_ | refine WS.scope ?_ | refine WS.inScope ?_ | refine WS.region (by simp only [EV, TY, lget, h3, h4, ↓reduceIte, Nat.reduceEqDiff, decide_true, decide_false, eq_self]; with_reducible rfl) ?_)
      refine WS.cond_false (by simp only [EV, lget, ↓reduceIte, Nat.reduceEqDiff, decide_true, decide_false, eq_self]) ?_
      rcases (show (65 ≤ c ∧ ¬ c ≤ 70) by omega) with ⟨h5, h6⟩
      repeat (first | refine WS.seq ?_ | refine WS.skip ?_ | refine WS.label ?_ | refine WS.block ?_ | refine WS.inBlock ?_ | refine WS.exit rfl ?_ | refine WS.scope ?_ | refine WS.inScope ?_ | refine WS.region (by simp only [EV, TY, lget, h5, h6, ↓reduceIte, Nat.reduceEqDiff, decide_true, decide_false, eq_self]; with_reducible rfl) ?_)
      refine WS.cond_false (by simp only [EV, lget, ↓reduceIte, Nat.reduceEqDiff, decide_true, decide_false, eq_self]) ?_
      repeat (first | refine WS.seq ?_ | refine WS.skip ?_ | refine WS.label ?_ | refine WS.block ?_ | refine WS.inBlock ?_ | refine WS.exit rfl ?_ | refine WS.scope ?_ | refine WS.inScope ?_ | refine WS.region (by simp only [EV, TY, lget, ↓reduceIte, Nat.reduceEqDiff, decide_true, decide_false, eq_self]; with_reducible rfl) ?_)
      refine WS.ret1 (t := 2) rfl rfl ?_ (List.prefix_refl _) (frz_int _ _ _ _)
      simp only [EV, lget, ↓reduceIte, Nat.reduceEqDiff, decide_true, decide_false, eq_self, and_true, true_and, and_self]
      simp [hexZ, h1, h2, h3, h4, h5, h6]
    · repeat (first | refine WS.seq ?_ | refine WS.skip ?_ | refine WS.label ?_ | refine WS.block ?_ | refine WS.inBlock ?_ | refine WS.exit rfl ?_ | refine WS.scope ?_ | refine WS.inScope ?_ | refine WS.region (by simp only [EV, TY, lget, h3, ↓reduceIte, Nat.reduceEqDiff, decide_true, decide_false, eq_self]; with_reducible rfl) ?_)
      refine WS.cond_false (by simp only [EV, lget, ↓reduceIte, Nat.reduceEqDiff, decide_true, decide_false, eq_self]) ?_
      rcases (show (65 ≤ c ∧ c ≤ 70) ∨ (65 ≤ c ∧ ¬ c ≤ 70) ∨ (¬ 65 ≤ c) by omega) with ⟨h5, h6⟩ | ⟨h5, h6⟩ | h5
      · repeat (first | refine WS.seq ?_ | refine WS.skip ?_ | refine WS.label ?_ | refine WS.block ?_ | refine WS.inBlock ?_ | refine WS.exit rfl ?_ | refine WS.scope ?_ | refine WS.inScope ?_ | refine WS.region (by simp only [EV, TY, lget, h5, h6, ↓reduceIte, Nat.reduceEqDiff, decide_true, decide_false, eq_self]; with_reducible rfl) ?_)
        refine WS.cond_true (by simp only [EV, lget, ↓reduceIte, Nat.reduceEqDiff, decide_true, decide_false, eq_self]) ?_
        repeat (first | refine WS.seq ?_ | refine WS.skip ?_ | refine WS.label ?_ | refine WS.block ?_ | refine WS.inBlock ?_ | refine WS.exit rfl ?_ | refine WS.scope ?_ | refine WS.inScope ?_ | refine WS.region (by simp only [EV, TY, lget, conv_53, ↓reduceIte, Nat.reduceEqDiff, decide_true, decide_false, eq_self]; with_reducible rfl) ?_)
        refine WS.ret1 (t := 2) rfl rfl ?_ (List.prefix_refl _) (frz_int _ _ _ _)
        simp only [EV, lget, ↓reduceIte, Nat.reduceEqDiff, decide_true, decide_false, eq_self, and_true, true_and, and_self]
        rw [wrap_u8, wrap_i64 (n := (c - 65) % 256) (by omega) (by omega), wrap_i64 (by omega) (by omega)]
        simp [hexZ, h1, h2, h3, h5, h6]
        omega
      · repeat (first | refine WS.seq ?_ | refine WS.skip ?_ | refine WS.label ?_ | refine WS.block ?_ | refine WS.inBlock ?_ | refine WS.exit rfl ?_ | refine WS.scope ?_ | refine WS.inScope ?_ | refine WS.region (by simp only [EV, TY, lget, h5, h6, ↓reduceIte, Nat.reduceEqDiff, decide_true, decide_false, eq_self]; with_reducible rfl) ?_)
        refine WS.cond_false (by simp only [EV, lget, ↓reduceIte, Nat.reduceEqDiff, decide_true, decide_false, eq_self]) ?_
        repeat (first | refine WS.seq ?_ | refine WS.skip ?_ | refine WS.label ?_ | refine WS.block ?_ | refine WS.inBlock ?_ | refine WS.exit rfl ?_ | refine WS.scope ?_ | refine WS.inScope ?_ | refine WS.region (by simp only [EV, TY, lget, ↓reduceIte, Nat.reduceEqDiff, decide_true, decide_false, eq_self]; with_reducible rfl) ?_)
        refine WS.ret1 (t := 2) rfl rfl ?_ (List.prefix_refl _) (frz_int _ _ _ _)
        simp only [EV, lget, ↓reduceIte, Nat.reduceEqDiff, decide_true, decide_false, eq_self, and_true, true_and, and_self]
        simp [hexZ, h1, h2, h3, h5, h6]
      · repeat (first | refine WS.seq ?_ | refine WS.skip ?_ | refine WS.label ?_ | refine WS.block ?_ | refine WS.inBlock ?_ | refine WS.exit rfl ?_ | refine WS.scope ?_ | refine WS.inScope ?_ | refine WS.region (by simp only [EV, TY, lget, h5, ↓reduceIte, Nat.reduceEqDiff, decide_true, decide_false, eq_self]; with_reducible rfl) ?_)
        refine WS.cond_false (by simp only [EV, lget, ↓reduceIte, Nat.reduceEqDiff, decide_true, decide_false, eq_self]) ?_
        repeat (first | refine WS.seq ?_ | refine WS.skip ?_ | refine WS.label ?_ | refine WS.block ?_ | refine WS.inBlock ?_ | refine WS.exit rfl ?_ | refine WS.scope ?_ | refine WS.inScope ?_ | refine WS.region (by simp only [EV, TY, lget, ↓reduceIte, Nat.reduceEqDiff, decide_true, decide_false, eq_self]; with_reducible rfl) ?_)
        refine WS.ret1 (t := 2) rfl rfl ?_ (List.prefix_refl _) (frz_int _ _ _ _)
        simp only [EV, lget, ↓reduceIte, Nat.reduceEqDiff, decide_true, decide_false, eq_self, and_true, true_and, and_self]
        simp [hexZ, h1, h2, h3, h5]
  · repeat (first | refine WS.seq ?_ | refine WS.skip ?_ | refine WS.label ?_ | refine WS.block ?_ | refine WS.inBlock ?_ | refine WS.exit rfl ?_ | refine WS.scope ?_ | refine WS.inScope ?_ | refine WS.region (by simp only [EV, TY, lget, h1, ↓reduceIte, Nat.reduceEqDiff, decide_true, decide_false, eq_self]; with_reducible rfl) ?_)
    refine WS.cond_false (by simp only [EV, lget, ↓reduceIte, Nat.reduceEqDiff, decide_true, decide_false, eq_self]) ?_
    have h3 : ¬ 97 ≤ c := by omega
    have h5 : ¬ 65 ≤ c := by omega
    repeat (first | refine WS.seq ?_ | refine WS.skip ?_ | refine WS.label ?_ | refine WS.block ?_ | refine WS.inBlock ?_ | refine WS.exit rfl ?_ | refine WS.scope ?_ | refine WS.inScope ?_ | refine WS.region (by simp only [EV, TY, lget, h3, ↓reduceIte, Nat.reduceEqDiff, decide_true, decide_false, eq_self]; with_reducible rfl) ?_)
    refine WS.cond_false (by simp only [EV, lget, ↓reduceIte, Nat.reduceEqDiff, decide_true, decide_false, eq_self]) ?_
    repeat (first | refine WS.seq ?_ | refine WS.skip ?_ | refine WS.label ?_ | refine WS.block ?_ | refine WS.inBlock ?_ | refine WS.exit rfl ?_ | refine WS.scope ?_ | refine WS.inScope ?_ | refine WS.region (by simp only [EV, TY, lget, h5, ↓reduceIte, Nat.reduceEqDiff, decide_true, decide_false, eq_self]; with_reducible rfl) ?_)
    refine WS.cond_false (by simp only [EV, lget, ↓reduceIte, Nat.reduceEqDiff, decide_true, decide_false, eq_self]) ?_
    repeat (first | refine WS.seq ?_ | refine WS.skip ?_ | refine WS.label ?_ | refine WS.block ?_ | refine WS.inBlock ?_ | refine WS.exit rfl ?_ | refine WS.scope ?_ | refine WS.inScope ?_ | refine WS.region (by simp only [EV, TY, lget, ↓reduceIte, Nat.reduceEqDiff, decide_true, decide_false, eq_self]; with_reducible rfl) ?_)
    refine WS.ret1 (t := 2) rfl rfl ?_ (List.prefix_refl _) (frz_int _ _ _ _)
    simp only [EV, lget, ↓reduceIte, Nat.reduceEqDiff, decide_true, decide_false, eq_self, and_true, true_and, and_self]
    simp [hexZ, h1, h3, h5]
/-! ### dn.hex -/
def digitsS : List UInt8 := [48, 49, 50, 51, 52, 53, 54, 55, 56, 57, 97, 98, 99, 100, 101, 102]
def dhex (b : UInt8) : Int := idxInt (digitsS.findIdx? (· == smallB b))
theorem mk1 (S : Store) (c : Int) : opBuildSlice E0 S 50 1 [(0, .int .u8 c)] = some (.slR S.length 0 1 1 1, S ++ [.cells [.int .u8 c] 5]) := by kernel_rfl
theorem dhex_ok (b : UInt8) (S : Store) : vrun E0 (.fn 58) [.int .u8 b.toNat] S = some (.int .i64 (dhex b), S) := by
  refine fn_ws Tryd.func58 rfl ?_
  have e1 : opConvert E0 (S ++ [Ob.cells [.int .u8 b.toNat] 5]) 50 9 (.slR S.length 0 1 1 1) = some (.str [b], S ++ [Ob.cells [.int .u8 b.toNat] 5]) :=
    conv_str (E := E0) Tryd.underlying50 Tryd.underlying9 Tryd.underlying5 (S := S ++ [Ob.cells [.int .u8 b.toNat] 5]) (id := S.length) (cap := 1) (s := [b]) (r := []) (w := 5) (by simp [bytesV])
  have e2 := small_ok [b] (S ++ [Ob.cells [.int .u8 b.toNat] 5]) (by simp)
  have e3 : opIndex E0 9 (.str (smallS [b])) (.int .i64 0) = some (.int .u8 (smallB b).toNat) := idx_str_9 (smallS [b]) .i64 0 (by simp [smallS])
  have e4 := IndexByte_ok digitsS (smallB b) (S ++ [Ob.cells [.int .u8 b.toNat] 5])
  simp only [digitsS] at e4
  repeat (first | refine WS.seq ?_ | refine WS.skip ?_ | refine WS.label ?_ | refine WS.block ?_ | refine WS.inBlock ?_ | refine WS.exit rfl ?_ | refine WS.scope ?_ | refine WS.inScope ?_ | refine WS.region (by simp only [EV, TY, lget, mk1, e1, e2, e3, e4, callV_34, callV_22, ↓reduceIte, Nat.reduceEqDiff, decide_true, decide_false, eq_self]; with_reducible rfl) ?_)
  refine WS.ret1 (t := 2) rfl rfl ?_ (List.prefix_append _ _) (frz_int _ _ _ _)
  simp only [EV, lget, ↓reduceIte, Nat.reduceEqDiff, decide_true, decide_false, eq_self, and_true, true_and, and_self]
  rfl
end Go.Proofs.YtjcckafjopjdbaaDoor
namespace Go.Proofs.YtjcckafjopjdbaaDoor
open Go Go.Vm
set_option maxRecDepth 100000
set_option maxHeartbeats 2000000
set_option linter.unusedSimpArgs false
set_option linter.unusedVariables false
def escL : List UInt8 := [34, 43, 44, 59, 60, 62, 92, 35, 61, 32]
def isIn (l : List UInt8) (b : UInt8) : Bool := (l.findIdx? (· == b)).isSome
theorem idx_ge (l : List UInt8) (b : UInt8) : (0 ≤ idxInt (l.findIdx? (· == b))) ↔ isIn l b = true := by
  unfold isIn idxInt
  cases l.findIdx? (· == b) with
  | none => simp
  | some i => simp
theorem idx_lt (l : List UInt8) (b : UInt8) : idxInt (l.findIdx? (· == b)) < 9223372036854775807 → idxInt (l.findIdx? (· == b)) < l.length ∨ idxInt (l.findIdx? (· == b)) < 0 := by
  intro _
  cases h : l.findIdx? (· == b) with
  | none => simp [idxInt]
  | some i =>
    have := List.findIdx?_eq_some_iff_getElem.1 h
    obtain ⟨hi, _⟩ := this
    simp [idxInt]
    omega
theorem dhex_lt (b : UInt8) : dhex b < 16 := by
  unfold dhex
  cases h : digitsS.findIdx? (· == smallB b) with
  | none => simp [idxInt]
  | some i =>
    have := List.findIdx?_eq_some_iff_getElem.1 h
    obtain ⟨hi, _⟩ := this
    simp [idxInt, digitsS] at hi ⊢
    omega
def hexByte (a b : UInt8) : UInt8 := UInt8.ofNat (16 * (dhex a).toNat + (dhex b).toNat)
def escS (s : List UInt8) : UInt8 × Nat :=
  if 1 < s.length ∧ isIn escL (s.getD 1 0) = true then (s.getD 1 0, 2)
  else if 2 < s.length ∧ 0 ≤ dhex (s.getD 1 0) ∧ 0 ≤ dhex (s.getD 2 0) then (hexByte (s.getD 1 0) (s.getD 2 0), 3) else (0, 0)
theorem hexjoin' : ∀ x y : Fin 16, IntKind.u8.wrap (IntKind.i64.wrap ((BitVec.ofInt 64 (IntKind.i64.wrap (((x.val : Nat) : Int) * 2 ^ (min (4 : Int).toNat 64))) ||| BitVec.ofInt 64 ((y.val : Nat) : Int)).toNat)) = ((16 * x.val + y.val : Nat) : Int) := by decide +kernel
theorem hexjoin (a b : UInt8) (ha : 0 ≤ dhex a) (hb : 0 ≤ dhex b) : IntKind.u8.wrap (IntKind.i64.wrap ((BitVec.ofInt IntKind.i64.bits (IntKind.i64.wrap (dhex a * 2 ^ (min (4 : Int).toNat IntKind.i64.bits))) ||| BitVec.ofInt IntKind.i64.bits (dhex b)).toNat)) = (((hexByte a b).toNat : Nat) : Int) := by
  have h1 := dhex_lt a
  have h2 := dhex_lt b
  have := hexjoin' ⟨(dhex a).toNat, by omega⟩ ⟨(dhex b).toNat, by omega⟩
  simp only [Int.toNat_of_nonneg ha, Int.toNat_of_nonneg hb] at this
  have e : (hexByte a b).toNat = 16 * (dhex a).toNat + (dhex b).toNat := by
    unfold hexByte
    rw [UInt8.toNat_ofNat_of_lt']
    show _ < 256
    omega
  rw [e]
  exact this
theorem escaped_ok (s : List UInt8) (S : Store) : vrun E0 (.fn 44) [.str s] S = some (.tup [.int .u8 (escS s).1.toNat, .int .i64 (escS s).2], S) := by
  refine fn_ws Tryd.func44 rfl ?_
  have hI := IndexByte_ok escL (s.getD 1 0) S
  simp only [escL] at hI
  by_cases a1 : (1 : Int) < (s.length : Int)
  · have e1 : opIndex E0 9 (.str s) (.int .i64 1) = some (.int .u8 (s.getD 1 0).toNat) := idx_str_9 s .i64 1 (by omega)
    by_cases a2 : (0 : Int) ≤ idxInt (List.findIdx? (fun x => x == s.getD 1 0) [34, 43, 44, 59, 60, 62, 92, 35, 61, 32])
    · repeat (first | refine WS.seq ?_ | refine WS.skip ?_ | refine WS.label ?_ | refine WS.block ?_ | refine WS.inBlock ?_ | refine WS.exit rfl ?_ | refine WS.scope ?_ | refine WS.inScope ?_ | refine WS.region (by simp only [EV, TY, lget, a1, e1, callV_22, hI, a2, ↓reduceIte, Nat.reduceEqDiff, decide_true, decide_false, eq_self]; with_reducible rfl) ?_)
      refine WS.cond_true (by simp only [EV, lget, ↓reduceIte, Nat.reduceEqDiff, decide_true, decide_false, eq_self]) ?_
      repeat (first | refine WS.seq ?_ | refine WS.skip ?_ | refine WS.label ?_ | refine WS.block ?_ | refine WS.inBlock ?_ | refine WS.exit rfl ?_ | refine WS.scope ?_ | refine WS.inScope ?_ | refine WS.region (by simp only [EV, TY, lget, e1, ↓reduceIte, Nat.reduceEqDiff, decide_true, decide_false, eq_self]; with_reducible rfl) ?_)
      have : escS s = (s.getD 1 0, 2) := by
        unfold escS
        rw [if_pos ⟨by omega, (idx_ge _ _).1 a2⟩]
      rw [this]
      refine WS.ret2 (t := 2) (u := 3) rfl rfl rfl rfl (List.prefix_refl _) rfl
    · repeat (first | refine WS.seq ?_ | refine WS.skip ?_ | refine WS.label ?_ | refine WS.block ?_ | refine WS.inBlock ?_ | refine WS.exit rfl ?_ | refine WS.scope ?_ | refine WS.inScope ?_ | refine WS.region (by simp only [EV, TY, lget, a1, e1, callV_22, hI, a2, ↓reduceIte, Nat.reduceEqDiff, decide_true, decide_false, eq_self]; with_reducible rfl) ?_)
      refine WS.cond_false (by simp only [EV, lget, ↓reduceIte, Nat.reduceEqDiff, decide_true, decide_false, eq_self]) ?_
      have hn1 : ¬ (1 < s.length ∧ isIn escL (s.getD 1 0) = true) := fun h => a2 ((idx_ge _ _).2 h.2)
      by_cases b1 : (2 : Int) < (s.length : Int)
      · have e2 : opIndex E0 9 (.str s) (.int .i64 2) = some (.int .u8 (s.getD 2 0).toNat) := idx_str_9 s .i64 2 (by omega)
        by_cases b2 : 0 ≤ dhex (s.getD 1 0)
        · by_cases b3 : 0 ≤ dhex (s.getD 2 0)
          · repeat (first | refine WS.seq ?_ | refine WS.skip ?_ | refine WS.label ?_ | refine WS.block ?_ | refine WS.inBlock ?_ | refine WS.exit rfl ?_ | refine WS.scope ?_ | refine WS.inScope ?_ | refine WS.region (by simp only [EV, TY, lget, b1, e1, e2, callV_58, dhex_ok, b2, b3, ↓reduceIte, Nat.reduceEqDiff, decide_true, decide_false, eq_self]; with_reducible rfl) ?_)
            refine WS.cond_true (by simp only [EV, lget, ↓reduceIte, Nat.reduceEqDiff, decide_true, decide_false, eq_self]) ?_
            have e5 : ∀ l t, opBin E0 l .shl t (.int .i64 (dhex (s.getD 1 0))) (.int .u64 4) = some (.int .i64 (IntKind.i64.wrap (dhex (s.getD 1 0) * 2 ^ (min (4 : Int).toNat IntKind.i64.bits)))) := fun l t => bin_shl l t .i64 (dhex (s.getD 1 0)) 4 (by decide) .u64
            repeat refine WS.seq ?_
            refine WS.draw (by simp only [evDraw_nil, evDraw_plain, isEff, isRead, List.all_nil, EV, TY, lget, e1, e2, callV_58, dhex_ok, e5, bin_or, conv_35, hexjoin _ _ b2 b3, ↓reduceIte, Nat.reduceEqDiff, decide_true, decide_false, eq_self]; with_reducible rfl) ?_
            repeat (first | refine WS.seq ?_ | refine WS.skip ?_ | refine WS.label ?_ | refine WS.block ?_ | refine WS.inBlock ?_ | refine WS.exit rfl ?_ | refine WS.scope ?_ | refine WS.inScope ?_ | refine WS.region (by simp only [EV, TY, lget, ↓reduceIte, Nat.reduceEqDiff, decide_true, decide_false, eq_self]; with_reducible rfl) ?_)
            have : escS s = (hexByte (s.getD 1 0) (s.getD 2 0), 3) := by
              unfold escS
              rw [if_neg hn1, if_pos ⟨by omega, b2, b3⟩]
            rw [this]
            refine WS.ret2s (t := 2) (u := 3) rfl rfl (List.prefix_refl _) rfl ?_ ?_
            · simp only [EV, lget, ↓reduceIte, Nat.reduceEqDiff, decide_true, decide_false, eq_self, and_true, true_and, and_self]
            · simp only [EV, lget, ↓reduceIte, Nat.reduceEqDiff, decide_true, decide_false, eq_self, and_true, true_and, and_self]
              rfl
          · repeat (first | refine WS.seq ?_ | refine WS.skip ?_ | refine WS.label ?_ | refine WS.block ?_ | refine WS.inBlock ?_ | refine WS.exit rfl ?_ | refine WS.scope ?_ | refine WS.inScope ?_ | refine WS.region (by simp only [EV, TY, lget, b1, e1, e2, callV_58, dhex_ok, b2, b3, ↓reduceIte, Nat.reduceEqDiff, decide_true, decide_false, eq_self]; with_reducible rfl) ?_)
            refine WS.cond_false (by simp only [EV, lget, ↓reduceIte, Nat.reduceEqDiff, decide_true, decide_false, eq_self]) ?_
            repeat (first | refine WS.seq ?_ | refine WS.skip ?_ | refine WS.label ?_ | refine WS.block ?_ | refine WS.inBlock ?_ | refine WS.exit rfl ?_ | refine WS.scope ?_ | refine WS.inScope ?_ | refine WS.region (by simp only [EV, TY, lget, ↓reduceIte, Nat.reduceEqDiff, decide_true, decide_false, eq_self]; with_reducible rfl) ?_)
            have : escS s = (0, 0) := by
              unfold escS
              rw [if_neg hn1, if_neg (fun h => b3 h.2.2)]
            rw [this]
            refine WS.ret2 (t := 2) (u := 3) rfl rfl rfl rfl (List.prefix_refl _) rfl
        · repeat (first | refine WS.seq ?_ | refine WS.skip ?_ | refine WS.label ?_ | refine WS.block ?_ | refine WS.inBlock ?_ | refine WS.exit rfl ?_ | refine WS.scope ?_ | refine WS.inScope ?_ | refine WS.region (by simp only [EV, TY, lget, b1, e1, e2, callV_58, dhex_ok, b2, ↓reduceIte, Nat.reduceEqDiff, decide_true, decide_false, eq_self]; with_reducible rfl) ?_)
          refine WS.cond_false (by simp only [EV, lget, ↓reduceIte, Nat.reduceEqDiff, decide_true, decide_false, eq_self]) ?_
          repeat (first | refine WS.seq ?_ | refine WS.skip ?_ | refine WS.label ?_ | refine WS.block ?_ | refine WS.inBlock ?_ | refine WS.exit rfl ?_ | refine WS.scope ?_ | refine WS.inScope ?_ | refine WS.region (by simp only [EV, TY, lget, ↓reduceIte, Nat.reduceEqDiff, decide_true, decide_false, eq_self]; with_reducible rfl) ?_)
          have : escS s = (0, 0) := by
            unfold escS
            rw [if_neg hn1, if_neg (fun h => b2 h.2.1)]
          rw [this]
          refine WS.ret2 (t := 2) (u := 3) rfl rfl rfl rfl (List.prefix_refl _) rfl
      · repeat (first | refine WS.seq ?_ | refine WS.skip ?_ | refine WS.label ?_ | refine WS.block ?_ | refine WS.inBlock ?_ | refine WS.exit rfl ?_ | refine WS.scope ?_ | refine WS.inScope ?_ | refine WS.region (by simp only [EV, TY, lget, b1, ↓reduceIte, Nat.reduceEqDiff, decide_true, decide_false, eq_self]; with_reducible rfl) ?_)
        refine WS.cond_false (by simp only [EV, lget, ↓reduceIte, Nat.reduceEqDiff, decide_true, decide_false, eq_self]) ?_
        repeat (first | refine WS.seq ?_ | refine WS.skip ?_ | refine WS.label ?_ | refine WS.block ?_ | refine WS.inBlock ?_ | refine WS.exit rfl ?_ | refine WS.scope ?_ | refine WS.inScope ?_ | refine WS.region (by simp only [EV, TY, lget, ↓reduceIte, Nat.reduceEqDiff, decide_true, decide_false, eq_self]; with_reducible rfl) ?_)
        have : escS s = (0, 0) := by
          unfold escS
          rw [if_neg hn1, if_neg (fun h => b1 (by omega))]
        rw [this]
        refine WS.ret2 (t := 2) (u := 3) rfl rfl rfl rfl (List.prefix_refl _) rfl
  · repeat (first | refine WS.seq ?_ | refine WS.skip ?_ | refine WS.label ?_ | refine WS.block ?_ | refine WS.inBlock ?_ | refine WS.exit rfl ?_ | refine WS.scope ?_ | refine WS.inScope ?_ | refine WS.region (by simp only [EV, TY, lget, a1, ↓reduceIte, Nat.reduceEqDiff, decide_true, decide_false, eq_self]; with_reducible rfl) ?_)
    refine WS.cond_false (by simp only [EV, lget, ↓reduceIte, Nat.reduceEqDiff, decide_true, decide_false, eq_self]) ?_
    have b1 : ¬ (2 : Int) < (s.length : Int) := by omega
    repeat (first | refine WS.seq ?_ | refine WS.skip ?_ | refine WS.label ?_ | refine WS.block ?_ | refine WS.inBlock ?_ | refine WS.exit rfl ?_ | refine WS.scope ?_ | refine WS.inScope ?_ | refine WS.region (by simp only [EV, TY, lget, b1, ↓reduceIte, Nat.reduceEqDiff, decide_true, decide_false, eq_self]; with_reducible rfl) ?_)
    refine WS.cond_false (by simp only [EV, lget, ↓reduceIte, Nat.reduceEqDiff, decide_true, decide_false, eq_self]) ?_
    repeat (first | refine WS.seq ?_ | refine WS.skip ?_ | refine WS.label ?_ | refine WS.block ?_ | refine WS.inBlock ?_ | refine WS.exit rfl ?_ | refine WS.scope ?_ | refine WS.inScope ?_ | refine WS.region (by simp only [EV, TY, lget, ↓reduceIte, Nat.reduceEqDiff, decide_true, decide_false, eq_self]; with_reducible rfl) ?_)
    have : escS s = (0, 0) := by
      unfold escS
      rw [if_neg (fun h => a1 (by omega)), if_neg (fun h => b1 (by omega))]
    rw [this]
    refine WS.ret2 (t := 2) (u := 3) rfl rfl rfl rfl (List.prefix_refl _) rfl
end Go.Proofs.YtjcckafjopjdbaaDoor
namespace Go.Proofs.YtjcckafjopjdbaaDoor
open Go Go.Vm
set_option maxRecDepth 100000
set_option maxHeartbeats 2000000
set_option linter.unusedSimpArgs false
set_option linter.unusedVariables false
theorem smallS_succ (s : List UInt8) (i : Nat) (h : i < s.length) : smallS (s.take (i + 1)) = smallS (s.take i) ++ [smallB (s.getD i 0)] := by
  have e : s.getD i 0 = s[i] := by simp [List.getD_eq_getElem?_getD, h]
  rw [e, List.take_succ_eq_append_getElem h]
  simp only [smallS, List.map_append, List.map_cons, List.map_nil]
theorem Small_ok (s : List UInt8) (S : Store) (hs : s.length ≤ 1048576) : vrun E0 (.fn 49) [.str s] S = some (.str (smallS s), S) := by
  refine fn_ws Tryd.func49 rfl ?_
  repeat (first | refine WS.seq ?_ | refine WS.skip ?_ | refine WS.label ?_ | refine WS.block ?_ | refine WS.inBlock ?_ | refine WS.exit rfl ?_ | refine WS.scope ?_ | refine WS.inScope ?_ | refine WS.region (by simp only [EV, TY, lget, ↓reduceIte, Nat.reduceEqDiff, decide_true, decide_false, eq_self]; with_reducible rfl) ?_)
  refine WS.loop (fun j fr S' => ∃ i v, i ≤ s.length ∧ j = s.length - i ∧ lget fr 0 = .str s ∧ lget fr 4 = .int .i64 (i : Nat) ∧ lget fr 3 = v ∧ Buf 5 S.length S' v (smallS (s.take i)) ∧ Low S.length S S') (j := s.length) ?_ ?_
  · refine ⟨0, .slN, by omega, by omega, ?_, ?_, ?_, Buf.new _ _ _, Low.refl (Nat.le_refl _)⟩
    all_goals
      simp only [EV, lget, ↓reduceIte, Nat.reduceEqDiff, decide_true, decide_false, eq_self, and_true, true_and, and_self]
    rfl
  · rintro j fr S' ⟨i, v, hi, rfl, h0, h4, h3, hb, hl⟩ ih
    repeat (first | refine WS.seq ?_ | refine WS.skip ?_ | refine WS.label ?_ | refine WS.block ?_ | refine WS.inBlock ?_ | refine WS.exit rfl ?_ | refine WS.scope ?_ | refine WS.inScope ?_ | refine WS.region (by simp only [EV, TY, h0, h4, ↓reduceIte, Nat.reduceEqDiff, decide_true, decide_false, eq_self]; with_reducible rfl) ?_)
    refine WS.cond (by simp only [EV, ↓reduceIte, Nat.reduceEqDiff, decide_true, decide_false, eq_self]; with_reducible rfl) (fun ht => ?_) (fun ht => ?_)
    · have hlt : i < s.length := by simpa using ht
      have e1 := idx_str_9 s .i64 i hlt
      repeat (first | refine WS.seq ?_ | refine WS.skip ?_ | refine WS.label ?_ | refine WS.block ?_ | refine WS.inBlock ?_ | refine WS.exit rfl ?_ | refine WS.scope ?_ | refine WS.inScope ?_ | refine WS.region (by simp only [EV, TY, h0, h4, e1, ↓reduceIte, Nat.reduceEqDiff, decide_true, decide_false, eq_self]; with_reducible rfl) ?_)
      generalize hc : s.getD i 0 = c
      have hsm := smallS_succ s i hlt
      rw [hc] at hsm
      have hlen : (smallS (s.take i)).length ≤ 1048576 := by simp [smallS]; omega
      have fin : ∀ (fr' : Fr) (S2 : Store) (w : V), lget fr' 0 = .str s → lget fr' 4 = .int .i64 ((i + 1 : Nat)) → lget fr' 3 = w → Buf 5 S.length S2 w (smallS (s.take (i + 1))) → Low S.length S S2 →
          WS E0 _ fr' S2 _ := fun fr' S2 w a1 a2 a3 a4 a5 => ih (s.length - (i + 1)) _ _ (by omega) ⟨i + 1, w, by omega, rfl, a1, a2, a3, a4, a5⟩
      obtain ⟨w, S2, f1, f2, f3⟩ := hb.app1 bt50 hl.1 (smallB c) (by omega)
      rw [← hsm] at f2
      by_cases h1 : (65 : Int) ≤ (c.toNat : Int)
      · by_cases h2 : (c.toNat : Int) ≤ 90
        · repeat (first | refine WS.seq ?_ | refine WS.skip ?_ | refine WS.label ?_ | refine WS.block ?_ | refine WS.inBlock ?_ | refine WS.exit rfl ?_ | refine WS.scope ?_ | refine WS.inScope ?_ | refine WS.region (by simp only [EV, TY, h1, h2, ↓reduceIte, Nat.reduceEqDiff, decide_true, decide_false, eq_self]; with_reducible rfl) ?_)
          refine WS.cond_true (by simp only [EV, ↓reduceIte, Nat.reduceEqDiff, decide_true, decide_false, eq_self]) ?_
          have e2 : IntKind.u8.wrap ((c.toNat : Int) + 32) = ((smallB c).toNat : Int) := by
            rw [wrap_u8]
            have := smallB_big (c := c) (by omega) (by omega)
            omega
          repeat (first | refine WS.seq ?_ | refine WS.skip ?_ | refine WS.label ?_ | refine WS.block ?_ | refine WS.inBlock ?_ | refine WS.exit rfl ?_ | refine WS.scope ?_ | refine WS.inScope ?_ | refine WS.region (by simp only [EV, TY, h3, h4, e2, mk1_ bt50, f1, wrap_inc i (by omega), ↓reduceIte, Nat.reduceEqDiff, decide_true, decide_false, eq_self]; with_reducible rfl) ?_)
          refine fin _ _ w ?_ ?_ ?_ f2 (hl.trans f3)
          all_goals
            simp only [EV, h0, ↓reduceIte, Nat.reduceEqDiff, decide_true, decide_false, eq_self, and_true, true_and, and_self]
        · repeat (first | refine WS.seq ?_ | refine WS.skip ?_ | refine WS.label ?_ | refine WS.block ?_ | refine WS.inBlock ?_ | refine WS.exit rfl ?_ | refine WS.scope ?_ | refine WS.inScope ?_ | refine WS.region (by simp only [EV, TY, h1, h2, ↓reduceIte, Nat.reduceEqDiff, decide_true, decide_false, eq_self]; with_reducible rfl) ?_)
          refine WS.cond_false (by simp only [EV, ↓reduceIte, Nat.reduceEqDiff, decide_true, decide_false, eq_self]) ?_
          have e2 : smallB c = c := if_neg (by omega)
          rw [e2] at f1
          repeat (first | refine WS.seq ?_ | refine WS.skip ?_ | refine WS.label ?_ | refine WS.block ?_ | refine WS.inBlock ?_ | refine WS.exit rfl ?_ | refine WS.scope ?_ | refine WS.inScope ?_ | refine WS.region (by simp only [EV, TY, h3, h4, mk1_ bt50, f1, wrap_inc i (by omega), ↓reduceIte, Nat.reduceEqDiff, decide_true, decide_false, eq_self]; with_reducible rfl) ?_)
          refine fin _ _ w ?_ ?_ ?_ f2 (hl.trans f3)
          all_goals
            simp only [EV, h0, ↓reduceIte, Nat.reduceEqDiff, decide_true, decide_false, eq_self, and_true, true_and, and_self]
      · repeat (first | refine WS.seq ?_ | refine WS.skip ?_ | refine WS.label ?_ | refine WS.block ?_ | refine WS.inBlock ?_ | refine WS.exit rfl ?_ | refine WS.scope ?_ | refine WS.inScope ?_ | refine WS.region (by simp only [EV, TY, h1, ↓reduceIte, Nat.reduceEqDiff, decide_true, decide_false, eq_self]; with_reducible rfl) ?_)
        refine WS.cond_false (by simp only [EV, ↓reduceIte, Nat.reduceEqDiff, decide_true, decide_false, eq_self]) ?_
        have e2 : smallB c = c := if_neg (by omega)
        rw [e2] at f1
        repeat (first | refine WS.seq ?_ | refine WS.skip ?_ | refine WS.label ?_ | refine WS.block ?_ | refine WS.inBlock ?_ | refine WS.exit rfl ?_ | refine WS.scope ?_ | refine WS.inScope ?_ | refine WS.region (by simp only [EV, TY, h3, h4, mk1_ bt50, f1, wrap_inc i (by omega), ↓reduceIte, Nat.reduceEqDiff, decide_true, decide_false, eq_self]; with_reducible rfl) ?_)
        refine fin _ _ w ?_ ?_ ?_ f2 (hl.trans f3)
        all_goals
          simp only [EV, h0, ↓reduceIte, Nat.reduceEqDiff, decide_true, decide_false, eq_self, and_true, true_and, and_self]
    · repeat (first | refine WS.seq ?_ | refine WS.skip ?_ | refine WS.label ?_ | refine WS.block ?_ | refine WS.inBlock ?_ | refine WS.exit rfl ?_ | refine WS.scope ?_ | refine WS.inScope ?_)
      have : i = s.length := by simp at ht; omega
      subst this
      rw [List.take_length] at hb
      have e5 := hb.conv bt50 Tryd.underlying9
      repeat (first | refine WS.seq ?_ | refine WS.skip ?_ | refine WS.label ?_ | refine WS.block ?_ | refine WS.inBlock ?_ | refine WS.exit rfl ?_ | refine WS.scope ?_ | refine WS.inScope ?_ | refine WS.region (by simp only [EV, TY, h3, e5, ↓reduceIte, Nat.reduceEqDiff, decide_true, decide_false, eq_self]; with_reducible rfl) ?_)
      refine WS.ret1s (t := 2) rfl rfl hl.pre (frz_str _ _ _) ?_
      simp only [EV, ↓reduceIte, Nat.reduceEqDiff, decide_true, decide_false, eq_self, and_true, true_and, and_self]
end Go.Proofs.YtjcckafjopjdbaaDoor
