import Derived.Test.YtmmjlgocihhkcaaGreatDoorPartO
import Derived.Test.YtmmjlgocihhkcaaGreatDoorVmF
set_option linter.all false
namespace Go.Proofs.YtmmjlgocihhkcaaGreatDoor
open Go Go.Vm
set_option maxRecDepth 100000
set_option maxHeartbeats 8000000
def tyCh (i : Nat) (c : UInt8) : Bool := letterZ c.toNat || (!(i == 0) && (digitZ c.toNat || c == 45))
def typeB (s : List UInt8) : Bool := decide (1 ≤ s.length) && decide (s.length ≤ 20) && (List.range s.length).all fun i => tyCh i (s.getD i 0)
theorem typeB_bad (s : List UInt8) (i : Nat) (h : i < s.length) (hb : tyCh i (s.getD i 0) = false) : typeB s = false := by
 unfold typeB
 have : (List.range s.length).all (fun i => tyCh i (s.getD i 0)) = false := by
  rw [List.all_eq_false]
  exact ⟨i, List.mem_range.2 h, by simp only [hb]; simp⟩
 rw [this]
 simp
theorem typeB_good (s : List UInt8) (h : ∀ i, i < s.length → tyCh i (s.getD i 0) = true) : typeB s = (decide (1 ≤ s.length) && decide (s.length ≤ 20)) := by
 unfold typeB
 have : (List.range s.length).all (fun i => tyCh i (s.getD i 0)) = true := by
  rw [List.all_eq_true]
  exact fun i hi => h i (List.mem_range.1 hi)
 rw [this]
 simp
theorem Type_ok (s : List UInt8) (S : Store) (hs : s.length ≤ 1048576) : vrun E0 (.fn 61) [.str s] S = some (.bool (typeB s), S) := by
 refine fn_ws Tryz.func61 rfl ?_
 repeat (first | refine WS.adm rfl ?_ | refine WS.region (by simp only [EV, TY, lget, evOp_rng (E := E0) Tryz.underlying9, ↓reduceIte, Nat.reduceEqDiff]; with_reducible rfl) ?_)
 refine WS.loopB (fun j fr S' => ∃ i, j = s.length - i ∧ i ≤ s.length ∧ lget fr 0 = .str s ∧ lget fr 6 = .it S.length ∧ S' = S ++ [.iter s i] ∧ ∀ k, k < i → tyCh k (s.getD k 0) = true)
  (fun fr S' => lget fr 0 = .str s ∧ S <+: S' ∧ ∀ k, k < s.length → tyCh k (s.getD k 0) = true) (j := s.length) ?_ ?_ ?_
 ·refine ⟨0, by omega, by omega, ?_, ?_, rfl, fun k hk => by omega⟩
  all_goals
   simp only [EV, lget, ↓reduceIte, Nat.reduceEqDiff, AT]
 ·rintro fr S' ⟨h0, hp, hall⟩
  rw [typeB_good s hall]
  by_cases a1 : s = []
  ·subst a1
   repeat (first | refine WS.adm rfl ?_ | refine WS.region (by simp only [EV, TY, h0, sne, ↓reduceIte, Nat.reduceEqDiff]; with_reducible rfl) ?_)
   refine WS.ret1s (t := 2) rfl rfl hp (frz_bool _ _ _) ?_
   simp only [EV, ↓reduceIte, Nat.reduceEqDiff, AT]
   simp
  ·by_cases a2 : (s.length : Int) ≤ 20
   ·repeat (first | refine WS.adm rfl ?_ | refine WS.region (by simp only [EV, TY, h0, sne, a1, a2, ↓reduceIte, Nat.reduceEqDiff]; with_reducible rfl) ?_)
    refine WS.ret1s (t := 2) rfl rfl hp (frz_bool _ _ _) ?_
    have := List.length_pos_iff.2 a1
    simp only [EV, ↓reduceIte, Nat.reduceEqDiff, AT]
    simp; omega
   ·repeat (first | refine WS.adm rfl ?_ | refine WS.region (by simp only [EV, TY, h0, sne, a1, a2, ↓reduceIte, Nat.reduceEqDiff]; with_reducible rfl) ?_)
    refine WS.ret1s (t := 2) rfl rfl hp (frz_bool _ _ _) ?_
    simp only [EV, ↓reduceIte, Nat.reduceEqDiff, AT]
    simp; omega
 ·rintro j fr S' ⟨i, rfl, hi, h0, h6, hSS, hall⟩ ih last
  subst hSS
  have hit : (S ++ [Ob.iter s i])[S.length]? = some (.iter s i) := getS0 _
  by_cases hlt : i < s.length
  ·have hset : (S ++ [Ob.iter s i]).set S.length (.iter s (i + (Utf8.decode ⟨s.toArray⟩ i).2)) = S ++ [.iter s (i + (Utf8.decode ⟨s.toArray⟩ i).2)] := setS0 _ _
   have hlo := dec_lo s i hlt
   have hhi := dec_hi s i hlt
   have bad : tyCh i (s.getD i 0) = false → typeB s = false := fun h => typeB_bad s i hlt h
   generalize hc : s.getD i 0 = c at hlo hhi bad
   repeat (first | refine WS.adm rfl ?_ | refine WS.region (by simp only [EV, TY, h6, hit, hlt, hset, ↓reduceIte, Nat.reduceEqDiff]; with_reducible rfl) ?_)
   refine WS.ct0 ?_
   have good : tyCh i c = true → c.toNat < 128 → ∀ fr' : Fr, lget fr' 0 = .str s → lget fr' 6 = .it S.length → WS E0 _ fr' (S ++ [.iter s (i + (Utf8.decode ⟨s.toArray⟩ i).2)]) _ := fun hg h128 fr' a1 a2 =>
    ih (s.length - (i + 1)) _ _ (by omega) ⟨i + 1, rfl, by omega, a1, a2, by rw [hlo h128], fun k hk => by
     rcases Nat.lt_or_ge k i with h | h
     ·exact hall k h
     ·obtain rfl : k = i := by omega
      rw [hc]; exact hg⟩
   have hi0 : ((i : Nat) : Int) = 0 ↔ i = 0 := by omega
   generalize hr : ((Utf8.decode ⟨s.toArray⟩ i).1 : Int) = r
   have rel : letterZ r = letterZ c.toNat ∧ (r < 48 ∨ 57 < r ↔ digitZ c.toNat = false) ∧ (r = 45 ↔ c = 45) ∧ (c.toNat < 128 ∨ (letterZ r = false ∧ (r < 48 ∨ 57 < r) ∧ r ≠ 45)) := by
    by_cases h128 : c.toNat < 128
    ·have hd := hlo h128
     rw [hd] at hr
     subst hr
     refine ⟨rfl, by simp [digitZ]; omega, ?_, .inl h128⟩
     constructor
     ·intro h
      apply UInt8.toNat_inj.1
      simp at h ⊢
      omega
     ·intro h
      rw [h]
      rfl
    ·have hd := hhi h128
     have h1 : letterZ r = false := by simp [letterZ]; omega
     refine ⟨?_, ?_, ?_, .inr ⟨h1, by omega, by omega⟩⟩
     ·rw [h1]
      simp [letterZ]
      omega
     ·simp [digitZ]; omega
     ·constructor
      ·intro h; omega
      ·intro h
       rw [h] at h128
       exact absurd (by decide) h128
   obtain ⟨rel1, rel2, rel3, rel4⟩ := rel
   by_cases q1 : letterZ r = true
   ·have h128 : c.toNat < 128 := rel4.resolve_right (fun h => by rw [q1] at h; simp at h)
    repeat (first | refine WS.adm rfl ?_ | refine WS.region (by simp only [EV, TY, callV_101, letter_ok, hr, q1, ↓reduceIte, Nat.reduceEqDiff]; with_reducible rfl) ?_)
    refine WS.cond_false (by simp only [EV, q1, ↓reduceIte, Nat.reduceEqDiff]) ?_
    repeat refine WS.adm rfl ?_
    refine good (by rw [tyCh, ← rel1, q1]; rfl) h128 _ ?_ ?_
    all_goals
     simp only [EV, h0, h6, ↓reduceIte, Nat.reduceEqDiff, AT]
   have q1 : letterZ r = false := by simpa using q1
   by_cases q2 : i = 0
   ·have q2' : (((i : Nat) : Int) == 0) = true := by simp [q2]
    repeat (first | refine WS.adm rfl ?_ | refine WS.region (by simp only [EV, TY, callV_101, letter_ok, hr, q1, q2', ↓reduceIte, Nat.reduceEqDiff]; with_reducible rfl) ?_)
    refine WS.cond_true (by simp only [EV, q1, q2', ↓reduceIte, Nat.reduceEqDiff]) ?_
    repeat (first | refine WS.adm rfl ?_ | refine WS.rl ?_)
    rw [bad (by rw [tyCh, ← rel1, q1, q2]; rfl)]
    refine WS.ret1s (t := 2) rfl rfl (List.prefix_append _ _) (frz_bool _ _ _) ?_
    simp only [EV, ↓reduceIte, Nat.reduceEqDiff, AT]
   have q2' : (((i : Nat) : Int) == 0) = false := by simp [q2]
   by_cases q3 : digitZ c.toNat = true
   ·have nr : ¬ (r < 48 ∨ 57 < r) := fun h => by rw [rel2.1 h] at q3; simp at q3
    have n1 : ¬ r < 48 := fun h => nr (.inl h)
    have n2 : ¬ 57 < r := fun h => nr (.inr h)
    repeat (first | refine WS.adm rfl ?_ | refine WS.region (by simp only [EV, TY, callV_101, letter_ok, hr, q1, q2', n1, n2, ↓reduceIte, Nat.reduceEqDiff]; with_reducible rfl) ?_)
    refine WS.cond_false (by simp only [EV, q1, q2', n1, n2, ↓reduceIte, Nat.reduceEqDiff]) ?_
    repeat refine WS.adm rfl ?_
    refine good (by simp [tyCh, q2, q3]) (rel4.resolve_right (fun h => nr h.2.1)) _ ?_ ?_
    all_goals
     simp only [EV, h0, h6, ↓reduceIte, Nat.reduceEqDiff, AT]
   have q3 : digitZ c.toNat = false := by simpa using q3
   have nr := rel2.2 q3
   by_cases q4 : c = 45
   ·have r45 : (r != 45) = false := by simp [rel3.2 q4]
    have h128 : c.toNat < 128 := by rw [q4]; decide
    rcases nr with n1 | n2
    ·repeat (first | refine WS.adm rfl ?_ | refine WS.region (by simp only [EV, TY, callV_101, letter_ok, hr, q1, q2', n1, r45, ↓reduceIte, Nat.reduceEqDiff]; with_reducible rfl) ?_)
     refine WS.cond_false (by simp only [EV, q1, q2', n1, r45, ↓reduceIte, Nat.reduceEqDiff]) ?_
     repeat refine WS.adm rfl ?_
     refine good (by simp [tyCh, q2, q4]) (h128) _ ?_ ?_
     all_goals
      simp only [EV, h0, h6, ↓reduceIte, Nat.reduceEqDiff, AT]
    ·by_cases n1 : r < 48
     ·repeat (first | refine WS.adm rfl ?_ | refine WS.region (by simp only [EV, TY, callV_101, letter_ok, hr, q1, q2', n1, r45, ↓reduceIte, Nat.reduceEqDiff]; with_reducible rfl) ?_)
      refine WS.cond_false (by simp only [EV, q1, q2', n1, r45, ↓reduceIte, Nat.reduceEqDiff]) ?_
      repeat refine WS.adm rfl ?_
      refine good (by simp [tyCh, q2, q4]) (h128) _ ?_ ?_
      all_goals
       simp only [EV, h0, h6, ↓reduceIte, Nat.reduceEqDiff, AT]
     ·repeat (first | refine WS.adm rfl ?_ | refine WS.region (by simp only [EV, TY, callV_101, letter_ok, hr, q1, q2', n1, n2, r45, ↓reduceIte, Nat.reduceEqDiff]; with_reducible rfl) ?_)
      refine WS.cond_false (by simp only [EV, q1, q2', n1, n2, r45, ↓reduceIte, Nat.reduceEqDiff]) ?_
      repeat refine WS.adm rfl ?_
      refine good (by simp [tyCh, q2, q4]) (h128) _ ?_ ?_
      all_goals
       simp only [EV, h0, h6, ↓reduceIte, Nat.reduceEqDiff, AT]
   ·have r45 : (r != 45) = true := by simp; exact fun h => q4 (rel3.1 h)
    rcases nr with n1 | n2
    ·repeat (first | refine WS.adm rfl ?_ | refine WS.region (by simp only [EV, TY, callV_101, letter_ok, hr, q1, q2', n1, r45, ↓reduceIte, Nat.reduceEqDiff]; with_reducible rfl) ?_)
     refine WS.cond_true (by simp only [EV, q1, q2', n1, r45, ↓reduceIte, Nat.reduceEqDiff]) ?_
     repeat (first | refine WS.adm rfl ?_ | refine WS.rl ?_)
     rw [bad (by simp [tyCh, ← rel1, q1, q2, q3, q4])]
     refine WS.ret1s (t := 2) rfl rfl (List.prefix_append _ _) (frz_bool _ _ _) ?_
     simp only [EV, ↓reduceIte, Nat.reduceEqDiff, AT]
    ·by_cases n1 : r < 48
     ·repeat (first | refine WS.adm rfl ?_ | refine WS.region (by simp only [EV, TY, callV_101, letter_ok, hr, q1, q2', n1, r45, ↓reduceIte, Nat.reduceEqDiff]; with_reducible rfl) ?_)
      refine WS.cond_true (by simp only [EV, q1, q2', n1, r45, ↓reduceIte, Nat.reduceEqDiff]) ?_
      repeat (first | refine WS.adm rfl ?_ | refine WS.rl ?_)
      rw [bad (by simp [tyCh, ← rel1, q1, q2, q3, q4])]
      refine WS.ret1s (t := 2) rfl rfl (List.prefix_append _ _) (frz_bool _ _ _) ?_
      simp only [EV, ↓reduceIte, Nat.reduceEqDiff, AT]
     ·repeat (first | refine WS.adm rfl ?_ | refine WS.region (by simp only [EV, TY, callV_101, letter_ok, hr, q1, q2', n1, n2, r45, ↓reduceIte, Nat.reduceEqDiff]; with_reducible rfl) ?_)
      refine WS.cond_true (by simp only [EV, q1, q2', n1, n2, r45, ↓reduceIte, Nat.reduceEqDiff]) ?_
      repeat (first | refine WS.adm rfl ?_ | refine WS.rl ?_)
      rw [bad (by simp [tyCh, ← rel1, q1, q2, q3, q4])]
      refine WS.ret1s (t := 2) rfl rfl (List.prefix_append _ _) (frz_bool _ _ _) ?_
      simp only [EV, ↓reduceIte, Nat.reduceEqDiff, AT]
  ·repeat (first | refine WS.adm rfl ?_ | refine WS.region (by simp only [EV, TY, h6, hit, hlt, ↓reduceIte, Nat.reduceEqDiff]; with_reducible rfl) ?_)
   refine WS.cf0 ?_
   refine WS.exit rfl ?_
   have : i = s.length := by omega
   subst this
   refine last _ _ ⟨?_, List.prefix_append _ _, hall⟩
   simp only [EV, h0, ↓reduceIte, Nat.reduceEqDiff, AT]
theorem smallS_ok (s : List UInt8) (S : Store) (hs : s.length ≤ 1048576) : vrun E0 (.fn 60) [.str s] S = some (.str (smallS s), S) := by
 refine fn_ws Tryz.func60 rfl ?_
 have e1 := conv_bytes_9 S s (by omega)
 repeat (first | refine WS.adm rfl ?_ | refine WS.region (by simp only [EV, TY, lget, e1, ↓reduceIte, Nat.reduceEqDiff]; with_reducible rfl) ?_)
 refine WS.loop (fun j fr S' => ∃ i, i ≤ s.length ∧ j = s.length - i ∧ lget fr 10 = .int .i64 (i : Nat) ∧ lget fr 9 = .int .i64 s.length ∧ lget fr 8 = .slR S.length 0 s.length s.length 1 ∧ lget fr 3 = .slR S.length 0 s.length s.length 1 ∧
  S' = S ++ [.cells (bytesV (smallS (s.take i) ++ s.drop i)) 5]) (j := s.length) ?_ ?_
 ·refine ⟨0, by omega, by omega, ?_⟩
  simp only [EV, lget, smallS, List.take_zero, List.drop_zero, ↓reduceIte, Nat.reduceEqDiff, AT]
  simp
 ·rintro j fr S' ⟨i, hi, rfl, h10, h9, h8, h3, rfl⟩ ih
  repeat (first | refine WS.adm rfl ?_ | refine WS.region (by simp only [EV, TY, h10, h9, ↓reduceIte, Nat.reduceEqDiff]; with_reducible rfl) ?_)
  refine WS.cond (by simp only [EV, ↓reduceIte, Nat.reduceEqDiff]; with_reducible rfl) (fun ht => ?_) (fun ht => ?_)
  ·have hlt : i < s.length := by simpa using ht
   have hlen : (smallS (s.take i) ++ s.drop i).length = s.length := by simp [smallS]; omega
   have hget : (smallS (s.take i) ++ s.drop i).getD i 0 = s.getD i 0 := by
    simp [smallS, List.getD_eq_getElem?_getD, List.getElem?_append, Nat.min_eq_left (Nat.le_of_lt hlt)]
   have hS : (S ++ [Ob.cells (bytesV (smallS (s.take i) ++ s.drop i)) 5])[S.length]? = some (.cells (bytesV (smallS (s.take i) ++ s.drop i)) 5) := getS0 _
   have e2 := ld_ref_5 (S ++ [Ob.cells (bytesV (smallS (s.take i) ++ s.drop i)) 5]) S.length (0 + i * 1)
   rw [cellsOf_of hS] at e2
   simp only [Option.bind_some, Nat.zero_add, Nat.mul_one, bytesV_get _ i (by rw [hlen]; exact hlt), hget] at e2
   have e3 := ia_slR_140 S.length 0 s.length s.length .i64 i hlt
   simp only [Nat.zero_add, Nat.mul_one] at e3
   have hsm := small_step s i hlt
   generalize hc : s.getD i 0 = c at e2 hsm
   have fin : ∀ (fr' : Fr), lget fr' 10 = .int .i64 ((i + 1 : Nat)) → lget fr' 9 = .int .i64 s.length → lget fr' 8 = .slR S.length 0 s.length s.length 1 → lget fr' 3 = .slR S.length 0 s.length s.length 1 →
     WS E0 _ fr' (S ++ [.cells (bytesV (smallS (s.take (i + 1)) ++ s.drop (i + 1))) 5]) _ := fun fr' a1 a2 a3 a4 => ih (s.length - (i + 1)) _ _ (by omega) ⟨i + 1, by omega, rfl, a1, a2, a3, a4, rfl⟩
   have same : ¬ (65 ≤ c.toNat ∧ c.toNat ≤ 90) → smallS (s.take (i + 1)) ++ s.drop (i + 1) = smallS (s.take i) ++ s.drop i := by
    intro h
    rw [hsm, smallB, if_neg h, ← hc, ← hget]
    apply List.ext_getElem?
    intro q
    rw [List.getElem?_set]
    split
    ·rename_i e
     subst e
     simp [hlen, hlt, List.getD_eq_getElem?_getD, List.getElem?_eq_getElem (show i < (smallS (s.take i) ++ s.drop i).length by omega)]
    ·rfl
   repeat (first | refine WS.adm rfl ?_ | refine WS.region (by simp only [EV, TY, h10, h8, e2, e3, ↓reduceIte, Nat.reduceEqDiff]; with_reducible rfl) ?_)
   by_cases h1 : (65 : Int) ≤ (c.toNat : Int)
   ·by_cases h2 : (c.toNat : Int) ≤ 90
    ·repeat (first | refine WS.adm rfl ?_ | refine WS.region (by simp only [EV, TY, h1, h2, ↓reduceIte, Nat.reduceEqDiff]; with_reducible rfl) ?_)
     refine WS.ct0 ?_
     have e4 : opStore E0 (S ++ [Ob.cells (bytesV (smallS (s.take i) ++ s.drop i)) 5]) 5 (.ref S.length i) (.int .u8 (IntKind.u8.wrap (IntKind.u8.wrap ((c.toNat : Int) + 97) - 65))) = some (S ++ [Ob.cells (bytesV (smallS (s.take (i + 1)) ++ s.drop (i + 1))) 5]) := by
      have : IntKind.u8.wrap (IntKind.u8.wrap ((c.toNat : Int) + 97) - 65) = ((smallB c).toNat : Int) := by
       rw [wrap_u8, wrap_u8]
       have := smallB_big (c := c) (by omega) (by omega)
       omega
      rw [this, st_one tsize_5 _ _ _ rfl (by simp), putAt_one hS (by rw [bytesV_length, hlen]; exact hlt), bytesV_set, hsm, setS0]
      rfl
     repeat (first | refine WS.adm rfl ?_ | refine WS.region (by simp only [EV, TY, h3, e3, e4, h10, wrap_inc i (by omega), ↓reduceIte, Nat.reduceEqDiff]; with_reducible rfl) ?_)
     apply fin
     all_goals
      simp only [EV, h9, h8, h3, ↓reduceIte, Nat.reduceEqDiff, AT]
    ·repeat (first | refine WS.adm rfl ?_ | refine WS.region (by simp only [EV, TY, h1, h2, ↓reduceIte, Nat.reduceEqDiff]; with_reducible rfl) ?_)
     refine WS.cf0 ?_
     rw [same (by omega)] at fin
     repeat (first | refine WS.adm rfl ?_ | refine WS.region (by simp only [EV, TY, h3, e3, h10, wrap_inc i (by omega), ↓reduceIte, Nat.reduceEqDiff]; with_reducible rfl) ?_)
     apply fin
     all_goals
      simp only [EV, h9, h8, h3, ↓reduceIte, Nat.reduceEqDiff, AT]
   ·repeat (first | refine WS.adm rfl ?_ | refine WS.region (by simp only [EV, TY, h1, ↓reduceIte, Nat.reduceEqDiff]; with_reducible rfl) ?_)
    refine WS.cf0 ?_
    rw [same (by omega)] at fin
    repeat (first | refine WS.adm rfl ?_ | refine WS.region (by simp only [EV, TY, h3, e3, h10, wrap_inc i (by omega), ↓reduceIte, Nat.reduceEqDiff]; with_reducible rfl) ?_)
    apply fin
    all_goals
     simp only [EV, h9, h8, h3, ↓reduceIte, Nat.reduceEqDiff, AT]
  ·repeat refine WS.adm rfl ?_
   have : i = s.length := by simp at ht; omega
   subst this
   rw [List.take_length, List.drop_length, List.append_nil]
   have e5 : opConvert E0 (S ++ [Ob.cells (bytesV (smallS s)) 5]) 140 9 (.slR S.length 0 s.length s.length 1) = some (.str (smallS s), S ++ [Ob.cells (bytesV (smallS s)) 5]) := by
    have := conv_str (E := E0) Tryz.underlying140 Tryz.underlying9 Tryz.underlying5 (S := S ++ [Ob.cells (bytesV (smallS s)) 5]) (id := S.length) (cap := s.length) (s := smallS s) (r := []) (w := 5) (by simp)
    simpa [smallS] using this
   repeat (first | refine WS.adm rfl ?_ | refine WS.region (by simp only [EV, TY, h3, e5, ↓reduceIte, Nat.reduceEqDiff]; with_reducible rfl) ?_)
   refine WS.ret1 (t := 2) rfl rfl ?_ (List.prefix_append _ _) (frz_str _ _ _)
   simp only [EV, ↓reduceIte, Nat.reduceEqDiff, AT]
theorem smallC_ok (s : List UInt8) (S : Store) (hs : s.length ≤ 1048576) : vrun E0 (.fn 67) [.str s] S = some (.str (smallS s), S) := by
 refine fn_ws Tryz.func67 rfl ?_
 have e1 := conv_bytes_9 S s (by omega)
 repeat (first | refine WS.adm rfl ?_ | refine WS.region (by simp only [EV, TY, lget, e1, ↓reduceIte, Nat.reduceEqDiff]; with_reducible rfl) ?_)
 refine WS.loop (fun j fr S' => ∃ i, i ≤ s.length ∧ j = s.length - i ∧ lget fr 10 = .int .i64 (i : Nat) ∧ lget fr 9 = .int .i64 s.length ∧ lget fr 8 = .slR S.length 0 s.length s.length 1 ∧ lget fr 3 = .slR S.length 0 s.length s.length 1 ∧
  S' = S ++ [.cells (bytesV (smallS (s.take i) ++ s.drop i)) 5]) (j := s.length) ?_ ?_
 ·refine ⟨0, by omega, by omega, ?_⟩
  simp only [EV, lget, smallS, List.take_zero, List.drop_zero, ↓reduceIte, Nat.reduceEqDiff, AT]
  simp
 ·rintro j fr S' ⟨i, hi, rfl, h10, h9, h8, h3, rfl⟩ ih
  repeat (first | refine WS.adm rfl ?_ | refine WS.region (by simp only [EV, TY, h10, h9, ↓reduceIte, Nat.reduceEqDiff]; with_reducible rfl) ?_)
  refine WS.cond (by simp only [EV, ↓reduceIte, Nat.reduceEqDiff]; with_reducible rfl) (fun ht => ?_) (fun ht => ?_)
  ·have hlt : i < s.length := by simpa using ht
   have hlen : (smallS (s.take i) ++ s.drop i).length = s.length := by simp [smallS]; omega
   have hget : (smallS (s.take i) ++ s.drop i).getD i 0 = s.getD i 0 := by
    simp [smallS, List.getD_eq_getElem?_getD, List.getElem?_append, Nat.min_eq_left (Nat.le_of_lt hlt)]
   have hS : (S ++ [Ob.cells (bytesV (smallS (s.take i) ++ s.drop i)) 5])[S.length]? = some (.cells (bytesV (smallS (s.take i) ++ s.drop i)) 5) := getS0 _
   have e2 := ld_ref_5 (S ++ [Ob.cells (bytesV (smallS (s.take i) ++ s.drop i)) 5]) S.length (0 + i * 1)
   rw [cellsOf_of hS] at e2
   simp only [Option.bind_some, Nat.zero_add, Nat.mul_one, bytesV_get _ i (by rw [hlen]; exact hlt), hget] at e2
   have e3 := ia_slR_140 S.length 0 s.length s.length .i64 i hlt
   simp only [Nat.zero_add, Nat.mul_one] at e3
   have hsm := small_step s i hlt
   generalize hc : s.getD i 0 = c at e2 hsm
   have fin : ∀ (fr' : Fr), lget fr' 10 = .int .i64 ((i + 1 : Nat)) → lget fr' 9 = .int .i64 s.length → lget fr' 8 = .slR S.length 0 s.length s.length 1 → lget fr' 3 = .slR S.length 0 s.length s.length 1 →
     WS E0 _ fr' (S ++ [.cells (bytesV (smallS (s.take (i + 1)) ++ s.drop (i + 1))) 5]) _ := fun fr' a1 a2 a3 a4 => ih (s.length - (i + 1)) _ _ (by omega) ⟨i + 1, by omega, rfl, a1, a2, a3, a4, rfl⟩
   have same : ¬ (65 ≤ c.toNat ∧ c.toNat ≤ 90) → smallS (s.take (i + 1)) ++ s.drop (i + 1) = smallS (s.take i) ++ s.drop i := by
    intro h
    rw [hsm, smallB, if_neg h, ← hc, ← hget]
    apply List.ext_getElem?
    intro q
    rw [List.getElem?_set]
    split
    ·rename_i e
     subst e
     simp [hlen, hlt, List.getD_eq_getElem?_getD, List.getElem?_eq_getElem (show i < (smallS (s.take i) ++ s.drop i).length by omega)]
    ·rfl
   repeat (first | refine WS.adm rfl ?_ | refine WS.region (by simp only [EV, TY, h10, h8, e2, e3, ↓reduceIte, Nat.reduceEqDiff]; with_reducible rfl) ?_)
   by_cases h1 : (65 : Int) ≤ (c.toNat : Int)
   ·by_cases h2 : (c.toNat : Int) ≤ 90
    ·repeat (first | refine WS.adm rfl ?_ | refine WS.region (by simp only [EV, TY, h1, h2, ↓reduceIte, Nat.reduceEqDiff]; with_reducible rfl) ?_)
     refine WS.ct0 ?_
     have e4 : opStore E0 (S ++ [Ob.cells (bytesV (smallS (s.take i) ++ s.drop i)) 5]) 5 (.ref S.length i) (.int .u8 (IntKind.u8.wrap (IntKind.u8.wrap ((c.toNat : Int) + 97) - 65))) = some (S ++ [Ob.cells (bytesV (smallS (s.take (i + 1)) ++ s.drop (i + 1))) 5]) := by
      have : IntKind.u8.wrap (IntKind.u8.wrap ((c.toNat : Int) + 97) - 65) = ((smallB c).toNat : Int) := by
       rw [wrap_u8, wrap_u8]
       have := smallB_big (c := c) (by omega) (by omega)
       omega
      rw [this, st_one tsize_5 _ _ _ rfl (by simp), putAt_one hS (by rw [bytesV_length, hlen]; exact hlt), bytesV_set, hsm, setS0]
      rfl
     repeat (first | refine WS.adm rfl ?_ | refine WS.region (by simp only [EV, TY, h3, e3, e4, h10, wrap_inc i (by omega), ↓reduceIte, Nat.reduceEqDiff]; with_reducible rfl) ?_)
     apply fin
     all_goals
      simp only [EV, h9, h8, h3, ↓reduceIte, Nat.reduceEqDiff, AT]
    ·repeat (first | refine WS.adm rfl ?_ | refine WS.region (by simp only [EV, TY, h1, h2, ↓reduceIte, Nat.reduceEqDiff]; with_reducible rfl) ?_)
     refine WS.cf0 ?_
     rw [same (by omega)] at fin
     repeat (first | refine WS.adm rfl ?_ | refine WS.region (by simp only [EV, TY, h3, e3, h10, wrap_inc i (by omega), ↓reduceIte, Nat.reduceEqDiff]; with_reducible rfl) ?_)
     apply fin
     all_goals
      simp only [EV, h9, h8, h3, ↓reduceIte, Nat.reduceEqDiff, AT]
   ·repeat (first | refine WS.adm rfl ?_ | refine WS.region (by simp only [EV, TY, h1, ↓reduceIte, Nat.reduceEqDiff]; with_reducible rfl) ?_)
    refine WS.cf0 ?_
    rw [same (by omega)] at fin
    repeat (first | refine WS.adm rfl ?_ | refine WS.region (by simp only [EV, TY, h3, e3, h10, wrap_inc i (by omega), ↓reduceIte, Nat.reduceEqDiff]; with_reducible rfl) ?_)
    apply fin
    all_goals
     simp only [EV, h9, h8, h3, ↓reduceIte, Nat.reduceEqDiff, AT]
  ·repeat refine WS.adm rfl ?_
   have : i = s.length := by simp at ht; omega
   subst this
   rw [List.take_length, List.drop_length, List.append_nil]
   have e5 : opConvert E0 (S ++ [Ob.cells (bytesV (smallS s)) 5]) 140 9 (.slR S.length 0 s.length s.length 1) = some (.str (smallS s), S ++ [Ob.cells (bytesV (smallS s)) 5]) := by
    have := conv_str (E := E0) Tryz.underlying140 Tryz.underlying9 Tryz.underlying5 (S := S ++ [Ob.cells (bytesV (smallS s)) 5]) (id := S.length) (cap := s.length) (s := smallS s) (r := []) (w := 5) (by simp)
    simpa [smallS] using this
   repeat (first | refine WS.adm rfl ?_ | refine WS.region (by simp only [EV, TY, h3, e5, ↓reduceIte, Nat.reduceEqDiff]; with_reducible rfl) ?_)
   refine WS.ret1 (t := 2) rfl rfl ?_ (List.prefix_append _ _) (frz_str _ _ _)
   simp only [EV, ↓reduceIte, Nat.reduceEqDiff, AT]
abbrev ATy := List UInt8 × Int × Bool × Bool × Bool × Bool
abbrev Cls := List UInt8 × Int × List UInt8 × List (List UInt8) × List (List UInt8)
abbrev SchD := List ATy × List Cls
def tyC (t : ATy) : List V := [.str t.1, .int .i64 t.2.1, .bool t.2.2.1, .bool t.2.2.2.1, .bool t.2.2.2.2.1, .bool t.2.2.2.2.2]
def rTy (c : List V) (t : ATy) : Prop := c = tyC t
def rCls (c : List V) (k : Cls) : Prop := ∃ m y, c = [.str k.1, .int .i64 k.2.1, .str k.2.2.1, m, y] ∧ pStrs m k.2.2.2.1 ∧ pStrs y k.2.2.2.2
theorem rTy.flat (c : List V) (t : ATy) (h : rTy c t) : ∀ x ∈ c, flatV x = true := by
 rw [show c = tyC t from h]
 simp [tyC, flatV]
theorem rCls.flat (c : List V) (k : Cls) (h : rCls c k) : ∀ x ∈ c, flatV x = true := by
 obtain ⟨m, y, rfl, h1, h2⟩ := h
 have := PArr.flat h1
 have := PArr.flat h2
 simp only [List.mem_cons, List.not_mem_nil, or_false]
 rintro x (rfl | rfl | rfl | rfl | rfl) <;> first | rfl | assumption
theorem rS.flat (c : List V) (s : List UInt8) (h : rS c s) : ∀ x ∈ c, flatV x = true := by
 rw [show c = [.str s] from h]
 simp [flatV]
theorem is_nil_slI (l : Bool) (t n : Nat) (cs : List V) {e : TypeId} (ht : E0.P.underlying t = some (.slice e)) : opBin E0 l .eql t (.slI n cs) .slN = some (.bool false) := by
 unfold opBin
 simp only [eqOk, vEq, ht]
 rfl
theorem is_nil_slN (l : Bool) (t : Nat) {e : TypeId} (ht : E0.P.underlying t = some (.slice e)) : opBin E0 l .eql t .slN .slN = some (.bool true) := by
 unfold opBin
 simp only [eqOk, vEq, ht]
 rfl
theorem CloneT_ok {S : Store} {v : V} {l : List (ATy)} (h : PArr 6 rTy v l) (hl : l.length ≤ 1048576) : ∃ w, vrun E0 (.fn 56) [v] S = some (w, S) ∧ PArr 6 rTy w l := by
 suffices g : ∃ r, (∃ w, r = (w, S) ∧ PArr 6 rTy w l) ∧ vrun E0 (.fn 56) [v] S = some r by
  obtain ⟨r, ⟨w, rfl, h2⟩, h3⟩ := g
  exact ⟨w, h3, h2⟩
 refine fn_wsP Tryz.func56 rfl ?_
 have h' := h
 obtain ⟨cs, h1, ⟨rfl, rfl⟩ | rfl⟩ := h'
 ·have e1 := fun b => is_nil_slN b 22 Tryz.underlying22
  repeat (first | refine WS.adm rfl ?_ | refine WS.region (by simp only [EV, TY, lget, e1, ↓reduceIte, Nat.reduceEqDiff]; with_reducible rfl) ?_)
  refine WS.ct0 ?_
  repeat (first | refine WS.adm rfl ?_ | refine WS.rl ?_)
  refine WS.ret1P (t := 2) rfl rfl (v := .slN) (v' := .slN) ?_ (List.prefix_refl _) rfl ⟨.slN, rfl, PArr.nil⟩
  simp only [EV, ↓reduceIte, Nat.reduceEqDiff, AT]
 ·have e1 := fun b => is_nil_slI b 22 l.length cs Tryz.underlying22
  obtain ⟨k1, k2, k3⟩ := Lst.mk0 (n0 := S.length) (T := S) ety_22 rTy (Nat.le_refl _)
  obtain ⟨v2, T2, k4, k5, k6⟩ := k2.app ety_22 k3.1 (PArr.arr h _) (by simp; omega) (by simp; omega)
  rw [List.nil_append] at k5
  obtain ⟨w, f1, f2⟩ := k5.done rTy.flat 5
  repeat (first | refine WS.adm rfl ?_ | refine WS.region (by simp only [EV, TY, lget, e1, ↓reduceIte, Nat.reduceEqDiff]; with_reducible rfl) ?_)
  refine WS.cf0 ?_
  repeat (first | refine WS.adm rfl ?_ | refine WS.region (by simp only [EV, TY, lget, k1, k4, ↓reduceIte, Nat.reduceEqDiff]; with_reducible rfl) ?_)
  refine WS.ret1P (t := 2) rfl rfl ?_ (k3.trans k6).pre f1 ⟨w, rfl, f2⟩
  simp only [EV, ↓reduceIte, Nat.reduceEqDiff, AT]
theorem CloneK_ok {S : Store} {v : V} {l : List (Cls)} (h : PArr 5 rCls v l) (hl : l.length ≤ 1048576) : ∃ w T, vrun E0 (.fn 57) [v] S = some (w, T) ∧ Lst S.length 121 5 rCls T w l ∧ Low S.length S T := by
 suffices g : ∃ r, (∃ w T, r = (w, T) ∧ Lst S.length 121 5 rCls T w l ∧ Low S.length S T) ∧ vrun E0 (.fn 57) [v] S = some r by
  obtain ⟨r, ⟨w, T, rfl, h2⟩, h3⟩ := g
  exact ⟨w, T, h3, h2⟩
 refine fn_wsP Tryz.func57 rfl ?_
 have h' := h
 obtain ⟨cs, h1, ⟨rfl, rfl⟩ | rfl⟩ := h'
 ·have e1 := fun b => is_nil_slN b 23 Tryz.underlying23
  repeat (first | refine WS.adm rfl ?_ | refine WS.region (by simp only [EV, TY, lget, e1, ↓reduceIte, Nat.reduceEqDiff]; with_reducible rfl) ?_)
  refine WS.ct0 ?_
  repeat (first | refine WS.adm rfl ?_ | refine WS.rl ?_)
  refine WS.ret1kP (t := 2) rfl rfl (v := .slN) ?_ ⟨.slN, S, rfl, Lst.nil _ _ _ _ _, Low.refl (Nat.le_refl _)⟩
  simp only [EV, ↓reduceIte, Nat.reduceEqDiff, AT]
 ·have e1 := fun b => is_nil_slI b 23 l.length cs Tryz.underlying23
  obtain ⟨k1, k2, k3⟩ := Lst.mk0 (n0 := S.length) (T := S) ety_23 rCls (Nat.le_refl _)
  obtain ⟨v2, T2, k4, k5, k6⟩ := k2.app ety_23 k3.1 (PArr.arr h _) (by simp; omega) (by simp; omega)
  rw [List.nil_append] at k5
  repeat (first | refine WS.adm rfl ?_ | refine WS.region (by simp only [EV, TY, lget, e1, ↓reduceIte, Nat.reduceEqDiff]; with_reducible rfl) ?_)
  refine WS.cf0 ?_
  repeat (first | refine WS.adm rfl ?_ | refine WS.region (by simp only [EV, TY, lget, k1, k4, ↓reduceIte, Nat.reduceEqDiff]; with_reducible rfl) ?_)
  refine WS.ret1kP (t := 2) rfl rfl ?_ ⟨v2, T2, rfl, k5, k3.trans k6⟩
  simp only [EV, ↓reduceIte, Nat.reduceEqDiff, AT]
theorem CloneS_ok {S : Store} {v : V} {l : List (List UInt8)} (h : PArr 1 rS v l) (hl : l.length ≤ 1048576) : ∃ w, vrun E0 (.fn 58) [v] S = some (w, S) ∧ PArr 1 rS w l := by
 suffices g : ∃ r, (∃ w, r = (w, S) ∧ PArr 1 rS w l) ∧ vrun E0 (.fn 58) [v] S = some r by
  obtain ⟨r, ⟨w, rfl, h2⟩, h3⟩ := g
  exact ⟨w, h3, h2⟩
 refine fn_wsP Tryz.func58 rfl ?_
 have h' := h
 obtain ⟨cs, h1, ⟨rfl, rfl⟩ | rfl⟩ := h'
 ·have e1 := fun b => is_nil_slN b 28 Tryz.underlying28
  repeat (first | refine WS.adm rfl ?_ | refine WS.region (by simp only [EV, TY, lget, e1, ↓reduceIte, Nat.reduceEqDiff]; with_reducible rfl) ?_)
  refine WS.ct0 ?_
  repeat (first | refine WS.adm rfl ?_ | refine WS.rl ?_)
  refine WS.ret1P (t := 2) rfl rfl (v := .slN) (v' := .slN) ?_ (List.prefix_refl _) rfl ⟨.slN, rfl, PArr.nil⟩
  simp only [EV, ↓reduceIte, Nat.reduceEqDiff, AT]
 ·have e1 := fun b => is_nil_slI b 28 l.length cs Tryz.underlying28
  obtain ⟨k1, k2, k3⟩ := Lst.mk0 (n0 := S.length) (T := S) ety_28 rS (Nat.le_refl _)
  obtain ⟨v2, T2, k4, k5, k6⟩ := k2.app ety_28 k3.1 (PArr.arr h _) (by simp; omega) (by simp; omega)
  rw [List.nil_append] at k5
  obtain ⟨w, f1, f2⟩ := k5.done rS.flat 5
  repeat (first | refine WS.adm rfl ?_ | refine WS.region (by simp only [EV, TY, lget, e1, ↓reduceIte, Nat.reduceEqDiff]; with_reducible rfl) ?_)
  refine WS.cf0 ?_
  repeat (first | refine WS.adm rfl ?_ | refine WS.region (by simp only [EV, TY, lget, k1, k4, ↓reduceIte, Nat.reduceEqDiff]; with_reducible rfl) ?_)
  refine WS.ret1P (t := 2) rfl rfl ?_ (k3.trans k6).pre f1 ⟨w, rfl, f2⟩
  simp only [EV, ↓reduceIte, Nat.reduceEqDiff, AT]
theorem fa73_1 (p o : Nat) : opFieldAddr E0 73 (.ref p o) 1 = some (.ref p o) := by kernel_rfl
theorem fa75_0 (p o : Nat) : opFieldAddr E0 75 (.ref p o) 0 = some (.ref p o) := by kernel_rfl
theorem fa77_1 (p o : Nat) : opFieldAddr E0 77 (.ref p o) 1 = some (.ref p o) := by kernel_rfl
theorem fa79_1 (p : Nat) : opFieldAddr E0 79 (.ref p 2) 1 = some (.ref p 2) := by kernel_rfl
theorem fa79_2 (p : Nat) : opFieldAddr E0 79 (.ref p 2) 2 = some (.ref p 3) := by kernel_rfl
theorem fa84_0 (p : Nat) : opFieldAddr E0 84 (.ref p 0) 0 = some (.ref p 0) := by kernel_rfl
theorem fa84_1 (p : Nat) : opFieldAddr E0 84 (.ref p 0) 1 = some (.ref p 2) := by kernel_rfl
theorem fa84_2 (p : Nat) : opFieldAddr E0 84 (.ref p 0) 2 = some (.ref p 5) := by kernel_rfl
theorem fa82_0 (p : Nat) : opFieldAddr E0 82 (.ref p 5) 0 = some (.ref p 5) := by kernel_rfl
theorem fa82_1 (p : Nat) : opFieldAddr E0 82 (.ref p 5) 1 = some (.ref p 6) := by kernel_rfl
theorem fa25_0 (p : Nat) : opFieldAddr E0 25 (.ref p 0) 0 = some (.ref p 0) := by kernel_rfl
theorem fa25_1 (p : Nat) : opFieldAddr E0 25 (.ref p 0) 1 = some (.ref p 1) := by kernel_rfl
theorem fa100_0 (p : Nat) : opFieldAddr E0 100 (.ref p 0) 0 = some (.ref p 0) := by kernel_rfl
theorem fa100_1 (p : Nat) : opFieldAddr E0 100 (.ref p 0) 1 = some (.ref p 1) := by kernel_rfl
theorem fa100_3 (p : Nat) : opFieldAddr E0 100 (.ref p 0) 3 = some (.ref p 3) := by kernel_rfl
theorem fa121_0 (p : Nat) : opFieldAddr E0 121 (.ref p 0) 0 = some (.ref p 0) := by kernel_rfl
theorem fa121_1 (p : Nat) : opFieldAddr E0 121 (.ref p 0) 1 = some (.ref p 1) := by kernel_rfl
theorem fa121_2 (p : Nat) : opFieldAddr E0 121 (.ref p 0) 2 = some (.ref p 2) := by kernel_rfl
theorem fa121_3 (p : Nat) : opFieldAddr E0 121 (.ref p 0) 3 = some (.ref p 3) := by kernel_rfl
theorem fa121_4 (p : Nat) : opFieldAddr E0 121 (.ref p 0) 4 = some (.ref p 4) := by kernel_rfl
theorem fa30_0 (p : Nat) : opFieldAddr E0 30 (.ref p 0) 0 = some (.ref p 0) := by kernel_rfl
theorem fa30_1 (p : Nat) : opFieldAddr E0 30 (.ref p 0) 1 = some (.ref p 1) := by kernel_rfl
theorem cellsAt_one {S : Store} {b o : Nat} {cs : List V} {e : TypeId} {x : V} (h : S[b]? = some (.cells cs e)) (hx : cs[o]? = some x) : cellsAt S (.ref b o) 1 = some [x] := by
 have ho : o < cs.length := (List.getElem?_eq_some_iff.1 hx).1
 have hd : cs.drop o = x :: cs.drop (o + 1) := by
  rw [List.drop_eq_getElem_cons ho]
  congr 1
  rw [List.getElem?_eq_getElem ho] at hx
  exact Option.some.inj hx
 have ho' : o + 1 ≤ cs.length := ho
 simp [cellsAt, cellsOf, h, tk, hd, ho']
 omega
theorem putAt_cell {S : Store} {b o : Nat} {cs : List V} {e : TypeId} {y : V} (h : S[b]? = some (.cells cs e)) (ho : o < cs.length) : putAt S (.ref b o) [y] = some (S.set b (.cells (cs.set o y) e)) := by
 unfold putAt
 simp only [cellsOf, h, Vm.elemOf, Option.bind_eq_bind, Option.bind_some, List.length_singleton]
 rw [if_pos (by omega)]
 simp [splice]
theorem at155 (c : CallT) {S : Store} {b o : Nat} {cs : List V} {e : TypeId} {x : Int} (h : S[b]? = some (.cells cs e)) (hx : cs[o]? = some (.int .u32 x)) :
  callV E0 c (.fn (.func 155) [] []) [.ref b o] S = some (.int .u32 x, S) := by
 have h1 : callV E0 c (.fn (.func 155) [] []) [.ref b o] S = externV E0 "sync/atomic.LoadUint32" [71] [.ref b o] S := by kernel_rfl
 rw [h1]
 unfold externV
 simp only [cellsAt_one h hx]
theorem at175 (c : CallT) {S : Store} {b o : Nat} {cs : List V} {e : TypeId} {x y : Int} (h : S[b]? = some (.cells cs e)) (hx : cs[o]? = some (.int .u32 x)) :
  callV E0 c (.fn (.func 175) [] []) [.ref b o, .int .u32 y] S = some (.tup [], S.set b (.cells (cs.set o (.int .u32 y)) e)) := by
 have h1 : callV E0 c (.fn (.func 175) [] []) [.ref b o, .int .u32 y] S = externV E0 "sync/atomic.StoreUint32" [] [.ref b o, .int .u32 y] S := by kernel_rfl
 rw [h1]
 unfold externV
 simp only [cellsAt_one h hx, putAt_cell h (List.getElem?_eq_some_iff.1 hx).1, Option.map_some]
theorem at184 (c : CallT) {S : Store} {b o : Nat} {cs : List V} {e : TypeId} (h : S[b]? = some (.cells cs e)) (hx : cs[o]? = some (.int .i32 0)) :
  callV E0 c (.fn (.func 184) [] []) [.ref b o, .int .i32 0, .int .i32 1] S = some (.bool true, S.set b (.cells (cs.set o (.int .i32 1)) e)) := by
 have h1 : callV E0 c (.fn (.func 184) [] []) [.ref b o, .int .i32 0, .int .i32 1] S = externV E0 "sync/atomic.CompareAndSwapInt32" [4] [.ref b o, .int .i32 0, .int .i32 1] S := by kernel_rfl
 rw [h1]
 unfold externV
 simp only [cellsAt_one h hx, putAt_cell h (List.getElem?_eq_some_iff.1 hx).1, Option.map_some, if_true]
theorem at189 (c : CallT) {S : Store} {b o : Nat} {cs : List V} {e : TypeId} (h : S[b]? = some (.cells cs e)) (hx : cs[o]? = some (.int .i32 1)) :
  callV E0 c (.fn (.func 189) [] []) [.ref b o, .int .i32 (-1)] S = some (.int .i32 0, S.set b (.cells (cs.set o (.int .i32 0)) e)) := by
 have h1 : callV E0 c (.fn (.func 189) [] []) [.ref b o, .int .i32 (-1)] S = externV E0 "sync/atomic.AddInt32" [21] [.ref b o, .int .i32 (-1)] S := by kernel_rfl
 have hw : IntKind.i32.wrap (1 + -1) = 0 := by decide
 rw [h1]
 unfold externV
 simp only [cellsAt_one h hx, putAt_cell h (List.getElem?_eq_some_iff.1 hx).1, Option.map_some, hw]
theorem at183 (c : CallT) (S : Store) : callV E0 c (.fn (.func 183) [] []) [] S = some (.tup [], S) := by
 have h1 : callV E0 c (.fn (.func 183) [] []) [] S = externV E0 "internal/race.Disable" [] [] S := by kernel_rfl
 rw [h1]; rfl
theorem at185 (c : CallT) (S : Store) : callV E0 c (.fn (.func 185) [] []) [] S = some (.tup [], S) := by
 have h1 : callV E0 c (.fn (.func 185) [] []) [] S = externV E0 "internal/race.Enable" [] [] S := by kernel_rfl
 rw [h1]; rfl
theorem at186 (c : CallT) (S : Store) (b o : Nat) : callV E0 c (.fn (.func 186) [] []) [.ref b o] S = some (.tup [], S) := by
 have h1 : callV E0 c (.fn (.func 186) [] []) [.ref b o] S = externV E0 "internal/race.Acquire" [] [.ref b o] S := by kernel_rfl
 rw [h1]; rfl
theorem at188 (c : CallT) (S : Store) (b o : Nat) : callV E0 c (.fn (.func 188) [] []) [.ref b o] S = some (.tup [], S) := by
 have h1 : callV E0 c (.fn (.func 188) [] []) [.ref b o] S = externV E0 "internal/race.ReleaseMerge" [] [.ref b o] S := by kernel_rfl
 rw [h1]; rfl
theorem cv227 {S : Store} {b o : Nat} {cs : List V} {e : TypeId} (h : S[b]? = some (.cells cs e)) (ho : o + 2 ≤ cs.length) : opConvert E0 S 227 211 (.ref b o) = some (.ref b o, S) := by
 have h1 : E0.P.underlying 227 = _ := Tryz.underlying227
 have h2 : E0.P.underlying 211 = _ := Tryz.underlying211
 unfold opConvert
 simp [h1, h2, tsize_75, cellsOf_of h]
 omega
theorem Load_ok {S : Store} {b o : Nat} {cs : List V} {e : TypeId} {x : Int} (h : S[b]? = some (.cells cs e)) (hx : cs[o]? = some (.int .u32 x)) : vrun E0 (.fn 133) [.ref b o] S = some (.bool (x != 0), S) := by
 refine fn_ws Tryz.func133 rfl ?_
 have e1 := fun c => at155 c h hx
 repeat (first | refine WS.adm rfl ?_ | refine WS.region (by simp only [EV, TY, lget, EV2, fa73_1, e1, ↓reduceIte, Nat.reduceEqDiff]; with_reducible rfl) ?_)
 refine WS.ret1s (t := 2) rfl rfl (List.prefix_refl _) (frz_bool _ _ _) ?_
 simp only [EV, ↓reduceIte, Nat.reduceEqDiff, AT]
theorem b32_ok (S : Store) : vrun E0 (.fn 176) [.bool true] S = some (.int .u32 1, S) := by
 refine fn_ws Tryz.func176 rfl ?_
 repeat (first | refine WS.adm rfl ?_ | refine WS.rl ?_)
 refine WS.ct0 ?_
 repeat (first | refine WS.adm rfl ?_ | refine WS.rl ?_)
 refine WS.ret1s (t := 2) rfl rfl (List.prefix_refl _) rfl ?_
 simp only [EV, ↓reduceIte, Nat.reduceEqDiff, AT]
theorem Store_ok {S : Store} {b o : Nat} {cs : List V} {e : TypeId} {x : Int} (h : S[b]? = some (.cells cs e)) (hx : cs[o]? = some (.int .u32 x)) : vrun E0 (.fn 158) [.ref b o, .bool true] S = some (.tup [], S.set b (.cells (cs.set o (.int .u32 1)) e)) := by
 refine fn_ws Tryz.func158 rfl ?_
 have e1 := fun c => at175 c (y := 1) h hx
 repeat refine WS.adm rfl ?_
 refine WS.draw (by simp only [DL, isEff, isRead, EV, TY, lget, EV2, fa73_1, callV_176, b32_ok, e1, ↓reduceIte, Nat.reduceEqDiff]; with_reducible rfl) ?_
 exact ends0 rfl rfl
theorem Lock1_ok {S : Store} {b o : Nat} {cs : List V} {e : TypeId} (h : S[b]? = some (.cells cs e)) (hx : cs[o]? = some (.int .i32 0)) (ho : o + 2 ≤ cs.length) : vrun E0 (.fn 173) [.ref b o] S = some (.tup [], S.set b (.cells (cs.set o (.int .i32 1)) e)) := by
 refine fn_ws Tryz.func173 rfl ?_
 have e1 := fun c => at184 c h hx
 have h' : (S.set b (.cells (cs.set o (.int .i32 1)) e))[b]? = some (.cells (cs.set o (.int .i32 1)) e) := List.getElem?_set_self (lt_of_get h)
 have cv := cv227 (o := o) h' (by simpa using ho)
 repeat (first | refine WS.adm rfl ?_ | refine WS.region (by simp only [EV, TY, lget, EV2, fa75_0, e1, at183, ↓reduceIte, Nat.reduceEqDiff]; with_reducible rfl) ?_)
 refine WS.ct0 ?_
 repeat refine WS.adm rfl ?_
 refine WS.ct0 ?_
 repeat (first | refine WS.adm rfl ?_ | refine WS.region (by simp only [EV, TY, lget, EV2, at185, cv, at186, ↓reduceIte, Nat.reduceEqDiff]; with_reducible rfl) ?_)
 exact WS.ret ⟨.inr rfl, [], rfl, rfl⟩
theorem Lock_ok {S : Store} {b o : Nat} {cs : List V} {e : TypeId} (h : S[b]? = some (.cells cs e)) (hx : cs[o]? = some (.int .i32 0)) (ho : o + 2 ≤ cs.length) : vrun E0 (.fn 156) [.ref b o] S = some (.tup [], S.set b (.cells (cs.set o (.int .i32 1)) e)) := by
 refine fn_ws Tryz.func156 rfl ?_
 repeat (first | refine WS.adm rfl ?_ | refine WS.region (by simp only [EV, TY, lget, EV2, fa77_1, callV_173, Lock1_ok h hx ho, ↓reduceIte, Nat.reduceEqDiff]; with_reducible rfl) ?_)
 exact ends0 rfl rfl
theorem Unlock1_ok {S : Store} {b o : Nat} {cs : List V} {e : TypeId} (h : S[b]? = some (.cells cs e)) (hx : cs[o]? = some (.int .i32 1)) (ho : o + 2 ≤ cs.length) : vrun E0 (.fn 174) [.ref b o] S = some (.tup [], S.set b (.cells (cs.set o (.int .i32 0)) e)) := by
 refine fn_ws Tryz.func174 rfl ?_
 have e1 := fun c => at189 c h hx
 have cv := cv227 (o := o) h ho
 have l1 : opLoad E0 S 21 (.ref b o) = some (.int .i32 1) := var_ld1 isAggO_21 h hx
 repeat refine WS.adm rfl ?_
 refine WS.ct0 ?_
 repeat (first | refine WS.adm rfl ?_ | refine WS.region (by simp only [EV, TY, lget, EV2, fa75_0, l1, cv, at188, at183, e1, ↓reduceIte, Nat.reduceEqDiff]; with_reducible rfl) ?_)
 refine WS.cond_false (by simp only [EV, (show ((0 : Int) != 0) = false from rfl), ↓reduceIte, Nat.reduceEqDiff]) ?_
 repeat (first | refine WS.adm rfl ?_ | refine WS.region (by simp only [EV, TY, lget, at185, ↓reduceIte, Nat.reduceEqDiff]; with_reducible rfl) ?_)
 exact ends0 rfl rfl
theorem Unlock_ok {S : Store} {b o : Nat} {cs : List V} {e : TypeId} (h : S[b]? = some (.cells cs e)) (hx : cs[o]? = some (.int .i32 1)) (ho : o + 2 ≤ cs.length) : vrun E0 (.fn 157) [.ref b o] S = some (.tup [], S.set b (.cells (cs.set o (.int .i32 0)) e)) := by
 refine fn_ws Tryz.func157 rfl ?_
 repeat (first | refine WS.adm rfl ?_ | refine WS.region (by simp only [EV, TY, lget, EV2, fa77_1, callV_174, Unlock1_ok h hx ho, ↓reduceIte, Nat.reduceEqDiff]; with_reducible rfl) ?_)
 exact ends0 rfl rfl
end Go.Proofs.YtmmjlgocihhkcaaGreatDoor
