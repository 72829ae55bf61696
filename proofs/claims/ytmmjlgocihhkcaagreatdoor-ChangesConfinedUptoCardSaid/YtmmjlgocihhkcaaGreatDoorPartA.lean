import Derived.Test.YtmmjlgocihhkcaaGreatDoorBase
import Derived.Test.YtmmjlgocihhkcaaGreatDoorVmF
set_option linter.all false
namespace Go.Proofs.YtmmjlgocihhkcaaGreatDoor
open Go Go.Vm
set_option maxRecDepth 100000
set_option maxHeartbeats 2000000
def smallB (c : UInt8) : UInt8 := if 65 ≤ c.toNat ∧ c.toNat ≤ 90 then c + 32 else c
def smallS (s : List UInt8) : List UInt8 := s.map smallB
theorem smallB_big {c : UInt8} (h1 : 65 ≤ c.toNat) (h2 : c.toNat ≤ 90) : (smallB c).toNat = c.toNat + 32 := by
 unfold smallB
 rw [if_pos ⟨h1, h2⟩, UInt8.toNat_add]
 simp
 omega
theorem small_step (s : List UInt8) (i : Nat) (h : i < s.length) : smallS (s.take (i + 1)) ++ s.drop (i + 1) = (smallS (s.take i) ++ s.drop i).set i (smallB (s.getD i 0)) := by
 have e : s.getD i 0 = s[i] := by simp [List.getD_eq_getElem?_getD, h]
 have hl : (smallS (s.take i)).length = i := by simp [smallS]; omega
 rw [e, List.set_append_right _ _ (by omega), hl, Nat.sub_self, List.drop_eq_getElem_cons h, List.set_cons_zero, List.take_succ_eq_append_getElem h]
 simp only [smallS, List.map_append, List.map_cons, List.map_nil, List.append_assoc, List.cons_append, List.nil_append]
theorem small_ok (s : List UInt8) (S : Store) (hs : s.length ≤ 1048576) : vrun E0 (.fn 114) [.str s] S = some (.str (smallS s), S) := by
 refine fn_ws Tryz.func114 rfl ?_
 have e1 := conv_bytes_9 S s (by omega)
 repeat (first | refine WS.adm rfl ?_ | refine WS.region (by simp only [EV, TY, lget, e1, ↓reduceIte, Nat.reduceEqDiff]; with_reducible rfl) ?_)
 refine WS.loop (fun j fr S' => ∃ i, i ≤ s.length ∧ j = s.length - i ∧ lget fr 10 = .int .i64 (i : Nat) ∧ lget fr 9 = .int .i64 s.length ∧ lget fr 8 = .slR S.length 0 s.length s.length 1 ∧ lget fr 3 = .slR S.length 0 s.length s.length 1 ∧
  S' = S ++ [.cells (bytesV (smallS (s.take i) ++ s.drop i)) 5]) (j := s.length) ?_ ?_
 ·refine ⟨0, by omega, by omega, ?_⟩
  simp only [EV, lget, smallS, List.take_zero, List.drop_zero, ↓reduceIte, Nat.reduceEqDiff, AT]
  simp
 ·rintro j fr S' ⟨i, hi, rfl, h10, h9, h8, h3, rfl⟩ ih
  repeat (first | refine WS.adm rfl ?_ | refine WS.region (by simp only [EV, TY, h10, h9, ↓reduceIte, Nat.reduceEqDiff]; with_reducible rfl) ?_)
  refine WS.cond (by simp only [EV, ↓reduceIte, Nat.reduceEqDiff]; with_reducible rfl) (fun ht => ?_) (fun ht => ?_)
  ·have hlt : i < s.length := by simpa using ht
   have hlen : (smallS (s.take i) ++ s.drop i).length = s.length := by simp [smallS]; omega
   have hget : (smallS (s.take i) ++ s.drop i).getD i 0 = s.getD i 0 := by
    simp [smallS, List.getD_eq_getElem?_getD, List.getElem?_append, Nat.min_eq_left (Nat.le_of_lt hlt)]
   have hS : (S ++ [Ob.cells (bytesV (smallS (s.take i) ++ s.drop i)) 5])[S.length]? = some (.cells (bytesV (smallS (s.take i) ++ s.drop i)) 5) := getS0 _
   have e2 := ld_ref_5 (S ++ [Ob.cells (bytesV (smallS (s.take i) ++ s.drop i)) 5]) S.length (0 + i * 1)
   rw [cellsOf_of hS] at e2
   simp only [Option.bind_some, Nat.zero_add, Nat.mul_one, bytesV_get _ i (by rw [hlen]; exact hlt), hget] at e2
   have e3 := ia_slR_140 S.length 0 s.length s.length .i64 i hlt
   simp only [Nat.zero_add, Nat.mul_one] at e3
   have hsm := small_step s i hlt
   generalize hc : s.getD i 0 = c at e2 hsm
   have fin : ∀ (fr' : Fr), lget fr' 10 = .int .i64 ((i + 1 : Nat)) → lget fr' 9 = .int .i64 s.length → lget fr' 8 = .slR S.length 0 s.length s.length 1 → lget fr' 3 = .slR S.length 0 s.length s.length 1 →
     WS E0 _ fr' (S ++ [.cells (bytesV (smallS (s.take (i + 1)) ++ s.drop (i + 1))) 5]) _ := fun fr' a1 a2 a3 a4 => ih (s.length - (i + 1)) _ _ (by omega) ⟨i + 1, by omega, rfl, a1, a2, a3, a4, rfl⟩
   have same : ¬ (65 ≤ c.toNat ∧ c.toNat ≤ 90) → smallS (s.take (i + 1)) ++ s.drop (i + 1) = smallS (s.take i) ++ s.drop i := by
    intro h
    rw [hsm, smallB, if_neg h, ← hc, ← hget]
    apply List.ext_getElem?
    intro q
    rw [List.getElem?_set]
    split
    ·rename_i e
     subst e
     simp [hlen, hlt, List.getD_eq_getElem?_getD, List.getElem?_eq_getElem (show i < (smallS (s.take i) ++ s.drop i).length by omega)]
    ·rfl
   repeat (first | refine WS.adm rfl ?_ | refine WS.region (by simp only [EV, TY, h10, h8, e2, e3, ↓reduceIte, Nat.reduceEqDiff]; with_reducible rfl) ?_)
   by_cases h1 : (65 : Int) ≤ (c.toNat : Int)
   ·by_cases h2 : (c.toNat : Int) ≤ 90
    ·repeat (first | refine WS.adm rfl ?_ | refine WS.region (by simp only [EV, TY, h1, h2, ↓reduceIte, Nat.reduceEqDiff]; with_reducible rfl) ?_)
     refine WS.ct0 ?_
     have e4 : opStore E0 (S ++ [Ob.cells (bytesV (smallS (s.take i) ++ s.drop i)) 5]) 5 (.ref S.length i) (.int .u8 (IntKind.u8.wrap (IntKind.u8.wrap ((c.toNat : Int) + 97) - 65))) = some (S ++ [Ob.cells (bytesV (smallS (s.take (i + 1)) ++ s.drop (i + 1))) 5]) := by
      have : IntKind.u8.wrap (IntKind.u8.wrap ((c.toNat : Int) + 97) - 65) = ((smallB c).toNat : Int) := by
       rw [wrap_u8, wrap_u8]
       have := smallB_big (c := c) (by omega) (by omega)
       omega
      rw [this, st_one tsize_5 _ _ _ rfl (by simp), putAt_one hS (by rw [bytesV_length, hlen]; exact hlt), bytesV_set, hsm, setS0]
      rfl
     repeat (first | refine WS.adm rfl ?_ | refine WS.region (by simp only [EV, TY, h3, e3, e4, h10, wrap_inc i (by omega), ↓reduceIte, Nat.reduceEqDiff]; with_reducible rfl) ?_)
     apply fin
     all_goals
      simp only [EV, h9, h8, h3, ↓reduceIte, Nat.reduceEqDiff, AT]
    ·repeat (first | refine WS.adm rfl ?_ | refine WS.region (by simp only [EV, TY, h1, h2, ↓reduceIte, Nat.reduceEqDiff]; with_reducible rfl) ?_)
     refine WS.cf0 ?_
     rw [same (by omega)] at fin
     repeat (first | refine WS.adm rfl ?_ | refine WS.region (by simp only [EV, TY, h3, e3, h10, wrap_inc i (by omega), ↓reduceIte, Nat.reduceEqDiff]; with_reducible rfl) ?_)
     apply fin
     all_goals
      simp only [EV, h9, h8, h3, ↓reduceIte, Nat.reduceEqDiff, AT]
   ·repeat (first | refine WS.adm rfl ?_ | refine WS.region (by simp only [EV, TY, h1, ↓reduceIte, Nat.reduceEqDiff]; with_reducible rfl) ?_)
    refine WS.cf0 ?_
    rw [same (by omega)] at fin
    repeat (first | refine WS.adm rfl ?_ | refine WS.region (by simp only [EV, TY, h3, e3, h10, wrap_inc i (by omega), ↓reduceIte, Nat.reduceEqDiff]; with_reducible rfl) ?_)
    apply fin
    all_goals
     simp only [EV, h9, h8, h3, ↓reduceIte, Nat.reduceEqDiff, AT]
  ·repeat refine WS.adm rfl ?_
   have : i = s.length := by simp at ht; omega
   subst this
   rw [List.take_length, List.drop_length, List.append_nil]
   have e5 : opConvert E0 (S ++ [Ob.cells (bytesV (smallS s)) 5]) 140 9 (.slR S.length 0 s.length s.length 1) = some (.str (smallS s), S ++ [Ob.cells (bytesV (smallS s)) 5]) := by
    have := conv_str (E := E0) Tryz.underlying140 Tryz.underlying9 Tryz.underlying5 (S := S ++ [Ob.cells (bytesV (smallS s)) 5]) (id := S.length) (cap := s.length) (s := smallS s) (r := []) (w := 5) (by simp)
    simpa [smallS] using this
   repeat (first | refine WS.adm rfl ?_ | refine WS.region (by simp only [EV, TY, h3, e5, ↓reduceIte, Nat.reduceEqDiff]; with_reducible rfl) ?_)
   refine WS.ret1 (t := 2) rfl rfl ?_ (List.prefix_append _ _) (frz_str _ _ _)
   simp only [EV, ↓reduceIte, Nat.reduceEqDiff, AT]
theorem callV_171 (c : CallT) (s : List UInt8) (b : UInt8) (S : Store) : callV E0 c (.fn (.func 171) [] []) [.str s, .int .u8 b.toNat] S = some (.int .i64 (idxInt (s.findIdx? (· == b))), S) := by
 have h : callV E0 c (.fn (.func 171) [] []) [.str s, .int .u8 b.toNat] S = some (.int .i64 (idxInt (s.findIdx? (· == UInt8.ofNat (b.toNat : Int).toNat))), S) := by kernel_rfl
 rw [h]
 simp
theorem IndexByte'_ok (s : List UInt8) (b : UInt8) (S : Store) : vrun E0 (.fn 153) [.str s, .int .u8 b.toNat] S = some (.int .i64 (idxInt (s.findIdx? (· == b))), S) := by
 refine fn_ws Tryz.func153 rfl ?_
 repeat (first | refine WS.adm rfl ?_ | refine WS.region (by simp only [EV, TY, lget, callV_171, ↓reduceIte, Nat.reduceEqDiff]; with_reducible rfl) ?_)
 refine WS.ret1 (t := 4) rfl rfl ?_ (List.prefix_refl _) (frz_int _ _ _ _)
 simp only [EV, ↓reduceIte, Nat.reduceEqDiff, AT]
theorem IndexByte_ok (s : List UInt8) (b : UInt8) (S : Store) : vrun E0 (.fn 131) [.str s, .int .u8 b.toNat] S = some (.int .i64 (idxInt (s.findIdx? (· == b))), S) := by
 refine fn_ws Tryz.func131 rfl ?_
 repeat (first | refine WS.adm rfl ?_ | refine WS.region (by simp only [EV, TY, lget, callV_153, IndexByte'_ok, ↓reduceIte, Nat.reduceEqDiff]; with_reducible rfl) ?_)
 refine WS.ret1 (t := 4) rfl rfl ?_ (List.prefix_refl _) (frz_int _ _ _ _)
 simp only [EV, ↓reduceIte, Nat.reduceEqDiff, AT]
def letterZ (c : Int) : Bool := decide (97 ≤ c ∧ c ≤ 122 ∨ 65 ≤ c ∧ c ≤ 90)
def digitZ (c : Int) : Bool := decide (48 ≤ c ∧ c ≤ 57)
theorem letter_ok (c : Int) (S : Store) : vrun E0 (.fn 101) [.int .i32 c] S = some (.bool (letterZ c), S) := by
 refine fn_ws Tryz.func101 rfl ?_
 by_cases h1 : 97 ≤ c <;> by_cases h2 : c ≤ 122 <;> by_cases h3 : 65 ≤ c <;> by_cases h4 : c ≤ 90
 all_goals
  repeat (first | refine WS.adm rfl ?_ | refine WS.region (by simp only [EV, TY, lget, h1, h2, h3, h4, ↓reduceIte, Nat.reduceEqDiff]; with_reducible rfl) ?_)
  refine WS.ret1 (t := 2) rfl rfl ?_ (List.prefix_refl _) (frz_bool _ _ _)
  simp only [EV, ↓reduceIte, Nat.reduceEqDiff, AT]
  simp [letterZ, h1, h2, h3, h4]
theorem Letter_ok (c : Int) (S : Store) : vrun E0 (.fn 144) [.int .u8 c] S = some (.bool (letterZ c), S) := by
 refine fn_ws Tryz.func144 rfl ?_
 by_cases h1 : 97 ≤ c <;> by_cases h2 : c ≤ 122 <;> by_cases h3 : 65 ≤ c <;> by_cases h4 : c ≤ 90
 all_goals
  repeat (first | refine WS.adm rfl ?_ | refine WS.region (by simp only [EV, TY, lget, h1, h2, h3, h4, ↓reduceIte, Nat.reduceEqDiff]; with_reducible rfl) ?_)
  refine WS.ret1 (t := 2) rfl rfl ?_ (List.prefix_refl _) (frz_bool _ _ _)
  simp only [EV, ↓reduceIte, Nat.reduceEqDiff, AT]
  simp [letterZ, h1, h2, h3, h4]
theorem Digit_ok (c : Int) (S : Store) : vrun E0 (.fn 145) [.int .u8 c] S = some (.bool (digitZ c), S) := by
 refine fn_ws Tryz.func145 rfl ?_
 by_cases h1 : 48 ≤ c <;> by_cases h2 : c ≤ 57
 all_goals
  repeat (first | refine WS.adm rfl ?_ | refine WS.region (by simp only [EV, TY, lget, h1, h2, ↓reduceIte, Nat.reduceEqDiff]; with_reducible rfl) ?_)
  refine WS.ret1 (t := 2) rfl rfl ?_ (List.prefix_refl _) (frz_bool _ _ _)
  simp only [EV, ↓reduceIte, Nat.reduceEqDiff, AT]
  simp [digitZ, h1, h2]
def signZ (c : Int) : Bool := c == 34 || c == 43 || c == 44 || c == 59 || c == 60 || c == 62 || c == 92
theorem signs_ok (c : Int) (S : Store) : vrun E0 (.fn 163) [.int .u8 c] S = some (.bool (signZ c), S) := by
 refine fn_ws Tryz.func163 rfl ?_
 have go : ∀ b1 b2 b3 b4 b5 b6 b7 : Bool, (c == 34) = b1 → (c == 43) = b2 → (c == 44) = b3 → (c == 59) = b4 → (c == 60) = b5 → (c == 62) = b6 → (c == 92) = b7 → WS E0 [.code (Tryz.f163.body.get rfl)] [.int .u8 c] S (FnEnds E0 163 Tryz.f163 S (.bool (signZ c), S)) := by
  intro b1 b2 b3 b4 b5 b6 b7 h1 h2 h3 h4 h5 h6 h7
  have hz : signZ c = (b1 || b2 || b3 || b4 || b5 || b6 || b7) := by simp [signZ, h1, h2, h3, h4, h5, h6, h7]
  rw [hz]
  have fin : ∀ fr : Fr, lget fr 2 = .bool (b1 || b2 || b3 || b4 || b5 || b6 || b7) → WS E0 [.code .ret] fr S (FnEnds E0 163 Tryz.f163 S (.bool (b1 || b2 || b3 || b4 || b5 || b6 || b7), S)) := fun fr h => WS.ret1 (t := 2) rfl rfl h (List.prefix_refl _) (frz_bool _ _ _)
  show WS E0 [.code _] _ _ _
  cases b1
  ·cases b2
   ·cases b3
    ·cases b4
     ·cases b5
      ·cases b6
       ·repeat (first | refine WS.adm rfl ?_ | refine WS.region (by simp only [EV, TY, lget, h1, h2, h3, h4, h5, h6, h7, ↓reduceIte, Nat.reduceEqDiff]; with_reducible rfl) ?_)
        apply fin
        simp only [EV, ↓reduceIte, Nat.reduceEqDiff, AT]
        rfl
       ·repeat (first | refine WS.adm rfl ?_ | refine WS.region (by simp only [EV, TY, lget, h1, h2, h3, h4, h5, h6, h7, ↓reduceIte, Nat.reduceEqDiff]; with_reducible rfl) ?_)
        apply fin
        simp only [EV, ↓reduceIte, Nat.reduceEqDiff, AT]
        rfl
      ·repeat (first | refine WS.adm rfl ?_ | refine WS.region (by simp only [EV, TY, lget, h1, h2, h3, h4, h5, h6, h7, ↓reduceIte, Nat.reduceEqDiff]; with_reducible rfl) ?_)
       apply fin
       simp only [EV, ↓reduceIte, Nat.reduceEqDiff, AT]
       rfl
     ·repeat (first | refine WS.adm rfl ?_ | refine WS.region (by simp only [EV, TY, lget, h1, h2, h3, h4, h5, h6, h7, ↓reduceIte, Nat.reduceEqDiff]; with_reducible rfl) ?_)
      apply fin
      simp only [EV, ↓reduceIte, Nat.reduceEqDiff, AT]
      rfl
    ·repeat (first | refine WS.adm rfl ?_ | refine WS.region (by simp only [EV, TY, lget, h1, h2, h3, h4, h5, h6, h7, ↓reduceIte, Nat.reduceEqDiff]; with_reducible rfl) ?_)
     apply fin
     simp only [EV, ↓reduceIte, Nat.reduceEqDiff, AT]
     rfl
   ·repeat (first | refine WS.adm rfl ?_ | refine WS.region (by simp only [EV, TY, lget, h1, h2, h3, h4, h5, h6, h7, ↓reduceIte, Nat.reduceEqDiff]; with_reducible rfl) ?_)
    apply fin
    simp only [EV, ↓reduceIte, Nat.reduceEqDiff, AT]
    rfl
  ·repeat (first | refine WS.adm rfl ?_ | refine WS.region (by simp only [EV, TY, lget, h1, h2, h3, h4, h5, h6, h7, ↓reduceIte, Nat.reduceEqDiff]; with_reducible rfl) ?_)
   apply fin
   simp only [EV, ↓reduceIte, Nat.reduceEqDiff, AT]
   rfl
 exact go _ _ _ _ _ _ _ rfl rfl rfl rfl rfl rfl rfl
theorem smallS_succ (s : List UInt8) (i : Nat) (h : i < s.length) : smallS (s.take (i + 1)) = smallS (s.take i) ++ [smallB (s.getD i 0)] := by
 have e : s.getD i 0 = s[i] := by simp [List.getD_eq_getElem?_getD, h]
 rw [e, List.take_succ_eq_append_getElem h]
 simp only [smallS, List.map_append, List.map_cons, List.map_nil]
theorem Small_ok (s : List UInt8) (S : Store) (hs : s.length ≤ 1048576) : vrun E0 (.fn 42) [.str s] S = some (.str (smallS s), S) := by
 refine fn_ws Tryz.func42 rfl ?_
 repeat (first | refine WS.adm rfl ?_ | refine WS.rl ?_)
 refine WS.loop (fun j fr S' => ∃ i v, i ≤ s.length ∧ j = s.length - i ∧ lget fr 0 = .str s ∧ lget fr 4 = .int .i64 (i : Nat) ∧ lget fr 3 = v ∧ Buf 5 S.length S' v (smallS (s.take i)) ∧ Low S.length S S') (j := s.length) ?_ ?_
 ·refine ⟨0, .slN, by omega, by omega, ?_, ?_, ?_, Buf.new _ _ _, Low.refl (Nat.le_refl _)⟩
  all_goals
   simp only [EV, lget, ↓reduceIte, Nat.reduceEqDiff, AT]
  rfl
 ·rintro j fr S' ⟨i, v, hi, rfl, h0, h4, h3, hb, hl⟩ ih
  repeat (first | refine WS.adm rfl ?_ | refine WS.region (by simp only [EV, TY, h0, h4, ↓reduceIte, Nat.reduceEqDiff]; with_reducible rfl) ?_)
  refine WS.cond (by simp only [EV, ↓reduceIte, Nat.reduceEqDiff]; with_reducible rfl) (fun ht => ?_) (fun ht => ?_)
  ·have hlt : i < s.length := by simpa using ht
   have e1 := idx_str_9 s .i64 i hlt
   repeat (first | refine WS.adm rfl ?_ | refine WS.region (by simp only [EV, TY, h0, h4, e1, ↓reduceIte, Nat.reduceEqDiff]; with_reducible rfl) ?_)
   generalize hc : s.getD i 0 = c
   have hsm := smallS_succ s i hlt
   rw [hc] at hsm
   have hlen : (smallS (s.take i)).length ≤ 1048576 := by simp [smallS]; omega
   have fin : ∀ (fr' : Fr) (S2 : Store) (w : V), lget fr' 0 = .str s → lget fr' 4 = .int .i64 ((i + 1 : Nat)) → lget fr' 3 = w → Buf 5 S.length S2 w (smallS (s.take (i + 1))) → Low S.length S S2 →
     WS E0 _ fr' S2 _ := fun fr' S2 w a1 a2 a3 a4 a5 => ih (s.length - (i + 1)) _ _ (by omega) ⟨i + 1, w, by omega, rfl, a1, a2, a3, a4, a5⟩
   obtain ⟨w, S2, f1, f2, f3⟩ := hb.app1 bt50 hl.1 (smallB c) (by omega)
   rw [← hsm] at f2
   by_cases h1 : (65 : Int) ≤ (c.toNat : Int)
   ·by_cases h2 : (c.toNat : Int) ≤ 90
    ·repeat (first | refine WS.adm rfl ?_ | refine WS.region (by simp only [EV, TY, h1, h2, ↓reduceIte, Nat.reduceEqDiff]; with_reducible rfl) ?_)
     refine WS.ct0 ?_
     have e2 : IntKind.u8.wrap ((c.toNat : Int) + 32) = ((smallB c).toNat : Int) := by
      rw [wrap_u8]
      have := smallB_big (c := c) (by omega) (by omega)
      omega
     repeat (first | refine WS.adm rfl ?_ | refine WS.region (by simp only [EV, TY, h3, h4, e2, mk1_ bt50, f1, wrap_inc i (by omega), ↓reduceIte, Nat.reduceEqDiff]; with_reducible rfl) ?_)
     refine fin _ _ w ?_ ?_ ?_ f2 (hl.trans f3)
     all_goals
      simp only [EV, h0, ↓reduceIte, Nat.reduceEqDiff, AT]
    ·repeat (first | refine WS.adm rfl ?_ | refine WS.region (by simp only [EV, TY, h1, h2, ↓reduceIte, Nat.reduceEqDiff]; with_reducible rfl) ?_)
     refine WS.cf0 ?_
     have e2 : smallB c = c := if_neg (by omega)
     rw [e2] at f1
     repeat (first | refine WS.adm rfl ?_ | refine WS.region (by simp only [EV, TY, h3, h4, mk1_ bt50, f1, wrap_inc i (by omega), ↓reduceIte, Nat.reduceEqDiff]; with_reducible rfl) ?_)
     refine fin _ _ w ?_ ?_ ?_ f2 (hl.trans f3)
     all_goals
      simp only [EV, h0, ↓reduceIte, Nat.reduceEqDiff, AT]
   ·repeat (first | refine WS.adm rfl ?_ | refine WS.region (by simp only [EV, TY, h1, ↓reduceIte, Nat.reduceEqDiff]; with_reducible rfl) ?_)
    refine WS.cf0 ?_
    have e2 : smallB c = c := if_neg (by omega)
    rw [e2] at f1
    repeat (first | refine WS.adm rfl ?_ | refine WS.region (by simp only [EV, TY, h3, h4, mk1_ bt50, f1, wrap_inc i (by omega), ↓reduceIte, Nat.reduceEqDiff]; with_reducible rfl) ?_)
    refine fin _ _ w ?_ ?_ ?_ f2 (hl.trans f3)
    all_goals
     simp only [EV, h0, ↓reduceIte, Nat.reduceEqDiff, AT]
  ·repeat refine WS.adm rfl ?_
   have : i = s.length := by simp at ht; omega
   subst this
   rw [List.take_length] at hb
   have e5 := hb.conv bt50 Tryz.underlying9
   repeat (first | refine WS.adm rfl ?_ | refine WS.region (by simp only [EV, TY, h3, e5, ↓reduceIte, Nat.reduceEqDiff]; with_reducible rfl) ?_)
   refine WS.ret1s (t := 2) rfl rfl hl.pre (frz_str _ _ _) ?_
   simp only [EV, ↓reduceIte, Nat.reduceEqDiff, AT]
set_option maxHeartbeats 4000000
abbrev Ava := List UInt8 × List UInt8
def avaC (a : Ava) : List V := [.str a.1, .str a.2]
def isRdn (S : Store) (v : V) (r : List Ava) : Prop := Sl S 2 v r.length (r.flatMap avaC)
def isDn (S : Store) (v : V) (n : List (List Ava)) : Prop := ∃ cs, Sl S 1 v n.length cs ∧ ∀ i, i < n.length → ∃ c, cs[i]? = some c ∧ isRdn S c (n.getD i [])
theorem isRdn.more {S : Store} {v : V} {r : List Ava} (h : isRdn S v r) (l : Store) : isRdn (S ++ l) v r := Sl.more h l
theorem isDn.more {S : Store} {v : V} {n : List (List Ava)} (h : isDn S v n) (l : Store) : isDn (S ++ l) v n := by
 obtain ⟨cs, h1, h2⟩ := h
 refine ⟨cs, h1.more l, fun i hi => ?_⟩
 obtain ⟨c, h3, h4⟩ := h2 i hi
 exact ⟨c, h3, h4.more l⟩
theorem isRdn.len {S : Store} {v : V} {r : List Ava} (h : isRdn S v r) : opLen E0 S 98 v = some (.int .i64 (r.length : Nat)) := Sl.len h Tryz.underlying98
theorem isDn.len {S : Store} {v : V} {n : List (List Ava)} (h : isDn S v n) : opLen E0 S 27 v = some (.int .i64 (n.length : Nat)) := by
 obtain ⟨cs, h1, h2⟩ := h
 exact h1.len Tryz.underlying27
theorem isDn.at_ {S : Store} {v : V} {n : List (List Ava)} (h : isDn S v n) (i : Nat) (hi : i < n.length) : ∃ a c, opIndexAddr E0 27 v (.int .i64 (i : Int)) = some a ∧ opLoad E0 S 98 a = some c ∧ isRdn S c (n.getD i []) := by
 obtain ⟨cs, h1, h2⟩ := h
 obtain ⟨c, h3, h4⟩ := h2 i hi
 obtain ⟨a, r, h5, h6⟩ := h1.at_ (E := E0) Tryz.underlying27 tsize_98 .i64 i hi
 refine ⟨a, c, h5, ?_, h4⟩
 have hlt := (List.getElem?_eq_some_iff.1 h3).1
 have hc : cs.drop (i * 1) ++ r = c :: (cs.drop (i + 1) ++ r) := by
  rw [Nat.mul_one, List.drop_eq_getElem_cons hlt, (List.getElem?_eq_some_iff.1 h3).2]
  rfl
 exact h6.load isAggO_98 hc
theorem flat_drop : ∀ (r : List Ava) (i : Nat), i < r.length → (r.flatMap avaC).drop (i * 2) = .str (r.getD i ([], [])).1 :: .str (r.getD i ([], [])).2 :: (r.flatMap avaC).drop (i * 2 + 2)
 | [], i, h => by simp at h
 | a :: r, 0, h => by simp [avaC]
 | a :: r, i + 1, h => by
  have := flat_drop r i (by simpa using h)
  have e : (i + 1) * 2 = i * 2 + 2 := by omega
  simp only [List.flatMap_cons, avaC, e, List.getD_cons_succ]
  rw [show ([V.str a.1, V.str a.2] ++ r.flatMap avaC).drop (i * 2 + 2) = (r.flatMap avaC).drop (i * 2) from by simp, show ([V.str a.1, V.str a.2] ++ r.flatMap avaC).drop (i * 2 + 2 + 2) = (r.flatMap avaC).drop (i * 2 + 2) from by simp]
  exact this
theorem isRdn.at_ {S : Store} {v : V} {r : List Ava} (h : isRdn S v r) (i : Nat) (hi : i < r.length) : ∃ a, opIndexAddr E0 98 v (.int .i64 (i : Int)) = some a ∧ ∃ q, At S a (.str (r.getD i ([], [])).1 :: .str (r.getD i ([], [])).2 :: q) := by
 obtain ⟨a, q, h5, h6⟩ := Sl.at_ (E := E0) h Tryz.underlying98 tsize_96 .i64 i hi
 rw [flat_drop r i hi] at h6
 exact ⟨a, h5, _, h6⟩
theorem ava_type {S : Store} {a : V} {x y : List UInt8} {q : List V} (h : At S a (.str x :: .str y :: q)) : ∃ a', opFieldAddr E0 96 a 0 = some a' ∧ opLoad E0 S 9 a' = some (.str x) := by
 obtain ⟨a', h1, h2⟩ := h.field (E := E0) (s := 96) (f := 0) (m := 0) Tryz.underlying96 rfl tsize_9
 exact ⟨a', h1, h2.load isAggO_9 rfl⟩
theorem ava_value {S : Store} {a : V} {x y : List UInt8} {q : List V} (h : At S a (.str x :: .str y :: q)) : ∃ a', opFieldAddr E0 96 a 1 = some a' ∧ opLoad E0 S 9 a' = some (.str y) := by
 obtain ⟨a', h1, h2⟩ := h.field (E := E0) (s := 96) (f := 1) (m := 0) Tryz.underlying96 rfl tsize_9
 exact ⟨a', h1, h2.load isAggO_9 rfl⟩
theorem ava_load {S : Store} {a : V} {x y : List UInt8} {q : List V} (h : At S a (.str x :: .str y :: q)) : opLoad E0 S 96 a = some (.agg [.str x, .str y]) := h.loadA isAggO_96 tsize_96 (by simp)
theorem ava_neq (l : Bool) (x y u w : List UInt8) : opBin E0 l .neq 96 (.agg [.str x, .str y]) (.agg [.str u, .str w]) = some (.bool (!((x == u) && (y == w)))) := by
 have hq : eqOk E0 l 96 (.agg [.str x, .str y]) (.agg [.str u, .str w]) = true := by
  show (!(E0.P.eqGuardType E0.P.depth 96)) = true
  kernel_rfl
 have hs : E0.P.stoodInHeld 96 = false := by kernel_rfl
 have h9 : ∀ a b : List UInt8, vEq E0 99 9 (.str a) (.str b) = some (a == b) := fun a b => by
  have hu : E0.P.underlying 9 = _ := Tryz.underlying9
  rw [vEq]
  simp only [hu]
 have hv : vEq E0 100 96 (.agg [.str x, .str y]) (.agg [.str u, .str w]) = some ((x == u) && (y == w)) := by
  have hu : E0.P.underlying 96 = _ := Tryz.underlying96
  rw [vEq.eq_def]
  simp only [hu, hs, Bool.false_eq_true, if_false]
  simp only [vEqs, partV, isAggO_9, Option.bind_eq_bind, Option.bind_some, Bool.false_eq_true, if_false, List.getElem?_cons_zero, List.getElem?_cons_succ, h9]
  cases hx : (x == u) <;> cases hy : (y == w) <;> simp
 unfold opBin
 simp only [hq, if_true, hv]
 rfl
def okA (a : Ava) : Prop := a.1.length ≤ 1048576 ∧ a.2.length ≤ 1048576
def okR (r : List Ava) : Prop := r.length ≤ 1048576 ∧ ∀ a ∈ r, okA a
def okN (n : List (List Ava)) : Prop := n.length ≤ 1048576 ∧ ∀ r ∈ n, okR r
theorem okN.at_ {n : List (List Ava)} (h : okN n) (i : Nat) (hi : i < n.length) : okR (n.getD i []) := by
 have e : n.getD i [] = n[i] := by simp [List.getD, hi]
 rw [e]
 exact h.2 _ (List.getElem_mem hi)
theorem okR.at_ {r : List Ava} (h : okR r) (i : Nat) (hi : i < r.length) : okA (r.getD i ([], [])) := by
 have e : r.getD i ([], []) = r[i] := by simp [List.getD, hi]
 rw [e]
 exact h.2 _ (List.getElem_mem hi)
theorem ext_getD {α : Type} {a b : List α} (d : α) (hl : a.length = b.length) (h : ∀ k, k < a.length → a.getD k d = b.getD k d) : a = b := by
 apply List.ext_getElem hl
 intro i h1 h2
 have := h i h1
 simpa [List.getD, h1, h2] using this
theorem ne_getD {α : Type} {a b : List α} (d : α) (k : Nat) (h : a.getD k d ≠ b.getD k d) : a ≠ b := fun e => h (by rw [e])
theorem One_ok {S : Store} {v w : V} {a b : List (List Ava)} (ha : isDn S v a) (hb : isDn S w b) (oa : okN a) (ob : okN b) : vrun E0 (.fn 38) [v, w] S = some (.bool (decide (a = b)), S) := by
 refine fn_ws Tryz.func38 rfl ?_
 have la := ha.len
 have lb := hb.len
 by_cases hl : a.length = b.length
 ·have hne : (((a.length : Nat) : Int) != ((b.length : Nat) : Int)) = false := by simp [hl]
  repeat (first | refine WS.adm rfl ?_ | refine WS.region (by simp only [EV, TY, lget, la, lb, hne, ↓reduceIte, Nat.reduceEqDiff]; with_reducible rfl) ?_)
  refine WS.cond_false (by simp only [EV, lget, ↓reduceIte, Nat.reduceEqDiff]) ?_
  repeat (first | refine WS.adm rfl ?_ | refine WS.region (by simp only [EV, TY, lget, la, lb, ↓reduceIte, Nat.reduceEqDiff]; with_reducible rfl) ?_)
  refine WS.loopB (fun j fr S' => ∃ i, j = a.length - i ∧ i ≤ a.length ∧ lget fr 0 = v ∧ lget fr 1 = w ∧ lget fr 5 = .int .i64 (i : Int) ∧ S = S' ∧ ∀ k, k < i → a.getD k [] = b.getD k [])
   (fun fr S' => S = S' ∧ ∀ k, k < a.length → a.getD k [] = b.getD k []) (j := a.length) ?_ ?_ ?_
  ·refine ⟨0, by omega, by omega, ?_, ?_, ?_, rfl, fun k hk => by omega⟩
   all_goals
    simp only [EV, lget, ↓reduceIte, Nat.reduceEqDiff, AT]
    try rfl
  ·rintro fr S' ⟨rfl, hall⟩
   repeat (first | refine WS.adm rfl ?_ | refine WS.rl ?_)
   refine WS.ret1s (t := 4) rfl rfl (List.prefix_refl _) (frz_bool _ _ _) ?_
   have := ext_getD [] hl hall
   simp only [EV, lget, ↓reduceIte, Nat.reduceEqDiff, AT]
   simp [this]
  ·rintro j fr S' ⟨i, rfl, hi, h0, h1, h5, hSS, hall⟩ ih last
   subst hSS
   by_cases hlt : i < a.length
   ·obtain ⟨pa, ca, ia1, ia2, ia3⟩ := ha.at_ i hlt
    obtain ⟨pb, cb, ib1, ib2, ib3⟩ := hb.at_ i (by omega)
    have okra := oa.at_ i hlt
    have okrb := ob.at_ i (by omega)
    have bad : a.getD i [] ≠ b.getD i [] → a ≠ b := ne_getD [] i
    have lra := ia3.len
    have lrb := ib3.len
    generalize hra : a.getD i [] = ra at ia3 okra bad lra
    generalize hrb : b.getD i [] = rb at ib3 okrb bad lrb
    have hlt' : ((i : Nat) : Int) < ((a.length : Nat) : Int) := by omega
    repeat (first | refine WS.adm rfl ?_ | refine WS.region (by simp only [EV, TY, h0, h1, h5, la, hlt', ↓reduceIte, Nat.reduceEqDiff]; with_reducible rfl) ?_)
    refine WS.ct0 ?_
    repeat refine WS.adm rfl ?_
    by_cases hrl : ra.length = rb.length
    ·have hrne : (((ra.length : Nat) : Int) != ((rb.length : Nat) : Int)) = false := by simp [hrl]
     refine WS.draw (by simp only [DL, isEff, isRead, EV, TY, h0, h1, h5, ia1, ia2, ib1, ib2, lra, lrb, hrne, ↓reduceIte, Nat.reduceEqDiff]; with_reducible rfl) ?_
     refine WS.cond_false (by simp only [EV, h0, h1, h5, ↓reduceIte, Nat.reduceEqDiff]) ?_
     repeat (first | refine WS.adm rfl ?_ | refine WS.region (by simp only [EV, TY, h0, h1, h5, ↓reduceIte, Nat.reduceEqDiff]; with_reducible rfl) ?_)
     refine WS.loopB (fun j fr S' => ∃ m, j = ra.length - m ∧ m ≤ ra.length ∧ lget fr 0 = v ∧ lget fr 1 = w ∧ lget fr 5 = .int .i64 (i : Int) ∧ lget fr 6 = .int .i64 (m : Int) ∧ S = S' ∧ ∀ k, k < m → ra.getD k ([], []) = rb.getD k ([], []))
      (fun fr S' => lget fr 0 = v ∧ lget fr 1 = w ∧ lget fr 5 = .int .i64 (i : Int) ∧ S = S' ∧ ∀ k, k < ra.length → ra.getD k ([], []) = rb.getD k ([], [])) (j := ra.length) ?_ ?_ ?_
     ·refine ⟨0, by omega, by omega, ?_, ?_, ?_, ?_, rfl, fun k hk => by omega⟩
      all_goals
       simp only [EV, h0, h1, h5, ↓reduceIte, Nat.reduceEqDiff, AT]
       try rfl
     ·rintro fr S' ⟨h0, h1, h5, rfl, hrall⟩
      have hinc := wrap_inc i (by have := oa.1; omega)
      repeat (first | refine WS.adm rfl ?_ | refine WS.region (by simp only [EV, TY, h5, hinc, ↓reduceIte, Nat.reduceEqDiff]; with_reducible rfl) ?_)
      refine ih (a.length - (i + 1)) _ _ (by omega) ⟨i + 1, rfl, by omega, ?_, ?_, ?_, rfl, fun k hk => ?_⟩
      iterate 3 simp only [EV, h0, h1, h5, ↓reduceIte, Nat.reduceEqDiff, AT]
      ·rcases Nat.lt_or_ge k i with h | h
       ·exact hall k h
       ·obtain rfl : k = i := by omega
        rw [hra, hrb]
        exact ext_getD _ hrl hrall
     ·rintro j fr S' ⟨m, rfl, hm, h0, h1, h5, h6, hSS, hrall⟩ ihm lastm
      subst hSS
      by_cases hmlt : m < ra.length
      ·have hmlt' : ((m : Nat) : Int) < ((ra.length : Nat) : Int) := by omega
       obtain ⟨qa, ja1, ta, ja2⟩ := ia3.at_ m hmlt
       obtain ⟨qb, jb1, tb, jb2⟩ := ib3.at_ m (by omega)
       have ja3 := ava_load ja2
       have jb3 := ava_load jb2
       have badm : ra.getD m ([], []) ≠ rb.getD m ([], []) → ra ≠ rb := ne_getD _ m
       generalize hxa : ra.getD m ([], []) = xa at ja3 badm
       generalize hxb : rb.getD m ([], []) = xb at jb3 badm
       have hneq := fun l => ava_neq l xa.1 xa.2 xb.1 xb.2
       repeat (first | refine WS.adm rfl ?_ | refine WS.region (by simp only [EV, TY, h0, h1, h5, h6, ia1, ia2, lra, hmlt', ↓reduceIte, Nat.reduceEqDiff]; with_reducible rfl) ?_)
       refine WS.ct0 ?_
       repeat refine WS.adm rfl ?_
       by_cases hx : xa = xb
       ·have hb' : (!((xa.1 == xb.1) && (xa.2 == xb.2))) = false := by simp [hx]
        refine WS.draw (by simp only [DL, isEff, isRead, EV, TY, h0, h1, h5, h6, ia1, ia2, ib1, ib2, ja1, ja3, jb1, jb3, hneq, hb', ↓reduceIte, Nat.reduceEqDiff]; with_reducible rfl) ?_
        refine WS.cf0 ?_
        have hinc := wrap_inc m (by have := okra.1; omega)
        repeat (first | refine WS.adm rfl ?_ | refine WS.region (by simp only [EV, TY, h6, hinc, ↓reduceIte, Nat.reduceEqDiff]; with_reducible rfl) ?_)
        refine ihm (ra.length - (m + 1)) _ _ (by omega) ⟨m + 1, rfl, by omega, ?_, ?_, ?_, ?_, rfl, fun k hk => ?_⟩
        iterate 4 simp only [EV, h0, h1, h5, h6, ↓reduceIte, Nat.reduceEqDiff, AT]
        ·rcases Nat.lt_or_ge k m with h | h
         ·exact hrall k h
         ·obtain rfl : k = m := by omega
          rw [hxa, hxb, hx]
       ·have hb' : (!((xa.1 == xb.1) && (xa.2 == xb.2))) = true := by
         obtain ⟨x1, x2⟩ := xa
         obtain ⟨y1, y2⟩ := xb
         simp at hx ⊢
         exact Classical.not_and_iff_not_or_not.1 (fun h => hx h.1 h.2)
        refine WS.draw (by simp only [DL, isEff, isRead, EV, TY, h0, h1, h5, h6, ia1, ia2, ib1, ib2, ja1, ja3, jb1, jb3, hneq, hb', ↓reduceIte, Nat.reduceEqDiff]; with_reducible rfl) ?_
        refine WS.ct0 ?_
        repeat (first | refine WS.adm rfl ?_ | refine WS.r0 ?_)
        refine WS.ret1s (t := 4) rfl rfl (List.prefix_refl _) (frz_bool _ _ _) ?_
        have := bad (badm hx)
        simp only [EV, ↓reduceIte, Nat.reduceEqDiff, AT]
        simp [this]
      ·have hmlt' : ¬ ((m : Nat) : Int) < ((ra.length : Nat) : Int) := by omega
       repeat (first | refine WS.adm rfl ?_ | refine WS.region (by simp only [EV, TY, h0, h1, h5, h6, ia1, ia2, lra, hmlt', ↓reduceIte, Nat.reduceEqDiff]; with_reducible rfl) ?_)
       refine WS.cf0 ?_
       refine WS.exit rfl ?_
       have : m = ra.length := by omega
       subst this
       refine lastm _ _ ⟨?_, ?_, ?_, rfl, hrall⟩
       iterate 3 simp only [EV, h0, h1, h5, ↓reduceIte, Nat.reduceEqDiff, AT]
    ·have hrne : (((ra.length : Nat) : Int) != ((rb.length : Nat) : Int)) = true := by
      simp; omega
     refine WS.draw (by simp only [DL, isEff, isRead, EV, TY, h0, h1, h5, ia1, ia2, ib1, ib2, lra, lrb, hrne, ↓reduceIte, Nat.reduceEqDiff]; with_reducible rfl) ?_
     refine WS.cond_true (by simp only [EV, h0, h1, h5, ↓reduceIte, Nat.reduceEqDiff]) ?_
     repeat (first | refine WS.adm rfl ?_ | refine WS.r0 ?_)
     refine WS.ret1s (t := 4) rfl rfl (List.prefix_refl _) (frz_bool _ _ _) ?_
     have := bad (fun e => hrl (by rw [e]))
     simp only [EV, ↓reduceIte, Nat.reduceEqDiff, AT]
     simp [this]
   ·have hlt' : ¬ ((i : Nat) : Int) < ((a.length : Nat) : Int) := by omega
    repeat (first | refine WS.adm rfl ?_ | refine WS.region (by simp only [EV, TY, h0, h1, h5, la, hlt', ↓reduceIte, Nat.reduceEqDiff]; with_reducible rfl) ?_)
    refine WS.cf0 ?_
    refine WS.exit rfl ?_
    have : i = a.length := by omega
    subst this
    exact last _ _ ⟨rfl, hall⟩
 ·have hne : (((a.length : Nat) : Int) != ((b.length : Nat) : Int)) = true := by simp; omega
  repeat (first | refine WS.adm rfl ?_ | refine WS.region (by simp only [EV, TY, lget, la, lb, hne, ↓reduceIte, Nat.reduceEqDiff]; with_reducible rfl) ?_)
  refine WS.cond_true (by simp only [EV, lget, ↓reduceIte, Nat.reduceEqDiff]) ?_
  repeat (first | refine WS.adm rfl ?_ | refine WS.rl ?_)
  refine WS.ret1s (t := 4) rfl rfl (List.prefix_refl _) (frz_bool _ _ _) ?_
  have : a ≠ b := fun e => hl (by rw [e])
  simp only [EV, lget, ↓reduceIte, Nat.reduceEqDiff, AT]
  simp [this]
def digitsS : List UInt8 := [48, 49, 50, 51, 52, 53, 54, 55, 56, 57, 97, 98, 99, 100, 101, 102]
def isIn (l : List UInt8) (b : UInt8) : Bool := (l.findIdx? (· == b)).isSome
theorem idx_ge (l : List UInt8) (b : UInt8) : (0 ≤ idxInt (l.findIdx? (· == b))) ↔ isIn l b = true := by
 unfold isIn idxInt
 cases l.findIdx? (· == b) with
 | none => simp
 | some i => simp
def spL : List UInt8 := [34, 43, 44, 59, 60, 62, 92]
theorem all256 {p : UInt8 → Bool} (h : (List.range 256).all (fun n => p (UInt8.ofNat n)) = true) (c : UInt8) : p c = true := by
 have := List.all_eq_true.1 h c.toNat (List.mem_range.2 c.toNat_lt)
 simpa using this
theorem drop_cons (s : List UInt8) (i : Nat) (h : i < s.length) : s.drop i = s.getD i 0 :: s.drop (i + 1) := by
 rw [List.drop_eq_getElem_cons h]
 congr 1
 simp [List.getD_eq_getElem?_getD, h]
def avaV (a : Ava) : V := .agg [.str a.1, .str a.2]
theorem ret_bool {E : Env} {k : List Todo} {fr : Fr} {S S' : Store} {f : FuncId} {fn : Func} {t : Nat} {b c : Bool} (hr : fn.results.toList = [.tmp t]) (hk : E.keep f = false) (hp : S <+: S') (hb : c = b) (hv : lget fr t = .bool b) : WS E (.code .ret :: k) fr S' (FnEnds E f fn S (.bool c, S)) := by
 subst hb
 exact WS.ret1s hr hk hp (frz_bool _ _ _) hv
theorem flat_len (r : List Ava) : (r.flatMap avaC).length = r.length * 2 := by
 induction r with
 | nil => rfl
 | cons a r ih => simp [avaC, ih]; omega
theorem alloc_40 (S : Store) : opAlloc E0 S 96 = some (.ref S.length 0, S ++ [.cells [.str [], .str []] 96]) := by
 unfold opAlloc
 rw [zeroV_96]
 rfl
theorem st_40 (S : Store) (cs : List V) (hcs : cs.length = 2) (x y : List UInt8) : opStore E0 (S ++ [.cells cs 96]) 96 (.ref S.length 0) (.agg [.str x, .str y]) = some (S ++ [.cells [.str x, .str y] 96]) := by
 unfold opStore
 rw [tsize_96]
 match cs, hcs with
 | [a, b], _ =>
  simp [solid, vcells, putAt, cellsOf, Vm.elemOf, splice]
theorem ty38 : ETy E0 98 96 2 32 (.agg [.str [], .str []]) := ⟨Tryz.underlying98, elemT_98, tsize_96, by kernel_rfl, zeroV_96, rfl, rfl, by omega, by omega⟩
theorem ty24 : ETy E0 27 98 1 24 .slN := ⟨Tryz.underlying27, elemT_27, tsize_98, by kernel_rfl, zeroV_98, rfl, rfl, by omega, by omega⟩
theorem frzIn_strs (d n : Nat) (S : Store) : ∀ r : List Ava, (r.flatMap avaC).mapM (frzIn (d + 1) n S) = some (r.flatMap avaC)
 | [] => rfl
 | a :: r => by
  simp only [List.flatMap_cons, avaC, List.cons_append, List.nil_append, List.mapM_cons]
  rw [frzIn_strs d n S r]
  rfl
theorem nil_isDn (S : Store) : isDn S .slN [] := ⟨[], ⟨rfl, .inl ⟨rfl, rfl⟩⟩, fun i hi => absurd hi (by simp)⟩
theorem build_40 (x y : List UInt8) : opBuild E0 96 [(0, .str x), (1, .str y)] = some (.agg [.str x, .str y]) := by kernel_rfl
theorem sl9 (s : List UInt8) (i : Nat) (h : i ≤ s.length) : opSlice E0 9 (.str s) (some (.int .i64 (i : Nat))) none none = some (.str (s.drop i)) := sl_lo Tryz.underlying9 s .i64 i h
theorem sl9h (s : List UInt8) (i : Nat) (h : i ≤ s.length) : opSlice E0 9 (.str s) none (some (.int .i64 (i : Nat))) none = some (.str (s.take i)) := sl_hi Tryz.underlying9 s .i64 i h
theorem lt_of_get {S : Store} {i : Nat} {o : Ob} (h : S[i]? = some o) : i < S.length := (List.getElem?_eq_some_iff.1 h).1
theorem get_more {S : Store} {i : Nat} {o : Ob} (h : S[i]? = some o) (l : Store) : (S ++ l)[i]? = some o := by
 rw [List.getElem?_append_left (lt_of_get h)]; exact h
theorem get_set_ne {S : Store} {i j : Nat} {o u : Ob} (h : S[i]? = some o) (hne : j ≠ i) : (S.set j u)[i]? = some o := by
 rw [List.getElem?_set_ne hne]; exact h
theorem ids_ne {S : Store} {i j : Nat} {a b : List V} (h : S[i]? = some (.cells a 96)) (g : S[j]? = some (.cells b 98)) : i ≠ j := by
 intro e
 subst e
 rw [h] at g
 injection g with g
 injection g with _ g
 exact absurd g (by decide)
abbrev lessB := Op.bytesLess
theorem less_irrefl : ∀ x, lessB x x = false
 | [] => rfl
 | a :: x => by
  have := less_irrefl x
  simp only [lessB, Op.bytesLess] at this ⊢
  simp [this]
theorem less_trans : ∀ {x y z}, lessB x y = true → lessB y z = true → lessB x z = true
 | x, [], z, h, _ => by cases x <;> simp [lessB, Op.bytesLess] at h
 | x, b :: y, [], _, h => by simp [lessB, Op.bytesLess] at h
 | [], b :: y, c :: z, _, _ => rfl
 | a :: x, b :: y, c :: z, h, g => by
  simp only [lessB, Op.bytesLess, Bool.or_eq_true, Bool.and_eq_true, decide_eq_true_eq, beq_iff_eq] at h g ⊢
  have tr : a < b → b < c → a < c := fun h1 h2 => UInt8.lt_trans h1 h2
  rcases h with h | ⟨rfl, h⟩ <;> rcases g with g | ⟨rfl, g⟩
  ·exact .inl (tr h g)
  ·exact .inl h
  ·exact .inl g
  ·exact .inr ⟨rfl, less_trans h g⟩
theorem less_total : ∀ {x y}, lessB x y = false → lessB y x = false → x = y
 | [], [], _, _ => rfl
 | [], b :: y, h, _ => by simp [lessB, Op.bytesLess] at h
 | a :: x, [], _, h => by simp [lessB, Op.bytesLess] at h
 | a :: x, b :: y, h, g => by
  simp only [lessB, Op.bytesLess, Bool.or_eq_false_iff, decide_eq_false_iff_not, Bool.and_eq_false_imp, beq_iff_eq] at h g
  have hab : a = b := by
   apply UInt8.le_antisymm
   ·exact UInt8.not_lt.1 g.1
   ·exact UInt8.not_lt.1 h.1
  subst hab
  rw [less_total (h.2 rfl) (g.2 rfl)]
theorem less_asymm {x y} (h : lessB x y = true) : lessB y x = false := by
 cases hg : lessB y x with
 | false => rfl
 | true =>
  have := less_trans h hg
  rw [less_irrefl] at this
  cases this
theorem le_trans' {x y z} (h : lessB y x = false) (g : lessB z y = false) : lessB z x = false := by
 cases hx : lessB z x with
 | false => rfl
 | true =>
  cases hy : lessB x y with
  | true => rw [less_trans hx hy] at g; cases g
  | false =>
   have := less_total hy h
   subst this
   rw [hx] at g; cases g
def ltA (a b : Ava) : Bool := lessB a.1 b.1
def Sorted (l : List Ava) : Prop := l.Pairwise fun a b => ltA b a = false
def insA (a : Ava) : List Ava → List Ava
 | [] => [a]
 | b :: l => if ltA a b = true then a :: b :: l else b :: insA a l
def srt (l : List Ava) : List Ava := l.foldl (fun acc a => insA a acc) []
theorem insA_mem (a x : Ava) : ∀ l, x ∈ insA a l ↔ x = a ∨ x ∈ l
 | [] => by simp [insA]
 | b :: l => by
  unfold insA
  split
  ·simp
  ·simp [insA_mem a x l]
   constructor
   ·rintro (h | h | h) <;> simp [h]
   ·rintro (h | h | h) <;> simp [h]
theorem insA_len (a : Ava) : ∀ l, (insA a l).length = l.length + 1
 | [] => rfl
 | b :: l => by
  unfold insA
  split
  ·rfl
  ·simp [insA_len a l]
theorem insA_sorted (a : Ava) : ∀ l, Sorted l → Sorted (insA a l)
 | [], _ => by simp [insA, Sorted]
 | b :: l, h => by
  have hb := List.pairwise_cons.1 h
  unfold insA
  split
  ·rename_i hlt
   refine List.pairwise_cons.2 ⟨fun x hx => ?_, h⟩
   rcases List.mem_cons.1 hx with rfl | hx
   ·exact less_asymm hlt
   ·exact le_trans' (less_asymm hlt) (hb.1 x hx)
  ·rename_i hlt
   refine List.pairwise_cons.2 ⟨fun x hx => ?_, insA_sorted a l hb.2⟩
   rcases (insA_mem a x l).1 hx with rfl | hx
   ·simpa using hlt
   ·exact hb.1 x hx
theorem srt_snoc (l : List Ava) (a : Ava) : srt (l ++ [a]) = insA a (srt l) := by
 simp [srt]
def StEq (l r : List Ava) : Prop := ∀ k, l.filter (fun x => x.1 == k) = r.filter (fun x => x.1 == k)
theorem StEq.refl (l : List Ava) : StEq l l := fun _ => rfl
theorem StEq.symm {l r : List Ava} (h : StEq l r) : StEq r l := fun k => (h k).symm
theorem StEq.trans {l r t : List Ava} (h : StEq l r) (g : StEq r t) : StEq l t := fun k => (h k).trans (g k)
theorem StEq.append {l r l' r' : List Ava} (h : StEq l l') (g : StEq r r') : StEq (l ++ r) (l' ++ r') := fun k => by
 rw [List.filter_append, List.filter_append, h k, g k]
theorem StEq.mem {l r : List Ava} (h : StEq l r) {x : Ava} (hx : x ∈ l) : x ∈ r := by
 have : x ∈ l.filter (fun y => y.1 == x.1) := List.mem_filter.2 ⟨hx, by simp⟩
 rw [h x.1] at this
 exact (List.mem_filter.1 this).1
theorem insA_steq (a : Ava) : ∀ l, Sorted l → StEq (insA a l) (l ++ [a])
 | [], _ => StEq.refl _
 | b :: l, h => by
  have hb := List.pairwise_cons.1 h
  intro k
  unfold insA
  split
  ·rename_i hlt
   have hall : ∀ x ∈ b :: l, ltA a x = true := by
    intro x hx
    rcases List.mem_cons.1 hx with rfl | hx
    ·exact hlt
    ·cases hax : lessB a.1 x.1 with
     | true => exact hax
     | false =>
      have h1 : lessB x.1 b.1 = false := hb.1 x hx
      have h2 : lessB x.1 a.1 = true ∨ x.1 = a.1 := by
       cases hxa : lessB x.1 a.1 with
       | true => exact .inl rfl
       | false => exact .inr (less_total hxa hax)
      rcases h2 with h2 | h2
      ·rw [less_trans h2 hlt] at h1; cases h1
      ·rw [h2, show lessB a.1 b.1 = true from hlt] at h1; cases h1
   by_cases hk : a.1 = k
   ·have hn : (b :: l).filter (fun x => x.1 == k) = [] := by
     rw [List.filter_eq_nil_iff]
     intro x hx
     have h1 := hall x hx
     intro he
     have he : x.1 = k := by simpa using he
     unfold ltA at h1
     rw [hk, he, less_irrefl] at h1
     cases h1
    rw [List.filter_append, hn, List.filter_cons]
    rw [if_pos (by simpa using hk), hn]
    simp [hk]
   ·rw [List.filter_append, List.filter_cons]
    have : (a.1 == k) = false := by simpa using hk
    simp [this]
  ·have := insA_steq a l hb.2 k
   rw [List.cons_append, List.filter_cons, List.filter_cons, this]
theorem fold_sorted : ∀ (l acc : List Ava), Sorted acc → Sorted (l.foldl (fun acc a => insA a acc) acc)
 | [], acc, h => h
 | a :: l, acc, h => fold_sorted l _ (insA_sorted a acc h)
theorem fold_steq : ∀ (l acc : List Ava), Sorted acc → StEq (l.foldl (fun acc a => insA a acc) acc) (acc ++ l)
 | [], acc, h => by rw [List.append_nil]; exact StEq.refl _
 | a :: l, acc, h => by
  have := fold_steq l _ (insA_sorted a acc h)
  refine StEq.trans this ?_
  rw [show acc ++ a :: l = (acc ++ [a]) ++ l by simp]
  exact StEq.append (insA_steq a acc h) (StEq.refl _)
theorem srt_sorted (l : List Ava) : Sorted (srt l) := fold_sorted l [] List.Pairwise.nil
theorem srt_steq (l : List Ava) : StEq (srt l) l := fold_steq l [] List.Pairwise.nil
theorem srt_len (l : List Ava) : (srt l).length = l.length := by
 have : ∀ (l acc : List Ava), (l.foldl (fun acc a => insA a acc) acc).length = acc.length + l.length := by
  intro l
  induction l with
  | nil => intro acc; simp
  | cons a l ih => intro acc; rw [List.foldl_cons, ih, insA_len]; simp; omega
 have h := this l []
 simpa [srt] using h
theorem srt_mem {l : List Ava} {x : Ava} : x ∈ srt l ↔ x ∈ l := ⟨(srt_steq l).mem, (srt_steq l).symm.mem⟩
theorem sorted_unique : ∀ {l r : List Ava}, Sorted l → Sorted r → StEq l r → l = r
 | [], [], _, _, _ => rfl
 | [], b :: r, _, _, h => absurd (h.symm.mem (x := b) (by simp)) (by simp)
 | a :: l, [], _, _, h => absurd (h.mem (x := a) (by simp)) (by simp)
 | a :: l, b :: r, hl, hr, h => by
  have h1 := List.pairwise_cons.1 hl
  have h2 := List.pairwise_cons.1 hr
  have e1 : lessB b.1 a.1 = false := by
   rcases List.mem_cons.1 (h.symm.mem (x := b) (by simp)) with rfl | hx
   ·exact less_irrefl _
   ·exact h1.1 b hx
  have e2 : lessB a.1 b.1 = false := by
   rcases List.mem_cons.1 (h.mem (x := a) (by simp)) with rfl | hx
   ·exact less_irrefl _
   ·exact h2.1 a hx
  have ek := less_total e1 e2
  have hk := h a.1
  rw [List.filter_cons, List.filter_cons, if_pos (by simp), if_pos (by simpa using ek)] at hk
  injection hk with hab hk'
  subst hab
  have : StEq l r := fun k => by
   have := h k
   rw [List.filter_cons, List.filter_cons] at this
   split at this
   ·injection this
   ·exact this
  rw [sorted_unique h1.2 h2.2 this]
theorem srt_of_sorted {l : List Ava} (h : Sorted l) : srt l = l := sorted_unique (srt_sorted l) h (srt_steq l)
theorem ins_split (a : Ava) : ∀ (p1 p2 : List Ava), Sorted (p1 ++ p2) → (∀ x ∈ p2, ltA a x = true) → (∀ y, p1.getLast? = some y → ltA a y = false) → insA a (p1 ++ p2) = p1 ++ a :: p2
 | [], [], _, _, _ => rfl
 | [], b :: p2, _, h, _ => by
  show insA a (b :: p2) = _
  unfold insA
  rw [if_pos (h b (by simp))]
  rfl
 | b :: p1, p2, hs, h, hl => by
  have hb := List.pairwise_cons.1 hs
  have hab : ltA a b = false := by
   cases hq : p1.getLast? with
   | none =>
    have : p1 = [] := List.getLast?_eq_none_iff.1 hq
    subst this
    exact hl b rfl
   | some y =>
    have h1 := hl y (by rw [List.getLast?_cons, hq]; rfl)
    have h2 := hb.1 y (List.mem_append_left _ (List.mem_of_getLast? hq))
    exact le_trans' h2 h1 |> fun x => by
     unfold ltA at *
     cases hab : lessB a.1 b.1 with
     | false => rfl
     | true =>
      cases hyb : lessB b.1 y.1 with
      | true => rw [less_trans hab hyb] at h1; cases h1
      | false =>
       have := less_total hyb h2
       rw [this] at hab
       rw [hab] at h1; cases h1
  show insA a (b :: (p1 ++ p2)) = _
  unfold insA
  rw [if_neg (by rw [hab]; simp), ins_split a p1 p2 hb.2 h (fun y hy => hl y (by rw [List.getLast?_cons, hy]; rfl))]
  rfl
end Go.Proofs.YtmmjlgocihhkcaaGreatDoor
