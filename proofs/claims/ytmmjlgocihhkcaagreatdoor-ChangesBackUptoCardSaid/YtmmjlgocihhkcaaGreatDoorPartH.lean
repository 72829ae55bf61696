import Derived.Test.YtmmjlgocihhkcaaGreatDoorPartG
import Derived.Test.YtmmjlgocihhkcaaGreatDoorPartA
set_option linter.all false
namespace Go.Proofs.YtmmjlgocihhkcaaGreatDoor
open Go Go.Vm
set_option maxRecDepth 100000
set_option maxHeartbeats 4000000
theorem u8_ne (c d : UInt8) (h : c ≠ d) : (((c.toNat : Nat) : Int) == ((d.toNat : Nat) : Int)) = false := by
 rw [beq_eq_false_iff_ne]
 intro e
 exact h (UInt8.toNat_inj.1 (by omega))
theorem St3.arr {n0 : Nat} {T : Store} {q : QO} {vn : V} {r : List Ava} {vr : V} (h : St3 n0 T q vn r vr) : Arr 2 rAva T vr r := by
 refine ⟨r.flatMap avaC, ava_Cs r, ?_⟩
 rcases h.stp with ⟨rfl, rfl⟩ | ⟨p, p1, rfl, p2, _⟩
 ·exact ⟨rfl, .inl ⟨rfl, rfl⟩⟩
 ·refine ⟨flat_len r, .inr (.inr ⟨p, 0, _, fl r, 96, rfl, Nat.le_refl _, p2, ?_⟩)⟩
  rw [List.drop_zero, List.take_of_length_le (by rw [flat_len r]; exact Nat.le_refl _)]
theorem inO.low {n0 : Nat} {S U : Store} {x : Option Nat × List Ava} (h : inO n0 S x) (hl : Low S.length S U) : inO n0 U x := by
 obtain ⟨p, r⟩ := x
 cases p with
 | none => exact h
 | some p => exact ⟨h.1, by rw [hl.2 p (lt_of_get h.2)]; exact h.2⟩
theorem St3.swap {n0 : Nat} {T U : Store} {q : QO} {vn : V} {r r' : List Ava} {vr v' : V} (h : St3 n0 T q vn r vr) (hn : n0 ≤ T.length) (hl : Low T.length T U) (hm : Lst T.length 96 2 rAva U v' r') : St3 n0 U q vn r' v' := by
 refine ⟨fun x hx => (h.inn x hx).low hl, ?_, ?_⟩
 ·rcases h.out with h | ⟨o, o1, o2, o3⟩
  ·exact .inl h
  ·exact .inr ⟨o, o1, o2, by rw [hl.2 o (lt_of_get o3)]; exact o3⟩
 ·rcases hm with h' | ⟨p, cs, p1, p2, p3, p4⟩
  ·exact .inl h'
  ·exact .inr ⟨p, by omega, p2, by rw [p3, Cs_ava p4], h.inn.fresh p1⟩
set_option maxHeartbeats 8000000
theorem dg1 : ∀ n : Nat, n < 10 → IntKind.u8.wrap (48 + (n : Int)) = ((digS n).toNat : Int) := by decide +kernel
theorem dg2 : ∀ n : Nat, n < 16 → 10 ≤ n → IntKind.u8.wrap (IntKind.u8.wrap (97 + (n : Int)) - 10) = ((digS n).toNat : Int) := by decide +kernel
theorem digit_ok (n : Nat) (h : n < 16) (S : Store) : vrun E0 (.fn 164) [.int .u8 (n : Nat)] S = some (.int .u8 (digS n).toNat, S) := by
 refine fn_ws Tryz.func164 rfl ?_
 by_cases h1 : n < 10
 ·have h1' : (n : Int) < 10 := by omega
  repeat (first | refine WS.adm rfl ?_ | refine WS.region (by simp only [EV, TY, lget, h1', ↓reduceIte, Nat.reduceEqDiff]; with_reducible rfl) ?_)
  refine WS.cond_true (by simp only [EV, h1', ↓reduceIte, Nat.reduceEqDiff]) ?_
  repeat (first | refine WS.adm rfl ?_ | refine WS.region (by simp only [EV, TY, lget, dg1 n h1, ↓reduceIte, Nat.reduceEqDiff]; with_reducible rfl) ?_)
  refine WS.ret1s (t := 2) rfl rfl (List.prefix_refl _) (frz_int _ _ _ _) ?_
  simp only [EV, ↓reduceIte, Nat.reduceEqDiff, AT]
 ·have h1' : ¬ (n : Int) < 10 := by omega
  repeat (first | refine WS.adm rfl ?_ | refine WS.region (by simp only [EV, TY, lget, h1', ↓reduceIte, Nat.reduceEqDiff]; with_reducible rfl) ?_)
  refine WS.cond_false (by simp only [EV, h1', ↓reduceIte, Nat.reduceEqDiff]) ?_
  repeat (first | refine WS.adm rfl ?_ | refine WS.region (by simp only [EV, TY, lget, dg2 n h (by omega), ↓reduceIte, Nat.reduceEqDiff]; with_reducible rfl) ?_)
  refine WS.ret1s (t := 2) rfl rfl (List.prefix_refl _) (frz_int _ _ _ _) ?_
  simp only [EV, ↓reduceIte, Nat.reduceEqDiff, AT]
theorem sign_is (c : UInt8) : signZ (c.toNat : Int) = isIn spL c := by
 have := all256 (p := fun c => decide (signZ ((c.toNat : Nat) : Int) = isIn spL c)) (by decide +kernel) c
 exact of_decide_eq_true this
theorem u8_eqb (c : UInt8) (d : UInt8) : (((c.toNat : Nat) : Int) == ((d.toNat : Nat) : Int)) = decide (c = d) := by
 by_cases h : c = d
 ·subst h; simp
 ·rw [u8_ne c d h]; simp [h]
theorem valB_or (n i : Nat) (c : UInt8) (hA : ¬ (c < 32 ∨ c = 127)) {b0 b1 b2 b3 b4 : Bool} (h0 : (((i : Nat) : Int) == 0) = b0) (h1 : ((c.toNat : Int) == 35) = b1) (h2 : ((c.toNat : Int) == 32) = b2) (h3 : (((i : Nat) : Int) == ((n - 1 : Nat) : Int)) = b3) (h4 : signZ (c.toNat : Int) = b4) (hi : i < n) :
  valB n i c = if (b4 || (b0 && (b1 || b2)) || (b3 && b2)) = true then [92, c] else [c] := by
 have e1 := u8_eqb c 35
 have e2 := u8_eqb c 32
 rw [show (((35 : UInt8).toNat : Nat) : Int) = 35 from rfl, h1] at e1
 rw [show (((32 : UInt8).toNat : Nat) : Int) = 32 from rfl, h2] at e2
 rw [sign_is] at h4
 have e0 : b0 = decide (i = 0) := by rw [← h0]; by_cases h : i = 0 <;> simp [h]
 have e3 : b3 = decide (i + 1 = n) := by
  rw [← h3]
  by_cases h : i + 1 = n
  ·have : ((i : Nat) : Int) = ((n - 1 : Nat) : Int) := by omega
   simp [h, this]
  ·have : ¬ ((i : Nat) : Int) = ((n - 1 : Nat) : Int) := by omega
   simp [h, this]
 unfold valB
 rw [if_neg hA, h4, e0, e1, e2, e3]
 congr 1
 simp only [Bool.or_eq_true, Bool.and_eq_true, decide_eq_true_eq, eq_iff_iff]
 exact or_assoc.symm
theorem refValue_ok (s : List UInt8) (S : Store) (hs : s.length ≤ 1048576) : vrun E0 (.fn 141) [.str s] S = some (.str (valueS s), S) := by
 refine fn_ws Tryz.func141 rfl ?_
 repeat (first | refine WS.adm rfl ?_ | refine WS.rl ?_)
 refine WS.loopB (fun j fr T => ∃ i v out, j = s.length - i ∧ i ≤ s.length ∧ out.length ≤ 3 * i ∧ lget fr 0 = .str s ∧ lget fr 3 = v ∧ lget fr 4 = .int .i64 (i : Nat) ∧ Buf 5 S.length T v out ∧ Low S.length S T ∧ out ++ valF s.length i (s.drop i) = valueS s)
  (fun fr T => ∃ v out, lget fr 3 = v ∧ Buf 5 S.length T v out ∧ Low S.length S T ∧ out = valueS s) (j := s.length) ?_ ?_ ?_
 ·refine ⟨0, .slN, [], by omega, by omega, by simp, ?_, ?_, ?_, Buf.new _ _ _, Low.refl (Nat.le_refl _), rfl⟩
  all_goals
   simp only [EV, lget, ↓reduceIte, Nat.reduceEqDiff, AT]
   try rfl
 ·rintro fr T ⟨v, out, h3, hb, hlow, rfl⟩
  have e5 := hb.conv bt50 Tryz.underlying9
  repeat (first | refine WS.adm rfl ?_ | refine WS.region (by simp only [EV, TY, h3, e5, ↓reduceIte, Nat.reduceEqDiff]; with_reducible rfl) ?_)
  refine WS.ret1s (t := 2) rfl rfl hlow.pre (frz_str _ _ _) ?_
  simp only [EV, ↓reduceIte, Nat.reduceEqDiff, AT]
 ·rintro j fr T ⟨i, v, out, rfl, hi, hol, h0, h3, h4, hb, hlow, hv⟩ ih last
  by_cases hlt : i < s.length
  ·have hlt' : ((i : Nat) : Int) < ((s.length : Nat) : Int) := by omega
   have ex := idx_str_9 s .i64 i hlt
   rw [drop_cons s i hlt, valF] at hv
   have iinc := wrap_inc i (by omega)
   have idec : IntKind.i64.wrap (((s.length : Nat) : Int) - 1) = ((s.length - 1 : Nat) : Int) := wrap_sub1 s.length (by omega) (by omega)
   generalize s.getD i 0 = c at ex hv
   have hvl := valB_len s.length i c
   have sg := signs_ok (c.toNat : Int) T
   repeat (first | refine WS.adm rfl ?_ | refine WS.region (by simp only [EV, TY, h0, h4, hlt', ↓reduceIte, Nat.reduceEqDiff]; with_reducible rfl) ?_)
   refine WS.ct0 ?_
   repeat (first | refine WS.adm rfl ?_ | refine WS.region (by simp only [EV, TY, h0, h4, ex, callV_163, sg, ↓reduceIte, Nat.reduceEqDiff]; with_reducible rfl) ?_)
   refine WSjoin2 (fun fr U => ∃ w b2 d, lget fr 0 = .str s ∧ lget fr 4 = .int .i64 (i : Nat) ∧ lget fr 3 = w ∧ lget fr 5 = .int .u8 (d : UInt8).toNat ∧ Buf 5 S.length U w b2 ∧ Low S.length S U ∧ b2 ++ [d] = out ++ valB s.length i c) ?_ ?_
   ·rintro fr U ⟨w, b2, d, k0, k4, k3, k5, kb, kl, ke⟩
    have hbl : b2.length ≤ 3 * i + 3 := by
     have := congrArg List.length ke
     simp at this
     omega
    obtain ⟨w2, U2, g1, g2, g3⟩ := kb.app1 bt50 kl.1 d (by omega)
    rw [ke] at g2
    repeat (first | refine WS.adm rfl ?_ | refine WS.region (by simp only [EV, TY, k3, k5, mk1_ bt50, g1, k4, iinc, ↓reduceIte, Nat.reduceEqDiff]; with_reducible rfl) ?_)
    refine ih (s.length - (i + 1)) _ _ (by omega) ⟨i + 1, w2, _, rfl, by omega, ?_, ?_, ?_, ?_, g2, kl.trans g3, by rw [List.append_assoc]; exact hv⟩
    ·rw [List.length_append]; omega
    iterate 3 simp only [EV, k0, ↓reduceIte, Nat.reduceEqDiff, AT]
   ·intro join
    refine WSjoin (fun fr U => U = T ∧ lget fr 0 = .str s ∧ lget fr 4 = .int .i64 (i : Nat) ∧ lget fr 3 = v ∧ lget fr 5 = .int .u8 c.toNat ∧ lget fr 6 = .bool (signZ (c.toNat : Int)) ∧ lget fr 23 = .bool (decide (c < 32 ∨ c = 127))) ?_ ?_
    ·rintro fr U ⟨rfl, a0, a4, a3, a5, a6, a23⟩
     obtain ⟨w1, U1, g1, g2, g3⟩ := hb.app1 bt50 hlow.1 92 (by omega)
     have g1' : opAppend E0 (U ++ [Ob.cells [V.int IntKind.u8 92] 5]) [140, 140] v (.slR U.length 0 1 1 1) = some (w1, U1) := g1
     by_cases hA : c < 32 ∨ c = 127
     ·rw [decide_eq_true hA] at a23
      have hvb : valB s.length i c = [92, digS (c.toNat / 16), digS (c.toNat % 16)] := by unfold valB; rw [if_pos hA]
      obtain ⟨w2, U2, k1, k2, k3⟩ := g2.app1 bt50 (hlow.trans g3).1 (digS (c.toNat / 16)) (by simp; omega)
      have d1 := digit_ok (c.toNat / 16) (by have := c.toNat_lt; omega) U1
      have d2 := digit_ok (c.toNat % 16) (by omega) U2
      have q1 : ∀ l, opBin E0 l .quo 5 (.int .u8 c.toNat) (.int .u8 16) = some (.int .u8 ((c.toNat / 16 : Nat) : Int)) := fun l => by
       rw [bin_quo _ _ _ _ _ (by omega), Int.tdiv_eq_ediv_of_nonneg (by omega), show ((c.toNat : Nat) : Int) / 16 = ((c.toNat / 16 : Nat) : Int) by omega, wrap_u8' _ (by have := c.toNat_lt; omega)]
      have q2 : ∀ l, opBin E0 l .rem 5 (.int .u8 c.toNat) (.int .u8 16) = some (.int .u8 ((c.toNat % 16 : Nat) : Int)) := fun l => by
       rw [bin_rem _ _ _ _ _ (by omega), Int.tmod_eq_emod_of_nonneg (by omega), show ((c.toNat : Nat) : Int) % 16 = ((c.toNat % 16 : Nat) : Int) by omega]
      refine WS.cond_true (by simp only [EV, a23, ↓reduceIte, Nat.reduceEqDiff]) ?_
      repeat (first | refine WS.adm rfl ?_ | refine WS.region (by simp only [EV, TY, a3, mk1_ bt50, g1', callV_164, lget, a5, q1, d1, k1, q2, d2, ↓reduceIte, Nat.reduceEqDiff]; with_reducible rfl) ?_)
      refine join _ _ ⟨w2, _, digS (c.toNat % 16), ?_, ?_, ?_, ?_, k2, (hlow.trans g3).trans k3, by rw [hvb]; simp⟩
      iterate 4 simp only [EV, a0, a4, ↓reduceIte, Nat.reduceEqDiff, AT]
     ·rw [decide_eq_false hA] at a23
      refine WS.cond_false (by simp only [EV, a23, ↓reduceIte, Nat.reduceEqDiff]) ?_
      have hvb := fun b0 b1 b2 b3 b4 q0 q1 q2 q3 q4 => valB_or s.length i c hA (b0 := b0) (b1 := b1) (b2 := b2) (b3 := b3) (b4 := b4) q0 q1 q2 q3 q4 hlt
      have hls := len_str_9 U s
      generalize q0 : (((i : Nat) : Int) == 0) = b0
      generalize q1 : ((c.toNat : Int) == 35) = b1
      generalize q2 : ((c.toNat : Int) == 32) = b2
      generalize q3 : (((i : Nat) : Int) == ((s.length - 1 : Nat) : Int)) = b3
      generalize q4 : signZ (c.toNat : Int) = b4 at a6
      have hvb := hvb b0 b1 b2 b3 b4 q0 q1 q2 q3 q4
      repeat refine WS.adm rfl ?_
      refine WSjoin (fun fr U' => U' = U ∧ lget fr 0 = .str s ∧ lget fr 4 = .int .i64 (i : Nat) ∧ lget fr 3 = v ∧ lget fr 5 = .int .u8 c.toNat ∧ lget fr 59 = .bool (b4 || (b0 && (b1 || b2)) || (b3 && b2))) ?_ ?_
      ·rintro fr U' ⟨rfl, c0, c4, c3, c5, c59⟩
       cases hr : (b4 || (b0 && (b1 || b2)) || (b3 && b2)) with
       | true =>
        rw [hr, if_pos rfl] at hvb
        rw [hr] at c59
        refine WS.cond_true (by simp only [EV, c59, ↓reduceIte, Nat.reduceEqDiff]) ?_
        repeat (first | refine WS.adm rfl ?_ | refine WS.region (by simp only [EV, TY, c3, mk1_ bt50, g1', ↓reduceIte, Nat.reduceEqDiff]; with_reducible rfl) ?_)
        refine join _ _ ⟨w1, _, c, ?_, ?_, ?_, ?_, g2, hlow.trans g3, by rw [hvb]; simp⟩
        iterate 4 simp only [EV, c0, c4, c5, ↓reduceIte, Nat.reduceEqDiff, AT]
       | false =>
        rw [hr, if_neg (by decide)] at hvb
        rw [hr] at c59
        refine WS.cond_false (by simp only [EV, c59, ↓reduceIte, Nat.reduceEqDiff]) ?_
        repeat refine WS.adm rfl ?_
        exact join _ _ ⟨v, _, c, c0, c4, c3, c5, hb, hlow, by rw [hvb]⟩
      ·intro j2
       cases b0 <;> cases b1 <;> cases b2 <;> cases b3 <;> cases b4
       all_goals
        repeat (first | refine WS.adm rfl ?_ | refine WS.region (by simp only [EV, TY, lget, a0, a3, a4, a5, a6, q0, q1, q2, q3, q4, idec, hls, ↓reduceIte, Nat.reduceEqDiff]; with_reducible rfl) ?_)
        refine j2 _ _ ⟨rfl, ?_, ?_, ?_, ?_, ?_⟩ <;> simp only [EV, lget, a0, a3, a4, a5, a6, ↓reduceIte, Nat.reduceEqDiff, decide_true, decide_false, eq_self, and_true, true_and, and_self, Bool.or_true, Bool.true_or, Bool.and_true, Bool.true_and, Bool.or_false, Bool.false_or, Bool.and_false, Bool.false_and, Bool.or_self, Bool.and_self]
    ·intro j1
     by_cases h32 : c < 32
     ·have h32' : (c.toNat : Int) < 32 := by have : c.toNat < 32 := h32; omega
      rw [decide_eq_true (show c < 32 ∨ c = 127 from .inl h32)] at j1
      repeat (first | refine WS.adm rfl ?_ | refine WS.region (by simp only [EV, TY, lget, h32', ↓reduceIte, Nat.reduceEqDiff]; with_reducible rfl) ?_)
      refine j1 _ _ ⟨rfl, ?_, ?_, ?_, ?_, ?_, ?_⟩ <;> simp only [EV, lget, h0, h3, h4, ↓reduceIte, Nat.reduceEqDiff, decide_true, decide_false, eq_self, AT]
     ·have h32' : ¬ (c.toNat : Int) < 32 := by have : ¬ c.toNat < 32 := h32; omega
      have h127 : ((c.toNat : Int) == 127) = decide (c < 32 ∨ c = 127) := by
       have := u8_eqb c 127
       rw [show (((127 : UInt8).toNat : Nat) : Int) = 127 from rfl] at this
       rw [this]
       simp [h32]
      repeat (first | refine WS.adm rfl ?_ | refine WS.region (by simp only [EV, TY, lget, h32', h127, ↓reduceIte, Nat.reduceEqDiff]; with_reducible rfl) ?_)
      refine j1 _ _ ⟨rfl, ?_, ?_, ?_, ?_, ?_, ?_⟩ <;> simp only [EV, lget, h0, h3, h4, ↓reduceIte, Nat.reduceEqDiff, decide_true, decide_false, eq_self, AT]
  ·have hlt' : ¬ ((i : Nat) : Int) < ((s.length : Nat) : Int) := by omega
   repeat (first | refine WS.adm rfl ?_ | refine WS.region (by simp only [EV, TY, h0, h4, hlt', ↓reduceIte, Nat.reduceEqDiff]; with_reducible rfl) ?_)
   refine WS.cf0 ?_
   refine WS.exit rfl ?_
   have : i = s.length := by omega
   subst this
   rw [List.drop_length, valF, List.append_nil] at hv
   refine last _ _ ⟨v, out, ?_, hb, hlow, hv⟩
   simp only [EV, h3, ↓reduceIte, Nat.reduceEqDiff, AT]
end Go.Proofs.YtmmjlgocihhkcaaGreatDoor
