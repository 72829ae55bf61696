import Derived.Test.YtmmjlgocihhkcaaGreatDoorPartH
import Derived.Test.YtmmjlgocihhkcaaGreatDoorVmF
import Derived.Test.YtmmjlgocihhkcaaGreatDoorVmG
set_option linter.all false
namespace Go.Proofs.YtmmjlgocihhkcaaGreatDoor
open Go Go.Vm
set_option maxRecDepth 100000
set_option maxHeartbeats 8000000
theorem joinC_snoc (c : UInt8) (l : List (List UInt8)) (w : List UInt8) : joinC c (l ++ [w]) = if l = [] then w else joinC c l ++ c :: w := by
 cases l with
 | nil => simp [joinC]
 | cons x l => simp [joinC]
theorem szR_take (r : List Ava) (m : Nat) : szR (r.take m) ≤ szR r := by
 conv => rhs; rw [← List.take_append_drop m r]
 simp only [szR, List.map_append, List.sum_append]
 omega
theorem refStep_ok {S : Store} {v : V} {r : List Ava} (h : isRdn S v r) (o : okR r) (h4 : szR r ≤ 4194304) : vrun E0 (.fn 112) [v] S = some (.str (stepS r), S) := by
 refine fn_ws Tryz.func112 rfl ?_
 have lr := h.len
 repeat (first | refine WS.adm rfl ?_ | refine WS.rl ?_)
 refine WS.loopB (fun j fr U => ∃ m, j = r.length - m ∧ m ≤ r.length ∧ lget fr 0 = v ∧ lget fr 3 = .str (joinC 43 ((r.take m).map textA)) ∧ lget fr 4 = .int .i64 (m : Nat) ∧ U = S)
  (fun fr U => lget fr 3 = .str (stepS r) ∧ U = S) (j := r.length) ?_ ?_ ?_
 ·refine ⟨0, by omega, by omega, ?_, ?_, ?_, rfl⟩
  all_goals
   simp only [EV, lget, ↓reduceIte, Nat.reduceEqDiff, AT]
   try rfl
 ·rintro fr U ⟨h3, rfl⟩
  repeat (first | refine WS.adm rfl ?_ | refine WS.region (by simp only [EV, TY, h3, ↓reduceIte, Nat.reduceEqDiff]; with_reducible rfl) ?_)
  refine WS.ret1s (t := 2) rfl rfl (List.prefix_refl _) (frz_str _ _ _) ?_
  simp only [EV, ↓reduceIte, Nat.reduceEqDiff, AT]
 ·rintro j fr U ⟨m, rfl, hm, h0, h3, hk4, rfl⟩ ih last
  by_cases hmlt : m < r.length
  ·have hmlt' : ((m : Nat) : Int) < ((r.length : Nat) : Int) := by omega
   obtain ⟨qa, j1, ta, j2⟩ := h.at_ m hmlt
   have oka := o.at_ m hmlt
   have htm : (r.take (m + 1)).map textA = (r.take m).map textA ++ [textA (r.getD m ([], []))] := by
    rw [List.take_succ_eq_append_getElem hmlt, List.map_append]
    rw [show r.getD m ([], []) = r[m] by simp [List.getD, hmlt]]
    rfl
   have hln := stepS_len (r.take m)
   have hsz := szR_take r m
   have hln : (joinC 43 ((r.take m).map textA)).length ≤ 16777216 := by unfold stepS at hln; omega
   have hsn := joinC_snoc 43 ((r.take m).map textA) (textA (r.getD m ([], [])))
   rw [← htm] at hsn
   generalize r.getD m ([], []) = x at j2 oka htm hsn
   generalize hO : joinC 43 ((r.take m).map textA) = out at h3 hln hsn
   obtain ⟨fa, fa1, fa2⟩ := ava_type j2
   obtain ⟨fb, fb1, fb2⟩ := ava_value j2
   have va := refValue_ok x.2 U oka.2
   have lv := valueS_len x.2
   have oa := oka.1
   have ob := oka.2
   have minc := wrap_inc m (by have := o.1; omega)
   by_cases hm0 : 0 < m
   ·have hm0' : (0 : Int) < ((m : Nat) : Int) := by omega
    rw [if_neg (fun e => by have := congrArg List.length e; rw [List.length_map, List.length_take, List.length_nil] at this; omega)] at hsn
    have k0 : ∀ l, opBin E0 l .add 9 (.str out) (.str [43]) = some (.str (out ++ [43])) := fun l => bin_sadd _ _ _ _ (by simp; omega)
    have k1 : ∀ l, opBin E0 l .add 9 (.str (out ++ [43])) (.str x.1) = some (.str (out ++ [43] ++ x.1)) := fun l => bin_sadd _ _ _ _ (by simp; omega)
    have k2 : ∀ l, opBin E0 l .add 9 (.str (out ++ [43] ++ x.1)) (.str [61]) = some (.str (out ++ [43] ++ x.1 ++ [61])) := fun l => bin_sadd _ _ _ _ (by simp; omega)
    have k3 : ∀ l, opBin E0 l .add 9 (.str (out ++ [43] ++ x.1 ++ [61])) (.str (valueS x.2)) = some (.str (joinC 43 ((r.take (m + 1)).map textA))) := fun l => by
     rw [bin_sadd _ _ _ _ (by simp; omega), hsn]; simp [textA]
    repeat (first | refine WS.adm rfl ?_ | refine WS.region (by simp only [EV, TY, h0, hk4, lr, hmlt', ↓reduceIte, Nat.reduceEqDiff]; with_reducible rfl) ?_)
    refine WS.ct0 ?_
    repeat (first | refine WS.adm rfl ?_ | refine WS.region (by simp only [EV, TY, hk4, hm0', ↓reduceIte, Nat.reduceEqDiff]; with_reducible rfl) ?_)
    refine WS.ct0 ?_
    repeat (first | refine WS.adm rfl ?_ | refine WS.region (by simp only [EV, TY, h3, k0, ↓reduceIte, Nat.reduceEqDiff]; with_reducible rfl) ?_)
    refine WS.draw (by simp only [DL, isEff, isRead, EV, TY, lget, h0, hk4, j1, fa1, fa2, fb1, fb2, callV_141, va, k1, k2, k3, ↓reduceIte, Nat.reduceEqDiff]; with_reducible rfl) ?_
    repeat (first | refine WS.adm rfl ?_ | refine WS.region (by simp only [EV, TY, hk4, minc, ↓reduceIte, Nat.reduceEqDiff]; with_reducible rfl) ?_)
    refine ih (r.length - (m + 1)) _ _ (by omega) ⟨m + 1, rfl, by omega, ?_, ?_, ?_, rfl⟩
    iterate 3 simp only [EV, h0, ↓reduceIte, Nat.reduceEqDiff, AT]
   ·have hm0' : ¬ (0 : Int) < ((m : Nat) : Int) := by omega
    obtain rfl : m = 0 := by omega
    have hOe : out = [] := by rw [← hO]; rfl
    rw [if_pos (by simp)] at hsn
    subst hOe
    have k1 : ∀ l, opBin E0 l .add 9 (.str []) (.str x.1) = some (.str x.1) := fun l => bin_sadd _ _ _ _ (by simp; omega)
    have k2 : ∀ l, opBin E0 l .add 9 (.str x.1) (.str [61]) = some (.str (x.1 ++ [61])) := fun l => bin_sadd _ _ _ _ (by simp; omega)
    have k3 : ∀ l, opBin E0 l .add 9 (.str (x.1 ++ [61])) (.str (valueS x.2)) = some (.str (joinC 43 ((r.take (0 + 1)).map textA))) := fun l => by
     rw [bin_sadd _ _ _ _ (by simp; omega), hsn]; simp [textA]
    repeat (first | refine WS.adm rfl ?_ | refine WS.region (by simp only [EV, TY, h0, hk4, lr, hmlt', ↓reduceIte, Nat.reduceEqDiff]; with_reducible rfl) ?_)
    refine WS.ct0 ?_
    repeat (first | refine WS.adm rfl ?_ | refine WS.region (by simp only [EV, TY, hk4, hm0', ↓reduceIte, Nat.reduceEqDiff]; with_reducible rfl) ?_)
    refine WS.cf0 ?_
    repeat refine WS.adm rfl ?_
    refine WS.draw (by simp only [DL, isEff, isRead, EV, TY, lget, h0, h3, hk4, j1, fa1, fa2, fb1, fb2, callV_141, va, k1, k2, k3, ↓reduceIte, Nat.reduceEqDiff]; with_reducible rfl) ?_
    repeat (first | refine WS.adm rfl ?_ | refine WS.region (by simp only [EV, TY, hk4, minc, ↓reduceIte, Nat.reduceEqDiff]; with_reducible rfl) ?_)
    refine ih (r.length - (0 + 1)) _ _ (by omega) ⟨0 + 1, rfl, by omega, ?_, ?_, ?_, rfl⟩
    iterate 3 simp only [EV, h0, ↓reduceIte, Nat.reduceEqDiff, AT]
  ·have hmlt' : ¬ ((m : Nat) : Int) < ((r.length : Nat) : Int) := by omega
   repeat (first | refine WS.adm rfl ?_ | refine WS.region (by simp only [EV, TY, h0, hk4, lr, hmlt', ↓reduceIte, Nat.reduceEqDiff]; with_reducible rfl) ?_)
   refine WS.cf0 ?_
   refine WS.exit rfl ?_
   have : m = r.length := by omega
   subst this
   rw [List.take_length] at h3
   refine last _ _ ⟨?_, rfl⟩
   simp only [EV, h3, ↓reduceIte, Nat.reduceEqDiff, AT]
   rfl
theorem refSame_ok {S : Store} {v w : V} {a b : List (List Ava)} (ha : isDn S v a) (hb : isDn S w b) (oa : okN a) (ob : okN b) : vrun E0 (.fn 40) [v, w] S = some (.bool (decide (normN a = normN b)), S) := by
 refine fn_ws Tryz.func40 rfl ?_
 obtain ⟨v', nv, dv⟩ := refNorm_ok ha oa
 obtain ⟨w', nw, dw⟩ := refNorm_ok hb ob
 have h1 := One_ok (dv S) (dw S) (normN_ok oa) (normN_ok ob)
 repeat (first | refine WS.adm rfl ?_ | refine WS.region (by simp only [EV, TY, lget, callV_84, nv, nw, callV_38, h1, ↓reduceIte, Nat.reduceEqDiff]; with_reducible rfl) ?_)
 refine WS.ret1s (t := 4) rfl rfl (List.prefix_refl _) (frz_bool _ _ _) ?_
 simp only [EV, ↓reduceIte, Nat.reduceEqDiff, AT]
theorem refUnder_ok {S : Store} {v w : V} {a b : List (List Ava)} (ha : isDn S v a) (hb : isDn S w b) (oa : okN a) (ob : okN b) : vrun E0 (.fn 20) [v, w] S = some (.bool (underB a b), S) := by
 refine fn_ws Tryz.func20 rfl ?_
 have la := ha.len
 have lb := hb.len
 by_cases hl : a.length < b.length
 ·have hl' : ((a.length : Nat) : Int) < ((b.length : Nat) : Int) := by omega
  repeat (first | refine WS.adm rfl ?_ | refine WS.region (by simp only [EV, TY, lget, la, lb, hl', ↓reduceIte, Nat.reduceEqDiff]; with_reducible rfl) ?_)
  refine WS.cond_true (by simp only [EV, hl', ↓reduceIte, Nat.reduceEqDiff]) ?_
  repeat (first | refine WS.adm rfl ?_ | refine WS.rl ?_)
  refine ret_bool (t := 4) rfl rfl (List.prefix_refl _) (c := underB a b) (b := false) ?_ ?_
  ·unfold underB; rw [decide_eq_false_iff_not]; rintro ⟨h, _⟩; omega
  ·simp only [EV, ↓reduceIte, Nat.reduceEqDiff, AT]
 ·have hl' : ¬ ((a.length : Nat) : Int) < ((b.length : Nat) : Int) := by omega
  have hs := wrap_subN a.length b.length (by omega) (by have := oa.1; omega)
  obtain ⟨v', s1, s2⟩ := ha.drop (a.length - b.length) (by omega)
  have hsame := refSame_ok s2 hb (oa.drop _) ob
  repeat (first | refine WS.adm rfl ?_ | refine WS.region (by simp only [EV, TY, lget, la, lb, hl', ↓reduceIte, Nat.reduceEqDiff]; with_reducible rfl) ?_)
  refine WS.cond_false (by simp only [EV, hl', ↓reduceIte, Nat.reduceEqDiff]) ?_
  repeat (first | refine WS.adm rfl ?_ | refine WS.region (by simp only [EV, TY, lget, la, lb, hs, s1, callV_40, hsame, ↓reduceIte, Nat.reduceEqDiff]; with_reducible rfl) ?_)
  refine ret_bool (t := 4) rfl rfl (List.prefix_refl _) (c := underB a b) (b := decide (normN (a.drop (a.length - b.length)) = normN b)) ?_ ?_
  ·unfold underB; congr 1; simp; omega
  ·simp only [EV, ↓reduceIte, Nat.reduceEqDiff, AT]
theorem shrN (q : Nat) (k d : Nat) (hd : (2 : Int) ^ k = (d : Int)) (hk : k ≤ 64) (l : Bool) : opBin E0 l .shr 3 (.int .i64 (q : Nat)) (.int .u64 (k : Nat)) = some (.int .i64 ((q / d : Nat) : Int)) := by
 rw [bin_shr _ _ _ _ _ (by omega)]
 have : min ((k : Nat) : Int).toNat IntKind.i64.bits = k := by
  show min ((k : Nat) : Int).toNat 64 = k
  omega
 rw [this, hd, Int.fdiv_eq_ediv_of_nonneg _ (by omega)]
 norm_cast
theorem cv8 (q : Nat) (S : Store) : opConvert E0 S 3 5 (.int .i64 (q : Nat)) = some (.int .u8 ((UInt8.ofNat q).toNat : Nat), S) := by
 rw [conv_int (E := E0) 3 .u8 Tryz.underlying3 Tryz.underlying5]
 have : IntKind.u8.wrap ((q : Nat) : Int) = (((UInt8.ofNat q).toNat : Nat) : Int) := by
  rw [wrap_u8, UInt8.toNat_ofNat']
  omega
 rw [this]
theorem mk4 (S : Store) (a b c d : UInt8) : opBuildSlice E0 S 140 4 [(0, .int .u8 a.toNat), (1, .int .u8 b.toNat), (2, .int .u8 c.toNat), (3, .int .u8 d.toNat)] = some (.slR S.length 0 4 4 1, S ++ [.cells (bytesV [a, b, c, d]) 5]) := by kernel_rfl
theorem number_ok (q : Nat) (S : Store) : vrun E0 (.fn 83) [.int .i64 (q : Nat)] S = some (.str (num4 q), S) := by
 refine fn_ws Tryz.func83 rfl ?_
 have s1 : ∀ l, opBin E0 l .shr 3 (.int .i64 (q : Nat)) (.int .u64 24) = some (.int .i64 ((q / 16777216 : Nat) : Int)) := fun l => shrN q 24 16777216 (by decide) (by omega) l
 have s2 : ∀ l, opBin E0 l .shr 3 (.int .i64 (q : Nat)) (.int .u64 16) = some (.int .i64 ((q / 65536 : Nat) : Int)) := fun l => shrN q 16 65536 (by decide) (by omega) l
 have s3 : ∀ l, opBin E0 l .shr 3 (.int .i64 (q : Nat)) (.int .u64 8) = some (.int .i64 ((q / 256 : Nat) : Int)) := fun l => shrN q 8 256 (by decide) (by omega) l
 have hm : opBuildSlice E0 S 140 4 [(0, .int .u8 (UInt8.ofNat (q / 16777216)).toNat), (1, .int .u8 (UInt8.ofNat (q / 65536)).toNat), (2, .int .u8 (UInt8.ofNat (q / 256)).toNat), (3, .int .u8 (UInt8.ofNat q).toNat)] = some (.slR S.length 0 4 4 1, S ++ [.cells (bytesV (num4 q)) 5]) := mk4 S _ _ _ _
 have hb : Buf 5 S.length (S ++ [.cells (bytesV (num4 q)) 5]) (.slR S.length 0 4 4 1) (num4 q) := .inr ⟨S.length, 4, [], Nat.le_refl _, rfl, by simp, rfl⟩
 have hc := hb.conv bt50 Tryz.underlying9
 repeat (first | refine WS.adm rfl ?_ | refine WS.region (by simp only [EV, TY, lget, s1, s2, s3, cv8, hm, hc, ↓reduceIte, Nat.reduceEqDiff]; with_reducible rfl) ?_)
 refine WS.ret1s (t := 2) rfl rfl (List.prefix_append _ _) (frz_str _ _ _) ?_
 simp only [EV, ↓reduceIte, Nat.reduceEqDiff, AT]
theorem back_gen {L : Nat} {w : V} {m : List (List Ava)} {T : Store} {I : Nat → Store → Prop} (hw : ∀ S, isDn S w m) (hm : m.length ≤ 1048576) (h0 : I m.length T)
  (round : ∀ i U c, i < m.length → I (i + 1) U → (∀ S, isRdn S c (m.getD i [])) → ∃ U', vrun E0 (.yl L) [.int .i64 (i : Int), c] U = some (.bool true, U') ∧ I i U') :
  ∃ T', vrun E0 (.fn 113) [.yld L, .imm [w]] T = some (.tup [], T') ∧ I 0 T' := by
 suffices h : ∃ r, (∃ T', r = (.tup [], T') ∧ I 0 T') ∧ vrun E0 (.fn 113) [.yld L, .imm [w]] T = some r by
  obtain ⟨r, ⟨T', rfl, h2⟩, h3⟩ := h
  exact ⟨T', h3, h2⟩
 refine fn_wsP Tryz.func113 rfl ?_
 have l0 : opLoad E0 T 27 (.imm [w]) = some w := ld_imm isAggO_27 _ _
 have ln := (hw T).len
 have w0 : IntKind.i64.wrap ((m.length : Int) - 1) = (m.length : Int) - 1 := wrap_full (by omega) (by omega)
 repeat (first | refine WS.adm rfl ?_ | refine WS.region (by simp only [EV, TY, lget, l0, ln, w0, ↓reduceIte, Nat.reduceEqDiff]; with_reducible rfl) ?_)
 refine WS.loopB (fun j fx U => ∃ i, j = i ∧ i ≤ m.length ∧ lget fx 0 = .yld L ∧ lget fx 1 = .imm [w] ∧ lget fx 3 = .int .i64 ((i : Int) - 1) ∧ I i U)
  (fun fx U => I 0 U) (j := m.length) ?_ ?_ ?_
 ·refine ⟨m.length, rfl, Nat.le_refl _, ?_, ?_, ?_, h0⟩
  iterate 3 simp only [EV, lget, ↓reduceIte, Nat.reduceEqDiff, AT]
 ·rintro fx U hI
  exact WS.done ⟨_, ⟨U, rfl, hI⟩, .inl rfl, [], rfl, rfl⟩
 ·rintro i fx U ⟨j, rfl, hi, q0, q1, q3, hI⟩ again leave
  cases i with
  | zero =>
   have hlt : ¬ (0 : Int) ≤ ((0 : Nat) : Int) - 1 := by omega
   repeat (first | refine WS.adm rfl ?_ | refine WS.region (by simp only [EV, TY, q3, hlt, ↓reduceIte, Nat.reduceEqDiff]; with_reducible rfl) ?_)
   refine WS.cf0 ?_
   refine WS.exit rfl ?_
   exact leave _ _ hI
  | succ i =>
   have e1 : (((i + 1 : Nat) : Int) - 1) = (i : Int) := by omega
   rw [e1] at q3
   have hge : (0 : Int) ≤ (i : Int) := by omega
   have hi : i < m.length := hi
   obtain ⟨a, c, i1, i2, i3⟩ := done_at hw i hi
   obtain ⟨U2, r1, r2⟩ := round i U c hi hI i3
   have l1 : opLoad E0 U 27 (.imm [w]) = some w := ld_imm isAggO_27 _ _
   have l2 := i2 U
   have w1 : IntKind.i64.wrap ((i : Int) - 1) = (i : Int) - 1 := wrap_full (by omega) (by omega)
   repeat (first | refine WS.adm rfl ?_ | refine WS.region (by simp only [EV, TY, q3, hge, ↓reduceIte, Nat.reduceEqDiff]; with_reducible rfl) ?_)
   refine WS.ct0 ?_
   repeat (first | refine WS.adm rfl ?_ | refine WS.region (by simp only [EV, TY, q0, q1, q3, l1, i1, l2, callV_yld, r1, Bool.not_true, ↓reduceIte, Nat.reduceEqDiff]; with_reducible rfl) ?_)
   refine WS.cf0 ?_
   repeat (first | refine WS.adm rfl ?_ | refine WS.region (by simp only [EV, TY, q3, w1, ↓reduceIte, Nat.reduceEqDiff]; with_reducible rfl) ?_)
   refine again i _ _ (by omega) ⟨i, rfl, by omega, ?_, ?_, ?_, r2⟩
   iterate 3 simp only [EV, q0, q1, ↓reduceIte, Nat.reduceEqDiff, AT]
def Byt (T : Store) (id n : Nat) (bs : List UInt8) : Prop := ∃ buf, T[id]? = some (.cells [buf] 140) ∧ Buf 5 n T buf bs
theorem Buf_shape {e : TypeId} {n : Nat} {S : Store} {v : V} {bs : List UInt8} (h : Buf e n S v bs) : solid v = true ∧ vcells v = [v] := by
 rcases h with ⟨rfl, _⟩ | ⟨i, c, r, _, rfl, _⟩ <;> exact ⟨rfl, rfl⟩
theorem Byt.add {T : Store} {id n : Nat} {bs : List UInt8} (h : Byt T id n bs) (hid : id < n) (hn : n ≤ T.length) (s : List UInt8) (hl : bs.length + s.length ≤ 140737488355328) :
  ∃ buf v' T2 T3, opLoad E0 T 140 (.ref id 0) = some buf ∧ opAppend E0 T [140, 9] buf (.str s) = some (v', T2) ∧ opStore E0 T2 140 (.ref id 0) v' = some T3 ∧ Byt T3 id n (bs ++ s) ∧ Oth id n T T3 := by
 obtain ⟨buf, h1, h2⟩ := h
 obtain ⟨v', T2, g1, g2, g3⟩ := h2.appS bt50 Tryz.underlying9 hn s hl
 have h3 : T2[id]? = some (.cells [buf] 140) := by rw [g3.2 id hid]; exact h1
 obtain ⟨q1, q2⟩ := Buf_shape g2
 refine ⟨buf, v', T2, _, var_ld1 isAggO_140 h1 rfl, g1, var_set1 tsize_140 h3 (by simp) q1 q2, ⟨v', ?_, Buf_set (E := E0) g2 hid _⟩, ⟨by rw [List.length_set]; exact g3.1, fun q a b => ?_⟩⟩
 ·rw [List.getElem?_set_self (lt_of_get h3)]; rfl
 ·rw [List.getElem?_set_ne (Ne.symm b), g3.2 q a]
theorem Byt.more {T : Store} {id n : Nat} {bs : List UInt8} (h : Byt T id n bs) (l : Store) : Byt (T ++ l) id n bs := by
 obtain ⟨buf, h1, h2⟩ := h
 exact ⟨buf, get_more h1 l, h2.more l⟩
theorem Byt.set {T : Store} {id n L : Nat} {bs : List UInt8} (h : Byt T id n bs) (hL : L < n) (hne : L ≠ id) (o : Ob) : Byt (T.set L o) id n bs := by
 obtain ⟨buf, h1, h2⟩ := h
 exact ⟨buf, get_set_ne h1 hne, Buf_set (E := E0) h2 hL _⟩
theorem Oth.app {id n : Nat} {T : Store} (hn : n ≤ T.length) (l : Store) : Oth id n T (T ++ l) := ⟨by simp; omega, fun q h1 _ => List.getElem?_append_left (by omega)⟩
theorem Oth.set {id n L : Nat} {T : Store} (hn : n ≤ T.length) (o : Ob) (hL : n ≤ L) : Oth id n T (T.set L o) := ⟨by simpa using hn, fun q h1 _ => List.getElem?_set_ne (by omega)⟩
noncomputable def ranges39 : List (Nat × (Nat × Array Tmp × Code × Code)) := rangesIn 44 (Tryz.f39.body.getD .skip)
noncomputable def asgK : Code := match ranges39 with | [(_, _, _, a, _)] => a | _ => .skip
noncomputable def bodyK : Code := match ranges39 with | [(_, _, _, _, b)] => b | _ => .skip
theorem loopK : E0.loops 141006004 = some (44, #[11, 12], asgK, bodyK) := by kernel_rfl
theorem kofA_len (a : Ava) : (kofA a).length ≤ 8 * szA a := by simp [kofA, num4, szA]; omega
theorem kofF_len (r : List Ava) : (r.flatMap kofA).length + 8 ≤ 8 * szR r := by
 induction r with
 | nil => simp [szR]
 | cons a r ih =>
  have := kofA_len a
  simp only [List.flatMap_cons, List.length_append, szR, List.map_cons, List.sum_cons] at ih ⊢
  omega
theorem kofR_len (r : List Ava) : (kofR r).length ≤ 8 * szR r := by
 have := kofF_len r
 simp [kofR, num4]
 simp at this
 omega
theorem kofT_len : ∀ m : List (List Ava), (kofT m).length ≤ 8 * szN m
 | [] => by simp [kofT]
 | r :: m => by
  have ih := kofT_len m
  have h1 := kofR_len r
  have e : kofT (r :: m) = kofT m ++ kofR r := by simp [kofT]
  rw [e]
  simp only [List.length_append, szN, List.map_cons, List.sum_cons] at ih ⊢
  omega
theorem kofT_step (m : List (List Ava)) (i : Nat) (hi : i < m.length) : kofT (m.drop i) = kofT (m.drop (i + 1)) ++ kofR (m.getD i []) := by
 have e : m.drop i = m.getD i [] :: m.drop (i + 1) := by rw [List.drop_eq_getElem_cons hi]; simp [List.getD, hi]
 rw [e]
 simp [kofT]
theorem tk1 : Nat.testBit 15 0 = true := rfl
theorem tk2 : Nat.testBit 15 2 = true := rfl
theorem tk3 : Nat.testBit 31 0 = true := rfl
theorem tk4 : Nat.testBit 31 2 = true := rfl
theorem tm0 : Nat.testBit 65535 0 = true := rfl
theorem tm2 : Nat.testBit 65535 2 = true := rfl
theorem tm3 : Nat.testBit 65535 3 = true := rfl
theorem tm6 : Nat.testBit 65535 6 = true := rfl
theorem tm9 : Nat.testBit 65535 9 = true := rfl
theorem tm10 : Nat.testBit 65535 10 = true := rfl
theorem tn0 : Nat.testBit 131071 0 = true := rfl
theorem tn2 : Nat.testBit 131071 2 = true := rfl
theorem tn3 : Nat.testBit 131071 3 = true := rfl
theorem tn6 : Nat.testBit 131071 6 = true := rfl
theorem tn9 : Nat.testBit 131071 9 = true := rfl
theorem tn10 : Nat.testBit 131071 10 = true := rfl
theorem tm14 : Nat.testBit 65535 14 = true := rfl
theorem tn14 : Nat.testBit 131071 14 = true := rfl
theorem num4_len (q : Nat) : (num4 q).length = 4 := rfl
theorem kround_ok {T : Store} {id n L : Nat} {bs : List UInt8} {fr : Fr} {r : List Ava} {c : V} {i : Int} (hL : T[L]? = some (.lp false 141006004 fr)) (hf : lget fr 3 = .ref id 0) (h : Byt T id n bs) (hid : id < n) (hLn : L < n) (hne : L ≠ id) (hn : n ≤ T.length)
  (hc : ∀ S, isRdn S c r) (o : okR r) (h4 : szR r ≤ 4194304) (hl : bs.length ≤ 1073741824) :
  ∃ T', (Byt T' id n (bs ++ kofR r) ∧ T'[L]? = some (.lp false 141006004 fr) ∧ Oth id n T T') ∧ vrun E0 (.yl L) [.int .i64 i, c] T = some (.bool true, T') := by
 have b1 : Byt (T.set L (.lp true 141006004 fr)) id n bs := h.set hLn hne _
 have hlt := lt_of_get hL
 have g1 : (T.set L (.lp true 141006004 fr))[L]? = some (.lp true 141006004 fr) := by simp [hlt]
 have n1 : n ≤ (T.set L (.lp true 141006004 fr)).length := by simpa using hn
 have ot1 : ∀ q, q < n → q ≠ id → q ≠ L → (T.set L (.lp true 141006004 fr))[q]? = T[q]? := fun q _ _ h3 => List.getElem?_set_ne (Ne.symm h3)
 refine vrun_ylP hL loopK rfl ?_
 simp only [asgK, bodyK, ranges39, Tryz.f39, rangesIn, Option.getD_some, List.nil_append, List.append_nil]
 refine W.of_ws ?_
 simp only [putAll]
 repeat (first | refine WS.adm rfl ?_ | refine WS.rl ?_)
 refine WS.done ⟨rfl, 141006004, fr, hL, ?_⟩
 refine W.of_ws ?_
 generalize T.set L (.lp true 141006004 fr) = T1 at b1 g1 n1 ot1
 have lr := fun S => (hc S).len
 have nm := number_ok r.length T1
 obtain ⟨buf, v', T2, T3, e1, e2, e3, e4, e5⟩ := b1.add hid n1 (num4 r.length) (by rw [num4_len]; omega)
 repeat refine WS.adm rfl ?_
 refine WS.drawb (b := [0, 0, 2, 6, 15, 31]) (by kernel_rfl) (by simp only [DL, isEff, isRead, Nat.reduceAdd, EV, TY,  lget, hf, e1, lr, callV_83, nm, e2, e3, tk1, tk2, tk3, tk4, ↓reduceIte, Nat.reduceEqDiff]; with_reducible rfl) ?_
 repeat (first | refine WS.adm rfl ?_ | refine WS.region (by simp only [EV, TY, lget, lr, ↓reduceIte, Nat.reduceEqDiff]; with_reducible rfl) ?_)
 refine WS.loopB (fun j fx U => ∃ k, j = r.length - k ∧ k ≤ r.length ∧ lget fx 3 = .ref id 0 ∧ lget fx 18 = c ∧ lget fx 19 = .int .i64 (r.length : Nat) ∧ lget fx 20 = .int .i64 (k : Nat) ∧ Byt U id n (bs ++ num4 r.length ++ (r.take k).flatMap kofA) ∧ Oth id n T1 U)
  (fun fx U => Byt U id n (bs ++ num4 r.length ++ r.flatMap kofA) ∧ Oth id n T1 U) (j := r.length) ?_ ?_ ?_
 ·refine ⟨0, by omega, by omega, ?_, ?_, ?_, ?_, by simpa using e4, e5⟩
  all_goals
   simp only [EV, lget, hf, ↓reduceIte, Nat.reduceEqDiff, AT]
   try rfl
 ·rintro fx U ⟨q1, q2⟩
  have hUL : U[L]? = some (.lp true 141006004 fr) := by rw [q2.2 L hLn hne]; exact g1
  have hb := q1.set hLn hne (.lp false 141006004 fr)
  rw [List.append_assoc] at hb
  repeat refine WS.adm rfl ?_
  refine WS.done ⟨rfl, 141006004, fr, hUL, hb, ?_, ?_⟩
  ·rw [List.getElem?_set_self (lt_of_get hUL)]
  ·refine ⟨by rw [List.length_set]; exact q2.1, fun q a b => ?_⟩
   by_cases hq : q = L
   ·subst hq; rw [List.getElem?_set_self (lt_of_get hUL), hL]
   ·rw [List.getElem?_set_ne (Ne.symm hq), q2.2 q a b, ot1 q a b hq]
 ·rintro j fx U ⟨k, rfl, hk, q3, q18, q19, q20, qb, qo⟩ ih last
  by_cases hklt : k < r.length
  ·have hklt' : ((k : Nat) : Int) < ((r.length : Nat) : Int) := by omega
   obtain ⟨qa, j1, ta, j2⟩ := (hc U).at_ k hklt
   have j3 := ava_load j2
   have oka := o.at_ k hklt
   have htm : (r.take (k + 1)).flatMap kofA = (r.take k).flatMap kofA ++ kofA (r.getD k ([], [])) := by
    rw [List.take_succ_eq_append_getElem hklt, List.flatMap_append]
    rw [show r.getD k ([], []) = r[k] by simp [List.getD, hklt]]
    simp
   have hbl := kofF_len (r.take k)
   have hsz := szR_take r k
   generalize r.getD k ([], []) = x at j3 oka htm
   have hal := alloc_40 U
   have hsto := st_40 U [.str [], .str []] rfl x.1 x.2
   generalize hW : U ++ [Ob.cells [V.str x.1, V.str x.2] 96] = W at hsto
   have hoW : Oth id n T1 W := by rw [← hW]; exact qo.trans (Oth.app qo.1 _)
   have hbW : Byt W id n (bs ++ num4 r.length ++ (r.take k).flatMap kofA) := by rw [← hW]; exact qb.more _
   have hcell : W[U.length]? = some (.cells [V.str x.1, V.str x.2] 96) := by rw [← hW]; simp
   obtain ⟨⟨fa, fa1, fa2⟩, ⟨fb, fb1, fb2⟩⟩ := fr_agg W 96 [] x.1 x.2 U.length hcell
   have na := number_ok x.1.length W
   have nb := number_ok x.2.length W
   have oa := oka.1
   have ob := oka.2
   have k1 : ∀ l, opBin E0 l .add 9 (.str (num4 x.1.length)) (.str x.1) = some (.str (num4 x.1.length ++ x.1)) := fun l => bin_sadd _ _ _ _ (by rw [num4_len]; omega)
   have k2 : ∀ l, opBin E0 l .add 9 (.str (num4 x.1.length ++ x.1)) (.str (num4 x.2.length)) = some (.str (num4 x.1.length ++ x.1 ++ num4 x.2.length)) := fun l => bin_sadd _ _ _ _ (by simp only [List.length_append, num4_len]; omega)
   have k3 : ∀ l, opBin E0 l .add 9 (.str (num4 x.1.length ++ x.1 ++ num4 x.2.length)) (.str x.2) = some (.str (kofA x)) := fun l => by
    rw [bin_sadd _ _ _ _ (by simp only [List.length_append, num4_len]; omega)]
    simp [kofA]
   have hkl := kofA_len x
   have hxs : szA x ≤ 4194304 := by simp only [szA]; omega
   obtain ⟨buf2, v2, T4, T5, f1, f2, f3, f4, f5⟩ := hbW.add hid hoW.1 (kofA x) (by simp only [List.length_append, num4_len] at hbl ⊢; omega)
   have kinc := wrap_inc k (by have := o.1; omega)
   repeat (first | refine WS.adm rfl ?_ | refine WS.region (by simp only [EV, TY, q19, q20, hklt', ↓reduceIte, Nat.reduceEqDiff]; with_reducible rfl) ?_)
   refine WS.ct0 ?_
   repeat (first | refine WS.adm rfl ?_ | refine WS.region (by simp only [EV, TY, q18, q20, j1, j3, hal, hsto, ↓reduceIte, Nat.reduceEqDiff]; with_reducible rfl) ?_)
   refine WS.drawb (b := [0, 0, 2, 6, 14, 0, 32, 126, 0, 256, 768, 1822, 4094, 0, 8192, 32766, 65535, 131071]) (by kernel_rfl) (by simp only [DL, isEff, isRead, Nat.reduceAdd, EV, TY,  lget, q3, f1, fa1, fa2, fb1, fb2, callV_83, na, nb, k1, k2, k3, f2, f3, tm0, tm2, tm3, tm6, tm9, tm10, tm14, tn14, tn0, tn2, tn3, tn6, tn9, tn10, ↓reduceIte, Nat.reduceEqDiff]; with_reducible rfl) ?_
   repeat (first | refine WS.adm rfl ?_ | refine WS.region (by simp only [EV, TY, q20, kinc, ↓reduceIte, Nat.reduceEqDiff]; with_reducible rfl) ?_)
   refine ih (r.length - (k + 1)) _ _ (by omega) ⟨k + 1, rfl, by omega, ?_, ?_, ?_, ?_, ?_, hoW.trans f5⟩
   iterate 4 simp only [EV, q3, q18, q19, ↓reduceIte, Nat.reduceEqDiff, AT]
   ·rw [htm, ← List.append_assoc]; exact f4
  ·have hklt' : ¬ ((k : Nat) : Int) < ((r.length : Nat) : Int) := by omega
   repeat (first | refine WS.adm rfl ?_ | refine WS.region (by simp only [EV, TY, q19, q20, hklt', ↓reduceIte, Nat.reduceEqDiff]; with_reducible rfl) ?_)
   refine WS.cf0 ?_
   refine WS.exit rfl ?_
   have : k = r.length := by omega
   subst this
   rw [List.take_length] at qb
   exact last _ _ ⟨qb, qo⟩
def kofN (n : List (List Ava)) : List UInt8 := kofT (normN n)
theorem keyOf_ok {S : Store} {v : V} {n : List (List Ava)} (hn : isDn S v n) (fn : fitN n) : vrun E0 (.fn 39) [v] S = some (.str (kofN n), S) := by
 refine fn_ws Tryz.func39 rfl ?_
 have al := var_al1 (E := E0) zeroV_140 rfl S
 obtain ⟨w, nw, dw⟩ := Norm_ok (hn.more [.cells [.slN] 140]) fn.1 (sorts_all fn.1)
 have bw := Backward_ok (done_kind dw) (S ++ [.cells [.slN] 140])
 have fm := fn.norm
 have hlen : (S ++ [Ob.cells [.slN] 140]).length = S.length + 1 := by simp
 show WS E0 _ _ S (FnEnds E0 39 Tryz.f39 S (.str (kofT (normN n)), S))
 generalize normN n = m at dw fm
 repeat (first | refine WS.adm rfl ?_ | refine WS.region (by simp only [EV, TY, lget, al, callV_82, nw, callV_81, bw, ↓reduceIte, Nat.reduceEqDiff]; with_reducible rfl) ?_)
 repeat refine WS.adm rfl ?_
 have hrf : ∀ {fr : Fr} {k : List Todo} {Q : Ex → Fr → Store → Prop} {ps : Array Tmp} {asg body : Code}, Vm.keyOf body = 141006004 → lget fr 10 = .fn (.func 113) [] [.imm [w]] → lget fr 3 = .ref S.length 0 → (∀ T', Byt T' S.length (S.length + 2) (kofT m) → Oth S.length (S.length + 1) S T' → WS E0 k fr T' Q) → WS E0 (.code (.rangeFunc (.tmp 10) ps asg body) :: k) fr (S ++ [Ob.cells [.slN] 140]) Q := by
  intro fr k Q ps asg body hk hg hf hcont
  have hL0 : (S ++ [Ob.cells [.slN] 140] ++ [.lp false 141006004 fr])[S.length + 1]? = some (.lp false 141006004 fr) := by
   rw [← hlen]; exact getS0 _
  have hback := back_gen (L := S.length + 1) (T := S ++ [Ob.cells [.slN] 140] ++ [.lp false 141006004 fr]) (I := fun i U => Byt U S.length (S.length + 2) (kofT (m.drop i)) ∧ U[S.length + 1]? = some (.lp false 141006004 fr) ∧ Oth S.length (S.length + 2) (S ++ [Ob.cells [.slN] 140] ++ [.lp false 141006004 fr]) U) dw fm.1.1 (by
   refine ⟨?_, hL0, ?_⟩
   ·rw [List.drop_length]
    exact ⟨.slN, by rw [List.append_assoc]; exact getS0 _, .inl ⟨rfl, rfl⟩⟩
   ·exact ⟨by simp, fun _ _ _ => rfl⟩) (by
   rintro i U c hi ⟨p1, p2, p3⟩ hc
   have hr : m.getD i [] ∈ m := by
    rw [show m.getD i [] = m[i] by simp [List.getD, hi]]; exact List.getElem_mem _
   obtain ⟨om, h4⟩ := fm.rdn hr
   have hkl := kofT_len (m.drop (i + 1))
   have hkl2 := szN_drop m (i + 1)
   have hkl3 := fm.2
   obtain ⟨U2, ⟨k1, k2, k3⟩, k4⟩ := kround_ok (i := (i : Int)) p2 hf p1 (by omega) (by omega) (by omega) p3.1 hc om h4 (by omega)
   rw [← kofT_step m i hi] at k1
   exact ⟨U2, k4, k1, k2, p3.trans k3⟩)
  obtain ⟨T', r1, r2, r3, r4⟩ := hback
  refine WS.rangeFunc (f := 113) (fn := Tryz.f113) (first := []) (captured := [.imm [w]]) (v := .tup []) (S' := T') (key := 141006004) (f' := fr) hg Tryz.func113 rfl (by rw [hk, hlen]; exact r1) (by rw [hlen]; exact r3) ?_
  rw [hlen]
  refine hcont _ ((by simpa using r2 : Byt T' S.length (S.length + 2) (kofT m)).set (by omega) (by omega) _) ⟨by rw [List.length_set]; have := r4.1; omega, fun q a b => ?_⟩
  rw [List.getElem?_set_ne (by omega), r4.2 q (by omega) b, List.append_assoc, List.getElem?_append_left (by omega)]
 refine hrf rfl ?_ ?_ fun T' hB hO => ?_
 iterate 2 simp only [EV, lget, ↓reduceIte, Nat.reduceEqDiff, AT]
 ·obtain ⟨buf, d1, d2⟩ := hB
  have l1 : opLoad E0 T' 140 (.ref S.length 0) = some buf := var_ld1 isAggO_140 d1 rfl
  have e5 := d2.conv bt50 Tryz.underlying9
  have hpre : S <+: T' := Low.pre ⟨by have := hO.1; omega, fun q hq => hO.2 q (by omega) (by omega)⟩
  repeat (first | refine WS.adm rfl ?_ | refine WS.region (by simp only [EV, TY, lget, l1, e5, ↓reduceIte, Nat.reduceEqDiff]; with_reducible rfl) ?_)
  refine WS.ret1s (t := 2) rfl rfl hpre (frz_str _ _ _) ?_
  simp only [EV, lget, ↓reduceIte, Nat.reduceEqDiff, AT]
end Go.Proofs.YtmmjlgocihhkcaaGreatDoor
