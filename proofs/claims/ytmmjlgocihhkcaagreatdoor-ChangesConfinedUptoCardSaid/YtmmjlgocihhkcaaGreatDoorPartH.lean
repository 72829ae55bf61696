import Derived.Test.YtmmjlgocihhkcaaGreatDoorPartG
import Derived.Test.YtmmjlgocihhkcaaGreatDoorPartA
set_option linter.all false
namespace Go.Proofs.YtmmjlgocihhkcaaGreatDoor
open Go Go.Vm
set_option maxRecDepth 100000
set_option maxHeartbeats 4000000
def addC (p : Bool) (b : List UInt8) (c : UInt8) : List UInt8 := (if p = true ∧ b ≠ [] then b ++ [32] else b) ++ [c]
def rfold : Bool → List UInt8 → List UInt8 → List UInt8
 | _, b, [] => b
 | p, b, c :: r => if c = 32 then rfold true b r else rfold false (addC p b c) r
theorem rfold_app (w : List UInt8) (hw : ∀ c ∈ w, c ≠ 32) : ∀ (p : Bool) (b r : List UInt8), w ≠ [] → rfold p b (w ++ r) = rfold false ((if p = true ∧ b ≠ [] then b ++ [32] else b) ++ w) r := by
 induction w with
 | nil => intro p b r h; exact absurd rfl h
 | cons c w ih =>
  intro p b r _
  have hc := hw c (by simp)
  rw [List.cons_append, rfold, if_neg hc]
  cases w with
  | nil => rw [List.nil_append]; rfl
  | cons d w =>
   rw [ih (fun x hx => hw x (by simp [hx])) false _ r (by simp)]
   simp [addC]
theorem foldW_cons (out w : List UInt8) (ws : List (List UInt8)) : foldW out (w :: ws) = if w = [] then foldW out ws else foldW ((if out ≠ [] then out ++ [32] else out) ++ w) ws := by
 rw [foldW]
 by_cases h : w = []
 ·simp [h]
 ·cases out <;> simp [h]
theorem rfold_split : ∀ (n : Nat) (s : List UInt8), s.length = n → ∀ (p : Bool) (b : List UInt8), (p = true ∨ b = []) → rfold p b s = foldW b (splitB 32 s) := by
 intro n
 induction n using Nat.strongRecOn with
 | ind n ih =>
  intro s hs p b hp
  have hpp : (p = true ∧ b ≠ []) ↔ b ≠ [] := ⟨fun h => h.2, fun h => ⟨hp.resolve_right h, h⟩⟩
  cases hf : s.findIdx? (· == (32 : UInt8)) with
  | none =>
   rw [splitB_none hf, foldW_cons]
   have hw : ∀ c ∈ s, c ≠ 32 := fun c hc e => by
    have := List.findIdx?_eq_none_iff.1 hf c hc
    simp [e] at this
   by_cases h0 : s = []
   ·subst h0; simp [rfold, foldW]
   ·have := rfold_app s hw p b [] h0
    rw [List.append_nil] at this
    rw [this, if_neg h0]
    simp only [rfold, foldW, hpp]
  | some k =>
   obtain ⟨hk, hk2, hk3⟩ := List.findIdx?_eq_some_iff_getElem.1 hf
   rw [splitB_some hf, foldW_cons]
   have e : s = s.take k ++ 32 :: s.drop (k + 1) := by
    conv => lhs; rw [← List.take_append_drop k s, List.drop_eq_getElem_cons hk]
    rw [show s[k] = 32 by simpa using hk2]
   have hw : ∀ c ∈ s.take k, c ≠ 32 := fun c hc e => by
    obtain ⟨j, hj, rfl⟩ := List.getElem_of_mem hc
    have hj' : j < k := by simp at hj; omega
    have := hk3 j hj'
    simp at e
    simp [e] at this
   have hrec := fun q c hq => ih (s.drop (k + 1)).length (by simp; omega) (s.drop (k + 1)) rfl q c hq
   by_cases h0 : s.take k = []
   ·rw [if_pos h0, ← hrec true b (.inl rfl)]
    rw [h0, List.nil_append] at e
    conv => lhs; rw [e, rfold, if_pos rfl]
   ·rw [if_neg h0, ← hrec true _ (.inl rfl)]
    conv => lhs; rw [e, rfold_app _ hw _ _ _ h0, rfold, if_pos rfl]
    simp only [hpp]
theorem rfold_fold (s : List UInt8) : rfold false [] (smallS s) = foldS s := rfold_split _ _ rfl _ _ (.inr rfl)
def prB (t : List UInt8) (i : Nat) : Bool := decide (0 < i) && (t.getD (i - 1) 0 == 32)
theorem prB_succ (t : List UInt8) (i : Nat) : prB t (i + 1) = (t.getD i 0 == 32) := by simp [prB]
theorem wm1 (i : Nat) (h : 1 ≤ i) (h2 : i ≤ 140737488355328) : IntKind.i64.wrap ((i : Int) - 1) = ((i - 1 : Nat) : Int) := wrap_subN i 1 h h2
theorem u8_ne (c d : UInt8) (h : c ≠ d) : (((c.toNat : Nat) : Int) == ((d.toNat : Nat) : Int)) = false := by
 rw [beq_eq_false_iff_ne]
 intro e
 exact h (UInt8.toNat_inj.1 (by omega))
theorem refFold_ok (s : List UInt8) (S : Store) (hs : s.length ≤ 1048576) : vrun E0 (.fn 118) [.str s] S = some (.str (foldS s), S) := by
 refine fn_ws Tryz.func118 rfl ?_
 have hsm := Small_ok s S hs
 have hlt0 := smallS_len s
 rw [← rfold_fold]
 generalize hT : smallS s = t at hsm hlt0 ⊢
 repeat (first | refine WS.adm rfl ?_ | refine WS.region (by simp only [EV, TY, lget, callV_42, hsm, ↓reduceIte, Nat.reduceEqDiff]; with_reducible rfl) ?_)
 refine WS.loop (fun j fr U => ∃ i v b, i ≤ t.length ∧ j = t.length - i ∧ lget fr 3 = .str t ∧ lget fr 5 = .int .i64 (i : Nat) ∧ lget fr 4 = v ∧ Buf 5 S.length U v b ∧ b.length ≤ 2 * i ∧ rfold (prB t i) b (t.drop i) = rfold false [] t ∧ Low S.length S U) (j := t.length) ?_ ?_
 ·refine ⟨0, .slN, [], by omega, by omega, ?_, ?_, ?_, Buf.new _ _ _, by simp, rfl, Low.refl (Nat.le_refl _)⟩
  all_goals
   simp only [EV, lget, ↓reduceIte, Nat.reduceEqDiff, AT]
  rfl
 ·rintro j fr U ⟨i, v, b, hi, rfl, h3, h5, h4, hb, hbl, hr, hl⟩ ih
  repeat (first | refine WS.adm rfl ?_ | refine WS.region (by simp only [EV, TY, h3, h5, ↓reduceIte, Nat.reduceEqDiff]; with_reducible rfl) ?_)
  refine WS.cond (by simp only [EV, ↓reduceIte, Nat.reduceEqDiff]; with_reducible rfl) (fun ht => ?_) (fun ht => ?_)
  ·have hlt : i < t.length := by simpa using ht
   have e1 := idx_str_9 t .i64 i hlt
   have hd := drop_getD 0 t i hlt
   rw [hd] at hr
   have hpr := prB_succ t i
   repeat (first | refine WS.adm rfl ?_ | refine WS.region (by simp only [EV, TY, h3, h5, e1, ↓reduceIte, Nat.reduceEqDiff]; with_reducible rfl) ?_)
   generalize hc : t.getD i 0 = c at hr hpr
   have minc := wrap_inc i (by omega)
   by_cases hsp : c = 32
   ·subst hsp
    rw [rfold, if_pos rfl] at hr
    have hne : (((32 : UInt8).toNat : Int) != 32) = false := rfl
    refine WS.cond_false (by simp only [EV, hne, ↓reduceIte, Nat.reduceEqDiff]) ?_
    repeat (first | refine WS.adm rfl ?_ | refine WS.region (by simp only [EV, TY, h5, minc, ↓reduceIte, Nat.reduceEqDiff]; with_reducible rfl) ?_)
    refine ih (t.length - (i + 1)) _ _ (by omega) ⟨i + 1, v, b, by omega, rfl, ?_, ?_, ?_, hb, by omega, by rw [hpr]; exact hr, hl⟩
    iterate 3 simp only [EV, h3, h4, ↓reduceIte, Nat.reduceEqDiff, AT]
   ·rw [rfold, if_neg hsp] at hr
    have hne : ((c.toNat : Int) != 32) = true := by have := u8_ne c 32 hsp; simpa [bne] using this
    have hpr' : prB t (i + 1) = false := by rw [hpr]; simpa using hsp
    refine WS.cond_true (by simp only [EV, hne, ↓reduceIte, Nat.reduceEqDiff]) ?_
    have el := hb.len bt50
    have fin : ∀ (fr' : Fr) (S2 : Store) (w : V) (b2 : List UInt8), lget fr' 3 = .str t → lget fr' 5 = .int .i64 ((i + 1 : Nat)) → lget fr' 4 = w → Buf 5 S.length S2 w b2 → b2.length ≤ 2 * (i + 1) → b2 = addC (prB t i) b c → Low S.length S S2 →
      WS E0 _ fr' S2 _ := fun fr' S2 w b2 a1 a2 a3 a4 a5 a6 a7 => ih (t.length - (i + 1)) _ _ (by omega) ⟨i + 1, w, b2, by omega, rfl, a1, a2, a3, a4, a5, by rw [hpr', a6]; exact hr, a7⟩
    have e1' : opIndex E0 9 (.str t) (.int .i64 (i : Nat)) = some (.int .u8 c.toNat) := by rw [e1, hc]
    obtain ⟨w, S2, f1, f2, f3⟩ := hb.app1 bt50 hl.1 c (by omega)
    have plain : ((prB t i = true ∧ b ≠ []) → False) → b ++ [c] = addC (prB t i) b c := fun hno => by rw [addC, if_neg fun h => hno h]
    by_cases h0 : 0 < i
    ·have h0' : (0 : Int) < ((i : Nat) : Int) := by omega
     have m1 := wm1 i h0 (by omega)
     have e2 := idx_str_9 t .i64 (i - 1) (by omega)
     by_cases hq : t.getD (i - 1) 0 = 32
     ·have hq' : (((t.getD (i - 1) 0).toNat : Int) == 32) = true := by rw [hq]; rfl
      by_cases hb0 : b = []
      ·have hb0' : ¬ (0 : Int) < ((b.length : Nat) : Int) := by rw [hb0]; simp
       repeat (first | refine WS.adm rfl ?_ | refine WS.region (by simp only [EV, TY, h3, h4, h5, h0', m1, e2, hq', el, hb0', ↓reduceIte, Nat.reduceEqDiff]; with_reducible rfl) ?_)
       refine WS.cond_false (by simp only [EV, hq', hb0', ↓reduceIte, Nat.reduceEqDiff]) ?_
       repeat (first | refine WS.adm rfl ?_ | refine WS.region (by simp only [EV, TY, h3, h4, h5, e1', mk1_ bt50, f1, minc, ↓reduceIte, Nat.reduceEqDiff]; with_reducible rfl) ?_)
       refine fin _ _ w _ ?_ ?_ ?_ f2 (by simp; omega) (plain fun h => h.2 hb0) (hl.trans f3)
       all_goals
        simp only [EV, h3, ↓reduceIte, Nat.reduceEqDiff, AT]
      ·have hb0' : (0 : Int) < ((b.length : Nat) : Int) := by have := List.length_pos_iff.2 hb0; omega
       obtain ⟨w1, S1, g1, g2, g3⟩ := hb.app1 bt50 hl.1 32 (by omega)
       have g1' : opAppend E0 (U ++ [Ob.cells [V.int IntKind.u8 32] 5]) [140, 140] v (.slR U.length 0 1 1 1) = some (w1, S1) := g1
       obtain ⟨w2, S3, k1, k2, k3⟩ := g2.app1 bt50 g3.1 c (by simp; omega)
       repeat (first | refine WS.adm rfl ?_ | refine WS.region (by simp only [EV, TY, h3, h4, h5, h0', m1, e2, hq', el, hb0', ↓reduceIte, Nat.reduceEqDiff]; with_reducible rfl) ?_)
       refine WS.cond_true (by simp only [EV, hq', hb0', ↓reduceIte, Nat.reduceEqDiff]) ?_
       repeat (first | refine WS.adm rfl ?_ | refine WS.region (by simp only [EV, TY, h3, h4, h5, mk1_ bt50, g1', ↓reduceIte, Nat.reduceEqDiff]; with_reducible rfl) ?_)
       repeat (first | refine WS.adm rfl ?_ | refine WS.region (by simp only [EV, TY, lget, h3, h5, e1', mk1_ bt50, k1, minc, ↓reduceIte, Nat.reduceEqDiff]; with_reducible rfl) ?_)
       refine fin _ _ w2 _ ?_ ?_ ?_ k2 (by simp; omega) ?_ (hl.trans (g3.trans k3))
       iterate 3 simp only [EV, h3, ↓reduceIte, Nat.reduceEqDiff, AT]
       ·have : prB t i = true := by unfold prB; rw [hq]; simp [h0]
        rw [addC, if_pos ⟨this, hb0⟩]
     ·have hq' : (((t.getD (i - 1) 0).toNat : Int) == 32) = false := u8_ne _ 32 hq
      repeat (first | refine WS.adm rfl ?_ | refine WS.region (by simp only [EV, TY, h3, h4, h5, h0', m1, e2, hq', el, ↓reduceIte, Nat.reduceEqDiff]; with_reducible rfl) ?_)
      refine WS.cond_false (by simp only [EV, hq', ↓reduceIte, Nat.reduceEqDiff]) ?_
      repeat (first | refine WS.adm rfl ?_ | refine WS.region (by simp only [EV, TY, h3, h4, h5, e1', mk1_ bt50, f1, minc, ↓reduceIte, Nat.reduceEqDiff]; with_reducible rfl) ?_)
      refine fin _ _ w _ ?_ ?_ ?_ f2 (by simp; omega) (plain fun h => by have := h.1; unfold prB at this; rw [beq_eq_false_iff_ne.2 hq] at this; simp at this) (hl.trans f3)
      all_goals
       simp only [EV, h3, ↓reduceIte, Nat.reduceEqDiff, AT]
    ·have h0' : ¬ (0 : Int) < ((i : Nat) : Int) := by omega
     repeat (first | refine WS.adm rfl ?_ | refine WS.region (by simp only [EV, TY, h3, h4, h5, h0', el, ↓reduceIte, Nat.reduceEqDiff]; with_reducible rfl) ?_)
     refine WS.cond_false (by simp only [EV, h0', ↓reduceIte, Nat.reduceEqDiff]) ?_
     repeat (first | refine WS.adm rfl ?_ | refine WS.region (by simp only [EV, TY, h3, h4, h5, e1', mk1_ bt50, f1, minc, ↓reduceIte, Nat.reduceEqDiff]; with_reducible rfl) ?_)
     refine fin _ _ w _ ?_ ?_ ?_ f2 (by simp; omega) (plain fun h => by have := h.1; simp [prB, h0] at this) (hl.trans f3)
     all_goals
      simp only [EV, h3, ↓reduceIte, Nat.reduceEqDiff, AT]
  ·repeat refine WS.adm rfl ?_
   have : i = t.length := by simp at ht; omega
   subst this
   rw [List.drop_length, rfold] at hr
   rw [hr] at hb
   have e5 := hb.conv bt50 Tryz.underlying9
   repeat (first | refine WS.adm rfl ?_ | refine WS.region (by simp only [EV, TY, h4, e5, ↓reduceIte, Nat.reduceEqDiff]; with_reducible rfl) ?_)
   refine WS.ret1s (t := 2) rfl rfl hl.pre (frz_str _ _ _) ?_
   simp only [EV, ↓reduceIte, Nat.reduceEqDiff, AT]
theorem sgtr_lt (x y : List UInt8) : (!(Op.bytesLess x y || x == y)) = lessB y x := by
 cases h : lessB y x with
 | true =>
  have h1 : Op.bytesLess x y = false := less_asymm h
  have h2 : (x == y) = false := by
   rw [beq_eq_false_iff_ne]; intro e; subst e; rw [less_irrefl] at h; cases h
  rw [h1, h2]; rfl
 | false =>
  cases h1 : lessB x y with
  | true => simp [show Op.bytesLess x y = true from h1]
  | false => rw [less_total h1 h]; simp
theorem St3.arr {n0 : Nat} {T : Store} {q : QO} {vn : V} {r : List Ava} {vr : V} (h : St3 n0 T q vn r vr) : Arr 2 rAva T vr r := by
 refine ⟨r.flatMap avaC, ava_Cs r, ?_⟩
 rcases h.stp with ⟨rfl, rfl⟩ | ⟨p, p1, rfl, p2, _⟩
 ·exact ⟨rfl, .inl ⟨rfl, rfl⟩⟩
 ·refine ⟨flat_len r, .inr (.inr ⟨p, 0, _, fl r, 96, rfl, Nat.le_refl _, p2, ?_⟩)⟩
  rw [List.drop_zero, List.take_of_length_le (by rw [flat_len r]; exact Nat.le_refl _)]
theorem inO.low {n0 : Nat} {S U : Store} {x : Option Nat × List Ava} (h : inO n0 S x) (hl : Low S.length S U) : inO n0 U x := by
 obtain ⟨p, r⟩ := x
 cases p with
 | none => exact h
 | some p => exact ⟨h.1, by rw [hl.2 p (lt_of_get h.2)]; exact h.2⟩
theorem St3.swap {n0 : Nat} {T U : Store} {q : QO} {vn : V} {r r' : List Ava} {vr v' : V} (h : St3 n0 T q vn r vr) (hn : n0 ≤ T.length) (hl : Low T.length T U) (hm : Lst T.length 96 2 rAva U v' r') : St3 n0 U q vn r' v' := by
 refine ⟨fun x hx => (h.inn x hx).low hl, ?_, ?_⟩
 ·rcases h.out with h | ⟨o, o1, o2, o3⟩
  ·exact .inl h
  ·exact .inr ⟨o, o1, o2, by rw [hl.2 o (lt_of_get o3)]; exact o3⟩
 ·rcases hm with h' | ⟨p, cs, p1, p2, p3, p4⟩
  ·exact .inl h'
  ·exact .inr ⟨p, by omega, p2, by rw [p3, Cs_ava p4], h.inn.fresh p1⟩
theorem tq7 : Nat.testBit 1048575 3 = true := rfl
theorem tq8 : Nat.testBit 1048575 7 = true := rfl
theorem tq9 : Nat.testBit 1048575 12 = true := rfl
theorem tq10 : Nat.testBit 1048575 16 = true := rfl
theorem tq11 : Nat.testBit 1048575 8 = true := rfl
theorem tq12 : Nat.testBit 1048575 17 = true := rfl
theorem refNorm_ok {S : Store} {v : V} {n : List (List Ava)} (hn : isDn S v n) (on : okN n) : ∃ w, vrun E0 (.fn 84) [v] S = some (w, S) ∧ ∀ S', isDn S' w (normN n) := by
 suffices h : ∃ r, (∃ w, r = (w, S) ∧ ∀ S', isDn S' w (normN n)) ∧ vrun E0 (.fn 84) [v] S = some r by
  obtain ⟨r, ⟨w, rfl, h2⟩, h3⟩ := h
  exact ⟨w, h3, h2⟩
 refine fn_wsP Tryz.func84 rfl ?_
 repeat (first | refine WS.adm rfl ?_ | refine WS.rl ?_)
 refine WS.loopB (fun j fr T => ∃ i q vn, j = n.length - i ∧ i ≤ n.length ∧ q.length = i ∧ lget fr 0 = v ∧ lget fr 3 = vn ∧ lget fr 4 = .int .i64 (i : Nat) ∧ St3 S.length T q vn [] .slN ∧ Low S.length S T ∧ namesO q = (n.take i).map normR)
  (fun fr T => ∃ q vn, lget fr 3 = vn ∧ St3 S.length T q vn [] .slN ∧ Low S.length S T ∧ namesO q = normN n) (j := n.length) ?_ ?_ ?_
 ·refine ⟨0, [], .slN, by omega, by omega, rfl, ?_, ?_, ?_, ⟨fun x hx => by simp at hx, .inl ⟨rfl, rfl⟩, .inl ⟨rfl, rfl⟩⟩, Low.refl (Nat.le_refl _), by simp [namesO]⟩
  all_goals
   simp only [EV, lget, ↓reduceIte, Nat.reduceEqDiff, AT]
   try rfl
 ·rintro fr T ⟨q, vn, h3, hst, hlow, hnm⟩
  rcases hst.out with ⟨rfl, rfl⟩ | ⟨o, o1, rfl, o2⟩
  ·repeat (first | refine WS.adm rfl ?_ | refine WS.region (by simp only [EV, TY, h3, ↓reduceIte, Nat.reduceEqDiff]; with_reducible rfl) ?_)
   refine WS.ret1P (t := 2) rfl rfl ?_ hlow.pre (v := .slN) (v' := .slN) rfl ⟨.slN, rfl, fun S' => ?_⟩
   ·simp only [EV, ↓reduceIte, Nat.reduceEqDiff, AT]
   ·rw [← hnm]; exact nil_isDn S'
  ·repeat (first | refine WS.adm rfl ?_ | refine WS.region (by simp only [EV, TY, h3, ↓reduceIte, Nat.reduceEqDiff]; with_reducible rfl) ?_)
   refine WS.ret1P (t := 2) rfl rfl ?_ hlow.pre (madeO_frz hst.inn o1 o2) ⟨doneO q, rfl, fun S' => ?_⟩
   ·simp only [EV, ↓reduceIte, Nat.reduceEqDiff, AT]
   ·rw [← hnm]; exact doneO_isDn S' hst.inn
 ·rintro j fr T ⟨i, q, vn, rfl, hi, hq, h0, h3, h4, hst, hlow, hnm⟩ ih last
  have lnT := (hn.pre hlow.pre).len
  by_cases hlt : i < n.length
  ·have hlt' : ((i : Nat) : Int) < ((n.length : Nat) : Int) := by omega
   obtain ⟨a, c, i1, i2, i3⟩ := hn.at_ i hlt
   have oka := on.at_ i hlt
   have htk : (n.take (i + 1)).map normR = (n.take i).map normR ++ [normR (n.getD i [])] := by
    rw [List.take_succ_eq_append_getElem hlt, List.map_append]
    rw [show n.getD i [] = n[i] by simp [List.getD, hlt]]
    rfl
   generalize n.getD i [] = r at i3 oka htk
   have iinc := wrap_inc i (by have := on.1; omega)
   repeat (first | refine WS.adm rfl ?_ | refine WS.region (by simp only [EV, TY, h0, h4, lnT, hlt', ↓reduceIte, Nat.reduceEqDiff]; with_reducible rfl) ?_)
   refine WS.ct0 ?_
   repeat (first | refine WS.adm rfl ?_ | refine WS.rl ?_)
   refine WS.loopB (fun j fr U => ∃ m vr, j = r.length - m ∧ m ≤ r.length ∧ lget fr 0 = v ∧ lget fr 3 = vn ∧ lget fr 4 = .int .i64 (i : Nat) ∧ lget fr 5 = vr ∧ lget fr 6 = .int .i64 (m : Nat) ∧ St3 S.length U q vn (srt ((r.take m).map normA)) vr ∧ Low S.length S U)
    (fun fr U => ∃ vr, lget fr 0 = v ∧ lget fr 3 = vn ∧ lget fr 4 = .int .i64 (i : Nat) ∧ lget fr 5 = vr ∧ St3 S.length U q vn (normR r) vr ∧ Low S.length S U) (j := r.length) ?_ ?_ ?_
   ·refine ⟨0, .slN, by omega, by omega, ?_, ?_, ?_, ?_, ?_, by simpa [srt] using hst, hlow⟩
    all_goals
     simp only [EV, h0, h3, h4, ↓reduceIte, Nat.reduceEqDiff, AT]
     try rfl
   ·rintro fr U ⟨vr, h0, h3, h4, h5, hst, hlow⟩
    obtain ⟨U3, U4, y, o', x, p1, p2, p3, p4⟩ := hst.push hlow.1 (by have := on.1; omega)
    repeat (first | refine WS.adm rfl ?_ | refine WS.region (by simp only [EV, TY, h3, h5, p1, p2, h4, iinc, ↓reduceIte, Nat.reduceEqDiff]; with_reducible rfl) ?_)
    refine ih (n.length - (i + 1)) _ _ (by omega) ⟨i + 1, q ++ [(x, normR r)], .slR o' 0 (q.length + 1) (q.length + 1) 1, rfl, by omega, by simp [hq], ?_, ?_, ?_, p3, hlow.trans p4, ?_⟩
    iterate 3 simp only [EV, h0, ↓reduceIte, Nat.reduceEqDiff, AT]
    ·rw [htk, ← hnm]; simp [namesO]
   ·rintro j fr U ⟨m, vr, rfl, hm, h0, h3, h4, h5, h6, hst, hlow⟩ ihm lastm
    have i2U := load_pre hlow.pre isAggO_98 i2
    have lrU := (i3.pre hlow.pre).len
    by_cases hmlt : m < r.length
    ·have hmlt' : ((m : Nat) : Int) < ((r.length : Nat) : Int) := by omega
     obtain ⟨qa, j1, ta, j2⟩ := (i3.pre hlow.pre).at_ m hmlt
     have oka' := oka.at_ m hmlt
     have htm : (r.take (m + 1)).map normA = (r.take m).map normA ++ [normA (r.getD m ([], []))] := by
      rw [List.take_succ_eq_append_getElem hmlt, List.map_append]
      rw [show r.getD m ([], []) = r[m] by simp [List.getD, hmlt]]
      rfl
     generalize r.getD m ([], []) = x at j2 oka' htm
     obtain ⟨fa, fa1, fa2⟩ := ava_type j2
     obtain ⟨fb, fb1, fb2⟩ := ava_value j2
     have hpU : U <+: U ++ [Ob.cells [V.str [], V.str []] 96] := List.prefix_append _ _
     have i2U' := load_pre hpU isAggO_98 i2U
     have fa2' := load_pre hpU isAggO_9 fa2
     have fb2' := load_pre hpU isAggO_9 fb2
     have sm := Small_ok x.1 U oka'.1
     have fo := refFold_ok x.2 U oka'.2
     have sm' := Small_ok x.1 (U ++ [Ob.cells [V.str [], V.str []] 96]) oka'.1
     have fo' := refFold_ok x.2 (U ++ [Ob.cells [V.str [], V.str []] 96]) oka'.2
     have hb40 := build_40 (smallS x.1) (foldS x.2)
     have hal := alloc_40 U
     have hsto := st_40 U [.str [], .str []] rfl (smallS x.1) (foldS x.2)
     generalize hW : U ++ [Ob.cells [V.str (smallS x.1), V.str (foldS x.2)] 96] = W at hsto
     have hlowW : Low S.length S W := by rw [← hW]; exact hlow.trans (Low.app hlow.1 _)
     have hstW : St3 S.length W q vn (srt ((r.take m).map normA)) vr := by rw [← hW]; exact hst.more _
     have hcell : W[U.length]? = some (.cells [V.str (smallS x.1), V.str (foldS x.2)] 96) := by rw [← hW]; simp
     have hUW : U.length < W.length := by rw [← hW]; simp
     obtain ⟨⟨ga, ga1, ga2⟩, _⟩ := fr_agg W 96 [] (smallS x.1) (foldS x.2) U.length hcell
     have hso := srt_sorted ((r.take m).map normA)
     have hsl : (srt ((r.take m).map normA)).length = m := by rw [srt_len, List.length_map, List.length_take]; omega
     have hsn : insA (normA x) (srt ((r.take m).map normA)) = srt ((r.take (m + 1)).map normA) := by rw [htm, srt_snoc]
     generalize hR : srt ((r.take m).map normA) = R at hstW hso hsl hsn
     have arW := hstW.arr
     have lR := arW.len (E := E0) Tryz.underlying98
     have minc := wrap_inc m (by have := oka.1; omega)
     have hrm := oka.1
     repeat (first | refine WS.adm rfl ?_ | refine WS.region (by simp only [EV, TY, h0, h4, h6, i1, i2U, lrU, hmlt', ↓reduceIte, Nat.reduceEqDiff]; with_reducible rfl) ?_)
     refine WS.ct0 ?_
     repeat (first | refine WS.adm rfl ?_ | refine WS.rl ?_)
     refine WS.drawP (b := [0, 0, 3, 7, 0, 31, 63, 127, 255, 0, 0, 1536, 3584, 0, 15872, 32256, 65024, 131071, 262143, 0, 1048575]) (q := [false, false, false, false, false, false, false, false, true, false, false, false, false, false, false, false, false, true, false, false, false]) (by kernel_rfl) (by kernel_rfl) (by kernel_rfl) (by simp only [evDrawQ_nil, evDrawQ_plain, stillV, isEff, isRead, List.all_nil, List.all_cons, Bool.or_true, Bool.true_or, Bool.or_false, Bool.and_self, Bool.and_true, Bool.and_false, Bool.true_and, Bool.false_and, Bool.not_true, Bool.not_false, V.beq_refl, Store.beq_refl, List.getD_cons_zero, List.getD_cons_succ, Nat.reduceAdd, EV, TY,  h0, h4, h6, i1, i2U, i2U', j1, fa1, fa2, fa2', fb1, fb2, fb2', callV_42, callV_118, sm, fo, sm', fo', hb40, hal, hsto, tq7, tq8, tq9, tq10, tq11, tq12, ↓reduceIte, Nat.reduceEqDiff]; with_reducible rfl) ?_
     repeat (first | refine WS.adm rfl ?_ | refine WS.region (by simp only [EV, TY, lget, h5, lR, ↓reduceIte, Nat.reduceEqDiff]; with_reducible rfl) ?_)
     refine WS.loopB (fun j fr T' => ∃ p, j = p ∧ p ≤ R.length ∧ lget fr 0 = v ∧ lget fr 3 = vn ∧ lget fr 4 = .int .i64 (i : Nat) ∧ lget fr 5 = vr ∧ lget fr 6 = .int .i64 (m : Nat) ∧ lget fr 7 = .ref U.length 0 ∧ lget fr 8 = .int .i64 (p : Nat) ∧ T' = W ∧ ∀ y ∈ R.drop p, ltA (normA x) y = true)
      (fun fr T' => ∃ p, p ≤ R.length ∧ lget fr 0 = v ∧ lget fr 3 = vn ∧ lget fr 4 = .int .i64 (i : Nat) ∧ lget fr 5 = vr ∧ lget fr 6 = .int .i64 (m : Nat) ∧ lget fr 7 = .ref U.length 0 ∧ lget fr 8 = .int .i64 (p : Nat) ∧ T' = W ∧ R.take p ++ normA x :: R.drop p = insA (normA x) R) (j := R.length) ?_ ?_ ?_
     ·refine ⟨R.length, rfl, Nat.le_refl _, ?_, ?_, ?_, ?_, ?_, ?_, ?_, rfl, by simp⟩
      all_goals
       simp only [EV, lget, h0, h3, h4, h5, h6, ↓reduceIte, Nat.reduceEqDiff, AT]
     ·rintro fr T' ⟨p, hp, h0, h3, h4, h5, h6, h7, h8, rfl, hins⟩
      obtain ⟨k1, k2, k3⟩ := Lst.mk0 (n0 := T'.length) (T := T') ty38 rAva (Nat.le_refl _)
      obtain ⟨v1, k4, k5⟩ := (arW.low k3).take (E := E0) Tryz.underlying98 tsize_96 p hp
      obtain ⟨v2, T2, k6, k7, k8⟩ := k2.app ty38 k3.1 k5 (by simp; omega) (by simp; omega)
      have low2 := k3.trans k8
      have ldA : opLoad E0 T2 96 (.ref U.length 0) = some (.agg [.str (smallS x.1), .str (foldS x.2)]) := var_ld (E := E0) isAggO_96 tsize_96 (e := 96) (by rw [low2.2 _ hUW]; exact hcell) rfl
      obtain ⟨v3, T3, k9, k10, k11, k12⟩ := k7.put ty38 low2.1 (ofC.agg [.str (smallS x.1), .str (foldS x.2)]) rfl (a := normA x) rfl (by simp; omega) (by simp; omega)
      have low3 := low2.trans k12
      obtain ⟨v4, k13, k14⟩ := (arW.low low3).drop (E := E0) Tryz.underlying98 tsize_96 p hp
      obtain ⟨v5, T5, k15, k16, k17⟩ := k11.app ty38 low3.1 k14 (by simp; omega) (by simp; omega)
      have low5 := low3.trans k17
      rw [List.nil_append, List.append_assoc] at k16
      have hres : R.take p ++ ([normA x] ++ R.drop p) = srt ((r.take (m + 1)).map normA) := by rw [← hsn, ← hins]; rfl
      rw [hres] at k16
      repeat (first | refine WS.adm rfl ?_ | refine WS.region (by simp only [EV, TY, lget, h5, h7, h8, k1, k4, k6, ldA, k9, k10, k13, k15, ↓reduceIte, Nat.reduceEqDiff]; with_reducible rfl) ?_)
      repeat (first | refine WS.adm rfl ?_ | refine WS.region (by simp only [EV, TY, h6, minc, ↓reduceIte, Nat.reduceEqDiff]; with_reducible rfl) ?_)
      refine ihm (r.length - (m + 1)) _ _ (by omega) ⟨m + 1, v5, rfl, by omega, ?_, ?_, ?_, ?_, ?_, hstW.swap hlowW.1 low5 k16, hlowW.trans ⟨Nat.le_trans hlowW.1 low5.1, fun i hi => low5.2 i (Nat.lt_of_lt_of_le hi hlowW.1)⟩⟩
      iterate 5 simp only [EV, h0, h3, h4, ↓reduceIte, Nat.reduceEqDiff, AT]
     ·rintro j fr T' ⟨p, rfl, hp, h0, h3, h4, h5, h6, h7, h8, rfl, hall⟩ again leave
      by_cases hp0 : 0 < j
      ·have hp0' : (0 : Int) < ((j : Nat) : Int) := by omega
       have m1 := wm1 j hp0 (by omega)
       have hj1 : j - 1 < R.length := by omega
       obtain ⟨qx, cx, rx, x1, x2, x3, x4⟩ := arW.at_ (E := E0) Tryz.underlying98 tsize_96 (j - 1) hj1
       rw [show cx = avaC R[j - 1] from x4] at x2
       obtain ⟨gx, gx1, gx2⟩ := ava_type x2
       have hsg := sgtr_lt R[j - 1].1 (smallS x.1)
       have htkl : (R.take j).getLast? = some R[j - 1] := by
        have e : R.take j = R.take (j - 1) ++ [R[j - 1]] := by
         have := List.take_succ_eq_append_getElem hj1
         rwa [show j - 1 + 1 = j by omega] at this
        rw [e]; exact List.getLast?_concat
       have hdrop : R.drop (j - 1) = R[j - 1] :: R.drop j := by
        have := List.drop_eq_getElem_cons hj1
        rwa [show j - 1 + 1 = j by omega] at this
       generalize hy : R[j - 1] = y at x2 gx1 gx2 hsg htkl hdrop
       cases hless : lessB (smallS x.1) y.1 with
       | true =>
        rw [hless] at hsg
        repeat (first | refine WS.adm rfl ?_ | refine WS.rl ?_)
        refine WS.draw (by simp only [DL, evDraw_guard, isEff, isRead, EV, TY, h5, h7, h8, hp0', m1, x1, gx1, gx2, ga1, ga2, hsg, ↓reduceIte, Nat.reduceEqDiff]; with_reducible rfl) ?_
        refine WS.cond_true (by simp only [EV, hsg, ↓reduceIte, Nat.reduceEqDiff]) ?_
        repeat (first | refine WS.adm rfl ?_ | refine WS.region (by simp only [EV, TY, h8, m1, ↓reduceIte, Nat.reduceEqDiff]; with_reducible rfl) ?_)
        refine again (j - 1) _ _ (by omega) ⟨j - 1, rfl, by omega, ?_, ?_, ?_, ?_, ?_, ?_, ?_, rfl, ?_⟩
        iterate 7 simp only [EV, h0, h3, h4, h5, h6, h7, ↓reduceIte, Nat.reduceEqDiff, AT]
        ·rw [hdrop]
         intro z hz
         rcases List.mem_cons.1 hz with rfl | hz
         ·exact hless
         ·exact hall z hz
       | false =>
        rw [hless] at hsg
        repeat (first | refine WS.adm rfl ?_ | refine WS.rl ?_)
        refine WS.draw (by simp only [DL, evDraw_guard, isEff, isRead, EV, TY, h5, h7, h8, hp0', m1, x1, gx1, gx2, ga1, ga2, hsg, ↓reduceIte, Nat.reduceEqDiff]; with_reducible rfl) ?_
        refine WS.cond_false (by simp only [EV, hsg, ↓reduceIte, Nat.reduceEqDiff]) ?_
        refine WS.exit rfl ?_
        refine leave _ _ ⟨j, hp, ?_, ?_, ?_, ?_, ?_, ?_, ?_, rfl, ?_⟩
        iterate 7 simp only [EV, h0, h3, h4, h5, h6, h7, h8, ↓reduceIte, Nat.reduceEqDiff, AT]
        ·have := ins_split (normA x) (R.take j) (R.drop j) (by rw [List.take_append_drop]; exact hso) hall (fun z hz => by rw [htkl] at hz; cases hz; exact hless)
         rw [List.take_append_drop] at this
         exact this.symm
      ·have hp0' : ¬ (0 : Int) < ((j : Nat) : Int) := by omega
       repeat (first | refine WS.adm rfl ?_ | refine WS.rl ?_)
       refine WS.draw (by simp only [DL, evDraw_guard, isEff, isRead, EV, TY, h5, h7, h8, hp0', ↓reduceIte, Nat.reduceEqDiff]; with_reducible rfl) ?_
       refine WS.cond_false (by simp only [EV, hp0', ↓reduceIte, Nat.reduceEqDiff]) ?_
       refine WS.exit rfl ?_
       have hj : j = 0 := by omega
       subst hj
       refine leave _ _ ⟨0, hp, ?_, ?_, ?_, ?_, ?_, ?_, ?_, rfl, ?_⟩
       iterate 7 simp only [EV, h0, h3, h4, h5, h6, h7, h8, ↓reduceIte, Nat.reduceEqDiff, AT]
       ·have := ins_split (normA x) [] R hso (by simpa using hall) (fun z hz => by simp at hz)
        simpa using this.symm
    ·have hmlt' : ¬ ((m : Nat) : Int) < ((r.length : Nat) : Int) := by omega
     repeat (first | refine WS.adm rfl ?_ | refine WS.region (by simp only [EV, TY, h0, h4, h6, i1, i2U, lrU, hmlt', ↓reduceIte, Nat.reduceEqDiff]; with_reducible rfl) ?_)
     refine WS.cf0 ?_
     refine WS.exit rfl ?_
     have : m = r.length := by omega
     subst this
     rw [List.take_length] at hst
     refine lastm _ _ ⟨vr, ?_, ?_, ?_, ?_, hst, hlow⟩
     iterate 4 simp only [EV, h0, h3, h4, h5, ↓reduceIte, Nat.reduceEqDiff, AT]
  ·have hlt' : ¬ ((i : Nat) : Int) < ((n.length : Nat) : Int) := by omega
   repeat (first | refine WS.adm rfl ?_ | refine WS.region (by simp only [EV, TY, h0, h4, lnT, hlt', ↓reduceIte, Nat.reduceEqDiff]; with_reducible rfl) ?_)
   refine WS.cf0 ?_
   refine WS.exit rfl ?_
   have : i = n.length := by omega
   subst this
   rw [List.take_length] at hnm
   refine last _ _ ⟨q, vn, ?_, hst, hlow, hnm⟩
   simp only [EV, h3, ↓reduceIte, Nat.reduceEqDiff, AT]
set_option maxHeartbeats 8000000
theorem dg1 : ∀ n : Nat, n < 10 → IntKind.u8.wrap (48 + (n : Int)) = ((digS n).toNat : Int) := by decide +kernel
theorem dg2 : ∀ n : Nat, n < 16 → 10 ≤ n → IntKind.u8.wrap (IntKind.u8.wrap (97 + (n : Int)) - 10) = ((digS n).toNat : Int) := by decide +kernel
theorem digit_ok (n : Nat) (h : n < 16) (S : Store) : vrun E0 (.fn 164) [.int .u8 (n : Nat)] S = some (.int .u8 (digS n).toNat, S) := by
 refine fn_ws Tryz.func164 rfl ?_
 by_cases h1 : n < 10
 ·have h1' : (n : Int) < 10 := by omega
  repeat (first | refine WS.adm rfl ?_ | refine WS.region (by simp only [EV, TY, lget, h1', ↓reduceIte, Nat.reduceEqDiff]; with_reducible rfl) ?_)
  refine WS.cond_true (by simp only [EV, h1', ↓reduceIte, Nat.reduceEqDiff]) ?_
  repeat (first | refine WS.adm rfl ?_ | refine WS.region (by simp only [EV, TY, lget, dg1 n h1, ↓reduceIte, Nat.reduceEqDiff]; with_reducible rfl) ?_)
  refine WS.ret1s (t := 2) rfl rfl (List.prefix_refl _) (frz_int _ _ _ _) ?_
  simp only [EV, ↓reduceIte, Nat.reduceEqDiff, AT]
 ·have h1' : ¬ (n : Int) < 10 := by omega
  repeat (first | refine WS.adm rfl ?_ | refine WS.region (by simp only [EV, TY, lget, h1', ↓reduceIte, Nat.reduceEqDiff]; with_reducible rfl) ?_)
  refine WS.cond_false (by simp only [EV, h1', ↓reduceIte, Nat.reduceEqDiff]) ?_
  repeat (first | refine WS.adm rfl ?_ | refine WS.region (by simp only [EV, TY, lget, dg2 n h (by omega), ↓reduceIte, Nat.reduceEqDiff]; with_reducible rfl) ?_)
  refine WS.ret1s (t := 2) rfl rfl (List.prefix_refl _) (frz_int _ _ _ _) ?_
  simp only [EV, ↓reduceIte, Nat.reduceEqDiff, AT]
theorem sign_is (c : UInt8) : signZ (c.toNat : Int) = isIn spL c := by
 have := all256 (p := fun c => decide (signZ ((c.toNat : Nat) : Int) = isIn spL c)) (by decide +kernel) c
 exact of_decide_eq_true this
theorem u8_eqb (c : UInt8) (d : UInt8) : (((c.toNat : Nat) : Int) == ((d.toNat : Nat) : Int)) = decide (c = d) := by
 by_cases h : c = d
 ·subst h; simp
 ·rw [u8_ne c d h]; simp [h]
theorem valB_or (n i : Nat) (c : UInt8) (hA : ¬ (c < 32 ∨ c = 127)) {b0 b1 b2 b3 b4 : Bool} (h0 : (((i : Nat) : Int) == 0) = b0) (h1 : ((c.toNat : Int) == 35) = b1) (h2 : ((c.toNat : Int) == 32) = b2) (h3 : (((i : Nat) : Int) == ((n - 1 : Nat) : Int)) = b3) (h4 : signZ (c.toNat : Int) = b4) (hi : i < n) :
  valB n i c = if (b4 || (b0 && (b1 || b2)) || (b3 && b2)) = true then [92, c] else [c] := by
 have e1 := u8_eqb c 35
 have e2 := u8_eqb c 32
 rw [show (((35 : UInt8).toNat : Nat) : Int) = 35 from rfl, h1] at e1
 rw [show (((32 : UInt8).toNat : Nat) : Int) = 32 from rfl, h2] at e2
 rw [sign_is] at h4
 have e0 : b0 = decide (i = 0) := by rw [← h0]; by_cases h : i = 0 <;> simp [h]
 have e3 : b3 = decide (i + 1 = n) := by
  rw [← h3]
  by_cases h : i + 1 = n
  ·have : ((i : Nat) : Int) = ((n - 1 : Nat) : Int) := by omega
   simp [h, this]
  ·have : ¬ ((i : Nat) : Int) = ((n - 1 : Nat) : Int) := by omega
   simp [h, this]
 unfold valB
 rw [if_neg hA, h4, e0, e1, e2, e3]
 congr 1
 simp only [Bool.or_eq_true, Bool.and_eq_true, decide_eq_true_eq, eq_iff_iff]
 exact or_assoc.symm
theorem refValue_ok (s : List UInt8) (S : Store) (hs : s.length ≤ 1048576) : vrun E0 (.fn 141) [.str s] S = some (.str (valueS s), S) := by
 refine fn_ws Tryz.func141 rfl ?_
 repeat (first | refine WS.adm rfl ?_ | refine WS.rl ?_)
 refine WS.loopB (fun j fr T => ∃ i v out, j = s.length - i ∧ i ≤ s.length ∧ out.length ≤ 3 * i ∧ lget fr 0 = .str s ∧ lget fr 3 = v ∧ lget fr 4 = .int .i64 (i : Nat) ∧ Buf 5 S.length T v out ∧ Low S.length S T ∧ out ++ valF s.length i (s.drop i) = valueS s)
  (fun fr T => ∃ v out, lget fr 3 = v ∧ Buf 5 S.length T v out ∧ Low S.length S T ∧ out = valueS s) (j := s.length) ?_ ?_ ?_
 ·refine ⟨0, .slN, [], by omega, by omega, by simp, ?_, ?_, ?_, Buf.new _ _ _, Low.refl (Nat.le_refl _), rfl⟩
  all_goals
   simp only [EV, lget, ↓reduceIte, Nat.reduceEqDiff, AT]
   try rfl
 ·rintro fr T ⟨v, out, h3, hb, hlow, rfl⟩
  have e5 := hb.conv bt50 Tryz.underlying9
  repeat (first | refine WS.adm rfl ?_ | refine WS.region (by simp only [EV, TY, h3, e5, ↓reduceIte, Nat.reduceEqDiff]; with_reducible rfl) ?_)
  refine WS.ret1s (t := 2) rfl rfl hlow.pre (frz_str _ _ _) ?_
  simp only [EV, ↓reduceIte, Nat.reduceEqDiff, AT]
 ·rintro j fr T ⟨i, v, out, rfl, hi, hol, h0, h3, h4, hb, hlow, hv⟩ ih last
  by_cases hlt : i < s.length
  ·have hlt' : ((i : Nat) : Int) < ((s.length : Nat) : Int) := by omega
   have ex := idx_str_9 s .i64 i hlt
   rw [drop_cons s i hlt, valF] at hv
   have iinc := wrap_inc i (by omega)
   have idec : IntKind.i64.wrap (((s.length : Nat) : Int) - 1) = ((s.length - 1 : Nat) : Int) := wrap_sub1 s.length (by omega) (by omega)
   generalize s.getD i 0 = c at ex hv
   have hvl := valB_len s.length i c
   have sg := signs_ok (c.toNat : Int) T
   repeat (first | refine WS.adm rfl ?_ | refine WS.region (by simp only [EV, TY, h0, h4, hlt', ↓reduceIte, Nat.reduceEqDiff]; with_reducible rfl) ?_)
   refine WS.ct0 ?_
   repeat (first | refine WS.adm rfl ?_ | refine WS.region (by simp only [EV, TY, h0, h4, ex, callV_163, sg, ↓reduceIte, Nat.reduceEqDiff]; with_reducible rfl) ?_)
   refine WSjoin2 (fun fr U => ∃ w b2 d, lget fr 0 = .str s ∧ lget fr 4 = .int .i64 (i : Nat) ∧ lget fr 3 = w ∧ lget fr 5 = .int .u8 (d : UInt8).toNat ∧ Buf 5 S.length U w b2 ∧ Low S.length S U ∧ b2 ++ [d] = out ++ valB s.length i c) ?_ ?_
   ·rintro fr U ⟨w, b2, d, k0, k4, k3, k5, kb, kl, ke⟩
    have hbl : b2.length ≤ 3 * i + 3 := by
     have := congrArg List.length ke
     simp at this
     omega
    obtain ⟨w2, U2, g1, g2, g3⟩ := kb.app1 bt50 kl.1 d (by omega)
    rw [ke] at g2
    repeat (first | refine WS.adm rfl ?_ | refine WS.region (by simp only [EV, TY, k3, k5, mk1_ bt50, g1, k4, iinc, ↓reduceIte, Nat.reduceEqDiff]; with_reducible rfl) ?_)
    refine ih (s.length - (i + 1)) _ _ (by omega) ⟨i + 1, w2, _, rfl, by omega, ?_, ?_, ?_, ?_, g2, kl.trans g3, by rw [List.append_assoc]; exact hv⟩
    ·rw [List.length_append]; omega
    iterate 3 simp only [EV, k0, ↓reduceIte, Nat.reduceEqDiff, AT]
   ·intro join
    refine WSjoin (fun fr U => U = T ∧ lget fr 0 = .str s ∧ lget fr 4 = .int .i64 (i : Nat) ∧ lget fr 3 = v ∧ lget fr 5 = .int .u8 c.toNat ∧ lget fr 6 = .bool (signZ (c.toNat : Int)) ∧ lget fr 23 = .bool (decide (c < 32 ∨ c = 127))) ?_ ?_
    ·rintro fr U ⟨rfl, a0, a4, a3, a5, a6, a23⟩
     obtain ⟨w1, U1, g1, g2, g3⟩ := hb.app1 bt50 hlow.1 92 (by omega)
     have g1' : opAppend E0 (U ++ [Ob.cells [V.int IntKind.u8 92] 5]) [140, 140] v (.slR U.length 0 1 1 1) = some (w1, U1) := g1
     by_cases hA : c < 32 ∨ c = 127
     ·rw [decide_eq_true hA] at a23
      have hvb : valB s.length i c = [92, digS (c.toNat / 16), digS (c.toNat % 16)] := by unfold valB; rw [if_pos hA]
      obtain ⟨w2, U2, k1, k2, k3⟩ := g2.app1 bt50 (hlow.trans g3).1 (digS (c.toNat / 16)) (by simp; omega)
      have d1 := digit_ok (c.toNat / 16) (by have := c.toNat_lt; omega) U1
      have d2 := digit_ok (c.toNat % 16) (by omega) U2
      have q1 : ∀ l, opBin E0 l .quo 5 (.int .u8 c.toNat) (.int .u8 16) = some (.int .u8 ((c.toNat / 16 : Nat) : Int)) := fun l => by
       rw [bin_quo _ _ _ _ _ (by omega), Int.tdiv_eq_ediv_of_nonneg (by omega), show ((c.toNat : Nat) : Int) / 16 = ((c.toNat / 16 : Nat) : Int) by omega, wrap_u8' _ (by have := c.toNat_lt; omega)]
      have q2 : ∀ l, opBin E0 l .rem 5 (.int .u8 c.toNat) (.int .u8 16) = some (.int .u8 ((c.toNat % 16 : Nat) : Int)) := fun l => by
       rw [bin_rem _ _ _ _ _ (by omega), Int.tmod_eq_emod_of_nonneg (by omega), show ((c.toNat : Nat) : Int) % 16 = ((c.toNat % 16 : Nat) : Int) by omega]
      refine WS.cond_true (by simp only [EV, a23, ↓reduceIte, Nat.reduceEqDiff]) ?_
      repeat (first | refine WS.adm rfl ?_ | refine WS.region (by simp only [EV, TY, a3, mk1_ bt50, g1', callV_164, lget, a5, q1, d1, k1, q2, d2, ↓reduceIte, Nat.reduceEqDiff]; with_reducible rfl) ?_)
      refine join _ _ ⟨w2, _, digS (c.toNat % 16), ?_, ?_, ?_, ?_, k2, (hlow.trans g3).trans k3, by rw [hvb]; simp⟩
      iterate 4 simp only [EV, a0, a4, ↓reduceIte, Nat.reduceEqDiff, AT]
     ·rw [decide_eq_false hA] at a23
      refine WS.cond_false (by simp only [EV, a23, ↓reduceIte, Nat.reduceEqDiff]) ?_
      have hvb := fun b0 b1 b2 b3 b4 q0 q1 q2 q3 q4 => valB_or s.length i c hA (b0 := b0) (b1 := b1) (b2 := b2) (b3 := b3) (b4 := b4) q0 q1 q2 q3 q4 hlt
      have hls := len_str_9 U s
      generalize q0 : (((i : Nat) : Int) == 0) = b0
      generalize q1 : ((c.toNat : Int) == 35) = b1
      generalize q2 : ((c.toNat : Int) == 32) = b2
      generalize q3 : (((i : Nat) : Int) == ((s.length - 1 : Nat) : Int)) = b3
      generalize q4 : signZ (c.toNat : Int) = b4 at a6
      have hvb := hvb b0 b1 b2 b3 b4 q0 q1 q2 q3 q4
      repeat refine WS.adm rfl ?_
      refine WSjoin (fun fr U' => U' = U ∧ lget fr 0 = .str s ∧ lget fr 4 = .int .i64 (i : Nat) ∧ lget fr 3 = v ∧ lget fr 5 = .int .u8 c.toNat ∧ lget fr 59 = .bool (b4 || (b0 && (b1 || b2)) || (b3 && b2))) ?_ ?_
      ·rintro fr U' ⟨rfl, c0, c4, c3, c5, c59⟩
       cases hr : (b4 || (b0 && (b1 || b2)) || (b3 && b2)) with
       | true =>
        rw [hr, if_pos rfl] at hvb
        rw [hr] at c59
        refine WS.cond_true (by simp only [EV, c59, ↓reduceIte, Nat.reduceEqDiff]) ?_
        repeat (first | refine WS.adm rfl ?_ | refine WS.region (by simp only [EV, TY, c3, mk1_ bt50, g1', ↓reduceIte, Nat.reduceEqDiff]; with_reducible rfl) ?_)
        refine join _ _ ⟨w1, _, c, ?_, ?_, ?_, ?_, g2, hlow.trans g3, by rw [hvb]; simp⟩
        iterate 4 simp only [EV, c0, c4, c5, ↓reduceIte, Nat.reduceEqDiff, AT]
       | false =>
        rw [hr, if_neg (by decide)] at hvb
        rw [hr] at c59
        refine WS.cond_false (by simp only [EV, c59, ↓reduceIte, Nat.reduceEqDiff]) ?_
        repeat refine WS.adm rfl ?_
        exact join _ _ ⟨v, _, c, c0, c4, c3, c5, hb, hlow, by rw [hvb]⟩
      ·intro j2
       cases b0 <;> cases b1 <;> cases b2 <;> cases b3 <;> cases b4
       all_goals
        repeat (first | refine WS.adm rfl ?_ | refine WS.region (by simp only [EV, TY, lget, a0, a3, a4, a5, a6, q0, q1, q2, q3, q4, idec, hls, ↓reduceIte, Nat.reduceEqDiff]; with_reducible rfl) ?_)
        refine j2 _ _ ⟨rfl, ?_, ?_, ?_, ?_, ?_⟩ <;> simp only [EV, lget, a0, a3, a4, a5, a6, ↓reduceIte, Nat.reduceEqDiff, decide_true, decide_false, eq_self, and_true, true_and, and_self, Bool.or_true, Bool.true_or, Bool.and_true, Bool.true_and, Bool.or_false, Bool.false_or, Bool.and_false, Bool.false_and, Bool.or_self, Bool.and_self]
    ·intro j1
     by_cases h32 : c < 32
     ·have h32' : (c.toNat : Int) < 32 := by have : c.toNat < 32 := h32; omega
      rw [decide_eq_true (show c < 32 ∨ c = 127 from .inl h32)] at j1
      repeat (first | refine WS.adm rfl ?_ | refine WS.region (by simp only [EV, TY, lget, h32', ↓reduceIte, Nat.reduceEqDiff]; with_reducible rfl) ?_)
      refine j1 _ _ ⟨rfl, ?_, ?_, ?_, ?_, ?_, ?_⟩ <;> simp only [EV, lget, h0, h3, h4, ↓reduceIte, Nat.reduceEqDiff, decide_true, decide_false, eq_self, AT]
     ·have h32' : ¬ (c.toNat : Int) < 32 := by have : ¬ c.toNat < 32 := h32; omega
      have h127 : ((c.toNat : Int) == 127) = decide (c < 32 ∨ c = 127) := by
       have := u8_eqb c 127
       rw [show (((127 : UInt8).toNat : Nat) : Int) = 127 from rfl] at this
       rw [this]
       simp [h32]
      repeat (first | refine WS.adm rfl ?_ | refine WS.region (by simp only [EV, TY, lget, h32', h127, ↓reduceIte, Nat.reduceEqDiff]; with_reducible rfl) ?_)
      refine j1 _ _ ⟨rfl, ?_, ?_, ?_, ?_, ?_, ?_⟩ <;> simp only [EV, lget, h0, h3, h4, ↓reduceIte, Nat.reduceEqDiff, decide_true, decide_false, eq_self, AT]
  ·have hlt' : ¬ ((i : Nat) : Int) < ((s.length : Nat) : Int) := by omega
   repeat (first | refine WS.adm rfl ?_ | refine WS.region (by simp only [EV, TY, h0, h4, hlt', ↓reduceIte, Nat.reduceEqDiff]; with_reducible rfl) ?_)
   refine WS.cf0 ?_
   refine WS.exit rfl ?_
   have : i = s.length := by omega
   subst this
   rw [List.drop_length, valF, List.append_nil] at hv
   refine last _ _ ⟨v, out, ?_, hb, hlow, hv⟩
   simp only [EV, h3, ↓reduceIte, Nat.reduceEqDiff, AT]
end Go.Proofs.YtmmjlgocihhkcaaGreatDoor
