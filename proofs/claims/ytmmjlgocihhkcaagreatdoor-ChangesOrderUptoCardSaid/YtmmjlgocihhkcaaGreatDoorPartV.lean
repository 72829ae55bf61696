import Derived.Test.YtmmjlgocihhkcaaGreatDoorPartT
import Derived.Test.YtmmjlgocihhkcaaGreatDoorPartO
import Derived.Test.YtmmjlgocihhkcaaGreatDoorVmF
import Derived.Test.YtmmjlgocihhkcaaGreatDoorPartP
set_option linter.all false
namespace Go.Proofs.YtmmjlgocihhkcaaGreatDoor
open Go Go.Vm
set_option maxRecDepth 100000
set_option maxHeartbeats 8000000
def strip (gt : List (List UInt8)) (x : Img) : Img := (x.1, x.2.filter fun a => inT gt a.1)
theorem permP_strip (s : SchD) (gt : List (List UInt8)) (a : List Attr) : permP s gt (a.filter fun t => inT gt t.1) = permP s gt a := by
 unfold permP
 rw [List.filter_filter]
 refine List.filter_congr fun x _ => ?_
 unfold hasA
 cases typ s x.1 with
 | none => simp
 | some t => cases inT gt x.1 <;> simp
theorem viewU_congr {s : SchD} {g : Agr} {l m : List Img} : ∀ i, (∀ k, k < i → pick1 s g l k = pick1 s g m k) → viewU s g l i = viewU s g m i
 | 0, _ => by simp [viewU]
 | i + 1, h => by
  rw [viewU_succ, viewU_succ, viewU_congr i (fun k hk => h k (by omega)), h i (by omega)]
theorem viewU_more {s : SchD} {g : Agr} {l : List Img} {n : Nat} : ∀ d, (∀ k, n ≤ k → k < n + d → pick1 s g l k = []) → viewU s g l (n + d) = viewU s g l n
 | 0, _ => rfl
 | d + 1, h => by
  rw [← Nat.add_assoc, viewU_succ, viewU_more d (fun k h1 h2 => h k h1 (by omega)), h (n + d) (by omega) (by omega), List.append_nil]
theorem view_confined {s : SchD} {g : Agr} {l more : List Img} (hm : ∀ x ∈ more, underB x.1 g.1 = false) : viewP s g (l.map (strip g.2) ++ more) = viewP s g l := by
 unfold viewP
 congr 1
 rw [List.length_append, List.length_map, viewU_more, viewU_congr (m := l)]
 ·intro k hk
  unfold pick1
  rw [List.getElem?_append_left (by simpa using hk), List.getElem?_map, List.getElem?_eq_getElem hk]
  obtain ⟨j, hj⟩ := self_at hk
  have ha : atI (l.map (strip g.2) ++ more) l[k].1 = atI l l[k].1 := by
   unfold atI
   rw [List.findIdx?_append, List.findIdx?_map, show oneN l[k].1 ∘ strip g.2 = oneN l[k].1 from rfl, hj]
   rfl
  show (if decide (atI (l.map (strip g.2) ++ more) l[k].1 = ((k : Nat) : Int)) && underB l[k].1 g.1 then [(l[k].1, permP s g.2 (l[k].2.filter fun t => inT g.2 t.1))] else []) = _
  rw [ha, permP_strip]
 ·intro k h1 h2
  unfold pick1
  rw [List.getElem?_append_right (by simpa using h1), List.length_map, List.getElem?_eq_getElem (by omega)]
  show (if decide _ && underB (more[k - l.length]'(by omega)).1 g.1 then _ else _) = _
  rw [hm _ (List.getElem_mem _), Bool.and_false]
  rfl
theorem one_kd {l : List IgS.Kd} (h : l.Pairwise fun x y => x.1 ≠ y.1) (k : List UInt8) : (l.filter fun x => x.1 == k).length ≤ 1 := by
 have hp : (l.filter fun x => x.1 == k).Pairwise fun x y => x.1 ≠ y.1 := h.sublist (List.filter_sublist)
 match hf : l.filter fun x => x.1 == k with
 | [] => simp [hf]
 | [a] => simp [hf]
 | a :: b :: c =>
  rw [hf] at hp
  have h1 := (List.pairwise_cons.1 hp).1 b (by simp)
  have ha : a ∈ l.filter fun x => x.1 == k := by rw [hf]; simp
  have hb : b ∈ l.filter fun x => x.1 == k := by rw [hf]; simp
  have h2 := (List.mem_filter.1 ha).2
  have h3 := (List.mem_filter.1 hb).2
  simp only [beq_iff_eq] at h2 h3
  exact absurd (h2.trans h3.symm) h1
theorem perm_short {α : Type} {a b : List α} (p : a.Perm b) (h : a.length ≤ 1) : a = b := by
 match a, p, h with
 | [], p, _ => exact (List.Perm.nil_eq p)
 | [x], p, _ => exact (List.perm_singleton.1 p.symm).symm
theorem sort_perm_eq {l r : List Img} (p : l.Perm r) (h : l.Pairwise fun x y => keyS x.1 ≠ keyS y.1) : sortP l = sortP r := by
 unfold sortP
 congr 1
 refine IgS.sorted_unique (IgS.srt_sorted _) (IgS.srt_sorted _) ((IgS.srt_steq _).trans (IgS.StEq.trans ?_ (IgS.srt_steq _).symm))
 intro k
 refine perm_short ((p.map tagK).filter _) (one_kd ?_ k)
 rw [List.pairwise_map]
 exact h
theorem Unl.keys {l : List Img} (h : Unl l) (hk : ∀ x ∈ l, ∀ y ∈ l, keyS x.1 = keyS y.1 → normN x.1 = normN y.1) : l.Pairwise fun x y => keyS x.1 ≠ keyS y.1 := by
 refine List.Pairwise.imp_of_mem ?_ h
 intro x y hx hy hxy he
 exact hxy (hk x hx y hy he)
theorem view_rev {s : SchD} {g : Agr} {l : List Img} (hu : Unl l) (hk : ∀ x ∈ l, ∀ y ∈ l, keyS x.1 = keyS y.1 → normN x.1 = normN y.1) : viewP s g l = viewP s g l.reverse := by
 rw [view_unl hu, view_unl (hu.perm (List.reverse_perm l).symm)]
 refine sort_perm_eq ?_ ?_
 ·exact ((List.reverse_perm l).symm.filter _).map _
 ·rw [List.pairwise_map]
  exact (hu.keys hk).sublist List.filter_sublist
theorem Unl.eq {l : List Img} (h : Unl l) {x y : Img} (hx : x ∈ l) (hy : y ∈ l) (he : normN x.1 = normN y.1) : x = y := by
 obtain ⟨i, hi, rfl⟩ := List.getElem_of_mem hx
 obtain ⟨j, hj, rfl⟩ := List.getElem_of_mem hy
 rcases Nat.lt_trichotomy i j with h1 | h1 | h1
 ·exact absurd he (List.pairwise_iff_getElem.1 h i j hi hj h1)
 ·subst h1; rfl
 ·exact absurd he.symm (List.pairwise_iff_getElem.1 h j i hj hi h1)
theorem Unl.nodup {l : List Img} (h : Unl l) : l.Nodup := List.Pairwise.imp (fun {x y} hxy he => hxy (by rw [he])) h
theorem refType_ok (s : List UInt8) (S : Store) (hs : s.length ≤ 1048576) : vrun E0 (.fn 119) [.str s] S = some (.bool (typeB s), S) := by
 refine fn_ws Tryz.func119 rfl ?_
 repeat (first | refine WS.adm rfl ?_ | refine WS.rl ?_)
 refine WS.loopB (fun j fr S' => ∃ i, j = s.length - i ∧ i ≤ s.length ∧ lget fr 0 = .str s ∧ lget fr 3 = .int .i64 (i : Nat) ∧ S' = S ∧ ∀ k, k < i → tyCh k (s.getD k 0) = true)
  (fun fr S' => lget fr 0 = .str s ∧ S' = S ∧ ∀ k, k < s.length → tyCh k (s.getD k 0) = true) (j := s.length) ?_ ?_ ?_
 ·refine ⟨0, by omega, by omega, ?_, ?_, rfl, fun k hk => by omega⟩
  all_goals
   simp only [EV, lget, ↓reduceIte, Nat.reduceEqDiff, AT]
  rfl
 ·rintro fr S' ⟨h0, hSS, hall⟩
  subst S'
  rw [typeB_good s hall]
  by_cases a1 : (1 : Int) ≤ (s.length : Int)
  ·by_cases a2 : (s.length : Int) ≤ 20
   ·repeat (first | refine WS.adm rfl ?_ | refine WS.region (by simp only [EV, TY, h0, a1, a2, ↓reduceIte, Nat.reduceEqDiff]; with_reducible rfl) ?_)
    refine WS.ret1s (t := 2) rfl rfl (List.prefix_refl _) (frz_bool _ _ _) ?_
    simp only [EV, ↓reduceIte, Nat.reduceEqDiff, AT]
    simp; omega
   ·repeat (first | refine WS.adm rfl ?_ | refine WS.region (by simp only [EV, TY, h0, a1, a2, ↓reduceIte, Nat.reduceEqDiff]; with_reducible rfl) ?_)
    refine WS.ret1s (t := 2) rfl rfl (List.prefix_refl _) (frz_bool _ _ _) ?_
    simp only [EV, ↓reduceIte, Nat.reduceEqDiff, AT]
    simp; omega
  ·repeat (first | refine WS.adm rfl ?_ | refine WS.region (by simp only [EV, TY, h0, a1, ↓reduceIte, Nat.reduceEqDiff]; with_reducible rfl) ?_)
   refine WS.ret1s (t := 2) rfl rfl (List.prefix_refl _) (frz_bool _ _ _) ?_
   simp only [EV, ↓reduceIte, Nat.reduceEqDiff, AT]
   simp; omega
 ·rintro j fr S' ⟨i, rfl, hi, h0, h3, hSS, hall⟩ ih last
  subst S'
  by_cases hlt : (i : Int) < (s.length : Int)
  ·have hlt' : i < s.length := by omega
   have e1 := idx_str_9 s .i64 i hlt'
   generalize hc : s.getD i 0 = c at e1
   repeat (first | refine WS.adm rfl ?_ | refine WS.region (by simp only [EV, TY, h0, h3, hlt, ↓reduceIte, Nat.reduceEqDiff]; with_reducible rfl) ?_)
   refine WS.cond_true (by simp only [EV, hlt, ↓reduceIte, Nat.reduceEqDiff]) ?_
   repeat (first | refine WS.adm rfl ?_ | refine WS.region (by simp only [EV, TY, h0, h3, e1, callV_144, Letter_ok, callV_145, Digit_ok, ↓reduceIte, Nat.reduceEqDiff]; with_reducible rfl) ?_)
   have good : tyCh i c = true → ∀ fr' : Fr, lget fr' 0 = .str s → lget fr' 3 = .int .i64 ((i + 1 : Nat)) → WS E0 _ fr' S _ := fun hg fr' a1 a2 => ih (s.length - (i + 1)) _ _ (by omega) ⟨i + 1, rfl, by omega, a1, a2, rfl, fun k hk => by
    rcases Nat.lt_or_ge k i with h | h
    ·exact hall k h
    ·obtain rfl : k = i := by omega
     rw [hc]; exact hg⟩
   have bad : tyCh i c = false → typeB s = false := fun h => typeB_bad s i hlt' (by rw [hc]; exact h)
   by_cases q1 : letterZ (c.toNat : Int) = true
   ·repeat (first | refine WS.adm rfl ?_ | refine WS.region (by simp only [EV, TY, q1, ↓reduceIte, Nat.reduceEqDiff]; with_reducible rfl) ?_)
    refine WS.cond_false (by simp only [EV, q1, ↓reduceIte, Nat.reduceEqDiff]) ?_
    repeat (first | refine WS.adm rfl ?_ | refine WS.region (by simp only [EV, TY, h3, wrap_inc i (by omega), ↓reduceIte, Nat.reduceEqDiff]; with_reducible rfl) ?_)
    refine good (by simp [tyCh, q1]) _ ?_ ?_
    all_goals
     simp only [EV, h0, ↓reduceIte, Nat.reduceEqDiff, AT]
   have q1 : letterZ (c.toNat : Int) = false := by simpa using q1
   by_cases q2 : i = 0
   ·have q2' : ((i : Nat) : Int) == 0 := by simp [q2]
    repeat (first | refine WS.adm rfl ?_ | refine WS.region (by simp only [EV, TY, q1, h3, q2', ↓reduceIte, Nat.reduceEqDiff]; with_reducible rfl) ?_)
    refine WS.cond_true (by simp only [EV, q1, q2', ↓reduceIte, Nat.reduceEqDiff]) ?_
    repeat (first | refine WS.adm rfl ?_ | refine WS.rl ?_)
    rw [bad (by simp [tyCh, q1, q2])]
    refine WS.ret1s (t := 2) rfl rfl (List.prefix_refl _) (frz_bool _ _ _) ?_
    simp only [EV, ↓reduceIte, Nat.reduceEqDiff, AT]
   have q2' : (((i : Nat) : Int) == 0) = false := by simp [q2]
   by_cases q3 : digitZ (c.toNat : Int) = true
   ·repeat (first | refine WS.adm rfl ?_ | refine WS.region (by simp only [EV, TY, q1, h3, q2', q3, ↓reduceIte, Nat.reduceEqDiff]; with_reducible rfl) ?_)
    refine WS.cond_false (by simp only [EV, q1, q2', q3, ↓reduceIte, Nat.reduceEqDiff]) ?_
    repeat (first | refine WS.adm rfl ?_ | refine WS.region (by simp only [EV, TY, h3, wrap_inc i (by omega), ↓reduceIte, Nat.reduceEqDiff]; with_reducible rfl) ?_)
    refine good (by simp [tyCh, q2, q3]) _ ?_ ?_
    all_goals
     simp only [EV, h0, ↓reduceIte, Nat.reduceEqDiff, AT]
   have q3 : digitZ (c.toNat : Int) = false := by simpa using q3
   by_cases q4 : c = 45
   ·repeat (first | refine WS.adm rfl ?_ | refine WS.region (by simp only [EV, TY, q1, h0, h3, q2', q3, e1, ne8f q4 45 rfl, ↓reduceIte, Nat.reduceEqDiff]; with_reducible rfl) ?_)
    refine WS.cond_false (by simp only [EV, q1, q2', q3, ↓reduceIte, Nat.reduceEqDiff]) ?_
    repeat (first | refine WS.adm rfl ?_ | refine WS.region (by simp only [EV, TY, h3, wrap_inc i (by omega), ↓reduceIte, Nat.reduceEqDiff]; with_reducible rfl) ?_)
    refine good (by simp [tyCh, q2, q4]) _ ?_ ?_
    all_goals
     simp only [EV, h0, ↓reduceIte, Nat.reduceEqDiff, AT]
   ·repeat (first | refine WS.adm rfl ?_ | refine WS.region (by simp only [EV, TY, q1, h0, h3, q2', q3, e1, ne8t q4 45 rfl, ↓reduceIte, Nat.reduceEqDiff]; with_reducible rfl) ?_)
    refine WS.cond_true (by simp only [EV, q1, q2', q3, ↓reduceIte, Nat.reduceEqDiff]) ?_
    repeat (first | refine WS.adm rfl ?_ | refine WS.rl ?_)
    rw [bad (by simp [tyCh, q1, q2, q3, q4])]
    refine WS.ret1s (t := 2) rfl rfl (List.prefix_refl _) (frz_bool _ _ _) ?_
    simp only [EV, ↓reduceIte, Nat.reduceEqDiff, AT]
  ·repeat (first | refine WS.adm rfl ?_ | refine WS.region (by simp only [EV, TY, h0, h3, hlt, ↓reduceIte, Nat.reduceEqDiff]; with_reducible rfl) ?_)
   refine WS.cond_false (by simp only [EV, hlt, ↓reduceIte, Nat.reduceEqDiff]) ?_
   refine WS.exit rfl ?_
   have : i = s.length := by omega
   subst this
   refine last _ _ ⟨?_, rfl, hall⟩
   simp only [EV, h0, ↓reduceIte, Nat.reduceEqDiff, AT]
def stepP (r : List Ava) : Prop := 1 ≤ r.length ∧ r.length ≤ 4 ∧ ∀ i, i < r.length → typeB (r.getD i ([], [])).1 = true ∧ ∀ k, k < i → smallS (r.getD k ([], [])).1 ≠ smallS (r.getD i ([], [])).1
def shapedP (n : List (List Ava)) : Prop := n.length ≤ 16 ∧ ∀ i, i < n.length → stepP (n.getD i [])
noncomputable def shapedB (n : List (List Ava)) : Bool := @decide (shapedP n) (Classical.propDecidable _)
theorem shapedB_true {n : List (List Ava)} (h : shapedP n) : shapedB n = true := by unfold shapedB; exact @decide_eq_true _ (Classical.propDecidable _) h
theorem shapedB_false {n : List (List Ava)} (h : ¬ shapedP n) : shapedB n = false := by unfold shapedB; exact @decide_eq_false _ (Classical.propDecidable _) h
theorem Shaped_ok {S : Store} {v : V} {n : List (List Ava)} (hn : isDn S v n) (on : okN n) : vrun E0 (.fn 85) [v] S = some (.bool (shapedB n), S) := by
 refine fn_ws Tryz.func85 rfl ?_
 have ln := hn.len
 repeat (first | refine WS.adm rfl ?_ | refine WS.rl ?_)
 refine WS.loopB (fun j fr S' => ∃ i, j = n.length - i ∧ i ≤ n.length ∧ lget fr 0 = v ∧ lget fr 3 = .int .i64 (i : Nat) ∧ S = S' ∧ ∀ k, k < i → stepP (n.getD k []))
  (fun fr S' => lget fr 0 = v ∧ S = S' ∧ ∀ k, k < n.length → stepP (n.getD k [])) (j := n.length) ?_ ?_ ?_
 ·refine ⟨0, by omega, by omega, ?_, ?_, rfl, fun k hk => by omega⟩
  all_goals
   simp only [EV, lget, ↓reduceIte, Nat.reduceEqDiff, AT]
   try rfl
 ·rintro fr S' ⟨h0, rfl, hall⟩
  by_cases h16 : ((n.length : Nat) : Int) ≤ 16
  ·repeat (first | refine WS.adm rfl ?_ | refine WS.region (by simp only [EV, TY, h0, ln, h16, ↓reduceIte, Nat.reduceEqDiff]; with_reducible rfl) ?_)
   refine ret_bool (t := 2) rfl rfl (List.prefix_refl _) (shapedB_true ⟨by omega, hall⟩) ?_
   simp only [EV, ↓reduceIte, Nat.reduceEqDiff, AT]
  ·repeat (first | refine WS.adm rfl ?_ | refine WS.region (by simp only [EV, TY, h0, ln, h16, ↓reduceIte, Nat.reduceEqDiff]; with_reducible rfl) ?_)
   refine ret_bool (t := 2) rfl rfl (List.prefix_refl _) (shapedB_false fun h => h16 (by have := h.1; omega)) ?_
   simp only [EV, ↓reduceIte, Nat.reduceEqDiff, AT]
 ·rintro j fr S' ⟨i, rfl, hi, h0, h3, hSS, hall⟩ ih last
  subst hSS
  by_cases hlt : i < n.length
  ·have hlt' : ((i : Nat) : Int) < ((n.length : Nat) : Int) := by omega
   obtain ⟨pa, c, i1, i2, i3⟩ := hn.at_ i hlt
   have lr := i3.len
   have or_ := on.at_ i hlt
   have bad : ¬ stepP (n.getD i []) → shapedB n = false := fun h => shapedB_false fun g => h (g.2 i hlt)
   have good : stepP (n.getD i []) → ∀ k, k < i + 1 → stepP (n.getD k []) := fun g k hk => by
    rcases Nat.lt_or_ge k i with h | h
    ·exact hall k h
    ·obtain rfl : k = i := by omega
     exact g
   generalize n.getD i [] = r at i3 lr or_ bad good
   repeat (first | refine WS.adm rfl ?_ | refine WS.region (by simp only [EV, TY, h0, h3, ln, hlt', ↓reduceIte, Nat.reduceEqDiff]; with_reducible rfl) ?_)
   refine WS.ct0 ?_
   repeat refine WS.adm rfl ?_
   have hinc := wrap_inc i (by have := on.1; omega)
   by_cases b1 : ((r.length : Nat) : Int) < 1
   ·repeat (first | refine WS.adm rfl ?_ | refine WS.region (by simp only [EV, TY, h0, h3, i1, i2, lr, b1, ↓reduceIte, Nat.reduceEqDiff]; with_reducible rfl) ?_)
    refine WS.cond_true (by simp only [EV, b1, ↓reduceIte, Nat.reduceEqDiff]) ?_
    repeat (first | refine WS.adm rfl ?_ | refine WS.r0 ?_)
    refine ret_bool (t := 2) rfl rfl (List.prefix_refl _) (bad fun h => by have := h.1; omega) ?_
    simp only [EV, ↓reduceIte, Nat.reduceEqDiff, AT]
   by_cases b2 : (4 : Int) < ((r.length : Nat) : Int)
   ·repeat (first | refine WS.adm rfl ?_ | refine WS.region (by simp only [EV, TY, h0, h3, i1, i2, lr, b1, b2, ↓reduceIte, Nat.reduceEqDiff]; with_reducible rfl) ?_)
    refine WS.cond_true (by simp only [EV, b1, b2, ↓reduceIte, Nat.reduceEqDiff]) ?_
    repeat (first | refine WS.adm rfl ?_ | refine WS.r0 ?_)
    refine ret_bool (t := 2) rfl rfl (List.prefix_refl _) (bad fun h => by have := h.2.1; omega) ?_
    simp only [EV, ↓reduceIte, Nat.reduceEqDiff, AT]
   repeat (first | refine WS.adm rfl ?_ | refine WS.region (by simp only [EV, TY, h0, h3, i1, i2, lr, b1, b2, ↓reduceIte, Nat.reduceEqDiff]; with_reducible rfl) ?_)
   refine WS.cond_false (by simp only [EV, b1, b2, ↓reduceIte, Nat.reduceEqDiff]) ?_
   repeat (first | refine WS.adm rfl ?_ | refine WS.r0 ?_)
   refine WS.loopB (fun j fr S' => ∃ m, j = r.length - m ∧ m ≤ r.length ∧ lget fr 0 = v ∧ lget fr 3 = .int .i64 (i : Nat) ∧ lget fr 4 = .int .i64 (m : Nat) ∧ S = S' ∧ ∀ q, q < m → typeB (r.getD q ([], [])).1 = true ∧ ∀ k, k < q → smallS (r.getD k ([], [])).1 ≠ smallS (r.getD q ([], [])).1)
    (fun fr S' => lget fr 0 = v ∧ lget fr 3 = .int .i64 (i : Nat) ∧ S = S' ∧ stepP r) (j := r.length) ?_ ?_ ?_
   ·refine ⟨0, by omega, by omega, ?_, ?_, ?_, rfl, fun k hk => by omega⟩
    all_goals
     simp only [EV, h0, h3, ↓reduceIte, Nat.reduceEqDiff, AT]
     try rfl
   ·rintro fr S' ⟨h0, h3, rfl, hr⟩
    repeat (first | refine WS.adm rfl ?_ | refine WS.region (by simp only [EV, TY, h3, hinc, ↓reduceIte, Nat.reduceEqDiff]; with_reducible rfl) ?_)
    refine ih (n.length - (i + 1)) _ _ (by omega) ⟨i + 1, rfl, by omega, ?_, ?_, rfl, good hr⟩
    iterate 2 simp only [EV, h0, ↓reduceIte, Nat.reduceEqDiff, AT]
   ·rintro j fr S' ⟨m, rfl, hm, h0, h3, h4, hSS, hrall⟩ ihm lastm
    subst hSS
    by_cases hmlt : m < r.length
    ·have hmlt' : ((m : Nat) : Int) < ((r.length : Nat) : Int) := by omega
     obtain ⟨qa, j1, ta, j2⟩ := i3.at_ m hmlt
     obtain ⟨qt, j3, j4⟩ := ava_type j2
     have oka := or_.at_ m hmlt
     have tyx := Type_ok (r.getD m ([], [])).1 S oka.1
     have rtyx := refType_ok (r.getD m ([], [])).1 S oka.1
     have minc := wrap_inc m (by have := or_.1; omega)
     repeat (first | refine WS.adm rfl ?_ | refine WS.region (by simp only [EV, TY, h0, h3, h4, i1, i2, lr, hmlt', ↓reduceIte, Nat.reduceEqDiff]; with_reducible rfl) ?_)
     refine WS.ct0 ?_
     repeat refine WS.adm rfl ?_
     by_cases ht : typeB (r.getD m ([], [])).1 = true
     ·repeat (first | refine WS.adm rfl ?_ | refine WS.region (by simp only [EV, TY, h0, h3, h4, i1, i2, j1, j3, j4, callV_119, rtyx, ht, Bool.not_true, ↓reduceIte, Nat.reduceEqDiff]; with_reducible rfl) ?_)
      refine WS.cf0 ?_
      repeat (first | refine WS.adm rfl ?_ | refine WS.region (by simp only [EV, TY, h0, h3, h4, ↓reduceIte, Nat.reduceEqDiff]; with_reducible rfl) ?_)
      refine WS.loopB (fun j fr S' => ∃ p, j = m - p ∧ p ≤ m ∧ lget fr 0 = v ∧ lget fr 3 = .int .i64 (i : Nat) ∧ lget fr 4 = .int .i64 (m : Nat) ∧ lget fr 6 = .int .i64 (p : Nat) ∧ S = S' ∧ ∀ k, k < p → smallS (r.getD k ([], [])).1 ≠ smallS (r.getD m ([], [])).1)
       (fun fr S' => lget fr 0 = v ∧ lget fr 3 = .int .i64 (i : Nat) ∧ lget fr 4 = .int .i64 (m : Nat) ∧ S = S' ∧ ∀ k, k < m → smallS (r.getD k ([], [])).1 ≠ smallS (r.getD m ([], [])).1) (j := m) ?_ ?_ ?_
      ·refine ⟨0, by omega, by omega, ?_, ?_, ?_, ?_, rfl, fun k hk => by omega⟩
       all_goals
        simp only [EV, h0, h3, h4, ↓reduceIte, Nat.reduceEqDiff, AT]
        try rfl
      ·rintro fr S' ⟨h0, h3, h4, rfl, hk⟩
       repeat (first | refine WS.adm rfl ?_ | refine WS.region (by simp only [EV, TY, h4, minc, ↓reduceIte, Nat.reduceEqDiff]; with_reducible rfl) ?_)
       refine ihm (r.length - (m + 1)) _ _ (by omega) ⟨m + 1, rfl, by omega, ?_, ?_, ?_, rfl, fun q hq => ?_⟩
       iterate 3 simp only [EV, h0, h3, ↓reduceIte, Nat.reduceEqDiff, AT]
       ·rcases Nat.lt_or_ge q m with h | h
        ·exact hrall q h
        ·obtain rfl : q = m := by omega
         exact ⟨ht, hk⟩
      ·rintro j fr S' ⟨p, rfl, hp, h0, h3, h4, h6, hSS, hk⟩ ihp lastp
       subst hSS
       by_cases hplt : p < m
       ·have hplt' : ((p : Nat) : Int) < ((m : Nat) : Int) := by omega
        obtain ⟨qb, k1, tb, k2⟩ := i3.at_ p (by omega)
        obtain ⟨qu, k3, k4⟩ := ava_type k2
        have okb := or_.at_ p (by omega)
        have sx := Small_ok (r.getD m ([], [])).1 S oka.1
        have sy := Small_ok (r.getD p ([], [])).1 S okb.1
        by_cases he : smallS (r.getD m ([], [])).1 = smallS (r.getD p ([], [])).1
        ·have he' : ((smallS (r.getD m ([], [])).1) == (smallS (r.getD p ([], [])).1)) = true := beq_iff_eq.2 he
         repeat (first | refine WS.adm rfl ?_ | refine WS.region (by simp only [EV, TY, h0, h3, h4, h6, hplt', ↓reduceIte, Nat.reduceEqDiff]; with_reducible rfl) ?_)
         refine WS.ct0 ?_
         repeat (first | refine WS.adm rfl ?_ | refine WS.region (by simp only [EV, TY, h0, h3, h4, h6, i1, i2, j1, j3, j4, k1, k3, k4, callV_42, sx, sy, he', ↓reduceIte, Nat.reduceEqDiff]; with_reducible rfl) ?_)
         refine WS.ct0 ?_
         repeat (first | refine WS.adm rfl ?_ | refine WS.r0 ?_)
         refine ret_bool (t := 2) rfl rfl (List.prefix_refl _) (bad fun h => (h.2.2 m hmlt).2 p hplt he.symm) ?_
         simp only [EV, ↓reduceIte, Nat.reduceEqDiff, AT]
        ·have he' : ((smallS (r.getD m ([], [])).1) == (smallS (r.getD p ([], [])).1)) = false := beq_eq_false_iff_ne.2 he
         have pinc := wrap_inc p (by have := or_.1; omega)
         repeat (first | refine WS.adm rfl ?_ | refine WS.region (by simp only [EV, TY, h0, h3, h4, h6, hplt', ↓reduceIte, Nat.reduceEqDiff]; with_reducible rfl) ?_)
         refine WS.ct0 ?_
         repeat (first | refine WS.adm rfl ?_ | refine WS.region (by simp only [EV, TY, h0, h3, h4, h6, i1, i2, j1, j3, j4, k1, k3, k4, callV_42, sx, sy, he', ↓reduceIte, Nat.reduceEqDiff]; with_reducible rfl) ?_)
         refine WS.cf0 ?_
         repeat (first | refine WS.adm rfl ?_ | refine WS.region (by simp only [EV, TY, h6, pinc, ↓reduceIte, Nat.reduceEqDiff]; with_reducible rfl) ?_)
         refine ihp (m - (p + 1)) _ _ (by omega) ⟨p + 1, rfl, by omega, ?_, ?_, ?_, ?_, rfl, fun k hk' => ?_⟩
         iterate 4 simp only [EV, h0, h3, h4, ↓reduceIte, Nat.reduceEqDiff, AT]
         ·rcases Nat.lt_or_ge k p with h | h
          ·exact hk k h
          ·obtain rfl : k = p := by omega
           exact fun h => he h.symm
       ·have hplt' : ¬ ((p : Nat) : Int) < ((m : Nat) : Int) := by omega
        repeat (first | refine WS.adm rfl ?_ | refine WS.region (by simp only [EV, TY, h0, h3, h4, h6, hplt', ↓reduceIte, Nat.reduceEqDiff]; with_reducible rfl) ?_)
        refine WS.cf0 ?_
        refine WS.exit rfl ?_
        have : p = m := by omega
        subst this
        refine lastp _ _ ⟨?_, ?_, ?_, rfl, hk⟩
        iterate 3 simp only [EV, h0, h3, h4, ↓reduceIte, Nat.reduceEqDiff, AT]
     ·have ht : typeB (r.getD m ([], [])).1 = false := by simpa using ht
      repeat (first | refine WS.adm rfl ?_ | refine WS.region (by simp only [EV, TY, h0, h3, h4, i1, i2, j1, j3, j4, callV_119, rtyx, ht, Bool.not_false, ↓reduceIte, Nat.reduceEqDiff]; with_reducible rfl) ?_)
      refine WS.ct0 ?_
      repeat (first | refine WS.adm rfl ?_ | refine WS.r0 ?_)
      refine ret_bool (t := 2) rfl rfl (List.prefix_refl _) (bad fun h => by have := (h.2.2 m hmlt).1; rw [ht] at this; simp at this) ?_
      simp only [EV, ↓reduceIte, Nat.reduceEqDiff, AT]
    ·have hmlt' : ¬ ((m : Nat) : Int) < ((r.length : Nat) : Int) := by omega
     repeat (first | refine WS.adm rfl ?_ | refine WS.region (by simp only [EV, TY, h0, h3, h4, i1, i2, lr, hmlt', ↓reduceIte, Nat.reduceEqDiff]; with_reducible rfl) ?_)
     refine WS.cf0 ?_
     refine WS.exit rfl ?_
     have : m = r.length := by omega
     subst this
     refine lastm _ _ ⟨?_, ?_, rfl, by omega, by omega, hrall⟩
     iterate 2 simp only [EV, h0, h3, ↓reduceIte, Nat.reduceEqDiff, AT]
  ·have hlt' : ¬ ((i : Nat) : Int) < ((n.length : Nat) : Int) := by omega
   repeat (first | refine WS.adm rfl ?_ | refine WS.region (by simp only [EV, TY, h0, h3, ln, hlt', ↓reduceIte, Nat.reduceEqDiff]; with_reducible rfl) ?_)
   refine WS.cf0 ?_
   refine WS.exit rfl ?_
   have : i = n.length := by omega
   subst this
   refine last _ _ ⟨?_, rfl, hall⟩
   simp only [EV, h0, ↓reduceIte, Nat.reduceEqDiff, AT]
end Go.Proofs.YtmmjlgocihhkcaaGreatDoor
