import Derived.Test.YtmmjlgocihhkcaaGreatDoorPartK
set_option linter.all false
namespace Go.Proofs.YtmmjlgocihhkcaaGreatDoor.ImS
open Go Go.Vm Go.Proofs.YtmmjlgocihhkcaaGreatDoor
set_option maxRecDepth 100000
set_option maxHeartbeats 8000000
theorem mem_get {l : List Im} {x : Im} (h : x ∈ l) : ∃ q, q < l.length ∧ l.getD q im0 = x := by
 obtain ⟨q, hq, rfl⟩ := List.getElem_of_mem h
 exact ⟨q, hq, by simp [List.getD, hq]⟩
theorem take_getD (l : List Im) (n q : Nat) (h : q < (l.take n).length) : (l.take n).getD q im0 = l.getD q im0 := by
 simp only [List.length_take] at h
 simp [List.getD, List.getElem?_take, show q < n by omega]
theorem drop_getD' (l : List Im) (n q : Nat) : (l.drop n).getD q im0 = l.getD (n + q) im0 := by
 simp [List.getD, List.getElem?_drop]
theorem symMerge_ok : ∀ (N : Nat) {T : Store} {id : Nat} (A U Z B : List Im) {C : List Im}, C = A ++ (U ++ (Z ++ B)) → T[id]? = some (.cells (fl C) 52) → C.length ≤ 1048576 → Sorted U → Sorted Z → U ≠ [] → Z ≠ [] → ∀ {fv : V}, CmpOk fv → ∀ (a m b : Nat), a = A.length → m = A.length + U.length → b = A.length + U.length + Z.length → U.length + Z.length = N →
  vrun E0 (.fn 137) [.slR id 0 C.length C.length 2, .int .i64 (a : Nat), .int .i64 (m : Nat), .int .i64 (b : Nat), fv] T = some (.tup [], T.set id (.cells (fl (A ++ (srt (U ++ Z) ++ B))) 52)) := by
 intro N
 induction N using Nat.strongRecOn with
 | _ N IH =>
 intro T id A U Z B C hC hT hN hsU hsZ hU0 hZ0 fv hcmp a m b ha hm hb hNe
 have pU : 0 < U.length := List.length_pos_iff.2 hU0
 have pZ : 0 < Z.length := List.length_pos_iff.2 hZ0
 by_cases hU1 : U.length = 1
 ·obtain ⟨x, rfl⟩ := List.length_eq_one_iff.1 hU1
  exact sym1_ok A x Z B hC hT hN hsZ hcmp a m b ha (by simp at hm; omega) (by simp at hb; omega)
 by_cases hZ1 : Z.length = 1
 ·obtain ⟨y, rfl⟩ := List.length_eq_one_iff.1 hZ1
  exact sym2_ok A U y B hC hT hN hsU hU1 hcmp a m b ha hm (by simp at hb; omega)
 refine fn_ws Tryz.func137 rfl ?_
 have hid : id < T.length := lt_of_get hT
 have hCl : C.length = A.length + U.length + Z.length + B.length := by rw [hC]; simp; omega
 have gu : ∀ k, k < U.length → C.getD (a + k) im0 = U.getD k im0 := fun k hk => by
  rw [hC, ha, getD_app, getD_app' _ _ _ _ hk]
 have gz : ∀ k, k < Z.length → C.getD (m + k) im0 = Z.getD k im0 := fun k hk => by
  have e : C = (A ++ U) ++ (Z ++ B) := by rw [hC]; simp
  rw [e, hm, show A.length + U.length + k = (A ++ U).length + k by simp, getD_app, getD_app' _ _ _ _ hk]
 have cu : ∀ i j, a ≤ i → i ≤ j → j < m → ltA (C.getD j im0) (C.getD i im0) = false := fun i j h1 h2 h3 => by
  rw [show i = a + (i - a) by omega, show j = a + (j - a) by omega, gu _ (by omega), gu _ (by omega)]
  exact sorted_get hsU (by omega) (by omega)
 have cz : ∀ i j, m ≤ i → i ≤ j → j < b → ltA (C.getD j im0) (C.getD i im0) = false := fun i j h1 h2 h3 => by
  rw [show i = m + (i - m) by omega, show j = m + (j - m) by omega, gz _ (by omega), gz _ (by omega)]
  exact sorted_get hsZ (by omega) (by omega)
 have w1 := ws_ m a (by omega) (by omega)
 have w2 := ws_ b m (by omega) (by omega)
 have e1 : (((m - a : Nat) : Int) == 1) = false := beq_eq_false_iff_ne.2 (by omega)
 have e2 : (((b - m : Nat) : Int) == 1) = false := beq_eq_false_iff_ne.2 (by omega)
 have k1 := wa a b (by omega)
 have k2 := mid1 (a + b) (by omega) T
 have k3 := fun l => mid2 (a + b) l
 have k4 := mid3 ((a + b) / 2) (by omega) T
 generalize hmid : (a + b) / 2 = mid at k3 k4
 have hmid' : a < mid ∧ mid < b ∧ 2 * mid ≤ a + b ∧ a + b ≤ 2 * mid + 1 := by omega
 have k5 := wa mid m (by omega)
 generalize hn : mid + m = n at k5
 have k6 : IntKind.i64.wrap ((n : Int) - 1) = ((n - 1 : Nat) : Int) := wrap_sub1 n (by omega) (by omega)
 repeat (first | refine WS.adm rfl ?_ | refine WS.region (by simp only [EV, TY, lget, w1, e1, ↓reduceIte, Nat.reduceEqDiff]; with_reducible rfl) ?_)
 refine WS.cond_false (by simp only [EV, lget, ↓reduceIte, Nat.reduceEqDiff]) ?_
 repeat (first | refine WS.adm rfl ?_ | refine WS.region (by simp only [EV, TY, lget, w2, e2, ↓reduceIte, Nat.reduceEqDiff]; with_reducible rfl) ?_)
 refine WS.cond_false (by simp only [EV, lget, ↓reduceIte, Nat.reduceEqDiff]) ?_
 repeat (first | refine WS.adm rfl ?_ | refine WS.region (by simp only [EV, TY, lget, k1, k2, k3, k4, k5, ↓reduceIte, Nat.reduceEqDiff]; with_reducible rfl) ?_)
 refine WSjoin (fun fr S' => ∃ s0 r0, a ≤ s0 ∧ s0 ≤ r0 ∧ r0 ≤ m ∧ r0 ≤ mid ∧ n ≤ s0 + b ∧ (r0 = m ∨ r0 = mid) ∧ (s0 = a ∨ s0 + b = n) ∧ T = S' ∧ lget fr 0 = .slR id 0 C.length C.length 2 ∧ lget fr 1 = .int .i64 (a : Nat) ∧ lget fr 2 = .int .i64 (m : Nat) ∧ lget fr 3 = .int .i64 (b : Nat) ∧ lget fr 4 = fv ∧ lget fr 18 = .int .i64 (mid : Nat) ∧ lget fr 19 = .int .i64 (n : Nat) ∧ lget fr 20 = .int .i64 (s0 : Nat) ∧ lget fr 21 = .int .i64 (r0 : Nat)) ?_ ?_
 rotate_left
 ·intro last
  by_cases hgt : mid < m
  ·have hgt' : ((mid : Nat) : Int) < ((m : Nat) : Int) := by omega
   have k7 := ws_ n b (by omega) (by omega)
   refine WS.cond_true (by simp only [EV, lget, hgt', ↓reduceIte, Nat.reduceEqDiff]) ?_
   refine WS.seq ?_
   refine WS.region (by simp only [EV, TY, lget, k7, ↓reduceIte, Nat.reduceEqDiff]; with_reducible rfl) ?_
   refine WS.rl ?_
   refine last _ _ ⟨n - b, mid, by omega, by omega, by omega, by omega, by omega, .inr rfl, .inr (by omega), rfl, ?_, ?_, ?_, ?_, ?_, ?_, ?_, ?_, ?_⟩
   all_goals
    simp only [EV, lget, ↓reduceIte, Nat.reduceEqDiff, AT]
  ·have hgt' : ¬ ((mid : Nat) : Int) < ((m : Nat) : Int) := by omega
   refine WS.cond_false (by simp only [EV, lget, hgt', ↓reduceIte, Nat.reduceEqDiff]) ?_
   refine WS.seq ?_
   refine WS.rl ?_
   refine WS.rl ?_
   refine last _ _ ⟨a, m, by omega, by omega, by omega, by omega, by omega, .inl rfl, .inl rfl, rfl, ?_, ?_, ?_, ?_, ?_, ?_, ?_, ?_, ?_⟩
   all_goals
    simp only [EV, lget, ↓reduceIte, Nat.reduceEqDiff, AT]
 rintro fr S' ⟨s0, r0, q1, q2, q3, q4, q5, q6, q7, rfl, h0, h1, h2, h3, h4, h18, h19, h20, h21⟩
 repeat (first | refine WS.adm rfl ?_ | refine WS.region (by simp only [EV, TY, h19, k6, ↓reduceIte, Nat.reduceEqDiff]; with_reducible rfl) ?_)
 refine WS.loopB (fun j fr S' => ∃ i j', j = j' - i ∧ s0 ≤ i ∧ i ≤ j' ∧ j' ≤ r0 ∧ T = S' ∧ lget fr 0 = .slR id 0 C.length C.length 2 ∧ lget fr 1 = .int .i64 (a : Nat) ∧ lget fr 2 = .int .i64 (m : Nat) ∧ lget fr 3 = .int .i64 (b : Nat) ∧ lget fr 4 = fv ∧ lget fr 18 = .int .i64 (mid : Nat) ∧ lget fr 19 = .int .i64 (n : Nat) ∧ lget fr 20 = .int .i64 (i : Nat) ∧ lget fr 21 = .int .i64 (j' : Nat) ∧ lget fr 22 = .int .i64 ((n - 1 : Nat) : Int) ∧ (∀ k, s0 ≤ k → k < i → ltA (C.getD (n - 1 - k) im0) (C.getD k im0) = false) ∧ ∀ k, j' ≤ k → k < r0 → ltA (C.getD (n - 1 - k) im0) (C.getD k im0) = true)
  (fun fr S' => ∃ i, s0 ≤ i ∧ i ≤ r0 ∧ T = S' ∧ lget fr 0 = .slR id 0 C.length C.length 2 ∧ lget fr 1 = .int .i64 (a : Nat) ∧ lget fr 2 = .int .i64 (m : Nat) ∧ lget fr 3 = .int .i64 (b : Nat) ∧ lget fr 4 = fv ∧ lget fr 18 = .int .i64 (mid : Nat) ∧ lget fr 19 = .int .i64 (n : Nat) ∧ lget fr 20 = .int .i64 (i : Nat) ∧ (∀ k, s0 ≤ k → k < i → ltA (C.getD (n - 1 - k) im0) (C.getD k im0) = false) ∧ ∀ k, i ≤ k → k < r0 → ltA (C.getD (n - 1 - k) im0) (C.getD k im0) = true) (j := r0 - s0) ?_ ?_ ?_
 ·refine ⟨s0, r0, rfl, Nat.le_refl _, q2, Nat.le_refl _, rfl, ?_, ?_, ?_, ?_, ?_, ?_, ?_, ?_, ?_, ?_, fun k h1 h2 => by omega, fun k h1 h2 => by omega⟩
  all_goals
   simp only [EV, h0, h1, h2, h3, h4, h18, h19, h20, h21, ↓reduceIte, Nat.reduceEqDiff, AT]
 ·rintro fr S' ⟨s, p1, p2, rfl, h0, h1, h2, h3, h4, h18, h19, h20, hlo, hhi⟩
  have k7 := ws_ n s (by omega) (by omega)
  have c1 : ∀ u ∈ U.drop (s - a), ∀ v ∈ Z.take (mid - s), ltA v u = true := fun u hu v hv => by
   obtain ⟨qu, hqu, rfl⟩ := mem_get hu
   obtain ⟨qv, hqv, rfl⟩ := mem_get hv
   rw [take_getD _ _ _ hqv, drop_getD']
   simp only [List.length_drop, List.length_take] at hqu hqv
   rw [← gz _ (by omega), ← gu _ (by omega)]
   have hp := hhi s (Nat.le_refl _) (by omega)
   exact le_lt_trans (cz (m + qv) (n - 1 - s) (by omega) (by omega) (by omega)) (lt_le_trans hp (cu s (a + (s - a + qu)) (by omega) (by omega) (by omega)))
  have c2 : ∀ u ∈ U.take (s - a), ∀ v ∈ Z.drop (mid - s), ltA v u = false := fun u hu v hv => by
   obtain ⟨qu, hqu, rfl⟩ := mem_get hu
   obtain ⟨qv, hqv, rfl⟩ := mem_get hv
   rw [take_getD _ _ _ hqu, drop_getD']
   simp only [List.length_drop, List.length_take] at hqu hqv
   rw [← gz _ (by omega), ← gu _ (by omega)]
   have hp := hlo (s - 1) (by omega) (by omega)
   rw [show n - 1 - (s - 1) = n - s by omega] at hp
   exact le_le_trans (le_le_trans (cu (a + qu) (s - 1) (by omega) (by omega) (by omega)) hp) (cz (n - s) (m + (mid - s + qv)) (by omega) (by omega) (by omega))
  have hUe : U = U.take (s - a) ++ U.drop (s - a) := (List.take_append_drop _ _).symm
  have hZe : Z = Z.take (mid - s) ++ Z.drop (mid - s) := (List.take_append_drop _ _).symm
  have l1 : (U.take (s - a)).length = s - a := by simp; omega
  have l2 : (U.drop (s - a)).length = m - s := by simp; omega
  have l3 : (Z.take (mid - s)).length = mid - s := by simp; omega
  have l4 : (Z.drop (mid - s)).length = b - (n - s) := by simp; omega
  generalize U.take (s - a) = U1 at c2 hUe l1
  generalize U.drop (s - a) = U2 at c1 hUe l2
  generalize Z.take (mid - s) = Z1 at c1 hZe l3
  generalize Z.drop (mid - s) = Z2 at c2 hZe l4
  rw [hUe] at hsU
  rw [hZe] at hsZ
  have hmm := merge_mid hsU hsZ c1 c2
  obtain ⟨su1, su2, _⟩ := sorted_parts hsU
  obtain ⟨sz1, sz2, _⟩ := sorted_parts hsZ
  have hgoal : A ++ (srt (U ++ Z) ++ B) = A ++ (srt (U1 ++ Z1) ++ (srt (U2 ++ Z2) ++ B)) := by
   rw [hUe, hZe, ← hmm]; simp
  rw [hgoal]
  have hC2 : C = (A ++ U1) ++ (U2 ++ (Z1 ++ (Z2 ++ B))) := by rw [hC, hUe, hZe]; simp
  have hNl : U.length + Z.length = U1.length + U2.length + (Z1.length + Z2.length) := by rw [hUe, hZe]; simp
  clear hUe hZe hmm hC hgoal
  have len3 : (A ++ (U1 ++ (Z1 ++ (U2 ++ (Z2 ++ B))))).length = C.length := by rw [hC2]; simp; omega
  have len4 : (A ++ (srt (U1 ++ Z1) ++ (U2 ++ (Z2 ++ B)))).length = C.length := by rw [hC2]; simp [srt_len]; omega
  repeat (first | refine WS.adm rfl ?_ | refine WS.region (by simp only [EV, TY, h19, h20, k7, ↓reduceIte, Nat.reduceEqDiff]; with_reducible rfl) ?_)
  have j1 : ∀ x y : Nat, x < y → ((x : Nat) : Int) < ((y : Nat) : Int) := fun x y h => by omega
  have j2 : ∀ x y : Nat, ¬ x < y → ¬ ((x : Nat) : Int) < ((y : Nat) : Int) := fun x y h => by omega
  have i1 : (A ++ (U1 ++ (Z1 ++ (U2 ++ (Z2 ++ B))))) = A ++ (U1 ++ (Z1 ++ (U2 ++ (Z2 ++ B)))) := rfl
  refine WSjoin2 (fun fr S' => S' = T.set id (.cells (fl (A ++ (U1 ++ (Z1 ++ (U2 ++ (Z2 ++ B)))))) 52) ∧ lget fr 0 = .slR id 0 C.length C.length 2 ∧ lget fr 1 = .int .i64 (a : Nat) ∧ lget fr 2 = .int .i64 (m : Nat) ∧ lget fr 3 = .int .i64 (b : Nat) ∧ lget fr 4 = fv ∧ lget fr 18 = .int .i64 (mid : Nat) ∧ lget fr 20 = .int .i64 (s : Nat) ∧ lget fr 24 = .int .i64 ((n - s : Nat) : Int)) ?_ ?_
  rotate_left
  ·intro last
   by_cases g1 : s < m
   ·by_cases g2 : m < n - s
    ·have hR := rotate_ok (A ++ U1) U2 Z1 (Z2 ++ B) hC2 hT hN (by intro h; subst h; simp at l2; omega) (by intro h; subst h; simp at l3; omega) fv s m (n - s) (by simp; omega) (by simp; omega) (by simp; omega)
     rw [show (A ++ U1) ++ (Z1 ++ (U2 ++ (Z2 ++ B))) = A ++ (U1 ++ (Z1 ++ (U2 ++ (Z2 ++ B)))) by simp] at hR
     refine WS.region (by simp only [EV, TY, h2, h20, j1 s m g1, j1 m (n - s) g2, ↓reduceIte, Nat.reduceEqDiff]; with_reducible rfl) ?_
     refine WS.cond_true (by simp only [EV, j1 s m g1, j1 m (n - s) g2, ↓reduceIte, Nat.reduceEqDiff]) ?_
     refine WS.region (by simp only [EV, TY, h0, h2, h4, h20, callV_159, hR, ↓reduceIte, Nat.reduceEqDiff]; with_reducible rfl) ?_
     refine last _ _ ⟨rfl, ?_, ?_, ?_, ?_, ?_, ?_, ?_, ?_⟩
     all_goals
      simp only [EV, h0, h1, h2, h3, h4, h18, h20, ↓reduceIte, Nat.reduceEqDiff, AT]
    ·have z0 : Z1 = [] := List.length_eq_zero_iff.1 (by omega)
     refine WS.region (by simp only [EV, TY, h2, h20, j1 s m g1, j2 m (n - s) g2, ↓reduceIte, Nat.reduceEqDiff]; with_reducible rfl) ?_
     refine WS.cond_false (by simp only [EV, j1 s m g1, j2 m (n - s) g2, ↓reduceIte, Nat.reduceEqDiff]) ?_
     refine WS.skip ?_
     refine last _ _ ⟨?_, ?_, ?_, ?_, ?_, ?_, ?_, ?_, ?_⟩
     ·rw [z0] at hC2 ⊢
      rw [show A ++ (U1 ++ ([] ++ (U2 ++ (Z2 ++ B)))) = C by rw [hC2]; simp, set_id hT]
     all_goals
      simp only [EV, h0, h1, h2, h3, h4, h18, h20, ↓reduceIte, Nat.reduceEqDiff, AT]
   ·have u0 : U2 = [] := List.length_eq_zero_iff.1 (by omega)
    refine WS.region (by simp only [EV, TY, h2, h20, j2 s m g1, ↓reduceIte, Nat.reduceEqDiff]; with_reducible rfl) ?_
    refine WS.cond_false (by simp only [EV, j2 s m g1, ↓reduceIte, Nat.reduceEqDiff]) ?_
    refine WS.skip ?_
    refine last _ _ ⟨?_, ?_, ?_, ?_, ?_, ?_, ?_, ?_, ?_⟩
    ·rw [u0] at hC2 ⊢
     rw [show A ++ (U1 ++ (Z1 ++ ([] ++ (Z2 ++ B)))) = C by rw [hC2]; simp, set_id hT]
    all_goals
     simp only [EV, h0, h1, h2, h3, h4, h18, h20, ↓reduceIte, Nat.reduceEqDiff, AT]
  clear h0 h1 h2 h3 h4 h18 h19 h20
  rintro fr S' ⟨rfl, h0, h1, h2, h3, h4, h18, h20, h24⟩
  repeat refine WS.adm rfl ?_
  refine WSjoin2 (fun fr S' => S' = T.set id (.cells (fl (A ++ (srt (U1 ++ Z1) ++ (U2 ++ (Z2 ++ B))))) 52) ∧ lget fr 0 = .slR id 0 C.length C.length 2 ∧ lget fr 1 = .int .i64 (a : Nat) ∧ lget fr 2 = .int .i64 (m : Nat) ∧ lget fr 3 = .int .i64 (b : Nat) ∧ lget fr 4 = fv ∧ lget fr 18 = .int .i64 (mid : Nat) ∧ lget fr 20 = .int .i64 (s : Nat) ∧ lget fr 24 = .int .i64 ((n - s : Nat) : Int)) ?_ ?_
  rotate_left
  ·intro last
   by_cases g1 : a < s
   ·by_cases g2 : s < mid
    ·have hR := IH (U1.length + Z1.length) (by omega) (T := T.set id (.cells (fl (A ++ (U1 ++ (Z1 ++ (U2 ++ (Z2 ++ B)))))) 52)) (id := id) A U1 Z1 (U2 ++ (Z2 ++ B)) rfl (by simp [hid]) (by rw [len3]; exact hN) su1 sz1 (by intro h; subst h; simp at l1; omega) (by intro h; subst h; simp at l3; omega) hcmp a s mid ha (by omega) (by omega) rfl
     rw [len3, List.set_set] at hR
     refine WS.region (by simp only [EV, TY, h1, h18, h20, j1 a s g1, j1 s mid g2, ↓reduceIte, Nat.reduceEqDiff]; with_reducible rfl) ?_
     refine WS.cond_true (by simp only [EV, j1 a s g1, j1 s mid g2, ↓reduceIte, Nat.reduceEqDiff]) ?_
     refine WS.region (by simp only [EV, TY, h0, h1, h4, h18, h20, callV_137, hR, ↓reduceIte, Nat.reduceEqDiff]; with_reducible rfl) ?_
     refine last _ _ ⟨rfl, ?_, ?_, ?_, ?_, ?_, ?_, ?_, ?_⟩
     all_goals
      simp only [EV, h0, h1, h2, h3, h4, h18, h20, h24, ↓reduceIte, Nat.reduceEqDiff, AT]
    ·have z0 : Z1 = [] := List.length_eq_zero_iff.1 (by omega)
     refine WS.region (by simp only [EV, TY, h1, h18, h20, j1 a s g1, j2 s mid g2, ↓reduceIte, Nat.reduceEqDiff]; with_reducible rfl) ?_
     refine WS.cond_false (by simp only [EV, j1 a s g1, j2 s mid g2, ↓reduceIte, Nat.reduceEqDiff]) ?_
     refine WS.skip ?_
     refine last _ _ ⟨?_, ?_, ?_, ?_, ?_, ?_, ?_, ?_, ?_⟩
     ·rw [z0, List.append_nil, srt_of_sorted su1]
      simp
     all_goals
      simp only [EV, h0, h1, h2, h3, h4, h18, h20, h24, ↓reduceIte, Nat.reduceEqDiff, AT]
   ·have u0 : U1 = [] := List.length_eq_zero_iff.1 (by omega)
    refine WS.region (by simp only [EV, TY, h1, h18, h20, j2 a s g1, ↓reduceIte, Nat.reduceEqDiff]; with_reducible rfl) ?_
    refine WS.cond_false (by simp only [EV, j2 a s g1, ↓reduceIte, Nat.reduceEqDiff]) ?_
    refine WS.skip ?_
    refine last _ _ ⟨?_, ?_, ?_, ?_, ?_, ?_, ?_, ?_, ?_⟩
    ·rw [u0, show srt ([] ++ Z1) = Z1 from srt_of_sorted sz1]
     simp
    all_goals
     simp only [EV, h0, h1, h2, h3, h4, h18, h20, h24, ↓reduceIte, Nat.reduceEqDiff, AT]
  clear h0 h1 h2 h3 h4 h18 h20 h24
  rintro fr S' ⟨rfl, h0, h1, h2, h3, h4, h18, h20, h24⟩
  repeat refine WS.adm rfl ?_
  have hfin : ∀ X : List Im, X = A ++ (srt (U1 ++ Z1) ++ (srt (U2 ++ Z2) ++ B)) → ∀ fr, WS E0 [] fr (T.set id (.cells (fl X) 52)) (FnEnds E0 137 Tryz.f137 T (.tup [], T.set id (.cells (fl (A ++ (srt (U1 ++ Z1) ++ (srt (U2 ++ Z2) ++ B)))) 52))) := fun X hX fr => by
   subst hX
   exact ends0 rfl rfl
  by_cases g1 : mid < n - s
  ·by_cases g2 : n - s < b
   ·have hR := IH (U2.length + Z2.length) (by omega) (T := T.set id (.cells (fl (A ++ (srt (U1 ++ Z1) ++ (U2 ++ (Z2 ++ B))))) 52)) (id := id) (A ++ srt (U1 ++ Z1)) U2 Z2 B (C := A ++ (srt (U1 ++ Z1) ++ (U2 ++ (Z2 ++ B)))) (by simp) (by simp [hid]) (by rw [len4]; exact hN) su2 sz2 (by intro h; subst h; simp at l2; omega) (by intro h; subst h; simp at l4; omega) hcmp mid (n - s) b (by simp [srt_len]; omega) (by simp [srt_len]; omega) (by simp [srt_len]; omega) rfl
    rw [len4, List.set_set] at hR
    refine WS.region (by simp only [EV, TY, h3, h18, h24, j1 mid (n - s) g1, j1 (n - s) b g2, ↓reduceIte, Nat.reduceEqDiff]; with_reducible rfl) ?_
    refine WS.cond_true (by simp only [EV, j1 mid (n - s) g1, j1 (n - s) b g2, ↓reduceIte, Nat.reduceEqDiff]) ?_
    refine WS.region (by simp only [EV, TY, h0, h3, h4, h18, h24, callV_137, hR, ↓reduceIte, Nat.reduceEqDiff]; with_reducible rfl) ?_
    exact hfin _ (by simp) _
   ·have z0 : Z2 = [] := List.length_eq_zero_iff.1 (by omega)
    refine WS.region (by simp only [EV, TY, h3, h18, h24, j1 mid (n - s) g1, j2 (n - s) b g2, ↓reduceIte, Nat.reduceEqDiff]; with_reducible rfl) ?_
    refine WS.cond_false (by simp only [EV, j1 mid (n - s) g1, j2 (n - s) b g2, ↓reduceIte, Nat.reduceEqDiff]) ?_
    refine WS.skip ?_
    exact hfin _ (by rw [z0, List.append_nil, srt_of_sorted su2]; simp) _
  ·have u0 : U2 = [] := List.length_eq_zero_iff.1 (by omega)
   refine WS.region (by simp only [EV, TY, h3, h18, h24, j2 mid (n - s) g1, ↓reduceIte, Nat.reduceEqDiff]; with_reducible rfl) ?_
   refine WS.cond_false (by simp only [EV, j2 mid (n - s) g1, ↓reduceIte, Nat.reduceEqDiff]) ?_
   refine WS.skip ?_
   exact hfin _ (by rw [u0, show srt ([] ++ Z2) = Z2 from srt_of_sorted sz2]; simp) _
 ·rintro j fr S' ⟨i, j', rfl, p1, p2, p3, rfl, h0, h1, h2, h3, h4, h18, h19, h20, h21, h22, hlo, hhi⟩ ih last
  by_cases hlt : i < j'
  ·have hlt' : ((i : Nat) : Int) < ((j' : Nat) : Int) := by omega
   have k1 := wa i j' (by omega)
   have k2 := mid1 (i + j') (by omega) T
   have k3 := fun l => mid2 (i + j') l
   have k4 := mid3 ((i + j') / 2) (by omega) T
   generalize hh : (i + j') / 2 = h at k3 k4
   have hhi' : i ≤ h ∧ h < j' := by omega
   have k5 := ws_ (n - 1) h (by omega) (by omega)
   have ia1 := cell_ia id C.length (n - 1 - h) (by omega)
   have ia2 := cell_ia id C.length h (by omega)
   have ld1 := cell_ld hT (n - 1 - h) (by omega)
   have ld2 := cell_ld hT h (by omega)
   have hc := hcmp T (C.getD (n - 1 - h) im0) (C.getD h im0)
   have m1 : ∀ k, s0 ≤ k → k ≤ h → ltA (C.getD (n - 1 - h) im0) (C.getD h im0) = false → ltA (C.getD (n - 1 - k) im0) (C.getD k im0) = false := fun k g1 g2 g =>
    le_le_trans (le_le_trans (cu k h (by omega) (by omega) (by omega)) g) (cz (n - 1 - h) (n - 1 - k) (by omega) (by omega) (by omega))
   have m2 : ∀ k, h ≤ k → k < r0 → ltA (C.getD (n - 1 - h) im0) (C.getD h im0) = true → ltA (C.getD (n - 1 - k) im0) (C.getD k im0) = true := fun k g1 g2 g =>
    le_lt_trans (cz (n - 1 - k) (n - 1 - h) (by omega) (by omega) (by omega)) (lt_le_trans g (cu h k (by omega) (by omega) (by omega)))
   generalize C.getD h im0 = z at ld2 hc m1 m2
   generalize C.getD (n - 1 - h) im0 = y at ld1 hc m1 m2
   have hinc := wrap_inc h (by omega)
   repeat (first | refine WS.adm rfl ?_ | refine WS.region (by simp only [EV, TY, h20, h21, hlt', ↓reduceIte, Nat.reduceEqDiff]; with_reducible rfl) ?_)
   refine WS.ct0 ?_
   repeat (first | refine WS.adm rfl ?_ | refine WS.region (by simp only [EV, TY, h20, h21, k1, k2, k3, k4, ↓reduceIte, Nat.reduceEqDiff]; with_reducible rfl) ?_)
   by_cases hp : ltA y z = true
   ·have hneg : cmpZ y.1 z.1 < 0 := (cmpZ_neg _ _).2 hp
    refine WS.drawb (b := [0, 0, 0, 0, 12, 30, 62, 0, 0, 384, 896, 2047, 4095, 8191]) (by kernel_rfl) (by simp only [DL, isEff, isRead, Nat.reduceAdd, EV, TY,  h0, h4, h22, k5, ia1, ia2, ld1, ld2, hc, hneg, Bool.not_true, ↓reduceIte, Nat.reduceEqDiff]; with_reducible rfl) ?_
    refine WS.cf0 ?_
    repeat (first | refine WS.adm rfl ?_ | refine WS.r0 ?_)
    refine ih (h - i) _ _ (by omega) ⟨i, h, rfl, p1, by omega, by omega, rfl, ?_, ?_, ?_, ?_, ?_, ?_, ?_, ?_, ?_, ?_, hlo, fun k g1 g2 => m2 k g1 g2 hp⟩
    all_goals
     simp only [EV, h0, h1, h2, h3, h4, h18, h19, h20, h22, ↓reduceIte, Nat.reduceEqDiff, AT]
   ·have hp : ltA y z = false := by simpa using hp
    have hneg : ¬ cmpZ y.1 z.1 < 0 := fun g => by
     have := (cmpZ_neg _ _).1 g
     unfold ltA at hp
     rw [hp] at this; cases this
    refine WS.drawb (b := [0, 0, 0, 0, 12, 30, 62, 0, 0, 384, 896, 2047, 4095, 8191]) (by kernel_rfl) (by simp only [DL, isEff, isRead, Nat.reduceAdd, EV, TY,  h0, h4, h22, k5, ia1, ia2, ld1, ld2, hc, hneg, Bool.not_false, ↓reduceIte, Nat.reduceEqDiff]; with_reducible rfl) ?_
    refine WS.ct0 ?_
    repeat (first | refine WS.adm rfl ?_ | refine WS.region (by simp only [EV, TY, hinc, ↓reduceIte, Nat.reduceEqDiff]; with_reducible rfl) ?_)
    refine ih (j' - (h + 1)) _ _ (by omega) ⟨h + 1, j', rfl, by omega, by omega, p3, rfl, ?_, ?_, ?_, ?_, ?_, ?_, ?_, ?_, ?_, ?_, fun k g1 g2 => m1 k g1 (by omega) hp, hhi⟩
    all_goals
     simp only [EV, h0, h1, h2, h3, h4, h18, h19, h21, h22, ↓reduceIte, Nat.reduceEqDiff, AT]
  ·have hlt' : ¬ ((i : Nat) : Int) < ((j' : Nat) : Int) := by omega
   repeat (first | refine WS.adm rfl ?_ | refine WS.region (by simp only [EV, TY, h20, h21, hlt', ↓reduceIte, Nat.reduceEqDiff]; with_reducible rfl) ?_)
   refine WS.cf0 ?_
   refine WS.exit rfl ?_
   have : i = j' := by omega
   subst this
   refine last _ _ ⟨i, p1, p3, rfl, ?_, ?_, ?_, ?_, ?_, ?_, ?_, ?_, hlo, hhi⟩
   all_goals
    simp only [EV, h0, h1, h2, h3, h4, h18, h19, h20, ↓reduceIte, Nat.reduceEqDiff, AT]
def bsort (bs : Nat) (l : List Im) : List Im := if h : l.length ≤ bs ∨ bs = 0 then srt l else srt (l.take bs) ++ bsort bs (l.drop bs)
termination_by l.length
decreasing_by simp; omega
theorem bsort_small {bs : Nat} {l : List Im} (h : l.length ≤ bs) : bsort bs l = srt l := by
 rw [bsort, dif_pos (.inl h)]
theorem bsort_step {bs : Nat} {l : List Im} (h0 : 0 < bs) (h : bs ≤ l.length) : bsort bs l = srt (l.take bs) ++ bsort bs (l.drop bs) := by
 rw [bsort]
 by_cases he : l.length ≤ bs
 ·rw [dif_pos (.inl he)]
  have : l.length = bs := by omega
  rw [List.take_of_length_le he, List.drop_eq_nil_iff.2 he, bsort_small (by simp)]
  simp [srt]
 ·rw [dif_neg (by omega)]
theorem bsort_len (bs : Nat) : ∀ (n : Nat) (l : List Im), l.length = n → (bsort bs l).length = l.length := by
 intro n
 induction n using Nat.strongRecOn with
 | _ n ih =>
  intro l hl
  rw [bsort]
  split
  ·exact srt_len l
  ·rw [List.length_append, srt_len, ih (l.drop bs).length (by simp; omega) _ rfl]
   simp; omega
theorem isort_app (D R : List Im) (k : Nat) : isort (D ++ R) D.length (D.length + k) = D ++ (srt (R.take k) ++ R.drop k) := by
 unfold isort
 simp [List.take_append, List.drop_append]
theorem srt_ne {X : List Im} (h : 0 < X.length) : srt X ≠ [] := fun e => by
 have := congrArg List.length e
 rw [srt_len] at this
 simp at this
 subst this
 simp at h
theorem wm2 (n : Nat) (h : n ≤ 1048576) : IntKind.i64.wrap (2 * (n : Int)) = ((2 * n : Nat) : Int) := by rw [wrap_i64 (by omega) (by omega)]; omega
theorem wm2' (n : Nat) (h : n ≤ 1048576) : IntKind.i64.wrap ((n : Int) * 2) = ((2 * n : Nat) : Int) := by rw [wrap_i64 (by omega) (by omega)]; omega
theorem stable_ok {T : Store} {id : Nat} {l : List Im} (hT : T[id]? = some (.cells (fl l) 52)) (hN : l.length ≤ 1048576) {fv : V} (hcmp : CmpOk fv) :
  vrun E0 (.fn 106) [.slR id 0 l.length l.length 2, .int .i64 (l.length : Nat), fv] T = some (.tup [], T.set id (.cells (fl (srt l)) 52)) := by
 refine fn_ws Tryz.func106 rfl ?_
 have hid : id < T.length := lt_of_get hT
 repeat (first | refine WS.adm rfl ?_ | refine WS.rl ?_)
 refine WS.loopB (fun j fr S' => ∃ D R, j = R.length ∧ D.length + R.length = l.length ∧ D ++ bsort 20 R = bsort 20 l ∧ lget fr 0 = .slR id 0 l.length l.length 2 ∧ lget fr 1 = .int .i64 (l.length : Nat) ∧ lget fr 2 = fv ∧ lget fr 6 = .int .i64 20 ∧ lget fr 7 = .int .i64 (D.length : Nat) ∧ lget fr 8 = .int .i64 ((D.length + 20 : Nat) : Int) ∧ S' = T.set id (.cells (fl (D ++ R)) 52))
  (fun fr S' => ∃ D R, R.length < 20 ∧ D.length + R.length = l.length ∧ D ++ bsort 20 R = bsort 20 l ∧ lget fr 0 = .slR id 0 l.length l.length 2 ∧ lget fr 1 = .int .i64 (l.length : Nat) ∧ lget fr 2 = fv ∧ lget fr 6 = .int .i64 20 ∧ lget fr 7 = .int .i64 (D.length : Nat) ∧ S' = T.set id (.cells (fl (D ++ R)) 52)) (j := l.length) ?_ ?_ ?_
 ·refine ⟨[], l, rfl, by simp, rfl, ?_, ?_, ?_, ?_, ?_, ?_, by rw [List.nil_append, set_id hT]⟩
  all_goals
   simp only [EV, lget, ↓reduceIte, Nat.reduceEqDiff, AT]
   try rfl
 ·rintro fr S' ⟨D, R, hR, hl, hb, h0, h1, h2, h6, h7, rfl⟩
  have hlen : (D ++ R).length = l.length := by simp; omega
  have hI := insSort_ok (T := T.set id (.cells (fl (D ++ R)) 52)) (id := id) (l := D ++ R) (by simp [hid]) (by omega) hcmp D.length (D.length + R.length) (by omega) (by simp)
  rw [isort_app, List.take_length, List.drop_length, List.append_nil, hlen, List.set_set, hl, ← bsort_small (bs := 20) (by omega), hb] at hI
  repeat (first | refine WS.adm rfl ?_ | refine WS.region (by simp only [EV, TY, h0, h1, h2, h7, callV_136, hI, ↓reduceIte, Nat.reduceEqDiff]; with_reducible rfl) ?_)
  refine WS.loopB (fun j fr S' => ∃ bs, j = l.length - bs ∧ 20 ≤ bs ∧ bs ≤ 2097152 ∧ lget fr 0 = .slR id 0 l.length l.length 2 ∧ lget fr 1 = .int .i64 (l.length : Nat) ∧ lget fr 2 = fv ∧ lget fr 6 = .int .i64 (bs : Nat) ∧ S' = T.set id (.cells (fl (bsort bs l)) 52))
   (fun fr S' => S' = T.set id (.cells (fl (srt l)) 52)) (j := l.length - 20) ?_ ?_ ?_
  ·refine ⟨20, rfl, by omega, by omega, ?_, ?_, ?_, ?_, rfl⟩
   all_goals
    simp only [EV, h0, h1, h2, h6, ↓reduceIte, Nat.reduceEqDiff, AT]
    try rfl
  ·rintro fr S' rfl
   exact ends0 rfl rfl
  ·clear h0 h1 h2 h6 h7 hI hb hl hR hlen
   rintro j fr S' ⟨bs, rfl, hbs, hbs2, h0, h1, h2, h6, rfl⟩ ih last
   by_cases hlt : bs < l.length
   ·have hlt' : ((bs : Nat) : Int) < ((l.length : Nat) : Int) := by omega
    have k1 := wm2 bs (by omega)
    have k2 := wm2' bs (by omega)
    repeat (first | refine WS.adm rfl ?_ | refine WS.region (by simp only [EV, TY, h1, h6, hlt', ↓reduceIte, Nat.reduceEqDiff]; with_reducible rfl) ?_)
    refine WS.ct0 ?_
    repeat (first | refine WS.adm rfl ?_ | refine WS.region (by simp only [EV, TY, h6, k1, ↓reduceIte, Nat.reduceEqDiff]; with_reducible rfl) ?_)
    refine WS.loopB (fun j fr S' => ∃ D R, j = R.length ∧ D.length + R.length = l.length ∧ D ++ bsort (2 * bs) R = bsort (2 * bs) l ∧ lget fr 0 = .slR id 0 l.length l.length 2 ∧ lget fr 1 = .int .i64 (l.length : Nat) ∧ lget fr 2 = fv ∧ lget fr 6 = .int .i64 (bs : Nat) ∧ lget fr 7 = .int .i64 (D.length : Nat) ∧ lget fr 8 = .int .i64 ((D.length + 2 * bs : Nat) : Int) ∧ S' = T.set id (.cells (fl (D ++ bsort bs R)) 52))
     (fun fr S' => ∃ D R, R.length < 2 * bs ∧ D.length + R.length = l.length ∧ D ++ bsort (2 * bs) R = bsort (2 * bs) l ∧ lget fr 0 = .slR id 0 l.length l.length 2 ∧ lget fr 1 = .int .i64 (l.length : Nat) ∧ lget fr 2 = fv ∧ lget fr 6 = .int .i64 (bs : Nat) ∧ lget fr 7 = .int .i64 (D.length : Nat) ∧ S' = T.set id (.cells (fl (D ++ bsort bs R)) 52)) (j := l.length) ?_ ?_ ?_
    ·refine ⟨[], l, rfl, by simp, rfl, ?_, ?_, ?_, ?_, ?_, ?_, rfl⟩
     iterate 4 simp only [EV, h0, h1, h2, h6, ↓reduceIte, Nat.reduceEqDiff, AT]
     ·simp only [EV, ↓reduceIte, Nat.reduceEqDiff, AT]
      rfl
     ·simp only [EV, ↓reduceIte, Nat.reduceEqDiff, AT]
      simp
    ·rintro fr S' ⟨D, R, hR, hl, hb, h0, h1, h2, h6, h7, rfl⟩
     have a1 := wa D.length bs (by omega)
     have fin : ∀ (X : List Im) fr, X = bsort (2 * bs) l → lget fr 0 = .slR id 0 l.length l.length 2 → lget fr 1 = .int .i64 (l.length : Nat) → lget fr 2 = fv → lget fr 6 = .int .i64 ((2 * bs : Nat) : Int) → WS E0 _ fr (T.set id (.cells (fl X) 52)) _ := fun X fr hX g0 g1 g2 g6 => by
      subst hX
      exact ih (l.length - 2 * bs) _ _ (by omega) ⟨2 * bs, rfl, by omega, by omega, g0, g1, g2, g6, rfl⟩
     by_cases hm : bs < R.length
     ·have hm' : ((D.length + bs : Nat) : Int) < ((l.length : Nat) : Int) := by omega
      have e1 := bsort_step (bs := bs) (l := R) (by omega) (by omega)
      have e2 : bsort bs (R.drop bs) = srt (R.drop bs) := bsort_small (by simp; omega)
      rw [e2] at e1
      have lC : (D ++ bsort bs R).length = l.length := by rw [List.length_append, bsort_len _ _ _ rfl]; exact hl
      have hS := symMerge_ok _ (T := T.set id (.cells (fl (D ++ bsort bs R)) 52)) (id := id) D (srt (R.take bs)) (srt (R.drop bs)) [] (C := D ++ bsort bs R) (by rw [e1]; simp) (by simp [hid]) (by rw [lC]; exact hN) (srt_sorted _) (srt_sorted _) (srt_ne (by simp only [List.length_take, List.length_drop]; omega)) (srt_ne (by simp only [List.length_take, List.length_drop]; omega)) hcmp D.length (D.length + bs) l.length rfl (by simp [srt_len]; omega) (by simp [srt_len]; omega) rfl
      rw [lC, List.set_set, srt_srt, List.take_append_drop, List.append_nil, ← bsort_small (bs := 2 * bs) (by omega), hb] at hS
      repeat (first | refine WS.adm rfl ?_ | refine WS.region (by simp only [EV, TY, h1, h6, h7, a1, hm', ↓reduceIte, Nat.reduceEqDiff]; with_reducible rfl) ?_)
      refine WS.ct0 ?_
      repeat (first | refine WS.adm rfl ?_ | refine WS.region (by simp only [EV, TY, h0, h1, h2, h7, callV_137, hS, h6, k2, ↓reduceIte, Nat.reduceEqDiff]; with_reducible rfl) ?_)
      refine fin _ _ rfl ?_ ?_ ?_ ?_
      iterate 4 simp only [EV, h0, h1, h2, ↓reduceIte, Nat.reduceEqDiff, AT]
     ·have hm' : ¬ ((D.length + bs : Nat) : Int) < ((l.length : Nat) : Int) := by omega
      have e1 : D ++ bsort bs R = bsort (2 * bs) l := by rw [← hb, bsort_small (bs := bs) (by omega), bsort_small (bs := 2 * bs) (by omega)]
      repeat (first | refine WS.adm rfl ?_ | refine WS.region (by simp only [EV, TY, h1, h6, h7, a1, hm', ↓reduceIte, Nat.reduceEqDiff]; with_reducible rfl) ?_)
      refine WS.cf0 ?_
      repeat (first | refine WS.adm rfl ?_ | refine WS.region (by simp only [EV, TY, h6, k2, ↓reduceIte, Nat.reduceEqDiff]; with_reducible rfl) ?_)
      refine fin _ _ e1 ?_ ?_ ?_ ?_
      iterate 4 simp only [EV, h0, h1, h2, ↓reduceIte, Nat.reduceEqDiff, AT]
    ·clear h0 h1 h2 h6 ih last
     rintro j fr S' ⟨D, R, rfl, hl, hb, h0, h1, h2, h6, h7, h8, rfl⟩ ih last
     by_cases hle : 2 * bs ≤ R.length
     ·have hle' : ((D.length + 2 * bs : Nat) : Int) ≤ ((l.length : Nat) : Int) := by omega
      have a1 := wa D.length bs (by omega)
      have a2 := wa (D.length + 2 * bs) (2 * bs) (by omega)
      have e1 := bsort_step (bs := bs) (l := R) (by omega) (by omega)
      have e2 := bsort_step (bs := bs) (l := R.drop bs) (by omega) (by simp; omega)
      have e3 := bsort_step (bs := 2 * bs) (l := R) (by omega) hle
      rw [List.drop_drop, show bs + bs = 2 * bs by omega] at e2
      have e4 : R.take bs ++ (R.drop bs).take bs = R.take (2 * bs) := by
       rw [show 2 * bs = bs + bs by omega, List.take_add]
      have lC : (D ++ bsort bs R).length = l.length := by rw [List.length_append, bsort_len _ _ _ rfl]; exact hl
      have hS := symMerge_ok _ (T := T.set id (.cells (fl (D ++ bsort bs R)) 52)) (id := id) D (srt (R.take bs)) (srt ((R.drop bs).take bs)) (bsort bs (R.drop (2 * bs))) (C := D ++ bsort bs R) (by rw [e1, e2]) (by simp [hid]) (by rw [lC]; exact hN) (srt_sorted _) (srt_sorted _) (srt_ne (by simp only [List.length_take, List.length_drop]; omega)) (srt_ne (by simp only [List.length_take, List.length_drop]; omega)) hcmp D.length (D.length + bs) (D.length + 2 * bs) rfl (by simp [srt_len]; omega) (by simp [srt_len]; omega) rfl
      rw [lC, List.set_set, srt_srt, e4] at hS
      repeat (first | refine WS.adm rfl ?_ | refine WS.region (by simp only [EV, TY, h1, h8, hle', ↓reduceIte, Nat.reduceEqDiff]; with_reducible rfl) ?_)
      refine WS.ct0 ?_
      repeat (first | refine WS.adm rfl ?_ | refine WS.region (by simp only [EV, TY, h0, h2, h6, h7, h8, a1, callV_137, hS, k1, a2, ↓reduceIte, Nat.reduceEqDiff]; with_reducible rfl) ?_)
      refine ih (R.drop (2 * bs)).length _ _ (by simp; omega) ⟨D ++ srt (R.take (2 * bs)), R.drop (2 * bs), rfl, by simp [srt_len]; omega, ?_, ?_, ?_, ?_, ?_, ?_, ?_, by simp⟩
      ·rw [← hb, e3]; simp
      iterate 4 simp only [EV, h0, h1, h2, h6, ↓reduceIte, Nat.reduceEqDiff, AT]
      ·simp only [EV, ↓reduceIte, Nat.reduceEqDiff, AT]
       simp [srt_len]; omega
      ·simp only [EV, ↓reduceIte, Nat.reduceEqDiff, AT]
       simp [srt_len]; omega
     ·have hle' : ¬ ((D.length + 2 * bs : Nat) : Int) ≤ ((l.length : Nat) : Int) := by omega
      repeat (first | refine WS.adm rfl ?_ | refine WS.region (by simp only [EV, TY, h1, h8, hle', ↓reduceIte, Nat.reduceEqDiff]; with_reducible rfl) ?_)
      refine WS.cf0 ?_
      refine WS.exit rfl ?_
      refine last _ _ ⟨D, R, by omega, hl, hb, ?_, ?_, ?_, ?_, ?_, rfl⟩
      iterate 5 simp only [EV, h0, h1, h2, h6, h7, ↓reduceIte, Nat.reduceEqDiff, AT]
   ·have hlt' : ¬ ((bs : Nat) : Int) < ((l.length : Nat) : Int) := by omega
    repeat (first | refine WS.adm rfl ?_ | refine WS.region (by simp only [EV, TY, h1, h6, hlt', ↓reduceIte, Nat.reduceEqDiff]; with_reducible rfl) ?_)
    refine WS.cf0 ?_
    refine WS.exit rfl ?_
    exact last _ _ (by rw [bsort_small (by omega)])
 ·rintro j fr S' ⟨D, R, rfl, hl, hb, h0, h1, h2, h6, h7, h8, rfl⟩ ih last
  by_cases hle : 20 ≤ R.length
  ·have hle' : ((D.length + 20 : Nat) : Int) ≤ ((l.length : Nat) : Int) := by omega
   have hlen : (D ++ R).length = l.length := by simp; omega
   have hI := insSort_ok (T := T.set id (.cells (fl (D ++ R)) 52)) (id := id) (l := D ++ R) (by simp [hid]) (by omega) hcmp D.length (D.length + 20) (by omega) (by simp; omega)
   rw [isort_app, hlen, List.set_set] at hI
   have a2 : IntKind.i64.wrap (((D.length + 20 : Nat) : Int) + 20) = ((D.length + 20 + 20 : Nat) : Int) := wa (D.length + 20) 20 (by omega)
   have e3 := bsort_step (bs := 20) (l := R) (by omega) hle
   repeat (first | refine WS.adm rfl ?_ | refine WS.region (by simp only [EV, TY, h1, h8, hle', ↓reduceIte, Nat.reduceEqDiff]; with_reducible rfl) ?_)
   refine WS.ct0 ?_
   repeat (first | refine WS.adm rfl ?_ | refine WS.region (by simp only [EV, TY, h0, h2, h6, h7, h8, callV_136, hI, a2, ↓reduceIte, Nat.reduceEqDiff]; with_reducible rfl) ?_)
   refine ih (R.drop 20).length _ _ (by simp; omega) ⟨D ++ srt (R.take 20), R.drop 20, rfl, by simp [srt_len]; omega, ?_, ?_, ?_, ?_, ?_, ?_, ?_, by simp⟩
   ·rw [← hb, e3]; simp
   iterate 4 simp only [EV, h0, h1, h2, h6, ↓reduceIte, Nat.reduceEqDiff, AT]
   ·simp only [EV, ↓reduceIte, Nat.reduceEqDiff, AT]
    simp [srt_len]; omega
   ·simp only [EV, ↓reduceIte, Nat.reduceEqDiff, AT]
    simp [srt_len]; omega
  ·have hle' : ¬ ((D.length + 20 : Nat) : Int) ≤ ((l.length : Nat) : Int) := by omega
   repeat (first | refine WS.adm rfl ?_ | refine WS.region (by simp only [EV, TY, h1, h8, hle', ↓reduceIte, Nat.reduceEqDiff]; with_reducible rfl) ?_)
   refine WS.cf0 ?_
   refine WS.exit rfl ?_
   refine last _ _ ⟨D, R, by omega, hl, hb, ?_, ?_, ?_, ?_, ?_, rfl⟩
   iterate 5 simp only [EV, h0, h1, h2, h6, h7, ↓reduceIte, Nat.reduceEqDiff, AT]
theorem sortOk_all (m : Nat) (hm : m ≤ 1048576) : SortOk m := by
 intro T id l hT hl fv hcmp
 refine fn_ws Tryz.func68 rfl ?_
 have hS := stable_ok hT (by omega) hcmp
 have hlen : opLen E0 T 31 (.slR id 0 l.length l.length 2) = some (.int .i64 (l.length : Nat)) := len_slR Tryz.underlying31 _ _ _ _ _
 repeat (first | refine WS.adm rfl ?_ | refine WS.region (by simp only [EV, TY, lget, hlen, callV_106, hS, ↓reduceIte, Nat.reduceEqDiff]; with_reducible rfl) ?_)
 exact ends0 rfl rfl
end Go.Proofs.YtmmjlgocihhkcaaGreatDoor.ImS
