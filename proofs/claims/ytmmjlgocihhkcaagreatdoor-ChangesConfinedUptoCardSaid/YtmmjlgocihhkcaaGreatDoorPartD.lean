import Derived.Test.YtmmjlgocihhkcaaGreatDoorPartC
set_option linter.all false
namespace Go.Proofs.YtmmjlgocihhkcaaGreatDoor
open Go Go.Vm
set_option maxRecDepth 100000
set_option maxHeartbeats 4000000
theorem wrap_u64 {n : Int} (h0 : 0 ≤ n) (h : n < 18446744073709551616) : IntKind.u64.wrap n = n := by
 simp [IntKind.wrap, IntKind.bits, IntKind.signed]
 omega
theorem mid1 (q : Nat) (hq : q ≤ 140737488355328) (S : Store) : opConvert E0 S 3 175 (.int .i64 (q : Nat)) = some (.int .u64 (q : Nat), S) := by
 rw [conv_int (E := E0) 3 .u64 Tryz.underlying3 Tryz.underlying175, wrap_u64 (by omega) (by omega)]
theorem mid2 (q : Nat) (l : Bool) : opBin E0 l .shr 175 (.int .u64 (q : Nat)) (.int .u64 1) = some (.int .u64 ((q / 2 : Nat) : Int)) := by
 rw [bin_shr _ _ _ _ _ (by omega)]
 simp [IntKind.bits]
 rw [Int.fdiv_eq_ediv_of_nonneg _ (by omega)]
theorem mid3 (q : Nat) (hq : q ≤ 140737488355328) (S : Store) : opConvert E0 S 175 3 (.int .u64 (q : Nat)) = some (.int .i64 (q : Nat), S) := by
 rw [conv_int (E := E0) 175 .i64 Tryz.underlying175 Tryz.underlying3, wrap_i64 (by omega) (by omega)]
theorem ret0 {E : Env} {k : List Todo} {fr : Fr} {S S' : Store} {f : FuncId} {fn : Func} (hr : fn.results.toList = []) (hk : E.keep f = true) : WS E (.code .ret :: k) fr S' (FnEnds E f fn S (.tup [], S')) :=
 WS.ret ⟨.inr rfl, [], by rw [hr]; rfl, by rw [hk]; rfl⟩
theorem getD_app {α : Type} (d : α) (A B : List α) (k : Nat) : (A ++ B).getD (A.length + k) d = B.getD k d := by
 simp [List.getD, List.getElem?_append_right]
theorem getD_app' {α : Type} (d : α) (A B : List α) (k : Nat) (h : k < A.length) : (A ++ B).getD k d = A.getD k d := by
 simp [List.getD, List.getElem?_append_left h]
theorem sym1_ok {T : Store} {id : Nat} (A : List Ava) (x : Ava) (Z B : List Ava) {C : List Ava} (hC : C = A ++ ([x] ++ (Z ++ B))) (hT : T[id]? = some (.cells (fl C) 96)) (hN : C.length ≤ 1048576) (hs : Sorted Z) {fv : V} (hcmp : CmpOk fv) (a m b : Nat) (ha : a = A.length) (hm : m = A.length + 1) (hb : b = A.length + 1 + Z.length) :
  vrun E0 (.fn 167) [.slR id 0 C.length C.length 2, .int .i64 (a : Nat), .int .i64 (m : Nat), .int .i64 (b : Nat), fv] T = some (.tup [], T.set id (.cells (fl (A ++ (srt ([x] ++ Z) ++ B))) 96)) := by
 refine fn_ws Tryz.func167 rfl ?_
 have hid : id < T.length := lt_of_get hT
 have hCl : C.length = A.length + 1 + Z.length + B.length := by rw [hC]; simp; omega
 have w1 := ws_ m a (by omega) (by omega)
 have e1 : (((m - a : Nat) : Int) == 1) = true := by simp; omega
 have hx : C.getD a ([], []) = x := getD_at _ (A := A) (B := Z ++ B) (by rw [hC]; simp) ha
 have hz : ∀ k, k < Z.length → C.getD (m + k) ([], []) = Z.getD k ([], []) := fun k hk => by
  have e : C = (A ++ [x]) ++ (Z ++ B) := by rw [hC]; simp
  rw [e, hm, show A.length + 1 + k = (A ++ [x]).length + k by simp, getD_app, getD_app' _ _ _ _ hk]
 repeat (first | refine WS.adm rfl ?_ | refine WS.region (by simp only [EV, TY, lget, w1, e1, ↓reduceIte, Nat.reduceEqDiff]; with_reducible rfl) ?_)
 refine WS.cond_true (by simp only [EV, lget, ↓reduceIte, Nat.reduceEqDiff]) ?_
 repeat (first | refine WS.adm rfl ?_ | refine WS.rl ?_)
 refine WS.loopB (fun j fr S' => ∃ i j', j = j' - i ∧ m ≤ i ∧ i ≤ j' ∧ j' ≤ b ∧ lget fr 0 = .slR id 0 C.length C.length 2 ∧ lget fr 1 = .int .i64 (a : Nat) ∧ lget fr 4 = fv ∧ lget fr 10 = .int .i64 (i : Nat) ∧ lget fr 11 = .int .i64 (j' : Nat) ∧ T = S' ∧ (∀ k, m ≤ k → k < i → ltA (C.getD k ([], [])) x = true) ∧ ∀ k, j' ≤ k → k < b → ltA (C.getD k ([], [])) x = false)
  (fun fr S' => ∃ i, m ≤ i ∧ i ≤ b ∧ lget fr 0 = .slR id 0 C.length C.length 2 ∧ lget fr 1 = .int .i64 (a : Nat) ∧ lget fr 10 = .int .i64 (i : Nat) ∧ T = S' ∧ (∀ k, m ≤ k → k < i → ltA (C.getD k ([], [])) x = true) ∧ ∀ k, i ≤ k → k < b → ltA (C.getD k ([], [])) x = false) (j := b - m) ?_ ?_ ?_
 ·refine ⟨m, b, rfl, Nat.le_refl _, by omega, Nat.le_refl _, ?_, ?_, ?_, ?_, ?_, rfl, fun k h1 h2 => by omega, fun k h1 h2 => by omega⟩
  all_goals
   simp only [EV, lget, ↓reduceIte, Nat.reduceEqDiff, AT]
 ·rintro fr S' ⟨i, hmi, hib, h0, h1, h10, rfl, hlo, hhi⟩
  have hV1 : ∀ v ∈ Z.take (i - m), ltA v x = true := fun v hv => by
   obtain ⟨q, hq, rfl⟩ := List.getElem_of_mem hv
   simp only [List.length_take] at hq
   have := hlo (m + q) (by omega) (by omega)
   rw [hz q (by omega)] at this
   simpa [List.getD, show q < Z.length by omega] using this
  have hV2 : ∀ v ∈ Z.drop (i - m), ltA v x = false := fun v hv => by
   obtain ⟨q, hq, rfl⟩ := List.getElem_of_mem hv
   simp only [List.length_drop] at hq
   have := hhi (m + (i - m + q)) (by omega) (by omega)
   rw [hz _ (by omega)] at this
   simpa [List.getD, show i - m + q < Z.length by omega] using this
  have hfin := merge_first (x := x) (V1 := Z.take (i - m)) (V2 := Z.drop (i - m)) (by rw [List.take_append_drop]; exact hs) hV1 hV2
  rw [List.take_append_drop] at hfin
  have hZe : Z = Z.take (i - m) ++ Z.drop (i - m) := (List.take_append_drop _ _).symm
  have hV1l : (Z.take (i - m)).length = i - m := by simp; omega
  generalize Z.take (i - m) = V1 at hfin hZe hV1l
  generalize Z.drop (i - m) = V2 at hfin hZe
  rw [← hfin]
  have i1 := wrap_sub1 i (by omega) (by omega)
  repeat (first | refine WS.adm rfl ?_ | refine WS.region (by simp only [EV, TY, h1, ↓reduceIte, Nat.reduceEqDiff]; with_reducible rfl) ?_)
  refine WS.loopB (fun j fr S' => ∃ P Q, j = Q.length ∧ V1 = P ++ Q ∧ lget fr 0 = .slR id 0 C.length C.length 2 ∧ lget fr 10 = .int .i64 (i : Nat) ∧ lget fr 13 = .int .i64 ((a + P.length : Nat) : Int) ∧ S' = T.set id (.cells (fl (A ++ (P ++ (x :: (Q ++ (V2 ++ B)))))) 96))
   (fun fr S' => S' = T.set id (.cells (fl (A ++ (V1 ++ x :: V2 ++ B))) 96)) (j := V1.length) ?_ ?_ ?_
  ·refine ⟨[], V1, rfl, rfl, ?_, ?_, ?_, ?_⟩
   iterate 2 simp only [EV, h0, h10, ↓reduceIte, Nat.reduceEqDiff, AT]
   ·simp only [EV, ↓reduceIte, Nat.reduceEqDiff, AT]
    rfl
   ·have : A ++ ([] ++ (x :: (V1 ++ (V2 ++ B)))) = C := by rw [hC, hZe]; simp
    rw [this, set_id hT]
  ·rintro fr S' rfl
   repeat (first | refine WS.adm rfl ?_ | refine WS.r0 ?_)
   exact ret0 rfl rfl
  ·rintro j fr S' ⟨P, Q, rfl, rfl, h0, h10, h13, rfl⟩ ih last
   simp only [List.length_append] at hV1l
   cases Q with
   | nil =>
    have hlt : ¬ ((a + P.length : Nat) : Int) < ((i - 1 : Nat) : Int) := by simp at hV1l; omega
    repeat (first | refine WS.adm rfl ?_ | refine WS.region (by simp only [EV, TY, h10, h13, i1, hlt, ↓reduceIte, Nat.reduceEqDiff]; with_reducible rfl) ?_)
    refine WS.cf0 ?_
    refine WS.exit rfl ?_
    exact last _ _ (by simp)
   | cons v Q =>
    simp only [List.length_cons] at hV1l
    have hlt : ((a + P.length : Nat) : Int) < ((i - 1 : Nat) : Int) := by omega
    generalize hD : A ++ (P ++ (x :: (v :: Q ++ (V2 ++ B)))) = D
    have hDe : D = (A ++ P) ++ x :: ([] ++ v :: (Q ++ (V2 ++ B))) := by rw [← hD]; simp
    have hDl : D.length = C.length := by
     rw [← hD, hCl, hZe]
     simp; omega
    have hU : (T.set id (.cells (fl D) 96))[id]? = some (.cells (fl D) 96) := by simp [hid]
    have hi : a + P.length = (A ++ P).length := by simp; omega
    have hj : a + P.length + 1 = (A ++ P).length + 1 + ([] : List Ava).length := by simp; omega
    have k1 := wrap_inc (a + P.length) (by omega)
    have ld1 := cell_ld hU (a + P.length) (by simp at hi; omega)
    have ld2 := cell_ld hU (a + P.length + 1) (by simp at hi; omega)
    rw [getD_at _ hDe hi] at ld1
    rw [getD_at (A := (A ++ P) ++ [x]) (B := Q ++ (V2 ++ B)) (x := v) _ (by rw [hDe]; simp) (by simp; omega)] at ld2
    have ia1 := cell_ia id C.length (a + P.length) (by simp at hi; omega)
    have ia2 := cell_ia id C.length (a + P.length + 1) (by simp at hi; omega)
    have st1 := cell_st hU (a + P.length) (by simp at hi; omega) v
    rw [List.set_set] at st1
    have hU1 : (T.set id (.cells (fl (D.set (a + P.length) v)) 96))[id]? = some (.cells (fl (D.set (a + P.length) v)) 96) := by simp [hid]
    have st2 := cell_st hU1 (a + P.length + 1) (by rw [List.length_set]; simp at hi; omega) x
    rw [List.set_set, swap_mid _ _ _ _ _ hDe hi hj] at st2
    repeat (first | refine WS.adm rfl ?_ | refine WS.region (by simp only [EV, TY, h10, h13, i1, hlt, ↓reduceIte, Nat.reduceEqDiff]; with_reducible rfl) ?_)
    refine WS.ct0 ?_
    repeat refine WS.adm rfl ?_
    refine WS.drawb (b := [0, 0, 0, 0, 8, 0, 0, 64, 224, 480, 0, 0, 3072, 7168, 16355, 32739, 65535, 131071]) (by kernel_rfl) (by simp only [DL, isEff, isRead, Nat.reduceAdd, EV, TY,  h0, h13, k1, ia1, ia2, ld1, ld2, st1, st2, tb3, tb4, tb5, tb6, ↓reduceIte, Nat.reduceEqDiff]; with_reducible rfl) ?_
    repeat (first | refine WS.adm rfl ?_ | refine WS.region (by simp only [EV, TY, h13, k1, ↓reduceIte, Nat.reduceEqDiff]; with_reducible rfl) ?_)
    refine ih Q.length _ _ (by simp) ⟨P ++ [v], Q, rfl, by simp, ?_, ?_, ?_, by simp⟩
    iterate 2 simp only [EV, h0, h10, ↓reduceIte, Nat.reduceEqDiff, AT]
    ·simp only [EV, ↓reduceIte, Nat.reduceEqDiff, AT]
     simp
     omega
 ·rintro j fr S' ⟨i, j', rfl, hmi, hij, hjb, h0, h1, h4, h10, h11, rfl, hlo, hhi⟩ ih last
  by_cases hlt : i < j'
  ·have hlt' : ((i : Nat) : Int) < ((j' : Nat) : Int) := by omega
   have k1 := wa i j' (by omega)
   have k2 := mid1 (i + j') (by omega) T
   have k3 := fun l => mid2 (i + j') l
   have k4 := mid3 ((i + j') / 2) (by omega) T
   generalize hh : (i + j') / 2 = h at k3 k4
   have hhi' : i ≤ h ∧ h < j' := by omega
   have ia1 := cell_ia id C.length h (by omega)
   have ia2 := cell_ia id C.length a (by omega)
   have ld1 := cell_ld hT h (by omega)
   have ld2 := cell_ld hT a (by omega)
   rw [hx] at ld2
   have hc := hcmp T (C.getD h ([], [])) x
   have hmono : ∀ k, m ≤ k → k ≤ h → ltA (C.getD h ([], [])) (C.getD k ([], [])) = false := fun k h1 h2 => by
    rw [show h = m + (h - m) by omega, show k = m + (k - m) by omega, hz _ (by omega), hz _ (by omega)]
    exact sorted_get hs (by omega) (by omega)
   have hmono2 : ∀ k, h ≤ k → k < b → ltA (C.getD k ([], [])) (C.getD h ([], [])) = false := fun k h1 h2 => by
    rw [show h = m + (h - m) by omega, show k = m + (k - m) by omega, hz _ (by omega), hz _ (by omega)]
    exact sorted_get hs (by omega) (by omega)
   generalize C.getD h ([], []) = y at ld1 hc hmono hmono2
   have hinc := wrap_inc h (by omega)
   repeat (first | refine WS.adm rfl ?_ | refine WS.region (by simp only [EV, TY, h10, h11, hlt', ↓reduceIte, Nat.reduceEqDiff]; with_reducible rfl) ?_)
   refine WS.ct0 ?_
   repeat (first | refine WS.adm rfl ?_ | refine WS.region (by simp only [EV, TY, h10, h11, k1, k2, k3, k4, ↓reduceIte, Nat.reduceEqDiff]; with_reducible rfl) ?_)
   by_cases hp : ltA y x = true
   ·have hneg : cmpZ y.1 x.1 < 0 := (cmpZ_neg _ _).2 hp
    refine WS.drawb (b := [0, 0, 0, 6, 14, 0, 0, 96, 224, 511, 1023]) (by kernel_rfl) (by simp only [DL, isEff, isRead, Nat.reduceAdd, EV, TY,  h0, h1, h4, ia1, ia2, ld1, ld2, hc, hneg, ↓reduceIte, Nat.reduceEqDiff]; with_reducible rfl) ?_
    refine WS.ct0 ?_
    repeat (first | refine WS.adm rfl ?_ | refine WS.region (by simp only [EV, TY, hinc, ↓reduceIte, Nat.reduceEqDiff]; with_reducible rfl) ?_)
    refine ih (j' - (h + 1)) _ _ (by omega) ⟨h + 1, j', rfl, by omega, by omega, hjb, ?_, ?_, ?_, ?_, ?_, rfl, fun k g1 g2 => ?_, hhi⟩
    iterate 5 simp only [EV, h0, h1, h4, h11, ↓reduceIte, Nat.reduceEqDiff, AT]
    ·exact le_lt_trans (hmono k g1 (by omega)) hp
   ·have hp : ltA y x = false := by simpa using hp
    have hneg : ¬ cmpZ y.1 x.1 < 0 := fun g => by
     have := (cmpZ_neg _ _).1 g
     unfold ltA at hp
     rw [hp] at this; cases this
    refine WS.drawb (b := [0, 0, 0, 6, 14, 0, 0, 96, 224, 511, 1023]) (by kernel_rfl) (by simp only [DL, isEff, isRead, Nat.reduceAdd, EV, TY,  h0, h1, h4, ia1, ia2, ld1, ld2, hc, hneg, ↓reduceIte, Nat.reduceEqDiff]; with_reducible rfl) ?_
    refine WS.cf0 ?_
    repeat (first | refine WS.adm rfl ?_ | refine WS.r0 ?_)
    refine ih (h - i) _ _ (by omega) ⟨i, h, rfl, hmi, by omega, by omega, ?_, ?_, ?_, ?_, ?_, rfl, hlo, fun k g1 g2 => ?_⟩
    iterate 5 simp only [EV, h0, h1, h4, h10, ↓reduceIte, Nat.reduceEqDiff, AT]
    ·exact le_le_trans hp (hmono2 k g1 g2)
  ·have hlt' : ¬ ((i : Nat) : Int) < ((j' : Nat) : Int) := by omega
   repeat (first | refine WS.adm rfl ?_ | refine WS.region (by simp only [EV, TY, h10, h11, hlt', ↓reduceIte, Nat.reduceEqDiff]; with_reducible rfl) ?_)
   refine WS.cf0 ?_
   refine WS.exit rfl ?_
   have : i = j' := by omega
   subst this
   refine last _ _ ⟨i, hmi, hjb, ?_, ?_, ?_, rfl, hlo, hhi⟩
   iterate 3 simp only [EV, h0, h1, h10, ↓reduceIte, Nat.reduceEqDiff, AT]
theorem sym2_ok {T : Store} {id : Nat} (A U : List Ava) (y : Ava) (B : List Ava) {C : List Ava} (hC : C = A ++ (U ++ ([y] ++ B))) (hT : T[id]? = some (.cells (fl C) 96)) (hN : C.length ≤ 1048576) (hs : Sorted U) (hU1 : U.length ≠ 1) {fv : V} (hcmp : CmpOk fv) (a m b : Nat) (ha : a = A.length) (hm : m = A.length + U.length) (hb : b = A.length + U.length + 1) :
  vrun E0 (.fn 167) [.slR id 0 C.length C.length 2, .int .i64 (a : Nat), .int .i64 (m : Nat), .int .i64 (b : Nat), fv] T = some (.tup [], T.set id (.cells (fl (A ++ (srt (U ++ [y]) ++ B))) 96)) := by
 refine fn_ws Tryz.func167 rfl ?_
 have hid : id < T.length := lt_of_get hT
 have hCl : C.length = A.length + U.length + 1 + B.length := by rw [hC]; simp; omega
 have w1 := ws_ m a (by omega) (by omega)
 have w2 := ws_ b m (by omega) (by omega)
 have e1 : (((m - a : Nat) : Int) == 1) = false := beq_eq_false_iff_ne.2 (by omega)
 have e2 : (((b - m : Nat) : Int) == 1) = true := by simp; omega
 have hy : C.getD m ([], []) = y := getD_at _ (A := A ++ U) (B := B) (by rw [hC]; simp) (by simp; omega)
 have hu : ∀ k, k < U.length → C.getD (a + k) ([], []) = U.getD k ([], []) := fun k hk => by
  rw [hC, ha, getD_app, getD_app' _ _ _ _ hk]
 repeat (first | refine WS.adm rfl ?_ | refine WS.region (by simp only [EV, TY, lget, w1, e1, ↓reduceIte, Nat.reduceEqDiff]; with_reducible rfl) ?_)
 refine WS.cond_false (by simp only [EV, lget, ↓reduceIte, Nat.reduceEqDiff]) ?_
 repeat (first | refine WS.adm rfl ?_ | refine WS.region (by simp only [EV, TY, lget, w2, e2, ↓reduceIte, Nat.reduceEqDiff]; with_reducible rfl) ?_)
 refine WS.cond_true (by simp only [EV, lget, ↓reduceIte, Nat.reduceEqDiff]) ?_
 repeat (first | refine WS.adm rfl ?_ | refine WS.rl ?_)
 refine WS.loopB (fun j fr S' => ∃ i j', j = j' - i ∧ a ≤ i ∧ i ≤ j' ∧ j' ≤ m ∧ lget fr 0 = .slR id 0 C.length C.length 2 ∧ lget fr 2 = .int .i64 (m : Nat) ∧ lget fr 4 = fv ∧ lget fr 14 = .int .i64 (i : Nat) ∧ lget fr 15 = .int .i64 (j' : Nat) ∧ T = S' ∧ (∀ k, a ≤ k → k < i → ltA y (C.getD k ([], [])) = false) ∧ ∀ k, j' ≤ k → k < m → ltA y (C.getD k ([], [])) = true)
  (fun fr S' => ∃ i, a ≤ i ∧ i ≤ m ∧ lget fr 0 = .slR id 0 C.length C.length 2 ∧ lget fr 2 = .int .i64 (m : Nat) ∧ lget fr 14 = .int .i64 (i : Nat) ∧ T = S' ∧ (∀ k, a ≤ k → k < i → ltA y (C.getD k ([], [])) = false) ∧ ∀ k, i ≤ k → k < m → ltA y (C.getD k ([], [])) = true) (j := m - a) ?_ ?_ ?_
 ·refine ⟨a, m, rfl, Nat.le_refl _, by omega, Nat.le_refl _, ?_, ?_, ?_, ?_, ?_, rfl, fun k h1 h2 => by omega, fun k h1 h2 => by omega⟩
  all_goals
   simp only [EV, lget, ↓reduceIte, Nat.reduceEqDiff, AT]
 ·rintro fr S' ⟨i, hai, him, h0, h2, h14, rfl, hlo, hhi⟩
  have hV1 : ∀ v ∈ U.take (i - a), ltA y v = false := fun v hv => by
   obtain ⟨q, hq, rfl⟩ := List.getElem_of_mem hv
   simp only [List.length_take] at hq
   have := hlo (a + q) (by omega) (by omega)
   rw [hu q (by omega)] at this
   simpa [List.getD, show q < U.length by omega] using this
  have hV2 : ∀ v ∈ U.drop (i - a), ltA y v = true := fun v hv => by
   obtain ⟨q, hq, rfl⟩ := List.getElem_of_mem hv
   simp only [List.length_drop] at hq
   have := hhi (a + (i - a + q)) (by omega) (by omega)
   rw [hu _ (by omega)] at this
   simpa [List.getD, show i - a + q < U.length by omega] using this
  have hfin := merge_last (y := y) (U1 := U.take (i - a)) (U2 := U.drop (i - a)) (by rw [List.take_append_drop]; exact hs) hV1 hV2
  rw [List.take_append_drop] at hfin
  have hUe : U = U.take (i - a) ++ U.drop (i - a) := (List.take_append_drop _ _).symm
  have hV1l : (U.take (i - a)).length = i - a := by simp; omega
  generalize U.take (i - a) = V1 at hfin hUe hV1l
  generalize U.drop (i - a) = V2 at hfin hUe
  rw [← hfin]
  have hUl : U.length = V1.length + V2.length := by rw [hUe]; simp
  repeat (first | refine WS.adm rfl ?_ | refine WS.region (by simp only [EV, TY, h2, ↓reduceIte, Nat.reduceEqDiff]; with_reducible rfl) ?_)
  refine WS.loopB (fun j fr S' => ∃ P Q, j = P.length ∧ V2 = P ++ Q ∧ lget fr 0 = .slR id 0 C.length C.length 2 ∧ lget fr 14 = .int .i64 (i : Nat) ∧ lget fr 17 = .int .i64 ((i + P.length : Nat) : Int) ∧ S' = T.set id (.cells (fl (A ++ (V1 ++ (P ++ (y :: (Q ++ B)))))) 96))
   (fun fr S' => S' = T.set id (.cells (fl (A ++ (V1 ++ y :: V2 ++ B))) 96)) (j := V2.length) ?_ ?_ ?_
  ·refine ⟨V2, [], rfl, by simp, ?_, ?_, ?_, ?_⟩
   iterate 2 simp only [EV, h0, h14, ↓reduceIte, Nat.reduceEqDiff, AT]
   ·simp only [EV, h2, ↓reduceIte, Nat.reduceEqDiff, AT]
    rw [show m = i + V2.length by omega]
   ·have : A ++ (V1 ++ (V2 ++ (y :: ([] ++ B)))) = C := by rw [hC, hUe]; simp
    rw [this, set_id hT]
  ·rintro fr S' rfl
   repeat (first | refine WS.adm rfl ?_ | refine WS.r0 ?_)
   exact ret0 rfl rfl
  ·rintro j fr S' ⟨P, Q, rfl, rfl, h0, h14, h17, rfl⟩ ih last
   simp only [List.length_append] at hUl
   rcases List.eq_nil_or_concat P with rfl | ⟨P', u, rfl⟩
   ·have hlt : ¬ ((i : Nat) : Int) < ((i + ([] : List Ava).length : Nat) : Int) := by simp
    repeat (first | refine WS.adm rfl ?_ | refine WS.region (by simp only [EV, TY, h14, h17, hlt, ↓reduceIte, Nat.reduceEqDiff]; with_reducible rfl) ?_)
    refine WS.cf0 ?_
    refine WS.exit rfl ?_
    exact last _ _ (by simp)
   ·rw [List.concat_eq_append] at *
    simp only [List.length_append, List.length_singleton] at hUl
    have hlt : ((i : Nat) : Int) < ((i + (P' ++ [u]).length : Nat) : Int) := by simp; omega
    generalize hD : A ++ (V1 ++ (P' ++ [u] ++ (y :: (Q ++ B)))) = D
    have hDe : D = (A ++ (V1 ++ P')) ++ u :: ([] ++ y :: (Q ++ B)) := by rw [← hD]; simp
    have hDl : D.length = C.length := by
     rw [hDe, hCl, hUl]
     simp; omega
    have hU : (T.set id (.cells (fl D) 96))[id]? = some (.cells (fl D) 96) := by simp [hid]
    have hi : i + (P' ++ [u]).length - 1 = (A ++ (V1 ++ P')).length := by simp; omega
    have hj : i + (P' ++ [u]).length = (A ++ (V1 ++ P')).length + 1 + ([] : List Ava).length := by simp; omega
    have k1 : IntKind.i64.wrap (((i + (P' ++ [u]).length : Nat) : Int) - 1) = ((i + (P' ++ [u]).length - 1 : Nat) : Int) := wrap_sub1 (i + (P' ++ [u]).length) (by simp; omega) (by simp; omega)
    have ld1 := cell_ld hU (i + (P' ++ [u]).length - 1) (by simp at hi; simp; omega)
    have ld2 := cell_ld hU (i + (P' ++ [u]).length) (by simp at hi; simp; omega)
    rw [getD_at _ hDe hi] at ld1
    rw [getD_at (A := (A ++ (V1 ++ P')) ++ [u]) (B := Q ++ B) (x := y) _ (by rw [hDe]; simp) (by simp; omega)] at ld2
    have ia1 := cell_ia id C.length (i + (P' ++ [u]).length - 1) (by simp at hi; simp; omega)
    have ia2 := cell_ia id C.length (i + (P' ++ [u]).length) (by simp at hi; simp; omega)
    have st1 := cell_st hU (i + (P' ++ [u]).length) (by simp at hi; simp; omega) u
    rw [List.set_set] at st1
    have hU1 : (T.set id (.cells (fl (D.set (i + (P' ++ [u]).length) u)) 96))[id]? = some (.cells (fl (D.set (i + (P' ++ [u]).length) u)) 96) := by simp [hid]
    have st2 := cell_st hU1 (i + (P' ++ [u]).length - 1) (by rw [List.length_set]; simp at hi; simp; omega) y
    rw [List.set_set, swap_mid' _ _ _ _ _ hDe hi hj] at st2
    repeat (first | refine WS.adm rfl ?_ | refine WS.region (by simp only [EV, TY, h14, h17, hlt, ↓reduceIte, Nat.reduceEqDiff]; with_reducible rfl) ?_)
    refine WS.ct0 ?_
    repeat refine WS.adm rfl ?_
    refine WS.drawb (b := [0, 0, 0, 0, 8, 0, 0, 64, 224, 480, 0, 0, 3072, 7168, 16355, 32739, 65535, 131071]) (by kernel_rfl) (by simp only [DL, isEff, isRead, Nat.reduceAdd, EV, TY,  h0, h17, k1, ia1, ia2, ld1, ld2, st1, st2, tb3, tb4, tb5, tb6, ↓reduceIte, Nat.reduceEqDiff]; with_reducible rfl) ?_
    repeat (first | refine WS.adm rfl ?_ | refine WS.region (by simp only [EV, TY, h17, k1, ↓reduceIte, Nat.reduceEqDiff]; with_reducible rfl) ?_)
    refine ih P'.length _ _ (by simp) ⟨P', u :: Q, rfl, by simp, ?_, ?_, ?_, by simp⟩
    iterate 2 simp only [EV, h0, h14, ↓reduceIte, Nat.reduceEqDiff, AT]
    ·simp only [EV, ↓reduceIte, Nat.reduceEqDiff, AT]
     rw [show i + (P' ++ [u]).length - 1 = i + P'.length by simp]
 ·rintro j fr S' ⟨i, j', rfl, hai, hij, hjm, h0, h2, h4, h14, h15, rfl, hlo, hhi⟩ ih last
  by_cases hlt : i < j'
  ·have hlt' : ((i : Nat) : Int) < ((j' : Nat) : Int) := by omega
   have k1 := wa i j' (by omega)
   have k2 := mid1 (i + j') (by omega) T
   have k3 := fun l => mid2 (i + j') l
   have k4 := mid3 ((i + j') / 2) (by omega) T
   generalize hh : (i + j') / 2 = h at k3 k4
   have hhi' : i ≤ h ∧ h < j' := by omega
   have ia1 := cell_ia id C.length h (by omega)
   have ia2 := cell_ia id C.length m (by omega)
   have ld1 := cell_ld hT h (by omega)
   have ld2 := cell_ld hT m (by omega)
   rw [hy] at ld2
   have hc := hcmp T y (C.getD h ([], []))
   have hmono : ∀ k, a ≤ k → k ≤ h → ltA (C.getD h ([], [])) (C.getD k ([], [])) = false := fun k h1 h2 => by
    rw [show h = a + (h - a) by omega, show k = a + (k - a) by omega, hu _ (by omega), hu _ (by omega)]
    exact sorted_get hs (by omega) (by omega)
   have hmono2 : ∀ k, h ≤ k → k < m → ltA (C.getD k ([], [])) (C.getD h ([], [])) = false := fun k h1 h2 => by
    rw [show h = a + (h - a) by omega, show k = a + (k - a) by omega, hu _ (by omega), hu _ (by omega)]
    exact sorted_get hs (by omega) (by omega)
   generalize C.getD h ([], []) = z at ld1 hc hmono hmono2
   have hinc := wrap_inc h (by omega)
   repeat (first | refine WS.adm rfl ?_ | refine WS.region (by simp only [EV, TY, h14, h15, hlt', ↓reduceIte, Nat.reduceEqDiff]; with_reducible rfl) ?_)
   refine WS.ct0 ?_
   repeat (first | refine WS.adm rfl ?_ | refine WS.region (by simp only [EV, TY, h14, h15, k1, k2, k3, k4, ↓reduceIte, Nat.reduceEqDiff]; with_reducible rfl) ?_)
   by_cases hp : ltA y z = true
   ·have hneg : cmpZ y.1 z.1 < 0 := (cmpZ_neg _ _).2 hp
    refine WS.drawb (b := [0, 0, 0, 6, 14, 0, 0, 96, 224, 511, 1023, 2047]) (by kernel_rfl) (by simp only [DL, isEff, isRead, Nat.reduceAdd, EV, TY,  h0, h2, h4, ia1, ia2, ld1, ld2, hc, hneg, Bool.not_true, ↓reduceIte, Nat.reduceEqDiff]; with_reducible rfl) ?_
    refine WS.cf0 ?_
    repeat (first | refine WS.adm rfl ?_ | refine WS.r0 ?_)
    refine ih (h - i) _ _ (by omega) ⟨i, h, rfl, hai, by omega, by omega, ?_, ?_, ?_, ?_, ?_, rfl, hlo, fun k g1 g2 => ?_⟩
    iterate 5 simp only [EV, h0, h2, h4, h14, ↓reduceIte, Nat.reduceEqDiff, AT]
    ·exact lt_le_trans hp (hmono2 k g1 g2)
   ·have hp : ltA y z = false := by simpa using hp
    have hneg : ¬ cmpZ y.1 z.1 < 0 := fun g => by
     have := (cmpZ_neg _ _).1 g
     unfold ltA at hp
     rw [hp] at this; cases this
    refine WS.drawb (b := [0, 0, 0, 6, 14, 0, 0, 96, 224, 511, 1023, 2047]) (by kernel_rfl) (by simp only [DL, isEff, isRead, Nat.reduceAdd, EV, TY,  h0, h2, h4, ia1, ia2, ld1, ld2, hc, hneg, Bool.not_false, ↓reduceIte, Nat.reduceEqDiff]; with_reducible rfl) ?_
    refine WS.ct0 ?_
    repeat (first | refine WS.adm rfl ?_ | refine WS.region (by simp only [EV, TY, hinc, ↓reduceIte, Nat.reduceEqDiff]; with_reducible rfl) ?_)
    refine ih (j' - (h + 1)) _ _ (by omega) ⟨h + 1, j', rfl, by omega, by omega, hjm, ?_, ?_, ?_, ?_, ?_, rfl, fun k g1 g2 => ?_, hhi⟩
    iterate 5 simp only [EV, h0, h2, h4, h15, ↓reduceIte, Nat.reduceEqDiff, AT]
    ·exact le_le_trans (hmono k g1 (by omega)) hp
  ·have hlt' : ¬ ((i : Nat) : Int) < ((j' : Nat) : Int) := by omega
   repeat (first | refine WS.adm rfl ?_ | refine WS.region (by simp only [EV, TY, h14, h15, hlt', ↓reduceIte, Nat.reduceEqDiff]; with_reducible rfl) ?_)
   refine WS.cf0 ?_
   refine WS.exit rfl ?_
   have : i = j' := by omega
   subst this
   refine last _ _ ⟨i, hai, hjm, ?_, ?_, ?_, rfl, hlo, hhi⟩
   iterate 3 simp only [EV, h0, h2, h14, ↓reduceIte, Nat.reduceEqDiff, AT]
set_option maxHeartbeats 8000000
theorem WSjoin {E : Env} {k : List Todo} {c : Code} {fr : Fr} {S : Store} {Q : Ex → Fr → Store → Prop} (P : Fr → Store → Prop) (after : ∀ fr S, P fr S → WS E k fr S Q) (h : (∀ fr S, P fr S → WS E k fr S Q) → WS E (.code c :: k) fr S Q) : WS E (.code c :: k) fr S Q := h after
theorem WSjoin2 {E : Env} {k : List Todo} {c d : Code} {fr : Fr} {S : Store} {Q : Ex → Fr → Store → Prop} (P : Fr → Store → Prop) (after : ∀ fr S, P fr S → WS E k fr S Q) (h : (∀ fr S, P fr S → WS E k fr S Q) → WS E (.code c :: .code d :: k) fr S Q) : WS E (.code c :: .code d :: k) fr S Q := h after
theorem mem_get {l : List Ava} {x : Ava} (h : x ∈ l) : ∃ q, q < l.length ∧ l.getD q ([], []) = x := by
 obtain ⟨q, hq, rfl⟩ := List.getElem_of_mem h
 exact ⟨q, hq, by simp [List.getD, hq]⟩
theorem take_getD (l : List Ava) (n q : Nat) (h : q < (l.take n).length) : (l.take n).getD q ([], []) = l.getD q ([], []) := by
 simp only [List.length_take] at h
 simp [List.getD, List.getElem?_take, show q < n by omega]
theorem drop_getD' (l : List Ava) (n q : Nat) : (l.drop n).getD q ([], []) = l.getD (n + q) ([], []) := by
 simp [List.getD, List.getElem?_drop]
theorem symMerge_ok : ∀ (N : Nat) {T : Store} {id : Nat} (A U Z B : List Ava) {C : List Ava}, C = A ++ (U ++ (Z ++ B)) → T[id]? = some (.cells (fl C) 96) → C.length ≤ 1048576 → Sorted U → Sorted Z → U ≠ [] → Z ≠ [] → ∀ {fv : V}, CmpOk fv → ∀ (a m b : Nat), a = A.length → m = A.length + U.length → b = A.length + U.length + Z.length → U.length + Z.length = N →
  vrun E0 (.fn 167) [.slR id 0 C.length C.length 2, .int .i64 (a : Nat), .int .i64 (m : Nat), .int .i64 (b : Nat), fv] T = some (.tup [], T.set id (.cells (fl (A ++ (srt (U ++ Z) ++ B))) 96)) := by
 intro N
 induction N using Nat.strongRecOn with
 | _ N IH =>
 intro T id A U Z B C hC hT hN hsU hsZ hU0 hZ0 fv hcmp a m b ha hm hb hNe
 have pU : 0 < U.length := List.length_pos_iff.2 hU0
 have pZ : 0 < Z.length := List.length_pos_iff.2 hZ0
 by_cases hU1 : U.length = 1
 ·obtain ⟨x, rfl⟩ := List.length_eq_one_iff.1 hU1
  exact sym1_ok A x Z B hC hT hN hsZ hcmp a m b ha (by simp at hm; omega) (by simp at hb; omega)
 by_cases hZ1 : Z.length = 1
 ·obtain ⟨y, rfl⟩ := List.length_eq_one_iff.1 hZ1
  exact sym2_ok A U y B hC hT hN hsU hU1 hcmp a m b ha hm (by simp at hb; omega)
 refine fn_ws Tryz.func167 rfl ?_
 have hid : id < T.length := lt_of_get hT
 have hCl : C.length = A.length + U.length + Z.length + B.length := by rw [hC]; simp; omega
 have gu : ∀ k, k < U.length → C.getD (a + k) ([], []) = U.getD k ([], []) := fun k hk => by
  rw [hC, ha, getD_app, getD_app' _ _ _ _ hk]
 have gz : ∀ k, k < Z.length → C.getD (m + k) ([], []) = Z.getD k ([], []) := fun k hk => by
  have e : C = (A ++ U) ++ (Z ++ B) := by rw [hC]; simp
  rw [e, hm, show A.length + U.length + k = (A ++ U).length + k by simp, getD_app, getD_app' _ _ _ _ hk]
 have cu : ∀ i j, a ≤ i → i ≤ j → j < m → ltA (C.getD j ([], [])) (C.getD i ([], [])) = false := fun i j h1 h2 h3 => by
  rw [show i = a + (i - a) by omega, show j = a + (j - a) by omega, gu _ (by omega), gu _ (by omega)]
  exact sorted_get hsU (by omega) (by omega)
 have cz : ∀ i j, m ≤ i → i ≤ j → j < b → ltA (C.getD j ([], [])) (C.getD i ([], [])) = false := fun i j h1 h2 h3 => by
  rw [show i = m + (i - m) by omega, show j = m + (j - m) by omega, gz _ (by omega), gz _ (by omega)]
  exact sorted_get hsZ (by omega) (by omega)
 have w1 := ws_ m a (by omega) (by omega)
 have w2 := ws_ b m (by omega) (by omega)
 have e1 : (((m - a : Nat) : Int) == 1) = false := beq_eq_false_iff_ne.2 (by omega)
 have e2 : (((b - m : Nat) : Int) == 1) = false := beq_eq_false_iff_ne.2 (by omega)
 have k1 := wa a b (by omega)
 have k2 := mid1 (a + b) (by omega) T
 have k3 := fun l => mid2 (a + b) l
 have k4 := mid3 ((a + b) / 2) (by omega) T
 generalize hmid : (a + b) / 2 = mid at k3 k4
 have hmid' : a < mid ∧ mid < b ∧ 2 * mid ≤ a + b ∧ a + b ≤ 2 * mid + 1 := by omega
 have k5 := wa mid m (by omega)
 generalize hn : mid + m = n at k5
 have k6 : IntKind.i64.wrap ((n : Int) - 1) = ((n - 1 : Nat) : Int) := wrap_sub1 n (by omega) (by omega)
 repeat (first | refine WS.adm rfl ?_ | refine WS.region (by simp only [EV, TY, lget, w1, e1, ↓reduceIte, Nat.reduceEqDiff]; with_reducible rfl) ?_)
 refine WS.cond_false (by simp only [EV, lget, ↓reduceIte, Nat.reduceEqDiff]) ?_
 repeat (first | refine WS.adm rfl ?_ | refine WS.region (by simp only [EV, TY, lget, w2, e2, ↓reduceIte, Nat.reduceEqDiff]; with_reducible rfl) ?_)
 refine WS.cond_false (by simp only [EV, lget, ↓reduceIte, Nat.reduceEqDiff]) ?_
 repeat (first | refine WS.adm rfl ?_ | refine WS.region (by simp only [EV, TY, lget, k1, k2, k3, k4, k5, ↓reduceIte, Nat.reduceEqDiff]; with_reducible rfl) ?_)
 refine WSjoin (fun fr S' => ∃ s0 r0, a ≤ s0 ∧ s0 ≤ r0 ∧ r0 ≤ m ∧ r0 ≤ mid ∧ n ≤ s0 + b ∧ (r0 = m ∨ r0 = mid) ∧ (s0 = a ∨ s0 + b = n) ∧ T = S' ∧ lget fr 0 = .slR id 0 C.length C.length 2 ∧ lget fr 1 = .int .i64 (a : Nat) ∧ lget fr 2 = .int .i64 (m : Nat) ∧ lget fr 3 = .int .i64 (b : Nat) ∧ lget fr 4 = fv ∧ lget fr 18 = .int .i64 (mid : Nat) ∧ lget fr 19 = .int .i64 (n : Nat) ∧ lget fr 20 = .int .i64 (s0 : Nat) ∧ lget fr 21 = .int .i64 (r0 : Nat)) ?_ ?_
 rotate_left
 ·intro last
  by_cases hgt : mid < m
  ·have hgt' : ((mid : Nat) : Int) < ((m : Nat) : Int) := by omega
   have k7 := ws_ n b (by omega) (by omega)
   refine WS.cond_true (by simp only [EV, lget, hgt', ↓reduceIte, Nat.reduceEqDiff]) ?_
   refine WS.seq ?_
   refine WS.region (by simp only [EV, TY, lget, k7, ↓reduceIte, Nat.reduceEqDiff]; with_reducible rfl) ?_
   refine WS.rl ?_
   refine last _ _ ⟨n - b, mid, by omega, by omega, by omega, by omega, by omega, .inr rfl, .inr (by omega), rfl, ?_, ?_, ?_, ?_, ?_, ?_, ?_, ?_, ?_⟩
   all_goals
    simp only [EV, lget, ↓reduceIte, Nat.reduceEqDiff, AT]
  ·have hgt' : ¬ ((mid : Nat) : Int) < ((m : Nat) : Int) := by omega
   refine WS.cond_false (by simp only [EV, lget, hgt', ↓reduceIte, Nat.reduceEqDiff]) ?_
   refine WS.seq ?_
   refine WS.rl ?_
   refine WS.rl ?_
   refine last _ _ ⟨a, m, by omega, by omega, by omega, by omega, by omega, .inl rfl, .inl rfl, rfl, ?_, ?_, ?_, ?_, ?_, ?_, ?_, ?_, ?_⟩
   all_goals
    simp only [EV, lget, ↓reduceIte, Nat.reduceEqDiff, AT]
 rintro fr S' ⟨s0, r0, q1, q2, q3, q4, q5, q6, q7, rfl, h0, h1, h2, h3, h4, h18, h19, h20, h21⟩
 repeat (first | refine WS.adm rfl ?_ | refine WS.region (by simp only [EV, TY, h19, k6, ↓reduceIte, Nat.reduceEqDiff]; with_reducible rfl) ?_)
 refine WS.loopB (fun j fr S' => ∃ i j', j = j' - i ∧ s0 ≤ i ∧ i ≤ j' ∧ j' ≤ r0 ∧ T = S' ∧ lget fr 0 = .slR id 0 C.length C.length 2 ∧ lget fr 1 = .int .i64 (a : Nat) ∧ lget fr 2 = .int .i64 (m : Nat) ∧ lget fr 3 = .int .i64 (b : Nat) ∧ lget fr 4 = fv ∧ lget fr 18 = .int .i64 (mid : Nat) ∧ lget fr 19 = .int .i64 (n : Nat) ∧ lget fr 20 = .int .i64 (i : Nat) ∧ lget fr 21 = .int .i64 (j' : Nat) ∧ lget fr 22 = .int .i64 ((n - 1 : Nat) : Int) ∧ (∀ k, s0 ≤ k → k < i → ltA (C.getD (n - 1 - k) ([], [])) (C.getD k ([], [])) = false) ∧ ∀ k, j' ≤ k → k < r0 → ltA (C.getD (n - 1 - k) ([], [])) (C.getD k ([], [])) = true)
  (fun fr S' => ∃ i, s0 ≤ i ∧ i ≤ r0 ∧ T = S' ∧ lget fr 0 = .slR id 0 C.length C.length 2 ∧ lget fr 1 = .int .i64 (a : Nat) ∧ lget fr 2 = .int .i64 (m : Nat) ∧ lget fr 3 = .int .i64 (b : Nat) ∧ lget fr 4 = fv ∧ lget fr 18 = .int .i64 (mid : Nat) ∧ lget fr 19 = .int .i64 (n : Nat) ∧ lget fr 20 = .int .i64 (i : Nat) ∧ (∀ k, s0 ≤ k → k < i → ltA (C.getD (n - 1 - k) ([], [])) (C.getD k ([], [])) = false) ∧ ∀ k, i ≤ k → k < r0 → ltA (C.getD (n - 1 - k) ([], [])) (C.getD k ([], [])) = true) (j := r0 - s0) ?_ ?_ ?_
 ·refine ⟨s0, r0, rfl, Nat.le_refl _, q2, Nat.le_refl _, rfl, ?_, ?_, ?_, ?_, ?_, ?_, ?_, ?_, ?_, ?_, fun k h1 h2 => by omega, fun k h1 h2 => by omega⟩
  all_goals
   simp only [EV, h0, h1, h2, h3, h4, h18, h19, h20, h21, ↓reduceIte, Nat.reduceEqDiff, AT]
 ·rintro fr S' ⟨s, p1, p2, rfl, h0, h1, h2, h3, h4, h18, h19, h20, hlo, hhi⟩
  have k7 := ws_ n s (by omega) (by omega)
  have c1 : ∀ u ∈ U.drop (s - a), ∀ v ∈ Z.take (mid - s), ltA v u = true := fun u hu v hv => by
   obtain ⟨qu, hqu, rfl⟩ := mem_get hu
   obtain ⟨qv, hqv, rfl⟩ := mem_get hv
   rw [take_getD _ _ _ hqv, drop_getD']
   simp only [List.length_drop, List.length_take] at hqu hqv
   rw [← gz _ (by omega), ← gu _ (by omega)]
   have hp := hhi s (Nat.le_refl _) (by omega)
   exact le_lt_trans (cz (m + qv) (n - 1 - s) (by omega) (by omega) (by omega)) (lt_le_trans hp (cu s (a + (s - a + qu)) (by omega) (by omega) (by omega)))
  have c2 : ∀ u ∈ U.take (s - a), ∀ v ∈ Z.drop (mid - s), ltA v u = false := fun u hu v hv => by
   obtain ⟨qu, hqu, rfl⟩ := mem_get hu
   obtain ⟨qv, hqv, rfl⟩ := mem_get hv
   rw [take_getD _ _ _ hqu, drop_getD']
   simp only [List.length_drop, List.length_take] at hqu hqv
   rw [← gz _ (by omega), ← gu _ (by omega)]
   have hp := hlo (s - 1) (by omega) (by omega)
   rw [show n - 1 - (s - 1) = n - s by omega] at hp
   exact le_le_trans (le_le_trans (cu (a + qu) (s - 1) (by omega) (by omega) (by omega)) hp) (cz (n - s) (m + (mid - s + qv)) (by omega) (by omega) (by omega))
  have hUe : U = U.take (s - a) ++ U.drop (s - a) := (List.take_append_drop _ _).symm
  have hZe : Z = Z.take (mid - s) ++ Z.drop (mid - s) := (List.take_append_drop _ _).symm
  have l1 : (U.take (s - a)).length = s - a := by simp; omega
  have l2 : (U.drop (s - a)).length = m - s := by simp; omega
  have l3 : (Z.take (mid - s)).length = mid - s := by simp; omega
  have l4 : (Z.drop (mid - s)).length = b - (n - s) := by simp; omega
  generalize U.take (s - a) = U1 at c2 hUe l1
  generalize U.drop (s - a) = U2 at c1 hUe l2
  generalize Z.take (mid - s) = Z1 at c1 hZe l3
  generalize Z.drop (mid - s) = Z2 at c2 hZe l4
  rw [hUe] at hsU
  rw [hZe] at hsZ
  have hmm := merge_mid hsU hsZ c1 c2
  obtain ⟨su1, su2, _⟩ := sorted_parts hsU
  obtain ⟨sz1, sz2, _⟩ := sorted_parts hsZ
  have hgoal : A ++ (srt (U ++ Z) ++ B) = A ++ (srt (U1 ++ Z1) ++ (srt (U2 ++ Z2) ++ B)) := by
   rw [hUe, hZe, ← hmm]; simp
  rw [hgoal]
  have hC2 : C = (A ++ U1) ++ (U2 ++ (Z1 ++ (Z2 ++ B))) := by rw [hC, hUe, hZe]; simp
  have hNl : U.length + Z.length = U1.length + U2.length + (Z1.length + Z2.length) := by rw [hUe, hZe]; simp
  clear hUe hZe hmm hC hgoal
  have len3 : (A ++ (U1 ++ (Z1 ++ (U2 ++ (Z2 ++ B))))).length = C.length := by rw [hC2]; simp; omega
  have len4 : (A ++ (srt (U1 ++ Z1) ++ (U2 ++ (Z2 ++ B)))).length = C.length := by rw [hC2]; simp [srt_len]; omega
  repeat (first | refine WS.adm rfl ?_ | refine WS.region (by simp only [EV, TY, h19, h20, k7, ↓reduceIte, Nat.reduceEqDiff]; with_reducible rfl) ?_)
  have j1 : ∀ x y : Nat, x < y → ((x : Nat) : Int) < ((y : Nat) : Int) := fun x y h => by omega
  have j2 : ∀ x y : Nat, ¬ x < y → ¬ ((x : Nat) : Int) < ((y : Nat) : Int) := fun x y h => by omega
  have i1 : (A ++ (U1 ++ (Z1 ++ (U2 ++ (Z2 ++ B))))) = A ++ (U1 ++ (Z1 ++ (U2 ++ (Z2 ++ B)))) := rfl
  refine WSjoin2 (fun fr S' => S' = T.set id (.cells (fl (A ++ (U1 ++ (Z1 ++ (U2 ++ (Z2 ++ B)))))) 96) ∧ lget fr 0 = .slR id 0 C.length C.length 2 ∧ lget fr 1 = .int .i64 (a : Nat) ∧ lget fr 2 = .int .i64 (m : Nat) ∧ lget fr 3 = .int .i64 (b : Nat) ∧ lget fr 4 = fv ∧ lget fr 18 = .int .i64 (mid : Nat) ∧ lget fr 20 = .int .i64 (s : Nat) ∧ lget fr 24 = .int .i64 ((n - s : Nat) : Int)) ?_ ?_
  rotate_left
  ·intro last
   by_cases g1 : s < m
   ·by_cases g2 : m < n - s
    ·have hR := rotate_ok (A ++ U1) U2 Z1 (Z2 ++ B) hC2 hT hN (by intro h; subst h; simp at l2; omega) (by intro h; subst h; simp at l3; omega) fv s m (n - s) (by simp; omega) (by simp; omega) (by simp; omega)
     rw [show (A ++ U1) ++ (Z1 ++ (U2 ++ (Z2 ++ B))) = A ++ (U1 ++ (Z1 ++ (U2 ++ (Z2 ++ B)))) by simp] at hR
     refine WS.region (by simp only [EV, TY, h2, h20, j1 s m g1, j1 m (n - s) g2, ↓reduceIte, Nat.reduceEqDiff]; with_reducible rfl) ?_
     refine WS.cond_true (by simp only [EV, j1 s m g1, j1 m (n - s) g2, ↓reduceIte, Nat.reduceEqDiff]) ?_
     refine WS.region (by simp only [EV, TY, h0, h2, h4, h20, callV_181, hR, ↓reduceIte, Nat.reduceEqDiff]; with_reducible rfl) ?_
     refine last _ _ ⟨rfl, ?_, ?_, ?_, ?_, ?_, ?_, ?_, ?_⟩
     all_goals
      simp only [EV, h0, h1, h2, h3, h4, h18, h20, ↓reduceIte, Nat.reduceEqDiff, AT]
    ·have z0 : Z1 = [] := List.length_eq_zero_iff.1 (by omega)
     refine WS.region (by simp only [EV, TY, h2, h20, j1 s m g1, j2 m (n - s) g2, ↓reduceIte, Nat.reduceEqDiff]; with_reducible rfl) ?_
     refine WS.cond_false (by simp only [EV, j1 s m g1, j2 m (n - s) g2, ↓reduceIte, Nat.reduceEqDiff]) ?_
     refine WS.skip ?_
     refine last _ _ ⟨?_, ?_, ?_, ?_, ?_, ?_, ?_, ?_, ?_⟩
     ·rw [z0] at hC2 ⊢
      rw [show A ++ (U1 ++ ([] ++ (U2 ++ (Z2 ++ B)))) = C by rw [hC2]; simp, set_id hT]
     all_goals
      simp only [EV, h0, h1, h2, h3, h4, h18, h20, ↓reduceIte, Nat.reduceEqDiff, AT]
   ·have u0 : U2 = [] := List.length_eq_zero_iff.1 (by omega)
    refine WS.region (by simp only [EV, TY, h2, h20, j2 s m g1, ↓reduceIte, Nat.reduceEqDiff]; with_reducible rfl) ?_
    refine WS.cond_false (by simp only [EV, j2 s m g1, ↓reduceIte, Nat.reduceEqDiff]) ?_
    refine WS.skip ?_
    refine last _ _ ⟨?_, ?_, ?_, ?_, ?_, ?_, ?_, ?_, ?_⟩
    ·rw [u0] at hC2 ⊢
     rw [show A ++ (U1 ++ (Z1 ++ ([] ++ (Z2 ++ B)))) = C by rw [hC2]; simp, set_id hT]
    all_goals
     simp only [EV, h0, h1, h2, h3, h4, h18, h20, ↓reduceIte, Nat.reduceEqDiff, AT]
  clear h0 h1 h2 h3 h4 h18 h19 h20
  rintro fr S' ⟨rfl, h0, h1, h2, h3, h4, h18, h20, h24⟩
  repeat refine WS.adm rfl ?_
  refine WSjoin2 (fun fr S' => S' = T.set id (.cells (fl (A ++ (srt (U1 ++ Z1) ++ (U2 ++ (Z2 ++ B))))) 96) ∧ lget fr 0 = .slR id 0 C.length C.length 2 ∧ lget fr 1 = .int .i64 (a : Nat) ∧ lget fr 2 = .int .i64 (m : Nat) ∧ lget fr 3 = .int .i64 (b : Nat) ∧ lget fr 4 = fv ∧ lget fr 18 = .int .i64 (mid : Nat) ∧ lget fr 20 = .int .i64 (s : Nat) ∧ lget fr 24 = .int .i64 ((n - s : Nat) : Int)) ?_ ?_
  rotate_left
  ·intro last
   by_cases g1 : a < s
   ·by_cases g2 : s < mid
    ·have hR := IH (U1.length + Z1.length) (by omega) (T := T.set id (.cells (fl (A ++ (U1 ++ (Z1 ++ (U2 ++ (Z2 ++ B)))))) 96)) (id := id) A U1 Z1 (U2 ++ (Z2 ++ B)) rfl (by simp [hid]) (by rw [len3]; exact hN) su1 sz1 (by intro h; subst h; simp at l1; omega) (by intro h; subst h; simp at l3; omega) hcmp a s mid ha (by omega) (by omega) rfl
     rw [len3, List.set_set] at hR
     refine WS.region (by simp only [EV, TY, h1, h18, h20, j1 a s g1, j1 s mid g2, ↓reduceIte, Nat.reduceEqDiff]; with_reducible rfl) ?_
     refine WS.cond_true (by simp only [EV, j1 a s g1, j1 s mid g2, ↓reduceIte, Nat.reduceEqDiff]) ?_
     refine WS.region (by simp only [EV, TY, h0, h1, h4, h18, h20, callV_167, hR, ↓reduceIte, Nat.reduceEqDiff]; with_reducible rfl) ?_
     refine last _ _ ⟨rfl, ?_, ?_, ?_, ?_, ?_, ?_, ?_, ?_⟩
     all_goals
      simp only [EV, h0, h1, h2, h3, h4, h18, h20, h24, ↓reduceIte, Nat.reduceEqDiff, AT]
    ·have z0 : Z1 = [] := List.length_eq_zero_iff.1 (by omega)
     refine WS.region (by simp only [EV, TY, h1, h18, h20, j1 a s g1, j2 s mid g2, ↓reduceIte, Nat.reduceEqDiff]; with_reducible rfl) ?_
     refine WS.cond_false (by simp only [EV, j1 a s g1, j2 s mid g2, ↓reduceIte, Nat.reduceEqDiff]) ?_
     refine WS.skip ?_
     refine last _ _ ⟨?_, ?_, ?_, ?_, ?_, ?_, ?_, ?_, ?_⟩
     ·rw [z0, List.append_nil, srt_of_sorted su1]
      simp
     all_goals
      simp only [EV, h0, h1, h2, h3, h4, h18, h20, h24, ↓reduceIte, Nat.reduceEqDiff, AT]
   ·have u0 : U1 = [] := List.length_eq_zero_iff.1 (by omega)
    refine WS.region (by simp only [EV, TY, h1, h18, h20, j2 a s g1, ↓reduceIte, Nat.reduceEqDiff]; with_reducible rfl) ?_
    refine WS.cond_false (by simp only [EV, j2 a s g1, ↓reduceIte, Nat.reduceEqDiff]) ?_
    refine WS.skip ?_
    refine last _ _ ⟨?_, ?_, ?_, ?_, ?_, ?_, ?_, ?_, ?_⟩
    ·rw [u0, show srt ([] ++ Z1) = Z1 from srt_of_sorted sz1]
     simp
    all_goals
     simp only [EV, h0, h1, h2, h3, h4, h18, h20, h24, ↓reduceIte, Nat.reduceEqDiff, AT]
  clear h0 h1 h2 h3 h4 h18 h20 h24
  rintro fr S' ⟨rfl, h0, h1, h2, h3, h4, h18, h20, h24⟩
  repeat refine WS.adm rfl ?_
  have hfin : ∀ X : List Ava, X = A ++ (srt (U1 ++ Z1) ++ (srt (U2 ++ Z2) ++ B)) → ∀ fr, WS E0 [] fr (T.set id (.cells (fl X) 96)) (FnEnds E0 167 Tryz.f167 T (.tup [], T.set id (.cells (fl (A ++ (srt (U1 ++ Z1) ++ (srt (U2 ++ Z2) ++ B)))) 96))) := fun X hX fr => by
   subst hX
   exact ends0 rfl rfl
  by_cases g1 : mid < n - s
  ·by_cases g2 : n - s < b
   ·have hR := IH (U2.length + Z2.length) (by omega) (T := T.set id (.cells (fl (A ++ (srt (U1 ++ Z1) ++ (U2 ++ (Z2 ++ B))))) 96)) (id := id) (A ++ srt (U1 ++ Z1)) U2 Z2 B (C := A ++ (srt (U1 ++ Z1) ++ (U2 ++ (Z2 ++ B)))) (by simp) (by simp [hid]) (by rw [len4]; exact hN) su2 sz2 (by intro h; subst h; simp at l2; omega) (by intro h; subst h; simp at l4; omega) hcmp mid (n - s) b (by simp [srt_len]; omega) (by simp [srt_len]; omega) (by simp [srt_len]; omega) rfl
    rw [len4, List.set_set] at hR
    refine WS.region (by simp only [EV, TY, h3, h18, h24, j1 mid (n - s) g1, j1 (n - s) b g2, ↓reduceIte, Nat.reduceEqDiff]; with_reducible rfl) ?_
    refine WS.cond_true (by simp only [EV, j1 mid (n - s) g1, j1 (n - s) b g2, ↓reduceIte, Nat.reduceEqDiff]) ?_
    refine WS.region (by simp only [EV, TY, h0, h3, h4, h18, h24, callV_167, hR, ↓reduceIte, Nat.reduceEqDiff]; with_reducible rfl) ?_
    exact hfin _ (by simp) _
   ·have z0 : Z2 = [] := List.length_eq_zero_iff.1 (by omega)
    refine WS.region (by simp only [EV, TY, h3, h18, h24, j1 mid (n - s) g1, j2 (n - s) b g2, ↓reduceIte, Nat.reduceEqDiff]; with_reducible rfl) ?_
    refine WS.cond_false (by simp only [EV, j1 mid (n - s) g1, j2 (n - s) b g2, ↓reduceIte, Nat.reduceEqDiff]) ?_
    refine WS.skip ?_
    exact hfin _ (by rw [z0, List.append_nil, srt_of_sorted su2]; simp) _
  ·have u0 : U2 = [] := List.length_eq_zero_iff.1 (by omega)
   refine WS.region (by simp only [EV, TY, h3, h18, h24, j2 mid (n - s) g1, ↓reduceIte, Nat.reduceEqDiff]; with_reducible rfl) ?_
   refine WS.cond_false (by simp only [EV, j2 mid (n - s) g1, ↓reduceIte, Nat.reduceEqDiff]) ?_
   refine WS.skip ?_
   exact hfin _ (by rw [u0, show srt ([] ++ Z2) = Z2 from srt_of_sorted sz2]; simp) _
 ·rintro j fr S' ⟨i, j', rfl, p1, p2, p3, rfl, h0, h1, h2, h3, h4, h18, h19, h20, h21, h22, hlo, hhi⟩ ih last
  by_cases hlt : i < j'
  ·have hlt' : ((i : Nat) : Int) < ((j' : Nat) : Int) := by omega
   have k1 := wa i j' (by omega)
   have k2 := mid1 (i + j') (by omega) T
   have k3 := fun l => mid2 (i + j') l
   have k4 := mid3 ((i + j') / 2) (by omega) T
   generalize hh : (i + j') / 2 = h at k3 k4
   have hhi' : i ≤ h ∧ h < j' := by omega
   have k5 := ws_ (n - 1) h (by omega) (by omega)
   have ia1 := cell_ia id C.length (n - 1 - h) (by omega)
   have ia2 := cell_ia id C.length h (by omega)
   have ld1 := cell_ld hT (n - 1 - h) (by omega)
   have ld2 := cell_ld hT h (by omega)
   have hc := hcmp T (C.getD (n - 1 - h) ([], [])) (C.getD h ([], []))
   have m1 : ∀ k, s0 ≤ k → k ≤ h → ltA (C.getD (n - 1 - h) ([], [])) (C.getD h ([], [])) = false → ltA (C.getD (n - 1 - k) ([], [])) (C.getD k ([], [])) = false := fun k g1 g2 g =>
    le_le_trans (le_le_trans (cu k h (by omega) (by omega) (by omega)) g) (cz (n - 1 - h) (n - 1 - k) (by omega) (by omega) (by omega))
   have m2 : ∀ k, h ≤ k → k < r0 → ltA (C.getD (n - 1 - h) ([], [])) (C.getD h ([], [])) = true → ltA (C.getD (n - 1 - k) ([], [])) (C.getD k ([], [])) = true := fun k g1 g2 g =>
    le_lt_trans (cz (n - 1 - k) (n - 1 - h) (by omega) (by omega) (by omega)) (lt_le_trans g (cu h k (by omega) (by omega) (by omega)))
   generalize C.getD h ([], []) = z at ld2 hc m1 m2
   generalize C.getD (n - 1 - h) ([], []) = y at ld1 hc m1 m2
   have hinc := wrap_inc h (by omega)
   repeat (first | refine WS.adm rfl ?_ | refine WS.region (by simp only [EV, TY, h20, h21, hlt', ↓reduceIte, Nat.reduceEqDiff]; with_reducible rfl) ?_)
   refine WS.ct0 ?_
   repeat (first | refine WS.adm rfl ?_ | refine WS.region (by simp only [EV, TY, h20, h21, k1, k2, k3, k4, ↓reduceIte, Nat.reduceEqDiff]; with_reducible rfl) ?_)
   by_cases hp : ltA y z = true
   ·have hneg : cmpZ y.1 z.1 < 0 := (cmpZ_neg _ _).2 hp
    refine WS.drawb (b := [0, 0, 0, 0, 12, 30, 62, 0, 0, 384, 896, 2047, 4095, 8191]) (by kernel_rfl) (by simp only [DL, isEff, isRead, Nat.reduceAdd, EV, TY,  h0, h4, h22, k5, ia1, ia2, ld1, ld2, hc, hneg, Bool.not_true, ↓reduceIte, Nat.reduceEqDiff]; with_reducible rfl) ?_
    refine WS.cf0 ?_
    repeat (first | refine WS.adm rfl ?_ | refine WS.r0 ?_)
    refine ih (h - i) _ _ (by omega) ⟨i, h, rfl, p1, by omega, by omega, rfl, ?_, ?_, ?_, ?_, ?_, ?_, ?_, ?_, ?_, ?_, hlo, fun k g1 g2 => m2 k g1 g2 hp⟩
    all_goals
     simp only [EV, h0, h1, h2, h3, h4, h18, h19, h20, h22, ↓reduceIte, Nat.reduceEqDiff, AT]
   ·have hp : ltA y z = false := by simpa using hp
    have hneg : ¬ cmpZ y.1 z.1 < 0 := fun g => by
     have := (cmpZ_neg _ _).1 g
     unfold ltA at hp
     rw [hp] at this; cases this
    refine WS.drawb (b := [0, 0, 0, 0, 12, 30, 62, 0, 0, 384, 896, 2047, 4095, 8191]) (by kernel_rfl) (by simp only [DL, isEff, isRead, Nat.reduceAdd, EV, TY,  h0, h4, h22, k5, ia1, ia2, ld1, ld2, hc, hneg, Bool.not_false, ↓reduceIte, Nat.reduceEqDiff]; with_reducible rfl) ?_
    refine WS.ct0 ?_
    repeat (first | refine WS.adm rfl ?_ | refine WS.region (by simp only [EV, TY, hinc, ↓reduceIte, Nat.reduceEqDiff]; with_reducible rfl) ?_)
    refine ih (j' - (h + 1)) _ _ (by omega) ⟨h + 1, j', rfl, by omega, by omega, p3, rfl, ?_, ?_, ?_, ?_, ?_, ?_, ?_, ?_, ?_, ?_, fun k g1 g2 => m1 k g1 (by omega) hp, hhi⟩
    all_goals
     simp only [EV, h0, h1, h2, h3, h4, h18, h19, h21, h22, ↓reduceIte, Nat.reduceEqDiff, AT]
  ·have hlt' : ¬ ((i : Nat) : Int) < ((j' : Nat) : Int) := by omega
   repeat (first | refine WS.adm rfl ?_ | refine WS.region (by simp only [EV, TY, h20, h21, hlt', ↓reduceIte, Nat.reduceEqDiff]; with_reducible rfl) ?_)
   refine WS.cf0 ?_
   refine WS.exit rfl ?_
   have : i = j' := by omega
   subst this
   refine last _ _ ⟨i, p1, p3, rfl, ?_, ?_, ?_, ?_, ?_, ?_, ?_, ?_, hlo, hhi⟩
   all_goals
    simp only [EV, h0, h1, h2, h3, h4, h18, h19, h20, ↓reduceIte, Nat.reduceEqDiff, AT]
def bsort (bs : Nat) (l : List Ava) : List Ava := if h : l.length ≤ bs ∨ bs = 0 then srt l else srt (l.take bs) ++ bsort bs (l.drop bs)
termination_by l.length
decreasing_by simp; omega
theorem bsort_small {bs : Nat} {l : List Ava} (h : l.length ≤ bs) : bsort bs l = srt l := by
 rw [bsort, dif_pos (.inl h)]
theorem bsort_step {bs : Nat} {l : List Ava} (h0 : 0 < bs) (h : bs ≤ l.length) : bsort bs l = srt (l.take bs) ++ bsort bs (l.drop bs) := by
 rw [bsort]
 by_cases he : l.length ≤ bs
 ·rw [dif_pos (.inl he)]
  have : l.length = bs := by omega
  rw [List.take_of_length_le he, List.drop_eq_nil_iff.2 he, bsort_small (by simp)]
  simp [srt]
 ·rw [dif_neg (by omega)]
theorem bsort_len (bs : Nat) : ∀ (n : Nat) (l : List Ava), l.length = n → (bsort bs l).length = l.length := by
 intro n
 induction n using Nat.strongRecOn with
 | _ n ih =>
  intro l hl
  rw [bsort]
  split
  ·exact srt_len l
  ·rw [List.length_append, srt_len, ih (l.drop bs).length (by simp; omega) _ rfl]
   simp; omega
theorem isort_app (D R : List Ava) (k : Nat) : isort (D ++ R) D.length (D.length + k) = D ++ (srt (R.take k) ++ R.drop k) := by
 unfold isort
 simp [List.take_append, List.drop_append]
theorem srt_ne {X : List Ava} (h : 0 < X.length) : srt X ≠ [] := fun e => by
 have := congrArg List.length e
 rw [srt_len] at this
 simp at this
 subst this
 simp at h
theorem wm2 (n : Nat) (h : n ≤ 1048576) : IntKind.i64.wrap (2 * (n : Int)) = ((2 * n : Nat) : Int) := by rw [wrap_i64 (by omega) (by omega)]; omega
theorem wm2' (n : Nat) (h : n ≤ 1048576) : IntKind.i64.wrap ((n : Int) * 2) = ((2 * n : Nat) : Int) := by rw [wrap_i64 (by omega) (by omega)]; omega
theorem stable_ok {T : Store} {id : Nat} {l : List Ava} (hT : T[id]? = some (.cells (fl l) 96)) (hN : l.length ≤ 1048576) {fv : V} (hcmp : CmpOk fv) :
  vrun E0 (.fn 143) [.slR id 0 l.length l.length 2, .int .i64 (l.length : Nat), fv] T = some (.tup [], T.set id (.cells (fl (srt l)) 96)) := by
 refine fn_ws Tryz.func143 rfl ?_
 have hid : id < T.length := lt_of_get hT
 repeat (first | refine WS.adm rfl ?_ | refine WS.rl ?_)
 refine WS.loopB (fun j fr S' => ∃ D R, j = R.length ∧ D.length + R.length = l.length ∧ D ++ bsort 20 R = bsort 20 l ∧ lget fr 0 = .slR id 0 l.length l.length 2 ∧ lget fr 1 = .int .i64 (l.length : Nat) ∧ lget fr 2 = fv ∧ lget fr 6 = .int .i64 20 ∧ lget fr 7 = .int .i64 (D.length : Nat) ∧ lget fr 8 = .int .i64 ((D.length + 20 : Nat) : Int) ∧ S' = T.set id (.cells (fl (D ++ R)) 96))
  (fun fr S' => ∃ D R, R.length < 20 ∧ D.length + R.length = l.length ∧ D ++ bsort 20 R = bsort 20 l ∧ lget fr 0 = .slR id 0 l.length l.length 2 ∧ lget fr 1 = .int .i64 (l.length : Nat) ∧ lget fr 2 = fv ∧ lget fr 6 = .int .i64 20 ∧ lget fr 7 = .int .i64 (D.length : Nat) ∧ S' = T.set id (.cells (fl (D ++ R)) 96)) (j := l.length) ?_ ?_ ?_
 ·refine ⟨[], l, rfl, by simp, rfl, ?_, ?_, ?_, ?_, ?_, ?_, by rw [List.nil_append, set_id hT]⟩
  all_goals
   simp only [EV, lget, ↓reduceIte, Nat.reduceEqDiff, AT]
   try rfl
 ·rintro fr S' ⟨D, R, hR, hl, hb, h0, h1, h2, h6, h7, rfl⟩
  have hlen : (D ++ R).length = l.length := by simp; omega
  have hI := insSort_ok (T := T.set id (.cells (fl (D ++ R)) 96)) (id := id) (l := D ++ R) (by simp [hid]) (by omega) hcmp D.length (D.length + R.length) (by omega) (by simp)
  rw [isort_app, List.take_length, List.drop_length, List.append_nil, hlen, List.set_set, hl, ← bsort_small (bs := 20) (by omega), hb] at hI
  repeat (first | refine WS.adm rfl ?_ | refine WS.region (by simp only [EV, TY, h0, h1, h2, h7, callV_166, hI, ↓reduceIte, Nat.reduceEqDiff]; with_reducible rfl) ?_)
  refine WS.loopB (fun j fr S' => ∃ bs, j = l.length - bs ∧ 20 ≤ bs ∧ bs ≤ 2097152 ∧ lget fr 0 = .slR id 0 l.length l.length 2 ∧ lget fr 1 = .int .i64 (l.length : Nat) ∧ lget fr 2 = fv ∧ lget fr 6 = .int .i64 (bs : Nat) ∧ S' = T.set id (.cells (fl (bsort bs l)) 96))
   (fun fr S' => S' = T.set id (.cells (fl (srt l)) 96)) (j := l.length - 20) ?_ ?_ ?_
  ·refine ⟨20, rfl, by omega, by omega, ?_, ?_, ?_, ?_, rfl⟩
   all_goals
    simp only [EV, h0, h1, h2, h6, ↓reduceIte, Nat.reduceEqDiff, AT]
    try rfl
  ·rintro fr S' rfl
   exact ends0 rfl rfl
  ·clear h0 h1 h2 h6 h7 hI hb hl hR hlen
   rintro j fr S' ⟨bs, rfl, hbs, hbs2, h0, h1, h2, h6, rfl⟩ ih last
   by_cases hlt : bs < l.length
   ·have hlt' : ((bs : Nat) : Int) < ((l.length : Nat) : Int) := by omega
    have k1 := wm2 bs (by omega)
    have k2 := wm2' bs (by omega)
    repeat (first | refine WS.adm rfl ?_ | refine WS.region (by simp only [EV, TY, h1, h6, hlt', ↓reduceIte, Nat.reduceEqDiff]; with_reducible rfl) ?_)
    refine WS.ct0 ?_
    repeat (first | refine WS.adm rfl ?_ | refine WS.region (by simp only [EV, TY, h6, k1, ↓reduceIte, Nat.reduceEqDiff]; with_reducible rfl) ?_)
    refine WS.loopB (fun j fr S' => ∃ D R, j = R.length ∧ D.length + R.length = l.length ∧ D ++ bsort (2 * bs) R = bsort (2 * bs) l ∧ lget fr 0 = .slR id 0 l.length l.length 2 ∧ lget fr 1 = .int .i64 (l.length : Nat) ∧ lget fr 2 = fv ∧ lget fr 6 = .int .i64 (bs : Nat) ∧ lget fr 7 = .int .i64 (D.length : Nat) ∧ lget fr 8 = .int .i64 ((D.length + 2 * bs : Nat) : Int) ∧ S' = T.set id (.cells (fl (D ++ bsort bs R)) 96))
     (fun fr S' => ∃ D R, R.length < 2 * bs ∧ D.length + R.length = l.length ∧ D ++ bsort (2 * bs) R = bsort (2 * bs) l ∧ lget fr 0 = .slR id 0 l.length l.length 2 ∧ lget fr 1 = .int .i64 (l.length : Nat) ∧ lget fr 2 = fv ∧ lget fr 6 = .int .i64 (bs : Nat) ∧ lget fr 7 = .int .i64 (D.length : Nat) ∧ S' = T.set id (.cells (fl (D ++ bsort bs R)) 96)) (j := l.length) ?_ ?_ ?_
    ·refine ⟨[], l, rfl, by simp, rfl, ?_, ?_, ?_, ?_, ?_, ?_, rfl⟩
     iterate 4 simp only [EV, h0, h1, h2, h6, ↓reduceIte, Nat.reduceEqDiff, AT]
     ·simp only [EV, ↓reduceIte, Nat.reduceEqDiff, AT]
      rfl
     ·simp only [EV, ↓reduceIte, Nat.reduceEqDiff, AT]
      simp
    ·rintro fr S' ⟨D, R, hR, hl, hb, h0, h1, h2, h6, h7, rfl⟩
     have a1 := wa D.length bs (by omega)
     have fin : ∀ (X : List Ava) fr, X = bsort (2 * bs) l → lget fr 0 = .slR id 0 l.length l.length 2 → lget fr 1 = .int .i64 (l.length : Nat) → lget fr 2 = fv → lget fr 6 = .int .i64 ((2 * bs : Nat) : Int) → WS E0 _ fr (T.set id (.cells (fl X) 96)) _ := fun X fr hX g0 g1 g2 g6 => by
      subst hX
      exact ih (l.length - 2 * bs) _ _ (by omega) ⟨2 * bs, rfl, by omega, by omega, g0, g1, g2, g6, rfl⟩
     by_cases hm : bs < R.length
     ·have hm' : ((D.length + bs : Nat) : Int) < ((l.length : Nat) : Int) := by omega
      have e1 := bsort_step (bs := bs) (l := R) (by omega) (by omega)
      have e2 : bsort bs (R.drop bs) = srt (R.drop bs) := bsort_small (by simp; omega)
      rw [e2] at e1
      have lC : (D ++ bsort bs R).length = l.length := by rw [List.length_append, bsort_len _ _ _ rfl]; exact hl
      have hS := symMerge_ok _ (T := T.set id (.cells (fl (D ++ bsort bs R)) 96)) (id := id) D (srt (R.take bs)) (srt (R.drop bs)) [] (C := D ++ bsort bs R) (by rw [e1]; simp) (by simp [hid]) (by rw [lC]; exact hN) (srt_sorted _) (srt_sorted _) (srt_ne (by simp only [List.length_take, List.length_drop]; omega)) (srt_ne (by simp only [List.length_take, List.length_drop]; omega)) hcmp D.length (D.length + bs) l.length rfl (by simp [srt_len]; omega) (by simp [srt_len]; omega) rfl
      rw [lC, List.set_set, srt_srt, List.take_append_drop, List.append_nil, ← bsort_small (bs := 2 * bs) (by omega), hb] at hS
      repeat (first | refine WS.adm rfl ?_ | refine WS.region (by simp only [EV, TY, h1, h6, h7, a1, hm', ↓reduceIte, Nat.reduceEqDiff]; with_reducible rfl) ?_)
      refine WS.ct0 ?_
      repeat (first | refine WS.adm rfl ?_ | refine WS.region (by simp only [EV, TY, h0, h1, h2, h7, callV_167, hS, h6, k2, ↓reduceIte, Nat.reduceEqDiff]; with_reducible rfl) ?_)
      refine fin _ _ rfl ?_ ?_ ?_ ?_
      iterate 4 simp only [EV, h0, h1, h2, ↓reduceIte, Nat.reduceEqDiff, AT]
     ·have hm' : ¬ ((D.length + bs : Nat) : Int) < ((l.length : Nat) : Int) := by omega
      have e1 : D ++ bsort bs R = bsort (2 * bs) l := by rw [← hb, bsort_small (bs := bs) (by omega), bsort_small (bs := 2 * bs) (by omega)]
      repeat (first | refine WS.adm rfl ?_ | refine WS.region (by simp only [EV, TY, h1, h6, h7, a1, hm', ↓reduceIte, Nat.reduceEqDiff]; with_reducible rfl) ?_)
      refine WS.cf0 ?_
      repeat (first | refine WS.adm rfl ?_ | refine WS.region (by simp only [EV, TY, h6, k2, ↓reduceIte, Nat.reduceEqDiff]; with_reducible rfl) ?_)
      refine fin _ _ e1 ?_ ?_ ?_ ?_
      iterate 4 simp only [EV, h0, h1, h2, ↓reduceIte, Nat.reduceEqDiff, AT]
    ·clear h0 h1 h2 h6 ih last
     rintro j fr S' ⟨D, R, rfl, hl, hb, h0, h1, h2, h6, h7, h8, rfl⟩ ih last
     by_cases hle : 2 * bs ≤ R.length
     ·have hle' : ((D.length + 2 * bs : Nat) : Int) ≤ ((l.length : Nat) : Int) := by omega
      have a1 := wa D.length bs (by omega)
      have a2 := wa (D.length + 2 * bs) (2 * bs) (by omega)
      have e1 := bsort_step (bs := bs) (l := R) (by omega) (by omega)
      have e2 := bsort_step (bs := bs) (l := R.drop bs) (by omega) (by simp; omega)
      have e3 := bsort_step (bs := 2 * bs) (l := R) (by omega) hle
      rw [List.drop_drop, show bs + bs = 2 * bs by omega] at e2
      have e4 : R.take bs ++ (R.drop bs).take bs = R.take (2 * bs) := by
       rw [show 2 * bs = bs + bs by omega, List.take_add]
      have lC : (D ++ bsort bs R).length = l.length := by rw [List.length_append, bsort_len _ _ _ rfl]; exact hl
      have hS := symMerge_ok _ (T := T.set id (.cells (fl (D ++ bsort bs R)) 96)) (id := id) D (srt (R.take bs)) (srt ((R.drop bs).take bs)) (bsort bs (R.drop (2 * bs))) (C := D ++ bsort bs R) (by rw [e1, e2]) (by simp [hid]) (by rw [lC]; exact hN) (srt_sorted _) (srt_sorted _) (srt_ne (by simp only [List.length_take, List.length_drop]; omega)) (srt_ne (by simp only [List.length_take, List.length_drop]; omega)) hcmp D.length (D.length + bs) (D.length + 2 * bs) rfl (by simp [srt_len]; omega) (by simp [srt_len]; omega) rfl
      rw [lC, List.set_set, srt_srt, e4] at hS
      repeat (first | refine WS.adm rfl ?_ | refine WS.region (by simp only [EV, TY, h1, h8, hle', ↓reduceIte, Nat.reduceEqDiff]; with_reducible rfl) ?_)
      refine WS.ct0 ?_
      repeat (first | refine WS.adm rfl ?_ | refine WS.region (by simp only [EV, TY, h0, h2, h6, h7, h8, a1, callV_167, hS, k1, a2, ↓reduceIte, Nat.reduceEqDiff]; with_reducible rfl) ?_)
      refine ih (R.drop (2 * bs)).length _ _ (by simp; omega) ⟨D ++ srt (R.take (2 * bs)), R.drop (2 * bs), rfl, by simp [srt_len]; omega, ?_, ?_, ?_, ?_, ?_, ?_, ?_, by simp⟩
      ·rw [← hb, e3]; simp
      iterate 4 simp only [EV, h0, h1, h2, h6, ↓reduceIte, Nat.reduceEqDiff, AT]
      ·simp only [EV, ↓reduceIte, Nat.reduceEqDiff, AT]
       simp [srt_len]; omega
      ·simp only [EV, ↓reduceIte, Nat.reduceEqDiff, AT]
       simp [srt_len]; omega
     ·have hle' : ¬ ((D.length + 2 * bs : Nat) : Int) ≤ ((l.length : Nat) : Int) := by omega
      repeat (first | refine WS.adm rfl ?_ | refine WS.region (by simp only [EV, TY, h1, h8, hle', ↓reduceIte, Nat.reduceEqDiff]; with_reducible rfl) ?_)
      refine WS.cf0 ?_
      refine WS.exit rfl ?_
      refine last _ _ ⟨D, R, by omega, hl, hb, ?_, ?_, ?_, ?_, ?_, rfl⟩
      iterate 5 simp only [EV, h0, h1, h2, h6, h7, ↓reduceIte, Nat.reduceEqDiff, AT]
   ·have hlt' : ¬ ((bs : Nat) : Int) < ((l.length : Nat) : Int) := by omega
    repeat (first | refine WS.adm rfl ?_ | refine WS.region (by simp only [EV, TY, h1, h6, hlt', ↓reduceIte, Nat.reduceEqDiff]; with_reducible rfl) ?_)
    refine WS.cf0 ?_
    refine WS.exit rfl ?_
    exact last _ _ (by rw [bsort_small (by omega)])
 ·rintro j fr S' ⟨D, R, rfl, hl, hb, h0, h1, h2, h6, h7, h8, rfl⟩ ih last
  by_cases hle : 20 ≤ R.length
  ·have hle' : ((D.length + 20 : Nat) : Int) ≤ ((l.length : Nat) : Int) := by omega
   have hlen : (D ++ R).length = l.length := by simp; omega
   have hI := insSort_ok (T := T.set id (.cells (fl (D ++ R)) 96)) (id := id) (l := D ++ R) (by simp [hid]) (by omega) hcmp D.length (D.length + 20) (by omega) (by simp; omega)
   rw [isort_app, hlen, List.set_set] at hI
   have a2 : IntKind.i64.wrap (((D.length + 20 : Nat) : Int) + 20) = ((D.length + 20 + 20 : Nat) : Int) := wa (D.length + 20) 20 (by omega)
   have e3 := bsort_step (bs := 20) (l := R) (by omega) hle
   repeat (first | refine WS.adm rfl ?_ | refine WS.region (by simp only [EV, TY, h1, h8, hle', ↓reduceIte, Nat.reduceEqDiff]; with_reducible rfl) ?_)
   refine WS.ct0 ?_
   repeat (first | refine WS.adm rfl ?_ | refine WS.region (by simp only [EV, TY, h0, h2, h6, h7, h8, callV_166, hI, a2, ↓reduceIte, Nat.reduceEqDiff]; with_reducible rfl) ?_)
   refine ih (R.drop 20).length _ _ (by simp; omega) ⟨D ++ srt (R.take 20), R.drop 20, rfl, by simp [srt_len]; omega, ?_, ?_, ?_, ?_, ?_, ?_, ?_, by simp⟩
   ·rw [← hb, e3]; simp
   iterate 4 simp only [EV, h0, h1, h2, h6, ↓reduceIte, Nat.reduceEqDiff, AT]
   ·simp only [EV, ↓reduceIte, Nat.reduceEqDiff, AT]
    simp [srt_len]; omega
   ·simp only [EV, ↓reduceIte, Nat.reduceEqDiff, AT]
    simp [srt_len]; omega
  ·have hle' : ¬ ((D.length + 20 : Nat) : Int) ≤ ((l.length : Nat) : Int) := by omega
   repeat (first | refine WS.adm rfl ?_ | refine WS.region (by simp only [EV, TY, h1, h8, hle', ↓reduceIte, Nat.reduceEqDiff]; with_reducible rfl) ?_)
   refine WS.cf0 ?_
   refine WS.exit rfl ?_
   refine last _ _ ⟨D, R, by omega, hl, hb, ?_, ?_, ?_, ?_, ?_, rfl⟩
   iterate 5 simp only [EV, h0, h1, h2, h6, h7, ↓reduceIte, Nat.reduceEqDiff, AT]
theorem sortOk_all (m : Nat) (hm : m ≤ 1048576) : SortOk m := by
 intro T id l hT hl fv hcmp
 refine fn_ws Tryz.func116 rfl ?_
 have hS := stable_ok hT (by omega) hcmp
 have hlen : opLen E0 T 98 (.slR id 0 l.length l.length 2) = some (.int .i64 (l.length : Nat)) := len_slR Tryz.underlying98 _ _ _ _ _
 repeat (first | refine WS.adm rfl ?_ | refine WS.region (by simp only [EV, TY, lget, hlen, callV_143, hS, ↓reduceIte, Nat.reduceEqDiff]; with_reducible rfl) ?_)
 exact ends0 rfl rfl
set_option maxHeartbeats 4000000
theorem sorts_all {n : List (List Ava)} (h : okN n) : SortsN n := fun r hr => sortOk_all _ (h.2 r hr).1
theorem normN_drop (n : List (List Ava)) (k : Nat) : normN (n.drop k) = (normN n).drop k := List.map_drop ..
theorem normN_len (n : List (List Ava)) : (normN n).length = n.length := by simp [normN]
theorem under_iff (a b : List (List Ava)) : underB a b = true ↔ normN b <:+ normN a := by
 unfold underB
 rw [decide_eq_true_iff, normN_drop]
 constructor
 ·rintro ⟨_, h⟩
  rw [← h]; exact List.drop_suffix _ _
 ·intro h
  have hl := h.length_le
  rw [normN_len, normN_len] at hl
  refine ⟨hl, ?_⟩
  have := List.suffix_iff_eq_drop.1 h
  rw [normN_len, normN_len] at this
  exact this.symm
theorem under_both (a b : List (List Ava)) : (underB a b && underB b a) = decide (normN a = normN b) := by
 by_cases h : normN a = normN b
 ·rw [decide_eq_true h, (under_iff a b).2 (by rw [h]; exact List.suffix_refl _), (under_iff b a).2 (by rw [h]; exact List.suffix_refl _)]
  rfl
 ·rw [decide_eq_false h]
  cases h1 : underB a b with
  | false => rfl
  | true =>
   cases h2 : underB b a with
   | false => rfl
   | true =>
    exact absurd (((under_iff b a).1 h2).sublist.eq_of_length_le ((under_iff a b).1 h1).length_le) h
def words (ws : List (List UInt8)) : List (List UInt8) := ws.filter fun w => !w.isEmpty
def joinT (ws : List (List UInt8)) : List UInt8 := ws.flatMap fun w => 32 :: w
def joinW : List (List UInt8) → List UInt8
 | [] => []
 | w :: ws => w ++ joinT ws
theorem foldW_eq : ∀ (ws : List (List UInt8)) (out : List UInt8), foldW out ws = if out = [] then joinW (words ws) else out ++ joinT (words ws)
 | [], out => by
  rw [foldW]
  split
  ·rename_i h; rw [h]; rfl
  ·simp [words, joinT]
 | w :: ws, out => by
  rw [foldW]
  by_cases hw : w = []
  ·have : words (w :: ws) = words ws := by simp [words, hw]
   rw [if_pos hw, foldW_eq ws out, this]
  ·have : words (w :: ws) = w :: words ws := by simp [words, hw]
   rw [if_neg hw, foldW_eq ws, this]
   by_cases ho : out = []
   ·subst ho
    rw [if_pos rfl, if_pos rfl, if_neg (by simpa using hw)]
    rfl
   ·rw [if_neg ho, if_neg ho, if_neg (by simp)]
    simp [joinT]
theorem foldS_eq (v : List UInt8) : foldS v = joinW (words (splitB 32 (smallS v))) := by
 unfold foldS
 rw [foldW_eq, if_pos rfl]
theorem words_sum : ∀ ws : List (List UInt8), wsum (words ws) ≤ wsum ws
 | [] => Nat.le_refl _
 | w :: ws => by
  have := words_sum ws
  by_cases hw : w = []
  ·have e : words (w :: ws) = words ws := by simp [words, hw]
   rw [e]
   simp only [wsum, List.map_cons, List.sum_cons] at this ⊢
   omega
  ·have e : words (w :: ws) = w :: words ws := by simp [words, hw]
   rw [e]
   simp only [wsum, List.map_cons, List.sum_cons] at this ⊢
   omega
theorem joinT_len : ∀ ws : List (List UInt8), (joinT ws).length = wsum ws
 | [] => rfl
 | w :: ws => by
  have := joinT_len ws
  simp only [joinT, wsum, List.flatMap_cons, List.map_cons, List.sum_cons, List.length_append, List.length_cons] at this ⊢
  omega
theorem foldS_len (v : List UInt8) : (foldS v).length ≤ v.length := by
 rw [foldS_eq]
 have h1 := words_sum (splitB 32 (smallS v))
 rw [wsum_split 32 _ _ rfl, smallS_len] at h1
 cases hws : words (splitB 32 (smallS v)) with
 | nil => simp [joinW]
 | cons w ws =>
  rw [hws] at h1
  simp only [joinW, List.length_append, joinT_len]
  simp only [wsum, List.map_cons, List.sum_cons] at h1 ⊢
  omega
theorem normN_ok {n : List (List Ava)} (h : okN n) : okN (normN n) := by
 refine ⟨by rw [normN_len]; exact h.1, fun r hr => ?_⟩
 obtain ⟨s, hs, rfl⟩ := List.mem_map.1 hr
 have hS := h.2 s hs
 refine ⟨by simpa [normR, srt_len] using hS.1, fun a ha => ?_⟩
 obtain ⟨y, hy, rfl⟩ := List.mem_map.1 (srt_mem.1 ha)
 have := hS.2 y hy
 exact ⟨by simpa [normA, smallS_len] using this.1, Nat.le_trans (foldS_len _) this.2⟩
theorem done_cells {v : V} {n : List (List Ava)} (h : ∀ S, isDn S v n) (h0 : n ≠ []) : ∃ cs, v = .slI n.length cs ∧ cs.length = n.length ∧ ∀ i, i < n.length → ∃ c, cs[i]? = some c ∧ ∀ S, isRdn S c (n.getD i []) := by
 have hpos : 0 < n.length := List.length_pos_iff.2 h0
 obtain ⟨cs, ⟨h1, h2⟩, _⟩ := h []
 rcases h2 with ⟨_, h3⟩ | h3 | ⟨id, off, cap, cs', e, _, _, h3, _⟩
 ·omega
 ·refine ⟨cs, h3, by omega, fun i hi => ?_⟩
  have hc : i < cs.length := by omega
  refine ⟨cs[i], List.getElem?_eq_getElem hc, fun S => ?_⟩
  obtain ⟨cs', ⟨g1, g2⟩, g3⟩ := h S
  rcases g2 with ⟨g4, _⟩ | g4 | ⟨_, _, _, _, _, g4, _⟩
  ·rw [h3] at g4; cases g4
  ·rw [h3] at g4
   injection g4 with _ g4
   subst g4
   obtain ⟨c, g5, g6⟩ := g3 i hi
   rw [List.getElem?_eq_getElem hc] at g5
   injection g5 with g5
   rw [g5]; exact g6
  ·rw [h3] at g4; cases g4
 ·simp at h3
end Go.Proofs.YtmmjlgocihhkcaaGreatDoor
