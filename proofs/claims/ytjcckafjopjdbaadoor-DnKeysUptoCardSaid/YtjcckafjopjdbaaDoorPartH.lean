import Derived.Test.YtjcckafjopjdbaaDoorPartE
import Derived.Test.YtjcckafjopjdbaaDoorPartG
set_option linter.all false
/- Merging sorted stretches: plain law. -/
namespace Go.Proofs.YtjcckafjopjdbaaDoor
open Go Go.Vm
set_option linter.unusedSimpArgs false
set_option linter.unusedVariables false
theorem lt_le_trans {x y z : Ava} (h : ltA x y = true) (g : ltA z y = false) : ltA x z = true := by
  unfold ltA at *
  cases hxz : lessB x.1 z.1 with
  | true => rfl
  | false =>
    have := le_trans' (x := y.1) (y := z.1) (z := x.1) g hxz
    rw [h] at this; cases this
theorem le_lt_trans {x y z : Ava} (h : ltA y x = false) (g : ltA y z = true) : ltA x z = true := by
  unfold ltA at *
  cases hxz : lessB x.1 z.1 with
  | true => rfl
  | false =>
    have := le_trans' (x := z.1) (y := x.1) (z := y.1) hxz h
    rw [g] at this; cases this
theorem le_le_trans {x y z : Ava} (h : ltA y x = false) (g : ltA z y = false) : ltA z x = false := le_trans' h g
theorem lt_irrefl' (x : Ava) : ltA x x = false := less_irrefl _
theorem lt_le {x y : Ava} (h : ltA x y = true) : ltA y x = false := less_asymm h
theorem steq_comm {X Y : List Ava} (h : ∀ x ∈ X, ∀ y ∈ Y, x.1 ≠ y.1) : StEq (X ++ Y) (Y ++ X) := by
  intro k
  rw [List.filter_append, List.filter_append]
  by_cases hx : X.filter (fun x => x.1 == k) = []
  · rw [hx]; simp
  · have hy : Y.filter (fun x => x.1 == k) = [] := by
      rw [List.filter_eq_nil_iff]
      intro y hy hk
      apply hx
      rw [List.filter_eq_nil_iff]
      intro x hx' hk'
      have h1 : x.1 = k := by simpa using hk'
      have h2 : y.1 = k := by simpa using hk
      exact h x hx' y hy (h1.trans h2.symm)
    rw [hy]; simp
theorem ne_of_lt {x y : Ava} (h : ltA x y = true) : x.1 ≠ y.1 := fun e => by
  unfold ltA at h
  rw [e, less_irrefl] at h; cases h
theorem sorted_app {X Y : List Ava} (hx : Sorted X) (hy : Sorted Y) (h : ∀ x ∈ X, ∀ y ∈ Y, ltA y x = false) : Sorted (X ++ Y) := List.pairwise_append.2 ⟨hx, hy, h⟩
theorem sorted_parts {X Y : List Ava} (h : Sorted (X ++ Y)) : Sorted X ∧ Sorted Y ∧ ∀ x ∈ X, ∀ y ∈ Y, ltA y x = false := List.pairwise_append.1 h
theorem sorted_get {Z : List Ava} (h : Sorted Z) {i j : Nat} (hij : i ≤ j) (hj : j < Z.length) : ltA (Z.getD j ([], [])) (Z.getD i ([], [])) = false := by
  rcases Nat.lt_or_ge i j with hlt | hge
  · have := List.pairwise_iff_getElem.1 h i j (by omega) hj hlt
    simpa [List.getD, hj, show i < Z.length by omega] using this
  · obtain rfl : i = j := by omega
    exact lt_irrefl' _
theorem merge_first {x : Ava} {V1 V2 : List Ava} (hs : Sorted (V1 ++ V2)) (h1 : ∀ v ∈ V1, ltA v x = true) (h2 : ∀ v ∈ V2, ltA v x = false) : V1 ++ x :: V2 = srt ([x] ++ (V1 ++ V2)) := by
  obtain ⟨s1, s2, s3⟩ := sorted_parts hs
  refine sorted_unique ?_ (srt_sorted _) ?_
  · refine sorted_app s1 (List.pairwise_cons.2 ⟨h2, s2⟩) fun v hv w hw => ?_
    rcases List.mem_cons.1 hw with rfl | hw
    · exact lt_le (h1 v hv)
    · exact s3 v hv w hw
  · refine StEq.trans ?_ (srt_steq _).symm
    have : StEq (V1 ++ [x]) ([x] ++ V1) := steq_comm fun v hv w hw => by
      rw [List.mem_singleton] at hw
      subst hw
      exact ne_of_lt (h1 v hv)
    have := this.append (StEq.refl V2)
    simpa using this
theorem merge_last {y : Ava} {U1 U2 : List Ava} (hs : Sorted (U1 ++ U2)) (h1 : ∀ u ∈ U1, ltA y u = false) (h2 : ∀ u ∈ U2, ltA y u = true) : U1 ++ y :: U2 = srt ((U1 ++ U2) ++ [y]) := by
  obtain ⟨s1, s2, s3⟩ := sorted_parts hs
  refine sorted_unique ?_ (srt_sorted _) ?_
  · refine sorted_app s1 (List.pairwise_cons.2 ⟨fun u hu => lt_le (h2 u hu), s2⟩) fun v hv w hw => ?_
    rcases List.mem_cons.1 hw with rfl | hw
    · exact h1 v hv
    · exact s3 v hv w hw
  · refine StEq.trans ?_ (srt_steq _).symm
    have : StEq ([y] ++ U2) (U2 ++ [y]) := steq_comm fun v hv w hw => by
      rw [List.mem_singleton] at hv
      subst hv
      exact ne_of_lt (h2 w hw)
    have := (StEq.refl U1).append this
    simpa using this
theorem merge_mid {U1 U2 V1 V2 : List Ava} (hU : Sorted (U1 ++ U2)) (hV : Sorted (V1 ++ V2)) (h1 : ∀ u ∈ U2, ∀ v ∈ V1, ltA v u = true) (h2 : ∀ u ∈ U1, ∀ v ∈ V2, ltA v u = false) :
    srt (U1 ++ V1) ++ srt (U2 ++ V2) = srt ((U1 ++ U2) ++ (V1 ++ V2)) := by
  obtain ⟨a1, a2, a3⟩ := sorted_parts hU
  obtain ⟨b1, b2, b3⟩ := sorted_parts hV
  refine sorted_unique ?_ (srt_sorted _) ?_
  · refine sorted_app (srt_sorted _) (srt_sorted _) fun x hx y hy => ?_
    rw [srt_mem, List.mem_append] at hx hy
    rcases hx with hx | hx <;> rcases hy with hy | hy
    · exact a3 x hx y hy
    · exact h2 x hx y hy
    · exact lt_le (h1 y hy x hx)
    · exact b3 x hx y hy
  · refine StEq.trans ((srt_steq _).append (srt_steq _)) (StEq.trans ?_ (srt_steq _).symm)
    have h : StEq (V1 ++ U2) (U2 ++ V1) := steq_comm fun v hv u hu => ne_of_lt (h1 u hu v hv)
    have := ((StEq.refl U1).append h).append (StEq.refl V2)
    simpa using this
theorem srt_srt (X Y : List Ava) : srt (srt X ++ srt Y) = srt (X ++ Y) :=
  sorted_unique (srt_sorted _) (srt_sorted _) ((srt_steq _).trans (((srt_steq X).append (srt_steq Y)).trans (srt_steq _).symm))
end Go.Proofs.YtjcckafjopjdbaaDoor
namespace Go.Proofs.YtjcckafjopjdbaaDoor
open Go Go.Vm
set_option maxRecDepth 100000
set_option maxHeartbeats 4000000
set_option linter.unusedSimpArgs false
set_option linter.unusedVariables false
theorem getD_at {α : Type} (d : α) {C A B : List α} {x : α} {i : Nat} (hC : C = A ++ x :: B) (hi : i = A.length) : C.getD i d = x := by subst hC hi; exact getD_mid d A x B
theorem set_at {α : Type} {C A B : List α} {x y : α} {i : Nat} (hC : C = A ++ x :: B) (hi : i = A.length) : C.set i y = A ++ y :: B := by subst hC hi; exact set_mid A x y B
theorem swap_mid {α : Type} (P Q R : List α) (x y : α) {C : List α} {i j : Nat} (hC : C = P ++ x :: (Q ++ y :: R)) (hi : i = P.length) (hj : j = P.length + 1 + Q.length) :
    (C.set i y).set j x = P ++ y :: (Q ++ x :: R) := by
  rw [set_at hC hi]
  rw [set_at (A := P ++ y :: Q) (B := R) (x := y) (by simp) (by simp; omega)]
  simp
theorem swap_mid' {α : Type} (P Q R : List α) (x y : α) {C : List α} {i j : Nat} (hC : C = P ++ x :: (Q ++ y :: R)) (hi : i = P.length) (hj : j = P.length + 1 + Q.length) :
    (C.set j x).set i y = P ++ y :: (Q ++ x :: R) := by
  rw [set_at (C := C) (A := P ++ x :: Q) (B := R) (x := y) (by rw [hC]; simp) (by simp; omega)]
  rw [set_at (A := P) (B := Q ++ x :: R) (x := x) (by simp) hi]
theorem set_id {T : Store} {id : Nat} {o : Ob} (h : T[id]? = some o) : T.set id o = T := List.ext_getElem? fun k => by
  by_cases hk : id = k
  · subst hk; rw [List.getElem?_set_self (lt_of_get h), h]
  · rw [List.getElem?_set_ne hk]
theorem wa (i j : Nat) (h : i + j ≤ 140737488355328) : IntKind.i64.wrap ((i : Int) + (j : Int)) = ((i + j : Nat) : Int) := wrap_addN i j h
theorem tb11 : Nat.testBit 2096911 13 = true := rfl
theorem tb12 : Nat.testBit 2096911 19 = true := rfl
theorem tb13 : Nat.testBit 8388607 13 = true := rfl
theorem tb14 : Nat.testBit 8388607 19 = true := rfl
theorem swapRange_ok {T : Store} {id : Nat} (A X M Y B : List Ava) {C : List Ava} (hC : C = A ++ (X ++ (M ++ (Y ++ B)))) (hT : T[id]? = some (.cells (fl C) 40)) (hN : C.length ≤ 1048576) (hXY : X.length = Y.length) (fv : V) (a b n : Nat) (ha : a = A.length) (hb : b = A.length + X.length + M.length) (hn : n = X.length) :
    vrun E0 (.fn 79) [.slR id 0 C.length C.length 2, .int .i64 (a : Nat), .int .i64 (b : Nat), .int .i64 (n : Nat), fv] T = some (.tup [], T.set id (.cells (fl (A ++ (Y ++ (M ++ (X ++ B))))) 40)) := by
  refine fn_ws Tryd.func79 rfl ?_
  have hid : id < T.length := lt_of_get hT
  have hCl : C.length = A.length + X.length + M.length + Y.length + B.length := by rw [hC]; simp; omega
  repeat (first | refine WS.seq ?_ | refine WS.skip ?_ | refine WS.label ?_ | refine WS.block ?_ | refine WS.inBlock ?_ | refine WS.exit rfl ?_ | refine WS.scope ?_ | refine WS.inScope ?_ | refine WS.region (by simp only [EV, TY, lget, ↓reduceIte, Nat.reduceEqDiff, decide_true, decide_false, eq_self]; with_reducible rfl) ?_)
  refine WS.loopB (fun j fr U => ∃ X1 X2 Y1 Y2, j = X2.length ∧ X = X1 ++ X2 ∧ Y = Y1 ++ Y2 ∧ X1.length = Y1.length ∧ lget fr 0 = .slR id 0 C.length C.length 2 ∧ lget fr 1 = .int .i64 (a : Nat) ∧ lget fr 2 = .int .i64 (b : Nat) ∧ lget fr 3 = .int .i64 (n : Nat) ∧ lget fr 10 = .int .i64 (X1.length : Nat) ∧ U = T.set id (.cells (fl (A ++ (Y1 ++ (X2 ++ (M ++ (X1 ++ (Y2 ++ B))))))) 40))
    (fun fr U => U = T.set id (.cells (fl (A ++ (Y ++ (M ++ (X ++ B))))) 40)) (j := X.length) ?_ ?_ ?_
  · refine ⟨[], X, [], Y, rfl, rfl, rfl, rfl, ?_, ?_, ?_, ?_, ?_, ?_⟩
    · simp only [EV, lget, ↓reduceIte, Nat.reduceEqDiff, decide_true, decide_false, eq_self, and_true, true_and, and_self]
    · simp only [EV, lget, ↓reduceIte, Nat.reduceEqDiff, decide_true, decide_false, eq_self, and_true, true_and, and_self]
    · simp only [EV, lget, ↓reduceIte, Nat.reduceEqDiff, decide_true, decide_false, eq_self, and_true, true_and, and_self]
    · simp only [EV, lget, ↓reduceIte, Nat.reduceEqDiff, decide_true, decide_false, eq_self, and_true, true_and, and_self]
    · simp only [EV, lget, ↓reduceIte, Nat.reduceEqDiff, decide_true, decide_false, eq_self, and_true, true_and, and_self]
      rfl
    · simp only [List.nil_append]
      rw [← hC, set_id hT]
  · rintro fr U rfl
    exact ends0 rfl rfl
  · rintro j fr U ⟨X1, X2, Y1, Y2, rfl, rfl, rfl, hl, h0, h1, h2, h3, h10, rfl⟩ ih last
    simp only [List.length_append] at hXY hCl hb hn
    cases X2 with
    | nil =>
      have hlt : ¬ ((X1.length : Nat) : Int) < ((n : Nat) : Int) := by simp at hn; omega
      obtain rfl : Y2 = [] := List.length_eq_zero_iff.1 (by simp at hXY; omega)
      repeat (first | refine WS.seq ?_ | refine WS.skip ?_ | refine WS.label ?_ | refine WS.block ?_ | refine WS.inBlock ?_ | refine WS.exit rfl ?_ | refine WS.scope ?_ | refine WS.inScope ?_ | refine WS.region (by simp only [EV, TY, h3, h10, hlt, ↓reduceIte, Nat.reduceEqDiff, decide_true, decide_false, eq_self]; with_reducible rfl) ?_)
      refine WS.cond_false (by simp only [EV, ↓reduceIte, Nat.reduceEqDiff, decide_true, decide_false, eq_self]) ?_
      refine WS.exit rfl ?_
      exact last _ _ (by simp)
    | cons x X2 =>
      cases Y2 with
      | nil => simp at hXY; omega
      | cons y Y2 =>
        simp only [List.length_cons] at hXY hCl hb hn
        have hlt : ((X1.length : Nat) : Int) < ((n : Nat) : Int) := by omega
        generalize hD : A ++ (Y1 ++ (x :: X2 ++ (M ++ (X1 ++ (y :: Y2 ++ B))))) = D
        have hDe : D = (A ++ Y1) ++ x :: ((X2 ++ (M ++ X1)) ++ y :: (Y2 ++ B)) := by rw [← hD]; simp
        have hDl : D.length = C.length := by rw [hDe, hCl]; simp; omega
        have hU : (T.set id (.cells (fl D) 40))[id]? = some (.cells (fl D) 40) := by simp [hid]
        have hi : a + X1.length = (A ++ Y1).length := by simp; omega
        have hj : b + X1.length = (A ++ Y1).length + 1 + (X2 ++ (M ++ X1)).length := by simp; omega
        have w1 := wa a X1.length (by omega)
        have w2 := wa b X1.length (by omega)
        have ld1 := cell_ld hU (a + X1.length) (by omega)
        have ld2 := cell_ld hU (b + X1.length) (by omega)
        rw [getD_at _ hDe hi] at ld1
        rw [getD_at (A := (A ++ Y1) ++ x :: (X2 ++ (M ++ X1))) (B := Y2 ++ B) (x := y) _ (by rw [hDe]; simp) (by rw [hj]; simp; omega)] at ld2
        have ia1 := cell_ia id C.length (a + X1.length) (by omega)
        have ia2 := cell_ia id C.length (b + X1.length) (by omega)
        have st1 := cell_st hU (a + X1.length) (by omega) y
        rw [List.set_set] at st1
        have hU1 : (T.set id (.cells (fl (D.set (a + X1.length) y)) 40))[id]? = some (.cells (fl (D.set (a + X1.length) y)) 40) := by simp [hid]
        have st2 := cell_st hU1 (b + X1.length) (by rw [List.length_set]; omega) x
        rw [List.set_set, swap_mid _ _ _ _ _ hDe hi hj] at st2
        have iinc := wrap_inc X1.length (by omega)
        repeat (first | refine WS.seq ?_ | refine WS.skip ?_ | refine WS.label ?_ | refine WS.block ?_ | refine WS.inBlock ?_ | refine WS.exit rfl ?_ | refine WS.scope ?_ | refine WS.inScope ?_ | refine WS.region (by simp only [EV, TY, h3, h10, hlt, ↓reduceIte, Nat.reduceEqDiff, decide_true, decide_false, eq_self]; with_reducible rfl) ?_)
        refine WS.cond_true (by simp only [EV, ↓reduceIte, Nat.reduceEqDiff, decide_true, decide_false, eq_self]) ?_
        repeat (first | refine WS.seq ?_ | refine WS.skip ?_ | refine WS.label ?_ | refine WS.block ?_ | refine WS.inBlock ?_ | refine WS.exit rfl ?_ | refine WS.scope ?_ | refine WS.inScope ?_)
        refine WS.drawb (b := [0, 0, 0, 6, 0, 0, 0, 96, 0, 0, 0, 1536, 3840, 7936, 0, 0, 0, 98304, 245760, 507904, 1048335, 2096911, 4194303, 8388607]) (by kernel_rfl) (by simp only [evDraw_nil, evDraw_plain, evDraw_guard, isEff, isRead, List.all_nil, List.all_cons, Bool.or_true, Bool.true_or, Bool.and_self, Bool.and_true, V.beq_refl, List.getD_cons_zero, List.getD_cons_succ, Nat.reduceAdd, EV, TY,  h0, h1, h2, h10, w1, w2, ia1, ia2, ld1, ld2, st1, st2, tb11, tb12, tb13, tb14, ↓reduceIte, Nat.reduceEqDiff, decide_true, decide_false, eq_self]; with_reducible rfl) ?_
        repeat (first | refine WS.seq ?_ | refine WS.skip ?_ | refine WS.label ?_ | refine WS.block ?_ | refine WS.inBlock ?_ | refine WS.exit rfl ?_ | refine WS.scope ?_ | refine WS.inScope ?_ | refine WS.region (by simp only [EV, TY, h10, iinc, ↓reduceIte, Nat.reduceEqDiff, decide_true, decide_false, eq_self]; with_reducible rfl) ?_)
        refine ih X2.length _ _ (by simp) ⟨X1 ++ [x], X2, Y1 ++ [y], Y2, rfl, by simp, by simp, by simp [hl], ?_, ?_, ?_, ?_, ?_, by simp⟩
        · simp only [EV, h0, ↓reduceIte, Nat.reduceEqDiff, decide_true, decide_false, eq_self, and_true, true_and, and_self]
        · simp only [EV, h1, ↓reduceIte, Nat.reduceEqDiff, decide_true, decide_false, eq_self, and_true, true_and, and_self]
        · simp only [EV, h2, ↓reduceIte, Nat.reduceEqDiff, decide_true, decide_false, eq_self, and_true, true_and, and_self]
        · simp only [EV, h3, ↓reduceIte, Nat.reduceEqDiff, decide_true, decide_false, eq_self, and_true, true_and, and_self]
        · simp only [EV, ↓reduceIte, Nat.reduceEqDiff, decide_true, decide_false, eq_self, and_true, true_and, and_self]
          simp
end Go.Proofs.YtjcckafjopjdbaaDoor
namespace Go.Proofs.YtjcckafjopjdbaaDoor
open Go Go.Vm
set_option maxRecDepth 100000
set_option maxHeartbeats 4000000
set_option linter.unusedSimpArgs false
set_option linter.unusedVariables false
theorem ws_ (i j : Nat) (h : j ≤ i) (h2 : i ≤ 140737488355328) : IntKind.i64.wrap ((i : Int) - (j : Int)) = ((i - j : Nat) : Int) := wrap_subN i j h h2
theorem rotate_ok {T : Store} {id : Nat} (A U Z B : List Ava) {C : List Ava} (hC : C = A ++ (U ++ (Z ++ B))) (hT : T[id]? = some (.cells (fl C) 40)) (hN : C.length ≤ 1048576) (hU0 : U ≠ []) (hV0 : Z ≠ []) (fv : V) (a m b : Nat) (ha : a = A.length) (hm : m = A.length + U.length) (hb : b = A.length + U.length + Z.length) :
    vrun E0 (.fn 73) [.slR id 0 C.length C.length 2, .int .i64 (a : Nat), .int .i64 (m : Nat), .int .i64 (b : Nat), fv] T = some (.tup [], T.set id (.cells (fl (A ++ (Z ++ (U ++ B)))) 40)) := by
  refine fn_ws Tryd.func73 rfl ?_
  have hid : id < T.length := lt_of_get hT
  have hCl : C.length = A.length + U.length + Z.length + B.length := by rw [hC]; simp; omega
  have w1 := ws_ m a (by omega) (by omega)
  have w2 := ws_ b m (by omega) (by omega)
  repeat (first | refine WS.seq ?_ | refine WS.skip ?_ | refine WS.label ?_ | refine WS.block ?_ | refine WS.inBlock ?_ | refine WS.exit rfl ?_ | refine WS.scope ?_ | refine WS.inScope ?_ | refine WS.region (by simp only [EV, TY, lget, w1, w2, ↓reduceIte, Nat.reduceEqDiff, decide_true, decide_false, eq_self]; with_reducible rfl) ?_)
  refine WS.loopB (fun j fr S' => ∃ P U' Z' Q, j = U'.length + Z'.length ∧ U' ≠ [] ∧ Z' ≠ [] ∧ A.length + P.length + U'.length = m ∧ P ++ (Z' ++ (U' ++ Q)) = Z ++ U ∧ lget fr 0 = .slR id 0 C.length C.length 2 ∧ lget fr 2 = .int .i64 (m : Nat) ∧ lget fr 4 = fv ∧ lget fr 10 = .int .i64 (U'.length : Nat) ∧ lget fr 11 = .int .i64 (Z'.length : Nat) ∧ S' = T.set id (.cells (fl (A ++ (P ++ (U' ++ (Z' ++ (Q ++ B)))))) 40))
    (fun fr S' => ∃ P U' Z' Q, U'.length = Z'.length ∧ A.length + P.length + U'.length = m ∧ P ++ (Z' ++ (U' ++ Q)) = Z ++ U ∧ lget fr 0 = .slR id 0 C.length C.length 2 ∧ lget fr 2 = .int .i64 (m : Nat) ∧ lget fr 4 = fv ∧ lget fr 10 = .int .i64 (U'.length : Nat) ∧ lget fr 11 = .int .i64 (Z'.length : Nat) ∧ S' = T.set id (.cells (fl (A ++ (P ++ (U' ++ (Z' ++ (Q ++ B)))))) 40)) (j := U.length + Z.length) ?_ ?_ ?_
  · refine ⟨[], U, Z, [], rfl, hU0, hV0, by simp; omega, by simp, ?_, ?_, ?_, ?_, ?_, ?_⟩
    · simp only [EV, lget, ↓reduceIte, Nat.reduceEqDiff, decide_true, decide_false, eq_self, and_true, true_and, and_self]
    · simp only [EV, lget, ↓reduceIte, Nat.reduceEqDiff, decide_true, decide_false, eq_self, and_true, true_and, and_self]
    · simp only [EV, lget, ↓reduceIte, Nat.reduceEqDiff, decide_true, decide_false, eq_self, and_true, true_and, and_self]
    · simp only [EV, lget, ↓reduceIte, Nat.reduceEqDiff, decide_true, decide_false, eq_self, and_true, true_and, and_self]
      rw [show m - a = U.length by omega]
    · simp only [EV, lget, ↓reduceIte, Nat.reduceEqDiff, decide_true, decide_false, eq_self, and_true, true_and, and_self]
      rw [show b - m = Z.length by omega]
    · simp only [List.nil_append]
      rw [← hC, set_id hT]
  · rintro fr S' ⟨P, U', Z', Q, hl, hmm, hpq, h0, h2, h4, h10, h11, rfl⟩
    have hlen := congrArg List.length hpq
    simp only [List.length_append] at hlen
    have k1 := ws_ m U'.length (by omega) (by omega)
    have hD : A ++ (P ++ (U' ++ (Z' ++ (Q ++ B)))) = (A ++ P) ++ (U' ++ ([] ++ (Z' ++ (Q ++ B)))) := by simp
    have hDl : (A ++ (P ++ (U' ++ (Z' ++ (Q ++ B))))).length = C.length := by simp; omega
    have hS := swapRange_ok (T := T.set id (.cells (fl (A ++ (P ++ (U' ++ (Z' ++ (Q ++ B)))))) 40)) (id := id) (A ++ P) U' [] Z' (Q ++ B) hD (by simp [hid]) (by rw [hDl]; exact hN) hl fv (m - U'.length) m U'.length (by simp; omega) (by simp; omega) rfl
    rw [hDl, List.set_set] at hS
    have hfin : (A ++ P) ++ (Z' ++ ([] ++ (U' ++ (Q ++ B)))) = A ++ (Z ++ (U ++ B)) := by
      rw [← List.append_assoc Z U B, ← hpq]; simp
    rw [hfin] at hS
    repeat (first | refine WS.seq ?_ | refine WS.skip ?_ | refine WS.label ?_ | refine WS.block ?_ | refine WS.inBlock ?_ | refine WS.exit rfl ?_ | refine WS.scope ?_ | refine WS.inScope ?_ | refine WS.region (by simp only [EV, TY, h0, h2, h4, h10, h11, k1, callV_79, hS, ↓reduceIte, Nat.reduceEqDiff, decide_true, decide_false, eq_self]; with_reducible rfl) ?_)
    exact ends0 rfl rfl
  · rintro j fr S' ⟨P, U', Z', Q, rfl, u0, v0, hmm, hpq, h0, h2, h4, h10, h11, rfl⟩ ih last
    have hlen := congrArg List.length hpq
    simp only [List.length_append] at hlen
    have pu : 0 < U'.length := List.length_pos_iff.2 u0
    have pv : 0 < Z'.length := List.length_pos_iff.2 v0
    have hDl : (A ++ (P ++ (U' ++ (Z' ++ (Q ++ B))))).length = C.length := by simp; omega
    have k1 := ws_ m U'.length (by omega) (by omega)
    by_cases he : U'.length = Z'.length
    · have he' : (((U'.length : Nat) : Int) != ((Z'.length : Nat) : Int)) = false := by simp [he]
      repeat (first | refine WS.seq ?_ | refine WS.skip ?_ | refine WS.label ?_ | refine WS.block ?_ | refine WS.inBlock ?_ | refine WS.exit rfl ?_ | refine WS.scope ?_ | refine WS.inScope ?_ | refine WS.region (by simp only [EV, TY, h10, h11, he', ↓reduceIte, Nat.reduceEqDiff, decide_true, decide_false, eq_self]; with_reducible rfl) ?_)
      refine WS.cond_false (by simp only [EV, ↓reduceIte, Nat.reduceEqDiff, decide_true, decide_false, eq_self]) ?_
      refine WS.exit rfl ?_
      refine last _ _ ⟨P, U', Z', Q, he, hmm, hpq, ?_, ?_, ?_, ?_, ?_, rfl⟩
      · simp only [EV, h0, ↓reduceIte, Nat.reduceEqDiff, decide_true, decide_false, eq_self, and_true, true_and, and_self]
      · simp only [EV, h2, ↓reduceIte, Nat.reduceEqDiff, decide_true, decide_false, eq_self, and_true, true_and, and_self]
      · simp only [EV, h4, ↓reduceIte, Nat.reduceEqDiff, decide_true, decide_false, eq_self, and_true, true_and, and_self]
      · simp only [EV, h10, ↓reduceIte, Nat.reduceEqDiff, decide_true, decide_false, eq_self, and_true, true_and, and_self]
      · simp only [EV, h11, ↓reduceIte, Nat.reduceEqDiff, decide_true, decide_false, eq_self, and_true, true_and, and_self]
    · have he' : (((U'.length : Nat) : Int) != ((Z'.length : Nat) : Int)) = true := bne_iff_ne.2 (by omega)
      by_cases hgt : Z'.length < U'.length
      · have hgt' : ((Z'.length : Nat) : Int) < ((U'.length : Nat) : Int) := by omega
        obtain ⟨U1, U2, rfl, hu1⟩ : ∃ U1 U2, U' = U1 ++ U2 ∧ U1.length = Z'.length := ⟨U'.take Z'.length, U'.drop Z'.length, (List.take_append_drop _ _).symm, by simp; omega⟩
        simp only [List.length_append] at hgt pu hmm hlen k1
        have hD : A ++ (P ++ (U1 ++ U2 ++ (Z' ++ (Q ++ B)))) = (A ++ P) ++ (U1 ++ (U2 ++ (Z' ++ (Q ++ B)))) := by simp
        have hS := swapRange_ok (T := T.set id (.cells (fl (A ++ (P ++ (U1 ++ U2 ++ (Z' ++ (Q ++ B)))))) 40)) (id := id) (A ++ P) U1 U2 Z' (Q ++ B) hD (by simp [hid]) (by rw [hDl]; exact hN) hu1 fv (m - (U1 ++ U2).length) m Z'.length (by simp; omega) (by simp; omega) hu1.symm
        rw [hDl, List.set_set] at hS
        have k2 := ws_ (U1 ++ U2).length Z'.length (by simp; omega) (by simp; omega)
        have k1' : IntKind.i64.wrap ((m : Int) - (((U1 ++ U2).length : Nat) : Int)) = ((m - (U1 ++ U2).length : Nat) : Int) := ws_ m (U1 ++ U2).length (by simp; omega) (by omega)
        repeat (first | refine WS.seq ?_ | refine WS.skip ?_ | refine WS.label ?_ | refine WS.block ?_ | refine WS.inBlock ?_ | refine WS.exit rfl ?_ | refine WS.scope ?_ | refine WS.inScope ?_ | refine WS.region (by simp only [EV, TY, h10, h11, he', hgt', ↓reduceIte, Nat.reduceEqDiff, decide_true, decide_false, eq_self]; with_reducible rfl) ?_)
        refine WS.cond_true (by simp only [EV, ↓reduceIte, Nat.reduceEqDiff, decide_true, decide_false, eq_self]) ?_
        repeat (first | refine WS.seq ?_ | refine WS.skip ?_ | refine WS.label ?_ | refine WS.block ?_ | refine WS.inBlock ?_ | refine WS.exit rfl ?_ | refine WS.scope ?_ | refine WS.inScope ?_ | refine WS.region (by simp only [EV, TY, h10, h11, he', hgt', ↓reduceIte, Nat.reduceEqDiff, decide_true, decide_false, eq_self]; with_reducible rfl) ?_)
        refine WS.cond_true (by simp only [EV, ↓reduceIte, Nat.reduceEqDiff, decide_true, decide_false, eq_self]) ?_
        repeat (first | refine WS.seq ?_ | refine WS.skip ?_ | refine WS.label ?_ | refine WS.block ?_ | refine WS.inBlock ?_ | refine WS.exit rfl ?_ | refine WS.scope ?_ | refine WS.inScope ?_ | refine WS.region (by simp only [EV, TY, h0, h2, h4, h10, h11, k1', callV_79, hS, k2, ↓reduceIte, Nat.reduceEqDiff, decide_true, decide_false, eq_self]; with_reducible rfl) ?_)
        refine ih (U2.length + U1.length) _ _ (by simp; omega) ⟨P ++ Z', U2, U1, Q, rfl, ?_, ?_, by simp; omega, by rw [← hpq]; simp, ?_, ?_, ?_, ?_, ?_, by simp⟩
        · intro h; subst h; simp at hgt; omega
        · intro h; subst h; simp at hu1; omega
        · simp only [EV, h0, ↓reduceIte, Nat.reduceEqDiff, decide_true, decide_false, eq_self, and_true, true_and, and_self]
        · simp only [EV, h2, ↓reduceIte, Nat.reduceEqDiff, decide_true, decide_false, eq_self, and_true, true_and, and_self]
        · simp only [EV, h4, ↓reduceIte, Nat.reduceEqDiff, decide_true, decide_false, eq_self, and_true, true_and, and_self]
        · simp only [EV, ↓reduceIte, Nat.reduceEqDiff, decide_true, decide_false, eq_self, and_true, true_and, and_self]
          rw [show (U1 ++ U2).length - Z'.length = U2.length by simp; omega]
        · simp only [EV, h11, ↓reduceIte, Nat.reduceEqDiff, decide_true, decide_false, eq_self, and_true, true_and, and_self]
          rw [hu1]
      · have hgt' : ¬ ((Z'.length : Nat) : Int) < ((U'.length : Nat) : Int) := by omega
        obtain ⟨Z1, Z2, rfl, hv2⟩ : ∃ Z1 Z2, Z' = Z1 ++ Z2 ∧ Z2.length = U'.length := ⟨Z'.take (Z'.length - U'.length), Z'.drop (Z'.length - U'.length), (List.take_append_drop _ _).symm, by simp; omega⟩
        simp only [List.length_append] at hgt pv hlen he
        have hD : A ++ (P ++ (U' ++ (Z1 ++ Z2 ++ (Q ++ B)))) = (A ++ P) ++ (U' ++ (Z1 ++ (Z2 ++ (Q ++ B)))) := by simp
        have hS := swapRange_ok (T := T.set id (.cells (fl (A ++ (P ++ (U' ++ (Z1 ++ Z2 ++ (Q ++ B)))))) 40)) (id := id) (A ++ P) U' Z1 Z2 (Q ++ B) hD (by simp [hid]) (by rw [hDl]; exact hN) hv2.symm fv (m - U'.length) (m + (Z1 ++ Z2).length - U'.length) U'.length (by simp; omega) (by simp; omega) rfl
        rw [hDl, List.set_set] at hS
        have k2 := wa m (Z1 ++ Z2).length (by simp; omega)
        have k3 := ws_ (m + (Z1 ++ Z2).length) U'.length (by omega) (by simp; omega)
        have k4 := ws_ (Z1 ++ Z2).length U'.length (by simp; omega) (by simp; omega)
        repeat (first | refine WS.seq ?_ | refine WS.skip ?_ | refine WS.label ?_ | refine WS.block ?_ | refine WS.inBlock ?_ | refine WS.exit rfl ?_ | refine WS.scope ?_ | refine WS.inScope ?_ | refine WS.region (by simp only [EV, TY, h10, h11, he', hgt', ↓reduceIte, Nat.reduceEqDiff, decide_true, decide_false, eq_self]; with_reducible rfl) ?_)
        refine WS.cond_true (by simp only [EV, ↓reduceIte, Nat.reduceEqDiff, decide_true, decide_false, eq_self]) ?_
        repeat (first | refine WS.seq ?_ | refine WS.skip ?_ | refine WS.label ?_ | refine WS.block ?_ | refine WS.inBlock ?_ | refine WS.exit rfl ?_ | refine WS.scope ?_ | refine WS.inScope ?_ | refine WS.region (by simp only [EV, TY, h10, h11, he', hgt', ↓reduceIte, Nat.reduceEqDiff, decide_true, decide_false, eq_self]; with_reducible rfl) ?_)
        refine WS.cond_false (by simp only [EV, ↓reduceIte, Nat.reduceEqDiff, decide_true, decide_false, eq_self]) ?_
        repeat (first | refine WS.seq ?_ | refine WS.skip ?_ | refine WS.label ?_ | refine WS.block ?_ | refine WS.inBlock ?_ | refine WS.exit rfl ?_ | refine WS.scope ?_ | refine WS.inScope ?_ | refine WS.region (by simp only [EV, TY, h0, h2, h4, h10, h11, k1, k2, k3, callV_79, hS, k4, ↓reduceIte, Nat.reduceEqDiff, decide_true, decide_false, eq_self]; with_reducible rfl) ?_)
        refine ih (Z2.length + Z1.length) _ _ (by simp; omega) ⟨P, Z2, Z1, U' ++ Q, rfl, ?_, ?_, by omega, by rw [← hpq]; simp, ?_, ?_, ?_, ?_, ?_, by simp⟩
        · intro h; subst h; simp at hv2; omega
        · intro h; subst h; simp at he hgt; omega
        · simp only [EV, h0, ↓reduceIte, Nat.reduceEqDiff, decide_true, decide_false, eq_self, and_true, true_and, and_self]
        · simp only [EV, h2, ↓reduceIte, Nat.reduceEqDiff, decide_true, decide_false, eq_self, and_true, true_and, and_self]
        · simp only [EV, h4, ↓reduceIte, Nat.reduceEqDiff, decide_true, decide_false, eq_self, and_true, true_and, and_self]
        · simp only [EV, h10, ↓reduceIte, Nat.reduceEqDiff, decide_true, decide_false, eq_self, and_true, true_and, and_self]
          rw [hv2]
        · simp only [EV, ↓reduceIte, Nat.reduceEqDiff, decide_true, decide_false, eq_self, and_true, true_and, and_self]
          rw [show (Z1 ++ Z2).length - U'.length = Z1.length by simp; omega]
end Go.Proofs.YtjcckafjopjdbaaDoor
namespace Go.Proofs.YtjcckafjopjdbaaDoor
open Go Go.Vm
set_option maxRecDepth 100000
set_option maxHeartbeats 4000000
set_option linter.unusedSimpArgs false
set_option linter.unusedVariables false
theorem wrap_u64 {n : Int} (h0 : 0 ≤ n) (h : n < 18446744073709551616) : IntKind.u64.wrap n = n := by
  simp [IntKind.wrap, IntKind.bits, IntKind.signed]
  omega
theorem mid1 (q : Nat) (hq : q ≤ 140737488355328) (S : Store) : opConvert E0 S 3 79 (.int .i64 (q : Nat)) = some (.int .u64 (q : Nat), S) := by
  rw [conv_int (E := E0) 3 .u64 Tryd.underlying3 Tryd.underlying79, wrap_u64 (by omega) (by omega)]
theorem mid2 (q : Nat) (l : Bool) : opBin E0 l .shr 79 (.int .u64 (q : Nat)) (.int .u64 1) = some (.int .u64 ((q / 2 : Nat) : Int)) := by
  rw [bin_shr _ _ _ _ _ (by omega)]
  simp [IntKind.bits]
  rw [Int.fdiv_eq_ediv_of_nonneg _ (by omega)]
theorem mid3 (q : Nat) (hq : q ≤ 140737488355328) (S : Store) : opConvert E0 S 79 3 (.int .u64 (q : Nat)) = some (.int .i64 (q : Nat), S) := by
  rw [conv_int (E := E0) 79 .i64 Tryd.underlying79 Tryd.underlying3, wrap_i64 (by omega) (by omega)]
theorem ret0 {E : Env} {k : List Todo} {fr : Fr} {S S' : Store} {f : FuncId} {fn : Func} (hr : fn.results.toList = []) (hk : E.keep f = true) : WS E (.code .ret :: k) fr S' (FnEnds E f fn S (.tup [], S')) :=
  WS.ret ⟨.inr rfl, [], by rw [hr]; rfl, by rw [hk]; rfl⟩
theorem getD_app {α : Type} (d : α) (A B : List α) (k : Nat) : (A ++ B).getD (A.length + k) d = B.getD k d := by
  simp [List.getD, List.getElem?_append_right]
theorem getD_app' {α : Type} (d : α) (A B : List α) (k : Nat) (h : k < A.length) : (A ++ B).getD k d = A.getD k d := by
  simp [List.getD, List.getElem?_append_left h]
theorem sym1_ok {T : Store} {id : Nat} (A : List Ava) (x : Ava) (Z B : List Ava) {C : List Ava} (hC : C = A ++ ([x] ++ (Z ++ B))) (hT : T[id]? = some (.cells (fl C) 40)) (hN : C.length ≤ 1048576) (hs : Sorted Z) {fv : V} (hcmp : CmpOk fv) (a m b : Nat) (ha : a = A.length) (hm : m = A.length + 1) (hb : b = A.length + 1 + Z.length) :
    vrun E0 (.fn 64) [.slR id 0 C.length C.length 2, .int .i64 (a : Nat), .int .i64 (m : Nat), .int .i64 (b : Nat), fv] T = some (.tup [], T.set id (.cells (fl (A ++ (srt ([x] ++ Z) ++ B))) 40)) := by
  refine fn_ws Tryd.func64 rfl ?_
  have hid : id < T.length := lt_of_get hT
  have hCl : C.length = A.length + 1 + Z.length + B.length := by rw [hC]; simp; omega
  have w1 := ws_ m a (by omega) (by omega)
  have e1 : (((m - a : Nat) : Int) == 1) = true := by simp; omega
  have hx : C.getD a ([], []) = x := getD_at _ (A := A) (B := Z ++ B) (by rw [hC]; simp) ha
  have hz : ∀ k, k < Z.length → C.getD (m + k) ([], []) = Z.getD k ([], []) := fun k hk => by
    have e : C = (A ++ [x]) ++ (Z ++ B) := by rw [hC]; simp
    rw [e, hm, show A.length + 1 + k = (A ++ [x]).length + k by simp, getD_app, getD_app' _ _ _ _ hk]
  repeat (first | refine WS.seq ?_ | refine WS.skip ?_ | refine WS.label ?_ | refine WS.block ?_ | refine WS.inBlock ?_ | refine WS.exit rfl ?_ | refine WS.scope ?_ | refine WS.inScope ?_ | refine WS.region (by simp only [EV, TY, lget, w1, e1, ↓reduceIte, Nat.reduceEqDiff, decide_true, decide_false, eq_self]; with_reducible rfl) ?_)
  refine WS.cond_true (by simp only [EV, lget, ↓reduceIte, Nat.reduceEqDiff, decide_true, decide_false, eq_self]) ?_
  repeat (first | refine WS.seq ?_ | refine WS.skip ?_ | refine WS.label ?_ | refine WS.block ?_ | refine WS.inBlock ?_ | refine WS.exit rfl ?_ | refine WS.scope ?_ | refine WS.inScope ?_ | refine WS.region (by simp only [EV, TY, lget, ↓reduceIte, Nat.reduceEqDiff, decide_true, decide_false, eq_self]; with_reducible rfl) ?_)
  refine WS.loopB (fun j fr S' => ∃ i j', j = j' - i ∧ m ≤ i ∧ i ≤ j' ∧ j' ≤ b ∧ lget fr 0 = .slR id 0 C.length C.length 2 ∧ lget fr 1 = .int .i64 (a : Nat) ∧ lget fr 4 = fv ∧ lget fr 10 = .int .i64 (i : Nat) ∧ lget fr 11 = .int .i64 (j' : Nat) ∧ T = S' ∧ (∀ k, m ≤ k → k < i → ltA (C.getD k ([], [])) x = true) ∧ ∀ k, j' ≤ k → k < b → ltA (C.getD k ([], [])) x = false)
    (fun fr S' => ∃ i, m ≤ i ∧ i ≤ b ∧ lget fr 0 = .slR id 0 C.length C.length 2 ∧ lget fr 1 = .int .i64 (a : Nat) ∧ lget fr 10 = .int .i64 (i : Nat) ∧ T = S' ∧ (∀ k, m ≤ k → k < i → ltA (C.getD k ([], [])) x = true) ∧ ∀ k, i ≤ k → k < b → ltA (C.getD k ([], [])) x = false) (j := b - m) ?_ ?_ ?_
  · refine ⟨m, b, rfl, Nat.le_refl _, by omega, Nat.le_refl _, ?_, ?_, ?_, ?_, ?_, rfl, fun k h1 h2 => by omega, fun k h1 h2 => by omega⟩
    all_goals
      simp only [EV, lget, ↓reduceIte, Nat.reduceEqDiff, decide_true, decide_false, eq_self, and_true, true_and, and_self]
  · rintro fr S' ⟨i, hmi, hib, h0, h1, h10, rfl, hlo, hhi⟩
    have hV1 : ∀ v ∈ Z.take (i - m), ltA v x = true := fun v hv => by
      obtain ⟨q, hq, rfl⟩ := List.getElem_of_mem hv
      simp only [List.length_take] at hq
      have := hlo (m + q) (by omega) (by omega)
      rw [hz q (by omega)] at this
      simpa [List.getD, show q < Z.length by omega] using this
    have hV2 : ∀ v ∈ Z.drop (i - m), ltA v x = false := fun v hv => by
      obtain ⟨q, hq, rfl⟩ := List.getElem_of_mem hv
      simp only [List.length_drop] at hq
      have := hhi (m + (i - m + q)) (by omega) (by omega)
      rw [hz _ (by omega)] at this
      simpa [List.getD, show i - m + q < Z.length by omega] using this
    have hfin := merge_first (x := x) (V1 := Z.take (i - m)) (V2 := Z.drop (i - m)) (by rw [List.take_append_drop]; exact hs) hV1 hV2
    rw [List.take_append_drop] at hfin
    have hZe : Z = Z.take (i - m) ++ Z.drop (i - m) := (List.take_append_drop _ _).symm
    have hV1l : (Z.take (i - m)).length = i - m := by simp; omega
    generalize Z.take (i - m) = V1 at hfin hZe hV1l
    generalize Z.drop (i - m) = V2 at hfin hZe
    rw [← hfin]
    have i1 := wrap_sub1 i (by omega) (by omega)
    repeat (first | refine WS.seq ?_ | refine WS.skip ?_ | refine WS.label ?_ | refine WS.block ?_ | refine WS.inBlock ?_ | refine WS.exit rfl ?_ | refine WS.scope ?_ | refine WS.inScope ?_ | refine WS.region (by simp only [EV, TY, h1, ↓reduceIte, Nat.reduceEqDiff, decide_true, decide_false, eq_self]; with_reducible rfl) ?_)
    refine WS.loopB (fun j fr S' => ∃ P Q, j = Q.length ∧ V1 = P ++ Q ∧ lget fr 0 = .slR id 0 C.length C.length 2 ∧ lget fr 10 = .int .i64 (i : Nat) ∧ lget fr 13 = .int .i64 ((a + P.length : Nat) : Int) ∧ S' = T.set id (.cells (fl (A ++ (P ++ (x :: (Q ++ (V2 ++ B)))))) 40))
      (fun fr S' => S' = T.set id (.cells (fl (A ++ (V1 ++ x :: V2 ++ B))) 40)) (j := V1.length) ?_ ?_ ?_
    · refine ⟨[], V1, rfl, rfl, ?_, ?_, ?_, ?_⟩
      · simp only [EV, h0, ↓reduceIte, Nat.reduceEqDiff, decide_true, decide_false, eq_self, and_true, true_and, and_self]
      · simp only [EV, h10, ↓reduceIte, Nat.reduceEqDiff, decide_true, decide_false, eq_self, and_true, true_and, and_self]
      · simp only [EV, ↓reduceIte, Nat.reduceEqDiff, decide_true, decide_false, eq_self, and_true, true_and, and_self]
        rfl
      · have : A ++ ([] ++ (x :: (V1 ++ (V2 ++ B)))) = C := by rw [hC, hZe]; simp
        rw [this, set_id hT]
    · rintro fr S' rfl
      repeat (first | refine WS.seq ?_ | refine WS.skip ?_ | refine WS.label ?_ | refine WS.block ?_ | refine WS.inBlock ?_ | refine WS.exit rfl ?_ | refine WS.scope ?_ | refine WS.inScope ?_ | refine WS.region (by simp only [EV, TY, ↓reduceIte, Nat.reduceEqDiff, decide_true, decide_false, eq_self]; with_reducible rfl) ?_)
      exact ret0 rfl rfl
    · rintro j fr S' ⟨P, Q, rfl, rfl, h0, h10, h13, rfl⟩ ih last
      simp only [List.length_append] at hV1l
      cases Q with
      | nil =>
        have hlt : ¬ ((a + P.length : Nat) : Int) < ((i - 1 : Nat) : Int) := by simp at hV1l; omega
        repeat (first | refine WS.seq ?_ | refine WS.skip ?_ | refine WS.label ?_ | refine WS.block ?_ | refine WS.inBlock ?_ | refine WS.exit rfl ?_ | refine WS.scope ?_ | refine WS.inScope ?_ | refine WS.region (by simp only [EV, TY, h10, h13, i1, hlt, ↓reduceIte, Nat.reduceEqDiff, decide_true, decide_false, eq_self]; with_reducible rfl) ?_)
        refine WS.cond_false (by simp only [EV, ↓reduceIte, Nat.reduceEqDiff, decide_true, decide_false, eq_self]) ?_
        refine WS.exit rfl ?_
        exact last _ _ (by simp)
      | cons v Q =>
        simp only [List.length_cons] at hV1l
        have hlt : ((a + P.length : Nat) : Int) < ((i - 1 : Nat) : Int) := by omega
        generalize hD : A ++ (P ++ (x :: (v :: Q ++ (V2 ++ B)))) = D
        have hDe : D = (A ++ P) ++ x :: ([] ++ v :: (Q ++ (V2 ++ B))) := by rw [← hD]; simp
        have hDl : D.length = C.length := by
          rw [← hD, hCl, hZe]
          simp; omega
        have hU : (T.set id (.cells (fl D) 40))[id]? = some (.cells (fl D) 40) := by simp [hid]
        have hi : a + P.length = (A ++ P).length := by simp; omega
        have hj : a + P.length + 1 = (A ++ P).length + 1 + ([] : List Ava).length := by simp; omega
        have k1 := wrap_inc (a + P.length) (by omega)
        have ld1 := cell_ld hU (a + P.length) (by simp at hi; omega)
        have ld2 := cell_ld hU (a + P.length + 1) (by simp at hi; omega)
        rw [getD_at _ hDe hi] at ld1
        rw [getD_at (A := (A ++ P) ++ [x]) (B := Q ++ (V2 ++ B)) (x := v) _ (by rw [hDe]; simp) (by simp; omega)] at ld2
        have ia1 := cell_ia id C.length (a + P.length) (by simp at hi; omega)
        have ia2 := cell_ia id C.length (a + P.length + 1) (by simp at hi; omega)
        have st1 := cell_st hU (a + P.length) (by simp at hi; omega) v
        rw [List.set_set] at st1
        have hU1 : (T.set id (.cells (fl (D.set (a + P.length) v)) 40))[id]? = some (.cells (fl (D.set (a + P.length) v)) 40) := by simp [hid]
        have st2 := cell_st hU1 (a + P.length + 1) (by rw [List.length_set]; simp at hi; omega) x
        rw [List.set_set, swap_mid _ _ _ _ _ hDe hi hj] at st2
        repeat (first | refine WS.seq ?_ | refine WS.skip ?_ | refine WS.label ?_ | refine WS.block ?_ | refine WS.inBlock ?_ | refine WS.exit rfl ?_ | refine WS.scope ?_ | refine WS.inScope ?_ | refine WS.region (by simp only [EV, TY, h10, h13, i1, hlt, ↓reduceIte, Nat.reduceEqDiff, decide_true, decide_false, eq_self]; with_reducible rfl) ?_)
        refine WS.cond_true (by simp only [EV, ↓reduceIte, Nat.reduceEqDiff, decide_true, decide_false, eq_self]) ?_
        repeat (first | refine WS.seq ?_ | refine WS.skip ?_ | refine WS.label ?_ | refine WS.block ?_ | refine WS.inBlock ?_ | refine WS.exit rfl ?_ | refine WS.scope ?_ | refine WS.inScope ?_)
        refine WS.drawb (b := [0, 0, 0, 0, 8, 0, 0, 64, 224, 480, 0, 0, 3072, 7168, 16355, 32739, 65535, 131071]) (by kernel_rfl) (by simp only [evDraw_nil, evDraw_plain, isEff, isRead, List.all_nil, List.all_cons, Bool.or_true, Bool.true_or, Bool.and_self, Bool.and_true, V.beq_refl, List.getD_cons_zero, List.getD_cons_succ, Nat.reduceAdd, EV, TY,  h0, h13, k1, ia1, ia2, ld1, ld2, st1, st2, tb3, tb4, tb5, tb6, ↓reduceIte, Nat.reduceEqDiff, decide_true, decide_false, eq_self]; with_reducible rfl) ?_
        repeat (first | refine WS.seq ?_ | refine WS.skip ?_ | refine WS.label ?_ | refine WS.block ?_ | refine WS.inBlock ?_ | refine WS.exit rfl ?_ | refine WS.scope ?_ | refine WS.inScope ?_ | refine WS.region (by simp only [EV, TY, h13, k1, ↓reduceIte, Nat.reduceEqDiff, decide_true, decide_false, eq_self]; with_reducible rfl) ?_)
        refine ih Q.length _ _ (by simp) ⟨P ++ [v], Q, rfl, by simp, ?_, ?_, ?_, by simp⟩
        · simp only [EV, h0, ↓reduceIte, Nat.reduceEqDiff, decide_true, decide_false, eq_self, and_true, true_and, and_self]
        · simp only [EV, h10, ↓reduceIte, Nat.reduceEqDiff, decide_true, decide_false, eq_self, and_true, true_and, and_self]
        · simp only [EV, ↓reduceIte, Nat.reduceEqDiff, decide_true, decide_false, eq_self, and_true, true_and, and_self]
          simp
          omega
  · rintro j fr S' ⟨i, j', rfl, hmi, hij, hjb, h0, h1, h4, h10, h11, rfl, hlo, hhi⟩ ih last
    by_cases hlt : i < j'
    · have hlt' : ((i : Nat) : Int) < ((j' : Nat) : Int) := by omega
      have k1 := wa i j' (by omega)
      have k2 := mid1 (i + j') (by omega) T
      have k3 := fun l => mid2 (i + j') l
      have k4 := mid3 ((i + j') / 2) (by omega) T
      generalize hh : (i + j') / 2 = h at k3 k4
      have hhi' : i ≤ h ∧ h < j' := by omega
      have ia1 := cell_ia id C.length h (by omega)
      have ia2 := cell_ia id C.length a (by omega)
      have ld1 := cell_ld hT h (by omega)
      have ld2 := cell_ld hT a (by omega)
      rw [hx] at ld2
      have hc := hcmp T (C.getD h ([], [])) x
      have hmono : ∀ k, m ≤ k → k ≤ h → ltA (C.getD h ([], [])) (C.getD k ([], [])) = false := fun k h1 h2 => by
        rw [show h = m + (h - m) by omega, show k = m + (k - m) by omega, hz _ (by omega), hz _ (by omega)]
        exact sorted_get hs (by omega) (by omega)
      have hmono2 : ∀ k, h ≤ k → k < b → ltA (C.getD k ([], [])) (C.getD h ([], [])) = false := fun k h1 h2 => by
        rw [show h = m + (h - m) by omega, show k = m + (k - m) by omega, hz _ (by omega), hz _ (by omega)]
        exact sorted_get hs (by omega) (by omega)
      generalize C.getD h ([], []) = y at ld1 hc hmono hmono2
      have hinc := wrap_inc h (by omega)
      repeat (first | refine WS.seq ?_ | refine WS.skip ?_ | refine WS.label ?_ | refine WS.block ?_ | refine WS.inBlock ?_ | refine WS.exit rfl ?_ | refine WS.scope ?_ | refine WS.inScope ?_ | refine WS.region (by simp only [EV, TY, h10, h11, hlt', ↓reduceIte, Nat.reduceEqDiff, decide_true, decide_false, eq_self]; with_reducible rfl) ?_)
      refine WS.cond_true (by simp only [EV, ↓reduceIte, Nat.reduceEqDiff, decide_true, decide_false, eq_self]) ?_
      repeat (first | refine WS.seq ?_ | refine WS.skip ?_ | refine WS.label ?_ | refine WS.block ?_ | refine WS.inBlock ?_ | refine WS.exit rfl ?_ | refine WS.scope ?_ | refine WS.inScope ?_ | refine WS.region (by simp only [EV, TY, h10, h11, k1, k2, k3, k4, ↓reduceIte, Nat.reduceEqDiff, decide_true, decide_false, eq_self]; with_reducible rfl) ?_)
      by_cases hp : ltA y x = true
      · have hneg : cmpZ y.1 x.1 < 0 := (cmpZ_neg _ _).2 hp
        refine WS.drawb (b := [0, 0, 0, 6, 14, 0, 0, 96, 224, 511, 1023]) (by kernel_rfl) (by simp only [evDraw_nil, evDraw_plain, isEff, isRead, List.all_nil, List.all_cons, Bool.or_true, Bool.true_or, Bool.and_self, Bool.and_true, V.beq_refl, List.getD_cons_zero, List.getD_cons_succ, Nat.reduceAdd, EV, TY,  h0, h1, h4, ia1, ia2, ld1, ld2, hc, hneg, ↓reduceIte, Nat.reduceEqDiff, decide_true, decide_false, eq_self]; with_reducible rfl) ?_
        refine WS.cond_true (by simp only [EV, ↓reduceIte, Nat.reduceEqDiff, decide_true, decide_false, eq_self]) ?_
        repeat (first | refine WS.seq ?_ | refine WS.skip ?_ | refine WS.label ?_ | refine WS.block ?_ | refine WS.inBlock ?_ | refine WS.exit rfl ?_ | refine WS.scope ?_ | refine WS.inScope ?_ | refine WS.region (by simp only [EV, TY, hinc, ↓reduceIte, Nat.reduceEqDiff, decide_true, decide_false, eq_self]; with_reducible rfl) ?_)
        refine ih (j' - (h + 1)) _ _ (by omega) ⟨h + 1, j', rfl, by omega, by omega, hjb, ?_, ?_, ?_, ?_, ?_, rfl, fun k g1 g2 => ?_, hhi⟩
        · simp only [EV, h0, ↓reduceIte, Nat.reduceEqDiff, decide_true, decide_false, eq_self, and_true, true_and, and_self]
        · simp only [EV, h1, ↓reduceIte, Nat.reduceEqDiff, decide_true, decide_false, eq_self, and_true, true_and, and_self]
        · simp only [EV, h4, ↓reduceIte, Nat.reduceEqDiff, decide_true, decide_false, eq_self, and_true, true_and, and_self]
        · simp only [EV, ↓reduceIte, Nat.reduceEqDiff, decide_true, decide_false, eq_self, and_true, true_and, and_self]
        · simp only [EV, h11, ↓reduceIte, Nat.reduceEqDiff, decide_true, decide_false, eq_self, and_true, true_and, and_self]
        · exact le_lt_trans (hmono k g1 (by omega)) hp
      · have hp : ltA y x = false := by simpa using hp
        have hneg : ¬ cmpZ y.1 x.1 < 0 := fun g => by
          have := (cmpZ_neg _ _).1 g
          unfold ltA at hp
          rw [hp] at this; cases this
        refine WS.drawb (b := [0, 0, 0, 6, 14, 0, 0, 96, 224, 511, 1023]) (by kernel_rfl) (by simp only [evDraw_nil, evDraw_plain, isEff, isRead, List.all_nil, List.all_cons, Bool.or_true, Bool.true_or, Bool.and_self, Bool.and_true, V.beq_refl, List.getD_cons_zero, List.getD_cons_succ, Nat.reduceAdd, EV, TY,  h0, h1, h4, ia1, ia2, ld1, ld2, hc, hneg, ↓reduceIte, Nat.reduceEqDiff, decide_true, decide_false, eq_self]; with_reducible rfl) ?_
        refine WS.cond_false (by simp only [EV, ↓reduceIte, Nat.reduceEqDiff, decide_true, decide_false, eq_self]) ?_
        repeat (first | refine WS.seq ?_ | refine WS.skip ?_ | refine WS.label ?_ | refine WS.block ?_ | refine WS.inBlock ?_ | refine WS.exit rfl ?_ | refine WS.scope ?_ | refine WS.inScope ?_ | refine WS.region (by simp only [EV, TY, ↓reduceIte, Nat.reduceEqDiff, decide_true, decide_false, eq_self]; with_reducible rfl) ?_)
        refine ih (h - i) _ _ (by omega) ⟨i, h, rfl, hmi, by omega, by omega, ?_, ?_, ?_, ?_, ?_, rfl, hlo, fun k g1 g2 => ?_⟩
        · simp only [EV, h0, ↓reduceIte, Nat.reduceEqDiff, decide_true, decide_false, eq_self, and_true, true_and, and_self]
        · simp only [EV, h1, ↓reduceIte, Nat.reduceEqDiff, decide_true, decide_false, eq_self, and_true, true_and, and_self]
        · simp only [EV, h4, ↓reduceIte, Nat.reduceEqDiff, decide_true, decide_false, eq_self, and_true, true_and, and_self]
        · simp only [EV, h10, ↓reduceIte, Nat.reduceEqDiff, decide_true, decide_false, eq_self, and_true, true_and, and_self]
        · simp only [EV, ↓reduceIte, Nat.reduceEqDiff, decide_true, decide_false, eq_self, and_true, true_and, and_self]
        · exact le_le_trans hp (hmono2 k g1 g2)
    · have hlt' : ¬ ((i : Nat) : Int) < ((j' : Nat) : Int) := by omega
      repeat (first | refine WS.seq ?_ | refine WS.skip ?_ | refine WS.label ?_ | refine WS.block ?_ | refine WS.inBlock ?_ | refine WS.exit rfl ?_ | refine WS.scope ?_ | refine WS.inScope ?_ | refine WS.region (by simp only [EV, TY, h10, h11, hlt', ↓reduceIte, Nat.reduceEqDiff, decide_true, decide_false, eq_self]; with_reducible rfl) ?_)
      refine WS.cond_false (by simp only [EV, ↓reduceIte, Nat.reduceEqDiff, decide_true, decide_false, eq_self]) ?_
      refine WS.exit rfl ?_
      have : i = j' := by omega
      subst this
      refine last _ _ ⟨i, hmi, hjb, ?_, ?_, ?_, rfl, hlo, hhi⟩
      · simp only [EV, h0, ↓reduceIte, Nat.reduceEqDiff, decide_true, decide_false, eq_self, and_true, true_and, and_self]
      · simp only [EV, h1, ↓reduceIte, Nat.reduceEqDiff, decide_true, decide_false, eq_self, and_true, true_and, and_self]
      · simp only [EV, h10, ↓reduceIte, Nat.reduceEqDiff, decide_true, decide_false, eq_self, and_true, true_and, and_self]
end Go.Proofs.YtjcckafjopjdbaaDoor
