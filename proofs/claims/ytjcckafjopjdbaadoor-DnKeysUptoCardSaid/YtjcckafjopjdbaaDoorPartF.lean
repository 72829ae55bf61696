import Derived.Test.YtjcckafjopjdbaaDoorPartE
set_option linter.all false
namespace Go.Proofs.YtjcckafjopjdbaaDoor
open Go Go.Vm
set_option maxRecDepth 100000
set_option maxHeartbeats 4000000
set_option linter.unusedSimpArgs false
set_option linter.unusedVariables false
/-! ### a slice of avas that is being sorted -/
abbrev fl (l : List Ava) : List V := l.flatMap avaC
theorem fl_set : ∀ (l : List Ava) (i : Nat) (a : Ava), i < l.length → splice (fl l) (i * 2) [.str a.1, .str a.2] = fl (l.set i a)
  | [], i, a, h => by simp at h
  | b :: l, 0, a, h => by simp [fl, avaC, splice]
  | b :: l, i + 1, a, h => by
    have ih := fl_set l i a (by simpa using h)
    have e : (i + 1) * 2 = i * 2 + 2 := by omega
    rw [e]
    simp only [fl, avaC, List.flatMap_cons, List.set_cons_succ, List.cons_append, List.nil_append, splice, List.set_cons_succ] at ih ⊢
    rw [ih]
theorem cell_ld {T : Store} {id : Nat} {l : List Ava} (hT : T[id]? = some (.cells (fl l) 40)) (i : Nat) (hi : i < l.length) : opLoad E0 T 40 (.ref id (0 + i * 2)) = some (avaV (l.getD i ([], []))) := by
  have h := flat_drop l i hi
  have at_ : At T (.ref id (0 + i * 2)) (.str (l.getD i ([], [])).1 :: .str (l.getD i ([], [])).2 :: (l.flatMap avaC).drop (i * 2 + 2)) := .inr ⟨id, 0 + i * 2, _, 40, rfl, hT, by rw [Nat.zero_add]; exact h⟩
  exact ava_load at_
theorem cell_st {T : Store} {id : Nat} {l : List Ava} (hT : T[id]? = some (.cells (fl l) 40)) (i : Nat) (hi : i < l.length) (a : Ava) : opStore E0 T 40 (.ref id (0 + i * 2)) (avaV a) = some (T.set id (.cells (fl (l.set i a)) 40)) := by
  have hl : (fl l).length = l.length * 2 := flat_len l
  have h := fl_set l i a hi
  generalize fl (l.set i a) = ds at h
  generalize fl l = cs at hT hl h
  unfold opStore avaV
  simp [tsize_40, vcells, solid, putAt, cellsOf, Vm.elemOf, hT, hl]
  rw [h]
  exact ⟨by omega, rfl⟩
theorem cell_ia (id n i : Nat) (h : i < n) : opIndexAddr E0 37 (.slR id 0 n n 2) (.int .i64 (i : Nat)) = some (.ref id (0 + i * 2)) := ia_slR_37 _ _ _ _ _ _ h
def CmpOk (fv : V) : Prop := ∀ (T : Store) (a b : Ava), callV E0 (vrun E0) fv [avaV a, avaV b] T = some (.int .i64 (cmpZ a.1 b.1), T)
theorem callV_36 (c : CallT) (a b args : List V) (S : Store) : callV E0 c (.fn (.func 36) a b) args S = c (.fn 36) (a ++ args ++ b) S := by kernel_rfl
theorem cmp36 : CmpOk (.fn (.func 36) [] []) := fun T a b => by
  rw [callV_36]
  exact Norm1_ok a b T
theorem getD_mid {α : Type} (d : α) (A : List α) (x : α) (B : List α) : (A ++ x :: B).getD A.length d = x := by simp [List.getD]
theorem set_mid {α : Type} (A : List α) (x y : α) (B : List α) : (A ++ x :: B).set A.length y = A ++ y :: B := by simp
/-- A stretch, sorted. -/
def isort (l : List Ava) (a b : Nat) : List Ava := l.take a ++ srt ((l.take b).drop a) ++ l.drop b
theorem isort_len (l : List Ava) (a b : Nat) (h : a ≤ b) (hb : b ≤ l.length) : (isort l a b).length = l.length := by
  simp [isort, srt_len]; omega
theorem isort_one (l : List Ava) (a : Nat) (ha : a < l.length) : isort l a (a + 1) = l := by
  have e : (l.take (a + 1)).drop a = [l.getD a ([], [])] := by
    rw [List.drop_take, show a + 1 - a = 1 by omega, drop_getD ([], []) l a ha]
    rfl
  unfold isort
  rw [e]
  show l.take a ++ [l.getD a ([], [])] ++ l.drop (a + 1) = l
  rw [List.append_assoc, List.singleton_append, ← drop_getD ([], []) l a ha, List.take_append_drop]
theorem isort_nil (l : List Ava) (a : Nat) : isort l a a = l := by
  have e : (l.take a).drop a = [] := List.drop_eq_nil_iff.2 (by simp; omega)
  unfold isort
  rw [e]
  show l.take a ++ [] ++ l.drop a = l
  simp
theorem isort_step (l : List Ava) (a i : Nat) (h : a ≤ i) (hi : i < l.length) : isort l a (i + 1) = l.take a ++ insA (l.getD i ([], [])) (srt ((l.take i).drop a)) ++ l.drop (i + 1) := by
  have e : (l.take (i + 1)).drop a = (l.take i).drop a ++ [l.getD i ([], [])] := by
    rw [List.drop_take, List.drop_take, show i + 1 - a = (i - a) + 1 by omega, List.take_succ_eq_append_getElem (by simp; omega)]
    congr 2
    simp [List.getD, hi, show a + (i - a) = i by omega]
  unfold isort
  rw [e, srt_snoc]
theorem ends0 {E : Env} {fr : Fr} {S S' : Store} {f : FuncId} {fn : Func} (hr : fn.results.toList = []) (hk : E.keep f = true) : WS E [] fr S' (FnEnds E f fn S (.tup [], S')) :=
  WS.done ⟨.inl rfl, [], by rw [hr]; rfl, by rw [hk]; rfl⟩
theorem tb3 : Nat.testBit 32739 9 = true := rfl
theorem tb4 : Nat.testBit 32739 13 = true := rfl
theorem tb5 : Nat.testBit 131071 9 = true := rfl
theorem tb6 : Nat.testBit 131071 13 = true := rfl
theorem insSort_ok {T : Store} {id : Nat} {l : List Ava} (hT : T[id]? = some (.cells (fl l) 40)) (hl : l.length ≤ 1048576) {fv : V} (hcmp : CmpOk fv) (a b : Nat) (hab : a ≤ b) (hb : b ≤ l.length) :
    vrun E0 (.fn 63) [.slR id 0 l.length l.length 2, .int .i64 (a : Nat), .int .i64 (b : Nat), fv] T = some (.tup [], T.set id (.cells (fl (isort l a b)) 40)) := by
  refine fn_ws Tryd.func63 rfl ?_
  have hid : id < T.length := lt_of_get hT
  have ainc := wrap_inc a (by omega)
  repeat (first | refine WS.seq ?_ | refine WS.skip ?_ | refine WS.label ?_ | refine WS.block ?_ | refine WS.inBlock ?_ | refine WS.exit rfl ?_ | refine WS.scope ?_ | refine WS.inScope ?_ | refine WS.region (by simp only [EV, TY, lget, ainc, ↓reduceIte, Nat.reduceEqDiff, decide_true, decide_false, eq_self]; with_reducible rfl) ?_)
  by_cases hlt0 : a < b
  · refine WS.loopB (fun j fr U => ∃ i, j = b - i ∧ a < i ∧ i ≤ b ∧ lget fr 0 = .slR id 0 l.length l.length 2 ∧ lget fr 1 = .int .i64 (a : Nat) ∧ lget fr 2 = .int .i64 (b : Nat) ∧ lget fr 3 = fv ∧ lget fr 8 = .int .i64 (i : Nat) ∧ U = T.set id (.cells (fl (isort l a i)) 40))
      (fun fr U => U = T.set id (.cells (fl (isort l a b)) 40)) (j := b - (a + 1)) ?_ ?_ ?_
    · refine ⟨a + 1, rfl, by omega, by omega, ?_, ?_, ?_, ?_, ?_, ?_⟩
      · simp only [EV, lget, ↓reduceIte, Nat.reduceEqDiff, decide_true, decide_false, eq_self, and_true, true_and, and_self]
      · simp only [EV, lget, ↓reduceIte, Nat.reduceEqDiff, decide_true, decide_false, eq_self, and_true, true_and, and_self]
      · simp only [EV, lget, ↓reduceIte, Nat.reduceEqDiff, decide_true, decide_false, eq_self, and_true, true_and, and_self]
      · simp only [EV, lget, ↓reduceIte, Nat.reduceEqDiff, decide_true, decide_false, eq_self, and_true, true_and, and_self]
      · simp only [EV, lget, ↓reduceIte, Nat.reduceEqDiff, decide_true, decide_false, eq_self, and_true, true_and, and_self]
      · rw [isort_one l a (by omega)]
        exact (List.ext_getElem? fun k => by
          by_cases hk : id = k
          · subst hk; rw [List.getElem?_set_self hid, hT]
          · rw [List.getElem?_set_ne hk])
    · rintro fr U rfl
      exact ends0 rfl rfl
    · rintro j fr U ⟨i, rfl, hai, hib, h0, h1, h2, h3, h8, rfl⟩ ih last
      by_cases hlt : i < b
      · have hlt' : ((i : Nat) : Int) < ((b : Nat) : Int) := by omega
        have iinc := wrap_inc i (by omega)
        have hstep := isort_step l a i (by omega) (by omega)
        have hcur : isort l a i = (l.take a ++ srt ((l.take i).drop a)) ++ l.getD i ([], []) :: l.drop (i + 1) := by
          unfold isort
          rw [← drop_getD ([], []) l i (by omega)]
        have hpl : (srt ((l.take i).drop a)).length = i - a := by rw [srt_len]; simp; omega
        have hps := srt_sorted ((l.take i).drop a)
        generalize srt ((l.take i).drop a) = p at hstep hcur hpl hps
        generalize l.getD i ([], []) = x at hstep hcur
        generalize hpre : l.take a = pre at hstep hcur
        generalize hpost : l.drop (i + 1) = post at hstep hcur
        have hprel : pre.length = a := by rw [← hpre]; simp; omega
        have hpostl : post.length = l.length - (i + 1) := by rw [← hpost]; simp
        repeat (first | refine WS.seq ?_ | refine WS.skip ?_ | refine WS.label ?_ | refine WS.block ?_ | refine WS.inBlock ?_ | refine WS.exit rfl ?_ | refine WS.scope ?_ | refine WS.inScope ?_ | refine WS.region (by simp only [EV, TY, h2, h8, hlt', ↓reduceIte, Nat.reduceEqDiff, decide_true, decide_false, eq_self]; with_reducible rfl) ?_)
        refine WS.cond_true (by simp only [EV, ↓reduceIte, Nat.reduceEqDiff, decide_true, decide_false, eq_self]) ?_
        repeat (first | refine WS.seq ?_ | refine WS.skip ?_ | refine WS.label ?_ | refine WS.block ?_ | refine WS.inBlock ?_ | refine WS.exit rfl ?_ | refine WS.scope ?_ | refine WS.inScope ?_ | refine WS.region (by simp only [EV, TY, h8, ↓reduceIte, Nat.reduceEqDiff, decide_true, decide_false, eq_self]; with_reducible rfl) ?_)
        refine WS.loopB (fun j fr U => ∃ p1 p2, j = p1.length ∧ p1 ++ p2 = p ∧ (∀ y ∈ p2, ltA x y = true) ∧ lget fr 0 = .slR id 0 l.length l.length 2 ∧ lget fr 1 = .int .i64 (a : Nat) ∧ lget fr 2 = .int .i64 (b : Nat) ∧ lget fr 3 = fv ∧ lget fr 8 = .int .i64 (i : Nat) ∧ lget fr 9 = .int .i64 ((a + p1.length : Nat) : Int) ∧ U = T.set id (.cells (fl ((pre ++ p1) ++ x :: (p2 ++ post))) 40))
          (fun fr U => lget fr 0 = .slR id 0 l.length l.length 2 ∧ lget fr 1 = .int .i64 (a : Nat) ∧ lget fr 2 = .int .i64 (b : Nat) ∧ lget fr 3 = fv ∧ lget fr 8 = .int .i64 (i : Nat) ∧ U = T.set id (.cells (fl (pre ++ insA x p ++ post)) 40)) (j := p.length) ?_ ?_ ?_
        · refine ⟨p, [], rfl, by simp, by simp, ?_, ?_, ?_, ?_, ?_, ?_, ?_⟩
          · simp only [EV, h0, ↓reduceIte, Nat.reduceEqDiff, decide_true, decide_false, eq_self, and_true, true_and, and_self]
          · simp only [EV, h1, ↓reduceIte, Nat.reduceEqDiff, decide_true, decide_false, eq_self, and_true, true_and, and_self]
          · simp only [EV, h2, ↓reduceIte, Nat.reduceEqDiff, decide_true, decide_false, eq_self, and_true, true_and, and_self]
          · simp only [EV, h3, ↓reduceIte, Nat.reduceEqDiff, decide_true, decide_false, eq_self, and_true, true_and, and_self]
          · simp only [EV, h8, ↓reduceIte, Nat.reduceEqDiff, decide_true, decide_false, eq_self, and_true, true_and, and_self]
          · simp only [EV, h8, ↓reduceIte, Nat.reduceEqDiff, decide_true, decide_false, eq_self, and_true, true_and, and_self]
            rw [hpl, show a + (i - a) = i by omega]
          · rw [hcur]; simp
        · rintro fr U ⟨h0, h1, h2, h3, h8, rfl⟩
          repeat (first | refine WS.seq ?_ | refine WS.skip ?_ | refine WS.label ?_ | refine WS.block ?_ | refine WS.inBlock ?_ | refine WS.exit rfl ?_ | refine WS.scope ?_ | refine WS.inScope ?_ | refine WS.region (by simp only [EV, TY, h8, iinc, ↓reduceIte, Nat.reduceEqDiff, decide_true, decide_false, eq_self]; with_reducible rfl) ?_)
          refine ih (b - (i + 1)) _ _ (by omega) ⟨i + 1, rfl, by omega, by omega, ?_, ?_, ?_, ?_, ?_, by rw [hstep]⟩
          · simp only [EV, h0, ↓reduceIte, Nat.reduceEqDiff, decide_true, decide_false, eq_self, and_true, true_and, and_self]
          · simp only [EV, h1, ↓reduceIte, Nat.reduceEqDiff, decide_true, decide_false, eq_self, and_true, true_and, and_self]
          · simp only [EV, h2, ↓reduceIte, Nat.reduceEqDiff, decide_true, decide_false, eq_self, and_true, true_and, and_self]
          · simp only [EV, h3, ↓reduceIte, Nat.reduceEqDiff, decide_true, decide_false, eq_self, and_true, true_and, and_self]
          · simp only [EV, ↓reduceIte, Nat.reduceEqDiff, decide_true, decide_false, eq_self, and_true, true_and, and_self]
        · rintro j fr U ⟨p1, p2, rfl, hpp, hgt, h0, h1, h2, h3, h8, h9, rfl⟩ ihp lastp
          have hppl : p1.length + p2.length = i - a := by rw [← hpl, ← hpp]; simp
          cases hq : p1.getLast? with
          | none =>
            obtain rfl : p1 = [] := List.getLast?_eq_none_iff.1 hq
            have hng : ¬ ((a : Nat) : Int) < ((a + ([] : List Ava).length : Nat) : Int) := by simp
            repeat (first | refine WS.seq ?_ | refine WS.skip ?_ | refine WS.label ?_ | refine WS.block ?_ | refine WS.inBlock ?_ | refine WS.exit rfl ?_ | refine WS.scope ?_ | refine WS.inScope ?_)
            refine WS.drawb (b := [0, 0, 3, 7, 15, 15, 15, 111, 239, 15, 15, 1039, 3599, 7695, 16383, 32767, 65535]) (by kernel_rfl) (by simp only [evDraw_nil, evDraw_plain, evDraw_guard, isEff, isRead, List.all_nil, List.all_cons, Bool.or_true, Bool.true_or, Bool.and_self, Bool.and_true, V.beq_refl, List.getD_cons_zero, List.getD_cons_succ, Nat.reduceAdd, EV, TY,  h1, h9, hng, ↓reduceIte, Nat.reduceEqDiff, decide_true, decide_false, eq_self]; with_reducible rfl) ?_
            refine WS.cond_false (by simp only [EV, hng, ↓reduceIte, Nat.reduceEqDiff, decide_true, decide_false, eq_self]) ?_
            refine WS.exit rfl ?_
            refine lastp _ _ ⟨?_, ?_, ?_, ?_, ?_, ?_⟩
            · simp only [EV, h0, ↓reduceIte, Nat.reduceEqDiff, decide_true, decide_false, eq_self, and_true, true_and, and_self]
            · simp only [EV, h1, ↓reduceIte, Nat.reduceEqDiff, decide_true, decide_false, eq_self, and_true, true_and, and_self]
            · simp only [EV, h2, ↓reduceIte, Nat.reduceEqDiff, decide_true, decide_false, eq_self, and_true, true_and, and_self]
            · simp only [EV, h3, ↓reduceIte, Nat.reduceEqDiff, decide_true, decide_false, eq_self, and_true, true_and, and_self]
            · simp only [EV, h8, ↓reduceIte, Nat.reduceEqDiff, decide_true, decide_false, eq_self, and_true, true_and, and_self]
            · have := ins_split x [] p2 (by rw [hpp]; exact hps) hgt (by simp)
              rw [hpp] at this
              rw [this]; simp
          | some y =>
            obtain ⟨q, rfl⟩ : ∃ q, p1 = q ++ [y] := by
              obtain ⟨hne, hy⟩ := List.getLast?_eq_some_iff.1 hq
              exact ⟨hne, hy⟩
            have hJ : a + (q ++ [y]).length = (pre ++ q).length + 1 := by simp [hprel]; omega
            have hCe : pre ++ (q ++ [y]) ++ x :: (p2 ++ post) = (pre ++ q) ++ y :: x :: (p2 ++ post) := by simp
            have hn : ((pre ++ q) ++ y :: x :: (p2 ++ post)).length = l.length := by
              simp at hppl ⊢
              omega
            have gy : ((pre ++ q) ++ y :: x :: (p2 ++ post)).getD ((pre ++ q).length + 1 - 1) ([], []) = y := by
              rw [Nat.add_sub_cancel]; exact getD_mid _ _ _ _
            have gx : ((pre ++ q) ++ y :: x :: (p2 ++ post)).getD ((pre ++ q).length + 1) ([], []) = x := by
              rw [show (pre ++ q) ++ y :: x :: (p2 ++ post) = ((pre ++ q) ++ [y]) ++ x :: (p2 ++ post) by simp, show (pre ++ q).length + 1 = ((pre ++ q) ++ [y]).length by simp; omega]
              exact getD_mid _ _ _ _
            have gs : (((pre ++ q) ++ y :: x :: (p2 ++ post)).set ((pre ++ q).length + 1) y).set ((pre ++ q).length + 1 - 1) x = (pre ++ q) ++ x :: (y :: p2 ++ post) := by
              rw [show (pre ++ q) ++ y :: x :: (p2 ++ post) = ((pre ++ q) ++ [y]) ++ x :: (p2 ++ post) by simp, show (pre ++ q).length + 1 = ((pre ++ q) ++ [y]).length by simp; omega, set_mid, List.length_append, List.length_singleton, Nat.add_sub_cancel, List.append_assoc, List.singleton_append, set_mid]
              rfl
            have hJl : (pre ++ q).length + 1 < l.length := by rw [← hn]; simp; omega
            have hgtt : ((a : Nat) : Int) < (((pre ++ q).length + 1 : Nat) : Int) := by simp [hprel]; omega
            rw [hJ] at h9
            rw [hCe]
            generalize hC : (pre ++ q) ++ y :: x :: (p2 ++ post) = C at hn gx gy gs
            generalize hK : (pre ++ q).length = K at h9 gx gy gs hJl hgtt
            have hU : (T.set id (.cells (fl C) 40))[id]? = some (.cells (fl C) 40) := by simp [hid]
            have ld1 := cell_ld hU (K + 1) (by omega)
            have ld2 := cell_ld hU (K + 1 - 1) (by omega)
            rw [gx] at ld1
            rw [gy] at ld2
            have ia1 := cell_ia id l.length (K + 1) hJl
            have ia2 := cell_ia id l.length (K + 1 - 1) (by omega)
            have jdec : IntKind.i64.wrap (((K + 1 : Nat) : Int) - 1) = ((K + 1 - 1 : Nat) : Int) := wrap_sub1 (K + 1) (by omega) (by omega)
            have hc := hcmp (T.set id (.cells (fl C) 40)) x y
            by_cases hxy : ltA x y = true
            · have hneg : cmpZ x.1 y.1 < 0 := (cmpZ_neg _ _).2 hxy
              have st1 := cell_st hU (K + 1) (by omega) y
              rw [List.set_set] at st1
              have hV1 : (T.set id (.cells (fl (C.set (K + 1) y)) 40))[id]? = some (.cells (fl (C.set (K + 1) y)) 40) := by simp [hid]
              have st2 := cell_st hV1 (K + 1 - 1) (by rw [List.length_set]; omega) x
              rw [List.set_set, gs] at st2
              repeat (first | refine WS.seq ?_ | refine WS.skip ?_ | refine WS.label ?_ | refine WS.block ?_ | refine WS.inBlock ?_ | refine WS.exit rfl ?_ | refine WS.scope ?_ | refine WS.inScope ?_)
              refine WS.drawb (b := [0, 0, 3, 7, 15, 15, 15, 111, 239, 15, 15, 1039, 3599, 7695, 16383, 32767, 65535]) (by kernel_rfl) (by simp only [evDraw_nil, evDraw_plain, evDraw_guard, isEff, isRead, List.all_nil, List.all_cons, Bool.or_true, Bool.true_or, Bool.and_self, Bool.and_true, V.beq_refl, List.getD_cons_zero, List.getD_cons_succ, Nat.reduceAdd, EV, TY,  h0, h1, h3, h9, hgtt, ia1, ia2, jdec, ld1, ld2, hc, hneg, ↓reduceIte, Nat.reduceEqDiff, decide_true, decide_false, eq_self]; with_reducible rfl) ?_
              refine WS.cond_true (by simp only [EV, hgtt, hneg, ↓reduceIte, Nat.reduceEqDiff, decide_true, decide_false, eq_self]) ?_
              repeat (first | refine WS.seq ?_ | refine WS.skip ?_ | refine WS.label ?_ | refine WS.block ?_ | refine WS.inBlock ?_ | refine WS.exit rfl ?_ | refine WS.scope ?_ | refine WS.inScope ?_)
              refine WS.drawb (b := [0, 0, 0, 0, 8, 0, 0, 64, 224, 480, 0, 0, 3072, 7168, 16355, 32739, 65535, 131071]) (by kernel_rfl) (by simp only [evDraw_nil, evDraw_plain, evDraw_guard, isEff, isRead, List.all_nil, List.all_cons, Bool.or_true, Bool.true_or, Bool.and_self, Bool.and_true, V.beq_refl, List.getD_cons_zero, List.getD_cons_succ, Nat.reduceAdd, EV, TY,  h0, h1, h3, h9, ia1, ia2, jdec, ld1, ld2, st1, st2, tb3, tb4, tb5, tb6, ↓reduceIte, Nat.reduceEqDiff, decide_true, decide_false, eq_self]; with_reducible rfl) ?_
              repeat (first | refine WS.seq ?_ | refine WS.skip ?_ | refine WS.label ?_ | refine WS.block ?_ | refine WS.inBlock ?_ | refine WS.exit rfl ?_ | refine WS.scope ?_ | refine WS.inScope ?_ | refine WS.region (by simp only [EV, TY, h9, jdec, ↓reduceIte, Nat.reduceEqDiff, decide_true, decide_false, eq_self]; with_reducible rfl) ?_)
              refine ihp q.length _ _ (by simp) ⟨q, y :: p2, rfl, by rw [← hpp]; simp, ?_, ?_, ?_, ?_, ?_, ?_, ?_, by simp⟩
              · intro z hz
                rcases List.mem_cons.1 hz with rfl | hz
                · exact hxy
                · exact hgt z hz
              · simp only [EV, h0, ↓reduceIte, Nat.reduceEqDiff, decide_true, decide_false, eq_self, and_true, true_and, and_self]
              · simp only [EV, h1, ↓reduceIte, Nat.reduceEqDiff, decide_true, decide_false, eq_self, and_true, true_and, and_self]
              · simp only [EV, h2, ↓reduceIte, Nat.reduceEqDiff, decide_true, decide_false, eq_self, and_true, true_and, and_self]
              · simp only [EV, h3, ↓reduceIte, Nat.reduceEqDiff, decide_true, decide_false, eq_self, and_true, true_and, and_self]
              · simp only [EV, h8, ↓reduceIte, Nat.reduceEqDiff, decide_true, decide_false, eq_self, and_true, true_and, and_self]
              · simp only [EV, ↓reduceIte, Nat.reduceEqDiff, decide_true, decide_false, eq_self, and_true, true_and, and_self]
                rw [← hK, List.length_append, hprel]
                rfl
            · have hxy : ltA x y = false := by simpa using hxy
              have hneg : ¬ cmpZ x.1 y.1 < 0 := fun h => by
                have := (cmpZ_neg _ _).1 h
                unfold ltA at hxy
                rw [hxy] at this; cases this
              repeat (first | refine WS.seq ?_ | refine WS.skip ?_ | refine WS.label ?_ | refine WS.block ?_ | refine WS.inBlock ?_ | refine WS.exit rfl ?_ | refine WS.scope ?_ | refine WS.inScope ?_)
              refine WS.drawb (b := [0, 0, 3, 7, 15, 15, 15, 111, 239, 15, 15, 1039, 3599, 7695, 16383, 32767, 65535]) (by kernel_rfl) (by simp only [evDraw_nil, evDraw_plain, evDraw_guard, isEff, isRead, List.all_nil, List.all_cons, Bool.or_true, Bool.true_or, Bool.and_self, Bool.and_true, V.beq_refl, List.getD_cons_zero, List.getD_cons_succ, Nat.reduceAdd, EV, TY,  h0, h1, h3, h9, hgtt, ia1, ia2, jdec, ld1, ld2, hc, hneg, ↓reduceIte, Nat.reduceEqDiff, decide_true, decide_false, eq_self]; with_reducible rfl) ?_
              refine WS.cond_false (by simp only [EV, hgtt, hneg, ↓reduceIte, Nat.reduceEqDiff, decide_true, decide_false, eq_self]) ?_
              refine WS.exit rfl ?_
              refine lastp _ _ ⟨?_, ?_, ?_, ?_, ?_, ?_⟩
              · simp only [EV, h0, ↓reduceIte, Nat.reduceEqDiff, decide_true, decide_false, eq_self, and_true, true_and, and_self]
              · simp only [EV, h1, ↓reduceIte, Nat.reduceEqDiff, decide_true, decide_false, eq_self, and_true, true_and, and_self]
              · simp only [EV, h2, ↓reduceIte, Nat.reduceEqDiff, decide_true, decide_false, eq_self, and_true, true_and, and_self]
              · simp only [EV, h3, ↓reduceIte, Nat.reduceEqDiff, decide_true, decide_false, eq_self, and_true, true_and, and_self]
              · simp only [EV, h8, ↓reduceIte, Nat.reduceEqDiff, decide_true, decide_false, eq_self, and_true, true_and, and_self]
              · have := ins_split x (q ++ [y]) p2 (by rw [hpp]; exact hps) hgt (fun z hz => by
                  rw [List.getLast?_append] at hz
                  simp at hz
                  subst hz
                  exact hxy)
                rw [hpp] at this
                rw [this, ← hC]; simp
      · have hlt' : ¬ ((i : Nat) : Int) < ((b : Nat) : Int) := by omega
        repeat (first | refine WS.seq ?_ | refine WS.skip ?_ | refine WS.label ?_ | refine WS.block ?_ | refine WS.inBlock ?_ | refine WS.exit rfl ?_ | refine WS.scope ?_ | refine WS.inScope ?_ | refine WS.region (by simp only [EV, TY, h2, h8, hlt', ↓reduceIte, Nat.reduceEqDiff, decide_true, decide_false, eq_self]; with_reducible rfl) ?_)
        refine WS.cond_false (by simp only [EV, ↓reduceIte, Nat.reduceEqDiff, decide_true, decide_false, eq_self]) ?_
        refine WS.exit rfl ?_
        have : i = b := by omega
        subst this
        exact last _ _ rfl
  · have : a = b := by omega
    subst this
    rw [isort_nil]
    have hna : ¬ ((a + 1 : Nat) : Int) < ((a : Nat) : Int) := by omega
    refine WS.loopB (fun j fr U => lget fr 2 = .int .i64 (a : Nat) ∧ lget fr 8 = .int .i64 ((a + 1 : Nat) : Int) ∧ T = U) (fun fr U => T = U) (j := 0) ?_ ?_ ?_
    · refine ⟨?_, ?_, rfl⟩
      all_goals
        simp only [EV, lget, ↓reduceIte, Nat.reduceEqDiff, decide_true, decide_false, eq_self, and_true, true_and, and_self]
    · rintro fr U rfl
      have : T.set id (.cells (fl l) 40) = T := List.ext_getElem? fun k => by
        by_cases hk : id = k
        · subst hk; rw [List.getElem?_set_self hid, hT]
        · rw [List.getElem?_set_ne hk]
      rw [this]
      exact ends0 rfl rfl
    · rintro j fr U ⟨h2, h8, rfl⟩ ih last
      repeat (first | refine WS.seq ?_ | refine WS.skip ?_ | refine WS.label ?_ | refine WS.block ?_ | refine WS.inBlock ?_ | refine WS.exit rfl ?_ | refine WS.scope ?_ | refine WS.inScope ?_ | refine WS.region (by simp only [EV, TY, h2, h8, hna, ↓reduceIte, Nat.reduceEqDiff, decide_true, decide_false, eq_self]; with_reducible rfl) ?_)
      refine WS.cond_false (by simp only [EV, ↓reduceIte, Nat.reduceEqDiff, decide_true, decide_false, eq_self]) ?_
      refine WS.exit rfl ?_
      exact last _ _ rfl
end Go.Proofs.YtjcckafjopjdbaaDoor
namespace Go.Proofs.YtjcckafjopjdbaaDoor
open Go Go.Vm
set_option maxRecDepth 100000
set_option maxHeartbeats 4000000
set_option linter.unusedSimpArgs false
set_option linter.unusedVariables false
def SortOk (m : Nat) : Prop := ∀ (T : Store) (id : Nat) (l : List Ava), T[id]? = some (.cells (fl l) 40) → l.length = m → ∀ fv, CmpOk fv → vrun E0 (.fn 35) [.slR id 0 l.length l.length 2, fv] T = some (.tup [], T.set id (.cells (fl (srt l)) 40))
theorem isort_all (l : List Ava) : isort l 0 l.length = srt l := by
  unfold isort
  simp
theorem stableS_ok {T : Store} {id : Nat} {l : List Ava} (hT : T[id]? = some (.cells (fl l) 40)) (hl : l.length < 20) {fv : V} (hcmp : CmpOk fv) :
    vrun E0 (.fn 51) [.slR id 0 l.length l.length 2, .int .i64 (l.length : Nat), fv] T = some (.tup [], T.set id (.cells (fl (srt l)) 40)) := by
  refine fn_ws Tryd.func51 rfl ?_
  have h1 : ¬ (20 : Int) ≤ ((l.length : Nat) : Int) := by omega
  have h2 : ¬ (20 : Int) < ((l.length : Nat) : Int) := by omega
  have hI := insSort_ok hT (by omega) hcmp 0 l.length (by omega) (Nat.le_refl _)
  rw [isort_all] at hI
  simp only [Int.natCast_zero] at hI
  repeat (first | refine WS.seq ?_ | refine WS.skip ?_ | refine WS.label ?_ | refine WS.block ?_ | refine WS.inBlock ?_ | refine WS.exit rfl ?_ | refine WS.scope ?_ | refine WS.inScope ?_ | refine WS.region (by simp only [EV, TY, lget, ↓reduceIte, Nat.reduceEqDiff, decide_true, decide_false, eq_self]; with_reducible rfl) ?_)
  refine WS.loopB (fun j fr U => lget fr 0 = .slR id 0 l.length l.length 2 ∧ lget fr 1 = .int .i64 (l.length : Nat) ∧ lget fr 2 = fv ∧ lget fr 6 = .int .i64 20 ∧ lget fr 7 = .int .i64 0 ∧ lget fr 8 = .int .i64 20 ∧ T = U)
    (fun fr U => lget fr 0 = .slR id 0 l.length l.length 2 ∧ lget fr 1 = .int .i64 (l.length : Nat) ∧ lget fr 2 = fv ∧ lget fr 6 = .int .i64 20 ∧ lget fr 7 = .int .i64 0 ∧ T = U) (j := 0) ?_ ?_ ?_
  · refine ⟨?_, ?_, ?_, ?_, ?_, ?_, rfl⟩
    all_goals
      simp only [EV, lget, ↓reduceIte, Nat.reduceEqDiff, decide_true, decide_false, eq_self, and_true, true_and, and_self]
  · rintro fr U ⟨g0, g1, g2, g6, g7, rfl⟩
    repeat (first | refine WS.seq ?_ | refine WS.skip ?_ | refine WS.label ?_ | refine WS.block ?_ | refine WS.inBlock ?_ | refine WS.exit rfl ?_ | refine WS.scope ?_ | refine WS.inScope ?_ | refine WS.region (by simp only [EV, TY, g0, g1, g2, g6, g7, callV_63, hI, ↓reduceIte, Nat.reduceEqDiff, decide_true, decide_false, eq_self]; with_reducible rfl) ?_)
    refine WS.loopB (fun j fr U => lget fr 1 = .int .i64 (l.length : Nat) ∧ lget fr 6 = .int .i64 20 ∧ U = T.set id (.cells (fl (srt l)) 40)) (fun fr U => U = T.set id (.cells (fl (srt l)) 40)) (j := 0) ?_ ?_ ?_
    · refine ⟨?_, ?_, rfl⟩
      · simp only [EV, g1, ↓reduceIte, Nat.reduceEqDiff, decide_true, decide_false, eq_self, and_true, true_and, and_self]
      · simp only [EV, g6, ↓reduceIte, Nat.reduceEqDiff, decide_true, decide_false, eq_self, and_true, true_and, and_self]
    · rintro fr U rfl
      exact ends0 rfl rfl
    · rintro j fr U ⟨g1, g6, rfl⟩ ih last
      repeat (first | refine WS.seq ?_ | refine WS.skip ?_ | refine WS.label ?_ | refine WS.block ?_ | refine WS.inBlock ?_ | refine WS.exit rfl ?_ | refine WS.scope ?_ | refine WS.inScope ?_ | refine WS.region (by simp only [EV, TY, g1, g6, h2, ↓reduceIte, Nat.reduceEqDiff, decide_true, decide_false, eq_self]; with_reducible rfl) ?_)
      refine WS.cond_false (by simp only [EV, ↓reduceIte, Nat.reduceEqDiff, decide_true, decide_false, eq_self]) ?_
      refine WS.exit rfl ?_
      exact last _ _ rfl
  · rintro j fr U ⟨g0, g1, g2, g6, g7, g8, rfl⟩ ih last
    repeat (first | refine WS.seq ?_ | refine WS.skip ?_ | refine WS.label ?_ | refine WS.block ?_ | refine WS.inBlock ?_ | refine WS.exit rfl ?_ | refine WS.scope ?_ | refine WS.inScope ?_ | refine WS.region (by simp only [EV, TY, g1, g8, h1, ↓reduceIte, Nat.reduceEqDiff, decide_true, decide_false, eq_self]; with_reducible rfl) ?_)
    refine WS.cond_false (by simp only [EV, ↓reduceIte, Nat.reduceEqDiff, decide_true, decide_false, eq_self]) ?_
    refine WS.exit rfl ?_
    refine last _ _ ⟨?_, ?_, ?_, ?_, ?_, rfl⟩
    all_goals
      simp only [EV, g0, g1, g2, g6, g7, ↓reduceIte, Nat.reduceEqDiff, decide_true, decide_false, eq_self, and_true, true_and, and_self]
theorem sortOk_small (m : Nat) (hm : m < 20) : SortOk m := by
  intro T id l hT hl fv hcmp
  refine fn_ws Tryd.func35 rfl ?_
  have hS := stableS_ok hT (by omega) hcmp
  have hlen : opLen E0 T 38 (.slR id 0 l.length l.length 2) = some (.int .i64 (l.length : Nat)) := len_slR Tryd.underlying38 _ _ _ _ _
  repeat (first | refine WS.seq ?_ | refine WS.skip ?_ | refine WS.label ?_ | refine WS.block ?_ | refine WS.inBlock ?_ | refine WS.exit rfl ?_ | refine WS.scope ?_ | refine WS.inScope ?_ | refine WS.region (by simp only [EV, TY, lget, hlen, callV_51, hS, ↓reduceIte, Nat.reduceEqDiff, decide_true, decide_false, eq_self]; with_reducible rfl) ?_)
  exact ends0 rfl rfl
theorem insN_ok (T : Store) (fv : V) : vrun E0 (.fn 63) [.slN, .int .i64 0, .int .i64 0, fv] T = some (.tup [], T) := by
  refine fn_ws Tryd.func63 rfl ?_
  have e : IntKind.i64.wrap ((0 : Int) + 1) = 1 := by decide
  repeat (first | refine WS.seq ?_ | refine WS.skip ?_ | refine WS.label ?_ | refine WS.block ?_ | refine WS.inBlock ?_ | refine WS.exit rfl ?_ | refine WS.scope ?_ | refine WS.inScope ?_ | refine WS.region (by simp only [EV, TY, lget, e, ↓reduceIte, Nat.reduceEqDiff, decide_true, decide_false, eq_self]; with_reducible rfl) ?_)
  refine WS.loopB (fun j fr U => lget fr 2 = .int .i64 0 ∧ lget fr 8 = .int .i64 1 ∧ T = U) (fun fr U => T = U) (j := 0) ?_ ?_ ?_
  · refine ⟨?_, ?_, rfl⟩
    all_goals
      simp only [EV, lget, ↓reduceIte, Nat.reduceEqDiff, decide_true, decide_false, eq_self, and_true, true_and, and_self]
  · rintro fr U rfl
    exact ends0 rfl rfl
  · rintro j fr U ⟨h2, h8, rfl⟩ ih last
    have hn : ¬ (1 : Int) < 0 := by omega
    repeat (first | refine WS.seq ?_ | refine WS.skip ?_ | refine WS.label ?_ | refine WS.block ?_ | refine WS.inBlock ?_ | refine WS.exit rfl ?_ | refine WS.scope ?_ | refine WS.inScope ?_ | refine WS.region (by simp only [EV, TY, h2, h8, hn, ↓reduceIte, Nat.reduceEqDiff, decide_true, decide_false, eq_self]; with_reducible rfl) ?_)
    refine WS.cond_false (by simp only [EV, ↓reduceIte, Nat.reduceEqDiff, decide_true, decide_false, eq_self]) ?_
    refine WS.exit rfl ?_
    exact last _ _ rfl
theorem stableN_ok (T : Store) (fv : V) : vrun E0 (.fn 51) [.slN, .int .i64 0, fv] T = some (.tup [], T) := by
  refine fn_ws Tryd.func51 rfl ?_
  have h1 : ¬ (20 : Int) ≤ 0 := by omega
  have h2 : ¬ (20 : Int) < 0 := by omega
  have hI := insN_ok T fv
  repeat (first | refine WS.seq ?_ | refine WS.skip ?_ | refine WS.label ?_ | refine WS.block ?_ | refine WS.inBlock ?_ | refine WS.exit rfl ?_ | refine WS.scope ?_ | refine WS.inScope ?_ | refine WS.region (by simp only [EV, TY, lget, ↓reduceIte, Nat.reduceEqDiff, decide_true, decide_false, eq_self]; with_reducible rfl) ?_)
  refine WS.loopB (fun j fr U => lget fr 0 = .slN ∧ lget fr 1 = .int .i64 0 ∧ lget fr 2 = fv ∧ lget fr 6 = .int .i64 20 ∧ lget fr 7 = .int .i64 0 ∧ lget fr 8 = .int .i64 20 ∧ T = U)
    (fun fr U => lget fr 0 = .slN ∧ lget fr 1 = .int .i64 0 ∧ lget fr 2 = fv ∧ lget fr 6 = .int .i64 20 ∧ lget fr 7 = .int .i64 0 ∧ T = U) (j := 0) ?_ ?_ ?_
  · refine ⟨?_, ?_, ?_, ?_, ?_, ?_, rfl⟩
    all_goals
      simp only [EV, lget, ↓reduceIte, Nat.reduceEqDiff, decide_true, decide_false, eq_self, and_true, true_and, and_self]
  · rintro fr U ⟨g0, g1, g2, g6, g7, rfl⟩
    repeat (first | refine WS.seq ?_ | refine WS.skip ?_ | refine WS.label ?_ | refine WS.block ?_ | refine WS.inBlock ?_ | refine WS.exit rfl ?_ | refine WS.scope ?_ | refine WS.inScope ?_ | refine WS.region (by simp only [EV, TY, g0, g1, g2, g6, g7, callV_63, hI, ↓reduceIte, Nat.reduceEqDiff, decide_true, decide_false, eq_self]; with_reducible rfl) ?_)
    refine WS.loopB (fun j fr U => lget fr 1 = .int .i64 0 ∧ lget fr 6 = .int .i64 20 ∧ T = U) (fun fr U => T = U) (j := 0) ?_ ?_ ?_
    · refine ⟨?_, ?_, rfl⟩
      · simp only [EV, g1, ↓reduceIte, Nat.reduceEqDiff, decide_true, decide_false, eq_self, and_true, true_and, and_self]
      · simp only [EV, g6, ↓reduceIte, Nat.reduceEqDiff, decide_true, decide_false, eq_self, and_true, true_and, and_self]
    · rintro fr U rfl
      exact ends0 rfl rfl
    · rintro j fr U ⟨g1, g6, rfl⟩ ih last
      repeat (first | refine WS.seq ?_ | refine WS.skip ?_ | refine WS.label ?_ | refine WS.block ?_ | refine WS.inBlock ?_ | refine WS.exit rfl ?_ | refine WS.scope ?_ | refine WS.inScope ?_ | refine WS.region (by simp only [EV, TY, g1, g6, h2, ↓reduceIte, Nat.reduceEqDiff, decide_true, decide_false, eq_self]; with_reducible rfl) ?_)
      refine WS.cond_false (by simp only [EV, ↓reduceIte, Nat.reduceEqDiff, decide_true, decide_false, eq_self]) ?_
      refine WS.exit rfl ?_
      exact last _ _ rfl
  · rintro j fr U ⟨g0, g1, g2, g6, g7, g8, rfl⟩ ih last
    repeat (first | refine WS.seq ?_ | refine WS.skip ?_ | refine WS.label ?_ | refine WS.block ?_ | refine WS.inBlock ?_ | refine WS.exit rfl ?_ | refine WS.scope ?_ | refine WS.inScope ?_ | refine WS.region (by simp only [EV, TY, g1, g8, h1, ↓reduceIte, Nat.reduceEqDiff, decide_true, decide_false, eq_self]; with_reducible rfl) ?_)
    refine WS.cond_false (by simp only [EV, ↓reduceIte, Nat.reduceEqDiff, decide_true, decide_false, eq_self]) ?_
    refine WS.exit rfl ?_
    refine last _ _ ⟨?_, ?_, ?_, ?_, ?_, rfl⟩
    all_goals
      simp only [EV, g0, g1, g2, g6, g7, ↓reduceIte, Nat.reduceEqDiff, decide_true, decide_false, eq_self, and_true, true_and, and_self]
theorem sortN_ok (T : Store) (fv : V) : vrun E0 (.fn 35) [.slN, fv] T = some (.tup [], T) := by
  refine fn_ws Tryd.func35 rfl ?_
  have hS := stableN_ok T fv
  have hlen : opLen E0 T 38 .slN = some (.int .i64 0) := len_slN Tryd.underlying38
  repeat (first | refine WS.seq ?_ | refine WS.skip ?_ | refine WS.label ?_ | refine WS.block ?_ | refine WS.inBlock ?_ | refine WS.exit rfl ?_ | refine WS.scope ?_ | refine WS.inScope ?_ | refine WS.region (by simp only [EV, TY, lget, hlen, callV_51, hS, ↓reduceIte, Nat.reduceEqDiff, decide_true, decide_false, eq_self]; with_reducible rfl) ?_)
  exact ends0 rfl rfl
end Go.Proofs.YtjcckafjopjdbaaDoor
