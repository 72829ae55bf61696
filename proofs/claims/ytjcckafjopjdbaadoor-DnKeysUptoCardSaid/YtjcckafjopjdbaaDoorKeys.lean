/- Under is said by keys: for all arguments whose bulk is at most 1048576, in any memory, the law returns true and each argument reads as before. Conditions: those of the given row and card alone (the listed package-level variables hold what the program's text lays). -/
import Derived.Test.YtjcckafjopjdbaaDoorPartL
import Derived.Test.YtjcckafjopjdbaaDoorText
import Derived.Test.YtjcckafjopjdbaaDoorFits
import Derived.Test.YtjcckafjopjdbaaDoorOpen
set_option linter.all false
namespace Go.Proofs.YtjcckafjopjdbaaDoor
open Go Go.Vm
set_option maxRecDepth 100000
set_option maxHeartbeats 8000000
set_option linter.unusedSimpArgs false
set_option linter.unusedVariables false
/-! ### under is said by keys -/
theorem smallB_no (c : UInt8) : (tyCh 0 c = true → tyCh 0 (smallB c) = true) ∧ (tyCh 1 c = true → tyCh 1 (smallB c) = true) := by
  have := all256 (p := fun c => (!(tyCh 0 c) || tyCh 0 (smallB c)) && (!(tyCh 1 c) || tyCh 1 (smallB c))) (by decide +kernel) c
  rw [Bool.and_eq_true, Bool.or_eq_true, Bool.or_eq_true] at this
  refine ⟨fun h => ?_, fun h => ?_⟩
  · rcases this.1 with h2 | h2
    · rw [h] at h2; cases h2
    · exact h2
  · rcases this.2 with h2 | h2
    · rw [h] at h2; cases h2
    · exact h2
theorem tyCh_succ (i : Nat) (c : UInt8) : tyCh (i + 1) c = tyCh 1 c := rfl
theorem typeB_small (t : List UInt8) (h : typeB t = true) : typeB (smallS t) = true := by
  unfold typeB at h ⊢
  rw [smallS_len]
  rw [Bool.and_eq_true] at h ⊢
  refine ⟨h.1, List.all_eq_true.2 fun i hi => ?_⟩
  have h2 := List.all_eq_true.1 h.2 i hi
  have hlt := List.mem_range.1 hi
  have e : (smallS t).getD i 0 = smallB (t.getD i 0) := by simp [smallS, List.getD, hlt]
  rw [e]
  cases i with
  | zero => exact (smallB_no _).1 h2
  | succ i =>
    rw [tyCh_succ] at h2 ⊢
    exact (smallB_no _).2 h2
theorem stepT_norm {r : List Ava} (h : stepT r) : stepT (normR r) := by
  obtain ⟨h0, h1⟩ := h
  refine ⟨fun e => ?_, fun x hx => ?_⟩
  · have := congrArg List.length e
    rw [normR_len] at this
    exact h0 (List.length_eq_zero_iff.1 this)
  · obtain ⟨y, hy, rfl⟩ := List.mem_map.1 (srt_mem.1 hx)
    exact typeB_small _ (h1 y hy)
theorem digS_no (c : UInt8) : digS (c.toNat / 16) ≠ 0 ∧ digS (c.toNat % 16) ≠ 0 := by
  have := all256 (p := fun c => digS (c.toNat / 16) != 0 && digS (c.toNat % 16) != 0) (by decide +kernel) c
  simpa using this
theorem valB_no (n i : Nat) (c x : UInt8) (h : x ∈ valB n i c) : x ≠ 0 := by
  unfold valB at h
  split at h
  · simp only [List.mem_cons, List.not_mem_nil, or_false] at h
    rcases h with rfl | rfl | rfl
    · decide
    · exact (digS_no c).1
    · exact (digS_no c).2
  · rename_i hc
    have h0 : c ≠ 0 := fun e => hc (.inl (by subst e; decide))
    split at h
    · simp only [List.mem_cons, List.not_mem_nil, or_false] at h
      rcases h with rfl | rfl
      · decide
      · exact h0
    · simp only [List.mem_cons, List.not_mem_nil, or_false] at h
      subst h
      exact h0
theorem valF_no (n : Nat) : ∀ (s : List UInt8) (i : Nat) (x : UInt8), x ∈ valF n i s → x ≠ 0
  | [], i, x, h => by simp [valF] at h
  | c :: s, i, x, h => by
    rw [valF, List.mem_append] at h
    rcases h with h | h
    · exact valB_no _ _ _ _ h
    · exact valF_no n s _ x h
theorem textA_no {a : Ava} (h : typeB a.1 = true) (x : UInt8) (hx : x ∈ textA a) : x ≠ 0 := by
  unfold textA at hx
  rw [List.mem_append, List.mem_cons] at hx
  rcases hx with hx | rfl | hx
  · exact ((type_chars a.1 h).2 x hx).2
  · decide
  · exact valF_no _ _ _ x hx
theorem stepS_no {r : List Ava} (h : stepT r) (x : UInt8) (hx : x ∈ stepS r) : x ≠ 0 := by
  obtain ⟨h0, h1⟩ := h
  cases r with
  | nil => exact absurd rfl h0
  | cons a az =>
    rw [stepS_cons, List.mem_append, List.mem_flatMap] at hx
    rcases hx with hx | ⟨b, hb, hx⟩
    · exact textA_no (h1 a (by simp)) x hx
    · rcases List.mem_cons.1 hx with rfl | hx
      · decide
      · exact textA_no (h1 b (by simp [hb])) x hx
theorem stepS_inj {r s : List Ava} (hr : stepT r) (hs : stepT s) (h : stepS r = stepS s) : r = s := by
  have h1 := parse_steps [] [] r hr (by simp)
  have h2 := parse_steps [] [] s hs (by simp)
  rw [List.flatMap_nil, List.append_nil] at h1 h2
  rw [h, h2] at h1
  simpa using h1.symm
theorem zero_split : ∀ (A B X Y : List UInt8), (∀ x ∈ A, x ≠ 0) → (∀ x ∈ B, x ≠ 0) → A ++ 0 :: X <+: B ++ 0 :: Y → A = B ∧ X <+: Y
  | [], [], X, Y, _, _, h => ⟨rfl, (List.cons_prefix_cons.1 h).2⟩
  | [], b :: B, X, Y, _, hB, h => absurd (List.cons_prefix_cons.1 h).1.symm (hB b (by simp))
  | a :: A, [], X, Y, hA, _, h => absurd (List.cons_prefix_cons.1 h).1 (hA a (by simp))
  | a :: A, b :: B, X, Y, hA, hB, h => by
    obtain ⟨h1, h2⟩ := List.cons_prefix_cons.1 h
    obtain ⟨h3, h4⟩ := zero_split A B X Y (fun x hx => hA x (by simp [hx])) (fun x hx => hB x (by simp [hx])) h2
    exact ⟨by rw [h1, h3], h4⟩
def keyL (l : List (List Ava)) : List UInt8 := l.flatMap fun r => stepS r ++ [0]
theorem keyL_pre : ∀ (l k : List (List Ava)), (∀ r ∈ l, stepT r) → (∀ r ∈ k, stepT r) → (keyL l <+: keyL k ↔ l <+: k)
  | [], k, _, _ => by simp [keyL]
  | r :: l, [], hl, _ => by
    constructor
    · intro h
      have := h.length_le
      simp [keyL] at this
    · intro h
      simp at h
  | r :: l, s :: k, hl, hk => by
    have ih := keyL_pre l k (fun x hx => hl x (by simp [hx])) (fun x hx => hk x (by simp [hx]))
    have e : ∀ (r : List Ava) l, keyL (r :: l) = stepS r ++ 0 :: keyL l := fun r l => by simp [keyL]
    rw [e, e]
    constructor
    · intro h
      obtain ⟨h1, h2⟩ := zero_split _ _ _ _ (stepS_no (hl r (by simp))) (stepS_no (hk s (by simp))) h
      have := stepS_inj (hl r (by simp)) (hk s (by simp)) h1
      subst this
      exact List.cons_prefix_cons.2 ⟨rfl, ih.1 h2⟩
    · intro h
      obtain ⟨h1, h2⟩ := List.cons_prefix_cons.1 h
      subst h1
      exact (List.prefix_append_right_inj _).2 (List.cons_prefix_cons.2 ⟨rfl, ih.2 h2⟩)
theorem key_under {a b : List (List Ava)} (sa : shapedP a) (sb : shapedP b) : underB a b = true ↔ keyS b <+: keyS a := by
  have ha : ∀ r ∈ (normN a).reverse, stepT r := fun r hr => by
    obtain ⟨x, hx, rfl⟩ := List.mem_map.1 (List.mem_reverse.1 hr)
    exact stepT_norm (stepT_of sa x hx)
  have hb : ∀ r ∈ (normN b).reverse, stepT r := fun r hr => by
    obtain ⟨x, hx, rfl⟩ := List.mem_map.1 (List.mem_reverse.1 hr)
    exact stepT_norm (stepT_of sb x hx)
  rw [under_iff, ← List.reverse_prefix]
  exact (keyL_pre _ _ hb ha).symm
theorem key_same {a b : List (List Ava)} (sa : shapedP a) (sb : shapedP b) : normN a = normN b ↔ keyS a = keyS b := by
  constructor
  · intro h
    unfold keyS
    rw [h]
  · intro h
    have h1 := (key_under sa sb).2 (by rw [h]; exact List.prefix_refl _)
    have h2 := (key_under sb sa).2 (by rw [h]; exact List.prefix_refl _)
    have h3 := under_both a b
    rw [h1, h2] at h3
    exact of_decide_eq_true h3.symm
theorem keyS_len {n : List (List Ava)} (on : okN n) (sh : shapedP n) : (keyS n).length ≤ 140737488355328 := by
  have omN := normN_ok on
  have h4 : ∀ r ∈ normN n, r.length ≤ 4 := fun r hr => by
    obtain ⟨r0, hr0, rfl⟩ := List.mem_map.1 hr
    obtain ⟨i, hi, rfl⟩ := List.getElem_of_mem hr0
    have := (sh.2 i hi).2.1
    rw [normR_len]
    simpa [List.getD, hi] using this
  exact keyT_bound (by rw [normN_len]; exact sh.1) (fun r hr => Nat.le_trans (stepS_len (omN.2 r hr).2 (h4 r hr)) (by omega))
theorem min_le (k l : Nat) (h : l ≤ k) : minMax false (.int .i64 (k : Int)) [.int .i64 (l : Int)] = some (.int .i64 (l : Int)) := by
  simp only [minMax, if_true, Bool.false_eq_true, if_false]
  by_cases h1 : (l : Int) < (k : Int)
  · rw [if_pos h1]
  · rw [if_neg h1]
    have : k = l := by omega
    rw [this]
/-- DnKeys: under is said by keys. -/
theorem law8_ok {va vb : V} {a b : List (List Ava)} (ha : isDn [] va a) (hb : isDn [] vb b) (oa : okN a) (ob : okN b) : vrun E0 (.fn 8) [va, vb] [] = some (.bool true, []) := by
  refine fn_ws Tryd.func8 rfl ?_
  have haw := awake_run
  have ra := Right_ok ha oa
  have rb := Right_ok hb ob
  have hs : ∀ k : List Todo, ∀ fr S, lget fr 4 = .bool true → S = [] → WS E0 (.code .ret :: k) fr S (FnEnds E0 8 Tryd.f8 [] (.bool true, [])) := fun k fr S h1 h2 => by
    subst h2
    exact WS.ret1s (t := 4) rfl rfl (List.prefix_refl _) (frz_bool _ _ _) h1
  by_cases ca : rightB a = true
  · by_cases cb : rightB b = true
    · have sa := ((rightB_iff a).1 ca).1
      have sb := ((rightB_iff b).1 cb).1
      have ka := Key_ok ha oa sa
      have kb := Key_ok hb ob sb
      have un := Under_ok ha hb oa ob (sorts_all oa) (sorts_all ob)
      have sm := Same_ok ha hb oa ob (sorts_all oa) (sorts_all ob)
      have hu := key_under sa sb
      have hq := key_same sa sb
      have la := keyS_len oa sa
      have lb := keyS_len ob sb
      rw [ca] at ra
      rw [cb] at rb
      generalize keyS a = x at *
      generalize keyS b = y at *
      have e1 : decide (normN a = normN b) = (x == y) := by
        rw [Bool.eq_iff_iff, decide_eq_true_iff, beq_iff_eq]
        exact hq
      rw [e1] at sm
      generalize underB a b = u at *
      have lx := len_str (E := E0) (S := []) Tryd.underlying9 x
      have ly := len_str (E := E0) (S := []) Tryd.underlying9 y
      have b1 : (false == false) = true := rfl
      have b2 : (true == true) = true := rfl
      have b3 : ((x == y) == (x == y)) = true := beq_self_eq_true _
      by_cases hl : y.length ≤ x.length
      · have hl' : ((y.length : Nat) : Int) ≤ ((x.length : Nat) : Int) := by omega
        have mn := min_le x.length y.length hl
        have sl := sl9h x y.length hl
        have hpre : u = (x.take y.length == y) := by
          rw [Bool.eq_iff_iff, hu, beq_iff_eq, List.prefix_iff_eq_take]
          exact eq_comm
        subst hpre
        have b4 : ((x.take y.length == y) == (x.take y.length == y)) = true := beq_self_eq_true _
        repeat (first | refine WS.seq ?_ | refine WS.skip ?_ | refine WS.label ?_ | refine WS.block ?_ | refine WS.inBlock ?_ | refine WS.exit rfl ?_ | refine WS.scope ?_ | refine WS.inScope ?_ | refine WS.region (by simp only [EV, TY, lget, callV_9, callV_19, haw, ra, rb, Bool.not_true, Bool.false_eq_true, ↓reduceIte, Nat.reduceEqDiff, decide_true, decide_false, eq_self]; with_reducible rfl) ?_)
        refine WS.cond_false (by simp only [EV, lget, ↓reduceIte, Nat.reduceEqDiff, decide_true, decide_false, eq_self]) ?_
        repeat (first | refine WS.seq ?_ | refine WS.skip ?_ | refine WS.label ?_ | refine WS.block ?_ | refine WS.inBlock ?_ | refine WS.exit rfl ?_ | refine WS.scope ?_ | refine WS.inScope ?_ | refine WS.region (by simp only [EV, TY, lget, callV_21, ka, kb, callV_16, un, callV_15, sm, lx, ly, hl', mn, sl, beq4, b1, b2, b3, b4, ↓reduceIte, Nat.reduceEqDiff, decide_true, decide_false, eq_self]; with_reducible rfl) ?_)
        refine hs _ _ _ ?_ rfl
        simp only [EV, lget, ↓reduceIte, Nat.reduceEqDiff, decide_true, decide_false, eq_self, and_true, true_and, and_self]
      · have hl' : ¬ ((y.length : Nat) : Int) ≤ ((x.length : Nat) : Int) := by omega
        have hpre : u = false := by
          cases hu' : u with
          | false => rfl
          | true => exact absurd (hu.1 hu').length_le hl
        subst hpre
        repeat (first | refine WS.seq ?_ | refine WS.skip ?_ | refine WS.label ?_ | refine WS.block ?_ | refine WS.inBlock ?_ | refine WS.exit rfl ?_ | refine WS.scope ?_ | refine WS.inScope ?_ | refine WS.region (by simp only [EV, TY, lget, callV_9, callV_19, haw, ra, rb, Bool.not_true, Bool.false_eq_true, ↓reduceIte, Nat.reduceEqDiff, decide_true, decide_false, eq_self]; with_reducible rfl) ?_)
        refine WS.cond_false (by simp only [EV, lget, ↓reduceIte, Nat.reduceEqDiff, decide_true, decide_false, eq_self]) ?_
        repeat (first | refine WS.seq ?_ | refine WS.skip ?_ | refine WS.label ?_ | refine WS.block ?_ | refine WS.inBlock ?_ | refine WS.exit rfl ?_ | refine WS.scope ?_ | refine WS.inScope ?_ | refine WS.region (by simp only [EV, TY, lget, callV_21, ka, kb, callV_16, un, callV_15, sm, lx, ly, hl', beq4, b1, b2, b3, ↓reduceIte, Nat.reduceEqDiff, decide_true, decide_false, eq_self]; with_reducible rfl) ?_)
        refine hs _ _ _ ?_ rfl
        simp only [EV, lget, ↓reduceIte, Nat.reduceEqDiff, decide_true, decide_false, eq_self, and_true, true_and, and_self]
    · have cb : rightB b = false := by simpa using cb
      repeat (first | refine WS.seq ?_ | refine WS.skip ?_ | refine WS.label ?_ | refine WS.block ?_ | refine WS.inBlock ?_ | refine WS.exit rfl ?_ | refine WS.scope ?_ | refine WS.inScope ?_ | refine WS.region (by simp only [EV, TY, lget, callV_9, callV_19, haw, ra, rb, ca, cb, Bool.not_false, Bool.not_true, ↓reduceIte, Nat.reduceEqDiff, decide_true, decide_false, eq_self]; with_reducible rfl) ?_)
      refine WS.cond_true (by simp only [EV, lget, ↓reduceIte, Nat.reduceEqDiff, decide_true, decide_false, eq_self]) ?_
      repeat (first | refine WS.seq ?_ | refine WS.skip ?_ | refine WS.label ?_ | refine WS.block ?_ | refine WS.inBlock ?_ | refine WS.exit rfl ?_ | refine WS.scope ?_ | refine WS.inScope ?_ | refine WS.region (by simp only [EV, TY, lget, ↓reduceIte, Nat.reduceEqDiff, decide_true, decide_false, eq_self]; with_reducible rfl) ?_)
      refine hs _ _ _ ?_ rfl
      simp only [EV, lget, ↓reduceIte, Nat.reduceEqDiff, decide_true, decide_false, eq_self, and_true, true_and, and_self]
  · have ca : rightB a = false := by simpa using ca
    repeat (first | refine WS.seq ?_ | refine WS.skip ?_ | refine WS.label ?_ | refine WS.block ?_ | refine WS.inBlock ?_ | refine WS.exit rfl ?_ | refine WS.scope ?_ | refine WS.inScope ?_ | refine WS.region (by simp only [EV, TY, lget, callV_9, callV_19, haw, ra, rb, ca, Bool.not_false, ↓reduceIte, Nat.reduceEqDiff, decide_true, decide_false, eq_self]; with_reducible rfl) ?_)
    refine WS.cond_true (by simp only [EV, lget, ↓reduceIte, Nat.reduceEqDiff, decide_true, decide_false, eq_self]) ?_
    repeat (first | refine WS.seq ?_ | refine WS.skip ?_ | refine WS.label ?_ | refine WS.block ?_ | refine WS.inBlock ?_ | refine WS.exit rfl ?_ | refine WS.scope ?_ | refine WS.inScope ?_ | refine WS.region (by simp only [EV, TY, lget, ↓reduceIte, Nat.reduceEqDiff, decide_true, decide_false, eq_self]; with_reducible rfl) ?_)
    refine hs _ _ _ ?_ rfl
    simp only [EV, lget, ↓reduceIte, Nat.reduceEqDiff, decide_true, decide_false, eq_self, and_true, true_and, and_self]
end Go.Proofs.YtjcckafjopjdbaaDoor
namespace Go.Proofs.YtjcckafjopjdbaaDoor.dnKeys
open Go Go.Vm Go.ChangeShapes Go.WideShapes Go.ChangeAt Go.RowKit
set_option maxRecDepth 100000
set_option linter.unusedVariables false
theorem lets (t : TypeId) (ht : t ∈ Tryd.f8.params.toList) : Tryd.prog.readableRec t = true ∧ t < Tryd.prog.types.size := by
  rw [Tryd.params8] at ht
  simp only [List.mem_cons, List.not_mem_nil, or_false] at ht
  rcases ht with rfl | rfl
  · exact ⟨by kernel_rfl, of_decide_eq_true (by kernel_rfl)⟩
  · exact ⟨by kernel_rfl, of_decide_eq_true (by kernel_rfl)⟩
theorem contract (H : Type) (enc : TypeId × Value → H) (W : World) (base : Nat) (args : Array Value) (ds gs : List (DataW H)) (before : List MemPlace)
    (hval : ∀ (j : Nat) t v, Tryd.f8.params[j]? = some t → args[j]? = some v → Value.okWide Tryd.prog W .any base t v)
    (hW : DataW.Whole enc Tryd.prog Tryd.f8.params.toList Rows.dnKeysSpec.vars false W args.toList ds gs before) (hk : Rows.uptoSmall H (ds ++ gs) = true) :
    Calls Tryd.prog 8 args W fun e W' => ∃ v, e = .returned v ∧ Rows.dnKeysSpec.post enc Tryd.prog Tryd.f8 false true false false W args v W' := by
  have hW' := hW
  obtain ⟨p, q, hA0, hV, rfl, hfz, hnd⟩ := hW
  have hA : DataW.TrodAll enc Tryd.prog W 0 (fun _ => true) true Tryd.f8.params.toList args.toList ds p := hA0
  rw [Tryd.params8] at hA hval
  obtain ⟨v0, vs0, d0, ds0, p0, q0, hargs, rfl, rfl, h0, r0⟩ := trodAll_cons hA
  obtain ⟨v1, vs1, d1, ds1, p1, q1, rfl, rfl, rfl, h1, r1⟩ := trodAll_cons r0
  obtain ⟨rfl, rfl, rfl⟩ := trodAll_nil r1
  obtain rfl : args = #[v0, v1] := by cases args; simp_all
  obtain ⟨rfl, rfl⟩ := trodVars_none hV
  have hb : Rows.uptoBulkAll [d0, d1] ≤ 1048576 := by
    have := of_decide_eq_true hk
    simpa using this
  simp only [Rows.uptoBulkAll, Rows.uptoBulk] at hb
  obtain ⟨u0, n0, hu0, hn0, hok0⟩ := open_dn (hval 0 24 v0 rfl rfl) h0 (fun x hx => by simpa using hW'.lt x (by simp [hx])) (by omega)
  obtain ⟨u1, n1, hu1, hn1, hok1⟩ := open_dn (hval 1 24 v1 rfl rfl) h1 (fun x hx => by simpa using hW'.lt x (by simp [hx])) (by omega)
  obtain ⟨k, hcall⟩ := vrun_some (law8_ok hn0 hn1 hok0 hok1)
  exact law_contract (callOk0 k) (fun _ => rfl) rfl laidOut lets rfl Tryd.underlying4 rfl rfl hW' (vs := [u0, u1]) ⟨_, _, rfl, hu0, ⟨_, _, rfl, hu1, rfl⟩⟩ hcall
noncomputable abbrev theWorld (os : Os) : World := World.laidAll Tryd.prog os Rows.dnKeysUptoRow.laid
theorem laid_met (os : Os) : laidMet Tryd.prog Rows.dnKeysUptoRow.laid ((theWorld os).forCall (fun _ _ => 0) ⟨#[], #[.slice none 0 0, .slice none 0 0], []⟩).memory :=
  laidMet_laidAll _ (by kernel_rfl) (by kernel_rfl)
theorem reads (os : Os) {H : Type} (enc : TypeId × Value → H) : ∃ places, DataW.whole enc Tryd.prog ((theWorld os).forCall (fun _ _ => 0) ⟨#[], #[.slice none 0 0, .slice none 0 0], []⟩).memory Tryd.f8.params.toList Rows.dnKeysSpec.vars false #[Value.slice none 0 0, Value.slice none 0 0].toList 8 = some ([.nil, .nil], [], places) :=
  ⟨[], by kernel_rfl⟩
theorem liftedUpto (os : Os) (started : os.Started) (H : Type) (enc : TypeId × Value → H) (F : Stop.Interp) :
    ReturnsInHanded {} Tryd.checked os 8 .any ((Rows.OpenSpec.upto Rows.dnKeysSpec).preRow enc Tryd.prog Tryd.f8 Rows.dnKeysUptoRow.domain false Rows.dnKeysUptoRow.laid) (((Rows.OpenSpec.upto Rows.dnKeysSpec).at F).post enc Tryd.prog Tryd.f8 false true false false) := by
  obtain ⟨places, hx⟩ := reads os enc
  refine returnsInHanded_of_row (C := Tryd.checked) (s := Rows.OpenSpec.upto Rows.dnKeysSpec) own started (by kernel_rfl) Tryd.func8
    (witness_row_at (enc := enc) (C := Tryd.checked) false (theWorld os) #[.slice none 0 0, .slice none 0 0] (World.laidAll_os _ _ _) (by kernel_rfl) (by kernel_rfl) (by kernel_rfl)
      (OpenSpec.preRow_of_cond 8 hx (by kernel_rfl) (fun k hk => by cases hk; kernel_rfl) (by kernel_rfl) (by first | exact laid_met os | (rw [MakeChecks.laidMetH_plain _ _ _ (by kernel_rfl)]; exact laid_met os)))) ?_
  intro W base args ds gs before hval hW _ hcond _ hL _ _
  exact contract H enc W base args ds gs before hval hW (hcond _ rfl)
theorem saidUpto : Rows.DnKeysUptoSaid :=
  OpenClaim.holds_of_cond 8 Tryd.f8 rfl rfl rfl rfl rfl rfl rfl ⟨rfl, rfl, rfl, rfl, rfl⟩ rfl rfl rfl rfl rfl (by kernel_rfl) Tryd.func8 (by kernel_rfl)
    (of_decide_eq_true (by kernel_rfl)) (by unfold Func.isWrapper; first | (rw [if_pos (by decide +kernel)]; kernel_rfl) | (rw [if_neg (by decide +kernel)]; exact ⟨rfl, rfl⟩))
    (fun os started H enc _ F => by rw [OpenClaim.pre_eq_preRow]; exact liftedUpto os started H enc F)
theorem plain (f : FuncId) (fn : Func) (hf : Tryd.pinned.checked.prog.funcNamed "palatine/palatinelaw12.DnKeys" = some f) (hfn : Tryd.pinned.checked.prog.funcs[f]? = some fn) :
    false = Tryd.pinned.checked.prog.looks [] ∧ ∀ (j : Nat) t, fn.params[j]? = some t → Tryd.pinned.checked.prog.wantsStandIn t = false := by
  obtain rfl : f = 8 := Option.some.inj ((show Tryd.prog.funcNamed "palatine/palatinelaw12.DnKeys" = some 8 by kernel_rfl).symm.trans hf) |>.symm
  obtain rfl : fn = Tryd.f8 := (Option.some.inj (Tryd.func8.symm.trans hfn)).symm
  refine ⟨by kernel_rfl, fun j t ht => ?_⟩
  rw [Tryd.params8] at ht
  have hm := Array.mem_of_getElem? ht
  have hm' : t ∈ ([24, 24] : List TypeId) := by simpa using hm
  simp only [List.mem_cons, List.not_mem_nil, or_false] at hm'
  rcases hm' with rfl | rfl
  · exact (show Tryd.prog.wantsStandIn 24 = false by kernel_rfl)
  · exact (show Tryd.prog.wantsStandIn 24 = false by kernel_rfl)
theorem cardUpto : Rows.DnKeysUptoCardSaid :=
  Claim7.holds_tied_plain_at .later [] _ _ _ _ saidUpto (fun _ h => by cases h) (by kernel_rfl) (fun _ h => by cases h) dnKeysUpto_row_tie rfl ⟨rfl, rfl⟩ (by kernel_rfl) rfl plain (by kernel_rfl)
end Go.Proofs.YtjcckafjopjdbaaDoor.dnKeys
