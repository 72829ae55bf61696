import Derived.Test.YtjcckafjopjdbaaDoorPartI
import Derived.Test.YtjcckafjopjdbaaDoorAwake
set_option linter.all false
namespace Go.Proofs.YtjcckafjopjdbaaDoor
open Go Go.Vm
set_option maxRecDepth 100000
set_option maxHeartbeats 8000000
set_option linter.unusedSimpArgs false
set_option linter.unusedVariables false
theorem sorts_all {n : List (List Ava)} (h : okN n) : SortsN n := fun r hr => sortOk_all _ (h.2 r hr).1
theorem normN_drop (n : List (List Ava)) (k : Nat) : normN (n.drop k) = (normN n).drop k := List.map_drop ..
theorem normN_len (n : List (List Ava)) : (normN n).length = n.length := by simp [normN]
/-- Under: the end of it, as it is compared. -/
theorem under_iff (a b : List (List Ava)) : underB a b = true ↔ normN b <:+ normN a := by
  unfold underB
  rw [decide_eq_true_iff, normN_drop]
  constructor
  · rintro ⟨_, h⟩
    rw [← h]; exact List.drop_suffix _ _
  · intro h
    have hl := h.length_le
    rw [normN_len, normN_len] at hl
    refine ⟨hl, ?_⟩
    have := List.suffix_iff_eq_drop.1 h
    rw [normN_len, normN_len] at this
    exact this.symm
theorem under_self (a : List (List Ava)) : underB a a = true := (under_iff a a).2 (List.suffix_refl _)
theorem under_trans {a b c : List (List Ava)} (h : underB a b = true) (g : underB b c = true) : underB a c = true := (under_iff a c).2 (((under_iff b c).1 g).trans ((under_iff a b).1 h))
theorem under_both (a b : List (List Ava)) : (underB a b && underB b a) = decide (normN a = normN b) := by
  by_cases h : normN a = normN b
  · rw [decide_eq_true h, (under_iff a b).2 (by rw [h]; exact List.suffix_refl _), (under_iff b a).2 (by rw [h]; exact List.suffix_refl _)]
    rfl
  · rw [decide_eq_false h]
    cases h1 : underB a b with
    | false => rfl
    | true =>
      cases h2 : underB b a with
      | false => rfl
      | true =>
        exact absurd (((under_iff b a).1 h2).sublist.eq_of_length_le ((under_iff a b).1 h1).length_le) h
/-- DnOrder: being one, and being under, are in order. -/
theorem law4_ok {va vb vc : V} {a b c : List (List Ava)} (ha : isDn [] va a) (hb : isDn [] vb b) (hc : isDn [] vc c) (oa : okN a) (ob : okN b) (oc : okN c) : vrun E0 (.fn 4) [va, vb, vc] [] = some (.bool true, []) := by
  refine fn_ws Tryd.func4 rfl ?_
  have haw := awake_run
  have saa := Same_ok ha ha oa oa (sorts_all oa) (sorts_all oa)
  have sab := Same_ok ha hb oa ob (sorts_all oa) (sorts_all ob)
  have sba := Same_ok hb ha ob oa (sorts_all ob) (sorts_all oa)
  have uab := Under_ok ha hb oa ob (sorts_all oa) (sorts_all ob)
  have ubc := Under_ok hb hc ob oc (sorts_all ob) (sorts_all oc)
  have uac := Under_ok ha hc oa oc (sorts_all oa) (sorts_all oc)
  have uaa := Under_ok ha ha oa oa (sorts_all oa) (sorts_all oa)
  have uba := Under_ok hb ha ob oa (sorts_all ob) (sorts_all oa)
  rw [decide_eq_true rfl] at saa
  rw [under_self] at uaa
  have hsym : decide (normN b = normN a) = decide (normN a = normN b) := by
    by_cases h : normN a = normN b
    · rw [decide_eq_true h, decide_eq_true h.symm]
    · rw [decide_eq_false h, decide_eq_false (fun e => h e.symm)]
  rw [hsym] at sba
  have htr := @under_trans a b c
  have hbo := under_both a b
  generalize decide (normN a = normN b) = p at sab sba hbo
  generalize underB a b = x at uab htr hbo
  generalize underB b c = y at ubc htr
  generalize underB a c = z at uac htr
  generalize underB b a = w at uba hbo
  have ht : ∀ v, vrun E0 (.fn 15) v [] = vrun E0 (.fn 15) v [] := fun _ => rfl
  have hp : (p == p) = true := beq_self_eq_true p
  have b1 : (false == false) = true := rfl
  have b2 : (true == true) = true := rfl
  subst hbo
  have hs : ∀ k : List Todo, ∀ fr S, lget fr 6 = .bool true → S = [] → WS E0 (.code .ret :: k) fr S (FnEnds E0 4 Tryd.f4 [] (.bool true, [])) := fun k fr S h1 h2 => by
    subst h2
    exact WS.ret1s (t := 6) rfl rfl (List.prefix_refl _) (frz_bool _ _ _) h1
  cases x <;> cases y <;> cases z <;> cases w <;> first
    | exact Bool.noConfusion (htr rfl rfl)
    | (repeat (first | refine WS.seq ?_ | refine WS.skip ?_ | refine WS.label ?_ | refine WS.block ?_ | refine WS.inBlock ?_ | refine WS.exit rfl ?_ | refine WS.scope ?_ | refine WS.inScope ?_ | refine WS.region (by simp only [EV, TY, lget, callV_9, callV_15, callV_16, haw, saa, sab, sba, uab, ubc, uac, uaa, uba, beq4, Bool.not_true, Bool.not_false, Bool.and_true, Bool.and_false, Bool.false_and, Bool.true_and, b1, b2, ↓reduceIte, Nat.reduceEqDiff, decide_true, decide_false, eq_self]; with_reducible rfl) ?_)
       refine hs _ _ _ ?_ rfl
       simp only [EV, lget, ↓reduceIte, Nat.reduceEqDiff, decide_true, decide_false, eq_self, and_true, true_and, and_self])
end Go.Proofs.YtjcckafjopjdbaaDoor
