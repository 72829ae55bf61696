import Derived.Test.YtjcckafjopjdbaaDoorPartK
import Derived.Test.YtjcckafjopjdbaaDoorAwake
set_option linter.all false
namespace Go.Proofs.YtjcckafjopjdbaaDoor
open Go Go.Vm
set_option maxRecDepth 100000
set_option maxHeartbeats 8000000
set_option linter.unusedSimpArgs false
set_option linter.unusedVariables false
/-! ### a name's text is read as that name -/
theorem digs_ok (c : UInt8) (h : c < 32 ∨ c = 127) : isIn escL (digS (c.toNat / 16)) = false ∧ 0 ≤ dhex (digS (c.toNat / 16)) ∧ 0 ≤ dhex (digS (c.toNat % 16)) ∧ hexByte (digS (c.toNat / 16)) (digS (c.toNat % 16)) = c := by
  have := all256 (p := fun c => !(decide (c < 32 ∨ c = 127)) || (!isIn escL (digS (c.toNat / 16)) && decide (0 ≤ dhex (digS (c.toNat / 16))) && decide (0 ≤ dhex (digS (c.toNat % 16))) && (hexByte (digS (c.toNat / 16)) (digS (c.toNat % 16)) == c))) (by decide +kernel) c
  rw [decide_eq_true h] at this
  simpa [and_assoc] using this
theorem esc_in (c : UInt8) (h : isIn spL c = true ∨ c = 35 ∨ c = 32) : isIn escL c = true := by
  have := all256 (p := fun c => !(isIn spL c || c == 35 || c == 32) || isIn escL c) (by decide +kernel) c
  rcases h with h | h | h
  · simpa [h] using this
  · subst h; decide
  · subst h; decide
theorem spl_not (c : UInt8) (h : ¬ isIn spL c = true) : c ≠ 44 ∧ c ≠ 43 ∧ c ≠ 92 := by
  refine ⟨?_, ?_, ?_⟩ <;> intro e <;> subst e <;> exact h (by decide)
def Ends (rest : List UInt8) : Prop := rest = [] ∨ (∃ t, rest = 44 :: t) ∨ ∃ t, rest = 43 :: t
theorem finR_ok {out : List UInt8} {bare : Bool} {s : List UInt8} (h : ¬ (out ≠ [] ∧ out.getD (out.length - 1) 0 = 32 ∧ bare = true)) : finR out bare s = some (out, s) := if_neg h
theorem readL_end {out : List UInt8} {bare : Bool} {rest : List UInt8} (he : Ends rest) (h : ¬ (out ≠ [] ∧ out.getD (out.length - 1) 0 = 32 ∧ bare = true)) : readL out bare rest = some (out, rest) := by
  rcases he with rfl | ⟨t, rfl⟩ | ⟨t, rfl⟩
  · rw [readL]; exact finR_ok h
  · rw [readL, if_pos (.inl rfl)]; exact finR_ok h
  · rw [readL, if_pos (.inr rfl)]; exact finR_ok h
theorem readL_esc {out : List UInt8} {bare : Bool} {t : List UInt8} {c : UInt8} {k : Nat} (h : escS (92 :: t) = (c, k)) (hk : k ≠ 0) : readL out bare (92 :: t) = readL (out ++ [c]) false ((92 :: t).drop k) := by
  rw [readL, if_neg (by decide), if_pos rfl]
  rw [h]
  simp only
  rw [dif_neg hk]
theorem read_value (n : Nat) (rest : List UInt8) (he : Ends rest) : ∀ (s : List UInt8) (i : Nat) (out : List UInt8) (bare : Bool), i + s.length = n → out.length = i → (s = [] → ¬ (out ≠ [] ∧ out.getD (out.length - 1) 0 = 32 ∧ bare = true)) →
    readL out bare (valF n i s ++ rest) = some (out ++ s, rest)
  | [], i, out, bare, h1, h2, h3 => by
    rw [valF, List.nil_append, List.append_nil]
    exact readL_end he (h3 rfl)
  | c :: s, i, out, bare, h1, h2, h3 => by
    simp only [List.length_cons] at h1
    have ih := fun bare h => read_value n rest he s (i + 1) (out ++ [c]) bare (by omega) (by simp; omega) h
    have e : out ++ c :: s = (out ++ [c]) ++ s := by simp
    rw [valF, e, List.append_assoc]
    generalize valF n (i + 1) s ++ rest = t at ih
    unfold valB
    by_cases c1 : c < 32 ∨ c = 127
    · rw [if_pos c1]
      obtain ⟨d1, d2, d3, d4⟩ := digs_ok c c1
      have hesc : escS (92 :: digS (c.toNat / 16) :: digS (c.toNat % 16) :: t) = (c, 3) := by
        unfold escS
        rw [if_neg (by simp only [List.getD_cons_succ, List.getD_cons_zero, d1]; simp), if_pos ⟨by simp, d2, d3⟩]
        simp only [List.getD_cons_succ, List.getD_cons_zero, d4]
      show readL out bare (92 :: digS (c.toNat / 16) :: digS (c.toNat % 16) :: t) = _
      rw [readL_esc hesc (by decide)]
      exact ih false (fun _ h => by simp at h)
    · rw [if_neg c1]
      by_cases c2 : isIn spL c = true ∨ (i = 0 ∧ (c = 35 ∨ c = 32)) ∨ (i + 1 = n ∧ c = 32)
      · rw [if_pos c2]
        have hin : isIn escL c = true := esc_in c (by
          rcases c2 with h | ⟨_, h⟩ | ⟨_, h⟩
          · exact .inl h
          · exact .inr h
          · exact .inr (.inr h))
        have hesc : escS (92 :: c :: t) = (c, 2) := by
          unfold escS
          rw [if_pos ⟨by simp, hin⟩]
          rfl
        show readL out bare (92 :: c :: t) = _
        rw [readL_esc hesc (by decide)]
        exact ih false (fun _ h => by simp at h)
      · rw [if_neg c2]
        have n1 : ¬ isIn spL c = true := fun h => c2 (.inl h)
        obtain ⟨n2, n3, n4⟩ := spl_not c n1
        have n5 : c ≠ 0 := fun h => c1 (.inl (by subst h; decide))
        show readL out bare (c :: t) = _
        rw [readL, if_neg (fun h => h.elim n2 n3), if_neg n4, if_neg]
        · refine ih true fun hs h => ?_
          subst hs
          have : (out ++ [c]).getD ((out ++ [c]).length - 1) 0 = c := by simp [List.getD]
          rw [this] at h
          exact c2 (.inr (.inr ⟨by simp at h1; omega, h.2.1⟩))
        · rintro (h | h | ⟨h, g⟩)
          · exact n5 h
          · exact n1 h
          · subst h
            exact c2 (.inr (.inl ⟨by simpa using h2.symm, g⟩))
theorem read_valueS (v rest : List UInt8) (he : Ends rest) : readL [] true (valueS v ++ rest) = some (v, rest) := by
  have := read_value v.length rest he v 0 [] true (by omega) rfl (fun _ h => h.1 rfl)
  simpa [valueS] using this
theorem tyCh_no (i : Nat) (c : UInt8) (h : tyCh i c = true) : c ≠ 61 ∧ c ≠ 0 := by
  unfold tyCh at h
  constructor
  · intro e
    subst e
    have h1 : letterZ (((61 : UInt8).toNat : Nat) : Int) = false := by decide
    have h2 : digitZ (((61 : UInt8).toNat : Nat) : Int) = false := by decide
    rw [h1, h2] at h
    revert h
    cases (i == 0) <;> decide
  · intro e
    subst e
    have h1 : letterZ (((0 : UInt8).toNat : Nat) : Int) = false := by decide
    have h2 : digitZ (((0 : UInt8).toNat : Nat) : Int) = false := by decide
    rw [h1, h2] at h
    revert h
    cases (i == 0) <;> decide
theorem type_chars (t : List UInt8) (h : typeB t = true) : t ≠ [] ∧ ∀ c ∈ t, c ≠ 61 ∧ c ≠ 0 := by
  unfold typeB at h
  rw [Bool.and_eq_true, Bool.and_eq_true] at h
  obtain ⟨⟨h1, _⟩, h2⟩ := h
  have h1 := of_decide_eq_true h1
  refine ⟨fun e => by subst e; simp at h1, fun c hc => ?_⟩
  obtain ⟨q, hq, rfl⟩ := List.getElem_of_mem hc
  have := List.all_eq_true.1 h2 q (List.mem_range.2 hq)
  have := tyCh_no q _ this
  simpa [List.getD, hq] using this
theorem find_type (t r : List UInt8) (h : typeB t = true) : (t ++ 61 :: r).findIdx? (· == 61) = some t.length := by
  have hw := (type_chars t h).2
  rw [List.findIdx?_eq_some_iff_getElem]
  refine ⟨by simp, by simp, fun j hj => ?_⟩
  have := (hw t[j] (List.getElem_mem hj)).1
  simpa [List.getElem_append_left hj] using this
/-- One ava's text. -/
theorem parse_ava (acc : List (List Ava)) (r : List Ava) (a : Ava) (ht : typeB a.1 = true) (rest : List UInt8) (he : Ends rest) :
    parseL acc r (textA a ++ rest) = if rest = [] then some (acc ++ [r ++ [a]]) else if rest.getD 0 0 = 44 then parseL (acc ++ [r ++ [a]]) [] (rest.drop 1) else parseL acc (r ++ [a]) (rest.drop 1) := by
  have e : textA a ++ rest = a.1 ++ 61 :: (valueS a.2 ++ rest) := by simp [textA]
  rw [e]
  have hf := find_type a.1 (valueS a.2 ++ rest) ht
  have hd : (a.1 ++ 61 :: (valueS a.2 ++ rest)).drop (a.1.length + 1) = valueS a.2 ++ rest := by
    rw [← List.drop_drop]; simp
  have hr : readL [] true ((a.1 ++ 61 :: (valueS a.2 ++ rest)).drop (a.1.length + 1)) = some (a.2, rest) := by
    rw [hd]; exact read_valueS a.2 rest he
  rw [parseL_some _ _ _ hf hr]
  have htk : (a.1 ++ 61 :: (valueS a.2 ++ rest)).take a.1.length = a.1 := by simp
  rw [htk]
def EndsC (rest : List UInt8) : Prop := rest = [] ∨ ∃ t, rest = 44 :: t
/-- A step's text. -/
theorem parse_step (acc : List (List Ava)) (rest : List UInt8) (he : EndsC rest) : ∀ (az : List Ava) (r : List Ava) (a : Ava), typeB a.1 = true → (∀ x ∈ az, typeB x.1 = true) →
    parseL acc r (textA a ++ (az.flatMap (fun x => 43 :: textA x) ++ rest)) = if rest = [] then some (acc ++ [r ++ a :: az]) else parseL (acc ++ [r ++ a :: az]) [] (rest.drop 1)
  | [], r, a, ha, _ => by
    rw [List.flatMap_nil, List.nil_append]
    rcases he with rfl | ⟨t, rfl⟩
    · rw [parse_ava _ _ _ ha _ (.inl rfl), if_pos rfl, if_pos rfl]
    · rw [parse_ava _ _ _ ha _ (.inr (.inl ⟨t, rfl⟩)), if_neg (by simp), if_pos (show (44 :: t).getD 0 0 = 44 from rfl), if_neg (by simp)]
  | b :: az, r, a, ha, h => by
    have e : (b :: az).flatMap (fun x => 43 :: textA x) ++ rest = 43 :: (textA b ++ (az.flatMap (fun x => 43 :: textA x) ++ rest)) := by simp
    rw [e, parse_ava _ _ _ ha _ (.inr (.inr ⟨_, rfl⟩)), if_neg (by simp), if_neg (by simp)]
    simp only [List.drop_succ_cons, List.drop_zero]
    rw [parse_step acc rest he az (r ++ [a]) b (h b (by simp)) (fun x hx => h x (by simp [hx]))]
    simp
def stepT (r : List Ava) : Prop := r ≠ [] ∧ ∀ x ∈ r, typeB x.1 = true
theorem stepS_cons (a : Ava) (az : List Ava) : stepS (a :: az) = textA a ++ az.flatMap (fun x => 43 :: textA x) := by
  simp [stepS, joinC, List.flatMap_map]
theorem parse_steps : ∀ (n : List (List Ava)) (acc : List (List Ava)) (r : List Ava), stepT r → (∀ x ∈ n, stepT x) → parseL acc [] (stepS r ++ n.flatMap (fun x => 44 :: stepS x)) = some (acc ++ r :: n)
  | [], acc, r, hr, _ => by
    obtain ⟨h0, ht⟩ := hr
    cases r with
    | nil => exact absurd rfl h0
    | cons a az =>
      have e : stepS (a :: az) ++ ([] : List (List Ava)).flatMap (fun x => 44 :: stepS x) = textA a ++ (az.flatMap (fun x => 43 :: textA x) ++ []) := by rw [stepS_cons]; simp
      rw [e, parse_step acc [] (.inl rfl) az [] a (ht a (by simp)) (fun x hx => ht x (by simp [hx])), if_pos rfl]
      simp
  | b :: n, acc, r, hr, h => by
    obtain ⟨h0, ht⟩ := hr
    cases r with
    | nil => exact absurd rfl h0
    | cons a az =>
      have e : stepS (a :: az) ++ (b :: n).flatMap (fun x => 44 :: stepS x) = textA a ++ (az.flatMap (fun x => 43 :: textA x) ++ 44 :: (stepS b ++ n.flatMap (fun x => 44 :: stepS x))) := by rw [stepS_cons]; simp
      rw [e, parse_step acc _ (.inr ⟨_, rfl⟩) az [] a (ht a (by simp)) (fun x hx => ht x (by simp [hx])), if_neg (by simp)]
      simp only [List.drop_succ_cons, List.drop_zero, List.nil_append]
      rw [parse_steps n (acc ++ [a :: az]) b (h b (by simp)) (fun x hx => h x (by simp [hx]))]
      simp
theorem stepT_of {n : List (List Ava)} (sh : shapedP n) : ∀ r ∈ n, stepT r := by
  intro r hr
  obtain ⟨i, hi, rfl⟩ := List.getElem_of_mem hr
  have h := sh.2 i hi
  rw [show n.getD i [] = n[i] by simp [List.getD, hi]] at h
  refine ⟨fun e => by have := h.1; rw [e] at this; simp at this, fun x hx => ?_⟩
  obtain ⟨q, hq, rfl⟩ := List.getElem_of_mem hx
  have := (h.2.2 q hq).1
  simpa [List.getD, hq] using this
theorem printS_cons (r : List Ava) (n : List (List Ava)) : printS (r :: n) = stepS r ++ n.flatMap (fun x => 44 :: stepS x) := by
  simp [printS, joinC, List.flatMap_map]
theorem parse_print {n : List (List Ava)} (h : rightP n) : parseN (printS n) = (n, 0) := by
  obtain ⟨sh, hl⟩ := h
  cases n with
  | nil => exact parseN_nil
  | cons r n =>
    have ht := stepT_of sh
    have hp : parseL [] [] (printS (r :: n)) = some (r :: n) := by
      rw [printS_cons]
      simpa using parse_steps n [] r (ht r (by simp)) (fun x hx => ht x (by simp [hx]))
    have h0 : printS (r :: n) ≠ [] := fun e => by
      rw [e, parseL_bad _ _ _ rfl] at hp
      cases hp
    rw [parseN_some (by omega) h0 hp, if_pos (shapedB_true sh)]
/-- DnBack: a name's text is read as that name. -/
theorem law7_ok {v : V} {n : List (List Ava)} (hn : isDn [] v n) (on : okN n) : vrun E0 (.fn 7) [v] [] = some (.bool true, []) := by
  refine fn_ws Tryd.func7 rfl ?_
  have haw := awake_run
  have hr := Right_ok hn on
  by_cases hb : rightB n = true
  · have hp := (rightB_iff n).1 hb
    have h1 := Print_ok hn on hp.1
    obtain ⟨w, hw, dw⟩ := Parse_ok (printS n) [] (by have := hp.2; omega)
    rw [parse_print hp] at hw dw
    have h2 := One_ok hn (dw []) on on
    rw [decide_eq_true rfl] at h2
    have z0 : ((0 : Int) == 0) = true := rfl
    have hl : (((printS n).length : Nat) : Int) ≤ 400 := by have := hp.2; omega
    simp only at hw
    repeat (first | refine WS.seq ?_ | refine WS.skip ?_ | refine WS.label ?_ | refine WS.block ?_ | refine WS.inBlock ?_ | refine WS.exit rfl ?_ | refine WS.scope ?_ | refine WS.inScope ?_ | refine WS.region (by simp only [EV, TY, lget, callV_9, callV_19, haw, hr, hb, Bool.not_true, ↓reduceIte, Nat.reduceEqDiff, decide_true, decide_false, eq_self]; with_reducible rfl) ?_)
    refine WS.cond_false (by simp only [EV, lget, ↓reduceIte, Nat.reduceEqDiff, decide_true, decide_false, eq_self]) ?_
    repeat (first | refine WS.seq ?_ | refine WS.skip ?_ | refine WS.label ?_ | refine WS.block ?_ | refine WS.inBlock ?_ | refine WS.exit rfl ?_ | refine WS.scope ?_ | refine WS.inScope ?_ | refine WS.region (by simp only [EV, TY, lget, callV_20, h1, callV_10, hw, callV_12, h2, z0, hl, ↓reduceIte, Nat.reduceEqDiff, decide_true, decide_false, eq_self]; with_reducible rfl) ?_)
    refine WS.ret1s (t := 2) rfl rfl (List.prefix_refl _) (frz_bool _ _ _) ?_
    simp only [EV, lget, ↓reduceIte, Nat.reduceEqDiff, decide_true, decide_false, eq_self, and_true, true_and, and_self]
  · have hb : rightB n = false := by simpa using hb
    repeat (first | refine WS.seq ?_ | refine WS.skip ?_ | refine WS.label ?_ | refine WS.block ?_ | refine WS.inBlock ?_ | refine WS.exit rfl ?_ | refine WS.scope ?_ | refine WS.inScope ?_ | refine WS.region (by simp only [EV, TY, lget, callV_9, callV_19, haw, hr, hb, Bool.not_false, ↓reduceIte, Nat.reduceEqDiff, decide_true, decide_false, eq_self]; with_reducible rfl) ?_)
    refine WS.cond_true (by simp only [EV, lget, ↓reduceIte, Nat.reduceEqDiff, decide_true, decide_false, eq_self]) ?_
    repeat (first | refine WS.seq ?_ | refine WS.skip ?_ | refine WS.label ?_ | refine WS.block ?_ | refine WS.inBlock ?_ | refine WS.exit rfl ?_ | refine WS.scope ?_ | refine WS.inScope ?_ | refine WS.region (by simp only [EV, TY, lget, ↓reduceIte, Nat.reduceEqDiff, decide_true, decide_false, eq_self]; with_reducible rfl) ?_)
    refine WS.ret1s (t := 2) rfl rfl (List.prefix_refl _) (frz_bool _ _ _) ?_
    simp only [EV, lget, ↓reduceIte, Nat.reduceEqDiff, decide_true, decide_false, eq_self, and_true, true_and, and_self]
end Go.Proofs.YtjcckafjopjdbaaDoor
