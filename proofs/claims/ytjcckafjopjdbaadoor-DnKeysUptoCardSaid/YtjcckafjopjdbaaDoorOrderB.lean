import Derived.Test.YtjcckafjopjdbaaDoorOrderA
set_option linter.all false
namespace Go.Proofs.YtjcckafjopjdbaaDoor
open Go Go.Vm
set_option maxRecDepth 100000
set_option maxHeartbeats 8000000
set_option linter.unusedSimpArgs false
set_option linter.unusedVariables false
/-! ### what is folded stays -/
theorem smallB_idem (c : UInt8) : smallB (smallB c) = smallB c := by
  have := all256 (p := fun c => smallB (smallB c) == smallB c) (by decide +kernel) c
  simpa using this
theorem smallS_idem (s : List UInt8) : smallS (smallS s) = smallS s := by
  unfold smallS
  rw [List.map_map]
  exact List.map_congr_left fun c _ => smallB_idem c
theorem split_mem (b : UInt8) : ∀ (j : Nat) (s : List UInt8), s.length = j → ∀ w ∈ splitB b s, ∀ c ∈ w, c ∈ s ∧ c ≠ b := by
  intro j
  induction j using Nat.strongRecOn with
  | _ j ih =>
    intro s hj w hw c hc
    cases hf : s.findIdx? (· == b) with
    | none =>
      rw [splitB_none hf, List.mem_singleton] at hw
      subst hw
      rw [List.findIdx?_eq_none_iff] at hf
      exact ⟨hc, by simpa using hf c hc⟩
    | some k =>
      obtain ⟨hk, _, hno⟩ := List.findIdx?_eq_some_iff_getElem.1 hf
      rw [splitB_some hf] at hw
      rcases List.mem_cons.1 hw with rfl | hw
      · refine ⟨List.mem_of_mem_take hc, ?_⟩
        obtain ⟨q, hq, rfl⟩ := List.getElem_of_mem hc
        rw [List.length_take] at hq
        have := hno q (by omega)
        simpa [List.getElem_take] using this
      · obtain ⟨h1, h2⟩ := ih _ (by simp; omega) (s.drop (k + 1)) rfl w hw c hc
        exact ⟨List.mem_of_mem_drop h1, h2⟩
def words (ws : List (List UInt8)) : List (List UInt8) := ws.filter fun w => !w.isEmpty
def joinT (ws : List (List UInt8)) : List UInt8 := ws.flatMap fun w => 32 :: w
def joinW : List (List UInt8) → List UInt8
  | [] => []
  | w :: ws => w ++ joinT ws
theorem foldW_eq : ∀ (ws : List (List UInt8)) (out : List UInt8), foldW out ws = if out = [] then joinW (words ws) else out ++ joinT (words ws)
  | [], out => by
    rw [foldW]
    split
    · rename_i h; rw [h]; rfl
    · simp [words, joinT]
  | w :: ws, out => by
    rw [foldW]
    by_cases hw : w = []
    · have : words (w :: ws) = words ws := by simp [words, hw]
      rw [if_pos hw, foldW_eq ws out, this]
    · have : words (w :: ws) = w :: words ws := by simp [words, hw]
      rw [if_neg hw, foldW_eq ws, this]
      by_cases ho : out = []
      · subst ho
        rw [if_pos rfl, if_pos rfl, if_neg (by simpa using hw)]
        rfl
      · rw [if_neg ho, if_neg ho, if_neg (by simp)]
        simp [joinT]
theorem foldS_eq (v : List UInt8) : foldS v = joinW (words (splitB 32 (smallS v))) := by
  unfold foldS
  rw [foldW_eq, if_pos rfl]
theorem find_app (b : UInt8) (w r : List UInt8) (hw : ∀ c ∈ w, c ≠ b) : (w ++ b :: r).findIdx? (· == b) = some w.length := by
  rw [List.findIdx?_eq_some_iff_getElem]
  refine ⟨by simp, by simp, fun j hj => ?_⟩
  have := hw w[j] (List.getElem_mem hj)
  simpa [List.getElem_append_left hj] using this
theorem find_no (b : UInt8) (w : List UInt8) (hw : ∀ c ∈ w, c ≠ b) : w.findIdx? (· == b) = none := by
  rw [List.findIdx?_eq_none_iff]
  intro c hc
  simpa using hw c hc
theorem split_join : ∀ (ws : List (List UInt8)) (w : List UInt8), (∀ u ∈ w :: ws, ∀ c ∈ u, c ≠ 32) → splitB 32 (w ++ joinT ws) = w :: ws
  | [], w, h => by
    have : w ++ joinT [] = w := by simp [joinT]
    rw [this, splitB_none (find_no 32 w (h w (by simp)))]
  | u :: ws, w, h => by
    have e : w ++ joinT (u :: ws) = w ++ 32 :: (u ++ joinT ws) := by simp [joinT]
    rw [e, splitB_some (find_app 32 w _ (h w (by simp)))]
    have e1 : (w ++ 32 :: (u ++ joinT ws)).take w.length = w := by simp
    have e2 : (w ++ 32 :: (u ++ joinT ws)).drop (w.length + 1) = u ++ joinT ws := by
      rw [← List.drop_drop]; simp
    rw [e1, e2, split_join ws u (fun x hx => h x (by simp [List.mem_cons.1 hx]))]
theorem joinW_small (ws : List (List UInt8)) (h : ∀ w ∈ ws, ∀ c ∈ w, smallB c = c) : smallS (joinW ws) = joinW ws := by
  have key : ∀ c ∈ joinW ws, smallB c = c := by
    intro c hc
    cases ws with
    | nil => simp [joinW] at hc
    | cons w ws =>
      simp only [joinW, joinT, List.mem_append, List.mem_flatMap, List.mem_cons] at hc
      rcases hc with hc | ⟨u, hu, rfl | hc⟩
      · exact h w (by simp) c hc
      · decide
      · exact h u (by simp [hu]) c hc
  unfold smallS
  conv => rhs; rw [← List.map_id (joinW ws)]
  exact List.map_congr_left key
theorem foldS_words (v : List UInt8) : ∀ w ∈ words (splitB 32 (smallS v)), w ≠ [] ∧ ∀ c ∈ w, c ≠ 32 ∧ smallB c = c := by
  intro w hw
  obtain ⟨h1, h2⟩ := List.mem_filter.1 hw
  refine ⟨by simpa using h2, fun c hc => ?_⟩
  obtain ⟨h3, h4⟩ := split_mem 32 _ _ rfl w h1 c hc
  refine ⟨h4, ?_⟩
  obtain ⟨d, _, rfl⟩ := List.mem_map.1 h3
  exact smallB_idem d
theorem foldS_idem (v : List UInt8) : foldS (foldS v) = foldS v := by
  have hw := foldS_words v
  rw [foldS_eq (foldS v), foldS_eq v]
  generalize words (splitB 32 (smallS v)) = ws at hw
  rw [joinW_small ws fun w hx c hc => ((hw w hx).2 c hc).2]
  cases ws with
  | nil =>
    show joinW (words (splitB 32 [])) = []
    rw [splitB_none (by simp)]
    rfl
  | cons w ws =>
    show joinW (words (splitB 32 (w ++ joinT ws))) = _
    rw [split_join ws w fun u hu c hc => ((hw u hu).2 c hc).1]
    have : words (w :: ws) = w :: ws := by
      unfold words
      rw [List.filter_eq_self]
      intro u hu
      have := (hw u hu).1
      simpa using this
    rw [this]
theorem words_sum : ∀ ws : List (List UInt8), wsum (words ws) ≤ wsum ws
  | [] => Nat.le_refl _
  | w :: ws => by
    have := words_sum ws
    by_cases hw : w = []
    · have e : words (w :: ws) = words ws := by simp [words, hw]
      rw [e]
      simp only [wsum, List.map_cons, List.sum_cons] at this ⊢
      omega
    · have e : words (w :: ws) = w :: words ws := by simp [words, hw]
      rw [e]
      simp only [wsum, List.map_cons, List.sum_cons] at this ⊢
      omega
theorem joinT_len : ∀ ws : List (List UInt8), (joinT ws).length = wsum ws
  | [] => rfl
  | w :: ws => by
    have := joinT_len ws
    simp only [joinT, wsum, List.flatMap_cons, List.map_cons, List.sum_cons, List.length_append, List.length_cons] at this ⊢
    omega
theorem foldS_len (v : List UInt8) : (foldS v).length ≤ v.length := by
  rw [foldS_eq]
  have h1 := words_sum (splitB 32 (smallS v))
  rw [wsum_split 32 _ _ rfl, smallS_len] at h1
  cases hws : words (splitB 32 (smallS v)) with
  | nil => simp [joinW]
  | cons w ws =>
    rw [hws] at h1
    simp only [joinW, List.length_append, joinT_len]
    simp only [wsum, List.map_cons, List.sum_cons] at h1 ⊢
    omega
theorem normA_idem (a : Ava) : normA (normA a) = normA a := by
  unfold normA
  simp only [smallS_idem, foldS_idem]
theorem normR_idem (r : List Ava) : normR (normR r) = normR r := by
  unfold normR
  have : (srt (r.map normA)).map normA = srt (r.map normA) := by
    conv => rhs; rw [← List.map_id (srt (r.map normA))]
    refine List.map_congr_left fun x hx => ?_
    obtain ⟨y, _, rfl⟩ := List.mem_map.1 (srt_mem.1 hx)
    exact normA_idem y
  rw [this, srt_of_sorted (srt_sorted _)]
theorem normN_idem (n : List (List Ava)) : normN (normN n) = normN n := by
  unfold normN
  rw [List.map_map]
  exact List.map_congr_left fun r _ => normR_idem r
theorem normN_ok {n : List (List Ava)} (h : okN n) : okN (normN n) := by
  refine ⟨by rw [normN_len]; exact h.1, fun r hr => ?_⟩
  obtain ⟨s, hs, rfl⟩ := List.mem_map.1 hr
  have hS := h.2 s hs
  refine ⟨by simpa [normR, srt_len] using hS.1, fun a ha => ?_⟩
  obtain ⟨y, hy, rfl⟩ := List.mem_map.1 (srt_mem.1 ha)
  have := hS.2 y hy
  exact ⟨by simpa [normA, smallS_len] using this.1, Nat.le_trans (foldS_len _) this.2⟩
/-- DnFolds: what is folded stays. -/
theorem law5_ok (s : List UInt8) {v : V} {n : List (List Ava)} (hn : isDn [] v n) (hs : s.length ≤ 1048576) (on : okN n) : vrun E0 (.fn 5) [.str s, v] [] = some (.bool true, []) := by
  refine fn_ws Tryd.func5 rfl ?_
  have haw := awake_run
  have f1 := Fold_ok s [] hs
  have f2 := Fold_ok (foldS s) [] (Nat.le_trans (foldS_len s) hs)
  rw [foldS_idem] at f2
  have om := normN_ok on
  obtain ⟨x, hx, dx⟩ := Norm_ok hn on (sorts_all on)
  obtain ⟨y, hy, dy⟩ := Norm_ok (dx []) om (sorts_all om)
  rw [normN_idem] at dy
  have h1 := One_ok (dx []) (dy []) om om
  rw [decide_eq_true rfl] at h1
  have h2 := Same_ok hn (dx []) on om (sorts_all on) (sorts_all om)
  rw [normN_idem, decide_eq_true rfl] at h2
  have hl : (((foldS s).length : Nat) : Int) ≤ ((s.length : Nat) : Int) := by have := foldS_len s; omega
  have he : (foldS s == foldS s) = true := beq_self_eq_true _
  repeat (first | refine WS.seq ?_ | refine WS.skip ?_ | refine WS.label ?_ | refine WS.block ?_ | refine WS.inBlock ?_ | refine WS.exit rfl ?_ | refine WS.scope ?_ | refine WS.inScope ?_ | refine WS.region (by simp only [EV, TY, lget, callV_9, callV_17, callV_18, callV_12, callV_15, haw, f1, f2, hx, hy, h1, h2, he, hl, ↓reduceIte, Nat.reduceEqDiff, decide_true, decide_false, eq_self]; with_reducible rfl) ?_)
  refine WS.ret1s (t := 4) rfl rfl (List.prefix_refl _) (frz_bool _ _ _) ?_
  simp only [EV, lget, ↓reduceIte, Nat.reduceEqDiff, decide_true, decide_false, eq_self, and_true, true_and, and_self]
end Go.Proofs.YtjcckafjopjdbaaDoor
