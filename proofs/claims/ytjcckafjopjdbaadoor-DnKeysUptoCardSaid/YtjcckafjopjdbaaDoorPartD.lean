import Derived.Test.YtjcckafjopjdbaaDoorPartC
import Derived.Test.YtjcckafjopjdbaaDoorVmF
set_option linter.all false
namespace Go.Proofs.YtjcckafjopjdbaaDoor
open Go Go.Vm
set_option maxRecDepth 100000
set_option maxHeartbeats 4000000
set_option linter.unusedSimpArgs false
set_option linter.unusedVariables false
theorem ty38 : ETy E0 38 40 2 32 (.agg [.str [], .str []]) := ⟨Tryd.underlying38, elemT_38, tsize_40, by kernel_rfl, zeroV_40, rfl, rfl, by omega, by omega⟩
theorem ty24 : ETy E0 24 38 1 24 .slN := ⟨Tryd.underlying24, elemT_24, tsize_38, by kernel_rfl, zeroV_38, rfl, rfl, by omega, by omega⟩
/-! ### a name that is being made: where its steps lie, and they -/
abbrev Q := List (Nat × List Ava)
def innV (x : Nat × List Ava) : V := .slR x.1 0 x.2.length x.2.length 2
def InQ (n0 : Nat) (S : Store) (q : Q) : Prop := ∀ x ∈ q, n0 ≤ x.1 ∧ S[x.1]? = some (.cells (x.2.flatMap avaC) 40)
def names (q : Q) : List (List Ava) := q.map (·.2)
theorem InQ.more {n0 : Nat} {S : Store} {q : Q} (h : InQ n0 S q) (l : Store) : InQ n0 (S ++ l) q := fun x hx => by
  obtain ⟨h1, h2⟩ := h x hx
  exact ⟨h1, by rw [List.getElem?_append_left (List.getElem?_eq_some_iff.1 h2).1]; exact h2⟩
theorem InQ.set {n0 : Nat} {S : Store} {q : Q} (h : InQ n0 S q) (p : Nat) (o : Ob) (hd : ∀ x ∈ q, x.1 ≠ p) : InQ n0 (S.set p o) q := fun x hx => by
  obtain ⟨h1, h2⟩ := h x hx
  exact ⟨h1, by rw [List.getElem?_set_ne (fun e => hd x hx e.symm)]; exact h2⟩
theorem InQ.add {n0 : Nat} {S : Store} {q : Q} (h : InQ n0 S q) {x : Nat × List Ava} (hx : n0 ≤ x.1 ∧ S[x.1]? = some (.cells (x.2.flatMap avaC) 40)) : InQ n0 S (q ++ [x]) := by
  intro y hy
  rcases List.mem_append.1 hy with h1 | h1
  · exact h y h1
  · rw [List.mem_singleton] at h1
    rw [h1]; exact hx
theorem InQ.left {n0 : Nat} {S : Store} {q q' : Q} (h : InQ n0 S (q ++ q')) : InQ n0 S q := fun x hx => h x (List.mem_append_left _ hx)
theorem made_isDn {n0 : Nat} {S : Store} {q : Q} {o : Nat} (h : InQ n0 S q) (ho : S[o]? = some (.cells (q.map innV) 38)) : isDn S (.slR o 0 q.length q.length 1) (names q) := by
  refine ⟨q.map innV, ⟨by simp [names], .inr (.inr ⟨o, 0, q.length, _, 38, by simp [names], by simp [names], ho, by simp [names, List.take_of_length_le]⟩)⟩, fun i hi => ?_⟩
  have hi' : i < q.length := by simpa [names] using hi
  refine ⟨innV q[i], by simp [hi'], ?_⟩
  have e : (names q).getD i [] = (q[i]).2 := by simp [names, List.getD, hi']
  rw [e]
  obtain ⟨h1, h2⟩ := h q[i] (List.getElem_mem hi')
  exact ⟨flat_len _, .inr (.inr ⟨_, 0, _, _, 40, rfl, Nat.le_refl _, h2, by rw [List.drop_zero, ← flat_len, List.take_length]⟩)⟩
def innI (x : Nat × List Ava) : V := .slI x.2.length (x.2.flatMap avaC)
theorem frzIn_strs (d n : Nat) (S : Store) : ∀ r : List Ava, (r.flatMap avaC).mapM (frzIn (d + 1) n S) = some (r.flatMap avaC)
  | [] => rfl
  | a :: r => by
    simp only [List.flatMap_cons, avaC, List.cons_append, List.nil_append, List.mapM_cons]
    rw [frzIn_strs d n S r]
    rfl
theorem frzIn_q (d n0 : Nat) (S : Store) : ∀ q : Q, InQ n0 S q → (q.map innV).mapM (frzIn (d + 2) n0 S) = some (q.map innI)
  | [], h => rfl
  | x :: q, h => by
    obtain ⟨h1, h2⟩ := h x (by simp)
    have ih := frzIn_q d n0 S q (fun y hy => h y (by simp [hy]))
    have hx : frzIn (d + 2) n0 S (innV x) = some (innI x) := by
      have hc : cellsAt S (.ref x.1 0) (x.2.length * 2) = some (x.2.flatMap avaC) := by
        have hl := flat_len x.2
        generalize x.2.flatMap avaC = cs at h2 hl
        simp [cellsAt, cellsOf, h2, tk, ← hl]
      have hn : ¬ x.1 < n0 := by omega
      show (if x.1 < n0 then none else (cellsAt S (.ref x.1 0) (x.2.length * 2)).bind fun cs => (cs.mapM (frzIn (d + 1) n0 S)).bind fun cs => some (V.slI x.2.length cs)) = _
      rw [if_neg hn, hc, Option.bind_some, frzIn_strs, Option.bind_some]
      rfl
    rw [List.map_cons, List.mapM_cons, hx, ih]
    rfl
/-- The name, finished. -/
def doneV (q : Q) : V := .slI q.length (q.map innI)
theorem made_frz {n0 : Nat} {S : Store} {q : Q} {o : Nat} (h : InQ n0 S q) (h0 : n0 ≤ o) (ho : S[o]? = some (.cells (q.map innV) 38)) (e : Int) :
    frz 6 n0 S (.tup [.slR o 0 q.length q.length 1, .int .i64 e]) = some (.tup [doneV q, .int .i64 e]) := by
  have hn : ¬ o < n0 := by omega
  have hc : cellsAt S (.ref o 0) (q.length * 1) = some (q.map innV) := by
    simp [cellsAt, cellsOf, ho, tk, List.take_of_length_le]
  have h1 : frz 5 n0 S (.slR o 0 q.length q.length 1) = some (doneV q) := by
    show (if o < n0 then some _ else frzIn 12 n0 S (.slR o 0 q.length q.length 1)) = _
    rw [if_neg hn]
    show (if o < n0 then none else (cellsAt S (.ref o 0) (q.length * 1)).bind fun cs => (cs.mapM (frzIn 11 n0 S)).bind fun cs => some (V.slI q.length cs)) = _
    rw [if_neg hn, hc, Option.bind_some, frzIn_q 9 n0 S q h, Option.bind_some]
    rfl
  show ([V.slR o 0 q.length q.length 1, .int .i64 e].mapM (frz 5 n0 S)).map V.tup = _
  rw [List.mapM_cons, h1]
  rfl
theorem done_isDn (S : Store) (q : Q) : isDn S (doneV q) (names q) := by
  refine ⟨q.map innI, ⟨by simp [names], .inr (.inl (by simp [names, doneV]))⟩, fun i hi => ?_⟩
  have hi' : i < q.length := by simpa [names] using hi
  refine ⟨innI q[i], by simp [hi'], ?_⟩
  have e : (names q).getD i [] = (q[i]).2 := by simp [names, List.getD, hi']
  rw [e]
  exact ⟨flat_len _, .inr (.inl rfl)⟩
theorem nil_isDn (S : Store) : isDn S .slN [] := ⟨[], ⟨rfl, .inl ⟨rfl, rfl⟩⟩, fun i hi => absurd hi (by simp)⟩
/-! ### what any text names -/
theorem readL_suffix (out : List UInt8) (bare : Bool) (s : List UInt8) : ∀ {v r}, readL out bare s = some (v, r) → r <:+ s ∧ v.length + r.length ≤ out.length + s.length := by
  have fin : ∀ (out : List UInt8) (bare : Bool) (s : List UInt8) (v r : List UInt8), finR out bare s = some (v, r) → r <:+ s ∧ v.length + r.length ≤ out.length + s.length := by
    intro out bare s v r h
    unfold finR at h
    split at h
    · cases h
    · injection h with h
      injection h with h1 h2
      subst h1 h2
      exact ⟨List.suffix_refl _, Nat.le_refl _⟩
  induction out, bare, s using readL.induct with
  | case1 out bare => intro v r h; rw [readL] at h; exact fin _ _ _ _ _ h
  | case2 out bare c t h1 => intro v r h; rw [readL, if_pos h1] at h; exact fin _ _ _ _ _ h
  | case3 out bare t h2 h3 =>
    intro v r h
    rw [readL, if_neg h2, if_pos rfl, dif_pos h3] at h; cases h
  | case4 out bare t h2 h3 ih =>
    intro v r h
    rw [readL, if_neg h2, if_pos rfl, dif_neg h3] at h
    obtain ⟨g1, g2⟩ := ih h
    have := escS_le _ h3
    refine ⟨g1.trans (List.drop_suffix _ _), ?_⟩
    rw [List.length_drop] at g2
    simp only [List.length_append, List.length_singleton] at g2
    omega
  | case5 out bare c t h1 h2 h3 => intro v r h; rw [readL, if_neg h1, if_neg h2, if_pos h3] at h; cases h
  | case6 out bare c t h1 h2 h3 ih =>
    intro v r h
    rw [readL, if_neg h1, if_neg h2, if_neg h3] at h
    obtain ⟨g1, g2⟩ := ih h
    refine ⟨g1.trans (List.suffix_cons _ _), ?_⟩
    simp only [List.length_append, List.length_singleton] at g2
    simp only [List.length_cons]
    omega
def parseL (a : List (List Ava)) (r : List Ava) (s : List UInt8) : Option (List (List Ava)) :=
  match s.findIdx? (· == 61) with
  | none => none
  | some k => match h : readL [] true (s.drop (k + 1)) with
    | none => none
    | some (v, []) => some (a ++ [r ++ [(s.take k, v)]])
    | some (v, c :: t) => if c = 44 then parseL (a ++ [r ++ [(s.take k, v)]]) [] t else parseL a (r ++ [(s.take k, v)]) t
termination_by s.length
decreasing_by
  all_goals
    have := (readL_suffix _ _ _ h).2
    simp at this
    omega
noncomputable def parseN (s : List UInt8) : List (List Ava) × Int :=
  if 400 < s.length then ([], 2) else if s = [] then ([], 0) else match parseL [] [] s with
    | none => ([], 120)
    | some n => if shapedB n = true then (n, 0) else ([], 120)
end Go.Proofs.YtjcckafjopjdbaaDoor
namespace Go.Proofs.YtjcckafjopjdbaaDoor
open Go Go.Vm
set_option maxRecDepth 100000
set_option maxHeartbeats 4000000
set_option linter.unusedSimpArgs false
set_option linter.unusedVariables false
theorem build_40 (x y : List UInt8) : opBuild E0 40 [(0, .str x), (1, .str y)] = some (.agg [.str x, .str y]) := by kernel_rfl
/-- dn.Parse: the name that is being made, its last step, and the texts of both. -/
structure St (n0 : Nat) (T : Store) (q : Q) (p : Nat) (r : List Ava) (o : Nat) : Prop where
  lo : n0 ≤ o
  inn : InQ n0 T (q ++ [(p, r)])
  out : T[o]? = some (.cells ((q ++ [(p, r)]).map innV) 38)
  ne : ∀ x ∈ q, x.1 ≠ p
  no : ∀ x ∈ q ++ [(p, r)], x.1 ≠ o
theorem St.load {n0 : Nat} {T : Store} {q : Q} {p : Nat} {r : List Ava} {o : Nat} (h : St n0 T q p r o) (l : Store) : opLoad E0 (T ++ l) 38 (.ref o q.length) = some (innV (p, r)) := by
  have ho : (T ++ l)[o]? = some (.cells ((q ++ [(p, r)]).map innV) 38) := by
    rw [List.getElem?_append_left (List.getElem?_eq_some_iff.1 h.out).1]; exact h.out
  rw [ld_ref isAggO_38, cellsOf_of ho]
  simp
theorem St.addr {n0 : Nat} {T : Store} {q : Q} {p : Nat} {r : List Ava} {o : Nat} (h : St n0 T q p r o) : opIndexAddr E0 24 (.slR o 0 (q.length + 1) (q.length + 1) 1) (.int .i64 (q.length : Nat)) = some (.ref o q.length) := by
  rw [ia_slR Tryd.underlying24 tsize_38 _ _ _ _ _ _ (by omega)]
  simp
theorem St.put {n0 : Nat} {T : Store} {q : Q} {p : Nat} {r : List Ava} {o : Nat} (h : St n0 T q p r o) (hn : n0 ≤ T.length) (a : Ava) (hr : r.length ≤ 1048576) :
    ∃ T1 T2 x y, opBuildSlice E0 T 38 1 [(0, .agg [.str a.1, .str a.2])] = some (x, T1) ∧ opLoad E0 T 38 (.ref o q.length) = some (innV (p, r)) ∧ opLoad E0 T1 38 (.ref o q.length) = some (innV (p, r)) ∧
      opAppend E0 T1 [38, 38] (innV (p, r)) x = some (y, T2) ∧ ∃ T3 p', opStore E0 T2 38 (.ref o q.length) y = some T3 ∧ St n0 T3 q p' (r ++ [a]) o ∧ Low n0 T T3 := by
  obtain ⟨hp1, hp2⟩ := h.inn (p, r) (by simp)
  have hpo : p ≠ o := h.no (p, r) (by simp)
  have hpl : p < T.length := (List.getElem?_eq_some_iff.1 hp2).1
  have hol : o < T.length := (List.getElem?_eq_some_iff.1 h.out).1
  have hmk := ty38.mk1 T (.agg [.str a.1, .str a.2]) rfl rfl
  have hp3 : (T ++ [Ob.cells (vcells (.agg [.str a.1, .str a.2])) 40])[p]? = some (.cells (r.flatMap avaC) 40) := by
    rw [List.getElem?_append_left hpl]; exact hp2
  have happ := ty38.app (sc_top (vcells (.agg [.str a.1, .str a.2])) 1 (z := 2) rfl T (e := 40)) (fun s => by simp) rfl (by omega) hp3 (flat_len r) (by omega) (by omega)
  have e0 := h.load []
  rw [List.append_nil] at e0
  rw [List.set_append_left _ _ hpl] at happ
  have e1 : r.flatMap avaC ++ vcells (.agg [.str a.1, .str a.2]) = (r ++ [a]).flatMap avaC := by simp [vcells, avaC]
  rw [e1] at happ
  have e2 : (T ++ [Ob.cells (vcells (V.agg [V.str a.1, V.str a.2])) 40]).length = T.length + 1 := by simp
  rw [e2] at happ
  refine ⟨_, _, _, _, hmk, e0, h.load _, happ, ?_⟩
  have hou : (T.set p Ob.gone ++ [Ob.cells (vcells (V.agg [V.str a.1, V.str a.2])) 40] ++ [Ob.cells ((r ++ [a]).flatMap avaC) 40])[o]? = some (.cells ((q ++ [(p, r)]).map innV) 38) := by
    rw [List.append_assoc, List.getElem?_append_left (by simpa using hol), List.getElem?_set_ne hpo]; exact h.out
  have hst : opStore E0 (T.set p Ob.gone ++ [Ob.cells (vcells (V.agg [V.str a.1, V.str a.2])) 40] ++ [Ob.cells ((r ++ [a]).flatMap avaC) 40]) 38 (.ref o q.length) (.slR (T.length + 1) 0 (r.length + 1) (r.length + 1) 2) =
      some ((T.set p Ob.gone ++ [Ob.cells (vcells (V.agg [V.str a.1, V.str a.2])) 40] ++ [Ob.cells ((r ++ [a]).flatMap avaC) 40]).set o (.cells ((q ++ [(T.length + 1, r ++ [a])]).map innV) 38)) := by
    rw [st_one tsize_38 _ _ _ rfl (by simp)]
    unfold putAt
    simp only [cellsOf, Vm.elemOf, hou, Option.bind_eq_bind, Option.bind_some]
    rw [if_pos (by simp), splice_eq _ _ _ (by simp)]
    congr 3
    simp [innV]
  refine ⟨_, T.length + 1, hst, ⟨h.lo, ?_, ?_, ?_, ?_⟩, ?_⟩
  · refine InQ.add ?_ ⟨by show n0 ≤ T.length + 1; omega, ?_⟩
    · refine InQ.set ?_ o _ (fun x hx => h.no x (by simp [hx]))
      refine InQ.more (InQ.more ?_ _) _
      exact InQ.set h.inn.left p _ h.ne
    · rw [List.getElem?_set_ne (by simp only; omega)]
      rw [List.getElem?_append_right (by simp)]
      simp
  · rw [List.getElem?_set_self (by simp; omega)]
  · intro x hx
    have := (List.getElem?_eq_some_iff.1 (h.inn.left x hx).2).1
    omega
  · intro x hx
    rcases List.mem_append.1 hx with h1 | h1
    · exact h.no x (by simp [h1])
    · rw [List.mem_singleton] at h1
      rw [h1]
      simp only
      omega
  · refine ((Low.set hn hp1).trans ((Low.app (by simpa using hn) _).trans (Low.app (by simp; omega) _))).trans (Low.set (by simp; omega) h.lo)
/-- Another step is begun. -/
theorem St.next {n0 : Nat} {T : Store} {q : Q} {p : Nat} {r : List Ava} {o : Nat} (h : St n0 T q p r o) (hn : n0 ≤ T.length) (hq : q.length ≤ 1048576) :
    ∃ T1 T2 T3 x y o' p', opBuildSlice E0 T 38 0 [] = some (x, T1) ∧ opBuildSlice E0 T1 24 1 [(0, x)] = some (y, T2) ∧ opAppend E0 T2 [24, 24] (.slR o 0 (q.length + 1) (q.length + 1) 1) y = some (.slR o' 0 ((q ++ [(p, r)]).length + 1) ((q ++ [(p, r)]).length + 1) 1, T3) ∧
      St n0 T3 (q ++ [(p, r)]) p' [] o' ∧ Low n0 T T3 := by
  have hol : o < T.length := (List.getElem?_eq_some_iff.1 h.out).1
  have hmk0 := ty38.mk0 T
  have hmk1 : opBuildSlice E0 (T ++ [Ob.cells [] 40]) 24 1 [(0, .slR T.length 0 0 0 2)] = some (.slR (T ++ [Ob.cells [] 40]).length 0 1 1 1, T ++ [.cells [] 40] ++ [.cells [.slR T.length 0 0 0 2] 38]) := ty24.mk1 (T ++ [.cells [] 40]) (.slR T.length 0 0 0 2) rfl rfl
  have hL : (q ++ [(p, r)]).length + 1 = q.length + 1 + 1 := by simp
  have hou : (T ++ [Ob.cells [] 40] ++ [Ob.cells [.slR T.length 0 0 0 2] 38])[o]? = some (.cells ((q ++ [(p, r)]).map innV) 38) := by
    rw [List.append_assoc, List.getElem?_append_left hol]; exact h.out
  have happ := ty24.app (m := q.length + 1) (sc_top [.slR T.length 0 0 0 2] 1 (z := 1) rfl (T ++ [.cells [] 40]) (e := 38)) (fun s => by simp) rfl (by omega) hou (by simp) (by omega) (by omega)
  refine ⟨_, _, _, _, _, _, T.length, hmk0, hmk1, by rw [hL]; exact happ, ⟨?_, ?_, ?_, ?_, ?_⟩, ?_⟩
  · simp; omega
  · refine InQ.add ?_ ⟨hn, ?_⟩
    · refine InQ.more (InQ.set (InQ.more (InQ.more h.inn _) _) _ _ h.no) _
    · simp only
      rw [List.getElem?_append_left (by simp), List.getElem?_set_ne (by omega), List.append_assoc, List.getElem?_append_right (Nat.le_refl _)]
      simp
  · simp [innV]
  · intro x hx
    have := (List.getElem?_eq_some_iff.1 (h.inn x hx).2).1
    omega
  · intro x hx
    rcases List.mem_append.1 hx with h1 | h1
    · have := (List.getElem?_eq_some_iff.1 (h.inn x h1).2).1
      simp; omega
    · rw [List.mem_singleton] at h1
      rw [h1]
      simp
  · exact ((Low.app hn _).trans (Low.app (by simp; omega) _)).trans ((Low.set (by simp; omega) h.lo).trans (Low.app (by simp; omega) _))
theorem St.first (T : Store) : ∃ T1 T2 x o p, opBuildSlice E0 T 38 0 [] = some (x, T1) ∧ opBuildSlice E0 T1 24 1 [(0, x)] = some (.slR o 0 1 1 1, T2) ∧ St T.length T2 [] p [] o ∧ Low T.length T T2 := by
  have hmk0 := ty38.mk0 T
  have hmk1 := ty24.mk1 (T ++ [.cells [] 40]) (.slR T.length 0 0 0 2) rfl rfl
  refine ⟨_, _, _, _, T.length, hmk0, hmk1, ⟨by simp, ?_, ?_, fun x hx => by simp at hx, ?_⟩, (Low.app (Nat.le_refl _) _).trans (Low.app (by simp) _)⟩
  · intro x hx
    rw [List.nil_append, List.mem_singleton] at hx
    subst hx
    exact ⟨Nat.le_refl _, by simp⟩
  · simp [innV, vcells]
  · intro x hx
    rw [List.nil_append, List.mem_singleton] at hx
    subst hx
    simp
end Go.Proofs.YtjcckafjopjdbaaDoor
namespace Go.Proofs.YtjcckafjopjdbaaDoor
open Go Go.Vm
set_option maxRecDepth 100000
set_option maxHeartbeats 4000000
set_option linter.unusedSimpArgs false
set_option linter.unusedVariables false
/-- What is said of a text: the name as a value, and the number. -/
def saysN (f : Nat) (s : List UInt8) (S : Store) : Prop := ∃ v, vrun E0 (.fn f) [.str s] S = some (.tup [v, .int .i64 (parseN s).2], S) ∧ ∀ S', isDn S' v (parseN s).1
theorem parseL_bad (a : List (List Ava)) (r : List Ava) (s : List UInt8) (h : s.findIdx? (· == 61) = none) : parseL a r s = none := by
  rw [parseL]
  split
  · rfl
  · rename_i k hk
    rw [h] at hk; cases hk
theorem parseL_none (a : List (List Ava)) (r : List Ava) (s : List UInt8) {k : Nat} (h : s.findIdx? (· == 61) = some k) (hr : readL [] true (s.drop (k + 1)) = none) : parseL a r s = none := by
  rw [parseL]
  split
  · rfl
  · rename_i k' hk
    rw [h] at hk
    injection hk with hk
    subst hk
    split
    · rfl
    · rename_i v h2
      rw [hr] at h2; cases h2
    · rename_i v c t h2
      rw [hr] at h2; cases h2
theorem parseL_some (a : List (List Ava)) (r : List Ava) (s : List UInt8) {k : Nat} {v rest : List UInt8} (h : s.findIdx? (· == 61) = some k) (hr : readL [] true (s.drop (k + 1)) = some (v, rest)) :
    parseL a r s = if rest = [] then some (a ++ [r ++ [(s.take k, v)]]) else if rest.getD 0 0 = 44 then parseL (a ++ [r ++ [(s.take k, v)]]) [] (rest.drop 1) else parseL a (r ++ [(s.take k, v)]) (rest.drop 1) := by
  rw [parseL]
  split
  · rename_i hk
    rw [h] at hk; cases hk
  · rename_i k' hk
    rw [h] at hk
    injection hk with hk
    subst hk
    split
    · rename_i h2
      rw [hr] at h2; cases h2
    · rename_i v' h2
      rw [hr] at h2
      injection h2 with h2
      injection h2 with h3 h4
      subst h3 h4
      simp
    · rename_i v' c t h2
      rw [hr] at h2
      injection h2 with h2
      injection h2 with h3 h4
      subst h3 h4
      simp
/-- How great a name's parts are. -/
def okParts (b : Nat) (a : List (List Ava)) (r : List Ava) : Prop := (∀ x ∈ a, x.length ≤ b ∧ ∀ y ∈ x, y.1.length ≤ b ∧ y.2.length ≤ b) ∧ ∀ y ∈ r, y.1.length ≤ b ∧ y.2.length ≤ b
theorem parseL_ok (b : Nat) : ∀ (j : Nat) (a : List (List Ava)) (r : List Ava) (s : List UInt8), s.length = j → a.length + r.length + s.length ≤ b → okParts b a r → ∀ n, parseL a r s = some n → n.length ≤ b + 1 ∧ ∀ x ∈ n, x.length ≤ b + 1 ∧ ∀ y ∈ x, y.1.length ≤ b ∧ y.2.length ≤ b := by
  intro j
  induction j using Nat.strongRecOn with
  | _ j ih =>
    intro a r s hj hb hp n hn
    cases hf : s.findIdx? (· == 61) with
    | none => rw [parseL_bad _ _ _ hf] at hn; cases hn
    | some k =>
      have hk : k < s.length := (List.findIdx?_eq_some_iff_getElem.1 hf).1
      cases hr : readL [] true (s.drop (k + 1)) with
      | none => rw [parseL_none _ _ _ hf hr] at hn; cases hn
      | some p =>
        obtain ⟨v, rest⟩ := p
        have hlen := (readL_suffix _ _ _ hr).2
        simp only [List.length_nil, List.length_drop] at hlen
        have hnew : ∀ y ∈ r ++ [(s.take k, v)], y.1.length ≤ b ∧ y.2.length ≤ b := by
          intro y hy
          rcases List.mem_append.1 hy with h1 | h1
          · exact hp.2 y h1
          · rw [List.mem_singleton] at h1
            subst h1
            simp only [List.length_take]
            omega
        rw [parseL_some _ _ _ hf hr] at hn
        split at hn
        · injection hn with hn
          subst hn
          refine ⟨by simp; omega, fun x hx => ?_⟩
          rcases List.mem_append.1 hx with h1 | h1
          · have := hp.1 x h1
            exact ⟨by omega, this.2⟩
          · rw [List.mem_singleton] at h1
            subst h1
            exact ⟨by simp; omega, hnew⟩
        · rename_i hne
          have hpos : 0 < rest.length := List.length_pos_iff.2 hne
          have hd : (rest.drop 1).length < j := by simp; omega
          split at hn
          · refine ih _ hd _ _ _ rfl (by simp; omega) ⟨fun x hx => ?_, fun y hy => by simp at hy⟩ n hn
            rcases List.mem_append.1 hx with h1 | h1
            · exact hp.1 x h1
            · rw [List.mem_singleton] at h1
              subst h1
              exact ⟨by simp; omega, hnew⟩
          · exact ih _ hd _ _ _ rfl (by simp; omega) ⟨hp.1, hnew⟩ n hn
theorem parse0_ok {s : List UInt8} (hs : s.length ≤ 400) {n : List (List Ava)} (h : parseL [] [] s = some n) : okN n := by
  obtain ⟨h1, h2⟩ := parseL_ok 400 s.length [] [] s rfl (by simpa using hs) ⟨by simp, by simp⟩ n h
  refine ⟨by omega, fun x hx => ⟨by have := (h2 x hx).1; omega, fun y hy => ?_⟩⟩
  have := (h2 x hx).2 y hy
  exact ⟨by omega, by omega⟩
theorem parseN_ok (s : List UInt8) : okN (parseN s).1 := by
  have h0 : okN [] := ⟨by simp, by simp⟩
  unfold parseN
  split
  · exact h0
  · rename_i hl
    split
    · exact h0
    · split
      · exact h0
      · rename_i n hn
        split
        · exact parse0_ok (by omega) hn
        · exact h0
theorem parseN_long {s : List UInt8} (h : 400 < s.length) : parseN s = ([], 2) := if_pos h
theorem parseN_nil : parseN [] = ([], 0) := by unfold parseN; simp
theorem parseN_bad {s : List UInt8} (h : ¬ 400 < s.length) (h0 : s ≠ []) (hp : parseL [] [] s = none) : parseN s = ([], 120) := by
  unfold parseN
  rw [if_neg h, if_neg h0, hp]
theorem parseN_some {s : List UInt8} (h : ¬ 400 < s.length) (h0 : s ≠ []) {n : List (List Ava)} (hp : parseL [] [] s = some n) : parseN s = if shapedB n = true then (n, 0) else ([], 120) := by
  unfold parseN
  rw [if_neg h, if_neg h0, hp]
theorem tb1 : Nat.testBit 4092 5 = true := rfl
theorem tb2 : Nat.testBit 16383 5 = true := rfl
theorem frz_nilE (n : Nat) (T : Store) (e : Int) : frz 6 n T (.tup [.slN, .int .i64 e]) = some (.tup [.slN, .int .i64 e]) := rfl
def saysP (s : List UInt8) (S : Store) (r : V × Store) : Prop := ∃ v, r = (.tup [v, .int .i64 (parseN s).2], S) ∧ ∀ S', isDn S' v (parseN s).1
theorem says_of {f : Nat} {s : List UInt8} {S : Store} (h : ∃ r, saysP s S r ∧ vrun E0 (.fn f) [.str s] S = some r) : saysN f s S := by
  obtain ⟨r, ⟨v, rfl, h2⟩, h3⟩ := h
  exact ⟨v, h3, h2⟩
theorem saysP_nil {s : List UInt8} (S : Store) {e : Int} (h : parseN s = ([], e)) : saysP s S (.tup [.slN, .int .i64 e], S) := ⟨.slN, by rw [h], fun S' => by rw [h]; exact nil_isDn S'⟩
theorem sl9 (s : List UInt8) (i : Nat) (h : i ≤ s.length) : opSlice E0 9 (.str s) (some (.int .i64 (i : Nat))) none none = some (.str (s.drop i)) := sl_lo Tryd.underlying9 s .i64 i h
theorem sl9h (s : List UInt8) (i : Nat) (h : i ≤ s.length) : opSlice E0 9 (.str s) none (some (.int .i64 (i : Nat))) none = some (.str (s.take i)) := sl_hi Tryd.underlying9 s .i64 i h
theorem Parse_ok (s : List UInt8) (S : Store) (hs : s.length ≤ 1048576) : saysN 10 s S := by
  refine says_of ?_
  refine fn_wsP Tryd.func10 rfl ?_
  by_cases hl : 400 < s.length
  · have hl' : (400 : Int) < ((s.length : Nat) : Int) := by omega
    repeat (first | refine WS.seq ?_ | refine WS.skip ?_ | refine WS.label ?_ | refine WS.block ?_ | refine WS.inBlock ?_ | refine WS.exit rfl ?_ | refine WS.scope ?_ | refine WS.inScope ?_ | refine WS.region (by simp only [EV, TY, lget, hl', ↓reduceIte, Nat.reduceEqDiff, decide_true, decide_false, eq_self]; with_reducible rfl) ?_)
    refine WS.cond_true (by simp only [EV, lget, ↓reduceIte, Nat.reduceEqDiff, decide_true, decide_false, eq_self]) ?_
    repeat (first | refine WS.seq ?_ | refine WS.skip ?_ | refine WS.label ?_ | refine WS.block ?_ | refine WS.inBlock ?_ | refine WS.exit rfl ?_ | refine WS.scope ?_ | refine WS.inScope ?_ | refine WS.region (by simp only [EV, TY, lget, ↓reduceIte, Nat.reduceEqDiff, decide_true, decide_false, eq_self]; with_reducible rfl) ?_)
    refine WS.ret2P (t := 2) (u := 3) rfl rfl rfl rfl (List.prefix_refl _) rfl (saysP_nil S (parseN_long hl))
  have hl' : ¬ (400 : Int) < ((s.length : Nat) : Int) := by omega
  by_cases h0 : s = []
  · subst h0
    have hee : (([] : List UInt8) == []) = true := rfl
    repeat (first | refine WS.seq ?_ | refine WS.skip ?_ | refine WS.label ?_ | refine WS.block ?_ | refine WS.inBlock ?_ | refine WS.exit rfl ?_ | refine WS.scope ?_ | refine WS.inScope ?_ | refine WS.region (by simp only [EV, TY, lget, hl', ↓reduceIte, Nat.reduceEqDiff, decide_true, decide_false, eq_self]; with_reducible rfl) ?_)
    refine WS.cond_false (by simp only [EV, lget, ↓reduceIte, Nat.reduceEqDiff, decide_true, decide_false, eq_self]) ?_
    repeat (first | refine WS.seq ?_ | refine WS.skip ?_ | refine WS.label ?_ | refine WS.block ?_ | refine WS.inBlock ?_ | refine WS.exit rfl ?_ | refine WS.scope ?_ | refine WS.inScope ?_ | refine WS.region (by simp only [EV, TY, lget, hee, ↓reduceIte, Nat.reduceEqDiff, decide_true, decide_false, eq_self]; with_reducible rfl) ?_)
    refine WS.cond_true (by simp only [EV, lget, ↓reduceIte, Nat.reduceEqDiff, decide_true, decide_false, eq_self]) ?_
    repeat (first | refine WS.seq ?_ | refine WS.skip ?_ | refine WS.label ?_ | refine WS.block ?_ | refine WS.inBlock ?_ | refine WS.exit rfl ?_ | refine WS.scope ?_ | refine WS.inScope ?_ | refine WS.region (by simp only [EV, TY, lget, ↓reduceIte, Nat.reduceEqDiff, decide_true, decide_false, eq_self]; with_reducible rfl) ?_)
    refine WS.ret2P (t := 2) (u := 3) rfl rfl rfl rfl (List.prefix_refl _) rfl (saysP_nil S parseN_nil)
  have h0' : (s == []) = false := beq_eq_false_iff_ne.2 h0
  obtain ⟨F1, F2, x, o, p, f1, f2, f3, f4⟩ := St.first S
  repeat (first | refine WS.seq ?_ | refine WS.skip ?_ | refine WS.label ?_ | refine WS.block ?_ | refine WS.inBlock ?_ | refine WS.exit rfl ?_ | refine WS.scope ?_ | refine WS.inScope ?_ | refine WS.region (by simp only [EV, TY, lget, hl', ↓reduceIte, Nat.reduceEqDiff, decide_true, decide_false, eq_self]; with_reducible rfl) ?_)
  refine WS.cond_false (by simp only [EV, lget, ↓reduceIte, Nat.reduceEqDiff, decide_true, decide_false, eq_self]) ?_
  repeat (first | refine WS.seq ?_ | refine WS.skip ?_ | refine WS.label ?_ | refine WS.block ?_ | refine WS.inBlock ?_ | refine WS.exit rfl ?_ | refine WS.scope ?_ | refine WS.inScope ?_ | refine WS.region (by simp only [EV, TY, lget, h0', ↓reduceIte, Nat.reduceEqDiff, decide_true, decide_false, eq_self]; with_reducible rfl) ?_)
  refine WS.cond_false (by simp only [EV, lget, ↓reduceIte, Nat.reduceEqDiff, decide_true, decide_false, eq_self]) ?_
  repeat (first | refine WS.seq ?_ | refine WS.skip ?_ | refine WS.label ?_ | refine WS.block ?_ | refine WS.inBlock ?_ | refine WS.exit rfl ?_ | refine WS.scope ?_ | refine WS.inScope ?_ | refine WS.region (by simp only [EV, TY, lget, f1, f2, ↓reduceIte, Nat.reduceEqDiff, decide_true, decide_false, eq_self]; with_reducible rfl) ?_)
  refine WS.loopB (fun j fr T => ∃ q p r o s', j = s'.length ∧ q.length + r.length + s'.length ≤ s.length ∧ lget fr 0 = .str s' ∧ lget fr 4 = .slR o 0 (q.length + 1) (q.length + 1) 1 ∧ St S.length T q p r o ∧ Low S.length S T ∧ parseL (names q) r s' = parseL [] [] s)
    (fun fr T => ∃ q o, lget fr 4 = .slR o 0 q.length q.length 1 ∧ S.length ≤ o ∧ InQ S.length T q ∧ T[o]? = some (.cells (q.map innV) 38) ∧ Low S.length S T ∧ parseL [] [] s = some (names q)) (j := s.length) ?_ ?_ ?_
  · refine ⟨[], p, [], o, s, rfl, by simp, ?_, ?_, f3, f4, rfl⟩
    all_goals
      simp only [EV, lget, ↓reduceIte, Nat.reduceEqDiff, decide_true, decide_false, eq_self, and_true, true_and, and_self]
      try rfl
  · rintro fr T ⟨q, o, h4, ho, hin, hout, hlow, hp⟩
    have okn := parse0_ok (by omega) hp
    have hd := made_isDn hin hout
    have hsh := shaped_ok hd okn
    have hn := parseN_some (by omega) h0 hp
    by_cases hb : shapedB (names q) = true
    · rw [if_pos hb] at hn
      repeat (first | refine WS.seq ?_ | refine WS.skip ?_ | refine WS.label ?_ | refine WS.block ?_ | refine WS.inBlock ?_ | refine WS.exit rfl ?_ | refine WS.scope ?_ | refine WS.inScope ?_ | refine WS.region (by simp only [EV, TY, h4, callV_24, hsh, hb, Bool.not_true, ↓reduceIte, Nat.reduceEqDiff, decide_true, decide_false, eq_self]; with_reducible rfl) ?_)
      refine WS.cond_false (by simp only [EV, ↓reduceIte, Nat.reduceEqDiff, decide_true, decide_false, eq_self]) ?_
      repeat (first | refine WS.seq ?_ | refine WS.skip ?_ | refine WS.label ?_ | refine WS.block ?_ | refine WS.inBlock ?_ | refine WS.exit rfl ?_ | refine WS.scope ?_ | refine WS.inScope ?_ | refine WS.region (by simp only [EV, TY, h4, ↓reduceIte, Nat.reduceEqDiff, decide_true, decide_false, eq_self]; with_reducible rfl) ?_)
      refine WS.ret2P (t := 2) (u := 3) rfl rfl ?_ ?_ hlow.pre (made_frz hin ho hout 0) ⟨doneV q, by rw [hn], fun S' => by rw [hn]; exact done_isDn S' q⟩
      · simp only [EV, ↓reduceIte, Nat.reduceEqDiff, decide_true, decide_false, eq_self, and_true, true_and, and_self]
      · simp only [EV, ↓reduceIte, Nat.reduceEqDiff, decide_true, decide_false, eq_self, and_true, true_and, and_self]
    · have hb' : shapedB (names q) = false := by simpa using hb
      rw [if_neg hb] at hn
      repeat (first | refine WS.seq ?_ | refine WS.skip ?_ | refine WS.label ?_ | refine WS.block ?_ | refine WS.inBlock ?_ | refine WS.exit rfl ?_ | refine WS.scope ?_ | refine WS.inScope ?_ | refine WS.region (by simp only [EV, TY, h4, callV_24, hsh, hb', Bool.not_false, ↓reduceIte, Nat.reduceEqDiff, decide_true, decide_false, eq_self]; with_reducible rfl) ?_)
      refine WS.cond_true (by simp only [EV, ↓reduceIte, Nat.reduceEqDiff, decide_true, decide_false, eq_self]) ?_
      repeat (first | refine WS.seq ?_ | refine WS.skip ?_ | refine WS.label ?_ | refine WS.block ?_ | refine WS.inBlock ?_ | refine WS.exit rfl ?_ | refine WS.scope ?_ | refine WS.inScope ?_ | refine WS.region (by simp only [EV, TY, h4, ↓reduceIte, Nat.reduceEqDiff, decide_true, decide_false, eq_self]; with_reducible rfl) ?_)
      refine WS.ret2P (t := 2) (u := 3) rfl rfl ?_ ?_ hlow.pre (frz_nilE _ _ _) (saysP_nil S hn)
      · simp only [EV, ↓reduceIte, Nat.reduceEqDiff, decide_true, decide_false, eq_self, and_true, true_and, and_self]
      · simp only [EV, ↓reduceIte, Nat.reduceEqDiff, decide_true, decide_false, eq_self, and_true, true_and, and_self]
  · rintro j fr T ⟨q, p, r, o, s', rfl, hle, h0, h4, hst, hlow, hp⟩ ih last
    have hI := IndexByte_ok s' 61 T
    have hI' : vrun E0 (.fn 22) [.str s', .int .u8 61] T = some (.int .i64 (idxInt (s'.findIdx? (· == 61))), T) := hI
    cases hf : s'.findIdx? (· == 61) with
    | none =>
      rw [hf] at hI'
      have hneg : (-1 : Int) < 0 := by omega
      simp only [idxInt] at hI'
      repeat (first | refine WS.seq ?_ | refine WS.skip ?_ | refine WS.label ?_ | refine WS.block ?_ | refine WS.inBlock ?_ | refine WS.exit rfl ?_ | refine WS.scope ?_ | refine WS.inScope ?_ | refine WS.region (by simp only [EV, TY, h0, callV_22, hI', hneg, ↓reduceIte, Nat.reduceEqDiff, decide_true, decide_false, eq_self]; with_reducible rfl) ?_)
      refine WS.cond_true (by simp only [EV, ↓reduceIte, Nat.reduceEqDiff, decide_true, decide_false, eq_self]) ?_
      repeat (first | refine WS.seq ?_ | refine WS.skip ?_ | refine WS.label ?_ | refine WS.block ?_ | refine WS.inBlock ?_ | refine WS.exit rfl ?_ | refine WS.scope ?_ | refine WS.inScope ?_ | refine WS.region (by simp only [EV, TY, ↓reduceIte, Nat.reduceEqDiff, decide_true, decide_false, eq_self]; with_reducible rfl) ?_)
      refine WS.ret2P (t := 2) (u := 3) rfl rfl ?_ ?_ hlow.pre (frz_nilE _ _ _) (saysP_nil S (parseN_bad hl (by assumption) (by rw [← hp]; exact parseL_bad _ _ _ hf)))
      · simp only [EV, ↓reduceIte, Nat.reduceEqDiff, decide_true, decide_false, eq_self, and_true, true_and, and_self]
      · simp only [EV, ↓reduceIte, Nat.reduceEqDiff, decide_true, decide_false, eq_self, and_true, true_and, and_self]
    | some k =>
      have hk : k < s'.length := (List.findIdx?_eq_some_iff_getElem.1 hf).1
      rw [hf] at hI'
      simp only [idxInt] at hI'
      have hneg : ¬ ((k : Nat) : Int) < 0 := by omega
      have hinc := wrap_inc k (by omega)
      have e1 := sl9 s' (k + 1) (by omega)
      have e2 := sl9h s' k (by omega)
      have hr := read_ok (s'.drop (k + 1)) T (by simp; omega)
      cases hrd : readL [] true (s'.drop (k + 1)) with
      | none =>
        rw [hrd] at hr
        simp only [readV] at hr
        repeat (first | refine WS.seq ?_ | refine WS.skip ?_ | refine WS.label ?_ | refine WS.block ?_ | refine WS.inBlock ?_ | refine WS.exit rfl ?_ | refine WS.scope ?_ | refine WS.inScope ?_ | refine WS.region (by simp only [EV, TY, h0, callV_22, hI', hneg, ↓reduceIte, Nat.reduceEqDiff, decide_true, decide_false, eq_self]; with_reducible rfl) ?_)
        refine WS.cond_false (by simp only [EV, ↓reduceIte, Nat.reduceEqDiff, decide_true, decide_false, eq_self]) ?_
        repeat (first | refine WS.seq ?_ | refine WS.skip ?_ | refine WS.label ?_ | refine WS.block ?_ | refine WS.inBlock ?_ | refine WS.exit rfl ?_ | refine WS.scope ?_ | refine WS.inScope ?_ | refine WS.region (by simp only [EV, TY, h0, hinc, e1, callV_23, hr, Bool.not_false, ↓reduceIte, Nat.reduceEqDiff, decide_true, decide_false, eq_self]; with_reducible rfl) ?_)
        refine WS.cond_true (by simp only [EV, ↓reduceIte, Nat.reduceEqDiff, decide_true, decide_false, eq_self]) ?_
        repeat (first | refine WS.seq ?_ | refine WS.skip ?_ | refine WS.label ?_ | refine WS.block ?_ | refine WS.inBlock ?_ | refine WS.exit rfl ?_ | refine WS.scope ?_ | refine WS.inScope ?_ | refine WS.region (by simp only [EV, TY, ↓reduceIte, Nat.reduceEqDiff, decide_true, decide_false, eq_self]; with_reducible rfl) ?_)
        refine WS.ret2P (t := 2) (u := 3) rfl rfl ?_ ?_ hlow.pre (frz_nilE _ _ _) (saysP_nil S (parseN_bad hl (by assumption) (by rw [← hp]; exact parseL_none _ _ _ hf hrd)))
        · simp only [EV, ↓reduceIte, Nat.reduceEqDiff, decide_true, decide_false, eq_self, and_true, true_and, and_self]
        · simp only [EV, ↓reduceIte, Nat.reduceEqDiff, decide_true, decide_false, eq_self, and_true, true_and, and_self]
      | some pr =>
        obtain ⟨v, rest⟩ := pr
        rw [hrd] at hr
        simp only [readV] at hr
        have hlen := (readL_suffix _ _ _ hrd).2
        simp only [List.length_nil, List.length_drop] at hlen
        have hstep := parseL_some (names q) r s' hf hrd
        obtain ⟨T1, T2, y1, y2, g1, g2, g3, g4, T3, p', g5, g6, g7⟩ := hst.put hlow.1 (s'.take k, v) (by omega)
        have g0 := hst.addr
        have hsub : IntKind.i64.wrap (((q.length + 1 : Nat) : Int) - 1) = ((q.length : Nat) : Int) := wrap_sub1 (q.length + 1) (by omega) (by omega)
        have hln : opLen E0 T 24 (.slR o 0 (q.length + 1) (q.length + 1) 1) = some (.int .i64 ((q.length + 1 : Nat) : Int)) := len_slR Tryd.underlying24 _ _ _ _ _
        have hb40 := build_40 (s'.take k) v
        simp only at g1
        repeat (first | refine WS.seq ?_ | refine WS.skip ?_ | refine WS.label ?_ | refine WS.block ?_ | refine WS.inBlock ?_ | refine WS.exit rfl ?_ | refine WS.scope ?_ | refine WS.inScope ?_ | refine WS.region (by simp only [EV, TY, h0, callV_22, hI', hneg, ↓reduceIte, Nat.reduceEqDiff, decide_true, decide_false, eq_self]; with_reducible rfl) ?_)
        refine WS.cond_false (by simp only [EV, ↓reduceIte, Nat.reduceEqDiff, decide_true, decide_false, eq_self]) ?_
        repeat (first | refine WS.seq ?_ | refine WS.skip ?_ | refine WS.label ?_ | refine WS.block ?_ | refine WS.inBlock ?_ | refine WS.exit rfl ?_ | refine WS.scope ?_ | refine WS.inScope ?_ | refine WS.region (by simp only [EV, TY, h0, hinc, e1, callV_23, hr, Bool.not_true, ↓reduceIte, Nat.reduceEqDiff, decide_true, decide_false, eq_self]; with_reducible rfl) ?_)
        refine WS.cond_false (by simp only [EV, ↓reduceIte, Nat.reduceEqDiff, decide_true, decide_false, eq_self]) ?_
        repeat (first | refine WS.seq ?_ | refine WS.skip ?_ | refine WS.label ?_ | refine WS.block ?_ | refine WS.inBlock ?_ | refine WS.exit rfl ?_ | refine WS.scope ?_ | refine WS.inScope ?_ | refine WS.region (by simp only [EV, TY, h4, hln, hsub, ↓reduceIte, Nat.reduceEqDiff, decide_true, decide_false, eq_self]; with_reducible rfl) ?_)
        refine WS.drawb (b := [0, 0, 0, 0, 12, 28, 0, 0, 192, 0, 960, 1984, 4092, 8191, 16383]) (by kernel_rfl) (by simp only [evDraw_nil, evDraw_plain, isEff, isRead, List.all_nil, List.all_cons, Bool.or_true, Bool.true_or, Bool.and_self, Bool.and_true, V.beq_refl, List.getD_cons_zero, List.getD_cons_succ, Nat.reduceAdd, EV, TY,  h0, h4, g0, g1, g2, g3, g4, g5, e2, hb40, tb1, tb2, ↓reduceIte, Nat.reduceEqDiff, decide_true, decide_false, eq_self]; with_reducible rfl) ?_
        have hnames : names q ++ [r ++ [(s'.take k, v)]] = names (q ++ [(p', r ++ [(s'.take k, v)])]) := by simp [names]
        by_cases hre : rest = []
        · have hre' : (rest == []) = true := beq_iff_eq.2 hre
          rw [if_pos hre] at hstep
          repeat (first | refine WS.seq ?_ | refine WS.skip ?_ | refine WS.label ?_ | refine WS.block ?_ | refine WS.inBlock ?_ | refine WS.exit rfl ?_ | refine WS.scope ?_ | refine WS.inScope ?_ | refine WS.region (by simp only [EV, TY, hre', ↓reduceIte, Nat.reduceEqDiff, decide_true, decide_false, eq_self]; with_reducible rfl) ?_)
          refine WS.cond_true (by simp only [EV, ↓reduceIte, Nat.reduceEqDiff, decide_true, decide_false, eq_self]) ?_
          refine WS.exit rfl ?_
          refine last _ _ ⟨q ++ [(p', r ++ [(s'.take k, v)])], o, ?_, g6.lo, g6.inn, g6.out, hlow.trans g7, by rw [← hp, hstep, hnames]⟩
          simp only [EV, h4, ↓reduceIte, Nat.reduceEqDiff, decide_true, decide_false, eq_self, and_true, true_and, and_self]
          simp
        · have hre' : (rest == []) = false := beq_eq_false_iff_ne.2 hre
          rw [if_neg hre] at hstep
          have hpos : 0 < rest.length := List.length_pos_iff.2 hre
          have e3 : opIndex E0 9 (.str rest) (.int .i64 0) = some (.int .u8 (rest.getD 0 0).toNat) := idx_str_9 rest .i64 0 (by omega)
          have e4 := sl9 rest 1 (by omega)
          simp only [Int.natCast_one] at e4
          by_cases hc : rest.getD 0 0 = 44
          · rw [if_pos hc] at hstep
            obtain ⟨U1, U2, U3, z1, z2, o', p'', k1, k2, k3, k4, k5⟩ := g6.next (hlow.trans g7).1 (by omega)
            repeat (first | refine WS.seq ?_ | refine WS.skip ?_ | refine WS.label ?_ | refine WS.block ?_ | refine WS.inBlock ?_ | refine WS.exit rfl ?_ | refine WS.scope ?_ | refine WS.inScope ?_ | refine WS.region (by simp only [EV, TY, hre', ↓reduceIte, Nat.reduceEqDiff, decide_true, decide_false, eq_self]; with_reducible rfl) ?_)
            refine WS.cond_false (by simp only [EV, ↓reduceIte, Nat.reduceEqDiff, decide_true, decide_false, eq_self]) ?_
            repeat (first | refine WS.seq ?_ | refine WS.skip ?_ | refine WS.label ?_ | refine WS.block ?_ | refine WS.inBlock ?_ | refine WS.exit rfl ?_ | refine WS.scope ?_ | refine WS.inScope ?_ | refine WS.region (by simp only [EV, TY, e3, eq8t hc 44 rfl, ↓reduceIte, Nat.reduceEqDiff, decide_true, decide_false, eq_self]; with_reducible rfl) ?_)
            refine WS.cond_true (by simp only [EV, ↓reduceIte, Nat.reduceEqDiff, decide_true, decide_false, eq_self]) ?_
            repeat (first | refine WS.seq ?_ | refine WS.skip ?_ | refine WS.label ?_ | refine WS.block ?_ | refine WS.inBlock ?_ | refine WS.exit rfl ?_ | refine WS.scope ?_ | refine WS.inScope ?_ | refine WS.region (by simp only [EV, TY, h4, k1, k2, k3, e4, ↓reduceIte, Nat.reduceEqDiff, decide_true, decide_false, eq_self]; with_reducible rfl) ?_)
            refine ih (rest.drop 1).length _ _ (by simp; omega) ⟨q ++ [(p', r ++ [(s'.take k, v)])], p'', [], o', rest.drop 1, rfl, by simp; omega, ?_, ?_, k4, (hlow.trans g7).trans k5, by rw [← hnames, ← hstep, hp]⟩
            · simp only [EV, ↓reduceIte, Nat.reduceEqDiff, decide_true, decide_false, eq_self, and_true, true_and, and_self]
            · simp only [EV, ↓reduceIte, Nat.reduceEqDiff, decide_true, decide_false, eq_self, and_true, true_and, and_self]
          · rw [if_neg hc] at hstep
            repeat (first | refine WS.seq ?_ | refine WS.skip ?_ | refine WS.label ?_ | refine WS.block ?_ | refine WS.inBlock ?_ | refine WS.exit rfl ?_ | refine WS.scope ?_ | refine WS.inScope ?_ | refine WS.region (by simp only [EV, TY, hre', ↓reduceIte, Nat.reduceEqDiff, decide_true, decide_false, eq_self]; with_reducible rfl) ?_)
            refine WS.cond_false (by simp only [EV, ↓reduceIte, Nat.reduceEqDiff, decide_true, decide_false, eq_self]) ?_
            repeat (first | refine WS.seq ?_ | refine WS.skip ?_ | refine WS.label ?_ | refine WS.block ?_ | refine WS.inBlock ?_ | refine WS.exit rfl ?_ | refine WS.scope ?_ | refine WS.inScope ?_ | refine WS.region (by simp only [EV, TY, e3, eq8f hc 44 rfl, ↓reduceIte, Nat.reduceEqDiff, decide_true, decide_false, eq_self]; with_reducible rfl) ?_)
            refine WS.cond_false (by simp only [EV, ↓reduceIte, Nat.reduceEqDiff, decide_true, decide_false, eq_self]) ?_
            repeat (first | refine WS.seq ?_ | refine WS.skip ?_ | refine WS.label ?_ | refine WS.block ?_ | refine WS.inBlock ?_ | refine WS.exit rfl ?_ | refine WS.scope ?_ | refine WS.inScope ?_ | refine WS.region (by simp only [EV, TY, e4, ↓reduceIte, Nat.reduceEqDiff, decide_true, decide_false, eq_self]; with_reducible rfl) ?_)
            refine ih (rest.drop 1).length _ _ (by simp; omega) ⟨q, p', r ++ [(s'.take k, v)], o, rest.drop 1, rfl, by simp; omega, ?_, ?_, g6, hlow.trans g7, by rw [← hstep, hp]⟩
            · simp only [EV, ↓reduceIte, Nat.reduceEqDiff, decide_true, decide_false, eq_self, and_true, true_and, and_self]
            · simp only [EV, h4, ↓reduceIte, Nat.reduceEqDiff, decide_true, decide_false, eq_self, and_true, true_and, and_self]
end Go.Proofs.YtjcckafjopjdbaaDoor
namespace Go.Proofs.YtjcckafjopjdbaaDoor
open Go Go.Vm
set_option maxRecDepth 100000
set_option maxHeartbeats 4000000
set_option linter.unusedSimpArgs false
set_option linter.unusedVariables false
/-- The document's Parse: the name that is being made, and the step. -/
structure St2 (n0 : Nat) (T : Store) (q : Q) (vn : V) (r : List Ava) (vr : V) : Prop where
  inn : InQ n0 T q
  out : (q = [] ∧ vn = .slN) ∨ ∃ o, n0 ≤ o ∧ vn = .slR o 0 q.length q.length 1 ∧ T[o]? = some (.cells (q.map innV) 38)
  stp : (r = [] ∧ vr = .slN) ∨ ∃ p, n0 ≤ p ∧ vr = .slR p 0 r.length r.length 2 ∧ T[p]? = some (.cells (r.flatMap avaC) 40) ∧ ∀ x ∈ q, x.1 ≠ p
theorem lt_of_get {S : Store} {i : Nat} {o : Ob} (h : S[i]? = some o) : i < S.length := (List.getElem?_eq_some_iff.1 h).1
theorem get_more {S : Store} {i : Nat} {o : Ob} (h : S[i]? = some o) (l : Store) : (S ++ l)[i]? = some o := by
  rw [List.getElem?_append_left (lt_of_get h)]; exact h
theorem get_set_ne {S : Store} {i j : Nat} {o u : Ob} (h : S[i]? = some o) (hne : j ≠ i) : (S.set j u)[i]? = some o := by
  rw [List.getElem?_set_ne hne]; exact h
theorem ids_ne {S : Store} {i j : Nat} {a b : List V} (h : S[i]? = some (.cells a 40)) (g : S[j]? = some (.cells b 38)) : i ≠ j := by
  intro e
  subst e
  rw [h] at g
  injection g with g
  injection g with _ g
  exact absurd g (by decide)
theorem St2.put {n0 : Nat} {T : Store} {q : Q} {vn : V} {r : List Ava} {vr : V} (h : St2 n0 T q vn r vr) (hn : n0 ≤ T.length) (a : Ava) (hr : r.length ≤ 1048576) :
    ∃ T1 T2 x p', opBuildSlice E0 T 38 1 [(0, .agg [.str a.1, .str a.2])] = some (x, T1) ∧ opAppend E0 T1 [38, 38] vr x = some (.slR p' 0 (r.length + 1) (r.length + 1) 2, T2) ∧
      St2 n0 T2 q vn (r ++ [a]) (.slR p' 0 (r.length + 1) (r.length + 1) 2) ∧ Low n0 T T2 := by
  have hmk : opBuildSlice E0 T 38 1 [(0, .agg [.str a.1, .str a.2])] = some (.slR T.length 0 1 1 2, T ++ [Ob.cells [.str a.1, .str a.2] 40]) := ty38.mk1 T (.agg [.str a.1, .str a.2]) rfl rfl
  have hsc := sc_top [.str a.1, .str a.2] 1 (z := 2) rfl T (e := 40)
  obtain ⟨hi, hou, hst⟩ := h
  rcases hst with ⟨rfl, rfl⟩ | ⟨p, p1, rfl, p2, p3⟩
  · have happ := ty38.app0 hsc (fun s => by simp) rfl (by omega) (by omega) (by omega)
    refine ⟨_, _, _, _, hmk, happ, ⟨(hi.more _).more _, ?_, .inr ⟨T.length + 1, by omega, by simp, by simp [avaC], ?_⟩⟩, (Low.app hn _).trans (Low.app (by simp; omega) _)⟩
    · rcases hou with ⟨rfl, rfl⟩ | ⟨o, o1, rfl, o2⟩
      · exact .inl ⟨rfl, rfl⟩
      · exact .inr ⟨o, o1, rfl, get_more (get_more o2 _) _⟩
    · intro x hx
      have := lt_of_get (hi x hx).2
      omega
  · have hpl := lt_of_get p2
    have happ := ty38.app hsc (fun s => by simp) rfl (by omega) (get_more p2 _) (flat_len r) (by omega) (by omega)
    refine ⟨_, _, _, _, hmk, happ, ⟨((hi.more _).set _ _ p3).more _, ?_, .inr ⟨T.length + 1, by omega, by simp, by simp [avaC], ?_⟩⟩, (Low.app hn _).trans ((Low.set (by simp; omega) p1).trans (Low.app (by simp; omega) _))⟩
    · rcases hou with ⟨rfl, rfl⟩ | ⟨o, o1, rfl, o2⟩
      · exact .inl ⟨rfl, rfl⟩
      · exact .inr ⟨o, o1, rfl, get_more (get_set_ne (get_more o2 _) (ids_ne p2 o2)) _⟩
    · intro x hx
      have := lt_of_get (hi x hx).2
      omega
theorem St2.push {n0 : Nat} {T : Store} {q : Q} {vn : V} {r : List Ava} {m p : Nat} (h : St2 n0 T q vn r (.slR p 0 m m 2)) (hn : n0 ≤ T.length) (hq : q.length ≤ 1048576) :
    ∃ T1 T2 y o', opBuildSlice E0 T 24 1 [(0, .slR p 0 m m 2)] = some (y, T1) ∧ opAppend E0 T1 [24, 24] vn y = some (.slR o' 0 (q.length + 1) (q.length + 1) 1, T2) ∧
      St2 n0 T2 (q ++ [(p, r)]) (.slR o' 0 (q.length + 1) (q.length + 1) 1) [] .slN ∧ Low n0 T T2 := by
  have hmk : opBuildSlice E0 T 24 1 [(0, .slR p 0 m m 2)] = some (.slR T.length 0 1 1 1, T ++ [Ob.cells [.slR p 0 m m 2] 38]) := ty24.mk1 T (.slR p 0 m m 2) rfl rfl
  have hsc := sc_top [.slR p 0 m m 2] 1 (z := 1) rfl T (e := 38)
  obtain ⟨hi, hou, hst⟩ := h
  obtain ⟨p1, hm, p2, p3⟩ : n0 ≤ p ∧ m = r.length ∧ T[p]? = some (.cells (r.flatMap avaC) 40) ∧ ∀ x ∈ q, x.1 ≠ p := by
    rcases hst with ⟨_, h2⟩ | ⟨p', h1, h2, h3, h4⟩
    · cases h2
    · injection h2 with h2 h5 h6
      subst h2 h6
      exact ⟨h1, rfl, h3, h4⟩
  subst hm
  have hadd : InQ n0 T (q ++ [(p, r)]) := hi.add ⟨p1, p2⟩
  rcases hou with ⟨rfl, rfl⟩ | ⟨o, o1, rfl, o2⟩
  · have happ := ty24.app0 hsc (fun s => by simp) rfl (by omega) (by omega) (by omega)
    exact ⟨_, _, _, _, hmk, happ, ⟨(hadd.more _).more _, .inr ⟨T.length + 1, by omega, by simp, by simp [innV]⟩, .inl ⟨rfl, rfl⟩⟩, (Low.app hn _).trans (Low.app (by simp; omega) _)⟩
  · have happ := ty24.app (m := q.length) hsc (fun s => by simp) rfl (by omega) (get_more o2 _) (by simp) (by omega) (by omega)
    refine ⟨_, _, _, _, hmk, happ, ⟨((hadd.more _).set _ _ fun x hx => ids_ne (hadd x hx).2 o2).more _, .inr ⟨T.length + 1, by omega, by simp, by simp [innV]⟩, .inl ⟨rfl, rfl⟩⟩, (Low.app hn _).trans ((Low.set (by simp; omega) o1).trans (Low.app (by simp; omega) _))⟩
theorem find_drop_none {s : List UInt8} {i : Nat} (h : ∀ j, i ≤ j → j < s.length → s.getD j 0 ≠ 61) : (s.drop i).findIdx? (· == 61) = none :=
  find_none (0 : UInt8) fun k hk => by
    rw [getD_drop]
    simp only [List.length_drop] at hk
    simpa using h (i + k) (by omega) (by omega)
theorem find_drop_some {s : List UInt8} {i m : Nat} (him : i ≤ m) (hm : m < s.length) (h1 : s.getD m 0 = 61) (h : ∀ j, i ≤ j → j < m → s.getD j 0 ≠ 61) : (s.drop i).findIdx? (· == 61) = some (m - i) := by
  refine find_some (0 : UInt8) (by simp; omega) ?_ fun k hk => ?_
  · rw [getD_drop, show i + (m - i) = m by omega, h1]; rfl
  · rw [getD_drop]
    simpa using h (i + k) (by omega) (by omega)
theorem sl9b (s : List UInt8) (i j : Nat) (h : i ≤ j) (hj : j ≤ s.length) : opSlice E0 9 (.str s) (some (.int .i64 (i : Nat))) (some (.int .i64 (j : Nat))) none = some (.str ((s.drop i).take (j - i))) := by
  rw [sl_both Tryd.underlying9 s .i64 .i64 i j h hj, List.drop_take]
end Go.Proofs.YtjcckafjopjdbaaDoor
namespace Go.Proofs.YtjcckafjopjdbaaDoor
open Go Go.Vm
set_option maxRecDepth 100000
set_option maxHeartbeats 4000000
set_option linter.unusedSimpArgs false
set_option linter.unusedVariables false
theorem refParse_ok (s : List UInt8) (S : Store) (hs : s.length ≤ 1048576) : saysN 11 s S := by
  refine says_of ?_
  refine fn_wsP Tryd.func11 rfl ?_
  by_cases hl : 400 < s.length
  · have hl' : (400 : Int) < ((s.length : Nat) : Int) := by omega
    repeat (first | refine WS.seq ?_ | refine WS.skip ?_ | refine WS.label ?_ | refine WS.block ?_ | refine WS.inBlock ?_ | refine WS.exit rfl ?_ | refine WS.scope ?_ | refine WS.inScope ?_ | refine WS.region (by simp only [EV, TY, lget, hl', ↓reduceIte, Nat.reduceEqDiff, decide_true, decide_false, eq_self]; with_reducible rfl) ?_)
    refine WS.cond_true (by simp only [EV, lget, ↓reduceIte, Nat.reduceEqDiff, decide_true, decide_false, eq_self]) ?_
    repeat (first | refine WS.seq ?_ | refine WS.skip ?_ | refine WS.label ?_ | refine WS.block ?_ | refine WS.inBlock ?_ | refine WS.exit rfl ?_ | refine WS.scope ?_ | refine WS.inScope ?_ | refine WS.region (by simp only [EV, TY, lget, ↓reduceIte, Nat.reduceEqDiff, decide_true, decide_false, eq_self]; with_reducible rfl) ?_)
    refine WS.ret2P (t := 2) (u := 3) rfl rfl rfl rfl (List.prefix_refl _) rfl (saysP_nil S (parseN_long hl))
  have hl' : ¬ (400 : Int) < ((s.length : Nat) : Int) := by omega
  by_cases hs0 : s = []
  · subst hs0
    have hee : (([] : List UInt8) == []) = true := rfl
    repeat (first | refine WS.seq ?_ | refine WS.skip ?_ | refine WS.label ?_ | refine WS.block ?_ | refine WS.inBlock ?_ | refine WS.exit rfl ?_ | refine WS.scope ?_ | refine WS.inScope ?_ | refine WS.region (by simp only [EV, TY, lget, hl', ↓reduceIte, Nat.reduceEqDiff, decide_true, decide_false, eq_self]; with_reducible rfl) ?_)
    refine WS.cond_false (by simp only [EV, lget, ↓reduceIte, Nat.reduceEqDiff, decide_true, decide_false, eq_self]) ?_
    repeat (first | refine WS.seq ?_ | refine WS.skip ?_ | refine WS.label ?_ | refine WS.block ?_ | refine WS.inBlock ?_ | refine WS.exit rfl ?_ | refine WS.scope ?_ | refine WS.inScope ?_ | refine WS.region (by simp only [EV, TY, lget, hee, ↓reduceIte, Nat.reduceEqDiff, decide_true, decide_false, eq_self]; with_reducible rfl) ?_)
    refine WS.cond_true (by simp only [EV, lget, ↓reduceIte, Nat.reduceEqDiff, decide_true, decide_false, eq_self]) ?_
    repeat (first | refine WS.seq ?_ | refine WS.skip ?_ | refine WS.label ?_ | refine WS.block ?_ | refine WS.inBlock ?_ | refine WS.exit rfl ?_ | refine WS.scope ?_ | refine WS.inScope ?_ | refine WS.region (by simp only [EV, TY, lget, ↓reduceIte, Nat.reduceEqDiff, decide_true, decide_false, eq_self]; with_reducible rfl) ?_)
    refine WS.ret2P (t := 2) (u := 3) rfl rfl rfl rfl (List.prefix_refl _) rfl (saysP_nil S parseN_nil)
  have h0' : (s == []) = false := beq_eq_false_iff_ne.2 hs0
  repeat (first | refine WS.seq ?_ | refine WS.skip ?_ | refine WS.label ?_ | refine WS.block ?_ | refine WS.inBlock ?_ | refine WS.exit rfl ?_ | refine WS.scope ?_ | refine WS.inScope ?_ | refine WS.region (by simp only [EV, TY, lget, hl', ↓reduceIte, Nat.reduceEqDiff, decide_true, decide_false, eq_self]; with_reducible rfl) ?_)
  refine WS.cond_false (by simp only [EV, lget, ↓reduceIte, Nat.reduceEqDiff, decide_true, decide_false, eq_self]) ?_
  repeat (first | refine WS.seq ?_ | refine WS.skip ?_ | refine WS.label ?_ | refine WS.block ?_ | refine WS.inBlock ?_ | refine WS.exit rfl ?_ | refine WS.scope ?_ | refine WS.inScope ?_ | refine WS.region (by simp only [EV, TY, lget, h0', ↓reduceIte, Nat.reduceEqDiff, decide_true, decide_false, eq_self]; with_reducible rfl) ?_)
  refine WS.cond_false (by simp only [EV, lget, ↓reduceIte, Nat.reduceEqDiff, decide_true, decide_false, eq_self]) ?_
  repeat (first | refine WS.seq ?_ | refine WS.skip ?_ | refine WS.label ?_ | refine WS.block ?_ | refine WS.inBlock ?_ | refine WS.exit rfl ?_ | refine WS.scope ?_ | refine WS.inScope ?_ | refine WS.region (by simp only [EV, TY, lget, ↓reduceIte, Nat.reduceEqDiff, decide_true, decide_false, eq_self]; with_reducible rfl) ?_)
  refine WS.loopB (fun j fr T => ∃ q vn r vr i, j = s.length - i ∧ i ≤ s.length ∧ q.length + r.length + (s.length - i) ≤ s.length ∧ lget fr 0 = .str s ∧ lget fr 4 = vn ∧ lget fr 5 = vr ∧ lget fr 6 = .int .i64 (i : Nat) ∧ St2 S.length T q vn r vr ∧ Low S.length S T ∧ parseL (names q) r (s.drop i) = parseL [] [] s)
    (fun fr T => ∃ q o, lget fr 4 = .slR o 0 q.length q.length 1 ∧ S.length ≤ o ∧ InQ S.length T q ∧ T[o]? = some (.cells (q.map innV) 38) ∧ Low S.length S T ∧ parseL [] [] s = some (names q)) (j := s.length) ?_ ?_ ?_
  · refine ⟨[], .slN, [], .slN, 0, rfl, by omega, by simp, ?_, ?_, ?_, ?_, ⟨fun x hx => by simp at hx, .inl ⟨rfl, rfl⟩, .inl ⟨rfl, rfl⟩⟩, Low.refl (Nat.le_refl _), rfl⟩
    all_goals
      simp only [EV, lget, ↓reduceIte, Nat.reduceEqDiff, decide_true, decide_false, eq_self, and_true, true_and, and_self]
      try rfl
  · rintro fr T ⟨q, o, h4, ho, hin, hout, hlow, hp⟩
    have okn := parse0_ok (by omega) hp
    have hd := made_isDn hin hout
    have hsh := Shaped_ok hd okn
    have hn := parseN_some (by omega) hs0 hp
    by_cases hb : shapedB (names q) = true
    · rw [if_pos hb] at hn
      repeat (first | refine WS.seq ?_ | refine WS.skip ?_ | refine WS.label ?_ | refine WS.block ?_ | refine WS.inBlock ?_ | refine WS.exit rfl ?_ | refine WS.scope ?_ | refine WS.inScope ?_ | refine WS.region (by simp only [EV, TY, h4, callV_26, hsh, hb, Bool.not_true, ↓reduceIte, Nat.reduceEqDiff, decide_true, decide_false, eq_self]; with_reducible rfl) ?_)
      refine WS.cond_false (by simp only [EV, ↓reduceIte, Nat.reduceEqDiff, decide_true, decide_false, eq_self]) ?_
      repeat (first | refine WS.seq ?_ | refine WS.skip ?_ | refine WS.label ?_ | refine WS.block ?_ | refine WS.inBlock ?_ | refine WS.exit rfl ?_ | refine WS.scope ?_ | refine WS.inScope ?_ | refine WS.region (by simp only [EV, TY, h4, ↓reduceIte, Nat.reduceEqDiff, decide_true, decide_false, eq_self]; with_reducible rfl) ?_)
      refine WS.ret2P (t := 2) (u := 3) rfl rfl ?_ ?_ hlow.pre (made_frz hin ho hout 0) ⟨doneV q, by rw [hn], fun S' => by rw [hn]; exact done_isDn S' q⟩
      · simp only [EV, ↓reduceIte, Nat.reduceEqDiff, decide_true, decide_false, eq_self, and_true, true_and, and_self]
      · simp only [EV, ↓reduceIte, Nat.reduceEqDiff, decide_true, decide_false, eq_self, and_true, true_and, and_self]
    · have hb' : shapedB (names q) = false := by simpa using hb
      rw [if_neg hb] at hn
      repeat (first | refine WS.seq ?_ | refine WS.skip ?_ | refine WS.label ?_ | refine WS.block ?_ | refine WS.inBlock ?_ | refine WS.exit rfl ?_ | refine WS.scope ?_ | refine WS.inScope ?_ | refine WS.region (by simp only [EV, TY, h4, callV_26, hsh, hb', Bool.not_false, ↓reduceIte, Nat.reduceEqDiff, decide_true, decide_false, eq_self]; with_reducible rfl) ?_)
      refine WS.cond_true (by simp only [EV, ↓reduceIte, Nat.reduceEqDiff, decide_true, decide_false, eq_self]) ?_
      repeat (first | refine WS.seq ?_ | refine WS.skip ?_ | refine WS.label ?_ | refine WS.block ?_ | refine WS.inBlock ?_ | refine WS.exit rfl ?_ | refine WS.scope ?_ | refine WS.inScope ?_ | refine WS.region (by simp only [EV, TY, h4, ↓reduceIte, Nat.reduceEqDiff, decide_true, decide_false, eq_self]; with_reducible rfl) ?_)
      refine WS.ret2P (t := 2) (u := 3) rfl rfl ?_ ?_ hlow.pre (frz_nilE _ _ _) (saysP_nil S hn)
      · simp only [EV, ↓reduceIte, Nat.reduceEqDiff, decide_true, decide_false, eq_self, and_true, true_and, and_self]
      · simp only [EV, ↓reduceIte, Nat.reduceEqDiff, decide_true, decide_false, eq_self, and_true, true_and, and_self]
  · rintro j fr T ⟨q, vn, r, vr, i, rfl, hi, hle, h0, h4, h5, h6, hst, hlow, hp⟩ ih last
    repeat (first | refine WS.seq ?_ | refine WS.skip ?_ | refine WS.label ?_ | refine WS.block ?_ | refine WS.inBlock ?_ | refine WS.exit rfl ?_ | refine WS.scope ?_ | refine WS.inScope ?_ | refine WS.region (by simp only [EV, TY, h6, ↓reduceIte, Nat.reduceEqDiff, decide_true, decide_false, eq_self]; with_reducible rfl) ?_)
    refine WS.loopB (fun j fr T' => ∃ m, j = s.length - m ∧ i ≤ m ∧ m ≤ s.length ∧ T = T' ∧ lget fr 0 = .str s ∧ lget fr 4 = vn ∧ lget fr 5 = vr ∧ lget fr 6 = .int .i64 (m : Nat) ∧ lget fr 7 = .int .i64 (i : Nat) ∧ ∀ j, i ≤ j → j < m → s.getD j 0 ≠ 61)
      (fun fr T' => ∃ m, i ≤ m ∧ m ≤ s.length ∧ T = T' ∧ lget fr 0 = .str s ∧ lget fr 4 = vn ∧ lget fr 5 = vr ∧ lget fr 6 = .int .i64 (m : Nat) ∧ lget fr 7 = .int .i64 (i : Nat) ∧ (∀ j, i ≤ j → j < m → s.getD j 0 ≠ 61) ∧ (m < s.length → s.getD m 0 = 61)) (j := s.length - i) ?_ ?_ ?_
    · refine ⟨i, rfl, by omega, hi, rfl, ?_, ?_, ?_, ?_, ?_, fun j h1 h2 => by omega⟩
      all_goals
        simp only [EV, h0, h4, h5, h6, ↓reduceIte, Nat.reduceEqDiff, decide_true, decide_false, eq_self, and_true, true_and, and_self]
    · rintro fr T' ⟨m, him, hm, rfl, h0, h4, h5, h6, h7, hno, hyes⟩
      by_cases hme : m = s.length
      · have hf := find_drop_none (s := s) (i := i) (by rw [hme] at hno; exact hno)
        have hme' : (((m : Nat) : Int) == ((s.length : Nat) : Int)) = true := by simp [hme]
        repeat (first | refine WS.seq ?_ | refine WS.skip ?_ | refine WS.label ?_ | refine WS.block ?_ | refine WS.inBlock ?_ | refine WS.exit rfl ?_ | refine WS.scope ?_ | refine WS.inScope ?_ | refine WS.region (by simp only [EV, TY, h0, h6, hme', ↓reduceIte, Nat.reduceEqDiff, decide_true, decide_false, eq_self]; with_reducible rfl) ?_)
        refine WS.cond_true (by simp only [EV, ↓reduceIte, Nat.reduceEqDiff, decide_true, decide_false, eq_self]) ?_
        repeat (first | refine WS.seq ?_ | refine WS.skip ?_ | refine WS.label ?_ | refine WS.block ?_ | refine WS.inBlock ?_ | refine WS.exit rfl ?_ | refine WS.scope ?_ | refine WS.inScope ?_ | refine WS.region (by simp only [EV, TY, ↓reduceIte, Nat.reduceEqDiff, decide_true, decide_false, eq_self]; with_reducible rfl) ?_)
        refine WS.ret2P (t := 2) (u := 3) rfl rfl ?_ ?_ hlow.pre (frz_nilE _ _ _) (saysP_nil S (parseN_bad hl (by assumption) (by rw [← hp]; exact parseL_bad _ _ _ hf)))
        · simp only [EV, ↓reduceIte, Nat.reduceEqDiff, decide_true, decide_false, eq_self, and_true, true_and, and_self]
        · simp only [EV, ↓reduceIte, Nat.reduceEqDiff, decide_true, decide_false, eq_self, and_true, true_and, and_self]
      · have hme' : (((m : Nat) : Int) == ((s.length : Nat) : Int)) = false := beq_eq_false_iff_ne.2 (by omega)
        have hf := find_drop_some him (by omega) (hyes (by omega)) hno
        have hinc := wrap_inc m (by omega)
        have hdd : (s.drop i).drop (m - i + 1) = s.drop (m + 1) := by
          rw [List.drop_drop]; congr 1; omega
        have hr := reads_ok s (m + 1) T (by omega) hs
        cases hrd : readL [] true (s.drop (m + 1)) with
        | none =>
          rw [hrd] at hr
          simp only [readsV] at hr
          repeat (first | refine WS.seq ?_ | refine WS.skip ?_ | refine WS.label ?_ | refine WS.block ?_ | refine WS.inBlock ?_ | refine WS.exit rfl ?_ | refine WS.scope ?_ | refine WS.inScope ?_ | refine WS.region (by simp only [EV, TY, h0, h6, hme', ↓reduceIte, Nat.reduceEqDiff, decide_true, decide_false, eq_self]; with_reducible rfl) ?_)
          refine WS.cond_false (by simp only [EV, ↓reduceIte, Nat.reduceEqDiff, decide_true, decide_false, eq_self]) ?_
          repeat (first | refine WS.seq ?_ | refine WS.skip ?_ | refine WS.label ?_ | refine WS.block ?_ | refine WS.inBlock ?_ | refine WS.exit rfl ?_ | refine WS.scope ?_ | refine WS.inScope ?_ | refine WS.region (by simp only [EV, TY, h0, h6, hinc, callV_25, hr, Bool.not_false, ↓reduceIte, Nat.reduceEqDiff, decide_true, decide_false, eq_self]; with_reducible rfl) ?_)
          refine WS.cond_true (by simp only [EV, ↓reduceIte, Nat.reduceEqDiff, decide_true, decide_false, eq_self]) ?_
          repeat (first | refine WS.seq ?_ | refine WS.skip ?_ | refine WS.label ?_ | refine WS.block ?_ | refine WS.inBlock ?_ | refine WS.exit rfl ?_ | refine WS.scope ?_ | refine WS.inScope ?_ | refine WS.region (by simp only [EV, TY, ↓reduceIte, Nat.reduceEqDiff, decide_true, decide_false, eq_self]; with_reducible rfl) ?_)
          refine WS.ret2P (t := 2) (u := 3) rfl rfl ?_ ?_ hlow.pre (frz_nilE _ _ _) (saysP_nil S (parseN_bad hl (by assumption) (by rw [← hp]; exact parseL_none _ _ _ hf (by rw [hdd]; exact hrd))))
          · simp only [EV, ↓reduceIte, Nat.reduceEqDiff, decide_true, decide_false, eq_self, and_true, true_and, and_self]
          · simp only [EV, ↓reduceIte, Nat.reduceEqDiff, decide_true, decide_false, eq_self, and_true, true_and, and_self]
        | some pr =>
          obtain ⟨v, rest⟩ := pr
          rw [hrd] at hr
          simp only [readsV] at hr
          obtain ⟨hsuf, hlen⟩ := readL_suffix _ _ _ hrd
          simp only [List.length_nil, List.length_drop] at hlen
          have hrest : rest = s.drop (s.length - rest.length) := List.suffix_iff_eq_drop.1 (hsuf.trans (List.drop_suffix _ _))
          have hrd' : readL [] true ((s.drop i).drop (m - i + 1)) = some (v, rest) := by rw [hdd]; exact hrd
          have hstep := parseL_some (names q) r (s.drop i) hf hrd'
          obtain ⟨T1, T2, y, p', g1, g2, g3, g4⟩ := hst.put hlow.1 ((s.drop i).take (m - i), v) (by omega)
          simp only at g1
          have e2 := sl9b s i m him hm
          have hb40 := build_40 ((s.drop i).take (m - i)) v
          have hlen2 : (r ++ [((s.drop i).take (m - i), v)]).length = r.length + 1 := by simp
          generalize hend : s.length - rest.length = en at hr hrest
          repeat (first | refine WS.seq ?_ | refine WS.skip ?_ | refine WS.label ?_ | refine WS.block ?_ | refine WS.inBlock ?_ | refine WS.exit rfl ?_ | refine WS.scope ?_ | refine WS.inScope ?_ | refine WS.region (by simp only [EV, TY, h0, h6, hme', ↓reduceIte, Nat.reduceEqDiff, decide_true, decide_false, eq_self]; with_reducible rfl) ?_)
          refine WS.cond_false (by simp only [EV, ↓reduceIte, Nat.reduceEqDiff, decide_true, decide_false, eq_self]) ?_
          repeat (first | refine WS.seq ?_ | refine WS.skip ?_ | refine WS.label ?_ | refine WS.block ?_ | refine WS.inBlock ?_ | refine WS.exit rfl ?_ | refine WS.scope ?_ | refine WS.inScope ?_ | refine WS.region (by simp only [EV, TY, h0, h6, hinc, callV_25, hr, Bool.not_true, ↓reduceIte, Nat.reduceEqDiff, decide_true, decide_false, eq_self]; with_reducible rfl) ?_)
          refine WS.cond_false (by simp only [EV, ↓reduceIte, Nat.reduceEqDiff, decide_true, decide_false, eq_self]) ?_
          by_cases hre : rest = []
          · have hen : ((en : Nat) : Int) == ((s.length : Nat) : Int) := by
              rw [hre] at hend
              simp at hend
              simp; omega
            have hen' : (((en : Nat) : Int) == ((s.length : Nat) : Int)) = true := hen
            rw [if_pos hre] at hstep
            obtain ⟨U1, U2, z, o', k1, k2, k3, k4⟩ := g3.push (hlow.trans g4).1 (by omega)
            repeat (first | refine WS.seq ?_ | refine WS.skip ?_ | refine WS.label ?_ | refine WS.block ?_ | refine WS.inBlock ?_ | refine WS.exit rfl ?_ | refine WS.scope ?_ | refine WS.inScope ?_ | refine WS.region (by simp only [EV, TY, h0, h5, h6, h7, e2, hb40, g1, g2, hen', ↓reduceIte, Nat.reduceEqDiff, decide_true, decide_false, eq_self]; with_reducible rfl) ?_)
            refine WS.cond_true (by simp only [EV, hen', ↓reduceIte, Nat.reduceEqDiff, decide_true, decide_false, eq_self]) ?_
            repeat (first | refine WS.seq ?_ | refine WS.skip ?_ | refine WS.label ?_ | refine WS.block ?_ | refine WS.inBlock ?_ | refine WS.exit rfl ?_ | refine WS.scope ?_ | refine WS.inScope ?_ | refine WS.region (by simp only [EV, TY, h0, h4, h5, h6, h7, k1, k2, hen', ↓reduceIte, Nat.reduceEqDiff, decide_true, decide_false, eq_self]; with_reducible rfl) ?_)
            refine WS.cond_true (by simp only [EV, ↓reduceIte, Nat.reduceEqDiff, decide_true, decide_false, eq_self]) ?_
            refine WS.exit rfl ?_
            refine last _ _ ⟨q ++ [(p', r ++ [((s.drop i).take (m - i), v)])], o', ?_, ?_⟩
            · simp only [EV, ↓reduceIte, Nat.reduceEqDiff, decide_true, decide_false, eq_self, and_true, true_and, and_self]
              simp
            · obtain ⟨i1, i2, i3⟩ := k3
              rcases i2 with ⟨hbad, _⟩ | ⟨o, o1, o2, o3⟩
              · simp at hbad
              · injection o2 with o2
                subst o2
                exact ⟨o1, i1, o3, (hlow.trans g4).trans k4, by rw [← hp, hstep]; simp [names]⟩
          · have hpos : 0 < rest.length := List.length_pos_iff.2 hre
            have hen' : (((en : Nat) : Int) == ((s.length : Nat) : Int)) = false := beq_eq_false_iff_ne.2 (by omega)
            rw [if_neg hre] at hstep
            have e3 : opIndex E0 9 (.str s) (.int .i64 (en : Nat)) = some (.int .u8 (s.getD en 0).toNat) := idx_str_9 s .i64 en (by omega)
            have hg0 : rest.getD 0 0 = s.getD en 0 := by rw [hrest, getD_drop, Nat.add_zero]
            have hd1 : rest.drop 1 = s.drop (en + 1) := by rw [hrest, List.drop_drop]
            have einc := wrap_inc en (by omega)
            rw [hg0, hd1] at hstep
            by_cases hc : s.getD en 0 = 44
            · rw [if_pos hc] at hstep
              obtain ⟨U1, U2, z, o', k1, k2, k3, k4⟩ := g3.push (hlow.trans g4).1 (by omega)
              repeat (first | refine WS.seq ?_ | refine WS.skip ?_ | refine WS.label ?_ | refine WS.block ?_ | refine WS.inBlock ?_ | refine WS.exit rfl ?_ | refine WS.scope ?_ | refine WS.inScope ?_ | refine WS.region (by simp only [EV, TY, h0, h5, h6, h7, e2, hb40, g1, g2, hen', e3, eq8t hc 44 rfl, ↓reduceIte, Nat.reduceEqDiff, decide_true, decide_false, eq_self]; with_reducible rfl) ?_)
              refine WS.cond_true (by simp only [EV, hen', eq8t hc 44 rfl, ↓reduceIte, Nat.reduceEqDiff, decide_true, decide_false, eq_self]) ?_
              repeat (first | refine WS.seq ?_ | refine WS.skip ?_ | refine WS.label ?_ | refine WS.block ?_ | refine WS.inBlock ?_ | refine WS.exit rfl ?_ | refine WS.scope ?_ | refine WS.inScope ?_ | refine WS.region (by simp only [EV, TY, h0, h4, h5, h6, h7, k1, k2, hen', ↓reduceIte, Nat.reduceEqDiff, decide_true, decide_false, eq_self]; with_reducible rfl) ?_)
              refine WS.cond_false (by simp only [EV, ↓reduceIte, Nat.reduceEqDiff, decide_true, decide_false, eq_self]) ?_
              repeat (first | refine WS.seq ?_ | refine WS.skip ?_ | refine WS.label ?_ | refine WS.block ?_ | refine WS.inBlock ?_ | refine WS.exit rfl ?_ | refine WS.scope ?_ | refine WS.inScope ?_ | refine WS.region (by simp only [EV, TY, einc, ↓reduceIte, Nat.reduceEqDiff, decide_true, decide_false, eq_self]; with_reducible rfl) ?_)
              refine ih (s.length - (en + 1)) _ _ (by omega) ⟨q ++ [(p', r ++ [((s.drop i).take (m - i), v)])], .slR o' 0 (q.length + 1) (q.length + 1) 1, [], .slN, en + 1, rfl, by omega, by simp; omega, ?_, ?_, ?_, ?_, k3, (hlow.trans g4).trans k4, by rw [← hp, hstep]; simp [names]⟩
              · simp only [EV, h0, ↓reduceIte, Nat.reduceEqDiff, decide_true, decide_false, eq_self, and_true, true_and, and_self]
              · simp only [EV, ↓reduceIte, Nat.reduceEqDiff, decide_true, decide_false, eq_self, and_true, true_and, and_self]
              · simp only [EV, ↓reduceIte, Nat.reduceEqDiff, decide_true, decide_false, eq_self, and_true, true_and, and_self]
              · simp only [EV, ↓reduceIte, Nat.reduceEqDiff, decide_true, decide_false, eq_self, and_true, true_and, and_self]
            · rw [if_neg hc] at hstep
              repeat (first | refine WS.seq ?_ | refine WS.skip ?_ | refine WS.label ?_ | refine WS.block ?_ | refine WS.inBlock ?_ | refine WS.exit rfl ?_ | refine WS.scope ?_ | refine WS.inScope ?_ | refine WS.region (by simp only [EV, TY, h0, h5, h6, h7, e2, hb40, g1, g2, hen', e3, eq8f hc 44 rfl, ↓reduceIte, Nat.reduceEqDiff, decide_true, decide_false, eq_self]; with_reducible rfl) ?_)
              refine WS.cond_false (by simp only [EV, hen', eq8f hc 44 rfl, ↓reduceIte, Nat.reduceEqDiff, decide_true, decide_false, eq_self]) ?_
              repeat (first | refine WS.seq ?_ | refine WS.skip ?_ | refine WS.label ?_ | refine WS.block ?_ | refine WS.inBlock ?_ | refine WS.exit rfl ?_ | refine WS.scope ?_ | refine WS.inScope ?_ | refine WS.region (by simp only [EV, TY, h0, h4, h5, h6, h7, hen', ↓reduceIte, Nat.reduceEqDiff, decide_true, decide_false, eq_self]; with_reducible rfl) ?_)
              refine WS.cond_false (by simp only [EV, ↓reduceIte, Nat.reduceEqDiff, decide_true, decide_false, eq_self]) ?_
              repeat (first | refine WS.seq ?_ | refine WS.skip ?_ | refine WS.label ?_ | refine WS.block ?_ | refine WS.inBlock ?_ | refine WS.exit rfl ?_ | refine WS.scope ?_ | refine WS.inScope ?_ | refine WS.region (by simp only [EV, TY, einc, ↓reduceIte, Nat.reduceEqDiff, decide_true, decide_false, eq_self]; with_reducible rfl) ?_)
              refine ih (s.length - (en + 1)) _ _ (by omega) ⟨q, vn, r ++ [((s.drop i).take (m - i), v)], .slR p' 0 (r.length + 1) (r.length + 1) 2, en + 1, rfl, by omega, by simp; omega, ?_, ?_, ?_, ?_, g3, hlow.trans g4, by rw [← hp, hstep]⟩
              · simp only [EV, h0, ↓reduceIte, Nat.reduceEqDiff, decide_true, decide_false, eq_self, and_true, true_and, and_self]
              · simp only [EV, h4, ↓reduceIte, Nat.reduceEqDiff, decide_true, decide_false, eq_self, and_true, true_and, and_self]
              · simp only [EV, ↓reduceIte, Nat.reduceEqDiff, decide_true, decide_false, eq_self, and_true, true_and, and_self]
              · simp only [EV, ↓reduceIte, Nat.reduceEqDiff, decide_true, decide_false, eq_self, and_true, true_and, and_self]
    · rintro j fr T' ⟨m, rfl, him, hm, rfl, h0, h4, h5, h6, h7, hno⟩ ihm lastm
      by_cases hlt : m < s.length
      · have hlt' : ((m : Nat) : Int) < ((s.length : Nat) : Int) := by omega
        have e1 : opIndex E0 9 (.str s) (.int .i64 (m : Nat)) = some (.int .u8 (s.getD m 0).toNat) := idx_str_9 s .i64 m hlt
        by_cases hc : s.getD m 0 = 61
        · have hne : ((((s.getD m 0).toNat : Nat) : Int) != 61) = false := by rw [ne8 _ 61 61 rfl]; simp only [hc, decide_true, Bool.not_true]
          repeat (first | refine WS.seq ?_ | refine WS.skip ?_ | refine WS.label ?_ | refine WS.block ?_ | refine WS.inBlock ?_ | refine WS.exit rfl ?_ | refine WS.scope ?_ | refine WS.inScope ?_ | refine WS.region (by simp only [EV, TY, h0, h6, hlt', e1, hne, ↓reduceIte, Nat.reduceEqDiff, decide_true, decide_false, eq_self]; with_reducible rfl) ?_)
          refine WS.cond_false (by simp only [EV, hlt', hne, ↓reduceIte, Nat.reduceEqDiff, decide_true, decide_false, eq_self]) ?_
          refine WS.exit rfl ?_
          refine lastm _ _ ⟨m, him, hm, rfl, ?_, ?_, ?_, ?_, ?_, hno, fun _ => hc⟩
          all_goals
            simp only [EV, h0, h4, h5, h6, h7, ↓reduceIte, Nat.reduceEqDiff, decide_true, decide_false, eq_self, and_true, true_and, and_self]
        · have hne : ((((s.getD m 0).toNat : Nat) : Int) != 61) = true := by rw [ne8 _ 61 61 rfl]; simp only [hc, decide_false, Bool.not_false]
          have minc := wrap_inc m (by omega)
          repeat (first | refine WS.seq ?_ | refine WS.skip ?_ | refine WS.label ?_ | refine WS.block ?_ | refine WS.inBlock ?_ | refine WS.exit rfl ?_ | refine WS.scope ?_ | refine WS.inScope ?_ | refine WS.region (by simp only [EV, TY, h0, h6, hlt', e1, hne, ↓reduceIte, Nat.reduceEqDiff, decide_true, decide_false, eq_self]; with_reducible rfl) ?_)
          refine WS.cond_true (by simp only [EV, hlt', hne, ↓reduceIte, Nat.reduceEqDiff, decide_true, decide_false, eq_self]) ?_
          repeat (first | refine WS.seq ?_ | refine WS.skip ?_ | refine WS.label ?_ | refine WS.block ?_ | refine WS.inBlock ?_ | refine WS.exit rfl ?_ | refine WS.scope ?_ | refine WS.inScope ?_ | refine WS.region (by simp only [EV, TY, h6, minc, ↓reduceIte, Nat.reduceEqDiff, decide_true, decide_false, eq_self]; with_reducible rfl) ?_)
          refine ihm (s.length - (m + 1)) _ _ (by omega) ⟨m + 1, rfl, by omega, by omega, rfl, ?_, ?_, ?_, ?_, ?_, fun j h1 h2 => ?_⟩
          · simp only [EV, h0, ↓reduceIte, Nat.reduceEqDiff, decide_true, decide_false, eq_self, and_true, true_and, and_self]
          · simp only [EV, h4, ↓reduceIte, Nat.reduceEqDiff, decide_true, decide_false, eq_self, and_true, true_and, and_self]
          · simp only [EV, h5, ↓reduceIte, Nat.reduceEqDiff, decide_true, decide_false, eq_self, and_true, true_and, and_self]
          · simp only [EV, ↓reduceIte, Nat.reduceEqDiff, decide_true, decide_false, eq_self, and_true, true_and, and_self]
          · simp only [EV, h7, ↓reduceIte, Nat.reduceEqDiff, decide_true, decide_false, eq_self, and_true, true_and, and_self]
          · rcases Nat.lt_or_ge j m with h | h
            · exact hno j h1 h
            · obtain rfl : j = m := by omega
              exact hc
      · have hlt' : ¬ ((m : Nat) : Int) < ((s.length : Nat) : Int) := by omega
        repeat (first | refine WS.seq ?_ | refine WS.skip ?_ | refine WS.label ?_ | refine WS.block ?_ | refine WS.inBlock ?_ | refine WS.exit rfl ?_ | refine WS.scope ?_ | refine WS.inScope ?_ | refine WS.region (by simp only [EV, TY, h0, h6, hlt', ↓reduceIte, Nat.reduceEqDiff, decide_true, decide_false, eq_self]; with_reducible rfl) ?_)
        refine WS.cond_false (by simp only [EV, hlt', ↓reduceIte, Nat.reduceEqDiff, decide_true, decide_false, eq_self]) ?_
        refine WS.exit rfl ?_
        refine lastm _ _ ⟨m, him, hm, rfl, ?_, ?_, ?_, ?_, ?_, hno, fun h => by omega⟩
        all_goals
          simp only [EV, h0, h4, h5, h6, h7, ↓reduceIte, Nat.reduceEqDiff, decide_true, decide_false, eq_self, and_true, true_and, and_self]
end Go.Proofs.YtjcckafjopjdbaaDoor
