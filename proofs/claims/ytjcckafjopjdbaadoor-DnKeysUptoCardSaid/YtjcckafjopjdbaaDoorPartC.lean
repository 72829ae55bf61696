import Derived.Test.YtjcckafjopjdbaaDoorPartB
import Derived.Test.YtjcckafjopjdbaaDoorVmF
set_option linter.all false
namespace Go.Proofs.YtjcckafjopjdbaaDoor
open Go Go.Vm
set_option maxRecDepth 100000
set_option maxHeartbeats 4000000
set_option linter.unusedSimpArgs false
set_option linter.unusedVariables false
abbrev Ava := List UInt8 × List UInt8
def avaC (a : Ava) : List V := [.str a.1, .str a.2]
def isRdn (S : Store) (v : V) (r : List Ava) : Prop := Sl S 2 v r.length (r.flatMap avaC)
def isDn (S : Store) (v : V) (n : List (List Ava)) : Prop := ∃ cs, Sl S 1 v n.length cs ∧ ∀ i, i < n.length → ∃ c, cs[i]? = some c ∧ isRdn S c (n.getD i [])
theorem isRdn.more {S : Store} {v : V} {r : List Ava} (h : isRdn S v r) (l : Store) : isRdn (S ++ l) v r := Sl.more h l
theorem isDn.more {S : Store} {v : V} {n : List (List Ava)} (h : isDn S v n) (l : Store) : isDn (S ++ l) v n := by
  obtain ⟨cs, h1, h2⟩ := h
  refine ⟨cs, h1.more l, fun i hi => ?_⟩
  obtain ⟨c, h3, h4⟩ := h2 i hi
  exact ⟨c, h3, h4.more l⟩
theorem isRdn.len {S : Store} {v : V} {r : List Ava} (h : isRdn S v r) : opLen E0 S 38 v = some (.int .i64 (r.length : Nat)) := Sl.len h Tryd.underlying38
theorem isDn.len {S : Store} {v : V} {n : List (List Ava)} (h : isDn S v n) : opLen E0 S 24 v = some (.int .i64 (n.length : Nat)) := by
  obtain ⟨cs, h1, h2⟩ := h
  exact h1.len Tryd.underlying24
/-- A step of a name. -/
theorem isDn.at_ {S : Store} {v : V} {n : List (List Ava)} (h : isDn S v n) (i : Nat) (hi : i < n.length) : ∃ a c, opIndexAddr E0 24 v (.int .i64 (i : Int)) = some a ∧ opLoad E0 S 38 a = some c ∧ isRdn S c (n.getD i []) := by
  obtain ⟨cs, h1, h2⟩ := h
  obtain ⟨c, h3, h4⟩ := h2 i hi
  obtain ⟨a, r, h5, h6⟩ := h1.at_ (E := E0) Tryd.underlying24 tsize_38 .i64 i hi
  refine ⟨a, c, h5, ?_, h4⟩
  have hlt := (List.getElem?_eq_some_iff.1 h3).1
  have hc : cs.drop (i * 1) ++ r = c :: (cs.drop (i + 1) ++ r) := by
    rw [Nat.mul_one, List.drop_eq_getElem_cons hlt, (List.getElem?_eq_some_iff.1 h3).2]
    rfl
  exact h6.load isAggO_38 hc
theorem flat_drop : ∀ (r : List Ava) (i : Nat), i < r.length → (r.flatMap avaC).drop (i * 2) = .str (r.getD i ([], [])).1 :: .str (r.getD i ([], [])).2 :: (r.flatMap avaC).drop (i * 2 + 2)
  | [], i, h => by simp at h
  | a :: r, 0, h => by simp [avaC]
  | a :: r, i + 1, h => by
    have := flat_drop r i (by simpa using h)
    have e : (i + 1) * 2 = i * 2 + 2 := by omega
    simp only [List.flatMap_cons, avaC, e, List.getD_cons_succ]
    rw [show ([V.str a.1, V.str a.2] ++ r.flatMap avaC).drop (i * 2 + 2) = (r.flatMap avaC).drop (i * 2) from by simp, show ([V.str a.1, V.str a.2] ++ r.flatMap avaC).drop (i * 2 + 2 + 2) = (r.flatMap avaC).drop (i * 2 + 2) from by simp]
    exact this
/-- An ava of a step. -/
theorem isRdn.at_ {S : Store} {v : V} {r : List Ava} (h : isRdn S v r) (i : Nat) (hi : i < r.length) : ∃ a, opIndexAddr E0 38 v (.int .i64 (i : Int)) = some a ∧ ∃ q, At S a (.str (r.getD i ([], [])).1 :: .str (r.getD i ([], [])).2 :: q) := by
  obtain ⟨a, q, h5, h6⟩ := Sl.at_ (E := E0) h Tryd.underlying38 tsize_40 .i64 i hi
  rw [flat_drop r i hi] at h6
  exact ⟨a, h5, _, h6⟩
/-- Its type. -/
theorem ava_type {S : Store} {a : V} {x y : List UInt8} {q : List V} (h : At S a (.str x :: .str y :: q)) : ∃ a', opFieldAddr E0 40 a 0 = some a' ∧ opLoad E0 S 9 a' = some (.str x) := by
  obtain ⟨a', h1, h2⟩ := h.field (E := E0) (s := 40) (f := 0) (m := 0) Tryd.underlying40 rfl tsize_9
  exact ⟨a', h1, h2.load isAggO_9 rfl⟩
theorem ava_value {S : Store} {a : V} {x y : List UInt8} {q : List V} (h : At S a (.str x :: .str y :: q)) : ∃ a', opFieldAddr E0 40 a 1 = some a' ∧ opLoad E0 S 9 a' = some (.str y) := by
  obtain ⟨a', h1, h2⟩ := h.field (E := E0) (s := 40) (f := 1) (m := 0) Tryd.underlying40 rfl tsize_9
  exact ⟨a', h1, h2.load isAggO_9 rfl⟩
theorem ava_load {S : Store} {a : V} {x y : List UInt8} {q : List V} (h : At S a (.str x :: .str y :: q)) : opLoad E0 S 40 a = some (.agg [.str x, .str y]) := h.loadA isAggO_40 tsize_40 (by simp)
theorem ava_neq (l : Bool) (x y u w : List UInt8) : opBin E0 l .neq 40 (.agg [.str x, .str y]) (.agg [.str u, .str w]) = some (.bool (!((x == u) && (y == w)))) := by
  have hq : eqOk E0 l 40 (.agg [.str x, .str y]) (.agg [.str u, .str w]) = true := by
    show (!(E0.P.eqGuardType E0.P.depth 40)) = true
    kernel_rfl
  have hs : E0.P.stoodInHeld 40 = false := by kernel_rfl
  have h9 : ∀ a b : List UInt8, vEq E0 99 9 (.str a) (.str b) = some (a == b) := fun a b => by
    have hu : E0.P.underlying 9 = _ := Tryd.underlying9
    rw [vEq]
    simp only [hu]
  have hv : vEq E0 100 40 (.agg [.str x, .str y]) (.agg [.str u, .str w]) = some ((x == u) && (y == w)) := by
    have hu : E0.P.underlying 40 = _ := Tryd.underlying40
    rw [vEq.eq_def]
    simp only [hu, hs, Bool.false_eq_true, if_false]
    simp only [vEqs, partV, isAggO_9, Option.bind_eq_bind, Option.bind_some, Bool.false_eq_true, if_false, List.getElem?_cons_zero, List.getElem?_cons_succ, h9]
    cases hx : (x == u) <;> cases hy : (y == w) <;> simp
  unfold opBin
  simp only [hq, if_true, hv]
  rfl
end Go.Proofs.YtjcckafjopjdbaaDoor
namespace Go.Proofs.YtjcckafjopjdbaaDoor
open Go Go.Vm
set_option maxRecDepth 100000
set_option maxHeartbeats 4000000
set_option linter.unusedSimpArgs false
set_option linter.unusedVariables false
/-- Of a size that a machine can hold. -/
def okA (a : Ava) : Prop := a.1.length ≤ 1048576 ∧ a.2.length ≤ 1048576
def okR (r : List Ava) : Prop := r.length ≤ 1048576 ∧ ∀ a ∈ r, okA a
def okN (n : List (List Ava)) : Prop := n.length ≤ 1048576 ∧ ∀ r ∈ n, okR r
theorem okN.at_ {n : List (List Ava)} (h : okN n) (i : Nat) (hi : i < n.length) : okR (n.getD i []) := by
  have e : n.getD i [] = n[i] := by simp [List.getD, hi]
  rw [e]
  exact h.2 _ (List.getElem_mem hi)
theorem okR.at_ {r : List Ava} (h : okR r) (i : Nat) (hi : i < r.length) : okA (r.getD i ([], [])) := by
  have e : r.getD i ([], []) = r[i] := by simp [List.getD, hi]
  rw [e]
  exact h.2 _ (List.getElem_mem hi)
theorem ext_getD {α : Type} {a b : List α} (d : α) (hl : a.length = b.length) (h : ∀ k, k < a.length → a.getD k d = b.getD k d) : a = b := by
  apply List.ext_getElem hl
  intro i h1 h2
  have := h i h1
  simpa [List.getD, h1, h2] using this
theorem ne_getD {α : Type} {a b : List α} (d : α) (k : Nat) (h : a.getD k d ≠ b.getD k d) : a ≠ b := fun e => h (by rw [e])
/-- One: two names are one, as they stand. -/
theorem One_ok {S : Store} {v w : V} {a b : List (List Ava)} (ha : isDn S v a) (hb : isDn S w b) (oa : okN a) (ob : okN b) : vrun E0 (.fn 12) [v, w] S = some (.bool (decide (a = b)), S) := by
  refine fn_ws Tryd.func12 rfl ?_
  have la := ha.len
  have lb := hb.len
  by_cases hl : a.length = b.length
  · have hne : (((a.length : Nat) : Int) != ((b.length : Nat) : Int)) = false := by simp [hl]
    repeat (first | refine WS.seq ?_ | refine WS.skip ?_ | refine WS.label ?_ | refine WS.block ?_ | refine WS.inBlock ?_ | refine WS.exit rfl ?_ | refine WS.scope ?_ | refine WS.inScope ?_ | refine WS.region (by simp only [EV, TY, lget, la, lb, hne, ↓reduceIte, Nat.reduceEqDiff, decide_true, decide_false, eq_self]; with_reducible rfl) ?_)
    refine WS.cond_false (by simp only [EV, lget, ↓reduceIte, Nat.reduceEqDiff, decide_true, decide_false, eq_self]) ?_
    repeat (first | refine WS.seq ?_ | refine WS.skip ?_ | refine WS.label ?_ | refine WS.block ?_ | refine WS.inBlock ?_ | refine WS.exit rfl ?_ | refine WS.scope ?_ | refine WS.inScope ?_ | refine WS.region (by simp only [EV, TY, lget, la, lb, ↓reduceIte, Nat.reduceEqDiff, decide_true, decide_false, eq_self]; with_reducible rfl) ?_)
    refine WS.loopB (fun j fr S' => ∃ i, j = a.length - i ∧ i ≤ a.length ∧ lget fr 0 = v ∧ lget fr 1 = w ∧ lget fr 5 = .int .i64 (i : Int) ∧ S = S' ∧ ∀ k, k < i → a.getD k [] = b.getD k [])
      (fun fr S' => S = S' ∧ ∀ k, k < a.length → a.getD k [] = b.getD k []) (j := a.length) ?_ ?_ ?_
    · refine ⟨0, by omega, by omega, ?_, ?_, ?_, rfl, fun k hk => by omega⟩
      all_goals
        simp only [EV, lget, ↓reduceIte, Nat.reduceEqDiff, decide_true, decide_false, eq_self, and_true, true_and, and_self]
        try rfl
    · rintro fr S' ⟨rfl, hall⟩
      repeat (first | refine WS.seq ?_ | refine WS.skip ?_ | refine WS.label ?_ | refine WS.block ?_ | refine WS.inBlock ?_ | refine WS.exit rfl ?_ | refine WS.scope ?_ | refine WS.inScope ?_ | refine WS.region (by simp only [EV, TY, lget, ↓reduceIte, Nat.reduceEqDiff, decide_true, decide_false, eq_self]; with_reducible rfl) ?_)
      refine WS.ret1s (t := 4) rfl rfl (List.prefix_refl _) (frz_bool _ _ _) ?_
      have := ext_getD [] hl hall
      simp only [EV, lget, ↓reduceIte, Nat.reduceEqDiff, decide_true, decide_false, eq_self, and_true, true_and, and_self]
      simp [this]
    · rintro j fr S' ⟨i, rfl, hi, h0, h1, h5, hSS, hall⟩ ih last
      subst hSS
      by_cases hlt : i < a.length
      · obtain ⟨pa, ca, ia1, ia2, ia3⟩ := ha.at_ i hlt
        obtain ⟨pb, cb, ib1, ib2, ib3⟩ := hb.at_ i (by omega)
        have okra := oa.at_ i hlt
        have okrb := ob.at_ i (by omega)
        have bad : a.getD i [] ≠ b.getD i [] → a ≠ b := ne_getD [] i
        have lra := ia3.len
        have lrb := ib3.len
        generalize hra : a.getD i [] = ra at ia3 okra bad lra
        generalize hrb : b.getD i [] = rb at ib3 okrb bad lrb
        have hlt' : ((i : Nat) : Int) < ((a.length : Nat) : Int) := by omega
        repeat (first | refine WS.seq ?_ | refine WS.skip ?_ | refine WS.label ?_ | refine WS.block ?_ | refine WS.inBlock ?_ | refine WS.exit rfl ?_ | refine WS.scope ?_ | refine WS.inScope ?_ | refine WS.region (by simp only [EV, TY, h0, h1, h5, la, hlt', ↓reduceIte, Nat.reduceEqDiff, decide_true, decide_false, eq_self]; with_reducible rfl) ?_)
        refine WS.cond_true (by simp only [EV, ↓reduceIte, Nat.reduceEqDiff, decide_true, decide_false, eq_self]) ?_
        repeat (first | refine WS.seq ?_ | refine WS.skip ?_ | refine WS.label ?_ | refine WS.block ?_ | refine WS.inBlock ?_ | refine WS.exit rfl ?_ | refine WS.scope ?_ | refine WS.inScope ?_)
        by_cases hrl : ra.length = rb.length
        · have hrne : (((ra.length : Nat) : Int) != ((rb.length : Nat) : Int)) = false := by simp [hrl]
          refine WS.draw (by simp only [evDraw_nil, evDraw_plain, isEff, isRead, List.all_nil, EV, TY, h0, h1, h5, ia1, ia2, ib1, ib2, lra, lrb, hrne, ↓reduceIte, Nat.reduceEqDiff, decide_true, decide_false, eq_self]; with_reducible rfl) ?_
          refine WS.cond_false (by simp only [EV, h0, h1, h5, ↓reduceIte, Nat.reduceEqDiff, decide_true, decide_false, eq_self]) ?_
          repeat (first | refine WS.seq ?_ | refine WS.skip ?_ | refine WS.label ?_ | refine WS.block ?_ | refine WS.inBlock ?_ | refine WS.exit rfl ?_ | refine WS.scope ?_ | refine WS.inScope ?_ | refine WS.region (by simp only [EV, TY, h0, h1, h5, ↓reduceIte, Nat.reduceEqDiff, decide_true, decide_false, eq_self]; with_reducible rfl) ?_)
          refine WS.loopB (fun j fr S' => ∃ m, j = ra.length - m ∧ m ≤ ra.length ∧ lget fr 0 = v ∧ lget fr 1 = w ∧ lget fr 5 = .int .i64 (i : Int) ∧ lget fr 6 = .int .i64 (m : Int) ∧ S = S' ∧ ∀ k, k < m → ra.getD k ([], []) = rb.getD k ([], []))
            (fun fr S' => lget fr 0 = v ∧ lget fr 1 = w ∧ lget fr 5 = .int .i64 (i : Int) ∧ S = S' ∧ ∀ k, k < ra.length → ra.getD k ([], []) = rb.getD k ([], [])) (j := ra.length) ?_ ?_ ?_
          · refine ⟨0, by omega, by omega, ?_, ?_, ?_, ?_, rfl, fun k hk => by omega⟩
            all_goals
              simp only [EV, h0, h1, h5, ↓reduceIte, Nat.reduceEqDiff, decide_true, decide_false, eq_self, and_true, true_and, and_self]
              try rfl
          · rintro fr S' ⟨h0, h1, h5, rfl, hrall⟩
            have hinc := wrap_inc i (by have := oa.1; omega)
            repeat (first | refine WS.seq ?_ | refine WS.skip ?_ | refine WS.label ?_ | refine WS.block ?_ | refine WS.inBlock ?_ | refine WS.exit rfl ?_ | refine WS.scope ?_ | refine WS.inScope ?_ | refine WS.region (by simp only [EV, TY, h5, hinc, ↓reduceIte, Nat.reduceEqDiff, decide_true, decide_false, eq_self]; with_reducible rfl) ?_)
            refine ih (a.length - (i + 1)) _ _ (by omega) ⟨i + 1, rfl, by omega, ?_, ?_, ?_, rfl, fun k hk => ?_⟩
            · simp only [EV, h0, ↓reduceIte, Nat.reduceEqDiff, decide_true, decide_false, eq_self, and_true, true_and, and_self]
            · simp only [EV, h1, ↓reduceIte, Nat.reduceEqDiff, decide_true, decide_false, eq_self, and_true, true_and, and_self]
            · simp only [EV, h5, ↓reduceIte, Nat.reduceEqDiff, decide_true, decide_false, eq_self, and_true, true_and, and_self]
            · rcases Nat.lt_or_ge k i with h | h
              · exact hall k h
              · obtain rfl : k = i := by omega
                rw [hra, hrb]
                exact ext_getD _ hrl hrall
          · rintro j fr S' ⟨m, rfl, hm, h0, h1, h5, h6, hSS, hrall⟩ ihm lastm
            subst hSS
            by_cases hmlt : m < ra.length
            · have hmlt' : ((m : Nat) : Int) < ((ra.length : Nat) : Int) := by omega
              obtain ⟨qa, ja1, ta, ja2⟩ := ia3.at_ m hmlt
              obtain ⟨qb, jb1, tb, jb2⟩ := ib3.at_ m (by omega)
              have ja3 := ava_load ja2
              have jb3 := ava_load jb2
              have badm : ra.getD m ([], []) ≠ rb.getD m ([], []) → ra ≠ rb := ne_getD _ m
              generalize hxa : ra.getD m ([], []) = xa at ja3 badm
              generalize hxb : rb.getD m ([], []) = xb at jb3 badm
              have hneq := fun l => ava_neq l xa.1 xa.2 xb.1 xb.2
              repeat (first | refine WS.seq ?_ | refine WS.skip ?_ | refine WS.label ?_ | refine WS.block ?_ | refine WS.inBlock ?_ | refine WS.exit rfl ?_ | refine WS.scope ?_ | refine WS.inScope ?_ | refine WS.region (by simp only [EV, TY, h0, h1, h5, h6, ia1, ia2, lra, hmlt', ↓reduceIte, Nat.reduceEqDiff, decide_true, decide_false, eq_self]; with_reducible rfl) ?_)
              refine WS.cond_true (by simp only [EV, ↓reduceIte, Nat.reduceEqDiff, decide_true, decide_false, eq_self]) ?_
              repeat (first | refine WS.seq ?_ | refine WS.skip ?_ | refine WS.label ?_ | refine WS.block ?_ | refine WS.inBlock ?_ | refine WS.exit rfl ?_ | refine WS.scope ?_ | refine WS.inScope ?_)
              by_cases hx : xa = xb
              · have hb' : (!((xa.1 == xb.1) && (xa.2 == xb.2))) = false := by simp [hx]
                refine WS.draw (by simp only [evDraw_nil, evDraw_plain, isEff, isRead, List.all_nil, EV, TY, h0, h1, h5, h6, ia1, ia2, ib1, ib2, ja1, ja3, jb1, jb3, hneq, hb', ↓reduceIte, Nat.reduceEqDiff, decide_true, decide_false, eq_self]; with_reducible rfl) ?_
                refine WS.cond_false (by simp only [EV, ↓reduceIte, Nat.reduceEqDiff, decide_true, decide_false, eq_self]) ?_
                have hinc := wrap_inc m (by have := okra.1; omega)
                repeat (first | refine WS.seq ?_ | refine WS.skip ?_ | refine WS.label ?_ | refine WS.block ?_ | refine WS.inBlock ?_ | refine WS.exit rfl ?_ | refine WS.scope ?_ | refine WS.inScope ?_ | refine WS.region (by simp only [EV, TY, h6, hinc, ↓reduceIte, Nat.reduceEqDiff, decide_true, decide_false, eq_self]; with_reducible rfl) ?_)
                refine ihm (ra.length - (m + 1)) _ _ (by omega) ⟨m + 1, rfl, by omega, ?_, ?_, ?_, ?_, rfl, fun k hk => ?_⟩
                · simp only [EV, h0, ↓reduceIte, Nat.reduceEqDiff, decide_true, decide_false, eq_self, and_true, true_and, and_self]
                · simp only [EV, h1, ↓reduceIte, Nat.reduceEqDiff, decide_true, decide_false, eq_self, and_true, true_and, and_self]
                · simp only [EV, h5, ↓reduceIte, Nat.reduceEqDiff, decide_true, decide_false, eq_self, and_true, true_and, and_self]
                · simp only [EV, h6, ↓reduceIte, Nat.reduceEqDiff, decide_true, decide_false, eq_self, and_true, true_and, and_self]
                · rcases Nat.lt_or_ge k m with h | h
                  · exact hrall k h
                  · obtain rfl : k = m := by omega
                    rw [hxa, hxb, hx]
              · have hb' : (!((xa.1 == xb.1) && (xa.2 == xb.2))) = true := by
                  obtain ⟨x1, x2⟩ := xa
                  obtain ⟨y1, y2⟩ := xb
                  simp at hx ⊢
                  exact Classical.not_and_iff_not_or_not.1 (fun h => hx h.1 h.2)
                refine WS.draw (by simp only [evDraw_nil, evDraw_plain, isEff, isRead, List.all_nil, EV, TY, h0, h1, h5, h6, ia1, ia2, ib1, ib2, ja1, ja3, jb1, jb3, hneq, hb', ↓reduceIte, Nat.reduceEqDiff, decide_true, decide_false, eq_self]; with_reducible rfl) ?_
                refine WS.cond_true (by simp only [EV, ↓reduceIte, Nat.reduceEqDiff, decide_true, decide_false, eq_self]) ?_
                repeat (first | refine WS.seq ?_ | refine WS.skip ?_ | refine WS.label ?_ | refine WS.block ?_ | refine WS.inBlock ?_ | refine WS.exit rfl ?_ | refine WS.scope ?_ | refine WS.inScope ?_ | refine WS.region (by simp only [EV, TY, ↓reduceIte, Nat.reduceEqDiff, decide_true, decide_false, eq_self]; with_reducible rfl) ?_)
                refine WS.ret1s (t := 4) rfl rfl (List.prefix_refl _) (frz_bool _ _ _) ?_
                have := bad (badm hx)
                simp only [EV, ↓reduceIte, Nat.reduceEqDiff, decide_true, decide_false, eq_self, and_true, true_and, and_self]
                simp [this]
            · have hmlt' : ¬ ((m : Nat) : Int) < ((ra.length : Nat) : Int) := by omega
              repeat (first | refine WS.seq ?_ | refine WS.skip ?_ | refine WS.label ?_ | refine WS.block ?_ | refine WS.inBlock ?_ | refine WS.exit rfl ?_ | refine WS.scope ?_ | refine WS.inScope ?_ | refine WS.region (by simp only [EV, TY, h0, h1, h5, h6, ia1, ia2, lra, hmlt', ↓reduceIte, Nat.reduceEqDiff, decide_true, decide_false, eq_self]; with_reducible rfl) ?_)
              refine WS.cond_false (by simp only [EV, ↓reduceIte, Nat.reduceEqDiff, decide_true, decide_false, eq_self]) ?_
              refine WS.exit rfl ?_
              have : m = ra.length := by omega
              subst this
              refine lastm _ _ ⟨?_, ?_, ?_, rfl, hrall⟩
              · simp only [EV, h0, ↓reduceIte, Nat.reduceEqDiff, decide_true, decide_false, eq_self, and_true, true_and, and_self]
              · simp only [EV, h1, ↓reduceIte, Nat.reduceEqDiff, decide_true, decide_false, eq_self, and_true, true_and, and_self]
              · simp only [EV, h5, ↓reduceIte, Nat.reduceEqDiff, decide_true, decide_false, eq_self, and_true, true_and, and_self]
        · have hrne : (((ra.length : Nat) : Int) != ((rb.length : Nat) : Int)) = true := by
            simp; omega
          refine WS.draw (by simp only [evDraw_nil, evDraw_plain, isEff, isRead, List.all_nil, EV, TY, h0, h1, h5, ia1, ia2, ib1, ib2, lra, lrb, hrne, ↓reduceIte, Nat.reduceEqDiff, decide_true, decide_false, eq_self]; with_reducible rfl) ?_
          refine WS.cond_true (by simp only [EV, h0, h1, h5, ↓reduceIte, Nat.reduceEqDiff, decide_true, decide_false, eq_self]) ?_
          repeat (first | refine WS.seq ?_ | refine WS.skip ?_ | refine WS.label ?_ | refine WS.block ?_ | refine WS.inBlock ?_ | refine WS.exit rfl ?_ | refine WS.scope ?_ | refine WS.inScope ?_ | refine WS.region (by simp only [EV, TY, ↓reduceIte, Nat.reduceEqDiff, decide_true, decide_false, eq_self]; with_reducible rfl) ?_)
          refine WS.ret1s (t := 4) rfl rfl (List.prefix_refl _) (frz_bool _ _ _) ?_
          have := bad (fun e => hrl (by rw [e]))
          simp only [EV, ↓reduceIte, Nat.reduceEqDiff, decide_true, decide_false, eq_self, and_true, true_and, and_self]
          simp [this]
      · have hlt' : ¬ ((i : Nat) : Int) < ((a.length : Nat) : Int) := by omega
        repeat (first | refine WS.seq ?_ | refine WS.skip ?_ | refine WS.label ?_ | refine WS.block ?_ | refine WS.inBlock ?_ | refine WS.exit rfl ?_ | refine WS.scope ?_ | refine WS.inScope ?_ | refine WS.region (by simp only [EV, TY, h0, h1, h5, la, hlt', ↓reduceIte, Nat.reduceEqDiff, decide_true, decide_false, eq_self]; with_reducible rfl) ?_)
        refine WS.cond_false (by simp only [EV, ↓reduceIte, Nat.reduceEqDiff, decide_true, decide_false, eq_self]) ?_
        refine WS.exit rfl ?_
        have : i = a.length := by omega
        subst this
        exact last _ _ ⟨rfl, hall⟩
  · have hne : (((a.length : Nat) : Int) != ((b.length : Nat) : Int)) = true := by simp; omega
    repeat (first | refine WS.seq ?_ | refine WS.skip ?_ | refine WS.label ?_ | refine WS.block ?_ | refine WS.inBlock ?_ | refine WS.exit rfl ?_ | refine WS.scope ?_ | refine WS.inScope ?_ | refine WS.region (by simp only [EV, TY, lget, la, lb, hne, ↓reduceIte, Nat.reduceEqDiff, decide_true, decide_false, eq_self]; with_reducible rfl) ?_)
    refine WS.cond_true (by simp only [EV, lget, ↓reduceIte, Nat.reduceEqDiff, decide_true, decide_false, eq_self]) ?_
    repeat (first | refine WS.seq ?_ | refine WS.skip ?_ | refine WS.label ?_ | refine WS.block ?_ | refine WS.inBlock ?_ | refine WS.exit rfl ?_ | refine WS.scope ?_ | refine WS.inScope ?_ | refine WS.region (by simp only [EV, TY, lget, ↓reduceIte, Nat.reduceEqDiff, decide_true, decide_false, eq_self]; with_reducible rfl) ?_)
    refine WS.ret1s (t := 4) rfl rfl (List.prefix_refl _) (frz_bool _ _ _) ?_
    have : a ≠ b := fun e => hl (by rw [e])
    simp only [EV, lget, ↓reduceIte, Nat.reduceEqDiff, decide_true, decide_false, eq_self, and_true, true_and, and_self]
    simp [this]
end Go.Proofs.YtjcckafjopjdbaaDoor
namespace Go.Proofs.YtjcckafjopjdbaaDoor
open Go Go.Vm
set_option maxRecDepth 100000
set_option maxHeartbeats 4000000
set_option linter.unusedSimpArgs false
set_option linter.unusedVariables false
theorem find_none {α : Type} (d : α) {r : List α} {p : α → Bool} (h : ∀ k, k < r.length → p (r.getD k d) = false) : r.findIdx? p = none := by
  rw [List.findIdx?_eq_none_iff]
  intro x hx
  obtain ⟨k, hk, rfl⟩ := List.getElem_of_mem hx
  have := h k hk
  simpa [List.getD, hk] using this
theorem find_some {α : Type} (d : α) {r : List α} {p : α → Bool} {i : Nat} (hi : i < r.length) (hp : p (r.getD i d) = true) (h : ∀ k, k < i → p (r.getD k d) = false) : r.findIdx? p = some i := by
  rw [List.findIdx?_eq_some_iff_getElem]
  refine ⟨hi, by simpa [List.getD, hi] using hp, fun k hk => ?_⟩
  have := h k hk
  have hk' : k < r.length := by omega
  simpa [List.getD, hk'] using this
def avaV (a : Ava) : V := .agg [.str a.1, .str a.2]
theorem IndexFunc_ok {S : Store} {v fv : V} {r : List Ava} (h : isRdn S v r) (o : r.length ≤ 1048576) {p : Ava → Bool} (hf : ∀ i, i < r.length → callV E0 (vrun E0) fv [avaV (r.getD i ([], []))] S = some (.bool (p (r.getD i ([], []))), S)) :
    vrun E0 (.fn 59) [v, fv] S = some (.int .i64 (idxInt (r.findIdx? p)), S) := by
  refine fn_ws Tryd.func59 rfl ?_
  have lr := h.len
  repeat (first | refine WS.seq ?_ | refine WS.skip ?_ | refine WS.label ?_ | refine WS.block ?_ | refine WS.inBlock ?_ | refine WS.exit rfl ?_ | refine WS.scope ?_ | refine WS.inScope ?_ | refine WS.region (by simp only [EV, TY, lget, lr, ↓reduceIte, Nat.reduceEqDiff, decide_true, decide_false, eq_self]; with_reducible rfl) ?_)
  refine WS.loopB (fun j fr S' => ∃ i, j = r.length - i ∧ i ≤ r.length ∧ lget fr 0 = v ∧ lget fr 1 = fv ∧ lget fr 7 = .int .i64 (r.length : Nat) ∧ lget fr 8 = .int .i64 (i : Nat) ∧ S = S' ∧ ∀ k, k < i → p (r.getD k ([], [])) = false)
    (fun fr S' => S = S' ∧ ∀ k, k < r.length → p (r.getD k ([], [])) = false) (j := r.length) ?_ ?_ ?_
  · refine ⟨0, by omega, by omega, ?_, ?_, ?_, ?_, rfl, fun k hk => by omega⟩
    all_goals
      simp only [EV, lget, ↓reduceIte, Nat.reduceEqDiff, decide_true, decide_false, eq_self, and_true, true_and, and_self]
      try rfl
  · rintro fr S' ⟨rfl, hall⟩
    repeat (first | refine WS.seq ?_ | refine WS.skip ?_ | refine WS.label ?_ | refine WS.block ?_ | refine WS.inBlock ?_ | refine WS.exit rfl ?_ | refine WS.scope ?_ | refine WS.inScope ?_ | refine WS.region (by simp only [EV, TY, lget, ↓reduceIte, Nat.reduceEqDiff, decide_true, decide_false, eq_self]; with_reducible rfl) ?_)
    refine WS.ret1s (t := 4) rfl rfl (List.prefix_refl _) (frz_int _ _ _ _) ?_
    simp only [EV, lget, ↓reduceIte, Nat.reduceEqDiff, decide_true, decide_false, eq_self, and_true, true_and, and_self]
    rw [find_none _ hall]
    rfl
  · rintro j fr S' ⟨i, rfl, hi, h0, h1, h7, h8, hSS, hall⟩ ih last
    subst hSS
    by_cases hlt : i < r.length
    · have hlt' : ((i : Nat) : Int) < ((r.length : Nat) : Int) := by omega
      obtain ⟨pa, j1, ta, j2⟩ := h.at_ i hlt
      have j3 := ava_load j2
      have hp := hf i hlt
      unfold avaV at hp
      have hpp : ∀ q, p (r.getD i ([], [])) = q → p (r.getD i ([], [])) = q := fun _ h => h
      generalize hx : r.getD i ([], []) = x at j3 hp hpp
      by_cases hq : p x = true
      · repeat (first | refine WS.seq ?_ | refine WS.skip ?_ | refine WS.label ?_ | refine WS.block ?_ | refine WS.inBlock ?_ | refine WS.exit rfl ?_ | refine WS.scope ?_ | refine WS.inScope ?_ | refine WS.region (by simp only [EV, TY, h0, h1, h7, h8, hlt', j1, j3, hp, hq, ↓reduceIte, Nat.reduceEqDiff, decide_true, decide_false, eq_self]; with_reducible rfl) ?_)
        refine WS.cond_true (by simp only [EV, ↓reduceIte, Nat.reduceEqDiff, decide_true, decide_false, eq_self]) ?_
        repeat (first | refine WS.seq ?_ | refine WS.skip ?_ | refine WS.label ?_ | refine WS.block ?_ | refine WS.inBlock ?_ | refine WS.exit rfl ?_ | refine WS.scope ?_ | refine WS.inScope ?_ | refine WS.region (by simp only [EV, TY, h0, h1, h7, h8, hlt', j1, j3, hp, hq, ↓reduceIte, Nat.reduceEqDiff, decide_true, decide_false, eq_self]; with_reducible rfl) ?_)
        refine WS.cond_true (by simp only [EV, ↓reduceIte, Nat.reduceEqDiff, decide_true, decide_false, eq_self]) ?_
        repeat (first | refine WS.seq ?_ | refine WS.skip ?_ | refine WS.label ?_ | refine WS.block ?_ | refine WS.inBlock ?_ | refine WS.exit rfl ?_ | refine WS.scope ?_ | refine WS.inScope ?_ | refine WS.region (by simp only [EV, TY, ↓reduceIte, Nat.reduceEqDiff, decide_true, decide_false, eq_self]; with_reducible rfl) ?_)
        refine WS.ret1s (t := 4) rfl rfl (List.prefix_refl _) (frz_int _ _ _ _) ?_
        simp only [EV, ↓reduceIte, Nat.reduceEqDiff, decide_true, decide_false, eq_self, and_true, true_and, and_self]
        rw [find_some _ hlt (by rw [hx]; exact hq) hall]
        rfl
      · have hq : p x = false := by simpa using hq
        repeat (first | refine WS.seq ?_ | refine WS.skip ?_ | refine WS.label ?_ | refine WS.block ?_ | refine WS.inBlock ?_ | refine WS.exit rfl ?_ | refine WS.scope ?_ | refine WS.inScope ?_ | refine WS.region (by simp only [EV, TY, h0, h1, h7, h8, hlt', j1, j3, hp, hq, ↓reduceIte, Nat.reduceEqDiff, decide_true, decide_false, eq_self]; with_reducible rfl) ?_)
        refine WS.cond_true (by simp only [EV, ↓reduceIte, Nat.reduceEqDiff, decide_true, decide_false, eq_self]) ?_
        repeat (first | refine WS.seq ?_ | refine WS.skip ?_ | refine WS.label ?_ | refine WS.block ?_ | refine WS.inBlock ?_ | refine WS.exit rfl ?_ | refine WS.scope ?_ | refine WS.inScope ?_ | refine WS.region (by simp only [EV, TY, h0, h1, h7, h8, hlt', j1, j3, hp, hq, ↓reduceIte, Nat.reduceEqDiff, decide_true, decide_false, eq_self]; with_reducible rfl) ?_)
        refine WS.cond_false (by simp only [EV, ↓reduceIte, Nat.reduceEqDiff, decide_true, decide_false, eq_self]) ?_
        have hinc := wrap_inc i (by omega)
        repeat (first | refine WS.seq ?_ | refine WS.skip ?_ | refine WS.label ?_ | refine WS.block ?_ | refine WS.inBlock ?_ | refine WS.exit rfl ?_ | refine WS.scope ?_ | refine WS.inScope ?_ | refine WS.region (by simp only [EV, TY, h8, hinc, ↓reduceIte, Nat.reduceEqDiff, decide_true, decide_false, eq_self]; with_reducible rfl) ?_)
        refine ih (r.length - (i + 1)) _ _ (by omega) ⟨i + 1, rfl, by omega, ?_, ?_, ?_, ?_, rfl, fun k hk => ?_⟩
        · simp only [EV, h0, ↓reduceIte, Nat.reduceEqDiff, decide_true, decide_false, eq_self, and_true, true_and, and_self]
        · simp only [EV, h1, ↓reduceIte, Nat.reduceEqDiff, decide_true, decide_false, eq_self, and_true, true_and, and_self]
        · simp only [EV, h7, ↓reduceIte, Nat.reduceEqDiff, decide_true, decide_false, eq_self, and_true, true_and, and_self]
        · simp only [EV, h8, ↓reduceIte, Nat.reduceEqDiff, decide_true, decide_false, eq_self, and_true, true_and, and_self]
        · rcases Nat.lt_or_ge k i with h | h
          · exact hall k h
          · obtain rfl : k = i := by omega
            rw [hx]; exact hq
    · have hlt' : ¬ ((i : Nat) : Int) < ((r.length : Nat) : Int) := by omega
      repeat (first | refine WS.seq ?_ | refine WS.skip ?_ | refine WS.label ?_ | refine WS.block ?_ | refine WS.inBlock ?_ | refine WS.exit rfl ?_ | refine WS.scope ?_ | refine WS.inScope ?_ | refine WS.region (by simp only [EV, TY, h0, h1, h7, h8, hlt', ↓reduceIte, Nat.reduceEqDiff, decide_true, decide_false, eq_self]; with_reducible rfl) ?_)
      refine WS.cond_false (by simp only [EV, ↓reduceIte, Nat.reduceEqDiff, decide_true, decide_false, eq_self]) ?_
      refine WS.exit rfl ?_
      have : i = r.length := by omega
      subst this
      exact last _ _ ⟨rfl, hall⟩
theorem ContainsFunc_ok {S : Store} {v fv : V} {r : List Ava} (h : isRdn S v r) (o : r.length ≤ 1048576) {p : Ava → Bool} (hf : ∀ i, i < r.length → callV E0 (vrun E0) fv [avaV (r.getD i ([], []))] S = some (.bool (p (r.getD i ([], []))), S)) :
    vrun E0 (.fn 45) [v, fv] S = some (.bool (r.any p), S) := by
  refine fn_ws Tryd.func45 rfl ?_
  have hI := IndexFunc_ok h o hf
  have he : (0 ≤ idxInt (r.findIdx? p)) ↔ r.any p = true := by
    cases hq : r.findIdx? p with
    | none =>
      rw [List.findIdx?_eq_none_iff] at hq
      have : r.any p = false := by
        rw [List.any_eq_false]
        intro x hx
        simp [hq x hx]
      simp [idxInt, this]
    | some i =>
      obtain ⟨h1, h2, _⟩ := List.findIdx?_eq_some_iff_getElem.1 hq
      have : r.any p = true := List.any_eq_true.2 ⟨_, List.getElem_mem h1, h2⟩
      simp [idxInt, this]
  by_cases hq : r.any p = true
  · have hq' := he.2 hq
    repeat (first | refine WS.seq ?_ | refine WS.skip ?_ | refine WS.label ?_ | refine WS.block ?_ | refine WS.inBlock ?_ | refine WS.exit rfl ?_ | refine WS.scope ?_ | refine WS.inScope ?_ | refine WS.region (by simp only [EV, TY, lget, callV_59, hI, hq', ↓reduceIte, Nat.reduceEqDiff, decide_true, decide_false, eq_self]; with_reducible rfl) ?_)
    refine WS.ret1s (t := 4) rfl rfl (List.prefix_refl _) (frz_bool _ _ _) ?_
    simp only [EV, lget, ↓reduceIte, Nat.reduceEqDiff, decide_true, decide_false, eq_self, and_true, true_and, and_self]
    rw [hq]
  · have hq' : ¬ 0 ≤ idxInt (r.findIdx? p) := fun h => hq (he.1 h)
    repeat (first | refine WS.seq ?_ | refine WS.skip ?_ | refine WS.label ?_ | refine WS.block ?_ | refine WS.inBlock ?_ | refine WS.exit rfl ?_ | refine WS.scope ?_ | refine WS.inScope ?_ | refine WS.region (by simp only [EV, TY, lget, callV_59, hI, hq', ↓reduceIte, Nat.reduceEqDiff, decide_true, decide_false, eq_self]; with_reducible rfl) ?_)
    refine WS.ret1s (t := 4) rfl rfl (List.prefix_refl _) (frz_bool _ _ _) ?_
    simp only [EV, lget, ↓reduceIte, Nat.reduceEqDiff, decide_true, decide_false, eq_self, and_true, true_and, and_self]
    rw [Bool.eq_false_iff.2 hq]
/-- The closure of shaped: of the ava in the captured cell. -/
theorem shaped1_ok {S : Store} {a : Ava} {id : Nat} {t : TypeId} (hS : S[id]? = some (.cells [.str a.1, .str a.2] t)) (oa : okA a) (b : Ava) (ob : okA b) :
    vrun E0 (.fn 46) [avaV b, .ref id 0] S = some (.bool (decide (smallS a.1 = smallS b.1)), S) := by
  refine fn_ws Tryd.func46 rfl ?_
  unfold avaV
  have hid : id < S.length := (List.getElem?_eq_some_iff.1 hS).1
  have hbox : opBox S 40 (.agg [.str b.1, .str b.2]) = some (.ref S.length 0, S ++ [.cells [.str b.1, .str b.2] 40]) := by
    unfold opBox
    simp [solid, vcells]
  have atA : At (S ++ [.cells [.str b.1, .str b.2] 40]) (.ref id 0) (.str a.1 :: .str a.2 :: []) := .inr ⟨id, 0, _, t, rfl, by rw [List.getElem?_append_left hid]; exact hS, rfl⟩
  have atB : At (S ++ [.cells [.str b.1, .str b.2] 40]) (.ref S.length 0) (.str b.1 :: .str b.2 :: []) := .inr ⟨S.length, 0, [.str b.1, .str b.2], 40, rfl, by simp, rfl⟩
  obtain ⟨fa, fa1, fa2⟩ := ava_type atA
  obtain ⟨fb, fb1, fb2⟩ := ava_type atB
  have sa := small_ok a.1 (S ++ [.cells [.str b.1, .str b.2] 40]) oa.1
  have sb := small_ok b.1 (S ++ [.cells [.str b.1, .str b.2] 40]) ob.1
  repeat (first | refine WS.seq ?_ | refine WS.skip ?_ | refine WS.label ?_ | refine WS.block ?_ | refine WS.inBlock ?_ | refine WS.exit rfl ?_ | refine WS.scope ?_ | refine WS.inScope ?_ | refine WS.region (by simp only [EV, TY, lget, hbox, ↓reduceIte, Nat.reduceEqDiff, decide_true, decide_false, eq_self]; with_reducible rfl) ?_)
  refine WS.draw (by simp only [evDraw_nil, evDraw_plain, isEff, isRead, List.all_nil, List.all_cons, Bool.or_true, Bool.and_self, Bool.and_true, V.beq_refl, EV, TY, lget, fa1, fa2, fb1, fb2, callV_34, sa, sb, ↓reduceIte, Nat.reduceEqDiff, decide_true, decide_false, eq_self]; with_reducible rfl) ?_
  refine WS.ret1s (t := 3) rfl rfl (List.prefix_append _ _) (frz_bool _ _ _) ?_
  simp only [EV, lget, ↓reduceIte, Nat.reduceEqDiff, decide_true, decide_false, eq_self, and_true, true_and, and_self]
  exact congrArg V.bool (by by_cases h : smallS a.1 = smallS b.1 <;> simp [h])
/-! ### shaped -/
def stepP (r : List Ava) : Prop := 1 ≤ r.length ∧ r.length ≤ 4 ∧ ∀ i, i < r.length → typeB (r.getD i ([], [])).1 = true ∧ ∀ k, k < i → smallS (r.getD k ([], [])).1 ≠ smallS (r.getD i ([], [])).1
def shapedP (n : List (List Ava)) : Prop := n.length ≤ 16 ∧ ∀ i, i < n.length → stepP (n.getD i [])
noncomputable def shapedB (n : List (List Ava)) : Bool := @decide (shapedP n) (Classical.propDecidable _)
theorem shapedB_true {n : List (List Ava)} (h : shapedP n) : shapedB n = true := by unfold shapedB; exact @decide_eq_true _ (Classical.propDecidable _) h
theorem shapedB_false {n : List (List Ava)} (h : ¬ shapedP n) : shapedB n = false := by unfold shapedB; exact @decide_eq_false _ (Classical.propDecidable _) h
theorem ret_bool {E : Env} {k : List Todo} {fr : Fr} {S S' : Store} {f : FuncId} {fn : Func} {t : Nat} {b c : Bool} (hr : fn.results.toList = [.tmp t]) (hk : E.keep f = false) (hp : S <+: S') (hb : c = b) (hv : lget fr t = .bool b) : WS E (.code .ret :: k) fr S' (FnEnds E f fn S (.bool c, S)) := by
  subst hb
  exact WS.ret1s hr hk hp (frz_bool _ _ _) hv
theorem Shaped_ok {S : Store} {v : V} {n : List (List Ava)} (hn : isDn S v n) (on : okN n) : vrun E0 (.fn 26) [v] S = some (.bool (shapedB n), S) := by
  refine fn_ws Tryd.func26 rfl ?_
  have ln := hn.len
  repeat (first | refine WS.seq ?_ | refine WS.skip ?_ | refine WS.label ?_ | refine WS.block ?_ | refine WS.inBlock ?_ | refine WS.exit rfl ?_ | refine WS.scope ?_ | refine WS.inScope ?_ | refine WS.region (by simp only [EV, TY, lget, ↓reduceIte, Nat.reduceEqDiff, decide_true, decide_false, eq_self]; with_reducible rfl) ?_)
  refine WS.loopB (fun j fr S' => ∃ i, j = n.length - i ∧ i ≤ n.length ∧ lget fr 0 = v ∧ lget fr 3 = .int .i64 (i : Nat) ∧ S = S' ∧ ∀ k, k < i → stepP (n.getD k []))
    (fun fr S' => lget fr 0 = v ∧ S = S' ∧ ∀ k, k < n.length → stepP (n.getD k [])) (j := n.length) ?_ ?_ ?_
  · refine ⟨0, by omega, by omega, ?_, ?_, rfl, fun k hk => by omega⟩
    all_goals
      simp only [EV, lget, ↓reduceIte, Nat.reduceEqDiff, decide_true, decide_false, eq_self, and_true, true_and, and_self]
      try rfl
  · rintro fr S' ⟨h0, rfl, hall⟩
    by_cases h16 : ((n.length : Nat) : Int) ≤ 16
    · repeat (first | refine WS.seq ?_ | refine WS.skip ?_ | refine WS.label ?_ | refine WS.block ?_ | refine WS.inBlock ?_ | refine WS.exit rfl ?_ | refine WS.scope ?_ | refine WS.inScope ?_ | refine WS.region (by simp only [EV, TY, h0, ln, h16, ↓reduceIte, Nat.reduceEqDiff, decide_true, decide_false, eq_self]; with_reducible rfl) ?_)
      refine ret_bool (t := 2) rfl rfl (List.prefix_refl _) (shapedB_true ⟨by omega, hall⟩) ?_
      simp only [EV, ↓reduceIte, Nat.reduceEqDiff, decide_true, decide_false, eq_self, and_true, true_and, and_self]
    · repeat (first | refine WS.seq ?_ | refine WS.skip ?_ | refine WS.label ?_ | refine WS.block ?_ | refine WS.inBlock ?_ | refine WS.exit rfl ?_ | refine WS.scope ?_ | refine WS.inScope ?_ | refine WS.region (by simp only [EV, TY, h0, ln, h16, ↓reduceIte, Nat.reduceEqDiff, decide_true, decide_false, eq_self]; with_reducible rfl) ?_)
      refine ret_bool (t := 2) rfl rfl (List.prefix_refl _) (shapedB_false fun h => h16 (by have := h.1; omega)) ?_
      simp only [EV, ↓reduceIte, Nat.reduceEqDiff, decide_true, decide_false, eq_self, and_true, true_and, and_self]
  · rintro j fr S' ⟨i, rfl, hi, h0, h3, hSS, hall⟩ ih last
    subst hSS
    by_cases hlt : i < n.length
    · have hlt' : ((i : Nat) : Int) < ((n.length : Nat) : Int) := by omega
      obtain ⟨pa, c, i1, i2, i3⟩ := hn.at_ i hlt
      have lr := i3.len
      have or_ := on.at_ i hlt
      have bad : ¬ stepP (n.getD i []) → shapedB n = false := fun h => shapedB_false fun g => h (g.2 i hlt)
      have good : stepP (n.getD i []) → ∀ k, k < i + 1 → stepP (n.getD k []) := fun g k hk => by
        rcases Nat.lt_or_ge k i with h | h
        · exact hall k h
        · obtain rfl : k = i := by omega
          exact g
      generalize n.getD i [] = r at i3 lr or_ bad good
      repeat (first | refine WS.seq ?_ | refine WS.skip ?_ | refine WS.label ?_ | refine WS.block ?_ | refine WS.inBlock ?_ | refine WS.exit rfl ?_ | refine WS.scope ?_ | refine WS.inScope ?_ | refine WS.region (by simp only [EV, TY, h0, h3, ln, hlt', ↓reduceIte, Nat.reduceEqDiff, decide_true, decide_false, eq_self]; with_reducible rfl) ?_)
      refine WS.cond_true (by simp only [EV, ↓reduceIte, Nat.reduceEqDiff, decide_true, decide_false, eq_self]) ?_
      repeat (first | refine WS.seq ?_ | refine WS.skip ?_ | refine WS.label ?_ | refine WS.block ?_ | refine WS.inBlock ?_ | refine WS.exit rfl ?_ | refine WS.scope ?_ | refine WS.inScope ?_)
      have hinc := wrap_inc i (by have := on.1; omega)
      by_cases b1 : ((r.length : Nat) : Int) < 1
      · repeat (first | refine WS.seq ?_ | refine WS.skip ?_ | refine WS.label ?_ | refine WS.block ?_ | refine WS.inBlock ?_ | refine WS.exit rfl ?_ | refine WS.scope ?_ | refine WS.inScope ?_ | refine WS.region (by simp only [EV, TY, h0, h3, i1, i2, lr, b1, ↓reduceIte, Nat.reduceEqDiff, decide_true, decide_false, eq_self]; with_reducible rfl) ?_)
        refine WS.cond_true (by simp only [EV, b1, ↓reduceIte, Nat.reduceEqDiff, decide_true, decide_false, eq_self]) ?_
        repeat (first | refine WS.seq ?_ | refine WS.skip ?_ | refine WS.label ?_ | refine WS.block ?_ | refine WS.inBlock ?_ | refine WS.exit rfl ?_ | refine WS.scope ?_ | refine WS.inScope ?_ | refine WS.region (by simp only [EV, TY, ↓reduceIte, Nat.reduceEqDiff, decide_true, decide_false, eq_self]; with_reducible rfl) ?_)
        refine ret_bool (t := 2) rfl rfl (List.prefix_refl _) (bad fun h => by have := h.1; omega) ?_
        simp only [EV, ↓reduceIte, Nat.reduceEqDiff, decide_true, decide_false, eq_self, and_true, true_and, and_self]
      by_cases b2 : (4 : Int) < ((r.length : Nat) : Int)
      · repeat (first | refine WS.seq ?_ | refine WS.skip ?_ | refine WS.label ?_ | refine WS.block ?_ | refine WS.inBlock ?_ | refine WS.exit rfl ?_ | refine WS.scope ?_ | refine WS.inScope ?_ | refine WS.region (by simp only [EV, TY, h0, h3, i1, i2, lr, b1, b2, ↓reduceIte, Nat.reduceEqDiff, decide_true, decide_false, eq_self]; with_reducible rfl) ?_)
        refine WS.cond_true (by simp only [EV, b1, b2, ↓reduceIte, Nat.reduceEqDiff, decide_true, decide_false, eq_self]) ?_
        repeat (first | refine WS.seq ?_ | refine WS.skip ?_ | refine WS.label ?_ | refine WS.block ?_ | refine WS.inBlock ?_ | refine WS.exit rfl ?_ | refine WS.scope ?_ | refine WS.inScope ?_ | refine WS.region (by simp only [EV, TY, ↓reduceIte, Nat.reduceEqDiff, decide_true, decide_false, eq_self]; with_reducible rfl) ?_)
        refine ret_bool (t := 2) rfl rfl (List.prefix_refl _) (bad fun h => by have := h.2.1; omega) ?_
        simp only [EV, ↓reduceIte, Nat.reduceEqDiff, decide_true, decide_false, eq_self, and_true, true_and, and_self]
      repeat (first | refine WS.seq ?_ | refine WS.skip ?_ | refine WS.label ?_ | refine WS.block ?_ | refine WS.inBlock ?_ | refine WS.exit rfl ?_ | refine WS.scope ?_ | refine WS.inScope ?_ | refine WS.region (by simp only [EV, TY, h0, h3, i1, i2, lr, b1, b2, ↓reduceIte, Nat.reduceEqDiff, decide_true, decide_false, eq_self]; with_reducible rfl) ?_)
      refine WS.cond_false (by simp only [EV, b1, b2, ↓reduceIte, Nat.reduceEqDiff, decide_true, decide_false, eq_self]) ?_
      repeat (first | refine WS.seq ?_ | refine WS.skip ?_ | refine WS.label ?_ | refine WS.block ?_ | refine WS.inBlock ?_ | refine WS.exit rfl ?_ | refine WS.scope ?_ | refine WS.inScope ?_ | refine WS.region (by simp only [EV, TY, ↓reduceIte, Nat.reduceEqDiff, decide_true, decide_false, eq_self]; with_reducible rfl) ?_)
      refine WS.loopB (fun j fr S' => ∃ m, j = r.length - m ∧ m ≤ r.length ∧ lget fr 0 = v ∧ lget fr 3 = .int .i64 (i : Nat) ∧ lget fr 4 = .int .i64 (m : Nat) ∧ S = S' ∧ ∀ q, q < m → typeB (r.getD q ([], [])).1 = true ∧ ∀ k, k < q → smallS (r.getD k ([], [])).1 ≠ smallS (r.getD q ([], [])).1)
        (fun fr S' => lget fr 0 = v ∧ lget fr 3 = .int .i64 (i : Nat) ∧ S = S' ∧ stepP r) (j := r.length) ?_ ?_ ?_
      · refine ⟨0, by omega, by omega, ?_, ?_, ?_, rfl, fun k hk => by omega⟩
        all_goals
          simp only [EV, h0, h3, ↓reduceIte, Nat.reduceEqDiff, decide_true, decide_false, eq_self, and_true, true_and, and_self]
          try rfl
      · rintro fr S' ⟨h0, h3, rfl, hr⟩
        repeat (first | refine WS.seq ?_ | refine WS.skip ?_ | refine WS.label ?_ | refine WS.block ?_ | refine WS.inBlock ?_ | refine WS.exit rfl ?_ | refine WS.scope ?_ | refine WS.inScope ?_ | refine WS.region (by simp only [EV, TY, h3, hinc, ↓reduceIte, Nat.reduceEqDiff, decide_true, decide_false, eq_self]; with_reducible rfl) ?_)
        refine ih (n.length - (i + 1)) _ _ (by omega) ⟨i + 1, rfl, by omega, ?_, ?_, rfl, good hr⟩
        · simp only [EV, h0, ↓reduceIte, Nat.reduceEqDiff, decide_true, decide_false, eq_self, and_true, true_and, and_self]
        · simp only [EV, ↓reduceIte, Nat.reduceEqDiff, decide_true, decide_false, eq_self, and_true, true_and, and_self]
      · rintro j fr S' ⟨m, rfl, hm, h0, h3, h4, hSS, hrall⟩ ihm lastm
        subst hSS
        by_cases hmlt : m < r.length
        · have hmlt' : ((m : Nat) : Int) < ((r.length : Nat) : Int) := by omega
          obtain ⟨qa, j1, ta, j2⟩ := i3.at_ m hmlt
          obtain ⟨qt, j3, j4⟩ := ava_type j2
          have oka := or_.at_ m hmlt
          have tyx := Type_ok (r.getD m ([], [])).1 S oka.1
          have rtyx := refType_ok (r.getD m ([], [])).1 S oka.1
          have minc := wrap_inc m (by have := or_.1; omega)
          repeat (first | refine WS.seq ?_ | refine WS.skip ?_ | refine WS.label ?_ | refine WS.block ?_ | refine WS.inBlock ?_ | refine WS.exit rfl ?_ | refine WS.scope ?_ | refine WS.inScope ?_ | refine WS.region (by simp only [EV, TY, h0, h3, h4, i1, i2, lr, hmlt', ↓reduceIte, Nat.reduceEqDiff, decide_true, decide_false, eq_self]; with_reducible rfl) ?_)
          refine WS.cond_true (by simp only [EV, ↓reduceIte, Nat.reduceEqDiff, decide_true, decide_false, eq_self]) ?_
          repeat (first | refine WS.seq ?_ | refine WS.skip ?_ | refine WS.label ?_ | refine WS.block ?_ | refine WS.inBlock ?_ | refine WS.exit rfl ?_ | refine WS.scope ?_ | refine WS.inScope ?_)
          by_cases ht : typeB (r.getD m ([], [])).1 = true
          · repeat (first | refine WS.seq ?_ | refine WS.skip ?_ | refine WS.label ?_ | refine WS.block ?_ | refine WS.inBlock ?_ | refine WS.exit rfl ?_ | refine WS.scope ?_ | refine WS.inScope ?_ | refine WS.region (by simp only [EV, TY, h0, h3, h4, i1, i2, j1, j3, j4, callV_14, rtyx, ht, Bool.not_true, ↓reduceIte, Nat.reduceEqDiff, decide_true, decide_false, eq_self]; with_reducible rfl) ?_)
            refine WS.cond_false (by simp only [EV, ↓reduceIte, Nat.reduceEqDiff, decide_true, decide_false, eq_self]) ?_
            repeat (first | refine WS.seq ?_ | refine WS.skip ?_ | refine WS.label ?_ | refine WS.block ?_ | refine WS.inBlock ?_ | refine WS.exit rfl ?_ | refine WS.scope ?_ | refine WS.inScope ?_ | refine WS.region (by simp only [EV, TY, h0, h3, h4, ↓reduceIte, Nat.reduceEqDiff, decide_true, decide_false, eq_self]; with_reducible rfl) ?_)
            refine WS.loopB (fun j fr S' => ∃ p, j = m - p ∧ p ≤ m ∧ lget fr 0 = v ∧ lget fr 3 = .int .i64 (i : Nat) ∧ lget fr 4 = .int .i64 (m : Nat) ∧ lget fr 6 = .int .i64 (p : Nat) ∧ S = S' ∧ ∀ k, k < p → smallS (r.getD k ([], [])).1 ≠ smallS (r.getD m ([], [])).1)
              (fun fr S' => lget fr 0 = v ∧ lget fr 3 = .int .i64 (i : Nat) ∧ lget fr 4 = .int .i64 (m : Nat) ∧ S = S' ∧ ∀ k, k < m → smallS (r.getD k ([], [])).1 ≠ smallS (r.getD m ([], [])).1) (j := m) ?_ ?_ ?_
            · refine ⟨0, by omega, by omega, ?_, ?_, ?_, ?_, rfl, fun k hk => by omega⟩
              all_goals
                simp only [EV, h0, h3, h4, ↓reduceIte, Nat.reduceEqDiff, decide_true, decide_false, eq_self, and_true, true_and, and_self]
                try rfl
            · rintro fr S' ⟨h0, h3, h4, rfl, hk⟩
              repeat (first | refine WS.seq ?_ | refine WS.skip ?_ | refine WS.label ?_ | refine WS.block ?_ | refine WS.inBlock ?_ | refine WS.exit rfl ?_ | refine WS.scope ?_ | refine WS.inScope ?_ | refine WS.region (by simp only [EV, TY, h4, minc, ↓reduceIte, Nat.reduceEqDiff, decide_true, decide_false, eq_self]; with_reducible rfl) ?_)
              refine ihm (r.length - (m + 1)) _ _ (by omega) ⟨m + 1, rfl, by omega, ?_, ?_, ?_, rfl, fun q hq => ?_⟩
              · simp only [EV, h0, ↓reduceIte, Nat.reduceEqDiff, decide_true, decide_false, eq_self, and_true, true_and, and_self]
              · simp only [EV, h3, ↓reduceIte, Nat.reduceEqDiff, decide_true, decide_false, eq_self, and_true, true_and, and_self]
              · simp only [EV, ↓reduceIte, Nat.reduceEqDiff, decide_true, decide_false, eq_self, and_true, true_and, and_self]
              · rcases Nat.lt_or_ge q m with h | h
                · exact hrall q h
                · obtain rfl : q = m := by omega
                  exact ⟨ht, hk⟩
            · rintro j fr S' ⟨p, rfl, hp, h0, h3, h4, h6, hSS, hk⟩ ihp lastp
              subst hSS
              by_cases hplt : p < m
              · have hplt' : ((p : Nat) : Int) < ((m : Nat) : Int) := by omega
                obtain ⟨qb, k1, tb, k2⟩ := i3.at_ p (by omega)
                obtain ⟨qu, k3, k4⟩ := ava_type k2
                have okb := or_.at_ p (by omega)
                have sx := Small_ok (r.getD m ([], [])).1 S oka.1
                have sy := Small_ok (r.getD p ([], [])).1 S okb.1
                by_cases he : smallS (r.getD m ([], [])).1 = smallS (r.getD p ([], [])).1
                · have he' : ((smallS (r.getD m ([], [])).1) == (smallS (r.getD p ([], [])).1)) = true := beq_iff_eq.2 he
                  repeat (first | refine WS.seq ?_ | refine WS.skip ?_ | refine WS.label ?_ | refine WS.block ?_ | refine WS.inBlock ?_ | refine WS.exit rfl ?_ | refine WS.scope ?_ | refine WS.inScope ?_ | refine WS.region (by simp only [EV, TY, h0, h3, h4, h6, hplt', ↓reduceIte, Nat.reduceEqDiff, decide_true, decide_false, eq_self]; with_reducible rfl) ?_)
                  refine WS.cond_true (by simp only [EV, ↓reduceIte, Nat.reduceEqDiff, decide_true, decide_false, eq_self]) ?_
                  repeat (first | refine WS.seq ?_ | refine WS.skip ?_ | refine WS.label ?_ | refine WS.block ?_ | refine WS.inBlock ?_ | refine WS.exit rfl ?_ | refine WS.scope ?_ | refine WS.inScope ?_ | refine WS.region (by simp only [EV, TY, h0, h3, h4, h6, i1, i2, j1, j3, j4, k1, k3, k4, callV_49, sx, sy, he', ↓reduceIte, Nat.reduceEqDiff, decide_true, decide_false, eq_self]; with_reducible rfl) ?_)
                  refine WS.cond_true (by simp only [EV, ↓reduceIte, Nat.reduceEqDiff, decide_true, decide_false, eq_self]) ?_
                  repeat (first | refine WS.seq ?_ | refine WS.skip ?_ | refine WS.label ?_ | refine WS.block ?_ | refine WS.inBlock ?_ | refine WS.exit rfl ?_ | refine WS.scope ?_ | refine WS.inScope ?_ | refine WS.region (by simp only [EV, TY, ↓reduceIte, Nat.reduceEqDiff, decide_true, decide_false, eq_self]; with_reducible rfl) ?_)
                  refine ret_bool (t := 2) rfl rfl (List.prefix_refl _) (bad fun h => (h.2.2 m hmlt).2 p hplt he.symm) ?_
                  simp only [EV, ↓reduceIte, Nat.reduceEqDiff, decide_true, decide_false, eq_self, and_true, true_and, and_self]
                · have he' : ((smallS (r.getD m ([], [])).1) == (smallS (r.getD p ([], [])).1)) = false := beq_eq_false_iff_ne.2 he
                  have pinc := wrap_inc p (by have := or_.1; omega)
                  repeat (first | refine WS.seq ?_ | refine WS.skip ?_ | refine WS.label ?_ | refine WS.block ?_ | refine WS.inBlock ?_ | refine WS.exit rfl ?_ | refine WS.scope ?_ | refine WS.inScope ?_ | refine WS.region (by simp only [EV, TY, h0, h3, h4, h6, hplt', ↓reduceIte, Nat.reduceEqDiff, decide_true, decide_false, eq_self]; with_reducible rfl) ?_)
                  refine WS.cond_true (by simp only [EV, ↓reduceIte, Nat.reduceEqDiff, decide_true, decide_false, eq_self]) ?_
                  repeat (first | refine WS.seq ?_ | refine WS.skip ?_ | refine WS.label ?_ | refine WS.block ?_ | refine WS.inBlock ?_ | refine WS.exit rfl ?_ | refine WS.scope ?_ | refine WS.inScope ?_ | refine WS.region (by simp only [EV, TY, h0, h3, h4, h6, i1, i2, j1, j3, j4, k1, k3, k4, callV_49, sx, sy, he', ↓reduceIte, Nat.reduceEqDiff, decide_true, decide_false, eq_self]; with_reducible rfl) ?_)
                  refine WS.cond_false (by simp only [EV, ↓reduceIte, Nat.reduceEqDiff, decide_true, decide_false, eq_self]) ?_
                  repeat (first | refine WS.seq ?_ | refine WS.skip ?_ | refine WS.label ?_ | refine WS.block ?_ | refine WS.inBlock ?_ | refine WS.exit rfl ?_ | refine WS.scope ?_ | refine WS.inScope ?_ | refine WS.region (by simp only [EV, TY, h6, pinc, ↓reduceIte, Nat.reduceEqDiff, decide_true, decide_false, eq_self]; with_reducible rfl) ?_)
                  refine ihp (m - (p + 1)) _ _ (by omega) ⟨p + 1, rfl, by omega, ?_, ?_, ?_, ?_, rfl, fun k hk' => ?_⟩
                  · simp only [EV, h0, ↓reduceIte, Nat.reduceEqDiff, decide_true, decide_false, eq_self, and_true, true_and, and_self]
                  · simp only [EV, h3, ↓reduceIte, Nat.reduceEqDiff, decide_true, decide_false, eq_self, and_true, true_and, and_self]
                  · simp only [EV, h4, ↓reduceIte, Nat.reduceEqDiff, decide_true, decide_false, eq_self, and_true, true_and, and_self]
                  · simp only [EV, ↓reduceIte, Nat.reduceEqDiff, decide_true, decide_false, eq_self, and_true, true_and, and_self]
                  · rcases Nat.lt_or_ge k p with h | h
                    · exact hk k h
                    · obtain rfl : k = p := by omega
                      exact fun h => he h.symm
              · have hplt' : ¬ ((p : Nat) : Int) < ((m : Nat) : Int) := by omega
                repeat (first | refine WS.seq ?_ | refine WS.skip ?_ | refine WS.label ?_ | refine WS.block ?_ | refine WS.inBlock ?_ | refine WS.exit rfl ?_ | refine WS.scope ?_ | refine WS.inScope ?_ | refine WS.region (by simp only [EV, TY, h0, h3, h4, h6, hplt', ↓reduceIte, Nat.reduceEqDiff, decide_true, decide_false, eq_self]; with_reducible rfl) ?_)
                refine WS.cond_false (by simp only [EV, ↓reduceIte, Nat.reduceEqDiff, decide_true, decide_false, eq_self]) ?_
                refine WS.exit rfl ?_
                have : p = m := by omega
                subst this
                refine lastp _ _ ⟨?_, ?_, ?_, rfl, hk⟩
                · simp only [EV, h0, ↓reduceIte, Nat.reduceEqDiff, decide_true, decide_false, eq_self, and_true, true_and, and_self]
                · simp only [EV, h3, ↓reduceIte, Nat.reduceEqDiff, decide_true, decide_false, eq_self, and_true, true_and, and_self]
                · simp only [EV, h4, ↓reduceIte, Nat.reduceEqDiff, decide_true, decide_false, eq_self, and_true, true_and, and_self]
          · have ht : typeB (r.getD m ([], [])).1 = false := by simpa using ht
            repeat (first | refine WS.seq ?_ | refine WS.skip ?_ | refine WS.label ?_ | refine WS.block ?_ | refine WS.inBlock ?_ | refine WS.exit rfl ?_ | refine WS.scope ?_ | refine WS.inScope ?_ | refine WS.region (by simp only [EV, TY, h0, h3, h4, i1, i2, j1, j3, j4, callV_14, rtyx, ht, Bool.not_false, ↓reduceIte, Nat.reduceEqDiff, decide_true, decide_false, eq_self]; with_reducible rfl) ?_)
            refine WS.cond_true (by simp only [EV, ↓reduceIte, Nat.reduceEqDiff, decide_true, decide_false, eq_self]) ?_
            repeat (first | refine WS.seq ?_ | refine WS.skip ?_ | refine WS.label ?_ | refine WS.block ?_ | refine WS.inBlock ?_ | refine WS.exit rfl ?_ | refine WS.scope ?_ | refine WS.inScope ?_ | refine WS.region (by simp only [EV, TY, ↓reduceIte, Nat.reduceEqDiff, decide_true, decide_false, eq_self]; with_reducible rfl) ?_)
            refine ret_bool (t := 2) rfl rfl (List.prefix_refl _) (bad fun h => by have := (h.2.2 m hmlt).1; rw [ht] at this; simp at this) ?_
            simp only [EV, ↓reduceIte, Nat.reduceEqDiff, decide_true, decide_false, eq_self, and_true, true_and, and_self]
        · have hmlt' : ¬ ((m : Nat) : Int) < ((r.length : Nat) : Int) := by omega
          repeat (first | refine WS.seq ?_ | refine WS.skip ?_ | refine WS.label ?_ | refine WS.block ?_ | refine WS.inBlock ?_ | refine WS.exit rfl ?_ | refine WS.scope ?_ | refine WS.inScope ?_ | refine WS.region (by simp only [EV, TY, h0, h3, h4, i1, i2, lr, hmlt', ↓reduceIte, Nat.reduceEqDiff, decide_true, decide_false, eq_self]; with_reducible rfl) ?_)
          refine WS.cond_false (by simp only [EV, ↓reduceIte, Nat.reduceEqDiff, decide_true, decide_false, eq_self]) ?_
          refine WS.exit rfl ?_
          have : m = r.length := by omega
          subst this
          refine lastm _ _ ⟨?_, ?_, rfl, by omega, by omega, hrall⟩
          · simp only [EV, h0, ↓reduceIte, Nat.reduceEqDiff, decide_true, decide_false, eq_self, and_true, true_and, and_self]
          · simp only [EV, h3, ↓reduceIte, Nat.reduceEqDiff, decide_true, decide_false, eq_self, and_true, true_and, and_self]
    · have hlt' : ¬ ((i : Nat) : Int) < ((n.length : Nat) : Int) := by omega
      repeat (first | refine WS.seq ?_ | refine WS.skip ?_ | refine WS.label ?_ | refine WS.block ?_ | refine WS.inBlock ?_ | refine WS.exit rfl ?_ | refine WS.scope ?_ | refine WS.inScope ?_ | refine WS.region (by simp only [EV, TY, h0, h3, ln, hlt', ↓reduceIte, Nat.reduceEqDiff, decide_true, decide_false, eq_self]; with_reducible rfl) ?_)
      refine WS.cond_false (by simp only [EV, ↓reduceIte, Nat.reduceEqDiff, decide_true, decide_false, eq_self]) ?_
      refine WS.exit rfl ?_
      have : i = n.length := by omega
      subst this
      refine last _ _ ⟨?_, rfl, hall⟩
      simp only [EV, h0, ↓reduceIte, Nat.reduceEqDiff, decide_true, decide_false, eq_self, and_true, true_and, and_self]
end Go.Proofs.YtjcckafjopjdbaaDoor
namespace Go.Proofs.YtjcckafjopjdbaaDoor
open Go Go.Vm
set_option maxRecDepth 100000
set_option maxHeartbeats 4000000
set_option linter.unusedSimpArgs false
set_option linter.unusedVariables false
theorem flat_len (r : List Ava) : (r.flatMap avaC).length = r.length * 2 := by
  induction r with
  | nil => rfl
  | cons a r ih => simp [avaC, ih]; omega
theorem flat_take : ∀ (r : List Ava) (m : Nat), (r.flatMap avaC).take (m * 2) = (r.take m).flatMap avaC
  | [], m => by simp
  | a :: r, 0 => by simp
  | a :: r, m + 1 => by
    have e : (m + 1) * 2 = m * 2 + 2 := by omega
    simp only [List.flatMap_cons, avaC, e, List.take_succ_cons, List.cons_append, List.nil_append]
    rw [flat_take r m]
theorem isRdn.take {S : Store} {v : V} {r : List Ava} (h : isRdn S v r) (m : Nat) (hm : m ≤ r.length) : ∃ v', opSlice E0 38 v none (some (.int .i64 (m : Nat))) none = some v' ∧ isRdn S v' (r.take m) := by
  obtain ⟨v', h1, h2⟩ := Sl.take (E := E0) h Tryd.underlying38 tsize_40 .i64 m hm
  refine ⟨v', h1, ?_⟩
  unfold isRdn
  rw [← flat_take, List.length_take, Nat.min_eq_left hm]
  exact h2
theorem alloc_40 (S : Store) : opAlloc E0 S 40 = some (.ref S.length 0, S ++ [.cells [.str [], .str []] 40]) := by
  unfold opAlloc
  rw [zeroV_40]
  rfl
theorem st_40 (S : Store) (cs : List V) (hcs : cs.length = 2) (x y : List UInt8) : opStore E0 (S ++ [.cells cs 40]) 40 (.ref S.length 0) (.agg [.str x, .str y]) = some (S ++ [.cells [.str x, .str y] 40]) := by
  unfold opStore
  rw [tsize_40]
  match cs, hcs with
  | [a, b], _ =>
    simp [solid, vcells, putAt, cellsOf, Vm.elemOf, splice]
theorem getD_take {α : Type} (d : α) (r : List α) (m k : Nat) (hk : k < m) : (r.take m).getD k d = r.getD k d := by
  simp [List.getD, List.getElem?_take, hk]
theorem any_take {r : List Ava} {m : Nat} {p : Ava → Bool} (hm : m ≤ r.length) : (r.take m).any p = true ↔ ∃ k, k < m ∧ p (r.getD k ([], [])) = true := by
  rw [List.any_eq_true]
  constructor
  · rintro ⟨x, hx, hp⟩
    obtain ⟨k, hk, rfl⟩ := List.getElem_of_mem hx
    rw [List.length_take] at hk
    refine ⟨k, by omega, ?_⟩
    have : k < r.length := by omega
    simpa [List.getD, this, List.getElem_take] using hp
  · rintro ⟨k, hk, hp⟩
    have h1 : k < r.length := by omega
    refine ⟨r[k], ?_, by simpa [List.getD, h1] using hp⟩
    rw [List.mem_take_iff_getElem]
    exact ⟨k, by omega, rfl⟩
theorem shaped_ok {S : Store} {v : V} {n : List (List Ava)} (hn : isDn S v n) (on : okN n) : vrun E0 (.fn 24) [v] S = some (.bool (shapedB n), S) := by
  refine fn_ws Tryd.func24 rfl ?_
  have ln := hn.len
  by_cases h16 : (16 : Int) < ((n.length : Nat) : Int)
  · repeat (first | refine WS.seq ?_ | refine WS.skip ?_ | refine WS.label ?_ | refine WS.block ?_ | refine WS.inBlock ?_ | refine WS.exit rfl ?_ | refine WS.scope ?_ | refine WS.inScope ?_ | refine WS.region (by simp only [EV, TY, lget, ln, h16, ↓reduceIte, Nat.reduceEqDiff, decide_true, decide_false, eq_self]; with_reducible rfl) ?_)
    refine WS.cond_true (by simp only [EV, lget, ↓reduceIte, Nat.reduceEqDiff, decide_true, decide_false, eq_self]) ?_
    repeat (first | refine WS.seq ?_ | refine WS.skip ?_ | refine WS.label ?_ | refine WS.block ?_ | refine WS.inBlock ?_ | refine WS.exit rfl ?_ | refine WS.scope ?_ | refine WS.inScope ?_ | refine WS.region (by simp only [EV, TY, lget, ↓reduceIte, Nat.reduceEqDiff, decide_true, decide_false, eq_self]; with_reducible rfl) ?_)
    refine ret_bool (t := 2) rfl rfl (List.prefix_refl _) (shapedB_false fun h => by have := h.1; omega) ?_
    simp only [EV, lget, ↓reduceIte, Nat.reduceEqDiff, decide_true, decide_false, eq_self, and_true, true_and, and_self]
  repeat (first | refine WS.seq ?_ | refine WS.skip ?_ | refine WS.label ?_ | refine WS.block ?_ | refine WS.inBlock ?_ | refine WS.exit rfl ?_ | refine WS.scope ?_ | refine WS.inScope ?_ | refine WS.region (by simp only [EV, TY, lget, ln, h16, ↓reduceIte, Nat.reduceEqDiff, decide_true, decide_false, eq_self]; with_reducible rfl) ?_)
  refine WS.cond_false (by simp only [EV, lget, ↓reduceIte, Nat.reduceEqDiff, decide_true, decide_false, eq_self]) ?_
  repeat (first | refine WS.seq ?_ | refine WS.skip ?_ | refine WS.label ?_ | refine WS.block ?_ | refine WS.inBlock ?_ | refine WS.exit rfl ?_ | refine WS.scope ?_ | refine WS.inScope ?_ | refine WS.region (by simp only [EV, TY, lget, ln, ↓reduceIte, Nat.reduceEqDiff, decide_true, decide_false, eq_self]; with_reducible rfl) ?_)
  refine WS.loopB (fun j fr S' => ∃ i, j = n.length - i ∧ i ≤ n.length ∧ lget fr 10 = v ∧ lget fr 11 = .int .i64 (n.length : Nat) ∧ lget fr 12 = .int .i64 (i : Nat) ∧ (∃ L, S' = S ++ L) ∧ ∀ k, k < i → stepP (n.getD k []))
    (fun fr S' => (∃ L, S' = S ++ L) ∧ ∀ k, k < n.length → stepP (n.getD k [])) (j := n.length) ?_ ?_ ?_
  · refine ⟨0, by omega, by omega, ?_, ?_, ?_, ⟨[], by simp⟩, fun k hk => by omega⟩
    all_goals
      simp only [EV, lget, ↓reduceIte, Nat.reduceEqDiff, decide_true, decide_false, eq_self, and_true, true_and, and_self]
      try rfl
  · rintro fr S' ⟨⟨L, rfl⟩, hall⟩
    repeat (first | refine WS.seq ?_ | refine WS.skip ?_ | refine WS.label ?_ | refine WS.block ?_ | refine WS.inBlock ?_ | refine WS.exit rfl ?_ | refine WS.scope ?_ | refine WS.inScope ?_ | refine WS.region (by simp only [EV, TY, ↓reduceIte, Nat.reduceEqDiff, decide_true, decide_false, eq_self]; with_reducible rfl) ?_)
    refine ret_bool (t := 2) rfl rfl (List.prefix_append _ _) (shapedB_true ⟨by omega, hall⟩) ?_
    simp only [EV, ↓reduceIte, Nat.reduceEqDiff, decide_true, decide_false, eq_self, and_true, true_and, and_self]
  · rintro j fr S' ⟨i, rfl, hi, h10, h11, h12, ⟨L, rfl⟩, hall⟩ ih last
    by_cases hlt : i < n.length
    · have hlt' : ((i : Nat) : Int) < ((n.length : Nat) : Int) := by omega
      obtain ⟨pa, c, i1, i2, i3⟩ := (hn.more L).at_ i hlt
      have lr := i3.len
      have or_ := on.at_ i hlt
      have bad : ¬ stepP (n.getD i []) → shapedB n = false := fun h => shapedB_false fun g => h (g.2 i hlt)
      have good : stepP (n.getD i []) → ∀ k, k < i + 1 → stepP (n.getD k []) := fun g k hk => by
        rcases Nat.lt_or_ge k i with h | h
        · exact hall k h
        · obtain rfl : k = i := by omega
          exact g
      generalize n.getD i [] = r at i3 lr or_ bad good
      have hinc := wrap_inc i (by have := on.1; omega)
      by_cases b1 : r.length = 0
      · have b1' : (((r.length : Nat) : Int) == 0) = true := by simp [b1]
        repeat (first | refine WS.seq ?_ | refine WS.skip ?_ | refine WS.label ?_ | refine WS.block ?_ | refine WS.inBlock ?_ | refine WS.exit rfl ?_ | refine WS.scope ?_ | refine WS.inScope ?_ | refine WS.region (by simp only [EV, TY, h10, h11, h12, i1, i2, lr, hlt', b1', ↓reduceIte, Nat.reduceEqDiff, decide_true, decide_false, eq_self]; with_reducible rfl) ?_)
        refine WS.cond_true (by simp only [EV, ↓reduceIte, Nat.reduceEqDiff, decide_true, decide_false, eq_self]) ?_
        repeat (first | refine WS.seq ?_ | refine WS.skip ?_ | refine WS.label ?_ | refine WS.block ?_ | refine WS.inBlock ?_ | refine WS.exit rfl ?_ | refine WS.scope ?_ | refine WS.inScope ?_ | refine WS.region (by simp only [EV, TY, h10, h11, h12, i1, i2, lr, hlt', b1', ↓reduceIte, Nat.reduceEqDiff, decide_true, decide_false, eq_self]; with_reducible rfl) ?_)
        refine WS.cond_true (by simp only [EV, b1', ↓reduceIte, Nat.reduceEqDiff, decide_true, decide_false, eq_self]) ?_
        repeat (first | refine WS.seq ?_ | refine WS.skip ?_ | refine WS.label ?_ | refine WS.block ?_ | refine WS.inBlock ?_ | refine WS.exit rfl ?_ | refine WS.scope ?_ | refine WS.inScope ?_ | refine WS.region (by simp only [EV, TY, ↓reduceIte, Nat.reduceEqDiff, decide_true, decide_false, eq_self]; with_reducible rfl) ?_)
        refine ret_bool (t := 2) rfl rfl (List.prefix_append _ _) (bad fun h => by have := h.1; omega) ?_
        simp only [EV, ↓reduceIte, Nat.reduceEqDiff, decide_true, decide_false, eq_self, and_true, true_and, and_self]
      have b1' : (((r.length : Nat) : Int) == 0) = false := beq_eq_false_iff_ne.2 (by omega)
      by_cases b2 : (4 : Int) < ((r.length : Nat) : Int)
      · repeat (first | refine WS.seq ?_ | refine WS.skip ?_ | refine WS.label ?_ | refine WS.block ?_ | refine WS.inBlock ?_ | refine WS.exit rfl ?_ | refine WS.scope ?_ | refine WS.inScope ?_ | refine WS.region (by simp only [EV, TY, h10, h11, h12, i1, i2, lr, hlt', b1', b2, ↓reduceIte, Nat.reduceEqDiff, decide_true, decide_false, eq_self]; with_reducible rfl) ?_)
        refine WS.cond_true (by simp only [EV, ↓reduceIte, Nat.reduceEqDiff, decide_true, decide_false, eq_self]) ?_
        repeat (first | refine WS.seq ?_ | refine WS.skip ?_ | refine WS.label ?_ | refine WS.block ?_ | refine WS.inBlock ?_ | refine WS.exit rfl ?_ | refine WS.scope ?_ | refine WS.inScope ?_ | refine WS.region (by simp only [EV, TY, h10, h11, h12, i1, i2, lr, hlt', b1', b2, ↓reduceIte, Nat.reduceEqDiff, decide_true, decide_false, eq_self]; with_reducible rfl) ?_)
        refine WS.cond_true (by simp only [EV, b1', b2, ↓reduceIte, Nat.reduceEqDiff, decide_true, decide_false, eq_self]) ?_
        repeat (first | refine WS.seq ?_ | refine WS.skip ?_ | refine WS.label ?_ | refine WS.block ?_ | refine WS.inBlock ?_ | refine WS.exit rfl ?_ | refine WS.scope ?_ | refine WS.inScope ?_ | refine WS.region (by simp only [EV, TY, ↓reduceIte, Nat.reduceEqDiff, decide_true, decide_false, eq_self]; with_reducible rfl) ?_)
        refine ret_bool (t := 2) rfl rfl (List.prefix_append _ _) (bad fun h => by have := h.2.1; omega) ?_
        simp only [EV, ↓reduceIte, Nat.reduceEqDiff, decide_true, decide_false, eq_self, and_true, true_and, and_self]
      repeat (first | refine WS.seq ?_ | refine WS.skip ?_ | refine WS.label ?_ | refine WS.block ?_ | refine WS.inBlock ?_ | refine WS.exit rfl ?_ | refine WS.scope ?_ | refine WS.inScope ?_ | refine WS.region (by simp only [EV, TY, h10, h11, h12, hlt', ↓reduceIte, Nat.reduceEqDiff, decide_true, decide_false, eq_self]; with_reducible rfl) ?_)
      refine WS.cond_true (by simp only [EV, ↓reduceIte, Nat.reduceEqDiff, decide_true, decide_false, eq_self]) ?_
      repeat (first | refine WS.seq ?_ | refine WS.skip ?_ | refine WS.label ?_ | refine WS.block ?_ | refine WS.inBlock ?_ | refine WS.exit rfl ?_ | refine WS.scope ?_ | refine WS.inScope ?_ | refine WS.region (by simp only [EV, TY, h10, h11, h12, i1, i2, lr, b1', b2, ↓reduceIte, Nat.reduceEqDiff, decide_true, decide_false, eq_self]; with_reducible rfl) ?_)
      refine WS.cond_false (by simp only [EV, b1', b2, ↓reduceIte, Nat.reduceEqDiff, decide_true, decide_false, eq_self]) ?_
      repeat (first | refine WS.seq ?_ | refine WS.skip ?_ | refine WS.label ?_ | refine WS.block ?_ | refine WS.inBlock ?_ | refine WS.exit rfl ?_ | refine WS.scope ?_ | refine WS.inScope ?_ | refine WS.region (by simp only [EV, TY, lr, ↓reduceIte, Nat.reduceEqDiff, decide_true, decide_false, eq_self]; with_reducible rfl) ?_)
      refine WS.loopB (fun j fr S' => ∃ m, j = r.length - m ∧ m ≤ r.length ∧ lget fr 4 = c ∧ lget fr 10 = v ∧ lget fr 11 = .int .i64 (n.length : Nat) ∧ lget fr 12 = .int .i64 (i : Nat) ∧ lget fr 24 = c ∧ lget fr 25 = .int .i64 (r.length : Nat) ∧ lget fr 26 = .int .i64 (m : Nat) ∧ (∃ L2, S' = S ++ L ++ L2) ∧ ∀ q, q < m → typeB (r.getD q ([], [])).1 = true ∧ ∀ k, k < q → smallS (r.getD k ([], [])).1 ≠ smallS (r.getD q ([], [])).1)
        (fun fr S' => lget fr 10 = v ∧ lget fr 11 = .int .i64 (n.length : Nat) ∧ lget fr 12 = .int .i64 (i : Nat) ∧ (∃ L2, S' = S ++ L ++ L2) ∧ stepP r) (j := r.length) ?_ ?_ ?_
      · refine ⟨0, by omega, by omega, ?_, ?_, ?_, ?_, ?_, ?_, ?_, ⟨[], by simp⟩, fun k hk => by omega⟩
        all_goals
          simp only [EV, h10, h11, h12, ↓reduceIte, Nat.reduceEqDiff, decide_true, decide_false, eq_self, and_true, true_and, and_self]
          try rfl
      · rintro fr S' ⟨h10, h11, h12, ⟨L2, rfl⟩, hr⟩
        repeat (first | refine WS.seq ?_ | refine WS.skip ?_ | refine WS.label ?_ | refine WS.block ?_ | refine WS.inBlock ?_ | refine WS.exit rfl ?_ | refine WS.scope ?_ | refine WS.inScope ?_ | refine WS.region (by simp only [EV, TY, h12, hinc, ↓reduceIte, Nat.reduceEqDiff, decide_true, decide_false, eq_self]; with_reducible rfl) ?_)
        refine ih (n.length - (i + 1)) _ _ (by omega) ⟨i + 1, rfl, by omega, ?_, ?_, ?_, ⟨L ++ L2, by simp⟩, good hr⟩
        · simp only [EV, h10, ↓reduceIte, Nat.reduceEqDiff, decide_true, decide_false, eq_self, and_true, true_and, and_self]
        · simp only [EV, h11, ↓reduceIte, Nat.reduceEqDiff, decide_true, decide_false, eq_self, and_true, true_and, and_self]
        · simp only [EV, ↓reduceIte, Nat.reduceEqDiff, decide_true, decide_false, eq_self, and_true, true_and, and_self]
      · rintro j fr S' ⟨m, rfl, hm, h4, h10, h11, h12, h24, h25, h26, ⟨L2, rfl⟩, hrall⟩ ihm lastm
        by_cases hmlt : m < r.length
        · have hmlt' : ((m : Nat) : Int) < ((r.length : Nat) : Int) := by omega
          have i4 := i3.more L2
          obtain ⟨qa, j1, ta, j2⟩ := i4.at_ m hmlt
          have j3 := ava_load j2
          have oka := or_.at_ m hmlt
          generalize hT : S ++ L ++ L2 = T at i4 j2 j3
          have hal := alloc_40 T
          have hst := st_40 T [.str [], .str []] rfl (r.getD m ([], [])).1 (r.getD m ([], [])).2
          generalize hU : T ++ [Ob.cells [V.str (r.getD m ([], [])).1, V.str (r.getD m ([], [])).2] 40] = U at hst
          have i5 : isRdn U c r := by rw [← hU]; exact i4.more _
          have hcell : U[T.length]? = some (.cells [V.str (r.getD m ([], [])).1, V.str (r.getD m ([], [])).2] 40) := by rw [← hU]; simp
          have atU : At U (.ref T.length 0) (.str (r.getD m ([], [])).1 :: .str (r.getD m ([], [])).2 :: []) := .inr ⟨T.length, 0, _, 40, rfl, hcell, rfl⟩
          obtain ⟨qt, k1, k2⟩ := ava_type atU
          obtain ⟨w, k3, k4⟩ := i5.take m hm
          have hpre : ∃ L3, U = S ++ L ++ L3 := ⟨L2 ++ [Ob.cells [V.str (r.getD m ([], [])).1, V.str (r.getD m ([], [])).2] 40], by rw [← hU, ← hT]; simp⟩
          have hcl : ∀ q, q < (r.take m).length → callV E0 (vrun E0) (.fn (.func 46) [] [.ref T.length 0]) [avaV ((r.take m).getD q ([], []))] U = some (.bool (decide (smallS (r.getD m ([], [])).1 = smallS ((r.take m).getD q ([], [])).1)), U) := by
            intro q hq
            rw [List.length_take] at hq
            have hq' : q < m := by omega
            rw [callV_46, getD_take _ _ _ _ hq']
            exact shaped1_ok hcell oka _ (or_.at_ q (by omega))
          have hany := ContainsFunc_ok k4 (by rw [List.length_take]; have := or_.1; omega) (p := fun b => decide (smallS (r.getD m ([], [])).1 = smallS b.1)) hcl
          have tyx := Type_ok (r.getD m ([], [])).1 U oka.1
          have minc := wrap_inc m (by have := or_.1; omega)
          by_cases ht : typeB (r.getD m ([], [])).1 = true
          · by_cases ha : (r.take m).any (fun b => decide (smallS (r.getD m ([], [])).1 = smallS b.1)) = true
            · repeat (first | refine WS.seq ?_ | refine WS.skip ?_ | refine WS.label ?_ | refine WS.block ?_ | refine WS.inBlock ?_ | refine WS.exit rfl ?_ | refine WS.scope ?_ | refine WS.inScope ?_ | refine WS.region (by simp only [EV, TY, h4, h10, h11, h12, h24, h25, h26, hmlt', j1, j3, hal, hst, ↓reduceIte, Nat.reduceEqDiff, decide_true, decide_false, eq_self]; with_reducible rfl) ?_)
              refine WS.cond_true (by simp only [EV, ↓reduceIte, Nat.reduceEqDiff, decide_true, decide_false, eq_self]) ?_
              repeat (first | refine WS.seq ?_ | refine WS.skip ?_ | refine WS.label ?_ | refine WS.block ?_ | refine WS.inBlock ?_ | refine WS.exit rfl ?_ | refine WS.scope ?_ | refine WS.inScope ?_ | refine WS.region (by simp only [EV, TY, h4, h10, h11, h12, h24, h25, h26, hmlt', j1, j3, hal, hst, k1, k2, k3, callV_13, tyx, ht, Bool.not_true, callV_45, hany, ha, ↓reduceIte, Nat.reduceEqDiff, decide_true, decide_false, eq_self]; with_reducible rfl) ?_)
              refine WS.cond_true (by simp only [EV, ha, ht, ↓reduceIte, Nat.reduceEqDiff, decide_true, decide_false, eq_self]) ?_
              repeat (first | refine WS.seq ?_ | refine WS.skip ?_ | refine WS.label ?_ | refine WS.block ?_ | refine WS.inBlock ?_ | refine WS.exit rfl ?_ | refine WS.scope ?_ | refine WS.inScope ?_ | refine WS.region (by simp only [EV, TY, ↓reduceIte, Nat.reduceEqDiff, decide_true, decide_false, eq_self]; with_reducible rfl) ?_)
              refine ret_bool (t := 2) rfl rfl ?_ (bad fun h => ?_) ?_
              · obtain ⟨L3, rfl⟩ := hpre
                rw [List.append_assoc]
                exact List.prefix_append _ _
              · obtain ⟨k, hk, he⟩ := (any_take hm).1 ha
                exact (h.2.2 m hmlt).2 k hk (of_decide_eq_true he).symm
              · simp only [EV, ↓reduceIte, Nat.reduceEqDiff, decide_true, decide_false, eq_self, and_true, true_and, and_self]
            · have ha' : (r.take m).any (fun b => decide (smallS (r.getD m ([], [])).1 = smallS b.1)) = false := Bool.eq_false_iff.2 ha
              repeat (first | refine WS.seq ?_ | refine WS.skip ?_ | refine WS.label ?_ | refine WS.block ?_ | refine WS.inBlock ?_ | refine WS.exit rfl ?_ | refine WS.scope ?_ | refine WS.inScope ?_ | refine WS.region (by simp only [EV, TY, h4, h10, h11, h12, h24, h25, h26, hmlt', j1, j3, hal, hst, ↓reduceIte, Nat.reduceEqDiff, decide_true, decide_false, eq_self]; with_reducible rfl) ?_)
              refine WS.cond_true (by simp only [EV, ↓reduceIte, Nat.reduceEqDiff, decide_true, decide_false, eq_self]) ?_
              repeat (first | refine WS.seq ?_ | refine WS.skip ?_ | refine WS.label ?_ | refine WS.block ?_ | refine WS.inBlock ?_ | refine WS.exit rfl ?_ | refine WS.scope ?_ | refine WS.inScope ?_ | refine WS.region (by simp only [EV, TY, h4, h10, h11, h12, h24, h25, h26, hmlt', j1, j3, hal, hst, k1, k2, k3, callV_13, tyx, ht, Bool.not_true, callV_45, hany, ha', ↓reduceIte, Nat.reduceEqDiff, decide_true, decide_false, eq_self]; with_reducible rfl) ?_)
              refine WS.cond_false (by simp only [EV, ha', ht, ↓reduceIte, Nat.reduceEqDiff, decide_true, decide_false, eq_self]) ?_
              repeat (first | refine WS.seq ?_ | refine WS.skip ?_ | refine WS.label ?_ | refine WS.block ?_ | refine WS.inBlock ?_ | refine WS.exit rfl ?_ | refine WS.scope ?_ | refine WS.inScope ?_ | refine WS.region (by simp only [EV, TY, h26, minc, ↓reduceIte, Nat.reduceEqDiff, decide_true, decide_false, eq_self]; with_reducible rfl) ?_)
              refine ihm (r.length - (m + 1)) _ _ (by omega) ⟨m + 1, rfl, by omega, ?_, ?_, ?_, ?_, ?_, ?_, ?_, hpre, fun q hq => ?_⟩
              · simp only [EV, h4, ↓reduceIte, Nat.reduceEqDiff, decide_true, decide_false, eq_self, and_true, true_and, and_self]
              · simp only [EV, h10, ↓reduceIte, Nat.reduceEqDiff, decide_true, decide_false, eq_self, and_true, true_and, and_self]
              · simp only [EV, h11, ↓reduceIte, Nat.reduceEqDiff, decide_true, decide_false, eq_self, and_true, true_and, and_self]
              · simp only [EV, h12, ↓reduceIte, Nat.reduceEqDiff, decide_true, decide_false, eq_self, and_true, true_and, and_self]
              · simp only [EV, h24, ↓reduceIte, Nat.reduceEqDiff, decide_true, decide_false, eq_self, and_true, true_and, and_self]
              · simp only [EV, h25, ↓reduceIte, Nat.reduceEqDiff, decide_true, decide_false, eq_self, and_true, true_and, and_self]
              · simp only [EV, ↓reduceIte, Nat.reduceEqDiff, decide_true, decide_false, eq_self, and_true, true_and, and_self]
              · rcases Nat.lt_or_ge q m with h | h
                · exact hrall q h
                · obtain rfl : q = m := by omega
                  exact ⟨ht, fun k hk he => ha ((any_take hm).2 ⟨k, hk, decide_eq_true he.symm⟩)⟩
          · have ht : typeB (r.getD m ([], [])).1 = false := by simpa using ht
            repeat (first | refine WS.seq ?_ | refine WS.skip ?_ | refine WS.label ?_ | refine WS.block ?_ | refine WS.inBlock ?_ | refine WS.exit rfl ?_ | refine WS.scope ?_ | refine WS.inScope ?_ | refine WS.region (by simp only [EV, TY, h4, h10, h11, h12, h24, h25, h26, hmlt', j1, j3, hal, hst, ↓reduceIte, Nat.reduceEqDiff, decide_true, decide_false, eq_self]; with_reducible rfl) ?_)
            refine WS.cond_true (by simp only [EV, ↓reduceIte, Nat.reduceEqDiff, decide_true, decide_false, eq_self]) ?_
            repeat (first | refine WS.seq ?_ | refine WS.skip ?_ | refine WS.label ?_ | refine WS.block ?_ | refine WS.inBlock ?_ | refine WS.exit rfl ?_ | refine WS.scope ?_ | refine WS.inScope ?_ | refine WS.region (by simp only [EV, TY, h4, h10, h11, h12, h24, h25, h26, hmlt', j1, j3, hal, hst, k1, k2, k3, callV_13, tyx, ht, Bool.not_false, ↓reduceIte, Nat.reduceEqDiff, decide_true, decide_false, eq_self]; with_reducible rfl) ?_)
            refine WS.cond_true (by simp only [EV, ht, ↓reduceIte, Nat.reduceEqDiff, decide_true, decide_false, eq_self]) ?_
            repeat (first | refine WS.seq ?_ | refine WS.skip ?_ | refine WS.label ?_ | refine WS.block ?_ | refine WS.inBlock ?_ | refine WS.exit rfl ?_ | refine WS.scope ?_ | refine WS.inScope ?_ | refine WS.region (by simp only [EV, TY, ↓reduceIte, Nat.reduceEqDiff, decide_true, decide_false, eq_self]; with_reducible rfl) ?_)
            refine ret_bool (t := 2) rfl rfl ?_ (bad fun h => by have := (h.2.2 m hmlt).1; rw [ht] at this; simp at this) ?_
            · obtain ⟨L3, rfl⟩ := hpre
              rw [List.append_assoc]
              exact List.prefix_append _ _
            · simp only [EV, ↓reduceIte, Nat.reduceEqDiff, decide_true, decide_false, eq_self, and_true, true_and, and_self]
        · have hmlt' : ¬ ((m : Nat) : Int) < ((r.length : Nat) : Int) := by omega
          repeat (first | refine WS.seq ?_ | refine WS.skip ?_ | refine WS.label ?_ | refine WS.block ?_ | refine WS.inBlock ?_ | refine WS.exit rfl ?_ | refine WS.scope ?_ | refine WS.inScope ?_ | refine WS.region (by simp only [EV, TY, h24, h25, h26, hmlt', ↓reduceIte, Nat.reduceEqDiff, decide_true, decide_false, eq_self]; with_reducible rfl) ?_)
          refine WS.cond_false (by simp only [EV, ↓reduceIte, Nat.reduceEqDiff, decide_true, decide_false, eq_self]) ?_
          refine WS.exit rfl ?_
          have : m = r.length := by omega
          subst this
          refine lastm _ _ ⟨?_, ?_, ?_, ⟨L2, rfl⟩, by omega, by omega, hrall⟩
          · simp only [EV, h10, ↓reduceIte, Nat.reduceEqDiff, decide_true, decide_false, eq_self, and_true, true_and, and_self]
          · simp only [EV, h11, ↓reduceIte, Nat.reduceEqDiff, decide_true, decide_false, eq_self, and_true, true_and, and_self]
          · simp only [EV, h12, ↓reduceIte, Nat.reduceEqDiff, decide_true, decide_false, eq_self, and_true, true_and, and_self]
    · have hlt' : ¬ ((i : Nat) : Int) < ((n.length : Nat) : Int) := by omega
      repeat (first | refine WS.seq ?_ | refine WS.skip ?_ | refine WS.label ?_ | refine WS.block ?_ | refine WS.inBlock ?_ | refine WS.exit rfl ?_ | refine WS.scope ?_ | refine WS.inScope ?_ | refine WS.region (by simp only [EV, TY, h10, h11, h12, hlt', ↓reduceIte, Nat.reduceEqDiff, decide_true, decide_false, eq_self]; with_reducible rfl) ?_)
      refine WS.cond_false (by simp only [EV, ↓reduceIte, Nat.reduceEqDiff, decide_true, decide_false, eq_self]) ?_
      refine WS.exit rfl ?_
      have : i = n.length := by omega
      subst this
      exact last _ _ ⟨⟨L, rfl⟩, hall⟩
end Go.Proofs.YtjcckafjopjdbaaDoor
