import Derived.Test.YtjcckafjopjdbaaDoorPartJ
import Derived.Test.YtjcckafjopjdbaaDoorPartK
import Derived.Test.YtjcckafjopjdbaaDoorOrderB
import Derived.Test.YtjcckafjopjdbaaDoorJoins
set_option linter.all false
/- Ranges over functions: the walking rule. -/
set_option autoImplicit false
set_option linter.unusedVariables false
set_option linter.unusedSimpArgs false
namespace Go.Vm
variable {E : Env} {S S' : Store} {fr : Fr} {k : List Todo} {Q : Ex → Fr → Store → Prop}
theorem W.rangeFunc {g : Operand} {ps : Array Tmp} {asg body : Code} {f : FuncId} {first captured : List V} {fn : Func} {v : V} {key : Nat} {f' : List V} (hg : opnd E fr g = .fn (.func f) first captured) (hf : E.P.funcs[f]? = some fn) (hn : (fn.name == "runtime.NumGoroutine" || fn.body.isNone) = false)
    (hc : vrun E (.fn f) (first ++ [.yld S.length] ++ captured) (S ++ [.lp false (Vm.keyOf body) fr]) = some (v, S')) (hl : S'[S.length]? = some (.lp false key f')) (hQ : Q .normal fr (S'.set S.length .gone)) : W E (.rangeFunc g ps asg body) fr S Q := by
  refine ⟨_, _, _, hQ, .of fun n => ?_⟩
  simp only [evCode, hg, hf, hn, Bool.false_eq_true, if_false, hc, hl]
theorem WS.rangeFunc {g : Operand} {ps : Array Tmp} {asg body : Code} {f : FuncId} {first captured : List V} {fn : Func} {v : V} {key : Nat} {f' : List V} (hg : opnd E fr g = .fn (.func f) first captured) (hf : E.P.funcs[f]? = some fn) (hn : (fn.name == "runtime.NumGoroutine" || fn.body.isNone) = false)
    (hc : vrun E (.fn f) (first ++ [.yld S.length] ++ captured) (S ++ [.lp false (Vm.keyOf body) fr]) = some (v, S')) (hl : S'[S.length]? = some (.lp false key f')) (h : WS E k fr (S'.set S.length .gone) Q) : WS E (.code (.rangeFunc g ps asg body) :: k) fr S Q :=
  ⟨W.rangeFunc hg hf hn hc hl h.out⟩
end Go.Vm
namespace Go.Proofs.YtjcckafjopjdbaaDoor
open Go Go.Vm
set_option maxRecDepth 100000
set_option maxHeartbeats 8000000
set_option linter.unusedSimpArgs false
set_option linter.unusedVariables false
/-! ### a Builder whose bytes lie beyond n -/
structure BldN (T : Store) (id n : Nat) (bs : List UInt8) : Prop where
  ex : ∃ addr buf, T[id]? = some (.cells [addr, buf] 60) ∧ (addr = .nilp ∨ addr = .ref id 0) ∧ Buf 5 n T buf bs ∧ (bs = [] → ∀ i o l c z, buf = .slR i o l c z → 0 < c)
theorem BldN.bld {T : Store} {id n : Nat} {bs : List UInt8} (h : BldN T id n bs) (hn : id < n) : Bld T id bs := by
  obtain ⟨a, b, h1, h2, h3, h4⟩ := h
  refine ⟨a, b, h1, h2, ?_, h4⟩
  rcases h3 with h3 | ⟨i, c, r, x1, x2⟩
  · exact .inl h3
  · exact .inr ⟨i, c, r, by omega, x2⟩
def Oth (id n : Nat) (T T' : Store) : Prop := n ≤ T'.length ∧ ∀ q, q < n → q ≠ id → T'[q]? = T[q]?
theorem Oth.trans {id n : Nat} {A B C : Store} (h : Oth id n A B) (g : Oth id n B C) : Oth id n A C := ⟨g.1, fun q h1 h2 => (g.2 q h1 h2).trans (h.2 q h1 h2)⟩
theorem Oth.get {id n q : Nat} {T T' : Store} {o : Ob} (h : Oth id n T T') (h1 : q < n) (h2 : q ≠ id) (hq : T[q]? = some o) : T'[q]? = some o := by rw [h.2 q h1 h2]; exact hq
theorem WriteStringN_ok {T : Store} {id n : Nat} {bs : List UInt8} (h : BldN T id n bs) (hid : id < n) (hn : n ≤ T.length) (s : List UInt8) (hl : bs.length + s.length ≤ 140737488355328) : ∃ T', vrun E0 (.fn 41) [.ref id 0, .str s] T = some (.tup [.int .i64 (s.length : Nat), .nili], T') ∧ BldN T' id n (bs ++ s) ∧ Oth id n T T' := by
  obtain ⟨addr, buf, h1, h2, h3, h4⟩ := h
  have hlt := lt_of_get h1
  have cc := copyCheck_ok h1 h2
  have g1 : (T.set id (.cells [.ref id 0, buf] 60))[id]? = some (.cells [.ref id 0, buf] 60) := by simp [hlt]
  have hb := Buf_set (E := E0) h3 hid (.cells [.ref id 0, buf] 60)
  have hshape : ∀ (S : Store) (v : V) (b : List UInt8), Buf 5 n S v b → solid v = true ∧ ∀ cs, v ≠ .agg cs := fun S v b h => by
    rcases h with ⟨rfl, _⟩ | ⟨i, c, r, _, rfl, _⟩
    · exact ⟨rfl, fun cs h => by cases h⟩
    · exact ⟨rfl, fun cs h => by cases h⟩
  have key : ∃ v' T2, opAppend E0 (T.set id (.cells [.ref id 0, buf] 60)) [50, 9] buf (.str s) = some (v', T2) ∧ Buf 5 n T2 v' (bs ++ s) ∧ Low n (T.set id (.cells [.ref id 0, buf] 60)) T2 ∧ (bs ++ s = [] → ∀ i o l c z, v' = .slR i o l c z → 0 < c) := by
    by_cases h0 : s = []
    · subst h0
      have ha : opAppend E0 (T.set id (.cells [.ref id 0, buf] 60)) [50, 9] buf (.str []) = some (buf, T.set id (.cells [.ref id 0, buf] 60)) := by
        rw [append_base bt50 u9.1 u9.2 (xs := []) rfl buf]
        rcases hb with ⟨rfl, _⟩ | ⟨i, c, r, _, rfl, _⟩ <;> rfl
      exact ⟨_, _, ha, by simpa using hb, Low.refl (by simpa using hn), by simpa using h4⟩
    · obtain ⟨v', T2, a1, a2, a3⟩ := hb.app bt50 u9.1 u9.2 (by simpa using hn) (x := .str s) (xs := s) rfl hl
      exact ⟨v', T2, a1, a2, a3, fun h => absurd (List.append_eq_nil_iff.1 h).2 h0⟩
  obtain ⟨v', T2, a1, a2, a3, a4⟩ := key
  obtain ⟨s1, s2⟩ := hshape T2 v' _ a2
  have g2 := low_get a3 hid g1
  have st := bld_st1 g2 s1 s2
  refine ⟨T2.set id (.cells [.ref id 0, v'] 60), ?_, ⟨_, _, by rw [List.getElem?_set_self (lt_of_get g2)], .inr rfl, Buf_set (E := E0) a2 hid _, a4⟩, by rw [List.length_set]; exact a3.1, fun q h1 h2 => ?_⟩
  · refine fn_ws Tryd.func41 rfl ?_
    have l1 := bld_ld1 g1
    repeat (first | refine WS.seq ?_ | refine WS.skip ?_ | refine WS.label ?_ | refine WS.block ?_ | refine WS.inBlock ?_ | refine WS.exit rfl ?_ | refine WS.scope ?_ | refine WS.inScope ?_ | refine WS.region (by simp only [EV, TY, lget, EV2, callV_56, cc, fa60_1, l1, a1, st, ↓reduceIte, Nat.reduceEqDiff, decide_true, decide_false, eq_self]; with_reducible rfl) ?_)
    refine ret2k (t := 4) (u := 5) rfl rfl ?_ ?_
    · simp only [EV, lget, ↓reduceIte, Nat.reduceEqDiff, decide_true, decide_false, eq_self, and_true, true_and, and_self]
    · simp only [EV, lget, ↓reduceIte, Nat.reduceEqDiff, decide_true, decide_false, eq_self, and_true, true_and, and_self]
  · rw [List.getElem?_set_ne (Ne.symm h2), a3.2 q h1, List.getElem?_set_ne (Ne.symm h2)]
/-! ### Backward, and Key -/
theorem box24 (S : Store) (w : V) (hs : solid w = true) (hv : vcells w = [w]) : opBox S 24 w = some (.ref S.length 0, S ++ [.cells [w] 24]) := by
  unfold opBox
  rw [if_pos hs, hv]
theorem Backward_ok {w : V} (hw : w = .slN ∨ ∃ n cs, w = .slI n cs) (S : Store) : vrun E0 (.fn 40) [w] S = some (.fn (.func 55) [] [.imm [w]], S) := by
  refine fn_ws Tryd.func40 rfl ?_
  have hb : opBox S 24 w = some (.ref S.length 0, S ++ [.cells [w] 24]) := by
    rcases hw with rfl | ⟨n, cs, rfl⟩ <;> exact box24 S _ rfl rfl
  have hf : frz 6 S.length (S ++ [Ob.cells [w] 24]) (.fn (.func 55) [] [.ref S.length 0]) = some (.fn (.func 55) [] [.imm [w]]) := by
    have h1 : cellsOf (S ++ [Ob.cells [w] 24]) S.length = some [w] := cellsOf_of (getS0 _)
    have h2 : frzIn 12 S.length (S ++ [Ob.cells [w] 24]) (.ref S.length 0) = some (.imm [w]) := by
      show (if S.length < S.length then none else (cellsOf (S ++ [Ob.cells [w] 24]) S.length).bind fun cs => ((cs.drop 0).mapM (frzIn 11 S.length (S ++ [Ob.cells [w] 24]))).bind fun cs => some (V.imm cs)) = _
      rw [if_neg (by omega), h1, Option.bind_some, List.drop_zero]
      rcases hw with rfl | ⟨n, cs, rfl⟩ <;> rfl
    have h3 : frz 5 S.length (S ++ [Ob.cells [w] 24]) (.ref S.length 0) = some (.imm [w]) := by
      show (if S.length < S.length then some _ else frzIn 12 S.length (S ++ [Ob.cells [w] 24]) (.ref S.length 0)) = _
      rw [if_neg (by omega), h2]
    show (([] : List V).mapM (frz 5 S.length (S ++ [Ob.cells [w] 24]))).bind (fun a => ([V.ref S.length 0].mapM (frz 5 S.length (S ++ [Ob.cells [w] 24]))).bind fun b => some (V.fn (.func 55) a b)) = _
    rw [List.mapM_cons, h3]
    rfl
  repeat (first | refine WS.seq ?_ | refine WS.skip ?_ | refine WS.label ?_ | refine WS.block ?_ | refine WS.inBlock ?_ | refine WS.exit rfl ?_ | refine WS.scope ?_ | refine WS.inScope ?_ | refine WS.region (by simp only [EV, TY, lget, hb, ↓reduceIte, Nat.reduceEqDiff, decide_true, decide_false, eq_self]; with_reducible rfl) ?_)
  refine WS.ret1 (t := 2) rfl rfl ?_ (List.prefix_append _ _) hf
  simp only [EV, ↓reduceIte, Nat.reduceEqDiff, decide_true, decide_false, eq_self, and_true, true_and, and_self]
def keyT (m : List (List Ava)) : List UInt8 := m.reverse.flatMap fun r => stepS r ++ [0]
def keyS (n : List (List Ava)) : List UInt8 := keyT (normN n)
noncomputable def ranges21 : List (Nat × (Nat × Array Tmp × Code × Code)) := rangesIn 16 (Tryd.f21.body.getD .skip)
noncomputable def asg4 : Code := match ranges21 with | [(_, _, _, a, _)] => a | _ => .skip
noncomputable def body4 : Code := match ranges21 with | [(_, _, _, _, b)] => b | _ => .skip
theorem loop4 : E0.loops 4 = some (16, #[9, 10], asg4, body4) := by kernel_rfl
theorem callV_yld (c : CallT) (id : Nat) (args : List V) (S : Store) : callV E0 c (.yld id) args S = c (.yl id) args S := rfl
theorem BldN.set {T : Store} {id n L : Nat} {bs : List UInt8} (h : BldN T id n bs) (hL : L < n) (hne : L ≠ id) (o : Ob) : BldN (T.set L o) id n bs := by
  obtain ⟨a, b, h1, h2, h3, h4⟩ := h
  exact ⟨a, b, by rw [List.getElem?_set_ne hne]; exact h1, h2, Buf_set (E := E0) h3 hL o, h4⟩
theorem zero_str : ∀ l : List UInt8, l.length + [(0 : UInt8)].length ≤ 9223372036854775807 → ∀ S t, opBin E0 S .add t (.str l) (.str [0]) = some (.str (l ++ [0])) := fun l h S t => bin_sadd _ _ _ _ h
/-- A round of Key's loop: the step's text, and a byte 0. -/
theorem round_ok {T : Store} {id n L : Nat} {bs : List UInt8} {fr : Fr} {r : List Ava} {c : V} {i : Int} (hL : T[L]? = some (.lp false 4 fr)) (hf : lget fr 3 = .ref id 0) (h : BldN T id n bs) (hid : id < n) (hLn : L < n) (hne : L ≠ id) (hn : n ≤ T.length)
    (hc : ∀ S, isRdn S c r) (o : okR r) (h4 : r.length ≤ 4) (hs : (stepS r).length + 1 ≤ 140737488355328) (hl : bs.length + (stepS r).length + 1 ≤ 140737488355328) :
    ∃ T', vrun E0 (.yl L) [.int .i64 i, c] T = some (.bool true, T') ∧ BldN T' id n (bs ++ (stepS r ++ [0])) ∧ T'[L]? = some (.lp false 4 fr) ∧ n ≤ T'.length ∧ ∀ q, q < n → q ≠ id → T'[q]? = T[q]? := by
  have b1 : BldN (T.set L (.lp true 4 fr)) id n bs := h.set hLn hne _
  obtain ⟨T2, w1, w2, w3⟩ := WriteStringN_ok b1 hid (by simpa using hn) (stepS r ++ [0]) (by simp; omega)
  have st := step_ok (hc (T.set L (.lp true 4 fr))) o h4
  have hlt := lt_of_get hL
  have g2 : T2[L]? = some (.lp true 4 fr) := w3.get hLn hne (by simp [hlt])
  have hz := zero_str (stepS r) (by simp; omega)
  refine ⟨T2.set L (.lp false 4 fr), ?_, w2.set hLn hne _, by rw [List.getElem?_set_self (lt_of_get g2)], by rw [List.length_set]; exact w3.1, fun q h1 h2 => ?_⟩
  · refine vrun_yl hL loop4 rfl ?_
    simp only [asg4, body4, ranges21, Tryd.f21, rangesIn, Option.getD_some, List.nil_append, List.append_nil]
    refine W.of_ws ?_
    simp only [putAll]
    repeat (first | refine WS.seq ?_ | refine WS.skip ?_ | refine WS.label ?_ | refine WS.block ?_ | refine WS.inBlock ?_ | refine WS.exit rfl ?_ | refine WS.scope ?_ | refine WS.inScope ?_ | refine WS.region (by simp only [EV, TY, lget, ↓reduceIte, Nat.reduceEqDiff, decide_true, decide_false, eq_self]; with_reducible rfl) ?_)
    refine WS.done ⟨rfl, 4, fr, hL, ?_⟩
    refine W.of_ws ?_
    repeat (first | refine WS.seq ?_ | refine WS.skip ?_ | refine WS.label ?_ | refine WS.block ?_ | refine WS.inBlock ?_ | refine WS.exit rfl ?_ | refine WS.scope ?_ | refine WS.inScope ?_ | refine WS.region (by simp only [EV, TY, lget, hf, callV_38, st, hz, callV_41, w1, ↓reduceIte, Nat.reduceEqDiff, decide_true, decide_false, eq_self]; with_reducible rfl) ?_)
    exact WS.done ⟨rfl, 4, fr, g2, rfl⟩
  · by_cases hq : q = L
    · subst hq; rw [List.getElem?_set_self (lt_of_get g2), hL]
    · rw [List.getElem?_set_ne (Ne.symm hq), w3.2 q h1 h2, List.getElem?_set_ne (Ne.symm hq)]
theorem done_at {v : V} {n : List (List Ava)} (h : ∀ S, isDn S v n) (i : Nat) (hi : i < n.length) : ∃ a c, opIndexAddr E0 24 v (.int .i64 (i : Int)) = some a ∧ (∀ S, opLoad E0 S 38 a = some c) ∧ ∀ S, isRdn S c (n.getD i []) := by
  obtain ⟨cs, rfl, hl, hc⟩ := done_cells h (fun e => by subst e; simp at hi)
  obtain ⟨c, c1, c2⟩ := hc i hi
  have hlt := (List.getElem?_eq_some_iff.1 c1).1
  have e : cs.drop (i * 1) = c :: cs.drop (i + 1) := by rw [Nat.mul_one, List.drop_eq_getElem_cons hlt, (List.getElem?_eq_some_iff.1 c1).2]
  have ha := ia_slI (E := E0) Tryd.underlying24 tsize_38 n.length cs .i64 i hi
  rw [e] at ha
  exact ⟨_, c, ha, fun S => ld_imm isAggO_38 _ _, c2⟩
theorem keyT_step (m : List (List Ava)) (i : Nat) (hi : i < m.length) : keyT (m.drop i) = keyT (m.drop (i + 1)) ++ (stepS (m.getD i []) ++ [0]) := by
  have e : m.drop i = m.getD i [] :: m.drop (i + 1) := by rw [List.drop_eq_getElem_cons hi]; simp [List.getD, hi]
  rw [e]
  simp [keyT]
theorem keyT_len (c : Nat) : ∀ (m : List (List Ava)), (∀ r ∈ m, (stepS r).length ≤ c) → (keyT m).length ≤ m.length * (c + 1)
  | [], _ => by simp [keyT]
  | r :: m, h => by
    have ih := keyT_len c m (fun r hr => h r (by simp [hr]))
    have h1 := h r (by simp)
    have e : keyT (r :: m) = keyT m ++ (stepS r ++ [0]) := by simp [keyT]
    rw [e]
    simp only [List.length_append, List.length_cons, List.length_nil, Nat.succ_mul]
    omega
theorem ge0 (i : Nat) : decide ((0 : Int) ≤ (i : Int)) = true := by simp
/-- The function that Backward gives: the round, from behind. -/
theorem back_ok {id n L : Nat} {fr : Fr} {w : V} {m : List (List Ava)} {T : Store} (hw : ∀ S, isDn S w m) (hL : T[L]? = some (.lp false 4 fr)) (hf : lget fr 3 = .ref id 0) (hb : BldN T id n []) (hid : id < n) (hLn : L < n) (hne : L ≠ id) (hn : n ≤ T.length)
    (om : ∀ r ∈ m, okR r) (h4 : ∀ r ∈ m, r.length ≤ 4) (hm : m.length ≤ 16) (hs : ∀ r ∈ m, (stepS r).length ≤ 33554432) :
    ∃ T', vrun E0 (.fn 55) [.yld L, .imm [w]] T = some (.tup [], T') ∧ BldN T' id n (keyT m) ∧ T'[L]? = some (.lp false 4 fr) ∧ n ≤ T'.length ∧ ∀ q, q < n → q ≠ id → T'[q]? = T[q]? := by
  suffices h : ∃ r, (∃ T', r = (.tup [], T') ∧ BldN T' id n (keyT m) ∧ T'[L]? = some (.lp false 4 fr) ∧ n ≤ T'.length ∧ ∀ q, q < n → q ≠ id → T'[q]? = T[q]?) ∧ vrun E0 (.fn 55) [.yld L, .imm [w]] T = some r by
    obtain ⟨r, ⟨T', rfl, h2⟩, h3⟩ := h
    exact ⟨T', h3, h2⟩
  refine fn_wsP Tryd.func55 rfl ?_
  have l0 : opLoad E0 T 24 (.imm [w]) = some w := ld_imm isAggO_24 _ _
  have ln := (hw T).len
  have w0 : IntKind.i64.wrap ((m.length : Int) - 1) = (m.length : Int) - 1 := wrap_full (by omega) (by omega)
  repeat (first | refine WS.seq ?_ | refine WS.skip ?_ | refine WS.label ?_ | refine WS.block ?_ | refine WS.inBlock ?_ | refine WS.exit rfl ?_ | refine WS.scope ?_ | refine WS.inScope ?_ | refine WS.region (by simp only [EV, TY, lget, l0, ln, w0, ↓reduceIte, Nat.reduceEqDiff, decide_true, decide_false, eq_self]; with_reducible rfl) ?_)
  refine WS.loopB (fun j fx U => ∃ i, j = i ∧ i ≤ m.length ∧ lget fx 0 = .yld L ∧ lget fx 1 = .imm [w] ∧ lget fx 3 = .int .i64 ((i : Int) - 1) ∧ BldN U id n (keyT (m.drop i)) ∧ U[L]? = some (.lp false 4 fr) ∧ n ≤ U.length ∧ ∀ q, q < n → q ≠ id → U[q]? = T[q]?)
    (fun fx U => BldN U id n (keyT m) ∧ U[L]? = some (.lp false 4 fr) ∧ n ≤ U.length ∧ ∀ q, q < n → q ≠ id → U[q]? = T[q]?) (j := m.length) ?_ ?_ ?_
  · refine ⟨m.length, rfl, Nat.le_refl _, ?_, ?_, ?_, ?_, hL, hn, fun _ _ _ => rfl⟩
    · simp only [EV, lget, ↓reduceIte, Nat.reduceEqDiff, decide_true, decide_false, eq_self, and_true, true_and, and_self]
    · simp only [EV, lget, ↓reduceIte, Nat.reduceEqDiff, decide_true, decide_false, eq_self, and_true, true_and, and_self]
    · simp only [EV, lget, ↓reduceIte, Nat.reduceEqDiff, decide_true, decide_false, eq_self, and_true, true_and, and_self]
    · rw [List.drop_length]; exact hb
  · rintro fx U ⟨p1, p2, p3, p4⟩
    exact WS.done ⟨_, ⟨U, rfl, p1, p2, p3, p4⟩, .inl rfl, [], rfl, rfl⟩
  · rintro i fx U ⟨j, rfl, hi, q0, q1, q3, p1, p2, p3, p4⟩ again leave
    cases i with
    | zero =>
      have hlt : ¬ (0 : Int) ≤ ((0 : Nat) : Int) - 1 := by omega
      repeat (first | refine WS.seq ?_ | refine WS.skip ?_ | refine WS.label ?_ | refine WS.block ?_ | refine WS.inBlock ?_ | refine WS.exit rfl ?_ | refine WS.scope ?_ | refine WS.inScope ?_ | refine WS.region (by simp only [EV, TY, q3, hlt, ↓reduceIte, Nat.reduceEqDiff, decide_true, decide_false, eq_self]; with_reducible rfl) ?_)
      refine WS.cond_false (by simp only [EV, ↓reduceIte, Nat.reduceEqDiff, decide_true, decide_false, eq_self]) ?_
      refine WS.exit rfl ?_
      exact leave _ _ ⟨p1, p2, p3, p4⟩
    | succ i =>
      have e1 : (((i + 1 : Nat) : Int) - 1) = (i : Int) := by omega
      rw [e1] at q3
      have hge : (0 : Int) ≤ (i : Int) := by omega
      have hi : i < m.length := hi
      obtain ⟨a, c, i1, i2, i3⟩ := done_at hw i hi
      have hr : m.getD i [] ∈ m := by
        rw [show m.getD i [] = m[i] by simp [List.getD, hi]]; exact List.getElem_mem _
      have hstep := keyT_step m i hi
      have hkl : (keyT (m.drop (i + 1))).length ≤ (m.drop (i + 1)).length * (33554432 + 1) := keyT_len 33554432 _ (fun r hr => hs r (List.mem_of_mem_drop hr))
      rw [List.length_drop] at hkl
      have hkl2 : (m.length - (i + 1)) * (33554432 + 1) ≤ 16 * 33554433 := Nat.mul_le_mul (by omega) (by omega)
      have hsl := hs _ hr
      obtain ⟨U2, r1, r2, r3, r4, r5⟩ := round_ok (i := (i : Int)) p2 hf p1 hid hLn hne p3 i3 (om _ hr) (h4 _ hr) (by omega) (by omega)
      rw [← hstep] at r2
      have l1 : opLoad E0 U 24 (.imm [w]) = some w := ld_imm isAggO_24 _ _
      have l2 := i2 U
      have w1 : IntKind.i64.wrap ((i : Int) - 1) = (i : Int) - 1 := wrap_full (by omega) (by omega)
      repeat (first | refine WS.seq ?_ | refine WS.skip ?_ | refine WS.label ?_ | refine WS.block ?_ | refine WS.inBlock ?_ | refine WS.exit rfl ?_ | refine WS.scope ?_ | refine WS.inScope ?_ | refine WS.region (by simp only [EV, TY, q3, hge, ↓reduceIte, Nat.reduceEqDiff, decide_true, decide_false, eq_self]; with_reducible rfl) ?_)
      refine WS.cond_true (by simp only [EV, ↓reduceIte, Nat.reduceEqDiff, decide_true, decide_false, eq_self]) ?_
      repeat (first | refine WS.seq ?_ | refine WS.skip ?_ | refine WS.label ?_ | refine WS.block ?_ | refine WS.inBlock ?_ | refine WS.exit rfl ?_ | refine WS.scope ?_ | refine WS.inScope ?_ | refine WS.region (by simp only [EV, TY, q0, q1, q3, l1, i1, l2, callV_yld, r1, Bool.not_true, ↓reduceIte, Nat.reduceEqDiff, decide_true, decide_false, eq_self]; with_reducible rfl) ?_)
      refine WS.cond_false (by simp only [EV, ↓reduceIte, Nat.reduceEqDiff, decide_true, decide_false, eq_self]) ?_
      repeat (first | refine WS.seq ?_ | refine WS.skip ?_ | refine WS.label ?_ | refine WS.block ?_ | refine WS.inBlock ?_ | refine WS.exit rfl ?_ | refine WS.scope ?_ | refine WS.inScope ?_ | refine WS.region (by simp only [EV, TY, q3, w1, ↓reduceIte, Nat.reduceEqDiff, decide_true, decide_false, eq_self]; with_reducible rfl) ?_)
      refine again i _ _ (by omega) ⟨i, rfl, by omega, ?_, ?_, ?_, r2, r3, r4, fun q h1 h2 => (r5 q h1 h2).trans (p4 q h1 h2)⟩
      · simp only [EV, q0, ↓reduceIte, Nat.reduceEqDiff, decide_true, decide_false, eq_self, and_true, true_and, and_self]
      · simp only [EV, q1, ↓reduceIte, Nat.reduceEqDiff, decide_true, decide_false, eq_self, and_true, true_and, and_self]
      · simp only [EV, ↓reduceIte, Nat.reduceEqDiff, decide_true, decide_false, eq_self, and_true, true_and, and_self]
theorem done_kind {v : V} {n : List (List Ava)} (h : ∀ S, isDn S v n) : v = .slN ∨ ∃ k cs, v = .slI k cs := by
  obtain ⟨cs, ⟨_, h2⟩, _⟩ := h []
  rcases h2 with ⟨rfl, _⟩ | rfl | ⟨id, off, cap, cs, e, rfl, _, h3, _⟩
  · exact .inl rfl
  · exact .inr ⟨_, _, rfl⟩
  · simp at h3
theorem normR_len (r : List Ava) : (normR r).length = r.length := by simp [normR, srt_len]
theorem rf55 {id : Nat} {T0 : Store} {w : V} {m : List (List Ava)} {fr : Fr} {k : List Todo} {Q : Ex → Fr → Store → Prop} {ps : Array Tmp} {asg body : Code} (hk : Vm.keyOf body = 4) (hg : lget fr 8 = .fn (.func 55) [] [.imm [w]]) (hf : lget fr 3 = .ref id 0) (hw : ∀ S, isDn S w m)
    (hb : BldN (T0 ++ [.lp false 4 fr]) id (T0.length + 1) []) (hid : id < T0.length) (om : ∀ r ∈ m, okR r) (h4 : ∀ r ∈ m, r.length ≤ 4) (hm : m.length ≤ 16) (hs : ∀ r ∈ m, (stepS r).length ≤ 33554432)
    (h : ∀ T', Bld T' id (keyT m) → Low id T0 T' → WS E0 k fr T' Q) : WS E0 (.code (.rangeFunc (.tmp 8) ps asg body) :: k) fr T0 Q := by
  obtain ⟨T', b1, b2, b3, b4, b5⟩ := back_ok (id := id) (n := T0.length + 1) (L := T0.length) (fr := fr) hw (getS0 _) hf hb (by omega) (by omega) (by omega) (by simp) om h4 hm hs
  refine WS.rangeFunc (f := 55) (fn := Tryd.f55) (first := []) (captured := [.imm [w]]) hg Tryd.func55 rfl (by rw [hk]; exact b1) b3 (h _ ((b2.set (by omega) (by omega) _).bld (by omega)) ⟨by rw [List.length_set]; omega, fun q hq => ?_⟩)
  rw [List.getElem?_set_ne (by omega), b5 q (by omega) (by omega), List.getElem?_append_left (by omega)]
theorem keyT_bound {m : List (List Ava)} (hm : m.length ≤ 16) (hs : ∀ r ∈ m, (stepS r).length ≤ 33554432) : (keyT m).length ≤ 140737488355328 := by
  have h1 := keyT_len 33554432 m hs
  have h2 : m.length * (33554432 + 1) ≤ 16 * 33554433 := Nat.mul_le_mul hm (by omega)
  omega
theorem Key_ok {S : Store} {v : V} {n : List (List Ava)} (hn : isDn S v n) (on : okN n) (sh : shapedP n) : vrun E0 (.fn 21) [v] S = some (.str (keyS n), S) := by
  refine fn_ws Tryd.func21 rfl ?_
  have al := alloc_60 S
  obtain ⟨w, nw, dw⟩ := Norm_ok (hn.more [.cells [.nilp, .slN] 60]) on (sorts_all on)
  have bw := Backward_ok (done_kind dw) (S ++ [.cells [.nilp, .slN] 60])
  have omN := normN_ok on
  have h4 : ∀ r ∈ normN n, r.length ≤ 4 := fun r hr => by
    obtain ⟨r0, hr0, rfl⟩ := List.mem_map.1 hr
    obtain ⟨i, hi, rfl⟩ := List.getElem_of_mem hr0
    have := (sh.2 i hi).2.1
    rw [normR_len]
    simpa [List.getD, hi] using this
  have hm : (normN n).length ≤ 16 := by rw [normN_len]; exact sh.1
  have hs : ∀ r ∈ normN n, (stepS r).length ≤ 33554432 := fun r hr => Nat.le_trans (stepS_len (omN.2 r hr).2 (h4 r hr)) (by omega)
  have hlen : (S ++ [Ob.cells [.nilp, .slN] 60]).length = S.length + 1 := by simp
  repeat (first | refine WS.seq ?_ | refine WS.skip ?_ | refine WS.label ?_ | refine WS.block ?_ | refine WS.inBlock ?_ | refine WS.exit rfl ?_ | refine WS.scope ?_ | refine WS.inScope ?_ | refine WS.region (by simp only [EV, TY, lget, al, callV_18, nw, callV_40, bw, ↓reduceIte, Nat.reduceEqDiff, decide_true, decide_false, eq_self]; with_reducible rfl) ?_)
  refine rf55 (id := S.length) (w := w) (m := normN n) rfl ?_ ?_ dw ?_ (by omega) (fun r hr => omN.2 r hr) h4 hm hs fun T' hB hlow => ?_
  · simp only [EV, lget, ↓reduceIte, Nat.reduceEqDiff, decide_true, decide_false, eq_self, and_true, true_and, and_self]
  · simp only [EV, lget, ↓reduceIte, Nat.reduceEqDiff, decide_true, decide_false, eq_self, and_true, true_and, and_self]
  · exact ⟨.nilp, .slN, by rw [List.append_assoc]; exact getS0 _, .inl rfl, .inl ⟨rfl, rfl⟩, fun _ i o l c z h => by cases h⟩
  · obtain ⟨T2, s1, s2⟩ := String_ok hB (keyT_bound hm hs)
    have hpre : S <+: T2 := ((Low.app (Nat.le_refl _) _).trans (hlow.trans s2)).pre
    repeat (first | refine WS.seq ?_ | refine WS.skip ?_ | refine WS.label ?_ | refine WS.block ?_ | refine WS.inBlock ?_ | refine WS.exit rfl ?_ | refine WS.scope ?_ | refine WS.inScope ?_ | refine WS.region (by simp only [EV, TY, lget, callV_42, s1, ↓reduceIte, Nat.reduceEqDiff, decide_true, decide_false, eq_self]; with_reducible rfl) ?_)
    refine WS.ret1s (t := 2) rfl rfl hpre (frz_str _ _ _) ?_
    simp only [EV, lget, ↓reduceIte, Nat.reduceEqDiff, decide_true, decide_false, eq_self, and_true, true_and, and_self]
    rfl
end Go.Proofs.YtjcckafjopjdbaaDoor
