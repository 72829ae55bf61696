import Derived.Test.YtmmjlgocihhkcaaGreatDoorVmD
set_option linter.all false
set_option autoImplicit false
namespace Go.Vm
variable {E : Env} {S S' : Store} {m : M} {call : Tg → List V → Store → Option (V × Store)}
theorem mapM_VRL {f : V → Option V} {m2 : M} : ∀ {cs cs' : List V} {us : List Value}, cs.mapM f = some cs' → VRL m cs us → (∀ c c' u, f c = some c' → VR m c u → VR m2 c' u) → VRL m2 cs' us
 | [], cs', us, h, hr, _ => by
  simp at h
  subst h
  simp only [VRL] at hr
  subst hr
  exact .nil
 | c :: cs, cs', us, h, hr, hf => by
  simp only [List.mapM_cons, Option.bind_eq_bind, Option.bind_eq_some_iff, Option.pure_def, Option.some.injEq] at h
  obtain ⟨c1, h1, cs1, h2, rfl⟩ := h
  simp only [VRL] at hr
  obtain ⟨u, us, rfl, h3, h4⟩ := hr
  exact .cons (hf _ _ _ h1 h3) (mapM_VRL h2 h4 hf)
def M.cut (m : M) (n : Nat) (S : Store) : M :=
 { phi := fun id => if id < n then m.phi id else none, I := fun B => m.I B ∨ ∃ (id x : Nat) (ob : Ob), n ≤ id ∧ S[id]? = some ob ∧ ob ≠ .gone ∧ m.phi id = some (B, x), w := m.w }
mutual
theorem noRef_cut {n : Nat} {S : Store} : ∀ (v : V) (u : Value), V.noRef v = true → VR m v u → VR (m.cut n S) v u
 | .junk, _, _, _ => by simp [VR]
 | .bool _, _, _, hv => by simpa [VR] using hv
 | .int _ _, _, _, hv => by simpa [VR] using hv
 | .str _, _, _, hv => by simpa [VR] using hv
 | .nilp, _, _, hv => by simpa [VR] using hv
 | .ref _ _, _, h, _ => by simp [V.noRef] at h
 | .imm cs, u, _, hv => by
  simp only [VR] at hv ⊢
  obtain ⟨B, o, us, rfl, hI, hc, hl, hr, hnr⟩ := hv
  exact ⟨B, o, us, rfl, .inl hI, hc, hl, noRefL_cut cs us hnr hr, hnr⟩
 | .slN, _, _, hv => by simpa [VR] using hv
 | .slI k cs, u, _, hv => by
  simp only [VR] at hv ⊢
  obtain ⟨A, c, us, rfl, hn, hl, hr, hc, hnr⟩ := hv
  refine ⟨A, c, us, rfl, hn, hl, noRefL_cut cs us hnr hr, ?_, hnr⟩
  rcases hc with hc | ⟨B, o, rfl, hI, hc⟩
  ·exact .inl hc
  ·exact .inr ⟨B, o, rfl, .inl hI, hc⟩
 | .slR _ _ _ _ _, _, h, _ => by simp [V.noRef] at h
 | .fn f a b, u, h, hv => by
  simp only [V.noRef, Bool.and_eq_true] at h
  simp only [VR] at hv ⊢
  obtain ⟨x, y, rfl, h1, h2⟩ := hv
  exact ⟨x, y, rfl, noRefL_cut a _ h.1 h1, noRefL_cut b _ h.2 h2⟩
 | .nilf, _, _, hv => by simpa [VR] using hv
 | .ifc t v, u, h, hv => by
  simp only [V.noRef] at h
  simp only [VR] at hv ⊢
  obtain ⟨x, rfl, h1⟩ := hv
  exact ⟨x, rfl, noRef_cut v _ h h1⟩
 | .nili, _, _, hv => by simpa [VR] using hv
 | .agg cs, u, h, hv => by
  simp only [V.noRef] at h
  simp only [VR] at hv ⊢
  obtain ⟨us, rfl, h1, h2⟩ := hv
  exact ⟨us, rfl, h1, noRefL_cut cs _ h h2⟩
 | .tup cs, u, h, hv => by
  simp only [V.noRef] at h
  simp only [VR] at hv ⊢
  obtain ⟨us, rfl, h2⟩ := hv
  exact ⟨us, rfl, noRefL_cut cs _ h h2⟩
 | .mapN, _, _, hv => by simpa [VR] using hv
 | .mapR _, _, h, _ => by simp [V.noRef] at h
 | .it _, _, h, _ => by simp [V.noRef] at h
 | .yld _, _, h, _ => by simp [V.noRef] at h
theorem noRefL_cut {n : Nat} {S : Store} : ∀ (vs : List V) (us : List Value), V.noRefL vs = true → VRL m vs us → VRL (m.cut n S) vs us
 | [], _, _, hv => by simpa [VRL] using hv
 | c :: cs, _, h, hv => by
  simp only [V.noRefL, Bool.and_eq_true] at h
  simp only [VRL] at hv ⊢
  obtain ⟨u, r, rfl, h1, h2⟩ := hv
  exact ⟨u, r, rfl, noRef_cut c u h.1 h1, noRefL_cut cs r h.2 h2⟩
end
theorem noRef_imm (hi : Inv E S m) {cs : List V} {u : Value} (h : VR m (.imm cs) u) : V.noRefL cs = true := by
 simp only [VR] at h
 obtain ⟨_, _, _, _, _, _, _, _, h⟩ := h
 exact h
theorem frzIn_sound (hi : Inv E S m) {n : Nat} : ∀ (d : Nat) {v v' : V} {u : Value}, frzIn d n S v = some v' → VR m v u → VR (m.cut n S) v' u ∧ V.noRef v' = true := by
 intro d
 induction d with
 | zero => intro v v' u h; simp [frzIn] at h
 | succ d ih =>
  intro v v' u h hv
  have all : ∀ {cs cs' : List V} {us : List Value}, cs.mapM (frzIn d n S) = some cs' → VRL m cs us → VRL (m.cut n S) cs' us := fun h1 h2 => mapM_VRL h1 h2 (fun _ _ _ h3 h4 => (ih h3 h4).1)
  have alln : ∀ {cs cs' : List V} {us : List Value}, cs.mapM (frzIn d n S) = some cs' → VRL m cs us → V.noRefL cs' = true := by
   intro cs
   induction cs with
   | nil => intro cs' us h1 _; simp at h1; subst h1; rfl
   | cons c cs ihc =>
    intro cs' us h1 h2
    simp only [List.mapM_cons, Option.bind_eq_bind, Option.bind_eq_some_iff, Option.pure_def, Option.some.injEq] at h1
    obtain ⟨c1, g1, cs1, g2, rfl⟩ := h1
    simp only [VRL] at h2
    obtain ⟨u, r, rfl, g3, g4⟩ := h2
    simp [V.noRefL, (ih g1 g3).2, ihc g2 g4]
  rw [frzIn.eq_def] at h
  simp only at h
  split at h
  ·rename_i id off len cap sz
   simp only [VR] at hv
   obtain ⟨R, b, c, o, e, k, hp, rfl, h1, h2, h3, h4, h5⟩ := hv
   split at h
   ·cases h
   ·rename_i hlt
    simp only [Option.bind_eq_bind, Option.bind_eq_some_iff] at h
    obtain ⟨cs, hcs, cs', hm, h⟩ := h
    cases h
    have hlive : ∃ ob, S[id]? = some ob ∧ ob ≠ .gone := by
     unfold cellsAt at hcs
     simp only [Option.bind_eq_bind, Option.bind_eq_some_iff] at hcs
     obtain ⟨cs0, hc0, _⟩ := hcs
     obtain ⟨e, hS⟩ := cellsOf_some hc0
     exact ⟨_, hS, by simp⟩
    obtain ⟨ob, hS, hg⟩ := hlive
    obtain ⟨B, o', us, he, hl, hl2, hr, hlf, hc⟩ := cellsAt_sound hi hcs (up := .pointer (some ⟨R, b + off, none⟩)) (by simp only [VR]; exact ⟨R, b, hp, rfl⟩)
    cases he
    refine ⟨?_, by simp only [V.noRef]; exact alln hm hr⟩
    simp only [VR]
    refine ⟨_, c, us, rfl, h2, hlf, all hm hr, ?_, alln hm hr⟩
    by_cases h0 : c = 0
    ·exact .inl ⟨by omega, rfl⟩
    ·exact .inr ⟨R, o, rfl, .inr ⟨id, b, ob, by omega, hS, hg, hp⟩, by rw [h3 h0]; exact hc⟩
  ·rename_i id off
   simp only [VR] at hv
   obtain ⟨R, b, hp, rfl⟩ := hv
   split at h
   ·cases h
   ·rename_i hlt
    simp only [Option.bind_eq_bind, Option.bind_eq_some_iff] at h
    obtain ⟨cs, hcs, cs', hm, h⟩ := h
    cases h
    obtain ⟨e, hS⟩ := cellsOf_some hcs
    obtain ⟨hI, us, fz, vs, h1, h2, h3, h4, _⟩ := hi.block hS hp
    refine ⟨?_, by simp only [V.noRef]; exact alln hm (h2.drop off)⟩
    simp only [VR]
    refine ⟨R, b + off, vs.drop off, rfl, .inr ⟨id, b, _, by omega, hS, by simp, hp⟩, fun j u hj => ?_, fun u hu => h3 u (List.mem_of_mem_drop hu), all hm (h2.drop off), alln hm (h2.drop off)⟩
    rw [List.getElem?_drop] at hj
    show m.w.cell? _ = _
    rw [cell_of h1, show b + off + j = b + (off + j) by omega]
    exact h4 _ _ hj
  ·obtain ⟨cs', hx, h⟩ := Option.map_eq_some_iff.1 h
   cases h
   simp only [VR] at hv
   obtain ⟨us, rfl, h1, h2⟩ := hv
   refine ⟨?_, by simp only [V.noRef]; exact alln hx h2⟩
   simp only [VR]
   exact ⟨us, rfl, h1, all hx h2⟩
  ·obtain ⟨cs', hx, h⟩ := Option.map_eq_some_iff.1 h
   cases h
   simp only [VR] at hv
   obtain ⟨us, rfl, h2⟩ := hv
   refine ⟨?_, by simp only [V.noRef]; exact alln hx h2⟩
   simp only [VR]
   exact ⟨us, rfl, all hx h2⟩
  ·simp only [Option.bind_eq_bind, Option.bind_eq_some_iff] at h
   obtain ⟨x', hx, y', hy, h⟩ := h
   cases h
   simp only [VR] at hv
   obtain ⟨ux, uy, rfl, h1, h2⟩ := hv
   refine ⟨?_, by simp only [V.noRef, alln hx h1, alln hy h2, Bool.and_self]⟩
   simp only [VR]
   exact ⟨ux, uy, rfl, all hx h1, all hy h2⟩
  ·obtain ⟨x', hx, h⟩ := Option.map_eq_some_iff.1 h
   cases h
   simp only [VR] at hv
   obtain ⟨u, rfl, h1⟩ := hv
   refine ⟨?_, by simp only [V.noRef]; exact (ih hx h1).2⟩
   simp only [VR]
   exact ⟨u, rfl, (ih hx h1).1⟩
  ·cases h
  ·cases h
  ·cases h
  ·rename_i n1 n2 n3 n4 n5 n6 n7 n8 n9
   cases h
   have hno : V.noRef v = true := by
    cases v <;> first
     | rfl
     | (exact absurd rfl (n1 _ _ _ _ _))
     | (exact absurd rfl (n2 _ _))
     | (exact absurd rfl (n3 _))
     | (exact absurd rfl (n4 _))
     | (exact absurd rfl (n5 _ _ _))
     | (exact absurd rfl (n6 _ _))
     | (exact absurd rfl (n7 _))
     | (exact absurd rfl (n8 _))
     | (exact absurd rfl (n9 _))
     | skip
    ·simp only [V.noRef]
     exact noRef_imm hi hv
    ·simp only [V.noRef]
     simp only [VR] at hv
     obtain ⟨_, _, _, _, _, _, _, _, hnr⟩ := hv
     exact hnr
   exact ⟨noRef_cut v u hno hv, hno⟩
theorem frz_sound (hi : Inv E S m) {n : Nat} : ∀ (d : Nat) {v v' : V} {u : Value}, frz d n S v = some v' → VR m v u → VR (m.cut n S) v' u := by
 intro d
 induction d with
 | zero => intro v v' u h; simp [frz] at h
 | succ d ih =>
  intro v v' u h hv
  have all : ∀ {cs cs' : List V} {us : List Value}, cs.mapM (frz d n S) = some cs' → VRL m cs us → VRL (m.cut n S) cs' us := fun h1 h2 => mapM_VRL h1 h2 (fun _ _ _ h3 h4 => ih h3 h4)
  rw [frz.eq_def] at h
  simp only at h
  split at h
  ·rename_i id off len cap sz
   split at h
   ·rename_i hlt
    cases h
    simp only [VR] at hv ⊢
    obtain ⟨R, b, c, o, e, k, hp, rfl, h1, h2, h3, h4, h5⟩ := hv
    exact ⟨R, b, c, o, e, k, by simp only [M.cut, hlt, if_true]; exact hp, rfl, h1, h2, h3, h4, h5⟩
   ·exact (frzIn_sound hi 12 h hv).1
  ·rename_i id off
   split at h
   ·rename_i hlt
    cases h
    simp only [VR] at hv ⊢
    obtain ⟨R, b, hp, rfl⟩ := hv
    exact ⟨R, b, by simp only [M.cut, hlt, if_true]; exact hp, rfl⟩
   ·exact (frzIn_sound hi 12 h hv).1
  ·obtain ⟨cs', hx, h⟩ := Option.map_eq_some_iff.1 h
   cases h
   simp only [VR] at hv ⊢
   obtain ⟨us, rfl, h1, h2⟩ := hv
   exact ⟨us, rfl, h1, all hx h2⟩
  ·obtain ⟨cs', hx, h⟩ := Option.map_eq_some_iff.1 h
   cases h
   simp only [VR] at hv ⊢
   obtain ⟨us, rfl, h2⟩ := hv
   exact ⟨us, rfl, all hx h2⟩
  ·simp only [Option.bind_eq_bind, Option.bind_eq_some_iff] at h
   obtain ⟨x', hx, y', hy, h⟩ := h
   cases h
   simp only [VR] at hv ⊢
   obtain ⟨ux, uy, rfl, h1, h2⟩ := hv
   exact ⟨ux, uy, rfl, all hx h1, all hy h2⟩
  ·obtain ⟨x', hx, h⟩ := Option.map_eq_some_iff.1 h
   cases h
   simp only [VR] at hv ⊢
   obtain ⟨u, rfl, h1⟩ := hv
   exact ⟨u, rfl, ih hx h1⟩
  ·split at h
   ·rename_i hlt
    cases h
    simp only [VR] at hv ⊢
    obtain ⟨R, hp, rfl⟩ := hv
    exact ⟨R, by simp only [M.cut, hlt, if_true]; exact hp, rfl⟩
   ·cases h
  ·cases h
  ·cases h
  ·rename_i n1 n2 n3 n4 n5 n6 n7 n8 n9
   cases h
   have hno : V.noRef v = true := by
    cases v <;> first
     | rfl
     | (exact absurd rfl (n1 _ _ _ _ _))
     | (exact absurd rfl (n2 _ _))
     | (exact absurd rfl (n3 _))
     | (exact absurd rfl (n4 _))
     | (exact absurd rfl (n5 _ _ _))
     | (exact absurd rfl (n6 _ _))
     | (exact absurd rfl (n7 _))
     | (exact absurd rfl (n8 _))
     | (exact absurd rfl (n9 _))
     | skip
    ·simp only [V.noRef]
     exact noRef_imm hi hv
    ·simp only [V.noRef]
     simp only [VR] at hv
     obtain ⟨_, _, _, _, _, _, _, _, hnr⟩ := hv
     exact hnr
   exact noRef_cut v u hno hv
end Go.Vm
set_option autoImplicit false
namespace Go.Vm
variable {E : Env} {S S' : Store} {m : M}
structure Aft (m m' : M) : Prop where
 phi : ∀ id x, m.phi id = some x → m'.phi id = some x
 I : ∀ b, m.I b → m'.I b
 cell : ∀ (b o : Nat) (u : Value), m.w.cell? ⟨b, o, none⟩ = some u → m'.w.cell? ⟨b, o, none⟩ = some u
 shape : ∀ b s, m.w.shape? b = some s → m'.w.shape? b = some s
theorem CellsIn.aft {m m' : M} (h : Aft m m') {B o : Nat} {us : List Value} (hI : m.I B) (hc : CellsIn m.w B o us) : CellsIn m'.w B o us :=
 fun j u hj => h.cell _ _ _ (hc j u hj)
mutual
theorem VR.aft {m m' : M} (h : Aft m m') : ∀ (v : V) (u : Value), VR m v u → VR m' v u
 | .junk, _, _ => by simp [VR]
 | .bool _, _, hv => by simpa [VR] using hv
 | .int _ _, _, hv => by simpa [VR] using hv
 | .str _, _, hv => by simpa [VR] using hv
 | .nilp, _, hv => by simpa [VR] using hv
 | .ref id off, u, hv => by
  simp only [VR] at hv ⊢
  obtain ⟨R, b, hp, rfl⟩ := hv
  exact ⟨R, b, h.phi _ _ hp, rfl⟩
 | .imm cs, u, hv => by
  simp only [VR] at hv ⊢
  obtain ⟨B, o, us, rfl, hI, hc, hl, hr, hnr⟩ := hv
  exact ⟨B, o, us, rfl, h.I _ hI, hc.aft h hI, hl, VRL.aft h cs us hr, hnr⟩
 | .slN, _, hv => by simpa [VR] using hv
 | .slI n cs, u, hv => by
  simp only [VR] at hv ⊢
  obtain ⟨A, c, us, rfl, hn, hl, hr, hc, hnr⟩ := hv
  refine ⟨A, c, us, rfl, hn, hl, VRL.aft h cs us hr, ?_, hnr⟩
  rcases hc with hc | ⟨B, o, rfl, hI, hc⟩
  ·exact .inl hc
  ·exact .inr ⟨B, o, rfl, h.I _ hI, hc.aft h hI⟩
 | .slR id off len cap sz, u, hv => by
  simp only [VR] at hv ⊢
  obtain ⟨R, b, c, o, e, n, hp, rfl, h1, h2, h3, h4, h5⟩ := hv
  exact ⟨R, b, c, o, e, n, h.phi _ _ hp, rfl, h1, h2, h3, h.shape _ _ h4, h5⟩
 | .fn f a b, u, hv => by
  simp only [VR] at hv ⊢
  obtain ⟨x, y, rfl, h1, h2⟩ := hv
  exact ⟨x, y, rfl, VRL.aft h a _ h1, VRL.aft h b _ h2⟩
 | .nilf, _, hv => by simpa [VR] using hv
 | .ifc t v, u, hv => by
  simp only [VR] at hv ⊢
  obtain ⟨x, rfl, h1⟩ := hv
  exact ⟨x, rfl, VR.aft h v _ h1⟩
 | .nili, _, hv => by simpa [VR] using hv
 | .agg cs, u, hv => by
  simp only [VR] at hv ⊢
  obtain ⟨us, rfl, h1, h2⟩ := hv
  exact ⟨us, rfl, h1, VRL.aft h cs _ h2⟩
 | .tup cs, u, hv => by
  simp only [VR] at hv ⊢
  obtain ⟨us, rfl, h2⟩ := hv
  exact ⟨us, rfl, VRL.aft h cs _ h2⟩
 | .mapN, _, hv => by simpa [VR] using hv
 | .mapR id, u, hv => by
  simp only [VR] at hv ⊢
  obtain ⟨R, hp, rfl⟩ := hv
  exact ⟨R, h.phi _ _ hp, rfl⟩
 | .it id, u, hv => by
  simp only [VR] at hv ⊢
  obtain ⟨R, hp, rfl⟩ := hv
  exact ⟨R, h.phi _ _ hp, rfl⟩
 | .yld id, u, hv => by
  simp only [VR] at hv ⊢
  obtain ⟨R, hp, rfl⟩ := hv
  exact ⟨R, h.phi _ _ hp, rfl⟩
theorem VRL.aft {m m' : M} (h : Aft m m') : ∀ (vs : List V) (us : List Value), VRL m vs us → VRL m' vs us
 | [], _, hv => by simpa [VRL] using hv
 | c :: cs, _, hv => by
  simp only [VRL] at hv ⊢
  obtain ⟨u, r, rfl, h1, h2⟩ := hv
  exact ⟨u, r, rfl, VR.aft h c u h1, VRL.aft h cs r h2⟩
end
theorem VRM.aft {m m' : M} (h : Aft m m') : ∀ (vs : List (V × V)) (us : List MapEntry), VRM m vs us → VRM m' vs us
 | [], _, hv => hv
 | c :: cs, _, hv => by
  simp only [VRM] at hv ⊢
  obtain ⟨u, r, rfl, h1, h2, h3⟩ := hv
  exact ⟨u, r, rfl, VR.aft h _ _ h1, VR.aft h _ _ h2, VRM.aft h cs r h3⟩
theorem Live.aft {E : Env} {m m' : M} (h : Aft m m') {R b : Nat} (hb : m'.w.heap[R]? = m.w.heap[R]?) : ∀ (ob : Ob), Live E m R b ob → Live E m' R b ob
 | .gone, _ => trivial
 | .cells cs e, hl => by
  obtain ⟨us, fz, vs, h1, h2, h3, h4, h5, h6⟩ := hl
  exact ⟨us, fz, vs, hb.trans h1, h2.aft h, h3, h4, h5, h6⟩
 | .iter s pos, hl => ⟨hb.trans hl.1, hl.2⟩
 | .mp es, hl => by
  obtain ⟨mes, clock, h1, h2, h3⟩ := hl
  exact ⟨mes, clock, hb.trans h1, VRM.aft h _ _ h2, h3⟩
 | .lp busy key fr, hl => by
  obtain ⟨nt, ps, asg, body, fn, tmps, defers, h0, h1, h2, h3, h4⟩ := hl
  exact ⟨nt, ps, asg, body, fn, tmps, defers, h0, hb.trans h1, h2, fun i => (h3 i).aft h, h4⟩
theorem mark_taken (hi : Inv E S m) {r : Nat} (hI : m.I r) (ho : m.w.heap[r]? = some (.deferred (some []))) :
  (Instr.takeDeferred r).run E.P m.w = .ok [] { m.w with heap := m.w.heap.setIfInBounds r (.deferred none) } ∧
  Aft m { m with w := { m.w with heap := m.w.heap.setIfInBounds r (.deferred none) } } ∧ Inv E S { m with w := { m.w with heap := m.w.heap.setIfInBounds r (.deferred none) } } := by
 have hoth : ∀ b, b ≠ r → (m.w.heap.setIfInBounds r (.deferred none))[b]? = m.w.heap[b]? := fun b hb => by simp [Array.getElem?_setIfInBounds, Ne.symm hb]
 have ha : Aft m { m with w := { m.w with heap := m.w.heap.setIfInBounds r (.deferred none) } } := by
  refine ⟨fun _ _ h => h, fun _ h => h, fun b o u h => ?_, fun b s h => ?_⟩
  ·by_cases e : b = r
   ·subst e
    simp [World.cell?, ho] at h
   ·simpa [World.cell?, hoth b e] using h
  ·by_cases e : b = r
   ·subst e
    simp [World.shape?, ho] at h
   ·simpa [World.shape?, hoth b e] using h
 refine ⟨by simp [Instr.takeDeferred, getObj, setObj, Sem.run, ho, Result.andThen], ha, hi.dom, fun id ob h hg => ?_, hi.inj, fun b hb => by simpa using hi.bnd b hb, fun g cs hg => (hi.glob g cs hg).aft ha⟩
 obtain ⟨R, b, hp, hIR, hl⟩ := hi.live id ob h hg
 exact ⟨R, b, hp, hIR, hl.aft ha (hoth R (by rintro rfl; exact hIR hI)) ob⟩
theorem leaves_marks {F : Fence} {n base : Nat} {fn : Func} {tmps : Array Value} {R : Ending → World → Prop} {m0 : M} (h0 : Inv E S m0) (hb : m0.w.heap.size ≤ base) : ∀ {rs : List Nat} {m : M}, Mk base m rs → Ext m0 m → Inv E S' m →
  (∀ m2, Aft m m2 → Ext m0 m2 → Inv E S' m2 → LeavesIn F n E.P fn tmps R [] .returning m2.w) → LeavesInM F n E.P fn tmps R (marks rs) .returning m.w
 | [], m, _, hx, hi, K => K m ⟨fun _ _ h => h, fun _ h => h, fun _ _ _ h => h, fun _ _ h => h⟩ hx hi
 | r :: rs, m, hm, hx, hi, K => by
  have hI := hm.I r (by simp)
  obtain ⟨h1, h2, h3⟩ := mark_taken hi hI (hm.ob r (by simp))
  have hnd := List.nodup_cons.1 hm.nd
  have hge := hm.ge r (by simp)
  refine ⟨by simp, .inl ⟨r, _, rfl, h1, ?_⟩⟩
  refine leaves_marks h0 hb (m := { m with w := { m.w with heap := m.w.heap.setIfInBounds r (.deferred none) } }) ⟨hnd.2, fun x hr => hm.ge x (by simp [hr]), fun x hr => hm.I x (by simp [hr]), fun x hr => ?_⟩ ?_ h3 (fun m2 g1 g2 g3 => K m2 ?_ g2 g3)
  ·have hne : r ≠ x := by rintro rfl; exact hnd.1 hr
   simpa [Array.getElem?_setIfInBounds, hne] using hm.ob x (by simp [hr])
  ·refine ⟨hx.phi, hx.I, fun b hbI => ?_, fun b s hs => h2.shape _ _ (hx.shape b s hs), by simpa using hx.size, hx.os, hx.tape, hx.output⟩
   have hlt := h0.bnd b hbI
   have hne : r ≠ b := by omega
   simpa [Array.getElem?_setIfInBounds, hne] using hx.blk b hbI
  ·exact ⟨fun id x h => g1.phi id x (h2.phi id x h), fun b h => g1.I b (h2.I b h), fun b o u h => g1.cell _ _ _ (h2.cell _ _ _ h), fun b s h => g1.shape b s (h2.shape b s h)⟩
end Go.Vm
set_option autoImplicit false
namespace Go.Vm
variable {E : Env} {S S' : Store} {m : M} {call : Tg → List V → Store → Option (V × Store)}
section restrict
variable {m0 m2 : M} (hphi : ∀ id x, m0.phi id = some x → m2.phi id = m.phi id) (hI : ∀ B, m.I B → m2.I B) (hw : m2.w = m.w)
include hphi hI hw
mutual
theorem VR.restrict : ∀ (v : V) (u u0 : Value), VR m0 v u0 → VR m v u → VR m2 v u
 | .junk, _, _, _, _ => by simp [VR]
 | .bool _, _, _, _, hv => by simpa [VR] using hv
 | .int _ _, _, _, _, hv => by simpa [VR] using hv
 | .str _, _, _, _, hv => by simpa [VR] using hv
 | .nilp, _, _, _, hv => by simpa [VR] using hv
 | .ref id off, u, u0, h0, hv => by
  simp only [VR] at h0 hv ⊢
  obtain ⟨R0, b0, hp0, _⟩ := h0
  obtain ⟨R, b, hp, rfl⟩ := hv
  exact ⟨R, b, (hphi _ _ hp0).trans hp, rfl⟩
 | .imm cs, u, u0, h0, hv => by
  simp only [VR] at h0 hv ⊢
  obtain ⟨_, _, us0, _, _, _, _, hr0, _⟩ := h0
  obtain ⟨B, o, us, rfl, hI', hc, hl, hr, hnr⟩ := hv
  exact ⟨B, o, us, rfl, hI _ hI', by rw [hw]; exact hc, hl, VRL.restrict cs us us0 hr0 hr, hnr⟩
 | .slN, _, _, _, hv => by simpa [VR] using hv
 | .slI k cs, u, u0, h0, hv => by
  simp only [VR] at h0 hv ⊢
  obtain ⟨_, _, us0, _, _, _, hr0, _⟩ := h0
  obtain ⟨A, c, us, rfl, hn, hl, hr, hc, hnr⟩ := hv
  refine ⟨A, c, us, rfl, hn, hl, VRL.restrict cs us us0 hr0 hr, ?_, hnr⟩
  rcases hc with hc | ⟨B, o, rfl, hI', hc⟩
  ·exact .inl hc
  ·exact .inr ⟨B, o, rfl, hI _ hI', by rw [hw]; exact hc⟩
 | .slR id off len cap sz, u, u0, h0, hv => by
  simp only [VR] at h0 hv ⊢
  obtain ⟨_, _, _, _, _, _, hp0, _⟩ := h0
  obtain ⟨R, b, c, o, e, k, hp, rfl, h1, h2, h3, h4, h5⟩ := hv
  exact ⟨R, b, c, o, e, k, (hphi _ _ hp0).trans hp, rfl, h1, h2, h3, by rw [hw]; exact h4, h5⟩
 | .fn f a b, u, u0, h0, hv => by
  simp only [VR] at h0 hv ⊢
  obtain ⟨x0, y0, _, h3, h4⟩ := h0
  obtain ⟨x, y, rfl, h1, h2⟩ := hv
  exact ⟨x, y, rfl, VRL.restrict a _ _ h3 h1, VRL.restrict b _ _ h4 h2⟩
 | .nilf, _, _, _, hv => by simpa [VR] using hv
 | .ifc t v, u, u0, h0, hv => by
  simp only [VR] at h0 hv ⊢
  obtain ⟨x0, _, h2⟩ := h0
  obtain ⟨x, rfl, h1⟩ := hv
  exact ⟨x, rfl, VR.restrict v _ _ h2 h1⟩
 | .nili, _, _, _, hv => by simpa [VR] using hv
 | .agg cs, u, u0, h0, hv => by
  simp only [VR] at h0 hv ⊢
  obtain ⟨us0, _, _, h3⟩ := h0
  obtain ⟨us, rfl, h1, h2⟩ := hv
  exact ⟨us, rfl, h1, VRL.restrict cs _ _ h3 h2⟩
 | .tup cs, u, u0, h0, hv => by
  simp only [VR] at h0 hv ⊢
  obtain ⟨us0, _, h3⟩ := h0
  obtain ⟨us, rfl, h2⟩ := hv
  exact ⟨us, rfl, VRL.restrict cs _ _ h3 h2⟩
 | .mapN, _, _, _, hv => by simpa [VR] using hv
 | .mapR id, u, u0, h0, hv => by
  simp only [VR] at h0 hv ⊢
  obtain ⟨_, hp0, _⟩ := h0
  obtain ⟨R, hp, rfl⟩ := hv
  exact ⟨R, (hphi _ _ hp0).trans hp, rfl⟩
 | .it id, u, u0, h0, hv => by
  simp only [VR] at h0 hv ⊢
  obtain ⟨_, hp0, _⟩ := h0
  obtain ⟨R, hp, rfl⟩ := hv
  exact ⟨R, (hphi _ _ hp0).trans hp, rfl⟩
 | .yld id, u, u0, h0, hv => by
  simp only [VR] at h0 hv ⊢
  obtain ⟨_, hp0, _⟩ := h0
  obtain ⟨R, hp, rfl⟩ := hv
  exact ⟨R, (hphi _ _ hp0).trans hp, rfl⟩
theorem VRL.restrict : ∀ (vs : List V) (us us0 : List Value), VRL m0 vs us0 → VRL m vs us → VRL m2 vs us
 | [], _, _, _, hv => by simpa [VRL] using hv
 | c :: cs, _, _, h0, hv => by
  simp only [VRL] at h0 hv ⊢
  obtain ⟨u0, r0, rfl, h3, h4⟩ := h0
  obtain ⟨u, r, rfl, h1, h2⟩ := hv
  exact ⟨u, r, rfl, VR.restrict c u u0 h3 h1, VRL.restrict cs r r0 h4 h2⟩
end
theorem VRM.restrict : ∀ (vs : List (V × V)) (us us0 : List MapEntry), VRM m0 vs us0 → VRM m vs us → VRM m2 vs us
 | [], _, _, _, hv => hv
 | c :: cs, _, _, h0, hv => by
  simp only [VRM] at h0 hv ⊢
  obtain ⟨u0, r0, rfl, h4, h5, h6⟩ := h0
  obtain ⟨u, r, rfl, h1, h2, h3⟩ := hv
  exact ⟨u, r, rfl, VR.restrict hphi hI hw _ _ _ h4 h1, VR.restrict hphi hI hw _ _ _ h5 h2, VRM.restrict cs r r0 h6 h3⟩
end restrict
theorem freezeRet_sound {m0 : M} (h0 : Inv E S m0) (hx : Ext m0 m) (hi : Inv E S' m) {v v' : V} {S2 : Store} {u : Value} (h : freezeRet S S' v = some (v', S2)) (hv : VR m v u) :
  ∃ m2, m2.w = m.w ∧ Ext m0 m2 ∧ Inv E S2 m2 ∧ VR m2 v' u := by
 unfold freezeRet at h
 split at h
 ·rename_i hb
  have htake := Store.beq_eq _ _ hb
  obtain ⟨w, hw, h⟩ := Option.map_eq_some_iff.1 h
  cases h
  refine ⟨m.cut S.length S', rfl, ?_, ?_, frz_sound hi 6 hw hv⟩
  ·refine ⟨fun id x hp => ?_, fun B hB => .inl (hx.I B hB), hx.blk, hx.shape, hx.size, hx.os, hx.tape, hx.output⟩
   have hlt := h0.dom id x hp
   simp only [M.cut, hlt, if_true]
   exact hx.phi id x hp
  ·have hold : ∀ (id : Nat) (ob : Ob), S[id]? = some ob → S'[id]? = some ob := by
    intro id ob ho
    have hlt := (List.getElem?_eq_some_iff.1 ho).1
    rw [← htake, List.getElem?_take, if_pos hlt] at ho
    exact ho
   have hrp : ∀ id x, m0.phi id = some x → (m.cut S.length S').phi id = m.phi id := by
    intro id x hp
    have hlt := h0.dom id x hp
    simp only [M.cut, hlt, if_true]
   have hrI : ∀ B, m.I B → (m.cut S.length S').I B := fun B hB => .inl hB
   refine ⟨fun id x hp => ?_, fun id ob ho hg => ?_, fun i j oi oj R b c h1 h2 h3 h4 h5 h6 => ?_, fun B hB => ?_, fun g cs hg => ?_⟩
   ·simp only [M.cut] at hp
    split at hp
    ·assumption
    ·cases hp
   ·have hlt := (List.getElem?_eq_some_iff.1 ho).1
    obtain ⟨R, b, hp, hI, hl⟩ := hi.live id ob (hold id ob ho) hg
    obtain ⟨R0, b0, hp0, hI0, hl0⟩ := h0.live id ob ho hg
    refine ⟨R, b, by simp only [M.cut, hlt, if_true]; exact hp, ?_, ?_⟩
    ·rintro (hB | ⟨id2, x, ob2, hge, ho2, hg2, hp2⟩)
     ·exact hI hB
     ·have := hi.inj id id2 ob ob2 R b x (hold id ob ho) ho2 hg hg2 hp hp2
      omega
    ·cases ob with
     | gone => exact absurd rfl hg
     | cells cs e =>
      obtain ⟨us, fz, vs, g1, g2, g3, g4, g5, g6⟩ := hl
      obtain ⟨_, _, vs0, _, k2, _⟩ := hl0
      exact ⟨us, fz, vs, g1, VRL.restrict hrp hrI rfl cs vs vs0 k2 g2, g3, g4, g5, g6⟩
     | iter s pos => exact hl
     | mp es =>
      obtain ⟨mes, clock, g1, g2, g3⟩ := hl
      obtain ⟨mes0, _, _, k2, _⟩ := hl0
      exact ⟨mes, clock, g1, VRM.restrict hrp hrI rfl es _ _ k2 g2, g3⟩
     | lp busy key fr =>
      obtain ⟨nt, ps, asg, body, fn, tmps, defers, g0, g1, g2, g3, g4⟩ := hl
      obtain ⟨_, _, _, _, _, tmps0, _, _, _, _, k3, _⟩ := hl0
      exact ⟨nt, ps, asg, body, fn, tmps, defers, g0, g1, g2, fun i => VR.restrict hrp hrI rfl _ _ _ (k3 i) (g3 i), g4⟩
   ·simp only [M.cut] at h5 h6
    split at h5
    ·split at h6
     ·exact hi.inj i j oi oj R b c (hold i oi h1) (hold j oj h2) h3 h4 h5 h6
     ·cases h6
    ·cases h5
   ·rcases hB with hB | ⟨id2, x, ob2, _, ho2, hg2, hp2⟩
    ·exact hi.bnd B hB
    ·obtain ⟨R, b, hp, _, hl⟩ := hi.live id2 ob2 ho2 hg2
     rw [hp2] at hp
     cases hp
     exact hl.lt hg2
   ·exact VR.restrict hrp hrI rfl _ _ _ (h0.glob g cs hg) (hi.glob g cs hg)
 ·cases h
def resOne (tmps : Array Value) : ResultVar → Sem Value
 | .tmp t => pure (tmps.getD t undef)
 | .cell a t => do loadVar t (← asAddr (tmps.getD a undef))
theorem results_eq (fn : Func) (tmps : Array Value) : results fn tmps = (do
  let vs ← fn.results.mapM (resOne tmps)
  pure (if h : vs.size = 1 then vs[0] else .tuple vs) : Sem Value) := by
 unfold results
 congr 1
theorem resultV_sound (hi : Inv E S m) {fr : Fr} {tmps : Array Value} (hf : ∀ i, VR m (lget fr i) (tmps.getD i undef)) : ∀ {rs : List ResultVar} {vs : List V}, resultV E fr S rs = some vs →
  ∃ us, (rs.mapM (resOne tmps)).run E.P m.w = .ok us m.w ∧ VRL m vs us
 | [], vs, h => by
  simp [resultV] at h
  subst h
  exact ⟨[], by simp, .nil⟩
 | .tmp t :: rs, vs, h => by
  simp only [resultV] at h
  obtain ⟨vs', h1, rfl⟩ := Option.map_eq_some_iff.1 h
  obtain ⟨us, h2, h3⟩ := resultV_sound hi hf h1
  refine ⟨tmps.getD t undef :: us, ?_, .cons (hf t) h3⟩
  simp only [List.mapM_cons, resOne, Sem.run_bind, Sem.run_pure, Result.andThen_ok, h2]
 | .cell a t :: rs, vs, h => by
  simp only [resultV, Option.bind_eq_bind, Option.bind_eq_some_iff] at h
  obtain ⟨v, hv, vs', h1, h⟩ := h
  cases h
  obtain ⟨us, h2, h3⟩ := resultV_sound hi hf h1
  obtain ⟨u, h4, h5⟩ := opLoad_sound hi hv (hf a)
  refine ⟨u :: us, ?_, .cons h5 h3⟩
  have h6 : (resOne tmps (.cell a t)).run E.P m.w = .ok u m.w := by
   show (do loadVar t (← asAddr (tmps.getD a undef)) : Sem Value).run E.P m.w = _
   generalize tmps.getD a undef = p at h4 ⊢
   unfold Instr.loadAt at h4
   cases p <;> simp [Instr.sureAddr] at h4
   rename_i ad
   cases ad with
   | none => simp at h4
   | some ad =>
    simp only [asAddr, Sem.run_bind, Sem.run_pure, Result.andThen_ok]
    simpa using h4
  simp only [List.mapM_cons, Sem.run_bind, h6, Result.andThen_ok, h2, Sem.run_pure]
theorem oneOf_sound {vs : List V} {us : List Value} (h : VRL m vs us) : VR m (oneOf vs) (if h : us.toArray.size = 1 then us.toArray[0] else .tuple us.toArray) := by
 cases vs with
 | nil =>
  simp only [VRL] at h
  subst h
  simp [oneOf, VR, VRL]
 | cons v vs =>
  simp only [VRL] at h
  obtain ⟨u, r, rfl, h1, h2⟩ := h
  cases vs with
  | nil =>
   simp only [VRL] at h2
   subst h2
   simpa [oneOf] using h1
  | cons v2 vs =>
   have hl := h2.length
   simp at hl
   have : ¬ (u :: r).toArray.size = 1 := by simp; intro e; rw [e] at hl; simp at hl
   rw [dif_neg this]
   simp only [oneOf, VR]
   exact ⟨_, rfl, .cons h1 h2⟩
def ProgOk (E : Env) : Prop := ∀ (f : FuncId) (fn : Func) (c : Code), E.P.funcs[f]? = some fn → fn.body = some c → codeOk fn.ntmps c = true ∧ rangesOk E fn.ntmps c
theorem lget_eq : ∀ (l : List V) (i : Nat), lget l i = (l[i]?).getD .junk
 | [], i => by simp [lget]
 | a :: r, 0 => by simp [lget]
 | a :: r, i + 1 => by simpa [lget] using lget_eq r i
theorem putAll_sound {nt : Nat} : ∀ (ts : List Nat) (vs : List V) (us : List Value) (fr : Fr) (a : Act), VRL m vs us → (∀ t, t ∈ ts → t < nt) → FR [] fr a m nt →
  FR [] (putAll fr ts vs) { tmps := (ts.zip us).foldl (fun tmps x => tmps.setIfInBounds x.1 x.2) a.tmps, defers := [] } m nt
 | [], vs, us, fr, a, _, _, hf => by
  have e : putAll fr [] vs = fr := by cases vs <;> rfl
  rw [e]
  exact ⟨by simpa using hf.size, rfl, fun i => by simpa using hf.at_ i⟩
 | t :: ts, [], us, fr, a, hv, _, hf => by
  simp only [VRL] at hv
  subst hv
  exact ⟨by simpa using hf.size, rfl, fun i => by simpa [putAll] using hf.at_ i⟩
 | t :: ts, v :: vs, us, fr, a, hv, ht, hf => by
  simp only [VRL] at hv
  obtain ⟨u, r, rfl, h1, h2⟩ := hv
  have := putAll_sound ts vs r (lset fr t v) (a.put (some t) u) h2 (fun x hx => ht x (by simp [hx])) (hf.put_ (dst := some t) (by rintro d ⟨⟩; exact ht t (by simp)) h1)
  simpa [putAll, Act.put] using this
set_option maxHeartbeats 1000000 in
theorem runRound_ok (hC : CallOk E call) (hP : PrimOk E) (hL : LoopsOk E) {k id : Nat} {args : List V} {v : V} (h : runRound E call k id args S = some (v, S')) {uargs : List Value} (hi : Inv E S m) (ha : VRL m args uargs) :
  ∃ R f tmps asg body b, m.phi id = some (R, b) ∧ (Instr.yield R uargs.toArray).run E.P m.w = .ok (.round R f tmps asg body) m.w ∧ RoundIn (Fw none) 0 E.P R f tmps asg body m.w (Came E m S' v) := by
 unfold runRound at h
 split at h
 ·rename_i key fr hS
  split at h
  ·rename_i nt ps asg body hloop
   split at h
   ·rename_i hlen
    split at h
    ·rename_i fr1 S1 hasg
     split at h
     ·rename_i key1 f1 hS1
      split at h
      ·rename_i fr2 S2 hbody
       split at h
       ·rename_i key2 f2 hS2
        cases h
        obtain ⟨ok1, fl1, ok2, fl2, hps⟩ := hL _ _ _ _ _ hloop
        obtain ⟨R, b, hp, hIR, hl⟩ := hi.live _ _ hS (by simp)
        obtain ⟨nt', ps', asg', body', fn0, tm0, df0, g0, g1, g2, g3, rfl⟩ := hl
        rw [hloop] at g0
        cases g0
        refine ⟨R, fn0, (ps.toList.zip uargs).foldl (fun tmps x => tmps.setIfInBounds x.1 x.2) tm0, asg, body, 0, hp, ?_, ?_⟩
        ·have hsz : uargs.toArray.size = ps.size := by
          have := ha.length
          simp
          omega
         have hfold : (ps.zip uargs.toArray).foldl (fun tmps x => tmps.setIfInBounds x.1 x.2) tm0 = (ps.toList.zip uargs).foldl (fun tmps x => tmps.setIfInBounds x.1 x.2) tm0 := by
          rw [← Array.foldl_toList]
          simp
         simp only [Instr.yield, Instr.getLoop, getObj, Sem.run_bind, Sem.run, g1, Result.andThen, hsz, ne_eq, not_true, if_false, Sem.run_pure]
         exact congrArg (fun t => Result.ok (Next.round R fn0 t asg body) m.w) hfold
        ·have hf0 := putAll_sound ps.toList args uargs fr { tmps := tm0, defers := [] } ha (fun t ht => by simpa using List.all_eq_true.1 hps t ht) ⟨g2, rfl, g3⟩
         refine roundIn_of_wpIn trivial ?_
         show asg.wpIn (Fw (some R)) 0 E.P _ _ m.w
         refine evCode_sound (ro := some R) hC hP (base := m.w.heap.size) asg ok1 (rangesOk_flat _ fl1) (.inr fl1) hasg (rs := []) hf0 (Mk.none _ _) (Nat.le_refl _) hi (fun a1 m1 rs1 x1 k1 k0 i1 => ?_)
         obtain ⟨R1, b1, hp1, hIR1, hl1⟩ := i1.live _ _ hS1 (by simp)
         have e1 := x1.phi _ _ hp
         rw [hp1] at e1
         cases e1
         obtain ⟨nt1, ps1, asg1, body1, fn1, tm1, df1, j0, j1, j2, j3, _⟩ := hl1
         have x2 := Ext.setObj (o' := .loop { state := .busy, pending := none, fn := fn1, tmps := tm1, params := ps1, assign := asg1, body := body1, defers := df1 }) j1 (by simp) hIR1
         have i2 := i1.setObj (ob' := .lp true key1 f1) (o' := .loop { state := .busy, pending := none, fn := fn1, tmps := tm1, params := ps1, assign := asg1, body := body1, defers := df1 }) hS1 (by simp) hp1 j1 (by simp) hIR1
          ⟨nt1, ps1, asg1, body1, fn1, tm1, df1, j0, heap_set_same _ j1, j2, fun i => (j3 i).ext x2, rfl⟩
         refine ⟨{ m1.w with heap := m1.w.heap.setIfInBounds R (.loop { state := .busy, pending := none, fn := fn1, tmps := tm1, params := ps1, assign := asg1, body := body1, defers := df1 }) }, ?_, ?_⟩
         ·simp [Instr.beginRound, Instr.getLoop, getObj, setObj, Sem.run, j1, Result.andThen]
         ·show body.wpIn (Fw (some R)) 0 E.P _ _ _
          refine evCode_sound (ro := some R) hC hP (base := m.w.heap.size) body ok2 (rangesOk_flat _ fl2) (.inr fl2) hbody (m := { m1 with w := { m1.w with heap := m1.w.heap.setIfInBounds R (.loop { state := .busy, pending := none, fn := fn1, tmps := tm1, params := ps1, assign := asg1, body := body1, defers := df1 }) } })
           (k1.ext x2) (k0.ext x2) (Nat.le_trans x1.size x2.size) i2 (fun a3 m3 rs3 x3 k3 k03 i3 => ?_)
          obtain ⟨R3, b3, hp3, hIR3, hl3⟩ := i3.live _ _ hS2 (by simp)
          have e3 := x3.phi _ _ hp1
          rw [hp3] at e3
          cases e3
          obtain ⟨nt3, ps3, asg3, body3, fn3, tm3, df3, l0, l1, l2, l3, _⟩ := hl3
          have x4 := Ext.setObj (o' := .loop { state := .ready, pending := none, fn := fn3, tmps := tm3, params := ps3, assign := asg3, body := body3, defers := df3 }) l1 (by simp) hIR3
          have i4 := i3.setObj (ob' := .lp false key2 f2) (o' := .loop { state := .ready, pending := none, fn := fn3, tmps := tm3, params := ps3, assign := asg3, body := body3, defers := df3 }) hS2 (by simp) hp3 l1 (by simp) hIR3
           ⟨nt3, ps3, asg3, body3, fn3, tm3, df3, l0, heap_set_same _ l1, l2, fun i => (l3 i).ext x4, rfl⟩
          refine ⟨.bool true, { m3.w with heap := m3.w.heap.setIfInBounds R (.loop { state := .ready, pending := none, fn := fn3, tmps := tm3, params := ps3, assign := asg3, body := body3, defers := df3 }) }, ?_, ?_⟩
          ·simp [Instr.endRound, Instr.getLoop, getObj, setObj, Sem.run, l1, Result.andThen]
          ·exact ⟨.bool true, { m3 with w := { m3.w with heap := m3.w.heap.setIfInBounds R (.loop { state := .ready, pending := none, fn := fn3, tmps := tm3, params := ps3, assign := asg3, body := body3, defers := df3 }) } }, rfl, rfl, x1.trans (x2.trans (x3.trans x4)), i4, by simp [VR]⟩
       ·cases h
      ·cases h
     ·cases h
    ·cases h
   ·cases h
  ·cases h
 ·cases h
theorem finish_ok {m m2 : M} {S2 S3 : Store} {f : FuncId} {fn : Func} {fr' : Fr} {tmps : Array Value} {vs : List V} {v : V} (hi : Inv E S m) (g2 : Ext m m2) (g3 : Inv E S2 m2) (hat : ∀ i, VR m2 (lget fr' i) (tmps.getD i undef))
  (hvs : resultV E fr' S2 fn.results.toList = some vs) (h : (if E.keep f then some (oneOf vs, S2) else freezeRet S S2 (oneOf vs)) = some (v, S3)) : ∃ u, (results fn tmps).run E.P m2.w = .ok u m2.w ∧ Came E m S3 v (.returned u) m2.w := by
 obtain ⟨us, hr1, hr2⟩ := resultV_sound g3 hat hvs
 have hres : (results fn tmps).run E.P m2.w = .ok (if h : us.toArray.size = 1 then us.toArray[0] else .tuple us.toArray) m2.w := by
  rw [results_eq, Array.mapM_eq_mapM_toList]
  simp only [map_eq_pure_bind, bind_assoc, pure_bind, Sem.run_bind, hr1, Result.andThen_ok]
  rfl
 have hone := oneOf_sound hr2
 refine ⟨_, hres, ?_⟩
 split at h
 ·cases h
  exact ⟨_, m2, rfl, rfl, g2, g3, hone⟩
 ·obtain ⟨m3, e1, e2, e3, e4⟩ := freezeRet_sound hi g2 g3 h hone
  exact ⟨_, m3, rfl, e1, e2, e3, e4⟩
theorem enter_fr {fn : Func} {args : List V} {uargs : List Value} {ds : List Deferred} (ha : VRL m args uargs) (hds : ds = []) : FR ds args { tmps := uargs.toArray ++ Array.replicate (fn.ntmps - uargs.toArray.size) undef, defers := [] } m fn.ntmps := by
 subst hds
 have hlen := ha.length
 refine ⟨by simp; omega, rfl, fun i => ?_⟩
 rw [lget_eq]
 rcases Nat.lt_or_ge i args.length with hlt | hge
 ·rw [List.getElem?_eq_getElem hlt]
  obtain ⟨u, hu, hv⟩ := ha.get (List.getElem?_eq_getElem hlt)
  have : (uargs.toArray ++ Array.replicate (fn.ntmps - uargs.toArray.size) undef).getD i undef = u := by
   rw [Array.getD_eq_getD_getElem?, Array.getElem?_append_left (by simp; omega)]
   simp [hu]
  rw [this]
  exact hv
 ·rw [List.getElem?_eq_none hge]
  simp [VR]
theorem runFn_some {k : Nat} {fn : Func} {c : Code} {args : List V} {v1 : V} {S1 : Store} (h : runFn E call k fn c args S = some (v1, S1)) :
  ∃ x fr' vs, (x = .normal ∨ x = .ret) ∧ evCode E call k c args S = some (x, fr', S1) ∧ resultV E fr' S1 fn.results.toList = some vs ∧ v1 = oneOf vs := by
 unfold runFn at h
 split at h
 ·rename_i fr' S2 hev
  obtain ⟨vs, hvs, he⟩ := Option.map_eq_some_iff.1 h
  cases he
  exact ⟨.normal, fr', vs, .inl rfl, hev, hvs, rfl⟩
 ·rename_i fr' S2 hev
  obtain ⟨vs, hvs, he⟩ := Option.map_eq_some_iff.1 h
  cases he
  exact ⟨.ret, fr', vs, .inr rfl, hev, hvs, rfl⟩
 ·cases h
theorem runFnD_some {k : Nat} {fn : Func} {c : Code} {args : List V} {v1 : V} {S1 : Store} (h : runFnD E call k fn c args S = some (v1, S1)) :
  ∃ x fr' S2 D vs, (x = .normal ∨ x = .ret) ∧ evD E call k c args S [] = some (x, fr', S2, D) ∧ runD E call D S2 = some S1 ∧ resultV E fr' S1 fn.results.toList = some vs ∧ v1 = oneOf vs := by
 unfold runFnD at h
 split at h
 ·rename_i fr' S2 D hev
  split at h
  ·rename_i S3 hd
   obtain ⟨vs, hvs, he⟩ := Option.map_eq_some_iff.1 h
   cases he
   exact ⟨.normal, fr', S2, D, vs, .inl rfl, hev, hd, hvs, rfl⟩
  ·cases h
 ·rename_i fr' S2 D hev
  split at h
  ·rename_i S3 hd
   obtain ⟨vs, hvs, he⟩ := Option.map_eq_some_iff.1 h
   cases he
   exact ⟨.ret, fr', S2, D, vs, .inr rfl, hev, hd, hvs, rfl⟩
  ·cases h
 ·cases h
set_option maxHeartbeats 1000000 in
theorem vcall_ok (hP : PrimOk E) (hK : CatchOk E) (hL : LoopsOk E) (hprog : ProgOk E) : ∀ (k : Nat), CallOk E (vcall E k) := by
 intro k
 induction k with
 | zero => exact ⟨fun f args S v S' h => by simp [vcall] at h, fun f args S v S' h => by simp [vcall] at h, fun f args S v S' h => by simp [vcall] at h⟩
 | succ k ih =>
  refine ⟨fun f args S v S' h m uargs hi ha => ?_, fun id args S v S' h m uargs hi ha => runRound_ok ih hP hL (by simpa [vcall] using h) hi ha, fun f args S v S' h hok m uargs u hi ha => ?_⟩
  ·rw [vcall] at h
   split at h
   ·rename_i fn hfn
    split at h
    ·rename_i c hc
     have hpo := hprog f fn c hfn hc
     split at h
     ·rename_i v1 S1 hrun
      split at hrun
      ·rename_i hdf
       obtain ⟨x, fr', S2, D, vs, hx, hev, hrd, hvs, rfl⟩ := runFnD_some hrun
       refine calls_of_wp_defers hfn hc ((wpIn_wide (n := 0)).1 ?_)
       show c.wpIn (Fw none) 0 E.P _ _ m.w
       refine evD_sound ih hP c hpo.1 hev (enter_fr ha rfl) rfl hi (fun a' m' ds' h1 h2 h0 h3 => ?_)
       have last : Leaves E.P fn a'.tmps (Came E m S' v) a'.defers .returning m'.w := by
        rw [h2.defers]
        refine leaves_runD ih hK D hrd h0 h3 (fun m2 g1 g2 => ?_)
        obtain ⟨u, e1, e2⟩ := finish_ok hi (h1.trans g1) g2 (fun i => (h2.at_ i).ext g1) hvs h
        exact ⟨u, e1, e2⟩
       rcases hx with rfl | rfl
       ·exact last
       ·exact last
      ·obtain ⟨x, fr', vs, hx, hev, hvs, rfl⟩ := runFn_some hrun
       refine (callsIn_wide (n := 0)).1 ?_
       show CallsIn (Fw none) 0 E.P f uargs.toArray m.w _
       refine callsIn_of_wp_marks hfn hc trivial ?_
       refine evCode_sound (ro := none) (base := m.w.heap.size) ih hP c hpo.1 hpo.2 (.inl rfl) hev (enter_fr ha rfl) (Mk.none _ _) (Nat.le_refl _) hi (fun a' m' rs' h1 h2 h0 h3 => ?_)
       have last : LeavesInM (Fw none) 0 E.P fn a'.tmps (Came E m S' v) a'.defers .returning m'.w := by
        rw [h2.defers]
        refine leaves_marks hi (Nat.le_refl _) h0 h1 h3 (fun m2 g1 g2 g3 => ?_)
        obtain ⟨u, e1, e2⟩ := finish_ok hi g2 g3 (fun i => (h2.at_ i).aft g1) hvs h
        exact ⟨u, e1, e2⟩
       rcases hx with rfl | rfl
       ·exact last
       ·exact last
     ·cases h
    ·cases h
   ·cases h
  ·unfold dnOk at hok
   rw [Bool.and_eq_true, Bool.and_eq_true] at hok
   obtain ⟨⟨hd, _⟩, hok⟩ := hok
   have hd : E.defs f = false := by simpa using hd
   rw [vcall] at h
   split at h
   ·rename_i fn hfn
    rw [hfn] at hok
    simp only [Bool.and_eq_true] at hok
    split at h
    ·rename_i c hc
     have hfl := hok.2
     rw [hc] at hfl
     have hpo := hprog f fn c hfn hc
     split at h
     ·rename_i v1 S1 hrun
      rw [hd] at hrun
      obtain ⟨x, fr', vs, hx, hev, hvs, rfl⟩ := runFn_some hrun
      refine callsD_of_wp hfn hc ((wpIn_wide (n := 0)).1 ?_)
      show c.wpIn (Fw none) 0 E.P _ _ m.w
      refine evCode_flat ih hP c hpo.1 hfl hev (enter_fr ha rfl) hi (fun a' m' h1 h2 h3 => ?_)
      obtain ⟨u, e1, e2⟩ := finish_ok hi h1 h3 h2.at_ hvs h
      rcases hx with rfl | rfl
      ·exact ⟨h2.defers, u, e1, e2⟩
      ·exact ⟨h2.defers, u, e1, e2⟩
     ·cases h
    ·cases h
   ·cases h
end Go.Vm
set_option autoImplicit false
namespace Go.Vm
variable {E : Env}
abbrev CallT := Tg → List V → Store → Option (V × Store)
def Ev_ (p : Nat → Prop) : Prop := ∃ k0, ∀ k, k0 ≤ k → p k
theorem Ev_.of {p : Nat → Prop} (h : ∀ k, p k) : Ev_ p := ⟨0, fun k _ => h k⟩
theorem Ev_.and {p q : Nat → Prop} (h : Ev_ p) (g : Ev_ q) : Ev_ fun k => p k ∧ q k := by
 obtain ⟨a, ha⟩ := h
 obtain ⟨b, hb⟩ := g
 exact ⟨max a b, fun k hk => ⟨ha k (by omega), hb k (by omega)⟩⟩
theorem Ev_.mono {p q : Nat → Prop} (h : Ev_ p) (g : ∀ k, p k → q k) : Ev_ q := by
 obtain ⟨a, ha⟩ := h
 exact ⟨a, fun k hk => g k (ha k hk)⟩
theorem Ev_.mono2 {p q r : Nat → Prop} (h : Ev_ p) (h' : Ev_ q) (g : ∀ k, p k → q k → r k) : Ev_ r := (h.and h').mono fun k hk => g k hk.1 hk.2
def Lim (c : CallT) (d : Nat → CallT) : Prop := ∀ t a S r, c t a S = some r → Ev_ fun k => d k t a S = some r
section
variable {c : CallT} {d : Nat → CallT} (hl : Lim c d)
theorem evOp_other {c1 c2 : CallT} {ρ : Operand → V} {S : Store} {o : Oper} (h : ∀ f args ts, o.op ≠ .call ⟨.value f, args, ts⟩) : evOp E c1 ρ S o = evOp E c2 ρ S o := by
 obtain ⟨dst, op, type, pos, after, guard⟩ := o
 cases op
 case call cl =>
  obtain ⟨callee, args, ts⟩ := cl
  cases callee with
  | value f => exact absurd rfl (h f args ts)
  | invoke r n => rfl
  | builtin b => rfl
 case next it b => cases b <;> rfl
 all_goals rfl
include hl in
theorem callV_lim {f : V} {args : List V} {S : Store} {r : V × Store} (h : callV E c f args S = some r) : Ev_ fun k => callV E (d k) f args S = some r := by
 unfold callV at h ⊢
 split at h
 ·rename_i f first cap
  unfold callFn at h ⊢
  split at h
  ·rename_i p hp
   try simp only [hp]
   exact .of fun _ => h
  ·rename_i hp
   try simp only [hp]
   split at h
   ·rename_i fn hfn
    try simp only [hfn]
    split at h
    ·cases h
    ·rename_i hn
     try simp only [hn, if_false]
     split at h
     ·rename_i hb
      try simp only [hb, if_true]
      exact .of fun _ => h
     ·rename_i hb
      try simp only [hb, if_false]
      exact hl _ _ _ _ h
   ·cases h
 ·exact hl _ _ _ _ h
 ·cases h
include hl in
theorem evOp_lim {ρ : Operand → V} {S : Store} {o : Oper} {r : V × Store} (h : evOp E c ρ S o = some r) : Ev_ fun k => evOp E (d k) ρ S o = some r := by
 by_cases hc : ∃ f args ts, o.op = .call ⟨.value f, args, ts⟩
 ·obtain ⟨f, args, ts, he⟩ := hc
  have key : ∀ cc : CallT, evOp E cc ρ S o = callV E cc (ρ f) (args.toList.map ρ) S := by
   intro cc
   obtain ⟨dst, op, type, pos, after, guard⟩ := o
   simp only at he
   subst he
   rfl
  rw [key] at h
  simp only [key]
  exact callV_lim hl h
 ·have hc' : ∀ f args ts, o.op ≠ .call ⟨.value f, args, ts⟩ := fun f args ts e => hc ⟨f, args, ts, e⟩
  refine .of fun k => ?_
  rw [← h]
  exact evOp_other hc'
include hl in
theorem evOps_lim {ops : List Oper} : ∀ {rest : List Oper} {fr : Fr} {S : Store} {r : Fr × Store}, evOps E c ops rest fr S = some r → Ev_ fun k => evOps E (d k) ops rest fr S = some r
 | [], fr, S, r, h => .of fun _ => by simpa [evOps] using h
 | o :: rest, fr, S, r, h => by
  simp only [evOps] at h ⊢
  split at h
  ·rename_i hw
   try simp only [hw]
   split at h
   ·rename_i v S1 he
    exact (evOp_lim hl he).mono2 (evOps_lim h) fun k h1 h2 => by simp only [h1, h2]
   ·cases h
  ·rename_i hw
   try simp only [hw]
   exact evOps_lim h
  ·cases h
theorem all_lim {α : Type} {p : α → Bool} {q : Nat → α → Bool} (hpq : ∀ x, p x = true → Ev_ fun k => q k x = true) : ∀ {l : List α}, l.all p = true → Ev_ fun k => l.all (q k) = true
 | [], _ => .of fun _ => rfl
 | x :: l, h => by
  simp only [List.all_cons, Bool.and_eq_true] at h
  exact (hpq x h.1).mono2 (all_lim hpq h.2) fun k h1 h2 => by simp [h1, h2]
include hl in
theorem evDraw_lim {ops : List Oper} {b : List Nat} : ∀ {rest : List Oper} {i : Nat} {fr : Fr} {S : Store} {hist : List (Nat × Store)} {flts : List (Nat × Oper × Fr × V)} {r : Fr × Store},
  evDraw E c ops b rest i fr S hist flts = some r → Ev_ fun k => evDraw E (d k) ops b rest i fr S hist flts = some r
 | [], i, fr, S, hist, flts, r, h => .of fun _ => by simpa [evDraw] using h
 | o :: rest, i, fr, S, hist, flts, r, h => by
  simp only [evDraw] at h ⊢
  split at h
  ·rename_i hw
   try simp only [hw]
   split at h
   ·rename_i v S1 he
    have he' := evOp_lim hl he
    split at h
    ·rename_i hf
     try simp only [hf, if_true]
     split at h
     ·rename_i hall
      have h1 := all_lim (q := fun k x => ((b.getD i 0).testBit x.1 || (match evOp E (d k) (opnd E x.2.2.1) S1 x.2.1 with | some (u, _) => u.beq x.2.2.2 | none => false))) (fun x hx => by
       simp only [Bool.or_eq_true] at hx
       rcases hx with hx | hx
       ·exact .of fun k => by rw [hx]; rfl
       ·split at hx
        ·rename_i u S2 hu
         exact (evOp_lim hl hu).mono fun k hk => by simp only [hk, hx, Bool.or_true]
        ·cases hx) hall
      exact he'.mono2 (h1.and (evDraw_lim h)) fun k g1 g2 => by
       simp only [g1]
       exact (if_pos g2.1).trans g2.2
     ·cases h
    ·rename_i hf
     try simp only [hf, if_false]
     split at h
     ·rename_i hr
      try simp only [hr, if_true]
      split at h
      ·rename_i hall
       have h1 := all_lim (q := fun k x => ((b.getD i 0).testBit x.1 || (match evOp E (d k) (opnd E fr) x.2 o with | some (u, _) => u.beq v | none => false))) (fun x hx => by
        simp only [Bool.or_eq_true] at hx
        rcases hx with hx | hx
        ·exact .of fun k => by rw [hx]; rfl
        ·split at hx
         ·rename_i u S2 hu
          exact (evOp_lim hl hu).mono fun k hk => by simp only [hk, hx, Bool.or_true]
         ·cases hx) hall
       exact he'.mono2 (h1.and (evDraw_lim h)) fun k g1 g2 => by
        simp only [g1]
        first | exact (if_neg (by simp)).trans ((if_pos g2.1).trans g2.2) | exact (if_pos g2.1).trans g2.2
      ·cases h
     ·rename_i hr
      try simp only [hr, if_false]
      exact he'.mono2 (evDraw_lim h) fun k g1 g2 => by simp only [g1]; exact g2
   ·cases h
  ·rename_i hw
   try simp only [hw]
   exact evDraw_lim h
  ·cases h
include hl in
theorem stillV_lim {fr : Fr} {S : Store} {o : Oper} {v : V} (h : stillV E c fr S o v = true) : Ev_ fun k => stillV E (d k) fr S o v = true := by
 unfold stillV at h
 split at h
 ·rename_i u S1 hu
  exact (evOp_lim hl hu).mono fun k hk => by unfold stillV; rw [hk]; exact h
 ·cases h
include hl in
theorem evDrawQ_lim {ops : List Oper} {b : List Nat} {fl : List Bool} : ∀ {rest : List Oper} {i : Nat} {fr : Fr} {S : Store} {hist : List (Nat × Store)} {flts : List (Nat × Oper × Fr × V)} {r : Fr × Store},
  evDrawQ E c ops b fl rest i fr S hist flts = some r → Ev_ fun k => evDrawQ E (d k) ops b fl rest i fr S hist flts = some r
 | [], i, fr, S, hist, flts, r, h => .of fun _ => by simpa [evDrawQ] using h
 | o :: rest, i, fr, S, hist, flts, r, h => by
  simp only [evDrawQ] at h ⊢
  split at h
  ·rename_i hw
   try simp only [hw]
   split at h
   ·rename_i v S1 he
    have he' := evOp_lim hl he
    split at h
    ·rename_i hf
     split at h
     ·rename_i hall
      have h1 := all_lim (q := fun k x => ((b.getD i 0).testBit x.1 || stillV E (d k) x.2.2.1 S1 x.2.1 x.2.2.2)) (fun x hx => by
       simp only [Bool.or_eq_true] at hx
       rcases hx with hx | hx
       ·exact .of fun k => by rw [hx]; rfl
       ·exact (stillV_lim hl hx).mono fun k hk => by rw [hk, Bool.or_true]) hall
      exact he'.mono2 (h1.and (evDrawQ_lim h)) fun k g1 g2 => by
       simp only [g1]
       first | exact (if_pos hf).trans ((if_pos g2.1).trans g2.2) | exact (if_pos g2.1).trans g2.2
     ·cases h
    ·rename_i hf
     split at h
     ·rename_i hr
      split at h
      ·rename_i hall
       rw [Bool.and_eq_true] at hall
       have h1 := all_lim (q := fun k x => ((b.getD i 0).testBit x.1 || stillV E (d k) fr x.2 o v)) (fun x hx => by
        simp only [Bool.or_eq_true] at hx
        rcases hx with hx | hx
        ·exact .of fun k => by rw [hx]; rfl
        ·exact (stillV_lim hl hx).mono fun k hk => by rw [hk, Bool.or_true]) hall.2
       exact he'.mono2 (h1.and (evDrawQ_lim h)) fun k g1 g2 => by
        simp only [g1]
        exact (if_neg hf).trans ((if_pos hr).trans ((if_pos (by rw [Bool.and_eq_true]; exact ⟨hall.1, g2.1⟩)).trans g2.2))
      ·cases h
     ·rename_i hr
      exact he'.mono2 (evDrawQ_lim h) fun k g1 g2 => by
       simp only [g1]
       exact (if_neg hf).trans ((if_neg hr).trans g2)
   ·cases h
  ·rename_i hw
   try simp only [hw]
   exact evDrawQ_lim h
  ·cases h
include hl in
theorem evDrawG_lim {ops : List Oper} {fr : Fr} {S : Store} {r : Fr × Store} (h : evDrawG E c ops fr S = some r) : Ev_ fun k => evDrawG E (d k) ops fr S = some r := by
 unfold evDrawG at h ⊢
 exact evDrawQ_lim hl h
include hl in
theorem evDrawP_lim {ops : Array Oper} {fr : Fr} {S : Store} {r : Fr × Store} (h : evDrawP E c ops fr S = some r) : Ev_ fun k => evDrawP E (d k) ops fr S = some r := by
 unfold evDrawP at h ⊢
 split at h
 ·exact evDrawG_lim hl h
 ·split at h
  ·rename_i f1 S1 f2 S2 r1 r2
   exact (evDrawG_lim hl r1).mono2 (evDrawG_lim hl r2) fun k g1 g2 => by simp only [g1, g2]; exact h
  ·cases h
theorem evLoop_lim {run : Fr → Store → Option (Ex × Fr × Store)} {runk : Nat → Fr → Store → Option (Ex × Fr × Store)} (hr : ∀ fr S r, run fr S = some r → Ev_ fun k => runk k fr S = some r) :
  ∀ {n : Nat} {fr : Fr} {S : Store} {r : Ex × Fr × Store}, evLoop run n fr S = some r → Ev_ fun k => ∀ j, n ≤ j → evLoop (runk k) j fr S = some r
 | 0, fr, S, r, h => by simp [evLoop] at h
 | n + 1, fr, S, r, h => by
  rw [evLoop] at h
  split at h
  ·rename_i fr1 S1 h1
   refine (hr _ _ _ h1).mono2 (evLoop_lim hr h) fun k g1 g2 j hj => ?_
   obtain ⟨j, rfl⟩ : ∃ i, j = i + 1 := ⟨j - 1, by omega⟩
   rw [evLoop, g1]
   exact g2 j (by omega)
  ·rename_i r1 hne
   refine (hr _ _ _ h).mono fun k g1 j hj => ?_
   obtain ⟨j, rfl⟩ : ∃ i, j = i + 1 := ⟨j - 1, by omega⟩
   rw [evLoop, g1]
   obtain ⟨x, fr', S'⟩ := r
   cases x with
   | normal => exact absurd h (hne _ _)
   | exit _ => rfl
   | goto _ => rfl
   | ret => rfl
include hl in
theorem evCode_lim : ∀ (cd : Code) {n : Nat} {fr : Fr} {S : Store} {r : Ex × Fr × Store}, evCode E c n cd fr S = some r → Ev_ fun k => evCode E (d k) k cd fr S = some r
 | .skip, n, fr, S, r, h => .of fun _ => by simpa [evCode] using h
 | .label _, n, fr, S, r, h => .of fun _ => by simpa [evCode] using h
 | .region _ ops draw, n, fr, S, r, h => by
  simp only [evCode] at h ⊢
  split at h
  ·rename_i hd
   simp only [hd, if_true]
   obtain ⟨x, hx, rfl⟩ := Option.map_eq_some_iff.1 h
   cases hch : chainOk ops.toList (Region.before ops).toList with
   | true =>
    rw [hch, if_pos rfl] at hx
    exact (evDraw_lim hl hx).mono fun k hk => by rw [if_pos rfl, hk]; rfl
   | false =>
    rw [hch] at hx
    simp only [Bool.false_eq_true, if_false] at hx
    exact (evDrawP_lim hl hx).mono fun k hk => by
     simp only [Bool.false_eq_true, if_false]
     rw [hk]
     rfl
  ·rename_i hd
   simp only [hd, if_false]
   obtain ⟨x, hx, rfl⟩ := Option.map_eq_some_iff.1 h
   exact (evOps_lim hl hx).mono fun k hk => by rw [hk]; rfl
 | .seq a b, n, fr, S, r, h => by
  simp only [evCode] at h ⊢
  split at h
  ·rename_i fr1 S1 h1
   exact (evCode_lim a h1).mono2 (evCode_lim b h) fun k g1 g2 => by simp only [g1]; exact g2
  ·rename_i hne
   refine (evCode_lim a h).mono fun k g => ?_
   rw [g]
   obtain ⟨x, fr', S'⟩ := r
   cases x with
   | normal => exact absurd h (hne _ _)
   | exit _ => rfl
   | goto _ => rfl
   | ret => rfl
 | .cond o a b, n, fr, S, r, h => by
  simp only [evCode] at h ⊢
  split at h
  ·rename_i hb
   try simp only [hb]
   exact evCode_lim a h
  ·rename_i hb
   try simp only [hb]
   exact evCode_lim b h
  ·cases h
 | .block id a, n, fr, S, r, h => by
  simp only [evCode] at h ⊢
  split at h
  ·rename_i i fr1 S1 h1
   refine (evCode_lim a h1).mono fun k g => ?_
   simp only [g]
   exact h
  ·rename_i hne
   refine (evCode_lim a h).mono fun k g => ?_
   rw [g]
   obtain ⟨x, fr', S'⟩ := r
   cases x with
   | normal => rfl
   | exit _ => exact absurd h (hne _ _ _)
   | goto _ => rfl
   | ret => rfl
 | .loop a, n, fr, S, r, h => by
  simp only [evCode] at h ⊢
  obtain ⟨k0, hk⟩ := evLoop_lim (runk := fun k => evCode E (d k) k a) (fun fr S r h => evCode_lim a h) h
  exact ⟨max k0 n, fun k hkk => hk k (by omega) k (by omega)⟩
 | .scope a, n, fr, S, r, h => by
  simp only [evCode] at h ⊢
  split at h
  ·cases h
  ·rename_i hne
   refine (evCode_lim a h).mono fun k g => ?_
   rw [g]
   obtain ⟨x, fr', S'⟩ := r
   cases x with
   | normal => rfl
   | exit _ => rfl
   | goto _ => exact absurd h (hne _ _ _)
   | ret => rfl
 | .exit _, n, fr, S, r, h => .of fun _ => by simpa [evCode] using h
 | .ret, n, fr, S, r, h => .of fun _ => by simpa [evCode] using h
 | .goto _, n, fr, S, r, h => by simp [evCode] at h
 | .refuse _, n, fr, S, r, h => by simp [evCode] at h
 | .rangeFunc g ps asg body, n, fr, S, r, h => by
  simp only [evCode] at h ⊢
  split at h
  ·rename_i f first cap hg
   try simp only [hg]
   split at h
   ·rename_i fn hfn
    try simp only [hfn]
    split at h
    ·cases h
    ·rename_i hn
     try simp only [hn, if_false]
     split at h
     ·rename_i v1 S1 hc
      exact (hl _ _ _ _ hc).mono fun k hk => by simp only [hk]; exact h
     ·cases h
   ·cases h
  ·cases h
end
open Classical in
noncomputable def vrun (E : Env) : CallT := fun t a S => if h : ∃ r, Ev_ fun k => vcall E k t a S = some r then some (Classical.choose h) else none
theorem vrun_lim : Lim (vrun E) (vcall E) := by
 intro t a S r h
 unfold vrun at h
 split at h
 ·rename_i hx
  cases h
  exact Classical.choose_spec hx
 ·cases h
theorem vrun_of {t : Tg} {a : List V} {S : Store} {r : V × Store} (h : Ev_ fun k => vcall E k t a S = some r) : vrun E t a S = some r := by
 have hx : ∃ r, Ev_ fun k => vcall E k t a S = some r := ⟨r, h⟩
 unfold vrun
 rw [dif_pos hx]
 obtain ⟨k, hk⟩ := h.and (Classical.choose_spec hx)
 have h1 := (hk k (Nat.le_refl _)).1
 have h2 := (hk k (Nat.le_refl _)).2
 rw [h1] at h2
 exact h2.symm
theorem vrun_some {t : Tg} {a : List V} {S : Store} {r : V × Store} (h : vrun E t a S = some r) : ∃ k, vcall E k t a S = some r := by
 obtain ⟨k, hk⟩ := vrun_lim _ _ _ _ h
 exact ⟨k, hk k (Nat.le_refl _)⟩
def W (E : Env) (c : Code) (fr : Fr) (S : Store) (Q : Ex → Fr → Store → Prop) : Prop := ∃ x fr' S', Q x fr' S' ∧ Ev_ fun n => evCode E (vrun E) n c fr S = some (x, fr', S')
theorem vrun_fn {f : FuncId} {fn : Func} {c : Code} {args : List V} {S : Store} {r : V × Store} (hf : E.P.funcs[f]? = some fn) (hb : fn.body = some c)
  (h : W E c args S fun x fr' S' => (x = .normal ∨ x = .ret) ∧ ∃ vs, resultV E fr' S' fn.results.toList = some vs ∧ (if E.keep f then some (oneOf vs, S') else freezeRet S S' (oneOf vs)) = some r) (hd : E.defs f = false := by rfl) : vrun E (.fn f) args S = some r := by
 obtain ⟨x, fr', S', ⟨hx, vs, h1, h2⟩, n, hev⟩ := h
 obtain ⟨k0, hk⟩ := evCode_lim vrun_lim c (hev n (Nat.le_refl _))
 refine vrun_of ⟨k0 + 1, fun k hk' => ?_⟩
 obtain ⟨k, rfl⟩ : ∃ i, k = i + 1 := ⟨k - 1, by omega⟩
 have hc := hk k (by omega)
 rw [vcall]
 simp only [hf, hb, hd, Bool.false_eq_true, if_false, runFn, hc]
 rcases hx with rfl | rfl
 ·simp only [h1, Option.map_some]
  exact h2
 ·simp only [h1, Option.map_some]
  exact h2
theorem vrun_yl {id : Nat} {args : List V} {S : Store} {key : Nat} {fr : Fr} {nt : Nat} {ps : Array Tmp} {asg body : Code} {r : V × Store} (hS : S[id]? = some (.lp false key fr)) (hL : E.loops key = some (nt, ps, asg, body)) (hlen : args.length = ps.size)
  (h : W E asg (putAll fr ps.toList args) S fun x fr1 S1 => x = .normal ∧ ∃ key1 f1, S1[id]? = some (.lp false key1 f1) ∧
   W E body fr1 (S1.set id (.lp true key1 f1)) fun x fr2 S2 => x = .normal ∧ ∃ key2 f2, S2[id]? = some (.lp true key2 f2) ∧ r = (.bool true, S2.set id (.lp false key2 f2))) : vrun E (.yl id) args S = some r := by
 obtain ⟨x, fr1, S1, ⟨rfl, key1, f1, h1, x, fr2, S2, ⟨rfl, key2, f2, h2, rfl⟩, n2, hev2⟩, n, hev⟩ := h
 obtain ⟨k1, hk1⟩ := evCode_lim vrun_lim asg (hev n (Nat.le_refl _))
 obtain ⟨k2, hk2⟩ := evCode_lim vrun_lim body (hev2 n2 (Nat.le_refl _))
 refine vrun_of ⟨max k1 k2 + 1, fun k hk' => ?_⟩
 obtain ⟨k, rfl⟩ : ∃ i, k = i + 1 := ⟨k - 1, by omega⟩
 have hc1 := hk1 k (by omega)
 have hc2 := hk2 k (by omega)
 rw [vcall]
 simp only [runRound, hS, hL, hlen, if_true, hc1, h1, hc2, h2]
section
variable {fr : Fr} {S : Store} {Q : Ex → Fr → Store → Prop} {a b : Code}
theorem W.skip (h : Q .normal fr S) : W E .skip fr S Q := ⟨_, _, _, h, .of fun _ => by simp [evCode]⟩
theorem W.label {l : Nat} (h : Q .normal fr S) : W E (.label l) fr S Q := ⟨_, _, _, h, .of fun _ => by simp [evCode]⟩
theorem W.exit {i : Nat} (h : Q (.exit i) fr S) : W E (.exit i) fr S Q := ⟨_, _, _, h, .of fun _ => by simp [evCode]⟩
theorem W.ret (h : Q .ret fr S) : W E .ret fr S Q := ⟨_, _, _, h, .of fun _ => by simp [evCode]⟩
theorem W.mono {Q' : Ex → Fr → Store → Prop} (h : W E a fr S Q) (g : ∀ x fr S, Q x fr S → Q' x fr S) : W E a fr S Q' := by
 obtain ⟨x, fr', S', hq, he⟩ := h
 exact ⟨x, fr', S', g _ _ _ hq, he⟩
def thenE (K : Fr → Store → Prop) (Q : Ex → Fr → Store → Prop) : Ex → Fr → Store → Prop
 | .normal, fr, S => K fr S
 | x, fr, S => Q x fr S
theorem W.seq (h : W E a fr S (thenE (fun fr S => W E b fr S Q) Q)) : W E (.seq a b) fr S Q := by
 obtain ⟨x, fr', S', hq, he⟩ := h
 cases x with
 | normal =>
  obtain ⟨x2, fr2, S2, hq2, he2⟩ := hq
  exact ⟨x2, fr2, S2, hq2, he.mono2 he2 fun k h1 h2 => by simp only [evCode, h1]; exact h2⟩
 | exit i => exact ⟨_, _, _, hq, he.mono fun k h1 => by simp only [evCode, h1]⟩
 | goto i => exact ⟨_, _, _, hq, he.mono fun k h1 => by simp only [evCode, h1]⟩
 | ret => exact ⟨_, _, _, hq, he.mono fun k h1 => by simp only [evCode, h1]⟩
theorem W.cond_true {o : Operand} (ho : opnd E fr o = .bool true) (h : W E a fr S Q) : W E (.cond o a b) fr S Q := by
 obtain ⟨x, fr', S', hq, he⟩ := h
 exact ⟨x, fr', S', hq, he.mono fun k h1 => by simp only [evCode, ho]; exact h1⟩
theorem W.cond_false {o : Operand} (ho : opnd E fr o = .bool false) (h : W E b fr S Q) : W E (.cond o a b) fr S Q := by
 obtain ⟨x, fr', S', hq, he⟩ := h
 exact ⟨x, fr', S', hq, he.mono fun k h1 => by simp only [evCode, ho]; exact h1⟩
theorem W.cond {o : Operand} {t : Bool} (ho : opnd E fr o = .bool t) (h1 : t = true → W E a fr S Q) (h2 : t = false → W E b fr S Q) : W E (.cond o a b) fr S Q := by
 cases t with
 | true => exact W.cond_true ho (h1 rfl)
 | false => exact W.cond_false ho (h2 rfl)
def blockE (id : Nat) (Q : Ex → Fr → Store → Prop) : Ex → Fr → Store → Prop
 | .exit i, fr, S => if i = id then Q .normal fr S else Q (.exit i) fr S
 | x, fr, S => Q x fr S
theorem W.block {id : Nat} (h : W E a fr S (blockE id Q)) : W E (.block id a) fr S Q := by
 obtain ⟨x, fr', S', hq, he⟩ := h
 cases x with
 | normal => exact ⟨_, _, _, hq, he.mono fun k h1 => by simp only [evCode, h1]⟩
 | exit i =>
  simp only [blockE] at hq
  by_cases e : i = id
  ·rw [if_pos e] at hq
   exact ⟨_, _, _, hq, he.mono fun k h1 => by simp only [evCode, h1, e, if_true]⟩
  ·rw [if_neg e] at hq
   exact ⟨_, _, _, hq, he.mono fun k h1 => by simp only [evCode, h1, e, if_false]⟩
 | goto i => exact ⟨_, _, _, hq, he.mono fun k h1 => by simp only [evCode, h1]⟩
 | ret => exact ⟨_, _, _, hq, he.mono fun k h1 => by simp only [evCode, h1]⟩
theorem W.scope (h : W E a fr S (fun x fr S => (∀ l, x ≠ .goto l) ∧ Q x fr S)) : W E (.scope a) fr S Q := by
 obtain ⟨x, fr', S', hq, he⟩ := h
 refine ⟨x, fr', S', hq.2, he.mono fun k h1 => ?_⟩
 simp only [evCode, h1]
 cases x with
 | goto l => exact absurd rfl (hq.1 l)
 | normal => rfl
 | exit _ => rfl
 | ret => rfl
theorem W.loop (I : Nat → Fr → Store → Prop) (step : ∀ j fr S, I j fr S → W E a fr S (thenE (fun fr' S' => ∃ j', j' < j ∧ I j' fr' S') Q)) {j : Nat} (h0 : I j fr S) : W E (.loop a) fr S Q := by
 have key : ∀ (j : Nat) (fr : Fr) (S : Store), I j fr S → ∃ x fr' S', Q x fr' S' ∧ ∃ m, Ev_ fun n => ∀ i, m ≤ i → evLoop (evCode E (vrun E) n a) i fr S = some (x, fr', S') := by
  intro j
  induction j using Nat.strongRecOn with
  | _ j ih =>
   intro fr S hI
   obtain ⟨x, fr1, S1, hq, he⟩ := step j fr S hI
   have last : x ≠ .normal → Q x fr1 S1 → ∃ x fr' S', Q x fr' S' ∧ ∃ m, Ev_ fun n => ∀ i, m ≤ i → evLoop (evCode E (vrun E) n a) i fr S = some (x, fr', S') := by
    intro hx hq
    refine ⟨x, fr1, S1, hq, 1, he.mono fun n h1 i hi => ?_⟩
    obtain ⟨i, rfl⟩ : ∃ q, i = q + 1 := ⟨i - 1, by omega⟩
    rw [evLoop, h1]
    cases x with
    | normal => exact absurd rfl hx
    | exit _ => rfl
    | goto _ => rfl
    | ret => rfl
   cases x with
   | normal =>
    obtain ⟨j', hlt, hI'⟩ := hq
    obtain ⟨x, fr2, S2, hq2, m, he2⟩ := ih j' hlt fr1 S1 hI'
    refine ⟨x, fr2, S2, hq2, m + 1, he.mono2 he2 fun n h1 h2 i hi => ?_⟩
    obtain ⟨i, rfl⟩ : ∃ q, i = q + 1 := ⟨i - 1, by omega⟩
    rw [evLoop, h1]
    exact h2 i (by omega)
   | exit i => exact last (by simp) hq
   | goto i => exact last (by simp) hq
   | ret => exact last (by simp) hq
 obtain ⟨x, fr', S', hq, m, k0, he⟩ := key j fr S h0
 exact ⟨x, fr', S', hq, max k0 m, fun n hn => by simp only [evCode]; exact he n (by omega) n (by omega)⟩
theorem W.region {id : Nat} {ops : Array Oper} (h : match evOps E (vrun E) ops.toList ops.toList fr S with | some (fr', S') => Q .normal fr' S' | none => False) : W E (.region id ops false) fr S Q := by
 split at h
 ·rename_i fr' S' he
  exact ⟨_, _, _, h, .of fun n => by simp only [evCode, Bool.false_eq_true, if_false, he, Option.map_some]⟩
 ·exact h.elim
theorem W.draw {id : Nat} {ops : Array Oper} (hch : chainOk ops.toList (Region.before ops).toList = true) (h : match evDraw E (vrun E) ops.toList (Region.before ops).toList ops.toList 0 fr S [] [] with | some (fr', S') => Q .normal fr' S' | none => False) : W E (.region id ops true) fr S Q := by
 split at h
 ·rename_i fr' S' he
  exact ⟨_, _, _, h, .of fun n => by simp only [evCode, if_true, hch, he, Option.map_some]⟩
 ·exact h.elim
theorem W.drawP {id : Nat} {ops : Array Oper} (hch : chainOk ops.toList (Region.before ops).toList = false) (h : match evDrawP E (vrun E) ops fr S with | some (fr', S') => Q .normal fr' S' | none => False) : W E (.region id ops true) fr S Q := by
 split at h
 ·rename_i fr' S' he
  exact ⟨_, _, _, h, .of fun n => by simp only [evCode, if_true, hch, Bool.false_eq_true, if_false, he, Option.map_some]⟩
 ·exact h.elim
end
end Go.Vm
set_option autoImplicit false
namespace Go.Vm
variable {E : Env}
theorem Ev_.shift {p : Nat → Prop} (h : Ev_ fun k => p (k + 1)) : Ev_ p := by
 obtain ⟨a, ha⟩ := h
 refine ⟨a + 1, fun k hk => ?_⟩
 obtain ⟨k, rfl⟩ : ∃ i, k = i + 1 := ⟨k - 1, by omega⟩
 exact ha k (by omega)
theorem runFn_lim {c : CallT} {d : Nat → CallT} (hl : Lim c d) {k : Nat} {fn : Func} {cd : Code} {args : List V} {S : Store} {r : V × Store} (h : runFn E c k fn cd args S = some r) : Ev_ fun j => runFn E (d j) j fn cd args S = some r := by
 unfold runFn at h
 split at h
 ·rename_i fr S' hc
  exact (evCode_lim hl cd hc).mono fun j g => by rw [runFn, g]; exact h
 ·rename_i fr S' hc
  exact (evCode_lim hl cd hc).mono fun j g => by rw [runFn, g]; exact h
 ·cases h
theorem runRound_lim {c : CallT} {d : Nat → CallT} (hl : Lim c d) {k id : Nat} {args : List V} {S : Store} {r : V × Store} (h : runRound E c k id args S = some r) : Ev_ fun j => runRound E (d j) j id args S = some r := by
 unfold runRound at h
 split at h
 ·rename_i key fr h1
  split at h
  ·rename_i nt ps asg body h2
   split at h
   ·rename_i h3
    split at h
    ·rename_i fr1 S1 h4
     split at h
     ·rename_i key1 f1 h5
      split at h
      ·rename_i fr2 S2 h6
       split at h
       ·rename_i key2 f2 h7
        exact (evCode_lim hl asg h4).mono2 (evCode_lim hl body h6) fun j g1 g2 => by
         rw [runRound, h1]
         simp only [h2, h3, if_true, g1, h5, g2, h7]
         exact h
       ·cases h
      ·cases h
     ·cases h
    ·cases h
   ·cases h
  ·cases h
 ·cases h
theorem evOpsD_nd {c : CallT} {ops : List Oper} {o : Oper} {rest : List Oper} {fr : Fr} {S : Store} {D : Dfr} (hnd : ∀ cl, o.op ≠ .defer cl) (hw : wantedV ops fr o = some true) : evOpsD E c ops (o :: rest) fr S D = (match evOp E c (opnd E fr) S o with
  | some (v, S') => evOpsD E c ops rest (put fr o.dst v) S' D
  | none => none) := by
 rw [evOpsD, hw]
 obtain ⟨dst, op, type, pos, after, guard⟩ := o
 cases op <;> first | rfl | exact absurd rfl (hnd _)
theorem evOpsD_lim {c : CallT} {d : Nat → CallT} (hl : Lim c d) {ops : List Oper} : ∀ {rest : List Oper} {fr : Fr} {S : Store} {D : Dfr} {r : Fr × Store × Dfr}, evOpsD E c ops rest fr S D = some r → Ev_ fun k => evOpsD E (d k) ops rest fr S D = some r
 | [], fr, S, D, r, h => .of fun _ => by simpa [evOpsD] using h
 | o :: rest, fr, S, D, r, h => by
  rw [evOpsD] at h
  split at h
  ·rename_i hw
   split at h
   ·rename_i cl hop
    split at h
    ·rename_i f hcal
     split at h
     ·rename_i g first captured hv
      exact (evOpsD_lim hl h).mono fun k g => by
       rw [evOpsD]
       simp only [hw, hop, hcal, hv]
       exact g
     ·cases h
    ·cases h
   ·rename_i hnd
    split at h
    ·rename_i v S1 he
     exact (evOp_lim hl he).mono2 (evOpsD_lim hl h) fun k h1 h2 => by
      rw [evOpsD_nd (fun cl e => hnd cl e) hw, h1]
      exact h2
    ·cases h
  ·rename_i hw
   exact (evOpsD_lim hl h).mono fun k g => by
    rw [evOpsD]
    simp only [hw]
    exact g
  ·cases h
theorem evD_lim {c : CallT} {d : Nat → CallT} (hl : Lim c d) : ∀ (cd : Code) {n : Nat} {fr : Fr} {S : Store} {D : Dfr} {r : Ex × Fr × Store × Dfr}, evD E c n cd fr S D = some r → Ev_ fun k => evD E (d k) k cd fr S D = some r := by
 have base : ∀ (cd : Code) {n : Nat} {fr : Fr} {S : Store} {D : Dfr} {r : Ex × Fr × Store × Dfr}, (if noDef cd then (evCode E c n cd fr S).map fun x => (x.1, x.2.1, x.2.2, D) else none) = some r → Ev_ fun k => (if noDef cd then (evCode E (d k) k cd fr S).map fun x => (x.1, x.2.1, x.2.2, D) else none) = some r := by
  intro cd n fr S D r h
  split at h
  ·rename_i hn
   obtain ⟨x, hx, rfl⟩ := Option.map_eq_some_iff.1 h
   exact (evCode_lim hl cd hx).mono fun k g => by rw [if_pos hn, g]; rfl
  ·cases h
 intro cd
 induction cd with
 | seq a b iha ihb =>
  intro n fr S D r h
  rw [evD] at h
  split at h
  ·rename_i fr1 S1 D1 h1
   exact (iha h1).mono2 (ihb h) fun k g1 g2 => by rw [evD, g1]; exact g2
  ·rename_i hne
   refine (iha h).mono fun k g => ?_
   rw [evD, g]
   obtain ⟨x, fr', S', D'⟩ := r
   cases x with
   | normal => exact absurd h (hne _ _ _)
   | exit _ => rfl
   | goto _ => rfl
   | ret => rfl
 | cond o a b iha ihb =>
  intro n fr S D r h
  rw [evD] at h
  split at h
  ·rename_i ho
   exact (iha h).mono fun k g => by rw [evD, ho]; exact g
  ·rename_i ho
   exact (ihb h).mono fun k g => by rw [evD, ho]; exact g
  ·cases h
 | region id ops draw =>
  intro n fr S D r h
  rw [evD] at h
  cases draw with
  | true =>
   simp only [if_true] at h
   exact (base _ h).mono fun k g => by rw [evD]; simpa only [if_true] using g
  | false =>
   simp only [Bool.false_eq_true, if_false] at h
   obtain ⟨x, hx, rfl⟩ := Option.map_eq_some_iff.1 h
   exact (evOpsD_lim hl hx).mono fun k g => by rw [evD]; simp only [Bool.false_eq_true, if_false, g]; rfl
 | _ =>
  intro n fr S D r h
  rw [evD] at h
  ·exact (base _ h).mono fun k g => by
    rw [evD]
    ·exact g
    all_goals simp
  all_goals simp
theorem runD_lim {c : CallT} {d : Nat → CallT} (hl : Lim c d) : ∀ {D : Dfr} {S : Store} {r : Store}, runD E c D S = some r → Ev_ fun k => runD E (d k) D S = some r
 | [], S, r, h => .of fun _ => by simpa [runD] using h
 | (g, args) :: D, S, r, h => by
  rw [runD] at h
  split at h
  ·rename_i hc
   exact (runD_lim hl h).mono fun k g => by rw [runD, if_pos hc]; exact g
  ·rename_i hc
   split at h
   ·rename_i hk
    split at h
    ·rename_i v S1 h1
     exact (hl _ _ _ _ h1).mono2 (runD_lim hl h) fun k g1 g2 => by rw [runD, if_neg hc, if_pos hk, g1]; exact g2
    ·cases h
   ·cases h
theorem runFnD_lim {c : CallT} {d : Nat → CallT} (hl : Lim c d) {k : Nat} {fn : Func} {cd : Code} {args : List V} {S : Store} {r : V × Store} (h : runFnD E c k fn cd args S = some r) : Ev_ fun j => runFnD E (d j) j fn cd args S = some r := by
 unfold runFnD at h
 split at h
 ·rename_i fr S' D hc
  split at h
  ·rename_i S2 hd
   exact (evD_lim hl cd hc).mono2 (runD_lim hl hd) fun j g1 g2 => by rw [runFnD, g1]; simp only [g2]; exact h
  ·cases h
 ·rename_i fr S' D hc
  split at h
  ·rename_i S2 hd
   exact (evD_lim hl cd hc).mono2 (runD_lim hl hd) fun j g1 g2 => by rw [runFnD, g1]; simp only [g2]; exact h
  ·cases h
 ·cases h
theorem vcall_lim : ∀ k, Lim (vcall E k) (vcall E)
 | 0 => fun t a S r h => by
  rw [vcall] at h; cases h
 | k + 1 => fun t a S r h => by
  refine Ev_.shift ?_
  cases t with
  | yl id =>
   rw [vcall] at h
   exact (runRound_lim (vcall_lim k) h).mono fun j g => by rw [vcall]; exact g
  | fn f =>
   rw [vcall] at h
   split at h
   ·rename_i fn hf
    split at h
    ·rename_i c hc
     split at h
     ·rename_i v S' hr
      split at hr
      ·rename_i hd
       exact (runFnD_lim (vcall_lim k) hr).mono fun j g => by
        rw [vcall]
        simp only [hf, hc, if_pos hd, g]
        exact h
      ·rename_i hd
       exact (runFn_lim (vcall_lim k) hr).mono fun j g => by
        rw [vcall]
        simp only [hf, hc, if_neg hd, g]
        exact h
     ·cases h
    ·cases h
   ·cases h
def WD (E : Env) (c : Code) (fr : Fr) (S : Store) (D : Dfr) (Q : Ex → Fr → Store → Dfr → Prop) : Prop := ∃ x fr' S' D', Q x fr' S' D' ∧ Ev_ fun n => evD E (vrun E) n c fr S D = some (x, fr', S', D')
theorem vrun_fnD {f : FuncId} {fn : Func} {c : Code} {args : List V} {S : Store} {r : V × Store} (hf : E.P.funcs[f]? = some fn) (hb : fn.body = some c) (hd : E.defs f = true)
  (h : WD E c args S [] fun x fr' S' D => (x = .normal ∨ x = .ret) ∧ ∃ S2, runD E (vrun E) D S' = some S2 ∧ ∃ vs, resultV E fr' S2 fn.results.toList = some vs ∧ (if E.keep f then some (oneOf vs, S2) else freezeRet S S2 (oneOf vs)) = some r) : vrun E (.fn f) args S = some r := by
 obtain ⟨x, fr', S', D, ⟨hx, S2, h0, vs, h1, h2⟩, n, hev⟩ := h
 obtain ⟨k0, hk⟩ := evD_lim vrun_lim c (hev n (Nat.le_refl _))
 obtain ⟨k1, hk1⟩ := runD_lim vrun_lim h0
 refine vrun_of ⟨max k0 k1 + 1, fun k hk' => ?_⟩
 obtain ⟨k, rfl⟩ : ∃ i, k = i + 1 := ⟨k - 1, by omega⟩
 have hc := hk k (by omega)
 have hc1 := hk1 k (by omega)
 rw [vcall]
 simp only [hf, hb, hd, if_true, runFnD, hc]
 rcases hx with rfl | rfl
 ·simp only [hc1, h1, Option.map_some]
  exact h2
 ·simp only [hc1, h1, Option.map_some]
  exact h2
theorem WD.seq {a b : Code} {fr : Fr} {S : Store} {D : Dfr} {Q : Ex → Fr → Store → Dfr → Prop} (h : WD E a fr S D fun x fr' S' D' => x = .normal ∧ WD E b fr' S' D' Q) : WD E (.seq a b) fr S D Q := by
 obtain ⟨x, fr', S', D', ⟨rfl, x2, fr2, S2, D2, hq, he2⟩, he⟩ := h
 exact ⟨x2, fr2, S2, D2, hq, he.mono2 he2 fun n g1 g2 => by rw [evD, g1]; exact g2⟩
theorem WD.cond_true {o : Operand} {a b : Code} {fr : Fr} {S : Store} {D : Dfr} {Q : Ex → Fr → Store → Dfr → Prop} (ho : opnd E fr o = .bool true) (h : WD E a fr S D Q) : WD E (.cond o a b) fr S D Q := by
 obtain ⟨x, fr', S', D', hq, he⟩ := h
 exact ⟨x, fr', S', D', hq, he.mono fun n g => by rw [evD, ho]; exact g⟩
theorem WD.cond_false {o : Operand} {a b : Code} {fr : Fr} {S : Store} {D : Dfr} {Q : Ex → Fr → Store → Dfr → Prop} (ho : opnd E fr o = .bool false) (h : WD E b fr S D Q) : WD E (.cond o a b) fr S D Q := by
 obtain ⟨x, fr', S', D', hq, he⟩ := h
 exact ⟨x, fr', S', D', hq, he.mono fun n g => by rw [evD, ho]; exact g⟩
theorem WD.region {id : Nat} {ops : Array Oper} {fr : Fr} {S : Store} {D : Dfr} {Q : Ex → Fr → Store → Dfr → Prop} {fr' : Fr} {S' : Store} {D' : Dfr} (h : evOpsD E (vrun E) ops.toList ops.toList fr S D = some (fr', S', D')) (hq : Q .normal fr' S' D') : WD E (.region id ops false) fr S D Q :=
 ⟨.normal, fr', S', D', hq, .of fun n => by rw [evD]; simp only [Bool.false_eq_true, if_false, h]; rfl⟩
theorem WD.skip {fr : Fr} {S : Store} {D : Dfr} {Q : Ex → Fr → Store → Dfr → Prop} (hq : Q .normal fr S D) : WD E .skip fr S D Q := ⟨.normal, fr, S, D, hq, .of fun n => rfl⟩
theorem WD.ret {fr : Fr} {S : Store} {D : Dfr} {Q : Ex → Fr → Store → Dfr → Prop} (hq : Q .ret fr S D) : WD E .ret fr S D Q := ⟨.ret, fr, S, D, hq, .of fun n => rfl⟩
theorem evOpsD_nil {c : CallT} (ops : List Oper) {fr : Fr} {S : Store} {D : Dfr} : evOpsD E c ops [] fr S D = some (fr, S, D) := rfl
end Go.Vm
