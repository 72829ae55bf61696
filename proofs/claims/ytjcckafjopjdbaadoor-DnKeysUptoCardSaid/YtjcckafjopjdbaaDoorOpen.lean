import Derived.Test.YtjcckafjopjdbaaDoorFits
import Derived.WideShapes
import Derived.Test.YtjcckafjopjdbaaDoorPartC
set_option linter.all false
/- What came in, opened: a reading of an argument gives an evaluator's value, piece by piece by its type. -/
set_option autoImplicit false
set_option linter.unusedVariables false
set_option linter.unusedSimpArgs false
namespace Go.Vm
open Go.ChangeShapes
/-- A measure of readings. -/
structure Bulk (H : Type) (b : DataW H → Nat) (ba : List (DataW H) → Nat) : Prop where
  nil : ba [] = 0
  cons : ∀ d l, ba (d :: l) = b d + ba l
  str : ∀ s, s.length ≤ b (.lit (.string s))
  agg : ∀ l, ba l ≤ b (.agg l)
  sl : ∀ l r, ba l + l.length ≤ b (.slice l r) + ba l ∧ ba l + 1 ≤ b (.slice l r)
  pos : ∀ d, 1 ≤ b d
/-- Cells of the type t, read, are f a for some a; its size is at most the reading's. -/
structure Opn (P : Program) (t : TypeId) {α : Type} (f : α → List V) (g : α → Nat) : Prop where
  out : ∀ {H : Type} {enc : TypeId × Value → H} {b : DataW H → Nat} {ba : List (DataW H) → Nat}, Bulk H b ba → ∀ {W : World} {held : Bool} {fuel : Nat} {cs : List Value} {x : DataW H × List MemPlace},
    (∀ p ∈ x.2, p.block < W.heap.size) → DataW.trod enc P W 0 (fun _ => true) held fuel t cs = some x → ∃ a, VRL (m0 W) (f a) cs ∧ Leafs cs ∧ V.noRefL (f a) = true ∧ g a ≤ b x.1
theorem noRefL_append : ∀ (a b : List V), V.noRefL (a ++ b) = (V.noRefL a && V.noRefL b)
  | [], b => by simp [V.noRefL]
  | c :: a, b => by simp [V.noRefL, noRefL_append a b, Bool.and_assoc]
theorem Opn.string {P : Program} {t : TypeId} (ht : P.underlying t = some .string) : Opn P t (fun s : List UInt8 => [.str s]) (fun s => s.length) := by
  constructor
  intro H enc b ba B W held fuel cs x _ h
  obtain ⟨s, rfl, rfl, _⟩ := DataW.trod_string ht h
  exact ⟨s.data.toList, ⟨_, _, rfl, by simp [VR], rfl⟩, fun u hu => by rw [List.mem_singleton] at hu; subst hu; rfl, rfl, B.str _⟩
theorem Opn.int {P : Program} {t : TypeId} {k : IntKind} (ht : P.underlying t = some (.int k)) : Opn P t (fun n : { n : Int // (Lit.int k n).wf = true } => [.int k n.1]) (fun _ => 0) := by
  constructor
  intro H enc b ba B W held fuel cs x _ h
  obtain ⟨n, rfl, rfl, hw⟩ := DataW.trod_int ht h
  exact ⟨⟨n, hw⟩, ⟨_, _, rfl, by simp [VR], rfl⟩, fun u hu => by rw [List.mem_singleton] at hu; subst hu; rfl, rfl, Nat.zero_le _⟩
theorem Opn.bool {P : Program} {t : TypeId} (ht : P.underlying t = some .bool) : Opn P t (fun n : Bool => [.bool n]) (fun _ => 0) := by
  constructor
  intro H enc b ba B W held fuel cs x _ h
  obtain ⟨n, rfl, rfl⟩ := DataW.trod_bool ht h
  exact ⟨n, ⟨_, _, rfl, by simp [VR], rfl⟩, fun u hu => by rw [List.mem_singleton] at hu; subst hu; rfl, rfl, Nat.zero_le _⟩
/-! ### structs -/
/-- The fields from an offset on, to the struct's end. -/
structure OpnF (P : Program) (off total : Nat) (L : List Field) {α : Type} (f : α → List V) (g : α → Nat) : Prop where
  out : ∀ {H : Type} {enc : TypeId × Value → H} {b : DataW H → Nat} {ba : List (DataW H) → Nat}, Bulk H b ba → ∀ {W : World} {held : Bool} {n : Nat} {cs : List Value} {xs : List (DataW H × List MemPlace)}, cs.length = total →
    (∀ y ∈ xs, ∀ p ∈ y.2, p.block < W.heap.size) → L.mapM (fun f => DataW.trod enc P W 0 (fun _ => true) held n f.type ((cs.drop f.offset).take (P.cellsOf f.type))) = some xs → ∃ a, VRL (m0 W) (f a) (cs.drop off) ∧ Leafs (cs.drop off) ∧ V.noRefL (f a) = true ∧ g a ≤ ba (xs.map (·.1))
theorem OpnF.nil {P : Program} {total : Nat} : OpnF P total total [] (fun _ : Unit => []) (fun _ => 0) := by
  constructor
  intro H enc b ba B W held n cs xs hl _ h
  have : cs.drop total = [] := List.drop_eq_nil_iff.2 (by omega)
  rw [this]
  exact ⟨(), rfl, fun u hu => by simp at hu, rfl, Nat.zero_le _⟩
theorem OpnF.cons {P : Program} {off total : Nat} {fd : Field} {L : List Field} {α β : Type} {f : α → List V} {g : α → Nat} {f' : β → List V} {g' : β → Nat} {c : Nat} (ho : fd.offset = off) (hc : P.cellsOf fd.type = c) (h1 : Opn P fd.type f g) (h2 : OpnF P (off + c) total L f' g') :
    OpnF P off total (fd :: L) (fun a : α × β => f a.1 ++ f' a.2) (fun a => g a.1 + g' a.2) := by
  constructor
  intro H enc b ba B W held n cs xs hl hp h
  rw [List.mapM_cons] at h
  simp only [Option.bind_eq_bind, Option.pure_def] at h
  obtain ⟨y, hy, h⟩ := Option.bind_eq_some_iff.1 h
  obtain ⟨ys, hys, h⟩ := Option.bind_eq_some_iff.1 h
  injection h with h
  subst h
  obtain ⟨a, a1, a2, a3, a4⟩ := h1.out B (hp y (by simp)) hy
  obtain ⟨a', b1, b2, b3, b4⟩ := h2.out B hl (fun z hz => hp z (by simp [hz])) hys
  have e : cs.drop off = (cs.drop fd.offset).take (P.cellsOf fd.type) ++ cs.drop (off + c) := by
    rw [ho, hc, ← List.drop_drop, List.take_append_drop]
  refine ⟨(a, a'), ?_, ?_, ?_, ?_⟩
  · rw [e]; exact VRL.append a1 b1
  · rw [e]; exact Leafs.append a2 b2
  · rw [noRefL_append, a3, b3]; rfl
  · rw [List.map_cons, B.cons]
    exact Nat.add_le_add a4 b4
theorem Opn.struct {P : Program} {t : TypeId} {fs : Array Field} {α : Type} {f : α → List V} {g : α → Nat} (ht : P.underlying t = some (.struct fs)) (h : OpnF P 0 (P.cellsOf t) fs.toList f g) : Opn P t f g := by
  constructor
  intro H enc b ba B W held fuel cs x hp hx
  cases fuel with
  | zero => simp [DataW.trod] at hx
  | succ n =>
    unfold DataW.trod at hx
    rw [ht] at hx
    simp only at hx
    have hx : (if cs.length = P.cellsOf t then (fs.toList.mapM fun f => DataW.trod enc P W 0 (fun _ => true) held n f.type ((cs.drop f.offset).take (P.cellsOf f.type))).map fun xs => (DataW.agg (xs.map (·.1)), xs.flatMap (·.2)) else none) = some x := by
      revert hx
      cases cs with
      | nil => exact id
      | cons c r => exact id
    split at hx
    · rename_i hl
      obtain ⟨xs, h1, rfl⟩ := Option.map_eq_some_iff.1 hx
      obtain ⟨a, a1, a2, a3, a4⟩ := h.out B hl (fun y hy p hpy => hp p (List.mem_flatMap.2 ⟨y, hy, hpy⟩)) h1
      exact ⟨a, a1, a2, a3, Nat.le_trans a4 (B.agg _)⟩
    · cases hx
/-! ### slices -/
def slV {α : Type} (f : α → List V) : Option (List α) → List V
  | none => [.slN]
  | some l => [.slI l.length (l.flatMap f)]
def slG {α : Type} (g : α → Nat) : Option (List α) → Nat
  | none => 0
  | some l => (l.map fun a => max 1 (g a)).sum
theorem cells_of {W : World} {a : Addr} {n : Nat} {cs : List Value} (h : W.cells? 0 a n = some cs) : cs.length = n ∧ ∀ i v, cs[i]? = some v → W.cell? (a.add i) = some v := by
  unfold World.cells? at h
  rw [if_pos (Nat.zero_le _)] at h
  have hl := mapM_some_length h
  refine ⟨by simpa using hl, fun i v hi => ?_⟩
  have hlt := (List.getElem?_eq_some_iff.1 hi).1
  have hlt' : i < n := by simp at hl; omega
  have := mapM_some_get h i i (by simp [hlt'])
  rw [this, hi]
theorem Opn.slice {P : Program} {t e : TypeId} {α : Type} {f : α → List V} {g : α → Nat} {c : Nat} (ht : P.underlying t = some (.slice e)) (hc : P.cellsOf e = c) (hc0 : 0 < c) (hf : ∀ a, (f a).length = c) (he : Opn P e f g) : Opn P t (slV f) (slG g) := by
  constructor
  intro H enc b ba B W held fuel cs x hp hx
  rcases DataW.trod_slice ht hx with ⟨rfl, rfl⟩ | ⟨a, len, cap, elems, rest, n, _, rfl, rfl, hb, hl, hm, hlen, hel, _, _⟩
  · exact ⟨none, ⟨_, _, rfl, by simp [VR], rfl⟩, fun u hu => by rw [List.mem_singleton] at hu; subst hu; rfl, rfl, Nat.zero_le _⟩
  · have key : ∀ k, k ≤ len → ∃ (l : List α) (us : List Value), l.length = k ∧ us.length = k * c ∧ VRL (m0 W) (l.flatMap f) us ∧ Leafs us ∧ V.noRefL (l.flatMap f) = true ∧ (∀ j u, us[j]? = some u → ∃ i q, j = i * c + q ∧ W.cell? ((a.add (i * c)).add q) = some u) ∧ (l.map fun a => max 1 (g a)).sum ≤ ba ((elems.take k).map (·.1)) := by
      intro k
      induction k with
      | zero => intro _; exact ⟨[], [], rfl, by simp, rfl, fun u hu => by simp at hu, rfl, fun j u hj => by simp at hj, by simp⟩
      | succ k ih =>
        intro hk
        obtain ⟨l, us, l1, l2, l3, l4, l5, l6, l7⟩ := ih (by omega)
        have hk' : k < elems.length := by omega
        have h1 := hel k (by omega)
        rw [List.getElem?_eq_getElem hk'] at h1
        obtain ⟨cs', c1, c2⟩ := Option.bind_eq_some_iff.1 h1
        obtain ⟨d1, d2⟩ := cells_of c1
        obtain ⟨a', a1, a2, a3, a4⟩ := he.out B (fun p hpp => hp p (by
          refine List.mem_append_right _ (List.mem_flatMap.2 ⟨elems[k], List.mem_append_left _ (List.getElem_mem hk'), hpp⟩))) c2
        refine ⟨l ++ [a'], us ++ cs', by simp [l1], ?_, ?_, Leafs.append l4 a2, ?_, ?_, ?_⟩
        · rw [List.length_append, l2, d1, hc, Nat.add_mul, Nat.one_mul]
        · rw [List.flatMap_append]; simpa using VRL.append l3 a1
        · rw [List.flatMap_append, noRefL_append, l5]; simpa using a3
        · intro j u hj
          by_cases hlt : j < us.length
          · rw [List.getElem?_append_left hlt] at hj
            exact l6 j u hj
          · rw [List.getElem?_append_right (by omega)] at hj
            have := d2 _ _ hj
            rw [hc] at this
            exact ⟨k, j - us.length, by omega, this⟩
        · rw [List.take_succ_eq_append_getElem hk', List.map_append, List.map_append, List.sum_append]
          have hba : ∀ l r : List (DataW H), ba (l ++ r) = ba l + ba r := by
            intro l r
            induction l with
            | nil => simp [B.nil]
            | cons d l ih => rw [List.cons_append, B.cons, B.cons, ih]; omega
          rw [hba]
          refine Nat.add_le_add l7 ?_
          have h1 := B.pos elems[k].1
          simp [B.cons, B.nil]
          omega
    obtain ⟨l, us, l1, l2, l3, l4, l5, l6, l7⟩ := key len (Nat.le_refl _)
    have hbulk : slG g (some l) ≤ b (.slice (elems.map (·.1)) (rest.map (·.1))) := by
      have h1 := (B.sl (elems.map (·.1)) (rest.map (·.1))).2
      rw [← hlen, List.take_length] at l7
      exact Nat.le_trans l7 (by omega)
    refine ⟨some l, ⟨_, _, rfl, ?_, rfl⟩, fun u hu => by rw [List.mem_singleton] at hu; subst hu; rfl, by simp [slV, V.noRefL, V.noRef, l5], hbulk⟩
    simp only [VR]
    refine ⟨some a, cap, us, by rw [l1], by omega, l4, l3, ?_, l5⟩
    by_cases h0 : len = 0
    · exact .inl (by omega)
    · right
      have hpos : 0 < us.length := by rw [l2]; exact Nat.mul_pos (by omega) hc0
      obtain ⟨i, q, hiq, hcell⟩ := l6 0 us[0] (List.getElem?_eq_getElem hpos)
      have hi0 : i = 0 := by
        rcases Nat.eq_zero_or_pos i with h | h
        · exact h
        · have := Nat.mul_pos h hc0; omega
      subst hi0
      have hq0 : q = 0 := by omega
      subst hq0
      rw [Nat.zero_mul] at hcell
      have hadd0 : ∀ x : Addr, x.add 0 = x := fun x => by simp [Addr.add]
      rw [hadd0, hadd0] at hcell
      have hspot : a.spot = none := by
        unfold World.cell? at hcell
        split at hcell
        · split at hcell
          · cases hcell
          · rename_i hs
            cases hsp : a.spot with
            | none => rfl
            | some z => rw [hsp] at hs; simp at hs
        · cases hcell
      obtain ⟨B', o, sp⟩ := a
      simp only at hspot
      subst hspot
      refine ⟨B', o, rfl, ?_, ?_⟩
      · show B' < W.heap.size
        unfold World.cell? at hcell
        rcases Nat.lt_or_ge B' W.heap.size with h | h
        · exact h
        · simp only [Array.getElem?_eq_none h] at hcell; cases hcell
      · intro j u hj
        obtain ⟨i, q, rfl, hcl⟩ := l6 j u hj
        rw [addr_add, addr_add] at hcl
        rw [show o + (i * c + q) = o + i * c + q by omega]
        exact hcl
/-- A whole argument that is one cell. -/
theorem Opn.arg {P : Program} {t : TypeId} {α : Type} {f : α → List V} {g : α → Nat} (ho : Opn P t f g) {H : Type} {enc : TypeId × Value → H} {b : DataW H → Nat} {ba : List (DataW H) → Nat} (B : Bulk H b ba) {W : World} {held : Bool} {v : Value} {d : DataW H} {ps : List MemPlace}
    (hv : v.cells.toList = [v]) (hp : ∀ p ∈ ps, p.block < W.heap.size) (h : DataW.Trod enc P W 0 (fun _ => true) held t v d ps) : ∃ a, VRL (m0 W) (f a) [v] ∧ g a ≤ b d := by
  obtain ⟨fuel, hx⟩ := h
  obtain ⟨a, a1, _, _, a4⟩ := ho.out B (x := (d, ps)) hp hx
  rw [hv] at a1
  exact ⟨a, a1, a4⟩
end Go.Vm
namespace Go.Proofs.YtjcckafjopjdbaaDoor
open Go Go.Vm
set_option maxRecDepth 100000
theorem bulkOk (H : Type) : Bulk H Rows.uptoBulk Rows.uptoBulkAll where
  nil := by simp [Rows.uptoBulkAll]
  cons := fun d l => by simp [Rows.uptoBulkAll]
  str := fun s => by simp [Rows.uptoBulk]
  agg := fun l => by simp [Rows.uptoBulk]
  sl := fun l r => by
    have pos : ∀ d : DataW H, 1 ≤ Rows.uptoBulk d := fun d => by
      cases d with
      | lit l => cases l <;> simp [Rows.uptoBulk]
      | _ => simp [Rows.uptoBulk]
    have : l.length ≤ Rows.uptoBulkAll l := by
      induction l with
      | nil => simp
      | cons d l ih => have := pos d; simp only [Rows.uptoBulkAll, List.length_cons]; omega
    simp only [Rows.uptoBulk]
    omega
  pos := fun d => by
    cases d with
    | lit l => cases l <;> simp [Rows.uptoBulk]
    | _ => simp [Rows.uptoBulk]
theorem cells40 : Tryd.prog.cellsOf 40 = 2 := by kernel_rfl
theorem cells38 : Tryd.prog.cellsOf 38 = 1 := by kernel_rfl
theorem cells9 : Tryd.prog.cellsOf 9 = 1 := by kernel_rfl
abbrev AvaT := List UInt8 × (List UInt8 × Unit)
def f40 (a : AvaT) : List V := [.str a.1] ++ ([.str a.2.1] ++ [])
def g40 (a : AvaT) : Nat := a.1.length + (a.2.1.length + 0)
theorem opn40 : Opn Tryd.prog 40 f40 g40 := by
  refine Opn.struct Tryd.underlying40 ?_
  rw [cells40]
  have h2 : ∀ fd : Field, fd.offset = 1 → fd.type = 9 → OpnF Tryd.prog 1 2 [fd] (fun a : List UInt8 × Unit => [.str a.1] ++ []) (fun a => a.1.length + 0) := fun fd h1 h2 =>
    OpnF.cons (c := 1) h1 (by rw [h2]; exact cells9) (by rw [h2]; exact Opn.string Tryd.underlying9) OpnF.nil
  have h1 : ∀ fd gd : Field, fd.offset = 0 → fd.type = 9 → gd.offset = 1 → gd.type = 9 → OpnF Tryd.prog 0 2 [fd, gd] f40 g40 := fun fd gd a1 a2 a3 a4 =>
    OpnF.cons (c := 1) (f := fun s : List UInt8 => [.str s]) (g := fun s => s.length) (f' := fun a : List UInt8 × Unit => [.str a.1] ++ []) (g' := fun a => a.1.length + 0) a1 (by rw [a2]; exact cells9) (by rw [a2]; exact Opn.string Tryd.underlying9) (h2 gd a3 a4)
  exact h1 _ _ rfl rfl rfl rfl
theorem opn38 : Opn Tryd.prog 38 (slV f40) (slG g40) := Opn.slice Tryd.underlying38 cells40 (by omega) (fun a => rfl) opn40
theorem opn24 : Opn Tryd.prog 24 (slV (slV f40)) (slG (slG g40)) := Opn.slice Tryd.underlying24 cells38 (by omega) (fun a => by cases a <;> rfl) opn38
def toA (a : AvaT) : Ava := (a.1, a.2.1)
def toR (r : Option (List AvaT)) : List Ava := (r.getD []).map toA
def toN (n : Option (List (Option (List AvaT)))) : List (List Ava) := (n.getD []).map toR
theorem f40_flat (l : List AvaT) : l.flatMap f40 = (l.map toA).flatMap avaC := by
  induction l with
  | nil => rfl
  | cons a l ih => simp only [List.flatMap_cons, List.map_cons, ih]; rfl
theorem isRdn_of (S : Store) (r : Option (List AvaT)) : ∃ c, slV f40 r = [c] ∧ isRdn S c (toR r) := by
  cases r with
  | none => exact ⟨.slN, rfl, rfl, .inl ⟨rfl, rfl⟩⟩
  | some l =>
    refine ⟨_, rfl, ?_, .inr (.inl ?_)⟩
    · show ((l.map toA).flatMap avaC).length = (l.map toA).length * 2
      induction l with
      | nil => rfl
      | cons a l ih => simp only [List.map_cons, List.flatMap_cons, List.length_append, ih, List.length_cons]; simp [avaC]; omega
    · show V.slI l.length (l.flatMap f40) = .slI (l.map toA).length ((l.map toA).flatMap avaC)
      rw [f40_flat, List.length_map]
theorem isDn_of (S : Store) (n : Option (List (Option (List AvaT)))) : ∃ c, slV (slV f40) n = [c] ∧ isDn S c (toN n) := by
  cases n with
  | none => exact ⟨.slN, rfl, [], ⟨rfl, .inl ⟨rfl, rfl⟩⟩, fun i hi => by simp [toN] at hi⟩
  | some l =>
    refine ⟨_, rfl, l.flatMap (slV f40), ⟨?_, .inr (.inl ?_)⟩, fun i hi => ?_⟩
    · simp only [toN, Option.getD_some, List.length_map, Nat.mul_one]
      clear S
      induction l with
      | nil => rfl
      | cons a l ih =>
        rw [List.flatMap_cons, List.length_append, ih]
        cases a <;> simp [slV] <;> omega
    · simp [toN]
    · have hi' : i < l.length := by simpa [toN] using hi
      have hget : ∀ (l : List (Option (List AvaT))) (i : Nat) (h : i < l.length), ∃ c, (l.flatMap (slV f40))[i]? = some c ∧ slV f40 l[i] = [c] := by
        intro l
        induction l with
        | nil => intro i h; simp at h
        | cons a l ih =>
          intro i h
          obtain ⟨c, hc, _⟩ := isRdn_of [] a
          rw [List.flatMap_cons, hc]
          cases i with
          | zero => exact ⟨c, rfl, hc⟩
          | succ i =>
            obtain ⟨c', h1, h2⟩ := ih i (by simpa using h)
            exact ⟨c', by simpa using h1, h2⟩
      obtain ⟨c, h1, h2⟩ := hget l i hi'
      refine ⟨c, h1, ?_⟩
      obtain ⟨c', h3, h4⟩ := isRdn_of S l[i]
      rw [h2] at h3
      injection h3 with h3
      subst h3
      have : (toN (some l)).getD i [] = toR l[i] := by simp [toN, List.getD, hi']
      rw [this]
      exact h4
theorem sum_ge {α : Type} (g : α → Nat) : ∀ (l : List α), l.length ≤ (l.map fun a => max 1 (g a)).sum ∧ ∀ a ∈ l, g a ≤ (l.map fun a => max 1 (g a)).sum
  | [] => ⟨Nat.le_refl _, fun a h => by simp at h⟩
  | a :: l => by
    obtain ⟨h1, h2⟩ := sum_ge g l
    simp only [List.map_cons, List.sum_cons, List.length_cons]
    refine ⟨by omega, fun b hb => ?_⟩
    rcases List.mem_cons.1 hb with rfl | hb
    · omega
    · have := h2 b hb; omega
theorem okN_of (n : Option (List (Option (List AvaT)))) (h : slG (slG g40) n ≤ 1048576) : okN (toN n) := by
  cases n with
  | none => exact ⟨by simp [toN], fun r hr => by simp [toN] at hr⟩
  | some l =>
    obtain ⟨h1, h2⟩ := sum_ge (slG g40) l
    simp only [slG] at h
    refine ⟨by simp only [toN, Option.getD_some, List.length_map]; exact Nat.le_trans h1 h, fun r hr => ?_⟩
    simp only [toN, Option.getD_some] at hr
    obtain ⟨o, ho, rfl⟩ := List.mem_map.1 hr
    have h3 := Nat.le_trans (h2 o ho) h
    cases o with
    | none => exact ⟨by simp [toR], fun a ha => by simp [toR] at ha⟩
    | some m =>
      obtain ⟨h4, h5⟩ := sum_ge g40 m
      simp only [slG] at h3
      refine ⟨by simp only [toR, Option.getD_some, List.length_map]; exact Nat.le_trans h4 h3, fun a ha => ?_⟩
      simp only [toR, Option.getD_some] at ha
      obtain ⟨b, hb, rfl⟩ := List.mem_map.1 ha
      have := Nat.le_trans (h5 b hb) h3
      unfold g40 at this
      exact ⟨by simp only [toA]; omega, by simp only [toA]; omega⟩
theorem open_dn {H : Type} {enc : TypeId × Value → H} {W : World} {held : Bool} {r : Reach} {base : Nat} {v : Value} {d : DataW H} {ps : List MemPlace} (hval : Value.okWide Tryd.prog W r base 24 v) (h : DataW.Trod enc Tryd.prog W 0 (fun _ => true) held 24 v d ps)
    (hp : ∀ p ∈ ps, p.block < W.heap.size) (hb : Rows.uptoBulk d ≤ 1048576) : ∃ u n, VR (m0 W) u v ∧ isDn [] u n ∧ okN n := by
  obtain ⟨a, len, cap, rfl⟩ := Go.WideShapes.okWide_slice Tryd.underlying24 hval
  obtain ⟨x, h1, h2⟩ := opn24.arg (bulkOk H) rfl hp h
  obtain ⟨c, hc, hd⟩ := isDn_of [] x
  rw [hc] at h1
  exact ⟨c, toN x, (VRL.cons_iff.1 h1).1, hd, okN_of x (Nat.le_trans h2 hb)⟩
end Go.Proofs.YtjcckafjopjdbaaDoor
