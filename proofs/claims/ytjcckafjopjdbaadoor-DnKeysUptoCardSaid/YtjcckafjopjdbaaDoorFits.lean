import Derived.Test.YtjcckafjopjdbaaDoorVmE
import Derived.ChangeSame
import Derived.WideKeyArgs
import Derived.ChangeMaps5
import Derived.RowKit
import Derived.Test.YtjcckafjopjdbaaDoorCards
import Derived.Test.YtjcckafjopjdbaaDoorTie
import Derived.WalkKit
import Derived.ProofKit
import Derived.OpenShut
import Derived.Deep.DeepHandedRow
import Derived.Lay
import Derived.Test.YtjcckafjopjdbaaDoorBase
set_option linter.all false
/- From what the evaluator says of a law to what the statement asks: it returns true, and its arguments read as they did. -/
set_option autoImplicit false
set_option linter.unusedVariables false
set_option linter.unusedSimpArgs false
namespace Go.Vm
open Go.ChangeShapes Go.WideElems
/-- Nothing is known of memory but that what lies there stays. -/
def m0 (W : World) : M := { phi := fun _ => none, I := fun b => b < W.heap.size, w := W }
theorem inv0 {E : Env} (hg : ∀ g, E.glob g = none) (W : World) : Inv E [] (m0 W) where
  dom := fun id x h => by cases h
  live := fun id ob h => by simp at h
  inj := fun i j oi oj R b c h => by simp at h
  bnd := fun b h => h
  glob := fun g cs h => by rw [hg g] at h; cases h
theorem kept_of_ext {W : World} {m' : M} (h : Ext (m0 W) m') (may : MemPlace → Prop) : W.keptBut m'.w may := by
  refine ⟨h.os, h.output, fun i hi => ?_⟩
  have e : m'.w.heap[i]? = W.heap[i]? := h.blk i hi
  rw [e]
  cases hw : W.heap[i]? with
  | none => rfl
  | some o => cases o <;> simp
theorem frozen_of_ext {W : World} {m' : M} (h : Ext (m0 W) m') (a : Addr) (ha : a.block < W.heap.size) : m'.w.frozen? a = W.frozen? a := by
  have e : m'.w.heap[a.block]? = W.heap[a.block]? := h.blk a.block ha
  unfold World.frozen?
  rw [e]
theorem same_of_ext {W : World} {m' : M} (h : Ext (m0 W) m') {p : MemPlace} (hp : p.block < W.heap.size) : W.sameAt m'.w p := by
  cases p with
  | cell b o => exact cell_of_blk (h.blk b hp) _ _
  | map b => exact h.blk b hp
section
variable {H : Type} {enc : TypeId × Value → H} {P : Program} {k : Nat}
theorem trodAll_stays {W W' : World} {sp' : Nat → Bool} (hl : laidOutB P = true) : ∀ {ts : List TypeId} {vs : List Value} {ds : List (DataW H)} {ps : List MemPlace}, (∀ t ∈ ts, P.readableRec t = true ∧ t < P.types.size) →
    DataW.TrodAll enc P W 0 (fun _ => true) true ts vs ds ps → (∀ p ∈ ps, W.sameAt W' p) → (∀ p ∈ ps, sp' p.block = true) → DataW.TrodAll enc P W' 0 sp' true ts vs ds ps
  | [], [], [], ps, hr, h, _, _ => h
  | t :: ts, v :: vs, d :: ds, ps, hr, h, h1, h2 => by
    obtain ⟨p, q, ha, hb, rfl⟩ := h
    refine ⟨p, q, Trod_stays hl (hr t (by simp)).1 (hr t (by simp)).2 ha (fun x hx => h1 x (by simp [hx])) (fun x hx => h2 x (by simp [hx])), trodAll_stays hl (fun t ht => hr t (by simp [ht])) hb (fun x hx => h1 x (by simp [hx])) (fun x hx => h2 x (by simp [hx])), rfl⟩
/-- A law of plain arguments: it answers true, and leaves them be. -/
theorem law_contract {E : Env} {f : FuncId} {fn : Func} {tb : TypeId} {s : ChangeSpec} (hc : CallOk E (vcall E k)) (hg : ∀ g, E.glob g = none) (hP : E.P = P)
    (hl : laidOutB P = true) (hr : ∀ t ∈ fn.params.toList, P.readableRec t = true ∧ t < P.types.size) (hres : fn.resultTypes = #[tb]) (htb : P.underlying tb = some .bool) (hvars : s.vars = [])
    {W : World} {args : Array Value} {ds gs : List (DataW H)} {before : List MemPlace} (hspec : s.fn H (ds ++ gs) = { results := [.lit (.bool true)], args := ds })
    (hW : DataW.Whole enc P fn.params.toList s.vars false W args.toList ds gs before) {vs : List V} (hvr : VRL (m0 W) vs args.toList) (hcall : vcall E k (.fn f) vs [] = some (.bool true, [])) :
    Calls P f args W fun e W' => ∃ v, e = .returned v ∧ s.post enc P fn false true false false W args v W' := by
  subst hP
  have h := hc.fn f vs [] _ _ hcall (m0 W) args.toList (inv0 hg W) hvr
  rw [Array.toArray_toList] at h
  refine h.mono fun e W' hcame => ?_
  obtain ⟨u, m', rfl, rfl, hext, hinv, hv⟩ := hcame
  simp only [VR] at hv
  subst hv
  refine ⟨_, rfl, ?_⟩
  have hW' := hW
  have hlt : ∀ p ∈ before, p.block < W.heap.size := fun p hp => by simpa using hW.lt p hp
  obtain ⟨p, q, hA, hV, hpq, hfz, hnd⟩ := hW
  rw [hvars] at hV
  obtain ⟨rfl, rfl⟩ : gs = [] ∧ q = [] := by
    cases gs with
    | nil => exact ⟨rfl, by simpa [DataW.TrodVars] using hV⟩
    | cons a b => simp [DataW.TrodVars] at hV
  rw [List.append_nil] at hpq
  subst hpq
  have hargs : ∀ sp : Nat → Bool, (∀ x ∈ before, sp x.block = true) → DataW.TrodAll enc E.P m'.w 0 sp true fn.params.toList args.toList (s.fn H (ds ++ [])).args before := fun sp hsp => by
    rw [hspec]
    exact trodAll_stays hl hr hA (fun x hx => same_of_ext hext (hlt x hx)) hsp
  have hresT : ∀ (b : Nat) (sp : Nat → Bool) (hd : Bool), DataW.TrodAll enc E.P m'.w b sp hd fn.resultTypes.toList ((Value.bool true).resultList fn.resultTypes.size) (s.fn H (ds ++ [])).results [] := fun b sp hd => by
    rw [hspec, hres]
    exact ⟨[], [], ⟨1, by simp [DataW.trod, htb, Value.cells]⟩, rfl, rfl⟩
  have hvarsT : ∀ sp : Nat → Bool, DataW.TrodVars enc E.P m'.w sp s.vars (s.fn H (ds ++ [])).vars [] := fun sp => by
    rw [hspec, hvars]
    rfl
  have hold : ∀ x ∈ before, (fun b => decide (b < W.heap.size)) x.block = true := fun x hx => by simpa using hlt x hx
  refine ⟨ds, [], before, [], before, [], hW', hresT _ _ _, hargs _ hold, hvarsT _, kept_of_ext hext _, fun _ => ?_⟩
  refine ⟨?_, _, _, ([] ++ before) ++ [], ⟨[] ++ before, [], trodAll_append (hargs _ (fun _ _ => rfl)) (hresT _ _ _), hvarsT _, rfl, ?_, ?_⟩, ?_⟩
  · intro j t r h1 h2
    rw [hres] at h1 h2
    match j, h1, h2 with
    | 0, h1, h2 =>
      simp [Value.resultList] at h1 h2
      subst h1 h2
      exact Go.RowKit.okWide_bool_mk htb _
  · intro b off hp
    have hp' : MemPlace.cell b off ∈ before := by simpa using hp
    rw [frozen_of_ext hext _ (hlt _ hp')]
    exact hfz b off hp'
  · intro ha
    cases ha
  · intro x hx _
    simpa using hx
end
end Go.Vm
namespace Go.Proofs.YtjcckafjopjdbaaDoor
open Go Go.Vm
set_option maxRecDepth 100000
theorem own : ownKnob Tryd.prog.godebug = none := by kernel_rfl
theorem laidOut : laidOutB Tryd.prog = true := by kernel_rfl
/-! ### the program's form is one that the evaluator covers -/
def noRange : Code → Bool
  | .rangeFunc _ _ _ _ => false
  | .seq a b => noRange a && noRange b
  | .cond _ a b => noRange a && noRange b
  | .block _ a => noRange a
  | .loop a => noRange a
  | .scope a => noRange a
  | _ => true
theorem noRange_ok {E : Env} {n : Nat} : ∀ c : Code, noRange c = true → rangesOk E n c
  | .rangeFunc _ _ _ _, h => by simp [noRange] at h
  | .seq a b, h => by
    simp only [noRange, Bool.and_eq_true] at h
    exact ⟨noRange_ok a h.1, noRange_ok b h.2⟩
  | .cond _ a b, h => by
    simp only [noRange, Bool.and_eq_true] at h
    exact ⟨noRange_ok a h.1, noRange_ok b h.2⟩
  | .block _ a, h => by
    rw [rangesOk]; exact noRange_ok a h
  | .loop a, h => by
    rw [rangesOk]; exact noRange_ok a h
  | .scope a, h => by
    rw [rangesOk]; exact noRange_ok a h
  | .skip, _ => by simp [rangesOk]
  | .label _, _ => by simp [rangesOk]
  | .region _ _ _, _ => by simp [rangesOk]
  | .exit _, _ => by simp [rangesOk]
  | .ret, _ => by simp [rangesOk]
  | .goto _, _ => by simp [rangesOk]
  | .refuse _, _ => by simp [rangesOk]
theorem ranges_ok {E : Env} {n : Nat} : ∀ c : Code, (∀ x ∈ rangesIn n c, E.loops x.1 = some x.2) → rangesOk E n c
  | .rangeFunc _ ps a b, h => by
    rw [rangesOk]
    exact h (Vm.keyOf b, (n, ps, a, b)) (by simp [rangesIn])
  | .seq a b, h => ⟨ranges_ok a fun x hx => h x (by simp [rangesIn, hx]), ranges_ok b fun x hx => h x (by simp [rangesIn, hx])⟩
  | .cond _ a b, h => ⟨ranges_ok a fun x hx => h x (by simp [rangesIn, hx]), ranges_ok b fun x hx => h x (by simp [rangesIn, hx])⟩
  | .block _ a, h => by
    rw [rangesOk]; exact ranges_ok a fun x hx => h x (by simp [rangesIn, hx])
  | .loop a, h => by
    rw [rangesOk]; exact ranges_ok a fun x hx => h x (by simp [rangesIn, hx])
  | .scope a, h => by
    rw [rangesOk]; exact ranges_ok a fun x hx => h x (by simp [rangesIn, hx])
  | .skip, _ => by simp [rangesOk]
  | .label _, _ => by simp [rangesOk]
  | .region _ _ _, _ => by simp [rangesOk]
  | .exit _, _ => by simp [rangesOk]
  | .ret, _ => by simp [rangesOk]
  | .goto _, _ => by simp [rangesOk]
  | .refuse _, _ => by simp [rangesOk]
def fnFits (fn : Func) (i : Nat) : Bool := match fn.body with | some c => codeOk fn.ntmps c && (noRange c || i == 21) | none => true
theorem funcs_fit : (Tryd.prog.funcs.toList.zipIdx).all (fun x => fnFits x.1 x.2) = true := by kernel_rfl
theorem keys21 : (rangesAt Tryd.prog 21).map (·.1) = [4] := by kernel_rfl
theorem one_key {α : Type} (k : Nat) : ∀ (l : List (Nat × α)), l.map (·.1) = [k] → ∀ x ∈ l, x.1 = k ∧ l.lookup k = some x.2
  | [], h, x, hx => by cases hx
  | y :: r, h, x, hx => by
    simp only [List.map_cons, List.cons.injEq, List.map_eq_nil_iff] at h
    obtain ⟨h1, rfl⟩ := h
    rw [List.mem_singleton] at hx
    subst hx
    obtain ⟨a, b⟩ := x
    simp only at h1
    subst h1
    simp [List.lookup]
theorem loops4 : ∀ x ∈ rangesAt Tryd.prog 21, E0.loops x.1 = some x.2 := by
  intro x hx
  obtain ⟨h1, h2⟩ := one_key 4 _ keys21 x hx
  show (if x.1 = 4 then (rangesAt Tryd.prog 21).lookup 4 else none) = some x.2
  rw [if_pos h1, h2]
theorem progOk0 : ProgOk E0 := by
  intro f fn c hf hb
  have hf' : Tryd.prog.funcs[f]? = some fn := hf
  have hlt : f < Tryd.prog.funcs.size := by
    rcases Nat.lt_or_ge f Tryd.prog.funcs.size with h | h
    · exact h
    · rw [Array.getElem?_eq_none h] at hf'; cases hf'
  have h := List.all_eq_true.1 funcs_fit (fn, f) (by
    rw [List.mem_zipIdx_iff_getElem?]
    simpa using hf')
  simp only [fnFits, hb, Bool.and_eq_true, Bool.or_eq_true, beq_iff_eq] at h
  refine ⟨h.1, ?_⟩
  rcases h.2 with h2 | h2
  · exact noRange_ok c h2
  · subst h2
    refine ranges_ok c fun x hx => loops4 x ?_
    have : rangesAt Tryd.prog 21 = rangesIn fn.ntmps c := by
      simp only [rangesAt, hf', hb]
    rw [this]; exact hx
def loopFits : Option (Nat × Array Tmp × Code × Code) → Bool
  | some (n, ps, asg, body) => codeOk n asg && flat asg && codeOk n body && flat body && ps.toList.all (fun t => decide (t < n))
  | none => true
theorem loop4_fits : loopFits ((rangesAt Tryd.prog 21).lookup 4) = true := by kernel_rfl
theorem loopsOk0 : LoopsOk E0 := by
  intro key n ps asg body h
  have h' : (if key = 4 then (rangesAt Tryd.prog 21).lookup 4 else none) = some (n, ps, asg, body) := h
  split at h'
  · have := loop4_fits
    rw [h'] at this
    simp only [loopFits, Bool.and_eq_true] at this
    exact ⟨this.1.1.1.1, this.1.1.1.2, this.1.1.2, this.1.2, this.2⟩
  · cases h'
theorem primOk0 : PrimOk E0 := fun f p h => by cases h
theorem callOk0 (k : Nat) : CallOk E0 (vcall E0 k) := vcall_ok primOk0 loopsOk0 progOk0 k
end Go.Proofs.YtjcckafjopjdbaaDoor
