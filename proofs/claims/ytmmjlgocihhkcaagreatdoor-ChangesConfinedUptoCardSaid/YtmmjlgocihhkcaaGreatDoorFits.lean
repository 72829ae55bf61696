import Derived.Test.YtmmjlgocihhkcaaGreatDoorBase
import Derived.Test.YtmmjlgocihhkcaaGreatDoorVmE
import Derived.Recover
import Derived.Test.YtmmjlgocihhkcaaGreatDoorCards
import Derived.Test.YtmmjlgocihhkcaaGreatDoorTie
import Derived.WalkKit
import Derived.ProofKit
import Derived.OpenShut
import Derived.Deep.DeepHandedRow
import Derived.Lay
import Derived.Test.YtmmjlgocihhkcaaGreatDoorVmG
import Derived.Test.YtmmjlgocihhkcaaGreatDoorAwake
set_option linter.all false
namespace Go.Proofs.YtmmjlgocihhkcaaGreatDoor
open Go Go.Vm
set_option maxRecDepth 100000
theorem one_recover {P : Program} {ops : Array Oper} {o : Oper} {Q : Exit → Act → List Frame → World → Prop} {a : Act} {cs : List Frame} {w : World} (h0 : ops[0]? = some o) (hw : Region.wanted o (yielded ops a.tmps) = true) (hr : (execOp a.eval o).run P w = .ok .recover w) (hrec : recoverD cs = none)
  (h : Q .normal (a.put o.dst .nilIface) cs w) : wpOpsS P ops Q [0] a cs w := by
 unfold wpOpsS
 simp only [h0]
 rw [if_pos hw, hr]
 simp only [hrec]
 unfold wpOpsS
 exact h
theorem one_value {P : Program} {ops : Array Oper} {o : Oper} {Q : Exit → Act → World → Prop} {a : Act} {w : World} {v : Value} (h0 : ops[0]? = some o) (hw : Region.wanted o (yielded ops a.tmps) = true) (hr : (execOp a.eval o).run P w = .ok (.value v) w)
  (h : Q .normal (a.put o.dst v) w) : wpOps P ops Q [0] a w := by
 unfold wpOps
 simp only [h0]
 rw [if_pos hw]
 unfold Oper.wp
 rw [hr]
 simp only [Oper.upon]
 unfold wpOps
 exact .inl h
theorem run_eql {e : Operand → Value} {o : Oper} (w : World) (ho : o.op = .binOp .eql 20 (.tmp 5) (.const .nilIface) 20) (h5 : e (.tmp 5) = .nilIface) (hc : e (.const .nilIface) = .nilIface) : (execOp e o).run Tryz.prog w = .ok (.value (.bool true)) w := by
 unfold execOp
 rw [ho]
 simp only [h5, hc]
 kernel_rfl
theorem run_assign {e : Operand → Value} {o : Oper} (w : World) {v : Value} (ho : o.op = .assign (.tmp 5)) (h5 : e (.tmp 5) = v) : (execOp e o).run Tryz.prog w = .ok (.value v) w := by
 unfold execOp
 rw [ho]
 simp only [h5]
 rfl
theorem catchOk0 : CatchOk E0 := by
 intro g hg
 have : g = 92 := by simpa [E0] using hg
 subst this
 refine ⟨⟨Tryz.f92, Tryz.func92, rfl, rfl⟩, fun args w => ?_⟩
 refine callsD_of_wpS Tryz.func92 rfl fun c₀ cs hu => ?_
 have hn : Tryz.f92.ntmps = 15 := rfl
 have hs : 15 ≤ (args ++ Array.replicate (Tryz.f92.ntmps - args.size) undef).size := by
  rw [hn, Array.size_append, Array.size_replicate]; omega
 generalize args ++ Array.replicate (Tryz.f92.ntmps - args.size) undef = T at hs
 refine wpS_seq (wpS_region ?_)
 have hrec : recoverD (c₀ :: cs) = none := by
  unfold recoverD
  simp only [hu]
 refine one_recover rfl rfl rfl hrec ?_
 have g5 : (T.setIfInBounds 5 Value.nilIface).getD 5 undef = .nilIface := by
  simp only [Array.getD_eq_getD_getElem?]
  rw [Array.getElem?_setIfInBounds_self_of_lt (by omega)]
  rfl
 have g7 : ((T.setIfInBounds 5 Value.nilIface).setIfInBounds 7 (.bool true)).getD 7 undef = .bool true := by
  simp only [Array.getD_eq_getD_getElem?]
  rw [Array.getElem?_setIfInBounds_self_of_lt (by rw [Array.size_setIfInBounds]; omega)]
  rfl
 have g75 : ((T.setIfInBounds 5 Value.nilIface).setIfInBounds 7 (.bool true)).getD 5 undef = .nilIface := by
  simp only [Array.getD_eq_getD_getElem?] at g5 ⊢
  rw [Array.getElem?_setIfInBounds_ne (by omega)]
  exact g5
 refine wpS_of_wp (wp_block (wp_seq (wp_region (one_value (v := .bool true) rfl rfl ?_ ?_))))
 ·exact run_eql w rfl g5 rfl
 ·refine wp_cond_true g7 (wp_region (one_value (v := .nilIface) rfl rfl ?_ ?_))
  ·exact run_assign w rfl g75
  ·refine ⟨rfl, .returning, ?_, .tuple #[], ?_, ⟨_, rfl⟩, rfl, rfl⟩
   ·rw [← hu]
   ·kernel_rfl
theorem own : ownKnob Tryz.prog.godebug = none := by kernel_rfl
theorem laidOut : laidOutB Tryz.prog = true := by kernel_rfl
def noRange : Code → Bool
 | .rangeFunc _ _ _ _ => false
 | .seq a b => noRange a && noRange b
 | .cond _ a b => noRange a && noRange b
 | .block _ a => noRange a
 | .loop a => noRange a
 | .scope a => noRange a
 | _ => true
theorem noRange_ok {E : Env} {n : Nat} : ∀ c : Code, noRange c = true → rangesOk E n c
 | .rangeFunc _ _ _ _, h => by simp [noRange] at h
 | .seq a b, h => by
  simp only [noRange, Bool.and_eq_true] at h
  exact ⟨noRange_ok a h.1, noRange_ok b h.2⟩
 | .cond _ a b, h => by
  simp only [noRange, Bool.and_eq_true] at h
  exact ⟨noRange_ok a h.1, noRange_ok b h.2⟩
 | .block _ a, h => by
  rw [rangesOk]; exact noRange_ok a h
 | .loop a, h => by
  rw [rangesOk]; exact noRange_ok a h
 | .scope a, h => by
  rw [rangesOk]; exact noRange_ok a h
 | .skip, _ => by simp [rangesOk]
 | .label _, _ => by simp [rangesOk]
 | .region _ _ _, _ => by simp [rangesOk]
 | .exit _, _ => by simp [rangesOk]
 | .ret, _ => by simp [rangesOk]
 | .goto _, _ => by simp [rangesOk]
 | .refuse _, _ => by simp [rangesOk]
theorem ranges_ok {E : Env} {n : Nat} : ∀ c : Code, (∀ x ∈ rangesIn n c, E.loops x.1 = some x.2) → rangesOk E n c
 | .rangeFunc _ ps a b, h => by
  rw [rangesOk]
  exact h (Vm.keyOf b, (n, ps, a, b)) (by simp [rangesIn])
 | .seq a b, h => ⟨ranges_ok a fun x hx => h x (by simp [rangesIn, hx]), ranges_ok b fun x hx => h x (by simp [rangesIn, hx])⟩
 | .cond _ a b, h => ⟨ranges_ok a fun x hx => h x (by simp [rangesIn, hx]), ranges_ok b fun x hx => h x (by simp [rangesIn, hx])⟩
 | .block _ a, h => by
  rw [rangesOk]; exact ranges_ok a fun x hx => h x (by simp [rangesIn, hx])
 | .loop a, h => by
  rw [rangesOk]; exact ranges_ok a fun x hx => h x (by simp [rangesIn, hx])
 | .scope a, h => by
  rw [rangesOk]; exact ranges_ok a fun x hx => h x (by simp [rangesIn, hx])
 | .skip, _ => by simp [rangesOk]
 | .label _, _ => by simp [rangesOk]
 | .region _ _ _, _ => by simp [rangesOk]
 | .exit _, _ => by simp [rangesOk]
 | .ret, _ => by simp [rangesOk]
 | .goto _, _ => by simp [rangesOk]
 | .refuse _, _ => by simp [rangesOk]
def fnFits (fn : Func) (i : Nat) : Bool := match fn.body with | some c => codeOk fn.ntmps c && (noRange c || (i == 71 || i == 39)) | none => true
theorem funcs_fit : (Tryz.prog.funcs.toList.zipIdx).all (fun x => fnFits x.1 x.2) = true := by kernel_rfl
theorem keys71 : (rangesAt Tryz.prog 71).map (·.1) = [4004] := by kernel_rfl
theorem keys39 : (rangesAt Tryz.prog 39).map (·.1) = [141006004] := by kernel_rfl
theorem one_key {α : Type} (k : Nat) : ∀ (l : List (Nat × α)), l.map (·.1) = [k] → ∀ x ∈ l, x.1 = k ∧ l.lookup k = some x.2
 | [], h, x, hx => by cases hx
 | y :: r, h, x, hx => by
  simp only [List.map_cons, List.cons.injEq, List.map_eq_nil_iff] at h
  obtain ⟨h1, rfl⟩ := h
  rw [List.mem_singleton] at hx
  subst hx
  obtain ⟨a, b⟩ := x
  simp only at h1
  subst h1
  simp [List.lookup]
theorem loops71 : ∀ x ∈ rangesAt Tryz.prog 71, E0.loops x.1 = some x.2 := by
 intro x hx
 obtain ⟨h1, h2⟩ := one_key 4004 _ keys71 x hx
 show (if x.1 = 4004 then (rangesAt Tryz.prog 71).lookup 4004 else if x.1 = 141006004 then (rangesAt Tryz.prog 39).lookup 141006004 else none) = some x.2
 rw [if_pos h1, h2]
theorem loops39 : ∀ x ∈ rangesAt Tryz.prog 39, E0.loops x.1 = some x.2 := by
 intro x hx
 obtain ⟨h1, h2⟩ := one_key 141006004 _ keys39 x hx
 show (if x.1 = 4004 then (rangesAt Tryz.prog 71).lookup 4004 else if x.1 = 141006004 then (rangesAt Tryz.prog 39).lookup 141006004 else none) = some x.2
 rw [if_neg (by rw [h1]; decide), if_pos h1, h2]
theorem progOk0 : ProgOk E0 := by
 intro f fn c hf hb
 have hf' : Tryz.prog.funcs[f]? = some fn := hf
 have hlt : f < Tryz.prog.funcs.size := by
  rcases Nat.lt_or_ge f Tryz.prog.funcs.size with h | h
  ·exact h
  ·rw [Array.getElem?_eq_none h] at hf'; cases hf'
 have h := List.all_eq_true.1 funcs_fit (fn, f) (by
  rw [List.mem_zipIdx_iff_getElem?]
  simpa using hf')
 simp only [fnFits, hb, Bool.and_eq_true, Bool.or_eq_true, beq_iff_eq] at h
 refine ⟨h.1, ?_⟩
 rcases h.2 with h2 | h2 | h2
 ·exact noRange_ok c h2
 ·subst h2
  refine ranges_ok c fun x hx => loops71 x ?_
  have : rangesAt Tryz.prog 71 = rangesIn fn.ntmps c := by
   simp only [rangesAt, hf', hb]
  rw [this]; exact hx
 ·subst h2
  refine ranges_ok c fun x hx => loops39 x ?_
  have : rangesAt Tryz.prog 39 = rangesIn fn.ntmps c := by
   simp only [rangesAt, hf', hb]
  rw [this]; exact hx
def loopFits : Option (Nat × Array Tmp × Code × Code) → Bool
 | some (n, ps, asg, body) => codeOk n asg && flat asg && codeOk n body && flat body && ps.toList.all (fun t => decide (t < n))
 | none => true
theorem loop71_fits : loopFits ((rangesAt Tryz.prog 71).lookup 4004) = true := by kernel_rfl
theorem loop39_fits : loopFits ((rangesAt Tryz.prog 39).lookup 141006004) = true := by kernel_rfl
theorem loopsOk0 : LoopsOk E0 := by
 intro key n ps asg body h
 have h' : (if key = 4004 then (rangesAt Tryz.prog 71).lookup 4004 else if key = 141006004 then (rangesAt Tryz.prog 39).lookup 141006004 else none) = some (n, ps, asg, body) := h
 split at h'
 ·have := loop71_fits
  rw [h'] at this
  simp only [loopFits, Bool.and_eq_true] at this
  exact ⟨this.1.1.1.1, this.1.1.1.2, this.1.1.2, this.1.2, this.2⟩
 ·split at h'
  ·have := loop39_fits
   rw [h'] at this
   simp only [loopFits, Bool.and_eq_true] at this
   exact ⟨this.1.1.1.1, this.1.1.1.2, this.1.1.2, this.1.2, this.2⟩
  ·cases h'
theorem primOk1 : PrimOk E1 := fun f p h => by cases h
theorem rangesOk1 {n : Nat} : ∀ c : Code, rangesOk E0 n c → rangesOk E1 n c
 | .rangeFunc _ ps a b, h => by rw [rangesOk] at h ⊢; exact h
 | .seq a b, h => ⟨rangesOk1 a h.1, rangesOk1 b h.2⟩
 | .cond _ a b, h => ⟨rangesOk1 a h.1, rangesOk1 b h.2⟩
 | .block _ a, h => by rw [rangesOk] at h ⊢; exact rangesOk1 a h
 | .loop a, h => by rw [rangesOk] at h ⊢; exact rangesOk1 a h
 | .scope a, h => by rw [rangesOk] at h ⊢; exact rangesOk1 a h
 | .skip, _ => by simp [rangesOk]
 | .label _, _ => by simp [rangesOk]
 | .region _ _ _, _ => by simp [rangesOk]
 | .exit _, _ => by simp [rangesOk]
 | .ret, _ => by simp [rangesOk]
 | .goto _, _ => by simp [rangesOk]
 | .refuse _, _ => by simp [rangesOk]
theorem progOk1 : ProgOk E1 := fun f fn c hf hb => ⟨(progOk0 f fn c hf hb).1, rangesOk1 c (progOk0 f fn c hf hb).2⟩
theorem callOk1 (k : Nat) : CallOk E1 (vcall E1 k) := vcall_ok primOk1 catchOk0 loopsOk0 progOk1 k
theorem primOk0 : PrimOk E0 := by
 intro f p hp
 have hp' : (if f = 8 then some fun (args : List V) (S : Store) => (match args with | [] => some (V.bool true, S) | _ => none) else none) = some p := hp
 split at hp'
 ·rename_i hf
  subst hf
  cases hp'
  refine ⟨⟨Tryz.f8, Tryz.func8, rfl, rfl⟩, fun args S v S' h m uargs hi ha => ?_⟩
  cases args with
  | cons x l => cases h
  | nil =>
   cases h
   simp only [VRL] at ha
   subst ha
   obtain ⟨k, hk⟩ := vrun_some awake_run
   exact came_frame (E := E0) (E1 := E1) rfl (fun g => rfl) hi fun m0 _ h0 => (callOk1 k).fn 8 [] [] _ _ hk m0 [] h0 (by simp [VRL])
 ·cases hp'
theorem callOk0 (k : Nat) : CallOk E0 (vcall E0 k) := vcall_ok primOk0 catchOk0 loopsOk0 progOk0 k
end Go.Proofs.YtmmjlgocihhkcaaGreatDoor
