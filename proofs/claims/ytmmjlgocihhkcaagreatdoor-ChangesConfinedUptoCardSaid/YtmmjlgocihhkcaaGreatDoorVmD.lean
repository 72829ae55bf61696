import Derived.Test.YtmmjlgocihhkcaaGreatDoorVmC
import Derived.Scope
import Derived.Defers
set_option linter.all false
set_option autoImplicit false
namespace Go.Vm
variable {ro : Option Nat} {ds : List Deferred} {E : Env} {S S' : Store} {m : M} {call : Tg → List V → Store → Option (V × Store)}
theorem lget_lset : ∀ (l : List V) (n : Nat) (v : V) (k : Nat), lget (lset l n v) k = if k = n then v else lget l k
 | [], 0, v, 0 => by simp [lset, lget]
 | [], 0, v, k + 1 => by simp [lset, lget]
 | x :: l, 0, v, 0 => by simp [lset, lget]
 | x :: l, 0, v, k + 1 => by simp [lset, lget]
 | [], n + 1, v, 0 => by simp [lset, lget]
 | [], n + 1, v, k + 1 => by
  simp only [lset, lget]
  rw [lget_lset [] n v k]
  simp [lget]
 | x :: l, n + 1, v, 0 => by simp [lset, lget]
 | x :: l, n + 1, v, k + 1 => by
  simp only [lset, lget]
  rw [lget_lset l n v k]
  simp
structure FR (ds : List Deferred) (fr : Fr) (a : Act) (m : M) (n : Nat) : Prop where
 size : n ≤ a.tmps.size
 defers : a.defers = ds
 at_ : ∀ i, VR m (lget fr i) (a.tmps.getD i undef)
theorem FR.ext {fr : Fr} {a : Act} {m' : M} {n : Nat} (h : FR ds fr a m n) (he : Ext m m') : FR ds fr a m' n := ⟨h.size, h.defers, fun i => (h.at_ i).ext he⟩
theorem lget_put (fr : Fr) (dst : Option Nat) (v : V) (i : Nat) : lget (put fr dst v) i = if dst = some i then v else lget fr i := by
 cases dst with
 | none => simp [put]
 | some d =>
  simp only [put, lget_lset]
  by_cases h : i = d
  ·subst h; simp
  ·rw [if_neg h, if_neg (by simpa using Ne.symm h)]
theorem act_put_getD (a : Act) (dst : Option Nat) (u : Value) (i : Nat) (hd : ∀ d, dst = some d → d < a.tmps.size) : (a.put dst u).tmps.getD i undef = if dst = some i then u else a.tmps.getD i undef := by
 cases dst with
 | none => simp [Act.put]
 | some d =>
  have hd := hd d rfl
  simp only [Act.put]
  by_cases h : d = i
  ·subst h
   simp [Array.getD_eq_getD_getElem?, hd]
  ·simp [Array.getD_eq_getD_getElem?, Array.getElem?_setIfInBounds_ne h, h]
theorem act_put_size (a : Act) (dst : Option Nat) (u : Value) : (a.put dst u).tmps.size = a.tmps.size := by
 cases dst <;> simp [Act.put]
theorem act_put_defers (a : Act) (dst : Option Nat) (u : Value) : (a.put dst u).defers = a.defers := by
 cases dst <;> simp [Act.put]
theorem FR.put_ {fr : Fr} {a : Act} {n : Nat} (h : FR ds fr a m n) {dst : Option Nat} (hd : ∀ d, dst = some d → d < n) {v : V} {u : Value} (hv : VR m v u) : FR ds (put fr dst v) (a.put dst u) m n := by
 refine ⟨by rw [act_put_size]; exact h.size, by rw [act_put_defers]; exact h.defers, fun i => ?_⟩
 rw [lget_put, act_put_getD _ _ _ _ (fun d hd' => Nat.lt_of_lt_of_le (hd d hd') h.size)]
 split
 ·exact hv
 ·exact h.at_ i
theorem wanted_sound {ops : Array Oper} {fr : Fr} {a : Act} {n : Nat} {o : Oper} {b : Bool} (h : wantedV ops.toList fr o = some b) (hs : n ≤ a.tmps.size)
  (hat : ∀ j want p d, o.guard = some (j, want) → ops[j]? = some p → p.dst = some d → d < n ∧ VR m (lget fr d) (a.tmps.getD d undef)) : Region.wanted o (yielded ops a.tmps) = b := by
 unfold wantedV at h
 unfold Region.wanted
 split at h
 ·rename_i hg
  cases h
  simp [hg]
 ·rename_i j want hg
  simp only [hg]
  split at h
  ·rename_i p hp
   have hp' : ops[j]? = some p := by simpa using hp
   split at h
   ·rename_i d hd
    obtain ⟨hlt, hv⟩ := hat j want p d hg hp' hd
    have hget : a.tmps[d]? = some (a.tmps.getD d undef) := by
     rw [Array.getD_eq_getD_getElem?, Array.getElem?_eq_getElem (Nat.lt_of_lt_of_le hlt hs)]
     rfl
    unfold yielded
    rw [hp']
    simp only [Option.bind_some, hd, hget]
    split at h
    ·rename_i b' hb
     cases h
     rw [hb] at hv
     simp only [VR] at hv
     rw [hv]
     simp
    ·rename_i vs hb
     cases h
     rw [hb] at hv
     simp only [VR] at hv
     obtain ⟨us, hu, _⟩ := hv
     rw [hu]
     rfl
    ·cases h
   ·cases h
  ·cases h
def dstsOk (n : Nat) (ops : List Oper) : Bool := ops.all fun o => match o.dst with | some d => decide (d < n) | none => true
theorem dstsOk_of {n : Nat} {ops : List Oper} (h : dstsOk n ops = true) {o : Oper} (ho : o ∈ ops) : ∀ d, o.dst = some d → d < n := by
 intro d hd
 have := List.all_eq_true.1 h o ho
 simpa [hd] using this
theorem evOps_sound (hC : CallOk E call) (hP : PrimOk E) {ops : Array Oper} {n : Nat} (hd : dstsOk n ops.toList = true) {Q : Exit → Act → World → Prop} {fr' : Fr} :
  ∀ (k i : Nat), i + k = ops.size → ∀ (fr : Fr) (S : Store) (a : Act) (m : M), evOps E call ops.toList (ops.toList.drop i) fr S = some (fr', S') → FR ds fr a m n → Inv E S m →
  (∀ a' m', Ext m m' → FR ds fr' a' m' n → Inv E S' m' → Q .normal a' m'.w) → wpOpsIn (Fw ro) 0 E.P ops Q (List.range' i k) a m.w := by
 intro k
 induction k with
 | zero =>
  intro i hik fr S a m h hf hi K
  rw [List.drop_eq_nil_of_le (by simp; omega)] at h
  simp [evOps] at h
  obtain ⟨rfl, rfl⟩ := h
  exact K a m (Ext.refl m) hf hi
 | succ k ih =>
  intro i hik fr S a m h hf hi K
  have hlt : i < ops.toList.length := by simp; omega
  rw [List.drop_eq_getElem_cons hlt] at h
  have hop : ops[i]? = some ops.toList[i] := by
   rw [Array.getElem?_eq_getElem (by simpa using hlt)]
   simp
  generalize ops.toList[i] = o at h hop
  have hmem : o ∈ ops.toList := by
   have : ops.toList[i]? = some o := by simpa using hop
   exact List.mem_of_getElem? this
  simp only [List.range'_succ, wpOpsIn, hop]
  rw [evOps] at h
  have hw : ∀ b, wantedV ops.toList fr o = some b → Region.wanted o (yielded ops a.tmps) = b := fun b hb => wanted_sound hb hf.size (fun j want p d hg hp hdp => by
   refine ⟨dstsOk_of hd ?_ d hdp, hf.at_ d⟩
   have : ops.toList[j]? = some p := by simpa using hp
   exact List.mem_of_getElem? this)
  split at h
  ·rename_i hwv
   rw [if_pos (hw _ hwv)]
   split at h
   ·rename_i v S1 hev
    refine evOp_sound hC hP hev (fun x _ => opnd_sound hi hf.at_ x) hi (fun u m' h1 h2 h3 => ?_)
    exact ih (i + 1) (by omega) _ _ _ m' h ((hf.ext h1).put_ (dstsOk_of hd hmem) h3) h2 (fun a' m'' h4 h5 h6 => K a' m'' (h1.trans h4) h5 h6)
   ·cases h
  ·rename_i hwv
   rw [if_neg (by rw [hw _ hwv]; simp)]
   refine ⟨fun _ _ => trivial, ?_⟩
   exact ih (i + 1) (by omega) _ _ _ m h (hf.put_ (dstsOk_of hd hmem) (by simp only [VR]; exact ⟨#[], rfl, by simp [VRL]⟩)) hi K
  ·cases h
theorem nonEff_store {ρ : Operand → V} {o : Oper} {v : V} (h : evOp E call ρ S o = some (v, S')) (he : isEff o.op = false) : S' = S := by
 obtain ⟨dst, op, type, pos, after, guard⟩ := o
 have mp : ∀ {x : Option V}, x.map (fun y => (y, S)) = some (v, S') → S' = S := by
  intro x hx
  cases x with
  | none => simp at hx
  | some y => simp at hx; exact hx.2.symm
 have one : ∀ {y : V}, some (y, S) = some (v, S') → S' = S := by
  intro y hy
  simp at hy
  exact hy.2.symm
 cases op <;> simp only [isEff] at he <;> first | (cases he; done) | skip
 case call c =>
  obtain ⟨callee, args, ts⟩ := c
  cases callee with
  | value f => simp at he
  | invoke r n => simp at he
  | builtin b =>
   simp only [evOp] at h
   split at h
   ·split at h
    ·exact mp h
    ·cases h
   ·simp at he
   ·simp at he
   ·simp at he
   ·split at h
    ·exact mp h
    ·cases h
   ·exact mp h
   ·simp at he
   ·exact mp h
   ·exact mp h
   ·cases h
 case pick c x y =>
  simp only [evOp] at h
  split at h
  ·exact one h
  ·cases h
 case nilCheck x =>
  simp only [evOp] at h
  split at h
  ·exact one h
  ·exact one h
  ·exact one h
  ·exact one h
  ·cases h
 all_goals
  simp only [evOp] at h
  first | exact mp h | exact one h
theorem nonRead_any {ρ : Operand → V} {o : Oper} {v : V} (h : evOp E call ρ S o = some (v, S')) (he : isEff o.op = false) (hr : isRead o.op = false) (S1 : Store) : evOp E call ρ S1 o = some (v, S1) := by
 obtain ⟨dst, op, type, pos, after, guard⟩ := o
 have mp : ∀ {x : Option V}, x.map (fun y => (y, S)) = some (v, S') → x.map (fun y => (y, S1)) = some (v, S1) := by
  intro x hx
  cases x with
  | none => simp at hx
  | some y => simp at hx; simp [hx.1]
 have one : ∀ {y : V}, some (y, S) = some (v, S') → some (y, S1) = some (v, S1) := by
  intro y hy
  simp at hy
  simp [hy.1]
 cases op <;> simp only [isEff] at he <;> simp only [isRead] at hr <;> first | (cases he; done) | (cases hr; done) | skip
 case call c =>
  obtain ⟨callee, args, ts⟩ := c
  cases callee with
  | value f => simp at he
  | invoke r n => simp at he
  | builtin b =>
   simp only [evOp] at h ⊢
   split at h
   ·simp at hr
   ·simp at he
   ·simp at he
   ·simp at he
   ·split at h
    ·exact mp h
    ·cases h
   ·exact mp h
   ·simp at he
   ·exact mp h
   ·exact mp h
   ·cases h
 case pick c x y =>
  simp only [evOp] at h ⊢
  split at h
  ·exact one h
  ·cases h
 case nilCheck x =>
  simp only [evOp] at h ⊢
  split at h
  ·exact one h
  ·exact one h
  ·exact one h
  ·exact one h
  ·cases h
 all_goals
  simp only [evOp] at h ⊢
  first | exact mp h | exact one h
end Go.Vm
set_option autoImplicit false
namespace Go.Vm
variable {ro : Option Nat} {ds : List Deferred} {E : Env} {S S' : Store} {m : M} {call : Tg → List V → Store → Option (V × Store)}
mutual
theorem V.beq_eq : ∀ (a b : V), V.beq a b = true → a = b
 | .junk, b, h => by cases b <;> simp_all [V.beq]
 | .bool _, b, h => by cases b <;> simp_all [V.beq]
 | .int _ _, b, h => by cases b <;> simp_all [V.beq]
 | .str _, b, h => by cases b <;> simp_all [V.beq]
 | .nilp, b, h => by cases b <;> simp_all [V.beq]
 | .ref _ _, b, h => by cases b <;> simp_all [V.beq]
 | .imm cs, b, h => by
  cases b <;> simp [V.beq] at h
  rw [V.beqL_eq cs _ h]
 | .slN, b, h => by cases b <;> simp_all [V.beq]
 | .slI n cs, b, h => by
  cases b <;> simp [V.beq] at h
  rw [h.1, V.beqL_eq cs _ h.2]
 | .slR _ _ _ _ _, b, h => by cases b <;> simp_all [V.beq]
 | .fn f x y, b, h => by
  cases b <;> simp [V.beq] at h
  rw [h.1.1, V.beqL_eq x _ h.1.2, V.beqL_eq y _ h.2]
 | .nilf, b, h => by cases b <;> simp_all [V.beq]
 | .ifc t v, b, h => by
  cases b <;> simp [V.beq] at h
  rw [h.1, V.beq_eq v _ h.2]
 | .nili, b, h => by cases b <;> simp_all [V.beq]
 | .agg cs, b, h => by
  cases b <;> simp [V.beq] at h
  rw [V.beqL_eq cs _ h]
 | .tup cs, b, h => by
  cases b <;> simp [V.beq] at h
  rw [V.beqL_eq cs _ h]
 | .mapN, b, h => by cases b <;> simp_all [V.beq]
 | .mapR _, b, h => by cases b <;> simp_all [V.beq]
 | .it _, b, h => by cases b <;> simp_all [V.beq]
 | .yld _, b, h => by cases b <;> simp_all [V.beq]
theorem V.beqL_eq : ∀ (a b : List V), V.beqL a b = true → a = b
 | [], b, h => by cases b <;> simp_all [V.beqL]
 | x :: l, b, h => by
  cases b with
  | nil => simp [V.beqL] at h
  | cons y m =>
   simp [V.beqL] at h
   rw [V.beq_eq x y h.1, V.beqL_eq l m h.2]
end
mutual
theorem V.beq_refl : ∀ (a : V), V.beq a a = true
 | .junk => by simp [V.beq]
 | .bool _ => by simp [V.beq]
 | .int _ _ => by simp [V.beq]
 | .str _ => by simp [V.beq]
 | .nilp => by simp [V.beq]
 | .ref _ _ => by simp [V.beq]
 | .imm cs => by simp [V.beq, V.beqL_refl cs]
 | .slN => by simp [V.beq]
 | .slI n cs => by simp [V.beq, V.beqL_refl cs]
 | .slR _ _ _ _ _ => by simp [V.beq]
 | .fn f x y => by simp [V.beq, V.beqL_refl x, V.beqL_refl y]
 | .nilf => by simp [V.beq]
 | .ifc t v => by simp [V.beq, V.beq_refl v]
 | .nili => by simp [V.beq]
 | .agg cs => by simp [V.beq, V.beqL_refl cs]
 | .tup cs => by simp [V.beq, V.beqL_refl cs]
 | .mapN => by simp [V.beq]
 | .mapR _ => by simp [V.beq]
 | .it _ => by simp [V.beq]
 | .yld _ => by simp [V.beq]
theorem V.beqL_refl : ∀ (a : List V), V.beqL a a = true
 | [] => by simp [V.beqL]
 | x :: l => by simp [V.beqL, V.beq_refl x, V.beqL_refl l]
end
theorem V.beqP_eq : ∀ (a b : List (V × V)), V.beqP a b = true → a = b
 | [], b, h => by cases b <;> simp_all [V.beqP]
 | x :: l, b, h => by
  cases b with
  | nil => simp [V.beqP] at h
  | cons y m =>
   simp [V.beqP] at h
   rw [V.beqP_eq l m h.2]
   congr 1
   exact Prod.ext (V.beq_eq _ _ h.1.1) (V.beq_eq _ _ h.1.2)
theorem V.beqP_refl : ∀ (a : List (V × V)), V.beqP a a = true
 | [] => by simp [V.beqP]
 | x :: l => by simp [V.beqP, V.beq_refl, V.beqP_refl l]
theorem Ob.beq_eq : ∀ (a b : Ob), Ob.beq a b = true → a = b := by
 intro a b h
 cases a <;> cases b <;> simp_all [Ob.beq]
 ·exact V.beqL_eq _ _ h.2
 ·exact V.beqP_eq _ _ h
 ·exact V.beqL_eq _ _ h.2
theorem Ob.beq_refl (a : Ob) : Ob.beq a a = true := by
 cases a <;> simp [Ob.beq, V.beqL_refl, V.beqP_refl]
theorem Store.beq_eq : ∀ (a b : Store), Store.beq a b = true → a = b
 | [], b, h => by cases b <;> simp_all [Store.beq]
 | x :: l, b, h => by
  cases b with
  | nil => simp [Store.beq] at h
  | cons y m =>
   simp [Store.beq] at h
   rw [Ob.beq_eq x y h.1, Store.beq_eq l m h.2]
theorem Store.beq_refl : ∀ (a : Store), Store.beq a a = true
 | [] => by simp [Store.beq]
 | x :: l => by simp [Store.beq, Ob.beq_refl, Store.beq_refl l]
def tmpOf : Operand → Option Nat
 | .tmp t => some t
 | _ => none
def namesOf (ops : List Oper) (o : Oper) : List Nat :=
 o.dst.toList ++ o.op.operands.toList.filterMap tmpOf ++ (match o.guard with | some (j, _) => (match ops[j]? with | some p => p.dst.toList | none => []) | none => [])
def ordOk (md : Region.Mode) (rk : Nat → Nat) (ops : List Oper) : Bool :=
 (List.range ops.length).all fun i => match ops[i]? with
  | none => false
  | some o => o.after.toList.all fun e => !Region.binds md e || (decide (rk e.on < rk i) && decide (e.on < ops.length))
def ordSome (md : Region.Mode) (ops : List Oper) : Bool := ordOk md id ops || ordOk md (fun i => (Region.linearise md ops.toArray 0).idxOf i) ops
def Ranked (md : Region.Mode) (rk : Nat → Nat) (ops : List Oper) : Prop := ∀ (i : Nat) (o : Oper), ops[i]? = some o → ∀ e ∈ o.after.toList, Region.binds md e = true → rk e.on < rk i ∧ e.on < ops.length
theorem ordOk_ranked {md : Region.Mode} {rk : Nat → Nat} {ops : List Oper} (h : ordOk md rk ops = true) : Ranked md rk ops := by
 intro i o ho e he hb
 have h1 := List.all_eq_true.1 h i (List.mem_range.2 (List.getElem?_eq_some_iff.1 ho).1)
 simp only [ho] at h1
 have h2 := List.all_eq_true.1 h1 e he
 simpa [hb] using h2
theorem ordSome_ranked {md : Region.Mode} {ops : List Oper} (h : ordSome md ops = true) : ∃ rk, Ranked md rk ops := by
 rcases (Bool.or_eq_true _ _).mp h with h | h
 ·exact ⟨_, ordOk_ranked h⟩
 ·exact ⟨_, ordOk_ranked h⟩
def drawOk (ops : List Oper) (b : List Nat) : Bool :=
 (ordOk .any id ops && ordSome .text ops && ordSome .gc ops) && (List.range ops.length).all fun i =>
  match ops[i]? with
  | none => false
  | some o =>
   ((List.range ops.length).all fun j => !(b.getD i 0).testBit j || (decide (j < i) && o.after.toList.any fun e => Region.binds .any e && (e.on == j || (b.getD e.on 0).testBit j))) &&
   (match o.guard with | some (j, _) => (b.getD i 0).testBit j | none => true) &&
   (!isEff o.op || (List.range i).all fun j => match ops[j]? with | some p => !isEff p.op || (b.getD i 0).testBit j | none => true) &&
   ((namesOf ops o).all fun t => (List.range ops.length).all fun j => match ops[j]? with | some p => p.dst != some t || j == i || (b.getD (max i j) 0).testBit (min i j) | none => true)
section draw
variable {ops : Array Oper} {b : List Nat}
structure Odd (ops : List Oper) (b : List Nat) : Prop where
 edge : ∀ (i : Nat) (o : Oper), ops[i]? = some o → ∀ e ∈ o.after.toList, Region.binds .any e = true → e.on < i
 rank : ∀ md, ∃ rk, Ranked md rk ops
 clos : ∀ (i : Nat) (o : Oper), ops[i]? = some o → ∀ j, j < ops.length → (b.getD i 0).testBit j = true → j < i ∧ ∃ e ∈ o.after.toList, Region.binds .any e = true ∧ (e.on = j ∨ (b.getD e.on 0).testBit j = true)
 guard : ∀ (i : Nat) (o : Oper) (j : Nat) (w : Bool), ops[i]? = some o → o.guard = some (j, w) → (b.getD i 0).testBit j = true
 eff : ∀ (i : Nat) (o : Oper) (j : Nat) (p : Oper), ops[i]? = some o → ops[j]? = some p → isEff o.op = true → isEff p.op = true → j < i → (b.getD i 0).testBit j = true
 data : ∀ (i : Nat) (o : Oper) (t : Nat) (j : Nat) (p : Oper), ops[i]? = some o → t ∈ namesOf ops o → ops[j]? = some p → p.dst = some t → j ≠ i → (b.getD (max i j) 0).testBit (min i j) = true
theorem drawOk_odd {ops : List Oper} (h : drawOk ops b = true) : Odd ops b := by
 unfold drawOk at h
 rw [Bool.and_eq_true, Bool.and_eq_true, Bool.and_eq_true] at h
 obtain ⟨⟨⟨g1, g2⟩, g3⟩, h⟩ := h
 have key : ∀ (i : Nat) (o : Oper), ops[i]? = some o → _ := fun i o ho => List.all_eq_true.1 h i (List.mem_range.2 (List.getElem?_eq_some_iff.1 ho).1)
 refine ⟨fun i o ho e he hb => (ordOk_ranked g1 i o ho e he hb).1, fun md => ?_, fun i o ho j hj hb => ?_, fun i o j w ho hg => ?_, fun i o j p ho hp h1 h2 h3 => ?_, fun i o t j p ho ht hp hd hne => ?_⟩
 ·cases md with
  | text => exact ordSome_ranked g2
  | gc => exact ordSome_ranked g3
  | any => exact ⟨_, ordOk_ranked g1⟩
 all_goals
  have h0 := key i o ho
  simp only [ho, Bool.and_eq_true] at h0
  obtain ⟨⟨⟨k2, k3⟩, k4⟩, k5⟩ := h0
 ·have := List.all_eq_true.1 k2 j (List.mem_range.2 hj)
  simp only [hb, Bool.not_true, Bool.false_or, Bool.and_eq_true, decide_eq_true_eq, List.any_eq_true, Bool.or_eq_true, beq_iff_eq] at this
  exact this
 ·rw [hg] at k3
  exact k3
 ·simp only [h1, Bool.not_true, Bool.false_or] at k4
  have := List.all_eq_true.1 k4 j (List.mem_range.2 h3)
  simpa [hp, h2] using this
 ·have := List.all_eq_true.1 (List.all_eq_true.1 k5 t ht) j (List.mem_range.2 (List.getElem?_eq_some_iff.1 hp).1)
  simp only [hp, hd, bne_self_eq_false, Bool.false_or, Bool.or_eq_true, beq_iff_eq] at this
  exact this.resolve_left hne
def Lin (n : Nat) (ops : List Oper) : (Nat → Prop) → List Nat → Prop
 | D, [] => ∀ i, i < n → D i
 | D, i :: r => i < n ∧ ¬ D i ∧ (∀ o, ops[i]? = some o → ∀ e ∈ o.after.toList, Region.binds .any e = true → D e.on) ∧ Lin n ops (fun j => D j ∨ j = i) r
theorem binds_any {md : Region.Mode} {e : Edge} (h : Region.binds .any e = true) : Region.binds md e = true := by
 unfold Region.binds at h ⊢
 split at h <;> simp_all
theorem Lin.congr {n : Nat} {ops : List Oper} : ∀ (l : List Nat) {D D' : Nat → Prop}, (∀ i, D i ↔ D' i) → Lin n ops D l → Lin n ops D' l
 | [], D, D', h, hl => fun i hi => (h i).1 (hl i hi)
 | i :: r, D, D', h, ⟨h1, h2, h3, h4⟩ => ⟨h1, fun hd => h2 ((h i).2 hd), fun o ho e he hb => (h _).1 (h3 o ho e he hb), Lin.congr r (fun j => or_congr (h j) Iff.rfl) h4⟩
def unlisted (n : Nat) (L : Array Bool) : Nat := ((List.range n).filter fun i => !L.getD i true).length
theorem linearise_go (md : Region.Mode) {rk : Nat → Nat} (hodd : ∀ (i : Nat) (o : Oper), ops[i]? = some o → ∀ e ∈ o.after.toList, Region.binds md e = true → rk e.on < rk i ∧ e.on < ops.size) : ∀ (fuel t : Nat) (L : Array Bool) (acc : List Nat), L.size = ops.size → unlisted ops.size L ≤ fuel →
  ∃ l, Region.linearise.go md ops fuel t L acc = acc.reverse ++ l ∧ Lin ops.size ops.toList (fun i => L.getD i false = true) l := by
 intro fuel
 induction fuel with
 | zero =>
  intro t L acc hs hu
  refine ⟨[], by simp [Region.linearise.go], fun i hi => ?_⟩
  have : (List.range ops.size).filter (fun i => !L.getD i true) = [] := List.eq_nil_of_length_eq_zero (by unfold unlisted at hu; omega)
  rw [List.filter_eq_nil_iff] at this
  have := this i (List.mem_range.2 hi)
  have hi' : i < L.size := by omega
  simp [Array.getD_eq_getD_getElem?, hi'] at this ⊢
  exact this
 | succ fuel ih =>
  intro t L acc hs hu
  simp only [Region.linearise.go]
  split
  ·rename_i i hi
   have hmem := List.mem_of_getElem? hi
   simp only [List.mem_filter, List.mem_range, Bool.and_eq_true, Bool.not_eq_true'] at hmem
   obtain ⟨hlt, hun, hpre⟩ := hmem
   have hiL : i < L.size := by omega
   have hdec : unlisted ops.size (L.setIfInBounds i true) < unlisted ops.size L := by
    unfold unlisted
    rw [← List.countP_eq_length_filter, ← List.countP_eq_length_filter]
    have hle : ∀ j, (!(L.setIfInBounds i true).getD j true) = true → (!L.getD j true) = true := by
     intro j hj
     simp only [Array.getD_eq_getD_getElem?, Array.getElem?_setIfInBounds] at hj ⊢
     split at hj
     ·simp at hj
     ·exact hj
    have hm : i ∈ List.range ops.size := List.mem_range.2 hlt
    have hne : ∀ (l : List Nat), i ∈ l → l.countP (fun j => !(L.setIfInBounds i true).getD j true) < l.countP (fun j => !L.getD j true) := by
     intro l
     induction l with
     | nil => intro h; simp at h
     | cons a l ihl =>
      intro h
      have hmono : l.countP (fun j => !(L.setIfInBounds i true).getD j true) ≤ l.countP (fun j => !L.getD j true) := List.countP_mono_left (fun j _ hj => hle j hj)
      rcases List.mem_cons.1 h with rfl | h
      ·have e1 : (!(L.setIfInBounds i true).getD i true) = false := by simp [Array.getD_eq_getD_getElem?, hiL]
       have e2 : (!L.getD i true) = true := by rw [hun]; rfl
       rw [List.countP_cons, List.countP_cons, e1, e2]
       rw [if_neg (by decide), if_pos rfl]
       omega
      ·have := ihl h
       rw [List.countP_cons, List.countP_cons]
       by_cases ha : (!(L.setIfInBounds i true).getD a true) = true
       ·rw [ha, hle a ha]
        omega
       ·rw [if_neg ha]
        split <;> omega
    exact hne _ hm
   obtain ⟨l, hl, hlin⟩ := ih (t / _) (L.setIfInBounds i true) (i :: acc) (by simpa using hs) (by omega)
   refine ⟨i :: l, by rw [hl]; simp, hlt, ?_, ?_, hlin.congr l (fun j => ?_)⟩
   ·simp [Array.getD_eq_getD_getElem?, hiL] at hun ⊢
    exact hun
   ·intro o ho e he hb
    have ho' : ops[i]? = some o := by simpa using ho
    simp only [ho', Option.map_some, Option.getD_some] at hpre
    have := Array.all_eq_true_iff_forall_mem.1 hpre e (by simpa using he)
    simp only [binds_any hb, Bool.not_true, Bool.false_or] at this
    exact this
   ·simp only [Array.getD_eq_getD_getElem?, Array.getElem?_setIfInBounds]
    by_cases hij : i = j
    ·subst hij
     simp [hiL]
    ·rw [if_neg hij]
     constructor
     ·intro h; exact .inl h
     ·rintro (h | h)
      ·exact h
      ·exact absurd h.symm hij
  ·rename_i hnone
   refine ⟨[], by simp, fun i hi => ?_⟩
   have hemp : (List.range ops.size).filter (fun i => !L.getD i true && ((ops[i]?).map (·.after.all fun e => !Region.binds md e || L.getD e.on false)).getD false) = [] := by
    rcases Nat.eq_zero_or_pos ((List.range ops.size).filter (fun i => !L.getD i true && ((ops[i]?).map (·.after.all fun e => !Region.binds md e || L.getD e.on false)).getD false)).length with h0 | h0
    ·exact List.eq_nil_of_length_eq_zero h0
    ·rw [List.getElem?_eq_getElem (Nat.mod_lt _ h0)] at hnone
     cases hnone
   have key : ∀ i, i < ops.size → L.getD i false = true := by
    suffices hs : ∀ (q i : Nat), rk i = q → i < ops.size → L.getD i false = true from fun i hi => hs _ i rfl hi
    intro q
    induction q using Nat.strongRecOn with
    | _ q ihi =>
     intro i hq hi
     have hiL : i < L.size := by omega
     have h1 := (List.filter_eq_nil_iff.1 hemp) i (List.mem_range.2 hi)
     have h2 : ((ops[i]?).map (·.after.all fun e => !Region.binds md e || L.getD e.on false)).getD false = true := by
      rw [Array.getElem?_eq_getElem hi]
      simp only [Option.map_some, Option.getD_some]
      rw [Array.all_eq_true_iff_forall_mem]
      intro e he
      cases hb : Region.binds md e with
      | false => simp
      | true =>
       have hlt := hodd i ops[i] (Array.getElem?_eq_getElem hi) e (by simpa using he) hb
       rw [ihi (rk e.on) (by omega) e.on rfl hlt.2]
       simp
     rw [h2] at h1
     simp [Array.getD_eq_getD_getElem?, hiL] at h1 ⊢
     exact h1
   exact key i hi
theorem schedule_lin (hrk : ∀ md, ∃ rk, Ranked md rk ops.toList) (mixed : Bool) (t : Nat) : Lin ops.size ops.toList (fun _ => False) (Region.schedule mixed ops t) := by
 have one : ∀ (md : Region.Mode) (t : Nat), Lin ops.size ops.toList (fun _ => False) (Region.linearise md ops t) := by
  intro md t
  obtain ⟨rk, hr⟩ := hrk md
  have hodd : ∀ (i : Nat) (o : Oper), ops[i]? = some o → ∀ e ∈ o.after.toList, Region.binds md e = true → rk e.on < rk i ∧ e.on < ops.size := fun i o ho e he hb => by
   have := hr i o (by simpa using ho) e he hb
   simpa using this
  obtain ⟨l, hl, hlin⟩ := linearise_go md hodd ops.size t (Array.replicate ops.size false) [] (by simp) (by
   unfold unlisted
   exact Nat.le_trans (List.length_filter_le _ _) (by simp))
  unfold Region.linearise
  rw [hl]
  simp only [List.reverse_nil, List.nil_append]
  refine hlin.congr l (fun i => ?_)
  simp only [Array.getD_eq_getD_getElem?, Array.getElem?_replicate]
  split <;> simp
 unfold Region.schedule
 split
 ·exact one _ _
 ·exact one _ _
end draw
end Go.Vm
set_option autoImplicit false
namespace Go.Vm
variable {ro : Option Nat} {ds : List Deferred} {E : Env} {S S' : Store} {m : M} {call : Tg → List V → Store → Option (V × Store)} {ops : Array Oper} {b : List Nat}
def Also (E : Env) (call : Tg → List V → Store → Option (V × Store)) (fr : Fr) (S : Store) (o : Oper) (v : V) : Prop := ∃ S1, evOp E call (opnd E fr) S o = some (v, S1)
theorem also_of {fr : Fr} {o : Oper} {v : V} (h : (match evOp E call (opnd E fr) S o with | some (u, _) => u.beq v | none => false) = true) : Also E call fr S o v := by
 split at h
 ·rename_i u S1 he
  rw [← V.beq_eq _ _ h]
  exact ⟨S1, he⟩
 ·cases h
structure Rec (E : Env) (call : Tg → List V → Store → Option (V × Store)) (ops : List Oper) (b : List Nat) (i : Nat) (frs : Nat → Fr) (sts : Nat → Store) (vals : Nat → V) (want : Nat → Bool) : Prop where
 want_ : ∀ (j : Nat) (o : Oper), i ≤ j → ops[j]? = some o → wantedV ops (frs j) o = some (want j)
 op : ∀ (j : Nat) (o : Oper), i ≤ j → ops[j]? = some o → want j = true → evOp E call (opnd E (frs j)) (sts j) o = some (vals j, sts (j + 1))
 skip : ∀ (j : Nat) (o : Oper), i ≤ j → ops[j]? = some o → want j = false → sts (j + 1) = sts j
 fr : ∀ (j : Nat) (o : Oper), i ≤ j → ops[j]? = some o → frs (j + 1) = put (frs j) o.dst (if want j then vals j else .tup [])
 back : ∀ (j : Nat) (o : Oper) (e : Nat) (p : Oper), i ≤ e → ops[j]? = some o → ops[e]? = some p → want j = true → isEff o.op = false → isRead o.op = true → e < j → want e = true → isEff p.op = true → (b.getD j 0).testBit e = false → Also E call (frs j) (sts e) o (vals j)
 fwd : ∀ (j : Nat) (o : Oper) (e : Nat) (p : Oper), i ≤ j → ops[j]? = some o → ops[e]? = some p → want j = true → isEff o.op = false → isRead o.op = true → j < e → want e = true → isEff p.op = true → (b.getD e 0).testBit j = false → Also E call (frs j) (sts (e + 1)) o (vals j)
theorem evDraw_rec {ops : List Oper} {fr' : Fr} : ∀ (k i : Nat), i + k = ops.length → ∀ (fr : Fr) (S : Store) (hist : List (Nat × Store)) (flts : List (Nat × Oper × Fr × V)),
  evDraw E call ops b (ops.drop i) i fr S hist flts = some (fr', S') →
  ∃ frs sts vals want, frs i = fr ∧ sts i = S ∧ frs ops.length = fr' ∧ sts ops.length = S' ∧ Rec E call ops b i frs sts vals want ∧
   (∀ h ∈ hist, ∀ (j : Nat) (o : Oper), i ≤ j → ops[j]? = some o → want j = true → isEff o.op = false → isRead o.op = true → (b.getD j 0).testBit h.1 = false → Also E call (frs j) h.2 o (vals j)) ∧
   (∀ x ∈ flts, ∀ (e : Nat) (p : Oper), i ≤ e → ops[e]? = some p → want e = true → isEff p.op = true → (b.getD e 0).testBit x.1 = false → Also E call x.2.2.1 (sts (e + 1)) x.2.1 x.2.2.2) := by
 intro k
 induction k with
 | zero =>
  intro i hik fr S hist flts h
  rw [List.drop_eq_nil_of_le (by omega)] at h
  simp [evDraw] at h
  obtain ⟨rfl, rfl⟩ := h
  have hn : ops.length = i := by omega
  have no : ∀ (j : Nat) (o : Oper), i ≤ j → ops[j]? = some o → False := fun j o hj ho => by
   have := (List.getElem?_eq_some_iff.1 ho).1
   omega
  refine ⟨fun _ => fr, fun _ => S, fun _ => .junk, fun _ => false, rfl, rfl, rfl, rfl, ?_, fun _ _ j o hj ho => (no j o hj ho).elim, fun _ _ j o hj ho => (no j o hj ho).elim⟩
  exact ⟨fun j o hj ho => (no j o hj ho).elim, fun j o hj ho => (no j o hj ho).elim, fun j o hj ho => (no j o hj ho).elim, fun j o hj ho => (no j o hj ho).elim, fun j o e p hj ho he _ _ _ hlt => (no j o (by omega) ho).elim, fun j o e p hj ho => (no j o hj ho).elim⟩
 | succ k ih =>
  intro i hik fr S hist flts h
  have hlt : i < ops.length := by omega
  rw [List.drop_eq_getElem_cons hlt] at h
  have hop : ops[i]? = some ops[i] := List.getElem?_eq_getElem hlt
  generalize ops[i] = o at h hop
  rw [evDraw] at h
  have step : ∀ (v : V) (w : Bool) (S1 : Store) (hist' : List (Nat × Store)) (flts' : List (Nat × Oper × Fr × V)), wantedV ops fr o = some w →
    (w = true → evOp E call (opnd E fr) S o = some (v, S1)) → (w = false → S1 = S) →
    evDraw E call ops b (ops.drop (i + 1)) (i + 1) (put fr o.dst (if w then v else .tup [])) S1 hist' flts' = some (fr', S') →
    (∀ h ∈ hist, h ∈ hist') → (∀ x ∈ flts, x ∈ flts') →
    (w = true → isEff o.op = true → (i, S) ∈ hist') → (w = true → isEff o.op = false → isRead o.op = true → (i, o, fr, v) ∈ flts') →
    (w = true → isEff o.op = false → isRead o.op = true → ∀ h ∈ hist, (b.getD i 0).testBit h.1 = false → Also E call fr h.2 o v) →
    (w = true → isEff o.op = true → ∀ x ∈ flts, (b.getD i 0).testBit x.1 = false → Also E call x.2.2.1 S1 x.2.1 x.2.2.2) →
    ∃ frs sts vals want, frs i = fr ∧ sts i = S ∧ frs ops.length = fr' ∧ sts ops.length = S' ∧ Rec E call ops b i frs sts vals want ∧
     (∀ h ∈ hist, ∀ (j : Nat) (o : Oper), i ≤ j → ops[j]? = some o → want j = true → isEff o.op = false → isRead o.op = true → (b.getD j 0).testBit h.1 = false → Also E call (frs j) h.2 o (vals j)) ∧
     (∀ x ∈ flts, ∀ (e : Nat) (p : Oper), i ≤ e → ops[e]? = some p → want e = true → isEff p.op = true → (b.getD e 0).testBit x.1 = false → Also E call x.2.2.1 (sts (e + 1)) x.2.1 x.2.2.2) := by
   intro v w S1 hist' flts' hw hev hsk hrest hh hx hnew hnewf hback hfwd
   obtain ⟨frs, sts, vals, want, e1, e2, e3, e4, hr, hH, hF⟩ := ih (i + 1) (by omega) _ _ _ _ hrest
   refine ⟨fun j => if j = i then fr else frs j, fun j => if j = i then S else sts j, fun j => if j = i then v else vals j, fun j => if j = i then w else want j, by simp, by simp, ?_, ?_, ⟨?_, ?_, ?_, ?_, ?_, ?_⟩, ?_, ?_⟩
   ·simp only [show ¬ ops.length = i by omega, if_false]; exact e3
   ·simp only [show ¬ ops.length = i by omega, if_false]; exact e4
   ·intro j p hj hp
    by_cases hji : j = i
    ·subst hji
     rw [hop] at hp
     cases hp
     simpa using hw
    ·simp only [hji, if_false]
     exact hr.want_ j p (by omega) hp
   ·intro j p hj hp hwj
    by_cases hji : j = i
    ·subst hji
     rw [hop] at hp
     cases hp
     simp only [if_true] at hwj
     simp only [if_true, show ¬ j + 1 = j by omega, if_false, e2]
     exact hev hwj
    ·simp only [hji, if_false] at hwj
     simp only [hji, if_false, show ¬ j + 1 = i by omega]
     exact hr.op j p (by omega) hp hwj
   ·intro j p hj hp hwj
    by_cases hji : j = i
    ·subst hji
     simp only [if_true] at hwj
     simp only [if_true, show ¬ j + 1 = j by omega, if_false, e2]
     exact hsk hwj
    ·simp only [hji, if_false] at hwj
     simp only [hji, if_false, show ¬ j + 1 = i by omega]
     exact hr.skip j p (by omega) hp hwj
   ·intro j p hj hp
    by_cases hji : j = i
    ·subst hji
     rw [hop] at hp
     cases hp
     simp only [if_true, show ¬ j + 1 = j by omega, if_false, e1]
    ·simp only [hji, if_false, show ¬ j + 1 = i by omega]
     exact hr.fr j p (by omega) hp
   ·intro j p e q he hp hq hwj h1 h2 hlt' hwe h3 hb
    have hji : ¬ j = i := by omega
    simp only [hji, if_false] at hwj
    simp only [hji, if_false]
    by_cases hei : e = i
    ·subst hei
     rw [hop] at hq
     cases hq
     simp only [if_true] at hwe
     simp only [if_true]
     exact hH (e, S) (hnew hwe h3) j p (by omega) hp hwj h1 h2 hb
    ·simp only [hei, if_false] at hwe
     simp only [hei, if_false]
     exact hr.back j p e q (by omega) hp hq hwj h1 h2 hlt' hwe h3 hb
   ·intro j p e q hj hp hq hwj h1 h2 hlt' hwe h3 hb
    have hei : ¬ e = i := by omega
    simp only [hei, if_false] at hwe
    simp only [show ¬ e + 1 = i by omega, if_false]
    by_cases hji : j = i
    ·subst hji
     rw [hop] at hp
     cases hp
     simp only [if_true] at hwj
     simp only [if_true]
     exact hF (j, o, fr, v) (hnewf hwj h1 h2) e q (by omega) hq hwe h3 hb
    ·simp only [hji, if_false] at hwj
     simp only [hji, if_false]
     exact hr.fwd j p e q (by omega) hp hq hwj h1 h2 hlt' hwe h3 hb
   ·intro x0 hm j p hj hp hwj h1 h2 hb
    by_cases hji : j = i
    ·subst hji
     rw [hop] at hp
     cases hp
     simp only [if_true] at hwj
     simp only [if_true]
     exact hback hwj h1 h2 x0 hm hb
    ·simp only [hji, if_false] at hwj
     simp only [hji, if_false]
     exact hH x0 (hh x0 hm) j p (by omega) hp hwj h1 h2 hb
   ·intro x hm e q he hq hwe h3 hb
    by_cases hei : e = i
    ·subst hei
     rw [hop] at hq
     cases hq
     simp only [if_true] at hwe
     simp only [show ¬ e + 1 = e by omega, if_false, e2]
     exact hfwd hwe h3 x hm hb
    ·simp only [hei, if_false] at hwe
     simp only [show ¬ e + 1 = i by omega, if_false]
     exact hF x (hx x hm) e q (by omega) hq hwe h3 hb
  split at h
  ·rename_i hwv
   split at h
   ·rename_i v S1 hev
    split at h
    ·rename_i heff
     split at h
     ·rename_i hck
      refine step v true S1 ((i, S) :: hist) flts hwv (fun _ => hev) (fun h => by cases h) (by simpa using h) (fun h hm => List.mem_cons_of_mem _ hm) (fun x hx => hx) (fun _ _ => List.mem_cons_self) (fun _ h1 => by simp [h1] at heff)
       (fun _ h1 => by simp [h1] at heff) (fun _ _ x hx hb => ?_)
      have := List.all_eq_true.1 hck x hx
      simp only [hb, Bool.false_or] at this
      exact also_of this
     ·cases h
    ·rename_i heff
     simp at heff
     have hS1 := nonEff_store hev heff
     subst hS1
     split at h
     ·rename_i hrd
      split at h
      ·rename_i hck
       refine step v true S1 hist ((i, o, fr, v) :: flts) hwv (fun _ => hev) (fun h => by cases h) (by simpa using h) (fun h hm => hm) (fun x hx => List.mem_cons_of_mem _ hx) (fun _ h1 => by simp [h1] at heff) (fun _ _ _ => List.mem_cons_self)
        (fun _ _ _ x hx hb => ?_) (fun _ h1 => by simp [h1] at heff)
       have := List.all_eq_true.1 hck x hx
       simp only [hb, Bool.false_or] at this
       exact also_of this
      ·cases h
     ·rename_i hrd
      exact step v true S1 hist flts hwv (fun _ => hev) (fun h => by cases h) (by simpa using h) (fun h hm => hm) (fun x hx => hx) (fun _ h1 => by simp [h1] at heff) (fun _ _ h2 => by simp [h2] at hrd)
        (fun _ _ h2 => by simp [h2] at hrd) (fun _ h1 => by simp [h1] at heff)
   ·cases h
  ·rename_i hwv
   exact step .junk false S hist flts hwv (fun h => by cases h) (fun _ => rfl) (by simpa using h) (fun h hm => hm) (fun x hx => hx) (fun h => by cases h) (fun h => by cases h) (fun h => by cases h) (fun h => by cases h)
  ·cases h
theorem names_dst {ops : List Oper} {o : Oper} {d : Nat} (h : o.dst = some d) : d ∈ namesOf ops o := by simp [namesOf, h]
theorem names_tmp {ops : List Oper} {o : Oper} {t : Nat} (h : Operand.tmp t ∈ o.op.operands) : t ∈ namesOf ops o := by
 simp only [namesOf, List.mem_append, List.mem_filterMap]
 exact .inl (.inr ⟨.tmp t, by simpa using h, rfl⟩)
theorem names_guard {ops : List Oper} {o p : Oper} {j d : Nat} {w : Bool} (hg : o.guard = some (j, w)) (hp : ops[j]? = some p) (hd : p.dst = some d) : d ∈ namesOf ops o := by
 simp only [namesOf, List.mem_append]
 right
 simp [hg, hp, hd]
theorem rec_keep {ops : List Oper} {frs : Nat → Fr} {sts : Nat → Store} {vals : Nat → V} {want : Nat → Bool} (hr : Rec E call ops b 0 frs sts vals want) {d : Nat} : ∀ (k j : Nat), j ≤ k → k ≤ ops.length →
  (∀ (i : Nat) (o : Oper), j ≤ i → i < k → ops[i]? = some o → o.dst ≠ some d) → lget (frs k) d = lget (frs j) d := by
 intro k
 induction k with
 | zero =>
  intro j hj _ _
  have : j = 0 := by omega
  subst this
  rfl
 | succ k ih =>
  intro j hj hk hno
  by_cases hjk : j = k + 1
  ·subst hjk; rfl
  ·have hlt : k < ops.length := by omega
   have hop : ops[k]? = some ops[k] := List.getElem?_eq_getElem hlt
   rw [hr.fr k _ (by omega) hop, lget_put, if_neg (hno k _ (by omega) (by omega) hop)]
   exact ih j (by omega) (by omega) (fun i o h1 h2 h3 => hno i o h1 (by omega) h3)
theorem rec_store {ops : List Oper} {frs : Nat → Fr} {sts : Nat → Store} {vals : Nat → V} {want : Nat → Bool} (hr : Rec E call ops b 0 frs sts vals want) : ∀ (k j : Nat), j ≤ k → k ≤ ops.length →
  (∀ (i : Nat) (o : Oper), j ≤ i → i < k → ops[i]? = some o → ¬ (want i = true ∧ isEff o.op = true)) → sts k = sts j := by
 intro k
 induction k with
 | zero =>
  intro j hj _ _
  have : j = 0 := by omega
  subst this
  rfl
 | succ k ih =>
  intro j hj hk hno
  by_cases hjk : j = k + 1
  ·subst hjk; rfl
  ·have hlt : k < ops.length := by omega
   have hop : ops[k]? = some ops[k] := List.getElem?_eq_getElem hlt
   have hstep : sts (k + 1) = sts k := by
    cases hw : want k with
    | false => exact hr.skip k _ (by omega) hop hw
    | true =>
     have hne : isEff ops[k].op = false := by
      have := hno k _ (by omega) (by omega) hop
      simp [hw] at this
      exact this
     exact nonEff_store (hr.op k _ (by omega) hop hw) hne
   rw [hstep]
   exact ih j (by omega) (by omega) (fun i o h1 h2 h3 => hno i o h1 (by omega) h3)
theorem first_of (p : Nat → Prop) [DecidablePred p] (j : Nat) : ∀ (k : Nat), (∃ i, j ≤ i ∧ i < j + k ∧ p i) → ∃ i, j ≤ i ∧ i < j + k ∧ p i ∧ ∀ l, j ≤ l → l < i → ¬ p l := by
 intro k
 induction k with
 | zero => rintro ⟨i, h1, h2, _⟩; omega
 | succ k ih =>
  rintro ⟨i, h1, h2, h3⟩
  by_cases h : ∃ i, j ≤ i ∧ i < j + k ∧ p i
  ·obtain ⟨i, a, b', c, d⟩ := ih h
   exact ⟨i, a, by omega, c, d⟩
  ·have : i = j + k := by
    rcases Nat.lt_or_ge i (j + k) with h' | h'
    ·exact absurd ⟨i, h1, h', h3⟩ h
    ·omega
   subst this
   exact ⟨j + k, by omega, by omega, h3, fun l h4 h5 h6 => h ⟨l, h4, h5, h6⟩⟩
theorem last_of (p : Nat → Prop) [DecidablePred p] (j : Nat) : ∀ (k : Nat), (∃ i, j ≤ i ∧ i < j + k ∧ p i) → ∃ i, j ≤ i ∧ i < j + k ∧ p i ∧ ∀ l, i < l → l < j + k → ¬ p l := by
 intro k
 induction k with
 | zero => rintro ⟨i, h1, h2, _⟩; omega
 | succ k ih =>
  intro hex
  by_cases hp : p (j + k)
  ·exact ⟨j + k, by omega, by omega, hp, fun l h1 h2 => by omega⟩
  ·obtain ⟨i, h1, h2, h3⟩ := hex
   have hik : i < j + k := by
    rcases Nat.lt_or_ge i (j + k) with h' | h'
    ·exact h'
    ·have : i = j + k := by omega
     subst this
     exact absurd h3 hp
   obtain ⟨i, a, b', c, d⟩ := ih ⟨i, h1, hik, h3⟩
   refine ⟨i, a, by omega, c, fun l h4 h5 => ?_⟩
   by_cases hl : l = j + k
   ·subst hl; exact hp
   ·exact d l h4 (by omega)
theorem draw_any (hC : CallOk E call) (hP : PrimOk E) {n : Nat} (hodd : Odd ops.toList b) (hd : dstsOk n ops.toList = true) {frs : Nat → Fr} {sts : Nat → Store} {vals : Nat → V} {want : Nat → Bool}
  (hr : Rec E call ops.toList b 0 frs sts vals want) {Q : Exit → Act → World → Prop} : ∀ (l : List Nat) (D : Nat → Prop) (a : Act) (m : M) (p : Nat), Lin ops.size ops.toList D l →
  (∀ i, D i → i < ops.size → ∀ j, j < ops.size → (b.getD i 0).testBit j = true → D j) → p ≤ ops.size →
  (∀ (e : Nat) (q : Oper), ops.toList[e]? = some q → want e = true → isEff q.op = true → (D e ↔ e < p)) → Inv E (sts p) m → n ≤ a.tmps.size → a.defers = ds →
  (∀ (d k : Nat), k ≤ ops.size → (∀ (j : Nat) (q : Oper), ops.toList[j]? = some q → q.dst = some d → (D j ↔ j < k)) → VR m (lget (frs k) d) (a.tmps.getD d undef)) →
  (∀ a' m', Ext m m' → FR ds (frs ops.size) a' m' n → Inv E (sts ops.size) m' → Q .normal a' m'.w) → wpOpsIn (Fw ro) 0 E.P ops Q l a m.w := by
 have hlen : ops.toList.length = ops.size := by simp
 intro l
 induction l with
 | nil =>
  intro D a m p hlin _ hp heff hi hs hdf hfr K
  have hall : ∀ i, i < ops.size → D i := hlin
  refine K a m (Ext.refl m) ⟨hs, hdf, fun d => hfr d ops.size (Nat.le_refl _) (fun j q hj _ => ?_)⟩ ?_
  ·have := (List.getElem?_eq_some_iff.1 hj).1
   exact ⟨fun _ => by omega, fun h => hall j h⟩
  ·rw [rec_store hr ops.size p hp (by omega) (fun i o h1 h2 ho h3 => by
    have := (heff i o ho h3.1 h3.2).1 (hall i h2)
    omega)]
   exact hi
 | cons i r ih =>
  intro D a m p hlin hclos hp heff hi hs hdf hfr K
  obtain ⟨hlt, hnD, hpre, hlin⟩ := hlin
  have hlt' : i < ops.toList.length := by omega
  have hop : ops.toList[i]? = some ops.toList[i] := List.getElem?_eq_getElem hlt'
  have hop' : ops[i]? = some ops.toList[i] := by simpa using hop
  generalize ops.toList[i] = o at hop hop'
  have hmem : o ∈ ops.toList := List.mem_of_getElem? hop
  have hlt_of : ∀ {j : Nat} {q : Oper}, ops.toList[j]? = some q → j < ops.size := fun {j q} h => by have := (List.getElem?_eq_some_iff.1 h).1; omega
  have hbef : ∀ j, j < ops.size → (b.getD i 0).testBit j = true → D j := by
   intro j hj hb
   obtain ⟨_, e, he, hbe, h⟩ := hodd.clos i o hop j (by omega) hb
   have hDe := hpre o hop e he hbe
   rcases h with rfl | h
   ·exact hDe
   ·have := hodd.edge i o hop e he hbe
    exact hclos e.on hDe (by omega) j hj h
  have haft : ∀ (j : Nat), j < ops.size → (b.getD j 0).testBit i = true → ¬ D j := fun j hj hb hDj => hnD (hclos j hDj hj i hlt hb)
  have hname : ∀ t, t ∈ namesOf ops.toList o → VR m (lget (frs i) t) (a.tmps.getD t undef) := by
   intro t ht
   refine hfr t i (by omega) (fun j q hj hq => ?_)
   by_cases hji : j = i
   ·subst hji
    exact ⟨fun h => absurd h hnD, fun h => by omega⟩
   ·have hdat := hodd.data i o t j q hop ht hj hq hji
    rcases Nat.lt_or_gt_of_ne hji with h | h
    ·rw [Nat.max_eq_left (by omega), Nat.min_eq_right (by omega)] at hdat
     exact ⟨fun _ => h, fun _ => hbef j (hlt_of hj) hdat⟩
    ·rw [Nat.max_eq_right (by omega), Nat.min_eq_left (by omega)] at hdat
     exact ⟨fun hD => absurd hD (haft j (hlt_of hj) hdat), fun h' => by omega⟩
  have hwant := hr.want_ i o (by omega) hop
  have hw : Region.wanted o (yielded ops a.tmps) = want i := wanted_sound hwant hs (fun j w q d hg hq hdq => by
   have hq' : ops.toList[j]? = some q := by simpa using hq
   exact ⟨dstsOk_of hd (List.mem_of_getElem? hq') d hdq, hname d (names_guard hg hq' hdq)⟩)
  have hstp := hr.fr i o (by omega) hop
  have go_on : ∀ (u : Value) (m' : M) (p' : Nat), Ext m m' → p' ≤ ops.size → Inv E (sts p') m' → VR m' (if want i then vals i else .tup []) u →
    (∀ (e : Nat) (q : Oper), ops.toList[e]? = some q → want e = true → isEff q.op = true → ((D e ∨ e = i) ↔ e < p')) → wpOpsIn (Fw ro) 0 E.P ops Q r (a.put o.dst u) m'.w := by
   intro u m' p' hext hp' hinv hv heff'
   refine ih (fun j => D j ∨ j = i) (a.put o.dst u) m' p' hlin (fun j hj hjlt k hk hb => ?_) hp' heff' hinv (by rw [act_put_size]; exact hs) (by rw [act_put_defers]; exact hdf) (fun d k hk hwr => ?_) (fun a' m'' h1 h2 h3 => K a' m'' (hext.trans h1) h2 h3)
   ·rcases hj with hj | rfl
    ·exact .inl (hclos j hj hjlt k hk hb)
    ·exact .inl (hbef k hk hb)
   ·rw [act_put_getD _ _ _ _ (fun d' hd' => Nat.lt_of_lt_of_le (dstsOk_of hd hmem d' hd') hs)]
    by_cases hdd : o.dst = some d
    ·rw [if_pos hdd]
     have hik : i < k := (hwr i o hop hdd).1 (.inr rfl)
     rw [rec_keep hr k (i + 1) (by omega) (by omega) (fun j q h1 h2 hj hq => by
      have hDj := (hwr j q hj hq).2 h2
      rcases hDj with hDj | hDj
      ·have hdat := hodd.data i o d j q hop (names_dst hdd) hj hq (by omega)
       rw [Nat.max_eq_right (by omega), Nat.min_eq_left (by omega)] at hdat
       exact haft j (hlt_of hj) hdat hDj
      ·omega), hstp, lget_put, if_pos hdd]
     exact hv
    ·rw [if_neg hdd]
     refine (hfr d k hk (fun j q hj hq => ?_)).ext hext
     have := hwr j q hj hq
     have hji : j ≠ i := by
      rintro rfl
      rw [hop] at hj
      cases hj
      exact hdd hq
     simpa [hji] using this
  simp only [wpOpsIn, hop']
  cases hwi : want i with
  | false =>
   rw [if_neg (by rw [hw, hwi]; simp)]
   refine ⟨fun _ _ => trivial, ?_⟩
   refine go_on undef m p (Ext.refl m) hp hi (by rw [hwi]; simp only [Bool.false_eq_true, if_false, VR]; exact ⟨#[], rfl, by simp [VRL]⟩) (fun e q he h1 h2 => ?_)
   have hne : e ≠ i := by rintro rfl; rw [hwi] at h1; cases h1
   simpa [hne] using heff e q he h1 h2
  | true =>
   rw [if_pos (by rw [hw, hwi])]
   have hρ : ∀ x, x ∈ o.op.operands → VR m (opnd E (frs i) x) (a.eval x) := by
    intro x hx
    cases x with
    | tmp t => exact hname t (names_tmp hx)
    | const v => exact VR_vOf v
    | global g =>
     simp only [opnd]
     split
     ·rename_i cs h
      exact hi.glob g cs h
     ·simp [VR]
    | func f =>
     simp only [opnd, VR]
     exact ⟨#[], #[], rfl, by simp [VRL], by simp [VRL]⟩
   have hev := hr.op i o (by omega) hop hwi
   cases heo : isEff o.op with
   | true =>
    have hsp : sts p = sts i := by
     rcases Nat.le_total p i with h | h
     ·refine (rec_store hr i p h (by omega) (fun e q h1 h2 he h3 => ?_)).symm
      have := (heff e q he h3.1 h3.2).1 (hbef e (by omega) (hodd.eff i o e q hop he heo h3.2 h2))
      omega
     ·refine rec_store hr p i h (by omega) (fun e q h1 h2 he h3 => ?_)
      have hDe := (heff e q he h3.1 h3.2).2 h2
      by_cases hei : e = i
      ·subst hei
       exact hnD hDe
      ·exact haft e (by omega) (hodd.eff e q i o he hop h3.2 heo (by omega)) hDe
    rw [hsp] at hi
    refine evOp_sound hC hP hev hρ hi (fun u m' h1 h2 h3 => go_on u m' (i + 1) h1 (by omega) h2 (by rw [hwi]; exact h3) (fun e q he h4 h5 => ?_))
    rcases Nat.lt_trichotomy e i with h | h | h
    ·exact ⟨fun _ => by omega, fun _ => .inl (hbef e (by omega) (hodd.eff i o e q hop he heo h5 h))⟩
    ·exact ⟨fun _ => by omega, fun _ => .inr h⟩
    ·refine ⟨fun h' => ?_, fun h' => by omega⟩
     rcases h' with h' | h'
     ·exact absurd h' (haft e (hlt_of he) (hodd.eff e q i o he hop h5 heo h))
     ·omega
   | false =>
    have hat : ∃ S1, evOp E call (opnd E (frs i)) (sts p) o = some (vals i, S1) := by
     cases hrd : isRead o.op with
     | false => exact ⟨_, nonRead_any hev heo hrd _⟩
     | true =>
      rcases Nat.le_total p i with h | h
      ·by_cases hex : ∃ e, p ≤ e ∧ e < p + (i - p) ∧ (∃ q, ops.toList[e]? = some q ∧ want e = true ∧ isEff q.op = true)
       ·haveI : DecidablePred (fun e => ∃ q, ops.toList[e]? = some q ∧ want e = true ∧ isEff q.op = true) := fun _ => Classical.propDecidable _
        obtain ⟨e, h1, h2, ⟨q, he, hwe, hqe⟩, hfirst⟩ := first_of _ p (i - p) hex
        rw [← rec_store hr e p h1 (by omega) (fun e' q' h3 h4 he' h5 => hfirst e' h3 h4 ⟨q', he', h5⟩)]
        refine hr.back i o e q (by omega) hop he hwi heo hrd (by omega) hwe hqe ?_
        cases hb : (b.getD i 0).testBit e with
        | false => rfl
        | true =>
         have := (heff e q he hwe hqe).1 (hbef e (by omega) hb)
         omega
       ·rw [← rec_store hr i p h (by omega) (fun e q h3 h4 he h5 => hex ⟨e, h3, by omega, q, he, h5⟩)]
        exact ⟨_, hev⟩
      ·by_cases hex : ∃ e, i ≤ e ∧ e < i + (p - i) ∧ (∃ q, ops.toList[e]? = some q ∧ want e = true ∧ isEff q.op = true)
       ·haveI : DecidablePred (fun e => ∃ q, ops.toList[e]? = some q ∧ want e = true ∧ isEff q.op = true) := fun _ => Classical.propDecidable _
        obtain ⟨e, h1, h2, ⟨q, he, hwe, hqe⟩, hlast⟩ := last_of _ i (p - i) hex
        have hei : e ≠ i := by
         rintro rfl
         rw [hop] at he
         cases he
         rw [heo] at hqe
         cases hqe
        rw [rec_store hr p (e + 1) (by omega) (by omega) (fun e' q' h3 h4 he' h5 => hlast e' (by omega) (by omega) ⟨q', he', h5⟩)]
        refine hr.fwd i o e q (by omega) hop he hwi heo hrd (by omega) hwe hqe ?_
        cases hb : (b.getD e 0).testBit i with
        | false => rfl
        | true => exact absurd ((heff e q he hwe hqe).2 (by omega)) (haft e (hlt_of he) hb)
       ·rw [rec_store hr p i h (by omega) (fun e q h3 h4 he h5 => hex ⟨e, h3, by omega, q, he, h5⟩)]
        exact ⟨_, hev⟩
    obtain ⟨S1, hat⟩ := hat
    have hS1 := nonEff_store hat heo
    subst hS1
    refine evOp_sound hC hP hat hρ hi (fun u m' h1 h2 h3 => go_on u m' p h1 hp h2 (by rw [hwi]; exact h3) (fun e q he h4 h5 => ?_))
    have hne : e ≠ i := by
     rintro rfl
     rw [hop] at he
     cases he
     rw [heo] at h5
     cases h5
    simpa [hne] using heff e q he h4 h5
theorem evDraw_sound (hC : CallOk E call) (hP : PrimOk E) {n : Nat} (hok : drawOk ops.toList b = true) (hd : dstsOk n ops.toList = true) {fr fr' : Fr} {a : Act} (h : evDraw E call ops.toList b ops.toList 0 fr S [] [] = some (fr', S'))
  (hf : FR ds fr a m n) (hi : Inv E S m) {Q : Exit → Act → World → Prop} (K : ∀ a' m', Ext m m' → FR ds fr' a' m' n → Inv E S' m' → Q .normal a' m'.w) (mixed : Bool) (t : Nat) : wpOpsIn (Fw ro) 0 E.P ops Q (Region.schedule mixed ops t) a m.w := by
 have hodd := drawOk_odd hok
 obtain ⟨frs, sts, vals, want, e1, e2, e3, e4, hr, _, _⟩ := evDraw_rec (ops := ops.toList) (b := b) ops.toList.length 0 (by omega) fr S [] [] h
 have hlen : ops.toList.length = ops.size := by simp
 refine draw_any hC hP hodd hd hr _ (fun _ => False) a m 0 (schedule_lin hodd.rank mixed t) (fun i h => h.elim) (by omega) (fun e q _ _ _ => ⟨fun h => h.elim, fun h => by omega⟩) (by rw [e2]; exact hi) hf.size hf.defers (fun d k hk hwr => ?_) (fun a' m' h1 h2 h3 => K a' m' h1 (by rw [← e3, hlen]; exact h2) (by rw [← e4, hlen]; exact h3))
 rw [rec_keep hr k 0 (by omega) (by omega) (fun j q h1 h2 hj hq => ((hwr j q hj hq).2 h2).elim), e1]
 exact hf.at_ d
end Go.Vm
set_option autoImplicit false
namespace Go.Vm
variable {ro : Option Nat} {ds : List Deferred} {E : Env} {S S' : Store} {m : M} {call : Tg → List V → Store → Option (V × Store)} {ops : Array Oper} {b : List Nat} {fl : List Bool}
def efQ (fl : List Bool) (i : Nat) (o : Oper) : Bool := isEff o.op && !(fl.getD i false)
def rdQ (fl : List Bool) (i : Nat) (o : Oper) : Bool := isRead o.op || fl.getD i false
structure OddQ (ops : List Oper) (b : List Nat) (fl : List Bool) : Prop where
 edge : ∀ (i : Nat) (o : Oper), ops[i]? = some o → ∀ e ∈ o.after.toList, Region.binds .any e = true → e.on < i
 clos : ∀ (i : Nat) (o : Oper), ops[i]? = some o → ∀ j, j < ops.length → (b.getD i 0).testBit j = true → j < i ∧ ∃ e ∈ o.after.toList, Region.binds .any e = true ∧ (e.on = j ∨ (b.getD e.on 0).testBit j = true)
 guard : ∀ (i : Nat) (o : Oper) (j : Nat) (w : Bool), ops[i]? = some o → o.guard = some (j, w) → (b.getD i 0).testBit j = true
 eff : ∀ (i : Nat) (o : Oper) (j : Nat) (p : Oper), ops[i]? = some o → ops[j]? = some p → efQ fl i o = true → efQ fl j p = true → j < i → (b.getD i 0).testBit j = true
 data : ∀ (i : Nat) (o : Oper) (t : Nat) (j : Nat) (p : Oper), ops[i]? = some o → t ∈ namesOf ops o → ops[j]? = some p → p.dst = some t → j ≠ i → (b.getD (max i j) 0).testBit (min i j) = true
def AlsoQ (E : Env) (call : Tg → List V → Store → Option (V × Store)) (fr : Fr) (S : Store) (o : Oper) (v : V) : Prop := evOp E call (opnd E fr) S o = some (v, S)
theorem also_ofQ {fr : Fr} {o : Oper} {v : V} (h : stillV E call fr S o v = true) : AlsoQ E call fr S o v := by
 unfold stillV at h
 split at h
 ·rename_i u S1 he
  rw [Bool.and_eq_true] at h
  unfold AlsoQ
  rw [he, V.beq_eq _ _ h.1, Store.beq_eq _ _ h.2]
 ·cases h
theorem efQ_split {i : Nat} {o : Oper} (h : efQ fl i o = false) (g : rdQ fl i o = false) : isEff o.op = false ∧ isRead o.op = false := by
 unfold efQ at h
 unfold rdQ at g
 rw [Bool.or_eq_false_iff] at g
 rw [g.2] at h
 simp at h
 exact ⟨h, g.1⟩
structure RecQ (E : Env) (call : Tg → List V → Store → Option (V × Store)) (ops : List Oper) (b : List Nat) (fl : List Bool) (i : Nat) (frs : Nat → Fr) (sts : Nat → Store) (vals : Nat → V) (want : Nat → Bool) : Prop where
 want_ : ∀ (j : Nat) (o : Oper), i ≤ j → ops[j]? = some o → wantedV ops (frs j) o = some (want j)
 op : ∀ (j : Nat) (o : Oper), i ≤ j → ops[j]? = some o → want j = true → evOp E call (opnd E (frs j)) (sts j) o = some (vals j, sts (j + 1))
 skip : ∀ (j : Nat) (o : Oper), i ≤ j → ops[j]? = some o → want j = false → sts (j + 1) = sts j
 fr : ∀ (j : Nat) (o : Oper), i ≤ j → ops[j]? = some o → frs (j + 1) = put (frs j) o.dst (if want j then vals j else .tup [])
 back : ∀ (j : Nat) (o : Oper) (e : Nat) (p : Oper), i ≤ e → ops[j]? = some o → ops[e]? = some p → want j = true → efQ fl j o = false → rdQ fl j o = true → e < j → want e = true → efQ fl e p = true → (b.getD j 0).testBit e = false → AlsoQ E call (frs j) (sts e) o (vals j)
 fwd : ∀ (j : Nat) (o : Oper) (e : Nat) (p : Oper), i ≤ j → ops[j]? = some o → ops[e]? = some p → want j = true → efQ fl j o = false → rdQ fl j o = true → j < e → want e = true → efQ fl e p = true → (b.getD e 0).testBit j = false → AlsoQ E call (frs j) (sts (e + 1)) o (vals j)
 still : ∀ (j : Nat) (o : Oper), i ≤ j → ops[j]? = some o → want j = true → efQ fl j o = false → sts (j + 1) = sts j
theorem evDraw_recQ {ops : List Oper} {fr' : Fr} : ∀ (k i : Nat), i + k = ops.length → ∀ (fr : Fr) (S : Store) (hist : List (Nat × Store)) (flts : List (Nat × Oper × Fr × V)),
  evDrawQ E call ops b fl (ops.drop i) i fr S hist flts = some (fr', S') →
  ∃ frs sts vals want, frs i = fr ∧ sts i = S ∧ frs ops.length = fr' ∧ sts ops.length = S' ∧ RecQ E call ops b fl i frs sts vals want ∧
   (∀ h ∈ hist, ∀ (j : Nat) (o : Oper), i ≤ j → ops[j]? = some o → want j = true → efQ fl j o = false → rdQ fl j o = true → (b.getD j 0).testBit h.1 = false → AlsoQ E call (frs j) h.2 o (vals j)) ∧
   (∀ x ∈ flts, ∀ (e : Nat) (p : Oper), i ≤ e → ops[e]? = some p → want e = true → efQ fl e p = true → (b.getD e 0).testBit x.1 = false → AlsoQ E call x.2.2.1 (sts (e + 1)) x.2.1 x.2.2.2) := by
 intro k
 induction k with
 | zero =>
  intro i hik fr S hist flts h
  rw [List.drop_eq_nil_of_le (by omega)] at h
  simp [evDrawQ] at h
  obtain ⟨rfl, rfl⟩ := h
  have hn : ops.length = i := by omega
  have no : ∀ (j : Nat) (o : Oper), i ≤ j → ops[j]? = some o → False := fun j o hj ho => by
   have := (List.getElem?_eq_some_iff.1 ho).1
   omega
  refine ⟨fun _ => fr, fun _ => S, fun _ => .junk, fun _ => false, rfl, rfl, rfl, rfl, ?_, fun _ _ j o hj ho => (no j o hj ho).elim, fun _ _ j o hj ho => (no j o hj ho).elim⟩
  exact ⟨fun j o hj ho => (no j o hj ho).elim, fun j o hj ho => (no j o hj ho).elim, fun j o hj ho => (no j o hj ho).elim, fun j o hj ho => (no j o hj ho).elim, fun j o e p hj ho he _ _ _ hlt => (no j o (by omega) ho).elim, fun j o e p hj ho => (no j o hj ho).elim, fun j o hj ho => (no j o hj ho).elim⟩
 | succ k ih =>
  intro i hik fr S hist flts h
  have hlt : i < ops.length := by omega
  rw [List.drop_eq_getElem_cons hlt] at h
  have hop : ops[i]? = some ops[i] := List.getElem?_eq_getElem hlt
  generalize ops[i] = o at h hop
  rw [evDrawQ] at h
  have step : ∀ (v : V) (w : Bool) (S1 : Store) (hist' : List (Nat × Store)) (flts' : List (Nat × Oper × Fr × V)), wantedV ops fr o = some w →
    (w = true → evOp E call (opnd E fr) S o = some (v, S1)) → (w = false → S1 = S) → (w = true → efQ fl i o = false → S1 = S) →
    evDrawQ E call ops b fl (ops.drop (i + 1)) (i + 1) (put fr o.dst (if w then v else .tup [])) S1 hist' flts' = some (fr', S') →
    (∀ h ∈ hist, h ∈ hist') → (∀ x ∈ flts, x ∈ flts') →
    (w = true → efQ fl i o = true → (i, S) ∈ hist') → (w = true → efQ fl i o = false → rdQ fl i o = true → (i, o, fr, v) ∈ flts') →
    (w = true → efQ fl i o = false → rdQ fl i o = true → ∀ h ∈ hist, (b.getD i 0).testBit h.1 = false → AlsoQ E call fr h.2 o v) →
    (w = true → efQ fl i o = true → ∀ x ∈ flts, (b.getD i 0).testBit x.1 = false → AlsoQ E call x.2.2.1 S1 x.2.1 x.2.2.2) →
    ∃ frs sts vals want, frs i = fr ∧ sts i = S ∧ frs ops.length = fr' ∧ sts ops.length = S' ∧ RecQ E call ops b fl i frs sts vals want ∧
     (∀ h ∈ hist, ∀ (j : Nat) (o : Oper), i ≤ j → ops[j]? = some o → want j = true → efQ fl j o = false → rdQ fl j o = true → (b.getD j 0).testBit h.1 = false → AlsoQ E call (frs j) h.2 o (vals j)) ∧
     (∀ x ∈ flts, ∀ (e : Nat) (p : Oper), i ≤ e → ops[e]? = some p → want e = true → efQ fl e p = true → (b.getD e 0).testBit x.1 = false → AlsoQ E call x.2.2.1 (sts (e + 1)) x.2.1 x.2.2.2) := by
   intro v w S1 hist' flts' hw hev hsk hst hrest hh hx hnew hnewf hback hfwd
   obtain ⟨frs, sts, vals, want, e1, e2, e3, e4, hr, hH, hF⟩ := ih (i + 1) (by omega) _ _ _ _ hrest
   refine ⟨fun j => if j = i then fr else frs j, fun j => if j = i then S else sts j, fun j => if j = i then v else vals j, fun j => if j = i then w else want j, by simp, by simp, ?_, ?_, ⟨?_, ?_, ?_, ?_, ?_, ?_, ?_⟩, ?_, ?_⟩
   ·simp only [show ¬ ops.length = i by omega, if_false]; exact e3
   ·simp only [show ¬ ops.length = i by omega, if_false]; exact e4
   ·intro j p hj hp
    by_cases hji : j = i
    ·subst hji
     rw [hop] at hp
     cases hp
     simpa using hw
    ·simp only [hji, if_false]
     exact hr.want_ j p (by omega) hp
   ·intro j p hj hp hwj
    by_cases hji : j = i
    ·subst hji
     rw [hop] at hp
     cases hp
     simp only [if_true] at hwj
     simp only [if_true, show ¬ j + 1 = j by omega, if_false, e2]
     exact hev hwj
    ·simp only [hji, if_false] at hwj
     simp only [hji, if_false, show ¬ j + 1 = i by omega]
     exact hr.op j p (by omega) hp hwj
   ·intro j p hj hp hwj
    by_cases hji : j = i
    ·subst hji
     simp only [if_true] at hwj
     simp only [if_true, show ¬ j + 1 = j by omega, if_false, e2]
     exact hsk hwj
    ·simp only [hji, if_false] at hwj
     simp only [hji, if_false, show ¬ j + 1 = i by omega]
     exact hr.skip j p (by omega) hp hwj
   ·intro j p hj hp
    by_cases hji : j = i
    ·subst hji
     rw [hop] at hp
     cases hp
     simp only [if_true, show ¬ j + 1 = j by omega, if_false, e1]
    ·simp only [hji, if_false, show ¬ j + 1 = i by omega]
     exact hr.fr j p (by omega) hp
   ·intro j p e q he hp hq hwj h1 h2 hlt' hwe h3 hb
    have hji : ¬ j = i := by omega
    simp only [hji, if_false] at hwj
    simp only [hji, if_false]
    by_cases hei : e = i
    ·subst hei
     rw [hop] at hq
     cases hq
     simp only [if_true] at hwe
     simp only [if_true]
     exact hH (e, S) (hnew hwe h3) j p (by omega) hp hwj h1 h2 hb
    ·simp only [hei, if_false] at hwe
     simp only [hei, if_false]
     exact hr.back j p e q (by omega) hp hq hwj h1 h2 hlt' hwe h3 hb
   ·intro j p e q hj hp hq hwj h1 h2 hlt' hwe h3 hb
    have hei : ¬ e = i := by omega
    simp only [hei, if_false] at hwe
    simp only [show ¬ e + 1 = i by omega, if_false]
    by_cases hji : j = i
    ·subst hji
     rw [hop] at hp
     cases hp
     simp only [if_true] at hwj
     simp only [if_true]
     exact hF (j, o, fr, v) (hnewf hwj h1 h2) e q (by omega) hq hwe h3 hb
    ·simp only [hji, if_false] at hwj
     simp only [hji, if_false]
     exact hr.fwd j p e q (by omega) hp hq hwj h1 h2 hlt' hwe h3 hb
   ·intro j p hj hp hwj h1
    by_cases hji : j = i
    ·subst hji
     rw [hop] at hp
     cases hp
     simp only [if_true] at hwj
     simp only [if_true, show ¬ j + 1 = j by omega, if_false, e2]
     exact hst hwj h1
    ·simp only [hji, if_false] at hwj
     simp only [hji, if_false, show ¬ j + 1 = i by omega]
     exact hr.still j p (by omega) hp hwj h1
   ·intro x0 hm j p hj hp hwj h1 h2 hb
    by_cases hji : j = i
    ·subst hji
     rw [hop] at hp
     cases hp
     simp only [if_true] at hwj
     simp only [if_true]
     exact hback hwj h1 h2 x0 hm hb
    ·simp only [hji, if_false] at hwj
     simp only [hji, if_false]
     exact hH x0 (hh x0 hm) j p (by omega) hp hwj h1 h2 hb
   ·intro x hm e q he hq hwe h3 hb
    by_cases hei : e = i
    ·subst hei
     rw [hop] at hq
     cases hq
     simp only [if_true] at hwe
     simp only [show ¬ e + 1 = e by omega, if_false, e2]
     exact hfwd hwe h3 x hm hb
    ·simp only [hei, if_false] at hwe
     simp only [show ¬ e + 1 = i by omega, if_false]
     exact hF x (hx x hm) e q (by omega) hq hwe h3 hb
  split at h
  ·rename_i hwv
   split at h
   ·rename_i v S1 hev
    split at h
    ·rename_i heff
     have heff : efQ fl i o = true := heff
     split at h
     ·rename_i hck
      refine step v true S1 ((i, S) :: hist) flts hwv (fun _ => hev) (fun h => by cases h) (fun _ h1 => by rw [heff] at h1; cases h1) (by simpa using h) (fun h hm => List.mem_cons_of_mem _ hm) (fun x hx => hx) (fun _ _ => List.mem_cons_self) (fun _ h1 => by rw [heff] at h1; cases h1)
       (fun _ h1 => by rw [heff] at h1; cases h1) (fun _ _ x hx hb => ?_)
      have := List.all_eq_true.1 hck x hx
      simp only [hb, Bool.false_or] at this
      exact also_ofQ this
     ·cases h
    ·rename_i heff
     have heff : efQ fl i o = false := by simpa [efQ] using heff
     split at h
     ·rename_i hrd
      split at h
      ·rename_i hck
       rw [Bool.and_eq_true] at hck
       have hS1 := Store.beq_eq _ _ hck.1
       subst hS1
       refine step v true S1 hist ((i, o, fr, v) :: flts) hwv (fun _ => hev) (fun h => by cases h) (fun _ _ => rfl) (by simpa using h) (fun h hm => hm) (fun x hx => List.mem_cons_of_mem _ hx) (fun _ h1 => by rw [heff] at h1; cases h1) (fun _ _ _ => List.mem_cons_self)
        (fun _ _ _ x hx hb => ?_) (fun _ h1 => by rw [heff] at h1; cases h1)
       have := List.all_eq_true.1 hck.2 x hx
       simp only [hb, Bool.false_or] at this
       exact also_ofQ this
      ·cases h
     ·rename_i hrd
      have hrd : rdQ fl i o = false := by simpa [rdQ] using hrd
      have hS1 := nonEff_store hev (efQ_split heff hrd).1
      subst hS1
      exact step v true S1 hist flts hwv (fun _ => hev) (fun h => by cases h) (fun _ _ => rfl) (by simpa using h) (fun h hm => hm) (fun x hx => hx) (fun _ h1 => by rw [heff] at h1; cases h1) (fun _ _ h2 => by rw [hrd] at h2; cases h2)
        (fun _ _ h2 => by rw [hrd] at h2; cases h2) (fun _ h1 => by rw [heff] at h1; cases h1)
   ·cases h
  ·rename_i hwv
   exact step .junk false S hist flts hwv (fun h => by cases h) (fun _ => rfl) (fun h => by cases h) (by simpa using h) (fun h hm => hm) (fun x hx => hx) (fun h => by cases h) (fun h => by cases h) (fun h => by cases h) (fun h => by cases h)
  ·cases h
theorem names_dstQ {ops : List Oper} {o : Oper} {d : Nat} (h : o.dst = some d) : d ∈ namesOf ops o := by simp [namesOf, h]
theorem names_tmpQ {ops : List Oper} {o : Oper} {t : Nat} (h : Operand.tmp t ∈ o.op.operands) : t ∈ namesOf ops o := by
 simp only [namesOf, List.mem_append, List.mem_filterMap]
 exact .inl (.inr ⟨.tmp t, by simpa using h, rfl⟩)
theorem names_guardQ {ops : List Oper} {o p : Oper} {j d : Nat} {w : Bool} (hg : o.guard = some (j, w)) (hp : ops[j]? = some p) (hd : p.dst = some d) : d ∈ namesOf ops o := by
 simp only [namesOf, List.mem_append]
 right
 simp [hg, hp, hd]
theorem rec_keepQ {ops : List Oper} {frs : Nat → Fr} {sts : Nat → Store} {vals : Nat → V} {want : Nat → Bool} (hr : RecQ E call ops b fl 0 frs sts vals want) {d : Nat} : ∀ (k j : Nat), j ≤ k → k ≤ ops.length →
  (∀ (i : Nat) (o : Oper), j ≤ i → i < k → ops[i]? = some o → o.dst ≠ some d) → lget (frs k) d = lget (frs j) d := by
 intro k
 induction k with
 | zero =>
  intro j hj _ _
  have : j = 0 := by omega
  subst this
  rfl
 | succ k ih =>
  intro j hj hk hno
  by_cases hjk : j = k + 1
  ·subst hjk; rfl
  ·have hlt : k < ops.length := by omega
   have hop : ops[k]? = some ops[k] := List.getElem?_eq_getElem hlt
   rw [hr.fr k _ (by omega) hop, lget_put, if_neg (hno k _ (by omega) (by omega) hop)]
   exact ih j (by omega) (by omega) (fun i o h1 h2 h3 => hno i o h1 (by omega) h3)
theorem rec_storeQ {ops : List Oper} {frs : Nat → Fr} {sts : Nat → Store} {vals : Nat → V} {want : Nat → Bool} (hr : RecQ E call ops b fl 0 frs sts vals want) : ∀ (k j : Nat), j ≤ k → k ≤ ops.length →
  (∀ (i : Nat) (o : Oper), j ≤ i → i < k → ops[i]? = some o → ¬ (want i = true ∧ efQ fl i o = true)) → sts k = sts j := by
 intro k
 induction k with
 | zero =>
  intro j hj _ _
  have : j = 0 := by omega
  subst this
  rfl
 | succ k ih =>
  intro j hj hk hno
  by_cases hjk : j = k + 1
  ·subst hjk; rfl
  ·have hlt : k < ops.length := by omega
   have hop : ops[k]? = some ops[k] := List.getElem?_eq_getElem hlt
   have hstep : sts (k + 1) = sts k := by
    cases hw : want k with
    | false => exact hr.skip k _ (by omega) hop hw
    | true =>
     have hne : efQ fl k ops[k] = false := by
      have := hno k _ (by omega) (by omega) hop
      simp [hw] at this
      exact this
     exact hr.still k _ (by omega) hop hw hne
   rw [hstep]
   exact ih j (by omega) (by omega) (fun i o h1 h2 h3 => hno i o h1 (by omega) h3)
theorem draw_anyQ (hC : CallOk E call) (hP : PrimOk E) {n : Nat} (hodd : OddQ ops.toList b fl) (hd : dstsOk n ops.toList = true) {frs : Nat → Fr} {sts : Nat → Store} {vals : Nat → V} {want : Nat → Bool}
  (hr : RecQ E call ops.toList b fl 0 frs sts vals want) {Q : Exit → Act → World → Prop} : ∀ (l : List Nat) (D : Nat → Prop) (a : Act) (m : M) (p : Nat), Lin ops.size ops.toList D l →
  (∀ i, D i → i < ops.size → ∀ j, j < ops.size → (b.getD i 0).testBit j = true → D j) → p ≤ ops.size →
  (∀ (e : Nat) (q : Oper), ops.toList[e]? = some q → want e = true → efQ fl e q = true → (D e ↔ e < p)) → Inv E (sts p) m → n ≤ a.tmps.size → a.defers = ds →
  (∀ (d k : Nat), k ≤ ops.size → (∀ (j : Nat) (q : Oper), ops.toList[j]? = some q → q.dst = some d → (D j ↔ j < k)) → VR m (lget (frs k) d) (a.tmps.getD d undef)) →
  (∀ a' m', Ext m m' → FR ds (frs ops.size) a' m' n → Inv E (sts ops.size) m' → Q .normal a' m'.w) → wpOpsIn (Fw ro) 0 E.P ops Q l a m.w := by
 have hlen : ops.toList.length = ops.size := by simp
 intro l
 induction l with
 | nil =>
  intro D a m p hlin _ hp heff hi hs hdf hfr K
  have hall : ∀ i, i < ops.size → D i := hlin
  refine K a m (Ext.refl m) ⟨hs, hdf, fun d => hfr d ops.size (Nat.le_refl _) (fun j q hj _ => ?_)⟩ ?_
  ·have := (List.getElem?_eq_some_iff.1 hj).1
   exact ⟨fun _ => by omega, fun h => hall j h⟩
  ·rw [rec_storeQ hr ops.size p hp (by omega) (fun i o h1 h2 ho h3 => by
    have := (heff i o ho h3.1 h3.2).1 (hall i h2)
    omega)]
   exact hi
 | cons i r ih =>
  intro D a m p hlin hclos hp heff hi hs hdf hfr K
  obtain ⟨hlt, hnD, hpre, hlin⟩ := hlin
  have hlt' : i < ops.toList.length := by omega
  have hop : ops.toList[i]? = some ops.toList[i] := List.getElem?_eq_getElem hlt'
  have hop' : ops[i]? = some ops.toList[i] := by simpa using hop
  generalize ops.toList[i] = o at hop hop'
  have hmem : o ∈ ops.toList := List.mem_of_getElem? hop
  have hlt_of : ∀ {j : Nat} {q : Oper}, ops.toList[j]? = some q → j < ops.size := fun {j q} h => by have := (List.getElem?_eq_some_iff.1 h).1; omega
  have hbef : ∀ j, j < ops.size → (b.getD i 0).testBit j = true → D j := by
   intro j hj hb
   obtain ⟨_, e, he, hbe, h⟩ := hodd.clos i o hop j (by omega) hb
   have hDe := hpre o hop e he hbe
   rcases h with rfl | h
   ·exact hDe
   ·have := hodd.edge i o hop e he hbe
    exact hclos e.on hDe (by omega) j hj h
  have haft : ∀ (j : Nat), j < ops.size → (b.getD j 0).testBit i = true → ¬ D j := fun j hj hb hDj => hnD (hclos j hDj hj i hlt hb)
  have hname : ∀ t, t ∈ namesOf ops.toList o → VR m (lget (frs i) t) (a.tmps.getD t undef) := by
   intro t ht
   refine hfr t i (by omega) (fun j q hj hq => ?_)
   by_cases hji : j = i
   ·subst hji
    exact ⟨fun h => absurd h hnD, fun h => by omega⟩
   ·have hdat := hodd.data i o t j q hop ht hj hq hji
    rcases Nat.lt_or_gt_of_ne hji with h | h
    ·rw [Nat.max_eq_left (by omega), Nat.min_eq_right (by omega)] at hdat
     exact ⟨fun _ => h, fun _ => hbef j (hlt_of hj) hdat⟩
    ·rw [Nat.max_eq_right (by omega), Nat.min_eq_left (by omega)] at hdat
     exact ⟨fun hD => absurd hD (haft j (hlt_of hj) hdat), fun h' => by omega⟩
  have hwant := hr.want_ i o (by omega) hop
  have hw : Region.wanted o (yielded ops a.tmps) = want i := wanted_sound hwant hs (fun j w q d hg hq hdq => by
   have hq' : ops.toList[j]? = some q := by simpa using hq
   exact ⟨dstsOk_of hd (List.mem_of_getElem? hq') d hdq, hname d (names_guardQ hg hq' hdq)⟩)
  have hstp := hr.fr i o (by omega) hop
  have go_on : ∀ (u : Value) (m' : M) (p' : Nat), Ext m m' → p' ≤ ops.size → Inv E (sts p') m' → VR m' (if want i then vals i else .tup []) u →
    (∀ (e : Nat) (q : Oper), ops.toList[e]? = some q → want e = true → efQ fl e q = true → ((D e ∨ e = i) ↔ e < p')) → wpOpsIn (Fw ro) 0 E.P ops Q r (a.put o.dst u) m'.w := by
   intro u m' p' hext hp' hinv hv heff'
   refine ih (fun j => D j ∨ j = i) (a.put o.dst u) m' p' hlin (fun j hj hjlt k hk hb => ?_) hp' heff' hinv (by rw [act_put_size]; exact hs) (by rw [act_put_defers]; exact hdf) (fun d k hk hwr => ?_) (fun a' m'' h1 h2 h3 => K a' m'' (hext.trans h1) h2 h3)
   ·rcases hj with hj | rfl
    ·exact .inl (hclos j hj hjlt k hk hb)
    ·exact .inl (hbef k hk hb)
   ·rw [act_put_getD _ _ _ _ (fun d' hd' => Nat.lt_of_lt_of_le (dstsOk_of hd hmem d' hd') hs)]
    by_cases hdd : o.dst = some d
    ·rw [if_pos hdd]
     have hik : i < k := (hwr i o hop hdd).1 (.inr rfl)
     rw [rec_keepQ hr k (i + 1) (by omega) (by omega) (fun j q h1 h2 hj hq => by
      have hDj := (hwr j q hj hq).2 h2
      rcases hDj with hDj | hDj
      ·have hdat := hodd.data i o d j q hop (names_dstQ hdd) hj hq (by omega)
       rw [Nat.max_eq_right (by omega), Nat.min_eq_left (by omega)] at hdat
       exact haft j (hlt_of hj) hdat hDj
      ·omega), hstp, lget_put, if_pos hdd]
     exact hv
    ·rw [if_neg hdd]
     refine (hfr d k hk (fun j q hj hq => ?_)).ext hext
     have := hwr j q hj hq
     have hji : j ≠ i := by
      rintro rfl
      rw [hop] at hj
      cases hj
      exact hdd hq
     simpa [hji] using this
  simp only [wpOpsIn, hop']
  cases hwi : want i with
  | false =>
   rw [if_neg (by rw [hw, hwi]; simp)]
   refine ⟨fun _ _ => trivial, ?_⟩
   refine go_on undef m p (Ext.refl m) hp hi (by rw [hwi]; simp only [Bool.false_eq_true, if_false, VR]; exact ⟨#[], rfl, by simp [VRL]⟩) (fun e q he h1 h2 => ?_)
   have hne : e ≠ i := by rintro rfl; rw [hwi] at h1; cases h1
   simpa [hne] using heff e q he h1 h2
  | true =>
   rw [if_pos (by rw [hw, hwi])]
   have hρ : ∀ x, x ∈ o.op.operands → VR m (opnd E (frs i) x) (a.eval x) := by
    intro x hx
    cases x with
    | tmp t => exact hname t (names_tmpQ hx)
    | const v => exact VR_vOf v
    | global g =>
     simp only [opnd]
     split
     ·rename_i cs h
      exact hi.glob g cs h
     ·simp [VR]
    | func f =>
     simp only [opnd, VR]
     exact ⟨#[], #[], rfl, by simp [VRL], by simp [VRL]⟩
   have hev := hr.op i o (by omega) hop hwi
   cases heo : efQ fl i o with
   | true =>
    have hsp : sts p = sts i := by
     rcases Nat.le_total p i with h | h
     ·refine (rec_storeQ hr i p h (by omega) (fun e q h1 h2 he h3 => ?_)).symm
      have := (heff e q he h3.1 h3.2).1 (hbef e (by omega) (hodd.eff i o e q hop he heo h3.2 h2))
      omega
     ·refine rec_storeQ hr p i h (by omega) (fun e q h1 h2 he h3 => ?_)
      have hDe := (heff e q he h3.1 h3.2).2 h2
      by_cases hei : e = i
      ·subst hei
       exact hnD hDe
      ·exact haft e (by omega) (hodd.eff e q i o he hop h3.2 heo (by omega)) hDe
    rw [hsp] at hi
    refine evOp_sound hC hP hev hρ hi (fun u m' h1 h2 h3 => go_on u m' (i + 1) h1 (by omega) h2 (by rw [hwi]; exact h3) (fun e q he h4 h5 => ?_))
    rcases Nat.lt_trichotomy e i with h | h | h
    ·exact ⟨fun _ => by omega, fun _ => .inl (hbef e (by omega) (hodd.eff i o e q hop he heo h5 h))⟩
    ·exact ⟨fun _ => by omega, fun _ => .inr h⟩
    ·refine ⟨fun h' => ?_, fun h' => by omega⟩
     rcases h' with h' | h'
     ·exact absurd h' (haft e (hlt_of he) (hodd.eff e q i o he hop h5 heo h))
     ·omega
   | false =>
    have hev' : evOp E call (opnd E (frs i)) (sts i) o = some (vals i, sts i) := by
     rw [hr.still i o (by omega) hop hwi heo] at hev
     exact hev
    have hat : evOp E call (opnd E (frs i)) (sts p) o = some (vals i, sts p) := by
     cases hrd : rdQ fl i o with
     | false => exact nonRead_any hev (efQ_split heo hrd).1 (efQ_split heo hrd).2 _
     | true =>
      rcases Nat.le_total p i with h | h
      ·by_cases hex : ∃ e, p ≤ e ∧ e < p + (i - p) ∧ (∃ q, ops.toList[e]? = some q ∧ want e = true ∧ efQ fl e q = true)
       ·haveI : DecidablePred (fun e => ∃ q, ops.toList[e]? = some q ∧ want e = true ∧ efQ fl e q = true) := fun _ => Classical.propDecidable _
        obtain ⟨e, h1, h2, ⟨q, he, hwe, hqe⟩, hfirst⟩ := first_of _ p (i - p) hex
        rw [← rec_storeQ hr e p h1 (by omega) (fun e' q' h3 h4 he' h5 => hfirst e' h3 h4 ⟨q', he', h5⟩)]
        refine hr.back i o e q (by omega) hop he hwi heo hrd (by omega) hwe hqe ?_
        cases hb : (b.getD i 0).testBit e with
        | false => rfl
        | true =>
         have := (heff e q he hwe hqe).1 (hbef e (by omega) hb)
         omega
       ·rw [← rec_storeQ hr i p h (by omega) (fun e q h3 h4 he h5 => hex ⟨e, h3, by omega, q, he, h5⟩)]
        exact hev'
      ·by_cases hex : ∃ e, i ≤ e ∧ e < i + (p - i) ∧ (∃ q, ops.toList[e]? = some q ∧ want e = true ∧ efQ fl e q = true)
       ·haveI : DecidablePred (fun e => ∃ q, ops.toList[e]? = some q ∧ want e = true ∧ efQ fl e q = true) := fun _ => Classical.propDecidable _
        obtain ⟨e, h1, h2, ⟨q, he, hwe, hqe⟩, hlast⟩ := last_of _ i (p - i) hex
        have hei : e ≠ i := by
         rintro rfl
         rw [hop] at he
         cases he
         rw [heo] at hqe
         cases hqe
        rw [rec_storeQ hr p (e + 1) (by omega) (by omega) (fun e' q' h3 h4 he' h5 => hlast e' (by omega) (by omega) ⟨q', he', h5⟩)]
        refine hr.fwd i o e q (by omega) hop he hwi heo hrd (by omega) hwe hqe ?_
        cases hb : (b.getD e 0).testBit i with
        | false => rfl
        | true => exact absurd ((heff e q he hwe hqe).2 (by omega)) (haft e (hlt_of he) hb)
       ·rw [rec_storeQ hr p i h (by omega) (fun e q h3 h4 he h5 => hex ⟨e, h3, by omega, q, he, h5⟩)]
        exact hev'
    refine evOp_sound hC hP hat hρ hi (fun u m' h1 h2 h3 => go_on u m' p h1 hp h2 (by rw [hwi]; exact h3) (fun e q he h4 h5 => ?_))
    have hne : e ≠ i := by
     rintro rfl
     rw [hop] at he
     cases he
     rw [heo] at h5
     cases h5
    simpa [hne] using heff e q he h4 h5
end Go.Vm
set_option autoImplicit false
namespace Go.Vm
variable {ro : Option Nat} {ds : List Deferred} {E : Env} {S S' : Store} {m : M} {call : Tg → List V → Store → Option (V × Store)}
def drawOkQ (ops : List Oper) (b : List Nat) (fl : List Bool) : Bool :=
 ordOk .any id ops && (List.range ops.length).all fun i =>
  match ops[i]? with
  | none => false
  | some o =>
   ((List.range ops.length).all fun j => !(b.getD i 0).testBit j || (decide (j < i) && o.after.toList.any fun e => Region.binds .any e && (e.on == j || (b.getD e.on 0).testBit j))) &&
   (match o.guard with | some (j, _) => (b.getD i 0).testBit j | none => true) &&
   (!efQ fl i o || (List.range i).all fun j => match ops[j]? with | some p => !efQ fl j p || (b.getD i 0).testBit j | none => true) &&
   ((namesOf ops o).all fun t => (List.range ops.length).all fun j => match ops[j]? with | some p => p.dst != some t || j == i || (b.getD (max i j) 0).testBit (min i j) | none => true)
theorem drawOkQ_odd {ops : List Oper} {b : List Nat} {fl : List Bool} (h : drawOkQ ops b fl = true) : OddQ ops b fl := by
 unfold drawOkQ at h
 rw [Bool.and_eq_true] at h
 obtain ⟨g1, h⟩ := h
 have key : ∀ (i : Nat) (o : Oper), ops[i]? = some o → _ := fun i o ho => List.all_eq_true.1 h i (List.mem_range.2 (List.getElem?_eq_some_iff.1 ho).1)
 refine ⟨fun i o ho e he hb => (ordOk_ranked g1 i o ho e he hb).1, fun i o ho j hj hb => ?_, fun i o j w ho hg => ?_, fun i o j p ho hp h1 h2 h3 => ?_, fun i o t j p ho ht hp hd hne => ?_⟩
 all_goals
  have h0 := key i o ho
  simp only [ho, Bool.and_eq_true] at h0
  obtain ⟨⟨⟨k2, k3⟩, k4⟩, k5⟩ := h0
 ·have := List.all_eq_true.1 k2 j (List.mem_range.2 hj)
  simp only [hb, Bool.not_true, Bool.false_or, Bool.and_eq_true, decide_eq_true_eq, List.any_eq_true, Bool.or_eq_true, beq_iff_eq] at this
  exact this
 ·rw [hg] at k3
  exact k3
 ·simp only [h1, Bool.not_true, Bool.false_or] at k4
  have := List.all_eq_true.1 k4 j (List.mem_range.2 h3)
  simpa [hp, h2] using this
 ·have := List.all_eq_true.1 (List.all_eq_true.1 k5 t ht) j (List.mem_range.2 (List.getElem?_eq_some_iff.1 hp).1)
  simp only [hp, hd, bne_self_eq_false, Bool.false_or, Bool.or_eq_true, beq_iff_eq] at this
  exact this.resolve_left hne
def fitG (ops : List Oper) : Bool :=
 let ord := topo ops
 let o' := permOps ops ord
 let b' := (Region.before o'.toArray).toList
 (ord.length == ops.length && decide ord.Nodup && ord.all (fun i => decide (i < ops.length)) && (List.range ops.length).all fun i => ord.contains i) &&
 ordOk .any (fun i => ord.idxOf i) ops && drawOkQ o' b' (qflags o' b')
def permFit (ops : List Oper) : Bool :=
 (ordOk .any (fun i => (topo ops).idxOf i) ops && ordSome .text ops && ordSome .gc ops) &&
 match loosePair ops with
 | none => fitG ops
 | some (i, j) => decide (i < ops.length) && decide (j < ops.length) && decide (i ≠ j) && fitG (addAfter ops j i) && fitG (addAfter ops i j)
structure Perm (ops : List Oper) (ord : List Nat) : Prop where
 len : ord.length = ops.length
 nodup : ord.Nodup
 lt : ∀ i ∈ ord, i < ops.length
 mem : ∀ i, i < ops.length → i ∈ ord
theorem filterMap_get {α β : Type} (f : α → Option β) : ∀ (l : List α), (∀ x ∈ l, (f x).isSome = true) → ∀ k : Nat, (l.filterMap f)[k]? = (l[k]?).bind f
 | [], _, k => by simp
 | x :: l, h, k => by
  obtain ⟨y, hy⟩ := Option.isSome_iff_exists.1 (h x (by simp))
  rw [List.filterMap_cons_some hy]
  cases k with
  | zero => simp [hy]
  | succ k => simpa using filterMap_get f l (fun z hz => h z (by simp [hz])) k
section perm
variable {ops : List Oper} {ord : List Nat} (hp : Perm ops ord)
include hp
theorem Perm.isSm {x : Nat} (h : x ∈ ord) : ((ops[x]?).map (reOp ord)).isSome = true := by
 rw [Option.isSome_map, List.getElem?_eq_getElem (hp.lt x h)]
 rfl
theorem Perm.get (k : Nat) : (permOps ops ord)[k]? = (ord[k]?).bind fun i => (ops[i]?).map (reOp ord) :=
 filterMap_get _ ord (fun x hx => hp.isSm hx) k
theorem Perm.length : (permOps ops ord).length = ops.length := by
 have h : ∀ l : List Nat, (∀ x ∈ l, ((ops[x]?).map (reOp ord)).isSome = true) → (l.filterMap fun i => (ops[i]?).map (reOp ord)).length = l.length := by
  intro l
  induction l with
  | nil => intro _; rfl
  | cons x l ih =>
   intro h
   obtain ⟨y, hy⟩ := Option.isSome_iff_exists.1 (h x (by simp))
   rw [List.filterMap_cons_some (f := fun i => (ops[i]?).map (reOp ord)) hy, List.length_cons, List.length_cons, ih fun z hz => h z (by simp [hz])]
 show (ord.filterMap fun i => (ops[i]?).map (reOp ord)).length = _
 rw [h ord fun x hx => hp.isSm hx, hp.len]
theorem Perm.pos_lt {i : Nat} (h : i < ops.length) : ord.idxOf i < ops.length := by
 rw [← hp.len]
 exact List.idxOf_lt_length_of_mem (hp.mem i h)
theorem Perm.at_pos {i : Nat} (h : i < ops.length) : ord[ord.idxOf i]? = some i := by
 have := List.idxOf_lt_length_of_mem (hp.mem i h)
 rw [List.getElem?_eq_getElem this, List.getElem_idxOf this]
theorem Perm.get_pos {i : Nat} {o : Oper} (h : ops[i]? = some o) : (permOps ops ord)[ord.idxOf i]? = some (reOp ord o) := by
 have hi := (List.getElem?_eq_some_iff.1 h).1
 rw [hp.get, hp.at_pos hi]
 simp [h]
theorem Perm.inj {i j : Nat} (hi : i < ops.length) (hj : j < ops.length) (h : ord.idxOf i = ord.idxOf j) : i = j := by
 have h1 := hp.at_pos hi
 rw [h, hp.at_pos hj] at h1
 exact (Option.some.inj h1).symm
theorem Perm.onto {k : Nat} (hk : k < ops.length) : ∃ i, i < ops.length ∧ ord.idxOf i = k := by
 have hk' : k < ord.length := by rw [hp.len]; exact hk
 refine ⟨ord[k], hp.lt _ (List.getElem_mem hk'), ?_⟩
 exact hp.nodup.idxOf_getElem k hk'
theorem Perm.lin (hr : ∃ rk, Ranked .any rk ops) : ∀ (l : List Nat) (D : Nat → Prop), Lin ops.length ops D l → Lin ops.length (permOps ops ord) (fun k => ∃ i, i < ops.length ∧ ord.idxOf i = k ∧ D i) (l.map ord.idxOf)
 | [], D, h => fun k hk => by
  obtain ⟨i, h1, h2⟩ := hp.onto hk
  exact ⟨i, h1, h2, h i h1⟩
 | i :: r, D, ⟨h1, h2, h3, h4⟩ => by
  refine ⟨hp.pos_lt h1, ?_, ?_, ?_⟩
  ·rintro ⟨j, j1, j2, j3⟩
   rw [hp.inj j1 h1 j2] at j3
   exact h2 j3
  ·intro o' ho' e' he' hb
   have hop : ops[i]? = some ops[i] := List.getElem?_eq_getElem h1
   rw [hp.get_pos hop] at ho'
   cases ho'
   obtain ⟨e, he, rfl⟩ : ∃ e ∈ ops[i].after.toList, e' = { e with on := ord.idxOf e.on } := by
    simp only [reOp, Array.toList_map, List.mem_map] at he'
    obtain ⟨e, h5, h6⟩ := he'
    exact ⟨e, h5, h6.symm⟩
   obtain ⟨rk, hrk⟩ := hr
   exact ⟨e.on, (hrk i _ hop e he hb).2, rfl, h3 _ hop e he hb⟩
  ·refine Lin.congr _ (fun k => ?_) (Perm.lin hr r _ h4)
   constructor
   ·rintro ⟨j, j1, j2, j3 | rfl⟩
    ·exact .inl ⟨j, j1, j2, j3⟩
    ·exact .inr j2.symm
   ·rintro (⟨j, j1, j2, j3⟩ | rfl)
    ·exact ⟨j, j1, j2, .inl j3⟩
    ·exact ⟨i, h1, rfl, .inr rfl⟩
end perm
theorem lin_lt {n : Nat} {ops : List Oper} : ∀ (l : List Nat) {D : Nat → Prop}, Lin n ops D l → ∀ i ∈ l, i < n
 | [], _, _, i, h => by cases h
 | j :: r, D, ⟨h1, _, _, h4⟩, i, h => by
  rcases List.mem_cons.1 h with rfl | h
  ·exact h1
  ·exact lin_lt r h4 i h
theorem yielded_perm {ops : Array Oper} {ord : List Nat} (hp : Perm ops.toList ord) (tmps : Array Value) (j : Nat) : yielded (permOps ops.toList ord).toArray tmps (ord.idxOf j) = yielded ops tmps j := by
 unfold yielded
 have h : ((permOps ops.toList ord).toArray)[ord.idxOf j]? = (ops[j]?).map (reOp ord) := by
  rcases Nat.lt_or_ge j ops.toList.length with hj | hj
  ·have hop : ops.toList[j]? = some ops.toList[j] := List.getElem?_eq_getElem hj
   have := hp.get_pos hop
   rw [List.getElem?_toArray, this]
   have h2 : ops[j]? = some ops.toList[j] := by simpa using hop
   rw [h2]
   rfl
  ·have h1 : ord.idxOf j = ord.length := List.idxOf_eq_length fun hm => by have := hp.lt j hm; omega
   rw [h1, hp.len, List.getElem?_toArray, List.getElem?_eq_none (by rw [hp.length]; exact Nat.le_refl _), Array.getElem?_eq_none (by simpa using hj)]
   rfl
 rw [h]
 cases ops[j]? <;> rfl
theorem wp_perm {F : Fence} {n : Nat} {P : Program} {ops : Array Oper} {ord : List Nat} (hp : Perm ops.toList ord) {Q : Exit → Act → World → Prop} : ∀ (l : List Nat), (∀ i ∈ l, i < ops.size) →
  wpOpsIn F n P (permOps ops.toList ord).toArray Q (l.map ord.idxOf) = wpOpsIn F n P ops Q l
 | [], _ => by funext a w; rfl
 | i :: r, h => by
  have ih := wp_perm (F := F) (n := n) (P := P) hp (Q := Q) r fun j hj => h j (by simp [hj])
  have hi : i < ops.toList.length := by simpa using h i (by simp)
  have hop : ops.toList[i]? = some ops.toList[i] := List.getElem?_eq_getElem hi
  have h1 := hp.get_pos hop
  have h2 : ops[i]? = some ops.toList[i] := by simpa using hop
  generalize ops.toList[i] = o at h1 h2
  funext a w
  rw [List.map_cons]
  simp only [wpOpsIn, List.getElem?_toArray, h1, h2, ih]
  have hw : Region.wanted (reOp ord o) (yielded (permOps ops.toList ord).toArray a.tmps) = Region.wanted o (yielded ops a.tmps) := by
   unfold Region.wanted reOp
   cases hg : o.guard with
   | none => rfl
   | some g => simp only [Option.map_some]; rw [yielded_perm hp]
  rw [hw]
  rfl
theorem fitG_perm {ops : List Oper} (h : fitG ops = true) : Perm ops (topo ops) ∧ (∃ rk, Ranked .any rk ops) ∧ OddQ (permOps ops (topo ops)) (Region.before (permOps ops (topo ops)).toArray).toList (qflags (permOps ops (topo ops)) (Region.before (permOps ops (topo ops)).toArray).toList) := by
 unfold fitG at h
 simp only [Bool.and_eq_true, beq_iff_eq, decide_eq_true_eq, List.all_eq_true, List.mem_range, List.contains_eq_mem] at h
 obtain ⟨⟨⟨⟨⟨h1, h2⟩, h3⟩, h4⟩, h5⟩, h8⟩ := h
 exact ⟨⟨h1, h2, h3, h4⟩, ⟨_, ordOk_ranked h5⟩, drawOkQ_odd h8⟩
theorem dsts_perm {n : Nat} {ops : List Oper} {ord : List Nat} (h : dstsOk n ops = true) : dstsOk n (permOps ops ord) = true := by
 unfold dstsOk
 rw [List.all_eq_true]
 intro o ho
 obtain ⟨i, _, hi⟩ := List.mem_filterMap.1 ho
 obtain ⟨p, hp, rfl⟩ := Option.map_eq_some_iff.1 hi
 exact List.all_eq_true.1 h p (List.mem_of_getElem? hp)
theorem evDrawG_sound (hC : CallOk E call) (hP : PrimOk E) {ops : Array Oper} {n : Nat} (hok : fitG ops.toList = true) (hd : dstsOk n ops.toList = true) {fr fr' : Fr} {a : Act} (h : evDrawG E call ops.toList fr S = some (fr', S'))
  (hf : FR ds fr a m n) (hi : Inv E S m) {Q : Exit → Act → World → Prop} (K : ∀ a' m', Ext m m' → FR ds fr' a' m' n → Inv E S' m' → Q .normal a' m'.w) {l : List Nat} (hlin : Lin ops.size ops.toList (fun _ => False) l) : wpOpsIn (Fw ro) 0 E.P ops Q l a m.w := by
 obtain ⟨hp, hrk, hodd⟩ := fitG_perm hok
 rw [← wp_perm hp _ (lin_lt _ hlin)]
 have hlin2 := hp.lin hrk _ _ (by simpa using hlin)
 unfold evDrawG at h
 simp only at h
 have hlen := hp.length
 have hd' := dsts_perm (ord := topo ops.toList) hd
 generalize permOps ops.toList (topo ops.toList) = o' at hodd h hlin2 hlen hd'
 obtain ⟨frs, sts, vals, want, e1, e2, e3, e4, hr, _, _⟩ := evDraw_recQ (ops := o') o'.length 0 (by omega) fr S [] [] h
 have hsz : o'.toArray.size = o'.length := by simp
 have hos : ops.toList.length = ops.size := by simp
 refine draw_anyQ (ops := o'.toArray) hC hP hodd hd' hr _ (fun k => ∃ i, i < ops.toList.length ∧ (topo ops.toList).idxOf i = k ∧ False) a m 0 (by rw [hsz, hlen]; exact hlin2) (fun i h => by obtain ⟨_, _, _, h⟩ := h; exact h.elim) (by omega)
  (fun e q _ _ _ => ⟨fun h => by obtain ⟨_, _, _, h⟩ := h; exact h.elim, fun h => by omega⟩) (by rw [e2]; exact hi) hf.size hf.defers (fun d k hk hwr => ?_) (fun a' m' h1 h2 h3 => K a' m' h1 (by rw [← e3, ← hsz]; exact h2) (by rw [← e4, ← hsz]; exact h3))
 rw [rec_keepQ hr k 0 (by omega) (by omega) (fun j q h1 h2 hj hq => by obtain ⟨_, _, _, h⟩ := (hwr j q hj hq).2 h2; exact h), e1]
 exact hf.at_ d
theorem add_get (ops : List Oper) (j i k : Nat) : (addAfter ops j i)[k]? = (ops[k]?).map fun o => if k = j then { o with after := o.after.push { on := i, ground := .data } } else o := by
 unfold addAfter
 rw [List.getElem?_map, List.getElem?_zipIdx, Option.map_map]
 cases ops[k]? <;> simp
theorem add_len (ops : List Oper) (j i : Nat) : (addAfter ops j i).length = ops.length := by simp [addAfter]
theorem wp_add {F : Fence} {n : Nat} {P : Program} {ops : Array Oper} {j i : Nat} {Q : Exit → Act → World → Prop} : ∀ (l : List Nat), wpOpsIn F n P (addAfter ops.toList j i).toArray Q l = wpOpsIn F n P ops Q l
 | [] => by funext a w; rfl
 | k :: r => by
  have ih := wp_add (F := F) (n := n) (P := P) (ops := ops) (j := j) (i := i) (Q := Q) r
  have hg : ∀ q, ((addAfter ops.toList j i).toArray)[q]? = (ops[q]?).map fun o => if q = j then { o with after := o.after.push { on := i, ground := .data } } else o := fun q => by
   rw [List.getElem?_toArray, add_get]
   simp
  funext a w
  have hy : yielded (addAfter ops.toList j i).toArray a.tmps = yielded ops a.tmps := by
   funext q
   unfold yielded
   rw [hg]
   cases ops[q]? with
   | none => rfl
   | some o => by_cases hq : q = j <;> simp [hq]
  simp only [wpOpsIn, hg k, hy, ih]
  cases ops[k]? with
  | none => rfl
  | some o =>
   simp only [Option.map_some]
   by_cases hk : k = j
   ·simp only [hk, if_true]; rfl
   ·simp only [hk, if_false]
theorem lin_add {n j i : Nat} {ops : List Oper} : ∀ (l : List Nat) {D : Nat → Prop}, Lin n ops D l → (D i ∨ (∃ l1 l2, l = l1 ++ i :: l2 ∧ j ∉ l1) ∨ D j) → i ≠ j → Lin n (addAfter ops j i) D l
 | [], D, h, _, _ => h
 | k :: r, D, ⟨h1, h2, h3, h4⟩, h, hij => by
  refine ⟨h1, h2, fun o' ho' e he hb => ?_, lin_add r h4 ?_ hij⟩
  ·rw [add_get] at ho'
   obtain ⟨o, ho, rfl⟩ := Option.map_eq_some_iff.1 ho'
   by_cases hk : k = j
   ·subst hk
    simp only [if_true] at he
    rw [Array.toList_push, List.mem_append] at he
    rcases he with he | he
    ·exact h3 o ho e he hb
    ·rw [List.mem_singleton] at he
     subst he
     rcases h with h | ⟨l1, l2, e1, e2⟩ | h
     ·exact h
     ·cases l1 with
      | nil => injection e1 with e3 _; exact absurd e3.symm hij
      | cons x l1 => injection e1 with e3 _; subst e3; exact absurd (by simp) e2
     ·exact absurd h h2
   ·simp only [hk, if_false] at he
    exact h3 o ho e he hb
  ·rcases h with h | ⟨l1, l2, e1, e2⟩ | h
   ·exact .inl (.inl h)
   ·cases l1 with
    | nil => injection e1 with e3 _; exact .inl (.inr e3.symm)
    | cons x l1 =>
     injection e1 with e3 e4
     exact .inr (.inl ⟨l1, l2, e4, fun hm => e2 (by simp [hm])⟩)
   ·exact .inr (.inr (.inl h))
theorem lin_mem {n : Nat} {ops : List Oper} : ∀ (l : List Nat) {D : Nat → Prop}, Lin n ops D l → ∀ i, i < n → D i ∨ i ∈ l
 | [], D, h, i, hi => .inl (h i hi)
 | k :: r, D, ⟨_, _, _, h4⟩, i, hi => by
  rcases lin_mem r h4 i hi with (h | h) | h
  ·exact .inl h
  ·exact .inr (by simp [h])
  ·exact .inr (by simp [h])
theorem mem_split_first {i : Nat} : ∀ (l : List Nat), i ∈ l → ∃ l1 l2, l = l1 ++ i :: l2 ∧ i ∉ l1
 | k :: r, h => by
  by_cases hk : k = i
  ·exact ⟨[], r, by simp [hk], by simp⟩
  ·obtain ⟨l1, l2, e1, e2⟩ := mem_split_first r ((List.mem_cons.1 h).resolve_left fun e => hk e.symm)
   exact ⟨k :: l1, l2, by rw [e1]; rfl, fun hm => (List.mem_cons.1 hm).elim (fun e => hk e.symm) e2⟩
theorem dsts_add {n : Nat} {ops : List Oper} {j i : Nat} (h : dstsOk n ops = true) : dstsOk n (addAfter ops j i) = true := by
 unfold dstsOk
 rw [List.all_eq_true]
 intro o ho
 obtain ⟨k, hk⟩ := List.mem_iff_getElem?.1 ho
 rw [add_get] at hk
 obtain ⟨p, hp, rfl⟩ := Option.map_eq_some_iff.1 hk
 have := List.all_eq_true.1 h p (List.mem_of_getElem? hp)
 by_cases hkj : k = j <;> simpa [hkj] using this
theorem evDrawP_sound (hC : CallOk E call) (hP : PrimOk E) {ops : Array Oper} {n : Nat} (hok : permFit ops.toList = true) (hd : dstsOk n ops.toList = true) {fr fr' : Fr} {a : Act} (h : evDrawP E call ops fr S = some (fr', S'))
  (hf : FR ds fr a m n) (hi : Inv E S m) {Q : Exit → Act → World → Prop} (K : ∀ a' m', Ext m m' → FR ds fr' a' m' n → Inv E S' m' → Q .normal a' m'.w) (mixed : Bool) (t : Nat) : wpOpsIn (Fw ro) 0 E.P ops Q (Region.schedule mixed ops t) a m.w := by
 unfold permFit at hok
 rw [Bool.and_eq_true, Bool.and_eq_true, Bool.and_eq_true] at hok
 obtain ⟨⟨⟨k1, k2⟩, k3⟩, hok⟩ := hok
 have hrk : ∀ md, ∃ rk, Ranked md rk ops.toList := fun md => by
  cases md with
  | text => exact ordSome_ranked k2
  | gc => exact ordSome_ranked k3
  | any => exact ⟨_, ordOk_ranked k1⟩
 have hlin := schedule_lin hrk mixed t
 generalize Region.schedule mixed ops t = l at hlin
 unfold evDrawP at h
 split at hok
 ·rename_i hlp
  rw [hlp] at h
  exact evDrawG_sound hC hP hok hd h hf hi K hlin
 ·rename_i i j hlp
  rw [hlp] at h
  simp only [Bool.and_eq_true, decide_eq_true_eq] at hok
  obtain ⟨⟨⟨⟨hil, hjl⟩, hij⟩, f1⟩, f2⟩ := hok
  simp only at h
  split at h
  ·rename_i g1 T1 g2 T2 r1 r2
   split at h
   ·rename_i hbq
    rw [Bool.and_eq_true] at hbq
    have eg := V.beqL_eq _ _ hbq.1
    have eT := Store.beq_eq _ _ hbq.2
    subst eg eT
    cases h
    have hsz : ∀ j i, (addAfter ops.toList j i).toArray.size = ops.size := fun j i => by simp [add_len]
    have him : i ∈ l := (lin_mem l hlin i (by simpa using hil)).resolve_left id
    have hjm : j ∈ l := (lin_mem l hlin j (by simpa using hjl)).resolve_left id
    obtain ⟨l1, l2, e1, e2⟩ := mem_split_first l him
    by_cases hj1 : j ∈ l1
    ·-- j comes first
     obtain ⟨m1, m2, e3, e4⟩ := mem_split_first l1 hj1
     have hL : Lin ops.size (addAfter ops.toList i j) (fun _ => False) l := lin_add l hlin (.inr (.inl ⟨m1, m2 ++ i :: l2, by rw [e1, e3]; simp, fun hm => e2 (by rw [e3]; simp [hm])⟩)) (Ne.symm hij)
     rw [← wp_add (j := i) (i := j)]
     exact evDrawG_sound (ops := (addAfter ops.toList i j).toArray) hC hP f2 (dsts_add hd) r2 hf hi K (by rw [hsz]; exact hL)
    ·have hL : Lin ops.size (addAfter ops.toList j i) (fun _ => False) l := lin_add l hlin (.inr (.inl ⟨l1, l2, e1, hj1⟩)) hij
     rw [← wp_add (j := j) (i := i)]
     exact evDrawG_sound (ops := (addAfter ops.toList j i).toArray) hC hP f1 (dsts_add hd) r1 hf hi K (by rw [hsz]; exact hL)
   ·cases h
  ·cases h
end Go.Vm
set_option autoImplicit false
namespace Go.Vm
variable {ro : Option Nat} {ds : List Deferred} {E : Env} {S S' : Store} {m : M} {call : Tg → List V → Store → Option (V × Store)}
def codeOk (n : Nat) : Code → Bool
 | .region _ ops draw => dstsOk n ops.toList && (!draw || (if chainOk ops.toList (Region.before ops).toList then drawOk ops.toList (Region.before ops).toList else permFit ops.toList))
 | .seq a b => codeOk n a && codeOk n b
 | .cond _ a b => codeOk n a && codeOk n b
 | .block _ a => codeOk n a
 | .loop a => codeOk n a
 | .scope a => codeOk n a
 | _ => true
def rangesOk (E : Env) (n : Nat) : Code → Prop
 | .rangeFunc _ ps asg body => E.loops (keyOf body) = some (n, ps, asg, body)
 | .seq a b => rangesOk E n a ∧ rangesOk E n b
 | .cond _ a b => rangesOk E n a ∧ rangesOk E n b
 | .block _ a => rangesOk E n a
 | .loop a => rangesOk E n a
 | .scope a => rangesOk E n a
 | _ => True
theorem rangesOk_flat {n : Nat} : ∀ (c : Code), flat c = true → rangesOk E n c
 | .rangeFunc _ _ _ _, h => by simp [flat] at h
 | .scope _, h => by simp [flat] at h
 | .seq a b, h => by
  simp only [flat, Bool.and_eq_true] at h
  exact ⟨rangesOk_flat a h.1, rangesOk_flat b h.2⟩
 | .cond _ a b, h => by
  simp only [flat, Bool.and_eq_true] at h
  exact ⟨rangesOk_flat a h.1, rangesOk_flat b h.2⟩
 | .block _ a, h => by
  simp only [flat] at h
  exact rangesOk_flat a h
 | .loop a, h => by
  simp only [flat] at h
  exact rangesOk_flat a h
 | .skip, _ => trivial
 | .label _, _ => trivial
 | .region _ _ _, _ => trivial
 | .exit _, _ => trivial
 | .goto _, _ => trivial
 | .ret, _ => trivial
 | .refuse _, _ => trivial
def LoopsOk (E : Env) : Prop := ∀ key n ps asg body, E.loops key = some (n, ps, asg, body) → codeOk n asg = true ∧ flat asg = true ∧ codeOk n body = true ∧ flat body = true ∧ ps.toList.all (fun t => decide (t < n)) = true
def marks (rs : List Nat) : List Deferred := rs.map fun r => { target := .collected r, args := #[] }
structure Mk (base : Nat) (m : M) (rs : List Nat) : Prop where
 nd : rs.Nodup
 ge : ∀ r, r ∈ rs → base ≤ r
 I : ∀ r, r ∈ rs → m.I r
 ob : ∀ r, r ∈ rs → m.w.heap[r]? = some (.deferred (some []))
theorem Mk.ext {base : Nat} {m m' : M} {rs : List Nat} (h : Mk base m rs) (he : Ext m m') : Mk base m' rs :=
 ⟨h.nd, h.ge, fun r hr => he.I _ (h.I r hr), fun r hr => (he.blk _ (h.I r hr)).trans (h.ob r hr)⟩
theorem Mk.none (base : Nat) (m : M) : Mk base m [] := ⟨by simp, by simp, by simp, by simp⟩
def M.still (m : M) (o : Obj) : M := { phi := m.phi, I := fun b => m.I b ∨ b = m.w.heap.size, w := m.w.alloc o }
theorem Ext.still (hi : Inv E S m) (o : Obj) : Ext m (m.still o) :=
 ⟨fun id x h => h, fun _ h => .inl h, fun b hb => heap_alloc_lt _ _ (hi.bnd b hb), fun b s h => shape_alloc _ _ _ _ h, by simp [M.still], rfl, rfl, rfl⟩
theorem Inv.still (hi : Inv E S m) (o : Obj) : Inv E S (m.still o) := by
 have he := Ext.still hi o
 refine ⟨hi.dom, fun id ob ho hg => ?_, hi.inj, fun b hb => ?_, fun g cs hg => (hi.glob g cs hg).ext he⟩
 ·obtain ⟨R, b, hp, hI, hl⟩ := hi.live id ob ho hg
  have hlt := hl.lt hg
  refine ⟨R, b, hp, ?_, hl.ext he (heap_alloc_lt _ _ hlt) ob⟩
  rintro (h | rfl)
  ·exact hI h
  ·omega
 ·rcases hb with hb | rfl
  ·have := hi.bnd b hb
   have := he.size
   omega
  ·simp [M.still]
def exOf : Ex → Exit
 | .normal => .normal
 | .exit id => .exit id
 | .goto l => .goto l
 | .ret => .ret
theorem least_of (p : Nat → Prop) : (∃ n, p n) → ∃ n, p n ∧ ∀ k, p k → n ≤ k := by
 rintro ⟨n, hn⟩
 induction n using Nat.strongRecOn with
 | _ n ih =>
  by_cases h : ∃ k, k < n ∧ p k
  ·obtain ⟨k, hk, hp⟩ := h
   exact ih k hk hp
  ·exact ⟨n, hn, fun k hp => by
    rcases Nat.lt_or_ge k n with hlt | hge
    ·exact absurd ⟨k, hlt, hp⟩ h
    ·exact hge⟩
theorem wp_loop_rel {F : Fence} {P : Program} {c : Code} {Q : Exit → Act → World → Prop} (R : Nat → Act → World → Prop) (hround : ∀ j a w, R j a w → c.wpIn F 0 P (Exit.then (fun a' w' => ∃ j', j' < j ∧ R j' a' w') Q) a w) {j : Nat} {a : Act} {w : World} (h : R j a w) :
  (Code.loop c).wpIn F 0 P Q a w := by
 classical
 let μ : Act → World → Nat := fun a w => if h : ∃ j, R j a w then Classical.choose (least_of (fun j => R j a w) h) else 0
 refine wpIn_loop (fun a w => ∃ j, R j a w) μ ⟨j, h⟩ (fun a w hI => ?_)
 have hf := Classical.choose_spec (least_of (fun j => R j a w) hI)
 refine wpIn_mono (hround _ a w hf.1) (fun e a' w' hq => ?_)
 cases e with
 | normal =>
  obtain ⟨j', hlt, hR⟩ := hq
  refine ⟨⟨j', hR⟩, ?_⟩
  have h1 : μ a w = Classical.choose (least_of (fun j => R j a w) hI) := dif_pos hI
  have h2 : μ a' w' = Classical.choose (least_of (fun j => R j a' w') ⟨j', hR⟩) := dif_pos ⟨j', hR⟩
  rw [h1, h2]
  exact Nat.lt_of_le_of_lt ((Classical.choose_spec (least_of (fun j => R j a' w') ⟨j', hR⟩)).2 j' hR) hlt
 | exit id => exact hq
 | goto l => exact hq
 | ret => exact hq
 | panic ch => exact hq
 | outgrown => exact hq
set_option maxHeartbeats 1000000 in
theorem evCode_sound (hC : CallOk E call) (hP : PrimOk E) {n k base : Nat} : ∀ (c : Code), codeOk n c = true → rangesOk E n c → (ro = none ∨ flat c = true) → ∀ {fr : Fr} {S : Store} {x : Ex} {fr' : Fr} {S' : Store}, evCode E call k c fr S = some (x, fr', S') →
  ∀ {a : Act} {m : M} {rs : List Nat}, FR (marks rs) fr a m n → Mk base m rs → base ≤ m.w.heap.size → Inv E S m → ∀ {Q : Exit → Act → World → Prop}, (∀ a' m' rs', Ext m m' → FR (marks rs') fr' a' m' n → Mk base m' rs' → Inv E S' m' → Q (exOf x) a' m'.w) → c.wpIn (Fw ro) 0 E.P Q a m.w := by
 intro c
 induction c with
 | skip =>
  intro _ _ _ fr S x fr' S' h a m rs hf hm hbs hi Q K
  simp only [evCode] at h
  cases h
  exact wpIn_skip (K a m rs (Ext.refl m) hf hm hi)
 | label l =>
  intro _ _ _ fr S x fr' S' h a m rs hf hm hbs hi Q K
  simp only [evCode] at h
  cases h
  exact wpIn_label (K a m rs (Ext.refl m) hf hm hi)
 | region id ops draw =>
  intro hok hrg hro fr S x fr' S' h a m rs hf hm hbs hi Q K
  simp only [codeOk, Bool.and_eq_true] at hok
  simp only [evCode] at h
  cases draw with
  | true =>
   simp only [if_true] at h
   obtain ⟨⟨fr1, S1⟩, he, h⟩ := Option.map_eq_some_iff.1 h
   cases h
   have hx := Ext.of_heap (m := m) (w' := m.w.drew) rfl rfl rfl rfl
   have hi' := hi.of_heap (w' := m.w.drew) rfl rfl rfl rfl
   refine wpIn_region_draw (fun t => ?_)
   have hok2 := hok.2
   simp only [Bool.not_true, Bool.false_or] at hok2
   cases hch : chainOk ops.toList (Region.before ops).toList with
   | true =>
    rw [hch, if_pos rfl] at hok2 he
    exact evDraw_sound (ro := ro) hC hP hok2 hok.1 he (hf.ext hx) hi' (Q := Q) (fun a' m' h1 h2 h3 => K a' m' rs (hx.trans h1) h2 (hm.ext (hx.trans h1)) h3) (E.P.follows .mixedOrders) t
   | false =>
    rw [hch] at hok2 he
    simp only [Bool.false_eq_true, if_false] at hok2 he
    exact evDrawP_sound (ro := ro) hC hP hok2 hok.1 he (hf.ext hx) hi' (Q := Q) (fun a' m' h1 h2 h3 => K a' m' rs (hx.trans h1) h2 (hm.ext (hx.trans h1)) h3) (E.P.follows .mixedOrders) t
  | false =>
   simp only [Bool.false_eq_true, if_false] at h
   obtain ⟨⟨fr1, S1⟩, he, h⟩ := Option.map_eq_some_iff.1 h
   cases h
   refine wpIn_region ?_
   rw [List.range_eq_range']
   exact evOps_sound hC hP hok.1 ops.size 0 (by omega) fr S a m (by simpa using he) hf hi (fun a' m' h1 h2 h3 => K a' m' rs h1 h2 (hm.ext h1) h3)
 | seq c d ihc ihd =>
  intro hok hrg hro fr S x fr' S' h a m rs hf hm hbs hi Q K
  simp only [codeOk, Bool.and_eq_true] at hok
  simp only [rangesOk] at hrg
  have hro1 : ro = none ∨ flat c = true := hro.imp id (fun h => by simp only [flat, Bool.and_eq_true] at h; exact h.1)
  have hro2 : ro = none ∨ flat d = true := hro.imp id (fun h => by simp only [flat, Bool.and_eq_true] at h; exact h.2)
  simp only [evCode] at h
  refine wpIn_seq ?_
  split at h
  ·rename_i fr1 S1 hc
   exact ihc hok.1 hrg.1 hro1 hc hf hm hbs hi (fun a' m' rs' h1 h2 h0 h3 => ihd hok.2 hrg.2 hro2 h h2 h0 (Nat.le_trans hbs h1.size) h3 (fun a'' m'' rs'' h4 h5 h00 h6 => K a'' m'' rs'' (h1.trans h4) h5 h00 h6))
  ·rename_i r hne
   refine ihc hok.1 hrg.1 hro1 h hf hm hbs hi (fun a' m' rs' h1 h2 h0 h3 => ?_)
   cases x with
   | normal => exact absurd h (fun h => hne _ _ h)
   | exit id => exact K a' m' rs' h1 h2 h0 h3
   | goto l => exact K a' m' rs' h1 h2 h0 h3
   | ret => exact K a' m' rs' h1 h2 h0 h3
 | cond o c d ihc ihd =>
  intro hok hrg hro fr S x fr' S' h a m rs hf hm hbs hi Q K
  simp only [codeOk, Bool.and_eq_true] at hok
  simp only [rangesOk] at hrg
  have hro1 : ro = none ∨ flat c = true := hro.imp id (fun h => by simp only [flat, Bool.and_eq_true] at h; exact h.1)
  have hro2 : ro = none ∨ flat d = true := hro.imp id (fun h => by simp only [flat, Bool.and_eq_true] at h; exact h.2)
  simp only [evCode] at h
  have ho := opnd_sound hi hf.at_ o
  split at h
  ·rename_i hb
   rw [hb] at ho
   simp only [VR] at ho
   exact wpIn_cond_true ho (ihc hok.1 hrg.1 hro1 h hf hm hbs hi K)
  ·rename_i hb
   rw [hb] at ho
   simp only [VR] at ho
   exact wpIn_cond_false ho (ihd hok.2 hrg.2 hro2 h hf hm hbs hi K)
  ·cases h
 | block id c ih =>
  intro hok hrg hro fr S x fr' S' h a m rs hf hm hbs hi Q K
  simp only [codeOk] at hok
  simp only [rangesOk] at hrg
  simp only [flat] at hro
  simp only [evCode] at h
  refine wpIn_block ?_
  split at h
  ·rename_i i fr1 S1 hc
   refine ih hok hrg hro hc hf hm hbs hi (fun a' m' rs' h1 h2 h0 h3 => ?_)
   split at h
   ·rename_i hid
    cases h
    simp only [exOf, Exit.inBlock, hid, if_true]
    exact K a' m' rs' h1 h2 h0 h3
   ·rename_i hid
    cases h
    simp only [exOf, Exit.inBlock, hid, if_false]
    exact K a' m' rs' h1 h2 h0 h3
  ·rename_i r hne
   refine ih hok hrg hro h hf hm hbs hi (fun a' m' rs' h1 h2 h0 h3 => ?_)
   cases x with
   | normal => exact K a' m' rs' h1 h2 h0 h3
   | exit i => exact absurd h (fun h => hne _ _ _ h)
   | goto l => exact K a' m' rs' h1 h2 h0 h3
   | ret => exact K a' m' rs' h1 h2 h0 h3
 | loop c ih =>
  intro hok hrg hro fr S x fr' S' h a m rs hf hm hbs hi Q K
  simp only [codeOk] at hok
  simp only [rangesOk] at hrg
  simp only [flat] at hro
  simp only [evCode] at h
  refine wp_loop_rel (fun j a w => ∃ fr S m1 rs1, m1.w = w ∧ Ext m m1 ∧ evLoop (evCode E call k c) j fr S = some (x, fr', S') ∧ FR (marks rs1) fr a m1 n ∧ Mk base m1 rs1 ∧ Inv E S m1) (fun j a w hR => ?_) (j := k) ⟨fr, S, m, rs, rfl, Ext.refl m, h, hf, hm, hi⟩
  obtain ⟨fr, S, m1, rs1, rfl, hx, h, hf, hm, hi⟩ := hR
  have hbs := Nat.le_trans hbs hx.size
  cases j with
  | zero => simp [evLoop] at h
  | succ j =>
   rw [evLoop] at h
   split at h
   ·rename_i fr1 S1 hc
    exact ih hok hrg hro hc hf hm hbs hi (fun a' m' rs' h1 h2 h0 h3 => ⟨j, by omega, fr1, S1, m', rs', rfl, hx.trans h1, h, h2, h0, h3⟩)
   ·rename_i r hne
    refine ih hok hrg hro h hf hm hbs hi (fun a' m' rs' h1 h2 h0 h3 => ?_)
    cases x with
    | normal => exact absurd h (fun h => hne _ _ h)
    | exit id => exact K a' m' rs' (hx.trans h1) h2 h0 h3
    | goto l => exact K a' m' rs' (hx.trans h1) h2 h0 h3
    | ret => exact K a' m' rs' (hx.trans h1) h2 h0 h3
 | rangeFunc g ps asg body _ _ =>
  intro hok hrg hro fr S x fr' S' h a m rs hf hm hbs hi Q K
  have hro : ro = none := hro.resolve_right (by simp [flat])
  subst hro
  simp only [rangesOk] at hrg
  simp only [evCode] at h
  have hg := opnd_sound hi hf.at_ g
  split at h
  ·rename_i f first captured hb
   rw [hb] at hg
   simp only [VR] at hg
   obtain ⟨ux, uy, he, hv1, hv2⟩ := hg
   split at h
   ·rename_i fn hfn
    split at h
    ·cases h
    ·rename_i hn
     simp only [Bool.or_eq_true, not_or, Bool.not_eq_true] at hn
     split at h
     ·rename_i v1 S1 hcall
      split at h
      ·rename_i key1 f1 hS1
       cases h
       refine wpIn_rangeFunc (fun fid _ => ?_)
       have hi1 := hi.still (.deferred (some []))
       have he1 := Ext.still hi (.deferred (some []))
       have he2 := Ext.fresh hi1 (.loop { state := .ready, pending := none, fn := fid, tmps := a.tmps, params := ps, assign := asg, body := body, defers := m.w.heap.size })
       have hi2 := hi1.fresh (.loop { state := .ready, pending := none, fn := fid, tmps := a.tmps, params := ps, assign := asg, body := body, defers := m.w.heap.size }) (.lp false (keyOf body) fr)
        ⟨n, ps, asg, body, fid, a.tmps, m.w.heap.size, hrg, heap_alloc_same _ _, hf.size, fun i => (hf.at_ i).ext (he1.trans he2), rfl⟩
       generalize hm2 : (m.still (.deferred (some []))).fresh S.length (.loop { state := .ready, pending := none, fn := fid, tmps := a.tmps, params := ps, assign := asg, body := body, defers := m.w.heap.size }) = m2 at he2 hi2
       have hphi2 : m2.phi S.length = some (m.w.heap.size + 1, 0) := by
        rw [← hm2]
        simp [M.fresh, upd, M.still]
       have hw2 : m2.w = (m.w.alloc (.deferred (some []))).alloc (.loop { state := .ready, pending := none, fn := fid, tmps := a.tmps, params := ps, assign := asg, body := body, defers := m.w.heap.size }) := by
        rw [← hm2]
        rfl
       have hx2 := he1.trans he2
       have hm2k : Mk base m2 (m.w.heap.size :: rs) := by
        have hold := hm.ext hx2
        have hnew : m.w.heap.size ∉ rs := fun h => absurd (hi.bnd _ (hm.I _ h)) (by omega)
        have hIn : m2.I m.w.heap.size := by rw [← hm2]; exact .inr rfl
        refine ⟨List.nodup_cons.2 ⟨hnew, hold.nd⟩, fun r hr => ?_, fun r hr => ?_, fun r hr => ?_⟩
        ·rcases List.mem_cons.1 hr with rfl | hr
         ·exact hbs
         ·exact hold.ge r hr
        ·rcases List.mem_cons.1 hr with rfl | hr
         ·exact hIn
         ·exact hold.I r hr
        ·rcases List.mem_cons.1 hr with rfl | hr
         ·rw [hw2, heap_alloc_lt _ _ (by simp), heap_alloc_same]
         ·exact hold.ob r hr
       have hargs : VRL m2 (first ++ [.yld S.length] ++ captured) (ux.toList ++ [.func (.yield (m.w.heap.size + 1)) #[] #[]] ++ uy.toList) :=
        ((hv1.ext hx2).append (.one (by simp only [VR]; exact ⟨_, hphi2, rfl⟩))).append (hv2.ext hx2)
       have hC1 := hC.fn _ _ _ _ _ hcall m2 _ hi2 hargs
       refine ⟨m.w.heap.size + 1, [{ target := .collected m.w.heap.size, args := #[] }], m2.w, { target := .fn (.func f) uy, args := ux ++ #[.func (.yield (m.w.heap.size + 1)) #[] #[]] }, m2.w, f,
        (ux.toList ++ [Value.func (.yield (m.w.heap.size + 1)) #[] #[]] ++ uy.toList).toArray, m2.w, ?_, ?_, fun _ _ => trivial, ?_, fun h => by simp [Fw, Fence.wide] at h, ?_⟩
       ·rw [hw2]
        show (Instr.enterLoop fid a.tmps ps asg body none).run E.P m.w = _
        simp [Instr.enterLoop]
       ·have hce : Act.eval a (.const (.func (.yield (m.w.heap.size + 1)) #[] #[])) = .func (.yield (m.w.heap.size + 1)) #[] #[] := rfl
        simp [resolve, he, Deferred.ofValue, hce]
       ·have hbody : fn.body.isNone = false := hn.2
        simp only [invoke, callFunc, Sem.run_bind, run_program, Result.andThen_ok, hfn, hn.1, hbody, Bool.false_eq_true, if_false, Sem.run_pure]
        congr 1
        congr 1
        apply Array.toList_inj.1
        simp
       ·refine CallsIn.mono (F := Fence.wide) ((callsIn_wide (n := 0)).2 hC1) fun e w' hcame => ?_
        obtain ⟨u, m3, rfl, rfl, hx3, hi3, _⟩ := hcame
        obtain ⟨R, b, hp, hIR, hl⟩ := hi3.live _ _ hS1 (by simp)
        have hp3 := hx3.phi _ _ hphi2
        rw [hp] at hp3
        cases hp3
        obtain ⟨nt, ps', asg', body', fn', tmps', defers', _, hheap, _⟩ := hl
        refine ⟨none, { m3.w with heap := m3.w.heap.setIfInBounds (m.w.heap.size + 1) (.loop { state := .exhausted, pending := none, fn := fn', tmps := tmps', params := ps', assign := asg', body := body', defers := defers' }) }, ?_, ?_⟩
        ·simp [Instr.endLoop, Instr.getLoop, getObj, setObj, Sem.run, hheap, Result.andThen]
         done
        ·have hx4 := Ext.setObj (o' := .loop { state := .exhausted, pending := none, fn := fn', tmps := tmps', params := ps', assign := asg', body := body', defers := defers' }) hheap (by simp) hIR
         have hi4 := hi3.setObj (ob' := .gone) (o' := .loop { state := .exhausted, pending := none, fn := fn', tmps := tmps', params := ps', assign := asg', body := body', defers := defers' }) hS1 (by simp) hp hheap (by simp) hIR trivial
         exact K _ _ (m.w.heap.size :: rs) (hx2.trans (hx3.trans hx4)) ⟨hf.size, by simp [marks, hf.defers], fun i => (hf.at_ i).ext (hx2.trans (hx3.trans hx4))⟩ (hm2k.ext (hx3.trans hx4)) hi4
      ·cases h
     ·cases h
   ·cases h
  ·cases h
 | exit id =>
  intro _ _ _ fr S x fr' S' h a m rs hf hm hbs hi Q K
  simp only [evCode] at h
  cases h
  exact wpIn_exit (K a m rs (Ext.refl m) hf hm hi)
 | scope c ih =>
  intro hok hrg hro fr S x fr' S' h a m rs hf hm hbs hi Q K
  have hro : ro = none := hro.resolve_right (by simp [flat])
  subst hro
  simp only [codeOk] at hok
  simp only [rangesOk] at hrg
  simp only [evCode] at h
  refine (wpIn_wide (n := 0)).2 (wp_scope_straight ((wpIn_wide (n := 0)).1 ?_))
  show c.wpIn (Fw none) 0 E.P _ a m.w
  split at h
  ·cases h
  ·rename_i r hne
   refine ih hok hrg (.inl rfl) h hf hm hbs hi (fun a' m' rs' h1 h2 h0 h3 => ?_)
   cases x with
   | normal => exact K a' m' rs' h1 h2 h0 h3
   | exit id => exact K a' m' rs' h1 h2 h0 h3
   | goto l => exact absurd h (fun h => hne _ _ _ h)
   | ret => exact K a' m' rs' h1 h2 h0 h3
 | goto l =>
  intro _ _ _ fr S x fr' S' h
  simp [evCode] at h
 | ret =>
  intro _ _ _ fr S x fr' S' h a m rs hf hm hbs hi Q K
  simp only [evCode] at h
  cases h
  exact wpIn_ret (K a m rs (Ext.refl m) hf hm hi)
 | refuse w =>
  intro _ _ _ fr S x fr' S' h
  simp [evCode] at h
end Go.Vm
set_option autoImplicit false
namespace Go.Vm
variable {ro : Option Nat} {ds : List Deferred} {E : Env} {S S' : Store} {m : M} {call : Tg → List V → Store → Option (V × Store)}
set_option maxHeartbeats 1000000 in
theorem evCode_flat (hC : CallOk E call) (hP : PrimOk E) {n k : Nat} : ∀ (c : Code), codeOk n c = true → flat c = true → ∀ {fr : Fr} {S : Store} {x : Ex} {fr' : Fr} {S' : Store}, evCode E call k c fr S = some (x, fr', S') →
  ∀ {a : Act} {m : M}, FR ds fr a m n → Inv E S m → ∀ {Q : Exit → Act → World → Prop}, (∀ a' m', Ext m m' → FR ds fr' a' m' n → Inv E S' m' → Q (exOf x) a' m'.w) → c.wpIn (Fw ro) 0 E.P Q a m.w := by
 intro c
 induction c with
 | skip =>
  intro _ _ fr S x fr' S' h a m hf hi Q K
  simp only [evCode] at h
  cases h
  exact wpIn_skip (K a m (Ext.refl m) hf hi)
 | label l =>
  intro _ _ fr S x fr' S' h a m hf hi Q K
  simp only [evCode] at h
  cases h
  exact wpIn_label (K a m (Ext.refl m) hf hi)
 | region id ops draw =>
  intro hok hfl fr S x fr' S' h a m hf hi Q K
  simp only [codeOk, Bool.and_eq_true] at hok
  simp only [evCode] at h
  cases draw with
  | true =>
   simp only [if_true] at h
   obtain ⟨⟨fr1, S1⟩, he, h⟩ := Option.map_eq_some_iff.1 h
   cases h
   have hx := Ext.of_heap (m := m) (w' := m.w.drew) rfl rfl rfl rfl
   have hi' := hi.of_heap (w' := m.w.drew) rfl rfl rfl rfl
   refine wpIn_region_draw (fun t => ?_)
   have hok2 := hok.2
   simp only [Bool.not_true, Bool.false_or] at hok2
   cases hch : chainOk ops.toList (Region.before ops).toList with
   | true =>
    rw [hch, if_pos rfl] at hok2 he
    exact evDraw_sound (ro := ro) hC hP hok2 hok.1 he (hf.ext hx) hi' (Q := Q) (fun a' m' h1 h2 h3 => K a' m' (hx.trans h1) h2 h3) (E.P.follows .mixedOrders) t
   | false =>
    rw [hch] at hok2 he
    simp only [Bool.false_eq_true, if_false] at hok2 he
    exact evDrawP_sound (ro := ro) hC hP hok2 hok.1 he (hf.ext hx) hi' (Q := Q) (fun a' m' h1 h2 h3 => K a' m' (hx.trans h1) h2 h3) (E.P.follows .mixedOrders) t
  | false =>
   simp only [Bool.false_eq_true, if_false] at h
   obtain ⟨⟨fr1, S1⟩, he, h⟩ := Option.map_eq_some_iff.1 h
   cases h
   refine wpIn_region ?_
   rw [List.range_eq_range']
   exact evOps_sound hC hP hok.1 ops.size 0 (by omega) fr S a m (by simpa using he) hf hi (fun a' m' h1 h2 h3 => K a' m' h1 h2 h3)
 | seq c d ihc ihd =>
  intro hok hfl fr S x fr' S' h a m hf hi Q K
  simp only [codeOk, Bool.and_eq_true] at hok
  simp only [flat, Bool.and_eq_true] at hfl
  simp only [evCode] at h
  refine wpIn_seq ?_
  split at h
  ·rename_i fr1 S1 hc
   exact ihc hok.1 hfl.1 hc hf hi (fun a' m' h1 h2 h3 => ihd hok.2 hfl.2 h h2 h3 (fun a'' m'' h4 h5 h6 => K a'' m'' (h1.trans h4) h5 h6))
  ·rename_i r hne
   refine ihc hok.1 hfl.1 h hf hi (fun a' m' h1 h2 h3 => ?_)
   cases x with
   | normal => exact absurd h (fun h => hne _ _ h)
   | exit id => exact K a' m' h1 h2 h3
   | goto l => exact K a' m' h1 h2 h3
   | ret => exact K a' m' h1 h2 h3
 | cond o c d ihc ihd =>
  intro hok hfl fr S x fr' S' h a m hf hi Q K
  simp only [codeOk, Bool.and_eq_true] at hok
  simp only [flat, Bool.and_eq_true] at hfl
  simp only [evCode] at h
  have ho := opnd_sound hi hf.at_ o
  split at h
  ·rename_i hb
   rw [hb] at ho
   simp only [VR] at ho
   exact wpIn_cond_true ho (ihc hok.1 hfl.1 h hf hi K)
  ·rename_i hb
   rw [hb] at ho
   simp only [VR] at ho
   exact wpIn_cond_false ho (ihd hok.2 hfl.2 h hf hi K)
  ·cases h
 | block id c ih =>
  intro hok hfl fr S x fr' S' h a m hf hi Q K
  simp only [codeOk] at hok
  simp only [flat] at hfl
  simp only [evCode] at h
  refine wpIn_block ?_
  split at h
  ·rename_i i fr1 S1 hc
   refine ih hok hfl hc hf hi (fun a' m' h1 h2 h3 => ?_)
   split at h
   ·rename_i hid
    cases h
    simp only [exOf, Exit.inBlock, hid, if_true]
    exact K a' m' h1 h2 h3
   ·rename_i hid
    cases h
    simp only [exOf, Exit.inBlock, hid, if_false]
    exact K a' m' h1 h2 h3
  ·rename_i r hne
   refine ih hok hfl h hf hi (fun a' m' h1 h2 h3 => ?_)
   cases x with
   | normal => exact K a' m' h1 h2 h3
   | exit i => exact absurd h (fun h => hne _ _ _ h)
   | goto l => exact K a' m' h1 h2 h3
   | ret => exact K a' m' h1 h2 h3
 | loop c ih =>
  intro hok hfl fr S x fr' S' h a m hf hi Q K
  simp only [codeOk] at hok
  simp only [flat] at hfl
  simp only [evCode] at h
  refine wp_loop_rel (fun j a w => ∃ fr S m1, m1.w = w ∧ Ext m m1 ∧ evLoop (evCode E call k c) j fr S = some (x, fr', S') ∧ FR ds fr a m1 n ∧ Inv E S m1) (fun j a w hR => ?_) (j := k) ⟨fr, S, m, rfl, Ext.refl m, h, hf, hi⟩
  obtain ⟨fr, S, m1, rfl, hx, h, hf, hi⟩ := hR
  cases j with
  | zero => simp [evLoop] at h
  | succ j =>
   rw [evLoop] at h
   split at h
   ·rename_i fr1 S1 hc
    exact ih hok hfl hc hf hi (fun a' m' h1 h2 h3 => ⟨j, by omega, fr1, S1, m', rfl, hx.trans h1, h, h2, h3⟩)
   ·rename_i r hne
    refine ih hok hfl h hf hi (fun a' m' h1 h2 h3 => ?_)
    cases x with
    | normal => exact absurd h (fun h => hne _ _ h)
    | exit id => exact K a' m' (hx.trans h1) h2 h3
    | goto l => exact K a' m' (hx.trans h1) h2 h3
    | ret => exact K a' m' (hx.trans h1) h2 h3
 | rangeFunc g ps asg body _ _ =>
  intro _ hfl
  simp [flat] at hfl
 | exit id =>
  intro _ _ fr S x fr' S' h a m hf hi Q K
  simp only [evCode] at h
  cases h
  exact wpIn_exit (K a m (Ext.refl m) hf hi)
 | scope c ih =>
  intro _ hfl
  simp [flat] at hfl
 | goto l =>
  intro _ _ fr S x fr' S' h
  simp [evCode] at h
 | ret =>
  intro _ _ fr S x fr' S' h a m hf hi Q K
  simp only [evCode] at h
  cases h
  exact wpIn_ret (K a m (Ext.refl m) hf hi)
 | refuse w =>
  intro _ _ fr S x fr' S' h
  simp [evCode] at h
def DR (m : M) : Dfr → List Deferred → Prop
 | [], ds => ds = []
 | (g, args) :: D, ds => ∃ d r cap, ds = d :: r ∧ d.target = .fn (.func g) cap ∧ VRL m args (d.args.toList ++ cap.toList) ∧ DR m D r
theorem DR.ext {m m' : M} (h : Ext m m') : ∀ (D : Dfr) (ds : List Deferred), DR m D ds → DR m' D ds
 | [], _, hd => hd
 | (g, args) :: D, _, hd => by
  obtain ⟨d, r, cap, rfl, h1, h2, h3⟩ := hd
  exact ⟨d, r, cap, rfl, h1, h2.ext h, DR.ext h D r h3⟩
theorem evOpsD_sound (hC : CallOk E call) (hP : PrimOk E) {ops : Array Oper} {n : Nat} (hd : dstsOk n ops.toList = true) {Q : Exit → Act → World → Prop} {fr' : Fr} {D' : Dfr} :
  ∀ (k i : Nat), i + k = ops.size → ∀ (fr : Fr) (S : Store) (D : Dfr) (ds : List Deferred) (a : Act) (m : M), evOpsD E call ops.toList (ops.toList.drop i) fr S D = some (fr', S', D') → FR ds fr a m n → DR m D ds → Inv E S m →
  (∀ a' m' ds', Ext m m' → FR ds' fr' a' m' n → DR m' D' ds' → Inv E S' m' → Q .normal a' m'.w) → wpOpsIn (Fw none) 0 E.P ops Q (List.range' i k) a m.w := by
 intro k
 induction k with
 | zero =>
  intro i hik fr S D ds a m h hf hdr hi K
  rw [List.drop_eq_nil_of_le (by simp; omega)] at h
  simp [evOpsD] at h
  obtain ⟨rfl, rfl, rfl⟩ := h
  exact K a m ds (Ext.refl m) hf hdr hi
 | succ k ih =>
  intro i hik fr S D ds a m h hf hdr hi K
  have hlt : i < ops.toList.length := by simp; omega
  rw [List.drop_eq_getElem_cons hlt] at h
  have hop : ops[i]? = some ops.toList[i] := by
   rw [Array.getElem?_eq_getElem (by simpa using hlt)]
   simp
  generalize ops.toList[i] = o at h hop
  have hmem : o ∈ ops.toList := by
   have : ops.toList[i]? = some o := by simpa using hop
   exact List.mem_of_getElem? this
  simp only [List.range'_succ, wpOpsIn, hop]
  rw [evOpsD] at h
  have hw : ∀ b, wantedV ops.toList fr o = some b → Region.wanted o (yielded ops a.tmps) = b := fun b hb => wanted_sound hb hf.size (fun j want p d hg hp hdp => by
   refine ⟨dstsOk_of hd ?_ d hdp, hf.at_ d⟩
   have : ops.toList[j]? = some p := by simpa using hp
   exact List.mem_of_getElem? this)
  split at h
  ·rename_i hwv
   rw [if_pos (hw _ hwv)]
   split at h
   ·rename_i c hc
    split at h
    ·rename_i f hcal
     split at h
     ·rename_i g first captured hv
      have hr := opnd_sound hi hf.at_ f
      rw [hv] at hr
      simp only [VR] at hr
      obtain ⟨ux, uy, he, hv1, hv2⟩ := hr
      have hargs : VRL m (c.args.toList.map (opnd E fr)) (c.args.toList.map a.eval) := VRL_map _ (fun x _ => opnd_sound hi hf.at_ x)
      have hsem : (Oper.semAt (Fw none).round a.eval o).run E.P m.w = .ok (.defer { target := .fn (.func g) uy, args := ux ++ c.args.map a.eval }) m.w := by
       show (execOp a.eval o).run E.P m.w = _
       obtain ⟨dst, op, type, pos, after, guard⟩ := o
       simp only at hc
       subst hc
       show ((do pure (Next.defer (← resolve a.eval c type)) : Sem Next)).run E.P m.w = _
       unfold resolve
       rw [hcal]
       simp only [Deferred.ofValue, he]
       rfl
      refine ⟨fun _ _ => trivial, ?_⟩
      rw [hsem]
      show wpOpsIn (Fw none) 0 E.P ops Q _ ({ a with defers := _ :: a.defers }.put o.dst undef) m.w
      have hnew : FR ({ target := .fn (.func g) uy, args := ux ++ c.args.map a.eval } :: ds) fr { a with defers := { target := .fn (.func g) uy, args := ux ++ c.args.map a.eval } :: a.defers } m n := ⟨hf.size, by simp [hf.defers], hf.at_⟩
      refine ih (i + 1) (by omega) _ _ _ _ _ m h (hnew.put_ (dstsOk_of hd hmem) (by simp only [VR]; exact ⟨#[], rfl, by simp [VRL]⟩)) ⟨_, _, uy, rfl, rfl, ?_, hdr⟩ hi K
      simpa using (VRL.append (VRL.append hv1 hargs) hv2)
     ·cases h
    ·cases h
   ·rename_i hnd
    split at h
    ·rename_i v S1 hev
     refine evOp_sound hC hP hev (fun x _ => opnd_sound hi hf.at_ x) hi (fun u m' h1 h2 h3 => ?_)
     exact ih (i + 1) (by omega) _ _ _ ds _ m' h ((hf.ext h1).put_ (dstsOk_of hd hmem) h3) (hdr.ext h1) h2 (fun a' m'' ds' h4 h5 h6 h7 => K a' m'' ds' (h1.trans h4) h5 h6 h7)
    ·cases h
  ·rename_i hwv
   rw [if_neg (by rw [hw _ hwv]; simp)]
   refine ⟨fun _ _ => trivial, ?_⟩
   exact ih (i + 1) (by omega) _ _ _ ds _ m h (hf.put_ (dstsOk_of hd hmem) (by simp only [VR]; exact ⟨#[], rfl, by simp [VRL]⟩)) hdr hi K
  ·cases h
theorem noDef_flat : ∀ (c : Code), noDef c = true → flat c = true
 | .rangeFunc _ _ _ _, h => by simp [noDef] at h
 | .scope _, h => by simp [noDef] at h
 | .seq a b, h => by
  simp only [noDef, flat, Bool.and_eq_true] at h ⊢
  exact ⟨noDef_flat a h.1, noDef_flat b h.2⟩
 | .cond _ a b, h => by
  simp only [noDef, flat, Bool.and_eq_true] at h ⊢
  exact ⟨noDef_flat a h.1, noDef_flat b h.2⟩
 | .block _ a, h => by
  simp only [noDef, flat] at h ⊢
  exact noDef_flat a h
 | .loop a, h => by
  simp only [noDef, flat] at h ⊢
  exact noDef_flat a h
 | .skip, _ => rfl
 | .label _, _ => rfl
 | .region _ _ _, _ => rfl
 | .exit _, _ => rfl
 | .goto _, _ => rfl
 | .ret, _ => rfl
 | .refuse _, _ => rfl
theorem evD_sound (hC : CallOk E call) (hP : PrimOk E) {n k : Nat} : ∀ (c : Code), codeOk n c = true → ∀ {fr : Fr} {S : Store} {D : Dfr} {x : Ex} {fr' : Fr} {S' : Store} {D' : Dfr}, evD E call k c fr S D = some (x, fr', S', D') →
  ∀ {a : Act} {m : M} {ds : List Deferred}, FR ds fr a m n → DR m D ds → Inv E S m → ∀ {Q : Exit → Act → World → Prop}, (∀ a' m' ds', Ext m m' → FR ds' fr' a' m' n → DR m' D' ds' → Inv E S' m' → Q (exOf x) a' m'.w) → c.wpIn (Fw none) 0 E.P Q a m.w := by
 have base : ∀ (c : Code), codeOk n c = true → ∀ {fr : Fr} {S : Store} {D : Dfr} {x : Ex} {fr' : Fr} {S' : Store} {D' : Dfr}, (if noDef c then (evCode E call k c fr S).map fun x => (x.1, x.2.1, x.2.2, D) else none) = some (x, fr', S', D') →
   ∀ {a : Act} {m : M} {ds : List Deferred}, FR ds fr a m n → DR m D ds → Inv E S m → ∀ {Q : Exit → Act → World → Prop}, (∀ a' m' ds', Ext m m' → FR ds' fr' a' m' n → DR m' D' ds' → Inv E S' m' → Q (exOf x) a' m'.w) → c.wpIn (Fw none) 0 E.P Q a m.w := by
  intro c hok fr S D x fr' S' D' h a m ds hf hdr hi Q K
  split at h
  ·rename_i hnd
   obtain ⟨⟨x1, fr1, S1⟩, he, h⟩ := Option.map_eq_some_iff.1 h
   cases h
   exact evCode_flat hC hP c hok (noDef_flat c hnd) he hf hi (fun a' m' h1 h2 h3 => K a' m' ds h1 h2 (hdr.ext h1) h3)
  ·cases h
 intro c
 induction c with
 | seq c d ihc ihd =>
  intro hok fr S D x fr' S' D' h a m ds hf hdr hi Q K
  simp only [codeOk, Bool.and_eq_true] at hok
  rw [evD] at h
  refine wpIn_seq ?_
  split at h
  ·rename_i fr1 S1 D1 hc
   exact ihc hok.1 hc hf hdr hi (fun a' m' ds' h1 h2 h0 h3 => ihd hok.2 h h2 h0 h3 (fun a'' m'' ds'' h4 h5 h00 h6 => K a'' m'' ds'' (h1.trans h4) h5 h00 h6))
  ·rename_i r hne
   refine ihc hok.1 h hf hdr hi (fun a' m' ds' h1 h2 h0 h3 => ?_)
   cases x with
   | normal => exact absurd h (fun h => hne _ _ _ h)
   | exit id => exact K a' m' ds' h1 h2 h0 h3
   | goto l => exact K a' m' ds' h1 h2 h0 h3
   | ret => exact K a' m' ds' h1 h2 h0 h3
 | cond o c d ihc ihd =>
  intro hok fr S D x fr' S' D' h a m ds hf hdr hi Q K
  simp only [codeOk, Bool.and_eq_true] at hok
  rw [evD] at h
  have ho := opnd_sound hi hf.at_ o
  split at h
  ·rename_i hb
   rw [hb] at ho
   simp only [VR] at ho
   exact wpIn_cond_true ho (ihc hok.1 h hf hdr hi K)
  ·rename_i hb
   rw [hb] at ho
   simp only [VR] at ho
   exact wpIn_cond_false ho (ihd hok.2 h hf hdr hi K)
  ·cases h
 | region id ops draw =>
  intro hok fr S D x fr' S' D' h a m ds hf hdr hi Q K
  rw [evD] at h
  cases draw with
  | true =>
   simp only [if_true] at h
   exact base _ hok h hf hdr hi K
  | false =>
   simp only [Bool.false_eq_true, if_false] at h
   simp only [codeOk, Bool.and_eq_true] at hok
   obtain ⟨⟨fr1, S1, D1⟩, he, h⟩ := Option.map_eq_some_iff.1 h
   cases h
   refine wpIn_region ?_
   rw [List.range_eq_range']
   exact evOpsD_sound hC hP hok.1 ops.size 0 (by omega) fr S D ds a m (by simpa using he) hf hdr hi K
 | _ =>
  intro hok fr S D x fr' S' D' h a m ds hf hdr hi Q K
  rw [evD] at h
  ·exact base _ hok h hf hdr hi K
  all_goals simp
def CatchOk (E : Env) : Prop := ∀ g, E.catches g = true → (∃ fn, E.P.funcs[g]? = some fn ∧ (fn.name == "runtime.NumGoroutine") = false ∧ fn.body.isNone = false) ∧
 ∀ args w, CallsD E.P g args .returning w fun e u' w' => (∃ v, e = .returned v) ∧ u' = .returning ∧ w' = w
theorem invoke_func {g : FuncId} {cap args : Array Value} {fn : Func} {w : World} (h1 : E.P.funcs[g]? = some fn) (h2 : (fn.name == "runtime.NumGoroutine") = false) (h3 : fn.body.isNone = false) :
  (invoke (.fn (.func g) cap) args).run E.P w = .ok (.enter g (args ++ cap)) w := by
 show (callFunc g (args ++ cap)).run E.P w = _
 simp only [callFunc, Sem.run_bind, run_program, Result.andThen_ok, h1, h2, h3, Bool.false_eq_true, if_false, Sem.run_pure]
theorem leaves_runD (hC : CallOk E call) (hK : CatchOk E) {fn : Func} {tmps : Array Value} {R : Ending → World → Prop} : ∀ (D : Dfr) {S S2 : Store} {ds : List Deferred} {m : M}, runD E call D S = some S2 → DR m D ds → Inv E S m →
  (∀ m', Ext m m' → Inv E S2 m' → Leaves E.P fn tmps R [] .returning m'.w) → Leaves E.P fn tmps R ds .returning m.w
 | [], S, S2, ds, m, h, hdr, hi, K => by
  simp only [DR] at hdr
  subst hdr
  simp only [runD] at h
  cases h
  exact K m (Ext.refl m) hi
 | (g, args) :: D, S, S2, ds, m, h, hdr, hi, K => by
  obtain ⟨d, r, cap, rfl, htar, hv, hr⟩ := hdr
  obtain ⟨tgt, dargs⟩ := d
  simp only at htar hv
  subst htar
  rw [runD] at h
  split at h
  ·rename_i hc
   obtain ⟨⟨f0, e1, e2, e3⟩, hcall⟩ := hK g hc
   refine leaves_cons (by simp) (invoke_func e1 e2 e3) ((hcall _ m.w).mono fun e u' w' he => ?_)
   obtain ⟨⟨v, rfl⟩, rfl, rfl⟩ := he
   exact leaves_runD hC hK D h hr hi K
  ·split at h
   ·rename_i hok
    split at h
    ·rename_i v1 S1 hcl
     have hb : ∃ f0, E.P.funcs[g]? = some f0 ∧ (f0.name == "runtime.NumGoroutine") = false ∧ f0.body.isNone = false := by
      unfold dnOk at hok
      rw [Bool.and_eq_true] at hok
      have h2 := hok.2
      split at h2
      ·rename_i f0 hf0
       rw [Bool.and_eq_true] at h2
       refine ⟨f0, hf0, by simpa using h2.1, ?_⟩
       have h3 := h2.2
       split at h3
       ·rename_i c hc
        simp [hc]
       ·cases h3
      ·cases h2
     obtain ⟨f0, e1, e2, e3⟩ := hb
     have hd := hC.dn g args S v1 S1 hcl hok m (dargs.toList ++ cap.toList) .returning hi hv
     have he : (dargs.toList ++ cap.toList).toArray = dargs ++ cap := by simp
     rw [he] at hd
     refine leaves_cons (by simp) (invoke_func e1 e2 e3) (hd.mono fun e u' w' hq => ?_)
     obtain ⟨rfl, u, m', rfl, rfl, h1, h2, h3⟩ := hq
     exact leaves_runD hC hK D h (hr.ext h1) h2 (fun m2 g1 g2 => K m2 (h1.trans g1) g2)
    ·cases h
   ·cases h
end Go.Vm
