import Derived.Test.YtmmjlgocihhkcaaGreatDoorVmE
import Derived.KernelRfl
set_option linter.all false
set_option autoImplicit false
namespace Go.Vm
variable {E : Env} {c : CallT} {ρ : Operand → V} {S : Store} {fr : Fr}
section ops
variable (d : Option Tmp) (t : TypeId) (p : String) (a : Array Edge) (g : Option (Nat × Bool))
theorem evOp_move (x : Operand) : evOp E c ρ S ⟨d, .move x, t, p, a, g⟩ = some (ρ x, S) := rfl
theorem evOp_assign (x : Operand) : evOp E c ρ S ⟨d, .assign x, t, p, a, g⟩ = some (ρ x, S) := rfl
theorem evOp_pick (q x y : Operand) : evOp E c ρ S ⟨d, .pick q x y, t, p, a, g⟩ = (match ρ q with | .bool c => some (if c then ρ x else ρ y, S) | _ => none) := rfl
theorem evOp_alloc (e : TypeId) : evOp E c ρ S ⟨d, .alloc e, t, p, a, g⟩ = opAlloc E S e := rfl
theorem evOp_box (e : TypeId) (x : Operand) : evOp E c ρ S ⟨d, .box e x, t, p, a, g⟩ = opBox S e (ρ x) := rfl
theorem evOp_build (e : TypeId) (parts : Array (Nat × Operand)) : evOp E c ρ S ⟨d, .build e parts, t, p, a, g⟩ = (opBuild E e (parts.toList.map fun p => (p.1, ρ p.2))).map (·, S) := rfl
theorem evOp_buildSlice (e : TypeId) (n : Nat) (parts : Array (Nat × Operand)) : evOp E c ρ S ⟨d, .buildSlice e n parts, t, p, a, g⟩ = opBuildSlice E S e n (parts.toList.map fun p => (p.1, ρ p.2)) := rfl
theorem evOp_load (e : TypeId) (x : Operand) : evOp E c ρ S ⟨d, .load e x, t, p, a, g⟩ = (opLoad E S e (ρ x)).map (·, S) := rfl
theorem evOp_store (e : TypeId) (x y : Operand) : evOp E c ρ S ⟨d, .store e x y, t, p, a, g⟩ = (opStore E S e (ρ x) (ρ y)).map (.tup [], ·) := rfl
theorem evOp_binOp (op : BinOp) (e u : TypeId) (x y : Operand) : evOp E c ρ S ⟨d, .binOp op e x y u, t, p, a, g⟩ = (opBin E (isLit x || isLit y) op e (ρ x) (ρ y)).map (·, S) := rfl
theorem evOp_unOp (op : UnOp) (e : TypeId) (x : Operand) : evOp E c ρ S ⟨d, .unOp op e x, t, p, a, g⟩ = (opUn op (ρ x)).map (·, S) := rfl
theorem evOp_convert (e u : TypeId) (x : Operand) : evOp E c ρ S ⟨d, .convert e u x, t, p, a, g⟩ = opConvert E S e u (ρ x) := rfl
theorem evOp_makeFunc (f : Fn) (x y : Array Operand) : evOp E c ρ S ⟨d, .makeFunc f x y, t, p, a, g⟩ = some (.fn f (x.toList.map ρ) (y.toList.map ρ), S) := rfl
theorem evOp_makeSlice (e : TypeId) (x y : Operand) : evOp E c ρ S ⟨d, .makeSlice e x y, t, p, a, g⟩ = opMakeSlice E S e (ρ x) (ρ y) := rfl
theorem evOp_slice (e : TypeId) (x : Operand) (l h m : Option Operand) : evOp E c ρ S ⟨d, .slice e x l h m, t, p, a, g⟩ = (opSlice E e (ρ x) (l.map ρ) (h.map ρ) (m.map ρ)).map (·, S) := rfl
theorem evOp_fieldAddr (e : TypeId) (x : Operand) (f : Nat) : evOp E c ρ S ⟨d, .fieldAddr e x f, t, p, a, g⟩ = (opFieldAddr E e (ρ x) f).map (·, S) := rfl
theorem evOp_field (e : TypeId) (x : Operand) (f : Nat) : evOp E c ρ S ⟨d, .field e x f, t, p, a, g⟩ = (opField E e (ρ x) f).map (·, S) := rfl
theorem evOp_indexAddr (e : TypeId) (x i : Operand) : evOp E c ρ S ⟨d, .indexAddr e x i, t, p, a, g⟩ = (opIndexAddr E e (ρ x) (ρ i)).map (·, S) := rfl
theorem evOp_index (e : TypeId) (x i : Operand) : evOp E c ρ S ⟨d, .index e x i, t, p, a, g⟩ = (opIndex E e (ρ x) (ρ i)).map (·, S) := rfl
theorem evOp_extract (x : Operand) (i : Nat) : evOp E c ρ S ⟨d, .extract x i, t, p, a, g⟩ = (opExtract (ρ x) i).map (·, S) := rfl
theorem evOp_call (f : Operand) (args : Array Operand) (ts : Array TypeId) : evOp E c ρ S ⟨d, .call ⟨.value f, args, ts⟩, t, p, a, g⟩ = callV E c (ρ f) (args.toList.map ρ) S := rfl
theorem evOp_len (x : Operand) (u : TypeId) : evOp E c ρ S ⟨d, .call ⟨.builtin .len, #[x], #[u]⟩, t, p, a, g⟩ = (opLen E S u (ρ x)).map (·, S) := rfl
theorem evOp_append (x y : Operand) (ts : Array TypeId) : evOp E c ρ S ⟨d, .call ⟨.builtin .append, #[x, y], ts⟩, t, p, a, g⟩ = opAppend E S ts.toList (ρ x) (ρ y) := rfl
theorem evOp_copy (x y : Operand) (ts : Array TypeId) : evOp E c ρ S ⟨d, .call ⟨.builtin .copy, #[x, y], ts⟩, t, p, a, g⟩ = opCopy E S ts.toList (ρ x) (ρ y) := rfl
theorem evOp_min (x y : Operand) (ts : Array TypeId) : evOp E c ρ S ⟨d, .call ⟨.builtin .min, #[x, y], ts⟩, t, p, a, g⟩ = (minMax false (ρ x) [ρ y]).map (·, S) := rfl
theorem evOp_max (x y : Operand) (ts : Array TypeId) : evOp E c ρ S ⟨d, .call ⟨.builtin .max, #[x, y], ts⟩, t, p, a, g⟩ = (minMax true (ρ x) [ρ y]).map (·, S) := rfl
theorem evOp_next (x : Operand) : evOp E c ρ S ⟨d, .next x true, t, p, a, g⟩ = (match ρ x with
  | .it id => match S[id]? with
   | some (.iter s pos) =>
    if pos < s.length then
     let d := Utf8.decode ⟨s.toArray⟩ pos
     some (.tup [.bool true, .int .i64 pos, .int .i32 d.1], S.set id (.iter s (pos + d.2)))
    else some (.tup [.bool false], S)
   | _ => none
  | _ => none) := rfl
end ops
section opnds
theorem opnd_tmp (t : Nat) : opnd E fr (.tmp t) = lget fr t := rfl
theorem opnd_func (f : Nat) : opnd E fr (.func f) = .fn (.func f) [] [] := rfl
theorem opnd_int (k : IntKind) (n : Int) : opnd E fr (.const (.int k n)) = .int k n := rfl
theorem opnd_bool (b : Bool) : opnd E fr (.const (.bool b)) = .bool b := rfl
theorem opnd_str (l : List UInt8) : opnd E fr (.const (.string ⟨l.toArray⟩)) = .str l := rfl
theorem opnd_nilp : opnd E fr (.const (.pointer none)) = .nilp := rfl
theorem opnd_slN : opnd E fr (.const (.slice none 0 0)) = .slN := rfl
theorem opnd_nilf : opnd E fr (.const .nilFunc) = .nilf := rfl
theorem opnd_nili : opnd E fr (.const .nilIface) = .nili := rfl
end opnds
theorem evOps_nil (ops : List Oper) : evOps E c ops [] fr S = some (fr, S) := rfl
theorem evOps_plain (ops : List Oper) (d : Option Tmp) (op : Op) (t : TypeId) (p : String) (a : Array Edge) (rest : List Oper) : evOps E c ops (⟨d, op, t, p, a, none⟩ :: rest) fr S =
  (match evOp E c (opnd E fr) S ⟨d, op, t, p, a, none⟩ with | some (v, S') => evOps E c ops rest (put fr d v) S' | none => none) := rfl
theorem evOps_guard (ops : List Oper) (d : Option Tmp) (op : Op) (t : TypeId) (p : String) (a : Array Edge) (j : Nat) (w : Bool) (rest : List Oper) : evOps E c ops (⟨d, op, t, p, a, some (j, w)⟩ :: rest) fr S =
  (match (match ops[j]? with | some q => (match q.dst with | some e => (match lget fr e with | .bool b => some (b == w) | .tup _ => some false | _ => none) | none => none) | none => none : Option Bool) with
   | some true => (match evOp E c (opnd E fr) S ⟨d, op, t, p, a, some (j, w)⟩ with | some (v, S') => evOps E c ops rest (put fr d v) S' | none => none)
   | some false => evOps E c ops rest (put fr d (.tup [])) S
   | none => none) := rfl
theorem put_some (d : Nat) (v : V) : put fr (some d) v = lset fr d v := rfl
theorem put_none (v : V) : put fr none v = fr := rfl
theorem wrap_u8 (n : Int) : IntKind.u8.wrap n = n % 256 := by simp [IntKind.wrap, IntKind.bits, IntKind.signed]
end Go.Vm
set_option autoImplicit false
namespace Go.Vm
variable {E : Env}
def LW (E : Env) (c : Code) (fr : Fr) (S : Store) (Q : Ex → Fr → Store → Prop) : Prop := ∃ x fr' S', Q x fr' S' ∧ ∃ m, Ev_ fun n => ∀ i, m ≤ i → evLoop (evCode E (vrun E) n c) i fr S = some (x, fr', S')
theorem W.of_lw {c : Code} {fr : Fr} {S : Store} {Q : Ex → Fr → Store → Prop} (h : LW E c fr S Q) : W E (.loop c) fr S Q := by
 obtain ⟨x, fr', S', hq, m, k0, he⟩ := h
 exact ⟨x, fr', S', hq, max k0 m, fun n hn => by simp only [evCode]; exact he n (by omega) n (by omega)⟩
inductive Todo where
 | code (c : Code)
 | block (id : Nat)
 | again (c : Code)
 | scope
def cont (E : Env) (Q : Ex → Fr → Store → Prop) : List Todo → Ex → Fr → Store → Prop
 | [], x, fr, S => Q x fr S
 | .code c :: k, .normal, fr, S => W E c fr S (cont E Q k)
 | .code _ :: k, x, fr, S => cont E Q k x fr S
 | .block id :: k, x, fr, S => blockE id (cont E Q k) x fr S
 | .again c :: k, .normal, fr, S => LW E c fr S (cont E Q k)
 | .again _ :: k, x, fr, S => cont E Q k x fr S
 | .scope :: k, x, fr, S => (∀ l, x ≠ .goto l) ∧ cont E Q k x fr S
structure WS (E : Env) (k : List Todo) (fr : Fr) (S : Store) (Q : Ex → Fr → Store → Prop) : Prop where
 out : cont E Q k .normal fr S
def popTo (id : Nat) : List Todo → Option (List Todo)
 | [] => none
 | .block i :: k => if i = id then some k else popTo id k
 | _ :: k => popTo id k
section
variable {fr : Fr} {S : Store} {Q : Ex → Fr → Store → Prop} {a b : Code} {k : List Todo}
theorem W.of_ws (h : WS E [.code a] fr S Q) : W E a fr S Q := W.mono h.out fun _ _ _ h => h
theorem WS.done (h : Q .normal fr S) : WS E [] fr S Q := ⟨h⟩
theorem cont_code (c : Code) {x : Ex} (hx : x ≠ .normal) : cont E Q (.code c :: k) x fr S = cont E Q k x fr S := by cases x <;> first | rfl | exact absurd rfl hx
theorem cont_again (c : Code) {x : Ex} (hx : x ≠ .normal) : cont E Q (.again c :: k) x fr S = cont E Q k x fr S := by cases x <;> first | rfl | exact absurd rfl hx
theorem thenE_cont {c : Code} : thenE (fun fr S => W E c fr S (cont E Q k)) (cont E Q k) = cont E Q (.code c :: k) := by
 funext x fr S
 cases x <;> rfl
theorem WS.seq (h : WS E (.code a :: .code b :: k) fr S Q) : WS E (.code (.seq a b) :: k) fr S Q := by
 refine ⟨W.seq ?_⟩
 rw [thenE_cont]
 exact h.out
theorem WS.skip (h : WS E k fr S Q) : WS E (.code .skip :: k) fr S Q := ⟨W.skip h.out⟩
theorem WS.label {l : Nat} (h : WS E k fr S Q) : WS E (.code (.label l) :: k) fr S Q := ⟨W.label h.out⟩
theorem WS.block {id : Nat} (h : WS E (.code a :: .block id :: k) fr S Q) : WS E (.code (.block id a) :: k) fr S Q := ⟨W.block (W.mono h.out fun _ _ _ h => h)⟩
theorem WS.inBlock {id : Nat} (h : WS E k fr S Q) : WS E (.block id :: k) fr S Q := ⟨h.out⟩
theorem WS.scope (h : WS E (.code a :: .scope :: k) fr S Q) : WS E (.code (.scope a) :: k) fr S Q := ⟨W.scope (W.mono h.out fun _ _ _ h => h)⟩
theorem WS.inScope (h : WS E k fr S Q) : WS E (.scope :: k) fr S Q := ⟨⟨by simp, h.out⟩⟩
theorem cont_exit {id : Nat} : ∀ {k k' : List Todo}, popTo id k = some k' → WS E k' fr S Q → cont E Q k (.exit id) fr S
 | [], k', h, _ => by simp [popTo] at h
 | .block i :: k, k', h, g => by
  simp only [popTo] at h
  simp only [cont, blockE]
  by_cases e : i = id
  ·rw [if_pos e] at h
   cases h
   rw [if_pos e.symm]
   exact g.out
  ·rw [if_neg e] at h
   rw [if_neg (fun h => e h.symm)]
   exact cont_exit h g
 | .code c :: k, k', h, g => by
  rw [cont_code _ (by simp)]
  exact cont_exit (k := k) (by simpa [popTo] using h) g
 | .again c :: k, k', h, g => by
  rw [cont_again _ (by simp)]
  exact cont_exit (k := k) (by simpa [popTo] using h) g
 | .scope :: k, k', h, g => by
  simp only [cont]
  exact ⟨by simp, cont_exit (k := k) (by simpa [popTo] using h) g⟩
theorem WS.exit {id : Nat} {k' : List Todo} (hk : popTo id k = some k') (h : WS E k' fr S Q) : WS E (.code (.exit id) :: k) fr S Q := ⟨W.exit (cont_exit hk h)⟩
theorem cont_ret : ∀ {k : List Todo}, Q .ret fr S → cont E Q k .ret fr S
 | [], h => h
 | .block i :: k, h => by
  simp only [cont, blockE]
  exact cont_ret h
 | .code c :: k, h => by
  rw [cont_code _ (by simp)]
  exact cont_ret h
 | .again c :: k, h => by
  rw [cont_again _ (by simp)]
  exact cont_ret h
 | .scope :: k, h => by
  simp only [cont]
  exact ⟨by simp, cont_ret h⟩
theorem WS.ret (h : Q .ret fr S) : WS E (.code .ret :: k) fr S Q := ⟨W.ret (cont_ret h)⟩
theorem WS.cond {o : Operand} {t : Bool} (ho : opnd E fr o = .bool t) (h1 : t = true → WS E (.code a :: k) fr S Q) (h2 : t = false → WS E (.code b :: k) fr S Q) : WS E (.code (.cond o a b) :: k) fr S Q :=
 ⟨W.cond ho (fun h => (h1 h).out) (fun h => (h2 h).out)⟩
theorem WS.cond_true {o : Operand} (ho : opnd E fr o = .bool true) (h1 : WS E (.code a :: k) fr S Q) : WS E (.code (.cond o a b) :: k) fr S Q := ⟨W.cond_true ho h1.out⟩
theorem WS.cond_false {o : Operand} (ho : opnd E fr o = .bool false) (h1 : WS E (.code b :: k) fr S Q) : WS E (.code (.cond o a b) :: k) fr S Q := ⟨W.cond_false ho h1.out⟩
theorem WS.region {id : Nat} {ops : Array Oper} {fr' : Fr} {S' : Store} (h : evOps E (vrun E) ops.toList ops.toList fr S = some (fr', S')) (g : WS E k fr' S' Q) : WS E (.code (.region id ops false) :: k) fr S Q :=
 ⟨W.region (by rw [h]; exact g.out)⟩
theorem WS.draw {id : Nat} {ops : Array Oper} {fr' : Fr} {S' : Store} (h : evDraw E (vrun E) ops.toList (Region.before ops).toList ops.toList 0 fr S [] [] = some (fr', S')) (g : WS E k fr' S' Q) (hch : chainOk ops.toList (Region.before ops).toList = true := by kernel_rfl) : WS E (.code (.region id ops true) :: k) fr S Q :=
 ⟨W.draw hch (by rw [h]; exact g.out)⟩
def adm : List Todo → Option (List Todo)
 | .code (.seq a b) :: k => some (.code a :: .code b :: k)
 | .code .skip :: k => some k
 | .code (.label _) :: k => some k
 | .code (.block i a) :: k => some (.code a :: .block i :: k)
 | .block _ :: k => some k
 | .code (.exit i) :: k => popTo i k
 | .code (.scope a) :: k => some (.code a :: .scope :: k)
 | .scope :: k => some k
 | _ => none
theorem WS.adm {k k' : List Todo} (h : adm k = some k') (g : WS E k' fr S Q) : WS E k fr S Q := by
 unfold Vm.adm at h
 split at h
 ·cases h; exact WS.seq g
 ·cases h; exact WS.skip g
 ·cases h; exact WS.label g
 ·cases h; exact WS.block g
 ·cases h; exact WS.inBlock g
 ·exact WS.exit h g
 ·cases h; exact WS.scope g
 ·cases h; exact WS.inScope g
 ·cases h
theorem WS.drawb {id : Nat} {ops : Array Oper} {fr' : Fr} {S' : Store} {b : List Nat} (hb : (Region.before ops).toList = b) (h : evDraw E (vrun E) ops.toList b ops.toList 0 fr S [] [] = some (fr', S')) (g : WS E k fr' S' Q) (hch : chainOk ops.toList (Region.before ops).toList = true := by kernel_rfl) : WS E (.code (.region id ops true) :: k) fr S Q := by
 subst hb
 exact WS.draw h g hch
theorem WS.drawP {id : Nat} {ops : Array Oper} {fr' : Fr} {S' : Store} {b : List Nat} {q : List Bool} (ho : permOps ops.toList (topo ops.toList) = ops.toList) (hb : (Region.before ops).toList = b) (hq : qflags ops.toList b = q) (h : evDrawQ E (vrun E) ops.toList b q ops.toList 0 fr S [] [] = some (fr', S')) (g : WS E k fr' S' Q) (hch : chainOk ops.toList (Region.before ops).toList = false := by kernel_rfl) (hlp : loosePair ops.toList = none := by kernel_rfl) : WS E (.code (.region id ops true) :: k) fr S Q := by
 subst hb hq
 refine ⟨W.drawP hch ?_⟩
 have e : evDrawP E (vrun E) ops fr S = some (fr', S') := by
  unfold evDrawP
  rw [hlp]
  unfold evDrawG
  simp only [ho, Array.toArray_toList]
  exact h
 rw [e]
 exact g.out
def FnEnds (E : Env) (f : FuncId) (fn : Func) (S : Store) (r : V × Store) (x : Ex) (fr' : Fr) (S' : Store) : Prop :=
 (x = .normal ∨ x = .ret) ∧ ∃ vs, resultV E fr' S' fn.results.toList = some vs ∧ (if E.keep f then some (oneOf vs, S') else freezeRet S S' (oneOf vs)) = some r
theorem fn_ws {f : FuncId} {fn : Func} {c : Code} {args : List V} {r : V × Store} (hf : E.P.funcs[f]? = some fn) (hb : fn.body = some c) (h : WS E [.code c] args S (FnEnds E f fn S r)) (hd : E.defs f = false := by rfl) : vrun E (.fn f) args S = some r :=
 vrun_fn hf hb (W.of_ws h) hd
theorem freezeRet_pre {S S' : Store} {v v' : V} (h : S <+: S') (hv : frz 6 S.length S' v = some v') : freezeRet S S' v = some (v', S) := by
 obtain ⟨l, rfl⟩ := h
 unfold freezeRet
 rw [if_pos (by simp [Store.beq_refl]), hv]
 rfl
theorem WS.ret1 {f : FuncId} {fn : Func} {t : Nat} {v v' : V} {S' : Store} (hr : fn.results.toList = [.tmp t]) (hk : E.keep f = false) (hv : lget fr t = v) (hp : S <+: S') (hf : frz 6 S.length S' v = some v') : WS E (.code .ret :: k) fr S' (FnEnds E f fn S (v', S)) := by
 refine WS.ret ⟨.inr rfl, [v], ?_, ?_⟩
 ·rw [hr]
  simp only [resultV, hv, Option.map_some]
 ·rw [hk]
  exact freezeRet_pre hp hf
theorem WS.ret1s {f : FuncId} {fn : Func} {t : Nat} {v : V} {S' : Store} (hr : fn.results.toList = [.tmp t]) (hk : E.keep f = false) (hp : S <+: S') (hf : frz 6 S.length S' v = some v) (hv : lget fr t = v) : WS E (.code .ret :: k) fr S' (FnEnds E f fn S (v, S)) := WS.ret1 hr hk hv hp hf
theorem WS.loop (I : Nat → Fr → Store → Prop) {j : Nat} (h0 : I j fr S)
  (step : ∀ j fr S, I j fr S → (∀ j' fr' S', j' < j → I j' fr' S' → WS E (.again a :: k) fr' S' Q) → WS E (.code a :: .again a :: k) fr S Q) : WS E (.code (.loop a) :: k) fr S Q := by
 have key : ∀ (j : Nat) (fr : Fr) (S : Store), I j fr S → LW E a fr S (cont E Q k) := by
  intro j
  induction j using Nat.strongRecOn with
  | _ j ih =>
   intro fr S hI
   have hs : W E a fr S (cont E Q (.again a :: k)) := (step j fr S hI (fun j' fr' S' hj hI' => ⟨ih j' hj fr' S' hI'⟩)).out
   obtain ⟨x, fr1, S1, hq, he⟩ := hs
   have last : x ≠ .normal → LW E a fr S (cont E Q k) := by
    intro hx
    rw [cont_again _ hx] at hq
    refine ⟨x, fr1, S1, hq, 1, he.mono fun n h1 i hi => ?_⟩
    obtain ⟨i, rfl⟩ : ∃ q, i = q + 1 := ⟨i - 1, by omega⟩
    rw [evLoop, h1]
    cases x with
    | normal => exact absurd rfl hx
    | exit _ => rfl
    | goto _ => rfl
    | ret => rfl
   cases x with
   | normal =>
    obtain ⟨x2, fr2, S2, hq2, m, he2⟩ := hq
    refine ⟨x2, fr2, S2, hq2, m + 1, he.mono2 he2 fun n h1 h2 i hi => ?_⟩
    obtain ⟨i, rfl⟩ : ∃ q, i = q + 1 := ⟨i - 1, by omega⟩
    rw [evLoop, h1]
    exact h2 i (by omega)
   | exit i => exact last (by simp)
   | goto i => exact last (by simp)
   | ret => exact last (by simp)
 exact ⟨W.of_lw (key j fr S h0)⟩
theorem WS.loopB {id : Nat} (I : Nat → Fr → Store → Prop) (P : Fr → Store → Prop) {j : Nat} (h0 : I j fr S) (after : ∀ fr S, P fr S → WS E k fr S Q)
  (step : ∀ j fr S, I j fr S → (∀ j' fr' S', j' < j → I j' fr' S' → WS E (.again a :: .block id :: k) fr' S' Q) → (∀ fr S, P fr S → WS E k fr S Q) → WS E (.code a :: .again a :: .block id :: k) fr S Q) :
  WS E (.code (.loop a) :: .block id :: k) fr S Q :=
 WS.loop I h0 fun j fr S hI ih => step j fr S hI ih after
end
end Go.Vm
set_option autoImplicit false
namespace Go.Vm
variable {E : Env} {S : Store}
section bins
variable (l : Bool) (t : TypeId) (k : IntKind) (a b : Int) (x y : List UInt8)
theorem bin_add : opBin E l .add t (.int k a) (.int k b) = some (.int k (k.wrap (a + b))) := by simp [opBin, intOp]
theorem bin_sub : opBin E l .sub t (.int k a) (.int k b) = some (.int k (k.wrap (a - b))) := by simp [opBin, intOp]
theorem bin_mul : opBin E l .mul t (.int k a) (.int k b) = some (.int k (k.wrap (a * b))) := by simp [opBin, intOp]
theorem bin_eql : opBin E l .eql t (.int k a) (.int k b) = some (.bool (a == b)) := by simp [opBin, intOp]
theorem bin_neq : opBin E l .neq t (.int k a) (.int k b) = some (.bool (a != b)) := by simp [opBin, intOp]
theorem bin_lss : opBin E l .lss t (.int k a) (.int k b) = some (.bool (decide (a < b))) := by simp [opBin, intOp]
theorem bin_leq : opBin E l .leq t (.int k a) (.int k b) = some (.bool (decide (a ≤ b))) := by simp [opBin, intOp]
theorem bin_gtr : opBin E l .gtr t (.int k a) (.int k b) = some (.bool (decide (b < a))) := by simp [opBin, intOp]
theorem bin_geq : opBin E l .geq t (.int k a) (.int k b) = some (.bool (decide (b ≤ a))) := by simp [opBin, intOp]
theorem bin_shr (h : 0 ≤ b) (k' : IntKind) : opBin E l .shr t (.int k a) (.int k' b) = some (.int k (a.fdiv (2 ^ (min b.toNat k.bits)))) := by
 unfold opBin
 simp only
 rw [if_neg (by omega)]
theorem conv_int {u : TypeId} {x : TypeDesc} (ht : E.P.underlying t = some x) (hu : E.P.underlying u = some (.int k)) (j : IntKind) (n : Int) : opConvert E S t u (.int j n) = some (.int k (k.wrap n), S) := by
 simp only [opConvert, ht, hu]
theorem bin_quo (h : b ≠ 0) : opBin E l .quo t (.int k a) (.int k b) = some (.int k (k.wrap (a.tdiv b))) := by simp [opBin, intOp, h]
theorem bin_rem (h : b ≠ 0) : opBin E l .rem t (.int k a) (.int k b) = some (.int k (a.tmod b)) := by simp [opBin, intOp, h]
theorem bin_and : opBin E l .and t (.int k a) (.int k b) = some (.int k (k.wrap (BitVec.ofInt k.bits a &&& BitVec.ofInt k.bits b).toNat)) := by simp [opBin, intOp]
theorem bin_seql : opBin E l .eql t (.str x) (.str y) = some (.bool (x == y)) := by simp [opBin, strOp]
theorem bin_sneq : opBin E l .neq t (.str x) (.str y) = some (.bool (!(x == y))) := by simp [opBin, strOp]
theorem bin_slss : opBin E l .lss t (.str x) (.str y) = some (.bool (Op.bytesLess x y)) := by simp [opBin, strOp]
theorem bin_sgtr : opBin E l .gtr t (.str x) (.str y) = some (.bool (!(Op.bytesLess x y || x == y))) := by simp [opBin, strOp]
theorem bin_sadd (h : x.length + y.length ≤ 9223372036854775807) : opBin E l .add t (.str x) (.str y) = some (.str (x ++ y)) := by
 unfold opBin
 simp only [strOp]
 rw [if_pos h]
theorem un_not (p : Bool) : opUn .not (.bool p) = some (.bool (!p)) := rfl
theorem ext_tup (vs : List V) (i : Nat) : opExtract (.tup vs) i = vs[i]? := rfl
end bins
section wraps
theorem wrap_u8' (n : Nat) (h : n < 256) : IntKind.u8.wrap (n : Int) = n := by
 rw [wrap_u8]
 omega
theorem wrap_inc (i : Nat) (h : i < 140737488355328) : IntKind.i64.wrap ((i : Int) + 1) = ((i + 1 : Nat) : Int) := by
 rw [wrap_i64 (by omega) (by omega)]
 omega
theorem wrap_addN (i j : Nat) (h : i + j ≤ 140737488355328) : IntKind.i64.wrap ((i : Int) + (j : Int)) = ((i + j : Nat) : Int) := by
 rw [wrap_i64 (by omega) (by omega)]
 omega
theorem wrap_subN (i j : Nat) (h : j ≤ i) (h2 : i ≤ 140737488355328) : IntKind.i64.wrap ((i : Int) - (j : Int)) = ((i - j : Nat) : Int) := by
 rw [wrap_i64 (by omega) (by omega)]
 omega
theorem wrap_sub1 (i : Nat) (h : 1 ≤ i) (h2 : i ≤ 140737488355328) : IntKind.i64.wrap ((i : Int) - 1) = ((i - 1 : Nat) : Int) := by
 rw [wrap_i64 (by omega) (by omega)]
 omega
end wraps
section mem
variable {t e : TypeId} {d : TypeDesc}
theorem idx_str (ht : E.P.underlying t = some .string) (s : List UInt8) (k : IntKind) (i : Nat) (h : i < s.length) : opIndex E t (.str s) (.int k (i : Int)) = some (.int .u8 (s.getD i 0).toNat) := by
 unfold opIndex
 simp only [vInt, Option.bind_eq_bind, Option.bind_some, ht]
 rw [if_pos (by omega)]
 simp [List.getElem?_eq_getElem h, List.getD_eq_getElem?_getD]
theorem ia_slR {z : Nat} (ht : E.P.underlying t = some (.slice e)) (hz : tsize E e = some z) (id off n cap : Nat) (k : IntKind) (i : Nat) (h : i < n) : opIndexAddr E t (.slR id off n cap z) (.int k (i : Int)) = some (.ref id (off + i * z)) := by
 unfold opIndexAddr
 simp only [vInt, Option.bind_eq_bind, Option.bind_some, ht, hz]
 rw [if_pos (by simp; omega)]
 simp
theorem ia_slI {z : Nat} (ht : E.P.underlying t = some (.slice e)) (hz : tsize E e = some z) (n : Nat) (cs : List V) (k : IntKind) (i : Nat) (h : i < n) : opIndexAddr E t (.slI n cs) (.int k (i : Int)) = some (.imm (cs.drop (i * z))) := by
 unfold opIndexAddr
 simp only [vInt, Option.bind_eq_bind, Option.bind_some, ht, hz]
 rw [if_pos (by simp; omega)]
 simp
theorem ld_ref (h : isAggO E t = some false) (id off : Nat) : opLoad E S t (.ref id off) = (cellsOf S id).bind fun cs => cs[off]? := by
 unfold opLoad
 simp only [h, Option.bind_eq_bind, Option.bind_some, Bool.false_eq_true, if_false, cellsAt]
 cases hc : cellsOf S id with
 | none => rfl
 | some cs =>
  simp only [Option.bind_some, tk, List.length_drop]
  split
  ·rename_i hl
   simp only [Option.bind_some]
   have : off < cs.length := by omega
   show ((cs.drop off).take 1).head? = cs[off]?
   rw [List.getElem?_eq_getElem this, List.drop_eq_getElem_cons this]
   rfl
  ·rename_i hl
   have : cs.length ≤ off := by omega
   simp [List.getElem?_eq_none this]
theorem ld_imm (h : isAggO E t = some false) (c : V) (cs : List V) : opLoad E S t (.imm (c :: cs)) = some c := by
 unfold opLoad
 simp [h, cellsAt, tk]
theorem ld_agg {n : Nat} (h : isAggO E t = some true) (hn : tsize E t = some n) (cs : List V) (hl : n ≤ cs.length) : opLoad E S t (.imm cs) = some (.agg (cs.take n)) := by
 unfold opLoad
 simp [h, hn, cellsAt, tk, hl]
theorem st_one (hn : tsize E t = some 1) (id off : Nat) (v : V) (hs : solid v = true) (hv : ∀ cs, v ≠ .agg cs) : opStore E S t (.ref id off) v = putAt S (.ref id off) [v] := by
 have hc : vcells v = [v] := by cases v <;> first | rfl | exact absurd rfl (hv _)
 unfold opStore
 simp [hn, hs, hc]
theorem len_str (ht : E.P.underlying t = some .string) (s : List UInt8) : opLen E S t (.str s) = some (.int .i64 s.length) := by simp [opLen, ht]
theorem len_slN (ht : E.P.underlying t = some (.slice e)) : opLen E S t .slN = some (.int .i64 (0 : Nat)) := by simp [opLen, ht]
theorem len_slI (ht : E.P.underlying t = some (.slice e)) (n : Nat) (cs : List V) : opLen E S t (.slI n cs) = some (.int .i64 n) := by simp [opLen, ht]
theorem len_slR (ht : E.P.underlying t = some (.slice e)) (id off n c z : Nat) : opLen E S t (.slR id off n c z) = some (.int .i64 n) := by simp [opLen, ht]
theorem conv_bytes {u : TypeId} (ht : E.P.underlying t = some .string) (hu : E.P.underlying u = some (.slice e)) (he : E.P.underlying e = some (.int .u8)) (s : List UInt8) (hs : s.length ≤ 140737488355328) :
  opConvert E S t u (.str s) = some (.slR S.length 0 s.length s.length 1, S ++ [.cells (bytesV s) e]) := by
 simp only [opConvert, ht, hu, he]
 rw [if_pos hs]
theorem bytesV_length (s : List UInt8) : (bytesV s).length = s.length := by simp [bytesV]
theorem bytesV_append (s r : List UInt8) : bytesV (s ++ r) = bytesV s ++ bytesV r := by simp [bytesV]
theorem bytesV_get (s : List UInt8) (i : Nat) (h : i < s.length) : (bytesV s)[i]? = some (.int .u8 (s.getD i 0).toNat) := by
 simp [bytesV, List.getElem?_eq_getElem h, List.getD_eq_getElem?_getD]
theorem vBytes_bytesV : ∀ (s : List UInt8), vBytes (bytesV s) = some s
 | [] => rfl
 | b :: s => by
  have ih := vBytes_bytesV s
  simp only [bytesV, List.map_cons] at ih ⊢
  simp only [vBytes, vByte, ih, Option.bind_eq_bind, Option.bind_some]
  congr 2
  simp
theorem bytesV_set (s : List UInt8) (i : Nat) (b : UInt8) : (bytesV s).set i (.int .u8 b.toNat) = bytesV (s.set i b) := by simp [bytesV, List.map_set]
theorem vBytes_take (s : List UInt8) (r : List V) : vBytes ((bytesV s ++ r).take s.length) = some s := by
 rw [List.take_left' (bytesV_length s), vBytes_bytesV]
theorem conv_str {u : TypeId} (ht : E.P.underlying t = some (.slice e)) (hu : E.P.underlying u = some .string) (he : E.P.underlying e = some (.int .u8)) {id cap : Nat} {s : List UInt8} {r : List V} {w : TypeId} (hS : S[id]? = some (.cells (bytesV s ++ r) w)) :
  opConvert E S t u (.slR id 0 s.length cap 1) = some (.str s, S) := by
 have hc : cellsAt S (.ref id 0) s.length = some (bytesV s) := by
  simp [cellsAt, cellsOf, hS, tk, bytesV_length, List.take_left' (bytesV_length s)]
 unfold opConvert
 simp only [ht, hu, he, sliceCells, Nat.mul_one, hc]
 simp [vBytes_bytesV]
theorem conv_strN {u : TypeId} (ht : E.P.underlying t = some (.slice e)) (hu : E.P.underlying u = some .string) (he : E.P.underlying e = some (.int .u8)) : opConvert E S t u .slN = some (.str [], S) := by
 unfold opConvert
 simp only [ht, hu, he, sliceCells]
 simp [vBytes]
end mem
section draws
theorem evDraw_nil {c : CallT} {fr : Fr} (ops : List Oper) (b : List Nat) (i : Nat) (hist : List (Nat × Store)) (flts : List (Nat × Oper × Fr × V)) : evDraw E c ops b [] i fr S hist flts = some (fr, S) := rfl
theorem evDraw_plain {c : CallT} {fr : Fr} (ops : List Oper) (b : List Nat) (d : Option Tmp) (op : Op) (t : TypeId) (p : String) (a : Array Edge) (rest : List Oper) (i : Nat) (hist : List (Nat × Store)) (flts : List (Nat × Oper × Fr × V)) :
  evDraw E c ops b (⟨d, op, t, p, a, none⟩ :: rest) i fr S hist flts = (match evOp E c (opnd E fr) S ⟨d, op, t, p, a, none⟩ with
   | some (v, S') =>
    if isEff op then
     if flts.all (fun x => (b.getD i 0).testBit x.1 || (match evOp E c (opnd E x.2.2.1) S' x.2.1 with | some (u, _) => u.beq x.2.2.2 | none => false))
     then evDraw E c ops b rest (i + 1) (put fr d v) S' ((i, S) :: hist) flts
     else none
    else if isRead op then
     if hist.all (fun x => (b.getD i 0).testBit x.1 || (match evOp E c (opnd E fr) x.2 ⟨d, op, t, p, a, none⟩ with | some (u, _) => u.beq v | none => false))
     then evDraw E c ops b rest (i + 1) (put fr d v) S' hist ((i, ⟨d, op, t, p, a, none⟩, fr, v) :: flts)
     else none
    else evDraw E c ops b rest (i + 1) (put fr d v) S' hist flts
   | none => none) := (rfl)
end draws
section store
theorem getS (l : Store) (j : Nat) : (S ++ l)[S.length + j]? = l[j]? := by
 rw [List.getElem?_append_right (by omega)]
 congr 1
 omega
theorem getS0 (l : Store) : (S ++ l)[S.length]? = l[0]? := getS l 0
theorem setS (l : Store) (j : Nat) (o : Ob) : (S ++ l).set (S.length + j) o = S ++ l.set j o := by
 rw [List.set_append_right _ _ (by omega)]
 congr 2
 omega
theorem setS0 (l : Store) (o : Ob) : (S ++ l).set S.length o = S ++ l.set 0 o := setS l 0 o
theorem putAt_one {id off : Nat} {cs : List V} {e : TypeId} {v : V} (hS : S[id]? = some (.cells cs e)) (h : off < cs.length) : putAt S (.ref id off) [v] = some (S.set id (.cells (cs.set off v) e)) := by
 unfold putAt
 simp [cellsOf, elemOf, hS, splice]
 omega
theorem cellsOf_of {id : Nat} {cs : List V} {e : TypeId} (hS : S[id]? = some (.cells cs e)) : cellsOf S id = some cs := by simp [cellsOf, hS]
theorem frz_str (n : Nat) (S' : Store) (s : List UInt8) : frz 6 n S' (.str s) = some (.str s) := rfl
theorem frz_bool (n : Nat) (S' : Store) (b : Bool) : frz 6 n S' (.bool b) = some (.bool b) := rfl
theorem frz_int (n : Nat) (S' : Store) (k : IntKind) (b : Int) : frz 6 n S' (.int k b) = some (.int k b) := rfl
theorem ret_bool {S' : Store} (h : S <+: S') (b : Bool) : freezeRet S S' (.bool b) = some (.bool b, S) := freezeRet_pre h rfl
end store
section mono
theorem m1 {x : V} {f : V → V × Store} : Option.map f (some x) = some (f x) := rfl
theorem m2 {f : V → V × Store} : Option.map f none = none := rfl
theorem m3 {x : Store} {f : Store → V × Store} : Option.map f (some x) = some (f x) := rfl
theorem m4 {f : Store → V × Store} : Option.map f none = none := rfl
theorem m5 {x : List V} {f : List V → Option V} : Option.bind (some x) f = f x := rfl
theorem m6 {a : V} {l : List V} : (a :: l)[0]? = some a := rfl
theorem m7 {a : V} {l : List V} {n : Nat} : (a :: l)[n + 1]? = l[n]? := rfl
theorem m8 {a : Oper} {l : List Oper} : (a :: l)[0]? = some a := rfl
theorem m9 {a : Oper} {l : List Oper} {n : Nat} : (a :: l)[n + 1]? = l[n]? := rfl
theorem m10 {a : Operand} {l : List Operand} {f : Operand → V} : (a :: l).map f = f a :: l.map f := rfl
theorem m11 {f : Operand → V} : ([] : List Operand).map f = [] := rfl
theorem m12 {a : Nat × Operand} {l : List (Nat × Operand)} {f : Nat × Operand → Nat × V} : (a :: l).map f = f a :: l.map f := rfl
theorem m13 {f : Nat × Operand → Nat × V} : ([] : List (Nat × Operand)).map f = [] := rfl
theorem m14 {l : List V} : [] ++ l = l := rfl
theorem m15 {l : List V} : l ++ [] = l := List.append_nil l
theorem m16 {a : V} {l r : List V} : (a :: l) ++ r = a :: (l ++ r) := rfl
theorem m17 {x : Operand} {f : Operand → V} : Option.map f (some x) = some (f x) := rfl
theorem m18 {f : Operand → V} : Option.map f none = none := rfl
end mono
theorem EV : type_of% (And.intro @decide_true <| And.intro @decide_false <| And.intro @eq_self.{1} <| And.intro @evOp_move <| And.intro @evOp_assign <| And.intro @evOp_pick <| And.intro @evOp_alloc <| And.intro @evOp_box <| And.intro @evOp_build <| And.intro @evOp_buildSlice <| And.intro @evOp_load <| And.intro @evOp_store <|
 And.intro @evOp_binOp <| And.intro @evOp_unOp <| And.intro @evOp_convert <| And.intro @evOp_makeFunc <| And.intro @evOp_makeSlice <| And.intro @evOp_slice <| And.intro @evOp_fieldAddr <| And.intro @evOp_field <| And.intro @evOp_indexAddr <|
 And.intro @evOp_index <| And.intro @evOp_extract <| And.intro @evOp_call <| And.intro @evOp_len <| And.intro @evOp_append <| And.intro @evOp_copy <| And.intro @evOp_min <| And.intro @evOp_max <| And.intro @evOp_next <|
 And.intro @opnd_tmp <| And.intro @opnd_func <| And.intro @opnd_int <| And.intro @opnd_bool <| And.intro @opnd_str <| And.intro @opnd_nilp <| And.intro @opnd_slN <| And.intro @opnd_nilf <| And.intro @opnd_nili <|
 And.intro @evOps_nil <| And.intro @evOps_plain <| And.intro @evOps_guard <| And.intro @put_some <| And.intro @put_none <| And.intro @lget_lset <| 
 And.intro Bool.false_eq_true <| And.intro @beq_true <| And.intro @beq_false <| And.intro Bool.not_true <| And.intro Bool.not_false <|
 And.intro @bin_add <| And.intro @bin_sub <| And.intro @bin_mul <| And.intro @bin_eql <| And.intro @bin_neq <|
 And.intro @bin_lss <| And.intro @bin_leq <| And.intro @bin_gtr <| And.intro @bin_geq <| And.intro @bin_seql <| And.intro @bin_sneq <| And.intro @bin_slss <| And.intro @bin_sgtr <| And.intro @un_not <| And.intro @m1 <| And.intro @m2 <| And.intro @m3 <| And.intro @m4 <| And.intro @m5 <| And.intro @m6 <| And.intro @m7 <| And.intro @m8 <| And.intro @m9 <| And.intro @m10 <| And.intro @m11 <| And.intro @m12 <| And.intro @m13 <| And.intro @m14 <| And.intro @m15 <| And.intro @m16 <| And.intro @m17 <| And.intro @m18 <| @ext_tup) :=
 And.intro @decide_true <| And.intro @decide_false <| And.intro @eq_self.{1} <| And.intro @evOp_move <| And.intro @evOp_assign <| And.intro @evOp_pick <| And.intro @evOp_alloc <| And.intro @evOp_box <| And.intro @evOp_build <| And.intro @evOp_buildSlice <| And.intro @evOp_load <| And.intro @evOp_store <|
 And.intro @evOp_binOp <| And.intro @evOp_unOp <| And.intro @evOp_convert <| And.intro @evOp_makeFunc <| And.intro @evOp_makeSlice <| And.intro @evOp_slice <| And.intro @evOp_fieldAddr <| And.intro @evOp_field <| And.intro @evOp_indexAddr <|
 And.intro @evOp_index <| And.intro @evOp_extract <| And.intro @evOp_call <| And.intro @evOp_len <| And.intro @evOp_append <| And.intro @evOp_copy <| And.intro @evOp_min <| And.intro @evOp_max <| And.intro @evOp_next <|
 And.intro @opnd_tmp <| And.intro @opnd_func <| And.intro @opnd_int <| And.intro @opnd_bool <| And.intro @opnd_str <| And.intro @opnd_nilp <| And.intro @opnd_slN <| And.intro @opnd_nilf <| And.intro @opnd_nili <|
 And.intro @evOps_nil <| And.intro @evOps_plain <| And.intro @evOps_guard <| And.intro @put_some <| And.intro @put_none <| And.intro @lget_lset <| 
 And.intro Bool.false_eq_true <| And.intro @beq_true <| And.intro @beq_false <| And.intro Bool.not_true <| And.intro Bool.not_false <|
 And.intro @bin_add <| And.intro @bin_sub <| And.intro @bin_mul <| And.intro @bin_eql <| And.intro @bin_neq <|
 And.intro @bin_lss <| And.intro @bin_leq <| And.intro @bin_gtr <| And.intro @bin_geq <| And.intro @bin_seql <| And.intro @bin_sneq <| And.intro @bin_slss <| And.intro @bin_sgtr <| And.intro @un_not <| And.intro @m1 <| And.intro @m2 <| And.intro @m3 <| And.intro @m4 <| And.intro @m5 <| And.intro @m6 <| And.intro @m7 <| And.intro @m8 <| And.intro @m9 <| And.intro @m10 <| And.intro @m11 <| And.intro @m12 <| And.intro @m13 <| And.intro @m14 <| And.intro @m15 <| And.intro @m16 <| And.intro @m17 <| And.intro @m18 <| @ext_tup
theorem AT : (∀ p : Prop, (p ∧ True) = p) ∧ (∀ p : Prop, (True ∧ p) = p) ∧ ∀ p : Prop, (p ∧ p) = p := ⟨and_true, true_and, and_self⟩
theorem DL : type_of% (And.intro @evDraw_nil <| And.intro @evDraw_plain <| And.intro @List.all_nil.{0} <| And.intro @List.all_cons.{0} <| And.intro Bool.or_true <| And.intro Bool.true_or <| And.intro Bool.and_self <| And.intro Bool.and_true <| And.intro @V.beq_refl <| And.intro @List.getD_cons_zero.{0} <| And.intro @List.getD_cons_succ.{0} <| And.intro Bool.false_or <| @Nat.testBit_eq_decide_div_mod_eq) := And.intro @evDraw_nil <| And.intro @evDraw_plain <| And.intro @List.all_nil.{0} <| And.intro @List.all_cons.{0} <| And.intro Bool.or_true <| And.intro Bool.true_or <| And.intro Bool.and_self <| And.intro Bool.and_true <| And.intro @V.beq_refl <| And.intro @List.getD_cons_zero.{0} <| And.intro @List.getD_cons_succ.{0} <| And.intro Bool.false_or <| @Nat.testBit_eq_decide_div_mod_eq
theorem WS.cf0 {E : Env} {k : List Todo} {fr : Fr} {S : Store} {Q : Ex → Fr → Store → Prop} {a b : Code} {o : Operand} (h1 : WS E (.code b :: k) fr S Q) (ho : opnd E fr o = .bool false := by simp only [EV, ↓reduceIte, Nat.reduceEqDiff]) : WS E (.code (.cond o a b) :: k) fr S Q := WS.cond_false ho h1
theorem WS.ct0 {E : Env} {k : List Todo} {fr : Fr} {S : Store} {Q : Ex → Fr → Store → Prop} {a b : Code} {o : Operand} (h1 : WS E (.code a :: k) fr S Q) (ho : opnd E fr o = .bool true := by simp only [EV, ↓reduceIte, Nat.reduceEqDiff]) : WS E (.code (.cond o a b) :: k) fr S Q := WS.cond_true ho h1
end Go.Vm
set_option autoImplicit false
namespace Go.Vm
variable {E : Env} {S : Store}
structure BTy (E : Env) (t e : TypeId) : Prop where
 ut : E.P.underlying t = some (.slice e)
 ue : E.P.underlying e = some (.int .u8)
 sz : tsize E e = some 1
 by_ : tbytes E e = some 1
 ze : zeroV E e = some (.int .u8 0)
 ag : isAggO E e = some false
theorem BTy.el {t e : TypeId} (h : BTy E t e) : elemT E t = some e := by simp [elemT, h.ut]
def Buf (e : TypeId) (n : Nat) (S : Store) (v : V) (bs : List UInt8) : Prop :=
 (v = .slN ∧ bs = []) ∨ ∃ id cap r, n ≤ id ∧ v = .slR id 0 bs.length cap 1 ∧ S[id]? = some (.cells (bytesV bs ++ r) e) ∧ cap = bs.length + r.length
def Low (n : Nat) (S S' : Store) : Prop := n ≤ S'.length ∧ ∀ i, i < n → S'[i]? = S[i]?
theorem Low.refl {n : Nat} (h : n ≤ S.length) : Low n S S := ⟨h, fun _ _ => rfl⟩
theorem Low.trans {n : Nat} {S1 S2 S3 : Store} (h : Low n S1 S2) (g : Low n S2 S3) : Low n S1 S3 := ⟨g.1, fun i hi => (g.2 i hi).trans (h.2 i hi)⟩
theorem Low.app {n : Nat} (h : n ≤ S.length) (l : Store) : Low n S (S ++ l) := ⟨by simp; omega, fun i hi => List.getElem?_append_left (by omega)⟩
theorem Low.set {n id : Nat} {o : Ob} (h : n ≤ S.length) (hi : n ≤ id) : Low n S (S.set id o) := ⟨by simpa using h, fun i hlt => by rw [List.getElem?_set_ne (by omega)]⟩
theorem Low.pre {S0 S' : Store} (h : Low S0.length S0 S') : S0 <+: S' := by
 rw [List.prefix_iff_getElem?]
 intro i hi
 rw [h.2 i hi]
 simp [hi]
theorem splice_eq {α : Type} : ∀ (xs cs : List α) (off : Nat), off + xs.length ≤ cs.length → splice cs off xs = cs.take off ++ xs ++ cs.drop (off + xs.length)
 | [], cs, off, _ => by simp [splice]
 | x :: xs, cs, off, h => by
  simp only [List.length_cons] at h
  rw [splice, splice_eq xs (cs.set off x) (off + 1) (by simp; omega)]
  have h1 : (cs.set off x).take (off + 1) = cs.take off ++ [x] := by
   rw [List.take_set, List.take_succ_eq_append_getElem (by omega), List.set_append_right _ _ (by simp; omega)]
   simp [Nat.min_eq_left (show off ≤ cs.length by omega)]
  have h2 : (cs.set off x).drop (off + 1 + xs.length) = cs.drop (off + (xs.length + 1)) := by
   rw [List.drop_set_of_lt (by omega)]
   congr 1
   omega
  rw [h1, h2]
  simp
section
variable {t e u : TypeId} {n : Nat} {v : V} {bs : List UInt8}
theorem Buf.new (e : TypeId) (n : Nat) (S : Store) : Buf e n S .slN [] := .inl ⟨rfl, rfl⟩
theorem Buf.len (h : Buf e n S v bs) (T : BTy E t e) : opLen E S t v = some (.int .i64 bs.length) := by
 rcases h with ⟨rfl, rfl⟩ | ⟨id, cap, r, h1, rfl, h2, h3⟩
 ·exact len_slN T.ut
 ·exact len_slR T.ut _ _ _ _ _
theorem Buf.conv (h : Buf e n S v bs) (T : BTy E t e) (hu : E.P.underlying u = some .string) : opConvert E S t u v = some (.str bs, S) := by
 rcases h with ⟨rfl, rfl⟩ | ⟨id, cap, r, h1, rfl, h2, h3⟩
 ·exact conv_strN T.ut hu T.ue
 ·exact conv_str T.ut hu T.ue h2
theorem Buf.at_ (h : Buf e n S v bs) (T : BTy E t e) (k : IntKind) (i : Nat) (hi : i < bs.length) : ∃ a, opIndexAddr E t v (.int k (i : Int)) = some a ∧ opLoad E S e a = some (.int .u8 (bs.getD i 0).toNat) := by
 rcases h with ⟨rfl, rfl⟩ | ⟨id, cap, r, h1, rfl, h2, h3⟩
 ·simp at hi
 ·refine ⟨_, ia_slR T.ut T.sz id 0 bs.length cap k i hi, ?_⟩
  rw [ld_ref T.ag, cellsOf_of h2]
  simp only [Option.bind_some, Nat.zero_add, Nat.mul_one]
  rw [List.getElem?_append_left (by rw [bytesV_length]; exact hi), bytesV_get _ _ hi]
theorem Buf.more (h : Buf e n S v bs) (l : Store) : Buf e n (S ++ l) v bs := by
 rcases h with ⟨rfl, rfl⟩ | ⟨id, cap, r, h1, rfl, h2, h3⟩
 ·exact .inl ⟨rfl, rfl⟩
 ·exact .inr ⟨id, cap, r, h1, rfl, by rw [List.getElem?_append_left (List.getElem?_eq_some_iff.1 h2).1]; exact h2, h3⟩
theorem append_base (T : BTy E t e) (hu : ∀ k, E.P.underlying u ≠ some (.int k)) (hu2 : E.P.underlying u ≠ none) {x : V} {xs : List UInt8} (hx : appended S 1 x = some (xs.length, bytesV xs)) (v : V) : opAppend E S [t, u] v x = (if xs.length == 0 then (match v with | .slN | .slI _ _ | .slR _ _ _ _ _ => some (v, S) | _ => none) else
   match v with
   | .slN => if xs.length * 1 ≤ 140737488355328 && xs.length ≤ 140737488355328 then some (.slR S.length 0 xs.length xs.length 1, S ++ [.cells (bytesV xs) e]) else none
   | .slR id off len cap sz =>
    if sz != 1 then none else
    if len + xs.length ≤ cap then do
     let S' ← putAt S (.ref id (off + len * sz)) (bytesV xs)
     some (.slR id off (len + xs.length) cap sz, S')
    else if (len + xs.length) * 1 ≤ 140737488355328 && len + xs.length ≤ 140737488355328 && elemOf S id == some e && off % 1 == 0 then do
     let cs ← cellsAt S (.ref id off) (len * sz)
     some (.slR S.length 0 (len + xs.length) (len + xs.length) sz, (S.set id .gone) ++ [.cells (cs ++ bytesV xs) e])
    else none
   | _ => none) := by
 have hne : (bytesV xs).length = xs.length := bytesV_length xs
 unfold opAppend
 simp only [T.el, T.sz, T.by_, T.ze, Option.bind_eq_bind, Option.bind_some, hx]
 cases hd : E.P.underlying u with
 | none => exact absurd hd hu2
 | some d =>
  cases d with
  | int k => exact absurd hd (hu k)
  | _ =>
   simp only [solid, vcells, List.length_singleton, beq_self_eq_true, Bool.true_and, hne, Nat.mul_one, Bool.and_self, Nat.zero_lt_one, decide_true, Bool.not_true, Bool.false_eq_true, if_false]
   cases v <;> rfl
theorem Buf.app (h : Buf e n S v bs) (T : BTy E t e) (hu : ∀ k, E.P.underlying u ≠ some (.int k)) (hu2 : E.P.underlying u ≠ none) (hn : n ≤ S.length) {x : V} {xs : List UInt8} (hx : appended S 1 x = some (xs.length, bytesV xs)) (hl : bs.length + xs.length ≤ 140737488355328) :
  ∃ v' S', opAppend E S [t, u] v x = some (v', S') ∧ Buf e n S' v' (bs ++ xs) ∧ Low n S S' := by
 have hne : (bytesV xs).length = xs.length := bytesV_length xs
 rw [append_base T hu hu2 hx v]
 by_cases h0 : xs = []
 ·subst h0
  refine ⟨v, S, ?_, by simpa using h, Low.refl hn⟩
  rcases h with ⟨rfl, rfl⟩ | ⟨id, cap, r, h1, rfl, h2, h3⟩ <;> simp
 ·have hpos : 0 < xs.length := by
   cases xs with
   | nil => exact absurd rfl h0
   | cons _ _ => simp
  rw [if_neg (by simp; exact h0)]
  rcases h with ⟨rfl, rfl⟩ | ⟨id, cap, r, h1, rfl, h2, h3⟩
  ·simp only [List.length_nil, Nat.zero_add] at hl
   refine ⟨.slR S.length 0 xs.length xs.length 1, S ++ [.cells (bytesV xs) e], ?_, .inr ⟨S.length, xs.length, [], hn, by simp, by simp, by simp⟩, Low.app hn _⟩
   simp only
   rw [if_pos (by simp; omega)]
  ·have hid : id < S.length := (List.getElem?_eq_some_iff.1 h2).1
   simp only
   rw [if_neg (by simp)]
   by_cases hc : bs.length + xs.length ≤ cap
   ·rw [if_pos hc]
    refine ⟨.slR id 0 (bs.length + xs.length) cap 1, S.set id (.cells (bytesV (bs ++ xs) ++ r.drop xs.length) e), ?_, .inr ⟨id, cap, r.drop xs.length, h1, by simp, by simp [hid], by simp; omega⟩, Low.set hn h1⟩
    have hput : putAt S (.ref id (0 + bs.length * 1)) (bytesV xs) = some (S.set id (.cells (bytesV (bs ++ xs) ++ r.drop xs.length) e)) := by
     unfold putAt
     simp only [cellsOf, elemOf, h2, Option.bind_eq_bind, Option.bind_some]
     rw [if_pos (by simp [bytesV_length]; omega), splice_eq _ _ _ (by simp [bytesV_length]; omega)]
     congr 3
     simp [bytesV_length, List.take_left', bytesV_append, List.drop_append]
    rw [hput]
    rfl
   ·rw [if_neg hc]
    refine ⟨.slR S.length 0 (bs.length + xs.length) (bs.length + xs.length) 1, (S.set id .gone) ++ [.cells (bytesV (bs ++ xs)) e], ?_, .inr ⟨S.length, bs.length + xs.length, [], hn, by simp, by rw [List.getElem?_append_right (by simp)]; simp, by simp⟩,
     (Low.set hn h1).trans (Low.app (by simpa using hn) _)⟩
    rw [if_pos (by simp [elemOf, h2, Nat.mod_one]; omega)]
    have hcs : cellsAt S (.ref id 0) (bs.length * 1) = some (bytesV bs) := by
     simp [cellsAt, cellsOf, h2, tk, bytesV_length, List.take_left' (bytesV_length bs)]
    rw [hcs]
    simp [bytesV_append]
theorem Buf.app1 (h : Buf e n S v bs) (T : BTy E t e) (hn : n ≤ S.length) (c : UInt8) (hl : bs.length + 1 ≤ 140737488355328) :
  ∃ v' S', opAppend E (S ++ [.cells [.int .u8 c.toNat] e]) [t, t] v (.slR S.length 0 1 1 1) = some (v', S') ∧ Buf e n S' v' (bs ++ [c]) ∧ Low n S S' := by
 have hx : appended (S ++ [.cells [.int .u8 c.toNat] e]) 1 (.slR S.length 0 1 1 1) = some ([c].length, bytesV [c]) := by
  simp [appended, sliceCells, cellsAt, cellsOf, tk, bytesV]
 obtain ⟨v', S', h1, h2, h3⟩ := (h.more [.cells [.int .u8 c.toNat] e]).app (u := t) T (by rw [T.ut]; simp) (by rw [T.ut]; simp) (by simp; omega) hx (by simpa using hl)
 exact ⟨v', S', h1, h2, (Low.app hn _).trans h3⟩
theorem Buf.appS (h : Buf e n S v bs) (T : BTy E t e) (hu : E.P.underlying u = some .string) (hn : n ≤ S.length) (s : List UInt8) (hl : bs.length + s.length ≤ 140737488355328) :
  ∃ v' S', opAppend E S [t, u] v (.str s) = some (v', S') ∧ Buf e n S' v' (bs ++ s) ∧ Low n S S' :=
 h.app T (by rw [hu]; simp) (by rw [hu]; simp) hn (by simp [appended]) hl
theorem mk1_ (T : BTy E t e) (S : Store) (c : Int) : opBuildSlice E S t 1 [(0, .int .u8 c)] = some (.slR S.length 0 1 1 1, S ++ [.cells [.int .u8 c] e]) := by
 unfold opBuildSlice
 simp [T.el, T.sz, T.ze, solid, vcells, repl, fillV, splice]
end
section strs
variable {t : TypeId}
theorem sl_lo (ht : E.P.underlying t = some .string) (s : List UInt8) (k : IntKind) (n : Nat) (h : n ≤ s.length) : opSlice E t (.str s) (some (.int k (n : Int))) none none = some (.str (s.drop n)) := by
 unfold opSlice
 simp [ht, bnd, h]
theorem sl_hi (ht : E.P.underlying t = some .string) (s : List UInt8) (k : IntKind) (n : Nat) (h : n ≤ s.length) : opSlice E t (.str s) none (some (.int k (n : Int))) none = some (.str (s.take n)) := by
 unfold opSlice
 simp [ht, bnd, h]
theorem eq8 (c d : UInt8) (z : Int) (hz : z = (d.toNat : Nat)) : ((c.toNat : Int) == z) = decide (c = d) := by
 subst hz
 by_cases h : c = d
 ·subst h; simp
 ·simp [h]
  intro hh
  exact h (UInt8.toNat_inj.1 (by omega))
theorem eq8t {c d : UInt8} (h : c = d) (z : Int) (hz : z = (d.toNat : Nat)) : ((c.toNat : Int) == z) = true := by rw [eq8 c d z hz]; simp [h]
theorem eq8f {c d : UInt8} (h : ¬ c = d) (z : Int) (hz : z = (d.toNat : Nat)) : ((c.toNat : Int) == z) = false := by rw [eq8 c d z hz]; simp [h]
theorem ne8 (c d : UInt8) (z : Int) (hz : z = (d.toNat : Nat)) : ((c.toNat : Int) != z) = !decide (c = d) := by
 rw [bne, eq8 c d z hz]
theorem ne8t {c d : UInt8} (h : ¬ c = d) (z : Int) (hz : z = (d.toNat : Nat)) : ((c.toNat : Int) != z) = true := by rw [ne8 c d z hz]; simp [h]
theorem ne8f {c d : UInt8} (h : c = d) (z : Int) (hz : z = (d.toNat : Nat)) : ((c.toNat : Int) != z) = false := by rw [ne8 c d z hz]; simp [h]
theorem sne (s : List UInt8) : (!(s == [])) = !decide (s = []) := by
 cases s <;> rfl
end strs
end Go.Vm
set_option autoImplicit false
set_option maxRecDepth 10000
namespace Go.Vm
variable {E : Env} {c : CallT} {ρ : Operand → V} {S : Store}
theorem dec_get (s : List UInt8) (i : Nat) (h : i < s.length) : ((⟨s.toArray⟩ : ByteArray).get! (i + 0)).toNat = (s.getD i 0).toNat := by
 show ((s.toArray)[i]!).toNat = _
 simp [h, List.getD_eq_getElem?_getD]
theorem dec_lo (s : List UInt8) (i : Nat) (h : i < s.length) (hb : (s.getD i 0).toNat < 128) : Utf8.decode ⟨s.toArray⟩ i = ((s.getD i 0).toNat, 1) := by
 have hg := dec_get s i h
 rw [← hg] at hb ⊢
 unfold Utf8.decode
 exact if_pos hb
theorem dec_hi (s : List UInt8) (i : Nat) (h : i < s.length) (hb : ¬ (s.getD i 0).toNat < 128) : 128 ≤ (Utf8.decode ⟨s.toArray⟩ i).1 := by
 have hg := dec_get s i h
 rw [← hg] at hb
 unfold Utf8.decode
 simp only
 rw [if_neg hb]
 have hr : 128 ≤ Utf8.runeError := by decide
 split
 ·split
  ·assumption
  ·exact hr
 ·split
  ·split
   ·rename_i h2
    simp only [Bool.and_eq_true, decide_eq_true_eq] at h2
    show 128 ≤ _
    omega
   ·exact hr
  ·split
   ·split
    ·rename_i h2
     simp only [Bool.and_eq_true, decide_eq_true_eq] at h2
     show 128 ≤ _
     omega
    ·exact hr
   ·exact hr
theorem evOp_rng {t : TypeId} (ht : E.P.underlying t = some .string) (d : Option Tmp) (t' : TypeId) (p : String) (a : Array Edge) (g : Option (Nat × Bool)) (x : Operand) :
  evOp E c ρ S ⟨d, .range t x, t', p, a, g⟩ = (match ρ x with | .str s => some (.it S.length, S ++ [.iter s 0]) | _ => none) := by
 unfold evOp
 simp only [ht]
 cases ρ x <;> rfl
end Go.Vm
set_option autoImplicit false
namespace Go.Vm
variable {E : Env} {S : Store}
def At (S : Store) (a : V) (l : List V) : Prop := a = .imm l ∨ ∃ id off cs e, a = .ref id off ∧ S[id]? = some (.cells cs e) ∧ cs.drop off = l
def Sl (S : Store) (z : Nat) (v : V) (n : Nat) (cells : List V) : Prop :=
 cells.length = n * z ∧ ((v = .slN ∧ n = 0) ∨ (v = .slI n cells) ∨ ∃ id off cap cs e, v = .slR id off n cap z ∧ n ≤ cap ∧ S[id]? = some (.cells cs e) ∧ (cs.drop off).take (n * z) = cells)
section
variable {t e : TypeId} {z n : Nat} {v a : V} {cells l : List V}
theorem At.load (h : At S a l) (hg : isAggO E t = some false) {c : V} {r : List V} (hl : l = c :: r) : opLoad E S t a = some c := by
 subst hl
 rcases h with rfl | ⟨id, off, cs, e, rfl, hS, hd⟩
 ·exact ld_imm hg c r
 ·rw [ld_ref hg, cellsOf_of hS]
  simp only [Option.bind_some]
  have : (cs.drop off)[0]? = cs[off]? := by simp [List.getElem?_drop]
  rw [← this, hd]
  rfl
theorem At.loadA (h : At S a l) (hg : isAggO E t = some true) {m : Nat} (hn : tsize E t = some m) (hl : m ≤ l.length) : opLoad E S t a = some (.agg (l.take m)) := by
 rcases h with rfl | ⟨id, off, cs, e, rfl, hS, hd⟩
 ·exact ld_agg hg hn l hl
 ·unfold opLoad
  have hl' : m ≤ cs.length - off := by rw [← List.length_drop, hd]; exact hl
  simp [hg, hn, cellsAt, cellsOf, hS, hd, tk, hl']
theorem At.more (h : At S a l) (r : Store) : At (S ++ r) a l := by
 rcases h with rfl | ⟨id, off, cs, e, rfl, hS, hd⟩
 ·exact .inl rfl
 ·exact .inr ⟨id, off, cs, e, rfl, by rw [List.getElem?_append_left (List.getElem?_eq_some_iff.1 hS).1]; exact hS, hd⟩
theorem Sl.more (h : Sl S z v n cells) (r : Store) : Sl (S ++ r) z v n cells := by
 obtain ⟨h1, h2⟩ := h
 refine ⟨h1, ?_⟩
 rcases h2 with h | h | ⟨id, off, cap, cs, e, rfl, hc, hS, hd⟩
 ·exact .inl h
 ·exact .inr (.inl h)
 ·exact .inr (.inr ⟨id, off, cap, cs, e, rfl, hc, by rw [List.getElem?_append_left (List.getElem?_eq_some_iff.1 hS).1]; exact hS, hd⟩)
theorem Sl.len (h : Sl S z v n cells) (ht : E.P.underlying t = some (.slice e)) : opLen E S t v = some (.int .i64 (n : Nat)) := by
 rcases h.2 with ⟨rfl, rfl⟩ | rfl | ⟨id, off, cap, cs, e, rfl, hc, hS, hd⟩
 ·exact len_slN ht
 ·exact len_slI ht _ _
 ·exact len_slR ht _ _ _ _ _
theorem Sl.at_ (h : Sl S z v n cells) (ht : E.P.underlying t = some (.slice e)) (hz : tsize E e = some z) (k : IntKind) (i : Nat) (hi : i < n) :
  ∃ a r, opIndexAddr E t v (.int k (i : Int)) = some a ∧ At S a (cells.drop (i * z) ++ r) := by
 rcases h.2 with ⟨rfl, rfl⟩ | rfl | ⟨id, off, cap, cs, w, rfl, hc, hS, hd⟩
 ·omega
 ·exact ⟨_, [], ia_slI ht hz _ _ _ _ hi, .inl (by simp)⟩
 ·refine ⟨_, cs.drop (off + n * z), ia_slR ht hz _ _ _ _ _ _ hi, .inr ⟨id, off + i * z, cs, w, rfl, hS, ?_⟩⟩
  rw [← hd, ← List.drop_drop]
  have e1 : cs.drop (off + n * z) = (cs.drop off).drop (n * z) := by rw [List.drop_drop]
  rw [e1]
  have h1 := List.take_append_drop (n * z) (cs.drop off)
  have hle : i * z ≤ ((cs.drop off).take (n * z)).length := by
   rw [hd, h.1]
   exact Nat.mul_le_mul_right _ (by omega)
  conv => lhs; rw [← h1]
  rw [List.drop_append_of_le_length hle]
theorem Sl.take (h : Sl S z v n cells) (ht : E.P.underlying t = some (.slice e)) (hz : tsize E e = some z) (k : IntKind) (m : Nat) (hm : m ≤ n) :
  ∃ v', opSlice E t v none (some (.int k (m : Nat))) none = some v' ∧ Sl S z v' m (cells.take (m * z)) := by
 have hmz : m * z ≤ n * z := Nat.mul_le_mul_right _ hm
 rcases h with ⟨hl, ⟨rfl, rfl⟩ | rfl | ⟨id, off, cap, cs, w, rfl, hc, hS, hd⟩⟩
 ·obtain rfl : m = 0 := by omega
  refine ⟨.slN, ?_, by simp, .inl ⟨rfl, rfl⟩⟩
  unfold opSlice
  simp [ht, hz, bnd]
 ·refine ⟨.slI m (cells.take (m * z)), ?_, by simp; omega, .inr (.inl rfl)⟩
  unfold opSlice
  simp [ht, hz, bnd, hm, hl]
 ·refine ⟨.slR id off m cap z, ?_, by simp; omega, .inr (.inr ⟨id, off, cap, cs, w, rfl, by omega, hS, ?_⟩)⟩
  ·have : m ≤ cap := by omega
   unfold opSlice
   simp [ht, hz, bnd, this]
  ·rw [← hd, List.take_take, Nat.min_eq_left hmz]
theorem Sl.drop (h : Sl S z v n cells) (ht : E.P.underlying t = some (.slice e)) (hz : tsize E e = some z) (k : IntKind) (m : Nat) (hm : m ≤ n) :
  ∃ v', opSlice E t v (some (.int k (m : Nat))) none none = some v' ∧ Sl S z v' (n - m) (cells.drop (m * z)) := by
 have hmz : m * z ≤ n * z := Nat.mul_le_mul_right _ hm
 have hsub : (n - m) * z = n * z - m * z := Nat.sub_mul ..
 rcases h with ⟨hl, ⟨rfl, rfl⟩ | rfl | ⟨id, off, cap, cs, w, rfl, hc, hS, hd⟩⟩
 ·obtain rfl : m = 0 := by omega
  refine ⟨.slN, ?_, by simpa using hl, .inl ⟨rfl, rfl⟩⟩
  unfold opSlice
  simp [ht, hz, bnd]
 ·refine ⟨.slI (n - m) (cells.drop (m * z)), ?_, by simp; omega, .inr (.inl rfl)⟩
  unfold opSlice
  simp [ht, hz, bnd, hm, hl]
  rw [List.take_of_length_le (by simp; omega)]
 ·refine ⟨.slR id (off + m * z) (n - m) (cap - m) z, ?_, by simp; omega, .inr (.inr ⟨id, off + m * z, cap - m, cs, w, rfl, by omega, hS, ?_⟩)⟩
  ·unfold opSlice
   simp [ht, hz, bnd, hc, hm]
  ·rw [← hd, ← List.drop_drop, List.drop_take, hsub]
theorem At.field (h : At S a l) {fields : Array Field} {s : TypeId} {f : Nat} {fd : Field} (hs : E.P.underlying s = some (.struct fields)) (hf : fields[f]? = some fd) {m : Nat} (hm : tsize E fd.type = some (m + 1)) :
  ∃ a', opFieldAddr E s a f = some a' ∧ At S a' (l.drop fd.offset) := by
 rcases h with rfl | ⟨id, off, cs, e, rfl, hS, hd⟩
 ·exact ⟨_, by simp [opFieldAddr, hs, hf, hm], .inl rfl⟩
 ·exact ⟨_, by simp [opFieldAddr, hs, hf, hm], .inr ⟨id, off + fd.offset, cs, e, rfl, hS, by rw [← List.drop_drop, hd]⟩⟩
end
end Go.Vm
set_option autoImplicit false
namespace Go.Vm
variable {E : Env} {S : Store}
structure ETy (E : Env) (t e : TypeId) (z b : Nat) (z0 : V) : Prop where
 ut : E.P.underlying t = some (.slice e)
 el : elemT E t = some e
 sz : tsize E e = some z
 by_ : tbytes E e = some b
 ze : zeroV E e = some z0
 so : solid z0 = true
 zl : (vcells z0).length = z
 zp : 0 < z
 zs : z ≤ 16777216
section
variable {t e : TypeId} {z b : Nat} {z0 : V}
theorem ETy.app (T : ETy E t e z b z0) {x : V} {k m p : Nat} {new cells : List V} (hx : sliceCells S x z = some (k, new)) (hs : ∀ s, x ≠ .str s) (hn : new.length = k * z) (hk : 0 < k)
  (hp : S[p]? = some (.cells cells e)) (hc : cells.length = m * z) (hb : (m + k) * b ≤ 140737488355328) (hm : m + k ≤ 140737488355328) :
  opAppend E S [t, t] (.slR p 0 m m z) x = some (.slR S.length 0 (m + k) (m + k) z, S.set p .gone ++ [.cells (cells ++ new) e]) := by
 have ha : appended S z x = some (k, new) := by
  unfold appended
  split
  ·exact absurd rfl (hs _)
  ·exact hx
 have hz := T.zp
 unfold opAppend
 simp only [T.el, T.sz, T.by_, T.ze, T.ut, Option.bind_eq_bind, Option.bind_some, ha, T.so, T.zl, hn]
 have h0 : ¬ k = 0 := by omega
 have h1 : ¬ m + k ≤ m := by omega
 have h2 : cellsAt S (.ref p 0) (m * z) = some cells := by
  simp [cellsAt, cellsOf, hp, tk, hc, List.take_of_length_le]
 have h3 : elemOf S p = some e := by simp [elemOf, hp]
 simp [hz, h0, h1, h2, h3, hb, hm]
theorem ETy.app0 (T : ETy E t e z b z0) {x : V} {k : Nat} {new : List V} (hx : sliceCells S x z = some (k, new)) (hs : ∀ s, x ≠ .str s) (hn : new.length = k * z) (hk : 0 < k) (hb : k * b ≤ 140737488355328) (hm : k ≤ 140737488355328) :
  opAppend E S [t, t] .slN x = some (.slR S.length 0 k k z, S ++ [.cells new e]) := by
 have ha : appended S z x = some (k, new) := by
  unfold appended
  split
  ·exact absurd rfl (hs _)
  ·exact hx
 have hz := T.zp
 unfold opAppend
 simp only [T.el, T.sz, T.by_, T.ze, T.ut, Option.bind_eq_bind, Option.bind_some, ha, T.so, T.zl, hn]
 have h0 : ¬ k = 0 := by omega
 simp [hz, h0, hb, hm]
theorem ETy.appN (T : ETy E t e z b z0) {x v : V} (hx : sliceCells S x z = some (0, [])) (hs : ∀ s, x ≠ .str s) (hv : (v = .slN) ∨ (∃ n cs, v = .slI n cs) ∨ ∃ p o m c z, v = .slR p o m c z) :
  opAppend E S [t, t] v x = some (v, S) := by
 have ha : appended S z x = some (0, []) := by
  unfold appended
  split
  ·exact absurd rfl (hs _)
  ·exact hx
 have hz := T.zp
 unfold opAppend
 simp only [T.el, T.sz, T.by_, T.ze, T.ut, Option.bind_eq_bind, Option.bind_some, ha, T.so, T.zl]
 rcases hv with rfl | ⟨n, cs, rfl⟩ | ⟨p, o, m, c, z, rfl⟩ <;> simp [hz]
theorem ETy.mk0 (T : ETy E t e z b z0) (S : Store) : opBuildSlice E S t 0 [] = some (.slR S.length 0 0 0 z, S ++ [.cells [] e]) := by
 unfold opBuildSlice
 simp [T.el, T.sz, T.ze, T.so, T.zl, fillV, repl]
theorem ETy.mk1 (T : ETy E t e z b z0) (S : Store) (v : V) (hv : solid v = true) (hl : (vcells v).length = z) : opBuildSlice E S t 1 [(0, v)] = some (.slR S.length 0 1 1 z, S ++ [.cells (vcells v) e]) := by
 have hzs := T.zs
 have h1 : splice (vcells z0) 0 (vcells v) = vcells v := by
  rw [splice_eq _ _ _ (by rw [hl, T.zl]; omega)]
  simp [hl, T.zl]
 unfold opBuildSlice
 simp [T.el, T.sz, T.ze, T.so, T.zl, fillV, repl, hv, hl, hzs, h1]
theorem sc_top (cs : List V) (k : Nat) (hl : cs.length = k * z) (S : Store) : sliceCells (S ++ [.cells cs e]) (.slR S.length 0 k k z) z = some (k, cs) := by
 simp [sliceCells, cellsAt, cellsOf, tk, hl, List.take_of_length_le]
end
theorem evDraw_guard {c : CallT} {fr : Fr} (ops : List Oper) (b : List Nat) (d : Option Tmp) (op : Op) (t : TypeId) (p : String) (a : Array Edge) (j : Nat) (w : Bool) (rest : List Oper) (i : Nat) (hist : List (Nat × Store)) (flts : List (Nat × Oper × Fr × V)) :
  evDraw E c ops b (⟨d, op, t, p, a, some (j, w)⟩ :: rest) i fr S hist flts =
  (match (match ops[j]? with | some q => (match q.dst with | some e => (match lget fr e with | .bool b => some (b == w) | .tup _ => some false | _ => none) | none => none) | none => none : Option Bool) with
   | some true => (match evOp E c (opnd E fr) S ⟨d, op, t, p, a, some (j, w)⟩ with
   | some (v, S') =>
    if isEff op then
     if flts.all (fun x => (b.getD i 0).testBit x.1 || (match evOp E c (opnd E x.2.2.1) S' x.2.1 with | some (u, _) => u.beq x.2.2.2 | none => false))
     then evDraw E c ops b rest (i + 1) (put fr d v) S' ((i, S) :: hist) flts
     else none
    else if isRead op then
     if hist.all (fun x => (b.getD i 0).testBit x.1 || (match evOp E c (opnd E fr) x.2 ⟨d, op, t, p, a, some (j, w)⟩ with | some (u, _) => u.beq v | none => false))
     then evDraw E c ops b rest (i + 1) (put fr d v) S' hist ((i, ⟨d, op, t, p, a, some (j, w)⟩, fr, v) :: flts)
     else none
    else evDraw E c ops b rest (i + 1) (put fr d v) S' hist flts
   | none => none)
   | some false => evDraw E c ops b rest (i + 1) (put fr d (.tup [])) S hist flts
   | none => none) := (rfl)
theorem evDrawQ_nil {c : CallT} {fr : Fr} (ops : List Oper) (b : List Nat) (fl : List Bool) (i : Nat) (hist : List (Nat × Store)) (flts : List (Nat × Oper × Fr × V)) : evDrawQ E c ops b fl [] i fr S hist flts = some (fr, S) := (rfl)
theorem evDrawQ_plain {c : CallT} {fr : Fr} (ops : List Oper) (b : List Nat) (fl : List Bool) (d : Option Tmp) (op : Op) (t : TypeId) (p : String) (a : Array Edge) (rest : List Oper) (i : Nat) (hist : List (Nat × Store)) (flts : List (Nat × Oper × Fr × V)) :
  evDrawQ E c ops b fl (⟨d, op, t, p, a, none⟩ :: rest) i fr S hist flts = (match evOp E c (opnd E fr) S ⟨d, op, t, p, a, none⟩ with
   | some (v, S') =>
    if isEff op && !(fl.getD i false) then
     if flts.all (fun x => (b.getD i 0).testBit x.1 || stillV E c x.2.2.1 S' x.2.1 x.2.2.2)
     then evDrawQ E c ops b fl rest (i + 1) (put fr d v) S' ((i, S) :: hist) flts
     else none
    else if isRead op || fl.getD i false then
     if Store.beq S' S && hist.all (fun x => (b.getD i 0).testBit x.1 || stillV E c fr x.2 ⟨d, op, t, p, a, none⟩ v)
     then evDrawQ E c ops b fl rest (i + 1) (put fr d v) S hist ((i, ⟨d, op, t, p, a, none⟩, fr, v) :: flts)
     else none
    else evDrawQ E c ops b fl rest (i + 1) (put fr d v) S' hist flts
   | none => none) := (rfl)
def PEnds (E : Env) (f : FuncId) (fn : Func) (S : Store) (P : V × Store → Prop) (x : Ex) (fr' : Fr) (S' : Store) : Prop := ∃ r, P r ∧ FnEnds E f fn S r x fr' S'
theorem fn_wsP {f : FuncId} {fn : Func} {c : Code} {args : List V} {P : V × Store → Prop} (hf : E.P.funcs[f]? = some fn) (hb : fn.body = some c) (h : WS E [.code c] args S (PEnds E f fn S P)) (hd : E.defs f = false := by rfl) : ∃ r, P r ∧ vrun E (.fn f) args S = some r := by
 obtain ⟨x, fr', S', ⟨r, hP, hF⟩, ev⟩ := W.of_ws h
 exact ⟨r, hP, vrun_fn hf hb ⟨x, fr', S', hF, ev⟩ hd⟩
variable {k : List Todo} {fr : Fr}
theorem WS.ret1P {f : FuncId} {fn : Func} {t : Nat} {v v' : V} {S' : Store} {P : V × Store → Prop} (hr : fn.results.toList = [.tmp t]) (hk : E.keep f = false) (hv : lget fr t = v) (hp : S <+: S') (hf : frz 6 S.length S' v = some v') (hP : P (v', S)) : WS E (.code .ret :: k) fr S' (PEnds E f fn S P) := by
 refine WS.ret ⟨_, hP, .inr rfl, [v], ?_, ?_⟩
 ·rw [hr]
  simp only [resultV, hv, Option.map_some]
 ·rw [hk]
  exact freezeRet_pre hp hf
end Go.Vm
set_option autoImplicit false
namespace Go.Vm
section
variable {E : Env} {c : CallT} {ρ : Operand → V} {S : Store} {d : Option Tmp} {t : TypeId} {p : String} {a : Array Edge} {g : Option (Nat × Bool)}
theorem evOp_nilCheckR (x : Operand) : evOp E c ρ S ⟨d, .nilCheck x, t, p, a, g⟩ = (match ρ x with | .ref a b => some (.ref a b, S) | .imm c => some (.imm c, S) | .fn (.func f) a b => some (.fn (.func f) a b, S) | .yld i => some (.yld i, S) | _ => none) := rfl
theorem evOp_capR (x : Operand) (u : TypeId) : evOp E c ρ S ⟨d, .call ⟨.builtin .cap, #[x], #[u]⟩, t, p, a, g⟩ = (opCap E u (ρ x)).map (·, S) := rfl
theorem evOp_usdR (x : Operand) (ts : Array TypeId) : evOp E c ρ S ⟨d, .call ⟨.builtin .unsafeSliceData, #[x], ts⟩, t, p, a, g⟩ = (opSliceData (ρ x)).map (·, S) := rfl
theorem evOp_usR (x y : Operand) (ts : Array TypeId) : evOp E c ρ S ⟨d, .call ⟨.builtin .unsafeString, #[x, y], ts⟩, t, p, a, g⟩ = opUnsafeString E S ts.toList (ρ x) (ρ y) := rfl
end
def EV2x := And.intro @evOp_nilCheckR <| And.intro @evOp_capR <| And.intro @evOp_usdR <| @evOp_usR
theorem EV2 : type_of% EV2x := EV2x
end Go.Vm
set_option autoImplicit false
namespace Go.Vm
variable {E : Env} {S S' : Store} {fr : Fr} {k : List Todo} {Q : Ex → Fr → Store → Prop}
theorem W.rangeFunc {g : Operand} {ps : Array Tmp} {asg body : Code} {f : FuncId} {first captured : List V} {fn : Func} {v : V} {key : Nat} {f' : List V} (hg : opnd E fr g = .fn (.func f) first captured) (hf : E.P.funcs[f]? = some fn) (hn : (fn.name == "runtime.NumGoroutine" || fn.body.isNone) = false)
  (hc : vrun E (.fn f) (first ++ [.yld S.length] ++ captured) (S ++ [.lp false (Vm.keyOf body) fr]) = some (v, S')) (hl : S'[S.length]? = some (.lp false key f')) (hQ : Q .normal fr (S'.set S.length .gone)) : W E (.rangeFunc g ps asg body) fr S Q := by
 refine ⟨_, _, _, hQ, .of fun n => ?_⟩
 simp only [evCode, hg, hf, hn, Bool.false_eq_true, if_false, hc, hl]
theorem WS.rangeFunc {g : Operand} {ps : Array Tmp} {asg body : Code} {f : FuncId} {first captured : List V} {fn : Func} {v : V} {key : Nat} {f' : List V} (hg : opnd E fr g = .fn (.func f) first captured) (hf : E.P.funcs[f]? = some fn) (hn : (fn.name == "runtime.NumGoroutine" || fn.body.isNone) = false)
  (hc : vrun E (.fn f) (first ++ [.yld S.length] ++ captured) (S ++ [.lp false (Vm.keyOf body) fr]) = some (v, S')) (hl : S'[S.length]? = some (.lp false key f')) (h : WS E k fr (S'.set S.length .gone) Q) : WS E (.code (.rangeFunc g ps asg body) :: k) fr S Q :=
 ⟨W.rangeFunc hg hf hn hc hl h.out⟩
end Go.Vm
set_option autoImplicit false
namespace Go.Vm
variable {E : Env} {S : Store}
def flatV : V → Bool
 | .bool _ | .int _ _ | .str _ | .slN | .slI _ _ | .imm _ | .nilp | .nilf | .nili => true
 | _ => false
theorem flatV.frzIn {v : V} (h : flatV v = true) (d n : Nat) (S : Store) : frzIn (d + 1) n S v = some v := by
 cases v <;> first | rfl | (simp [flatV] at h)
theorem flatV.frz {v : V} (h : flatV v = true) (d n : Nat) (S : Store) : frz (d + 1) n S v = some v := by
 cases v <;> first | rfl | (simp [flatV] at h)
theorem flatV.solid {v : V} (h : flatV v = true) : solid v = true := by
 cases v <;> first | rfl | (simp [flatV] at h)
theorem flatV.vcells {v : V} (h : flatV v = true) : vcells v = [v] := by
 cases v <;> first | rfl | (simp [flatV] at h)
theorem frzIn_flat {cs : List V} (h : ∀ c ∈ cs, flatV c = true) (d n : Nat) (S : Store) : cs.mapM (frzIn (d + 1) n S) = some cs := by
 induction cs with
 | nil => rfl
 | cons c r ih =>
  rw [List.mapM_cons, flatV.frzIn (h c (by simp)), ih fun x hx => h x (by simp [hx])]
  rfl
section
variable {α β : Type} {z : Nat} {R : List V → α → Prop}
def Cs (z : Nat) (R : List V → α → Prop) : List V → List α → Prop
 | cs, [] => cs = []
 | cs, a :: l => ∃ c r, cs = c ++ r ∧ c.length = z ∧ R c a ∧ Cs z R r l
theorem Cs.len : ∀ {l : List α} {cs : List V}, Cs z R cs l → cs.length = l.length * z
 | [], cs, h => by simp [show cs = [] from h]
 | a :: l, cs, ⟨c, r, e, hc, _, hr⟩ => by subst e; rw [List.length_append, hc, Cs.len hr, List.length_cons, Nat.add_mul, Nat.one_mul, Nat.add_comm]
theorem Cs.at_ : ∀ {l : List α} {cs : List V}, Cs z R cs l → ∀ (i : Nat) (hi : i < l.length), ∃ c r, cs.drop (i * z) = c ++ r ∧ c.length = z ∧ R c l[i]
 | a :: l, cs, ⟨c, r, e, hc, ha, hr⟩, 0, _ => ⟨c, r, by simp [e], hc, ha⟩
 | a :: l, cs, ⟨c, r, e, hc, ha, hr⟩, i + 1, hi => by
  obtain ⟨c', r', h1, h2, h3⟩ := Cs.at_ hr i (by simpa using hi)
  refine ⟨c', r', ?_, h2, by simpa using h3⟩
  rw [e, Nat.add_mul, Nat.one_mul, Nat.add_comm, ← List.drop_drop, ← hc, List.drop_left, hc, h1]
theorem Cs.append : ∀ {l m : List α} {cs ds : List V}, Cs z R cs l → Cs z R ds m → Cs z R (cs ++ ds) (l ++ m)
 | [], m, cs, ds, h, g => by rw [show cs = [] from h]; exact g
 | a :: l, m, cs, ds, ⟨c, r, e, hc, ha, hr⟩, g => ⟨c, r ++ ds, by rw [e, List.append_assoc], hc, ha, Cs.append hr g⟩
theorem Cs.one {c : List V} {a : α} (hc : c.length = z) (h : R c a) : Cs z R c [a] := ⟨c, [], by simp, hc, h, rfl⟩
theorem Cs.mono {R' : List V → α → Prop} (hR : ∀ c a, R c a → R' c a) : ∀ {l : List α} {cs : List V}, Cs z R cs l → Cs z R' cs l
 | [], cs, h => h
 | a :: l, cs, ⟨c, r, e, hc, ha, hr⟩ => ⟨c, r, e, hc, hR _ _ ha, Cs.mono hR hr⟩
theorem Cs.map {R' : List V → β → Prop} {f : α → β} (hR : ∀ c a, R c a → R' c (f a)) : ∀ {l : List α} {cs : List V}, Cs z R cs l → Cs z R' cs (l.map f)
 | [], cs, h => h
 | a :: l, cs, ⟨c, r, e, hc, ha, hr⟩ => ⟨c, r, e, hc, hR _ _ ha, Cs.map hR hr⟩
theorem Cs.drop : ∀ {l : List α} {cs : List V}, Cs z R cs l → ∀ m, Cs z R (cs.drop (m * z)) (l.drop m)
 | l, cs, h, 0 => by simpa using h
 | [], cs, h, m + 1 => by rw [show cs = [] from h]; simp [Cs]
 | a :: l, cs, ⟨c, r, e, hc, ha, hr⟩, m + 1 => by
  have := Cs.drop hr m
  rw [e, Nat.add_mul, Nat.one_mul, Nat.add_comm, ← List.drop_drop, ← hc, List.drop_left, hc]
  simpa using this
theorem Cs.take : ∀ {l : List α} {cs : List V}, Cs z R cs l → ∀ m, m ≤ l.length → Cs z R (cs.take (m * z)) (l.take m)
 | l, cs, h, 0, _ => by simp [Cs]
 | [], cs, h, m + 1, hm => by simp at hm
 | a :: l, cs, ⟨c, r, e, hc, ha, hr⟩, m + 1, hm => by
  have := Cs.take hr m (by simpa using hm)
  refine ⟨c, r.take (m * z), ?_, hc, ha, this⟩
  rw [e, Nat.add_mul, Nat.one_mul, Nat.add_comm, ← hc]
  simp [List.take_append]
  exact List.take_of_length_le (by omega)
theorem Cs.set {l : List α} {cs : List V} (h : Cs z R cs l) {i : Nat} (hi : i < l.length) {c : List V} {a : α} (hc : c.length = z) (ha : R c a) : Cs z R (splice cs (i * z) c) (l.set i a) := by
 have hl := h.len
 have hle : i * z + z ≤ cs.length := by rw [hl, ← Nat.succ_mul]; exact Nat.mul_le_mul_right _ hi
 rw [splice_eq _ _ _ (by omega), List.set_eq_take_append_cons_drop, if_pos hi, hc, show i * z + z = (i + 1) * z by rw [Nat.succ_mul], List.append_assoc]
 exact Cs.append (Cs.take h i (by omega)) (Cs.append (l := [a]) (Cs.one hc ha) (Cs.drop h (i + 1)))
theorem Cs.flat {l : List α} {cs : List V} (hf : ∀ c a, R c a → ∀ x ∈ c, flatV x = true) : Cs z R cs l → ∀ x ∈ cs, flatV x = true := by
 induction l generalizing cs with
 | nil => intro h; rw [show cs = [] from h]; simp
 | cons a l ih =>
  rintro ⟨c, r, rfl, hc, ha, hr⟩ x hx
  rcases List.mem_append.1 hx with h | h
  ·exact hf _ _ ha x h
  ·exact ih hr x h
def Arr (z : Nat) (R : List V → α → Prop) (S : Store) (v : V) (l : List α) : Prop := ∃ cs, Cs z R cs l ∧ Sl S z v l.length cs
def PArr (z : Nat) (R : List V → α → Prop) (v : V) (l : List α) : Prop := ∃ cs, Cs z R cs l ∧ ((v = .slN ∧ l = []) ∨ v = .slI l.length cs)
theorem PArr.arr {v : V} {l : List α} (h : PArr z R v l) (S : Store) : Arr z R S v l := by
 obtain ⟨cs, h1, h2⟩ := h
 refine ⟨cs, h1, h1.len, ?_⟩
 rcases h2 with ⟨rfl, rfl⟩ | rfl
 ·exact .inl ⟨rfl, rfl⟩
 ·exact .inr (.inl rfl)
theorem PArr.flat {v : V} {l : List α} (h : PArr z R v l) : flatV v = true := by
 obtain ⟨cs, h1, ⟨rfl, _⟩ | rfl⟩ := h <;> rfl
theorem PArr.nil : PArr z R .slN ([] : List α) := ⟨[], rfl, .inl ⟨rfl, rfl⟩⟩
theorem PArr.mono {R' : List V → α → Prop} (hR : ∀ c a, R c a → R' c a) {v : V} {l : List α} (h : PArr z R v l) : PArr z R' v l := by
 obtain ⟨cs, h1, h2⟩ := h
 exact ⟨cs, h1.mono hR, h2⟩
theorem Arr.pre {U : Store} (h : S <+: U) {v : V} {l : List α} (ha : Arr z R S v l) : Arr z R U v l := by
 obtain ⟨X, rfl⟩ := h
 obtain ⟨cs, h1, h2⟩ := ha
 exact ⟨cs, h1, h2.more X⟩
theorem Arr.len {t e : TypeId} {v : V} {l : List α} (h : Arr z R S v l) (ht : E.P.underlying t = some (.slice e)) : opLen E S t v = some (.int .i64 (l.length : Nat)) := by
 obtain ⟨cs, h1, h2⟩ := h
 exact h2.len ht
theorem Arr.at_ {t e : TypeId} {v : V} {l : List α} (h : Arr z R S v l) (ht : E.P.underlying t = some (.slice e)) (hz : tsize E e = some z) (i : Nat) (hi : i < l.length) :
  ∃ a c r, opIndexAddr E t v (.int .i64 (i : Int)) = some a ∧ At S a (c ++ r) ∧ c.length = z ∧ R c l[i] := by
 obtain ⟨cs, h1, h2⟩ := h
 obtain ⟨a, r, ha, hA⟩ := h2.at_ ht hz .i64 i hi
 obtain ⟨c, r', e1, e2, e3⟩ := h1.at_ i hi
 exact ⟨a, c, r' ++ r, ha, by rw [e1, List.append_assoc] at hA; exact hA, e2, e3⟩
theorem Arr.ldA {t e : TypeId} {v : V} {l : List α} (h : Arr z R S v l) (ht : E.P.underlying t = some (.slice e)) (hz : tsize E e = some z) (hg : isAggO E e = some true) (i : Nat) (hi : i < l.length) :
  ∃ a c, opIndexAddr E t v (.int .i64 (i : Int)) = some a ∧ opLoad E S e a = some (.agg c) ∧ c.length = z ∧ R c l[i] := by
 obtain ⟨a, c, r, h1, h2, h3, h4⟩ := h.at_ ht hz i hi
 have := h2.loadA hg hz (by simp; omega)
 rw [← h3, List.take_left] at this
 exact ⟨a, c, h1, this, h3, h4⟩
theorem Arr.ld1 {t e : TypeId} {v : V} {l : List α} (h : Arr 1 R S v l) (ht : E.P.underlying t = some (.slice e)) (hz : tsize E e = some 1) (hg : isAggO E e = some false) (i : Nat) (hi : i < l.length) :
  ∃ a x, opIndexAddr E t v (.int .i64 (i : Int)) = some a ∧ opLoad E S e a = some x ∧ R [x] l[i] := by
 obtain ⟨a, c, r, h1, h2, h3, h4⟩ := h.at_ ht hz i hi
 obtain ⟨x, rfl⟩ := List.length_eq_one_iff.1 h3
 exact ⟨a, x, h1, h2.load hg rfl, h4⟩
def Lst (n0 : Nat) (e : TypeId) (z : Nat) (R : List V → α → Prop) (T : Store) (v : V) (l : List α) : Prop :=
 (l = [] ∧ v = .slN) ∨ ∃ p cs, n0 ≤ p ∧ v = .slR p 0 l.length l.length z ∧ T[p]? = some (.cells cs e) ∧ Cs z R cs l
theorem Lst.nil (n0 : Nat) (e : TypeId) (z : Nat) (R : List V → α → Prop) (T : Store) : Lst n0 e z R T .slN [] := .inl ⟨rfl, rfl⟩
variable {n0 : Nat} {e : TypeId} {T : Store} {v : V} {l : List α}
theorem Lst.arr (h : Lst n0 e z R T v l) : Arr z R T v l := by
 rcases h with ⟨rfl, rfl⟩ | ⟨p, cs, h1, rfl, h2, h3⟩
 ·exact ⟨[], rfl, by simp, .inl ⟨rfl, rfl⟩⟩
 ·exact ⟨cs, h3, h3.len, .inr (.inr ⟨p, 0, l.length, _, e, rfl, Nat.le_refl _, h2, by rw [List.drop_zero, List.take_of_length_le (by rw [h3.len]; exact Nat.le_refl _)]⟩)⟩
theorem get_pre {U : Store} (h : S <+: U) {p : Nat} {o : Ob} (hp : S[p]? = some o) : U[p]? = some o := by
 obtain ⟨X, rfl⟩ := h
 rw [List.getElem?_append_left (List.getElem?_eq_some_iff.1 hp).1]; exact hp
theorem Lst.pre {U : Store} (hp : T <+: U) (h : Lst n0 e z R T v l) : Lst n0 e z R U v l := by
 rcases h with h | ⟨p, cs, h1, h2, h3, h4⟩
 ·exact .inl h
 ·exact .inr ⟨p, cs, h1, h2, get_pre hp h3, h4⟩
theorem Lst.more (h : Lst n0 e z R T v l) (L : Store) : Lst n0 e z R (T ++ L) v l := h.pre ⟨L, rfl⟩
theorem Lst.low {U : Store} {n : Nat} (hl : Low n T U) (hn : T.length ≤ n) (h : Lst n0 e z R T v l) : Lst n0 e z R U v l := by
 rcases h with h | ⟨p, cs, h1, h2, h3, h4⟩
 ·exact .inl h
 ·exact .inr ⟨p, cs, h1, h2, by rw [hl.2 p (by have := (List.getElem?_eq_some_iff.1 h3).1; omega)]; exact h3, h4⟩
def ofC (v : V) (c : List V) : Prop := solid v = true ∧ vcells v = c
theorem ofC.agg (c : List V) : ofC (.agg c) c := ⟨rfl, rfl⟩
theorem ofC.flat {v : V} (h : flatV v = true) : ofC v [v] := ⟨flatV.solid h, flatV.vcells h⟩
theorem Lst.put {t : TypeId} {b : Nat} {z0 : V} (ty : ETy E t e z b z0) (h : Lst n0 e z R T v l) (hn : n0 ≤ T.length) {x : V} {c : List V} {a : α} (hx : ofC x c) (hc : c.length = z) (ha : R c a) (hl : (l.length + 1) * b ≤ 140737488355328) (hl' : l.length + 1 ≤ 140737488355328) :
  ∃ v' T2, opBuildSlice E T t 1 [(0, x)] = some (.slR T.length 0 1 1 z, T ++ [Ob.cells c e]) ∧ opAppend E (T ++ [Ob.cells c e]) [t, t] v (.slR T.length 0 1 1 z) = some (v', T2) ∧ Lst n0 e z R T2 v' (l ++ [a]) ∧ Low n0 T T2 := by
 obtain ⟨hx1, hx2⟩ := hx
 have hmk : opBuildSlice E T t 1 [(0, x)] = some (.slR T.length 0 1 1 z, T ++ [Ob.cells c e]) := by
  rw [← hx2]; exact ty.mk1 T x hx1 (by rw [hx2, hc])
 have hsc := sc_top c 1 (z := z) (by omega) T (e := e)
 rcases h with ⟨rfl, rfl⟩ | ⟨p, cs, p1, rfl, p2, p3⟩
 ·have happ := ty.app0 hsc (fun s => by simp) (by omega) (by omega) (by simpa using hl) (by simpa using hl')
  exact ⟨_, _, hmk, happ, .inr ⟨T.length + 1, c, by omega, by simp, by simp, Cs.one hc ha⟩, (Low.app hn _).trans (Low.app (by simp; omega) _)⟩
 ·have happ := ty.app (m := l.length) hsc (fun s => by simp) (by omega) (by omega) (get_pre (List.prefix_append T _) p2) p3.len hl hl'
  exact ⟨_, _, hmk, happ, .inr ⟨T.length + 1, cs ++ c, by omega, by simp, by simp, p3.append (Cs.one hc ha)⟩, (Low.app hn _).trans ((Low.set (by simp; omega) p1).trans (Low.app (by simp; omega) _))⟩
theorem frzIn_slR {d n0 p k z : Nat} {T : Store} {cs : List V} {e : TypeId} (h1 : ¬ p < n0) (h2 : T[p]? = some (.cells cs e)) (hl : cs.length = k * z) (hf : ∀ x ∈ cs, flatV x = true) : frzIn (d + 2) n0 T (.slR p 0 k k z) = some (.slI k cs) := by
 have h3 : cellsAt T (.ref p 0) (k * z) = some cs := by
  simp [cellsAt, cellsOf, h2, tk, hl, List.take_of_length_le]
 rw [frzIn, if_neg h1, h3]
 simp only [Option.bind_eq_bind, Option.bind_some, frzIn_flat hf d n0 T]
theorem Lst.done (hf : ∀ c a, R c a → ∀ x ∈ c, flatV x = true) (h : Lst n0 e z R T v l) (d : Nat) : ∃ w, frz (d + 1) n0 T v = some w ∧ PArr z R w l := by
 rcases h with ⟨rfl, rfl⟩ | ⟨p, cs, p1, rfl, p2, p3⟩
 ·exact ⟨.slN, rfl, PArr.nil⟩
 ·refine ⟨.slI l.length cs, ?_, cs, p3, .inr rfl⟩
  rw [frz, if_neg (by omega)]
  exact frzIn_slR (d := 10) (by omega) p2 p3.len (p3.flat hf)
theorem Lst.set (h : Lst n0 e z R T v l) {i : Nat} (hi : i < l.length) {t : TypeId} (ht : E.P.underlying t = some (.slice e)) (hz : tsize E e = some z) {x : V} {c : List V} {a : α} (hc : c.length = z) (ha : R c a) :
  ∃ p cs, opIndexAddr E t v (.int .i64 (i : Int)) = some (.ref p (i * z)) ∧ n0 ≤ p ∧ putAt T (.ref p (i * z)) c = some (T.set p (.cells (splice cs (i * z) c) e)) ∧ Lst n0 e z R (T.set p (.cells (splice cs (i * z) c) e)) v (l.set i a) := by
 rcases h with ⟨rfl, rfl⟩ | ⟨p, cs, p1, rfl, p2, p3⟩
 ·simp at hi
 ·have hp := (List.getElem?_eq_some_iff.1 p2).1
  have hle : i * z + z ≤ cs.length := by rw [p3.len, ← Nat.succ_mul]; exact Nat.mul_le_mul_right _ hi
  refine ⟨p, cs, ?_, p1, ?_, .inr ⟨p, _, p1, by simp, by simp [hp], p3.set hi hc ha⟩⟩
  ·rw [ia_slR ht hz _ _ _ _ _ _ hi, Nat.zero_add]
  ·simp [putAt, cellsOf, elemOf, p2, hc, hle]
end
def mpC (m : List (List UInt8 × Int)) : List (V × V) := m.map fun p => (.str p.1, .int .i64 p.2)
def mget (m : List (List UInt8 × Int)) (k : List UInt8) : Option Int := (m.find? fun p => k == p.1).map (·.2)
def mput (m : List (List UInt8 × Int)) (k : List UInt8) (v : Int) : List (List UInt8 × Int) :=
 match m with
 | [] => [(k, v)]
 | p :: r => if k == p.1 then (k, v) :: r else p :: mput r k v
theorem mpFind_C (k : List UInt8) : ∀ m, mpFind .string (.str k) (mpC m) = some ((mget m k).map (V.int .i64 ·))
 | [] => rfl
 | p :: r => by
  have ih := mpFind_C k r
  simp only [mpC, List.map_cons, mpFind, keyEq] at ih ⊢
  cases h : k == p.1 with
  | true => simp [mget, h]
  | false => simp only [mget, List.find?_cons, h] at ih ⊢; exact ih
theorem mpPut_C (k : List UInt8) (v : Int) : ∀ m, mpPut .string (.str k) (.int .i64 v) (mpC m) = some (mpC (mput m k v))
 | [] => rfl
 | p :: r => by
  have ih := mpPut_C k v r
  simp only [mpC, List.map_cons, mpPut, keyEq] at ih ⊢
  cases h : k == p.1 with
  | true => simp [mput, h]
  | false => simp [ih, mput, h]
theorem mget_put (k k' : List UInt8) (v : Int) : ∀ m, mget (mput m k v) k' = if k' = k then some v else mget m k'
 | [] => by
  by_cases h : k' = k <;> simp [mput, mget, h]
 | p :: r => by
  have ih := mget_put k k' v r
  by_cases h : k = p.1
  ·subst h
   by_cases h' : k' = p.1
   ·simp [mput, mget, h']
   ·simp [mput, mget, List.find?_cons, h', show (k' == p.1) = false by simpa using h']
  ·simp only [mput, show (k == p.1) = false by simpa using h, Bool.false_eq_true, if_false]
   by_cases h' : k' = p.1
   ·have h2 : k' ≠ k := fun e => h (e ▸ h')
    simp [mget, List.find?_cons, h', show ¬ p.1 = k from fun e => h e.symm]
   ·simp only [mget, List.find?_cons, show (k' == p.1) = false by simpa using h'] at ih ⊢
    exact ih
theorem map_get {t kt vt : TypeId} (ht : E.P.underlying t = some (.map kt vt)) (hk : E.P.underlying kt = some .string) (hv : zeroV E vt = some (.int .i64 0)) {id : Nat} {m : List (List UInt8 × Int)} (h : S[id]? = some (.mp (mpC m))) (k : List UInt8) :
  opLookup E S t (.mapR id) (.str k) true = some (.tup [.int .i64 ((mget m k).getD 0), .bool (mget m k).isSome]) ∧ opLookup E S t (.mapR id) (.str k) false = some (.int .i64 ((mget m k).getD 0)) := by
 have h1 := mpFind_C k m
 unfold opLookup
 rw [ht]
 simp only [hk, Option.bind_eq_bind, Option.bind_some, keyKind, if_true, mapEntries, h, h1]
 cases mget m k <;> simp [hv]
theorem map_put {t kt vt : TypeId} (ht : E.P.underlying t = some (.map kt vt)) (hk : E.P.underlying kt = some .string) {id : Nat} {m : List (List UInt8 × Int)} (h : S[id]? = some (.mp (mpC m))) (k : List UInt8) (v : Int) :
  opMapUpdate E S t (.mapR id) (.str k) (.int .i64 v) = some (S.set id (.mp (mpC (mput m k v)))) := by
 have h1 := mpPut_C k v m
 unfold opMapUpdate
 rw [ht]
 simp [hk, keyKind, mapEntries, h, h1]
end Go.Vm
set_option autoImplicit false
namespace Go.Vm
variable {E : Env} {S : Store} {t : TypeId}
theorem var_al {zs : List V} (hz : zeroV E t = some (.agg zs)) (U : Store) : opAlloc E U t = some (.ref U.length 0, U ++ [.cells zs t]) := by
 unfold opAlloc
 rw [hz]
 rfl
theorem var_al1 {z : V} (hz : zeroV E t = some z) (hf : flatV z = true) (U : Store) : opAlloc E U t = some (.ref U.length 0, U ++ [.cells [z] t]) := by
 unfold opAlloc
 simp [hz, hf, flatV.solid, flatV.vcells]
theorem var_st {n : Nat} (hn : tsize E t = some n) (U : Store) {zs xs : List V} {e : TypeId} (h1 : zs.length = n) (h2 : xs.length = n) : opStore E (U ++ [.cells zs e]) t (.ref U.length 0) (.agg xs) = some (U ++ [.cells xs e]) := by
 unfold opStore
 have : splice zs 0 xs = xs := by
  rw [splice_eq _ _ _ (by omega), h2, ← h1, Nat.zero_add, List.drop_length]
  simp
 simp [hn, solid, vcells, h2, putAt, cellsOf, Vm.elemOf, h1, this]
theorem var_ld {n p : Nat} (hg : isAggO E t = some true) (hn : tsize E t = some n) {xs : List V} {e : TypeId} (hS : S[p]? = some (.cells xs e)) (hl : xs.length = n) : opLoad E S t (.ref p 0) = some (.agg xs) := by
 have := At.loadA (E := E) (t := t) (S := S) (a := .ref p 0) (l := xs) (.inr ⟨p, 0, xs, e, rfl, hS, rfl⟩) hg hn (by omega)
 rw [← hl, List.take_length] at this
 exact this
theorem var_ld1 {p o : Nat} (hg : isAggO E t = some false) {cs : List V} {e : TypeId} (hS : S[p]? = some (.cells cs e)) {x : V} (hx : cs[o]? = some x) : opLoad E S t (.ref p o) = some x := by
 rw [ld_ref hg, cellsOf_of hS, Option.bind_some, hx]
theorem var_set {n p : Nat} (hn : tsize E t = some n) {zs xs : List V} {e : TypeId} (hS : S[p]? = some (.cells zs e)) (h1 : zs.length = n) (h2 : xs.length = n) : opStore E S t (.ref p 0) (.agg xs) = some (S.set p (.cells xs e)) := by
 unfold opStore
 have : splice zs 0 xs = xs := by
  rw [splice_eq _ _ _ (by omega), h2, ← h1, Nat.zero_add, List.drop_length]
  simp
 simp [hn, solid, vcells, h2, putAt, cellsOf, Vm.elemOf, hS, h1, this]
theorem var_set1 {p o : Nat} (hn : tsize E t = some 1) {cs : List V} {e : TypeId} (hS : S[p]? = some (.cells cs e)) (ho : o < cs.length) {x : V} (hs : solid x = true) (hv : vcells x = [x]) : opStore E S t (.ref p o) x = some (S.set p (.cells (cs.set o x) e)) := by
 unfold opStore
 simp [hn, hs, hv, putAt, cellsOf, Vm.elemOf, hS, splice]
 omega
theorem Sl.cellsOf_ {z n : Nat} {v : V} {cells : List V} (h : Sl S z v n cells) : sliceCells S v z = some (n, cells) := by
 obtain ⟨hl, ⟨rfl, rfl⟩ | rfl | ⟨id, off, cap, cs, e, rfl, hc, hS, hd⟩⟩ := h
 ·have : cells = [] := List.eq_nil_of_length_eq_zero (by simpa using hl)
  subst this; rfl
 ·simp [sliceCells, hl]
 ·have hle : n * z ≤ (cs.drop off).length := by
   have := congrArg List.length hd
   rw [List.length_take, hl] at this
   omega
  have hle' : n * z ≤ cs.length - off := by simpa using hle
  simp [sliceCells, cellsAt, cellsOf, hS, tk, hle', hd]
section
variable {α : Type} {z : Nat} {R : List V → α → Prop} {n0 : Nat} {e : TypeId} {T : Store} {v : V} {l : List α}
theorem Arr.take {t : TypeId} (h : Arr z R S v l) (ht : E.P.underlying t = some (.slice e)) (hz : tsize E e = some z) (m : Nat) (hm : m ≤ l.length) :
  ∃ v', opSlice E t v none (some (.int .i64 (m : Nat))) none = some v' ∧ Arr z R S v' (l.take m) := by
 obtain ⟨cs, h1, h2⟩ := h
 obtain ⟨v', e1, e2⟩ := h2.take (E := E) ht hz .i64 m hm
 exact ⟨v', e1, _, h1.take m hm, by rw [List.length_take, Nat.min_eq_left hm]; exact e2⟩
theorem Arr.drop {t : TypeId} (h : Arr z R S v l) (ht : E.P.underlying t = some (.slice e)) (hz : tsize E e = some z) (m : Nat) (hm : m ≤ l.length) :
  ∃ v', opSlice E t v (some (.int .i64 (m : Nat))) none none = some v' ∧ Arr z R S v' (l.drop m) := by
 obtain ⟨cs, h1, h2⟩ := h
 obtain ⟨v', e1, e2⟩ := h2.drop (E := E) ht hz .i64 m hm
 exact ⟨v', e1, _, h1.drop m, by rw [List.length_drop]; exact e2⟩
theorem Arr.low {α : Type} {z : Nat} {R : List V → α → Prop} {S U : Store} {v : V} {l : List α} (h : Arr z R S v l) (hl : Low S.length S U) : Arr z R U v l := h.pre hl.pre
theorem Arr.notStr (h : Arr z R S v l) : ∀ s, v ≠ .str s := by
 obtain ⟨cs, h1, _, ⟨rfl, _⟩ | rfl | ⟨_, _, _, _, _, rfl, _⟩⟩ := h <;> intro s h <;> cases h
theorem Lst.app {t : TypeId} {b : Nat} {z0 : V} (ty : ETy E t e z b z0) (h : Lst n0 e z R T v l) (hn : n0 ≤ T.length) {x : V} {m : List α} (hx : Arr z R T x m) (hl : (l.length + m.length) * b ≤ 140737488355328) (hl' : l.length + m.length ≤ 140737488355328) :
  ∃ v' T2, opAppend E T [t, t] v x = some (v', T2) ∧ Lst n0 e z R T2 v' (l ++ m) ∧ Low n0 T T2 := by
 have hs := hx.notStr
 obtain ⟨cs, h1, h2⟩ := hx
 have hsc := h2.cellsOf_
 by_cases hm : m = []
 ·subst hm
  have : cs = [] := h1
  subst this
  refine ⟨v, T, ty.appN hsc hs ?_, by simpa using h, Low.refl hn⟩
  rcases h with ⟨_, rfl⟩ | ⟨p, cs, _, rfl, _⟩
  ·exact .inl rfl
  ·exact .inr (.inr ⟨_, _, _, _, _, rfl⟩)
 ·have hm' := List.length_pos_iff.2 hm
  rcases h with ⟨rfl, rfl⟩ | ⟨p, ds, p1, rfl, p2, p3⟩
  ·have happ := ty.app0 hsc hs h1.len hm' (by simpa using hl) (by simpa using hl')
   exact ⟨_, _, happ, .inr ⟨T.length, cs, hn, by simp, by simp, by simpa using h1⟩, Low.app hn _⟩
  ·have happ := ty.app (m := l.length) hsc hs h1.len hm' p2 p3.len hl hl'
   exact ⟨_, _, happ, .inr ⟨T.length, ds ++ cs, hn, by simp, by simp, p3.append h1⟩, (Low.set hn p1).trans (Low.app (by simp; omega) _)⟩
theorem Lst.mk0 {t : TypeId} {b : Nat} {z0 : V} (ty : ETy E t e z b z0) (R : List V → α → Prop) (hn : n0 ≤ T.length) : opBuildSlice E T t 0 [] = some (.slR T.length 0 0 0 z, T ++ [.cells [] e]) ∧ Lst n0 e z R (T ++ [.cells [] e]) (.slR T.length 0 0 0 z) [] ∧ Low n0 T (T ++ [.cells [] e]) :=
 ⟨ty.mk0 T, .inr ⟨T.length, [], hn, rfl, by simp, rfl⟩, Low.app hn _⟩
end
section
variable {c : CallT} {ρ : Operand → V} {d : Option Tmp} {u : TypeId} {p : String} {a : Array Edge} {g : Option (Nat × Bool)}
theorem evOp_lookup (m k : Operand) (b : Bool) (t : TypeId) : evOp E c ρ S ⟨d, .lookup t m k b, u, p, a, g⟩ = (opLookup E S t (ρ m) (ρ k) b).map (·, S) := (rfl)
theorem evOp_mapUpdate (m k v : Operand) (t : TypeId) : evOp E c ρ S ⟨d, .mapUpdate t m k v, u, p, a, g⟩ = (opMapUpdate E S t (ρ m) (ρ k) (ρ v)).map (.tup [], ·) := (rfl)
theorem evOp_makeMap (t : TypeId) : evOp E c ρ S ⟨d, .makeMap t none, u, p, a, g⟩ = some (.mapR S.length, S ++ [.mp []]) := (rfl)
end
def EV3x := And.intro @evOp_lookup <| And.intro @evOp_mapUpdate <| @evOp_makeMap
theorem EV3 : type_of% EV3x := EV3x
theorem vrun_ylP {id : Nat} {args : List V} {key : Nat} {fr : Fr} {nt : Nat} {ps : Array Tmp} {asg body : Code} {P : Store → Prop} (hS : S[id]? = some (.lp false key fr)) (hL : E.loops key = some (nt, ps, asg, body)) (hlen : args.length = ps.size)
  (h : W E asg (putAll fr ps.toList args) S fun x fr1 S1 => x = .normal ∧ ∃ key1 f1, S1[id]? = some (.lp false key1 f1) ∧
   W E body fr1 (S1.set id (.lp true key1 f1)) fun x fr2 S2 => x = .normal ∧ ∃ key2 f2, S2[id]? = some (.lp true key2 f2) ∧ P (S2.set id (.lp false key2 f2))) : ∃ S', P S' ∧ vrun E (.yl id) args S = some (.bool true, S') := by
 obtain ⟨x, fr1, S1, ⟨rfl, key1, f1, h1, x, fr2, S2, ⟨rfl, key2, f2, h2, hP⟩, n2⟩, n⟩ := h
 exact ⟨_, hP, vrun_yl hS hL hlen ⟨_, fr1, S1, ⟨rfl, key1, f1, h1, _, fr2, S2, ⟨rfl, key2, f2, h2, rfl⟩, n2⟩, n⟩⟩
section
variable {k : List Todo} {fr : Fr}
theorem WS.ret1kP {f : FuncId} {fn : Func} {t : Nat} {v : V} {S' : Store} {P : V × Store → Prop} (hr : fn.results.toList = [.tmp t]) (hk : E.keep f = true) (hv : lget fr t = v) (hP : P (v, S')) : WS E (.code .ret :: k) fr S' (PEnds E f fn S P) :=
 WS.ret ⟨(v, S'), hP, .inr rfl, [v], by rw [hr]; simp only [resultV, hv, Option.map_some], by rw [hk]; rfl⟩
theorem WS.retC {f : FuncId} {fn : Func} {a : Nat} {u : TypeId} {v v' : V} {S' : Store} {P : V × Store → Prop} (hr : fn.results.toList = [.cell a u]) (hk : E.keep f = false) (hv : opLoad E S' u (lget fr a) = some v) (hp : S <+: S') (hf : frz 6 S.length S' v = some v') (hP : P (v', S)) : WS E (.code .ret :: k) fr S' (PEnds E f fn S P) := by
 refine WS.ret ⟨(v', S), hP, .inr rfl, [v], ?_, ?_⟩
 ·rw [hr]
  simp only [resultV, hv, Option.map_some, Option.bind_eq_bind, Option.bind_some]
 ·rw [hk]
  exact freezeRet_pre hp hf
end
end Go.Vm
