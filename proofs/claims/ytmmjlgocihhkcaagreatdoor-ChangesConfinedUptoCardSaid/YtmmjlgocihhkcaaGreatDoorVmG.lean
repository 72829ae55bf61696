import Derived.Test.YtmmjlgocihhkcaaGreatDoorVmE
import Derived.Test.YtmmjlgocihhkcaaGreatDoorVmD
import Derived.ChangeSame
import Derived.WideKeyArgs
import Derived.ChangeMaps5
import Derived.RowKit
import Derived.WideShapes
set_option linter.all false
set_option autoImplicit false
namespace Go.Vm
variable {E : Env}
structure TabE where
 f : FuncId
 a : List V
 S : Store
 r : V × Store
def tabCall (l : List TabE) : CallT := fun t a S => match t with
 | .fn f => (l.find? fun x => x.f == f && V.beqL x.a a && Store.beq x.S S).map (·.r)
 | _ => none
theorem tab_lim {l : List TabE} (h : ∀ x ∈ l, ∃ k, vcall E k (.fn x.f) x.a x.S = some x.r) : Lim (tabCall l) (vcall E) := by
 intro t a S r hr
 cases t with
 | fn f =>
  simp only [tabCall] at hr
  obtain ⟨x, hx, rfl⟩ := Option.map_eq_some_iff.1 hr
  have h1 := List.find?_some hx
  have h2 := List.mem_of_find?_eq_some hx
  simp only [Bool.and_eq_true, beq_iff_eq] at h1
  obtain ⟨⟨e1, e2⟩, e3⟩ := h1
  have e2 := V.beqL_eq _ _ e2
  have e3 := Store.beq_eq _ _ e3
  subst e1 e2 e3
  obtain ⟨k, hk⟩ := h x h2
  exact vcall_lim k _ _ _ _ hk
 | yl i => simp [tabCall] at hr
theorem tab_run {l : List TabE} (h : ∀ x ∈ l, ∃ k, vcall E k (.fn x.f) x.a x.S = some x.r) {f : FuncId} {fn : Func} {c : Code} {a : List V} {S S' : Store} {v v' : V} {k : Nat} (hf : E.P.funcs[f]? = some fn) (hb : fn.body = some c) (hd : E.defs f = false) (hk : E.keep f = false)
  (hr : runFn E (tabCall l) k fn c a S = some (v, S')) (hz : freezeRet S S' v = some (v', S)) : vrun E (.fn f) a S = some (v', S) := by
 refine vrun_of ?_
 have := runFn_lim (tab_lim h) hr
 refine Ev_.shift (this.mono fun j hj => ?_)
 simp only [vcall, hf, hb, hd, hk, Bool.false_eq_true, if_false, hj, hz]
end Go.Vm
namespace Go.Vm
abbrev AvaP := List UInt8 × List UInt8
def num4 (n : Nat) : List UInt8 := [UInt8.ofNat (n / 16777216), UInt8.ofNat (n / 65536), UInt8.ofNat (n / 256), UInt8.ofNat n]
def kofA (a : AvaP) : List UInt8 := num4 a.1.length ++ (a.1 ++ (num4 a.2.length ++ a.2))
def kofR (r : List AvaP) : List UInt8 := num4 r.length ++ r.flatMap kofA
def kofT (m : List (List AvaP)) : List UInt8 := m.reverse.flatMap kofR
theorem num4_inj {n m : Nat} (hn : n < 4294967296) (hm : m < 4294967296) (h : num4 n = num4 m) : n = m := by
 simp only [num4, List.cons.injEq, and_true] at h
 have h' := h
 simp only [← UInt8.toNat_inj, UInt8.toNat_ofNat'] at h'
 omega
theorem text_inj {a b X Y : List UInt8} (ha : a.length < 4294967296) (hb : b.length < 4294967296) (h : num4 a.length ++ (a ++ X) = num4 b.length ++ (b ++ Y)) : a = b ∧ X = Y := by
 obtain ⟨h1, h2⟩ := List.append_inj h rfl
 exact List.append_inj h2 (num4_inj ha hb h1)
def smallA (a : AvaP) : Prop := a.1.length < 4294967296 ∧ a.2.length < 4294967296
theorem kofA_inj {a b : AvaP} {X Y : List UInt8} (ha : smallA a) (hb : smallA b) (h : kofA a ++ X = kofA b ++ Y) : a = b ∧ X = Y := by
 simp only [kofA, List.append_assoc] at h
 obtain ⟨h1, h2⟩ := text_inj ha.1 hb.1 h
 obtain ⟨h3, h4⟩ := text_inj ha.2 hb.2 h2
 exact ⟨Prod.ext h1 h3, h4⟩
theorem kofL_inj : ∀ {r s : List AvaP} {X Y : List UInt8}, (∀ a ∈ r, smallA a) → (∀ a ∈ s, smallA a) → r.length = s.length → r.flatMap kofA ++ X = s.flatMap kofA ++ Y → r = s ∧ X = Y
 | [], [], X, Y, _, _, _, h => ⟨rfl, by simpa using h⟩
 | [], b :: s, X, Y, _, _, hl, _ => by simp at hl
 | a :: r, [], X, Y, _, _, hl, _ => by simp at hl
 | a :: r, b :: s, X, Y, hr, hs, hl, h => by
  rw [List.flatMap_cons, List.flatMap_cons, List.append_assoc, List.append_assoc] at h
  obtain ⟨h1, h2⟩ := kofA_inj (hr a (by simp)) (hs b (by simp)) h
  obtain ⟨h3, h4⟩ := kofL_inj (fun x hx => hr x (by simp [hx])) (fun x hx => hs x (by simp [hx])) (by simpa using hl) h2
  exact ⟨by rw [h1, h3], h4⟩
def smallR (r : List AvaP) : Prop := r.length < 4294967296 ∧ ∀ a ∈ r, smallA a
theorem kofR_inj {r s : List AvaP} {X Y : List UInt8} (hr : smallR r) (hs : smallR s) (h : kofR r ++ X = kofR s ++ Y) : r = s ∧ X = Y := by
 simp only [kofR, List.append_assoc] at h
 obtain ⟨h1, h2⟩ := List.append_inj h rfl
 exact kofL_inj hr.2 hs.2 (num4_inj hr.1 hs.1 h1) h2
theorem kofF_inj : ∀ {m n : List (List AvaP)}, (∀ r ∈ m, smallR r) → (∀ r ∈ n, smallR r) → m.flatMap kofR = n.flatMap kofR → m = n
 | [], [], _, _, _ => rfl
 | [], s :: n, _, _, h => by simp [kofR, num4] at h
 | r :: m, [], _, _, h => by simp [kofR, num4] at h
 | r :: m, s :: n, hm, hn, h => by
  rw [List.flatMap_cons, List.flatMap_cons] at h
  obtain ⟨h1, h2⟩ := kofR_inj (hm r (by simp)) (hn s (by simp)) h
  rw [h1, kofF_inj (fun x hx => hm x (by simp [hx])) (fun x hx => hn x (by simp [hx])) h2]
theorem kofT_inj {m n : List (List AvaP)} (hm : ∀ r ∈ m, smallR r) (hn : ∀ r ∈ n, smallR r) (h : kofT m = kofT n) : m = n := by
 have := kofF_inj (m := m.reverse) (n := n.reverse) (fun r hr => hm r (by simpa using hr)) (fun r hr => hn r (by simpa using hr)) h
 exact List.reverse_inj.1 this
end Go.Vm
set_option autoImplicit false
namespace Go.Vm
theorem came_frame {E E1 : Env} (hP : E1.P = E.P) (hg : ∀ g, E1.glob g = none) {S : Store} {m : M} (hi : Inv E S m) {f : FuncId} {uargs : Array Value} {b : Bool}
  (h : ∀ m0 : M, m0.w = m.w → Inv E1 [] m0 → Calls E1.P f uargs m0.w (Came E1 m0 [] (.bool b))) : Calls E.P f uargs m.w (Came E m S (.bool b)) := by
 have h0 : Inv E1 [] { phi := fun _ => none, I := fun k => k < m.w.heap.size, w := m.w } :=
  ⟨fun id x hx => by simp at hx, fun id ob ho => by simp at ho, fun i j oi oj R b c h1 => by simp at h1, fun k hk => hk, fun g cs hgl => by rw [hg g] at hgl; cases hgl⟩
 have hc := h { phi := fun _ => none, I := fun k => k < m.w.heap.size, w := m.w } rfl h0
 rw [hP] at hc
 refine Calls.mono hc fun e w' he => ?_
 obtain ⟨u, m', rfl, rfl, hx, _, hv⟩ := he
 have hoth : ∀ k, k < m.w.heap.size → m'.w.heap[k]? = m.w.heap[k]? := fun k hk => hx.blk k hk
 have hx2 : Ext m { phi := m.phi, I := m.I, w := m'.w } := ⟨fun _ _ h => h, fun _ h => h, fun k hk => hoth k (hi.bnd k hk), hx.shape, hx.size, hx.os, hx.tape, hx.output⟩
 refine ⟨u, { phi := m.phi, I := m.I, w := m'.w }, rfl, rfl, hx2, ?_, by simpa [VR] using hv⟩
 refine hi.touch hx2 rfl rfl (R := m.w.heap.size) (fun i o c ho hgo hp => ?_) fun k _ hk => hoth k hk
 obtain ⟨R, b', hp', _, hl⟩ := hi.live i o ho hgo
 rw [hp] at hp'
 cases hp'
 exact Nat.lt_irrefl _ (hl.lt hgo)
end Go.Vm
set_option autoImplicit false
namespace Go.Vm
open Go.ChangeShapes Go.WideElems
def m0 (W : World) : M := { phi := fun _ => none, I := fun b => b < W.heap.size, w := W }
theorem inv0 {E : Env} (hg : ∀ g, E.glob g = none) (W : World) : Inv E [] (m0 W) where
 dom := fun id x h => by cases h
 live := fun id ob h => by simp at h
 inj := fun i j oi oj R b c h => by simp at h
 bnd := fun b h => h
 glob := fun g cs h => by rw [hg g] at h; cases h
theorem kept_of_ext {W : World} {m' : M} (h : Ext (m0 W) m') (may : MemPlace → Prop) : W.keptBut m'.w may := by
 refine ⟨h.os, h.output, fun i hi => ?_⟩
 have e : m'.w.heap[i]? = W.heap[i]? := h.blk i hi
 rw [e]
 cases hw : W.heap[i]? with
 | none => rfl
 | some o => cases o <;> simp
theorem frozen_of_ext {W : World} {m' : M} (h : Ext (m0 W) m') (a : Addr) (ha : a.block < W.heap.size) : m'.w.frozen? a = W.frozen? a := by
 have e : m'.w.heap[a.block]? = W.heap[a.block]? := h.blk a.block ha
 unfold World.frozen?
 rw [e]
theorem same_of_ext {W : World} {m' : M} (h : Ext (m0 W) m') {p : MemPlace} (hp : p.block < W.heap.size) : W.sameAt m'.w p := by
 cases p with
 | cell b o => exact cell_of_blk (h.blk b hp) _ _
 | map b => exact h.blk b hp
section
variable {H : Type} {enc : TypeId × Value → H} {P : Program} {k : Nat}
theorem trodAll_stays {W W' : World} {sp' : Nat → Bool} (hl : laidOutB P = true) : ∀ {ts : List TypeId} {vs : List Value} {ds : List (DataW H)} {ps : List MemPlace}, (∀ t ∈ ts, P.readableRec t = true ∧ t < P.types.size) →
  DataW.TrodAll enc P W 0 (fun _ => true) true ts vs ds ps → (∀ p ∈ ps, W.sameAt W' p) → (∀ p ∈ ps, sp' p.block = true) → DataW.TrodAll enc P W' 0 sp' true ts vs ds ps
 | [], [], [], ps, hr, h, _, _ => h
 | t :: ts, v :: vs, d :: ds, ps, hr, h, h1, h2 => by
  obtain ⟨p, q, ha, hb, rfl⟩ := h
  refine ⟨p, q, Trod_stays hl (hr t (by simp)).1 (hr t (by simp)).2 ha (fun x hx => h1 x (by simp [hx])) (fun x hx => h2 x (by simp [hx])), trodAll_stays hl (fun t ht => hr t (by simp [ht])) hb (fun x hx => h1 x (by simp [hx])) (fun x hx => h2 x (by simp [hx])), rfl⟩
theorem law_contract {E : Env} {f : FuncId} {fn : Func} {tb : TypeId} {s : ChangeSpec} (hc : CallOk E (vcall E k)) (hg : ∀ g, E.glob g = none) (hP : E.P = P)
  (hl : laidOutB P = true) (hr : ∀ t ∈ fn.params.toList, P.readableRec t = true ∧ t < P.types.size) (hres : fn.resultTypes = #[tb]) (htb : P.underlying tb = some .bool) (hvars : s.vars = [])
  {W : World} {args : Array Value} {ds gs : List (DataW H)} {before : List MemPlace} (hspec : s.fn H (ds ++ gs) = { results := [.lit (.bool true)], args := ds })
  (hW : DataW.Whole enc P fn.params.toList s.vars false W args.toList ds gs before) {vs : List V} (hvr : VRL (m0 W) vs args.toList) (hcall : vcall E k (.fn f) vs [] = some (.bool true, [])) :
  Calls P f args W fun e W' => ∃ v, e = .returned v ∧ s.post enc P fn false true false false W args v W' := by
 subst hP
 have h := hc.fn f vs [] _ _ hcall (m0 W) args.toList (inv0 hg W) hvr
 rw [Array.toArray_toList] at h
 refine h.mono fun e W' hcame => ?_
 obtain ⟨u, m', rfl, rfl, hext, hinv, hv⟩ := hcame
 simp only [VR] at hv
 subst hv
 refine ⟨_, rfl, ?_⟩
 have hW' := hW
 have hlt : ∀ p ∈ before, p.block < W.heap.size := fun p hp => by simpa using hW.lt p hp
 obtain ⟨p, q, hA, hV, hpq, hfz, hnd⟩ := hW
 rw [hvars] at hV
 obtain ⟨rfl, rfl⟩ : gs = [] ∧ q = [] := by
  cases gs with
  | nil => exact ⟨rfl, by simpa [DataW.TrodVars] using hV⟩
  | cons a b => simp [DataW.TrodVars] at hV
 rw [List.append_nil] at hpq
 subst hpq
 have hargs : ∀ sp : Nat → Bool, (∀ x ∈ before, sp x.block = true) → DataW.TrodAll enc E.P m'.w 0 sp true fn.params.toList args.toList (s.fn H (ds ++ [])).args before := fun sp hsp => by
  rw [hspec]
  exact trodAll_stays hl hr hA (fun x hx => same_of_ext hext (hlt x hx)) hsp
 have hresT : ∀ (b : Nat) (sp : Nat → Bool) (hd : Bool), DataW.TrodAll enc E.P m'.w b sp hd fn.resultTypes.toList ((Value.bool true).resultList fn.resultTypes.size) (s.fn H (ds ++ [])).results [] := fun b sp hd => by
  rw [hspec, hres]
  exact ⟨[], [], ⟨1, by simp [DataW.trod, htb, Value.cells]⟩, rfl, rfl⟩
 have hvarsT : ∀ sp : Nat → Bool, DataW.TrodVars enc E.P m'.w sp s.vars (s.fn H (ds ++ [])).vars [] := fun sp => by
  rw [hspec, hvars]
  rfl
 have hold : ∀ x ∈ before, (fun b => decide (b < W.heap.size)) x.block = true := fun x hx => by simpa using hlt x hx
 refine ⟨ds, [], before, [], before, [], hW', hresT _ _ _, hargs _ hold, hvarsT _, kept_of_ext hext _, fun _ => ?_⟩
 refine ⟨?_, _, _, ([] ++ before) ++ [], ⟨[] ++ before, [], trodAll_append (hargs _ (fun _ _ => rfl)) (hresT _ _ _), hvarsT _, rfl, ?_, ?_⟩, ?_⟩
 ·intro j t r h1 h2
  rw [hres] at h1 h2
  match j, h1, h2 with
  | 0, h1, h2 =>
   simp [Value.resultList] at h1 h2
   subst h1 h2
   exact Go.RowKit.okWide_bool_mk htb _
 ·intro b off hp
  have hp' : MemPlace.cell b off ∈ before := by simpa using hp
  rw [frozen_of_ext hext _ (hlt _ hp')]
  exact hfz b off hp'
 ·intro ha
  cases ha
 ·intro x hx _
  simpa using hx
end
end Go.Vm
set_option autoImplicit false
namespace Go.Vm
open Go.ChangeShapes
structure Bulk (H : Type) (b : DataW H → Nat) (ba : List (DataW H) → Nat) : Prop where
 nil : ba [] = 0
 cons : ∀ d l, ba (d :: l) = b d + ba l
 str : ∀ s, s.length ≤ b (.lit (.string s))
 agg : ∀ l, ba l ≤ b (.agg l)
 sl : ∀ l r, ba l + l.length ≤ b (.slice l r) + ba l ∧ ba l + 1 ≤ b (.slice l r)
 pos : ∀ d, 1 ≤ b d
structure Opn (P : Program) (t : TypeId) {α : Type} (f : α → List V) (g : α → Nat) : Prop where
 out : ∀ {H : Type} {enc : TypeId × Value → H} {b : DataW H → Nat} {ba : List (DataW H) → Nat}, Bulk H b ba → ∀ {W : World} {held : Bool} {fuel : Nat} {cs : List Value} {x : DataW H × List MemPlace},
  (∀ p ∈ x.2, p.block < W.heap.size) → DataW.trod enc P W 0 (fun _ => true) held fuel t cs = some x → ∃ a, VRL (m0 W) (f a) cs ∧ Leafs cs ∧ V.noRefL (f a) = true ∧ g a ≤ b x.1
theorem noRefL_append : ∀ (a b : List V), V.noRefL (a ++ b) = (V.noRefL a && V.noRefL b)
 | [], b => by simp [V.noRefL]
 | c :: a, b => by simp [V.noRefL, noRefL_append a b, Bool.and_assoc]
theorem Opn.string {P : Program} {t : TypeId} (ht : P.underlying t = some .string) : Opn P t (fun s : List UInt8 => [.str s]) (fun s => s.length) := by
 constructor
 intro H enc b ba B W held fuel cs x _ h
 obtain ⟨s, rfl, rfl, _⟩ := DataW.trod_string ht h
 exact ⟨s.data.toList, ⟨_, _, rfl, by simp [VR], rfl⟩, fun u hu => by rw [List.mem_singleton] at hu; subst hu; rfl, rfl, B.str _⟩
theorem Opn.int {P : Program} {t : TypeId} {k : IntKind} (ht : P.underlying t = some (.int k)) : Opn P t (fun n : { n : Int // (Lit.int k n).wf = true } => [.int k n.1]) (fun _ => 0) := by
 constructor
 intro H enc b ba B W held fuel cs x _ h
 obtain ⟨n, rfl, rfl, hw⟩ := DataW.trod_int ht h
 exact ⟨⟨n, hw⟩, ⟨_, _, rfl, by simp [VR], rfl⟩, fun u hu => by rw [List.mem_singleton] at hu; subst hu; rfl, rfl, Nat.zero_le _⟩
theorem Opn.bool {P : Program} {t : TypeId} (ht : P.underlying t = some .bool) : Opn P t (fun n : Bool => [.bool n]) (fun _ => 0) := by
 constructor
 intro H enc b ba B W held fuel cs x _ h
 obtain ⟨n, rfl, rfl⟩ := DataW.trod_bool ht h
 exact ⟨n, ⟨_, _, rfl, by simp [VR], rfl⟩, fun u hu => by rw [List.mem_singleton] at hu; subst hu; rfl, rfl, Nat.zero_le _⟩
structure OpnF (P : Program) (off total : Nat) (L : List Field) {α : Type} (f : α → List V) (g : α → Nat) : Prop where
 out : ∀ {H : Type} {enc : TypeId × Value → H} {b : DataW H → Nat} {ba : List (DataW H) → Nat}, Bulk H b ba → ∀ {W : World} {held : Bool} {n : Nat} {cs : List Value} {xs : List (DataW H × List MemPlace)}, cs.length = total →
  (∀ y ∈ xs, ∀ p ∈ y.2, p.block < W.heap.size) → L.mapM (fun f => DataW.trod enc P W 0 (fun _ => true) held n f.type ((cs.drop f.offset).take (P.cellsOf f.type))) = some xs → ∃ a, VRL (m0 W) (f a) (cs.drop off) ∧ Leafs (cs.drop off) ∧ V.noRefL (f a) = true ∧ g a ≤ ba (xs.map (·.1))
theorem OpnF.nil {P : Program} {total : Nat} : OpnF P total total [] (fun _ : Unit => []) (fun _ => 0) := by
 constructor
 intro H enc b ba B W held n cs xs hl _ h
 have : cs.drop total = [] := List.drop_eq_nil_iff.2 (by omega)
 rw [this]
 exact ⟨(), rfl, fun u hu => by simp at hu, rfl, Nat.zero_le _⟩
theorem OpnF.cons {P : Program} {off total : Nat} {fd : Field} {L : List Field} {α β : Type} {f : α → List V} {g : α → Nat} {f' : β → List V} {g' : β → Nat} {c : Nat} (ho : fd.offset = off) (hc : P.cellsOf fd.type = c) (h1 : Opn P fd.type f g) (h2 : OpnF P (off + c) total L f' g') :
  OpnF P off total (fd :: L) (fun a : α × β => f a.1 ++ f' a.2) (fun a => g a.1 + g' a.2) := by
 constructor
 intro H enc b ba B W held n cs xs hl hp h
 rw [List.mapM_cons] at h
 simp only [Option.bind_eq_bind, Option.pure_def] at h
 obtain ⟨y, hy, h⟩ := Option.bind_eq_some_iff.1 h
 obtain ⟨ys, hys, h⟩ := Option.bind_eq_some_iff.1 h
 injection h with h
 subst h
 obtain ⟨a, a1, a2, a3, a4⟩ := h1.out B (hp y (by simp)) hy
 obtain ⟨a', b1, b2, b3, b4⟩ := h2.out B hl (fun z hz => hp z (by simp [hz])) hys
 have e : cs.drop off = (cs.drop fd.offset).take (P.cellsOf fd.type) ++ cs.drop (off + c) := by
  rw [ho, hc, ← List.drop_drop, List.take_append_drop]
 refine ⟨(a, a'), ?_, ?_, ?_, ?_⟩
 ·rw [e]; exact VRL.append a1 b1
 ·rw [e]; exact Leafs.append a2 b2
 ·rw [noRefL_append, a3, b3]; rfl
 ·rw [List.map_cons, B.cons]
  exact Nat.add_le_add a4 b4
theorem Opn.struct {P : Program} {t : TypeId} {fs : Array Field} {α : Type} {f : α → List V} {g : α → Nat} (ht : P.underlying t = some (.struct fs)) (h : OpnF P 0 (P.cellsOf t) fs.toList f g) : Opn P t f g := by
 constructor
 intro H enc b ba B W held fuel cs x hp hx
 cases fuel with
 | zero => simp [DataW.trod] at hx
 | succ n =>
  unfold DataW.trod at hx
  rw [ht] at hx
  simp only at hx
  have hx : (if cs.length = P.cellsOf t then (fs.toList.mapM fun f => DataW.trod enc P W 0 (fun _ => true) held n f.type ((cs.drop f.offset).take (P.cellsOf f.type))).map fun xs => (DataW.agg (xs.map (·.1)), xs.flatMap (·.2)) else none) = some x := by
   revert hx
   cases cs with
   | nil => exact id
   | cons c r => exact id
  split at hx
  ·rename_i hl
   obtain ⟨xs, h1, rfl⟩ := Option.map_eq_some_iff.1 hx
   obtain ⟨a, a1, a2, a3, a4⟩ := h.out B hl (fun y hy p hpy => hp p (List.mem_flatMap.2 ⟨y, hy, hpy⟩)) h1
   exact ⟨a, a1, a2, a3, Nat.le_trans a4 (B.agg _)⟩
  ·cases hx
def slV {α : Type} (f : α → List V) : Option (List α) → List V
 | none => [.slN]
 | some l => [.slI l.length (l.flatMap f)]
def slG {α : Type} (g : α → Nat) : Option (List α) → Nat
 | none => 0
 | some l => (l.map fun a => max 1 (g a)).sum
theorem cells_of {W : World} {a : Addr} {n : Nat} {cs : List Value} (h : W.cells? 0 a n = some cs) : cs.length = n ∧ ∀ i v, cs[i]? = some v → W.cell? (a.add i) = some v := by
 unfold World.cells? at h
 rw [if_pos (Nat.zero_le _)] at h
 have hl := mapM_some_length h
 refine ⟨by simpa using hl, fun i v hi => ?_⟩
 have hlt := (List.getElem?_eq_some_iff.1 hi).1
 have hlt' : i < n := by simp at hl; omega
 have := mapM_some_get h i i (by simp [hlt'])
 rw [this, hi]
theorem Opn.slice {P : Program} {t e : TypeId} {α : Type} {f : α → List V} {g : α → Nat} {c : Nat} (ht : P.underlying t = some (.slice e)) (hc : P.cellsOf e = c) (hc0 : 0 < c) (hf : ∀ a, (f a).length = c) (he : Opn P e f g) : Opn P t (slV f) (slG g) := by
 constructor
 intro H enc b ba B W held fuel cs x hp hx
 rcases DataW.trod_slice ht hx with ⟨rfl, rfl⟩ | ⟨a, len, cap, elems, rest, n, _, rfl, rfl, hb, hl, hm, hlen, hel, _, _⟩
 ·exact ⟨none, ⟨_, _, rfl, by simp [VR], rfl⟩, fun u hu => by rw [List.mem_singleton] at hu; subst hu; rfl, rfl, Nat.zero_le _⟩
 ·have key : ∀ k, k ≤ len → ∃ (l : List α) (us : List Value), l.length = k ∧ us.length = k * c ∧ VRL (m0 W) (l.flatMap f) us ∧ Leafs us ∧ V.noRefL (l.flatMap f) = true ∧ (∀ j u, us[j]? = some u → ∃ i q, j = i * c + q ∧ W.cell? ((a.add (i * c)).add q) = some u) ∧ (l.map fun a => max 1 (g a)).sum ≤ ba ((elems.take k).map (·.1)) := by
   intro k
   induction k with
   | zero => intro _; exact ⟨[], [], rfl, by simp, rfl, fun u hu => by simp at hu, rfl, fun j u hj => by simp at hj, by simp⟩
   | succ k ih =>
    intro hk
    obtain ⟨l, us, l1, l2, l3, l4, l5, l6, l7⟩ := ih (by omega)
    have hk' : k < elems.length := by omega
    have h1 := hel k (by omega)
    rw [List.getElem?_eq_getElem hk'] at h1
    obtain ⟨cs', c1, c2⟩ := Option.bind_eq_some_iff.1 h1
    obtain ⟨d1, d2⟩ := cells_of c1
    obtain ⟨a', a1, a2, a3, a4⟩ := he.out B (fun p hpp => hp p (by
     refine List.mem_append_right _ (List.mem_flatMap.2 ⟨elems[k], List.mem_append_left _ (List.getElem_mem hk'), hpp⟩))) c2
    refine ⟨l ++ [a'], us ++ cs', by simp [l1], ?_, ?_, Leafs.append l4 a2, ?_, ?_, ?_⟩
    ·rw [List.length_append, l2, d1, hc, Nat.add_mul, Nat.one_mul]
    ·rw [List.flatMap_append]; simpa using VRL.append l3 a1
    ·rw [List.flatMap_append, noRefL_append, l5]; simpa using a3
    ·intro j u hj
     by_cases hlt : j < us.length
     ·rw [List.getElem?_append_left hlt] at hj
      exact l6 j u hj
     ·rw [List.getElem?_append_right (by omega)] at hj
      have := d2 _ _ hj
      rw [hc] at this
      exact ⟨k, j - us.length, by omega, this⟩
    ·rw [List.take_succ_eq_append_getElem hk', List.map_append, List.map_append, List.sum_append]
     have hba : ∀ l r : List (DataW H), ba (l ++ r) = ba l + ba r := by
      intro l r
      induction l with
      | nil => simp [B.nil]
      | cons d l ih => rw [List.cons_append, B.cons, B.cons, ih]; omega
     rw [hba]
     refine Nat.add_le_add l7 ?_
     have h1 := B.pos elems[k].1
     simp [B.cons, B.nil]
     omega
  obtain ⟨l, us, l1, l2, l3, l4, l5, l6, l7⟩ := key len (Nat.le_refl _)
  have hbulk : slG g (some l) ≤ b (.slice (elems.map (·.1)) (rest.map (·.1))) := by
   have h1 := (B.sl (elems.map (·.1)) (rest.map (·.1))).2
   rw [← hlen, List.take_length] at l7
   exact Nat.le_trans l7 (by omega)
  refine ⟨some l, ⟨_, _, rfl, ?_, rfl⟩, fun u hu => by rw [List.mem_singleton] at hu; subst hu; rfl, by simp [slV, V.noRefL, V.noRef, l5], hbulk⟩
  simp only [VR]
  refine ⟨some a, cap, us, by rw [l1], by omega, l4, l3, ?_, l5⟩
  by_cases h0 : len = 0
  ·exact .inl ⟨by omega, rfl⟩
  ·right
   have hpos : 0 < us.length := by rw [l2]; exact Nat.mul_pos (by omega) hc0
   obtain ⟨i, q, hiq, hcell⟩ := l6 0 us[0] (List.getElem?_eq_getElem hpos)
   have hi0 : i = 0 := by
    rcases Nat.eq_zero_or_pos i with h | h
    ·exact h
    ·have := Nat.mul_pos h hc0; omega
   subst hi0
   have hq0 : q = 0 := by omega
   subst hq0
   rw [Nat.zero_mul] at hcell
   have hadd0 : ∀ x : Addr, x.add 0 = x := fun x => by simp [Addr.add]
   rw [hadd0, hadd0] at hcell
   have hspot : a.spot = none := by
    unfold World.cell? at hcell
    split at hcell
    ·split at hcell
     ·cases hcell
     ·rename_i hs
      cases hsp : a.spot with
      | none => rfl
      | some z => rw [hsp] at hs; simp at hs
    ·cases hcell
   obtain ⟨B', o, sp⟩ := a
   simp only at hspot
   subst hspot
   refine ⟨B', o, rfl, ?_, ?_⟩
   ·show B' < W.heap.size
    unfold World.cell? at hcell
    rcases Nat.lt_or_ge B' W.heap.size with h | h
    ·exact h
    ·simp only [Array.getElem?_eq_none h] at hcell; cases hcell
   ·intro j u hj
    obtain ⟨i, q, rfl, hcl⟩ := l6 j u hj
    rw [addr_add, addr_add] at hcl
    rw [show o + (i * c + q) = o + i * c + q by omega]
    exact hcl
theorem Opn.arg {P : Program} {t : TypeId} {α : Type} {f : α → List V} {g : α → Nat} (ho : Opn P t f g) {H : Type} {enc : TypeId × Value → H} {b : DataW H → Nat} {ba : List (DataW H) → Nat} (B : Bulk H b ba) {W : World} {held : Bool} {v : Value} {d : DataW H} {ps : List MemPlace}
  (hv : v.cells.toList = [v]) (hp : ∀ p ∈ ps, p.block < W.heap.size) (h : DataW.Trod enc P W 0 (fun _ => true) held t v d ps) : ∃ a, VRL (m0 W) (f a) [v] ∧ g a ≤ b d := by
 obtain ⟨fuel, hx⟩ := h
 obtain ⟨a, a1, _, _, a4⟩ := ho.out B (x := (d, ps)) hp hx
 rw [hv] at a1
 exact ⟨a, a1, a4⟩
end Go.Vm
