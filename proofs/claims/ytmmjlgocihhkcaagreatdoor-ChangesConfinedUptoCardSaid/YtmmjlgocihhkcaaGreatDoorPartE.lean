import Derived.Test.YtmmjlgocihhkcaaGreatDoorPartC
import Derived.Test.YtmmjlgocihhkcaaGreatDoorVmF
set_option linter.all false
namespace Go.Proofs.YtmmjlgocihhkcaaGreatDoor
open Go Go.Vm
set_option maxRecDepth 100000
set_option maxHeartbeats 8000000
structure Bld (T : Store) (id : Nat) (bs : List UInt8) : Prop where
 ex : ∃ addr buf, T[id]? = some (.cells [addr, buf] 165) ∧ (addr = .nilp ∨ addr = .ref id 0) ∧ Buf 5 (id + 1) T buf bs ∧ (bs = [] → ∀ i o l c z, buf = .slR i o l c z → 0 < c)
theorem Bld.new (S : Store) : Bld (S ++ [.cells [.nilp, .slN] 165]) S.length [] := ⟨_, _, getS0 _, .inl rfl, .inl ⟨rfl, rfl⟩, fun _ i o l c z h => by cases h⟩
theorem fa60_0 (id : Nat) : opFieldAddr E0 165 (.ref id 0) 0 = some (.ref id 0) := by kernel_rfl
theorem fa60_1 (id : Nat) : opFieldAddr E0 165 (.ref id 0) 1 = some (.ref id 1) := by kernel_rfl
theorem bld_ld0 {T : Store} {id : Nat} {a b : V} (h : T[id]? = some (.cells [a, b] 165)) : opLoad E0 T 163 (.ref id 0) = some a := by
 rw [ld_ref isAggO_163, cellsOf_of h]; rfl
theorem bld_ld1 {T : Store} {id : Nat} {a b : V} (h : T[id]? = some (.cells [a, b] 165)) : opLoad E0 T 140 (.ref id 1) = some b := by
 rw [ld_ref isAggO_140, cellsOf_of h]; rfl
theorem bld_st0 {T : Store} {id : Nat} {a b : V} (h : T[id]? = some (.cells [a, b] 165)) : opStore E0 T 163 (.ref id 0) (.ref id 0) = some (T.set id (.cells [.ref id 0, b] 165)) := by
 rw [st_one tsize_163 _ _ _ rfl (by simp), putAt_one h (by simp)]; rfl
theorem bld_st1 {T : Store} {id : Nat} {a b v : V} (h : T[id]? = some (.cells [a, b] 165)) (hs : solid v = true) (hv : ∀ cs, v ≠ .agg cs) : opStore E0 T 140 (.ref id 1) v = some (T.set id (.cells [a, v] 165)) := by
 rw [st_one tsize_140 _ _ _ hs hv, putAt_one h (by simp)]; rfl
theorem eq58n (l : Bool) : opBin E0 l .eql 163 .nilp .nilp = some (.bool true) := by kernel_rfl
theorem eq58r (l : Bool) (i : Nat) : opBin E0 l .eql 163 (.ref i 0) .nilp = some (.bool false) := by kernel_rfl
theorem ne58 (l : Bool) (i : Nat) : opBin E0 l .neq 163 (.ref i 0) (.ref i 0) = some (.bool false) := by
 have h : E0.P.underlying 163 = _ := Tryz.underlying163
 unfold opBin
 simp [eqOk, vEq, h, tsize_165]
theorem callV_160 (c : CallT) (x : V) (S : Store) : callV E0 c (.fn (.func 160) [] []) [x] S = some (x, S) := by kernel_rfl
theorem cv58 {T : Store} {id : Nat} {a b : V} (h : T[id]? = some (.cells [a, b] 165)) : opConvert E0 T 163 211 (.ref id 0) = some (.ref id 0, T) := by
 have h1 : E0.P.underlying 163 = _ := Tryz.underlying163
 have h2 : E0.P.underlying 211 = _ := Tryz.underlying211
 unfold opConvert
 simp [h1, h2, tsize_165, cellsOf_of h]
theorem cv86 {T : Store} {id : Nat} {a b : V} (h : T[id]? = some (.cells [a, b] 165)) : opConvert E0 T 211 163 (.ref id 0) = some (.ref id 0, T) := by
 have h1 : E0.P.underlying 163 = _ := Tryz.underlying163
 have h2 : E0.P.underlying 211 = _ := Tryz.underlying211
 unfold opConvert
 simp [h1, h2, tsize_165, cellsOf_of h, Vm.elemOf, h]
theorem copyCheck_ok {T : Store} {id : Nat} {addr buf : V} (h : T[id]? = some (.cells [addr, buf] 165)) (ha : addr = .nilp ∨ addr = .ref id 0) : vrun E0 (.fn 138) [.ref id 0] T = some (.tup [], T.set id (.cells [.ref id 0, buf] 165)) := by
 refine fn_ws Tryz.func138 rfl ?_
 have l0 := bld_ld0 h
 rcases ha with rfl | rfl
 ·have s0 := bld_st0 h
  have c1 := cv58 h
  have c2 := cv86 h
  repeat (first | refine WS.adm rfl ?_ | refine WS.region (by simp only [EV, TY, EV2, lget, fa60_0, l0, eq58n, ↓reduceIte, Nat.reduceEqDiff]; with_reducible rfl) ?_)
  refine WS.cond_true (by simp only [EV, lget, ↓reduceIte, Nat.reduceEqDiff]) ?_
  repeat (first | refine WS.adm rfl ?_ | refine WS.region (by simp only [EV, TY, EV2, lget, fa60_0, c1, callV_160, c2, s0, ↓reduceIte, Nat.reduceEqDiff]; with_reducible rfl) ?_)
  exact ends0 rfl rfl
 ·repeat (first | refine WS.adm rfl ?_ | refine WS.region (by simp only [EV, TY, EV2, lget, fa60_0, l0, eq58r, ↓reduceIte, Nat.reduceEqDiff]; with_reducible rfl) ?_)
  refine WS.cond_false (by simp only [EV, lget, ↓reduceIte, Nat.reduceEqDiff]) ?_
  repeat (first | refine WS.adm rfl ?_ | refine WS.region (by simp only [EV, TY, EV2, lget, fa60_0, l0, ne58, ↓reduceIte, Nat.reduceEqDiff]; with_reducible rfl) ?_)
  refine WS.cond_false (by simp only [EV, lget, ↓reduceIte, Nat.reduceEqDiff]) ?_
  repeat (first | refine WS.adm rfl ?_ | refine WS.r0 ?_)
  have e : T.set id (.cells [.ref id 0, buf] 165) = T := List.ext_getElem? fun k => by
   by_cases hk : id = k
   ·subst hk; rw [List.getElem?_set_self (lt_of_get h), h]
   ·rw [List.getElem?_set_ne hk]
  rw [e]
  exact ends0 rfl rfl
theorem Buf_set {E : Env} {e : TypeId} {n p : Nat} {S : Store} {v : V} {bs : List UInt8} (h : Buf e n S v bs) (hp : p < n) (o : Ob) : Buf e n (S.set p o) v bs := by
 rcases h with h | ⟨id, cap, r, h1, h2, h3, h4⟩
 ·exact .inl h
 ·exact .inr ⟨id, cap, r, h1, h2, get_set_ne h3 (by omega), h4⟩
theorem low_get {n i : Nat} {S S' : Store} {o : Ob} (h : Low n S S') (hi : i < n) (hS : S[i]? = some o) : S'[i]? = some o := by rw [h.2 i hi]; exact hS
theorem low_weak {n m : Nat} {S S' : Store} (h : Low n S S') (hm : m ≤ n) : Low m S S' := ⟨Nat.le_trans hm h.1, fun i hi => h.2 i (by omega)⟩
theorem bld_step {T1 U : Store} {id : Nat} {buf : V} {bs : List UInt8} (h1 : T1[id]? = some (.cells [.ref id 0, buf] 165)) (hlow : Low (id + 1) T1 U) (hb : Buf 5 (id + 1) U buf bs) (hc : bs = [] → ∀ i o l c z, buf = .slR i o l c z → 0 < c)
  {u : TypeId} (hu : ∀ k, E0.P.underlying u ≠ some (.int k)) (hu2 : E0.P.underlying u ≠ none) {x : V} {xs : List UInt8} (hx : appended U 1 x = some (xs.length, bytesV xs)) (hl : bs.length + xs.length ≤ 140737488355328) :
  ∃ v' T2, opAppend E0 U [140, u] buf x = some (v', T2) ∧ opStore E0 T2 140 (.ref id 1) v' = some (T2.set id (.cells [.ref id 0, v'] 165)) ∧ Bld (T2.set id (.cells [.ref id 0, v'] 165)) id (bs ++ xs) ∧ Low id T1 (T2.set id (.cells [.ref id 0, v'] 165)) := by
 have hshape : ∀ (S : Store) (v : V) (b : List UInt8), Buf 5 (id + 1) S v b → solid v = true ∧ ∀ cs, v ≠ .agg cs := fun S v b h => by
  rcases h with ⟨rfl, _⟩ | ⟨i, c, r, _, rfl, _⟩
  ·exact ⟨rfl, fun cs h => by cases h⟩
  ·exact ⟨rfl, fun cs h => by cases h⟩
 have h2 := low_get hlow (Nat.lt_succ_self id) h1
 by_cases h0 : xs = []
 ·subst h0
  have ha : opAppend E0 U [140, u] buf x = some (buf, U) := by
   rw [append_base bt50 hu hu2 hx buf]
   rcases hb with ⟨rfl, _⟩ | ⟨i, c, r, _, rfl, _⟩ <;> rfl
  obtain ⟨s1, s2⟩ := hshape U buf bs hb
  refine ⟨buf, U, ha, bld_st1 h2 s1 s2, ?_, ?_⟩
  ·rw [List.append_nil]
   exact ⟨_, _, by rw [List.getElem?_set_self (lt_of_get h2)], .inr rfl, Buf_set (E := E0) hb (by omega) _, hc⟩
  ·exact (low_weak hlow (by omega)).trans (Low.set (by have := lt_of_get h2; omega) (Nat.le_refl _))
 ·obtain ⟨v', T2, g1, g2, g3⟩ := hb.app bt50 hu hu2 hlow.1 hx hl
  obtain ⟨s1, s2⟩ := hshape T2 v' _ g2
  have h3 := low_get g3 (Nat.lt_succ_self id) h2
  refine ⟨v', T2, g1, bld_st1 h3 s1 s2, ?_, ?_⟩
  ·exact ⟨_, _, by rw [List.getElem?_set_self (lt_of_get h3)], .inr rfl, Buf_set (E := E0) g2 (by omega) _, fun h => absurd (List.append_eq_nil_iff.1 h).2 h0⟩
  ·exact (low_weak (hlow.trans g3) (by omega)).trans (Low.set (by have := lt_of_get h3; omega) (Nat.le_refl _))
theorem ret2k {E : Env} {k : List Todo} {fr : Fr} {S S' : Store} {f : FuncId} {fn : Func} {t u : Nat} {v w : V} (hr : fn.results.toList = [.tmp t, .tmp u]) (hk : E.keep f = true) (hv : lget fr t = v) (hw : lget fr u = w) : WS E (.code .ret :: k) fr S' (FnEnds E f fn S (.tup [v, w], S')) :=
 WS.ret ⟨.inr rfl, [v, w], by rw [hr]; simp only [resultV, hv, hw, Option.map_some], by rw [hk]; rfl⟩
theorem ret1k {E : Env} {k : List Todo} {fr : Fr} {S S' : Store} {f : FuncId} {fn : Func} {t : Nat} {v : V} (hr : fn.results.toList = [.tmp t]) (hk : E.keep f = true) (hv : lget fr t = v) : WS E (.code .ret :: k) fr S' (FnEnds E f fn S (v, S')) :=
 WS.ret ⟨.inr rfl, [v], by rw [hr]; simp only [resultV, hv, Option.map_some], by rw [hk]; rfl⟩
theorem u9 : (∀ k, E0.P.underlying 9 ≠ some (.int k)) ∧ E0.P.underlying 9 ≠ none := by
 have h : E0.P.underlying 9 = _ := Tryz.underlying9
 rw [h]
 exact ⟨fun k h => (by cases h), fun h => (by cases h)⟩
theorem u50 : (∀ k, E0.P.underlying 140 ≠ some (.int k)) ∧ E0.P.underlying 140 ≠ none := by
 have h : E0.P.underlying 140 = _ := Tryz.underlying140
 rw [h]
 exact ⟨fun k h => (by cases h), fun h => (by cases h)⟩
theorem WriteString_ok {T : Store} {id : Nat} {bs : List UInt8} (h : Bld T id bs) (s : List UInt8) (hl : bs.length + s.length ≤ 140737488355328) : ∃ T', vrun E0 (.fn 108) [.ref id 0, .str s] T = some (.tup [.int .i64 (s.length : Nat), .nili], T') ∧ Bld T' id (bs ++ s) ∧ Low id T T' := by
 obtain ⟨addr, buf, h1, h2, h3, h4⟩ := h
 have hid := lt_of_get h1
 have cc := copyCheck_ok h1 h2
 have g1 : (T.set id (.cells [.ref id 0, buf] 165))[id]? = some (.cells [.ref id 0, buf] 165) := by simp [hid]
 obtain ⟨v', T2, a1, a2, a3, a4⟩ := bld_step g1 (Low.refl (by simp; omega)) (Buf_set (E := E0) h3 (by omega) _) h4 u9.1 u9.2 (x := .str s) (xs := s) rfl hl
 refine ⟨_, ?_, a3, (Low.set (by omega) (Nat.le_refl _)).trans a4⟩
 refine fn_ws Tryz.func108 rfl ?_
 have l1 := bld_ld1 g1
 repeat (first | refine WS.adm rfl ?_ | refine WS.region (by simp only [EV, TY, lget, EV2, callV_138, cc, fa60_1, l1, a1, a2, ↓reduceIte, Nat.reduceEqDiff]; with_reducible rfl) ?_)
 refine ret2k (t := 4) (u := 5) rfl rfl ?_ ?_
 iterate 2 simp only [EV, lget, ↓reduceIte, Nat.reduceEqDiff, AT]
theorem Write_ok {T : Store} {id : Nat} {bs : List UInt8} (h : Bld T id bs) (p : Nat) (s : List UInt8) (hp : T[p]? = some (.cells (bytesV s) 5)) (hl : bs.length + s.length ≤ 140737488355328) : ∃ T', vrun E0 (.fn 161) [.ref id 0, .slR p 0 s.length s.length 1] T = some (.tup [.int .i64 (s.length : Nat), .nili], T') ∧ Bld T' id (bs ++ s) ∧ Low id T T' := by
 obtain ⟨addr, buf, h1, h2, h3, h4⟩ := h
 have hid := lt_of_get h1
 have cc := copyCheck_ok h1 h2
 have g1 : (T.set id (.cells [.ref id 0, buf] 165))[id]? = some (.cells [.ref id 0, buf] 165) := by simp [hid]
 have hpid : id ≠ p := by
  intro e
  subst e
  rw [h1] at hp
  injection hp with hp
  injection hp with _ hp
  exact absurd hp (by decide)
 have hx : appended (T.set id (.cells [.ref id 0, buf] 165)) 1 (.slR p 0 s.length s.length 1) = some (s.length, bytesV s) := by
  have : (T.set id (.cells [.ref id 0, buf] 165))[p]? = some (.cells (bytesV s) 5) := by rw [List.getElem?_set_ne hpid]; exact hp
  have hl := bytesV_length s
  simp [appended, sliceCells, cellsAt, cellsOf, this, tk, hl, List.take_of_length_le]
 obtain ⟨v', T2, a1, a2, a3, a4⟩ := bld_step g1 (Low.refl (by simp; omega)) (Buf_set (E := E0) h3 (by omega) _) h4 u50.1 u50.2 hx hl
 refine ⟨_, ?_, a3, (Low.set (by omega) (Nat.le_refl _)).trans a4⟩
 refine fn_ws Tryz.func161 rfl ?_
 have l1 := bld_ld1 g1
 repeat (first | refine WS.adm rfl ?_ | refine WS.region (by simp only [EV, TY, lget, EV2, callV_138, cc, fa60_1, l1, a1, a2, ↓reduceIte, Nat.reduceEqDiff]; with_reducible rfl) ?_)
 refine ret2k (t := 4) (u := 5) rfl rfl ?_ ?_
 iterate 2 simp only [EV, lget, ↓reduceIte, Nat.reduceEqDiff, AT]
theorem WriteByte_ok {T : Store} {id : Nat} {bs : List UInt8} (h : Bld T id bs) (c : UInt8) (hl : bs.length + 1 ≤ 140737488355328) : ∃ T', vrun E0 (.fn 162) [.ref id 0, .int .u8 c.toNat] T = some (.nili, T') ∧ Bld T' id (bs ++ [c]) ∧ Low id T T' := by
 obtain ⟨addr, buf, h1, h2, h3, h4⟩ := h
 have hid := lt_of_get h1
 have cc := copyCheck_ok h1 h2
 have g1 : (T.set id (.cells [.ref id 0, buf] 165))[id]? = some (.cells [.ref id 0, buf] 165) := by simp [hid]
 have hm := mk1_ bt50 (T.set id (.cells [.ref id 0, buf] 165)) ((c.toNat : Nat) : Int)
 have hx : appended (T.set id (.cells [.ref id 0, buf] 165) ++ [.cells [.int .u8 c.toNat] 5]) 1 (.slR (T.set id (.cells [.ref id 0, buf] 165)).length 0 1 1 1) = some (1, bytesV [c]) := by
  simp [appended, sliceCells, cellsAt, cellsOf, tk, bytesV]
 have hlow : Low (id + 1) (T.set id (.cells [.ref id 0, buf] 165)) (T.set id (.cells [.ref id 0, buf] 165) ++ [.cells [.int .u8 c.toNat] 5]) := Low.app (by simp; omega) _
 obtain ⟨v', T2, a1, a2, a3, a4⟩ := bld_step g1 hlow ((Buf_set (E := E0) h3 (by omega) _).more _) h4 u50.1 u50.2 (xs := [c]) hx hl
 refine ⟨_, ?_, a3, (Low.set (by omega) (Nat.le_refl _)).trans a4⟩
 refine fn_ws Tryz.func162 rfl ?_
 have l1 := bld_ld1 g1
 repeat (first | refine WS.adm rfl ?_ | refine WS.region (by simp only [EV, TY, lget, EV2, callV_138, cc, fa60_1, l1, hm, a1, a2, ↓reduceIte, Nat.reduceEqDiff]; with_reducible rfl) ?_)
 refine ret1k (t := 4) rfl rfl ?_
 simp only [EV, lget, ↓reduceIte, Nat.reduceEqDiff, AT]
theorem vBytes_pre (s : List UInt8) (r : List V) : vBytes ((bytesV s ++ r).take s.length) = some s := vBytes_take s r
theorem String_ok {T : Store} {id : Nat} {bs : List UInt8} (h : Bld T id bs) (hl : bs.length ≤ 140737488355328) : ∃ T', vrun E0 (.fn 110) [.ref id 0] T = some (.str bs, T') ∧ Low id T T' := by
 obtain ⟨addr, buf, h1, h2, h3, h4⟩ := h
 have hid := lt_of_get h1
 have l1 := bld_ld1 h1
 rcases h3 with ⟨rfl, rfl⟩ | ⟨p, cap, r, hp, rfl, hS, hcap⟩
 ·have e1 : opSliceData .slN = some .nilp := rfl
  have e2 : opUnsafeString E0 T [196, 3] .nilp (.int .i64 ((0 : Nat) : Int)) = some (.str [], T) := rfl
  refine ⟨T, ?_, Low.refl (by omega)⟩
  refine fn_ws Tryz.func110 rfl ?_
  repeat (first | refine WS.adm rfl ?_ | refine WS.rl ?_)
  refine WS.draw (by simp only [DL, isEff, isRead, EV, TY, lget, EV2, fa60_1, l1, e1, e2, ↓reduceIte, Nat.reduceEqDiff]; with_reducible rfl) ?_
  refine ret1k (t := 2) rfl rfl ?_
  simp only [EV, lget, ↓reduceIte, Nat.reduceEqDiff, AT]
 ·have hc : 0 < cap := by
   by_cases hb : bs = []
   ·exact h4 hb _ _ _ _ _ rfl
   ·have := List.length_pos_iff.2 hb; omega
  have e1 : opSliceData (.slR p 0 bs.length cap 1) = some (.ref p 0) := by simp [opSliceData, hc]
  by_cases hb : bs.length = 0
  ·have e2 : opUnsafeString E0 T [196, 3] (.ref p 0) (.int .i64 (bs.length : Nat)) = some (.str bs, T) := by
    have : bs = [] := List.length_eq_zero_iff.1 hb
    subst this
    rfl
   refine ⟨T, ?_, Low.refl (by omega)⟩
   refine fn_ws Tryz.func110 rfl ?_
   repeat (first | refine WS.adm rfl ?_ | refine WS.rl ?_)
   refine WS.draw (by simp only [DL, isEff, isRead, EV, TY, lget, EV2, fa60_1, l1, e1, e2, ↓reduceIte, Nat.reduceEqDiff]; with_reducible rfl) ?_
   refine ret1k (t := 2) rfl rfl ?_
   simp only [EV, lget, ↓reduceIte, Nat.reduceEqDiff, AT]
  ·have hu : E0.P.underlying 196 = _ := Tryz.underlying196
   have e2 : opUnsafeString E0 T [196, 3] (.ref p 0) (.int .i64 (bs.length : Nat)) = some (.str bs, T.set p .gone) := by
    have hv := vBytes_pre bs r
    have hlr := bytesV_length bs
    unfold opUnsafeString
    simp [hb, hu, tsize_5, Vm.elemOf, hS, cellsAt, cellsOf, tk, hlr, hv, hl]
    rw [vBytes_bytesV]
    simp only [Option.bind_some]
    rw [if_pos ⟨by omega, by omega⟩]
   have l2 : ((T.set p .gone)[id]?) = some (.cells [addr, .slR p 0 bs.length cap 1] 165) := by rw [List.getElem?_set_ne (by omega)]; exact h1
   have l3 := bld_ld1 l2
   refine ⟨T.set p .gone, ?_, Low.set (by omega) (by omega)⟩
   refine fn_ws Tryz.func110 rfl ?_
   repeat (first | refine WS.adm rfl ?_ | refine WS.rl ?_)
   refine WS.draw (by simp only [DL, isEff, isRead, EV, TY, lget, EV2, fa60_1, l1, l3, e1, e2, ↓reduceIte, Nat.reduceEqDiff]; with_reducible rfl) ?_
   refine ret1k (t := 2) rfl rfl ?_
   simp only [EV, lget, ↓reduceIte, Nat.reduceEqDiff, AT]
def digS (n : Nat) : UInt8 := digitsS.getD n 0
def valB (n i : Nat) (c : UInt8) : List UInt8 :=
 if c < 32 ∨ c = 127 then [92, digS (c.toNat / 16), digS (c.toNat % 16)]
 else if isIn spL c = true ∨ (i = 0 ∧ (c = 35 ∨ c = 32)) ∨ (i + 1 = n ∧ c = 32) then [92, c] else [c]
def valF (n : Nat) : Nat → List UInt8 → List UInt8
 | _, [] => []
 | i, c :: s => valB n i c ++ valF n (i + 1) s
def valueS (s : List UInt8) : List UInt8 := valF s.length 0 s
theorem valB_len (n i : Nat) (c : UInt8) : (valB n i c).length ≤ 3 := by
 unfold valB
 split
 ·simp
 ·split <;> simp
theorem alloc_60 (S : Store) : opAlloc E0 S 165 = some (.ref S.length 0, S ++ [.cells [.nilp, .slN] 165]) := by
 unfold opAlloc
 rw [zeroV_165]
 rfl
theorem shr4 (l : Bool) (c : UInt8) : opBin E0 l .shr 5 (.int .u8 c.toNat) (.int .u64 4) = some (.int .u8 ((c.toNat / 16 : Nat) : Int)) := by
 rw [bin_shr _ _ _ _ _ (by omega)]
 simp [IntKind.bits]
 rw [Int.fdiv_eq_ediv_of_nonneg _ (by omega)]
theorem and15 (l : Bool) (c : UInt8) : opBin E0 l .and 5 (.int .u8 c.toNat) (.int .u8 15) = some (.int .u8 ((c.toNat % 16 : Nat) : Int)) := by
 rw [bin_and]
 have := all256 (p := fun c => decide (IntKind.u8.wrap (BitVec.ofInt IntKind.u8.bits ((c.toNat : Nat) : Int) &&& BitVec.ofInt IntKind.u8.bits 15).toNat = ((c.toNat % 16 : Nat) : Int))) (by decide +kernel) c
 rw [of_decide_eq_true this]
theorem dig_ix (n : Nat) (h : n < 16) : opIndex E0 9 (.str [48, 49, 50, 51, 52, 53, 54, 55, 56, 57, 97, 98, 99, 100, 101, 102]) (.int .u8 (n : Nat)) = some (.int .u8 (digS n).toNat) := idx_str_9 digitsS .u8 n (by simpa [digitsS] using h)
theorem mk3 (S : Store) (a b : UInt8) : opBuildSlice E0 S 140 3 [(0, .int .u8 92), (1, .int .u8 a.toNat), (2, .int .u8 b.toNat)] = some (.slR S.length 0 3 3 1, S ++ [.cells (bytesV [92, a, b]) 5]) := by kernel_rfl
theorem value_ok (s : List UInt8) (S : Store) (hs : s.length ≤ 1048576) : vrun E0 (.fn 139) [.str s] S = some (.str (valueS s), S) := by
 refine fn_ws Tryz.func139 rfl ?_
 have hal := alloc_60 S
 repeat (first | refine WS.adm rfl ?_ | refine WS.region (by simp only [EV, TY, lget, hal, ↓reduceIte, Nat.reduceEqDiff]; with_reducible rfl) ?_)
 refine WS.loopB (fun j fr T => ∃ i out, j = s.length - i ∧ i ≤ s.length ∧ out.length ≤ 3 * i ∧ lget fr 0 = .str s ∧ lget fr 3 = .ref S.length 0 ∧ lget fr 7 = .int .i64 (s.length : Nat) ∧ lget fr 8 = .int .i64 (i : Nat) ∧ Bld T S.length out ∧ Low S.length S T ∧ out ++ valF s.length i (s.drop i) = valueS s)
  (fun fr T => ∃ out, out.length ≤ 3 * s.length ∧ lget fr 3 = .ref S.length 0 ∧ Bld T S.length out ∧ Low S.length S T ∧ out = valueS s) (j := s.length) ?_ ?_ ?_
 ·refine ⟨0, [], by omega, by omega, by simp, ?_, ?_, ?_, ?_, Bld.new S, Low.app (Nat.le_refl _) _, rfl⟩
  all_goals
   simp only [EV, lget, ↓reduceIte, Nat.reduceEqDiff, AT]
   try rfl
 ·rintro fr T ⟨out, hl, h3, hb, hlow, rfl⟩
  obtain ⟨T', e1, e2⟩ := String_ok hb (by omega)
  repeat (first | refine WS.adm rfl ?_ | refine WS.region (by simp only [EV, TY, h3, callV_110, e1, ↓reduceIte, Nat.reduceEqDiff]; with_reducible rfl) ?_)
  refine WS.ret1s (t := 2) rfl rfl (hlow.trans e2).pre (frz_str _ _ _) ?_
  simp only [EV, ↓reduceIte, Nat.reduceEqDiff, AT]
 ·rintro j fr T ⟨i, out, rfl, hi, hol, h0, h3, h7, h8, hb, hlow, hv⟩ ih last
  by_cases hlt : i < s.length
  ·have hlt' : ((i : Nat) : Int) < ((s.length : Nat) : Int) := by omega
   have ex := idx_str_9 s .i64 i hlt
   rw [drop_cons s i hlt, valF] at hv
   have iinc := wrap_inc i (by omega)
   have idec : IntKind.i64.wrap (((s.length : Nat) : Int) - 1) = ((s.length - 1 : Nat) : Int) := wrap_sub1 s.length (by omega) (by omega)
   generalize s.getD i 0 = c at ex hv
   have hI := fun T => IndexByte_ok spL c T
   simp only [spL] at hI
   have lt32 : ((c.toNat : Nat) : Int) < 32 ↔ c < 32 := by rw [UInt8.lt_iff_toNat_lt]; simp; omega
   have vl := valB_len s.length i c
   have go : ∀ (T' : Store) (fr' : Fr), Bld T' S.length (out ++ valB s.length i c) → Low S.length T T' → lget fr' 0 = .str s → lget fr' 3 = .ref S.length 0 → lget fr' 7 = .int .i64 (s.length : Nat) → lget fr' 8 = .int .i64 ((i + 1 : Nat) : Int) → WS E0 _ fr' T' _ := fun T' fr' b1 b2 g0 g3 g7 g8 =>
    ih (s.length - (i + 1)) _ _ (by omega) ⟨i + 1, out ++ valB s.length i c, rfl, by omega, by simp; omega, g0, g3, g7, g8, b1, hlow.trans b2, by rw [List.append_assoc]; exact hv⟩
   have caseA : (c < 32 ∨ c = 127) → ∀ fr' : Fr, True := fun _ _ => trivial
   by_cases c1 : c < 32 ∨ c = 127
   ·have hvb : valB s.length i c = [92, digS (c.toNat / 16), digS (c.toNat % 16)] := by unfold valB; rw [if_pos c1]
    rw [hvb] at go
    have hc := c.toNat_lt
    have d1 := dig_ix (c.toNat / 16) (by omega)
    have d2 := dig_ix (c.toNat % 16) (by omega)
    have m3 := mk3 T (digS (c.toNat / 16)) (digS (c.toNat % 16))
    have hlowT : S.length + 1 ≤ T.length := by obtain ⟨_, _, hx, _⟩ := hb; have := lt_of_get hx; omega
    have hb' : Bld (T ++ [.cells (bytesV [92, digS (c.toNat / 16), digS (c.toNat % 16)]) 5]) S.length out := by
     obtain ⟨a, b, x1, x2, x3, x4⟩ := hb
     exact ⟨a, b, get_more x1 _, x2, x3.more _, x4⟩
    obtain ⟨T', w1, w2, w3⟩ := Write_ok hb' T.length [92, digS (c.toNat / 16), digS (c.toNat % 16)] (getS0 _) (by simp; omega)
    have w1' : vrun E0 (.fn 161) [.ref S.length 0, .slR T.length 0 3 3 1] (T ++ [.cells (bytesV [92, digS (c.toNat / 16), digS (c.toNat % 16)]) 5]) = some (.tup [.int .i64 3, .nili], T') := w1
    have lw : Low S.length T T' := (Low.app (by omega) _).trans w3
    by_cases c32 : c < 32
    ·have t32 := lt32.2 c32
     repeat (first | refine WS.adm rfl ?_ | refine WS.region (by simp only [EV, TY, h7, h8, hlt', ↓reduceIte, Nat.reduceEqDiff]; with_reducible rfl) ?_)
     refine WS.ct0 ?_
     repeat (first | refine WS.adm rfl ?_ | refine WS.region (by simp only [EV, TY, h0, h8, ex, t32, ↓reduceIte, Nat.reduceEqDiff]; with_reducible rfl) ?_)
     refine WS.cond_true (by simp only [EV, t32, ↓reduceIte, Nat.reduceEqDiff]) ?_
     repeat refine WS.adm rfl ?_
     refine WS.draw (by simp only [DL, isEff, isRead, EV, TY, h3, shr4, and15, d1, d2, m3, callV_161, w1', ↓reduceIte, Nat.reduceEqDiff]; with_reducible rfl) ?_
     refine WS.exit rfl ?_
     repeat (first | refine WS.adm rfl ?_ | refine WS.region (by simp only [EV, TY, h8, iinc, ↓reduceIte, Nat.reduceEqDiff]; with_reducible rfl) ?_)
     refine go T' _ w2 lw ?_ ?_ ?_ ?_
     iterate 4 simp only [EV, h0, h3, h7, ↓reduceIte, Nat.reduceEqDiff, AT]
    ·have t32 : ¬ ((c.toNat : Nat) : Int) < 32 := fun h => c32 (lt32.1 h)
     have c127 : c = 127 := c1.resolve_left c32
     repeat (first | refine WS.adm rfl ?_ | refine WS.region (by simp only [EV, TY, h7, h8, hlt', ↓reduceIte, Nat.reduceEqDiff]; with_reducible rfl) ?_)
     refine WS.ct0 ?_
     repeat (first | refine WS.adm rfl ?_ | refine WS.region (by simp only [EV, TY, h0, h8, ex, t32, eq8t c127 127 rfl, ↓reduceIte, Nat.reduceEqDiff]; with_reducible rfl) ?_)
     refine WS.cond_true (by simp only [EV, t32, eq8t c127 127 rfl, ↓reduceIte, Nat.reduceEqDiff]) ?_
     repeat refine WS.adm rfl ?_
     refine WS.draw (by simp only [DL, isEff, isRead, EV, TY, h3, shr4, and15, d1, d2, m3, callV_161, w1', ↓reduceIte, Nat.reduceEqDiff]; with_reducible rfl) ?_
     refine WS.exit rfl ?_
     repeat (first | refine WS.adm rfl ?_ | refine WS.region (by simp only [EV, TY, h8, iinc, ↓reduceIte, Nat.reduceEqDiff]; with_reducible rfl) ?_)
     refine go T' _ w2 lw ?_ ?_ ?_ ?_
     iterate 4 simp only [EV, h0, h3, h7, ↓reduceIte, Nat.reduceEqDiff, AT]
   ·have t32 : ¬ ((c.toNat : Nat) : Int) < 32 := fun h => c1 (.inl (lt32.1 h))
    have c127 : ¬ c = 127 := fun h => c1 (.inr h)
    obtain ⟨T1, p1, p2, p3⟩ := WriteByte_ok hb 92 (by omega)
    have p1' : vrun E0 (.fn 162) [.ref S.length 0, .int .u8 92] T = some (.nili, T1) := p1
    obtain ⟨T2, r1, r2, r3⟩ := WriteByte_ok p2 c (by simp; omega)
    obtain ⟨T3, q1, q2, q3⟩ := WriteByte_ok hb c (by omega)
    have esc : isIn spL c = true ∨ (i = 0 ∧ (c = 35 ∨ c = 32)) ∨ (i + 1 = s.length ∧ c = 32) → valB s.length i c = [92, c] := fun h => by unfold valB; rw [if_neg c1, if_pos h]
    have pln : ¬ (isIn spL c = true ∨ (i = 0 ∧ (c = 35 ∨ c = 32)) ∨ (i + 1 = s.length ∧ c = 32)) → valB s.length i c = [c] := fun h => by unfold valB; rw [if_neg c1, if_neg h]
    repeat (first | refine WS.adm rfl ?_ | refine WS.region (by simp only [EV, TY, h7, h8, hlt', ↓reduceIte, Nat.reduceEqDiff]; with_reducible rfl) ?_)
    refine WS.ct0 ?_
    repeat (first | refine WS.adm rfl ?_ | refine WS.region (by simp only [EV, TY, h0, h8, ex, t32, eq8f c127 127 rfl, ↓reduceIte, Nat.reduceEqDiff]; with_reducible rfl) ?_)
    refine WS.cond_false (by simp only [EV, t32, eq8f c127 127 rfl, ↓reduceIte, Nat.reduceEqDiff]) ?_
    by_cases c5 : (0 : Int) ≤ idxInt (List.findIdx? (fun x => x == c) [34, 43, 44, 59, 60, 62, 92])
    ·have hvb := esc (.inl ((idx_ge _ _).1 c5))
     rw [hvb] at go
     repeat (first | refine WS.adm rfl ?_ | refine WS.region (by simp only [EV, TY, callV_131, hI, c5, ↓reduceIte, Nat.reduceEqDiff]; with_reducible rfl) ?_)
     refine WS.ct0 ?_
     repeat refine WS.adm rfl ?_
     refine WS.ct0 ?_
     repeat (first | refine WS.adm rfl ?_ | refine WS.region (by simp only [EV, TY, h3, callV_162, p1', r1, h8, iinc, ↓reduceIte, Nat.reduceEqDiff]; with_reducible rfl) ?_)
     refine go T2 _ (by rw [show out ++ [92, c] = (out ++ [92]) ++ [c] by simp]; exact r2) (p3.trans r3) ?_ ?_ ?_ ?_
     iterate 4 simp only [EV, h0, h3, h7, ↓reduceIte, Nat.reduceEqDiff, AT]
    ·have n5 : ¬ isIn spL c = true := fun h => c5 ((idx_ge _ _).2 h)
     repeat (first | refine WS.adm rfl ?_ | refine WS.region (by simp only [EV, TY, callV_131, hI, c5, ↓reduceIte, Nat.reduceEqDiff]; with_reducible rfl) ?_)
     refine WS.cf0 ?_
     have last10 : ∀ (fr : Fr), True := fun _ => trivial
     by_cases i0 : i = 0
     ·have hi0 : (((i : Nat) : Int) == 0) = true := by simp [i0]
      by_cases c35 : c = 35
      ·rw [esc (.inr (.inl ⟨i0, .inl c35⟩))] at go
       repeat (first | refine WS.adm rfl ?_ | refine WS.region (by simp only [EV, TY, hi0, eq8t c35 35 rfl, ↓reduceIte, Nat.reduceEqDiff]; with_reducible rfl) ?_)
       refine WS.cond_true (by simp only [EV, hi0, eq8t c35 35 rfl, ↓reduceIte, Nat.reduceEqDiff]) ?_
       repeat refine WS.adm rfl ?_
       refine WS.cond_true (by simp only [EV, hi0, eq8t c35 35 rfl, ↓reduceIte, Nat.reduceEqDiff]) ?_
       repeat (first | refine WS.adm rfl ?_ | refine WS.region (by simp only [EV, TY, h3, callV_162, p1', r1, h8, iinc, ↓reduceIte, Nat.reduceEqDiff]; with_reducible rfl) ?_)
       refine go T2 _ (by rw [show out ++ [92, c] = (out ++ [92]) ++ [c] by simp]; exact r2) (p3.trans r3) ?_ ?_ ?_ ?_
       iterate 4 simp only [EV, h0, h3, h7, ↓reduceIte, Nat.reduceEqDiff, AT]
      by_cases c32 : c = 32
      ·rw [esc (.inr (.inl ⟨i0, .inr c32⟩))] at go
       repeat (first | refine WS.adm rfl ?_ | refine WS.region (by simp only [EV, TY, hi0, eq8f c35 35 rfl, eq8t c32 32 rfl, ↓reduceIte, Nat.reduceEqDiff]; with_reducible rfl) ?_)
       refine WS.cond_true (by simp only [EV, hi0, eq8f c35 35 rfl, eq8t c32 32 rfl, ↓reduceIte, Nat.reduceEqDiff]) ?_
       repeat refine WS.adm rfl ?_
       refine WS.cond_true (by simp only [EV, hi0, eq8f c35 35 rfl, eq8t c32 32 rfl, ↓reduceIte, Nat.reduceEqDiff]) ?_
       repeat (first | refine WS.adm rfl ?_ | refine WS.region (by simp only [EV, TY, h3, callV_162, p1', r1, h8, iinc, ↓reduceIte, Nat.reduceEqDiff]; with_reducible rfl) ?_)
       refine go T2 _ (by rw [show out ++ [92, c] = (out ++ [92]) ++ [c] by simp]; exact r2) (p3.trans r3) ?_ ?_ ?_ ?_
       iterate 4 simp only [EV, h0, h3, h7, ↓reduceIte, Nat.reduceEqDiff, AT]
      rw [pln (fun h => h.elim n5 (fun h => h.elim (fun h => h.2.elim c35 c32) (fun h => c32 h.2)))] at go
      repeat (first | refine WS.adm rfl ?_ | refine WS.region (by simp only [EV, TY, hi0, eq8f c35 35 rfl, eq8f c32 32 rfl, ↓reduceIte, Nat.reduceEqDiff]; with_reducible rfl) ?_)
      refine WS.cond_false (by simp only [EV, hi0, eq8f c35 35 rfl, eq8f c32 32 rfl, ↓reduceIte, Nat.reduceEqDiff]) ?_
      by_cases il : i = s.length - 1
      ·have hil : (((i : Nat) : Int) == ((s.length - 1 : Nat) : Int)) = true := beq_iff_eq.2 (by omega)
       repeat (first | refine WS.adm rfl ?_ | refine WS.region (by simp only [EV, TY, h0, idec, hil, eq8f c32 32 rfl, ↓reduceIte, Nat.reduceEqDiff]; with_reducible rfl) ?_)
       repeat refine WS.adm rfl ?_
       refine WS.cond_false (by simp only [EV, hil, eq8f c32 32 rfl, ↓reduceIte, Nat.reduceEqDiff]) ?_
       repeat (first | refine WS.adm rfl ?_ | refine WS.region (by simp only [EV, TY, h3, callV_162, q1, h8, iinc, ↓reduceIte, Nat.reduceEqDiff]; with_reducible rfl) ?_)
       refine go T3 _ q2 q3 ?_ ?_ ?_ ?_
       iterate 4 simp only [EV, h0, h3, h7, ↓reduceIte, Nat.reduceEqDiff, AT]
      ·have hil : (((i : Nat) : Int) == ((s.length - 1 : Nat) : Int)) = false := beq_eq_false_iff_ne.2 (by omega)
       repeat (first | refine WS.adm rfl ?_ | refine WS.region (by simp only [EV, TY, h0, idec, hil, ↓reduceIte, Nat.reduceEqDiff]; with_reducible rfl) ?_)
       repeat refine WS.adm rfl ?_
       refine WS.cond_false (by simp only [EV, hil, ↓reduceIte, Nat.reduceEqDiff]) ?_
       repeat (first | refine WS.adm rfl ?_ | refine WS.region (by simp only [EV, TY, h3, callV_162, q1, h8, iinc, ↓reduceIte, Nat.reduceEqDiff]; with_reducible rfl) ?_)
       refine go T3 _ q2 q3 ?_ ?_ ?_ ?_
       iterate 4 simp only [EV, h0, h3, h7, ↓reduceIte, Nat.reduceEqDiff, AT]
     ·have hi0 : (((i : Nat) : Int) == 0) = false := beq_eq_false_iff_ne.2 (by omega)
      repeat (first | refine WS.adm rfl ?_ | refine WS.region (by simp only [EV, TY, hi0, ↓reduceIte, Nat.reduceEqDiff]; with_reducible rfl) ?_)
      refine WS.cond_false (by simp only [EV, hi0, ↓reduceIte, Nat.reduceEqDiff]) ?_
      by_cases il : i = s.length - 1
      ·have hil : (((i : Nat) : Int) == ((s.length - 1 : Nat) : Int)) = true := beq_iff_eq.2 (by omega)
       by_cases c32 : c = 32
       ·rw [esc (.inr (.inr ⟨by omega, c32⟩))] at go
        repeat (first | refine WS.adm rfl ?_ | refine WS.region (by simp only [EV, TY, h0, idec, hil, eq8t c32 32 rfl, ↓reduceIte, Nat.reduceEqDiff]; with_reducible rfl) ?_)
        repeat refine WS.adm rfl ?_
        refine WS.cond_true (by simp only [EV, hil, eq8t c32 32 rfl, ↓reduceIte, Nat.reduceEqDiff]) ?_
        repeat (first | refine WS.adm rfl ?_ | refine WS.region (by simp only [EV, TY, h3, callV_162, p1', r1, h8, iinc, ↓reduceIte, Nat.reduceEqDiff]; with_reducible rfl) ?_)
        refine go T2 _ (by rw [show out ++ [92, c] = (out ++ [92]) ++ [c] by simp]; exact r2) (p3.trans r3) ?_ ?_ ?_ ?_
        iterate 4 simp only [EV, h0, h3, h7, ↓reduceIte, Nat.reduceEqDiff, AT]
       ·rw [pln (fun h => h.elim n5 (fun h => h.elim (fun h => i0 h.1) (fun h => c32 h.2)))] at go
        repeat (first | refine WS.adm rfl ?_ | refine WS.region (by simp only [EV, TY, h0, idec, hil, eq8f c32 32 rfl, ↓reduceIte, Nat.reduceEqDiff]; with_reducible rfl) ?_)
        repeat refine WS.adm rfl ?_
        refine WS.cond_false (by simp only [EV, hil, eq8f c32 32 rfl, ↓reduceIte, Nat.reduceEqDiff]) ?_
        repeat (first | refine WS.adm rfl ?_ | refine WS.region (by simp only [EV, TY, h3, callV_162, q1, h8, iinc, ↓reduceIte, Nat.reduceEqDiff]; with_reducible rfl) ?_)
        refine go T3 _ q2 q3 ?_ ?_ ?_ ?_
        iterate 4 simp only [EV, h0, h3, h7, ↓reduceIte, Nat.reduceEqDiff, AT]
      ·have hil : (((i : Nat) : Int) == ((s.length - 1 : Nat) : Int)) = false := beq_eq_false_iff_ne.2 (by omega)
       rw [pln (fun h => h.elim n5 (fun h => h.elim (fun h => i0 h.1) (fun h => il (by omega))))] at go
       repeat (first | refine WS.adm rfl ?_ | refine WS.region (by simp only [EV, TY, h0, idec, hil, ↓reduceIte, Nat.reduceEqDiff]; with_reducible rfl) ?_)
       repeat refine WS.adm rfl ?_
       refine WS.cond_false (by simp only [EV, hil, ↓reduceIte, Nat.reduceEqDiff]) ?_
       repeat (first | refine WS.adm rfl ?_ | refine WS.region (by simp only [EV, TY, h3, callV_162, q1, h8, iinc, ↓reduceIte, Nat.reduceEqDiff]; with_reducible rfl) ?_)
       refine go T3 _ q2 q3 ?_ ?_ ?_ ?_
       iterate 4 simp only [EV, h0, h3, h7, ↓reduceIte, Nat.reduceEqDiff, AT]
  ·have hlt' : ¬ ((i : Nat) : Int) < ((s.length : Nat) : Int) := by omega
   repeat (first | refine WS.adm rfl ?_ | refine WS.region (by simp only [EV, TY, h7, h8, hlt', ↓reduceIte, Nat.reduceEqDiff]; with_reducible rfl) ?_)
   refine WS.cf0 ?_
   refine WS.exit rfl ?_
   have : s.drop i = [] := List.drop_eq_nil_iff.2 (by omega)
   rw [this, valF, List.append_nil] at hv
   refine last _ _ ⟨out, by omega, ?_, hb, hlow, hv⟩
   simp only [EV, h3, ↓reduceIte, Nat.reduceEqDiff, AT]
theorem callV_182 (c : CallT) (n : Nat) (hn : n ≤ 140737488355328) (S : Store) : callV E0 c (.fn (.func 182) [] []) [.int .i64 (n : Nat)] S = some (.slR S.length 0 n n 1, S ++ [.cells (List.replicate n .junk) 5]) := by
 have h : callV E0 c (.fn (.func 182) [] []) [.int .i64 (n : Nat)] S = externV E0 "internal/bytealg.MakeNoZero" [140] [.int .i64 (n : Nat)] S := by kernel_rfl
 rw [h]
 unfold externV
 simp [elemT_140, tsize_5, hn]
 omega
theorem tb20 : Nat.testBit 255 3 = true := rfl
theorem growF_ok {T : Store} {id : Nat} {addr : V} (h1 : T[id]? = some (.cells [addr, .slN] 165)) (n : Nat) (hn0 : 0 < n) (hn : n ≤ 1073741824) : ∃ T', vrun E0 (.fn 170) [.ref id 0, .int .i64 (n : Nat)] T = some (.tup [], T') ∧ T'[id]? = some (.cells [addr, .slR T.length 0 0 n 1] 165) ∧ T'[T.length]? = some (.cells (List.replicate n .junk) 5) ∧ Low id T T' := by
 have hid := lt_of_get h1
 have l1 := bld_ld1 h1
 have l1c : ((cellsOf T id).bind fun cs => cs[1]?) = some .slN := by rw [cellsOf_of h1]; rfl
 have h2 : (T ++ [.cells (List.replicate n .junk) 5])[id]? = some (.cells [addr, .slN] 165) := get_more h1 _
 have l2 := bld_ld1 h2
 have st := bld_st1 h2 (v := .slR T.length 0 0 n 1) rfl (fun cs h => by cases h)
 have c0 : opCap E0 140 .slN = some (.int .i64 0) := by
  have hu : E0.P.underlying 140 = _ := Tryz.underlying140
  simp [opCap, hu]
 have w0 : IntKind.i64.wrap (2 * (0 : Int)) = 0 := by decide
 have w1 : IntKind.i64.wrap ((0 : Int) + ((n : Nat) : Int)) = ((n : Nat) : Int) := by rw [wrap_i64 (by omega) (by omega)]; omega
 have mk := fun c => callV_182 c n (by omega) T
 have sl : opSlice E0 140 (.slR T.length 0 n n 1) none (some (.int .i64 ((0 : Nat) : Int))) none = some (.slR T.length 0 0 n 1) := by
  have hu : E0.P.underlying 140 = _ := Tryz.underlying140
  unfold opSlice
  simp [hu, tsize_5, bnd]
 have cp : opCopy E0 (T ++ [.cells (List.replicate n .junk) 5]) [140, 140] (.slR T.length 0 0 n 1) .slN = some (.int .i64 0, T ++ [.cells (List.replicate n .junk) 5]) := by
  unfold opCopy
  simp [elemT_140, tsize_5, appended, sliceCells, putAt, cellsOf, Vm.elemOf, splice]
 refine ⟨(T ++ [Ob.cells (List.replicate n .junk) 5]).set id (.cells [addr, .slR T.length 0 0 n 1] 165), ?_, by rw [List.getElem?_set_self (by simp; omega)], ?_, (Low.app (by omega) _).trans (Low.set (by simp; omega) (Nat.le_refl _))⟩
 ·refine fn_ws Tryz.func170 rfl ?_
  repeat refine WS.adm rfl ?_
  refine WS.drawb (b := [0, 1, 3, 7, 15, 31, 0, 127, 255, 0, 512, 1536, 3584, 7680, 16383, 32767]) (by kernel_rfl) (by simp only [DL, isEff, isRead, Nat.reduceAdd, EV, TY,  lget, EV2, fa60_1, l1, l1c, l2, c0, w0, w1, mk, sl, tb20, ↓reduceIte, Nat.reduceEqDiff]; with_reducible rfl) ?_
  repeat (first | refine WS.adm rfl ?_ | refine WS.region (by simp only [EV, TY, lget, EV2, fa60_1, l2, cp, st, ↓reduceIte, Nat.reduceEqDiff]; with_reducible rfl) ?_)
  exact ends0 rfl rfl
 ·rw [List.getElem?_set_ne (by omega)]
  exact getS0 _
theorem Grow_ok {T : Store} {id : Nat} {addr : V} (h1 : T[id]? = some (.cells [addr, .slN] 165)) (ha : addr = .nilp ∨ addr = .ref id 0) (n : Nat) (hn0 : 0 < n) (hn : n ≤ 1073741824) : ∃ T', vrun E0 (.fn 152) [.ref id 0, .int .i64 (n : Nat)] T = some (.tup [], T') ∧ Bld T' id [] ∧ Low id T T' := by
 have hid := lt_of_get h1
 have cc := copyCheck_ok h1 ha
 have g1 : (T.set id (.cells [.ref id 0, .slN] 165))[id]? = some (.cells [.ref id 0, .slN] 165) := by simp [hid]
 have l1 := bld_ld1 g1
 obtain ⟨T', e1, e2, e3, e4⟩ := growF_ok g1 n hn0 hn
 have c0 : opCap E0 140 .slN = some (.int .i64 0) := by
  have hu : E0.P.underlying 140 = _ := Tryz.underlying140
  simp [opCap, hu]
 have w0 : IntKind.i64.wrap ((0 : Int) - ((0 : Nat) : Int)) = 0 := by decide
 have hneg : ¬ ((n : Nat) : Int) < 0 := by omega
 have hlt : (0 : Int) < ((n : Nat) : Int) := by omega
 refine ⟨T', ?_, ⟨_, _, e2, .inr rfl, .inr ⟨_, n, List.replicate n .junk, ?_, rfl, ?_, by simp⟩, fun _ i o l c z h => by injection h; omega⟩, (Low.set (by omega) (Nat.le_refl _)).trans e4⟩
 ·refine fn_ws Tryz.func152 rfl ?_
  repeat (first | refine WS.adm rfl ?_ | refine WS.region (by simp only [EV, TY, lget, EV2, callV_138, cc, hneg, ↓reduceIte, Nat.reduceEqDiff]; with_reducible rfl) ?_)
  refine WS.cond_false (by simp only [EV, lget, hneg, ↓reduceIte, Nat.reduceEqDiff]) ?_
  repeat refine WS.adm rfl ?_
  refine WS.draw (by simp only [DL, isEff, isRead, EV, TY, lget, EV2, fa60_1, l1, c0, w0, hlt, ↓reduceIte, Nat.reduceEqDiff]; with_reducible rfl) ?_
  refine WS.cond_true (by simp only [EV, lget, hlt, ↓reduceIte, Nat.reduceEqDiff]) ?_
  repeat (first | refine WS.adm rfl ?_ | refine WS.region (by simp only [EV, TY, lget, callV_170, e1, ↓reduceIte, Nat.reduceEqDiff]; with_reducible rfl) ?_)
  exact ends0 rfl rfl
 ·simp; omega
 ·rw [e3]; rfl
def joinC (c : UInt8) : List (List UInt8) → List UInt8
 | [] => []
 | a :: l => a ++ l.flatMap fun w => c :: w
def lsum (l : List (List UInt8)) : Nat := (l.map (·.length)).sum
abbrev isStrs (S : Store) (v : V) (l : List (List UInt8)) : Prop := Sl S 1 v l.length (strsC l)
theorem strs_at {S : Store} {v : V} {l : List (List UInt8)} (h : isStrs S v l) (i : Nat) (hi : i < l.length) : ∃ a, opIndexAddr E0 28 v (.int .i64 (i : Nat)) = some a ∧ opLoad E0 S 9 a = some (.str (l.getD i [])) := by
 obtain ⟨a, r, h1, h2⟩ := Sl.at_ (E := E0) h Tryz.underlying28 tsize_9 .i64 i hi
 refine ⟨a, h1, h2.load isAggO_9 (c := .str (l.getD i [])) (r := strsC (l.drop (i + 1)) ++ r) ?_⟩
 rw [Nat.mul_one]
 unfold strsC
 rw [← List.map_drop, drop_getD [] l i hi]
 rfl
theorem strs_pre {S U : Store} (h : S <+: U) {v : V} {l : List (List UInt8)} (hs : isStrs S v l) : isStrs U v l := by
 obtain ⟨L, rfl⟩ := h
 exact Sl.more hs L
theorem lsum_take (l : List (List UInt8)) (i : Nat) (hi : i < l.length) : lsum (l.take (i + 1)) = lsum (l.take i) + (l.getD i []).length := by
 unfold lsum
 rw [List.take_succ_eq_append_getElem hi, List.map_append, List.sum_append, show l.getD i [] = l[i] by simp [List.getD, hi]]
 simp
theorem wrap_full {n : Int} (h0 : -9223372036854775808 ≤ n) (h : n ≤ 9223372036854775807) : IntKind.i64.wrap n = n := by
 simp [IntKind.wrap, IntKind.bits, IntKind.signed]
 omega
theorem lsum_le (l : List (List UInt8)) (i : Nat) : lsum (l.take i) ≤ lsum l := by
 unfold lsum
 conv => rhs; rw [← List.take_append_drop i l]
 rw [List.map_append, List.sum_append]
 omega
theorem flat_len' (c : UInt8) (l : List (List UInt8)) : (l.flatMap fun w => c :: w).length = lsum l + l.length := by
 induction l with
 | nil => rfl
 | cons a l ih => simp only [List.flatMap_cons, List.length_append, List.length_cons, ih, lsum, List.map_cons, List.sum_cons]; omega
theorem Join_ok {S : Store} {v : V} {l : List (List UInt8)} (h : isStrs S v l) (c : UInt8) (hsum : lsum l + l.length ≤ 536870912) : vrun E0 (.fn 130) [v, .str [c]] S = some (.str (joinC c l), S) := by
 refine fn_ws Tryz.func130 rfl ?_
 have hl : opLen E0 S 28 v = some (.int .i64 (l.length : Nat)) := h.len Tryz.underlying28
 by_cases l0 : l.length = 0
 ·obtain rfl : l = [] := List.length_eq_zero_iff.1 l0
  have e0 : (((([] : List (List UInt8)).length : Nat) : Int) == 0) = true := rfl
  repeat (first | refine WS.adm rfl ?_ | refine WS.region (by simp only [EV, TY, lget, hl, e0, ↓reduceIte, Nat.reduceEqDiff]; with_reducible rfl) ?_)
  refine WS.ct0 ?_
  repeat (first | refine WS.adm rfl ?_ | refine WS.r0 ?_)
  refine WS.ret1s (t := 4) rfl rfl (List.prefix_refl _) (frz_str _ _ _) ?_
  simp only [EV, lget, ↓reduceIte, Nat.reduceEqDiff, AT]
  rfl
 have e0 : (((l.length : Nat) : Int) == 0) = false := beq_eq_false_iff_ne.2 (by omega)
 by_cases l1 : l.length = 1
 ·have e1 : (((l.length : Nat) : Int) == 1) = true := beq_iff_eq.2 (by omega)
  obtain ⟨a, a1, a2⟩ := strs_at h 0 (by omega)
  simp only [Int.natCast_zero] at a1
  repeat (first | refine WS.adm rfl ?_ | refine WS.region (by simp only [EV, TY, lget, hl, e0, ↓reduceIte, Nat.reduceEqDiff]; with_reducible rfl) ?_)
  refine WS.cf0 ?_
  repeat (first | refine WS.adm rfl ?_ | refine WS.region (by simp only [EV, TY, lget, e1, ↓reduceIte, Nat.reduceEqDiff]; with_reducible rfl) ?_)
  refine WS.ct0 ?_
  repeat (first | refine WS.adm rfl ?_ | refine WS.region (by simp only [EV, TY, lget, a1, a2, ↓reduceIte, Nat.reduceEqDiff]; with_reducible rfl) ?_)
  refine WS.ret1s (t := 4) rfl rfl (List.prefix_refl _) (frz_str _ _ _) ?_
  simp only [EV, lget, ↓reduceIte, Nat.reduceEqDiff, AT]
  obtain ⟨w, rfl⟩ := List.length_eq_one_iff.1 l1
  simp [joinC]
 have e1 : (((l.length : Nat) : Int) == 1) = false := beq_eq_false_iff_ne.2 (by omega)
 have hc1 : (0 : Int) < 1 := by omega
 have hdec : IntKind.i64.wrap (((l.length : Nat) : Int) - 1) = ((l.length - 1 : Nat) : Int) := wrap_sub1 l.length (by omega) (by omega)
 have hq : ∀ b, opBin E0 b .quo 3 (.int .i64 9223372036854775807) (.int .i64 ((l.length - 1 : Nat) : Int)) = some (.int .i64 (IntKind.i64.wrap ((9223372036854775807 : Int).tdiv ((l.length - 1 : Nat) : Int)))) := fun b => bin_quo _ _ _ _ _ (by omega)
 have hq2 : ¬ IntKind.i64.wrap ((9223372036854775807 : Int).tdiv ((l.length - 1 : Nat) : Int)) ≤ 1 := by
  have hpos : (0 : Int) < ((l.length - 1 : Nat) : Int) := by omega
  rw [Int.tdiv_eq_ediv_of_nonneg (by omega)]
  have h1 : (2 : Int) ≤ 9223372036854775807 / ((l.length - 1 : Nat) : Int) := by
   rw [Int.le_ediv_iff_mul_le hpos]; omega
  have h2 : (9223372036854775807 : Int) / ((l.length - 1 : Nat) : Int) ≤ 9223372036854775807 := Int.ediv_le_self _ (by omega)
  rw [wrap_full (by omega) (by omega)]
  omega
 have hm : IntKind.i64.wrap (1 * ((l.length - 1 : Nat) : Int)) = ((l.length - 1 : Nat) : Int) := by rw [wrap_i64 (by omega) (by omega)]; omega
 have ha : IntKind.i64.wrap (0 + ((l.length - 1 : Nat) : Int)) = ((l.length - 1 : Nat) : Int) := by rw [wrap_i64 (by omega) (by omega)]; omega
 repeat (first | refine WS.adm rfl ?_ | refine WS.region (by simp only [EV, TY, lget, hl, e0, ↓reduceIte, Nat.reduceEqDiff]; with_reducible rfl) ?_)
 refine WS.cf0 ?_
 repeat (first | refine WS.adm rfl ?_ | refine WS.region (by simp only [EV, TY, lget, e1, ↓reduceIte, Nat.reduceEqDiff]; with_reducible rfl) ?_)
 refine WS.cf0 ?_
 repeat (first | refine WS.adm rfl ?_ | refine WS.region (by simp only [EV, TY, lget, hl1, hc1, ↓reduceIte, Nat.reduceEqDiff]; with_reducible rfl) ?_)
 refine WS.ct0 ?_
 repeat (first | refine WS.adm rfl ?_ | refine WS.region (by simp only [EV, TY, lget, hl, hl1, hdec, hq, hq2, ↓reduceIte, Nat.reduceEqDiff]; with_reducible rfl) ?_)
 refine WS.cf0 ?_
 repeat (first | refine WS.adm rfl ?_ | refine WS.region (by simp only [EV, TY, lget, hl, hl1, hdec, hm, ha, ↓reduceIte, Nat.reduceEqDiff]; with_reducible rfl) ?_)
 refine WS.loopB (fun j fr T => ∃ i, j = l.length - i ∧ i ≤ l.length ∧ lget fr 0 = v ∧ lget fr 1 = .str [c] ∧ lget fr 5 = .int .i64 ((l.length - 1 + lsum (l.take i) : Nat) : Int) ∧ lget fr 39 = v ∧ lget fr 40 = .int .i64 (l.length : Nat) ∧ lget fr 41 = .int .i64 (i : Nat) ∧ S = T)
  (fun fr T => lget fr 0 = v ∧ lget fr 1 = .str [c] ∧ lget fr 5 = .int .i64 ((l.length - 1 + lsum l : Nat) : Int) ∧ S = T) (j := l.length) ?_ ?_ ?_
 ·refine ⟨0, by omega, by omega, ?_, ?_, ?_, ?_, ?_, ?_, rfl⟩
  all_goals
   simp only [EV, lget, ↓reduceIte, Nat.reduceEqDiff, AT]
   try rfl
 ·rintro fr T ⟨h0, h1, h5, rfl⟩
  have hal := alloc_60 S
  obtain ⟨T1, g1, g2, g3⟩ := Grow_ok (T := S ++ [Ob.cells [.nilp, .slN] 165]) (id := S.length) (addr := .nilp) (getS0 _) (.inl rfl) (l.length - 1 + lsum l) (by omega) (by omega)
  have low1 : Low S.length S T1 := (Low.app (Nat.le_refl _) _).trans g3
  obtain ⟨a, a1, a2⟩ := strs_at h 0 (by omega)
  simp only [Int.natCast_zero] at a1
  have a3 := load_pre low1.pre isAggO_9 a2
  have l0le : (l.getD 0 []).length ≤ lsum l := by
   have h1 := lsum_take l 0 (by omega)
   have h2 := lsum_le l 1
   simp only [Nat.zero_add] at h1
   omega
  obtain ⟨T2, w1, w2, w3⟩ := WriteString_ok g2 (l.getD 0 []) (by simp only [List.length_nil]; omega)
  rw [List.nil_append] at w2
  obtain ⟨u, s1, s2⟩ := Sl.drop (E := E0) h Tryz.underlying28 tsize_9 .i64 1 (by omega)
  have s1' : opSlice E0 28 v (some (.int .i64 1)) none none = some u := s1
  have s2' : isStrs S u (l.drop 1) := by
   unfold isStrs
   rw [List.length_drop]
   have : strsC (l.drop 1) = (strsC l).drop (1 * 1) := by simp [strsC]
   rw [this]; exact s2
  have lu : opLen E0 T2 28 u = some (.int .i64 ((l.length - 1 : Nat) : Int)) := by
   have := (strs_pre (low1.trans w3).pre s2').len (E := E0) Tryz.underlying28
   rw [List.length_drop] at this
   exact this
  have low2 : Low S.length S T2 := low1.trans w3
  have hrest : lsum l = (l.getD 0 []).length + lsum (l.drop 1) := by
   obtain ⟨x, r, rfl⟩ : ∃ x r, l = x :: r := by
    cases l with
    | nil => exact absurd rfl l0
    | cons x r => exact ⟨x, r, rfl⟩
   simp [lsum]
  have hjoin : joinC c l = l.getD 0 [] ++ (l.drop 1).flatMap fun w => c :: w := by
   cases l with
   | nil => exact absurd rfl l0
   | cons x r => rfl
  have hrl : (l.drop 1).length = l.length - 1 := by simp
  rw [hjoin]
  generalize l.drop 1 = r at s2' hrest hrl
  rw [← hrl] at lu
  generalize l.getD 0 [] = x at a3 w1 w2 hrest l0le
  repeat (first | refine WS.adm rfl ?_ | refine WS.region (by simp only [EV, TY, lget, h0, h1, h5, hal, callV_152, g1, a1, a3, callV_108, w1, s1', lu, ↓reduceIte, Nat.reduceEqDiff]; with_reducible rfl) ?_)
  refine WS.loopB (fun j fr T => ∃ i, j = r.length - i ∧ i ≤ r.length ∧ lget fr 1 = .str [c] ∧ lget fr 8 = .ref S.length 0 ∧ lget fr 63 = u ∧ lget fr 64 = .int .i64 (r.length : Nat) ∧ lget fr 65 = .int .i64 (i : Nat) ∧ Bld T S.length (x ++ (r.take i).flatMap fun w => c :: w) ∧ Low S.length S T)
   (fun fr T => lget fr 8 = .ref S.length 0 ∧ Bld T S.length (x ++ r.flatMap fun w => c :: w) ∧ Low S.length S T) (j := r.length) ?_ ?_ ?_
  ·refine ⟨0, by omega, by omega, ?_, ?_, ?_, ?_, ?_, by simpa using w2, low2⟩
   all_goals
    simp only [EV, lget, h1, ↓reduceIte, Nat.reduceEqDiff, AT]
    try rfl
  ·rintro fr T ⟨h8, hb, hlow⟩
   obtain ⟨T', z1, z2⟩ := String_ok hb (by rw [List.length_append, flat_len']; omega)
   repeat (first | refine WS.adm rfl ?_ | refine WS.region (by simp only [EV, TY, h8, callV_110, z1, ↓reduceIte, Nat.reduceEqDiff]; with_reducible rfl) ?_)
   refine WS.ret1s (t := 4) rfl rfl (hlow.trans z2).pre (frz_str _ _ _) ?_
   simp only [EV, ↓reduceIte, Nat.reduceEqDiff, AT]
  ·rintro j fr T ⟨i, rfl, hi, h1, h8, h63, h64, h65, hb, hlow⟩ ih last
   by_cases hlt : i < r.length
   ·have hlt' : ((i : Nat) : Int) < ((r.length : Nat) : Int) := by omega
    obtain ⟨b, b1, b2⟩ := strs_at s2' i hlt
    have b3 := load_pre hlow.pre isAggO_9 b2
    have ht := lsum_take r i hlt
    have ht2 := lsum_le r (i + 1)
    have htk : (r.take (i + 1)).flatMap (fun w => c :: w) = ((r.take i).flatMap fun w => c :: w) ++ c :: r.getD i [] := by
     rw [List.take_succ_eq_append_getElem hlt, List.flatMap_append]
     simp [List.getD, hlt]
    generalize r.getD i [] = w at b3 ht htk
    have fl1 := flat_len' c (r.take i)
    rw [List.length_take, Nat.min_eq_left hi] at fl1
    obtain ⟨T1', p1, p2, p3⟩ := WriteString_ok hb [c] (by rw [List.length_append, fl1]; simp; omega)
    obtain ⟨T2', q1, q2, q3⟩ := WriteString_ok p2 w (by simp only [List.length_append, fl1]; simp; omega)
    have b4 := load_pre (hlow.trans p3).pre isAggO_9 b2
    have iinc := wrap_inc i (by omega)
    repeat (first | refine WS.adm rfl ?_ | refine WS.region (by simp only [EV, TY, h64, h65, hlt', ↓reduceIte, Nat.reduceEqDiff]; with_reducible rfl) ?_)
    refine WS.ct0 ?_
    repeat (first | refine WS.adm rfl ?_ | refine WS.region (by simp only [EV, TY, h1, h8, h63, h65, b1, b3, callV_108, p1, q1, iinc, ↓reduceIte, Nat.reduceEqDiff]; with_reducible rfl) ?_)
    refine ih (r.length - (i + 1)) _ _ (by omega) ⟨i + 1, rfl, by omega, ?_, ?_, ?_, ?_, ?_, by rw [htk]; simpa using q2, (hlow.trans p3).trans q3⟩
    iterate 5 simp only [EV, h1, h8, h63, h64, ↓reduceIte, Nat.reduceEqDiff, AT]
   ·have hlt' : ¬ ((i : Nat) : Int) < ((r.length : Nat) : Int) := by omega
    repeat (first | refine WS.adm rfl ?_ | refine WS.region (by simp only [EV, TY, h64, h65, hlt', ↓reduceIte, Nat.reduceEqDiff]; with_reducible rfl) ?_)
    refine WS.cf0 ?_
    refine WS.exit rfl ?_
    have : i = r.length := by omega
    subst this
    rw [List.take_length] at hb
    refine last _ _ ⟨?_, hb, hlow⟩
    simp only [EV, h8, ↓reduceIte, Nat.reduceEqDiff, AT]
 ·rintro j fr T ⟨i, rfl, hi, h0, h1, h5, h39, h40, h41, rfl⟩ ih last
  by_cases hlt : i < l.length
  ·have hlt' : ((i : Nat) : Int) < ((l.length : Nat) : Int) := by omega
   obtain ⟨a, a1, a2⟩ := strs_at h i hlt
   have ht := lsum_take l i hlt
   have ht2 := lsum_le l (i + 1)
   generalize l.getD i [] = w at a2 ht
   have iinc := wrap_inc i (by omega)
   have wsub : IntKind.i64.wrap (9223372036854775807 - ((l.length - 1 + lsum (l.take i) : Nat) : Int)) = 9223372036854775807 - ((l.length - 1 + lsum (l.take i) : Nat) : Int) := wrap_full (by omega) (by omega)
   have hng : ¬ (9223372036854775807 - ((l.length - 1 + lsum (l.take i) : Nat) : Int)) < ((w.length : Nat) : Int) := by omega
   have wadd := wrap_addN (l.length - 1 + lsum (l.take i)) w.length (by omega)
   repeat (first | refine WS.adm rfl ?_ | refine WS.region (by simp only [EV, TY, h40, h41, hlt', ↓reduceIte, Nat.reduceEqDiff]; with_reducible rfl) ?_)
   refine WS.ct0 ?_
   repeat (first | refine WS.adm rfl ?_ | refine WS.region (by simp only [EV, TY, h5, h39, h41, a1, a2, wsub, hng, ↓reduceIte, Nat.reduceEqDiff]; with_reducible rfl) ?_)
   refine WS.cond_false (by simp only [EV, hng, ↓reduceIte, Nat.reduceEqDiff]) ?_
   repeat (first | refine WS.adm rfl ?_ | refine WS.region (by simp only [EV, TY, h5, wadd, h41, iinc, ↓reduceIte, Nat.reduceEqDiff]; with_reducible rfl) ?_)
   refine ih (l.length - (i + 1)) _ _ (by omega) ⟨i + 1, rfl, by omega, ?_, ?_, ?_, ?_, ?_, ?_, rfl⟩
   iterate 2 simp only [EV, h0, h1, ↓reduceIte, Nat.reduceEqDiff, AT]
   ·simp only [EV, ↓reduceIte, Nat.reduceEqDiff, AT]
    rw [ht, Nat.add_assoc]
   iterate 3 simp only [EV, h39, h40, ↓reduceIte, Nat.reduceEqDiff, AT]
  ·have hlt' : ¬ ((i : Nat) : Int) < ((l.length : Nat) : Int) := by omega
   repeat (first | refine WS.adm rfl ?_ | refine WS.region (by simp only [EV, TY, h40, h41, hlt', ↓reduceIte, Nat.reduceEqDiff]; with_reducible rfl) ?_)
   refine WS.cf0 ?_
   refine WS.exit rfl ?_
   have : i = l.length := by omega
   subst this
   rw [List.take_length] at h5
   refine last _ _ ⟨?_, ?_, ?_, rfl⟩
   iterate 3 simp only [EV, h0, h1, h5, ↓reduceIte, Nat.reduceEqDiff, AT]
end Go.Proofs.YtmmjlgocihhkcaaGreatDoor
