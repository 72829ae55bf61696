import Derived.Test.YtmmjlgocihhkcaaGreatDoorVmA
import Derived.Laws.Cells
import Derived.Laws.Tables
import Derived.Laws.Strings
import Derived.Laws.BytesString
import Derived.Laws.StructEq
set_option linter.all false
set_option autoImplicit false
namespace Go.Vm
variable {E : Env} {S S' : Store} {m : M}
theorem addr_add (B o j : Nat) : (⟨B, o, none⟩ : Addr).add j = ⟨B, o + j, none⟩ := by
 unfold Addr.add
 split <;> simp_all
theorem cell_of {w : World} {R : Nat} {us : Array Value} {e : TypeId} {fz : Nat × Nat} (h : w.heap[R]? = some (.cells us e fz)) (o : Nat) : w.cell? ⟨R, o, none⟩ = us[o]? := by
 simp [World.cell?, h]
theorem frozen_of {w : World} {R : Nat} {us : Array Value} {e : TypeId} {fz : Nat × Nat} (h : w.heap[R]? = some (.cells us e fz)) (o : Nat) : w.frozen? ⟨R, o, none⟩ = (decide (fz.1 ≤ o) && decide (o < fz.2)) := by
 simp [World.frozen?, h]
theorem leafB_one (v : Value) : leafB v = v.oneCell' := by cases v <;> rfl
theorem run_under {P : Program} {t : TypeId} {d : TypeDesc} (h : P.underlying t = some d) (w : World) : (underlying t).run P w = .ok d w := by
 simp [underlying, h]
theorem run_info {P : Program} {t : TypeId} {i : TypeInfo} (h : P.info? t = some i) (w : World) : (typeInfo t).run P w = .ok i w := by
 simp [typeInfo, h]
theorem run_size {t : TypeId} {n : Nat} (h : tsize E t = some n) (w : World) : (sizeOf t).run E.P w = .ok n w := by
 unfold tsize at h
 obtain ⟨i, hi, rfl⟩ := Option.map_eq_some_iff.1 h
 simp [sizeOf, run_info hi]
theorem run_isAgg {t : TypeId} {g : Bool} (h : isAggO E t = some g) (w : World) : (isAgg t).run E.P w = .ok g w := by
 unfold isAggO at h
 unfold isAgg
 split at h
 ·rename_i hd
  cases h
  simp [run_under hd]
 ·rename_i hd
  cases h
  simp [run_under hd]
 ·rename_i d h1 h2 hd
  cases h
  simp only [Sem.run_bind, run_under hd, Result.andThen_ok]
  cases d <;> first | rfl | (exact absurd rfl (h1 _)) | (exact absurd rfl (h2 _ _))
 ·cases h
theorem elemT_some {t e : TypeId} (h : elemT E t = some e) : E.P.underlying t = some (.slice e) := by
 unfold elemT at h
 split at h
 ·rename_i hd
  cases h
  exact hd
 ·cases h
theorem VR_vLeaf (u : Value) : VR m (vLeaf u) u := by
 unfold vLeaf
 split <;> simp [VR]
theorem VR_vOf (u : Value) : VR m (vOf u) u := by
 unfold vOf
 split
 ·rename_i cs
  split
  ·rename_i h
   simp only [VR]
   refine ⟨cs, rfl, fun u hu => ?_, ?_⟩
   ·rw [← leafB_one]
    exact List.all_eq_true.1 h u hu
   ·have := VRL.of_forall (m := m) vLeaf id (fun a => VR_vLeaf a) cs.toList
    simpa using this
  ·simp [VR]
 ·simp [VR, VRL]
 ·exact VR_vLeaf u
theorem zeroV_sound {t : TypeId} {z : V} (h : zeroV E t = some z) : ∃ u, (∀ w, (zeroValue t).run E.P w = .ok u w) ∧ VR m z u := by
 unfold zeroV at h
 cases hi : E.P.info? t with
 | none => simp [hi] at h
 | some i =>
  cases hz : i.zero with
  | none => simp [hi, hz] at h
  | some u =>
   simp [hi, hz] at h
   subst h
   exact ⟨u, fun w => by simp [zeroValue, run_info hi, hz], VR_vOf u⟩
theorem solid_cells {v : V} {u : Value} (hs : solid v = true) (h : VR m v u) : VRL m (vcells v) u.cells.toList ∧ Leafs u.cells.toList := by
 cases v <;> simp [solid] at hs <;> simp only [VR] at h
 case agg cs =>
  obtain ⟨us, rfl, h1, h2⟩ := h
  exact ⟨by simpa [vcells, Value.cells] using h2, by simpa [Value.cells] using h1⟩
 all_goals
  first
  | subst h
  | (obtain ⟨_, _, _, rfl⟩ := h)
  | (obtain ⟨_, rfl, _⟩ := h)
  | (obtain ⟨_, _, rfl, _⟩ := h)
  | (obtain ⟨_, _, rfl⟩ := h)
  | (obtain ⟨_, _, _, rfl, _⟩ := h)
  | (obtain ⟨_, _, _, _, _, _, _, rfl, _⟩ := h)
 all_goals
  refine ⟨?_, fun x hx => ?_⟩
  ·simp only [vcells, Value.cells]
   refine VRL.one ?_
   simp only [VR]
   first | done | rfl | (refine ⟨_, _, ?_, rfl⟩; assumption) | exact ⟨_, _, _, rfl, by assumption⟩ | exact ⟨_, rfl, by assumption⟩ | exact ⟨_, _, rfl, by assumption⟩ | exact ⟨_, by assumption, rfl⟩ | exact ⟨_, _, _, _, _, _, by assumption, rfl, by assumption⟩
  ·simp [Value.cells] at hx
   subst hx
   rfl
theorem cellsOf_some {id : Nat} {cs : List V} (h : cellsOf S id = some cs) : ∃ e, S[id]? = some (.cells cs e) := by
 unfold cellsOf at h
 split at h
 ·rename_i hc
  cases h
  exact ⟨_, hc⟩
 ·cases h
theorem elemOf_some {id : Nat} {e : TypeId} (h : elemOf S id = some e) : ∃ cs, S[id]? = some (.cells cs e) := by
 unfold elemOf at h
 split at h
 ·rename_i hc
  cases h
  exact ⟨_, hc⟩
 ·cases h
theorem tk_some {cs ds : List V} {n : Nat} (h : tk cs n = some ds) : n ≤ cs.length ∧ ds = cs.take n := by
 unfold tk at h
 split at h
 ·cases h
  exact ⟨by assumption, rfl⟩
 ·cases h
theorem Inv.block (hi : Inv E S m) {id R b : Nat} {cs : List V} {e : TypeId} (hS : S[id]? = some (.cells cs e)) (hp : m.phi id = some (R, b)) :
  ¬ m.I R ∧ ∃ us fz vs, m.w.heap[R]? = some (.cells us e fz) ∧ VRL m cs vs ∧ Leafs vs ∧ (∀ j u, vs[j]? = some u → us[b + j]? = some u) ∧ (∀ o, o < us.size → ¬ (fz.1 ≤ o ∧ o < fz.2)) ∧ b ≤ us.size ∧ ∀ n, tsize E e = some n → b % n = 0 := by
 obtain ⟨R', b', hp', hI, hl⟩ := hi.live id _ hS (by simp)
 rw [hp] at hp'
 cases hp'
 exact ⟨hI, hl⟩
theorem cellsAt_sound (hi : Inv E S m) {p : V} {up : Value} {n : Nat} {cs : List V} (h : cellsAt S p n = some cs) (hp : VR m p up) :
  ∃ B o us, up = .pointer (some ⟨B, o, none⟩) ∧ us.length = n ∧ cs.length = n ∧ VRL m cs us ∧ Leafs us ∧ CellsIn m.w B o us := by
 unfold cellsAt at h
 split at h
 ·rename_i id off
  simp only [VR] at hp
  obtain ⟨R, b, hp, rfl⟩ := hp
  cases hc : cellsOf S id with
  | none => simp [hc] at h
  | some all =>
   simp [hc] at h
   obtain ⟨e, hS⟩ := cellsOf_some hc
   obtain ⟨hle, rfl⟩ := tk_some h
   obtain ⟨_, us, fz, vs, h1, h2, h3, h4, h5, h6⟩ := hi.block hS hp
   have hlen := h2.length
   simp at hle
   refine ⟨R, b + off, (vs.drop off).take n, rfl, ?_, ?_, (h2.drop off).take n, fun u hu => h3 u (List.mem_of_mem_drop (List.mem_of_mem_take hu)), fun j u hj => ?_⟩
   ·simp
    omega
   ·simp
    omega
   ·rw [cell_of h1]
    have hj' : j < n := by
     rcases Nat.lt_or_ge j n with hlt | hge
     ·exact hlt
     ·rw [List.getElem?_take, if_neg (by omega)] at hj
      cases hj
    rw [List.getElem?_take_of_lt hj', List.getElem?_drop] at hj
    have := h4 _ _ hj
    rwa [show b + off + j = b + (off + j) by omega]
 ·rename_i all
  simp only [VR] at hp
  obtain ⟨B, o, us, rfl, hI, hc, hl, hr, _⟩ := hp
  obtain ⟨hle, rfl⟩ := tk_some h
  have hlen := hr.length
  refine ⟨B, o, us.take n, rfl, ?_, ?_, hr.take n, fun u hu => hl u (List.mem_of_mem_take hu), fun j u hj => ?_⟩
  ·simp
   omega
  ·simp
   omega
  ·have hj' : j < n := by
    rcases Nat.lt_or_ge j n with hlt | hge
    ·exact hlt
    ·rw [List.getElem?_take, if_neg (by omega)] at hj
     cases hj
   rw [List.getElem?_take_of_lt hj'] at hj
   exact hc _ _ hj
 ·cases h
theorem run_loadCells_in {P : Program} {w : World} {B o : Nat} {us : List Value} (h : CellsIn w B o us) : (loadCells ⟨B, o, none⟩ us.length).run P w = .ok us.toArray w :=
 run_loadCells_list w _ us (fun j v hj => by rw [addr_add]; exact h j v hj)
theorem opLoad_sound (hi : Inv E S m) {t : TypeId} {p v : V} {up : Value} (h : opLoad E S t p = some v) (hp : VR m p up) :
  ∃ u, (Instr.loadAt t up).run E.P m.w = .ok u m.w ∧ VR m v u := by
 unfold opLoad at h
 cases hg : isAggO E t with
 | none => simp [hg] at h
 | some g =>
  cases g with
  | true =>
   simp [hg] at h
   cases hn : tsize E t with
   | none => simp [hn] at h
   | some n =>
    simp [hn, Option.bind_eq_some_iff] at h
    obtain ⟨cs, hcs, rfl⟩ := h
    obtain ⟨B, o, us, rfl, hl, hl2, hr, hlf, hc⟩ := cellsAt_sound hi hcs hp
    refine ⟨.agg us.toArray, ?_, ?_⟩
    ·subst hl
     simp [Instr.loadAt, Instr.sureAddr, loadVar, run_isAgg hg, run_size hn, run_loadCells_in hc]
    ·simp only [VR]
     exact ⟨_, rfl, by simpa using hlf, by simpa using hr⟩
  | false =>
   simp [hg, Option.bind_eq_some_iff] at h
   obtain ⟨cs, hcs, hv⟩ := h
   obtain ⟨B, o, us, rfl, hl, hl2, hr, hlf, hc⟩ := cellsAt_sound hi hcs hp
   cases cs with
   | nil => simp at hl2
   | cons c cs =>
    simp at hv
    subst hv
    simp only [VRL] at hr
    obtain ⟨u, r, rfl, h1, _⟩ := hr
    refine ⟨u, ?_, h1⟩
    have := hc 0 u (by simp)
    simp at this
    simp [Instr.loadAt, Instr.sureAddr, loadVar, run_isAgg hg, this]
structure Wrote (w w' : World) (R : Nat) (us us' : Array Value) (e : TypeId) (fz : Nat × Nat) (o : Nat) (vs : List Value) : Prop where
 blk : w'.heap[R]? = some (.cells us' e fz)
 size : us'.size = us.size
 at_ : ∀ j u, vs[j]? = some u → us'[o + j]? = some u
 off_ : ∀ k, k < o ∨ o + vs.length ≤ k → us'[k]? = us[k]?
 oth : ∀ k, k ≠ R → w'.heap[k]? = w.heap[k]?
 hsize : w'.heap.size = w.heap.size
 os : w'.os = w.os
 tape : w'.tape = w.tape
 output : w'.output = w.output
theorem run_storeCells_blk {P : Program} {R : Nat} {e : TypeId} {fz : Nat × Nat} {o : Nat} : ∀ (vs : List Value) (i : Nat) (w : World) (us : Array Value),
  w.heap[R]? = some (.cells us e fz) → o + i + vs.length ≤ us.size → (∀ o, o < us.size → ¬ (fz.1 ≤ o ∧ o < fz.2)) → Leafs vs →
  ∃ w' us', (storeCells ⟨R, o, none⟩ vs i).run P w = .ok () w' ∧ Wrote w w' R us us' e fz (o + i) vs
 | [], i, w, us, h, _, _, _ => ⟨w, us, rfl, ⟨h, rfl, by simp, fun _ _ => rfl, fun _ _ => rfl, rfl, rfl, rfl, rfl⟩⟩
 | v :: r, i, w, us, h, hle, hfz, hlf => by
  simp at hle
  have hlt : o + i < us.size := by omega
  have hcell : w.cell? ⟨R, o + i, none⟩ = some us[o + i] := by rw [cell_of h]; exact Array.getElem?_eq_getElem hlt
  have hfrz : w.frozen? ⟨R, o + i, none⟩ = false := by
   rw [frozen_of h]
   have := hfz _ hlt
   simp
   omega
  have hst : (store ((⟨R, o, none⟩ : Addr).add i) v).run P w = .ok () (w.setCell ⟨R, o + i, none⟩ v) := by
   rw [addr_add, run_store P w _ v _ (hlf v (by simp)), hcell]
   simp [hfrz]
  have hb : (w.setCell ⟨R, o + i, none⟩ v).heap[R]? = some (.cells (us.setIfInBounds (o + i) v) e fz) := by
   simp [World.setCell, Array.getElem?_modify, h]
  obtain ⟨w', us', hrun, hw⟩ := run_storeCells_blk (P := P) (o := o) r (i + 1) (w.setCell ⟨R, o + i, none⟩ v) (us.setIfInBounds (o + i) v) hb (by simp; omega) (by simpa using hfz) (fun u hu => hlf u (by simp [hu]))
  refine ⟨w', us', ?_, ⟨hw.blk, by simpa using hw.size, ?_, ?_, ?_, by simpa using hw.hsize, hw.os, hw.tape, hw.output⟩⟩
  ·simp only [storeCells, Sem.run_bind, hst, Result.andThen_ok]
   exact hrun
  ·intro j u hj
   cases j with
   | zero =>
    simp at hj
    subst hj
    rw [hw.off_ _ (by omega)]
    simp [hlt]
   | succ j =>
    simp at hj
    have := hw.at_ j u hj
    rwa [show o + i + (j + 1) = o + (i + 1) + j by omega]
  ·intro k hk
   simp at hk
   rw [hw.off_ _ (by omega), Array.getElem?_setIfInBounds_ne (by omega)]
  ·intro k hk
   rw [hw.oth k hk]
   simp only [World.setCell, Array.getElem?_modify]
   rw [if_neg (by omega)]
theorem splice_length {α : Type} : ∀ (vs cs : List α) (off : Nat), (splice cs off vs).length = cs.length
 | [], _, _ => rfl
 | v :: vs, cs, off => by simp [splice, splice_length vs]
theorem splice_get {α : Type} : ∀ (vs cs : List α) (off k : Nat), off + vs.length ≤ cs.length → (splice cs off vs)[k]? = if off ≤ k ∧ k < off + vs.length then vs[k - off]? else cs[k]?
 | [], cs, off, k, _ => by
  rw [if_neg (by simp)]
  rfl
 | v :: vs, cs, off, k, h => by
  simp at h
  rw [splice, splice_get vs _ _ _ (by simp; omega), List.getElem?_set]
  simp only [List.length_cons]
  by_cases h1 : off = k
  ·subst h1
   rw [if_neg (by omega), if_pos rfl, if_pos (by omega), if_pos (by omega)]
   simp
  ·rw [if_neg h1]
   by_cases h2 : off + 1 ≤ k ∧ k < off + 1 + vs.length
   ·rw [if_pos h2, if_pos (by omega), show k - off = (k - (off + 1)) + 1 by omega]
    simp
   ·rw [if_neg h2, if_neg (by omega)]
theorem shape_of_blk {w : World} {R : Nat} {us : Array Value} {e : TypeId} {fz : Nat × Nat} (h : w.heap[R]? = some (.cells us e fz)) : w.shape? R = some (e, us.size) := by
 simp [World.shape?, h]
theorem Wrote.ext {w' : World} {R : Nat} {us us' : Array Value} {e : TypeId} {fz : Nat × Nat} {o : Nat} {vs : List Value} (hw : Wrote m.w w' R us us' e fz o vs)
  (hb : m.w.heap[R]? = some (.cells us e fz)) (hI : ¬ m.I R) : Ext m { m with w := w' } := by
 refine ⟨fun _ _ h => h, fun _ h => h, fun b hb' => hw.oth b (fun e => hI (e ▸ hb')), fun b s hs => ?_, by simp [hw.hsize], hw.os, hw.tape, hw.output⟩
 by_cases h : b = R
 ·subst h
  rw [shape_of_blk hb] at hs
  cases hs
  simp [shape_of_blk hw.blk, hw.size]
 ·simpa [World.shape?, hw.oth b h] using hs
theorem putAt_sound (hi : Inv E S m) {p : V} {up : Value} {vs : List V} {us : List Value} (h : putAt S p vs = some S') (hp : VR m p up) (hv : VRL m vs us) (hl : Leafs us) :
  ∃ B o w', up = .pointer (some ⟨B, o, none⟩) ∧ (storeCells ⟨B, o, none⟩ us).run E.P m.w = .ok () w' ∧ Ext m { m with w := w' } ∧ Inv E S' { m with w := w' } := by
 unfold putAt at h
 split at h
 ·rename_i id off
  simp only [VR] at hp
  obtain ⟨R, b, hp, rfl⟩ := hp
  cases hc : cellsOf S id with
  | none => simp [hc] at h
  | some cs =>
   cases he : elemOf S id with
   | none => simp [hc, he] at h
   | some e =>
    simp [hc, he] at h
    obtain ⟨hle, rfl⟩ := h
    obtain ⟨e', hS⟩ := cellsOf_some hc
    obtain ⟨cs', hS'⟩ := elemOf_some he
    rw [hS] at hS'
    cases hS'
    obtain ⟨hI, us0, fz, ws, h1, h2, h3, h4, h5, h6⟩ := hi.block hS hp
    have hlen := h2.length
    have hlv := hv.length
    have hfit : b + off + us.length ≤ us0.size := by
     rcases Nat.eq_zero_or_pos us.length with h0 | h0
     ·rcases Nat.eq_zero_or_pos off with h7 | h7
      ·omega
      ·have hx : ws[off - 1]? = some ws[off - 1] := List.getElem?_eq_getElem (by omega)
       have := (Array.getElem?_eq_some_iff.1 (h4 _ _ hx)).1
       omega
     ·have hx : ws[off + us.length - 1]? = some ws[off + us.length - 1] := List.getElem?_eq_getElem (by omega)
      have := (Array.getElem?_eq_some_iff.1 (h4 _ _ hx)).1
      omega
    obtain ⟨w', us', hrun, hw⟩ := run_storeCells_blk (P := E.P) (o := b + off) us 0 m.w us0 h1 (by omega) h5 hl
    have hext := hw.ext h1 hI
    refine ⟨R, b + off, w', rfl, hrun, hext, hi.change hext rfl rfl hS (by simp) hp (fun k hk _ => hw.oth k hk) ?_⟩
    refine ⟨us', fz, (ws.take off ++ us) ++ ws.drop (off + us.length), hw.blk, ?_, ?_, ?_, by rw [hw.size]; exact h5, by rw [hw.size]; exact h6.1, h6.2⟩
    ·rw [VRL.iff_get]
     refine ⟨by simp [splice_length]; omega, fun i v u hv' hu => ?_⟩
     rw [splice_get _ _ _ _ (by omega)] at hv'
     have h2' := (VRL.iff_get.1 (h2.ext hext)).2
     have hv2 := (VRL.iff_get.1 (hv.ext hext)).2
     by_cases hin : off ≤ i ∧ i < off + vs.length
     ·rw [if_pos hin] at hv'
      rw [List.getElem?_append_left (by simp; omega), List.getElem?_append_right (by simp; omega)] at hu
      simp only [List.length_take] at hu
      rw [show i - min off ws.length = i - off by omega] at hu
      exact hv2 _ _ _ hv' hu
     ·rw [if_neg hin] at hv'
      refine h2' i v u hv' ?_
      rcases Nat.lt_or_ge i off with hlt | hge
      ·rw [List.getElem?_append_left (by simp; omega), List.getElem?_append_left (by simp; omega), List.getElem?_take_of_lt hlt] at hu
       exact hu
      ·rw [List.getElem?_append_right (by simp; omega), List.getElem?_drop] at hu
       simp only [List.length_append, List.length_take] at hu
       rwa [show off + us.length + (i - (min off ws.length + us.length)) = i by omega] at hu
    ·intro u hu
     simp only [List.mem_append] at hu
     rcases hu with (hu | hu) | hu
     ·exact h3 u (List.mem_of_mem_take hu)
     ·exact hl u hu
     ·exact h3 u (List.mem_of_mem_drop hu)
    ·intro j u hj
     rcases Nat.lt_or_ge j off with hlt | hge
     ·rw [List.getElem?_append_left (by simp; omega), List.getElem?_append_left (by simp; omega), List.getElem?_take_of_lt hlt] at hj
      rw [hw.off_ _ (by omega)]
      exact h4 _ _ hj
     ·rcases Nat.lt_or_ge j (off + us.length) with hlt2 | hge2
      ·rw [List.getElem?_append_left (by simp; omega), List.getElem?_append_right (by simp; omega)] at hj
       simp only [List.length_take] at hj
       have := hw.at_ _ _ hj
       rwa [show b + off + 0 + (j - min off ws.length) = b + j by omega] at this
      ·rw [List.getElem?_append_right (by simp; omega), List.getElem?_drop] at hj
       simp only [List.length_append, List.length_take] at hj
       rw [hw.off_ _ (by omega)]
       refine h4 _ _ ?_
       rwa [show off + us.length + (j - (min off ws.length + us.length)) = j by omega] at hj
 ·cases h
theorem opStore_sound (hi : Inv E S m) {t : TypeId} {p v : V} {up uv : Value} (h : opStore E S t p v = some S') (hp : VR m p up) (hv : VR m v uv) :
  ∃ w', (Instr.storeAt t up uv).run E.P m.w = .ok () w' ∧ Ext m { m with w := w' } ∧ Inv E S' { m with w := w' } := by
 unfold opStore at h
 cases hn : tsize E t with
 | none => simp [hn] at h
 | some n =>
  simp [hn] at h
  obtain ⟨⟨hs, hl⟩, h⟩ := h
  obtain ⟨hc, hlf⟩ := solid_cells hs hv
  obtain ⟨B, o, w', rfl, hrun, hext, hinv⟩ := putAt_sound hi h hp hc hlf
  refine ⟨w', ?_, hext, hinv⟩
  have hsz : uv.cells.size = n := by
   have := hc.length
   simp at this
   omega
  simp [Instr.storeAt, Instr.sureAddr, storeVar, run_size hn, hsz, hrun]
theorem newRow_sound (hi : Inv E S m) (e : TypeId) {vs : List V} {us : Array Value} (hv : VRL m vs us.toList) (hl : Leafs us.toList) :
  ∃ m', (newRow e us).run E.P m.w = .ok ⟨m.w.heap.size, 0, none⟩ m'.w ∧ Ext m m' ∧ Inv E (S ++ [.cells vs e]) m' ∧ m'.phi S.length = some (m.w.heap.size, 0) ∧
   m'.w.shape? m.w.heap.size = some (e, us.size) := by
 refine ⟨m.fresh S.length (.cells us e), rfl, Ext.fresh hi _, hi.fresh _ _ ?_, by simp [M.fresh, upd], ?_⟩
 ·exact ⟨us, (0, 0), us.toList, heap_alloc_same _ _, hv.ext (Ext.fresh hi _), hl, fun j u hj => by simpa using hj, fun o _ => by simp, by omega, fun _ _ => Nat.zero_mod _⟩
 ·exact shape_of_blk (heap_alloc_same _ _)
theorem opAlloc_sound (hi : Inv E S m) {t : TypeId} {v : V} (h : opAlloc E S t = some (v, S')) :
  ∃ u m', (Instr.alloc t true (.tuple #[])).run E.P m.w = .ok u m'.w ∧ Ext m m' ∧ Inv E S' m' ∧ VR m' v u := by
 unfold opAlloc at h
 cases hz : zeroV E t with
 | none => simp [hz] at h
 | some z =>
  simp [hz] at h
  obtain ⟨hs, rfl, rfl⟩ := h
  obtain ⟨uz, hrun, hvz⟩ := zeroV_sound (m := m) hz
  obtain ⟨hc, hlf⟩ := solid_cells hs hvz
  obtain ⟨m', h1, h2, h3, h4, _⟩ := newRow_sound hi t hc hlf
  refine ⟨.pointer (some ⟨m.w.heap.size, 0, none⟩), m', ?_, h2, h3, ?_⟩
  ·simp [Instr.alloc, hrun, newVar, h1]
  ·simp only [VR]
   exact ⟨_, _, h4, rfl⟩
theorem opBox_sound (hi : Inv E S m) {t : TypeId} {x v : V} {ux : Value} (h : opBox S t x = some (v, S')) (hx : VR m x ux) :
  ∃ u m', (Instr.box t ux).run E.P m.w = .ok u m'.w ∧ Ext m m' ∧ Inv E S' m' ∧ VR m' v u := by
 unfold opBox at h
 simp at h
 obtain ⟨hs, rfl, rfl⟩ := h
 obtain ⟨hc, hlf⟩ := solid_cells hs hx
 obtain ⟨m', h1, h2, h3, h4, _⟩ := newRow_sound hi t hc hlf
 refine ⟨.pointer (some ⟨m.w.heap.size, 0, none⟩), m', ?_, h2, h3, ?_⟩
 ·simp [Instr.box, newVar, h1]
 ·simp only [VR]
  exact ⟨_, _, h4, rfl⟩
end Go.Vm
set_option autoImplicit false
namespace Go.Vm
variable {E : Env} {S S' : Store} {m : M}
theorem splice_VRL : ∀ (vs : List V) (xs : List Value) {cs : List V} {us : List Value} (off : Nat), VRL m cs us → VRL m vs xs → VRL m (splice cs off vs) (splice us off xs)
 | [], _, _, _, _, h, k => by simp only [VRL] at k; subst k; exact h
 | v :: vs, _, _, _, off, h, k => by
  simp only [VRL] at k
  obtain ⟨x, xs, rfl, h1, h2⟩ := k
  exact splice_VRL vs xs (off + 1) (h.set off h1) h2
theorem splice_mem {α : Type} : ∀ (xs us : List α) (off : Nat) (u : α), u ∈ splice us off xs → u ∈ us ∨ u ∈ xs
 | [], _, _, _, h => .inl h
 | x :: xs, us, off, u, h => by
  rcases splice_mem xs _ _ _ h with h | h
  ·rcases List.mem_or_eq_of_mem_set h with h | h
   ·exact .inl h
   ·exact .inr (by simp [h])
  ·exact .inr (by simp [h])
theorem foldl_zipIdx_splice : ∀ (l : List Value) (cells : Array Value) (off k : Nat),
  ((l.zipIdx k).foldl (fun cs (x : Value × Nat) => cs.setIfInBounds (off + x.2) x.1) cells).toList = splice cells.toList (off + k) l
 | [], cells, off, k => by simp [splice]
 | x :: l, cells, off, k => by
  simp only [List.zipIdx_cons, List.foldl_cons, splice]
  rw [foldl_zipIdx_splice l _ off (k + 1)]
  simp [Nat.add_assoc]
theorem zipIdx_splice (us cells : Array Value) (off : Nat) :
  (us.zipIdx.foldl (fun cs (x : Value × Nat) => cs.setIfInBounds (off + x.2) x.1) cells).toList = splice cells.toList off us.toList := by
 have := foldl_zipIdx_splice us.toList cells off 0
 rw [← Array.foldl_toList]
 simpa using this
inductive VRP (m : M) : List (Nat × V) → List (Nat × Value) → Prop
 | nil : VRP m [] []
 | cons {i : Nat} {v : V} {u : Value} {l : List (Nat × V)} {k : List (Nat × Value)} (h : VR m v u) (r : VRP m l k) : VRP m ((i, v) :: l) ((i, u) :: k)
theorem fill_sound {pl place : Nat → Option (Nat × Nat)} (hpl : ∀ i x, pl i = some x → place i = some x) : ∀ {parts : List (Nat × V)} {parts' : List (Nat × Value)} (_ : VRP m parts parts')
  {cs cs' : List V} {us : Array Value}, fillV pl cs parts = some cs' → VRL m cs us.toList → Leafs us.toList →
  ∃ us', Instr.fill place us parts' = some us' ∧ VRL m cs' us'.toList ∧ Leafs us'.toList := by
 intro parts parts' hp
 induction hp with
 | nil =>
  intro cs cs' us h hv hl
  simp [fillV] at h
  subst h
  exact ⟨us, rfl, hv, hl⟩
 | @cons i v u l k hvu _ ih =>
  intro cs cs' us h hv hl
  rw [fillV] at h
  cases hpi : pl i with
  | none => simp [hpi] at h
  | some x =>
   obtain ⟨off, size⟩ := x
   simp [hpi] at h
   obtain ⟨⟨⟨hs, hsz⟩, hle⟩, h⟩ := h
   obtain ⟨hc, hlf⟩ := solid_cells hs hvu
   have hl1 := hc.length
   have hl2 := hv.length
   simp at hl1 hl2
   have hfill : Instr.fill place us ((i, u) :: k) = Instr.fill place (u.cells.zipIdx.foldl (fun cs (x : Value × Nat) => cs.setIfInBounds (off + x.2) x.1) us) k := by
    rw [Instr.fill]
    simp only [hpl _ _ hpi]
    rw [if_neg (by simp; omega)]
   rw [hfill]
   refine ih h ?_ ?_
   ·rw [zipIdx_splice]
    exact splice_VRL _ _ off hv hc
   ·rw [zipIdx_splice]
    intro y hy
    rcases splice_mem _ _ _ _ hy with hy | hy
    ·exact hl y hy
    ·exact hlf y hy
theorem VRP_map {ρ : Operand → V} {σ : Operand → Value} : ∀ (l : List (Nat × Operand)), (∀ p ∈ l, VR m (ρ p.2) (σ p.2)) → VRP m (l.map fun p => (p.1, ρ p.2)) (l.map fun p => (p.1, σ p.2))
 | [], _ => .nil
 | p :: l, h => .cons (h p (by simp)) (VRP_map l fun q hq => h q (by simp [hq]))
theorem places_sound (fs : List Field) (h : fs.all (fun f => (tsize E f.type).isSome) = true) :
  fs.mapM (fun f => (E.P.info? f.type).map fun i => (f.offset, i.size)) = some (fs.map fun f => (f.offset, (tsize E f.type).getD 0)) := by
 induction fs with
 | nil => rfl
 | cons f fs ih =>
  simp only [List.all_cons, Bool.and_eq_true] at h
  have ih := ih h.2
  have h1 := h.1
  unfold tsize at h1 ⊢
  cases hi : E.P.info? f.type with
  | none => simp [hi] at h1
  | some i =>
   simp only [List.mapM_cons, hi, ih]
   simp [tsize, hi]
theorem zeroV_info {t : TypeId} {z : V} (h : zeroV E t = some z) : ∃ i u, E.P.info? t = some i ∧ i.zero = some u ∧ z = vOf u := by
 unfold zeroV at h
 cases hi : E.P.info? t with
 | none => simp [hi] at h
 | some i =>
  cases hz : i.zero with
  | none => simp [hi, hz] at h
  | some u =>
   simp [hi, hz] at h
   exact ⟨i, u, rfl, hz, h.symm⟩
theorem agg_cells {cs : List V} {u : Value} (h : VR m (.agg cs) u) : VRL m cs u.cells.toList ∧ Leafs u.cells.toList := by
 simp only [VR] at h
 obtain ⟨us, rfl, h1, h2⟩ := h
 exact ⟨h2, h1⟩
theorem opBuild_sound {t : TypeId} {parts : List (Nat × V)} {parts' : Array (Nat × Value)} {v : V} (h : opBuild E t parts = some v) (hp : VRP m parts parts'.toList) (w : World) :
  ∃ u, (Instr.build t parts').run E.P w = .ok u w ∧ VR m v u := by
 unfold opBuild at h
 split at h
 ·cases h
 ·rename_i z hz
  obtain ⟨i, uz, hi, hzu, rfl⟩ := zeroV_info hz
  have hvz : VR m (vOf uz) uz := VR_vOf uz
  split at h
  ·cases h
  rename_i hs
  simp at hs
  obtain ⟨hc, hlf⟩ := solid_cells hs hvz
  split at h
  ·rename_i fields hd
   split at h
   ·rename_i hall
    obtain ⟨cs, hf, rfl⟩ := Option.map_eq_some_iff.1 h
    have hpl := places_sound (E := E) fields.toList hall
    have hpp : ∀ i x, fieldPlaces E fields i = some x → ((fields.toList.map fun f => (f.offset, (tsize E f.type).getD 0)).toArray[i]? : Option (Nat × Nat)) = some x := by
     intro i x hx
     unfold fieldPlaces at hx
     split at hx
     ·rename_i f hf'
      cases hn : tsize E f.type with
      | none => simp [hn] at hx
      | some n =>
       simp [hn] at hx
       simp [hf', hn, hx]
     ·cases hx
    obtain ⟨us', h1, h2, h3⟩ := fill_sound hpp hp hf hc hlf
    refine ⟨.agg us', run_build w t parts' us' ?_, ?_⟩
    ·unfold Program.built
     simp only [hi, hd, hzu, hpl]
     exact h1
    ·simp only [VR]
     exact ⟨_, rfl, h3, h2⟩
   ·cases h
  ·rename_i n e hd
   split at h
   ·rename_i size hsz
    obtain ⟨cs, hf, rfl⟩ := Option.map_eq_some_iff.1 h
    obtain ⟨us', h1, h2, h3⟩ := fill_sound (place := fun i => some (i * size, size)) (fun _ _ h => h) hp hf hc hlf
    refine ⟨.agg us', ?_, ?_⟩
    ·simp [Instr.build, zeroValue, run_info hi, hzu, run_under hd, run_size hsz, h1]
    ·simp only [VR]
     exact ⟨_, rfl, h3, h2⟩
   ·cases h
  ·cases h
theorem zeros_list (z : List Value) (n : Nat) : ∀ (g : Nat → Value), (∀ i, i < z.length → ∀ k, g (k * z.length + i) = z.getD i default) → (List.range (n * z.length)).map g = (List.replicate n z).flatten := by
 induction n with
 | zero => intro g _; simp
 | succ n ih =>
  intro g hg
  rw [Nat.succ_mul, List.range_add, List.map_append, ih g hg, List.replicate_succ', List.flatten_append]
  congr 1
  simp only [List.flatten_cons, List.flatten_nil, List.append_nil, List.map_map]
  apply List.ext_getElem
  ·simp
  ·intro i h1 h2
   simp at h1
   simp only [List.getElem_map, List.getElem_range, Function.comp]
   rw [hg i h1 n, List.getD_eq_getElem?_getD, List.getElem?_eq_getElem h1]
   rfl
theorem zeros_array (z : Array Value) (n : Nat) : ((Array.range (n * z.size)).map (z[· % z.size]!)).toList = (List.replicate n z.toList).flatten := by
 have := zeros_list z.toList n (fun i => z[i % z.size]!) (fun i hi k => by
  simp at hi
  have : (k * z.toList.length + i) % z.size = i := by simp [Nat.mul_comm k, Nat.mod_eq_of_lt hi]
  simp only [this]
  rw [List.getD_eq_getElem?_getD, Array.getElem!_eq_getD, Array.getD_eq_getD_getElem?]
  simp)
 simpa using this
theorem zeroCells_list (z : Array Value) (n : Nat) : (Builtin.zeroCells z n).toList = (List.replicate n z.toList).flatten := zeros_array z n
theorem Leafs.replicate {us : List Value} (h : Leafs us) (n : Nat) : Leafs (List.replicate n us).flatten := by
 intro u hu
 simp only [List.mem_flatten, List.mem_replicate] at hu
 obtain ⟨l, ⟨_, rfl⟩, hu⟩ := hu
 exact h u hu
theorem Leafs.append {us vs : List Value} (h : Leafs us) (k : Leafs vs) : Leafs (us ++ vs) := fun u hu => (List.mem_append.1 hu).elim (h u) (k u)
theorem zero_cells {e : TypeId} {z : V} (hz : zeroV E e = some z) (hs : solid z = true) : ∃ u, (∀ w, (zeroValue e).run E.P w = .ok u w) ∧ VRL m (vcells z) u.cells.toList ∧ Leafs u.cells.toList := by
 obtain ⟨u, hrun, hvz⟩ := zeroV_sound (m := m) hz
 obtain ⟨hc, hlf⟩ := solid_cells hs hvz
 exact ⟨u, hrun, hc, hlf⟩
theorem slR_new {phi : Nat → Option (Nat × Nat)} {I : Nat → Prop} {w : World} {id R len cap sz c : Nat} {e : TypeId} {n : Nat} (hp : phi id = some (R, 0)) (h1 : cap ≤ c) (h2 : len ≤ c)
  (hs : w.shape? R = some (e, n)) (hn : c * sz ≤ n) : VR ⟨phi, I, w⟩ (.slR id 0 len cap sz) (.slice (some ⟨R, 0, none⟩) len c) := by
 simp only [VR]
 exact ⟨R, 0, c, 0, e, n, hp, rfl, h1, h2, fun _ => rfl, hs, by simpa using hn⟩
theorem slR_new' {m : M} {id R len cap sz c : Nat} {e : TypeId} {n : Nat} (hp : m.phi id = some (R, 0)) (h1 : cap ≤ c) (h2 : len ≤ c)
  (hs : m.w.shape? R = some (e, n)) (hn : c * sz ≤ n) : VR m (.slR id 0 len cap sz) (.slice (some ⟨R, 0, none⟩) len c) := slR_new hp h1 h2 hs hn
theorem opBuildSlice_sound (hi : Inv E S m) {t : TypeId} {len : Nat} {parts : List (Nat × V)} {parts' : Array (Nat × Value)} {v : V} (h : opBuildSlice E S t len parts = some (v, S')) (hp : VRP m parts parts'.toList) :
  ∃ u m', (Instr.buildSlice t len parts').run E.P m.w = .ok u m'.w ∧ Ext m m' ∧ Inv E S' m' ∧ VR m' v u := by
 unfold opBuildSlice at h
 simp [Option.bind_eq_some_iff] at h
 obtain ⟨e, he, size, hsz, z, hz, ⟨⟨hs, hle⟩, hsize⟩, cs, hf, rfl, rfl⟩ := h
 obtain ⟨uz, hrun, hc, hlf⟩ := zero_cells (m := m) hz hs
 have hcl := hc.length
 have hsize' : uz.cells.size = size := by simp at hcl; omega
 have hzs : VRL m (repl len (vcells z)) ((Array.range (len * size)).map (uz.cells[· % uz.cells.size]!)).toList := by
  rw [← hsize', zeros_array]
  exact hc.replicate len
 have hzl : Leafs ((Array.range (len * size)).map (uz.cells[· % uz.cells.size]!)).toList := by
  rw [← hsize', zeros_array]
  exact hlf.replicate len
 obtain ⟨us', h1, h2, h3⟩ := fill_sound (place := fun i => some (i * size, size)) (fun _ _ h => h) hp hf hzs hzl
 obtain ⟨m', g1, g2, g3, g4, g5⟩ := newRow_sound hi e h2 h3
 have hus : us'.size = len * size := by
  have a1 := h2.length
  have a2 := hzs.length
  have a3 : cs.length = (repl len (vcells z)).length := by
   have key : ∀ (ps : List (Nat × V)) (c c' : List V), fillV (fun i => some (i * size, size)) c ps = some c' → c'.length = c.length := by
    intro ps
    induction ps with
    | nil => intro c c' h; simp [fillV] at h; simp [h]
    | cons p ps ih =>
     intro c c' h
     obtain ⟨i, v⟩ := p
     simp [fillV] at h
     rw [ih _ _ h.2, splice_length]
   exact key _ _ _ hf
  simp at a1 a2
  omega
 refine ⟨.slice (some ⟨m.w.heap.size, 0, none⟩) len len, m', ?_, g2, g3, slR_new' g4 (Nat.le_refl _) (Nat.le_refl _) g5 (by omega)⟩
 simp only [Instr.buildSlice, Sem.run_bind, run_under (elemT_some he), Result.andThen_ok, run_size hsz]
 rw [if_neg (by omega)]
 by_cases h0 : len * size = 0
 ·rw [if_pos h0]
  have hemp : ∀ (x : Array Value), (Array.range (len * size)).map (x[· % x.size]!) = (Array.range (len * size)).map (uz.cells[· % uz.cells.size]!) := by
   intro x
   simp [h0]
  simp only [Sem.run_bind, Sem.run_pure, Result.andThen_ok]
  rw [hemp #[], h1]
  simp [g1]
 ·rw [if_neg h0]
  simp only [Sem.run_bind, Sem.run_pure, Result.andThen_ok, hrun]
  rw [h1]
  simp [g1]
theorem vInt_some {v : V} {n : Int} (h : vInt v = some n) : ∃ k, v = .int k n := by
 cases v <;> simp [vInt] at h
 subst h
 exact ⟨_, rfl⟩
theorem wrap_i64 {n : Int} (h0 : 0 ≤ n) (h1 : n ≤ 140737488355328) : IntKind.i64.wrap n = n := by
 have hm : n % (18446744073709551616 : Int) = n := Int.emod_eq_of_lt h0 (by omega)
 simp [IntKind.wrap, IntKind.bits, IntKind.signed, hm]
 omega
theorem opMakeSlice_sound (hi : Inv E S m) {t : TypeId} {l c : V} {ul uc : Value} {v : V} (h : opMakeSlice E S t l c = some (v, S')) (hl : VR m l ul) (hc : VR m c uc) :
  ∃ u m', (Instr.makeSlice t ul uc).run E.P m.w = .ok u m'.w ∧ Ext m m' ∧ Inv E S' m' ∧ VR m' v u := by
 unfold opMakeSlice at h
 simp [Option.bind_eq_some_iff] at h
 obtain ⟨e, he, size, hsz, bytes, hby, z, hz, l', hl', c', hc', ⟨⟨⟨⟨⟨hs, hsize⟩, h0⟩, h1⟩, h2⟩, h3⟩, rfl, rfl⟩ := h
 obtain ⟨kl, rfl⟩ := vInt_some hl'
 obtain ⟨kc, rfl⟩ := vInt_some hc'
 simp only [VR] at hl hc
 subst hl hc
 obtain ⟨uz, hrun, hcz, hlf⟩ := zero_cells (m := m) hz hs
 have hcl := hcz.length
 have hsize' : uz.cells.size = size := by simp at hcl; omega
 unfold tbytes at hby
 obtain ⟨i, hii, rfl⟩ := Option.map_eq_some_iff.1 hby
 have hw1 := wrap_i64 h0 (by omega)
 have hw2 := wrap_i64 (Int.le_trans h0 h1) h3
 have hzl : ((Array.range (c'.toNat * size)).map (uz.cells[· % uz.cells.size]!)).toList = (List.replicate c'.toNat uz.cells.toList).flatten := by
  rw [← hsize', zeros_array]
 obtain ⟨m', g1, g2, g3, g4, g5⟩ := newRow_sound (us := (Array.range (c'.toNat * size)).map (uz.cells[· % uz.cells.size]!)) hi e (by rw [hzl]; exact hcz.replicate c'.toNat) (by rw [hzl]; exact hlf.replicate c'.toNat)
 refine ⟨.slice (some ⟨m.w.heap.size, 0, none⟩) l'.toNat c'.toNat, m', ?_, g2, g3, slR_new' g4 (Nat.le_refl _) (by omega) g5 (by simp)⟩
 simp only [Instr.makeSlice, Sem.run_bind, run_under (elemT_some he), Result.andThen_ok, asInt, asIntOf, Sem.run_pure, run_info hii, hw1, hw2]
 have ht : (decide (c' < 0) || decide ((i.bytes : Int) * c' > 2 ^ 48) || decide (l' < 0) || decide (l' > c')) = false := by
  simp
  omega
 simp only [Bool.or_assoc] at ht
 rw [if_neg (by simp; omega)]
 simp only [Sem.run_bind, run_askRoom, Result.andThen_ok, run_size hsz]
 by_cases hn : c'.toNat * size = 0
 ·rw [if_pos hn]
  have hemp : ∀ (x : Array Value), (Array.range (c'.toNat * size)).map (x[· % x.size]!) = (Array.range (c'.toNat * size)).map (uz.cells[· % uz.cells.size]!) := by
   intro x
   simp [hn]
  simp only [Sem.run_bind, Sem.run_pure, Result.andThen_ok]
  rw [hemp #[]]
  simp [g1]
 ·rw [if_neg hn]
  simp only [Sem.run_bind, Sem.run_pure, Result.andThen_ok, hrun]
  simp [g1]
theorem ba_get (l : List UInt8) (i : Nat) : (⟨l.toArray⟩ : ByteArray)[i]? = l[i]? := by
 rcases Nat.lt_or_ge i l.length with h | h
 ·rw [getElem?_pos (⟨l.toArray⟩ : ByteArray) i (by simpa [ByteArray.size] using h), List.getElem?_eq_getElem h]
  rfl
 ·rw [getElem?_neg (⟨l.toArray⟩ : ByteArray) i (by simp [ByteArray.size]; omega), List.getElem?_eq_none h]
theorem ba_size (l : List UInt8) : (⟨l.toArray⟩ : ByteArray).size = l.length := by simp [ByteArray.size]
theorem ba_append (a b : List UInt8) : (⟨a.toArray⟩ : ByteArray) ++ ⟨b.toArray⟩ = ⟨(a ++ b).toArray⟩ := by
 apply ByteArray.ext
 simp
theorem ba_extract (l : List UInt8) (a b : Nat) : (⟨l.toArray⟩ : ByteArray).extract a b = ⟨((l.take b).drop a).toArray⟩ := by
 apply ByteArray.ext
 simp [ByteArray.data_extract, List.drop_take]
def VRO (m : M) : Option V → Option Value → Prop
 | none, none => True
 | some v, some u => VR m v u
 | _, _ => False
theorem VRO_map {ρ : Operand → V} {σ : Operand → Value} : ∀ (o : Option Operand), (∀ x ∈ o.toArray, VR m (ρ x) (σ x)) → VRO m (o.map ρ) (o.map σ)
 | none, _ => trivial
 | some x, h => h x (by simp)
theorem bnd_sound {x : Option V} {u : Option Value} {d hi n : Nat} (h : bnd x d 0 hi = some n) (hx : VRO m x u) :
  (x = none ∧ u = none ∧ n = d) ∨ (x.isSome = true ∧ ∃ v, u = some v ∧ n ≤ hi ∧ ∀ (P : Program) (y : Nat) (c : BoundsCode) (w : World), n ≤ y → (Instr.sliceBound v y c).run P w = .ok n w) := by
 unfold bnd at h
 split at h
 ·cases h
  cases u with
  | none => exact .inl ⟨rfl, rfl, rfl⟩
  | some u => exact hx.elim
 ·rename_i k i
  cases u with
  | none => exact hx.elim
  | some u =>
   simp only [VRO, VR] at hx
   subst hx
   simp at h
   obtain ⟨⟨h0, h1⟩, rfl⟩ := h
   refine .inr ⟨rfl, _, rfl, by omega, fun P y c w hy => ?_⟩
   simp only [Instr.sliceBound, asIntOf, Sem.run_bind, Sem.run_pure, Result.andThen_ok]
   rw [if_pos (by omega)]
   rfl
 ·cases h
theorem bounds_sound {lo hi mx : Option V} {ulo uhi umx : Option Value} {cap len c mv h l : Nat} (hm : bnd mx cap 0 cap = some mv) (hh : bnd hi (if mx.isSome then mv + 1 else len) 0 mv = some h)
  (hl : bnd lo 0 0 h = some l) (hle : h ≤ mv) (hlo : VRO m lo ulo) (hhi : VRO m hi uhi) (hmx : VRO m mx umx) (hc : cap ≤ c) :
  ∃ mr, (∀ P w, (Instr.sliceBounds true len c ulo uhi umx).run P w = .ok (l, h, mr) w) ∧ mv ≤ mr ∧ mr ≤ c ∧ l ≤ h ∧ mv ≤ cap := by
 rcases bnd_sound hm hmx with ⟨rfl, rfl, rfl⟩ | ⟨hs, vm, rfl, hlem, hrunm⟩
 ·rcases bnd_sound hh hhi with ⟨rfl, rfl, rfl⟩ | ⟨_, vh, rfl, hle2, hrun2⟩
  ·rcases bnd_sound hl hlo with ⟨rfl, rfl, rfl⟩ | ⟨_, vl, rfl, hle3, hrun3⟩
   ·exact ⟨c, fun P w => by simp [Instr.sliceBounds], by omega, Nat.le_refl _, by omega, by omega⟩
   ·exact ⟨c, fun P w => by simp [Instr.sliceBounds, hrun3 P _ _ w hle3], by omega, Nat.le_refl _, by omega, by omega⟩
  ·rcases bnd_sound hl hlo with ⟨rfl, rfl, rfl⟩ | ⟨_, vl, rfl, hle3, hrun3⟩
   ·exact ⟨c, fun P w => by simp [Instr.sliceBounds, hrun2 P c _ w (by omega)], by omega, Nat.le_refl _, by omega, by omega⟩
   ·exact ⟨c, fun P w => by simp [Instr.sliceBounds, hrun2 P c _ w (by omega), hrun3 P _ _ w hle3], by omega, Nat.le_refl _, by omega, by omega⟩
 ·rcases bnd_sound hh hhi with ⟨rfl, rfl, hx⟩ | ⟨_, vh, rfl, hle2, hrun2⟩
  ·rw [if_pos hs] at hx
   omega
  ·rcases bnd_sound hl hlo with ⟨rfl, rfl, rfl⟩ | ⟨_, vl, rfl, hle3, hrun3⟩
   ·exact ⟨mv, fun P w => by simp [Instr.sliceBounds, hrunm P c _ w (by omega), hrun2 P mv _ w (by omega)], by omega, by omega, by omega, by omega⟩
   ·exact ⟨mv, fun P w => by simp [Instr.sliceBounds, hrunm P c _ w (by omega), hrun2 P mv _ w (by omega), hrun3 P _ _ w hle3], by omega, by omega, by omega, by omega⟩
theorem CellsIn.shift {w : World} {B o : Nat} {us : List Value} (h : CellsIn w B o us) (k n : Nat) : CellsIn w B (o + k) ((us.drop k).take n) := by
 intro j u hj
 rw [List.getElem?_take] at hj
 split at hj
 ·rw [List.getElem?_drop] at hj
  have := h _ _ hj
  rwa [show o + k + j = o + (k + j) by omega]
 ·cases hj
theorem Leafs.cut {us : List Value} (h : Leafs us) (k n : Nat) : Leafs ((us.drop k).take n) := fun u hu => h u (List.mem_of_mem_drop (List.mem_of_mem_take hu))
theorem opSlice_sound {t : TypeId} {x v : V} {ux : Value} {lo hi mx : Option V} {ulo uhi umx : Option Value} (h : opSlice E t x lo hi mx = some v) (hx : VR m x ux)
  (hlo : VRO m lo ulo) (hhi : VRO m hi uhi) (hmx : VRO m mx umx) :
  ∃ u, (Instr.sliceAt t ux ulo uhi umx).run E.P m.w = .ok u m.w ∧ VR m v u := by
 unfold opSlice at h
 split at h
 ·rename_i s hd
  simp only [VR] at hx
  subst hx
  split at h
  ·cases h
  rename_i hm
  simp [Option.bind_eq_some_iff] at h
  obtain ⟨h', hh, l, hl, rfl⟩ := h
  have hmx' : umx = none := by
   cases mx with
   | none => cases umx with
    | none => rfl
    | some _ => exact hmx.elim
   | some _ => simp at hm
  subst hmx'
  refine ⟨.string ⟨((s.take h').drop l).toArray⟩, ?_, by simp [VR]⟩
  have key : (Instr.sliceBounds false s.length s.length ulo uhi none).run E.P m.w = .ok (l, h', s.length) m.w := by
   rcases bnd_sound hh hhi with ⟨rfl, rfl, rfl⟩ | ⟨_, vh, rfl, hle, hrun⟩
   ·rcases bnd_sound hl hlo with ⟨rfl, rfl, rfl⟩ | ⟨_, vl, rfl, hle2, hrun2⟩
    ·simp [Instr.sliceBounds]
    ·simp [Instr.sliceBounds, hrun2 _ _ _ _ hle2]
   ·rcases bnd_sound hl hlo with ⟨rfl, rfl, rfl⟩ | ⟨_, vl, rfl, hle2, hrun2⟩
    ·simp [Instr.sliceBounds, hrun _ _ _ _ hle]
    ·simp [Instr.sliceBounds, hrun _ _ _ _ hle, hrun2 _ _ _ _ hle2]
  simp [Instr.sliceAt, Instr.slice, run_under hd, ba_size, key, ba_extract]
 ·rename_i e hd
  simp only [VR] at hx
  subst hx
  simp only [Option.bind_eq_bind, Option.bind_eq_some_iff] at h
  obtain ⟨size, hsz, m', hm, h', hh, l, hl, h⟩ := h
  split at h
  ·rename_i hle
   cases h
   obtain ⟨mr, hrun, h1, h2, h3, h4⟩ := bounds_sound hm hh hl hle hlo hhi hmx (Nat.le_refl 0)
   have e1 : mr = 0 := by omega
   have e2 : h' = 0 := by omega
   have e3 : l = 0 := by omega
   subst e1 e2 e3
   exact ⟨.slice none 0 0, by simp [Instr.sliceAt, Instr.slice, run_under hd, hrun, run_size hsz], by simp [VR]⟩
  ·cases h
 ·rename_i e n cs hd
  simp only [VR] at hx
  obtain ⟨A, c, us, rfl, hnc, hlf, hr, hx, hnr⟩ := hx
  simp only [Option.bind_eq_bind, Option.bind_eq_some_iff] at h
  obtain ⟨size, hsz, m', hm, h', hh, l, hl, h⟩ := h
  split at h
  ·rename_i hle
   simp at hle
   cases h
   obtain ⟨mr, hrun, h1, h2, h3, h4⟩ := bounds_sound hm hh hl hle.1 hlo hhi hmx hnc
   refine ⟨.slice (if mr = l then A else A.map (·.add (l * size))) (h' - l) (mr - l), ?_, ?_⟩
   ·simp [Instr.sliceAt, Instr.slice, run_under hd, hrun, run_size hsz]
   ·simp only [VR]
    refine ⟨_, _, (us.drop (l * size)).take ((h' - l) * size), rfl, by omega, hlf.cut _ _, (hr.drop _).take _, ?_, noRefL_take (noRefL_drop hnr _) _⟩
    rcases hx with ⟨rfl, hA⟩ | ⟨B, o, rfl, hI, hc⟩
    ·exact .inl ⟨by omega, by split <;> simp [hA]⟩
    ·rcases Nat.eq_zero_or_pos (h' - l) with h0 | h0
     ·exact .inl ⟨h0, by split <;> simp⟩
     ·refine .inr ⟨B, o + l * size, ?_, hI, hc.shift _ _⟩
      rw [if_neg (by omega)]
      simp [addr_add]
  ·cases h
 ·rename_i e id off len cap sz hd
  simp only [VR] at hx
  obtain ⟨R, b, c, o, e', n, hp, rfl, hcap, hlen, ho, hs, hn⟩ := hx
  simp only [Option.bind_eq_bind, Option.bind_eq_some_iff] at h
  obtain ⟨size, hsz, m', hm, h', hh, l, hl, h⟩ := h
  split at h
  ·rename_i hle
   simp at hle
   obtain ⟨rfl, hle⟩ := hle
   cases h
   obtain ⟨mr, hrun, h1, h2, h3, h4⟩ := bounds_sound hm hh hl hle hlo hhi hmx hcap
   have hmul : l * size + (mr - l) * size ≤ c * size := by
    rw [← Nat.add_mul]
    exact Nat.mul_le_mul_right _ (by omega)
   refine ⟨.slice (some ⟨R, if mr = l then o else o + l * size, none⟩) (h' - l) (mr - l), ?_, ?_⟩
   ·simp only [Instr.sliceAt, Instr.slice, run_under hd, hrun, run_size hsz, Sem.run_bind, Result.andThen_ok, Sem.run_pure]
    split <;> simp [addr_add]
   ·simp only [VR]
    refine ⟨R, b, _, _, e', n, hp, rfl, by omega, by omega, fun hne => ?_, hs, by omega⟩
    rw [if_neg (by omega), ho (by omega)]
    omega
  ·cases h
 ·cases h
theorem opIndexAddr_sound {t : TypeId} {x i v : V} {ux ui : Value} (h : opIndexAddr E t x i = some v) (hx : VR m x ux) (hi : VR m i ui) :
  ∃ u, (Instr.indexAt t ux ui).run E.P m.w = .ok u m.w ∧ VR m v u := by
 unfold opIndexAddr at h
 simp only [Option.bind_eq_bind, Option.bind_eq_some_iff] at h
 obtain ⟨n, hn, h⟩ := h
 obtain ⟨k, rfl⟩ := vInt_some hn
 simp only [VR] at hi
 subst hi
 split at h
 ·rename_i e len cs hd
  simp only [VR] at hx
  obtain ⟨A, c, us, rfl, hnc, hlf, hr, hx, hnr⟩ := hx
  simp only [Option.bind_eq_some_iff] at h
  obtain ⟨size, hsz, h⟩ := h
  split at h
  ·rename_i hb
   simp at hb
   cases h
   rcases hx with h0 | ⟨B, o, rfl, hI, hc⟩
   ·omega
   ·refine ⟨.pointer (some ⟨B, o + n.toNat * size, none⟩), ?_, ?_⟩
    ·simp only [Instr.indexAt, asIntOf, Sem.run_bind, Sem.run_pure, Result.andThen_ok, run_under hd]
     rw [if_pos (by omega)]
     simp [addr_add, run_size hsz]
    ·simp only [VR]
     refine ⟨B, _, us.drop (n.toNat * size), rfl, hI, fun j u hj => ?_, fun u hu => hlf u (List.mem_of_mem_drop hu), hr.drop _, noRefL_drop hnr _⟩
     rw [List.getElem?_drop] at hj
     have := hc _ _ hj
     rwa [show o + n.toNat * size + j = o + (n.toNat * size + j) by omega]
  ·cases h
 ·rename_i e id off len cap sz hd
  simp only [VR] at hx
  obtain ⟨R, b, c, o, e', n', hp, rfl, hcap, hlen, ho, hs, hn'⟩ := hx
  simp only [Option.bind_eq_some_iff] at h
  obtain ⟨size, hsz, h⟩ := h
  split at h
  ·rename_i hb
   simp at hb
   obtain ⟨⟨rfl, h0⟩, h1⟩ := hb
   cases h
   refine ⟨.pointer (some ⟨R, o + n.toNat * size, none⟩), ?_, ?_⟩
   ·simp only [Instr.indexAt, asIntOf, Sem.run_bind, Sem.run_pure, Result.andThen_ok, run_under hd]
    rw [if_pos (by omega)]
    simp [addr_add, run_size hsz]
   ·simp only [VR]
    refine ⟨R, b, hp, ?_⟩
    rw [ho (by omega)]
    simp
    omega
  ·cases h
 ·rename_i len e id off hd
  simp only [VR] at hx
  obtain ⟨R, b, hp, rfl⟩ := hx
  simp only [Option.bind_eq_some_iff] at h
  obtain ⟨size, hsz, h⟩ := h
  split at h
  ·rename_i hb
   simp at hb
   cases h
   refine ⟨.pointer (some ⟨R, b + off + n.toNat * size, none⟩), ?_, ?_⟩
   ·simp only [Instr.indexAt, Instr.sureAddr, asIntOf, Sem.run_bind, Sem.run_pure, Result.andThen_ok, run_under hd]
    rw [if_pos (by omega)]
    simp [addr_add, run_size hsz]
   ·simp only [VR]
    exact ⟨R, b, hp, by simp; omega⟩
  ·cases h
 ·rename_i len e cs hd
  simp only [VR] at hx
  obtain ⟨B, o, us, rfl, hI, hc, hlf, hr, hnr⟩ := hx
  simp only [Option.bind_eq_some_iff] at h
  obtain ⟨size, hsz, h⟩ := h
  split at h
  ·rename_i hb
   simp at hb
   cases h
   refine ⟨.pointer (some ⟨B, o + n.toNat * size, none⟩), ?_, ?_⟩
   ·simp only [Instr.indexAt, Instr.sureAddr, asIntOf, Sem.run_bind, Sem.run_pure, Result.andThen_ok, run_under hd]
    rw [if_pos (by omega)]
    simp [addr_add, run_size hsz]
   ·simp only [VR]
    refine ⟨B, _, us.drop (n.toNat * size), rfl, hI, fun j u hj => ?_, fun u hu => hlf u (List.mem_of_mem_drop hu), hr.drop _, noRefL_drop hnr _⟩
    rw [List.getElem?_drop] at hj
    have := hc _ _ hj
    rwa [show o + n.toNat * size + j = o + (n.toNat * size + j) by omega]
  ·cases h
 ·cases h
theorem partV_sound {t : TypeId} {cs : List V} {us : Array Value} {off : Nat} {v : V} (h : partV E t cs off = some v) (hr : VRL m cs us.toList) (hl : Leafs us.toList) (w : World) :
  ∃ u, (part t us off).run E.P w = .ok u w ∧ VR m v u := by
 unfold partV at h
 simp only [Option.bind_eq_bind, Option.bind_eq_some_iff] at h
 obtain ⟨g, hg, h⟩ := h
 cases g with
 | true =>
  simp [Option.bind_eq_some_iff] at h
  obtain ⟨n, hn, rfl⟩ := h
  refine ⟨.agg (us.extract off (off + n)), by simp [part, run_isAgg hg, run_size hn], ?_⟩
  simp only [VR]
  have e : (us.extract off (off + n)).toList = (us.toList.drop off).take n := by simp
  exact ⟨_, rfl, by rw [e]; exact hl.cut _ _, by rw [e]; exact (hr.drop _).take _⟩
 | false =>
  simp at h
  obtain ⟨u, hu, hv⟩ := hr.get h
  refine ⟨u, ?_, hv⟩
  have : us[off]? = some u := by simpa using hu
  simp [part, run_isAgg hg, this]
theorem opIndex_sound {t : TypeId} {x i v : V} {ux ui : Value} (h : opIndex E t x i = some v) (hx : VR m x ux) (hi : VR m i ui) :
  ∃ u, (Instr.index t ux ui).run E.P m.w = .ok u m.w ∧ VR m v u := by
 unfold opIndex at h
 simp only [Option.bind_eq_bind, Option.bind_eq_some_iff] at h
 obtain ⟨n, hn, h⟩ := h
 obtain ⟨k, rfl⟩ := vInt_some hn
 simp only [VR] at hi
 subst hi
 split at h
 ·rename_i s hd
  simp only [VR] at hx
  subst hx
  split at h
  ·rename_i h0
   obtain ⟨b, hb, rfl⟩ := Option.map_eq_some_iff.1 h
   refine ⟨.int .u8 b.toNat, ?_, by simp [VR]⟩
   simp [Instr.index, asIntOf, run_under hd, h0, ba_get, hb]
  ·cases h
 ·rename_i len e cs hd
  obtain ⟨hr, hl⟩ := agg_cells hx
  simp only [VR] at hx
  obtain ⟨us, rfl, _⟩ := hx
  simp only [Option.bind_eq_some_iff] at h
  obtain ⟨size, hsz, h⟩ := h
  split at h
  ·rename_i hb
   simp at hb
   obtain ⟨u, h1, h2⟩ := partV_sound h hr hl m.w
   refine ⟨u, ?_, h2⟩
   simp only [Instr.index, asIntOf, Sem.run_bind, Sem.run_pure, Result.andThen_ok, run_under hd]
   rw [if_pos (by omega)]
   simp only [Sem.run_bind, run_size hsz, Result.andThen_ok]
   exact h1
  ·cases h
 ·cases h
theorem opFieldAddr_sound {s : TypeId} {x v : V} {ux : Value} {f : Nat} (h : opFieldAddr E s x f = some v) (hx : VR m x ux) :
  ∃ u, (Instr.fieldAt s ux f).run E.P m.w = .ok u m.w ∧ VR m v u := by
 unfold opFieldAddr at h
 split at h
 ·rename_i fields hd
  split at h
  ·rename_i fd hf
   simp only [Option.bind_eq_bind, Option.bind_eq_some_iff] at h
   obtain ⟨n, hn, h⟩ := h
   split at h
   ·cases h
   rename_i hn0
   simp at hn0
   split at h
   ·rename_i id off
    cases h
    simp only [VR] at hx
    obtain ⟨R, b, hp, rfl⟩ := hx
    refine ⟨.pointer (some ⟨R, b + off + fd.offset, none⟩), ?_, ?_⟩
    ·simp [Instr.fieldAt, run_under hd, hf, Instr.sureAddr, fieldPlace, run_size hn, hn0, addr_add]
    ·simp only [VR]
     exact ⟨R, b, hp, by simp; omega⟩
   ·rename_i cs
    cases h
    simp only [VR] at hx
    obtain ⟨B, o, us, rfl, hI, hc, hlf, hr, hnr⟩ := hx
    refine ⟨.pointer (some ⟨B, o + fd.offset, none⟩), ?_, ?_⟩
    ·simp [Instr.fieldAt, run_under hd, hf, Instr.sureAddr, fieldPlace, run_size hn, hn0, addr_add]
    ·simp only [VR]
     refine ⟨B, _, us.drop fd.offset, rfl, hI, fun j u hj => ?_, fun u hu => hlf u (List.mem_of_mem_drop hu), hr.drop _, noRefL_drop hnr _⟩
     rw [List.getElem?_drop] at hj
     have := hc _ _ hj
     rwa [show o + fd.offset + j = o + (fd.offset + j) by omega]
   ·cases h
  ·cases h
 ·cases h
theorem opField_sound {s : TypeId} {x v : V} {ux : Value} {f : Nat} (h : opField E s x f = some v) (hx : VR m x ux) :
  ∃ u, (Instr.field s ux f).run E.P m.w = .ok u m.w ∧ VR m v u := by
 unfold opField at h
 split at h
 ·rename_i fields hd
  split at h
  ·rename_i fd cs hf
   obtain ⟨hr, hl⟩ := agg_cells hx
   simp only [VR] at hx
   obtain ⟨us, rfl, _⟩ := hx
   obtain ⟨u, h1, h2⟩ := partV_sound h hr hl m.w
   refine ⟨u, ?_, h2⟩
   simp only [Instr.field, run_under hd, hf, asAgg, Sem.run_bind, Sem.run_pure, Result.andThen_ok]
   exact h1
  ·cases h
 ·cases h
theorem opExtract_sound {x v : V} {ux : Value} {i : Nat} (h : opExtract x i = some v) (hx : VR m x ux) (P : Program) (w : World) :
  ∃ u, (Instr.extract ux i).run P w = .ok u w ∧ VR m v u := by
 unfold opExtract at h
 split at h
 ·simp only [VR] at hx
  obtain ⟨us, rfl, hr⟩ := hx
  obtain ⟨u, hu, hv⟩ := hr.get h
  have : us[i]? = some u := by simpa using hu
  exact ⟨u, by simp [Instr.extract, this], hv⟩
 ·cases h
theorem opMakeIface_sound {t : TypeId} {x v : V} {ux : Value} (h : opMakeIface E t x = some v) (hx : VR m x ux) (w : World) :
  ∃ u, (Instr.makeInterface t ux).run E.P w = .ok u w ∧ VR m v u := by
 unfold opMakeIface at h
 split at h
 ·cases h
 ·rename_i d hne hd
  cases h
  refine ⟨.iface t ux, ?_, by simp only [VR]; exact ⟨_, rfl, hx⟩⟩
  simp only [Instr.makeInterface, Sem.run_bind, run_under hd, Result.andThen_ok]
  cases d <;> first | rfl | exact absurd rfl (hne _)
 ·cases h
end Go.Vm
set_option autoImplicit false
namespace Go.Vm
variable {E : Env} {S S' : Store} {m : M}
theorem intOp_sound {op : BinOp} {k : IntKind} {x y : Int} {v : V} (h : intOp op k x y = some v) (P : Program) (w : World) :
  ∃ u, (match op with
   | .add | .sub | .mul => Op.intArith op k x y
   | .quo | .rem => Op.intDiv op k x y
   | .and | .or | .xor | .andNot => Op.intBits op k x y
   | _ => Op.intCmp op x y : Sem Value).run P w = .ok u w ∧ VR m v u := by
 cases op <;> simp only [intOp] at h
 case add => cases h; exact ⟨_, rfl, by simp [VR]⟩
 case sub => cases h; exact ⟨_, rfl, by simp [VR]⟩
 case mul => cases h; exact ⟨_, rfl, by simp [VR]⟩
 case quo =>
  split at h
  ·cases h
  ·rename_i h0
   cases h
   exact ⟨.int k (k.wrap (x.tdiv y)), by simp [Op.intDiv, h0], by simp [VR]⟩
 case rem =>
  split at h
  ·cases h
  ·rename_i h0
   cases h
   exact ⟨.int k (x.tmod y), by simp [Op.intDiv, h0], by simp [VR]⟩
 case and => cases h; exact ⟨_, rfl, by simp [VR]⟩
 case or => cases h; exact ⟨_, rfl, by simp [VR]⟩
 case xor => cases h; exact ⟨_, rfl, by simp [VR]⟩
 case andNot => cases h; exact ⟨_, rfl, by simp [VR]⟩
 case shl => cases h
 case shr => cases h
 case eql => cases h; exact ⟨_, rfl, by simp [VR]⟩
 case neq => cases h; exact ⟨_, rfl, by simp [VR]⟩
 case lss => cases h; exact ⟨_, rfl, by simp [VR]⟩
 case leq => cases h; exact ⟨_, rfl, by simp [VR]⟩
 case gtr => cases h; exact ⟨_, rfl, by simp [VR]⟩
 case geq => cases h; exact ⟨_, rfl, by simp [VR]⟩
theorem strOp_sound {op : BinOp} {x y : List UInt8} {v : V} (h : strOp op x y = some v) (P : Program) (w : World) :
  ∃ u, (Op.stringOp op ⟨x.toArray⟩ ⟨y.toArray⟩).run P w = .ok u w ∧ VR m v u := by
 cases op <;> simp only [strOp] at h
 case add =>
  split at h
  ·rename_i hle
   cases h
   refine ⟨.string ⟨(x ++ y).toArray⟩, ?_, by simp [VR]⟩
   simp only [Op.stringOp, ba_size]
   rw [if_neg (by have : IntKind.max .i64 = 9223372036854775807 := rfl; omega), ba_append]
   rfl
  ·cases h
 all_goals first
  | (cases h; done)
  | (cases h; exact ⟨_, rfl, by simp [VR]⟩)
set_option maxHeartbeats 1000000 in
theorem vEq_sound : ∀ (d : Nat) {t : TypeId} {x y : V} {ux uy : Value} {b : Bool}, vEq E d t x y = some b → VR m x ux → VR m y uy →
  ∀ d', d ≤ d' → (Op.equalIn d' t ux uy).run E.P m.w = .ok b m.w := by
 intro d
 induction d with
 | zero => intro t x y ux uy b h; simp [vEq] at h
 | succ d ih =>
  intro t x y ux uy b h hx hy d' hd'
  obtain ⟨d', rfl⟩ : ∃ k, d' = k + 1 := ⟨d' - 1, by omega⟩
  have hd : d ≤ d' := by omega
  rw [vEq.eq_def] at h
  simp only at h
  split at h
  all_goals try (rename_i hu; simp only [VR] at hx hy)
  ·subst hx hy; cases h; (simp only [Op.equalIn, Sem.run_bind, run_under hu, Result.andThen_ok]; rfl)
  ·subst hx hy
   split at h
   ·rename_i hk
    cases h
    simp [Op.equalIn, run_under hu, hk]
   ·cases h
  ·subst hx hy; cases h
   simp [Op.equalIn, run_under hu, beq_toListBytes]
  ·subst hx hy; cases h; (simp only [Op.equalIn, Sem.run_bind, run_under hu, Result.andThen_ok]; rfl)
  ·subst hx; obtain ⟨_, _, _, rfl⟩ := hy; cases h; (simp only [Op.equalIn, Sem.run_bind, run_under hu, Result.andThen_ok]; rfl)
  ·subst hx; obtain ⟨_, _, _, rfl, _⟩ := hy; cases h; (simp only [Op.equalIn, Sem.run_bind, run_under hu, Result.andThen_ok]; rfl)
  ·subst hy; obtain ⟨_, _, _, rfl⟩ := hx; cases h; (simp only [Op.equalIn, Sem.run_bind, run_under hu, Result.andThen_ok]; rfl)
  ·subst hy; obtain ⟨_, _, _, rfl, _⟩ := hx; cases h; (simp only [Op.equalIn, Sem.run_bind, run_under hu, Result.andThen_ok]; rfl)
  ·simp only [Option.bind_eq_bind, Option.bind_eq_some_iff] at h
   obtain ⟨n, hn, h⟩ := h
   obtain ⟨R, o, hp, rfl⟩ := hx
   obtain ⟨R', o', hp', rfl⟩ := hy
   split at h
   ·rename_i hc
    simp at hc
    obtain ⟨hn0, rfl⟩ := hc
    rw [hp] at hp'
    cases hp'
    cases h
    simp only [Op.equalIn, Sem.run_bind, run_under hu, Result.andThen_ok, run_size hn, Sem.run_ite]
    rw [if_pos hn0]
    simp only [sameAddr]
    simp
    rw [Bool.eq_iff_iff]
    simp
   ·cases h
  ·subst hx hy; cases h; (simp only [Op.equalIn, Sem.run_bind, run_under hu, Result.andThen_ok]; rfl)
  ·subst hx; obtain ⟨_, _, _, _, _, _, _, rfl, _⟩ := hy; cases h; (simp only [Op.equalIn, Sem.run_bind, run_under hu, Result.andThen_ok]; rfl)
  ·subst hy; obtain ⟨_, _, _, _, _, _, _, rfl, _⟩ := hx; cases h; (simp only [Op.equalIn, Sem.run_bind, run_under hu, Result.andThen_ok]; rfl)
  ·subst hx; obtain ⟨A, c, us, rfl, _, _, _, hc, _⟩ := hy; cases h
   rcases hc with ⟨_, hc⟩ | ⟨B, o, rfl, _⟩
   ·obtain ⟨q, rfl⟩ := Option.isSome_iff_exists.1 hc
    (simp only [Op.equalIn, Sem.run_bind, run_under hu, Result.andThen_ok]; rfl)
   ·(simp only [Op.equalIn, Sem.run_bind, run_under hu, Result.andThen_ok]; rfl)
  ·subst hy; obtain ⟨A, c, us, rfl, _, _, _, hc, _⟩ := hx; cases h
   rcases hc with ⟨_, hc⟩ | ⟨B, o, rfl, _⟩
   ·obtain ⟨q, rfl⟩ := Option.isSome_iff_exists.1 hc
    (simp only [Op.equalIn, Sem.run_bind, run_under hu, Result.andThen_ok]; rfl)
   ·(simp only [Op.equalIn, Sem.run_bind, run_under hu, Result.andThen_ok]; rfl)
  ·subst hx hy; cases h; (simp only [Op.equalIn, Sem.run_bind, run_under hu, Result.andThen_ok]; rfl)
  ·subst hx; obtain ⟨_, rfl, _⟩ := hy; cases h; (simp only [Op.equalIn, Sem.run_bind, run_under hu, Result.andThen_ok]; rfl)
  ·subst hy; obtain ⟨_, rfl, _⟩ := hx; cases h; (simp only [Op.equalIn, Sem.run_bind, run_under hu, Result.andThen_ok]; rfl)
  ·subst hx hy; cases h; (simp only [Op.equalIn, Sem.run_bind, run_under hu, Result.andThen_ok]; rfl)
  ·subst hx; obtain ⟨_, _, rfl, _⟩ := hy; cases h; (simp only [Op.equalIn, Sem.run_bind, run_under hu, Result.andThen_ok]; rfl)
  ·subst hy; obtain ⟨_, _, rfl, _⟩ := hx; cases h; (simp only [Op.equalIn, Sem.run_bind, run_under hu, Result.andThen_ok]; rfl)
  ·subst hx hy; cases h; (simp only [Op.equalIn, Sem.run_bind, run_under hu, Result.andThen_ok]; rfl)
  ·subst hx; obtain ⟨_, _, rfl⟩ := hy; cases h; (simp only [Op.equalIn, Sem.run_bind, run_under hu, Result.andThen_ok]; rfl)
  ·subst hy; obtain ⟨_, _, rfl⟩ := hx; cases h; (simp only [Op.equalIn, Sem.run_bind, run_under hu, Result.andThen_ok]; rfl)
  ·obtain ⟨ux, rfl, hxl, hxr⟩ := hx
   obtain ⟨uy, rfl, hyl, hyr⟩ := hy
   split at h
   ·cases h
   ·rename_i fields xs ys hst
    have hf : E.P.fieldsOf t = fields := by simp [Program.fieldsOf, hu]
    rw [run_equalIn_struct _ _ _ _ _ (by rw [hf]; exact hu) (by simpa using hst), hf]
    have key : ∀ (fs : List Field) (b : Bool), vEqs E (vEq E d) xs ys fs = some b → (Op.eqFields d' ux uy fs).run E.P m.w = .ok b m.w := by
     intro fs
     induction fs with
     | nil => intro b hb; simp [vEqs] at hb; simp [Op.eqFields, hb]
     | cons f fs ihf =>
      intro b hb
      rw [vEqs.eq_def] at hb
      simp only at hb
      rw [Op.eqFields]
      split at hb
      ·rename_i hn
       rw [if_pos hn]
       simp only [Option.bind_eq_bind, Option.bind_eq_some_iff] at hb
       obtain ⟨a, ha, a', ha', r, hr, hb⟩ := hb
       obtain ⟨v1, hv1, hv2⟩ := partV_sound ha hxr hxl m.w
       obtain ⟨v3, hv3, hv4⟩ := partV_sound ha' hyr hyl m.w
       have := ih hr hv2 hv4 d' hd
       simp only [Sem.run_bind, hv1, hv3, this, Result.andThen_ok]
       cases r with
       | true =>
        simp at hb
        simpa using ihf _ hb
       | false =>
        simp at hb
        subst hb
        simp
      ·rename_i hn
       rw [if_neg hn]
       exact ihf _ hb
    exact key _ _ h
  ·cases h
theorem VR_nili {x : V} (h : VR m x .nilIface) : x = .nili ∨ x = .junk := by
 cases x <;> simp [VR] at h <;> simp
theorem VR_agg {x : V} {us : Array Value} (h : VR m x (.agg us)) : (∃ cs, x = .agg cs) ∨ x = .junk := by
 cases x <;> simp [VR] at h <;> simp
theorem run_eqGuard {op : BinOp} {t : TypeId} {ox oy : Operand} {a b : Value} {w : World} (h : (eqGuard .eql t ox oy a b).run E.P w = .ok () w) : (eqGuard op t ox oy a b).run E.P w = .ok () w := by
 cases op <;> first | exact h | rfl
theorem VR_int {x : V} {k : IntKind} {n : Int} (h : VR m x (.int k n)) : x = .int k n ∨ x = .junk := by
 cases x <;> simp [VR] at h <;> simp [h]
theorem VR_float {x : V} {k : FloatKind} {n : Nat} (h : VR m x (.float k n)) : x = .junk := by
 cases x <;> simp [VR] at h <;> simp
theorem VR_complex {x : V} {k : FloatKind} {a b : Nat} (h : VR m x (.complex k a b)) : x = .junk := by
 cases x <;> simp [VR] at h <;> simp
theorem VR_string {x : V} {s : ByteArray} (h : VR m x (.string s)) : (∃ l, x = .str l) ∨ x = .junk := by
 cases x <;> simp [VR] at h <;> simp
theorem eqGuard_ok {lit : Bool} {op : BinOp} {t : TypeId} {x y : V} {ux uy : Value} {ox oy : Operand} (h : eqOk E lit t x y = true) (hl : lit = true → isLit ox = true ∨ isLit oy = true) (hx : VR m x ux) (hy : VR m y uy)
  (hnx : x ≠ .junk) (hny : y ≠ .junk) (w : World) : (eqGuard op t ox oy ux uy).run E.P w = .ok () w := by
 apply run_eqGuard
 unfold eqGuard
 rw [if_neg (by decide)]
 split
 ·have e1 := (VR_nili hx).resolve_right hnx
  have e2 := (VR_nili hy).resolve_right hny
  subst e1 e2
  simp only [eqOk] at h
  rcases hl h with hl | hl
  ·cases ox <;> simp [isLit] at hl
   rfl
  ·cases oy <;> simp [isLit] at hl
   simp
 ·obtain ⟨cs, rfl⟩ := (VR_agg hx).resolve_right hnx
  obtain ⟨ds, rfl⟩ := (VR_agg hy).resolve_right hny
  simp [eqOk] at h
  simp [h]
 ·rfl
theorem vEq_junk {d : Nat} {t : TypeId} {x y : V} {b : Bool} (h : vEq E d t x y = some b) : x ≠ .junk ∧ y ≠ .junk := by
 cases d with
 | zero => simp [vEq] at h
 | succ d =>
  constructor
  ·rintro rfl
   rw [vEq.eq_def] at h
   simp at h
  ·rintro rfl
   rw [vEq.eq_def] at h
   simp only at h
   split at h <;> simp_all
set_option maxHeartbeats 1000000 in
theorem opBin_sound {lit : Bool} {op : BinOp} {t : TypeId} {x y v : V} {ux uy : Value} {ox oy : Operand} (h : opBin E lit op t x y = some v) (hl : lit = true → isLit ox = true ∨ isLit oy = true) (hx : VR m x ux) (hy : VR m y uy) :
  ∃ u, (do eqGuard op t ox oy ux uy; binOp op t ux uy : Sem Value).run E.P m.w = .ok u m.w ∧ VR m v u := by
 have hg2 : (ux.oneCell' = true ∧ ux ≠ .nilIface) → (eqGuard op t ox oy ux uy).run E.P m.w = .ok () m.w := by
  rintro ⟨h1, h2⟩
  apply run_eqGuard
  unfold eqGuard
  rw [if_neg (by decide)]
  split
  ·exact absurd rfl h2
  ·simp [Value.oneCell'] at h1
  ·rfl
 unfold opBin at h
 split at h
 ·simp only [VR] at hx hy
  subst hx hy
  rw [Sem.run_bind, hg2 ⟨rfl, by simp⟩, Result.andThen_ok]
  split at h
  ·cases h
  ·rename_i h0
   cases h
   refine ⟨_, ?_, by simp only [VR]; rfl⟩
   simp only [binOp, Op.shift]
   rw [if_neg h0]
   rfl
 ·simp only [VR] at hx hy
  subst hx hy
  rw [Sem.run_bind, hg2 ⟨rfl, by simp⟩, Result.andThen_ok]
  split at h
  ·cases h
  ·rename_i h0
   cases h
   refine ⟨_, ?_, by simp only [VR]; rfl⟩
   simp only [binOp, Op.shift]
   rw [if_neg h0]
   rfl
 ·rename_i k a k' b hns hnr
  simp only [VR] at hx hy
  subst hx hy
  rw [Sem.run_bind, hg2 ⟨rfl, by simp⟩, Result.andThen_ok]
  split at h
  ·rename_i hk
   subst hk
   obtain ⟨u, h1, h2⟩ := intOp_sound (m := m) h E.P m.w
   refine ⟨u, ?_, h2⟩
   rw [← h1]
   cases op <;> first | (simp [binOp]; done) | (exact absurd rfl (hns _ _ _ _ rfl rfl)) | (exact absurd rfl (hnr _ _ _ _ rfl rfl)) | skip
   all_goals simp [intOp] at h
  ·cases h
 ·rename_i a b hns hnr _
  simp only [VR] at hx hy
  subst hx hy
  rw [Sem.run_bind, hg2 ⟨rfl, by simp⟩, Result.andThen_ok]
  obtain ⟨u, h1, h2⟩ := strOp_sound (m := m) h E.P m.w
  refine ⟨u, ?_, h2⟩
  rw [← h1]
  cases op <;> simp [binOp]
 ·rename_i hni hns
  split at h
  ·rename_i hok
   simp only [Option.bind_eq_bind, Option.bind_eq_some_iff] at h
   obtain ⟨r, hr, h⟩ := h
   cases h
   obtain ⟨hjx, hjy⟩ := vEq_junk hr
   have heq := vEq_sound (m := m) 100 hr hx hy 10000 (by omega)
   rw [Sem.run_bind, eqGuard_ok hok hl hx hy hjx hjy, Result.andThen_ok]
   refine ⟨.bool r, ?_, by simp [VR]⟩
   have e : binOp .eql t ux uy = (do pure (.bool (← Op.equal t ux uy)) : Sem Value) := by
    cases ux <;> cases uy <;> first | rfl | skip
    ·exact (hni _ _ _ _ ((VR_int hx).resolve_right hjx) ((VR_int hy).resolve_right hjy)).elim
    ·exact absurd (VR_float hx) hjx
    ·exact absurd (VR_complex hx) hjx
    ·obtain ⟨_, e1⟩ := (VR_string hx).resolve_right hjx
     obtain ⟨_, e2⟩ := (VR_string hy).resolve_right hjy
     exact (hns _ _ e1 e2).elim
   rw [e]
   simp [Op.equal, Op.maxDepth, heq]
  ·cases h
 ·rename_i hni hns
  split at h
  ·rename_i hok
   simp only [Option.bind_eq_bind, Option.bind_eq_some_iff] at h
   obtain ⟨r, hr, h⟩ := h
   cases h
   obtain ⟨hjx, hjy⟩ := vEq_junk hr
   have heq := vEq_sound (m := m) 100 hr hx hy 10000 (by omega)
   rw [Sem.run_bind, eqGuard_ok hok hl hx hy hjx hjy, Result.andThen_ok]
   refine ⟨.bool (!r), ?_, by simp [VR]⟩
   have e : binOp .neq t ux uy = (do pure (.bool (!(← Op.equal t ux uy))) : Sem Value) := by
    cases ux <;> cases uy <;> first | rfl | skip
    ·exact (hni _ _ _ _ ((VR_int hx).resolve_right hjx) ((VR_int hy).resolve_right hjy)).elim
    ·exact absurd (VR_float hx) hjx
    ·exact absurd (VR_complex hx) hjx
    ·obtain ⟨_, e1⟩ := (VR_string hx).resolve_right hjx
     obtain ⟨_, e2⟩ := (VR_string hy).resolve_right hjy
     exact (hns _ _ e1 e2).elim
   rw [e]
   simp [Op.equal, Op.maxDepth, heq]
  ·cases h
 ·cases h
theorem opUn_sound {op : UnOp} {x v : V} {ux : Value} (h : opUn op x = some v) (hx : VR m x ux) (P : Program) (w : World) : ∃ u, (Op.unary op ux).run P w = .ok u w ∧ VR m v u := by
 unfold opUn at h
 split at h
 ·simp only [VR] at hx
  subst hx
  cases h
  exact ⟨_, rfl, by simp [VR]⟩
 ·simp only [VR] at hx
  subst hx
  cases h
  exact ⟨_, rfl, by simp [VR]⟩
 ·simp only [VR] at hx
  subst hx
  cases h
  exact ⟨_, rfl, by simp [VR]⟩
 ·cases h
theorem vByte_sound {c : V} {u : Value} {b : UInt8} (h : vByte c = some b) (hc : VR m c u) : ∃ n : Int, u = .int .u8 n ∧ b = UInt8.ofNat n.toNat := by
 unfold vByte at h
 split at h
 ·cases h
  simp only [VR] at hc
  exact ⟨_, hc, rfl⟩
 ·cases h
theorem vBytes_sound : ∀ {cs : List V} {us : List Value} {b : List UInt8}, vBytes cs = some b → VRL m cs us → ∃ ns : List Int, us = ns.map (Value.int .u8) ∧ b = ns.map fun n => UInt8.ofNat n.toNat
 | [], us, b, h, hr => by
  simp [vBytes] at h
  simp only [VRL] at hr
  subst h hr
  exact ⟨[], rfl, rfl⟩
 | c :: cs, us, b, h, hr => by
  simp only [vBytes, Option.bind_eq_bind, Option.bind_eq_some_iff] at h
  obtain ⟨x, hx, r, hr', h⟩ := h
  cases h
  simp only [VRL] at hr
  obtain ⟨u, us', rfl, h1, h2⟩ := hr
  obtain ⟨n, rfl, rfl⟩ := vByte_sound hx h1
  obtain ⟨ns, rfl, rfl⟩ := vBytes_sound hr' h2
  exact ⟨n :: ns, rfl, rfl⟩
theorem sliceCells_sound (hi : Inv E S m) {x : V} {ux : Value} {size n : Nat} {cs : List V} (h : sliceCells S x size = some (n, cs)) (hx : VR m x ux) :
  (∃ A c us, ux = .slice A n c ∧ VRL m cs us ∧ Leafs us ∧ us.length = n * size ∧ n ≤ c ∧ ((A = none ∧ n = 0 ∧ c = 0) ∨ (n * size = 0 ∧ us = []) ∨ ∃ B o, A = some ⟨B, o, none⟩ ∧ CellsIn m.w B o us)) := by
 unfold sliceCells at h
 split at h
 ·cases h
  simp only [VR] at hx
  subst hx
  exact ⟨none, 0, [], rfl, .nil, by simp [Leafs], by simp, by omega, .inl ⟨rfl, rfl, rfl⟩⟩
 ·split at h
  ·rename_i hl
   simp at hl
   cases h
   simp only [VR] at hx
   obtain ⟨A, c, us, rfl, hnc, hlf, hr, hx, _⟩ := hx
   have := hr.length
   refine ⟨A, c, us, rfl, hr, hlf, by omega, hnc, ?_⟩
   rcases hx with ⟨rfl, _⟩ | ⟨B, o, rfl, hI, hc⟩
   ·exact .inr (.inl ⟨by omega, List.eq_nil_of_length_eq_zero (by omega)⟩)
   ·exact .inr (.inr ⟨B, o, rfl, hc⟩)
  ·cases h
 ·split at h
  ·rename_i id off len cap sz hsz
   simp at hsz
   subst hsz
   simp only [Option.bind_eq_bind, Option.bind_eq_some_iff] at h
   obtain ⟨cs', hcs, h⟩ := h
   cases h
   simp only [VR] at hx
   obtain ⟨R, b, c, o, e, k, hp, rfl, h1, h2, h3, h4, h5⟩ := hx
   obtain ⟨B, o', us, he, hl, hl2, hr, hlf, hc⟩ := cellsAt_sound hi hcs (up := .pointer (some ⟨R, b + off, none⟩)) (by simp only [VR]; exact ⟨R, b, hp, rfl⟩)
   cases he
   refine ⟨_, c, us, rfl, hr, hlf, hl, h2, ?_⟩
   by_cases h0 : c = 0
   ·have h6 : n = 0 := by omega
    subst h6
    exact .inr (.inl ⟨by simp, List.eq_nil_of_length_eq_zero (by rw [hl]; simp)⟩)
   ·refine .inr (.inr ⟨R, o, rfl, ?_⟩)
    rw [h3 h0]
    exact hc
  ·cases h
 ·cases h
theorem foldl_push (ns : List Int) : ∀ (l : List UInt8), ns.foldl (fun (r : ByteArray) n => r.push (UInt8.ofNat n.toNat)) ⟨l.toArray⟩ = ⟨(l ++ ns.map fun n => UInt8.ofNat n.toNat).toArray⟩ := by
 induction ns with
 | nil => intro l; simp
 | cons n ns ih =>
  intro l
  have : (⟨l.toArray⟩ : ByteArray).push (UInt8.ofNat n.toNat) = ⟨(l ++ [UInt8.ofNat n.toNat]).toArray⟩ := by
   apply ByteArray.ext
   simp [ByteArray.push]
  rw [List.foldl_cons, this, ih]
  simp
theorem live_cells (hi : Inv E S m) {id : Nat} {cs : List V} {e : TypeId} (hS : S[id]? = some (.cells cs e)) {R b : Nat} (hp : m.phi id = some (R, b)) :
  ∃ us fz, m.w.heap[R]? = some (.cells us e fz) ∧ b + cs.length ≤ us.size ∧ ∀ n, tsize E e = some n → b % n = 0 := by
 obtain ⟨_, us, fz, vs, h1, h2, h3, h4, h5, h6, h7⟩ := hi.block hS hp
 refine ⟨us, fz, h1, ?_, h7⟩
 have hl := h2.length
 rcases Nat.eq_zero_or_pos cs.length with h0 | h0
 ·omega
 ·have hx : vs[cs.length - 1]? = some vs[cs.length - 1] := List.getElem?_eq_getElem (by omega)
  have := (Array.getElem?_eq_some_iff.1 (h4 _ _ hx)).1
  omega
theorem run_viewAt {w : World} {R : Nat} {us : Array Value} {e : TypeId} {fz : Nat × Nat} (h : w.heap[R]? = some (.cells us e fz)) (P : Program) : (viewAt R).run P w = .ok none w := by
 simp [viewAt, shape_of_blk h]
theorem run_seenAt {w : World} {R o : Nat} {us : Array Value} {e : TypeId} {fz : Nat × Nat} (h : w.heap[R]? = some (.cells us e fz)) (P : Program) : (Conv.seenAt ⟨R, o, none⟩).run P w = .ok ⟨R, o, none⟩ w := by
 simp [Conv.seenAt, run_viewAt h]
theorem run_cellsIn {w : World} {R : Nat} {us : Array Value} {e : TypeId} {fz : Nat × Nat} (h : w.heap[R]? = some (.cells us e fz)) (P : Program) : (cellsIn R).run P w = .ok (some us.size) w := by
 simp [cellsIn, shape_of_blk h]
theorem run_variablesAt {w : World} {R o u n : Nat} {us : Array Value} {fz : Nat × Nat} (h : w.heap[R]? = some (.cells us u fz)) (hn : tsize E u = some n) (h0 : n ≠ 0) (k : Nat) (hm : o % n = 0) (hle : o + k * n ≤ us.size) :
  (variablesAt ⟨R, o, none⟩ u k).run E.P w = .ok true w := by
 have hc : E.P.cellsOf u = n := by
  unfold tsize at hn
  simp [Program.cellsOf, hn]
 have hl : liesAt E.P E.P.depth u (us.size / E.P.cellsOf u) o u k = true := by
  obtain ⟨d, hd⟩ : ∃ d, E.P.depth = d + 1 := ⟨2 * (E.P.types.size + Made.depth) + 1, rfl⟩
  rw [hd]
  simp only [liesAt]
  rw [hd]
  simp only [rowAt]
  rw [hc, if_neg h0]
  have h1 : o / n + k ≤ us.size / n := by
   have : o = n * (o / n) := by
    have := Nat.div_add_mod o n
    omega
   rw [Nat.le_div_iff_mul_le (by omega), Nat.add_mul, Nat.mul_comm (o / n) n]
   omega
  have h2 : sameLayout E.P (d + 1) u u = true := by simp [sameLayout]
  simp [hm, h1, h2]
 simp [variablesAt, shape_of_blk h, hl]
theorem push_modify {α : Type} (xs : Array α) (a : α) (f : α → α) : (xs.push a).modify xs.size f = xs.push (f a) := by
 apply Array.ext_getElem?
 intro i
 simp only [Array.getElem?_modify, Array.getElem?_push]
 by_cases h : xs.size = i
 ·subst h
  simp
 ·rw [if_neg h, if_neg (by omega), if_neg (by omega)]
theorem freeze_new (w : World) (us : Array Value) (e : TypeId) : (w.alloc (.cells us e)).freeze ⟨w.heap.size, us.size, none⟩ 1 = w.alloc (.cells us e (us.size, us.size + 1)) := by
 unfold World.freeze World.alloc
 rw [if_neg (by omega)]
 simp only [push_modify]
 simp
theorem run_appendCap (P : Program) (w : World) (need old : Nat) (e : TypeId) : ∃ cap, need ≤ cap ∧ (choose (.appendCap need old e)).run P w = .ok cap w.drew := by
 refine ⟨(Question.appendCap need old e).cut (w.tape w.drawn (.appendCap need old e)), by simp [Question.cut], ?_⟩
 rw [run_choose]
 simp [Question.forced]
set_option maxHeartbeats 1000000 in
theorem opConvert_sound (hi : Inv E S m) {s d : TypeId} {x v : V} {ux : Value} (h : opConvert E S s d x = some (v, S')) (hx : VR m x ux) :
  ∃ u m', (convert s d ux).run E.P m.w = .ok u m'.w ∧ Ext m m' ∧ Inv E S' m' ∧ VR m' v u := by
 unfold opConvert at h
 split at h
 ·rename_i a k k' n hs hd
  cases h
  simp only [VR] at hx
  subst hx
  refine ⟨.int k (k.wrap n), m, ?_, Ext.refl m, hi, by simp [VR]⟩
  simp only [convert, Sem.run_bind, run_under hs, run_under hd, Result.andThen_ok]
  rfl
 ·rename_i a k n hs hd
  cases h
  simp only [VR] at hx
  subst hx
  refine ⟨.string (Utf8.encode n), m, ?_, Ext.refl m, hi, by simp [VR]⟩
  simp only [convert, Sem.run_bind, run_under hs, run_under hd, Result.andThen_ok]
  rfl
 ·rename_i a s' hs hd
  cases h
  simp only [VR] at hx
  subst hx
  refine ⟨_, m, ?_, Ext.refl m, hi, by simp only [VR]; rfl⟩
  simp only [convert, Sem.run_bind, run_under hs, run_under hd, Result.andThen_ok]
  rfl
 ·rename_i a e s' hs hd
  simp only [VR] at hx
  subst hx
  split at h
  ·rename_i he
   split at h
   ·rename_i hle
    cases h
    have hi1 := hi.of_heap (w' := m.w.drew) rfl rfl rfl rfl
    have he1 := Ext.of_heap (m := m) (w' := m.w.drew) rfl rfl rfl rfl
    obtain ⟨cap, hcap, hrun⟩ := run_appendCap E.P m.w s'.length 0 e
    let us : Array Value := (s'.toArray.map fun b => Value.int .u8 b.toNat) ++ Array.replicate (cap - s'.length) (.int .u8 0)
    have husl : us.size = cap := by simp [us]; omega
    have hext := he1.trans (Ext.fresh hi1 (.cells us e (us.size, us.size + 1)))
    have hby : ∀ (m : M), VRL m (bytesV s') (s'.map fun b => Value.int .u8 b.toNat) := fun m => VRL.of_forall _ _ (fun a => by simp [VR]) _
    have hinv := hi1.fresh (.cells us e (us.size, us.size + 1)) (.cells (bytesV s') e) (by
     refine ⟨us, _, s'.map fun b => Value.int .u8 b.toNat, heap_alloc_same _ _, hby _, fun u hu => ?_, fun j u hj => ?_, fun o ho => by simp; omega, by omega, fun _ _ => Nat.zero_mod _⟩
     ·simp at hu
      obtain ⟨b, _, rfl⟩ := hu
      rfl
     ·have hlt := (List.getElem?_eq_some_iff.1 hj).1
      simp at hlt
      simp only [us, Nat.zero_add]
      rw [Array.getElem?_append_left (by simpa using hlt)]
      simpa using hj)
    refine ⟨.slice (some ⟨m.w.heap.size, 0, none⟩) s'.length cap, _, ?_, hext, hinv, ?_⟩
    ·simp only [convert, Sem.run_bind, run_under hs, run_under hd, Result.andThen_ok, run_under he]
     simp only [Conv.stringToBytes, Sem.run_bind, ba_size, hrun, Result.andThen_ok]
     have e1 : (s'.toArray.map fun b => Value.int .u8 b.toNat) ++ Array.replicate (cap - s'.length) (Value.int .u8 0) = us := rfl
     rw [e1]
     have e2 : (newRow e us).run E.P m.w.drew = .ok ⟨m.w.heap.size, 0, none⟩ (World.alloc m.w.drew (.cells us e)) := rfl
     rw [e2]
     simp only [Result.andThen_ok]
     have e3 := freeze_new m.w.drew us e
     have e4 : World.shape? (World.alloc m.w.drew (.cells us e)) m.w.heap.size = some (e, us.size) := shape_of_blk (heap_alloc_same m.w.drew (.cells us e))
     simp only [markStringish, Sem.run_bind, run_shape, e4, Result.andThen_ok, run_freeze, Sem.run_pure]
     exact congrArg _ e3
    ·refine slR_new' (by simp [M.fresh, upd]) hcap hcap (shape_of_blk (heap_alloc_same m.w.drew _)) (by omega)
   ·cases h
  ·cases h
 ·rename_i e hs hd _ _
  split at h
  ·rename_i he
   simp only [Option.bind_eq_bind, Option.bind_eq_some_iff] at h
   obtain ⟨⟨n, cs⟩, hcs, b, hb, h⟩ := h
   cases h
   obtain ⟨A, c, us, rfl, hr, hlf, hl, hnc, hA⟩ := sliceCells_sound hi hcs hx
   obtain ⟨ns, rfl, rfl⟩ := vBytes_sound hb hr
   refine ⟨.string ⟨(ns.map fun n => UInt8.ofNat n.toNat).toArray⟩, m, ?_, Ext.refl m, hi, by simp [VR]⟩
   simp only [convert, Sem.run_bind, run_under hs, run_under hd, Result.andThen_ok, run_under he]
   have hfold := foldl_push ns []
   simp only [List.nil_append] at hfold
   rw [← hfold]
   simp at hl
   rcases hA with ⟨rfl, rfl, rfl⟩ | ⟨h0, h1⟩ | ⟨B, o, rfl, hc⟩
   ·have : ns = [] := List.eq_nil_of_length_eq_zero (by omega)
    subst this
    rfl
   ·have h2 : ns = [] := by simpa using h1
    subst h2
    have h3 : n = 0 := by omega
    subst h3
    cases A with
    | none => rfl
    | some a =>
     exact run_bytesToString m.w a 0 c [] (by simp [loadCells, loadCellsFrom])
   ·subst hl
    have := run_loadCells_in (P := E.P) hc
    simp only [List.length_map] at this
    exact run_bytesToString m.w _ _ c ns this
  ·cases h
 ·rename_i t id off hs hd
  simp only [Option.bind_eq_bind, Option.bind_eq_some_iff] at h
  obtain ⟨n, hn, cs, hcs, h⟩ := h
  split at h
  ·rename_i hc
   simp at hc
   cases h
   simp only [VR] at hx
   obtain ⟨R, b, hp, rfl⟩ := hx
   obtain ⟨e, hS⟩ := cellsOf_some hcs
   obtain ⟨us, fz, h1, h2, h3⟩ := live_cells hi hS hp
   refine ⟨.pointer (some ⟨R, b + off, none⟩), m, ?_, Ext.refl m, hi, by simp only [VR]; exact ⟨R, b, hp, rfl⟩⟩
   simp only [convert, Sem.run_bind, run_under hs, run_under hd, Result.andThen_ok]
   simp only [Conv.unsafePointer, Sem.run_bind, run_under hs, run_under hd, Result.andThen_ok, run_seenAt h1, run_cellsIn h1, run_size hn]
   rw [if_neg]
   ·rfl
   ·simp
    omega
  ·cases h
 ·rename_i t id off hs hd
  simp only [Option.bind_eq_bind, Option.bind_eq_some_iff] at h
  obtain ⟨n, hn, cs, hcs, e, he, h⟩ := h
  split at h
  ·rename_i hc
   simp at hc
   obtain ⟨⟨⟨hn0, rfl⟩, hmod⟩, hle⟩ := hc
   cases h
   simp only [VR] at hx
   obtain ⟨R, b, hp, rfl⟩ := hx
   obtain ⟨e', hS⟩ := cellsOf_some hcs
   obtain ⟨cs', hS'⟩ := elemOf_some he
   rw [hS] at hS'
   cases hS'
   obtain ⟨us, fz, h1, h2, h3⟩ := live_cells hi hS hp
   refine ⟨.pointer (some ⟨R, b + off, none⟩), m, ?_, Ext.refl m, hi, by simp only [VR]; exact ⟨R, b, hp, rfl⟩⟩
   have hmod2 : (b + off) % n = 0 := by rw [Nat.add_mod, h3 n hn, hmod, Nat.zero_mod]
   have hv := run_variablesAt (E := E) (o := b + off) h1 hn hn0 1 hmod2 (by omega)
   simp only [convert, Sem.run_bind, run_under hs, run_under hd, Result.andThen_ok]
   simp only [Conv.unsafePointer, Sem.run_bind, run_under hs, run_under hd, Result.andThen_ok, run_seenAt h1, run_size hn, hv]
   simp
  ·cases h
 ·cases h
end Go.Vm
