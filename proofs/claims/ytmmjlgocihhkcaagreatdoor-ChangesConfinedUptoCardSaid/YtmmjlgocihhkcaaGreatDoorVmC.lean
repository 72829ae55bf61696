import Derived.Test.YtmmjlgocihhkcaaGreatDoorVmB
import Derived.Laws.Append
import Derived.Laws.LoneSync
import Derived.KernelRfl
import Derived.Lib.Bytealg
import Derived.RangeFuncLeaves
set_option linter.all false
set_option autoImplicit false
namespace Go.Vm
variable {E : Env} {S S' : Store} {m : M}
structure App (m : M) (P : Program) (size n : Nat) (new : List V) (ux : Value) (us : List Value) : Prop where
 len : ∀ w, (Builtin.lenOf ux).run P w = .ok n w
 run : (Builtin.firstCells size n ux).run P m.w = .ok us.toArray m.w
 rel : VRL m new us
 lf : Leafs us
theorem appended_sound (hi : Inv E S m) {x : V} {ux : Value} {size n : Nat} {new : List V} (h : appended S size x = some (n, new)) (hx : VR m x ux) :
  ∃ us, App m E.P size n new ux us := by
 unfold appended at h
 split at h
 ·rename_i s
  cases h
  simp only [VR] at hx
  subst hx
  refine ⟨s.map fun b => Value.int .u8 b.toNat, fun w => by simp [Builtin.lenOf, ba_size], ?_, VRL.of_forall _ _ (fun a => by simp [VR]) _, fun u hu => ?_⟩
  ·have : (⟨s.toArray⟩ : ByteArray).extract 0 s.length = ⟨s.toArray⟩ := by rw [ba_extract]; simp
   simp [Builtin.firstCells, this]
  ·simp at hu
   obtain ⟨b, _, rfl⟩ := hu
   rfl
 ·obtain ⟨A, c, us, rfl, hr, hlf, hl, hnc, hA⟩ := sliceCells_sound hi h hx
  refine ⟨us, fun w => by simp [Builtin.lenOf], ?_, hr, hlf⟩
  rcases hA with ⟨rfl, rfl, rfl⟩ | ⟨h0, rfl⟩ | ⟨B, o, rfl, hc⟩
  ·have : us = [] := List.eq_nil_of_length_eq_zero (by simpa using hl)
   subst this
   rfl
  ·cases A with
   | none => rfl
   | some a => simp [Builtin.firstCells, h0, loadCells, loadCellsFrom]
  ·simp only [Builtin.firstCells]
   rw [← hl]
   exact run_loadCells_in hc
theorem run_append_fit {ts : Array TypeId} {ty t u e : TypeId} {size n : Nat} {A : Option Addr} {len c : Nat} {ux : Value} {us : List Value} {w w' : World} (ht0 : ts[0]? = some t) (ht1 : ts[1]? = some u)
  (he : E.P.underlying t = some (.slice e)) (hs : tsize E e = some size) {d : TypeDesc} (hd : E.P.underlying u = some d) (hk : ∀ k, d ≠ .int k) (hlen : (Builtin.lenOf ux).run E.P w = .ok n w)
  (hfit : len + n ≤ c) (hx : (Builtin.firstCells size n ux).run E.P w = .ok us.toArray w) (hst : ∀ a, A = some a → (storeCells (a.add (len * size)) us).run E.P w = .ok () w') (hA : A = none → w' = w) :
  (Builtin.append_ ts ty #[.slice A len c, ux]).run E.P w = .ok (.slice A (len + n) c) w' := by
 have hz : (match d with | .int _ => true | _ => false) = false := by cases d <;> first | rfl | exact absurd rfl (hk _)
 simp only [Builtin.append_, ht0, ht1]
 simp only [List.getElem?_toArray, List.getElem?_cons_zero, List.getElem?_cons_succ, Sem.run_bind, run_under he, Result.andThen_ok, run_size hs, run_under hd, Sem.run_pure, hz, Bool.false_eq_true, if_false, hlen]
 rw [if_pos hfit]
 simp only [Bool.not_false, if_true, Sem.run_bind, hx, Result.andThen_ok]
 cases A with
 | none => rw [hA rfl]; rfl
 | some a => simp only [Sem.run_bind, hst a rfl, Result.andThen_ok, Sem.run_pure]
theorem run_append_grow {ts : Array TypeId} {ty t u e : TypeId} {size bytes n : Nat} {A : Option Addr} {len c : Nat} {ux uz : Value} {us old : List Value} {w : World} (ht0 : ts[0]? = some t) (ht1 : ts[1]? = some u)
  (he : E.P.underlying t = some (.slice e)) (hs : tsize E e = some size) (hby : tbytes E e = some bytes) {d : TypeDesc} (hd : E.P.underlying u = some d) (hk : ∀ k, d ≠ .int k) (hlen : (Builtin.lenOf ux).run E.P w = .ok n w)
  (hfit : c < len + n) (hb : (len + n) * bytes ≤ 140737488355328) (hb2 : len + n ≤ 140737488355328) (hx : (Builtin.firstCells size n ux).run E.P w.drew = .ok us.toArray w.drew)
  (ho : (Builtin.firstCells size len (.slice A len c)).run E.P w.drew = .ok old.toArray w.drew) (hz : ∀ w, (zeroValue e).run E.P w = .ok uz w) :
  ∃ cap, len + n ≤ cap ∧ (Builtin.append_ ts ty #[.slice A len c, ux]).run E.P w =
   ((newRow e ((old ++ us).toArray ++ Builtin.zeroCells uz.cells (cap - (len + n)))).run E.P w.drew).andThen fun a w' => .ok (.slice (some a) (len + n) cap) w' := by
 obtain ⟨cap, hcap, hrun⟩ := run_appendCap E.P w (len + n) c e
 refine ⟨cap, hcap, ?_⟩
 have hzi : (match d with | .int _ => true | _ => false) = false := by cases d <;> first | rfl | exact absurd rfl (hk _)
 unfold tbytes at hby
 obtain ⟨i, hi, rfl⟩ := Option.map_eq_some_iff.1 hby
 have hg := growslice_fits hfit hb
 simp only [Builtin.append_, ht0, ht1]
 simp only [List.getElem?_toArray, List.getElem?_cons_zero, List.getElem?_cons_succ, Sem.run_bind, run_under he, Result.andThen_ok, run_size hs, run_under hd, Sem.run_pure, hzi, Bool.false_eq_true, if_false, hlen]
 rw [if_neg (by omega)]
 simp only [Sem.run_bind, run_info hi, Result.andThen_ok]
 rw [if_neg (by have : IntKind.max .i64 = 9223372036854775807 := rfl; omega)]
 simp only [Sem.run_bind, run_info hi, Result.andThen_ok]
 rw [if_neg (by omega)]
 simp only [Sem.run_bind, run_info hi, Result.andThen_ok, hrun, run_askRoom, ho, Bool.not_false, if_true, hx, hz]
 simp
theorem grow_sound (hi : Inv E S m) {id : Nat} {e : TypeId} {vs : List V} {us : Array Value} {xs : List Value} (hv : VRL m vs xs) (hl : Leafs us.toList) (hpre : ∀ (j : Nat) (u : Value), xs[j]? = some u → us[j]? = some u) (hlx : Leafs xs) (S1 : Store)
  (hS1 : S1 = S ∨ S1 = S.set id .gone) :
  ∃ m', (newRow e us).run E.P m.w.drew = .ok ⟨m.w.heap.size, 0, none⟩ m'.w ∧ Ext m m' ∧ Inv E (S1 ++ [.cells vs e]) m' ∧ m'.phi S.length = some (m.w.heap.size, 0) ∧
   m'.w.shape? m.w.heap.size = some (e, us.size) := by
 have hi0 : Inv E S1 m := by
  rcases hS1 with rfl | rfl
  ·exact hi
  ·exact hi.drop_ id
 have hlen : S1.length = S.length := by rcases hS1 with rfl | rfl <;> simp
 have hi1 := hi0.of_heap (w' := m.w.drew) rfl rfl rfl rfl
 have he1 := Ext.of_heap (m := m) (w' := m.w.drew) rfl rfl rfl rfl
 have hext := he1.trans (Ext.fresh hi1 (.cells us e))
 refine ⟨_, rfl, hext, hi1.fresh (.cells us e) (.cells vs e) ⟨us, (0, 0), xs, heap_alloc_same m.w.drew _, hv.ext hext, hlx, fun j u hj => by simpa using hpre j u hj, fun o _ => by simp, by omega, fun _ _ => Nat.zero_mod _⟩, ?_, ?_⟩
 ·simp [M.fresh, upd, hlen]
 ·exact shape_of_blk (heap_alloc_same m.w.drew _)
set_option maxRecDepth 10000 in
theorem appendZ_sound (hi : Inv E S m) {ts : Array TypeId} {ty t u e : TypeId} {k : IntKind} {size bytes : Nat} {z s x v : V} {us ux : Value} (ht0 : ts[0]? = some t) (ht1 : ts[1]? = some u) (he : elemT E t = some e) (hsz : tsize E e = some size)
  (hby : tbytes E e = some bytes) (hz : zeroV E e = some z) (hd : E.P.underlying u = some (.int k)) (h : appendZ S e size bytes z s x = some (v, S')) (hs : VR m s us) (hx : VR m x ux) :
  ∃ u m', (Builtin.append_ ts ty #[us, ux]).run E.P m.w = .ok u m'.w ∧ Ext m m' ∧ Inv E S' m' ∧ VR m' v u := by
 unfold appendZ at h
 split at h
 ·rename_i n
  split at h
  ·rename_i hc
   simp at hc
   obtain ⟨⟨⟨⟨⟨hsol, hzs⟩, hs0⟩, hn0⟩, hb⟩, hm⟩ := hc
   cases h
   simp only [VR] at hs hx
   subst hs hx
   obtain ⟨uz, hzrun, hzc, hzl⟩ := zero_cells (m := m) hz hsol
   unfold tbytes at hby
   obtain ⟨i, hii, rfl⟩ := Option.map_eq_some_iff.1 hby
   have hw := wrap_i64 (Int.le_of_lt hn0) hm
   obtain ⟨q, rfl⟩ : ∃ q : Nat, n = (q : Int) := ⟨n.toNat, by omega⟩
   have hb' : q * i.bytes ≤ 140737488355328 := by omega
   obtain ⟨cap, hcap, hrun⟩ := run_appendCap E.P m.w q 0 e
   have hg := growslice_fits (need := q) (old := 0) (by omega) hb'
   have hzz := zeroCells_list uz.cells (cap - q)
   have hzq := zeroCells_list uz.cells q
   have hzz1 := congrArg List.length hzz
   have hzq1 := congrArg List.length hzq
   have hzz2 := hzc.length
   simp at hzz1 hzz2 hzq1
   obtain ⟨m', g1, g2, g3, g4, g5⟩ := grow_sound (e := e) (vs := repl q (vcells z)) (xs := (List.replicate q uz.cells.toList).flatten) (us := #[] ++ Builtin.zeroCells uz.cells q ++ Builtin.zeroCells uz.cells (cap - q)) hi (hzc.replicate q) (by
    simp only [Array.toList_append]
    exact Leafs.append (Leafs.append (by intro u hu; cases hu) (by rw [hzq]; exact hzl.replicate _)) (by rw [hzz]; exact hzl.replicate _)) (fun j u hj => by
     have hlt := (List.getElem?_eq_some_iff.1 hj).1
     rw [← Array.getElem?_toList]
     simp only [Array.toList_append, hzq]
     rw [List.getElem?_append_left (by simpa using hlt)]
     simpa using hj) (hzl.replicate q) S (id := 0) (.inl rfl)
   refine ⟨.slice (some ⟨m.w.heap.size, 0, none⟩) q cap, m', ?_, g2, g3, slR_new' g4 hcap hcap g5 ?_⟩
   ·simp only [Builtin.append_, ht0, ht1]
    simp only [List.getElem?_toArray, List.getElem?_cons_zero, List.getElem?_cons_succ, Sem.run_bind, run_under (elemT_some he), Result.andThen_ok, run_size hsz, run_under hd, Sem.run_pure, if_true, asInt, asIntOf, hw]
    rw [if_neg (by omega)]
    simp only [Sem.run_bind, run_info hii, Result.andThen_ok]
    rw [if_neg (by omega)]
    simp only [Sem.run_bind, Sem.run_pure, Result.andThen_ok, Int.toNat_natCast, Nat.zero_add]
    rw [if_neg (by omega)]
    simp only [Sem.run_bind, run_info hii, Result.andThen_ok]
    rw [if_neg (by have : IntKind.max .i64 = 9223372036854775807 := rfl; omega)]
    simp only [Sem.run_bind, run_info hii, Result.andThen_ok]
    rw [if_neg (by omega)]
    have hne : ¬ q * size = 0 := by
     have := Nat.mul_pos (show 0 < q by omega) hs0
     omega
    have hf0 : (Builtin.firstCells size 0 (.slice none 0 0)).run E.P m.w.drew = .ok #[] m.w.drew := rfl
    simp only [Sem.run_bind, run_info hii, Result.andThen_ok, hrun, run_askRoom, hf0, Bool.not_true, Bool.false_eq_true, if_false, if_neg hne, Sem.run_pure, hzrun]
    rw [g1]
    rfl
   ·simp [hzz1, hzz2, hzs, hzq1, ← Nat.add_mul]
    rw [show q + (cap - q) = cap by omega]
    exact Nat.le_refl _
  ·cases h
 ·cases h
set_option maxHeartbeats 1000000 in
theorem opAppend_sound (hi : Inv E S m) {ts : Array TypeId} {ty : TypeId} {s x v : V} {us ux : Value} (h : opAppend E S ts.toList s x = some (v, S')) (hs : VR m s us) (hx : VR m x ux) :
  ∃ u m', (Builtin.append_ ts ty #[us, ux]).run E.P m.w = .ok u m'.w ∧ Ext m m' ∧ Inv E S' m' ∧ VR m' v u := by
 unfold opAppend at h
 split at h
 ·rename_i t u hts
  have ht0 : ts[0]? = some t := by
   have := congrArg (·[0]?) hts
   simpa using this
  have ht1 : ts[1]? = some u := by
   have := congrArg (·[1]?) hts
   simpa using this
  simp only [Option.bind_eq_bind, Option.bind_eq_some_iff] at h
  obtain ⟨e, he, size, hsz, bytes, hby, z, hz, h⟩ := h
  split at h
  ·rename_i k hd
   exact appendZ_sound hi ht0 ht1 he hsz hby hz hd h hs hx
  ·cases h
  ·rename_i d hk hd
   simp only [Option.bind_eq_some_iff] at h
   obtain ⟨⟨n, new⟩, happ, h⟩ := h
   split at h
   ·cases h
   rename_i hc
   simp at hc
   obtain ⟨⟨⟨hsol, hzs⟩, hs0⟩, hnl⟩ := hc
   obtain ⟨xs, hap⟩ := appended_sound hi happ hx
   have hxl := hap.rel.length
   have hk' : ∀ k, d ≠ .int k := fun k e => hk k e
   obtain ⟨uz, hzrun, hzc, hzl⟩ := zero_cells (m := m) hz hsol
   have hm1 : Inv E S { m with w := m.w.drew } := hi.of_heap rfl rfl rfl rfl
   have hfwd : Ext m { m with w := m.w.drew } := Ext.of_heap (m := m) (w' := m.w.drew) rfl rfl rfl rfl
   have hback : Ext { m with w := m.w.drew } m := Ext.of_heap (m := { m with w := m.w.drew }) (w' := m.w) rfl rfl rfl rfl
   have hx1 : VR { m with w := m.w.drew } x ux := hx.ext hfwd
   split at h
   ·rename_i hn0
    simp at hn0
    subst hn0
    have hxs : xs = [] := List.eq_nil_of_length_eq_zero (by omega)
    subst hxs
    have key : ∀ A len c, us = .slice A len c → len ≤ c → (Builtin.append_ ts ty #[us, ux]).run E.P m.w = .ok us m.w := by
     rintro A len c rfl hle
     exact run_append_fit ht0 ht1 (elemT_some he) hsz hd hk' (hap.len _) (by omega) hap.run (fun a _ => rfl) (fun _ => rfl)
    split at h
    ·cases h
     have hs' := hs
     simp only [VR] at hs'
     exact ⟨us, m, key _ _ _ hs' (Nat.le_refl _), Ext.refl m, hi, hs⟩
    ·cases h
     have hs' := hs
     simp only [VR] at hs'
     obtain ⟨A, c, _, he', hnc, _⟩ := hs'
     exact ⟨us, m, key _ _ _ he' hnc, Ext.refl m, hi, hs⟩
    ·cases h
     have hs' := hs
     simp only [VR] at hs'
     obtain ⟨R, b, c, o, e', k, hp, he', h1, h2, _⟩ := hs'
     exact ⟨us, m, key _ _ _ he' h2, Ext.refl m, hi, hs⟩
    ·cases h
   ·rename_i hn0
    simp at hn0
    have hap1 : ∃ ys, App { m with w := m.w.drew } E.P size n new ux ys := appended_sound hm1 happ hx1
    split at h
    ·-- a nil slice
     split at h
     ·rename_i hb
      simp at hb
      cases h
      simp only [VR] at hs
      subst hs
      obtain ⟨ys, hap1⟩ := hap1
      have hyl := hap1.rel.length
      obtain ⟨cap, hcap, hrun⟩ := run_append_grow (ty := ty) (A := none) (len := 0) (c := 0) (us := ys) (old := []) ht0 ht1 (elemT_some he) hsz hby hd hk' (hap.len _) (by omega) (by simpa using hb.1) (by omega) hap1.run rfl hzrun
      simp only [Nat.zero_add] at hrun hcap
      have hzz := zeroCells_list uz.cells (cap - n)
      have hzz1 := congrArg List.length hzz
      have hzz2 := hzc.length
      simp at hzz1 hzz2
      obtain ⟨m', g1, g2, g3, g4, g5⟩ := grow_sound (e := e) (us := ([] ++ ys).toArray ++ Builtin.zeroCells uz.cells (cap - n)) hi (hap1.rel.ext hback) (by
       simp only [Array.toList_append]
       exact Leafs.append (by simpa using hap1.lf) (by rw [hzz]; exact hzl.replicate _)) (fun j u hj => by
        have hlt := (List.getElem?_eq_some_iff.1 hj).1
        rw [Array.getElem?_append_left (by simpa using hlt)]
        simpa using hj) hap1.lf S (id := 0) (.inl rfl)
      refine ⟨.slice (some ⟨m.w.heap.size, 0, none⟩) n cap, m', ?_, g2, g3, slR_new' g4 hcap hcap g5 ?_⟩
      ·rw [hrun, g1]
       rfl
      ·simp [hzz1, hzz2, hzs, hyl, hnl, ← Nat.add_mul]
       rw [show n + (cap - n) = cap by omega]
       exact Nat.le_refl _
     ·cases h
    ·rename_i id off len cap sz
     split at h
     ·cases h
     rename_i hszz
     simp at hszz
     subst hszz
     have hs0' := hs
     simp only [VR] at hs
     obtain ⟨R, b, c, o, e', k, hp, rfl, h1, h2, h3, h4, h5⟩ := hs
     split at h
     ·rename_i hfit
      simp only [Option.bind_eq_bind, Option.bind_eq_some_iff] at h
      obtain ⟨S1, hS1, h⟩ := h
      cases h
      obtain ⟨B, o', w', he', hrun, hext, hinv⟩ := putAt_sound hi hS1 (up := .pointer (some ⟨R, b + (off + len * sz), none⟩)) (by simp only [VR]; exact ⟨R, b, hp, rfl⟩) hap.rel hap.lf
      cases he'
      refine ⟨.slice (some ⟨R, o, none⟩) (len + n) c, { m with w := w' }, ?_, hext, hinv, ?_⟩
      ·refine run_append_fit ht0 ht1 (elemT_some he) hsz hd hk' (hap.len _) (by omega) hap.run (fun a ha => ?_) (fun h => by cases h)
       cases ha
       rw [addr_add, h3 (by omega), show b + off + len * sz = b + (off + len * sz) by omega]
       exact hrun
      ·simp only [VR]
       exact ⟨R, b, c, o, e', k, hp, rfl, h1, by omega, h3, hext.shape _ _ h4, h5⟩
     ·rename_i hfit
      split at h
      ·rename_i hb
       simp at hb
       obtain ⟨⟨⟨hb1, hb2⟩, hel⟩, hoff⟩ := hb
       simp only [Option.bind_eq_bind, Option.bind_eq_some_iff] at h
       obtain ⟨cs, hcs, h⟩ := h
       cases h
       obtain ⟨cs0, hS⟩ := elemOf_some hel
       by_cases hin : len + n ≤ c
       ·-- there is room, though we did not know
        obtain ⟨hI, us0, fz, ws, b1, b2, b3, b4, b5, b6, b7⟩ := hi.block hS hp
        rw [shape_of_blk b1] at h4
        cases h4
        have hmul : len * sz + n * sz ≤ c * sz := by
         rw [← Nat.add_mul]
         exact Nat.mul_le_mul_right _ hin
        obtain ⟨B, o', old, he', hol, hcl, hor, holf, hoc⟩ := cellsAt_sound hi hcs (up := .pointer (some ⟨R, b + off, none⟩)) (by simp only [VR]; exact ⟨R, b, hp, rfl⟩)
        cases he'
        obtain ⟨w', us', hrun, hw⟩ := run_storeCells_blk (P := E.P) (o := b + off + len * sz) xs 0 m.w us0 b1 (by omega) b5 hap.lf
        have hext1 := hw.ext b1 hI
        have hext : Ext m { phi := upd m.phi S.length (R, b + off), I := m.I, w := w' } := by
         refine ⟨fun i x hx => ?_, hext1.I, hext1.blk, hext1.shape, hext1.size, hext1.os, hext1.tape, hext1.output⟩
         have := hi.dom i x hx
         simp only [upd]
         rw [if_neg (by omega)]
         exact hx
        have hadd := (hi.drop_ id).add (m' := { phi := upd m.phi S.length (R, b + off), I := m.I, w := w' }) (R := R) (b := b + off) (ob := .cells (cs ++ new) e) hext (by simp) rfl (fun i hi' _ => hw.oth i hi') hI (fun i oi ci hoi hgo hpi => by
          rw [List.getElem?_set] at hoi
          by_cases hid : id = i
          ·rw [if_pos hid] at hoi
           split at hoi
           ·cases hoi
            exact hgo rfl
           ·cases hoi
          ·rw [if_neg hid] at hoi
           exact hid (hi.inj id i _ oi R b ci hS hoi (by simp) hgo hp hpi)) (by
          refine ⟨us', fz, old ++ xs, hw.blk, (hor.append hap.rel).ext hext, Leafs.append holf hap.lf, fun j u hj => ?_, by rw [hw.size]; exact b5, by rw [hw.size]; omega, fun n' hn' => ?_⟩
          ·rcases Nat.lt_or_ge j old.length with hlt | hge
           ·rw [List.getElem?_append_left hlt] at hj
            rw [hw.off_ _ (by omega)]
            have := hoc j u hj
            rwa [cell_of b1] at this
           ·rw [List.getElem?_append_right hge] at hj
            have := hw.at_ _ _ hj
            rwa [show b + off + len * sz + 0 + (j - old.length) = b + off + j by omega] at this
          ·rw [hsz] at hn'
           cases hn'
           rw [Nat.add_mod, b7 _ hsz, hoff, Nat.zero_mod])
        refine ⟨.slice (some ⟨R, o, none⟩) (len + n) c, _, ?_, hext, hadd, ?_⟩
        ·refine run_append_fit ht0 ht1 (elemT_some he) hsz hd hk' (hap.len _) hin hap.run (fun a ha => ?_) (fun h => by cases h)
         cases ha
         rw [addr_add, h3 (by omega)]
         exact hrun
        ·simp only [VR]
         refine ⟨R, b + off, c, o, _, _, by simp [upd], rfl, hin, hin, fun h0 => by rw [h3 h0]; simp, hext1.shape _ _ (shape_of_blk b1), by simpa using h5⟩
       ·-- a new row
        obtain ⟨ys, hap1⟩ := hap1
        have hyl := hap1.rel.length
        obtain ⟨B, o', old, he', hol, hcl, hor, holf, hoc⟩ := cellsAt_sound hm1 hcs (up := .pointer (some ⟨R, b + off, none⟩)) (by simp only [VR]; exact ⟨R, b, hp, rfl⟩)
        cases he'
        have hold : (Builtin.firstCells sz len (.slice (some ⟨R, o, none⟩) len c)).run E.P m.w.drew = .ok old.toArray m.w.drew := by
         by_cases h0 : c = 0
         ·have hl0 : len = 0 := by omega
          subst hl0
          have : old = [] := List.eq_nil_of_length_eq_zero (by rw [hol]; simp)
          subst this
          simp [Builtin.firstCells, loadCells, loadCellsFrom]
         ·simp only [Builtin.firstCells]
          rw [h3 h0, ← hol]
          exact run_loadCells_in hoc
        obtain ⟨cap', hcap, hrun⟩ := run_append_grow (ty := ty) (us := ys) (old := old) ht0 ht1 (elemT_some he) hsz hby hd hk' (hap.len _) (by omega) hb1 hb2 hap1.run hold hzrun
        have hzz := zeroCells_list uz.cells (cap' - (len + n))
        have hzz1 := congrArg List.length hzz
        have hzz2 := hzc.length
        simp at hzz1 hzz2
        obtain ⟨m', g1, g2, g3, g4, g5⟩ := grow_sound (e := e) (us := (old ++ ys).toArray ++ Builtin.zeroCells uz.cells (cap' - (len + n))) hi ((hor.append hap1.rel).ext hback) (by
         simp only [Array.toList_append]
         exact Leafs.append (by simpa using Leafs.append holf hap1.lf) (by rw [hzz]; exact hzl.replicate _)) (fun j u hj => by
          have hlt := (List.getElem?_eq_some_iff.1 hj).1
          rw [Array.getElem?_append_left (by simpa using hlt)]
          simpa using hj) (Leafs.append holf hap1.lf) (S.set id .gone) (id := id) (.inr rfl)
        refine ⟨.slice (some ⟨m.w.heap.size, 0, none⟩) (len + n) cap', m', ?_, g2, g3, slR_new' g4 hcap hcap g5 ?_⟩
        ·rw [hrun, g1]
         rfl
        ·simp [hzz1, hzz2, hzs, hyl, hnl, hol, ← Nat.add_mul]
         rw [show len + n + (cap' - (len + n)) = cap' by omega]
         exact Nat.le_refl _
      ·cases h
    ·cases h
 ·cases h
theorem opCopy_sound (hi : Inv E S m) {ts : Array TypeId} {ty : TypeId} {d x v : V} {ud ux : Value} (h : opCopy E S ts.toList d x = some (v, S')) (hd : VR m d ud) (hx : VR m x ux) :
  ∃ u m', (Builtin.copy_ ts ty #[ud, ux]).run E.P m.w = .ok u m'.w ∧ Ext m m' ∧ Inv E S' m' ∧ VR m' v u := by
 unfold opCopy at h
 split at h
 ·rename_i t rest hts
  have ht0 : ts[0]? = some t := by
   have := congrArg (·[0]?) hts
   simpa using this
  simp only [Option.bind_eq_bind, Option.bind_eq_some_iff] at h
  obtain ⟨e, he, size, hsz, ⟨n, new⟩, happ, h⟩ := h
  split at h
  ·cases h
  rename_i hnl
  simp at hnl
  split at h
  ·-- nothing
   cases h
   simp only [VR] at hd
   subst hd
   refine ⟨.int .i64 0, m, ?_, Ext.refl m, hi, by simp [VR]⟩
   obtain ⟨us, hap⟩ := appended_sound hi happ hx
   have hfc : ∃ r, (Builtin.firstCells size 0 ux).run E.P m.w = .ok r m.w := by
    unfold appended at happ
    split at happ
    ·simp only [VR] at hx
     subst hx
     exact ⟨_, rfl⟩
    ·obtain ⟨A, c, us, rfl, _⟩ := sliceCells_sound hi happ hx
     cases A with
     | none => exact ⟨_, rfl⟩
     | some a => exact ⟨#[], by simp [Builtin.firstCells, loadCells, loadCellsFrom]⟩
   obtain ⟨r, hr⟩ := hfc
   simp only [Builtin.copy_, ht0]
   simp only [List.getElem?_toArray, List.getElem?_cons_zero, List.getElem?_cons_succ, Sem.run_bind, run_under (elemT_some he), Result.andThen_ok, hap.len, run_size hsz]
   rw [show Nat.min n 0 = 0 from Nat.min_zero n, hr]
   rfl
  ·rename_i id off len cap sz
   split at h
   ·cases h
   rename_i hss
   simp at hss
   subst hss
   simp only [Option.bind_eq_some_iff] at h
   obtain ⟨S1, hS1, h⟩ := h
   cases h
   simp only [VR] at hd
   obtain ⟨R, b, c, o, e', k, hp, rfl, h1, h2, h3, h4, h5⟩ := hd
   obtain ⟨us, hap⟩ := appended_sound hi happ hx
   have hul := hap.rel.length
   have hfc : (Builtin.firstCells sz (min n len) ux).run E.P m.w = .ok (us.take (min n len * sz)).toArray m.w := by
    unfold appended at happ
    split at happ
    ·rename_i s
     cases happ
     simp only [VR] at hx
     subst hx
     have e1 : us = s.map fun b => Value.int .u8 b.toNat := by
      have := hap.run
      have e2 : (⟨s.toArray⟩ : ByteArray).extract 0 s.length = ⟨s.toArray⟩ := by rw [ba_extract]; simp
      simp [Builtin.firstCells, e2] at this
      exact this.symm
     have hsz1 : sz = 1 ∨ s.length = 0 := by
      have hnl' : (bytesV s).length = s.length * sz := hnl
      rw [show (bytesV s).length = s.length by simp [bytesV]] at hnl'
      rcases Nat.eq_zero_or_pos s.length with h0 | h0
      ·exact .inr h0
      ·exact .inl (Nat.eq_of_mul_eq_mul_left h0 (by rw [← hnl', Nat.mul_one]))
     subst e1
     rw [show (Builtin.firstCells sz (min s.length len) (.string ⟨s.toArray⟩)).run E.P m.w = .ok (((⟨s.toArray⟩ : ByteArray).extract 0 (min s.length len)).data.map fun b => Value.int .u8 b.toNat) m.w from rfl, ba_extract]
     rcases hsz1 with rfl | h0
     ·simp [List.map_take]
     ·have : s = [] := List.eq_nil_of_length_eq_zero h0
      subst this
      simp
    ·obtain ⟨A, c', us', rfl, hr, hlf, hl, hnc, hA⟩ := sliceCells_sound hi happ hx
     rcases hA with ⟨rfl, rfl, rfl⟩ | ⟨h0, rfl⟩ | ⟨B, o', rfl, hc⟩
     ·have hz : us = [] := List.eq_nil_of_length_eq_zero (by rw [hul, hnl]; simp)
      subst hz
      simp [Builtin.firstCells]
     ·have hz : us = [] := List.eq_nil_of_length_eq_zero (by rw [hul, hnl]; exact h0)
      subst hz
      have h00 : min n len * sz = 0 := by
       rcases Nat.mul_eq_zero.1 h0 with h | h
       ·simp [h]
       ·simp [h]
      cases A with
      | none => simp [Builtin.firstCells]
      | some a => simp [Builtin.firstCells, h00, loadCells, loadCellsFrom]
     ·have e1 : us = us' := by
       have h6 := hap.run
       simp only [Builtin.firstCells] at h6
       rw [← hl, run_loadCells_in hc] at h6
       simpa using congrArg (fun r => match r with | Result.ok a _ => a.toList | _ => []) h6.symm
      subst e1
      simp only [Builtin.firstCells]
      have hcut : CellsIn m.w B o' (us.take (min n len * sz)) := by
       have := hc.shift 0 (min n len * sz)
       simpa using this
      have hle : min n len * sz ≤ n * sz := Nat.mul_le_mul_right _ (Nat.min_le_left _ _)
      have hlen : (us.take (min n len * sz)).length = min n len * sz := by
       rw [List.length_take]
       omega
      have := run_loadCells_in (P := E.P) hcut
      rwa [hlen] at this
   obtain ⟨B, o', w', he', hrun, hext, hinv⟩ := putAt_sound hi hS1 (up := .pointer (some ⟨R, b + off, none⟩)) (by simp only [VR]; exact ⟨R, b, hp, rfl⟩) (hap.rel.take (min n len * sz)) (fun u hu => hap.lf u (List.mem_of_mem_take hu))
   cases he'
   refine ⟨.int .i64 (min n len : Nat), { m with w := w' }, ?_, hext, hinv, by simp [VR]⟩
   have hst : (storeCells ⟨R, o, none⟩ (us.take (min n len * sz))).run E.P m.w = .ok () w' := by
    by_cases h0 : c = 0
    ·have hl0 : len = 0 := by omega
     subst hl0
     simp only [Nat.min_zero, Nat.zero_mul, List.take_zero] at hrun ⊢
     exact hrun
    ·rw [h3 h0]
     exact hrun
   simp only [Builtin.copy_, ht0]
   simp only [List.getElem?_toArray, List.getElem?_cons_zero, List.getElem?_cons_succ, Sem.run_bind, run_under (elemT_some he), Result.andThen_ok, hap.len, run_size hsz]
   rw [show Nat.min n len = min n len from rfl, hfc]
   simp only [Result.andThen_ok, Sem.run_bind, hst]
   rfl
  ·cases h
 ·cases h
theorem opClear_sound (hi : Inv E S m) {ts : Array TypeId} {ty : TypeId} {x : V} {ux : Value} (h : opClear E S ts.toList x = some S') (hx : VR m x ux) :
  ∃ m', (Builtin.clear_ ts ty #[ux]).run E.P m.w = .ok (.tuple #[]) m'.w ∧ Ext m m' ∧ Inv E S' m' := by
 unfold opClear at h
 split at h
 ·rename_i t rest hts
  have ht0 : ts[0]? = some t := by
   have := congrArg (·[0]?) hts
   simpa using this
  simp only [Option.bind_eq_bind, Option.bind_eq_some_iff] at h
  obtain ⟨e, he, size, hsz, z, hz, h⟩ := h
  split at h
  ·cases h
   simp only [VR] at hx
   subst hx
   refine ⟨m, ?_, Ext.refl m, hi⟩
   simp only [Builtin.clear_, ht0]
   simp only [List.getElem?_toArray, List.getElem?_cons_zero, Sem.run_bind, run_under (elemT_some he), Result.andThen_ok]
   rfl
  ·rename_i id off len cap sz
   split at h
   ·cases h
   rename_i hc
   simp at hc
   obtain ⟨rfl, hsol, hzl⟩ := hc
   obtain ⟨uz, hzrun, hzc, hzlf⟩ := zero_cells (m := m) hz hsol
   simp only [VR] at hx
   obtain ⟨R, b, c, o, e', k, hp, rfl, h1, h2, h3, h4, h5⟩ := hx
   have hzz := zeroCells_list uz.cells len
   obtain ⟨B, o', w', he', hrun, hext, hinv⟩ := putAt_sound hi h (up := .pointer (some ⟨R, b + off, none⟩)) (by simp only [VR]; exact ⟨R, b, hp, rfl⟩) (hzc.replicate len) (hzlf.replicate len)
   cases he'
   refine ⟨{ m with w := w' }, ?_, hext, hinv⟩
   simp only [Builtin.clear_, ht0]
   simp only [List.getElem?_toArray, List.getElem?_cons_zero, Sem.run_bind, run_under (elemT_some he), Result.andThen_ok]
   cases len with
   | zero =>
    simp [storeCells] at hrun
    simp [hrun]
   | succ len =>
    have h0 : c ≠ 0 := by omega
    rw [h3 h0]
    simp only [Sem.run_bind, hzrun, Result.andThen_ok, hzz, hrun]
    rfl
  ·cases h
 ·cases h
end Go.Vm
set_option autoImplicit false
namespace Go.Vm
variable {E : Env} {S S' : Store} {m : M}
theorem run_getObj {P : Program} {w : World} {R : Nat} {o : Obj} (h : w.heap[R]? = some o) (hc : ∀ a b c, o ≠ .cells a b c) : (getObj R).run P w = .ok o w := by
 cases o <;> first | exact absurd rfl (hc _ _ _) | (simp only [getObj, Sem.run, h])
theorem run_setObj {P : Program} {w : World} {R : Nat} {o : Obj} (o' : Obj) (h : w.heap[R]? = some o) (hc : ∀ a b c, o ≠ .cells a b c) :
  (setObj R o').run P w = .ok () { w with heap := w.heap.setIfInBounds R o' } := by
 cases o <;> first | exact absurd rfl (hc _ _ _) | (simp only [Go.setObj, Sem.run, h])
theorem Ext.setObj {R : Nat} {o o' : Obj} (h : m.w.heap[R]? = some o) (hc : ∀ a b c, o ≠ .cells a b c) (hI : ¬ m.I R) : Ext m { m with w := { m.w with heap := m.w.heap.setIfInBounds R o' } } := by
 refine ⟨fun _ _ h => h, fun _ h => h, fun b hb => ?_, fun b s hs => ?_, by simp, rfl, rfl, rfl⟩
 ·have hne : R ≠ b := fun e => hI (e ▸ hb)
  simp [Array.getElem?_setIfInBounds, hne]
 ·have hne : R ≠ b := by
   rintro rfl
   unfold World.shape? at hs
   rw [h] at hs
   cases o <;> simp at hs
   exact hc _ _ _ rfl
  simpa [World.shape?, Array.getElem?_setIfInBounds, hne] using hs
theorem Inv.setObj (hi : Inv E S m) {id R : Nat} {ob ob' : Ob} {o o' : Obj} (hS : S[id]? = some ob) (hg : ob ≠ .gone) (hp : m.phi id = some (R, 0)) (h : m.w.heap[R]? = some o) (hc : ∀ a b c, o ≠ .cells a b c) (hI : ¬ m.I R)
  (hl : Live E { m with w := { m.w with heap := m.w.heap.setIfInBounds R o' } } R 0 ob') : Inv E (S.set id ob') { m with w := { m.w with heap := m.w.heap.setIfInBounds R o' } } :=
 hi.change (Ext.setObj h hc hI) rfl rfl hS hg hp (fun k hk _ => by simp [Array.getElem?_setIfInBounds, Ne.symm hk]) hl
theorem heap_set_same {w : World} {R : Nat} {o : Obj} (o' : Obj) (h : w.heap[R]? = some o) : (w.heap.setIfInBounds R o')[R]? = some o' := by
 have := (Array.getElem?_eq_some_iff.1 h).1
 simp [this]
theorem VRM.length : ∀ {es : List (V × V)} {us : List MapEntry}, VRM m es us → us.length = es.length
 | [], _, h => by simp only [VRM] at h; simp [h]
 | _ :: es, _, h => by
  simp only [VRM] at h
  obtain ⟨u, r, rfl, _, _, h3⟩ := h
  simp [VRM.length h3]
theorem Inv.mapBlock (hi : Inv E S m) {id R : Nat} {es : List (V × V)} (hS : S[id]? = some (.mp es)) (hp : m.phi id = some (R, 0)) :
  ¬ m.I R ∧ ∃ mes clock, m.w.heap[R]? = some (.map mes clock) ∧ VRM m es mes.toList := by
 obtain ⟨R', b', hp', hI, hl⟩ := hi.live id _ hS (by simp)
 rw [hp] at hp'
 cases hp'
 obtain ⟨mes, clock, h1, h2, _⟩ := hl
 exact ⟨hI, mes, clock, h1, h2⟩
theorem keyEq_sound {kd : TypeDesc} {x y : V} {ux uy : Value} {b : Bool} (h : keyEq kd x y = some b) (hx : VR m x ux) (hy : VR m y uy) : Instr.sameNow kd ux uy = some b := by
 unfold keyEq at h
 split at h
 ·simp only [VR] at hx hy
  subst hx hy
  split at h
  ·rename_i hk
   subst hk
   simp [Instr.sameNow]
   simpa using h
  ·cases h
 ·simp only [VR] at hx hy
  subst hx hy
  simp [Instr.sameNow, beq_toListBytes]
  simpa using h
 ·simp only [VR] at hx hy
  subst hx hy
  simp [Instr.sameNow]
  simpa using h
 ·cases h
theorem mpFind_sound {kd : TypeDesc} {x : V} {ux : Value} (hx : VR m x ux) : ∀ {es : List (V × V)} {us : List MapEntry} {r : Option V} (i : Nat), mpFind kd x es = some r → VRM m es us →
  match r with
  | none => Instr.findNow kd ux us i = some none
  | some v => ∃ j u, Instr.findNow kd ux us i = some (some (j, u)) ∧ VR m v u
 | [], us, r, i, h, hr => by
  simp [mpFind] at h
  subst h
  simp only [VRM] at hr
  subst hr
  rfl
 | e :: es, us, r, i, h, hr => by
  simp only [VRM] at hr
  obtain ⟨u, us', rfl, h1, h2, h3⟩ := hr
  rw [mpFind] at h
  split at h
  ·rename_i hk
   cases h
   have := keyEq_sound hk hx h1
   exact ⟨i, u.val, by simp [Instr.findNow, this], h2⟩
  ·rename_i hk
   have := keyEq_sound hk hx h1
   have ih := mpFind_sound hx (i + 1) h h3
   cases r with
   | none => simpa [Instr.findNow, this] using ih
   | some v =>
    obtain ⟨j, u', hj, hv⟩ := ih
    exact ⟨j, u', by simpa [Instr.findNow, this] using hj, hv⟩
  ·cases h
theorem keyKind_check {kd : TypeDesc} {k : V} {uk : Value} (h : keyKind kd k = true) (hk : VR m k uk) {t : TypeId} (ht : E.P.underlying t = some kd) (b : Bool) (w : World) : (Instr.checkKey b 10000 t uk).run E.P w = .ok () w := by
 unfold keyKind at h
 split at h
 all_goals first
  | (cases h; done)
  | (simp only [VR] at hk
     subst hk
     rw [Instr.checkKey]
     simp only [Sem.run_bind, run_under ht, Result.andThen_ok]
     rfl)
theorem mapEntries_sound (hi : Inv E S m) {x : V} {ux : Value} {es : List (V × V)} (h : mapEntries S x = some es) (hx : VR m x ux) :
  ∃ mes, VRM m es mes.toList ∧ ((ux = .map none ∧ mes = #[]) ∨ ∃ R clock, ux = .map (some R) ∧ m.w.heap[R]? = some (.map mes clock)) := by
 unfold mapEntries at h
 split at h
 ·cases h
  simp only [VR] at hx
  subst hx
  exact ⟨#[], by simp [VRM], .inl ⟨rfl, rfl⟩⟩
 ·split at h
  ·rename_i id es' hS
   cases h
   simp only [VR] at hx
   obtain ⟨R, hp, rfl⟩ := hx
   obtain ⟨_, mes, clock, h1, h2⟩ := hi.mapBlock hS hp
   exact ⟨mes, h2, .inr ⟨R, clock, rfl, h1⟩⟩
  ·cases h
 ·cases h
theorem run_lookup {t kt et : TypeId} {ux uk : Value} {ok : Bool} {mes : Array MapEntry} {w : World} {q : Option (Nat × Value)} (hd : E.P.underlying t = some (.map kt et))
  (hm : (ux = .map none ∧ mes = #[]) ∨ ∃ R clock, ux = .map (some R) ∧ w.heap[R]? = some (.map mes clock)) (hck : (Instr.checkKey mes.isEmpty 10000 kt uk).run E.P w = .ok () w)
  (hf : (Instr.findKey kt uk mes.toList).run E.P w = .ok q w) {z : Value} (hz : q = none → (zeroValue et).run E.P w = .ok z w) :
  (Instr.lookup t ux uk ok).run E.P w = .ok (match q with | some (_, u) => if ok then .tuple #[u, .bool true] else u | none => if ok then .tuple #[z, .bool false] else z) w := by
 rcases hm with ⟨rfl, rfl⟩ | ⟨R, clock, rfl, h1⟩
 ·simp only [Instr.lookup, Sem.run_bind, run_under hd, Result.andThen_ok, Sem.run_pure, hck, hf]
  cases q with
  | none => simp only [Sem.run_bind, hz rfl, Result.andThen_ok, Sem.run_pure]
  | some q => simp only [Sem.run_bind, Result.andThen_ok, Sem.run_pure]
 ·simp only [Instr.lookup, Sem.run_bind, run_under hd, Result.andThen_ok, run_getObj h1 (by simp), Sem.run_pure, hck, hf]
  cases q with
  | none => simp only [Sem.run_bind, hz rfl, Result.andThen_ok, Sem.run_pure]
  | some q => simp only [Sem.run_bind, Result.andThen_ok, Sem.run_pure]
theorem opLookup_sound (hi : Inv E S m) {t : TypeId} {x k v : V} {ux uk : Value} {ok : Bool} (h : opLookup E S t x k ok = some v) (hx : VR m x ux) (hk : VR m k uk) :
  ∃ u, (Instr.lookup t ux uk ok).run E.P m.w = .ok u m.w ∧ VR m v u := by
 unfold opLookup at h
 split at h
 ·rename_i kt et hd
  simp only [Option.bind_eq_bind, Option.bind_eq_some_iff] at h
  obtain ⟨kd, hkd, h⟩ := h
  split at h
  ·rename_i hkk
   simp only [Option.bind_eq_some_iff] at h
   obtain ⟨es, hes, r, hr, h⟩ := h
   obtain ⟨mes, hm1, hm2⟩ := mapEntries_sound hi hes hx
   have hf := mpFind_sound (m := m) hk 0 hr hm1
   have hfk : ∀ {q : Option (Nat × Value)}, Instr.findNow kd uk mes.toList 0 = some q → (Instr.findKey kt uk mes.toList).run E.P m.w = .ok q m.w := by
    intro q hq
    simp [Instr.findKey, run_under hkd, hq]
   have hck := keyKind_check (m := m) hkk hk hkd mes.isEmpty m.w
   cases r with
   | some v' =>
    simp at h
    obtain ⟨j, u, hj, hv⟩ := hf
    subst h
    have hrun : (Instr.lookup t ux uk ok).run E.P m.w = .ok (if ok then .tuple #[u, .bool true] else u) m.w := run_lookup (z := undef) hd hm2 hck (hfk hj) (fun h => by cases h)
    refine ⟨_, hrun, ?_⟩
    cases ok with
    | true =>
     simp only [if_true, VR]
     exact ⟨_, rfl, .cons hv (.one (by simp [VR]))⟩
    | false => simpa using hv
   | none =>
    simp only [Option.bind_eq_some_iff] at h
    obtain ⟨z, hz, h⟩ := h
    simp at h
    subst h
    obtain ⟨u, hzr, hv⟩ := zeroV_sound (m := m) hz
    have hrun : (Instr.lookup t ux uk ok).run E.P m.w = .ok (if ok then .tuple #[u, .bool false] else u) m.w := run_lookup hd hm2 hck (hfk hf) (fun _ => hzr _)
    refine ⟨_, hrun, ?_⟩
    cases ok with
    | true =>
     simp only [if_true, VR]
     exact ⟨_, rfl, .cons hv (.one (by simp [VR]))⟩
    | false => simpa using hv
  ·cases h
 ·cases h
theorem VRM.append : ∀ {es : List (V × V)} {us : List MapEntry} {es' : List (V × V)} {us' : List MapEntry}, VRM m es us → VRM m es' us' → VRM m (es ++ es') (us ++ us')
 | [], _, _, _, h, k => by simp only [VRM] at h; subst h; simpa using k
 | e :: es, _, _, _, h, k => by
  simp only [VRM] at h
  obtain ⟨u, r, rfl, h1, h2, h3⟩ := h
  simp only [List.cons_append, VRM]
  exact ⟨u, _, rfl, h1, h2, VRM.append h3 k⟩
theorem mpPut_sound {kd : TypeDesc} {x v : V} {ux uv : Value} (hx : VR m x ux) (hv : VR m v uv) : ∀ {es es' : List (V × V)} {us : List MapEntry} (i : Nat), mpPut kd x v es = some es' → VRM m es us →
  (Instr.findNow kd ux us i = some none ∧ ∀ born, VRM m es' (us ++ [{ key := ux, val := uv, born }])) ∨
  (∃ j u, Instr.findNow kd ux us i = some (some (i + j, u)) ∧ ∃ e, us[j]? = some e ∧ Instr.sameNow kd ux e.key = some true ∧ VRM m es' (us.modify j fun e => { e with key := ux, val := uv }))
 | [], es', us, i, h, hr => by
  simp [mpPut] at h
  subst h
  simp only [VRM] at hr
  subst hr
  exact .inl ⟨rfl, fun born => by simp only [List.nil_append, VRM]; exact ⟨_, _, rfl, hx, hv, rfl⟩⟩
 | e :: es, es', us, i, h, hr => by
  simp only [VRM] at hr
  obtain ⟨u, us', rfl, h1, h2, h3⟩ := hr
  rw [mpPut] at h
  split at h
  ·rename_i hk
   cases h
   have := keyEq_sound hk hx h1
   refine .inr ⟨0, u.val, by simp [Instr.findNow, this], u, by simp, this, ?_⟩
   simp only [List.modify_zero_cons, VRM]
   exact ⟨_, _, rfl, hx, hv, h3⟩
  ·rename_i hk
   have := keyEq_sound hk hx h1
   obtain ⟨es1, hp, rfl⟩ := Option.map_eq_some_iff.1 h
   rcases mpPut_sound hx hv (i + 1) hp h3 with ⟨ha, hb⟩ | ⟨j, u', ha, e', he, hs, hb⟩
   ·refine .inl ⟨by simpa [Instr.findNow, this] using ha, fun born => ?_⟩
    simp only [List.cons_append, VRM]
    exact ⟨_, _, rfl, h1, h2, hb born⟩
   ·refine .inr ⟨j + 1, u', ?_, e', by simpa using he, hs, ?_⟩
    ·rw [show i + (j + 1) = i + 1 + j by omega]
     simpa [Instr.findNow, this] using ha
    ·simp only [List.modify_succ_cons, VRM]
     exact ⟨_, _, rfl, h1, h2, hb⟩
  ·cases h
theorem sameNow_bits {kd : TypeDesc} {a b : Value} (h : Instr.sameNow kd a b = some true) : Instr.sameBits 10000 b a = true := by
 unfold Instr.sameNow at h
 split at h
 ·split at h
  ·rename_i hk
   subst hk
   simp at h
   simp [Instr.sameBits, h]
  ·cases h
 ·simp only [Option.some.injEq, beq_toListBytes] at h
  simp only [Instr.sameBits, beq_toListBytes]
  simp at h ⊢
  exact h.symm
 ·simp at h
  simp [Instr.sameBits, h]
 ·cases h
theorem opMapUpdate_sound (hi : Inv E S m) {t : TypeId} {x k v : V} {ux uk uv : Value} (h : opMapUpdate E S t x k v = some S') (hx : VR m x ux) (hk : VR m k uk) (hv : VR m v uv) :
  ∃ m', (Instr.mapUpdate t ux uk uv).run E.P m.w = .ok () m'.w ∧ Ext m m' ∧ Inv E S' m' := by
 unfold opMapUpdate at h
 split at h
 ·rename_i kt et id hd
  simp only [Option.bind_eq_bind, Option.bind_eq_some_iff] at h
  obtain ⟨kd, hkd, h⟩ := h
  split at h
  ·rename_i hkk
   simp only [Option.bind_eq_some_iff] at h
   obtain ⟨es, hes, es', hes', h⟩ := h
   cases h
   have hS : S[id]? = some (.mp es) := by
    unfold mapEntries at hes
    simp only at hes
    split at hes
    ·rename_i hc
     cases hes
     exact hc
    ·cases hes
   simp only [VR] at hx
   obtain ⟨R, hp, rfl⟩ := hx
   obtain ⟨hI, mes, clock, h1, h2⟩ := hi.mapBlock hS hp
   have hfk : ∀ {q : Option (Nat × Value)}, Instr.findNow kd uk mes.toList 0 = some q → (Instr.findKey kt uk mes.toList).run E.P m.w = .ok q m.w := by
    intro q hq
    simp [Instr.findKey, run_under hkd, hq]
   have hck := keyKind_check (m := m) hkk hk hkd false m.w
   have hnc : ∀ a b c, Obj.map mes clock ≠ .cells a b c := by simp
   rcases mpPut_sound hk hv 0 hes' h2 with ⟨ha, hb⟩ | ⟨j, u', ha, e', he, hs, hb⟩
   ·let o' : Obj := .map (mes.push { key := uk, val := uv, born := clock }) (clock + 1)
    refine ⟨{ m with w := { m.w with heap := m.w.heap.setIfInBounds R o' } }, ?_, Ext.setObj h1 hnc hI, hi.setObj hS (by simp) hp h1 hnc hI ?_⟩
    ·simp only [Instr.mapUpdate, Sem.run_bind, run_under hd, Result.andThen_ok, run_getObj h1 hnc, hck, hfk ha]
     exact run_setObj o' h1 hnc
    ·exact ⟨_, _, heap_set_same o' h1, by simpa using VRM.ext (Ext.setObj h1 hnc hI) _ _ (hb clock), rfl⟩
   ·simp only [Nat.zero_add] at ha
    let o' : Obj := .map (mes.modify j fun e => { e with key := uk, val := uv }) clock
    have he2 : mes[j]? = some e' := by simpa using he
    refine ⟨{ m with w := { m.w with heap := m.w.heap.setIfInBounds R o' } }, ?_, Ext.setObj h1 hnc hI, hi.setObj hS (by simp) hp h1 hnc hI ?_⟩
    ·simp only [Instr.mapUpdate, Sem.run_bind, run_under hd, Result.andThen_ok, run_getObj h1 hnc, hck, hfk ha]
     have : (Instr.keyThatStays (((mes[j]?).map (·.key)).getD uk) uk).run E.P m.w = .ok uk m.w := by
      simp [he2, Instr.keyThatStays, sameNow_bits hs]
     simp only [this, Result.andThen_ok]
     exact run_setObj o' h1 hnc
    ·exact ⟨_, _, heap_set_same o' h1, by simpa using VRM.ext (Ext.setObj h1 hnc hI) _ _ hb, rfl⟩
  ·cases h
 ·cases h
theorem opMakeMap_sound (hi : Inv E S m) (t : TypeId) : ∃ u m', (Instr.makeMap t none).run E.P m.w = .ok u m'.w ∧ Ext m m' ∧ Inv E (S ++ [.mp []]) m' ∧ VR m' (.mapR S.length) u := by
 refine ⟨.map (some m.w.heap.size), m.fresh S.length (.map #[] 0), ?_, Ext.fresh hi _, hi.fresh _ _ ⟨#[], 0, heap_alloc_same _ _, by simp [VRM], rfl⟩, ?_⟩
 ·rfl
 ·simp only [VR]
  exact ⟨_, by simp [M.fresh, upd], rfl⟩
theorem opLen_sound (hi : Inv E S m) {ts : Array TypeId} {ty t : TypeId} {x v : V} {ux : Value} (ht : ts.toList = [t]) (h : opLen E S t x = some v) (hx : VR m x ux) :
  ∃ u, (Builtin.len_ ts ty #[ux]).run E.P m.w = .ok u m.w ∧ VR m v u := by
 have ht0 : ts[0]? = some t := by
  have := congrArg (·[0]?) ht
  simpa using this
 unfold opLen at h
 split at h
 ·rename_i s hd
  cases h
  simp only [VR] at hx
  subst hx
  refine ⟨.int .i64 s.length, ?_, by simp [VR]⟩
  simp only [Builtin.len_, ht0]
  simp only [List.getElem?_toArray, List.getElem?_cons_zero, Sem.run_bind, run_under hd, Result.andThen_ok, ba_size]
  rfl
 ·rename_i e hd
  cases h
  simp only [VR] at hx
  subst hx
  refine ⟨.int .i64 0, ?_, by simp [VR]⟩
  simp only [Builtin.len_, ht0]
  simp only [List.getElem?_toArray, List.getElem?_cons_zero, Sem.run_bind, run_under hd, Result.andThen_ok]
  rfl
 ·rename_i e n cs hd
  cases h
  simp only [VR] at hx
  obtain ⟨A, c, us, rfl, _⟩ := hx
  refine ⟨.int .i64 n, ?_, by simp [VR]⟩
  simp only [Builtin.len_, ht0]
  simp only [List.getElem?_toArray, List.getElem?_cons_zero, Sem.run_bind, run_under hd, Result.andThen_ok]
  rfl
 ·rename_i e id off n cap sz hd
  cases h
  simp only [VR] at hx
  obtain ⟨R, b, c, o, e', k, hp, rfl, _⟩ := hx
  refine ⟨.int .i64 n, ?_, by simp [VR]⟩
  simp only [Builtin.len_, ht0]
  simp only [List.getElem?_toArray, List.getElem?_cons_zero, Sem.run_bind, run_under hd, Result.andThen_ok]
  rfl
 ·rename_i n _ hd
  cases h
  refine ⟨.int .i64 n, ?_, by simp [VR]⟩
  simp only [Builtin.len_, ht0]
  simp only [List.getElem?_toArray, List.getElem?_cons_zero, Sem.run_bind, run_under hd, Result.andThen_ok]
  rfl
 ·rename_i k e hd
  cases h
  simp only [VR] at hx
  subst hx
  refine ⟨.int .i64 0, ?_, by simp [VR]⟩
  simp only [Builtin.len_, ht0]
  simp only [List.getElem?_toArray, List.getElem?_cons_zero, Sem.run_bind, run_under hd, Result.andThen_ok]
  rfl
 ·rename_i k e id hd
  split at h
  ·rename_i es hS
   cases h
   simp only [VR] at hx
   obtain ⟨R, hp, rfl⟩ := hx
   obtain ⟨hI, mes, clock, h1, h2⟩ := hi.mapBlock hS hp
   have hl := h2.length
   simp at hl
   refine ⟨.int .i64 es.length, ?_, by simp [VR]⟩
   simp only [Builtin.len_, ht0]
   simp only [List.getElem?_toArray, List.getElem?_cons_zero, Sem.run_bind, run_under hd, Result.andThen_ok, run_getObj h1 (by simp)]
   rw [Sem.run_pure, hl]
   rfl
  ·cases h
 ·cases h
theorem opCap_sound {ts : Array TypeId} {ty t : TypeId} {x v : V} {ux : Value} (ht : ts.toList = [t]) (h : opCap E t x = some v) (hx : VR m x ux) :
  ∃ u, (Builtin.cap_ ts ty #[ux]).run E.P m.w = .ok u m.w ∧ VR m v u := by
 have ht0 : ts[0]? = some t := by
  have := congrArg (·[0]?) ht
  simpa using this
 unfold opCap at h
 split at h
 ·rename_i e hd
  cases h
  simp only [VR] at hx
  subst hx
  refine ⟨.int .i64 0, ?_, by simp [VR]⟩
  simp only [Builtin.cap_, ht0]
  simp only [List.getElem?_toArray, List.getElem?_cons_zero, Sem.run_bind, run_under hd, Result.andThen_ok]
  rfl
 ·cases h
theorem minMax_sound (mx : Bool) (ty : TypeId) (ts : Array TypeId) : ∀ (r : List V) {x v : V} {ux : Value} {ur : List Value}, minMax mx x r = some v → VR m x ux → VRL m r ur →
  ∃ u, (ur.foldlM (if mx then Builtin.max2 else Builtin.min2) ux).run E.P m.w = .ok u m.w ∧ VR m v u
 | [], x, v, ux, ur, h, hx, hr => by
  simp [minMax] at h
  subst h
  simp only [VRL] at hr
  subst hr
  exact ⟨ux, rfl, hx⟩
 | y :: r, x, v, ux, ur, h, hx, hr => by
  simp only [VRL] at hr
  obtain ⟨uy, ur, rfl, hy, hr⟩ := hr
  unfold minMax at h
  split at h
  ·cases ‹y :: r = []›
  ·rename_i k a k' b r' heq
   cases heq
   split at h
   ·rename_i hk
    subst hk
    simp only [VR] at hx hy
    subst hx hy
    cases mx with
    | true =>
     simp only [if_true] at h
     obtain ⟨u, h1, h2⟩ := minMax_sound true ty ts r (ux := .int k (if b > a then b else a)) h (by simp [VR]) hr
     exact ⟨u, by simpa [Builtin.max2] using h1, h2⟩
    | false =>
     simp only [Bool.false_eq_true, if_false] at h
     obtain ⟨u, h1, h2⟩ := minMax_sound false ty ts r (ux := .int k (if b < a then b else a)) h (by simp [VR]) hr
     exact ⟨u, by simpa [Builtin.min2] using h1, h2⟩
   ·cases h
  ·cases h
theorem opSliceData_sound (ty : TypeId) (ts : Array TypeId) {x v : V} {ux : Value} (h : opSliceData x = some v) (hx : VR m x ux) (P : Program) :
  ∃ u, (Builtin.unsafeSliceData_ ts ty #[ux]).run P m.w = .ok u m.w ∧ VR m v u := by
 unfold opSliceData at h
 split at h
 ·cases h
  simp only [VR] at hx
  subst hx
  exact ⟨.pointer none, rfl, by simp [VR]⟩
 ·split at h
  ·rename_i id off len cap sz hc
   simp at hc
   cases h
   simp only [VR] at hx
   obtain ⟨R, b, c, o, e', k, hp, rfl, h1, h2, h3, _⟩ := hx
   refine ⟨.pointer (some ⟨R, b + off, none⟩), ?_, by simp only [VR]; exact ⟨R, b, hp, rfl⟩⟩
   rw [h3 (by omega)]
   show Sem.run P (ite (c ≠ 0) _ _) m.w = _
   rw [if_pos (by omega)]
   rfl
  ·cases h
 ·cases h
theorem run_loadBytes {P : Program} {w : World} {B : Nat} : ∀ (ns : List Int) (o : Nat) (l : List UInt8), CellsIn w B o (ns.map (Value.int .u8)) →
  (loadBytes ⟨B, o, none⟩ ⟨l.toArray⟩ ns.length).run P w = .ok ⟨(l ++ ns.map fun n => n.toNat.toUInt8).toArray⟩ w
 | [], o, l, _ => by simp [loadBytes]
 | n :: ns, o, l, h => by
  have h0 := h 0 (.int .u8 n) (by simp)
  simp at h0
  have hs : CellsIn w B (o + 1) (ns.map (Value.int .u8)) := fun j u hj => by
   have := h (j + 1) u (by simpa using hj)
   rwa [show o + 1 + j = o + (j + 1) by omega]
  have hp : (⟨l.toArray⟩ : ByteArray).push n.toNat.toUInt8 = ⟨(l ++ [n.toNat.toUInt8]).toArray⟩ := by
   apply ByteArray.ext
   simp [ByteArray.push]
  simp only [List.length_cons, loadBytes, Sem.run_bind, run_load, h0, Result.andThen_ok, addr_add, hp]
  rw [run_loadBytes ns (o + 1) _ hs]
  simp
theorem freeze_other (w : World) (a : Addr) (n b : Nat) (h : b ≠ a.block) : (w.freeze a n).heap[b]? = w.heap[b]? := by
 unfold World.freeze
 split
 ·rfl
 ·simp only [Array.getElem?_modify]
  rw [if_neg (Ne.symm h)]
theorem freeze_shape (w : World) (a : Addr) (n b : Nat) (s : TypeId × Nat) (h : w.shape? b = some s) : (w.freeze a n).shape? b = some s := by
 by_cases hb : b = a.block
 ·subst hb
  cases ho : w.heap[a.block]? with
  | none => simp [World.shape?, ho] at h
  | some o =>
   cases o <;> simp [World.shape?, ho] at h
   subst h
   unfold World.freeze
   split
   ·simp [World.shape?, ho]
   ·simp [World.shape?, Array.getElem?_modify, ho]
 ·simpa [World.shape?, freeze_other _ _ _ _ hb] using h
theorem opUnsafeString_sound (hi : Inv E S m) {ts : Array TypeId} {ty : TypeId} {p n v : V} {up un : Value} (h : opUnsafeString E S ts.toList p n = some (v, S')) (hp : VR m p up) (hn : VR m n un) :
  ∃ u m', (Builtin.unsafeString_ ts ty #[up, un]).run E.P m.w = .ok u m'.w ∧ Ext m m' ∧ Inv E S' m' ∧ VR m' v u := by
 unfold opUnsafeString at h
 split at h
 ·rename_i t rest k n hts
  split at h
  ·rename_i h0
   subst h0
   cases h
   simp only [VR] at hp hn
   subst hp hn
   have ht0 : ts[0]? = some t := by
    have := congrArg (·[0]?) hts
    simpa using this
   refine ⟨.string .empty, m, ?_, Ext.refl m, hi, by simp [VR]; rfl⟩
   show Sem.run E.P (asInt (Value.int k _) >>= _) _ = _
   simp only [Sem.run_bind, asInt, asIntOf, Sem.run_pure, Result.andThen_ok, ht0]
   rw [if_neg (by omega), if_neg (by have : IntKind.max .i64 = 9223372036854775807 := rfl; omega)]
   rfl
  ·cases h
 ·rename_i t rest id off k n hts
  simp only [VR] at hp hn
  obtain ⟨R, b, hp, rfl⟩ := hp
  subst hn
  have ht0 : ts[0]? = some t := by
   have := congrArg (·[0]?) hts
   simpa using this
  split at h
  ·rename_i h0
   subst h0
   cases h
   refine ⟨.string .empty, m, ?_, Ext.refl m, hi, by simp [VR]; rfl⟩
   show Sem.run E.P (asInt (Value.int k _) >>= _) _ = _
   simp only [Sem.run_bind, asInt, asIntOf, Sem.run_pure, Result.andThen_ok, ht0]
   rw [if_neg (by omega), if_neg (by have : IntKind.max .i64 = 9223372036854775807 := rfl; omega)]
   rfl
  ·rename_i h0
   split at h
   ·rename_i u hd
    simp only [Option.bind_eq_bind, Option.bind_eq_some_iff] at h
    obtain ⟨sz, hsz, e, he, cs, hcs, b', hb', h⟩ := h
    split at h
    ·rename_i hc
     simp at hc
     obtain ⟨⟨⟨hpos, hle⟩, rfl⟩, rfl⟩ := hc
     cases h
     obtain ⟨cs0, hS⟩ := elemOf_some he
     obtain ⟨hI, us0, fz, ws, b1, b2, b3, b4, b5, b6, b7⟩ := hi.block hS hp
     obtain ⟨B, o', us, he', hul, hcl, hur, hulf, huc⟩ := cellsAt_sound hi hcs (up := .pointer (some ⟨R, b + off, none⟩)) (by simp only [VR]; exact ⟨R, b, hp, rfl⟩)
     cases he'
     obtain ⟨ns, rfl, rfl⟩ := vBytes_sound hb' hur
     simp at hul
     have hfit : b + off + n.toNat ≤ us0.size := by
      have hlast := huc (n.toNat - 1) (.int .u8 (ns[n.toNat - 1]'(by omega))) (by simp)
      rw [cell_of b1] at hlast
      have := (Array.getElem?_eq_some_iff.1 hlast).1
      omega
     have hvar := run_variablesAt (E := E) (o := b + off) b1 hsz (by omega) n.toNat (Nat.mod_one _) (by omega)
     have hlb := run_loadBytes (P := E.P) ns (b + off) [] huc
     rw [hul] at hlb
     have helem : (Go.elemOf t).run E.P m.w = Result.ok e m.w := by simp [Go.elemOf, run_under hd]
     have hext : Ext m { m with w := m.w.freeze ⟨R, b + off, none⟩ n.toNat } := by
      refine ⟨fun _ _ h => h, fun _ h => h, fun k hk => freeze_other _ _ _ _ (fun h9 => hI (by rw [h9] at hk; exact hk)), fun k s hs => freeze_shape _ _ _ _ _ hs, ?_, ?_, ?_, ?_⟩
      all_goals (unfold World.freeze; split <;> simp)
     have hinv : Inv E (S.set id .gone) { m with w := m.w.freeze ⟨R, b + off, none⟩ n.toNat } := by
      refine (hi.drop_ id).touch hext rfl rfl (R := R) (fun i oi ci hoi hgo hpi => ?_) (fun k hk _ => freeze_other _ _ _ _ hk)
      rw [List.getElem?_set] at hoi
      by_cases hid : id = i
      ·rw [if_pos hid] at hoi
       split at hoi
       ·cases hoi
        exact hgo rfl
       ·cases hoi
      ·rw [if_neg hid] at hoi
       exact hid (hi.inj id i _ oi R b ci hS hoi (by simp) hgo hp hpi)
     refine ⟨.string ⟨(ns.map fun n => UInt8.ofNat n.toNat).toArray⟩, _, ?_, hext, hinv, by simp [VR]⟩
     show Sem.run E.P (asInt (Value.int k _) >>= _) _ = _
     simp only [Sem.run_bind, asInt, asIntOf, Sem.run_pure, Result.andThen_ok, ht0]
     rw [if_neg (by omega), if_neg (by have : IntKind.max .i64 = 9223372036854775807 := rfl; omega)]
     simp only [Sem.run_ite]
     rw [if_neg h0]
     simp only [Sem.run_bind, helem, hvar, Result.andThen_ok, if_true]
     have hlb' : (loadBytes ⟨R, b + off, none⟩ .empty n.toNat).run E.P m.w = .ok ⟨(ns.map fun n => UInt8.ofNat n.toNat).toArray⟩ m.w := by
      have := hlb
      simp only [List.nil_append] at this
      exact this
     simp only [Sem.run_bind, hlb', run_freeze, Result.andThen_ok]
     rfl
    ·cases h
   ·cases h
 ·cases h
end Go.Vm
set_option autoImplicit false
namespace Go.Vm
variable {E : Env} {S S' : Store} {m : M}
theorem opRange_sound (hi : Inv E S m) {t : TypeId} {s : List UInt8} {ux : Value} (hd : E.P.underlying t = some .string) (hx : VR m (.str s) ux) :
  ∃ u m', (Instr.range t ux).run E.P m.w = .ok u m'.w ∧ Ext m m' ∧ Inv E (S ++ [.iter s 0]) m' ∧ VR m' (.it S.length) u := by
 simp only [VR] at hx
 subst hx
 refine ⟨.pointer (some ⟨m.w.heap.size, 0, none⟩), m.fresh S.length (.stringIter ⟨s.toArray⟩ 0), ?_, Ext.fresh hi _, hi.fresh _ _ ⟨heap_alloc_same _ _, rfl⟩, ?_⟩
 ·simp only [Instr.range, Sem.run_bind, run_under hd, Result.andThen_ok]
  rfl
 ·simp only [VR]
  exact ⟨_, by simp [M.fresh, upd], rfl⟩
theorem iter_block (hi : Inv E S m) {id R pos : Nat} {s : List UInt8} (hS : S[id]? = some (.iter s pos)) (hp : m.phi id = some (R, 0)) : ¬ m.I R ∧ m.w.heap[R]? = some (.stringIter ⟨s.toArray⟩ pos) := by
 obtain ⟨R', b', hp', hI, hl⟩ := hi.live id _ hS (by simp)
 rw [hp] at hp'
 cases hp'
 exact ⟨hI, hl.1⟩
theorem opNext_end (hi : Inv E S m) {id pos : Nat} {s : List UInt8} {ux : Value} {t : TypeId} (hS : S[id]? = some (.iter s pos)) (hx : VR m (.it id) ux) (hp : ¬ pos < s.length) :
  (Instr.next ux true t).run E.P m.w = .ok (.tuple #[.bool false]) m.w := by
 simp only [VR] at hx
 obtain ⟨R, hR, rfl⟩ := hx
 obtain ⟨_, hb⟩ := iter_block hi hS hR
 simp only [Instr.next, Sem.run_bind, run_getObj hb (by simp), Result.andThen_ok, ba_size]
 rw [if_neg hp]
 rfl
theorem opNext_more (hi : Inv E S m) {id pos : Nat} {s : List UInt8} {ux : Value} {t : TypeId} (hS : S[id]? = some (.iter s pos)) (hx : VR m (.it id) ux) (hp : pos < s.length) :
  ∃ m', (Instr.next ux true t).run E.P m.w = .ok (.tuple #[.bool true, goInt pos, .int .i32 (Utf8.decode ⟨s.toArray⟩ pos).1]) m'.w ∧ Ext m m' ∧ Inv E (S.set id (.iter s (pos + (Utf8.decode ⟨s.toArray⟩ pos).2))) m' := by
 simp only [VR] at hx
 obtain ⟨R, hR, rfl⟩ := hx
 obtain ⟨hI, hb⟩ := iter_block hi hS hR
 have hnc : ∀ a b c, Obj.stringIter ⟨s.toArray⟩ pos ≠ .cells a b c := by simp
 refine ⟨{ m with w := { m.w with heap := m.w.heap.setIfInBounds R (.stringIter ⟨s.toArray⟩ (pos + (Utf8.decode ⟨s.toArray⟩ pos).2)) } }, ?_, Ext.setObj hb hnc hI, hi.setObj hS (by simp) hR hb hnc hI ⟨heap_set_same _ hb, rfl⟩⟩
 simp only [Instr.next, Sem.run_bind, run_getObj hb hnc, Result.andThen_ok, ba_size]
 rw [if_pos hp]
 simp only [Sem.run_bind, run_setObj _ hb hnc, Result.andThen_ok, Sem.run_pure]
theorem find_congr {α : Type} {p q : α → Bool} : ∀ (l : List α), (∀ a, a ∈ l → p a = q a) → l.find? p = l.find? q
 | [], _ => rfl
 | a :: l, h => by
  rw [List.find?_cons, List.find?_cons, h a (by simp), find_congr l (fun b hb => h b (by simp [hb]))]
theorem find_range {α : Type} [BEq α] [Inhabited α] (l : List α) (c : α) : ∀ (k : Nat), (List.range' k l.length).find? (fun i => (l.getD (i - k) default) == c) = (l.findIdx? (· == c)).map (· + k) := by
 induction l with
 | nil => intro k; rfl
 | cons a l ih =>
  intro k
  simp only [List.length_cons, List.range'_succ, List.find?_cons, List.findIdx?_cons]
  simp only [Nat.sub_self, List.getD_cons_zero]
  cases h : a == c with
  | true => simp
  | false =>
   simp only [cond_false, Bool.false_eq_true, if_false]
   have := ih (k + 1)
   rw [Option.map_map]
   have e : (List.range' (k + 1) l.length).find? (fun i => ((a :: l).getD (i - k) default) == c) = (List.range' (k + 1) l.length).find? (fun i => (l.getD (i - (k + 1)) default) == c) := by
    apply find_congr
    intro i hi
    have := List.mem_range'_1.1 hi
    rw [show i - k = (i - (k + 1)) + 1 by omega, List.getD_cons_succ]
   rw [e, this]
   cases List.findIdx? (· == c) l with
   | none => rfl
   | some i => simp; omega
theorem indexByte_eq (s : List UInt8) (c : UInt8) : ((List.range s.length).find? fun i => (⟨s.toArray⟩ : ByteArray)[i]! == c) = s.findIdx? (· == c) := by
 have h := find_range s c 0
 rw [← List.range_eq_range'] at h
 simp only [Nat.sub_zero, Nat.add_zero, Option.map_id'] at h
 rw [← h]
 apply find_congr
 intro i hi
 have hlt := List.mem_range.1 hi
 have e : (⟨s.toArray⟩ : ByteArray)[i]! = s[i]'hlt := by
  have := ba_get s i
  rw [List.getElem?_eq_getElem hlt] at this
  rw [getElem!_def, this]
 rw [e, List.getD_eq_getElem?_getD, List.getElem?_eq_getElem hlt]
 rfl
theorem count_eq (c : UInt8) : ∀ (s : List UInt8) (n : Int), s.foldl (fun n x => if x == c then n + 1 else n) n = n + (s.filter (· == c)).length
 | [], n => by simp
 | x :: s, n => by
  rw [List.foldl_cons, count_eq c s]
  cases h : x == c with
  | true => simp [List.filter_cons, h]; omega
  | false => simp [List.filter_cons, h]
theorem ba_foldl {β : Type} (f : β → UInt8 → β) (b : β) (l : List UInt8) : (⟨l.toArray⟩ : ByteArray).foldl f b = l.foldl f b := by
 have := Lib.foldl_data f b ⟨l.toArray⟩
 simpa using this
theorem find_indexByte (fn : Func) (hn : fn.name = "internal/bytealg.IndexByteString") (ho : fn.origin = "") : Extern.findNext fn = none ∧ Extern.find fn = some Extern.BytealgIndexByte.indexByte := by
 unfold Extern.findNext Extern.find
 rw [hn, ho]
 exact ⟨by kernel_rfl, by kernel_rfl⟩
theorem find_count (fn : Func) (hn : fn.name = "internal/bytealg.CountString") (ho : fn.origin = "") : Extern.findNext fn = none ∧ Extern.find fn = some Extern.BytealgCount.count := by
 unfold Extern.findNext Extern.find
 rw [hn, ho]
 exact ⟨by kernel_rfl, by kernel_rfl⟩
theorem find_noEscape (fn : Func) (hn : fn.name = "internal/abi.NoEscape") (ho : fn.origin = "") : Extern.findNext fn = none ∧ Extern.find fn = some Extern.AbiNoEscape.same := by
 unfold Extern.findNext Extern.find
 rw [hn, ho]
 exact ⟨by kernel_rfl, by kernel_rfl⟩
theorem find_makeNoZero (fn : Func) (hn : fn.name = "internal/bytealg.MakeNoZero") (ho : fn.origin = "") : Extern.findNext fn = none ∧ Extern.find fn = some (Extern.BytealgMakeNoZero.makeNoZero fn.params fn.resultTypes) := by
 unfold Extern.findNext Extern.find
 rw [hn, ho]
 exact ⟨by kernel_rfl, by kernel_rfl⟩
theorem callFunc_extern {f : FuncId} {fn : Func} {args : Array Value} {e : Array Value → Sem Value} {u : Value} {w w' : World} (hf : E.P.funcs[f]? = some fn) (hn : (fn.name == "runtime.NumGoroutine") = false) (hb : fn.body = none)
  (h : Extern.findNext fn = none ∧ Extern.find fn = some e) (hrun : (e args).run E.P w = .ok u w') : (callFunc f args).run E.P w = .ok (.value u) w' := by
 simp only [callFunc, Sem.run_bind, run_program, Result.andThen_ok, hf, hn, Bool.false_eq_true, if_false, hb, Option.isNone_none, if_true, run_mark, h.1, h.2, hrun, Sem.run_pure]
theorem find_atomic (fn : Func) (ho : fn.origin = "") : (fn.name = "sync/atomic.LoadUint32" → Extern.findNext fn = none ∧ Extern.find fn = some (Extern.Atomic.loadT (.int .u32))) ∧
  (fn.name = "sync/atomic.StoreUint32" → Extern.findNext fn = none ∧ Extern.find fn = some Extern.Atomic.storeT) ∧
  (fn.name = "sync/atomic.CompareAndSwapInt32" → Extern.findNext fn = none ∧ Extern.find fn = some (Extern.Atomic.casT (.int .i32))) ∧
  (fn.name = "sync/atomic.AddInt32" → Extern.findNext fn = none ∧ Extern.find fn = some (Extern.Atomic.update (Op.intArith .add) .i32 true)) := by
 obtain ⟨name, origin⟩ := fn
 subst ho
 refine ⟨fun h => ?_, fun h => ?_, fun h => ?_, fun h => ?_⟩ <;> (simp only at h; subst h; exact ⟨rfl, rfl⟩)
theorem cell_one (hi : Inv E S m) {id off : Nat} {x : V} {u : Value} (h : cellsAt S (.ref id off) 1 = some [x]) (hp : VR m (.ref id off) u) :
  ∃ B o c, u = .pointer (some ⟨B, o, none⟩) ∧ m.w.cell? ⟨B, o, none⟩ = some c ∧ VR m x c := by
 obtain ⟨B, o, us, rfl, h1, h2, h3, h4, h5⟩ := cellsAt_sound hi h hp
 simp only [VRL] at h3
 obtain ⟨c, r, rfl, h6, rfl⟩ := h3
 exact ⟨B, o, c, rfl, by simpa using h5 0 c rfl, h6⟩
theorem put_one (hi : Inv E S m) {id off : Nat} {v : V} {u uv c : Value} {B o : Nat} (h : putAt S (.ref id off) [v] = some S') (hp : VR m (.ref id off) u) (hu : u = .pointer (some ⟨B, o, none⟩)) (hc : m.w.cell? ⟨B, o, none⟩ = some c) (hv : VR m v uv) (hl : uv.oneCell' = true) :
  m.w.frozen? ⟨B, o, none⟩ = false ∧ Ext m { m with w := m.w.setCell ⟨B, o, none⟩ uv } ∧ Inv E S' { m with w := m.w.setCell ⟨B, o, none⟩ uv } := by
 obtain ⟨B', o', w', e, hrun, h1, h2⟩ := putAt_sound hi h hp (.one hv) (fun x hx => by simp at hx; subst hx; exact hl)
 subst hu
 cases e
 have hst := run_store E.P m.w ⟨B, o, none⟩ uv .plain hl
 have e0 : (⟨B, o, none⟩ : Addr).add 0 = ⟨B, o, none⟩ := by rw [addr_add, Nat.add_zero]
 have : (storeCells ⟨B, o, none⟩ [uv]).run E.P m.w = ((store ⟨B, o, none⟩ uv).run E.P m.w).andThen fun _ w => .ok () w := by
  simp only [storeCells, Sem.run_bind, e0]
  rfl
 rw [this, hst, hc] at hrun
 cases hf : m.w.frozen? ⟨B, o, none⟩ with
 | true => simp [hf, Result.andThen] at hrun
 | false =>
  simp [hf, Result.andThen] at hrun
  subst hrun
  exact ⟨rfl, h1, h2⟩
theorem find_race (fn : Func) (ho : fn.origin = "") : (fn.name = "internal/race.Disable" → Extern.findNext fn = none ∧ Extern.find fn = some (fun _ => do mark .disable; pure Extern.Race.none_)) ∧
  (fn.name = "internal/race.Enable" → Extern.findNext fn = none ∧ Extern.find fn = some (fun _ => do mark .enable; pure Extern.Race.none_)) ∧
  (fn.name = "internal/race.Acquire" → Extern.findNext fn = none ∧ Extern.find fn = some (Extern.Race.marked .acquire)) ∧
  (fn.name = "internal/race.ReleaseMerge" → Extern.findNext fn = none ∧ Extern.find fn = some (Extern.Race.marked .releaseMerge)) := by
 obtain ⟨name, origin⟩ := fn
 subst ho
 refine ⟨fun h => ?_, fun h => ?_, fun h => ?_, fun h => ?_⟩ <;> (simp only at h; subst h; exact ⟨rfl, rfl⟩)
theorem run_race0 (P : Program) (w : World) (k : Mark) (m : Sem Unit) (w' : World) (h : m.run P w = .ok () w') : (do m; pure Extern.Race.none_ : Sem Value).run P w = .ok (.tuple #[]) w' := by
 simp only [Sem.run_bind, h, Result.andThen_ok]
 rfl
theorem run_marked (P : Program) (w : World) (k : Addr → Mark) {args : Array Value} {a : Addr} (h : args[0]? = some (.pointer (some a))) : (Extern.Race.marked k args).run P w = .ok (.tuple #[]) w := by
 unfold Extern.Race.marked Extern.Race.at_
 rw [h]
 simp only [Sem.run_bind, Sem.run_pure, Result.andThen_ok, run_mark]
 rfl
theorem ref_shape {id off : Nat} {uargs : List Value} (h : VRL m [.ref id off] uargs) : ∃ a, uargs.toArray[0]? = some (.pointer (some a)) := by
 simp only [VRL, VR] at h
 obtain ⟨u, r, rfl, ⟨B, hB, _, rfl⟩, rfl⟩ := h
 exact ⟨_, rfl⟩
theorem externV_sound (hi : Inv E S m) {f : FuncId} {fn : Func} {args : List V} {uargs : List Value} {v : V} (hf : E.P.funcs[f]? = some fn) (hn : (fn.name == "runtime.NumGoroutine") = false) (hb : fn.body = none)
  (ho : fn.origin = "") (h : externV E fn.name fn.resultTypes.toList args S = some (v, S')) (ha : VRL m args uargs) :
  ∃ u m', (callFunc f uargs.toArray).run E.P m.w = .ok (.value u) m'.w ∧ Ext m m' ∧ Inv E S' m' ∧ VR m' v u := by
 unfold externV at h
 split at h
 ·rename_i s c hname
  cases h
  simp only [VRL] at ha
  obtain ⟨u1, r1, rfl, h1, u2, r2, rfl, h2, rfl⟩ := ha
  simp only [VR] at h1 h2
  subst h1 h2
  refine ⟨_, m, callFunc_extern hf hn hb (find_indexByte fn hname ho) (u := .int .i64 (idxInt (s.findIdx? (· == UInt8.ofNat c.toNat)))) ?_, Ext.refl m, hi, by simp only [VR]⟩
  have e : Extern.BytealgIndexByte.indexByte #[.string ⟨s.toArray⟩, .int .u8 c] = (match (List.range (⟨s.toArray⟩ : ByteArray).size).find? fun i => (⟨s.toArray⟩ : ByteArray)[i]! == c.toNat.toUInt8 with
   | some i => pure (goInt i)
   | none => pure (goInt (-1)) : Sem Value) := rfl
  show (Extern.BytealgIndexByte.indexByte #[.string ⟨s.toArray⟩, .int .u8 c]).run E.P m.w = _
  rw [e, ba_size, indexByte_eq]
  have e2 : c.toNat.toUInt8 = UInt8.ofNat c.toNat := rfl
  rw [e2]
  cases List.findIdx? (· == UInt8.ofNat c.toNat) s <;> rfl
 ·rename_i s c hname
  cases h
  simp only [VRL] at ha
  obtain ⟨u1, r1, rfl, h1, u2, r2, rfl, h2, rfl⟩ := ha
  simp only [VR] at h1 h2
  subst h1 h2
  refine ⟨_, m, callFunc_extern hf hn hb (find_count fn hname ho) (u := .int .i64 (s.filter (· == UInt8.ofNat c.toNat)).length) ?_, Ext.refl m, hi, by simp only [VR]⟩
  have e : Extern.BytealgCount.count #[.string ⟨s.toArray⟩, .int .u8 c] = pure (goInt ((⟨s.toArray⟩ : ByteArray).foldl (fun n x => if x == c.toNat.toUInt8 then n + 1 else n) (0 : Nat))) := rfl
  show (Extern.BytealgCount.count #[.string ⟨s.toArray⟩, .int .u8 c]).run E.P m.w = _
  have e2 : c.toNat.toUInt8 = UInt8.ofNat c.toNat := rfl
  rw [e, ba_foldl, e2, count_eq]
  simp [goInt]
 ·rename_i x hname
  cases h
  simp only [VRL] at ha
  obtain ⟨u1, r1, rfl, h1, rfl⟩ := ha
  exact ⟨u1, m, callFunc_extern hf hn hb (find_noEscape fn hname ho) rfl, Ext.refl m, hi, h1⟩
 ·rename_i n hname
  split at h
  ·rename_i t hres
   simp only [Option.bind_eq_bind, Option.bind_eq_some_iff] at h
   obtain ⟨e, he, size, hsz, h⟩ := h
   split at h
   ·rename_i hc
    simp at hc
    obtain ⟨⟨h0, h1⟩, rfl⟩ := hc
    cases h
    simp only [VRL] at ha
    obtain ⟨u1, r1, rfl, h2, rfl⟩ := ha
    simp only [VR] at h2
    subst h2
    obtain ⟨cap, hcap, hrun⟩ := run_appendCap E.P m.w n.toNat 0 e
    obtain ⟨bytes, hbytes⟩ : ∃ b, (choose (.extern "internal/bytealg.MakeNoZero.bytes" 0)).run E.P m.w.drew = .ok b m.w.drew.drew := by
     refine ⟨(Question.extern "internal/bytealg.MakeNoZero.bytes" 0).cut (m.w.drew.tape m.w.drew.drawn (.extern "internal/bytealg.MakeNoZero.bytes" 0)), ?_⟩
     rw [run_choose]
     simp [Question.forced]
     rfl
    have hdig : ∀ (k t : Nat) (acc : Array Value), (Extern.BytealgMakeNoZero.digits k t acc).size = acc.size + k ∧ (Leafs acc.toList → Leafs (Extern.BytealgMakeNoZero.digits k t acc).toList) := by
     intro k
     induction k with
     | zero => intro t acc; exact ⟨rfl, fun h => h⟩
     | succ k ih =>
      intro t acc
      simp only [Extern.BytealgMakeNoZero.digits]
      refine ⟨by rw [(ih _ _).1]; simp; omega, fun hl => (ih _ _).2 ?_⟩
      intro u hu
      simp at hu
      rcases hu with hu | rfl
      ·exact hl u (by simpa using hu)
      ·rfl
    have hd := hdig cap bytes #[]
    simp at hd
    have hi1 := hi.of_heap (w' := m.w.drew.drew) rfl rfl rfl rfl
    have he1 := Ext.of_heap (m := m) (w' := m.w.drew.drew) rfl rfl rfl rfl
    have hext := he1.trans (Ext.fresh hi1 (.cells (Extern.BytealgMakeNoZero.digits cap bytes #[]) e))
    have hjunk : ∀ (m : M) (us : List Value), VRL m (List.replicate us.length .junk) us := by
     intro m us
     induction us with
     | nil => exact .nil
     | cons u us ih => exact .cons (by simp [VR]) ih
    have hinv := hi1.fresh (.cells (Extern.BytealgMakeNoZero.digits cap bytes #[]) e) (.cells (List.replicate n.toNat .junk) e) (by
     refine ⟨_, _, (Extern.BytealgMakeNoZero.digits cap bytes #[]).toList.take n.toNat, heap_alloc_same m.w.drew.drew _, ?_, fun u hu => hd.2 (by simp [Leafs]) u (List.mem_of_mem_take hu), fun j u hj => ?_, fun o ho => by simp, by omega, fun _ _ => Nat.zero_mod _⟩
     ·have := hjunk (M.fresh { phi := m.phi, I := m.I, w := m.w.drew.drew } S.length (.cells (Extern.BytealgMakeNoZero.digits cap bytes #[]) e)) ((Extern.BytealgMakeNoZero.digits cap bytes #[]).toList.take n.toNat)
      have hl : ((Extern.BytealgMakeNoZero.digits cap bytes #[]).toList.take n.toNat).length = n.toNat := by
       rw [List.length_take, Array.length_toList, hd.1, Nat.min_eq_left hcap]
      rw [hl] at this
      exact this
     ·rw [List.getElem?_take] at hj
      split at hj
      ·simpa using hj
      ·cases hj)
    refine ⟨.slice (some ⟨m.w.heap.size, 0, none⟩) n.toNat cap, _, callFunc_extern hf hn hb (find_makeNoZero fn hname ho) ?_, hext, hinv, ?_⟩
    ·have hr0 : fn.resultTypes = #[t] := Array.toList_inj.1 (by rw [hres])
     show (Extern.BytealgMakeNoZero.makeNoZero fn.params fn.resultTypes #[.int .i64 n]).run E.P m.w = _
     rw [hr0]
     show Sem.run E.P (underlying t >>= _) m.w = _
     simp only [Sem.run_bind, run_under (elemT_some he), Result.andThen_ok]
     rw [if_neg (by simp; omega)]
     simp only [Sem.run_bind, hrun, Result.andThen_ok, run_askRoom, hbytes]
     rfl
    ·exact slR_new' (by simp [M.fresh, upd]) hcap hcap (shape_of_blk (heap_alloc_same m.w.drew.drew _)) (by simp; omega)
   ·cases h
  ·cases h
 ·rename_i hname
  cases h
  obtain ⟨g1, g2⟩ := (find_race fn ho).1 hname
  exact ⟨_, m, callFunc_extern hf hn hb ⟨g1, g2⟩ (run_race0 E.P m.w .disable _ _ (run_mark _ _ _)), Ext.refl m, hi, by simp only [VR]; exact ⟨#[], rfl, .nil⟩⟩
 ·rename_i hname
  cases h
  obtain ⟨g1, g2⟩ := (find_race fn ho).2.1 hname
  exact ⟨_, m, callFunc_extern hf hn hb ⟨g1, g2⟩ (run_race0 E.P m.w .enable _ _ (run_mark _ _ _)), Ext.refl m, hi, by simp only [VR]; exact ⟨#[], rfl, .nil⟩⟩
 ·rename_i id off hname
  cases h
  obtain ⟨g1, g2⟩ := (find_race fn ho).2.2.1 hname
  obtain ⟨B, hB⟩ := ref_shape ha
  exact ⟨_, m, callFunc_extern hf hn hb ⟨g1, g2⟩ (run_marked E.P m.w .acquire hB), Ext.refl m, hi, by simp only [VR]; exact ⟨#[], rfl, .nil⟩⟩
 ·rename_i id off hname
  cases h
  obtain ⟨g1, g2⟩ := (find_race fn ho).2.2.2 hname
  obtain ⟨B, hB⟩ := ref_shape ha
  exact ⟨_, m, callFunc_extern hf hn hb ⟨g1, g2⟩ (run_marked E.P m.w .releaseMerge hB), Ext.refl m, hi, by simp only [VR]; exact ⟨#[], rfl, .nil⟩⟩
 ·rename_i id off hname
  split at h
  ·rename_i x hx
   cases h
   simp only [VRL] at ha
   obtain ⟨u1, r1, rfl, h1, rfl⟩ := ha
   obtain ⟨B, o, c, rfl, hc, hr⟩ := cell_one hi hx h1
   simp only [VR] at hr
   subst hr
   obtain ⟨g1, g2⟩ := (find_atomic fn ho).1 hname
   exact ⟨_, m, run_call_load hf hn (by simp [hb]) g1 .u32 g2 hc, Ext.refl m, hi, by simp only [VR]⟩
  ·cases h
 ·rename_i id off y hname
  split at h
  ·rename_i x hx
   obtain ⟨S1, hS, e⟩ := Option.map_eq_some_iff.1 h
   cases e
   simp only [VRL] at ha
   obtain ⟨u1, r1, rfl, h1, u2, r2, rfl, h2, rfl⟩ := ha
   simp only [VR] at h2
   subst h2
   have h1' := h1
   obtain ⟨B, o, c, rfl, hc, hr⟩ := cell_one hi hx h1
   obtain ⟨q1, q2, q3⟩ := put_one hi hS h1' rfl hc (uv := .int .u32 y) (by simp only [VR]) rfl
   obtain ⟨g1, g2⟩ := (find_atomic fn ho).2.1 hname
   exact ⟨_, _, run_call_store hf hn (by simp [hb]) g1 g2 hc q1, q2, q3, by simp only [VR]; exact ⟨#[], rfl, .nil⟩⟩
  ·cases h
 ·rename_i id off old y hname
  split at h
  ·rename_i x hx
   simp only [VRL] at ha
   obtain ⟨u1, r1, rfl, h1, u2, r2, rfl, h2, u3, r3, rfl, h3, rfl⟩ := ha
   simp only [VR] at h2 h3
   subst h2 h3
   have h1' := h1
   obtain ⟨B, o, c, rfl, hc, hr⟩ := cell_one hi hx h1
   simp only [VR] at hr
   subst hr
   obtain ⟨g1, g2⟩ := (find_atomic fn ho).2.2.1 hname
   have hfz : m.w.frozen? ⟨B, o, none⟩ = false := by
    have : ∃ S2, putAt S (.ref id off) [V.int .i32 x] = some S2 := by
     unfold cellsAt at hx
     unfold putAt
     split at h
     all_goals
      cases hcs : cellsOf S id with
      | none => simp [hcs] at hx
      | some cs =>
       obtain ⟨e', hS'⟩ := cellsOf_some hcs
       simp only [hcs, elemOf, hS', Option.bind_eq_bind, Option.bind_some] at hx ⊢
       have hlt : off < cs.length := by
        rcases Nat.lt_or_ge off cs.length with h | h
        ·exact h
        ·simp [List.drop_eq_nil_of_le h, tk] at hx
       simp only [List.length_singleton]
       first | exact ⟨_, if_pos (by omega)⟩ | (simp; omega)
    obtain ⟨S2, hS2⟩ := this
    exact (put_one hi hS2 h1' rfl hc (uv := .int .i32 x) (by simp only [VR]) rfl).1
   split at h
   ·rename_i hxo
    subst hxo
    obtain ⟨S1, hS, e⟩ := Option.map_eq_some_iff.1 h
    cases e
    obtain ⟨q1, q2, q3⟩ := put_one hi hS h1' rfl hc (uv := .int .i32 y) (by simp only [VR]) rfl
    exact ⟨_, _, run_call_cas_hit hf hn (by simp [hb]) g1 .i32 g2 hc q1, q2, q3, by simp only [VR]⟩
   ·rename_i hxo
    cases h
    exact ⟨_, m, run_call_cas_miss hf hn (by simp [hb]) g1 .i32 g2 hc hfz hxo, Ext.refl m, hi, by simp only [VR]⟩
  ·cases h
 ·rename_i id off y hname
  split at h
  ·rename_i x hx
   obtain ⟨S1, hS, e⟩ := Option.map_eq_some_iff.1 h
   cases e
   simp only [VRL] at ha
   obtain ⟨u1, r1, rfl, h1, u2, r2, rfl, h2, rfl⟩ := ha
   simp only [VR] at h2
   subst h2
   have h1' := h1
   obtain ⟨B, o, c, rfl, hc, hr⟩ := cell_one hi hx h1
   simp only [VR] at hr
   subst hr
   obtain ⟨q1, q2, q3⟩ := put_one hi hS h1' rfl hc (uv := .int .i32 (IntKind.i32.wrap (x + y))) (by simp only [VR]) rfl
   obtain ⟨g1, g2⟩ := (find_atomic fn ho).2.2.2 hname
   exact ⟨_, _, run_call_add hf hn (by simp [hb]) g1 .i32 g2 hc q1 rfl, q2, q3, by simp only [VR]⟩
  ·cases h
 ·cases h
end Go.Vm
set_option autoImplicit false
namespace Go.Vm
variable {E : Env} {S S' : Store} {m : M}
def Came (E : Env) (m : M) (S' : Store) (v : V) (e : Ending) (w' : World) : Prop := ∃ u m', e = .returned u ∧ m'.w = w' ∧ Ext m m' ∧ Inv E S' m' ∧ VR m' v u
def Fw (ro : Option Nat) : Fence := { Fence.wide with round := ro }
structure CallOk (E : Env) (call : Tg → List V → Store → Option (V × Store)) : Prop where
 fn : ∀ f args S v S', call (.fn f) args S = some (v, S') → ∀ m uargs, Inv E S m → VRL m args uargs → Calls E.P f uargs.toArray m.w (Came E m S' v)
 yl : ∀ id args S v S', call (.yl id) args S = some (v, S') → ∀ m uargs, Inv E S m → VRL m args uargs →
  ∃ R f tmps asg body b, m.phi id = some (R, b) ∧ (Instr.yield R uargs.toArray).run E.P m.w = .ok (.round R f tmps asg body) m.w ∧ RoundIn (Fw none) 0 E.P R f tmps asg body m.w (Came E m S' v)
 dn : ∀ f args S v S', call (.fn f) args S = some (v, S') → dnOk E f = true → ∀ m uargs u, Inv E S m → VRL m args uargs → CallsD E.P f uargs.toArray u m.w fun e u' w' => u' = u ∧ Came E m S' v e w'
def PrimOk (E : Env) : Prop :=
 ∀ f p, E.prim f = some p → (∃ fn, E.P.funcs[f]? = some fn ∧ (fn.name == "runtime.NumGoroutine") = false ∧ fn.body.isNone = false) ∧
  ∀ args S v S', p args S = some (v, S') → ∀ m uargs, Inv E S m → VRL m args uargs → Calls E.P f uargs.toArray m.w (Came E m S' v)
theorem opnd_sound {fr : Fr} {a : Act} (hi : Inv E S m) (hf : ∀ i, VR m (lget fr i) (a.tmps.getD i undef)) (x : Operand) : VR m (opnd E fr x) (a.eval x) := by
 cases x with
 | tmp t => exact hf t
 | const v => exact VR_vOf v
 | global g =>
  simp only [opnd]
  split
  ·rename_i cs h
   exact hi.glob g cs h
  ·simp [VR]
 | func f =>
  simp only [opnd, VR]
  exact ⟨#[], #[], rfl, by simp [VRL], by simp [VRL]⟩
section
variable {ro : Option Nat} {call : Tg → List V → Store → Option (V × Store)} {a : Act} {next : Act → World → Prop} {Q : Exit → Act → World → Prop} {o : Oper}
theorem wp_of_run {u : Value} {w w' : World} (hnd : ∀ c, o.op ≠ .defer c) (h : (execOp a.eval o).run E.P w = .ok (.value u) w') (k : next (a.put o.dst u) w') : o.wpIn (Fw ro) 0 E.P a w next Q := by
 refine ⟨fun _ _ => trivial, ?_⟩
 rw [Oper.semAt_eq _ _ _ hnd, h]
 exact k
theorem wp_of_skip {w w' : World} (hnd : ∀ c, o.op ≠ .defer c) (h : (execOp a.eval o).run E.P w = .ok .skip w') (k : next (a.put o.dst undef) w') : o.wpIn (Fw ro) 0 E.P a w next Q := by
 refine ⟨fun _ _ => trivial, ?_⟩
 rw [Oper.semAt_eq _ _ _ hnd, h]
 exact k
theorem wp_of_enter {f : FuncId} {args : Array Value} {w : World} {v : V} (hnd : ∀ c, o.op ≠ .defer c) (h : (execOp a.eval o).run E.P w = .ok (.enter f args) m.w) (hc : Calls E.P f args m.w (Came E m S' v))
  (K : ∀ u m', Ext m m' → Inv E S' m' → VR m' v u → next (a.put o.dst u) m'.w) : o.wpIn (Fw ro) 0 E.P a w next Q := by
 refine ⟨fun _ _ => trivial, ?_⟩
 rw [Oper.semAt_eq _ _ _ hnd, h]
 refine ⟨fun h => by simp [Fw, Fence.wide] at h, ?_⟩
 have hc' := (callsIn_wide (n := 0)).2 hc
 refine CallsIn.mono (F := Fence.wide) hc' fun e w' he => ?_
 obtain ⟨u, m', rfl, rfl, h1, h2, h3⟩ := he
 exact K u m' h1 h2 h3
theorem wp_of_round {l : Nat} {f : FuncId} {tmps : Array Value} {asg body : Code} {w : World} {v : V} (hnd : ∀ c, o.op ≠ .defer c) (h : (execOp a.eval o).run E.P w = .ok (.round l f tmps asg body) m.w)
  (hc : RoundIn (Fw none) 0 E.P l f tmps asg body m.w (Came E m S' v)) (K : ∀ u m', Ext m m' → Inv E S' m' → VR m' v u → next (a.put o.dst u) m'.w) : o.wpIn (Fw ro) 0 E.P a w next Q := by
 refine ⟨fun _ _ => trivial, ?_⟩
 rw [Oper.semAt_eq _ _ _ hnd, h]
 refine ⟨fun h => by simp [Fw, Fence.wide] at h, ?_⟩
 refine RoundIn.mono (F := Fw none) hc fun e w' he => ?_
 obtain ⟨u, m', rfl, rfl, h1, h2, h3⟩ := he
 exact K u m' h1 h2 h3
theorem VRL_map {ρ : Operand → V} {σ : Operand → Value} : ∀ (l : List Operand), (∀ x, x ∈ l → VR m (ρ x) (σ x)) → VRL m (l.map ρ) (l.map σ)
 | [], _ => .nil
 | x :: l, h => .cons (h x (by simp)) (VRL_map l fun y hy => h y (by simp [hy]))
theorem callFn_sound (hC : CallOk E call) (hP : PrimOk E) (hi : Inv E S m) {f : FuncId} {args : List V} {uargs : List Value} {v : V} (h : callFn E call f args S = some (v, S')) (ha : VRL m args uargs) :
  (∃ u m', (callFunc f uargs.toArray).run E.P m.w = .ok (.value u) m'.w ∧ Ext m m' ∧ Inv E S' m' ∧ VR m' v u) ∨
  ((callFunc f uargs.toArray).run E.P m.w = .ok (.enter f uargs.toArray) m.w ∧ Calls E.P f uargs.toArray m.w (Came E m S' v)) := by
 unfold callFn at h
 have henter : ∀ fn, E.P.funcs[f]? = some fn → (fn.name == "runtime.NumGoroutine") = false → fn.body.isNone = false → (callFunc f uargs.toArray).run E.P m.w = .ok (.enter f uargs.toArray) m.w := by
  intro fn h1 h2 h3
  simp only [callFunc, Sem.run_bind, run_program, Result.andThen_ok, h1, h2, h3, Bool.false_eq_true, if_false, Sem.run_pure]
 split at h
 ·rename_i p hp
  obtain ⟨⟨fn, h1, h2, h3⟩, h4⟩ := hP f p hp
  exact .inr ⟨henter fn h1 h2 h3, h4 _ _ _ _ h m uargs hi ha⟩
 ·split at h
  ·rename_i fn hf
   split at h
   ·cases h
   ·rename_i hn
    simp at hn
    have hn' : (fn.name == "runtime.NumGoroutine") = false := by simpa using hn
    split at h
    ·rename_i hb
     split at h
     ·rename_i ho
      exact .inl (externV_sound hi hf hn' (by simpa using hb) (by simpa using ho) h ha)
     ·cases h
    ·rename_i hb
     exact .inr ⟨henter fn hf hn' (by cases hbb : fn.body <;> simp_all), hC.fn _ _ _ _ _ h m uargs hi ha⟩
  ·cases h
set_option maxHeartbeats 4000000 in
theorem evOp_sound (hC : CallOk E call) (hP : PrimOk E) {ρ : Operand → V} {v : V} (h : evOp E call ρ S o = some (v, S')) (hρ : ∀ x, x ∈ o.op.operands → VR m (ρ x) (a.eval x)) (hi : Inv E S m)
  (K : ∀ u m', Ext m m' → Inv E S' m' → VR m' v u → next (a.put o.dst u) m'.w) : o.wpIn (Fw ro) 0 E.P a m.w next Q := by
 obtain ⟨dst, op, type, pos, after, guard⟩ := o
 have hnd : ∀ c, op ≠ .defer c := by rintro c rfl; simp [evOp] at h
 have val : ∀ {s : Sem Value} {u : Value} {m' : M}, (execOp a.eval ⟨dst, op, type, pos, after, guard⟩) = (do pure (.value (← s))) → s.run E.P m.w = .ok u m'.w → Ext m m' → Inv E S' m' → VR m' v u → Oper.wpIn (Fw ro) 0 E.P ⟨dst, op, type, pos, after, guard⟩ a m.w next Q := by
  intro s u m' he hr h1 h2 h3
  exact wp_of_run hnd (by rw [he, Sem.run_bind, hr]; rfl) (K u m' h1 h2 h3)
 have unit : ∀ {s : Sem Unit} {m' : M}, (execOp a.eval ⟨dst, op, type, pos, after, guard⟩) = (do s; pure .skip) → s.run E.P m.w = .ok () m'.w → Ext m m' → Inv E S' m' → VR m' v undef → Oper.wpIn (Fw ro) 0 E.P ⟨dst, op, type, pos, after, guard⟩ a m.w next Q := by
  intro s m' he hr h1 h2 h3
  exact wp_of_skip hnd (by rw [he, Sem.run_bind, hr]; rfl) (K undef m' h1 h2 h3)
 have hund : ∀ m : M, VR m (.tup []) undef := fun m => by simp only [VR]; exact ⟨#[], rfl, by simp [VRL]⟩
 cases op <;> simp only [evOp] at h
 case move x => cases h; exact wp_of_run hnd (by simp [execOp]) (K _ m (Ext.refl m) hi (hρ x (by simp [Op.operands])))
 case assign x => cases h; exact wp_of_run hnd (by simp [execOp]) (K _ m (Ext.refl m) hi (hρ x (by simp [Op.operands])))
 case pick c x y =>
  split at h
  ·rename_i b hb
   cases h
   have hc := hρ c (by simp [Op.operands])
   rw [hb] at hc
   simp only [VR] at hc
   refine wp_of_run hnd (u := if b then a.eval x else a.eval y) (by simp [execOp, hc, asBool]) (K _ m (Ext.refl m) hi ?_)
   cases b
   ·exact hρ y (by simp [Op.operands])
   ·exact hρ x (by simp [Op.operands])
  ·cases h
 case alloc e =>
  obtain ⟨u, m', h1, h2, h3, h4⟩ := opAlloc_sound hi h
  exact val rfl h1 h2 h3 h4
 case box t x =>
  obtain ⟨u, m', h1, h2, h3, h4⟩ := opBox_sound hi h (hρ x (by simp [Op.operands]))
  exact val rfl h1 h2 h3 h4
 case build t parts =>
  obtain ⟨v', hv', h⟩ := Option.map_eq_some_iff.1 h
  cases h
  have hp : VRP m (parts.toList.map fun p => (p.1, ρ p.2)) (parts.map fun p => (p.1, a.eval p.2)).toList := by
   rw [Array.toList_map]
   exact VRP_map _ fun p hp => hρ p.2 (by simp [Op.operands]; exact ⟨p.1, by simpa using hp⟩)
  obtain ⟨u, h1, h2⟩ := opBuild_sound hv' hp m.w
  exact val rfl h1 (Ext.refl m) hi h2
 case buildSlice t len parts =>
  have hp : VRP m (parts.toList.map fun p => (p.1, ρ p.2)) (parts.map fun p => (p.1, a.eval p.2)).toList := by
   rw [Array.toList_map]
   exact VRP_map _ fun p hp => hρ p.2 (by simp [Op.operands]; exact ⟨p.1, by simpa using hp⟩)
  obtain ⟨u, m', h1, h2, h3, h4⟩ := opBuildSlice_sound hi h hp
  exact val rfl h1 h2 h3 h4
 case load t x =>
  obtain ⟨v', hv', h⟩ := Option.map_eq_some_iff.1 h
  cases h
  obtain ⟨u, h1, h2⟩ := opLoad_sound hi hv' (hρ x (by simp [Op.operands]))
  exact val rfl h1 (Ext.refl m) hi h2
 case store t x y =>
  obtain ⟨S1, hs, h⟩ := Option.map_eq_some_iff.1 h
  cases h
  obtain ⟨w', h1, h2, h3⟩ := opStore_sound hi hs (hρ x (by simp [Op.operands])) (hρ y (by simp [Op.operands]))
  exact unit (m' := { m with w := w' }) rfl h1 h2 h3 (hund _)
 case nilCheck x =>
  have hx := hρ x (by simp [Op.operands])
  split at h
  ·rename_i i b hb
   cases h
   rw [hb] at hx
   have hx' := hx
   simp only [VR] at hx'
   obtain ⟨R, b', hp, he⟩ := hx'
   exact wp_of_run hnd (u := a.eval x) (by simp only [execOp, he]; rfl) (K _ m (Ext.refl m) hi hx)
  ·rename_i cs hb
   cases h
   rw [hb] at hx
   have hx' := hx
   simp only [VR] at hx'
   obtain ⟨B, o, us, he, _⟩ := hx'
   exact wp_of_run hnd (u := a.eval x) (by simp only [execOp, he]; rfl) (K _ m (Ext.refl m) hi hx)
  ·rename_i f x1 y1 hb
   cases h
   rw [hb] at hx
   have hx' := hx
   simp only [VR] at hx'
   obtain ⟨x2, y2, he, _⟩ := hx'
   exact wp_of_run hnd (u := a.eval x) (by simp only [execOp, he]; rfl) (K _ m (Ext.refl m) hi hx)
  ·rename_i i1 hb
   cases h
   rw [hb] at hx
   have hx' := hx
   simp only [VR] at hx'
   obtain ⟨R, _, he⟩ := hx'
   exact wp_of_run hnd (u := a.eval x) (by simp only [execOp, he]; rfl) (K _ m (Ext.refl m) hi hx)
  ·cases h
 case binOp op t x y yt =>
  obtain ⟨v', hv', h⟩ := Option.map_eq_some_iff.1 h
  cases h
  obtain ⟨u, h1, h2⟩ := opBin_sound (ox := x) (oy := y) hv' (by intro h; simpa using h) (hρ x (by simp [Op.operands])) (hρ y (by simp [Op.operands]))
  exact val rfl h1 (Ext.refl m) hi h2
 case unOp op t x =>
  obtain ⟨v', hv', h⟩ := Option.map_eq_some_iff.1 h
  cases h
  obtain ⟨u, h1, h2⟩ := opUn_sound hv' (hρ x (by simp [Op.operands])) E.P m.w
  exact val rfl h1 (Ext.refl m) hi h2
 case convert s d x =>
  obtain ⟨u, m', h1, h2, h3, h4⟩ := opConvert_sound hi h (hρ x (by simp [Op.operands]))
  exact val rfl h1 h2 h3 h4
 case makeInterface t x =>
  obtain ⟨v', hv', h⟩ := Option.map_eq_some_iff.1 h
  cases h
  obtain ⟨u, h1, h2⟩ := opMakeIface_sound hv' (hρ x (by simp [Op.operands])) m.w
  exact val rfl h1 (Ext.refl m) hi h2
 case makeFunc fn first captured =>
  cases h
  refine wp_of_run hnd (u := .func fn (first.map a.eval) (captured.map a.eval)) (by simp [execOp, Instr.makeFunc]) (K _ m (Ext.refl m) hi ?_)
  simp only [VR]
  refine ⟨_, _, rfl, ?_, ?_⟩
  ·rw [Array.toList_map]
   exact VRL_map _ fun x hx => hρ x (by simp [Op.operands]; exact .inl (by simpa using hx))
  ·rw [Array.toList_map]
   exact VRL_map _ fun x hx => hρ x (by simp [Op.operands]; exact .inr (by simpa using hx))
 case makeMap t r =>
  split at h
  ·cases h
   obtain ⟨u, m', h1, h2, h3, h4⟩ := opMakeMap_sound hi t
   exact val rfl h1 h2 h3 h4
  ·cases h
 case makeSlice t l c =>
  obtain ⟨u, m', h1, h2, h3, h4⟩ := opMakeSlice_sound hi h (hρ l (by simp [Op.operands])) (hρ c (by simp [Op.operands]))
  exact val rfl h1 h2 h3 h4
 case slice t x lo hi' mx =>
  obtain ⟨v', hv', h⟩ := Option.map_eq_some_iff.1 h
  cases h
  obtain ⟨u, h1, h2⟩ := opSlice_sound hv' (hρ x (by simp [Op.operands])) (VRO_map lo fun x hx => hρ x (by simp [Op.operands]; simp at hx; simp [hx])) (VRO_map hi' fun x hx => hρ x (by simp [Op.operands]; simp at hx; simp [hx]))
   (VRO_map mx fun x hx => hρ x (by simp [Op.operands]; simp at hx; simp [hx]))
  exact val rfl h1 (Ext.refl m) hi h2
 case fieldAddr s x f =>
  obtain ⟨v', hv', h⟩ := Option.map_eq_some_iff.1 h
  cases h
  obtain ⟨u, h1, h2⟩ := opFieldAddr_sound hv' (hρ x (by simp [Op.operands]))
  exact val rfl h1 (Ext.refl m) hi h2
 case field s x f =>
  obtain ⟨v', hv', h⟩ := Option.map_eq_some_iff.1 h
  cases h
  obtain ⟨u, h1, h2⟩ := opField_sound hv' (hρ x (by simp [Op.operands]))
  exact val rfl h1 (Ext.refl m) hi h2
 case indexAddr t x i =>
  obtain ⟨v', hv', h⟩ := Option.map_eq_some_iff.1 h
  cases h
  obtain ⟨u, h1, h2⟩ := opIndexAddr_sound hv' (hρ x (by simp [Op.operands])) (hρ i (by simp [Op.operands]))
  exact val rfl h1 (Ext.refl m) hi h2
 case index t x i =>
  obtain ⟨v', hv', h⟩ := Option.map_eq_some_iff.1 h
  cases h
  obtain ⟨u, h1, h2⟩ := opIndex_sound hv' (hρ x (by simp [Op.operands])) (hρ i (by simp [Op.operands]))
  exact val rfl h1 (Ext.refl m) hi h2
 case lookup t x k ok =>
  obtain ⟨v', hv', h⟩ := Option.map_eq_some_iff.1 h
  cases h
  obtain ⟨u, h1, h2⟩ := opLookup_sound hi hv' (hρ x (by simp [Op.operands])) (hρ k (by simp [Op.operands]))
  exact val rfl h1 (Ext.refl m) hi h2
 case mapUpdate t x k y =>
  obtain ⟨S1, hs, h⟩ := Option.map_eq_some_iff.1 h
  cases h
  obtain ⟨m', h1, h2, h3⟩ := opMapUpdate_sound hi hs (hρ x (by simp [Op.operands])) (hρ k (by simp [Op.operands])) (hρ y (by simp [Op.operands]))
  exact unit rfl h1 h2 h3 (hund _)
 case range t x =>
  split at h
  ·rename_i s hd hb
   cases h
   have hx := hρ x (by simp [Op.operands])
   rw [hb] at hx
   obtain ⟨u, m', h1, h2, h3, h4⟩ := opRange_sound hi hd hx
   exact val rfl h1 h2 h3 h4
  ·cases h
 case next x b =>
  cases b with
  | false => simp at h
  | true =>
   simp only at h
   split at h
   ·rename_i id hb
    have hx := hρ x (by simp [Op.operands])
    rw [hb] at hx
    split at h
    ·rename_i s p hS
     split at h
     ·rename_i hlt
      cases h
      obtain ⟨m', h1, h2, h3⟩ := opNext_more (t := type) hi hS hx hlt
      refine val rfl h1 h2 h3 ?_
      simp only [VR]
      exact ⟨_, rfl, .cons (by simp [VR]) (.cons (by simp [VR, goInt]) (.one (by simp [VR])))⟩
     ·rename_i hlt
      cases h
      have h1 := opNext_end (t := type) hi hS hx hlt
      refine val rfl h1 (Ext.refl m) hi ?_
      simp only [VR]
      exact ⟨_, rfl, .one (by simp [VR])⟩
    ·cases h
   ·cases h
 case extract x i =>
  obtain ⟨v', hv', h⟩ := Option.map_eq_some_iff.1 h
  cases h
  obtain ⟨u, h1, h2⟩ := opExtract_sound hv' (hρ x (by simp [Op.operands])) E.P m.w
  exact val rfl h1 (Ext.refl m) hi h2
 case call c =>
  obtain ⟨callee, args, argTypes⟩ := c
  have hargs : VRL m (args.toList.map ρ) (args.map a.eval).toList := by
   rw [Array.toList_map]
   exact VRL_map _ fun x hx => hρ x (by simp [Op.operands, Call.operands]; exact .inr (by simpa using hx))
  cases callee with
  | value f =>
   simp only at h
   have hf := hρ f (by simp [Op.operands, Call.operands])
   unfold callV at h
   split at h
   ·rename_i g first captured hb
    rw [hb] at hf
    simp only [VR] at hf
    obtain ⟨x, y, he, h1, h2⟩ := hf
    have hall : VRL m (first ++ args.toList.map ρ ++ captured) (x.toList ++ (args.map a.eval).toList ++ y.toList) := (h1.append hargs).append h2
    have hrun : execOp a.eval ⟨dst, .call ⟨.value f, args, argTypes⟩, type, pos, after, guard⟩ = callFunc g (x.toList ++ (args.map a.eval).toList ++ y.toList).toArray := by
     simp only [execOp, resolve, he, Deferred.ofValue, pure_bind, invoke]
     congr 1
     simp
    rcases callFn_sound hC hP hi h hall with ⟨u, m', h3, h4, h5, h6⟩ | ⟨h3, h4⟩
    ·exact wp_of_run hnd (by rw [hrun]; exact h3) (K u m' h4 h5 h6)
    ·exact wp_of_enter hnd (by rw [hrun]; exact h3) h4 K
   ·rename_i id hb
    rw [hb] at hf
    simp only [VR] at hf
    obtain ⟨R, hp, he⟩ := hf
    obtain ⟨R', f1, tmps, asg, body, b, hp', h3, h4⟩ := hC.yl _ _ _ _ _ h m _ hi hargs
    rw [hp] at hp'
    cases hp'
    have hrun : execOp a.eval ⟨dst, .call ⟨.value f, args, argTypes⟩, type, pos, after, guard⟩ = Instr.yield R (args.map a.eval).toList.toArray := by
     simp only [execOp, resolve, he, Deferred.ofValue, pure_bind, invoke]
     congr 1
     apply Array.toList_inj.1
     simp
    exact wp_of_round hnd (by rw [hrun]; exact h3) h4 K
   ·cases h
  | invoke r n => simp at h
  | builtin b =>
   simp only at h
   have one : ∀ {x : V}, args.toList.map ρ = [x] → ∃ ox, args.map a.eval = #[a.eval ox] ∧ VR m x (a.eval ox) := by
    intro x hx
    cases hl : args.toList with
    | nil => simp [hl] at hx
    | cons ox r =>
     simp [hl] at hx
     obtain ⟨rfl, rfl⟩ := hx
     have e : args = #[ox] := by
      apply Array.toList_inj.1
      simpa using hl
     subst e
     refine ⟨ox, by simp, ?_⟩
     simpa using hargs.get (i := 0) (v := ρ ox) (by simp)
   have two : ∀ {x y : V}, args.toList.map ρ = [x, y] → ∃ ox oy, args.map a.eval = #[a.eval ox, a.eval oy] ∧ VR m x (a.eval ox) ∧ VR m y (a.eval oy) := by
    intro x y hx
    cases hl : args.toList with
    | nil => simp [hl] at hx
    | cons ox r =>
     cases r with
     | nil => simp [hl] at hx
     | cons oy r =>
      simp [hl] at hx
      obtain ⟨rfl, rfl, rfl⟩ := hx
      have e : args = #[ox, oy] := by
       apply Array.toList_inj.1
       simpa using hl
      subst e
      refine ⟨ox, oy, by simp, ?_, ?_⟩
      ·simpa using hargs.get (i := 0) (v := ρ ox) (by simp)
      ·simpa using hargs.get (i := 1) (v := ρ oy) (by simp)
   have hex : ∀ b', ∃ consts, execOp a.eval ⟨dst, .call ⟨.builtin b', args, argTypes⟩, type, pos, after, guard⟩ = builtin b' argTypes type consts (args.map a.eval) := by
    intro b'
    refine ⟨args.map fun | .const _ => true | _ => false, ?_⟩
    simp only [execOp, resolve, pure_bind, invoke]
    rfl
   split at h
   ·rename_i x hx
    split at h
    ·rename_i t ht
     obtain ⟨v', hv', h⟩ := Option.map_eq_some_iff.1 h
     cases h
     obtain ⟨ox, he, hv⟩ := one hx
     obtain ⟨u, h1, h2⟩ := opLen_sound (ty := type) hi ht hv' hv
     exact val (by obtain ⟨cs, e⟩ := hex _; rw [e, he]; rfl) h1 (Ext.refl m) hi h2
    ·cases h
   ·rename_i x y hx
    obtain ⟨ox, oy, he, hvx, hvy⟩ := two hx
    obtain ⟨u, m', h1, h2, h3, h4⟩ := opAppend_sound (ty := type) hi h hvx hvy
    exact val (by obtain ⟨cs, e⟩ := hex _; rw [e, he]; rfl) h1 h2 h3 h4
   ·rename_i x y hx
    obtain ⟨ox, oy, he, hvx, hvy⟩ := two hx
    obtain ⟨u, m', h1, h2, h3, h4⟩ := opCopy_sound (ty := type) hi h hvx hvy
    exact val (by obtain ⟨cs, e⟩ := hex _; rw [e, he]; rfl) h1 h2 h3 h4
   ·rename_i x hx
    obtain ⟨ox, he, hv⟩ := one hx
    obtain ⟨S1, hs, h⟩ := Option.map_eq_some_iff.1 h
    cases h
    obtain ⟨m', h1, h2, h3⟩ := opClear_sound (ty := type) hi hs hv
    exact val (by obtain ⟨cs, e⟩ := hex _; rw [e, he]; rfl) h1 h2 h3 (hund _)
   ·rename_i x hx
    split at h
    ·rename_i t ht
     obtain ⟨v', hv', h⟩ := Option.map_eq_some_iff.1 h
     cases h
     obtain ⟨ox, he, hv⟩ := one hx
     obtain ⟨u, h1, h2⟩ := opCap_sound (m := m) (ty := type) ht hv' hv
     exact val (by obtain ⟨cs, e⟩ := hex _; rw [e, he]; rfl) h1 (Ext.refl m) hi h2
    ·cases h
   ·rename_i x hx
    obtain ⟨v', hv', h⟩ := Option.map_eq_some_iff.1 h
    cases h
    obtain ⟨ox, he, hv⟩ := one hx
    obtain ⟨u, h1, h2⟩ := opSliceData_sound type argTypes hv' hv E.P
    exact val (by obtain ⟨cs, e⟩ := hex _; rw [e, he]; rfl) h1 (Ext.refl m) hi h2
   ·rename_i x y hx
    obtain ⟨ox, oy, he, hvx, hvy⟩ := two hx
    obtain ⟨u, m', h1, h2, h3, h4⟩ := opUnsafeString_sound (ty := type) hi h hvx hvy
    exact val (by obtain ⟨cs, e⟩ := hex _; rw [e, he]; rfl) h1 h2 h3 h4
   ·rename_i x r hx
    obtain ⟨v', hv', h⟩ := Option.map_eq_some_iff.1 h
    cases h
    rw [hx] at hargs
    simp only [VRL] at hargs
    obtain ⟨ux, ur, he, h1, h2⟩ := hargs
    obtain ⟨u, h3, h4⟩ := minMax_sound (E := E) false type argTypes r hv' h1 h2
    refine val (s := Builtin.min_ argTypes type (args.map a.eval)) (by obtain ⟨cs, e⟩ := hex _; rw [e]; rfl) ?_ (Ext.refl m) hi h4
    unfold Builtin.min_
    rw [he]
    exact h3
   ·rename_i x r hx
    obtain ⟨v', hv', h⟩ := Option.map_eq_some_iff.1 h
    cases h
    rw [hx] at hargs
    simp only [VRL] at hargs
    obtain ⟨ux, ur, he, h1, h2⟩ := hargs
    obtain ⟨u, h3, h4⟩ := minMax_sound (E := E) true type argTypes r hv' h1 h2
    refine val (s := Builtin.max_ argTypes type (args.map a.eval)) (by obtain ⟨cs, e⟩ := hex _; rw [e]; rfl) ?_ (Ext.refl m) hi h4
    unfold Builtin.max_
    rw [he]
    exact h3
   ·cases h
 all_goals (cases h)
end
end Go.Vm
