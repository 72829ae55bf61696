import Derived.Test.YtmmjlgocihhkcaaGreatDoorPartJ
set_option linter.all false
namespace Go.Proofs.YtmmjlgocihhkcaaGreatDoor.ImS
open Go Go.Vm Go.Proofs.YtmmjlgocihhkcaaGreatDoor
set_option maxRecDepth 100000
set_option maxHeartbeats 8000000
structure Im where
 k : List UInt8
 x : V
 y : V
 d : Img
 hx : pDn x d.1
 hy : pAttrs y d.2
 fit : fitN d.1
 hk : k = keyS d.1
def avaC (a : Im) : List V := [a.x, a.y]
def avaV (a : Im) : V := .agg [a.x, a.y]
theorem Im.sx (a : Im) : solid a.x = true ∧ vcells a.x = [a.x] := ⟨flatV.solid (PArr.flat a.hx), flatV.vcells (PArr.flat a.hx)⟩
def im0 : Im := ⟨keyS [], .slN, .slN, ([], []), PArr.nil, PArr.nil, ⟨⟨by simp, by simp⟩, by simp [szN]⟩, rfl⟩
abbrev fl (l : List Im) : List V := l.flatMap avaC
theorem flat_len (r : List Im) : (r.flatMap avaC).length = r.length * 2 := by
 induction r with
 | nil => rfl
 | cons a r ih => simp [avaC, ih]; omega
theorem flat_drop : ∀ (r : List Im) (i : Nat), i < r.length → (r.flatMap avaC).drop (i * 2) = (r.getD i im0).x :: (r.getD i im0).y :: (r.flatMap avaC).drop (i * 2 + 2)
 | [], i, h => by simp at h
 | a :: r, 0, h => by simp [avaC]
 | a :: r, i + 1, h => by
  have := flat_drop r i (by simpa using h)
  have e : (i + 1) * 2 = i * 2 + 2 := by omega
  simp only [List.flatMap_cons, avaC, e, List.getD_cons_succ]
  rw [show ([a.x, a.y] ++ r.flatMap avaC).drop (i * 2 + 2) = (r.flatMap avaC).drop (i * 2) from by simp, show ([a.x, a.y] ++ r.flatMap avaC).drop (i * 2 + 2 + 2) = (r.flatMap avaC).drop (i * 2 + 2) from by simp]
  exact this
def ltA (a b : Im) : Bool := lessB a.1 b.1
def Sorted (l : List Im) : Prop := l.Pairwise fun a b => ltA b a = false
def insA (a : Im) : List Im → List Im
 | [] => [a]
 | b :: l => if ltA a b = true then a :: b :: l else b :: insA a l
def srt (l : List Im) : List Im := l.foldl (fun acc a => insA a acc) []
theorem insA_mem (a x : Im) : ∀ l, x ∈ insA a l ↔ x = a ∨ x ∈ l
 | [] => by simp [insA]
 | b :: l => by
  unfold insA
  split
  ·simp
  ·simp [insA_mem a x l]
   constructor
   ·rintro (h | h | h) <;> simp [h]
   ·rintro (h | h | h) <;> simp [h]
theorem insA_len (a : Im) : ∀ l, (insA a l).length = l.length + 1
 | [] => rfl
 | b :: l => by
  unfold insA
  split
  ·rfl
  ·simp [insA_len a l]
theorem insA_sorted (a : Im) : ∀ l, Sorted l → Sorted (insA a l)
 | [], _ => by simp [insA, Sorted]
 | b :: l, h => by
  have hb := List.pairwise_cons.1 h
  unfold insA
  split
  ·rename_i hlt
   refine List.pairwise_cons.2 ⟨fun x hx => ?_, h⟩
   rcases List.mem_cons.1 hx with rfl | hx
   ·exact less_asymm hlt
   ·exact le_trans' (less_asymm hlt) (hb.1 x hx)
  ·rename_i hlt
   refine List.pairwise_cons.2 ⟨fun x hx => ?_, insA_sorted a l hb.2⟩
   rcases (insA_mem a x l).1 hx with rfl | hx
   ·simpa using hlt
   ·exact hb.1 x hx
theorem srt_snoc (l : List Im) (a : Im) : srt (l ++ [a]) = insA a (srt l) := by
 simp [srt]
def StEq (l r : List Im) : Prop := ∀ k, l.filter (fun x => x.1 == k) = r.filter (fun x => x.1 == k)
theorem StEq.refl (l : List Im) : StEq l l := fun _ => rfl
theorem StEq.symm {l r : List Im} (h : StEq l r) : StEq r l := fun k => (h k).symm
theorem StEq.trans {l r t : List Im} (h : StEq l r) (g : StEq r t) : StEq l t := fun k => (h k).trans (g k)
theorem StEq.append {l r l' r' : List Im} (h : StEq l l') (g : StEq r r') : StEq (l ++ r) (l' ++ r') := fun k => by
 rw [List.filter_append, List.filter_append, h k, g k]
theorem StEq.mem {l r : List Im} (h : StEq l r) {x : Im} (hx : x ∈ l) : x ∈ r := by
 have : x ∈ l.filter (fun y => y.1 == x.1) := List.mem_filter.2 ⟨hx, by simp⟩
 rw [h x.1] at this
 exact (List.mem_filter.1 this).1
theorem insA_steq (a : Im) : ∀ l, Sorted l → StEq (insA a l) (l ++ [a])
 | [], _ => StEq.refl _
 | b :: l, h => by
  have hb := List.pairwise_cons.1 h
  intro k
  unfold insA
  split
  ·rename_i hlt
   have hall : ∀ x ∈ b :: l, ltA a x = true := by
    intro x hx
    rcases List.mem_cons.1 hx with rfl | hx
    ·exact hlt
    ·cases hax : lessB a.1 x.1 with
     | true => exact hax
     | false =>
      have h1 : lessB x.1 b.1 = false := hb.1 x hx
      have h2 : lessB x.1 a.1 = true ∨ x.1 = a.1 := by
       cases hxa : lessB x.1 a.1 with
       | true => exact .inl rfl
       | false => exact .inr (less_total hxa hax)
      rcases h2 with h2 | h2
      ·rw [less_trans h2 hlt] at h1; cases h1
      ·rw [h2, show lessB a.1 b.1 = true from hlt] at h1; cases h1
   by_cases hk : a.1 = k
   ·have hn : (b :: l).filter (fun x => x.1 == k) = [] := by
     rw [List.filter_eq_nil_iff]
     intro x hx
     have h1 := hall x hx
     intro he
     have he : x.1 = k := by simpa using he
     unfold ltA at h1
     rw [hk, he, less_irrefl] at h1
     cases h1
    rw [List.filter_append, hn, List.filter_cons]
    rw [if_pos (by simpa using hk), hn]
    simp [hk]
   ·rw [List.filter_append, List.filter_cons]
    have : (a.1 == k) = false := by simpa using hk
    simp [this]
  ·have := insA_steq a l hb.2 k
   rw [List.cons_append, List.filter_cons, List.filter_cons, this]
theorem fold_sorted : ∀ (l acc : List Im), Sorted acc → Sorted (l.foldl (fun acc a => insA a acc) acc)
 | [], acc, h => h
 | a :: l, acc, h => fold_sorted l _ (insA_sorted a acc h)
theorem fold_steq : ∀ (l acc : List Im), Sorted acc → StEq (l.foldl (fun acc a => insA a acc) acc) (acc ++ l)
 | [], acc, h => by rw [List.append_nil]; exact StEq.refl _
 | a :: l, acc, h => by
  have := fold_steq l _ (insA_sorted a acc h)
  refine StEq.trans this ?_
  rw [show acc ++ a :: l = (acc ++ [a]) ++ l by simp]
  exact StEq.append (insA_steq a acc h) (StEq.refl _)
theorem srt_sorted (l : List Im) : Sorted (srt l) := fold_sorted l [] List.Pairwise.nil
theorem srt_steq (l : List Im) : StEq (srt l) l := fold_steq l [] List.Pairwise.nil
theorem srt_len (l : List Im) : (srt l).length = l.length := by
 have : ∀ (l acc : List Im), (l.foldl (fun acc a => insA a acc) acc).length = acc.length + l.length := by
  intro l
  induction l with
  | nil => intro acc; simp
  | cons a l ih => intro acc; rw [List.foldl_cons, ih, insA_len]; simp; omega
 have h := this l []
 simpa [srt] using h
theorem srt_mem {l : List Im} {x : Im} : x ∈ srt l ↔ x ∈ l := ⟨(srt_steq l).mem, (srt_steq l).symm.mem⟩
theorem sorted_unique : ∀ {l r : List Im}, Sorted l → Sorted r → StEq l r → l = r
 | [], [], _, _, _ => rfl
 | [], b :: r, _, _, h => absurd (h.symm.mem (x := b) (by simp)) (by simp)
 | a :: l, [], _, _, h => absurd (h.mem (x := a) (by simp)) (by simp)
 | a :: l, b :: r, hl, hr, h => by
  have h1 := List.pairwise_cons.1 hl
  have h2 := List.pairwise_cons.1 hr
  have e1 : lessB b.1 a.1 = false := by
   rcases List.mem_cons.1 (h.symm.mem (x := b) (by simp)) with rfl | hx
   ·exact less_irrefl _
   ·exact h1.1 b hx
  have e2 : lessB a.1 b.1 = false := by
   rcases List.mem_cons.1 (h.mem (x := a) (by simp)) with rfl | hx
   ·exact less_irrefl _
   ·exact h2.1 a hx
  have ek := less_total e1 e2
  have hk := h a.1
  rw [List.filter_cons, List.filter_cons, if_pos (by simp), if_pos (by simpa using ek)] at hk
  injection hk with hab hk'
  subst hab
  have : StEq l r := fun k => by
   have := h k
   rw [List.filter_cons, List.filter_cons] at this
   split at this
   ·injection this
   ·exact this
  rw [sorted_unique h1.2 h2.2 this]
theorem srt_of_sorted {l : List Im} (h : Sorted l) : srt l = l := sorted_unique (srt_sorted l) h (srt_steq l)
theorem ins_split (a : Im) : ∀ (p1 p2 : List Im), Sorted (p1 ++ p2) → (∀ x ∈ p2, ltA a x = true) → (∀ y, p1.getLast? = some y → ltA a y = false) → insA a (p1 ++ p2) = p1 ++ a :: p2
 | [], [], _, _, _ => rfl
 | [], b :: p2, _, h, _ => by
  show insA a (b :: p2) = _
  unfold insA
  rw [if_pos (h b (by simp))]
  rfl
 | b :: p1, p2, hs, h, hl => by
  have hb := List.pairwise_cons.1 hs
  have hab : ltA a b = false := by
   cases hq : p1.getLast? with
   | none =>
    have : p1 = [] := List.getLast?_eq_none_iff.1 hq
    subst this
    exact hl b rfl
   | some y =>
    have h1 := hl y (by rw [List.getLast?_cons, hq]; rfl)
    have h2 := hb.1 y (List.mem_append_left _ (List.mem_of_getLast? hq))
    exact le_trans' h2 h1 |> fun x => by
     unfold ltA at *
     cases hab : lessB a.1 b.1 with
     | false => rfl
     | true =>
      cases hyb : lessB b.1 y.1 with
      | true => rw [less_trans hab hyb] at h1; cases h1
      | false =>
       have := less_total hyb h2
       rw [this] at hab
       rw [hab] at h1; cases h1
  show insA a (b :: (p1 ++ p2)) = _
  unfold insA
  rw [if_neg (by rw [hab]; simp), ins_split a p1 p2 hb.2 h (fun y hy => hl y (by rw [List.getLast?_cons, hy]; rfl))]
  rfl
theorem lt_le_trans {x y z : Im} (h : ltA x y = true) (g : ltA z y = false) : ltA x z = true := by
 unfold ltA at *
 cases hxz : lessB x.1 z.1 with
 | true => rfl
 | false =>
  have := le_trans' (x := y.1) (y := z.1) (z := x.1) g hxz
  rw [h] at this; cases this
theorem le_lt_trans {x y z : Im} (h : ltA y x = false) (g : ltA y z = true) : ltA x z = true := by
 unfold ltA at *
 cases hxz : lessB x.1 z.1 with
 | true => rfl
 | false =>
  have := le_trans' (x := z.1) (y := x.1) (z := y.1) hxz h
  rw [g] at this; cases this
theorem le_le_trans {x y z : Im} (h : ltA y x = false) (g : ltA z y = false) : ltA z x = false := le_trans' h g
theorem lt_irrefl' (x : Im) : ltA x x = false := less_irrefl _
theorem lt_le {x y : Im} (h : ltA x y = true) : ltA y x = false := less_asymm h
theorem steq_comm {X Y : List Im} (h : ∀ x ∈ X, ∀ y ∈ Y, x.1 ≠ y.1) : StEq (X ++ Y) (Y ++ X) := by
 intro k
 rw [List.filter_append, List.filter_append]
 by_cases hx : X.filter (fun x => x.1 == k) = []
 ·rw [hx]; simp
 ·have hy : Y.filter (fun x => x.1 == k) = [] := by
   rw [List.filter_eq_nil_iff]
   intro y hy hk
   apply hx
   rw [List.filter_eq_nil_iff]
   intro x hx' hk'
   have h1 : x.1 = k := by simpa using hk'
   have h2 : y.1 = k := by simpa using hk
   exact h x hx' y hy (h1.trans h2.symm)
  rw [hy]; simp
theorem ne_of_lt {x y : Im} (h : ltA x y = true) : x.1 ≠ y.1 := fun e => by
 unfold ltA at h
 rw [e, less_irrefl] at h; cases h
theorem sorted_app {X Y : List Im} (hx : Sorted X) (hy : Sorted Y) (h : ∀ x ∈ X, ∀ y ∈ Y, ltA y x = false) : Sorted (X ++ Y) := List.pairwise_append.2 ⟨hx, hy, h⟩
theorem sorted_parts {X Y : List Im} (h : Sorted (X ++ Y)) : Sorted X ∧ Sorted Y ∧ ∀ x ∈ X, ∀ y ∈ Y, ltA y x = false := List.pairwise_append.1 h
theorem sorted_get {Z : List Im} (h : Sorted Z) {i j : Nat} (hij : i ≤ j) (hj : j < Z.length) : ltA (Z.getD j im0) (Z.getD i im0) = false := by
 rcases Nat.lt_or_ge i j with hlt | hge
 ·have := List.pairwise_iff_getElem.1 h i j (by omega) hj hlt
  simpa [List.getD, hj, show i < Z.length by omega] using this
 ·obtain rfl : i = j := by omega
  exact lt_irrefl' _
theorem merge_first {x : Im} {V1 V2 : List Im} (hs : Sorted (V1 ++ V2)) (h1 : ∀ v ∈ V1, ltA v x = true) (h2 : ∀ v ∈ V2, ltA v x = false) : V1 ++ x :: V2 = srt ([x] ++ (V1 ++ V2)) := by
 obtain ⟨s1, s2, s3⟩ := sorted_parts hs
 refine sorted_unique ?_ (srt_sorted _) ?_
 ·refine sorted_app s1 (List.pairwise_cons.2 ⟨h2, s2⟩) fun v hv w hw => ?_
  rcases List.mem_cons.1 hw with rfl | hw
  ·exact lt_le (h1 v hv)
  ·exact s3 v hv w hw
 ·refine StEq.trans ?_ (srt_steq _).symm
  have : StEq (V1 ++ [x]) ([x] ++ V1) := steq_comm fun v hv w hw => by
   rw [List.mem_singleton] at hw
   subst hw
   exact ne_of_lt (h1 v hv)
  have := this.append (StEq.refl V2)
  simpa using this
theorem merge_last {y : Im} {U1 U2 : List Im} (hs : Sorted (U1 ++ U2)) (h1 : ∀ u ∈ U1, ltA y u = false) (h2 : ∀ u ∈ U2, ltA y u = true) : U1 ++ y :: U2 = srt ((U1 ++ U2) ++ [y]) := by
 obtain ⟨s1, s2, s3⟩ := sorted_parts hs
 refine sorted_unique ?_ (srt_sorted _) ?_
 ·refine sorted_app s1 (List.pairwise_cons.2 ⟨fun u hu => lt_le (h2 u hu), s2⟩) fun v hv w hw => ?_
  rcases List.mem_cons.1 hw with rfl | hw
  ·exact h1 v hv
  ·exact s3 v hv w hw
 ·refine StEq.trans ?_ (srt_steq _).symm
  have : StEq ([y] ++ U2) (U2 ++ [y]) := steq_comm fun v hv w hw => by
   rw [List.mem_singleton] at hv
   subst hv
   exact ne_of_lt (h2 w hw)
  have := (StEq.refl U1).append this
  simpa using this
theorem merge_mid {U1 U2 V1 V2 : List Im} (hU : Sorted (U1 ++ U2)) (hV : Sorted (V1 ++ V2)) (h1 : ∀ u ∈ U2, ∀ v ∈ V1, ltA v u = true) (h2 : ∀ u ∈ U1, ∀ v ∈ V2, ltA v u = false) :
  srt (U1 ++ V1) ++ srt (U2 ++ V2) = srt ((U1 ++ U2) ++ (V1 ++ V2)) := by
 obtain ⟨a1, a2, a3⟩ := sorted_parts hU
 obtain ⟨b1, b2, b3⟩ := sorted_parts hV
 refine sorted_unique ?_ (srt_sorted _) ?_
 ·refine sorted_app (srt_sorted _) (srt_sorted _) fun x hx y hy => ?_
  rw [srt_mem, List.mem_append] at hx hy
  rcases hx with hx | hx <;> rcases hy with hy | hy
  ·exact a3 x hx y hy
  ·exact h2 x hx y hy
  ·exact lt_le (h1 y hy x hx)
  ·exact b3 x hx y hy
 ·refine StEq.trans ((srt_steq _).append (srt_steq _)) (StEq.trans ?_ (srt_steq _).symm)
  have h : StEq (V1 ++ U2) (U2 ++ V1) := steq_comm fun v hv u hu => ne_of_lt (h1 u hu v hv)
  have := ((StEq.refl U1).append h).append (StEq.refl V2)
  simpa using this
theorem srt_srt (X Y : List Im) : srt (srt X ++ srt Y) = srt (X ++ Y) :=
 sorted_unique (srt_sorted _) (srt_sorted _) ((srt_steq _).trans (((srt_steq X).append (srt_steq Y)).trans (srt_steq _).symm))
theorem fl_set : ∀ (l : List Im) (i : Nat) (a : Im), i < l.length → splice (fl l) (i * 2) [a.x, a.y] = fl (l.set i a)
 | [], i, a, h => by simp at h
 | b :: l, 0, a, h => by simp [fl, avaC, splice]
 | b :: l, i + 1, a, h => by
  have ih := fl_set l i a (by simpa using h)
  have e : (i + 1) * 2 = i * 2 + 2 := by omega
  rw [e]
  simp only [fl, avaC, List.flatMap_cons, List.set_cons_succ, List.cons_append, List.nil_append, splice, List.set_cons_succ] at ih ⊢
  rw [ih]
theorem cell_ld {T : Store} {id : Nat} {l : List Im} (hT : T[id]? = some (.cells (fl l) 52)) (i : Nat) (hi : i < l.length) : opLoad E0 T 52 (.ref id (0 + i * 2)) = some (avaV (l.getD i im0)) := by
 have h := flat_drop l i hi
 have at_ : At T (.ref id (0 + i * 2)) ((l.getD i im0).x :: (l.getD i im0).y :: (l.flatMap avaC).drop (i * 2 + 2)) := .inr ⟨id, 0 + i * 2, _, 52, rfl, hT, by rw [Nat.zero_add]; exact h⟩
 exact at_.loadA isAggO_52 tsize_52 (by simp)
theorem cell_st {T : Store} {id : Nat} {l : List Im} (hT : T[id]? = some (.cells (fl l) 52)) (i : Nat) (hi : i < l.length) (a : Im) : opStore E0 T 52 (.ref id (0 + i * 2)) (avaV a) = some (T.set id (.cells (fl (l.set i a)) 52)) := by
 have hl : (fl l).length = l.length * 2 := flat_len l
 have h := fl_set l i a hi
 generalize fl (l.set i a) = ds at h
 generalize fl l = cs at hT hl h
 unfold opStore avaV
 simp [tsize_52, vcells, solid, putAt, cellsOf, Vm.elemOf, hT, hl]
 rw [h]
 exact ⟨by omega, rfl⟩
theorem cell_ia (id n i : Nat) (h : i < n) : opIndexAddr E0 31 (.slR id 0 n n 2) (.int .i64 (i : Nat)) = some (.ref id (0 + i * 2)) := ia_slR_31 _ _ _ _ _ _ h
def CmpOk (fv : V) : Prop := ∀ (T : Store) (a b : Im), callV E0 (vrun E0) fv [avaV a, avaV b] T = some (.int .i64 (cmpZ a.1 b.1), T)
def isort (l : List Im) (a b : Nat) : List Im := l.take a ++ srt ((l.take b).drop a) ++ l.drop b
theorem isort_one (l : List Im) (a : Nat) (ha : a < l.length) : isort l a (a + 1) = l := by
 have e : (l.take (a + 1)).drop a = [l.getD a im0] := by
  rw [List.drop_take, show a + 1 - a = 1 by omega, drop_getD im0 l a ha]
  rfl
 unfold isort
 rw [e]
 show l.take a ++ [l.getD a im0] ++ l.drop (a + 1) = l
 rw [List.append_assoc, List.singleton_append, ← drop_getD im0 l a ha, List.take_append_drop]
theorem isort_nil (l : List Im) (a : Nat) : isort l a a = l := by
 have e : (l.take a).drop a = [] := List.drop_eq_nil_iff.2 (by simp; omega)
 unfold isort
 rw [e]
 show l.take a ++ [] ++ l.drop a = l
 simp
theorem isort_step (l : List Im) (a i : Nat) (h : a ≤ i) (hi : i < l.length) : isort l a (i + 1) = l.take a ++ insA (l.getD i im0) (srt ((l.take i).drop a)) ++ l.drop (i + 1) := by
 have e : (l.take (i + 1)).drop a = (l.take i).drop a ++ [l.getD i im0] := by
  rw [List.drop_take, List.drop_take, show i + 1 - a = (i - a) + 1 by omega, List.take_succ_eq_append_getElem (by simp; omega)]
  congr 2
  simp [List.getD, hi, show a + (i - a) = i by omega]
 unfold isort
 rw [e, srt_snoc]
theorem insSort_ok {T : Store} {id : Nat} {l : List Im} (hT : T[id]? = some (.cells (fl l) 52)) (hl : l.length ≤ 1048576) {fv : V} (hcmp : CmpOk fv) (a b : Nat) (hab : a ≤ b) (hb : b ≤ l.length) :
  vrun E0 (.fn 136) [.slR id 0 l.length l.length 2, .int .i64 (a : Nat), .int .i64 (b : Nat), fv] T = some (.tup [], T.set id (.cells (fl (isort l a b)) 52)) := by
 refine fn_ws Tryz.func136 rfl ?_
 have hid : id < T.length := lt_of_get hT
 have ainc := wrap_inc a (by omega)
 repeat (first | refine WS.adm rfl ?_ | refine WS.region (by simp only [EV, TY, lget, ainc, ↓reduceIte, Nat.reduceEqDiff]; with_reducible rfl) ?_)
 by_cases hlt0 : a < b
 ·refine WS.loopB (fun j fr U => ∃ i, j = b - i ∧ a < i ∧ i ≤ b ∧ lget fr 0 = .slR id 0 l.length l.length 2 ∧ lget fr 1 = .int .i64 (a : Nat) ∧ lget fr 2 = .int .i64 (b : Nat) ∧ lget fr 3 = fv ∧ lget fr 8 = .int .i64 (i : Nat) ∧ U = T.set id (.cells (fl (isort l a i)) 52))
   (fun fr U => U = T.set id (.cells (fl (isort l a b)) 52)) (j := b - (a + 1)) ?_ ?_ ?_
  ·refine ⟨a + 1, rfl, by omega, by omega, ?_, ?_, ?_, ?_, ?_, ?_⟩
   iterate 5 simp only [EV, lget, ↓reduceIte, Nat.reduceEqDiff, AT]
   ·rw [isort_one l a (by omega)]
    exact (List.ext_getElem? fun k => by
     by_cases hk : id = k
     ·subst hk; rw [List.getElem?_set_self hid, hT]
     ·rw [List.getElem?_set_ne hk])
  ·rintro fr U rfl
   exact ends0 rfl rfl
  ·rintro j fr U ⟨i, rfl, hai, hib, h0, h1, h2, h3, h8, rfl⟩ ih last
   by_cases hlt : i < b
   ·have hlt' : ((i : Nat) : Int) < ((b : Nat) : Int) := by omega
    have iinc := wrap_inc i (by omega)
    have hstep := isort_step l a i (by omega) (by omega)
    have hcur : isort l a i = (l.take a ++ srt ((l.take i).drop a)) ++ l.getD i im0 :: l.drop (i + 1) := by
     unfold isort
     rw [← drop_getD im0 l i (by omega)]
    have hpl : (srt ((l.take i).drop a)).length = i - a := by rw [srt_len]; simp; omega
    have hps := srt_sorted ((l.take i).drop a)
    generalize srt ((l.take i).drop a) = p at hstep hcur hpl hps
    generalize l.getD i im0 = x at hstep hcur
    generalize hpre : l.take a = pre at hstep hcur
    generalize hpost : l.drop (i + 1) = post at hstep hcur
    have hprel : pre.length = a := by rw [← hpre]; simp; omega
    have hpostl : post.length = l.length - (i + 1) := by rw [← hpost]; simp
    repeat (first | refine WS.adm rfl ?_ | refine WS.region (by simp only [EV, TY, h2, h8, hlt', ↓reduceIte, Nat.reduceEqDiff]; with_reducible rfl) ?_)
    refine WS.ct0 ?_
    repeat (first | refine WS.adm rfl ?_ | refine WS.region (by simp only [EV, TY, h8, ↓reduceIte, Nat.reduceEqDiff]; with_reducible rfl) ?_)
    refine WS.loopB (fun j fr U => ∃ p1 p2, j = p1.length ∧ p1 ++ p2 = p ∧ (∀ y ∈ p2, ltA x y = true) ∧ lget fr 0 = .slR id 0 l.length l.length 2 ∧ lget fr 1 = .int .i64 (a : Nat) ∧ lget fr 2 = .int .i64 (b : Nat) ∧ lget fr 3 = fv ∧ lget fr 8 = .int .i64 (i : Nat) ∧ lget fr 9 = .int .i64 ((a + p1.length : Nat) : Int) ∧ U = T.set id (.cells (fl ((pre ++ p1) ++ x :: (p2 ++ post))) 52))
     (fun fr U => lget fr 0 = .slR id 0 l.length l.length 2 ∧ lget fr 1 = .int .i64 (a : Nat) ∧ lget fr 2 = .int .i64 (b : Nat) ∧ lget fr 3 = fv ∧ lget fr 8 = .int .i64 (i : Nat) ∧ U = T.set id (.cells (fl (pre ++ insA x p ++ post)) 52)) (j := p.length) ?_ ?_ ?_
    ·refine ⟨p, [], rfl, by simp, by simp, ?_, ?_, ?_, ?_, ?_, ?_, ?_⟩
     iterate 5 simp only [EV, h0, h1, h2, h3, h8, ↓reduceIte, Nat.reduceEqDiff, AT]
     ·simp only [EV, h8, ↓reduceIte, Nat.reduceEqDiff, AT]
      rw [hpl, show a + (i - a) = i by omega]
     ·rw [hcur]; simp
    ·rintro fr U ⟨h0, h1, h2, h3, h8, rfl⟩
     repeat (first | refine WS.adm rfl ?_ | refine WS.region (by simp only [EV, TY, h8, iinc, ↓reduceIte, Nat.reduceEqDiff]; with_reducible rfl) ?_)
     refine ih (b - (i + 1)) _ _ (by omega) ⟨i + 1, rfl, by omega, by omega, ?_, ?_, ?_, ?_, ?_, by rw [hstep]⟩
     iterate 5 simp only [EV, h0, h1, h2, h3, ↓reduceIte, Nat.reduceEqDiff, AT]
    ·rintro j fr U ⟨p1, p2, rfl, hpp, hgt, h0, h1, h2, h3, h8, h9, rfl⟩ ihp lastp
     have hppl : p1.length + p2.length = i - a := by rw [← hpl, ← hpp]; simp
     cases hq : p1.getLast? with
     | none =>
      obtain rfl : p1 = [] := List.getLast?_eq_none_iff.1 hq
      have hng : ¬ ((a : Nat) : Int) < ((a + ([] : List Im).length : Nat) : Int) := by simp
      repeat refine WS.adm rfl ?_
      refine WS.drawb (b := [0, 0, 3, 7, 15, 15, 15, 111, 239, 15, 15, 1039, 3599, 7695, 16383, 32767, 65535]) (by kernel_rfl) (by simp only [DL, evDraw_guard, isEff, isRead, Nat.reduceAdd, EV, TY,  h1, h9, hng, ↓reduceIte, Nat.reduceEqDiff]; with_reducible rfl) ?_
      refine WS.cond_false (by simp only [EV, hng, ↓reduceIte, Nat.reduceEqDiff]) ?_
      refine WS.exit rfl ?_
      refine lastp _ _ ⟨?_, ?_, ?_, ?_, ?_, ?_⟩
      iterate 5 simp only [EV, h0, h1, h2, h3, h8, ↓reduceIte, Nat.reduceEqDiff, AT]
      ·have := ins_split x [] p2 (by rw [hpp]; exact hps) hgt (by simp)
       rw [hpp] at this
       rw [this]; simp
     | some y =>
      obtain ⟨q, rfl⟩ : ∃ q, p1 = q ++ [y] := by
       obtain ⟨hne, hy⟩ := List.getLast?_eq_some_iff.1 hq
       exact ⟨hne, hy⟩
      have hJ : a + (q ++ [y]).length = (pre ++ q).length + 1 := by simp [hprel]; omega
      have hCe : pre ++ (q ++ [y]) ++ x :: (p2 ++ post) = (pre ++ q) ++ y :: x :: (p2 ++ post) := by simp
      have hn : ((pre ++ q) ++ y :: x :: (p2 ++ post)).length = l.length := by
       simp at hppl ⊢
       omega
      have gy : ((pre ++ q) ++ y :: x :: (p2 ++ post)).getD ((pre ++ q).length + 1 - 1) im0 = y := by
       rw [Nat.add_sub_cancel]; exact getD_mid _ _ _ _
      have gx : ((pre ++ q) ++ y :: x :: (p2 ++ post)).getD ((pre ++ q).length + 1) im0 = x := by
       rw [show (pre ++ q) ++ y :: x :: (p2 ++ post) = ((pre ++ q) ++ [y]) ++ x :: (p2 ++ post) by simp, show (pre ++ q).length + 1 = ((pre ++ q) ++ [y]).length by simp; omega]
       exact getD_mid _ _ _ _
      have gs : (((pre ++ q) ++ y :: x :: (p2 ++ post)).set ((pre ++ q).length + 1) y).set ((pre ++ q).length + 1 - 1) x = (pre ++ q) ++ x :: (y :: p2 ++ post) := by
       rw [show (pre ++ q) ++ y :: x :: (p2 ++ post) = ((pre ++ q) ++ [y]) ++ x :: (p2 ++ post) by simp, show (pre ++ q).length + 1 = ((pre ++ q) ++ [y]).length by simp; omega, set_mid, List.length_append, List.length_singleton, Nat.add_sub_cancel, List.append_assoc, List.singleton_append, set_mid]
       rfl
      have hJl : (pre ++ q).length + 1 < l.length := by rw [← hn]; simp; omega
      have hgtt : ((a : Nat) : Int) < (((pre ++ q).length + 1 : Nat) : Int) := by simp [hprel]; omega
      rw [hJ] at h9
      rw [hCe]
      generalize hC : (pre ++ q) ++ y :: x :: (p2 ++ post) = C at hn gx gy gs
      generalize hK : (pre ++ q).length = K at h9 gx gy gs hJl hgtt
      have hU : (T.set id (.cells (fl C) 52))[id]? = some (.cells (fl C) 52) := by simp [hid]
      have ld1 := cell_ld hU (K + 1) (by omega)
      have ld2 := cell_ld hU (K + 1 - 1) (by omega)
      rw [gx] at ld1
      rw [gy] at ld2
      have ia1 := cell_ia id l.length (K + 1) hJl
      have ia2 := cell_ia id l.length (K + 1 - 1) (by omega)
      have jdec : IntKind.i64.wrap (((K + 1 : Nat) : Int) - 1) = ((K + 1 - 1 : Nat) : Int) := wrap_sub1 (K + 1) (by omega) (by omega)
      have hc := hcmp (T.set id (.cells (fl C) 52)) x y
      by_cases hxy : ltA x y = true
      ·have hneg : cmpZ x.1 y.1 < 0 := (cmpZ_neg _ _).2 hxy
       have st1 := cell_st hU (K + 1) (by omega) y
       rw [List.set_set] at st1
       have hV1 : (T.set id (.cells (fl (C.set (K + 1) y)) 52))[id]? = some (.cells (fl (C.set (K + 1) y)) 52) := by simp [hid]
       have st2 := cell_st hV1 (K + 1 - 1) (by rw [List.length_set]; omega) x
       rw [List.set_set, gs] at st2
       repeat refine WS.adm rfl ?_
       refine WS.drawb (b := [0, 0, 3, 7, 15, 15, 15, 111, 239, 15, 15, 1039, 3599, 7695, 16383, 32767, 65535]) (by kernel_rfl) (by simp only [DL, evDraw_guard, isEff, isRead, Nat.reduceAdd, EV, TY,  h0, h1, h3, h9, hgtt, ia1, ia2, jdec, ld1, ld2, hc, hneg, ↓reduceIte, Nat.reduceEqDiff]; with_reducible rfl) ?_
       refine WS.cond_true (by simp only [EV, hgtt, hneg, ↓reduceIte, Nat.reduceEqDiff]) ?_
       repeat refine WS.adm rfl ?_
       refine WS.drawb (b := [0, 0, 0, 0, 8, 0, 0, 64, 224, 480, 0, 0, 3072, 7168, 16355, 32739, 65535, 131071]) (by kernel_rfl) (by simp only [DL, evDraw_guard, isEff, isRead, Nat.reduceAdd, EV, TY,  h0, h1, h3, h9, ia1, ia2, jdec, ld1, ld2, st1, st2, tb3, tb4, tb5, tb6, ↓reduceIte, Nat.reduceEqDiff]; with_reducible rfl) ?_
       repeat (first | refine WS.adm rfl ?_ | refine WS.region (by simp only [EV, TY, h9, jdec, ↓reduceIte, Nat.reduceEqDiff]; with_reducible rfl) ?_)
       refine ihp q.length _ _ (by simp) ⟨q, y :: p2, rfl, by rw [← hpp]; simp, ?_, ?_, ?_, ?_, ?_, ?_, ?_, by simp⟩
       ·intro z hz
        rcases List.mem_cons.1 hz with rfl | hz
        ·exact hxy
        ·exact hgt z hz
       iterate 5 simp only [EV, h0, h1, h2, h3, h8, ↓reduceIte, Nat.reduceEqDiff, AT]
       ·simp only [EV, ↓reduceIte, Nat.reduceEqDiff, AT]
        rw [← hK, List.length_append, hprel]
        rfl
      ·have hxy : ltA x y = false := by simpa using hxy
       have hneg : ¬ cmpZ x.1 y.1 < 0 := fun h => by
        have := (cmpZ_neg _ _).1 h
        unfold ltA at hxy
        rw [hxy] at this; cases this
       repeat refine WS.adm rfl ?_
       refine WS.drawb (b := [0, 0, 3, 7, 15, 15, 15, 111, 239, 15, 15, 1039, 3599, 7695, 16383, 32767, 65535]) (by kernel_rfl) (by simp only [DL, evDraw_guard, isEff, isRead, Nat.reduceAdd, EV, TY,  h0, h1, h3, h9, hgtt, ia1, ia2, jdec, ld1, ld2, hc, hneg, ↓reduceIte, Nat.reduceEqDiff]; with_reducible rfl) ?_
       refine WS.cond_false (by simp only [EV, hgtt, hneg, ↓reduceIte, Nat.reduceEqDiff]) ?_
       refine WS.exit rfl ?_
       refine lastp _ _ ⟨?_, ?_, ?_, ?_, ?_, ?_⟩
       iterate 5 simp only [EV, h0, h1, h2, h3, h8, ↓reduceIte, Nat.reduceEqDiff, AT]
       ·have := ins_split x (q ++ [y]) p2 (by rw [hpp]; exact hps) hgt (fun z hz => by
         rw [List.getLast?_append] at hz
         simp at hz
         subst hz
         exact hxy)
        rw [hpp] at this
        rw [this, ← hC]; simp
   ·have hlt' : ¬ ((i : Nat) : Int) < ((b : Nat) : Int) := by omega
    repeat (first | refine WS.adm rfl ?_ | refine WS.region (by simp only [EV, TY, h2, h8, hlt', ↓reduceIte, Nat.reduceEqDiff]; with_reducible rfl) ?_)
    refine WS.cf0 ?_
    refine WS.exit rfl ?_
    have : i = b := by omega
    subst this
    exact last _ _ rfl
 ·have : a = b := by omega
  subst this
  rw [isort_nil]
  have hna : ¬ ((a + 1 : Nat) : Int) < ((a : Nat) : Int) := by omega
  refine WS.loopB (fun j fr U => lget fr 2 = .int .i64 (a : Nat) ∧ lget fr 8 = .int .i64 ((a + 1 : Nat) : Int) ∧ T = U) (fun fr U => T = U) (j := 0) ?_ ?_ ?_
  ·refine ⟨?_, ?_, rfl⟩
   all_goals
    simp only [EV, lget, ↓reduceIte, Nat.reduceEqDiff, AT]
  ·rintro fr U rfl
   have : T.set id (.cells (fl l) 52) = T := List.ext_getElem? fun k => by
    by_cases hk : id = k
    ·subst hk; rw [List.getElem?_set_self hid, hT]
    ·rw [List.getElem?_set_ne hk]
   rw [this]
   exact ends0 rfl rfl
  ·rintro j fr U ⟨h2, h8, rfl⟩ ih last
   repeat (first | refine WS.adm rfl ?_ | refine WS.region (by simp only [EV, TY, h2, h8, hna, ↓reduceIte, Nat.reduceEqDiff]; with_reducible rfl) ?_)
   refine WS.cf0 ?_
   refine WS.exit rfl ?_
   exact last _ _ rfl
def SortOk (m : Nat) : Prop := ∀ (T : Store) (id : Nat) (l : List Im), T[id]? = some (.cells (fl l) 52) → l.length = m → ∀ fv, CmpOk fv → vrun E0 (.fn 68) [.slR id 0 l.length l.length 2, fv] T = some (.tup [], T.set id (.cells (fl (srt l)) 52))
theorem insN_ok (T : Store) (fv : V) : vrun E0 (.fn 136) [.slN, .int .i64 0, .int .i64 0, fv] T = some (.tup [], T) := by
 refine fn_ws Tryz.func136 rfl ?_
 have e : IntKind.i64.wrap ((0 : Int) + 1) = 1 := by decide
 repeat (first | refine WS.adm rfl ?_ | refine WS.region (by simp only [EV, TY, lget, e, ↓reduceIte, Nat.reduceEqDiff]; with_reducible rfl) ?_)
 refine WS.loopB (fun j fr U => lget fr 2 = .int .i64 0 ∧ lget fr 8 = .int .i64 1 ∧ T = U) (fun fr U => T = U) (j := 0) ?_ ?_ ?_
 ·refine ⟨?_, ?_, rfl⟩
  all_goals
   simp only [EV, lget, ↓reduceIte, Nat.reduceEqDiff, AT]
 ·rintro fr U rfl
  exact ends0 rfl rfl
 ·rintro j fr U ⟨h2, h8, rfl⟩ ih last
  have hn : ¬ (1 : Int) < 0 := by omega
  repeat (first | refine WS.adm rfl ?_ | refine WS.region (by simp only [EV, TY, h2, h8, hn, ↓reduceIte, Nat.reduceEqDiff]; with_reducible rfl) ?_)
  refine WS.cf0 ?_
  refine WS.exit rfl ?_
  exact last _ _ rfl
theorem stableN_ok (T : Store) (fv : V) : vrun E0 (.fn 106) [.slN, .int .i64 0, fv] T = some (.tup [], T) := by
 refine fn_ws Tryz.func106 rfl ?_
 have h1 : ¬ (20 : Int) ≤ 0 := by omega
 have h2 : ¬ (20 : Int) < 0 := by omega
 have hI := insN_ok T fv
 repeat (first | refine WS.adm rfl ?_ | refine WS.rl ?_)
 refine WS.loopB (fun j fr U => lget fr 0 = .slN ∧ lget fr 1 = .int .i64 0 ∧ lget fr 2 = fv ∧ lget fr 6 = .int .i64 20 ∧ lget fr 7 = .int .i64 0 ∧ lget fr 8 = .int .i64 20 ∧ T = U)
  (fun fr U => lget fr 0 = .slN ∧ lget fr 1 = .int .i64 0 ∧ lget fr 2 = fv ∧ lget fr 6 = .int .i64 20 ∧ lget fr 7 = .int .i64 0 ∧ T = U) (j := 0) ?_ ?_ ?_
 ·refine ⟨?_, ?_, ?_, ?_, ?_, ?_, rfl⟩
  all_goals
   simp only [EV, lget, ↓reduceIte, Nat.reduceEqDiff, AT]
 ·rintro fr U ⟨g0, g1, g2, g6, g7, rfl⟩
  repeat (first | refine WS.adm rfl ?_ | refine WS.region (by simp only [EV, TY, g0, g1, g2, g6, g7, callV_136, hI, ↓reduceIte, Nat.reduceEqDiff]; with_reducible rfl) ?_)
  refine WS.loopB (fun j fr U => lget fr 1 = .int .i64 0 ∧ lget fr 6 = .int .i64 20 ∧ T = U) (fun fr U => T = U) (j := 0) ?_ ?_ ?_
  ·refine ⟨?_, ?_, rfl⟩
   iterate 2 simp only [EV, g1, g6, ↓reduceIte, Nat.reduceEqDiff, AT]
  ·rintro fr U rfl
   exact ends0 rfl rfl
  ·rintro j fr U ⟨g1, g6, rfl⟩ ih last
   repeat (first | refine WS.adm rfl ?_ | refine WS.region (by simp only [EV, TY, g1, g6, h2, ↓reduceIte, Nat.reduceEqDiff]; with_reducible rfl) ?_)
   refine WS.cf0 ?_
   refine WS.exit rfl ?_
   exact last _ _ rfl
 ·rintro j fr U ⟨g0, g1, g2, g6, g7, g8, rfl⟩ ih last
  repeat (first | refine WS.adm rfl ?_ | refine WS.region (by simp only [EV, TY, g1, g8, h1, ↓reduceIte, Nat.reduceEqDiff]; with_reducible rfl) ?_)
  refine WS.cf0 ?_
  refine WS.exit rfl ?_
  refine last _ _ ⟨?_, ?_, ?_, ?_, ?_, rfl⟩
  all_goals
   simp only [EV, g0, g1, g2, g6, g7, ↓reduceIte, Nat.reduceEqDiff, AT]
theorem sortN_ok (T : Store) (fv : V) : vrun E0 (.fn 68) [.slN, fv] T = some (.tup [], T) := by
 refine fn_ws Tryz.func68 rfl ?_
 have hS := stableN_ok T fv
 have hlen : opLen E0 T 31 .slN = some (.int .i64 0) := len_slN Tryz.underlying31
 repeat (first | refine WS.adm rfl ?_ | refine WS.region (by simp only [EV, TY, lget, hlen, callV_106, hS, ↓reduceIte, Nat.reduceEqDiff]; with_reducible rfl) ?_)
 exact ends0 rfl rfl
theorem swapRange_ok {T : Store} {id : Nat} (A X M Y B : List Im) {C : List Im} (hC : C = A ++ (X ++ (M ++ (Y ++ B)))) (hT : T[id]? = some (.cells (fl C) 52)) (hN : C.length ≤ 1048576) (hXY : X.length = Y.length) (fv : V) (a b n : Nat) (ha : a = A.length) (hb : b = A.length + X.length + M.length) (hn : n = X.length) :
  vrun E0 (.fn 177) [.slR id 0 C.length C.length 2, .int .i64 (a : Nat), .int .i64 (b : Nat), .int .i64 (n : Nat), fv] T = some (.tup [], T.set id (.cells (fl (A ++ (Y ++ (M ++ (X ++ B))))) 52)) := by
 refine fn_ws Tryz.func177 rfl ?_
 have hid : id < T.length := lt_of_get hT
 have hCl : C.length = A.length + X.length + M.length + Y.length + B.length := by rw [hC]; simp; omega
 repeat (first | refine WS.adm rfl ?_ | refine WS.rl ?_)
 refine WS.loopB (fun j fr U => ∃ X1 X2 Y1 Y2, j = X2.length ∧ X = X1 ++ X2 ∧ Y = Y1 ++ Y2 ∧ X1.length = Y1.length ∧ lget fr 0 = .slR id 0 C.length C.length 2 ∧ lget fr 1 = .int .i64 (a : Nat) ∧ lget fr 2 = .int .i64 (b : Nat) ∧ lget fr 3 = .int .i64 (n : Nat) ∧ lget fr 10 = .int .i64 (X1.length : Nat) ∧ U = T.set id (.cells (fl (A ++ (Y1 ++ (X2 ++ (M ++ (X1 ++ (Y2 ++ B))))))) 52))
  (fun fr U => U = T.set id (.cells (fl (A ++ (Y ++ (M ++ (X ++ B))))) 52)) (j := X.length) ?_ ?_ ?_
 ·refine ⟨[], X, [], Y, rfl, rfl, rfl, rfl, ?_, ?_, ?_, ?_, ?_, ?_⟩
  iterate 4 simp only [EV, lget, ↓reduceIte, Nat.reduceEqDiff, AT]
  ·simp only [EV, lget, ↓reduceIte, Nat.reduceEqDiff, AT]
   rfl
  ·simp only [List.nil_append]
   rw [← hC, set_id hT]
 ·rintro fr U rfl
  exact ends0 rfl rfl
 ·rintro j fr U ⟨X1, X2, Y1, Y2, rfl, rfl, rfl, hl, h0, h1, h2, h3, h10, rfl⟩ ih last
  simp only [List.length_append] at hXY hCl hb hn
  cases X2 with
  | nil =>
   have hlt : ¬ ((X1.length : Nat) : Int) < ((n : Nat) : Int) := by simp at hn; omega
   obtain rfl : Y2 = [] := List.length_eq_zero_iff.1 (by simp at hXY; omega)
   repeat (first | refine WS.adm rfl ?_ | refine WS.region (by simp only [EV, TY, h3, h10, hlt, ↓reduceIte, Nat.reduceEqDiff]; with_reducible rfl) ?_)
   refine WS.cf0 ?_
   refine WS.exit rfl ?_
   exact last _ _ (by simp)
  | cons x X2 =>
   cases Y2 with
   | nil => simp at hXY; omega
   | cons y Y2 =>
    simp only [List.length_cons] at hXY hCl hb hn
    have hlt : ((X1.length : Nat) : Int) < ((n : Nat) : Int) := by omega
    generalize hD : A ++ (Y1 ++ (x :: X2 ++ (M ++ (X1 ++ (y :: Y2 ++ B))))) = D
    have hDe : D = (A ++ Y1) ++ x :: ((X2 ++ (M ++ X1)) ++ y :: (Y2 ++ B)) := by rw [← hD]; simp
    have hDl : D.length = C.length := by rw [hDe, hCl]; simp; omega
    have hU : (T.set id (.cells (fl D) 52))[id]? = some (.cells (fl D) 52) := by simp [hid]
    have hi : a + X1.length = (A ++ Y1).length := by simp; omega
    have hj : b + X1.length = (A ++ Y1).length + 1 + (X2 ++ (M ++ X1)).length := by simp; omega
    have w1 := wa a X1.length (by omega)
    have w2 := wa b X1.length (by omega)
    have ld1 := cell_ld hU (a + X1.length) (by omega)
    have ld2 := cell_ld hU (b + X1.length) (by omega)
    rw [getD_at _ hDe hi] at ld1
    rw [getD_at (A := (A ++ Y1) ++ x :: (X2 ++ (M ++ X1))) (B := Y2 ++ B) (x := y) _ (by rw [hDe]; simp) (by rw [hj]; simp; omega)] at ld2
    have ia1 := cell_ia id C.length (a + X1.length) (by omega)
    have ia2 := cell_ia id C.length (b + X1.length) (by omega)
    have st1 := cell_st hU (a + X1.length) (by omega) y
    rw [List.set_set] at st1
    have hU1 : (T.set id (.cells (fl (D.set (a + X1.length) y)) 52))[id]? = some (.cells (fl (D.set (a + X1.length) y)) 52) := by simp [hid]
    have st2 := cell_st hU1 (b + X1.length) (by rw [List.length_set]; omega) x
    rw [List.set_set, swap_mid _ _ _ _ _ hDe hi hj] at st2
    have iinc := wrap_inc X1.length (by omega)
    repeat (first | refine WS.adm rfl ?_ | refine WS.region (by simp only [EV, TY, h3, h10, hlt, ↓reduceIte, Nat.reduceEqDiff]; with_reducible rfl) ?_)
    refine WS.ct0 ?_
    repeat refine WS.adm rfl ?_
    refine WS.drawb (b := [0, 0, 0, 6, 0, 0, 0, 96, 0, 0, 0, 1536, 3840, 7936, 0, 0, 0, 98304, 245760, 507904, 1048335, 2096911, 4194303, 8388607]) (by kernel_rfl) (by simp only [DL, evDraw_guard, isEff, isRead, Nat.reduceAdd, EV, TY,  h0, h1, h2, h10, w1, w2, ia1, ia2, ld1, ld2, st1, st2, tb11, tb12, tb13, tb14, ↓reduceIte, Nat.reduceEqDiff]; with_reducible rfl) ?_
    repeat (first | refine WS.adm rfl ?_ | refine WS.region (by simp only [EV, TY, h10, iinc, ↓reduceIte, Nat.reduceEqDiff]; with_reducible rfl) ?_)
    refine ih X2.length _ _ (by simp) ⟨X1 ++ [x], X2, Y1 ++ [y], Y2, rfl, by simp, by simp, by simp [hl], ?_, ?_, ?_, ?_, ?_, by simp⟩
    iterate 4 simp only [EV, h0, h1, h2, h3, ↓reduceIte, Nat.reduceEqDiff, AT]
    ·simp only [EV, ↓reduceIte, Nat.reduceEqDiff, AT]
     simp
theorem rotate_ok {T : Store} {id : Nat} (A U Z B : List Im) {C : List Im} (hC : C = A ++ (U ++ (Z ++ B))) (hT : T[id]? = some (.cells (fl C) 52)) (hN : C.length ≤ 1048576) (hU0 : U ≠ []) (hV0 : Z ≠ []) (fv : V) (a m b : Nat) (ha : a = A.length) (hm : m = A.length + U.length) (hb : b = A.length + U.length + Z.length) :
  vrun E0 (.fn 159) [.slR id 0 C.length C.length 2, .int .i64 (a : Nat), .int .i64 (m : Nat), .int .i64 (b : Nat), fv] T = some (.tup [], T.set id (.cells (fl (A ++ (Z ++ (U ++ B)))) 52)) := by
 refine fn_ws Tryz.func159 rfl ?_
 have hid : id < T.length := lt_of_get hT
 have hCl : C.length = A.length + U.length + Z.length + B.length := by rw [hC]; simp; omega
 have w1 := ws_ m a (by omega) (by omega)
 have w2 := ws_ b m (by omega) (by omega)
 repeat (first | refine WS.adm rfl ?_ | refine WS.region (by simp only [EV, TY, lget, w1, w2, ↓reduceIte, Nat.reduceEqDiff]; with_reducible rfl) ?_)
 refine WS.loopB (fun j fr S' => ∃ P U' Z' Q, j = U'.length + Z'.length ∧ U' ≠ [] ∧ Z' ≠ [] ∧ A.length + P.length + U'.length = m ∧ P ++ (Z' ++ (U' ++ Q)) = Z ++ U ∧ lget fr 0 = .slR id 0 C.length C.length 2 ∧ lget fr 2 = .int .i64 (m : Nat) ∧ lget fr 4 = fv ∧ lget fr 10 = .int .i64 (U'.length : Nat) ∧ lget fr 11 = .int .i64 (Z'.length : Nat) ∧ S' = T.set id (.cells (fl (A ++ (P ++ (U' ++ (Z' ++ (Q ++ B)))))) 52))
  (fun fr S' => ∃ P U' Z' Q, U'.length = Z'.length ∧ A.length + P.length + U'.length = m ∧ P ++ (Z' ++ (U' ++ Q)) = Z ++ U ∧ lget fr 0 = .slR id 0 C.length C.length 2 ∧ lget fr 2 = .int .i64 (m : Nat) ∧ lget fr 4 = fv ∧ lget fr 10 = .int .i64 (U'.length : Nat) ∧ lget fr 11 = .int .i64 (Z'.length : Nat) ∧ S' = T.set id (.cells (fl (A ++ (P ++ (U' ++ (Z' ++ (Q ++ B)))))) 52)) (j := U.length + Z.length) ?_ ?_ ?_
 ·refine ⟨[], U, Z, [], rfl, hU0, hV0, by simp; omega, by simp, ?_, ?_, ?_, ?_, ?_, ?_⟩
  iterate 3 simp only [EV, lget, ↓reduceIte, Nat.reduceEqDiff, AT]
  ·simp only [EV, lget, ↓reduceIte, Nat.reduceEqDiff, AT]
   rw [show m - a = U.length by omega]
  ·simp only [EV, lget, ↓reduceIte, Nat.reduceEqDiff, AT]
   rw [show b - m = Z.length by omega]
  ·simp only [List.nil_append]
   rw [← hC, set_id hT]
 ·rintro fr S' ⟨P, U', Z', Q, hl, hmm, hpq, h0, h2, h4, h10, h11, rfl⟩
  have hlen := congrArg List.length hpq
  simp only [List.length_append] at hlen
  have k1 := ws_ m U'.length (by omega) (by omega)
  have hD : A ++ (P ++ (U' ++ (Z' ++ (Q ++ B)))) = (A ++ P) ++ (U' ++ ([] ++ (Z' ++ (Q ++ B)))) := by simp
  have hDl : (A ++ (P ++ (U' ++ (Z' ++ (Q ++ B))))).length = C.length := by simp; omega
  have hS := swapRange_ok (T := T.set id (.cells (fl (A ++ (P ++ (U' ++ (Z' ++ (Q ++ B)))))) 52)) (id := id) (A ++ P) U' [] Z' (Q ++ B) hD (by simp [hid]) (by rw [hDl]; exact hN) hl fv (m - U'.length) m U'.length (by simp; omega) (by simp; omega) rfl
  rw [hDl, List.set_set] at hS
  have hfin : (A ++ P) ++ (Z' ++ ([] ++ (U' ++ (Q ++ B)))) = A ++ (Z ++ (U ++ B)) := by
   rw [← List.append_assoc Z U B, ← hpq]; simp
  rw [hfin] at hS
  repeat (first | refine WS.adm rfl ?_ | refine WS.region (by simp only [EV, TY, h0, h2, h4, h10, h11, k1, callV_177, hS, ↓reduceIte, Nat.reduceEqDiff]; with_reducible rfl) ?_)
  exact ends0 rfl rfl
 ·rintro j fr S' ⟨P, U', Z', Q, rfl, u0, v0, hmm, hpq, h0, h2, h4, h10, h11, rfl⟩ ih last
  have hlen := congrArg List.length hpq
  simp only [List.length_append] at hlen
  have pu : 0 < U'.length := List.length_pos_iff.2 u0
  have pv : 0 < Z'.length := List.length_pos_iff.2 v0
  have hDl : (A ++ (P ++ (U' ++ (Z' ++ (Q ++ B))))).length = C.length := by simp; omega
  have k1 := ws_ m U'.length (by omega) (by omega)
  by_cases he : U'.length = Z'.length
  ·have he' : (((U'.length : Nat) : Int) != ((Z'.length : Nat) : Int)) = false := by simp [he]
   repeat (first | refine WS.adm rfl ?_ | refine WS.region (by simp only [EV, TY, h10, h11, he', ↓reduceIte, Nat.reduceEqDiff]; with_reducible rfl) ?_)
   refine WS.cf0 ?_
   refine WS.exit rfl ?_
   refine last _ _ ⟨P, U', Z', Q, he, hmm, hpq, ?_, ?_, ?_, ?_, ?_, rfl⟩
   iterate 5 simp only [EV, h0, h2, h4, h10, h11, ↓reduceIte, Nat.reduceEqDiff, AT]
  ·have he' : (((U'.length : Nat) : Int) != ((Z'.length : Nat) : Int)) = true := bne_iff_ne.2 (by omega)
   by_cases hgt : Z'.length < U'.length
   ·have hgt' : ((Z'.length : Nat) : Int) < ((U'.length : Nat) : Int) := by omega
    obtain ⟨U1, U2, rfl, hu1⟩ : ∃ U1 U2, U' = U1 ++ U2 ∧ U1.length = Z'.length := ⟨U'.take Z'.length, U'.drop Z'.length, (List.take_append_drop _ _).symm, by simp; omega⟩
    simp only [List.length_append] at hgt pu hmm hlen k1
    have hD : A ++ (P ++ (U1 ++ U2 ++ (Z' ++ (Q ++ B)))) = (A ++ P) ++ (U1 ++ (U2 ++ (Z' ++ (Q ++ B)))) := by simp
    have hS := swapRange_ok (T := T.set id (.cells (fl (A ++ (P ++ (U1 ++ U2 ++ (Z' ++ (Q ++ B)))))) 52)) (id := id) (A ++ P) U1 U2 Z' (Q ++ B) hD (by simp [hid]) (by rw [hDl]; exact hN) hu1 fv (m - (U1 ++ U2).length) m Z'.length (by simp; omega) (by simp; omega) hu1.symm
    rw [hDl, List.set_set] at hS
    have k2 := ws_ (U1 ++ U2).length Z'.length (by simp; omega) (by simp; omega)
    have k1' : IntKind.i64.wrap ((m : Int) - (((U1 ++ U2).length : Nat) : Int)) = ((m - (U1 ++ U2).length : Nat) : Int) := ws_ m (U1 ++ U2).length (by simp; omega) (by omega)
    repeat (first | refine WS.adm rfl ?_ | refine WS.region (by simp only [EV, TY, h10, h11, he', hgt', ↓reduceIte, Nat.reduceEqDiff]; with_reducible rfl) ?_)
    refine WS.ct0 ?_
    repeat (first | refine WS.adm rfl ?_ | refine WS.region (by simp only [EV, TY, h10, h11, he', hgt', ↓reduceIte, Nat.reduceEqDiff]; with_reducible rfl) ?_)
    refine WS.ct0 ?_
    repeat (first | refine WS.adm rfl ?_ | refine WS.region (by simp only [EV, TY, h0, h2, h4, h10, h11, k1', callV_177, hS, k2, ↓reduceIte, Nat.reduceEqDiff]; with_reducible rfl) ?_)
    refine ih (U2.length + U1.length) _ _ (by simp; omega) ⟨P ++ Z', U2, U1, Q, rfl, ?_, ?_, by simp; omega, by rw [← hpq]; simp, ?_, ?_, ?_, ?_, ?_, by simp⟩
    ·intro h; subst h; simp at hgt; omega
    ·intro h; subst h; simp at hu1; omega
    iterate 3 simp only [EV, h0, h2, h4, ↓reduceIte, Nat.reduceEqDiff, AT]
    ·simp only [EV, ↓reduceIte, Nat.reduceEqDiff, AT]
     rw [show (U1 ++ U2).length - Z'.length = U2.length by simp; omega]
    ·simp only [EV, h11, ↓reduceIte, Nat.reduceEqDiff, AT]
     rw [hu1]
   ·have hgt' : ¬ ((Z'.length : Nat) : Int) < ((U'.length : Nat) : Int) := by omega
    obtain ⟨Z1, Z2, rfl, hv2⟩ : ∃ Z1 Z2, Z' = Z1 ++ Z2 ∧ Z2.length = U'.length := ⟨Z'.take (Z'.length - U'.length), Z'.drop (Z'.length - U'.length), (List.take_append_drop _ _).symm, by simp; omega⟩
    simp only [List.length_append] at hgt pv hlen he
    have hD : A ++ (P ++ (U' ++ (Z1 ++ Z2 ++ (Q ++ B)))) = (A ++ P) ++ (U' ++ (Z1 ++ (Z2 ++ (Q ++ B)))) := by simp
    have hS := swapRange_ok (T := T.set id (.cells (fl (A ++ (P ++ (U' ++ (Z1 ++ Z2 ++ (Q ++ B)))))) 52)) (id := id) (A ++ P) U' Z1 Z2 (Q ++ B) hD (by simp [hid]) (by rw [hDl]; exact hN) hv2.symm fv (m - U'.length) (m + (Z1 ++ Z2).length - U'.length) U'.length (by simp; omega) (by simp; omega) rfl
    rw [hDl, List.set_set] at hS
    have k2 := wa m (Z1 ++ Z2).length (by simp; omega)
    have k3 := ws_ (m + (Z1 ++ Z2).length) U'.length (by omega) (by simp; omega)
    have k4 := ws_ (Z1 ++ Z2).length U'.length (by simp; omega) (by simp; omega)
    repeat (first | refine WS.adm rfl ?_ | refine WS.region (by simp only [EV, TY, h10, h11, he', hgt', ↓reduceIte, Nat.reduceEqDiff]; with_reducible rfl) ?_)
    refine WS.ct0 ?_
    repeat (first | refine WS.adm rfl ?_ | refine WS.region (by simp only [EV, TY, h10, h11, he', hgt', ↓reduceIte, Nat.reduceEqDiff]; with_reducible rfl) ?_)
    refine WS.cf0 ?_
    repeat (first | refine WS.adm rfl ?_ | refine WS.region (by simp only [EV, TY, h0, h2, h4, h10, h11, k1, k2, k3, callV_177, hS, k4, ↓reduceIte, Nat.reduceEqDiff]; with_reducible rfl) ?_)
    refine ih (Z2.length + Z1.length) _ _ (by simp; omega) ⟨P, Z2, Z1, U' ++ Q, rfl, ?_, ?_, by omega, by rw [← hpq]; simp, ?_, ?_, ?_, ?_, ?_, by simp⟩
    ·intro h; subst h; simp at hv2; omega
    ·intro h; subst h; simp at he hgt; omega
    iterate 3 simp only [EV, h0, h2, h4, ↓reduceIte, Nat.reduceEqDiff, AT]
    ·simp only [EV, h10, ↓reduceIte, Nat.reduceEqDiff, AT]
     rw [hv2]
    ·simp only [EV, ↓reduceIte, Nat.reduceEqDiff, AT]
     rw [show (Z1 ++ Z2).length - U'.length = Z1.length by simp; omega]
theorem sym1_ok {T : Store} {id : Nat} (A : List Im) (x : Im) (Z B : List Im) {C : List Im} (hC : C = A ++ ([x] ++ (Z ++ B))) (hT : T[id]? = some (.cells (fl C) 52)) (hN : C.length ≤ 1048576) (hs : Sorted Z) {fv : V} (hcmp : CmpOk fv) (a m b : Nat) (ha : a = A.length) (hm : m = A.length + 1) (hb : b = A.length + 1 + Z.length) :
  vrun E0 (.fn 137) [.slR id 0 C.length C.length 2, .int .i64 (a : Nat), .int .i64 (m : Nat), .int .i64 (b : Nat), fv] T = some (.tup [], T.set id (.cells (fl (A ++ (srt ([x] ++ Z) ++ B))) 52)) := by
 refine fn_ws Tryz.func137 rfl ?_
 have hid : id < T.length := lt_of_get hT
 have hCl : C.length = A.length + 1 + Z.length + B.length := by rw [hC]; simp; omega
 have w1 := ws_ m a (by omega) (by omega)
 have e1 : (((m - a : Nat) : Int) == 1) = true := by simp; omega
 have hx : C.getD a im0 = x := getD_at _ (A := A) (B := Z ++ B) (by rw [hC]; simp) ha
 have hz : ∀ k, k < Z.length → C.getD (m + k) im0 = Z.getD k im0 := fun k hk => by
  have e : C = (A ++ [x]) ++ (Z ++ B) := by rw [hC]; simp
  rw [e, hm, show A.length + 1 + k = (A ++ [x]).length + k by simp, getD_app, getD_app' _ _ _ _ hk]
 repeat (first | refine WS.adm rfl ?_ | refine WS.region (by simp only [EV, TY, lget, w1, e1, ↓reduceIte, Nat.reduceEqDiff]; with_reducible rfl) ?_)
 refine WS.cond_true (by simp only [EV, lget, ↓reduceIte, Nat.reduceEqDiff]) ?_
 repeat (first | refine WS.adm rfl ?_ | refine WS.rl ?_)
 refine WS.loopB (fun j fr S' => ∃ i j', j = j' - i ∧ m ≤ i ∧ i ≤ j' ∧ j' ≤ b ∧ lget fr 0 = .slR id 0 C.length C.length 2 ∧ lget fr 1 = .int .i64 (a : Nat) ∧ lget fr 4 = fv ∧ lget fr 10 = .int .i64 (i : Nat) ∧ lget fr 11 = .int .i64 (j' : Nat) ∧ T = S' ∧ (∀ k, m ≤ k → k < i → ltA (C.getD k im0) x = true) ∧ ∀ k, j' ≤ k → k < b → ltA (C.getD k im0) x = false)
  (fun fr S' => ∃ i, m ≤ i ∧ i ≤ b ∧ lget fr 0 = .slR id 0 C.length C.length 2 ∧ lget fr 1 = .int .i64 (a : Nat) ∧ lget fr 10 = .int .i64 (i : Nat) ∧ T = S' ∧ (∀ k, m ≤ k → k < i → ltA (C.getD k im0) x = true) ∧ ∀ k, i ≤ k → k < b → ltA (C.getD k im0) x = false) (j := b - m) ?_ ?_ ?_
 ·refine ⟨m, b, rfl, Nat.le_refl _, by omega, Nat.le_refl _, ?_, ?_, ?_, ?_, ?_, rfl, fun k h1 h2 => by omega, fun k h1 h2 => by omega⟩
  all_goals
   simp only [EV, lget, ↓reduceIte, Nat.reduceEqDiff, AT]
 ·rintro fr S' ⟨i, hmi, hib, h0, h1, h10, rfl, hlo, hhi⟩
  have hV1 : ∀ v ∈ Z.take (i - m), ltA v x = true := fun v hv => by
   obtain ⟨q, hq, rfl⟩ := List.getElem_of_mem hv
   simp only [List.length_take] at hq
   have := hlo (m + q) (by omega) (by omega)
   rw [hz q (by omega)] at this
   simpa [List.getD, show q < Z.length by omega] using this
  have hV2 : ∀ v ∈ Z.drop (i - m), ltA v x = false := fun v hv => by
   obtain ⟨q, hq, rfl⟩ := List.getElem_of_mem hv
   simp only [List.length_drop] at hq
   have := hhi (m + (i - m + q)) (by omega) (by omega)
   rw [hz _ (by omega)] at this
   simpa [List.getD, show i - m + q < Z.length by omega] using this
  have hfin := merge_first (x := x) (V1 := Z.take (i - m)) (V2 := Z.drop (i - m)) (by rw [List.take_append_drop]; exact hs) hV1 hV2
  rw [List.take_append_drop] at hfin
  have hZe : Z = Z.take (i - m) ++ Z.drop (i - m) := (List.take_append_drop _ _).symm
  have hV1l : (Z.take (i - m)).length = i - m := by simp; omega
  generalize Z.take (i - m) = V1 at hfin hZe hV1l
  generalize Z.drop (i - m) = V2 at hfin hZe
  rw [← hfin]
  have i1 := wrap_sub1 i (by omega) (by omega)
  repeat (first | refine WS.adm rfl ?_ | refine WS.region (by simp only [EV, TY, h1, ↓reduceIte, Nat.reduceEqDiff]; with_reducible rfl) ?_)
  refine WS.loopB (fun j fr S' => ∃ P Q, j = Q.length ∧ V1 = P ++ Q ∧ lget fr 0 = .slR id 0 C.length C.length 2 ∧ lget fr 10 = .int .i64 (i : Nat) ∧ lget fr 13 = .int .i64 ((a + P.length : Nat) : Int) ∧ S' = T.set id (.cells (fl (A ++ (P ++ (x :: (Q ++ (V2 ++ B)))))) 52))
   (fun fr S' => S' = T.set id (.cells (fl (A ++ (V1 ++ x :: V2 ++ B))) 52)) (j := V1.length) ?_ ?_ ?_
  ·refine ⟨[], V1, rfl, rfl, ?_, ?_, ?_, ?_⟩
   iterate 2 simp only [EV, h0, h10, ↓reduceIte, Nat.reduceEqDiff, AT]
   ·simp only [EV, ↓reduceIte, Nat.reduceEqDiff, AT]
    rfl
   ·have : A ++ ([] ++ (x :: (V1 ++ (V2 ++ B)))) = C := by rw [hC, hZe]; simp
    rw [this, set_id hT]
  ·rintro fr S' rfl
   repeat (first | refine WS.adm rfl ?_ | refine WS.r0 ?_)
   exact ret0 rfl rfl
  ·rintro j fr S' ⟨P, Q, rfl, rfl, h0, h10, h13, rfl⟩ ih last
   simp only [List.length_append] at hV1l
   cases Q with
   | nil =>
    have hlt : ¬ ((a + P.length : Nat) : Int) < ((i - 1 : Nat) : Int) := by simp at hV1l; omega
    repeat (first | refine WS.adm rfl ?_ | refine WS.region (by simp only [EV, TY, h10, h13, i1, hlt, ↓reduceIte, Nat.reduceEqDiff]; with_reducible rfl) ?_)
    refine WS.cf0 ?_
    refine WS.exit rfl ?_
    exact last _ _ (by simp)
   | cons v Q =>
    simp only [List.length_cons] at hV1l
    have hlt : ((a + P.length : Nat) : Int) < ((i - 1 : Nat) : Int) := by omega
    generalize hD : A ++ (P ++ (x :: (v :: Q ++ (V2 ++ B)))) = D
    have hDe : D = (A ++ P) ++ x :: ([] ++ v :: (Q ++ (V2 ++ B))) := by rw [← hD]; simp
    have hDl : D.length = C.length := by
     rw [← hD, hCl, hZe]
     simp; omega
    have hU : (T.set id (.cells (fl D) 52))[id]? = some (.cells (fl D) 52) := by simp [hid]
    have hi : a + P.length = (A ++ P).length := by simp; omega
    have hj : a + P.length + 1 = (A ++ P).length + 1 + ([] : List Im).length := by simp; omega
    have k1 := wrap_inc (a + P.length) (by omega)
    have ld1 := cell_ld hU (a + P.length) (by simp at hi; omega)
    have ld2 := cell_ld hU (a + P.length + 1) (by simp at hi; omega)
    rw [getD_at _ hDe hi] at ld1
    rw [getD_at (A := (A ++ P) ++ [x]) (B := Q ++ (V2 ++ B)) (x := v) _ (by rw [hDe]; simp) (by simp; omega)] at ld2
    have ia1 := cell_ia id C.length (a + P.length) (by simp at hi; omega)
    have ia2 := cell_ia id C.length (a + P.length + 1) (by simp at hi; omega)
    have st1 := cell_st hU (a + P.length) (by simp at hi; omega) v
    rw [List.set_set] at st1
    have hU1 : (T.set id (.cells (fl (D.set (a + P.length) v)) 52))[id]? = some (.cells (fl (D.set (a + P.length) v)) 52) := by simp [hid]
    have st2 := cell_st hU1 (a + P.length + 1) (by rw [List.length_set]; simp at hi; omega) x
    rw [List.set_set, swap_mid _ _ _ _ _ hDe hi hj] at st2
    repeat (first | refine WS.adm rfl ?_ | refine WS.region (by simp only [EV, TY, h10, h13, i1, hlt, ↓reduceIte, Nat.reduceEqDiff]; with_reducible rfl) ?_)
    refine WS.ct0 ?_
    repeat refine WS.adm rfl ?_
    refine WS.drawb (b := [0, 0, 0, 0, 8, 0, 0, 64, 224, 480, 0, 0, 3072, 7168, 16355, 32739, 65535, 131071]) (by kernel_rfl) (by simp only [DL, isEff, isRead, Nat.reduceAdd, EV, TY,  h0, h13, k1, ia1, ia2, ld1, ld2, st1, st2, tb3, tb4, tb5, tb6, ↓reduceIte, Nat.reduceEqDiff]; with_reducible rfl) ?_
    repeat (first | refine WS.adm rfl ?_ | refine WS.region (by simp only [EV, TY, h13, k1, ↓reduceIte, Nat.reduceEqDiff]; with_reducible rfl) ?_)
    refine ih Q.length _ _ (by simp) ⟨P ++ [v], Q, rfl, by simp, ?_, ?_, ?_, by simp⟩
    iterate 2 simp only [EV, h0, h10, ↓reduceIte, Nat.reduceEqDiff, AT]
    ·simp only [EV, ↓reduceIte, Nat.reduceEqDiff, AT]
     simp
     omega
 ·rintro j fr S' ⟨i, j', rfl, hmi, hij, hjb, h0, h1, h4, h10, h11, rfl, hlo, hhi⟩ ih last
  by_cases hlt : i < j'
  ·have hlt' : ((i : Nat) : Int) < ((j' : Nat) : Int) := by omega
   have k1 := wa i j' (by omega)
   have k2 := mid1 (i + j') (by omega) T
   have k3 := fun l => mid2 (i + j') l
   have k4 := mid3 ((i + j') / 2) (by omega) T
   generalize hh : (i + j') / 2 = h at k3 k4
   have hhi' : i ≤ h ∧ h < j' := by omega
   have ia1 := cell_ia id C.length h (by omega)
   have ia2 := cell_ia id C.length a (by omega)
   have ld1 := cell_ld hT h (by omega)
   have ld2 := cell_ld hT a (by omega)
   rw [hx] at ld2
   have hc := hcmp T (C.getD h im0) x
   have hmono : ∀ k, m ≤ k → k ≤ h → ltA (C.getD h im0) (C.getD k im0) = false := fun k h1 h2 => by
    rw [show h = m + (h - m) by omega, show k = m + (k - m) by omega, hz _ (by omega), hz _ (by omega)]
    exact sorted_get hs (by omega) (by omega)
   have hmono2 : ∀ k, h ≤ k → k < b → ltA (C.getD k im0) (C.getD h im0) = false := fun k h1 h2 => by
    rw [show h = m + (h - m) by omega, show k = m + (k - m) by omega, hz _ (by omega), hz _ (by omega)]
    exact sorted_get hs (by omega) (by omega)
   generalize C.getD h im0 = y at ld1 hc hmono hmono2
   have hinc := wrap_inc h (by omega)
   repeat (first | refine WS.adm rfl ?_ | refine WS.region (by simp only [EV, TY, h10, h11, hlt', ↓reduceIte, Nat.reduceEqDiff]; with_reducible rfl) ?_)
   refine WS.ct0 ?_
   repeat (first | refine WS.adm rfl ?_ | refine WS.region (by simp only [EV, TY, h10, h11, k1, k2, k3, k4, ↓reduceIte, Nat.reduceEqDiff]; with_reducible rfl) ?_)
   by_cases hp : ltA y x = true
   ·have hneg : cmpZ y.1 x.1 < 0 := (cmpZ_neg _ _).2 hp
    refine WS.drawb (b := [0, 0, 0, 6, 14, 0, 0, 96, 224, 511, 1023]) (by kernel_rfl) (by simp only [DL, isEff, isRead, Nat.reduceAdd, EV, TY,  h0, h1, h4, ia1, ia2, ld1, ld2, hc, hneg, ↓reduceIte, Nat.reduceEqDiff]; with_reducible rfl) ?_
    refine WS.ct0 ?_
    repeat (first | refine WS.adm rfl ?_ | refine WS.region (by simp only [EV, TY, hinc, ↓reduceIte, Nat.reduceEqDiff]; with_reducible rfl) ?_)
    refine ih (j' - (h + 1)) _ _ (by omega) ⟨h + 1, j', rfl, by omega, by omega, hjb, ?_, ?_, ?_, ?_, ?_, rfl, fun k g1 g2 => ?_, hhi⟩
    iterate 5 simp only [EV, h0, h1, h4, h11, ↓reduceIte, Nat.reduceEqDiff, AT]
    ·exact le_lt_trans (hmono k g1 (by omega)) hp
   ·have hp : ltA y x = false := by simpa using hp
    have hneg : ¬ cmpZ y.1 x.1 < 0 := fun g => by
     have := (cmpZ_neg _ _).1 g
     unfold ltA at hp
     rw [hp] at this; cases this
    refine WS.drawb (b := [0, 0, 0, 6, 14, 0, 0, 96, 224, 511, 1023]) (by kernel_rfl) (by simp only [DL, isEff, isRead, Nat.reduceAdd, EV, TY,  h0, h1, h4, ia1, ia2, ld1, ld2, hc, hneg, ↓reduceIte, Nat.reduceEqDiff]; with_reducible rfl) ?_
    refine WS.cf0 ?_
    repeat (first | refine WS.adm rfl ?_ | refine WS.r0 ?_)
    refine ih (h - i) _ _ (by omega) ⟨i, h, rfl, hmi, by omega, by omega, ?_, ?_, ?_, ?_, ?_, rfl, hlo, fun k g1 g2 => ?_⟩
    iterate 5 simp only [EV, h0, h1, h4, h10, ↓reduceIte, Nat.reduceEqDiff, AT]
    ·exact le_le_trans hp (hmono2 k g1 g2)
  ·have hlt' : ¬ ((i : Nat) : Int) < ((j' : Nat) : Int) := by omega
   repeat (first | refine WS.adm rfl ?_ | refine WS.region (by simp only [EV, TY, h10, h11, hlt', ↓reduceIte, Nat.reduceEqDiff]; with_reducible rfl) ?_)
   refine WS.cf0 ?_
   refine WS.exit rfl ?_
   have : i = j' := by omega
   subst this
   refine last _ _ ⟨i, hmi, hjb, ?_, ?_, ?_, rfl, hlo, hhi⟩
   iterate 3 simp only [EV, h0, h1, h10, ↓reduceIte, Nat.reduceEqDiff, AT]
theorem sym2_ok {T : Store} {id : Nat} (A U : List Im) (y : Im) (B : List Im) {C : List Im} (hC : C = A ++ (U ++ ([y] ++ B))) (hT : T[id]? = some (.cells (fl C) 52)) (hN : C.length ≤ 1048576) (hs : Sorted U) (hU1 : U.length ≠ 1) {fv : V} (hcmp : CmpOk fv) (a m b : Nat) (ha : a = A.length) (hm : m = A.length + U.length) (hb : b = A.length + U.length + 1) :
  vrun E0 (.fn 137) [.slR id 0 C.length C.length 2, .int .i64 (a : Nat), .int .i64 (m : Nat), .int .i64 (b : Nat), fv] T = some (.tup [], T.set id (.cells (fl (A ++ (srt (U ++ [y]) ++ B))) 52)) := by
 refine fn_ws Tryz.func137 rfl ?_
 have hid : id < T.length := lt_of_get hT
 have hCl : C.length = A.length + U.length + 1 + B.length := by rw [hC]; simp; omega
 have w1 := ws_ m a (by omega) (by omega)
 have w2 := ws_ b m (by omega) (by omega)
 have e1 : (((m - a : Nat) : Int) == 1) = false := beq_eq_false_iff_ne.2 (by omega)
 have e2 : (((b - m : Nat) : Int) == 1) = true := by simp; omega
 have hy : C.getD m im0 = y := getD_at _ (A := A ++ U) (B := B) (by rw [hC]; simp) (by simp; omega)
 have hu : ∀ k, k < U.length → C.getD (a + k) im0 = U.getD k im0 := fun k hk => by
  rw [hC, ha, getD_app, getD_app' _ _ _ _ hk]
 repeat (first | refine WS.adm rfl ?_ | refine WS.region (by simp only [EV, TY, lget, w1, e1, ↓reduceIte, Nat.reduceEqDiff]; with_reducible rfl) ?_)
 refine WS.cond_false (by simp only [EV, lget, ↓reduceIte, Nat.reduceEqDiff]) ?_
 repeat (first | refine WS.adm rfl ?_ | refine WS.region (by simp only [EV, TY, lget, w2, e2, ↓reduceIte, Nat.reduceEqDiff]; with_reducible rfl) ?_)
 refine WS.cond_true (by simp only [EV, lget, ↓reduceIte, Nat.reduceEqDiff]) ?_
 repeat (first | refine WS.adm rfl ?_ | refine WS.rl ?_)
 refine WS.loopB (fun j fr S' => ∃ i j', j = j' - i ∧ a ≤ i ∧ i ≤ j' ∧ j' ≤ m ∧ lget fr 0 = .slR id 0 C.length C.length 2 ∧ lget fr 2 = .int .i64 (m : Nat) ∧ lget fr 4 = fv ∧ lget fr 14 = .int .i64 (i : Nat) ∧ lget fr 15 = .int .i64 (j' : Nat) ∧ T = S' ∧ (∀ k, a ≤ k → k < i → ltA y (C.getD k im0) = false) ∧ ∀ k, j' ≤ k → k < m → ltA y (C.getD k im0) = true)
  (fun fr S' => ∃ i, a ≤ i ∧ i ≤ m ∧ lget fr 0 = .slR id 0 C.length C.length 2 ∧ lget fr 2 = .int .i64 (m : Nat) ∧ lget fr 14 = .int .i64 (i : Nat) ∧ T = S' ∧ (∀ k, a ≤ k → k < i → ltA y (C.getD k im0) = false) ∧ ∀ k, i ≤ k → k < m → ltA y (C.getD k im0) = true) (j := m - a) ?_ ?_ ?_
 ·refine ⟨a, m, rfl, Nat.le_refl _, by omega, Nat.le_refl _, ?_, ?_, ?_, ?_, ?_, rfl, fun k h1 h2 => by omega, fun k h1 h2 => by omega⟩
  all_goals
   simp only [EV, lget, ↓reduceIte, Nat.reduceEqDiff, AT]
 ·rintro fr S' ⟨i, hai, him, h0, h2, h14, rfl, hlo, hhi⟩
  have hV1 : ∀ v ∈ U.take (i - a), ltA y v = false := fun v hv => by
   obtain ⟨q, hq, rfl⟩ := List.getElem_of_mem hv
   simp only [List.length_take] at hq
   have := hlo (a + q) (by omega) (by omega)
   rw [hu q (by omega)] at this
   simpa [List.getD, show q < U.length by omega] using this
  have hV2 : ∀ v ∈ U.drop (i - a), ltA y v = true := fun v hv => by
   obtain ⟨q, hq, rfl⟩ := List.getElem_of_mem hv
   simp only [List.length_drop] at hq
   have := hhi (a + (i - a + q)) (by omega) (by omega)
   rw [hu _ (by omega)] at this
   simpa [List.getD, show i - a + q < U.length by omega] using this
  have hfin := merge_last (y := y) (U1 := U.take (i - a)) (U2 := U.drop (i - a)) (by rw [List.take_append_drop]; exact hs) hV1 hV2
  rw [List.take_append_drop] at hfin
  have hUe : U = U.take (i - a) ++ U.drop (i - a) := (List.take_append_drop _ _).symm
  have hV1l : (U.take (i - a)).length = i - a := by simp; omega
  generalize U.take (i - a) = V1 at hfin hUe hV1l
  generalize U.drop (i - a) = V2 at hfin hUe
  rw [← hfin]
  have hUl : U.length = V1.length + V2.length := by rw [hUe]; simp
  repeat (first | refine WS.adm rfl ?_ | refine WS.region (by simp only [EV, TY, h2, ↓reduceIte, Nat.reduceEqDiff]; with_reducible rfl) ?_)
  refine WS.loopB (fun j fr S' => ∃ P Q, j = P.length ∧ V2 = P ++ Q ∧ lget fr 0 = .slR id 0 C.length C.length 2 ∧ lget fr 14 = .int .i64 (i : Nat) ∧ lget fr 17 = .int .i64 ((i + P.length : Nat) : Int) ∧ S' = T.set id (.cells (fl (A ++ (V1 ++ (P ++ (y :: (Q ++ B)))))) 52))
   (fun fr S' => S' = T.set id (.cells (fl (A ++ (V1 ++ y :: V2 ++ B))) 52)) (j := V2.length) ?_ ?_ ?_
  ·refine ⟨V2, [], rfl, by simp, ?_, ?_, ?_, ?_⟩
   iterate 2 simp only [EV, h0, h14, ↓reduceIte, Nat.reduceEqDiff, AT]
   ·simp only [EV, h2, ↓reduceIte, Nat.reduceEqDiff, AT]
    rw [show m = i + V2.length by omega]
   ·have : A ++ (V1 ++ (V2 ++ (y :: ([] ++ B)))) = C := by rw [hC, hUe]; simp
    rw [this, set_id hT]
  ·rintro fr S' rfl
   repeat (first | refine WS.adm rfl ?_ | refine WS.r0 ?_)
   exact ret0 rfl rfl
  ·rintro j fr S' ⟨P, Q, rfl, rfl, h0, h14, h17, rfl⟩ ih last
   simp only [List.length_append] at hUl
   rcases List.eq_nil_or_concat P with rfl | ⟨P', u, rfl⟩
   ·have hlt : ¬ ((i : Nat) : Int) < ((i + ([] : List Im).length : Nat) : Int) := by simp
    repeat (first | refine WS.adm rfl ?_ | refine WS.region (by simp only [EV, TY, h14, h17, hlt, ↓reduceIte, Nat.reduceEqDiff]; with_reducible rfl) ?_)
    refine WS.cf0 ?_
    refine WS.exit rfl ?_
    exact last _ _ (by simp)
   ·rw [List.concat_eq_append] at *
    simp only [List.length_append, List.length_singleton] at hUl
    have hlt : ((i : Nat) : Int) < ((i + (P' ++ [u]).length : Nat) : Int) := by simp; omega
    generalize hD : A ++ (V1 ++ (P' ++ [u] ++ (y :: (Q ++ B)))) = D
    have hDe : D = (A ++ (V1 ++ P')) ++ u :: ([] ++ y :: (Q ++ B)) := by rw [← hD]; simp
    have hDl : D.length = C.length := by
     rw [hDe, hCl, hUl]
     simp; omega
    have hU : (T.set id (.cells (fl D) 52))[id]? = some (.cells (fl D) 52) := by simp [hid]
    have hi : i + (P' ++ [u]).length - 1 = (A ++ (V1 ++ P')).length := by simp; omega
    have hj : i + (P' ++ [u]).length = (A ++ (V1 ++ P')).length + 1 + ([] : List Im).length := by simp; omega
    have k1 : IntKind.i64.wrap (((i + (P' ++ [u]).length : Nat) : Int) - 1) = ((i + (P' ++ [u]).length - 1 : Nat) : Int) := wrap_sub1 (i + (P' ++ [u]).length) (by simp; omega) (by simp; omega)
    have ld1 := cell_ld hU (i + (P' ++ [u]).length - 1) (by simp at hi; simp; omega)
    have ld2 := cell_ld hU (i + (P' ++ [u]).length) (by simp at hi; simp; omega)
    rw [getD_at _ hDe hi] at ld1
    rw [getD_at (A := (A ++ (V1 ++ P')) ++ [u]) (B := Q ++ B) (x := y) _ (by rw [hDe]; simp) (by simp; omega)] at ld2
    have ia1 := cell_ia id C.length (i + (P' ++ [u]).length - 1) (by simp at hi; simp; omega)
    have ia2 := cell_ia id C.length (i + (P' ++ [u]).length) (by simp at hi; simp; omega)
    have st1 := cell_st hU (i + (P' ++ [u]).length) (by simp at hi; simp; omega) u
    rw [List.set_set] at st1
    have hU1 : (T.set id (.cells (fl (D.set (i + (P' ++ [u]).length) u)) 52))[id]? = some (.cells (fl (D.set (i + (P' ++ [u]).length) u)) 52) := by simp [hid]
    have st2 := cell_st hU1 (i + (P' ++ [u]).length - 1) (by rw [List.length_set]; simp at hi; simp; omega) y
    rw [List.set_set, swap_mid' _ _ _ _ _ hDe hi hj] at st2
    repeat (first | refine WS.adm rfl ?_ | refine WS.region (by simp only [EV, TY, h14, h17, hlt, ↓reduceIte, Nat.reduceEqDiff]; with_reducible rfl) ?_)
    refine WS.ct0 ?_
    repeat refine WS.adm rfl ?_
    refine WS.drawb (b := [0, 0, 0, 0, 8, 0, 0, 64, 224, 480, 0, 0, 3072, 7168, 16355, 32739, 65535, 131071]) (by kernel_rfl) (by simp only [DL, isEff, isRead, Nat.reduceAdd, EV, TY,  h0, h17, k1, ia1, ia2, ld1, ld2, st1, st2, tb3, tb4, tb5, tb6, ↓reduceIte, Nat.reduceEqDiff]; with_reducible rfl) ?_
    repeat (first | refine WS.adm rfl ?_ | refine WS.region (by simp only [EV, TY, h17, k1, ↓reduceIte, Nat.reduceEqDiff]; with_reducible rfl) ?_)
    refine ih P'.length _ _ (by simp) ⟨P', u :: Q, rfl, by simp, ?_, ?_, ?_, by simp⟩
    iterate 2 simp only [EV, h0, h14, ↓reduceIte, Nat.reduceEqDiff, AT]
    ·simp only [EV, ↓reduceIte, Nat.reduceEqDiff, AT]
     rw [show i + (P' ++ [u]).length - 1 = i + P'.length by simp]
 ·rintro j fr S' ⟨i, j', rfl, hai, hij, hjm, h0, h2, h4, h14, h15, rfl, hlo, hhi⟩ ih last
  by_cases hlt : i < j'
  ·have hlt' : ((i : Nat) : Int) < ((j' : Nat) : Int) := by omega
   have k1 := wa i j' (by omega)
   have k2 := mid1 (i + j') (by omega) T
   have k3 := fun l => mid2 (i + j') l
   have k4 := mid3 ((i + j') / 2) (by omega) T
   generalize hh : (i + j') / 2 = h at k3 k4
   have hhi' : i ≤ h ∧ h < j' := by omega
   have ia1 := cell_ia id C.length h (by omega)
   have ia2 := cell_ia id C.length m (by omega)
   have ld1 := cell_ld hT h (by omega)
   have ld2 := cell_ld hT m (by omega)
   rw [hy] at ld2
   have hc := hcmp T y (C.getD h im0)
   have hmono : ∀ k, a ≤ k → k ≤ h → ltA (C.getD h im0) (C.getD k im0) = false := fun k h1 h2 => by
    rw [show h = a + (h - a) by omega, show k = a + (k - a) by omega, hu _ (by omega), hu _ (by omega)]
    exact sorted_get hs (by omega) (by omega)
   have hmono2 : ∀ k, h ≤ k → k < m → ltA (C.getD k im0) (C.getD h im0) = false := fun k h1 h2 => by
    rw [show h = a + (h - a) by omega, show k = a + (k - a) by omega, hu _ (by omega), hu _ (by omega)]
    exact sorted_get hs (by omega) (by omega)
   generalize C.getD h im0 = z at ld1 hc hmono hmono2
   have hinc := wrap_inc h (by omega)
   repeat (first | refine WS.adm rfl ?_ | refine WS.region (by simp only [EV, TY, h14, h15, hlt', ↓reduceIte, Nat.reduceEqDiff]; with_reducible rfl) ?_)
   refine WS.ct0 ?_
   repeat (first | refine WS.adm rfl ?_ | refine WS.region (by simp only [EV, TY, h14, h15, k1, k2, k3, k4, ↓reduceIte, Nat.reduceEqDiff]; with_reducible rfl) ?_)
   by_cases hp : ltA y z = true
   ·have hneg : cmpZ y.1 z.1 < 0 := (cmpZ_neg _ _).2 hp
    refine WS.drawb (b := [0, 0, 0, 6, 14, 0, 0, 96, 224, 511, 1023, 2047]) (by kernel_rfl) (by simp only [DL, isEff, isRead, Nat.reduceAdd, EV, TY,  h0, h2, h4, ia1, ia2, ld1, ld2, hc, hneg, Bool.not_true, ↓reduceIte, Nat.reduceEqDiff]; with_reducible rfl) ?_
    refine WS.cf0 ?_
    repeat (first | refine WS.adm rfl ?_ | refine WS.r0 ?_)
    refine ih (h - i) _ _ (by omega) ⟨i, h, rfl, hai, by omega, by omega, ?_, ?_, ?_, ?_, ?_, rfl, hlo, fun k g1 g2 => ?_⟩
    iterate 5 simp only [EV, h0, h2, h4, h14, ↓reduceIte, Nat.reduceEqDiff, AT]
    ·exact lt_le_trans hp (hmono2 k g1 g2)
   ·have hp : ltA y z = false := by simpa using hp
    have hneg : ¬ cmpZ y.1 z.1 < 0 := fun g => by
     have := (cmpZ_neg _ _).1 g
     unfold ltA at hp
     rw [hp] at this; cases this
    refine WS.drawb (b := [0, 0, 0, 6, 14, 0, 0, 96, 224, 511, 1023, 2047]) (by kernel_rfl) (by simp only [DL, isEff, isRead, Nat.reduceAdd, EV, TY,  h0, h2, h4, ia1, ia2, ld1, ld2, hc, hneg, Bool.not_false, ↓reduceIte, Nat.reduceEqDiff]; with_reducible rfl) ?_
    refine WS.ct0 ?_
    repeat (first | refine WS.adm rfl ?_ | refine WS.region (by simp only [EV, TY, hinc, ↓reduceIte, Nat.reduceEqDiff]; with_reducible rfl) ?_)
    refine ih (j' - (h + 1)) _ _ (by omega) ⟨h + 1, j', rfl, by omega, by omega, hjm, ?_, ?_, ?_, ?_, ?_, rfl, fun k g1 g2 => ?_, hhi⟩
    iterate 5 simp only [EV, h0, h2, h4, h15, ↓reduceIte, Nat.reduceEqDiff, AT]
    ·exact le_le_trans (hmono k g1 (by omega)) hp
  ·have hlt' : ¬ ((i : Nat) : Int) < ((j' : Nat) : Int) := by omega
   repeat (first | refine WS.adm rfl ?_ | refine WS.region (by simp only [EV, TY, h14, h15, hlt', ↓reduceIte, Nat.reduceEqDiff]; with_reducible rfl) ?_)
   refine WS.cf0 ?_
   refine WS.exit rfl ?_
   have : i = j' := by omega
   subst this
   refine last _ _ ⟨i, hai, hjm, ?_, ?_, ?_, rfl, hlo, hhi⟩
   iterate 3 simp only [EV, h0, h2, h14, ↓reduceIte, Nat.reduceEqDiff, AT]
end Go.Proofs.YtmmjlgocihhkcaaGreatDoor.ImS
