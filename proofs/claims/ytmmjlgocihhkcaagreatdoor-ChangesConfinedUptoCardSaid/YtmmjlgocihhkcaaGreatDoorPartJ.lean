import Derived.Test.YtmmjlgocihhkcaaGreatDoorPartI
set_option linter.all false
namespace Go.Proofs.YtmmjlgocihhkcaaGreatDoor
open Go Go.Vm
set_option maxRecDepth 100000
set_option maxHeartbeats 8000000
theorem img_name {S : Store} {a u w : V} {q : List V} (h : At S a (u :: w :: q)) : ∃ a', opFieldAddr E0 52 a 0 = some a' ∧ opLoad E0 S 27 a' = some u := by
 obtain ⟨a', h1, h2⟩ := h.field (E := E0) (s := 52) (f := 0) (m := 0) Tryz.underlying52 rfl tsize_27
 exact ⟨a', h1, h2.load isAggO_27 rfl⟩
theorem img_attrs {S : Store} {a u w : V} {q : List V} (h : At S a (u :: w :: q)) : ∃ a', opFieldAddr E0 52 a 1 = some a' ∧ opLoad E0 S 50 a' = some w := by
 obtain ⟨a', h1, h2⟩ := h.field (E := E0) (s := 52) (f := 1) (m := 0) Tryz.underlying52 rfl tsize_50
 exact ⟨a', h1, h2.load isAggO_50 rfl⟩
theorem img_at {S : Store} {v : V} {l : List Img} (h : Arr 2 rImg S v l) (i : Nat) (hi : i < l.length) :
  ∃ a u w fa, opIndexAddr E0 31 v (.int .i64 (i : Int)) = some a ∧ opLoad E0 S 52 a = some (.agg [u, w]) ∧ opFieldAddr E0 52 a 0 = some fa ∧ opLoad E0 S 27 fa = some u ∧ pDn u l[i].1 ∧ pAttrs w l[i].2 := by
 obtain ⟨a, c, r, h1, h2, h3, u, w, rfl, h4, h5⟩ := h.at_ (E := E0) Tryz.underlying31 tsize_52 i hi
 obtain ⟨fa, f1, f2⟩ := img_name h2
 have := h2.loadA (E := E0) isAggO_52 tsize_52 (by simp)
 exact ⟨a, u, w, fa, h1, this, f1, f2, h4, h5⟩
theorem rImg_of {u w : V} {x : Img} (h : pDn u x.1) (g : pAttrs w x.2) : rImg [u, w] x := ⟨u, w, rfl, h, g⟩
theorem box_ld (S : Store) (t : TypeId) (a b : V) {u : TypeId} (hu : isAggO E0 u = some false) : opBox S t (.agg [a, b]) = some (.ref S.length 0, S ++ [.cells [a, b] t]) ∧ opLoad E0 (S ++ [.cells [a, b] t]) u (.ref S.length 0) = some a ∧ opLoad E0 (S ++ [.cells [a, b] t]) u (.ref S.length 1) = some b := by
 refine ⟨by simp [opBox, solid, vcells], var_ld1 hu (getS0 _) rfl, var_ld1 hu (getS0 _) rfl⟩
theorem key_ok {S : Store} {u w : V} {n : List (List Ava)} (hu : pDn u n) (fn : fitN n) : vrun E0 (.fn 30) [.agg [u, w]] S = some (.str (kofN n), S) := by
 refine fn_ws Tryz.func30 rfl ?_
 obtain ⟨b1, b2, _⟩ := box_ld S 52 u w isAggO_27
 have hk := keyOf_ok (hu.is (S ++ [.cells [u, w] 52])) fn
 repeat (first | refine WS.adm rfl ?_ | refine WS.region (by simp only [EV, TY, lget, b1, fa52_0, b2, callV_39, hk, ↓reduceIte, Nat.reduceEqDiff]; with_reducible rfl) ?_)
 refine WS.ret1s (t := 2) rfl rfl (List.prefix_append _ _) (frz_str _ _ _) ?_
 simp only [EV, ↓reduceIte, Nat.reduceEqDiff, AT]
def isFirst (M : List (List UInt8 × Int)) (l : List Img) : Prop := ∀ k, mget M k = (l.findIdx? fun x => decide (kofN x.1 = k)).map fun i => ((i : Nat) : Int)
theorem findIdx_snoc {α : Type} (p : α → Bool) (l : List α) (x : α) : (l ++ [x]).findIdx? p = match l.findIdx? p with | some i => some i | none => if p x then some l.length else none := by
 rw [List.findIdx?_append]
 cases l.findIdx? p with
 | some i => rfl
 | none => by_cases h : p x <;> simp [List.findIdx?_cons, h]
theorem isFirst.nil : isFirst [] [] := fun k => rfl
theorem isFirst.keep {M : List (List UInt8 × Int)} {l : List Img} {x : Img} (h : isFirst M l) (hx : (mget M (kofN x.1)).isSome = true) : isFirst M (l ++ [x]) := by
 intro k
 rw [h k, findIdx_snoc]
 cases hf : l.findIdx? fun y => decide (kofN y.1 = k) with
 | some i => rfl
 | none =>
  by_cases hk : kofN x.1 = k
  ·rw [h, hk, hf] at hx
   simp at hx
  ·simp [hk]
theorem isFirst.put {M : List (List UInt8 × Int)} {l : List Img} {x : Img} (h : isFirst M l) (hx : (mget M (kofN x.1)).isSome = false) : isFirst (mput M (kofN x.1) ((l.length : Nat) : Int)) (l ++ [x]) := by
 intro k
 rw [mget_put, findIdx_snoc]
 by_cases hk : k = kofN x.1
 ·subst hk
  rw [if_pos rfl]
  rw [h] at hx
  cases hf : l.findIdx? fun y => decide (kofN y.1 = kofN x.1) with
  | some i => rw [hf] at hx; simp at hx
  | none => simp
 ·rw [if_neg hk, h k]
  cases hf : l.findIdx? fun y => decide (kofN y.1 = k) with
  | some i => rfl
  | none => simp [show ¬ kofN x.1 = k from fun e => hk e.symm]
def oneN (n : List (List Ava)) (x : Img) : Bool := decide (normN x.1 = normN n)
def atI (l : List Img) (n : List (List Ava)) : Int := idxInt (l.findIdx? (oneN n))
theorem fi_step {α : Type} (p : α → Bool) {l : List α} {i : Nat} (hi : i < l.length) : ((l.drop i).findIdx? p).map (· + i) = if p l[i] then some i else ((l.drop (i + 1)).findIdx? p).map (· + (i + 1)) := by
 rw [List.drop_eq_getElem_cons hi, List.findIdx?_cons]
 cases p l[i] with
 | true => simp
 | false =>
  simp only [Bool.false_eq_true, if_false, Option.map_map]
  congr 1
  funext k
  simp only [Function.comp]
  omega
theorem At_ok {S : Store} {v w : V} {l : List Img} {n : List (List Ava)} (h : Arr 2 rImg S v l) (hw : pDn w n) (fl : fitL l) (on : okN n) : vrun E0 (.fn 21) [v, w] S = some (.int .i64 (atI l n), S) := by
 refine fn_ws Tryz.func21 rfl ?_
 have ln := h.len (E := E0) Tryz.underlying31
 repeat (first | refine WS.adm rfl ?_ | refine WS.rl ?_)
 refine WS.loopB (fun j fr U => ∃ i, j = l.length - i ∧ i ≤ l.length ∧ lget fr 0 = v ∧ lget fr 1 = w ∧ lget fr 5 = .int .i64 (i : Nat) ∧ U = S ∧ l.findIdx? (oneN n) = ((l.drop i).findIdx? (oneN n)).map (· + i))
  (fun fr U => U = S ∧ l.findIdx? (oneN n) = none) (j := l.length) ?_ ?_ ?_
 ·refine ⟨0, by omega, by omega, ?_, ?_, ?_, rfl, by simp⟩
  all_goals
   simp only [EV, lget, ↓reduceIte, Nat.reduceEqDiff, AT]
   try rfl
 ·rintro fr U ⟨rfl, hall⟩
  repeat (first | refine WS.adm rfl ?_ | refine WS.rl ?_)
  refine WS.ret1s (t := 4) rfl rfl (List.prefix_refl _) (frz_int _ _ _ _) ?_
  rw [atI, hall]
  simp only [EV, ↓reduceIte, Nat.reduceEqDiff, AT]
  rfl
 ·rintro j fr U ⟨i, rfl, hi, h0, h1, h5, rfl, hall⟩ ih last
  by_cases hlt : i < l.length
  ·have hlt' : ((i : Nat) : Int) < ((l.length : Nat) : Int) := by omega
   obtain ⟨a, u, z, fa, i1, i2, f1, f2, i3, i4⟩ := img_at h i hlt
   have fx := fl.at_ hlt
   have hs := refSame_ok (i3.is U) (hw.is U) fx.1.1 on
   rw [fi_step _ hlt] at hall
   have iinc := wrap_inc i (by have := fl.1; omega)
   repeat (first | refine WS.adm rfl ?_ | refine WS.region (by simp only [EV, TY, h0, h5, ln, hlt', ↓reduceIte, Nat.reduceEqDiff]; with_reducible rfl) ?_)
   refine WS.ct0 ?_
   by_cases he : normN l[i].1 = normN n
   ·rw [decide_eq_true he] at hs
    rw [show oneN n l[i] = true from decide_eq_true he, if_pos rfl] at hall
    repeat (first | refine WS.adm rfl ?_ | refine WS.region (by simp only [EV, TY, lget, h0, h1, h5, i1, f1, f2, callV_40, hs, ↓reduceIte, Nat.reduceEqDiff]; with_reducible rfl) ?_)
    refine WS.ct0 ?_
    repeat (first | refine WS.adm rfl ?_ | refine WS.region (by simp only [EV, TY, h5, ↓reduceIte, Nat.reduceEqDiff]; with_reducible rfl) ?_)
    refine WS.ret1s (t := 4) rfl rfl (List.prefix_refl _) (frz_int _ _ _ _) ?_
    rw [atI, hall]
    simp only [EV, h5, ↓reduceIte, Nat.reduceEqDiff, AT]
    rfl
   ·rw [decide_eq_false he] at hs
    rw [show oneN n l[i] = false from decide_eq_false he, if_neg (by decide)] at hall
    repeat (first | refine WS.adm rfl ?_ | refine WS.region (by simp only [EV, TY, lget, h0, h1, h5, i1, f1, f2, callV_40, hs, ↓reduceIte, Nat.reduceEqDiff]; with_reducible rfl) ?_)
    refine WS.cf0 ?_
    repeat (first | refine WS.adm rfl ?_ | refine WS.region (by simp only [EV, TY, h5, iinc, ↓reduceIte, Nat.reduceEqDiff]; with_reducible rfl) ?_)
    refine ih (l.length - (i + 1)) _ _ (by omega) ⟨i + 1, rfl, by omega, ?_, ?_, ?_, rfl, hall⟩
    iterate 3 simp only [EV, h0, h1, ↓reduceIte, Nat.reduceEqDiff, AT]
  ·have hlt' : ¬ ((i : Nat) : Int) < ((l.length : Nat) : Int) := by omega
   repeat (first | refine WS.adm rfl ?_ | refine WS.region (by simp only [EV, TY, h0, h5, ln, hlt', ↓reduceIte, Nat.reduceEqDiff]; with_reducible rfl) ?_)
   refine WS.cf0 ?_
   refine WS.exit rfl ?_
   have : i = l.length := by omega
   subst this
   rw [List.drop_length] at hall
   exact last _ _ ⟨rfl, hall⟩
abbrev Dlt := List (List (List Ava)) × List Img
def fitG (l : List (List (List Ava))) : Prop := l.length ≤ 1048576 ∧ ∀ n ∈ l, fitN n
instance decDlt : DecidableEq Dlt := fun a b => if h1 : a.1 = b.1 then (if h2 : a.2 = b.2 then isTrue (Prod.ext h1 h2) else isFalse fun e => h2 (by rw [e])) else isFalse fun e => h1 (by rw [e])
end Go.Proofs.YtmmjlgocihhkcaaGreatDoor
namespace Go.Proofs.YtmmjlgocihhkcaaGreatDoor.IgS
open Go Go.Vm Go.Proofs.YtmmjlgocihhkcaaGreatDoor
set_option maxRecDepth 100000
set_option maxHeartbeats 8000000
abbrev Kd := List UInt8 × Img
def ltA (a b : Kd) : Bool := lessB a.1 b.1
def Sorted (l : List Kd) : Prop := l.Pairwise fun a b => ltA b a = false
def insA (a : Kd) : List Kd → List Kd
 | [] => [a]
 | b :: l => if ltA a b = true then a :: b :: l else b :: insA a l
def srt (l : List Kd) : List Kd := l.foldl (fun acc a => insA a acc) []
theorem insA_mem (a x : Kd) : ∀ l, x ∈ insA a l ↔ x = a ∨ x ∈ l
 | [] => by simp [insA]
 | b :: l => by
  unfold insA
  split
  ·simp
  ·simp [insA_mem a x l]
   constructor
   ·rintro (h | h | h) <;> simp [h]
   ·rintro (h | h | h) <;> simp [h]
theorem insA_len (a : Kd) : ∀ l, (insA a l).length = l.length + 1
 | [] => rfl
 | b :: l => by
  unfold insA
  split
  ·rfl
  ·simp [insA_len a l]
theorem insA_sorted (a : Kd) : ∀ l, Sorted l → Sorted (insA a l)
 | [], _ => by simp [insA, Sorted]
 | b :: l, h => by
  have hb := List.pairwise_cons.1 h
  unfold insA
  split
  ·rename_i hlt
   refine List.pairwise_cons.2 ⟨fun x hx => ?_, h⟩
   rcases List.mem_cons.1 hx with rfl | hx
   ·exact less_asymm hlt
   ·exact le_trans' (less_asymm hlt) (hb.1 x hx)
  ·rename_i hlt
   refine List.pairwise_cons.2 ⟨fun x hx => ?_, insA_sorted a l hb.2⟩
   rcases (insA_mem a x l).1 hx with rfl | hx
   ·simpa using hlt
   ·exact hb.1 x hx
theorem srt_snoc (l : List Kd) (a : Kd) : srt (l ++ [a]) = insA a (srt l) := by
 simp [srt]
def StEq (l r : List Kd) : Prop := ∀ k, l.filter (fun x => x.1 == k) = r.filter (fun x => x.1 == k)
theorem StEq.refl (l : List Kd) : StEq l l := fun _ => rfl
theorem StEq.symm {l r : List Kd} (h : StEq l r) : StEq r l := fun k => (h k).symm
theorem StEq.trans {l r t : List Kd} (h : StEq l r) (g : StEq r t) : StEq l t := fun k => (h k).trans (g k)
theorem StEq.append {l r l' r' : List Kd} (h : StEq l l') (g : StEq r r') : StEq (l ++ r) (l' ++ r') := fun k => by
 rw [List.filter_append, List.filter_append, h k, g k]
theorem StEq.mem {l r : List Kd} (h : StEq l r) {x : Kd} (hx : x ∈ l) : x ∈ r := by
 have : x ∈ l.filter (fun y => y.1 == x.1) := List.mem_filter.2 ⟨hx, by simp⟩
 rw [h x.1] at this
 exact (List.mem_filter.1 this).1
theorem insA_steq (a : Kd) : ∀ l, Sorted l → StEq (insA a l) (l ++ [a])
 | [], _ => StEq.refl _
 | b :: l, h => by
  have hb := List.pairwise_cons.1 h
  intro k
  unfold insA
  split
  ·rename_i hlt
   have hall : ∀ x ∈ b :: l, ltA a x = true := by
    intro x hx
    rcases List.mem_cons.1 hx with rfl | hx
    ·exact hlt
    ·cases hax : lessB a.1 x.1 with
     | true => exact hax
     | false =>
      have h1 : lessB x.1 b.1 = false := hb.1 x hx
      have h2 : lessB x.1 a.1 = true ∨ x.1 = a.1 := by
       cases hxa : lessB x.1 a.1 with
       | true => exact .inl rfl
       | false => exact .inr (less_total hxa hax)
      rcases h2 with h2 | h2
      ·rw [less_trans h2 hlt] at h1; cases h1
      ·rw [h2, show lessB a.1 b.1 = true from hlt] at h1; cases h1
   by_cases hk : a.1 = k
   ·have hn : (b :: l).filter (fun x => x.1 == k) = [] := by
     rw [List.filter_eq_nil_iff]
     intro x hx
     have h1 := hall x hx
     intro he
     have he : x.1 = k := by simpa using he
     unfold ltA at h1
     rw [hk, he, less_irrefl] at h1
     cases h1
    rw [List.filter_append, hn, List.filter_cons]
    rw [if_pos (by simpa using hk), hn]
    simp [hk]
   ·rw [List.filter_append, List.filter_cons]
    have : (a.1 == k) = false := by simpa using hk
    simp [this]
  ·have := insA_steq a l hb.2 k
   rw [List.cons_append, List.filter_cons, List.filter_cons, this]
theorem fold_sorted : ∀ (l acc : List Kd), Sorted acc → Sorted (l.foldl (fun acc a => insA a acc) acc)
 | [], acc, h => h
 | a :: l, acc, h => fold_sorted l _ (insA_sorted a acc h)
theorem fold_steq : ∀ (l acc : List Kd), Sorted acc → StEq (l.foldl (fun acc a => insA a acc) acc) (acc ++ l)
 | [], acc, h => by rw [List.append_nil]; exact StEq.refl _
 | a :: l, acc, h => by
  have := fold_steq l _ (insA_sorted a acc h)
  refine StEq.trans this ?_
  rw [show acc ++ a :: l = (acc ++ [a]) ++ l by simp]
  exact StEq.append (insA_steq a acc h) (StEq.refl _)
theorem srt_sorted (l : List Kd) : Sorted (srt l) := fold_sorted l [] List.Pairwise.nil
theorem srt_steq (l : List Kd) : StEq (srt l) l := fold_steq l [] List.Pairwise.nil
theorem srt_len (l : List Kd) : (srt l).length = l.length := by
 have : ∀ (l acc : List Kd), (l.foldl (fun acc a => insA a acc) acc).length = acc.length + l.length := by
  intro l
  induction l with
  | nil => intro acc; simp
  | cons a l ih => intro acc; rw [List.foldl_cons, ih, insA_len]; simp; omega
 have h := this l []
 simpa [srt] using h
theorem srt_mem {l : List Kd} {x : Kd} : x ∈ srt l ↔ x ∈ l := ⟨(srt_steq l).mem, (srt_steq l).symm.mem⟩
theorem sorted_unique : ∀ {l r : List Kd}, Sorted l → Sorted r → StEq l r → l = r
 | [], [], _, _, _ => rfl
 | [], b :: r, _, _, h => absurd (h.symm.mem (x := b) (by simp)) (by simp)
 | a :: l, [], _, _, h => absurd (h.mem (x := a) (by simp)) (by simp)
 | a :: l, b :: r, hl, hr, h => by
  have h1 := List.pairwise_cons.1 hl
  have h2 := List.pairwise_cons.1 hr
  have e1 : lessB b.1 a.1 = false := by
   rcases List.mem_cons.1 (h.symm.mem (x := b) (by simp)) with rfl | hx
   ·exact less_irrefl _
   ·exact h1.1 b hx
  have e2 : lessB a.1 b.1 = false := by
   rcases List.mem_cons.1 (h.mem (x := a) (by simp)) with rfl | hx
   ·exact less_irrefl _
   ·exact h2.1 a hx
  have ek := less_total e1 e2
  have hk := h a.1
  rw [List.filter_cons, List.filter_cons, if_pos (by simp), if_pos (by simpa using ek)] at hk
  injection hk with hab hk'
  subst hab
  have : StEq l r := fun k => by
   have := h k
   rw [List.filter_cons, List.filter_cons] at this
   split at this
   ·injection this
   ·exact this
  rw [sorted_unique h1.2 h2.2 this]
theorem srt_of_sorted {l : List Kd} (h : Sorted l) : srt l = l := sorted_unique (srt_sorted l) h (srt_steq l)
theorem ins_split (a : Kd) : ∀ (p1 p2 : List Kd), Sorted (p1 ++ p2) → (∀ x ∈ p2, ltA a x = true) → (∀ y, p1.getLast? = some y → ltA a y = false) → insA a (p1 ++ p2) = p1 ++ a :: p2
 | [], [], _, _, _ => rfl
 | [], b :: p2, _, h, _ => by
  show insA a (b :: p2) = _
  unfold insA
  rw [if_pos (h b (by simp))]
  rfl
 | b :: p1, p2, hs, h, hl => by
  have hb := List.pairwise_cons.1 hs
  have hab : ltA a b = false := by
   cases hq : p1.getLast? with
   | none =>
    have : p1 = [] := List.getLast?_eq_none_iff.1 hq
    subst this
    exact hl b rfl
   | some y =>
    have h1 := hl y (by rw [List.getLast?_cons, hq]; rfl)
    have h2 := hb.1 y (List.mem_append_left _ (List.mem_of_getLast? hq))
    exact le_trans' h2 h1 |> fun x => by
     unfold ltA at *
     cases hab : lessB a.1 b.1 with
     | false => rfl
     | true =>
      cases hyb : lessB b.1 y.1 with
      | true => rw [less_trans hab hyb] at h1; cases h1
      | false =>
       have := less_total hyb h2
       rw [this] at hab
       rw [hab] at h1; cases h1
  show insA a (b :: (p1 ++ p2)) = _
  unfold insA
  rw [if_neg (by rw [hab]; simp), ins_split a p1 p2 hb.2 h (fun y hy => hl y (by rw [List.getLast?_cons, hy]; rfl))]
  rfl
end Go.Proofs.YtmmjlgocihhkcaaGreatDoor.IgS
