import Derived.Test.YtmmjlgocihhkcaaGreatDoorPartJ
set_option linter.all false
namespace Go.Proofs.YtmmjlgocihhkcaaGreatDoor
open Go Go.Vm
set_option maxRecDepth 100000
set_option maxHeartbeats 8000000
theorem okN.smallR {n : List (List Ava)} (h : okN n) : ∀ r ∈ n, smallR r := fun r hr => ⟨by have := (h.2 r hr).1; omega, fun a ha => ⟨by have := ((h.2 r hr).2 a ha).1; omega, by have := ((h.2 r hr).2 a ha).2; omega⟩⟩
theorem kof_iff {n m : List (List Ava)} (hn : okN n) (hm : okN m) : kofN n = kofN m ↔ normN n = normN m := ⟨fun h => kofT_inj (normN_ok hn).smallR (normN_ok hm).smallR h, fun h => by unfold kofN; rw [h]⟩
theorem fi_kof {l : List Img} {n : List (List Ava)} (fl : fitL l) (on : okN n) : (l.findIdx? fun x => decide (kofN x.1 = kofN n)) = l.findIdx? (oneN n) := by
 have h := fl.2
 clear fl
 induction l with
 | nil => rfl
 | cons x l ih =>
  rw [List.findIdx?_cons, List.findIdx?_cons, ih fun y hy => h y (by simp [hy])]
  have : decide (kofN x.1 = kofN n) = oneN n x := by
   unfold oneN
   rw [decide_eq_decide]
   exact kof_iff (h x (by simp)).1.1 on
  rw [this]
theorem isFirst.at_ {M : List (List UInt8 × Int)} {l : List Img} (h : isFirst M l) {n : List (List Ava)} (fl : fitL l) (on : okN n) : mget M (kofN n) = (l.findIdx? (oneN n)).map fun i => ((i : Nat) : Int) := by rw [h, fi_kof fl on]
def inL (l : List Img) (n : List (List Ava)) : Bool := (l.findIdx? (oneN n)).isSome
theorem filter_snoc {α : Type} (p : α → Bool) (l : List α) (x : α) : (l ++ [x]).filter p = if p x then l.filter p ++ [x] else l.filter p := by
 rw [List.filter_append]
 by_cases h : p x <;> simp [h]
theorem Oth.here {p n : Nat} {T : Store} (hn : n ≤ T.length) (o : Ob) : Oth p n T (T.set p o) := ⟨by simpa using hn, fun q _ b => List.getElem?_set_ne (Ne.symm b)⟩
theorem lst_oth {α : Type} {p n0 n : Nat} {e : TypeId} {z : Nat} {R : List V → α → Prop} {T U : Store} {v : V} {l : List α} (h : Lst n0 e z R T v l) (hp : p < n0) (ho : Oth p n T U) (hn : T.length ≤ n) : Lst n0 e z R U v l := by
 rcases h with h | ⟨q, cs, h1, h2, h3, h4⟩
 ·exact .inl h
 ·exact .inr ⟨q, cs, h1, h2, by rw [ho.2 q (by have := lt_of_get h3; omega) (by omega)]; exact h3, h4⟩
theorem lst_shape {α : Type} {n0 : Nat} {e : TypeId} {z : Nat} {R : List V → α → Prop} {T : Store} {v : V} {l : List α} (h : Lst n0 e z R T v l) : solid v = true ∧ vcells v = [v] := by
 rcases h with ⟨_, rfl⟩ | ⟨q, cs, _, rfl, _⟩ <;> exact ⟨rfl, rfl⟩
theorem at_pos {l : List Img} {n : List (List Ava)} (h : inL l n = true) : ¬ atI l n < 0 := by
 unfold inL at h
 unfold atI
 cases hq : l.findIdx? (oneN n) with
 | none => rw [hq] at h; cases h
 | some i => simp [idxInt]
theorem at_some {l : List Img} {n : List (List Ava)} {i : Nat} (h : l.findIdx? (oneN n) = some i) : atI l n = ((i : Nat) : Int) := by unfold atI; rw [h]; rfl
end Go.Proofs.YtmmjlgocihhkcaaGreatDoor
