import Derived.Test.YtmmjlgocihhkcaaGreatDoorPartT
import Derived.Test.YtmmjlgocihhkcaaGreatDoorPartO
set_option linter.all false
namespace Go.Proofs.YtmmjlgocihhkcaaGreatDoor
open Go Go.Vm
set_option maxRecDepth 100000
set_option maxHeartbeats 8000000
def strip (gt : List (List UInt8)) (x : Img) : Img := (x.1, x.2.filter fun a => inT gt a.1)
theorem permP_strip (s : SchD) (gt : List (List UInt8)) (a : List Attr) : permP s gt (a.filter fun t => inT gt t.1) = permP s gt a := by
 unfold permP
 rw [List.filter_filter]
 refine List.filter_congr fun x _ => ?_
 unfold hasA
 cases typ s x.1 with
 | none => simp
 | some t => cases inT gt x.1 <;> simp
theorem viewU_congr {s : SchD} {g : Agr} {l m : List Img} : ∀ i, (∀ k, k < i → pick1 s g l k = pick1 s g m k) → viewU s g l i = viewU s g m i
 | 0, _ => by simp [viewU]
 | i + 1, h => by
  rw [viewU_succ, viewU_succ, viewU_congr i (fun k hk => h k (by omega)), h i (by omega)]
theorem viewU_more {s : SchD} {g : Agr} {l : List Img} {n : Nat} : ∀ d, (∀ k, n ≤ k → k < n + d → pick1 s g l k = []) → viewU s g l (n + d) = viewU s g l n
 | 0, _ => rfl
 | d + 1, h => by
  rw [← Nat.add_assoc, viewU_succ, viewU_more d (fun k h1 h2 => h k h1 (by omega)), h (n + d) (by omega) (by omega), List.append_nil]
theorem view_confined {s : SchD} {g : Agr} {l more : List Img} (hm : ∀ x ∈ more, underB x.1 g.1 = false) : viewP s g (l.map (strip g.2) ++ more) = viewP s g l := by
 unfold viewP
 congr 1
 rw [List.length_append, List.length_map, viewU_more, viewU_congr (m := l)]
 ·intro k hk
  unfold pick1
  rw [List.getElem?_append_left (by simpa using hk), List.getElem?_map, List.getElem?_eq_getElem hk]
  obtain ⟨j, hj⟩ := self_at hk
  have ha : atI (l.map (strip g.2) ++ more) l[k].1 = atI l l[k].1 := by
   unfold atI
   rw [List.findIdx?_append, List.findIdx?_map, show oneN l[k].1 ∘ strip g.2 = oneN l[k].1 from rfl, hj]
   rfl
  show (if decide (atI (l.map (strip g.2) ++ more) l[k].1 = ((k : Nat) : Int)) && underB l[k].1 g.1 then [(l[k].1, permP s g.2 (l[k].2.filter fun t => inT g.2 t.1))] else []) = _
  rw [ha, permP_strip]
 ·intro k h1 h2
  unfold pick1
  rw [List.getElem?_append_right (by simpa using h1), List.length_map, List.getElem?_eq_getElem (by omega)]
  show (if decide _ && underB (more[k - l.length]'(by omega)).1 g.1 then _ else _) = _
  rw [hm _ (List.getElem_mem _), Bool.and_false]
  rfl
theorem one_kd {l : List IgS.Kd} (h : l.Pairwise fun x y => x.1 ≠ y.1) (k : List UInt8) : (l.filter fun x => x.1 == k).length ≤ 1 := by
 have hp : (l.filter fun x => x.1 == k).Pairwise fun x y => x.1 ≠ y.1 := h.sublist (List.filter_sublist)
 match hf : l.filter fun x => x.1 == k with
 | [] => simp [hf]
 | [a] => simp [hf]
 | a :: b :: c =>
  rw [hf] at hp
  have h1 := (List.pairwise_cons.1 hp).1 b (by simp)
  have ha : a ∈ l.filter fun x => x.1 == k := by rw [hf]; simp
  have hb : b ∈ l.filter fun x => x.1 == k := by rw [hf]; simp
  have h2 := (List.mem_filter.1 ha).2
  have h3 := (List.mem_filter.1 hb).2
  simp only [beq_iff_eq] at h2 h3
  exact absurd (h2.trans h3.symm) h1
theorem perm_short {α : Type} {a b : List α} (p : a.Perm b) (h : a.length ≤ 1) : a = b := by
 match a, p, h with
 | [], p, _ => exact (List.Perm.nil_eq p)
 | [x], p, _ => exact (List.perm_singleton.1 p.symm).symm
theorem sort_perm_eq {l r : List Img} (p : l.Perm r) (h : l.Pairwise fun x y => keyS x.1 ≠ keyS y.1) : sortP l = sortP r := by
 unfold sortP
 congr 1
 refine IgS.sorted_unique (IgS.srt_sorted _) (IgS.srt_sorted _) ((IgS.srt_steq _).trans (IgS.StEq.trans ?_ (IgS.srt_steq _).symm))
 intro k
 refine perm_short ((p.map tagK).filter _) (one_kd ?_ k)
 rw [List.pairwise_map]
 exact h
theorem Unl.keys {l : List Img} (h : Unl l) (hk : ∀ x ∈ l, ∀ y ∈ l, keyS x.1 = keyS y.1 → normN x.1 = normN y.1) : l.Pairwise fun x y => keyS x.1 ≠ keyS y.1 := by
 refine List.Pairwise.imp_of_mem ?_ h
 intro x y hx hy hxy he
 exact hxy (hk x hx y hy he)
theorem view_rev {s : SchD} {g : Agr} {l : List Img} (hu : Unl l) (hk : ∀ x ∈ l, ∀ y ∈ l, keyS x.1 = keyS y.1 → normN x.1 = normN y.1) : viewP s g l = viewP s g l.reverse := by
 rw [view_unl hu, view_unl (hu.perm (List.reverse_perm l).symm)]
 refine sort_perm_eq ?_ ?_
 ·exact ((List.reverse_perm l).symm.filter _).map _
 ·rw [List.pairwise_map]
  exact (hu.keys hk).sublist List.filter_sublist
theorem Unl.eq {l : List Img} (h : Unl l) {x y : Img} (hx : x ∈ l) (hy : y ∈ l) (he : normN x.1 = normN y.1) : x = y := by
 obtain ⟨i, hi, rfl⟩ := List.getElem_of_mem hx
 obtain ⟨j, hj, rfl⟩ := List.getElem_of_mem hy
 rcases Nat.lt_trichotomy i j with h1 | h1 | h1
 ·exact absurd he (List.pairwise_iff_getElem.1 h i j hi hj h1)
 ·subst h1; rfl
 ·exact absurd he.symm (List.pairwise_iff_getElem.1 h j i hj hi h1)
theorem Unl.nodup {l : List Img} (h : Unl l) : l.Nodup := List.Pairwise.imp (fun {x y} hxy he => hxy (by rw [he])) h
end Go.Proofs.YtmmjlgocihhkcaaGreatDoor
