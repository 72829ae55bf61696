import Derived.Test.YtmmjlgocihhkcaaGreatDoorPartM
import Derived.Test.YtmmjlgocihhkcaaGreatDoorPartL
import Derived.Test.YtmmjlgocihhkcaaGreatDoorPartJ
set_option linter.all false
namespace Go.Proofs.YtmmjlgocihhkcaaGreatDoor
open Go Go.Vm
set_option maxRecDepth 100000
set_option maxHeartbeats 8000000
def tagK (x : Img) : IgS.Kd := (keyS x.1, x)
def sortP (l : List Img) : List Img := (IgS.srt (l.map tagK)).map (·.2)
def kd (a : ImS.Im) : IgS.Kd := (a.k, a.d)
theorem ins_kd (a : ImS.Im) : ∀ l : List ImS.Im, (ImS.insA a l).map kd = IgS.insA (kd a) (l.map kd)
 | [] => rfl
 | b :: l => by
  have ih := ins_kd a l
  unfold ImS.insA IgS.insA
  simp only [List.map_cons]
  have : ImS.ltA a b = IgS.ltA (kd a) (kd b) := rfl
  rw [this]
  split
  ·rfl
  ·simp [ih]
theorem srt_kd_aux : ∀ (l acc : List ImS.Im), (l.foldl (fun acc a => ImS.insA a acc) acc).map kd = (l.map kd).foldl (fun acc a => IgS.insA a acc) (acc.map kd)
 | [], acc => rfl
 | a :: l, acc => by
  rw [List.foldl_cons, List.map_cons, List.foldl_cons, srt_kd_aux l, ins_kd]
theorem srt_kd (l : List ImS.Im) : (ImS.srt l).map kd = IgS.srt (l.map kd) := srt_kd_aux l []
theorem kd_tag (l : List ImS.Im) : l.map kd = (l.map (·.d)).map tagK := by
 rw [List.map_map]
 refine List.map_congr_left fun a _ => ?_
 show (a.k, a.d) = (keyS a.d.1, a.d)
 rw [a.hk]
theorem sort_im (L : List ImS.Im) : (ImS.srt L).map (·.d) = sortP (L.map (·.d)) := by
 unfold sortP
 rw [← kd_tag, ← srt_kd, List.map_map]
 rfl
theorem im_of : ∀ {l : List Img} {cs : List V}, Cs 2 rImg cs l → (∀ x ∈ l, fitI x) → ∃ L : List ImS.Im, cs = ImS.fl L ∧ L.map (·.d) = l
 | [], cs, h, _ => ⟨[], h, rfl⟩
 | x :: l, cs, ⟨c, r, e, _, ⟨u, w, ec, hu, hw⟩, hr⟩, hf => by
  obtain ⟨L, e1, e2⟩ := im_of hr fun y hy => hf y (by simp [hy])
  refine ⟨⟨keyS x.1, u, w, x, hu, hw, (hf x (by simp)).1, rfl⟩ :: L, ?_, by simp [e2]⟩
  rw [e, ec, e1]
  rfl
theorem im_cs : ∀ L : List ImS.Im, Cs 2 rImg (ImS.fl L) (L.map (·.d))
 | [] => rfl
 | a :: L => ⟨[a.x, a.y], ImS.fl L, rfl, rfl, ⟨a.x, a.y, rfl, a.hx, a.hy⟩, im_cs L⟩
theorem sorted1_ok (T : Store) (a b : ImS.Im) : vrun E0 (.fn 69) [.agg [a.x, a.y], .agg [b.x, b.y]] T = some (.int .i64 (cmpZ a.k b.k), T) := by
 refine fn_ws Tryz.func69 rfl ?_
 obtain ⟨b1, b2⟩ := two_box T 52 a.x a.y b.x b.y
 obtain ⟨l1, _, l3, _⟩ := two_ld T 52 a.x a.y b.x b.y isAggO_27
 have hpre : T <+: T ++ [Ob.cells [a.x, a.y] 52, Ob.cells [b.x, b.y] 52] := List.prefix_append _ _
 generalize T ++ [Ob.cells [a.x, a.y] 52, Ob.cells [b.x, b.y] 52] = U at *
 have l1c := l1
 have l3c := l3
 rw [ld_ref isAggO_27] at l1c l3c
 have k1 := Key_ok (a.hx.is U) a.fit
 have k2 := Key_ok (b.hx.is U) b.fit
 have hc := Compare_ok (keyS a.d.1) (keyS b.d.1) U
 rw [a.hk, b.hk]
 repeat (first | refine WS.adm rfl ?_ | refine WS.region (by simp only [EV, TY, lget, b1, b2, ↓reduceIte, Nat.reduceEqDiff]; with_reducible rfl) ?_)
 refine WS.draw (by simp only [DL, isEff, isRead, EV, TY, lget, fa52_0, l1, l3, l1c, l3c, callV_71, k1, k2, callV_70, hc, ↓reduceIte, Nat.reduceEqDiff]; with_reducible rfl) ?_
 repeat refine WS.adm rfl ?_
 refine WS.ret1s (t := 4) rfl rfl hpre (frz_int _ _ _ _) ?_
 simp only [EV, ↓reduceIte, Nat.reduceEqDiff, AT]
theorem cmp69 : ImS.CmpOk (.fn (.func 69) [] []) := fun T a b => by
 rw [callV_69]
 exact sorted1_ok T a b
theorem sorted_ok {n0 : Nat} {T : Store} {v : V} {l : List Img} (h : Lst n0 52 2 rImg T v l) (hn : n0 ≤ T.length) (fl : fitL l) : ∃ T', vrun E0 (.fn 33) [v] T = some (v, T') ∧ Lst n0 52 2 rImg T' v (sortP l) ∧ Low n0 T T' := by
 rcases h with ⟨rfl, rfl⟩ | ⟨p, cs, p1, rfl, p2, p3⟩
 ·refine ⟨T, ?_, .inl ⟨rfl, rfl⟩, Low.refl hn⟩
  refine fn_ws Tryz.func33 rfl ?_
  have hs := ImS.sortN_ok T (.fn (.func 69) [] [])
  repeat (first | refine WS.adm rfl ?_ | refine WS.region (by simp only [EV, TY, lget, callV_68, hs, ↓reduceIte, Nat.reduceEqDiff]; with_reducible rfl) ?_)
  refine ret1k (t := 2) rfl rfl ?_
  simp only [EV, ↓reduceIte, Nat.reduceEqDiff, AT]
 ·obtain ⟨L, rfl, e2⟩ := im_of p3 fl.2
  have hL : L.length = l.length := by rw [← e2, List.length_map]
  have hs := ImS.sortOk_all L.length (by have := fl.1; omega) T p L p2 rfl _ cmp69
  rw [hL] at hs
  have hlen : (sortP l).length = l.length := by rw [← e2, ← sort_im, List.length_map, List.length_map, ImS.srt_len]
  refine ⟨T.set p (.cells (ImS.fl (ImS.srt L)) 52), ?_, .inr ⟨p, ImS.fl (ImS.srt L), p1, by rw [hlen], by simp [lt_of_get p2], by rw [← e2, ← sort_im]; exact im_cs _⟩, Low.set hn p1⟩
  refine fn_ws Tryz.func33 rfl ?_
  repeat (first | refine WS.adm rfl ?_ | refine WS.region (by simp only [EV, TY, lget, callV_68, hs, ↓reduceIte, Nat.reduceEqDiff]; with_reducible rfl) ?_)
  refine ret1k (t := 2) rfl rfl ?_
  simp only [EV, ↓reduceIte, Nat.reduceEqDiff, AT]
def goneB (gl : List (List (List Ava))) (x : Img) : Bool := gl.any fun n => decide (normN x.1 = normN n)
def isGone (G : List (List UInt8 × Int)) (gl : List (List (List Ava))) : Prop := ∀ k, (mget G k).isSome = gl.any fun n => decide (kofN n = k)
theorem isGone.put {G : List (List UInt8 × Int)} {gl : List (List (List Ava))} (h : isGone G gl) (n : List (List Ava)) (v : Int) : isGone (mput G (kofN n) v) (gl ++ [n]) := by
 intro k
 rw [mget_put, List.any_append]
 by_cases hk : k = kofN n
 ·subst hk; simp
 ·rw [if_neg hk, h k]
  simp [show ¬ kofN n = k from fun e => hk e.symm]
theorem isGone.at_ {G : List (List UInt8 × Int)} {gl : List (List (List Ava))} (h : isGone G gl) {x : Img} (fg : fitG gl) (on : okN x.1) : (mget G (kofN x.1)).isSome = goneB gl x := by
 rw [h]
 unfold goneB
 have hf := fg.2
 clear fg h
 induction gl with
 | nil => rfl
 | cons n gl ih =>
  rw [List.any_cons, List.any_cons, ih fun m hm => hf m (by simp [hm])]
  have : decide (kofN n = kofN x.1) = decide (normN x.1 = normN n) := by
   rw [decide_eq_decide, kof_iff (hf n (by simp)).1 on]
   exact eq_comm
  rw [this]
theorem isFirst.set {M : List (List UInt8 × Int)} {l : List Img} (h : isFirst M l) {i : Nat} {x : Img} (hi : i < l.length) (hk : kofN l[i].1 = kofN x.1) : isFirst M (l.set i x) := by
 intro k
 rw [h k]
 have e1 : ∀ m : List Img, (m.findIdx? fun y => decide (kofN y.1 = k)) = (m.map fun y => kofN y.1).findIdx? fun s => decide (s = k) := fun m => by
  rw [List.findIdx?_map]; rfl
 have e2 : (l.set i x).map (fun y => kofN y.1) = l.map fun y => kofN y.1 := by
  rw [List.map_set]
  have : (l.map fun y => kofN y.1)[i]? = some (kofN x.1) := by simp [hi, hk]
  apply List.ext_getElem?
  intro j
  by_cases hj : i = j
  ·subst hj
   rw [List.getElem?_set_self (by simpa using hi), this]
  ·rw [List.getElem?_set_ne hj]
 rw [e1, e1, e2]
end Go.Proofs.YtmmjlgocihhkcaaGreatDoor
