import Derived.Test.YtmmjlgocihhkcaaGreatDoorVmG
import Derived.Test.YtmmjlgocihhkcaaGreatDoorPartJ
import Derived.Test.YtmmjlgocihhkcaaGreatDoorRows
set_option linter.all false
namespace Go.Proofs.YtmmjlgocihhkcaaGreatDoor
open Go Go.Vm
set_option maxRecDepth 100000
theorem bulkOk (H : Type) : Bulk H Rows.uptoBulk Rows.uptoBulkAll where
 nil := by simp [Rows.uptoBulkAll]
 cons := fun d l => by simp [Rows.uptoBulkAll]
 str := fun s => by simp [Rows.uptoBulk]
 agg := fun l => by simp [Rows.uptoBulk]
 sl := fun l r => by
  have pos : ∀ d : DataW H, 1 ≤ Rows.uptoBulk d := fun d => by
   cases d with
   | lit l => cases l <;> simp [Rows.uptoBulk]
   | _ => simp [Rows.uptoBulk]
  have : l.length ≤ Rows.uptoBulkAll l := by
   induction l with
   | nil => simp
   | cons d l ih => have := pos d; simp only [Rows.uptoBulkAll, List.length_cons]; omega
  simp only [Rows.uptoBulk]
  omega
 pos := fun d => by
  cases d with
  | lit l => cases l <;> simp [Rows.uptoBulk]
  | _ => simp [Rows.uptoBulk]
theorem sum_ge {α : Type} (g : α → Nat) : ∀ (l : List α), l.length ≤ (l.map fun a => max 1 (g a)).sum ∧ ∀ a ∈ l, g a ≤ (l.map fun a => max 1 (g a)).sum
 | [] => ⟨Nat.le_refl _, fun a h => by simp at h⟩
 | a :: l => by
  obtain ⟨h1, h2⟩ := sum_ge g l
  simp only [List.map_cons, List.sum_cons, List.length_cons]
  refine ⟨by omega, fun b hb => ?_⟩
  rcases List.mem_cons.1 hb with rfl | hb
  ·omega
  ·have := h2 b hb; omega
theorem cells96 : Tryz.prog.cellsOf 96 = 2 := by kernel_rfl
theorem cells98 : Tryz.prog.cellsOf 98 = 1 := by kernel_rfl
theorem cells27 : Tryz.prog.cellsOf 27 = 1 := by kernel_rfl
theorem cells9 : Tryz.prog.cellsOf 9 = 1 := by kernel_rfl
theorem cells28 : Tryz.prog.cellsOf 28 = 1 := by kernel_rfl
theorem cells50 : Tryz.prog.cellsOf 50 = 1 := by kernel_rfl
theorem cells31 : Tryz.prog.cellsOf 31 = 1 := by kernel_rfl
theorem cells41 : Tryz.prog.cellsOf 41 = 1 := by kernel_rfl
theorem cells55 : Tryz.prog.cellsOf 55 = 2 := by kernel_rfl
theorem cells52 : Tryz.prog.cellsOf 52 = 2 := by kernel_rfl
theorem cells43 : Tryz.prog.cellsOf 43 = 2 := by kernel_rfl
theorem opn_two {t t1 t2 : TypeId} {fs : Array Field} {α β : Type} {f1 : α → List V} {g1 : α → Nat} {f2 : β → List V} {g2 : β → Nat} (ht : Tryz.prog.underlying t = some (.struct fs)) (hc : Tryz.prog.cellsOf t = 2) {a b : Field} (hfs : fs.toList = [a, b])
  (ha : a.offset = 0) (ha' : a.type = t1) (hb : b.offset = 1) (hb' : b.type = t2) (h1 : Opn Tryz.prog t1 f1 g1) (h2 : Opn Tryz.prog t2 f2 g2) (c1 : Tryz.prog.cellsOf t1 = 1) (c2 : Tryz.prog.cellsOf t2 = 1) :
  Opn Tryz.prog t (fun x : α × (β × Unit) => f1 x.1 ++ (f2 x.2.1 ++ [])) (fun x => g1 x.1 + (g2 x.2.1 + 0)) := by
 subst ha' hb'
 refine Opn.struct ht ?_
 rw [hc, hfs]
 exact OpnF.cons (c := 1) ha c1 h1 (OpnF.cons (c := 1) (by rw [hb]) c2 h2 OpnF.nil)
abbrev AvaT := List UInt8 × (List UInt8 × Unit)
abbrev RdnT := Option (List AvaT)
abbrev DnT := Option (List RdnT)
abbrev StrsT := Option (List (List UInt8))
abbrev AttrT := List UInt8 × (StrsT × Unit)
abbrev AttrsT := Option (List AttrT)
abbrev ImgT := DnT × (AttrsT × Unit)
abbrev ImgsT := Option (List ImgT)
abbrev DnsT := Option (List DnT)
abbrev DltT := DnsT × (ImgsT × Unit)
def f9 (s : List UInt8) : List V := [.str s]
def g9 (s : List UInt8) : Nat := s.length
def f96 (a : AvaT) : List V := f9 a.1 ++ (f9 a.2.1 ++ [])
def g96 (a : AvaT) : Nat := g9 a.1 + (g9 a.2.1 + 0)
def f55 (a : AttrT) : List V := f9 a.1 ++ (slV f9 a.2.1 ++ [])
def g55 (a : AttrT) : Nat := g9 a.1 + (slG g9 a.2.1 + 0)
def f52 (a : ImgT) : List V := slV (slV f96) a.1 ++ (slV f55 a.2.1 ++ [])
def g52 (a : ImgT) : Nat := slG (slG g96) a.1 + (slG g55 a.2.1 + 0)
def f43 (a : DltT) : List V := slV (slV (slV f96)) a.1 ++ (slV f52 a.2.1 ++ [])
def g43 (a : DltT) : Nat := slG (slG (slG g96)) a.1 + (slG g52 a.2.1 + 0)
theorem slV_len {α : Type} (f : α → List V) (n : Option (List α)) : (slV f n).length = 1 := by cases n <;> rfl
theorem opn9 : Opn Tryz.prog 9 f9 g9 := Opn.string Tryz.underlying9
theorem opn96 : Opn Tryz.prog 96 f96 g96 := opn_two Tryz.underlying96 cells96 rfl rfl rfl rfl rfl opn9 opn9 cells9 cells9
theorem opn98 : Opn Tryz.prog 98 (slV f96) (slG g96) := Opn.slice Tryz.underlying98 cells96 (by omega) (fun a => rfl) opn96
theorem opn27 : Opn Tryz.prog 27 (slV (slV f96)) (slG (slG g96)) := Opn.slice Tryz.underlying27 cells98 (by omega) (slV_len _) opn98
theorem opn28 : Opn Tryz.prog 28 (slV f9) (slG g9) := Opn.slice Tryz.underlying28 cells9 (by omega) (fun a => rfl) opn9
theorem opn55 : Opn Tryz.prog 55 f55 g55 := opn_two Tryz.underlying55 cells55 rfl rfl rfl rfl rfl opn9 opn28 cells9 cells28
theorem opn50 : Opn Tryz.prog 50 (slV f55) (slG g55) := Opn.slice Tryz.underlying50 cells55 (by omega) (fun a => by show (f9 a.1 ++ (slV f9 a.2.1 ++ [])).length = 2; rw [List.length_append, List.length_append, slV_len]; rfl) opn55
theorem opn52 : Opn Tryz.prog 52 f52 g52 := opn_two Tryz.underlying52 cells52 rfl rfl rfl rfl rfl opn27 opn50 cells27 cells50
theorem f52_len (a : ImgT) : (f52 a).length = 2 := by show (slV (slV f96) a.1 ++ (slV f55 a.2.1 ++ [])).length = 2; rw [List.length_append, List.length_append, slV_len, slV_len]; rfl
theorem opn31 : Opn Tryz.prog 31 (slV f52) (slG g52) := Opn.slice Tryz.underlying31 cells52 (by omega) f52_len opn52
theorem opn41 : Opn Tryz.prog 41 (slV (slV (slV f96))) (slG (slG (slG g96))) := Opn.slice Tryz.underlying41 cells27 (by omega) (slV_len _) opn27
theorem opn43 : Opn Tryz.prog 43 f43 g43 := opn_two Tryz.underlying43 cells43 rfl rfl rfl rfl rfl opn41 opn31 cells41 cells31
theorem slV_arr {α β : Type} {z : Nat} {f : α → List V} {R : List V → β → Prop} {to : α → β} (hR : ∀ a, R (f a) (to a)) (hl : ∀ a, (f a).length = z) (n : Option (List α)) : ∃ c, slV f n = [c] ∧ PArr z R c ((n.getD []).map to) := by
 have key : ∀ l : List α, Cs z R (l.flatMap f) (l.map to) := by
  intro l
  induction l with
  | nil => rfl
  | cons a l ih => exact ⟨f a, l.flatMap f, rfl, hl a, hR a, ih⟩
 cases n with
 | none => exact ⟨.slN, rfl, PArr.nil⟩
 | some l => exact ⟨_, rfl, _, key l, .inr (by simp)⟩
def toA (a : AvaT) : Ava := (a.1, a.2.1)
def toR (r : RdnT) : List Ava := (r.getD []).map toA
def toN (n : DnT) : List (List Ava) := (n.getD []).map toR
def toS (s : StrsT) : List (List UInt8) := (s.getD []).map id
def toT (a : AttrT) : Attr := (a.1, toS a.2.1)
def toTs (l : AttrsT) : List Attr := (l.getD []).map toT
def toI (x : ImgT) : Img := (toN x.1, toTs x.2.1)
def toL (l : ImgsT) : List Img := (l.getD []).map toI
def toG (l : DnsT) : List (List (List Ava)) := (l.getD []).map toN
def toD (d : DltT) : Dlt := (toG d.1, toL d.2.1)
theorem is98 (r : RdnT) : rRdn (slV f96 r) (toR r) := by
 obtain ⟨c, h1, h2⟩ := slV_arr (z := 2) (f := f96) (R := rAva) (to := toA) (fun a => rfl) (fun a => rfl) r
 exact ⟨c, h1, h2⟩
theorem is27 (n : DnT) : ∃ c, slV (slV f96) n = [c] ∧ pDn c (toN n) := slV_arr is98 (slV_len _) n
theorem is28 (s : StrsT) : ∃ c, slV f9 s = [c] ∧ pStrs c (toS s) := slV_arr (z := 1) (f := f9) (R := rS) (to := id) (fun a => rfl) (fun a => rfl) s
theorem is55 (a : AttrT) : rAttr (f55 a) (toT a) := by
 obtain ⟨c, h1, h2⟩ := is28 a.2.1
 exact ⟨c, by show f9 a.1 ++ (slV f9 a.2.1 ++ []) = _; rw [h1]; rfl, h2⟩
theorem is50 (l : AttrsT) : ∃ c, slV f55 l = [c] ∧ pAttrs c (toTs l) := slV_arr is55 (fun a => by show (f9 a.1 ++ (slV f9 a.2.1 ++ [])).length = 2; rw [List.length_append, List.length_append, slV_len]; rfl) l
theorem is52 (x : ImgT) : rImg (f52 x) (toI x) := by
 obtain ⟨c, h1, h2⟩ := is27 x.1
 obtain ⟨d, h3, h4⟩ := is50 x.2.1
 exact ⟨c, d, by show slV (slV f96) x.1 ++ (slV f55 x.2.1 ++ []) = _; rw [h1, h3]; rfl, h2, h4⟩
theorem is31 (l : ImgsT) : ∃ c, slV f52 l = [c] ∧ pImgs c (toL l) := slV_arr is52 f52_len l
theorem is41 (l : DnsT) : ∃ c, slV (slV (slV f96)) l = [c] ∧ PArr 1 rDn c (toG l) := slV_arr (R := rDn) (fun n => by obtain ⟨c, h1, h2⟩ := is27 n; exact ⟨c, h1, h2⟩) (slV_len _) l
theorem is43 (d : DltT) : rDlt (f43 d) (toD d) := by
 obtain ⟨c, h1, h2⟩ := is41 d.1
 obtain ⟨e, h3, h4⟩ := is31 d.2.1
 exact ⟨c, e, by show slV (slV (slV f96)) d.1 ++ (slV f52 d.2.1 ++ []) = _; rw [h1, h3]; rfl, h2, h4⟩
theorem slG_ge {α : Type} (g : α → Nat) (n : Option (List α)) : (n.getD []).length ≤ slG g n ∧ ∀ a ∈ n.getD [], g a ≤ slG g n := by
 cases n with
 | none => exact ⟨Nat.le_refl _, fun a h => by simp at h⟩
 | some l => exact sum_ge g l
theorem szR_of (r : RdnT) : szR (toR r) ≤ 3 * max 1 (slG g96 r) := by
 cases r with
 | none => simp [toR, szR, slG]
 | some l =>
  have h : ((l.map toA).map szA).sum ≤ 2 * (l.map fun a => max 1 (g96 a)).sum := by
   induction l with
   | nil => simp
   | cons a l ih =>
    simp only [List.map_cons, List.sum_cons]
    have : szA (toA a) ≤ 2 * max 1 (g96 a) := by simp only [szA, toA, g96, g9]; omega
    omega
  simp only [toR, Option.getD_some, szR, slG]
  omega
theorem szN_of (n : DnT) : szN (toN n) ≤ 3 * slG (slG g96) n := by
 cases n with
 | none => simp [toN, szN, slG]
 | some l =>
  show ((l.map toR).map szR).sum ≤ 3 * (l.map fun a => max 1 (slG g96 a)).sum
  induction l with
  | nil => simp
  | cons r l ih =>
   have := szR_of r
   simp only [List.map_cons, List.sum_cons] at ih ⊢
   omega
theorem fitN_of (n : DnT) (h : slG (slG g96) n ≤ 1048576) : fitN (toN n) := by
 refine ⟨?_, by have := szN_of n; omega⟩
 obtain ⟨h1, h2⟩ := slG_ge (slG g96) n
 refine ⟨by simp only [toN, List.length_map]; omega, fun r hr => ?_⟩
 obtain ⟨o, ho, rfl⟩ := List.mem_map.1 hr
 have h3 := h2 o ho
 obtain ⟨h4, h5⟩ := slG_ge g96 o
 refine ⟨by simp only [toR, List.length_map]; omega, fun a ha => ?_⟩
 obtain ⟨b, hb, rfl⟩ := List.mem_map.1 ha
 have := h5 b hb
 simp only [g96, g9] at this
 exact ⟨by simp only [toA]; omega, by simp only [toA]; omega⟩
theorem okTs_of (l : AttrsT) (h : slG g55 l ≤ 1048576) : okTs (toTs l) := by
 obtain ⟨h1, h2⟩ := slG_ge g55 l
 refine ⟨by simp only [toTs, List.length_map]; omega, fun a ha => ?_⟩
 obtain ⟨b, hb, rfl⟩ := List.mem_map.1 ha
 have h3 := h2 b hb
 obtain ⟨h4, _⟩ := slG_ge g9 b.2.1
 simp only [g55] at h3
 simp only [okT, toT, toS, List.length_map]
 omega
theorem fitI_of (x : ImgT) (h : g52 x ≤ 1048576) : fitI (toI x) := by
 simp only [g52] at h
 exact ⟨fitN_of x.1 (by omega), okTs_of x.2.1 (by omega)⟩
theorem fitL_of (l : ImgsT) (h : slG g52 l ≤ 1048576) : fitL (toL l) := by
 obtain ⟨h1, h2⟩ := slG_ge g52 l
 refine ⟨by simp only [toL, List.length_map]; omega, fun x hx => ?_⟩
 obtain ⟨b, hb, rfl⟩ := List.mem_map.1 hx
 exact fitI_of b (Nat.le_trans (h2 b hb) h)
theorem fitG_of (l : DnsT) (h : slG (slG (slG g96)) l ≤ 1048576) : fitG (toG l) := by
 obtain ⟨h1, h2⟩ := slG_ge (slG (slG g96)) l
 refine ⟨by simp only [toG, List.length_map]; omega, fun n hn => ?_⟩
 obtain ⟨b, hb, rfl⟩ := List.mem_map.1 hn
 exact fitN_of b (Nat.le_trans (h2 b hb) h)
theorem fitD_of (d : DltT) (h : g43 d ≤ 1048576) : fitD (toD d) := by
 simp only [g43] at h
 exact ⟨fitG_of d.1 (by omega), fitL_of d.2.1 (by omega)⟩
section
variable {H : Type} {enc : TypeId × Value → H} {W : World} {held : Bool} {r : Reach} {base : Nat} {v : Value} {d : DataW H} {ps : List MemPlace}
theorem arg_agg {P : Program} {t : TypeId} {α : Type} {f : α → List V} {g : α → Nat} (ho : Opn P t f g) {b : DataW H → Nat} {ba : List (DataW H) → Nat} (B : Bulk H b ba) {cs : Array Value}
  (hp : ∀ p ∈ ps, p.block < W.heap.size) (h : DataW.Trod enc P W 0 (fun _ => true) held t (.agg cs) d ps) : ∃ a, VR (m0 W) (.agg (f a)) (.agg cs) ∧ g a ≤ b d := by
 obtain ⟨fuel, hx⟩ := h
 obtain ⟨a, a1, a2, _, a4⟩ := ho.out B (x := (d, ps)) hp hx
 refine ⟨a, ?_, a4⟩
 simp only [VR]
 exact ⟨cs, rfl, a2, a1⟩
theorem open_imgs (hval : Value.okWide Tryz.prog W r base 31 v) (h : DataW.Trod enc Tryz.prog W 0 (fun _ => true) held 31 v d ps)
  (hp : ∀ p ∈ ps, p.block < W.heap.size) (hb : Rows.uptoBulk d ≤ 1048576) : ∃ u l, VR (m0 W) u v ∧ pImgs u l ∧ fitL l := by
 obtain ⟨a, len, cap, rfl⟩ := Go.WideShapes.okWide_slice Tryz.underlying31 hval
 obtain ⟨x, h1, h2⟩ := opn31.arg (bulkOk H) rfl hp h
 obtain ⟨c, hc, hd⟩ := is31 x
 rw [hc] at h1
 exact ⟨c, toL x, (VRL.cons_iff.1 h1).1, hd, fitL_of x (Nat.le_trans h2 hb)⟩
theorem open_dlt (hval : Value.okWide Tryz.prog W r base 43 v) (h : DataW.Trod enc Tryz.prog W 0 (fun _ => true) held 43 v d ps)
  (hp : ∀ p ∈ ps, p.block < W.heap.size) (hb : Rows.uptoBulk d ≤ 1048576) : ∃ c l, VR (m0 W) (.agg c) v ∧ rDlt c l ∧ fitD l := by
 obtain ⟨cs, rfl, _⟩ := Go.WideShapes.okWide_struct Tryz.underlying43 hval
 obtain ⟨x, h1, h2⟩ := arg_agg opn43 (bulkOk H) hp h
 exact ⟨f43 x, toD x, h1, is43 x, fitD_of x (Nat.le_trans h2 hb)⟩
end
end Go.Proofs.YtmmjlgocihhkcaaGreatDoor
