import Derived.Test.YtmmjlgocihhkcaaGreatDoorVmG
import Derived.Test.YtmmjlgocihhkcaaGreatDoorPartJ
import Derived.Test.YtmmjlgocihhkcaaGreatDoorRows
import Derived.Test.YtmmjlgocihhkcaaGreatDoorPartT
set_option linter.all false
namespace Go.Proofs.YtmmjlgocihhkcaaGreatDoor
open Go Go.Vm
set_option maxRecDepth 100000
theorem bulkOk (H : Type) : Bulk H Rows.uptoBulk Rows.uptoBulkAll where
 nil := by simp [Rows.uptoBulkAll]
 cons := fun d l => by simp [Rows.uptoBulkAll]
 str := fun s => by simp [Rows.uptoBulk]
 agg := fun l => by simp [Rows.uptoBulk]
 sl := fun l r => by
  have pos : ∀ d : DataW H, 1 ≤ Rows.uptoBulk d := fun d => by
   cases d with
   | lit l => cases l <;> simp [Rows.uptoBulk]
   | _ => simp [Rows.uptoBulk]
  have : l.length ≤ Rows.uptoBulkAll l := by
   induction l with
   | nil => simp
   | cons d l ih => have := pos d; simp only [Rows.uptoBulkAll, List.length_cons]; omega
  simp only [Rows.uptoBulk]
  omega
 pos := fun d => by
  cases d with
  | lit l => cases l <;> simp [Rows.uptoBulk]
  | _ => simp [Rows.uptoBulk]
theorem sum_ge {α : Type} (g : α → Nat) : ∀ (l : List α), l.length ≤ (l.map fun a => max 1 (g a)).sum ∧ ∀ a ∈ l, g a ≤ (l.map fun a => max 1 (g a)).sum
 | [] => ⟨Nat.le_refl _, fun a h => by simp at h⟩
 | a :: l => by
  obtain ⟨h1, h2⟩ := sum_ge g l
  simp only [List.map_cons, List.sum_cons, List.length_cons]
  refine ⟨by omega, fun b hb => ?_⟩
  rcases List.mem_cons.1 hb with rfl | hb
  ·omega
  ·have := h2 b hb; omega
theorem cells96 : Tryz.prog.cellsOf 96 = 2 := by kernel_rfl
theorem cells98 : Tryz.prog.cellsOf 98 = 1 := by kernel_rfl
theorem cells27 : Tryz.prog.cellsOf 27 = 1 := by kernel_rfl
theorem cells9 : Tryz.prog.cellsOf 9 = 1 := by kernel_rfl
theorem cells28 : Tryz.prog.cellsOf 28 = 1 := by kernel_rfl
theorem cells50 : Tryz.prog.cellsOf 50 = 1 := by kernel_rfl
theorem cells55 : Tryz.prog.cellsOf 55 = 2 := by kernel_rfl
theorem cells52 : Tryz.prog.cellsOf 52 = 2 := by kernel_rfl
theorem opn_two {t t1 t2 : TypeId} {fs : Array Field} {α β : Type} {f1 : α → List V} {g1 : α → Nat} {f2 : β → List V} {g2 : β → Nat} (ht : Tryz.prog.underlying t = some (.struct fs)) (hc : Tryz.prog.cellsOf t = 2) {a b : Field} (hfs : fs.toList = [a, b])
  (ha : a.offset = 0) (ha' : a.type = t1) (hb : b.offset = 1) (hb' : b.type = t2) (h1 : Opn Tryz.prog t1 f1 g1) (h2 : Opn Tryz.prog t2 f2 g2) (c1 : Tryz.prog.cellsOf t1 = 1) (c2 : Tryz.prog.cellsOf t2 = 1) :
  Opn Tryz.prog t (fun x : α × (β × Unit) => f1 x.1 ++ (f2 x.2.1 ++ [])) (fun x => g1 x.1 + (g2 x.2.1 + 0)) := by
 subst ha' hb'
 refine Opn.struct ht ?_
 rw [hc, hfs]
 exact OpnF.cons (c := 1) ha c1 h1 (OpnF.cons (c := 1) (by rw [hb]) c2 h2 OpnF.nil)
abbrev AvaT := List UInt8 × (List UInt8 × Unit)
abbrev RdnT := Option (List AvaT)
abbrev DnT := Option (List RdnT)
abbrev StrsT := Option (List (List UInt8))
abbrev AttrT := List UInt8 × (StrsT × Unit)
abbrev AttrsT := Option (List AttrT)
abbrev ImgT := DnT × (AttrsT × Unit)
abbrev ImgsT := Option (List ImgT)
def f9 (s : List UInt8) : List V := [.str s]
def g9 (s : List UInt8) : Nat := s.length
def f96 (a : AvaT) : List V := f9 a.1 ++ (f9 a.2.1 ++ [])
def g96 (a : AvaT) : Nat := g9 a.1 + (g9 a.2.1 + 0)
def f55 (a : AttrT) : List V := f9 a.1 ++ (slV f9 a.2.1 ++ [])
def g55 (a : AttrT) : Nat := g9 a.1 + (slG g9 a.2.1 + 0)
def f52 (a : ImgT) : List V := slV (slV f96) a.1 ++ (slV f55 a.2.1 ++ [])
def g52 (a : ImgT) : Nat := slG (slG g96) a.1 + (slG g55 a.2.1 + 0)
theorem slV_len {α : Type} (f : α → List V) (n : Option (List α)) : (slV f n).length = 1 := by cases n <;> rfl
theorem opn9 : Opn Tryz.prog 9 f9 g9 := Opn.string Tryz.underlying9
theorem opn96 : Opn Tryz.prog 96 f96 g96 := opn_two Tryz.underlying96 cells96 rfl rfl rfl rfl rfl opn9 opn9 cells9 cells9
theorem opn98 : Opn Tryz.prog 98 (slV f96) (slG g96) := Opn.slice Tryz.underlying98 cells96 (by omega) (fun a => rfl) opn96
theorem opn27 : Opn Tryz.prog 27 (slV (slV f96)) (slG (slG g96)) := Opn.slice Tryz.underlying27 cells98 (by omega) (slV_len _) opn98
theorem opn28 : Opn Tryz.prog 28 (slV f9) (slG g9) := Opn.slice Tryz.underlying28 cells9 (by omega) (fun a => rfl) opn9
theorem opn55 : Opn Tryz.prog 55 f55 g55 := opn_two Tryz.underlying55 cells55 rfl rfl rfl rfl rfl opn9 opn28 cells9 cells28
theorem opn50 : Opn Tryz.prog 50 (slV f55) (slG g55) := Opn.slice Tryz.underlying50 cells55 (by omega) (fun a => by show (f9 a.1 ++ (slV f9 a.2.1 ++ [])).length = 2; rw [List.length_append, List.length_append, slV_len]; rfl) opn55
theorem opn52 : Opn Tryz.prog 52 f52 g52 := opn_two Tryz.underlying52 cells52 rfl rfl rfl rfl rfl opn27 opn50 cells27 cells50
theorem f52_len (a : ImgT) : (f52 a).length = 2 := by show (slV (slV f96) a.1 ++ (slV f55 a.2.1 ++ [])).length = 2; rw [List.length_append, List.length_append, slV_len, slV_len]; rfl
theorem opn31 : Opn Tryz.prog 31 (slV f52) (slG g52) := Opn.slice Tryz.underlying31 cells52 (by omega) f52_len opn52
theorem slV_arr {α β : Type} {z : Nat} {f : α → List V} {R : List V → β → Prop} {to : α → β} (hR : ∀ a, R (f a) (to a)) (hl : ∀ a, (f a).length = z) (n : Option (List α)) : ∃ c, slV f n = [c] ∧ PArr z R c ((n.getD []).map to) := by
 have key : ∀ l : List α, Cs z R (l.flatMap f) (l.map to) := by
  intro l
  induction l with
  | nil => rfl
  | cons a l ih => exact ⟨f a, l.flatMap f, rfl, hl a, hR a, ih⟩
 cases n with
 | none => exact ⟨.slN, rfl, PArr.nil⟩
 | some l => exact ⟨_, rfl, _, key l, .inr (by simp)⟩
def toA (a : AvaT) : Ava := (a.1, a.2.1)
def toR (r : RdnT) : List Ava := (r.getD []).map toA
def toN (n : DnT) : List (List Ava) := (n.getD []).map toR
def toS (s : StrsT) : List (List UInt8) := (s.getD []).map id
def toT (a : AttrT) : Attr := (a.1, toS a.2.1)
def toTs (l : AttrsT) : List Attr := (l.getD []).map toT
def toI (x : ImgT) : Img := (toN x.1, toTs x.2.1)
def toL (l : ImgsT) : List Img := (l.getD []).map toI
theorem is98 (r : RdnT) : rRdn (slV f96 r) (toR r) := by
 obtain ⟨c, h1, h2⟩ := slV_arr (z := 2) (f := f96) (R := rAva) (to := toA) (fun a => rfl) (fun a => rfl) r
 exact ⟨c, h1, h2⟩
theorem is27 (n : DnT) : ∃ c, slV (slV f96) n = [c] ∧ pDn c (toN n) := slV_arr is98 (slV_len _) n
theorem is28 (s : StrsT) : ∃ c, slV f9 s = [c] ∧ pStrs c (toS s) := slV_arr (z := 1) (f := f9) (R := rS) (to := id) (fun a => rfl) (fun a => rfl) s
theorem is55 (a : AttrT) : rAttr (f55 a) (toT a) := by
 obtain ⟨c, h1, h2⟩ := is28 a.2.1
 exact ⟨c, by show f9 a.1 ++ (slV f9 a.2.1 ++ []) = _; rw [h1]; rfl, h2⟩
theorem is50 (l : AttrsT) : ∃ c, slV f55 l = [c] ∧ pAttrs c (toTs l) := slV_arr is55 (fun a => by show (f9 a.1 ++ (slV f9 a.2.1 ++ [])).length = 2; rw [List.length_append, List.length_append, slV_len]; rfl) l
theorem is52 (x : ImgT) : rImg (f52 x) (toI x) := by
 obtain ⟨c, h1, h2⟩ := is27 x.1
 obtain ⟨d, h3, h4⟩ := is50 x.2.1
 exact ⟨c, d, by show slV (slV f96) x.1 ++ (slV f55 x.2.1 ++ []) = _; rw [h1, h3]; rfl, h2, h4⟩
theorem is31 (l : ImgsT) : ∃ c, slV f52 l = [c] ∧ pImgs c (toL l) := slV_arr is52 f52_len l
theorem slG_ge {α : Type} (g : α → Nat) (n : Option (List α)) : (n.getD []).length ≤ slG g n ∧ ∀ a ∈ n.getD [], g a ≤ slG g n := by
 cases n with
 | none => exact ⟨Nat.le_refl _, fun a h => by simp at h⟩
 | some l => exact sum_ge g l
theorem szR_of (r : RdnT) : szR (toR r) ≤ 3 * max 1 (slG g96 r) := by
 cases r with
 | none => simp [toR, szR, slG]
 | some l =>
  have h : ((l.map toA).map szA).sum ≤ 2 * (l.map fun a => max 1 (g96 a)).sum := by
   induction l with
   | nil => simp
   | cons a l ih =>
    simp only [List.map_cons, List.sum_cons]
    have : szA (toA a) ≤ 2 * max 1 (g96 a) := by simp only [szA, toA, g96, g9]; omega
    omega
  simp only [toR, Option.getD_some, szR, slG]
  omega
theorem szN_of (n : DnT) : szN (toN n) ≤ 3 * slG (slG g96) n := by
 cases n with
 | none => simp [toN, szN, slG]
 | some l =>
  show ((l.map toR).map szR).sum ≤ 3 * (l.map fun a => max 1 (slG g96 a)).sum
  induction l with
  | nil => simp
  | cons r l ih =>
   have := szR_of r
   simp only [List.map_cons, List.sum_cons] at ih ⊢
   omega
theorem fitN_of (n : DnT) (h : slG (slG g96) n ≤ 1048576) : fitN (toN n) := by
 refine ⟨?_, by have := szN_of n; omega⟩
 obtain ⟨h1, h2⟩ := slG_ge (slG g96) n
 refine ⟨by simp only [toN, List.length_map]; omega, fun r hr => ?_⟩
 obtain ⟨o, ho, rfl⟩ := List.mem_map.1 hr
 have h3 := h2 o ho
 obtain ⟨h4, h5⟩ := slG_ge g96 o
 refine ⟨by simp only [toR, List.length_map]; omega, fun a ha => ?_⟩
 obtain ⟨b, hb, rfl⟩ := List.mem_map.1 ha
 have := h5 b hb
 simp only [g96, g9] at this
 exact ⟨by simp only [toA]; omega, by simp only [toA]; omega⟩
theorem okTs_of (l : AttrsT) (h : slG g55 l ≤ 1048576) : okTs (toTs l) := by
 obtain ⟨h1, h2⟩ := slG_ge g55 l
 refine ⟨by simp only [toTs, List.length_map]; omega, fun a ha => ?_⟩
 obtain ⟨b, hb, rfl⟩ := List.mem_map.1 ha
 have h3 := h2 b hb
 obtain ⟨h4, _⟩ := slG_ge g9 b.2.1
 simp only [g55] at h3
 simp only [okT, toT, toS, List.length_map]
 omega
theorem fitI_of (x : ImgT) (h : g52 x ≤ 1048576) : fitI (toI x) := by
 simp only [g52] at h
 exact ⟨fitN_of x.1 (by omega), okTs_of x.2.1 (by omega)⟩
theorem fitL_of (l : ImgsT) (h : slG g52 l ≤ 1048576) : fitL (toL l) := by
 obtain ⟨h1, h2⟩ := slG_ge g52 l
 refine ⟨by simp only [toL, List.length_map]; omega, fun x hx => ?_⟩
 obtain ⟨b, hb, rfl⟩ := List.mem_map.1 hx
 exact fitI_of b (Nat.le_trans (h2 b hb) h)
section
variable {H : Type} {enc : TypeId × Value → H} {W : World} {held : Bool} {r : Reach} {base : Nat} {v : Value} {d : DataW H} {ps : List MemPlace}
theorem arg_agg {P : Program} {t : TypeId} {α : Type} {f : α → List V} {g : α → Nat} (ho : Opn P t f g) {b : DataW H → Nat} {ba : List (DataW H) → Nat} (B : Bulk H b ba) {cs : Array Value}
  (hp : ∀ p ∈ ps, p.block < W.heap.size) (h : DataW.Trod enc P W 0 (fun _ => true) held t (.agg cs) d ps) : ∃ a, VR (m0 W) (.agg (f a)) (.agg cs) ∧ g a ≤ b d := by
 obtain ⟨fuel, hx⟩ := h
 obtain ⟨a, a1, a2, _, a4⟩ := ho.out B (x := (d, ps)) hp hx
 refine ⟨a, ?_, a4⟩
 simp only [VR]
 exact ⟨cs, rfl, a2, a1⟩
end
end Go.Proofs.YtmmjlgocihhkcaaGreatDoor
namespace Go.Proofs.YtmmjlgocihhkcaaGreatDoor
open Go Go.Vm
set_option maxRecDepth 100000
theorem cells3 : Tryz.prog.cellsOf 3 = 1 := by kernel_rfl
theorem cells4 : Tryz.prog.cellsOf 4 = 1 := by kernel_rfl
theorem cells100 : Tryz.prog.cellsOf 100 = 6 := by kernel_rfl
theorem cells121 : Tryz.prog.cellsOf 121 = 5 := by kernel_rfl
theorem cells22 : Tryz.prog.cellsOf 22 = 1 := by kernel_rfl
theorem cells23 : Tryz.prog.cellsOf 23 = 1 := by kernel_rfl
theorem cells25 : Tryz.prog.cellsOf 25 = 2 := by kernel_rfl
theorem cells30 : Tryz.prog.cellsOf 30 = 2 := by kernel_rfl
abbrev IntT := { n : Int // (Lit.int .i64 n).wf = true }
abbrev TyT := List UInt8 × (IntT × (Bool × (Bool × (Bool × (Bool × Unit)))))
abbrev ClT := List UInt8 × (IntT × (List UInt8 × (StrsT × (StrsT × Unit))))
abbrev SchT := Option (List TyT) × (Option (List ClT) × Unit)
abbrev AgrT := DnT × (StrsT × Unit)
def f3 (n : IntT) : List V := [.int .i64 n.1]
def g3 (_ : IntT) : Nat := 0
def f4 (n : Bool) : List V := [.bool n]
def g4 (_ : Bool) : Nat := 0
def f100 (a : TyT) : List V := f9 a.1 ++ (f3 a.2.1 ++ (f4 a.2.2.1 ++ (f4 a.2.2.2.1 ++ (f4 a.2.2.2.2.1 ++ (f4 a.2.2.2.2.2.1 ++ [])))))
def g100 (a : TyT) : Nat := g9 a.1 + (g3 a.2.1 + (g4 a.2.2.1 + (g4 a.2.2.2.1 + (g4 a.2.2.2.2.1 + (g4 a.2.2.2.2.2.1 + 0)))))
def f121 (a : ClT) : List V := f9 a.1 ++ (f3 a.2.1 ++ (f9 a.2.2.1 ++ (slV f9 a.2.2.2.1 ++ (slV f9 a.2.2.2.2.1 ++ []))))
def g121 (a : ClT) : Nat := g9 a.1 + (g3 a.2.1 + (g9 a.2.2.1 + (slG g9 a.2.2.2.1 + (slG g9 a.2.2.2.2.1 + 0))))
def f25 (a : SchT) : List V := slV f100 a.1 ++ (slV f121 a.2.1 ++ [])
def g25 (a : SchT) : Nat := slG g100 a.1 + (slG g121 a.2.1 + 0)
def f30 (a : AgrT) : List V := slV (slV f96) a.1 ++ (slV f9 a.2.1 ++ [])
def g30 (a : AgrT) : Nat := slG (slG g96) a.1 + (slG g9 a.2.1 + 0)
theorem opn3 : Opn Tryz.prog 3 f3 g3 := Opn.int Tryz.underlying3
theorem opn4 : Opn Tryz.prog 4 f4 g4 := Opn.bool Tryz.underlying4
theorem opn_six {t t1 t2 t3 t4 t5 t6 : TypeId} {fs : Array Field} {α1 α2 α3 α4 α5 α6 : Type} {f1 : α1 → List V} {g1 : α1 → Nat} {f2 : α2 → List V} {g2 : α2 → Nat} {f3 : α3 → List V} {g3 : α3 → Nat} {f4 : α4 → List V} {g4 : α4 → Nat} {f5 : α5 → List V} {g5 : α5 → Nat} {f6 : α6 → List V} {g6 : α6 → Nat}
  (ht : Tryz.prog.underlying t = some (.struct fs)) (hc : Tryz.prog.cellsOf t = 6) {a b c d e f : Field} (hfs : fs.toList = [a, b, c, d, e, f])
  (ho : a.offset = 0 ∧ b.offset = 1 ∧ c.offset = 2 ∧ d.offset = 3 ∧ e.offset = 4 ∧ f.offset = 5) (hy : a.type = t1 ∧ b.type = t2 ∧ c.type = t3 ∧ d.type = t4 ∧ e.type = t5 ∧ f.type = t6)
  (h1 : Opn Tryz.prog t1 f1 g1) (h2 : Opn Tryz.prog t2 f2 g2) (h3 : Opn Tryz.prog t3 f3 g3) (h4 : Opn Tryz.prog t4 f4 g4) (h5 : Opn Tryz.prog t5 f5 g5) (h6 : Opn Tryz.prog t6 f6 g6)
  (c1 : Tryz.prog.cellsOf t1 = 1) (c2 : Tryz.prog.cellsOf t2 = 1) (c3 : Tryz.prog.cellsOf t3 = 1) (c4 : Tryz.prog.cellsOf t4 = 1) (c5 : Tryz.prog.cellsOf t5 = 1) (c6 : Tryz.prog.cellsOf t6 = 1) :
  Opn Tryz.prog t (fun x : α1 × (α2 × (α3 × (α4 × (α5 × (α6 × Unit))))) => f1 x.1 ++ (f2 x.2.1 ++ (f3 x.2.2.1 ++ (f4 x.2.2.2.1 ++ (f5 x.2.2.2.2.1 ++ (f6 x.2.2.2.2.2.1 ++ [])))))) (fun x => g1 x.1 + (g2 x.2.1 + (g3 x.2.2.1 + (g4 x.2.2.2.1 + (g5 x.2.2.2.2.1 + (g6 x.2.2.2.2.2.1 + 0)))))) := by
 obtain ⟨o1, o2, o3, o4, o5, o6⟩ := ho
 obtain ⟨rfl, rfl, rfl, rfl, rfl, rfl⟩ := hy
 refine Opn.struct ht ?_
 rw [hc, hfs]
 exact OpnF.cons (c := 1) o1 c1 h1 (OpnF.cons (c := 1) o2 c2 h2 (OpnF.cons (c := 1) o3 c3 h3 (OpnF.cons (c := 1) o4 c4 h4 (OpnF.cons (c := 1) o5 c5 h5 (OpnF.cons (c := 1) o6 c6 h6 OpnF.nil)))))
theorem opn_five {t t1 t2 t3 t4 t5 : TypeId} {fs : Array Field} {α1 α2 α3 α4 α5 : Type} {f1 : α1 → List V} {g1 : α1 → Nat} {f2 : α2 → List V} {g2 : α2 → Nat} {f3 : α3 → List V} {g3 : α3 → Nat} {f4 : α4 → List V} {g4 : α4 → Nat} {f5 : α5 → List V} {g5 : α5 → Nat}
  (ht : Tryz.prog.underlying t = some (.struct fs)) (hc : Tryz.prog.cellsOf t = 5) {a b c d e : Field} (hfs : fs.toList = [a, b, c, d, e])
  (ho : a.offset = 0 ∧ b.offset = 1 ∧ c.offset = 2 ∧ d.offset = 3 ∧ e.offset = 4) (hy : a.type = t1 ∧ b.type = t2 ∧ c.type = t3 ∧ d.type = t4 ∧ e.type = t5)
  (h1 : Opn Tryz.prog t1 f1 g1) (h2 : Opn Tryz.prog t2 f2 g2) (h3 : Opn Tryz.prog t3 f3 g3) (h4 : Opn Tryz.prog t4 f4 g4) (h5 : Opn Tryz.prog t5 f5 g5)
  (c1 : Tryz.prog.cellsOf t1 = 1) (c2 : Tryz.prog.cellsOf t2 = 1) (c3 : Tryz.prog.cellsOf t3 = 1) (c4 : Tryz.prog.cellsOf t4 = 1) (c5 : Tryz.prog.cellsOf t5 = 1) :
  Opn Tryz.prog t (fun x : α1 × (α2 × (α3 × (α4 × (α5 × Unit)))) => f1 x.1 ++ (f2 x.2.1 ++ (f3 x.2.2.1 ++ (f4 x.2.2.2.1 ++ (f5 x.2.2.2.2.1 ++ []))))) (fun x => g1 x.1 + (g2 x.2.1 + (g3 x.2.2.1 + (g4 x.2.2.2.1 + (g5 x.2.2.2.2.1 + 0))))) := by
 obtain ⟨o1, o2, o3, o4, o5⟩ := ho
 obtain ⟨rfl, rfl, rfl, rfl, rfl⟩ := hy
 refine Opn.struct ht ?_
 rw [hc, hfs]
 exact OpnF.cons (c := 1) o1 c1 h1 (OpnF.cons (c := 1) o2 c2 h2 (OpnF.cons (c := 1) o3 c3 h3 (OpnF.cons (c := 1) o4 c4 h4 (OpnF.cons (c := 1) o5 c5 h5 OpnF.nil))))
theorem opn100 : Opn Tryz.prog 100 f100 g100 := opn_six Tryz.underlying100 cells100 rfl ⟨rfl, rfl, rfl, rfl, rfl, rfl⟩ ⟨rfl, rfl, rfl, rfl, rfl, rfl⟩ opn9 opn3 opn4 opn4 opn4 opn4 cells9 cells3 cells4 cells4 cells4 cells4
theorem opn121 : Opn Tryz.prog 121 f121 g121 := opn_five Tryz.underlying121 cells121 rfl ⟨rfl, rfl, rfl, rfl, rfl⟩ ⟨rfl, rfl, rfl, rfl, rfl⟩ opn9 opn3 opn9 opn28 opn28 cells9 cells3 cells9 cells28 cells28
theorem f121_len (a : ClT) : (f121 a).length = 5 := by
 show (f9 a.1 ++ (f3 a.2.1 ++ (f9 a.2.2.1 ++ (slV f9 a.2.2.2.1 ++ (slV f9 a.2.2.2.2.1 ++ []))))).length = 5
 simp only [List.length_append, slV_len, f9, f3, List.length_cons, List.length_nil]
theorem opn22 : Opn Tryz.prog 22 (slV f100) (slG g100) := Opn.slice Tryz.underlying22 cells100 (by omega) (fun a => rfl) opn100
theorem opn23 : Opn Tryz.prog 23 (slV f121) (slG g121) := Opn.slice Tryz.underlying23 cells121 (by omega) f121_len opn121
theorem opn25 : Opn Tryz.prog 25 f25 g25 := opn_two Tryz.underlying25 cells25 rfl rfl rfl rfl rfl opn22 opn23 cells22 cells23
theorem opn30 : Opn Tryz.prog 30 f30 g30 := opn_two Tryz.underlying30 cells30 rfl rfl rfl rfl rfl opn27 opn28 cells27 cells28
def toTy (a : TyT) : ATy := (a.1, a.2.1.1, a.2.2.1, a.2.2.2.1, a.2.2.2.2.1, a.2.2.2.2.2.1)
def toCl (a : ClT) : Cls := (a.1, a.2.1.1, a.2.2.1, toS a.2.2.2.1, toS a.2.2.2.2.1)
def toSch (s : SchT) : SchD := ((s.1.getD []).map toTy, (s.2.1.getD []).map toCl)
def toAgr (g : AgrT) : Agr := (toN g.1, toS g.2.1)
theorem is121 (a : ClT) : rCls (f121 a) (toCl a) := by
 obtain ⟨c, h1, h2⟩ := is28 a.2.2.2.1
 obtain ⟨d, h3, h4⟩ := is28 a.2.2.2.2.1
 refine ⟨c, d, ?_, h2, h4⟩
 show f9 a.1 ++ (f3 a.2.1 ++ (f9 a.2.2.1 ++ (slV f9 a.2.2.2.1 ++ (slV f9 a.2.2.2.2.1 ++ [])))) = _
 rw [h1, h3]
 rfl
theorem is25 (s : SchT) : ∃ tv kv, f25 s = [tv, kv] ∧ PArr 6 rTy tv (toSch s).1 ∧ PArr 5 rCls kv (toSch s).2 := by
 obtain ⟨c, h1, h2⟩ := slV_arr (z := 6) (f := f100) (R := rTy) (to := toTy) (fun a => rfl) (fun a => rfl) s.1
 obtain ⟨d, h3, h4⟩ := slV_arr (z := 5) (f := f121) (R := rCls) (to := toCl) is121 f121_len s.2.1
 exact ⟨c, d, by show slV f100 s.1 ++ (slV f121 s.2.1 ++ []) = _; rw [h1, h3]; rfl, h2, h4⟩
theorem is30 (g : AgrT) : ∃ bv gv, f30 g = [bv, gv] ∧ pDn bv (toAgr g).1 ∧ PArr 1 rS gv (toAgr g).2 := by
 obtain ⟨c, h1, h2⟩ := is27 g.1
 obtain ⟨d, h3, h4⟩ := is28 g.2.1
 exact ⟨c, d, by show slV (slV f96) g.1 ++ (slV f9 g.2.1 ++ []) = _; rw [h1, h3]; rfl, h2, h4⟩
theorem fitStr_of (s : StrsT) (h : slG g9 s ≤ 1048576) : (toS s).length ≤ slG g9 s ∧ ∀ n ∈ toS s, n.length ≤ 1048576 := by
 obtain ⟨h1, h2⟩ := slG_ge g9 s
 refine ⟨by simp only [toS, List.length_map]; omega, fun n hn => ?_⟩
 obtain ⟨b, hb, rfl⟩ := List.mem_map.1 hn
 have := h2 b hb
 simp only [g9] at this
 show b.length ≤ _
 omega
theorem fitS_of (s : SchT) (h : g25 s ≤ 1048576) : fitS (toSch s) := by
 simp only [g25] at h
 obtain ⟨h1, h2⟩ := slG_ge g100 s.1
 obtain ⟨h3, h4⟩ := slG_ge g121 s.2.1
 refine ⟨by simp only [toSch, List.length_map]; omega, by simp only [toSch, List.length_map]; omega, fun t ht => ?_, fun k hk => ?_⟩
 ·obtain ⟨b, hb, rfl⟩ := List.mem_map.1 ht
  have := h2 b hb
  simp only [g100, g9] at this
  show b.1.length ≤ _
  omega
 ·obtain ⟨b, hb, rfl⟩ := List.mem_map.1 hk
  have := h4 b hb
  simp only [g121] at this
  obtain ⟨a1, a2⟩ := fitStr_of b.2.2.2.1 (by omega)
  obtain ⟨a3, a4⟩ := fitStr_of b.2.2.2.2.1 (by omega)
  have e1 : g9 b.1 = b.1.length := rfl
  have e2 : g9 b.2.2.1 = b.2.2.1.length := rfl
  exact ⟨by show b.1.length ≤ _; omega, by show b.2.2.1.length ≤ _; omega, by show (toS b.2.2.2.1).length + (toS b.2.2.2.2.1).length ≤ _; omega, a2, a4⟩
theorem fitGr_of (g : AgrT) (h : g30 g ≤ 1048576) : fitGr (toAgr g) := by
 simp only [g30] at h
 obtain ⟨h1, h2⟩ := fitStr_of g.2.1 (by omega)
 exact ⟨fitN_of g.1 (by omega), by show (toS g.2.1).length ≤ _; omega, h2⟩
theorem nmL_of (l : ImgsT) (h : slG g52 l ≤ 1048576) : NmL (toL l) := by
 obtain ⟨h1, h2⟩ := slG_ge g52 l
 intro x hx
 obtain ⟨b, hb, rfl⟩ := List.mem_map.1 hx
 have h3 := h2 b hb
 simp only [g52] at h3
 obtain ⟨h4, h5⟩ := slG_ge g55 b.2.1
 intro a ha
 obtain ⟨y, hy, rfl⟩ := List.mem_map.1 ha
 have h6 := h5 y hy
 simp only [g55, g9] at h6
 show y.1.length ≤ _
 omega
section
variable {H : Type} {enc : TypeId × Value → H} {W : World} {held : Bool} {r : Reach} {base : Nat} {v : Value} {d : DataW H} {ps : List MemPlace}
theorem open_sch (hval : Value.okWide Tryz.prog W r base 25 v) (h : DataW.Trod enc Tryz.prog W 0 (fun _ => true) held 25 v d ps)
  (hp : ∀ p ∈ ps, p.block < W.heap.size) (hb : Rows.uptoBulk d ≤ 1048576) : ∃ c s, VR (m0 W) (.agg c) v ∧ (∃ tv kv, c = [tv, kv] ∧ PArr 6 rTy tv s.1 ∧ PArr 5 rCls kv s.2) ∧ fitS s := by
 obtain ⟨cs, rfl, _⟩ := Go.WideShapes.okWide_struct Tryz.underlying25 hval
 obtain ⟨x, h1, h2⟩ := arg_agg opn25 (bulkOk H) hp h
 exact ⟨f25 x, toSch x, h1, is25 x, fitS_of x (Nat.le_trans h2 hb)⟩
theorem open_agr (hval : Value.okWide Tryz.prog W r base 30 v) (h : DataW.Trod enc Tryz.prog W 0 (fun _ => true) held 30 v d ps)
  (hp : ∀ p ∈ ps, p.block < W.heap.size) (hb : Rows.uptoBulk d ≤ 1048576) : ∃ c g, VR (m0 W) (.agg c) v ∧ (∃ bv gv, c = [bv, gv] ∧ pDn bv g.1 ∧ PArr 1 rS gv g.2) ∧ fitGr g := by
 obtain ⟨cs, rfl, _⟩ := Go.WideShapes.okWide_struct Tryz.underlying30 hval
 obtain ⟨x, h1, h2⟩ := arg_agg opn30 (bulkOk H) hp h
 exact ⟨f30 x, toAgr x, h1, is30 x, fitGr_of x (Nat.le_trans h2 hb)⟩
theorem open_imgn (hval : Value.okWide Tryz.prog W r base 31 v) (h : DataW.Trod enc Tryz.prog W 0 (fun _ => true) held 31 v d ps)
  (hp : ∀ p ∈ ps, p.block < W.heap.size) (hb : Rows.uptoBulk d ≤ 1048576) : ∃ u l, VR (m0 W) u v ∧ pImgs u l ∧ fitL l ∧ NmL l := by
 obtain ⟨a, len, cap, rfl⟩ := Go.WideShapes.okWide_slice Tryz.underlying31 hval
 obtain ⟨x, h1, h2⟩ := opn31.arg (bulkOk H) rfl hp h
 obtain ⟨c, hc, hd⟩ := is31 x
 rw [hc] at h1
 exact ⟨c, toL x, (VRL.cons_iff.1 h1).1, hd, fitL_of x (Nat.le_trans h2 hb), nmL_of x (Nat.le_trans h2 hb)⟩
end
end Go.Proofs.YtmmjlgocihhkcaaGreatDoor
