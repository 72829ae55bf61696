import Derived.Test.YtmmjlgocihhkcaaGreatDoorPartF
import Derived.Test.YtmmjlgocihhkcaaGreatDoorVmF
set_option linter.all false
namespace Go.Proofs.YtmmjlgocihhkcaaGreatDoor
open Go Go.Vm
set_option maxRecDepth 100000
set_option maxHeartbeats 4000000
abbrev Attr := List UInt8 × List (List UInt8)
abbrev Img := List (List Ava) × List Attr
instance decAttr : DecidableEq Attr := fun a b => if h1 : a.1 = b.1 then (if h2 : a.2 = b.2 then isTrue (Prod.ext h1 h2) else isFalse fun e => h2 (by rw [e])) else isFalse fun e => h1 (by rw [e])
instance decImg : DecidableEq Img := fun a b => if h1 : a.1 = b.1 then (if h2 : a.2 = b.2 then isTrue (Prod.ext h1 h2) else isFalse fun e => h2 (by rw [e])) else isFalse fun e => h1 (by rw [e])
def rS (c : List V) (s : List UInt8) : Prop := c = [.str s]
def rAva (c : List V) (a : Ava) : Prop := c = avaC a
def rRdn (c : List V) (r : List Ava) : Prop := ∃ v, c = [v] ∧ PArr 2 rAva v r
def pDn (v : V) (n : List (List Ava)) : Prop := PArr 1 rRdn v n
def rDn (c : List V) (n : List (List Ava)) : Prop := ∃ v, c = [v] ∧ pDn v n
def pStrs (v : V) (l : List (List UInt8)) : Prop := PArr 1 rS v l
def rAttr (c : List V) (a : Attr) : Prop := ∃ v, c = [.str a.1, v] ∧ pStrs v a.2
def pAttrs (v : V) (l : List Attr) : Prop := PArr 2 rAttr v l
def rImg (c : List V) (x : Img) : Prop := ∃ u w, c = [u, w] ∧ pDn u x.1 ∧ pAttrs w x.2
def pImgs (v : V) (l : List Img) : Prop := PArr 2 rImg v l
theorem pDn.flat {v : V} {n : List (List Ava)} (h : pDn v n) : flatV v = true := PArr.flat h
theorem rRdn.flat (c : List V) (r : List Ava) (h : rRdn c r) : ∀ x ∈ c, flatV x = true := by
 obtain ⟨v, rfl, h⟩ := h
 simp [PArr.flat h]
theorem rDn.flat (c : List V) (n : List (List Ava)) (h : rDn c n) : ∀ x ∈ c, flatV x = true := by
 obtain ⟨v, rfl, h⟩ := h
 simp [PArr.flat h]
theorem rAttr.flat (c : List V) (a : Attr) (h : rAttr c a) : ∀ x ∈ c, flatV x = true := by
 obtain ⟨v, rfl, h⟩ := h
 have := PArr.flat h
 simp only [List.mem_cons, List.not_mem_nil, or_false]
 rintro x (rfl | rfl)
 ·rfl
 ·exact this
theorem rImg.flat (c : List V) (x : Img) (h : rImg c x) : ∀ y ∈ c, flatV y = true := by
 obtain ⟨u, w, rfl, h, g⟩ := h
 simp [PArr.flat h, PArr.flat g]
theorem Cs_ava : ∀ {r : List Ava} {cs : List V}, Cs 2 rAva cs r → cs = r.flatMap avaC
 | [], cs, h => h
 | a :: r, cs, ⟨c, q, e, _, ha, hr⟩ => by rw [e, ha, Cs_ava hr]; rfl
theorem ava_Cs : ∀ (r : List Ava), Cs 2 rAva (r.flatMap avaC) r
 | [] => rfl
 | a :: r => ⟨avaC a, _, rfl, rfl, rfl, ava_Cs r⟩
theorem isRdn_of {v : V} {r : List Ava} (h : PArr 2 rAva v r) (S : Store) : isRdn S v r := by
 obtain ⟨cs, h1, h2⟩ := h.arr S
 rw [Cs_ava h1] at h2
 exact h2
theorem pDn.is {v : V} {n : List (List Ava)} (h : pDn v n) (S : Store) : isDn S v n := by
 obtain ⟨cs, h1, h2⟩ := PArr.arr h S
 refine ⟨cs, h2, fun i hi => ?_⟩
 obtain ⟨c, r, e1, e2, x, rfl, h3⟩ := h1.at_ i hi
 refine ⟨x, ?_, ?_⟩
 ·have : (cs.drop (i * 1))[0]? = some x := by rw [e1]; rfl
  simpa [List.getElem?_drop] using this
 ·rw [show n.getD i [] = n[i] by simp [List.getD, hi]]
  exact isRdn_of h3 S
def okT (a : Attr) : Prop := a.2.length ≤ 1048576
def okTs (l : List Attr) : Prop := l.length ≤ 1048576 ∧ ∀ a ∈ l, okT a
def fitI (x : Img) : Prop := fitN x.1 ∧ okTs x.2
def fitL (l : List Img) : Prop := l.length ≤ 1048576 ∧ ∀ x ∈ l, fitI x
theorem fitL.at_ {l : List Img} (h : fitL l) {i : Nat} (hi : i < l.length) : fitI l[i] := h.2 _ (List.getElem_mem hi)
theorem take_eq_step {α : Type} {a b : List α} {i : Nat} (ha : i < a.length) (hb : i < b.length) (h : a.take i = b.take i) (e : a[i] = b[i]) : a.take (i + 1) = b.take (i + 1) := by
 rw [List.take_succ_eq_append_getElem ha, List.take_succ_eq_append_getElem hb, h, e]
theorem ne_at {α : Type} {a b : List α} {i : Nat} (ha : i < a.length) (hb : i < b.length) (e : a[i] ≠ b[i]) : a ≠ b := fun h => by subst h; exact e rfl
theorem Texts_ok {S : Store} {v w : V} {a b : List (List UInt8)} (ha : Arr 1 rS S v a) (hb : Arr 1 rS S w b) (la : a.length ≤ 1048576) : vrun E0 (.fn 140) [v, w] S = some (.bool (decide (a = b)), S) := by
 refine fn_ws Tryz.func140 rfl ?_
 have ea := ha.len (E := E0) Tryz.underlying28
 have eb := hb.len (E := E0) Tryz.underlying28
 by_cases hl : a.length = b.length
 ·have hne : (((a.length : Nat) : Int) != ((b.length : Nat) : Int)) = false := by simp [hl]
  repeat (first | refine WS.adm rfl ?_ | refine WS.region (by simp only [EV, TY, lget, ea, eb, hne, ↓reduceIte, Nat.reduceEqDiff]; with_reducible rfl) ?_)
  refine WS.cond_false (by simp only [EV, lget, ↓reduceIte, Nat.reduceEqDiff]) ?_
  repeat (first | refine WS.adm rfl ?_ | refine WS.rl ?_)
  refine WS.loopB (fun j fr S' => ∃ i, j = a.length - i ∧ i ≤ a.length ∧ lget fr 0 = v ∧ lget fr 1 = w ∧ lget fr 5 = .int .i64 (i : Nat) ∧ S = S' ∧ a.take i = b.take i)
   (fun fr S' => S = S' ∧ a = b) (j := a.length) ?_ ?_ ?_
  ·refine ⟨0, by omega, by omega, ?_, ?_, ?_, rfl, rfl⟩
   all_goals
    simp only [EV, lget, ↓reduceIte, Nat.reduceEqDiff, AT]
    try rfl
  ·rintro fr S' ⟨rfl, hall⟩
   repeat (first | refine WS.adm rfl ?_ | refine WS.rl ?_)
   refine ret_bool (t := 4) rfl rfl (List.prefix_refl _) (decide_eq_true hall) ?_
   simp only [EV, ↓reduceIte, Nat.reduceEqDiff, AT]
  ·rintro j fr S' ⟨i, rfl, hi, h0, h1, h5, hSS, hall⟩ ih last
   subst hSS
   by_cases hlt : i < a.length
   ·have hlt' : ((i : Nat) : Int) < ((a.length : Nat) : Int) := by omega
    have hltb : i < b.length := by omega
    obtain ⟨qa, xa, ja1, ja2, ja3⟩ := ha.ld1 Tryz.underlying28 tsize_9 isAggO_9 i hlt
    obtain ⟨qb, xb, jb1, jb2, jb3⟩ := hb.ld1 Tryz.underlying28 tsize_9 isAggO_9 i hltb
    obtain ⟨rfl⟩ := List.singleton_inj.1 ja3
    obtain ⟨rfl⟩ := List.singleton_inj.1 jb3
    repeat (first | refine WS.adm rfl ?_ | refine WS.region (by simp only [EV, TY, h0, h5, ea, hlt', ↓reduceIte, Nat.reduceEqDiff]; with_reducible rfl) ?_)
    refine WS.ct0 ?_
    by_cases he : a[i] = b[i]
    ·have hb' : (!(a[i] == b[i])) = false := by simp [he]
     have hinc := wrap_inc i (by omega)
     repeat (first | refine WS.adm rfl ?_ | refine WS.rl ?_)
     refine WS.draw (by simp only [DL, isEff, isRead, EV, TY, h0, h1, h5, ja1, ja2, jb1, jb2, hb', ↓reduceIte, Nat.reduceEqDiff]; with_reducible rfl) ?_
     refine WS.cf0 ?_
     repeat (first | refine WS.adm rfl ?_ | refine WS.region (by simp only [EV, TY, h5, hinc, ↓reduceIte, Nat.reduceEqDiff]; with_reducible rfl) ?_)
     refine ih (a.length - (i + 1)) _ _ (by omega) ⟨i + 1, rfl, by omega, ?_, ?_, ?_, rfl, take_eq_step hlt hltb hall he⟩
     iterate 3 simp only [EV, h0, h1, ↓reduceIte, Nat.reduceEqDiff, AT]
    ·have hb' : (!(a[i] == b[i])) = true := by simp [he]
     repeat (first | refine WS.adm rfl ?_ | refine WS.rl ?_)
     refine WS.draw (by simp only [DL, isEff, isRead, EV, TY, h0, h1, h5, ja1, ja2, jb1, jb2, hb', ↓reduceIte, Nat.reduceEqDiff]; with_reducible rfl) ?_
     refine WS.ct0 ?_
     repeat (first | refine WS.adm rfl ?_ | refine WS.r0 ?_)
     refine ret_bool (t := 4) rfl rfl (List.prefix_refl _) (decide_eq_false (ne_at hlt hltb he)) ?_
     simp only [EV, ↓reduceIte, Nat.reduceEqDiff, AT]
   ·have hlt' : ¬ ((i : Nat) : Int) < ((a.length : Nat) : Int) := by omega
    repeat (first | refine WS.adm rfl ?_ | refine WS.region (by simp only [EV, TY, h0, h5, ea, hlt', ↓reduceIte, Nat.reduceEqDiff]; with_reducible rfl) ?_)
    refine WS.cf0 ?_
    refine WS.exit rfl ?_
    have : i = a.length := by omega
    subst this
    rw [List.take_length, hl, List.take_length] at hall
    exact last _ _ ⟨rfl, hall⟩
 ·have hne : (((a.length : Nat) : Int) != ((b.length : Nat) : Int)) = true := bne_iff_ne.2 (by omega)
  repeat (first | refine WS.adm rfl ?_ | refine WS.region (by simp only [EV, TY, lget, ea, eb, hne, ↓reduceIte, Nat.reduceEqDiff]; with_reducible rfl) ?_)
  refine WS.cond_true (by simp only [EV, lget, ↓reduceIte, Nat.reduceEqDiff]) ?_
  repeat (first | refine WS.adm rfl ?_ | refine WS.rl ?_)
  refine ret_bool (t := 4) rfl rfl (List.prefix_refl _) (decide_eq_false fun e => hl (by rw [e])) ?_
  simp only [EV, lget, ↓reduceIte, Nat.reduceEqDiff, AT]
theorem two_box (S : Store) (t : TypeId) (a b c d : V) : opBox S t (.agg [a, b]) = some (.ref S.length 0, S ++ [.cells [a, b] t]) ∧ opBox (S ++ [.cells [a, b] t]) t (.agg [c, d]) = some (.ref (S.length + 1) 0, S ++ [.cells [a, b] t, .cells [c, d] t]) := by
 unfold opBox
 simp [solid, vcells]
theorem two_ld (S : Store) (t : TypeId) (a b c d : V) {u : TypeId} (hu : isAggO E0 u = some false) : opLoad E0 (S ++ [.cells [a, b] t, .cells [c, d] t]) u (.ref S.length 0) = some a ∧ opLoad E0 (S ++ [.cells [a, b] t, .cells [c, d] t]) u (.ref S.length 1) = some b ∧
  opLoad E0 (S ++ [.cells [a, b] t, .cells [c, d] t]) u (.ref (S.length + 1) 0) = some c ∧ opLoad E0 (S ++ [.cells [a, b] t, .cells [c, d] t]) u (.ref (S.length + 1) 1) = some d := by
 have h1 : (S ++ [Ob.cells [a, b] t, Ob.cells [c, d] t])[S.length]? = some (.cells [a, b] t) := by simp
 have h2 : (S ++ [Ob.cells [a, b] t, Ob.cells [c, d] t])[S.length + 1]? = some (.cells [c, d] t) := by simp
 rw [ld_ref hu, ld_ref hu, ld_ref hu, ld_ref hu, cellsOf_of h1, cellsOf_of h2]
 exact ⟨rfl, rfl, rfl, rfl⟩
theorem fa55_0 (p : Nat) : opFieldAddr E0 55 (.ref p 0) 0 = some (.ref p 0) := by kernel_rfl
theorem fa55_1 (p : Nat) : opFieldAddr E0 55 (.ref p 0) 1 = some (.ref p 1) := by kernel_rfl
theorem fa52_0 (p : Nat) : opFieldAddr E0 52 (.ref p 0) 0 = some (.ref p 0) := by kernel_rfl
theorem fa52_1 (p : Nat) : opFieldAddr E0 52 (.ref p 0) 1 = some (.ref p 1) := by kernel_rfl
theorem SameAttr_ok {S : Store} {ca cb : List V} {a b : Attr} (ha : rAttr ca a) (hb : rAttr cb b) (la : okT a) : vrun E0 (.fn 111) [.agg ca, .agg cb] S = some (.bool (decide (a = b)), S) := by
 refine fn_ws Tryz.func111 rfl ?_
 obtain ⟨va, rfl, pa⟩ := ha
 obtain ⟨vb, rfl, pb⟩ := hb
 obtain ⟨b1, b2⟩ := two_box S 55 (.str a.1) va (.str b.1) vb
 obtain ⟨l1, l2, l3, l4⟩ := two_ld S 55 (.str a.1) va (.str b.1) vb isAggO_9
 obtain ⟨_, m2, _, m4⟩ := two_ld S 55 (.str a.1) va (.str b.1) vb isAggO_28
 generalize hU : S ++ [Ob.cells [V.str a.1, va] 55, Ob.cells [V.str b.1, vb] 55] = U at *
 have ht := Texts_ok (PArr.arr pa U) (PArr.arr pb U) la
 repeat (first | refine WS.adm rfl ?_ | refine WS.region (by simp only [EV, TY, lget, b1, b2, fa55_0, fa55_1, m2, m4, callV_140, ht, ↓reduceIte, Nat.reduceEqDiff]; with_reducible rfl) ?_)
 by_cases h1 : a.1 = b.1
 ·have e1 : (a.1 == b.1) = true := by simp [h1]
  repeat (first | refine WS.adm rfl ?_ | refine WS.region (by simp only [EV, TY, lget, fa55_0, fa55_1, l1, l3, e1, ↓reduceIte, Nat.reduceEqDiff]; with_reducible rfl) ?_)
  refine ret_bool (t := 4) rfl rfl (by rw [← hU]; exact List.prefix_append _ _) (b := decide (a.2 = b.2)) ?_ ?_
  ·simp [Prod.ext_iff, h1]
  ·simp only [EV, ↓reduceIte, Nat.reduceEqDiff, AT]
 ·have e1 : (a.1 == b.1) = false := by simp [h1]
  repeat (first | refine WS.adm rfl ?_ | refine WS.region (by simp only [EV, TY, lget, fa55_0, fa55_1, l1, l3, e1, ↓reduceIte, Nat.reduceEqDiff]; with_reducible rfl) ?_)
  refine ret_bool (t := 4) rfl rfl (by rw [← hU]; exact List.prefix_append _ _) (b := false) ?_ ?_
  ·simp [Prod.ext_iff, h1]
  ·simp only [EV, ↓reduceIte, Nat.reduceEqDiff, AT]
theorem SameAttrs_ok {S : Store} {v w : V} {a b : List Attr} (ha : Arr 2 rAttr S v a) (hb : Arr 2 rAttr S w b) (la : okTs a) : vrun E0 (.fn 72) [v, w] S = some (.bool (decide (a = b)), S) := by
 refine fn_ws Tryz.func72 rfl ?_
 have ea := ha.len (E := E0) Tryz.underlying50
 have eb := hb.len (E := E0) Tryz.underlying50
 have hbound : a.length ≤ 1048576 := la.1
 by_cases hl : a.length = b.length
 ·have hne : (((a.length : Nat) : Int) != ((b.length : Nat) : Int)) = false := by simp [hl]
  repeat (first | refine WS.adm rfl ?_ | refine WS.region (by simp only [EV, TY, lget, ea, eb, hne, ↓reduceIte, Nat.reduceEqDiff]; with_reducible rfl) ?_)
  refine WS.cond_false (by simp only [EV, lget, ↓reduceIte, Nat.reduceEqDiff]) ?_
  repeat (first | refine WS.adm rfl ?_ | refine WS.rl ?_)
  refine WS.loopB (fun j fr S' => ∃ i, j = a.length - i ∧ i ≤ a.length ∧ lget fr 0 = v ∧ lget fr 1 = w ∧ lget fr 5 = .int .i64 (i : Nat) ∧ S = S' ∧ a.take i = b.take i)
   (fun fr S' => S = S' ∧ a = b) (j := a.length) ?_ ?_ ?_
  ·refine ⟨0, by omega, by omega, ?_, ?_, ?_, rfl, rfl⟩
   all_goals
    simp only [EV, lget, ↓reduceIte, Nat.reduceEqDiff, AT]
    try rfl
  ·rintro fr S' ⟨rfl, hall⟩
   repeat (first | refine WS.adm rfl ?_ | refine WS.rl ?_)
   refine ret_bool (t := 4) rfl rfl (List.prefix_refl _) (decide_eq_true hall) ?_
   simp only [EV, ↓reduceIte, Nat.reduceEqDiff, AT]
  ·rintro j fr S' ⟨i, rfl, hi, h0, h1, h5, hSS, hall⟩ ih last
   subst hSS
   by_cases hlt : i < a.length
   ·have hlt' : ((i : Nat) : Int) < ((a.length : Nat) : Int) := by omega
    have hltb : i < b.length := by omega
    obtain ⟨qa, ca, ja1, ja2, _, ja3⟩ := ha.ldA Tryz.underlying50 tsize_55 isAggO_55 i hlt
    obtain ⟨qb, cb, jb1, jb2, _, jb3⟩ := hb.ldA Tryz.underlying50 tsize_55 isAggO_55 i hltb
    have hc : vrun E0 (.fn 111) [.agg ca, .agg cb] S = some (.bool (decide (a[i] = b[i])), S) := SameAttr_ok ja3 jb3 (la.2 _ (List.getElem_mem hlt))
    repeat (first | refine WS.adm rfl ?_ | refine WS.region (by simp only [EV, TY, h0, h5, ea, hlt', ↓reduceIte, Nat.reduceEqDiff]; with_reducible rfl) ?_)
    refine WS.ct0 ?_
    by_cases he : a[i] = b[i]
    ·rw [decide_eq_true he] at hc
     have hinc := wrap_inc i (by omega)
     repeat (first | refine WS.adm rfl ?_ | refine WS.rl ?_)
     refine WS.draw (by simp only [DL, isEff, isRead, EV, TY, h0, h1, h5, ja1, ja2, jb1, jb2, callV_111, hc, ↓reduceIte, Nat.reduceEqDiff]; with_reducible rfl) ?_
     repeat (first | refine WS.adm rfl ?_ | refine WS.region (by simp only [EV, TY, lget, Bool.not_true, ↓reduceIte, Nat.reduceEqDiff]; with_reducible rfl) ?_)
     refine WS.cf0 ?_
     repeat (first | refine WS.adm rfl ?_ | refine WS.region (by simp only [EV, TY, h5, hinc, ↓reduceIte, Nat.reduceEqDiff]; with_reducible rfl) ?_)
     refine ih (a.length - (i + 1)) _ _ (by omega) ⟨i + 1, rfl, by omega, ?_, ?_, ?_, rfl, take_eq_step hlt hltb hall he⟩
     iterate 3 simp only [EV, h0, h1, ↓reduceIte, Nat.reduceEqDiff, AT]
    ·rw [decide_eq_false he] at hc
     repeat (first | refine WS.adm rfl ?_ | refine WS.rl ?_)
     refine WS.draw (by simp only [DL, isEff, isRead, EV, TY, h0, h1, h5, ja1, ja2, jb1, jb2, callV_111, hc, ↓reduceIte, Nat.reduceEqDiff]; with_reducible rfl) ?_
     repeat (first | refine WS.adm rfl ?_ | refine WS.region (by simp only [EV, TY, lget, Bool.not_false, ↓reduceIte, Nat.reduceEqDiff]; with_reducible rfl) ?_)
     refine WS.ct0 ?_
     repeat (first | refine WS.adm rfl ?_ | refine WS.r0 ?_)
     refine ret_bool (t := 4) rfl rfl (List.prefix_refl _) (decide_eq_false (ne_at hlt hltb he)) ?_
     simp only [EV, ↓reduceIte, Nat.reduceEqDiff, AT]
   ·have hlt' : ¬ ((i : Nat) : Int) < ((a.length : Nat) : Int) := by omega
    repeat (first | refine WS.adm rfl ?_ | refine WS.region (by simp only [EV, TY, h0, h5, ea, hlt', ↓reduceIte, Nat.reduceEqDiff]; with_reducible rfl) ?_)
    refine WS.cf0 ?_
    refine WS.exit rfl ?_
    have : i = a.length := by omega
    subst this
    rw [List.take_length, hl, List.take_length] at hall
    exact last _ _ ⟨rfl, hall⟩
 ·have hne : (((a.length : Nat) : Int) != ((b.length : Nat) : Int)) = true := bne_iff_ne.2 (by omega)
  repeat (first | refine WS.adm rfl ?_ | refine WS.region (by simp only [EV, TY, lget, ea, eb, hne, ↓reduceIte, Nat.reduceEqDiff]; with_reducible rfl) ?_)
  refine WS.cond_true (by simp only [EV, lget, ↓reduceIte, Nat.reduceEqDiff]) ?_
  repeat (first | refine WS.adm rfl ?_ | refine WS.rl ?_)
  refine ret_bool (t := 4) rfl rfl (List.prefix_refl _) (decide_eq_false fun e => hl (by rw [e])) ?_
  simp only [EV, lget, ↓reduceIte, Nat.reduceEqDiff, AT]
theorem Alike_ok {S : Store} {ca cb : List V} {a b : Img} (ha : rImg ca a) (hb : rImg cb b) (la : fitI a) (lb : okN b.1) : vrun E0 (.fn 34) [.agg ca, .agg cb] S = some (.bool (decide (a = b)), S) := by
 refine fn_ws Tryz.func34 rfl ?_
 obtain ⟨ua, va, rfl, na, pa⟩ := ha
 obtain ⟨ub, vb, rfl, nb, pb⟩ := hb
 obtain ⟨b1, b2⟩ := two_box S 52 ua va ub vb
 obtain ⟨l1, _, l3, _⟩ := two_ld S 52 ua va ub vb isAggO_27
 obtain ⟨_, m2, _, m4⟩ := two_ld S 52 ua va ub vb isAggO_50
 generalize hU : S ++ [Ob.cells [ua, va] 52, Ob.cells [ub, vb] 52] = U at *
 have h1 := One_ok (na.is U) (nb.is U) la.1.1 lb
 have h2 := SameAttrs_ok (PArr.arr pa U) (PArr.arr pb U) la.2
 by_cases e1 : a.1 = b.1
 ·rw [decide_eq_true e1] at h1
  repeat (first | refine WS.adm rfl ?_ | refine WS.region (by simp only [EV, TY, lget, b1, b2, fa52_0, fa52_1, l1, l3, m2, m4, callV_38, callV_72, h1, h2, ↓reduceIte, Nat.reduceEqDiff]; with_reducible rfl) ?_)
  refine ret_bool (t := 4) rfl rfl (by rw [← hU]; exact List.prefix_append _ _) (b := decide (a.2 = b.2)) ?_ ?_
  ·simp [Prod.ext_iff, e1]
  ·simp only [EV, ↓reduceIte, Nat.reduceEqDiff, AT]
 ·rw [decide_eq_false e1] at h1
  repeat (first | refine WS.adm rfl ?_ | refine WS.region (by simp only [EV, TY, lget, b1, b2, fa52_0, fa52_1, l1, l3, m2, m4, callV_38, callV_72, h1, h2, ↓reduceIte, Nat.reduceEqDiff]; with_reducible rfl) ?_)
  refine ret_bool (t := 4) rfl rfl (by rw [← hU]; exact List.prefix_append _ _) (b := false) ?_ ?_
  ·simp [Prod.ext_iff, e1]
  ·simp only [EV, ↓reduceIte, Nat.reduceEqDiff, AT]
theorem Same_img_ok {S : Store} {v w : V} {a b : List Img} (ha : Arr 2 rImg S v a) (hb : Arr 2 rImg S w b) (la : fitL a) (lb : fitL b) : vrun E0 (.fn 11) [v, w] S = some (.bool (decide (a = b)), S) := by
 refine fn_ws Tryz.func11 rfl ?_
 have ea := ha.len (E := E0) Tryz.underlying31
 have eb := hb.len (E := E0) Tryz.underlying31
 have hbound : a.length ≤ 1048576 := la.1
 by_cases hl : a.length = b.length
 ·have hne : (((a.length : Nat) : Int) != ((b.length : Nat) : Int)) = false := by simp [hl]
  repeat (first | refine WS.adm rfl ?_ | refine WS.region (by simp only [EV, TY, lget, ea, eb, hne, ↓reduceIte, Nat.reduceEqDiff]; with_reducible rfl) ?_)
  refine WS.cond_false (by simp only [EV, lget, ↓reduceIte, Nat.reduceEqDiff]) ?_
  repeat (first | refine WS.adm rfl ?_ | refine WS.rl ?_)
  refine WS.loopB (fun j fr S' => ∃ i, j = a.length - i ∧ i ≤ a.length ∧ lget fr 0 = v ∧ lget fr 1 = w ∧ lget fr 5 = .int .i64 (i : Nat) ∧ S = S' ∧ a.take i = b.take i)
   (fun fr S' => S = S' ∧ a = b) (j := a.length) ?_ ?_ ?_
  ·refine ⟨0, by omega, by omega, ?_, ?_, ?_, rfl, rfl⟩
   all_goals
    simp only [EV, lget, ↓reduceIte, Nat.reduceEqDiff, AT]
    try rfl
  ·rintro fr S' ⟨rfl, hall⟩
   repeat (first | refine WS.adm rfl ?_ | refine WS.rl ?_)
   refine ret_bool (t := 4) rfl rfl (List.prefix_refl _) (decide_eq_true hall) ?_
   simp only [EV, ↓reduceIte, Nat.reduceEqDiff, AT]
  ·rintro j fr S' ⟨i, rfl, hi, h0, h1, h5, hSS, hall⟩ ih last
   subst hSS
   by_cases hlt : i < a.length
   ·have hlt' : ((i : Nat) : Int) < ((a.length : Nat) : Int) := by omega
    have hltb : i < b.length := by omega
    obtain ⟨qa, ca, ja1, ja2, _, ja3⟩ := ha.ldA Tryz.underlying31 tsize_52 isAggO_52 i hlt
    obtain ⟨qb, cb, jb1, jb2, _, jb3⟩ := hb.ldA Tryz.underlying31 tsize_52 isAggO_52 i hltb
    have hc : vrun E0 (.fn 34) [.agg ca, .agg cb] S = some (.bool (decide (a[i] = b[i])), S) := Alike_ok ja3 jb3 (la.at_ hlt) (lb.at_ hltb).1.1
    repeat (first | refine WS.adm rfl ?_ | refine WS.region (by simp only [EV, TY, h0, h5, ea, hlt', ↓reduceIte, Nat.reduceEqDiff]; with_reducible rfl) ?_)
    refine WS.ct0 ?_
    by_cases he : a[i] = b[i]
    ·rw [decide_eq_true he] at hc
     have hinc := wrap_inc i (by omega)
     repeat (first | refine WS.adm rfl ?_ | refine WS.rl ?_)
     refine WS.draw (by simp only [DL, isEff, isRead, EV, TY, h0, h1, h5, ja1, ja2, jb1, jb2, callV_34, hc, ↓reduceIte, Nat.reduceEqDiff]; with_reducible rfl) ?_
     repeat (first | refine WS.adm rfl ?_ | refine WS.region (by simp only [EV, TY, lget, Bool.not_true, ↓reduceIte, Nat.reduceEqDiff]; with_reducible rfl) ?_)
     refine WS.cf0 ?_
     repeat (first | refine WS.adm rfl ?_ | refine WS.region (by simp only [EV, TY, h5, hinc, ↓reduceIte, Nat.reduceEqDiff]; with_reducible rfl) ?_)
     refine ih (a.length - (i + 1)) _ _ (by omega) ⟨i + 1, rfl, by omega, ?_, ?_, ?_, rfl, take_eq_step hlt hltb hall he⟩
     iterate 3 simp only [EV, h0, h1, ↓reduceIte, Nat.reduceEqDiff, AT]
    ·rw [decide_eq_false he] at hc
     repeat (first | refine WS.adm rfl ?_ | refine WS.rl ?_)
     refine WS.draw (by simp only [DL, isEff, isRead, EV, TY, h0, h1, h5, ja1, ja2, jb1, jb2, callV_34, hc, ↓reduceIte, Nat.reduceEqDiff]; with_reducible rfl) ?_
     repeat (first | refine WS.adm rfl ?_ | refine WS.region (by simp only [EV, TY, lget, Bool.not_false, ↓reduceIte, Nat.reduceEqDiff]; with_reducible rfl) ?_)
     refine WS.ct0 ?_
     repeat (first | refine WS.adm rfl ?_ | refine WS.r0 ?_)
     refine ret_bool (t := 4) rfl rfl (List.prefix_refl _) (decide_eq_false (ne_at hlt hltb he)) ?_
     simp only [EV, ↓reduceIte, Nat.reduceEqDiff, AT]
   ·have hlt' : ¬ ((i : Nat) : Int) < ((a.length : Nat) : Int) := by omega
    repeat (first | refine WS.adm rfl ?_ | refine WS.region (by simp only [EV, TY, h0, h5, ea, hlt', ↓reduceIte, Nat.reduceEqDiff]; with_reducible rfl) ?_)
    refine WS.cf0 ?_
    refine WS.exit rfl ?_
    have : i = a.length := by omega
    subst this
    rw [List.take_length, hl, List.take_length] at hall
    exact last _ _ ⟨rfl, hall⟩
 ·have hne : (((a.length : Nat) : Int) != ((b.length : Nat) : Int)) = true := bne_iff_ne.2 (by omega)
  repeat (first | refine WS.adm rfl ?_ | refine WS.region (by simp only [EV, TY, lget, ea, eb, hne, ↓reduceIte, Nat.reduceEqDiff]; with_reducible rfl) ?_)
  refine WS.cond_true (by simp only [EV, lget, ↓reduceIte, Nat.reduceEqDiff]) ?_
  repeat (first | refine WS.adm rfl ?_ | refine WS.rl ?_)
  refine ret_bool (t := 4) rfl rfl (List.prefix_refl _) (decide_eq_false fun e => hl (by rw [e])) ?_
  simp only [EV, lget, ↓reduceIte, Nat.reduceEqDiff, AT]
theorem okN.len {n : List (List Ava)} (h : okN n) : lenN n := ⟨h.1, fun r hr => (h.2 r hr).1⟩
end Go.Proofs.YtmmjlgocihhkcaaGreatDoor
