import Derived.Test.YtmmjlgocihhkcaaGreatDoorPartV
set_option linter.all false
namespace Go.Proofs.YtmmjlgocihhkcaaGreatDoor
open Go Go.Vm
set_option maxRecDepth 100000
set_option maxHeartbeats 8000000
theorem lsum_steps : ∀ n : List (List Ava), lsum (n.map stepS) + n.length ≤ 4 * szN n
 | [] => by simp [lsum, szN]
 | r :: n => by
  have ih := lsum_steps n
  have h := stepS_len r
  simp only [lsum, szN, List.map_cons, List.sum_cons, List.length_cons] at ih ⊢
  omega
theorem printS_len (n : List (List Ava)) : (printS n).length ≤ 4 * szN n := by
 have h1 := lsum_steps n
 have h2 := joinC_len 44 (n.map stepS)
 rw [List.length_map] at h2
 unfold printS
 omega
theorem szN_take (n : List (List Ava)) (m : Nat) : szN (n.take m) ≤ szN n := by
 conv => rhs; rw [← List.take_append_drop m n]
 simp only [szN, List.map_append, List.sum_append]
 omega
theorem refPrint_ok {S : Store} {v : V} {n : List (List Ava)} (h : isDn S v n) (fn : fitN n) : vrun E0 (.fn 86) [v] S = some (.str (printS n), S) := by
 refine fn_ws Tryz.func86 rfl ?_
 have lr := h.len
 repeat (first | refine WS.adm rfl ?_ | refine WS.rl ?_)
 refine WS.loopB (fun j fr U => ∃ m, j = n.length - m ∧ m ≤ n.length ∧ lget fr 0 = v ∧ lget fr 3 = .str (joinC 44 ((n.take m).map stepS)) ∧ lget fr 4 = .int .i64 (m : Nat) ∧ U = S)
  (fun fr U => lget fr 3 = .str (printS n) ∧ U = S) (j := n.length) ?_ ?_ ?_
 ·refine ⟨0, by omega, by omega, ?_, ?_, ?_, rfl⟩
  all_goals
   simp only [EV, lget, ↓reduceIte, Nat.reduceEqDiff, AT]
   try rfl
 ·rintro fr U ⟨h3, rfl⟩
  repeat (first | refine WS.adm rfl ?_ | refine WS.region (by simp only [EV, TY, h3, ↓reduceIte, Nat.reduceEqDiff]; with_reducible rfl) ?_)
  refine WS.ret1s (t := 2) rfl rfl (List.prefix_refl _) (frz_str _ _ _) ?_
  simp only [EV, ↓reduceIte, Nat.reduceEqDiff, AT]
 ·rintro j fr U ⟨m, rfl, hm, h0, h3, hk4, rfl⟩ ih last
  by_cases hmlt : m < n.length
  ·have hmlt' : ((m : Nat) : Int) < ((n.length : Nat) : Int) := by omega
   obtain ⟨a, c, j1, j2, j3⟩ := h.at_ m hmlt
   have hg : n.getD m [] = n[m] := by simp [List.getD, hmlt]
   rw [hg] at j3
   have hr : n[m] ∈ n := List.getElem_mem hmlt
   obtain ⟨om, h4⟩ := fn.rdn hr
   have st := refStep_ok j3 om h4
   have htm : (n.take (m + 1)).map stepS = (n.take m).map stepS ++ [stepS n[m]] := by
    rw [List.take_succ_eq_append_getElem hmlt, List.map_append]
    rfl
   have hln := printS_len (n.take m)
   have hls := printS_len (n.take (m + 1))
   have hsz := szN_take n m
   have hsz2 := szN_take n (m + 1)
   have hfn := fn.2
   have hsn := joinC_snoc 44 ((n.take m).map stepS) (stepS n[m])
   rw [← htm] at hsn
   unfold printS at hln hls
   generalize n[m] = r at j3 om h4 st htm hsn
   generalize hO : joinC 44 ((n.take m).map stepS) = out at h3 hln hsn
   generalize hO2 : joinC 44 ((n.take (m + 1)).map stepS) = out2 at hls hsn
   have minc := wrap_inc m (by have := fn.1.1; omega)
   have hst := stepS_len r
   by_cases hm0 : 0 < m
   ·have hm0' : (0 : Int) < ((m : Nat) : Int) := by omega
    rw [if_neg (fun e => by have := congrArg List.length e; rw [List.length_map, List.length_take, List.length_nil] at this; omega)] at hsn
    have k0 : ∀ l, opBin E0 l .add 9 (.str out) (.str [44]) = some (.str (out ++ [44])) := fun l => bin_sadd _ _ _ _ (by simp; omega)
    have k1 : ∀ l, opBin E0 l .add 9 (.str (out ++ [44])) (.str (stepS r)) = some (.str out2) := fun l => by
     rw [bin_sadd _ _ _ _ (by simp; omega), hsn]; simp
    repeat (first | refine WS.adm rfl ?_ | refine WS.region (by simp only [EV, TY, h0, hk4, lr, hmlt', ↓reduceIte, Nat.reduceEqDiff]; with_reducible rfl) ?_)
    refine WS.ct0 ?_
    repeat (first | refine WS.adm rfl ?_ | refine WS.region (by simp only [EV, TY, hk4, hm0', ↓reduceIte, Nat.reduceEqDiff]; with_reducible rfl) ?_)
    refine WS.ct0 ?_
    repeat (first | refine WS.adm rfl ?_ | refine WS.region (by simp only [EV, TY, h3, k0, ↓reduceIte, Nat.reduceEqDiff]; with_reducible rfl) ?_)
    repeat (first | refine WS.adm rfl ?_ | refine WS.region (by simp only [EV, TY, lget, h0, hk4, j1, j2, callV_112, st, k1, minc, ↓reduceIte, Nat.reduceEqDiff]; with_reducible rfl) ?_)
    refine ih (n.length - (m + 1)) _ _ (by omega) ⟨m + 1, rfl, by omega, ?_, ?_, ?_, rfl⟩
    iterate 3 simp only [EV, h0, hO2, ↓reduceIte, Nat.reduceEqDiff, AT]
   ·have hm0' : ¬ (0 : Int) < ((m : Nat) : Int) := by omega
    obtain rfl : m = 0 := by omega
    have hOe : out = [] := by rw [← hO]; rfl
    rw [if_pos (by simp)] at hsn
    subst hOe
    have k1 : ∀ l, opBin E0 l .add 9 (.str []) (.str (stepS r)) = some (.str out2) := fun l => by
     rw [bin_sadd _ _ _ _ (by simp; omega), hsn]; simp
    repeat (first | refine WS.adm rfl ?_ | refine WS.region (by simp only [EV, TY, h0, hk4, lr, hmlt', ↓reduceIte, Nat.reduceEqDiff]; with_reducible rfl) ?_)
    refine WS.ct0 ?_
    repeat (first | refine WS.adm rfl ?_ | refine WS.region (by simp only [EV, TY, hk4, hm0', ↓reduceIte, Nat.reduceEqDiff]; with_reducible rfl) ?_)
    refine WS.cf0 ?_
    repeat (first | refine WS.adm rfl ?_ | refine WS.region (by simp only [EV, TY, lget, h0, h3, hk4, j1, j2, callV_112, st, k1, minc, ↓reduceIte, Nat.reduceEqDiff]; with_reducible rfl) ?_)
    refine ih (n.length - (0 + 1)) _ _ (by omega) ⟨0 + 1, rfl, by omega, ?_, ?_, ?_, rfl⟩
    iterate 3 simp only [EV, h0, hO2, ↓reduceIte, Nat.reduceEqDiff, AT]
  ·have hmlt' : ¬ ((m : Nat) : Int) < ((n.length : Nat) : Int) := by omega
   repeat (first | refine WS.adm rfl ?_ | refine WS.region (by simp only [EV, TY, h0, hk4, lr, hmlt', ↓reduceIte, Nat.reduceEqDiff]; with_reducible rfl) ?_)
   refine WS.cf0 ?_
   refine WS.exit rfl ?_
   have : m = n.length := by omega
   subst this
   rw [List.take_length] at h3
   refine last _ _ ⟨?_, rfl⟩
   simp only [EV, h3, ↓reduceIte, Nat.reduceEqDiff, AT]
   rfl
noncomputable def rightB (n : List (List Ava)) : Bool := shapedB n && decide ((printS n).length ≤ 400)
theorem refRight_ok {S : Store} {v : V} {n : List (List Ava)} (h : isDn S v n) (fn : fitN n) : vrun E0 (.fn 41) [v] S = some (.bool (rightB n), S) := by
 refine fn_ws Tryz.func41 rfl ?_
 have h1 := Shaped_ok h fn.1
 have h2 := refPrint_ok h fn
 cases c1 : shapedB n with
 | false =>
  rw [c1] at h1
  repeat (first | refine WS.adm rfl ?_ | refine WS.region (by simp only [EV, TY, lget, callV_85, h1, callV_86, h2, ↓reduceIte, Nat.reduceEqDiff]; with_reducible rfl) ?_)
  refine ret_bool (b := false) (t := 2) rfl rfl (List.prefix_refl _) ?_ ?_
  ·unfold rightB; rw [c1]; rfl
  ·simp only [EV, ↓reduceIte, Nat.reduceEqDiff, AT]
 | true =>
  rw [c1] at h1
  by_cases c2 : (printS n).length ≤ 400
  ·have c2' : (((printS n).length : Nat) : Int) ≤ 400 := by omega
   repeat (first | refine WS.adm rfl ?_ | refine WS.region (by simp only [EV, TY, lget, callV_85, h1, callV_86, h2, c2', ↓reduceIte, Nat.reduceEqDiff]; with_reducible rfl) ?_)
   refine ret_bool (b := true) (t := 2) rfl rfl (List.prefix_refl _) ?_ ?_
   ·unfold rightB; rw [c1]; simp [c2]
   ·simp only [EV, ↓reduceIte, Nat.reduceEqDiff, AT]
  ·have c2' : ¬ (((printS n).length : Nat) : Int) ≤ 400 := by omega
   repeat (first | refine WS.adm rfl ?_ | refine WS.region (by simp only [EV, TY, lget, callV_85, h1, callV_86, h2, c2', ↓reduceIte, Nat.reduceEqDiff]; with_reducible rfl) ?_)
   refine ret_bool (b := false) (t := 2) rfl rfl (List.prefix_refl _) ?_ ?_
   ·unfold rightB; rw [c1]; simp [c2]
   ·simp only [EV, ↓reduceIte, Nat.reduceEqDiff, AT]
theorem rightB_shaped {n : List (List Ava)} (h : rightB n = true) : shapedP n := by
 unfold rightB at h
 rw [Bool.and_eq_true] at h
 by_cases hs : shapedP n
 ·exact hs
 ·rw [shapedB_false hs] at h
  exact absurd h.1 (by simp)
noncomputable def rightL (l : List Img) : Bool := l.all fun x => rightB x.1
theorem right_all {S : Store} {v : V} {l : List Img} (h : Arr 2 rImg S v l) (fl : fitL l) : vrun E0 (.fn 18) [v] S = some (.bool (rightL l), S) := by
 refine fn_ws Tryz.func18 rfl ?_
 have ln := h.len (E := E0) Tryz.underlying31
 repeat (first | refine WS.adm rfl ?_ | refine WS.rl ?_)
 refine WS.loopB (fun j fr U => ∃ i, j = l.length - i ∧ i ≤ l.length ∧ lget fr 0 = v ∧ lget fr 3 = .int .i64 (i : Nat) ∧ U = S ∧ ∀ x ∈ l.take i, rightB x.1 = true)
  (fun fr U => U = S ∧ ∀ x ∈ l, rightB x.1 = true) (j := l.length) ?_ ?_ ?_
 ·refine ⟨0, by omega, by omega, ?_, ?_, rfl, fun x hx => by simp at hx⟩
  all_goals
   simp only [EV, lget, ↓reduceIte, Nat.reduceEqDiff, AT]
   try rfl
 ·rintro fr U ⟨rfl, hall⟩
  repeat (first | refine WS.adm rfl ?_ | refine WS.rl ?_)
  refine ret_bool (b := true) (t := 2) rfl rfl (List.prefix_refl _) ?_ ?_
  ·exact List.all_eq_true.2 fun x hx => hall x hx
  ·simp only [EV, ↓reduceIte, Nat.reduceEqDiff, AT]
 ·rintro j fr U ⟨i, rfl, hi, h0, h3, rfl, hall⟩ ih last
  by_cases hlt : i < l.length
  ·have hlt' : ((i : Nat) : Int) < ((l.length : Nat) : Int) := by omega
   obtain ⟨a, u, y, fa, i1, i2, f1, f2, i3, i4⟩ := img_at h i hlt
   have fx := fl.at_ hlt
   have rt := refRight_ok (i3.is U) fx.1
   have iinc := wrap_inc i (by have := fl.1; omega)
   have hm : l[i] ∈ l := List.getElem_mem hlt
   have htk := List.take_succ_eq_append_getElem hlt
   generalize l[i] = x at i3 i4 fx rt hm htk
   repeat (first | refine WS.adm rfl ?_ | refine WS.region (by simp only [EV, TY, h0, h3, ln, hlt', ↓reduceIte, Nat.reduceEqDiff]; with_reducible rfl) ?_)
   refine WS.ct0 ?_
   cases c : rightB x.1 with
   | true =>
    rw [c] at rt
    repeat (first | refine WS.adm rfl ?_ | refine WS.region (by simp only [EV, TY, lget, h0, h3, i1, f1, f2, callV_41, rt, ↓reduceIte, Nat.reduceEqDiff]; with_reducible rfl) ?_)
    refine WS.cf0 ?_
    repeat (first | refine WS.adm rfl ?_ | refine WS.region (by simp only [EV, TY, h3, iinc, ↓reduceIte, Nat.reduceEqDiff]; with_reducible rfl) ?_)
    refine ih (l.length - (i + 1)) _ _ (by omega) ⟨i + 1, rfl, by omega, ?_, ?_, rfl, fun z hz => ?_⟩
    iterate 2 simp only [EV, h0, ↓reduceIte, Nat.reduceEqDiff, AT]
    ·rw [htk, List.mem_append, List.mem_singleton] at hz
     rcases hz with hz | rfl
     ·exact hall z hz
     ·exact c
   | false =>
    rw [c] at rt
    repeat (first | refine WS.adm rfl ?_ | refine WS.region (by simp only [EV, TY, lget, h0, h3, i1, f1, f2, callV_41, rt, ↓reduceIte, Nat.reduceEqDiff]; with_reducible rfl) ?_)
    refine WS.ct0 ?_
    repeat (first | refine WS.adm rfl ?_ | refine WS.rl ?_)
    refine ret_bool (b := false) (t := 2) rfl rfl (List.prefix_refl _) ?_ ?_
    ·exact List.all_eq_false.2 ⟨x, hm, by simp [c]⟩
    ·simp only [EV, ↓reduceIte, Nat.reduceEqDiff, AT]
  ·have hlt' : ¬ ((i : Nat) : Int) < ((l.length : Nat) : Int) := by omega
   repeat (first | refine WS.adm rfl ?_ | refine WS.region (by simp only [EV, TY, h0, h3, ln, hlt', ↓reduceIte, Nat.reduceEqDiff]; with_reducible rfl) ?_)
   refine WS.cf0 ?_
   refine WS.exit rfl ?_
   have : i = l.length := by omega
   subst this
   rw [List.take_length] at hall
   exact last _ _ ⟨rfl, hall⟩
def dhex (b : UInt8) : Int := idxInt (digitsS.findIdx? (· == smallB b))
def escL : List UInt8 := [34, 43, 44, 59, 60, 62, 92, 35, 61, 32]
def hexByte (a b : UInt8) : UInt8 := UInt8.ofNat (16 * (dhex a).toNat + (dhex b).toNat)
def escS (s : List UInt8) : UInt8 × Nat :=
 if 1 < s.length ∧ isIn escL (s.getD 1 0) = true then (s.getD 1 0, 2)
 else if 2 < s.length ∧ 0 ≤ dhex (s.getD 1 0) ∧ 0 ≤ dhex (s.getD 2 0) then (hexByte (s.getD 1 0) (s.getD 2 0), 3) else (0, 0)
def finR (out : List UInt8) (bare : Bool) (s : List UInt8) : Option (List UInt8 × List UInt8) :=
 if out ≠ [] ∧ out.getD (out.length - 1) 0 = 32 ∧ bare = true then none else some (out, s)
theorem escS_le (s : List UInt8) (h : (escS s).2 ≠ 0) : 2 ≤ (escS s).2 ∧ (escS s).2 ≤ s.length := by
 unfold escS at h ⊢
 split
 ·rename_i h1
  exact ⟨by simp, h1.1⟩
 ·rename_i h1
  rw [if_neg h1] at h
  split
  ·rename_i h2
   exact ⟨by simp, h2.1⟩
  ·rename_i h2
   rw [if_neg h2] at h
   simp at h
def readL (out : List UInt8) (bare : Bool) (s : List UInt8) : Option (List UInt8 × List UInt8) :=
 match s with
 | [] => finR out bare []
 | c :: t =>
  if c = 44 ∨ c = 43 then finR out bare (c :: t)
  else if c = 92 then
   if h : (escS (c :: t)).2 = 0 then none else readL (out ++ [(escS (c :: t)).1]) false ((c :: t).drop (escS (c :: t)).2)
  else if c = 0 ∨ isIn spL c = true ∨ (out = [] ∧ (c = 35 ∨ c = 32)) then none
  else readL (out ++ [c]) true t
termination_by s.length
decreasing_by
 ·have := escS_le _ h
  simp at this ⊢
  omega
 ·simp
theorem readL_suffix (out : List UInt8) (bare : Bool) (s : List UInt8) : ∀ {v r}, readL out bare s = some (v, r) → r <:+ s ∧ v.length + r.length ≤ out.length + s.length := by
 have fin : ∀ (out : List UInt8) (bare : Bool) (s : List UInt8) (v r : List UInt8), finR out bare s = some (v, r) → r <:+ s ∧ v.length + r.length ≤ out.length + s.length := by
  intro out bare s v r h
  unfold finR at h
  split at h
  ·cases h
  ·injection h with h
   injection h with h1 h2
   subst h1 h2
   exact ⟨List.suffix_refl _, Nat.le_refl _⟩
 induction out, bare, s using readL.induct with
 | case1 out bare => intro v r h; rw [readL] at h; exact fin _ _ _ _ _ h
 | case2 out bare c t h1 => intro v r h; rw [readL, if_pos h1] at h; exact fin _ _ _ _ _ h
 | case3 out bare t h2 h3 =>
  intro v r h
  rw [readL, if_neg h2, if_pos rfl, dif_pos h3] at h; cases h
 | case4 out bare t h2 h3 ih =>
  intro v r h
  rw [readL, if_neg h2, if_pos rfl, dif_neg h3] at h
  obtain ⟨g1, g2⟩ := ih h
  have := escS_le _ h3
  refine ⟨g1.trans (List.drop_suffix _ _), ?_⟩
  rw [List.length_drop] at g2
  simp only [List.length_append, List.length_singleton] at g2
  omega
 | case5 out bare c t h1 h2 h3 => intro v r h; rw [readL, if_neg h1, if_neg h2, if_pos h3] at h; cases h
 | case6 out bare c t h1 h2 h3 ih =>
  intro v r h
  rw [readL, if_neg h1, if_neg h2, if_neg h3] at h
  obtain ⟨g1, g2⟩ := ih h
  refine ⟨g1.trans (List.suffix_cons _ _), ?_⟩
  simp only [List.length_append, List.length_singleton] at g2
  simp only [List.length_cons]
  omega
def parseL (a : List (List Ava)) (r : List Ava) (s : List UInt8) : Option (List (List Ava)) :=
 match s.findIdx? (· == 61) with
 | none => none
 | some k => match h : readL [] true (s.drop (k + 1)) with
  | none => none
  | some (v, []) => some (a ++ [r ++ [(s.take k, v)]])
  | some (v, c :: t) => if c = 44 then parseL (a ++ [r ++ [(s.take k, v)]]) [] t else parseL a (r ++ [(s.take k, v)]) t
termination_by s.length
decreasing_by
 all_goals
  have := (readL_suffix _ _ _ h).2
  simp at this
  omega
theorem parseL_some (a : List (List Ava)) (r : List Ava) (s : List UInt8) {k : Nat} {v rest : List UInt8} (h : s.findIdx? (· == 61) = some k) (hr : readL [] true (s.drop (k + 1)) = some (v, rest)) :
  parseL a r s = if rest = [] then some (a ++ [r ++ [(s.take k, v)]]) else if rest.getD 0 0 = 44 then parseL (a ++ [r ++ [(s.take k, v)]]) [] (rest.drop 1) else parseL a (r ++ [(s.take k, v)]) (rest.drop 1) := by
 rw [parseL]
 split
 ·rename_i hk
  rw [h] at hk; cases hk
 ·rename_i k' hk
  rw [h] at hk
  injection hk with hk
  subst hk
  split
  ·rename_i h2
   rw [hr] at h2; cases h2
  ·rename_i v' h2
   rw [hr] at h2
   injection h2 with h2
   injection h2 with h3 h4
   subst h3 h4
   simp
  ·rename_i v' c t h2
   rw [hr] at h2
   injection h2 with h2
   injection h2 with h3 h4
   subst h3 h4
   simp
theorem digs_ok (c : UInt8) (h : c < 32 ∨ c = 127) : isIn escL (digS (c.toNat / 16)) = false ∧ 0 ≤ dhex (digS (c.toNat / 16)) ∧ 0 ≤ dhex (digS (c.toNat % 16)) ∧ hexByte (digS (c.toNat / 16)) (digS (c.toNat % 16)) = c := by
 have := all256 (p := fun c => !(decide (c < 32 ∨ c = 127)) || (!isIn escL (digS (c.toNat / 16)) && decide (0 ≤ dhex (digS (c.toNat / 16))) && decide (0 ≤ dhex (digS (c.toNat % 16))) && (hexByte (digS (c.toNat / 16)) (digS (c.toNat % 16)) == c))) (by decide +kernel) c
 rw [decide_eq_true h] at this
 simpa [and_assoc] using this
theorem esc_in (c : UInt8) (h : isIn spL c = true ∨ c = 35 ∨ c = 32) : isIn escL c = true := by
 have := all256 (p := fun c => !(isIn spL c || c == 35 || c == 32) || isIn escL c) (by decide +kernel) c
 rcases h with h | h | h
 ·simpa [h] using this
 ·subst h; decide
 ·subst h; decide
theorem spl_not (c : UInt8) (h : ¬ isIn spL c = true) : c ≠ 44 ∧ c ≠ 43 ∧ c ≠ 92 := by
 refine ⟨?_, ?_, ?_⟩ <;> intro e <;> subst e <;> exact h (by decide)
def Ends (rest : List UInt8) : Prop := rest = [] ∨ (∃ t, rest = 44 :: t) ∨ ∃ t, rest = 43 :: t
theorem finR_ok {out : List UInt8} {bare : Bool} {s : List UInt8} (h : ¬ (out ≠ [] ∧ out.getD (out.length - 1) 0 = 32 ∧ bare = true)) : finR out bare s = some (out, s) := if_neg h
theorem readL_end {out : List UInt8} {bare : Bool} {rest : List UInt8} (he : Ends rest) (h : ¬ (out ≠ [] ∧ out.getD (out.length - 1) 0 = 32 ∧ bare = true)) : readL out bare rest = some (out, rest) := by
 rcases he with rfl | ⟨t, rfl⟩ | ⟨t, rfl⟩
 ·rw [readL]; exact finR_ok h
 ·rw [readL, if_pos (.inl rfl)]; exact finR_ok h
 ·rw [readL, if_pos (.inr rfl)]; exact finR_ok h
theorem readL_esc {out : List UInt8} {bare : Bool} {t : List UInt8} {c : UInt8} {k : Nat} (h : escS (92 :: t) = (c, k)) (hk : k ≠ 0) : readL out bare (92 :: t) = readL (out ++ [c]) false ((92 :: t).drop k) := by
 rw [readL, if_neg (by decide), if_pos rfl]
 rw [h]
 simp only
 rw [dif_neg hk]
theorem read_value (n : Nat) (rest : List UInt8) (he : Ends rest) : ∀ (s : List UInt8) (i : Nat) (out : List UInt8) (bare : Bool), i + s.length = n → out.length = i → (s = [] → ¬ (out ≠ [] ∧ out.getD (out.length - 1) 0 = 32 ∧ bare = true)) →
  readL out bare (valF n i s ++ rest) = some (out ++ s, rest)
 | [], i, out, bare, h1, h2, h3 => by
  rw [valF, List.nil_append, List.append_nil]
  exact readL_end he (h3 rfl)
 | c :: s, i, out, bare, h1, h2, h3 => by
  simp only [List.length_cons] at h1
  have ih := fun bare h => read_value n rest he s (i + 1) (out ++ [c]) bare (by omega) (by simp; omega) h
  have e : out ++ c :: s = (out ++ [c]) ++ s := by simp
  rw [valF, e, List.append_assoc]
  generalize valF n (i + 1) s ++ rest = t at ih
  unfold valB
  by_cases c1 : c < 32 ∨ c = 127
  ·rw [if_pos c1]
   obtain ⟨d1, d2, d3, d4⟩ := digs_ok c c1
   have hesc : escS (92 :: digS (c.toNat / 16) :: digS (c.toNat % 16) :: t) = (c, 3) := by
    unfold escS
    rw [if_neg (by simp only [List.getD_cons_succ, List.getD_cons_zero, d1]; simp), if_pos ⟨by simp, d2, d3⟩]
    simp only [List.getD_cons_succ, List.getD_cons_zero, d4]
   show readL out bare (92 :: digS (c.toNat / 16) :: digS (c.toNat % 16) :: t) = _
   rw [readL_esc hesc (by decide)]
   exact ih false (fun _ h => by simp at h)
  ·rw [if_neg c1]
   by_cases c2 : isIn spL c = true ∨ (i = 0 ∧ (c = 35 ∨ c = 32)) ∨ (i + 1 = n ∧ c = 32)
   ·rw [if_pos c2]
    have hin : isIn escL c = true := esc_in c (by
     rcases c2 with h | ⟨_, h⟩ | ⟨_, h⟩
     ·exact .inl h
     ·exact .inr h
     ·exact .inr (.inr h))
    have hesc : escS (92 :: c :: t) = (c, 2) := by
     unfold escS
     rw [if_pos ⟨by simp, hin⟩]
     rfl
    show readL out bare (92 :: c :: t) = _
    rw [readL_esc hesc (by decide)]
    exact ih false (fun _ h => by simp at h)
   ·rw [if_neg c2]
    have n1 : ¬ isIn spL c = true := fun h => c2 (.inl h)
    obtain ⟨n2, n3, n4⟩ := spl_not c n1
    have n5 : c ≠ 0 := fun h => c1 (.inl (by subst h; decide))
    show readL out bare (c :: t) = _
    rw [readL, if_neg (fun h => h.elim n2 n3), if_neg n4, if_neg]
    ·refine ih true fun hs h => ?_
     subst hs
     have : (out ++ [c]).getD ((out ++ [c]).length - 1) 0 = c := by simp [List.getD]
     rw [this] at h
     exact c2 (.inr (.inr ⟨by simp at h1; omega, h.2.1⟩))
    ·rintro (h | h | ⟨h, g⟩)
     ·exact n5 h
     ·exact n1 h
     ·subst h
      exact c2 (.inr (.inl ⟨by simpa using h2.symm, g⟩))
theorem read_valueS (v rest : List UInt8) (he : Ends rest) : readL [] true (valueS v ++ rest) = some (v, rest) := by
 have := read_value v.length rest he v 0 [] true (by omega) rfl (fun _ h => h.1 rfl)
 simpa [valueS] using this
theorem tyCh_no (i : Nat) (c : UInt8) (h : tyCh i c = true) : c ≠ 61 ∧ c ≠ 0 := by
 unfold tyCh at h
 constructor
 ·intro e
  subst e
  have h1 : letterZ (((61 : UInt8).toNat : Nat) : Int) = false := by decide
  have h2 : digitZ (((61 : UInt8).toNat : Nat) : Int) = false := by decide
  rw [h1, h2] at h
  revert h
  cases (i == 0) <;> decide
 ·intro e
  subst e
  have h1 : letterZ (((0 : UInt8).toNat : Nat) : Int) = false := by decide
  have h2 : digitZ (((0 : UInt8).toNat : Nat) : Int) = false := by decide
  rw [h1, h2] at h
  revert h
  cases (i == 0) <;> decide
theorem type_chars (t : List UInt8) (h : typeB t = true) : t ≠ [] ∧ ∀ c ∈ t, c ≠ 61 ∧ c ≠ 0 := by
 unfold typeB at h
 rw [Bool.and_eq_true, Bool.and_eq_true] at h
 obtain ⟨⟨h1, _⟩, h2⟩ := h
 have h1 := of_decide_eq_true h1
 refine ⟨fun e => by subst e; simp at h1, fun c hc => ?_⟩
 obtain ⟨q, hq, rfl⟩ := List.getElem_of_mem hc
 have := List.all_eq_true.1 h2 q (List.mem_range.2 hq)
 have := tyCh_no q _ this
 simpa [List.getD, hq] using this
theorem find_type (t r : List UInt8) (h : typeB t = true) : (t ++ 61 :: r).findIdx? (· == 61) = some t.length := by
 have hw := (type_chars t h).2
 rw [List.findIdx?_eq_some_iff_getElem]
 refine ⟨by simp, by simp, fun j hj => ?_⟩
 have := (hw t[j] (List.getElem_mem hj)).1
 simpa [List.getElem_append_left hj] using this
theorem parse_ava (acc : List (List Ava)) (r : List Ava) (a : Ava) (ht : typeB a.1 = true) (rest : List UInt8) (he : Ends rest) :
  parseL acc r (textA a ++ rest) = if rest = [] then some (acc ++ [r ++ [a]]) else if rest.getD 0 0 = 44 then parseL (acc ++ [r ++ [a]]) [] (rest.drop 1) else parseL acc (r ++ [a]) (rest.drop 1) := by
 have e : textA a ++ rest = a.1 ++ 61 :: (valueS a.2 ++ rest) := by simp [textA]
 rw [e]
 have hf := find_type a.1 (valueS a.2 ++ rest) ht
 have hd : (a.1 ++ 61 :: (valueS a.2 ++ rest)).drop (a.1.length + 1) = valueS a.2 ++ rest := by
  rw [← List.drop_drop]; simp
 have hr : readL [] true ((a.1 ++ 61 :: (valueS a.2 ++ rest)).drop (a.1.length + 1)) = some (a.2, rest) := by
  rw [hd]; exact read_valueS a.2 rest he
 rw [parseL_some _ _ _ hf hr]
 have htk : (a.1 ++ 61 :: (valueS a.2 ++ rest)).take a.1.length = a.1 := by simp
 rw [htk]
def EndsC (rest : List UInt8) : Prop := rest = [] ∨ ∃ t, rest = 44 :: t
theorem parse_step (acc : List (List Ava)) (rest : List UInt8) (he : EndsC rest) : ∀ (az : List Ava) (r : List Ava) (a : Ava), typeB a.1 = true → (∀ x ∈ az, typeB x.1 = true) →
  parseL acc r (textA a ++ (az.flatMap (fun x => 43 :: textA x) ++ rest)) = if rest = [] then some (acc ++ [r ++ a :: az]) else parseL (acc ++ [r ++ a :: az]) [] (rest.drop 1)
 | [], r, a, ha, _ => by
  rw [List.flatMap_nil, List.nil_append]
  rcases he with rfl | ⟨t, rfl⟩
  ·rw [parse_ava _ _ _ ha _ (.inl rfl), if_pos rfl, if_pos rfl]
  ·rw [parse_ava _ _ _ ha _ (.inr (.inl ⟨t, rfl⟩)), if_neg (by simp), if_pos (show (44 :: t).getD 0 0 = 44 from rfl), if_neg (by simp)]
 | b :: az, r, a, ha, h => by
  have e : (b :: az).flatMap (fun x => 43 :: textA x) ++ rest = 43 :: (textA b ++ (az.flatMap (fun x => 43 :: textA x) ++ rest)) := by simp
  rw [e, parse_ava _ _ _ ha _ (.inr (.inr ⟨_, rfl⟩)), if_neg (by simp), if_neg (by simp)]
  simp only [List.drop_succ_cons, List.drop_zero]
  rw [parse_step acc rest he az (r ++ [a]) b (h b (by simp)) (fun x hx => h x (by simp [hx]))]
  simp
def stepT (r : List Ava) : Prop := r ≠ [] ∧ ∀ x ∈ r, typeB x.1 = true
theorem stepS_cons (a : Ava) (az : List Ava) : stepS (a :: az) = textA a ++ az.flatMap (fun x => 43 :: textA x) := by
 simp [stepS, joinC, List.flatMap_map]
theorem parse_steps : ∀ (n : List (List Ava)) (acc : List (List Ava)) (r : List Ava), stepT r → (∀ x ∈ n, stepT x) → parseL acc [] (stepS r ++ n.flatMap (fun x => 44 :: stepS x)) = some (acc ++ r :: n)
 | [], acc, r, hr, _ => by
  obtain ⟨h0, ht⟩ := hr
  cases r with
  | nil => exact absurd rfl h0
  | cons a az =>
   have e : stepS (a :: az) ++ ([] : List (List Ava)).flatMap (fun x => 44 :: stepS x) = textA a ++ (az.flatMap (fun x => 43 :: textA x) ++ []) := by rw [stepS_cons]; simp
   rw [e, parse_step acc [] (.inl rfl) az [] a (ht a (by simp)) (fun x hx => ht x (by simp [hx])), if_pos rfl]
   simp
 | b :: n, acc, r, hr, h => by
  obtain ⟨h0, ht⟩ := hr
  cases r with
  | nil => exact absurd rfl h0
  | cons a az =>
   have e : stepS (a :: az) ++ (b :: n).flatMap (fun x => 44 :: stepS x) = textA a ++ (az.flatMap (fun x => 43 :: textA x) ++ 44 :: (stepS b ++ n.flatMap (fun x => 44 :: stepS x))) := by rw [stepS_cons]; simp
   rw [e, parse_step acc _ (.inr ⟨_, rfl⟩) az [] a (ht a (by simp)) (fun x hx => ht x (by simp [hx])), if_neg (by simp)]
   simp only [List.drop_succ_cons, List.drop_zero, List.nil_append]
   rw [parse_steps n (acc ++ [a :: az]) b (h b (by simp)) (fun x hx => h x (by simp [hx]))]
   simp
theorem stepT_of {n : List (List Ava)} (sh : shapedP n) : ∀ r ∈ n, stepT r := by
 intro r hr
 obtain ⟨i, hi, rfl⟩ := List.getElem_of_mem hr
 have h := sh.2 i hi
 rw [show n.getD i [] = n[i] by simp [List.getD, hi]] at h
 refine ⟨fun e => by have := h.1; rw [e] at this; simp at this, fun x hx => ?_⟩
 obtain ⟨q, hq, rfl⟩ := List.getElem_of_mem hx
 have := (h.2.2 q hq).1
 simpa [List.getD, hq] using this
theorem smallB_no (c : UInt8) : (tyCh 0 c = true → tyCh 0 (smallB c) = true) ∧ (tyCh 1 c = true → tyCh 1 (smallB c) = true) := by
 have := all256 (p := fun c => (!(tyCh 0 c) || tyCh 0 (smallB c)) && (!(tyCh 1 c) || tyCh 1 (smallB c))) (by decide +kernel) c
 rw [Bool.and_eq_true, Bool.or_eq_true, Bool.or_eq_true] at this
 refine ⟨fun h => ?_, fun h => ?_⟩
 ·rcases this.1 with h2 | h2
  ·rw [h] at h2; cases h2
  ·exact h2
 ·rcases this.2 with h2 | h2
  ·rw [h] at h2; cases h2
  ·exact h2
theorem tyCh_succ (i : Nat) (c : UInt8) : tyCh (i + 1) c = tyCh 1 c := rfl
theorem typeB_small (t : List UInt8) (h : typeB t = true) : typeB (smallS t) = true := by
 unfold typeB at h ⊢
 rw [smallS_len]
 rw [Bool.and_eq_true] at h ⊢
 refine ⟨h.1, List.all_eq_true.2 fun i hi => ?_⟩
 have h2 := List.all_eq_true.1 h.2 i hi
 have hlt := List.mem_range.1 hi
 have e : (smallS t).getD i 0 = smallB (t.getD i 0) := by simp [smallS, List.getD, hlt]
 rw [e]
 cases i with
 | zero => exact (smallB_no _).1 h2
 | succ i =>
  rw [tyCh_succ] at h2 ⊢
  exact (smallB_no _).2 h2
theorem stepT_norm {r : List Ava} (h : stepT r) : stepT (normR r) := by
 obtain ⟨h0, h1⟩ := h
 refine ⟨fun e => ?_, fun x hx => ?_⟩
 ·have := congrArg List.length e
  rw [normR_len] at this
  exact h0 (List.length_eq_zero_iff.1 this)
 ·obtain ⟨y, hy, rfl⟩ := List.mem_map.1 (srt_mem.1 hx)
  exact typeB_small _ (h1 y hy)
theorem digS_no (c : UInt8) : digS (c.toNat / 16) ≠ 0 ∧ digS (c.toNat % 16) ≠ 0 := by
 have := all256 (p := fun c => digS (c.toNat / 16) != 0 && digS (c.toNat % 16) != 0) (by decide +kernel) c
 simpa using this
theorem valB_no (n i : Nat) (c x : UInt8) (h : x ∈ valB n i c) : x ≠ 0 := by
 unfold valB at h
 split at h
 ·simp only [List.mem_cons, List.not_mem_nil, or_false] at h
  rcases h with rfl | rfl | rfl
  ·decide
  ·exact (digS_no c).1
  ·exact (digS_no c).2
 ·rename_i hc
  have h0 : c ≠ 0 := fun e => hc (.inl (by subst e; decide))
  split at h
  ·simp only [List.mem_cons, List.not_mem_nil, or_false] at h
   rcases h with rfl | rfl
   ·decide
   ·exact h0
  ·simp only [List.mem_cons, List.not_mem_nil, or_false] at h
   subst h
   exact h0
theorem valF_no (n : Nat) : ∀ (s : List UInt8) (i : Nat) (x : UInt8), x ∈ valF n i s → x ≠ 0
 | [], i, x, h => by simp [valF] at h
 | c :: s, i, x, h => by
  rw [valF, List.mem_append] at h
  rcases h with h | h
  ·exact valB_no _ _ _ _ h
  ·exact valF_no n s _ x h
theorem textA_no {a : Ava} (h : typeB a.1 = true) (x : UInt8) (hx : x ∈ textA a) : x ≠ 0 := by
 unfold textA at hx
 rw [List.mem_append, List.mem_cons] at hx
 rcases hx with hx | rfl | hx
 ·exact ((type_chars a.1 h).2 x hx).2
 ·decide
 ·exact valF_no _ _ _ x hx
theorem stepS_no {r : List Ava} (h : stepT r) (x : UInt8) (hx : x ∈ stepS r) : x ≠ 0 := by
 obtain ⟨h0, h1⟩ := h
 cases r with
 | nil => exact absurd rfl h0
 | cons a az =>
  rw [stepS_cons, List.mem_append, List.mem_flatMap] at hx
  rcases hx with hx | ⟨b, hb, hx⟩
  ·exact textA_no (h1 a (by simp)) x hx
  ·rcases List.mem_cons.1 hx with rfl | hx
   ·decide
   ·exact textA_no (h1 b (by simp [hb])) x hx
theorem stepS_inj {r s : List Ava} (hr : stepT r) (hs : stepT s) (h : stepS r = stepS s) : r = s := by
 have h1 := parse_steps [] [] r hr (by simp)
 have h2 := parse_steps [] [] s hs (by simp)
 rw [List.flatMap_nil, List.append_nil] at h1 h2
 rw [h, h2] at h1
 simpa using h1.symm
theorem zero_split : ∀ (A B X Y : List UInt8), (∀ x ∈ A, x ≠ 0) → (∀ x ∈ B, x ≠ 0) → A ++ 0 :: X <+: B ++ 0 :: Y → A = B ∧ X <+: Y
 | [], [], X, Y, _, _, h => ⟨rfl, (List.cons_prefix_cons.1 h).2⟩
 | [], b :: B, X, Y, _, hB, h => absurd (List.cons_prefix_cons.1 h).1.symm (hB b (by simp))
 | a :: A, [], X, Y, hA, _, h => absurd (List.cons_prefix_cons.1 h).1 (hA a (by simp))
 | a :: A, b :: B, X, Y, hA, hB, h => by
  obtain ⟨h1, h2⟩ := List.cons_prefix_cons.1 h
  obtain ⟨h3, h4⟩ := zero_split A B X Y (fun x hx => hA x (by simp [hx])) (fun x hx => hB x (by simp [hx])) h2
  exact ⟨by rw [h1, h3], h4⟩
def keyL (l : List (List Ava)) : List UInt8 := l.flatMap fun r => stepS r ++ [0]
theorem keyL_pre : ∀ (l k : List (List Ava)), (∀ r ∈ l, stepT r) → (∀ r ∈ k, stepT r) → (keyL l <+: keyL k ↔ l <+: k)
 | [], k, _, _ => by simp [keyL]
 | r :: l, [], hl, _ => by
  constructor
  ·intro h
   have := h.length_le
   simp [keyL] at this
  ·intro h
   simp at h
 | r :: l, s :: k, hl, hk => by
  have ih := keyL_pre l k (fun x hx => hl x (by simp [hx])) (fun x hx => hk x (by simp [hx]))
  have e : ∀ (r : List Ava) l, keyL (r :: l) = stepS r ++ 0 :: keyL l := fun r l => by simp [keyL]
  rw [e, e]
  constructor
  ·intro h
   obtain ⟨h1, h2⟩ := zero_split _ _ _ _ (stepS_no (hl r (by simp))) (stepS_no (hk s (by simp))) h
   have := stepS_inj (hl r (by simp)) (hk s (by simp)) h1
   subst this
   exact List.cons_prefix_cons.2 ⟨rfl, ih.1 h2⟩
  ·intro h
   obtain ⟨h1, h2⟩ := List.cons_prefix_cons.1 h
   subst h1
   exact (List.prefix_append_right_inj _).2 (List.cons_prefix_cons.2 ⟨rfl, ih.2 h2⟩)
theorem key_under {a b : List (List Ava)} (sa : shapedP a) (sb : shapedP b) : underB a b = true ↔ keyS b <+: keyS a := by
 have ha : ∀ r ∈ (normN a).reverse, stepT r := fun r hr => by
  obtain ⟨x, hx, rfl⟩ := List.mem_map.1 (List.mem_reverse.1 hr)
  exact stepT_norm (stepT_of sa x hx)
 have hb : ∀ r ∈ (normN b).reverse, stepT r := fun r hr => by
  obtain ⟨x, hx, rfl⟩ := List.mem_map.1 (List.mem_reverse.1 hr)
  exact stepT_norm (stepT_of sb x hx)
 rw [under_iff, ← List.reverse_prefix]
 exact (keyL_pre _ _ hb ha).symm
theorem key_same {a b : List (List Ava)} (sa : shapedP a) (sb : shapedP b) : normN a = normN b ↔ keyS a = keyS b := by
 constructor
 ·intro h
  unfold keyS
  rw [h]
 ·intro h
  have h1 := (key_under sa sb).2 (by rw [h]; exact List.prefix_refl _)
  have h2 := (key_under sb sa).2 (by rw [h]; exact List.prefix_refl _)
  have h3 := under_both a b
  rw [h1, h2] at h3
  exact of_decide_eq_true h3.symm
end Go.Proofs.YtmmjlgocihhkcaaGreatDoor
