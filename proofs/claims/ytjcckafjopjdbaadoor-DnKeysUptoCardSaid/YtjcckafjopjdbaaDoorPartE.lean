import Derived.Test.YtjcckafjopjdbaaDoorPartC
import Derived.Test.YtjcckafjopjdbaaDoorPartD
set_option linter.all false
/- Sorting by keys, stable: plain law. -/
namespace Go.Proofs.YtjcckafjopjdbaaDoor
open Go Go.Vm
set_option linter.unusedSimpArgs false
set_option linter.unusedVariables false
abbrev lessB := Op.bytesLess
theorem less_irrefl : ∀ x, lessB x x = false
  | [] => rfl
  | a :: x => by
    have := less_irrefl x
    simp only [lessB, Op.bytesLess] at this ⊢
    simp [this]
theorem less_trans : ∀ {x y z}, lessB x y = true → lessB y z = true → lessB x z = true
  | x, [], z, h, _ => by cases x <;> simp [lessB, Op.bytesLess] at h
  | x, b :: y, [], _, h => by simp [lessB, Op.bytesLess] at h
  | [], b :: y, c :: z, _, _ => rfl
  | a :: x, b :: y, c :: z, h, g => by
    simp only [lessB, Op.bytesLess, Bool.or_eq_true, Bool.and_eq_true, decide_eq_true_eq, beq_iff_eq] at h g ⊢
    have tr : a < b → b < c → a < c := fun h1 h2 => UInt8.lt_trans h1 h2
    rcases h with h | ⟨rfl, h⟩ <;> rcases g with g | ⟨rfl, g⟩
    · exact .inl (tr h g)
    · exact .inl h
    · exact .inl g
    · exact .inr ⟨rfl, less_trans h g⟩
theorem less_total : ∀ {x y}, lessB x y = false → lessB y x = false → x = y
  | [], [], _, _ => rfl
  | [], b :: y, h, _ => by simp [lessB, Op.bytesLess] at h
  | a :: x, [], _, h => by simp [lessB, Op.bytesLess] at h
  | a :: x, b :: y, h, g => by
    simp only [lessB, Op.bytesLess, Bool.or_eq_false_iff, decide_eq_false_iff_not, Bool.and_eq_false_imp, beq_iff_eq] at h g
    have hab : a = b := by
      apply UInt8.le_antisymm
      · exact UInt8.not_lt.1 g.1
      · exact UInt8.not_lt.1 h.1
    subst hab
    rw [less_total (h.2 rfl) (g.2 rfl)]
theorem less_asymm {x y} (h : lessB x y = true) : lessB y x = false := by
  cases hg : lessB y x with
  | false => rfl
  | true =>
    have := less_trans h hg
    rw [less_irrefl] at this
    cases this
/-- x ≤ y, y ≤ z gives x ≤ z. -/
theorem le_trans' {x y z} (h : lessB y x = false) (g : lessB z y = false) : lessB z x = false := by
  cases hx : lessB z x with
  | false => rfl
  | true =>
    cases hy : lessB x y with
    | true => rw [less_trans hx hy] at g; cases g
    | false =>
      have := less_total hy h
      subst this
      rw [hx] at g; cases g
def ltA (a b : Ava) : Bool := lessB a.1 b.1
def Sorted (l : List Ava) : Prop := l.Pairwise fun a b => ltA b a = false
def insA (a : Ava) : List Ava → List Ava
  | [] => [a]
  | b :: l => if ltA a b = true then a :: b :: l else b :: insA a l
def srt (l : List Ava) : List Ava := l.foldl (fun acc a => insA a acc) []
theorem insA_mem (a x : Ava) : ∀ l, x ∈ insA a l ↔ x = a ∨ x ∈ l
  | [] => by simp [insA]
  | b :: l => by
    unfold insA
    split
    · simp
    · simp [insA_mem a x l]
      constructor
      · rintro (h | h | h) <;> simp [h]
      · rintro (h | h | h) <;> simp [h]
theorem insA_len (a : Ava) : ∀ l, (insA a l).length = l.length + 1
  | [] => rfl
  | b :: l => by
    unfold insA
    split
    · rfl
    · simp [insA_len a l]
theorem insA_sorted (a : Ava) : ∀ l, Sorted l → Sorted (insA a l)
  | [], _ => by simp [insA, Sorted]
  | b :: l, h => by
    have hb := List.pairwise_cons.1 h
    unfold insA
    split
    · rename_i hlt
      refine List.pairwise_cons.2 ⟨fun x hx => ?_, h⟩
      rcases List.mem_cons.1 hx with rfl | hx
      · exact less_asymm hlt
      · exact le_trans' (less_asymm hlt) (hb.1 x hx)
    · rename_i hlt
      refine List.pairwise_cons.2 ⟨fun x hx => ?_, insA_sorted a l hb.2⟩
      rcases (insA_mem a x l).1 hx with rfl | hx
      · simpa using hlt
      · exact hb.1 x hx
theorem srt_snoc (l : List Ava) (a : Ava) : srt (l ++ [a]) = insA a (srt l) := by
  simp [srt]
def StEq (l r : List Ava) : Prop := ∀ k, l.filter (fun x => x.1 == k) = r.filter (fun x => x.1 == k)
theorem StEq.refl (l : List Ava) : StEq l l := fun _ => rfl
theorem StEq.symm {l r : List Ava} (h : StEq l r) : StEq r l := fun k => (h k).symm
theorem StEq.trans {l r t : List Ava} (h : StEq l r) (g : StEq r t) : StEq l t := fun k => (h k).trans (g k)
theorem StEq.append {l r l' r' : List Ava} (h : StEq l l') (g : StEq r r') : StEq (l ++ r) (l' ++ r') := fun k => by
  rw [List.filter_append, List.filter_append, h k, g k]
theorem StEq.mem {l r : List Ava} (h : StEq l r) {x : Ava} (hx : x ∈ l) : x ∈ r := by
  have : x ∈ l.filter (fun y => y.1 == x.1) := List.mem_filter.2 ⟨hx, by simp⟩
  rw [h x.1] at this
  exact (List.mem_filter.1 this).1
theorem insA_steq (a : Ava) : ∀ l, Sorted l → StEq (insA a l) (l ++ [a])
  | [], _ => StEq.refl _
  | b :: l, h => by
    have hb := List.pairwise_cons.1 h
    intro k
    unfold insA
    split
    · rename_i hlt
      have hall : ∀ x ∈ b :: l, ltA a x = true := by
        intro x hx
        rcases List.mem_cons.1 hx with rfl | hx
        · exact hlt
        · cases hax : lessB a.1 x.1 with
          | true => exact hax
          | false =>
            have h1 : lessB x.1 b.1 = false := hb.1 x hx
            have h2 : lessB x.1 a.1 = true ∨ x.1 = a.1 := by
              cases hxa : lessB x.1 a.1 with
              | true => exact .inl rfl
              | false => exact .inr (less_total hxa hax)
            rcases h2 with h2 | h2
            · rw [less_trans h2 hlt] at h1; cases h1
            · rw [h2, show lessB a.1 b.1 = true from hlt] at h1; cases h1
      by_cases hk : a.1 = k
      · have hn : (b :: l).filter (fun x => x.1 == k) = [] := by
          rw [List.filter_eq_nil_iff]
          intro x hx
          have h1 := hall x hx
          intro he
          have he : x.1 = k := by simpa using he
          unfold ltA at h1
          rw [hk, he, less_irrefl] at h1
          cases h1
        rw [List.filter_append, hn, List.filter_cons]
        rw [if_pos (by simpa using hk), hn]
        simp [hk]
      · rw [List.filter_append, List.filter_cons]
        have : (a.1 == k) = false := by simpa using hk
        simp [this]
    · have := insA_steq a l hb.2 k
      rw [List.cons_append, List.filter_cons, List.filter_cons, this]
theorem fold_sorted : ∀ (l acc : List Ava), Sorted acc → Sorted (l.foldl (fun acc a => insA a acc) acc)
  | [], acc, h => h
  | a :: l, acc, h => fold_sorted l _ (insA_sorted a acc h)
theorem fold_steq : ∀ (l acc : List Ava), Sorted acc → StEq (l.foldl (fun acc a => insA a acc) acc) (acc ++ l)
  | [], acc, h => by rw [List.append_nil]; exact StEq.refl _
  | a :: l, acc, h => by
    have := fold_steq l _ (insA_sorted a acc h)
    refine StEq.trans this ?_
    rw [show acc ++ a :: l = (acc ++ [a]) ++ l by simp]
    exact StEq.append (insA_steq a acc h) (StEq.refl _)
theorem srt_sorted (l : List Ava) : Sorted (srt l) := fold_sorted l [] List.Pairwise.nil
theorem srt_steq (l : List Ava) : StEq (srt l) l := fold_steq l [] List.Pairwise.nil
theorem srt_len (l : List Ava) : (srt l).length = l.length := by
  have : ∀ (l acc : List Ava), (l.foldl (fun acc a => insA a acc) acc).length = acc.length + l.length := by
    intro l
    induction l with
    | nil => intro acc; simp
    | cons a l ih => intro acc; rw [List.foldl_cons, ih, insA_len]; simp; omega
  have h := this l []
  simpa [srt] using h
theorem srt_mem {l : List Ava} {x : Ava} : x ∈ srt l ↔ x ∈ l := ⟨(srt_steq l).mem, (srt_steq l).symm.mem⟩
/-- Sorted and of the same values by keys: the same. -/
theorem sorted_unique : ∀ {l r : List Ava}, Sorted l → Sorted r → StEq l r → l = r
  | [], [], _, _, _ => rfl
  | [], b :: r, _, _, h => absurd (h.symm.mem (x := b) (by simp)) (by simp)
  | a :: l, [], _, _, h => absurd (h.mem (x := a) (by simp)) (by simp)
  | a :: l, b :: r, hl, hr, h => by
    have h1 := List.pairwise_cons.1 hl
    have h2 := List.pairwise_cons.1 hr
    have e1 : lessB b.1 a.1 = false := by
      rcases List.mem_cons.1 (h.symm.mem (x := b) (by simp)) with rfl | hx
      · exact less_irrefl _
      · exact h1.1 b hx
    have e2 : lessB a.1 b.1 = false := by
      rcases List.mem_cons.1 (h.mem (x := a) (by simp)) with rfl | hx
      · exact less_irrefl _
      · exact h2.1 a hx
    have ek := less_total e1 e2
    have hk := h a.1
    rw [List.filter_cons, List.filter_cons, if_pos (by simp), if_pos (by simpa using ek)] at hk
    injection hk with hab hk'
    subst hab
    have : StEq l r := fun k => by
      have := h k
      rw [List.filter_cons, List.filter_cons] at this
      split at this
      · injection this
      · exact this
    rw [sorted_unique h1.2 h2.2 this]
theorem srt_of_sorted {l : List Ava} (h : Sorted l) : srt l = l := sorted_unique (srt_sorted l) h (srt_steq l)
/-- From behind: where it stops. -/
theorem ins_split (a : Ava) : ∀ (p1 p2 : List Ava), Sorted (p1 ++ p2) → (∀ x ∈ p2, ltA a x = true) → (∀ y, p1.getLast? = some y → ltA a y = false) → insA a (p1 ++ p2) = p1 ++ a :: p2
  | [], [], _, _, _ => rfl
  | [], b :: p2, _, h, _ => by
    show insA a (b :: p2) = _
    unfold insA
    rw [if_pos (h b (by simp))]
    rfl
  | b :: p1, p2, hs, h, hl => by
    have hb := List.pairwise_cons.1 hs
    have hab : ltA a b = false := by
      cases hq : p1.getLast? with
      | none =>
        have : p1 = [] := List.getLast?_eq_none_iff.1 hq
        subst this
        exact hl b rfl
      | some y =>
        have h1 := hl y (by rw [List.getLast?_cons, hq]; rfl)
        have h2 := hb.1 y (List.mem_append_left _ (List.mem_of_getLast? hq))
        exact le_trans' h2 h1 |> fun x => by
          unfold ltA at *
          cases hab : lessB a.1 b.1 with
          | false => rfl
          | true =>
            cases hyb : lessB b.1 y.1 with
            | true => rw [less_trans hab hyb] at h1; cases h1
            | false =>
              have := less_total hyb h2
              rw [this] at hab
              rw [hab] at h1; cases h1
    show insA a (b :: (p1 ++ p2)) = _
    unfold insA
    rw [if_neg (by rw [hab]; simp), ins_split a p1 p2 hb.2 h (fun y hy => hl y (by rw [List.getLast?_cons, hy]; rfl))]
    rfl
end Go.Proofs.YtjcckafjopjdbaaDoor
namespace Go.Proofs.YtjcckafjopjdbaaDoor
open Go Go.Vm
set_option maxRecDepth 100000
set_option maxHeartbeats 4000000
set_option linter.unusedSimpArgs false
set_option linter.unusedVariables false
theorem callV_71 (c : CallT) (s : List UInt8) (b : UInt8) (S : Store) : callV E0 c (.fn (.func 71) [] []) [.str s, .int .u8 b.toNat] S = some (.int .i64 ((s.filter (· == b)).length : Nat), S) := by
  have h : callV E0 c (.fn (.func 71) [] []) [.str s, .int .u8 b.toNat] S = some (.int .i64 ((s.filter (· == UInt8.ofNat (b.toNat : Int).toNat)).length : Nat), S) := by kernel_rfl
  rw [h]
  simp
theorem sn1 (b : UInt8) : opIndex E0 9 (.str [b]) (.int .i64 0) = some (.int .u8 b.toNat) := idx_str_9 [b] .i64 0 (by simp)
theorem hl1 (b : UInt8) : (([b].length : Nat) : Int) = 1 := rfl
theorem Index'_ok (s : List UInt8) (b : UInt8) (S : Store) : vrun E0 (.fn 72) [.str s, .str [b]] S = some (.int .i64 (idxInt (s.findIdx? (· == b))), S) := by
  refine fn_ws Tryd.func72 rfl ?_
  have b1 : ((1 : Int) == 0) = false := rfl
  have b2 : ((1 : Int) == 1) = true := rfl
  by_cases h : [b] = s
  · have h' : (([b] : List UInt8) == s) = true := beq_iff_eq.2 h
    repeat (first | refine WS.seq ?_ | refine WS.skip ?_ | refine WS.label ?_ | refine WS.block ?_ | refine WS.inBlock ?_ | refine WS.exit rfl ?_ | refine WS.scope ?_ | refine WS.inScope ?_ | refine WS.region (by simp only [EV, TY, lget, hl1, b1, h', ↓reduceIte, Nat.reduceEqDiff, decide_true, decide_false, eq_self]; with_reducible rfl) ?_)
    refine WS.cond_true (by simp only [EV, lget, ↓reduceIte, Nat.reduceEqDiff, decide_true, decide_false, eq_self]) ?_
    repeat (first | refine WS.seq ?_ | refine WS.skip ?_ | refine WS.label ?_ | refine WS.block ?_ | refine WS.inBlock ?_ | refine WS.exit rfl ?_ | refine WS.scope ?_ | refine WS.inScope ?_ | refine WS.region (by simp only [EV, TY, lget, ↓reduceIte, Nat.reduceEqDiff, decide_true, decide_false, eq_self]; with_reducible rfl) ?_)
    refine WS.ret1s (t := 4) rfl rfl (List.prefix_refl _) (frz_int _ _ _ _) ?_
    simp only [EV, lget, ↓reduceIte, Nat.reduceEqDiff, decide_true, decide_false, eq_self, and_true, true_and, and_self]
    rw [← h]
    simp [List.findIdx?_cons, idxInt]
  · have h' : (([b] : List UInt8) == s) = false := beq_eq_false_iff_ne.2 h
    repeat (first | refine WS.seq ?_ | refine WS.skip ?_ | refine WS.label ?_ | refine WS.block ?_ | refine WS.inBlock ?_ | refine WS.exit rfl ?_ | refine WS.scope ?_ | refine WS.inScope ?_ | refine WS.region (by simp only [EV, TY, lget, hl1, b1, h', ↓reduceIte, Nat.reduceEqDiff, decide_true, decide_false, eq_self]; with_reducible rfl) ?_)
    refine WS.cond_false (by simp only [EV, lget, ↓reduceIte, Nat.reduceEqDiff, decide_true, decide_false, eq_self]) ?_
    repeat (first | refine WS.seq ?_ | refine WS.skip ?_ | refine WS.label ?_ | refine WS.block ?_ | refine WS.inBlock ?_ | refine WS.exit rfl ?_ | refine WS.scope ?_ | refine WS.inScope ?_ | refine WS.region (by simp only [EV, TY, lget, b2, ↓reduceIte, Nat.reduceEqDiff, decide_true, decide_false, eq_self]; with_reducible rfl) ?_)
    refine WS.cond_true (by simp only [EV, lget, ↓reduceIte, Nat.reduceEqDiff, decide_true, decide_false, eq_self]) ?_
    repeat (first | refine WS.seq ?_ | refine WS.skip ?_ | refine WS.label ?_ | refine WS.block ?_ | refine WS.inBlock ?_ | refine WS.exit rfl ?_ | refine WS.scope ?_ | refine WS.inScope ?_ | refine WS.region (by simp only [EV, TY, lget, sn1, callV_43, IndexByte'_ok, ↓reduceIte, Nat.reduceEqDiff, decide_true, decide_false, eq_self]; with_reducible rfl) ?_)
    refine WS.ret1s (t := 4) rfl rfl (List.prefix_refl _) (frz_int _ _ _ _) ?_
    simp only [EV, lget, ↓reduceIte, Nat.reduceEqDiff, decide_true, decide_false, eq_self, and_true, true_and, and_self]
theorem Index_ok (s : List UInt8) (b : UInt8) (S : Store) : vrun E0 (.fn 62) [.str s, .str [b]] S = some (.int .i64 (idxInt (s.findIdx? (· == b))), S) := by
  refine fn_ws Tryd.func62 rfl ?_
  repeat (first | refine WS.seq ?_ | refine WS.skip ?_ | refine WS.label ?_ | refine WS.block ?_ | refine WS.inBlock ?_ | refine WS.exit rfl ?_ | refine WS.scope ?_ | refine WS.inScope ?_ | refine WS.region (by simp only [EV, TY, lget, callV_72, Index'_ok, ↓reduceIte, Nat.reduceEqDiff, decide_true, decide_false, eq_self]; with_reducible rfl) ?_)
  refine WS.ret1s (t := 4) rfl rfl (List.prefix_refl _) (frz_int _ _ _ _) ?_
  simp only [EV, ↓reduceIte, Nat.reduceEqDiff, decide_true, decide_false, eq_self, and_true, true_and, and_self]
def countB (b : UInt8) (s : List UInt8) : Nat := (s.filter (· == b)).length
theorem Count_ok (s : List UInt8) (b : UInt8) (S : Store) : vrun E0 (.fn 61) [.str s, .str [b]] S = some (.int .i64 (countB b s : Nat), S) := by
  refine fn_ws Tryd.func61 rfl ?_
  have b1 : ((1 : Int) == 0) = false := rfl
  have b2 : ((1 : Int) == 1) = true := rfl
  repeat (first | refine WS.seq ?_ | refine WS.skip ?_ | refine WS.label ?_ | refine WS.block ?_ | refine WS.inBlock ?_ | refine WS.exit rfl ?_ | refine WS.scope ?_ | refine WS.inScope ?_ | refine WS.region (by simp only [EV, TY, lget, hl1, b1, ↓reduceIte, Nat.reduceEqDiff, decide_true, decide_false, eq_self]; with_reducible rfl) ?_)
  refine WS.cond_false (by simp only [EV, lget, ↓reduceIte, Nat.reduceEqDiff, decide_true, decide_false, eq_self]) ?_
  repeat (first | refine WS.seq ?_ | refine WS.skip ?_ | refine WS.label ?_ | refine WS.block ?_ | refine WS.inBlock ?_ | refine WS.exit rfl ?_ | refine WS.scope ?_ | refine WS.inScope ?_ | refine WS.region (by simp only [EV, TY, lget, hl1, b2, ↓reduceIte, Nat.reduceEqDiff, decide_true, decide_false, eq_self]; with_reducible rfl) ?_)
  refine WS.cond_true (by simp only [EV, lget, ↓reduceIte, Nat.reduceEqDiff, decide_true, decide_false, eq_self]) ?_
  repeat (first | refine WS.seq ?_ | refine WS.skip ?_ | refine WS.label ?_ | refine WS.block ?_ | refine WS.inBlock ?_ | refine WS.exit rfl ?_ | refine WS.scope ?_ | refine WS.inScope ?_ | refine WS.region (by simp only [EV, TY, lget, sn1, callV_71, ↓reduceIte, Nat.reduceEqDiff, decide_true, decide_false, eq_self]; with_reducible rfl) ?_)
  refine WS.ret1s (t := 4) rfl rfl (List.prefix_refl _) (frz_int _ _ _ _) ?_
  simp only [EV, lget, ↓reduceIte, Nat.reduceEqDiff, decide_true, decide_false, eq_self, and_true, true_and, and_self]
  rfl
/-! ### Split -/
theorem find_take (b : UInt8) : ∀ (s : List UInt8) (k : Nat), s.findIdx? (· == b) = some k → countB b s = countB b (s.drop (k + 1)) + 1
  | [], k, h => by simp at h
  | c :: s, k, h => by
    rw [List.findIdx?_cons] at h
    by_cases hc : (c == b) = true
    · rw [if_pos hc] at h
      injection h with h
      subst h
      simp [countB, List.filter_cons, hc]
    · rw [if_neg hc] at h
      cases hf : s.findIdx? (· == b) with
      | none => rw [hf] at h; cases h
      | some j =>
        rw [hf] at h
        injection h with h
        subst h
        have := find_take b s j hf
        simp only [countB, List.filter_cons, if_neg hc, List.drop_succ_cons] at this ⊢
        exact this
theorem find_none0 (b : UInt8) (s : List UInt8) (h : s.findIdx? (· == b) = none) : countB b s = 0 := by
  rw [List.findIdx?_eq_none_iff] at h
  unfold countB
  rw [List.length_eq_zero_iff, List.filter_eq_nil_iff]
  intro x hx
  rw [h x hx]; simp
theorem countB_le (b : UInt8) (s : List UInt8) : countB b s ≤ s.length := List.length_filter_le _ _
def splitB (b : UInt8) (s : List UInt8) : List (List UInt8) :=
  match h : s.findIdx? (· == b) with
  | none => [s]
  | some k => s.take k :: splitB b (s.drop (k + 1))
termination_by s.length
decreasing_by
  have := (List.findIdx?_eq_some_iff_getElem.1 h).1
  simp; omega
theorem splitB_none {b : UInt8} {s : List UInt8} (h : s.findIdx? (· == b) = none) : splitB b s = [s] := by
  rw [splitB]
  split
  · rfl
  · rename_i k hk; rw [h] at hk; cases hk
theorem splitB_some {b : UInt8} {s : List UInt8} {k : Nat} (h : s.findIdx? (· == b) = some k) : splitB b s = s.take k :: splitB b (s.drop (k + 1)) := by
  rw [splitB]
  split
  · rename_i hk; rw [h] at hk; cases hk
  · rename_i k' hk
    rw [h] at hk
    injection hk with hk
    subst hk
    rfl
def strsC (l : List (List UInt8)) : List V := l.map .str
theorem ty51 : ETy E0 51 9 1 16 (.str []) := ⟨Tryd.underlying51, elemT_51, tsize_9, tbytes_9, zeroV_9, rfl, rfl, by omega, by omega⟩
theorem mkSl51 (S : Store) (n : Nat) (h : n ≤ 4194304) : opMakeSlice E0 S 51 (.int .i64 (n : Nat)) (.int .i64 (n : Nat)) = some (.slR S.length 0 n n 1, S ++ [.cells (List.replicate n (.str [])) 9]) := by
  have e : repl n (vcells (.str [])) = List.replicate n (.str []) := by
    unfold repl vcells
    induction n with
    | zero => rfl
    | succ n ih => rw [List.replicate_succ, List.flatten_cons, ih (by omega), List.replicate_succ]; rfl
  unfold opMakeSlice
  simp only [elemT_51, tsize_9, tbytes_9, zeroV_9, vInt, Option.bind_eq_bind, Option.bind_some]
  rw [if_pos]
  · simp only [Int.toNat_natCast, e]
  · simp [solid, vcells]; omega
theorem frz_strs (n0 : Nat) (S : Store) (id : Nat) (l : List (List UInt8)) (h0 : n0 ≤ id) (h : S[id]? = some (.cells (strsC l) 9)) : frz 6 n0 S (.slR id 0 l.length l.length 1) = some (.slI l.length (strsC l)) := by
  have hn : ¬ id < n0 := by omega
  have hl : (strsC l).length = l.length := by simp [strsC]
  have hc : cellsAt S (.ref id 0) (l.length * 1) = some (strsC l) := by
    simp [cellsAt, cellsOf, h, tk, hl, List.take_of_length_le]
  have hm : ∀ l : List (List UInt8), (strsC l).mapM (frzIn 11 n0 S) = some (strsC l) := by
    intro l
    induction l with
    | nil => rfl
    | cons a l ih =>
      unfold strsC at ih ⊢
      rw [List.map_cons, List.mapM_cons, ih]
      rfl
  show (if id < n0 then some _ else frzIn 12 n0 S (.slR id 0 l.length l.length 1)) = _
  rw [if_neg hn]
  show (if id < n0 then none else (cellsAt S (.ref id 0) (l.length * 1)).bind fun cs => (cs.mapM (frzIn 11 n0 S)).bind fun cs => some (V.slI l.length cs)) = _
  rw [if_neg hn, hc, Option.bind_some, hm, Option.bind_some]
theorem sl51h (id n m : Nat) (h : m ≤ n) : opSlice E0 51 (.slR id 0 n n 1) none (some (.int .i64 (m : Nat))) none = some (.slR id 0 m n 1) := by
  unfold opSlice
  simp [Tryd.underlying51, tsize_9, bnd, h, E0_P]
theorem genSplit_ok (s : List UInt8) (b : UInt8) (S : Store) (hs : s.length ≤ 1048576) : vrun E0 (.fn 50) [.str s, .str [b], .int .i64 0, .int .i64 (-1)] S = some (.slI (splitB b s).length (strsC (splitB b s)), S) := by
  refine fn_ws Tryd.func50 rfl ?_
  have b1 : ((-1 : Int) == 0) = false := rfl
  have b2 : (([b] : List UInt8) == []) = false := rfl
  have b3 : (-1 : Int) < 0 := by omega
  have hcl := countB_le b s
  have i1 := wrap_inc (countB b s) (by omega)
  have i2 := wrap_inc s.length (by omega)
  have hmin : minMax false (.int .i64 ((countB b s + 1 : Nat) : Int)) [.int .i64 ((s.length + 1 : Nat) : Int)] = some (.int .i64 ((countB b s + 1 : Nat) : Int)) := by
    have : ¬ ((s.length + 1 : Nat) : Int) < ((countB b s + 1 : Nat) : Int) := by omega
    simp only [minMax, if_true, Bool.false_eq_true, if_false]
    rw [if_neg this]
  have hmk := mkSl51 S (countB b s + 1) (by omega)
  have hsub : IntKind.i64.wrap (((countB b s + 1 : Nat) : Int) - 1) = ((countB b s : Nat) : Int) := wrap_sub1 (countB b s + 1) (by omega) (by omega)
  have hcnt := Count_ok s b S
  repeat (first | refine WS.seq ?_ | refine WS.skip ?_ | refine WS.label ?_ | refine WS.block ?_ | refine WS.inBlock ?_ | refine WS.exit rfl ?_ | refine WS.scope ?_ | refine WS.inScope ?_ | refine WS.region (by simp only [EV, TY, lget, b1, ↓reduceIte, Nat.reduceEqDiff, decide_true, decide_false, eq_self]; with_reducible rfl) ?_)
  refine WS.cond_false (by simp only [EV, lget, ↓reduceIte, Nat.reduceEqDiff, decide_true, decide_false, eq_self]) ?_
  repeat (first | refine WS.seq ?_ | refine WS.skip ?_ | refine WS.label ?_ | refine WS.block ?_ | refine WS.inBlock ?_ | refine WS.exit rfl ?_ | refine WS.scope ?_ | refine WS.inScope ?_ | refine WS.region (by simp only [EV, TY, lget, b2, ↓reduceIte, Nat.reduceEqDiff, decide_true, decide_false, eq_self]; with_reducible rfl) ?_)
  refine WS.cond_false (by simp only [EV, lget, ↓reduceIte, Nat.reduceEqDiff, decide_true, decide_false, eq_self]) ?_
  repeat (first | refine WS.seq ?_ | refine WS.skip ?_ | refine WS.label ?_ | refine WS.block ?_ | refine WS.inBlock ?_ | refine WS.exit rfl ?_ | refine WS.scope ?_ | refine WS.inScope ?_ | refine WS.region (by simp only [EV, TY, lget, b3, ↓reduceIte, Nat.reduceEqDiff, decide_true, decide_false, eq_self]; with_reducible rfl) ?_)
  refine WS.cond_true (by simp only [EV, lget, ↓reduceIte, Nat.reduceEqDiff, decide_true, decide_false, eq_self]) ?_
  repeat (first | refine WS.seq ?_ | refine WS.skip ?_ | refine WS.label ?_ | refine WS.block ?_ | refine WS.inBlock ?_ | refine WS.exit rfl ?_ | refine WS.scope ?_ | refine WS.inScope ?_ | refine WS.region (by simp only [EV, TY, lget, callV_61, hcnt, i1, i2, hmin, hmk, hsub, ↓reduceIte, Nat.reduceEqDiff, decide_true, decide_false, eq_self]; with_reducible rfl) ?_)
  generalize hN : countB b s = N at hmk
  refine WS.loopB (fun j fr T => ∃ done s', j = s'.length ∧ done.length + countB b s' = N ∧ s'.length ≤ s.length ∧ done ++ splitB b s' = splitB b s ∧ lget fr 0 = .str s' ∧ lget fr 1 = .str [b] ∧ lget fr 2 = .int .i64 0 ∧ lget fr 3 = .int .i64 (N : Nat) ∧ lget fr 9 = .slR S.length 0 (N + 1) (N + 1) 1 ∧ lget fr 10 = .int .i64 (done.length : Nat) ∧ T = S ++ [.cells (strsC done ++ List.replicate (N + 1 - done.length) (.str [])) 9])
    (fun fr T => ∃ done s', done.length = N ∧ done ++ [s'] = splitB b s ∧ lget fr 0 = .str s' ∧ lget fr 9 = .slR S.length 0 (N + 1) (N + 1) 1 ∧ lget fr 10 = .int .i64 (done.length : Nat) ∧ T = S ++ [.cells (strsC done ++ List.replicate (N + 1 - done.length) (.str [])) 9]) (j := s.length) ?_ ?_ ?_
  · refine ⟨[], s, rfl, by simpa using hN, Nat.le_refl _, rfl, ?_, ?_, ?_, ?_, ?_, ?_, by simp [strsC]⟩
    all_goals
      simp only [EV, lget, ↓reduceIte, Nat.reduceEqDiff, decide_true, decide_false, eq_self, and_true, true_and, and_self]
      try rfl
    all_goals
      rw [hN]
  · rintro fr T ⟨done, s', hd, hsp, h0, h9, h10, rfl⟩
    have hia : opIndexAddr E0 51 (.slR S.length 0 (N + 1) (N + 1) 1) (.int .i64 (done.length : Nat)) = some (.ref S.length done.length) := by
      rw [ia_slR_51 _ _ _ _ _ _ (by omega)]; simp
    have hst : opStore E0 (S ++ [.cells (strsC done ++ List.replicate (N + 1 - done.length) (.str [])) 9]) 9 (.ref S.length done.length) (.str s') = some (S ++ [.cells (strsC (done ++ [s'])) 9]) := by
      rw [st_one tsize_9 _ _ _ rfl (by simp), putAt_one (getS0 _) (by simp [strsC]; omega), setS0]
      have : N + 1 - done.length = 1 := by omega
      rw [this]
      simp [strsC]
    have hinc := wrap_inc done.length (by omega)
    have hsl := sl51h S.length (N + 1) (done.length + 1) (by omega)
    have hlen : (splitB b s).length = N + 1 := by rw [← hsp]; simp; omega
    have hge : done.length + 1 = N + 1 := by omega
    rw [hge] at hsl hinc
    rw [hsp] at hst
    repeat (first | refine WS.seq ?_ | refine WS.skip ?_ | refine WS.label ?_ | refine WS.block ?_ | refine WS.inBlock ?_ | refine WS.exit rfl ?_ | refine WS.scope ?_ | refine WS.inScope ?_ | refine WS.region (by simp only [EV, TY, h0, h9, h10, hia, hst, hinc, hsl, ↓reduceIte, Nat.reduceEqDiff, decide_true, decide_false, eq_self]; with_reducible rfl) ?_)
    refine WS.ret1 (t := 8) rfl rfl ?_ (List.prefix_append _ _) (frz_strs _ _ S.length (splitB b s) (Nat.le_refl _) (getS0 _))
    simp only [EV, ↓reduceIte, Nat.reduceEqDiff, decide_true, decide_false, eq_self, and_true, true_and, and_self]
    rw [hlen]
  · rintro j fr T ⟨done, s', rfl, hd, hle, hsp, h0, h1, h2, h3, h9, h10, rfl⟩ ih last
    by_cases hlt : done.length < N
    · have hlt' : ((done.length : Nat) : Int) < ((N : Nat) : Int) := by omega
      cases hf : s'.findIdx? (· == b) with
      | none => have := find_none0 b s' hf; omega
      | some k =>
        have hk : k < s'.length := (List.findIdx?_eq_some_iff_getElem.1 hf).1
        have hI := Index_ok s' b (S ++ [.cells (strsC done ++ List.replicate (N + 1 - done.length) (.str [])) 9])
        rw [hf] at hI
        simp only [idxInt] at hI
        have hcnt := find_take b s' k hf
        have hneg : ¬ ((k : Nat) : Int) < 0 := by omega
        have hadd0 : IntKind.i64.wrap (((k : Nat) : Int) + 0) = ((k : Nat) : Int) := wrap_i64 (by omega) (by omega) |>.trans (by omega)
        have hinc := wrap_inc k (by omega)
        have dinc := wrap_inc done.length (by omega)
        have e1 := sl9h s' k (by omega)
        have e2 := sl9 s' (k + 1) (by omega)
        have hia : opIndexAddr E0 51 (.slR S.length 0 (N + 1) (N + 1) 1) (.int .i64 (done.length : Nat)) = some (.ref S.length done.length) := by
          rw [ia_slR_51 _ _ _ _ _ _ (by omega)]; simp
        have hst : opStore E0 (S ++ [.cells (strsC done ++ List.replicate (N + 1 - done.length) (.str [])) 9]) 9 (.ref S.length done.length) (.str (s'.take k)) = some (S ++ [.cells (strsC (done ++ [s'.take k]) ++ List.replicate (N + 1 - (done ++ [s'.take k]).length) (.str [])) 9]) := by
          rw [st_one tsize_9 _ _ _ rfl (by simp), putAt_one (getS0 _) (by simp [strsC]; omega), setS0]
          obtain ⟨q, hq⟩ : ∃ q, N + 1 - done.length = q + 1 := ⟨N - done.length, by omega⟩
          have hq2 : N + 1 - (done ++ [s'.take k]).length = q := by simp; omega
          rw [hq, hq2, List.replicate_succ]
          have : (strsC done).length = done.length := by simp [strsC]
          simp [strsC, List.set_append_right]
        repeat (first | refine WS.seq ?_ | refine WS.skip ?_ | refine WS.label ?_ | refine WS.block ?_ | refine WS.inBlock ?_ | refine WS.exit rfl ?_ | refine WS.scope ?_ | refine WS.inScope ?_ | refine WS.region (by simp only [EV, TY, h3, h10, hlt', ↓reduceIte, Nat.reduceEqDiff, decide_true, decide_false, eq_self]; with_reducible rfl) ?_)
        refine WS.cond_true (by simp only [EV, ↓reduceIte, Nat.reduceEqDiff, decide_true, decide_false, eq_self]) ?_
        repeat (first | refine WS.seq ?_ | refine WS.skip ?_ | refine WS.label ?_ | refine WS.block ?_ | refine WS.inBlock ?_ | refine WS.exit rfl ?_ | refine WS.scope ?_ | refine WS.inScope ?_ | refine WS.region (by simp only [EV, TY, h0, h1, callV_62, hI, hneg, ↓reduceIte, Nat.reduceEqDiff, decide_true, decide_false, eq_self]; with_reducible rfl) ?_)
        refine WS.cond_false (by simp only [EV, ↓reduceIte, Nat.reduceEqDiff, decide_true, decide_false, eq_self]) ?_
        repeat (first | refine WS.seq ?_ | refine WS.skip ?_ | refine WS.label ?_ | refine WS.block ?_ | refine WS.inBlock ?_ | refine WS.exit rfl ?_ | refine WS.scope ?_ | refine WS.inScope ?_ | refine WS.region (by simp only [EV, TY, h0, h1, h2, h9, h10, hadd0, e1, hia, hst, hl1, hinc, e2, dinc, ↓reduceIte, Nat.reduceEqDiff, decide_true, decide_false, eq_self]; with_reducible rfl) ?_)
        refine ih (s'.drop (k + 1)).length _ _ (by simp; omega) ⟨done ++ [s'.take k], s'.drop (k + 1), rfl, by simp; omega, by simp; omega, ?_, ?_, ?_, ?_, ?_, ?_, ?_, rfl⟩
        · rw [← hsp, splitB_some hf]; simp
        · simp only [EV, ↓reduceIte, Nat.reduceEqDiff, decide_true, decide_false, eq_self, and_true, true_and, and_self]
        · simp only [EV, h1, ↓reduceIte, Nat.reduceEqDiff, decide_true, decide_false, eq_self, and_true, true_and, and_self]
        · simp only [EV, h2, ↓reduceIte, Nat.reduceEqDiff, decide_true, decide_false, eq_self, and_true, true_and, and_self]
        · simp only [EV, h3, ↓reduceIte, Nat.reduceEqDiff, decide_true, decide_false, eq_self, and_true, true_and, and_self]
        · simp only [EV, h9, ↓reduceIte, Nat.reduceEqDiff, decide_true, decide_false, eq_self, and_true, true_and, and_self]
        · simp only [EV, ↓reduceIte, Nat.reduceEqDiff, decide_true, decide_false, eq_self, and_true, true_and, and_self]
          simp
    · have hlt' : ¬ ((done.length : Nat) : Int) < ((N : Nat) : Int) := by omega
      have hf : s'.findIdx? (· == b) = none := by
        cases hf : s'.findIdx? (· == b) with
        | none => rfl
        | some k => have := find_take b s' k hf; omega
      repeat (first | refine WS.seq ?_ | refine WS.skip ?_ | refine WS.label ?_ | refine WS.block ?_ | refine WS.inBlock ?_ | refine WS.exit rfl ?_ | refine WS.scope ?_ | refine WS.inScope ?_ | refine WS.region (by simp only [EV, TY, h3, h10, hlt', ↓reduceIte, Nat.reduceEqDiff, decide_true, decide_false, eq_self]; with_reducible rfl) ?_)
      refine WS.cond_false (by simp only [EV, ↓reduceIte, Nat.reduceEqDiff, decide_true, decide_false, eq_self]) ?_
      refine WS.exit rfl ?_
      refine last _ _ ⟨done, s', by omega, ?_, ?_, ?_, ?_, rfl⟩
      · rw [← hsp, splitB_none hf]
      · simp only [EV, h0, ↓reduceIte, Nat.reduceEqDiff, decide_true, decide_false, eq_self, and_true, true_and, and_self]
      · simp only [EV, h9, ↓reduceIte, Nat.reduceEqDiff, decide_true, decide_false, eq_self, and_true, true_and, and_self]
      · simp only [EV, h10, ↓reduceIte, Nat.reduceEqDiff, decide_true, decide_false, eq_self, and_true, true_and, and_self]
theorem Split_ok (s : List UInt8) (b : UInt8) (S : Store) (hs : s.length ≤ 1048576) : vrun E0 (.fn 33) [.str s, .str [b]] S = some (.slI (splitB b s).length (strsC (splitB b s)), S) := by
  refine fn_ws Tryd.func33 rfl ?_
  have h := genSplit_ok s b S hs
  have hm : ∀ l : List (List UInt8), (strsC l).mapM (frz 5 S.length S) = some (strsC l) := by
    intro l
    induction l with
    | nil => rfl
    | cons a l ih =>
      unfold strsC at ih ⊢
      rw [List.map_cons, List.mapM_cons, ih]
      rfl
  repeat (first | refine WS.seq ?_ | refine WS.skip ?_ | refine WS.label ?_ | refine WS.block ?_ | refine WS.inBlock ?_ | refine WS.exit rfl ?_ | refine WS.scope ?_ | refine WS.inScope ?_ | refine WS.region (by simp only [EV, TY, lget, callV_50, h, ↓reduceIte, Nat.reduceEqDiff, decide_true, decide_false, eq_self]; with_reducible rfl) ?_)
  refine WS.ret1s (t := 4) rfl rfl (List.prefix_refl _) rfl ?_
  simp only [EV, ↓reduceIte, Nat.reduceEqDiff, decide_true, decide_false, eq_self, and_true, true_and, and_self]
end Go.Proofs.YtjcckafjopjdbaaDoor
namespace Go.Proofs.YtjcckafjopjdbaaDoor
open Go Go.Vm
set_option maxRecDepth 100000
set_option maxHeartbeats 4000000
set_option linter.unusedSimpArgs false
set_option linter.unusedVariables false
def foldW (out : List UInt8) : List (List UInt8) → List UInt8
  | [] => out
  | w :: ws => if w = [] then foldW out ws else foldW ((if out = [] then out else out ++ [32]) ++ w) ws
def foldS (v : List UInt8) : List UInt8 := foldW [] (splitB 32 (smallS v))
def wsum (ws : List (List UInt8)) : Nat := (ws.map fun w => w.length + 1).sum
theorem wsum_split (b : UInt8) : ∀ (j : Nat) (s : List UInt8), s.length = j → wsum (splitB b s) = s.length + 1 := by
  intro j
  induction j using Nat.strongRecOn with
  | _ j ih =>
    intro s hj
    cases hf : s.findIdx? (· == b) with
    | none => rw [splitB_none hf]; simp [wsum]
    | some k =>
      have hk := (List.findIdx?_eq_some_iff_getElem.1 hf).1
      rw [splitB_some hf]
      have := ih _ (by simp; omega) (s.drop (k + 1)) rfl
      unfold wsum at this ⊢
      simp only [List.map_cons, List.sum_cons, this]
      simp
      omega
theorem smallS_len (s : List UInt8) : (smallS s).length = s.length := by simp [smallS]
theorem drop_getD {α : Type} (d : α) (l : List α) (i : Nat) (h : i < l.length) : l.drop i = l.getD i d :: l.drop (i + 1) := by
  rw [List.drop_eq_getElem_cons h]
  simp [List.getD, h]
theorem Fold_ok (s : List UInt8) (S : Store) (hs : s.length ≤ 1048576) : vrun E0 (.fn 17) [.str s] S = some (.str (foldS s), S) := by
  refine fn_ws Tryd.func17 rfl ?_
  have e1 := small_ok s S hs
  have e2 := Split_ok (smallS s) 32 S (by rw [smallS_len]; exact hs)
  have htot := wsum_split 32 _ (smallS s) rfl
  rw [smallS_len] at htot
  generalize hws : splitB 32 (smallS s) = ws at e2 htot
  have e3 : opLen E0 S 51 (.slI ws.length (strsC ws)) = some (.int .i64 (ws.length : Nat)) := len_slI Tryd.underlying51 _ _
  have hwl : ws.length ≤ wsum ws := by
    clear e2 htot hws e3
    induction ws with
    | nil => simp
    | cons w ws ih => simp only [wsum, List.map_cons, List.sum_cons, List.length_cons] at ih ⊢; omega
  have fin : foldS s = foldW [] ws := by unfold foldS; rw [hws]
  rw [fin]
  repeat (first | refine WS.seq ?_ | refine WS.skip ?_ | refine WS.label ?_ | refine WS.block ?_ | refine WS.inBlock ?_ | refine WS.exit rfl ?_ | refine WS.scope ?_ | refine WS.inScope ?_ | refine WS.region (by simp only [EV, TY, lget, callV_34, e1, callV_33, e2, e3, ↓reduceIte, Nat.reduceEqDiff, decide_true, decide_false, eq_self]; with_reducible rfl) ?_)
  refine WS.loopB (fun j fr T => ∃ i out v, j = ws.length - i ∧ i ≤ ws.length ∧ out.length + wsum (ws.drop i) ≤ s.length + 1 ∧ lget fr 3 = v ∧ lget fr 8 = .slI ws.length (strsC ws) ∧ lget fr 9 = .int .i64 (ws.length : Nat) ∧ lget fr 10 = .int .i64 (i : Nat) ∧ foldW out (ws.drop i) = foldW [] ws ∧ Buf 5 S.length T v out ∧ Low S.length S T)
    (fun fr T => ∃ out v, lget fr 3 = v ∧ out = foldW [] ws ∧ Buf 5 S.length T v out ∧ Low S.length S T) (j := ws.length) ?_ ?_ ?_
  · refine ⟨0, [], .slN, by omega, by omega, by simpa using by omega, ?_, ?_, ?_, ?_, rfl, Buf.new _ _ _, Low.refl (Nat.le_refl _)⟩
    all_goals
      simp only [EV, lget, ↓reduceIte, Nat.reduceEqDiff, decide_true, decide_false, eq_self, and_true, true_and, and_self]
      try rfl
  · rintro fr T ⟨out, v, h3, rfl, hb, hl⟩
    have e2 := hb.conv bt50 Tryd.underlying9
    repeat (first | refine WS.seq ?_ | refine WS.skip ?_ | refine WS.label ?_ | refine WS.block ?_ | refine WS.inBlock ?_ | refine WS.exit rfl ?_ | refine WS.scope ?_ | refine WS.inScope ?_ | refine WS.region (by simp only [EV, TY, h3, e2, ↓reduceIte, Nat.reduceEqDiff, decide_true, decide_false, eq_self]; with_reducible rfl) ?_)
    refine WS.ret1s (t := 2) rfl rfl hl.pre (frz_str _ _ _) ?_
    simp only [EV, ↓reduceIte, Nat.reduceEqDiff, decide_true, decide_false, eq_self, and_true, true_and, and_self]
  · rintro j fr T ⟨i, out, v, rfl, hi, htot, h3, h8, h9, h10, hW, hb, hl⟩ ih last
    by_cases hlt : i < ws.length
    · have hlt' : ((i : Nat) : Int) < ((ws.length : Nat) : Int) := by omega
      have hia : opIndexAddr E0 51 (.slI ws.length (strsC ws)) (.int .i64 (i : Nat)) = some (.imm ((strsC ws).drop (i * 1))) := ia_slI_51 _ _ _ _ hlt
      have hdr := drop_getD [] ws i hlt
      have hld : opLoad E0 T 9 (.imm ((strsC ws).drop (i * 1))) = some (.str (ws.getD i [])) := by
        have : (strsC ws).drop (i * 1) = .str (ws.getD i []) :: strsC (ws.drop (i + 1)) := by
          rw [Nat.mul_one]
          unfold strsC
          rw [← List.map_drop, hdr]
          rfl
        rw [this]
        exact ld_imm isAggO_9 _ _
      rw [hdr] at hW htot
      generalize ws.getD i [] = w at hld hW htot
      have hinc := wrap_inc i (by omega)
      have htot' : out.length + ((w.length + 1) + wsum (ws.drop (i + 1))) ≤ s.length + 1 := by
        simpa [wsum] using htot
      have hlen := hb.len bt50
      repeat (first | refine WS.seq ?_ | refine WS.skip ?_ | refine WS.label ?_ | refine WS.block ?_ | refine WS.inBlock ?_ | refine WS.exit rfl ?_ | refine WS.scope ?_ | refine WS.inScope ?_ | refine WS.region (by simp only [EV, TY, h8, h9, h10, hlt', ↓reduceIte, Nat.reduceEqDiff, decide_true, decide_false, eq_self]; with_reducible rfl) ?_)
      refine WS.cond_true (by simp only [EV, ↓reduceIte, Nat.reduceEqDiff, decide_true, decide_false, eq_self]) ?_
      by_cases hw : w = []
      · have hw' : (w == []) = true := beq_iff_eq.2 hw
        rw [foldW, if_pos hw] at hW
        repeat (first | refine WS.seq ?_ | refine WS.skip ?_ | refine WS.label ?_ | refine WS.block ?_ | refine WS.inBlock ?_ | refine WS.exit rfl ?_ | refine WS.scope ?_ | refine WS.inScope ?_ | refine WS.region (by simp only [EV, TY, h8, h10, hia, hld, hw', ↓reduceIte, Nat.reduceEqDiff, decide_true, decide_false, eq_self]; with_reducible rfl) ?_)
        refine WS.cond_true (by simp only [EV, ↓reduceIte, Nat.reduceEqDiff, decide_true, decide_false, eq_self]) ?_
        refine WS.exit rfl ?_
        repeat (first | refine WS.seq ?_ | refine WS.skip ?_ | refine WS.label ?_ | refine WS.block ?_ | refine WS.inBlock ?_ | refine WS.exit rfl ?_ | refine WS.scope ?_ | refine WS.inScope ?_ | refine WS.region (by simp only [EV, TY, h10, hinc, ↓reduceIte, Nat.reduceEqDiff, decide_true, decide_false, eq_self]; with_reducible rfl) ?_)
        refine ih (ws.length - (i + 1)) _ _ (by omega) ⟨i + 1, out, v, rfl, by omega, by omega, ?_, ?_, ?_, ?_, hW, hb, hl⟩
        · simp only [EV, h3, ↓reduceIte, Nat.reduceEqDiff, decide_true, decide_false, eq_self, and_true, true_and, and_self]
        · simp only [EV, h8, ↓reduceIte, Nat.reduceEqDiff, decide_true, decide_false, eq_self, and_true, true_and, and_self]
        · simp only [EV, h9, ↓reduceIte, Nat.reduceEqDiff, decide_true, decide_false, eq_self, and_true, true_and, and_self]
        · simp only [EV, ↓reduceIte, Nat.reduceEqDiff, decide_true, decide_false, eq_self, and_true, true_and, and_self]
      · have hw' : (w == []) = false := beq_eq_false_iff_ne.2 hw
        rw [foldW, if_neg hw] at hW
        by_cases ho : out = []
        · have ho' : ¬ (0 : Int) < ((out.length : Nat) : Int) := by simp [ho]
          rw [if_pos ho] at hW
          obtain ⟨v2, T2, g1, g2, g3⟩ := hb.appS bt50 Tryd.underlying9 hl.1 w (by omega)
          repeat (first | refine WS.seq ?_ | refine WS.skip ?_ | refine WS.label ?_ | refine WS.block ?_ | refine WS.inBlock ?_ | refine WS.exit rfl ?_ | refine WS.scope ?_ | refine WS.inScope ?_ | refine WS.region (by simp only [EV, TY, h8, h10, hia, hld, hw', ↓reduceIte, Nat.reduceEqDiff, decide_true, decide_false, eq_self]; with_reducible rfl) ?_)
          refine WS.cond_false (by simp only [EV, ↓reduceIte, Nat.reduceEqDiff, decide_true, decide_false, eq_self]) ?_
          repeat (first | refine WS.seq ?_ | refine WS.skip ?_ | refine WS.label ?_ | refine WS.block ?_ | refine WS.inBlock ?_ | refine WS.exit rfl ?_ | refine WS.scope ?_ | refine WS.inScope ?_ | refine WS.region (by simp only [EV, TY, h3, hlen, ho', ↓reduceIte, Nat.reduceEqDiff, decide_true, decide_false, eq_self]; with_reducible rfl) ?_)
          refine WS.cond_false (by simp only [EV, ↓reduceIte, Nat.reduceEqDiff, decide_true, decide_false, eq_self]) ?_
          repeat (first | refine WS.seq ?_ | refine WS.skip ?_ | refine WS.label ?_ | refine WS.block ?_ | refine WS.inBlock ?_ | refine WS.exit rfl ?_ | refine WS.scope ?_ | refine WS.inScope ?_ | refine WS.region (by simp only [EV, TY, h3, g1, h10, hinc, ↓reduceIte, Nat.reduceEqDiff, decide_true, decide_false, eq_self]; with_reducible rfl) ?_)
          refine ih (ws.length - (i + 1)) _ _ (by omega) ⟨i + 1, out ++ w, v2, rfl, by omega, by simp; omega, ?_, ?_, ?_, ?_, hW, g2, hl.trans g3⟩
          · simp only [EV, ↓reduceIte, Nat.reduceEqDiff, decide_true, decide_false, eq_self, and_true, true_and, and_self]
          · simp only [EV, h8, ↓reduceIte, Nat.reduceEqDiff, decide_true, decide_false, eq_self, and_true, true_and, and_self]
          · simp only [EV, h9, ↓reduceIte, Nat.reduceEqDiff, decide_true, decide_false, eq_self, and_true, true_and, and_self]
          · simp only [EV, ↓reduceIte, Nat.reduceEqDiff, decide_true, decide_false, eq_self, and_true, true_and, and_self]
        · have hpos : 0 < out.length := List.length_pos_iff.2 ho
          have ho' : (0 : Int) < ((out.length : Nat) : Int) := by omega
          rw [if_neg ho] at hW
          obtain ⟨v1, T1, f1, f2, f3⟩ := hb.app1 bt50 hl.1 32 (by omega)
          have f1' : opAppend E0 (T ++ [.cells [.int .u8 32] 5]) [50, 50] v (.slR T.length 0 1 1 1) = some (v1, T1) := f1
          have hm := mk1_ bt50 T 32
          obtain ⟨v2, T2, g1, g2, g3⟩ := f2.appS bt50 Tryd.underlying9 (hl.trans f3).1 w (by simp; omega)
          repeat (first | refine WS.seq ?_ | refine WS.skip ?_ | refine WS.label ?_ | refine WS.block ?_ | refine WS.inBlock ?_ | refine WS.exit rfl ?_ | refine WS.scope ?_ | refine WS.inScope ?_ | refine WS.region (by simp only [EV, TY, h8, h10, hia, hld, hw', ↓reduceIte, Nat.reduceEqDiff, decide_true, decide_false, eq_self]; with_reducible rfl) ?_)
          refine WS.cond_false (by simp only [EV, ↓reduceIte, Nat.reduceEqDiff, decide_true, decide_false, eq_self]) ?_
          repeat (first | refine WS.seq ?_ | refine WS.skip ?_ | refine WS.label ?_ | refine WS.block ?_ | refine WS.inBlock ?_ | refine WS.exit rfl ?_ | refine WS.scope ?_ | refine WS.inScope ?_ | refine WS.region (by simp only [EV, TY, h3, hlen, ho', ↓reduceIte, Nat.reduceEqDiff, decide_true, decide_false, eq_self]; with_reducible rfl) ?_)
          refine WS.cond_true (by simp only [EV, ↓reduceIte, Nat.reduceEqDiff, decide_true, decide_false, eq_self]) ?_
          repeat (first | refine WS.seq ?_ | refine WS.skip ?_ | refine WS.label ?_ | refine WS.block ?_ | refine WS.inBlock ?_ | refine WS.exit rfl ?_ | refine WS.scope ?_ | refine WS.inScope ?_ | refine WS.region (by simp only [EV, TY, h3, hm, f1', g1, h10, hinc, ↓reduceIte, Nat.reduceEqDiff, decide_true, decide_false, eq_self]; with_reducible rfl) ?_)
          refine ih (ws.length - (i + 1)) _ _ (by omega) ⟨i + 1, out ++ [32] ++ w, v2, rfl, by omega, by simp; omega, ?_, ?_, ?_, ?_, hW, g2, (hl.trans f3).trans g3⟩
          · simp only [EV, ↓reduceIte, Nat.reduceEqDiff, decide_true, decide_false, eq_self, and_true, true_and, and_self]
          · simp only [EV, h8, ↓reduceIte, Nat.reduceEqDiff, decide_true, decide_false, eq_self, and_true, true_and, and_self]
          · simp only [EV, h9, ↓reduceIte, Nat.reduceEqDiff, decide_true, decide_false, eq_self, and_true, true_and, and_self]
          · simp only [EV, ↓reduceIte, Nat.reduceEqDiff, decide_true, decide_false, eq_self, and_true, true_and, and_self]
    · have hlt' : ¬ ((i : Nat) : Int) < ((ws.length : Nat) : Int) := by omega
      repeat (first | refine WS.seq ?_ | refine WS.skip ?_ | refine WS.label ?_ | refine WS.block ?_ | refine WS.inBlock ?_ | refine WS.exit rfl ?_ | refine WS.scope ?_ | refine WS.inScope ?_ | refine WS.region (by simp only [EV, TY, h9, h10, hlt', ↓reduceIte, Nat.reduceEqDiff, decide_true, decide_false, eq_self]; with_reducible rfl) ?_)
      refine WS.cond_false (by simp only [EV, ↓reduceIte, Nat.reduceEqDiff, decide_true, decide_false, eq_self]) ?_
      refine WS.exit rfl ?_
      have : ws.drop i = [] := List.drop_eq_nil_iff.2 (by omega)
      rw [this] at hW
      refine last _ _ ⟨out, v, ?_, hW, hb, hl⟩
      simp only [EV, h3, ↓reduceIte, Nat.reduceEqDiff, decide_true, decide_false, eq_self, and_true, true_and, and_self]
end Go.Proofs.YtjcckafjopjdbaaDoor
namespace Go.Proofs.YtjcckafjopjdbaaDoor
open Go Go.Vm
set_option maxRecDepth 100000
set_option maxHeartbeats 4000000
set_option linter.unusedSimpArgs false
set_option linter.unusedVariables false
theorem isNaN_ok (s : List UInt8) (S : Store) : vrun E0 (.fn 52) [.str s] S = some (.bool false, S) := by
  refine fn_ws Tryd.func52 rfl ?_
  have h : (!(s == s)) = false := by simp
  repeat (first | refine WS.seq ?_ | refine WS.skip ?_ | refine WS.label ?_ | refine WS.block ?_ | refine WS.inBlock ?_ | refine WS.exit rfl ?_ | refine WS.scope ?_ | refine WS.inScope ?_ | refine WS.region (by simp only [EV, TY, lget, h, ↓reduceIte, Nat.reduceEqDiff, decide_true, decide_false, eq_self]; with_reducible rfl) ?_)
  refine WS.ret1s (t := 2) rfl rfl (List.prefix_refl _) (frz_bool _ _ _) ?_
  simp only [EV, lget, ↓reduceIte, Nat.reduceEqDiff, decide_true, decide_false, eq_self, and_true, true_and, and_self]
def cmpZ (x y : List UInt8) : Int := if lessB x y = true then -1 else if lessB y x = true then 1 else 0
theorem cmpZ_neg (x y : List UInt8) : cmpZ x y < 0 ↔ lessB x y = true := by
  unfold cmpZ
  split
  · simp_all
  · split <;> simp_all
theorem Compare_ok (x y : List UInt8) (S : Store) : vrun E0 (.fn 37) [.str x, .str y] S = some (.int .i64 (cmpZ x y), S) := by
  refine fn_ws Tryd.func37 rfl ?_
  repeat (first | refine WS.seq ?_ | refine WS.skip ?_ | refine WS.label ?_ | refine WS.block ?_ | refine WS.inBlock ?_ | refine WS.exit rfl ?_ | refine WS.scope ?_ | refine WS.inScope ?_ | refine WS.region (by simp only [EV, TY, lget, callV_52, isNaN_ok, ↓reduceIte, Nat.reduceEqDiff, decide_true, decide_false, eq_self]; with_reducible rfl) ?_)
  refine WS.cond_false (by simp only [EV, lget, ↓reduceIte, Nat.reduceEqDiff, decide_true, decide_false, eq_self]) ?_
  repeat (first | refine WS.seq ?_ | refine WS.skip ?_ | refine WS.label ?_ | refine WS.block ?_ | refine WS.inBlock ?_ | refine WS.exit rfl ?_ | refine WS.scope ?_ | refine WS.inScope ?_ | refine WS.region (by simp only [EV, TY, lget, ↓reduceIte, Nat.reduceEqDiff, decide_true, decide_false, eq_self]; with_reducible rfl) ?_)
  refine WS.cond_false (by simp only [EV, lget, ↓reduceIte, Nat.reduceEqDiff, decide_true, decide_false, eq_self]) ?_
  by_cases h : lessB x y = true
  · have h' : Op.bytesLess x y = true := h
    repeat (first | refine WS.seq ?_ | refine WS.skip ?_ | refine WS.label ?_ | refine WS.block ?_ | refine WS.inBlock ?_ | refine WS.exit rfl ?_ | refine WS.scope ?_ | refine WS.inScope ?_ | refine WS.region (by simp only [EV, TY, lget, h', ↓reduceIte, Nat.reduceEqDiff, decide_true, decide_false, eq_self]; with_reducible rfl) ?_)
    refine WS.cond_true (by simp only [EV, lget, ↓reduceIte, Nat.reduceEqDiff, decide_true, decide_false, eq_self]) ?_
    repeat (first | refine WS.seq ?_ | refine WS.skip ?_ | refine WS.label ?_ | refine WS.block ?_ | refine WS.inBlock ?_ | refine WS.exit rfl ?_ | refine WS.scope ?_ | refine WS.inScope ?_ | refine WS.region (by simp only [EV, TY, lget, ↓reduceIte, Nat.reduceEqDiff, decide_true, decide_false, eq_self]; with_reducible rfl) ?_)
    refine WS.ret1s (t := 4) rfl rfl (List.prefix_refl _) (frz_int _ _ _ _) ?_
    simp only [EV, lget, ↓reduceIte, Nat.reduceEqDiff, decide_true, decide_false, eq_self, and_true, true_and, and_self]
    rw [cmpZ, if_pos h]
  · have h : lessB x y = false := by simpa using h
    have h' : Op.bytesLess x y = false := h
    repeat (first | refine WS.seq ?_ | refine WS.skip ?_ | refine WS.label ?_ | refine WS.block ?_ | refine WS.inBlock ?_ | refine WS.exit rfl ?_ | refine WS.scope ?_ | refine WS.inScope ?_ | refine WS.region (by simp only [EV, TY, lget, h', ↓reduceIte, Nat.reduceEqDiff, decide_true, decide_false, eq_self]; with_reducible rfl) ?_)
    refine WS.cond_false (by simp only [EV, lget, ↓reduceIte, Nat.reduceEqDiff, decide_true, decide_false, eq_self]) ?_
    by_cases g : x = y
    · have hg : (!(Op.bytesLess x y || x == y)) = false := by simp [g]
      repeat (first | refine WS.seq ?_ | refine WS.skip ?_ | refine WS.label ?_ | refine WS.block ?_ | refine WS.inBlock ?_ | refine WS.exit rfl ?_ | refine WS.scope ?_ | refine WS.inScope ?_ | refine WS.region (by simp only [EV, TY, lget, hg, ↓reduceIte, Nat.reduceEqDiff, decide_true, decide_false, eq_self]; with_reducible rfl) ?_)
      refine WS.cond_false (by simp only [EV, lget, ↓reduceIte, Nat.reduceEqDiff, decide_true, decide_false, eq_self]) ?_
      repeat (first | refine WS.seq ?_ | refine WS.skip ?_ | refine WS.label ?_ | refine WS.block ?_ | refine WS.inBlock ?_ | refine WS.exit rfl ?_ | refine WS.scope ?_ | refine WS.inScope ?_ | refine WS.region (by simp only [EV, TY, lget, ↓reduceIte, Nat.reduceEqDiff, decide_true, decide_false, eq_self]; with_reducible rfl) ?_)
      refine WS.ret1s (t := 4) rfl rfl (List.prefix_refl _) (frz_int _ _ _ _) ?_
      simp only [EV, lget, ↓reduceIte, Nat.reduceEqDiff, decide_true, decide_false, eq_self, and_true, true_and, and_self]
      rw [cmpZ, if_neg (by rw [h]; simp), if_neg (by rw [g, less_irrefl]; simp)]
    · have hg : (!(Op.bytesLess x y || x == y)) = true := by rw [h']; simp [g]
      have hyx : lessB y x = true := by
        cases hyx : lessB y x with
        | true => rfl
        | false => exact absurd (less_total h hyx) g
      repeat (first | refine WS.seq ?_ | refine WS.skip ?_ | refine WS.label ?_ | refine WS.block ?_ | refine WS.inBlock ?_ | refine WS.exit rfl ?_ | refine WS.scope ?_ | refine WS.inScope ?_ | refine WS.region (by simp only [EV, TY, lget, hg, ↓reduceIte, Nat.reduceEqDiff, decide_true, decide_false, eq_self]; with_reducible rfl) ?_)
      refine WS.cond_true (by simp only [EV, lget, ↓reduceIte, Nat.reduceEqDiff, decide_true, decide_false, eq_self]) ?_
      repeat (first | refine WS.seq ?_ | refine WS.skip ?_ | refine WS.label ?_ | refine WS.block ?_ | refine WS.inBlock ?_ | refine WS.exit rfl ?_ | refine WS.scope ?_ | refine WS.inScope ?_ | refine WS.region (by simp only [EV, TY, lget, ↓reduceIte, Nat.reduceEqDiff, decide_true, decide_false, eq_self]; with_reducible rfl) ?_)
      refine WS.ret1s (t := 4) rfl rfl (List.prefix_refl _) (frz_int _ _ _ _) ?_
      simp only [EV, lget, ↓reduceIte, Nat.reduceEqDiff, decide_true, decide_false, eq_self, and_true, true_and, and_self]
      rw [cmpZ, if_neg (by rw [h]; simp), if_pos hyx]
theorem box_40 (S : Store) (a : Ava) : opBox S 40 (avaV a) = some (.ref S.length 0, S ++ [.cells [.str a.1, .str a.2] 40]) := by
  unfold opBox avaV
  simp [solid, vcells]
theorem Norm1_ok (a b : Ava) (S : Store) : vrun E0 (.fn 36) [avaV a, avaV b] S = some (.int .i64 (cmpZ a.1 b.1), S) := by
  refine fn_ws Tryd.func36 rfl ?_
  have h1 := box_40 S a
  have h2 := box_40 (S ++ [.cells [.str a.1, .str a.2] 40]) b
  generalize hU : S ++ [Ob.cells [.str a.1, .str a.2] 40] ++ [Ob.cells [.str b.1, .str b.2] 40] = U at h2
  have atA : At U (.ref S.length 0) (.str a.1 :: .str a.2 :: []) := .inr ⟨S.length, 0, _, 40, rfl, by rw [← hU]; simp, rfl⟩
  have atB : At U (.ref (S ++ [Ob.cells [.str a.1, .str a.2] 40]).length 0) (.str b.1 :: .str b.2 :: []) := .inr ⟨_, 0, _, 40, rfl, by rw [← hU]; simp, rfl⟩
  obtain ⟨fa, fa1, fa2⟩ := ava_type atA
  obtain ⟨fb, fb1, fb2⟩ := ava_type atB
  repeat (first | refine WS.seq ?_ | refine WS.skip ?_ | refine WS.label ?_ | refine WS.block ?_ | refine WS.inBlock ?_ | refine WS.exit rfl ?_ | refine WS.scope ?_ | refine WS.inScope ?_ | refine WS.region (by simp only [EV, TY, lget, h1, h2, fa1, fa2, fb1, fb2, callV_37, Compare_ok, ↓reduceIte, Nat.reduceEqDiff, decide_true, decide_false, eq_self]; with_reducible rfl) ?_)
  refine WS.ret1s (t := 4) rfl rfl ?_ (frz_int _ _ _ _) ?_
  · rw [← hU, List.append_assoc]; exact List.prefix_append _ _
  · simp only [EV, lget, ↓reduceIte, Nat.reduceEqDiff, decide_true, decide_false, eq_self, and_true, true_and, and_self]
end Go.Proofs.YtjcckafjopjdbaaDoor
