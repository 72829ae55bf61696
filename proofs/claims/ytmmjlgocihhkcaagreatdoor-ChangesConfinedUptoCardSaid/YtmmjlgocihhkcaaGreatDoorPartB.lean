import Derived.Test.YtmmjlgocihhkcaaGreatDoorPartA
import Derived.Test.YtmmjlgocihhkcaaGreatDoorVmF
set_option linter.all false
namespace Go.Proofs.YtmmjlgocihhkcaaGreatDoor
open Go Go.Vm
set_option maxRecDepth 100000
set_option maxHeartbeats 4000000
theorem callV_193 (c : CallT) (s : List UInt8) (b : UInt8) (S : Store) : callV E0 c (.fn (.func 193) [] []) [.str s, .int .u8 b.toNat] S = some (.int .i64 ((s.filter (· == b)).length : Nat), S) := by
 have h : callV E0 c (.fn (.func 193) [] []) [.str s, .int .u8 b.toNat] S = some (.int .i64 ((s.filter (· == UInt8.ofNat (b.toNat : Int).toNat)).length : Nat), S) := by kernel_rfl
 rw [h]
 simp
theorem sn1 (b : UInt8) : opIndex E0 9 (.str [b]) (.int .i64 0) = some (.int .u8 b.toNat) := idx_str_9 [b] .i64 0 (by simp)
theorem hl1 (b : UInt8) : (([b].length : Nat) : Int) = 1 := rfl
theorem Index'_ok (s : List UInt8) (b : UInt8) (S : Store) : vrun E0 (.fn 194) [.str s, .str [b]] S = some (.int .i64 (idxInt (s.findIdx? (· == b))), S) := by
 refine fn_ws Tryz.func194 rfl ?_
 have b1 : ((1 : Int) == 0) = false := rfl
 have b2 : ((1 : Int) == 1) = true := rfl
 by_cases h : [b] = s
 ·have h' : (([b] : List UInt8) == s) = true := beq_iff_eq.2 h
  repeat (first | refine WS.adm rfl ?_ | refine WS.region (by simp only [EV, TY, lget, hl1, b1, h', ↓reduceIte, Nat.reduceEqDiff]; with_reducible rfl) ?_)
  refine WS.cond_true (by simp only [EV, lget, ↓reduceIte, Nat.reduceEqDiff]) ?_
  repeat (first | refine WS.adm rfl ?_ | refine WS.rl ?_)
  refine WS.ret1s (t := 4) rfl rfl (List.prefix_refl _) (frz_int _ _ _ _) ?_
  simp only [EV, lget, ↓reduceIte, Nat.reduceEqDiff, AT]
  rw [← h]
  simp [List.findIdx?_cons, idxInt]
 ·have h' : (([b] : List UInt8) == s) = false := beq_eq_false_iff_ne.2 h
  repeat (first | refine WS.adm rfl ?_ | refine WS.region (by simp only [EV, TY, lget, hl1, b1, h', ↓reduceIte, Nat.reduceEqDiff]; with_reducible rfl) ?_)
  refine WS.cond_false (by simp only [EV, lget, ↓reduceIte, Nat.reduceEqDiff]) ?_
  repeat (first | refine WS.adm rfl ?_ | refine WS.region (by simp only [EV, TY, lget, b2, ↓reduceIte, Nat.reduceEqDiff]; with_reducible rfl) ?_)
  refine WS.cond_true (by simp only [EV, lget, ↓reduceIte, Nat.reduceEqDiff]) ?_
  repeat (first | refine WS.adm rfl ?_ | refine WS.region (by simp only [EV, TY, lget, sn1, callV_153, IndexByte'_ok, ↓reduceIte, Nat.reduceEqDiff]; with_reducible rfl) ?_)
  refine WS.ret1s (t := 4) rfl rfl (List.prefix_refl _) (frz_int _ _ _ _) ?_
  simp only [EV, lget, ↓reduceIte, Nat.reduceEqDiff, AT]
theorem Index_ok (s : List UInt8) (b : UInt8) (S : Store) : vrun E0 (.fn 180) [.str s, .str [b]] S = some (.int .i64 (idxInt (s.findIdx? (· == b))), S) := by
 refine fn_ws Tryz.func180 rfl ?_
 repeat (first | refine WS.adm rfl ?_ | refine WS.region (by simp only [EV, TY, lget, callV_194, Index'_ok, ↓reduceIte, Nat.reduceEqDiff]; with_reducible rfl) ?_)
 refine WS.ret1s (t := 4) rfl rfl (List.prefix_refl _) (frz_int _ _ _ _) ?_
 simp only [EV, ↓reduceIte, Nat.reduceEqDiff, AT]
def countB (b : UInt8) (s : List UInt8) : Nat := (s.filter (· == b)).length
theorem Count_ok (s : List UInt8) (b : UInt8) (S : Store) : vrun E0 (.fn 179) [.str s, .str [b]] S = some (.int .i64 (countB b s : Nat), S) := by
 refine fn_ws Tryz.func179 rfl ?_
 have b1 : ((1 : Int) == 0) = false := rfl
 have b2 : ((1 : Int) == 1) = true := rfl
 repeat (first | refine WS.adm rfl ?_ | refine WS.region (by simp only [EV, TY, lget, hl1, b1, ↓reduceIte, Nat.reduceEqDiff]; with_reducible rfl) ?_)
 refine WS.cond_false (by simp only [EV, lget, ↓reduceIte, Nat.reduceEqDiff]) ?_
 repeat (first | refine WS.adm rfl ?_ | refine WS.region (by simp only [EV, TY, lget, hl1, b2, ↓reduceIte, Nat.reduceEqDiff]; with_reducible rfl) ?_)
 refine WS.cond_true (by simp only [EV, lget, ↓reduceIte, Nat.reduceEqDiff]) ?_
 repeat (first | refine WS.adm rfl ?_ | refine WS.region (by simp only [EV, TY, lget, sn1, callV_193, ↓reduceIte, Nat.reduceEqDiff]; with_reducible rfl) ?_)
 refine WS.ret1s (t := 4) rfl rfl (List.prefix_refl _) (frz_int _ _ _ _) ?_
 simp only [EV, lget, ↓reduceIte, Nat.reduceEqDiff, AT]
 rfl
theorem find_take (b : UInt8) : ∀ (s : List UInt8) (k : Nat), s.findIdx? (· == b) = some k → countB b s = countB b (s.drop (k + 1)) + 1
 | [], k, h => by simp at h
 | c :: s, k, h => by
  rw [List.findIdx?_cons] at h
  by_cases hc : (c == b) = true
  ·rw [if_pos hc] at h
   injection h with h
   subst h
   simp [countB, List.filter_cons, hc]
  ·rw [if_neg hc] at h
   cases hf : s.findIdx? (· == b) with
   | none => rw [hf] at h; cases h
   | some j =>
    rw [hf] at h
    injection h with h
    subst h
    have := find_take b s j hf
    simp only [countB, List.filter_cons, if_neg hc, List.drop_succ_cons] at this ⊢
    exact this
theorem find_none0 (b : UInt8) (s : List UInt8) (h : s.findIdx? (· == b) = none) : countB b s = 0 := by
 rw [List.findIdx?_eq_none_iff] at h
 unfold countB
 rw [List.length_eq_zero_iff, List.filter_eq_nil_iff]
 intro x hx
 rw [h x hx]; simp
theorem countB_le (b : UInt8) (s : List UInt8) : countB b s ≤ s.length := List.length_filter_le _ _
def splitB (b : UInt8) (s : List UInt8) : List (List UInt8) :=
 match h : s.findIdx? (· == b) with
 | none => [s]
 | some k => s.take k :: splitB b (s.drop (k + 1))
termination_by s.length
decreasing_by
 have := (List.findIdx?_eq_some_iff_getElem.1 h).1
 simp; omega
theorem splitB_none {b : UInt8} {s : List UInt8} (h : s.findIdx? (· == b) = none) : splitB b s = [s] := by
 rw [splitB]
 split
 ·rfl
 ·rename_i k hk; rw [h] at hk; cases hk
theorem splitB_some {b : UInt8} {s : List UInt8} {k : Nat} (h : s.findIdx? (· == b) = some k) : splitB b s = s.take k :: splitB b (s.drop (k + 1)) := by
 rw [splitB]
 split
 ·rename_i hk; rw [h] at hk; cases hk
 ·rename_i k' hk
  rw [h] at hk
  injection hk with hk
  subst hk
  rfl
def strsC (l : List (List UInt8)) : List V := l.map .str
theorem ty51 : ETy E0 28 9 1 16 (.str []) := ⟨Tryz.underlying28, elemT_28, tsize_9, tbytes_9, zeroV_9, rfl, rfl, by omega, by omega⟩
theorem mkSl51 (S : Store) (n : Nat) (h : n ≤ 4194304) : opMakeSlice E0 S 28 (.int .i64 (n : Nat)) (.int .i64 (n : Nat)) = some (.slR S.length 0 n n 1, S ++ [.cells (List.replicate n (.str [])) 9]) := by
 have e : repl n (vcells (.str [])) = List.replicate n (.str []) := by
  unfold repl vcells
  induction n with
  | zero => rfl
  | succ n ih => rw [List.replicate_succ, List.flatten_cons, ih (by omega), List.replicate_succ]; rfl
 unfold opMakeSlice
 simp only [elemT_28, tsize_9, tbytes_9, zeroV_9, vInt, Option.bind_eq_bind, Option.bind_some]
 rw [if_pos]
 ·simp only [Int.toNat_natCast, e]
 ·simp [solid, vcells]; omega
theorem frz_strs (n0 : Nat) (S : Store) (id : Nat) (l : List (List UInt8)) (h0 : n0 ≤ id) (h : S[id]? = some (.cells (strsC l) 9)) : frz 6 n0 S (.slR id 0 l.length l.length 1) = some (.slI l.length (strsC l)) := by
 have hn : ¬ id < n0 := by omega
 have hl : (strsC l).length = l.length := by simp [strsC]
 have hc : cellsAt S (.ref id 0) (l.length * 1) = some (strsC l) := by
  simp [cellsAt, cellsOf, h, tk, hl, List.take_of_length_le]
 have hm : ∀ l : List (List UInt8), (strsC l).mapM (frzIn 11 n0 S) = some (strsC l) := by
  intro l
  induction l with
  | nil => rfl
  | cons a l ih =>
   unfold strsC at ih ⊢
   rw [List.map_cons, List.mapM_cons, ih]
   rfl
 show (if id < n0 then some _ else frzIn 12 n0 S (.slR id 0 l.length l.length 1)) = _
 rw [if_neg hn]
 show (if id < n0 then none else (cellsAt S (.ref id 0) (l.length * 1)).bind fun cs => (cs.mapM (frzIn 11 n0 S)).bind fun cs => some (V.slI l.length cs)) = _
 rw [if_neg hn, hc, Option.bind_some, hm, Option.bind_some]
theorem sl51h (id n m : Nat) (h : m ≤ n) : opSlice E0 28 (.slR id 0 n n 1) none (some (.int .i64 (m : Nat))) none = some (.slR id 0 m n 1) := by
 unfold opSlice
 simp [Tryz.underlying28, tsize_9, bnd, h, E0_P]
theorem genSplit_ok (s : List UInt8) (b : UInt8) (S : Store) (hs : s.length ≤ 1048576) : vrun E0 (.fn 165) [.str s, .str [b], .int .i64 0, .int .i64 (-1)] S = some (.slI (splitB b s).length (strsC (splitB b s)), S) := by
 refine fn_ws Tryz.func165 rfl ?_
 have b1 : ((-1 : Int) == 0) = false := rfl
 have b2 : (([b] : List UInt8) == []) = false := rfl
 have b3 : (-1 : Int) < 0 := by omega
 have hcl := countB_le b s
 have i1 := wrap_inc (countB b s) (by omega)
 have i2 := wrap_inc s.length (by omega)
 have hmin : minMax false (.int .i64 ((countB b s + 1 : Nat) : Int)) [.int .i64 ((s.length + 1 : Nat) : Int)] = some (.int .i64 ((countB b s + 1 : Nat) : Int)) := by
  have : ¬ ((s.length + 1 : Nat) : Int) < ((countB b s + 1 : Nat) : Int) := by omega
  simp only [minMax, if_true, Bool.false_eq_true, if_false]
  rw [if_neg this]
 have hmk := mkSl51 S (countB b s + 1) (by omega)
 have hsub : IntKind.i64.wrap (((countB b s + 1 : Nat) : Int) - 1) = ((countB b s : Nat) : Int) := wrap_sub1 (countB b s + 1) (by omega) (by omega)
 have hcnt := Count_ok s b S
 repeat (first | refine WS.adm rfl ?_ | refine WS.region (by simp only [EV, TY, lget, b1, ↓reduceIte, Nat.reduceEqDiff]; with_reducible rfl) ?_)
 refine WS.cond_false (by simp only [EV, lget, ↓reduceIte, Nat.reduceEqDiff]) ?_
 repeat (first | refine WS.adm rfl ?_ | refine WS.region (by simp only [EV, TY, lget, b2, ↓reduceIte, Nat.reduceEqDiff]; with_reducible rfl) ?_)
 refine WS.cond_false (by simp only [EV, lget, ↓reduceIte, Nat.reduceEqDiff]) ?_
 repeat (first | refine WS.adm rfl ?_ | refine WS.region (by simp only [EV, TY, lget, b3, ↓reduceIte, Nat.reduceEqDiff]; with_reducible rfl) ?_)
 refine WS.cond_true (by simp only [EV, lget, ↓reduceIte, Nat.reduceEqDiff]) ?_
 repeat (first | refine WS.adm rfl ?_ | refine WS.region (by simp only [EV, TY, lget, callV_179, hcnt, i1, i2, hmin, hmk, hsub, ↓reduceIte, Nat.reduceEqDiff]; with_reducible rfl) ?_)
 generalize hN : countB b s = N at hmk
 refine WS.loopB (fun j fr T => ∃ done s', j = s'.length ∧ done.length + countB b s' = N ∧ s'.length ≤ s.length ∧ done ++ splitB b s' = splitB b s ∧ lget fr 0 = .str s' ∧ lget fr 1 = .str [b] ∧ lget fr 2 = .int .i64 0 ∧ lget fr 3 = .int .i64 (N : Nat) ∧ lget fr 9 = .slR S.length 0 (N + 1) (N + 1) 1 ∧ lget fr 10 = .int .i64 (done.length : Nat) ∧ T = S ++ [.cells (strsC done ++ List.replicate (N + 1 - done.length) (.str [])) 9])
  (fun fr T => ∃ done s', done.length = N ∧ done ++ [s'] = splitB b s ∧ lget fr 0 = .str s' ∧ lget fr 9 = .slR S.length 0 (N + 1) (N + 1) 1 ∧ lget fr 10 = .int .i64 (done.length : Nat) ∧ T = S ++ [.cells (strsC done ++ List.replicate (N + 1 - done.length) (.str [])) 9]) (j := s.length) ?_ ?_ ?_
 ·refine ⟨[], s, rfl, by simpa using hN, Nat.le_refl _, rfl, ?_, ?_, ?_, ?_, ?_, ?_, by simp [strsC]⟩
  all_goals
   simp only [EV, lget, ↓reduceIte, Nat.reduceEqDiff, AT]
   try rfl
  all_goals
   rw [hN]
 ·rintro fr T ⟨done, s', hd, hsp, h0, h9, h10, rfl⟩
  have hia : opIndexAddr E0 28 (.slR S.length 0 (N + 1) (N + 1) 1) (.int .i64 (done.length : Nat)) = some (.ref S.length done.length) := by
   rw [ia_slR_28 _ _ _ _ _ _ (by omega)]; simp
  have hst : opStore E0 (S ++ [.cells (strsC done ++ List.replicate (N + 1 - done.length) (.str [])) 9]) 9 (.ref S.length done.length) (.str s') = some (S ++ [.cells (strsC (done ++ [s'])) 9]) := by
   rw [st_one tsize_9 _ _ _ rfl (by simp), putAt_one (getS0 _) (by simp [strsC]; omega), setS0]
   have : N + 1 - done.length = 1 := by omega
   rw [this]
   simp [strsC]
  have hinc := wrap_inc done.length (by omega)
  have hsl := sl51h S.length (N + 1) (done.length + 1) (by omega)
  have hlen : (splitB b s).length = N + 1 := by rw [← hsp]; simp; omega
  have hge : done.length + 1 = N + 1 := by omega
  rw [hge] at hsl hinc
  rw [hsp] at hst
  repeat (first | refine WS.adm rfl ?_ | refine WS.region (by simp only [EV, TY, h0, h9, h10, hia, hst, hinc, hsl, ↓reduceIte, Nat.reduceEqDiff]; with_reducible rfl) ?_)
  refine WS.ret1 (t := 8) rfl rfl ?_ (List.prefix_append _ _) (frz_strs _ _ S.length (splitB b s) (Nat.le_refl _) (getS0 _))
  simp only [EV, ↓reduceIte, Nat.reduceEqDiff, AT]
  rw [hlen]
 ·rintro j fr T ⟨done, s', rfl, hd, hle, hsp, h0, h1, h2, h3, h9, h10, rfl⟩ ih last
  by_cases hlt : done.length < N
  ·have hlt' : ((done.length : Nat) : Int) < ((N : Nat) : Int) := by omega
   cases hf : s'.findIdx? (· == b) with
   | none => have := find_none0 b s' hf; omega
   | some k =>
    have hk : k < s'.length := (List.findIdx?_eq_some_iff_getElem.1 hf).1
    have hI := Index_ok s' b (S ++ [.cells (strsC done ++ List.replicate (N + 1 - done.length) (.str [])) 9])
    rw [hf] at hI
    simp only [idxInt] at hI
    have hcnt := find_take b s' k hf
    have hneg : ¬ ((k : Nat) : Int) < 0 := by omega
    have hadd0 : IntKind.i64.wrap (((k : Nat) : Int) + 0) = ((k : Nat) : Int) := wrap_i64 (by omega) (by omega) |>.trans (by omega)
    have hinc := wrap_inc k (by omega)
    have dinc := wrap_inc done.length (by omega)
    have e1 := sl9h s' k (by omega)
    have e2 := sl9 s' (k + 1) (by omega)
    have hia : opIndexAddr E0 28 (.slR S.length 0 (N + 1) (N + 1) 1) (.int .i64 (done.length : Nat)) = some (.ref S.length done.length) := by
     rw [ia_slR_28 _ _ _ _ _ _ (by omega)]; simp
    have hst : opStore E0 (S ++ [.cells (strsC done ++ List.replicate (N + 1 - done.length) (.str [])) 9]) 9 (.ref S.length done.length) (.str (s'.take k)) = some (S ++ [.cells (strsC (done ++ [s'.take k]) ++ List.replicate (N + 1 - (done ++ [s'.take k]).length) (.str [])) 9]) := by
     rw [st_one tsize_9 _ _ _ rfl (by simp), putAt_one (getS0 _) (by simp [strsC]; omega), setS0]
     obtain ⟨q, hq⟩ : ∃ q, N + 1 - done.length = q + 1 := ⟨N - done.length, by omega⟩
     have hq2 : N + 1 - (done ++ [s'.take k]).length = q := by simp; omega
     rw [hq, hq2, List.replicate_succ]
     have : (strsC done).length = done.length := by simp [strsC]
     simp [strsC, List.set_append_right]
    repeat (first | refine WS.adm rfl ?_ | refine WS.region (by simp only [EV, TY, h3, h10, hlt', ↓reduceIte, Nat.reduceEqDiff]; with_reducible rfl) ?_)
    refine WS.ct0 ?_
    repeat (first | refine WS.adm rfl ?_ | refine WS.region (by simp only [EV, TY, h0, h1, callV_180, hI, hneg, ↓reduceIte, Nat.reduceEqDiff]; with_reducible rfl) ?_)
    refine WS.cf0 ?_
    repeat (first | refine WS.adm rfl ?_ | refine WS.region (by simp only [EV, TY, h0, h1, h2, h9, h10, hadd0, e1, hia, hst, hl1, hinc, e2, dinc, ↓reduceIte, Nat.reduceEqDiff]; with_reducible rfl) ?_)
    refine ih (s'.drop (k + 1)).length _ _ (by simp; omega) ⟨done ++ [s'.take k], s'.drop (k + 1), rfl, by simp; omega, by simp; omega, ?_, ?_, ?_, ?_, ?_, ?_, ?_, rfl⟩
    ·rw [← hsp, splitB_some hf]; simp
    iterate 5 simp only [EV, h1, h2, h3, h9, ↓reduceIte, Nat.reduceEqDiff, AT]
    ·simp only [EV, ↓reduceIte, Nat.reduceEqDiff, AT]
     simp
  ·have hlt' : ¬ ((done.length : Nat) : Int) < ((N : Nat) : Int) := by omega
   have hf : s'.findIdx? (· == b) = none := by
    cases hf : s'.findIdx? (· == b) with
    | none => rfl
    | some k => have := find_take b s' k hf; omega
   repeat (first | refine WS.adm rfl ?_ | refine WS.region (by simp only [EV, TY, h3, h10, hlt', ↓reduceIte, Nat.reduceEqDiff]; with_reducible rfl) ?_)
   refine WS.cf0 ?_
   refine WS.exit rfl ?_
   refine last _ _ ⟨done, s', by omega, ?_, ?_, ?_, ?_, rfl⟩
   ·rw [← hsp, splitB_none hf]
   iterate 3 simp only [EV, h0, h9, h10, ↓reduceIte, Nat.reduceEqDiff, AT]
theorem Split_ok (s : List UInt8) (b : UInt8) (S : Store) (hs : s.length ≤ 1048576) : vrun E0 (.fn 142) [.str s, .str [b]] S = some (.slI (splitB b s).length (strsC (splitB b s)), S) := by
 refine fn_ws Tryz.func142 rfl ?_
 have h := genSplit_ok s b S hs
 have hm : ∀ l : List (List UInt8), (strsC l).mapM (frz 5 S.length S) = some (strsC l) := by
  intro l
  induction l with
  | nil => rfl
  | cons a l ih =>
   unfold strsC at ih ⊢
   rw [List.map_cons, List.mapM_cons, ih]
   rfl
 repeat (first | refine WS.adm rfl ?_ | refine WS.region (by simp only [EV, TY, lget, callV_165, h, ↓reduceIte, Nat.reduceEqDiff]; with_reducible rfl) ?_)
 refine WS.ret1s (t := 4) rfl rfl (List.prefix_refl _) rfl ?_
 simp only [EV, ↓reduceIte, Nat.reduceEqDiff, AT]
def foldW (out : List UInt8) : List (List UInt8) → List UInt8
 | [] => out
 | w :: ws => if w = [] then foldW out ws else foldW ((if out = [] then out else out ++ [32]) ++ w) ws
def foldS (v : List UInt8) : List UInt8 := foldW [] (splitB 32 (smallS v))
def wsum (ws : List (List UInt8)) : Nat := (ws.map fun w => w.length + 1).sum
theorem wsum_split (b : UInt8) : ∀ (j : Nat) (s : List UInt8), s.length = j → wsum (splitB b s) = s.length + 1 := by
 intro j
 induction j using Nat.strongRecOn with
 | _ j ih =>
  intro s hj
  cases hf : s.findIdx? (· == b) with
  | none => rw [splitB_none hf]; simp [wsum]
  | some k =>
   have hk := (List.findIdx?_eq_some_iff_getElem.1 hf).1
   rw [splitB_some hf]
   have := ih _ (by simp; omega) (s.drop (k + 1)) rfl
   unfold wsum at this ⊢
   simp only [List.map_cons, List.sum_cons, this]
   simp
   omega
theorem smallS_len (s : List UInt8) : (smallS s).length = s.length := by simp [smallS]
theorem drop_getD {α : Type} (d : α) (l : List α) (i : Nat) (h : i < l.length) : l.drop i = l.getD i d :: l.drop (i + 1) := by
 rw [List.drop_eq_getElem_cons h]
 simp [List.getD, h]
theorem Fold_ok (s : List UInt8) (S : Store) (hs : s.length ≤ 1048576) : vrun E0 (.fn 115) [.str s] S = some (.str (foldS s), S) := by
 refine fn_ws Tryz.func115 rfl ?_
 have e1 := small_ok s S hs
 have e2 := Split_ok (smallS s) 32 S (by rw [smallS_len]; exact hs)
 have htot := wsum_split 32 _ (smallS s) rfl
 rw [smallS_len] at htot
 generalize hws : splitB 32 (smallS s) = ws at e2 htot
 have e3 : opLen E0 S 28 (.slI ws.length (strsC ws)) = some (.int .i64 (ws.length : Nat)) := len_slI Tryz.underlying28 _ _
 have hwl : ws.length ≤ wsum ws := by
  clear e2 htot hws e3
  induction ws with
  | nil => simp
  | cons w ws ih => simp only [wsum, List.map_cons, List.sum_cons, List.length_cons] at ih ⊢; omega
 have fin : foldS s = foldW [] ws := by unfold foldS; rw [hws]
 rw [fin]
 repeat (first | refine WS.adm rfl ?_ | refine WS.region (by simp only [EV, TY, lget, callV_114, e1, callV_142, e2, e3, ↓reduceIte, Nat.reduceEqDiff]; with_reducible rfl) ?_)
 refine WS.loopB (fun j fr T => ∃ i out v, j = ws.length - i ∧ i ≤ ws.length ∧ out.length + wsum (ws.drop i) ≤ s.length + 1 ∧ lget fr 3 = v ∧ lget fr 8 = .slI ws.length (strsC ws) ∧ lget fr 9 = .int .i64 (ws.length : Nat) ∧ lget fr 10 = .int .i64 (i : Nat) ∧ foldW out (ws.drop i) = foldW [] ws ∧ Buf 5 S.length T v out ∧ Low S.length S T)
  (fun fr T => ∃ out v, lget fr 3 = v ∧ out = foldW [] ws ∧ Buf 5 S.length T v out ∧ Low S.length S T) (j := ws.length) ?_ ?_ ?_
 ·refine ⟨0, [], .slN, by omega, by omega, by simpa using by omega, ?_, ?_, ?_, ?_, rfl, Buf.new _ _ _, Low.refl (Nat.le_refl _)⟩
  all_goals
   simp only [EV, lget, ↓reduceIte, Nat.reduceEqDiff, AT]
   try rfl
 ·rintro fr T ⟨out, v, h3, rfl, hb, hl⟩
  have e2 := hb.conv bt50 Tryz.underlying9
  repeat (first | refine WS.adm rfl ?_ | refine WS.region (by simp only [EV, TY, h3, e2, ↓reduceIte, Nat.reduceEqDiff]; with_reducible rfl) ?_)
  refine WS.ret1s (t := 2) rfl rfl hl.pre (frz_str _ _ _) ?_
  simp only [EV, ↓reduceIte, Nat.reduceEqDiff, AT]
 ·rintro j fr T ⟨i, out, v, rfl, hi, htot, h3, h8, h9, h10, hW, hb, hl⟩ ih last
  by_cases hlt : i < ws.length
  ·have hlt' : ((i : Nat) : Int) < ((ws.length : Nat) : Int) := by omega
   have hia : opIndexAddr E0 28 (.slI ws.length (strsC ws)) (.int .i64 (i : Nat)) = some (.imm ((strsC ws).drop (i * 1))) := ia_slI_28 _ _ _ _ hlt
   have hdr := drop_getD [] ws i hlt
   have hld : opLoad E0 T 9 (.imm ((strsC ws).drop (i * 1))) = some (.str (ws.getD i [])) := by
    have : (strsC ws).drop (i * 1) = .str (ws.getD i []) :: strsC (ws.drop (i + 1)) := by
     rw [Nat.mul_one]
     unfold strsC
     rw [← List.map_drop, hdr]
     rfl
    rw [this]
    exact ld_imm isAggO_9 _ _
   rw [hdr] at hW htot
   generalize ws.getD i [] = w at hld hW htot
   have hinc := wrap_inc i (by omega)
   have htot' : out.length + ((w.length + 1) + wsum (ws.drop (i + 1))) ≤ s.length + 1 := by
    simpa [wsum] using htot
   have hlen := hb.len bt50
   repeat (first | refine WS.adm rfl ?_ | refine WS.region (by simp only [EV, TY, h8, h9, h10, hlt', ↓reduceIte, Nat.reduceEqDiff]; with_reducible rfl) ?_)
   refine WS.ct0 ?_
   by_cases hw : w = []
   ·have hw' : (w == []) = true := beq_iff_eq.2 hw
    rw [foldW, if_pos hw] at hW
    repeat (first | refine WS.adm rfl ?_ | refine WS.region (by simp only [EV, TY, h8, h10, hia, hld, hw', ↓reduceIte, Nat.reduceEqDiff]; with_reducible rfl) ?_)
    refine WS.ct0 ?_
    refine WS.exit rfl ?_
    repeat (first | refine WS.adm rfl ?_ | refine WS.region (by simp only [EV, TY, h10, hinc, ↓reduceIte, Nat.reduceEqDiff]; with_reducible rfl) ?_)
    refine ih (ws.length - (i + 1)) _ _ (by omega) ⟨i + 1, out, v, rfl, by omega, by omega, ?_, ?_, ?_, ?_, hW, hb, hl⟩
    iterate 4 simp only [EV, h3, h8, h9, ↓reduceIte, Nat.reduceEqDiff, AT]
   ·have hw' : (w == []) = false := beq_eq_false_iff_ne.2 hw
    rw [foldW, if_neg hw] at hW
    by_cases ho : out = []
    ·have ho' : ¬ (0 : Int) < ((out.length : Nat) : Int) := by simp [ho]
     rw [if_pos ho] at hW
     obtain ⟨v2, T2, g1, g2, g3⟩ := hb.appS bt50 Tryz.underlying9 hl.1 w (by omega)
     repeat (first | refine WS.adm rfl ?_ | refine WS.region (by simp only [EV, TY, h8, h10, hia, hld, hw', ↓reduceIte, Nat.reduceEqDiff]; with_reducible rfl) ?_)
     refine WS.cf0 ?_
     repeat (first | refine WS.adm rfl ?_ | refine WS.region (by simp only [EV, TY, h3, hlen, ho', ↓reduceIte, Nat.reduceEqDiff]; with_reducible rfl) ?_)
     refine WS.cf0 ?_
     repeat (first | refine WS.adm rfl ?_ | refine WS.region (by simp only [EV, TY, h3, g1, h10, hinc, ↓reduceIte, Nat.reduceEqDiff]; with_reducible rfl) ?_)
     refine ih (ws.length - (i + 1)) _ _ (by omega) ⟨i + 1, out ++ w, v2, rfl, by omega, by simp; omega, ?_, ?_, ?_, ?_, hW, g2, hl.trans g3⟩
     iterate 4 simp only [EV, h8, h9, ↓reduceIte, Nat.reduceEqDiff, AT]
    ·have hpos : 0 < out.length := List.length_pos_iff.2 ho
     have ho' : (0 : Int) < ((out.length : Nat) : Int) := by omega
     rw [if_neg ho] at hW
     obtain ⟨v1, T1, f1, f2, f3⟩ := hb.app1 bt50 hl.1 32 (by omega)
     have f1' : opAppend E0 (T ++ [.cells [.int .u8 32] 5]) [140, 140] v (.slR T.length 0 1 1 1) = some (v1, T1) := f1
     have hm := mk1_ bt50 T 32
     obtain ⟨v2, T2, g1, g2, g3⟩ := f2.appS bt50 Tryz.underlying9 (hl.trans f3).1 w (by simp; omega)
     repeat (first | refine WS.adm rfl ?_ | refine WS.region (by simp only [EV, TY, h8, h10, hia, hld, hw', ↓reduceIte, Nat.reduceEqDiff]; with_reducible rfl) ?_)
     refine WS.cf0 ?_
     repeat (first | refine WS.adm rfl ?_ | refine WS.region (by simp only [EV, TY, h3, hlen, ho', ↓reduceIte, Nat.reduceEqDiff]; with_reducible rfl) ?_)
     refine WS.ct0 ?_
     repeat (first | refine WS.adm rfl ?_ | refine WS.region (by simp only [EV, TY, h3, hm, f1', g1, h10, hinc, ↓reduceIte, Nat.reduceEqDiff]; with_reducible rfl) ?_)
     refine ih (ws.length - (i + 1)) _ _ (by omega) ⟨i + 1, out ++ [32] ++ w, v2, rfl, by omega, by simp; omega, ?_, ?_, ?_, ?_, hW, g2, (hl.trans f3).trans g3⟩
     iterate 4 simp only [EV, h8, h9, ↓reduceIte, Nat.reduceEqDiff, AT]
  ·have hlt' : ¬ ((i : Nat) : Int) < ((ws.length : Nat) : Int) := by omega
   repeat (first | refine WS.adm rfl ?_ | refine WS.region (by simp only [EV, TY, h9, h10, hlt', ↓reduceIte, Nat.reduceEqDiff]; with_reducible rfl) ?_)
   refine WS.cf0 ?_
   refine WS.exit rfl ?_
   have : ws.drop i = [] := List.drop_eq_nil_iff.2 (by omega)
   rw [this] at hW
   refine last _ _ ⟨out, v, ?_, hW, hb, hl⟩
   simp only [EV, h3, ↓reduceIte, Nat.reduceEqDiff, AT]
theorem isNaN_ok (s : List UInt8) (S : Store) : vrun E0 (.fn 107) [.str s] S = some (.bool false, S) := by
 refine fn_ws Tryz.func107 rfl ?_
 have h : (!(s == s)) = false := by simp
 repeat (first | refine WS.adm rfl ?_ | refine WS.region (by simp only [EV, TY, lget, h, ↓reduceIte, Nat.reduceEqDiff]; with_reducible rfl) ?_)
 refine WS.ret1s (t := 2) rfl rfl (List.prefix_refl _) (frz_bool _ _ _) ?_
 simp only [EV, lget, ↓reduceIte, Nat.reduceEqDiff, AT]
def cmpZ (x y : List UInt8) : Int := if lessB x y = true then -1 else if lessB y x = true then 1 else 0
theorem cmpZ_neg (x y : List UInt8) : cmpZ x y < 0 ↔ lessB x y = true := by
 unfold cmpZ
 split
 ·simp_all
 ·split <;> simp_all
theorem Compare_ok (x y : List UInt8) (S : Store) : vrun E0 (.fn 70) [.str x, .str y] S = some (.int .i64 (cmpZ x y), S) := by
 refine fn_ws Tryz.func70 rfl ?_
 repeat (first | refine WS.adm rfl ?_ | refine WS.region (by simp only [EV, TY, lget, callV_107, isNaN_ok, ↓reduceIte, Nat.reduceEqDiff]; with_reducible rfl) ?_)
 refine WS.cond_false (by simp only [EV, lget, ↓reduceIte, Nat.reduceEqDiff]) ?_
 repeat (first | refine WS.adm rfl ?_ | refine WS.rl ?_)
 refine WS.cond_false (by simp only [EV, lget, ↓reduceIte, Nat.reduceEqDiff]) ?_
 by_cases h : lessB x y = true
 ·have h' : Op.bytesLess x y = true := h
  repeat (first | refine WS.adm rfl ?_ | refine WS.region (by simp only [EV, TY, lget, h', ↓reduceIte, Nat.reduceEqDiff]; with_reducible rfl) ?_)
  refine WS.cond_true (by simp only [EV, lget, ↓reduceIte, Nat.reduceEqDiff]) ?_
  repeat (first | refine WS.adm rfl ?_ | refine WS.rl ?_)
  refine WS.ret1s (t := 4) rfl rfl (List.prefix_refl _) (frz_int _ _ _ _) ?_
  simp only [EV, lget, ↓reduceIte, Nat.reduceEqDiff, AT]
  rw [cmpZ, if_pos h]
 ·have h : lessB x y = false := by simpa using h
  have h' : Op.bytesLess x y = false := h
  repeat (first | refine WS.adm rfl ?_ | refine WS.region (by simp only [EV, TY, lget, h', ↓reduceIte, Nat.reduceEqDiff]; with_reducible rfl) ?_)
  refine WS.cond_false (by simp only [EV, lget, ↓reduceIte, Nat.reduceEqDiff]) ?_
  by_cases g : x = y
  ·have hg : (!(Op.bytesLess x y || x == y)) = false := by simp [g]
   repeat (first | refine WS.adm rfl ?_ | refine WS.region (by simp only [EV, TY, lget, hg, ↓reduceIte, Nat.reduceEqDiff]; with_reducible rfl) ?_)
   refine WS.cond_false (by simp only [EV, lget, ↓reduceIte, Nat.reduceEqDiff]) ?_
   repeat (first | refine WS.adm rfl ?_ | refine WS.rl ?_)
   refine WS.ret1s (t := 4) rfl rfl (List.prefix_refl _) (frz_int _ _ _ _) ?_
   simp only [EV, lget, ↓reduceIte, Nat.reduceEqDiff, AT]
   rw [cmpZ, if_neg (by rw [h]; simp), if_neg (by rw [g, less_irrefl]; simp)]
  ·have hg : (!(Op.bytesLess x y || x == y)) = true := by rw [h']; simp [g]
   have hyx : lessB y x = true := by
    cases hyx : lessB y x with
    | true => rfl
    | false => exact absurd (less_total h hyx) g
   repeat (first | refine WS.adm rfl ?_ | refine WS.region (by simp only [EV, TY, lget, hg, ↓reduceIte, Nat.reduceEqDiff]; with_reducible rfl) ?_)
   refine WS.cond_true (by simp only [EV, lget, ↓reduceIte, Nat.reduceEqDiff]) ?_
   repeat (first | refine WS.adm rfl ?_ | refine WS.rl ?_)
   refine WS.ret1s (t := 4) rfl rfl (List.prefix_refl _) (frz_int _ _ _ _) ?_
   simp only [EV, lget, ↓reduceIte, Nat.reduceEqDiff, AT]
   rw [cmpZ, if_neg (by rw [h]; simp), if_pos hyx]
theorem box_40 (S : Store) (a : Ava) : opBox S 96 (avaV a) = some (.ref S.length 0, S ++ [.cells [.str a.1, .str a.2] 96]) := by
 unfold opBox avaV
 simp [solid, vcells]
theorem Norm1_ok (a b : Ava) (S : Store) : vrun E0 (.fn 117) [avaV a, avaV b] S = some (.int .i64 (cmpZ a.1 b.1), S) := by
 refine fn_ws Tryz.func117 rfl ?_
 have h1 := box_40 S a
 have h2 := box_40 (S ++ [.cells [.str a.1, .str a.2] 96]) b
 generalize hU : S ++ [Ob.cells [.str a.1, .str a.2] 96] ++ [Ob.cells [.str b.1, .str b.2] 96] = U at h2
 have atA : At U (.ref S.length 0) (.str a.1 :: .str a.2 :: []) := .inr ⟨S.length, 0, _, 96, rfl, by rw [← hU]; simp, rfl⟩
 have atB : At U (.ref (S ++ [Ob.cells [.str a.1, .str a.2] 96]).length 0) (.str b.1 :: .str b.2 :: []) := .inr ⟨_, 0, _, 96, rfl, by rw [← hU]; simp, rfl⟩
 obtain ⟨fa, fa1, fa2⟩ := ava_type atA
 obtain ⟨fb, fb1, fb2⟩ := ava_type atB
 repeat (first | refine WS.adm rfl ?_ | refine WS.region (by simp only [EV, TY, lget, h1, h2, fa1, fa2, fb1, fb2, callV_70, Compare_ok, ↓reduceIte, Nat.reduceEqDiff]; with_reducible rfl) ?_)
 refine WS.ret1s (t := 4) rfl rfl ?_ (frz_int _ _ _ _) ?_
 ·rw [← hU, List.append_assoc]; exact List.prefix_append _ _
 ·simp only [EV, lget, ↓reduceIte, Nat.reduceEqDiff, AT]
abbrev fl (l : List Ava) : List V := l.flatMap avaC
theorem fl_set : ∀ (l : List Ava) (i : Nat) (a : Ava), i < l.length → splice (fl l) (i * 2) [.str a.1, .str a.2] = fl (l.set i a)
 | [], i, a, h => by simp at h
 | b :: l, 0, a, h => by simp [fl, avaC, splice]
 | b :: l, i + 1, a, h => by
  have ih := fl_set l i a (by simpa using h)
  have e : (i + 1) * 2 = i * 2 + 2 := by omega
  rw [e]
  simp only [fl, avaC, List.flatMap_cons, List.set_cons_succ, List.cons_append, List.nil_append, splice, List.set_cons_succ] at ih ⊢
  rw [ih]
theorem cell_ld {T : Store} {id : Nat} {l : List Ava} (hT : T[id]? = some (.cells (fl l) 96)) (i : Nat) (hi : i < l.length) : opLoad E0 T 96 (.ref id (0 + i * 2)) = some (avaV (l.getD i ([], []))) := by
 have h := flat_drop l i hi
 have at_ : At T (.ref id (0 + i * 2)) (.str (l.getD i ([], [])).1 :: .str (l.getD i ([], [])).2 :: (l.flatMap avaC).drop (i * 2 + 2)) := .inr ⟨id, 0 + i * 2, _, 96, rfl, hT, by rw [Nat.zero_add]; exact h⟩
 exact ava_load at_
theorem cell_st {T : Store} {id : Nat} {l : List Ava} (hT : T[id]? = some (.cells (fl l) 96)) (i : Nat) (hi : i < l.length) (a : Ava) : opStore E0 T 96 (.ref id (0 + i * 2)) (avaV a) = some (T.set id (.cells (fl (l.set i a)) 96)) := by
 have hl : (fl l).length = l.length * 2 := flat_len l
 have h := fl_set l i a hi
 generalize fl (l.set i a) = ds at h
 generalize fl l = cs at hT hl h
 unfold opStore avaV
 simp [tsize_96, vcells, solid, putAt, cellsOf, Vm.elemOf, hT, hl]
 rw [h]
 exact ⟨by omega, rfl⟩
theorem cell_ia (id n i : Nat) (h : i < n) : opIndexAddr E0 97 (.slR id 0 n n 2) (.int .i64 (i : Nat)) = some (.ref id (0 + i * 2)) := ia_slR_97 _ _ _ _ _ _ h
def CmpOk (fv : V) : Prop := ∀ (T : Store) (a b : Ava), callV E0 (vrun E0) fv [avaV a, avaV b] T = some (.int .i64 (cmpZ a.1 b.1), T)
theorem cmp36 : CmpOk (.fn (.func 117) [] []) := fun T a b => by
 rw [callV_117]
 exact Norm1_ok a b T
theorem getD_mid {α : Type} (d : α) (A : List α) (x : α) (B : List α) : (A ++ x :: B).getD A.length d = x := by simp [List.getD]
theorem set_mid {α : Type} (A : List α) (x y : α) (B : List α) : (A ++ x :: B).set A.length y = A ++ y :: B := by simp
def isort (l : List Ava) (a b : Nat) : List Ava := l.take a ++ srt ((l.take b).drop a) ++ l.drop b
theorem isort_one (l : List Ava) (a : Nat) (ha : a < l.length) : isort l a (a + 1) = l := by
 have e : (l.take (a + 1)).drop a = [l.getD a ([], [])] := by
  rw [List.drop_take, show a + 1 - a = 1 by omega, drop_getD ([], []) l a ha]
  rfl
 unfold isort
 rw [e]
 show l.take a ++ [l.getD a ([], [])] ++ l.drop (a + 1) = l
 rw [List.append_assoc, List.singleton_append, ← drop_getD ([], []) l a ha, List.take_append_drop]
theorem isort_nil (l : List Ava) (a : Nat) : isort l a a = l := by
 have e : (l.take a).drop a = [] := List.drop_eq_nil_iff.2 (by simp; omega)
 unfold isort
 rw [e]
 show l.take a ++ [] ++ l.drop a = l
 simp
theorem isort_step (l : List Ava) (a i : Nat) (h : a ≤ i) (hi : i < l.length) : isort l a (i + 1) = l.take a ++ insA (l.getD i ([], [])) (srt ((l.take i).drop a)) ++ l.drop (i + 1) := by
 have e : (l.take (i + 1)).drop a = (l.take i).drop a ++ [l.getD i ([], [])] := by
  rw [List.drop_take, List.drop_take, show i + 1 - a = (i - a) + 1 by omega, List.take_succ_eq_append_getElem (by simp; omega)]
  congr 2
  simp [List.getD, hi, show a + (i - a) = i by omega]
 unfold isort
 rw [e, srt_snoc]
theorem ends0 {E : Env} {fr : Fr} {S S' : Store} {f : FuncId} {fn : Func} (hr : fn.results.toList = []) (hk : E.keep f = true) : WS E [] fr S' (FnEnds E f fn S (.tup [], S')) :=
 WS.done ⟨.inl rfl, [], by rw [hr]; rfl, by rw [hk]; rfl⟩
theorem tb3 : Nat.testBit 32739 9 = true := rfl
theorem tb4 : Nat.testBit 32739 13 = true := rfl
theorem tb5 : Nat.testBit 131071 9 = true := rfl
theorem tb6 : Nat.testBit 131071 13 = true := rfl
theorem insSort_ok {T : Store} {id : Nat} {l : List Ava} (hT : T[id]? = some (.cells (fl l) 96)) (hl : l.length ≤ 1048576) {fv : V} (hcmp : CmpOk fv) (a b : Nat) (hab : a ≤ b) (hb : b ≤ l.length) :
  vrun E0 (.fn 166) [.slR id 0 l.length l.length 2, .int .i64 (a : Nat), .int .i64 (b : Nat), fv] T = some (.tup [], T.set id (.cells (fl (isort l a b)) 96)) := by
 refine fn_ws Tryz.func166 rfl ?_
 have hid : id < T.length := lt_of_get hT
 have ainc := wrap_inc a (by omega)
 repeat (first | refine WS.adm rfl ?_ | refine WS.region (by simp only [EV, TY, lget, ainc, ↓reduceIte, Nat.reduceEqDiff]; with_reducible rfl) ?_)
 by_cases hlt0 : a < b
 ·refine WS.loopB (fun j fr U => ∃ i, j = b - i ∧ a < i ∧ i ≤ b ∧ lget fr 0 = .slR id 0 l.length l.length 2 ∧ lget fr 1 = .int .i64 (a : Nat) ∧ lget fr 2 = .int .i64 (b : Nat) ∧ lget fr 3 = fv ∧ lget fr 8 = .int .i64 (i : Nat) ∧ U = T.set id (.cells (fl (isort l a i)) 96))
   (fun fr U => U = T.set id (.cells (fl (isort l a b)) 96)) (j := b - (a + 1)) ?_ ?_ ?_
  ·refine ⟨a + 1, rfl, by omega, by omega, ?_, ?_, ?_, ?_, ?_, ?_⟩
   iterate 5 simp only [EV, lget, ↓reduceIte, Nat.reduceEqDiff, AT]
   ·rw [isort_one l a (by omega)]
    exact (List.ext_getElem? fun k => by
     by_cases hk : id = k
     ·subst hk; rw [List.getElem?_set_self hid, hT]
     ·rw [List.getElem?_set_ne hk])
  ·rintro fr U rfl
   exact ends0 rfl rfl
  ·rintro j fr U ⟨i, rfl, hai, hib, h0, h1, h2, h3, h8, rfl⟩ ih last
   by_cases hlt : i < b
   ·have hlt' : ((i : Nat) : Int) < ((b : Nat) : Int) := by omega
    have iinc := wrap_inc i (by omega)
    have hstep := isort_step l a i (by omega) (by omega)
    have hcur : isort l a i = (l.take a ++ srt ((l.take i).drop a)) ++ l.getD i ([], []) :: l.drop (i + 1) := by
     unfold isort
     rw [← drop_getD ([], []) l i (by omega)]
    have hpl : (srt ((l.take i).drop a)).length = i - a := by rw [srt_len]; simp; omega
    have hps := srt_sorted ((l.take i).drop a)
    generalize srt ((l.take i).drop a) = p at hstep hcur hpl hps
    generalize l.getD i ([], []) = x at hstep hcur
    generalize hpre : l.take a = pre at hstep hcur
    generalize hpost : l.drop (i + 1) = post at hstep hcur
    have hprel : pre.length = a := by rw [← hpre]; simp; omega
    have hpostl : post.length = l.length - (i + 1) := by rw [← hpost]; simp
    repeat (first | refine WS.adm rfl ?_ | refine WS.region (by simp only [EV, TY, h2, h8, hlt', ↓reduceIte, Nat.reduceEqDiff]; with_reducible rfl) ?_)
    refine WS.ct0 ?_
    repeat (first | refine WS.adm rfl ?_ | refine WS.region (by simp only [EV, TY, h8, ↓reduceIte, Nat.reduceEqDiff]; with_reducible rfl) ?_)
    refine WS.loopB (fun j fr U => ∃ p1 p2, j = p1.length ∧ p1 ++ p2 = p ∧ (∀ y ∈ p2, ltA x y = true) ∧ lget fr 0 = .slR id 0 l.length l.length 2 ∧ lget fr 1 = .int .i64 (a : Nat) ∧ lget fr 2 = .int .i64 (b : Nat) ∧ lget fr 3 = fv ∧ lget fr 8 = .int .i64 (i : Nat) ∧ lget fr 9 = .int .i64 ((a + p1.length : Nat) : Int) ∧ U = T.set id (.cells (fl ((pre ++ p1) ++ x :: (p2 ++ post))) 96))
     (fun fr U => lget fr 0 = .slR id 0 l.length l.length 2 ∧ lget fr 1 = .int .i64 (a : Nat) ∧ lget fr 2 = .int .i64 (b : Nat) ∧ lget fr 3 = fv ∧ lget fr 8 = .int .i64 (i : Nat) ∧ U = T.set id (.cells (fl (pre ++ insA x p ++ post)) 96)) (j := p.length) ?_ ?_ ?_
    ·refine ⟨p, [], rfl, by simp, by simp, ?_, ?_, ?_, ?_, ?_, ?_, ?_⟩
     iterate 5 simp only [EV, h0, h1, h2, h3, h8, ↓reduceIte, Nat.reduceEqDiff, AT]
     ·simp only [EV, h8, ↓reduceIte, Nat.reduceEqDiff, AT]
      rw [hpl, show a + (i - a) = i by omega]
     ·rw [hcur]; simp
    ·rintro fr U ⟨h0, h1, h2, h3, h8, rfl⟩
     repeat (first | refine WS.adm rfl ?_ | refine WS.region (by simp only [EV, TY, h8, iinc, ↓reduceIte, Nat.reduceEqDiff]; with_reducible rfl) ?_)
     refine ih (b - (i + 1)) _ _ (by omega) ⟨i + 1, rfl, by omega, by omega, ?_, ?_, ?_, ?_, ?_, by rw [hstep]⟩
     iterate 5 simp only [EV, h0, h1, h2, h3, ↓reduceIte, Nat.reduceEqDiff, AT]
    ·rintro j fr U ⟨p1, p2, rfl, hpp, hgt, h0, h1, h2, h3, h8, h9, rfl⟩ ihp lastp
     have hppl : p1.length + p2.length = i - a := by rw [← hpl, ← hpp]; simp
     cases hq : p1.getLast? with
     | none =>
      obtain rfl : p1 = [] := List.getLast?_eq_none_iff.1 hq
      have hng : ¬ ((a : Nat) : Int) < ((a + ([] : List Ava).length : Nat) : Int) := by simp
      repeat refine WS.adm rfl ?_
      refine WS.drawb (b := [0, 0, 3, 7, 15, 15, 15, 111, 239, 15, 15, 1039, 3599, 7695, 16383, 32767, 65535]) (by kernel_rfl) (by simp only [DL, evDraw_guard, isEff, isRead, Nat.reduceAdd, EV, TY,  h1, h9, hng, ↓reduceIte, Nat.reduceEqDiff]; with_reducible rfl) ?_
      refine WS.cond_false (by simp only [EV, hng, ↓reduceIte, Nat.reduceEqDiff]) ?_
      refine WS.exit rfl ?_
      refine lastp _ _ ⟨?_, ?_, ?_, ?_, ?_, ?_⟩
      iterate 5 simp only [EV, h0, h1, h2, h3, h8, ↓reduceIte, Nat.reduceEqDiff, AT]
      ·have := ins_split x [] p2 (by rw [hpp]; exact hps) hgt (by simp)
       rw [hpp] at this
       rw [this]; simp
     | some y =>
      obtain ⟨q, rfl⟩ : ∃ q, p1 = q ++ [y] := by
       obtain ⟨hne, hy⟩ := List.getLast?_eq_some_iff.1 hq
       exact ⟨hne, hy⟩
      have hJ : a + (q ++ [y]).length = (pre ++ q).length + 1 := by simp [hprel]; omega
      have hCe : pre ++ (q ++ [y]) ++ x :: (p2 ++ post) = (pre ++ q) ++ y :: x :: (p2 ++ post) := by simp
      have hn : ((pre ++ q) ++ y :: x :: (p2 ++ post)).length = l.length := by
       simp at hppl ⊢
       omega
      have gy : ((pre ++ q) ++ y :: x :: (p2 ++ post)).getD ((pre ++ q).length + 1 - 1) ([], []) = y := by
       rw [Nat.add_sub_cancel]; exact getD_mid _ _ _ _
      have gx : ((pre ++ q) ++ y :: x :: (p2 ++ post)).getD ((pre ++ q).length + 1) ([], []) = x := by
       rw [show (pre ++ q) ++ y :: x :: (p2 ++ post) = ((pre ++ q) ++ [y]) ++ x :: (p2 ++ post) by simp, show (pre ++ q).length + 1 = ((pre ++ q) ++ [y]).length by simp; omega]
       exact getD_mid _ _ _ _
      have gs : (((pre ++ q) ++ y :: x :: (p2 ++ post)).set ((pre ++ q).length + 1) y).set ((pre ++ q).length + 1 - 1) x = (pre ++ q) ++ x :: (y :: p2 ++ post) := by
       rw [show (pre ++ q) ++ y :: x :: (p2 ++ post) = ((pre ++ q) ++ [y]) ++ x :: (p2 ++ post) by simp, show (pre ++ q).length + 1 = ((pre ++ q) ++ [y]).length by simp; omega, set_mid, List.length_append, List.length_singleton, Nat.add_sub_cancel, List.append_assoc, List.singleton_append, set_mid]
       rfl
      have hJl : (pre ++ q).length + 1 < l.length := by rw [← hn]; simp; omega
      have hgtt : ((a : Nat) : Int) < (((pre ++ q).length + 1 : Nat) : Int) := by simp [hprel]; omega
      rw [hJ] at h9
      rw [hCe]
      generalize hC : (pre ++ q) ++ y :: x :: (p2 ++ post) = C at hn gx gy gs
      generalize hK : (pre ++ q).length = K at h9 gx gy gs hJl hgtt
      have hU : (T.set id (.cells (fl C) 96))[id]? = some (.cells (fl C) 96) := by simp [hid]
      have ld1 := cell_ld hU (K + 1) (by omega)
      have ld2 := cell_ld hU (K + 1 - 1) (by omega)
      rw [gx] at ld1
      rw [gy] at ld2
      have ia1 := cell_ia id l.length (K + 1) hJl
      have ia2 := cell_ia id l.length (K + 1 - 1) (by omega)
      have jdec : IntKind.i64.wrap (((K + 1 : Nat) : Int) - 1) = ((K + 1 - 1 : Nat) : Int) := wrap_sub1 (K + 1) (by omega) (by omega)
      have hc := hcmp (T.set id (.cells (fl C) 96)) x y
      by_cases hxy : ltA x y = true
      ·have hneg : cmpZ x.1 y.1 < 0 := (cmpZ_neg _ _).2 hxy
       have st1 := cell_st hU (K + 1) (by omega) y
       rw [List.set_set] at st1
       have hV1 : (T.set id (.cells (fl (C.set (K + 1) y)) 96))[id]? = some (.cells (fl (C.set (K + 1) y)) 96) := by simp [hid]
       have st2 := cell_st hV1 (K + 1 - 1) (by rw [List.length_set]; omega) x
       rw [List.set_set, gs] at st2
       repeat refine WS.adm rfl ?_
       refine WS.drawb (b := [0, 0, 3, 7, 15, 15, 15, 111, 239, 15, 15, 1039, 3599, 7695, 16383, 32767, 65535]) (by kernel_rfl) (by simp only [DL, evDraw_guard, isEff, isRead, Nat.reduceAdd, EV, TY,  h0, h1, h3, h9, hgtt, ia1, ia2, jdec, ld1, ld2, hc, hneg, ↓reduceIte, Nat.reduceEqDiff]; with_reducible rfl) ?_
       refine WS.cond_true (by simp only [EV, hgtt, hneg, ↓reduceIte, Nat.reduceEqDiff]) ?_
       repeat refine WS.adm rfl ?_
       refine WS.drawb (b := [0, 0, 0, 0, 8, 0, 0, 64, 224, 480, 0, 0, 3072, 7168, 16355, 32739, 65535, 131071]) (by kernel_rfl) (by simp only [DL, evDraw_guard, isEff, isRead, Nat.reduceAdd, EV, TY,  h0, h1, h3, h9, ia1, ia2, jdec, ld1, ld2, st1, st2, tb3, tb4, tb5, tb6, ↓reduceIte, Nat.reduceEqDiff]; with_reducible rfl) ?_
       repeat (first | refine WS.adm rfl ?_ | refine WS.region (by simp only [EV, TY, h9, jdec, ↓reduceIte, Nat.reduceEqDiff]; with_reducible rfl) ?_)
       refine ihp q.length _ _ (by simp) ⟨q, y :: p2, rfl, by rw [← hpp]; simp, ?_, ?_, ?_, ?_, ?_, ?_, ?_, by simp⟩
       ·intro z hz
        rcases List.mem_cons.1 hz with rfl | hz
        ·exact hxy
        ·exact hgt z hz
       iterate 5 simp only [EV, h0, h1, h2, h3, h8, ↓reduceIte, Nat.reduceEqDiff, AT]
       ·simp only [EV, ↓reduceIte, Nat.reduceEqDiff, AT]
        rw [← hK, List.length_append, hprel]
        rfl
      ·have hxy : ltA x y = false := by simpa using hxy
       have hneg : ¬ cmpZ x.1 y.1 < 0 := fun h => by
        have := (cmpZ_neg _ _).1 h
        unfold ltA at hxy
        rw [hxy] at this; cases this
       repeat refine WS.adm rfl ?_
       refine WS.drawb (b := [0, 0, 3, 7, 15, 15, 15, 111, 239, 15, 15, 1039, 3599, 7695, 16383, 32767, 65535]) (by kernel_rfl) (by simp only [DL, evDraw_guard, isEff, isRead, Nat.reduceAdd, EV, TY,  h0, h1, h3, h9, hgtt, ia1, ia2, jdec, ld1, ld2, hc, hneg, ↓reduceIte, Nat.reduceEqDiff]; with_reducible rfl) ?_
       refine WS.cond_false (by simp only [EV, hgtt, hneg, ↓reduceIte, Nat.reduceEqDiff]) ?_
       refine WS.exit rfl ?_
       refine lastp _ _ ⟨?_, ?_, ?_, ?_, ?_, ?_⟩
       iterate 5 simp only [EV, h0, h1, h2, h3, h8, ↓reduceIte, Nat.reduceEqDiff, AT]
       ·have := ins_split x (q ++ [y]) p2 (by rw [hpp]; exact hps) hgt (fun z hz => by
         rw [List.getLast?_append] at hz
         simp at hz
         subst hz
         exact hxy)
        rw [hpp] at this
        rw [this, ← hC]; simp
   ·have hlt' : ¬ ((i : Nat) : Int) < ((b : Nat) : Int) := by omega
    repeat (first | refine WS.adm rfl ?_ | refine WS.region (by simp only [EV, TY, h2, h8, hlt', ↓reduceIte, Nat.reduceEqDiff]; with_reducible rfl) ?_)
    refine WS.cf0 ?_
    refine WS.exit rfl ?_
    have : i = b := by omega
    subst this
    exact last _ _ rfl
 ·have : a = b := by omega
  subst this
  rw [isort_nil]
  have hna : ¬ ((a + 1 : Nat) : Int) < ((a : Nat) : Int) := by omega
  refine WS.loopB (fun j fr U => lget fr 2 = .int .i64 (a : Nat) ∧ lget fr 8 = .int .i64 ((a + 1 : Nat) : Int) ∧ T = U) (fun fr U => T = U) (j := 0) ?_ ?_ ?_
  ·refine ⟨?_, ?_, rfl⟩
   all_goals
    simp only [EV, lget, ↓reduceIte, Nat.reduceEqDiff, AT]
  ·rintro fr U rfl
   have : T.set id (.cells (fl l) 96) = T := List.ext_getElem? fun k => by
    by_cases hk : id = k
    ·subst hk; rw [List.getElem?_set_self hid, hT]
    ·rw [List.getElem?_set_ne hk]
   rw [this]
   exact ends0 rfl rfl
  ·rintro j fr U ⟨h2, h8, rfl⟩ ih last
   repeat (first | refine WS.adm rfl ?_ | refine WS.region (by simp only [EV, TY, h2, h8, hna, ↓reduceIte, Nat.reduceEqDiff]; with_reducible rfl) ?_)
   refine WS.cf0 ?_
   refine WS.exit rfl ?_
   exact last _ _ rfl
def SortOk (m : Nat) : Prop := ∀ (T : Store) (id : Nat) (l : List Ava), T[id]? = some (.cells (fl l) 96) → l.length = m → ∀ fv, CmpOk fv → vrun E0 (.fn 116) [.slR id 0 l.length l.length 2, fv] T = some (.tup [], T.set id (.cells (fl (srt l)) 96))
theorem insN_ok (T : Store) (fv : V) : vrun E0 (.fn 166) [.slN, .int .i64 0, .int .i64 0, fv] T = some (.tup [], T) := by
 refine fn_ws Tryz.func166 rfl ?_
 have e : IntKind.i64.wrap ((0 : Int) + 1) = 1 := by decide
 repeat (first | refine WS.adm rfl ?_ | refine WS.region (by simp only [EV, TY, lget, e, ↓reduceIte, Nat.reduceEqDiff]; with_reducible rfl) ?_)
 refine WS.loopB (fun j fr U => lget fr 2 = .int .i64 0 ∧ lget fr 8 = .int .i64 1 ∧ T = U) (fun fr U => T = U) (j := 0) ?_ ?_ ?_
 ·refine ⟨?_, ?_, rfl⟩
  all_goals
   simp only [EV, lget, ↓reduceIte, Nat.reduceEqDiff, AT]
 ·rintro fr U rfl
  exact ends0 rfl rfl
 ·rintro j fr U ⟨h2, h8, rfl⟩ ih last
  have hn : ¬ (1 : Int) < 0 := by omega
  repeat (first | refine WS.adm rfl ?_ | refine WS.region (by simp only [EV, TY, h2, h8, hn, ↓reduceIte, Nat.reduceEqDiff]; with_reducible rfl) ?_)
  refine WS.cf0 ?_
  refine WS.exit rfl ?_
  exact last _ _ rfl
theorem stableN_ok (T : Store) (fv : V) : vrun E0 (.fn 143) [.slN, .int .i64 0, fv] T = some (.tup [], T) := by
 refine fn_ws Tryz.func143 rfl ?_
 have h1 : ¬ (20 : Int) ≤ 0 := by omega
 have h2 : ¬ (20 : Int) < 0 := by omega
 have hI := insN_ok T fv
 repeat (first | refine WS.adm rfl ?_ | refine WS.rl ?_)
 refine WS.loopB (fun j fr U => lget fr 0 = .slN ∧ lget fr 1 = .int .i64 0 ∧ lget fr 2 = fv ∧ lget fr 6 = .int .i64 20 ∧ lget fr 7 = .int .i64 0 ∧ lget fr 8 = .int .i64 20 ∧ T = U)
  (fun fr U => lget fr 0 = .slN ∧ lget fr 1 = .int .i64 0 ∧ lget fr 2 = fv ∧ lget fr 6 = .int .i64 20 ∧ lget fr 7 = .int .i64 0 ∧ T = U) (j := 0) ?_ ?_ ?_
 ·refine ⟨?_, ?_, ?_, ?_, ?_, ?_, rfl⟩
  all_goals
   simp only [EV, lget, ↓reduceIte, Nat.reduceEqDiff, AT]
 ·rintro fr U ⟨g0, g1, g2, g6, g7, rfl⟩
  repeat (first | refine WS.adm rfl ?_ | refine WS.region (by simp only [EV, TY, g0, g1, g2, g6, g7, callV_166, hI, ↓reduceIte, Nat.reduceEqDiff]; with_reducible rfl) ?_)
  refine WS.loopB (fun j fr U => lget fr 1 = .int .i64 0 ∧ lget fr 6 = .int .i64 20 ∧ T = U) (fun fr U => T = U) (j := 0) ?_ ?_ ?_
  ·refine ⟨?_, ?_, rfl⟩
   iterate 2 simp only [EV, g1, g6, ↓reduceIte, Nat.reduceEqDiff, AT]
  ·rintro fr U rfl
   exact ends0 rfl rfl
  ·rintro j fr U ⟨g1, g6, rfl⟩ ih last
   repeat (first | refine WS.adm rfl ?_ | refine WS.region (by simp only [EV, TY, g1, g6, h2, ↓reduceIte, Nat.reduceEqDiff]; with_reducible rfl) ?_)
   refine WS.cf0 ?_
   refine WS.exit rfl ?_
   exact last _ _ rfl
 ·rintro j fr U ⟨g0, g1, g2, g6, g7, g8, rfl⟩ ih last
  repeat (first | refine WS.adm rfl ?_ | refine WS.region (by simp only [EV, TY, g1, g8, h1, ↓reduceIte, Nat.reduceEqDiff]; with_reducible rfl) ?_)
  refine WS.cf0 ?_
  refine WS.exit rfl ?_
  refine last _ _ ⟨?_, ?_, ?_, ?_, ?_, rfl⟩
  all_goals
   simp only [EV, g0, g1, g2, g6, g7, ↓reduceIte, Nat.reduceEqDiff, AT]
theorem sortN_ok (T : Store) (fv : V) : vrun E0 (.fn 116) [.slN, fv] T = some (.tup [], T) := by
 refine fn_ws Tryz.func116 rfl ?_
 have hS := stableN_ok T fv
 have hlen : opLen E0 T 98 .slN = some (.int .i64 0) := len_slN Tryz.underlying98
 repeat (first | refine WS.adm rfl ?_ | refine WS.region (by simp only [EV, TY, lget, hlen, callV_143, hS, ↓reduceIte, Nat.reduceEqDiff]; with_reducible rfl) ?_)
 exact ends0 rfl rfl
end Go.Proofs.YtmmjlgocihhkcaaGreatDoor
