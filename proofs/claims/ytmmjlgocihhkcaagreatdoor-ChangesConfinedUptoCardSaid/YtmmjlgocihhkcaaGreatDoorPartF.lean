import Derived.Test.YtmmjlgocihhkcaaGreatDoorPartE
import Derived.Test.YtmmjlgocihhkcaaGreatDoorPartD
import Derived.Test.YtmmjlgocihhkcaaGreatDoorVmF
set_option linter.all false
namespace Go.Proofs.YtmmjlgocihhkcaaGreatDoor
open Go Go.Vm
set_option maxRecDepth 100000
set_option maxHeartbeats 8000000
theorem valF_len (n : Nat) : ∀ (s : List UInt8) (i : Nat), (valF n i s).length ≤ 3 * s.length
 | [], i => by simp [valF]
 | c :: s, i => by
  have h1 := valF_len n s (i + 1)
  have h2 := valB_len n i c
  simp only [valF, List.length_append, List.length_cons]
  omega
theorem valueS_len (s : List UInt8) : (valueS s).length ≤ 3 * s.length := valF_len _ _ _
def textA (a : Ava) : List UInt8 := a.1 ++ 61 :: valueS a.2
def stepS (r : List Ava) : List UInt8 := joinC 43 (r.map textA)
def printS (n : List (List Ava)) : List UInt8 := joinC 44 (n.map stepS)
theorem joinC_len (c : UInt8) (l : List (List UInt8)) : (joinC c l).length ≤ lsum l + l.length := by
 cases l with
 | nil => simp [joinC]
 | cons a l =>
  simp only [joinC, List.length_append, flat_len', lsum, List.map_cons, List.sum_cons, List.length_cons]
  omega
def szA (a : Ava) : Nat := a.1.length + a.2.length + 1
def szR (r : List Ava) : Nat := (r.map szA).sum + 1
def szN (n : List (List Ava)) : Nat := (n.map szR).sum
theorem textA_sz (a : Ava) : (textA a).length + 1 ≤ 4 * szA a := by
 have := valueS_len a.2
 simp only [textA, szA, List.length_append, List.length_cons]
 omega
theorem lsum_texts (r : List Ava) : lsum (r.map textA) + (r.map textA).length + 4 ≤ 4 * szR r := by
 induction r with
 | nil => simp [lsum, szR]
 | cons a r ih =>
  have h := textA_sz a
  simp only [szR, lsum, List.map_cons, List.sum_cons, List.length_cons] at ih ⊢
  omega
theorem stepS_len (r : List Ava) : (stepS r).length + 4 ≤ 4 * szR r := by
 have h1 := joinC_len 43 (r.map textA)
 have h2 := lsum_texts r
 unfold stepS
 omega
def SS (n0 : Nat) (T : Store) (v : V) (l : List (List UInt8)) : Prop := (l = [] ∧ v = .slN) ∨ ∃ p, n0 ≤ p ∧ v = .slR p 0 l.length l.length 1 ∧ T[p]? = some (.cells (strsC l) 9)
theorem SS.strs {n0 : Nat} {T : Store} {v : V} {l : List (List UInt8)} (h : SS n0 T v l) : isStrs T v l := by
 rcases h with ⟨rfl, rfl⟩ | ⟨p, h1, rfl, h2⟩
 ·exact ⟨rfl, .inl ⟨rfl, rfl⟩⟩
 ·exact ⟨by simp [strsC], .inr (.inr ⟨p, 0, l.length, _, 9, rfl, Nat.le_refl _, h2, by rw [List.drop_zero, List.take_of_length_le (by simp [strsC])]⟩)⟩
theorem SS.more {n0 : Nat} {T : Store} {v : V} {l : List (List UInt8)} (h : SS n0 T v l) (L : Store) : SS n0 (T ++ L) v l := by
 rcases h with h | ⟨p, h1, h2, h3⟩
 ·exact .inl h
 ·exact .inr ⟨p, h1, h2, get_more h3 L⟩
theorem SS.put {n0 : Nat} {T : Store} {v : V} {l : List (List UInt8)} (h : SS n0 T v l) (hn : n0 ≤ T.length) (w : List UInt8) (hl : l.length ≤ 1048576) :
  ∃ v' T2, opBuildSlice E0 T 28 1 [(0, .str w)] = some (.slR T.length 0 1 1 1, T ++ [Ob.cells [.str w] 9]) ∧ opAppend E0 (T ++ [Ob.cells [.str w] 9]) [28, 28] v (.slR T.length 0 1 1 1) = some (v', T2) ∧ SS n0 T2 v' (l ++ [w]) ∧ Low n0 T T2 := by
 have hmk : opBuildSlice E0 T 28 1 [(0, .str w)] = some (.slR T.length 0 1 1 1, T ++ [Ob.cells [.str w] 9]) := ty51.mk1 T (.str w) rfl rfl
 have hsc := sc_top [.str w] 1 (z := 1) rfl T (e := 9)
 rcases h with ⟨rfl, rfl⟩ | ⟨p, p1, rfl, p2⟩
 ·have happ := ty51.app0 hsc (fun s => by simp) rfl (by omega) (by omega) (by omega)
  exact ⟨_, _, hmk, happ, .inr ⟨T.length + 1, by omega, by simp, by simp [strsC]⟩, (Low.app hn _).trans (Low.app (by simp; omega) _)⟩
 ·have happ := ty51.app (m := l.length) hsc (fun s => by simp) rfl (by omega) (get_more p2 _) (by simp [strsC]) (by omega) (by omega)
  exact ⟨_, _, hmk, happ, .inr ⟨T.length + 1, by omega, by simp, by simp [strsC]⟩, (Low.app hn _).trans ((Low.set (by simp; omega) p1).trans (Low.app (by simp; omega) _))⟩
theorem step_ok {S : Store} {v : V} {r : List Ava} (h : isRdn S v r) (o : okR r) (h4 : szR r ≤ 4194304) : vrun E0 (.fn 109) [v] S = some (.str (stepS r), S) := by
 refine fn_ws Tryz.func109 rfl ?_
 have lr := h.len
 repeat (first | refine WS.adm rfl ?_ | refine WS.region (by simp only [EV, TY, lget, lr, ↓reduceIte, Nat.reduceEqDiff]; with_reducible rfl) ?_)
 refine WS.loopB (fun j fr U => ∃ m vr, j = r.length - m ∧ m ≤ r.length ∧ lget fr 3 = vr ∧ lget fr 6 = v ∧ lget fr 7 = .int .i64 (r.length : Nat) ∧ lget fr 8 = .int .i64 (m : Nat) ∧ SS S.length U vr ((r.take m).map textA) ∧ Low S.length S U)
  (fun fr U => ∃ vr, lget fr 3 = vr ∧ SS S.length U vr (r.map textA) ∧ Low S.length S U) (j := r.length) ?_ ?_ ?_
 ·refine ⟨0, .slN, by omega, by omega, ?_, ?_, ?_, ?_, .inl ⟨by simp, rfl⟩, Low.refl (Nat.le_refl _)⟩
  all_goals
   simp only [EV, lget, ↓reduceIte, Nat.reduceEqDiff, AT]
   try rfl
 ·rintro fr U ⟨vr, h3, hss, hlow⟩
  have hj := Join_ok hss.strs 43 (by have := lsum_texts r; omega)
  have hj' : vrun E0 (.fn 130) [vr, .str [43]] U = some (.str (stepS r), U) := hj
  repeat (first | refine WS.adm rfl ?_ | refine WS.region (by simp only [EV, TY, h3, callV_130, hj', ↓reduceIte, Nat.reduceEqDiff]; with_reducible rfl) ?_)
  refine WS.ret1s (t := 2) rfl rfl hlow.pre (frz_str _ _ _) ?_
  simp only [EV, ↓reduceIte, Nat.reduceEqDiff, AT]
 ·rintro j fr U ⟨m, vr, rfl, hm, h3, h6, h7, h8, hss, hlow⟩ ih last
  by_cases hmlt : m < r.length
  ·have hmlt' : ((m : Nat) : Int) < ((r.length : Nat) : Int) := by omega
   obtain ⟨qa, j1, ta, j2⟩ := (h.pre hlow.pre).at_ m hmlt
   have j3 := ava_load j2
   have oka := o.at_ m hmlt
   have htm : (r.take (m + 1)).map textA = (r.take m).map textA ++ [textA (r.getD m ([], []))] := by
    rw [List.take_succ_eq_append_getElem hmlt, List.map_append]
    rw [show r.getD m ([], []) = r[m] by simp [List.getD, hmlt]]
    rfl
   generalize r.getD m ([], []) = x at j3 oka htm
   have hal := alloc_40 U
   have hsto := st_40 U [.str [], .str []] rfl x.1 x.2
   generalize hW : U ++ [Ob.cells [V.str x.1, V.str x.2] 96] = W at hsto
   have hlowW : Low S.length S W := by rw [← hW]; exact hlow.trans (Low.app hlow.1 _)
   have hssW : SS S.length W vr ((r.take m).map textA) := by rw [← hW]; exact hss.more _
   have hcell : W[U.length]? = some (.cells [V.str x.1, V.str x.2] 96) := by rw [← hW]; simp
   obtain ⟨⟨fa, fa1, fa2⟩, ⟨fb, fb1, fb2⟩⟩ := fr_agg W 96 [] x.1 x.2 U.length hcell
   have va := value_ok x.2 W oka.2
   have ln := valueS_len x.2
   have k1 : ∀ l, opBin E0 l .add 9 (.str x.1) (.str [61]) = some (.str (x.1 ++ [61])) := fun l => bin_sadd _ _ _ _ (by have := oka.1; simp; omega)
   have k2 : ∀ l, opBin E0 l .add 9 (.str (x.1 ++ [61])) (.str (valueS x.2)) = some (.str (textA x)) := fun l => by
    rw [bin_sadd _ _ _ _ (by have := oka.1; have := oka.2; simp; omega)]; simp [textA]
   obtain ⟨v', T2, g1, g2, g3, g4⟩ := hssW.put hlowW.1 (textA x) (by have := o.1; rw [List.length_map, List.length_take]; omega)
   have minc := wrap_inc m (by have := o.1; omega)
   repeat (first | refine WS.adm rfl ?_ | refine WS.region (by simp only [EV, TY, h6, h7, h8, hmlt', ↓reduceIte, Nat.reduceEqDiff]; with_reducible rfl) ?_)
   refine WS.ct0 ?_
   repeat (first | refine WS.adm rfl ?_ | refine WS.region (by simp only [EV, TY, h6, h8, j1, j3, hal, hsto, ↓reduceIte, Nat.reduceEqDiff]; with_reducible rfl) ?_)
   refine WS.drawb (b := [0, 0, 2, 6, 0, 16, 48, 126, 254, 511, 1023]) (by kernel_rfl) (by simp only [DL, isEff, isRead, Nat.reduceAdd, EV, TY,  h3, fa1, fa2, fb1, fb2, callV_139, va, k1, k2, g1, g2, tb7, tb8, tb9, tb10, ↓reduceIte, Nat.reduceEqDiff]; with_reducible rfl) ?_
   repeat (first | refine WS.adm rfl ?_ | refine WS.region (by simp only [EV, TY, h8, minc, ↓reduceIte, Nat.reduceEqDiff]; with_reducible rfl) ?_)
   refine ih (r.length - (m + 1)) _ _ (by omega) ⟨m + 1, v', rfl, by omega, ?_, ?_, ?_, ?_, by rw [htm]; exact g3, hlowW.trans g4⟩
   iterate 4 simp only [EV, h6, h7, ↓reduceIte, Nat.reduceEqDiff, AT]
  ·have hmlt' : ¬ ((m : Nat) : Int) < ((r.length : Nat) : Int) := by omega
   repeat (first | refine WS.adm rfl ?_ | refine WS.region (by simp only [EV, TY, h6, h7, h8, hmlt', ↓reduceIte, Nat.reduceEqDiff]; with_reducible rfl) ?_)
   refine WS.cf0 ?_
   refine WS.exit rfl ?_
   have : m = r.length := by omega
   subst this
   rw [List.take_length] at hss
   refine last _ _ ⟨vr, ?_, hss, hlow⟩
   simp only [EV, h3, ↓reduceIte, Nat.reduceEqDiff, AT]
structure BldN (T : Store) (id n : Nat) (bs : List UInt8) : Prop where
 ex : ∃ addr buf, T[id]? = some (.cells [addr, buf] 165) ∧ (addr = .nilp ∨ addr = .ref id 0) ∧ Buf 5 n T buf bs ∧ (bs = [] → ∀ i o l c z, buf = .slR i o l c z → 0 < c)
theorem BldN.bld {T : Store} {id n : Nat} {bs : List UInt8} (h : BldN T id n bs) (hn : id < n) : Bld T id bs := by
 obtain ⟨a, b, h1, h2, h3, h4⟩ := h
 refine ⟨a, b, h1, h2, ?_, h4⟩
 rcases h3 with h3 | ⟨i, c, r, x1, x2⟩
 ·exact .inl h3
 ·exact .inr ⟨i, c, r, by omega, x2⟩
def Oth (id n : Nat) (T T' : Store) : Prop := n ≤ T'.length ∧ ∀ q, q < n → q ≠ id → T'[q]? = T[q]?
theorem Oth.trans {id n : Nat} {A B C : Store} (h : Oth id n A B) (g : Oth id n B C) : Oth id n A C := ⟨g.1, fun q h1 h2 => (g.2 q h1 h2).trans (h.2 q h1 h2)⟩
theorem Oth.get {id n q : Nat} {T T' : Store} {o : Ob} (h : Oth id n T T') (h1 : q < n) (h2 : q ≠ id) (hq : T[q]? = some o) : T'[q]? = some o := by rw [h.2 q h1 h2]; exact hq
theorem WriteStringN_ok {T : Store} {id n : Nat} {bs : List UInt8} (h : BldN T id n bs) (hid : id < n) (hn : n ≤ T.length) (s : List UInt8) (hl : bs.length + s.length ≤ 140737488355328) : ∃ T', vrun E0 (.fn 108) [.ref id 0, .str s] T = some (.tup [.int .i64 (s.length : Nat), .nili], T') ∧ BldN T' id n (bs ++ s) ∧ Oth id n T T' := by
 obtain ⟨addr, buf, h1, h2, h3, h4⟩ := h
 have hlt := lt_of_get h1
 have cc := copyCheck_ok h1 h2
 have g1 : (T.set id (.cells [.ref id 0, buf] 165))[id]? = some (.cells [.ref id 0, buf] 165) := by simp [hlt]
 have hb := Buf_set (E := E0) h3 hid (.cells [.ref id 0, buf] 165)
 have hshape : ∀ (S : Store) (v : V) (b : List UInt8), Buf 5 n S v b → solid v = true ∧ ∀ cs, v ≠ .agg cs := fun S v b h => by
  rcases h with ⟨rfl, _⟩ | ⟨i, c, r, _, rfl, _⟩
  ·exact ⟨rfl, fun cs h => by cases h⟩
  ·exact ⟨rfl, fun cs h => by cases h⟩
 have key : ∃ v' T2, opAppend E0 (T.set id (.cells [.ref id 0, buf] 165)) [140, 9] buf (.str s) = some (v', T2) ∧ Buf 5 n T2 v' (bs ++ s) ∧ Low n (T.set id (.cells [.ref id 0, buf] 165)) T2 ∧ (bs ++ s = [] → ∀ i o l c z, v' = .slR i o l c z → 0 < c) := by
  by_cases h0 : s = []
  ·subst h0
   have ha : opAppend E0 (T.set id (.cells [.ref id 0, buf] 165)) [140, 9] buf (.str []) = some (buf, T.set id (.cells [.ref id 0, buf] 165)) := by
    rw [append_base bt50 u9.1 u9.2 (xs := []) rfl buf]
    rcases hb with ⟨rfl, _⟩ | ⟨i, c, r, _, rfl, _⟩ <;> rfl
   exact ⟨_, _, ha, by simpa using hb, Low.refl (by simpa using hn), by simpa using h4⟩
  ·obtain ⟨v', T2, a1, a2, a3⟩ := hb.app bt50 u9.1 u9.2 (by simpa using hn) (x := .str s) (xs := s) rfl hl
   exact ⟨v', T2, a1, a2, a3, fun h => absurd (List.append_eq_nil_iff.1 h).2 h0⟩
 obtain ⟨v', T2, a1, a2, a3, a4⟩ := key
 obtain ⟨s1, s2⟩ := hshape T2 v' _ a2
 have g2 := low_get a3 hid g1
 have st := bld_st1 g2 s1 s2
 refine ⟨T2.set id (.cells [.ref id 0, v'] 165), ?_, ⟨_, _, by rw [List.getElem?_set_self (lt_of_get g2)], .inr rfl, Buf_set (E := E0) a2 hid _, a4⟩, by rw [List.length_set]; exact a3.1, fun q h1 h2 => ?_⟩
 ·refine fn_ws Tryz.func108 rfl ?_
  have l1 := bld_ld1 g1
  repeat (first | refine WS.adm rfl ?_ | refine WS.region (by simp only [EV, TY, lget, EV2, callV_138, cc, fa60_1, l1, a1, st, ↓reduceIte, Nat.reduceEqDiff]; with_reducible rfl) ?_)
  refine ret2k (t := 4) (u := 5) rfl rfl ?_ ?_
  iterate 2 simp only [EV, lget, ↓reduceIte, Nat.reduceEqDiff, AT]
 ·rw [List.getElem?_set_ne (Ne.symm h2), a3.2 q h1, List.getElem?_set_ne (Ne.symm h2)]
theorem box24 (S : Store) (w : V) (hs : solid w = true) (hv : vcells w = [w]) : opBox S 27 w = some (.ref S.length 0, S ++ [.cells [w] 27]) := by
 unfold opBox
 rw [if_pos hs, hv]
theorem Backward_ok {w : V} (hw : w = .slN ∨ ∃ n cs, w = .slI n cs) (S : Store) : vrun E0 (.fn 81) [w] S = some (.fn (.func 113) [] [.imm [w]], S) := by
 refine fn_ws Tryz.func81 rfl ?_
 have hb : opBox S 27 w = some (.ref S.length 0, S ++ [.cells [w] 27]) := by
  rcases hw with rfl | ⟨n, cs, rfl⟩ <;> exact box24 S _ rfl rfl
 have hf : frz 6 S.length (S ++ [Ob.cells [w] 27]) (.fn (.func 113) [] [.ref S.length 0]) = some (.fn (.func 113) [] [.imm [w]]) := by
  have h1 : cellsOf (S ++ [Ob.cells [w] 27]) S.length = some [w] := cellsOf_of (getS0 _)
  have h2 : frzIn 12 S.length (S ++ [Ob.cells [w] 27]) (.ref S.length 0) = some (.imm [w]) := by
   show (if S.length < S.length then none else (cellsOf (S ++ [Ob.cells [w] 27]) S.length).bind fun cs => ((cs.drop 0).mapM (frzIn 11 S.length (S ++ [Ob.cells [w] 27]))).bind fun cs => some (V.imm cs)) = _
   rw [if_neg (by omega), h1, Option.bind_some, List.drop_zero]
   rcases hw with rfl | ⟨n, cs, rfl⟩ <;> rfl
  have h3 : frz 5 S.length (S ++ [Ob.cells [w] 27]) (.ref S.length 0) = some (.imm [w]) := by
   show (if S.length < S.length then some _ else frzIn 12 S.length (S ++ [Ob.cells [w] 27]) (.ref S.length 0)) = _
   rw [if_neg (by omega), h2]
  show (([] : List V).mapM (frz 5 S.length (S ++ [Ob.cells [w] 27]))).bind (fun a => ([V.ref S.length 0].mapM (frz 5 S.length (S ++ [Ob.cells [w] 27]))).bind fun b => some (V.fn (.func 113) a b)) = _
  rw [List.mapM_cons, h3]
  rfl
 repeat (first | refine WS.adm rfl ?_ | refine WS.region (by simp only [EV, TY, lget, hb, ↓reduceIte, Nat.reduceEqDiff]; with_reducible rfl) ?_)
 refine WS.ret1 (t := 2) rfl rfl ?_ (List.prefix_append _ _) hf
 simp only [EV, ↓reduceIte, Nat.reduceEqDiff, AT]
def keyT (m : List (List Ava)) : List UInt8 := m.reverse.flatMap fun r => stepS r ++ [0]
def keyS (n : List (List Ava)) : List UInt8 := keyT (normN n)
noncomputable def ranges21 : List (Nat × (Nat × Array Tmp × Code × Code)) := rangesIn 16 (Tryz.f71.body.getD .skip)
noncomputable def asg4 : Code := match ranges21 with | [(_, _, _, a, _)] => a | _ => .skip
noncomputable def body4 : Code := match ranges21 with | [(_, _, _, _, b)] => b | _ => .skip
theorem loop4 : E0.loops 4004 = some (16, #[9, 10], asg4, body4) := by kernel_rfl
theorem callV_yld (c : CallT) (id : Nat) (args : List V) (S : Store) : callV E0 c (.yld id) args S = c (.yl id) args S := rfl
theorem BldN.set {T : Store} {id n L : Nat} {bs : List UInt8} (h : BldN T id n bs) (hL : L < n) (hne : L ≠ id) (o : Ob) : BldN (T.set L o) id n bs := by
 obtain ⟨a, b, h1, h2, h3, h4⟩ := h
 exact ⟨a, b, by rw [List.getElem?_set_ne hne]; exact h1, h2, Buf_set (E := E0) h3 hL o, h4⟩
theorem zero_str : ∀ l : List UInt8, l.length + [(0 : UInt8)].length ≤ 9223372036854775807 → ∀ S t, opBin E0 S .add t (.str l) (.str [0]) = some (.str (l ++ [0])) := fun l h S t => bin_sadd _ _ _ _ h
theorem round_ok {T : Store} {id n L : Nat} {bs : List UInt8} {fr : Fr} {r : List Ava} {c : V} {i : Int} (hL : T[L]? = some (.lp false 4004 fr)) (hf : lget fr 3 = .ref id 0) (h : BldN T id n bs) (hid : id < n) (hLn : L < n) (hne : L ≠ id) (hn : n ≤ T.length)
  (hc : ∀ S, isRdn S c r) (o : okR r) (h4 : szR r ≤ 4194304) (hs : (stepS r).length + 1 ≤ 140737488355328) (hl : bs.length + (stepS r).length + 1 ≤ 140737488355328) :
  ∃ T', vrun E0 (.yl L) [.int .i64 i, c] T = some (.bool true, T') ∧ BldN T' id n (bs ++ (stepS r ++ [0])) ∧ T'[L]? = some (.lp false 4004 fr) ∧ n ≤ T'.length ∧ ∀ q, q < n → q ≠ id → T'[q]? = T[q]? := by
 have b1 : BldN (T.set L (.lp true 4004 fr)) id n bs := h.set hLn hne _
 obtain ⟨T2, w1, w2, w3⟩ := WriteStringN_ok b1 hid (by simpa using hn) (stepS r ++ [0]) (by simp; omega)
 have st := step_ok (hc (T.set L (.lp true 4004 fr))) o h4
 have hlt := lt_of_get hL
 have g2 : T2[L]? = some (.lp true 4004 fr) := w3.get hLn hne (by simp [hlt])
 have hz := zero_str (stepS r) (by simp; omega)
 refine ⟨T2.set L (.lp false 4004 fr), ?_, w2.set hLn hne _, by rw [List.getElem?_set_self (lt_of_get g2)], by rw [List.length_set]; exact w3.1, fun q h1 h2 => ?_⟩
 ·refine vrun_yl hL loop4 rfl ?_
  simp only [asg4, body4, ranges21, Tryz.f71, rangesIn, Option.getD_some, List.nil_append, List.append_nil]
  refine W.of_ws ?_
  simp only [putAll]
  repeat (first | refine WS.adm rfl ?_ | refine WS.rl ?_)
  refine WS.done ⟨rfl, 4004, fr, hL, ?_⟩
  refine W.of_ws ?_
  repeat (first | refine WS.adm rfl ?_ | refine WS.region (by simp only [EV, TY, lget, hf, callV_109, st, hz, callV_108, w1, ↓reduceIte, Nat.reduceEqDiff]; with_reducible rfl) ?_)
  exact WS.done ⟨rfl, 4004, fr, g2, rfl⟩
 ·by_cases hq : q = L
  ·subst hq; rw [List.getElem?_set_self (lt_of_get g2), hL]
  ·rw [List.getElem?_set_ne (Ne.symm hq), w3.2 q h1 h2, List.getElem?_set_ne (Ne.symm hq)]
theorem done_at {v : V} {n : List (List Ava)} (h : ∀ S, isDn S v n) (i : Nat) (hi : i < n.length) : ∃ a c, opIndexAddr E0 27 v (.int .i64 (i : Int)) = some a ∧ (∀ S, opLoad E0 S 98 a = some c) ∧ ∀ S, isRdn S c (n.getD i []) := by
 obtain ⟨cs, rfl, hl, hc⟩ := done_cells h (fun e => by subst e; simp at hi)
 obtain ⟨c, c1, c2⟩ := hc i hi
 have hlt := (List.getElem?_eq_some_iff.1 c1).1
 have e : cs.drop (i * 1) = c :: cs.drop (i + 1) := by rw [Nat.mul_one, List.drop_eq_getElem_cons hlt, (List.getElem?_eq_some_iff.1 c1).2]
 have ha := ia_slI (E := E0) Tryz.underlying27 tsize_98 n.length cs .i64 i hi
 rw [e] at ha
 exact ⟨_, c, ha, fun S => ld_imm isAggO_98 _ _, c2⟩
theorem keyT_step (m : List (List Ava)) (i : Nat) (hi : i < m.length) : keyT (m.drop i) = keyT (m.drop (i + 1)) ++ (stepS (m.getD i []) ++ [0]) := by
 have e : m.drop i = m.getD i [] :: m.drop (i + 1) := by rw [List.drop_eq_getElem_cons hi]; simp [List.getD, hi]
 rw [e]
 simp [keyT]
theorem keyT_len : ∀ m : List (List Ava), (keyT m).length ≤ 4 * szN m
 | [] => by simp [keyT]
 | r :: m => by
  have ih := keyT_len m
  have h1 := stepS_len r
  have e : keyT (r :: m) = keyT m ++ (stepS r ++ [0]) := by simp [keyT]
  rw [e]
  simp only [List.length_append, List.length_cons, List.length_nil, szN, List.map_cons, List.sum_cons] at ih ⊢
  omega
theorem szN_drop (m : List (List Ava)) (i : Nat) : szN (m.drop i) ≤ szN m := by
 conv => rhs; rw [← List.take_append_drop i m]
 simp only [szN, List.map_append, List.sum_append]
 omega
theorem szR_mem {m : List (List Ava)} {r : List Ava} (h : r ∈ m) : szR r ≤ szN m := by
 obtain ⟨a, b, rfl⟩ := List.append_of_mem h
 simp only [szN, List.map_append, List.sum_append, List.map_cons, List.sum_cons]
 omega
theorem szR_insA (a : Ava) : ∀ l : List Ava, ((insA a l).map szA).sum = szA a + (l.map szA).sum
 | [] => rfl
 | b :: l => by
  have ih := szR_insA a l
  unfold insA
  split
  ·simp
  ·simp only [List.map_cons, List.sum_cons, ih]; omega
theorem szR_fold : ∀ (l acc : List Ava), ((l.foldl (fun acc a => insA a acc) acc).map szA).sum = (acc.map szA).sum + (l.map szA).sum
 | [], acc => by simp
 | a :: l, acc => by
  rw [List.foldl_cons, szR_fold l, szR_insA]
  simp only [List.map_cons, List.sum_cons]; omega
theorem szR_norm (r : List Ava) : szR (normR r) ≤ szR r := by
 have h : ∀ l : List Ava, ((l.map normA).map szA).sum ≤ (l.map szA).sum := by
  intro l
  induction l with
  | nil => simp
  | cons a l ih =>
   have h1 := foldS_len a.2
   have h2 := smallS_len a.1
   simp only [List.map_cons, List.sum_cons, szA, normA] at ih ⊢
   omega
 have := szR_fold (r.map normA) []
 simp only [List.map_nil, List.sum_nil, Nat.zero_add] at this
 unfold normR szR srt
 rw [this]
 have := h r
 omega
theorem szN_norm (n : List (List Ava)) : szN (normN n) ≤ szN n := by
 induction n with
 | nil => simp [normN]
 | cons r n ih =>
  have := szR_norm r
  simp only [normN, szN, List.map_cons, List.sum_cons] at ih ⊢
  omega
def fitN (n : List (List Ava)) : Prop := okN n ∧ szN n ≤ 4194304
theorem fitN.norm {n : List (List Ava)} (h : fitN n) : fitN (normN n) := ⟨normN_ok h.1, Nat.le_trans (szN_norm n) h.2⟩
theorem fitN.rdn {n : List (List Ava)} (h : fitN n) {r : List Ava} (hr : r ∈ n) : okR r ∧ szR r ≤ 4194304 := ⟨h.1.2 r hr, Nat.le_trans (szR_mem hr) h.2⟩
theorem back_ok {id n L : Nat} {fr : Fr} {w : V} {m : List (List Ava)} {T : Store} (hw : ∀ S, isDn S w m) (hL : T[L]? = some (.lp false 4004 fr)) (hf : lget fr 3 = .ref id 0) (hb : BldN T id n []) (hid : id < n) (hLn : L < n) (hne : L ≠ id) (hn : n ≤ T.length)
  (fm : fitN m) :
  ∃ T', vrun E0 (.fn 113) [.yld L, .imm [w]] T = some (.tup [], T') ∧ BldN T' id n (keyT m) ∧ T'[L]? = some (.lp false 4004 fr) ∧ n ≤ T'.length ∧ ∀ q, q < n → q ≠ id → T'[q]? = T[q]? := by
 suffices h : ∃ r, (∃ T', r = (.tup [], T') ∧ BldN T' id n (keyT m) ∧ T'[L]? = some (.lp false 4004 fr) ∧ n ≤ T'.length ∧ ∀ q, q < n → q ≠ id → T'[q]? = T[q]?) ∧ vrun E0 (.fn 113) [.yld L, .imm [w]] T = some r by
  obtain ⟨r, ⟨T', rfl, h2⟩, h3⟩ := h
  exact ⟨T', h3, h2⟩
 refine fn_wsP Tryz.func113 rfl ?_
 have l0 : opLoad E0 T 27 (.imm [w]) = some w := ld_imm isAggO_27 _ _
 have ln := (hw T).len
 have w0 : IntKind.i64.wrap ((m.length : Int) - 1) = (m.length : Int) - 1 := wrap_full (by have := fm.1.1; omega) (by have := fm.1.1; omega)
 repeat (first | refine WS.adm rfl ?_ | refine WS.region (by simp only [EV, TY, lget, l0, ln, w0, ↓reduceIte, Nat.reduceEqDiff]; with_reducible rfl) ?_)
 refine WS.loopB (fun j fx U => ∃ i, j = i ∧ i ≤ m.length ∧ lget fx 0 = .yld L ∧ lget fx 1 = .imm [w] ∧ lget fx 3 = .int .i64 ((i : Int) - 1) ∧ BldN U id n (keyT (m.drop i)) ∧ U[L]? = some (.lp false 4004 fr) ∧ n ≤ U.length ∧ ∀ q, q < n → q ≠ id → U[q]? = T[q]?)
  (fun fx U => BldN U id n (keyT m) ∧ U[L]? = some (.lp false 4004 fr) ∧ n ≤ U.length ∧ ∀ q, q < n → q ≠ id → U[q]? = T[q]?) (j := m.length) ?_ ?_ ?_
 ·refine ⟨m.length, rfl, Nat.le_refl _, ?_, ?_, ?_, ?_, hL, hn, fun _ _ _ => rfl⟩
  iterate 3 simp only [EV, lget, ↓reduceIte, Nat.reduceEqDiff, AT]
  ·rw [List.drop_length]; exact hb
 ·rintro fx U ⟨p1, p2, p3, p4⟩
  exact WS.done ⟨_, ⟨U, rfl, p1, p2, p3, p4⟩, .inl rfl, [], rfl, rfl⟩
 ·rintro i fx U ⟨j, rfl, hi, q0, q1, q3, p1, p2, p3, p4⟩ again leave
  cases i with
  | zero =>
   have hlt : ¬ (0 : Int) ≤ ((0 : Nat) : Int) - 1 := by omega
   repeat (first | refine WS.adm rfl ?_ | refine WS.region (by simp only [EV, TY, q3, hlt, ↓reduceIte, Nat.reduceEqDiff]; with_reducible rfl) ?_)
   refine WS.cf0 ?_
   refine WS.exit rfl ?_
   exact leave _ _ ⟨p1, p2, p3, p4⟩
  | succ i =>
   have e1 : (((i + 1 : Nat) : Int) - 1) = (i : Int) := by omega
   rw [e1] at q3
   have hge : (0 : Int) ≤ (i : Int) := by omega
   have hi : i < m.length := hi
   obtain ⟨a, c, i1, i2, i3⟩ := done_at hw i hi
   have hr : m.getD i [] ∈ m := by
    rw [show m.getD i [] = m[i] by simp [List.getD, hi]]; exact List.getElem_mem _
   have hstep := keyT_step m i hi
   have hkl := keyT_len (m.drop (i + 1))
   have hkl2 := szN_drop m (i + 1)
   have hkl3 := fm.2
   have hsl := stepS_len (m.getD i [])
   obtain ⟨om, h4⟩ := fm.rdn hr
   obtain ⟨U2, r1, r2, r3, r4, r5⟩ := round_ok (i := (i : Int)) p2 hf p1 hid hLn hne p3 i3 om h4 (by omega) (by omega)
   rw [← hstep] at r2
   have l1 : opLoad E0 U 27 (.imm [w]) = some w := ld_imm isAggO_27 _ _
   have l2 := i2 U
   have w1 : IntKind.i64.wrap ((i : Int) - 1) = (i : Int) - 1 := wrap_full (by have := fm.1.1; omega) (by have := fm.1.1; omega)
   repeat (first | refine WS.adm rfl ?_ | refine WS.region (by simp only [EV, TY, q3, hge, ↓reduceIte, Nat.reduceEqDiff]; with_reducible rfl) ?_)
   refine WS.ct0 ?_
   repeat (first | refine WS.adm rfl ?_ | refine WS.region (by simp only [EV, TY, q0, q1, q3, l1, i1, l2, callV_yld, r1, Bool.not_true, ↓reduceIte, Nat.reduceEqDiff]; with_reducible rfl) ?_)
   refine WS.cf0 ?_
   repeat (first | refine WS.adm rfl ?_ | refine WS.region (by simp only [EV, TY, q3, w1, ↓reduceIte, Nat.reduceEqDiff]; with_reducible rfl) ?_)
   refine again i _ _ (by omega) ⟨i, rfl, by omega, ?_, ?_, ?_, r2, r3, r4, fun q h1 h2 => (r5 q h1 h2).trans (p4 q h1 h2)⟩
   iterate 3 simp only [EV, q0, q1, ↓reduceIte, Nat.reduceEqDiff, AT]
theorem done_kind {v : V} {n : List (List Ava)} (h : ∀ S, isDn S v n) : v = .slN ∨ ∃ k cs, v = .slI k cs := by
 obtain ⟨cs, ⟨_, h2⟩, _⟩ := h []
 rcases h2 with ⟨rfl, _⟩ | rfl | ⟨id, off, cap, cs, e, rfl, _, h3, _⟩
 ·exact .inl rfl
 ·exact .inr ⟨_, _, rfl⟩
 ·simp at h3
theorem normR_len (r : List Ava) : (normR r).length = r.length := by simp [normR, srt_len]
theorem rf113 {id : Nat} {T0 : Store} {w : V} {m : List (List Ava)} {fr : Fr} {k : List Todo} {Q : Ex → Fr → Store → Prop} {ps : Array Tmp} {asg body : Code} (hk : Vm.keyOf body = 4004) (hg : lget fr 8 = .fn (.func 113) [] [.imm [w]]) (hf : lget fr 3 = .ref id 0) (hw : ∀ S, isDn S w m)
  (hb : BldN (T0 ++ [.lp false 4004 fr]) id (T0.length + 1) []) (hid : id < T0.length) (fm : fitN m)
  (h : ∀ T', Bld T' id (keyT m) → Low id T0 T' → WS E0 k fr T' Q) : WS E0 (.code (.rangeFunc (.tmp 8) ps asg body) :: k) fr T0 Q := by
 obtain ⟨T', b1, b2, b3, b4, b5⟩ := back_ok (id := id) (n := T0.length + 1) (L := T0.length) (fr := fr) hw (getS0 _) hf hb (by omega) (by omega) (by omega) (by simp) fm
 refine WS.rangeFunc (f := 113) (fn := Tryz.f113) (first := []) (captured := [.imm [w]]) hg Tryz.func113 rfl (by rw [hk]; exact b1) b3 (h _ ((b2.set (by omega) (by omega) _).bld (by omega)) ⟨by rw [List.length_set]; omega, fun q hq => ?_⟩)
 rw [List.getElem?_set_ne (by omega), b5 q (by omega) (by omega), List.getElem?_append_left (by omega)]
theorem Key_ok {S : Store} {v : V} {n : List (List Ava)} (hn : isDn S v n) (fn : fitN n) : vrun E0 (.fn 71) [v] S = some (.str (keyS n), S) := by
 refine fn_ws Tryz.func71 rfl ?_
 have al := alloc_60 S
 obtain ⟨w, nw, dw⟩ := Norm_ok (hn.more [.cells [.nilp, .slN] 165]) fn.1 (sorts_all fn.1)
 have bw := Backward_ok (done_kind dw) (S ++ [.cells [.nilp, .slN] 165])
 have fm := fn.norm
 have hlen : (S ++ [Ob.cells [.nilp, .slN] 165]).length = S.length + 1 := by simp
 repeat (first | refine WS.adm rfl ?_ | refine WS.region (by simp only [EV, TY, lget, al, callV_82, nw, callV_81, bw, ↓reduceIte, Nat.reduceEqDiff]; with_reducible rfl) ?_)
 refine rf113 (id := S.length) (w := w) (m := normN n) rfl ?_ ?_ dw ?_ (by omega) fm fun T' hB hlow => ?_
 iterate 2 simp only [EV, lget, ↓reduceIte, Nat.reduceEqDiff, AT]
 ·exact ⟨.nilp, .slN, by rw [List.append_assoc]; exact getS0 _, .inl rfl, .inl ⟨rfl, rfl⟩, fun _ i o l c z h => by cases h⟩
 ·obtain ⟨T2, s1, s2⟩ := String_ok hB (by have := keyT_len (normN n); have := fm.2; omega)
  have hpre : S <+: T2 := ((Low.app (Nat.le_refl _) _).trans (hlow.trans s2)).pre
  repeat (first | refine WS.adm rfl ?_ | refine WS.region (by simp only [EV, TY, lget, callV_110, s1, ↓reduceIte, Nat.reduceEqDiff]; with_reducible rfl) ?_)
  refine WS.ret1s (t := 2) rfl rfl hpre (frz_str _ _ _) ?_
  simp only [EV, lget, ↓reduceIte, Nat.reduceEqDiff, AT]
  rfl
end Go.Proofs.YtmmjlgocihhkcaaGreatDoor
