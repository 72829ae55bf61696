/- The view of images of unlike names that may be is the same when they come from behind: for all arguments whose bulk is at most 1048576, in any memory, the law returns true and each argument reads as before. Conditions: those of the given row and card alone (the listed package-level variables hold what the program's text lays). -/
import Derived.Test.YtmmjlgocihhkcaaGreatDoorPartW
import Derived.Test.YtmmjlgocihhkcaaGreatDoorFits
import Derived.Test.YtmmjlgocihhkcaaGreatDoorOpens
set_option linter.all false
namespace Go.Proofs.YtmmjlgocihhkcaaGreatDoor
open Go Go.Vm
set_option maxRecDepth 100000
set_option maxHeartbeats 8000000
theorem unl_of_at {l : List Img} (h : ∀ k (hk : k < l.length), atI l l[k].1 = ((k : Nat) : Int)) : Unl l := by
 unfold Unl
 rw [List.pairwise_iff_getElem]
 intro i j hi hj hij he
 have h1 := h i hi
 have h2 := h j hj
 rw [at_same he, h2] at h1
 omega
theorem keys_of {l : List Img} (h : rightL l = true) : ∀ x ∈ l, ∀ y ∈ l, keyS x.1 = keyS y.1 → normN x.1 = normN y.1 := by
 intro x hx y hy he
 unfold rightL at h
 rw [List.all_eq_true] at h
 exact (key_same (rightB_shaped (h x hx)) (rightB_shaped (h y hy))).2 he
theorem law7_ok {cs cg : List V} {v : V} {s : SchD} {g : Agr} {l : List Img} (hs : ∃ tv kv, cs = [tv, kv] ∧ PArr 6 rTy tv s.1 ∧ PArr 5 rCls kv s.2) (hg : ∃ bv gv, cg = [bv, gv] ∧ pDn bv g.1 ∧ PArr 1 rS gv g.2) (hl : pImgs v l) (fs : fitS s) (og : fitGr g) (fl : fitL l ∧ NmL l) :
  vrun E0 (.fn 7) [.agg cs, .agg cg, v] [] = some (.bool true, []) := by
 obtain ⟨tv, kv, rfl, ht, hk⟩ := hs
 obtain ⟨bv, gv, rfl, hb, hgr⟩ := hg
 obtain ⟨fl, on⟩ := fl
 refine fn_ws Tryz.func7 rfl ?_
 have hbx : opBox [] 25 (.agg [tv, kv]) = some (.ref 0 0, [.cells [tv, kv] 25]) := rfl
 have hbx2 : opBox [Ob.cells [tv, kv] 25] 30 (.agg [bv, gv]) = some (.ref 1 0, [.cells [tv, kv] 25, .cells [bv, gv] 30]) := rfl
 have c0 : ([Ob.cells [tv, kv] 25, .cells [bv, gv] 30] : Store)[0]? = some (.cells [tv, kv] 25) := rfl
 have c1 : ([Ob.cells [tv, kv] 25, .cells [bv, gv] 30] : Store)[1]? = some (.cells [bv, gv] 30) := rfl
 have hU2 : ([Ob.cells [tv, kv] 25, .cells [bv, gv] 30] : Store).length = 2 := rfl
 generalize [Ob.cells [tv, kv] 25, Ob.cells [bv, gv] 30] = U at hbx2 c0 c1 hU2
 have k0 : opLoad E0 U 25 (.ref 0 0) = some (.agg [tv, kv]) := var_ld isAggO_25 tsize_25 c0 rfl
 have la := (PArr.arr hl U).len (E := E0) Tryz.underlying31
 by_cases n1 : 150 < l.length
 ·have n1' : (150 : Int) < ((l.length : Nat) : Int) := by omega
  repeat (first | refine WS.adm rfl ?_ | refine WS.region (by simp only [EV, TY, lget, hbx, hbx2, callV_8, la, n1', ↓reduceIte, Nat.reduceEqDiff]; with_reducible rfl) ?_)
  refine WS.cond_true (by simp only [EV, n1', ↓reduceIte, Nat.reduceEqDiff]) ?_
  repeat (first | refine WS.adm rfl ?_ | refine WS.rl ?_)
  refine ret_bool (t := 6) rfl rfl List.nil_prefix rfl ?_
  simp only [EV, ↓reduceIte, Nat.reduceEqDiff, AT]
 have n1' : ¬ (150 : Int) < ((l.length : Nat) : Int) := by omega
 obtain ⟨T, lowT, hN⟩ := New_ok (S := U) ht hk fs
 rcases hN with hN | ⟨b, tw, kw, q, r, hN, hsch, hu⟩
 ·repeat (first | refine WS.adm rfl ?_ | refine WS.region (by simp only [EV, TY, lget, hbx, hbx2, callV_8, la, n1', ↓reduceIte, Nat.reduceEqDiff]; with_reducible rfl) ?_)
  refine WS.cond_false (by simp only [EV, n1', ↓reduceIte, Nat.reduceEqDiff]) ?_
  repeat (first | refine WS.adm rfl ?_ | refine WS.region (by simp only [EV, TY, lget, k0, callV_9, hN, eq33n, eq33r, ↓reduceIte, Nat.reduceEqDiff]; with_reducible rfl) ?_)
  refine WS.ct0 ?_
  repeat (first | refine WS.adm rfl ?_ | refine WS.rl ?_)
  refine ret_bool (t := 6) rfl rfl List.nil_prefix rfl ?_
  simp only [EV, ↓reduceIte, Nat.reduceEqDiff, AT]
  rfl
 have d1 : T[1]? = some (.cells [bv, gv] 30) := by rw [lowT.2 _ (by omega)]; exact c1
 have hT2 : 1 < T.length := lt_of_get d1
 have r1 := right_all (PArr.arr hl T) fl
 have lt := (PArr.arr hl T).len (E := E0) Tryz.underlying31
 have w0 : IntKind.i64.wrap ((l.length : Int) - 1) = (l.length : Int) - 1 := wrap_full (by omega) (by omega)
 repeat (first | refine WS.adm rfl ?_ | refine WS.region (by simp only [EV, TY, lget, hbx, hbx2, callV_8, la, n1', ↓reduceIte, Nat.reduceEqDiff]; with_reducible rfl) ?_)
 refine WS.cond_false (by simp only [EV, n1', ↓reduceIte, Nat.reduceEqDiff]) ?_
 repeat (first | refine WS.adm rfl ?_ | refine WS.region (by simp only [EV, TY, lget, k0, callV_9, hN, eq33n, eq33r, ↓reduceIte, Nat.reduceEqDiff]; with_reducible rfl) ?_)
 refine WS.cf0 ?_
 repeat (first | refine WS.adm rfl ?_ | refine WS.region (by simp only [EV, TY, lget, callV_18, r1, lt, w0, ↓reduceIte, Nat.reduceEqDiff]; with_reducible rfl) ?_)
 refine WS.loopB (fun j fr X => ∃ w, j ≤ l.length ∧ lget fr 2 = v ∧ lget fr 4 = .ref 1 0 ∧ lget fr 7 = .bool true ∧ lget fr 8 = .ref b 0 ∧ lget fr 10 = .bool (rightL l) ∧ lget fr 11 = w ∧ lget fr 12 = .int .i64 ((j : Int) - 1) ∧ Low T.length T X ∧ Lst T.length 52 2 rImg X w (l.drop j).reverse ∧ ∀ k (hk : k < l.length), j ≤ k → atI l l[k].1 = ((k : Nat) : Int))
  (fun fr X => ∃ w, lget fr 2 = v ∧ lget fr 4 = .ref 1 0 ∧ lget fr 7 = .bool true ∧ lget fr 8 = .ref b 0 ∧ lget fr 10 = .bool (rightL l) ∧ lget fr 11 = w ∧ Low T.length T X ∧ Lst T.length 52 2 rImg X w l.reverse ∧ ∀ k (hk : k < l.length), atI l l[k].1 = ((k : Nat) : Int)) (j := l.length) ?_ ?_ ?_
 ·refine ⟨.slN, Nat.le_refl _, ?_, ?_, ?_, ?_, ?_, ?_, ?_, Low.refl (Nat.le_refl _), by rw [List.drop_length]; exact Lst.nil _ _ _ _ _, fun k hk h => absurd hk (by omega)⟩
  all_goals
   simp only [EV, lget, ↓reduceIte, Nat.reduceEqDiff, AT]
   try rfl
 ·rintro fr X ⟨w, h2, h4, h7, h8, h10, h11, hlow, hw, hall⟩
  cases q1 : rightL l with
  | false =>
   rw [q1] at h10
   repeat (first | refine WS.adm rfl ?_ | refine WS.region (by simp only [EV, TY, lget, h10, ↓reduceIte, Nat.reduceEqDiff]; with_reducible rfl) ?_)
   refine WS.ct0 ?_
   repeat (first | refine WS.adm rfl ?_ | refine WS.region (by simp only [EV, TY, lget, h7, ↓reduceIte, Nat.reduceEqDiff]; with_reducible rfl) ?_)
   refine ret_bool (t := 6) rfl rfl List.nil_prefix rfl ?_
   simp only [EV, ↓reduceIte, Nat.reduceEqDiff, AT]
  | true =>
   rw [q1] at h10
   have hul := unl_of_at hall
   have d2 : X[1]? = some (.cells [bv, gv] 30) := by rw [hlow.2 _ (by omega)]; exact d1
   have k2 : opLoad E0 X 30 (.ref 1 0) = some (.agg [bv, gv]) := var_ld isAggO_30 tsize_30 d2 rfl
   have hschX := hsch.pre hlow.pre
   have flr : fitL l.reverse := ⟨by rw [List.length_reverse]; exact fl.1, fun x hx => fl.2 x (List.mem_reverse.1 hx)⟩
   have onr : NmL l.reverse := fun x hx => on x (List.mem_reverse.1 hx)
   obtain ⟨w1, e1, e2⟩ := View_ok hschX hb hgr hl og fl on
   obtain ⟨w2, f1, f2⟩ := ViewA_ok hschX hb hgr (Arr.mono (rImg.s X) hw.arr) og flr onr
   rw [← view_rev hul (keys_of q1)] at f2
   have fv : fitL (viewP s g l) := fit_viewP fl
   have hle := viewP_len s g l
   have hle' : (((viewP s g l).length : Nat) : Int) ≤ ((l.length : Nat) : Int) := by omega
   have t1 := Same_img_ok (PArr.arr e2 X) (PArr.arr f2 X) fv fv
   rw [decide_eq_true rfl] at t1
   have lv := (PArr.arr e2 X).len (E := E0) Tryz.underlying31
   have lx := (PArr.arr hl X).len (E := E0) Tryz.underlying31
   repeat (first | refine WS.adm rfl ?_ | refine WS.region (by simp only [EV, TY, lget, h10, ↓reduceIte, Nat.reduceEqDiff]; with_reducible rfl) ?_)
   refine WS.cf0 ?_
   repeat (first | refine WS.adm rfl ?_ | refine WS.region (by simp only [EV, TY, lget, h2, h4, h7, h8, h11, k2, callV_10, e1, f1, callV_11, t1, lv, lx, hle', ↓reduceIte, Nat.reduceEqDiff]; with_reducible rfl) ?_)
   refine ret_bool (t := 6) rfl rfl List.nil_prefix rfl ?_
   simp only [EV, ↓reduceIte, Nat.reduceEqDiff, AT]
 ·rintro j fr X ⟨w, hj, h2, h4, h7, h8, h10, h11, h12, hlow, hw, hall⟩ ih last
  cases j with
  | zero =>
   have hlt : ¬ (0 : Int) ≤ ((0 : Nat) : Int) - 1 := by omega
   repeat (first | refine WS.adm rfl ?_ | refine WS.region (by simp only [EV, TY, h12, hlt, ↓reduceIte, Nat.reduceEqDiff]; with_reducible rfl) ?_)
   refine WS.cf0 ?_
   refine WS.exit rfl ?_
   refine last _ _ ⟨w, ?_, ?_, ?_, ?_, ?_, ?_, hlow, by rw [List.drop_zero] at hw; exact hw, fun k hk => hall k hk (Nat.zero_le _)⟩
   iterate 6 simp only [EV, h2, h4, h7, h8, h10, h11, ↓reduceIte, Nat.reduceEqDiff, AT]
  | succ i =>
   have e1 : (((i + 1 : Nat) : Int) - 1) = (i : Int) := by omega
   rw [e1] at h12
   have hge : (0 : Int) ≤ (i : Int) := by omega
   have hi : i < l.length := hj
   obtain ⟨a, u, y, fa, i1, i2, f1, f2, i3, i4⟩ := img_at (PArr.arr hl X) i hi
   have fx := fl.at_ hi
   have hat := At_ok (PArr.arr hl X) i3 fl fx.1.1
   have hdr : (l.drop i).reverse = (l.drop (i + 1)).reverse ++ [l[i]] := by rw [List.drop_eq_getElem_cons hi, List.reverse_cons]
   by_cases hc : atI l l[i].1 = ((i : Nat) : Int)
   ·have hq : (atI l l[i].1 != ((i : Nat) : Int)) = false := by simp [hc]
    have hall' : ∀ k (hk : k < l.length), i ≤ k → atI l l[k].1 = ((k : Nat) : Int) := by
     intro k hk hik
     by_cases e : k = i
     ·subst e; exact hc
     ·exact hall k hk (by omega)
    have dec : IntKind.i64.wrap ((i : Int) - 1) = (i : Int) - 1 := wrap_full (by omega) (by omega)
    have hll : (l.drop (i + 1)).reverse.length + 1 ≤ 1048576 := by
     rw [List.length_reverse, List.length_drop]
     have := fl.1
     omega
    generalize l[i] = x at i3 i4 fx hat hdr hq
    obtain ⟨w2, T2, q1, q2, q3, q4⟩ := hw.put ety_31 hlow.1 (ofC.agg [u, y]) rfl (a := x) (rImg_of i3 i4) (by omega) (by omega)
    repeat (first | refine WS.adm rfl ?_ | refine WS.region (by simp only [EV, TY, lget, h12, hge, ↓reduceIte, Nat.reduceEqDiff]; with_reducible rfl) ?_)
    refine WS.ct0 ?_
    repeat (first | refine WS.adm rfl ?_ | refine WS.region (by simp only [EV, TY, lget, h2, h12, i1, f1, f2, callV_21, hat, hq, ↓reduceIte, Nat.reduceEqDiff]; with_reducible rfl) ?_)
    refine WS.cf0 ?_
    repeat (first | refine WS.adm rfl ?_ | refine WS.region (by simp only [EV, TY, lget, h2, h11, h12, i1, i2, q1, q2, dec, ↓reduceIte, Nat.reduceEqDiff]; with_reducible rfl) ?_)
    refine ih i _ _ (by omega) ⟨w2, by omega, ?_, ?_, ?_, ?_, ?_, ?_, ?_, hlow.trans q4, by rw [hdr]; exact q3, hall'⟩
    iterate 7 simp only [EV, h2, h4, h7, h8, h10, ↓reduceIte, Nat.reduceEqDiff, AT]
   ·have hq : (atI l l[i].1 != ((i : Nat) : Int)) = true := by simp [hc]
    generalize l[i] = x at i3 i4 fx hat hq
    repeat (first | refine WS.adm rfl ?_ | refine WS.region (by simp only [EV, TY, lget, h12, hge, ↓reduceIte, Nat.reduceEqDiff]; with_reducible rfl) ?_)
    refine WS.ct0 ?_
    repeat (first | refine WS.adm rfl ?_ | refine WS.region (by simp only [EV, TY, lget, h2, h12, i1, f1, f2, callV_21, hat, hq, ↓reduceIte, Nat.reduceEqDiff]; with_reducible rfl) ?_)
    refine WS.ct0 ?_
    repeat (first | refine WS.adm rfl ?_ | refine WS.region (by simp only [EV, TY, lget, h7, ↓reduceIte, Nat.reduceEqDiff]; with_reducible rfl) ?_)
    refine ret_bool (t := 6) rfl rfl List.nil_prefix rfl ?_
    simp only [EV, ↓reduceIte, Nat.reduceEqDiff, AT]
end Go.Proofs.YtmmjlgocihhkcaaGreatDoor
namespace Go.Proofs.YtmmjlgocihhkcaaGreatDoor.changesOrder
open Go Go.Vm Go.ChangeShapes Go.WideShapes Go.ChangeAt Go.RowKit
set_option maxRecDepth 100000
theorem lets (t : TypeId) (ht : t ∈ Tryz.f7.params.toList) : Tryz.prog.readableRec t = true ∧ t < Tryz.prog.types.size := by
 rw [Tryz.params7] at ht
 simp only [List.mem_cons, List.not_mem_nil, or_false] at ht
 rcases ht with rfl | rfl | rfl
 ·exact ⟨by kernel_rfl, of_decide_eq_true (by kernel_rfl)⟩
 ·exact ⟨by kernel_rfl, of_decide_eq_true (by kernel_rfl)⟩
 ·exact ⟨by kernel_rfl, of_decide_eq_true (by kernel_rfl)⟩
theorem contract (H : Type) (enc : TypeId × Value → H) (W : World) (base : Nat) (args : Array Value) (ds gs : List (DataW H)) (before : List MemPlace)
  (hval : ∀ (j : Nat) t v, Tryz.f7.params[j]? = some t → args[j]? = some v → Value.okWide Tryz.prog W .any base t v)
  (hW : DataW.Whole enc Tryz.prog Tryz.f7.params.toList Rows.changesOrderSpec.vars false W args.toList ds gs before) (hk : Rows.uptoSmall H (ds ++ gs) = true) :
  Calls Tryz.prog 7 args W fun e W' => ∃ v, e = .returned v ∧ Rows.changesOrderSpec.post enc Tryz.prog Tryz.f7 false true false false W args v W' := by
 have hW' := hW
 obtain ⟨p, q, hA0, hV, rfl, hfz, hnd⟩ := hW
 have hA : DataW.TrodAll enc Tryz.prog W 0 (fun _ => true) true Tryz.f7.params.toList args.toList ds p := hA0
 rw [Tryz.params7] at hA hval
 obtain ⟨v0, vs0, d0, ds0, p0, q0, hargs, rfl, rfl, h0, r0⟩ := trodAll_cons hA
 obtain ⟨v1, vs1, d1, ds1, p1, q1, rfl, rfl, rfl, h1, r1⟩ := trodAll_cons r0
 obtain ⟨v2, vs2, d2, ds2, p2, q2, rfl, rfl, rfl, h2, r2⟩ := trodAll_cons r1
 obtain ⟨rfl, rfl, rfl⟩ := trodAll_nil r2
 obtain rfl : args = #[v0, v1, v2] := by cases args; simp_all
 obtain ⟨rfl, rfl⟩ := trodVars_none hV
 have hb : Rows.uptoBulkAll [d0, d1, d2] ≤ 1048576 := by
  have := of_decide_eq_true hk
  simpa using this
 simp only [Rows.uptoBulkAll, Rows.uptoBulk] at hb
 obtain ⟨u0, n0, hu0, hn0, hok0⟩ := open_sch (hval 0 25 v0 rfl rfl) h0 (fun x hx => by simpa using hW'.lt x (by simp [hx])) (by omega)
 obtain ⟨u1, n1, hu1, hn1, hok1⟩ := open_agr (hval 1 30 v1 rfl rfl) h1 (fun x hx => by simpa using hW'.lt x (by simp [hx])) (by omega)
 obtain ⟨u2, n2, hu2, hn2, hok2⟩ := open_imgn (hval 2 31 v2 rfl rfl) h2 (fun x hx => by simpa using hW'.lt x (by simp [hx])) (by omega)
 obtain ⟨k, hcall⟩ := vrun_some (law7_ok hn0 hn1 hn2 hok0 hok1 hok2)
 exact law_contract (callOk0 k) (fun _ => rfl) rfl laidOut lets rfl Tryz.underlying4 rfl rfl hW' (vs := [.agg u0, .agg u1, u2]) ⟨_, _, rfl, hu0, ⟨_, _, rfl, hu1, ⟨_, _, rfl, hu2, rfl⟩⟩⟩ hcall
noncomputable abbrev theWorld (os : Os) : World := World.laidAll Tryz.prog os Rows.changesOrderUptoRow.laid
theorem laid_met (os : Os) : laidMet Tryz.prog Rows.changesOrderUptoRow.laid ((theWorld os).forCall (fun _ _ => 0) ⟨#[], #[.agg #[.slice none 0 0, .slice none 0 0], .agg #[.slice none 0 0, .slice none 0 0], .slice none 0 0], []⟩).memory :=
 laidMet_laidAll _ (by kernel_rfl) (by kernel_rfl)
theorem reads (os : Os) {H : Type} (enc : TypeId × Value → H) : ∃ places, DataW.whole enc Tryz.prog ((theWorld os).forCall (fun _ _ => 0) ⟨#[], #[.agg #[.slice none 0 0, .slice none 0 0], .agg #[.slice none 0 0, .slice none 0 0], .slice none 0 0], []⟩).memory Tryz.f7.params.toList Rows.changesOrderSpec.vars false #[Value.agg #[.slice none 0 0, .slice none 0 0], Value.agg #[.slice none 0 0, .slice none 0 0], Value.slice none 0 0].toList 8 = some ([.agg [.nil, .nil], .agg [.nil, .nil], .nil], [], places) :=
 ⟨[], by kernel_rfl⟩
theorem liftedUpto (os : Os) (started : os.Started) (H : Type) (enc : TypeId × Value → H) (F : Stop.Interp) :
  ReturnsInHanded {} Tryz.checked os 7 .any ((Rows.OpenSpec.upto Rows.changesOrderSpec).preRow enc Tryz.prog Tryz.f7 Rows.changesOrderUptoRow.domain false Rows.changesOrderUptoRow.laid) (((Rows.OpenSpec.upto Rows.changesOrderSpec).at F).post enc Tryz.prog Tryz.f7 false true false false) := by
 obtain ⟨places, hx⟩ := reads os enc
 refine returnsInHanded_of_row (C := Tryz.checked) (s := Rows.OpenSpec.upto Rows.changesOrderSpec) own started (by kernel_rfl) Tryz.func7
  (witness_row_at (enc := enc) (C := Tryz.checked) false (theWorld os) #[.agg #[.slice none 0 0, .slice none 0 0], .agg #[.slice none 0 0, .slice none 0 0], .slice none 0 0] (World.laidAll_os _ _ _) (by kernel_rfl) (by kernel_rfl) (by kernel_rfl)
   (OpenSpec.preRow_of_cond 8 hx (by kernel_rfl) (fun k hk => by cases hk; kernel_rfl) (by kernel_rfl) (by first | exact laid_met os | (rw [MakeChecks.laidMetH_plain _ _ _ (by kernel_rfl)]; exact laid_met os)))) ?_
 intro W base args ds gs before hval hW _ hcond _ hL _ _
 exact contract H enc W base args ds gs before hval hW (hcond _ rfl)
theorem saidUpto : Rows.ChangesOrderUptoSaid :=
 OpenClaim.holds_of_cond 7 Tryz.f7 rfl rfl rfl rfl rfl rfl rfl ⟨rfl, rfl, rfl, rfl, rfl⟩ rfl rfl rfl rfl rfl (by kernel_rfl) Tryz.func7 (by kernel_rfl)
  (of_decide_eq_true (by kernel_rfl)) (by unfold Func.isWrapper; first | (rw [if_pos (by decide +kernel)]; kernel_rfl) | (rw [if_neg (by decide +kernel)]; exact ⟨rfl, rfl⟩))
  (fun os started H enc _ F => by rw [OpenClaim.pre_eq_preRow]; exact liftedUpto os started H enc F)
theorem plain (f : FuncId) (fn : Func) (hf : Tryz.pinned.checked.prog.funcNamed "palatine/palatinelaw19.ChangesOrder" = some f) (hfn : Tryz.pinned.checked.prog.funcs[f]? = some fn) :
  true = Tryz.pinned.checked.prog.looks [] ∧ ∀ (j : Nat) t, fn.params[j]? = some t → Tryz.pinned.checked.prog.wantsStandIn t = false := by
 obtain rfl : f = 7 := Option.some.inj ((show Tryz.prog.funcNamed "palatine/palatinelaw19.ChangesOrder" = some 7 by kernel_rfl).symm.trans hf) |>.symm
 obtain rfl : fn = Tryz.f7 := (Option.some.inj (Tryz.func7.symm.trans hfn)).symm
 refine ⟨by kernel_rfl, fun j t ht => ?_⟩
 rw [Tryz.params7] at ht
 have hm := Array.mem_of_getElem? ht
 have hm' : t ∈ ([25, 30, 31] : List TypeId) := by simpa using hm
 simp only [List.mem_cons, List.not_mem_nil, or_false] at hm'
 rcases hm' with rfl | rfl | rfl
 ·exact (show Tryz.prog.wantsStandIn 25 = false by kernel_rfl)
 ·exact (show Tryz.prog.wantsStandIn 30 = false by kernel_rfl)
 ·exact (show Tryz.prog.wantsStandIn 31 = false by kernel_rfl)
theorem cardUpto : Rows.ChangesOrderUptoCardSaid :=
 Claim7.holds_tied_plain_at .later [] _ _ _ _ saidUpto (fun _ h => by cases h) (by kernel_rfl) (fun _ h => by cases h) changesOrderUpto_row_tie rfl ⟨rfl, rfl⟩ (by kernel_rfl) rfl plain (by kernel_rfl)
end Go.Proofs.YtmmjlgocihhkcaaGreatDoor.changesOrder
