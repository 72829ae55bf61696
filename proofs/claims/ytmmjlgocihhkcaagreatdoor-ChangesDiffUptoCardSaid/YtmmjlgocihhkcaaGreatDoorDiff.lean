/- What makes one list of images of another one, and what that makes, are in the program as in the document's answer: for all arguments whose bulk is at most 1048576, in any memory, the law returns true and each argument reads as before. Conditions: those of the given row and card alone (the listed package-level variables hold what the program's text lays). -/
import Derived.Test.YtmmjlgocihhkcaaGreatDoorPartO
import Derived.Test.YtmmjlgocihhkcaaGreatDoorFits
import Derived.Test.YtmmjlgocihhkcaaGreatDoorOpens
set_option linter.all false
namespace Go.Proofs.YtmmjlgocihhkcaaGreatDoor
open Go Go.Vm
set_option maxRecDepth 100000
set_option maxHeartbeats 8000000
theorem sortP_len (l : List Img) : (sortP l).length = l.length := by unfold sortP; rw [List.length_map, IgS.srt_len, List.length_map]
theorem sortP_mem {l : List Img} {x : Img} : x ∈ sortP l ↔ x ∈ l := by
 unfold sortP
 rw [List.mem_map]
 constructor
 ·rintro ⟨y, hy, rfl⟩
  obtain ⟨z, hz, rfl⟩ := List.mem_map.1 (IgS.srt_mem.1 hy)
  exact hz
 ·intro h
  exact ⟨tagK x, IgS.srt_mem.2 (List.mem_map.2 ⟨x, h, rfl⟩), rfl⟩
theorem fitL.sort {l : List Img} (h : fitL l) : fitL (sortP l) := ⟨by rw [sortP_len]; exact h.1, fun x hx => h.2 x (sortP_mem.1 hx)⟩
theorem fitL.filter {l : List Img} (h : fitL l) (p : Img → Bool) : fitL (l.filter p) := ⟨Nat.le_trans (List.length_filter_le _ _) h.1, fun x hx => h.2 x (List.mem_filter.1 hx).1⟩
theorem fit_apply {a : List Img} {d : Dlt} (fa : fitL a) (fd : fitD d) (hs : a.length + d.2.length ≤ 1048576) : fitL (applyP a d) := by
 refine fitL.sort ⟨?_, fun x hx => ?_⟩
 ·have := fold_len d.2 (a.filter fun x => !goneB d.1 x)
  have := List.length_filter_le (fun x => !goneB d.1 x) a
  unfold applyL
  omega
 ·rcases fold_mem hx with h | h
  ·exact fd.2.2 x h
  ·exact fa.2 x (List.mem_filter.1 h).1
theorem fit_diff {a b : List Img} (fa : fitL a) (fb : fitL b) : fitD (diffP a b) := by
 refine ⟨⟨?_, fun n hn => ?_⟩, fb.filter _⟩
 ·show ((a.filter _).map _).length ≤ _
  rw [List.length_map]
  exact (fa.filter _).1
 ·obtain ⟨x, hx, rfl⟩ := List.mem_map.1 hn
  exact ((fa.filter _).2 x hx).1
theorem law4_ok {v w : V} {cd : List V} {a b : List Img} {d : Dlt} (ha : pImgs v a) (hb : pImgs w b) (hd : rDlt cd d) (fa : fitL a) (fb : fitL b) (fd : fitD d) : vrun E0 (.fn 4) [v, w, .agg cd] [] = some (.bool true, []) := by
 refine fn_ws Tryz.func4 rfl ?_
 obtain ⟨g, pz, rfl, hg, hpz⟩ := hd
 have hbx : opBox [] 43 (.agg [g, pz]) = some (.ref 0 0, [.cells [g, pz] 43]) := rfl
 have c0 : ([.cells [g, pz] 43] : Store)[0]? = some (.cells [g, pz] 43) := rfl
 have la := (PArr.arr ha [Ob.cells [g, pz] 43]).len (E := E0) Tryz.underlying31
 have lb := (PArr.arr hb [Ob.cells [g, pz] 43]).len (E := E0) Tryz.underlying31
 have lg := (PArr.arr hg [Ob.cells [g, pz] 43]).len (E := E0) Tryz.underlying41
 have lp := (PArr.arr hpz [Ob.cells [g, pz] 43]).len (E := E0) Tryz.underlying31
 have l1 : opLoad E0 [.cells [g, pz] 43] 41 (.ref 0 0) = some g := var_ld1 isAggO_41 c0 rfl
 have l2 : opLoad E0 [.cells [g, pz] 43] 31 (.ref 0 1) = some pz := var_ld1 isAggO_31 c0 rfl
 by_cases n1 : 150 < a.length
 ·have n1' : (150 : Int) < ((a.length : Nat) : Int) := by omega
  repeat (first | refine WS.adm rfl ?_ | refine WS.region (by simp only [EV, TY, lget, hbx, callV_8, la, lb, fa43_0, fa43_1, l1, l2, lg, lp, n1', ↓reduceIte, Nat.reduceEqDiff]; with_reducible rfl) ?_)
  refine WS.cond_true (by simp only [EV, n1', ↓reduceIte, Nat.reduceEqDiff]) ?_
  repeat (first | refine WS.adm rfl ?_ | refine WS.region (by simp only [EV, TY, lget, ↓reduceIte, Nat.reduceEqDiff]; with_reducible rfl) ?_)
  refine ret_bool (t := 6) rfl rfl List.nil_prefix rfl ?_
  simp only [EV, ↓reduceIte, Nat.reduceEqDiff, and_true, true_and, and_self]
 ·have n1' : ¬ (150 : Int) < ((a.length : Nat) : Int) := by omega
  by_cases n2 : 150 < b.length
  ·have n2' : (150 : Int) < ((b.length : Nat) : Int) := by omega
   repeat (first | refine WS.adm rfl ?_ | refine WS.region (by simp only [EV, TY, lget, hbx, callV_8, la, lb, fa43_0, fa43_1, l1, l2, lg, lp, n1', n2', ↓reduceIte, Nat.reduceEqDiff]; with_reducible rfl) ?_)
   refine WS.cond_true (by simp only [EV, n2', ↓reduceIte, Nat.reduceEqDiff]) ?_
   repeat (first | refine WS.adm rfl ?_ | refine WS.region (by simp only [EV, TY, lget, ↓reduceIte, Nat.reduceEqDiff]; with_reducible rfl) ?_)
   refine ret_bool (t := 6) rfl rfl List.nil_prefix rfl ?_
   simp only [EV, ↓reduceIte, Nat.reduceEqDiff, and_true, true_and, and_self]
  ·have n2' : ¬ (150 : Int) < ((b.length : Nat) : Int) := by omega
   by_cases n3 : 150 < d.1.length
   ·have n3' : (150 : Int) < ((d.1.length : Nat) : Int) := by omega
    repeat (first | refine WS.adm rfl ?_ | refine WS.region (by simp only [EV, TY, lget, hbx, callV_8, la, lb, fa43_0, fa43_1, l1, l2, lg, lp, n1', n2', n3', ↓reduceIte, Nat.reduceEqDiff]; with_reducible rfl) ?_)
    refine WS.cond_true (by simp only [EV, n3', ↓reduceIte, Nat.reduceEqDiff]) ?_
    repeat (first | refine WS.adm rfl ?_ | refine WS.region (by simp only [EV, TY, lget, ↓reduceIte, Nat.reduceEqDiff]; with_reducible rfl) ?_)
    refine ret_bool (t := 6) rfl rfl List.nil_prefix rfl ?_
    simp only [EV, ↓reduceIte, Nat.reduceEqDiff, and_true, true_and, and_self]
   ·have n3' : ¬ (150 : Int) < ((d.1.length : Nat) : Int) := by omega
    by_cases n4 : 150 < d.2.length
    ·have n4' : (150 : Int) < ((d.2.length : Nat) : Int) := by omega
     repeat (first | refine WS.adm rfl ?_ | refine WS.region (by simp only [EV, TY, lget, hbx, callV_8, la, lb, fa43_0, fa43_1, l1, l2, lg, lp, n1', n2', n3', n4', ↓reduceIte, Nat.reduceEqDiff]; with_reducible rfl) ?_)
     refine WS.cond_true (by simp only [EV, n4', ↓reduceIte, Nat.reduceEqDiff]) ?_
     repeat (first | refine WS.adm rfl ?_ | refine WS.region (by simp only [EV, TY, lget, ↓reduceIte, Nat.reduceEqDiff]; with_reducible rfl) ?_)
     refine ret_bool (t := 6) rfl rfl List.nil_prefix rfl ?_
     simp only [EV, ↓reduceIte, Nat.reduceEqDiff, and_true, true_and, and_self]
    ·have n4' : ¬ (150 : Int) < ((d.2.length : Nat) : Int) := by omega
     have hsum : a.length + d.2.length ≤ 1048576 := by omega
     obtain ⟨g1, p1, e1, e2, e3⟩ := diff_ok (S := [Ob.cells [g, pz] 43]) ha hb fa fb
     have s1 := var_al (E := E0) zeroV_43 [Ob.cells [g, pz] 43]
     have s2 := var_st (E := E0) (e := 43) tsize_43 [Ob.cells [g, pz] 43] (zs := [.slN, .slN]) (xs := [g1, p1]) rfl rfl
     have l3 : opLoad E0 ([Ob.cells [g, pz] 43] ++ [.cells [g1, p1] 43]) 43 (.ref [Ob.cells [g, pz] 43].length 0) = some (.agg [g1, p1]) := var_ld isAggO_43 tsize_43 (getS0 _) rfl
     have l4 : opLoad E0 ([Ob.cells [g, pz] 43] ++ [.cells [g1, p1] 43]) 43 (.ref 0 0) = some (.agg [g, pz]) := var_ld isAggO_43 tsize_43 (by rfl) rfl
     generalize [Ob.cells [g, pz] 43] ++ [Ob.cells [g1, p1] 43] = U at s2 l3 l4
     obtain ⟨g2, p2, f1, f2, f3⟩ := refDiff_ok (S := U) ha hb fa fb
     have hsd := SameDelta_ok (S := U) (ca := [g1, p1]) (cb := [g2, p2]) ⟨g1, p1, rfl, e2, e3⟩ ⟨g2, p2, rfl, f2, f3⟩ (fit_diff fa fb) (fit_diff fa fb)
     rw [decide_eq_true rfl] at hsd
     obtain ⟨y1, q1, q2⟩ := apply_ok (S := U) ha ⟨g, pz, rfl, hg, hpz⟩ fa fd hsum
     obtain ⟨y2, r1, r2⟩ := refApply_ok (S := U) ha ⟨g, pz, rfl, hg, hpz⟩ fa fd hsum
     have hsi := Same_img_ok (PArr.arr q2 U) (PArr.arr r2 U) (fit_apply fa fd hsum) (fit_apply fa fd hsum)
     rw [decide_eq_true rfl] at hsi
     repeat (first | refine WS.adm rfl ?_ | refine WS.region (by simp only [EV, TY, lget, hbx, callV_8, la, lb, fa43_0, fa43_1, l1, l2, lg, lp, n1', n2', n3', n4', ↓reduceIte, Nat.reduceEqDiff]; with_reducible rfl) ?_)
     refine WS.cond_false (by simp only [EV, n4', ↓reduceIte, Nat.reduceEqDiff]) ?_
     repeat (first | refine WS.adm rfl ?_ | refine WS.region (by simp only [EV, TY, lget, callV_13, e1, s1, s2, ↓reduceIte, Nat.reduceEqDiff]; with_reducible rfl) ?_)
     refine WS.draw (by simp only [evDraw_nil, evDraw_plain, isEff, isRead, List.all_nil, List.all_cons, Bool.or_true, Bool.and_self, Bool.and_true, V.beq_refl, EV, TY, lget, l3, callV_15, f1, callV_14, hsd, ↓reduceIte, Nat.reduceEqDiff]; with_reducible rfl) ?_
     repeat (first | refine WS.adm rfl ?_ | refine WS.region (by simp only [EV, TY, lget, l4, callV_16, q1, callV_17, r1, callV_11, hsi, ↓reduceIte, Nat.reduceEqDiff]; with_reducible rfl) ?_)
     refine ret_bool (t := 6) rfl rfl List.nil_prefix rfl ?_
     simp only [EV, ↓reduceIte, Nat.reduceEqDiff, and_true, true_and, and_self]
end Go.Proofs.YtmmjlgocihhkcaaGreatDoor
namespace Go.Proofs.YtmmjlgocihhkcaaGreatDoor.changesDiff
open Go Go.Vm Go.ChangeShapes Go.WideShapes Go.ChangeAt Go.RowKit
set_option maxRecDepth 100000
theorem lets (t : TypeId) (ht : t ∈ Tryz.f4.params.toList) : Tryz.prog.readableRec t = true ∧ t < Tryz.prog.types.size := by
 rw [Tryz.params4] at ht
 simp only [List.mem_cons, List.not_mem_nil, or_false] at ht
 rcases ht with rfl | rfl | rfl
 ·exact ⟨by kernel_rfl, of_decide_eq_true (by kernel_rfl)⟩
 ·exact ⟨by kernel_rfl, of_decide_eq_true (by kernel_rfl)⟩
 ·exact ⟨by kernel_rfl, of_decide_eq_true (by kernel_rfl)⟩
theorem contract (H : Type) (enc : TypeId × Value → H) (W : World) (base : Nat) (args : Array Value) (ds gs : List (DataW H)) (before : List MemPlace)
  (hval : ∀ (j : Nat) t v, Tryz.f4.params[j]? = some t → args[j]? = some v → Value.okWide Tryz.prog W .any base t v)
  (hW : DataW.Whole enc Tryz.prog Tryz.f4.params.toList Rows.changesDiffSpec.vars false W args.toList ds gs before) (hk : Rows.uptoSmall H (ds ++ gs) = true) :
  Calls Tryz.prog 4 args W fun e W' => ∃ v, e = .returned v ∧ Rows.changesDiffSpec.post enc Tryz.prog Tryz.f4 false true false false W args v W' := by
 have hW' := hW
 obtain ⟨p, q, hA0, hV, rfl, hfz, hnd⟩ := hW
 have hA : DataW.TrodAll enc Tryz.prog W 0 (fun _ => true) true Tryz.f4.params.toList args.toList ds p := hA0
 rw [Tryz.params4] at hA hval
 obtain ⟨v0, vs0, d0, ds0, p0, q0, hargs, rfl, rfl, h0, r0⟩ := trodAll_cons hA
 obtain ⟨v1, vs1, d1, ds1, p1, q1, rfl, rfl, rfl, h1, r1⟩ := trodAll_cons r0
 obtain ⟨v2, vs2, d2, ds2, p2, q2, rfl, rfl, rfl, h2, r2⟩ := trodAll_cons r1
 obtain ⟨rfl, rfl, rfl⟩ := trodAll_nil r2
 obtain rfl : args = #[v0, v1, v2] := by cases args; simp_all
 obtain ⟨rfl, rfl⟩ := trodVars_none hV
 have hb : Rows.uptoBulkAll [d0, d1, d2] ≤ 1048576 := by
  have := of_decide_eq_true hk
  simpa using this
 simp only [Rows.uptoBulkAll, Rows.uptoBulk] at hb
 obtain ⟨u0, n0, hu0, hn0, hok0⟩ := open_imgs (hval 0 31 v0 rfl rfl) h0 (fun x hx => by simpa using hW'.lt x (by simp [hx])) (by omega)
 obtain ⟨u1, n1, hu1, hn1, hok1⟩ := open_imgs (hval 1 31 v1 rfl rfl) h1 (fun x hx => by simpa using hW'.lt x (by simp [hx])) (by omega)
 obtain ⟨u2, n2, hu2, hn2, hok2⟩ := open_dlt (hval 2 43 v2 rfl rfl) h2 (fun x hx => by simpa using hW'.lt x (by simp [hx])) (by omega)
 obtain ⟨k, hcall⟩ := vrun_some (law4_ok hn0 hn1 hn2 hok0 hok1 hok2)
 exact law_contract (callOk0 k) (fun _ => rfl) rfl laidOut lets rfl Tryz.underlying4 rfl rfl hW' (vs := [u0, u1, .agg u2]) ⟨_, _, rfl, hu0, ⟨_, _, rfl, hu1, ⟨_, _, rfl, hu2, rfl⟩⟩⟩ hcall
noncomputable abbrev theWorld (os : Os) : World := World.laidAll Tryz.prog os Rows.changesDiffUptoRow.laid
theorem laid_met (os : Os) : laidMet Tryz.prog Rows.changesDiffUptoRow.laid ((theWorld os).forCall (fun _ _ => 0) ⟨#[], #[.slice none 0 0, .slice none 0 0, .agg #[.slice none 0 0, .slice none 0 0]], []⟩).memory :=
 laidMet_laidAll _ (by kernel_rfl) (by kernel_rfl)
theorem reads (os : Os) {H : Type} (enc : TypeId × Value → H) : ∃ places, DataW.whole enc Tryz.prog ((theWorld os).forCall (fun _ _ => 0) ⟨#[], #[.slice none 0 0, .slice none 0 0, .agg #[.slice none 0 0, .slice none 0 0]], []⟩).memory Tryz.f4.params.toList Rows.changesDiffSpec.vars false #[Value.slice none 0 0, Value.slice none 0 0, Value.agg #[.slice none 0 0, .slice none 0 0]].toList 8 = some ([.nil, .nil, .agg [.nil, .nil]], [], places) :=
 ⟨[], by kernel_rfl⟩
theorem liftedUpto (os : Os) (started : os.Started) (H : Type) (enc : TypeId × Value → H) (F : Stop.Interp) :
  ReturnsInHanded {} Tryz.checked os 4 .any ((Rows.OpenSpec.upto Rows.changesDiffSpec).preRow enc Tryz.prog Tryz.f4 Rows.changesDiffUptoRow.domain false Rows.changesDiffUptoRow.laid) (((Rows.OpenSpec.upto Rows.changesDiffSpec).at F).post enc Tryz.prog Tryz.f4 false true false false) := by
 obtain ⟨places, hx⟩ := reads os enc
 refine returnsInHanded_of_row (C := Tryz.checked) (s := Rows.OpenSpec.upto Rows.changesDiffSpec) own started (by kernel_rfl) Tryz.func4
  (witness_row_at (enc := enc) (C := Tryz.checked) false (theWorld os) #[.slice none 0 0, .slice none 0 0, .agg #[.slice none 0 0, .slice none 0 0]] (World.laidAll_os _ _ _) (by kernel_rfl) (by kernel_rfl) (by kernel_rfl)
   (OpenSpec.preRow_of_cond 8 hx (by kernel_rfl) (fun k hk => by cases hk; kernel_rfl) (by kernel_rfl) (by first | exact laid_met os | (rw [MakeChecks.laidMetH_plain _ _ _ (by kernel_rfl)]; exact laid_met os)))) ?_
 intro W base args ds gs before hval hW _ hcond _ hL _ _
 exact contract H enc W base args ds gs before hval hW (hcond _ rfl)
theorem saidUpto : Rows.ChangesDiffUptoSaid :=
 OpenClaim.holds_of_cond 4 Tryz.f4 rfl rfl rfl rfl rfl rfl rfl ⟨rfl, rfl, rfl, rfl, rfl⟩ rfl rfl rfl rfl rfl (by kernel_rfl) Tryz.func4 (by kernel_rfl)
  (of_decide_eq_true (by kernel_rfl)) (by unfold Func.isWrapper; first | (rw [if_pos (by decide +kernel)]; kernel_rfl) | (rw [if_neg (by decide +kernel)]; exact ⟨rfl, rfl⟩))
  (fun os started H enc _ F => by rw [OpenClaim.pre_eq_preRow]; exact liftedUpto os started H enc F)
theorem plain (f : FuncId) (fn : Func) (hf : Tryz.pinned.checked.prog.funcNamed "palatine/palatinelaw19.ChangesDiff" = some f) (hfn : Tryz.pinned.checked.prog.funcs[f]? = some fn) :
  true = Tryz.pinned.checked.prog.looks [] ∧ ∀ (j : Nat) t, fn.params[j]? = some t → Tryz.pinned.checked.prog.wantsStandIn t = false := by
 obtain rfl : f = 4 := Option.some.inj ((show Tryz.prog.funcNamed "palatine/palatinelaw19.ChangesDiff" = some 4 by kernel_rfl).symm.trans hf) |>.symm
 obtain rfl : fn = Tryz.f4 := (Option.some.inj (Tryz.func4.symm.trans hfn)).symm
 refine ⟨by kernel_rfl, fun j t ht => ?_⟩
 rw [Tryz.params4] at ht
 have hm := Array.mem_of_getElem? ht
 have hm' : t ∈ ([31, 31, 43] : List TypeId) := by simpa using hm
 simp only [List.mem_cons, List.not_mem_nil, or_false] at hm'
 rcases hm' with rfl | rfl | rfl
 ·exact (show Tryz.prog.wantsStandIn 31 = false by kernel_rfl)
 ·exact (show Tryz.prog.wantsStandIn 31 = false by kernel_rfl)
 ·exact (show Tryz.prog.wantsStandIn 43 = false by kernel_rfl)
theorem cardUpto : Rows.ChangesDiffUptoCardSaid :=
 Claim7.holds_tied_plain_at .later [] _ _ _ _ saidUpto (fun _ h => by cases h) (by kernel_rfl) (fun _ h => by cases h) changesDiffUpto_row_tie rfl ⟨rfl, rfl⟩ (by kernel_rfl) rfl plain (by kernel_rfl)
end Go.Proofs.YtmmjlgocihhkcaaGreatDoor.changesDiff
