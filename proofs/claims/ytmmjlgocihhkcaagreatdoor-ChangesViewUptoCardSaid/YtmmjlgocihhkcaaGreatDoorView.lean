/- What a replica has of images by an agreement is in the program as in the document's answer: for all arguments whose bulk is at most 1048576, in any memory, the law returns true and each argument reads as before. Conditions: those of the given row and card alone (the listed package-level variables hold what the program's text lays). -/
import Derived.Test.YtmmjlgocihhkcaaGreatDoorPartU
import Derived.Test.YtmmjlgocihhkcaaGreatDoorPartT
import Derived.Test.YtmmjlgocihhkcaaGreatDoorFits
import Derived.Test.YtmmjlgocihhkcaaGreatDoorOpens
set_option linter.all false
namespace Go.Proofs.YtmmjlgocihhkcaaGreatDoor
open Go Go.Vm
set_option maxRecDepth 100000
set_option maxHeartbeats 8000000
theorem law3_ok {cs cg : List V} {v : V} {s : SchD} {g : Agr} {l : List Img} (hs : ∃ tv kv, cs = [tv, kv] ∧ PArr 6 rTy tv s.1 ∧ PArr 5 rCls kv s.2) (hg : ∃ bv gv, cg = [bv, gv] ∧ pDn bv g.1 ∧ PArr 1 rS gv g.2) (hl : pImgs v l) (fs : fitS s) (og : fitGr g) (fl : fitL l ∧ NmL l) :
  vrun E0 (.fn 3) [.agg cs, .agg cg, v] [] = some (.bool true, []) := by
 obtain ⟨tv, kv, rfl, ht, hk⟩ := hs
 obtain ⟨bv, gv, rfl, hb, hgr⟩ := hg
 obtain ⟨fl, on⟩ := fl
 refine fn_ws Tryz.func3 rfl ?_
 have hbx : opBox [] 25 (.agg [tv, kv]) = some (.ref 0 0, [.cells [tv, kv] 25]) := rfl
 have hbx2 : opBox [Ob.cells [tv, kv] 25] 30 (.agg [bv, gv]) = some (.ref 1 0, [.cells [tv, kv] 25, .cells [bv, gv] 30]) := rfl
 have c0 : ([Ob.cells [tv, kv] 25, .cells [bv, gv] 30] : Store)[0]? = some (.cells [tv, kv] 25) := rfl
 have c1 : ([Ob.cells [tv, kv] 25, .cells [bv, gv] 30] : Store)[1]? = some (.cells [bv, gv] 30) := rfl
 have hU2 : ([Ob.cells [tv, kv] 25, .cells [bv, gv] 30] : Store).length = 2 := rfl
 generalize [Ob.cells [tv, kv] 25, Ob.cells [bv, gv] 30] = U at hbx2 c0 c1 hU2
 have k0 : opLoad E0 U 25 (.ref 0 0) = some (.agg [tv, kv]) := var_ld isAggO_25 tsize_25 c0 rfl
 have la := (PArr.arr hl U).len (E := E0) Tryz.underlying31
 by_cases n1 : 150 < l.length
 ·have n1' : (150 : Int) < ((l.length : Nat) : Int) := by omega
  repeat (first | refine WS.adm rfl ?_ | refine WS.region (by simp only [EV, TY, lget, hbx, hbx2, callV_8, la, n1', ↓reduceIte, Nat.reduceEqDiff]; with_reducible rfl) ?_)
  refine WS.cond_true (by simp only [EV, n1', ↓reduceIte, Nat.reduceEqDiff]) ?_
  repeat (first | refine WS.adm rfl ?_ | refine WS.rl ?_)
  refine ret_bool (t := 6) rfl rfl List.nil_prefix rfl ?_
  simp only [EV, ↓reduceIte, Nat.reduceEqDiff, AT]
 ·have n1' : ¬ (150 : Int) < ((l.length : Nat) : Int) := by omega
  obtain ⟨T, lowT, hN⟩ := New_ok (S := U) ht hk fs
  rcases hN with hN | ⟨b, tw, kw, q, r, hN, hsch, hu⟩
  ·repeat (first | refine WS.adm rfl ?_ | refine WS.region (by simp only [EV, TY, lget, hbx, hbx2, callV_8, la, n1', ↓reduceIte, Nat.reduceEqDiff]; with_reducible rfl) ?_)
   refine WS.cond_false (by simp only [EV, n1', ↓reduceIte, Nat.reduceEqDiff]) ?_
   repeat (first | refine WS.adm rfl ?_ | refine WS.region (by simp only [EV, TY, lget, k0, callV_9, hN, eq33n, eq33r, ↓reduceIte, Nat.reduceEqDiff]; with_reducible rfl) ?_)
   refine WS.ct0 ?_
   repeat (first | refine WS.adm rfl ?_ | refine WS.rl ?_)
   refine ret_bool (t := 6) rfl rfl List.nil_prefix rfl ?_
   simp only [EV, ↓reduceIte, Nat.reduceEqDiff, AT]
   rfl
  ·have d0 : T[0]? = some (.cells [tv, kv] 25) := by rw [lowT.2 _ (by omega)]; exact c0
   have d1 : T[1]? = some (.cells [bv, gv] 30) := by rw [lowT.2 _ (by omega)]; exact c1
   have k1 : opLoad E0 T 25 (.ref 0 0) = some (.agg [tv, kv]) := var_ld isAggO_25 tsize_25 d0 rfl
   have k2 : opLoad E0 T 30 (.ref 1 0) = some (.agg [bv, gv]) := var_ld isAggO_30 tsize_30 d1 rfl
   obtain ⟨w, e1, e2⟩ := View_ok hsch hb hgr hl og fl on
   obtain ⟨w2, f1, f2⟩ := refView_ok (S := T) (kv := kv) ht fs hu hb hgr hl og fl on
   obtain ⟨w3, g1, g2⟩ := View_ok hsch hb hgr e2 og (fit_viewP fl) (nm_viewP on)
   rw [viewP_idem] at g2
   have s1 := Same_img_ok (PArr.arr e2 T) (PArr.arr f2 T) (fit_viewP fl) (fit_viewP fl)
   have s2 := Same_img_ok (PArr.arr e2 T) (PArr.arr g2 T) (fit_viewP fl) (fit_viewP fl)
   rw [decide_eq_true rfl] at s1 s2
   repeat (first | refine WS.adm rfl ?_ | refine WS.region (by simp only [EV, TY, lget, hbx, hbx2, callV_8, la, n1', ↓reduceIte, Nat.reduceEqDiff]; with_reducible rfl) ?_)
   refine WS.cond_false (by simp only [EV, n1', ↓reduceIte, Nat.reduceEqDiff]) ?_
   repeat (first | refine WS.adm rfl ?_ | refine WS.region (by simp only [EV, TY, lget, k0, callV_9, hN, eq33n, eq33r, ↓reduceIte, Nat.reduceEqDiff]; with_reducible rfl) ?_)
   refine WS.cf0 ?_
   repeat (first | refine WS.adm rfl ?_ | refine WS.region (by simp only [EV, TY, lget, k2, callV_10, e1, ↓reduceIte, Nat.reduceEqDiff]; with_reducible rfl) ?_)
   repeat (first | refine WS.adm rfl ?_ | refine WS.region (by simp only [EV, TY, lget, k1, k2, callV_12, f1, callV_11, s1, ↓reduceIte, Nat.reduceEqDiff]; with_reducible rfl) ?_)
   repeat (first | refine WS.adm rfl ?_ | refine WS.region (by simp only [EV, TY, lget, k2, callV_10, g1, callV_11, s2, ↓reduceIte, Nat.reduceEqDiff]; with_reducible rfl) ?_)
   refine ret_bool (t := 6) rfl rfl List.nil_prefix rfl ?_
   simp only [EV, ↓reduceIte, Nat.reduceEqDiff, AT]
end Go.Proofs.YtmmjlgocihhkcaaGreatDoor
namespace Go.Proofs.YtmmjlgocihhkcaaGreatDoor.changesView
open Go Go.Vm Go.ChangeShapes Go.WideShapes Go.ChangeAt Go.RowKit
set_option maxRecDepth 100000
theorem lets (t : TypeId) (ht : t ∈ Tryz.f3.params.toList) : Tryz.prog.readableRec t = true ∧ t < Tryz.prog.types.size := by
 rw [Tryz.params3] at ht
 simp only [List.mem_cons, List.not_mem_nil, or_false] at ht
 rcases ht with rfl | rfl | rfl
 ·exact ⟨by kernel_rfl, of_decide_eq_true (by kernel_rfl)⟩
 ·exact ⟨by kernel_rfl, of_decide_eq_true (by kernel_rfl)⟩
 ·exact ⟨by kernel_rfl, of_decide_eq_true (by kernel_rfl)⟩
theorem contract (H : Type) (enc : TypeId × Value → H) (W : World) (base : Nat) (args : Array Value) (ds gs : List (DataW H)) (before : List MemPlace)
  (hval : ∀ (j : Nat) t v, Tryz.f3.params[j]? = some t → args[j]? = some v → Value.okWide Tryz.prog W .any base t v)
  (hW : DataW.Whole enc Tryz.prog Tryz.f3.params.toList Rows.changesViewSpec.vars false W args.toList ds gs before) (hk : Rows.uptoSmall H (ds ++ gs) = true) :
  Calls Tryz.prog 3 args W fun e W' => ∃ v, e = .returned v ∧ Rows.changesViewSpec.post enc Tryz.prog Tryz.f3 false true false false W args v W' := by
 have hW' := hW
 obtain ⟨p, q, hA0, hV, rfl, hfz, hnd⟩ := hW
 have hA : DataW.TrodAll enc Tryz.prog W 0 (fun _ => true) true Tryz.f3.params.toList args.toList ds p := hA0
 rw [Tryz.params3] at hA hval
 obtain ⟨v0, vs0, d0, ds0, p0, q0, hargs, rfl, rfl, h0, r0⟩ := trodAll_cons hA
 obtain ⟨v1, vs1, d1, ds1, p1, q1, rfl, rfl, rfl, h1, r1⟩ := trodAll_cons r0
 obtain ⟨v2, vs2, d2, ds2, p2, q2, rfl, rfl, rfl, h2, r2⟩ := trodAll_cons r1
 obtain ⟨rfl, rfl, rfl⟩ := trodAll_nil r2
 obtain rfl : args = #[v0, v1, v2] := by cases args; simp_all
 obtain ⟨rfl, rfl⟩ := trodVars_none hV
 have hb : Rows.uptoBulkAll [d0, d1, d2] ≤ 1048576 := by
  have := of_decide_eq_true hk
  simpa using this
 simp only [Rows.uptoBulkAll, Rows.uptoBulk] at hb
 obtain ⟨u0, n0, hu0, hn0, hok0⟩ := open_sch (hval 0 25 v0 rfl rfl) h0 (fun x hx => by simpa using hW'.lt x (by simp [hx])) (by omega)
 obtain ⟨u1, n1, hu1, hn1, hok1⟩ := open_agr (hval 1 30 v1 rfl rfl) h1 (fun x hx => by simpa using hW'.lt x (by simp [hx])) (by omega)
 obtain ⟨u2, n2, hu2, hn2, hok2⟩ := open_imgn (hval 2 31 v2 rfl rfl) h2 (fun x hx => by simpa using hW'.lt x (by simp [hx])) (by omega)
 obtain ⟨k, hcall⟩ := vrun_some (law3_ok hn0 hn1 hn2 hok0 hok1 hok2)
 exact law_contract (callOk0 k) (fun _ => rfl) rfl laidOut lets rfl Tryz.underlying4 rfl rfl hW' (vs := [.agg u0, .agg u1, u2]) ⟨_, _, rfl, hu0, ⟨_, _, rfl, hu1, ⟨_, _, rfl, hu2, rfl⟩⟩⟩ hcall
noncomputable abbrev theWorld (os : Os) : World := World.laidAll Tryz.prog os Rows.changesViewUptoRow.laid
theorem laid_met (os : Os) : laidMet Tryz.prog Rows.changesViewUptoRow.laid ((theWorld os).forCall (fun _ _ => 0) ⟨#[], #[.agg #[.slice none 0 0, .slice none 0 0], .agg #[.slice none 0 0, .slice none 0 0], .slice none 0 0], []⟩).memory :=
 laidMet_laidAll _ (by kernel_rfl) (by kernel_rfl)
theorem reads (os : Os) {H : Type} (enc : TypeId × Value → H) : ∃ places, DataW.whole enc Tryz.prog ((theWorld os).forCall (fun _ _ => 0) ⟨#[], #[.agg #[.slice none 0 0, .slice none 0 0], .agg #[.slice none 0 0, .slice none 0 0], .slice none 0 0], []⟩).memory Tryz.f3.params.toList Rows.changesViewSpec.vars false #[Value.agg #[.slice none 0 0, .slice none 0 0], Value.agg #[.slice none 0 0, .slice none 0 0], Value.slice none 0 0].toList 8 = some ([.agg [.nil, .nil], .agg [.nil, .nil], .nil], [], places) :=
 ⟨[], by kernel_rfl⟩
theorem liftedUpto (os : Os) (started : os.Started) (H : Type) (enc : TypeId × Value → H) (F : Stop.Interp) :
  ReturnsInHanded {} Tryz.checked os 3 .any ((Rows.OpenSpec.upto Rows.changesViewSpec).preRow enc Tryz.prog Tryz.f3 Rows.changesViewUptoRow.domain false Rows.changesViewUptoRow.laid) (((Rows.OpenSpec.upto Rows.changesViewSpec).at F).post enc Tryz.prog Tryz.f3 false true false false) := by
 obtain ⟨places, hx⟩ := reads os enc
 refine returnsInHanded_of_row (C := Tryz.checked) (s := Rows.OpenSpec.upto Rows.changesViewSpec) own started (by kernel_rfl) Tryz.func3
  (witness_row_at (enc := enc) (C := Tryz.checked) false (theWorld os) #[.agg #[.slice none 0 0, .slice none 0 0], .agg #[.slice none 0 0, .slice none 0 0], .slice none 0 0] (World.laidAll_os _ _ _) (by kernel_rfl) (by kernel_rfl) (by kernel_rfl)
   (OpenSpec.preRow_of_cond 8 hx (by kernel_rfl) (fun k hk => by cases hk; kernel_rfl) (by kernel_rfl) (by first | exact laid_met os | (rw [MakeChecks.laidMetH_plain _ _ _ (by kernel_rfl)]; exact laid_met os)))) ?_
 intro W base args ds gs before hval hW _ hcond _ hL _ _
 exact contract H enc W base args ds gs before hval hW (hcond _ rfl)
theorem saidUpto : Rows.ChangesViewUptoSaid :=
 OpenClaim.holds_of_cond 3 Tryz.f3 rfl rfl rfl rfl rfl rfl rfl ⟨rfl, rfl, rfl, rfl, rfl⟩ rfl rfl rfl rfl rfl (by kernel_rfl) Tryz.func3 (by kernel_rfl)
  (of_decide_eq_true (by kernel_rfl)) (by unfold Func.isWrapper; first | (rw [if_pos (by decide +kernel)]; kernel_rfl) | (rw [if_neg (by decide +kernel)]; exact ⟨rfl, rfl⟩))
  (fun os started H enc _ F => by rw [OpenClaim.pre_eq_preRow]; exact liftedUpto os started H enc F)
theorem plain (f : FuncId) (fn : Func) (hf : Tryz.pinned.checked.prog.funcNamed "palatine/palatinelaw19.ChangesView" = some f) (hfn : Tryz.pinned.checked.prog.funcs[f]? = some fn) :
  true = Tryz.pinned.checked.prog.looks [] ∧ ∀ (j : Nat) t, fn.params[j]? = some t → Tryz.pinned.checked.prog.wantsStandIn t = false := by
 obtain rfl : f = 3 := Option.some.inj ((show Tryz.prog.funcNamed "palatine/palatinelaw19.ChangesView" = some 3 by kernel_rfl).symm.trans hf) |>.symm
 obtain rfl : fn = Tryz.f3 := (Option.some.inj (Tryz.func3.symm.trans hfn)).symm
 refine ⟨by kernel_rfl, fun j t ht => ?_⟩
 rw [Tryz.params3] at ht
 have hm := Array.mem_of_getElem? ht
 have hm' : t ∈ ([25, 30, 31] : List TypeId) := by simpa using hm
 simp only [List.mem_cons, List.not_mem_nil, or_false] at hm'
 rcases hm' with rfl | rfl | rfl
 ·exact (show Tryz.prog.wantsStandIn 25 = false by kernel_rfl)
 ·exact (show Tryz.prog.wantsStandIn 30 = false by kernel_rfl)
 ·exact (show Tryz.prog.wantsStandIn 31 = false by kernel_rfl)
theorem cardUpto : Rows.ChangesViewUptoCardSaid :=
 Claim7.holds_tied_plain_at .later [] _ _ _ _ saidUpto (fun _ h => by cases h) (by kernel_rfl) (fun _ h => by cases h) changesViewUpto_row_tie rfl ⟨rfl, rfl⟩ (by kernel_rfl) rfl plain (by kernel_rfl)
end Go.Proofs.YtmmjlgocihhkcaaGreatDoor.changesView
