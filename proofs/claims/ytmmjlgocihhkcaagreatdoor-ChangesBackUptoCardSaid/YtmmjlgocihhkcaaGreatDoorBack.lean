/- Of two views the difference makes the one the other, and of a view and itself it is nothing: for all arguments whose bulk is at most 1048576, in any memory, the law returns true and each argument reads as before. Conditions: those of the given row and card alone (the listed package-level variables hold what the program's text lays). -/
import Derived.Test.YtmmjlgocihhkcaaGreatDoorPartO
import Derived.Test.YtmmjlgocihhkcaaGreatDoorPartW
import Derived.Test.YtmmjlgocihhkcaaGreatDoorFits
import Derived.Test.YtmmjlgocihhkcaaGreatDoorOpens
set_option linter.all false
namespace Go.Proofs.YtmmjlgocihhkcaaGreatDoor
open Go Go.Vm
set_option maxRecDepth 100000
set_option maxHeartbeats 8000000
theorem sortP_len (l : List Img) : (sortP l).length = l.length := by unfold sortP; rw [List.length_map, IgS.srt_len, List.length_map]
theorem sortP_mem {l : List Img} {x : Img} : x ∈ sortP l ↔ x ∈ l := by
 unfold sortP
 rw [List.mem_map]
 constructor
 ·rintro ⟨y, hy, rfl⟩
  obtain ⟨z, hz, rfl⟩ := List.mem_map.1 (IgS.srt_mem.1 hy)
  exact hz
 ·intro h
  exact ⟨tagK x, IgS.srt_mem.2 (List.mem_map.2 ⟨x, h, rfl⟩), rfl⟩
theorem fitL.sort {l : List Img} (h : fitL l) : fitL (sortP l) := ⟨by rw [sortP_len]; exact h.1, fun x hx => h.2 x (sortP_mem.1 hx)⟩
theorem fitL.filter {l : List Img} (h : fitL l) (p : Img → Bool) : fitL (l.filter p) := ⟨Nat.le_trans (List.length_filter_le _ _) h.1, fun x hx => h.2 x (List.mem_filter.1 hx).1⟩
theorem fit_diff {a b : List Img} (fa : fitL a) (fb : fitL b) : fitD (diffP a b) := by
 refine ⟨⟨?_, fun n hn => ?_⟩, fb.filter _⟩
 ·show ((a.filter _).map _).length ≤ _
  rw [List.length_map]
  exact (fa.filter _).1
 ·obtain ⟨x, hx, rfl⟩ := List.mem_map.1 hn
  exact ((fa.filter _).2 x hx).1
theorem keys_view {s : SchD} {g : Agr} {l : List Img} (h : rightL l = true) : ∀ x ∈ viewP s g l, ∀ y ∈ viewP s g l, keyS x.1 = keyS y.1 → normN x.1 = normN y.1 := by
 intro x hx y hy he
 obtain ⟨_, x', hx', rfl⟩ := viewP_mem hx
 obtain ⟨_, y', hy', rfl⟩ := viewP_mem hy
 unfold rightL at h
 rw [List.all_eq_true] at h
 exact (key_same (rightB_shaped (h x' hx')) (rightB_shaped (h y' hy'))).2 he
theorem law5_ok {cs cg : List V} {v v' : V} {s : SchD} {g : Agr} {l m : List Img} (hs : ∃ tv kv, cs = [tv, kv] ∧ PArr 6 rTy tv s.1 ∧ PArr 5 rCls kv s.2) (hg : ∃ bv gv, cg = [bv, gv] ∧ pDn bv g.1 ∧ PArr 1 rS gv g.2) (hl : pImgs v l) (hm : pImgs v' m) (fs : fitS s) (og : fitGr g) (fl : fitL l ∧ NmL l) (fm : fitL m ∧ NmL m) :
  vrun E0 (.fn 5) [.agg cs, .agg cg, v, v'] [] = some (.bool true, []) := by
 obtain ⟨tv, kv, rfl, ht, hk⟩ := hs
 obtain ⟨bv, gv, rfl, hb, hgr⟩ := hg
 obtain ⟨fl, on⟩ := fl
 obtain ⟨fm, om⟩ := fm
 refine fn_ws Tryz.func5 rfl ?_
 have hbx : opBox [] 25 (.agg [tv, kv]) = some (.ref 0 0, [.cells [tv, kv] 25]) := rfl
 have hbx2 : opBox [Ob.cells [tv, kv] 25] 30 (.agg [bv, gv]) = some (.ref 1 0, [.cells [tv, kv] 25, .cells [bv, gv] 30]) := rfl
 have c0 : ([Ob.cells [tv, kv] 25, .cells [bv, gv] 30] : Store)[0]? = some (.cells [tv, kv] 25) := rfl
 have c1 : ([Ob.cells [tv, kv] 25, .cells [bv, gv] 30] : Store)[1]? = some (.cells [bv, gv] 30) := rfl
 have hU2 : ([Ob.cells [tv, kv] 25, .cells [bv, gv] 30] : Store).length = 2 := rfl
 generalize [Ob.cells [tv, kv] 25, Ob.cells [bv, gv] 30] = U at hbx2 c0 c1 hU2
 have k0 : opLoad E0 U 25 (.ref 0 0) = some (.agg [tv, kv]) := var_ld isAggO_25 tsize_25 c0 rfl
 have la := (PArr.arr hl U).len (E := E0) Tryz.underlying31
 have lb := (PArr.arr hm U).len (E := E0) Tryz.underlying31
 by_cases n1 : 150 < l.length
 ·have n1' : (150 : Int) < ((l.length : Nat) : Int) := by omega
  repeat (first | refine WS.adm rfl ?_ | refine WS.region (by simp only [EV, TY, lget, hbx, hbx2, callV_8, la, lb, n1', ↓reduceIte, Nat.reduceEqDiff]; with_reducible rfl) ?_)
  refine WS.cond_true (by simp only [EV, n1', ↓reduceIte, Nat.reduceEqDiff]) ?_
  repeat (first | refine WS.adm rfl ?_ | refine WS.rl ?_)
  refine ret_bool (t := 8) rfl rfl List.nil_prefix rfl ?_
  simp only [EV, ↓reduceIte, Nat.reduceEqDiff, AT]
 have n1' : ¬ (150 : Int) < ((l.length : Nat) : Int) := by omega
 by_cases n2 : 150 < m.length
 ·have n2' : (150 : Int) < ((m.length : Nat) : Int) := by omega
  repeat (first | refine WS.adm rfl ?_ | refine WS.region (by simp only [EV, TY, lget, hbx, hbx2, callV_8, la, lb, n1', n2', ↓reduceIte, Nat.reduceEqDiff]; with_reducible rfl) ?_)
  refine WS.cond_true (by simp only [EV, n1', n2', ↓reduceIte, Nat.reduceEqDiff]) ?_
  repeat (first | refine WS.adm rfl ?_ | refine WS.rl ?_)
  refine ret_bool (t := 8) rfl rfl List.nil_prefix rfl ?_
  simp only [EV, ↓reduceIte, Nat.reduceEqDiff, AT]
 have n2' : ¬ (150 : Int) < ((m.length : Nat) : Int) := by omega
 obtain ⟨T, lowT, hN⟩ := New_ok (S := U) ht hk fs
 rcases hN with hN | ⟨b, tw, kw, q, r, hN, hsch, hu⟩
 ·repeat (first | refine WS.adm rfl ?_ | refine WS.region (by simp only [EV, TY, lget, hbx, hbx2, callV_8, la, lb, n1', n2', ↓reduceIte, Nat.reduceEqDiff]; with_reducible rfl) ?_)
  refine WS.cond_false (by simp only [EV, n1', n2', ↓reduceIte, Nat.reduceEqDiff]) ?_
  repeat (first | refine WS.adm rfl ?_ | refine WS.region (by simp only [EV, TY, lget, k0, callV_9, hN, eq33n, eq33r, ↓reduceIte, Nat.reduceEqDiff]; with_reducible rfl) ?_)
  refine WS.ct0 ?_
  repeat (first | refine WS.adm rfl ?_ | refine WS.rl ?_)
  refine ret_bool (t := 8) rfl rfl List.nil_prefix rfl ?_
  simp only [EV, ↓reduceIte, Nat.reduceEqDiff, AT]
  rfl
 have d1 : T[1]? = some (.cells [bv, gv] 30) := by rw [lowT.2 _ (by omega)]; exact c1
 have k2 : opLoad E0 T 30 (.ref 1 0) = some (.agg [bv, gv]) := var_ld isAggO_30 tsize_30 d1 rfl
 have r1 := right_all (PArr.arr hl T) fl
 have r2 := right_all (PArr.arr hm T) fm
 cases q1 : rightL l with
 | false =>
  rw [q1] at r1
  repeat (first | refine WS.adm rfl ?_ | refine WS.region (by simp only [EV, TY, lget, hbx, hbx2, callV_8, la, lb, n1', n2', ↓reduceIte, Nat.reduceEqDiff]; with_reducible rfl) ?_)
  refine WS.cond_false (by simp only [EV, n1', n2', ↓reduceIte, Nat.reduceEqDiff]) ?_
  repeat (first | refine WS.adm rfl ?_ | refine WS.region (by simp only [EV, TY, lget, k0, callV_9, hN, eq33n, eq33r, ↓reduceIte, Nat.reduceEqDiff]; with_reducible rfl) ?_)
  refine WS.cf0 ?_
  repeat (first | refine WS.adm rfl ?_ | refine WS.region (by simp only [EV, TY, lget, callV_18, r1, r2, ↓reduceIte, Nat.reduceEqDiff]; with_reducible rfl) ?_)
  refine WS.ct0 ?_
  repeat (first | refine WS.adm rfl ?_ | refine WS.rl ?_)
  refine ret_bool (t := 8) rfl rfl List.nil_prefix rfl ?_
  simp only [EV, ↓reduceIte, Nat.reduceEqDiff, AT]
 | true =>
  rw [q1] at r1
  cases q2 : rightL m with
  | false =>
   rw [q2] at r2
   repeat (first | refine WS.adm rfl ?_ | refine WS.region (by simp only [EV, TY, lget, hbx, hbx2, callV_8, la, lb, n1', n2', ↓reduceIte, Nat.reduceEqDiff]; with_reducible rfl) ?_)
   refine WS.cond_false (by simp only [EV, n1', n2', ↓reduceIte, Nat.reduceEqDiff]) ?_
   repeat (first | refine WS.adm rfl ?_ | refine WS.region (by simp only [EV, TY, lget, k0, callV_9, hN, eq33n, eq33r, ↓reduceIte, Nat.reduceEqDiff]; with_reducible rfl) ?_)
   refine WS.cf0 ?_
   repeat (first | refine WS.adm rfl ?_ | refine WS.region (by simp only [EV, TY, lget, callV_18, r1, r2, ↓reduceIte, Nat.reduceEqDiff]; with_reducible rfl) ?_)
   refine WS.ct0 ?_
   repeat (first | refine WS.adm rfl ?_ | refine WS.rl ?_)
   refine ret_bool (t := 8) rfl rfl List.nil_prefix rfl ?_
   simp only [EV, ↓reduceIte, Nat.reduceEqDiff, AT]
  | true =>
   rw [q2] at r2
   obtain ⟨w, e1, e2⟩ := View_ok hsch hb hgr hl og fl on
   obtain ⟨w2, f1, f2⟩ := View_ok hsch hb hgr hm og fm om
   have fv : fitL (viewP s g l) := fit_viewP fl
   have fw : fitL (viewP s g m) := fit_viewP fm
   have lv := viewP_len s g l
   have lw := viewP_len s g m
   have uv := viewP_Unl s g l
   have uw := viewP_Unl s g m
   have hback := apply_diff uv uw (sortP_of (sortP_sorted _)) (keys_view q2)
   have hself := diff_self uv
   have hnone := apply_nothing (v := viewP s g l) (sortP_of (sortP_sorted _))
   generalize viewP s g l = A at e2 fv lv uv hback hself hnone
   generalize viewP s g m = B at f2 fw lw uw hback
   obtain ⟨g1, p1, x1, x2, x3⟩ := diff_ok (S := T) e2 f2 fv fw
   have s1 := var_al (E := E0) zeroV_43 T
   have s2 := var_st (E := E0) (e := 43) tsize_43 T (zs := [.slN, .slN]) (xs := [g1, p1]) rfl rfl
   have hA1 : (T ++ [Ob.cells [g1, p1] 43])[T.length]? = some (.cells [g1, p1] 43) := getS0 _
   have hlA : (T ++ [Ob.cells [g1, p1] 43]).length = T.length + 1 := by simp
   generalize hT1 : T ++ [Ob.cells [g1, p1] 43] = T1 at s2 hA1 hlA
   have l3 : opLoad E0 T1 43 (.ref T.length 0) = some (.agg [g1, p1]) := var_ld isAggO_43 tsize_43 hA1 rfl
   have hsum : A.length + (diffP A B).2.length ≤ 1048576 := by
    have h1 : (diffP A B).2.length ≤ B.length := List.length_filter_le _ _
    omega
   obtain ⟨y1, z1, z2⟩ := apply_ok (S := T1) e2 ⟨g1, p1, rfl, x2, x3⟩ fv (fit_diff fv fw) hsum
   rw [hback] at z2
   have t1 := Same_img_ok (PArr.arr z2 T1) (PArr.arr f2 T1) fw fw
   rw [decide_eq_true rfl] at t1
   obtain ⟨g2, p2, u1, u2, u3⟩ := diff_ok (S := T1) e2 e2 fv fv
   have s3 := var_al (E := E0) zeroV_43 T1
   have s4 := var_st (E := E0) (e := 43) tsize_43 T1 (zs := [.slN, .slN]) (xs := [g2, p2]) rfl rfl
   have hA2 : (T1 ++ [Ob.cells [g2, p2] 43])[T1.length]? = some (.cells [g2, p2] 43) := getS0 _
   generalize hT2 : T1 ++ [Ob.cells [g2, p2] 43] = T2 at s4 hA2
   have l4 : opLoad E0 T2 43 (.ref T1.length 0) = some (.agg [g2, p2]) := var_ld isAggO_43 tsize_43 hA2 rfl
   have l5 : opLoad E0 T2 41 (.ref T1.length 0) = some g2 := var_ld1 isAggO_41 hA2 rfl
   have l6 : opLoad E0 T2 31 (.ref T1.length 1) = some p2 := var_ld1 isAggO_31 hA2 rfl
   have fd2 := fit_diff fv fv
   rw [hself] at u2 u3 fd2
   have lg : opLen E0 T2 41 g2 = some (.int .i64 0) := (PArr.arr u2 T2).len (E := E0) Tryz.underlying41
   have lp : opLen E0 T2 31 p2 = some (.int .i64 0) := (PArr.arr u3 T2).len (E := E0) Tryz.underlying31
   have hz : ((0 : Int) == 0) = true := rfl
   obtain ⟨y2, v1, v2⟩ := apply_ok (S := T2) (d := ([], [])) e2 ⟨g2, p2, rfl, u2, u3⟩ fv fd2 (by have := fv.1; simpa using this)
   rw [hnone] at v2
   have t2 := Same_img_ok (PArr.arr v2 T2) (PArr.arr e2 T2) fv fv
   rw [decide_eq_true rfl] at t2
   repeat (first | refine WS.adm rfl ?_ | refine WS.region (by simp only [EV, TY, lget, hbx, hbx2, callV_8, la, lb, n1', n2', ↓reduceIte, Nat.reduceEqDiff]; with_reducible rfl) ?_)
   refine WS.cond_false (by simp only [EV, n1', n2', ↓reduceIte, Nat.reduceEqDiff]) ?_
   repeat (first | refine WS.adm rfl ?_ | refine WS.region (by simp only [EV, TY, lget, k0, callV_9, hN, eq33n, eq33r, ↓reduceIte, Nat.reduceEqDiff]; with_reducible rfl) ?_)
   refine WS.cf0 ?_
   repeat (first | refine WS.adm rfl ?_ | refine WS.region (by simp only [EV, TY, lget, callV_18, r1, r2, ↓reduceIte, Nat.reduceEqDiff]; with_reducible rfl) ?_)
   refine WS.cf0 ?_
   repeat (first | refine WS.adm rfl ?_ | refine WS.region (by simp only [EV, TY, lget, k2, callV_10, e1, f1, ↓reduceIte, Nat.reduceEqDiff]; with_reducible rfl) ?_)
   repeat (first | refine WS.adm rfl ?_ | refine WS.region (by simp only [EV, TY, lget, callV_13, x1, s1, s2, ↓reduceIte, Nat.reduceEqDiff]; with_reducible rfl) ?_)
   repeat (first | refine WS.adm rfl ?_ | refine WS.region (by simp only [EV, TY, lget, l3, callV_16, z1, callV_11, t1, ↓reduceIte, Nat.reduceEqDiff]; with_reducible rfl) ?_)
   repeat (first | refine WS.adm rfl ?_ | refine WS.region (by simp only [EV, TY, lget, callV_13, u1, s3, s4, ↓reduceIte, Nat.reduceEqDiff]; with_reducible rfl) ?_)
   repeat (first | refine WS.adm rfl ?_ | refine WS.region (by simp only [EV, TY, lget, l4, callV_16, v1, callV_11, t2, ↓reduceIte, Nat.reduceEqDiff]; with_reducible rfl) ?_)
   repeat (first | refine WS.adm rfl ?_ | refine WS.region (by simp only [EV, TY, lget, fa43_0, fa43_1, l5, l6, lg, lp, hz, ↓reduceIte, Nat.reduceEqDiff]; with_reducible rfl) ?_)
   refine ret_bool (t := 8) rfl rfl List.nil_prefix rfl ?_
   simp only [EV, ↓reduceIte, Nat.reduceEqDiff, AT]
end Go.Proofs.YtmmjlgocihhkcaaGreatDoor
namespace Go.Proofs.YtmmjlgocihhkcaaGreatDoor.changesBack
open Go Go.Vm Go.ChangeShapes Go.WideShapes Go.ChangeAt Go.RowKit
set_option maxRecDepth 100000
theorem lets (t : TypeId) (ht : t ∈ Tryz.f5.params.toList) : Tryz.prog.readableRec t = true ∧ t < Tryz.prog.types.size := by
 rw [Tryz.params5] at ht
 simp only [List.mem_cons, List.not_mem_nil, or_false] at ht
 rcases ht with rfl | rfl | rfl | rfl
 ·exact ⟨by kernel_rfl, of_decide_eq_true (by kernel_rfl)⟩
 ·exact ⟨by kernel_rfl, of_decide_eq_true (by kernel_rfl)⟩
 ·exact ⟨by kernel_rfl, of_decide_eq_true (by kernel_rfl)⟩
 ·exact ⟨by kernel_rfl, of_decide_eq_true (by kernel_rfl)⟩
theorem contract (H : Type) (enc : TypeId × Value → H) (W : World) (base : Nat) (args : Array Value) (ds gs : List (DataW H)) (before : List MemPlace)
  (hval : ∀ (j : Nat) t v, Tryz.f5.params[j]? = some t → args[j]? = some v → Value.okWide Tryz.prog W .any base t v)
  (hW : DataW.Whole enc Tryz.prog Tryz.f5.params.toList Rows.changesBackSpec.vars false W args.toList ds gs before) (hk : Rows.uptoSmall H (ds ++ gs) = true) :
  Calls Tryz.prog 5 args W fun e W' => ∃ v, e = .returned v ∧ Rows.changesBackSpec.post enc Tryz.prog Tryz.f5 false true false false W args v W' := by
 have hW' := hW
 obtain ⟨p, q, hA0, hV, rfl, hfz, hnd⟩ := hW
 have hA : DataW.TrodAll enc Tryz.prog W 0 (fun _ => true) true Tryz.f5.params.toList args.toList ds p := hA0
 rw [Tryz.params5] at hA hval
 obtain ⟨v0, vs0, d0, ds0, p0, q0, hargs, rfl, rfl, h0, r0⟩ := trodAll_cons hA
 obtain ⟨v1, vs1, d1, ds1, p1, q1, rfl, rfl, rfl, h1, r1⟩ := trodAll_cons r0
 obtain ⟨v2, vs2, d2, ds2, p2, q2, rfl, rfl, rfl, h2, r2⟩ := trodAll_cons r1
 obtain ⟨v3, vs3, d3, ds3, p3, q3, rfl, rfl, rfl, h3, r3⟩ := trodAll_cons r2
 obtain ⟨rfl, rfl, rfl⟩ := trodAll_nil r3
 obtain rfl : args = #[v0, v1, v2, v3] := by cases args; simp_all
 obtain ⟨rfl, rfl⟩ := trodVars_none hV
 have hb : Rows.uptoBulkAll [d0, d1, d2, d3] ≤ 1048576 := by
  have := of_decide_eq_true hk
  simpa using this
 simp only [Rows.uptoBulkAll, Rows.uptoBulk] at hb
 obtain ⟨u0, n0, hu0, hn0, hok0⟩ := open_sch (hval 0 25 v0 rfl rfl) h0 (fun x hx => by simpa using hW'.lt x (by simp [hx])) (by omega)
 obtain ⟨u1, n1, hu1, hn1, hok1⟩ := open_agr (hval 1 30 v1 rfl rfl) h1 (fun x hx => by simpa using hW'.lt x (by simp [hx])) (by omega)
 obtain ⟨u2, n2, hu2, hn2, hok2⟩ := open_imgn (hval 2 31 v2 rfl rfl) h2 (fun x hx => by simpa using hW'.lt x (by simp [hx])) (by omega)
 obtain ⟨u3, n3, hu3, hn3, hok3⟩ := open_imgn (hval 3 31 v3 rfl rfl) h3 (fun x hx => by simpa using hW'.lt x (by simp [hx])) (by omega)
 obtain ⟨k, hcall⟩ := vrun_some (law5_ok hn0 hn1 hn2 hn3 hok0 hok1 hok2 hok3)
 exact law_contract (callOk0 k) (fun _ => rfl) rfl laidOut lets rfl Tryz.underlying4 rfl rfl hW' (vs := [.agg u0, .agg u1, u2, u3]) ⟨_, _, rfl, hu0, ⟨_, _, rfl, hu1, ⟨_, _, rfl, hu2, ⟨_, _, rfl, hu3, rfl⟩⟩⟩⟩ hcall
noncomputable abbrev theWorld (os : Os) : World := World.laidAll Tryz.prog os Rows.changesBackUptoRow.laid
theorem laid_met (os : Os) : laidMet Tryz.prog Rows.changesBackUptoRow.laid ((theWorld os).forCall (fun _ _ => 0) ⟨#[], #[.agg #[.slice none 0 0, .slice none 0 0], .agg #[.slice none 0 0, .slice none 0 0], .slice none 0 0, .slice none 0 0], []⟩).memory :=
 laidMet_laidAll _ (by kernel_rfl) (by kernel_rfl)
theorem reads (os : Os) {H : Type} (enc : TypeId × Value → H) : ∃ places, DataW.whole enc Tryz.prog ((theWorld os).forCall (fun _ _ => 0) ⟨#[], #[.agg #[.slice none 0 0, .slice none 0 0], .agg #[.slice none 0 0, .slice none 0 0], .slice none 0 0, .slice none 0 0], []⟩).memory Tryz.f5.params.toList Rows.changesBackSpec.vars false #[Value.agg #[.slice none 0 0, .slice none 0 0], Value.agg #[.slice none 0 0, .slice none 0 0], Value.slice none 0 0, Value.slice none 0 0].toList 8 = some ([.agg [.nil, .nil], .agg [.nil, .nil], .nil, .nil], [], places) :=
 ⟨[], by kernel_rfl⟩
theorem liftedUpto (os : Os) (started : os.Started) (H : Type) (enc : TypeId × Value → H) (F : Stop.Interp) :
  ReturnsInHanded {} Tryz.checked os 5 .any ((Rows.OpenSpec.upto Rows.changesBackSpec).preRow enc Tryz.prog Tryz.f5 Rows.changesBackUptoRow.domain false Rows.changesBackUptoRow.laid) (((Rows.OpenSpec.upto Rows.changesBackSpec).at F).post enc Tryz.prog Tryz.f5 false true false false) := by
 obtain ⟨places, hx⟩ := reads os enc
 refine returnsInHanded_of_row (C := Tryz.checked) (s := Rows.OpenSpec.upto Rows.changesBackSpec) own started (by kernel_rfl) Tryz.func5
  (witness_row_at (enc := enc) (C := Tryz.checked) false (theWorld os) #[.agg #[.slice none 0 0, .slice none 0 0], .agg #[.slice none 0 0, .slice none 0 0], .slice none 0 0, .slice none 0 0] (World.laidAll_os _ _ _) (by kernel_rfl) (by kernel_rfl) (by kernel_rfl)
   (OpenSpec.preRow_of_cond 8 hx (by kernel_rfl) (fun k hk => by cases hk; kernel_rfl) (by kernel_rfl) (by first | exact laid_met os | (rw [MakeChecks.laidMetH_plain _ _ _ (by kernel_rfl)]; exact laid_met os)))) ?_
 intro W base args ds gs before hval hW _ hcond _ hL _ _
 exact contract H enc W base args ds gs before hval hW (hcond _ rfl)
theorem saidUpto : Rows.ChangesBackUptoSaid :=
 OpenClaim.holds_of_cond 5 Tryz.f5 rfl rfl rfl rfl rfl rfl rfl ⟨rfl, rfl, rfl, rfl, rfl⟩ rfl rfl rfl rfl rfl (by kernel_rfl) Tryz.func5 (by kernel_rfl)
  (of_decide_eq_true (by kernel_rfl)) (by unfold Func.isWrapper; first | (rw [if_pos (by decide +kernel)]; kernel_rfl) | (rw [if_neg (by decide +kernel)]; exact ⟨rfl, rfl⟩))
  (fun os started H enc _ F => by rw [OpenClaim.pre_eq_preRow]; exact liftedUpto os started H enc F)
theorem plain (f : FuncId) (fn : Func) (hf : Tryz.pinned.checked.prog.funcNamed "palatine/palatinelaw19.ChangesBack" = some f) (hfn : Tryz.pinned.checked.prog.funcs[f]? = some fn) :
  true = Tryz.pinned.checked.prog.looks [] ∧ ∀ (j : Nat) t, fn.params[j]? = some t → Tryz.pinned.checked.prog.wantsStandIn t = false := by
 obtain rfl : f = 5 := Option.some.inj ((show Tryz.prog.funcNamed "palatine/palatinelaw19.ChangesBack" = some 5 by kernel_rfl).symm.trans hf) |>.symm
 obtain rfl : fn = Tryz.f5 := (Option.some.inj (Tryz.func5.symm.trans hfn)).symm
 refine ⟨by kernel_rfl, fun j t ht => ?_⟩
 rw [Tryz.params5] at ht
 have hm := Array.mem_of_getElem? ht
 have hm' : t ∈ ([25, 30, 31, 31] : List TypeId) := by simpa using hm
 simp only [List.mem_cons, List.not_mem_nil, or_false] at hm'
 rcases hm' with rfl | rfl | rfl | rfl
 ·exact (show Tryz.prog.wantsStandIn 25 = false by kernel_rfl)
 ·exact (show Tryz.prog.wantsStandIn 30 = false by kernel_rfl)
 ·exact (show Tryz.prog.wantsStandIn 31 = false by kernel_rfl)
 ·exact (show Tryz.prog.wantsStandIn 31 = false by kernel_rfl)
theorem cardUpto : Rows.ChangesBackUptoCardSaid :=
 Claim7.holds_tied_plain_at .later [] _ _ _ _ saidUpto (fun _ h => by cases h) (by kernel_rfl) (fun _ h => by cases h) changesBackUpto_row_tie rfl ⟨rfl, rfl⟩ (by kernel_rfl) rfl plain (by kernel_rfl)
end Go.Proofs.YtmmjlgocihhkcaaGreatDoor.changesBack
