import Derived.Test.YtjcckafjopjdbaaDoorBase
import Derived.Test.YtjcckafjopjdbaaDoorVmE
import Derived.Test.YtjcckafjopjdbaaDoorPartD
set_option linter.all false
namespace Go.Proofs.YtjcckafjopjdbaaDoor
open Go Go.Vm
set_option maxRecDepth 100000
/-- Some of the chapter's examples: run. -/
theorem awake_ok : vcall E0 100 (.fn 9) [] [] = some (.bool true, []) := by kernel_rfl
theorem awake_run : vrun E0 (.fn 9) [] [] = some (.bool true, []) := vrun_at awake_ok
end Go.Proofs.YtjcckafjopjdbaaDoor
namespace Go.Proofs.YtjcckafjopjdbaaDoor
open Go Go.Vm
set_option maxRecDepth 100000
set_option maxHeartbeats 4000000
set_option linter.unusedSimpArgs false
set_option linter.unusedVariables false
theorem bin_beql {E : Env} (l : Bool) {t : TypeId} (ht : E.P.underlying t = some .bool) (a b : Bool) : opBin E l .eql t (.bool a) (.bool b) = some (.bool (a == b)) := by
  unfold opBin
  simp [eqOk, vEq, ht]
theorem bin_bneq {E : Env} (l : Bool) {t : TypeId} (ht : E.P.underlying t = some .bool) (a b : Bool) : opBin E l .neq t (.bool a) (.bool b) = some (.bool (!(a == b))) := by
  unfold opBin
  simp [eqOk, vEq, ht]
theorem beq4 (l a b : Bool) : opBin E0 l .eql 4 (.bool a) (.bool b) = some (.bool (a == b)) := bin_beql l Tryd.underlying4 a b
theorem bneq4 (l a b : Bool) : opBin E0 l .neq 4 (.bool a) (.bool b) = some (.bool (!(a == b))) := bin_bneq l Tryd.underlying4 a b
/-- DnReads: what any text names is as the document says. -/
theorem law3_ok (s : List UInt8) (hs : s.length ≤ 1048576) : vrun E0 (.fn 3) [.str s] [] = some (.bool true, []) := by
  refine fn_ws Tryd.func3 rfl ?_
  obtain ⟨v, hv, hvd⟩ := Parse_ok s [] hs
  obtain ⟨w, hw, hwd⟩ := refParse_ok s [] hs
  have hone := One_ok (hvd []) (hwd []) (parseN_ok s) (parseN_ok s)
  have haw := awake_run
  have hty := Type_ok s [] hs
  have hrt := refType_ok s [] hs
  have hself : (((parseN s).2 : Int) == (parseN s).2) = true := beq_self_eq_true _
  have hself2 : (typeB s == typeB s) = true := beq_self_eq_true _
  have hd : decide ((parseN s).1 = (parseN s).1) = true := decide_eq_true rfl
  rw [hd] at hone
  repeat (first | refine WS.seq ?_ | refine WS.skip ?_ | refine WS.label ?_ | refine WS.block ?_ | refine WS.inBlock ?_ | refine WS.exit rfl ?_ | refine WS.scope ?_ | refine WS.inScope ?_ | refine WS.region (by simp only [EV, TY, lget, callV_9, callV_10, callV_11, callV_12, callV_13, callV_14, haw, hv, hw, hone, hty, hrt, hself, beq4, hself2, ↓reduceIte, Nat.reduceEqDiff, decide_true, decide_false, eq_self]; with_reducible rfl) ?_)
  refine WS.ret1s (t := 2) rfl rfl (List.prefix_refl _) (frz_bool _ _ _) ?_
  simp only [EV, lget, ↓reduceIte, Nat.reduceEqDiff, decide_true, decide_false, eq_self, and_true, true_and, and_self]
end Go.Proofs.YtjcckafjopjdbaaDoor
