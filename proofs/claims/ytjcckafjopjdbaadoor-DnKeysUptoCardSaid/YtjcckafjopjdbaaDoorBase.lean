import Derived.Test.YtjcckafjopjdbaaDoorChecked
import Derived.Test.YtjcckafjopjdbaaDoorVmF
import Derived.KernelRfl
set_option linter.all false
namespace Go.Proofs.YtjcckafjopjdbaaDoor
open Go Go.Vm
set_option maxRecDepth 100000
set_option linter.defProp false
def rangesIn (nt : Nat) : Code → List (Nat × (Nat × Array Tmp × Code × Code))
  | .rangeFunc _ ps a b => [(Vm.keyOf b, (nt, ps, a, b))] | .seq a b => rangesIn nt a ++ rangesIn nt b | .cond _ a b => rangesIn nt a ++ rangesIn nt b
  | .block _ b | .loop b | .scope b => rangesIn nt b | _ => []
def rangesAt (P : Program) (f : Nat) : List (Nat × (Nat × Array Tmp × Code × Code)) := match P.funcs[f]? with | some fn => (match fn.body with | some c => rangesIn fn.ntmps c | none => []) | none => []
noncomputable def E0 : Env := { P := Tryd.prog, glob := fun _ => none, prim := fun _ => none, keep := fun f => [41,42,54,55,56,65,66,67,35,51,63,64,73,79].contains f, loops := fun k => if k = 4 then (rangesAt Tryd.prog 21).lookup 4 else none }
theorem E0_P : E0.P = Tryd.prog := rfl
theorem tsize_0 : tsize E0 0 = some 1 := by kernel_rfl
theorem tbytes_0 : tbytes E0 0 = some 0 := by kernel_rfl
theorem isAggO_0 : isAggO E0 0 = some false := by kernel_rfl
theorem tsize_3 : tsize E0 3 = some 1 := by kernel_rfl
theorem tbytes_3 : tbytes E0 3 = some 8 := by kernel_rfl
theorem isAggO_3 : isAggO E0 3 = some false := by kernel_rfl
theorem zeroV_3 : zeroV E0 3 = some (.int .i64 0) := by kernel_rfl
theorem tsize_4 : tsize E0 4 = some 1 := by kernel_rfl
theorem tbytes_4 : tbytes E0 4 = some 1 := by kernel_rfl
theorem isAggO_4 : isAggO E0 4 = some false := by kernel_rfl
theorem zeroV_4 : zeroV E0 4 = some (.bool false) := by kernel_rfl
theorem tsize_5 : tsize E0 5 = some 1 := by kernel_rfl
theorem tbytes_5 : tbytes E0 5 = some 1 := by kernel_rfl
theorem isAggO_5 : isAggO E0 5 = some false := by kernel_rfl
theorem zeroV_5 : zeroV E0 5 = some (.int .u8 0) := by kernel_rfl
theorem tsize_9 : tsize E0 9 = some 1 := by kernel_rfl
theorem tbytes_9 : tbytes E0 9 = some 16 := by kernel_rfl
theorem isAggO_9 : isAggO E0 9 = some false := by kernel_rfl
theorem zeroV_9 : zeroV E0 9 = some (.str []) := by kernel_rfl
theorem tsize_20 : tsize E0 20 = some 1 := by kernel_rfl
theorem tbytes_20 : tbytes E0 20 = some 16 := by kernel_rfl
theorem isAggO_20 : isAggO E0 20 = some false := by kernel_rfl
theorem zeroV_20 : zeroV E0 20 = some (.nili) := by kernel_rfl
theorem tsize_21 : tsize E0 21 = some 1 := by kernel_rfl
theorem tbytes_21 : tbytes E0 21 = some 4 := by kernel_rfl
theorem isAggO_21 : isAggO E0 21 = some false := by kernel_rfl
theorem zeroV_21 : zeroV E0 21 = some (.int .i32 0) := by kernel_rfl
theorem tsize_24 : tsize E0 24 = some 1 := by kernel_rfl
theorem tbytes_24 : tbytes E0 24 = some 24 := by kernel_rfl
theorem isAggO_24 : isAggO E0 24 = some false := by kernel_rfl
theorem elemT_24 : elemT E0 24 = some 38 := by kernel_rfl
theorem zeroV_24 : zeroV E0 24 = some (.slN) := by kernel_rfl
theorem tsize_25 : tsize E0 25 = some 1 := by kernel_rfl
theorem tbytes_25 : tbytes E0 25 = some 8 := by kernel_rfl
theorem isAggO_25 : isAggO E0 25 = some false := by kernel_rfl
theorem zeroV_25 : zeroV E0 25 = some (.int .i64 0) := by kernel_rfl
theorem tsize_26 : tsize E0 26 = some 1 := by kernel_rfl
theorem tbytes_26 : tbytes E0 26 = some 0 := by kernel_rfl
theorem isAggO_26 : isAggO E0 26 = some false := by kernel_rfl
theorem tsize_37 : tsize E0 37 = some 1 := by kernel_rfl
theorem tbytes_37 : tbytes E0 37 = some 24 := by kernel_rfl
theorem isAggO_37 : isAggO E0 37 = some false := by kernel_rfl
theorem elemT_37 : elemT E0 37 = some 40 := by kernel_rfl
theorem zeroV_37 : zeroV E0 37 = some (.slN) := by kernel_rfl
theorem tsize_38 : tsize E0 38 = some 1 := by kernel_rfl
theorem tbytes_38 : tbytes E0 38 = some 24 := by kernel_rfl
theorem isAggO_38 : isAggO E0 38 = some false := by kernel_rfl
theorem elemT_38 : elemT E0 38 = some 40 := by kernel_rfl
theorem zeroV_38 : zeroV E0 38 = some (.slN) := by kernel_rfl
theorem tsize_40 : tsize E0 40 = some 2 := by kernel_rfl
theorem tbytes_40 : tbytes E0 40 = some 32 := by kernel_rfl
theorem isAggO_40 : isAggO E0 40 = some true := by kernel_rfl
theorem zeroV_40 : zeroV E0 40 = some (.agg [.str [], .str []]) := by kernel_rfl
theorem tsize_42 : tsize E0 42 = some 1 := by kernel_rfl
theorem tbytes_42 : tbytes E0 42 = some 0 := by kernel_rfl
theorem isAggO_42 : isAggO E0 42 = some false := by kernel_rfl
theorem tsize_44 : tsize E0 44 = some 1 := by kernel_rfl
theorem tbytes_44 : tbytes E0 44 = some 0 := by kernel_rfl
theorem isAggO_44 : isAggO E0 44 = some false := by kernel_rfl
theorem tsize_49 : tsize E0 49 = some 1 := by kernel_rfl
theorem tbytes_49 : tbytes E0 49 = some 8 := by kernel_rfl
theorem isAggO_49 : isAggO E0 49 = some false := by kernel_rfl
theorem zeroV_49 : zeroV E0 49 = some (.nilf) := by kernel_rfl
theorem tsize_50 : tsize E0 50 = some 1 := by kernel_rfl
theorem tbytes_50 : tbytes E0 50 = some 24 := by kernel_rfl
theorem isAggO_50 : isAggO E0 50 = some false := by kernel_rfl
theorem elemT_50 : elemT E0 50 = some 5 := by kernel_rfl
theorem zeroV_50 : zeroV E0 50 = some (.slN) := by kernel_rfl
theorem tsize_51 : tsize E0 51 = some 1 := by kernel_rfl
theorem tbytes_51 : tbytes E0 51 = some 24 := by kernel_rfl
theorem isAggO_51 : isAggO E0 51 = some false := by kernel_rfl
theorem elemT_51 : elemT E0 51 = some 9 := by kernel_rfl
theorem zeroV_51 : zeroV E0 51 = some (.slN) := by kernel_rfl
theorem tsize_55 : tsize E0 55 = some 1 := by kernel_rfl
theorem tbytes_55 : tbytes E0 55 = some 8 := by kernel_rfl
theorem isAggO_55 : isAggO E0 55 = some false := by kernel_rfl
theorem zeroV_55 : zeroV E0 55 = some (.nilf) := by kernel_rfl
theorem tsize_58 : tsize E0 58 = some 1 := by kernel_rfl
theorem tbytes_58 : tbytes E0 58 = some 8 := by kernel_rfl
theorem isAggO_58 : isAggO E0 58 = some false := by kernel_rfl
theorem zeroV_58 : zeroV E0 58 = some (.nilp) := by kernel_rfl
theorem tsize_60 : tsize E0 60 = some 2 := by kernel_rfl
theorem tbytes_60 : tbytes E0 60 = some 32 := by kernel_rfl
theorem isAggO_60 : isAggO E0 60 = some true := by kernel_rfl
theorem zeroV_60 : zeroV E0 60 = some (.agg [.nilp, .slN]) := by kernel_rfl
theorem tsize_61 : tsize E0 61 = some 1 := by kernel_rfl
theorem tbytes_61 : tbytes E0 61 = some 8 := by kernel_rfl
theorem isAggO_61 : isAggO E0 61 = some false := by kernel_rfl
theorem zeroV_61 : zeroV E0 61 = some (.nilf) := by kernel_rfl
theorem tsize_62 : tsize E0 62 = some 1 := by kernel_rfl
theorem tbytes_62 : tbytes E0 62 = some 8 := by kernel_rfl
theorem isAggO_62 : isAggO E0 62 = some false := by kernel_rfl
theorem zeroV_62 : zeroV E0 62 = some (.nilf) := by kernel_rfl
theorem tsize_65 : tsize E0 65 = some 1 := by kernel_rfl
theorem tbytes_65 : tbytes E0 65 = some 16 := by kernel_rfl
theorem isAggO_65 : isAggO E0 65 = some false := by kernel_rfl
theorem zeroV_65 : zeroV E0 65 = some (.nili) := by kernel_rfl
theorem tsize_66 : tsize E0 66 = some 1 := by kernel_rfl
theorem tbytes_66 : tbytes E0 66 = some 0 := by kernel_rfl
theorem isAggO_66 : isAggO E0 66 = some false := by kernel_rfl
theorem tsize_69 : tsize E0 69 = some 1 := by kernel_rfl
theorem tbytes_69 : tbytes E0 69 = some 0 := by kernel_rfl
theorem isAggO_69 : isAggO E0 69 = some false := by kernel_rfl
theorem tsize_72 : tsize E0 72 = some 1 := by kernel_rfl
theorem tbytes_72 : tbytes E0 72 = some 8 := by kernel_rfl
theorem isAggO_72 : isAggO E0 72 = some false := by kernel_rfl
theorem zeroV_72 : zeroV E0 72 = some (.nilf) := by kernel_rfl
theorem tsize_77 : tsize E0 77 = some 1 := by kernel_rfl
theorem tbytes_77 : tbytes E0 77 = some 8 := by kernel_rfl
theorem isAggO_77 : isAggO E0 77 = some false := by kernel_rfl
theorem zeroV_77 : zeroV E0 77 = some (.nilf) := by kernel_rfl
theorem tsize_78 : tsize E0 78 = some 1 := by kernel_rfl
theorem tbytes_78 : tbytes E0 78 = some 8 := by kernel_rfl
theorem isAggO_78 : isAggO E0 78 = some false := by kernel_rfl
theorem zeroV_78 : zeroV E0 78 = some (.nilp) := by kernel_rfl
theorem tsize_79 : tsize E0 79 = some 1 := by kernel_rfl
theorem tbytes_79 : tbytes E0 79 = some 8 := by kernel_rfl
theorem isAggO_79 : isAggO E0 79 = some false := by kernel_rfl
theorem zeroV_79 : zeroV E0 79 = some (.int .u64 0) := by kernel_rfl
theorem tsize_86 : tsize E0 86 = some 1 := by kernel_rfl
theorem tbytes_86 : tbytes E0 86 = some 8 := by kernel_rfl
theorem isAggO_86 : isAggO E0 86 = some false := by kernel_rfl
theorem zeroV_86 : zeroV E0 86 = some (.nilp) := by kernel_rfl
theorem tsize_89 : tsize E0 89 = some 1 := by kernel_rfl
theorem tbytes_89 : tbytes E0 89 = some 0 := by kernel_rfl
theorem isAggO_89 : isAggO E0 89 = some false := by kernel_rfl
theorem tsize_93 : tsize E0 93 = some 256 := by kernel_rfl
theorem tbytes_93 : tbytes E0 93 = some 256 := by kernel_rfl
theorem isAggO_93 : isAggO E0 93 = some true := by kernel_rfl
theorem zeroV_93 : zeroV E0 93 = some (.agg [.int .u8 0, .int .u8 0, .int .u8 0, .int .u8 0, .int .u8 0, .int .u8 0, .int .u8 0, .int .u8 0, .int .u8 0, .int .u8 0, .int .u8 0, .int .u8 0, .int .u8 0, .int .u8 0, .int .u8 0, .int .u8 0, .int .u8 0, .int .u8 0, .int .u8 0, .int .u8 0, .int .u8 0, .int .u8 0, .int .u8 0, .int .u8 0, .int .u8 0, .int .u8 0, .int .u8 0, .int .u8 0, .int .u8 0, .int .u8 0, .int .u8 0, .int .u8 0, .int .u8 0, .int .u8 0, .int .u8 0, .int .u8 0, .int .u8 0, .int .u8 0, .int .u8 0, .int .u8 0, .int .u8 0, .int .u8 0, .int .u8 0, .int .u8 0, .int .u8 0, .int .u8 0, .int .u8 0, .int .u8 0, .int .u8 0, .int .u8 0, .int .u8 0, .int .u8 0, .int .u8 0, .int .u8 0, .int .u8 0, .int .u8 0, .int .u8 0, .int .u8 0, .int .u8 0, .int .u8 0, .int .u8 0, .int .u8 0, .int .u8 0, .int .u8 0, .int .u8 0, .int .u8 0, .int .u8 0, .int .u8 0, .int .u8 0, .int .u8 0, .int .u8 0, .int .u8 0, .int .u8 0, .int .u8 0, .int .u8 0, .int .u8 0, .int .u8 0, .int .u8 0, .int .u8 0, .int .u8 0, .int .u8 0, .int .u8 0, .int .u8 0, .int .u8 0, .int .u8 0, .int .u8 0, .int .u8 0, .int .u8 0, .int .u8 0, .int .u8 0, .int .u8 0, .int .u8 0, .int .u8 0, .int .u8 0, .int .u8 0, .int .u8 0, .int .u8 0, .int .u8 0, .int .u8 0, .int .u8 0, .int .u8 0, .int .u8 0, .int .u8 0, .int .u8 0, .int .u8 0, .int .u8 0, .int .u8 0, .int .u8 0, .int .u8 0, .int .u8 0, .int .u8 0, .int .u8 0, .int .u8 0, .int .u8 0, .int .u8 0, .int .u8 0, .int .u8 0, .int .u8 0, .int .u8 0, .int .u8 0, .int .u8 0, .int .u8 0, .int .u8 0, .int .u8 0, .int .u8 0, .int .u8 0, .int .u8 0, .int .u8 0, .int .u8 0, .int .u8 0, .int .u8 0, .int .u8 0, .int .u8 0, .int .u8 0, .int .u8 0, .int .u8 0, .int .u8 0, .int .u8 0, .int .u8 0, .int .u8 0, .int .u8 0, .int .u8 0, .int .u8 0, .int .u8 0, .int .u8 0, .int .u8 0, .int .u8 0, .int .u8 0, .int .u8 0, .int .u8 0, .int .u8 0, .int .u8 0, .int .u8 0, .int .u8 0, .int .u8 0, .int .u8 0, .int .u8 0, .int .u8 0, .int .u8 0, .int .u8 0, .int .u8 0, .int .u8 0, .int .u8 0, .int .u8 0, .int .u8 0, .int .u8 0, .int .u8 0, .int .u8 0, .int .u8 0, .int .u8 0, .int .u8 0, .int .u8 0, .int .u8 0, .int .u8 0, .int .u8 0, .int .u8 0, .int .u8 0, .int .u8 0, .int .u8 0, .int .u8 0, .int .u8 0, .int .u8 0, .int .u8 0, .int .u8 0, .int .u8 0, .int .u8 0, .int .u8 0, .int .u8 0, .int .u8 0, .int .u8 0, .int .u8 0, .int .u8 0, .int .u8 0, .int .u8 0, .int .u8 0, .int .u8 0, .int .u8 0, .int .u8 0, .int .u8 0, .int .u8 0, .int .u8 0, .int .u8 0, .int .u8 0, .int .u8 0, .int .u8 0, .int .u8 0, .int .u8 0, .int .u8 0, .int .u8 0, .int .u8 0, .int .u8 0, .int .u8 0, .int .u8 0, .int .u8 0, .int .u8 0, .int .u8 0, .int .u8 0, .int .u8 0, .int .u8 0, .int .u8 0, .int .u8 0, .int .u8 0, .int .u8 0, .int .u8 0, .int .u8 0, .int .u8 0, .int .u8 0, .int .u8 0, .int .u8 0, .int .u8 0, .int .u8 0, .int .u8 0, .int .u8 0, .int .u8 0, .int .u8 0, .int .u8 0, .int .u8 0, .int .u8 0, .int .u8 0, .int .u8 0, .int .u8 0, .int .u8 0, .int .u8 0, .int .u8 0, .int .u8 0, .int .u8 0, .int .u8 0, .int .u8 0, .int .u8 0, .int .u8 0, .int .u8 0, .int .u8 0, .int .u8 0, .int .u8 0, .int .u8 0, .int .u8 0]) := by kernel_rfl
theorem tsize_95 : tsize E0 95 = some 2 := by kernel_rfl
theorem tbytes_95 : tbytes E0 95 = some 2 := by kernel_rfl
theorem isAggO_95 : isAggO E0 95 = some true := by kernel_rfl
theorem zeroV_95 : zeroV E0 95 = some (.agg [.int .u8 0, .int .u8 0]) := by kernel_rfl
theorem tsize_96 : tsize E0 96 = some 32 := by kernel_rfl
theorem tbytes_96 : tbytes E0 96 = some 32 := by kernel_rfl
theorem isAggO_96 : isAggO E0 96 = some true := by kernel_rfl
theorem zeroV_96 : zeroV E0 96 = some (.agg [.int .u8 0, .int .u8 0, .int .u8 0, .int .u8 0, .int .u8 0, .int .u8 0, .int .u8 0, .int .u8 0, .int .u8 0, .int .u8 0, .int .u8 0, .int .u8 0, .int .u8 0, .int .u8 0, .int .u8 0, .int .u8 0, .int .u8 0, .int .u8 0, .int .u8 0, .int .u8 0, .int .u8 0, .int .u8 0, .int .u8 0, .int .u8 0, .int .u8 0, .int .u8 0, .int .u8 0, .int .u8 0, .int .u8 0, .int .u8 0, .int .u8 0, .int .u8 0]) := by kernel_rfl
theorem tsize_97 : tsize E0 97 = some 1 := by kernel_rfl
theorem tbytes_97 : tbytes E0 97 = some 4 := by kernel_rfl
theorem isAggO_97 : isAggO E0 97 = some false := by kernel_rfl
theorem zeroV_97 : zeroV E0 97 = some (.int .u32 0) := by kernel_rfl
theorem tsize_98 : tsize E0 98 = some 1 := by kernel_rfl
theorem tbytes_98 : tbytes E0 98 = some 0 := by kernel_rfl
theorem isAggO_98 : isAggO E0 98 = some false := by kernel_rfl
theorem callV_9 (c : CallT) (a b args : List V) (S : Store) : callV E0 c (.fn (.func 9) a b) args S = c (.fn 9) (a ++ args ++ b) S := by kernel_rfl
theorem callV_10 (c : CallT) (a b args : List V) (S : Store) : callV E0 c (.fn (.func 10) a b) args S = c (.fn 10) (a ++ args ++ b) S := by kernel_rfl
theorem callV_11 (c : CallT) (a b args : List V) (S : Store) : callV E0 c (.fn (.func 11) a b) args S = c (.fn 11) (a ++ args ++ b) S := by kernel_rfl
theorem callV_12 (c : CallT) (a b args : List V) (S : Store) : callV E0 c (.fn (.func 12) a b) args S = c (.fn 12) (a ++ args ++ b) S := by kernel_rfl
theorem callV_13 (c : CallT) (a b args : List V) (S : Store) : callV E0 c (.fn (.func 13) a b) args S = c (.fn 13) (a ++ args ++ b) S := by kernel_rfl
theorem callV_14 (c : CallT) (a b args : List V) (S : Store) : callV E0 c (.fn (.func 14) a b) args S = c (.fn 14) (a ++ args ++ b) S := by kernel_rfl
theorem callV_15 (c : CallT) (a b args : List V) (S : Store) : callV E0 c (.fn (.func 15) a b) args S = c (.fn 15) (a ++ args ++ b) S := by kernel_rfl
theorem callV_16 (c : CallT) (a b args : List V) (S : Store) : callV E0 c (.fn (.func 16) a b) args S = c (.fn 16) (a ++ args ++ b) S := by kernel_rfl
theorem callV_17 (c : CallT) (a b args : List V) (S : Store) : callV E0 c (.fn (.func 17) a b) args S = c (.fn 17) (a ++ args ++ b) S := by kernel_rfl
theorem callV_18 (c : CallT) (a b args : List V) (S : Store) : callV E0 c (.fn (.func 18) a b) args S = c (.fn 18) (a ++ args ++ b) S := by kernel_rfl
theorem callV_19 (c : CallT) (a b args : List V) (S : Store) : callV E0 c (.fn (.func 19) a b) args S = c (.fn 19) (a ++ args ++ b) S := by kernel_rfl
theorem callV_20 (c : CallT) (a b args : List V) (S : Store) : callV E0 c (.fn (.func 20) a b) args S = c (.fn 20) (a ++ args ++ b) S := by kernel_rfl
theorem callV_21 (c : CallT) (a b args : List V) (S : Store) : callV E0 c (.fn (.func 21) a b) args S = c (.fn 21) (a ++ args ++ b) S := by kernel_rfl
theorem callV_22 (c : CallT) (a b args : List V) (S : Store) : callV E0 c (.fn (.func 22) a b) args S = c (.fn 22) (a ++ args ++ b) S := by kernel_rfl
theorem callV_23 (c : CallT) (a b args : List V) (S : Store) : callV E0 c (.fn (.func 23) a b) args S = c (.fn 23) (a ++ args ++ b) S := by kernel_rfl
theorem callV_24 (c : CallT) (a b args : List V) (S : Store) : callV E0 c (.fn (.func 24) a b) args S = c (.fn 24) (a ++ args ++ b) S := by kernel_rfl
theorem callV_25 (c : CallT) (a b args : List V) (S : Store) : callV E0 c (.fn (.func 25) a b) args S = c (.fn 25) (a ++ args ++ b) S := by kernel_rfl
theorem callV_26 (c : CallT) (a b args : List V) (S : Store) : callV E0 c (.fn (.func 26) a b) args S = c (.fn 26) (a ++ args ++ b) S := by kernel_rfl
theorem callV_27 (c : CallT) (a b args : List V) (S : Store) : callV E0 c (.fn (.func 27) a b) args S = c (.fn 27) (a ++ args ++ b) S := by kernel_rfl
theorem callV_28 (c : CallT) (a b args : List V) (S : Store) : callV E0 c (.fn (.func 28) a b) args S = c (.fn 28) (a ++ args ++ b) S := by kernel_rfl
theorem callV_29 (c : CallT) (a b args : List V) (S : Store) : callV E0 c (.fn (.func 29) a b) args S = c (.fn 29) (a ++ args ++ b) S := by kernel_rfl
theorem callV_30 (c : CallT) (a b args : List V) (S : Store) : callV E0 c (.fn (.func 30) a b) args S = c (.fn 30) (a ++ args ++ b) S := by kernel_rfl
theorem callV_32 (c : CallT) (a b args : List V) (S : Store) : callV E0 c (.fn (.func 32) a b) args S = c (.fn 32) (a ++ args ++ b) S := by kernel_rfl
theorem callV_33 (c : CallT) (a b args : List V) (S : Store) : callV E0 c (.fn (.func 33) a b) args S = c (.fn 33) (a ++ args ++ b) S := by kernel_rfl
theorem callV_34 (c : CallT) (a b args : List V) (S : Store) : callV E0 c (.fn (.func 34) a b) args S = c (.fn 34) (a ++ args ++ b) S := by kernel_rfl
theorem callV_35 (c : CallT) (a b args : List V) (S : Store) : callV E0 c (.fn (.func 35) a b) args S = c (.fn 35) (a ++ args ++ b) S := by kernel_rfl
theorem callV_37 (c : CallT) (a b args : List V) (S : Store) : callV E0 c (.fn (.func 37) a b) args S = c (.fn 37) (a ++ args ++ b) S := by kernel_rfl
theorem callV_38 (c : CallT) (a b args : List V) (S : Store) : callV E0 c (.fn (.func 38) a b) args S = c (.fn 38) (a ++ args ++ b) S := by kernel_rfl
theorem callV_39 (c : CallT) (a b args : List V) (S : Store) : callV E0 c (.fn (.func 39) a b) args S = c (.fn 39) (a ++ args ++ b) S := by kernel_rfl
theorem callV_40 (c : CallT) (a b args : List V) (S : Store) : callV E0 c (.fn (.func 40) a b) args S = c (.fn 40) (a ++ args ++ b) S := by kernel_rfl
theorem callV_41 (c : CallT) (a b args : List V) (S : Store) : callV E0 c (.fn (.func 41) a b) args S = c (.fn 41) (a ++ args ++ b) S := by kernel_rfl
theorem callV_42 (c : CallT) (a b args : List V) (S : Store) : callV E0 c (.fn (.func 42) a b) args S = c (.fn 42) (a ++ args ++ b) S := by kernel_rfl
theorem callV_43 (c : CallT) (a b args : List V) (S : Store) : callV E0 c (.fn (.func 43) a b) args S = c (.fn 43) (a ++ args ++ b) S := by kernel_rfl
theorem callV_44 (c : CallT) (a b args : List V) (S : Store) : callV E0 c (.fn (.func 44) a b) args S = c (.fn 44) (a ++ args ++ b) S := by kernel_rfl
theorem callV_45 (c : CallT) (a b args : List V) (S : Store) : callV E0 c (.fn (.func 45) a b) args S = c (.fn 45) (a ++ args ++ b) S := by kernel_rfl
theorem callV_46 (c : CallT) (a b args : List V) (S : Store) : callV E0 c (.fn (.func 46) a b) args S = c (.fn 46) (a ++ args ++ b) S := by kernel_rfl
theorem callV_47 (c : CallT) (a b args : List V) (S : Store) : callV E0 c (.fn (.func 47) a b) args S = c (.fn 47) (a ++ args ++ b) S := by kernel_rfl
theorem callV_48 (c : CallT) (a b args : List V) (S : Store) : callV E0 c (.fn (.func 48) a b) args S = c (.fn 48) (a ++ args ++ b) S := by kernel_rfl
theorem callV_49 (c : CallT) (a b args : List V) (S : Store) : callV E0 c (.fn (.func 49) a b) args S = c (.fn 49) (a ++ args ++ b) S := by kernel_rfl
theorem callV_50 (c : CallT) (a b args : List V) (S : Store) : callV E0 c (.fn (.func 50) a b) args S = c (.fn 50) (a ++ args ++ b) S := by kernel_rfl
theorem callV_51 (c : CallT) (a b args : List V) (S : Store) : callV E0 c (.fn (.func 51) a b) args S = c (.fn 51) (a ++ args ++ b) S := by kernel_rfl
theorem callV_52 (c : CallT) (a b args : List V) (S : Store) : callV E0 c (.fn (.func 52) a b) args S = c (.fn 52) (a ++ args ++ b) S := by kernel_rfl
theorem callV_53 (c : CallT) (a b args : List V) (S : Store) : callV E0 c (.fn (.func 53) a b) args S = c (.fn 53) (a ++ args ++ b) S := by kernel_rfl
theorem callV_54 (c : CallT) (a b args : List V) (S : Store) : callV E0 c (.fn (.func 54) a b) args S = c (.fn 54) (a ++ args ++ b) S := by kernel_rfl
theorem callV_55 (c : CallT) (a b args : List V) (S : Store) : callV E0 c (.fn (.func 55) a b) args S = c (.fn 55) (a ++ args ++ b) S := by kernel_rfl
theorem callV_56 (c : CallT) (a b args : List V) (S : Store) : callV E0 c (.fn (.func 56) a b) args S = c (.fn 56) (a ++ args ++ b) S := by kernel_rfl
theorem callV_58 (c : CallT) (a b args : List V) (S : Store) : callV E0 c (.fn (.func 58) a b) args S = c (.fn 58) (a ++ args ++ b) S := by kernel_rfl
theorem callV_59 (c : CallT) (a b args : List V) (S : Store) : callV E0 c (.fn (.func 59) a b) args S = c (.fn 59) (a ++ args ++ b) S := by kernel_rfl
theorem callV_60 (c : CallT) (a b args : List V) (S : Store) : callV E0 c (.fn (.func 60) a b) args S = c (.fn 60) (a ++ args ++ b) S := by kernel_rfl
theorem callV_61 (c : CallT) (a b args : List V) (S : Store) : callV E0 c (.fn (.func 61) a b) args S = c (.fn 61) (a ++ args ++ b) S := by kernel_rfl
theorem callV_62 (c : CallT) (a b args : List V) (S : Store) : callV E0 c (.fn (.func 62) a b) args S = c (.fn 62) (a ++ args ++ b) S := by kernel_rfl
theorem callV_63 (c : CallT) (a b args : List V) (S : Store) : callV E0 c (.fn (.func 63) a b) args S = c (.fn 63) (a ++ args ++ b) S := by kernel_rfl
theorem callV_64 (c : CallT) (a b args : List V) (S : Store) : callV E0 c (.fn (.func 64) a b) args S = c (.fn 64) (a ++ args ++ b) S := by kernel_rfl
theorem callV_65 (c : CallT) (a b args : List V) (S : Store) : callV E0 c (.fn (.func 65) a b) args S = c (.fn 65) (a ++ args ++ b) S := by kernel_rfl
theorem callV_66 (c : CallT) (a b args : List V) (S : Store) : callV E0 c (.fn (.func 66) a b) args S = c (.fn 66) (a ++ args ++ b) S := by kernel_rfl
theorem callV_67 (c : CallT) (a b args : List V) (S : Store) : callV E0 c (.fn (.func 67) a b) args S = c (.fn 67) (a ++ args ++ b) S := by kernel_rfl
theorem callV_69 (c : CallT) (a b args : List V) (S : Store) : callV E0 c (.fn (.func 69) a b) args S = c (.fn 69) (a ++ args ++ b) S := by kernel_rfl
theorem callV_70 (c : CallT) (a b args : List V) (S : Store) : callV E0 c (.fn (.func 70) a b) args S = c (.fn 70) (a ++ args ++ b) S := by kernel_rfl
theorem callV_72 (c : CallT) (a b args : List V) (S : Store) : callV E0 c (.fn (.func 72) a b) args S = c (.fn 72) (a ++ args ++ b) S := by kernel_rfl
theorem callV_73 (c : CallT) (a b args : List V) (S : Store) : callV E0 c (.fn (.func 73) a b) args S = c (.fn 73) (a ++ args ++ b) S := by kernel_rfl
theorem callV_75 (c : CallT) (a b args : List V) (S : Store) : callV E0 c (.fn (.func 75) a b) args S = c (.fn 75) (a ++ args ++ b) S := by kernel_rfl
theorem callV_77 (c : CallT) (a b args : List V) (S : Store) : callV E0 c (.fn (.func 77) a b) args S = c (.fn 77) (a ++ args ++ b) S := by kernel_rfl
theorem callV_78 (c : CallT) (a b args : List V) (S : Store) : callV E0 c (.fn (.func 78) a b) args S = c (.fn 78) (a ++ args ++ b) S := by kernel_rfl
theorem callV_79 (c : CallT) (a b args : List V) (S : Store) : callV E0 c (.fn (.func 79) a b) args S = c (.fn 79) (a ++ args ++ b) S := by kernel_rfl
theorem callV_80 (c : CallT) (a b args : List V) (S : Store) : callV E0 c (.fn (.func 80) a b) args S = c (.fn 80) (a ++ args ++ b) S := by kernel_rfl
theorem ia_slR_24 : type_of% (@ia_slR E0 24 38 1 Tryd.underlying24 tsize_38) := @ia_slR E0 24 38 1 Tryd.underlying24 tsize_38
theorem ia_slI_24 : type_of% (@ia_slI E0 24 38 1 Tryd.underlying24 tsize_38) := @ia_slI E0 24 38 1 Tryd.underlying24 tsize_38
theorem len_slN_24 : type_of% (fun S => @len_slN E0 S 24 38 Tryd.underlying24) := fun S => @len_slN E0 S 24 38 Tryd.underlying24
theorem len_slI_24 : type_of% (fun S => @len_slI E0 S 24 38 Tryd.underlying24) := fun S => @len_slI E0 S 24 38 Tryd.underlying24
theorem len_slR_24 : type_of% (fun S => @len_slR E0 S 24 38 Tryd.underlying24) := fun S => @len_slR E0 S 24 38 Tryd.underlying24
theorem ia_slR_37 : type_of% (@ia_slR E0 37 40 2 Tryd.underlying37 tsize_40) := @ia_slR E0 37 40 2 Tryd.underlying37 tsize_40
theorem ia_slI_37 : type_of% (@ia_slI E0 37 40 2 Tryd.underlying37 tsize_40) := @ia_slI E0 37 40 2 Tryd.underlying37 tsize_40
theorem len_slN_37 : type_of% (fun S => @len_slN E0 S 37 40 Tryd.underlying37) := fun S => @len_slN E0 S 37 40 Tryd.underlying37
theorem len_slI_37 : type_of% (fun S => @len_slI E0 S 37 40 Tryd.underlying37) := fun S => @len_slI E0 S 37 40 Tryd.underlying37
theorem len_slR_37 : type_of% (fun S => @len_slR E0 S 37 40 Tryd.underlying37) := fun S => @len_slR E0 S 37 40 Tryd.underlying37
theorem ia_slR_38 : type_of% (@ia_slR E0 38 40 2 Tryd.underlying38 tsize_40) := @ia_slR E0 38 40 2 Tryd.underlying38 tsize_40
theorem ia_slI_38 : type_of% (@ia_slI E0 38 40 2 Tryd.underlying38 tsize_40) := @ia_slI E0 38 40 2 Tryd.underlying38 tsize_40
theorem len_slN_38 : type_of% (fun S => @len_slN E0 S 38 40 Tryd.underlying38) := fun S => @len_slN E0 S 38 40 Tryd.underlying38
theorem len_slI_38 : type_of% (fun S => @len_slI E0 S 38 40 Tryd.underlying38) := fun S => @len_slI E0 S 38 40 Tryd.underlying38
theorem len_slR_38 : type_of% (fun S => @len_slR E0 S 38 40 Tryd.underlying38) := fun S => @len_slR E0 S 38 40 Tryd.underlying38
theorem ia_slR_50 : type_of% (@ia_slR E0 50 5 1 Tryd.underlying50 tsize_5) := @ia_slR E0 50 5 1 Tryd.underlying50 tsize_5
theorem ia_slI_50 : type_of% (@ia_slI E0 50 5 1 Tryd.underlying50 tsize_5) := @ia_slI E0 50 5 1 Tryd.underlying50 tsize_5
theorem len_slN_50 : type_of% (fun S => @len_slN E0 S 50 5 Tryd.underlying50) := fun S => @len_slN E0 S 50 5 Tryd.underlying50
theorem len_slI_50 : type_of% (fun S => @len_slI E0 S 50 5 Tryd.underlying50) := fun S => @len_slI E0 S 50 5 Tryd.underlying50
theorem len_slR_50 : type_of% (fun S => @len_slR E0 S 50 5 Tryd.underlying50) := fun S => @len_slR E0 S 50 5 Tryd.underlying50
theorem ia_slR_51 : type_of% (@ia_slR E0 51 9 1 Tryd.underlying51 tsize_9) := @ia_slR E0 51 9 1 Tryd.underlying51 tsize_9
theorem ia_slI_51 : type_of% (@ia_slI E0 51 9 1 Tryd.underlying51 tsize_9) := @ia_slI E0 51 9 1 Tryd.underlying51 tsize_9
theorem len_slN_51 : type_of% (fun S => @len_slN E0 S 51 9 Tryd.underlying51) := fun S => @len_slN E0 S 51 9 Tryd.underlying51
theorem len_slI_51 : type_of% (fun S => @len_slI E0 S 51 9 Tryd.underlying51) := fun S => @len_slI E0 S 51 9 Tryd.underlying51
theorem len_slR_51 : type_of% (fun S => @len_slR E0 S 51 9 Tryd.underlying51) := fun S => @len_slR E0 S 51 9 Tryd.underlying51
theorem ld_ref_0 : type_of% (fun S => @ld_ref E0 S 0 isAggO_0) := fun S => @ld_ref E0 S 0 isAggO_0
theorem ld_imm_0 : type_of% (fun S => @ld_imm E0 S 0 isAggO_0) := fun S => @ld_imm E0 S 0 isAggO_0
theorem ld_ref_3 : type_of% (fun S => @ld_ref E0 S 3 isAggO_3) := fun S => @ld_ref E0 S 3 isAggO_3
theorem ld_imm_3 : type_of% (fun S => @ld_imm E0 S 3 isAggO_3) := fun S => @ld_imm E0 S 3 isAggO_3
theorem ld_ref_4 : type_of% (fun S => @ld_ref E0 S 4 isAggO_4) := fun S => @ld_ref E0 S 4 isAggO_4
theorem ld_imm_4 : type_of% (fun S => @ld_imm E0 S 4 isAggO_4) := fun S => @ld_imm E0 S 4 isAggO_4
theorem ld_ref_5 : type_of% (fun S => @ld_ref E0 S 5 isAggO_5) := fun S => @ld_ref E0 S 5 isAggO_5
theorem ld_imm_5 : type_of% (fun S => @ld_imm E0 S 5 isAggO_5) := fun S => @ld_imm E0 S 5 isAggO_5
theorem ld_ref_9 : type_of% (fun S => @ld_ref E0 S 9 isAggO_9) := fun S => @ld_ref E0 S 9 isAggO_9
theorem ld_imm_9 : type_of% (fun S => @ld_imm E0 S 9 isAggO_9) := fun S => @ld_imm E0 S 9 isAggO_9
theorem ld_ref_20 : type_of% (fun S => @ld_ref E0 S 20 isAggO_20) := fun S => @ld_ref E0 S 20 isAggO_20
theorem ld_imm_20 : type_of% (fun S => @ld_imm E0 S 20 isAggO_20) := fun S => @ld_imm E0 S 20 isAggO_20
theorem ld_ref_21 : type_of% (fun S => @ld_ref E0 S 21 isAggO_21) := fun S => @ld_ref E0 S 21 isAggO_21
theorem ld_imm_21 : type_of% (fun S => @ld_imm E0 S 21 isAggO_21) := fun S => @ld_imm E0 S 21 isAggO_21
theorem ld_ref_24 : type_of% (fun S => @ld_ref E0 S 24 isAggO_24) := fun S => @ld_ref E0 S 24 isAggO_24
theorem ld_imm_24 : type_of% (fun S => @ld_imm E0 S 24 isAggO_24) := fun S => @ld_imm E0 S 24 isAggO_24
theorem ld_ref_25 : type_of% (fun S => @ld_ref E0 S 25 isAggO_25) := fun S => @ld_ref E0 S 25 isAggO_25
theorem ld_imm_25 : type_of% (fun S => @ld_imm E0 S 25 isAggO_25) := fun S => @ld_imm E0 S 25 isAggO_25
theorem ld_ref_26 : type_of% (fun S => @ld_ref E0 S 26 isAggO_26) := fun S => @ld_ref E0 S 26 isAggO_26
theorem ld_imm_26 : type_of% (fun S => @ld_imm E0 S 26 isAggO_26) := fun S => @ld_imm E0 S 26 isAggO_26
theorem ld_ref_37 : type_of% (fun S => @ld_ref E0 S 37 isAggO_37) := fun S => @ld_ref E0 S 37 isAggO_37
theorem ld_imm_37 : type_of% (fun S => @ld_imm E0 S 37 isAggO_37) := fun S => @ld_imm E0 S 37 isAggO_37
theorem ld_ref_38 : type_of% (fun S => @ld_ref E0 S 38 isAggO_38) := fun S => @ld_ref E0 S 38 isAggO_38
theorem ld_imm_38 : type_of% (fun S => @ld_imm E0 S 38 isAggO_38) := fun S => @ld_imm E0 S 38 isAggO_38
theorem ld_agg_40 : type_of% (fun S => @ld_agg E0 S 40 2 isAggO_40 tsize_40) := fun S => @ld_agg E0 S 40 2 isAggO_40 tsize_40
theorem ld_ref_42 : type_of% (fun S => @ld_ref E0 S 42 isAggO_42) := fun S => @ld_ref E0 S 42 isAggO_42
theorem ld_imm_42 : type_of% (fun S => @ld_imm E0 S 42 isAggO_42) := fun S => @ld_imm E0 S 42 isAggO_42
theorem ld_ref_44 : type_of% (fun S => @ld_ref E0 S 44 isAggO_44) := fun S => @ld_ref E0 S 44 isAggO_44
theorem ld_imm_44 : type_of% (fun S => @ld_imm E0 S 44 isAggO_44) := fun S => @ld_imm E0 S 44 isAggO_44
theorem ld_ref_49 : type_of% (fun S => @ld_ref E0 S 49 isAggO_49) := fun S => @ld_ref E0 S 49 isAggO_49
theorem ld_imm_49 : type_of% (fun S => @ld_imm E0 S 49 isAggO_49) := fun S => @ld_imm E0 S 49 isAggO_49
theorem ld_ref_50 : type_of% (fun S => @ld_ref E0 S 50 isAggO_50) := fun S => @ld_ref E0 S 50 isAggO_50
theorem ld_imm_50 : type_of% (fun S => @ld_imm E0 S 50 isAggO_50) := fun S => @ld_imm E0 S 50 isAggO_50
theorem ld_ref_51 : type_of% (fun S => @ld_ref E0 S 51 isAggO_51) := fun S => @ld_ref E0 S 51 isAggO_51
theorem ld_imm_51 : type_of% (fun S => @ld_imm E0 S 51 isAggO_51) := fun S => @ld_imm E0 S 51 isAggO_51
theorem ld_ref_55 : type_of% (fun S => @ld_ref E0 S 55 isAggO_55) := fun S => @ld_ref E0 S 55 isAggO_55
theorem ld_imm_55 : type_of% (fun S => @ld_imm E0 S 55 isAggO_55) := fun S => @ld_imm E0 S 55 isAggO_55
theorem ld_ref_58 : type_of% (fun S => @ld_ref E0 S 58 isAggO_58) := fun S => @ld_ref E0 S 58 isAggO_58
theorem ld_imm_58 : type_of% (fun S => @ld_imm E0 S 58 isAggO_58) := fun S => @ld_imm E0 S 58 isAggO_58
theorem ld_agg_60 : type_of% (fun S => @ld_agg E0 S 60 2 isAggO_60 tsize_60) := fun S => @ld_agg E0 S 60 2 isAggO_60 tsize_60
theorem ld_ref_61 : type_of% (fun S => @ld_ref E0 S 61 isAggO_61) := fun S => @ld_ref E0 S 61 isAggO_61
theorem ld_imm_61 : type_of% (fun S => @ld_imm E0 S 61 isAggO_61) := fun S => @ld_imm E0 S 61 isAggO_61
theorem ld_ref_62 : type_of% (fun S => @ld_ref E0 S 62 isAggO_62) := fun S => @ld_ref E0 S 62 isAggO_62
theorem ld_imm_62 : type_of% (fun S => @ld_imm E0 S 62 isAggO_62) := fun S => @ld_imm E0 S 62 isAggO_62
theorem ld_ref_65 : type_of% (fun S => @ld_ref E0 S 65 isAggO_65) := fun S => @ld_ref E0 S 65 isAggO_65
theorem ld_imm_65 : type_of% (fun S => @ld_imm E0 S 65 isAggO_65) := fun S => @ld_imm E0 S 65 isAggO_65
theorem ld_ref_66 : type_of% (fun S => @ld_ref E0 S 66 isAggO_66) := fun S => @ld_ref E0 S 66 isAggO_66
theorem ld_imm_66 : type_of% (fun S => @ld_imm E0 S 66 isAggO_66) := fun S => @ld_imm E0 S 66 isAggO_66
theorem ld_ref_69 : type_of% (fun S => @ld_ref E0 S 69 isAggO_69) := fun S => @ld_ref E0 S 69 isAggO_69
theorem ld_imm_69 : type_of% (fun S => @ld_imm E0 S 69 isAggO_69) := fun S => @ld_imm E0 S 69 isAggO_69
theorem ld_ref_72 : type_of% (fun S => @ld_ref E0 S 72 isAggO_72) := fun S => @ld_ref E0 S 72 isAggO_72
theorem ld_imm_72 : type_of% (fun S => @ld_imm E0 S 72 isAggO_72) := fun S => @ld_imm E0 S 72 isAggO_72
theorem ld_ref_77 : type_of% (fun S => @ld_ref E0 S 77 isAggO_77) := fun S => @ld_ref E0 S 77 isAggO_77
theorem ld_imm_77 : type_of% (fun S => @ld_imm E0 S 77 isAggO_77) := fun S => @ld_imm E0 S 77 isAggO_77
theorem ld_ref_78 : type_of% (fun S => @ld_ref E0 S 78 isAggO_78) := fun S => @ld_ref E0 S 78 isAggO_78
theorem ld_imm_78 : type_of% (fun S => @ld_imm E0 S 78 isAggO_78) := fun S => @ld_imm E0 S 78 isAggO_78
theorem ld_ref_79 : type_of% (fun S => @ld_ref E0 S 79 isAggO_79) := fun S => @ld_ref E0 S 79 isAggO_79
theorem ld_imm_79 : type_of% (fun S => @ld_imm E0 S 79 isAggO_79) := fun S => @ld_imm E0 S 79 isAggO_79
theorem ld_ref_86 : type_of% (fun S => @ld_ref E0 S 86 isAggO_86) := fun S => @ld_ref E0 S 86 isAggO_86
theorem ld_imm_86 : type_of% (fun S => @ld_imm E0 S 86 isAggO_86) := fun S => @ld_imm E0 S 86 isAggO_86
theorem ld_ref_89 : type_of% (fun S => @ld_ref E0 S 89 isAggO_89) := fun S => @ld_ref E0 S 89 isAggO_89
theorem ld_imm_89 : type_of% (fun S => @ld_imm E0 S 89 isAggO_89) := fun S => @ld_imm E0 S 89 isAggO_89
theorem ld_agg_93 : type_of% (fun S => @ld_agg E0 S 93 256 isAggO_93 tsize_93) := fun S => @ld_agg E0 S 93 256 isAggO_93 tsize_93
theorem ld_agg_95 : type_of% (fun S => @ld_agg E0 S 95 2 isAggO_95 tsize_95) := fun S => @ld_agg E0 S 95 2 isAggO_95 tsize_95
theorem ld_agg_96 : type_of% (fun S => @ld_agg E0 S 96 32 isAggO_96 tsize_96) := fun S => @ld_agg E0 S 96 32 isAggO_96 tsize_96
theorem ld_ref_97 : type_of% (fun S => @ld_ref E0 S 97 isAggO_97) := fun S => @ld_ref E0 S 97 isAggO_97
theorem ld_imm_97 : type_of% (fun S => @ld_imm E0 S 97 isAggO_97) := fun S => @ld_imm E0 S 97 isAggO_97
theorem ld_ref_98 : type_of% (fun S => @ld_ref E0 S 98 isAggO_98) := fun S => @ld_ref E0 S 98 isAggO_98
theorem ld_imm_98 : type_of% (fun S => @ld_imm E0 S 98 isAggO_98) := fun S => @ld_imm E0 S 98 isAggO_98
theorem idx_str_9 : type_of% (@idx_str E0 9 Tryd.underlying9) := @idx_str E0 9 Tryd.underlying9
theorem len_str_9 : type_of% (fun S => @len_str E0 S 9 Tryd.underlying9) := fun S => @len_str E0 S 9 Tryd.underlying9
theorem conv_bytes_9 : type_of% (fun S => @conv_bytes E0 S 9 5 50 Tryd.underlying9 Tryd.underlying50 Tryd.underlying5) := fun S => @conv_bytes E0 S 9 5 50 Tryd.underlying9 Tryd.underlying50 Tryd.underlying5
theorem TY : type_of% (And.intro ia_slR_24 <| And.intro ia_slI_24 <| And.intro len_slN_24 <| And.intro len_slI_24 <| And.intro len_slR_24 <| And.intro ia_slR_37 <| And.intro ia_slI_37 <| And.intro len_slN_37 <| And.intro len_slI_37 <| And.intro len_slR_37 <| And.intro ia_slR_38 <| And.intro ia_slI_38 <| And.intro len_slN_38 <| And.intro len_slI_38 <| And.intro len_slR_38 <| And.intro ia_slR_50 <| And.intro ia_slI_50 <| And.intro len_slN_50 <| And.intro len_slI_50 <| And.intro len_slR_50 <| And.intro ia_slR_51 <| And.intro ia_slI_51 <| And.intro len_slN_51 <| And.intro len_slI_51 <| And.intro len_slR_51 <| And.intro ld_ref_0 <| And.intro ld_imm_0 <| And.intro ld_ref_3 <| And.intro ld_imm_3 <| And.intro ld_ref_4 <| And.intro ld_imm_4 <| And.intro ld_ref_5 <| And.intro ld_imm_5 <| And.intro ld_ref_9 <| And.intro ld_imm_9 <| And.intro ld_ref_20 <| And.intro ld_imm_20 <| And.intro ld_ref_21 <| And.intro ld_imm_21 <| And.intro ld_ref_24 <| And.intro ld_imm_24 <| And.intro ld_ref_25 <| And.intro ld_imm_25 <| And.intro ld_ref_26 <| And.intro ld_imm_26 <| And.intro ld_ref_37 <| And.intro ld_imm_37 <| And.intro ld_ref_38 <| And.intro ld_imm_38 <| And.intro ld_agg_40 <| And.intro ld_ref_42 <| And.intro ld_imm_42 <| And.intro ld_ref_44 <| And.intro ld_imm_44 <| And.intro ld_ref_49 <| And.intro ld_imm_49 <| And.intro ld_ref_50 <| And.intro ld_imm_50 <| And.intro ld_ref_51 <| And.intro ld_imm_51 <| And.intro ld_ref_55 <| And.intro ld_imm_55 <| And.intro ld_ref_58 <| And.intro ld_imm_58 <| And.intro ld_agg_60 <| And.intro ld_ref_61 <| And.intro ld_imm_61 <| And.intro ld_ref_62 <| And.intro ld_imm_62 <| And.intro ld_ref_65 <| And.intro ld_imm_65 <| And.intro ld_ref_66 <| And.intro ld_imm_66 <| And.intro ld_ref_69 <| And.intro ld_imm_69 <| And.intro ld_ref_72 <| And.intro ld_imm_72 <| And.intro ld_ref_77 <| And.intro ld_imm_77 <| And.intro ld_ref_78 <| And.intro ld_imm_78 <| And.intro ld_ref_79 <| And.intro ld_imm_79 <| And.intro ld_ref_86 <| And.intro ld_imm_86 <| And.intro ld_ref_89 <| And.intro ld_imm_89 <| And.intro ld_agg_93 <| And.intro ld_agg_95 <| And.intro ld_agg_96 <| And.intro ld_ref_97 <| And.intro ld_imm_97 <| And.intro ld_ref_98 <| And.intro ld_imm_98 <| And.intro idx_str_9 <| And.intro len_str_9 <| conv_bytes_9) := And.intro ia_slR_24 <| And.intro ia_slI_24 <| And.intro len_slN_24 <| And.intro len_slI_24 <| And.intro len_slR_24 <| And.intro ia_slR_37 <| And.intro ia_slI_37 <| And.intro len_slN_37 <| And.intro len_slI_37 <| And.intro len_slR_37 <| And.intro ia_slR_38 <| And.intro ia_slI_38 <| And.intro len_slN_38 <| And.intro len_slI_38 <| And.intro len_slR_38 <| And.intro ia_slR_50 <| And.intro ia_slI_50 <| And.intro len_slN_50 <| And.intro len_slI_50 <| And.intro len_slR_50 <| And.intro ia_slR_51 <| And.intro ia_slI_51 <| And.intro len_slN_51 <| And.intro len_slI_51 <| And.intro len_slR_51 <| And.intro ld_ref_0 <| And.intro ld_imm_0 <| And.intro ld_ref_3 <| And.intro ld_imm_3 <| And.intro ld_ref_4 <| And.intro ld_imm_4 <| And.intro ld_ref_5 <| And.intro ld_imm_5 <| And.intro ld_ref_9 <| And.intro ld_imm_9 <| And.intro ld_ref_20 <| And.intro ld_imm_20 <| And.intro ld_ref_21 <| And.intro ld_imm_21 <| And.intro ld_ref_24 <| And.intro ld_imm_24 <| And.intro ld_ref_25 <| And.intro ld_imm_25 <| And.intro ld_ref_26 <| And.intro ld_imm_26 <| And.intro ld_ref_37 <| And.intro ld_imm_37 <| And.intro ld_ref_38 <| And.intro ld_imm_38 <| And.intro ld_agg_40 <| And.intro ld_ref_42 <| And.intro ld_imm_42 <| And.intro ld_ref_44 <| And.intro ld_imm_44 <| And.intro ld_ref_49 <| And.intro ld_imm_49 <| And.intro ld_ref_50 <| And.intro ld_imm_50 <| And.intro ld_ref_51 <| And.intro ld_imm_51 <| And.intro ld_ref_55 <| And.intro ld_imm_55 <| And.intro ld_ref_58 <| And.intro ld_imm_58 <| And.intro ld_agg_60 <| And.intro ld_ref_61 <| And.intro ld_imm_61 <| And.intro ld_ref_62 <| And.intro ld_imm_62 <| And.intro ld_ref_65 <| And.intro ld_imm_65 <| And.intro ld_ref_66 <| And.intro ld_imm_66 <| And.intro ld_ref_69 <| And.intro ld_imm_69 <| And.intro ld_ref_72 <| And.intro ld_imm_72 <| And.intro ld_ref_77 <| And.intro ld_imm_77 <| And.intro ld_ref_78 <| And.intro ld_imm_78 <| And.intro ld_ref_79 <| And.intro ld_imm_79 <| And.intro ld_ref_86 <| And.intro ld_imm_86 <| And.intro ld_ref_89 <| And.intro ld_imm_89 <| And.intro ld_agg_93 <| And.intro ld_agg_95 <| And.intro ld_agg_96 <| And.intro ld_ref_97 <| And.intro ld_imm_97 <| And.intro ld_ref_98 <| And.intro ld_imm_98 <| And.intro idx_str_9 <| And.intro len_str_9 <| conv_bytes_9
theorem bt50 : BTy E0 50 5 := ⟨Tryd.underlying50, Tryd.underlying5, tsize_5, tbytes_5, zeroV_5, isAggO_5⟩
end Go.Proofs.YtjcckafjopjdbaaDoor
