import Derived.Test.YtmmjlgocihhkcaaGreatDoorChecked
import Derived.Test.YtmmjlgocihhkcaaGreatDoorVmF
import Derived.KernelRfl
set_option linter.all false
namespace Go.Proofs.YtmmjlgocihhkcaaGreatDoor
open Go Go.Vm
set_option maxRecDepth 100000
def rangesIn (nt : Nat) : Code → List (Nat × (Nat × Array Tmp × Code × Code))
 | .rangeFunc _ ps a b => [(Vm.keyOf b, (nt, ps, a, b))] | .seq a b => rangesIn nt a ++ rangesIn nt b | .cond _ a b => rangesIn nt a ++ rangesIn nt b
 | .block _ b | .loop b | .scope b => rangesIn nt b | _ => []
def rangesAt (P : Program) (f : Nat) : List (Nat × (Nat × Array Tmp × Code × Code)) := match P.funcs[f]? with | some fn => (match fn.body with | some c => rangesIn fn.ntmps c | none => []) | none => []
noncomputable def E0 : Env := { P := Tryz.prog, glob := fun _ => none, prim := fun f => if f = 8 then some fun args S => match args with | [] => some (.bool true, S) | _ => none else none, keep := fun f => [9,28,29,33,57,59,68,91,99,100,106,108,110,113,116,126,127,134,135,136,137,138,143,152,156,157,158,159,161,162,166,167,170,173,174,177,181,195].contains f, loops := fun k => if k = 4004 then (rangesAt Tryz.prog 71).lookup 4004 else if k = 141006004 then (rangesAt Tryz.prog 39).lookup 141006004 else none, defs := fun f => [47,88,134].contains f, catches := fun f => f == 92 }
theorem E0_P : E0.P = Tryz.prog := rfl
theorem isAggO_0 : isAggO E0 0 = some false := by kernel_rfl
theorem isAggO_1 : isAggO E0 1 = some false := by kernel_rfl
theorem isAggO_2 : isAggO E0 2 = some false := by kernel_rfl
theorem tsize_3 : tsize E0 3 = some 1 := by kernel_rfl
theorem isAggO_3 : isAggO E0 3 = some false := by kernel_rfl
theorem zeroV_3 : zeroV E0 3 = some (.int .i64 0) := by kernel_rfl
theorem isAggO_4 : isAggO E0 4 = some false := by kernel_rfl
theorem tsize_5 : tsize E0 5 = some 1 := by kernel_rfl
theorem tbytes_5 : tbytes E0 5 = some 1 := by kernel_rfl
theorem isAggO_5 : isAggO E0 5 = some false := by kernel_rfl
theorem zeroV_5 : zeroV E0 5 = some (.int .u8 0) := by kernel_rfl
theorem tsize_9 : tsize E0 9 = some 1 := by kernel_rfl
theorem tbytes_9 : tbytes E0 9 = some 16 := by kernel_rfl
theorem isAggO_9 : isAggO E0 9 = some false := by kernel_rfl
theorem zeroV_9 : zeroV E0 9 = some (.str []) := by kernel_rfl
theorem isAggO_20 : isAggO E0 20 = some false := by kernel_rfl
theorem isAggO_21 : isAggO E0 21 = some false := by kernel_rfl
theorem tsize_22 : tsize E0 22 = some 1 := by kernel_rfl
theorem isAggO_22 : isAggO E0 22 = some false := by kernel_rfl
theorem elemT_22 : elemT E0 22 = some 100 := by kernel_rfl
theorem tsize_23 : tsize E0 23 = some 1 := by kernel_rfl
theorem isAggO_23 : isAggO E0 23 = some false := by kernel_rfl
theorem elemT_23 : elemT E0 23 = some 121 := by kernel_rfl
theorem tsize_25 : tsize E0 25 = some 2 := by kernel_rfl
theorem isAggO_25 : isAggO E0 25 = some true := by kernel_rfl
theorem zeroV_25 : zeroV E0 25 = some (.agg [.slN, .slN]) := by kernel_rfl
theorem tsize_27 : tsize E0 27 = some 1 := by kernel_rfl
theorem isAggO_27 : isAggO E0 27 = some false := by kernel_rfl
theorem elemT_27 : elemT E0 27 = some 98 := by kernel_rfl
theorem tsize_28 : tsize E0 28 = some 1 := by kernel_rfl
theorem tbytes_28 : tbytes E0 28 = some 24 := by kernel_rfl
theorem isAggO_28 : isAggO E0 28 = some false := by kernel_rfl
theorem elemT_28 : elemT E0 28 = some 9 := by kernel_rfl
theorem zeroV_28 : zeroV E0 28 = some (.slN) := by kernel_rfl
theorem tsize_30 : tsize E0 30 = some 2 := by kernel_rfl
theorem isAggO_30 : isAggO E0 30 = some true := by kernel_rfl
theorem isAggO_31 : isAggO E0 31 = some false := by kernel_rfl
theorem elemT_31 : elemT E0 31 = some 52 := by kernel_rfl
theorem isAggO_33 : isAggO E0 33 = some false := by kernel_rfl
theorem isAggO_34 : isAggO E0 34 = some false := by kernel_rfl
theorem isAggO_35 : isAggO E0 35 = some false := by kernel_rfl
theorem isAggO_41 : isAggO E0 41 = some false := by kernel_rfl
theorem tsize_43 : tsize E0 43 = some 2 := by kernel_rfl
theorem isAggO_43 : isAggO E0 43 = some true := by kernel_rfl
theorem tsize_50 : tsize E0 50 = some 1 := by kernel_rfl
theorem isAggO_50 : isAggO E0 50 = some false := by kernel_rfl
theorem elemT_50 : elemT E0 50 = some 55 := by kernel_rfl
theorem tsize_52 : tsize E0 52 = some 2 := by kernel_rfl
theorem tbytes_52 : tbytes E0 52 = some 48 := by kernel_rfl
theorem isAggO_52 : isAggO E0 52 = some true := by kernel_rfl
theorem zeroV_52 : zeroV E0 52 = some (.agg [.slN, .slN]) := by kernel_rfl
theorem tsize_55 : tsize E0 55 = some 2 := by kernel_rfl
theorem tbytes_55 : tbytes E0 55 = some 40 := by kernel_rfl
theorem isAggO_55 : isAggO E0 55 = some true := by kernel_rfl
theorem zeroV_55 : zeroV E0 55 = some (.agg [.str [], .slN]) := by kernel_rfl
theorem isAggO_58 : isAggO E0 58 = some false := by kernel_rfl
theorem isAggO_60 : isAggO E0 60 = some false := by kernel_rfl
theorem isAggO_62 : isAggO E0 62 = some false := by kernel_rfl
theorem isAggO_65 : isAggO E0 65 = some false := by kernel_rfl
theorem tsize_69 : tsize E0 69 = some 0 := by kernel_rfl
theorem isAggO_69 : isAggO E0 69 = some true := by kernel_rfl
theorem tsize_70 : tsize E0 70 = some 0 := by kernel_rfl
theorem isAggO_70 : isAggO E0 70 = some true := by kernel_rfl
theorem isAggO_71 : isAggO E0 71 = some false := by kernel_rfl
theorem tsize_73 : tsize E0 73 = some 1 := by kernel_rfl
theorem isAggO_73 : isAggO E0 73 = some true := by kernel_rfl
theorem tsize_75 : tsize E0 75 = some 2 := by kernel_rfl
theorem isAggO_75 : isAggO E0 75 = some true := by kernel_rfl
theorem tsize_77 : tsize E0 77 = some 2 := by kernel_rfl
theorem isAggO_77 : isAggO E0 77 = some true := by kernel_rfl
theorem tsize_79 : tsize E0 79 = some 3 := by kernel_rfl
theorem isAggO_79 : isAggO E0 79 = some true := by kernel_rfl
theorem isAggO_80 : isAggO E0 80 = some false := by kernel_rfl
theorem tsize_82 : tsize E0 82 = some 2 := by kernel_rfl
theorem isAggO_82 : isAggO E0 82 = some true := by kernel_rfl
theorem tsize_84 : tsize E0 84 = some 7 := by kernel_rfl
theorem isAggO_84 : isAggO E0 84 = some true := by kernel_rfl
theorem isAggO_91 : isAggO E0 91 = some false := by kernel_rfl
theorem tsize_96 : tsize E0 96 = some 2 := by kernel_rfl
theorem isAggO_96 : isAggO E0 96 = some true := by kernel_rfl
theorem zeroV_96 : zeroV E0 96 = some (.agg [.str [], .str []]) := by kernel_rfl
theorem isAggO_97 : isAggO E0 97 = some false := by kernel_rfl
theorem tsize_98 : tsize E0 98 = some 1 := by kernel_rfl
theorem isAggO_98 : isAggO E0 98 = some false := by kernel_rfl
theorem elemT_98 : elemT E0 98 = some 96 := by kernel_rfl
theorem zeroV_98 : zeroV E0 98 = some (.slN) := by kernel_rfl
theorem tsize_100 : tsize E0 100 = some 6 := by kernel_rfl
theorem tbytes_100 : tbytes E0 100 = some 32 := by kernel_rfl
theorem isAggO_100 : isAggO E0 100 = some true := by kernel_rfl
theorem zeroV_100 : zeroV E0 100 = some (.agg [.str [], .int .i64 0, .bool false, .bool false, .bool false, .bool false]) := by kernel_rfl
theorem isAggO_102 : isAggO E0 102 = some false := by kernel_rfl
theorem tsize_104 : tsize E0 104 = some 3 := by kernel_rfl
theorem isAggO_104 : isAggO E0 104 = some true := by kernel_rfl
theorem isAggO_106 : isAggO E0 106 = some false := by kernel_rfl
theorem isAggO_108 : isAggO E0 108 = some false := by kernel_rfl
theorem isAggO_111 : isAggO E0 111 = some false := by kernel_rfl
theorem isAggO_114 : isAggO E0 114 = some false := by kernel_rfl
theorem isAggO_117 : isAggO E0 117 = some false := by kernel_rfl
theorem tsize_121 : tsize E0 121 = some 5 := by kernel_rfl
theorem tbytes_121 : tbytes E0 121 = some 88 := by kernel_rfl
theorem isAggO_121 : isAggO E0 121 = some true := by kernel_rfl
theorem zeroV_121 : zeroV E0 121 = some (.agg [.str [], .int .i64 0, .str [], .slN, .slN]) := by kernel_rfl
theorem isAggO_123 : isAggO E0 123 = some false := by kernel_rfl
theorem isAggO_125 : isAggO E0 125 = some false := by kernel_rfl
theorem isAggO_127 : isAggO E0 127 = some false := by kernel_rfl
theorem isAggO_132 : isAggO E0 132 = some false := by kernel_rfl
theorem isAggO_136 : isAggO E0 136 = some false := by kernel_rfl
theorem isAggO_139 : isAggO E0 139 = some false := by kernel_rfl
theorem tsize_140 : tsize E0 140 = some 1 := by kernel_rfl
theorem isAggO_140 : isAggO E0 140 = some false := by kernel_rfl
theorem elemT_140 : elemT E0 140 = some 5 := by kernel_rfl
theorem zeroV_140 : zeroV E0 140 = some (.slN) := by kernel_rfl
theorem isAggO_141 : isAggO E0 141 = some false := by kernel_rfl
theorem isAggO_142 : isAggO E0 142 = some false := by kernel_rfl
theorem isAggO_148 : isAggO E0 148 = some false := by kernel_rfl
theorem isAggO_150 : isAggO E0 150 = some false := by kernel_rfl
theorem isAggO_151 : isAggO E0 151 = some false := by kernel_rfl
theorem isAggO_154 : isAggO E0 154 = some false := by kernel_rfl
theorem isAggO_155 : isAggO E0 155 = some false := by kernel_rfl
theorem isAggO_156 : isAggO E0 156 = some false := by kernel_rfl
theorem tsize_163 : tsize E0 163 = some 1 := by kernel_rfl
theorem isAggO_163 : isAggO E0 163 = some false := by kernel_rfl
theorem tsize_165 : tsize E0 165 = some 2 := by kernel_rfl
theorem isAggO_165 : isAggO E0 165 = some true := by kernel_rfl
theorem zeroV_165 : zeroV E0 165 = some (.agg [.nilp, .slN]) := by kernel_rfl
theorem isAggO_167 : isAggO E0 167 = some false := by kernel_rfl
theorem isAggO_168 : isAggO E0 168 = some false := by kernel_rfl
theorem isAggO_172 : isAggO E0 172 = some false := by kernel_rfl
theorem isAggO_174 : isAggO E0 174 = some false := by kernel_rfl
theorem isAggO_175 : isAggO E0 175 = some false := by kernel_rfl
theorem isAggO_178 : isAggO E0 178 = some false := by kernel_rfl
theorem tsize_181 : tsize E0 181 = some 1 := by kernel_rfl
theorem isAggO_181 : isAggO E0 181 = some true := by kernel_rfl
theorem isAggO_182 : isAggO E0 182 = some false := by kernel_rfl
theorem isAggO_185 : isAggO E0 185 = some false := by kernel_rfl
theorem isAggO_189 : isAggO E0 189 = some false := by kernel_rfl
theorem isAggO_191 : isAggO E0 191 = some false := by kernel_rfl
theorem isAggO_192 : isAggO E0 192 = some false := by kernel_rfl
theorem elemT_192 : elemT E0 192 = some 28 := by kernel_rfl
theorem isAggO_196 : isAggO E0 196 = some false := by kernel_rfl
theorem isAggO_201 : isAggO E0 201 = some false := by kernel_rfl
theorem isAggO_203 : isAggO E0 203 = some false := by kernel_rfl
theorem isAggO_205 : isAggO E0 205 = some false := by kernel_rfl
theorem isAggO_207 : isAggO E0 207 = some false := by kernel_rfl
theorem isAggO_209 : isAggO E0 209 = some false := by kernel_rfl
theorem isAggO_211 : isAggO E0 211 = some false := by kernel_rfl
theorem isAggO_222 : isAggO E0 222 = some false := by kernel_rfl
theorem isAggO_227 : isAggO E0 227 = some false := by kernel_rfl
theorem isAggO_229 : isAggO E0 229 = some false := by kernel_rfl
theorem isAggO_233 : isAggO E0 233 = some false := by kernel_rfl
theorem tsize_239 : tsize E0 239 = some 256 := by kernel_rfl
theorem isAggO_239 : isAggO E0 239 = some true := by kernel_rfl
theorem tsize_241 : tsize E0 241 = some 2 := by kernel_rfl
theorem isAggO_241 : isAggO E0 241 = some true := by kernel_rfl
theorem tsize_242 : tsize E0 242 = some 32 := by kernel_rfl
theorem isAggO_242 : isAggO E0 242 = some true := by kernel_rfl
theorem isAggO_243 : isAggO E0 243 = some false := by kernel_rfl
theorem callV_8 (c : CallT) (S : Store) : callV E0 c (.fn (.func 8) [] []) [] S = some (.bool true, S) := by kernel_rfl
theorem callV_9 (c : CallT) (a b args : List V) (S : Store) : callV E0 c (.fn (.func 9) a b) args S = c (.fn 9) (a ++ args ++ b) S := by kernel_rfl
theorem callV_10 (c : CallT) (a b args : List V) (S : Store) : callV E0 c (.fn (.func 10) a b) args S = c (.fn 10) (a ++ args ++ b) S := by kernel_rfl
theorem callV_11 (c : CallT) (a b args : List V) (S : Store) : callV E0 c (.fn (.func 11) a b) args S = c (.fn 11) (a ++ args ++ b) S := by kernel_rfl
theorem callV_18 (c : CallT) (a b args : List V) (S : Store) : callV E0 c (.fn (.func 18) a b) args S = c (.fn 18) (a ++ args ++ b) S := by kernel_rfl
theorem callV_19 (c : CallT) (a b args : List V) (S : Store) : callV E0 c (.fn (.func 19) a b) args S = c (.fn 19) (a ++ args ++ b) S := by kernel_rfl
theorem callV_20 (c : CallT) (a b args : List V) (S : Store) : callV E0 c (.fn (.func 20) a b) args S = c (.fn 20) (a ++ args ++ b) S := by kernel_rfl
theorem callV_21 (c : CallT) (a b args : List V) (S : Store) : callV E0 c (.fn (.func 21) a b) args S = c (.fn 21) (a ++ args ++ b) S := by kernel_rfl
theorem callV_27 (c : CallT) (a b args : List V) (S : Store) : callV E0 c (.fn (.func 27) a b) args S = c (.fn 27) (a ++ args ++ b) S := by kernel_rfl
theorem callV_28 (c : CallT) (a b args : List V) (S : Store) : callV E0 c (.fn (.func 28) a b) args S = c (.fn 28) (a ++ args ++ b) S := by kernel_rfl
theorem callV_29 (c : CallT) (a b args : List V) (S : Store) : callV E0 c (.fn (.func 29) a b) args S = c (.fn 29) (a ++ args ++ b) S := by kernel_rfl
theorem callV_30 (c : CallT) (a b args : List V) (S : Store) : callV E0 c (.fn (.func 30) a b) args S = c (.fn 30) (a ++ args ++ b) S := by kernel_rfl
theorem callV_31 (c : CallT) (a b args : List V) (S : Store) : callV E0 c (.fn (.func 31) a b) args S = c (.fn 31) (a ++ args ++ b) S := by kernel_rfl
theorem callV_32 (c : CallT) (a b args : List V) (S : Store) : callV E0 c (.fn (.func 32) a b) args S = c (.fn 32) (a ++ args ++ b) S := by kernel_rfl
theorem callV_33 (c : CallT) (a b args : List V) (S : Store) : callV E0 c (.fn (.func 33) a b) args S = c (.fn 33) (a ++ args ++ b) S := by kernel_rfl
theorem callV_34 (c : CallT) (a b args : List V) (S : Store) : callV E0 c (.fn (.func 34) a b) args S = c (.fn 34) (a ++ args ++ b) S := by kernel_rfl
theorem callV_38 (c : CallT) (a b args : List V) (S : Store) : callV E0 c (.fn (.func 38) a b) args S = c (.fn 38) (a ++ args ++ b) S := by kernel_rfl
theorem callV_39 (c : CallT) (a b args : List V) (S : Store) : callV E0 c (.fn (.func 39) a b) args S = c (.fn 39) (a ++ args ++ b) S := by kernel_rfl
theorem callV_40 (c : CallT) (a b args : List V) (S : Store) : callV E0 c (.fn (.func 40) a b) args S = c (.fn 40) (a ++ args ++ b) S := by kernel_rfl
theorem callV_41 (c : CallT) (a b args : List V) (S : Store) : callV E0 c (.fn (.func 41) a b) args S = c (.fn 41) (a ++ args ++ b) S := by kernel_rfl
theorem callV_42 (c : CallT) (a b args : List V) (S : Store) : callV E0 c (.fn (.func 42) a b) args S = c (.fn 42) (a ++ args ++ b) S := by kernel_rfl
theorem callV_56 (c : CallT) (a b args : List V) (S : Store) : callV E0 c (.fn (.func 56) a b) args S = c (.fn 56) (a ++ args ++ b) S := by kernel_rfl
theorem callV_57 (c : CallT) (a b args : List V) (S : Store) : callV E0 c (.fn (.func 57) a b) args S = c (.fn 57) (a ++ args ++ b) S := by kernel_rfl
theorem callV_58 (c : CallT) (a b args : List V) (S : Store) : callV E0 c (.fn (.func 58) a b) args S = c (.fn 58) (a ++ args ++ b) S := by kernel_rfl
theorem callV_59 (c : CallT) (a b args : List V) (S : Store) : callV E0 c (.fn (.func 59) a b) args S = c (.fn 59) (a ++ args ++ b) S := by kernel_rfl
theorem callV_60 (c : CallT) (a b args : List V) (S : Store) : callV E0 c (.fn (.func 60) a b) args S = c (.fn 60) (a ++ args ++ b) S := by kernel_rfl
theorem callV_61 (c : CallT) (a b args : List V) (S : Store) : callV E0 c (.fn (.func 61) a b) args S = c (.fn 61) (a ++ args ++ b) S := by kernel_rfl
theorem callV_62 (c : CallT) (a b args : List V) (S : Store) : callV E0 c (.fn (.func 62) a b) args S = c (.fn 62) (a ++ args ++ b) S := by kernel_rfl
theorem callV_63 (c : CallT) (a b args : List V) (S : Store) : callV E0 c (.fn (.func 63) a b) args S = c (.fn 63) (a ++ args ++ b) S := by kernel_rfl
theorem callV_64 (c : CallT) (a b args : List V) (S : Store) : callV E0 c (.fn (.func 64) a b) args S = c (.fn 64) (a ++ args ++ b) S := by kernel_rfl
theorem callV_65 (c : CallT) (a b args : List V) (S : Store) : callV E0 c (.fn (.func 65) a b) args S = c (.fn 65) (a ++ args ++ b) S := by kernel_rfl
theorem callV_66 (c : CallT) (a b args : List V) (S : Store) : callV E0 c (.fn (.func 66) a b) args S = c (.fn 66) (a ++ args ++ b) S := by kernel_rfl
theorem callV_67 (c : CallT) (a b args : List V) (S : Store) : callV E0 c (.fn (.func 67) a b) args S = c (.fn 67) (a ++ args ++ b) S := by kernel_rfl
theorem callV_68 (c : CallT) (a b args : List V) (S : Store) : callV E0 c (.fn (.func 68) a b) args S = c (.fn 68) (a ++ args ++ b) S := by kernel_rfl
theorem callV_69 (c : CallT) (a b args : List V) (S : Store) : callV E0 c (.fn (.func 69) a b) args S = c (.fn 69) (a ++ args ++ b) S := by kernel_rfl
theorem callV_70 (c : CallT) (a b args : List V) (S : Store) : callV E0 c (.fn (.func 70) a b) args S = c (.fn 70) (a ++ args ++ b) S := by kernel_rfl
theorem callV_71 (c : CallT) (a b args : List V) (S : Store) : callV E0 c (.fn (.func 71) a b) args S = c (.fn 71) (a ++ args ++ b) S := by kernel_rfl
theorem callV_72 (c : CallT) (a b args : List V) (S : Store) : callV E0 c (.fn (.func 72) a b) args S = c (.fn 72) (a ++ args ++ b) S := by kernel_rfl
theorem callV_75 (c : CallT) (a b args : List V) (S : Store) : callV E0 c (.fn (.func 75) a b) args S = c (.fn 75) (a ++ args ++ b) S := by kernel_rfl
theorem callV_77 (c : CallT) (a b args : List V) (S : Store) : callV E0 c (.fn (.func 77) a b) args S = c (.fn 77) (a ++ args ++ b) S := by kernel_rfl
theorem callV_81 (c : CallT) (a b args : List V) (S : Store) : callV E0 c (.fn (.func 81) a b) args S = c (.fn 81) (a ++ args ++ b) S := by kernel_rfl
theorem callV_82 (c : CallT) (a b args : List V) (S : Store) : callV E0 c (.fn (.func 82) a b) args S = c (.fn 82) (a ++ args ++ b) S := by kernel_rfl
theorem callV_83 (c : CallT) (a b args : List V) (S : Store) : callV E0 c (.fn (.func 83) a b) args S = c (.fn 83) (a ++ args ++ b) S := by kernel_rfl
theorem callV_84 (c : CallT) (a b args : List V) (S : Store) : callV E0 c (.fn (.func 84) a b) args S = c (.fn 84) (a ++ args ++ b) S := by kernel_rfl
theorem callV_85 (c : CallT) (a b args : List V) (S : Store) : callV E0 c (.fn (.func 85) a b) args S = c (.fn 85) (a ++ args ++ b) S := by kernel_rfl
theorem callV_86 (c : CallT) (a b args : List V) (S : Store) : callV E0 c (.fn (.func 86) a b) args S = c (.fn 86) (a ++ args ++ b) S := by kernel_rfl
theorem callV_99 (c : CallT) (a b args : List V) (S : Store) : callV E0 c (.fn (.func 99) a b) args S = c (.fn 99) (a ++ args ++ b) S := by kernel_rfl
theorem callV_100 (c : CallT) (a b args : List V) (S : Store) : callV E0 c (.fn (.func 100) a b) args S = c (.fn 100) (a ++ args ++ b) S := by kernel_rfl
theorem callV_101 (c : CallT) (a b args : List V) (S : Store) : callV E0 c (.fn (.func 101) a b) args S = c (.fn 101) (a ++ args ++ b) S := by kernel_rfl
theorem callV_102 (c : CallT) (a b args : List V) (S : Store) : callV E0 c (.fn (.func 102) a b) args S = c (.fn 102) (a ++ args ++ b) S := by kernel_rfl
theorem callV_103 (c : CallT) (a b args : List V) (S : Store) : callV E0 c (.fn (.func 103) a b) args S = c (.fn 103) (a ++ args ++ b) S := by kernel_rfl
theorem callV_104 (c : CallT) (a b args : List V) (S : Store) : callV E0 c (.fn (.func 104) a b) args S = c (.fn 104) (a ++ args ++ b) S := by kernel_rfl
theorem callV_105 (c : CallT) (a b args : List V) (S : Store) : callV E0 c (.fn (.func 105) a b) args S = c (.fn 105) (a ++ args ++ b) S := by kernel_rfl
theorem callV_106 (c : CallT) (a b args : List V) (S : Store) : callV E0 c (.fn (.func 106) a b) args S = c (.fn 106) (a ++ args ++ b) S := by kernel_rfl
theorem callV_107 (c : CallT) (a b args : List V) (S : Store) : callV E0 c (.fn (.func 107) a b) args S = c (.fn 107) (a ++ args ++ b) S := by kernel_rfl
theorem callV_108 (c : CallT) (a b args : List V) (S : Store) : callV E0 c (.fn (.func 108) a b) args S = c (.fn 108) (a ++ args ++ b) S := by kernel_rfl
theorem callV_109 (c : CallT) (a b args : List V) (S : Store) : callV E0 c (.fn (.func 109) a b) args S = c (.fn 109) (a ++ args ++ b) S := by kernel_rfl
theorem callV_110 (c : CallT) (a b args : List V) (S : Store) : callV E0 c (.fn (.func 110) a b) args S = c (.fn 110) (a ++ args ++ b) S := by kernel_rfl
theorem callV_111 (c : CallT) (a b args : List V) (S : Store) : callV E0 c (.fn (.func 111) a b) args S = c (.fn 111) (a ++ args ++ b) S := by kernel_rfl
theorem callV_112 (c : CallT) (a b args : List V) (S : Store) : callV E0 c (.fn (.func 112) a b) args S = c (.fn 112) (a ++ args ++ b) S := by kernel_rfl
theorem callV_114 (c : CallT) (a b args : List V) (S : Store) : callV E0 c (.fn (.func 114) a b) args S = c (.fn 114) (a ++ args ++ b) S := by kernel_rfl
theorem callV_115 (c : CallT) (a b args : List V) (S : Store) : callV E0 c (.fn (.func 115) a b) args S = c (.fn 115) (a ++ args ++ b) S := by kernel_rfl
theorem callV_116 (c : CallT) (a b args : List V) (S : Store) : callV E0 c (.fn (.func 116) a b) args S = c (.fn 116) (a ++ args ++ b) S := by kernel_rfl
theorem callV_117 (c : CallT) (a b args : List V) (S : Store) : callV E0 c (.fn (.func 117) a b) args S = c (.fn 117) (a ++ args ++ b) S := by kernel_rfl
theorem callV_118 (c : CallT) (a b args : List V) (S : Store) : callV E0 c (.fn (.func 118) a b) args S = c (.fn 118) (a ++ args ++ b) S := by kernel_rfl
theorem callV_119 (c : CallT) (a b args : List V) (S : Store) : callV E0 c (.fn (.func 119) a b) args S = c (.fn 119) (a ++ args ++ b) S := by kernel_rfl
theorem callV_130 (c : CallT) (a b args : List V) (S : Store) : callV E0 c (.fn (.func 130) a b) args S = c (.fn 130) (a ++ args ++ b) S := by kernel_rfl
theorem callV_131 (c : CallT) (a b args : List V) (S : Store) : callV E0 c (.fn (.func 131) a b) args S = c (.fn 131) (a ++ args ++ b) S := by kernel_rfl
theorem callV_133 (c : CallT) (a b args : List V) (S : Store) : callV E0 c (.fn (.func 133) a b) args S = c (.fn 133) (a ++ args ++ b) S := by kernel_rfl
theorem callV_134 (c : CallT) (a b args : List V) (S : Store) : callV E0 c (.fn (.func 134) a b) args S = c (.fn 134) (a ++ args ++ b) S := by kernel_rfl
theorem callV_135 (c : CallT) (a b args : List V) (S : Store) : callV E0 c (.fn (.func 135) a b) args S = c (.fn 135) (a ++ args ++ b) S := by kernel_rfl
theorem callV_136 (c : CallT) (a b args : List V) (S : Store) : callV E0 c (.fn (.func 136) a b) args S = c (.fn 136) (a ++ args ++ b) S := by kernel_rfl
theorem callV_137 (c : CallT) (a b args : List V) (S : Store) : callV E0 c (.fn (.func 137) a b) args S = c (.fn 137) (a ++ args ++ b) S := by kernel_rfl
theorem callV_138 (c : CallT) (a b args : List V) (S : Store) : callV E0 c (.fn (.func 138) a b) args S = c (.fn 138) (a ++ args ++ b) S := by kernel_rfl
theorem callV_139 (c : CallT) (a b args : List V) (S : Store) : callV E0 c (.fn (.func 139) a b) args S = c (.fn 139) (a ++ args ++ b) S := by kernel_rfl
theorem callV_140 (c : CallT) (a b args : List V) (S : Store) : callV E0 c (.fn (.func 140) a b) args S = c (.fn 140) (a ++ args ++ b) S := by kernel_rfl
theorem callV_141 (c : CallT) (a b args : List V) (S : Store) : callV E0 c (.fn (.func 141) a b) args S = c (.fn 141) (a ++ args ++ b) S := by kernel_rfl
theorem callV_142 (c : CallT) (a b args : List V) (S : Store) : callV E0 c (.fn (.func 142) a b) args S = c (.fn 142) (a ++ args ++ b) S := by kernel_rfl
theorem callV_143 (c : CallT) (a b args : List V) (S : Store) : callV E0 c (.fn (.func 143) a b) args S = c (.fn 143) (a ++ args ++ b) S := by kernel_rfl
theorem callV_144 (c : CallT) (a b args : List V) (S : Store) : callV E0 c (.fn (.func 144) a b) args S = c (.fn 144) (a ++ args ++ b) S := by kernel_rfl
theorem callV_145 (c : CallT) (a b args : List V) (S : Store) : callV E0 c (.fn (.func 145) a b) args S = c (.fn 145) (a ++ args ++ b) S := by kernel_rfl
theorem callV_152 (c : CallT) (a b args : List V) (S : Store) : callV E0 c (.fn (.func 152) a b) args S = c (.fn 152) (a ++ args ++ b) S := by kernel_rfl
theorem callV_153 (c : CallT) (a b args : List V) (S : Store) : callV E0 c (.fn (.func 153) a b) args S = c (.fn 153) (a ++ args ++ b) S := by kernel_rfl
theorem callV_156 (c : CallT) (a b args : List V) (S : Store) : callV E0 c (.fn (.func 156) a b) args S = c (.fn 156) (a ++ args ++ b) S := by kernel_rfl
theorem callV_159 (c : CallT) (a b args : List V) (S : Store) : callV E0 c (.fn (.func 159) a b) args S = c (.fn 159) (a ++ args ++ b) S := by kernel_rfl
theorem callV_161 (c : CallT) (a b args : List V) (S : Store) : callV E0 c (.fn (.func 161) a b) args S = c (.fn 161) (a ++ args ++ b) S := by kernel_rfl
theorem callV_162 (c : CallT) (a b args : List V) (S : Store) : callV E0 c (.fn (.func 162) a b) args S = c (.fn 162) (a ++ args ++ b) S := by kernel_rfl
theorem callV_163 (c : CallT) (a b args : List V) (S : Store) : callV E0 c (.fn (.func 163) a b) args S = c (.fn 163) (a ++ args ++ b) S := by kernel_rfl
theorem callV_164 (c : CallT) (a b args : List V) (S : Store) : callV E0 c (.fn (.func 164) a b) args S = c (.fn 164) (a ++ args ++ b) S := by kernel_rfl
theorem callV_165 (c : CallT) (a b args : List V) (S : Store) : callV E0 c (.fn (.func 165) a b) args S = c (.fn 165) (a ++ args ++ b) S := by kernel_rfl
theorem callV_166 (c : CallT) (a b args : List V) (S : Store) : callV E0 c (.fn (.func 166) a b) args S = c (.fn 166) (a ++ args ++ b) S := by kernel_rfl
theorem callV_167 (c : CallT) (a b args : List V) (S : Store) : callV E0 c (.fn (.func 167) a b) args S = c (.fn 167) (a ++ args ++ b) S := by kernel_rfl
theorem callV_170 (c : CallT) (a b args : List V) (S : Store) : callV E0 c (.fn (.func 170) a b) args S = c (.fn 170) (a ++ args ++ b) S := by kernel_rfl
theorem callV_173 (c : CallT) (a b args : List V) (S : Store) : callV E0 c (.fn (.func 173) a b) args S = c (.fn 173) (a ++ args ++ b) S := by kernel_rfl
theorem callV_174 (c : CallT) (a b args : List V) (S : Store) : callV E0 c (.fn (.func 174) a b) args S = c (.fn 174) (a ++ args ++ b) S := by kernel_rfl
theorem callV_176 (c : CallT) (a b args : List V) (S : Store) : callV E0 c (.fn (.func 176) a b) args S = c (.fn 176) (a ++ args ++ b) S := by kernel_rfl
theorem callV_177 (c : CallT) (a b args : List V) (S : Store) : callV E0 c (.fn (.func 177) a b) args S = c (.fn 177) (a ++ args ++ b) S := by kernel_rfl
theorem callV_179 (c : CallT) (a b args : List V) (S : Store) : callV E0 c (.fn (.func 179) a b) args S = c (.fn 179) (a ++ args ++ b) S := by kernel_rfl
theorem callV_180 (c : CallT) (a b args : List V) (S : Store) : callV E0 c (.fn (.func 180) a b) args S = c (.fn 180) (a ++ args ++ b) S := by kernel_rfl
theorem callV_181 (c : CallT) (a b args : List V) (S : Store) : callV E0 c (.fn (.func 181) a b) args S = c (.fn 181) (a ++ args ++ b) S := by kernel_rfl
theorem callV_194 (c : CallT) (a b args : List V) (S : Store) : callV E0 c (.fn (.func 194) a b) args S = c (.fn 194) (a ++ args ++ b) S := by kernel_rfl
theorem callV_195 (c : CallT) (a b args : List V) (S : Store) : callV E0 c (.fn (.func 195) a b) args S = c (.fn 195) (a ++ args ++ b) S := by kernel_rfl
def ia_slR_22x := @ia_slR E0 22 100 6 Tryz.underlying22 tsize_100
theorem ia_slR_22 : type_of% ia_slR_22x := ia_slR_22x
def ia_slI_22x := @ia_slI E0 22 100 6 Tryz.underlying22 tsize_100
theorem ia_slI_22 : type_of% ia_slI_22x := ia_slI_22x
def len_slN_22x := fun S => @len_slN E0 S 22 100 Tryz.underlying22
theorem len_slN_22 : type_of% len_slN_22x := len_slN_22x
def len_slI_22x := fun S => @len_slI E0 S 22 100 Tryz.underlying22
theorem len_slI_22 : type_of% len_slI_22x := len_slI_22x
def len_slR_22x := fun S => @len_slR E0 S 22 100 Tryz.underlying22
theorem len_slR_22 : type_of% len_slR_22x := len_slR_22x
def ia_slR_23x := @ia_slR E0 23 121 5 Tryz.underlying23 tsize_121
theorem ia_slR_23 : type_of% ia_slR_23x := ia_slR_23x
def ia_slI_23x := @ia_slI E0 23 121 5 Tryz.underlying23 tsize_121
theorem ia_slI_23 : type_of% ia_slI_23x := ia_slI_23x
def len_slN_23x := fun S => @len_slN E0 S 23 121 Tryz.underlying23
theorem len_slN_23 : type_of% len_slN_23x := len_slN_23x
def len_slI_23x := fun S => @len_slI E0 S 23 121 Tryz.underlying23
theorem len_slI_23 : type_of% len_slI_23x := len_slI_23x
def len_slR_23x := fun S => @len_slR E0 S 23 121 Tryz.underlying23
theorem len_slR_23 : type_of% len_slR_23x := len_slR_23x
def ia_slR_27x := @ia_slR E0 27 98 1 Tryz.underlying27 tsize_98
theorem ia_slR_27 : type_of% ia_slR_27x := ia_slR_27x
def ia_slI_27x := @ia_slI E0 27 98 1 Tryz.underlying27 tsize_98
theorem ia_slI_27 : type_of% ia_slI_27x := ia_slI_27x
def len_slN_27x := fun S => @len_slN E0 S 27 98 Tryz.underlying27
theorem len_slN_27 : type_of% len_slN_27x := len_slN_27x
def len_slI_27x := fun S => @len_slI E0 S 27 98 Tryz.underlying27
theorem len_slI_27 : type_of% len_slI_27x := len_slI_27x
def len_slR_27x := fun S => @len_slR E0 S 27 98 Tryz.underlying27
theorem len_slR_27 : type_of% len_slR_27x := len_slR_27x
def ia_slR_28x := @ia_slR E0 28 9 1 Tryz.underlying28 tsize_9
theorem ia_slR_28 : type_of% ia_slR_28x := ia_slR_28x
def ia_slI_28x := @ia_slI E0 28 9 1 Tryz.underlying28 tsize_9
theorem ia_slI_28 : type_of% ia_slI_28x := ia_slI_28x
def len_slN_28x := fun S => @len_slN E0 S 28 9 Tryz.underlying28
theorem len_slN_28 : type_of% len_slN_28x := len_slN_28x
def len_slI_28x := fun S => @len_slI E0 S 28 9 Tryz.underlying28
theorem len_slI_28 : type_of% len_slI_28x := len_slI_28x
def len_slR_28x := fun S => @len_slR E0 S 28 9 Tryz.underlying28
theorem len_slR_28 : type_of% len_slR_28x := len_slR_28x
def ia_slR_31x := @ia_slR E0 31 52 2 Tryz.underlying31 tsize_52
theorem ia_slR_31 : type_of% ia_slR_31x := ia_slR_31x
def ia_slI_31x := @ia_slI E0 31 52 2 Tryz.underlying31 tsize_52
theorem ia_slI_31 : type_of% ia_slI_31x := ia_slI_31x
def len_slN_31x := fun S => @len_slN E0 S 31 52 Tryz.underlying31
theorem len_slN_31 : type_of% len_slN_31x := len_slN_31x
def len_slI_31x := fun S => @len_slI E0 S 31 52 Tryz.underlying31
theorem len_slI_31 : type_of% len_slI_31x := len_slI_31x
def len_slR_31x := fun S => @len_slR E0 S 31 52 Tryz.underlying31
theorem len_slR_31 : type_of% len_slR_31x := len_slR_31x
def ia_slR_41x := @ia_slR E0 41 27 1 Tryz.underlying41 tsize_27
theorem ia_slR_41 : type_of% ia_slR_41x := ia_slR_41x
def ia_slI_41x := @ia_slI E0 41 27 1 Tryz.underlying41 tsize_27
theorem ia_slI_41 : type_of% ia_slI_41x := ia_slI_41x
def len_slN_41x := fun S => @len_slN E0 S 41 27 Tryz.underlying41
theorem len_slN_41 : type_of% len_slN_41x := len_slN_41x
def len_slI_41x := fun S => @len_slI E0 S 41 27 Tryz.underlying41
theorem len_slI_41 : type_of% len_slI_41x := len_slI_41x
def len_slR_41x := fun S => @len_slR E0 S 41 27 Tryz.underlying41
theorem len_slR_41 : type_of% len_slR_41x := len_slR_41x
def ia_slR_50x := @ia_slR E0 50 55 2 Tryz.underlying50 tsize_55
theorem ia_slR_50 : type_of% ia_slR_50x := ia_slR_50x
def ia_slI_50x := @ia_slI E0 50 55 2 Tryz.underlying50 tsize_55
theorem ia_slI_50 : type_of% ia_slI_50x := ia_slI_50x
def len_slN_50x := fun S => @len_slN E0 S 50 55 Tryz.underlying50
theorem len_slN_50 : type_of% len_slN_50x := len_slN_50x
def len_slI_50x := fun S => @len_slI E0 S 50 55 Tryz.underlying50
theorem len_slI_50 : type_of% len_slI_50x := len_slI_50x
def len_slR_50x := fun S => @len_slR E0 S 50 55 Tryz.underlying50
theorem len_slR_50 : type_of% len_slR_50x := len_slR_50x
def ia_slR_97x := @ia_slR E0 97 96 2 Tryz.underlying97 tsize_96
theorem ia_slR_97 : type_of% ia_slR_97x := ia_slR_97x
def ia_slI_97x := @ia_slI E0 97 96 2 Tryz.underlying97 tsize_96
theorem ia_slI_97 : type_of% ia_slI_97x := ia_slI_97x
def len_slN_97x := fun S => @len_slN E0 S 97 96 Tryz.underlying97
theorem len_slN_97 : type_of% len_slN_97x := len_slN_97x
def len_slI_97x := fun S => @len_slI E0 S 97 96 Tryz.underlying97
theorem len_slI_97 : type_of% len_slI_97x := len_slI_97x
def len_slR_97x := fun S => @len_slR E0 S 97 96 Tryz.underlying97
theorem len_slR_97 : type_of% len_slR_97x := len_slR_97x
def ia_slR_98x := @ia_slR E0 98 96 2 Tryz.underlying98 tsize_96
theorem ia_slR_98 : type_of% ia_slR_98x := ia_slR_98x
def ia_slI_98x := @ia_slI E0 98 96 2 Tryz.underlying98 tsize_96
theorem ia_slI_98 : type_of% ia_slI_98x := ia_slI_98x
def len_slN_98x := fun S => @len_slN E0 S 98 96 Tryz.underlying98
theorem len_slN_98 : type_of% len_slN_98x := len_slN_98x
def len_slI_98x := fun S => @len_slI E0 S 98 96 Tryz.underlying98
theorem len_slI_98 : type_of% len_slI_98x := len_slI_98x
def len_slR_98x := fun S => @len_slR E0 S 98 96 Tryz.underlying98
theorem len_slR_98 : type_of% len_slR_98x := len_slR_98x
def ia_slR_102x := @ia_slR E0 102 104 3 Tryz.underlying102 tsize_104
theorem ia_slR_102 : type_of% ia_slR_102x := ia_slR_102x
def ia_slI_102x := @ia_slI E0 102 104 3 Tryz.underlying102 tsize_104
theorem ia_slI_102 : type_of% ia_slI_102x := ia_slI_102x
def len_slN_102x := fun S => @len_slN E0 S 102 104 Tryz.underlying102
theorem len_slN_102 : type_of% len_slN_102x := len_slN_102x
def len_slI_102x := fun S => @len_slI E0 S 102 104 Tryz.underlying102
theorem len_slI_102 : type_of% len_slI_102x := len_slI_102x
def len_slR_102x := fun S => @len_slR E0 S 102 104 Tryz.underlying102
theorem len_slR_102 : type_of% len_slR_102x := len_slR_102x
def ia_slR_140x := @ia_slR E0 140 5 1 Tryz.underlying140 tsize_5
theorem ia_slR_140 : type_of% ia_slR_140x := ia_slR_140x
def ia_slI_140x := @ia_slI E0 140 5 1 Tryz.underlying140 tsize_5
theorem ia_slI_140 : type_of% ia_slI_140x := ia_slI_140x
def len_slN_140x := fun S => @len_slN E0 S 140 5 Tryz.underlying140
theorem len_slN_140 : type_of% len_slN_140x := len_slN_140x
def len_slI_140x := fun S => @len_slI E0 S 140 5 Tryz.underlying140
theorem len_slI_140 : type_of% len_slI_140x := len_slI_140x
def len_slR_140x := fun S => @len_slR E0 S 140 5 Tryz.underlying140
theorem len_slR_140 : type_of% len_slR_140x := len_slR_140x
def ia_slR_192x := @ia_slR E0 192 28 1 Tryz.underlying192 tsize_28
theorem ia_slR_192 : type_of% ia_slR_192x := ia_slR_192x
def ia_slI_192x := @ia_slI E0 192 28 1 Tryz.underlying192 tsize_28
theorem ia_slI_192 : type_of% ia_slI_192x := ia_slI_192x
def len_slN_192x := fun S => @len_slN E0 S 192 28 Tryz.underlying192
theorem len_slN_192 : type_of% len_slN_192x := len_slN_192x
def len_slI_192x := fun S => @len_slI E0 S 192 28 Tryz.underlying192
theorem len_slI_192 : type_of% len_slI_192x := len_slI_192x
def len_slR_192x := fun S => @len_slR E0 S 192 28 Tryz.underlying192
theorem len_slR_192 : type_of% len_slR_192x := len_slR_192x
def ld_ref_0x := fun S => @ld_ref E0 S 0 isAggO_0
theorem ld_ref_0 : type_of% ld_ref_0x := ld_ref_0x
def ld_imm_0x := fun S => @ld_imm E0 S 0 isAggO_0
theorem ld_imm_0 : type_of% ld_imm_0x := ld_imm_0x
def ld_ref_1x := fun S => @ld_ref E0 S 1 isAggO_1
theorem ld_ref_1 : type_of% ld_ref_1x := ld_ref_1x
def ld_imm_1x := fun S => @ld_imm E0 S 1 isAggO_1
theorem ld_imm_1 : type_of% ld_imm_1x := ld_imm_1x
def ld_ref_2x := fun S => @ld_ref E0 S 2 isAggO_2
theorem ld_ref_2 : type_of% ld_ref_2x := ld_ref_2x
def ld_imm_2x := fun S => @ld_imm E0 S 2 isAggO_2
theorem ld_imm_2 : type_of% ld_imm_2x := ld_imm_2x
def ld_ref_3x := fun S => @ld_ref E0 S 3 isAggO_3
theorem ld_ref_3 : type_of% ld_ref_3x := ld_ref_3x
def ld_imm_3x := fun S => @ld_imm E0 S 3 isAggO_3
theorem ld_imm_3 : type_of% ld_imm_3x := ld_imm_3x
def ld_ref_4x := fun S => @ld_ref E0 S 4 isAggO_4
theorem ld_ref_4 : type_of% ld_ref_4x := ld_ref_4x
def ld_imm_4x := fun S => @ld_imm E0 S 4 isAggO_4
theorem ld_imm_4 : type_of% ld_imm_4x := ld_imm_4x
def ld_ref_5x := fun S => @ld_ref E0 S 5 isAggO_5
theorem ld_ref_5 : type_of% ld_ref_5x := ld_ref_5x
def ld_imm_5x := fun S => @ld_imm E0 S 5 isAggO_5
theorem ld_imm_5 : type_of% ld_imm_5x := ld_imm_5x
def ld_ref_9x := fun S => @ld_ref E0 S 9 isAggO_9
theorem ld_ref_9 : type_of% ld_ref_9x := ld_ref_9x
def ld_imm_9x := fun S => @ld_imm E0 S 9 isAggO_9
theorem ld_imm_9 : type_of% ld_imm_9x := ld_imm_9x
def ld_ref_20x := fun S => @ld_ref E0 S 20 isAggO_20
theorem ld_ref_20 : type_of% ld_ref_20x := ld_ref_20x
def ld_imm_20x := fun S => @ld_imm E0 S 20 isAggO_20
theorem ld_imm_20 : type_of% ld_imm_20x := ld_imm_20x
def ld_ref_21x := fun S => @ld_ref E0 S 21 isAggO_21
theorem ld_ref_21 : type_of% ld_ref_21x := ld_ref_21x
def ld_imm_21x := fun S => @ld_imm E0 S 21 isAggO_21
theorem ld_imm_21 : type_of% ld_imm_21x := ld_imm_21x
def ld_ref_22x := fun S => @ld_ref E0 S 22 isAggO_22
theorem ld_ref_22 : type_of% ld_ref_22x := ld_ref_22x
def ld_imm_22x := fun S => @ld_imm E0 S 22 isAggO_22
theorem ld_imm_22 : type_of% ld_imm_22x := ld_imm_22x
def ld_ref_23x := fun S => @ld_ref E0 S 23 isAggO_23
theorem ld_ref_23 : type_of% ld_ref_23x := ld_ref_23x
def ld_imm_23x := fun S => @ld_imm E0 S 23 isAggO_23
theorem ld_imm_23 : type_of% ld_imm_23x := ld_imm_23x
def ld_agg_25x := fun S => @ld_agg E0 S 25 2 isAggO_25 tsize_25
theorem ld_agg_25 : type_of% ld_agg_25x := ld_agg_25x
def ld_ref_27x := fun S => @ld_ref E0 S 27 isAggO_27
theorem ld_ref_27 : type_of% ld_ref_27x := ld_ref_27x
def ld_imm_27x := fun S => @ld_imm E0 S 27 isAggO_27
theorem ld_imm_27 : type_of% ld_imm_27x := ld_imm_27x
def ld_ref_28x := fun S => @ld_ref E0 S 28 isAggO_28
theorem ld_ref_28 : type_of% ld_ref_28x := ld_ref_28x
def ld_imm_28x := fun S => @ld_imm E0 S 28 isAggO_28
theorem ld_imm_28 : type_of% ld_imm_28x := ld_imm_28x
def ld_agg_30x := fun S => @ld_agg E0 S 30 2 isAggO_30 tsize_30
theorem ld_agg_30 : type_of% ld_agg_30x := ld_agg_30x
def ld_ref_31x := fun S => @ld_ref E0 S 31 isAggO_31
theorem ld_ref_31 : type_of% ld_ref_31x := ld_ref_31x
def ld_imm_31x := fun S => @ld_imm E0 S 31 isAggO_31
theorem ld_imm_31 : type_of% ld_imm_31x := ld_imm_31x
def ld_ref_33x := fun S => @ld_ref E0 S 33 isAggO_33
theorem ld_ref_33 : type_of% ld_ref_33x := ld_ref_33x
def ld_imm_33x := fun S => @ld_imm E0 S 33 isAggO_33
theorem ld_imm_33 : type_of% ld_imm_33x := ld_imm_33x
def ld_ref_34x := fun S => @ld_ref E0 S 34 isAggO_34
theorem ld_ref_34 : type_of% ld_ref_34x := ld_ref_34x
def ld_imm_34x := fun S => @ld_imm E0 S 34 isAggO_34
theorem ld_imm_34 : type_of% ld_imm_34x := ld_imm_34x
def ld_ref_35x := fun S => @ld_ref E0 S 35 isAggO_35
theorem ld_ref_35 : type_of% ld_ref_35x := ld_ref_35x
def ld_imm_35x := fun S => @ld_imm E0 S 35 isAggO_35
theorem ld_imm_35 : type_of% ld_imm_35x := ld_imm_35x
def ld_ref_41x := fun S => @ld_ref E0 S 41 isAggO_41
theorem ld_ref_41 : type_of% ld_ref_41x := ld_ref_41x
def ld_imm_41x := fun S => @ld_imm E0 S 41 isAggO_41
theorem ld_imm_41 : type_of% ld_imm_41x := ld_imm_41x
def ld_agg_43x := fun S => @ld_agg E0 S 43 2 isAggO_43 tsize_43
theorem ld_agg_43 : type_of% ld_agg_43x := ld_agg_43x
def ld_ref_50x := fun S => @ld_ref E0 S 50 isAggO_50
theorem ld_ref_50 : type_of% ld_ref_50x := ld_ref_50x
def ld_imm_50x := fun S => @ld_imm E0 S 50 isAggO_50
theorem ld_imm_50 : type_of% ld_imm_50x := ld_imm_50x
def ld_agg_52x := fun S => @ld_agg E0 S 52 2 isAggO_52 tsize_52
theorem ld_agg_52 : type_of% ld_agg_52x := ld_agg_52x
def ld_agg_55x := fun S => @ld_agg E0 S 55 2 isAggO_55 tsize_55
theorem ld_agg_55 : type_of% ld_agg_55x := ld_agg_55x
def ld_ref_58x := fun S => @ld_ref E0 S 58 isAggO_58
theorem ld_ref_58 : type_of% ld_ref_58x := ld_ref_58x
def ld_imm_58x := fun S => @ld_imm E0 S 58 isAggO_58
theorem ld_imm_58 : type_of% ld_imm_58x := ld_imm_58x
def ld_ref_60x := fun S => @ld_ref E0 S 60 isAggO_60
theorem ld_ref_60 : type_of% ld_ref_60x := ld_ref_60x
def ld_imm_60x := fun S => @ld_imm E0 S 60 isAggO_60
theorem ld_imm_60 : type_of% ld_imm_60x := ld_imm_60x
def ld_ref_62x := fun S => @ld_ref E0 S 62 isAggO_62
theorem ld_ref_62 : type_of% ld_ref_62x := ld_ref_62x
def ld_imm_62x := fun S => @ld_imm E0 S 62 isAggO_62
theorem ld_imm_62 : type_of% ld_imm_62x := ld_imm_62x
def ld_ref_65x := fun S => @ld_ref E0 S 65 isAggO_65
theorem ld_ref_65 : type_of% ld_ref_65x := ld_ref_65x
def ld_imm_65x := fun S => @ld_imm E0 S 65 isAggO_65
theorem ld_imm_65 : type_of% ld_imm_65x := ld_imm_65x
def ld_agg_69x := fun S => @ld_agg E0 S 69 0 isAggO_69 tsize_69
theorem ld_agg_69 : type_of% ld_agg_69x := ld_agg_69x
def ld_agg_70x := fun S => @ld_agg E0 S 70 0 isAggO_70 tsize_70
theorem ld_agg_70 : type_of% ld_agg_70x := ld_agg_70x
def ld_ref_71x := fun S => @ld_ref E0 S 71 isAggO_71
theorem ld_ref_71 : type_of% ld_ref_71x := ld_ref_71x
def ld_imm_71x := fun S => @ld_imm E0 S 71 isAggO_71
theorem ld_imm_71 : type_of% ld_imm_71x := ld_imm_71x
def ld_agg_73x := fun S => @ld_agg E0 S 73 1 isAggO_73 tsize_73
theorem ld_agg_73 : type_of% ld_agg_73x := ld_agg_73x
def ld_agg_75x := fun S => @ld_agg E0 S 75 2 isAggO_75 tsize_75
theorem ld_agg_75 : type_of% ld_agg_75x := ld_agg_75x
def ld_agg_77x := fun S => @ld_agg E0 S 77 2 isAggO_77 tsize_77
theorem ld_agg_77 : type_of% ld_agg_77x := ld_agg_77x
def ld_agg_79x := fun S => @ld_agg E0 S 79 3 isAggO_79 tsize_79
theorem ld_agg_79 : type_of% ld_agg_79x := ld_agg_79x
def ld_ref_80x := fun S => @ld_ref E0 S 80 isAggO_80
theorem ld_ref_80 : type_of% ld_ref_80x := ld_ref_80x
def ld_imm_80x := fun S => @ld_imm E0 S 80 isAggO_80
theorem ld_imm_80 : type_of% ld_imm_80x := ld_imm_80x
def ld_agg_82x := fun S => @ld_agg E0 S 82 2 isAggO_82 tsize_82
theorem ld_agg_82 : type_of% ld_agg_82x := ld_agg_82x
def ld_agg_84x := fun S => @ld_agg E0 S 84 7 isAggO_84 tsize_84
theorem ld_agg_84 : type_of% ld_agg_84x := ld_agg_84x
def ld_ref_91x := fun S => @ld_ref E0 S 91 isAggO_91
theorem ld_ref_91 : type_of% ld_ref_91x := ld_ref_91x
def ld_imm_91x := fun S => @ld_imm E0 S 91 isAggO_91
theorem ld_imm_91 : type_of% ld_imm_91x := ld_imm_91x
def ld_agg_96x := fun S => @ld_agg E0 S 96 2 isAggO_96 tsize_96
theorem ld_agg_96 : type_of% ld_agg_96x := ld_agg_96x
def ld_ref_97x := fun S => @ld_ref E0 S 97 isAggO_97
theorem ld_ref_97 : type_of% ld_ref_97x := ld_ref_97x
def ld_imm_97x := fun S => @ld_imm E0 S 97 isAggO_97
theorem ld_imm_97 : type_of% ld_imm_97x := ld_imm_97x
def ld_ref_98x := fun S => @ld_ref E0 S 98 isAggO_98
theorem ld_ref_98 : type_of% ld_ref_98x := ld_ref_98x
def ld_imm_98x := fun S => @ld_imm E0 S 98 isAggO_98
theorem ld_imm_98 : type_of% ld_imm_98x := ld_imm_98x
def ld_agg_100x := fun S => @ld_agg E0 S 100 6 isAggO_100 tsize_100
theorem ld_agg_100 : type_of% ld_agg_100x := ld_agg_100x
def ld_ref_102x := fun S => @ld_ref E0 S 102 isAggO_102
theorem ld_ref_102 : type_of% ld_ref_102x := ld_ref_102x
def ld_imm_102x := fun S => @ld_imm E0 S 102 isAggO_102
theorem ld_imm_102 : type_of% ld_imm_102x := ld_imm_102x
def ld_agg_104x := fun S => @ld_agg E0 S 104 3 isAggO_104 tsize_104
theorem ld_agg_104 : type_of% ld_agg_104x := ld_agg_104x
def ld_ref_106x := fun S => @ld_ref E0 S 106 isAggO_106
theorem ld_ref_106 : type_of% ld_ref_106x := ld_ref_106x
def ld_imm_106x := fun S => @ld_imm E0 S 106 isAggO_106
theorem ld_imm_106 : type_of% ld_imm_106x := ld_imm_106x
def ld_ref_108x := fun S => @ld_ref E0 S 108 isAggO_108
theorem ld_ref_108 : type_of% ld_ref_108x := ld_ref_108x
def ld_imm_108x := fun S => @ld_imm E0 S 108 isAggO_108
theorem ld_imm_108 : type_of% ld_imm_108x := ld_imm_108x
def ld_ref_111x := fun S => @ld_ref E0 S 111 isAggO_111
theorem ld_ref_111 : type_of% ld_ref_111x := ld_ref_111x
def ld_imm_111x := fun S => @ld_imm E0 S 111 isAggO_111
theorem ld_imm_111 : type_of% ld_imm_111x := ld_imm_111x
def ld_ref_114x := fun S => @ld_ref E0 S 114 isAggO_114
theorem ld_ref_114 : type_of% ld_ref_114x := ld_ref_114x
def ld_imm_114x := fun S => @ld_imm E0 S 114 isAggO_114
theorem ld_imm_114 : type_of% ld_imm_114x := ld_imm_114x
def ld_ref_117x := fun S => @ld_ref E0 S 117 isAggO_117
theorem ld_ref_117 : type_of% ld_ref_117x := ld_ref_117x
def ld_imm_117x := fun S => @ld_imm E0 S 117 isAggO_117
theorem ld_imm_117 : type_of% ld_imm_117x := ld_imm_117x
def ld_agg_121x := fun S => @ld_agg E0 S 121 5 isAggO_121 tsize_121
theorem ld_agg_121 : type_of% ld_agg_121x := ld_agg_121x
def ld_ref_123x := fun S => @ld_ref E0 S 123 isAggO_123
theorem ld_ref_123 : type_of% ld_ref_123x := ld_ref_123x
def ld_imm_123x := fun S => @ld_imm E0 S 123 isAggO_123
theorem ld_imm_123 : type_of% ld_imm_123x := ld_imm_123x
def ld_ref_125x := fun S => @ld_ref E0 S 125 isAggO_125
theorem ld_ref_125 : type_of% ld_ref_125x := ld_ref_125x
def ld_imm_125x := fun S => @ld_imm E0 S 125 isAggO_125
theorem ld_imm_125 : type_of% ld_imm_125x := ld_imm_125x
def ld_ref_127x := fun S => @ld_ref E0 S 127 isAggO_127
theorem ld_ref_127 : type_of% ld_ref_127x := ld_ref_127x
def ld_imm_127x := fun S => @ld_imm E0 S 127 isAggO_127
theorem ld_imm_127 : type_of% ld_imm_127x := ld_imm_127x
def ld_ref_132x := fun S => @ld_ref E0 S 132 isAggO_132
theorem ld_ref_132 : type_of% ld_ref_132x := ld_ref_132x
def ld_imm_132x := fun S => @ld_imm E0 S 132 isAggO_132
theorem ld_imm_132 : type_of% ld_imm_132x := ld_imm_132x
def ld_ref_136x := fun S => @ld_ref E0 S 136 isAggO_136
theorem ld_ref_136 : type_of% ld_ref_136x := ld_ref_136x
def ld_imm_136x := fun S => @ld_imm E0 S 136 isAggO_136
theorem ld_imm_136 : type_of% ld_imm_136x := ld_imm_136x
def ld_ref_139x := fun S => @ld_ref E0 S 139 isAggO_139
theorem ld_ref_139 : type_of% ld_ref_139x := ld_ref_139x
def ld_imm_139x := fun S => @ld_imm E0 S 139 isAggO_139
theorem ld_imm_139 : type_of% ld_imm_139x := ld_imm_139x
def ld_ref_140x := fun S => @ld_ref E0 S 140 isAggO_140
theorem ld_ref_140 : type_of% ld_ref_140x := ld_ref_140x
def ld_imm_140x := fun S => @ld_imm E0 S 140 isAggO_140
theorem ld_imm_140 : type_of% ld_imm_140x := ld_imm_140x
def ld_ref_141x := fun S => @ld_ref E0 S 141 isAggO_141
theorem ld_ref_141 : type_of% ld_ref_141x := ld_ref_141x
def ld_imm_141x := fun S => @ld_imm E0 S 141 isAggO_141
theorem ld_imm_141 : type_of% ld_imm_141x := ld_imm_141x
def ld_ref_142x := fun S => @ld_ref E0 S 142 isAggO_142
theorem ld_ref_142 : type_of% ld_ref_142x := ld_ref_142x
def ld_imm_142x := fun S => @ld_imm E0 S 142 isAggO_142
theorem ld_imm_142 : type_of% ld_imm_142x := ld_imm_142x
def ld_ref_148x := fun S => @ld_ref E0 S 148 isAggO_148
theorem ld_ref_148 : type_of% ld_ref_148x := ld_ref_148x
def ld_imm_148x := fun S => @ld_imm E0 S 148 isAggO_148
theorem ld_imm_148 : type_of% ld_imm_148x := ld_imm_148x
def ld_ref_150x := fun S => @ld_ref E0 S 150 isAggO_150
theorem ld_ref_150 : type_of% ld_ref_150x := ld_ref_150x
def ld_imm_150x := fun S => @ld_imm E0 S 150 isAggO_150
theorem ld_imm_150 : type_of% ld_imm_150x := ld_imm_150x
def ld_ref_151x := fun S => @ld_ref E0 S 151 isAggO_151
theorem ld_ref_151 : type_of% ld_ref_151x := ld_ref_151x
def ld_imm_151x := fun S => @ld_imm E0 S 151 isAggO_151
theorem ld_imm_151 : type_of% ld_imm_151x := ld_imm_151x
def ld_ref_154x := fun S => @ld_ref E0 S 154 isAggO_154
theorem ld_ref_154 : type_of% ld_ref_154x := ld_ref_154x
def ld_imm_154x := fun S => @ld_imm E0 S 154 isAggO_154
theorem ld_imm_154 : type_of% ld_imm_154x := ld_imm_154x
def ld_ref_155x := fun S => @ld_ref E0 S 155 isAggO_155
theorem ld_ref_155 : type_of% ld_ref_155x := ld_ref_155x
def ld_imm_155x := fun S => @ld_imm E0 S 155 isAggO_155
theorem ld_imm_155 : type_of% ld_imm_155x := ld_imm_155x
def ld_ref_156x := fun S => @ld_ref E0 S 156 isAggO_156
theorem ld_ref_156 : type_of% ld_ref_156x := ld_ref_156x
def ld_imm_156x := fun S => @ld_imm E0 S 156 isAggO_156
theorem ld_imm_156 : type_of% ld_imm_156x := ld_imm_156x
def ld_ref_163x := fun S => @ld_ref E0 S 163 isAggO_163
theorem ld_ref_163 : type_of% ld_ref_163x := ld_ref_163x
def ld_imm_163x := fun S => @ld_imm E0 S 163 isAggO_163
theorem ld_imm_163 : type_of% ld_imm_163x := ld_imm_163x
def ld_agg_165x := fun S => @ld_agg E0 S 165 2 isAggO_165 tsize_165
theorem ld_agg_165 : type_of% ld_agg_165x := ld_agg_165x
def ld_ref_167x := fun S => @ld_ref E0 S 167 isAggO_167
theorem ld_ref_167 : type_of% ld_ref_167x := ld_ref_167x
def ld_imm_167x := fun S => @ld_imm E0 S 167 isAggO_167
theorem ld_imm_167 : type_of% ld_imm_167x := ld_imm_167x
def ld_ref_168x := fun S => @ld_ref E0 S 168 isAggO_168
theorem ld_ref_168 : type_of% ld_ref_168x := ld_ref_168x
def ld_imm_168x := fun S => @ld_imm E0 S 168 isAggO_168
theorem ld_imm_168 : type_of% ld_imm_168x := ld_imm_168x
def ld_ref_172x := fun S => @ld_ref E0 S 172 isAggO_172
theorem ld_ref_172 : type_of% ld_ref_172x := ld_ref_172x
def ld_imm_172x := fun S => @ld_imm E0 S 172 isAggO_172
theorem ld_imm_172 : type_of% ld_imm_172x := ld_imm_172x
def ld_ref_174x := fun S => @ld_ref E0 S 174 isAggO_174
theorem ld_ref_174 : type_of% ld_ref_174x := ld_ref_174x
def ld_imm_174x := fun S => @ld_imm E0 S 174 isAggO_174
theorem ld_imm_174 : type_of% ld_imm_174x := ld_imm_174x
def ld_ref_175x := fun S => @ld_ref E0 S 175 isAggO_175
theorem ld_ref_175 : type_of% ld_ref_175x := ld_ref_175x
def ld_imm_175x := fun S => @ld_imm E0 S 175 isAggO_175
theorem ld_imm_175 : type_of% ld_imm_175x := ld_imm_175x
def ld_ref_178x := fun S => @ld_ref E0 S 178 isAggO_178
theorem ld_ref_178 : type_of% ld_ref_178x := ld_ref_178x
def ld_imm_178x := fun S => @ld_imm E0 S 178 isAggO_178
theorem ld_imm_178 : type_of% ld_imm_178x := ld_imm_178x
def ld_agg_181x := fun S => @ld_agg E0 S 181 1 isAggO_181 tsize_181
theorem ld_agg_181 : type_of% ld_agg_181x := ld_agg_181x
def ld_ref_182x := fun S => @ld_ref E0 S 182 isAggO_182
theorem ld_ref_182 : type_of% ld_ref_182x := ld_ref_182x
def ld_imm_182x := fun S => @ld_imm E0 S 182 isAggO_182
theorem ld_imm_182 : type_of% ld_imm_182x := ld_imm_182x
def ld_ref_185x := fun S => @ld_ref E0 S 185 isAggO_185
theorem ld_ref_185 : type_of% ld_ref_185x := ld_ref_185x
def ld_imm_185x := fun S => @ld_imm E0 S 185 isAggO_185
theorem ld_imm_185 : type_of% ld_imm_185x := ld_imm_185x
def ld_ref_189x := fun S => @ld_ref E0 S 189 isAggO_189
theorem ld_ref_189 : type_of% ld_ref_189x := ld_ref_189x
def ld_imm_189x := fun S => @ld_imm E0 S 189 isAggO_189
theorem ld_imm_189 : type_of% ld_imm_189x := ld_imm_189x
def ld_ref_191x := fun S => @ld_ref E0 S 191 isAggO_191
theorem ld_ref_191 : type_of% ld_ref_191x := ld_ref_191x
def ld_imm_191x := fun S => @ld_imm E0 S 191 isAggO_191
theorem ld_imm_191 : type_of% ld_imm_191x := ld_imm_191x
def ld_ref_192x := fun S => @ld_ref E0 S 192 isAggO_192
theorem ld_ref_192 : type_of% ld_ref_192x := ld_ref_192x
def ld_imm_192x := fun S => @ld_imm E0 S 192 isAggO_192
theorem ld_imm_192 : type_of% ld_imm_192x := ld_imm_192x
def ld_ref_196x := fun S => @ld_ref E0 S 196 isAggO_196
theorem ld_ref_196 : type_of% ld_ref_196x := ld_ref_196x
def ld_imm_196x := fun S => @ld_imm E0 S 196 isAggO_196
theorem ld_imm_196 : type_of% ld_imm_196x := ld_imm_196x
def ld_ref_201x := fun S => @ld_ref E0 S 201 isAggO_201
theorem ld_ref_201 : type_of% ld_ref_201x := ld_ref_201x
def ld_imm_201x := fun S => @ld_imm E0 S 201 isAggO_201
theorem ld_imm_201 : type_of% ld_imm_201x := ld_imm_201x
def ld_ref_203x := fun S => @ld_ref E0 S 203 isAggO_203
theorem ld_ref_203 : type_of% ld_ref_203x := ld_ref_203x
def ld_imm_203x := fun S => @ld_imm E0 S 203 isAggO_203
theorem ld_imm_203 : type_of% ld_imm_203x := ld_imm_203x
def ld_ref_205x := fun S => @ld_ref E0 S 205 isAggO_205
theorem ld_ref_205 : type_of% ld_ref_205x := ld_ref_205x
def ld_imm_205x := fun S => @ld_imm E0 S 205 isAggO_205
theorem ld_imm_205 : type_of% ld_imm_205x := ld_imm_205x
def ld_ref_207x := fun S => @ld_ref E0 S 207 isAggO_207
theorem ld_ref_207 : type_of% ld_ref_207x := ld_ref_207x
def ld_imm_207x := fun S => @ld_imm E0 S 207 isAggO_207
theorem ld_imm_207 : type_of% ld_imm_207x := ld_imm_207x
def ld_ref_209x := fun S => @ld_ref E0 S 209 isAggO_209
theorem ld_ref_209 : type_of% ld_ref_209x := ld_ref_209x
def ld_imm_209x := fun S => @ld_imm E0 S 209 isAggO_209
theorem ld_imm_209 : type_of% ld_imm_209x := ld_imm_209x
def ld_ref_211x := fun S => @ld_ref E0 S 211 isAggO_211
theorem ld_ref_211 : type_of% ld_ref_211x := ld_ref_211x
def ld_imm_211x := fun S => @ld_imm E0 S 211 isAggO_211
theorem ld_imm_211 : type_of% ld_imm_211x := ld_imm_211x
def ld_ref_222x := fun S => @ld_ref E0 S 222 isAggO_222
theorem ld_ref_222 : type_of% ld_ref_222x := ld_ref_222x
def ld_imm_222x := fun S => @ld_imm E0 S 222 isAggO_222
theorem ld_imm_222 : type_of% ld_imm_222x := ld_imm_222x
def ld_ref_227x := fun S => @ld_ref E0 S 227 isAggO_227
theorem ld_ref_227 : type_of% ld_ref_227x := ld_ref_227x
def ld_imm_227x := fun S => @ld_imm E0 S 227 isAggO_227
theorem ld_imm_227 : type_of% ld_imm_227x := ld_imm_227x
def ld_ref_229x := fun S => @ld_ref E0 S 229 isAggO_229
theorem ld_ref_229 : type_of% ld_ref_229x := ld_ref_229x
def ld_imm_229x := fun S => @ld_imm E0 S 229 isAggO_229
theorem ld_imm_229 : type_of% ld_imm_229x := ld_imm_229x
def ld_ref_233x := fun S => @ld_ref E0 S 233 isAggO_233
theorem ld_ref_233 : type_of% ld_ref_233x := ld_ref_233x
def ld_imm_233x := fun S => @ld_imm E0 S 233 isAggO_233
theorem ld_imm_233 : type_of% ld_imm_233x := ld_imm_233x
def ld_agg_239x := fun S => @ld_agg E0 S 239 256 isAggO_239 tsize_239
theorem ld_agg_239 : type_of% ld_agg_239x := ld_agg_239x
def ld_agg_241x := fun S => @ld_agg E0 S 241 2 isAggO_241 tsize_241
theorem ld_agg_241 : type_of% ld_agg_241x := ld_agg_241x
def ld_agg_242x := fun S => @ld_agg E0 S 242 32 isAggO_242 tsize_242
theorem ld_agg_242 : type_of% ld_agg_242x := ld_agg_242x
def ld_ref_243x := fun S => @ld_ref E0 S 243 isAggO_243
theorem ld_ref_243 : type_of% ld_ref_243x := ld_ref_243x
def ld_imm_243x := fun S => @ld_imm E0 S 243 isAggO_243
theorem ld_imm_243 : type_of% ld_imm_243x := ld_imm_243x
def idx_str_9x := @idx_str E0 9 Tryz.underlying9
theorem idx_str_9 : type_of% idx_str_9x := idx_str_9x
def len_str_9x := fun S => @len_str E0 S 9 Tryz.underlying9
theorem len_str_9 : type_of% len_str_9x := len_str_9x
def conv_bytes_9x := fun S => @conv_bytes E0 S 9 5 140 Tryz.underlying9 Tryz.underlying140 Tryz.underlying5
theorem conv_bytes_9 : type_of% conv_bytes_9x := conv_bytes_9x
def TYx := And.intro ia_slR_22 <| And.intro ia_slI_22 <| And.intro len_slN_22 <| And.intro len_slI_22 <| And.intro len_slR_22 <| And.intro ia_slR_23 <| And.intro ia_slI_23 <| And.intro len_slN_23 <| And.intro len_slI_23 <| And.intro len_slR_23 <| And.intro ia_slR_27 <| And.intro ia_slI_27 <| And.intro len_slN_27 <| And.intro len_slI_27 <| And.intro len_slR_27 <| And.intro ia_slR_28 <| And.intro ia_slI_28 <| And.intro len_slN_28 <| And.intro len_slI_28 <| And.intro len_slR_28 <| And.intro ia_slR_31 <| And.intro ia_slI_31 <| And.intro len_slN_31 <| And.intro len_slI_31 <| And.intro len_slR_31 <| And.intro ia_slR_41 <| And.intro ia_slI_41 <| And.intro len_slN_41 <| And.intro len_slI_41 <| And.intro len_slR_41 <| And.intro ia_slR_50 <| And.intro ia_slI_50 <| And.intro len_slN_50 <| And.intro len_slI_50 <| And.intro len_slR_50 <| And.intro ia_slR_97 <| And.intro ia_slI_97 <| And.intro len_slN_97 <| And.intro len_slI_97 <| And.intro len_slR_97 <| And.intro ia_slR_98 <| And.intro ia_slI_98 <| And.intro len_slN_98 <| And.intro len_slI_98 <| And.intro len_slR_98 <| And.intro ia_slR_102 <| And.intro ia_slI_102 <| And.intro len_slN_102 <| And.intro len_slI_102 <| And.intro len_slR_102 <| And.intro ia_slR_140 <| And.intro ia_slI_140 <| And.intro len_slN_140 <| And.intro len_slI_140 <| And.intro len_slR_140 <| And.intro ia_slR_192 <| And.intro ia_slI_192 <| And.intro len_slN_192 <| And.intro len_slI_192 <| And.intro len_slR_192 <| And.intro ld_ref_0 <| And.intro ld_imm_0 <| And.intro ld_ref_1 <| And.intro ld_imm_1 <| And.intro ld_ref_2 <| And.intro ld_imm_2 <| And.intro ld_ref_3 <| And.intro ld_imm_3 <| And.intro ld_ref_4 <| And.intro ld_imm_4 <| And.intro ld_ref_5 <| And.intro ld_imm_5 <| And.intro ld_ref_9 <| And.intro ld_imm_9 <| And.intro ld_ref_20 <| And.intro ld_imm_20 <| And.intro ld_ref_21 <| And.intro ld_imm_21 <| And.intro ld_ref_22 <| And.intro ld_imm_22 <| And.intro ld_ref_23 <| And.intro ld_imm_23 <| And.intro ld_agg_25 <| And.intro ld_ref_27 <| And.intro ld_imm_27 <| And.intro ld_ref_28 <| And.intro ld_imm_28 <| And.intro ld_agg_30 <| And.intro ld_ref_31 <| And.intro ld_imm_31 <| And.intro ld_ref_33 <| And.intro ld_imm_33 <| And.intro ld_ref_34 <| And.intro ld_imm_34 <| And.intro ld_ref_35 <| And.intro ld_imm_35 <| And.intro ld_ref_41 <| And.intro ld_imm_41 <| And.intro ld_agg_43 <| And.intro ld_ref_50 <| And.intro ld_imm_50 <| And.intro ld_agg_52 <| And.intro ld_agg_55 <| And.intro ld_ref_58 <| And.intro ld_imm_58 <| And.intro ld_ref_60 <| And.intro ld_imm_60 <| And.intro ld_ref_62 <| And.intro ld_imm_62 <| And.intro ld_ref_65 <| And.intro ld_imm_65 <| And.intro ld_agg_69 <| And.intro ld_agg_70 <| And.intro ld_ref_71 <| And.intro ld_imm_71 <| And.intro ld_agg_73 <| And.intro ld_agg_75 <| And.intro ld_agg_77 <| And.intro ld_agg_79 <| And.intro ld_ref_80 <| And.intro ld_imm_80 <| And.intro ld_agg_82 <| And.intro ld_agg_84 <| And.intro ld_ref_91 <| And.intro ld_imm_91 <| And.intro ld_agg_96 <| And.intro ld_ref_97 <| And.intro ld_imm_97 <| And.intro ld_ref_98 <| And.intro ld_imm_98 <| And.intro ld_agg_100 <| And.intro ld_ref_102 <| And.intro ld_imm_102 <| And.intro ld_agg_104 <| And.intro ld_ref_106 <| And.intro ld_imm_106 <| And.intro ld_ref_108 <| And.intro ld_imm_108 <| And.intro ld_ref_111 <| And.intro ld_imm_111 <| And.intro ld_ref_114 <| And.intro ld_imm_114 <| And.intro ld_ref_117 <| And.intro ld_imm_117 <| And.intro ld_agg_121 <| And.intro ld_ref_123 <| And.intro ld_imm_123 <| And.intro ld_ref_125 <| And.intro ld_imm_125 <| And.intro ld_ref_127 <| And.intro ld_imm_127 <| And.intro ld_ref_132 <| And.intro ld_imm_132 <| And.intro ld_ref_136 <| And.intro ld_imm_136 <| And.intro ld_ref_139 <| And.intro ld_imm_139 <| And.intro ld_ref_140 <| And.intro ld_imm_140 <| And.intro ld_ref_141 <| And.intro ld_imm_141 <| And.intro ld_ref_142 <| And.intro ld_imm_142 <| And.intro ld_ref_148 <| And.intro ld_imm_148 <| And.intro ld_ref_150 <| And.intro ld_imm_150 <| And.intro ld_ref_151 <| And.intro ld_imm_151 <| And.intro ld_ref_154 <| And.intro ld_imm_154 <| And.intro ld_ref_155 <| And.intro ld_imm_155 <| And.intro ld_ref_156 <| And.intro ld_imm_156 <| And.intro ld_ref_163 <| And.intro ld_imm_163 <| And.intro ld_agg_165 <| And.intro ld_ref_167 <| And.intro ld_imm_167 <| And.intro ld_ref_168 <| And.intro ld_imm_168 <| And.intro ld_ref_172 <| And.intro ld_imm_172 <| And.intro ld_ref_174 <| And.intro ld_imm_174 <| And.intro ld_ref_175 <| And.intro ld_imm_175 <| And.intro ld_ref_178 <| And.intro ld_imm_178 <| And.intro ld_agg_181 <| And.intro ld_ref_182 <| And.intro ld_imm_182 <| And.intro ld_ref_185 <| And.intro ld_imm_185 <| And.intro ld_ref_189 <| And.intro ld_imm_189 <| And.intro ld_ref_191 <| And.intro ld_imm_191 <| And.intro ld_ref_192 <| And.intro ld_imm_192 <| And.intro ld_ref_196 <| And.intro ld_imm_196 <| And.intro ld_ref_201 <| And.intro ld_imm_201 <| And.intro ld_ref_203 <| And.intro ld_imm_203 <| And.intro ld_ref_205 <| And.intro ld_imm_205 <| And.intro ld_ref_207 <| And.intro ld_imm_207 <| And.intro ld_ref_209 <| And.intro ld_imm_209 <| And.intro ld_ref_211 <| And.intro ld_imm_211 <| And.intro ld_ref_222 <| And.intro ld_imm_222 <| And.intro ld_ref_227 <| And.intro ld_imm_227 <| And.intro ld_ref_229 <| And.intro ld_imm_229 <| And.intro ld_ref_233 <| And.intro ld_imm_233 <| And.intro ld_agg_239 <| And.intro ld_agg_241 <| And.intro ld_agg_242 <| And.intro ld_ref_243 <| And.intro ld_imm_243 <| And.intro idx_str_9 <| And.intro len_str_9 <| conv_bytes_9
theorem TY : type_of% TYx := TYx
theorem WS.rl {k : List Todo} {fr : Fr} {S : Store} {Q : Ex → Fr → Store → Prop} {id : Nat} {ops : Array Oper} {fr' : Fr} {S' : Store} (g : WS E0 k fr' S' Q) (h : evOps E0 (vrun E0) ops.toList ops.toList fr S = some (fr', S') := by simp only [EV, TY, lget, ↓reduceIte, Nat.reduceEqDiff]; with_reducible rfl) : WS E0 (.code (.region id ops false) :: k) fr S Q := WS.region h g
theorem WS.r0 {k : List Todo} {fr : Fr} {S : Store} {Q : Ex → Fr → Store → Prop} {id : Nat} {ops : Array Oper} {fr' : Fr} {S' : Store} (g : WS E0 k fr' S' Q) (h : evOps E0 (vrun E0) ops.toList ops.toList fr S = some (fr', S') := by simp only [EV, TY, ↓reduceIte, Nat.reduceEqDiff]; with_reducible rfl) : WS E0 (.code (.region id ops false) :: k) fr S Q := WS.region h g
theorem bt50 : BTy E0 140 5 := ⟨Tryz.underlying140, Tryz.underlying5, tsize_5, tbytes_5, zeroV_5, isAggO_5⟩
theorem ety_22 : ETy E0 22 100 6 32 (.agg [.str [], .int .i64 0, .bool false, .bool false, .bool false, .bool false]) := ⟨Tryz.underlying22, elemT_22, tsize_100, tbytes_100, zeroV_100, rfl, rfl, by omega, by omega⟩
theorem ety_23 : ETy E0 23 121 5 88 (.agg [.str [], .int .i64 0, .str [], .slN, .slN]) := ⟨Tryz.underlying23, elemT_23, tsize_121, tbytes_121, zeroV_121, rfl, rfl, by omega, by omega⟩
theorem ety_28 : ETy E0 28 9 1 16 (.str []) := ⟨Tryz.underlying28, elemT_28, tsize_9, tbytes_9, zeroV_9, rfl, rfl, by omega, by omega⟩
theorem ety_31 : ETy E0 31 52 2 48 (.agg [.slN, .slN]) := ⟨Tryz.underlying31, elemT_31, tsize_52, tbytes_52, zeroV_52, rfl, rfl, by omega, by omega⟩
theorem ety_50 : ETy E0 50 55 2 40 (.agg [.str [], .slN]) := ⟨Tryz.underlying50, elemT_50, tsize_55, tbytes_55, zeroV_55, rfl, rfl, by omega, by omega⟩
theorem ety_192 : ETy E0 192 28 1 24 (.slN) := ⟨Tryz.underlying192, elemT_192, tsize_28, tbytes_28, zeroV_28, rfl, rfl, by omega, by omega⟩
end Go.Proofs.YtmmjlgocihhkcaaGreatDoor
