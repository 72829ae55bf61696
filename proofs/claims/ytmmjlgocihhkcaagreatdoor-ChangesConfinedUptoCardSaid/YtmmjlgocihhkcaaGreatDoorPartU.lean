import Derived.Test.YtmmjlgocihhkcaaGreatDoorPartT
set_option linter.all false
namespace Go.Proofs.YtmmjlgocihhkcaaGreatDoor
open Go Go.Vm
set_option maxRecDepth 100000
set_option maxHeartbeats 8000000
theorem inT_snoc (g : List (List UInt8)) (k : Nat) (hk : k < g.length) (n : List UInt8) : inT (g.take (k + 1)) n = (inT (g.take k) n || (smallS g[k] == smallS n)) := by
 unfold inT
 rw [List.take_succ_eq_append_getElem hk, List.any_append]
 simp
end Go.Proofs.YtmmjlgocihhkcaaGreatDoor
