import Derived.Test.YtmmjlgocihhkcaaGreatDoorPartN
set_option linter.all false
namespace Go.Proofs.YtmmjlgocihhkcaaGreatDoor
open Go Go.Vm
set_option maxRecDepth 100000
set_option maxHeartbeats 8000000
end Go.Proofs.YtmmjlgocihhkcaaGreatDoor
