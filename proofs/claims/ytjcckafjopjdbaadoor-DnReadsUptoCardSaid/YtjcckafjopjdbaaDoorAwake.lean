import Derived.Test.YtjcckafjopjdbaaDoorBase
import Derived.Test.YtjcckafjopjdbaaDoorVmE
set_option linter.all false
namespace Go.Proofs.YtjcckafjopjdbaaDoor
open Go Go.Vm
set_option maxRecDepth 100000
/-- Some of the chapter's examples: run. -/
theorem awake_ok : vcall E0 100 (.fn 9) [] [] = some (.bool true, []) := by kernel_rfl
theorem awake_run : vrun E0 (.fn 9) [] [] = some (.bool true, []) := vrun_at awake_ok
end Go.Proofs.YtjcckafjopjdbaaDoor
