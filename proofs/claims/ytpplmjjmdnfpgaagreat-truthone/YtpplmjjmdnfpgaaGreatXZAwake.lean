/- The statement's own example, run by our interpreter in the kernel. -/
import Derived.Test.YtpplmjjmdnfpgaaGreatXZTab
import Derived.Test.YtpplmjjmdnfpgaaGreatXAbY
set_option maxRecDepth 1000000
set_option maxHeartbeats 0
namespace Go.Ab.Z
open Go.Ab
theorem awake19 : D tb 24 [] [] = some (.ret (.bool true) []) := D_run 1000 100 (by kernel_rfl)
end Go.Ab.Z
