/- Each of them is the program's. -/
import Derived.Test.YtpplmjjmdnfpgaaGreatXZT6
import Derived.Test.YtpplmjjmdnfpgaaGreatProg
set_option maxRecDepth 100000
set_option maxHeartbeats 0
namespace Go.Ab.Z
open Go Go.Ab Go.Proofs
theorem ok222 : ∃ own, FnOk Tryz.prog 222 fn222 own := FnOk.of (own := ownL []) Tryz.func222 (by kernel_rfl)
theorem ok224 : ∃ own, FnOk Tryz.prog 224 fn224 own := FnOk.of (own := ownL []) Tryz.func224 (by kernel_rfl)
theorem ok225 : ∃ own, FnOk Tryz.prog 225 fn225 own := FnOk.of (own := ownL []) Tryz.func225 (by kernel_rfl)
end Go.Ab.Z
