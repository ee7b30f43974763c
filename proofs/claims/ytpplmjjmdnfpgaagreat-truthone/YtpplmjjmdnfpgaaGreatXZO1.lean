/- Each of them is the program's. -/
import Derived.Test.YtpplmjjmdnfpgaaGreatXZT1
import Derived.Test.YtpplmjjmdnfpgaaGreatProg
set_option maxRecDepth 100000
set_option maxHeartbeats 0
namespace Go.Ab.Z
open Go Go.Ab Go.Proofs
theorem ok28 : ∃ own, FnOk Tryz.prog 28 fn28 own := FnOk.of (own := ownL []) Tryz.func28 (by kernel_rfl)
theorem ok29 : ∃ own, FnOk Tryz.prog 29 fn29 own := FnOk.of (own := ownL []) Tryz.func29 (by kernel_rfl)
theorem ok30 : ∃ own, FnOk Tryz.prog 30 fn30 own := FnOk.of (own := ownL []) Tryz.func30 (by kernel_rfl)
theorem ok31 : ∃ own, FnOk Tryz.prog 31 fn31 own := FnOk.of (own := ownL []) Tryz.func31 (by kernel_rfl)
theorem ok32 : ∃ own, FnOk Tryz.prog 32 fn32 own := FnOk.of (own := ownL []) Tryz.func32 (by kernel_rfl)
theorem ok33 : ∃ own, FnOk Tryz.prog 33 fn33 own := FnOk.of (own := ownL []) Tryz.func33 (by kernel_rfl)
theorem ok34 : ∃ own, FnOk Tryz.prog 34 fn34 own := FnOk.of (own := ownL []) Tryz.func34 (by kernel_rfl)
theorem ok35 : ∃ own, FnOk Tryz.prog 35 fn35 own := FnOk.of (own := ownL []) Tryz.func35 (by kernel_rfl)
theorem ok36 : ∃ own, FnOk Tryz.prog 36 fn36 own := FnOk.of (own := ownL []) Tryz.func36 (by kernel_rfl)
theorem ok37 : ∃ own, FnOk Tryz.prog 37 fn37 own := FnOk.of (own := ownL []) Tryz.func37 (by kernel_rfl)
theorem ok38 : ∃ own, FnOk Tryz.prog 38 fn38 own := FnOk.of (own := ownL []) Tryz.func38 (by kernel_rfl)
theorem ok39 : ∃ own, FnOk Tryz.prog 39 fn39 own := FnOk.of (own := ownL []) Tryz.func39 (by kernel_rfl)
theorem ok40 : ∃ own, FnOk Tryz.prog 40 fn40 own := FnOk.of (own := ownL []) Tryz.func40 (by kernel_rfl)
theorem ok41 : ∃ own, FnOk Tryz.prog 41 fn41 own := FnOk.of (own := ownL []) Tryz.func41 (by kernel_rfl)
theorem ok42 : ∃ own, FnOk Tryz.prog 42 fn42 own := FnOk.of (own := ownL []) Tryz.func42 (by kernel_rfl)
theorem ok43 : ∃ own, FnOk Tryz.prog 43 fn43 own := FnOk.of (own := ownL []) Tryz.func43 (by kernel_rfl)
theorem ok44 : ∃ own, FnOk Tryz.prog 44 fn44 own := FnOk.of (own := ownL []) Tryz.func44 (by kernel_rfl)
theorem ok45 : ∃ own, FnOk Tryz.prog 45 fn45 own := FnOk.of (own := ownL []) Tryz.func45 (by kernel_rfl)
theorem ok46 : ∃ own, FnOk Tryz.prog 46 fn46 own := FnOk.of (own := ownL []) Tryz.func46 (by kernel_rfl)
theorem ok47 : ∃ own, FnOk Tryz.prog 47 fn47 own := FnOk.of (own := ownL []) Tryz.func47 (by kernel_rfl)
theorem ok48 : ∃ own, FnOk Tryz.prog 48 fn48 own := FnOk.of (own := ownL []) Tryz.func48 (by kernel_rfl)
theorem ok49 : ∃ own, FnOk Tryz.prog 49 fn49 own := FnOk.of (own := ownL []) Tryz.func49 (by kernel_rfl)
theorem ok50 : ∃ own, FnOk Tryz.prog 50 fn50 own := FnOk.of (own := ownL []) Tryz.func50 (by kernel_rfl)
theorem ok51 : ∃ own, FnOk Tryz.prog 51 fn51 own := FnOk.of (own := ownL []) Tryz.func51 (by kernel_rfl)
theorem ok52 : ∃ own, FnOk Tryz.prog 52 fn52 own := FnOk.of (own := ownL []) Tryz.func52 (by kernel_rfl)
theorem ok53 : ∃ own, FnOk Tryz.prog 53 fn53 own := FnOk.of (own := ownL []) Tryz.func53 (by kernel_rfl)
theorem ok54 : ∃ own, FnOk Tryz.prog 54 fn54 own := FnOk.of (own := ownL []) Tryz.func54 (by kernel_rfl)
end Go.Ab.Z
