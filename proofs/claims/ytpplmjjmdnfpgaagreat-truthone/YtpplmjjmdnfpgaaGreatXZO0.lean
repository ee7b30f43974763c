/- Each of them is the program's. -/
import Derived.Test.YtpplmjjmdnfpgaaGreatXZT0
import Derived.Test.YtpplmjjmdnfpgaaGreatProg
set_option maxRecDepth 100000
set_option maxHeartbeats 0
namespace Go.Ab.Z
open Go Go.Ab Go.Proofs
theorem ok2 : ∃ own, FnOk Tryz.prog 2 fn2 own := FnOk.of (own := ownL []) Tryz.func2 (by kernel_rfl)
theorem ok3 : ∃ own, FnOk Tryz.prog 3 fn3 own := FnOk.of (own := ownL []) Tryz.func3 (by kernel_rfl)
theorem ok4 : ∃ own, FnOk Tryz.prog 4 fn4 own := FnOk.of (own := ownL []) Tryz.func4 (by kernel_rfl)
theorem ok5 : ∃ own, FnOk Tryz.prog 5 fn5 own := FnOk.of (own := ownL []) Tryz.func5 (by kernel_rfl)
theorem ok6 : ∃ own, FnOk Tryz.prog 6 fn6 own := FnOk.of (own := ownL []) Tryz.func6 (by kernel_rfl)
theorem ok7 : ∃ own, FnOk Tryz.prog 7 fn7 own := FnOk.of (own := ownL []) Tryz.func7 (by kernel_rfl)
theorem ok8 : ∃ own, FnOk Tryz.prog 8 fn8 own := FnOk.of (own := ownL []) Tryz.func8 (by kernel_rfl)
theorem ok9 : ∃ own, FnOk Tryz.prog 9 fn9 own := FnOk.of (own := ownL []) Tryz.func9 (by kernel_rfl)
theorem ok11 : ∃ own, FnOk Tryz.prog 11 fn11 own := FnOk.of (own := ownL []) Tryz.func11 (by kernel_rfl)
theorem ok12 : ∃ own, FnOk Tryz.prog 12 fn12 own := FnOk.of (own := ownL []) Tryz.func12 (by kernel_rfl)
theorem ok13 : ∃ own, FnOk Tryz.prog 13 fn13 own := FnOk.of (own := ownL []) Tryz.func13 (by kernel_rfl)
theorem ok14 : ∃ own, FnOk Tryz.prog 14 fn14 own := FnOk.of (own := ownL []) Tryz.func14 (by kernel_rfl)
theorem ok15 : ∃ own, FnOk Tryz.prog 15 fn15 own := FnOk.of (own := ownL []) Tryz.func15 (by kernel_rfl)
theorem ok16 : ∃ own, FnOk Tryz.prog 16 fn16 own := FnOk.of (own := ownL []) Tryz.func16 (by kernel_rfl)
theorem ok17 : ∃ own, FnOk Tryz.prog 17 fn17 own := FnOk.of (own := ownL []) Tryz.func17 (by kernel_rfl)
theorem ok18 : ∃ own, FnOk Tryz.prog 18 fn18 own := FnOk.of (own := ownL []) Tryz.func18 (by kernel_rfl)
theorem ok19 : ∃ own, FnOk Tryz.prog 19 fn19 own := FnOk.of (own := ownL []) Tryz.func19 (by kernel_rfl)
theorem ok20 : ∃ own, FnOk Tryz.prog 20 fn20 own := FnOk.of (own := ownL []) Tryz.func20 (by kernel_rfl)
theorem ok21 : ∃ own, FnOk Tryz.prog 21 fn21 own := FnOk.of (own := ownL []) Tryz.func21 (by kernel_rfl)
theorem ok22 : ∃ own, FnOk Tryz.prog 22 fn22 own := FnOk.of (own := ownL []) Tryz.func22 (by kernel_rfl)
theorem ok23 : ∃ own, FnOk Tryz.prog 23 fn23 own := FnOk.of (own := ownL []) Tryz.func23 (by kernel_rfl)
theorem ok24 : ∃ own, FnOk Tryz.prog 24 fn24 own := FnOk.of (own := ownL []) Tryz.func24 (by kernel_rfl)
theorem ok25 : ∃ own, FnOk Tryz.prog 25 fn25 own := FnOk.of (own := ownL []) Tryz.func25 (by kernel_rfl)
theorem ok26 : ∃ own, FnOk Tryz.prog 26 fn26 own := FnOk.of (own := ownL []) Tryz.func26 (by kernel_rfl)
theorem ok27 : ∃ own, FnOk Tryz.prog 27 fn27 own := FnOk.of (own := ownL []) Tryz.func27 (by kernel_rfl)
end Go.Ab.Z
