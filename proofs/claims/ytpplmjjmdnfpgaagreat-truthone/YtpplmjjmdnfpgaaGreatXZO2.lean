/- Each of them is the program's. -/
import Derived.Test.YtpplmjjmdnfpgaaGreatXZT2
import Derived.Test.YtpplmjjmdnfpgaaGreatProg
set_option maxRecDepth 100000
set_option maxHeartbeats 0
namespace Go.Ab.Z
open Go Go.Ab Go.Proofs
theorem ok55 : ∃ own, FnOk Tryz.prog 55 fn55 own := FnOk.of (own := ownL []) Tryz.func55 (by kernel_rfl)
theorem ok56 : ∃ own, FnOk Tryz.prog 56 fn56 own := FnOk.of (own := ownL []) Tryz.func56 (by kernel_rfl)
theorem ok57 : ∃ own, FnOk Tryz.prog 57 fn57 own := FnOk.of (own := ownL []) Tryz.func57 (by kernel_rfl)
theorem ok59 : ∃ own, FnOk Tryz.prog 59 fn59 own := FnOk.of (own := ownL []) Tryz.func59 (by kernel_rfl)
theorem ok60 : ∃ own, FnOk Tryz.prog 60 fn60 own := FnOk.of (own := ownL []) Tryz.func60 (by kernel_rfl)
theorem ok61 : ∃ own, FnOk Tryz.prog 61 fn61 own := FnOk.of (own := ownL []) Tryz.func61 (by kernel_rfl)
theorem ok62 : ∃ own, FnOk Tryz.prog 62 fn62 own := FnOk.of (own := ownL []) Tryz.func62 (by kernel_rfl)
theorem ok63 : ∃ own, FnOk Tryz.prog 63 fn63 own := FnOk.of (own := ownL []) Tryz.func63 (by kernel_rfl)
theorem ok64 : ∃ own, FnOk Tryz.prog 64 fn64 own := FnOk.of (own := ownL []) Tryz.func64 (by kernel_rfl)
theorem ok65 : ∃ own, FnOk Tryz.prog 65 fn65 own := FnOk.of (own := ownL []) Tryz.func65 (by kernel_rfl)
theorem ok66 : ∃ own, FnOk Tryz.prog 66 fn66 own := FnOk.of (own := ownL []) Tryz.func66 (by kernel_rfl)
theorem ok67 : ∃ own, FnOk Tryz.prog 67 fn67 own := FnOk.of (own := ownL []) Tryz.func67 (by kernel_rfl)
theorem ok68 : ∃ own, FnOk Tryz.prog 68 fn68 own := FnOk.of (own := ownL []) Tryz.func68 (by kernel_rfl)
theorem ok69 : ∃ own, FnOk Tryz.prog 69 fn69 own := FnOk.of (own := ownL []) Tryz.func69 (by kernel_rfl)
theorem ok70 : ∃ own, FnOk Tryz.prog 70 fn70 own := FnOk.of (own := ownL []) Tryz.func70 (by kernel_rfl)
theorem ok71 : ∃ own, FnOk Tryz.prog 71 fn71 own := FnOk.of (own := ownL []) Tryz.func71 (by kernel_rfl)
theorem ok72 : ∃ own, FnOk Tryz.prog 72 fn72 own := FnOk.of (own := ownL []) Tryz.func72 (by kernel_rfl)
theorem ok73 : ∃ own, FnOk Tryz.prog 73 fn73 own := FnOk.of (own := ownL []) Tryz.func73 (by kernel_rfl)
theorem ok74 : ∃ own, FnOk Tryz.prog 74 fn74 own := FnOk.of (own := ownL []) Tryz.func74 (by kernel_rfl)
theorem ok75 : ∃ own, FnOk Tryz.prog 75 fn75 own := FnOk.of (own := ownL []) Tryz.func75 (by kernel_rfl)
theorem ok76 : ∃ own, FnOk Tryz.prog 76 fn76 own := FnOk.of (own := ownL []) Tryz.func76 (by kernel_rfl)
theorem ok77 : ∃ own, FnOk Tryz.prog 77 fn77 own := FnOk.of (own := ownL []) Tryz.func77 (by kernel_rfl)
theorem ok78 : ∃ own, FnOk Tryz.prog 78 fn78 own := FnOk.of (own := ownL []) Tryz.func78 (by kernel_rfl)
theorem ok79 : ∃ own, FnOk Tryz.prog 79 fn79 own := FnOk.of (own := ownL []) Tryz.func79 (by kernel_rfl)
theorem ok80 : ∃ own, FnOk Tryz.prog 80 fn80 own := FnOk.of (own := ownL []) Tryz.func80 (by kernel_rfl)
theorem ok81 : ∃ own, FnOk Tryz.prog 81 fn81 own := FnOk.of (own := ownL []) Tryz.func81 (by kernel_rfl)
theorem ok82 : ∃ own, FnOk Tryz.prog 82 fn82 own := FnOk.of (own := ownL []) Tryz.func82 (by kernel_rfl)
theorem ok83 : ∃ own, FnOk Tryz.prog 83 fn83 own := FnOk.of (own := ownL []) Tryz.func83 (by kernel_rfl)
theorem ok84 : ∃ own, FnOk Tryz.prog 84 fn84 own := FnOk.of (own := ownL []) Tryz.func84 (by kernel_rfl)
theorem ok85 : ∃ own, FnOk Tryz.prog 85 fn85 own := FnOk.of (own := ownL []) Tryz.func85 (by kernel_rfl)
theorem ok86 : ∃ own, FnOk Tryz.prog 86 fn86 own := FnOk.of (own := ownL []) Tryz.func86 (by kernel_rfl)
end Go.Ab.Z
