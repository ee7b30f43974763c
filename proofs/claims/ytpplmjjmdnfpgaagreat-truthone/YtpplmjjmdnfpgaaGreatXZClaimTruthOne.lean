/- TruthOne says true for every two data, and its arguments read as before. Conditions: none but the statement's own. -/
import Derived.Test.YtpplmjjmdnfpgaaGreatXZLaw19a
import Derived.Test.YtpplmjjmdnfpgaaGreatXZOk
import Derived.Test.YtpplmjjmdnfpgaaGreatXZDec
import Derived.Test.YtpplmjjmdnfpgaaGreatXAbF2
import Derived.Test.YtpplmjjmdnfpgaaGreatRows
import Derived.ProofKit
set_option maxRecDepth 100000
namespace Go.Proofs.YtpplmjjmdnfpgaaGreat
open Go Go.Ab Go.Ab.Z Go.ChangeShapes Go.WideShapes Go.ChangeAt Go.RowKit
theorem X.own : ownKnob Tryz.prog.godebug = none := by kernel_rfl
theorem X.laidOut : laidOutB Tryz.prog = true := by kernel_rfl
theorem one_lifted (os : Os) (started : os.Started) (H : Type) (enc : TypeId × Value → H) :
    ReturnsInHanded {} Tryz.checked os 9 .any (Rows.truthOneSpec.pre6 enc Tryz.prog Tryz.f9 Rows.truthOneRow.domain false) (Rows.truthOneSpec.post enc Tryz.prog Tryz.f9 false true false false) := by
  refine returnsInHanded_of_change (C := Tryz.checked) X.own started (by kernel_rfl) Tryz.func9
    (ChangeSpec.witness6 (enc := enc) (C := Tryz.checked) false ⟨#[], #[.agg #[.int .i64 0, .bool false, .int .u64 0, .string ⟨#[]⟩], .agg #[.int .i64 0, .bool false, .int .u64 0, .string ⟨#[]⟩]], []⟩ 8 (by kernel_rfl) (by kernel_rfl) (by kernel_rfl) (by kernel_rfl)) ?_
  intro W base args ds gs before hval hW _ _
  refine law_contract (P := Tryz.prog) (ts := [38, 38]) tb_ok Tryz.func9 (by kernel_rfl) (by kernel_rfl) (rt := 4) (by kernel_rfl) Tryz.underlying4 (T := [3, 38, 4, 33, 9]) (by kernel_rfl) X.laidOut (by kernel_rfl) (by kernel_rfl) rfl ?_ ?_ W base args ds gs before hval hW
  · intro ds h
    match ds, h with
    | [a, b], _ => rfl
  · intro ds h
    match ds, h with
    | [a, b], h =>
      obtain ⟨⟨n2, h2⟩, ⟨n3, h3⟩, _⟩ := h
      obtain ⟨x, e2, _⟩ := val_dat h2
      obtain ⟨y, e3, _⟩ := val_dat h3
      simp only [argsD, e2, e3]
      exact d9 x y []
theorem truthOne_holds : Rows.TruthOneSaid :=
  OpenClaim.holds_of_wide 9 Tryz.f9 rfl rfl rfl rfl rfl rfl rfl ⟨rfl, rfl, rfl, rfl, rfl⟩ rfl rfl rfl rfl rfl (by kernel_rfl) Tryz.func9 (by kernel_rfl)
    (of_decide_eq_true (by kernel_rfl)) (by unfold Func.isWrapper; rw [if_neg (by decide +kernel)]; exact ⟨rfl, rfl⟩)
    (fun os started H enc _ => one_lifted os started H enc)
end Go.Proofs.YtpplmjjmdnfpgaaGreat
