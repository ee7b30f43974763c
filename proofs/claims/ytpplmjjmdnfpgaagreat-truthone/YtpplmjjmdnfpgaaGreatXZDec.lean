/- The readings of the arguments, as data of ours. -/
import Derived.Test.YtpplmjjmdnfpgaaGreatXAbZ
import Derived.Test.YtpplmjjmdnfpgaaGreatProg
set_option maxRecDepth 100000
namespace Go.Ab.Z
open Go Go.Ab Go.Proofs
variable {H : Type}
theorem dec_dat {n : Nat} {d : DataW H} (h : OkD Tryz.prog n 38 d) : ∃ x : GDat, cellsD d = x.enc ∧ x.wf := by
  obtain ⟨m, rfl⟩ := OkD_pos h
  obtain ⟨xs, rfl, hx⟩ := OkD_struct Tryz.underlying38 h
  match xs, hx with
  | [a, b, c, e], hx =>
    obtain ⟨h1, h2, h3, h4, _⟩ := hx
    obtain ⟨k, e1, w1⟩ := OkD_i64 Tryz.underlying3 h1
    obtain ⟨g, e2⟩ := OkD_bool Tryz.underlying4 h2
    obtain ⟨u, e3, w3⟩ := OkD_u64 Tryz.underlying33 h3
    obtain ⟨t, e4, w4⟩ := OkD_str Tryz.underlying9 h4
    refine ⟨⟨k, g, u, t⟩, ?_, w1, w3, w4⟩
    simp [cellsD, cellsDs, e1, e2, e3, e4]
theorem val_dat {n : Nat} {d : DataW H} (h : OkD Tryz.prog n 38 d) : ∃ x : GDat, valD Tryz.prog 38 d = .agg x.enc ∧ x.wf := by
  obtain ⟨x, h1, h2⟩ := dec_dat h
  exact ⟨x, by simp only [valD, Tryz.underlying38, h1], h2⟩
theorem val_int {n : Nat} {d : DataW H} (h : OkD Tryz.prog n 3 d) : ∃ x : Int, valD Tryz.prog 3 d = .int .i64 x ∧ I64 x := by
  obtain ⟨x, h1, h2⟩ := OkD_i64 Tryz.underlying3 h
  exact ⟨x, by simp only [valD, Tryz.underlying3, h1, List.headD_cons], h2⟩
end Go.Ab.Z
