/- The laws of relations: TruthRel and TruthOne say true, whatever the data. -/
import Derived.Test.YtpplmjjmdnfpgaaGreatXZRel
import Derived.Test.YtpplmjjmdnfpgaaGreatXZAwake
set_option maxRecDepth 100000
namespace Go.Ab.Z
open Go.Ab
theorem p24 : Plain tb 24 fn24 := ⟨rfl, rfl, rfl, rfl⟩
theorem p8 : Plain tb 8 fn8 := ⟨rfl, rfl, rfl, rfl⟩
theorem p9 : Plain tb 9 fn9 := ⟨rfl, rfl, rfl, rfl⟩
theorem d24 (s : St) : D tb 24 [] s = some (.ret (.bool true) s) := Fn.free (Fn.of_D p24 rfl awake19) rfl s
theorem pc24 : tb.pc 24 = true := rfl
theorem pc29 : tb.pc 29 = true := rfl
theorem pc30 : tb.pc 30 = true := rfl

theorem d8 (rel : Int) (a b : GDat) (s : St) : D tb 8 [.int .i64 rel, .agg a.enc, .agg b.enc] s = some (.ret (.bool true) s) := by
  refine Fn.free (Fn.ev p8 ?_) rfl s
  have h1 : ∀ (rel k : Int) (n : Bool) (u : Int) (t : List UInt8) (k2 : Int) (n2 : Bool) (u2 : Int) (t2 : List UInt8) (s : St), D tb 29 [.int .i64 rel, .agg [.int .i64 k, .bool n, .int .u64 u, .str t], .agg [.int .i64 k2, .bool n2, .int .u64 u2, .str t2]] s = some (.ret (.bool (relD rel ⟨k, n, u, t⟩ ⟨k2, n2, u2, t2⟩)) s) :=
    fun rel k n u t k2 n2 u2 t2 s => d29 rel ⟨k, n, u, t⟩ ⟨k2, n2, u2, t2⟩ s
  have h2 : ∀ (rel k : Int) (n : Bool) (u : Int) (t : List UInt8) (k2 : Int) (n2 : Bool) (u2 : Int) (t2 : List UInt8) (s : St), D tb 30 [.int .i64 rel, .agg [.int .i64 k, .bool n, .int .u64 u, .str t], .agg [.int .i64 k2, .bool n2, .int .u64 u2, .str t2]] s = some (.ret (.bool (relD rel ⟨k, n, u, t⟩ ⟨k2, n2, u2, t2⟩)) s) :=
    fun rel k n u t k2 n2 u2 t2 s => d30 rel ⟨k, n, u, t⟩ ⟨k2, n2, u2, t2⟩ s
  obtain ⟨k, n, u, t⟩ := a
  obtain ⟨k2, n2, u2, t2⟩ := b
  simp [h1, h2, d24, pc24, pc29, pc30]

theorem cmp3_anti (a b : Int) : cmp3 b a = - cmp3 a b := by unfold cmp3; split <;> split <;> (try split) <;> omega
theorem compareBytes_anti : ∀ (a b : List UInt8), Go.Lib.compareBytes b a = - Go.Lib.compareBytes a b
  | [], [] => rfl
  | [], _ :: _ => rfl
  | _ :: _, [] => rfl
  | a :: as, b :: bs => by
    simp only [Go.Lib.compareBytes]
    by_cases h : a < b
    · have h2 : ¬ (b < a) := fun h2 => absurd (UInt8.lt_trans h h2) (UInt8.lt_irrefl a)
      simp [h, h2]
    · by_cases h2 : b < a
      · simp [h, h2]
      · simp [h, h2, compareBytes_anti as bs]
theorem cmpD_anti (a b : GDat) : cmpD b a = - cmpD a b := by
  unfold cmpD
  by_cases h0 : a.kind = b.kind
  · simp only [h0, ne_eq, not_true_eq_false, if_false]
    split
    · exact compareBytes_anti _ _
    · split
      · exact cmp3_anti _ _
      · split
        · rfl
        · cases below a <;> cases below b <;> first | exact cmp3_anti _ _ | rfl
  · have h1 : ¬ b.kind = a.kind := fun e => h0 e.symm
    simp only [ne_eq, h0, h1, not_false_eq_true, if_true]
    exact cmp3_anti _ _

set_option maxHeartbeats 2000000 in
theorem d9 (a b : GDat) (s : St) : D tb 9 [.agg a.enc, .agg b.enc] s = some (.ret (.bool true) s) := by
  refine Fn.free (Fn.ev p9 ?_) rfl s
  have h1 : ∀ (rel k : Int) (n : Bool) (u : Int) (t : List UInt8) (k2 : Int) (n2 : Bool) (u2 : Int) (t2 : List UInt8) (s : St), D tb 29 [.int .i64 rel, .agg [.int .i64 k, .bool n, .int .u64 u, .str t], .agg [.int .i64 k2, .bool n2, .int .u64 u2, .str t2]] s = some (.ret (.bool (relD rel ⟨k, n, u, t⟩ ⟨k2, n2, u2, t2⟩)) s) :=
    fun rel k n u t k2 n2 u2 t2 s => d29 rel ⟨k, n, u, t⟩ ⟨k2, n2, u2, t2⟩ s
  have anti := cmpD_anti a b
  obtain ⟨k, n, u, t⟩ := a
  obtain ⟨k2, n2, u2, t2⟩ := b
  by_cases h0 : k = k2
  · subst h0
    by_cases hk : k = 0
    · subst hk
      have r : ∀ rel, relD rel ⟨0, n, u, t⟩ ⟨0, n2, u2, t2⟩ = false := fun rel => by simp [relD]
      simp
      iterate 7 (rw [wloop_eq]; simp [h1, r, i64_lit])
      simp [d24]
    · have r : ∀ rel, relD rel ⟨k, n, u, t⟩ ⟨k, n2, u2, t2⟩ = relN rel (cmpD ⟨k, n, u, t⟩ ⟨k, n2, u2, t2⟩) := fun rel => by simp [relD, hk]
      have r2 : ∀ rel, relD rel ⟨k, n2, u2, t2⟩ ⟨k, n, u, t⟩ = relN rel (cmpD ⟨k, n2, u2, t2⟩ ⟨k, n, u, t⟩) := fun rel => by simp [relD, hk]
      rw [anti] at r2
      generalize cmpD ⟨k, n, u, t⟩ ⟨k, n2, u2, t2⟩ = m at r r2
      rcases Int.lt_trichotomy m 0 with hm0 | hm0 | hm0
      · have e1 : ¬ (0 < m) := by omega
        have e2 : ¬ (0 ≤ m) := by omega
        have e3 : m ≤ 0 := by omega
        have e4 : m ≠ 0 := by omega
        have e5 : (m == 0) = false := by simp [e4]
        have e6 : (m != 0) = true := by simp [e4]
        simp
        iterate 7 (rw [wloop_eq]; simp [h1, r, relN, e1, e2, e3, e5, e6, hm0, hk, i64_lit])
        simp [h1, r, r2, relN, e1, e2, e3, e5, e6, hm0, hk, d24, pc29]
      · subst hm0
        simp
        iterate 7 (rw [wloop_eq]; simp [h1, r, relN, hk, i64_lit])
        simp [h1, r, r2, relN, hk, d24, pc29]
      · have e1 : ¬ (m < 0) := by omega
        have e2 : 0 ≤ m := by omega
        have e3 : ¬ (m ≤ 0) := by omega
        have e4 : m ≠ 0 := by omega
        have e5 : (m == 0) = false := by simp [e4]
        have e6 : (m != 0) = true := by simp [e4]
        simp
        iterate 7 (rw [wloop_eq]; simp [h1, r, relN, e1, e2, e3, e5, e6, hm0, hk, i64_lit])
        simp [h1, r, r2, relN, e1, e2, e3, e5, e6, hm0, hk, d24, pc29]
  · have r : ∀ rel, relD rel ⟨k, n, u, t⟩ ⟨k2, n2, u2, t2⟩ = false := fun rel => by simp [relD, h0]
    simp
    iterate 7 (rw [wloop_eq]; simp [h1, r, i64_lit])
    simp [h0, d24]
end Go.Ab.Z
