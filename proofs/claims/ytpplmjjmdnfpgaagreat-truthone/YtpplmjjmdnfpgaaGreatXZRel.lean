/- Relations between data: what Rel and the document's Rel answer. -/
import Derived.Test.YtpplmjjmdnfpgaaGreatXZPrim1
set_option maxRecDepth 100000
namespace Go.Ab.Z
open Go.Ab
theorem p155 : Plain tb 155 fn155 := ⟨rfl, rfl, rfl, rfl⟩
theorem p110 : Plain tb 110 fn110 := ⟨rfl, rfl, rfl, rfl⟩
theorem p59 : Plain tb 59 fn59 := ⟨rfl, rfl, rfl, rfl⟩
theorem p113 : Plain tb 113 fn113 := ⟨rfl, rfl, rfl, rfl⟩
theorem p60 : Plain tb 60 fn60 := ⟨rfl, rfl, rfl, rfl⟩
theorem p29 : Plain tb 29 fn29 := ⟨rfl, rfl, rfl, rfl⟩
theorem p30 : Plain tb 30 fn30 := ⟨rfl, rfl, rfl, rfl⟩

theorem d179 (a b : List UInt8) (s : St) : D tb 179 [.str a, .str b] s = some (.ret (.int .i64 (Go.Lib.compareBytes a b)) s) :=
  Fn.free (prim_Fn (p := pCmp) rfl rfl rfl rfl) rfl s
theorem d155 (a b : List UInt8) (s : St) : D tb 155 [.str a, .str b] s = some (.ret (.int .i64 (Go.Lib.compareBytes a b)) s) :=
  Fn.free (Fn.ev p155 (by simp [d179])) rfl s
theorem d110 (a b : List UInt8) (s : St) : D tb 110 [.str a, .str b] s = some (.ret (.int .i64 (Go.Lib.compareBytes a b)) s) :=
  Fn.free (Fn.ev p110 (by simp [d155])) rfl s
theorem d113 (a b : Bool) (s : St) : D tb 113 [.bool a, .bool b] s = some (.ret (.int .i64 (if a then -1 else if b then 1 else 0)) s) :=
  Fn.free (Fn.ev p113 (by cases a <;> cases b <;> simp)) rfl s

theorem compareBytes_less : ∀ (a b : List UInt8), Go.Lib.compareBytes a b = if Op.bytesLess a b then -1 else if a = b then 0 else 1
  | [], [] => by simp [Go.Lib.compareBytes, Op.bytesLess]
  | [], _ :: _ => by simp [Go.Lib.compareBytes, Op.bytesLess]
  | _ :: _, [] => by simp [Go.Lib.compareBytes, Op.bytesLess]
  | a :: as, b :: bs => by
    simp only [Go.Lib.compareBytes, Op.bytesLess]
    by_cases h : a < b
    · simp [h]
    · by_cases h2 : b < a
      · have h3 : a ≠ b := fun e => by subst e; exact absurd h2 h
        simp [h, h2, h3]
      · have h3 : a = b := UInt8.le_antisymm (UInt8.not_lt.1 h2) (UInt8.not_lt.1 h)
        subst h3
        rw [compareBytes_less as bs]
        simp

/-- How two data stand. -/
def cmpD (a b : GDat) : Int :=
  if a.kind ≠ b.kind then cmp3 a.kind b.kind
  else if a.kind = 2 then Go.Lib.compareBytes a.text b.text
  else if a.kind = 3 then cmp3 a.num b.num
  else if a.kind ≠ 1 then 0
  else if below a then (if below b then cmp3 b.num a.num else -1)
  else if below b then 1 else cmp3 a.num b.num

theorem d59 (a b : GDat) (s : St) : D tb 59 [.agg a.enc, .agg b.enc] s = some (.ret (.int .i64 (cmpD a b)) s) := by
  refine Fn.free (Fn.ev p59 ?_) rfl s
  have hb : ∀ (k : Int) (n : Bool) (u : Int) (t : List UInt8) (s : St), D tb 112 [.agg [.int .i64 k, .bool n, .int .u64 u, .str t]] s = some (.ret (.bool (below ⟨k, n, u, t⟩)) s) := fun k n u t s => d112 ⟨k, n, u, t⟩ s
  obtain ⟨k, n, u, t⟩ := a
  obtain ⟨k2, n2, u2, t2⟩ := b
  by_cases h0 : k = k2
  · subst h0
    by_cases h2 : k = 2
    · subst h2; simp [d110, cmpD]
    · by_cases h3 : k = 3
      · subst h3; simp [d111, cmpD]
      · by_cases h1 : k = 1
        · subst h1
          cases h5 : below ⟨1, n, u, t⟩ <;> cases h6 : below ⟨1, n2, u2, t2⟩ <;> simp [hb, h5, h6, d111, cmpD]
        · simp [h1, h2, h3, cmpD]
  · simp [h0, d109, cmpD]

theorem cmpD_ref (a b : GDat) (s : St) : D tb 60 [.agg a.enc, .agg b.enc] s = some (.ret (.int .i64 (cmpD a b)) s) := by
  refine Fn.free (Fn.ev p60 ?_) rfl s
  obtain ⟨k, n, u, t⟩ := a
  obtain ⟨k2, n2, u2, t2⟩ := b
  by_cases h0 : k = k2
  · subst h0
    by_cases h2 : k = 2
    · subst h2
      simp [d113, cmpD, compareBytes_less]
      cases Op.bytesLess t t2 <;> by_cases h : t = t2 <;> simp [h]
    · by_cases h3 : k = 3
      · subst h3; simp [d113, cmpD, cmp3]
      · by_cases h1 : k = 1
        · subst h1
          cases n <;> cases n2 <;> simp [d113, cmpD, below, cmp3] <;> by_cases h5 : 0 < u <;> by_cases h6 : 0 < u2 <;> simp [h5, h6, d113]
        · simp [h1, h2, h3, cmpD]
  · simp [h0, d113, cmpD, cmp3]

/-- Which relations hold. -/
def relN (rel n : Int) : Bool :=
  if rel = 1 then n == 0
  else if rel = 2 then n != 0
  else if rel = 3 then decide (n < 0)
  else if rel = 4 then decide (n ≤ 0)
  else if rel = 5 then decide (0 < n)
  else if rel = 6 then decide (0 ≤ n)
  else false
def relD (rel : Int) (a b : GDat) : Bool :=
  if a.kind ≠ b.kind ∨ a.kind = 0 then false else relN rel (cmpD a b)
theorem d29 (rel : Int) (a b : GDat) (s : St) : D tb 29 [.int .i64 rel, .agg a.enc, .agg b.enc] s = some (.ret (.bool (relD rel a b)) s) := by
  refine Fn.free (Fn.ev p29 ?_) rfl s
  have hc : ∀ (k : Int) (n : Bool) (u : Int) (t : List UInt8) (k2 : Int) (n2 : Bool) (u2 : Int) (t2 : List UInt8) (s : St), D tb 59 [.agg [.int .i64 k, .bool n, .int .u64 u, .str t], .agg [.int .i64 k2, .bool n2, .int .u64 u2, .str t2]] s = some (.ret (.int .i64 (cmpD ⟨k, n, u, t⟩ ⟨k2, n2, u2, t2⟩)) s) :=
    fun k n u t k2 n2 u2 t2 s => d59 ⟨k, n, u, t⟩ ⟨k2, n2, u2, t2⟩ s
  obtain ⟨k, n, u, t⟩ := a
  obtain ⟨k2, n2, u2, t2⟩ := b
  by_cases h0 : k = k2
  · subst h0
    by_cases h1 : k = 0
    · subst h1; simp [relD]
    · simp only [relD]
      generalize hm : cmpD ⟨k, n, u, t⟩ ⟨k, n2, u2, t2⟩ = m
      by_cases r1 : rel = 1
      · subst r1; simp [h1, hc, relN, hm]
      · by_cases r2 : rel = 2
        · subst r2; simp [h1, hc, relN, hm]
        · by_cases r3 : rel = 3
          · subst r3; simp [h1, hc, relN, hm]
          · by_cases r4 : rel = 4
            · subst r4; simp [h1, hc, relN, hm]
            · by_cases r5 : rel = 5
              · subst r5; simp [h1, hc, relN, hm]
              · by_cases r6 : rel = 6
                · subst r6; simp [h1, hc, relN, hm]
                · simp [h1, hc, relN, r1, r2, r3, r4, r5, r6, hm]
  · simp [h0, relD]
theorem d30 (rel : Int) (a b : GDat) (s : St) : D tb 30 [.int .i64 rel, .agg a.enc, .agg b.enc] s = some (.ret (.bool (relD rel a b)) s) := by
  refine Fn.free (Fn.ev p30 ?_) rfl s
  have hc : ∀ (k : Int) (n : Bool) (u : Int) (t : List UInt8) (k2 : Int) (n2 : Bool) (u2 : Int) (t2 : List UInt8) (s : St), D tb 60 [.agg [.int .i64 k, .bool n, .int .u64 u, .str t], .agg [.int .i64 k2, .bool n2, .int .u64 u2, .str t2]] s = some (.ret (.int .i64 (cmpD ⟨k, n, u, t⟩ ⟨k2, n2, u2, t2⟩)) s) :=
    fun k n u t k2 n2 u2 t2 s => cmpD_ref ⟨k, n, u, t⟩ ⟨k2, n2, u2, t2⟩ s
  obtain ⟨k, n, u, t⟩ := a
  obtain ⟨k2, n2, u2, t2⟩ := b
  by_cases h0 : k = k2
  · subst h0
    by_cases h1 : k = 0
    · subst h1; simp [relD]
    · simp only [relD]
      generalize hm : cmpD ⟨k, n, u, t⟩ ⟨k, n2, u2, t2⟩ = m
      by_cases r0 : 1 ≤ rel ∧ rel ≤ 6
      · have hr : rel = 1 ∨ rel = 2 ∨ rel = 3 ∨ rel = 4 ∨ rel = 5 ∨ rel = 6 := by omega
        rcases Int.lt_trichotomy m 0 with hm0 | hm0 | hm0
        · have e1 : ¬ (0 < m) := by omega
          have e2 : ¬ (0 ≤ m) := by omega
          have e3 : m ≤ 0 := by omega
          have e4 : m ≠ 0 := by omega
          rcases hr with rfl | rfl | rfl | rfl | rfl | rfl <;> simp [h1, hc, relN, hm, hm0, e1, e2, e3, e4]
        · subst hm0
          rcases hr with rfl | rfl | rfl | rfl | rfl | rfl <;> simp [h1, hc, relN, hm]
        · have e1 : ¬ (m < 0) := by omega
          have e2 : 0 ≤ m := by omega
          have e3 : ¬ (m ≤ 0) := by omega
          have e4 : m ≠ 0 := by omega
          rcases hr with rfl | rfl | rfl | rfl | rfl | rfl <;> simp [h1, hc, relN, hm, hm0, e1, e2, e3, e4]
      · have hr : rel < 1 ∨ 6 < rel := by omega
        have r1 : rel ≠ 1 := by omega
        have r2 : rel ≠ 2 := by omega
        have r3 : rel ≠ 3 := by omega
        have r4 : rel ≠ 4 := by omega
        have r5 : rel ≠ 5 := by omega
        have r6 : rel ≠ 6 := by omega
        by_cases hr1 : rel < 1
        · simp [h1, hr1, relN, r1, r2, r3, r4, r5, r6]
        · have hr2 : 6 < rel := by omega
          simp [h1, hr1, hr2, relN, r1, r2, r3, r4, r5, r6]
  · simp [h0, relD]
end Go.Ab.Z
