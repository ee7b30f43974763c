import Derived.Test.YtpplmjjmdnfpgaaGreatXAbP
set_option linter.unusedVariables false
namespace Go.Ab

theorem exec_runOps {cf : Nat → List AV → St → Option CR} {pc : Nat → Bool} {i cls : Nat} {hs : List Nat} {si : SI} {fr fr2 : Fr} {s s2 : St} (h : exec1 cf pc (.ins i cls hs si) fr s = some (fr2, s2)) : ∃ s0 s1, hid fr hs s = some s0 ∧ runOps cf (fun _ _ _ => none) [si] fr s0 = some (.norm, fr2, s1) ∧ (hs = [] ∧ s2 = s1 ∨ hs ≠ [] ∧ cls ≤ 1 ∧ s2 = s ∨ hs ≠ [] ∧ 1 < cls ∧ s.length ≤ s1.length ∧ s2 = rst fr hs s s1) ∧ ∃ v, evl0 cf pc cls si fr s0 = some (v, s1) := by
  obtain ⟨d, g, o⟩ := si
  simp only [exec1, evl1, DI.dst] at h
  split at h
  rotate_left
  · cases h
  rename_i v s' he
  injection h with h; injection h with h1 h2; subst h1; subst h2
  split at he
  · cases he
  rename_i s0 hs0
  split at he
  rotate_left
  · cases he
  rename_i v1 s1 he0
  have hv : v1 = v ∧ (hs = [] ∧ s' = s1 ∨ hs ≠ [] ∧ cls ≤ 1 ∧ s' = s ∨ hs ≠ [] ∧ 1 < cls ∧ s.length ≤ s1.length ∧ s' = rst fr hs s s1) := by
    cases hs with
    | nil => simp only at he; injection he with he; injection he with h1 h2; exact ⟨h1, .inl ⟨rfl, h2.symm⟩⟩
    | cons b r =>
      simp only at he
      split at he
      · rename_i hc; injection he with he; injection he with h1 h2; exact ⟨h1, .inr (.inl ⟨by simp, hc, h2.symm⟩)⟩
      · split at he
        · rename_i hc hl; injection he with he; injection he with h1 h2; exact ⟨h1, .inr (.inr ⟨by simp, by omega, hl, h2.symm⟩)⟩
        · cases he
  obtain ⟨hv1, hv2⟩ := hv
  subst hv1
  refine ⟨s0, s1, hs0, ?_, hv2, v1, he0⟩
  clear hv2 he
  have he := he0
  clear he0
  simp only [evl0] at he
  simp only [runOps]
  split at he
  · cases he
  · rename_i hw
    injection he with he; injection he with h1 h2; subst h1; subst h2
    rfl
  · rename_i hw
    cases o with
    | op o => simp only at he ⊢; rw [he]
    | call f args =>
      simp only at he ⊢
      split at he
      · cases he
      · split at he
        · rename_i v1 s1 hr
          injection he with he; injection he with h1 h2; subst h1; subst h2
          rw [hr]
        · cases he
    | callv f args =>
      simp only at he ⊢
      split at he
      · rename_i n first cap hf
        rw [hf]
        simp only
        split at he
        · cases he
        · split at he
          · rename_i v1 s1 hr
            injection he with he; injection he with h1 h2; subst h1; subst h2
            rw [hr]
          · cases he
      · cases he
    | panic x => simp at he

/-- What is hidden is not touched. -/
theorem hid_spec {fr : Fr} : ∀ {h : List Nat} {s s0 : St}, hid fr h s = some s0 → s0.length = s.length ∧ ∀ (r : Nat) b, s[r]? = some b → s0[r]? = some b ∨ (s0[r]? = some .gone ∧ ((∃ c, b = .box c) ∨ b = .gone))
  | [], s, s0, h => by
    simp only [hid] at h; injection h with h; subst h
    exact ⟨rfl, fun r b hb => .inl hb⟩
  | a :: l, s, s0, h => by
    simp only [hid] at h
    split at h
    · rename_i k off hk
      split at h
      · cases h
      · cases h
      · rename_i q hnr hnl hq
        have hqb : (∃ c, q = .box c) ∨ q = .gone := by
          cases q with
          | box c => exact .inl ⟨c, rfl⟩
          | row e sz byt rs => exact absurd rfl (hnr e sz byt rs)
          | loop st pe f ps => exact absurd rfl (hnl st pe f ps)
          | gone => exact .inr rfl
        obtain ⟨h1, h2⟩ := hid_spec h
        have hkl := (List.getElem?_eq_some_iff.1 hq).1
        refine ⟨by simpa using h1, fun r b hb => ?_⟩
        by_cases hr : r = k
        · subst hr
          rw [hq] at hb; injection hb with hb; subst hb
          rcases h2 r .gone (by rw [List.getElem?_set_self hkl]) with h3 | ⟨h3, _⟩
          · exact .inr ⟨h3, hqb⟩
          · exact .inr ⟨h3, hqb⟩
        · exact h2 r b (by rw [List.getElem?_set_ne (Ne.symm hr)]; exact hb)
      · cases h
    · cases h

theorem hid_live {fr : Fr} {h : List Nat} {s s0 : St} {ρ : Ro} (hh : hid fr h s = some s0) {k : Nat} (hl : Liv ρ s0 k) : Liv ρ s k := by
  obtain ⟨r, b, e, h1, h2, h3, h4⟩ := hl
  obtain ⟨h5, h6⟩ := hid_spec hh
  have hr : r < s.length := by rw [← h5]; exact (List.getElem?_eq_some_iff.1 h1).1
  rcases h6 r s[r] (List.getElem?_eq_getElem hr) with h7 | ⟨h7, _⟩
  · rw [h1] at h7; injection h7 with h7
    exact ⟨r, s[r], e, List.getElem?_eq_getElem hr, by rw [← h7]; exact h2, h3, h4⟩
  · rw [h1] at h7; injection h7 with h7; exact absurd h7 h2

theorem hid_back {fr : Fr} {h : List Nat} {s s0 : St} (hh : hid fr h s = some s0) {r : Nat} {b : ABlk} (hb : s0[r]? = some b) (hn : b ≠ .gone) : s[r]? = some b := by
  obtain ⟨h5, h6⟩ := hid_spec hh
  have hr : r < s.length := by rw [← h5]; exact (List.getElem?_eq_some_iff.1 hb).1
  rcases h6 r s[r] (List.getElem?_eq_getElem hr) with h7 | ⟨h7, _⟩
  · rw [hb] at h7; injection h7 with h7
    rw [List.getElem?_eq_getElem hr, h7]
  · rw [hb] at h7; injection h7 with h7; exact absurd h7 hn

theorem RelS.hidden {ρ : Ro} {fr : Fr} {h : List Nat} {s s0 : St} {w : World} (hh : hid fr h s = some s0) (hS : RelS ρ s w) : RelS ρ s0 w := by
  refine ⟨by rw [(hid_spec hh).1]; exact hS.len, fun r b e hb he => ?_, fun r r' b b' e e' hb hb' he he' hn hn' hg => ?_, fun k hl o => hS.sep k (hid_live hh hl) o, hS.im⟩
  · by_cases hn : b = .gone
    · subst hn; trivial
    · exact hS.blk r b e (hid_back hh hb hn) he
  · exact hS.apart r r' b b' e e' (hid_back hh hb hn) (hid_back hh hb' hn') he he' hn hn' hg

/-- What was hidden comes back as it was. -/
theorem unhide {ρ ρ' : Ro} {fr : Fr} {h : List Nat} {s s0 : St} {w w' : World} (hh : hid fr h s = some s0) (hS : RelS ρ s w) (hle : Le ρ ρ') (hS' : RelS ρ' s0 w') (hK : Keeps ρ s0 w ρ' s0 w') : RelS ρ' s w' ∧ Keeps ρ s w ρ' s w' := by
  obtain ⟨hlen, hsp⟩ := hid_spec hh
  have hloc : ∀ (r : Nat) (e' : LE), ρ'.loc[r]? = some e' → ∃ e, ρ.loc[r]? = some e ∧ (e' = e ∨ (e.isBox = false ∧ e'.isBox = false ∧ e.n < e'.n)) := by
    intro r e' he'
    have hr : r < ρ.loc.length := by
      rw [← hS.len, ← hlen, hS'.len]; exact (List.getElem?_eq_some_iff.1 he').1
    obtain ⟨e2, h1, h2⟩ := hle.loc r _ (List.getElem?_eq_getElem hr)
    rw [he'] at h1; injection h1 with h1; subst h1
    exact ⟨_, List.getElem?_eq_getElem hr, h2⟩
  -- a block that is hidden: its place is as it was
  have hhid : ∀ (r : Nat) (b : ABlk) (e' : LE), s[r]? = some b → b ≠ .gone → s0[r]? = some .gone → ρ'.loc[r]? = some e' → ((∃ c, b = .box c) ∨ b = .gone) → ρ.loc[r]? = some e' ∧ ¬ Liv ρ s0 e'.g ∧ e'.g < w.heap.size ∧ ∃ cells, b = .box cells := by
    intro r b e' hb hn h0 he' hnr
    obtain ⟨e, he, hor⟩ := hloc r e' he'
    rcases hnr with ⟨cells, rfl⟩ | rfl
    rotate_left
    · exact absurd rfl hn
    ·
      obtain ⟨hbx, T, cs, hheap, _⟩ := hS.blk r _ e hb he
      have hee : e' = e := by
        rcases hor with h1 | ⟨h1, _⟩
        · exact h1
        · rw [hbx] at h1; cases h1
      subst hee
      refine ⟨he, ?_, (Array.getElem?_eq_some_iff.1 hheap).1, cells, rfl⟩
      rintro ⟨r2, b2, e2, h1, h2, h3, h4⟩
      have := hS.apart r2 r b2 _ e2 e' (hid_back hh h1 h2) hb h3 he h2 (by simp) h4
      subst this
      rw [h0] at h1; injection h1 with h1; exact h2 h1.symm
  have hliv : ∀ k, Liv ρ' s k → Liv ρ' s0 k ∨ (Liv ρ s k ∧ ¬ Liv ρ s0 k ∧ k < w.heap.size) := by
    rintro k ⟨r, b, e', h1, h2, h3, rfl⟩
    rcases hsp r b h1 with h4 | ⟨h4, h5⟩
    · exact .inl ⟨r, b, e', h4, h2, h3, rfl⟩
    · obtain ⟨h6, h7, h8, _⟩ := hhid r b e' h1 h2 h4 h3 h5
      exact .inr ⟨⟨r, b, e', h1, h2, h6, rfl⟩, h7, h8⟩
  refine ⟨⟨by rw [← hlen]; exact hS'.len, fun r b e' hb he' => ?_, fun r r' b b' e e' hb hb' he he' hn hn' hg => ?_, fun k hl o => ?_, hS'.im⟩, hK.os, hK.tape, hK.output, hK.size, fun k hk hn => hK.block k hk (fun hl => hn (hid_live hh hl)), fun k hl => ?_, fun b o v hv => ?_⟩
  · by_cases hn : b = .gone
    · subst hn; trivial
    rcases hsp r b hb with h4 | ⟨h4, h5⟩
    · exact hS'.blk r b e' h4 he'
    · obtain ⟨h6, h7, h8, cells, rfl⟩ := hhid r b e' hb hn h4 he' h5
      obtain ⟨hbx, T, cs, hheap, hrel⟩ := hS.blk r _ e' hb h6
      exact ⟨hbx, T, cs, by rw [hK.block _ h8 h7]; exact hheap, RelL.mono hle _ _ hrel⟩
  · rcases hsp r b hb with h4 | ⟨h4, h5⟩ <;> rcases hsp r' b' hb' with h6 | ⟨h6, h7⟩
    · exact hS'.apart r r' b b' e e' h4 h6 he he' hn hn' hg
    · obtain ⟨q1, q2, q3, cells, rfl⟩ := hhid r' b' e' hb' hn' h6 he' h7
      exfalso
      rcases hK.live e.g ⟨r, b, e, h4, hn, he, rfl⟩ with h8 | h8
      · rw [hg] at h8; exact q2 h8
      · rw [hg] at h8; omega
    · obtain ⟨q1, q2, q3, cells, rfl⟩ := hhid r b e hb hn h4 he h5
      exfalso
      rcases hK.live e'.g ⟨r', b', e', h6, hn', he', rfl⟩ with h8 | h8
      · rw [← hg] at h8; exact q2 h8
      · rw [← hg] at h8; omega
    · obtain ⟨q1, _⟩ := hhid r b e hb hn h4 he h5
      obtain ⟨q2, _⟩ := hhid r' b' e' hb' hn' h6 he' h7
      exact hS.apart r r' b b' e e' hb hb' q1 q2 hn hn' hg
  · rcases hliv k hl with h1 | ⟨h1, h2, h3⟩
    · exact hS'.sep k h1 o
    · cases hv : ρ'.im k o with
      | none => rfl
      | some v =>
        rcases hK.im k o v hv with h4 | h4 | h4
        · rw [hS.sep k h1 o] at h4; cases h4
        · omega
        · exact absurd h4 h2
  · rcases hliv k hl with h1 | ⟨h1, _⟩
    · rcases hK.live k h1 with h2 | h2
      · exact .inl (hid_live hh h2)
      · exact .inr h2
    · exact .inl h1
  · rcases hK.im b o v hv with h1 | h1 | h1
    · exact .inl h1
    · exact .inr (.inl h1)
    · exact .inr (.inr (hid_live hh h1))

theorem rst_spec {fr : Fr} {s : St} : ∀ {h : List Nat} {s1 : St}, (rst fr h s s1).length = s1.length ∧ ∀ (r : Nat) b, (rst fr h s s1)[r]? = some b → s1[r]? = some b ∨ (s[r]? = some b ∧ ∃ a ∈ h, ∃ off, fr.getD a .any = .ptr r off)
  | [], s1 => ⟨rfl, fun r b hb => .inl hb⟩
  | a :: l, s1 => by
    simp only [rst]
    split
    · rename_i k off hk
      split
      · rename_i b0 hb0
        obtain ⟨h1, h2⟩ := rst_spec (h := l) (s1 := s1.set k b0)
        refine ⟨by rw [h1]; simp, fun r b hb => ?_⟩
        rcases h2 r b hb with h3 | ⟨h3, a', ha', h4⟩
        · by_cases hr : k = r
          · subst hr
            have hlt := (List.getElem?_eq_some_iff.1 h3).1
            rw [List.getElem?_set_self (by simpa using hlt)] at h3
            injection h3 with h3; subst h3
            exact .inr ⟨hb0, a, by simp, off, hk⟩
          · rw [List.getElem?_set_ne hr] at h3; exact .inl h3
        · exact .inr ⟨h3, a', by simp [ha'], h4⟩
      · obtain ⟨h1, h2⟩ := rst_spec (h := l) (s1 := s1)
        exact ⟨h1, fun r b hb => (h2 r b hb).imp id (fun ⟨h3, a', ha', h4⟩ => ⟨h3, a', by simp [ha'], h4⟩)⟩
    · obtain ⟨h1, h2⟩ := rst_spec (h := l) (s1 := s1)
      exact ⟨h1, fun r b hb => (h2 r b hb).imp id (fun ⟨h3, a', ha', h4⟩ => ⟨h3, a', by simp [ha'], h4⟩)⟩

theorem hid_hidden {fr : Fr} : ∀ {h : List Nat} {s s0 : St}, hid fr h s = some s0 → ∀ {a r off : Nat}, a ∈ h → fr.getD a .any = .ptr r off → s0[r]? = some .gone
  | [], s, s0, _, a, r, off, ha, _ => by simp at ha
  | b :: l, s, s0, h, a, r, off, ha, hf => by
    simp only [hid] at h
    split at h
    · rename_i k off' hk
      split at h
      · cases h
      · cases h
      · rename_i q _ _ hq
        rcases List.mem_cons.1 ha with e | e
        · subst e
          rw [hf] at hk; injection hk with hk1 hk2; subst hk1
          have hlt := (List.getElem?_eq_some_iff.1 hq).1
          rcases (hid_spec h).2 r .gone (List.getElem?_set_self hlt) with h3 | ⟨h3, _⟩ <;> exact h3
        · exact hid_hidden h e hf
      · cases h
    · cases h

/-- What was hidden is put back, whatever the call has done. -/
theorem unhide2 {ρ ρ' : Ro} {fr : Fr} {h : List Nat} {s s0 s1 : St} {w w' : World} (hh : hid fr h s = some s0) (hS : RelS ρ s w) (hle : Le ρ ρ') (hS' : RelS ρ' s1 w') (hK : Keeps ρ s0 w ρ' s1 w') : RelS ρ' (rst fr h s s1) w' ∧ Keeps ρ s w ρ' (rst fr h s s1) w' := by
  obtain ⟨hlen, hsp⟩ := hid_spec hh
  obtain ⟨hrl, hrs⟩ := rst_spec (fr := fr) (s := s) (h := h) (s1 := s1)
  have hhid : ∀ (r : Nat) (b : ABlk) (e' : LE), s[r]? = some b → b ≠ .gone → s0[r]? = some .gone → ρ'.loc[r]? = some e' → ρ.loc[r]? = some e' ∧ ¬ Liv ρ s0 e'.g ∧ e'.g < w.heap.size ∧ ∃ cells, b = .box cells := by
    intro r b e' hb hn h0 he'
    have hbx : ∃ c, b = .box c := by
      rcases hsp r b hb with h4 | ⟨_, h5 | h5⟩
      · rw [h0] at h4; injection h4 with h4; exact absurd h4.symm hn
      · exact h5
      · exact absurd h5 hn
    obtain ⟨cells, rfl⟩ := hbx
    have hr : r < ρ.loc.length := by rw [← hS.len]; exact (List.getElem?_eq_some_iff.1 hb).1
    have he := List.getElem?_eq_getElem hr
    obtain ⟨hbx, T, cs, hheap, _⟩ := hS.blk r _ _ hb he
    obtain ⟨e2, h1, h2⟩ := hle.loc r _ he
    rw [he'] at h1; injection h1 with h1; subst h1
    have hee : e' = ρ.loc[r] := by
      rcases h2 with h1 | ⟨h1, _⟩
      · exact h1
      · rw [hbx] at h1; cases h1
    rw [← hee] at he hheap
    refine ⟨he, ?_, (Array.getElem?_eq_some_iff.1 hheap).1, cells, rfl⟩
    rintro ⟨r2, b2, e2, p1, p2, p3, p4⟩
    have := hS.apart r2 r b2 _ e2 e' (hid_back hh p1 p2) hb p3 he p2 (by simp) p4
    subst this
    rw [h0] at p1; injection p1 with p1; exact p2 p1.symm
  have hcase : ∀ (r : Nat) b, (rst fr h s s1)[r]? = some b → s1[r]? = some b ∨ (s[r]? = some b ∧ s0[r]? = some .gone) := by
    intro r b hb
    rcases hrs r b hb with h3 | ⟨h3, a, ha, off, hf⟩
    · exact .inl h3
    · exact .inr ⟨h3, hid_hidden hh ha hf⟩
  have hliv : ∀ k, Liv ρ' (rst fr h s s1) k → Liv ρ' s1 k ∨ (Liv ρ s k ∧ ¬ Liv ρ s0 k ∧ k < w.heap.size) := by
    rintro k ⟨r, b, e', h1, h2, h3, rfl⟩
    rcases hcase r b h1 with h4 | ⟨h4, h5⟩
    · exact .inl ⟨r, b, e', h4, h2, h3, rfl⟩
    · obtain ⟨h6, h7, h8, _⟩ := hhid r b e' h4 h2 h5 h3
      exact .inr ⟨⟨r, b, e', h4, h2, h6, rfl⟩, h7, h8⟩
  refine ⟨⟨by rw [hrl]; exact hS'.len, fun r b e' hb he' => ?_, fun r r' b b' e e' hb hb' he he' hn hn' hg => ?_, fun k hl o => ?_, hS'.im⟩, hK.os, hK.tape, hK.output, hK.size, fun k hk hn => hK.block k hk (fun hl => hn (hid_live hh hl)), fun k hl => ?_, fun b o v hv => ?_⟩
  · by_cases hn : b = .gone
    · subst hn; trivial
    rcases hcase r b hb with h4 | ⟨h4, h5⟩
    · exact hS'.blk r b e' h4 he'
    · obtain ⟨h6, h7, h8, cells, rfl⟩ := hhid r b e' h4 hn h5 he'
      obtain ⟨hbx, T, cs, hheap, hrel⟩ := hS.blk r _ e' h4 h6
      exact ⟨hbx, T, cs, by rw [hK.block _ h8 h7]; exact hheap, RelL.mono hle _ _ hrel⟩
  · rcases hcase r b hb with h4 | ⟨h4, h5⟩ <;> rcases hcase r' b' hb' with h6 | ⟨h6, h7⟩
    · exact hS'.apart r r' b b' e e' h4 h6 he he' hn hn' hg
    · obtain ⟨q1, q2, q3, _⟩ := hhid r' b' e' h6 hn' h7 he'
      exfalso
      rcases hK.live e.g ⟨r, b, e, h4, hn, he, rfl⟩ with h8 | h8
      · rw [hg] at h8; exact q2 h8
      · rw [hg] at h8; omega
    · obtain ⟨q1, q2, q3, _⟩ := hhid r b e h4 hn h5 he
      exfalso
      rcases hK.live e'.g ⟨r', b', e', h6, hn', he', rfl⟩ with h8 | h8
      · rw [← hg] at h8; exact q2 h8
      · rw [← hg] at h8; omega
    · obtain ⟨q1, _⟩ := hhid r b e h4 hn h5 he
      obtain ⟨q2, _⟩ := hhid r' b' e' h6 hn' h7 he'
      exact hS.apart r r' b b' e e' h4 h6 q1 q2 hn hn' hg
  · rcases hliv k hl with h1 | ⟨h1, h2, h3⟩
    · exact hS'.sep k h1 o
    · cases hv : ρ'.im k o with
      | none => rfl
      | some v =>
        rcases hK.im k o v hv with h4 | h4 | h4
        · rw [hS.sep k h1 o] at h4; cases h4
        · omega
        · exact absurd h4 h2
  · rcases hliv k hl with h1 | ⟨h1, _⟩
    · rcases hK.live k h1 with h2 | h2
      · exact .inl (hid_live hh h2)
      · exact .inr h2
    · exact .inl h1
  · rcases hK.im b o v hv with h1 | h1 | h1
    · exact .inl h1
    · exact .inr (.inl h1)
    · exact .inr (.inr (hid_live hh h1))

theorem buildL_nodup {P : Program} {own : Nat → Bool} {ops : Array Oper} {al : List AL} : ∀ {l : List Nat} {L : List DI}, l.Nodup → buildL P own ops al l = some L → (L.map DI.idx).Nodup
  | [], L, _, h => by simp [buildL] at h; subst h; simp
  | i :: l, L, hn, h => by
    have hall := (buildL_idx h).1
    simp only [buildL] at h
    split at h
    · rename_i x L' hx hL
      injection h with h; subst h
      have h1 := buildL_nodup (List.nodup_cons.1 hn).2 hL
      simp only [List.map_cons, List.nodup_cons]
      refine ⟨fun hm => ?_, h1⟩
      obtain ⟨y, hy, he⟩ := List.mem_map.1 hm
      have h2 := ((buildL_idx hL).1 y hy).1
      have h3 := (hall x (by simp)).1
      rw [he] at h2
      -- x's number is i
      have h4 : x.idx = i := by
        unfold buildD at hx
        split at hx
        · cases hx
        · split at hx
          · cases hx
          · split at hx
            · split at hx
              · split at hx
                · injection hx with hx; injection hx with hx; subst hx; rfl
                · cases hx
              · cases hx
            · simp only [Option.map_eq_some_iff] at hx
              obtain ⟨y, _, hy⟩ := hx
              injection hy with hy; subst hy; rfl
      rw [h4] at h2
      exact (List.nodup_cons.1 hn).1 h2
    · rename_i L' hx hL
      injection h with h; subst h
      exact buildL_nodup (List.nodup_cons.1 hn).2 hL
    · cases h

theorem filter_drop {L pre post : List DI} {x : DI} {p : DI → Bool} (hn : (L.map DI.idx).Nodup) (h : L.filter p = pre ++ x :: post) : L.filter (fun y => p y && y.idx != x.idx) = pre ++ post := by
  have h1 : L.filter (fun y => p y && y.idx != x.idx) = (L.filter p).filter (fun y => y.idx != x.idx) := by
    rw [List.filter_filter]
    congr 1
    funext y
    exact Bool.and_comm _ _
  have hs : ((pre ++ x :: post).map DI.idx).Nodup := by
    rw [← h]
    exact hn.sublist ((List.filter_sublist).map _)
  rw [h1, h, List.filter_append, List.filter_cons]
  rw [List.map_append, List.map_cons, List.nodup_append] at hs
  obtain ⟨_, h3, h4⟩ := hs
  rw [List.nodup_cons] at h3
  simp only [bne_self_eq_false, Bool.false_eq_true, if_false]
  congr 1
  · refine List.filter_eq_self.2 (fun y hy => ?_)
    have := h4 y.idx (List.mem_map_of_mem hy) x.idx (by simp)
    simpa using this
  · refine List.filter_eq_self.2 (fun y hy => ?_)
    have : y.idx ≠ x.idx := fun e => h3.1 (by rw [← e]; exact List.mem_map_of_mem hy)
    simpa using this

theorem RelF.setAny {ρ : Ro} {fr : Fr} {tmps : Array Value} (h : RelF ρ fr tmps) {d : Nat} {u : Value} (hd : fr.getD d .any = .any) : RelF ρ fr (tmps.setIfInBounds d u) := by
  refine ⟨by simp [h.len], fun t => ?_⟩
  by_cases ht : t = d
  · subst ht; rw [hd]; simp [RelV]
  · have h2 : (tmps.setIfInBounds d u).getD t undef = tmps.getD t undef := by
      rw [Array.getD_eq_getD_getElem?, Array.getD_eq_getD_getElem?, Array.getElem?_setIfInBounds_ne (Ne.symm ht)]
    rw [h2]; exact h.at_ t
theorem RelF.anyAt {ρ : Ro} {tmps : Array Value} : ∀ {ds : List Nat} {fr : Fr}, RelF ρ fr tmps → RelF ρ (anyAt ds fr) tmps
  | [], fr, h => h
  | t :: ds, fr, h => by
    simp only [Ab.anyAt]
    refine RelF.anyAt ⟨by simp [h.len], fun i => ?_⟩
    by_cases hi : i = t
    · subst hi
      by_cases hlt : i < fr.length
      · simp [List.getD, hlt, RelV]
      · simp [List.getD, hlt, RelV]
    · have h1 : (fr.set t .any).getD i .any = fr.getD i .any := by simp [List.getD, List.getElem?_set_ne (Ne.symm hi)]
      rw [h1]; exact h.at_ i
theorem anyAt_mem : ∀ {ds : List Nat} {fr : Fr} {d : Nat}, (fr.getD d .any = .any ∨ d ∈ ds) → (anyAt ds fr).getD d .any = .any
  | [], fr, d, h => by
    rcases h with h | h
    · exact h
    · simp at h
  | t :: ds, fr, d, h => by
    simp only [anyAt]
    refine anyAt_mem ?_
    by_cases hd : d = t
    · subst hd
      left
      by_cases hlt : d < fr.length
      · simp [List.getD, hlt]
      · simp [List.getD, hlt]
    · rcases h with h | h
      · left
        have h1 : (fr.set t .any).getD d .any = fr.getD d .any := by simp [List.getD, List.getElem?_set_ne (Ne.symm hd)]
        rw [h1]; exact h
      · rcases List.mem_cons.1 h with h | h
        · exact absurd h hd
        · exact .inr h

structure Pend (P : Program) (ρ1 : Ro) (s1 : St) (w w1 : World) (a1 : Act) (al : AL) (g : Nat) (u : Array Value) : Prop where
  ptr : a1.tmps.getD al.d undef = .pointer (some ⟨g, 0, none⟩)
  heap : w1.heap[g]? = some (.cells u al.e (0, 0))
  size : ∃ z, zeroOf P al.e = some z ∧ z.length = u.size
  live : ¬ Liv ρ1 s1 g
  im : ∀ o, ρ1.im g o = none
  new : w.heap.size ≤ g

section
variable (P : Program) (own : Nat → Bool) (ops : Array Oper) (als : List AL) (L : List DI) (cf : Nat → List AV → St → Option CR) (pc : Nat → Bool) (ρ : Ro) (s : St) (w : World) (a : Act) (fr' : Fr) (s' : St)

structure DInv (listed : Array Bool) (a1 : Act) (w1 : World) : Prop where
  size : listed.size = ops.size
  closed : ClosedL ops listed
  defers : a1.defers = a.defers
  tsize : a1.tmps.size = a.tmps.size
  ex : ∃ fr1 s1 ρ1, Le ρ ρ1 ∧ RelF ρ1 fr1 a1.tmps ∧ RelS ρ1 s1 w1 ∧ Keeps ρ s w ρ1 s1 w1 ∧ runL cf pc (L.filter fun x => !listed.getD x.idx true) fr1 s1 = some (fr', s') ∧
    (∀ al ∈ als, listed.getD al.k true = false → fr1.getD al.d .any = .any) ∧
    (∀ al ∈ als, listed.getD al.ia true = true → listed.getD al.k true = false → ∃ g u, Pend P ρ1 s1 w w1 a1 al g u) ∧
    (∀ al ∈ als, ∀ al' ∈ als, al.d ≠ al'.d → listed.getD al.ia true = true → listed.getD al.k true = false → listed.getD al'.ia true = true → listed.getD al'.k true = false → a1.tmps.getD al.d undef ≠ a1.tmps.getD al'.d undef)
end

theorem getD_set {l : Array Bool} {i j : Nat} {d : Bool} (hi : i < l.size) : (l.setIfInBounds i true).getD j d = if j = i then true else l.getD j d := by
  rw [Array.getD_eq_getD_getElem?, Array.getD_eq_getD_getElem?]
  by_cases h : j = i
  · subst h; rw [Array.getElem?_setIfInBounds_self_of_lt hi]; simp
  · rw [Array.getElem?_setIfInBounds_ne (Ne.symm h), if_neg h]

theorem getD_any {l : Array Bool} {j : Nat} (h : l.getD j true = false) (d : Bool) : l.getD j d = false ∧ j < l.size := by
  have hj : j < l.size := by
    rcases Nat.lt_or_ge j l.size with h1 | h1
    · exact h1
    · rw [Array.getD_eq_getD_getElem?, Array.getElem?_eq_none h1] at h; simp at h
  rw [Array.getD_eq_getD_getElem?, Array.getElem?_eq_getElem hj] at *
  exact ⟨h, hj⟩
theorem getD_true {l : Array Bool} {j : Nat} (hj : j < l.size) (h : l.getD j true = true) : l.getD j false = true := by
  rw [Array.getD_eq_getD_getElem?, Array.getElem?_eq_getElem hj] at *
  exact h

theorem ready_iff {ops : Array Oper} {listed : Array Bool} {i : Nat} : i ∈ Region.ready .any ops listed ↔ i < ops.size ∧ listed.getD i true = false ∧ ∃ o, ops[i]? = some o ∧ ∀ e ∈ o.after, Region.binds .any e = true → listed.getD e.on false = true := by
  unfold Region.ready
  rw [List.mem_filter, List.mem_range]
  constructor
  · rintro ⟨h1, h2⟩
    rw [Array.getElem?_eq_getElem h1] at h2
    simp only [Option.map_some, Option.getD_some, Bool.and_eq_true, Bool.not_eq_eq_eq_not, Bool.not_true] at h2
    refine ⟨h1, h2.1, ops[i], Array.getElem?_eq_getElem h1, fun e he hb => ?_⟩
    have := h2.2
    rw [Array.all_eq_true'] at this
    have := this e he
    simpa [hb] using this
  · rintro ⟨h1, h2, o, h3, h4⟩
    refine ⟨h1, ?_⟩
    rw [h3]
    simp only [Option.map_some, Option.getD_some, Bool.and_eq_true, Bool.not_eq_eq_eq_not, Bool.not_true]
    refine ⟨h2, ?_⟩
    rw [Array.all_eq_true']
    intro e he
    by_cases hb : Region.binds .any e = true
    · simp [hb, h4 e he hb]
    · simp [hb]
end Go.Ab
