import Derived.Test.YtpplmjjmdnfpgaaGreatXAbF
namespace Go.Ab

section
variable {P : Program} {ρ : Ro} {s s' : St} {w : World} {v : AV}

def BoundOk (d k : Nat) : Option Value → Prop
  | none => k = d
  | some u => ∃ q, u = .int q k

theorem run_bounds {len cap : Nat} {lo hi : Option Value} {l h : Nat} (hl : BoundOk 0 l lo) (hh : BoundOk len h hi) (h1 : l ≤ h) (h2 : h ≤ len) (h3 : len ≤ cap) :
    (Instr.sliceBounds true len cap lo hi none).run P w = .ok (l, h, cap) w := by
  unfold Instr.sliceBounds
  have h4 : h ≤ cap := by omega
  cases lo with
  | none =>
    simp only [BoundOk] at hl; subst hl
    cases hi with
    | none => simp only [BoundOk] at hh; subst hh; simp
    | some u => obtain ⟨k, rfl⟩ := hh; simp [Instr.sliceBound, asIntOf, h4]
  | some u =>
    obtain ⟨k, rfl⟩ := hl
    cases hi with
    | none => simp only [BoundOk] at hh; subst hh; simp [Instr.sliceBound, asIntOf, h1]
    | some u => obtain ⟨k', rfl⟩ := hh; simp [Instr.sliceBound, asIntOf, h1, h4]

theorem run_slice {t e : TypeId} {sz : Nat} {A : Option Addr} {len cap l h : Nat} {lo hi : Option Value} (ht : P.underlying t = some (.slice e)) (he : szOf P e = some sz) (hl : BoundOk 0 l lo) (hh : BoundOk len h hi) (h1 : l ≤ h) (h2 : h ≤ len) (h3 : len ≤ cap) :
    (Instr.slice t (.slice A len cap) lo hi none).run P w = .ok (.slice (if cap = l then A else A.map (·.add (l * sz))) (h - l) (cap - l)) w := by
  have hso : (sizeOf e).run P w = .ok sz w := by
    simp only [szOf, Option.map_eq_some_iff] at he
    obtain ⟨i, hi, he⟩ := he
    simp [sizeOf, typeInfo, program, Sem.run, hi, he]
  simp [Instr.slice, run_underlying ht, run_bounds hl hh h1 h2 h3, hso]

theorem rowsSz_iff {sz : Nat} {rows : List (List AV)} : rowsSz sz rows = true ↔ ∀ r ∈ rows, r.length = sz := by
  simp [rowsSz]

/-- A slice of cells that nobody writes. -/
theorem RelV_sub {rows : List (List AV)} {sz : Nat} {A : Option Addr} {cap l h : Nat} (hA : rows = [] ∨ ∃ b o, A = some ⟨b, o, none⟩ ∧ RelR ρ sz rows b o) (hn : rows.length ≤ cap) (h1 : l ≤ h) (h2 : h ≤ rows.length) :
    RelV ρ (.sl ((rows.take h).drop l)) (.slice (if cap = l then A else A.map (·.add (l * sz))) (h - l) (cap - l)) := by
  simp only [RelV]
  refine ⟨_, _, _, rfl, by simp; omega, by omega, ?_⟩
  rcases hA with rfl | ⟨b, o, rfl, hR⟩
  · left; simp
  · by_cases hcl : cap = l
    · left
      rw [List.drop_eq_nil_of_le]
      simp; omega
    · right
      rw [if_neg hcl]
      refine ⟨b, o + l * sz, sz, by simp [add_none], ?_⟩
      rw [RelR_iff] at hR ⊢
      intro i r hr
      rw [List.getElem?_drop, List.getElem?_take] at hr
      split at hr
      · have := hR _ r hr
        rwa [Nat.add_mul, ← Nat.add_assoc] at this
      · cases hr

theorem sl_parts {rows : List (List AV)} {sz : Nat} {vx : Value} (hs : ∀ r ∈ rows, r.length = sz) (hx : RelV ρ (.sl rows) vx) : ∃ A cap, vx = .slice A rows.length cap ∧ rows.length ≤ cap ∧ (rows = [] ∨ ∃ b o, A = some ⟨b, o, none⟩ ∧ RelR ρ sz rows b o) := by
  simp only [RelV] at hx
  obtain ⟨A, n, cap, rfl, rfl, h3, h4⟩ := hx
  refine ⟨A, cap, rfl, h3, ?_⟩
  rcases h4 with h4 | ⟨b, o, sz', rfl, h6⟩
  · exact .inl h4
  · cases rows with
    | nil => exact .inl rfl
    | cons r rows =>
      right
      have h7 := (RelR_iff.1 h6 0 r rfl).1
      have h8 := hs r (by simp)
      obtain rfl : sz' = sz := by omega
      exact ⟨b, o, rfl, h6⟩

theorem ok_slice_sl {t e : TypeId} {sz : Nat} {rows : List (List AV)} {lo hi : Option Value} {l h : Nat} {vx : Value} (hS : RelS ρ s w) (ht : P.underlying t = some (.slice e)) (he : szOf P e = some sz) (hs : rowsSz sz rows = true) (hx : RelV ρ (.sl rows) vx)
    (hl : BoundOk 0 l lo) (hh : BoundOk rows.length h hi) (h1 : l ≤ h) (h2 : h ≤ rows.length) : OpOk P ρ s w (Instr.slice t vx lo hi none) (.sl ((rows.take h).drop l)) s := by
  obtain ⟨A, cap, rfl, h3, h4⟩ := sl_parts (rowsSz_iff.1 hs) hx
  exact OpOk.same hS (run_slice ht he hl hh h1 h2 h3) (RelV_sub h4 h3 h1 h2)

theorem ok_slice_nils {t e : TypeId} {sz : Nat} {lo hi : Option Value} {vx : Value} (hS : RelS ρ s w) (ht : P.underlying t = some (.slice e)) (he : szOf P e = some sz) (hx : RelV ρ .nils vx)
    (hl : BoundOk 0 0 lo) (hh : BoundOk 0 0 hi) : OpOk P ρ s w (Instr.slice t vx lo hi none) .nils s := by
  simp only [RelV] at hx; subst hx
  exact OpOk.same hS (run_slice ht he hl hh (Nat.le_refl _) (Nat.le_refl _) (Nat.le_refl _)) (by simp [RelV])

/-- A row of the state is written no more. -/
def Ro.fixCells (ρ : Ro) (g : Nat) (us : List Value) : Ro := ρ.fix g us
theorem RelS.freeze {r : Nat} {b : ABlk} {e : LE} {us : List Value} (hS : RelS ρ s w) (hr : s[r]? = some b) (he : ρ.loc[r]? = some e) (hb : b ≠ .gone) (hc : CellsAt w e.g 0 us) :
    Le ρ (ρ.fix e.g us) ∧ RelS (ρ.fix e.g us) (s.set r .gone) w ∧ Keeps ρ s w (ρ.fix e.g us) (s.set r .gone) w := by
  have hL : Liv ρ s e.g := ⟨r, b, e, hr, hb, he, rfl⟩
  have hle : Le ρ (ρ.fix e.g us) := Le.fix us (hS.sep e.g hL)
  have h1 := hS.upd (w' := w) hr he hb .gone (fun k _ => rfl) trivial
  have hnl : ¬ Liv ρ (s.set r .gone) e.g := by
    rintro ⟨r1, b1, e1, h2, h3, h4, h5⟩
    by_cases h6 : r1 = r
    · subst h6
      rw [List.getElem?_set_self (List.getElem?_eq_some_iff.1 hr).1] at h2
      injection h2 with h2
      exact h3 h2.symm
    · rw [List.getElem?_set_ne (Ne.symm h6)] at h2
      exact h6 (hS.apart r1 r b1 b e1 e h2 hr h4 he h3 hb h5)
  have hsub : ∀ k, Liv ρ (s.set r .gone) k → Liv ρ s k := by
    rintro k ⟨r1, b1, e1, h2, h3, h4, rfl⟩
    by_cases h6 : r1 = r
    · subst h6
      rw [List.getElem?_set_self (List.getElem?_eq_some_iff.1 hr).1] at h2
      injection h2 with h2
      exact absurd h2.symm h3
    · rw [List.getElem?_set_ne (Ne.symm h6)] at h2
      exact ⟨r1, b1, e1, h2, h3, h4, rfl⟩
  refine ⟨hle, ⟨h1.len, fun r1 b1 e1 h2 h3 => (h1.blk r1 b1 e1 h2 h3).mono hle (fun _ => rfl), h1.apart, fun k hk o => ?_, fun b1 o v hv => ?_⟩, ⟨rfl, rfl, rfl, Nat.le_refl _, fun _ _ _ => rfl, fun k hk => .inl (hsub k hk), fun b1 o v hv => ?_⟩⟩
  · have hk' : Liv ρ (s.set r .gone) k := hk
    simp only [Ro.fix]
    split
    · rename_i h; subst h; exact absurd hk' hnl
    · exact hS.sep k (hsub k hk') o
  · simp only [Ro.fix] at hv
    split at hv
    · rename_i h; subst h
      have := hc o v hv
      rwa [Nat.zero_add] at this
    · exact hS.im b1 o v hv
  · simp only [Ro.fix] at hv
    split at hv
    · rename_i h; subst h; exact .inr (.inr hL)
    · exact .inl hv

/-- An owned slice whose number is the present one. -/
theorem own_now {r : Nat} {e0 sz byt : Nat} {rows : List (List AV)} {vx : Value} (hS : RelS ρ s w) (hr : s[r]? = some (.row e0 sz byt rows)) (hx : RelV ρ (.own r rows.length) vx) :
    ∃ e vals, ρ.loc[r]? = some e ∧ e.isBox = false ∧ e.n = rows.length ∧ e.sz = sz ∧ 0 < sz ∧ (∀ r ∈ rows, r.length = sz) ∧ vx = .slice (some ⟨e.g, 0, none⟩) rows.length e.c ∧ w.ownsRow 0 e0 sz (.slice (some ⟨e.g, 0, none⟩) rows.length e.c) rows.length vals ∧ RelL ρ rows.flatten vals ∧ rows.length ≤ e.c ∧ e.c ≤ maxLen ∧
      ∃ cur, w.heap[e.g]? = some (.cells cur e0 (0, 0)) ∧ cur.size = e.c * sz ∧ cur.toList.take (rows.length * sz) = vals := by
  simp only [RelV] at hx
  obtain ⟨e, A, c, h1, h2, hn, rfl, h3⟩ := hx
  obtain ⟨_, hen, hsz, h0, hrows, vals, h5, h6⟩ := hS.blk r _ e hr h1
  obtain ⟨rfl, rfl⟩ := h3 hen.symm
  have h5' := h5
  rcases h5.2 with ⟨h7, _⟩ | ⟨g, cap, cur, h7, h8, h9, h10, h11, h12, h13⟩
  · cases h7
  · simp only [Value.slice.injEq, Option.some.injEq, Addr.mk.injEq] at h7
    obtain ⟨⟨rfl, _⟩, _, rfl⟩ := h7
    exact ⟨e, vals, h1, h2, hen, hsz, h0, hrows, rfl, h5', h6, h10, h11, cur, h9, h12, h13⟩

theorem ok_slice_own {t e' : TypeId} {sz r : Nat} {e0 byt : Nat} {rows : List (List AV)} {lo hi : Option Value} {l h : Nat} {vx : Value} (hS : RelS ρ s w) (ht : P.underlying t = some (.slice e')) (he : szOf P e' = some sz) (hr : s[r]? = some (.row e0 sz byt rows)) (hx : RelV ρ (.own r rows.length) vx)
    (hl : BoundOk 0 l lo) (hh : BoundOk rows.length h hi) (h1 : l ≤ h) (h2 : h ≤ rows.length) : OpOk P ρ s w (Instr.slice t vx lo hi none) (.sl ((rows.take h).drop l)) (s.set r .gone) := by
  obtain ⟨e, vals, k1, k2, k3, k4, k5, k6, rfl, k7, k8, k9, k10, _⟩ := own_now hS hr hx
  obtain ⟨hle, hS', hK⟩ := hS.freeze hr k1 (by simp) (row_cells k7)
  refine ⟨_, w, _, run_slice ht he hl hh h1 h2 k9, hle, ?_, hS', hK⟩
  refine RelV_sub (.inr ⟨e.g, 0, rfl, RelR_flat k6 (RelL.mono hle _ _ k8) (fun j u hu => ?_)⟩) k9 h1 h2
  simp only [Ro.fix, if_true, Nat.zero_add]
  exact hu

theorem ok_shrink {t e' : TypeId} {sz r : Nat} {e0 byt : Nat} {rows : List (List AV)} {lo : Option Value} {u : Value} {h : Nat} {vx : Value} (hS : RelS ρ s w) (ht : P.underlying t = some (.slice e')) (he : szOf P e' = some sz) (hr : s[r]? = some (.row e0 sz byt rows)) (hx : RelV ρ (.own r rows.length) vx)
    (hl : BoundOk 0 0 lo) (hh : BoundOk rows.length h (some u)) (h2 : h ≤ rows.length) : OpOk P ρ s w (Instr.slice t vx lo (some u) none) (.own s.length h) (s.set r .gone ++ [.row e0 sz byt (rows.take h)]) := by
  obtain ⟨e, vals, k1, k2, k3, k4, k5, k6, rfl, k7, k8, k9, k10, cur, k11, k12, k13⟩ := own_now hS hr hx
  have hr' := run_slice (w := w) (A := some ⟨e.g, 0, none⟩) ht he hl hh (Nat.zero_le _) h2 k9
  have h1 := hS.upd (w' := w) hr k1 (by simp) .gone (fun k _ => rfl) trivial
  have hK1 := Keeps.upd (w := w) (w' := w) hr k1 (by simp) .gone rfl rfl rfl rfl (fun k _ => rfl)
  let le : LE := ⟨e.g, e.c, h, sz, false, none⟩
  have hval : Value.slice (if e.c = 0 then some ⟨e.g, 0, none⟩ else (some (⟨e.g, 0, none⟩ : Addr)).map (·.add (0 * sz))) (h - 0) (e.c - 0) = .slice (some ⟨e.g, 0, none⟩) h e.c := by
    simp [add_none]
  rw [hval] at hr'
  have hnl : ¬ Liv ρ (s.set r .gone) e.g := by
    rintro ⟨r1, b1, e1, h2, h3, h4, h5⟩
    by_cases h6 : r1 = r
    · subst h6
      rw [List.getElem?_set_self (List.getElem?_eq_some_iff.1 hr).1] at h2
      injection h2 with h2
      exact h3 h2.symm
    · rw [List.getElem?_set_ne (Ne.symm h6)] at h2
      exact h6 (hS.apart r1 r b1 _ e1 e h2 hr h4 k1 h3 (by simp) h5)
  have hflat : (rows.take h).flatten = rows.flatten.take (h * sz) := by
    have h9 : (rows.take h).flatten.length = h * sz := by
      rw [flat_length (sz := sz) (fun r hr => k6 r (List.mem_of_mem_take hr)), List.length_take, Nat.min_eq_left h2]
    conv => rhs; rw [← List.take_append_drop h rows, List.flatten_append]
    rw [List.take_append_of_le_length (by omega)]
    exact (List.take_of_length_le (Nat.le_of_eq h9)).symm
  have hB : RelB (ρ.add le) w (.row e0 sz byt (rows.take h)) le := by
    refine ⟨rfl, by simp [le]; omega, rfl, k5, fun r hr => k6 r (List.mem_of_mem_take hr), vals.take (h * sz), ⟨?_, .inr ⟨e.g, e.c, cur, rfl, Nat.zero_le _, k11, by simp; omega, k10, k12, ?_⟩⟩, ?_⟩
    · have := k8.length
      rw [flat_length k6] at this
      simp [← this]
    · rw [← k13, List.take_take]
      simp only [List.length_take]
      rw [Nat.min_eq_left h2, Nat.min_eq_left (Nat.mul_le_mul_right _ h2)]
    · rw [hflat]
      exact (RelL.mono (Le.add ρ le) _ _ k8).take _
  have hLall : ∀ k, Liv (ρ.add le) (s.set r .gone ++ [.row e0 sz byt (rows.take h)]) k → Liv ρ s k := by
    rintro k ⟨r1, b1, e1, h2, h3, h4, rfl⟩
    rcases (getElem?_snoc _ _ _ _).1 h2 with h2 | ⟨h2, rfl⟩
    · rcases (getElem?_snoc _ _ _ _).1 h4 with h4 | ⟨h4, rfl⟩
      · by_cases h6 : r1 = r
        · subst h6
          rw [List.getElem?_set_self (List.getElem?_eq_some_iff.1 hr).1] at h2
          injection h2 with h2
          exact absurd h2.symm h3
        · rw [List.getElem?_set_ne (Ne.symm h6)] at h2
          exact ⟨r1, b1, e1, h2, h3, h4, rfl⟩
      · have := (List.getElem?_eq_some_iff.1 h2).1; rw [h1.len] at this; omega
    · rcases (getElem?_snoc _ _ _ _).1 h4 with h4 | ⟨h4, rfl⟩
      · have := (List.getElem?_eq_some_iff.1 h4).1; rw [← h1.len] at this; omega
      · exact ⟨r, _, e, hr, by simp, k1, rfl⟩
  refine ⟨_, w, ρ.add le, hr', Le.add ρ le, ?_, ⟨by simp [Ro.add, hS.len], fun r1 b1 e1 h2 h4 => ?_, fun r1 r2 b1 b2 e1 e2 h2 h3 h4 h5 n1 n2 heq => ?_, fun k hk o => hS.sep k (hLall k hk) o, fun b1 o v hv => hS.im b1 o v hv⟩, ⟨rfl, rfl, rfl, Nat.le_refl _, fun _ _ _ => rfl, fun k hk => .inl (hLall k hk), fun _ _ _ h => .inl h⟩⟩
  · simp only [RelV]
    exact ⟨le, _, _, by rw [hS.len]; simp [Ro.add], rfl, Nat.le_refl _, rfl, fun _ => ⟨rfl, rfl⟩⟩
  · rcases (getElem?_snoc _ _ _ _).1 h2 with h2 | ⟨h2, rfl⟩
    · rcases (getElem?_snoc _ _ _ _).1 h4 with h4 | ⟨h4, rfl⟩
      · exact (h1.blk r1 b1 e1 h2 h4).mono (Le.add ρ le) (fun _ => rfl)
      · have := (List.getElem?_eq_some_iff.1 h2).1; rw [h1.len] at this; omega
    · rcases (getElem?_snoc _ _ _ _).1 h4 with h4 | ⟨h4, rfl⟩
      · have := (List.getElem?_eq_some_iff.1 h4).1; rw [← h1.len] at this; omega
      · exact hB
  · rcases (getElem?_snoc _ _ _ _).1 h2 with h2 | ⟨h2, rfl⟩ <;> rcases (getElem?_snoc _ _ _ _).1 h4 with h4 | ⟨h4, rfl⟩
    · rcases (getElem?_snoc _ _ _ _).1 h3 with h3 | ⟨h3, rfl⟩ <;> rcases (getElem?_snoc _ _ _ _).1 h5 with h5 | ⟨h5, rfl⟩
      · exact h1.apart r1 r2 b1 b2 e1 e2 h2 h3 h4 h5 n1 n2 heq
      · have := (List.getElem?_eq_some_iff.1 h3).1; rw [h1.len] at this; omega
      · have := (List.getElem?_eq_some_iff.1 h5).1; rw [← h1.len] at this; omega
      · exact absurd ⟨r1, b1, e1, h2, n1, h4, heq⟩ hnl
    · have := (List.getElem?_eq_some_iff.1 h2).1; rw [h1.len] at this; omega
    · have := (List.getElem?_eq_some_iff.1 h4).1; rw [← h1.len] at this; omega
    · rcases (getElem?_snoc _ _ _ _).1 h3 with h3 | ⟨h3, rfl⟩ <;> rcases (getElem?_snoc _ _ _ _).1 h5 with h5 | ⟨h5, rfl⟩
      · exact absurd ⟨r2, b2, e2, h3, n2, h5, heq.symm⟩ hnl
      · have := (List.getElem?_eq_some_iff.1 h3).1; rw [h1.len] at this; omega
      · have := (List.getElem?_eq_some_iff.1 h5).1; rw [← h1.len] at this; omega
      · omega

/-! ### append -/
theorem lenOf_any {A : Option Addr} {n c : Nat} : (Builtin.lenOf (.slice A n c)).run P w = .ok n w := by simp [Builtin.lenOf]

theorem run_append_none {t ty e : TypeId} {i : TypeInfo} {A : Option Addr} {n c c2 : Nat} {A2 : Option Addr} (ht : P.underlying t = some (.slice e)) (hi : P.info? e = some i) (hn : n ≤ c) :
    ∃ w', (Builtin.append_ #[t, t] ty #[.slice A n c, .slice A2 0 c2]).run P w = .ok (.slice A n c) w' ∧ w' = w := by
  have hf : (Builtin.firstCells i.size 0 (.slice A2 0 c2)).run P w = .ok #[] w := by
    cases A2 <;> simp [Builtin.firstCells, loadCells, loadCellsFrom]
  refine ⟨w, ?_, rfl⟩
  cases A <;> simp [Builtin.append_, run_underlying ht, sizeOf, typeInfo, hi, Builtin.lenOf, hn, hf, storeCells]

theorem RelS.move {w' : World} (h : RelS ρ s w) {r : Nat} {b : ABlk} {e : LE} (hr : s[r]? = some b) (he : ρ.loc[r]? = some e) (hb : b ≠ .gone) (b' : ABlk) (e' : LE) {ρ' : Ro} (hρ : ρ' = { ρ with loc := ρ.loc.set r e' }) (hle : Le ρ ρ') (hg : e'.g = e.g ∨ w.heap.size ≤ e'.g)
    (hw : ∀ k, k < w.heap.size → k ≠ e.g → w'.heap[k]? = w.heap[k]?) (hB : RelB ρ' w' b' e') : RelS ρ' (s.set r b') w' := by
  have key : ∀ (r1 : Nat) (b1 : ABlk) (e1 : LE), (s.set r b')[r1]? = some b1 → ρ'.loc[r1]? = some e1 → (r1 = r ∧ b1 = b' ∧ e1 = e') ∨ (r1 ≠ r ∧ s[r1]? = some b1 ∧ ρ.loc[r1]? = some e1) := by
    intro r1 b1 e1 h1 h2
    rw [hρ] at h2
    simp only at h2
    by_cases h3 : r1 = r
    · subst h3
      rw [List.getElem?_set_self (List.getElem?_eq_some_iff.1 hr).1] at h1
      rw [List.getElem?_set_self (List.getElem?_eq_some_iff.1 he).1] at h2
      injection h1 with h1; injection h2 with h2
      exact .inl ⟨rfl, h1.symm, h2.symm⟩
    · rw [List.getElem?_set_ne (Ne.symm h3)] at h1 h2
      exact .inr ⟨h3, h1, h2⟩
  have him : ρ'.im = ρ.im := by rw [hρ]
  have hLe : Liv ρ s e.g := ⟨r, b, e, hr, hb, he, rfl⟩
  have hne : ∀ (r1 : Nat) (b1 : ABlk) (e1 : LE), r1 ≠ r → s[r1]? = some b1 → ρ.loc[r1]? = some e1 → b1 ≠ .gone → e1.g ≠ e.g ∧ e1.g < w.heap.size := fun r1 b1 e1 hn h1 h2 h3 => ⟨fun h4 => hn (h.apart r1 r b1 b e1 e h1 hr h2 he h3 hb h4), h.live_lt ⟨r1, b1, e1, h1, h3, h2, rfl⟩⟩
  refine ⟨by rw [hρ]; simp [h.len], fun r1 b1 e1 h1 h2 => ?_, fun r1 r2 b1 b2 e1 e2 h1 h2 h3 h4 n1 n2 heq => ?_, fun k hk o => ?_, fun b1 o v hv => ?_⟩
  · rcases key r1 b1 e1 h1 h2 with ⟨rfl, rfl, rfl⟩ | ⟨h4, h5, h6⟩
    · exact hB
    · exact (h.blk r1 b1 e1 h5 h6).mono hle (fun hg => hw _ (hne r1 b1 e1 h4 h5 h6 hg).2 (hne r1 b1 e1 h4 h5 h6 hg).1)
  · rcases key r1 b1 e1 h1 h3 with ⟨rfl, rfl, rfl⟩ | ⟨h5, h6, h7⟩ <;> rcases key r2 b2 e2 h2 h4 with ⟨rfl, rfl, rfl⟩ | ⟨h8, h9, h10⟩
    · rfl
    · have := hne r2 b2 e2 h8 h9 h10 n2
      rcases hg with hg | hg
      · exact absurd (heq.symm.trans hg) this.1
      · omega
    · have := hne r1 b1 e1 h5 h6 h7 n1
      rcases hg with hg | hg
      · exact absurd (heq.trans hg) this.1
      · omega
    · exact h.apart r1 r2 b1 b2 e1 e2 h6 h9 h7 h10 n1 n2 heq
  · rw [him]
    obtain ⟨r1, b1, e1, h1, h2, h3, rfl⟩ := hk
    rcases key r1 b1 e1 h1 h3 with ⟨rfl, rfl, rfl⟩ | ⟨h5, h6, h7⟩
    · rcases hg with hg | hg
      · rw [hg]; exact h.sep _ hLe o
      · cases hv : ρ.im e1.g o with
        | none => rfl
        | some v => have := h.im_lt hv; omega
    · exact h.sep _ ⟨r1, b1, e1, h6, h2, h7, rfl⟩ o
  · rw [him] at hv
    rw [← h.im b1 o v hv]
    refine World.cell?_of_block (hw b1 (h.im_lt hv) ?_)
    rintro rfl
    rw [h.sep e.g hLe o] at hv
    cases hv
theorem Keeps.move {w' : World} {r : Nat} {b : ABlk} {e : LE} (hr : s[r]? = some b) (he : ρ.loc[r]? = some e) (hb : b ≠ .gone) (b' : ABlk) (e' : LE) {ρ' : Ro} (hρ : ρ' = { ρ with loc := ρ.loc.set r e' }) (hg : e'.g = e.g ∨ w.heap.size ≤ e'.g)
    (ho : w'.os = w.os) (ht : w'.tape = w.tape) (hp : w'.output = w.output) (hs : w.heap.size ≤ w'.heap.size) (hw : ∀ k, k < w.heap.size → k ≠ e.g → w'.heap[k]? = w.heap[k]?) : Keeps ρ s w ρ' (s.set r b') w' := by
  refine ⟨ho, ht, hp, hs, fun k hk hn => hw k hk (fun h => hn ⟨r, b, e, hr, hb, he, h.symm⟩), ?_, fun b1 o v hv => by rw [hρ] at hv; exact .inl hv⟩
  rintro k ⟨r1, b1, e1, h1, h2, h3, rfl⟩
  rw [hρ] at h3
  simp only at h3
  by_cases h4 : r1 = r
  · subst h4
    rw [List.getElem?_set_self (List.getElem?_eq_some_iff.1 he).1] at h3
    injection h3 with h3; subst h3
    rcases hg with hg | hg
    · rw [hg]; exact .inl ⟨r1, b, e, hr, hb, he, rfl⟩
    · exact .inr hg
  · rw [List.getElem?_set_ne (Ne.symm h4)] at h1 h3
    exact .inl ⟨r1, b1, e1, h1, h2, h3, rfl⟩

theorem set_same {α : Type} {l : List α} {r : Nat} {x : α} (h : l[r]? = some x) : l.set r x = l := by
  apply List.ext_getElem?
  intro i
  by_cases hi : i = r
  · subst hi; rw [List.getElem?_set_self (List.getElem?_eq_some_iff.1 h).1, h]
  · rw [List.getElem?_set_ne (Ne.symm hi)]

/-- What an append of news does to an owned row, the operation's run being given in its two forms. -/
theorem own_grow {r e sz byt : Nat} {rows news : List (List AV)} {vx : Value} {us : List Value} {m : Sem Value} (hS : RelS ρ s w) (hr : s[r]? = some (.row e sz byt rows)) (hx : RelV ρ (.own r rows.length) vx)
    (hrows : ∀ r ∈ news, r.length = sz) (hu : RelL ρ news.flatten us) (hpos : 0 < news.length)
    (hroom : ∀ (g c : Nat) (cur : Array Value), vx = .slice (some ⟨g, 0, none⟩) rows.length c → w.heap[g]? = some (.cells cur e (0, 0)) → rows.length + news.length ≤ c → rows.length * sz + us.length ≤ cur.size →
      m.run P w = .ok (.slice (some ⟨g, 0, none⟩) (rows.length + news.length) c) (w.setRow g (cur.toList.take (rows.length * sz) ++ us ++ cur.toList.drop (rows.length * sz + us.length)).toArray))
    (hgrow : ∀ (g c : Nat) (olds : List Value), vx = .slice (some ⟨g, 0, none⟩) rows.length c → olds.length = rows.length * sz → (∀ (j : Nat) v, olds[j]? = some v → w.cell? ((⟨g, 0, none⟩ : Addr).add j) = some v) → c < rows.length + news.length →
      ∃ (c' : Nat) (zs : Array Value), rows.length + news.length ≤ c' ∧ c' ≤ maxLen ∧ zs.size = (c' - (rows.length + news.length)) * sz ∧
        m.run P w = .ok (.slice (some ⟨w.heap.size, 0, none⟩) (rows.length + news.length) c') (w.drew.alloc (.cells (olds.toArray ++ us.toArray ++ zs) e))) :
    OpOk P ρ s w m (.own r (rows.length + news.length)) (s.set r (.row e sz byt (rows ++ news))) := by
  obtain ⟨e0, vals, k1, k2, k3, k4, k5, k6, rfl, k7, k8, k9, k10, cur, k11, k12, k13⟩ := own_now hS hr hx
  have hul : us.length = news.length * sz := by rw [← hu.length, flat_length hrows]
  have hvl : vals.length = rows.length * sz := by rw [← k8.length, flat_length k6]
  have hrows2 : ∀ r ∈ rows ++ news, r.length = sz := fun r hr => by
    rcases List.mem_append.1 hr with h | h
    · exact k6 r h
    · exact hrows r h
  have hrel : RelL ρ (rows ++ news).flatten (vals ++ us) := by rw [List.flatten_append]; exact k8.append hu
  have hlen2 : (vals ++ us).length = (rows ++ news).length * sz := by rw [List.length_append, List.length_append, hvl, hul, Nat.add_mul]
  rcases Nat.lt_or_ge e0.c (rows.length + news.length) with hlt | hge
  · obtain ⟨c', zs, h1, h2, h3, h4⟩ := hgrow e0.g e0.c vals rfl hvl (fun j v hv => by rw [add_none]; exact row_cells k7 j v hv) hlt
    let e' : LE := ⟨w.heap.size, c', rows.length + news.length, sz, false, none⟩
    have hle : Le ρ { ρ with loc := ρ.loc.set r e' } := by
      refine ⟨fun _ _ _ h => h, fun r1 e1 he1 => ?_⟩
      by_cases h5 : r1 = r
      · subst h5
        rw [k1] at he1; injection he1 with he1; subst he1
        exact ⟨e', by simp only; rw [List.getElem?_set_self (List.getElem?_eq_some_iff.1 k1).1], .inr ⟨k2, rfl, by simp only [e']; omega⟩⟩
      · exact ⟨e1, by simp only; rw [List.getElem?_set_ne (Ne.symm h5)]; exact he1, .inl rfl⟩
    have hw : ∀ (o : Obj) k, k < w.heap.size → k ≠ e0.g → (w.drew.alloc o).heap[k]? = w.heap[k]? := fun o k hk _ => hold w.drew o k hk
    refine ⟨_, _, { ρ with loc := ρ.loc.set r e' }, h4, hle, ?_, hS.move hr k1 (by simp) _ e' rfl hle (.inr (Nat.le_refl _)) (hw _) ⟨rfl, by simp [e'], rfl, k5, hrows2, vals ++ us, ⟨hlen2, .inr ⟨w.heap.size, c', _, rfl, Nat.zero_le _, hnew w.drew _, by simpa using h1, h2, ?_, ?_⟩⟩, RelL.mono hle _ _ hrel⟩,
      Keeps.move hr k1 (by simp) _ e' rfl (.inr (Nat.le_refl _)) rfl rfl rfl (by simp) (hw _)⟩
    · simp only [RelV]
      exact ⟨e', _, _, by rw [List.getElem?_set_self (List.getElem?_eq_some_iff.1 k1).1], rfl, Nat.le_refl _, rfl, fun _ => ⟨rfl, rfl⟩⟩
    · simp only [Array.size_append, List.size_toArray, h3, hvl, hul, ← Nat.add_mul]
      congr 1
      omega
    · simp only [Array.toList_append]
      rw [← hlen2]
      exact List.take_left
  · have hfit : rows.length * sz + us.length ≤ cur.size := by rw [hul, k12, ← Nat.add_mul]; exact Nat.mul_le_mul_right _ hge
    have h4 := hroom e0.g e0.c cur rfl k11 hge hfit
    let e' : LE := ⟨e0.g, e0.c, rows.length + news.length, sz, false, none⟩
    have hle : Le ρ { ρ with loc := ρ.loc.set r e' } := by
      refine ⟨fun _ _ _ h => h, fun r1 e1 he1 => ?_⟩
      by_cases h5 : r1 = r
      · subst h5
        rw [k1] at he1; injection he1 with he1; subst he1
        exact ⟨e', by simp only; rw [List.getElem?_set_self (List.getElem?_eq_some_iff.1 k1).1], .inr ⟨k2, rfl, by simp only [e']; omega⟩⟩
      · exact ⟨e1, by simp only; rw [List.getElem?_set_ne (Ne.symm h5)]; exact he1, .inl rfl⟩
    have hw : ∀ (cs : Array Value) k, k < w.heap.size → k ≠ e0.g → (w.setRow e0.g cs).heap[k]? = w.heap[k]? := fun cs k _ hk => setRow_other w _ _ _ hk
    refine ⟨_, _, { ρ with loc := ρ.loc.set r e' }, h4, hle, ?_, hS.move hr k1 (by simp) _ e' rfl hle (.inl rfl) (hw _) ⟨rfl, by simp [e'], rfl, k5, hrows2, vals ++ us, ⟨hlen2, .inr ⟨e0.g, e0.c, _, rfl, Nat.zero_le _, setRow_heap w _ _ _ _ _ k11, by simpa using hge, k10, ?_, ?_⟩⟩, RelL.mono hle _ _ hrel⟩,
      Keeps.move hr k1 (by simp) _ e' rfl (.inl rfl) rfl rfl rfl (by simp) (hw _)⟩
    · simp only [RelV]
      exact ⟨e', _, _, by rw [List.getElem?_set_self (List.getElem?_eq_some_iff.1 k1).1], rfl, Nat.le_refl _, rfl, fun _ => ⟨rfl, rfl⟩⟩
    · simp only [List.size_toArray, List.length_append, List.length_take, List.length_drop, Array.length_toList]
      omega
    · rw [k13, ← hlen2]
      exact List.take_left

theorem ok_append {t ty e : Nat} {i : TypeInfo} {z : Value} {x : AV} {vx : Value} {news : List (List AV)} {A2 : Option Addr} {c2 : Nat} {us : List Value} (hS : RelS ρ s w) (ht : P.underlying t = some (.slice e)) (hi : P.info? e = some i) (hz : i.zero = some z) (hzs : z.cells.size = i.size) (h0 : 0 < i.size)
    (hx : RelV ρ x vx) (hu : RelL ρ news.flatten us) (hA : news = [] ∨ ∃ a : Addr, A2 = some a ∧ ∀ (j : Nat) u, us[j]? = some u → w.cell? (a.add j) = some u)
    (h : appendA s e i.size i.bytes x news = some (v, s')) : OpOk P ρ s w (Builtin.append_ #[t, t] ty #[vx, .slice A2 news.length c2]) v s' := by
  unfold appendA at h
  split at h
  · rename_i hsz
    have hrows := rowsSz_iff.1 hsz
    have hul : us.length = news.length * i.size := by rw [← hu.length, flat_length hrows]
    split at h
    · simp only [RelV] at hx; subst hx
      split at h
      · rename_i hroom
        split at h
        · injection h with h; injection h with h1 h2; subst h1; subst h2
          obtain ⟨w', h1, rfl⟩ := run_append_none (P := P) (w := w) (A := none) (n := 0) (c := 0) (A2 := A2) (c2 := c2) (ty := ty) ht hi (Nat.le_refl _)
          exact OpOk.same hS h1 (by simp [RelV])
        · rename_i hne
          injection h with h; injection h with h1 h2; subst h1; subst h2
          rcases hA with rfl | ⟨a, rfl, hA⟩
          · exact absurd rfl hne
          · simp only [roomOk, Bool.and_eq_true, decide_eq_true_eq] at hroom
            have hpos : 0 < news.length := List.length_pos_iff.2 hne
            have hr := run_append_nil (P := P) w t ty e i z ht hi hz a news.length c2 us hul hA hpos (by omega) (by omega)
            have hge := grownCap_ge w news.length 0 e
            have hcm := grownCap_le_maxLen w news.length 0 e (by simp only [maxLen]; omega)
            generalize grownCap w news.length 0 e = cap at hr hge hcm
            let le : LE := ⟨w.heap.size, cap, news.length, i.size, false, none⟩
            have hw : ∀ (o : Obj) k, k < w.heap.size → (w.drew.alloc o).heap[k]? = w.heap[k]? := fun o k hk => hold w.drew o k hk
            refine ⟨_, _, ρ.add le, hr, Le.add ρ le, ?_, hS.add _ le rfl (hw _) ⟨rfl, rfl, rfl, h0, hrows, us, ⟨hul, .inr ⟨w.heap.size, cap, _, rfl, Nat.zero_le _, hnew w.drew _, hge, hcm, ?_, ?_⟩⟩, RelL.mono (Le.add ρ le) _ _ hu⟩, Keeps.add hS _ le rfl rfl rfl rfl (by simp) (hw _)⟩
            · simp only [RelV]
              exact ⟨le, _, _, by rw [hS.len]; simp [Ro.add], rfl, Nat.le_refl _, rfl, fun _ => ⟨rfl, rfl⟩⟩
            · simp only [Array.size_append, List.size_toArray, size_zeroCells, hzs, hul, ← Nat.add_mul]
              congr 1
              omega
            · simp only [Array.toList_append]
              rw [← hul]
              exact List.take_left
      · cases h
    · rename_i r n
      split at h
      · rename_i e' sz' byt' rows hr
        split at h
        · rename_i hc
          obtain ⟨rfl, rfl, rfl, rfl, hroom⟩ := hc
          injection h with h; injection h with h1 h2; subst h1; subst h2
          simp only [roomOk, Bool.and_eq_true, decide_eq_true_eq] at hroom
          obtain ⟨e0, vals, k1, k2, k3, k4, k5, k6, rfl, k7, k8, k9, k10, cur, k11, k12, k13⟩ := own_now hS hr hx
          by_cases hn : news = []
          · subst hn
            obtain ⟨w', h1, rfl⟩ := run_append_none (P := P) (w := w) (A := some ⟨e0.g, 0, none⟩) (A2 := A2) (c2 := c2) (ty := ty) ht hi k9
            simp only [List.length_nil, Nat.add_zero, List.append_nil]
            rw [set_same hr]
            exact OpOk.same hS h1 hx
          · rcases hA with rfl | ⟨a, rfl, hA⟩
            · exact absurd rfl hn
            · have hpos : 0 < news.length := List.length_pos_iff.2 hn
              refine own_grow hS hr hx hrows hu hpos ?_ ?_
              · intro g c cur hv hg h1 h2
                rw [hv]
                exact run_append_room (P := P) w t ty e i ht hi g rows.length c cur hg a news.length c2 us hul hA hu.one h1 h2
              · intro g c olds hv h1 h2 h3
                rw [hv]
                have hr' := run_append_grow (P := P) w t ty e i z ht hi hz ⟨g, 0, none⟩ rows.length c olds h1 h2 a news.length c2 us hul hA h3 (by omega) (growslice_fits (by omega) hroom.1)
                refine ⟨_, _, grownCap_ge w _ c e, grownCap_le_maxLen w _ c e (by simp only [maxLen]; omega), ?_, hr'⟩
                rw [size_zeroCells, hzs]
        · cases h
      · cases h
    · cases h
  · cases h
end
end Go.Ab
