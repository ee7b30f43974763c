import Derived.Test.YtpplmjjmdnfpgaaGreatXAbJ
set_option linter.unusedVariables false
namespace Go.Ab

/-! ### frozen copies are copies -/
section
variable {ρ ρ2 : Ro} {s : St} {w : World} {J : AV → Option AV}

def JOk (ρ ρ2 : Ro) (J : AV → Option AV) : Prop := ∀ x x' v, J x = some x' → RelV ρ x v → RelV ρ2 x' v

/-- What ρ2 must know of what ρ reads. -/
structure Sees (ρ ρ2 : Ro) (s : St) (w : World) (J : AV → Option AV) (nr : Bool) : Prop where
  j : nr = false → JOk ρ ρ2 J
  im : ∀ b o v, ρ.im b o = some v → ρ2.im b o = some v
  live : nr = false → ∀ k, Liv ρ s k → ∀ o v, w.cell? ⟨k, o, none⟩ = some v → ρ2.im k o = some v

theorem chain_RelL (hJ : JOk ρ ρ2 J) : ∀ {xs xs' : List AV} {us : List Value}, chainO J xs = some xs' → RelL ρ xs us → RelL ρ2 xs' us
  | [], xs', us, h, hr => by simp [chainO] at h; subst h; simpa [RelL] using hr
  | x :: xs, xs', us, h, hr => by
    simp only [chainO] at h
    split at h
    · rename_i y hy
      split at h
      · rename_i l hl
        injection h with h; subst h
        simp only [RelL] at hr ⊢
        obtain ⟨u, ur, rfl, h1, h2, h3⟩ := hr
        exact ⟨u, ur, rfl, h1, hJ _ _ _ hy h2, chain_RelL hJ hl h3⟩
      · cases h
    · cases h
theorem RelI_of {xs : List AV} {us : List Value} {b o : Nat} (h : RelL ρ2 xs us) (hi : ∀ (j : Nat) u, us[j]? = some u → ρ2.im b (o + j) = some u) : RelI ρ2 xs b o := by
  rw [RelI_iff]
  intro i x hx
  obtain ⟨u, hu, h1, h2⟩ := h.get hx
  exact ⟨u, hi i u hu, h1, h2⟩
theorem chain_flat (hJ : JOk ρ ρ2 J) : ∀ {rows rows' : List (List AV)} {us : List Value}, chainO (chainO J) rows = some rows' → RelL ρ rows.flatten us → RelL ρ2 rows'.flatten us ∧ rows'.length = rows.length ∧ (∀ sz, (∀ r ∈ rows, r.length = sz) → ∀ r ∈ rows', r.length = sz)
  | [], rows', us, h, hr => by simp [chainO] at h; subst h; simp [RelL] at hr ⊢; exact hr
  | r :: rows, rows', us, h, hr => by
    simp only [chainO] at h
    split at h
    · rename_i y hy
      split at h
      · rename_i l hl
        injection h with h; subst h
        rw [List.flatten_cons] at hr
        obtain ⟨h1, h2⟩ := hr.split
        obtain ⟨h3, h4, h5⟩ := chain_flat hJ hl h2
        have h6 := chain_RelL hJ hy h1
        refine ⟨?_, by simp [h4], fun sz hsz r' hr' => ?_⟩
        · rw [List.flatten_cons]
          have := h6.append h3
          rwa [List.take_append_drop] at this
        · rcases List.mem_cons.1 hr' with rfl | hr'
          · rw [(chainO_spec hy).1]; exact hsz r (by simp)
          · exact h5 sz (fun q hq => hsz q (by simp [hq])) r' hr'
      · cases h
    · cases h

mutual
theorem frzV_ok (hS : RelS ρ s w) : ∀ (x : AV) (x' : AV) (v : Value), Sees ρ ρ2 s w J (noRef x) → frzV s J x = some x' → RelV ρ x v → RelV ρ2 x' v
  | .any, x', v, hn, h, hv => by simp [frzV] at h; subst h; simp [RelV]
  | .bool b, x', v, hn, h, hv => by simp [frzV] at h; subst h; simpa [RelV] using hv
  | .int k n, x', v, hn, h, hv => by simp [frzV] at h; subst h; simpa [RelV] using hv
  | .str b, x', v, hn, h, hv => by simp [frzV] at h; subst h; simpa [RelV] using hv
  | .nilp, x', v, hn, h, hv => by simp [frzV] at h; subst h; simpa [RelV] using hv
  | .nilf, x', v, hn, h, hv => by simp [frzV] at h; subst h; simpa [RelV] using hv
  | .nili, x', v, hn, h, hv => by simp [frzV] at h; subst h; simpa [RelV] using hv
  | .nils, x', v, hn, h, hv => by
    simp [frzV] at h; subst h
    simp only [RelV] at hv ⊢
    exact ⟨none, 0, 0, hv, rfl, Nat.le_refl _, .inl trivial⟩
  | .ptr r off, x', v, hn, h, hv => by
    simp only [frzV] at h
    split at h
    · rename_i cells hr
      simp only [Option.map_eq_some_iff] at h
      obtain ⟨cs, hc, rfl⟩ := h
      simp only [RelV] at hv ⊢
      obtain ⟨e, h1, h2, rfl⟩ := hv
      obtain ⟨_, T, cur, h3, h4⟩ := hS.blk r _ e hr h1
      have hl : Liv ρ s e.g := ⟨r, _, e, hr, by simp, h1, rfl⟩
      refine ⟨e.g, off, rfl, RelI_of (chain_RelL (hn.j (by simp [noRef])) hc (h4.drop off)) (fun j u hu => ?_)⟩
      refine hn.live (by simp [noRef]) _ hl _ _ ?_
      have := (CellsAt.block h3).drop off j u hu
      rwa [Nat.zero_add] at this
    · cases h
  | .eptr r n i off, x', v, hn, h, hv => by
    simp only [frzV] at h
    split at h
    · rename_i e0 sz byt rows hr
      split at h
      · rename_i hnl
        split at h
        · rename_i c hc
          simp only [Option.map_eq_some_iff] at h
          obtain ⟨cs, hcs, rfl⟩ := h
          simp only [RelV] at hv ⊢
          obtain ⟨e, o, h1, h2, h3, rfl, h4⟩ := hv
          obtain ⟨_, hen, hsz, h0, hrows, vals, h5, h6⟩ := hS.blk r _ e hr h1
          obtain rfl := h4 (by omega)
          have hl : Liv ρ s e.g := ⟨r, _, e, hr, by simp, h1, rfl⟩
          have hcell := row_cells h5
          have hflat : RelL ρ c ((vals.drop (i * sz)).take sz) := by
            have := (h6.drop (i * sz)).take sz
            rwa [flat_index hrows hc] at this
          refine ⟨e.g, i * e.sz + off, rfl, RelI_of (chain_RelL (hn.j (by simp [noRef])) hcs (hflat.drop off)) (fun j u hu => ?_)⟩
          refine hn.live (by simp [noRef]) _ hl _ _ ?_
          have := (((hcell.drop (i * sz)).take sz).drop off) j u hu
          rwa [Nat.zero_add, ← hsz] at this
        · cases h
      · cases h
    · cases h
  | .own r n, x', v, hn, h, hv => by
    simp only [frzV] at h
    split at h
    · rename_i e0 sz byt rows hr
      split at h
      · rename_i hnl
        simp only [Option.map_eq_some_iff] at h
        obtain ⟨rows', hrows', rfl⟩ := h
        subst hnl
        obtain ⟨e, vals, k1, k2, k3, k4, k5, k6, rfl, k7, k8, k9, k10, _⟩ := own_now hS hr hv
        have hl : Liv ρ s e.g := ⟨r, _, e, hr, by simp, k1, rfl⟩
        obtain ⟨h3, h4, h5⟩ := chain_flat (hn.j (by simp [noRef])) hrows' k8
        simp only [RelV]
        refine ⟨_, _, _, rfl, h4.symm, k9, .inr ⟨e.g, 0, sz, rfl, RelR_flat (h5 sz k6) h3 (fun j u hu => ?_)⟩⟩
        exact hn.live (by simp [noRef]) _ hl _ _ (row_cells k7 j u hu)
      · cases h
    · cases h
  | .row cs, x', v, hn, h, hv => by
    simp only [frzV, Option.map_eq_some_iff] at h
    obtain ⟨cs', hc, rfl⟩ := h
    simp only [RelV] at hv ⊢
    obtain ⟨b, o, rfl, h1⟩ := hv
    exact ⟨b, o, rfl, frzI_ok hS cs cs' b o (by simpa only [noRef] using hn) hc h1⟩
  | .sl rows, x', v, hn, h, hv => by
    simp only [frzV, Option.map_eq_some_iff] at h
    obtain ⟨rows', hc, rfl⟩ := h
    simp only [RelV] at hv ⊢
    obtain ⟨A, n, cap, rfl, rfl, h3, h4⟩ := hv
    refine ⟨A, _, cap, rfl, (frzR_len rows rows' hc).symm, h3, ?_⟩
    rcases h4 with rfl | ⟨b, o, sz, rfl, h5⟩
    · left; simp [frzR] at hc; exact hc
    · exact .inr ⟨b, o, sz, rfl, frzR_ok hS rows rows' sz b o (by simpa only [noRef] using hn) hc h5⟩
  | .agg cs, x', v, hn, h, hv => by
    simp only [frzV, Option.map_eq_some_iff] at h
    obtain ⟨cs', hc, rfl⟩ := h
    simp only [RelV] at hv ⊢
    obtain ⟨us, rfl, h1⟩ := hv
    exact ⟨us, rfl, frzL_ok hS cs cs' us.toList (by simpa only [noRef] using hn) hc h1⟩
  | .tup cs, x', v, hn, h, hv => by
    simp only [frzV, Option.map_eq_some_iff] at h
    obtain ⟨cs', hc, rfl⟩ := h
    simp only [RelV] at hv ⊢
    obtain ⟨us, rfl, h1⟩ := hv
    exact ⟨us, rfl, frzT_ok hS cs cs' us.toList (by simpa only [noRef] using hn) hc h1⟩
  | .fn f a b, x', v, hn, h, hv => by
    simp only [frzV] at h
    split at h
    · rename_i a' b' ha hb
      injection h with h; subst h
      simp only [RelV] at hv ⊢
      obtain ⟨as, bs, rfl, h1, h2⟩ := hv
      refine ⟨as, bs, rfl, frzT_ok hS a a' as.toList ⟨fun h => hn.j (by simp [noRef, h]), hn.im, fun h => hn.live (by simp [noRef, h])⟩ ha h1, frzT_ok hS b b' bs.toList ⟨fun h => hn.j (by simp [noRef, h]), hn.im, fun h => hn.live (by simp [noRef, h])⟩ hb h2⟩
    · cases h
  | .ifc t y, x', v, hn, h, hv => by
    simp only [frzV, Option.map_eq_some_iff] at h
    obtain ⟨y', hc, rfl⟩ := h
    simp only [RelV] at hv ⊢
    obtain ⟨u, rfl, h1⟩ := hv
    exact ⟨u, rfl, frzV_ok hS y y' u (by simpa only [noRef] using hn) hc h1⟩
theorem frzI_ok (hS : RelS ρ s w) : ∀ (xs xs' : List AV) (b o : Nat), Sees ρ ρ2 s w J (noRefL xs) → frzL s J xs = some xs' → RelI ρ xs b o → RelI ρ2 xs' b o
  | [], xs', b, o, hn, h, hv => by simp [frzL] at h; subst h; simp [RelI]
  | x :: xs, xs', b, o, hn, h, hv => by
    simp only [frzL] at h
    split at h
    · rename_i y ys hy hys
      injection h with h; subst h
      simp only [RelI] at hv ⊢
      obtain ⟨⟨u, h1, h2, h3⟩, h4⟩ := hv
      exact ⟨⟨u, hn.im _ _ _ h1, h2, frzV_ok hS x y u ⟨fun h => hn.j (by simp [noRefL, h]), hn.im, fun h => hn.live (by simp [noRefL, h])⟩ hy h3⟩, frzI_ok hS xs ys b (o + 1) ⟨fun h => hn.j (by simp [noRefL, h]), hn.im, fun h => hn.live (by simp [noRefL, h])⟩ hys h4⟩
    · cases h
theorem frzR_ok (hS : RelS ρ s w) : ∀ (xs xs' : List (List AV)) (sz b o : Nat), Sees ρ ρ2 s w J (noRefR xs) → frzR s J xs = some xs' → RelR ρ sz xs b o → RelR ρ2 sz xs' b o
  | [], xs', sz, b, o, hn, h, hv => by simp [frzR] at h; subst h; simp [RelR]
  | x :: xs, xs', sz, b, o, hn, h, hv => by
    simp only [frzR] at h
    split at h
    · rename_i y ys hy hys
      injection h with h; subst h
      simp only [RelR] at hv ⊢
      exact ⟨by rw [frzL_len x y hy]; exact hv.1, frzI_ok hS x y b o ⟨fun h => hn.j (by simp [noRefR, h]), hn.im, fun h => hn.live (by simp [noRefR, h])⟩ hy hv.2.1, frzR_ok hS xs ys sz b (o + sz) ⟨fun h => hn.j (by simp [noRefR, h]), hn.im, fun h => hn.live (by simp [noRefR, h])⟩ hys hv.2.2⟩
    · cases h
theorem frzL_ok (hS : RelS ρ s w) : ∀ (xs xs' : List AV) (us : List Value), Sees ρ ρ2 s w J (noRefL xs) → frzL s J xs = some xs' → RelL ρ xs us → RelL ρ2 xs' us
  | [], xs', us, hn, h, hv => by simp [frzL] at h; subst h; simpa [RelL] using hv
  | x :: xs, xs', us, hn, h, hv => by
    simp only [frzL] at h
    split at h
    · rename_i y ys hy hys
      injection h with h; subst h
      simp only [RelL] at hv ⊢
      obtain ⟨u, ur, rfl, h2, h3, h4⟩ := hv
      exact ⟨u, ur, rfl, h2, frzV_ok hS x y u ⟨fun h => hn.j (by simp [noRefL, h]), hn.im, fun h => hn.live (by simp [noRefL, h])⟩ hy h3, frzL_ok hS xs ys ur ⟨fun h => hn.j (by simp [noRefL, h]), hn.im, fun h => hn.live (by simp [noRefL, h])⟩ hys h4⟩
    · cases h
theorem frzT_ok (hS : RelS ρ s w) : ∀ (xs xs' : List AV) (us : List Value), Sees ρ ρ2 s w J (noRefL xs) → frzL s J xs = some xs' → RelT ρ xs us → RelT ρ2 xs' us
  | [], xs', us, hn, h, hv => by simp [frzL] at h; subst h; simpa [RelT] using hv
  | x :: xs, xs', us, hn, h, hv => by
    simp only [frzL] at h
    split at h
    · rename_i y ys hy hys
      injection h with h; subst h
      simp only [RelT] at hv ⊢
      obtain ⟨u, ur, rfl, h3, h4⟩ := hv
      exact ⟨u, ur, rfl, frzV_ok hS x y u ⟨fun h => hn.j (by simp [noRefL, h]), hn.im, fun h => hn.live (by simp [noRefL, h])⟩ hy h3, frzT_ok hS xs ys ur ⟨fun h => hn.j (by simp [noRefL, h]), hn.im, fun h => hn.live (by simp [noRefL, h])⟩ hys h4⟩
    · cases h
theorem frzL_len : ∀ (xs xs' : List AV), frzL s J xs = some xs' → xs'.length = xs.length
  | [], xs', h => by simp [frzL] at h; subst h; rfl
  | x :: xs, xs', h => by
    simp only [frzL] at h
    split at h
    · rename_i y ys hy hys
      injection h with h; subst h
      simp [frzL_len xs ys hys]
    · cases h
theorem frzR_len : ∀ (xs xs' : List (List AV)), frzR s J xs = some xs' → xs'.length = xs.length
  | [], xs', h => by simp [frzR] at h; subst h; rfl
  | x :: xs, xs', h => by
    simp only [frzR] at h
    split at h
    · rename_i y ys hy hys
      injection h with h; subst h
      simp [frzR_len xs ys hys]
    · cases h
end
end

/-- The deep copy: what it needs of ρ2. -/
theorem frzN_ok {ρ ρ2 : Ro} {s : St} {w : World} (hS : RelS ρ s w) (him : ∀ b o v, ρ.im b o = some v → ρ2.im b o = some v) (hl : ∀ k, Liv ρ s k → ∀ o v, w.cell? ⟨k, o, none⟩ = some v → ρ2.im k o = some v) : ∀ (d : Nat), JOk ρ ρ2 (frzN s d)
  | 0 => fun x x' v h => by simp [frzN] at h
  | d + 1 => fun x x' v h hv => by
    simp only [frzN] at h
    exact frzV_ok hS x x' v ⟨fun _ => frzN_ok hS him hl d, him, fun _ => hl⟩ h hv
theorem frzN_noRef {ρ ρ2 : Ro} {s : St} {w : World} (hS : RelS ρ s w) (him : ∀ b o v, ρ.im b o = some v → ρ2.im b o = some v) (d : Nat) {x x' : AV} {v : Value} (hx : noRef x = true) (h : frzN s d x = some x') (hv : RelV ρ x v) : RelV ρ2 x' v := by
  cases d with
  | zero => simp [frzN] at h
  | succ d =>
    simp only [frzN] at h
    exact frzV_ok hS x x' v ⟨fun h => (by rw [hx] at h; cases h), him, fun h => (by rw [hx] at h; cases h)⟩ h hv

theorem chain_RelT {ρ ρ2 : Ro} {f : AV → Option AV} : ∀ {xs xs' : List AV} {us : List Value}, (∀ x ∈ xs, ∀ x' v, f x = some x' → RelV ρ x v → RelV ρ2 x' v) → chainO f xs = some xs' → RelT ρ xs us → RelT ρ2 xs' us
  | [], xs', us, hJ, h, hr => by simp [chainO] at h; subst h; simpa [RelT] using hr
  | x :: xs, xs', us, hJ, h, hr => by
    simp only [chainO] at h
    split at h
    · rename_i y hy
      split at h
      · rename_i l hl
        injection h with h; subst h
        simp only [RelT] at hr ⊢
        obtain ⟨u, ur, rfl, h2, h3⟩ := hr
        exact ⟨u, ur, rfl, hJ x (by simp) _ _ hy h2, chain_RelT (fun x hx => hJ x (by simp [hx])) hl h3⟩
      · cases h
    · cases h

theorem noRefL_mem {xs : List AV} (h : noRefL xs = true) : ∀ x ∈ xs, noRef x = true := by
  induction xs with
  | nil => simp
  | cons x xs ih =>
    simp only [noRefL, Bool.and_eq_true] at h
    intro y hy
    rcases List.mem_cons.1 hy with rfl | hy
    · exact h.1
    · exact ih h.2 y hy

mutual
theorem flat_ok {ρ ρ' : Ro} : ∀ (x : AV) (v : Value), flat x = true → RelV ρ x v → RelV ρ' x v
  | .any, _, _, _ => by simp [RelV]
  | .bool b, v, _, h => by simpa [RelV] using h
  | .int k n, v, _, h => by simpa [RelV] using h
  | .str b, v, _, h => by simpa [RelV] using h
  | .nilp, v, _, h => by simpa [RelV] using h
  | .nilf, v, _, h => by simpa [RelV] using h
  | .nili, v, _, h => by simpa [RelV] using h
  | .nils, v, _, h => by simpa [RelV] using h
  | .ptr _ _, v, hf, h => by simp [flat] at hf
  | .eptr _ _ _ _, v, hf, h => by simp [flat] at hf
  | .own _ _, v, hf, h => by simp [flat] at hf
  | .row _, v, hf, h => by simp [flat] at hf
  | .fn _ _ _, v, hf, h => by simp [flat] at hf
  | .sl rows, v, hf, h => by
    simp only [flat, List.isEmpty_iff] at hf; subst hf
    simp only [RelV] at h ⊢
    obtain ⟨A, n, cap, h1, h2, h3, _⟩ := h
    exact ⟨A, n, cap, h1, h2, h3, .inl trivial⟩
  | .agg cs, v, hf, h => by
    simp only [flat] at hf
    simp only [RelV] at h ⊢
    obtain ⟨us, h1, h2⟩ := h
    exact ⟨us, h1, flatL_ok cs us.toList hf h2⟩
  | .tup cs, v, hf, h => by
    simp only [flat] at hf
    simp only [RelV] at h ⊢
    obtain ⟨us, h1, h2⟩ := h
    exact ⟨us, h1, flatT_ok cs us.toList hf h2⟩
  | .ifc t y, v, hf, h => by
    simp only [flat] at hf
    simp only [RelV] at h ⊢
    obtain ⟨u, h1, h2⟩ := h
    exact ⟨u, h1, flat_ok y u hf h2⟩
theorem flatL_ok {ρ ρ' : Ro} : ∀ (xs : List AV) (us : List Value), flatL xs = true → RelL ρ xs us → RelL ρ' xs us
  | [], us, _, h => by simpa [RelL] using h
  | x :: xs, us, hf, h => by
    simp only [flatL, Bool.and_eq_true] at hf
    simp only [RelL] at h ⊢
    obtain ⟨u, ur, h1, h2, h3, h4⟩ := h
    exact ⟨u, ur, h1, h2, flat_ok x u hf.1 h3, flatL_ok xs ur hf.2 h4⟩
theorem flatT_ok {ρ ρ' : Ro} : ∀ (xs : List AV) (us : List Value), flatL xs = true → RelT ρ xs us → RelT ρ' xs us
  | [], us, _, h => by simpa [RelT] using h
  | x :: xs, us, hf, h => by
    simp only [flatL, Bool.and_eq_true] at hf
    simp only [RelT] at h ⊢
    obtain ⟨u, ur, h1, h3, h4⟩ := h
    exact ⟨u, ur, h1, flat_ok x u hf.1 h3, flatT_ok xs ur hf.2 h4⟩
end
end Go.Ab
