import Derived.Test.YtpplmjjmdnfpgaaGreatXAbI
set_option linter.unusedVariables false
namespace Go.Ab

section
variable {P : Program} {ρ : Ro} {s s' : St} {w : World} {v : AV}

theorem exec_ok {fr : Fr} {a : Act} {own : Bool} {o : Oper} {so : SOp} (hF : RelF ρ fr a.tmps) (hS : RelS ρ s w) (hc : compOp P own o.op = some so) (hr : sop1 so (ev fr) s = some (v, s')) : ExecOk P ρ s w (execOp a.eval o) v s' := by
  obtain ⟨dst, op, type, pos, after, guard⟩ := o
  simp only at hc
  have same : ∀ {val : Value} {m : Sem Next}, s' = s → m.run P w = .ok (.value val) w → RelV ρ v val → ExecOk P ρ s w m v s' := by
    intro val m h1 h2 h3
    subst h1
    exact ⟨_, val, w, ρ, h2, .inl rfl, Le.refl ρ, h3, hS, Keeps.refl ρ _ w⟩
  cases op with
  | move x =>
    simp only [compOp, Option.map_eq_some_iff] at hc
    obtain ⟨y, hy, rfl⟩ := hc
    simp only [sop1] at hr
    injection hr with hr; injection hr with h1 h2; subst h1; subst h2
    exact same rfl (by simp [execOp]) (compX_ok hF hy)
  | assign x =>
    simp only [compOp, Option.map_eq_some_iff] at hc
    obtain ⟨y, hy, rfl⟩ := hc
    simp only [sop1] at hr
    injection hr with hr; injection hr with h1 h2; subst h1; subst h2
    exact same rfl (by simp [execOp]) (compX_ok hF hy)
  | pick c x y =>
    simp only [compOp] at hc
    split at hc
    rotate_left
    · cases hc
    rename_i c' x' y' h1 h2 h3
    injection hc with hc; subst hc
    simp only [sop1] at hr
    split at hr
    · rename_i t ht
      injection hr with hr; injection hr with h4 h5; subst h4; subst h5
      have hcv := compX_ok hF h1
      rw [ht] at hcv
      simp only [RelV] at hcv
      refine same (val := if t then a.eval x else a.eval y) rfl ?_ ?_
      · simp only [execOp]
        rw [hcv]
        cases t <;> simp [asBool]
      · cases t
        · exact compX_ok hF h3
        · exact compX_ok hF h2
    · cases hr
  | alloc e =>
    simp only [compOp, Option.map_eq_some_iff] at hc
    obtain ⟨z, hz, rfl⟩ := hc
    simp only [sop1] at hr
    injection hr with hr; injection hr with h1 h2; subst h1; subst h2
    exact ExecOk.of (ok_alloc hS hz)
  | box e x =>
    simp only [compOp, Option.map_eq_some_iff] at hc
    obtain ⟨y, hy, rfl⟩ := hc
    simp only [sop1] at hr
    split at hr
    · rename_i cs hcs
      injection hr with hr; injection hr with h1 h2; subst h1; subst h2
      exact ExecOk.of (ok_box hS (compX_ok hF hy) hcs)
    · cases hr
  | build t parts =>
    simp only [compOp] at hc
    have key : ∀ (place : Nat → Option (Nat × Nat)) (z : List AV) (u : Value) (ps : List (Nat × Nat × X)), compParts place parts.toList = some ps → RelL ρ z u.cells.toList →
        (∀ cells, Instr.fill place u.cells (parts.toList.map fun p => (p.1, a.eval p.2)) = some cells → (Instr.build t (parts.map fun (i, x) => (i, a.eval x))).run P w = .ok (.agg cells) w) → so = .build z ps → ExecOk P ρ s w (execOp a.eval ⟨dst, .build t parts, type, pos, after, guard⟩) v s' := by
      intro place z u ps hps hz hrun hso
      subst hso
      simp only [sop1] at hr
      split at hr
      · rename_i cs hcs
        injection hr with hr; injection hr with h1 h2; subst h1; subst h2
        obtain ⟨cells, h3, h4⟩ := fill_ok hF hps hz hcs
        refine ExecOk.of (OpOk.same hS (hrun cells h3) ?_)
        simp only [RelV]
        exact ⟨cells, rfl, h4⟩
      · cases hr
    split at hc
    · rename_i fs z hu hz
      split at hc
      · rename_i places hp
        simp only [Option.map_eq_some_iff] at hc
        obtain ⟨ps, hps, rfl⟩ := hc
        obtain ⟨i, u, hi, hu', hR⟩ := zeroOf_ok (ρ := ρ) hz
        refine key _ z u ps hps hR (fun cells hf => run_build w t _ cells ?_) rfl
        simp only [Program.built, hi, hu, hu', hp]
        rw [pair_map]
        exact hf
      · cases hc
    · rename_i n e z hu hz
      split at hc
      · rename_i ie hie
        simp only [Option.map_eq_some_iff] at hc
        obtain ⟨ps, hps, rfl⟩ := hc
        obtain ⟨i, u, hi, hu', hR⟩ := zeroOf_ok (ρ := ρ) hz
        refine key _ z u ps hps hR (fun cells hf => run_build w t _ cells ?_) rfl
        simp only [Program.built, hi, hu, hu', hie]
        rw [pair_map]
        exact hf
      · cases hc
    · cases hc
  | buildSlice t len parts =>
    simp only [compOp] at hc
    split at hc
    · rename_i e hu
      split at hc
      · rename_i i z ps hi hz hps
        split at hc
        · rename_i hcond
          obtain ⟨hl, h0, hlen, hsm⟩ := hcond
          injection hc with hc
          cases own with
          | false =>
            simp only [Bool.false_eq_true, if_false] at hc
            subst hc
            simp only [sop1, hl] at hr
            split at hr
            · rename_i rows hrows
              injection hr with hr; injection hr with h1 h2; subst h1; subst h2
              exact ExecOk.of (ok_lit hS hF hu hi hz hps hl h0 hlen hsm hrows)
            · cases hr
          | true =>
            simp only [if_true] at hc
            subst hc
            simp only [sop1] at hr
            split at hr
            · rename_i rows hrows
              injection hr with hr; injection hr with h1 h2; subst h1; subst h2
              obtain ⟨cells, k1, k2, k3, k4⟩ := runLit (w := w) hF hu hi hz hps hl h0 hlen hsm hrows
              have hm : len ≤ maxLen := by
                have := Nat.le_mul_of_pos_right len h0
                simp only [maxLen]; omega
              obtain ⟨ρ', k5, k6, k7, k8⟩ := ok_newrow (e := e) (byt := i.bytes) hS h0 k2 k3 k4 hm
              exact ExecOk.of ⟨_, _, ρ', k1, k5, k6, k7, k8⟩
            · cases hr
        · cases hc
      · cases hc
    · cases hc
  | load t x =>
    simp only [compOp] at hc
    split at hc
    rotate_left
    · cases hc
    rename_i n y h1 h2
    injection hc with hc; subst hc
    simp only [sop1] at hr
    split at hr
    · rename_i u hu
      injection hr with hr; injection hr with h3 h4; subst h3; subst h4
      obtain ⟨val, h5, h6⟩ := loadA_ok hS h1 (compX_ok hF h2) hu
      exact ExecOk.of (OpOk.same hS h5 h6)
    · cases hr
  | store t p x =>
    simp only [compOp] at hc
    split at hc
    rotate_left
    · cases hc
    rename_i n y z h1 h2 h3
    injection hc with hc; subst hc
    simp only [sop1] at hr
    split at hr
    · rename_i s1 hs1
      injection hr with hr; injection hr with h4 h5; subst h4; subst h5
      obtain ⟨w', h6, h7, h8⟩ := ok_store hS h1 (compX_ok hF h2) (compX_ok hF h3) hs1
      exact ⟨.skip, undef, w', ρ, by simp [execOp, h6], .inr ⟨rfl, rfl⟩, Le.refl ρ, by simp only [RelV]; exact ⟨#[], rfl, by simp [RelT]⟩, h7, h8⟩
    · cases hr
  | nilCheck x =>
    simp only [compOp, Option.map_eq_some_iff] at hc
    obtain ⟨y, hy, rfl⟩ := hc
    have hv := compX_ok hF hy
    simp only [sop1] at hr
    split at hr
    · rename_i r o he
      injection hr with hr; injection hr with h4 h5; subst h4; subst h5
      rw [he] at hv
      have hv' := hv
      simp only [RelV] at hv
      obtain ⟨e, h1, h2, h3⟩ := hv
      exact same (val := a.eval x) rfl (by simp only [execOp, h3]; rfl) hv'
    · rename_i r n i o he
      injection hr with hr; injection hr with h4 h5; subst h4; subst h5
      rw [he] at hv
      have hv' := hv
      simp only [RelV] at hv
      obtain ⟨e, o, h1, h2, h3, h6, h7⟩ := hv
      exact same (val := a.eval x) rfl (by simp only [execOp, h6]; rfl) hv'
    · rename_i c he
      injection hr with hr; injection hr with h4 h5; subst h4; subst h5
      rw [he] at hv
      have hv' := hv
      simp only [RelV] at hv
      obtain ⟨b, o, h1, h2⟩ := hv
      exact same (val := a.eval x) rfl (by simp only [execOp, h1]; rfl) hv'
    · rename_i f p q he
      injection hr with hr; injection hr with h4 h5; subst h4; subst h5
      rw [he] at hv
      have hv' := hv
      simp only [RelV] at hv
      obtain ⟨as, bs, h1, h2⟩ := hv
      exact same (val := a.eval x) rfl (by simp only [execOp, h1]; rfl) hv'
    · cases hr
  | binOp op t x y yt =>
    simp only [compOp] at hc
    split at hc
    · rename_i x' y' ht hx hy
      have hxv := compX_ok hF hx
      have hyv := compX_ok hF hy
      have key : ∀ neg : Bool, op = (if neg then .neq else .eql) → so = .beq neg x' y' → ExecOk P ρ s w (execOp a.eval ⟨dst, .binOp op t x y yt, type, pos, after, guard⟩) v s' := by
        intro neg ho hso
        subst hso
        simp only [sop1] at hr
        split at hr
        · rename_i p q hp hq
          injection hr with hr; injection hr with h4 h5; subst h4; subst h5
          rw [hp] at hxv
          rw [hq] at hyv
          subst ho
          exact ExecOk.of (ok_beq hS ht hxv hyv)
        · cases hr
      split at hc
      · injection hc with hc; exact key false rfl hc.symm
      · injection hc with hc; exact key true rfl hc.symm
      · cases hc
    · rename_i k x' y' ht hx hy
      injection hc with hc; subst hc
      simp only [sop1] at hr
      split at hr
      · rename_i u hu
        injection hr with hr; injection hr with h4 h5; subst h4; subst h5
        exact ExecOk.of (ok_binInt hS (compX_ok hF hx) (compX_ok hF hy) hu)
      · cases hr
    · rename_i x' y' ht hx hy
      injection hc with hc; subst hc
      simp only [sop1] at hr
      split at hr
      · rename_i u hu
        injection hr with hr; injection hr with h4 h5; subst h4; subst h5
        exact ExecOk.of (ok_binInt hS (compX_ok hF hx) (compX_ok hF hy) hu)
      · cases hr
    · rename_i e x' ht hx hy
      have hyv := compX_ok hF hy
      simp only [ev, RelV] at hyv
      have hxv := compX_ok hF hx
      have key : ∀ neg : Bool, op = (if neg then .neq else .eql) → so = .isNil neg x' → ExecOk P ρ s w (execOp a.eval ⟨dst, .binOp op t x y yt, type, pos, after, guard⟩) v s' := by
        intro neg ho hso
        subst hso
        simp only [sop1] at hr
        split at hr
        · rename_i b hb
          injection hr with hr; injection hr with h4 h5; subst h4; subst h5
          subst ho
          refine ExecOk.of (m := do eqGuard (if neg then .neq else .eql) t x y (a.eval x) (a.eval y); binOp (if neg then .neq else .eql) t (a.eval x) (a.eval y)) ?_
          rw [hyv]
          exact ok_isNil hS ht hxv hb
        · cases hr
      split at hc
      · injection hc with hc; exact key false rfl hc.symm
      · injection hc with hc; exact key true rfl hc.symm
      · cases hc
    · rename_i fs x' y' ht hx hy
      split at hc
      rotate_left
      · cases hc
      rename_i hgs
      have key : ∀ (neg : Bool) (ks : List Nat), eqKinds P 0 fs.toList = some ks → op = (if neg then .neq else .eql) → so = .eqs neg ks x' y' → ExecOk P ρ s w (execOp a.eval ⟨dst, .binOp op t x y yt, type, pos, after, guard⟩) v s' := by
        intro neg ks hks ho hso
        subst hso
        have hxv := compX_ok hF hx
        have hyv := compX_ok hF hy
        simp only [sop1] at hr
        split at hr
        · rename_i p q hp hq
          split at hr
          · rename_i b hb
            injection hr with hr; injection hr with h4 h5; subst h4; subst h5
            rw [hp] at hxv
            rw [hq] at hyv
            subst ho
            exact ExecOk.of (ok_eqs hS ht hgs.1 hgs.2 hks hxv hyv hb)
          · cases hr
        · cases hr
      split at hc
      · simp only [Option.map_eq_some_iff] at hc
        obtain ⟨ks, hks, hso⟩ := hc
        exact key false ks hks rfl hso.symm
      · simp only [Option.map_eq_some_iff] at hc
        obtain ⟨ks, hks, hso⟩ := hc
        exact key true ks hks rfl hso.symm
      · cases hc
    · cases hc
  | unOp op t x =>
    simp only [compOp, Option.map_eq_some_iff] at hc
    obtain ⟨y, hy, rfl⟩ := hc
    simp only [sop1] at hr
    split at hr
    · rename_i u hu
      injection hr with hr; injection hr with h4 h5; subst h4; subst h5
      exact ExecOk.of (ok_un hS (compX_ok hF hy) hu)
    · cases hr
  | convert src dst' x =>
    simp only [compOp] at hc
    split at hc
    · rename_i k0 k x' hs hd hx
      injection hc with hc; subst hc
      simp only [sop1] at hr
      split at hr
      · rename_i q n he
        injection hr with hr; injection hr with h4 h5; subst h4; subst h5
        have hv := compX_ok hF hx
        rw [he] at hv
        exact ExecOk.of (ok_conv hS hs hd hv)
      · cases hr
    · rename_i x' hs hd hx
      injection hc with hc; subst hc
      simp only [sop1] at hr
      split at hr
      · rename_i b he
        injection hr with hr; injection hr with h4 h5; subst h4; subst h5
        have hv := compX_ok hF hx
        rw [he] at hv
        exact ExecOk.of (ok_convS hS hs hd hv)
      · cases hr
    · rename_i e x' hs hd hx
      split at hc
      · rename_i he'
        injection hc with hc; subst hc
        simp only [sop1] at hr
        split at hr
        · rename_i b he
          injection hr with hr; injection hr with h4 h5; subst h4; subst h5
          have hv := compX_ok hF hx
          rw [he] at hv
          exact ExecOk.of (ok_bytes hS hs hd he' hv)
        · cases hr
      · cases hc
    · rename_i e x' hs hd hx
      split at hc
      · rename_i he' hsz
        injection hc with hc; subst hc
        simp only [sop1] at hr
        split at hr
        · rename_i rows hrows
          split at hr
          · rename_i b hb
            injection hr with hr; injection hr with h4 h5; subst h4; subst h5
            exact ExecOk.of (ok_strOf hS hs hd he' (compX_ok hF hx) hrows hb)
          · cases hr
        · cases hr
      · cases hc
    · cases hc
  | makeInterface t x =>
    simp only [compOp] at hc
    split at hc
    · cases hc
    · rename_i d hd1 hd
      simp only [Option.map_eq_some_iff] at hc
      obtain ⟨y, hy, rfl⟩ := hc
      simp only [sop1] at hr
      split at hr
      · cases hr
      · injection hr with hr; injection hr with h4 h5; subst h4; subst h5
        exact ExecOk.of (ok_mkif hS hd (fun ms h => hd1 ms h) (compX_ok hF hy))
    · cases hc
  | makeFunc fn first captured =>
    cases fn with
    | func f =>
      simp only [compOp] at hc
      split at hc
      rotate_left
      · cases hc
      rename_i p q h1 h2
      injection hc with hc; subst hc
      simp only [sop1] at hr
      injection hr with hr; injection hr with h4 h5; subst h4; subst h5
      refine same (val := .func (.func f) (first.map a.eval) (captured.map a.eval)) rfl (by simp [execOp, Instr.makeFunc]) ?_
      simp only [RelV]
      refine ⟨_, _, rfl, ?_, ?_⟩
      · have := compXs_ok hF h1; simpa using this
      · have := compXs_ok hF h2; simpa using this
    | _ => simp [compOp] at hc
  | makeSlice t l c =>
    simp only [compOp] at hc
    split at hc
    · rename_i e l' c' hu hl hcc
      split at hc
      · rename_i i z hi hz
        split at hc
        · rename_i h0
          injection hc with hc; subst hc
          simp only [sop1] at hr
          split at hr
          · rename_i q n q' m hn hm
            split at hr
            · rename_i hcond
              obtain ⟨rfl, hn0, hzl, hroom⟩ := hcond
              injection hr with hr; injection hr with h4 h5; subst h4; subst h5
              have h1 := compX_ok hF hl
              have h2 := compX_ok hF hcc
              rw [hn] at h1
              rw [hm] at h2
              simp only [RelV] at h1 h2
              refine ExecOk.of (m := Instr.makeSlice t (a.eval l) (a.eval c)) ?_
              rw [h1, h2]
              exact ok_mkslice hS hu hi hz h0 hn0 hzl hroom
            · cases hr
          · cases hr
        · cases hc
      · cases hc
    · cases hc
  | slice t x lo hi mx =>
    cases mx with
    | some m => simp [compOp] at hc
    | none =>
      simp only [compOp] at hc
      have key : ∀ (sz : Nat) (x' : X) (lo' hi' : Option X), compX x = some x' → compO lo = some lo' → compO hi = some hi' → (sz = 0 ∧ P.underlying t = some .string ∨ 0 < sz ∧ ∃ e, P.underlying t = some (.slice e) ∧ szOf P e = some sz) → so = .slice sz x' lo' hi' →
          ExecOk P ρ s w (execOp a.eval ⟨dst, .slice t x lo hi none, type, pos, after, guard⟩) v s' := by
        intro sz x' lo' hi' hx hlo hhi ht hso
        subst hso
        have hxv := compX_ok hF hx
        simp only [sop1] at hr
        split at hr
        · rename_i n hn
          split at hr
          · rename_i l h hl hh
            have hl' := compO_ok hF hlo hl
            have hh' := compO_ok hF hhi hh
            have hat : (Instr.sliceAt t (a.eval x) (lo.map a.eval) (hi.map a.eval) none).run P w = (Instr.slice t (a.eval x) (lo.map a.eval) (hi.map a.eval) none).run P w := by
              rcases ht with ⟨_, ht⟩ | ⟨_, e, ht, _⟩ <;> simp [Instr.sliceAt, run_underlying ht]
            have fin : OpOk P ρ s w (Instr.slice t (a.eval x) (lo.map a.eval) (hi.map a.eval) none) v s' → ExecOk P ρ s w (execOp a.eval ⟨dst, .slice t x lo hi none, type, pos, after, guard⟩) v s' := by
              intro h
              refine ExecOk.of (m := Instr.sliceAt t (a.eval x) (lo.map a.eval) (hi.map a.eval) none) ?_
              obtain ⟨val, w', ρ', h1, h2⟩ := h
              exact ⟨val, w', ρ', by rw [hat]; exact h1, h2⟩
            apply fin
            unfold sliceA at hr
            split at hr
            · rename_i b he
              rw [he] at hxv hn
              split at hr
              · rename_i hcond
                obtain ⟨hz, h1, h2⟩ := hcond
                injection hr with hr; injection hr with h4 h5; subst h4; subst h5
                rcases ht with ⟨_, ht⟩ | ⟨h0, _⟩
                · simp only [lenA] at hn
                  injection hn with hn; subst hn
                  refine ok_slice_str hS ht hxv ?_ ?_ h1 h2
                  · revert hl'; cases lo <;> simp [BoundOk]
                  · revert hh'; cases hi <;> simp [BoundOk]
                · omega
              · cases hr
            · rename_i rows he
              rw [he] at hxv hn
              split at hr
              · rename_i hcond
                obtain ⟨hz, h1, h2, h3⟩ := hcond
                injection hr with hr; injection hr with h4 h5; subst h4; subst h5
                rcases ht with ⟨h0, _⟩ | ⟨_, e, ht, hsz⟩
                · omega
                · simp only [lenA] at hn
                  injection hn with hn; subst hn
                  exact ok_slice_sl hS ht hsz h3 hxv hl' hh' h1 h2
              · cases hr
            · rename_i he
              rw [he] at hxv hn
              split at hr
              · rename_i hcond
                obtain ⟨hz, rfl, rfl⟩ := hcond
                injection hr with hr; injection hr with h4 h5; subst h4; subst h5
                rcases ht with ⟨h0, _⟩ | ⟨_, e, ht, hsz⟩
                · omega
                · simp only [lenA] at hn
                  injection hn with hn; subst hn
                  exact ok_slice_nils hS ht hsz hxv hl' hh'
              · cases hr
            · rename_i r m he
              rw [he] at hxv hn
              split at hr
              · rename_i e0 sz' byt rows hrr
                split at hr
                · rename_i hcond
                  obtain ⟨hz, rfl, h1, h2, rfl⟩ := hcond
                  simp only [lenA, hrr, if_true] at hn
                  injection hn with hn; subst hn
                  rcases ht with ⟨h0, _⟩ | ⟨_, e, ht, hsz⟩
                  · omega
                  · split at hr
                    · rename_i hcond
                      simp only [Bool.not_eq_eq_eq_not, Bool.not_true] at hcond
                      obtain ⟨rfl, hnone⟩ := hcond
                      injection hr with hr; injection hr with h4 h5; subst h4; subst h5
                      cases hi with
                      | none => simp [compO] at hhi; subst hhi; simp at hnone
                      | some u => exact ok_shrink hS ht hsz hrr hxv hl' hh' h2
                    · injection hr with hr; injection hr with h4 h5; subst h4; subst h5
                      exact ok_slice_own hS ht hsz hrr hxv hl' hh' h1 h2
                · cases hr
              · cases hr
            · cases hr
          · cases hr
        · cases hr
      split at hc
      · rename_i x' lo' hi' ht hx hlo hhi
        injection hc with hc
        exact key 0 x' lo' hi' hx hlo hhi (.inl ⟨rfl, ht⟩) hc.symm
      · rename_i e x' lo' hi' ht hx hlo hhi
        split at hc
        · rename_i sz hsz
          injection hc with hc
          exact key (sz + 1) x' lo' hi' hx hlo hhi (.inr ⟨Nat.succ_pos _, e, ht, hsz⟩) hc.symm
        · cases hc
      · cases hc
  | fieldAddr st x f =>
    simp only [compOp] at hc
    split at hc
    · rename_i fs x' ht hx
      split at hc
      · rename_i fd hf
        split at hc
        · rename_i k hsz
          injection hc with hc; subst hc
          have h := ok_faddr (P := P) hS ht hf hsz (compX_ok hF hx)
          simp only [sop1] at hr
          split at hr
          · rename_i r o he
            injection hr with hr; injection hr with h4 h5; subst h4; subst h5
            exact ExecOk.of (h.1 r o he)
          · rename_i r n i o he
            injection hr with hr; injection hr with h4 h5; subst h4; subst h5
            exact ExecOk.of (h.2.1 r n i o he)
          · rename_i c he
            injection hr with hr; injection hr with h4 h5; subst h4; subst h5
            exact ExecOk.of (h.2.2 c he)
          · cases hr
        · cases hc
      · cases hc
    · cases hc
  | field st x f =>
    simp only [compOp] at hc
    split at hc
    · rename_i fs x' ht hx
      split at hc
      · rename_i fd hf
        simp only [Option.map_eq_some_iff] at hc
        obtain ⟨n, hn, rfl⟩ := hc
        simp only [sop1] at hr
        split at hr
        · rename_i c he
          split at hr
          · rename_i u hu
            injection hr with hr; injection hr with h4 h5; subst h4; subst h5
            have hv := compX_ok hF hx
            rw [he] at hv
            exact ExecOk.of (ok_fld hS ht hf hn hv hu)
          · cases hr
        · cases hr
      · cases hc
    · cases hc
  | indexAddr t x i =>
    simp only [compOp] at hc
    split at hc
    · rename_i e x' i' ht hx hi
      simp only [Option.map_eq_some_iff] at hc
      obtain ⟨sz, hsz, rfl⟩ := hc
      simp only [sop1] at hr
      split at hr
      · rename_i q k hk
        have hiv := compX_ok hF hi
        rw [hk] at hiv
        simp only [RelV] at hiv
        split at hr
        · rename_i hk0
          refine ExecOk.of (m := Instr.indexAt t (a.eval x) (a.eval i)) ?_
          rw [hiv]
          have hxv := compX_ok hF hx
          split at hr
          · rename_i rows he
            rw [he] at hxv
            split at hr
            · rename_i r hrr
              split at hr
              · rename_i hl
                injection hr with hr; injection hr with h4 h5; subst h4; subst h5
                exact ok_iaddr_sl hS ht (by rw [hl]; exact hsz) hxv hk0 hrr
              · cases hr
            · cases hr
          · rename_i r n he
            rw [he] at hxv
            split at hr
            · rename_i e0 sz' byt rows hrr
              split at hr
              · rename_i hcond
                obtain ⟨rfl, hlt, rfl⟩ := hcond
                injection hr with hr; injection hr with h4 h5; subst h4; subst h5
                exact ok_iaddr_own hS ht hsz hxv hk0 hrr hlt
              · cases hr
            · cases hr
          · cases hr
        · cases hr
      · cases hr
    · rename_i len e x' i' ht hx hi
      simp only [Option.map_eq_some_iff] at hc
      obtain ⟨sz, hsz, rfl⟩ := hc
      simp only [sop1] at hr
      split at hr
      · rename_i q k hk
        have hiv := compX_ok hF hi
        rw [hk] at hiv
        simp only [RelV] at hiv
        split at hr
        · rename_i hk0
          refine ExecOk.of (m := Instr.indexAt t (a.eval x) (a.eval i)) ?_
          rw [hiv]
          have h := ok_iaddrA (P := P) (q := q) hS ht hsz (compX_ok hF hx) hk0
          split at hr
          · rename_i r o he
            injection hr with hr; injection hr with h4 h5; subst h4; subst h5
            exact h.1 r o he
          · rename_i c he
            injection hr with hr; injection hr with h4 h5; subst h4; subst h5
            exact h.2 c he
          · cases hr
        · cases hr
      · cases hr
    · cases hc
  | index t x i =>
    simp only [compOp] at hc
    split at hc
    · rename_i x' i' ht hx hi
      injection hc with hc; subst hc
      simp only [sop1] at hr
      split at hr
      · rename_i b q k hb hk
        have hiv := compX_ok hF hi
        rw [hk] at hiv
        simp only [RelV] at hiv
        split at hr
        · rename_i hk0
          split at hr
          · rename_i c hcc
            injection hr with hr; injection hr with h4 h5; subst h4; subst h5
            have hxv := compX_ok hF hx
            rw [hb] at hxv
            refine ExecOk.of (m := Instr.index t (a.eval x) (a.eval i)) ?_
            rw [hiv]
            exact ok_idxS hS ht hxv hk0 hcc
          · cases hr
        · cases hr
      · cases hr
    · rename_i len e x' i' ht hx hi
      split at hc
      · rename_i sz n hsz hn
        injection hc with hc; subst hc
        simp only [sop1] at hr
        split at hr
        · rename_i c q k hcc hk
          have hiv := compX_ok hF hi
          rw [hk] at hiv
          simp only [RelV] at hiv
          split at hr
          · rename_i hk0
            split at hr
            · rename_i u hu
              injection hr with hr; injection hr with h4 h5; subst h4; subst h5
              have hxv := compX_ok hF hx
              rw [hcc] at hxv
              refine ExecOk.of (m := Instr.index t (a.eval x) (a.eval i)) ?_
              rw [hiv]
              exact ok_idxA hS ht hsz hn hxv hk0 hu
            · cases hr
          · cases hr
        · cases hr
      · cases hc
    · cases hc
  | extract x i =>
    simp only [compOp, Option.map_eq_some_iff] at hc
    obtain ⟨y, hy, rfl⟩ := hc
    simp only [sop1] at hr
    split at hr
    · rename_i vs he
      split at hr
      · rename_i u hu
        injection hr with hr; injection hr with h4 h5; subst h4; subst h5
        have hv := compX_ok hF hy
        rw [he] at hv
        exact ExecOk.of (ok_ext hS hv hu)
      · cases hr
    · cases hr
  | call c =>
    obtain ⟨callee, args, argTypes⟩ := c
    simp only [compOp, compCall] at hc
    have hexec : ∀ b, callee = .builtin b → execOp a.eval ⟨dst, .call ⟨callee, args, argTypes⟩, type, pos, after, guard⟩ = (do let d ← (pure { target := .builtin b argTypes type (args.map fun | .const _ => true | _ => false), args := args.map a.eval } : Sem Deferred); invoke d.target d.args) := by
      rintro b rfl; rfl
    split at hc
    · rename_i x t hargs hts
      have ha : args = #[x] := by apply Array.ext'; simpa using hargs
      have hta : argTypes = #[t] := by apply Array.ext'; simpa using hts
      subst ha; subst hta
      have hfin : OpOk P ρ s w (Builtin.len_ #[t] type #[a.eval x]) v s' → ExecOk P ρ s w (execOp a.eval ⟨dst, .call ⟨.builtin .len, #[x], #[t]⟩, type, pos, after, guard⟩) v s' := by
        intro h
        rw [hexec _ rfl]
        obtain ⟨val, w', ρ', h1, h2⟩ := h
        exact ⟨.value val, val, w', ρ', by simp [invoke, builtin, h1], .inl rfl, h2⟩
      split at hc
      · rename_i x' ht hx
        injection hc with hc; subst hc
        have hxv := compX_ok hF hx
        simp only [sop1] at hr
        split at hr
        · rename_i b he
          rw [he] at hxv
          injection hr with hr; injection hr with h4 h5; subst h4; subst h5
          exact hfin (ok_lenS hS ht hxv)
        · cases hr
      · rename_i e x' ht hx
        injection hc with hc; subst hc
        have hxv := compX_ok hF hx
        simp only [sop1] at hr
        split at hr
        · cases hr
        · rename_i hns
          split at hr
          · rename_i n hn
            injection hr with hr; injection hr with h4 h5; subst h4; subst h5
            exact hfin (ok_len hS ht hxv (fun b h => hns b h) hn)
          · cases hr
      · rename_i n e x' ht hx
        injection hc with hc; subst hc
        simp only [sop1, ev] at hr
        injection hr with hr; injection hr with h4 h5; subst h4; subst h5
        refine hfin (OpOk.same hS (val := .int .i64 n) (by simp [Builtin.len_, run_underlying ht, goInt]) (by simp [RelV]))
      · cases hc
    · rename_i x xs hargs
      have ha : args = (x :: xs).toArray := by apply Array.ext'; simpa using hargs
      subst ha
      split at hc
      · rename_i x' xs' hx hxs
        injection hc with hc; subst hc
        simp only [sop1] at hr
        split at hr
        · rename_i u hu
          injection hr with hr; injection hr with h4 h5; subst h4; subst h5
          obtain ⟨val, h1, h2⟩ := run_minmax (P := P) (w := w) (compX_ok hF hx) (compXs_ok hF hxs) hu
          rw [hexec _ rfl]
          refine same (val := val) rfl ?_ h2
          simp only [Bool.false_eq_true, if_false, if_true] at h1
          simp [invoke, builtin, Builtin.min_, h1]
        · cases hr
      · cases hc
    · rename_i x xs hargs
      have ha : args = (x :: xs).toArray := by apply Array.ext'; simpa using hargs
      subst ha
      split at hc
      · rename_i x' xs' hx hxs
        injection hc with hc; subst hc
        simp only [sop1] at hr
        split at hr
        · rename_i u hu
          injection hr with hr; injection hr with h4 h5; subst h4; subst h5
          obtain ⟨val, h1, h2⟩ := run_minmax (P := P) (w := w) (compX_ok hF hx) (compXs_ok hF hxs) hu
          rw [hexec _ rfl]
          refine same (val := val) rfl ?_ h2
          simp only [Bool.false_eq_true, if_false, if_true] at h1
          simp [invoke, builtin, Builtin.max_, h1]
        · cases hr
      · cases hc
    · rename_i x y t u hargs hts
      have ha : args = #[x, y] := by apply Array.ext'; simpa using hargs
      have hta : argTypes = #[t, u] := by apply Array.ext'; simpa using hts
      subst ha; subst hta
      split at hc
      · rename_i e e2 x' y' ht hu hx hy
        split at hc
        · rename_i i hi
          split at hc
          · rename_i z hz
            split at hc
            · rename_i hcond
              obtain ⟨hzs, h0, rfl⟩ := hcond
              injection hc with hc; subst hc
              simp only [sop1] at hr
              split at hr
              · rename_i news hnews
                have hsz : ∀ r ∈ news, r.length = i.size := by
                  have := hr
                  unfold appendA at this
                  split at this
                  · rename_i h; exact rowsSz_iff.1 h
                  · cases this
                obtain ⟨A, c, us, h1, h2, h3⟩ := rowsOf_ok hS (compX_ok hF hy) hnews hsz
                have hfin := ok_append (ty := type) (c2 := c) hS ht hi hz hzs h0 (compX_ok hF hx) h2 h3 hr
                rw [hexec _ rfl]
                obtain ⟨val, w', ρ', k1, k2⟩ := hfin
                rw [← h1] at k1
                exact ⟨.value val, val, w', ρ', by simp [invoke, builtin, k1], .inl rfl, k2⟩
              · cases hr
            · cases hc
          · cases hc
        · cases hc
      · cases hc
    · cases hc
  | _ => simp [compOp] at hc
end
end Go.Ab
