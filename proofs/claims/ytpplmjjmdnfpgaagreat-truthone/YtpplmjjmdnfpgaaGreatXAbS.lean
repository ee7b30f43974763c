import Derived.Test.YtpplmjjmdnfpgaaGreatXAbN
import Derived.Carry
import Derived.ChangeSame
set_option linter.unusedVariables false
namespace Go.Ab

/-! ### an argument's reading as ours -/
mutual
def cellsD {H : Type} : DataW H → List AV
  | .lit (.bool b) => [.bool b]
  | .lit (.int k n) => [.int k n]
  | .lit (.string s) => [.str s]
  | .nil => [.sl []]
  | .slice xs _ => [.sl (cellsDs xs)]
  | .agg xs => (cellsDs xs).flatten
  | _ => [.any]
def cellsDs {H : Type} : List (DataW H) → List (List AV)
  | [] => []
  | x :: r => cellsD x :: cellsDs r
end

theorem cellsDs_map {H : Type} : ∀ (l : List (DataW H)), cellsDs l = l.map cellsD
  | [] => rfl
  | x :: r => by simp [cellsDs, cellsDs_map r]

def OkD {H : Type} (P : Program) : Nat → TypeId → DataW H → Prop
  | 0, _, _ => False
  | n + 1, t, d => match P.underlying t with
    | some .bool => ∃ b, d = .lit (.bool b)
    | some (.int k) => ∃ x, d = .lit (.int k x) ∧ (Lit.int k x).wf = true
    | some .string => ∃ s : List UInt8, d = .lit (.string s) ∧ s.length ≤ maxLen
    | some (.slice e) => d = .nil ∨ ∃ xs ys, d = .slice xs ys ∧ xs.length ≤ maxLen ∧ ∀ x ∈ xs, OkD P n e x
    | some (.struct fs) => ∃ xs, d = .agg xs ∧ xs.length = fs.toList.length ∧ ∀ (i : Nat) f x, fs.toList[i]? = some f → xs[i]? = some x → OkD P n f.type x
    | some (.array m e) => ∃ xs, d = .agg xs ∧ xs.length = m ∧ ∀ x ∈ xs, OkD P n e x
    | _ => False

/-- Fields one behind the other. -/
def consec (P : Program) : Nat → List Field → Option Nat
  | o, [] => some o
  | o, f :: r => if f.offset = o then consec P (o + P.cellsOf f.type) r else none

def closedT (P : Program) (T : List TypeId) : Bool := T.all fun t => match P.underlying t with
  | some .bool => true
  | some (.int _) => true
  | some .string => true
  | some (.slice e) => T.contains e && decide (0 < P.cellsOf e)
  | some (.struct fs) => fs.toList.all (fun f => T.contains f.type) && consec P 0 fs.toList == some (P.cellsOf t)
  | some (.array n e) => T.contains e && P.cellsOf t == n * P.cellsOf e
  | _ => false

section
variable {H : Type} {enc : TypeId × Value → H} {P : Program} {w : World} {spare : Nat → Bool} {held : Bool} {ρ : Ro}

theorem RelL_flatten_fields {cs : List Value} {rd : Field → Option (DataW H × List MemPlace)} {f1 : Field → DataW H → Prop} : ∀ {fs : List Field} {o n : Nat} {xs : List (DataW H × List MemPlace)}, consec P o fs = some n → fs.mapM rd = some xs → o + (cs.drop o).length = cs.length →
    (∀ f ∈ fs, ∀ x ps, rd f = some (x, ps) → RelL ρ (cellsD x) ((cs.drop f.offset).take (P.cellsOf f.type)) ∧ f1 f x) → cs.length = n →
    RelL ρ ((xs.map (·.1)).map cellsD).flatten (cs.drop o) ∧ xs.length = fs.length ∧ ∀ (i : Nat) f x, fs[i]? = some f → (xs.map (·.1))[i]? = some x → f1 f x
  | [], o, n, xs, hc, hm, ho, hr, hn => by
    simp only [consec] at hc; injection hc with hc; subst hc
    simp at hm; subst hm
    refine ⟨by rw [List.drop_eq_nil_of_le (by omega)]; simp [RelL], rfl, by simp⟩
  | f :: fs, o, n, xs, hc, hm, ho, hr, hn => by
    simp only [consec] at hc
    split at hc
    rotate_left
    · cases hc
    rename_i hof
    rw [List.mapM_cons] at hm
    simp only [bind, Option.bind_eq_some_iff, pure, Option.some.injEq] at hm
    obtain ⟨⟨x, ps⟩, hx, xs', hxs, rfl⟩ := hm
    obtain ⟨h1, h2⟩ := hr f (by simp) x ps hx
    have hle : ∀ (fs : List Field) (o n : Nat), consec P o fs = some n → o ≤ n := by
      intro fs
      induction fs with
      | nil => intro o n h; simp only [consec] at h; injection h with h; omega
      | cons g fs ih =>
        intro o n h
        simp only [consec] at h
        split at h
        · have := ih _ _ h; omega
        · cases h
    have hle1 := hle _ _ _ hc
    obtain ⟨h3, h4, h5⟩ := RelL_flatten_fields (cs := cs) (f1 := f1) hc hxs (by simp; omega) (fun g hg => hr g (by simp [hg])) hn
    refine ⟨?_, by simp [h4], fun i g y hg hy => ?_⟩
    · simp only [List.map_cons, List.flatten_cons]
      have e1 : cs.drop o = (cs.drop o).take (P.cellsOf f.type) ++ cs.drop (o + P.cellsOf f.type) := by
        rw [← List.drop_drop, List.take_append_drop]
      rw [e1]
      rw [hof] at h1
      exact h1.append h3
    · cases i with
      | zero => simp at hg hy; subst hg; subst hy; exact h2
      | succ i => simp at hg hy; exact h5 i g y hg (by simpa using hy)

theorem RelL_flatten_items {cs : List Value} {c : Nat} {rd : Nat → Option (DataW H × List MemPlace)} {f1 : DataW H → Prop} : ∀ {m k : Nat} {xs : List (DataW H × List MemPlace)}, (List.range' k m).mapM rd = some xs → cs.length = (k + m) * c →
    (∀ i ∈ List.range' k m, ∀ x ps, rd i = some (x, ps) → RelL ρ (cellsD x) ((cs.drop (i * c)).take c) ∧ f1 x) →
    RelL ρ ((xs.map (·.1)).map cellsD).flatten (cs.drop (k * c)) ∧ xs.length = m ∧ ∀ x ∈ xs.map (·.1), f1 x
  | 0, k, xs, hm, hl, hr => by
    simp at hm; subst hm
    refine ⟨by rw [List.drop_eq_nil_of_le (by simpa using Nat.le_of_eq hl)]; simp [RelL], rfl, by simp⟩
  | m + 1, k, xs, hm, hl, hr => by
    rw [List.range'_succ, List.mapM_cons] at hm
    simp only [bind, Option.bind_eq_some_iff, pure, Option.some.injEq] at hm
    obtain ⟨⟨x, ps⟩, hx, xs', hxs, rfl⟩ := hm
    obtain ⟨h1, h2⟩ := hr k (by simp [List.range'_succ]) x ps hx
    obtain ⟨h3, h4, h5⟩ := RelL_flatten_items (cs := cs) (c := c) (f1 := f1) hxs (by rw [hl]; congr 1; omega) (fun i hi => hr i (by simp [List.range'_succ] at hi ⊢; omega))
    refine ⟨?_, by simp [h4], ?_⟩
    · simp only [List.map_cons, List.flatten_cons]
      have e1 : cs.drop (k * c) = (cs.drop (k * c)).take c ++ cs.drop ((k + 1) * c) := by
        rw [show (k + 1) * c = k * c + c by rw [Nat.add_mul]; omega, ← List.drop_drop, List.take_append_drop]
      rw [e1]
      exact h1.append h3
    · intro y hy
      simp only [List.map_cons, List.mem_cons] at hy
      rcases hy with rfl | hy
      · exact h2
      · exact h5 y hy

theorem rows_of_reading {c b o : Nat} {rd : Nat → Option (DataW H × List MemPlace)} {f1 : DataW H → Prop} : ∀ {m k : Nat} {xs : List (DataW H × List MemPlace)}, (List.range' k m).mapM rd = some xs →
    (∀ i ∈ List.range' k m, ∀ x ps, rd i = some (x, ps) → (cellsD x).length = c ∧ RelI ρ (cellsD x) b (o + i * c) ∧ f1 x) →
    RelR ρ c ((xs.map (·.1)).map cellsD) b (o + k * c) ∧ xs.length = m ∧ ∀ x ∈ xs.map (·.1), f1 x
  | 0, k, xs, hm, hr => by
    simp at hm; subst hm
    exact ⟨by simp [RelR], rfl, by simp⟩
  | m + 1, k, xs, hm, hr => by
    rw [List.range'_succ, List.mapM_cons] at hm
    simp only [bind, Option.bind_eq_some_iff, pure, Option.some.injEq] at hm
    obtain ⟨⟨x, ps⟩, hx, xs', hxs, rfl⟩ := hm
    obtain ⟨h0, h1, h2⟩ := hr k (by simp [List.range'_succ]) x ps hx
    obtain ⟨h3, h4, h5⟩ := rows_of_reading (c := c) (b := b) (o := o) (f1 := f1) hxs (fun i hi => hr i (by simp [List.range'_succ] at hi ⊢; omega))
    refine ⟨?_, by simp [h4], ?_⟩
    · simp only [List.map_cons, RelR]
      refine ⟨h0, h1, ?_⟩
      rw [show (k + 1) * c = k * c + c by rw [Nat.add_mul]; omega, ← Nat.add_assoc] at h3
      exact h3
    · intro y hy
      simp only [List.map_cons, List.mem_cons] at hy
      rcases hy with rfl | hy
      · exact h2
      · exact h5 y hy

theorem RelL_one {x : AV} {v : Value} (h : RelV ρ x v) (hv : v.oneCell' = true) : RelL ρ [x] [v] := by
  simp only [RelL]
  exact ⟨v, [], rfl, hv, h, rfl⟩

theorem trod_ok {T : List TypeId} (hT : closedT P T = true) (him : ∀ b o v, w.cell? ⟨b, o, none⟩ = some v → ρ.im b o = some v) : ∀ (fuel : Nat) (t : TypeId) (cs : List Value) (d : DataW H) (ps : List MemPlace), t ∈ T →
    DataW.trod enc P w 0 spare held fuel t cs = some (d, ps) → RelL ρ (cellsD d) cs ∧ OkD P fuel t d := by
  intro fuel
  induction fuel with
  | zero => intro t cs d ps _ h; simp [DataW.trod] at h
  | succ n ih =>
    intro t cs d ps ht h
    have hc := hT
    simp only [closedT, List.all_eq_true] at hc
    have hc := hc t ht
    unfold DataW.trod at h
    unfold OkD
    split at h
    all_goals first
      | (rename_i hu; rw [hu] at hc; cases hc; done)
      | (rename_i hu _; rw [hu] at hc; cases hc; done)
      | (rename_i hu _ _; rw [hu] at hc; cases hc; done)
      | skip
    · rename_i b hu
      injection h with h; injection h with h1 h2; subst h1
      rw [hu]
      exact ⟨RelL_one (by simp [RelV]) rfl, b, rfl⟩
    · rename_i k k' m hu
      split at h
      · rename_i hk
        injection h with h; injection h with h1 h2; subst h1
        rw [hu]
        obtain ⟨rfl, hw⟩ := hk
        exact ⟨RelL_one (by simp [RelV]) rfl, m, rfl, hw⟩
      · cases h
    · rename_i b hu
      split at h
      · rename_i hk
        injection h with h; injection h with h1 h2; subst h1
        rw [hu]
        exact ⟨RelL_one (by simp [RelV]) rfl, _, rfl, by simpa using hk⟩
      · cases h
    · rename_i e hu
      injection h with h; injection h with h1 h2; subst h1
      rw [hu]
      refine ⟨RelL_one ?_ rfl, .inl rfl⟩
      simp only [RelV]
      exact ⟨none, 0, 0, rfl, rfl, Nat.le_refl _, .inl trivial⟩
    · rename_i e A len cap hu
      simp only at h
      split at h
      rotate_left
      · cases h
      rename_i hlen
      simp only [Option.bind_eq_some_iff, Option.map_eq_some_iff] at h
      obtain ⟨elems, hel, rest, hrest, h⟩ := h
      injection h with h1 h2
      subst h1
      rw [hu] at hc ⊢
      simp only at hc ⊢
      simp only [Bool.and_eq_true, decide_eq_true_eq] at hc
      have he : e ∈ T := by simpa using hc.1
      obtain ⟨bA, oA, sA⟩ := A
      rw [List.range_eq_range'] at hel
      cases elems with
      | nil =>
        have hl : len = 0 := by
          cases len with
          | zero => rfl
          | succ m =>
            rw [List.range'_succ, List.mapM_cons] at hel
            simp only [bind, Option.bind_eq_some_iff, pure, Option.some.injEq] at hel
            obtain ⟨_, _, _, _, hx⟩ := hel
            cases hx
        subst hl
        refine ⟨?_, .inr ⟨[], _, rfl, by simp, by simp⟩⟩
        refine RelL_one ?_ rfl
        simp only [RelV]
        exact ⟨_, 0, cap, rfl, rfl, Nat.zero_le _, .inl rfl⟩
      | cons e0 er =>
        have hl : 0 < len := by
          cases len with
          | zero => simp at hel
          | succ m => omega
        have hs : sA = none := by
          obtain ⟨m, rfl⟩ : ∃ m, len = m + 1 := ⟨len - 1, by omega⟩
          rw [List.range'_succ, List.mapM_cons] at hel
          simp only [bind, Option.bind_eq_some_iff, pure, Option.some.injEq] at hel
          obtain ⟨_, ⟨c0, hc0, _⟩, _⟩ := hel
          obtain ⟨_, hlc, hcell⟩ := World.cells?_some hc0
          have h0 := hcell 0 hc.2
          have hsome : c0[0]? = some c0[0] := List.getElem?_eq_getElem (by rw [hlc]; exact hc.2)
          rw [hsome] at h0
          simp only [Addr.add, Nat.zero_mul, if_true, World.cell?] at h0
          split at h0
          · split at h0
            · cases h0
            · rename_i hq; cases sA with
              | none => rfl
              | some _ => exact absurd rfl hq
          · cases h0
        subst hs
        obtain ⟨h3, h4, h5⟩ := rows_of_reading (ρ := ρ) (c := P.cellsOf e) (b := bA) (o := oA) (f1 := fun x => OkD P n e x) hel (fun i hi x ps hx => by
          simp only [bind, Option.bind_eq_some_iff] at hx
          obtain ⟨ci, hci, hx⟩ := hx
          obtain ⟨_, hlc, hcell⟩ := World.cells?_some hci
          obtain ⟨q1, q2⟩ := ih e ci x ps he hx
          refine ⟨by rw [q1.length, hlc], RelI_of q1 (fun j u hju => ?_), q2⟩
          have hj : j < P.cellsOf e := by rw [← hlc]; exact (List.getElem?_eq_some_iff.1 hju).1
          have := hcell j hj
          rw [hju] at this
          refine him _ _ _ ?_
          have e1 : (({ block := bA, off := oA, spot := none } : Addr).add (i * P.cellsOf e)).add j = ⟨bA, oA + i * P.cellsOf e + j, none⟩ := by
            simp only [Addr.add]
            split <;> split <;> simp_all
          rwa [e1] at this)
        refine ⟨RelL_one ?_ rfl, .inr ⟨_, _, rfl, ?_, h5⟩⟩
        · simp only [RelV]
          refine ⟨_, len, cap, rfl, ?_, hlen.2.1, .inr ⟨bA, oA, P.cellsOf e, rfl, ?_⟩⟩
          · simp only [cellsDs_map, List.length_map]; exact h4.symm
          · simpa [cellsDs_map] using h3
        · simp only [List.length_map]; rw [h4]; exact Nat.le_trans hlen.2.1 hlen.2.2
    · rename_i fs hu
      split at h
      rotate_left
      · cases h
      rename_i hlen
      simp only [Option.map_eq_some_iff] at h
      obtain ⟨xs, hxs, h⟩ := h
      injection h with h1 h2; subst h1
      rw [hu] at hc ⊢
      simp only [Bool.and_eq_true, List.all_eq_true, beq_iff_eq] at hc
      obtain ⟨hcT, hcc⟩ := hc
      obtain ⟨h3, h4, h5⟩ := RelL_flatten_fields (ρ := ρ) (f1 := fun f x => OkD P n f.type x) hcc hxs (by simp) (fun f hf x ps hx => ih f.type _ x ps (by simpa using hcT f hf) hx) hlen
      refine ⟨?_, xs.map (·.1), rfl, by simpa using h4, h5⟩
      simpa [cellsD, cellsDs_map] using h3
    · rename_i m e hu
      split at h
      rotate_left
      · cases h
      rename_i hlen
      simp only [Option.map_eq_some_iff] at h
      obtain ⟨xs, hxs, h⟩ := h
      injection h with h1 h2; subst h1
      rw [hu] at hc ⊢
      simp only [Bool.and_eq_true, beq_iff_eq] at hc
      rw [List.range_eq_range'] at hxs
      obtain ⟨h3, h4, h5⟩ := RelL_flatten_items (ρ := ρ) (c := P.cellsOf e) (f1 := fun x => OkD P n e x) hxs (by rw [hlen, hc.2]; simp) (fun i hi x ps hx => ih e _ x ps (by simpa using hc.1) hx)
      refine ⟨?_, xs.map (·.1), rfl, by simpa using h4, h5⟩
      simpa [cellsD, cellsDs_map] using h3
    · cases h
end
end Go.Ab
