import Derived.Test.YtpplmjjmdnfpgaaGreatXAbA
import Derived.RowKit
namespace Go.Ab

/-! ### The relation between abstract and concrete values -/
structure LE where
  g : Nat
  c : Nat
  n : Nat
  sz : Nat
  isBox : Bool
  lp : Option Loop := none

structure Ro where
  im : Nat → Nat → Option Value
  loc : List LE

mutual
def RelV (ρ : Ro) : AV → Value → Prop
  | .any, _ => True
  | .bool b, v => v = .bool b
  | .int k n, v => v = .int k n
  | .str s, v => v = .string ⟨s.toArray⟩
  | .nilp, v => v = .pointer none
  | .ptr r off, v => ∃ e, ρ.loc[r]? = some e ∧ e.isBox = true ∧ v = .pointer (some ⟨e.g, off, none⟩)
  | .eptr r n i off, v => ∃ e o, ρ.loc[r]? = some e ∧ e.isBox = false ∧ n ≤ e.n ∧ v = .pointer (some o) ∧ (n = e.n → o = ⟨e.g, i * e.sz + off, none⟩)
  | .row cells, v => ∃ b o, v = .pointer (some ⟨b, o, none⟩) ∧ RelI ρ cells b o
  | .sl rows, v => ∃ A n cap, v = .slice A n cap ∧ n = rows.length ∧ n ≤ cap ∧ (rows = [] ∨ ∃ b o sz, A = some ⟨b, o, none⟩ ∧ RelR ρ sz rows b o)
  | .nils, v => v = .slice none 0 0
  | .own r n, v => ∃ e A c, ρ.loc[r]? = some e ∧ e.isBox = false ∧ n ≤ e.n ∧ v = .slice A n c ∧ (n = e.n → A = some ⟨e.g, 0, none⟩ ∧ c = e.c)
  | .agg cells, v => ∃ cs : Array Value, v = .agg cs ∧ RelL ρ cells cs.toList
  | .tup vs, v => ∃ cs : Array Value, v = .tuple cs ∧ RelT ρ vs cs.toList
  | .fn f a b, v => ∃ (as bs : Array Value), v = .func (.func f) as bs ∧ RelT ρ a as.toList ∧ RelT ρ b bs.toList
  | .yld r, v => ∃ e, ρ.loc[r]? = some e ∧ e.isBox = true ∧ e.lp.isSome = true ∧ v = .func (.yield e.g) #[] #[]
  | .nilf, v => v = .nilFunc
  | .ifc t x, v => ∃ u, v = .iface t u ∧ RelV ρ x u
  | .nili, v => v = .nilIface
/-- Cells that nobody writes any more. -/
def RelI (ρ : Ro) : List AV → Nat → Nat → Prop
  | [], _, _ => True
  | x :: xs, b, o => (∃ u, ρ.im b o = some u ∧ u.oneCell' = true ∧ RelV ρ x u) ∧ RelI ρ xs b (o + 1)
def RelR (ρ : Ro) (sz : Nat) : List (List AV) → Nat → Nat → Prop
  | [], _, _ => True
  | r :: rs, b, o => r.length = sz ∧ RelI ρ r b o ∧ RelR ρ sz rs b (o + sz)
def RelL (ρ : Ro) : List AV → List Value → Prop
  | [], us => us = []
  | x :: xs, us => ∃ u ur, us = u :: ur ∧ u.oneCell' = true ∧ RelV ρ x u ∧ RelL ρ xs ur
def RelT (ρ : Ro) : List AV → List Value → Prop
  | [], us => us = []
  | x :: xs, us => ∃ u ur, us = u :: ur ∧ RelV ρ x u ∧ RelT ρ xs ur
end

/-- How the tracked places go on. -/
structure Le (ρ ρ' : Ro) : Prop where
  im : ∀ b o v, ρ.im b o = some v → ρ'.im b o = some v
  loc : ∀ (r : Nat) (e : LE), ρ.loc[r]? = some e → ∃ e' : LE, ρ'.loc[r]? = some e' ∧ (e' = e ∨ (e.isBox = false ∧ e'.isBox = false ∧ e.n < e'.n))

theorem Le.refl (ρ : Ro) : Le ρ ρ := ⟨fun _ _ _ h => h, fun _ e h => ⟨e, h, .inl rfl⟩⟩
theorem Le.trans {a b c : Ro} (h : Le a b) (k : Le b c) : Le a c := by
  refine ⟨fun x o v hv => k.im _ _ _ (h.im _ _ _ hv), fun r e he => ?_⟩
  obtain ⟨e1, h1, h2⟩ := h.loc r e he
  obtain ⟨e2, h3, h4⟩ := k.loc r e1 h1
  refine ⟨e2, h3, ?_⟩
  rcases h2 with rfl | ⟨p, q, s⟩
  · exact h4
  · rcases h4 with rfl | ⟨p', q', s'⟩
    · exact .inr ⟨p, q, s⟩
    · exact .inr ⟨p, q', Nat.lt_trans s s'⟩

mutual
theorem RelV.mono {ρ ρ' : Ro} (h : Le ρ ρ') : ∀ (x : AV) (v : Value), RelV ρ x v → RelV ρ' x v
  | .any, _, _ => by simp [RelV]
  | .bool b, v, hv => by simpa [RelV] using hv
  | .int k n, v, hv => by simpa [RelV] using hv
  | .str s, v, hv => by simpa [RelV] using hv
  | .nilp, v, hv => by simpa [RelV] using hv
  | .ptr r off, v, hv => by
    simp only [RelV] at hv ⊢
    obtain ⟨e, h1, h2, h3⟩ := hv
    obtain ⟨e', h4, h5⟩ := h.loc r e h1
    rcases h5 with rfl | ⟨p, _⟩
    · exact ⟨_, h4, h2, h3⟩
    · simp [p] at h2
  | .eptr r n i off, v, hv => by
    simp only [RelV] at hv ⊢
    obtain ⟨e, o, h1, h2, hn, hv, h3⟩ := hv
    obtain ⟨e', h4, h5⟩ := h.loc r e h1
    rcases h5 with rfl | ⟨p, q, s⟩
    · exact ⟨_, o, h4, h2, hn, hv, h3⟩
    · exact ⟨e', o, h4, q, by omega, hv, fun he => by omega⟩
  | .row cells, v, hv => by
    simp only [RelV] at hv ⊢
    obtain ⟨b, o, h1, h2⟩ := hv
    exact ⟨b, o, h1, RelI.mono h cells b o h2⟩
  | .sl rows, v, hv => by
    simp only [RelV] at hv ⊢
    obtain ⟨A, n, cap, h1, h2, h3, h4⟩ := hv
    refine ⟨A, n, cap, h1, h2, h3, ?_⟩
    rcases h4 with h4 | ⟨b, o, sz, h5, h6⟩
    · exact .inl h4
    · exact .inr ⟨b, o, sz, h5, RelR.mono h sz rows b o h6⟩
  | .nils, v, hv => by simpa [RelV] using hv
  | .own r n, v, hv => by
    simp only [RelV] at hv ⊢
    obtain ⟨e, A, c, h1, h2, hn, hv, h3⟩ := hv
    obtain ⟨e', h4, h5⟩ := h.loc r e h1
    rcases h5 with rfl | ⟨p, q, s⟩
    · exact ⟨_, A, c, h4, h2, hn, hv, h3⟩
    · exact ⟨e', A, c, h4, q, by omega, hv, fun he => by omega⟩
  | .agg cells, v, hv => by
    simp only [RelV] at hv ⊢
    obtain ⟨cs, h1, h2⟩ := hv
    exact ⟨cs, h1, RelL.mono h cells cs.toList h2⟩
  | .tup vs, v, hv => by
    simp only [RelV] at hv ⊢
    obtain ⟨cs, h1, h2⟩ := hv
    exact ⟨cs, h1, RelT.mono h vs cs.toList h2⟩
  | .fn f a b, v, hv => by
    simp only [RelV] at hv ⊢
    obtain ⟨as, bs, h1, h2, h3⟩ := hv
    exact ⟨as, bs, h1, RelT.mono h a as.toList h2, RelT.mono h b bs.toList h3⟩
  | .yld r, v, hv => by
    simp only [RelV] at hv ⊢
    obtain ⟨e, h1, h2, hl, h3⟩ := hv
    obtain ⟨e', h4, h5⟩ := h.loc r e h1
    rcases h5 with rfl | ⟨p, _⟩
    · exact ⟨_, h4, h2, hl, h3⟩
    · simp [p] at h2
  | .nilf, v, hv => by simpa [RelV] using hv
  | .ifc t x, v, hv => by
    simp only [RelV] at hv ⊢
    obtain ⟨u, h1, h2⟩ := hv
    exact ⟨u, h1, RelV.mono h x u h2⟩
  | .nili, v, hv => by simpa [RelV] using hv
theorem RelI.mono {ρ ρ' : Ro} (h : Le ρ ρ') : ∀ (xs : List AV) (b o : Nat), RelI ρ xs b o → RelI ρ' xs b o
  | [], _, _, _ => by simp [RelI]
  | x :: xs, b, o, hv => by
    simp only [RelI] at hv ⊢
    obtain ⟨⟨u, h1, h2, h3⟩, h4⟩ := hv
    exact ⟨⟨u, h.im _ _ _ h1, h2, RelV.mono h x u h3⟩, RelI.mono h xs b (o + 1) h4⟩
theorem RelR.mono {ρ ρ' : Ro} (h : Le ρ ρ') : ∀ (sz : Nat) (xs : List (List AV)) (b o : Nat), RelR ρ sz xs b o → RelR ρ' sz xs b o
  | _, [], _, _, _ => by simp [RelR]
  | sz, x :: xs, b, o, hv => by
    simp only [RelR] at hv ⊢
    exact ⟨hv.1, RelI.mono h x b o hv.2.1, RelR.mono h sz xs b (o + sz) hv.2.2⟩
theorem RelL.mono {ρ ρ' : Ro} (h : Le ρ ρ') : ∀ (xs : List AV) (us : List Value), RelL ρ xs us → RelL ρ' xs us
  | [], _, hv => by simpa [RelL] using hv
  | x :: xs, us, hv => by
    simp only [RelL] at hv ⊢
    obtain ⟨u, ur, h1, h2, h3, h4⟩ := hv
    exact ⟨u, ur, h1, h2, RelV.mono h x u h3, RelL.mono h xs ur h4⟩
theorem RelT.mono {ρ ρ' : Ro} (h : Le ρ ρ') : ∀ (xs : List AV) (us : List Value), RelT ρ xs us → RelT ρ' xs us
  | [], _, hv => by simpa [RelT] using hv
  | x :: xs, us, hv => by
    simp only [RelT] at hv ⊢
    obtain ⟨u, ur, h1, h3, h4⟩ := hv
    exact ⟨u, ur, h1, RelV.mono h x u h3, RelT.mono h xs ur h4⟩
end

/-! ### lists -/
theorem RelT_iff {ρ : Ro} : ∀ {xs : List AV} {us : List Value}, RelT ρ xs us ↔ xs.length = us.length ∧ ∀ (i : Nat) x u, xs[i]? = some x → us[i]? = some u → RelV ρ x u
  | [], us => by
    simp only [RelT]
    constructor
    · rintro rfl; simp
    · rintro ⟨h, _⟩; exact List.eq_nil_of_length_eq_zero (by simpa using h.symm)
  | x :: xs, us => by
    simp only [RelT]
    constructor
    · rintro ⟨u, ur, rfl, h1, h2⟩
      obtain ⟨h3, h4⟩ := RelT_iff.1 h2
      refine ⟨by simp [h3], fun i y v hy hv => ?_⟩
      cases i with
      | zero => simp at hy hv; subst hy hv; exact h1
      | succ i => simp at hy hv; exact h4 i y v hy hv
    · rintro ⟨h1, h2⟩
      cases us with
      | nil => simp at h1
      | cons u ur => exact ⟨u, ur, rfl, h2 0 x u rfl rfl, RelT_iff.2 ⟨by simpa using h1, fun i y v hy hv => h2 (i + 1) y v (by simpa using hy) (by simpa using hv)⟩⟩
theorem RelL_iff {ρ : Ro} : ∀ {xs : List AV} {us : List Value}, RelL ρ xs us ↔ xs.length = us.length ∧ ∀ (i : Nat) x u, xs[i]? = some x → us[i]? = some u → u.oneCell' = true ∧ RelV ρ x u
  | [], us => by
    simp only [RelL]
    constructor
    · rintro rfl; simp
    · rintro ⟨h, _⟩; exact List.eq_nil_of_length_eq_zero (by simpa using h.symm)
  | x :: xs, us => by
    simp only [RelL]
    constructor
    · rintro ⟨u, ur, rfl, h0, h1, h2⟩
      obtain ⟨h3, h4⟩ := RelL_iff.1 h2
      refine ⟨by simp [h3], fun i y v hy hv => ?_⟩
      cases i with
      | zero => simp at hy hv; subst hy hv; exact ⟨h0, h1⟩
      | succ i => simp at hy hv; exact h4 i y v hy hv
    · rintro ⟨h1, h2⟩
      cases us with
      | nil => simp at h1
      | cons u ur => exact ⟨u, ur, rfl, (h2 0 x u rfl rfl).1, (h2 0 x u rfl rfl).2, RelL_iff.2 ⟨by simpa using h1, fun i y v hy hv => h2 (i + 1) y v (by simpa using hy) (by simpa using hv)⟩⟩
theorem RelI_iff {ρ : Ro} : ∀ {xs : List AV} {b o : Nat}, RelI ρ xs b o ↔ ∀ (i : Nat) x, xs[i]? = some x → ∃ u, ρ.im b (o + i) = some u ∧ u.oneCell' = true ∧ RelV ρ x u
  | [], b, o => by simp [RelI]
  | x :: xs, b, o => by
    simp only [RelI]
    constructor
    · rintro ⟨h1, h2⟩ i y hy
      cases i with
      | zero => simp at hy; subst hy; exact h1
      | succ i =>
        simp at hy
        have := RelI_iff.1 h2 i y hy
        rwa [Nat.add_assoc, Nat.add_comm 1 i] at this
    · intro h
      refine ⟨h 0 x rfl, RelI_iff.2 fun i y hy => ?_⟩
      have := h (i + 1) y (by simpa using hy)
      rwa [Nat.add_assoc, Nat.add_comm 1 i]
theorem RelR_iff {ρ : Ro} {sz : Nat} : ∀ {xs : List (List AV)} {b o : Nat}, RelR ρ sz xs b o ↔ ∀ (i : Nat) r, xs[i]? = some r → r.length = sz ∧ RelI ρ r b (o + i * sz)
  | [], b, o => by simp [RelR]
  | x :: xs, b, o => by
    simp only [RelR]
    constructor
    · rintro ⟨h0, h1, h2⟩ i y hy
      cases i with
      | zero => simp at hy; subst hy; simpa using ⟨h0, h1⟩
      | succ i =>
        simp at hy
        have := RelR_iff.1 h2 i y hy
        rwa [Nat.add_assoc, show sz + i * sz = (i + 1) * sz by rw [Nat.add_mul]; omega] at this
    · intro h
      have h0 := h 0 x rfl
      refine ⟨h0.1, by simpa using h0.2, RelR_iff.2 fun i y hy => ?_⟩
      have := h (i + 1) y (by simpa using hy)
      rwa [Nat.add_assoc, show sz + i * sz = (i + 1) * sz by rw [Nat.add_mul]; omega]

theorem RelL.length {ρ : Ro} {xs : List AV} {us : List Value} (h : RelL ρ xs us) : xs.length = us.length := (RelL_iff.1 h).1
theorem RelT.length {ρ : Ro} {xs : List AV} {us : List Value} (h : RelT ρ xs us) : xs.length = us.length := (RelT_iff.1 h).1
theorem RelL.get {ρ : Ro} {xs : List AV} {us : List Value} (h : RelL ρ xs us) {i : Nat} {x : AV} (hx : xs[i]? = some x) : ∃ u, us[i]? = some u ∧ u.oneCell' = true ∧ RelV ρ x u := by
  obtain ⟨h1, h2⟩ := RelL_iff.1 h
  have hi : i < us.length := by rw [← h1]; exact (List.getElem?_eq_some_iff.1 hx).1
  exact ⟨us[i], List.getElem?_eq_getElem hi, h2 i x us[i] hx (List.getElem?_eq_getElem hi)⟩
theorem RelT.get {ρ : Ro} {xs : List AV} {us : List Value} (h : RelT ρ xs us) {i : Nat} {x : AV} (hx : xs[i]? = some x) : ∃ u, us[i]? = some u ∧ RelV ρ x u := by
  obtain ⟨h1, h2⟩ := RelT_iff.1 h
  have hi : i < us.length := by rw [← h1]; exact (List.getElem?_eq_some_iff.1 hx).1
  exact ⟨us[i], List.getElem?_eq_getElem hi, h2 i x us[i] hx (List.getElem?_eq_getElem hi)⟩
theorem RelL.toT {ρ : Ro} {xs : List AV} {us : List Value} (h : RelL ρ xs us) : RelT ρ xs us := by
  rw [RelT_iff]; obtain ⟨h1, h2⟩ := RelL_iff.1 h
  exact ⟨h1, fun i x u hx hu => (h2 i x u hx hu).2⟩
theorem RelL.append {ρ : Ro} : ∀ {xs ys : List AV} {us vs : List Value}, RelL ρ xs us → RelL ρ ys vs → RelL ρ (xs ++ ys) (us ++ vs)
  | [], ys, us, vs, h, k => by simp only [RelL] at h; subst h; exact k
  | x :: xs, ys, us, vs, h, k => by
    simp only [RelL] at h
    obtain ⟨u, ur, rfl, h1, h2, h3⟩ := h
    simp only [List.cons_append, RelL]
    exact ⟨u, ur ++ vs, rfl, h1, h2, RelL.append h3 k⟩
theorem RelT.append {ρ : Ro} : ∀ {xs ys : List AV} {us vs : List Value}, RelT ρ xs us → RelT ρ ys vs → RelT ρ (xs ++ ys) (us ++ vs)
  | [], ys, us, vs, h, k => by simp only [RelT] at h; subst h; exact k
  | x :: xs, ys, us, vs, h, k => by
    simp only [RelT] at h
    obtain ⟨u, ur, rfl, h2, h3⟩ := h
    simp only [List.cons_append, RelT]
    exact ⟨u, ur ++ vs, rfl, h2, RelT.append h3 k⟩
theorem RelL.take {ρ : Ro} {xs : List AV} {us : List Value} (h : RelL ρ xs us) (n : Nat) : RelL ρ (xs.take n) (us.take n) := by
  rw [RelL_iff] at *
  refine ⟨by simp [h.1], fun i x u hx hu => ?_⟩
  rw [List.getElem?_take] at hx hu
  split at hx
  · rename_i hi; rw [if_pos hi] at hu; exact h.2 i x u hx hu
  · cases hx
theorem RelL.drop {ρ : Ro} {xs : List AV} {us : List Value} (h : RelL ρ xs us) (n : Nat) : RelL ρ (xs.drop n) (us.drop n) := by
  rw [RelL_iff] at *
  refine ⟨by simp [h.1], fun i x u hx hu => ?_⟩
  rw [List.getElem?_drop] at hx hu
  exact h.2 _ x u hx hu
theorem RelI.drop {ρ : Ro} {xs : List AV} {b o : Nat} (h : RelI ρ xs b o) (n : Nat) : RelI ρ (xs.drop n) b (o + n) := by
  rw [RelI_iff] at *
  intro i x hx
  rw [List.getElem?_drop] at hx
  have := h _ x hx
  rwa [Nat.add_assoc]

/-! ### The state -/
def Liv (ρ : Ro) (s : St) (k : Nat) : Prop := ∃ (r : Nat) (b : ABlk) (e : LE), s[r]? = some b ∧ b ≠ .gone ∧ ρ.loc[r]? = some e ∧ e.g = k

structure RelF (ρ : Ro) (fr : Fr) (tmps : Array Value) : Prop where
  len : fr.length = tmps.size
  at_ : ∀ (t : Nat), RelV ρ (fr.getD t .any) (tmps.getD t undef)

def loopSt : Nat → LoopState
  | 0 => .ready
  | 1 => .busy
  | _ => .done
def loopPend : Option (Option Nat) → Option Code
  | none => none
  | some none => some .ret
  | some (some id) => some (.exit id)

def RelB (ρ : Ro) (w : World) : ABlk → LE → Prop
  | .box cells, e => e.isBox = true ∧ ∃ (T : TypeId) (cs : Array Value), w.heap[e.g]? = some (.cells cs T (0, 0)) ∧ RelL ρ cells cs.toList
  | .row ty sz _ rows, e => e.isBox = false ∧ e.n = rows.length ∧ e.sz = sz ∧ 0 < sz ∧ (∀ r ∈ rows, r.length = sz) ∧ ∃ vals, w.ownsRow 0 ty sz (.slice (some ⟨e.g, 0, none⟩) rows.length e.c) rows.length vals ∧ RelL ρ rows.flatten vals
  | .loop st pend fr ps, e => e.isBox = true ∧ ∃ L : Loop, e.lp = some L ∧ w.heap[e.g]? = some (.loop { L with state := loopSt st, pending := loopPend pend }) ∧ RelF ρ fr L.tmps ∧ L.params.toList = ps
  | .gone, _ => True

structure RelS (ρ : Ro) (s : St) (w : World) : Prop where
  len : s.length = ρ.loc.length
  blk : ∀ (r : Nat) (b : ABlk) (e : LE), s[r]? = some b → ρ.loc[r]? = some e → RelB ρ w b e
  apart : ∀ (r r' : Nat) (b b' : ABlk) (e e' : LE), s[r]? = some b → s[r']? = some b' → ρ.loc[r]? = some e → ρ.loc[r']? = some e' → b ≠ .gone → b' ≠ .gone → e.g = e'.g → r = r'
  sep : ∀ k, Liv ρ s k → ∀ o, ρ.im k o = none
  im : ∀ b o v, ρ.im b o = some v → w.cell? ⟨b, o, none⟩ = some v

/-- What a stretch of running leaves alone. -/
structure Keeps (ρ : Ro) (s : St) (w : World) (ρ' : Ro) (s' : St) (w' : World) : Prop where
  os : w'.os = w.os
  tape : w'.tape = w.tape
  output : w'.output = w.output
  size : w.heap.size ≤ w'.heap.size
  block : ∀ k, k < w.heap.size → ¬ Liv ρ s k → w'.heap[k]? = w.heap[k]?
  live : ∀ k, Liv ρ' s' k → Liv ρ s k ∨ w.heap.size ≤ k
  im : ∀ b o v, ρ'.im b o = some v → ρ.im b o = some v ∨ w.heap.size ≤ b ∨ Liv ρ s b

theorem Keeps.refl (ρ : Ro) (s : St) (w : World) : Keeps ρ s w ρ s w := ⟨rfl, rfl, rfl, Nat.le_refl _, fun _ _ _ => rfl, fun _ h => .inl h, fun _ _ _ h => .inl h⟩
theorem Keeps.trans {ρ ρ' ρ'' : Ro} {s s' s'' : St} {w w' w'' : World} (h : Keeps ρ s w ρ' s' w') (k : Keeps ρ' s' w' ρ'' s'' w'') : Keeps ρ s w ρ'' s'' w'' := by
  refine ⟨k.os.trans h.os, k.tape.trans h.tape, k.output.trans h.output, Nat.le_trans h.size k.size, fun i hi hn => ?_, fun i hi => ?_, fun b o v hv => ?_⟩
  · refine (k.block i (Nat.lt_of_lt_of_le hi h.size) (fun hl => ?_)).trans (h.block i hi hn)
    rcases h.live i hl with h1 | h1
    · exact hn h1
    · omega
  · rcases k.live i hi with h1 | h1
    · exact h.live i h1
    · exact .inr (Nat.le_trans h.size h1)
  · rcases k.im b o v hv with h1 | h1 | h1
    · exact h.im b o v h1
    · exact .inr (.inl (Nat.le_trans h.size h1))
    · rcases h.live b h1 with h2 | h2
      · exact .inr (.inr h2)
      · exact .inr (.inl h2)

theorem RelF.mono {ρ ρ' : Ro} {fr : Fr} {tmps : Array Value} (h : Le ρ ρ') (hf : RelF ρ fr tmps) : RelF ρ' fr tmps := ⟨hf.len, fun t => RelV.mono h _ _ (hf.at_ t)⟩
theorem RelB.mono {ρ ρ' : Ro} {w w' : World} {b : ABlk} {e : LE} (h : Le ρ ρ') (hb : RelB ρ w b e) (hw : b ≠ .gone → w'.heap[e.g]? = w.heap[e.g]?) : RelB ρ' w' b e := by
  cases b with
  | box cells =>
    obtain ⟨h0, T, cs, h1, h2⟩ := hb
    exact ⟨h0, T, cs, by rw [hw (by simp), h1], RelL.mono h _ _ h2⟩
  | row ty sz byt rows =>
    obtain ⟨h0, h1, h2, h3, h4, vals, h5, h6⟩ := hb
    refine ⟨h0, h1, h2, h3, h4, vals, ⟨h5.1, ?_⟩, RelL.mono h _ _ h6⟩
    rcases h5.2 with ⟨h7, _⟩ | ⟨g, cap, cur, h7, h8, h9, h10⟩
    · cases h7
    · refine .inr ⟨g, cap, cur, h7, h8, ?_, h10⟩
      simp only [Value.slice.injEq, Option.some.injEq, Addr.mk.injEq] at h7
      obtain ⟨⟨rfl, _⟩, _⟩ := h7
      rw [hw (by simp), h9]
  | loop st pend fr ps =>
    obtain ⟨h0, L, h1, h2, h3, h4⟩ := hb
    exact ⟨h0, L, h1, by rw [hw (by simp), h2], h3.mono h, h4⟩
  | gone => trivial

theorem RelS.live_lt {ρ : Ro} {s : St} {w : World} (h : RelS ρ s w) {k : Nat} (hk : Liv ρ s k) : k < w.heap.size := by
  obtain ⟨r, b, e, h1, h2, h3, rfl⟩ := hk
  have hb := h.blk r b e h1 h3
  cases b with
  | box cells =>
    obtain ⟨_, T, cs, h4, _⟩ := hb
    exact (Array.getElem?_eq_some_iff.1 h4).1
  | row ty sz byt rows =>
    obtain ⟨_, _, _, _, _, vals, h5, _⟩ := hb
    exact (h5.lt e.g (by simp [Value.ownBlock])).2
  | loop st pend fr ps =>
    obtain ⟨_, L, _, h4, _⟩ := hb
    exact (Array.getElem?_eq_some_iff.1 h4).1
  | gone => exact absurd rfl h2
theorem RelS.im_lt {ρ : Ro} {s : St} {w : World} (h : RelS ρ s w) {b o : Nat} {v : Value} (hv : ρ.im b o = some v) : b < w.heap.size :=
  World.block_lt_of_cell? w ⟨b, o, none⟩ (h.im b o v hv)

/-- A world that has all blocks as they were. -/
theorem RelS.grown {ρ : Ro} {s : St} {w w' : World} (h : RelS ρ s w) (hw : ∀ k, k < w.heap.size → w'.heap[k]? = w.heap[k]?) : RelS ρ s w' := by
  refine ⟨h.len, fun r b e h1 h2 => (h.blk r b e h1 h2).mono (Le.refl ρ) (fun hg => hw _ (h.live_lt ⟨r, b, e, h1, hg, h2, rfl⟩)), h.apart, h.sep, fun b o v hv => ?_⟩
  have := h.im b o v hv
  rw [← this]
  exact World.cell?_of_block (hw b (h.im_lt hv))
theorem Keeps.grown {ρ : Ro} {s : St} {w w' : World} (ho : w'.os = w.os) (ht : w'.tape = w.tape) (hp : w'.output = w.output) (hs : w.heap.size ≤ w'.heap.size) (hw : ∀ k, k < w.heap.size → w'.heap[k]? = w.heap[k]?) : Keeps ρ s w ρ s w' :=
  ⟨ho, ht, hp, hs, fun k hk _ => hw k hk, fun _ h => .inl h, fun _ _ _ h => .inl h⟩

/-! ### new blocks -/
theorem getElem?_snoc {α : Type} (l : List α) (x : α) (i : Nat) (y : α) : (l ++ [x])[i]? = some y ↔ l[i]? = some y ∨ (i = l.length ∧ x = y) := by
  rcases Nat.lt_trichotomy i l.length with h | h | h
  · rw [List.getElem?_append_left h]
    constructor
    · exact .inl
    · rintro (h1 | ⟨h1, _⟩)
      · exact h1
      · omega
  · subst h
    rw [List.getElem?_append_right (Nat.le_refl _)]
    simp
  · rw [List.getElem?_eq_none (by simp; omega), List.getElem?_eq_none (by omega)]
    constructor
    · intro h1; cases h1
    · rintro (h1 | ⟨h1, _⟩)
      · cases h1
      · omega

def Ro.add (ρ : Ro) (e : LE) : Ro := { ρ with loc := ρ.loc ++ [e] }
theorem Le.add (ρ : Ro) (e : LE) : Le ρ (ρ.add e) := ⟨fun _ _ _ h => h, fun r e' he => ⟨e', (getElem?_snoc _ _ _ _).2 (.inl he), .inl rfl⟩⟩

/-- A new block is entered into the state. -/
theorem RelS.add {ρ : Ro} {s : St} {w w' : World} (h : RelS ρ s w) (b : ABlk) (e : LE) (hg : e.g = w.heap.size) (hw : ∀ k, k < w.heap.size → w'.heap[k]? = w.heap[k]?)
    (hb : RelB (ρ.add e) w' b e) : RelS (ρ.add e) (s ++ [b]) w' := by
  have hL : ∀ k, Liv (ρ.add e) (s ++ [b]) k → Liv ρ s k ∨ k = w.heap.size := by
    rintro k ⟨r, b1, e1, h1, h2, h3, rfl⟩
    rcases (getElem?_snoc _ _ _ _).1 h1 with h1 | ⟨h1, rfl⟩
    · rcases (getElem?_snoc _ _ _ _).1 h3 with h3 | ⟨h3, rfl⟩
      · exact .inl ⟨r, b1, e1, h1, h2, h3, rfl⟩
      · have := (List.getElem?_eq_some_iff.1 h1).1; rw [h.len] at this; omega
    · rcases (getElem?_snoc _ _ _ _).1 h3 with h3 | ⟨h3, rfl⟩
      · have := (List.getElem?_eq_some_iff.1 h3).1; rw [← h.len] at this; omega
      · exact .inr hg
  refine ⟨by simp [Ro.add, h.len], fun r b1 e1 h1 h3 => ?_, fun r r' b1 b2 e1 e2 h1 h2 h3 h4 n1 n2 he => ?_, fun k hk o => ?_, fun b1 o v hv => ?_⟩
  · rcases (getElem?_snoc _ _ _ _).1 h1 with h1 | ⟨h1, rfl⟩
    · rcases (getElem?_snoc _ _ _ _).1 h3 with h3 | ⟨h3, rfl⟩
      · exact (h.blk r b1 e1 h1 h3).mono (Le.add ρ e) (fun hg => hw _ (h.live_lt ⟨r, b1, e1, h1, hg, h3, rfl⟩))
      · have := (List.getElem?_eq_some_iff.1 h1).1; rw [h.len] at this; omega
    · rcases (getElem?_snoc _ _ _ _).1 h3 with h3 | ⟨h3, rfl⟩
      · have := (List.getElem?_eq_some_iff.1 h3).1; rw [← h.len] at this; omega
      · exact hb
  · rcases (getElem?_snoc _ _ _ _).1 h1 with h1 | ⟨h1, rfl⟩ <;> rcases (getElem?_snoc _ _ _ _).1 h3 with h3 | ⟨h3, rfl⟩
    · rcases (getElem?_snoc _ _ _ _).1 h2 with h2 | ⟨h2, rfl⟩ <;> rcases (getElem?_snoc _ _ _ _).1 h4 with h4 | ⟨h4, rfl⟩
      · exact h.apart r r' b1 b2 e1 e2 h1 h2 h3 h4 n1 n2 he
      · have := (List.getElem?_eq_some_iff.1 h2).1; rw [h.len] at this; omega
      · have := (List.getElem?_eq_some_iff.1 h4).1; rw [← h.len] at this; omega
      · have := h.live_lt ⟨r, b1, e1, h1, n1, h3, rfl⟩; omega
    · have := (List.getElem?_eq_some_iff.1 h1).1; rw [h.len] at this; omega
    · have := (List.getElem?_eq_some_iff.1 h3).1; rw [← h.len] at this; omega
    · rcases (getElem?_snoc _ _ _ _).1 h2 with h2 | ⟨h2, rfl⟩ <;> rcases (getElem?_snoc _ _ _ _).1 h4 with h4 | ⟨h4, rfl⟩
      · have := h.live_lt ⟨r', b2, e2, h2, n2, h4, rfl⟩; omega
      · have := (List.getElem?_eq_some_iff.1 h2).1; rw [h.len] at this; omega
      · have := (List.getElem?_eq_some_iff.1 h4).1; rw [← h.len] at this; omega
      · omega
  · show ρ.im k o = none
    rcases hL k hk with h1 | rfl
    · exact h.sep k h1 o
    · cases hv : ρ.im w.heap.size o with
      | none => rfl
      | some v => have := h.im_lt hv; omega
  · have hv' : ρ.im b1 o = some v := hv
    rw [← h.im b1 o v hv']
    exact World.cell?_of_block (hw b1 (h.im_lt hv'))
theorem Keeps.add {ρ : Ro} {s : St} {w w' : World} (h : RelS ρ s w) (b : ABlk) (e : LE) (hg : e.g = w.heap.size) (ho : w'.os = w.os) (ht : w'.tape = w.tape) (hp : w'.output = w.output) (hs : w.heap.size ≤ w'.heap.size) (hw : ∀ k, k < w.heap.size → w'.heap[k]? = w.heap[k]?) :
    Keeps ρ s w (ρ.add e) (s ++ [b]) w' := by
  refine ⟨ho, ht, hp, hs, fun k hk _ => hw k hk, ?_, fun _ _ _ h => .inl h⟩
  rintro k ⟨r, b1, e1, h1, h2, h3, rfl⟩
  rcases (getElem?_snoc _ _ _ _).1 h1 with h1 | ⟨h1, rfl⟩
  · rcases (getElem?_snoc _ _ _ _).1 h3 with h3 | ⟨h3, rfl⟩
    · exact .inl ⟨r, b1, e1, h1, h2, h3, rfl⟩
    · have := (List.getElem?_eq_some_iff.1 h1).1; rw [h.len] at this; omega
  · rcases (getElem?_snoc _ _ _ _).1 h3 with h3 | ⟨h3, rfl⟩
    · have := (List.getElem?_eq_some_iff.1 h3).1; rw [← h.len] at this; omega
    · exact .inr (by omega)

/-- New cells that nobody will write. -/
def Ro.fix (ρ : Ro) (g : Nat) (cs : List Value) : Ro := { ρ with im := fun b o => if b = g then cs[o]? else ρ.im b o }
theorem Le.fix {ρ : Ro} {g : Nat} (cs : List Value) (h : ∀ o, ρ.im g o = none) : Le ρ (ρ.fix g cs) := by
  refine ⟨fun b o v hv => ?_, fun r e he => ⟨e, he, .inl rfl⟩⟩
  simp only [Ro.fix]
  split
  · rename_i hb; subst hb; rw [h o] at hv; cases hv
  · exact hv
theorem RelS.fix {ρ : Ro} {s : St} {w w' : World} (h : RelS ρ s w) (g : Nat) (cs : List Value) (hg : w.heap.size ≤ g) (hw : ∀ k, k < w.heap.size → w'.heap[k]? = w.heap[k]?)
    (hc : ∀ (o : Nat) v, cs[o]? = some v → w'.cell? ⟨g, o, none⟩ = some v) : RelS (ρ.fix g cs) s w' := by
  have hn : ∀ o, ρ.im g o = none := fun o => by
    cases hv : ρ.im g o with
    | none => rfl
    | some v => have := h.im_lt hv; omega
  refine ⟨h.len, fun r b e h1 h2 => (h.blk r b e h1 h2).mono (Le.fix cs hn) (fun hg => hw _ (h.live_lt ⟨r, b, e, h1, hg, h2, rfl⟩)), h.apart, fun k hk o => ?_, fun b o v hv => ?_⟩
  · have hk' : Liv ρ s k := hk
    simp only [Ro.fix]
    have := h.live_lt hk'
    rw [if_neg (by omega)]
    exact h.sep k hk' o
  · simp only [Ro.fix] at hv
    split at hv
    · rename_i hb; subst hb; exact hc o v hv
    · rw [← h.im b o v hv]
      exact World.cell?_of_block (hw b (h.im_lt hv))
theorem Keeps.fix {ρ : Ro} {s : St} {w w' : World} (g : Nat) (cs : List Value) (hg : w.heap.size ≤ g) (ho : w'.os = w.os) (ht : w'.tape = w.tape) (hp : w'.output = w.output) (hs : w.heap.size ≤ w'.heap.size) (hw : ∀ k, k < w.heap.size → w'.heap[k]? = w.heap[k]?) : Keeps ρ s w (ρ.fix g cs) s w' := by
  refine ⟨ho, ht, hp, hs, fun k hk _ => hw k hk, fun _ h => .inl h, fun b o v hv => ?_⟩
  simp only [Ro.fix] at hv
  split at hv
  · rename_i hb; subst hb; exact .inr (.inl hg)
  · exact .inl hv

end Go.Ab
