import Derived.Test.YtpplmjjmdnfpgaaGreatXAbH
namespace Go.Ab

section
variable {P : Program} {ρ : Ro} {s s' : St} {w : World} {v : AV}

/-- What an operation that calls nothing does. -/
def ExecOk (P : Program) (ρ : Ro) (s : St) (w : World) (m : Sem Next) (v : AV) (s' : St) : Prop :=
  ∃ nx val w' ρ', m.run P w = .ok nx w' ∧ (nx = .value val ∨ nx = .skip ∧ val = undef) ∧ Le ρ ρ' ∧ RelV ρ' v val ∧ RelS ρ' s' w' ∧ Keeps ρ s w ρ' s' w'

theorem ExecOk.of {m : Sem Value} (h : OpOk P ρ s w m v s') : ExecOk P ρ s w (do pure (Next.value (← m))) v s' := by
  obtain ⟨val, w', ρ', h1, h2⟩ := h
  exact ⟨.value val, val, w', ρ', by simp [h1], .inl rfl, h2⟩

theorem compO_ok {fr : Fr} {a : Act} {x : Option Operand} {y : Option X} {d k : Nat} (hF : RelF ρ fr a.tmps) (h : compO x = some y) (hb : bound? (ev fr) d y = some k) : BoundOk d k (x.map a.eval) := by
  cases x with
  | none =>
    simp [compO] at h; subst h
    simp [bound?] at hb; subst hb
    simp [BoundOk]
  | some o =>
    simp only [compO, Option.map_eq_some_iff] at h
    obtain ⟨z, hz, rfl⟩ := h
    simp only [bound?] at hb
    have hv := compX_ok hF hz
    split at hb
    · rename_i q n he
      split at hb
      · rename_i h0
        injection hb with hb; subst hb
        rw [he] at hv
        simp only [RelV] at hv
        exact ⟨q, by rw [Int.toNat_of_nonneg h0]; exact hv⟩
      · cases hb
    · cases hb

theorem rowsOf_ok {y : AV} {vy : Value} {news : List (List AV)} {sz : Nat} (hS : RelS ρ s w) (hy : RelV ρ y vy) (h : rowsOf s y = some news) (hsz : ∀ r ∈ news, r.length = sz) :
    ∃ A c us, vy = .slice A news.length c ∧ RelL ρ news.flatten us ∧ (news = [] ∨ ∃ a : Addr, A = some a ∧ ∀ (j : Nat) u, us[j]? = some u → w.cell? (a.add j) = some u) := by
  unfold rowsOf at h
  split at h
  · injection h with h; subst h
    obtain ⟨A, cap, rfl, h3, h4⟩ := sl_parts hsz hy
    rcases h4 with rfl | ⟨b, o, rfl, h6⟩
    · exact ⟨A, cap, [], rfl, by simp [RelL], .inl rfl⟩
    · have hI : ∀ (rows : List (List AV)) (o : Nat), (∀ r ∈ rows, r.length = sz) → RelR ρ sz rows b o → RelI ρ rows.flatten b o := by
        intro rows
        induction rows with
        | nil => intro o _ _; simp [RelI]
        | cons r rows ih =>
          intro o hl hr
          simp only [RelR] at hr
          have h8 := ih (o + sz) (fun r hr => hl r (by simp [hr])) hr.2.2
          rw [List.flatten_cons, RelI_iff]
          intro i x hx
          by_cases hi : i < r.length
          · rw [List.getElem?_append_left hi] at hx
            exact RelI_iff.1 hr.2.1 i x hx
          · rw [List.getElem?_append_right (by omega)] at hx
            have := RelI_iff.1 h8 _ x hx
            rwa [show o + sz + (i - r.length) = o + i by have := hl r (by simp); omega] at this
      obtain ⟨us, h7, h8⟩ := RelI_list (hI _ o hsz h6)
      exact ⟨some ⟨b, o, none⟩, cap, us, rfl, h7, .inr ⟨_, rfl, fun j u hu => by rw [add_none]; exact hS.im _ _ _ (h8 j u hu)⟩⟩
  · injection h with h; subst h
    simp only [RelV] at hy
    exact ⟨none, 0, [], by simpa using hy, by simp [RelL], .inl rfl⟩
  · split at h
    · rename_i hr
      split at h
      · rename_i hn
        injection h with h; subst h
        subst hn
        obtain ⟨e, vals, k1, k2, k3, k4, k5, k6, rfl, k7, k8, _⟩ := own_now hS hr hy
        exact ⟨_, _, vals, rfl, k8, .inr ⟨_, rfl, fun j u hu => by rw [add_none]; exact row_cells k7 j u hu⟩⟩
      · cases h
    · cases h
  · cases h

theorem strOf_list : ∀ {rows : List (List AV)} {b : List UInt8}, rows.mapM (fun | [AV.int .u8 n] => some (UInt8.ofNat n.toNat) | _ => none) = some b → ∃ ns : List Int, rows = ns.map (fun n => [AV.int .u8 n]) ∧ b = ns.map fun n => UInt8.ofNat n.toNat
  | [], b, h => by simp at h; exact ⟨[], rfl, h.symm ▸ rfl⟩
  | r :: rows, b, h => by
    rw [List.mapM_cons] at h
    simp only [bind, Option.bind_eq_some_iff, pure, Option.some.injEq] at h
    obtain ⟨x, h1, b', h2, rfl⟩ := h
    obtain ⟨ns, rfl, rfl⟩ := strOf_list h2
    split at h1
    · rename_i n
      injection h1 with h1; subst h1
      exact ⟨n :: ns, rfl, rfl⟩
    · cases h1

theorem foldl_push (ns : List Int) (b : ByteArray) : (ns.foldl (fun r n => r.push (UInt8.ofNat n.toNat)) b).data.toList = b.data.toList ++ ns.map fun n => UInt8.ofNat n.toNat := by
  induction ns generalizing b with
  | nil => simp
  | cons n ns ih => rw [List.foldl_cons, ih]; simp

theorem ok_strOf {src dst e : TypeId} {x : AV} {vx : Value} {rows : List (List AV)} {b : List UInt8} (hS : RelS ρ s w) (hs : P.underlying src = some (.slice e)) (hd : P.underlying dst = some .string) (he : P.underlying e = some (.int .u8)) (hx : RelV ρ x vx) (hr : rowsOf s x = some rows)
    (hb : rows.mapM (fun | [AV.int .u8 n] => some (UInt8.ofNat n.toNat) | _ => none) = some b) : OpOk P ρ s w (convert src dst vx) (.str b) s := by
  obtain ⟨ns, rfl, rfl⟩ := strOf_list hb
  obtain ⟨A, c, us, rfl, h1, h2⟩ := rowsOf_ok (sz := 1) hS hx hr (by simp)
  rw [flat_sing] at h1
  have hus : us = ns.map (Value.int .u8) := by
    apply List.ext_getElem?
    intro i
    by_cases hi : i < ns.length
    · have hx : (ns.map fun n => AV.int .u8 n)[i]? = some (.int .u8 ns[i]) := by simp [hi]
      obtain ⟨u, hu, _, hv⟩ := h1.get hx
      simp only [RelV] at hv
      rw [hu, hv]; simp [hi]
    · have := h1.length
      simp at this
      rw [List.getElem?_eq_none (by omega), List.getElem?_eq_none (by simp; omega)]
  subst hus
  have hc : (convert src dst (.slice A (ns.map fun n => [AV.int .u8 n]).length c)).run P w = (Conv.bytesToString (.slice A (ns.map fun n => [AV.int .u8 n]).length c)).run P w := by
    simp [convert, run_underlying hs, run_underlying hd, run_underlying he]
  have hstr : (⟨(ns.map fun n => UInt8.ofNat n.toNat).toArray⟩ : ByteArray) = ns.foldl (fun r n => r.push (UInt8.ofNat n.toNat)) ByteArray.empty := by
    apply ByteArray.ext
    apply Array.ext'
    rw [foldl_push]
    rfl
  cases A with
  | none =>
    have hn : ns = [] := by
      rcases h2 with h2 | ⟨a, h2, _⟩
      · simpa using h2
      · cases h2
    subst hn
    exact OpOk.same hS (val := .string ByteArray.empty) (by rw [hc]; simp [Conv.bytesToString]) (by simp [RelV]; rfl)
  | some a =>
    have hload : (loadCells a (ns.map fun n => [AV.int .u8 n]).length).run P w = .ok (ns.map (Value.int .u8)).toArray w := by
      rcases h2 with h2 | ⟨a', h2, h3⟩
      · have : ns = [] := by simpa using h2
        subst this
        simp [loadCells, loadCellsFrom]
      · injection h2 with h2; subst h2
        have := run_loadCells_list (P := P) w a (ns.map (Value.int .u8)) h3
        simpa using this
    have := run_bytesToString (P := P) w a (ns.map fun n => [AV.int .u8 n]).length c ns hload
    exact OpOk.same hS (val := .string (ns.foldl (fun r n => r.push (UInt8.ofNat n.toNat)) ByteArray.empty)) (by rw [hc, this]) (by simp only [RelV]; rw [hstr])
end
end Go.Ab
