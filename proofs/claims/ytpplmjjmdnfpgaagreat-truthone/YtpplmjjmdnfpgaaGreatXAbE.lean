import Derived.Test.YtpplmjjmdnfpgaaGreatXAbD
import Derived.Great.BuildSlice
namespace Go.Ab

section
variable {P : Program} {ρ : Ro} {s s' : St} {w : World} {v : AV}

theorem foldl_set (off : Nat) : ∀ (vs : List Value) (k : Nat) (cs : Array Value), off + k + vs.length ≤ cs.size →
    ((vs.zipIdx k).foldl (fun cs (x : Value × Nat) => cs.setIfInBounds (off + x.2) x.1) cs).toList = cs.toList.take (off + k) ++ vs ++ cs.toList.drop (off + k + vs.length)
  | [], k, cs, _ => by simp
  | v :: vs, k, cs, h => by
    simp only [List.length_cons] at h
    rw [List.zipIdx_cons, List.foldl_cons, foldl_set off vs (k + 1) _ (by simp; omega)]
    simp only [Array.toList_setIfInBounds, List.length_cons]
    rw [List.take_set, List.drop_set]
    have h1 : off + k < cs.toList.length := by simp; omega
    rw [if_pos (by omega)]
    have e1 : off + (k + 1) = off + k + 1 := by omega
    rw [e1, List.take_succ_eq_append_getElem h1]
    rw [List.set_append_right _ _ (by simp; omega)]
    have e2 : off + k - (List.take (off + k) cs.toList).length = 0 := by simp; omega
    rw [e2]
    simp only [List.set_cons_zero, List.append_assoc, List.cons_append, List.nil_append]
    congr 3
    congr 1
    omega

theorem fill_ok {fr : Fr} {a : Act} {place : Nat → Option (Nat × Nat)} (hF : RelF ρ fr a.tmps) : ∀ {parts : List (Nat × Operand)} {ps : List (Nat × Nat × X)} {z cs : List AV} {us : Array Value},
    compParts place parts = some ps → RelL ρ z us.toList → fillP (ev fr) z ps = some cs →
    ∃ cells : Array Value, Instr.fill place us (parts.map fun p => (p.1, a.eval p.2)) = some cells ∧ RelL ρ cs cells.toList
  | [], ps, z, cs, us, hc, hz, h => by
    simp [compParts] at hc; subst hc
    simp [fillP] at h; subst h
    exact ⟨us, by simp [Instr.fill], hz⟩
  | (i, x) :: parts, ps, z, cs, us, hc, hz, h => by
    simp only [compParts] at hc
    split at hc
    · rename_i o sz y l hp hx hl
      injection hc with hc; subst hc
      simp only [fillP] at h
      split at h
      · rename_i cx hcx
        split at h
        · rename_i hsz
          have hR := cells_ok hcx (compX_ok hF hx)
          have hsize : (a.eval x).cells.size = sz := by rw [← hsz.1]; have := hR.length; simpa using this.symm
          have hus : us.size = z.length := by have := hz.length; simpa using this.symm
          have hfold : (((a.eval x).cells.zipIdx.foldl (fun cs (x : Value × Nat) => cs.setIfInBounds (o + x.2) x.1) us)).toList = us.toList.take o ++ (a.eval x).cells.toList ++ us.toList.drop (o + (a.eval x).cells.toList.length) := by
            have := foldl_set o (a.eval x).cells.toList 0 us (by simp; omega)
            rw [← Array.foldl_toList, Array.toList_zipIdx]
            simpa using this
          have hrel : RelL ρ (splice z o cx) (((a.eval x).cells.zipIdx.foldl (fun cs (x : Value × Nat) => cs.setIfInBounds (o + x.2) x.1) us)).toList := by
            rw [hfold]
            exact hz.splice hR
          obtain ⟨cells, h1, h2⟩ := fill_ok hF hl hrel h
          refine ⟨cells, ?_, h2⟩
          simp only [List.map_cons, Instr.fill, hp]
          rw [if_neg (by simp; omega)]
          exact h1
        · cases h
      · cases h
    · cases hc

theorem zeroOf_ok {t : TypeId} {z : List AV} (h : zeroOf P t = some z) : ∃ i u, P.info? t = some i ∧ i.zero = some u ∧ RelL ρ z u.cells.toList := by
  unfold zeroOf at h
  split at h
  · rename_i i hi
    split at h
    · rename_i u hu
      exact ⟨i, u, hi, hu, RelL_ofC h⟩
    · cases h
  · cases h


theorem pair_map (a : Act) (parts : Array (Nat × Operand)) : (parts.map fun (i, x) => (i, a.eval x)).toList = parts.toList.map fun p => (p.1, a.eval p.2) := by
  simp

theorem RelL.split {xs ys : List AV} {us : List Value} (h : RelL ρ (xs ++ ys) us) : RelL ρ xs (us.take xs.length) ∧ RelL ρ ys (us.drop xs.length) := by
  have h1 := h.take xs.length
  have h2 := h.drop xs.length
  rw [List.take_left'] at h1
  · rw [List.drop_left'] at h2
    · exact ⟨h1, h2⟩
    · rfl
  · rfl

theorem RelR_flat {sz g : Nat} : ∀ {rows : List (List AV)} {us : List Value} {o : Nat}, (∀ r ∈ rows, r.length = sz) → RelL ρ rows.flatten us → (∀ (j : Nat) u, us[j]? = some u → ρ.im g (o + j) = some u) → RelR ρ sz rows g o
  | [], _, _, _, _, _ => by simp [RelR]
  | r :: rows, us, o, hs, h, hi => by
    have hr : r.length = sz := hs r (by simp)
    rw [List.flatten_cons] at h
    obtain ⟨h1, h2⟩ := h.split
    simp only [RelR]
    refine ⟨hr, ?_, RelR_flat (fun r hr => hs r (by simp [hr])) h2 (fun j u hu => ?_)⟩
    · rw [RelI_iff]
      intro j x hx
      obtain ⟨u, hu, h3, h4⟩ := h1.get hx
      rw [List.getElem?_take] at hu
      split at hu
      · exact ⟨u, hi j u hu, h3, h4⟩
      · cases hu
    · rw [List.getElem?_drop] at hu
      have := hi _ u hu
      rwa [hr, ← Nat.add_assoc] at this

theorem fillR_ok {fr : Fr} {a : Act} {sz : Nat} (hF : RelF ρ fr a.tmps) : ∀ {parts : List (Nat × Operand)} {ps : List (Nat × X)} {z rows : List (List AV)} {us : Array Value},
    chainO (fun (p : Nat × Operand) => (compX p.2).map fun x => (p.1, x)) parts = some ps → (∀ r ∈ z, r.length = sz) → RelL ρ z.flatten us.toList → fillR (ev fr) sz z ps = some rows →
    ∃ cells : Array Value, Instr.fill (fun i => some (i * sz, sz)) us (parts.map fun p => (p.1, a.eval p.2)) = some cells ∧ RelL ρ rows.flatten cells.toList ∧ (∀ r ∈ rows, r.length = sz) ∧ rows.length = z.length
  | [], ps, z, rows, us, hc, hs, hz, h => by
    simp [chainO] at hc; subst hc
    simp [fillR] at h; subst h
    exact ⟨us, by simp [Instr.fill], hz, hs, rfl⟩
  | (i, x) :: parts, ps, z, rows, us, hc, hs, hz, h => by
    simp only [chainO] at hc
    split at hc
    · rename_i y hy
      split at hc
      · rename_i l hl
        injection hc with hc; subst hc
        simp only [Option.map_eq_some_iff] at hy
        obtain ⟨x', hx, rfl⟩ := hy
        simp only [fillR] at h
        split at h
        · rename_i cx hcx
          split at h
          · rename_i hsz
            have hR := cells_ok hcx (compX_ok hF hx)
            have hsize : (a.eval x).cells.size = sz := by rw [← hsz.1]; have := hR.length; simpa using this.symm
            have hus : us.size = z.length * sz := by rw [← flat_length hs]; have := hz.length; simpa using this.symm
            have hmul : i * sz + sz ≤ z.length * sz := by
              have := Nat.mul_le_mul_right sz (show i + 1 ≤ z.length from hsz.2)
              rwa [Nat.add_mul, Nat.one_mul] at this
            have hfold : (((a.eval x).cells.zipIdx.foldl (fun cs (x : Value × Nat) => cs.setIfInBounds (i * sz + x.2) x.1) us)).toList = us.toList.take (i * sz) ++ (a.eval x).cells.toList ++ us.toList.drop (i * sz + (a.eval x).cells.toList.length) := by
              have := foldl_set (i * sz) (a.eval x).cells.toList 0 us (by simp; omega)
              rw [← Array.foldl_toList, Array.toList_zipIdx]
              simpa using this
            have hzi : z[i]? = some z[i] := List.getElem?_eq_getElem hsz.2
            have hzl : z[i].length = sz := hs _ (List.getElem_mem _)
            have e1 : splice z[i] 0 cx = cx := by
              unfold splice
              rw [List.drop_eq_nil_of_le (by omega)]
              simp
            have hrel : RelL ρ (z.set i cx).flatten (((a.eval x).cells.zipIdx.foldl (fun cs (x : Value × Nat) => cs.setIfInBounds (i * sz + x.2) x.1) us)).toList := by
              have := flat_splice (off := 0) (cs := cx) hs hzi (by omega)
              rw [e1] at this
              rw [this, hfold]
              exact hz.splice hR
            obtain ⟨cells, h1, h2, h3, h4⟩ := fillR_ok hF hl (fun r hr => by
              rcases List.mem_or_eq_of_mem_set hr with h14 | rfl
              · exact hs _ h14
              · exact hsz.1) hrel h
            refine ⟨cells, ?_, h2, h3, by simpa using h4⟩
            simp only [List.map_cons, Instr.fill]
            rw [if_neg (by simp; omega)]
            exact h1
          · cases h
        · cases h
      · cases hc
    · cases hc

theorem flat_rep {α : Type} {z : List α} {sz : Nat} (hz : z.length = sz) (h0 : 0 < sz) : ∀ (n j : Nat), j < n * sz → (List.replicate n z).flatten[j]? = z[j % sz]?
  | 0, j, h => by simp at h
  | n + 1, j, h => by
    rw [List.replicate_succ, List.flatten_cons]
    by_cases hj : j < sz
    · rw [List.getElem?_append_left (by omega), Nat.mod_eq_of_lt hj]
    · rw [List.getElem?_append_right (by omega), hz, flat_rep hz h0 n (j - sz) (by rw [Nat.add_mul] at h; omega)]
      rw [← Nat.mod_eq_sub_mod (by omega)]

theorem RelL_rep {z : List AV} {u : Array Value} {sz n : Nat} (h : RelL ρ z u.toList) (hz : z.length = sz) (h0 : 0 < sz) : RelL ρ (List.replicate n z).flatten ((Array.range (n * sz)).map (u[· % u.size]!)).toList := by
  have hu : u.size = sz := by have := h.length; simp at this; omega
  rw [RelL_iff]
  constructor
  · rw [flat_length (sz := sz) (by simp; intro _; exact hz)]
    simp
  · intro j x y hx hy
    have hj : j < n * sz := by
      have := (List.getElem?_eq_some_iff.1 hy).1
      simpa using this
    rw [flat_rep hz h0 n j hj] at hx
    obtain ⟨u', h1, h2, h3⟩ := h.get hx
    have hm : j % sz < sz := Nat.mod_lt _ h0
    have : y = u' := by
      simp [hj] at hy
      rw [← hy, hu]
      have h4 : u[j % sz]? = some u' := by simpa using h1
      rw [getElem!_pos u (j % sz) (by omega)]
      rw [Array.getElem?_eq_getElem (by omega)] at h4
      injection h4
    rw [this]
    exact ⟨h2, h3⟩

theorem runLit {fr : Fr} {a : Act} {t e : TypeId} {i : TypeInfo} {len : Nat} {parts : Array (Nat × Operand)} {ps : List (Nat × X)} {z : List AV} {rows : List (List AV)} (hF : RelF ρ fr a.tmps) (hu : P.underlying t = some (.slice e))
    (hi : P.info? e = some i) (hz : zeroOf P e = some z) (hps : chainO (fun (p : Nat × Operand) => (compX p.2).map fun x => (p.1, x)) parts.toList = some ps) (hl : z.length = i.size) (h0 : 0 < i.size) (hlen : 0 < len) (hsm : len * i.size ≤ 16777216)
    (h : fillR (ev fr) i.size (List.replicate len z) ps = some rows) :
    ∃ cells : Array Value, (Instr.buildSlice t len (parts.map fun (i, x) => (i, a.eval x))).run P w = .ok (.slice (some ⟨w.heap.size, 0, none⟩) len len) (w.alloc (.cells cells e)) ∧ RelL ρ rows.flatten cells.toList ∧ (∀ r ∈ rows, r.length = i.size) ∧ rows.length = len := by
  obtain ⟨i', u, hi', hu', hR⟩ := zeroOf_ok (ρ := ρ) hz
  rw [hi] at hi'; injection hi' with hi'; subst hi'
  have hsz : u.cells.size = i.size := by have := hR.length; simp at this; omega
  obtain ⟨cells, h1, h2, h3, h4⟩ := fillR_ok hF hps (by simp; intro _; exact hl) (RelL_rep (n := len) hR hl h0) h
  refine ⟨cells, ?_, h2, h3, by simpa using h4⟩
  have hp : ¬ len * i.size = 0 := by
    have := Nat.mul_pos hlen h0
    omega
  exact run_buildSlice w t e len _ cells i u hu hi hu' (by omega) hp (by rw [pair_map]; exact h1)

theorem ok_lit {fr : Fr} {a : Act} {t e : TypeId} {i : TypeInfo} {len : Nat} {parts : Array (Nat × Operand)} {ps : List (Nat × X)} {z : List AV} {rows : List (List AV)} (hS : RelS ρ s w) (hF : RelF ρ fr a.tmps) (hu : P.underlying t = some (.slice e))
    (hi : P.info? e = some i) (hz : zeroOf P e = some z) (hps : chainO (fun (p : Nat × Operand) => (compX p.2).map fun x => (p.1, x)) parts.toList = some ps) (hl : z.length = i.size) (h0 : 0 < i.size) (hlen : 0 < len) (hsm : len * i.size ≤ 16777216)
    (h : fillR (ev fr) i.size (List.replicate len z) ps = some rows) : OpOk P ρ s w (Instr.buildSlice t len (parts.map fun (i, x) => (i, a.eval x))) (.sl rows) s := by
  obtain ⟨cells, h1, h2, h3, h4⟩ := runLit (w := w) hF hu hi hz hps hl h0 hlen hsm h
  have hn : ∀ o, ρ.im w.heap.size o = none := fun o => by
    cases hv : ρ.im w.heap.size o with
    | none => rfl
    | some v => have := hS.im_lt hv; omega
  refine ⟨_, _, ρ.fix w.heap.size cells.toList, h1, Le.fix _ hn, ?_, hS.fix _ _ (Nat.le_refl _) (fun k hk => hold w _ k hk) (fun o v hv => ?_), Keeps.fix _ _ (Nat.le_refl _) rfl rfl rfl (by simp) (fun k hk => hold w _ k hk)⟩
  · simp only [RelV]
    refine ⟨_, _, _, rfl, h4.symm, Nat.le_refl _, .inr ⟨w.heap.size, 0, i.size, rfl, RelR_flat h3 (RelL.mono (Le.fix _ hn) _ _ h2) (fun j u hu => ?_)⟩⟩
    simp only [Ro.fix, if_true, Nat.zero_add]
    exact hu
  · have := CellsAt.block (hnew w (.cells cells e)) o v hv
    rwa [Nat.zero_add] at this

theorem ok_newrow {e : TypeId} {sz byt len : Nat} {rows : List (List AV)} {cells : Array Value} (hS : RelS ρ s w) (h0 : 0 < sz) (h2 : RelL ρ rows.flatten cells.toList) (h3 : ∀ r ∈ rows, r.length = sz) (h4 : rows.length = len) (hm : len ≤ maxLen) :
    ∃ ρ', Le ρ ρ' ∧ RelV ρ' (.own s.length len) (.slice (some ⟨w.heap.size, 0, none⟩) len len) ∧ RelS ρ' (s ++ [.row e sz byt rows]) (w.alloc (.cells cells e)) ∧ Keeps ρ s w ρ' (s ++ [.row e sz byt rows]) (w.alloc (.cells cells e)) := by
  let le : LE := ⟨w.heap.size, len, len, sz, false, none⟩
  have hcs : cells.size = len * sz := by have := h2.length; rw [flat_length h3] at this; simp at this; rw [h4] at this; exact this.symm
  refine ⟨ρ.add le, Le.add ρ le, ?_, hS.add _ le rfl (fun k hk => hold w _ k hk) ⟨rfl, h4.symm, rfl, h0, h3, cells.toList, ⟨?_, .inr ⟨w.heap.size, len, cells, by rw [h4], Nat.zero_le _, hnew w _, by omega, hm, hcs, ?_⟩⟩, RelL.mono (Le.add ρ le) _ _ h2⟩, Keeps.add hS _ le rfl rfl rfl rfl (by simp) (fun k hk => hold w _ k hk)⟩
  · simp only [RelV]
    exact ⟨le, _, _, by rw [hS.len]; simp [Ro.add], rfl, Nat.le_refl _, rfl, fun _ => ⟨rfl, rfl⟩⟩
  · simp [hcs, h4]
  · rw [h4, List.take_of_length_le]
    simp [hcs]
end
end Go.Ab
