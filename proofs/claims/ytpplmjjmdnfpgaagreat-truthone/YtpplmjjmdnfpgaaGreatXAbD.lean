import Derived.Test.YtpplmjjmdnfpgaaGreatXAbC
namespace Go.Ab

theorem add_none (g o j : Nat) : (⟨g, o, none⟩ : Addr).add j = ⟨g, o + j, none⟩ := by
  unfold Addr.add
  split
  · rename_i h; subst h; rfl
  · rfl

section
variable {P : Program} {ρ : Ro} {s s' : St} {w : World} {v : AV}

/-! ### reading -/
def CellsAt (w : World) (g o : Nat) (us : List Value) : Prop := ∀ (j : Nat) u, us[j]? = some u → w.cell? ⟨g, o + j, none⟩ = some u

theorem CellsAt.drop {g o : Nat} {us : List Value} (h : CellsAt w g o us) (n : Nat) : CellsAt w g (o + n) (us.drop n) := by
  intro j u hu
  rw [List.getElem?_drop] at hu
  rw [Nat.add_assoc]
  exact h _ u hu
theorem CellsAt.take {g o : Nat} {us : List Value} (h : CellsAt w g o us) (n : Nat) : CellsAt w g o (us.take n) := by
  intro j u hu
  rw [List.getElem?_take] at hu
  split at hu
  · exact h _ u hu
  · cases hu
theorem CellsAt.block {g : Nat} {T : TypeId} {fr : Nat × Nat} {cs : Array Value} (h : w.heap[g]? = some (.cells cs T fr)) : CellsAt w g 0 cs.toList := by
  intro j u hu
  rw [cell_of_row w g _ cs T fr h, Nat.zero_add]
  simpa using hu

theorem RelI_list : ∀ {xs : List AV} {b o : Nat}, RelI ρ xs b o → ∃ us, RelL ρ xs us ∧ ∀ (j : Nat) u, us[j]? = some u → ρ.im b (o + j) = some u
  | [], b, o, _ => ⟨[], by simp [RelL], by simp⟩
  | x :: xs, b, o, h => by
    simp only [RelI] at h
    obtain ⟨⟨u, h1, h2, h3⟩, h4⟩ := h
    obtain ⟨us, h5, h6⟩ := RelI_list h4
    refine ⟨u :: us, by simp only [RelL]; exact ⟨u, us, rfl, h2, h3, h5⟩, fun j y hy => ?_⟩
    cases j with
    | zero => simp at hy; subst hy; exact h1
    | succ j => simp at hy; have := h6 j y hy; rwa [Nat.add_assoc, Nat.add_comm 1 j] at this

theorem run_loadVar {t : TypeId} {n : Option Nat} {cells : List AV} {us : List Value} {g o off : Nat} (ht : partOf P t = some n) (hR : RelL ρ cells us) (hc : CellsAt w g o us) (hp : pickC cells off n = some v) :
    ∃ val, (loadVar t ⟨g, o + off, none⟩).run P w = .ok val w ∧ RelV ρ v val := by
  unfold partOf at ht
  cases n with
  | none =>
    simp only [pickC] at hp
    have hx : cells[off]? = some v := by
      split at hp
      · cases hp
      · rename_i hx; injection hp with hp; rw [hx, hp]
      · cases hp
    obtain ⟨u, hu, _, hv⟩ := hR.get hx
    have hcell : w.cell? ⟨g, o + off, none⟩ = some u := hc off u hu
    refine ⟨u, ?_, hv⟩
    split at ht
    · simp at ht
    · simp at ht
    · rename_i d hd1 hd2 hd
      have : (isAgg t).run P w = .ok false w := by
        unfold isAgg
        simp only [Sem.run_bind, run_underlying hd, Result.andThen_ok]
        cases d <;> first | rfl | exact (hd1 _ rfl).elim | exact (hd2 _ _ rfl).elim
      simp [loadVar, this, hcell, load, Sem.run]
    · cases ht
  | some k =>
    simp only [pickC] at hp
    split at hp
    · rename_i hk
      injection hp with hp
      have hsz : (isAgg t).run P w = .ok true w ∧ (sizeOf t).run P w = .ok k w := by
        split at ht
        · rename_i fs hd
          simp only [Option.map_eq_some_iff] at ht
          obtain ⟨i, hi, he⟩ := ht
          injection he with he
          exact ⟨by simp [isAgg, run_underlying hd], by simp [sizeOf, typeInfo, program, Sem.run, hi, he]⟩
        · rename_i a b hd
          simp only [Option.map_eq_some_iff] at ht
          obtain ⟨i, hi, he⟩ := ht
          injection he with he
          exact ⟨by simp [isAgg, run_underlying hd], by simp [sizeOf, typeInfo, program, Sem.run, hi, he]⟩
        · simp at ht
        · cases ht
      have hlen : ((us.drop off).take k).length = k := by
        have := hR.length
        simp; omega
      have hload : (loadCells ⟨g, o + off, none⟩ k).run P w = .ok ((us.drop off).take k).toArray w := by
        have := run_loadCells_list (P := P) w ⟨g, o + off, none⟩ ((us.drop off).take k) (fun j u hu => by
          rw [add_none]
          exact ((hc.drop off).take k) j u hu)
        rwa [hlen] at this
      refine ⟨.agg ((us.drop off).take k).toArray, by simp [loadVar, hsz.1, hsz.2, hload], ?_⟩
      subst hp
      simp only [RelV]
      exact ⟨_, rfl, by simpa using (hR.drop off).take k⟩
    · cases hp

theorem flat_index {α : Type} {rows : List (List α)} {sz i : Nat} {c : List α} (h : ∀ r ∈ rows, r.length = sz) (hc : rows[i]? = some c) : (rows.flatten.drop (i * sz)).take sz = c := by
  induction rows generalizing i with
  | nil => simp at hc
  | cons r rows ih =>
    have hr : r.length = sz := h r (by simp)
    cases i with
    | zero =>
      simp at hc; subst hc
      simp [← hr]
    | succ i =>
      simp at hc
      have := ih (fun r hr => h r (by simp [hr])) hc
      rw [List.flatten_cons, List.drop_append, show (i + 1) * sz = r.length + i * sz by rw [hr, Nat.add_mul]; omega]
      rw [List.drop_eq_nil_of_le (by omega)]
      simpa using this
theorem flat_length {α : Type} {rows : List (List α)} {sz : Nat} (h : ∀ r ∈ rows, r.length = sz) : rows.flatten.length = rows.length * sz := by
  induction rows with
  | nil => simp
  | cons r rows ih =>
    rw [List.flatten_cons, List.length_append, ih (fun r hr => h r (by simp [hr])), h r (by simp), List.length_cons, Nat.add_mul]
    omega

theorem row_cells {ty sz g c n : Nat} {vals : List Value} (h : w.ownsRow 0 ty sz (.slice (some ⟨g, 0, none⟩) n c) n vals) : CellsAt w g 0 vals := by
  intro j u hu
  have := h.cells (g := g) (by simp [Value.ownBlock]) j u hu
  rwa [add_none] at this

/-- Reading through a pointer. -/
theorem loadA_ok {t : TypeId} {n : Option Nat} {a : AV} {val : Value} (hS : RelS ρ s w) (ht : partOf P t = some n) (ha : RelV ρ a val) (h : loadA s n a = some v) :
    ∃ u, (Instr.loadAt t val).run P w = .ok u w ∧ RelV ρ v u := by
  unfold loadA at h
  split at h
  · rename_i r off
    split at h
    · rename_i cells hr
      simp only [RelV] at ha
      obtain ⟨e, h1, h2, rfl⟩ := ha
      obtain ⟨_, T, cs, h3, h4⟩ := hS.blk r _ e hr h1
      obtain ⟨u, hu, hv⟩ := run_loadVar (off := off) ht h4 (CellsAt.block h3) h
      refine ⟨u, ?_, hv⟩
      rw [Nat.zero_add] at hu
      simpa [Instr.loadAt, Instr.sureAddr] using hu
    · cases h
  · rename_i r m i off
    split at h
    · rename_i e0 sz byt rows hr
      split at h
      · rename_i hm
        split at h
        · rename_i c hc
          simp only [RelV] at ha
          obtain ⟨e, o, h1, h2, hn, rfl, h3⟩ := ha
          obtain ⟨_, hen, hsz, h0, hrows, vals, h5, h6⟩ := hS.blk r _ e hr h1
          obtain rfl := h3 (by omega)
          have hcell := row_cells h5
          have hflat : RelL ρ c ((vals.drop (i * sz)).take sz) := by
            have := (h6.drop (i * sz)).take sz
            rwa [flat_index hrows hc] at this
          obtain ⟨u, hu, hv⟩ := run_loadVar (off := off) ht hflat ((hcell.drop (i * sz)).take sz) h
          refine ⟨u, ?_, hv⟩
          rw [Nat.zero_add] at hu
          simpa [Instr.loadAt, Instr.sureAddr, hsz] using hu
        · cases h
      · cases h
    · cases h
  · rename_i cells
    simp only [RelV] at ha
    obtain ⟨b, o, rfl, h1⟩ := ha
    obtain ⟨us, h2, h3⟩ := RelI_list h1
    obtain ⟨u, hu, hv⟩ := run_loadVar (P := P) (w := w) (off := 0) ht h2 (fun j u hu => hS.im _ _ _ (h3 j u hu)) h
    exact ⟨u, by simpa [Instr.loadAt, Instr.sureAddr] using hu, hv⟩
  · cases h

/-! ### a block of the state changes -/
theorem RelS.upd {w' : World} (h : RelS ρ s w) {r : Nat} {b : ABlk} {e : LE} (hr : s[r]? = some b) (he : ρ.loc[r]? = some e) (hb : b ≠ .gone) (b' : ABlk) (hw : ∀ k, k ≠ e.g → w'.heap[k]? = w.heap[k]?) (hB : RelB ρ w' b' e) : RelS ρ (s.set r b') w' := by
  have key : ∀ (r1 : Nat) (b1 : ABlk), (s.set r b')[r1]? = some b1 → (r1 = r ∧ b1 = b') ∨ (r1 ≠ r ∧ s[r1]? = some b1) := by
    intro r1 b1 h1
    by_cases h2 : r1 = r
    · subst h2
      rw [List.getElem?_set_self (List.getElem?_eq_some_iff.1 hr).1] at h1
      injection h1 with h1
      exact .inl ⟨rfl, h1.symm⟩
    · rw [List.getElem?_set_ne (Ne.symm h2)] at h1
      exact .inr ⟨h2, h1⟩
  have hL : ∀ k, Liv ρ (s.set r b') k → Liv ρ s k := by
    rintro k ⟨r1, b1, e1, h1, h2, h3, rfl⟩
    rcases key r1 b1 h1 with ⟨rfl, rfl⟩ | ⟨h4, h5⟩
    · rw [he] at h3; injection h3 with h3; subst h3
      exact ⟨r1, b, e, hr, hb, he, rfl⟩
    · exact ⟨r1, b1, e1, h5, h2, h3, rfl⟩
  have hne : ∀ (r1 : Nat) (b1 : ABlk) (e1 : LE), r1 ≠ r → s[r1]? = some b1 → ρ.loc[r1]? = some e1 → b1 ≠ .gone → e1.g ≠ e.g := fun r1 b1 e1 hn h1 h2 h3 h4 => hn (h.apart r1 r b1 b e1 e h1 hr h2 he h3 hb h4)
  refine ⟨by simp [h.len], fun r1 b1 e1 h1 h2 => ?_, fun r1 r2 b1 b2 e1 e2 h1 h2 h3 h4 n1 n2 heq => ?_, fun k hk => h.sep k (hL k hk), fun b1 o v hv => ?_⟩
  · rcases key r1 b1 h1 with ⟨rfl, rfl⟩ | ⟨h4, h5⟩
    · rw [he] at h2; injection h2 with h2; subst h2
      exact hB
    · exact (h.blk r1 b1 e1 h5 h2).mono (Le.refl ρ) (fun hg => hw _ (hne r1 b1 e1 h4 h5 h2 hg))
  · rcases key r1 b1 h1 with ⟨rfl, rfl⟩ | ⟨h5, h6⟩ <;> rcases key r2 b2 h2 with ⟨rfl, rfl⟩ | ⟨h7, h8⟩
    · rfl
    · rw [he] at h3; injection h3 with h3; subst h3
      exact absurd heq.symm (hne r2 b2 e2 h7 h8 h4 n2)
    · rw [he] at h4; injection h4 with h4; subst h4
      exact absurd heq (hne r1 b1 e1 h5 h6 h3 n1)
    · exact h.apart r1 r2 b1 b2 e1 e2 h6 h8 h3 h4 n1 n2 heq
  · have hne' : b1 ≠ e.g := by
      rintro rfl
      rw [h.sep e.g ⟨r, b, e, hr, hb, he, rfl⟩ o] at hv
      cases hv
    rw [← h.im b1 o v hv]
    exact World.cell?_of_block (hw b1 hne')
theorem Keeps.upd {w' : World} {r : Nat} {b : ABlk} {e : LE} (hr : s[r]? = some b) (he : ρ.loc[r]? = some e) (hb : b ≠ .gone) (b' : ABlk) (ho : w'.os = w.os) (ht : w'.tape = w.tape) (hp : w'.output = w.output) (hs : w'.heap.size = w.heap.size) (hw : ∀ k, k ≠ e.g → w'.heap[k]? = w.heap[k]?) :
    Keeps ρ s w ρ (s.set r b') w' := by
  refine ⟨ho, ht, hp, by omega, fun k _ hn => hw k (fun hk => hn ⟨r, b, e, hr, hb, he, hk.symm⟩), ?_, fun _ _ _ h => .inl h⟩
  rintro k ⟨r1, b1, e1, h1, h2, h3, rfl⟩
  by_cases h4 : r1 = r
  · subst h4
    rw [he] at h3; injection h3 with h3; subst h3
    exact .inl ⟨r1, b, e, hr, hb, he, rfl⟩
  · rw [List.getElem?_set_ne (Ne.symm h4)] at h1
    exact .inl ⟨r1, b1, e1, h1, h2, h3, rfl⟩

theorem splice_length {l cs : List AV} {off : Nat} (h : off + cs.length ≤ l.length) : (splice l off cs).length = l.length := by simp [splice]; omega
theorem RelL.splice {l cs : List AV} {us vs : List Value} {off : Nat} (h : RelL ρ l us) (k : RelL ρ cs vs) : RelL ρ (splice l off cs) (us.take off ++ vs ++ us.drop (off + vs.length)) := by
  unfold Ab.splice
  rw [← k.length, List.append_assoc]
  exact (h.take off).append (k.append (h.drop _))
theorem RelL.one {xs : List AV} {us : List Value} (h : RelL ρ xs us) : ∀ u ∈ us, u.oneCell' = true := by
  intro u hu
  obtain ⟨i, hi⟩ := List.getElem?_of_mem hu
  have hlt : i < xs.length := by rw [h.length]; exact (List.getElem?_eq_some_iff.1 hi).1
  exact ((RelL_iff.1 h).2 i xs[i] u (List.getElem?_eq_getElem hlt) hi).1

theorem flat_split {α : Type} {rows : List (List α)} {sz i : Nat} {c : List α} (h : ∀ r ∈ rows, r.length = sz) (hc : rows[i]? = some c) : ∃ pre post, pre.length = i * sz ∧ rows.flatten = pre ++ (c ++ post) ∧ ∀ c', (rows.set i c').flatten = pre ++ (c' ++ post) := by
  induction rows generalizing i with
  | nil => simp at hc
  | cons r rows ih =>
    have hr : r.length = sz := h r (by simp)
    cases i with
    | zero =>
      simp at hc; subst hc
      exact ⟨[], rows.flatten, by simp, by simp, fun c' => by simp⟩
    | succ i =>
      simp at hc
      obtain ⟨pre, post, h1, h2, h3⟩ := ih (fun r hr => h r (by simp [hr])) hc
      exact ⟨r ++ pre, post, by rw [List.length_append, h1, hr, Nat.add_mul]; omega, by rw [List.flatten_cons, h2, List.append_assoc], fun c' => by rw [List.set_cons_succ, List.flatten_cons, h3, List.append_assoc]⟩
theorem splice_mid {pre c post cs : List AV} {off : Nat} (h : off + cs.length ≤ c.length) : splice (pre ++ (c ++ post)) (pre.length + off) cs = pre ++ (splice c off cs ++ post) := by
  unfold splice
  rw [List.take_append, List.take_of_length_le (by omega), List.drop_append, List.drop_eq_nil_of_le (by omega)]
  have e1 : pre.length + off - pre.length = off := by omega
  have e2 : pre.length + off + cs.length - pre.length = off + cs.length := by omega
  rw [e1, e2, List.take_append_of_le_length (by omega), List.drop_append_of_le_length (by omega)]
  simp
theorem flat_splice {rows : List (List AV)} {sz i off : Nat} {c cs : List AV} (h : ∀ r ∈ rows, r.length = sz) (hc : rows[i]? = some c) (ho : off + cs.length ≤ c.length) : (rows.set i (splice c off cs)).flatten = splice rows.flatten (i * sz + off) cs := by
  obtain ⟨pre, post, h1, h2, h3⟩ := flat_split h hc
  rw [h3, h2, ← h1, splice_mid ho]

theorem take_splice {α : Type} {cur vs : List α} {A n N : Nat} (h : A + n ≤ N) (hN : N ≤ cur.length) (hv : vs.length = n) :
    (cur.take A ++ vs ++ cur.drop (A + n)).take N = (cur.take N).take A ++ vs ++ (cur.take N).drop (A + n) := by
  rw [List.take_take, Nat.min_eq_left (by omega), List.drop_take, List.take_append, List.take_of_length_le (by simp; omega)]
  congr 1
  simp only [List.length_append, List.length_take, hv]
  congr 1
  omega

theorem ok_store {t : TypeId} {n : Nat} {a x : AV} {va vx : Value} {s' : St} (hS : RelS ρ s w) (ht : szOf P t = some n) (ha : RelV ρ a va) (hx : RelV ρ x vx) (h : storeA s n a x = some s') :
    ∃ w', (Instr.storeAt t va vx).run P w = .ok () w' ∧ RelS ρ s' w' ∧ Keeps ρ s w ρ s' w' := by
  unfold storeA at h
  split at h
  · cases h
  · rename_i cs hcs
    split at h
    · rename_i hn
      have hR := cells_ok hcs hx
      have hsize : vx.cells.size = n := by rw [← hn]; have := hR.length; simpa using this.symm
      have hso : (sizeOf t).run P w = .ok n w := by
        simp only [szOf, Option.map_eq_some_iff] at ht
        obtain ⟨i, hi, he⟩ := ht
        simp [sizeOf, typeInfo, program, Sem.run, hi, he]
      have hrun : ∀ (g off : Nat) (cur : Array Value) (T : TypeId), w.heap[g]? = some (.cells cur T (0, 0)) → off + vx.cells.toList.length ≤ cur.size →
          (Instr.storeAt t (.pointer (some ⟨g, off, none⟩)) vx).run P w = .ok () (w.setRow g (cur.toList.take off ++ vx.cells.toList ++ cur.toList.drop (off + vx.cells.toList.length)).toArray) := by
        intro g off cur T hg hl
        have := run_storeCells_at P g off T vx.cells.toList 0 cur w hg (by simpa using hl) hR.one
        simp only [Nat.add_zero] at this
        simp [Instr.storeAt, Instr.sureAddr, storeVar, hso, hsize, this]
      have hlen : vx.cells.toList.length = n := by simp [hsize]
      split at h
      · rename_i r off
        split at h
        · rename_i cells hr
          split at h
          · rename_i hoff
            injection h with h; subst h
            simp only [RelV] at ha
            obtain ⟨e, h1, h2, rfl⟩ := ha
            obtain ⟨_, T, cur, h3, h4⟩ := hS.blk r _ e hr h1
            have hl : off + vx.cells.toList.length ≤ cur.size := by have := h4.length; simp at this; omega
            refine ⟨_, hrun e.g off cur T h3 hl, hS.upd hr h1 (by simp) _ (fun k hk => setRow_other w _ _ _ hk) ⟨h2, T, _, setRow_heap w _ _ _ _ _ h3, ?_⟩, Keeps.upd hr h1 (by simp) _ rfl rfl rfl (by simp) (fun k hk => setRow_other w _ _ _ hk)⟩
            exact h4.splice hR
          · cases h
        · cases h
      · rename_i r m i off
        split at h
        · rename_i e0 sz byt rows hr
          split at h
          · rename_i hm
            split at h
            · rename_i c hc
              split at h
              · rename_i hoff
                injection h with h; subst h
                simp only [RelV] at ha
                obtain ⟨e, o, h1, h2, hn', rfl, h3⟩ := ha
                obtain ⟨_, hen, hsz, h0, hrows, vals, h5, h6⟩ := hS.blk r _ e hr h1
                obtain rfl := h3 (by omega)
                rcases h5.2 with ⟨h7, _⟩ | ⟨g, cap, cur, h7, h8, h9, h10, h11, h12, h13⟩
                · cases h7
                · simp only [Value.slice.injEq, Option.some.injEq, Addr.mk.injEq] at h7
                  obtain ⟨⟨rfl, _⟩, _, rfl⟩ := h7
                  have hclen : c.length = sz := hrows c (List.mem_of_getElem? hc)
                  have hi : i < rows.length := (List.getElem?_eq_some_iff.1 hc).1
                  have hv : vals.length = rows.length * sz := h5.1
                  have hmul : i * sz + sz ≤ rows.length * sz := by
                    have := Nat.mul_le_mul_right sz (show i + 1 ≤ rows.length from hi)
                    rwa [Nat.add_mul, Nat.one_mul] at this
                  have hcap : rows.length * sz ≤ e.c * sz := Nat.mul_le_mul_right sz h10
                  have hl : i * e.sz + off + vx.cells.toList.length ≤ cur.size := by rw [hlen, hsz, h12]; omega
                  refine ⟨_, hrun e.g _ cur e0 h9 hl, hS.upd hr h1 (by simp) _ (fun k hk => setRow_other w _ _ _ hk) ⟨h2, by simpa using hen, hsz, h0, ?_, ?_⟩, Keeps.upd hr h1 (by simp) _ rfl rfl rfl (by simp) (fun k hk => setRow_other w _ _ _ hk)⟩
                  · intro r1 hr1
                    rcases List.mem_or_eq_of_mem_set hr1 with h14 | rfl
                    · exact hrows _ h14
                    · rw [splice_length (by omega), hclen]
                  · have hrel : RelL ρ (rows.set i (splice c off cs)).flatten (vals.take (i * sz + off) ++ vx.cells.toList ++ vals.drop (i * sz + off + n)) := by
                      rw [flat_splice hrows hc (by omega)]
                      have := h6.splice (off := i * sz + off) hR
                      rwa [hlen] at this
                    refine ⟨_, ⟨?_, .inr ⟨e.g, e.c, _, by simp, Nat.zero_le _, setRow_heap w _ _ _ _ _ h9, by simpa using h10, h11, ?_, ?_⟩⟩, hrel⟩
                    · rw [← hrel.length, flat_length (sz := sz)]
                      intro r1 hr1
                      rcases List.mem_or_eq_of_mem_set hr1 with h14 | rfl
                      · exact hrows _ h14
                      · rw [splice_length (by omega), hclen]
                    · simp [hlen]; omega
                    · rw [hlen, hsz, ← h13]
                      simp only [List.length_set]
                      exact take_splice (by omega) (by have : cur.toList.length = e.c * sz := by simpa using h12
                                                       omega) hlen
              · cases h
            · cases h
          · cases h
        · cases h
      · cases h
    · cases h
end
end Go.Ab
