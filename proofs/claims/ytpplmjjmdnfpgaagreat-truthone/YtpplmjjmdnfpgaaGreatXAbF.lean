import Derived.Test.YtpplmjjmdnfpgaaGreatXAbE
namespace Go.Ab

section
variable {P : Program} {ρ : Ro} {s s' : St} {w : World} {v : AV}

theorem ok_binInt {op : BinOp} {t : TypeId} {x y : AV} {vx vy : Value} {ox oy : Operand} (hS : RelS ρ s w) (hx : RelV ρ x vx) (hy : RelV ρ y vy) (h : binA op x y = some v) :
    OpOk P ρ s w (do eqGuard op t ox oy vx vy; binOp op t vx vy) v s := by
  unfold binA at h
  split at h
  · rename_i k a k' b
    simp only [RelV] at hx hy
    subst hx; subst hy
    have hg : (eqGuard op t ox oy (.int k a) (.int k' b)).run P w = .ok () w := by
      unfold eqGuard
      cases op <;> simp
    split at h
    · rename_i hsh
      unfold shiftInt at h
      split at h
      · cases h
      · rename_i hneg
        refine OpOk.same (val := match op with | .shl => .int k (k.wrap (a * 2 ^ (min b.toNat k.bits))) | _ => .int k (a.fdiv (2 ^ (min b.toNat k.bits)))) hS ?_ ?_
        · cases op <;> simp [isShift] at hsh <;> simp [hg, binOp, Op.shift, hneg]
        · cases op <;> simp [isShift] at hsh <;> simp at h <;> subst h <;> simp [RelV]
    · rename_i hsh
      split at h
      · rename_i hk
        subst hk
        cases op <;> simp [isShift] at hsh <;> simp only [binInt] at h
        case quo =>
          split at h
          · cases h
          · rename_i h0; injection h with h; subst h
            exact OpOk.same hS (val := .int k (k.wrap (a.tdiv b))) (by simp [hg, binOp, Op.intDiv, h0]) (by simp [RelV])
        case rem =>
          split at h
          · cases h
          · rename_i h0; injection h with h; subst h
            exact OpOk.same hS (val := .int k (a.tmod b)) (by simp [hg, binOp, Op.intDiv, h0]) (by simp [RelV])
        all_goals
          injection h with h
          subst h
          refine OpOk.same hS (by simp only [Sem.run_bind, hg, Result.andThen_ok]; simp [binOp, Op.intArith, Op.intBits, Op.intCmp]; rfl) ?_
          simp [RelV]
      · cases h
  · rename_i a b
    simp only [RelV] at hx hy
    subst hx; subst hy
    have hg : (eqGuard op t ox oy (.string ⟨a.toArray⟩) (.string ⟨b.toArray⟩)).run P w = .ok () w := by
      unfold eqGuard
      cases op <;> simp
    have hl : ∀ c : List UInt8, (⟨c.toArray⟩ : ByteArray).toList = c := by
      intro c
      rw [ByteArray.toList_eq]
    have hs : ∀ c : List UInt8, (⟨c.toArray⟩ : ByteArray).size = c.length := by
      intro c; simp [ByteArray.size]
    unfold binStr at h
    cases op <;> simp only at h
    case add =>
      split at h
      · rename_i hb
        injection h with h; subst h
        refine OpOk.same hS (val := .string ⟨(a ++ b).toArray⟩) ?_ (by simp [RelV])
        have : ¬ (((a.length + b.length : Nat) : Int) > IntKind.i64.max) := by
          simp only [strBound] at hb
          have : IntKind.i64.max = 9223372036854775807 := by decide
          omega
        simp only [Sem.run_bind, hg, Result.andThen_ok, binOp, Op.stringOp, hs]
        rw [if_neg this]
        simp only [Sem.run_pure]
        congr 2
      · cases h
    case eql | neq | lss | leq | gtr | geq =>
      injection h with h
      subst h
      exact OpOk.same hS (by simp only [Sem.run_bind, hg, Result.andThen_ok]; simp only [binOp, Op.stringOp, hl, Sem.run_pure]; rfl) (by simp only [RelV])
    all_goals cases h
  · cases h

theorem run_equalIn_bool (n : Nat) {t : TypeId} (ht : P.underlying t = some .bool) (a b : Bool) : (Op.equalIn (n + 1) t (.bool a) (.bool b)).run P w = .ok (a == b) w := by
  simp only [Op.equalIn, Sem.run_bind, run_underlying ht, Result.andThen_ok, Sem.run_pure]
theorem run_equalIn_nilp (n : Nat) {t e : TypeId} (ht : P.underlying t = some (.pointer e)) (a : Option Addr) : (Op.equalIn (n + 1) t (.pointer a) (.pointer none)).run P w = .ok a.isNone w := by
  cases a <;> simp only [Op.equalIn, Sem.run_bind, run_underlying ht, Result.andThen_ok, Sem.run_pure] <;> rfl
theorem run_equal_bool {t : TypeId} (ht : P.underlying t = some .bool) (a b : Bool) : (Op.equal t (.bool a) (.bool b)).run P w = .ok (a == b) w :=
  run_equalIn_bool 9999 ht a b
theorem run_equal_nilp {t e : TypeId} (ht : P.underlying t = some (.pointer e)) (a : Option Addr) : (Op.equal t (.pointer a) (.pointer none)).run P w = .ok a.isNone w :=
  run_equalIn_nilp 9999 ht a

theorem ok_beq {t : TypeId} {neg : Bool} {a b : Bool} {vx vy : Value} {ox oy : Operand} (hS : RelS ρ s w) (ht : P.underlying t = some .bool) (hx : RelV ρ (.bool a) vx) (hy : RelV ρ (.bool b) vy) :
    OpOk P ρ s w (do eqGuard (if neg then .neq else .eql) t ox oy vx vy; binOp (if neg then .neq else .eql) t vx vy) (.bool (if neg then !(a == b) else a == b)) s := by
  simp only [RelV] at hx hy
  subst hx; subst hy
  refine OpOk.same hS (val := .bool (if neg then !(a == b) else a == b)) ?_ (by simp [RelV])
  cases neg <;> simp [eqGuard, binOp, run_equal_bool ht]

theorem ok_isNil {t e : TypeId} {neg b : Bool} {x : AV} {vx : Value} {ox oy : Operand} (hS : RelS ρ s w) (ht : P.underlying t = some (.pointer e)) (hx : RelV ρ x vx) (hb : isNilV x = some b) :
    OpOk P ρ s w (do eqGuard (if neg then .neq else .eql) t ox oy vx (.pointer none); binOp (if neg then .neq else .eql) t vx (.pointer none)) (.bool (if neg then !b else b)) s := by
  refine OpOk.same hS (val := .bool (if neg then !b else b)) ?_ (by simp [RelV])
  unfold isNilV at hb
  split at hb <;> first | cases hb | (injection hb with hb; subst hb; simp only [RelV] at hx)
  · subst hx
    cases neg <;> simp [eqGuard, binOp, run_equal_nilp ht]
  · obtain ⟨_, _, _, rfl⟩ := hx
    cases neg <;> simp [eqGuard, binOp, run_equal_nilp ht]
  · obtain ⟨_, _, rfl, _⟩ := hx
    cases neg <;> simp [eqGuard, binOp, run_equal_nilp ht]

theorem eqCell_ok {k : Nat} {x y : AV} {u v : Value} {b : Bool} {t : TypeId} (n : Nat) (h : eqCell k x y = some b) (hk : match P.underlying t with | some .bool => k = 0 | some (.int _) => k = 1 | some .string => k = 2 | _ => False) (hx : RelV ρ x u) (hy : RelV ρ y v) :
    P.plainKey t = true ∧ (Op.equalIn (n + 1) t u v).run P w = .ok b w := by
  unfold eqCell at h
  split at h
  · injection h with h; subst h
    simp only [RelV] at hx hy; subst hx; subst hy
    cases hu : P.underlying t with
    | none => rw [hu] at hk; exact hk.elim
    | some d =>
      rw [hu] at hk
      cases d <;> simp at hk
      exact ⟨by simp [Program.plainKey, hu], run_equalIn_bool n hu _ _⟩
  · split at h
    · rename_i hkk; subst hkk
      injection h with h; subst h
      simp only [RelV] at hx hy; subst hx; subst hy
      cases hu : P.underlying t with
      | none => rw [hu] at hk; exact hk.elim
      | some d =>
        rw [hu] at hk
        cases d <;> simp at hk
        exact ⟨by simp [Program.plainKey, hu], run_equalIn_int w n t _ _ _ _ hu⟩
    · cases h
  · injection h with h; subst h
    simp only [RelV] at hx hy; subst hx; subst hy
    cases hu : P.underlying t with
    | none => rw [hu] at hk; exact hk.elim
    | some d =>
      rw [hu] at hk
      cases d <;> simp at hk
      refine ⟨by simp [Program.plainKey, hu], ?_⟩
      rw [run_equalIn_string w n t _ _ hu]
      simp [ByteArray.toList_eq]
  · cases h

theorem eqKinds_cons {o : Nat} {f : Field} {r : List Field} {ks : List Nat} (h : eqKinds P o (f :: r) = some ks) : ∃ k l, ks = k :: l ∧ f.offset = o ∧ f.name ≠ "_" ∧ eqKinds P (o + 1) r = some l ∧ (match P.underlying f.type with | some .bool => k = 0 | some (.int _) => k = 1 | some .string => k = 2 | _ => False) := by
  simp only [eqKinds] at h
  split at h
  · rename_i hc
    split at h
    · rename_i l hu hl
      injection h with h; subst h
      exact ⟨0, l, rfl, hc.1, hc.2, hl, by rw [hu]⟩
    · rename_i q l hu hl
      injection h with h; subst h
      exact ⟨1, l, rfl, hc.1, hc.2, hl, by rw [hu]⟩
    · rename_i l hu hl
      injection h with h; subst h
      exact ⟨2, l, rfl, hc.1, hc.2, hl, by rw [hu]⟩
    · cases h
  · cases h

theorem eqFields_ok (d : Nat) {us vs : Array Value} : ∀ {fs : List Field} {o : Nat} {ks : List Nat} {xs ys : List AV} {b : Bool}, eqKinds P o fs = some ks → RelL ρ xs (us.toList.drop o) → RelL ρ ys (vs.toList.drop o) → eqCells ks xs ys = some b → (Op.eqFields (d + 1) us vs fs).run P w = .ok b w
  | [], o, ks, xs, ys, b, hk, hx, hy, h => by
    simp only [eqKinds] at hk; injection hk with hk; subst hk
    simp only [eqCells] at h; injection h with h; subst h
    simp [Op.eqFields]
  | f :: fs, o, ks, xs, ys, b, hk, hx, hy, h => by
    obtain ⟨k, l, rfl, ho, hn, hl, hu⟩ := eqKinds_cons hk
    cases xs with
    | nil => simp [eqCells] at h
    | cons x xs =>
      cases ys with
      | nil => simp [eqCells] at h
      | cons y ys =>
        simp only [eqCells] at h
        split at h
        · rename_i p q hp hq
          injection h with h
          simp only [RelL] at hx hy
          obtain ⟨u, ur, hu1, _, hxu, hx'⟩ := hx
          obtain ⟨v, vr, hv1, _, hyv, hy'⟩ := hy
          have e1 : us[f.offset]? = some u := by
            have := congrArg (·[0]?) hu1
            simp only [List.getElem?_drop, List.getElem?_cons_zero] at this
            rw [ho]; simpa using this
          have e2 : vs[f.offset]? = some v := by
            have := congrArg (·[0]?) hv1
            simp only [List.getElem?_drop, List.getElem?_cons_zero] at this
            rw [ho]; simpa using this
          have hdu : us.toList.drop (o + 1) = ur := by
            rw [← List.drop_drop, hu1]; rfl
          have hdv : vs.toList.drop (o + 1) = vr := by
            rw [← List.drop_drop, hv1]; rfl
          obtain ⟨hpk, hr⟩ := eqCell_ok (w := w) d hp hu hxu hyv
          have ih := eqFields_ok d hl (hdu ▸ hx') (hdv ▸ hy') hq
          simp only [Op.eqFields, hn, ne_eq, not_false_eq_true, if_true, Sem.run_bind, run_part_plain w hpk e1, run_part_plain w hpk e2, hr, Result.andThen_ok]
          cases p
          · simp at h; subst h; simp
          · simp at h; subst h; simpa using ih
        · cases h

theorem ok_eqs {t : TypeId} {fs : Array Field} {ks : List Nat} {neg b : Bool} {xs ys : List AV} {vx vy : Value} {ox oy : Operand} (hS : RelS ρ s w) (ht : P.underlying t = some (.struct fs)) (hg : P.eqGuardType P.depth t = false) (hsi : P.stoodInHeld t = false) (hk : eqKinds P 0 fs.toList = some ks)
    (hx : RelV ρ (.agg xs) vx) (hy : RelV ρ (.agg ys) vy) (h : eqCells ks xs ys = some b) :
    OpOk P ρ s w (do eqGuard (if neg then .neq else .eql) t ox oy vx vy; binOp (if neg then .neq else .eql) t vx vy) (.bool (if neg then !b else b)) s := by
  simp only [RelV] at hx hy
  obtain ⟨us, rfl, hu⟩ := hx
  obtain ⟨vs, rfl, hv⟩ := hy
  refine OpOk.same hS (val := .bool (if neg then !b else b)) ?_ (by simp [RelV])
  have hf : P.underlying t = some (.struct (P.fieldsOf t)) := by rw [ht]; simp [Program.fieldsOf, ht]
  have hfs : P.fieldsOf t = fs := by simp [Program.fieldsOf, ht]
  have he : (Op.equalIn 10000 t (.agg us) (.agg vs)).run P w = .ok b w := by
    rw [run_equalIn_struct w 9999 t us vs hf hsi, hfs]
    exact eqFields_ok 9998 hk (by simpa using hu) (by simpa using hv) h
  cases neg
  · simp only [Sem.run_bind, Bool.false_eq_true, if_false, run_eqGuard_agg w _ t ox oy us vs hg, Result.andThen_ok, run_eql_struct, he]
  · simp only [Sem.run_bind, if_true, run_eqGuard_agg w _ t ox oy us vs hg, Result.andThen_ok, run_neq_struct, he]

theorem ok_un {op : UnOp} {x : AV} {vx : Value} (hS : RelS ρ s w) (hx : RelV ρ x vx) (h : unA op x = some v) : OpOk P ρ s w (Op.unary op vx) v s := by
  unfold unA at h
  split at h
  · injection h with h; subst h
    simp only [RelV] at hx; subst hx
    exact OpOk.same hS (by simp [Op.unary]; rfl) (by simp [RelV])
  · injection h with h; subst h
    simp only [RelV] at hx; subst hx
    exact OpOk.same hS (by simp [Op.unary, Op.intArith]; rfl) (by simp [RelV])
  · simp only [RelV] at hx; subst hx
    simp only [binInt] at h
    injection h with h; subst h
    exact OpOk.same hS (by simp [Op.unary, Op.intBits]; rfl) (by simp [RelV])
  · cases h

theorem ok_conv {src dst : TypeId} {d : TypeDesc} {k k' : IntKind} {n : Int} {vx : Value} (hS : RelS ρ s w) (hs : P.underlying src = some d) (hd : P.underlying dst = some (.int k)) (hx : RelV ρ (.int k' n) vx) :
    OpOk P ρ s w (convert src dst vx) (.int k (k.wrap n)) s := by
  simp only [RelV] at hx; subst hx
  exact OpOk.same hS (by simp [convert, run_underlying hs, run_underlying hd, Conv.intToInt]; rfl) (by simp [RelV])
theorem ok_convS {src dst : TypeId} {b : List UInt8} {vx : Value} (hS : RelS ρ s w) (hs : P.underlying src = some .string) (hd : P.underlying dst = some .string) (hx : RelV ρ (.str b) vx) :
    OpOk P ρ s w (convert src dst vx) (.str b) s := by
  simp only [RelV] at hx; subst hx
  exact OpOk.same hS (by simp [convert, run_underlying hs, run_underlying hd]; rfl) (by simp [RelV])

theorem flat_sing {α β : Type} (f : α → β) : ∀ (b : List α), (b.map fun c => [f c]).flatten = b.map f
  | [] => rfl
  | x :: b => by simp [flat_sing f b]

theorem ok_bytes {src dst e : TypeId} {b : List UInt8} {vx : Value} (hS : RelS ρ s w) (hs : P.underlying src = some .string) (hd : P.underlying dst = some (.slice e)) (he : P.underlying e = some (.int .u8)) (hx : RelV ρ (.str b) vx) :
    OpOk P ρ s w (convert src dst vx) (.sl (b.map fun c => [.int .u8 c.toNat])) s := by
  simp only [RelV] at hx; subst hx
  have hr := run_bytes_of_string (P := P) w src dst e ⟨b.toArray⟩ hs hd he
  generalize hcap : grownCap w (⟨b.toArray⟩ : ByteArray).size 0 e = cap at hr
  have hge : b.length ≤ cap := by
    have := grownCap_ge w (⟨b.toArray⟩ : ByteArray).size 0 e
    rw [hcap] at this
    simpa [ByteArray.size] using this
  have hn : ∀ o, ρ.im w.heap.size o = none := fun o => by
    cases hv : ρ.im w.heap.size o with
    | none => rfl
    | some v => have := hS.im_lt hv; omega
  have hold' : ∀ (o : Obj) k, k < w.heap.size → (w.drew.alloc o).heap[k]? = w.heap[k]? := fun o k hk => hold w.drew o k hk
  refine ⟨_, _, ρ.fix w.heap.size (b.map fun c => .int .u8 c.toNat), hr, Le.fix _ hn, ?_, hS.fix _ _ (Nat.le_refl _) (fun k hk => hold' _ k hk) (fun o v hv => ?_), Keeps.fix _ _ (Nat.le_refl _) rfl rfl rfl (by simp) (fun k hk => hold' _ k hk)⟩
  · simp only [RelV]
    refine ⟨_, _, _, rfl, by simp [ByteArray.size], by simpa [ByteArray.size] using hge, .inr ⟨w.heap.size, 0, 1, rfl, ?_⟩⟩
    refine RelR_flat (us := b.map fun c => .int .u8 c.toNat) (by simp) ?_ (fun j u hu => by simp only [Ro.fix, if_true, Nat.zero_add]; exact hu)
    rw [RelL_iff]
    have hfl : (b.map fun c => [AV.int .u8 c.toNat]).flatten = b.map fun c => AV.int .u8 c.toNat := flat_sing _ b
    rw [hfl]
    refine ⟨by simp, fun i x u hx hu => ?_⟩
    simp only [List.getElem?_map, Option.map_eq_some_iff] at hx hu
    obtain ⟨c, h1, rfl⟩ := hx
    obtain ⟨c', h2, rfl⟩ := hu
    rw [h1] at h2; injection h2 with h2; subst h2
    simp [RelV, Value.oneCell']
  · have hb := hnew w.drew (.cells (bytesRow ⟨b.toArray⟩ cap) e ((bytesRow ⟨b.toArray⟩ cap).size, (bytesRow ⟨b.toArray⟩ cap).size + 1))
    have hb' : (w.drew.alloc (.cells (bytesRow ⟨b.toArray⟩ cap) e ((bytesRow ⟨b.toArray⟩ cap).size, (bytesRow ⟨b.toArray⟩ cap).size + 1))).heap[w.heap.size]? = some (.cells (bytesRow ⟨b.toArray⟩ cap) e ((bytesRow ⟨b.toArray⟩ cap).size, (bytesRow ⟨b.toArray⟩ cap).size + 1)) := hb
    rw [cell_of_row _ _ _ _ _ _ hb']
    have ho : o < b.length := by have := (List.getElem?_eq_some_iff.1 hv).1; simpa using this
    simp only [bytesRow]
    rw [Array.getElem?_append_left (by simpa using ho)]
    simpa using hv

theorem ok_mkif {t : TypeId} {d : TypeDesc} {x : AV} {vx : Value} (hS : RelS ρ s w) (ht : P.underlying t = some d) (hd : ∀ ms, d ≠ .interface ms) (hx : RelV ρ x vx) : OpOk P ρ s w (Instr.makeInterface t vx) (.ifc t x) s := by
  refine OpOk.same hS (val := .iface t vx) ?_ (by simp only [RelV]; exact ⟨vx, rfl, hx⟩)
  simp only [Instr.makeInterface, Sem.run_bind, run_underlying ht, Result.andThen_ok]
  cases d <;> first | rfl | exact absurd rfl (hd _)

theorem compXs_ok {fr : Fr} {a : Act} (hF : RelF ρ fr a.tmps) : ∀ {l : List Operand} {xs : List X}, chainO compX l = some xs → RelT ρ (evs (ev fr) xs) (l.map a.eval)
  | [], xs, h => by simp [chainO] at h; subst h; simp [evs, RelT]
  | x :: l, xs, h => by
    simp only [chainO] at h
    split at h
    · rename_i y hy
      split at h
      · rename_i ys hys
        injection h with h; subst h
        simp only [evs, List.map_cons, RelT]
        exact ⟨_, _, rfl, compX_ok hF hy, compXs_ok hF hys⟩
      · cases h
    · cases h

theorem ok_slice_str {t : TypeId} {b : List UInt8} {lo hi : Option Value} {l h : Nat} {vx : Value} (hS : RelS ρ s w) (ht : P.underlying t = some .string) (hx : RelV ρ (.str b) vx)
    (hl : match lo with | none => l = 0 | some u => ∃ k, u = .int k l) (hh : match hi with | none => h = b.length | some u => ∃ k, u = .int k h) (h1 : l ≤ h) (h2 : h ≤ b.length) :
    OpOk P ρ s w (Instr.slice t vx lo hi none) (.str ((b.take h).drop l)) s := by
  simp only [RelV] at hx; subst hx
  have hsz : (⟨b.toArray⟩ : ByteArray).size = b.length := by simp [ByteArray.size]
  refine OpOk.same hS (val := .string ⟨((b.take h).drop l).toArray⟩) ?_ (by simp [RelV])
  have hext : (⟨b.toArray⟩ : ByteArray).extract l h = ⟨((b.take h).drop l).toArray⟩ := by
    apply ByteArray.ext
    rw [ByteArray.data_extract]
    simp [List.drop_take]
  have hb : (Instr.sliceBounds false (⟨b.toArray⟩ : ByteArray).size (⟨b.toArray⟩ : ByteArray).size lo hi none).run P w = .ok (l, h, b.length) w := by
    unfold Instr.sliceBounds
    rw [hsz]
    cases lo with
    | none =>
      cases hi with
      | none => simp at hl hh; subst hl; subst hh; simp
      | some u => simp at hl hh; obtain ⟨k, rfl⟩ := hh; subst hl; simp [Instr.sliceBound, asIntOf, h2]
    | some u =>
      obtain ⟨k, rfl⟩ := hl
      cases hi with
      | none => simp at hh; subst hh; simp [Instr.sliceBound, asIntOf, h1]
      | some u => obtain ⟨k', rfl⟩ := hh; simp [Instr.sliceBound, asIntOf, h1, h2]
  simp [Instr.slice, run_underlying ht, hb, hext]
end
end Go.Ab
