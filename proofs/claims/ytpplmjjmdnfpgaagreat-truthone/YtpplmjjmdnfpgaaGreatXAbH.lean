import Derived.Test.YtpplmjjmdnfpgaaGreatXAbG
import Derived.IntWalk
namespace Go.Ab

section
variable {P : Program} {ρ : Ro} {s s' : St} {w : World} {v : AV}

theorem run_szOf {e sz : Nat} (he : szOf P e = some sz) : (sizeOf e).run P w = .ok sz w := by
  simp only [szOf, Option.map_eq_some_iff] at he
  obtain ⟨i, hi, he⟩ := he
  simp [sizeOf, typeInfo, program, Sem.run, hi, he]

theorem run_part {t : TypeId} {n : Option Nat} {cells : List AV} {cs : Array Value} {off : Nat} (ht : partOf P t = some n) (hR : RelL ρ cells cs.toList) (hp : pickC cells off n = some v) :
    ∃ val, (part t cs off).run P w = .ok val w ∧ RelV ρ v val := by
  unfold partOf at ht
  cases n with
  | none =>
    simp only [pickC] at hp
    have hx : cells[off]? = some v := by
      split at hp
      · cases hp
      · rename_i hx; injection hp with hp; rw [hx, hp]
      · cases hp
    obtain ⟨u, hu, _, hv⟩ := hR.get hx
    refine ⟨u, ?_, hv⟩
    split at ht
    · simp at ht
    · simp at ht
    · rename_i d hd1 hd2 hd
      have : (isAgg t).run P w = .ok false w := by
        unfold isAgg
        simp only [Sem.run_bind, run_underlying hd, Result.andThen_ok]
        cases d <;> first | rfl | exact (hd1 _ rfl).elim | exact (hd2 _ _ rfl).elim
      have hu' : cs[off]? = some u := by simpa using hu
      simp [part, this, hu']
    · cases ht
  | some k =>
    simp only [pickC] at hp
    split at hp
    · rename_i hk
      injection hp with hp
      have hsz : (isAgg t).run P w = .ok true w ∧ (sizeOf t).run P w = .ok k w := by
        split at ht
        · rename_i fs hd
          simp only [Option.map_eq_some_iff] at ht
          obtain ⟨i, hi, he⟩ := ht
          injection he with he
          exact ⟨by simp [isAgg, run_underlying hd], by simp [sizeOf, typeInfo, program, Sem.run, hi, he]⟩
        · rename_i a b hd
          simp only [Option.map_eq_some_iff] at ht
          obtain ⟨i, hi, he⟩ := ht
          injection he with he
          exact ⟨by simp [isAgg, run_underlying hd], by simp [sizeOf, typeInfo, program, Sem.run, hi, he]⟩
        · simp at ht
        · cases ht
      refine ⟨.agg (cs.extract off (off + k)), by simp [part, hsz.1, hsz.2], ?_⟩
      subst hp
      simp only [RelV]
      refine ⟨_, rfl, ?_⟩
      have := (hR.drop off).take k
      have e1 : (cs.extract off (off + k)).toList = (cs.toList.drop off).take k := by
        rw [Array.toList_extract]
        simp [List.extract_eq_take_drop]
      rwa [e1]
    · cases hp

theorem ok_faddr {st f : Nat} {fs : Array Field} {fd : Field} {sz : Nat} {x : AV} {vx : Value} (hS : RelS ρ s w) (ht : P.underlying st = some (.struct fs)) (hf : fs[f]? = some fd) (hsz : szOf P fd.type = some (sz + 1)) (hx : RelV ρ x vx) :
    (∀ r o, x = .ptr r o → OpOk P ρ s w (Instr.fieldAt st vx f) (.ptr r (o + fd.offset)) s) ∧ (∀ r n i o, x = .eptr r n i o → OpOk P ρ s w (Instr.fieldAt st vx f) (.eptr r n i (o + fd.offset)) s) ∧ (∀ c, x = .row c → OpOk P ρ s w (Instr.fieldAt st vx f) (.row (c.drop fd.offset)) s) := by
  have hso := run_szOf (w := w) hsz
  have hrun : ∀ a : Addr, (Instr.fieldAt st (.pointer (some a)) f).run P w = .ok (.pointer (some (a.add fd.offset))) w := by
    intro a
    simp [Instr.fieldAt, run_underlying ht, hf, Instr.sureAddr, fieldPlace, hso]
  refine ⟨fun r o h => ?_, fun r n i o h => ?_, fun c h => ?_⟩ <;> subst h <;> simp only [RelV] at hx
  · obtain ⟨e, h1, h2, rfl⟩ := hx
    exact OpOk.same hS (hrun _) (by simp only [RelV]; exact ⟨e, h1, h2, by rw [add_none]⟩)
  · obtain ⟨e, a, h1, h2, h3, rfl, h4⟩ := hx
    refine OpOk.same hS (hrun _) ?_
    simp only [RelV]
    refine ⟨e, _, h1, h2, h3, rfl, fun hn => ?_⟩
    rw [h4 hn, add_none, Nat.add_assoc]
  · obtain ⟨b, o, rfl, h1⟩ := hx
    refine OpOk.same hS (hrun _) ?_
    simp only [RelV]
    exact ⟨b, o + fd.offset, by rw [add_none], h1.drop _⟩

theorem ok_fld {st f : Nat} {fs : Array Field} {fd : Field} {n : Option Nat} {c : List AV} {vx : Value} (hS : RelS ρ s w) (ht : P.underlying st = some (.struct fs)) (hf : fs[f]? = some fd) (hn : partOf P fd.type = some n) (hx : RelV ρ (.agg c) vx) (h : pickC c fd.offset n = some v) :
    OpOk P ρ s w (Instr.field st vx f) v s := by
  simp only [RelV] at hx
  obtain ⟨cs, rfl, h1⟩ := hx
  obtain ⟨val, h2, h3⟩ := run_part (w := w) hn h1 h
  exact OpOk.same hS (by simp [Instr.field, run_underlying ht, hf, asAgg, h2]) h3

theorem ok_iaddr_sl {t e : Nat} {k : Int} {q : IntKind} {vx : Value} {rows : List (List AV)} {r : List AV} (hS : RelS ρ s w) (ht : P.underlying t = some (.slice e)) (he : szOf P e = some r.length) (hx : RelV ρ (.sl rows) vx) (hk : 0 ≤ k) (hr : rows[k.toNat]? = some r) :
    OpOk P ρ s w (Instr.indexAt t vx (.int q k)) (.row r) s := by
  have hso := run_szOf (w := w) he
  simp only [RelV] at hx
  obtain ⟨A, n, cap, rfl, rfl, h3, h4⟩ := hx
  have hlt := (List.getElem?_eq_some_iff.1 hr).1
  rcases h4 with rfl | ⟨b, o, sz', rfl, h6⟩
  · simp at hr
  · have h7 := RelR_iff.1 h6 _ r hr
    obtain rfl : sz' = r.length := by omega
    refine OpOk.same hS (val := .pointer (some ((⟨b, o, none⟩ : Addr).add (k.toNat * r.length)))) ?_ ?_
    · have : 0 ≤ k ∧ k < (rows.length : Int) := ⟨hk, by omega⟩
      simp [Instr.indexAt, asIntOf, run_underlying ht, hso, this]
    · simp only [RelV]
      exact ⟨b, o + k.toNat * r.length, by rw [add_none], h7.2⟩
theorem ok_iaddr_own {t e sz r e0 byt : Nat} {k : Int} {q : IntKind} {vx : Value} {rows : List (List AV)} (hS : RelS ρ s w) (ht : P.underlying t = some (.slice e)) (he : szOf P e = some sz) (hx : RelV ρ (.own r rows.length) vx) (hk : 0 ≤ k) (hr : s[r]? = some (.row e0 sz byt rows)) (hlt : k < rows.length) :
    OpOk P ρ s w (Instr.indexAt t vx (.int q k)) (.eptr r rows.length k.toNat 0) s := by
  have hso := run_szOf (w := w) he
  obtain ⟨e1, vals, k1, k2, k3, k4, k5, k6, rfl, k7, _⟩ := own_now hS hr hx
  refine OpOk.same hS (val := .pointer (some ((⟨e1.g, 0, none⟩ : Addr).add (k.toNat * sz)))) ?_ ?_
  · have : 0 ≤ k ∧ k < (rows.length : Int) := ⟨hk, hlt⟩
    simp [Instr.indexAt, asIntOf, run_underlying ht, hso, this]
  · simp only [RelV]
    exact ⟨e1, _, k1, k2, by omega, rfl, fun _ => by rw [add_none, k4]; simp⟩

theorem ok_iaddrA {t e len sz : Nat} {x : AV} {k : Int} {q : IntKind} {vx : Value} (hS : RelS ρ s w) (ht : P.underlying t = some (.array len e)) (he : szOf P e = some sz) (hx : RelV ρ x vx) (hk : 0 ≤ k ∧ k < len) :
    (∀ r o, x = .ptr r o → OpOk P ρ s w (Instr.indexAt t vx (.int q k)) (.ptr r (o + k.toNat * sz)) s) ∧ (∀ c, x = .row c → OpOk P ρ s w (Instr.indexAt t vx (.int q k)) (.row (c.drop (k.toNat * sz))) s) := by
  have hso := run_szOf (w := w) he
  have hrun : ∀ a : Addr, (Instr.indexAt t (.pointer (some a)) (.int q k)).run P w = .ok (.pointer (some (a.add (k.toNat * sz)))) w := by
    intro a
    simp [Instr.indexAt, asIntOf, run_underlying ht, Instr.sureAddr, hso, hk]
  refine ⟨fun r o h => ?_, fun c h => ?_⟩ <;> subst h <;> simp only [RelV] at hx
  · obtain ⟨e1, h1, h2, rfl⟩ := hx
    exact OpOk.same hS (hrun _) (by simp only [RelV]; exact ⟨e1, h1, h2, by rw [add_none]⟩)
  · obtain ⟨b, o, rfl, h1⟩ := hx
    refine OpOk.same hS (hrun _) ?_
    simp only [RelV]
    exact ⟨b, o + k.toNat * sz, by rw [add_none], h1.drop _⟩

theorem ok_idxS {t : TypeId} {b : List UInt8} {c : UInt8} {k : Int} {q : IntKind} {vx : Value} (hS : RelS ρ s w) (ht : P.underlying t = some .string) (hx : RelV ρ (.str b) vx) (hk : 0 ≤ k) (hc : b[k.toNat]? = some c) :
    OpOk P ρ s w (Instr.index t vx (.int q k)) (.int .u8 c.toNat) s := by
  simp only [RelV] at hx; subst hx
  have hg : (⟨b.toArray⟩ : ByteArray)[k.toNat]? = some c := by
    have hlt := (List.getElem?_eq_some_iff.1 hc)
    have hsz : k.toNat < (⟨b.toArray⟩ : ByteArray).size := by simpa [ByteArray.size] using hlt.1
    rw [getElem?_pos (⟨b.toArray⟩ : ByteArray) k.toNat hsz]
    congr 1
    exact hlt.2
  exact OpOk.same hS (val := .int .u8 c.toNat) (by simp [Instr.index, asIntOf, run_underlying ht, hk, hg]) (by simp [RelV])

theorem ok_idxA {t e len sz : Nat} {n : Option Nat} {c : List AV} {k : Int} {q : IntKind} {vx : Value} (hS : RelS ρ s w) (ht : P.underlying t = some (.array len e)) (he : szOf P e = some sz) (hn : partOf P e = some n) (hx : RelV ρ (.agg c) vx) (hk : 0 ≤ k ∧ k < len) (h : pickC c (k.toNat * sz) n = some v) :
    OpOk P ρ s w (Instr.index t vx (.int q k)) v s := by
  simp only [RelV] at hx
  obtain ⟨cs, rfl, h1⟩ := hx
  obtain ⟨val, h2, h3⟩ := run_part (w := w) hn h1 h
  exact OpOk.same hS (by simp [Instr.index, asIntOf, run_underlying ht, run_szOf (w := w) he, hk, h2]) h3

theorem ok_ext {i : Nat} {vs : List AV} {vx : Value} (hS : RelS ρ s w) (hx : RelV ρ (.tup vs) vx) (h : vs[i]? = some v) : OpOk P ρ s w (Instr.extract vx i) v s := by
  simp only [RelV] at hx
  obtain ⟨cs, rfl, h1⟩ := hx
  obtain ⟨u, hu, hv⟩ := h1.get h
  have hu' : cs[i]? = some u := by simpa using hu
  exact OpOk.same hS (by simp [Instr.extract, hu']) hv

theorem ok_lenS {t ty : Nat} {b : List UInt8} {vx : Value} (hS : RelS ρ s w) (ht : P.underlying t = some .string) (hx : RelV ρ (.str b) vx) : OpOk P ρ s w (Builtin.len_ #[t] ty #[vx]) (.int .i64 b.length) s := by
  simp only [RelV] at hx; subst hx
  have hsz : (⟨b.toArray⟩ : ByteArray).size = b.length := by simp [ByteArray.size]
  exact OpOk.same hS (val := .int .i64 b.length) (by simp [Builtin.len_, run_underlying ht, goInt, hsz]) (by simp [RelV])
theorem ok_len {t ty n e : Nat} {x : AV} {vx : Value} (hS : RelS ρ s w) (ht : P.underlying t = some (.slice e)) (hx : RelV ρ x vx) (hns : ∀ b, x ≠ .str b) (h : lenA s x = some n) :
    OpOk P ρ s w (Builtin.len_ #[t] ty #[vx]) (.int .i64 n) s := by
  have hfin : ∀ A c, vx = .slice A n c → OpOk P ρ s w (Builtin.len_ #[t] ty #[vx]) (.int .i64 n) s := by
    rintro A c rfl
    exact OpOk.same hS (by simp [Builtin.len_, run_underlying ht, goInt]; rfl) (by simp [RelV])
  unfold lenA at h
  split at h
  · exact absurd rfl (hns _)
  · rename_i rows
    injection h with h; subst h
    simp only [RelV] at hx
    obtain ⟨A, n, cap, h1, rfl, _⟩ := hx
    exact hfin _ _ h1
  · injection h with h; subst h
    simp only [RelV] at hx
    exact hfin _ _ hx
  · split at h
    · rename_i hr
      split at h
      · rename_i hn
        injection h with h; subst h
        simp only [RelV] at hx
        obtain ⟨e, A, c, _, _, _, h1, _⟩ := hx
        exact hfin _ _ h1
      · cases h
    · cases h
  · cases h

theorem run_minmax {mx : Bool} : ∀ {l : List AV} {us : List Value} {x : AV} {u : Value}, RelV ρ x u → RelT ρ l us → minmaxA mx x l = some v →
    ∃ val, (us.foldlM (if mx then Builtin.max2 else Builtin.min2) u).run P w = .ok val w ∧ RelV ρ v val
  | [], us, x, u, hx, hl, h => by
    simp only [RelT] at hl; subst hl
    simp only [minmaxA] at h
    injection h with h; subst h
    exact ⟨u, by simp, hx⟩
  | y :: l, us, x, u, hx, hl, h => by
    simp only [RelT] at hl
    obtain ⟨u1, ur, rfl, hy, hl⟩ := hl
    unfold minmaxA at h
    split at h
    · rename_i h1; cases h1
    · rename_i k a k' b r h1
      injection h1 with h1 h2
      subst h1; subst h2
      split at h
      · rename_i hk
        subst hk
        simp only [RelV] at hx hy
        subst hx; subst hy
        have hr : ((if mx then Builtin.max2 else Builtin.min2) (.int k a) (.int k b)).run P w = .ok (.int k (if mx then (if b > a then b else a) else (if b < a then b else a))) w := by
          cases mx <;> simp [Builtin.max2, Builtin.min2]
        obtain ⟨val, h3, h4⟩ := run_minmax (u := .int k (if mx then (if b > a then b else a) else (if b < a then b else a))) (by simp [RelV]) hl h
        exact ⟨val, by simp only [List.foldlM_cons, Sem.run_bind, hr, Result.andThen_ok, h3], h4⟩
      · cases h
    · cases h

theorem ok_mkslice {t e : TypeId} {i : TypeInfo} {z : List AV} {n : Int} {q q' : IntKind} (hS : RelS ρ s w) (ht : P.underlying t = some (.slice e)) (hi : P.info? e = some i) (hz : zeroOf P e = some z) (h0 : 0 < i.size) (hn : 0 ≤ n) (hl : z.length = i.size) (hroom : roomOk n.toNat i.bytes = true) :
    OpOk P ρ s w (Instr.makeSlice t (.int q n) (.int q' n)) (.own s.length n.toNat) (s ++ [.row e i.size i.bytes (List.replicate n.toNat z)]) := by
  obtain ⟨i', u, hi', hu', hR⟩ := zeroOf_ok (ρ := ρ) hz
  rw [hi] at hi'; injection hi' with hi'; subst hi'
  simp only [roomOk, Bool.and_eq_true, decide_eq_true_eq] at hroom
  have hwr : IntKind.i64.wrap n = n := by
    have h1 : n ≤ 140737488355328 := by omega
    exact IntWalk.i64_in _ (by omega)
  obtain ⟨ρ', h1, h2, h3, h4⟩ := ok_newrow (e := e) (byt := i.bytes) (rows := List.replicate n.toNat z) (len := n.toNat) (cells := (Array.range (n.toNat * i.size)).map (u.cells[· % u.cells.size]!)) hS h0 (RelL_rep hR hl h0) (by simp; intro _; exact hl) (by simp) (by simp only [maxLen]; omega)
  refine ⟨_, _, ρ', ?_, h1, h2, h3, h4⟩
  have hb : ¬ (281474976710656 < (i.bytes : Int) * n) := by
    have : (i.bytes : Int) * n = ((n.toNat * i.bytes : Nat) : Int) := by
      rw [Int.natCast_mul, Int.toNat_of_nonneg hn, Int.mul_comm]
    rw [this]
    omega
  have hneg : ¬ n < 0 := by omega
  by_cases hn0 : n.toNat * i.size = 0
  · have hn1 : n = 0 := by
      rcases Nat.mul_eq_zero.1 hn0 with h | h <;> omega
    subst hn1
    simp [Instr.makeSlice, run_underlying ht, asInt, asIntOf, typeInfo, sizeOf, hi, IntKind.wrap, IntKind.bits, IntKind.signed, askRoom, newRow]
    rw [show Array.range 0 = #[] from rfl, Array.map_empty, Array.map_empty]
  · simp [Instr.makeSlice, run_underlying ht, asInt, asIntOf, typeInfo, sizeOf, hi, hwr, hb, hneg, hn0, zeroValue, hu', askRoom, newRow, roomBytes]
end
end Go.Ab
