import Derived.Test.YtpplmjjmdnfpgaaGreatXAbV
import Derived.IntWalk
set_option linter.unusedVariables false
namespace Go.Ab

/-! ### the data that the statements speak of -/
def I64 (n : Int) : Prop := -9223372036854775808 ≤ n ∧ n ≤ 9223372036854775807
def U64 (n : Int) : Prop := 0 ≤ n ∧ n ≤ 18446744073709551615
def SLen (n : Nat) : Prop := n ≤ 9223372036854775807

structure GItem where
  name : List UInt8
  num : Int
  type : Int
  key : Bool
  rest : Bool
  deriving DecidableEq
def GItem.enc (x : GItem) : List AV := [.str x.name, .int .u64 x.num, .int .i64 x.type, .bool x.key, .bool x.rest]
def GItem.wf (x : GItem) : Prop := SLen x.name.length ∧ U64 x.num ∧ I64 x.type

structure GType where
  kind : Int
  name : List UInt8
  bound : Int
  of : Int
  tag : Int
  items : List GItem
  deriving DecidableEq
def GType.enc (x : GType) : List AV := [.int .i64 x.kind, .str x.name, .int .i64 x.bound, .int .i64 x.of, .int .i64 x.tag, .sl (x.items.map GItem.enc)]
def GType.wf (x : GType) : Prop := I64 x.kind ∧ SLen x.name.length ∧ I64 x.bound ∧ I64 x.of ∧ I64 x.tag ∧ SLen x.items.length ∧ ∀ i ∈ x.items, i.wf

structure GOp where
  kind : Int
  text : List UInt8
  neg : Bool
  num : Int
  deriving DecidableEq
def GOp.enc (x : GOp) : List AV := [.int .i64 x.kind, .str x.text, .bool x.neg, .int .u64 x.num]
def GOp.wf (x : GOp) : Prop := I64 x.kind ∧ SLen x.text.length ∧ U64 x.num

structure GDat where
  kind : Int
  neg : Bool
  num : Int
  text : List UInt8
  deriving DecidableEq
def GDat.enc (x : GDat) : List AV := [.int .i64 x.kind, .bool x.neg, .int .u64 x.num, .str x.text]
def GDat.wf (x : GDat) : Prop := I64 x.kind ∧ U64 x.num ∧ SLen x.text.length

structure GStep where
  elem : Bool
  n : Int
  deriving DecidableEq
def GStep.enc (x : GStep) : List AV := [.bool x.elem, .int .i64 x.n]
def GStep.wf (x : GStep) : Prop := I64 x.n

inductive GVal where
  | mk (kind num : Int) (text : List UInt8) (items : List GVal)
def GVal.kind : GVal → Int | .mk k _ _ _ => k
def GVal.num : GVal → Int | .mk _ n _ _ => n
def GVal.text : GVal → List UInt8 | .mk _ _ t _ => t
def GVal.items : GVal → List GVal | .mk _ _ _ i => i
mutual
def GVal.enc : GVal → List AV
  | .mk k n t is => [.int .i64 k, .int .u64 n, .str t, .sl (GVal.encs is)]
def GVal.encs : List GVal → List (List AV)
  | [] => []
  | v :: vs => v.enc :: GVal.encs vs
end
theorem GVal.encs_map : ∀ l : List GVal, GVal.encs l = l.map GVal.enc
  | [] => rfl
  | v :: vs => by simp [GVal.encs, GVal.encs_map vs]
theorem GVal.enc_eq (v : GVal) : v.enc = [.int .i64 v.kind, .int .u64 v.num, .str v.text, .sl (v.items.map GVal.enc)] := by
  cases v; simp [GVal.enc, GVal.encs_map, GVal.kind, GVal.num, GVal.text, GVal.items]
mutual
def GVal.wf : GVal → Prop
  | .mk k n t is => I64 k ∧ U64 n ∧ SLen t.length ∧ SLen is.length ∧ GVal.wfs is
def GVal.wfs : List GVal → Prop
  | [] => True
  | v :: vs => v.wf ∧ GVal.wfs vs
end
theorem GVal.wfs_iff : ∀ l : List GVal, GVal.wfs l ↔ ∀ v ∈ l, v.wf
  | [] => by simp [GVal.wfs]
  | v :: vs => by simp [GVal.wfs, GVal.wfs_iff vs]
mutual
theorem GVal.ind {p : GVal → Prop} (h : ∀ k n t is, (∀ v ∈ is, p v) → p (.mk k n t is)) : ∀ v, p v
  | .mk k n t is => h k n t is (GVal.inds h is)
theorem GVal.inds {p : GVal → Prop} (h : ∀ k n t is, (∀ v ∈ is, p v) → p (.mk k n t is)) : ∀ l : List GVal, ∀ v ∈ l, p v
  | [], v, hv => by simp at hv
  | x :: xs, v, hv => by
    rcases List.mem_cons.1 hv with e | hv
    · rw [e]; exact GVal.ind h x
    · exact GVal.inds h xs v hv
end

inductive GExpr where
  | mk (op rel : Int) (args : List GOp) (kids : List GExpr)
def GExpr.op : GExpr → Int | .mk k _ _ _ => k
def GExpr.rel : GExpr → Int | .mk _ n _ _ => n
def GExpr.args : GExpr → List GOp | .mk _ _ t _ => t
def GExpr.kids : GExpr → List GExpr | .mk _ _ _ i => i
mutual
def GExpr.enc : GExpr → List AV
  | .mk k n t is => [.int .i64 k, .int .i64 n, .sl (t.map GOp.enc), .sl (GExpr.encs is)]
def GExpr.encs : List GExpr → List (List AV)
  | [] => []
  | v :: vs => v.enc :: GExpr.encs vs
end
theorem GExpr.encs_map : ∀ l : List GExpr, GExpr.encs l = l.map GExpr.enc
  | [] => rfl
  | v :: vs => by simp [GExpr.encs, GExpr.encs_map vs]
theorem GExpr.enc_eq (v : GExpr) : v.enc = [.int .i64 v.op, .int .i64 v.rel, .sl (v.args.map GOp.enc), .sl (v.kids.map GExpr.enc)] := by
  cases v; simp [GExpr.enc, GExpr.encs_map, GExpr.op, GExpr.rel, GExpr.args, GExpr.kids]
mutual
def GExpr.wf : GExpr → Prop
  | .mk k n t is => I64 k ∧ I64 n ∧ SLen t.length ∧ (∀ x ∈ t, x.wf) ∧ SLen is.length ∧ GExpr.wfs is
def GExpr.wfs : List GExpr → Prop
  | [] => True
  | v :: vs => v.wf ∧ GExpr.wfs vs
end
theorem GExpr.wfs_iff : ∀ l : List GExpr, GExpr.wfs l ↔ ∀ v ∈ l, v.wf
  | [] => by simp [GExpr.wfs]
  | v :: vs => by simp [GExpr.wfs, GExpr.wfs_iff vs]
mutual
theorem GExpr.ind {p : GExpr → Prop} (h : ∀ k n t is, (∀ v ∈ is, p v) → p (.mk k n t is)) : ∀ v, p v
  | .mk k n t is => h k n t is (GExpr.inds h is)
theorem GExpr.inds {p : GExpr → Prop} (h : ∀ k n t is, (∀ v ∈ is, p v) → p (.mk k n t is)) : ∀ l : List GExpr, ∀ v ∈ l, p v
  | [], v, hv => by simp at hv
  | x :: xs, v, hv => by
    rcases List.mem_cons.1 hv with e | hv
    · rw [e]; exact GExpr.ind h x
    · exact GExpr.inds h xs v hv
end

/-! ### it is free -/
theorem freeR_map {α : Type} {f : α → List AV} (h : ∀ x, freeL (f x) = true) : ∀ l : List α, freeR (l.map f) = true
  | [] => rfl
  | x :: r => by simp [freeR, h x, freeR_map h r]
theorem GItem.free (x : GItem) : freeL x.enc = true := rfl
theorem GType.free (x : GType) : freeL x.enc = true := by simp [GType.enc, freeL, Go.Ab.free, freeR_map GItem.free]
theorem GOp.free (x : GOp) : freeL x.enc = true := rfl
theorem GDat.free (x : GDat) : freeL x.enc = true := rfl
theorem GStep.free (x : GStep) : freeL x.enc = true := rfl
mutual
theorem GVal.free : ∀ x : GVal, freeL x.enc = true
  | .mk k n t is => by simp [GVal.enc, freeL, Go.Ab.free, GVal.frees is]
theorem GVal.frees : ∀ l : List GVal, freeR (GVal.encs l) = true
  | [] => rfl
  | x :: r => by simp [GVal.encs, freeR, GVal.free x, GVal.frees r]
end
mutual
theorem GExpr.free : ∀ x : GExpr, freeL x.enc = true
  | .mk k n t is => by simp [GExpr.enc, freeL, Go.Ab.free, GExpr.frees is, freeR_map GOp.free]
theorem GExpr.frees : ∀ l : List GExpr, freeR (GExpr.encs l) = true
  | [] => rfl
  | x :: r => by simp [GExpr.encs, freeR, GExpr.free x, GExpr.frees r]
end

/-! ### from the readings of arguments -/
section
variable {H : Type} {P : Program}
def OkFs (P : Program) (n : Nat) : List TypeId → List (DataW H) → Prop
  | [], [] => True
  | t :: ts, x :: xs => OkD P n t x ∧ OkFs P n ts xs
  | _, _ => False
theorem OkFs.of {n : Nat} : ∀ {fs : List Field} {xs : List (DataW H)}, xs.length = fs.length → (∀ (i : Nat) f x, fs[i]? = some f → xs[i]? = some x → OkD P n f.type x) → OkFs P n (fs.map (·.type)) xs
  | [], [], _, _ => trivial
  | f :: fs, x :: xs, hl, h => ⟨h 0 f x rfl rfl, OkFs.of (by simpa using hl) fun i g y hg hy => h (i + 1) g y (by simpa using hg) (by simpa using hy)⟩
  | [], _ :: _, hl, _ => by simp at hl
  | _ :: _, [], hl, _ => by simp at hl
theorem OkD_struct {n : Nat} {t : TypeId} {d : DataW H} {fs : Array Field} (hu : P.underlying t = some (.struct fs)) (h : OkD P (n + 1) t d) : ∃ xs, d = .agg xs ∧ OkFs P n (fs.toList.map (·.type)) xs := by
  simp only [OkD, hu] at h
  obtain ⟨xs, rfl, hl, hx⟩ := h
  exact ⟨xs, rfl, OkFs.of hl hx⟩
theorem OkD_bool {n : Nat} {t : TypeId} {d : DataW H} (hu : P.underlying t = some .bool) (h : OkD P n t d) : ∃ b, cellsD d = [.bool b] := by
  cases n with
  | zero => simp [OkD] at h
  | succ n =>
    simp only [OkD, hu] at h
    obtain ⟨b, rfl⟩ := h
    exact ⟨b, rfl⟩
theorem OkD_i64 {n : Nat} {t : TypeId} {d : DataW H} (hu : P.underlying t = some (.int .i64)) (h : OkD P n t d) : ∃ x, cellsD d = [.int .i64 x] ∧ I64 x := by
  cases n with
  | zero => simp [OkD] at h
  | succ n =>
    simp only [OkD, hu] at h
    obtain ⟨x, rfl, hx⟩ := h
    refine ⟨x, rfl, ?_⟩
    simp only [Lit.wf, IntKind.min, IntKind.max, IntKind.signed, IntKind.bits, Bool.and_eq_true, decide_eq_true_eq] at hx
    simp at hx
    exact hx
theorem OkD_u64 {n : Nat} {t : TypeId} {d : DataW H} (hu : P.underlying t = some (.int .u64)) (h : OkD P n t d) : ∃ x, cellsD d = [.int .u64 x] ∧ U64 x := by
  cases n with
  | zero => simp [OkD] at h
  | succ n =>
    simp only [OkD, hu] at h
    obtain ⟨x, rfl, hx⟩ := h
    refine ⟨x, rfl, ?_⟩
    simp only [Lit.wf, IntKind.min, IntKind.max, IntKind.signed, IntKind.bits, Bool.and_eq_true, decide_eq_true_eq] at hx
    simp at hx
    exact hx
theorem OkD_str {n : Nat} {t : TypeId} {d : DataW H} (hu : P.underlying t = some .string) (h : OkD P n t d) : ∃ x, cellsD d = [.str x] ∧ SLen x.length := by
  cases n with
  | zero => simp [OkD] at h
  | succ n =>
    simp only [OkD, hu] at h
    obtain ⟨x, rfl, hx⟩ := h
    exact ⟨x, rfl, by simpa [SLen, maxLen] using hx⟩
theorem OkD_slice {n : Nat} {t e : TypeId} {d : DataW H} {α : Type} {enc : α → List AV} {wf : α → Prop} (hu : P.underlying t = some (.slice e))
    (dec : ∀ x : DataW H, OkD P n e x → ∃ y : α, cellsD x = enc y ∧ wf y) (h : OkD P (n + 1) t d) : ∃ ys : List α, cellsD d = [.sl (ys.map enc)] ∧ SLen ys.length ∧ ∀ y ∈ ys, wf y := by
  simp only [OkD, hu] at h
  rcases h with rfl | ⟨xs, zs, rfl, hl, hx⟩
  · exact ⟨[], rfl, by simp [SLen], by simp⟩
  · have : ∀ xs : List (DataW H), (∀ x ∈ xs, OkD P n e x) → ∃ ys : List α, cellsDs xs = ys.map enc ∧ ys.length = xs.length ∧ ∀ y ∈ ys, wf y := by
      intro xs
      induction xs with
      | nil => intro _; exact ⟨[], rfl, rfl, by simp⟩
      | cons x xs ih =>
        intro hx
        obtain ⟨y, h1, h2⟩ := dec x (hx x (by simp))
        obtain ⟨ys, h3, h4, h5⟩ := ih fun z hz => hx z (by simp [hz])
        refine ⟨y :: ys, by simp [cellsDs, h1, h3], by simp [h4], fun z hz => ?_⟩
        rcases List.mem_cons.1 hz with rfl | hz
        · exact h2
        · exact h5 z hz
    obtain ⟨ys, h1, h2, h3⟩ := this xs hx
    refine ⟨ys, by simp [cellsD, h1], ?_, h3⟩
    simp only [SLen]; rw [h2]; simpa [maxLen] using hl
theorem OkD_pos {n : Nat} {t : TypeId} {d : DataW H} (h : OkD P n t d) : ∃ m, n = m + 1 := by
  cases n with
  | zero => simp [OkD] at h
  | succ n => exact ⟨n, rfl⟩
end
end Go.Ab
