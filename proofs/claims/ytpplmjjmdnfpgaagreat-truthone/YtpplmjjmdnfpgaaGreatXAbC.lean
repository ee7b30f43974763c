import Derived.Test.YtpplmjjmdnfpgaaGreatXAbB
import Derived.ChangeKeysEq
import Derived.Laws.Cells
import Derived.Laws.CopyRow
import Derived.Laws.BytesString
import Derived.Laws.IdiomStrings
import Derived.WalkKit
namespace Go.Ab

/-! ### from the program's operations to ours -/
def ofC : Value → Option AV
  | .bool b => some (.bool b)
  | .int k n => some (.int k n)
  | .string s => some (.str s.data.toList)
  | .pointer none => some .nilp
  | .slice none 0 0 => some .nils
  | .nilFunc => some .nilf
  | .nilIface => some .nili
  | _ => none

def ofV : Value → Option AV
  | .agg cs => (chainO ofC cs.toList).map .agg
  | v => ofC v

def compX : Operand → Option X
  | .tmp t => some (.t t)
  | .const v => (ofV v).map .c
  | .func f => some (.c (.fn f [] []))
  | .global _ => none

def compO : Option Operand → Option (Option X)
  | none => some none
  | some x => (compX x).map some

def zeroOf (P : Program) (t : Nat) : Option (List AV) :=
  match P.info? t with
  | some i => match i.zero with
    | some z => chainO ofC z.cells.toList
    | none => none
  | none => none

/-- The part of a value: one cell, or so many. -/
def partOf (P : Program) (t : Nat) : Option (Option Nat) :=
  match P.underlying t with
  | some (.struct _) => (P.info? t).map fun i => some i.size
  | some (.array _ _) => (P.info? t).map fun i => some i.size
  | some _ => some none
  | none => none

def szOf (P : Program) (t : Nat) : Option Nat := (P.info? t).map (·.size)

def compParts (f : Nat → Option (Nat × Nat)) : List (Nat × Operand) → Option (List (Nat × Nat × X))
  | [] => some []
  | (i, x) :: r => match f i, compX x, compParts f r with
    | some (o, s), some y, some l => some ((o, s, y) :: l)
    | _, _, _ => none

/-- The kinds of a struct's cells, if all are scalars. -/
def eqKinds (P : Program) : Nat → List Field → Option (List Nat)
  | _, [] => some []
  | o, f :: r => if f.offset = o ∧ f.name ≠ "_" then match P.underlying f.type, eqKinds P (o + 1) r with
    | some .bool, some l => some (0 :: l)
    | some (.int _), some l => some (1 :: l)
    | some .string, some l => some (2 :: l)
    | _, _ => none else none

def compCall (P : Program) (c : Call) : Option SOp :=
  match c.callee, c.args.toList, c.argTypes.toList with
  | .builtin .len, [x], [t] => match P.underlying t, compX x with
    | some .string, some x => some (.len true x)
    | some (.slice _), some x => some (.len false x)
    | some (.array n _), some _ => some (.mov (.c (.int .i64 n)))
    | _, _ => none
  | .builtin .min, x :: xs, _ => match compX x, chainO compX xs with
    | some x, some xs => some (.minmax false x xs)
    | _, _ => none
  | .builtin .max, x :: xs, _ => match compX x, chainO compX xs with
    | some x, some xs => some (.minmax true x xs)
    | _, _ => none
  | .builtin .append, [x, y], [t, u] => match P.underlying t, P.underlying u, compX x, compX y with
    | some (.slice e), some (.slice _), some x, some y => match P.info? e with
      | some i => match i.zero with
        | some z => if z.cells.size = i.size ∧ 0 < i.size ∧ t = u then some (.append e i.size i.bytes x y) else none
        | none => none
      | none => none
    | _, _, _, _ => none
  | _, _, _ => none

def compOp (P : Program) (own : Bool) (o : Op) : Option SOp :=
  match o with
  | .move x => (compX x).map .mov
  | .assign x => (compX x).map .mov
  | .pick c a b => match compX c, compX a, compX b with
    | some c, some a, some b => some (.pick c a b)
    | _, _, _ => none
  | .alloc e => (zeroOf P e).map .alloc
  | .box _ x => (compX x).map .box
  | .build t parts => match P.underlying t, zeroOf P t with
    | some (.struct fs), some z => match fs.toList.mapM (fun f => (P.info? f.type).map fun i => (f.offset, i.size)) with
      | some places => (compParts (fun i => places.toArray[i]?) parts.toList).map (.build z)
      | none => none
    | some (.array _ e), some z => match P.info? e with
      | some ie => (compParts (fun i => some (i * ie.size, ie.size)) parts.toList).map (.build z)
      | none => none
    | _, _ => none
  | .buildSlice t len parts => match P.underlying t with
    | some (.slice e) => match P.info? e, zeroOf P e, chainO (fun (p : Nat × Operand) => (compX p.2).map fun x => (p.1, x)) parts.toList with
      | some i, some z, some ps => if z.length = i.size ∧ 0 < i.size ∧ 0 < len ∧ len * i.size ≤ 16777216 then
          some (if own then .litOwn e i.size i.bytes z len ps else .lit z len ps) else none
      | _, _, _ => none
    | _ => none
  | .load t a => match partOf P t, compX a with
    | some n, some a => some (.load n a)
    | _, _ => none
  | .store t a x => match szOf P t, compX a, compX x with
    | some n, some a, some x => some (.store n a x)
    | _, _, _ => none
  | .nilCheck x => (compX x).map .chk
  | .binOp op t x y _ => match P.underlying t, compX x, compX y with
    | some .bool, some x, some y => (match op with
      | .eql => some (.beq false x y)
      | .neq => some (.beq true x y)
      | _ => none)
    | some (.int _), some x, some y => some (.bin op x y)
    | some .string, some x, some y => some (.bin op x y)
    | some (.pointer _), some x, some (.c .nilp) => (match op with
      | .eql => some (.isNil false x)
      | .neq => some (.isNil true x)
      | _ => none)
    | some (.struct fs), some x, some y => if P.eqGuardType P.depth t = false ∧ P.stoodInHeld t = false then (match op with
      | .eql => (eqKinds P 0 fs.toList).map fun ks => .eqs false ks x y
      | .neq => (eqKinds P 0 fs.toList).map fun ks => .eqs true ks x y
      | _ => none) else none
    | _, _, _ => none
  | .unOp op _ x => (compX x).map (.un op)
  | .convert src dst x => match P.underlying src, P.underlying dst, compX x with
    | some (.int _), some (.int k), some x => some (.conv k x)
    | some .string, some .string, some x => some (.convS x)
    | some .string, some (.slice e), some x => (match P.underlying e with
      | some (.int .u8) => some (.bytes x)
      | _ => none)
    | some (.slice e), some .string, some x => (match P.underlying e, szOf P e with
      | some (.int .u8), some 1 => some (.strOf x)
      | _, _ => none)
    | _, _, _ => none
  | .makeInterface t x => match P.underlying t with
    | some (.interface _) => none
    | some _ => (compX x).map (.mkif t)
    | none => none
  | .makeFunc (.func f) a b => match chainO compX a.toList, chainO compX b.toList with
    | some a, some b => some (.mkfn f a b)
    | _, _ => none
  | .makeSlice t l c => match P.underlying t, compX l, compX c with
    | some (.slice e), some l, some c => match P.info? e, zeroOf P e with
      | some i, some z => if 0 < i.size then some (.mkslice e i.size i.bytes z l c) else none
      | _, _ => none
    | _, _, _ => none
  | .slice t x lo hi none => match P.underlying t, compX x, compO lo, compO hi with
    | some .string, some x, some lo, some hi => some (.slice 0 x lo hi)
    | some (.slice e), some x, some lo, some hi => match szOf P e with
      | some (s + 1) => some (.slice (s + 1) x lo hi)
      | _ => none
    | _, _, _, _ => none
  | .fieldAddr s x f => match P.underlying s, compX x with
    | some (.struct fs), some x => match fs[f]? with
      | some fd => match szOf P fd.type with
        | some (_ + 1) => some (.faddr fd.offset x)
        | _ => none
      | none => none
    | _, _ => none
  | .field s x f => match P.underlying s, compX x with
    | some (.struct fs), some x => match fs[f]? with
      | some fd => (partOf P fd.type).map fun n => .fld fd.offset n x
      | none => none
    | _, _ => none
  | .indexAddr t x i => match P.underlying t, compX x, compX i with
    | some (.slice e), some x, some i => (szOf P e).map fun s => .iaddr s x i
    | some (.array len e), some x, some i => (szOf P e).map fun s => .iaddrA len s x i
    | _, _, _ => none
  | .index t x i => match P.underlying t, compX x, compX i with
    | some .string, some x, some i => some (.idxS x i)
    | some (.array len e), some x, some i => match szOf P e, partOf P e with
      | some s, some n => some (.idxA len s n x i)
      | _, _ => none
    | _, _, _ => none
  | .extract x i => (compX x).map fun x => .ext x i
  | .call c => compCall P c
  | _ => none

def compSJ (P : Program) (own : Bool) (o : Op) : Option SJ :=
  match o with
  | .call ⟨.value (.func f), args, _⟩ => (chainO compX args.toList).map (.call f)
  | .call ⟨.value f, args, _⟩ => match compX f, chainO compX args.toList with
    | some f, some args => some (.callv f args)
    | _, _ => none
  | .panic x => (compX x).map .panic
  | o => (compOp P own o).map .op

/-! ### single facts -/
def OpOk (P : Program) (ρ : Ro) (s : St) (w : World) (m : Sem Value) (v : AV) (s' : St) : Prop :=
  ∃ val w' ρ', m.run P w = .ok val w' ∧ Le ρ ρ' ∧ RelV ρ' v val ∧ RelS ρ' s' w' ∧ Keeps ρ s w ρ' s' w'

theorem OpOk.same {P : Program} {ρ : Ro} {s : St} {w : World} {m : Sem Value} {v : AV} {val : Value} (hS : RelS ρ s w) (hr : m.run P w = .ok val w) (hv : RelV ρ v val) : OpOk P ρ s w m v s :=
  ⟨val, w, ρ, hr, Le.refl ρ, hv, hS, Keeps.refl ρ s w⟩

theorem chainO_spec {α β : Type} {f : α → Option β} : ∀ {l : List α} {l' : List β}, chainO f l = some l' → l'.length = l.length ∧ ∀ (i : Nat) x, l[i]? = some x → ∃ y, l'[i]? = some y ∧ f x = some y
  | [], l', h => by simp [chainO] at h; subst h; simp
  | x :: r, l', h => by
    simp only [chainO] at h
    split at h
    · rename_i y hy
      split at h
      · rename_i l hl
        injection h with h
        subst h
        obtain ⟨h1, h2⟩ := chainO_spec hl
        refine ⟨by simp [h1], fun i z hz => ?_⟩
        cases i with
        | zero => simp at hz; subst hz; exact ⟨y, rfl, hy⟩
        | succ i => simp at hz; simpa using h2 i z hz
      · cases h
    · cases h

theorem ofC_ok {ρ : Ro} {v : Value} {x : AV} (h : ofC v = some x) : v.oneCell' = true ∧ RelV ρ x v := by
  unfold ofC at h
  split at h <;> first | (injection h with h; subst h; simp [RelV, Value.oneCell']) | cases h

theorem RelL_ofC {ρ : Ro} : ∀ {us : List Value} {xs : List AV}, chainO ofC us = some xs → RelL ρ xs us
  | [], xs, h => by simp [chainO] at h; subst h; simp [RelL]
  | u :: us, xs, h => by
    simp only [chainO] at h
    split at h
    · rename_i y hy
      split at h
      · rename_i l hl
        injection h with h
        subst h
        simp only [RelL]
        exact ⟨u, us, rfl, (ofC_ok (ρ := ρ) hy).1, (ofC_ok hy).2, RelL_ofC hl⟩
      · cases h
    · cases h

theorem ofV_ok {ρ : Ro} {v : Value} {x : AV} (h : ofV v = some x) : RelV ρ x v := by
  unfold ofV at h
  split at h
  · rename_i cs
    simp only [Option.map_eq_some_iff] at h
    obtain ⟨l, hl, rfl⟩ := h
    simp only [RelV]
    exact ⟨cs, rfl, RelL_ofC hl⟩
  · exact (ofC_ok h).2

theorem compX_ok {ρ : Ro} {fr : Fr} {a : Act} {x : Operand} {y : X} (hF : RelF ρ fr a.tmps) (h : compX x = some y) : RelV ρ (ev fr y) (a.eval x) := by
  unfold compX at h
  split at h
  · injection h with h; subst h; exact hF.at_ _
  · simp only [Option.map_eq_some_iff] at h
    obtain ⟨z, hz, rfl⟩ := h
    exact ofV_ok hz
  · injection h with h; subst h
    simp only [ev, RelV, Act.eval]
    exact ⟨#[], #[], rfl, by simp [RelT], by simp [RelT]⟩
  · cases h

theorem cells_ok {ρ : Ro} {x : AV} {v : Value} {cs : List AV} (h : x.cells? = some cs) (hv : RelV ρ x v) : RelL ρ cs v.cells.toList := by
  have one : ∀ {y : AV}, y = x → v.oneCell' = true → v.cells = #[v] → RelL ρ [y] v.cells.toList := by
    intro y hy h1 h2
    subst hy
    rw [h2]
    simp only [RelL]
    exact ⟨v, [], rfl, h1, hv, rfl⟩
  unfold AV.cells? at h
  split at h
  · injection h with h; subst h
    simp only [RelV] at hv
    obtain ⟨c, rfl, h2⟩ := hv
    exact h2
  · cases h
  · cases h
  · injection h with h; subst h
    rename_i h1 h2 h3
    cases x <;> simp only [RelV] at hv
    case any => exact absurd rfl h2
    case agg => exact absurd rfl (h1 _)
    case tup => exact absurd rfl (h3 _)
    case bool => subst hv; exact one rfl rfl rfl
    case int => subst hv; exact one rfl rfl rfl
    case str => subst hv; exact one rfl rfl rfl
    case nilp => subst hv; exact one rfl rfl rfl
    case nils => subst hv; exact one rfl rfl rfl
    case nilf => subst hv; exact one rfl rfl rfl
    case nili => subst hv; exact one rfl rfl rfl
    case ptr => obtain ⟨e, _, _, rfl⟩ := hv; exact one rfl rfl rfl
    case eptr => obtain ⟨e, o, _, _, _, rfl, _⟩ := hv; exact one rfl rfl rfl
    case row => obtain ⟨b, o, rfl, _⟩ := hv; exact one rfl rfl rfl
    case sl => obtain ⟨A, n, cap, rfl, _⟩ := hv; exact one rfl rfl rfl
    case own => obtain ⟨e, A, c, _, _, _, rfl, _⟩ := hv; exact one rfl rfl rfl
    case fn => obtain ⟨as, bs, rfl, _⟩ := hv; exact one rfl rfl rfl
    case yld => obtain ⟨e, _, _, _, rfl⟩ := hv; exact one rfl rfl rfl
    case ifc => obtain ⟨u, rfl, _⟩ := hv; exact one rfl rfl rfl

section
variable {P : Program} {ρ : Ro} {s s' : St} {w : World} {v : AV}

theorem hold (w : World) (o : Obj) (k : Nat) (h : k < w.heap.size) : (w.alloc o).heap[k]? = w.heap[k]? := by
  show (w.heap.push o)[k]? = w.heap[k]?
  rw [Array.getElem?_push_lt h, Array.getElem?_eq_getElem h]
theorem hnew (w : World) (o : Obj) : (w.alloc o).heap[w.heap.size]? = some o := by
  show (w.heap.push o)[w.heap.size]? = some o
  simp

theorem run_zero {t : TypeId} {z : List AV} (h : zeroOf P t = some z) : ∃ u : Value, (zeroValue t).run P w = .ok u w ∧ RelL ρ z u.cells.toList := by
  unfold zeroOf at h
  split at h
  · rename_i i hi
    split at h
    · rename_i u hu
      exact ⟨u, by simp [zeroValue, typeInfo, program, Sem.run, hi, hu], RelL_ofC h⟩
    · cases h
  · cases h

theorem ok_newbox {cells : List AV} {cs : Array Value} {T : TypeId} (hS : RelS ρ s w) (h : RelL ρ cells cs.toList) :
    OpOk P ρ s w (do pure (.pointer (some (← newRow T cs)))) (.ptr s.length 0) (s ++ [.box cells]) := by
  let e : LE := ⟨w.heap.size, 0, 0, 0, true, none⟩
  have hw : ∀ k, k < w.heap.size → (w.alloc (.cells cs T)).heap[k]? = w.heap[k]? := fun k hk => hold w _ _ hk
  refine ⟨.pointer (some ⟨w.heap.size, 0, none⟩), w.alloc (.cells cs T), ρ.add e, ?_, Le.add ρ e, ?_, hS.add (.box cells) e rfl hw ⟨rfl, T, cs, hnew w _, RelL.mono (Le.add ρ e) _ _ h⟩,
    Keeps.add hS (.box cells) e rfl rfl rfl rfl (by simp) hw⟩
  · simp [newRow, newObj, Sem.run]
  · simp only [RelV]
    exact ⟨e, by rw [hS.len]; simp [Ro.add], rfl, rfl⟩
theorem ok_alloc {e : TypeId} {z : List AV} (hS : RelS ρ s w) (h : zeroOf P e = some z) : OpOk P ρ s w (Instr.alloc e true (.tuple #[])) (.ptr s.length 0) (s ++ [.box z]) := by
  obtain ⟨u, hu, hz⟩ := run_zero (ρ := ρ) (w := w) h
  obtain ⟨val, w', ρ', hr, rest⟩ := ok_newbox (P := P) (T := e) hS hz
  refine ⟨val, w', ρ', ?_, rest⟩
  rw [← hr]
  simp [Instr.alloc, hu, newVar]
theorem ok_box {e : TypeId} {x : AV} {u : Value} {cs : List AV} (hS : RelS ρ s w) (hx : RelV ρ x u) (h : x.cells? = some cs) : OpOk P ρ s w (Instr.box e u) (.ptr s.length 0) (s ++ [.box cs]) := by
  obtain ⟨val, w', ρ', hr, rest⟩ := ok_newbox (P := P) (T := e) hS (cells_ok h hx)
  refine ⟨val, w', ρ', ?_, rest⟩
  rw [← hr]
  simp [Instr.box, newVar]
end
end Go.Ab
