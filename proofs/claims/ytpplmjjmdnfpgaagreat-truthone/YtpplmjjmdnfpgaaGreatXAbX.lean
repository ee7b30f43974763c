import Derived.Test.YtpplmjjmdnfpgaaGreatXAbW
import Derived.Lib.Bytealg
import Derived.KernelRfl
set_option linter.unusedVariables false
namespace Go.Ab

/-! ### tables of functions -/
inductive Tr where
  | leaf
  | node (l : Tr) (k : Nat) (v : SFn) (r : Tr)
def Tr.find (f : Nat) : Tr → Option SFn
  | .leaf => none
  | .node l k v r => bif Nat.blt f k then l.find f else bif Nat.beq f k then some v else r.find f
def Tr.all (p : Nat → SFn → Prop) : Tr → Prop
  | .leaf => True
  | .node l k v r => l.all p ∧ p k v ∧ r.all p
theorem Tr.all_find {p : Nat → SFn → Prop} {f : Nat} {sf : SFn} : ∀ {t : Tr}, t.all p → t.find f = some sf → p f sf
  | .leaf, _, h => by cases h
  | .node l k v r, ⟨h1, h2, h3⟩, h => by
    simp only [Tr.find] at h
    cases hb : Nat.blt f k with
    | true => rw [hb] at h; exact Tr.all_find h1 h
    | false =>
      rw [hb] at h
      cases he : Nat.beq f k with
      | true => rw [he] at h; injection h with h; subst h; rw [Nat.eq_of_beq_eq_true he]; exact h2
      | false => rw [he] at h; exact Tr.all_find h3 h

/-- What is asked of one of the program's functions, in one equation. -/
def compF (P : Program) (own : Nat → Bool) (fn : Func) : Option (Bool × Nat × Option (List RV) × Option SCode) :=
  match fn.body with
  | some C => some (fn.name == "runtime.NumGoroutine", fn.ntmps, compRes P fn.results.toList, comp P own C)
  | none => none
theorem FnOk.of {P : Program} {f : FuncId} {fn : Func} {sf : SFn} {own : Nat → Bool} (h1 : P.funcs[f]? = some fn) (h2 : compF P own fn = some (false, sf.ntmps, some sf.res, some sf.body.strip)) : ∃ own, FnOk P f sf own := by
  unfold compF at h2
  split at h2
  · rename_i C hC
    injection h2 with h2
    injection h2 with h3 h2
    injection h2 with h4 h2
    injection h2 with h5 h6
    exact ⟨own, ⟨fn, C, h1, h3, hC, h4, h5, h6⟩⟩
  · cases h2

def ownL (l : List Nat) (n : Nat) : Bool := l.any (Nat.beq n)

/-! ### bodies that the model gives itself -/
def pIdx : List AV → Option AV
  | [.str s, .int .u8 c] => some (.int .i64 (Go.Lib.indexByte s c.toNat.toUInt8))
  | _ => none
def pCmp : List AV → Option AV
  | [.str a, .str b] => some (.int .i64 (Go.Lib.compareBytes a b))
  | _ => none
def pCount : List AV → Option AV
  | [.str s, .int .u8 c] => some (.int .i64 (Go.Lib.countByte s c.toNat.toUInt8))
  | _ => none

def PrimOk (P : Program) (f : Nat) (p : List AV → Option AV) : Prop :=
  ∀ args v, p args = some v → flat v = true → ∀ (ρ : Ro) (w : World) (vals : List Value), RelT ρ args vals → RelS ρ [] w → CallF P f vals.toArray w (fun e w' => (∃ u, e = .returned u ∧ RelV ρ v u) ∧ Go.RowKit.Below w.heap.size w w')

theorem prim_callF {P : Program} {f : Nat} {fn : Func} {e : Array Value → Sem Value} (hf : P.funcs[f]? = some fn) (hn : (fn.name == "runtime.NumGoroutine") = false) (hb : fn.body = none) (h1 : Extern.findNext fn = none) (h2 : Extern.find fn = some e)
    {vals : Array Value} {w : World} {u : Value} (hr : (e vals).run P w = .ok u w) {R : Ending → World → Prop} (h : R (.returned u) w) : CallF P f vals w R := by
  have : (callFunc f vals).run P w = .ok (.value u) w := by
    simp only [callFunc, Sem.run_bind, program, Sem.run, Result.andThen_ok, hf, hn, hb, h1, h2]
    simp [hr]
  unfold CallF
  rw [this]
  exact h

theorem pIdx_ok {P : Program} {f : Nat} {fn : Func} (hf : P.funcs[f]? = some fn) (hn : (fn.name == "runtime.NumGoroutine") = false) (hb : fn.body = none) (h1 : Extern.findNext fn = none) (h2 : Extern.find fn = some Extern.BytealgIndexByte.indexByte) : PrimOk P f pIdx := by
  intro args v hp hfl ρ w vals ha hS
  unfold pIdx at hp
  split at hp
  · rename_i s c
    injection hp with hp; subst hp
    simp only [RelT, RelV] at ha
    obtain ⟨_, _, rfl, rfl, _, _, rfl, rfl, rfl⟩ := ha
    refine prim_callF hf hn hb h1 h2 (Go.Lib.run_indexByteString ⟨s.toArray⟩ c w) ⟨⟨_, rfl, ?_⟩, Go.RowKit.Below.refl _ _⟩
    simp [RelV]
  · cases hp
theorem pCmp_ok {P : Program} {f : Nat} {fn : Func} (hf : P.funcs[f]? = some fn) (hn : (fn.name == "runtime.NumGoroutine") = false) (hb : fn.body = none) (h1 : Extern.findNext fn = none) (h2 : Extern.find fn = some Extern.BytealgCompare.compare) : PrimOk P f pCmp := by
  intro args v hp hfl ρ w vals ha hS
  unfold pCmp at hp
  split at hp
  · rename_i s c
    injection hp with hp; subst hp
    simp only [RelT, RelV] at ha
    obtain ⟨_, _, rfl, rfl, _, _, rfl, rfl, rfl⟩ := ha
    refine prim_callF hf hn hb h1 h2 (Go.Lib.run_compareString ⟨s.toArray⟩ ⟨c.toArray⟩ w) ⟨⟨_, rfl, ?_⟩, Go.RowKit.Below.refl _ _⟩
    simp [RelV]
  · cases hp
end Go.Ab
