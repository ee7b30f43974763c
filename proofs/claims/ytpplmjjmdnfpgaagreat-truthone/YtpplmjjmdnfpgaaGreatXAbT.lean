import Derived.Test.YtpplmjjmdnfpgaaGreatXAbS
import Derived.ProofKit
import Derived.WalkKit
set_option linter.unusedVariables false
namespace Go.Ab
open Go.RowKit

/-- An argument of type t as a value of ours. -/
def valD {H : Type} (P : Program) (t : TypeId) (d : DataW H) : AV := match P.underlying t with
  | some (.struct _) => .agg (cellsD d)
  | some (.array _ _) => .agg (cellsD d)
  | _ => (cellsD d).headD .any

def argsD {H : Type} (P : Program) : List TypeId → List (DataW H) → List AV
  | t :: ts, d :: ds => valD P t d :: argsD P ts ds
  | _, _ => []

def OkArgs {H : Type} (P : Program) : List TypeId → List (DataW H) → Prop
  | [], [] => True
  | t :: ts, d :: ds => (∃ n, OkD P n t d) ∧ OkArgs P ts ds
  | _, _ => False

section
variable {H : Type} {enc : TypeId × Value → H} {P : Program} {w : World} {spare : Nat → Bool} {held : Bool} {ρ : Ro}

theorem val_ok {T : List TypeId} (hT : closedT P T = true) (him : ∀ b o v, w.cell? ⟨b, o, none⟩ = some v → ρ.im b o = some v) {t : TypeId} (ht : t ∈ T) {v : Value} {d : DataW H} {ps : List MemPlace} {base : Nat}
    (hv : Value.okWide P w .any base t v) (h : DataW.Trod enc P w 0 spare held t v d ps) : RelV ρ (valD P t d) v ∧ ∃ n, OkD P n t d := by
  obtain ⟨n, hn⟩ := h
  obtain ⟨h1, h2⟩ := trod_ok hT him n t _ _ _ ht hn
  refine ⟨?_, n, h2⟩
  have hc := hT
  simp only [closedT, List.all_eq_true] at hc
  have hc := hc t ht
  unfold valD
  unfold Value.okWide at hv
  cases n with
  | zero => simp [OkD] at h2
  | succ n =>
  unfold OkD at h2
  cases hu : P.underlying t with
  | none => rw [hu] at hc; cases hc
  | some u =>
    rw [hu] at hc hv h2
    have one : (∀ cs, v ≠ .agg cs) → ∀ {x : AV}, cellsD d = [x] → RelV ρ ((cellsD d).headD .any) v := by
      intro hna x hx
      rw [hx] at h1 ⊢
      simp only [RelL] at h1
      obtain ⟨u', ur, he, _, hr, hur⟩ := h1
      subst hur
      have : v.cells = #[u'] := by
        have := congrArg List.toArray he
        simpa using this
      cases v <;> simp [Value.cells] at this <;> first | (subst this; exact hr) | exact absurd rfl (hna _)
    cases u with
    | bool => obtain ⟨b, rfl⟩ := h2; exact one (by intro cs e; subst e; simp [Cell.okWide, Cell.ok, hu] at hv) rfl
    | int k => obtain ⟨b, rfl, _⟩ := h2; exact one (by intro cs e; subst e; simp [Cell.okWide, Cell.ok, hu] at hv) rfl
    | string => obtain ⟨b, rfl, _⟩ := h2; exact one (by intro cs e; subst e; simp [Cell.okWide, Cell.ok, hu] at hv) rfl
    | slice e =>
      rcases h2 with rfl | ⟨xs, ys, rfl, _⟩
      · exact one (by intro cs e; subst e; simp [Cell.okWide, Cell.ok, hu] at hv) rfl
      · exact one (by intro cs e; subst e; simp [Cell.okWide, Cell.ok, hu] at hv) rfl
    | struct fs =>
      obtain ⟨cs, rfl, _⟩ := hv
      simp only [RelV]
      exact ⟨cs, rfl, by simpa [Value.cells] using h1⟩
    | array m e =>
      obtain ⟨cs, rfl, _⟩ := hv
      simp only [RelV]
      exact ⟨cs, rfl, by simpa [Value.cells] using h1⟩
    | _ => cases hc

theorem args_ok {T : List TypeId} (hT : closedT P T = true) (him : ∀ b o v, w.cell? ⟨b, o, none⟩ = some v → ρ.im b o = some v) {base : Nat} : ∀ {ts : List TypeId} {vs : List Value} {ds : List (DataW H)} {ps : List MemPlace}, (∀ t ∈ ts, t ∈ T) →
    (∀ (j : Nat) t v, ts[j]? = some t → vs[j]? = some v → Value.okWide P w .any base t v) → DataW.TrodAll enc P w 0 spare held ts vs ds ps → RelT ρ (argsD P ts ds) vs ∧ OkArgs P ts ds
  | [], [], [], ps, _, _, _ => ⟨by simp [argsD, RelT], trivial⟩
  | t :: ts, v :: vs, d :: ds, ps, ht, hv, h => by
    obtain ⟨p, q, h1, h2, rfl⟩ := h
    obtain ⟨h3, h4⟩ := val_ok (ρ := ρ) hT him (ht t (by simp)) (hv 0 t v rfl rfl) h1
    obtain ⟨h5, h6⟩ := args_ok hT him (fun t' ht' => ht t' (by simp [ht'])) (fun j t' v' ht' hv' => hv (j + 1) t' v' (by simpa using ht') (by simpa using hv')) h2
    refine ⟨?_, h4, h6⟩
    simp only [argsD, RelT]
    exact ⟨v, vs, rfl, h3, h5⟩
  | [], _ :: _, _, _, _, _, h => by cases h
  | [], [], _ :: _, _, _, _, h => by cases h
  | _ :: _, [], _, _, _, _, h => by cases h
  | _ :: _, _ :: _, [], _, _, _, h => by cases h

theorem trodAll_behind (hl : laidOutB P = true) {W' : World} (hb : Below w.heap.size w W') : ∀ {ts : List TypeId} {vs : List Value} {ds : List (DataW H)} {ps : List MemPlace}, (∀ t ∈ ts, P.readableRec t = true ∧ t < P.types.size) → (∀ x ∈ ps, x.block < w.heap.size) →
    DataW.TrodAll enc P w 0 (fun _ => true) true ts vs ds ps → DataW.TrodAll enc P W' 0 (fun b => decide (b < w.heap.size)) true ts vs ds ps
  | [], [], [], ps, _, _, h => h
  | t :: ts, v :: vs, d :: ds, ps, ht, hlt, h => by
    obtain ⟨p, q, h1, h2, rfl⟩ := h
    exact ⟨p, q, Below.trod hl (ht t (by simp)).1 (ht t (by simp)).2 h1 hb (fun x hx => hlt x (by simp [hx])), trodAll_behind hl hb (fun t' ht' => ht t' (by simp [ht'])) (fun x hx => hlt x (by simp [hx])) h2, rfl⟩
  | [], _ :: _, _, _, _, _, h => by cases h
  | [], [], _ :: _, _, _, _, h => by cases h
  | _ :: _, [], _, _, _, _, h => by cases h
  | _ :: _, _ :: _, [], _, _, _, h => by cases h

theorem calls_fn {f : FuncId} {fn : Func} {args : Array Value} {R : Ending → World → Prop} (hf : P.funcs[f]? = some fn) (hn : (fn.name == "runtime.NumGoroutine") = false) (hb : fn.body.isSome = true) (h : CallF P f args w R) : Calls P f args w R := by
  unfold CallF at h
  obtain ⟨C, hC⟩ := Option.isSome_iff_exists.1 hb
  have : (callFunc f args).run P w = .ok (.enter f args) w := by
    simp only [callFunc, Sem.run_bind, program, Sem.run, Result.andThen_ok, hf, hn, hC]
    simp
  rw [this] at h
  exact h

/-- THE FRAME of a statement that says 'true', its arguments read as before. -/
theorem plain_contract {f : FuncId} {fn : Func} {s : ChangeSpec} {tb : Tbl} (htb : TblOk P tb) (hf : P.funcs[f]? = some fn) (hn : (fn.name == "runtime.NumGoroutine") = false) (hb : fn.body.isSome = true)
    {rt : TypeId} (hrt : fn.resultTypes = #[rt]) (hrb : P.underlying rt = some .bool) {T : List TypeId} (hT : closedT P T = true) (hl : laidOutB P = true)
    (hpar : ∀ t ∈ fn.params.toList, t ∈ T ∧ P.readableRec t = true ∧ t < P.types.size)
    (hvars : s.vars = []) (hfn : ∀ (ds : List (DataW H)), OkArgs P fn.params.toList ds → s.fn H ds = ⟨[.lit (.bool true)], ds, []⟩)
    (W : World) (base : Nat) (args : Array Value) (ds gs : List (DataW H)) (before : List MemPlace)
    (ev : OkArgs P fn.params.toList ds → ∃ k s', doCall tb (run tb k) f (argsD P fn.params.toList ds) [] = some (.ret (.bool true) s'))
    (hval : ∀ (j : Nat) t v, fn.params[j]? = some t → args[j]? = some v → Value.okWide P W .any base t v)
    (hW : DataW.Whole enc P fn.params.toList s.vars false W args.toList ds gs before) :
    Calls P f args W fun e W' => ∃ v, e = .returned v ∧ s.post enc P fn false true false false W args v W' := by
  have hW' := hW
  rw [hvars] at hW
  obtain ⟨p, q, hA, hV, rfl, hfz, hnd⟩ := hW
  obtain ⟨rfl, rfl⟩ := ChangeShapes.trodVars_none hV
  obtain ⟨h1, h2⟩ := args_ok (ρ := ⟨fun b o => W.cell? ⟨b, o, none⟩, []⟩) hT (fun _ _ _ h => h) (fun t ht => (hpar t ht).1) (fun j t v ht hv => hval j t v (by simpa using ht) (by simpa using hv)) hA
  obtain ⟨k, s', hk⟩ := ev h2
  have h3 := calls_of_run htb hk (fun _ _ _ h => h) h1
  rw [Array.toArray_toList] at h3
  refine (calls_fn hf hn hb h3).mono (fun e W' he => ?_)
  obtain ⟨⟨ρ', u, rfl, hu⟩, hB⟩ := he
  simp only [RelV] at hu; subst hu
  refine ⟨_, rfl, ds, [], p ++ [], [], p, [], hW', ?_, ?_, ?_, hB.frame _, fun h => by cases h⟩
  · rw [List.append_nil, hfn ds h2, hrt]
    exact ⟨[], [], shut_bool hrb _, rfl, rfl⟩
  · rw [List.append_nil, hfn ds h2]
    exact trodAll_behind hl hB (fun t ht => (hpar t ht).2) (fun x hx => by simpa using hW'.lt x (by simp [hx])) hA
  · rw [List.append_nil, hfn ds h2, hvars]
    rfl
end
end Go.Ab
