import Derived.Test.YtpplmjjmdnfpgaaGreatXAbK
import Derived.CallsIn
import Derived.OrdersIn
import Derived.RangeFuncIn
import Derived.RangeFuncRecord
import Derived.RangeFuncLeaves
import Derived.LoopNIn
set_option linter.unusedVariables false
namespace Go.Ab

/-! ### from regions to lists of instructions -/
def compG (ops : Array Oper) : Option (Nat × Bool) → Option (Option (Nat × Bool))
  | none => some none
  | some (j, want) => match (ops[j]?).bind (·.dst) with
    | some t => some (some (t, want))
    | none => none

def compSI (P : Program) (own : Nat → Bool) (ops : Array Oper) (o : Oper) : Option SI :=
  match compG ops o.guard, compSJ P (own (o.dst.getD 0)) o.op with
  | some g, some so => some ⟨o.dst, g, so⟩
  | _, _ => none

/-- A call of function f, whatever way it goes. -/
def CallF (P : Program) (f : FuncId) (args : Array Value) (w : World) (R : Ending → World → Prop) : Prop :=
  match (callFunc f args).run P w with
  | .ok (.value v) w' => R (.returned v) w'
  | .ok (.enter g as) w' => Calls P g as w' R
  | _ => False

theorem CallF.mono {P : Program} {f : FuncId} {args : Array Value} {w : World} {R R' : Ending → World → Prop} (h : CallF P f args w R) (hr : ∀ e w', R e w' → R' e w') : CallF P f args w R' := by
  unfold CallF at *
  split at h
  · exact hr _ _ h
  · exact h.mono hr
  · exact h.elim

def OutR (ρ : Ro) : Out → Exit → Prop
  | .norm, e => e = .normal
  | .exit id, e => e = .exit id
  | .ret, e => e = .ret
  | .pan v, e => ∃ u, e = .panic [{ v := u, recovered := false }] ∧ RelV ρ v u

/-- The mark that a range over a function leaves among the deferred calls. -/
def mark (D : Nat) : Deferred := { target := .collected D, args := #[] }

structure Marks (ρ' : Ro) (s' : St) (w : World) (a a' : Act) (w' : World) (Ds : List Nat) : Prop where
  defers : a'.defers = Ds.map mark ++ a.defers
  nodup : Ds.Nodup
  each : ∀ D ∈ Ds, w.heap.size ≤ D ∧ w'.heap[D]? = some (.deferred (some [])) ∧ ¬ Liv ρ' s' D

theorem Marks.nil {ρ' : Ro} {s' : St} {w w' : World} {a a' : Act} (h : a'.defers = a.defers) : ∃ Ds, Marks ρ' s' w a a' w' Ds := ⟨[], by simpa using h, by simp, by simp⟩

def Post (ρ : Ro) (s : St) (w : World) (a : Act) (o : Out) (fr' : Fr) (s' : St) (e : Exit) (a' : Act) (w' : World) : Prop :=
  ∃ ρ', Le ρ ρ' ∧ OutR ρ' o e ∧ RelF ρ' fr' a'.tmps ∧ RelS ρ' s' w' ∧ Keeps ρ s w ρ' s' w' ∧ ∃ Ds, Marks ρ' s' w a a' w' Ds

def CRPost (ρ : Ro) (s : St) (w : World) : CR → Ending → World → Prop
  | .ret v s', e, w' => ∃ ρ', Le ρ ρ' ∧ (∃ u, e = .returned u ∧ RelV ρ' v u) ∧ RelS ρ' s' w' ∧ Keeps ρ s w ρ' s' w'
  | .pan v s', e, w' => ∃ ρ', Le ρ ρ' ∧ (∃ u, e = .panicked [{ v := u, recovered := false }] ∧ RelV ρ' v u) ∧ RelS ρ' s' w' ∧ Keeps ρ s w ρ' s' w'

def CallOk (P : Program) (cf : Nat → List AV → St → Option CR) : Prop :=
  ∀ f args s cr, cf f args s = some cr → ∀ (ρ : Ro) (w : World) (vals : List Value), RelT ρ args vals → RelS ρ s w → CallF P f vals.toArray w (CRPost ρ s w cr)

theorem Post.trans {ρ ρ1 : Ro} {s s1 : St} {w w1 : World} {a a1 : Act} {o : Out} {fr' : Fr} {s' : St} {e : Exit} {a' : Act} {w' : World} (hle : Le ρ ρ1) (hk : Keeps ρ s w ρ1 s1 w1) (hm : ∃ Ds, Marks ρ1 s1 w a a1 w1 Ds) (h : Post ρ1 s1 w1 a1 o fr' s' e a' w') : Post ρ s w a o fr' s' e a' w' := by
  obtain ⟨ρ', h1, h2, h3, h4, h5, D2, m2⟩ := h
  obtain ⟨D1, m1⟩ := hm
  refine ⟨ρ', hle.trans h1, h2, h3, h4, hk.trans h5, D2 ++ D1, ?_, ?_, ?_⟩
  · rw [m2.defers, m1.defers]; simp
  · refine List.nodup_append.2 ⟨m2.nodup, m1.nodup, fun x hx y hy he => ?_⟩
    subst he
    have h6 := (m2.each x hx).1
    have h7 := (Array.getElem?_eq_some_iff.1 (m1.each x hy).2.1).1
    omega
  · intro D hD
    rcases List.mem_append.1 hD with hD | hD
    · obtain ⟨q1, q2, q3⟩ := m2.each D hD
      exact ⟨Nat.le_trans hk.size q1, q2, q3⟩
    · obtain ⟨q1, q2, q3⟩ := m1.each D hD
      have hlt := (Array.getElem?_eq_some_iff.1 q2).1
      refine ⟨q1, by rw [h5.block D hlt q3]; exact q2, fun hl => ?_⟩
      rcases h5.live D hl with q4 | q4
      · exact q3 q4
      · omega

theorem Post.step {ρ ρ1 : Ro} {s s1 : St} {w w1 : World} {a a1 : Act} {o : Out} {fr' : Fr} {s' : St} {e : Exit} {a' : Act} {w' : World} (hd : a1.defers = a.defers) (hle : Le ρ ρ1) (hk : Keeps ρ s w ρ1 s1 w1) (h : Post ρ1 s1 w1 a1 o fr' s' e a' w') : Post ρ s w a o fr' s' e a' w' :=
  h.trans hle hk (Marks.nil hd)

/-- The wide fence, in a round or outside. -/
abbrev WF (ro : Option Nat) : Fence := { Fence.wide with round := ro }

theorem WF_calls {ro : Option Nat} {n : Nat} {P : Program} {f : FuncId} {args : Array Value} {w : World} {R : Ending → World → Prop} : CallsIn (WF ro) n P f args w R ↔ Calls P f args w R := callsIn_wide (n := n)

theorem WF_rows {ro : Option Nat} {n : Nat} {P : Program} {row : String} {args : Array Value} {w : World} {R : Value → World → Prop} (h : Rows P row args w R) : RowsIn (WF ro) n P row args w R := by
  intro c cs _
  obtain ⟨v, w', h1, h2⟩ := h c cs
  exact ⟨v, w', h1, stepsIn_wide.2 h2⟩

theorem Oper.toIn {ro : Option Nat} {n : Nat} {P : Program} {o : Oper} {a : Act} {w : World} {K : Act → World → Prop} {Q : Exit → Act → World → Prop} (hd : ∀ c, o.op ≠ .defer c) (h : o.wp P a w K Q) : o.wpIn (WF ro) n P a w K Q := by
  refine ⟨fun _ _ => trivial, ?_⟩
  rw [Oper.semAt_eq _ _ _ hd]
  unfold Oper.wp at h
  generalize (execOp a.eval o).run P w = r at *
  cases r with
  | ok x w' =>
    cases x with
    | value v => exact h
    | skip => exact h
    | defer d => exact h
    | enter f args => exact ⟨fun hh => (by cases hh), WF_calls.2 h⟩
    | row r args => exact ⟨fun hh => (by cases hh), WF_rows h⟩
    | _ => exact h.elim
  | halt x w' => cases x <;> exact h

theorem put_rel {ρ : Ro} {fr : Fr} {a : Act} {v : AV} {u : Value} (hF : RelF ρ fr a.tmps) (hv : RelV ρ v u) (d : Option Nat) : RelF ρ (put fr d v) (a.put d u).tmps := by
  cases d with
  | none => exact hF
  | some n =>
    refine ⟨by simp [put, Act.put, hF.len], fun t => ?_⟩
    simp only [put, Act.put]
    have hl := hF.len
    by_cases ht : t = n
    · subst ht
      by_cases hlt : t < fr.length
      · have h1 : (fr.set t v).getD t .any = v := by simp [List.getD, hlt]
        have h2 : (a.tmps.setIfInBounds t u).getD t undef = u := by
          rw [Array.getD_eq_getD_getElem?, Array.getElem?_setIfInBounds_self_of_lt (by omega)]
          rfl
        rw [h1, h2]; exact hv
      · have h1 : (fr.set t v).getD t .any = .any := by simp [List.getD, hlt]
        rw [h1]; simp [RelV]
    · have h1 : (fr.set n v).getD t .any = fr.getD t .any := by simp [List.getD, List.getElem?_set_ne (Ne.symm ht)]
      have h2 : (a.tmps.setIfInBounds n u).getD t undef = a.tmps.getD t undef := by
        rw [Array.getD_eq_getD_getElem?, Array.getD_eq_getD_getElem?, Array.getElem?_setIfInBounds_ne (Ne.symm ht)]
      rw [h1, h2]; exact hF.at_ t

theorem put_defers (a : Act) (d : Option Nat) (u : Value) : (a.put d u).defers = a.defers := by cases d <;> rfl

theorem wanted_rel {ρ : Ro} {fr : Fr} {a : Act} {ops : Array Oper} {o : Oper} {g : Option (Nat × Bool)} {b : Bool} (hF : RelF ρ fr a.tmps) (hg : compG ops o.guard = some g) (hw : wanted fr g = some b) : Region.wanted o (yielded ops a.tmps) = b := by
  unfold compG at hg
  unfold Region.wanted
  split at hg
  · rename_i hn
    injection hg with hg; subst hg
    simp [wanted] at hw
    simp [hn, ← hw]
  · rename_i j want hn
    split at hg
    · rename_i t ht
      injection hg with hg; subst hg
      simp only [hn]
      have hv := hF.at_ t
      unfold yielded
      rw [ht]
      simp only [Option.bind_some]
      simp only [wanted] at hw
      split at hw
      · rename_i c hc
        injection hw with hw
        rw [hc] at hv
        simp only [RelV] at hv
        have hlt : t < a.tmps.size := by
          rcases Nat.lt_or_ge t a.tmps.size with h | h
          · exact h
          · rw [← hF.len] at h
            simp [List.getD, List.getElem?_eq_none h] at hc
        rw [Array.getD_eq_getD_getElem?, Array.getElem?_eq_getElem hlt] at hv
        simp only [Option.getD_some] at hv
        rw [Array.getElem?_eq_getElem hlt, hv]
        simp only
        rw [← hw]
        cases c <;> cases want <;> rfl
      · rename_i vs hc
        injection hw with hw
        rw [hc] at hv
        simp only [RelV] at hv
        obtain ⟨cs, hv, _⟩ := hv
        have hlt : t < a.tmps.size := by
          rcases Nat.lt_or_ge t a.tmps.size with h | h
          · exact h
          · rw [← hF.len] at h
            simp [List.getD, List.getElem?_eq_none h] at hc
        rw [Array.getD_eq_getD_getElem?, Array.getElem?_eq_getElem hlt] at hv
        simp only [Option.getD_some] at hv
        rw [Array.getElem?_eq_getElem hlt, hv]
        simp only
        rw [← hw]
        cases want <;> rfl
      · cases hw
    · cases hg

theorem tup_nil {ρ : Ro} : RelV ρ (.tup []) undef := by simp only [RelV]; exact ⟨#[], rfl, by simp [RelT]⟩

theorem upon_call {P : Program} {o : Oper} {a : Act} {w : World} {f : FuncId} {vals : Array Value} {K : Act → World → Prop} {Q : Exit → Act → World → Prop} (hr : (execOp a.eval o).run P w = (callFunc f vals).run P w)
    (h : CallF P f vals w fun e w' => match e with | .returned v => K (a.put o.dst v) w' | .panicked ch => Q (.panic ch) a w' | .outgrown => False) : o.wp P a w K Q := by
  unfold Oper.wp
  rw [hr]
  unfold CallF at h
  split at h
  · rename_i v w' he
    rw [he]
    exact h
  · rename_i g as w' he
    rw [he]
    refine h.mono (fun e w'' he' => ?_)
    cases e with
    | returned v => exact he'
    | panicked ch => exact he'
    | outgrown => exact he'.elim
  · exact h.elim

theorem compSJ_cases {P : Program} {own : Bool} {op : Op} {j : SJ} (h : compSJ P own op = some j) :
    (∃ f args ats xs, op = .call ⟨.value (.func f), args, ats⟩ ∧ chainO compX args.toList = some xs ∧ j = .call f xs) ∨
    (∃ f args ats y xs, op = .call ⟨.value f, args, ats⟩ ∧ compX f = some y ∧ chainO compX args.toList = some xs ∧ j = .callv y xs) ∨
    (∃ x y, op = .panic x ∧ compX x = some y ∧ j = .panic y) ∨ (∃ so, compOp P own op = some so ∧ j = .op so) := by
  unfold compSJ at h
  split at h
  · simp only [Option.map_eq_some_iff] at h
    obtain ⟨l, hl, rfl⟩ := h
    exact .inl ⟨_, _, _, l, rfl, hl, rfl⟩
  · split at h
    · rename_i h1 h2
      injection h with h
      exact .inr (.inl ⟨_, _, _, _, _, rfl, h1, h2, h.symm⟩)
    · cases h
  · simp only [Option.map_eq_some_iff] at h
    obtain ⟨y, hy, rfl⟩ := h
    exact .inr (.inr (.inl ⟨_, y, rfl, hy, rfl⟩))
  · simp only [Option.map_eq_some_iff] at h
    obtain ⟨so, hso, rfl⟩ := h
    exact .inr (.inr (.inr ⟨so, hso, rfl⟩))

/-- Instructions beside the operations that they come of, in whatever order. -/
inductive Comps (P : Program) (own : Nat → Bool) (ops : Array Oper) : List Nat → List SI → Prop
  | nil : Comps P own ops [] []
  | cons {i : Nat} {o : Oper} {si : SI} {l : List Nat} {is : List SI} : ops[i]? = some o → compSI P own ops o = some si → Comps P own ops l is → Comps P own ops (i :: l) (si :: is)

/-- What a call of yield does. -/
def YfOk (P : Program) (ρ : Ro) (yf : Nat → List AV → St → Option CR) : Prop :=
  ∀ ρ1, Le ρ ρ1 → ∀ r args s cr, yf r args s = some cr → ∀ (w : World) (e : LE) (vals : List Value), ρ1.loc[r]? = some e → e.isBox = true → e.lp.isSome = true → RelT ρ1 args vals → RelS ρ1 s w →
    ∃ g tmps asg body, (Instr.yield e.g vals.toArray).run P w = .ok (.round e.g g tmps asg body) w ∧ RoundIn (WF none) 0 P e.g g tmps asg body w (CRPost ρ1 s w cr)

theorem YfOk.mono {P : Program} {ρ ρ' : Ro} {yf : Nat → List AV → St → Option CR} (h : YfOk P ρ yf) (hle : Le ρ ρ') : YfOk P ρ' yf := fun ρ1 h1 => h ρ1 (hle.trans h1)

theorem compSI_nodefer {P : Program} {own : Nat → Bool} {ops : Array Oper} {o : Oper} {si : SI} (h : compSI P own ops o = some si) : ∀ c, o.op ≠ .defer c := by
  intro c hc
  unfold compSI at h
  rw [hc] at h
  simp [compSJ, compOp] at h

theorem ops_ok {P : Program} {own : Nat → Bool} {ops : Array Oper} {cf yf : Nat → List AV → St → Option CR} (hcf : CallOk P cf) {ro : Option Nat} {Q : Exit → Act → World → Prop} :
    ∀ {l : List Nat} {is : List SI}, Comps P own ops l is → ∀ {fr : Fr} {s : St} {o : Out} {fr' : Fr} {s' : St}, runOps cf yf is fr s = some (o, fr', s') →
    ∀ {ρ : Ro} {a : Act} {w : World}, RelF ρ fr a.tmps → RelS ρ s w → YfOk P ρ yf → (∀ e a' w', Post ρ s w a o fr' s' e a' w' → Q e a' w') → wpOpsIn (WF ro) 0 P ops Q l a w := by
  intro l is hc
  induction hc with
  | nil =>
    intro fr s o fr' s' h ρ a w hF hS hY hQ
    simp only [runOps] at h
    injection h with h; injection h with h1 h; injection h with h2 h3
    subst h1; subst h2; subst h3
    simp only [wpOpsIn]
    exact hQ _ _ _ ⟨ρ, Le.refl ρ, rfl, hF, hS, Keeps.refl ρ s w, Marks.nil rfl⟩
  | @cons i op si l is ho hsi _ ih =>
    intro fr s o fr' s' h ρ a w hF hS hY hQ
    have hsi0 := hsi
    unfold compSI at hsi
    split at hsi
    rotate_left
    · cases hsi
    rename_i g j hg hj
    injection hsi with hsi; subst hsi
    simp only [runOps] at h
    simp only [wpOpsIn, ho]
    have hnd := compSI_nodefer hsi0
    have go : ∀ {v : AV} {u : Value} {ρ1 : Ro} {s1 : St} {w1 : World}, runOps cf yf is (put fr op.dst v) s1 = some (o, fr', s') → Le ρ ρ1 → RelV ρ1 v u → RelS ρ1 s1 w1 → Keeps ρ s w ρ1 s1 w1 → wpOpsIn (WF ro) 0 P ops Q l (a.put op.dst u) w1 := by
      intro v u ρ1 s1 w1 h1 hle hv hS1 hK
      exact ih h1 (put_rel (hF.mono hle) hv op.dst) hS1 (hY.mono hle) (fun e a' w' hp => hQ e a' w' (hp.step (put_defers a op.dst u) hle hK))
    split at h
    · cases h
    · rename_i hw
      rw [wanted_rel hF hg hw]
      simp only [Bool.false_eq_true, if_false]
      exact ⟨fun _ _ => trivial, go h (Le.refl ρ) tup_nil hS (Keeps.refl ρ s w)⟩
    · rename_i hw
      rw [wanted_rel hF hg hw]
      simp only [if_true]
      have hpan : ∀ {v : AV} {s1 : St} {w1 : World} {e : Ending}, o = .pan v → fr' = fr → s' = s1 → CRPost ρ s w (.pan v s1) e w1 → ∃ ch, e = .panicked ch ∧ Q (.panic ch) a w1 := by
        intro v s1 w1 e h1 h2 h3 hp
        subst h1; subst h2; subst h3
        obtain ⟨ρ', hle, ⟨u, rfl, hv⟩, hS1, hK⟩ := hp
        exact ⟨_, rfl, hQ _ _ _ ⟨ρ', hle, ⟨u, rfl, hv⟩, hF.mono hle, hS1, hK, Marks.nil rfl⟩⟩
      rcases compSJ_cases hj with ⟨f, args, ats, xs, hop, hxs, rfl⟩ | ⟨f, args, ats, y, xs, hop, hy, hxs, rfl⟩ | ⟨x, y, hop, hy, rfl⟩ | ⟨so, hso, rfl⟩
      · simp only at h
        have hargs := compXs_ok hF hxs
        have hrun : (execOp a.eval op).run P w = (callFunc f (args.toList.map a.eval).toArray).run P w := by
          obtain ⟨dst, op', ty, pos, after, guard⟩ := op
          simp only at hop; subst hop
          have e1 : (args.toList.map a.eval).toArray = args.map a.eval := by apply Array.ext'; simp
          rw [e1]
          simp [execOp, resolve, Deferred.ofValue, Act.eval, invoke]
        cases hcr : cf f (evs (ev fr) xs) s with
        | none => rw [hcr] at h; cases h
        | some cr =>
          rw [hcr] at h
          refine Oper.toIn hnd ?_
          refine upon_call hrun ((hcf f _ s cr hcr ρ w _ hargs hS).mono (fun e w1 hp => ?_))
          cases cr with
          | ret v s1 =>
            obtain ⟨ρ1, hle, ⟨u, rfl, hv⟩, hS1, hK⟩ := hp
            exact go h hle hv hS1 hK
          | pan v s1 =>
            simp only at h
            injection h with h; injection h with h1 h; injection h with h2 h3
            obtain ⟨ch, rfl, hq⟩ := hpan h1.symm h2.symm h3.symm hp
            exact hq
      · simp only at h
        have hargs := compXs_ok hF hxs
        have hfv := compX_ok hF hy
        split at h
        · rename_i n first cap he
          rw [he] at hfv
          simp only [RelV] at hfv
          obtain ⟨as, bs, hf, h1, h2⟩ := hfv
          have hrun : (execOp a.eval op).run P w = (callFunc n (as.toList ++ (args.toList.map a.eval ++ bs.toList)).toArray).run P w := by
            obtain ⟨dst, op', ty, pos, after, guard⟩ := op
            simp only at hop; subst hop
            have e1 : (as ++ args.map a.eval ++ bs : Array Value) = (as.toList ++ (args.toList.map a.eval ++ bs.toList)).toArray := by
              apply Array.ext'
              simp
            simp only [execOp, resolve, hf, Deferred.ofValue, Sem.run_bind, Sem.run_pure, Result.andThen_ok, invoke]
            rw [e1]
          cases hcr : cf n (first ++ (evs (ev fr) xs ++ cap)) s with
          | none => rw [hcr] at h; cases h
          | some cr =>
            rw [hcr] at h
            refine Oper.toIn hnd ?_
            refine upon_call hrun ((hcf n _ s cr hcr ρ w _ (h1.append (hargs.append h2)) hS).mono (fun e w1 hp => ?_))
            cases cr with
            | ret v s1 =>
              obtain ⟨ρ1, hle, ⟨u, rfl, hv⟩, hS1, hK⟩ := hp
              exact go h hle hv hS1 hK
            | pan v s1 =>
              simp only at h
              injection h with h; injection h with h1 h; injection h with h2 h3
              obtain ⟨ch, rfl, hq⟩ := hpan h1.symm h2.symm h3.symm hp
              exact hq
        · rename_i r he
          rw [he] at hfv
          simp only [RelV] at hfv
          obtain ⟨e, he1, he2, he3, hf⟩ := hfv
          split at h
          · rename_i v s1 hcr
            obtain ⟨g, tmps, asg, body, hy1, hy2⟩ := hY ρ (Le.refl ρ) r _ s _ hcr w e (args.toList.map a.eval) he1 he2 he3 hargs hS
            have hrun : (execOp a.eval op).run P w = .ok (.round e.g g tmps asg body) w := by
              obtain ⟨dst, op', ty, pos, after, guard⟩ := op
              simp only at hop; subst hop
              have e1 : (args.map a.eval : Array Value) = (args.toList.map a.eval).toArray := by apply Array.ext'; simp
              rw [← e1] at hy1
              simp [execOp, resolve, hf, Deferred.ofValue, invoke, hy1]
            refine ⟨fun _ _ => trivial, ?_⟩
            rw [Oper.semAt_eq _ _ _ hnd, hrun]
            refine ⟨fun h => (by cases h), hy2.mono (fun e' w1 hp => ?_)⟩
            obtain ⟨ρ1, hle, ⟨u, rfl, hv⟩, hS1, hK⟩ := hp
            exact go h hle hv hS1 hK
          · cases h
        · cases h
      · simp only at h
        have hv := compX_ok hF hy
        split at h
        · rename_i t v he
          injection h with h; injection h with h1 h; injection h with h2 h3
          rw [he] at hv
          have hv' := hv
          simp only [RelV] at hv
          obtain ⟨u, hx, hu⟩ := hv
          have hrun : (execOp a.eval op).run P w = .halt (.panic (a.eval x)) w := by
            obtain ⟨dst, op', ty, pos, after, guard⟩ := op
            simp only at hop; subst hop
            simp [execOp, Instr.panic, hx, goPanic, Sem.run, Result.andThen]
          refine Oper.toIn hnd ?_
          unfold Oper.wp
          rw [hrun]
          subst h1; subst h2; subst h3
          exact hQ _ _ _ ⟨ρ, Le.refl ρ, ⟨_, rfl, hv'⟩, hF, hS, Keeps.refl ρ s w, Marks.nil rfl⟩
        · cases h
      · simp only at h
        split at h
        · rename_i v s1 hs1
          obtain ⟨nx, u, w1, ρ1, h1, h2, hle, hv, hS1, hK⟩ := exec_ok hF hS hso hs1
          refine Oper.toIn hnd ?_
          unfold Oper.wp
          rw [h1]
          rcases h2 with rfl | ⟨rfl, rfl⟩
          · exact go h hle hv hS1 hK
          · exact go h hle hv hS1 hK
        · cases h

/-- One operation; what it writes is told. -/
theorem op_ok {P : Program} {own : Nat → Bool} {ops : Array Oper} {cf : Nat → List AV → St → Option CR} (hcf : CallOk P cf) {K : Act → World → Prop} {Q : Exit → Act → World → Prop} {op : Oper} {si : SI} (hsi : compSI P own ops op = some si)
    {fr : Fr} {s : St} {fr2 : Fr} {s2 : St} {yf : Nat → List AV → St → Option CR} (hyf : ∀ r args s, yf r args s = none) {ro : Option Nat} (h : runOps cf yf [si] fr s = some (.norm, fr2, s2)) {ρ : Ro} {a : Act} {w : World} (hF : RelF ρ fr a.tmps) (hS : RelS ρ s w)
    (hK : ∀ u ρ1 w1, Le ρ ρ1 → RelF ρ1 fr2 (a.put op.dst u).tmps → RelS ρ1 s2 w1 → Keeps ρ s w ρ1 s2 w1 → K (a.put op.dst u) w1) :
    if Region.wanted op (yielded ops a.tmps) then op.wpIn (WF ro) 0 P a w K Q else (∀ f, op.about P w a.eval = some f → (WF ro).fn f) ∧ K (a.put op.dst undef) w := by
  have hnd := compSI_nodefer hsi
  unfold compSI at hsi
  split at hsi
  rotate_left
  · cases hsi
  rename_i g j hg hj
  injection hsi with hsi; subst hsi
  simp only [runOps] at h
  have go : ∀ {v : AV} {u : Value} {ρ1 : Ro} {s1 : St} {w1 : World}, some (Out.norm, put fr op.dst v, s1) = some (Out.norm, fr2, s2) → Le ρ ρ1 → RelV ρ1 v u → RelS ρ1 s1 w1 → Keeps ρ s w ρ1 s1 w1 → K (a.put op.dst u) w1 := by
    intro v u ρ1 s1 w1 h1 hle hv hS1 hK1
    injection h1 with h1; injection h1 with _ h1; injection h1 with h2 h3; subst h2; subst h3
    exact hK u ρ1 w1 hle (put_rel (hF.mono hle) hv op.dst) hS1 hK1
  split at h
  · cases h
  · rename_i hw
    rw [wanted_rel hF hg hw]
    simp only [Bool.false_eq_true, if_false]
    exact ⟨fun _ _ => trivial, go h (Le.refl ρ) tup_nil hS (Keeps.refl ρ s w)⟩
  · rename_i hw
    rw [wanted_rel hF hg hw]
    simp only [if_true]
    refine Oper.toIn hnd ?_
    rcases compSJ_cases hj with ⟨f, args, ats, xs, hop, hxs, rfl⟩ | ⟨f, args, ats, y, xs, hop, hy, hxs, rfl⟩ | ⟨x, y, hop, hy, rfl⟩ | ⟨so, hso, rfl⟩
    · simp only at h
      have hargs := compXs_ok hF hxs
      have hrun : (execOp a.eval op).run P w = (callFunc f (args.toList.map a.eval).toArray).run P w := by
        obtain ⟨dst, op', ty, pos, after, guard⟩ := op
        simp only at hop; subst hop
        have e1 : (args.toList.map a.eval).toArray = args.map a.eval := by apply Array.ext'; simp
        rw [e1]
        simp [execOp, resolve, Deferred.ofValue, Act.eval, invoke]
      cases hcr : cf f (evs (ev fr) xs) s with
      | none => rw [hcr] at h; cases h
      | some cr =>
        rw [hcr] at h
        refine upon_call hrun ((hcf f _ s cr hcr ρ w _ hargs hS).mono (fun e w1 hp => ?_))
        cases cr with
        | ret v s1 =>
          obtain ⟨ρ1, hle, ⟨u, rfl, hv⟩, hS1, hK⟩ := hp
          exact go h hle hv hS1 hK
        | pan v s1 =>
          simp only at h
          injection h with h; injection h with h1 h; cases h1
    · simp only at h
      have hargs := compXs_ok hF hxs
      have hfv := compX_ok hF hy
      split at h
      · rename_i n first cap he
        rw [he] at hfv
        simp only [RelV] at hfv
        obtain ⟨as, bs, hf, h1, h2⟩ := hfv
        have hrun : (execOp a.eval op).run P w = (callFunc n (as.toList ++ (args.toList.map a.eval ++ bs.toList)).toArray).run P w := by
          obtain ⟨dst, op', ty, pos, after, guard⟩ := op
          simp only at hop; subst hop
          have e1 : (as ++ args.map a.eval ++ bs : Array Value) = (as.toList ++ (args.toList.map a.eval ++ bs.toList)).toArray := by
            apply Array.ext'
            simp
          simp only [execOp, resolve, hf, Deferred.ofValue, Sem.run_bind, Sem.run_pure, Result.andThen_ok, invoke]
          rw [e1]
        cases hcr : cf n (first ++ (evs (ev fr) xs ++ cap)) s with
        | none => rw [hcr] at h; cases h
        | some cr =>
          rw [hcr] at h
          refine upon_call hrun ((hcf n _ s cr hcr ρ w _ (h1.append (hargs.append h2)) hS).mono (fun e w1 hp => ?_))
          cases cr with
          | ret v s1 =>
            obtain ⟨ρ1, hle, ⟨u, rfl, hv⟩, hS1, hK⟩ := hp
            exact go h hle hv hS1 hK
          | pan v s1 =>
            simp only at h
            injection h with h; injection h with h1 h; cases h1
      · rw [hyf] at h; cases h
      · cases h
    · simp only at h
      have hv := compX_ok hF hy
      split at h
      · rename_i t v he
        injection h with h; injection h with h1 h; cases h1
      · cases h
    · simp only at h
      split at h
      · rename_i v s1 hs1
        obtain ⟨nx, u, w1, ρ1, h1, h2, hle, hv, hS1, hK⟩ := exec_ok hF hS hso hs1
        unfold Oper.wp
        rw [h1]
        rcases h2 with rfl | ⟨rfl, rfl⟩
        · exact go h hle hv hS1 hK
        · exact go h hle hv hS1 hK
      · cases h
end Go.Ab
