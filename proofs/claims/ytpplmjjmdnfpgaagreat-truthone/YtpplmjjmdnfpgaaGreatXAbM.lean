import Derived.Test.YtpplmjjmdnfpgaaGreatXAbL
set_option linter.unusedVariables false
namespace Go.Ab

/-! ### what an instruction reads and writes -/
def SOp.xs : SOp → List X
  | .mov x => [x]
  | .pick c a b => [c, a, b]
  | .alloc _ => []
  | .box x => [x]
  | .build _ ps => ps.map (·.2.2)
  | .lit _ _ ps => ps.map (·.2)
  | .litOwn _ _ _ _ _ ps => ps.map (·.2)
  | .load _ a => [a]
  | .loadAt c _ a => [c, a]
  | .store _ a x => [a, x]
  | .chk x => [x]
  | .bin _ x y => [x, y]
  | .beq _ x y => [x, y]
  | .isNil _ x => [x]
  | .eqs _ _ x y => [x, y]
  | .un _ x => [x]
  | .conv _ x => [x]
  | .convS x => [x]
  | .bytes x => [x]
  | .strOf x => [x]
  | .mkif _ x => [x]
  | .mkfn _ a b => a ++ b
  | .mkslice _ _ _ _ l c => [l, c]
  | .slice _ x lo hi => x :: (lo.toList ++ hi.toList)
  | .faddr _ x => [x]
  | .fld _ _ x => [x]
  | .iaddr _ x i => [x, i]
  | .iaddrA _ _ x i => [x, i]
  | .idxS x i => [x, i]
  | .idxA _ _ _ x i => [x, i]
  | .ext x _ => [x]
  | .len _ x => [x]
  | .minmax _ x xs => x :: xs
  | .append _ _ _ x y => [x, y]
  | .appendS _ _ x y => [x, y]

def SJ.xs : SJ → List X
  | .op o => o.xs
  | .call _ args => args
  | .callv f args => f :: args
  | .panic x => [x]

def X.slot : X → Option Nat
  | .t n => some n
  | .c _ => none

def SI.reads (si : SI) : List Nat := (si.o.xs.filterMap X.slot) ++ (match si.g with | some (t, _) => [t] | none => [])

def DI.reads : DI → List Nat
  | .ins _ _ h si => h ++ si.reads
  | .fz _ _ _ _ x => x.slot.toList
def DI.idx : DI → Nat
  | .ins i _ _ _ => i
  | .fz i _ _ _ _ => i
def DI.cls : DI → Nat
  | .ins _ c _ _ => c
  | .fz _ _ _ _ _ => 2

theorem fillP_congr {e e' : X → AV} : ∀ {ps : List (Nat × Nat × X)} {z : List AV}, (∀ x ∈ ps.map (·.2.2), e x = e' x) → fillP e z ps = fillP e' z ps
  | [], z, _ => by simp [fillP]
  | (o, sz, x) :: ps, z, h => by
    simp only [fillP]
    rw [h x (by simp)]
    split
    · split
      · exact fillP_congr (fun y hy => h y (by simp at hy ⊢; exact .inr hy))
      · rfl
    · rfl
theorem fillR_congr {e e' : X → AV} {sz : Nat} : ∀ {ps : List (Nat × X)} {z : List (List AV)}, (∀ x ∈ ps.map (·.2), e x = e' x) → fillR e sz z ps = fillR e' sz z ps
  | [], z, _ => by simp [fillR]
  | (o, x) :: ps, z, h => by
    simp only [fillR]
    rw [h x (by simp)]
    split
    · split
      · exact fillR_congr (fun y hy => h y (by simp at hy ⊢; exact .inr hy))
      · rfl
    · rfl
theorem evs_congr {e e' : X → AV} {l : List X} (h : ∀ x ∈ l, e x = e' x) : evs e l = evs e' l := List.map_congr_left h

theorem sop1_congr {e e' : X → AV} {o : SOp} {s : St} (h : ∀ x ∈ o.xs, e x = e' x) : sop1 o e s = sop1 o e' s := by
  cases o <;> simp only [SOp.xs, List.mem_cons, List.not_mem_nil, or_false, forall_eq_or_imp, forall_eq, List.mem_append] at h
  case mov => simp [sop1, h]
  case pick => simp [sop1, h]
  case alloc => rfl
  case box => simp [sop1, h]
  case build => simp only [sop1]; rw [fillP_congr h]
  case lit => simp only [sop1]; rw [fillR_congr h]
  case litOwn => simp only [sop1]; rw [fillR_congr h]
  case load => simp [sop1, h]
  case loadAt => simp [sop1, h]
  case store => simp [sop1, h]
  case chk => simp [sop1, h]
  case bin => simp [sop1, h]
  case beq => simp [sop1, h]
  case isNil => simp [sop1, h]
  case eqs => simp [sop1, h]
  case un => simp [sop1, h]
  case conv => simp [sop1, h]
  case convS => simp [sop1, h]
  case bytes => simp [sop1, h]
  case strOf => simp [sop1, h]
  case mkif => simp [sop1, h]
  case mkfn f a b => simp only [sop1]; rw [evs_congr (fun x hx => h x (.inl hx)), evs_congr (fun x hx => h x (.inr hx))]
  case mkslice => simp [sop1, h]
  case slice sz x lo hi =>
    have h1 : bound? e 0 lo = bound? e' 0 lo := by
      cases lo with
      | none => rfl
      | some y => simp only [bound?]; rw [h.2 y (by simp)]
    have h2 : ∀ n, bound? e n hi = bound? e' n hi := by
      intro n
      cases hi with
      | none => rfl
      | some y => simp only [bound?]; rw [h.2 y (by simp)]
    simp only [sop1, h.1, h1, h2]
  case faddr => simp [sop1, h]
  case fld => simp [sop1, h]
  case iaddr => simp [sop1, h]
  case iaddrA => simp [sop1, h]
  case idxS => simp [sop1, h]
  case idxA => simp [sop1, h]
  case ext => simp [sop1, h]
  case len str x => cases str <;> simp [sop1, h]
  case minmax mx x xs => simp only [sop1, h.1]; rw [evs_congr h.2]
  case append => simp [sop1, h]
  case appendS => simp [sop1, h]

/-- It asks nothing of the state. -/
def SOp.pureB : SOp → Bool
  | .mov _ => true
  | .pick _ _ _ => true
  | .build _ _ => true
  | .lit _ _ _ => true
  | .chk _ => true
  | .bin _ _ _ => true
  | .beq _ _ _ => true
  | .isNil _ _ => true
  | .eqs _ _ _ _ => true
  | .un _ _ => true
  | .conv _ _ => true
  | .convS _ => true
  | .bytes _ => true
  | .mkif _ _ => true
  | .mkfn _ _ _ => true
  | .faddr _ _ => true
  | .fld _ _ _ => true
  | .iaddrA _ _ _ _ => true
  | .idxS _ _ => true
  | .idxA _ _ _ _ _ => true
  | .ext _ _ => true
  | .len true _ => true
  | .minmax _ _ _ => true
  | _ => false
def SOp.readB : SOp → Bool
  | .load _ _ => true
  | .loadAt _ _ _ => true
  | .strOf _ => true
  | .iaddr _ _ _ => true
  | .len false _ => true
  | .slice 0 _ _ _ => true
  | o => o.pureB

theorem pure_map {o : SOp} (h : o.pureB = true) (e : X → AV) : ∀ s, sop1 o e s = ((sop1 o e []).map (·.1)).map fun v => (v, s) := by
  intro s
  cases o <;> simp [SOp.pureB] at h
  case len str x =>
    cases str <;> simp at h
    simp only [sop1]
    cases e x <;> rfl
  case pick => simp only [sop1]; split <;> rfl
  case beq => simp only [sop1]; split <;> rfl
  all_goals
    simp only [sop1]
    repeat' split
    all_goals first | rfl | simp_all
theorem pure_state {o : SOp} (h : o.pureB = true) {e : X → AV} {s s' : St} {v : AV} (hr : sop1 o e s = some (v, s')) : s' = s ∧ ∀ s2, sop1 o e s2 = some (v, s2) := by
  have h1 := pure_map h e
  rw [h1 s] at hr
  simp only [Option.map_eq_some_iff] at hr
  obtain ⟨u, ⟨p, hp, rfl⟩, h2⟩ := hr
  injection h2 with h2 h3
  refine ⟨h3.symm, fun s2 => ?_⟩
  rw [h1 s2, hp]
  simp [h2]

theorem read_state {o : SOp} (h : o.readB = true) {e : X → AV} {s s' : St} {v : AV} (hr : sop1 o e s = some (v, s')) : s' = s := by
  cases o with
  | loadAt c n a =>
    simp only [sop1] at hr
    split at hr
    · split at hr
      · split at hr
        · injection hr with hr; injection hr with h1 h2; exact h2.symm
        · cases hr
      · cases hr
    · split at hr
      · injection hr with hr; injection hr with h1 h2; exact h2.symm
      · cases hr
    · cases hr
  | load n a =>
    simp only [sop1] at hr
    split at hr
    · injection hr with hr; injection hr with h1 h2; exact h2.symm
    · cases hr
  | strOf x =>
    simp only [sop1] at hr
    split at hr
    · split at hr
      · injection hr with hr; injection hr with h1 h2; exact h2.symm
      · cases hr
    · cases hr
  | iaddr sz x i =>
    simp only [sop1] at hr
    split at hr
    · split at hr
      · split at hr
        · split at hr
          · split at hr
            · injection hr with hr; injection hr with h1 h2; exact h2.symm
            · cases hr
          · cases hr
        · split at hr
          · split at hr
            · injection hr with hr; injection hr with h1 h2; exact h2.symm
            · cases hr
          · cases hr
        · cases hr
      · cases hr
    · cases hr
  | len str x =>
    cases str
    · simp only [sop1] at hr
      split at hr
      · cases hr
      · split at hr
        · injection hr with hr; injection hr with h1 h2; exact h2.symm
        · cases hr
    · exact (pure_state rfl hr).1
  | slice sz x lo hi =>
    cases sz with
    | zero =>
      simp only [sop1] at hr
      split at hr
      · split at hr
        · unfold sliceA at hr
          split at hr
          · split at hr
            · injection hr with hr; injection hr with h1 h2; exact h2.symm
            · cases hr
          · split at hr
            · rename_i h3; omega
            · cases hr
          · split at hr
            · rename_i h3; omega
            · cases hr
          · split at hr
            · split at hr
              · rename_i h3; omega
              · cases hr
            · cases hr
          · cases hr
        · cases hr
      · cases hr
    | succ n => simp [SOp.readB, SOp.pureB] at h
  | _ => exact (pure_state (by simpa [SOp.readB] using h) hr).1
end Go.Ab
