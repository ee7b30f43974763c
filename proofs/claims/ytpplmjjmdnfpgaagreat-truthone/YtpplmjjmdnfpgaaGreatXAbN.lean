import Derived.Test.YtpplmjjmdnfpgaaGreatXAbR
import Derived.Below
set_option linter.unusedVariables false
namespace Go.Ab

/-! ### from code to ours -/
def compList (P : Program) (own : Nat → Bool) (ops : Array Oper) : List Oper → Option (List SI)
  | [] => some []
  | o :: r => match compSI P own ops o, compList P own ops r with
    | some si, some l => some (si :: l)
    | _, _ => none

def comp (P : Program) (own : Nat → Bool) : Code → Option SCode
  | .skip => some .skip
  | .region _ ops false => (compList P own ops ops.toList).map .ops
  | .region _ ops true => (compDraw P own ops).map fun p => .drw p.1 p.2
  | .seq a b => match comp P own a, comp P own b with
    | some a, some b => some (.seq a b)
    | _, _ => none
  | .cond c a b => match compX c, comp P own a, comp P own b with
    | some c, some a, some b => some (.cond c a b)
    | _, _, _ => none
  | .block id c => (comp P own c).map (.block id)
  | .loop c => (comp P own c).map .loop
  | .exit id => some (.exit id)
  | .ret => some .ret
  | .rangeFunc g ps asg body => match compX g, comp P own asg, comp P own body with
    | some g, some a, some b => some (.range g ps.toList a b)
    | _, _, _ => none
  | _ => none

def compRes (P : Program) : List ResultVar → Option (List RV)
  | [] => some []
  | .tmp t :: r => (compRes P r).map (RV.tmp t :: ·)
  | .cell a t :: r => match partOf P t, compRes P r with
    | some n, some l => some (.cell a n :: l)
    | _, _ => none

/-- One of our functions is the program's. -/
structure FnOk (P : Program) (f : FuncId) (sf : SFn) (own : Nat → Bool) : Prop where
  out : ∃ fn C, P.funcs[f]? = some fn ∧ (fn.name == "runtime.NumGoroutine") = false ∧ fn.body = some C ∧ fn.ntmps = sf.ntmps ∧ compRes P fn.results.toList = some sf.res ∧ comp P own C = some sf.body.strip

structure TblOk (P : Program) (tb : Tbl) : Prop where
  mixed : P.follows .mixedOrders = true
  fn : ∀ f sf, tb.fn f = some sf → ∃ own, FnOk P f sf own
  prim : ∀ f p, tb.prim f = some p → ∀ args v, p args = some v → flat v = true → ∀ (ρ : Ro) (w : World) (vals : List Value), RelT ρ args vals → RelS ρ [] w → CallF P f vals.toArray w (fun e w' => (∃ u, e = .returned u ∧ RelV ρ v u) ∧ Go.RowKit.Below w.heap.size w w')
  sprim : ∀ f p, tb.sprim f = some p → ∀ args s cr, p args s = some cr → ∀ (ρ : Ro) (w : World) (vals : List Value), RelT ρ args vals → RelS ρ s w → CallF P f vals.toArray w (CRPost ρ s w cr)

theorem comps_list {P : Program} {own : Nat → Bool} {ops : Array Oper} : ∀ {l : List Oper} {is : List SI} (k : Nat), (∀ j, l[j]? = ops[k + j]?) → compList P own ops l = some is → Comps P own ops (List.range' k l.length) is
  | [], is, k, hk, h => by simp [compList] at h; subst h; exact .nil
  | o :: l, is, k, hk, h => by
    simp only [compList] at h
    split at h
    · rename_i si is' h1 h2
      injection h with h; subst h
      simp only [List.length_cons, List.range'_succ]
      exact .cons (by simpa using (hk 0).symm) h1 (comps_list (k + 1) (fun j => by have := hk (j + 1); simpa [Nat.add_assoc, Nat.add_comm 1 j] using this) h2)
    · cases h

/-- What the codes of the loops come of. -/
def YOk (P : Program) (ρ : Ro) (Y : YT) : Prop := ∀ r asg body, Y.2.lookup r = some (asg, body) → ∀ ρ1, Le ρ ρ1 → ∀ e L, ρ1.loc[r]? = some e → e.lp = some L → ∃ own, comp P own L.assign = some asg.strip ∧ comp P own L.body = some body.strip
theorem YOk.mono {P : Program} {ρ ρ' : Ro} {Y : YT} (h : YOk P ρ Y) (hle : Le ρ ρ') : YOk P ρ' Y := fun r a b hl ρ1 h1 => h r a b hl ρ1 (hle.trans h1)
theorem YOk.nil {P : Program} {ρ : Ro} {b : Bool} : YOk P ρ (b, []) := fun r a b hl => by simp [List.lookup] at hl

/-- What holds of a runner of code. -/
def RunOk (P : Program) (R : YT → SCode → Fr → St → Res) : Prop :=
  ∀ Y c fr s o fr' s', R Y c fr s = some (o, fr', s') → ∀ (C : Code) (own : Nat → Bool), comp P own C = some c.strip → ∀ (ro : Option Nat), (Y.1 = false → ro = none) → ∀ (ρ : Ro) (a : Act) (w : World), RelF ρ fr a.tmps → RelS ρ s w → YOk P ρ Y → C.wpIn (WF ro) 0 P (Post ρ s w a o fr' s') a w

/-! ### a block of book-keeping is turned -/
theorem RelS.turn {ρ : Ro} {s : St} {w : World} (h : RelS ρ s w) {D : Nat} {o o' : Obj} (ho : w.heap[D]? = some o) (hc : ∀ c t f, o ≠ .cells c t f) (hl : ¬ Liv ρ s D) : RelS ρ s (w.putObj D o') := by
  have hw : ∀ k, k ≠ D → (w.putObj D o').heap[k]? = w.heap[k]? := fun k hk => World.putObj_heap_other hk
  refine ⟨h.len, fun r b e h1 h2 => (h.blk r b e h1 h2).mono (Le.refl ρ) (fun hg => hw _ (fun he => hl ⟨r, b, e, h1, hg, h2, he⟩)), h.apart, h.sep, fun b q v hv => ?_⟩
  have h1 := h.im b q v hv
  have hb : b ≠ D := by
    rintro rfl
    simp only [World.cell?, ho] at h1
    cases o with
    | cells c t f => exact absurd rfl (hc c t f)
    | _ => simp at h1
  rw [← h1]
  exact World.cell?_of_block (hw b hb)
theorem Keeps.turn {ρ ρ' : Ro} {s s' : St} {w w' : World} (h : Keeps ρ s w ρ' s' w') {D : Nat} {o' : Obj} (hD : w.heap.size ≤ D) : Keeps ρ s w ρ' s' (w'.putObj D o') :=
  ⟨h.os, h.tape, h.output, by rw [World.putObj_size]; exact h.size, fun k hk hl => by rw [World.putObj_heap_other (by omega)]; exact h.block k hk hl, h.live, h.im⟩

theorem leaves_marks {P : Program} {fn : Func} {tmps : Array Value} {R : Ending → World → Prop} {u : FrameMode} {ρ ρ' : Ro} {s s' : St} {w : World} (hu : u ≠ .run)
    (hR : ∀ w2, RelS ρ' s' w2 → Keeps ρ s w ρ' s' w2 → LeavesIn (WF none) 0 P fn tmps R [] u w2) : ∀ (Ds : List Nat) (w1 : World), Ds.Nodup → RelS ρ' s' w1 → Keeps ρ s w ρ' s' w1 → (∀ D ∈ Ds, w.heap.size ≤ D ∧ w1.heap[D]? = some (.deferred (some [])) ∧ ¬ Liv ρ' s' D) →
    LeavesInM (WF none) 0 P fn tmps R (Ds.map mark) u w1
  | [], w1, _, hS, hK, _ => hR w1 hS hK
  | D :: Ds, w1, hn, hS, hK, hD => by
    obtain ⟨q1, q2, q3⟩ := hD D (by simp)
    rw [List.nodup_cons] at hn
    refine ⟨hu, .inl ⟨D, _, rfl, run_takeDeferred q2, ?_⟩⟩
    refine leaves_marks hu hR Ds _ hn.2 (hS.turn q2 (by intros; simp) q3) (hK.turn q1) (fun D' hD' => ?_)
    obtain ⟨p1, p2, p3⟩ := hD D' (by simp [hD'])
    exact ⟨p1, by rw [World.putObj_heap_other (fun e => hn.1 (by rw [← e]; exact hD'))]; exact p2, p3⟩

def resSem (a : Act) : ResultVar → Sem Value
  | .tmp t => pure (a.tmps.getD t undef)
  | .cell b t => do loadVar t (← asAddr (a.tmps.getD b undef))

theorem res_ok {P : Program} {ρ : Ro} {fr : Fr} {s : St} {a : Act} {w : World} (hF : RelF ρ fr a.tmps) (hS : RelS ρ s w) : ∀ {rs : List ResultVar} {rv : List RV} {vs : List AV}, compRes P rs = some rv → chainO (resOf fr s) rv = some vs →
    ∃ us : List Value, (rs.mapM (resSem a)).run P w = .ok us w ∧ RelT ρ vs us
  | [], rv, vs, h, hv => by
    simp [compRes] at h; subst h
    simp [chainO] at hv; subst hv
    exact ⟨[], by simp, by simp [RelT]⟩
  | .tmp t :: rs, rv, vs, h, hv => by
    simp only [compRes, Option.map_eq_some_iff] at h
    obtain ⟨l, hl, rfl⟩ := h
    simp only [chainO] at hv
    split at hv
    · rename_i y hy
      split at hv
      · rename_i l' hl'
        injection hv with hv; subst hv
        obtain ⟨us, h1, h2⟩ := res_ok hF hS hl hl'
        refine ⟨a.tmps.getD t undef :: us, by simp only [List.mapM_cons, resSem, Sem.run_bind, Sem.run_pure, Result.andThen_ok, h1], ?_⟩
        simp only [RelT]
        refine ⟨_, _, rfl, ?_, h2⟩
        have := hF.at_ t
        simp only [resOf] at hy
        simpa [List.getD, hy] using this
      · cases hv
    · cases hv
  | .cell b t :: rs, rv, vs, h, hv => by
    simp only [compRes] at h
    split at h
    · rename_i n l hn hl
      injection h with h; subst h
      simp only [chainO] at hv
      split at hv
      · rename_i y hy
        split at hv
        · rename_i l' hl'
          injection hv with hv; subst hv
          obtain ⟨us, h1, h2⟩ := res_ok hF hS hl hl'
          simp only [resOf] at hy
          obtain ⟨u, h3, h4⟩ := loadA_ok hS hn (hF.at_ b) hy
          have h5 : (resSem a (.cell b t)).run P w = .ok u w := by
            simp only [resSem]
            simp only [Instr.loadAt] at h3
            revert h3
            cases a.tmps.getD b undef <;> simp [Instr.sureAddr, asAddr, stuck, Sem.run, Result.andThen]
            rename_i x
            cases x <;> simp [stuck, Sem.run, Result.andThen]
          refine ⟨u :: us, by simp only [List.mapM_cons, Sem.run_bind] at h5 ⊢; rw [h5]; simp only [Sem.run_pure, Result.andThen_ok, h1], ?_⟩
          simp only [RelT]
          exact ⟨_, _, rfl, h4, h2⟩
        · cases hv
      · cases hv
    · cases h

theorem call_fn {P : Program} {f : FuncId} {fn : Func} {C : Code} {args : Array Value} {w : World} {R : Ending → World → Prop} (hf : P.funcs[f]? = some fn) (hn : (fn.name == "runtime.NumGoroutine") = false) (hb : fn.body = some C) (h : Calls P f args w R) : CallF P f args w R := by
  unfold CallF
  have : (callFunc f args).run P w = .ok (.enter f args) w := by
    simp only [callFunc, Sem.run_bind, program, Sem.run, Result.andThen_ok, hf, hn, hb]
    simp
  rw [this]
  exact h

theorem pad_rel {ρ : Ro} {sf : SFn} {args : List AV} {vals : List Value} {n : Nat} (hn : n = sf.ntmps) (h : RelT ρ args vals) : RelF ρ (pad sf args) (vals.toArray ++ Array.replicate (n - vals.toArray.size) undef) := by
  subst hn
  have hl := h.length
  refine ⟨by simp [pad, hl], fun t => ?_⟩
  rw [Array.getD_eq_getD_getElem?]
  simp only [pad]
  by_cases ht : t < args.length
  · rw [Array.getElem?_append_left (by simp; omega)]
    have h1 : (args ++ List.replicate (sf.ntmps - args.length) (AV.tup [])).getD t .any = args[t] := by
      simp only [List.getD]
      rw [List.getElem?_append_left ht, List.getElem?_eq_getElem ht]
      rfl
    rw [h1]
    obtain ⟨u, hu, hv⟩ := h.get (List.getElem?_eq_getElem ht)
    have : vals.toArray[t]? = some u := by simpa using hu
    rw [this]; exact hv
  · rw [Array.getElem?_append_right (by simp; omega)]
    have h1 : (args ++ List.replicate (sf.ntmps - args.length) (AV.tup [])).getD t .any = (List.replicate (sf.ntmps - args.length) (AV.tup [])).getD (t - args.length) .any := by
      simp only [List.getD]
      rw [List.getElem?_append_right (by omega)]
    rw [h1]
    by_cases h2 : t - args.length < sf.ntmps - args.length
    · have h3 : (List.replicate (sf.ntmps - args.length) (AV.tup [])).getD (t - args.length) .any = .tup [] := by simp [List.getD, h2]
      rw [h3]
      have h4 : (Array.replicate (sf.ntmps - vals.toArray.size) undef)[t - vals.toArray.size]? = some undef := by
        simp only [List.size_toArray]; rw [← hl]; simp [h2]
      rw [h4]; exact tup_nil
    · have h3 : (List.replicate (sf.ntmps - args.length) (AV.tup [])).getD (t - args.length) .any = .any := by simp [List.getD, h2]
      rw [h3]; simp [RelV]

theorem calls_fn0 {P : Program} {w : World} {f : FuncId} {fn : Func} {args : Array Value} {R : Ending → World → Prop} (hf : P.funcs[f]? = some fn) (hn : (fn.name == "runtime.NumGoroutine") = false) (hb : fn.body.isSome = true) (h : CallF P f args w R) : Calls P f args w R := by
  unfold CallF at h
  obtain ⟨C, hC⟩ := Option.isSome_iff_exists.1 hb
  have : (callFunc f args).run P w = .ok (.enter f args) w := by
    simp only [callFunc, Sem.run_bind, program, Sem.run, Result.andThen_ok, hf, hn, hC]
    simp
  rw [this] at h
  exact h

theorem body_ok {P : Program} {R : YT → SCode → Fr → St → Res} (hR : RunOk P R) {Y : YT} {f : FuncId} {sf : SFn} {own : Nat → Bool} (hf : FnOk P f sf own) {args : List AV} {s : St} {o : Out} {fr' : Fr} {s' : St} {cr : CR} (h : R Y sf.body (pad sf args) s = some (o, fr', s')) (hfin : fin sf o fr' s' = some cr)
    {ρ : Ro} {w : World} {vals : List Value} (ha : RelT ρ args vals) (hS : RelS ρ s w) (hY : YOk P ρ Y) : CallF P f vals.toArray w (CRPost ρ s w cr) := by
  obtain ⟨fn, C, h1, h2, h3, h4, h5, h6⟩ := hf.out
  refine call_fn h1 h2 h3 ((WF_calls (ro := none) (n := 0)).1 (callsIn_of_wp_marks h1 h3 trivial (wpIn_mono (hR _ _ _ _ _ _ _ h C own h6 none (fun _ => rfl) ρ _ w (pad_rel h4 ha) hS hY) (fun e a' w' hp => ?_)) rfl))
  obtain ⟨ρ', hle, ho, hF', hS', hK, Ds, hM⟩ := hp
  have hdef : a'.defers = Ds.map mark := by rw [hM.defers]; simp
  have hret : ∀ {v : AV}, resA sf.res fr' s' = some v → ∀ w2, RelS ρ' s' w2 → ∃ u, (results fn a'.tmps).run P w2 = .ok u w2 ∧ RelV ρ' v u := by
    intro v hv w2 hS'
    unfold resA at hv
    have key : ∀ vs, chainO (resOf fr' s') sf.res = some vs → ∃ us : List Value, RelT ρ' vs us ∧ (results fn a'.tmps).run P w2 = .ok (if h : us.toArray.size = 1 then us.toArray[0] else .tuple us.toArray) w2 := by
      intro vs hvs
      obtain ⟨us, k1, k2⟩ := res_ok hF' hS' h5 hvs
      refine ⟨us, k2, ?_⟩
      have hres : results fn a'.tmps = (do let vs ← fn.results.mapM (resSem a'); pure (if h : vs.size = 1 then vs[0] else .tuple vs)) := by
        unfold results
        congr
      rw [hres, Array.mapM_eq_mapM_toList]
      simp only [← bind_pure_comp, Sem.run_bind, k1, Result.andThen_ok, Sem.run_pure]
    split at hv
    · rename_i v' hvs
      injection hv with hv; subst hv
      obtain ⟨us, k1, k2⟩ := key _ hvs
      simp only [RelT] at k1
      obtain ⟨u, ur, rfl, k3, rfl⟩ := k1
      exact ⟨u, by simpa using k2, k3⟩
    · rename_i vs hne hvs
      injection hv with hv; subst hv
      obtain ⟨us, k1, k2⟩ := key _ hvs
      refine ⟨.tuple us.toArray, ?_, by simp only [RelV]; exact ⟨_, rfl, k1⟩⟩
      rw [k2, dif_neg]
      intro hsz
      have hl := k1.length
      simp only [List.size_toArray] at hsz
      rw [hsz] at hl
      match vs, hl, hne with
      | [x], _, hne => exact hne x rfl
    · cases hv
  cases o with
  | norm =>
    simp only [fin] at hfin
    split at hfin
    · rename_i v hv
      injection hfin with hfin; subst hfin
      simp only [OutR] at ho; subst ho
      show LeavesInM (WF none) 0 P fn a'.tmps _ a'.defers .returning w'
      rw [hdef]
      refine leaves_marks (by simp) (fun w2 hS2 hK2 => ?_) Ds w' hM.nodup hS' hK hM.each
      obtain ⟨u, k1, k2⟩ := hret hv w2 hS2
      exact ⟨u, k1, ρ', hle, ⟨u, rfl, k2⟩, hS2, hK2⟩
    · cases hfin
  | ret =>
    simp only [fin] at hfin
    split at hfin
    · rename_i v hv
      injection hfin with hfin; subst hfin
      simp only [OutR] at ho; subst ho
      show LeavesInM (WF none) 0 P fn a'.tmps _ a'.defers .returning w'
      rw [hdef]
      refine leaves_marks (by simp) (fun w2 hS2 hK2 => ?_) Ds w' hM.nodup hS' hK hM.each
      obtain ⟨u, k1, k2⟩ := hret hv w2 hS2
      exact ⟨u, k1, ρ', hle, ⟨u, rfl, k2⟩, hS2, hK2⟩
    · cases hfin
  | exit id => simp [fin] at hfin
  | pan v =>
    simp only [fin] at hfin
    injection hfin with hfin; subst hfin
    obtain ⟨u, rfl, hv⟩ := ho
    show LeavesInM (WF none) 0 P fn a'.tmps _ a'.defers (.panicking _) w'
    rw [hdef]
    refine leaves_marks (by simp) (fun w2 hS2 hK2 => ?_) Ds w' hM.nodup hS' hK hM.each
    exact (show CRPost ρ s w (.pan v s') (.panicked [{ v := u, recovered := false }]) w2 from ⟨ρ', hle, ⟨u, rfl, hv⟩, hS2, hK2⟩)

theorem nilS {ρ : Ro} {w : World} (him : ∀ b o v, ρ.im b o = some v → w.cell? ⟨b, o, none⟩ = some v) (hl : ρ.loc = []) : RelS ρ [] w :=
  ⟨by simp [hl], fun r b e h => by simp at h, fun r r' b b' e e' h => by simp at h, fun k ⟨r, b, e, h, _⟩ => by simp at h, him⟩
theorem not_live_nil {ρ : Ro} {k : Nat} : ¬ Liv ρ [] k := fun ⟨r, b, e, h, _⟩ => by simp at h

/-- A call that writes nothing of its caller's. -/
theorem pure_ok {P : Program} {R : YT → SCode → Fr → St → Res} (hR : RunOk P R) {f : FuncId} {sf : SFn} {own : Nat → Bool} (hf : FnOk P f sf own) {args args' : List AV} {s : St} {o : Out} {fr' : Fr} {s' : St} {cr0 cr : CR} (hargs : chainO (frzN s frzDepth) args = some args')
    {Y : YT} (hY : ∀ ρ, YOk P ρ Y) (h : R Y sf.body (pad sf args') [] = some (o, fr', s')) (hfin : fin sf o fr' s' = some cr0) (hback : back args s cr0 = some cr)
    {ρ : Ro} {w : World} {vals : List Value} (ha : RelT ρ args vals) (hS : RelS ρ s w) : CallF P f vals.toArray w (CRPost ρ s w cr) := by
  -- the callee sees all memory as_ it is, or, where nothing leads into the state, what was fixed
  have main : ∀ (ρ0 : Ro), ρ0.loc = [] → (∀ b o v, ρ0.im b o = some v → w.cell? ⟨b, o, none⟩ = some v) → RelT ρ0 args' vals →
      (∀ (v v' : AV), (cr0 = .ret v s' ∨ cr0 = .pan v s') → frzN s' frzDepth v = some v' → ∀ (ρ1 ρ2 : Ro) (w1 : World) (u : Value), (∀ b o x, ρ1.im b o = some x → ρ2.im b o = some x) → flat v' = true ∨ (∀ b o x, ρ0.im b o = some x → ρ.im b o = some x)) → True := fun _ _ _ _ _ => trivial
  clear main
  have key : ∀ (ρ0 : Ro), ρ0.loc = [] → (∀ b o v, ρ0.im b o = some v → w.cell? ⟨b, o, none⟩ = some v) → RelT ρ0 args' vals →
      (∀ v', (∃ sx, cr = .ret v' sx ∨ cr = .pan v' sx) → flat v' = true ∨ (∀ b o x, ρ0.im b o = some x → ρ.im b o = some x)) → CallF P f vals.toArray w (CRPost ρ s w cr) := by
    intro ρ0 hl him ha0 hfl
    refine (body_ok hR hf h hfin ha0 (nilS him hl) (hY _)).mono (fun e w1 hp => ?_)
    -- the caller's view behind the call
    have fin' : ∀ (v v' : AV) (u : Value) (ρ1 : Ro) (s1 : St), Le ρ0 ρ1 → RelV ρ1 v u → RelS ρ1 s1 w1 → Keeps ρ0 [] w ρ1 s1 w1 → frzN s1 frzDepth v = some v' → (flat v' = true ∨ (∀ b o x, ρ0.im b o = some x → ρ.im b o = some x)) →
        ∃ ρ', Le ρ ρ' ∧ RelV ρ' v' u ∧ RelS ρ' s w1 ∧ Keeps ρ s w ρ' s w1 := by
      intro v v' u ρ1 s1 hle hv hS1 hK hfrz hor
      have hb : ∀ k, k < w.heap.size → w1.heap[k]? = w.heap[k]? := fun k hk => hK.block k hk not_live_nil
      let ρ' : Ro := { im := fun b o => if w.heap.size ≤ b then w1.cell? ⟨b, o, none⟩ else ρ.im b o, loc := ρ.loc }
      have hle' : Le ρ ρ' := by
        refine ⟨fun b o x hx => ?_, fun r e he => ⟨e, he, .inl rfl⟩⟩
        simp only [ρ']
        rw [if_neg (by have := hS.im_lt hx; omega)]
        exact hx
      have hSg := hS.grown hb
      have hS' : RelS ρ' s w1 := by
        refine ⟨hSg.len, fun r b e h1 h2 => (hSg.blk r b e h1 h2).mono hle' (fun _ => rfl), hSg.apart, fun k hk o => ?_, fun b o x hx => ?_⟩
        · have hk' : Liv ρ s k := hk
          simp only [ρ']
          rw [if_neg (by have := hS.live_lt hk'; omega)]
          exact hS.sep k hk' o
        · simp only [ρ'] at hx
          split at hx
          · exact hx
          · exact hSg.im b o x hx
      have hK' : Keeps ρ s w ρ' s w1 := by
        refine ⟨hK.os, hK.tape, hK.output, hK.size, fun k hk _ => hb k hk, fun k hk => .inl hk, fun b o x hx => ?_⟩
        simp only [ρ'] at hx
        split at hx
        · rename_i hge; exact .inr (.inl hge)
        · exact .inl hx
      refine ⟨ρ', hle', ?_, hS', hK'⟩
      let ρa : Ro := { im := fun b o => w1.cell? ⟨b, o, none⟩, loc := [] }
      rcases hor with hfl | hsub
      · have h1 : RelV ρa v' u := frzN_ok hS1 (fun b o x hx => hS1.im b o x hx) (fun k _ o x hx => hx) frzDepth v v' u hfrz hv
        exact flat_ok v' u hfl h1
      · refine frzN_ok hS1 (fun b o x hx => ?_) (fun k hk o x hx => ?_) frzDepth v v' u hfrz hv
        · simp only [ρ']
          split
          · exact hS1.im b o x hx
          · rename_i hge
            rcases hK.im b o x hx with h2 | h2 | h2
            · exact hsub b o x h2
            · exact absurd h2 hge
            · exact absurd h2 not_live_nil
        · simp only [ρ']
          rcases hK.live k hk with h2 | h2
          · exact absurd h2 not_live_nil
          · rw [if_pos h2]; exact hx
    cases cr0 with
    | ret v s1 =>
      simp only [back] at hback
      split at hback
      · rename_i v' hfrz
        split at hback
        · injection hback with hback; subst hback
          obtain ⟨ρ1, hle, ⟨u, rfl, hv⟩, hS1, hK⟩ := hp
          obtain ⟨ρ', k1, k2, k3, k4⟩ := fin' v v' u ρ1 s1 hle hv hS1 hK hfrz (hfl v' ⟨s, .inl rfl⟩)
          exact ⟨ρ', k1, ⟨u, rfl, k2⟩, k3, k4⟩
        · cases hback
      · cases hback
    | pan v s1 =>
      simp only [back] at hback
      split at hback
      · rename_i v' hfrz
        split at hback
        · injection hback with hback; subst hback
          obtain ⟨ρ1, hle, ⟨u, rfl, hv⟩, hS1, hK⟩ := hp
          obtain ⟨ρ', k1, k2, k3, k4⟩ := fin' v v' u ρ1 s1 hle hv hS1 hK hfrz (hfl v' ⟨s, .inr rfl⟩)
          exact ⟨ρ', k1, ⟨u, rfl, k2⟩, k3, k4⟩
        · cases hback
      · cases hback
  have hor : noRefL args = true ∨ (∀ v', (∃ sx, cr = .ret v' sx ∨ cr = .pan v' sx) → flat v' = true) := by
    cases cr0 with
    | ret v s1 =>
      simp only [back] at hback
      split at hback
      · split at hback
        · rename_i hc
          injection hback with hback; subst hback
          rw [Bool.or_eq_true] at hc
          refine hc.imp id (fun hc v' ⟨sx, he⟩ => ?_)
          rcases he with he | he <;> cases he
          exact hc
        · cases hback
      · cases hback
    | pan v s1 =>
      simp only [back] at hback
      split at hback
      · split at hback
        · rename_i hc
          injection hback with hback; subst hback
          rw [Bool.or_eq_true] at hc
          refine hc.imp id (fun hc v' ⟨sx, he⟩ => ?_)
          rcases he with he | he <;> cases he
          exact hc
        · cases hback
      · cases hback
  rcases hor with hnr | hfl
  · refine key { im := ρ.im, loc := [] } rfl hS.im (chain_RelT (fun x hx x' v h1 h2 => frzN_noRef (ρ2 := { im := ρ.im, loc := [] }) hS (fun _ _ _ h => h) frzDepth (noRefL_mem hnr x hx) h1 h2) hargs ha) (fun _ _ => .inr (fun _ _ _ h => h))
  · refine key { im := fun b o => w.cell? ⟨b, o, none⟩, loc := [] } rfl (fun _ _ _ h => h) (chain_RelT (fun x hx x' v h1 h2 => frzN_ok hS hS.im (fun k _ o x hx => hx) frzDepth x x' v h1 h2) hargs ha) (fun v' hv' => .inl (hfl v' hv'))

theorem doCall_ok {P : Program} {tb : Tbl} (htb : TblOk P tb) {R : YT → SCode → Fr → St → Res} (hR : RunOk P R) : CallOk P (doCall tb R) := by
  intro f args s cr h ρ w vals ha hS
  unfold doCall at h
  split at h
  · rename_i p hp
    exact htb.sprim f p hp args s cr h ρ w vals ha hS
  · split at h
    · rename_i p hp
      split at h
      rotate_left
      · cases h
      rename_i args' hargs
      split at h
      rotate_left
      · cases h
      rename_i v hv
      split at h
      rotate_left
      · cases h
      rename_i hfl
      injection h with h; subst h
      let ρ0 : Ro := { im := fun b o => w.cell? ⟨b, o, none⟩, loc := [] }
      have ha0 : RelT ρ0 args' vals := chain_RelT (fun x hx x' v h1 h2 => frzN_ok (ρ2 := ρ0) hS hS.im (fun k _ o x hx => hx) frzDepth x x' v h1 h2) hargs ha
      refine (htb.prim f p hp args' v hv hfl ρ0 w vals ha0 (nilS (fun _ _ _ h => h) rfl)).mono (fun e w' hp => ?_)
      obtain ⟨⟨u, rfl, hvu⟩, hB⟩ := hp
      exact ⟨ρ, Le.refl ρ, ⟨u, rfl, flat_ok v u hfl hvu⟩, hS.grown (fun k hk => hB.block k hk), Keeps.grown hB.os hB.tape hB.output hB.size (fun k hk => hB.block k hk)⟩
    · split at h
      · cases h
      rename_i sf hsf
      obtain ⟨own, hf⟩ := htb.fn f sf hsf
      split at h
      · split at h
        · rename_i o fr' s' hr
          exact body_ok hR hf hr h ha hS YOk.nil
        · cases h
      · split at h
        · cases h
        · rename_i args' hargs
          split at h
          · rename_i o fr' s' hr
            split at h
            · rename_i cr0 hfin
              exact pure_ok hR hf hargs (fun _ => YOk.nil) hr hfin h ha hS
            · cases h
          · cases h

theorem doCall_pc {tb : Tbl} {R : YT → SCode → Fr → St → Res} : ∀ f args s v s', tb.pc f = true → doCall tb R f args s = some (.ret v s') → s' = s := by
  intro f args s v s' hpc h
  unfold Tbl.pc at hpc
  unfold doCall at h
  split at h
  · rename_i p hp
    rw [hp] at hpc; cases hpc
  · rename_i hsp
    rw [hsp] at hpc
    split at h
    · split at h
      · split at h
        · split at h
          · injection h with h; injection h with h1 h2; exact h2.symm
          · cases h
        · cases h
      · cases h
    · rename_i hpr
      rw [hpr] at hpc
      split at h
      · cases h
      · rename_i sf hsf
        rw [hsf] at hpc
        simp only at hpc
        split at h
        · rename_i hst
          rw [hst] at hpc; cases hpc
        · split at h
          · cases h
          · split at h
            · split at h
              · rename_i cr0 _
                unfold back at h
                split at h
                · split at h
                  · split at h
                    · injection h with h; injection h with h1 h2; exact h2.symm
                    · cases h
                  · cases h
                · split at h
                  · split at h
                    · injection h with h; cases h
                    · cases h
                  · cases h
              · cases h
            · cases h

theorem setL_len : ∀ {ts : List Nat} {fr : Fr} {vs : List AV}, (setL fr ts vs).length = fr.length
  | [], fr, vs => by simp [setL]
  | t :: ts, fr, [] => by simp [setL]
  | t :: ts, fr, v :: vs => by simp only [setL]; rw [setL_len]; simp

theorem setL_rel {ρ : Ro} : ∀ {ts : List Nat} {fr : Fr} {vs : List AV} {tmps : Array Value} {us : List Value}, RelF ρ fr tmps → RelT ρ vs us → RelF ρ (setL fr ts vs) ((ts.zip us).foldl (fun t (p : Nat × Value) => t.setIfInBounds p.1 p.2) tmps)
  | [], fr, vs, tmps, us, hF, hv => by simpa [setL] using hF
  | t :: ts, fr, [], tmps, us, hF, hv => by simp only [RelT] at hv; subst hv; simpa [setL] using hF
  | t :: ts, fr, v :: vs, tmps, us, hF, hv => by
    simp only [RelT] at hv
    obtain ⟨u, ur, rfl, h1, h2⟩ := hv
    simp only [setL, List.zip_cons_cons, List.foldl_cons]
    refine setL_rel ?_ h2
    have := put_rel (a := ({ tmps := tmps, defers := [] } : Act)) hF h1 (some t)
    simpa [put, Act.put] using this

/-- The record of a loop is turned. -/
theorem RelS.turnLoop {ρ : Ro} {s : St} {w : World} (h : RelS ρ s w) {r : Nat} {st : Nat} {pend : Option (Option Nat)} {fr : Fr} {ps : List Nat} (hs : s[r]? = some (.loop st pend fr ps)) {e : LE} (he : ρ.loc[r]? = some e) {b : ABlk} {o' : Obj}
    (hb : b ≠ .gone → b = b ∧ RelB ρ (w.putObj e.g o') b e) : RelS ρ (s.set r b) (w.putObj e.g o') ∧ Keeps ρ s w ρ (s.set r b) (w.putObj e.g o') := by
  have hr := (List.getElem?_eq_some_iff.1 hs).1
  have hl : Liv ρ s e.g := ⟨r, _, e, hs, by simp, he, rfl⟩
  have hw : ∀ k, k ≠ e.g → (w.putObj e.g o').heap[k]? = w.heap[k]? := fun k hk => World.putObj_heap_other hk
  have hliv : ∀ k, Liv ρ (s.set r b) k → Liv ρ s k := by
    rintro k ⟨r', b', e', h1, h2, h3, rfl⟩
    by_cases hrr : r = r'
    · subst hrr
      rw [he] at h3; injection h3 with h3; subst h3; exact hl
    · rw [List.getElem?_set_ne hrr] at h1
      exact ⟨r', b', e', h1, h2, h3, rfl⟩
  refine ⟨⟨by simpa using h.len, fun r' b' e' h1 h2 => ?_, fun r1 r2 b1 b2 e1 e2 h1 h2 h3 h4 h5 h6 h7 => ?_, fun k hk o => h.sep k (hliv k hk) o, fun q o v hv => ?_⟩, rfl, rfl, rfl, by rw [World.putObj_size]; exact Nat.le_refl _, fun k hk hn => hw k (fun e' => hn (e' ▸ hl)), fun k hk => .inl (hliv k hk), fun q o v hv => .inl hv⟩
  · by_cases hrr : r = r'
    · subst hrr
      rw [List.getElem?_set_self hr] at h1; injection h1 with h1; subst h1
      rw [he] at h2; injection h2 with h2; subst h2
      by_cases hg : b = .gone
      · subst hg; trivial
      · exact (hb hg).2
    · rw [List.getElem?_set_ne hrr] at h1
      by_cases hg : b' = .gone
      · subst hg; trivial
      · refine (h.blk r' b' e' h1 h2).mono (Le.refl ρ) (fun _ => hw _ (fun e0 => hrr (h.apart r r' _ b' e e' hs h1 he h2 (by simp) hg e0.symm)))
  · have key : ∀ {r1 : Nat} {b1 : ABlk} {e1 : LE}, (s.set r b)[r1]? = some b1 → ρ.loc[r1]? = some e1 → b1 ≠ .gone → ∃ b1', s[r1]? = some b1' ∧ b1' ≠ .gone := by
      intro r1 b1 e1 q1 q2 q3
      by_cases hrr : r = r1
      · subst hrr; exact ⟨_, hs, by simp⟩
      · rw [List.getElem?_set_ne hrr] at q1; exact ⟨_, q1, q3⟩
    obtain ⟨b1', p1, p2⟩ := key h1 h3 h5
    obtain ⟨b2', p3, p4⟩ := key h2 h4 h6
    exact h.apart r1 r2 b1' b2' e1 e2 p1 p3 h3 h4 p2 p4 h7
  · have h1 := h.im q o v hv
    rw [← h1]
    refine World.cell?_of_block (hw q (fun e0 => ?_))
    have := h.sep e.g hl o
    rw [← e0, hv] at this; cases this

theorem loop_blk {ρ : Ro} {s : St} {w : World} (h : RelS ρ s w) {r : Nat} {st : Nat} {pend : Option (Option Nat)} {fr : Fr} {ps : List Nat} (hs : s[r]? = some (.loop st pend fr ps)) {e : LE} (he : ρ.loc[r]? = some e) :
    e.isBox = true ∧ ∃ L : Loop, e.lp = some L ∧ w.heap[e.g]? = some (.loop { L with state := loopSt st, pending := loopPend pend }) ∧ RelF ρ fr L.tmps ∧ L.params.toList = ps := h.blk r _ e hs he

theorem Le.box {ρ ρ' : Ro} (h : Le ρ ρ') {r : Nat} {e : LE} (he : ρ.loc[r]? = some e) (hb : e.isBox = true) : ρ'.loc[r]? = some e := by
  obtain ⟨e', h1, h2⟩ := h.loc r e he
  rcases h2 with rfl | ⟨p, _⟩
  · exact h1
  · rw [hb] at p; cases p

theorem yieldA_ok {P : Program} {R : YT → SCode → Fr → St → Res} (hR : RunOk P R) {Y : YT} {ρ : Ro} (hY : YOk P ρ Y) : YfOk P ρ (yieldA R Y) := by
  intro ρ1 hle r args s cr h w e vals he hbx hlp hv hS
  unfold yieldA at h
  split at h
  rotate_left
  · cases h
  rename_i asg body fr ps hlk hs
  split at h
  rotate_left
  · cases h
  rename_i hlen
  obtain ⟨_, L, hL, hheap, hF, hps⟩ := loop_blk hS hs he
  obtain ⟨own, hA, hB⟩ := hY r asg body hlk ρ1 hle e L he hL
  split at h
  rotate_left
  · cases h
  rename_i fr1 s1 hr1
  split at h
  rotate_left
  · cases h
  rename_i fr0 ps0 hs1
  split at h
  rotate_left
  · cases h
  rename_i o fr2 s2 hr2
  split at h
  rotate_left
  · cases h
  rename_i fr3 ps3 hs2
  have hyr := run_yield (P := P) (args := vals.toArray) hheap (by
    simp only [List.size_toArray]
    rw [← hv.length, ← hlen, ← hps]; simp)
  refine ⟨_, _, _, _, hyr, ?_⟩
  refine roundIn_of_wpIn (F := WF none) trivial ?_
  have hF1 : RelF ρ1 (setL fr ps args) ((L.params.zip vals.toArray).foldl (fun tmps (x : Nat × Value) => tmps.setIfInBounds x.1 x.2) L.tmps) := by
    have := setL_rel (ts := ps) hF hv
    rw [← hps] at this ⊢
    have e1 : (L.params.zip vals.toArray).toList = L.params.toList.zip vals := by simp
    rw [← Array.foldl_toList, e1]
    exact this
  refine wpIn_mono (hR _ _ _ _ _ _ _ hr1 L.assign own hA (some e.g) (fun h => by cases h) ρ1 _ w hF1 hS YOk.nil) (fun x a1 w1 hp => ?_)
  obtain ⟨ρ2, hle2, ho, hF2, hS2, hK2, _⟩ := hp
  simp only [OutR] at ho; subst ho
  simp only [Exit.then]
  have he2 := hle2.box he hbx
  obtain ⟨_, L2, hL2, hheap2, hFL2, hps2⟩ := loop_blk hS2 hs1 he2
  rw [hL] at hL2; injection hL2 with hL2; subst hL2
  refine ⟨_, run_beginRound hheap2 rfl, ?_⟩
  have hlt2 := (Array.getElem?_eq_some_iff.1 hheap2).1
  obtain ⟨hS3, hK3⟩ := hS2.turnLoop hs1 he2 (b := .loop 1 none fr0 ps0) (o' := .loop { L with state := .busy, pending := loopPend none }) (fun _ => ⟨rfl, hbx, L, hL, World.putObj_heap_same hlt2, hFL2, hps2⟩)
  refine wpIn_mono (hR _ _ _ _ _ _ _ hr2 L.body own hB (some e.g) (fun h => by cases h) ρ2 _ _ hF2 hS3 YOk.nil) (fun x a2 w2 hp => ?_)
  obtain ⟨ρ3, hle3, ho, hF3, hS4, hK4, _⟩ := hp
  have he3 := hle3.box he2 hbx
  obtain ⟨_, L3, hL3, hheap3, hFL3, hps3⟩ := loop_blk hS4 hs2 he3
  rw [hL] at hL3; injection hL3 with hL3; subst hL3
  have hlt3 := (Array.getElem?_eq_some_iff.1 hheap3).1
  have fin : ∀ (jump : Option Code) (pend : Option (Option Nat)) (st : Nat), loopPend pend = jump → loopSt st = (if jump.isNone then .ready else .done) → cr = .ret (.bool jump.isNone) (s2.set r (.loop st pend fr3 ps3)) →
      ∃ v w', (Instr.endRound e.g jump).run P w2 = .ok v w' ∧ CRPost ρ1 s w cr (.returned v) w' := by
    intro jump pend st h1 h2 h3
    subst h3
    have hend := run_endRound (P := P) jump hheap3
    rw [← h2, ← h1] at hend
    obtain ⟨hS5, hK5⟩ := hS4.turnLoop hs2 he3 (b := .loop st pend fr3 ps3) (o' := .loop { L with state := loopSt st, pending := loopPend pend }) (fun _ => ⟨rfl, hbx, L, hL, World.putObj_heap_same hlt3, hFL3, hps3⟩)
    rw [h1] at hend
    refine ⟨_, _, hend, ρ3, hle2.trans hle3, ⟨_, rfl, by simp [RelV]⟩, ?_, ?_⟩
    · rw [h1] at hS5; exact hS5
    · rw [h1] at hK5; exact ((hK2.trans hK3).trans hK4).trans hK5
  cases o with
  | norm =>
    simp only [OutR] at ho; subst ho
    simp only at h; injection h with h
    exact fin none none 0 rfl rfl h.symm
  | ret =>
    simp only [OutR] at ho; subst ho
    simp only at h; injection h with h
    exact fin (some .ret) (some none) 2 rfl rfl h.symm
  | exit id =>
    simp only [OutR] at ho; subst ho
    simp only at h; injection h with h
    exact fin (some (.exit id)) (some (some id)) 2 rfl rfl h.symm
  | pan v => simp at h

theorem range_ok {P : Program} {tb : Tbl} (htb : TblOk P tb) {R : YT → SCode → Fr → St → Res} (hR : RunOk P R) {k : Nat} {Y : YT} {g : X} {ps : List Nat} {asg body : SCode} {fr : Fr} {s : St} {o : Out} {fr' : Fr} {s' : St} (h : step tb k R Y (.range g ps asg body) fr s = some (o, fr', s'))
    {own : Nat → Bool} {ro : Option Nat} (hro : Y.1 = false → ro = none) {g0 : Operand} {ps0 : Array Tmp} {A B : Code} (hg : compX g0 = some g) (hps : ps0.toList = ps) (hA : comp P own A = some asg.strip) (hB : comp P own B = some body.strip)
    {ρ : Ro} {a : Act} {w : World} (hF : RelF ρ fr a.tmps) (hS : RelS ρ s w) : (Code.rangeFunc g0 ps0 A B).wpIn (WF ro) 0 P (Post ρ s w a o fr' s') a w := by
  simp only [step] at h
  split at h
  · cases h
  rename_i hy1
  have hro' : ro = none := hro (by simpa using hy1)
  subst hro'
  split at h
  rotate_left
  · cases h
  rename_i n cap heg
  have hgv := compX_ok hF hg
  rw [heg] at hgv
  simp only [RelV] at hgv
  obtain ⟨as, lb, hgv, has, hcap⟩ := hgv
  simp only [RelT] at has
  have has : as = #[] := by apply Array.ext'; simpa using has
  subst has
  split at h
  rotate_left
  · cases h
  rename_i sf hsp hpr hsf
  split at h
  rotate_left
  · cases h
  rename_i o1 fr1 s1 hr1
  split at h
  rotate_left
  · cases h
  rename_i v s2 hfin
  obtain ⟨own2, hfn⟩ := htb.fn n sf hsf
  refine wpIn_rangeFunc (F := WF none) ?_
  intro fn _
  obtain ⟨L, hL⟩ : ∃ L : Loop, L = { state := .ready, pending := none, fn := fn, tmps := a.tmps, params := ps0, assign := A, body := B, defers := w.heap.size } := ⟨_, rfl⟩
  obtain ⟨wD, hwD⟩ : ∃ wD, wD = w.alloc (.deferred (some [])) := ⟨_, rfl⟩
  have hsD : wD.heap.size = w.heap.size + 1 := by rw [hwD]; simp
  have hoD : ∀ k, k < w.heap.size → wD.heap[k]? = w.heap[k]? := fun k hk => by rw [hwD]; exact hold w _ k hk
  have hnD : wD.heap[w.heap.size]? = some (.deferred (some [])) := by rw [hwD]; exact hnew w _
  obtain ⟨w1, hw1⟩ : ∃ w1, w1 = wD.alloc (.loop L) := ⟨_, rfl⟩
  have ho1 : ∀ k, k < wD.heap.size → w1.heap[k]? = wD.heap[k]? := fun k hk => by rw [hw1]; exact hold wD _ k hk
  have hn1 : w1.heap[w.heap.size + 1]? = some (.loop L) := by rw [hw1, ← hsD]; exact hnew wD _
  let e : LE := ⟨wD.heap.size, 0, 0, 0, true, some L⟩
  have hSD : RelS ρ s wD := hS.grown hoD
  have hKD : Keeps ρ s w ρ s wD := Keeps.grown (by rw [hwD]; rfl) (by rw [hwD]; rfl) (by rw [hwD]; rfl) (by omega) hoD
  have hFL : RelF (ρ.add e) fr L.tmps := by rw [hL]; exact hF.mono (Le.add ρ e)
  have hS1 : RelS (ρ.add e) (s ++ [.loop 0 none fr ps]) w1 := hSD.add (.loop 0 none fr ps) e rfl ho1 ⟨rfl, L, rfl, by
    show w1.heap[wD.heap.size]? = _
    rw [hsD, hn1, hL]; rfl, hFL, by rw [hL]; exact hps⟩
  have hK1 : Keeps ρ s wD (ρ.add e) (s ++ [.loop 0 none fr ps]) w1 := Keeps.add hSD (.loop 0 none fr ps) e rfl (by rw [hw1]; rfl) (by rw [hw1]; rfl) (by rw [hw1]; rfl) (by rw [hw1]; simp) ho1
  have hle1 := Le.add ρ e
  have hloc : (ρ.add e).loc[s.length]? = some e := by rw [hS.len]; simp [Ro.add]
  have hYl : YOk P (ρ.add e) (false, [(s.length, asg, body)]) := by
    intro r asg' body' hlk ρ1 hle e' L' he' hL'
    simp only [List.lookup] at hlk
    split at hlk
    · rename_i hr
      injection hlk with hlk; injection hlk with h1 h2; subst h1; subst h2
      have hr : r = s.length := by simpa using hr
      subst hr
      have := hle.box hloc rfl
      rw [this] at he'; injection he' with he'; subst he'
      simp only [e] at hL'; injection hL' with hL'
      refine ⟨own, ?_, ?_⟩
      · rw [← hL', hL]; exact hA
      · rw [← hL', hL]; exact hB
    · cases hlk
  have hargs : RelT (ρ.add e) (.yld s.length :: cap) (.func (.yield (w.heap.size + 1)) #[] #[] :: lb.toList) := by
    simp only [RelT]
    refine ⟨_, _, rfl, ?_, hcap.mono hle1⟩
    simp only [RelV]
    exact ⟨e, hloc, rfl, rfl, by simp [e, hsD]⟩
  have hcall := body_ok hR hfn hr1 hfin hargs hS1 hYl
  obtain ⟨fn0, C0, q1, q2, q3, _⟩ := hfn.out
  have hcall := calls_fn0 q1 q2 (by rw [q3]; rfl) hcall
  refine ⟨w.heap.size + 1, [{ target := .collected w.heap.size, args := #[] }], w1, { target := .fn (.func n) lb, args := #[.func (.yield (w.heap.size + 1)) #[] #[]] }, w1, n,
    #[.func (.yield (w.heap.size + 1)) #[] #[]] ++ lb, w1, ?_, ?_, fun _ _ => trivial, ?_, fun h => (by cases h), ?_⟩
  · rw [hw1, hwD, hL]; exact run_enterLoop_outer _ _ _ _ _
  · simp only [resolve, hgv]
    simp [go_sem]
  · have : (callFunc n (#[.func (.yield (w.heap.size + 1)) #[] #[]] ++ lb)).run P w1 = .ok (.enter n (#[.func (.yield (w.heap.size + 1)) #[] #[]] ++ lb)) w1 := by
      simp only [callFunc, Sem.run_bind, program, Sem.run, Result.andThen_ok, q1, q2, q3]
      simp
    simp [invoke, go_sem, this]
  · have e1 : (#[.func (.yield (w.heap.size + 1)) #[] #[]] ++ lb : Array Value) = (.func (.yield (w.heap.size + 1)) #[] #[] :: lb.toList).toArray := by apply Array.ext'; simp
    rw [e1]
    refine WF_calls.2 (hcall.mono (fun x w3 hp => ?_))
    obtain ⟨ρ2, hle2, ⟨u, rfl, hv⟩, hS2, hK2⟩ := hp
    have he2 := hle2.box hloc rfl
    have hDl : ¬ Liv (ρ.add e) (s ++ [.loop 0 none fr ps]) w.heap.size := by
      intro hl
      rcases hK1.live _ hl with h1 | h1
      · have := hS.live_lt h1; omega
      · omega
    have hD3 : w3.heap[w.heap.size]? = some (.deferred (some [])) := by
      rw [hK2.block _ (by rw [hw1]; simp; omega) hDl, ho1 _ (by omega)]; exact hnD
    have hDl3 : ¬ Liv ρ2 s2 w.heap.size := by
      intro hl
      rcases hK2.live _ hl with h1 | h1
      · exact hDl h1
      · rw [hw1] at h1; simp at h1; omega
    have hend : ∀ (st : Nat) (pend : Option (Option Nat)) (fr2 : Fr) (ps2 : List Nat) (o2 : Out), s2[s.length]? = some (.loop st pend fr2 ps2) → loopSt st ≠ .busy → (o2, fr, s2.set s.length .gone) = (o, fr', s') →
        ∃ w4, (Instr.endLoop (w.heap.size + 1)).run P w3 = .ok (loopPend pend) w4 ∧ ∀ ex, OutR ρ2 o2 ex → Post ρ s w a o fr' s' ex { a with defers := [{ target := .collected w.heap.size, args := #[] }] ++ a.defers } w4 := by
      intro st pend fr2 ps2 o2 hs2 hnb heq
      injection heq with h1 h2; injection h2 with h2 h3; subst h1; subst h2; subst h3
      obtain ⟨_, L2, hL2, hheap2, _⟩ := loop_blk hS2 hs2 he2
      have hg : e.g = w.heap.size + 1 := hsD
      rw [hg] at hheap2
      have hr := run_endLoop (P := P) hheap2 hnb
      refine ⟨_, hr, fun ex hex => ?_⟩
      obtain ⟨hS4, hK4⟩ := hS2.turnLoop hs2 he2 (b := .gone) (o' := .loop { { L2 with state := loopSt st, pending := loopPend pend } with state := .exhausted }) (fun h => absurd rfl h)
      rw [hg] at hS4 hK4
      have hle := hle1.trans hle2
      refine ⟨ρ2, hle, hex, hF.mono hle, hS4, ((hKD.trans hK1).trans hK2).trans hK4, [w.heap.size], rfl, by simp, fun D hD => ?_⟩
      rw [List.mem_singleton] at hD; subst hD
      refine ⟨Nat.le_refl _, by rw [World.putObj_heap_other (by omega)]; exact hD3, fun hl => ?_⟩
      rcases hK4.live _ hl with h1 | h1
      · exact hDl3 h1
      · have := (Array.getElem?_eq_some_iff.1 hD3).1; omega
    unfold endLoopA at h
    split at h
    · rename_i fr2 ps2 hs2
      injection h with h
      obtain ⟨w4, h1, h2⟩ := hend 0 none fr2 ps2 .norm hs2 (by simp [loopSt]) h
      exact ⟨none, w4, h1, h2 _ rfl⟩
    · rename_i fr2 ps2 hs2
      injection h with h
      obtain ⟨w4, h1, h2⟩ := hend 2 (some none) fr2 ps2 .ret hs2 (by simp [loopSt]) h
      exact ⟨some .ret, w4, h1, wpIn_ret (h2 _ rfl)⟩
    · rename_i id fr2 ps2 hs2
      injection h with h
      obtain ⟨w4, h1, h2⟩ := hend 2 (some (some id)) fr2 ps2 (.exit id) hs2 (by simp [loopSt]) h
      exact ⟨some (.exit id), w4, h1, wpIn_exit (h2 _ rfl)⟩
    · cases h

theorem iter_ok {P : Program} {C : Code} {ro : Option Nat} {Y : YT} {F : Fr → St → Res} (hF : ∀ fr s o fr' s', F fr s = some (o, fr', s') → ∀ (ρ : Ro) (a : Act) (w : World), RelF ρ fr a.tmps → RelS ρ s w → YOk P ρ Y → C.wpIn (WF ro) 0 P (Post ρ s w a o fr' s') a w) :
    ∀ (n : Nat) (fr : Fr) (s : St) (o : Out) (fr' : Fr) (s' : St), iter F n fr s = some (o, fr', s') → ∀ (ρ : Ro) (a : Act) (w : World), RelF ρ fr a.tmps → RelS ρ s w → YOk P ρ Y →
    ∀ (Q : Exit → Act → World → Prop), (∀ e a' w', Post ρ s w a o fr' s' e a' w' → Q e a' w') → Code.roundsIn (WF ro) 0 P C Q n a w := by
  intro n
  induction n with
  | zero => intro fr s o fr' s' h; simp [iter] at h
  | succ n ih =>
    intro fr s o fr' s' h ρ a w hFr hS hY Q hQ
    rw [roundsIn_succ]
    simp only [iter] at h
    cases hr : F fr s with
    | none => rw [hr] at h; cases h
    | some t =>
      obtain ⟨o1, fr1, s1⟩ := t
      rw [hr] at h
      refine wpIn_mono (hF fr s o1 fr1 s1 hr ρ a w hFr hS hY) (fun e a1 w1 hp => ?_)
      obtain ⟨ρ1, hle, ho, hF1, hS1, hK, hM⟩ := hp
      cases o1 with
      | norm =>
        simp only [OutR] at ho; subst ho
        simp only at h
        simp only [Exit.then]
        exact ih fr1 s1 o fr' s' h ρ1 a1 w1 hF1 hS1 (hY.mono hle) Q (fun e a' w' hp => hQ e a' w' (hp.trans hle hK hM))
      | exit id =>
        simp only at h
        injection h with h; injection h with h1 h; injection h with h2 h3
        subst h1; subst h2; subst h3
        simp only [OutR] at ho; subst ho
        exact hQ _ _ _ ⟨ρ1, hle, rfl, hF1, hS1, hK, hM⟩
      | ret =>
        simp only at h
        injection h with h; injection h with h1 h; injection h with h2 h3
        subst h1; subst h2; subst h3
        simp only [OutR] at ho; subst ho
        exact hQ _ _ _ ⟨ρ1, hle, rfl, hF1, hS1, hK, hM⟩
      | pan v =>
        simp only at h
        injection h with h; injection h with h1 h; injection h with h2 h3
        subst h1; subst h2; subst h3
        have ho' := ho
        obtain ⟨u, rfl, hv⟩ := ho
        exact hQ _ _ _ ⟨ρ1, hle, ho', hF1, hS1, hK, hM⟩

/-- What a code of ours comes of. -/
def CompInv (P : Program) (own : Nat → Bool) (C : Code) : SCode → Prop
  | .skip => C = .skip
  | .ops l => ∃ id ops, C = .region id ops false ∧ compList P own ops ops.toList = some l
  | .drw al l => ∃ id ops, C = .region id ops true ∧ compDraw P own ops = some (al, l)
  | .seq x y => ∃ X Y, C = .seq X Y ∧ comp P own X = some x ∧ comp P own Y = some y
  | .cond c x y => ∃ c0 X Y, C = .cond c0 X Y ∧ compX c0 = some c ∧ comp P own X = some x ∧ comp P own Y = some y
  | .block id x => ∃ X, C = .block id X ∧ comp P own X = some x
  | .loop x => ∃ X, C = .loop X ∧ comp P own X = some x
  | .exit id => C = .exit id
  | .ret => C = .ret
  | .kl _ _ => True
  | .range g ps x y => ∃ g0 ps0 X Y, C = .rangeFunc g0 ps0 X Y ∧ compX g0 = some g ∧ ps0.toList = ps ∧ comp P own X = some x ∧ comp P own Y = some y

theorem comp_inv {P : Program} {own : Nat → Bool} {C : Code} {c : SCode} (h : comp P own C = some c) : CompInv P own C c := by
  cases C with
  | skip => simp only [comp] at h; injection h with h; subst h; exact rfl
  | region id ops draw =>
    cases draw with
    | false =>
      simp only [comp, Option.map_eq_some_iff] at h
      obtain ⟨is, his, rfl⟩ := h
      exact ⟨id, ops, rfl, his⟩
    | true =>
      simp only [comp, Option.map_eq_some_iff] at h
      obtain ⟨⟨ds, L⟩, hL, rfl⟩ := h
      exact ⟨id, ops, rfl, hL⟩
  | seq x y =>
    simp only [comp] at h
    split at h
    · rename_i x' y' hx hy
      injection h with h; subst h
      exact ⟨x, y, rfl, hx, hy⟩
    · cases h
  | cond c0 x y =>
    simp only [comp] at h
    split at h
    · rename_i c' x' y' hcx hx hy
      injection h with h; subst h
      exact ⟨c0, x, y, rfl, hcx, hx, hy⟩
    · cases h
  | block id x =>
    simp only [comp, Option.map_eq_some_iff] at h
    obtain ⟨x', hx, rfl⟩ := h
    exact ⟨x, rfl, hx⟩
  | loop x =>
    simp only [comp, Option.map_eq_some_iff] at h
    obtain ⟨x', hx, rfl⟩ := h
    exact ⟨x, rfl, hx⟩
  | exit id => simp only [comp] at h; injection h with h; subst h; exact rfl
  | ret => simp only [comp] at h; injection h with h; subst h; exact rfl
  | rangeFunc g ps x y =>
    simp only [comp] at h
    split at h
    · rename_i g' x' y' hg hx hy
      injection h with h; subst h
      exact ⟨g, ps, x, y, rfl, hg, rfl, hx, hy⟩
    · cases h
  | _ => simp [comp] at h

theorem step_ok {P : Program} {tb : Tbl} (htb : TblOk P tb) {R : YT → SCode → Fr → St → Res} (hR : RunOk P R) (k : Nat) : RunOk P (step tb k R) := by
  intro Y c fr s o fr' s' h C own hc ro hro ρ a w hF hS hY
  cases c with
  | skip =>
    have hc : C = .skip := comp_inv hc
    subst hc
    simp only [step] at h
    injection h with h; injection h with h1 h; injection h with h2 h3
    subst h1; subst h2; subst h3
    exact wpIn_skip ⟨ρ, Le.refl ρ, rfl, hF, hS, Keeps.refl ρ s w, Marks.nil rfl⟩
  | ops l =>
    obtain ⟨id, ops, rfl, his⟩ : ∃ id ops, C = .region id ops false ∧ compList P own ops ops.toList = some l := comp_inv hc
    simp only [step] at h
    refine wpIn_region ?_
    have hcs := comps_list (P := P) (own := own) (ops := ops) 0 (by simp) his
    rw [← List.range_eq_range', Array.length_toList] at hcs
    exact ops_ok (doCall_ok htb hR) hcs h hF hS (yieldA_ok hR hY) (fun _ _ _ h => h)
  | drw ds L =>
    obtain ⟨id, ops, rfl, hL⟩ : ∃ id ops, C = .region id ops true ∧ compDraw P own ops = some (ds, L) := comp_inv hc
    simp only [step] at h
    split at h
    rotate_left
    · cases h
    rename_i hdl
    split at h
    · rename_i fr1 s1 hrl
      injection h with h; injection h with h1 h; injection h with h2 h3
      subst h1; subst h2; subst h3
      exact draw_ok (doCall_ok htb hR) doCall_pc htb.mixed hL (by simpa using hdl) hrl hF hS
    · cases h
  | seq x' y' =>
    obtain ⟨x, y, rfl, hx, hy⟩ : ∃ X Y, C = .seq X Y ∧ comp P own X = some x'.strip ∧ comp P own Y = some y'.strip := comp_inv hc
    simp only [step] at h
    refine wpIn_seq ?_
    cases hr : R Y x' fr s with
    | none => rw [hr] at h; cases h
    | some t =>
      obtain ⟨o1, fr1, s1⟩ := t
      rw [hr] at h
      refine wpIn_mono (hR _ _ _ _ _ _ _ hr x own hx ro hro ρ a w hF hS hY) (fun e a1 w1 hp => ?_)
      obtain ⟨ρ1, hle, ho, hF1, hS1, hK, hM⟩ := hp
      cases o1 with
      | norm =>
        simp only [OutR] at ho; subst ho
        simp only at h
        simp only [Exit.then]
        exact wpIn_mono (hR _ _ _ _ _ _ _ h y own hy ro hro ρ1 a1 w1 hF1 hS1 (hY.mono hle)) (fun e a' w' hp => hp.trans hle hK hM)
      | exit id =>
        simp only at h
        injection h with h; injection h with h1 h; injection h with h2 h3
        subst h1; subst h2; subst h3
        simp only [OutR] at ho; subst ho
        exact ⟨ρ1, hle, rfl, hF1, hS1, hK, hM⟩
      | ret =>
        simp only at h
        injection h with h; injection h with h1 h; injection h with h2 h3
        subst h1; subst h2; subst h3
        simp only [OutR] at ho; subst ho
        exact ⟨ρ1, hle, rfl, hF1, hS1, hK, hM⟩
      | pan v =>
        simp only at h
        injection h with h; injection h with h1 h; injection h with h2 h3
        subst h1; subst h2; subst h3
        have ho' := ho
        obtain ⟨u, rfl, hv⟩ := ho
        exact ⟨ρ1, hle, ho', hF1, hS1, hK, hM⟩
  | cond c' x' y' =>
    obtain ⟨c0, x, y, rfl, hcx, hx, hy⟩ : ∃ c0 X Y, C = .cond c0 X Y ∧ compX c0 = some c' ∧ comp P own X = some x'.strip ∧ comp P own Y = some y'.strip := comp_inv hc
    simp only [step] at h
    have hv := compX_ok hF hcx
    split at h
    · rename_i t ht
      rw [ht] at hv
      simp only [RelV] at hv
      refine wpIn_cond hv ?_
      cases t with
      | true => exact hR _ _ _ _ _ _ _ h x own hx ro hro ρ a w hF hS hY
      | false => exact hR _ _ _ _ _ _ _ h y own hy ro hro ρ a w hF hS hY
    · cases h
  | block id x' =>
    obtain ⟨x, rfl, hx⟩ : ∃ X, C = .block id X ∧ comp P own X = some x'.strip := comp_inv hc
    simp only [step] at h
    refine wpIn_block ?_
    cases hr : R Y x' fr s with
    | none => rw [hr] at h; cases h
    | some t =>
      obtain ⟨o1, fr1, s1⟩ := t
      rw [hr] at h
      refine wpIn_mono (hR _ _ _ _ _ _ _ hr x own hx ro hro ρ a w hF hS hY) (fun e a1 w1 hp => ?_)
      obtain ⟨ρ1, hle, ho, hF1, hS1, hK, hM⟩ := hp
      cases o1 with
      | norm =>
        simp only at h
        injection h with h; injection h with h1 h; injection h with h2 h3
        subst h1; subst h2; subst h3
        simp only [OutR] at ho; subst ho
        exact ⟨ρ1, hle, rfl, hF1, hS1, hK, hM⟩
      | exit i =>
        simp only [OutR] at ho; subst ho
        simp only at h
        simp only [Exit.inBlock]
        split at h
        · rename_i hi
          injection h with h; injection h with h1 h; injection h with h2 h3
          subst h1; subst h2; subst h3
          rw [if_pos hi]
          exact ⟨ρ1, hle, rfl, hF1, hS1, hK, hM⟩
        · rename_i hi
          injection h with h; injection h with h1 h; injection h with h2 h3
          subst h1; subst h2; subst h3
          rw [if_neg hi]
          exact ⟨ρ1, hle, rfl, hF1, hS1, hK, hM⟩
      | ret =>
        simp only at h
        injection h with h; injection h with h1 h; injection h with h2 h3
        subst h1; subst h2; subst h3
        simp only [OutR] at ho; subst ho
        exact ⟨ρ1, hle, rfl, hF1, hS1, hK, hM⟩
      | pan v =>
        simp only at h
        injection h with h; injection h with h1 h; injection h with h2 h3
        subst h1; subst h2; subst h3
        have ho' := ho
        obtain ⟨u, rfl, hv⟩ := ho
        exact ⟨ρ1, hle, ho', hF1, hS1, hK, hM⟩
  | loop x' =>
    obtain ⟨x, rfl, hx⟩ : ∃ X, C = .loop X ∧ comp P own X = some x'.strip := comp_inv hc
    simp only [step] at h
    exact wpIn_loop_rounds k (iter_ok (fun fr s o fr' s' hr ρ a w hF hS hY => hR _ _ _ _ _ _ _ hr x own hx ro hro ρ a w hF hS hY) k fr s o fr' s' h ρ a w hF hS hY _ (fun _ _ _ h => h))
  | exit id =>
    have hc : C = .exit id := comp_inv hc
    subst hc
    simp only [step] at h
    injection h with h; injection h with h1 h; injection h with h2 h3
    subst h1; subst h2; subst h3
    exact wpIn_exit ⟨ρ, Le.refl ρ, rfl, hF, hS, Keeps.refl ρ s w, Marks.nil rfl⟩
  | ret =>
    have hc : C = .ret := comp_inv hc
    subst hc
    simp only [step] at h
    injection h with h; injection h with h1 h; injection h with h2 h3
    subst h1; subst h2; subst h3
    exact wpIn_ret ⟨ρ, Le.refl ρ, rfl, hF, hS, Keeps.refl ρ s w, Marks.nil rfl⟩
  | kl ts c0 =>
    simp only [step] at h
    exact hR _ _ _ _ _ _ _ h C own hc ro hro ρ a w hF.anyAt hS hY
  | range g ps asg body =>
    obtain ⟨g0, ps0, A, B, rfl, hg, hps, hA, hB⟩ : ∃ g0 ps0 X Y, C = .rangeFunc g0 ps0 X Y ∧ compX g0 = some g ∧ ps0.toList = ps ∧ comp P own X = some asg.strip ∧ comp P own Y = some body.strip := comp_inv hc
    exact range_ok htb hR h hro hg hps hA hB hF hS

theorem run_ok {P : Program} {tb : Tbl} (htb : TblOk P tb) : ∀ k, RunOk P (run tb k)
  | 0 => fun Y c fr s o fr' s' h => by simp [run] at h
  | k + 1 => step_ok htb (run_ok htb k) k

/-- THE LAW: what our run of a function answers, the program's call answers. -/
theorem calls_of_run {P : Program} {tb : Tbl} (htb : TblOk P tb) {k : Nat} {f : FuncId} {args : List AV} {v : AV} {s' : St} (h : doCall tb (run tb k) f args [] = some (.ret v s'))
    {im : Nat → Nat → Option Value} {w : World} {vals : List Value} (him : ∀ b o x, im b o = some x → w.cell? ⟨b, o, none⟩ = some x) (ha : RelT ⟨im, []⟩ args vals) :
    CallF P f vals.toArray w fun e w' => (∃ ρ' u, e = .returned u ∧ RelV ρ' v u) ∧ Go.RowKit.Below w.heap.size w w' := by
  refine (doCall_ok htb (run_ok htb k) f args [] _ h ⟨im, []⟩ w vals ha (nilS him rfl)).mono (fun e w' hp => ?_)
  obtain ⟨ρ', hle, ⟨u, rfl, hv⟩, hS, hK⟩ := hp
  exact ⟨⟨ρ', u, rfl, hv⟩, hK.os, hK.tape, hK.output, hK.size, fun k hk => hK.block k hk not_live_nil⟩
end Go.Ab
