import Derived.Test.YtpplmjjmdnfpgaaGreatXAbU
set_option linter.unusedVariables false
namespace Go.Ab

/-! ### deep data is its own frozen copy -/
mutual
theorem frzV_free {s : St} {J : AV → Option AV} : ∀ (x : AV), free x = true → frzV s J x = some x
  | .ptr _ _, h => by simp [free] at h
  | .eptr _ _ _ _, h => by simp [free] at h
  | .own _ _, h => by simp [free] at h
  | .nils, h => by simp [free] at h
  | .yld _, h => by simp [free] at h
  | .row cs, h => by simp only [free] at h; simp [frzV, frzL_free cs h]
  | .sl rows, h => by simp only [free] at h; simp [frzV, frzR_free rows h]
  | .agg cs, h => by simp only [free] at h; simp [frzV, frzL_free cs h]
  | .tup cs, h => by simp only [free] at h; simp [frzV, frzL_free cs h]
  | .fn f a b, h => by simp only [free, Bool.and_eq_true] at h; simp [frzV, frzL_free a h.1, frzL_free b h.2]
  | .ifc t v, h => by simp only [free] at h; simp [frzV, frzV_free v h]
  | .any, _ => rfl
  | .bool _, _ => rfl
  | .int _ _, _ => rfl
  | .str _, _ => rfl
  | .nilp, _ => rfl
  | .nilf, _ => rfl
  | .nili, _ => rfl
theorem frzL_free {s : St} {J : AV → Option AV} : ∀ (x : List AV), freeL x = true → frzL s J x = some x
  | [], _ => rfl
  | x :: r, h => by simp only [freeL, Bool.and_eq_true] at h; simp [frzL, frzV_free x h.1, frzL_free r h.2]
theorem frzR_free {s : St} {J : AV → Option AV} : ∀ (x : List (List AV)), freeR x = true → frzR s J x = some x
  | [], _ => rfl
  | x :: r, h => by simp only [freeR, Bool.and_eq_true] at h; simp [frzR, frzL_free x h.1, frzR_free r h.2]
end
theorem frzN_free {s : St} {x : AV} (h : free x = true) : frzN s frzDepth x = some x := frzV_free x h
theorem chainO_free {s : St} : ∀ {l : List AV}, freeL l = true → chainO (frzN s frzDepth) l = some l
  | [], _ => rfl
  | x :: r, h => by simp only [freeL, Bool.and_eq_true] at h; simp [chainO, frzN_free h.1, chainO_free h.2]
mutual
theorem noRef_free : ∀ (x : AV), free x = true → noRef x = true
  | .ptr _ _, h => by simp [free] at h
  | .eptr _ _ _ _, h => by simp [free] at h
  | .own _ _, h => by simp [free] at h
  | .nils, h => by simp [free] at h
  | .yld _, h => by simp [free] at h
  | .row cs, h => by simp only [free] at h; simp [noRef, noRefL_free cs h]
  | .sl rows, h => by simp only [free] at h; simp [noRef, noRefR_free rows h]
  | .agg cs, h => by simp only [free] at h; simp [noRef, noRefL_free cs h]
  | .tup cs, h => by simp only [free] at h; simp [noRef, noRefL_free cs h]
  | .fn f a b, h => by simp only [free, Bool.and_eq_true] at h; simp [noRef, noRefL_free a h.1, noRefL_free b h.2]
  | .ifc t v, h => by simp only [free] at h; simp [noRef, noRef_free v h]
  | .any, _ => rfl
  | .bool _, _ => rfl
  | .int _ _, _ => rfl
  | .str _, _ => rfl
  | .nilp, _ => rfl
  | .nilf, _ => rfl
  | .nili, _ => rfl
theorem noRefL_free : ∀ (x : List AV), freeL x = true → noRefL x = true
  | [], _ => rfl
  | x :: r, h => by simp only [freeL, Bool.and_eq_true] at h; simp [noRefL, noRef_free x h.1, noRefL_free r h.2]
theorem noRefR_free : ∀ (x : List (List AV)), freeR x = true → noRefR x = true
  | [], _ => rfl
  | x :: r, h => by simp only [freeR, Bool.and_eq_true] at h; simp [noRefR, noRefL_free x h.1, noRefR_free r h.2]
end

/-! ### contracts of functions that write nothing of their caller's -/
/-- Called with these, it returns that, and leaves the state. -/
def Fn (tb : Tbl) (f : Nat) (a : List AV) (v : AV) : Prop :=
  ∀ s a0, chainO (frzN s frzDepth) a0 = some a → (noRefL a0 || flat v) = true → D tb f a0 s = some (.ret v s)

structure Plain (tb : Tbl) (f : Nat) (sf : SFn) : Prop where
  h1 : tb.sprim f = none
  h2 : tb.prim f = none
  h3 : tb.fn f = some sf
  h4 : sf.st = false

theorem evK_bind {β γ : Type} {tb : Tbl} {Y : YT} {c : SCode} {fr : Fr} {s : St} {K : Kt β} {g : β → Option γ} : evK tb Y c fr s (fun o fr s => (K o fr s).bind g) = (evK tb Y c fr s K).bind g := by
  rw [← evK_eq, ← evK_eq]
  cases L tb Y c fr s with
  | none => rfl
  | some z => rfl

/-- What its body comes to. -/
noncomputable def bodyR (tb : Tbl) (sf : SFn) (a : List AV) : Option CR := evK tb (false, []) sf.body (pad sf a) [] fun o fr s => fin sf o fr s

theorem D_body {tb : Tbl} {f : Nat} {sf : SFn} (h : Plain tb f sf) {a a' : List AV} {s : St} (ha : chainO (frzN s frzDepth) a = some a') : D tb f a s = (bodyR tb sf a').bind (back a s) := by
  rw [D_fn h.h1 h.h2 h.h3 h.h4 ha, bodyR, ← evK_bind]
  congr 1
  funext o fr s'
  cases fin sf o fr s' <;> rfl

/-- The frozen answer of a body. -/
def frzR1 : CR → Option AV
  | .ret v s => frzN s frzDepth v
  | .pan _ _ => none

theorem Fn.of_body {tb : Tbl} {f : Nat} {sf : SFn} (h : Plain tb f sf) {a : List AV} {v : AV} (hb : (bodyR tb sf a).bind frzR1 = some v) : Fn tb f a v := by
  intro s a0 ha hf
  rw [D_body h ha]
  cases hr : bodyR tb sf a with
  | none => rw [hr] at hb; cases hb
  | some cr =>
    rw [hr] at hb
    cases cr with
    | pan w s' => cases hb
    | ret w s' =>
      have hb : frzN s' frzDepth w = some v := hb
      simp only [Option.bind_some, back, hb, hf, if_true]

/-- What a body comes to, and is made of it. -/
def outV (sf : SFn) : Kt AV := fun o fr s => (fin sf o fr s).bind frzR1
theorem Fn.of_ev {tb : Tbl} {f : Nat} {sf : SFn} (h : Plain tb f sf) {a : List AV} {v : AV} (hb : evK tb (false, []) sf.body (pad sf a) [] (outV sf) = some v) : Fn tb f a v := by
  refine Fn.of_body h ?_
  rw [bodyR, ← evK_bind]
  exact hb

theorem Fn.free {tb : Tbl} {f : Nat} {a : List AV} {v : AV} (h : Fn tb f a v) (ha : freeL a = true) (s : St) : D tb f a s = some (.ret v s) :=
  h s a (chainO_free ha) (by rw [noRefL_free a ha]; rfl)

theorem prim_Fn {tb : Tbl} {f : Nat} {p : List AV → Option AV} (h1 : tb.sprim f = none) (h2 : tb.prim f = some p) {a : List AV} {v : AV} (h : p a = some v) (hf : flat v = true) : Fn tb f a v := by
  intro s a0 ha _
  unfold D doCall
  simp only [h1, h2, ha, h, hf, if_true]

theorem bindC_ret {β : Type} {v : AV} {s : St} {K P : AV → St → Option β} : bindC (some (.ret v s)) K P = K v s := rfl
end Go.Ab
