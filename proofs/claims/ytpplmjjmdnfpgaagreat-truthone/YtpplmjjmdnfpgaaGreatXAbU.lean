import Derived.Test.YtpplmjjmdnfpgaaGreatXAbT
set_option linter.unusedVariables false
namespace Go.Ab

/-! ### more fuel, the same answer -/
abbrev Rn := YT → SCode → Fr → St → Res
def RLe (R R' : Rn) : Prop := ∀ Y c fr s r, R Y c fr s = some r → R' Y c fr s = some r
def CLe (c c' : Nat → List AV → St → Option CR) : Prop := ∀ f a s r, c f a s = some r → c' f a s = some r

theorem doCall_mono {tb : Tbl} {R R' : Rn} (h : RLe R R') : CLe (doCall tb R) (doCall tb R') := by
  intro f a s r hr
  unfold doCall at hr ⊢
  cases hsp : tb.sprim f with
  | some p => simpa only [hsp] using hr
  | none =>
    simp only [hsp] at hr ⊢
    cases hp : tb.prim f with
    | some p => simpa only [hp] using hr
    | none =>
      simp only [hp] at hr ⊢
      cases hf : tb.fn f with
      | none => simp [hf] at hr
      | some sf =>
        simp only [hf] at hr ⊢
        by_cases hst : sf.st = true
        · simp only [hst, if_true] at hr ⊢
          cases hR : R (false, []) sf.body (pad sf a) s with
          | none => simp [hR] at hr
          | some x => rw [h _ _ _ _ _ hR]; rw [hR] at hr; exact hr
        · simp only [hst] at hr ⊢
          cases hc : chainO (frzN s frzDepth) a with
          | none => simp [hc] at hr
          | some a' =>
            simp only [hc] at hr ⊢
            cases hR : R (false, []) sf.body (pad sf a') [] with
            | none => simp [hR] at hr
            | some x => rw [h _ _ _ _ _ hR]; rw [hR] at hr; exact hr

theorem yieldA_mono {R R' : Rn} (h : RLe R R') (Y : YT) : CLe (yieldA R Y) (yieldA R' Y) := by
  intro r a s x hr
  unfold yieldA at hr ⊢
  split at hr
  rotate_left
  · cases hr
  rename_i asg body fr ps h1 h2
  split at hr
  rotate_left
  · cases hr
  rename_i hl
  cases hR : R (true, []) asg (setL fr ps a) s with
  | none => rw [hR] at hr; cases hr
  | some z =>
    rw [hR] at hr
    obtain ⟨o, fr1, s1⟩ := z
    cases o with
    | norm =>
      simp only at hr
      split at hr
      rotate_left
      · cases hr
      rename_i fr0 ps0 h3
      cases hB : R (true, []) body fr1 (s1.set r (.loop 1 none fr0 ps0)) with
      | none => rw [hB] at hr; cases hr
      | some z =>
        rw [hB] at hr
        simp only [if_pos hl, h _ _ _ _ _ hR, h3, h _ _ _ _ _ hB]
        exact hr
    | exit i => cases hr
    | ret => cases hr
    | pan v => cases hr

theorem runOps_mono {cf cf' yf yf' : Nat → List AV → St → Option CR} (hc : CLe cf cf') (hy : CLe yf yf') : ∀ (l : List SI) (fr : Fr) (s : St) (r), runOps cf yf l fr s = some r → runOps cf' yf' l fr s = some r
  | [], fr, s, r, h => h
  | i :: l, fr, s, r, h => by
    simp only [runOps] at h ⊢
    split at h
    · cases h
    · exact runOps_mono hc hy l _ _ _ h
    · split at h
      · rename_i f args _
        cases hR : cf f (evs (ev fr) args) s with
        | none => rw [hR] at h; cases h
        | some x =>
          rw [hR] at h; rw [hc _ _ _ _ hR]
          cases x with
          | ret v s' => exact runOps_mono hc hy l _ _ _ h
          | pan v s' => exact h
      · rename_i f args _
        split at h
        · rename_i n first cap _
          cases hR : cf n (first ++ (evs (ev fr) args ++ cap)) s with
          | none => rw [hR] at h; cases h
          | some x =>
            rw [hR] at h
            simp only [hc _ _ _ _ hR]
            cases x with
            | ret v s' => exact runOps_mono hc hy l _ _ _ h
            | pan v s' => exact h
        · rename_i n _
          cases hR : yf n (evs (ev fr) args) s with
          | none => rw [hR] at h; cases h
          | some x =>
            rw [hR] at h
            simp only [hy _ _ _ _ hR]
            cases x with
            | ret v s' => exact runOps_mono hc hy l _ _ _ h
            | pan v s' => cases h
        · cases h
      · exact h
      · split at h
        · exact runOps_mono hc hy l _ _ _ h
        · cases h

theorem evl0_mono {cf cf' : Nat → List AV → St → Option CR} (hc : CLe cf cf') {pc : Nat → Bool} {cls : Nat} {si : SI} {fr : Fr} {s : St} {r} (h : evl0 cf pc cls si fr s = some r) : evl0 cf' pc cls si fr s = some r := by
  unfold evl0 at h ⊢
  split at h
  · cases h
  · exact h
  · split at h
    · exact h
    · rename_i f args _
      split at h
      · cases h
      · rename_i hn
        rw [if_neg hn]
        cases hR : cf f (evs (ev fr) args) s with
        | none => rw [hR] at h; cases h
        | some x => rw [hR] at h; rw [hc _ _ _ _ hR]; exact h
    · rename_i f args _
      split at h
      · rename_i n first cap _
        split at h
        · cases h
        · rename_i hn
          simp only [if_neg hn]
          cases hR : cf n (first ++ (evs (ev fr) args ++ cap)) s with
          | none => rw [hR] at h; cases h
          | some x => rw [hR] at h; rw [hc _ _ _ _ hR]; exact h
      · cases h
    · cases h

theorem exec1_mono {cf cf' : Nat → List AV → St → Option CR} (hc : CLe cf cf') {pc : Nat → Bool} {x : DI} {fr : Fr} {s : St} {r} (h : exec1 cf pc x fr s = some r) : exec1 cf' pc x fr s = some r := by
  unfold exec1 at h ⊢
  cases x with
  | fz i ia d n x => exact h
  | ins i cls hh si =>
    simp only [evl1] at h ⊢
    cases hd : hid fr hh s with
    | none => simp [hd] at h
    | some s0 =>
      simp only [hd] at h ⊢
      cases hE : evl0 cf pc cls si fr s0 with
      | none => simp [hE] at h
      | some z => rw [evl0_mono hc hE]; rw [hE] at h; exact h

theorem runL_mono {cf cf' : Nat → List AV → St → Option CR} (hc : CLe cf cf') {pc : Nat → Bool} : ∀ (l : List DI) (fr : Fr) (s : St) (r), runL cf pc l fr s = some r → runL cf' pc l fr s = some r
  | [], fr, s, r, h => h
  | x :: l, fr, s, r, h => by
    simp only [runL] at h ⊢
    cases hE : exec1 cf pc x fr s with
    | none => rw [hE] at h; cases h
    | some z =>
      rw [hE] at h; rw [exec1_mono hc hE]
      exact runL_mono hc l _ _ _ h

theorem iter_mono {F F' : Fr → St → Res} (hF : ∀ fr s r, F fr s = some r → F' fr s = some r) : ∀ (n m : Nat) (fr : Fr) (s : St) (r), n ≤ m → iter F n fr s = some r → iter F' m fr s = some r
  | 0, _, _, _, _, _, h => by cases h
  | n + 1, 0, _, _, _, hm, _ => by omega
  | n + 1, m + 1, fr, s, r, hm, h => by
    simp only [iter] at h ⊢
    cases hE : F fr s with
    | none => rw [hE] at h; cases h
    | some z =>
      rw [hE] at h; rw [hF _ _ _ hE]
      obtain ⟨o, fr1, s1⟩ := z
      cases o with
      | norm => exact iter_mono hF n m _ _ _ (by omega) h
      | exit i => exact h
      | ret => exact h
      | pan v => exact h

theorem step_mono {tb : Tbl} {k k' : Nat} (hk : k ≤ k') {R R' : Rn} (h : RLe R R') : RLe (step tb k R) (step tb k' R') := by
  intro Y c fr s r hr
  cases c with
  | skip => exact hr
  | ops l => exact runOps_mono (doCall_mono h) (yieldA_mono h Y) l fr s r hr
  | drw al l =>
    simp only [step] at hr ⊢
    split at hr
    · rename_i hl
      rw [if_pos hl]
      cases hE : runL (doCall tb R) tb.pc l (anyAt al fr) s with
      | none => rw [hE] at hr; cases hr
      | some z => rw [hE] at hr; rw [runL_mono (doCall_mono h) l _ _ _ hE]; exact hr
    · cases hr
  | seq a b =>
    simp only [step] at hr ⊢
    cases hE : R Y a fr s with
    | none => rw [hE] at hr; cases hr
    | some z =>
      rw [hE] at hr; rw [h _ _ _ _ _ hE]
      obtain ⟨o, fr1, s1⟩ := z
      cases o with
      | norm => exact h _ _ _ _ _ hr
      | exit i => exact hr
      | ret => exact hr
      | pan v => exact hr
  | cond c a b =>
    simp only [step] at hr ⊢
    split at hr
    · split at hr
      · rename_i ht; rw [if_pos ht]; exact h _ _ _ _ _ hr
      · rename_i ht; rw [if_neg ht]; exact h _ _ _ _ _ hr
    · cases hr
  | block id c =>
    simp only [step] at hr ⊢
    cases hE : R Y c fr s with
    | none => rw [hE] at hr; cases hr
    | some z => rw [hE] at hr; rw [h _ _ _ _ _ hE]; exact hr
  | loop c => exact iter_mono (fun fr s r hr => h _ _ _ _ _ hr) k k' _ _ _ hk hr
  | exit id => exact hr
  | ret => exact hr
  | kl ts c => exact h _ _ _ _ _ hr
  | range g ps asg body =>
    simp only [step] at hr ⊢
    split at hr
    · cases hr
    · rename_i hY
      rw [if_neg hY]
      split at hr
      · rename_i n cap hg
        split at hr
        · rename_i sf h1 h2 h3
          cases hE : R (false, [(s.length, asg, body)]) sf.body (pad sf (.yld s.length :: cap)) (s ++ [.loop 0 none fr ps]) with
          | none => rw [hE] at hr; cases hr
          | some z => simp only [h _ _ _ _ _ hE]; rw [hE] at hr; exact hr
        · cases hr
      · cases hr

theorem run_mono {tb : Tbl} : ∀ {k k' : Nat}, k ≤ k' → RLe (run tb k) (run tb k')
  | 0, _, _ => fun _ _ _ _ _ h => by simp [run] at h
  | k + 1, 0, h => by omega
  | k + 1, k' + 1, h => fun Y c fr s r hr => step_mono (by omega) (run_mono (by omega : k ≤ k')) Y c fr s r hr


/-! ### answers, without fuel -/
noncomputable section

/-- The runner with all the fuel that is wanted. -/
def L (tb : Tbl) : Rn := fun Y c fr s =>
  open Classical in if h : ∃ r, ∃ k, run tb k Y c fr s = some r then some h.choose else none

theorem L_iff {tb : Tbl} {Y : YT} {c : SCode} {fr : Fr} {s : St} {r : Out × Fr × St} : L tb Y c fr s = some r ↔ ∃ k, run tb k Y c fr s = some r := by
  unfold L
  constructor
  · intro h
    split at h
    · rename_i hh
      injection h with h; subst h
      exact hh.choose_spec
    · cases h
  · rintro ⟨k, hk⟩
    have hh : ∃ r, ∃ k, run tb k Y c fr s = some r := ⟨r, k, hk⟩
    rw [dif_pos hh]
    obtain ⟨k', hk'⟩ := hh.choose_spec
    have h1 := run_mono (Nat.le_max_left k k') _ _ _ _ _ hk
    have h2 := run_mono (Nat.le_max_right k k') _ _ _ _ _ hk'
    rw [h1] at h2
    exact h2.symm
theorem run_L {tb : Tbl} {k : Nat} : RLe (run tb k) (L tb) := fun Y c fr s r h => L_iff.2 ⟨k, h⟩

def D (tb : Tbl) (f : Nat) (args : List AV) (s : St) : Option CR := doCall tb (L tb) f args s

theorem doCall_cont {tb : Tbl} {f : Nat} {a : List AV} {s : St} {r : CR} (hr : doCall tb (L tb) f a s = some r) : ∃ k, ∀ k', k ≤ k' → doCall tb (run tb k') f a s = some r := by
  suffices h : ∃ k, doCall tb (run tb k) f a s = some r by
    obtain ⟨k, hk⟩ := h
    exact ⟨k, fun k' h' => doCall_mono (run_mono h') _ _ _ _ hk⟩
  unfold doCall at hr ⊢
  cases hsp : tb.sprim f with
  | some p => exact ⟨0, by simpa only [hsp] using hr⟩
  | none =>
    simp only [hsp] at hr ⊢
    cases hp : tb.prim f with
    | some p => exact ⟨0, by simpa only [hp] using hr⟩
    | none =>
      simp only [hp] at hr ⊢
      cases hf : tb.fn f with
      | none => simp [hf] at hr
      | some sf =>
        simp only [hf] at hr ⊢
        by_cases hst : sf.st = true
        · simp only [hst, if_true] at hr ⊢
          cases hR : L tb (false, []) sf.body (pad sf a) s with
          | none => simp [hR] at hr
          | some x => obtain ⟨k, hk⟩ := L_iff.1 hR; rw [hR] at hr; exact ⟨k, by rw [hk]; exact hr⟩
        · simp only [hst] at hr ⊢
          cases hc : chainO (frzN s frzDepth) a with
          | none => simp [hc] at hr
          | some a' =>
            simp only [hc] at hr ⊢
            cases hR : L tb (false, []) sf.body (pad sf a') [] with
            | none => simp [hR] at hr
            | some x => obtain ⟨k, hk⟩ := L_iff.1 hR; rw [hR] at hr; exact ⟨k, by rw [hk]; exact hr⟩

theorem D_iff {tb : Tbl} {f : Nat} {a : List AV} {s : St} {r : CR} : D tb f a s = some r ↔ ∃ k, doCall tb (run tb k) f a s = some r :=
  ⟨fun h => (doCall_cont h).elim fun k hk => ⟨k, hk k (Nat.le_refl k)⟩, fun ⟨k, hk⟩ => doCall_mono run_L _ _ _ _ hk⟩

theorem yieldA_cont {tb : Tbl} {Y : YT} {f : Nat} {a : List AV} {s : St} {x : CR} (hr : yieldA (L tb) Y f a s = some x) : ∃ k, ∀ k', k ≤ k' → yieldA (run tb k') Y f a s = some x := by
  suffices h : ∃ k, yieldA (run tb k) Y f a s = some x by
    obtain ⟨k, hk⟩ := h
    exact ⟨k, fun k' h' => yieldA_mono (run_mono h') _ _ _ _ _ hk⟩
  unfold yieldA at hr ⊢
  split at hr
  rotate_left
  · cases hr
  rename_i asg body fr ps h1 h2
  split at hr
  rotate_left
  · cases hr
  rename_i hl
  cases hR : L tb (true, []) asg (setL fr ps a) s with
  | none => rw [hR] at hr; cases hr
  | some z =>
    rw [hR] at hr
    obtain ⟨o, fr1, s1⟩ := z
    cases o with
    | norm =>
      simp only at hr
      split at hr
      rotate_left
      · cases hr
      rename_i fr0 ps0 h3
      cases hB : L tb (true, []) body fr1 (s1.set f (.loop 1 none fr0 ps0)) with
      | none => rw [hB] at hr; cases hr
      | some z =>
        rw [hB] at hr
        obtain ⟨k, hk⟩ := L_iff.1 hR
        obtain ⟨k1, hk1⟩ := L_iff.1 hB
        refine ⟨max k k1, ?_⟩
        simp only [if_pos hl, run_mono (Nat.le_max_left k k1) _ _ _ _ _ hk, h3, run_mono (Nat.le_max_right k k1) _ _ _ _ _ hk1]
        exact hr
    | exit i => cases hr
    | ret => cases hr
    | pan v => cases hr

theorem runOps_cont {tb : Tbl} {Y : YT} : ∀ (l : List SI) (fr : Fr) (s : St) (r), runOps (doCall tb (L tb)) (yieldA (L tb) Y) l fr s = some r → ∃ k, ∀ k', k ≤ k' → runOps (doCall tb (run tb k')) (yieldA (run tb k') Y) l fr s = some r
  | [], fr, s, r, h => ⟨0, fun _ _ => h⟩
  | i :: l, fr, s, r, h => by
    simp only [runOps] at h ⊢
    split at h
    · cases h
    · exact runOps_cont l _ _ _ h
    · split at h
      · rename_i f args _
        cases hR : doCall tb (L tb) f (evs (ev fr) args) s with
        | none => rw [hR] at h; cases h
        | some x =>
          rw [hR] at h
          obtain ⟨k, hk⟩ := doCall_cont hR
          cases x with
          | ret v s' =>
            obtain ⟨k1, h1⟩ := runOps_cont l _ _ _ h
            exact ⟨max k k1, fun k' h' => by rw [hk k' (by omega)]; exact h1 k' (by omega)⟩
          | pan v s' => exact ⟨k, fun k' h' => by rw [hk k' h']; exact h⟩
      · rename_i f args _
        split at h
        · rename_i n first cap _
          cases hR : doCall tb (L tb) n (first ++ (evs (ev fr) args ++ cap)) s with
          | none => rw [hR] at h; cases h
          | some x =>
            rw [hR] at h
            obtain ⟨k, hk⟩ := doCall_cont hR
            cases x with
            | ret v s' =>
              obtain ⟨k1, h1⟩ := runOps_cont l _ _ _ h
              exact ⟨max k k1, fun k' h' => by simp only [hk k' (by omega)]; exact h1 k' (by omega)⟩
            | pan v s' => exact ⟨k, fun k' h' => by simp only [hk k' h']; exact h⟩
        · rename_i n _
          cases hR : yieldA (L tb) Y n (evs (ev fr) args) s with
          | none => rw [hR] at h; cases h
          | some x =>
            rw [hR] at h
            obtain ⟨k, hk⟩ := yieldA_cont hR
            cases x with
            | ret v s' =>
              obtain ⟨k1, h1⟩ := runOps_cont l _ _ _ h
              exact ⟨max k k1, fun k' h' => by simp only [hk k' (by omega)]; exact h1 k' (by omega)⟩
            | pan v s' => cases h
        · cases h
      · exact ⟨0, fun _ _ => h⟩
      · split at h
        · exact runOps_cont l _ _ _ h
        · cases h

theorem evl0_cont {tb : Tbl} {pc : Nat → Bool} {cls : Nat} {si : SI} {fr : Fr} {s : St} {r} (h : evl0 (doCall tb (L tb)) pc cls si fr s = some r) : ∃ k, ∀ k', k ≤ k' → evl0 (doCall tb (run tb k')) pc cls si fr s = some r := by
  unfold evl0 at h ⊢
  split at h
  · cases h
  · exact ⟨0, fun _ _ => h⟩
  · split at h
    · exact ⟨0, fun _ _ => h⟩
    · rename_i f args _
      split at h
      · cases h
      · rename_i hn
        simp only [if_neg hn]
        cases hR : doCall tb (L tb) f (evs (ev fr) args) s with
        | none => rw [hR] at h; cases h
        | some x =>
          rw [hR] at h
          obtain ⟨k, hk⟩ := doCall_cont hR
          exact ⟨k, fun k' h' => by rw [hk k' h']; exact h⟩
    · rename_i f args _
      split at h
      · rename_i n first cap _
        split at h
        · cases h
        · rename_i hn
          simp only [if_neg hn]
          cases hR : doCall tb (L tb) n (first ++ (evs (ev fr) args ++ cap)) s with
          | none => rw [hR] at h; cases h
          | some x =>
            rw [hR] at h
            obtain ⟨k, hk⟩ := doCall_cont hR
            exact ⟨k, fun k' h' => by rw [hk k' h']; exact h⟩
      · cases h
    · cases h

theorem exec1_cont {tb : Tbl} {pc : Nat → Bool} {x : DI} {fr : Fr} {s : St} {r} (h : exec1 (doCall tb (L tb)) pc x fr s = some r) : ∃ k, ∀ k', k ≤ k' → exec1 (doCall tb (run tb k')) pc x fr s = some r := by
  unfold exec1 at h ⊢
  cases x with
  | fz i ia d n x => exact ⟨0, fun _ _ => h⟩
  | ins i cls hh si =>
    simp only [evl1] at h ⊢
    cases hd : hid fr hh s with
    | none => simp [hd] at h
    | some s0 =>
      simp only [hd] at h ⊢
      cases hE : evl0 (doCall tb (L tb)) pc cls si fr s0 with
      | none => simp [hE] at h
      | some z =>
        obtain ⟨k, hk⟩ := evl0_cont hE
        rw [hE] at h
        exact ⟨k, fun k' h' => by rw [hk k' h']; exact h⟩

theorem runL_cont {tb : Tbl} {pc : Nat → Bool} : ∀ (l : List DI) (fr : Fr) (s : St) (r), runL (doCall tb (L tb)) pc l fr s = some r → ∃ k, ∀ k', k ≤ k' → runL (doCall tb (run tb k')) pc l fr s = some r
  | [], fr, s, r, h => ⟨0, fun _ _ => h⟩
  | x :: l, fr, s, r, h => by
    simp only [runL] at h ⊢
    cases hE : exec1 (doCall tb (L tb)) pc x fr s with
    | none => rw [hE] at h; cases h
    | some z =>
      rw [hE] at h
      obtain ⟨k, hk⟩ := exec1_cont hE
      obtain ⟨k1, h1⟩ := runL_cont l _ _ _ h
      exact ⟨max k k1, fun k' h' => by rw [hk k' (by omega)]; exact h1 k' (by omega)⟩

/-- One step of it, a loop by its next round. -/
def stepL (tb : Tbl) (R : Rn) (Y : YT) : SCode → Fr → St → Res
  | .loop c, fr, s => match R Y c fr s with
    | some (.norm, fr', s') => R Y (.loop c) fr' s'
    | r => r
  | .skip, fr, s => step tb 0 R Y .skip fr s
  | .ops l, fr, s => step tb 0 R Y (.ops l) fr s
  | .drw al l, fr, s => step tb 0 R Y (.drw al l) fr s
  | .seq a b, fr, s => step tb 0 R Y (.seq a b) fr s
  | .cond c a b, fr, s => step tb 0 R Y (.cond c a b) fr s
  | .block id c, fr, s => step tb 0 R Y (.block id c) fr s
  | .exit id, fr, s => step tb 0 R Y (.exit id) fr s
  | .ret, fr, s => step tb 0 R Y .ret fr s
  | .kl ts c, fr, s => step tb 0 R Y (.kl ts c) fr s
  | .range g ps a b, fr, s => step tb 0 R Y (.range g ps a b) fr s

theorem run_loop {tb : Tbl} {k n : Nat} {Y : YT} {c : SCode} {fr : Fr} {s : St} {r} (h : iter (run tb k Y c) n fr s = some r) : L tb Y (.loop c) fr s = some r := by
  refine L_iff.2 ⟨max k n + 1, ?_⟩
  show iter (run tb (max k n) Y c) (max k n) fr s = some r
  exact iter_mono (fun fr s r h => run_mono (Nat.le_max_left k n) _ _ _ _ _ h) _ _ _ _ _ (Nat.le_max_right k n) h

theorem L_to {tb : Tbl} {Y : YT} {c : SCode} {fr : Fr} {s : St} {r} (h : L tb Y c fr s = some r) : stepL tb (L tb) Y c fr s = some r := by
  obtain ⟨k, hk⟩ := L_iff.1 h
  cases k with
  | zero => simp [run] at hk
  | succ k =>
    have hk : step tb k (run tb k) Y c fr s = some r := hk
    have hm := step_mono (Nat.le_refl k) (run_L (k := k)) Y c fr s r hk
    cases c with
    | loop c =>
      simp only [step] at hk
      cases k with
      | zero => cases hk
      | succ k =>
        simp only [iter] at hk
        simp only [stepL]
        cases hE : run tb (k + 1) Y c fr s with
        | none => rw [hE] at hk; cases hk
        | some z =>
          rw [hE] at hk; rw [run_L _ _ _ _ _ hE]
          obtain ⟨o, fr1, s1⟩ := z
          cases o with
          | norm => exact run_loop hk
          | exit i => exact hk
          | ret => exact hk
          | pan v => exact hk
    | skip => exact hm
    | ops l => exact hm
    | drw al l => exact hm
    | seq a b => exact hm
    | cond c a b => exact hm
    | block id c => exact hm
    | exit id => exact hm
    | ret => exact hm
    | kl ts c => exact hm
    | range g ps a b => exact hm

theorem L_from {tb : Tbl} {Y : YT} {c : SCode} {fr : Fr} {s : St} {r} (h : stepL tb (L tb) Y c fr s = some r) : L tb Y c fr s = some r := by
  cases c with
  | skip => exact L_iff.2 ⟨1, h⟩
  | exit id => exact L_iff.2 ⟨1, h⟩
  | ret => exact L_iff.2 ⟨1, h⟩
  | ops l =>
    obtain ⟨k, hk⟩ := runOps_cont l fr s r h
    exact L_iff.2 ⟨k + 1, hk k (Nat.le_refl k)⟩
  | drw al l =>
    simp only [stepL, step] at h
    split at h
    · rename_i hl
      cases hE : runL (doCall tb (L tb)) tb.pc l (anyAt al fr) s with
      | none => rw [hE] at h; cases h
      | some z =>
        rw [hE] at h
        obtain ⟨k, hk⟩ := runL_cont l _ _ _ hE
        refine L_iff.2 ⟨k + 1, ?_⟩
        simp only [run, step, if_pos hl, hk k (Nat.le_refl k)]
        exact h
    · cases h
  | seq a b =>
    simp only [stepL, step] at h
    cases hE : L tb Y a fr s with
    | none => rw [hE] at h; cases h
    | some z =>
      rw [hE] at h
      obtain ⟨k, hk⟩ := L_iff.1 hE
      obtain ⟨o, fr1, s1⟩ := z
      cases o with
      | norm =>
        obtain ⟨k1, h1⟩ := L_iff.1 h
        refine L_iff.2 ⟨max k k1 + 1, ?_⟩
        simp only [run, step, run_mono (Nat.le_max_left k k1) _ _ _ _ _ hk]
        exact run_mono (Nat.le_max_right k k1) _ _ _ _ _ h1
      | exit i => exact L_iff.2 ⟨k + 1, by simp only [run, step, hk]; exact h⟩
      | ret => exact L_iff.2 ⟨k + 1, by simp only [run, step, hk]; exact h⟩
      | pan v => exact L_iff.2 ⟨k + 1, by simp only [run, step, hk]; exact h⟩
  | cond c a b =>
    simp only [stepL, step] at h
    split at h
    · rename_i t hc
      split at h
      · rename_i ht
        obtain ⟨k, hk⟩ := L_iff.1 h
        exact L_iff.2 ⟨k + 1, by simp only [run, step, hc, if_pos ht, hk]⟩
      · rename_i ht
        obtain ⟨k, hk⟩ := L_iff.1 h
        exact L_iff.2 ⟨k + 1, by simp only [run, step, hc, if_neg ht, hk]⟩
    · cases h
  | block id c =>
    simp only [stepL, step] at h
    cases hE : L tb Y c fr s with
    | none => rw [hE] at h; cases h
    | some z =>
      rw [hE] at h
      obtain ⟨k, hk⟩ := L_iff.1 hE
      exact L_iff.2 ⟨k + 1, by simp only [run, step, hk]; exact h⟩
  | loop c =>
    simp only [stepL] at h
    cases hE : L tb Y c fr s with
    | none => rw [hE] at h; cases h
    | some z =>
      rw [hE] at h
      obtain ⟨k, hk⟩ := L_iff.1 hE
      obtain ⟨o, fr1, s1⟩ := z
      cases o with
      | norm =>
        obtain ⟨k1, h1⟩ := L_iff.1 h
        cases k1 with
        | zero => simp [run] at h1
        | succ k1 =>
          have h1 : iter (run tb k1 Y c) k1 fr1 s1 = some r := h1
          refine run_loop (k := max k k1) (n := k1 + 1) ?_
          simp only [iter, run_mono (Nat.le_max_left k k1) _ _ _ _ _ hk]
          exact iter_mono (fun fr s r h => run_mono (Nat.le_max_right k k1) _ _ _ _ _ h) _ _ _ _ _ (Nat.le_refl k1) h1
      | exit i => exact run_loop (k := k) (n := 1) (by simp only [iter, hk]; exact h)
      | ret => exact run_loop (k := k) (n := 1) (by simp only [iter, hk]; exact h)
      | pan v => exact run_loop (k := k) (n := 1) (by simp only [iter, hk]; exact h)
  | kl ts c =>
    obtain ⟨k, hk⟩ := L_iff.1 (show L tb Y c (anyAt ts fr) s = some r from h)
    exact L_iff.2 ⟨k + 1, hk⟩
  | range g ps asg body =>
    simp only [stepL, step] at h
    split at h
    · cases h
    · rename_i hY
      split at h
      · rename_i n cap hg
        split at h
        · rename_i sf h1 h2 h3
          cases hE : L tb (false, [(s.length, asg, body)]) sf.body (pad sf (.yld s.length :: cap)) (s ++ [.loop 0 none fr ps]) with
          | none => rw [hE] at h; cases h
          | some z =>
            rw [hE] at h
            obtain ⟨k, hk⟩ := L_iff.1 hE
            refine L_iff.2 ⟨k + 1, ?_⟩
            simp only [run, step, if_neg hY, hg, h1, h2, h3, hk]
            exact h
        · cases h
      · cases h

theorem L_eq (tb : Tbl) (Y : YT) (c : SCode) (fr : Fr) (s : St) : L tb Y c fr s = stepL tb (L tb) Y c fr s := by
  cases h : L tb Y c fr s with
  | some r => exact (L_to h).symm
  | none =>
    cases h2 : stepL tb (L tb) Y c fr s with
    | none => rfl
    | some r => rw [L_from h2] at h; cases h

/-! ### with what is done behind -/
abbrev Kt (β : Type) := Out → Fr → St → Option β
def bindR {β : Type} (x : Res) (K : Kt β) : Option β := match x with
  | some (o, fr, s) => K o fr s
  | none => none
def bindC {β : Type} (x : Option CR) (K P : AV → St → Option β) : Option β := match x with
  | some (.ret v s) => K v s
  | some (.pan v s) => P v s
  | none => none
def bindO {β : Type} (x : Option (AV × St)) (K : AV → St → Option β) : Option β := match x with
  | some (v, s) => K v s
  | none => none
def brO {β : Type} (v : AV) (a b : Option β) : Option β := match v with
  | .bool t => if t then a else b
  | _ => none
def guardO {β : Type} (g : Option Bool) (a b : Option β) : Option β := match g with
  | some t => if t then a else b
  | none => none
def callvO {β : Type} (tb : Tbl) (Y : YT) (f : AV) (args : List AV) (s : St) (K P : AV → St → Option β) : Option β := match f with
  | .fn n first cap => bindC (D tb n (first ++ (args ++ cap)) s) K P
  | .yld r => bindC (yieldA (L tb) Y r args s) K (fun _ _ => none)
  | _ => none
def panO {β : Type} (v : AV) (s : St) (P : AV → St → Option β) : Option β := match v with
  | .ifc t v => P (.ifc t v) s
  | _ => none
def evJ {β : Type} (tb : Tbl) (Y : YT) (o : SJ) (fr : Fr) (s : St) (K P : AV → St → Option β) : Option β := match o with
  | .call f args => bindC (D tb f (evs (ev fr) args) s) K P
  | .callv f args => callvO tb Y (ev fr f) (evs (ev fr) args) s K P
  | .panic x => panO (ev fr x) s P
  | .op o => bindO (sop1 o (ev fr) s) K
def evOps {β : Type} (tb : Tbl) (Y : YT) : List SI → Fr → St → Kt β → Option β
  | [], fr, s, K => K .norm fr s
  | i :: l, fr, s, K => guardO (wanted fr i.g)
      (evJ tb Y i.o fr s (fun v s' => evOps tb Y l (put fr i.d v) s' K) (fun v s' => K (.pan v) fr s'))
      (evOps tb Y l (put fr i.d (.tup [])) s K)

theorem evOps_eq {β : Type} {tb : Tbl} {Y : YT} : ∀ (l : List SI) (fr : Fr) (s : St) (K : Kt β), bindR (runOps (doCall tb (L tb)) (yieldA (L tb) Y) l fr s) K = evOps tb Y l fr s K
  | [], fr, s, K => rfl
  | i :: l, fr, s, K => by
    simp only [runOps, evOps]
    cases hw : wanted fr i.g with
    | none => rfl
    | some b =>
      cases b with
      | false => simp only [guardO]; exact evOps_eq l _ _ K
      | true =>
        simp only [guardO, if_true]
        cases i.o with
        | call f args =>
          simp only [evJ, D]
          cases doCall tb (L tb) f (evs (ev fr) args) s with
          | none => rfl
          | some x => cases x with
            | ret v s' => exact evOps_eq l _ _ K
            | pan v s' => rfl
        | callv f args =>
          simp only [evJ]
          cases ev fr f with
          | fn n first cap =>
            simp only [callvO, D]
            cases doCall tb (L tb) n (first ++ (evs (ev fr) args ++ cap)) s with
            | none => rfl
            | some x => cases x with
              | ret v s' => exact evOps_eq l _ _ K
              | pan v s' => rfl
          | yld n =>
            simp only [callvO]
            cases yieldA (L tb) Y n (evs (ev fr) args) s with
            | none => rfl
            | some x => cases x with
              | ret v s' => exact evOps_eq l _ _ K
              | pan v s' => rfl
          | _ => rfl
        | panic x =>
          simp only [evJ]
          cases ev fr x <;> rfl
        | op o =>
          simp only [evJ]
          cases sop1 o (ev fr) s with
          | none => rfl
          | some x => exact evOps_eq l _ _ K

def evE {β : Type} (tb : Tbl) (cls : Nat) (si : SI) (fr : Fr) (s : St) (K : AV → St → Option β) : Option β :=
  guardO (wanted fr si.g)
    (match si.o with
      | .op o => bindO (sop1 o (ev fr) s) K
      | .call f args => if cls < 2 && !tb.pc f then none else bindC (D tb f (evs (ev fr) args) s) K (fun _ _ => none)
      | .callv f args => match ev fr f with
        | .fn n first cap => if cls < 2 && !tb.pc n then none else bindC (D tb n (first ++ (evs (ev fr) args ++ cap)) s) K (fun _ _ => none)
        | _ => none
      | .panic _ => none)
    (K (.tup []) s)
theorem evE_eq {β : Type} {tb : Tbl} {cls : Nat} {si : SI} {fr : Fr} {s : St} {K : AV → St → Option β} : bindO (evl0 (doCall tb (L tb)) tb.pc cls si fr s) K = evE tb cls si fr s K := by
  unfold evl0 evE
  cases wanted fr si.g with
  | none => rfl
  | some b =>
    cases b with
    | false => rfl
    | true =>
      simp only [guardO, if_true]
      cases si.o with
      | op o => rfl
      | call f args =>
        simp only [D]
        split
        · rfl
        · cases doCall tb (L tb) f (evs (ev fr) args) s with
          | none => rfl
          | some x => cases x <;> rfl
      | callv f args =>
        simp only [D]
        cases ev fr f with
        | fn n first cap =>
          simp only
          split
          · rfl
          · cases doCall tb (L tb) n (first ++ (evs (ev fr) args ++ cap)) s with
            | none => rfl
            | some x => cases x <;> rfl
        | _ => rfl
      | panic x => rfl

def evD {β : Type} (tb : Tbl) (x : DI) (fr : Fr) (s : St) (K : AV → St → Option β) : Option β := match x with
  | .ins _ cls h si => match hid fr h s with
    | none => none
    | some s0 => evE tb cls si fr s0 fun v s1 => match h with
      | [] => K v s1
      | _ :: _ => if cls ≤ 1 then K v s else if s.length ≤ s1.length then K v (rst fr h s s1) else none
  | .fz _ _ _ n x => match (ev fr x).cells? with
    | some cs => if cs.length = n then K (.ptr s.length 0) (s ++ [.box cs]) else none
    | none => none
theorem evD_eq {β : Type} {tb : Tbl} {x : DI} {fr : Fr} {s : St} {K : AV → St → Option β} : bindO (evl1 (doCall tb (L tb)) tb.pc x fr s) K = evD tb x fr s K := by
  cases x with
  | ins i cls h si =>
    simp only [evl1, evD]
    cases hid fr h s with
    | none => rfl
    | some s0 =>
      simp only
      rw [← evE_eq]
      cases evl0 (doCall tb (L tb)) tb.pc cls si fr s0 with
      | none => rfl
      | some z =>
        obtain ⟨v, s1⟩ := z
        cases h with
        | nil => rfl
        | cons a r =>
          simp only [bindO]
          by_cases hc : cls ≤ 1
          · simp only [if_pos hc]
          · simp only [if_neg hc]
            by_cases hl : s.length ≤ s1.length
            · simp only [if_pos hl]
            · simp only [if_neg hl]
  | fz i ia d n x =>
    simp only [evl1, evD]
    cases (ev fr x).cells? with
    | none => rfl
    | some cs =>
      simp only
      by_cases hc : cs.length = n
      · simp only [if_pos hc, bindO]
      · simp only [if_neg hc, bindO]

def evL {β : Type} (tb : Tbl) : List DI → Fr → St → (Fr → St → Option β) → Option β
  | [], fr, s, K => K fr s
  | x :: l, fr, s, K => evD tb x fr s fun v s' => evL tb l (put fr x.dst v) s' K
def bindL {β : Type} (x : Option (Fr × St)) (K : Fr → St → Option β) : Option β := match x with
  | some (fr, s) => K fr s
  | none => none
theorem evL_eq {β : Type} {tb : Tbl} : ∀ (l : List DI) (fr : Fr) (s : St) (K : Fr → St → Option β), bindL (runL (doCall tb (L tb)) tb.pc l fr s) K = evL tb l fr s K
  | [], fr, s, K => rfl
  | x :: l, fr, s, K => by
    simp only [runL, evL, exec1]
    rw [← evD_eq]
    cases evl1 (doCall tb (L tb)) tb.pc x fr s with
    | none => rfl
    | some z => exact evL_eq l _ _ K

def seqK {β : Type} (k : Fr → St → Option β) (K : Kt β) : Kt β := fun o fr s => match o with
  | .norm => k fr s
  | .exit i => K (.exit i) fr s
  | .ret => K .ret fr s
  | .pan v => K (.pan v) fr s
def blkK {β : Type} (id : Nat) (K : Kt β) : Kt β := fun o fr s => match o with
  | .norm => K .norm fr s
  | .exit i => if i = id then K .norm fr s else K (.exit i) fr s
  | .ret => K .ret fr s
  | .pan v => K (.pan v) fr s

def evK {β : Type} (tb : Tbl) (Y : YT) : SCode → Fr → St → Kt β → Option β
  | .skip, fr, s, K => K .norm fr s
  | .ops l, fr, s, K => evOps tb Y l fr s K
  | .drw al l, fr, s, K => if al.all fun d => decide (d < fr.length) then evL tb l (anyAt al fr) s (K .norm) else none
  | .seq a b, fr, s, K => evK tb Y a fr s (seqK (fun fr' s' => evK tb Y b fr' s' K) K)
  | .cond c a b, fr, s, K => brO (ev fr c) (evK tb Y a fr s K) (evK tb Y b fr s K)
  | .block id c, fr, s, K => evK tb Y c fr s (blkK id K)
  | .loop c, fr, s, K => bindR (L tb Y (.loop c) fr s) K
  | .exit id, fr, s, K => K (.exit id) fr s
  | .ret, fr, s, K => K .ret fr s
  | .kl ts c, fr, s, K => evK tb Y c (anyAt ts fr) s K
  | .range g ps asg body, fr, s, K => bindR (L tb Y (.range g ps asg body) fr s) K

theorem evK_eq {β : Type} {tb : Tbl} {Y : YT} : ∀ (c : SCode) (fr : Fr) (s : St) (K : Kt β), bindR (L tb Y c fr s) K = evK tb Y c fr s K
  | .skip, fr, s, K => by rw [L_eq]; rfl
  | .ops l, fr, s, K => by rw [L_eq]; exact evOps_eq l fr s K
  | .drw al l, fr, s, K => by
    rw [L_eq]
    simp only [stepL, step, evK]
    split
    · rw [← evL_eq]
      cases runL (doCall tb (L tb)) tb.pc l (anyAt al fr) s with
      | none => rfl
      | some z => rfl
    · rfl
  | .seq a b, fr, s, K => by
    rw [L_eq]
    simp only [stepL, step, evK]
    rw [← evK_eq a]
    cases L tb Y a fr s with
    | none => rfl
    | some z =>
      obtain ⟨o, fr1, s1⟩ := z
      cases o with
      | norm => exact evK_eq b fr1 s1 K
      | exit i => rfl
      | ret => rfl
      | pan v => rfl
  | .cond c a b, fr, s, K => by
    rw [L_eq]
    simp only [stepL, step, evK]
    cases ev fr c with
    | bool t =>
      simp only [brO]
      cases t with
      | true => exact evK_eq a fr s K
      | false => exact evK_eq b fr s K
    | _ => rfl
  | .block id c, fr, s, K => by
    rw [L_eq]
    simp only [stepL, step, evK]
    rw [← evK_eq c]
    cases L tb Y c fr s with
    | none => rfl
    | some z =>
      obtain ⟨o, fr1, s1⟩ := z
      cases o with
      | norm => rfl
      | exit i =>
        by_cases hi : i = id
        · simp only [bindR, blkK, if_pos hi]
        · simp only [bindR, blkK, if_neg hi]
      | ret => rfl
      | pan v => rfl
  | .loop c, fr, s, K => rfl
  | .exit id, fr, s, K => by rw [L_eq]; rfl
  | .ret, fr, s, K => by rw [L_eq]; rfl
  | .kl ts c, fr, s, K => by
    rw [L_eq]
    exact evK_eq c (anyAt ts fr) s K
  | .range g ps asg body, fr, s, K => rfl

/-- A loop, by its next round. -/
theorem loop_eq {β : Type} {tb : Tbl} {Y : YT} (c : SCode) (fr : Fr) (s : St) (K : Kt β) :
    bindR (L tb Y (.loop c) fr s) K = evK tb Y c fr s (seqK (fun fr' s' => bindR (L tb Y (.loop c) fr' s') K) K) := by
  rw [L_eq]
  simp only [stepL]
  rw [← evK_eq c]
  cases L tb Y c fr s with
  | none => rfl
  | some z =>
    obtain ⟨o, fr1, s1⟩ := z
    cases o <;> rfl

/-- A call of a function that writes nothing of ours. -/
theorem D_fn {tb : Tbl} {f : Nat} {sf : SFn} (h1 : tb.sprim f = none) (h2 : tb.prim f = none) (h3 : tb.fn f = some sf) (h4 : sf.st = false) {a a' : List AV} {s : St} (ha : chainO (frzN s frzDepth) a = some a') :
    D tb f a s = evK tb (false, []) sf.body (pad sf a') [] (fun o fr' s' => match fin sf o fr' s' with
      | some r => back a s r
      | none => none) := by
  unfold D doCall
  simp only [h1, h2, h3, h4, ha]
  rw [← evK_eq]
  cases L tb (false, []) sf.body (pad sf a') [] with
  | none => rfl
  | some z => rfl
theorem D_st {tb : Tbl} {f : Nat} {sf : SFn} (h1 : tb.sprim f = none) (h2 : tb.prim f = none) (h3 : tb.fn f = some sf) (h4 : sf.st = true) {a : List AV} {s : St} :
    D tb f a s = evK tb (false, []) sf.body (pad sf a) s (fun o fr' s' => fin sf o fr' s') := by
  unfold D doCall
  simp only [h1, h2, h3, h4]
  rw [← evK_eq]
  cases L tb (false, []) sf.body (pad sf a) s with
  | none => rfl
  | some z => rfl
end
end Go.Ab
