import Derived.Test.YtpplmjjmdnfpgaaGreatXAbM
set_option linter.unusedVariables false
namespace Go.Ab

theorem ev_congr {fr fr' : Fr} {x : X} (h : ∀ t ∈ x.slot.toList, fr.getD t .any = fr'.getD t .any) : ev fr x = ev fr' x := by
  cases x with
  | t n => exact h n (by simp [X.slot])
  | c v => rfl
theorem evs_congr' {fr fr' : Fr} {l : List X} (h : ∀ t ∈ l.filterMap X.slot, fr.getD t .any = fr'.getD t .any) : ∀ x ∈ l, ev fr x = ev fr' x := by
  intro x hx
  refine ev_congr (fun t ht => h t ?_)
  rw [List.mem_filterMap]
  exact ⟨x, hx, by simpa using ht⟩

section
variable {cf : Nat → List AV → St → Option CR} {pc : Nat → Bool}

theorem hid_congr {fr fr' : Fr} : ∀ {h : List Nat} {s : St}, (∀ t ∈ h, fr.getD t .any = fr'.getD t .any) → hid fr h s = hid fr' h s
  | [], s, _ => rfl
  | a :: r, s, h => by
    simp only [hid]
    rw [h a (by simp)]
    split
    · split
      · rfl
      · rfl
      · exact hid_congr (fun t ht => h t (by simp [ht]))
      · rfl
    · rfl

theorem rst_congr {fr fr' : Fr} : ∀ {h : List Nat} {s s1 : St}, (∀ t ∈ h, fr.getD t .any = fr'.getD t .any) → rst fr h s s1 = rst fr' h s s1
  | [], s, s1, _ => rfl
  | a :: r, s, s1, h => by
    simp only [rst]
    rw [h a (by simp)]
    split
    · split
      · exact rst_congr (fun t ht => h t (by simp [ht]))
      · exact rst_congr (fun t ht => h t (by simp [ht]))
    · exact rst_congr (fun t ht => h t (by simp [ht]))

theorem evl0_congr {cls : Nat} {si : SI} {fr fr' : Fr} {s : St} (h : ∀ t ∈ si.reads, fr.getD t .any = fr'.getD t .any) : evl0 cf pc cls si fr s = evl0 cf pc cls si fr' s := by
    obtain ⟨d, g, o⟩ := si
    simp only [SI.reads, List.mem_append] at h
    have hw : wanted fr g = wanted fr' g := by
      cases g with
      | none => rfl
      | some p =>
        obtain ⟨t, b⟩ := p
        simp only [wanted]
        rw [h t (.inr (by simp))]
    have hx := evs_congr' (fr := fr) (fr' := fr') (l := o.xs) (fun t ht => h t (.inl ht))
    simp only [evl0, hw]
    split
    · rfl
    · rfl
    · cases o with
      | op o => exact sop1_congr hx
      | call f args => simp only; rw [evs_congr (l := args) hx]
      | callv f args =>
        simp only
        rw [hx f (by simp [SJ.xs])]
        have : evs (ev fr) args = evs (ev fr') args := evs_congr (fun x h1 => hx x (by simp [SJ.xs, h1]))
        rw [this]
      | panic x => rfl

theorem evl1_congr {x : DI} {fr fr' : Fr} {s : St} (h : ∀ t ∈ x.reads, fr.getD t .any = fr'.getD t .any) : evl1 cf pc x fr s = evl1 cf pc x fr' s := by
  cases x with
  | fz i ia d n x =>
    simp only [evl1]
    rw [ev_congr (fr' := fr') (fun t ht => h t ht)]
  | ins i cls hs si =>
    simp only [DI.reads, List.mem_append] at h
    simp only [evl1]
    rw [hid_congr (fr' := fr') (fun t ht => h t (.inl ht))]
    split
    · rfl
    · rw [evl0_congr (fr' := fr') (fun t ht => h t (.inr ht))]
      rename_i s0 _
      cases evl0 cf pc cls si fr' s0 with
      | none => rfl
      | some p =>
        cases hs with
        | nil => rfl
        | cons b r => simp only [rst_congr (fr' := fr') (fun t ht => h t (.inl ht))]

def DI.okCls : DI → Bool
  | .fz _ _ _ _ _ => true
  | .ins _ 0 h si => h.isEmpty && match si.o with
    | .op o => o.pureB
    | _ => false
  | .ins _ 1 _ si => match si.o with
    | .op o => o.readB
    | _ => true
  | .ins _ _ _ _ => true

theorem cls0 {x : DI} (hx : x.okCls = true) (hc : x.cls = 0) {fr : Fr} {s s' : St} {v : AV} (h : evl1 cf pc x fr s = some (v, s')) : s' = s ∧ ∀ s2, evl1 cf pc x fr s2 = some (v, s2) := by
  cases x with
  | fz i ia d n x => simp [DI.cls] at hc
  | ins i cls hs si =>
    simp only [DI.cls] at hc; subst hc
    simp only [DI.okCls, Bool.and_eq_true, List.isEmpty_iff] at hx
    obtain ⟨hh, hx⟩ := hx; subst hh
    split at hx
    · rename_i o ho
      have key : evl0 cf pc 0 si fr s = some (v, s') := by
        simp only [evl1, hid] at h
        split at h
        · rename_i v1 s1 he
          injection h with h; injection h with h1 h2; subst h1; subst h2
          exact he
        · cases h
      have key2 : s' = s ∧ ∀ s2, evl0 cf pc 0 si fr s2 = some (v, s2) := by
        simp only [evl0, ho] at key ⊢
        split at key
        · cases key
        · injection key with key; injection key with h1 h2; subst h1; subst h2
          simp
        · exact pure_state hx key
      refine ⟨key2.1, fun s2 => ?_⟩
      simp only [evl1, hid, key2.2 s2]
    · cases hx
theorem evl0_state (hpc : ∀ f args s v s', pc f = true → cf f args s = some (.ret v s') → s' = s) {cls : Nat} {si : SI} (hc : cls < 2) (hx : ∀ o, si.o = .op o → o.readB = true) {fr : Fr} {s s' : St} {v : AV} (h : evl0 cf pc cls si fr s = some (v, s')) : s' = s := by
  have hc' : decide (cls < 2) = true := by simpa using hc
  simp only [evl0, hc', Bool.true_and] at h
  split at h
  · cases h
  · injection h with h; injection h with h1 h2; exact h2.symm
  · split at h
    · rename_i o ho
      exact read_state (hx o ho) h
    · split at h
      · cases h
      · rename_i hp
        split at h
        · rename_i v1 s1 hr
          injection h with h; injection h with h1 h2; subst h1; subst h2
          refine hpc _ _ _ _ _ ?_ hr
          simpa using hp
        · cases h
    · split at h
      · split at h
        · cases h
        · rename_i hp
          split at h
          · rename_i v1 s1 hr
            injection h with h; injection h with h1 h2; subst h1; subst h2
            refine hpc _ _ _ _ _ ?_ hr
            simpa using hp
          · cases h
      · cases h
    · cases h
theorem cls1 (hpc : ∀ f args s v s', pc f = true → cf f args s = some (.ret v s') → s' = s) {x : DI} (hx : x.okCls = true) (hc : x.cls ≤ 1) {fr : Fr} {s s' : St} {v : AV} (h : evl1 cf pc x fr s = some (v, s')) : s' = s := by
  rcases Nat.lt_or_ge x.cls 1 with h0 | h1
  · exact (cls0 hx (by omega) h).1
  · have hc1 : x.cls = 1 := by omega
    cases x with
    | fz i ia d n x => simp [DI.cls] at hc1
    | ins i cls hs si =>
      simp only [DI.cls] at hc1; subst hc1
      simp only [DI.okCls] at hx
      simp only [evl1] at h
      split at h
      · cases h
      · rename_i s0 hs0
        split at h
        · rename_i v1 s1 he
          cases hs with
          | nil =>
            simp only [hid] at hs0; injection hs0 with hs0; subst hs0
            simp only at h
            injection h with h; injection h with h1 h2; subst h1; subst h2
            refine evl0_state hpc (by omega) (fun o ho => ?_) he
            rw [ho] at hx; exact hx
          | cons a r =>
            simp only [Nat.le_refl, if_true] at h
            injection h with h; injection h with h1 h2; exact h2.symm
        · cases h

/-- y only reads, and does not see what the store x fills. -/
def hidesB : DI → DI → Bool
  | .ins _ c h _, .ins _ 2 [] ⟨none, none, .op (.store _ (.t a) _)⟩ => decide (c ≤ 1) && h.contains a
  | _, _ => false

/-- x is a load of what the call y does not see. -/
def hidesC : DI → DI → Bool
  | .ins _ 2 h _, .ins _ 1 [] ⟨_, none, .op (.load _ (.t a))⟩ => h.contains a
  | .ins _ 2 h _, .ins _ 1 [] ⟨_, none, .op (.loadAt (.t c) _ _)⟩ => h.contains c
  | _, _ => false

theorem rst_set {fr : Fr} : ∀ {h : List Nat} {s s1 : St} {a k off : Nat} {b : ABlk}, a ∈ h → fr.getD a .any = .ptr k off → s[k]? = some b → k < s1.length → (rst fr h s s1)[k]? = some b
  | [], s, s1, a, k, off, b, ha, _, _, _ => by simp at ha
  | a0 :: r, s, s1, a, k, off, b, ha, hf, hs, hk => by
    have keep : ∀ (h : List Nat) (s1 : St), s1[k]? = some b → (rst fr h s s1)[k]? = some b := by
      intro h
      induction h with
      | nil => intro s1 h1; exact h1
      | cons c l ih =>
        intro s1 h1
        simp only [rst]
        split
        · split
          · rename_i k' off' hq xo b' hb'
            refine ih _ ?_
            by_cases he : k' = k
            · subst he; rw [hs] at hb'; injection hb' with hb'; subst hb'
              exact List.getElem?_set_self (List.getElem?_eq_some_iff.1 h1).1
            · rw [List.getElem?_set_ne he]; exact h1
          · exact ih _ h1
        · exact ih _ h1
    simp only [rst]
    by_cases he : a = a0
    · subst he
      rw [hf]
      simp only [hs]
      exact keep r _ (List.getElem?_set_self hk)
    · have ha' : a ∈ r := (List.mem_cons.1 ha).resolve_left he
      split
      · split
        · exact rst_set ha' hf hs (by simpa using hk)
        · exact rst_set ha' hf hs hk
      · exact rst_set ha' hf hs hk

theorem hid_set {fr : Fr} {k : Nat} {b b' : ABlk} : ∀ {h : List Nat} {s : St} {a : Nat} {off : Nat}, a ∈ h → fr.getD a .any = .ptr k off → s[k]? = some b → (∃ c, b = .box c) → (∃ c, b' = .box c) → hid fr h (s.set k b') = hid fr h s
  | [], s, a, off, ha, _, _, _, _ => by simp at ha
  | a0 :: r, s, a, off, ha, hf, hs, hb, hb' => by
    have hk := (List.getElem?_eq_some_iff.1 hs).1
    simp only [hid]
    cases hv : fr.getD a0 .any with
    | ptr k0 off0 =>
      simp only
      by_cases hkk : k0 = k
      · subst hkk
        rw [List.getElem?_set_self hk, hs]
        have e1 : (s.set k0 b').set k0 .gone = s.set k0 .gone := List.set_set _
        obtain ⟨c, rfl⟩ := hb
        obtain ⟨c', rfl⟩ := hb'
        simp only [e1]
      · rw [List.getElem?_set_ne (Ne.symm hkk)]
        have ha' : a ∈ r := by
          rcases List.mem_cons.1 ha with e | e
          · subst e; rw [hf] at hv; injection hv with h1 h2; exact absurd h1.symm hkk
          · exact e
        have e1 : (s.set k b').set k0 .gone = (s.set k0 .gone).set k b' := List.set_comm _ _ (Ne.symm hkk)
        cases hq : s[k0]? with
        | none => rfl
        | some q =>
          have hs' : (s.set k0 .gone)[k]? = some b := by rw [List.getElem?_set_ne hkk]; exact hs
          cases q with
          | row e sz byt rs => rfl
          | loop st pe f ps => rfl
          | box cs => simp only [e1]; exact hid_set ha' hf hs' hb hb'
          | gone => simp only [e1]; exact hid_set ha' hf hs' hb hb'
    | _ => rfl

/-- What a store leaves hidden as it was. -/
theorem hid_store {fr : Fr} {h : List Nat} {s s' : St} {n a : Nat} {x : AV} (ha : a ∈ h) (hst : storeA s n (fr.getD a .any) x = some s') (hd : (hid fr h s).isSome = true ∨ (hid fr h s').isSome = true) : hid fr h s' = hid fr h s := by
  have hptr : ∀ (h : List Nat) (s : St), a ∈ h → (hid fr h s).isSome = true → ∃ k off, fr.getD a .any = .ptr k off := by
    intro h
    induction h with
    | nil => intro s h1; simp at h1
    | cons b r ih =>
      intro s h1 h2
      simp only [hid] at h2
      split at h2
      · rename_i k off hk
        rcases List.mem_cons.1 h1 with e | e
        · subst e; exact ⟨k, off, hk⟩
        · split at h2
          · cases h2
          · cases h2
          · exact ih _ e h2
          · cases h2
      · cases h2
  have hp : ∃ k off, fr.getD a .any = .ptr k off := by
    rcases hd with hd | hd
    · exact hptr h s ha hd
    · exact hptr h s' ha hd
  obtain ⟨k, off, hp⟩ := hp
  rw [hp] at hst
  unfold storeA at hst
  split at hst
  · cases hst
  · split at hst
    · simp only at hst
      split at hst
      · rename_i cells hc
        split at hst
        · injection hst with hst
          subst hst
          exact hid_set ha hp hc ⟨_, rfl⟩ ⟨_, rfl⟩
        · cases hst
      · cases hst
    · cases hst

/-- Neither names what the other one makes, and the state is none between them. -/
def apartB (x y : DI) : Bool :=
  (match x.dst with | some d => !(y.reads.contains d) && y.dst != some d | none => true) && (match y.dst with | some d => !(x.reads.contains d) | none => true) &&
  (x.cls == 0 || y.cls == 0 || (decide (x.cls ≤ 1) && decide (y.cls ≤ 1)) || hidesB x y || hidesB y x || hidesC x y || hidesC y x)

theorem getD_put {fr : Fr} {d : Option Nat} {v : AV} {t : Nat} (h : d ≠ some t) : (put fr d v).getD t .any = fr.getD t .any := by
  cases d with
  | none => rfl
  | some n =>
    have hne : n ≠ t := fun e => h (by rw [e])
    simp [put, List.getD, List.getElem?_set_ne hne]
theorem put_comm {fr : Fr} {d e : Option Nat} {v u : AV} (h : ∀ x, d = some x → e ≠ some x) : put (put fr d v) e u = put (put fr e u) d v := by
  cases d with
  | none => rfl
  | some x =>
    cases e with
    | none => rfl
    | some y =>
      have : y ≠ x := fun e => h x rfl (by rw [e])
      simp only [put]
      exact (List.set_comm _ _ this.symm)

theorem apart_parts {x y : DI} (h : apartB x y = true) : (∀ d, x.dst = some d → d ∉ y.reads) ∧ (∀ d, x.dst = some d → y.dst ≠ some d) ∧ (∀ d, y.dst = some d → d ∉ x.reads) ∧ (x.cls = 0 ∨ y.cls = 0 ∨ (x.cls ≤ 1 ∧ y.cls ≤ 1) ∨ hidesB x y = true ∨ hidesB y x = true ∨ hidesC x y = true ∨ hidesC y x = true) := by
  simp only [apartB, Bool.and_eq_true, Bool.or_eq_true] at h
  obtain ⟨⟨h1, h2⟩, h3⟩ := h
  refine ⟨fun d hd => ?_, fun d hd => ?_, fun d hd => ?_, ?_⟩
  · rw [hd] at h1; simp at h1; exact h1.1
  · rw [hd] at h1; simp at h1; exact h1.2
  · rw [hd] at h2; simp at h2; exact h2
  · rcases h3 with (((((h3 | h3) | h3) | h3) | h3) | h3) | h3
    · exact .inl (by simpa using h3)
    · exact .inr (.inl (by simpa using h3))
    · exact .inr (.inr (.inl (by simpa using h3)))
    · exact .inr (.inr (.inr (.inl h3)))
    · exact .inr (.inr (.inr (.inr (.inl h3))))
    · exact .inr (.inr (.inr (.inr (.inr (.inl h3)))))
    · exact .inr (.inr (.inr (.inr (.inr (.inr h3)))))

/-- What the call does not see is the same ahead of it and behind it. -/
theorem call_blk {i : Nat} {hs : List Nat} {si : SI} {a : Nat} (h : a ∈ hs) {fr : Fr} {s s' : St} {vy : AV} (hy : evl1 cf pc (.ins i 2 hs si) fr s = some (vy, s')) : ∃ k off, fr.getD a .any = .ptr k off ∧ s'[k]? = s[k]? := by
    cases hs with
    | nil => simp at h
    | cons b r =>
      simp only [evl1] at hy
      split at hy
      · cases hy
      rename_i s0 hs0
      split at hy
      rotate_left
      · cases hy
      rename_i v1 s1 he
      simp only [show ¬ (2 ≤ 1) by omega, if_false] at hy
      split at hy
      rotate_left
      · cases hy
      rename_i hlen
      injection hy with hy; injection hy with h1 h2
      have hptr : ∀ (h : List Nat) (s s0 : St), a ∈ h → hid fr h s = some s0 → ∃ k off, fr.getD a .any = .ptr k off ∧ k < s.length := by
        intro h
        induction h with
        | nil => intro s s0 h1; simp at h1
        | cons b r ih =>
          intro s s0 h1 h2
          simp only [hid] at h2
          split at h2
          · rename_i k off hk
            split at h2
            · cases h2
            · cases h2
            · rename_i q _ _ hq
              rcases List.mem_cons.1 h1 with e | e
              · subst e; exact ⟨k, off, hk, (List.getElem?_eq_some_iff.1 hq).1⟩
              · obtain ⟨k', off', q1, q2⟩ := ih _ _ e h2
                exact ⟨k', off', q1, by simpa using q2⟩
            · cases h2
          · cases h2
      obtain ⟨k, off, hp, hk⟩ := hptr _ _ _ h hs0
      refine ⟨k, off, hp, ?_⟩
      rw [← h2]
      rw [rst_set h hp (List.getElem?_eq_getElem hk) (by omega), List.getElem?_eq_getElem hk]

/-- The load finds the same ahead of the call and behind it. -/
theorem call_load {y x : DI} (h : hidesC y x = true) {fr : Fr} {s s' : St} {vx vy : AV} (hy : evl1 cf pc y fr s = some (vy, s')) : (evl1 cf pc x fr s = some (vx, s) ↔ evl1 cf pc x fr s' = some (vx, s')) ∧ x.cls ≤ 1 := by
  unfold hidesC at h
  split at h
  · rename_i i hs si j d n a
    simp only [List.contains_eq_mem, decide_eq_true_eq] at h
    refine ⟨?_, by simp [DI.cls]⟩
    obtain ⟨k, off, hp, hkk⟩ := call_blk h hy
    have hload : ∀ m, loadA s m (.ptr k off) = loadA s' m (.ptr k off) := by
      intro m
      simp only [loadA, hkk]
    have e0 : ev fr (.t a) = .ptr k off := hp
    simp only [evl1, hid, evl0, wanted, sop1, e0, hload]
    cases loadA s' n (.ptr k off) <;> simp
  · rename_i i hs si j d c n a
    simp only [List.contains_eq_mem, decide_eq_true_eq] at h
    refine ⟨?_, by simp [DI.cls]⟩
    obtain ⟨k, off, hp, hkk⟩ := call_blk h hy
    have e0 : ev fr (.t c) = .ptr k off := hp
    simp only [evl1, hid, evl0, wanted, sop1, e0]
    cases ha : Ab.ev fr a with
    | ptr k' off' =>
      simp only
      by_cases hk : k = k'
      · subst hk
        have hload : ∀ m, loadA s m (.ptr k off') = loadA s' m (.ptr k off') := by
          intro m
          simp only [loadA, hkk]
        simp only [if_true, hload]
        cases loadA s' n (.ptr k off') <;> simp
      · simp [if_neg hk]
    | _ => simp
  · cases h

theorem hid_read {y x : DI} (h : hidesB y x = true) {fr : Fr} {s s' : St} {vx vy : AV} (hx : evl1 cf pc x fr s = some (vx, s')) : (evl1 cf pc y fr s = some (vy, s) ↔ evl1 cf pc y fr s' = some (vy, s')) ∧ y.cls ≤ 1 := by
  unfold hidesB at h
  split at h
  · rename_i i c hs si j n a z
    simp only [Bool.and_eq_true, decide_eq_true_eq, List.contains_eq_mem] at h
    obtain ⟨hc, ha⟩ := h
    refine ⟨?_, hc⟩
    simp only [evl1, hid, evl0, wanted, sop1] at hx
    have hst : storeA s n (fr.getD a .any) (ev fr z) = some s' := by
      cases hq : storeA s n (ev fr (.t a)) (ev fr z) with
      | none => rw [hq] at hx; cases hx
      | some s2 => rw [hq] at hx; simp at hx; rw [← hx.2]; exact hq
    cases hs with
    | nil => simp at ha
    | cons b r =>
      by_cases hsm : (hid fr (b :: r) s).isSome = true ∨ (hid fr (b :: r) s').isSome = true
      · have he := hid_store ha hst hsm
        simp only [evl1]
        rw [he]
        simp only [if_pos hc]
        cases hid fr (b :: r) s with
        | none => simp
        | some s0 =>
          simp only
          cases evl0 cf pc c si fr s0 with
          | none => simp
          | some p => simp
      · have e1 : hid fr (b :: r) s = none := by cases hq : hid fr (b :: r) s with | none => rfl | some _ => exact absurd (.inl (by rw [hq]; rfl)) hsm
        have e2 : hid fr (b :: r) s' = none := by cases hq : hid fr (b :: r) s' with | none => rfl | some _ => exact absurd (.inr (by rw [hq]; rfl)) hsm
        simp only [evl1, e1, e2]
        simp
  · cases h

/-- The later one first. -/
theorem swap (hpc : ∀ f args s v s', pc f = true → cf f args s = some (.ret v s') → s' = s) {x y : DI} (hx : x.okCls = true) (hy : y.okCls = true) (hap : apartB y x = true) {l : List DI} {fr : Fr} {s : St} {r : Fr × St} (h : runL cf pc (y :: x :: l) fr s = some r) : runL cf pc (x :: y :: l) fr s = some r := by
  obtain ⟨h1, h2, h3, h4⟩ := apart_parts hap
  simp only [runL, exec1] at h ⊢
  cases hy1 : evl1 cf pc y fr s with
  | none => rw [hy1] at h; cases h
  | some p =>
    obtain ⟨vy, sy⟩ := p
    rw [hy1] at h
    simp only at h
    have hxc : ∀ s, evl1 cf pc x (put fr y.dst vy) s = evl1 cf pc x fr s := fun s => evl1_congr (fun t ht => getD_put (fun e => h1 t e ht))
    rw [hxc] at h
    cases hx1 : evl1 cf pc x fr sy with
    | none => rw [hx1] at h; cases h
    | some q =>
      obtain ⟨vx, sx⟩ := q
      rw [hx1] at h
      simp only at h
      have hyc : ∀ s, evl1 cf pc y (put fr x.dst vx) s = evl1 cf pc y fr s := fun s => evl1_congr (fun t ht => getD_put (fun e => h3 t e ht))
      have hst : ∃ s1, evl1 cf pc x fr s = some (vx, s1) ∧ evl1 cf pc y fr s1 = some (vy, sx) := by
        rcases h4 with h4 | h4 | h4 | h4 | h4 | h4 | h4
        · obtain ⟨h5, h6⟩ := cls0 hy h4 hy1
          subst h5
          exact ⟨sx, hx1, h6 sx⟩
        · obtain ⟨h5, h6⟩ := cls0 hx h4 hx1
          subst h5
          exact ⟨s, h6 s, hy1⟩
        · have h5 := cls1 hpc hy h4.1 hy1
          subst h5
          have h6 := cls1 hpc hx h4.2 hx1
          subst h6
          exact ⟨_, hx1, hy1⟩
        · have h5 := cls1 hpc hy (hid_read (vy := vy) h4 hx1).2 hy1
          subst h5
          exact ⟨sx, hx1, (hid_read h4 hx1).1.1 hy1⟩
        · have h5 := cls1 hpc hx (hid_read (vy := vx) h4 hy1).2 hx1
          subst h5
          exact ⟨s, (hid_read h4 hy1).1.2 hx1, hy1⟩
        · have h5 := cls1 hpc hx (call_load (vx := vx) h4 hy1).2 hx1
          subst h5
          exact ⟨s, (call_load h4 hy1).1.2 hx1, hy1⟩
        · have h5 := cls1 hpc hy (call_load (vx := vy) h4 hx1).2 hy1
          subst h5
          exact ⟨sx, hx1, (call_load h4 hx1).1.1 hy1⟩
      obtain ⟨s1, hst⟩ := hst
      rw [hst.1]
      simp only
      rw [hyc, hst.2]
      simp only
      rw [put_comm (fun d hd => fun he => h2 d he hd)]
      exact h

theorem pull (hpc : ∀ f args s v s', pc f = true → cf f args s = some (.ret v s') → s' = s) {x : DI} (hx : x.okCls = true) : ∀ {pre post : List DI} {fr : Fr} {s : St} {r : Fr × St}, (∀ y ∈ pre, y.okCls = true ∧ apartB y x = true) → runL cf pc (pre ++ x :: post) fr s = some r → runL cf pc (x :: (pre ++ post)) fr s = some r
  | [], post, fr, s, r, _, h => h
  | y :: pre, post, fr, s, r, hy, h => by
    have hh := hy y (by simp)
    refine swap hpc hx hh.1 hh.2 ?_
    simp only [List.cons_append, runL] at h ⊢
    split at h
    · rename_i fr1 s1 he
      have := pull hpc hx (fun z hz => hy z (by simp [hz])) h
      simp only [runL] at this
      exact this
    · cases h
end

/-! ### what must come before what -/
def maskOf (acc : List Nat) (o : Oper) : Nat := o.after.toList.foldl (fun m e => if Region.binds .any e then m ||| 2 ^ e.on ||| acc.getD e.on 0 else m) 0
def masks : List Nat → List Oper → List Nat
  | acc, [] => acc
  | acc, o :: r => masks (acc ++ [maskOf acc o]) r

theorem masks_old : ∀ (r : List Oper) (acc : List Nat) (j : Nat), j < acc.length → (masks acc r).getD j 0 = acc.getD j 0
  | [], acc, j, _ => rfl
  | o :: r, acc, j, h => by
    simp only [masks]
    rw [masks_old r _ j (by simp; omega)]
    simp [List.getD, List.getElem?_append_left h]

theorem foldl_bit (acc : List Nat) (x : Nat) : ∀ (l : List Edge) (m : Nat), (l.foldl (fun m e => if Region.binds .any e then m ||| 2 ^ e.on ||| acc.getD e.on 0 else m) m).testBit x = true →
    m.testBit x = true ∨ ∃ e ∈ l, Region.binds .any e = true ∧ (x = e.on ∨ (acc.getD e.on 0).testBit x = true)
  | [], m, h => .inl h
  | e :: l, m, h => by
    rw [List.foldl_cons] at h
    rcases foldl_bit acc x l _ h with h1 | ⟨e', he', h2⟩
    · split at h1
      · rename_i hb
        simp only [Nat.testBit_or, Bool.or_eq_true] at h1
        rcases h1 with (h1 | h1) | h1
        · exact .inl h1
        · refine .inr ⟨e, by simp, hb, .inl ?_⟩
          rw [Nat.testBit_two_pow] at h1
          exact (by simpa using h1 : e.on = x).symm
        · exact .inr ⟨e, by simp, hb, .inr h1⟩
      · exact .inl h1
    · exact .inr ⟨e', by simp [he'], h2⟩

theorem masks_bit : ∀ (r : List Oper) (acc : List Nat) (j : Nat) (o : Oper), r[j]? = some o → (∀ e ∈ o.after, Region.binds .any e = true → e.on < acc.length + j) → ∀ x, ((masks acc r).getD (acc.length + j) 0).testBit x = true →
    ∃ e ∈ o.after, Region.binds .any e = true ∧ (x = e.on ∨ ((masks acc r).getD e.on 0).testBit x = true)
  | [], acc, j, o, h, _, x, _ => by simp at h
  | o' :: r, acc, j, o, h, hlt, x, hx => by
    simp only [masks] at hx ⊢
    cases j with
    | zero =>
      simp at h; subst h
      rw [Nat.add_zero, masks_old r _ _ (by simp)] at hx
      have h1 : (acc ++ [maskOf acc o']).getD acc.length 0 = maskOf acc o' := by simp [List.getD]
      rw [h1] at hx
      rcases foldl_bit acc x _ 0 hx with h2 | ⟨e, he, hb, h2⟩
      · simp at h2
      · refine ⟨e, by simpa using he, hb, ?_⟩
        rcases h2 with h2 | h2
        · exact .inl h2
        · right
          have := hlt e (by simpa using he) hb
          rw [masks_old r _ _ (by simp; omega)]
          have h3 : (acc ++ [maskOf acc o']).getD e.on 0 = acc.getD e.on 0 := by simp [List.getD, List.getElem?_append_left (show e.on < acc.length by omega)]
          rw [h3]; exact h2
    | succ j =>
      simp at h
      have := masks_bit r (acc ++ [maskOf acc o']) j o h (fun e he hb => by have := hlt e he hb; simp; omega) x (by
        have e1 : (acc ++ [maskOf acc o']).length + j = acc.length + (j + 1) := by simp; omega
        rw [e1]; exact hx)
      exact this

/-- What is listed holds all that must come before what is listed. -/
def ClosedL (ops : Array Oper) (listed : Array Bool) : Prop := ∀ (j : Nat) (o : Oper), ops[j]? = some o → listed.getD j true = true → ∀ e ∈ o.after, Region.binds .any e = true → listed.getD e.on false = true

theorem closed_mask {ops : Array Oper} {listed : Array Bool} (hs : listed.size = ops.size) (hacy : ∀ (j : Nat) o, ops[j]? = some o → ∀ e ∈ o.after, Region.binds .any e = true → e.on < j) (hc : ClosedL ops listed) :
    ∀ (n j : Nat), j ≤ n → ∀ o, ops[j]? = some o → (∀ e ∈ o.after, Region.binds .any e = true → listed.getD e.on false = true) → ∀ x, ((masks [] ops.toList).getD j 0).testBit x = true → listed.getD x false = true := by
  intro n
  induction n with
  | zero =>
    intro j hj o ho hd x hx
    have hj0 : j = 0 := by omega
    subst hj0
    have := masks_bit ops.toList [] 0 o (by simpa using ho) (fun e he hb => by have := hacy 0 o ho e he hb; omega) x (by simpa using hx)
    obtain ⟨e, he, hb, h2⟩ := this
    have := hacy 0 o ho e he hb
    omega
  | succ n ih =>
    intro j hj o ho hd x hx
    have := masks_bit ops.toList [] j o (by simpa using ho) (fun e he hb => by have := hacy j o ho e he hb; simpa using this) x (by simpa using hx)
    obtain ⟨e, he, hb, h2⟩ := this
    have hlt := hacy j o ho e he hb
    have hl := hd e he hb
    rcases h2 with rfl | h2
    · exact hl
    · have hjs : j < ops.size := (Array.getElem?_eq_some_iff.1 ho).1
      have hes : e.on < ops.size := by omega
      refine ih e.on (by omega) ops[e.on] (Array.getElem?_eq_getElem hes) (fun e' he' hb' => hc e.on _ (Array.getElem?_eq_getElem hes) ?_ e' he' hb') x h2
      rw [Array.getD_eq_getD_getElem?, Array.getElem?_eq_getElem (by omega)] at hl ⊢
      exact hl
end Go.Ab
