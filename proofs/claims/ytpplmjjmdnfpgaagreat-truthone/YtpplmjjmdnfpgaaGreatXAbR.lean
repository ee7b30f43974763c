import Derived.Test.YtpplmjjmdnfpgaaGreatXAbQ
set_option linter.unusedVariables false
namespace Go.Ab

theorem draw_ok {P : Program} {own : Nat → Bool} {ops : Array Oper} {cf : Nat → List AV → St → Option CR} {pc : Nat → Bool} (hcf : CallOk P cf) (hpc : ∀ f args s v s', pc f = true → cf f args s = some (.ret v s') → s' = s) (hm : P.follows .mixedOrders = true)
    {ds : List Nat} {L : List DI} (hc : compDraw P own ops = some (ds, L)) {fr fr' : Fr} {s s' : St} (hdl : ∀ d ∈ ds, d < fr.length) (hr : runL cf pc L (anyAt ds fr) s = some (fr', s')) {ρ : Ro} {a : Act} {w : World} (hF : RelF ρ fr a.tmps) (hS : RelS ρ s w) {id : Nat} {ro : Option Nat} :
    (Code.region id ops true).wpIn (WF ro) 0 P (Post ρ s w a .norm fr' s') a w := by
  unfold compDraw at hc
  split at hc
  rotate_left
  · cases hc
  rename_i L0 hL
  split at hc
  rotate_left
  · cases hc
  rename_i hchk
  injection hc with hc; injection hc with hds hL0; subst hL0
  generalize hals : alsOf ops (List.range ops.size) = als at hL hchk hds
  simp only [Bool.and_eq_true, List.all_eq_true] at hchk
  obtain ⟨⟨⟨⟨hacy, hpairs⟩, halok⟩, hapart⟩, hika⟩ := hchk
  obtain ⟨hLi, hall⟩ := buildL_idx hL
  have hnd := buildL_nodup List.nodup_range hL
  have hacy' : ∀ (j : Nat) o, ops[j]? = some o → ∀ e ∈ o.after, Region.binds .any e = true → e.on < j := by
    intro j o ho e he hb
    simp only [acyclicB, List.all_eq_true, List.mem_range] at hacy
    have := hacy j (Array.getElem?_eq_some_iff.1 ho).1
    rw [ho] at this
    simp only [List.all_eq_true] at this
    have := this e (by simpa using he)
    simpa [hb] using this
  -- what the list of new variables says
  have half : ∀ al ∈ als, al.ia < ops.size ∧ al.k < ops.size ∧ ((masks [] ops.toList).getD al.k 0).testBit al.ia = true ∧ (∃ o, ops[al.ia]? = some o ∧ o.op = .alloc al.e ∧ o.dst = some al.d ∧ o.guard = none) ∧
      (∃ o t x z n, ops[al.k]? = some o ∧ o.op = .store t (.tmp al.d) x ∧ zeroOf P al.e = some z ∧ szOf P t = some n ∧ z.length = n ∧ o.dst = none ∧ o.guard = none) ∧ (∀ x ∈ L0, x.idx = al.k ∨ (al.d ∉ x.reads ∧ x.dst ≠ some al.d)) := by
    intro al hal
    have h := halok al hal
    simp only [alOk, Bool.and_eq_true, decide_eq_true_eq, List.all_eq_true] at h
    obtain ⟨⟨⟨⟨⟨h1, h2⟩, h3⟩, h4⟩, h5⟩, h6⟩ := h
    refine ⟨h1, h2, h3, ?_, ?_, fun x hx => ?_⟩
    · split at h4
      · rename_i o ho
        simp only [Bool.and_eq_true, beq_iff_eq, Option.isNone_iff_eq_none] at h4
        obtain ⟨⟨h7, h8⟩, h9⟩ := h4
        refine ⟨o, ho, ?_, h8, h9⟩
        split at h7
        · rename_i e he; rw [he]; simp at h7; rw [h7]
        · cases h7
      · cases h4
    · split at h5
      · rename_i o ho
        simp only [Bool.and_eq_true, Option.isNone_iff_eq_none] at h5
        obtain ⟨⟨h7, h8⟩, h9⟩ := h5
        split at h7
        · rename_i t d x he
          simp only [Bool.and_eq_true, beq_iff_eq] at h7
          obtain ⟨rfl, h10⟩ := h7
          split at h10
          · rename_i z n hz hn
            exact ⟨o, t, x, z, n, ho, he, hz, hn, by simpa using h10, h8, h9⟩
          · cases h10
        · cases h7
      · cases h5
    · have := h6 x hx
      simp only [Bool.or_eq_true, beq_iff_eq, Bool.and_eq_true, Bool.not_eq_eq_eq_not, Bool.not_true, List.contains_eq_mem, decide_eq_false_iff_not, bne_iff_ne] at this
      exact this
  have hdistinct : ∀ al ∈ als, ∀ al' ∈ als, al.k = al'.k ∨ al.ia = al'.ia ∨ al.d = al'.d → al.d = al'.d ∧ al.k = al'.k ∧ al.ia = al'.ia := by
    have : ∀ (l : List AL), alsApart l = true → ∀ al ∈ l, ∀ al' ∈ l, al.k = al'.k ∨ al.ia = al'.ia ∨ al.d = al'.d → al.d = al'.d ∧ al.k = al'.k ∧ al.ia = al'.ia := by
      intro l
      induction l with
      | nil => intro _ al h; simp at h
      | cons b l ih =>
        intro h al h1 al' h2 he
        simp only [alsApart, Bool.and_eq_true, List.all_eq_true, bne_iff_ne] at h
        rcases List.mem_cons.1 h1 with rfl | h1 <;> rcases List.mem_cons.1 h2 with rfl | h2
        · exact ⟨rfl, rfl, rfl⟩
        · have := h.1 al' h2
          rcases he with he | he | he
          · exact absurd he this.1.2
          · exact absurd he this.2
          · exact absurd he this.1.1
        · have := h.1 al (by assumption)
          rcases he with he | he | he
          · exact absurd he.symm this.1.2
          · exact absurd he.symm this.2
          · exact absurd he.symm this.1.1
        · exact ih h.2 al h1 al' h2 he
    exact this als hapart
  refine wpIn_region_any hm ?_
  have key : ∀ (fuel : Nat) (listed : Array Bool) (a1 : Act) (w1 : World), DInv P ops als L0 cf pc ρ s w a fr' s' listed a1 w1 → ((List.range ops.size).filter fun i => !listed.getD i true).length ≤ fuel →
      wpAnyIn (WF ro) 0 P .any ops (Post ρ s w a .norm fr' s') fuel listed a1 w1 := by
    intro fuel
    have hdone : ∀ (listed : Array Bool) (a1 : Act) (w1 : World), DInv P ops als L0 cf pc ρ s w a fr' s' listed a1 w1 → Region.ready .any ops listed = [] → Post ρ s w a .norm fr' s' .normal a1 w1 := by
      intro listed a1 w1 hI hrd
      obtain ⟨fr1, s1, ρ1, hle, hF1, hS1, hK1, hrun, _⟩ := hI.ex
      have hlisted : ∀ n j, j ≤ n → j < ops.size → listed.getD j true = true := by
        intro n
        induction n with
        | zero =>
          intro j hj hjs
          have hj0 : j = 0 := by omega
          subst hj0
          cases hb : listed.getD 0 true with
          | true => rfl
          | false =>
            have : (0 : Nat) ∈ Region.ready .any ops listed := ready_iff.2 ⟨hjs, hb, ops[0], Array.getElem?_eq_getElem hjs, fun e he hbb => by have := hacy' 0 _ (Array.getElem?_eq_getElem hjs) e he hbb; omega⟩
            rw [hrd] at this; simp at this
        | succ n ih =>
          intro j hj hjs
          cases hb : listed.getD j true with
          | true => rfl
          | false =>
            have : j ∈ Region.ready .any ops listed := ready_iff.2 ⟨hjs, hb, ops[j], Array.getElem?_eq_getElem hjs, fun e he hbb => by
              have hlt := hacy' j _ (Array.getElem?_eq_getElem hjs) e he hbb
              exact getD_true (by rw [hI.size]; omega) (ih e.on (by omega) (by omega))⟩
            rw [hrd] at this; simp at this
      have hnil : L0.filter (fun x => !listed.getD x.idx true) = [] := by
        rw [List.filter_eq_nil_iff]
        intro x hx
        have hlt : x.idx < ops.size := by
          have := (hLi x hx).1
          simpa using this
        simp [hlisted x.idx x.idx (Nat.le_refl _) hlt]
      rw [hnil] at hrun
      simp only [runL] at hrun
      injection hrun with hrun; injection hrun with h1 h2; subst h1; subst h2
      exact ⟨ρ1, hle, rfl, hF1, hS1, hK1, Marks.nil hI.defers⟩
    induction fuel with
    | zero =>
      intro listed a1 w1 hI hn
      have hrd : Region.ready .any ops listed = [] := by
        cases hrr : Region.ready .any ops listed with
        | nil => rfl
        | cons i r =>
          have hi : i ∈ Region.ready .any ops listed := by rw [hrr]; simp
          obtain ⟨h1, h2, _⟩ := ready_iff.1 hi
          have h4 : i ∈ (List.range ops.size).filter fun i => !listed.getD i true := List.mem_filter.2 ⟨List.mem_range.2 h1, by simp [h2]⟩
          have h5 := List.length_pos_of_mem h4
          omega
      exact ⟨hrd, hdone _ _ _ hI hrd⟩
    | succ fuel ih =>
      intro listed a1 w1 hI hn
      refine ⟨hdone _ _ _ hI, fun i hi => ?_⟩
      obtain ⟨hlt, hun, o, ho, hdeps⟩ := ready_iff.1 hi
      obtain ⟨fr1, s1, ρ1, hle, hF1, hS1, hK1, hrun, hany, hpend, hdiff⟩ := hI.ex
      have hsz : i < listed.size := by rw [hI.size]; exact hlt
      have hg : ∀ j d, (listed.setIfInBounds i true).getD j d = if j = i then true else listed.getD j d := fun j d => getD_set hsz
      have hfuel : ((List.range ops.size).filter fun j => !(listed.setIfInBounds i true).getD j true).length ≤ fuel := by
        have := filter_lt (p := fun j => !listed.getD j true) (p' := fun j => !(listed.setIfInBounds i true).getD j true) (l := List.range ops.size) (fun j hj h => by
          simp only [hg] at h
          split at h
          · simp at h
          · exact h) ⟨i, List.mem_range.2 hlt, by simp [hun], by simp [hg]⟩
        omega
      have hclosed : ClosedL ops (listed.setIfInBounds i true) := by
        intro j oj hoj hl e he hb
        rw [hg] at hl ⊢
        split
        · rfl
        · by_cases hji : j = i
          · subst hji
            rw [ho] at hoj; injection hoj with hoj; subst hoj
            exact hdeps e he hb
          · rw [if_neg hji] at hl
            exact hI.closed j oj hoj hl e he hb
      have hmask : ∀ x, ((masks [] ops.toList).getD i 0).testBit x = true → listed.getD x false = true := fun x hx => closed_mask hI.size hacy' hI.closed i i (Nat.le_refl _) o ho hdeps x hx
      -- a store of ours is listed only behind its variable
      have hkia : ∀ al ∈ als, listed.getD al.ia true = false → listed.getD al.k true = false := by
        intro al hal h
        cases hk : listed.getD al.k true with
        | false => rfl
        | true =>
          obtain ⟨h1, h2, h3, _⟩ := half al hal
          have := closed_mask hI.size hacy' hI.closed al.k al.k (Nat.le_refl _) ops[al.k] (Array.getElem?_eq_getElem h2) (fun e he hb => hI.closed al.k _ (Array.getElem?_eq_getElem h2) hk e he hb) al.ia h3
          rw [(getD_any h false).1] at this
          cases this
      have hopw : wpOpIn (WF ro) 0 P ops (Post ρ s w a .norm fr' s') i (wpAnyIn (WF ro) 0 P .any ops (Post ρ s w a .norm fr' s') fuel (listed.setIfInBounds i true)) a1 w1 =
          (if Region.wanted o (yielded ops a1.tmps) then o.wpIn (WF ro) 0 P a1 w1 (wpAnyIn (WF ro) 0 P .any ops (Post ρ s w a .norm fr' s') fuel (listed.setIfInBounds i true)) (Post ρ s w a .norm fr' s') else (∀ f, o.about P w1 a1.eval = some f → (WF ro).fn f) ∧ wpAnyIn (WF ro) 0 P .any ops (Post ρ s w a .norm fr' s') fuel (listed.setIfInBounds i true) (a1.put o.dst undef) w1) := by
        unfold wpOpIn; rw [ho]
      rw [hopw]
      rcases hall i (List.mem_range.2 hlt) with halb | ⟨x, hx, rfl⟩
      · -- a new variable
        have : ∃ al ∈ als, al.ia = i := by
          unfold buildD at halb
          split at halb
          · rename_i h
            rw [List.any_eq_true] at h
            obtain ⟨al, h1, h2⟩ := h
            exact ⟨al, h1, by simpa using h2⟩
          · split at halb
            · cases halb
            · split at halb
              · split at halb
                · split at halb
                  · injection halb with halb; cases halb
                  · cases halb
                · cases halb
              · simp only [Option.map_eq_some_iff] at halb
                obtain ⟨_, _, h⟩ := halb; cases h
        obtain ⟨al, hal, rfl⟩ := this
        obtain ⟨h1, h2, h3, ⟨o', ho', hop, hdst, hgd⟩, ⟨o2, t2, x2, z, n2, ho2, hop2, hz, hn2, hzn, _, _⟩, h6⟩ := half al hal
        rw [ho] at ho'; injection ho' with ho'; subst ho'
        rw [if_pos (by simp [Region.wanted, hgd])]
        refine Oper.toIn (fun c hc => by rw [hop] at hc; cases hc) ?_
        obtain ⟨iu, u, hiu, huz, hRz⟩ := zeroOf_ok (ρ := ρ1) hz
        have hrunA : (execOp a1.eval o).run P w1 = .ok (.value (.pointer (some ⟨w1.heap.size, 0, none⟩))) (w1.alloc (.cells u.cells al.e)) := by
          obtain ⟨dst, op', ty, pos, after, guard⟩ := o
          simp only at hop; subst hop
          simp [execOp, Instr.alloc, zeroValue, typeInfo, program, Sem.run, hiu, huz, newVar, newRow, newObj]
        unfold Oper.wp
        rw [hrunA]
        simp only [Oper.upon]
        have hw : ∀ k, k < w1.heap.size → (w1.alloc (.cells u.cells al.e)).heap[k]? = w1.heap[k]? := fun k hk => hold w1 _ k hk
        have hkun := hkia al hal hun
        have hlu : ∀ k, Liv ρ1 s1 k → k < w1.heap.size := fun k hk => hS1.live_lt hk
        refine ih _ _ _ ⟨by simp [hI.size], hclosed, by rw [put_defers]; exact hI.defers, by rw [← hI.tsize]; cases o.dst <;> simp [Act.put], fr1, s1, ρ1, hle, ?_, hS1.grown hw, hK1.trans (Keeps.grown rfl rfl rfl (by simp) hw), ?_, ?_, ?_, ?_⟩ hfuel
        · rw [hdst]
          exact hF1.setAny (hany al hal hkun)
        · have : L0.filter (fun x => !(listed.setIfInBounds al.ia true).getD x.idx true) = L0.filter (fun x => !listed.getD x.idx true) := by
            refine List.filter_congr (fun x hx => ?_)
            rw [hg]
            have hne : x.idx ≠ al.ia := by
              intro he
              have := (hLi x hx).2
              rw [he] at this
              unfold buildD at this
              rw [if_pos (by rw [List.any_eq_true]; exact ⟨al, hal, by simp⟩)] at this
              cases this
            rw [if_neg hne]
          rw [this]; exact hrun
        · intro al' hal' hk'
          rw [hg] at hk'
          split at hk'
          · cases hk'
          · exact hany al' hal' hk'
        · intro al' hal' hia hk'
          rw [hg] at hia hk'
          split at hk'
          · cases hk'
          · by_cases he : al'.ia = al.ia
            · obtain ⟨e1, e2, e3⟩ := hdistinct al' hal' al hal (.inr (.inl he))
              have hee : al'.e = al.e := by
                obtain ⟨_, _, _, ⟨o3, ho3, hop3, _⟩, _⟩ := half al' hal'
                rw [he, ho] at ho3; injection ho3 with ho3; subst ho3
                rw [hop] at hop3; injection hop3 with hop3; exact hop3.symm
              have hdin : al.d < a1.tmps.size := by
                rw [hI.tsize, ← hF.len]
                exact hdl _ (by rw [← hds]; exact List.mem_map_of_mem hal)
              refine ⟨w1.heap.size, u.cells, ?_, by rw [hee]; exact hnew w1 _, ⟨z, by rw [hee]; exact hz, by have := hRz.length; simpa using this⟩, fun hl => by have := hlu _ hl; omega, fun o => ?_, hK1.size⟩
              · rw [e1, hdst]
                simp only [Act.put]
                rw [Array.getD_eq_getD_getElem?, Array.getElem?_setIfInBounds_self_of_lt hdin]
                rfl
              · cases hv : ρ1.im w1.heap.size o with
                | none => rfl
                | some v => have := hS1.im_lt hv; omega
            · rw [if_neg he] at hia
              obtain ⟨g, u', hp⟩ := hpend al' hal' hia hk'
              have hgl : g < w1.heap.size := (Array.getElem?_eq_some_iff.1 hp.heap).1
              have hdne : al'.d ≠ al.d := fun e => he (hdistinct al' hal' al hal (.inr (.inr e))).2.2
              refine ⟨g, u', ?_, by rw [hw g hgl]; exact hp.heap, hp.size, hp.live, hp.im, hp.new⟩
              rw [hdst]
              simp only [Act.put]
              rw [Array.getD_eq_getD_getElem?, Array.getElem?_setIfInBounds_ne (Ne.symm hdne), ← Array.getD_eq_getD_getElem?]
              exact hp.ptr
        · intro al1 hal1 al2 hal2 hdd hia1 hk1 hia2 hk2
          have hdin : al.d < a1.tmps.size := by
            rw [hI.tsize, ← hF.len]
            exact hdl _ (by rw [← hds]; exact List.mem_map_of_mem hal)
          have hval : ∀ al' ∈ als, (listed.setIfInBounds al.ia true).getD al'.ia true = true → (listed.setIfInBounds al.ia true).getD al'.k true = false →
              (al'.d = al.d ∧ (a1.put o.dst (.pointer (some ⟨w1.heap.size, 0, none⟩))).tmps.getD al'.d undef = .pointer (some ⟨w1.heap.size, 0, none⟩)) ∨
              (al'.d ≠ al.d ∧ listed.getD al'.ia true = true ∧ listed.getD al'.k true = false ∧ (a1.put o.dst (.pointer (some ⟨w1.heap.size, 0, none⟩))).tmps.getD al'.d undef = a1.tmps.getD al'.d undef) := by
            intro al' hal' hia hk'
            rw [hg] at hia hk'
            split at hk'
            · cases hk'
            · by_cases he : al'.ia = al.ia
              · obtain ⟨e1, e2, e3⟩ := hdistinct al' hal' al hal (.inr (.inl he))
                left
                refine ⟨e1, ?_⟩
                rw [e1, hdst]
                simp only [Act.put]
                rw [Array.getD_eq_getD_getElem?, Array.getElem?_setIfInBounds_self_of_lt hdin]
                rfl
              · rw [if_neg he] at hia
                have hdne : al'.d ≠ al.d := fun e => he (hdistinct al' hal' al hal (.inr (.inr e))).2.2
                right
                refine ⟨hdne, hia, hk', ?_⟩
                rw [hdst]
                simp only [Act.put]
                rw [Array.getD_eq_getD_getElem?, Array.getElem?_setIfInBounds_ne (Ne.symm hdne), ← Array.getD_eq_getD_getElem?]
          have hold2 : ∀ al' ∈ als, listed.getD al'.ia true = true → listed.getD al'.k true = false → a1.tmps.getD al'.d undef ≠ .pointer (some ⟨w1.heap.size, 0, none⟩) := by
            intro al' hal' hia hk' he
            obtain ⟨g, u', hp⟩ := hpend al' hal' hia hk'
            rw [hp.ptr] at he
            have hgl : g < w1.heap.size := (Array.getElem?_eq_some_iff.1 hp.heap).1
            simp only [Value.pointer.injEq, Option.some.injEq, Addr.mk.injEq] at he
            omega
          rcases hval al1 hal1 hia1 hk1 with ⟨e1, v1⟩ | ⟨e1, i1, k1, v1⟩ <;> rcases hval al2 hal2 hia2 hk2 with ⟨e2, v2⟩ | ⟨e2, i2, k2, v2⟩
          · exact absurd (e1.trans e2.symm) hdd
          · rw [v1, v2]; exact (hold2 al2 hal2 i2 k2).symm
          · rw [v1, v2]; exact hold2 al1 hal1 i1 k1
          · rw [v1, v2]; exact hdiff al1 hal1 al2 hal2 hdd i1 k1 i2 k2
      · -- one of our instructions: it is taken ahead
        have hxb := (hLi x hx).2
        have hxp : x ∈ L0.filter (fun y => !listed.getD y.idx true) := List.mem_filter.2 ⟨hx, by simp [hun]⟩
        obtain ⟨pre, post, hsplit⟩ := List.append_of_mem hxp
        have hcls : ∀ y ∈ L0, y.okCls = true := by
          intro y hy
          have hyb := (hLi y hy).2
          unfold buildD at hyb
          split at hyb
          · cases hyb
          · split at hyb
            · cases hyb
            · split at hyb
              · split at hyb
                · split at hyb
                  · injection hyb with h; injection h with h; rw [← h]; rfl
                  · cases hyb
                · cases hyb
              · simp only [Option.map_eq_some_iff] at hyb
                obtain ⟨q, _, h⟩ := hyb
                injection h with h; rw [← h]; exact clsOf_ok
        have hpull : runL cf pc (x :: (pre ++ post)) fr1 s1 = some (fr', s') := by
          rw [hsplit] at hrun
          refine pull hpc (hcls x hx) (fun y hy => ?_) hrun
          have hyp : y ∈ L0.filter (fun y => !listed.getD y.idx true) := by rw [hsplit]; simp [hy]
          obtain ⟨hyL, hyu⟩ := List.mem_filter.1 hyp
          refine ⟨hcls y hyL, ?_⟩
          have hpf := pairs_filter (fun y => !listed.getD y.idx true) hpairs
          rw [hsplit] at hpf
          rcases pairs_split hpf y hy with hb | hb
          · have := hmask _ hb
            have hyu' : listed.getD y.idx true = false := by simpa using hyu
            rw [(getD_any hyu' false).1] at this
            cases this
          · exact hb
        simp only [runL] at hpull
        split at hpull
        rotate_left
        · cases hpull
        rename_i fr2 s2 hex
        have hrest : L0.filter (fun y => !(listed.setIfInBounds x.idx true).getD y.idx true) = pre ++ post := by
          rw [← filter_drop hnd hsplit]
          refine List.filter_congr (fun y hy => ?_)
          rw [hg]
          by_cases he : y.idx = x.idx
          · simp [he]
          · rw [if_neg he]; simp [he]
        have hotherD : ∀ al ∈ als, al.k ≠ x.idx → x.dst ≠ some al.d := fun al hal hk => (((half al hal).2.2.2.2.2 x hx).resolve_left (fun e => hk e.symm)).2
        have hia_ne : ∀ al ∈ als, al.ia ≠ x.idx := by
          intro al hal he
          unfold buildD at hxb
          rw [if_pos (by rw [List.any_eq_true]; exact ⟨al, hal, by simp [he]⟩)] at hxb
          cases hxb
        have hxbb := hxb
        unfold buildD at hxb
        split at hxb
        · cases hxb
        rw [ho] at hxb
        simp only at hxb
        split at hxb
        · -- the store that fills a new variable
          rename_i al hfind
          have hal : al ∈ als := List.mem_of_find?_eq_some hfind
          have hk : al.k = x.idx := by simpa using List.find?_some hfind
          obtain ⟨h1, h2, h3, _, ⟨o2, t2, x2, z, n2, ho2, hop2, hz, hn2, hzn, hdst2, hgd2⟩, h6⟩ := half al hal
          rw [hk, ho] at ho2; injection ho2 with ho2; subst ho2
          rw [hop2] at hxb
          simp only [hn2] at hxb
          split at hxb
          rotate_left
          · cases hxb
          rename_i n y hnn hy
          injection hnn with hnn; subst hnn
          injection hxb with hxb; injection hxb with hxe
          rw [hk] at h3
          have hial := hmask al.ia h3
          have hial' : listed.getD al.ia true = true := by
            have hs : al.ia < listed.size := by rw [hI.size]; exact h1
            rw [Array.getD_eq_getD_getElem?, Array.getElem?_eq_getElem hs] at *
            exact hial
          have hkun : listed.getD al.k true = false := by rw [hk]; exact hun
          obtain ⟨g, u, hp⟩ := hpend al hal hial' hkun
          have hgl : g < w1.heap.size := (Array.getElem?_eq_some_iff.1 hp.heap).1
          rw [if_pos (by simp [Region.wanted, hgd2])]
          refine Oper.toIn (fun c hc => by rw [hop2] at hc; cases hc) ?_
          -- what is stored
          rw [← hxe] at hex
          simp only [exec1, evl1, DI.dst] at hex
          split at hex
          rotate_left
          · cases hex
          rename_i v1 s3 hv1
          injection hex with hex; injection hex with hf2 hs2
          split at hv1
          rotate_left
          · cases hv1
          rename_i cs hcs
          split at hv1
          rotate_left
          · cases hv1
          rename_i hcl
          injection hv1 with hv1; injection hv1 with hv2 hv3
          subst hv2; subst hv3
          have hR := cells_ok hcs (compX_ok hF1 hy)
          have hsize : (a1.eval x2).cells.toList.length = n2 := by rw [← hR.length]; exact hcl
          have hso := run_szOf (P := P) (w := w1) hn2
          obtain ⟨z', hz', hzu⟩ := hp.size
          rw [hz] at hz'; injection hz' with hz'; subst hz'
          have hus : u.size = n2 := by omega
          have hst := run_storeCells_at P g 0 al.e (a1.eval x2).cells.toList 0 u w1 hp.heap (by omega) hR.one
          have hnewc : (u.toList.take (0 + 0) ++ (a1.eval x2).cells.toList ++ u.toList.drop (0 + 0 + (a1.eval x2).cells.toList.length)).toArray = (a1.eval x2).cells := by
            rw [List.drop_eq_nil_of_le (by simp at hsize ⊢; omega)]
            simp
          rw [hnewc] at hst
          have hevd : a1.eval (.tmp al.d) = .pointer (some ⟨g, 0, none⟩) := hp.ptr
          have hrunS : (execOp a1.eval o).run P w1 = .ok .skip (w1.setRow g (a1.eval x2).cells) := by
            obtain ⟨dst, op', ty, pos, after, guard⟩ := o
            simp only at hop2; subst hop2
            have hsz' : (a1.eval x2).cells.size = n2 := by simpa using hsize
            simp [execOp, Instr.storeAt, hevd, Instr.sureAddr, storeVar, hso, hsz', hst]
          unfold Oper.wp
          rw [hrunS]
          simp only [Oper.upon]
          rw [hdst2]
          simp only [Act.put]
          have hw : ∀ k, k ≠ g → (w1.setRow g (a1.eval x2).cells).heap[k]? = w1.heap[k]? := fun k hk => setRow_other w1 _ _ _ hk
          let le : LE := ⟨g, 0, 0, 0, true, none⟩
          have hS2 : RelS (ρ1.add le) (s1 ++ [.box cs]) (w1.setRow g (a1.eval x2).cells) := hS1.adopt _ le (by simp) hp.live hp.im hw ⟨rfl, al.e, _, setRow_heap w1 _ _ _ _ _ hp.heap, RelL.mono (Le.add ρ1 le) _ _ hR⟩
          have hlive2 : ∀ k, Liv (ρ1.add le) (s1 ++ [.box cs]) k → Liv ρ1 s1 k ∨ k = g := by
            rintro k ⟨r, b, e, q1, q2, q3, rfl⟩
            rcases (getElem?_snoc _ _ _ _).1 q1 with q4 | ⟨q4, q5⟩ <;> rcases (getElem?_snoc _ _ _ _).1 q3 with q6 | ⟨q6, q7⟩
            · exact .inl ⟨r, b, e, q4, q2, q6, rfl⟩
            · have := (List.getElem?_eq_some_iff.1 q4).1; rw [hS1.len] at this; omega
            · have := (List.getElem?_eq_some_iff.1 q6).1; rw [← hS1.len] at this; omega
            · right; rw [← q7]
          have hK2 : Keeps ρ s w (ρ1.add le) (s1 ++ [.box cs]) (w1.setRow g (a1.eval x2).cells) := by
            refine ⟨hK1.os, hK1.tape, hK1.output, by rw [setRow_size]; exact hK1.size, fun k hk hl => ?_, fun k hl => ?_, fun b q v hv => hK1.im b q v hv⟩
            · have hkg : k ≠ g := by have := hp.new; omega
              rw [hw k hkg]; exact hK1.block k hk hl
            · rcases hlive2 k hl with h | rfl
              · exact hK1.live k h
              · exact .inr hp.new
          have hdin : al.d < fr1.length := by
            rw [hF1.len, hI.tsize, ← hF.len]
            exact hdl _ (by rw [← hds]; exact List.mem_map_of_mem hal)
          have hF2 : RelF (ρ1.add le) fr2 a1.tmps := by
            rw [← hf2]
            refine ⟨by simp [put, hF1.len], fun t => ?_⟩
            simp only [put]
            by_cases ht : t = al.d
            · subst ht
              have e1 : (fr1.set al.d (.ptr s1.length 0)).getD al.d .any = .ptr s1.length 0 := by simp [List.getD, hdin]
              rw [e1, hp.ptr]
              simp only [RelV]
              exact ⟨le, by rw [hS1.len]; simp [Ro.add], rfl, rfl⟩
            · have e1 : (fr1.set al.d (.ptr s1.length 0)).getD t .any = fr1.getD t .any := by simp [List.getD, List.getElem?_set_ne (Ne.symm ht)]
              rw [e1]
              exact RelV.mono (Le.add ρ1 le) _ _ (hF1.at_ t)
          have hother : ∀ al' ∈ als, (listed.setIfInBounds x.idx true).getD al'.k true = false → al'.d ≠ al.d ∧ listed.getD al'.k true = false := by
            intro al' hal' hk'
            rw [hg] at hk'
            split at hk'
            · cases hk'
            · rename_i hne
              exact ⟨fun e => hne (by rw [(hdistinct al' hal' al hal (.inr (.inr e))).2.1, hk]), hk'⟩
          rw [← hs2] at hpull
          refine ih _ _ _ ⟨by simp [hI.size], hclosed, hI.defers, hI.tsize, fr2, s1 ++ [.box cs], ρ1.add le, hle.trans (Le.add ρ1 le), hF2, hS2, hK2, by rw [hrest]; exact hpull, ?_, ?_, ?_⟩ hfuel
          · intro al' hal' hk'
            obtain ⟨q1, q2⟩ := hother al' hal' hk'
            rw [← hf2]
            rw [getD_put (fun e => q1 (by injection e with e; exact e.symm))]
            exact hany al' hal' q2
          · intro al' hal' hia hk'
            obtain ⟨q1, q2⟩ := hother al' hal' hk'
            rw [hg, if_neg (hia_ne al' hal')] at hia
            obtain ⟨g', u', hp'⟩ := hpend al' hal' hia q2
            have hgg : g' ≠ g := by
              intro e
              have := hdiff al' hal' al hal q1 hia q2 hial' hkun
              rw [hp'.ptr, hp.ptr, e] at this
              exact this rfl
            refine ⟨g', u', hp'.ptr, by rw [hw g' hgg]; exact hp'.heap, hp'.size, fun hl => ?_, hp'.im, hp'.new⟩
            rcases hlive2 g' hl with h | h
            · exact hp'.live h
            · exact hgg h
          · intro al1 hal1 al2 hal2 hdd i1 k1 i2 k2
            obtain ⟨_, q2⟩ := hother al1 hal1 k1
            obtain ⟨_, q4⟩ := hother al2 hal2 k2
            rw [hg, if_neg (hia_ne al1 hal1)] at i1
            rw [hg, if_neg (hia_ne al2 hal2)] at i2
            exact hdiff al1 hal1 al2 hal2 hdd i1 q2 i2 q4
        · -- any other one
          rename_i hfind
          have hknone : ∀ al ∈ als, al.k ≠ x.idx := by
            intro al hal he
            have := List.find?_eq_none.1 hfind al hal
            simp [he] at this
          simp only [Option.map_eq_some_iff] at hxb
          obtain ⟨si, hsi, hxe⟩ := hxb
          injection hxe with hxe
          have hexx := hex
          rw [← hxe] at hexx
          obtain ⟨sh, sh1, hhid, hro, hback, ve, hev⟩ := exec_runOps hexx
          refine op_ok hcf hsi (fun _ _ _ => rfl) (atOf_run hro) hF1 (hS1.hidden hhid) (fun u ρ2 w2 hle2 hF2 hS2' hK2' => ?_)
          have hboth : RelS ρ2 s2 w2 ∧ Keeps ρ1 s1 w1 ρ2 s2 w2 := by
            rcases hback with ⟨hn, hb⟩ | ⟨hn, hc1, hb⟩ | ⟨hn, hc1, _, hb⟩
            · have he : sh = s1 := by rw [hn] at hhid; simpa [hid] using hhid.symm
              subst he; subst hb
              exact ⟨hS2', hK2'⟩
            · have hc0 : clsOf own (atOf ops si) ≠ 0 := by
                intro h
                rw [if_pos (by simp [h])] at hn
                exact hn rfl
              have hc1 : clsOf own (atOf ops si) = 1 := by omega
              have hok := clsOf_ok (own := own) (i := x.idx) (hs := []) (si := atOf ops si)
              have hst : sh1 = sh := by
                refine evl0_state hpc (cls := clsOf own (atOf ops si)) (by omega) (fun o' ho' => ?_) hev
                rw [hc1] at hok
                simp only [DI.okCls, ho'] at hok
                exact hok
              subst hb
              rw [hst] at hS2' hK2'
              exact unhide hhid hS1 hle2 hS2' hK2'
            · subst hb
              exact unhide2 hhid hS1 hle2 hS2' hK2'
          obtain ⟨hS2, hK2⟩ := hboth
          have hod : o.dst = x.dst := by
            rw [← hxe]
            unfold compSI at hsi
            split at hsi
            · injection hsi with hsi; rw [← hsi]; simp only [DI.dst, atOf_d]
            · cases hsi
          have hkk : ∀ al ∈ als, (listed.setIfInBounds x.idx true).getD al.k true = listed.getD al.k true ∧ (listed.setIfInBounds x.idx true).getD al.ia true = listed.getD al.ia true := by
            intro al hal
            rw [hg, hg, if_neg (hknone al hal), if_neg (hia_ne al hal)]
            exact ⟨rfl, rfl⟩
          have htm : ∀ al ∈ als, (a1.put o.dst u).tmps.getD al.d undef = a1.tmps.getD al.d undef := by
            intro al hal
            have hne := hotherD al hal (hknone al hal)
            rw [← hod] at hne
            cases hdd : o.dst with
            | none => rfl
            | some n =>
              have : n ≠ al.d := fun e => hne (by rw [hdd, e])
              simp only [Act.put]
              rw [Array.getD_eq_getD_getElem?, Array.getElem?_setIfInBounds_ne this, ← Array.getD_eq_getD_getElem?]
          have hfr2 : ∀ al ∈ als, fr2.getD al.d .any = fr1.getD al.d .any := by
            intro al hal
            have hne := hotherD al hal (hknone al hal)
            unfold exec1 at hex
            split at hex
            · injection hex with hex; injection hex with h1 h2; subst h1
              exact getD_put hne
            · cases hex
          refine ih _ _ _ ⟨by simp [hI.size], hclosed, by rw [put_defers]; exact hI.defers, by rw [← hI.tsize]; cases o.dst <;> simp [Act.put], fr2, s2, ρ2, hle.trans hle2, hF2, hS2, hK1.trans hK2, by rw [hrest]; exact hpull, ?_, ?_, ?_⟩ hfuel
          · intro al hal hk'
            rw [(hkk al hal).1] at hk'
            rw [hfr2 al hal]; exact hany al hal hk'
          · intro al hal hia hk'
            rw [(hkk al hal).1] at hk'
            rw [(hkk al hal).2] at hia
            obtain ⟨g, u', hp⟩ := hpend al hal hia hk'
            have hgl : g < w1.heap.size := (Array.getElem?_eq_some_iff.1 hp.heap).1
            refine ⟨g, u', by rw [htm al hal]; exact hp.ptr, by rw [hK2.block g hgl hp.live]; exact hp.heap, hp.size, fun hl => ?_, fun q => ?_, hp.new⟩
            · rcases hK2.live g hl with h | h
              · exact hp.live h
              · omega
            · cases hv : ρ2.im g q with
              | none => rfl
              | some v =>
                rcases hK2.im g q v hv with h | h | h
                · rw [hp.im q] at h; cases h
                · omega
                · exact absurd h hp.live
          · intro al1 hal1 al2 hal2 hdd i1 k1 i2 k2
            rw [(hkk al1 hal1).1] at k1
            rw [(hkk al1 hal1).2] at i1
            rw [(hkk al2 hal2).1] at k2
            rw [(hkk al2 hal2).2] at i2
            rw [htm al1 hal1, htm al2 hal2]
            exact hdiff al1 hal1 al2 hal2 hdd i1 k1 i2 k2
  have hw0 : ∀ k, k < w.heap.size → ({ w with drawn := w.drawn + 1 } : World).heap[k]? = w.heap[k]? := fun k _ => rfl
  have hrep : ∀ (j : Nat), (Array.replicate ops.size false).getD j true = decide (ops.size ≤ j) := by
    intro j
    rw [Array.getD_eq_getD_getElem?]
    by_cases hj : j < ops.size
    · simp [hj, Nat.not_le.2 hj]
    · simp [hj, Nat.not_lt.1 hj]
  refine key ops.size _ _ _ ⟨by simp, ?_, rfl, rfl, anyAt ds fr, s, ρ, Le.refl ρ, hF.anyAt, hS.grown hw0, Keeps.grown rfl rfl rfl (Nat.le_refl _) hw0, ?_, ?_, ?_, ?_⟩ ?_
  · intro j o ho hl
    rw [hrep] at hl
    have := (Array.getElem?_eq_some_iff.1 ho).1
    simp at hl
    omega
  · have : L0.filter (fun x => !(Array.replicate ops.size false).getD x.idx true) = L0 := by
      refine List.filter_eq_self.2 (fun x hx => ?_)
      have hlt : x.idx < ops.size := by
        have := (hLi x hx).1
        simpa using this
      rw [hrep]
      simp [Nat.not_le.2 hlt]
    rw [this]; exact hr
  · intro al hal _
    exact anyAt_mem (.inr (by rw [← hds]; exact List.mem_map_of_mem hal))
  · intro al hal hia
    rw [hrep] at hia
    have := (half al hal).1
    simp at hia; omega
  · intro al hal al' hal' _ hia
    rw [hrep] at hia
    have := (half al hal).1
    simp at hia; omega
  · exact Nat.le_trans (List.length_filter_le _ _) (by simp)
end Go.Ab
