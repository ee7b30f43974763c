import Derived.Test.YtpplmjjmdnfpgaaGreatXAbO
set_option linter.unusedVariables false
namespace Go.Ab

structure AL where
  ia : Nat
  d : Nat
  e : Nat
  k : Nat

def clsOf (own : Nat → Bool) (si : SI) : Nat :=
  match si.o with
  | .op o => if o.pureB then 0 else if o.readB then 1 else 2
  | .panic _ => 2
  | _ => match si.d with
    | some d => if own d then 2 else 1
    | none => 2

theorem clsOf_ok {own : Nat → Bool} {i : Nat} {hs : List Nat} {si : SI} : (DI.ins i (clsOf own si) (if clsOf own si == 0 then [] else hs) si).okCls = true := by
  unfold clsOf
  split
  · rename_i o ho
    split
    · rename_i h; simp [DI.okCls, ho, h]
    · split
      · rename_i h; simp [DI.okCls, ho, h]
      · simp [DI.okCls]
  · simp [DI.okCls]
  · rename_i h1 h2
    split
    · split
      · simp [DI.okCls]
      · simp only [DI.okCls]
    · simp [DI.okCls]

/-- The variables that are filled beside instruction i, in either order. -/
def hidesOf (ops : Array Oper) (ms : List Nat) (al : List AL) (i : Nat) : List Nat → List Nat
  | [] => []
  | j :: r => match ops[j]? with
    | some o => match o.op with
      | .store _ (.tmp t) _ => if al.any (·.k == j) || (ms.getD j 0).testBit i || (ms.getD i 0).testBit j then hidesOf ops ms al i r else t :: hidesOf ops ms al i r
      | _ => hidesOf ops ms al i r
    | none => hidesOf ops ms al i r

/-- The struct of whose field instruction t is the address. -/
def baseOf (ops : Array Oper) (t : Nat) : List Nat → Option Nat
  | [] => none
  | j :: r => match ops[j]? with
    | some o => match o.op with
      | .fieldAddr _ (.tmp c) _ => if o.dst = some t then some c else baseOf ops t r
      | _ => baseOf ops t r
    | none => baseOf ops t r

/-- A load that is checked to lie in the block of what its address was made of. -/
def atOf (ops : Array Oper) (si : SI) : SI := match si with
  | ⟨d, g, .op (.load n (.t a))⟩ => match baseOf ops a (List.range ops.size) with
    | some c => ⟨d, g, .op (.loadAt (.t c) n (.t a))⟩
    | none => si
  | _ => si

theorem atOf_d {ops : Array Oper} {si : SI} : (atOf ops si).d = si.d := by
  unfold atOf
  split
  · split <;> rfl
  · rfl

theorem atOf_run {ops : Array Oper} {si : SI} {cf yf : Nat → List AV → St → Option CR} {fr : Fr} {s : St} {r : Out × Fr × St} (h : runOps cf yf [atOf ops si] fr s = some r) : runOps cf yf [si] fr s = some r := by
  unfold atOf at h
  split at h
  · rename_i d g n a
    split at h
    · rename_i c hc
      simp only [runOps, sop1] at h ⊢
      split at h
      · cases h
      · exact h
      · split at h
        · rename_i v s' he
          split at he
          · rename_i k off k' off' h1 h2
            split at he
            · rw [h2]
              split at he
              · rename_i v' hv'
                injection he with he; injection he with h3 h4; subst h3; subst h4
                first | exact h | (rw [hv']; exact h)
              · cases he
            · cases he
          · rename_i c0 cs h1 h2
            rw [h2]
            simp only [loadA]
            split at he
            · rename_i v' hv'
              injection he with he; injection he with h3 h4; subst h3; subst h4
              first | exact h | (rw [hv']; exact h)
            · cases he
          · cases he
        · cases h
    · exact h
  · exact h

/-- The variables that are read beside a call i, in either order. -/
def loadsOf (ops : Array Oper) (ms : List Nat) (i : Nat) : List Nat → List Nat
  | [] => []
  | j :: r => match ops[j]? with
    | some o => match o.op with
      | .load _ (.tmp t) => if i == j || (ms.getD j 0).testBit i || (ms.getD i 0).testBit j then loadsOf ops ms i r else (match baseOf ops t (List.range ops.size) with | some c => c | none => t) :: loadsOf ops ms i r
      | _ => loadsOf ops ms i r
    | none => loadsOf ops ms i r

def hideFor (ops : Array Oper) (al : List AL) (cls i : Nat) (si : SI) : List Nat :=
  match cls, si.o with
  | 0, _ => []
  | 1, _ => hidesOf ops (masks [] ops.toList) al i (List.range ops.size)
  | _, .op _ => []
  | _, _ => loadsOf ops (masks [] ops.toList) i (List.range ops.size)

/-- The store that fills a new variable. -/
def fillOf (ops : Array Oper) (d : Nat) : List Nat → Option Nat
  | [] => none
  | j :: r => match ops[j]? with
    | some o => match o.op with
      | .store _ (.tmp t) _ => if t = d then some j else fillOf ops d r
      | _ => fillOf ops d r
    | none => none

def alsOf (ops : Array Oper) : List Nat → List AL
  | [] => []
  | i :: r => match ops[i]? with
    | some o => match o.op, o.dst with
      | .alloc e, some d => match fillOf ops d (List.range ops.size) with
        | some k => ⟨i, d, e, k⟩ :: alsOf ops r
        | none => alsOf ops r
      | _, _ => alsOf ops r
    | none => alsOf ops r

/-- One instruction of the region; a new variable is left to its store. -/
def buildD (P : Program) (own : Nat → Bool) (ops : Array Oper) (al : List AL) (i : Nat) : Option (Option DI) :=
  if al.any (·.ia == i) then some none else
  match ops[i]? with
  | none => none
  | some o => match al.find? (·.k == i) with
    | some a => match o.op with
      | .store t _ x => match szOf P t, compX x with
        | some n, some y => some (some (.fz i a.ia a.d n y))
        | _, _ => none
      | _ => none
    | none => (compSI P own ops o).map fun si => some (.ins i (clsOf own (atOf ops si)) (if clsOf own (atOf ops si) == 0 then [] else hideFor ops al (clsOf own (atOf ops si)) i (atOf ops si)) (atOf ops si))

def buildL (P : Program) (own : Nat → Bool) (ops : Array Oper) (al : List AL) : List Nat → Option (List DI)
  | [] => some []
  | i :: r => match buildD P own ops al i, buildL P own ops al r with
    | some (some x), some l => some (x :: l)
    | some none, some l => some l
    | _, _ => none

def pairsOk (ms : List Nat) : List DI → Bool
  | [] => true
  | x :: r => r.all (fun y => (ms.getD y.idx 0).testBit x.idx || apartB x y) && pairsOk ms r

def acyclicB (ops : Array Oper) : Bool := (List.range ops.size).all fun j => match ops[j]? with
  | some o => o.after.toList.all fun e => !Region.binds .any e || decide (e.on < j)
  | none => true

def alOk (P : Program) (ops : Array Oper) (ms : List Nat) (L : List DI) (a : AL) : Bool :=
  decide (a.ia < ops.size) && decide (a.k < ops.size) && (ms.getD a.k 0).testBit a.ia &&
  (match ops[a.ia]? with
   | some o => (match o.op with | .alloc e => e == a.e | _ => false) && o.dst == some a.d && o.guard.isNone
   | none => false) &&
  (match ops[a.k]? with
   | some o => (match o.op with
     | .store t (.tmp d) _ => d == a.d && (match zeroOf P a.e, szOf P t with | some z, some n => z.length == n | _, _ => false)
     | _ => false) && o.dst.isNone && o.guard.isNone
   | none => false) &&
  L.all fun x => x.idx == a.k || (!(x.reads.contains a.d) && x.dst != some a.d)

def alsApart : List AL → Bool
  | [] => true
  | a :: r => r.all (fun b => a.d != b.d && a.k != b.k && a.ia != b.ia) && alsApart r

def compDraw (P : Program) (own : Nat → Bool) (ops : Array Oper) : Option (List Nat × List DI) :=
  match buildL P own ops (alsOf ops (List.range ops.size)) (List.range ops.size) with
  | some L => if acyclicB ops && pairsOk (masks [] ops.toList) L && (alsOf ops (List.range ops.size)).all (alOk P ops (masks [] ops.toList) L) && alsApart (alsOf ops (List.range ops.size)) && (alsOf ops (List.range ops.size)).all (fun a => !((alsOf ops (List.range ops.size)).any (·.ia == a.k)))
    then some ((alsOf ops (List.range ops.size)).map (·.d), L) else none
  | none => none

/-! ### facts on what was built -/
theorem buildL_idx {P : Program} {own : Nat → Bool} {ops : Array Oper} {al : List AL} : ∀ {l : List Nat} {L : List DI}, buildL P own ops al l = some L → (∀ x ∈ L, x.idx ∈ l ∧ buildD P own ops al x.idx = some (some x)) ∧ (∀ i ∈ l, buildD P own ops al i = some none ∨ ∃ x ∈ L, x.idx = i)
  | [], L, h => by simp [buildL] at h; subst h; simp
  | i :: l, L, h => by
    simp only [buildL] at h
    have hidx : ∀ x, buildD P own ops al i = some (some x) → x.idx = i := by
      intro x hx
      unfold buildD at hx
      split at hx
      · cases hx
      · split at hx
        · cases hx
        · split at hx
          · split at hx
            · split at hx
              · injection hx with hx; injection hx with hx; subst hx; rfl
              · cases hx
            · cases hx
          · simp only [Option.map_eq_some_iff] at hx
            obtain ⟨y, _, hy⟩ := hx
            injection hy with hy; subst hy; rfl
    split at h
    · rename_i x L' hx hL
      injection h with h; subst h
      obtain ⟨h1, h2⟩ := buildL_idx hL
      have hi := hidx x hx
      refine ⟨fun y hy => ?_, fun j hj => ?_⟩
      · rcases List.mem_cons.1 hy with rfl | hy
        · exact ⟨by rw [hi]; simp, by rw [hi]; exact hx⟩
        · exact ⟨List.mem_cons_of_mem _ (h1 y hy).1, (h1 y hy).2⟩
      · rcases List.mem_cons.1 hj with rfl | hj
        · exact .inr ⟨x, by simp, hi⟩
        · rcases h2 j hj with h3 | ⟨y, hy, h3⟩
          · exact .inl h3
          · exact .inr ⟨y, by simp [hy], h3⟩
    · rename_i L' hx hL
      injection h with h; subst h
      obtain ⟨h1, h2⟩ := buildL_idx hL
      refine ⟨fun y hy => ⟨List.mem_cons_of_mem _ (h1 y hy).1, (h1 y hy).2⟩, fun j hj => ?_⟩
      rcases List.mem_cons.1 hj with rfl | hj
      · exact .inl hx
      · exact h2 j hj
    · cases h

theorem pairs_split {ms : List Nat} : ∀ {pre : List DI} {x : DI} {post : List DI}, pairsOk ms (pre ++ x :: post) = true → ∀ y ∈ pre, (ms.getD x.idx 0).testBit y.idx = true ∨ apartB y x = true
  | [], x, post, h, y, hy => by simp at hy
  | z :: pre, x, post, h, y, hy => by
    simp only [List.cons_append, pairsOk, Bool.and_eq_true, List.all_eq_true] at h
    rcases List.mem_cons.1 hy with rfl | hy
    · have := h.1 x (by simp)
      simpa using this
    · exact pairs_split h.2 y hy
theorem pairs_filter {ms : List Nat} (p : DI → Bool) : ∀ {L : List DI}, pairsOk ms L = true → pairsOk ms (L.filter p) = true
  | [], h => rfl
  | x :: L, h => by
    simp only [pairsOk, Bool.and_eq_true, List.all_eq_true] at h
    rw [List.filter_cons]
    split
    · simp only [pairsOk, Bool.and_eq_true, List.all_eq_true]
      exact ⟨fun y hy => h.1 y (List.mem_filter.1 hy).1, pairs_filter p h.2⟩
    · exact pairs_filter p h.2

theorem filter_lt {p p' : Nat → Bool} : ∀ {l : List Nat}, (∀ j ∈ l, p' j = true → p j = true) → (∃ i ∈ l, p i = true ∧ p' i = false) → (l.filter p').length < (l.filter p).length
  | [], _, ⟨i, hi, _⟩ => by simp at hi
  | j :: l, h, ⟨i, hi, h1, h2⟩ => by
    have hle : ∀ l : List Nat, (∀ j ∈ l, p' j = true → p j = true) → (l.filter p').length ≤ (l.filter p).length := by
      intro l
      induction l with
      | nil => intro _; simp
      | cons j l ih =>
        intro hh
        have := ih (fun k hk => hh k (by simp [hk]))
        rw [List.filter_cons, List.filter_cons]
        split
        · rename_i hj
          rw [if_pos (hh j (by simp) hj)]
          simp; omega
        · split
          · simp; omega
          · omega
    rw [List.filter_cons, List.filter_cons]
    rcases List.mem_cons.1 hi with rfl | hi
    · rw [if_pos h1, if_neg (by simp [h2])]
      have := hle l (fun k hk => h k (by simp [hk]))
      simp; omega
    · have := filter_lt (fun k hk => h k (by simp [hk])) ⟨i, hi, h1, h2⟩
      split
      · rename_i hj
        rw [if_pos (h j (by simp) hj)]
        simp; omega
      · split
        · simp; omega
        · omega

/-- A block that nobody tracked is entered into the state, newly filled. -/
theorem RelS.adopt {ρ : Ro} {s : St} {w w' : World} (h : RelS ρ s w) (b : ABlk) (e : LE) (hb : b ≠ .gone) (hgl : ¬ Liv ρ s e.g) (hgi : ∀ o, ρ.im e.g o = none) (hw : ∀ k, k ≠ e.g → w'.heap[k]? = w.heap[k]?)
    (hB : RelB (ρ.add e) w' b e) : RelS (ρ.add e) (s ++ [b]) w' := by
  have key : ∀ (r : Nat) (b1 : ABlk) (e1 : LE), (s ++ [b])[r]? = some b1 → (ρ.add e).loc[r]? = some e1 → (s[r]? = some b1 ∧ ρ.loc[r]? = some e1) ∨ (r = s.length ∧ b1 = b ∧ e1 = e) := by
    intro r b1 e1 h1 h3
    rcases (getElem?_snoc _ _ _ _).1 h1 with h5 | ⟨h5, h6⟩ <;> rcases (getElem?_snoc _ _ _ _).1 h3 with h7 | ⟨h7, h8⟩
    · exact .inl ⟨h5, h7⟩
    · have := (List.getElem?_eq_some_iff.1 h5).1; rw [h.len] at this; omega
    · have := (List.getElem?_eq_some_iff.1 h7).1; rw [← h.len] at this; omega
    · exact .inr ⟨h5, h6.symm, h8.symm⟩
  refine ⟨by simp [Ro.add, h.len], fun r b1 e1 h1 h3 => ?_, fun r r' b1 b2 e1 e2 h1 h2 h3 h4 n1 n2 he => ?_, fun k hk o => ?_, fun b1 o v hv => ?_⟩
  · rcases key r b1 e1 h1 h3 with ⟨h5, h6⟩ | ⟨rfl, rfl, rfl⟩
    · exact (h.blk r b1 e1 h5 h6).mono (Le.add ρ e) (fun hg => hw _ (fun he => hgl ⟨r, b1, e1, h5, hg, h6, he⟩))
    · exact hB
  · rcases key r b1 e1 h1 h3 with ⟨h5, h6⟩ | ⟨rfl, rfl, rfl⟩ <;> rcases key r' b2 e2 h2 h4 with ⟨h7, h8⟩ | ⟨rfl, rfl, rfl⟩
    · exact h.apart r r' b1 b2 e1 e2 h5 h7 h6 h8 n1 n2 he
    · exact absurd ⟨r, b1, e1, h5, n1, h6, he⟩ hgl
    · exact absurd ⟨r', b2, e2, h7, n2, h8, he.symm⟩ hgl
    · rfl
  · show ρ.im k o = none
    obtain ⟨r, b1, e1, h1, h2, h3, rfl⟩ := hk
    rcases key r b1 e1 h1 h3 with ⟨h5, h6⟩ | ⟨rfl, rfl, rfl⟩
    · exact h.sep _ ⟨r, b1, e1, h5, h2, h6, rfl⟩ o
    · exact hgi o
  · have hv' : ρ.im b1 o = some v := hv
    rw [← h.im b1 o v hv']
    refine World.cell?_of_block (hw b1 ?_)
    rintro rfl
    rw [hgi o] at hv'; cases hv'
end Go.Ab
