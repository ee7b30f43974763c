/- The same interpreter, made ready for runs in the kernel: each instruction is a function of its own. -/
import Derived.Test.YtpplmjjmdnfpgaaGreatXAbX
set_option linter.unusedVariables false
namespace Go.Ab
noncomputable section

section
variable {β : Type}
def fNat (n : Nat) (k : Nat → β) : β := @Nat.rec (fun _ => β) (k 0) (fun m _ => k (m + 1)) n
theorem fNat_eq (n : Nat) (k : Nat → β) : fNat n k = k n := by cases n <;> rfl
def fInt (n : Int) (k : Int → β) : β := @Int.casesOn (fun _ => β) n (fun m => fNat m fun m => k (.ofNat m)) (fun m => fNat m fun m => k (.negSucc m))
theorem fInt_eq (n : Int) (k : Int → β) : fInt n k = k n := by cases n <;> simp only [fInt, fNat_eq]
def fL {α : Type} (f : α → (α → β) → β) (l : List α) : (List α → β) → β :=
  @List.rec α (fun _ => (List α → β) → β) (fun k => k []) (fun a _ ih k => f a fun a => ih fun r => k (a :: r)) l
theorem fL_eq {α : Type} {f : α → (α → β) → β} (hf : ∀ a k, f a k = k a) : ∀ (l : List α) (k : List α → β), fL f l k = k l
  | [], _ => rfl
  | a :: r, k => by
    show f a (fun a => fL f r fun r => k (a :: r)) = _
    rw [hf, fL_eq hf r]
def fI {α : Type} (a : α) (k : α → β) : β := k a
theorem fI_eq {α : Type} (a : α) (k : α → β) : fI a k = k a := rfl
def setS {α : Type} (l : List α) : Nat → α → (List α → β) → β :=
  @List.rec α (fun _ => Nat → α → (List α → β) → β) (fun _ _ k => k []) (fun a l ih n v k => @Nat.rec (fun _ => β) (k (v :: l)) (fun m _ => ih m v fun l => k (a :: l)) n) l
theorem setS_eq {α : Type} : ∀ (l : List α) (n : Nat) (v : α) (k : List α → β), setS l n v k = k (l.set n v)
  | [], _, _, _ => rfl
  | _ :: _, 0, _, _ => rfl
  | a :: l, n + 1, v, k => by
    show setS l n v (fun l => k (a :: l)) = _
    rw [setS_eq l n v, List.set_cons_succ]
def appS {α : Type} (l : List α) (b : α) : (List α → β) → β :=
  @List.rec α (fun _ => (List α → β) → β) (fun k => k [b]) (fun a l ih k => ih fun l => k (a :: l)) l
theorem appS_eq {α : Type} : ∀ (l : List α) (v : α) (k : List α → β), appS l v k = k (l ++ [v])
  | [], _, _ => rfl
  | a :: l, v, k => by
    show appS l v (fun l => k (a :: l)) = _
    rw [appS_eq l v, List.cons_append]
end
def nth (l : List AV) : Nat → AV :=
  @List.rec AV (fun _ => Nat → AV) (fun _ => .any) (fun a _ ih n => @Nat.rec (fun _ => AV) a (fun m _ => ih m) n) l
theorem nth_eq : ∀ (l : List AV) (n : Nat), nth l n = l.getD n .any
  | [], _ => rfl
  | _ :: _, 0 => rfl
  | a :: l, n + 1 => nth_eq l n
def evF (fr : Fr) (x : X) : AV := @X.rec (fun _ => AV) (fun n => nth fr n) (fun v => v) x
theorem evF_eq (fr : Fr) (x : X) : evF fr x = ev fr x := by
  cases x with
  | t n => exact nth_eq fr n
  | c v => rfl
theorem evF_fun (fr : Fr) : evF fr = ev fr := funext (evF_eq fr)
def fBlk {β : Type} (b : ABlk) (k : ABlk → β) : β := match b with
  | .box cs => fL fI cs fun cs => k (.box cs)
  | .row e sz byt rows => fL (fL fI) rows fun rows => k (.row e sz byt rows)
  | .loop st p fr ps => fL fI fr fun fr => k (.loop st p fr ps)
  | .gone => k .gone
theorem fBlk_eq {β : Type} (b : ABlk) (k : ABlk → β) : fBlk b k = k b := by
  cases b <;> simp only [fBlk, fL_eq fI_eq, fL_eq (fL_eq fI_eq)]
def fS {β : Type} (s : St) (k : St → β) : β := fL fBlk s k
theorem fS_eq {β : Type} (s : St) (k : St → β) : fS s k = k s := fL_eq fBlk_eq s k

/-! ### operations, one by one -/
abbrev BT := AV → AV → Option AV
structure BF where
  run : BT
def b_int (f : IntKind → Int → Int → Option AV) : BT
  | .int k x, .int k' y => if k = k' then f k x y else none
  | _, _ => none
def b_cmp (fi : Int → Int → Bool) (fs : List UInt8 → List UInt8 → Bool) : BT
  | .int k x, .int k' y => if k = k' then some (.bool (fi x y)) else none
  | .str x, .str y => some (.bool (fs x y))
  | _, _ => none
def b_add : BT
  | .int k x, .int k' y => if k = k' then fInt (k.wrap (x + y)) fun z => some (.int k z) else none
  | .str x, .str y => if x.length + y.length ≤ strBound then fL fI (x ++ y) fun z => some (.str z) else none
  | _, _ => none
def binF (op : BinOp) : BF := match op with
  | .add => ⟨b_add⟩
  | .sub => ⟨b_int fun k x y => fInt (k.wrap (x - y)) fun z => some (.int k z)⟩
  | .mul => ⟨b_int fun k x y => fInt (k.wrap (x * y)) fun z => some (.int k z)⟩
  | .eql => ⟨b_cmp (fun x y => x == y) (fun x y => x == y)⟩
  | .neq => ⟨b_cmp (fun x y => x != y) (fun x y => !(x == y))⟩
  | .lss => ⟨b_cmp (fun x y => decide (x < y)) (fun x y => Op.bytesLess x y)⟩
  | .leq => ⟨b_cmp (fun x y => decide (x ≤ y)) (fun x y => Op.bytesLess x y || x == y)⟩
  | .gtr => ⟨b_cmp (fun x y => decide (y < x)) (fun x y => !(Op.bytesLess x y || x == y))⟩
  | .geq => ⟨b_cmp (fun x y => decide (y ≤ x)) (fun x y => !(Op.bytesLess x y))⟩
  | o => ⟨fun x y => binA o x y⟩
theorem binF_eq (op : BinOp) (x y : AV) : (binF op).run x y = binA op x y := by
  cases op <;> cases x <;> first
    | rfl
    | (cases y <;> first
        | rfl
        | (simp only [binF, b_add, b_int, b_cmp, binA, isShift, binInt, binStr, fInt_eq, fL_eq fI_eq, if_false, Bool.false_eq_true]))
def o_bin (f : BF) (x y : X) (ev : X → AV) (s : St) : Option (AV × St) := match f.run (ev x) (ev y) with
    | some v => some (v, s)
    | none => none
def o_mov (x : X) (ev : X → AV) (s : St) : Option (AV × St) := some (ev x, s)
def o_pick (c : X) (a : X) (b : X) (ev : X → AV) (s : St) : Option (AV × St) := match ev c with
    | .bool t => some (if t then ev a else ev b, s)
    | _ => none
def o_alloc (z : List AV) (ev : X → AV) (s : St) : Option (AV × St) := fNat s.length fun n => appS s (.box z) fun s' => some (.ptr n 0, s')
def o_box (x : X) (ev : X → AV) (s : St) : Option (AV × St) := match (ev x).cells? with
    | some cs => fNat s.length fun n => fL fI cs fun cs => appS s (.box cs) fun s' => some (.ptr n 0, s')
    | none => none
def o_build (z : List AV) (parts : List (Nat × Nat × X)) (ev : X → AV) (s : St) : Option (AV × St) := match fillP ev z parts with
    | some cs => some (.agg cs, s)
    | none => none
def o_lit (z : List AV) (n : Nat) (parts : List (Nat × X)) (ev : X → AV) (s : St) : Option (AV × St) := match fillR ev z.length (List.replicate n z) parts with
    | some rows => some (.sl rows, s)
    | none => none
def o_litOwn (e : Nat) (sz : Nat) (byt : Nat) (z : List AV) (n : Nat) (parts : List (Nat × X)) (ev : X → AV) (s : St) : Option (AV × St) := match fillR ev sz (List.replicate n z) parts with
    | some rows => some (.own s.length n, s ++ [.row e sz byt rows])
    | none => none
def o_load (n : Option Nat) (a : X) (ev : X → AV) (s : St) : Option (AV × St) := match loadA s n (ev a) with
    | some v => some (v, s)
    | none => none
def o_loadAt (c : X) (n : Option Nat) (a : X) (ev : X → AV) (s : St) : Option (AV × St) := match ev c, ev a with
    | .ptr k _, .ptr k' off => if k = k' then match loadA s n (.ptr k' off) with
      | some v => some (v, s)
      | none => none else none
    | .row _, .row cs => match pickC cs 0 n with
      | some v => some (v, s)
      | none => none
    | _, _ => none
def o_store (n : Nat) (a : X) (x : X) (ev : X → AV) (s : St) : Option (AV × St) := match (ev x).cells? with
  | none => none
  | some cs => if cs.length = n then
      match ev a with
      | .ptr r off => match s[r]? with
        | some (.box cells) => if off + n ≤ cells.length then fL fI (splice cells off cs) fun c => setS s r (.box c) fun s' => some (.tup [], s') else none
        | _ => none
      | .eptr r m i off => match s[r]? with
        | some (.row e sz byt rows) => if m = rows.length then match rows[i]? with
          | some c => if off + n ≤ c.length then fL fI (splice c off cs) fun c => fL fI (rows.set i c) fun rows => setS s r (.row e sz byt rows) fun s' => some (.tup [], s') else none
          | none => none else none
        | _ => none
      | _ => none
    else none
def o_chk (x : X) (ev : X → AV) (s : St) : Option (AV × St) := match ev x with
    | .ptr r o => some (.ptr r o, s)
    | .eptr r n i o => some (.eptr r n i o, s)
    | .row c => some (.row c, s)
    | .fn f a b => some (.fn f a b, s)
    | _ => none
def o_beq (neg : Bool) (x : X) (y : X) (ev : X → AV) (s : St) : Option (AV × St) := match ev x, ev y with
    | .bool a, .bool b => some (.bool (if neg then !(a == b) else a == b), s)
    | _, _ => none
def o_isNil (neg : Bool) (x : X) (ev : X → AV) (s : St) : Option (AV × St) := match isNilV (ev x) with
    | some b => some (.bool (if neg then !b else b), s)
    | none => none
def o_eqs (neg : Bool) (ks : List Nat) (x : X) (y : X) (ev : X → AV) (s : St) : Option (AV × St) := match ev x, ev y with
    | .agg a, .agg b => match eqCells ks a b with
      | some t => some (.bool (if neg then !t else t), s)
      | none => none
    | _, _ => none
def o_un (op : UnOp) (x : X) (ev : X → AV) (s : St) : Option (AV × St) := match unA op (ev x) with
    | some v => some (v, s)
    | none => none
def o_conv (k : IntKind) (x : X) (ev : X → AV) (s : St) : Option (AV × St) := match ev x with
    | .int _ n => some (.int k (k.wrap n), s)
    | _ => none
def o_convS (x : X) (ev : X → AV) (s : St) : Option (AV × St) := match ev x with
    | .str b => some (.str b, s)
    | _ => none
def o_bytes (x : X) (ev : X → AV) (s : St) : Option (AV × St) := match ev x with
    | .str b => some (.sl (b.map fun c => [.int .u8 c.toNat]), s)
    | _ => none
def o_strOf (x : X) (ev : X → AV) (s : St) : Option (AV × St) := match rowsOf s (ev x) with
    | some rows => match rows.mapM (fun | [.int .u8 n] => some (UInt8.ofNat n.toNat) | _ => none) with
      | some b => some (.str b, s)
      | none => none
    | none => none
def o_mkif (t : Nat) (x : X) (ev : X → AV) (s : St) : Option (AV × St) := match ev x with
    | .any => none
    | v => some (.ifc t v, s)
def o_mkfn (f : Nat) (a : List X) (b : List X) (ev : X → AV) (s : St) : Option (AV × St) := some (.fn f (evs ev a) (evs ev b), s)
def o_mkslice (e : Nat) (sz : Nat) (byt : Nat) (z : List AV) (l : X) (c : X) (ev : X → AV) (s : St) : Option (AV × St) := match ev l, ev c with
    | .int _ n, .int _ m => if n = m ∧ 0 ≤ n ∧ z.length = sz ∧ roomOk n.toNat byt then
        some (.own s.length n.toNat, s ++ [.row e sz byt (List.replicate n.toNat z)]) else none
    | _, _ => none
def o_slice (sz : Nat) (x : X) (lo : Option X) (hi : Option X) (ev : X → AV) (s : St) : Option (AV × St) := match lenA s (ev x) with
    | some n => match bound? ev 0 lo, bound? ev n hi with
      | some l, some h => sliceA s sz l h hi.isNone (ev x)
      | _, _ => none
    | none => none
def o_faddr (off : Nat) (x : X) (ev : X → AV) (s : St) : Option (AV × St) := match ev x with
    | .ptr r o => some (.ptr r (o + off), s)
    | .eptr r n i o => some (.eptr r n i (o + off), s)
    | .row c => some (.row (c.drop off), s)
    | _ => none
def o_fld (off : Nat) (n : Option Nat) (x : X) (ev : X → AV) (s : St) : Option (AV × St) := match ev x with
    | .agg c => match pickC c off n with
      | some v => some (v, s)
      | none => none
    | _ => none
def o_iaddr (sz : Nat) (x : X) (i : X) (ev : X → AV) (s : St) : Option (AV × St) := match ev i with
    | .int _ k => if 0 ≤ k then match ev x with
      | .sl rows => match rows[k.toNat]? with
        | some r => if r.length = sz then some (.row r, s) else none
        | none => none
      | .own r n => match s[r]? with
        | some (.row _ sz' _ rows) => if n = rows.length ∧ k < n ∧ sz = sz' then some (.eptr r n k.toNat 0, s) else none
        | _ => none
      | _ => none else none
    | _ => none
def o_iaddrA (len : Nat) (sz : Nat) (x : X) (i : X) (ev : X → AV) (s : St) : Option (AV × St) := match ev i with
    | .int _ k => if 0 ≤ k ∧ k < len then match ev x with
      | .ptr r o => some (.ptr r (o + k.toNat * sz), s)
      | .row c => some (.row (c.drop (k.toNat * sz)), s)
      | _ => none else none
    | _ => none
def o_idxS (x : X) (i : X) (ev : X → AV) (s : St) : Option (AV × St) := match ev x, ev i with
    | .str b, .int _ k => if 0 ≤ k then match b[k.toNat]? with
      | some c => some (.int .u8 c.toNat, s)
      | none => none else none
    | _, _ => none
def o_idxA (len : Nat) (sz : Nat) (n : Option Nat) (x : X) (i : X) (ev : X → AV) (s : St) : Option (AV × St) := match ev x, ev i with
    | .agg c, .int _ k => if 0 ≤ k ∧ k < len then match pickC c (k.toNat * sz) n with
      | some v => some (v, s)
      | none => none else none
    | _, _ => none
def o_ext (x : X) (i : Nat) (ev : X → AV) (s : St) : Option (AV × St) := match ev x with
    | .tup vs => match vs[i]? with
      | some v => some (v, s)
      | none => none
    | _ => none
def o_len_true (x : X) (ev : X → AV) (s : St) : Option (AV × St) := match ev x with
    | .str b => some (.int .i64 b.length, s)
    | _ => none
def o_len_false (x : X) (ev : X → AV) (s : St) : Option (AV × St) := match ev x with
    | .str _ => none
    | v => match lenA s v with
      | some n => some (.int .i64 n, s)
      | none => none
def o_minmax (mx : Bool) (x : X) (xs : List X) (ev : X → AV) (s : St) : Option (AV × St) := match minmaxA mx (ev x) (evs ev xs) with
    | some v => some (v, s)
    | none => none
def o_append (e : Nat) (sz : Nat) (byt : Nat) (x : X) (y : X) (ev : X → AV) (s : St) : Option (AV × St) := match rowsOf s (ev y) with
    | some news => appendA s e sz byt (ev x) news
    | none => none
def o_appendS (e : Nat) (byt : Nat) (x : X) (y : X) (ev : X → AV) (s : St) : Option (AV × St) := match ev y with
    | .str b => appendA s e 1 byt (ev x) (b.map fun c => [.int .u8 c.toNat])
    | _ => none
structure OF where
  run : (X → AV) → St → Option (AV × St)
def opF (o : SOp) : OF := match o with
  | .mov x => ⟨fun E_ S_ => o_mov x E_ S_⟩
  | .pick c a b => ⟨fun E_ S_ => o_pick c a b E_ S_⟩
  | .alloc z => ⟨fun E_ S_ => o_alloc z E_ S_⟩
  | .box x => ⟨fun E_ S_ => o_box x E_ S_⟩
  | .build z parts => ⟨fun E_ S_ => o_build z parts E_ S_⟩
  | .lit z n parts => ⟨fun E_ S_ => o_lit z n parts E_ S_⟩
  | .litOwn e sz byt z n parts => ⟨fun E_ S_ => o_litOwn e sz byt z n parts E_ S_⟩
  | .load n a => ⟨fun E_ S_ => o_load n a E_ S_⟩
  | .loadAt c n a => ⟨fun E_ S_ => o_loadAt c n a E_ S_⟩
  | .store n a x => ⟨fun E_ S_ => o_store n a x E_ S_⟩
  | .chk x => ⟨fun E_ S_ => o_chk x E_ S_⟩
  | .beq neg x y => ⟨fun E_ S_ => o_beq neg x y E_ S_⟩
  | .isNil neg x => ⟨fun E_ S_ => o_isNil neg x E_ S_⟩
  | .eqs neg ks x y => ⟨fun E_ S_ => o_eqs neg ks x y E_ S_⟩
  | .un op x => ⟨fun E_ S_ => o_un op x E_ S_⟩
  | .conv k x => ⟨fun E_ S_ => o_conv k x E_ S_⟩
  | .convS x => ⟨fun E_ S_ => o_convS x E_ S_⟩
  | .bytes x => ⟨fun E_ S_ => o_bytes x E_ S_⟩
  | .strOf x => ⟨fun E_ S_ => o_strOf x E_ S_⟩
  | .mkif t x => ⟨fun E_ S_ => o_mkif t x E_ S_⟩
  | .mkfn f a b => ⟨fun E_ S_ => o_mkfn f a b E_ S_⟩
  | .mkslice e sz byt z l c => ⟨fun E_ S_ => o_mkslice e sz byt z l c E_ S_⟩
  | .slice sz x lo hi => ⟨fun E_ S_ => o_slice sz x lo hi E_ S_⟩
  | .faddr off x => ⟨fun E_ S_ => o_faddr off x E_ S_⟩
  | .fld off n x => ⟨fun E_ S_ => o_fld off n x E_ S_⟩
  | .iaddr sz x i => ⟨fun E_ S_ => o_iaddr sz x i E_ S_⟩
  | .iaddrA len sz x i => ⟨fun E_ S_ => o_iaddrA len sz x i E_ S_⟩
  | .idxS x i => ⟨fun E_ S_ => o_idxS x i E_ S_⟩
  | .idxA len sz n x i => ⟨fun E_ S_ => o_idxA len sz n x i E_ S_⟩
  | .ext x i => ⟨fun E_ S_ => o_ext x i E_ S_⟩
  | .len true x => ⟨fun E_ S_ => o_len_true x E_ S_⟩
  | .len false x => ⟨fun E_ S_ => o_len_false x E_ S_⟩
  | .minmax mx x xs => ⟨fun E_ S_ => o_minmax mx x xs E_ S_⟩
  | .append e sz byt x y => ⟨fun E_ S_ => o_append e sz byt x y E_ S_⟩
  | .appendS e byt x y => ⟨fun E_ S_ => o_appendS e byt x y E_ S_⟩
  | .bin op x y => ⟨fun E_ S_ => o_bin (binF op) x y E_ S_⟩
theorem opF_eq (o : SOp) (e : X → AV) (s : St) : (opF o).run e s = sop1 o e s := by
  cases o
  case bin op x y => simp only [opF, o_bin, binF_eq, sop1]; rfl
  case alloc z => simp only [opF, o_alloc, fNat_eq, appS_eq, sop1]
  case box x => simp only [opF, o_box, fNat_eq, fL_eq fI_eq, appS_eq, sop1]; rfl
  case store n a x =>
    simp only [opF, o_store, sop1, storeA, fL_eq fI_eq, setS_eq]
    cases (e x).cells? with
    | none => rfl
    | some cs =>
      simp only
      split
      · cases e a with
        | ptr r off =>
          simp only
          cases s[r]? with
          | none => rfl
          | some b => cases b with
            | box c => simp only; split <;> rfl
            | _ => rfl
        | eptr r m i off =>
          simp only
          cases s[r]? with
          | none => rfl
          | some b => cases b with
            | row e sz byt rows =>
              simp only
              split
              · cases rows[i]? with
                | none => rfl
                | some c => simp only; split <;> rfl
              · rfl
            | _ => rfl
        | _ => rfl
      · rfl
  case len str x => cases str <;> rfl
  all_goals rfl

/-! ### the runner -/
inductive FRes where
  | norm (fr : Fr) (s : St)
  | exit (i : Nat) (fr : Fr) (s : St)
  | ret (fr : Fr) (s : St)
  | pan (v : AV) (fr : Fr) (s : St)
  | bad
def FRes.to : FRes → Res
  | .norm fr s => some (.norm, fr, s)
  | .exit i fr s => some (.exit i, fr, s)
  | .ret fr s => some (.ret, fr, s)
  | .pan v fr s => some (.pan v, fr, s)
  | .bad => none
def bindN (x : FRes) (k : Fr → St → FRes) : FRes := @FRes.rec (fun _ => FRes) (fun fr s => k fr s) (fun i fr s => .exit i fr s) (fun fr s => .ret fr s) (fun v fr s => .pan v fr s) .bad x
def bindE (id : Nat) (x : FRes) : FRes := @FRes.rec (fun _ => FRes) (fun fr s => .norm fr s) (fun i fr s => bif Nat.beq i id then .norm fr s else .exit i fr s) (fun fr s => .ret fr s) (fun v fr s => .pan v fr s) .bad x
def bO (x : Option (AV × St)) (k : AV → St → FRes) : FRes := @Option.rec (AV × St) (fun _ => FRes) .bad (fun p => @Prod.rec AV St (fun _ => FRes) (fun v s => k v s) p) x
def bC (x : Option CR) (k p : AV → St → FRes) : FRes := @Option.rec CR (fun _ => FRes) .bad (fun c => @CR.rec (fun _ => FRes) (fun v s => k v s) (fun v s => p v s) c) x
abbrev CF := Nat → List AV → St → Option CR
structure Cx where
  cf : CF
  rg : Nat → CF → List AV → St → Option CR
def noYf : CF := fun _ _ _ => none
structure FI where
  run : CF → CF → Fr → St → (Fr → St → FRes) → FRes
def putF (fr : Fr) (d : Option Nat) (v : AV) (k : Fr → FRes) : FRes := @Option.rec Nat (fun _ => FRes) (k fr) (fun n => setS fr n v k) d
theorem putF_eq (fr : Fr) (d : Option Nat) (v : AV) (k : Fr → FRes) : putF fr d v k = k (put fr d v) := by
  cases d with
  | none => rfl
  | some n => exact setS_eq fr n v k

def i_op (d : Option Nat) (o : OF) (fr : Fr) (s : St) (k : Fr → St → FRes) : FRes := bO (o.run (evF fr) s) fun v s' => putF fr d v fun fr' => k fr' s'
def i_call (d : Option Nat) (f : Nat) (args : List X) (cf : CF) (fr : Fr) (s : St) (k : Fr → St → FRes) : FRes :=
  bC (cf f (evs (evF fr) args) s) (fun v s' => putF fr d v fun fr' => k fr' s') (fun v s' => .pan v fr s')
def i_callv (d : Option Nat) (f : X) (args : List X) (cf yf : CF) (fr : Fr) (s : St) (k : Fr → St → FRes) : FRes := match evF fr f with
  | .fn n first cap => bC (cf n (first ++ (evs (evF fr) args ++ cap)) s) (fun v s' => putF fr d v fun fr' => k fr' s') (fun v s' => .pan v fr s')
  | .yld r => bC (yf r (evs (evF fr) args) s) (fun v s' => putF fr d v fun fr' => k fr' s') (fun _ _ => .bad)
  | _ => .bad
def i_panic (x : X) (fr : Fr) (s : St) : FRes := match evF fr x with
  | .ifc t v => .pan (.ifc t v) fr s
  | _ => .bad
def i_gate (t : Nat) (c : Bool) (a b : FI) (cf yf : CF) (fr : Fr) (s : St) (k : Fr → St → FRes) : FRes := match nth fr t with
  | .bool x => bif x == c then a.run cf yf fr s k else b.run cf yf fr s k
  | .tup _ => b.run cf yf fr s k
  | _ => .bad
def bodyI (d : Option Nat) (o : SJ) : FI := match o with
  | .op o => ⟨fun _ _ fr s k => i_op d (opF o) fr s k⟩
  | .call f args => ⟨fun cf _ fr s k => i_call d f args cf fr s k⟩
  | .callv f args => ⟨fun cf yf fr s k => i_callv d f args cf yf fr s k⟩
  | .panic x => ⟨fun _ _ fr s _ => i_panic x fr s⟩
def skipI (d : Option Nat) : FI := ⟨fun _ _ fr s k => putF fr d (.tup []) fun fr => k fr s⟩
def toI (i : SI) : FI := match i.g with
  | none => bodyI i.d i.o
  | some (t, c) => ⟨fun cf yf fr s k => i_gate t c (bodyI i.d i.o) (skipI i.d) cf yf fr s k⟩
def opsF (cf yf : CF) (l : List SI) : Fr → St → FRes :=
  @List.rec SI (fun _ => Fr → St → FRes) (fun fr s => .norm fr s) (fun i _ ih fr s => (toI i).run cf yf fr s ih) l

theorem bindN_to {x : FRes} {k : Fr → St → FRes} : (bindN x k).to = match x.to with
    | some (.norm, fr, s) => (k fr s).to
    | r => r := by cases x <;> rfl
theorem opsF_eq {cf yf : CF} : ∀ (l : List SI) (fr : Fr) (s : St), (opsF cf yf l fr s).to = runOps cf yf l fr s
  | [], _, _ => rfl
  | i :: l, fr, s => by
    show ((toI i).run cf yf fr s (opsF cf yf l)).to = _
    simp only [runOps]
    have hb : ((bodyI i.d i.o).run cf yf fr s (opsF cf yf l)).to = (match i.o with
      | .call f args => match cf f (evs (ev fr) args) s with
        | some (.ret v s') => runOps cf yf l (put fr i.d v) s'
        | some (.pan v s') => some (.pan v, fr, s')
        | none => none
      | .callv f args => match ev fr f with
        | .fn n first cap => match cf n (first ++ (evs (ev fr) args ++ cap)) s with
          | some (.ret v s') => runOps cf yf l (put fr i.d v) s'
          | some (.pan v s') => some (.pan v, fr, s')
          | none => none
        | .yld r => match yf r (evs (ev fr) args) s with
          | some (.ret v s') => runOps cf yf l (put fr i.d v) s'
          | _ => none
        | _ => none
      | .panic x => match ev fr x with
        | .ifc t v => some (.pan (.ifc t v), fr, s)
        | _ => none
      | .op o => match sop1 o (ev fr) s with
        | some (v, s') => runOps cf yf l (put fr i.d v) s'
        | none => none) := by
      cases i.o with
      | op o =>
        simp only [bodyI, i_op, opF_eq, evF_fun, putF_eq]
        cases sop1 o (ev fr) s with
        | none => rfl
        | some p => exact opsF_eq l _ _
      | call f args =>
        simp only [bodyI, i_call, evF_fun, putF_eq]
        cases cf f (evs (ev fr) args) s with
        | none => rfl
        | some c => cases c with
          | ret v s' => exact opsF_eq l _ _
          | pan v s' => rfl
      | callv f args =>
        simp only [bodyI, i_callv, evF_fun, putF_eq]
        cases ev fr f with
        | fn n first cap =>
          simp only
          cases cf n (first ++ (evs (ev fr) args ++ cap)) s with
          | none => rfl
          | some c => cases c with
            | ret v s' => exact opsF_eq l _ _
            | pan v s' => rfl
        | yld r =>
          simp only
          cases yf r (evs (ev fr) args) s with
          | none => rfl
          | some c => cases c with
            | ret v s' => exact opsF_eq l _ _
            | pan v s' => rfl
        | _ => rfl
      | panic x =>
        simp only [bodyI, i_panic, evF_fun]
        cases ev fr x <;> rfl
    have hs : ((skipI i.d).run cf yf fr s (opsF cf yf l)).to = runOps cf yf l (put fr i.d (.tup [])) s := by
      simp only [skipI, putF_eq]; exact opsF_eq l _ _
    unfold toI
    cases hg : i.g with
    | none => simp only [wanted]; exact hb
    | some p =>
      obtain ⟨t, c⟩ := p
      simp only [wanted, i_gate, nth_eq]
      cases fr.getD t .any with
      | bool x =>
        simp only
        cases hx : x == c with
        | true => exact hb
        | false => exact hs
      | tup _ => exact hs
      | _ => rfl

/-! drawing regions -/
structure FD where
  run : CF → Fr → St → (Fr → St → FRes) → FRes
def e_op (o : OF) (fr : Fr) (s : St) : Option (AV × St) := o.run (evF fr) s
def e_cr (x : Option CR) : Option (AV × St) := match x with
  | some (.ret v s') => some (v, s')
  | _ => none
structure FE where
  run : CF → Fr → St → Option (AV × St)
def bodyE (pc : Nat → Bool) (cls : Nat) (o : SJ) : FE := match o with
  | .op o => ⟨fun _ fr s => e_op (opF o) fr s⟩
  | .call f args => if cls < 2 && !pc f then ⟨fun _ _ _ => none⟩ else ⟨fun cf fr s => e_cr (cf f (evs (evF fr) args) s)⟩
  | .callv f args => ⟨fun cf fr s => match evF fr f with
    | .fn n first cap => if cls < 2 && !pc n then none else e_cr (cf n (first ++ (evs (evF fr) args ++ cap)) s)
    | _ => none⟩
  | .panic _ => ⟨fun _ _ _ => none⟩
def e_gate (t : Nat) (c : Bool) (a : FE) (cf : CF) (fr : Fr) (s : St) : Option (AV × St) := match nth fr t with
  | .bool x => bif x == c then a.run cf fr s else some (.tup [], s)
  | .tup _ => some (.tup [], s)
  | _ => none
def toE (pc : Nat → Bool) (cls : Nat) (i : SI) : FE := match i.g with
  | none => bodyE pc cls i.o
  | some (t, c) => ⟨fun cf fr s => e_gate t c (bodyE pc cls i.o) cf fr s⟩
theorem toE_eq {pc : Nat → Bool} {cls : Nat} {i : SI} {cf : CF} {fr : Fr} {s : St} : (toE pc cls i).run cf fr s = evl0 cf pc cls i fr s := by
  have hb : (bodyE pc cls i.o).run cf fr s = (match i.o with
      | .op o => sop1 o (ev fr) s
      | .call f args => if cls < 2 && !pc f then none else match cf f (evs (ev fr) args) s with
        | some (.ret v s') => some (v, s')
        | _ => none
      | .callv f args => match ev fr f with
        | .fn n first cap => if cls < 2 && !pc n then none else match cf n (first ++ (evs (ev fr) args ++ cap)) s with
          | some (.ret v s') => some (v, s')
          | _ => none
        | _ => none
      | .panic _ => none) := by
    cases i.o with
    | op o => simp only [bodyE, e_op, opF_eq, evF_fun]
    | call f args =>
      simp only [bodyE]
      by_cases h : (decide (cls < 2) && !pc f) = true
      · simp only [if_pos h]
      · simp only [if_neg h, evF_fun, e_cr]
    | callv f args => simp only [bodyE, evF_fun, e_cr]
    | panic x => rfl
  unfold toE evl0
  cases hg : i.g with
  | none => simp only [wanted]; exact hb
  | some p =>
    obtain ⟨t, c⟩ := p
    simp only [wanted, e_gate, nth_eq]
    cases fr.getD t .any with
    | bool x =>
      simp only
      cases hx : x == c with
      | true => exact hb
      | false => rfl
    | tup _ => rfl
    | _ => rfl
def d_hid (cls : Nat) (h : List Nat) (e : FE) (cf : CF) (fr : Fr) (s : St) : Option (AV × St) := match hid fr h s with
  | none => none
  | some s0 => fS s0 fun s0 => match e.run cf fr s0 with
    | some (v, s1) => if cls ≤ 1 then some (v, s) else if s.length ≤ s1.length then fS (rst fr h s s1) fun s2 => some (v, s2) else none
    | none => none
def d_fz (n : Nat) (x : X) (fr : Fr) (s : St) : Option (AV × St) := match (evF fr x).cells? with
    | some cs => if cs.length = n then fNat s.length fun m => fL fI cs fun cs => appS s (.box cs) fun s' => some (.ptr m 0, s') else none
    | none => none
def toD (pc : Nat → Bool) (x : DI) : FE := match x with
  | .ins _ cls [] si => toE pc cls si
  | .ins _ cls (a :: r) si => ⟨fun cf fr s => d_hid cls (a :: r) (toE pc cls si) cf fr s⟩
  | .fz _ _ _ n x => ⟨fun _ fr s => d_fz n x fr s⟩
theorem toD_eq {pc : Nat → Bool} {x : DI} {cf : CF} {fr : Fr} {s : St} : (toD pc x).run cf fr s = evl1 cf pc x fr s := by
  cases x with
  | fz i ia d n x => simp only [toD, d_fz, evl1, evF_eq, fNat_eq, fL_eq fI_eq, appS_eq]; rfl
  | ins i cls h si =>
    cases h with
    | nil =>
      simp only [toD, evl1, hid, toE_eq]
      cases evl0 cf pc cls si fr s <;> rfl
    | cons a r => simp only [toD, d_hid, evl1, fS_eq, toE_eq]; rfl
def toDI (pc : Nat → Bool) (x : DI) : FD := match x.dst with
  | none => ⟨fun cf fr s k => bO ((toD pc x).run cf fr s) fun _ s' => k fr s'⟩
  | some n => ⟨fun cf fr s k => bO ((toD pc x).run cf fr s) fun v s' => setS fr n v fun fr' => k fr' s'⟩
def drwF (pc : Nat → Bool) (cf : CF) (l : List DI) : Fr → St → FRes :=
  @List.rec DI (fun _ => Fr → St → FRes) (fun fr s => .norm fr s) (fun i _ ih fr s => (toDI pc i).run cf fr s ih) l
theorem drwF_eq {pc : Nat → Bool} {cf : CF} : ∀ (l : List DI) (fr : Fr) (s : St), (drwF pc cf l fr s).to = match runL cf pc l fr s with
    | some (fr', s') => some (.norm, fr', s')
    | none => none
  | [], _, _ => rfl
  | x :: l, fr, s => by
    show ((toDI pc x).run cf fr s (drwF pc cf l)).to = _
    simp only [runL, exec1]
    unfold toDI
    cases hd : x.dst with
    | none =>
      simp only [toD_eq]
      cases evl1 cf pc x fr s with
      | none => rfl
      | some p => exact drwF_eq l _ _
    | some n =>
      simp only [toD_eq, setS_eq]
      cases evl1 cf pc x fr s with
      | none => rfl
      | some p => exact drwF_eq l _ _

/-! code -/
structure FC where
  run : Cx → CF → Bool → Nat → Fr → St → FRes
def x_seq (a b : FC) (cx : Cx) (yf : CF) (y : Bool) (n : Nat) (fr : Fr) (s : St) : FRes := bindN (a.run cx yf y n fr s) fun fr' s' => b.run cx yf y n fr' s'
def x_cond (c : X) (a b : FC) (cx : Cx) (yf : CF) (y : Bool) (n : Nat) (fr : Fr) (s : St) : FRes := match evF fr c with
  | .bool t => bif t then a.run cx yf y n fr s else b.run cx yf y n fr s
  | _ => .bad
def iterF (F : Fr → St → FRes) (n : Nat) : Fr → St → FRes :=
  @Nat.rec (fun _ => Fr → St → FRes) (fun _ _ => .bad) (fun _ ih fr s => bindN (F fr s) ih) n
def y_fn (a b : FC) (cx : Cx) (n r0 : Nat) : CF := fun r args s => bif Nat.beq r r0 then
  match s[r]? with
  | some (.loop 0 none fr ps) => if ps.length = args.length then
    fL fI (setL fr ps args) fun fr => match a.run cx noYf true n fr s with
      | .norm fr1 s1 => (match s1[r]? with
        | some (.loop 0 none fr0 ps0) => fS (s1.set r (.loop 1 none fr0 ps0)) fun s1 => match b.run cx noYf true n fr1 s1 with
          | .norm _ s2 => (match s2[r]? with
            | some (.loop 1 none fr2 ps2) => fS (s2.set r (.loop 0 none fr2 ps2)) fun s => some (.ret (.bool true) s)
            | _ => none)
          | .ret _ s2 => (match s2[r]? with
            | some (.loop 1 none fr2 ps2) => fS (s2.set r (.loop 2 (some none) fr2 ps2)) fun s => some (.ret (.bool false) s)
            | _ => none)
          | .exit id _ s2 => (match s2[r]? with
            | some (.loop 1 none fr2 ps2) => fS (s2.set r (.loop 2 (some (some id)) fr2 ps2)) fun s => some (.ret (.bool false) s)
            | _ => none)
          | _ => none
        | _ => none)
      | _ => none
    else none
  | _ => none
  else none
def x_end (r : Nat) (fr : Fr) (s : St) : FRes := match s[r]? with
  | some (.loop 0 none _ _) => fS (s.set r .gone) fun s => .norm fr s
  | some (.loop 2 (some none) _ _) => fS (s.set r .gone) fun s => .ret fr s
  | some (.loop 2 (some (some id)) _ _) => fS (s.set r .gone) fun s => .exit id fr s
  | _ => .bad
def x_range (g : X) (ps : List Nat) (a b : FC) (cx : Cx) (y : Bool) (n : Nat) (fr : Fr) (s : St) : FRes := bif y then .bad else match evF fr g with
  | .fn f [] cap => fNat s.length fun r0 => appS s (.loop 0 none fr ps) fun s0 => match cx.rg f (y_fn a b cx n r0) (.yld r0 :: cap) s0 with
    | some (.ret _ s'') => x_end r0 fr s''
    | _ => .bad
  | _ => .bad
def x_ops (l : List SI) (cx : Cx) (yf : CF) (fr : Fr) (s : St) : FRes := opsF cx.cf yf l fr s
def x_drw (pc : Nat → Bool) (al : List Nat) (l : List DI) (cx : Cx) (fr : Fr) (s : St) : FRes := if al.all (fun d => decide (d < fr.length)) then fL fI (anyAt al fr) fun fr => drwF pc cx.cf l fr s else .bad
def x_drw0 (pc : Nat → Bool) (l : List DI) (cx : Cx) (fr : Fr) (s : St) : FRes := drwF pc cx.cf l fr s
def x_kl (ts : List Nat) (c : FC) (cx : Cx) (yf : CF) (y : Bool) (n : Nat) (fr : Fr) (s : St) : FRes := fL fI (anyAt ts fr) fun fr => c.run cx yf y n fr s
def toF (pc : Nat → Bool) (c : SCode) : FC := @SCode.rec (fun _ => FC)
  ⟨fun _ _ _ _ fr s => .norm fr s⟩
  (fun l => ⟨fun cx yf _ _ fr s => x_ops l cx yf fr s⟩)
  (fun al l => match al with
    | [] => ⟨fun cx _ _ _ fr s => x_drw0 pc l cx fr s⟩
    | a :: r => ⟨fun cx _ _ _ fr s => x_drw pc (a :: r) l cx fr s⟩)
  (fun _ _ a b => ⟨fun cx yf y n fr s => x_seq a b cx yf y n fr s⟩)
  (fun c _ _ a b => ⟨fun cx yf y n fr s => x_cond c a b cx yf y n fr s⟩)
  (fun id _ c => ⟨fun cx yf y n fr s => bindE id (c.run cx yf y n fr s)⟩)
  (fun _ c => ⟨fun cx yf y n fr s => iterF (c.run cx yf y n) n fr s⟩)
  (fun id => ⟨fun _ _ _ _ fr s => .exit id fr s⟩)
  ⟨fun _ _ _ _ fr s => .ret fr s⟩
  (fun ts _ c => ⟨fun cx yf y n fr s => x_kl ts c cx yf y n fr s⟩)
  (fun g ps _ _ a b => ⟨fun cx _ y n fr s => x_range g ps a b cx y n fr s⟩)
  c

/-- functions -/
structure FF where
  run : Cx → Nat → List AV → St → Option CR
  rng : Cx → Nat → CF → List AV → St → Option CR
def finF (sf : SFn) (x : FRes) : Option CR := match x with
  | .norm fr s => fin sf .norm fr s
  | .ret fr s => fin sf .ret fr s
  | .pan v _ s => some (.pan v s)
  | _ => none
def c_st (sf : SFn) (c : FC) (cx : Cx) (yf : CF) (n : Nat) (a : List AV) (s : St) : Option CR := fL fI (pad sf a) fun fr => finF sf (c.run cx yf false n fr s)
def c_pure (sf : SFn) (c : FC) (cx : Cx) (n : Nat) (a : List AV) (s : St) : Option CR := match chainO (frzN s frzDepth) a with
  | none => none
  | some a' => match c_st sf c cx noYf n a' [] with
    | some r => back a s r
    | none => none
def c_prim (p : List AV → Option AV) (a : List AV) (s : St) : Option CR := match chainO (frzN s frzDepth) a with
  | some args' => match p args' with
    | some v => if flat v then some (.ret v s) else none
    | none => none
  | none => none
def fnF (tb : Tbl) (f : Nat) : FF := match tb.sprim f with
  | some p => ⟨fun _ _ a s => p a s, fun _ _ _ _ _ => none⟩
  | none => match tb.prim f with
    | some p => ⟨fun _ _ a s => c_prim p a s, fun _ _ _ _ _ => none⟩
    | none => match tb.fn f with
      | none => ⟨fun _ _ _ _ => none, fun _ _ _ _ _ => none⟩
      | some sf => if sf.st then ⟨fun cx n a s => c_st sf (toF tb.pc sf.body) cx noYf n a s, fun cx n yf a s => c_st sf (toF tb.pc sf.body) cx yf n a s⟩
        else ⟨fun cx n a s => c_pure sf (toF tb.pc sf.body) cx n a s, fun cx n yf a s => c_st sf (toF tb.pc sf.body) cx yf n a s⟩
def cxF (tb : Tbl) (n : Nat) (k : Nat) : Cx := @Nat.rec (fun _ => Cx) ⟨noYf, fun _ _ _ _ => none⟩ (fun _ ih => ⟨fun f a s => (fnF tb f).run ih n a s, fun f yf a s => (fnF tb f).rng ih n yf a s⟩) k

/-! ### it answers as the interpreter with all the fuel that is wanted -/
def YLe (tb : Tbl) (Y : YT) (yf : CF) : Prop := ∀ f a s r, yf f a s = some r → yieldA (L tb) Y f a s = some r
structure CxOk (tb : Tbl) (cx : Cx) : Prop where
  cf : ∀ f a s r, cx.cf f a s = some r → D tb f a s = some r
  rg : ∀ f yf Y a s r, YLe tb (false, Y) yf → cx.rg f yf a s = some r → ∃ sf, tb.sprim f = none ∧ tb.prim f = none ∧ tb.fn f = some sf ∧ ∃ o fr' s', L tb (false, Y) sf.body (pad sf a) s = some (o, fr', s') ∧ fin sf o fr' s' = some r
theorem noYf_le {tb : Tbl} {Y : YT} : YLe tb Y noYf := fun _ _ _ _ h => by cases h

theorem y_fn_le {tb : Tbl} {asg body : SCode} {a b : FC} {cx : Cx} {n r0 : Nat}
    (ha : ∀ fr s r, (a.run cx noYf true n fr s).to = some r → L tb (true, []) asg fr s = some r) (hb : ∀ fr s r, (b.run cx noYf true n fr s).to = some r → L tb (true, []) body fr s = some r) :
    YLe tb (false, [(r0, asg, body)]) (y_fn a b cx n r0) := by
  intro r args s x h
  unfold y_fn at h
  cases hr : Nat.beq r r0 with
  | false => rw [hr] at h; cases h
  | true =>
    rw [hr] at h
    have : r = r0 := Nat.eq_of_beq_eq_true hr
    subst this
    simp only [cond_true] at h
    unfold yieldA
    have hl : List.lookup r [(r, asg, body)] = some (asg, body) := by simp [List.lookup]
    simp only [hl]
    split at h
    · rename_i fr ps hs
      split at h
      · rename_i hlen
        simp only [hs, if_pos hlen]
        rw [fL_eq fI_eq] at h
        cases hA : a.run cx noYf true n (setL fr ps args) s with
        | norm fr1 s1 =>
          rw [hA] at h
          have h1 := ha (setL fr ps args) s (.norm, fr1, s1) (by rw [hA]; rfl)
          simp only [h1]
          simp only at h
          split at h
          · rename_i fr0 ps0 hs1
            rw [fS_eq] at h
            simp only [hs1]
            cases hB : b.run cx noYf true n fr1 (s1.set r (.loop 1 none fr0 ps0)) with
            | norm fr2 s2 =>
              rw [hB] at h
              have h2 := hb fr1 (s1.set r (.loop 1 none fr0 ps0)) (.norm, fr2, s2) (by rw [hB]; rfl)
              simp only [h2]
              simp only at h
              split at h
              · rename_i fr3 ps3 hs2
                rw [fS_eq] at h
                simp only [hs2]
                exact h
              · cases h
            | ret fr2 s2 =>
              rw [hB] at h
              have h2 := hb fr1 (s1.set r (.loop 1 none fr0 ps0)) (.ret, fr2, s2) (by rw [hB]; rfl)
              simp only [h2]
              simp only at h
              split at h
              · rename_i fr3 ps3 hs2
                rw [fS_eq] at h
                simp only [hs2]
                exact h
              · cases h
            | exit id fr2 s2 =>
              rw [hB] at h
              have h2 := hb fr1 (s1.set r (.loop 1 none fr0 ps0)) (.exit id, fr2, s2) (by rw [hB]; rfl)
              simp only [h2]
              simp only at h
              split at h
              · rename_i fr3 ps3 hs2
                rw [fS_eq] at h
                simp only [hs2]
                exact h
              · cases h
            | pan v fr2 s2 => rw [hB] at h; cases h
            | bad => rw [hB] at h; cases h
          · cases h
        | exit i fr1 s1 => rw [hA] at h; cases h
        | ret fr1 s1 => rw [hA] at h; cases h
        | pan v fr1 s1 => rw [hA] at h; cases h
        | bad => rw [hA] at h; cases h
      · cases h
    · cases h

theorem x_end_to (r : Nat) (fr : Fr) (s : St) : (x_end r fr s).to = endLoopA r fr s := by
  unfold x_end endLoopA
  split <;> simp_all [fS_eq, FRes.to]

theorem opsF_le {tb : Tbl} {Y : YT} {cx : Cx} {yf : CF} (hc : CxOk tb cx) (hy : YLe tb Y yf) {l : List SI} {fr : Fr} {s : St} {r} (h : (opsF cx.cf yf l fr s).to = some r) : L tb Y (.ops l) fr s = some r := by
  rw [opsF_eq] at h
  rw [L_eq]
  exact runOps_mono hc.cf hy l fr s r h
theorem drwF_le {tb : Tbl} {Y : YT} {cx : Cx} (hc : CxOk tb cx) {al : List Nat} {l : List DI} {fr : Fr} {s : St} {r} (ha : al.all (fun d => decide (d < fr.length)) = true) (h : (drwF tb.pc cx.cf l (anyAt al fr) s).to = some r) : L tb Y (.drw al l) fr s = some r := by
  rw [drwF_eq] at h
  rw [L_eq]
  simp only [stepL, step, if_pos ha]
  cases hr : runL cx.cf tb.pc l (anyAt al fr) s with
  | none => rw [hr] at h; cases h
  | some p =>
    rw [hr] at h
    rw [runL_mono (cf' := doCall tb (L tb)) hc.cf l _ _ _ hr]
    exact h

theorem iterF_le {tb : Tbl} {Y : YT} {c : SCode} {F : Fr → St → FRes} (hF : ∀ fr s r, (F fr s).to = some r → L tb Y c fr s = some r) : ∀ (n : Nat) (fr : Fr) (s : St) (r), (iterF F n fr s).to = some r → L tb Y (.loop c) fr s = some r
  | 0, fr, s, r, h => by cases h
  | n + 1, fr, s, r, h => by
    have h : (bindN (F fr s) (iterF F n)).to = some r := h
    rw [bindN_to] at h
    rw [L_eq]
    simp only [stepL]
    cases hx : (F fr s).to with
    | none => rw [hx] at h; cases h
    | some z =>
      rw [hx] at h
      rw [hF fr s z hx]
      obtain ⟨o, fr1, s1⟩ := z
      cases o with
      | norm => exact iterF_le hF n fr1 s1 r h
      | exit i => exact h
      | ret => exact h
      | pan v => exact h

theorem toF_le {tb : Tbl} {cx : Cx} (hc : CxOk tb cx) (n : Nat) : ∀ (c : SCode) (Y : YT) (yf : CF) (fr : Fr) (s : St) (r), YLe tb Y yf → ((toF tb.pc c).run cx yf Y.1 n fr s).to = some r → L tb Y c fr s = some r
  | .skip, Y, yf, fr, s, r, hy, h => by rw [L_eq]; exact h
  | .ops l, Y, yf, fr, s, r, hy, h => opsF_le hc hy h
  | .drw al l, Y, yf, fr, s, r, hy, h => by
    cases al with
    | nil => exact drwF_le hc (al := []) rfl h
    | cons a al =>
      have h : (x_drw tb.pc (a :: al) l cx fr s).to = some r := h
      unfold x_drw at h
      split at h
      · rename_i ha
        rw [fL_eq fI_eq] at h
        exact drwF_le hc ha h
      · cases h
  | .seq a b, Y, yf, fr, s, r, hy, h => by
    have h : (bindN ((toF tb.pc a).run cx yf Y.1 n fr s) (fun fr' s' => (toF tb.pc b).run cx yf Y.1 n fr' s')).to = some r := h
    rw [bindN_to] at h
    rw [L_eq]
    simp only [stepL, step]
    cases hx : ((toF tb.pc a).run cx yf Y.1 n fr s).to with
    | none => rw [hx] at h; cases h
    | some z =>
      rw [hx] at h
      rw [toF_le hc n a Y yf fr s z hy hx]
      obtain ⟨o, fr1, s1⟩ := z
      cases o with
      | norm => exact toF_le hc n b Y yf fr1 s1 r hy h
      | exit i => exact h
      | ret => exact h
      | pan v => exact h
  | .cond c a b, Y, yf, fr, s, r, hy, h => by
    have h : (x_cond c (toF tb.pc a) (toF tb.pc b) cx yf Y.1 n fr s).to = some r := h
    unfold x_cond at h
    rw [evF_eq] at h
    rw [L_eq]
    simp only [stepL, step]
    cases hv : ev fr c with
    | bool t =>
      rw [hv] at h
      cases t with
      | true => exact toF_le hc n a Y yf fr s r hy h
      | false => exact toF_le hc n b Y yf fr s r hy h
    | _ => rw [hv] at h; cases h
  | .block id c, Y, yf, fr, s, r, hy, h => by
    have h : (bindE id ((toF tb.pc c).run cx yf Y.1 n fr s)).to = some r := h
    rw [L_eq]
    simp only [stepL, step]
    cases hx : (toF tb.pc c).run cx yf Y.1 n fr s with
    | norm fr1 s1 => rw [toF_le hc n c Y yf fr s _ hy (by rw [hx]; rfl)]; rw [hx] at h; exact h
    | ret fr1 s1 => rw [toF_le hc n c Y yf fr s _ hy (by rw [hx]; rfl)]; rw [hx] at h; exact h
    | pan v fr1 s1 => rw [toF_le hc n c Y yf fr s _ hy (by rw [hx]; rfl)]; rw [hx] at h; exact h
    | bad => rw [hx] at h; cases h
    | exit i fr1 s1 =>
      rw [toF_le hc n c Y yf fr s (.exit i, fr1, s1) hy (by rw [hx]; rfl)]
      rw [hx] at h
      have h : (bif Nat.beq i id then FRes.norm fr1 s1 else .exit i fr1 s1).to = some r := h
      cases hb : Nat.beq i id with
      | true => rw [hb] at h; simp only [if_pos (Nat.eq_of_beq_eq_true hb)]; exact h
      | false => rw [hb] at h; simp only [if_neg (Nat.ne_of_beq_eq_false hb)]; exact h
  | .loop c, Y, yf, fr, s, r, hy, h => iterF_le (fun fr s r h => toF_le hc n c Y yf fr s r hy h) n fr s r h
  | .exit id, Y, yf, fr, s, r, hy, h => by rw [L_eq]; exact h
  | .ret, Y, yf, fr, s, r, hy, h => by rw [L_eq]; exact h
  | .kl ts c, Y, yf, fr, s, r, hy, h => by
    have h : (x_kl ts (toF tb.pc c) cx yf Y.1 n fr s).to = some r := h
    unfold x_kl at h
    rw [fL_eq fI_eq] at h
    rw [L_eq]
    exact toF_le hc n c Y yf (anyAt ts fr) s r hy h
  | .range g ps a b, Y, yf, fr, s, r, hy, h => by
    have h : (x_range g ps (toF tb.pc a) (toF tb.pc b) cx Y.1 n fr s).to = some r := h
    unfold x_range at h
    rw [evF_eq] at h
    rw [L_eq]
    simp only [stepL, step]
    cases hY : Y.1 with
    | true => rw [hY] at h; cases h
    | false =>
      rw [hY] at h
      simp only [cond_false] at h
      rw [if_neg (show ¬ (false = true) by decide)]
      split at h
      · rename_i f cap hv
        rw [fNat_eq, appS_eq] at h
        split at h
        · rename_i v s'' hg
          obtain ⟨sf, h1, h2, h3, o, fr', s', h4, h5⟩ := hc.rg f _ [(s.length, a, b)] _ _ _
            (y_fn_le (fun fr s r h => toF_le hc n a (true, []) noYf fr s r noYf_le h) (fun fr s r h => toF_le hc n b (true, []) noYf fr s r noYf_le h)) hg
          simp only [hv, h1, h2, h3, h4, h5]
          rw [x_end_to] at h
          exact h
        · cases h
      · cases h

theorem finF_eq {sf : SFn} {x : FRes} {r : CR} (h : finF sf x = some r) : ∃ o fr s, x.to = some (o, fr, s) ∧ fin sf o fr s = some r := by
  cases x with
  | norm fr s => exact ⟨_, _, _, rfl, h⟩
  | ret fr s => exact ⟨_, _, _, rfl, h⟩
  | pan v fr s => exact ⟨_, _, _, rfl, h⟩
  | exit i fr s => cases h
  | bad => cases h

theorem c_st_le {tb : Tbl} {cx : Cx} (hc : CxOk tb cx) {n : Nat} {sf : SFn} {Y : List (Nat × SCode × SCode)} {yf : CF} (hy : YLe tb (false, Y) yf) {a : List AV} {s : St} {r : CR} (h : c_st sf (toF tb.pc sf.body) cx yf n a s = some r) :
    ∃ o fr' s', L tb (false, Y) sf.body (pad sf a) s = some (o, fr', s') ∧ fin sf o fr' s' = some r := by
  unfold c_st at h
  rw [fL_eq fI_eq] at h
  obtain ⟨o, fr', s', h1, h2⟩ := finF_eq h
  exact ⟨o, fr', s', toF_le hc n sf.body (false, Y) yf _ _ _ hy h1, h2⟩

theorem cxF_ok (tb : Tbl) (n : Nat) : ∀ k, CxOk tb (cxF tb n k)
  | 0 => ⟨fun _ _ _ _ h => (by cases h), fun _ _ _ _ _ _ _ h => (by cases h)⟩
  | k + 1 => by
    have ih := cxF_ok tb n k
    refine ⟨fun f a s r h => ?_, fun f yf Y a s r hy h => ?_⟩
    · have h : (fnF tb f).run (cxF tb n k) n a s = some r := h
      unfold fnF at h
      unfold D doCall
      cases h1 : tb.sprim f with
      | some p => simp only [h1] at h; exact h
      | none =>
        simp only [h1] at h ⊢
        cases h2 : tb.prim f with
        | some p => simp only [h2] at h; exact h
        | none =>
          simp only [h2] at h ⊢
          cases h3 : tb.fn f with
          | none => simp only [h3] at h; cases h
          | some sf =>
            simp only [h3] at h ⊢
            by_cases hst : sf.st = true
            · simp only [hst, if_true] at h ⊢
              obtain ⟨o, fr', s', h4, h5⟩ := c_st_le ih noYf_le (Y := []) h
              rw [h4]; exact h5
            · simp only [hst] at h ⊢
              have h : c_pure sf (toF tb.pc sf.body) (cxF tb n k) n a s = some r := h
              unfold c_pure at h
              cases ha : chainO (frzN s frzDepth) a with
              | none => rw [ha] at h; cases h
              | some a' =>
                rw [ha] at h
                simp only at h ⊢
                cases hb : c_st sf (toF tb.pc sf.body) (cxF tb n k) noYf n a' [] with
                | none => rw [hb] at h; cases h
                | some r' =>
                  rw [hb] at h
                  obtain ⟨o, fr', s', h4, h5⟩ := c_st_le ih noYf_le (Y := []) hb
                  simp only [Bool.false_eq_true, if_false, h4, h5]
                  exact h
    · have h : (fnF tb f).rng (cxF tb n k) n yf a s = some r := h
      unfold fnF at h
      cases h1 : tb.sprim f with
      | some p => simp only [h1] at h; cases h
      | none =>
        simp only [h1] at h
        cases h2 : tb.prim f with
        | some p => simp only [h2] at h; cases h
        | none =>
          simp only [h2] at h
          cases h3 : tb.fn f with
          | none => simp only [h3] at h; cases h
          | some sf =>
            simp only [h3] at h
            refine ⟨sf, rfl, rfl, rfl, ?_⟩
            by_cases hst : sf.st = true
            · simp only [hst, if_true] at h
              exact c_st_le ih hy h
            · simp only [hst] at h
              exact c_st_le ih hy h

/-- A run in the kernel. -/
theorem D_run {tb : Tbl} (n k : Nat) {f : Nat} {a : List AV} {s : St} {r : CR} (h : (fnF tb f).run (cxF tb n k) n a s = some r) : D tb f a s = some r :=
  (cxF_ok tb n (k + 1)).cf f a s r h
end
end Go.Ab
