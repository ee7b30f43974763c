import Derived.Calls
import Derived.Orders
import Derived.LoopN
import Derived.Below
import Derived.Laws.AppendOwn
namespace Go.Ab

/-- Abstract values. -/
inductive AV where
  | any
  | bool (b : Bool)
  | int (k : IntKind) (n : Int)
  | str (s : List UInt8)
  | nilp
  | ptr (r off : Nat)
  | eptr (r n i off : Nat)
  | row (cells : List AV)
  | sl (rows : List (List AV))
  | nils
  | own (r n : Nat)
  | agg (cells : List AV)
  | tup (vs : List AV)
  | fn (f : Nat) (first captured : List AV)
  | yld (r : Nat)
  | nilf
  | ifc (t : Nat) (v : AV)
  | nili
  deriving Inhabited

abbrev Fr := List AV

inductive ABlk where
  | box (cells : List AV)
  | row (e sz byt : Nat) (rows : List (List AV))
  | loop (st : Nat) (pend : Option (Option Nat)) (fr : List AV) (ps : List Nat)
  | gone

abbrev St := List ABlk

inductive X where
  | t (n : Nat)
  | c (v : AV)

def ev (fr : Fr) : X → AV
  | .t n => fr.getD n .any
  | .c v => v

inductive SOp where
  | mov (x : X)
  | pick (c a b : X)
  | alloc (z : List AV)
  | box (x : X)
  | build (z : List AV) (parts : List (Nat × Nat × X))
  | lit (z : List AV) (n : Nat) (parts : List (Nat × X))
  | litOwn (e sz byt : Nat) (z : List AV) (n : Nat) (parts : List (Nat × X))
  | load (n : Option Nat) (a : X)
  | loadAt (c : X) (n : Option Nat) (a : X)
  | store (n : Nat) (a x : X)
  | chk (x : X)
  | bin (op : BinOp) (x y : X)
  | beq (neg : Bool) (x y : X)
  | isNil (neg : Bool) (x : X)
  | eqs (neg : Bool) (ks : List Nat) (x y : X)
  | un (op : UnOp) (x : X)
  | conv (k : IntKind) (x : X)
  | convS (x : X)
  | bytes (x : X)
  | strOf (x : X)
  | mkif (t : Nat) (x : X)
  | mkfn (f : Nat) (first captured : List X)
  | mkslice (e sz byt : Nat) (z : List AV) (l c : X)
  | slice (sz : Nat) (x : X) (lo hi : Option X)
  | faddr (off : Nat) (x : X)
  | fld (off : Nat) (n : Option Nat) (x : X)
  | iaddr (sz : Nat) (x i : X)
  | iaddrA (len sz : Nat) (x i : X)
  | idxS (x i : X)
  | idxA (len sz : Nat) (n : Option Nat) (x i : X)
  | ext (x : X) (i : Nat)
  | len (str : Bool) (x : X)
  | minmax (mx : Bool) (x : X) (xs : List X)
  | append (e sz byt : Nat) (x y : X)
  | appendS (e byt : Nat) (x y : X)

inductive SJ where
  | op (o : SOp)
  | call (f : Nat) (args : List X)
  | callv (f : X) (args : List X)
  | panic (x : X)

structure SI where
  d : Option Nat
  g : Option (Nat × Bool)
  o : SJ

/-- An instruction of a region that draws its order: by its number; class 0: it asks nothing of the state, 1: it only reads (what the variables at h hold is hidden from it), 2: it writes; or a new variable that is filled at once. -/
inductive DI where
  | ins (i cls : Nat) (h : List Nat) (si : SI)
  | fz (i ia d n : Nat) (x : X)

inductive SCode where
  | skip
  | ops (l : List SI)
  | drw (al : List Nat) (l : List DI)
  | seq (a b : SCode)
  | cond (c : X) (a b : SCode)
  | block (id : Nat) (c : SCode)
  | loop (c : SCode)
  | exit (id : Nat)
  | ret
  | kl (ts : List Nat) (c : SCode)
  | range (g : X) (ps : List Nat) (asg body : SCode)

/-- Without the words on what is to be forgotten. -/
def SCode.strip : SCode → SCode
  | .skip => .skip
  | .ops l => .ops l
  | .drw al l => .drw al l
  | .seq a b => .seq a.strip b.strip
  | .cond c a b => .cond c a.strip b.strip
  | .block id c => .block id c.strip
  | .loop c => .loop c.strip
  | .exit id => .exit id
  | .ret => .ret
  | .kl _ c => c.strip
  | .range g ps a b => .range g ps a.strip b.strip

inductive RV where
  | tmp (t : Nat)
  | cell (t : Nat) (n : Option Nat)

structure SFn where
  ntmps : Nat
  res : List RV
  st : Bool
  body : SCode

/-! ### operations -/
def AV.cells? : AV → Option (List AV)
  | .agg cs => some cs
  | .any => none
  | .tup _ => none
  | v => some [v]

def pickC (cells : List AV) (off : Nat) : Option Nat → Option AV
  | none => match cells[off]? with
    | some .any => none
    | some v => some v
    | none => none
  | some n => if off + n ≤ cells.length then some (.agg ((cells.drop off).take n)) else none

def splice (l : List AV) (off : Nat) (cs : List AV) : List AV := l.take off ++ (cs ++ l.drop (off + cs.length))

def fillP (ev : X → AV) : List AV → List (Nat × Nat × X) → Option (List AV)
  | z, [] => some z
  | z, (off, sz, x) :: r => match (ev x).cells? with
    | some cs => if cs.length = sz ∧ off + sz ≤ z.length then fillP ev (splice z off cs) r else none
    | none => none

/-- The rows of a literal: each part is a whole element. -/
def fillR (ev : X → AV) (sz : Nat) : List (List AV) → List (Nat × X) → Option (List (List AV))
  | z, [] => some z
  | z, (i, x) :: r => match (ev x).cells? with
    | some cs => if cs.length = sz ∧ i < z.length then fillR ev sz (z.set i cs) r else none
    | none => none

def loadA (s : St) (n : Option Nat) : AV → Option AV
  | .ptr r off => match s[r]? with
    | some (.box cells) => pickC cells off n
    | _ => none
  | .eptr r m i off => match s[r]? with
    | some (.row _ _ _ rows) => if m = rows.length then match rows[i]? with
      | some c => pickC c off n
      | none => none else none
    | _ => none
  | .row cells => pickC cells 0 n
  | _ => none

def storeA (s : St) (n : Nat) (a x : AV) : Option St :=
  match x.cells? with
  | none => none
  | some cs => if cs.length = n then
      match a with
      | .ptr r off => match s[r]? with
        | some (.box cells) => if off + n ≤ cells.length then some (s.set r (.box (splice cells off cs))) else none
        | _ => none
      | .eptr r m i off => match s[r]? with
        | some (.row e sz byt rows) => if m = rows.length then match rows[i]? with
          | some c => if off + n ≤ c.length then some (s.set r (.row e sz byt (rows.set i (splice c off cs)))) else none
          | none => none else none
        | _ => none
      | _ => none
    else none

def binInt (op : BinOp) (k : IntKind) (x y : Int) : Option AV :=
  match op with
  | .add => some (.int k (k.wrap (x + y)))
  | .sub => some (.int k (k.wrap (x - y)))
  | .mul => some (.int k (k.wrap (x * y)))
  | .quo => if y = 0 then none else some (.int k (k.wrap (x.tdiv y)))
  | .rem => if y = 0 then none else some (.int k (x.tmod y))
  | .and => some (.int k (k.wrap ((BitVec.ofInt k.bits x &&& BitVec.ofInt k.bits y).toNat)))
  | .or => some (.int k (k.wrap ((BitVec.ofInt k.bits x ||| BitVec.ofInt k.bits y).toNat)))
  | .xor => some (.int k (k.wrap ((BitVec.ofInt k.bits x ^^^ BitVec.ofInt k.bits y).toNat)))
  | .andNot => some (.int k (k.wrap ((BitVec.ofInt k.bits x &&& ~~~ BitVec.ofInt k.bits y).toNat)))
  | .eql => some (.bool (x == y))
  | .neq => some (.bool (x != y))
  | .lss => some (.bool (decide (x < y)))
  | .leq => some (.bool (decide (x ≤ y)))
  | .gtr => some (.bool (decide (y < x)))
  | .geq => some (.bool (decide (y ≤ x)))
  | _ => none

def shiftInt (op : BinOp) (k : IntKind) (x y : Int) : Option AV :=
  if y < 0 then none else
  match op with
  | .shl => some (.int k (k.wrap (x * 2 ^ (min y.toNat k.bits))))
  | .shr => some (.int k (x.fdiv (2 ^ (min y.toNat k.bits))))
  | _ => none

def strBound : Nat := 9223372036854775807
def binStr (op : BinOp) (x y : List UInt8) : Option AV :=
  match op with
  | .add => if x.length + y.length ≤ strBound then some (.str (x ++ y)) else none
  | .eql => some (.bool (x == y))
  | .neq => some (.bool (!(x == y)))
  | .lss => some (.bool (Op.bytesLess x y))
  | .leq => some (.bool (Op.bytesLess x y || x == y))
  | .gtr => some (.bool (!(Op.bytesLess x y || x == y)))
  | .geq => some (.bool (!(Op.bytesLess x y)))
  | _ => none

def isNilV : AV → Option Bool
  | .nilp => some true
  | .ptr _ _ => some false
  | .row _ => some false
  | _ => none

def isShift : BinOp → Bool
  | .shl => true
  | .shr => true
  | _ => false

def binA (op : BinOp) : AV → AV → Option AV
  | .int k x, .int k' y => if isShift op then shiftInt op k x y else if k = k' then binInt op k x y else none
  | .str x, .str y => binStr op x y
  | _, _ => none

/-- Cells of scalars are equal; 0: truth values, 1: numbers, 2: texts. -/
def eqCell : Nat → AV → AV → Option Bool
  | 0, .bool x, .bool y => some (x == y)
  | 1, .int k x, .int k' y => if k = k' then some (x == y) else none
  | 2, .str x, .str y => some (x == y)
  | _, _, _ => none

def eqCells : List Nat → List AV → List AV → Option Bool
  | [], _, _ => some true
  | k :: ks, x :: xs, y :: ys => match eqCell k x y, eqCells ks xs ys with
    | some a, some b => some (a && b)
    | _, _ => none
  | _, _, _ => none

def unA : UnOp → AV → Option AV
  | .not, .bool b => some (.bool (!b))
  | .neg, .int k n => some (.int k (k.wrap (0 - n)))
  | .xor, .int k n => binInt .xor k (if k.signed then -1 else k.max) n
  | _, _ => none

def lenA (s : St) : AV → Option Nat
  | .str b => some b.length
  | .sl rows => some rows.length
  | .nils => some 0
  | .own r n => match s[r]? with
    | some (.row _ _ _ rows) => if n = rows.length then some n else none
    | _ => none
  | _ => none

def bound? (ev : X → AV) (d : Nat) : Option X → Option Nat
  | none => some d
  | some x => match ev x with
    | .int _ n => if 0 ≤ n then some n.toNat else none
    | _ => none

def rowsSz (sz : Nat) (rows : List (List AV)) : Bool := rows.all fun r => r.length == sz

def sliceA (s : St) (sz lo hi : Nat) (toEnd : Bool) : AV → Option (AV × St)
  | .str b => if sz = 0 ∧ lo ≤ hi ∧ hi ≤ b.length then some (.str ((b.take hi).drop lo), s) else none
  | .sl rows => if 0 < sz ∧ lo ≤ hi ∧ hi ≤ rows.length ∧ rowsSz sz rows then some (.sl ((rows.take hi).drop lo), s) else none
  | .nils => if 0 < sz ∧ lo = 0 ∧ hi = 0 then some (.nils, s) else none
  | .own r n => match s[r]? with
    | some (.row e sz' byt rows) =>
      if 0 < sz ∧ n = rows.length ∧ lo ≤ hi ∧ hi ≤ n ∧ sz = sz' then
        if lo = 0 ∧ !toEnd then some (.own s.length hi, s.set r .gone ++ [.row e sz byt (rows.take hi)])
        else some (.sl ((rows.take hi).drop lo), s.set r .gone)
      else none
    | _ => none
  | _ => none

def rowsOf (s : St) : AV → Option (List (List AV))
  | .sl rows => some rows
  | .nils => some []
  | .own r n => match s[r]? with
    | some (.row _ _ _ rows) => if n = rows.length then some rows else none
    | _ => none
  | _ => none

def roomOk (n byt : Nat) : Bool := decide (n * byt ≤ 140737488355328) && decide (n ≤ 140737488355328)

def appendA (s : St) (e sz byt : Nat) (x : AV) (news : List (List AV)) : Option (AV × St) :=
  if rowsSz sz news then
    match x with
    | .nils => if roomOk news.length byt then
        (match news with
        | [] => some (.nils, s)
        | _ => some (.own s.length news.length, s ++ [.row e sz byt news]))
      else none
    | .own r n => match s[r]? with
      | some (.row e' sz' byt' rows) =>
        if n = rows.length ∧ e = e' ∧ sz = sz' ∧ byt = byt' ∧ roomOk (n + news.length) byt then
          some (.own r (n + news.length), s.set r (.row e sz byt (rows ++ news)))
        else none
      | _ => none
    | _ => none
  else none

def evs (ev : X → AV) (l : List X) : List AV := l.map ev

def minmaxA (mx : Bool) : AV → List AV → Option AV
  | x, [] => some x
  | .int k x, .int k' y :: r => if k = k' then minmaxA mx (.int k (if mx then (if y > x then y else x) else (if y < x then y else x))) r else none
  | _, _ => none

def sop1 (o : SOp) (ev : X → AV) (s : St) : Option (AV × St) :=
  match o with
  | .mov x => some (ev x, s)
  | .pick c a b => match ev c with
    | .bool t => some (if t then ev a else ev b, s)
    | _ => none
  | .alloc z => some (.ptr s.length 0, s ++ [.box z])
  | .box x => match (ev x).cells? with
    | some cs => some (.ptr s.length 0, s ++ [.box cs])
    | none => none
  | .build z parts => match fillP ev z parts with
    | some cs => some (.agg cs, s)
    | none => none
  | .lit z n parts => match fillR ev z.length (List.replicate n z) parts with
    | some rows => some (.sl rows, s)
    | none => none
  | .litOwn e sz byt z n parts => match fillR ev sz (List.replicate n z) parts with
    | some rows => some (.own s.length n, s ++ [.row e sz byt rows])
    | none => none
  | .load n a => match loadA s n (ev a) with
    | some v => some (v, s)
    | none => none
  | .loadAt c n a => match ev c, ev a with
    | .ptr k _, .ptr k' off => if k = k' then match loadA s n (.ptr k' off) with
      | some v => some (v, s)
      | none => none else none
    | .row _, .row cs => match pickC cs 0 n with
      | some v => some (v, s)
      | none => none
    | _, _ => none
  | .store n a x => match storeA s n (ev a) (ev x) with
    | some s' => some (.tup [], s')
    | none => none
  | .chk x => match ev x with
    | .ptr r o => some (.ptr r o, s)
    | .eptr r n i o => some (.eptr r n i o, s)
    | .row c => some (.row c, s)
    | .fn f a b => some (.fn f a b, s)
    | _ => none
  | .bin op x y => match binA op (ev x) (ev y) with
    | some v => some (v, s)
    | none => none
  | .beq neg x y => match ev x, ev y with
    | .bool a, .bool b => some (.bool (if neg then !(a == b) else a == b), s)
    | _, _ => none
  | .isNil neg x => match isNilV (ev x) with
    | some b => some (.bool (if neg then !b else b), s)
    | none => none
  | .eqs neg ks x y => match ev x, ev y with
    | .agg a, .agg b => match eqCells ks a b with
      | some t => some (.bool (if neg then !t else t), s)
      | none => none
    | _, _ => none
  | .un op x => match unA op (ev x) with
    | some v => some (v, s)
    | none => none
  | .conv k x => match ev x with
    | .int _ n => some (.int k (k.wrap n), s)
    | _ => none
  | .convS x => match ev x with
    | .str b => some (.str b, s)
    | _ => none
  | .bytes x => match ev x with
    | .str b => some (.sl (b.map fun c => [.int .u8 c.toNat]), s)
    | _ => none
  | .strOf x => match rowsOf s (ev x) with
    | some rows => match rows.mapM (fun | [.int .u8 n] => some (UInt8.ofNat n.toNat) | _ => none) with
      | some b => some (.str b, s)
      | none => none
    | none => none
  | .mkif t x => match ev x with
    | .any => none
    | v => some (.ifc t v, s)
  | .mkfn f a b => some (.fn f (evs ev a) (evs ev b), s)
  | .mkslice e sz byt z l c => match ev l, ev c with
    | .int _ n, .int _ m => if n = m ∧ 0 ≤ n ∧ z.length = sz ∧ roomOk n.toNat byt then
        some (.own s.length n.toNat, s ++ [.row e sz byt (List.replicate n.toNat z)]) else none
    | _, _ => none
  | .slice sz x lo hi => match lenA s (ev x) with
    | some n => match bound? ev 0 lo, bound? ev n hi with
      | some l, some h => sliceA s sz l h hi.isNone (ev x)
      | _, _ => none
    | none => none
  | .faddr off x => match ev x with
    | .ptr r o => some (.ptr r (o + off), s)
    | .eptr r n i o => some (.eptr r n i (o + off), s)
    | .row c => some (.row (c.drop off), s)
    | _ => none
  | .fld off n x => match ev x with
    | .agg c => match pickC c off n with
      | some v => some (v, s)
      | none => none
    | _ => none
  | .iaddr sz x i => match ev i with
    | .int _ k => if 0 ≤ k then match ev x with
      | .sl rows => match rows[k.toNat]? with
        | some r => if r.length = sz then some (.row r, s) else none
        | none => none
      | .own r n => match s[r]? with
        | some (.row _ sz' _ rows) => if n = rows.length ∧ k < n ∧ sz = sz' then some (.eptr r n k.toNat 0, s) else none
        | _ => none
      | _ => none else none
    | _ => none
  | .iaddrA len sz x i => match ev i with
    | .int _ k => if 0 ≤ k ∧ k < len then match ev x with
      | .ptr r o => some (.ptr r (o + k.toNat * sz), s)
      | .row c => some (.row (c.drop (k.toNat * sz)), s)
      | _ => none else none
    | _ => none
  | .idxS x i => match ev x, ev i with
    | .str b, .int _ k => if 0 ≤ k then match b[k.toNat]? with
      | some c => some (.int .u8 c.toNat, s)
      | none => none else none
    | _, _ => none
  | .idxA len sz n x i => match ev x, ev i with
    | .agg c, .int _ k => if 0 ≤ k ∧ k < len then match pickC c (k.toNat * sz) n with
      | some v => some (v, s)
      | none => none else none
    | _, _ => none
  | .ext x i => match ev x with
    | .tup vs => match vs[i]? with
      | some v => some (v, s)
      | none => none
    | _ => none
  | .len true x => match ev x with
    | .str b => some (.int .i64 b.length, s)
    | _ => none
  | .len false x => match ev x with
    | .str _ => none
    | v => match lenA s v with
      | some n => some (.int .i64 n, s)
      | none => none
  | .minmax mx x xs => match minmaxA mx (ev x) (evs ev xs) with
    | some v => some (v, s)
    | none => none
  | .append e sz byt x y => match rowsOf s (ev y) with
    | some news => appendA s e sz byt (ev x) news
    | none => none
  | .appendS e byt x y => match ev y with
    | .str b => appendA s e 1 byt (ev x) (b.map fun c => [.int .u8 c.toNat])
    | _ => none

/-! ### frozen copies: what a callee that writes nothing of ours sees; what comes back -/
def chainO {α β : Type} (f : α → Option β) : List α → Option (List β)
  | [] => some []
  | x :: r => match f x with
    | some y => match chainO f r with
      | some l => some (y :: l)
      | none => none
    | none => none

mutual
def frzV (s : St) (J : AV → Option AV) : AV → Option AV
  | .ptr r off => match s[r]? with
    | some (.box cells) => (chainO J (cells.drop off)).map .row
    | _ => none
  | .eptr r n i off => match s[r]? with
    | some (.row _ _ _ rows) => if n = rows.length then match rows[i]? with
      | some c => (chainO J (c.drop off)).map .row
      | none => none else none
    | _ => none
  | .own r n => match s[r]? with
    | some (.row _ _ _ rows) => if n = rows.length then (chainO (chainO J) rows).map .sl else none
    | _ => none
  | .nils => some (.sl [])
  | .row cs => (frzL s J cs).map .row
  | .sl rows => (frzR s J rows).map .sl
  | .agg cs => (frzL s J cs).map .agg
  | .tup cs => (frzL s J cs).map .tup
  | .fn f a b => match frzL s J a, frzL s J b with
    | some a, some b => some (.fn f a b)
    | _, _ => none
  | .yld _ => none
  | .ifc t v => (frzV s J v).map (.ifc t)
  | .any => some .any
  | .bool b => some (.bool b)
  | .int k n => some (.int k n)
  | .str b => some (.str b)
  | .nilp => some .nilp
  | .nilf => some .nilf
  | .nili => some .nili
def frzL (s : St) (J : AV → Option AV) : List AV → Option (List AV)
  | [] => some []
  | x :: r => match frzV s J x, frzL s J r with
    | some x, some r => some (x :: r)
    | _, _ => none
def frzR (s : St) (J : AV → Option AV) : List (List AV) → Option (List (List AV))
  | [] => some []
  | x :: r => match frzL s J x, frzR s J r with
    | some x, some r => some (x :: r)
    | _, _ => none
end
def frzN (s : St) : Nat → AV → Option AV
  | 0 => fun _ => none
  | d + 1 => frzV s (frzN s d)

mutual
/-- Nothing in it leads into the state. -/
def free : AV → Bool
  | .ptr _ _ => false
  | .eptr _ _ _ _ => false
  | .own _ _ => false
  | .nils => false
  | .row cs => freeL cs
  | .sl rows => freeR rows
  | .agg cs => freeL cs
  | .tup cs => freeL cs
  | .fn _ a b => freeL a && freeL b
  | .yld _ => false
  | .ifc _ v => free v
  | .any => true
  | .bool _ => true
  | .int _ _ => true
  | .str _ => true
  | .nilp => true
  | .nilf => true
  | .nili => true
def freeL : List AV → Bool
  | [] => true
  | x :: r => free x && freeL r
def freeR : List (List AV) → Bool
  | [] => true
  | x :: r => freeL x && freeR r
end

mutual
/-- No reference into the state. -/
def noRef : AV → Bool
  | .ptr _ _ => false
  | .eptr _ _ _ _ => false
  | .own _ _ => false
  | .nils => true
  | .row cs => noRefL cs
  | .sl rows => noRefR rows
  | .agg cs => noRefL cs
  | .tup cs => noRefL cs
  | .fn _ a b => noRefL a && noRefL b
  | .yld _ => false
  | .ifc _ v => noRef v
  | .any => true
  | .bool _ => true
  | .int _ _ => true
  | .str _ => true
  | .nilp => true
  | .nilf => true
  | .nili => true
def noRefL : List AV → Bool
  | [] => true
  | x :: r => noRef x && noRefL r
def noRefR : List (List AV) → Bool
  | [] => true
  | x :: r => noRefL x && noRefR r
end

mutual
/-- It leads nowhere into memory. -/
def flat : AV → Bool
  | .bool _ => true
  | .int _ _ => true
  | .str _ => true
  | .nilp => true
  | .nilf => true
  | .nili => true
  | .agg cs => flatL cs
  | .tup cs => flatL cs
  | .ifc _ v => flat v
  | .any => true
  | .ptr _ _ => false
  | .eptr _ _ _ _ => false
  | .own _ _ => false
  | .nils => true
  | .row _ => false
  | .sl rows => rows.isEmpty
  | .fn _ _ _ => false
  | .yld _ => false
def flatL : List AV → Bool
  | [] => true
  | x :: r => flat x && flatL r
end

/-! ### running -/
inductive Out where
  | norm
  | exit (id : Nat)
  | ret
  | pan (v : AV)

inductive CR where
  | ret (v : AV) (s : St)
  | pan (v : AV) (s : St)

structure Tbl where
  fn : Nat → Option SFn
  prim : Nat → Option (List AV → Option AV)
  sprim : Nat → Option (List AV → St → Option CR)

/-- A call of it leaves the state as it is. -/
def Tbl.pc (tb : Tbl) (f : Nat) : Bool :=
  match tb.sprim f with
  | some _ => false
  | none => match tb.prim f with
    | some _ => true
    | none => match tb.fn f with
      | some sf => !sf.st
      | none => false

abbrev Res := Option (Out × Fr × St)

def put (fr : Fr) (d : Option Nat) (v : AV) : Fr :=
  match d with
  | some n => fr.set n v
  | none => fr

def wanted (fr : Fr) : Option (Nat × Bool) → Option Bool
  | none => some true
  | some (t, b) => match fr.getD t .any with
    | .bool c => some (c == b)
    | .tup _ => some false
    | _ => none

def runOps (cf yf : Nat → List AV → St → Option CR) : List SI → Fr → St → Res
  | [], fr, s => some (.norm, fr, s)
  | i :: l, fr, s =>
    match wanted fr i.g with
    | none => none
    | some false => runOps cf yf l (put fr i.d (.tup [])) s
    | some true =>
      match i.o with
      | .call f args => match cf f (evs (ev fr) args) s with
        | some (.ret v s') => runOps cf yf l (put fr i.d v) s'
        | some (.pan v s') => some (.pan v, fr, s')
        | none => none
      | .callv f args => match ev fr f with
        | .fn n first cap => match cf n (first ++ (evs (ev fr) args ++ cap)) s with
          | some (.ret v s') => runOps cf yf l (put fr i.d v) s'
          | some (.pan v s') => some (.pan v, fr, s')
          | none => none
        | .yld r => match yf r (evs (ev fr) args) s with
          | some (.ret v s') => runOps cf yf l (put fr i.d v) s'
          | _ => none
        | _ => none
      | .panic x => match ev fr x with
        | .ifc t v => some (.pan (.ifc t v), fr, s)
        | _ => none
      | .op o => match sop1 o (ev fr) s with
        | some (v, s') => runOps cf yf l (put fr i.d v) s'
        | none => none

def resOf (fr : Fr) (s : St) : RV → Option AV
  | .tmp t => fr[t]?
  | .cell t n => loadA s n (fr.getD t .any)

def resA (res : List RV) (fr : Fr) (s : St) : Option AV :=
  match chainO (resOf fr s) res with
  | some [v] => some v
  | some vs => some (.tup vs)
  | none => none

def fin (sf : SFn) (o : Out) (fr : Fr) (s : St) : Option CR :=
  match o with
  | .pan v => some (.pan v s)
  | .exit _ => none
  | _ => match resA sf.res fr s with
    | some v => some (.ret v s)
    | none => none

def pad (sf : SFn) (args : List AV) : Fr := args ++ List.replicate (sf.ntmps - args.length) (.tup [])

def frzDepth : Nat := 6

/-- What a call that writes nothing of its caller's hands back. -/
def back (args : List AV) (s : St) : CR → Option CR
  | .ret v s' => match frzN s' frzDepth v with
    | some v' => if noRefL args || flat v' then some (.ret v' s) else none
    | none => none
  | .pan v s' => match frzN s' frzDepth v with
    | some v' => if noRefL args || flat v' then some (.pan v' s) else none
    | none => none

/-- Are we in a round; and which code the yield of a state's block runs. -/
abbrev YT := Bool × List (Nat × SCode × SCode)

def doCall (tb : Tbl) (R : YT → SCode → Fr → St → Res) (f : Nat) (args : List AV) (s : St) : Option CR :=
  match tb.sprim f with
  | some p => p args s
  | none => match tb.prim f with
  | some p => match chainO (frzN s frzDepth) args with
    | some args' => match p args' with
      | some v => if flat v then some (.ret v s) else none
      | none => none
    | none => none
  | none => match tb.fn f with
    | none => none
    | some sf =>
      if sf.st then
        match R (false, []) sf.body (pad sf args) s with
        | some (o, fr', s') => fin sf o fr' s'
        | none => none
      else
        match chainO (frzN s frzDepth) args with
        | none => none
        | some args' => match R (false, []) sf.body (pad sf args') [] with
          | some (o, fr', s') => match fin sf o fr' s' with
            | some r => back args s r
            | none => none
          | none => none

def setL : Fr → List Nat → List AV → Fr
  | fr, t :: ts, v :: vs => setL (fr.set t v) ts vs
  | fr, _, _ => fr

/-- A round of a range over a function: the loop's own code, on the temporaries that the loop began with. -/
def yieldA (R : YT → SCode → Fr → St → Res) (Y : YT) (r : Nat) (args : List AV) (s : St) : Option CR :=
  match Y.2.lookup r, s[r]? with
  | some (asg, body), some (.loop 0 none fr ps) => if ps.length = args.length then
      match R (true, []) asg (setL fr ps args) s with
      | some (.norm, fr1, s1) => match s1[r]? with
        | some (.loop 0 none fr0 ps0) => match R (true, []) body fr1 (s1.set r (.loop 1 none fr0 ps0)) with
          | some (o, _, s2) => match s2[r]? with
            | some (.loop 1 none fr2 ps2) => match o with
              | .norm => some (.ret (.bool true) (s2.set r (.loop 0 none fr2 ps2)))
              | .ret => some (.ret (.bool false) (s2.set r (.loop 2 (some none) fr2 ps2)))
              | .exit id => some (.ret (.bool false) (s2.set r (.loop 2 (some (some id)) fr2 ps2)))
              | .pan _ => none
            | _ => none
          | none => none
        | _ => none
      | _ => none
    else none
  | _, _ => none

/-- The state without what these variables point to. -/
def hid (fr : Fr) : List Nat → St → Option St
  | [], s => some s
  | a :: r, s => match fr.getD a .any with
    | .ptr k _ => match s[k]? with
      | some (.row _ _ _ _) => none
      | some (.loop _ _ _ _) => none
      | some _ => hid fr r (s.set k .gone)
      | none => none
    | _ => none

/-- What was hidden is put back. -/
def rst (fr : Fr) : List Nat → St → St → St
  | [], _, s1 => s1
  | a :: r, s, s1 => match fr.getD a .any with
    | .ptr k _ => match s[k]? with
      | some b => rst fr r s (s1.set k b)
      | none => rst fr r s s1
    | _ => rst fr r s s1

/-- Its value, and the state behind it. -/
def evl0 (cf : Nat → List AV → St → Option CR) (pc : Nat → Bool) (cls : Nat) (si : SI) (fr : Fr) (s : St) : Option (AV × St) :=
  match wanted fr si.g with
    | none => none
    | some false => some (.tup [], s)
    | some true => match si.o with
      | .op o => sop1 o (ev fr) s
      | .call f args => if cls < 2 && !pc f then none else match cf f (evs (ev fr) args) s with
        | some (.ret v s') => some (v, s')
        | _ => none
      | .callv f args => match ev fr f with
        | .fn n first cap => if cls < 2 && !pc n then none else match cf n (first ++ (evs (ev fr) args ++ cap)) s with
          | some (.ret v s') => some (v, s')
          | _ => none
        | _ => none
      | .panic _ => none
def evl1 (cf : Nat → List AV → St → Option CR) (pc : Nat → Bool) : DI → Fr → St → Option (AV × St)
  | .ins _ cls h si, fr, s => match hid fr h s with
    | none => none
    | some s0 => match evl0 cf pc cls si fr s0 with
      | some (v, s1) => match h with
        | [] => some (v, s1)
        | _ :: _ => if cls ≤ 1 then some (v, s) else if s.length ≤ s1.length then some (v, rst fr h s s1) else none
      | none => none
  | .fz _ _ _ n x, fr, s => match (ev fr x).cells? with
    | some cs => if cs.length = n then some (.ptr s.length 0, s ++ [.box cs]) else none
    | none => none
def DI.dst : DI → Option Nat
  | .ins _ _ _ si => si.d
  | .fz _ _ d _ _ => some d
def exec1 (cf : Nat → List AV → St → Option CR) (pc : Nat → Bool) (x : DI) (fr : Fr) (s : St) : Option (Fr × St) :=
  match evl1 cf pc x fr s with
  | some (v, s') => some (put fr x.dst v, s')
  | none => none

def runL (cf : Nat → List AV → St → Option CR) (pc : Nat → Bool) : List DI → Fr → St → Option (Fr × St)
  | [], fr, s => some (fr, s)
  | x :: l, fr, s => match exec1 cf pc x fr s with
    | some (fr', s') => runL cf pc l fr' s'
    | none => none

def anyAt : List Nat → Fr → Fr
  | [], fr => fr
  | t :: l, fr => anyAt l (fr.set t .any)

def iter (F : Fr → St → Res) : Nat → Fr → St → Res
  | 0, _, _ => none
  | n + 1, fr, s => match F fr s with
    | some (.norm, fr', s') => iter F n fr' s'
    | r => r

/-- Behind a range over a function: the jump that a round has left. -/
def endLoopA (r : Nat) (fr : Fr) (s : St) : Res :=
  match s[r]? with
  | some (.loop 0 none _ _) => some (.norm, fr, s.set r .gone)
  | some (.loop 2 (some none) _ _) => some (.ret, fr, s.set r .gone)
  | some (.loop 2 (some (some id)) _ _) => some (.exit id, fr, s.set r .gone)
  | _ => none

def step (tb : Tbl) (k : Nat) (R : YT → SCode → Fr → St → Res) (Y : YT) : SCode → Fr → St → Res
  | .skip, fr, s => some (.norm, fr, s)
  | .ops l, fr, s => runOps (doCall tb R) (yieldA R Y) l fr s
  | .drw al l, fr, s => if al.all (fun d => decide (d < fr.length)) then match runL (doCall tb R) tb.pc l (anyAt al fr) s with
    | some (fr', s') => some (.norm, fr', s')
    | none => none else none
  | .seq a b, fr, s => match R Y a fr s with
    | some (.norm, fr', s') => R Y b fr' s'
    | r => r
  | .cond c a b, fr, s => match ev fr c with
    | .bool t => if t then R Y a fr s else R Y b fr s
    | _ => none
  | .block id c, fr, s => match R Y c fr s with
    | some (.exit i, fr', s') => if i = id then some (.norm, fr', s') else some (.exit i, fr', s')
    | r => r
  | .loop c, fr, s => iter (R Y c) k fr s
  | .exit id, fr, s => some (.exit id, fr, s)
  | .ret, fr, s => some (.ret, fr, s)
  | .kl ts c, fr, s => R Y c (anyAt ts fr) s
  | .range g ps asg body, fr, s => if Y.1 then none else match ev fr g with
    | .fn n [] cap => match tb.sprim n, tb.prim n, tb.fn n with
      | none, none, some sf => match R (false, [(s.length, asg, body)]) sf.body (pad sf (.yld s.length :: cap)) (s ++ [.loop 0 none fr ps]) with
        | some (o, fr', s') => match fin sf o fr' s' with
          | some (.ret _ s'') => endLoopA s.length fr s''
          | _ => none
        | none => none
      | _, _, _ => none
    | _ => none

def run (tb : Tbl) : Nat → YT → SCode → Fr → St → Res
  | 0 => fun _ _ _ _ => none
  | k + 1 => fun Y => step tb k (run tb k) Y

end Go.Ab
