/- How a function's run is reckoned by 'simp': from its code to what it answers. -/
import Derived.Test.YtpplmjjmdnfpgaaGreatXAbY
set_option linter.unusedVariables false
namespace Go.Ab
theorem bodyR_of_D {tb : Tbl} {f : Nat} {sf : SFn} (h : Plain tb f sf) {a : List AV} {v : AV} (ha : freeL a = true) (hd : D tb f a [] = some (.ret v [])) : (bodyR tb sf a).bind frzR1 = some v := by
  rw [D_body h (chainO_free ha)] at hd
  cases hr : bodyR tb sf a with
  | none => rw [hr] at hd; cases hd
  | some cr =>
    rw [hr] at hd
    cases cr with
    | pan w s' =>
      simp only [Option.bind_some, back] at hd
      split at hd
      · split at hd <;> cases hd
      · cases hd
    | ret w s' =>
      simp only [Option.bind_some, back] at hd
      split at hd
      · rename_i v' hv
        split at hd
        · injection hd with hd; injection hd with h1 h2; subst h1; exact hv
        · cases hd
      · cases hd
theorem Fn.of_D {tb : Tbl} {f : Nat} {sf : SFn} (h : Plain tb f sf) {a : List AV} {v : AV} (ha : freeL a = true) (hd : D tb f a [] = some (.ret v [])) : Fn tb f a v :=
  Fn.of_body h (bodyR_of_D h ha hd)

/-- What stands behind a function's code. -/
def outR (res : List RV) : Kt AV := fun o fr s => match o with
  | .norm => (resA res fr s).bind (frzN s frzDepth)
  | .ret => (resA res fr s).bind (frzN s frzDepth)
  | _ => none
def padN (nt : Nat) (a : List AV) : Fr := a ++ List.replicate (nt - a.length) (.tup [])
theorem Fn.ev0 {tb : Tbl} {f nt : Nat} {res : List RV} {body : SCode} (h : Plain tb f ⟨nt, res, false, body⟩) {a : List AV} {v : AV} (hb : evK tb (false, []) body (padN nt a) [] (outR res) = some v) : Fn tb f a v := by
  refine Fn.of_ev h ?_
  rw [← hb]
  congr 1
  funext o fr s
  unfold outV outR fin
  cases o with
  | norm => simp only; cases resA res fr s <;> rfl
  | ret => simp only; cases resA res fr s <;> rfl
  | exit i => rfl
  | pan v => rfl
theorem Fn.d {tb : Tbl} {f : Nat} {a : List AV} {v : AV} (h : Fn tb f a v) {a0 : List AV} {s : St} (ha : chainO (frzN s frzDepth) a0 = some a) (hf : (noRefL a0 || flat v) = true) : D tb f a0 s = some (.ret v s) := h s a0 ha hf

theorem bindC_ret2 {β : Type} {v : AV} {s : St} {K P : AV → St → Option β} : bindC (some (.ret v s)) K P = K v s := id rfl
/-! ### the words of 'simp' -/
theorem of_rfl {α : Type}  {a b : α} (h : a = b) : a = b := h
def nthL : List AV → Nat → AV
  | [], _ => .any
  | a :: _, 0 => a
  | _ :: l, n + 1 => nthL l n
theorem nthL_eq : ∀ (l : List AV) (n : Nat), l.getD n .any = nthL l n
  | [], _ => rfl
  | _ :: _, 0 => rfl
  | _ :: l, n + 1 => nthL_eq l n
theorem nthL_zero {a : AV} {l : List AV} : nthL (a :: l) 0 = a := of_rfl rfl
theorem nthL_succ {a : AV} {l : List AV} {n : Nat} : nthL (a :: l) (n + 1) = nthL l n := of_rfl rfl
theorem ev_t {fr : Fr} {n : Nat} : ev fr (.t n) = nthL fr n := nthL_eq fr n
theorem ev_c {fr : Fr} {v : AV} : ev fr (.c v) = v := of_rfl rfl
theorem evs_nil {e : X → AV} : evs e [] = [] := of_rfl rfl
theorem evs_cons {e : X → AV} {x : X} {l : List X} : evs e (x :: l) = e x :: evs e l := of_rfl rfl
theorem put_some {fr : Fr} {n : Nat} {v : AV} : put fr (some n) v = fr.set n v := of_rfl rfl
theorem put_none {fr : Fr} {v : AV} : put fr none v = fr := of_rfl rfl
def wantV (v : AV) (b : Bool) : Option Bool := match v with
  | .bool c => some (c == b)
  | .tup _ => some false
  | _ => none
theorem wanted_some {fr : Fr} {t : Nat} {b : Bool} : wanted fr (some (t, b)) = wantV (nthL fr t) b := by rw [← nthL_eq]; exact of_rfl rfl
theorem wantV_t {c : Bool} : wantV (.bool c) true = some c := by cases c <;> rfl
theorem wantV_f {c : Bool} : wantV (.bool c) false = some (!c) := by cases c <;> rfl
theorem wantV_tup {c : List AV} {b : Bool} : wantV (.tup c) b = some false := of_rfl rfl

/-- What is held is not looked into by simp. -/
class Hold (α : Type) where
  val : α
noncomputable section
variable {β : Type}
def wK (tb : Tbl) (Y : YT) (c : SCode) (fr : Fr) (s : St) [K : Hold (Kt β)] : Option β := evK tb Y c fr s K.val
def wOps (tb : Tbl) (Y : YT) (l : List SI) (fr : Fr) (s : St) [K : Hold (Kt β)] : Option β := evOps tb Y l fr s K.val
def wL (tb : Tbl) (l : List DI) (fr : Fr) (s : St) [K : Hold (Fr → St → Option β)] : Option β := evL tb l fr s K.val
def wD (tb : Tbl) (x : DI) (fr : Fr) (s : St) [K : Hold (AV → St → Option β)] : Option β := evD tb x fr s K.val
def wO (x : Option (AV × St)) [K : Hold (AV → St → Option β)] : Option β := bindO x K.val
def wC (x : Option CR) [K : Hold ((AV → St → Option β) × (AV → St → Option β))] : Option β := bindC x K.val.1 K.val.2
def wR (x : Res) [K : Hold (Kt β)] : Option β := bindR x K.val
def wB (v : AV) [K : Hold (Option β × Option β)] : Option β := brO v K.val.1 K.val.2
def wG (g : Option Bool) [K : Hold (Option β × Option β)] : Option β := guardO g K.val.1 K.val.2
def wV (tb : Tbl) (Y : YT) (f : AV) (a : List AV) (s : St) [K : Hold ((AV → St → Option β) × (AV → St → Option β))] : Option β := callvO tb Y f a s K.val.1 K.val.2
def wP (v : AV) (s : St) [K : Hold (AV → St → Option β)] : Option β := panO v s K.val
def callvE (tb : Tbl) (cls : Nat) (f : AV) (a : List AV) (s : St) (K : AV → St → Option β) : Option β := match f with
  | .fn n first cap => if (decide (cls < 2) && !tb.pc n) = true then none else bindC (D tb n (first ++ (a ++ cap)) s) K (fun _ _ => none)
  | _ => none
def wVE (tb : Tbl) (cls : Nat) (f : AV) (a : List AV) (s : St) [K : Hold (AV → St → Option β)] : Option β := callvE tb cls f a s K.val
def wI (c : Bool) [K : Hold (Option β)] : Option β := if c = true then none else K.val
theorem wI_false {a : Option β} : wI false (K := ⟨a⟩) = a := of_rfl rfl
end

section
variable {β : Type} {tb : Tbl} {Y : YT} {fr : Fr} {s s2 : St} {K P : AV → St → Option β} {Q : Kt β} {R : Fr → St → Option β}
theorem evK_skip : wK tb Y .skip fr s (K := ⟨Q⟩) = Q .norm fr s := of_rfl rfl
theorem evK_ops {l : List SI} : wK tb Y (.ops l) fr s (K := ⟨Q⟩) = wOps tb Y l fr s (K := ⟨Q⟩) := of_rfl rfl
theorem evK_drw0 {l : List DI} : wK tb Y (.drw [] l) fr s (K := ⟨Q⟩) = wL tb l fr s (K := ⟨Q .norm⟩) := of_rfl rfl
theorem evK_drw {a : Nat} {r : List Nat} {l : List DI} : wK tb Y (.drw (a :: r) l) fr s (K := ⟨Q⟩) = if (a :: r).all fun d => decide (d < fr.length) then wL tb l (anyAt (a :: r) fr) s (K := ⟨Q .norm⟩) else none := of_rfl rfl
theorem evK_seq {a b : SCode} : wK tb Y (.seq a b) fr s (K := ⟨Q⟩) = wK tb Y a fr s (K := ⟨seqK (fun fr2 s2 => wK tb Y b fr2 s2 (K := ⟨Q⟩)) Q⟩) := of_rfl rfl
theorem evK_cond {c : X} {a b : SCode} : wK tb Y (.cond c a b) fr s (K := ⟨Q⟩) = wB (ev fr c) (K := ⟨(wK tb Y a fr s (K := ⟨Q⟩), wK tb Y b fr s (K := ⟨Q⟩))⟩) := of_rfl rfl
theorem evK_block {id : Nat} {c : SCode} : wK tb Y (.block id c) fr s (K := ⟨Q⟩) = wK tb Y c fr s (K := ⟨blkK id Q⟩) := of_rfl rfl
theorem evK_loop {c : SCode} : wK tb Y (.loop c) fr s (K := ⟨Q⟩) = wR (L tb Y (.loop c) fr s) (K := ⟨Q⟩) := of_rfl rfl
theorem evK_exit {id : Nat} : wK tb Y (.exit id) fr s (K := ⟨Q⟩) = Q (.exit id) fr s := of_rfl rfl
theorem evK_ret : wK tb Y .ret fr s (K := ⟨Q⟩) = Q .ret fr s := of_rfl rfl
theorem evK_kl {ts : List Nat} {c : SCode} : wK tb Y (.kl ts c) fr s (K := ⟨Q⟩) = wK tb Y c (anyAt ts fr) s (K := ⟨Q⟩) := of_rfl rfl
theorem evK_range {g : X} {ps : List Nat} {a b : SCode} : wK tb Y (.range g ps a b) fr s (K := ⟨Q⟩) = wR (L tb Y (.range g ps a b) fr s) (K := ⟨Q⟩) := of_rfl rfl
theorem evOps_nil : wOps tb Y [] fr s (K := ⟨Q⟩) = Q .norm fr s := of_rfl rfl
theorem evOps_op {d : Option Nat} {o : SOp} {l : List SI} : wOps tb Y (⟨d, none, .op o⟩ :: l) fr s (K := ⟨Q⟩) = wO (sop1 o (ev fr) s) (K := ⟨fun v s2 => wOps tb Y l (put fr d v) s2 (K := ⟨Q⟩)⟩) := of_rfl rfl
theorem evOps_call {d : Option Nat} {f : Nat} {a : List X} {l : List SI} : wOps tb Y (⟨d, none, .call f a⟩ :: l) fr s (K := ⟨Q⟩) = wC (D tb f (evs (ev fr) a) s) (K := ⟨(fun v s2 => wOps tb Y l (put fr d v) s2 (K := ⟨Q⟩), fun v s2 => Q (.pan v) fr s2)⟩) := of_rfl rfl
theorem evOps_callv {d : Option Nat} {f : X} {a : List X} {l : List SI} : wOps tb Y (⟨d, none, .callv f a⟩ :: l) fr s (K := ⟨Q⟩) = wV tb Y (ev fr f) (evs (ev fr) a) s (K := ⟨(fun v s2 => wOps tb Y l (put fr d v) s2 (K := ⟨Q⟩), fun v s2 => Q (.pan v) fr s2)⟩) := of_rfl rfl
theorem evOps_panic {d : Option Nat} {x : X} {l : List SI} : wOps tb Y (⟨d, none, .panic x⟩ :: l) fr s (K := ⟨Q⟩) = wP (ev fr x) s (K := ⟨fun v s2 => Q (.pan v) fr s2⟩) := of_rfl rfl
theorem evOps_g {d : Option Nat} {g : Nat × Bool} {o : SJ} {l : List SI} : wOps tb Y (⟨d, some g, o⟩ :: l) fr s (K := ⟨Q⟩) = wG (wanted fr (some g)) (K := ⟨(wOps tb Y (⟨d, none, o⟩ :: l) fr s (K := ⟨Q⟩), wOps tb Y l (put fr d (.tup [])) s (K := ⟨Q⟩))⟩) := of_rfl rfl
theorem evL_nil : wL tb [] fr s (K := ⟨R⟩) = R fr s := of_rfl rfl
theorem evL_op {i cls : Nat} {d : Option Nat} {o : SOp} {l : List DI} : wL tb (.ins i cls [] ⟨d, none, .op o⟩ :: l) fr s (K := ⟨R⟩) = wO (sop1 o (ev fr) s) (K := ⟨fun v s2 => wL tb l (put fr d v) s2 (K := ⟨R⟩)⟩) := of_rfl rfl
theorem evL_call {i cls : Nat} {d : Option Nat} {f : Nat} {a : List X} {l : List DI} : wL tb (.ins i cls [] ⟨d, none, .call f a⟩ :: l) fr s (K := ⟨R⟩) = wI (decide (cls < 2) && !tb.pc f) (K := ⟨wC (D tb f (evs (ev fr) a) s) (K := ⟨(fun v s2 => wL tb l (put fr d v) s2 (K := ⟨R⟩), fun _ _ => none)⟩)⟩) := of_rfl rfl
theorem callvE_fn {cls n : Nat} {x a c : List AV} : wVE tb cls (.fn n x c) a s (K := ⟨K⟩) = wI (decide (cls < 2) && !tb.pc n) (K := ⟨wC (D tb n (x ++ (a ++ c)) s) (K := ⟨(K, fun _ _ => none)⟩)⟩) := of_rfl rfl
theorem evL_callv {i cls : Nat} {d : Option Nat} {f : X} {a : List X} {l : List DI} : wL tb (.ins i cls [] ⟨d, none, .callv f a⟩ :: l) fr s (K := ⟨R⟩) = wVE tb cls (ev fr f) (evs (ev fr) a) s (K := ⟨fun v s2 => wL tb l (put fr d v) s2 (K := ⟨R⟩)⟩) := by
  simp only [wL, wVE, evL, evD, evE, hid, wanted, guardO, DI.dst, if_true]
  unfold callvE
  rfl
theorem evL_g {i cls : Nat} {d : Option Nat} {g : Nat × Bool} {o : SJ} {l : List DI} : wL tb (.ins i cls [] ⟨d, some g, o⟩ :: l) fr s (K := ⟨R⟩) = wG (wanted fr (some g)) (K := ⟨(wL tb (.ins i cls [] ⟨d, none, o⟩ :: l) fr s (K := ⟨R⟩), wL tb l (put fr d (.tup [])) s (K := ⟨R⟩))⟩) := of_rfl rfl
theorem evL_hid {i cls a : Nat} {h : List Nat} {si : SI} {l : List DI} : wL tb (.ins i cls (a :: h) si :: l) fr s (K := ⟨R⟩) = wD tb (.ins i cls (a :: h) si) fr s (K := ⟨fun v s2 => wL tb l (put fr si.d v) s2 (K := ⟨R⟩)⟩) := of_rfl rfl
theorem evL_fz {i ia d n : Nat} {x : X} {l : List DI} : wL tb (.fz i ia d n x :: l) fr s (K := ⟨R⟩) = wD tb (.fz i ia d n x) fr s (K := ⟨fun v s2 => wL tb l (fr.set d v) s2 (K := ⟨R⟩)⟩) := of_rfl rfl
theorem wO_some {v : AV} : wO (some (v, s)) (K := ⟨K⟩) = K v s := of_rfl rfl
theorem wC_ret {v : AV} : wC (some (.ret v s)) (K := ⟨(K, P)⟩) = K v s := of_rfl rfl
theorem wC_pan {v : AV} : wC (some (.pan v s)) (K := ⟨(K, P)⟩) = P v s := of_rfl rfl
theorem wR_some {o : Out} : wR (some (o, fr, s)) (K := ⟨Q⟩) = Q o fr s := of_rfl rfl
theorem wB_bool {t : Bool} {a b : Option β} : wB (.bool t) (K := ⟨(a, b)⟩) = if t then a else b := of_rfl rfl
theorem wG_some {t : Bool} {a b : Option β} : wG (some t) (K := ⟨(a, b)⟩) = if t then a else b := of_rfl rfl
theorem wV_fn {n : Nat} {x a c : List AV} : wV tb Y (.fn n x c) a s (K := ⟨(K, P)⟩) = wC (D tb n (x ++ (a ++ c)) s) (K := ⟨(K, P)⟩) := of_rfl rfl
theorem wP_ifc {t : Nat} {v : AV} : wP (.ifc t v) s (K := ⟨K⟩) = K (.ifc t v) s := of_rfl rfl
theorem wloop_eq (c : SCode) (fr : Fr) (s : St) (Q : Kt β) : wR (L tb Y (.loop c) fr s) (K := ⟨Q⟩) = wK tb Y c fr s (K := ⟨seqK (fun fr2 s2 => wR (L tb Y (.loop c) fr2 s2) (K := ⟨Q⟩)) Q⟩) := loop_eq c fr s Q
end
section
variable {e : X → AV} {s : St}

def consO (x : Option AV) (l : Option (List AV)) : Option (List AV) := match x, l with
  | some x, some l => some (x :: l)
  | _, _ => none
def withS (x : Option AV) (s : St) : Option (AV × St) := match x with
  | some v => some (v, s)
  | none => none
def pickS (c a b : AV) (s : St) : Option (AV × St) := match c with
  | .bool t => some (if t then a else b, s)
  | _ => none
def boxS (x : Option (List AV)) (s : St) : Option (AV × St) := match x with
  | some cs => some (.ptr s.length 0, s ++ [.box cs])
  | none => none
def storeS (x : Option St) : Option (AV × St) := match x with
  | some s => some (.tup [], s)
  | none => none
def chkS (x : AV) (s : St) : Option (AV × St) := match x with
  | .ptr r o => some (.ptr r o, s)
  | .eptr r n i o => some (.eptr r n i o, s)
  | .row c => some (.row c, s)
  | .fn f a b => some (.fn f a b, s)
  | _ => none
def beqS (neg : Bool) (x y : AV) (s : St) : Option (AV × St) := match x, y with
  | .bool a, .bool b => some (.bool (if neg then !(a == b) else a == b), s)
  | _, _ => none
def nilT (neg : Bool) (x : Option Bool) (s : St) : Option (AV × St) := match x with
  | some b => some (.bool (if neg then !b else b), s)
  | none => none
def convI (k : IntKind) (x : AV) (s : St) : Option (AV × St) := match x with
  | .int _ n => some (.int k (k.wrap n), s)
  | _ => none
def convT (x : AV) (s : St) : Option (AV × St) := match x with
  | .str b => some (.str b, s)
  | _ => none
def faddrS (off : Nat) (x : AV) (s : St) : Option (AV × St) := match x with
  | .ptr r o => some (.ptr r (o + off), s)
  | .eptr r n i o => some (.eptr r n i (o + off), s)
  | .row c => some (.row (c.drop off), s)
  | _ => none
def fldS (off : Nat) (n : Option Nat) (x : AV) (s : St) : Option (AV × St) := match x with
  | .agg c => withS (pickC c off n) s
  | _ => none
def extS (x : AV) (i : Nat) (s : St) : Option (AV × St) := match x with
  | .tup vs => withS vs[i]? s
  | _ => none
def mkifS (t : Nat) (x : AV) (s : St) : Option (AV × St) := match x with
  | .any => none
  | v => some (.ifc t v, s)
def rowS (sz : Nat) (x : Option (List AV)) (s : St) : Option (AV × St) := match x with
  | some r => if r.length = sz then some (.row r, s) else none
  | none => none
def iaddrS (sz : Nat) (x i : AV) (s : St) : Option (AV × St) := match i with
  | .int _ k => if 0 ≤ k then match x with
    | .sl rows => rowS sz rows[k.toNat]? s
    | .own r n => match s[r]? with
      | some (.row _ sz' _ rows) => if n = rows.length ∧ k < n ∧ sz = sz' then some (.eptr r n k.toNat 0, s) else none
      | _ => none
    | _ => none else none
  | _ => none
def iaddrAS (len sz : Nat) (x i : AV) (s : St) : Option (AV × St) := match i with
  | .int _ k => if 0 ≤ k ∧ k < len then match x with
    | .ptr r o => some (.ptr r (o + k.toNat * sz), s)
    | .row c => some (.row (c.drop (k.toNat * sz)), s)
    | _ => none else none
  | _ => none
def byteS (x : Option UInt8) (s : St) : Option (AV × St) := match x with
  | some c => some (.int .u8 c.toNat, s)
  | none => none
def idxSS (x i : AV) (s : St) : Option (AV × St) := match x, i with
  | .str b, .int _ k => if 0 ≤ k then byteS b[k.toNat]? s else none
  | _, _ => none
def idxAS (len sz : Nat) (n : Option Nat) (x i : AV) (s : St) : Option (AV × St) := match x, i with
  | .agg c, .int _ k => if 0 ≤ k ∧ k < len then withS (pickC c (k.toNat * sz) n) s else none
  | _, _ => none
def appS2 (news : Option (List (List AV))) (s : St) (en sz byt : Nat) (x : AV) : Option (AV × St) := match news with
  | some news => appendA s en sz byt x news
  | none => none
def loadAtS (n : Option Nat) (c a : AV) (s : St) : Option (AV × St) := match c, a with
  | .ptr k _, .ptr k' off => if k = k' then withS (loadA s n (.ptr k' off)) s else none
  | .row _, .row cs => withS (pickC cs 0 n) s
  | _, _ => none
def buildS (x : Option (List AV)) (s : St) : Option (AV × St) := match x with
  | some cs => some (.agg cs, s)
  | none => none
def litS (x : Option (List (List AV))) (s : St) : Option (AV × St) := match x with
  | some rows => some (.sl rows, s)
  | none => none
def litOwnS (en sz byt n : Nat) (x : Option (List (List AV))) (s : St) : Option (AV × St) := match x with
  | some rows => some (.own s.length n, s ++ [.row en sz byt rows])
  | none => none
def sliceS (sz : Nat) (x : AV) (n : Option Nat) (e : X → AV) (lo hi : Option X) (s : St) : Option (AV × St) := match n with
  | some n => match bound? e 0 lo, bound? e n hi with
    | some l, some h => sliceA s sz l h hi.isNone x
    | _, _ => none
  | none => none
def eqB (neg : Bool) (x : Option Bool) (s : St) : Option (AV × St) := match x with
  | some t => some (.bool (if neg then !t else t), s)
  | none => none
def eqsS (neg : Bool) (ks : List Nat) (x y : AV) (s : St) : Option (AV × St) := match x, y with
  | .agg a, .agg b => eqB neg (eqCells ks a b) s
  | _, _ => none
def bytesS (x : AV) (s : St) : Option (AV × St) := match x with
  | .str b => some (.sl (b.map fun c => [.int .u8 c.toNat]), s)
  | _ => none
def strOfS (x : Option (List (List AV))) (s : St) : Option (AV × St) := match x with
  | some rows => match rows.mapM (fun | [.int .u8 n] => some (UInt8.ofNat n.toNat) | _ => none) with
    | some b => some (.str b, s)
    | none => none
  | none => none
def mksliceS (en sz byt : Nat) (z : List AV) (l c : AV) (s : St) : Option (AV × St) := match l, c with
  | .int _ n, .int _ m => if n = m ∧ 0 ≤ n ∧ z.length = sz ∧ roomOk n.toNat byt then
      some (.own s.length n.toNat, s ++ [.row en sz byt (List.replicate n.toNat z)]) else none
  | _, _ => none
def appStr (en byt : Nat) (x y : AV) (s : St) : Option (AV × St) := match y with
  | .str b => appendA s en 1 byt x (b.map fun c => [.int .u8 c.toNat])
  | _ => none

theorem sop1_mov {x : X} : sop1 (.mov x) e s = some (e x, s) := rfl
theorem sop1_pick {c : X} {a : X} {b : X} : sop1 (.pick c a b) e s = pickS (e c) (e a) (e b) s := rfl
theorem sop1_alloc {z : List AV} : sop1 (.alloc z) e s = some (.ptr s.length 0, s ++ [.box z]) := rfl
theorem sop1_box {x : X} : sop1 (.box x) e s = boxS (e x).cells? s := rfl
theorem sop1_build {z : List AV} {parts : List (Nat × Nat × X)} : sop1 (.build z parts) e s = buildS (fillP e z parts) s := rfl
theorem sop1_lit {z : List AV} {n : Nat} {parts : List (Nat × X)} : sop1 (.lit z n parts) e s = litS (fillR e z.length (List.replicate n z) parts) s := rfl
theorem sop1_litOwn {en : Nat} {sz : Nat} {byt : Nat} {z : List AV} {n : Nat} {parts : List (Nat × X)} : sop1 (.litOwn en sz byt z n parts) e s = litOwnS en sz byt n (fillR e sz (List.replicate n z) parts) s := rfl
theorem sop1_load {n : Option Nat} {a : X} : sop1 (.load n a) e s = withS (loadA s n (e a)) s := rfl
theorem sop1_loadAt {c : X} {n : Option Nat} {a : X} : sop1 (.loadAt c n a) e s = loadAtS n (e c) (e a) s := by
  simp only [sop1, loadAtS, withS]
  first | exact of_rfl rfl | done
theorem sop1_store {n : Nat} {a : X} {x : X} : sop1 (.store n a x) e s = storeS (storeA s n (e a) (e x)) := rfl
theorem sop1_chk {x : X} : sop1 (.chk x) e s = chkS (e x) s := rfl
theorem sop1_bin {op : BinOp} {x : X} {y : X} : sop1 (.bin op x y) e s = withS (binA op (e x) (e y)) s := rfl
theorem sop1_beq {neg : Bool} {x : X} {y : X} : sop1 (.beq neg x y) e s = beqS neg (e x) (e y) s := rfl
theorem sop1_isNil {neg : Bool} {x : X} : sop1 (.isNil neg x) e s = nilT neg (isNilV (e x)) s := rfl
theorem sop1_eqs {neg : Bool} {ks : List Nat} {x : X} {y : X} : sop1 (.eqs neg ks x y) e s = eqsS neg ks (e x) (e y) s := by
  simp only [sop1, eqsS, eqB]
  first | exact of_rfl rfl | done
theorem sop1_un {op : UnOp} {x : X} : sop1 (.un op x) e s = withS (unA op (e x)) s := rfl
theorem sop1_conv {k : IntKind} {x : X} : sop1 (.conv k x) e s = convI k (e x) s := rfl
theorem sop1_convS {x : X} : sop1 (.convS x) e s = convT (e x) s := rfl
theorem sop1_bytes {x : X} : sop1 (.bytes x) e s = bytesS (e x) s := rfl
theorem sop1_strOf {x : X} : sop1 (.strOf x) e s = strOfS (rowsOf s (e x)) s := rfl
theorem sop1_mkif {t : Nat} {x : X} : sop1 (.mkif t x) e s = mkifS t (e x) s := rfl
theorem sop1_mkfn {f : Nat} {a : List X} {b : List X} : sop1 (.mkfn f a b) e s = some (.fn f (evs e a) (evs e b), s) := rfl
theorem sop1_mkslice {en : Nat} {sz : Nat} {byt : Nat} {z : List AV} {l : X} {c : X} : sop1 (.mkslice en sz byt z l c) e s = mksliceS en sz byt z (e l) (e c) s := rfl
theorem sop1_slice {sz : Nat} {x : X} {lo : Option X} {hi : Option X} : sop1 (.slice sz x lo hi) e s = sliceS sz (e x) (lenA s (e x)) e lo hi s := rfl
theorem sop1_faddr {off : Nat} {x : X} : sop1 (.faddr off x) e s = faddrS off (e x) s := rfl
theorem sop1_fld {off : Nat} {n : Option Nat} {x : X} : sop1 (.fld off n x) e s = fldS off n (e x) s := by
  simp only [sop1, fldS, withS]
  first | exact of_rfl rfl | done
theorem sop1_iaddr {sz : Nat} {x : X} {i : X} : sop1 (.iaddr sz x i) e s = iaddrS sz (e x) (e i) s := by
  simp only [sop1, iaddrS, rowS]
  first | exact of_rfl rfl | done
theorem sop1_iaddrA {len : Nat} {sz : Nat} {x : X} {i : X} : sop1 (.iaddrA len sz x i) e s = iaddrAS len sz (e x) (e i) s := rfl
theorem sop1_idxS {x : X} {i : X} : sop1 (.idxS x i) e s = idxSS (e x) (e i) s := by
  simp only [sop1, idxSS, byteS]
  first | exact of_rfl rfl | done
theorem sop1_idxA {len : Nat} {sz : Nat} {n : Option Nat} {x : X} {i : X} : sop1 (.idxA len sz n x i) e s = idxAS len sz n (e x) (e i) s := by
  simp only [sop1, idxAS, withS]
  first | exact of_rfl rfl | done
theorem sop1_ext {x : X} {i : Nat} : sop1 (.ext x i) e s = extS (e x) i s := by
  simp only [sop1, extS, withS]
  first | exact of_rfl rfl | done
theorem sop1_len_t {x : X} : sop1 (.len true x) e s = match e x with
    | .str b => some (.int .i64 b.length, s)
    | _ => none := rfl
theorem sop1_len_f {x : X} : sop1 (.len false x) e s = match e x with
    | .str _ => none
    | v => match lenA s v with
      | some n => some (.int .i64 n, s)
      | none => none := rfl
theorem sop1_minmax {mx : Bool} {x : X} {xs : List X} : sop1 (.minmax mx x xs) e s = withS (minmaxA mx (e x) (evs e xs)) s := rfl
theorem sop1_append {en : Nat} {sz : Nat} {byt : Nat} {x : X} {y : X} : sop1 (.append en sz byt x y) e s = appS2 (rowsOf s (e y)) s en sz byt (e x) := rfl
theorem sop1_appendS {en : Nat} {byt : Nat} {x : X} {y : X} : sop1 (.appendS en byt x y) e s = appStr en byt (e x) (e y) s := rfl
end
section
variable {s : St}
theorem withS_some {v : AV} : withS (some v) s = some (v, s) := of_rfl rfl
theorem pickS_bool {t : Bool} {a b : AV} : pickS (.bool t) a b s = some (if t then a else b, s) := of_rfl rfl
theorem boxS_some {c : List AV} : boxS (some c) s = some (.ptr s.length 0, s ++ [.box c]) := of_rfl rfl
theorem storeS_some : storeS (some s) = some (.tup [], s) := of_rfl rfl
theorem chkS_ptr {r o : Nat} : chkS (.ptr r o) s = some (.ptr r o, s) := of_rfl rfl
theorem chkS_eptr {r n i o : Nat} : chkS (.eptr r n i o) s = some (.eptr r n i o, s) := of_rfl rfl
theorem chkS_row {c : List AV} : chkS (.row c) s = some (.row c, s) := of_rfl rfl
theorem chkS_fn {f : Nat} {a b : List AV} : chkS (.fn f a b) s = some (.fn f a b, s) := of_rfl rfl
theorem beqS_bool {neg a b : Bool} : beqS neg (.bool a) (.bool b) s = some (.bool (if neg then !(a == b) else a == b), s) := of_rfl rfl
theorem nilT_some {neg b : Bool} : nilT neg (some b) s = some (.bool (if neg then !b else b), s) := of_rfl rfl
theorem convI_int {k k2 : IntKind} {n : Int} : convI k (.int k2 n) s = some (.int k (k.wrap n), s) := of_rfl rfl
theorem convT_str {b : List UInt8} : convT (.str b) s = some (.str b, s) := of_rfl rfl
theorem faddrS_ptr {off r o : Nat} : faddrS off (.ptr r o) s = some (.ptr r (o + off), s) := of_rfl rfl
theorem faddrS_eptr {off r n i o : Nat} : faddrS off (.eptr r n i o) s = some (.eptr r n i (o + off), s) := of_rfl rfl
theorem faddrS_row {off : Nat} {c : List AV} : faddrS off (.row c) s = some (.row (c.drop off), s) := of_rfl rfl
theorem fldS_agg {off : Nat} {n : Option Nat} {c : List AV} : fldS off n (.agg c) s = withS (pickC c off n) s := of_rfl rfl
theorem extS_tup {i : Nat} {v : List AV} : extS (.tup v) i s = withS v[i]? s := of_rfl rfl
theorem mkifS_bool {t2 : Nat} {b : Bool} : mkifS t2 (.bool b) s = some (.ifc t2 (.bool b), s) := of_rfl rfl
theorem mkifS_int {t2 : Nat} {k : IntKind} {n : Int} : mkifS t2 (.int k n) s = some (.ifc t2 (.int k n), s) := of_rfl rfl
theorem mkifS_str {t2 : Nat} {b : List UInt8} : mkifS t2 (.str b) s = some (.ifc t2 (.str b), s) := of_rfl rfl
theorem mkifS_nilp {t2 : Nat}  : mkifS t2 .nilp s = some (.ifc t2 .nilp, s) := of_rfl rfl
theorem mkifS_ptr {t2 : Nat} {r o : Nat} : mkifS t2 (.ptr r o) s = some (.ifc t2 (.ptr r o), s) := of_rfl rfl
theorem mkifS_eptr {t2 : Nat} {r n i o : Nat} : mkifS t2 (.eptr r n i o) s = some (.ifc t2 (.eptr r n i o), s) := of_rfl rfl
theorem mkifS_row {t2 : Nat} {c : List AV} : mkifS t2 (.row c) s = some (.ifc t2 (.row c), s) := of_rfl rfl
theorem mkifS_sl {t2 : Nat} {l : List (List AV)} : mkifS t2 (.sl l) s = some (.ifc t2 (.sl l), s) := of_rfl rfl
theorem mkifS_nils {t2 : Nat}  : mkifS t2 .nils s = some (.ifc t2 .nils, s) := of_rfl rfl
theorem mkifS_own {t2 : Nat} {r n : Nat} : mkifS t2 (.own r n) s = some (.ifc t2 (.own r n), s) := of_rfl rfl
theorem mkifS_agg {t2 : Nat} {c : List AV} : mkifS t2 (.agg c) s = some (.ifc t2 (.agg c), s) := of_rfl rfl
theorem mkifS_fn {t2 : Nat} {f : Nat} {a b : List AV} : mkifS t2 (.fn f a b) s = some (.ifc t2 (.fn f a b), s) := of_rfl rfl
theorem mkifS_yld {t2 : Nat} {r : Nat} : mkifS t2 (.yld r) s = some (.ifc t2 (.yld r), s) := of_rfl rfl
theorem mkifS_nilf {t2 : Nat}  : mkifS t2 .nilf s = some (.ifc t2 .nilf, s) := of_rfl rfl
theorem mkifS_ifc {t2 : Nat} {t : Nat} {v : AV} : mkifS t2 (.ifc t v) s = some (.ifc t2 (.ifc t v), s) := of_rfl rfl
theorem mkifS_nili {t2 : Nat}  : mkifS t2 .nili s = some (.ifc t2 .nili, s) := of_rfl rfl
theorem rowS_some {sz : Nat} {r : List AV} : rowS sz (some r) s = if r.length = sz then some (.row r, s) else none := of_rfl rfl
theorem iaddrS_sl {sz : Nat} {k : IntKind} {i : Int} {rows : List (List AV)} : iaddrS sz (.sl rows) (.int k i) s = if 0 ≤ i then rowS sz rows[i.toNat]? s else none := of_rfl rfl
theorem iaddrS_own {sz : Nat} {k : IntKind} {i : Int} {r n : Nat} : iaddrS sz (.own r n) (.int k i) s = if 0 ≤ i then (match s[r]? with
      | some (.row _ sz2 _ rows) => if n = rows.length ∧ i < n ∧ sz = sz2 then some (.eptr r n i.toNat 0, s) else none
      | _ => none) else none := of_rfl rfl
theorem iaddrAS_ptr {len sz r o : Nat} {k : IntKind} {i : Int} : iaddrAS len sz (.ptr r o) (.int k i) s = if 0 ≤ i ∧ i < len then some (.ptr r (o + i.toNat * sz), s) else none := of_rfl rfl
theorem iaddrAS_row {len sz : Nat} {c : List AV} {k : IntKind} {i : Int} : iaddrAS len sz (.row c) (.int k i) s = if 0 ≤ i ∧ i < len then some (.row (c.drop (i.toNat * sz)), s) else none := of_rfl rfl
theorem byteS_some {c : UInt8} : byteS (some c) s = some (.int .u8 c.toNat, s) := of_rfl rfl
theorem idxSS_str {b : List UInt8} {k : IntKind} {i : Int} : idxSS (.str b) (.int k i) s = if 0 ≤ i then byteS b[i.toNat]? s else none := of_rfl rfl
theorem idxAS_agg {len sz : Nat} {n : Option Nat} {c : List AV} {k : IntKind} {i : Int} : idxAS len sz n (.agg c) (.int k i) s = if 0 ≤ i ∧ i < len then withS (pickC c (i.toNat * sz) n) s else none := of_rfl rfl
theorem appS2_some {l : List (List AV)} {en sz byt : Nat} {x : AV} : appS2 (some l) s en sz byt x = appendA s en sz byt x l := of_rfl rfl
theorem loadAtS_ptr {n : Option Nat} {k k2 o off : Nat} : loadAtS n (.ptr k o) (.ptr k2 off) s = if k = k2 then withS (loadA s n (.ptr k2 off)) s else none := of_rfl rfl
theorem loadAtS_row {n : Option Nat} {a b : List AV} : loadAtS n (.row a) (.row b) s = withS (pickC b 0 n) s := of_rfl rfl
theorem buildS_some {c : List AV} : buildS (some c) s = some (.agg c, s) := of_rfl rfl
theorem litS_some {c : List (List AV)} : litS (some c) s = some (.sl c, s) := of_rfl rfl
theorem litOwnS_some {en sz byt n : Nat} {c : List (List AV)} : litOwnS en sz byt n (some c) s = some (.own s.length n, s ++ [.row en sz byt c]) := of_rfl rfl
theorem sliceS_some {sz n : Nat} {x : AV} {e : X → AV} {lo hi : Option X} : sliceS sz x (some n) e lo hi s = (match bound? e 0 lo, bound? e n hi with
    | some l, some h => sliceA s sz l h hi.isNone x
    | _, _ => none) := of_rfl rfl
theorem bound_none {e : X → AV} {d : Nat} : bound? e d none = some d := of_rfl rfl
theorem boundV (v : AV) : True := trivial
theorem i64_lit (n : Int) (h : -9223372036854775808 ≤ n ∧ n ≤ 9223372036854775807) : IntKind.i64.wrap n = n := Go.IntWalk.i64_in n h
theorem u64_lit (n : Int) (h : 0 ≤ n ∧ n ≤ 18446744073709551615) : IntKind.u64.wrap n = n := Go.IntWalk.u64_in n h
theorem u8_lit (n : Int) (h : 0 ≤ n ∧ n ≤ 255) : IntKind.u8.wrap n = n := Go.IntWalk.u8_in n h
def boundV1 (v : AV) : Option Nat := match v with
  | .int _ n => if 0 ≤ n then some n.toNat else none
  | _ => none
theorem bound_some {e : X → AV} {d : Nat} {x : X} : bound? e d (some x) = boundV1 (e x) := of_rfl rfl
theorem boundV1_int {k : IntKind} {n : Int} : boundV1 (.int k n) = if 0 ≤ n then some n.toNat else none := of_rfl rfl
theorem eqB_some {neg t : Bool} : eqB neg (some t) s = some (.bool (if neg then !t else t), s) := of_rfl rfl
theorem eqsS_agg {neg : Bool} {ks : List Nat} {a b : List AV} : eqsS neg ks (.agg a) (.agg b) s = eqB neg (eqCells ks a b) s := of_rfl rfl
theorem bytesS_str {b : List UInt8} : bytesS (.str b) s = some (.sl (b.map fun c => [.int .u8 c.toNat]), s) := of_rfl rfl
theorem mksliceS_int {en sz byt : Nat} {z : List AV} {k k2 : IntKind} {n m : Int} : mksliceS en sz byt z (.int k n) (.int k2 m) s = if n = m ∧ 0 ≤ n ∧ z.length = sz ∧ roomOk n.toNat byt then some (.own s.length n.toNat, s ++ [.row en sz byt (List.replicate n.toNat z)]) else none := of_rfl rfl
theorem appStr_str {en byt : Nat} {x : AV} {b : List UInt8} : appStr en byt x (.str b) s = appendA s en 1 byt x (b.map fun c => [.int .u8 c.toNat]) := of_rfl rfl
def getB : List ABlk → Nat → Option ABlk
  | [], _ => none
  | a :: _, 0 => some a
  | _ :: l, n + 1 => getB l n
theorem getB_eq : ∀ (l : List ABlk) (n : Nat), l[n]? = getB l n
  | [], _ => rfl
  | _ :: _, 0 => rfl
  | _ :: l, n + 1 => by rw [List.getElem?_cons_succ]; exact getB_eq l n
theorem getB_zero {a : ABlk} {l : List ABlk} : getB (a :: l) 0 = some a := of_rfl rfl
theorem getB_succ {a : ABlk} {l : List ABlk} {n : Nat} : getB (a :: l) (n + 1) = getB l n := of_rfl rfl
def boxOf (b : Option ABlk) (n : Option Nat) (off : Nat) : Option AV := match b with
  | some (.box cells) => pickC cells off n
  | _ => none
theorem loadA_ptr {n : Option Nat} {r off : Nat} : loadA s n (.ptr r off) = boxOf (getB s r) n off := by rw [← getB_eq]; rfl
theorem boxOf_some {n : Option Nat} {off : Nat} {c : List AV} : boxOf (some (.box c)) n off = pickC c off n := of_rfl rfl
theorem loadA_row {n : Option Nat} {c : List AV} : loadA s n (.row c) = pickC c 0 n := of_rfl rfl
def pick1 (v : Option AV) : Option AV := match v with
  | some .any => none
  | some v => some v
  | none => none
def getV : List AV → Nat → Option AV
  | [], _ => none
  | a :: _, 0 => some a
  | _ :: l, n + 1 => getV l n
theorem getV_eq : ∀ (l : List AV) (n : Nat), l[n]? = getV l n
  | [], _ => rfl
  | _ :: _, 0 => rfl
  | _ :: l, n + 1 => by rw [List.getElem?_cons_succ]; exact getV_eq l n
theorem getV_zero {a : AV} {l : List AV} : getV (a :: l) 0 = some a := of_rfl rfl
theorem getV_succ {a : AV} {l : List AV} {n : Nat} : getV (a :: l) (n + 1) = getV l n := of_rfl rfl
theorem pickC_none {c : List AV} {off : Nat} : pickC c off none = pick1 (getV c off) := by rw [← getV_eq]; rfl
theorem resOf_tmp {fr : Fr} {t : Nat} : resOf fr s (.tmp t) = getV fr t := by rw [← getV_eq]; rfl
theorem resOf_cell {fr : Fr} {t : Nat} {n : Option Nat} : resOf fr s (.cell t n) = loadA s n (nthL fr t) := by rw [← nthL_eq]; rfl
theorem chainO_nil {f : RV → Option AV} : chainO f [] = some [] := of_rfl rfl
theorem chainO_cons {f : RV → Option AV} {x : RV} {l : List RV} : chainO f (x :: l) = consO (f x) (chainO f l) := by
  simp only [chainO, consO]
  cases f x <;> cases chainO f l <;> rfl
theorem consO_some {v : AV} {l : List AV} : consO (some v) (some l) = some (v :: l) := of_rfl rfl
def resV (x : Option (List AV)) : Option AV := match x with
  | some [v] => some v
  | some vs => some (.tup vs)
  | none => none
theorem resA_eq {res : List RV} {fr : Fr} : resA res fr s = resV (chainO (resOf fr s) res) := of_rfl rfl
theorem resV_nil : resV (some []) = some (.tup []) := of_rfl rfl
theorem resV_one {v : AV} : resV (some [v]) = some v := of_rfl rfl
theorem resV_two {v u : AV} {l : List AV} : resV (some (v :: u :: l)) = some (.tup (v :: u :: l)) := of_rfl rfl
theorem chainA_nil {f : AV → Option AV} : chainO f [] = some [] := of_rfl rfl
theorem chainA_cons {f : AV → Option AV} {x : AV} {l : List AV} : chainO f (x :: l) = consO (f x) (chainO f l) := by
  simp only [chainO, consO]
  cases f x <;> cases chainO f l <;> rfl
theorem pickC_some {c : List AV} {off n : Nat} : pickC c off (some n) = if off + n ≤ c.length then some (.agg ((c.drop off).take n)) else none := of_rfl rfl
theorem pick1_bool {b : Bool} : pick1 (some (.bool b)) = some (.bool b) := of_rfl rfl
theorem pick1_int {k : IntKind} {n : Int} : pick1 (some (.int k n)) = some (.int k n) := of_rfl rfl
theorem pick1_str {b : List UInt8} : pick1 (some (.str b)) = some (.str b) := of_rfl rfl
theorem pick1_nilp  : pick1 (some .nilp) = some .nilp := of_rfl rfl
theorem pick1_ptr {r o : Nat} : pick1 (some (.ptr r o)) = some (.ptr r o) := of_rfl rfl
theorem pick1_eptr {r n i o : Nat} : pick1 (some (.eptr r n i o)) = some (.eptr r n i o) := of_rfl rfl
theorem pick1_row {c : List AV} : pick1 (some (.row c)) = some (.row c) := of_rfl rfl
theorem pick1_sl {l : List (List AV)} : pick1 (some (.sl l)) = some (.sl l) := of_rfl rfl
theorem pick1_nils  : pick1 (some .nils) = some .nils := of_rfl rfl
theorem pick1_own {r n : Nat} : pick1 (some (.own r n)) = some (.own r n) := of_rfl rfl
theorem pick1_agg {c : List AV} : pick1 (some (.agg c)) = some (.agg c) := of_rfl rfl
theorem pick1_fn {f : Nat} {a b : List AV} : pick1 (some (.fn f a b)) = some (.fn f a b) := of_rfl rfl
theorem pick1_yld {r : Nat} : pick1 (some (.yld r)) = some (.yld r) := of_rfl rfl
theorem pick1_nilf  : pick1 (some .nilf) = some .nilf := of_rfl rfl
theorem pick1_ifc {t : Nat} {v : AV} : pick1 (some (.ifc t v)) = some (.ifc t v) := of_rfl rfl
theorem pick1_nili  : pick1 (some .nili) = some .nili := of_rfl rfl
theorem pick1_tup {c : List AV} : pick1 (some (.tup c)) = some (.tup c) := of_rfl rfl
theorem cells_bool {b : Bool} : AV.cells? (.bool b) = some [.bool b] := of_rfl rfl
theorem cells_int {k : IntKind} {n : Int} : AV.cells? (.int k n) = some [.int k n] := of_rfl rfl
theorem cells_str {b : List UInt8} : AV.cells? (.str b) = some [.str b] := of_rfl rfl
theorem cells_nilp  : AV.cells? .nilp = some [.nilp] := of_rfl rfl
theorem cells_ptr {r o : Nat} : AV.cells? (.ptr r o) = some [.ptr r o] := of_rfl rfl
theorem cells_eptr {r n i o : Nat} : AV.cells? (.eptr r n i o) = some [.eptr r n i o] := of_rfl rfl
theorem cells_row {c : List AV} : AV.cells? (.row c) = some [.row c] := of_rfl rfl
theorem cells_sl {l : List (List AV)} : AV.cells? (.sl l) = some [.sl l] := of_rfl rfl
theorem cells_nils  : AV.cells? .nils = some [.nils] := of_rfl rfl
theorem cells_own {r n : Nat} : AV.cells? (.own r n) = some [.own r n] := of_rfl rfl
theorem cells_agg {c : List AV} : (AV.agg c).cells? = some c := of_rfl rfl
theorem cells_fn {f : Nat} {a b : List AV} : AV.cells? (.fn f a b) = some [.fn f a b] := of_rfl rfl
theorem cells_yld {r : Nat} : AV.cells? (.yld r) = some [.yld r] := of_rfl rfl
theorem cells_nilf  : AV.cells? .nilf = some [.nilf] := of_rfl rfl
theorem cells_ifc {t : Nat} {v : AV} : AV.cells? (.ifc t v) = some [.ifc t v] := of_rfl rfl
theorem cells_nili  : AV.cells? .nili = some [.nili] := of_rfl rfl
def storeB (b : Option ABlk) (s : St) (r off n : Nat) (cs : List AV) : Option St := match b with
  | some (.box cells) => if off + n ≤ cells.length then some (s.set r (.box (splice cells off cs))) else none
  | _ => none
def storeC (x : Option (List AV)) (s : St) (n r off : Nat) : Option St := match x with
  | some cs => if cs.length = n then storeB (getB s r) s r off n cs else none
  | none => none
theorem storeA_ptr {n r off : Nat} {x : AV} : storeA s n (.ptr r off) x = storeC x.cells? s n r off := by
  simp only [storeA, storeC, storeB, ← getB_eq]
  cases x.cells? <;> rfl
theorem storeC_some {n r off : Nat} {cs : List AV} : storeC (some cs) s n r off = if cs.length = n then storeB (getB s r) s r off n cs else none := of_rfl rfl
theorem storeB_some {n r off : Nat} {cs c : List AV} : storeB (some (.box c)) s r off n cs = if off + n ≤ c.length then some (s.set r (.box (splice c off cs))) else none := of_rfl rfl
end
theorem binA_add {k : IntKind} {x y : Int} : binA .add (.int k x) (.int k y) = some (.int k (k.wrap (x + y))) := by simp [binA, isShift, binInt]
theorem binA_sub {k : IntKind} {x y : Int} : binA .sub (.int k x) (.int k y) = some (.int k (k.wrap (x - y))) := by simp [binA, isShift, binInt]
theorem binA_mul {k : IntKind} {x y : Int} : binA .mul (.int k x) (.int k y) = some (.int k (k.wrap (x * y))) := by simp [binA, isShift, binInt]
theorem binA_quo {k : IntKind} {x y : Int} : binA .quo (.int k x) (.int k y) = if y = 0 then none else some (.int k (k.wrap (x.tdiv y))) := by simp [binA, isShift, binInt]
theorem binA_rem {k : IntKind} {x y : Int} : binA .rem (.int k x) (.int k y) = if y = 0 then none else some (.int k (x.tmod y)) := by simp [binA, isShift, binInt]
theorem binA_eql {k : IntKind} {x y : Int} : binA .eql (.int k x) (.int k y) = some (.bool (x == y)) := by simp [binA, isShift, binInt]
theorem binA_neq {k : IntKind} {x y : Int} : binA .neq (.int k x) (.int k y) = some (.bool (x != y)) := by simp [binA, isShift, binInt]
theorem binA_lss {k : IntKind} {x y : Int} : binA .lss (.int k x) (.int k y) = some (.bool (decide (x < y))) := by simp [binA, isShift, binInt]
theorem binA_leq {k : IntKind} {x y : Int} : binA .leq (.int k x) (.int k y) = some (.bool (decide (x ≤ y))) := by simp [binA, isShift, binInt]
theorem binA_gtr {k : IntKind} {x y : Int} : binA .gtr (.int k x) (.int k y) = some (.bool (decide (y < x))) := by simp [binA, isShift, binInt]
theorem binA_geq {k : IntKind} {x y : Int} : binA .geq (.int k x) (.int k y) = some (.bool (decide (y ≤ x))) := by simp [binA, isShift, binInt]
theorem binA_and {k : IntKind} {x y : Int} : binA .and (.int k x) (.int k y) = some (.int k (k.wrap ((BitVec.ofInt k.bits x &&& BitVec.ofInt k.bits y).toNat))) := by simp [binA, isShift, binInt]
theorem binA_or {k : IntKind} {x y : Int} : binA .or (.int k x) (.int k y) = some (.int k (k.wrap ((BitVec.ofInt k.bits x ||| BitVec.ofInt k.bits y).toNat))) := by simp [binA, isShift, binInt]
theorem binA_xor {k : IntKind} {x y : Int} : binA .xor (.int k x) (.int k y) = some (.int k (k.wrap ((BitVec.ofInt k.bits x ^^^ BitVec.ofInt k.bits y).toNat))) := by simp [binA, isShift, binInt]
theorem binA_andNot {k : IntKind} {x y : Int} : binA .andNot (.int k x) (.int k y) = some (.int k (k.wrap ((BitVec.ofInt k.bits x &&& ~~~ BitVec.ofInt k.bits y).toNat))) := by simp [binA, isShift, binInt]
theorem binA_shl {k k2 : IntKind} {x y : Int} : binA .shl (.int k x) (.int k2 y) = if y < 0 then none else some (.int k (k.wrap (x * 2 ^ (min y.toNat k.bits)))) := by simp [binA, isShift, shiftInt]
theorem binA_shr {k k2 : IntKind} {x y : Int} : binA .shr (.int k x) (.int k2 y) = if y < 0 then none else some (.int k (x.fdiv (2 ^ (min y.toNat k.bits)))) := by simp [binA, isShift, shiftInt]
theorem binA_addS {x y : List UInt8} : binA .add (.str x) (.str y) = if x.length + y.length ≤ strBound then some (.str (x ++ y)) else none := of_rfl rfl
theorem binA_eqlS {x y : List UInt8} : binA .eql (.str x) (.str y) = some (.bool (x == y)) := of_rfl rfl
theorem binA_neqS {x y : List UInt8} : binA .neq (.str x) (.str y) = some (.bool (!(x == y))) := of_rfl rfl
theorem binA_lssS {x y : List UInt8} : binA .lss (.str x) (.str y) = some (.bool (Op.bytesLess x y)) := of_rfl rfl
theorem binA_leqS {x y : List UInt8} : binA .leq (.str x) (.str y) = some (.bool (Op.bytesLess x y || x == y)) := of_rfl rfl
theorem binA_gtrS {x y : List UInt8} : binA .gtr (.str x) (.str y) = some (.bool (!(Op.bytesLess x y || x == y))) := of_rfl rfl
theorem binA_geqS {x y : List UInt8} : binA .geq (.str x) (.str y) = some (.bool (!(Op.bytesLess x y))) := of_rfl rfl
theorem frzN_six {s : St} {x : AV} : frzN s frzDepth x = frzV s (frzN s 5) x := of_rfl rfl
theorem frzN_succ {s : St} {n : Nat} {x : AV} : frzN s (n + 1) x = frzV s (frzN s n) x := of_rfl rfl
theorem frzR_item {s : St} {J : AV → Option AV} (l : List GItem) : frzR s J (l.map GItem.enc) = some (l.map GItem.enc) := frzR_free _ (freeR_map GItem.free l)
theorem frzR_type {s : St} {J : AV → Option AV} (l : List GType) : frzR s J (l.map GType.enc) = some (l.map GType.enc) := frzR_free _ (freeR_map GType.free l)
theorem frzR_op {s : St} {J : AV → Option AV} (l : List GOp) : frzR s J (l.map GOp.enc) = some (l.map GOp.enc) := frzR_free _ (freeR_map GOp.free l)
theorem frzR_val {s : St} {J : AV → Option AV} (l : List GVal) : frzR s J (l.map GVal.enc) = some (l.map GVal.enc) := frzR_free _ (freeR_map GVal.free l)
theorem frzR_expr {s : St} {J : AV → Option AV} (l : List GExpr) : frzR s J (l.map GExpr.enc) = some (l.map GExpr.enc) := frzR_free _ (freeR_map GExpr.free l)
theorem frzR_step {s : St} {J : AV → Option AV} (l : List GStep) : frzR s J (l.map GStep.enc) = some (l.map GStep.enc) := frzR_free _ (freeR_map GStep.free l)
theorem frzL_gtype {s : St} {J : AV → Option AV} (x : GType) : frzL s J x.enc = some x.enc := frzL_free _ x.free
theorem frzL_gval {s : St} {J : AV → Option AV} (x : GVal) : frzL s J x.enc = some x.enc := frzL_free _ x.free
theorem frzL_gexpr {s : St} {J : AV → Option AV} (x : GExpr) : frzL s J x.enc = some x.enc := frzL_free _ x.free
theorem frzL_gop {s : St} {J : AV → Option AV} (x : GOp) : frzL s J x.enc = some x.enc := frzL_free _ x.free
theorem frzL_gdat {s : St} {J : AV → Option AV} (x : GDat) : frzL s J x.enc = some x.enc := frzL_free _ x.free
theorem frzL_gitem {s : St} {J : AV → Option AV} (x : GItem) : frzL s J x.enc = some x.enc := frzL_free _ x.free
theorem frzL_gstep {s : St} {J : AV → Option AV} (x : GStep) : frzL s J x.enc = some x.enc := frzL_free _ x.free

theorem seqK_norm {β : Type} {k : Fr → St → Option β} {K : Kt β} {fr : Fr} {s : St} : seqK k K .norm fr s = k fr s := of_rfl rfl
theorem seqK_ret {β : Type} {k : Fr → St → Option β} {K : Kt β} {fr : Fr} {s : St} : seqK k K .ret fr s = K .ret fr s := of_rfl rfl
theorem seqK_exit {β : Type} {k : Fr → St → Option β} {K : Kt β} {i : Nat} {fr : Fr} {s : St} : seqK k K (.exit i) fr s = K (.exit i) fr s := of_rfl rfl
theorem blkK_norm {β : Type} {id : Nat} {K : Kt β} {fr : Fr} {s : St} : blkK id K .norm fr s = K .norm fr s := of_rfl rfl
theorem blkK_ret {β : Type} {id : Nat} {K : Kt β} {fr : Fr} {s : St} : blkK id K .ret fr s = K .ret fr s := of_rfl rfl
theorem blkK_exit {β : Type} {id : Nat} {K : Kt β} {i : Nat} {fr : Fr} {s : St} : blkK id K (.exit i) fr s = if i = id then K .norm fr s else K (.exit i) fr s := of_rfl rfl
theorem outR_norm {res : List RV} {fr : Fr} {s : St} : outR res .norm fr s = (resA res fr s).bind (frzN s frzDepth) := of_rfl rfl
theorem outR_ret {res : List RV} {fr : Fr} {s : St} : outR res .ret fr s = (resA res fr s).bind (frzN s frzDepth) := of_rfl rfl
theorem bindO_some {β : Type} {v : AV} {s : St} {K : AV → St → Option β} : bindO (some (v, s)) K = K v s := of_rfl rfl
theorem bindR_some {β : Type} {o : Out} {fr : Fr} {s : St} {K : Kt β} : bindR (some (o, fr, s)) K = K o fr s := of_rfl rfl
theorem brO_bool {β : Type} {t : Bool} {a b : Option β} : brO (.bool t) a b = if t then a else b := of_rfl rfl
theorem guardO_some {β : Type} {t : Bool} {a b : Option β} : guardO (some t) a b = if t then a else b := of_rfl rfl

theorem Fn.ev {tb : Tbl} {f nt : Nat} {res : List RV} {body : SCode} (h : Plain tb f ⟨nt, res, false, body⟩) {a : List AV} {v : AV} (hb : wK tb (false, []) body (padN nt a) [] (K := ⟨outR res⟩) = some v) : Fn tb f a v := Fn.ev0 h hb
attribute [simp ↓] evK_skip evK_ops evK_drw0 evK_drw evK_seq evK_cond evK_block evK_loop evK_exit evK_ret evK_kl evK_range evOps_nil evOps_op evOps_call evOps_callv evOps_panic evOps_g evL_nil evL_op evL_call evL_callv evL_g evL_hid evL_fz seqK_norm seqK_ret seqK_exit blkK_norm blkK_ret blkK_exit outR_norm outR_ret
attribute [simp] nthL_zero nthL_succ ev_t ev_c evs_nil evs_cons put_some put_none wanted_some wantV_t wantV_f wantV_tup wI_false callvE_fn wO_some wC_ret wC_pan wR_some wB_bool wG_some wV_fn wP_ifc sop1_mov sop1_pick sop1_alloc sop1_box sop1_build sop1_lit sop1_litOwn sop1_load sop1_loadAt sop1_store sop1_chk sop1_bin sop1_beq sop1_isNil sop1_eqs sop1_un sop1_conv sop1_convS sop1_bytes sop1_strOf sop1_mkif sop1_mkfn sop1_mkslice sop1_slice sop1_faddr sop1_fld sop1_iaddr sop1_iaddrA sop1_idxS sop1_idxA sop1_ext sop1_len_t sop1_len_f sop1_minmax sop1_append sop1_appendS withS_some pickS_bool boxS_some storeS_some chkS_ptr chkS_eptr chkS_row chkS_fn beqS_bool nilT_some convI_int convT_str faddrS_ptr faddrS_eptr faddrS_row fldS_agg extS_tup mkifS_bool mkifS_int mkifS_str mkifS_nilp mkifS_ptr mkifS_eptr mkifS_row mkifS_sl mkifS_nils mkifS_own mkifS_agg mkifS_fn mkifS_yld mkifS_nilf mkifS_ifc mkifS_nili rowS_some iaddrS_sl iaddrS_own iaddrAS_ptr iaddrAS_row byteS_some idxSS_str idxAS_agg appS2_some loadAtS_ptr loadAtS_row buildS_some litS_some litOwnS_some sliceS_some bound_none bound_some boundV1_int eqB_some eqsS_agg bytesS_str mksliceS_int appStr_str getB_zero getB_succ loadA_ptr boxOf_some loadA_row getV_zero getV_succ pickC_none resOf_tmp resOf_cell chainO_nil chainO_cons consO_some resA_eq resV_nil resV_one resV_two chainA_nil chainA_cons pickC_some pick1_bool pick1_int pick1_str pick1_nilp pick1_ptr pick1_eptr pick1_row pick1_sl pick1_nils pick1_own pick1_agg pick1_fn pick1_yld pick1_nilf pick1_ifc pick1_nili pick1_tup cells_bool cells_int cells_str cells_nilp cells_ptr cells_eptr cells_row cells_sl cells_nils cells_own cells_agg cells_fn cells_yld cells_nilf cells_ifc cells_nili storeA_ptr storeC_some storeB_some binA_add binA_sub binA_mul binA_quo binA_rem binA_eql binA_neq binA_lss binA_leq binA_gtr binA_geq binA_and binA_or binA_xor binA_andNot binA_shl binA_shr binA_addS binA_eqlS binA_neqS binA_lssS binA_leqS binA_gtrS binA_geqS
attribute [simp] padN
  eqCell eqCells unA splice fillP fillR isNilV lenA rowsOf
  frzN_six frzN_succ frzV frzL frzR frzR_item frzR_type frzR_op frzR_val frzR_expr frzR_step frzL_gtype frzL_gval frzL_gexpr frzL_gop frzL_gdat frzL_gitem frzL_gstep DI.dst anyAt minmaxA rowsSz
  GDat.enc GOp.enc GItem.enc GStep.enc GType.enc
end Go.Ab
