/- The frame of a law's proof. -/
import Derived.Test.YtpplmjjmdnfpgaaGreatXAbZ
set_option linter.unusedVariables false
namespace Go.Ab
def parB (P : Program) (T : List TypeId) (ts : List TypeId) : Bool := ts.all fun t => T.contains t && P.readableRec t && decide (t < P.types.size)
theorem par_of {P : Program} {T ts : List TypeId} (h : parB P T ts = true) : ∀ t ∈ ts, t ∈ T ∧ P.readableRec t = true ∧ t < P.types.size := by
  intro t ht
  simp only [parB, List.all_eq_true, Bool.and_eq_true, List.contains_iff_mem, decide_eq_true_eq] at h
  exact ⟨(h t ht).1.1, (h t ht).1.2, (h t ht).2⟩
theorem law_contract {H : Type} {enc : TypeId × Value → H} {P : Program} {f : FuncId} {fn : Func} {s : ChangeSpec} {tb : Tbl} {ts : List TypeId} (htb : TblOk P tb) (hf : P.funcs[f]? = some fn) (hn : (fn.name == "runtime.NumGoroutine") = false) (hb : fn.body.isSome = true)
    {rt : TypeId} (hrt : fn.resultTypes = #[rt]) (hrb : P.underlying rt = some .bool) {T : List TypeId} (hT : closedT P T = true) (hl : laidOutB P = true) (hps : fn.params.toList = ts)
    (hpar : parB P T ts = true)
    (hvars : s.vars = []) (hfn : ∀ (ds : List (DataW H)), OkArgs P ts ds → s.fn H ds = ⟨[.lit (.bool true)], ds, []⟩)
    (ev : ∀ (ds : List (DataW H)), OkArgs P ts ds → D tb f (argsD P ts ds) [] = some (.ret (.bool true) []))
    (W : World) (base : Nat) (args : Array Value) (ds gs : List (DataW H)) (before : List MemPlace)
    (hval : ∀ (j : Nat) t v, fn.params[j]? = some t → args[j]? = some v → Value.okWide P W .any base t v)
    (hW : DataW.Whole enc P fn.params.toList s.vars false W args.toList ds gs before) :
    Calls P f args W fun e W' => ∃ v, e = .returned v ∧ s.post enc P fn false true false false W args v W' := by
  subst hps
  refine plain_contract htb hf hn hb hrt hrb hT hl (par_of hpar) hvars hfn W base args ds gs before (fun h => ?_) hval hW
  obtain ⟨k, hk⟩ := D_iff.1 (ev ds h)
  exact ⟨k, [], hk⟩
end Go.Ab
