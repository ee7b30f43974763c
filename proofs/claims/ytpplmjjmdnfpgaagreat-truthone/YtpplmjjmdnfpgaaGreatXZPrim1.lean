/- Layer 5 (prim) and what it calls: what the functions answer. -/
import Derived.Test.YtpplmjjmdnfpgaaGreatXZTab
import Derived.Test.YtpplmjjmdnfpgaaGreatXAbZ
set_option maxRecDepth 100000
namespace Go.Ab.Z
open Go.Ab
theorem p154 : Plain tb 154 fn154 := ⟨rfl, rfl, rfl, rfl⟩
theorem p156 : Plain tb 156 fn156 := ⟨rfl, rfl, rfl, rfl⟩
theorem p109 : Plain tb 109 fn109 := ⟨rfl, rfl, rfl, rfl⟩
theorem p111 : Plain tb 111 fn111 := ⟨rfl, rfl, rfl, rfl⟩
theorem p112 : Plain tb 112 fn112 := ⟨rfl, rfl, rfl, rfl⟩

theorem d154 (a : Int) (s : St) : D tb 154 [.int .i64 a] s = some (.ret (.bool false) s) :=
  Fn.free (Fn.ev p154 (by simp)) rfl s
theorem d156 (a : Int) (s : St) : D tb 156 [.int .u64 a] s = some (.ret (.bool false) s) :=
  Fn.free (Fn.ev p156 (by simp)) rfl s
/-- How two numbers stand. -/
def cmp3 (a b : Int) : Int := if a < b then -1 else if b < a then 1 else 0
theorem d109 (a b : Int) (s : St) : D tb 109 [.int .i64 a, .int .i64 b] s = some (.ret (.int .i64 (cmp3 a b)) s) :=
  Fn.free (Fn.ev p109 (by simp [d154, cmp3]; (repeat' split) <;> simp_all)) rfl s
theorem d111 (a b : Int) (s : St) : D tb 111 [.int .u64 a, .int .u64 b] s = some (.ret (.int .i64 (cmp3 a b)) s) :=
  Fn.free (Fn.ev p111 (by simp [d156, cmp3]; (repeat' split) <;> simp_all)) rfl s
def below (a : GDat) : Bool := a.neg && decide (0 < a.num)
theorem d112 (a : GDat) (s : St) : D tb 112 [.agg a.enc] s = some (.ret (.bool (below a)) s) :=
  Fn.free (Fn.ev p112 (by simp [below]; cases a.neg <;> simp)) rfl s
end Go.Ab.Z
