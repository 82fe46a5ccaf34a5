/- What is proved: a part of the proof of the tied card of StoreNil (text Nil2 of it). Conditions: those that its theorems name. -/
import Derived.Test.YtifoacdfdcdpmaaGreatDoorNil1
namespace Go.Abs
open Go.Proofs
def SgT (f : FuncId) : Option Sp := if f = 358 then some (.ext escX) else if f = 338 then some (.ext cmpX) else none
set_option maxRecDepth 100000 in
theorem nil_runs : (call Tryz.prog SgT 100000 3 [.agg ((List.range' 0 10).map .opq), .opq 10, .opq 11] ⟨.lf, 0⟩).map (·.1) = some (.bool true) := by kernel_rfl
end Go.Abs
