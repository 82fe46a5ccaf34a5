/- What is proved: a part of the proof of the tied card of StoreNil (text FInPlace of it). Conditions: those that its theorems name. -/
import Derived.Test.YtifoacdfdcdpmaaGreatDoorRows
import Derived.KernelRfl
namespace Go.Proofs.YtifoacdfdcdpmaaGreatDoor
open Go
theorem f_inPlace : (Rows.storeNilRow.inPlace == Tryz.prog.inPlace 3) = true := by kernel_rfl
end Go.Proofs.YtifoacdfdcdpmaaGreatDoor
