/- What is proved: a part of the proof of the tied card of StoreNil (text FUnfollowed of it). Conditions: those that its theorems name. -/
import Derived.Test.YtifoacdfdcdpmaaGreatDoorRows
import Derived.KernelRfl
namespace Go.Proofs.YtifoacdfdcdpmaaGreatDoor
open Go
theorem f_unfollowed : (Rows.storeNilRow.unfollowed == Tryz.prog.unfollowed 3) = true := by kernel_rfl
end Go.Proofs.YtifoacdfdcdpmaaGreatDoor
