/- What is proved: a part of the proof of the tied card of TxnEnds (text EN4 of it). Conditions: those that its theorems name. -/
import Derived.Test.YtmdlgcmjemdfnaaGreatDoorEWalk
import Derived.Test.YtmdlgcmjemdfnaaGreatDoorEL3
import Derived.Test.YtmdlgcmjemdfnaaGreatDoorRows
import Derived.ProofKit
import Derived.LaidMore
import Derived.OpenShut
import Derived.Stop.Joined
import Derived.Below
import Derived.Carry
set_option linter.unusedVariables false
set_option linter.unusedSimpArgs false
set_option linter.unusedSectionVars false
namespace Go.Proofs.YtmdlgcmjemdfnaaGreatDoor
open Go.ChangeShapes Go.WideShapes Go.ChangeAt Go.WideMaps Go.WideElems Go.RowKit Go.Abs
theorem own : ownKnob Tryz.prog.godebug = none := by kernel_rfl
/-- a start: each listed table laid out in its variable -/
def flat : Nat → DataW Unit → List Value
  | 0, _ => []
  | _ + 1, .lit (.int k n) => [.int k n]
  | n + 1, .agg l => l.flatMap (flat n)
  | _, _ => []
def laidIn (P : Program) : List (String × DataW Unit) → Array Obj → Array Obj
  | [], h => h
  | x :: r, h => laidIn P r (h.modify ((P.globalNamed x.1).getD 0) fun
      | .cells _ t fr => .cells (flat 3 x.2).toArray t fr
      | o => o)
noncomputable def start (os : Os) : World :=
  { World.holding Tryz.prog os ⟨#[], #[], []⟩ with heap := laidIn Tryz.prog Rows.txnEndsRow.laid (World.holding Tryz.prog os ⟨#[], #[], []⟩).heap }
theorem m1 (os : Os) (args : Array Value) : (DataW.laidRun Tryz.prog ((start os).forCall (fun _ _ => 0) ⟨#[], args, []⟩).memory 8 ((Rows.txnEndsRow.laid.filter fun x => x.2.handleName?.isNone).map (·.1))).map (·.1) = some (Rows.txnEndsRow.laid.filter fun x => x.2.handleName?.isNone) := by kernel_rfl
theorem m2 (os : Os) (args : Array Value) : (DataW.laidRun Tryz.prog ((start os).forCall (fun _ _ => 0) ⟨#[], args, []⟩).memory 8 ((Rows.txnEndsRow.laid.filter fun x => x.2.handleName?.isNone).map (·.1))).map (fun x => decide x.2.Nodup && laidRowsB Tryz.prog ((start os).forCall (fun _ _ => 0) ⟨#[], args, []⟩).memory x.2) = some true := by kernel_rfl
theorem m3 (os : Os) (args : Array Value) : (Rows.txnEndsRow.laid.filter fun x => x.2.handleName?.isSome && x.2.funcsIn?.isNone).all (handleAtB Tryz.prog ((start os).forCall (fun _ _ => 0) ⟨#[], args, []⟩).memory) = true := by kernel_rfl
theorem m4 (os : Os) (args : Array Value) : funcsRun Tryz.prog ((start os).forCall (fun _ _ => 0) ⟨#[], args, []⟩).memory 8 ((funcsListed Rows.txnEndsRow.laid).map (·.1)) = some ((funcsListed Rows.txnEndsRow.laid).map (·.2.funcsOut)) := by kernel_rfl
theorem met (os : Os) (args : Array Value) : laidMetH Tryz.prog Rows.txnEndsRow.laid ((start os).forCall (fun _ _ => 0) ⟨#[], args, []⟩).memory :=
  laidMetH_of_parts3 (fuel := 8) (laidMet_of_run' 8 (m1 os args) (m2 os args)) (m3 os args) (m4 os args)
end Go.Proofs.YtmdlgcmjemdfnaaGreatDoor
