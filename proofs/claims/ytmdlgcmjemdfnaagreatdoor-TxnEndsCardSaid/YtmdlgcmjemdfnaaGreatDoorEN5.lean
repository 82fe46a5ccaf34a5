/- What is proved: a part of the proof of the tied card of TxnEnds (text EN5 of it). Conditions: those that its theorems name. -/
import Derived.Test.YtmdlgcmjemdfnaaGreatDoorEN4
set_option linter.unusedVariables false
set_option linter.unusedSimpArgs false
set_option linter.unusedSectionVars false
namespace Go.Proofs.YtmdlgcmjemdfnaaGreatDoor
open Go.ChangeShapes Go.WideShapes Go.ChangeAt Go.WideMaps Go.WideElems Go.RowKit Go.Abs
theorem s1 (os : Os) (args : Array Value) : ((start os).forCall (fun _ _ => 0) ⟨#[], args, []⟩).variablesRefB Tryz.prog = true := by kernel_rfl
theorem s2 (os : Os) (args : Array Value) : (((start os).forCall (fun _ _ => 0) ⟨#[], args, []⟩).heap.toList.drop Tryz.prog.globals.size).take ((begin Tryz.prog (fun _ _ => 0) default).world.heap.size - Tryz.prog.globals.size) =
      (begin Tryz.prog (fun _ _ => 0) default).world.heap.toList.drop Tryz.prog.globals.size := by kernel_rfl
theorem shaped (os : Os) (args : Array Value) : ((start os).forCall (fun _ _ => 0) ⟨#[], args, []⟩).Shaped Tryz.prog := World.shaped_of_RefB (s1 os args) (s2 os args)
noncomputable def wit : Array Value := #[((Tryz.prog.info? 44).bind (·.zero)).getD .nilIface, .int .i64 0]
theorem w1 (os : Os) : Input.okWideB Tryz.prog ((start os).forCall (fun _ _ => 0) ⟨#[], wit, []⟩) 3 ⟨#[], wit, []⟩ = true := by kernel_rfl
theorem w2 (H : Type) (enc : TypeId × Value → H) (os : Os) : Rows.txnEndsSpec.preB enc Tryz.prog Tryz.f3 [] false ((start os).forCall (fun _ _ => 0) ⟨#[], wit, []⟩).memory wit 8 = true := by kernel_rfl
theorem w3 (H : Type) (enc : TypeId × Value → H) (os : Os) : Rows.txnEndsSpec.sizedB enc Tryz.prog Tryz.f3 false ((start os).forCall (fun _ _ => 0) ⟨#[], wit, []⟩).memory wit 8 = true := by kernel_rfl
end Go.Proofs.YtmdlgcmjemdfnaaGreatDoor
