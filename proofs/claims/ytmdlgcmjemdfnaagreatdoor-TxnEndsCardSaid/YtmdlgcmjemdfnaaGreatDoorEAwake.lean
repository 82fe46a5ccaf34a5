/- What is proved: a part of the proof of the tied card of TxnEnds (text EAwake of it). Conditions: those that its theorems name. -/
import Derived.Test.YtmdlgcmjemdfnaaGreatDoorEMemo
set_option linter.unusedVariables false
set_option linter.unusedSimpArgs false
set_option linter.unusedSectionVars false
set_option maxRecDepth 1000000
namespace Go.Abs
open Go.Proofs
noncomputable section
theorem awake_run : ((runF Tryz.prog SgA 100000).call 12 [] ⟨.lf, 0⟩).map (·.1) = some (.bool true) := by kernel_rfl
def opAV (k : AV) : AV := .agg [k, .any, .inp 0 [.sl valS] true, .any, .any, .any, .any, .any, .any, .inp 1 exS true, .inp 2 exS true, .any, .any,
  .any, .inp 3 valS true, .inp 4 intS true, .inp 5 frS true, .inp 6 exS true,
  .any, .any, .any, .any, .any, .any, .any, .any, .any, .any, .any, .any, .any, .any, .any, .any]
def SgT : FuncId → Option Sp := SgF (SgF (SgF (SgF (SgF (SgF SgB 166 (cloneSp intS)) 165 (cloneSp valS)) 49 (cloneSp valS)) 270 (mapSp 271)) 56 cloneESp) 12 (boolSp true)
end
end Go.Abs
