/- What is proved: a part of the proof of the tied card of TxnEnds (text ERuns of it). Conditions: those that its theorems name. -/
import Derived.Test.YtmdlgcmjemdfnaaGreatDoorG12
import Derived.Test.YtmdlgcmjemdfnaaGreatDoorG1
import Derived.Test.YtmdlgcmjemdfnaaGreatDoorProg
import Derived.KernelRfl
set_option linter.unusedVariables false
set_option linter.unusedSimpArgs false
set_option linter.unusedSectionVars false
set_option maxRecDepth 1000000
namespace Go.Abs
open Go.Proofs
noncomputable section
def SgB (f : FuncId) : Option Sp := if f = 526 then some (.ext escX) else if f = 470 then some (.ext cmpX) else if f = 360 then some .mapc else none
def valS : List Ck := [.any, .any, .any]
def intS : List Ck := [.any]
def frS : List Ck := [.sl intS, .any]
theorem c49n : ((runF Tryz.prog SgB 10000).call 49 [.nilsl] ⟨.lf, 0⟩).map (·.1) = some .nilsl := by kernel_rfl
theorem c49e : ((runF Tryz.prog SgB 10000).call 49 [.eltN valS false] ⟨.lf, 0⟩).map (·.1) = some .any := by kernel_rfl
theorem c165n : ((runF Tryz.prog SgB 10000).call 165 [.nilsl] ⟨.lf, 0⟩).map (·.1) = some .nilsl := by kernel_rfl
theorem c165e : ((runF Tryz.prog SgB 10000).call 165 [.eltN valS false] ⟨.lf, 0⟩).map (·.1) = some .any := by kernel_rfl
theorem c166n : ((runF Tryz.prog SgB 10000).call 166 [.nilsl] ⟨.lf, 0⟩).map (·.1) = some .nilsl := by kernel_rfl
theorem c166e : ((runF Tryz.prog SgB 10000).call 166 [.eltN intS false] ⟨.lf, 0⟩).map (·.1) = some .any := by kernel_rfl
theorem rClone : (l_fn Tryz.prog (runF Tryz.prog (SgF SgB 56 cloneESp) 10000) Tryz.f56 [.agg [.any, .any, .any, .any, .any, .any, .inp 0 exS false]] ⟨.lf, 0⟩).map (·.1) = some any7 := by kernel_rfl
def mapR (a b : AV) : AV := .agg [a, b, .any, .any, .any, .any, .any]
theorem rMap1 : (l_fn Tryz.prog (runF Tryz.prog (SgF SgB 270 (mapSp 271)) 10000) Tryz.f270 (mapArgs 271 (.una .i64 (-9223372036854775808) 1)) ⟨.lf, 0⟩).map (·.1) = some (mapR (.una .i64 (-9223372036854775808) 1) U64) := by kernel_rfl
theorem rMap2 : (l_fn Tryz.prog (runF Tryz.prog (SgF SgB 270 (mapSp 271)) 10000) Tryz.f270 (mapArgs 271 (.int .i64 2)) ⟨.lf, 0⟩).map (·.1) = some (mapR (.int .i64 2) .any) := by kernel_rfl
theorem rMap3 : (l_fn Tryz.prog (runF Tryz.prog (SgF SgB 270 (mapSp 271)) 10000) Tryz.f270 (mapArgs 271 (.una .i64 3 9223372036854775807)) ⟨.lf, 0⟩).map (·.1) = some (mapR (.una .i64 3 9223372036854775807) U64) := by kernel_rfl
theorem fun_esc : Tryz.prog.funcs[526]? = some Tryz.f526 := by kernel_rfl
theorem fun_cmp : Tryz.prog.funcs[470]? = some Tryz.f470 := by kernel_rfl
theorem fun_56 : Tryz.prog.funcs[56]? = some Tryz.f56 := by kernel_rfl
theorem fun_270 : Tryz.prog.funcs[270]? = some Tryz.f270 := by kernel_rfl
theorem fun_360 : Tryz.prog.funcs[360]? = some Tryz.f360 := by kernel_rfl
end
end Go.Abs
