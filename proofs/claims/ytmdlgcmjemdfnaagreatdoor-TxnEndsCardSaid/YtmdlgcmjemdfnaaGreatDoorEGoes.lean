/- What is proved: a part of the proof of the tied card of TxnEnds (text EGoes of it). Conditions: those that its theorems name. -/
import Derived.Test.YtmdlgcmjemdfnaaGreatDoorEL3
import Derived.SevenTiedAt
set_option linter.unusedVariables false
set_option linter.unusedSimpArgs false
set_option linter.unusedSectionVars false
namespace Go.Proofs.YtmdlgcmjemdfnaaGreatDoor
open Go
theorem goes_c0 : (List.range' 0 40).all (fun g => !((Tryz.prog.funcs[g]?).any Func.goes)) = true := by kernel_rfl
theorem goes_c1 : (List.range' 40 40).all (fun g => !((Tryz.prog.funcs[g]?).any Func.goes)) = true := by kernel_rfl
theorem goes_c2 : (List.range' 80 40).all (fun g => !((Tryz.prog.funcs[g]?).any Func.goes)) = true := by kernel_rfl
theorem goes_c3 : (List.range' 120 40).all (fun g => !((Tryz.prog.funcs[g]?).any Func.goes)) = true := by kernel_rfl
theorem goes_c4 : (List.range' 160 40).all (fun g => !((Tryz.prog.funcs[g]?).any Func.goes)) = true := by kernel_rfl
theorem goes_c5 : (List.range' 200 40).all (fun g => !((Tryz.prog.funcs[g]?).any Func.goes)) = true := by kernel_rfl
theorem goes_c6 : (List.range' 240 40).all (fun g => !((Tryz.prog.funcs[g]?).any Func.goes)) = true := by kernel_rfl
theorem goes_c7 : (List.range' 280 40).all (fun g => !((Tryz.prog.funcs[g]?).any Func.goes)) = true := by kernel_rfl
theorem goes_c8 : (List.range' 320 40).all (fun g => !((Tryz.prog.funcs[g]?).any Func.goes)) = true := by kernel_rfl
theorem goes_c9 : (List.range' 360 40).all (fun g => !((Tryz.prog.funcs[g]?).any Func.goes)) = true := by kernel_rfl
theorem goes_c10 : (List.range' 400 40).all (fun g => !((Tryz.prog.funcs[g]?).any Func.goes)) = true := by kernel_rfl
theorem goes_c11 : (List.range' 440 40).all (fun g => !((Tryz.prog.funcs[g]?).any Func.goes)) = true := by kernel_rfl
theorem goes_c12 : (List.range' 480 40).all (fun g => !((Tryz.prog.funcs[g]?).any Func.goes)) = true := by kernel_rfl
theorem goes_c13 : (List.range' 520 40).all (fun g => !((Tryz.prog.funcs[g]?).any Func.goes)) = true := by kernel_rfl
theorem goes_c14 : (List.range' 560 40).all (fun g => !((Tryz.prog.funcs[g]?).any Func.goes)) = true := by kernel_rfl
theorem goes_c15 : (List.range' 600 16).all (fun g => !((Tryz.prog.funcs[g]?).any Func.goes)) = true := by kernel_rfl
theorem goes_all0 : (List.range 0).all (fun g => !((Tryz.prog.funcs[g]?).any Func.goes)) = true := rfl
theorem goes_all1 : (List.range 40).all (fun g => !((Tryz.prog.funcs[g]?).any Func.goes)) = true := Go.Abs.all_pieces goes_all0 goes_c0 rfl
theorem goes_all2 : (List.range 80).all (fun g => !((Tryz.prog.funcs[g]?).any Func.goes)) = true := Go.Abs.all_pieces goes_all1 goes_c1 rfl
theorem goes_all3 : (List.range 120).all (fun g => !((Tryz.prog.funcs[g]?).any Func.goes)) = true := Go.Abs.all_pieces goes_all2 goes_c2 rfl
theorem goes_all4 : (List.range 160).all (fun g => !((Tryz.prog.funcs[g]?).any Func.goes)) = true := Go.Abs.all_pieces goes_all3 goes_c3 rfl
theorem goes_all5 : (List.range 200).all (fun g => !((Tryz.prog.funcs[g]?).any Func.goes)) = true := Go.Abs.all_pieces goes_all4 goes_c4 rfl
theorem goes_all6 : (List.range 240).all (fun g => !((Tryz.prog.funcs[g]?).any Func.goes)) = true := Go.Abs.all_pieces goes_all5 goes_c5 rfl
theorem goes_all7 : (List.range 280).all (fun g => !((Tryz.prog.funcs[g]?).any Func.goes)) = true := Go.Abs.all_pieces goes_all6 goes_c6 rfl
theorem goes_all8 : (List.range 320).all (fun g => !((Tryz.prog.funcs[g]?).any Func.goes)) = true := Go.Abs.all_pieces goes_all7 goes_c7 rfl
theorem goes_all9 : (List.range 360).all (fun g => !((Tryz.prog.funcs[g]?).any Func.goes)) = true := Go.Abs.all_pieces goes_all8 goes_c8 rfl
theorem goes_all10 : (List.range 400).all (fun g => !((Tryz.prog.funcs[g]?).any Func.goes)) = true := Go.Abs.all_pieces goes_all9 goes_c9 rfl
theorem goes_all11 : (List.range 440).all (fun g => !((Tryz.prog.funcs[g]?).any Func.goes)) = true := Go.Abs.all_pieces goes_all10 goes_c10 rfl
theorem goes_all12 : (List.range 480).all (fun g => !((Tryz.prog.funcs[g]?).any Func.goes)) = true := Go.Abs.all_pieces goes_all11 goes_c11 rfl
theorem goes_all13 : (List.range 520).all (fun g => !((Tryz.prog.funcs[g]?).any Func.goes)) = true := Go.Abs.all_pieces goes_all12 goes_c12 rfl
theorem goes_all14 : (List.range 560).all (fun g => !((Tryz.prog.funcs[g]?).any Func.goes)) = true := Go.Abs.all_pieces goes_all13 goes_c13 rfl
theorem goes_all15 : (List.range 600).all (fun g => !((Tryz.prog.funcs[g]?).any Func.goes)) = true := Go.Abs.all_pieces goes_all14 goes_c14 rfl
theorem goes_all16 : (List.range 616).all (fun g => !((Tryz.prog.funcs[g]?).any Func.goes)) = true := Go.Abs.all_pieces goes_all15 goes_c15 rfl
theorem funcs_n : Tryz.prog.funcs.size = 616 := by kernel_rfl
theorem none_goes (g : Nat) (fn : Func) (h : Tryz.prog.funcs[g]? = some fn) : fn.goes = false := by
  have hg : g < 616 := by rw [← funcs_n]; exact (Array.getElem?_eq_some_iff.1 h).1
  have h1 := List.all_eq_true.1 goes_all16 g (List.mem_range.2 hg)
  rw [h] at h1
  simpa using h1
theorem goes_off (f : FuncId) : Tryz.prog.goes f = false := by
  have h2 : Tryz.prog.funcs.any Func.goes = false := by
    rw [Array.any_eq_false]
    intro i hi
    have := none_goes i _ (Array.getElem?_eq_getElem hi)
    simpa using this
  unfold Program.goes
  rw [h2, Bool.and_false, Bool.or_false, List.any_eq_false]
  intro g _
  cases h : Tryz.prog.funcs[g]? with
  | none => simp
  | some fn => simpa using none_goes g fn h
end Go.Proofs.YtmdlgcmjemdfnaaGreatDoor
