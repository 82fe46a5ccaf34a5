/- What is proved: a part of the proof of the tied card of TxnEnds (text EL3 of it). Conditions: those that its theorems name. -/
import Derived.Test.YtmdlgcmjemdfnaaGreatDoorERuns
import Derived.KernelRfl
import GoSem.ClaimDataLaid
set_option linter.unusedVariables false
set_option linter.unusedSimpArgs false
set_option linter.unusedSectionVars false
namespace Go.Abs
open Go.Proofs
theorem all_pieces {p : Nat → Bool} {a b c : Nat} (h1 : (List.range a).all p = true) (h2 : (List.range' a b).all p = true) (hc : a + b = c) : (List.range c).all p = true := by
  subst hc
  rw [List.range_eq_range'] at h1 ⊢
  rw [← List.range'_append (s := 0) (m := a) (n := b) (step := 1), List.all_append, h1]
  simpa using h2
theorem laid_c0 : (List.range' 0 40).all (rowFine Tryz.prog) = true := by kernel_rfl
theorem laid_c1 : (List.range' 40 40).all (rowFine Tryz.prog) = true := by kernel_rfl
theorem laid_c2 : (List.range' 80 40).all (rowFine Tryz.prog) = true := by kernel_rfl
theorem laid_c3 : (List.range' 120 40).all (rowFine Tryz.prog) = true := by kernel_rfl
theorem laid_c4 : (List.range' 160 40).all (rowFine Tryz.prog) = true := by kernel_rfl
theorem laid_c5 : (List.range' 200 40).all (rowFine Tryz.prog) = true := by kernel_rfl
theorem laid_c6 : (List.range' 240 40).all (rowFine Tryz.prog) = true := by kernel_rfl
theorem laid_c7 : (List.range' 280 40).all (rowFine Tryz.prog) = true := by kernel_rfl
theorem laid_c8 : (List.range' 320 40).all (rowFine Tryz.prog) = true := by kernel_rfl
theorem laid_c9 : (List.range' 360 40).all (rowFine Tryz.prog) = true := by kernel_rfl
theorem laid_c10 : (List.range' 400 40).all (rowFine Tryz.prog) = true := by kernel_rfl
theorem laid_c11 : (List.range' 440 40).all (rowFine Tryz.prog) = true := by kernel_rfl
theorem laid_c12 : (List.range' 480 40).all (rowFine Tryz.prog) = true := by kernel_rfl
theorem laid_c13 : (List.range' 520 40).all (rowFine Tryz.prog) = true := by kernel_rfl
theorem laid_c14 : (List.range' 560 40).all (rowFine Tryz.prog) = true := by kernel_rfl
theorem laid_c15 : (List.range' 600 40).all (rowFine Tryz.prog) = true := by kernel_rfl
theorem laid_all0 : (List.range 0).all (rowFine Tryz.prog) = true := rfl
theorem laid_all1 : (List.range 40).all (rowFine Tryz.prog) = true := all_pieces laid_all0 laid_c0 rfl
theorem laid_all2 : (List.range 80).all (rowFine Tryz.prog) = true := all_pieces laid_all1 laid_c1 rfl
theorem laid_all3 : (List.range 120).all (rowFine Tryz.prog) = true := all_pieces laid_all2 laid_c2 rfl
theorem laid_all4 : (List.range 160).all (rowFine Tryz.prog) = true := all_pieces laid_all3 laid_c3 rfl
theorem laid_all5 : (List.range 200).all (rowFine Tryz.prog) = true := all_pieces laid_all4 laid_c4 rfl
theorem laid_all6 : (List.range 240).all (rowFine Tryz.prog) = true := all_pieces laid_all5 laid_c5 rfl
theorem laid_all7 : (List.range 280).all (rowFine Tryz.prog) = true := all_pieces laid_all6 laid_c6 rfl
theorem laid_all8 : (List.range 320).all (rowFine Tryz.prog) = true := all_pieces laid_all7 laid_c7 rfl
theorem laid_all9 : (List.range 360).all (rowFine Tryz.prog) = true := all_pieces laid_all8 laid_c8 rfl
theorem laid_all10 : (List.range 400).all (rowFine Tryz.prog) = true := all_pieces laid_all9 laid_c9 rfl
theorem laid_all11 : (List.range 440).all (rowFine Tryz.prog) = true := all_pieces laid_all10 laid_c10 rfl
theorem laid_all12 : (List.range 480).all (rowFine Tryz.prog) = true := all_pieces laid_all11 laid_c11 rfl
theorem laid_all13 : (List.range 520).all (rowFine Tryz.prog) = true := all_pieces laid_all12 laid_c12 rfl
theorem laid_all14 : (List.range 560).all (rowFine Tryz.prog) = true := all_pieces laid_all13 laid_c13 rfl
theorem laid_all15 : (List.range 600).all (rowFine Tryz.prog) = true := all_pieces laid_all14 laid_c14 rfl
theorem laid_all16 : (List.range 640).all (rowFine Tryz.prog) = true := all_pieces laid_all15 laid_c15 rfl
theorem types_n : Tryz.prog.types.size = 640 := by kernel_rfl
theorem laid_globals : Tryz.prog.globals.all (fun g => decide (g.type < Tryz.prog.types.size)) = true := by kernel_rfl
theorem laid_funcs : Tryz.prog.funcs.all (fun f => f.params.all fun t => decide (t < Tryz.prog.types.size)) = true := by
  have h : Tryz.prog.funcs.all (fun f => f.params.all fun t => decide (t < 640)) = true := by kernel_rfl
  rw [types_n]; exact h
theorem laidOut : laidOutB Tryz.prog = true := by
  unfold laidOutB
  rw [laid_globals, laid_funcs, types_n, laid_all16]
  rfl
end Go.Abs
