/- What is proved: a part of the proof of the tied card of TxnEnds (text EN7 of it). Conditions: those that its theorems name. -/
import Derived.Test.YtmdlgcmjemdfnaaGreatDoorEN6
import Derived.Test.YtmdlgcmjemdfnaaGreatDoorEFNamed
set_option linter.unusedVariables false
set_option linter.unusedSimpArgs false
set_option linter.unusedSectionVars false
namespace Go.Proofs.YtmdlgcmjemdfnaaGreatDoor
open Go
theorem f_recurses : (Rows.txnEndsRow.recurses == Tryz.prog.recurses 3) = true := by
  have h := f_unfollowed
  rw [beq_iff_eq] at h ⊢
  unfold Program.recurses
  rw [← h]
  rfl
theorem closed : joinedFacts Tryz.prog 3 Tryz.f3 Rows.txnEndsSpec Rows.txnEndsRow = true := by
  have hs := x_stops
  have hi := x_ios
  have ho := x_outs
  have hh := x_heard
  have hk := x_kinds
  have hv := x_veiled
  simp only [Bool.and_eq_true] at hs hi ho hh hk hv
  obtain ⟨⟨⟨s1, s2⟩, s3⟩, s4⟩ := hs
  obtain ⟨⟨⟨⟨i1, i2⟩, i3⟩, i4⟩, i5⟩ := hi
  obtain ⟨⟨⟨o1, o2⟩, o3⟩, o4⟩ := ho
  unfold joinedFacts
  simp only [Bool.and_eq_true]
  refine And.intro ?_ hv.2
  refine And.intro ?_ hv.1
  refine And.intro ?_ hk.2
  refine And.intro ?_ (by kernel_rfl)
  refine And.intro ?_ x_make
  refine And.intro ?_ x_lifted
  refine And.intro ?_ x_mayEnter
  refine And.intro ?_ hh.2
  refine And.intro ?_ hh.1
  refine And.intro ?_ x_plainKeys
  refine And.intro ?_ o4
  refine And.intro ?_ o3
  refine And.intro ?_ o2
  refine And.intro ?_ o1
  refine And.intro ?_ i5
  refine And.intro ?_ i4
  refine And.intro ?_ i3
  refine And.intro ?_ i2
  refine And.intro ?_ i1
  refine And.intro ?_ x_named
  refine And.intro ?_ f_recurses
  refine And.intro ?_ f_unfollowed
  refine And.intro ?_ f_inPlace
  refine And.intro ?_ s4
  refine And.intro ?_ s3
  refine And.intro ?_ s2
  refine And.intro ?_ s1
  refine And.intro ?_ x_namedTie
  refine And.intro ?_ x_params
  refine And.intro ?_ x_maps
  refine And.intro ?_ laidOut'
  exact x_wf
theorem inst3 : Tryz.f3.isInstance Tryz.prog Rows.txnEndsRow.origin Rows.txnEndsRow.targs := of_decide_eq_true (by kernel_rfl)
theorem fn3 : Tryz.prog.funcNamed Rows.txnEndsRow.func = some 3 := by kernel_rfl
set_option maxRecDepth 1000000 in
theorem wrap3 : Tryz.f3.isWrapper Tryz.prog Rows.txnEndsRow.wrapper Rows.txnEndsRow.mainSum := by unfold Func.isWrapper; first | (rw [if_pos (by decide +kernel)]; kernel_rfl) | (rw [if_neg (by decide +kernel)]; exact ⟨by kernel_rfl, by kernel_rfl⟩)
theorem txnEnds_holds : Rows.TxnEndsSaid :=
  OpenClaim.holds_of_wide 3 Tryz.f3 rfl rfl rfl rfl rfl rfl rfl ⟨rfl, rfl, rfl, rfl, rfl⟩ rfl rfl rfl rfl rfl fn3 Tryz.func3 closed inst3 wrap3
    (fun os started H enc _ => lifted os started H enc)
#print axioms txnEnds_holds
end Go.Proofs.YtmdlgcmjemdfnaaGreatDoor
