/- What is proved: a part of the proof of the tied card of TxnEnds (text EEnv of it). Conditions: those that its theorems name. -/
import Derived.Test.YtmdlgcmjemdfnaaGreatDoorERuns
import Derived.Test.YtmdlgcmjemdfnaaGreatDoorEAwake
import Derived.Test.YtmdlgcmjemdfnaaGreatDoorERunA
import Derived.Test.YtmdlgcmjemdfnaaGreatDoorERunB
import Derived.KernelRfl
import Derived.Laws.Externs
set_option linter.unusedVariables false
set_option linter.unusedSimpArgs false
set_option linter.unusedSectionVars false
namespace Go.Abs
open Go.Proofs
noncomputable section
theorem names_ok : ∀ (f : FuncId) (fn : Func), Tryz.prog.funcs[f]? = some fn → fn.body.isNone = false → (fn.name == "runtime.NumGoroutine") = false := by
  have h : Tryz.prog.funcs.all (fun fn => fn.body.isNone || !(fn.name == "runtime.NumGoroutine")) = true := by kernel_rfl
  intro f fn hf hb
  have h1 := Array.all_eq_true'.1 h fn (Array.mem_of_getElem? hf)
  rw [hb] at h1
  simpa using h1
theorem envB [Bnd] : Sound Tryz.prog SgB where
  names := names_ok
  spec f sp h := by
    unfold SgB at h
    split at h
    · cases h
    · split at h
      · cases h
      · split at h <;> cases h
  ext f sp h := by
    unfold SgB at h
    split at h
    · rename_i hf
      injection h with h; injection h with h
      subst h; subst hf
      exact esc_ok fun_esc (by kernel_rfl) (by kernel_rfl) (by kernel_rfl) (by kernel_rfl)
    · split at h
      · rename_i hf
        injection h with h; injection h with h
        subst h; subst hf
        exact cmp_ok fun_cmp (by kernel_rfl) (by kernel_rfl) (by kernel_rfl) (by kernel_rfl)
      · split at h <;> cases h
  mapc f h := by
    unfold SgB at h
    split at h
    · cases h
    · split at h
      · cases h
      · split at h
        · rename_i hf
          subst hf
          exact mapc_ok fun_360 (by kernel_rfl) (by kernel_rfl) (by kernel_rfl) (by kernel_rfl)
        · cases h
  memo f es h := by
    unfold SgB at h
    split at h
    · cases h
    · split at h
      · cases h
      · split at h <;> cases h
  mixed := by kernel_rfl
theorem sp49 [Bnd] : SpecOK Tryz.prog 49 (cloneSp valS) := clone_spec envB c49n c49e rfl rfl
theorem sp165 [Bnd] : SpecOK Tryz.prog 165 (cloneSp valS) := clone_spec envB c165n c165e rfl rfl
theorem sp166 [Bnd] : SpecOK Tryz.prog 166 (cloneSp intS) := clone_spec envB c166n c166e rfl rfl
theorem sp56 : ∀ B : Nat, @SpecOK ⟨B⟩ Tryz.prog 56 cloneESp := cloneE_spec fun_56 (fun B => envB) rfl rfl rClone
theorem sp270 : ∀ B : Nat, @SpecOK ⟨B⟩ Tryz.prog 270 (mapSp 271) := mapped_spec fun_270 (fun B => envB) rfl rfl rfl rfl rfl rfl rMap1 rMap2 rMap3
theorem envA [Bnd] : Sound Tryz.prog SgA := sound_add envB (by
  intro f es h
  simp only [msA, List.mem_cons, Prod.mk.injEq, List.not_mem_nil, or_false] at h
  rcases h with ⟨rfl, rfl⟩ | ⟨rfl, rfl⟩ | ⟨rfl, rfl⟩ | ⟨rfl, rfl⟩
  · exact memo_of envB (by simp) 100000 (fun e he => by
      simp only [List.mem_cons, List.not_mem_nil, or_false] at he
      subst he
      exact run18)
  · exact memo_of envB (by simp) 100000 (fun e he => by
      simp only [List.mem_cons, List.not_mem_nil, or_false] at he
      subst he
      exact run15)
  · exact memo_of envB (by simp) 100000 (fun e he => by
      simp only [List.mem_cons, List.not_mem_nil, or_false] at he
      subst he
      exact run8)
  · exact memo_of envB (by simp) 100000 (fun e he => by
      simp only [List.mem_cons, List.not_mem_nil, or_false] at he
      subst he
      exact run38))
theorem sp12 [Bnd] : SpecOK Tryz.prog 12 (boolSp true) := spec_closed envA awake_run
theorem envT [Bnd] : Sound Tryz.prog SgT := sound_fn (sound_fn (sound_fn (sound_fn (sound_fn (sound_fn envB sp166) sp165) sp49) (sp270 Bnd.B)) (sp56 Bnd.B)) sp12
end
end Go.Abs
