/- What is proved: a part of the proof of the tied card of StoreNil (text Nil3 of it). Conditions: those that its theorems name. -/
import Derived.Test.YtifoacdfdcdpmaaGreatDoorNil1
namespace Go.Abs
open Go.Proofs
def SgT' (f : FuncId) : Option Sp := if f = 358 then some (.ext escX) else if f = 338 then some (.ext cmpX) else none
theorem names_ok : ∀ (f : FuncId) (fn : Func), Tryz.prog.funcs[f]? = some fn → fn.body.isNone = false → (fn.name == "runtime.NumGoroutine") = false := by
  have h : Tryz.prog.funcs.all (fun fn => fn.body.isNone || !(fn.name == "runtime.NumGoroutine")) = true := by kernel_rfl
  intro f fn hf hb
  have h1 := Array.all_eq_true'.1 h fn (Array.mem_of_getElem? hf)
  rw [hb] at h1
  simpa using h1
theorem env_ok : Sound Tryz.prog SgT' where
  names := names_ok
  spec f sp h := by
    unfold SgT' at h
    split at h
    · cases h
    · split at h <;> cases h
  ext f sp h := by
    unfold SgT' at h
    split at h
    · rename_i hf
      injection h with h; injection h with h
      subst h; subst hf
      exact esc_ok Tryz.func358 (by kernel_rfl) (by kernel_rfl) (by kernel_rfl) (by kernel_rfl)
    · split at h
      · rename_i hf
        injection h with h; injection h with h
        subst h; subst hf
        exact cmp_ok Tryz.func338 (by kernel_rfl) (by kernel_rfl) (by kernel_rfl) (by kernel_rfl)
      · cases h
  mixed := by kernel_rfl
end Go.Abs
