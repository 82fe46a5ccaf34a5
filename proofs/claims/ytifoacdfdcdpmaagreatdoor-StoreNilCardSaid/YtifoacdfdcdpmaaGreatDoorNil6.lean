/- What is proved: a part of the proof of the tied card of StoreNil (text Nil6 of it). Conditions: those that its theorems name. -/
import Derived.Test.YtifoacdfdcdpmaaGreatDoorNil5
import Derived.Test.YtifoacdfdcdpmaaGreatDoorNil2
import Derived.Test.YtifoacdfdcdpmaaGreatDoorFx
namespace Go.Proofs.YtifoacdfdcdpmaaGreatDoor
open Go.ChangeShapes Go.WideShapes Go.ChangeAt Go.WideMaps Go.WideElems Go.RowKit Go.Abs
open Go.ChangeMaps (open_string shut_string)
theorem sg_eq : SgT = SgT' := rfl
def tau (cs : Array Value) (s : ByteArray) (n : Int) : Nat → Value := fun i => if i < 10 then (cs.toList[i]?).getD .nilIface else if i = 10 then .string s else .int .i64 n
/-- THE WALK -/
theorem walk (cs : Array Value) (hn : cs.size = 10) (h1 : ∀ v ∈ cs.toList, v.oneCell' = true) (s : ByteArray) (n : Int) (w : World) :
    Calls Tryz.prog 3 #[.agg cs, .string s, .int .i64 n] w fun e w' => e = .returned (.bool true) ∧ Below w.heap.size w w' := by
  have hτ : ∀ (k : Nat) (v : Value), cs.toList[k]? = some v → tau cs s n (0 + k) = v ∧ v.oneCell' = true := by
    intro k v hk
    have hl : k < cs.toList.length := (List.getElem?_eq_some_iff.1 hk).1
    rw [Array.length_toList, hn] at hl
    refine ⟨?_, h1 v (List.mem_of_getElem? hk)⟩
    simp only [tau, Nat.zero_add, hl, if_true, hk, Option.getD_some]
  have ha := opqs_rel (w := w) (τ := tau cs s n) cs.toList 0 hτ
  rw [Array.length_toList, hn] at ha
  have henv := env_ok
  rw [← sg_eq] at henv
  refine closed_call henv nil_runs (.cons _ _ _ _ (.agg _ _ ha) (.cons _ _ _ _ ?_ (.one ?_)))
  · exact .opq 10 rfl
  · exact .opq 11 rfl
theorem laidOut' : laidOutB Tryz.prog = true := Go.Abs.laidOut
theorem cells29 : Tryz.prog.cellsOf 29 = 10 := by kernel_rfl
theorem noInit : Tryz.prog.inits.idxOf? 3 = none := by kernel_rfl
theorem read29 : Tryz.prog.readableRec 29 = true := by kernel_rfl
theorem row29 : 29 < Tryz.prog.types.size := of_decide_eq_true (by kernel_rfl)
noncomputable def fields29 : Array Field := match Tryz.prog.underlying 29 with
  | some (.struct fs) => fs
  | _ => #[]
theorem under29 : Tryz.prog.underlying 29 = some (.struct fields29) := by kernel_rfl
theorem flat29 : flatB Tryz.prog fields29 = true := by kernel_rfl
theorem size29 : fields29.size = 10 := by kernel_rfl
set_option maxRecDepth 100000 in
theorem lifted (os : Os) (started : os.Started) (H : Type) (enc : TypeId × Value → H) :
    ReturnsInHanded {} Tryz.checked os 3 .any (fun w args => (Rows.storeNilSpec.pre enc Tryz.prog Tryz.f3 [] false w args ∧ laidMetH Tryz.prog Rows.storeNilRow.laid w) ∧ sizedMet enc Tryz.prog Tryz.f3 (OpenSpec.ofChange Rows.storeNilSpec) false w args)
      (Rows.storeNilSpec.post enc Tryz.prog Tryz.f3 false true false false) := by
  refine returnsInHanded_of_change_and (C := Tryz.checked) (X := fun w _ => laidMetH Tryz.prog Rows.storeNilRow.laid w) (fun _ _ _ hh h => h.of_heap hh) own started noInit Tryz.func3
    (ChangeSpec.witness_shaped (enc := enc) (C := Tryz.checked) (os := os) (X := fun w _ => laidMetH Tryz.prog Rows.storeNilRow.laid w) false (start os) wit 8 rfl (shaped os wit) (w1 os) (w2 H enc os) (w3 H enc os) (met os _)) ?_
  intro W base args ds gs before hval0 hW _ _ hL _
  have hval : ∀ (j : Nat) t v, Tryz.f3.params[j]? = some t → args[j]? = some v → Value.okWide Tryz.prog W .any base t v := hval0
  have hW' := hW
  obtain ⟨p, q, hA0, hV, rfl, hfz, hnd⟩ := hW
  have hA : DataW.TrodAll enc Tryz.prog W 0 (fun _ => true) true Tryz.f3.params.toList args.toList ds p := hA0
  rw [Tryz.params3] at hA hval
  obtain ⟨v0, vs0, d0, ds0, p0, q0, hargs, rfl, rfl, h0, r0⟩ := trodAll_cons hA
  obtain ⟨v1, vs1, d1, ds1, p1, q1, rfl, rfl, rfl, h1, r1⟩ := trodAll_cons r0
  obtain ⟨v2, vs2, d2, ds2, p2, q2, rfl, rfl, rfl, h2, r2⟩ := trodAll_cons r1
  obtain ⟨rfl, rfl, rfl⟩ := trodAll_nil r2
  obtain rfl : args = #[v0, v1, v2] := by cases args; simp_all
  obtain ⟨rfl, rfl⟩ := trodVars_none hV
  obtain ⟨cs, rfl, hcs⟩ := okWide_struct under29 (hval 0 29 v0 rfl rfl)
  rw [cells29] at hcs
  have k0 := h0
  have lt0 : ∀ x ∈ p0, x.block < W.heap.size := by obtain ⟨m, hm⟩ := k0; exact DataW.trod_lt m _ _ _ hm
  have hone := struct_cells under29 flat29 (by rw [hcs, size29]) h0
  obtain ⟨s, rfl, rfl, rfl, ws⟩ := open_string Tryz.underlying9 (hval 1 9 v1 rfl rfl) h1
  obtain ⟨n, rfl, rfl, rfl, wn⟩ := open_int Tryz.underlying3 (hval 2 3 v2 rfl rfl) h2
  clear hA0 hval0
  refine (walk cs hcs hone s n W).mono fun e W' ⟨he, bel⟩ => ?_
  subst he
  exact ⟨_, rfl, _, _, _, [], _, [], hW', trodAll_mk1 (shut_bool Tryz.underlying4 _), (trodAll_cons_mk (Below.trod laidOut' read29 row29 k0 bel lt0) (trodAll_cons_mk (shut_string Tryz.underlying9 ws) (trodAll_cons_mk (shut_int Tryz.underlying3 wn) trodAll_mk0))), rfl, bel.frame _, fun h => by cases h⟩
end Go.Proofs.YtifoacdfdcdpmaaGreatDoor
