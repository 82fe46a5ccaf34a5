/- What is proved: a part of the proof of the tied card of StoreNil (text Abs8 of it). Conditions: those that its theorems name. -/
import Derived.Test.YtifoacdfdcdpmaaGreatDoorAbs7
set_option linter.unusedVariables false
set_option linter.unusedSimpArgs false
namespace Go.Abs
variable {P : Program} {x : Cx} {w : World}
theorem vals_isSome (o : IV) : (vals o).isSome = o.isSome := by cases o <;> rfl
theorem avs_isSome (o : IV) : (avs o).isSome = o.isSome := by cases o <;> rfl
theorem slice_run {t e : TypeId} {s len cap a b m : Nat} {A : Option Addr} {l0 h0 m0 : IV} (hu : P.underlying t = some (.slice e)) (hs : sizeT P e = some s)
    (hsm : m0.isSome = true → h0.isSome = true) (hm : bnd m0 cap cap m) (hb : bnd h0 len m b) (ha : bnd l0 0 b a) :
    (Instr.sliceAt t (.slice A len cap) (vals l0) (vals h0) (vals m0)).run P w = .ok (.slice (if m = a then A else A.map (·.add (a * s))) (b - a) (m - a)) w := by
  simp [Instr.sliceAt, Instr.slice, run_underlying hu, bounds_run true hsm hm hb ha, run_sizeOf' hs]
theorem b_le {len cap b m : Nat} {h0 m0 : IV} (hlc : len ≤ cap) (k1 : m0.isSome = true → h0.isSome = true) (k2 : bnd m0 cap cap m) (k3 : bnd h0 len m b) : b ≤ m := by
  cases h0 with
  | none =>
    cases m0 with
    | none => simp only [bnd] at k2 k3; omega
    | some _ => simp at k1
  | some q => exact bnd_le (d := 0) (bnd_top k3 rfl (Nat.le_refl _)) (Nat.zero_le _)
theorem bnd_conc {len cap cap' b m : Nat} {h0 m0 : IV} (k1 : m0.isSome = true → h0.isSome = true) (k2 : bnd m0 cap cap m) (k3 : bnd h0 len m b) (hc : cap ≤ cap') :
    ∃ m', bnd m0 cap' cap' m' ∧ bnd h0 len m' b ∧ (m0 = none → m' = cap') ∧ (m0.isSome = true → m' = m) := by
  cases m0 with
  | none =>
    simp only [bnd] at k2
    subst k2
    refine ⟨cap', rfl, ?_, (fun _ => rfl), (fun h => by cases h)⟩
    cases h0 with
    | none => exact k3
    | some q => exact bnd_top k3 rfl hc
  | some q => exact ⟨m, bnd_top k2 rfl hc, k3, (fun h => by cases h), (fun _ => rfl)⟩
theorem sliceS_sim {t e : TypeId} {s : Nat} {c v : AV} {p : Value} {lo hi mx : Option AV} {lo' hi' mx' : Option Value} (hu : P.underlying t = some (.slice e)) (hs : sizeT P e = some s) (h : sliceS t lo hi mx s c = some v) (hp : VRel x w c p)
    (h1 : OR x w lo lo') (h2 : OR x w hi hi') (h3 : OR x w mx mx') : ∃ r, (Instr.sliceAt t p lo' hi' mx').run P w = .ok r w ∧ VRel x w v r := by
  cases hp <;> simp only [sliceS] at h <;> (try (cases h; done))
  case nilsl =>
    split at h
    · rename_i q hq
      obtain ⟨a, b, m⟩ := q
      injection h with h; subst h
      obtain ⟨l0, h0, m0, rfl, rfl, rfl, k1, k2, k3, k4⟩ := bndA_form hq
      rw [OR_vals h1, OR_vals h2, OR_vals h3]
      have hm0 := bnd_le k2 (Nat.le_refl _)
      have hb0 := bnd_le k3 (Nat.zero_le _)
      have ha0 := bnd_le k4 (Nat.zero_le _)
      obtain rfl : m = 0 := by omega
      obtain rfl : b = 0 := by omega
      obtain rfl : a = 0 := by omega
      exact ⟨_, slice_run hu hs k1 k2 k3 k4, by simpa using VRel.nilsl⟩
    · cases h
  case zsl a0 =>
    split at h
    · rename_i q hq
      obtain ⟨a, b, m⟩ := q
      injection h with h; subst h
      obtain ⟨l0, h0, m0, rfl, rfl, rfl, k1, k2, k3, k4⟩ := bndA_form hq
      rw [OR_vals h1, OR_vals h2, OR_vals h3]
      have hm0 := bnd_le k2 (Nat.le_refl _)
      have hb0 := bnd_le k3 (Nat.zero_le _)
      have ha0 := bnd_le k4 (Nat.zero_le _)
      obtain rfl : m = 0 := by omega
      obtain rfl : b = 0 := by omega
      obtain rfl : a = 0 := by omega
      exact ⟨_, slice_run hu hs k1 k2 k3 k4, by simpa using VRel.zsl _⟩
    · cases h
  case esl a0 cap =>
    split at h
    · rename_i q hq
      obtain ⟨a, b, m⟩ := q
      obtain ⟨l0, h0, m0, rfl, rfl, rfl, k1, k2, k3, k4⟩ := bndA_form hq
      rw [OR_vals h1, OR_vals h2, OR_vals h3]
      have hm0 := bnd_le k2 (Nat.le_refl _)
      have hb0 := bnd_le k3 (Nat.zero_le _)
      have ha0 := bnd_le k4 (Nat.zero_le _)
      obtain rfl : m = 0 := by omega
      obtain rfl : b = 0 := by omega
      obtain rfl : a = 0 := by omega
      cases m0 with
      | none =>
        injection h with h; subst h
        have k3' : bnd h0 0 cap 0 := by
          cases h0 with
          | none => rfl
          | some q => exact bnd_top k3 rfl (Nat.zero_le _)
        refine ⟨_, slice_run (m := cap) hu hs k1 rfl k3' k4, ?_⟩
        split
        · simpa using VRel.esl _ _
        · simpa using VRel.esl _ _
      | some q =>
        injection h with h; subst h
        refine ⟨_, slice_run (m := 0) hu hs k1 (bnd_top k2 rfl (Nat.zero_le _)) k3 k4, by simpa using VRel.zsl _⟩
    · cases h
  case lst len cells vs A cap hc hA hvs hl =>
    split at h
    · rename_i a b m hq
      obtain ⟨l0, h0, m0, rfl, rfl, rfl, k1, k2, k3, k4⟩ := bndA_form hq
      rw [OR_vals h1, OR_vals h2, OR_vals h3]
      have hbm := b_le (Nat.le_refl _) k1 k2 k3
      have hml := bnd_le k2 (Nat.le_refl _)
      have hab := bnd_le k4 (Nat.zero_le _)
      obtain ⟨m', q1, q2, q3, q4⟩ := bnd_conc k1 k2 k3 hc
      refine ⟨_, slice_run hu hs k1 q1 q2 k4, ?_⟩
      have hm' : m ≤ m' := by
        cases m0 with
        | none => rw [q3 rfl]; omega
        | some _ => rw [q4 rfl]; exact Nat.le_refl _
      have hcap : m' ≤ cap := bnd_le q1 (Nat.le_refl _)
      split at h
      · rename_i hal
        injection h with h; subst h
        obtain ⟨a0, rfl, hl0⟩ := hl (by omega)
        have hv2 : VRels x w ((cells.take (b * s)).drop (a * s)) ((vs.take (b * s)).drop (a * s)) := (hvs.take _).drop _
        split
        · rename_i hma
          have : b - a = 0 := by omega
          refine .lst _ _ _ _ _ (by omega) (by simp) hv2 (fun hp => by omega)
        · exact .lst _ _ _ _ _ (by omega) (by simp) hv2 (fun _ => ⟨_, rfl, lies_drop (lies_take hl0)⟩)
      · rename_i hal
        split at h
        · rename_i hz
          injection h with h; subst h
          obtain ⟨a0, rfl, hl0⟩ := hl hz.2.2
          rw [avs_isSome] at hz
          have e1 := q4 hz.1
          obtain rfl : a = 0 := by omega
          obtain rfl : b = 0 := by omega
          obtain rfl : m' = 0 := by omega
          simpa using VRel.zsl a0
        · rename_i hz
          injection h with h; subst h
          have : b - a = 0 := by
            by_cases h0 : a < len
            · have : m = 0 := by omega
              omega
            · omega
          rw [this]
          refine .lst 0 [] [] _ _ (Nat.zero_le _) (fun hA' => ?_) .nil (fun hp => by omega)
          have hAn : A = none := by
            split at hA'
            · exact hA'
            · simpa using hA'
          have := hA hAn
          omega
    · cases h
  case sl n off len cap ex es c cap' hm hc he hl hk =>
    split at h
    case isFalse => cases h
    rename_i hes
    subst hes
    split at h
    · rename_i a b m hq
      obtain ⟨l0, h0, m0, rfl, rfl, rfl, k1, k2, k3, k4⟩ := bndA_form hq
      rw [OR_vals h1, OR_vals h2, OR_vals h3]
      have hbm := b_le hl k1 k2 k3
      have hml := bnd_le k2 (Nat.le_refl _)
      have hab := bnd_le k4 (Nat.zero_le _)
      obtain ⟨m', q1, q2, q3, q4⟩ := bnd_conc k1 k2 k3 hc
      refine ⟨_, slice_run hu hs k1 q1 q2 k4, ?_⟩
      have hm' : m ≤ m' ∧ ((ex || m0.isSome) = true → m' = m) := by
        cases m0 with
        | none =>
          rw [q3 rfl]
          simp only [bnd] at k2
          subst k2
          exact ⟨hc, fun h => he (by simpa using h)⟩
        | some _ => rw [q4 rfl]; exact ⟨Nat.le_refl _, fun _ => rfl⟩
      rw [avs_isSome] at h
      split at h
      · rename_i ham
        injection h with h; subst h
        rw [if_neg (by omega)]
        simp only [Option.map, add_lit']
        have hcc : m' ≤ cap' := bnd_le q1 (Nat.le_refl _)
        refine .sl _ _ _ _ _ _ _ _ hm (by omega) (fun h => by have := hm'.2 h; omega) (by omega) ?_
        have e1 : a * es + (m' - a) * es = m' * es := by rw [← Nat.add_mul]; congr 1; omega
        have e2 := Nat.mul_le_mul_right es hcc
        omega
      · rename_i ham
        have hba : b - a = 0 := by omega
        have hma : m - a = 0 := by omega
        split at h
        · rename_i hex
          injection h with h; subst h
          have e1 := hm'.2 hex
          have e2 : m' = a := by omega
          rw [if_pos e2, hba, show m' - a = 0 by omega]
          exact .sl _ _ _ _ _ _ _ _ hm (Nat.le_refl _) (fun _ => rfl) (Nat.le_refl _) (by omega)
        · injection h with h; subst h
          rw [hba]
          split
          · exact .esl _ _
          · exact .esl _ _
    · cases h
theorem slice_sim {t : TypeId} {c v : AV} {p : Value} {lo hi mx : Option AV} {lo' hi' mx' : Option Value} (h : sliceA P t c lo hi mx = some v) (hp : VRel x w c p)
    (h1 : OR x w lo lo') (h2 : OR x w hi hi') (h3 : OR x w mx mx') : ∃ r, (Instr.sliceAt t p lo' hi' mx').run P w = .ok r w ∧ VRel x w v r := by
  unfold sliceA at h
  split at h
  · rename_i hu
    split at h
    · split at h
      · rename_i s _ a b m hq
        injection h with h; subst h
        cases hp with | str s' _ hs =>
        subst hs
        cases mx' with
        | some _ => cases h3
        | none =>
        obtain ⟨l0, h0, m0, rfl, rfl, e3, k1, k2, k3, k4⟩ := bndA_form hq
        have : m0 = none := by cases m0 with
          | none => rfl
          | some _ => cases e3
        subst this
        rw [OR_vals h1, OR_vals h2]
        have hsz : s'.data.toList.length = s'.size := by rw [Array.length_toList]; rfl
        rw [hsz] at k2 k3
        have hr := bounds_run (P := P) (w := w) (m0 := none) false k1 k2 k3 k4
        refine ⟨.string (s'.extract a b), ?_, .str _ _ (extract_take s' a b)⟩
        have hr' : (Instr.sliceBounds false s'.size s'.size (vals l0) (vals h0) none).run P w = .ok (a, b, m) w := hr
        simp [Instr.sliceAt, Instr.slice, run_underlying hu, hr']
      · cases h
    · cases h
  · rename_i hu
    split at h
    · rename_i s hs
      exact sliceS_sim hu hs h hp h1 h2 h3
    · cases h
  · cases h
end Go.Abs
