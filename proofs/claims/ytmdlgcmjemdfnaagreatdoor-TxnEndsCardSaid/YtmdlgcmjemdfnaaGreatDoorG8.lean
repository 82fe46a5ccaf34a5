/- What is proved: a part of the proof of the tied card of TxnEnds (text G8 of it). Conditions: those that its theorems name. -/
import Derived.Test.YtmdlgcmjemdfnaaGreatDoorG7
import Derived.Test.YtmdlgcmjemdfnaaGreatDoorG6
set_option linter.unusedVariables false
set_option linter.unusedSimpArgs false
set_option linter.unusedSectionVars false
namespace Go.Abs
noncomputable section
variable [Bnd]
/-- contexts that agree below a name, whatever the round -/
structure Agree (n0 : Nat) (x y : Cx) : Prop where
  m : ∀ n, n < n0 → y.m n = x.m n
  κ : ∀ n, n < n0 → y.κ n = x.κ n
  F : ∀ c, x.F c → y.F c
  v : y.τ.v = x.τ.v
  D : y.τ.D = x.τ.D
variable {w : World}
theorem RdS.wider {F F' : Nat → Prop} (hF : ∀ c, F c → F' c) {d : Nat} {s : List Ck} {v : Value} (h : RdS F w d s v) : RdS F' w d s v := h.mono hF (fun _ _ => rfl)
mutual
theorem VRel.low {n0 : Nat} {x y : Cx} (ha : Agree n0 x y) : ∀ {v : AV} {v' : Value}, VRel x w v v' → lowV n0 v = true → VRel y w v v'
  | _, _, .bool b, _ => .bool b
  | _, _, .int k n, _ => .int k n
  | _, _, .str s l h, _ => .str s l h
  | _, _, .ptr n c off h, hl => .ptr n c off (by rw [ha.m n (by simpa [lowV] using hl)]; exact h)
  | _, _, .lptr cells vs a h hl, hh => .lptr cells vs a (VRels.low ha h (by simpa [lowV] using hh)) ⟨ha.F _ hl.1, hl.2⟩
  | _, _, .nilptr, _ => .nilptr
  | _, _, .sl n off len cap ex es c cap' h hc he hl hk, hh => .sl n off len cap ex es c cap' (by rw [ha.m n (by simpa [lowV] using hh)]; exact h) hc he hl (by rw [ha.κ n (by simpa [lowV] using hh)]; exact hk)
  | _, _, .nilsl, _ => .nilsl
  | _, _, .esl a cap, _ => .esl a cap
  | _, _, .zsl a, _ => .zsl a
  | _, _, .lst len cells vs A cap hc h0 h hl, hh => .lst len cells vs A cap hc h0 (VRels.low ha h (by simpa [lowV] using hh)) (fun hp => let ⟨a, e, l⟩ := hl hp; ⟨a, e, ha.F _ l.1, l.2⟩)
  | _, _, .map n c h, hh => .map n c (by rw [ha.m n (by simpa [lowV] using hh)]; exact h)
  | _, _, .nilmap, _ => .nilmap
  | _, _, .func fn a b a' b' h1 h2, hh => by
    simp only [lowV, Bool.and_eq_true] at hh
    exact .func fn a b a' b' (VRels.low ha h1 hh.1) (VRels.low ha h2 hh.2)
  | _, _, .nilfunc, _ => .nilfunc
  | _, _, .iface t v v' h, hh => .iface t v v' (VRel.low ha h (by simpa [lowV] using hh))
  | _, _, .nilif, _ => .nilif
  | _, _, .agg cs cs' h, hh => .agg cs cs' (VRels.low ha h (by simpa [lowV] using hh))
  | _, _, .tup cs cs' h, hh => .tup cs cs' (VRels.low ha h (by simpa [lowV] using hh))
  | _, _, .opq i h, _ => by rw [← ha.v] at h ⊢; exact .opq i h
  | _, _, .yld n c h, hh => .yld n c (by rw [ha.m n (by simpa [lowV] using hh)]; exact h)
  | _, _, .una k lo hi z h, _ => .una k lo hi z h
  | _, _, .lsl lo hi A n cap h, _ => .lsl lo hi A n cap h
  | _, _, .any v h, _ => .any v h
  | _, _, .junk v, _ => .junk v
  | _, _, .inp i s b d hd h, _ => by rw [← ha.v] at h ⊢; exact .inp i s b d (by rw [ha.D]; exact hd) (h.wider ha.F)
  | _, _, .elt s b v d hd h, _ => .elt s b v d (by rw [ha.D]; exact hd) (h.wider ha.F)
  | _, _, .eltN s b a n cap d hd h, _ => .eltN s b a n cap d (by rw [ha.D]; exact hd) (h.wider ha.F)
  | _, _, .ilen i z A n cap h hn, _ => .ilen i z A n cap (by rw [ha.v]; exact h) hn
  | _, _, .idx i A n cap h hk, hh => by cases hh
  | _, _, .eptr s a d hd hF h, _ => .eptr s a d (by rw [ha.D]; exact hd) (ha.F _ hF) (RdE.mono ha.F (fun _ _ => rfl) h hF)
  | _, _, .usl n es b z c off len cap h hl hk hb hc, hh => by cases hh
  | _, _, .ixn b, hh => by cases hh
  | _, _, .uptr n es c o h hk, hh => by cases hh
theorem VRels.low {n0 : Nat} {x y : Cx} (ha : Agree n0 x y) : ∀ {l : List AV} {l' : List Value}, VRels x w l l' → lowL n0 l = true → VRels y w l l'
  | _, _, .nil, _ => .nil
  | _, _, .cons v v' l l' h hs, hh => by
    simp only [lowL, Bool.and_eq_true] at hh
    exact .cons v v' l l' (VRel.low ha h hh.1) (VRels.low ha hs hh.2)
end
end
end Go.Abs

namespace Go.Abs
noncomputable section
variable [Bnd]
variable {w : World}
theorem cov_rel {f : Bool} {n0 n' es zz : Nat} {y z : Cx} (hf : f = true → y.τ.ck = 0) (hA : Agree n0 y z) (hm : z.m n0 = y.m n') (hκ : z.κ n0 = y.κ n') (hck : z.τ.ck = y.τ.ck + 1) (hb : z.τ.ck * zz ≤ 2 ^ 47) {a b : AV} {v : Value} (h : covV f n0 n' es zz a b = true) (hv : VRel y w b v) : VRel z w a v := by
  unfold covV at h
  split at h
  · exact .junk v
  · exact .any v (hv.sc h)
  · simp only [Bool.and_eq_true, beq_iff_eq] at h
    obtain ⟨⟨⟨⟨⟨⟨rfl, rfl⟩, rfl⟩, rfl⟩, h5⟩, rfl⟩, h6⟩ := h
    cases hv with | usl _ _ _ _ c off len cap k1 k2 k3 k4 k5 =>
    exact .usl _ _ _ _ c off len cap (by rw [hm]; exact k1) k2 (by rw [hκ]; exact k3) (by omega) hb
  · simp only [Bool.and_eq_true, beq_iff_eq] at h
    obtain ⟨⟨⟨⟨⟨⟨h0, rfl⟩, rfl⟩, rfl⟩, rfl⟩, h5⟩, rfl⟩ := h
    have h0 := hf h0
    cases hv with | sl _ _ _ _ _ _ c cap' k1 k2 k3 k4 k5 =>
    exact .usl _ _ _ _ c _ _ cap' (by rw [hm]; exact k1) (by omega) (by rw [hκ]; exact k5) (by omega) hb
  · simp only [Bool.and_eq_true] at h
    rw [same_eq h.1] at *
    exact hv.low hA h.2
theorem covL_rel {f : Bool} {n0 n' es zz : Nat} {y z : Cx} (hf : f = true → y.τ.ck = 0) (hA : Agree n0 y z) (hm : z.m n0 = y.m n') (hκ : z.κ n0 = y.κ n') (hck : z.τ.ck = y.τ.ck + 1) (hb : z.τ.ck * zz ≤ 2 ^ 47) : ∀ {a b : List AV} {v : List Value}, covL f n0 n' es zz a b = true → VRels y w b v → VRels z w a v
  | [], [], _, _, .nil => .nil
  | a :: x, b :: l, _, h, .cons _ _ _ _ h1 h2 => by
    simp only [covL, Bool.and_eq_true] at h
    exact .cons _ _ _ _ (cov_rel hf hA hm hκ hck hb h.1 h1) (covL_rel hf hA hm hκ hck hb h.2 h2)
  | [], _ :: _, _, h, _ => by simp [covL] at h
  | _ :: _, [], _, h, _ => by simp [covL] at h
theorem ERel.low {n0 : Nat} {y z : Cx} (hA : Agree n0 y z) : ∀ {es : List (AV × AV × Nat)} {es' : List MapEntry}, ERel y w es es' → lowE n0 es = true → ERel z w es es'
  | [], [], _, _ => trivial
  | (_, _, _) :: _, _ :: _, ⟨a, b, c, d⟩, h => by
    simp only [lowE, Bool.and_eq_true] at h
    exact ⟨a.low hA h.1.1, b.low hA h.1.2, c, ERel.low hA d h.2⟩
  | [], _ :: _, h, _ => h.elim
  | (_, _, _) :: _, [], h, _ => h.elim
theorem BRel.low {n0 k c : Nat} {y z : Cx} (hA : Agree n0 y z) {b : Blk} (h : BRel y w k c b) (hl : lowB n0 b = true) : BRel z w k c b := by
  cases b with
  | cells cs e => obtain ⟨arr, vs, h1, h2, h3⟩ := h; exact ⟨arr, vs, h1, h2.low hA hl, h3⟩
  | map es clock => obtain ⟨es', h1, h2⟩ := h; exact ⟨es', h1, ERel.low hA h2 hl⟩
  | _ => cases hl
end
end Go.Abs

namespace Go.Abs
noncomputable section
variable [Bnd]
theorem loopU_form {c : Code} {u : Lu} (h : loopU c = some u) : ∃ (id1 id2 : Nat) (o1 o2 : Array Oper) (t1 t2 y1 y2 ty1 ty2 ty3 : TypeId) (p1 p2 p3 : String) (a1 a2 a3 : Array Edge),
    c = .seq (.region id1 o1 false) (.seq (.cond (.tmp u.d) .skip (.exit u.k)) (.seq u.body (.region id2 o2 false))) ∧
    o1.toList = [⟨some u.d, .binOp .lss t1 (.tmp u.i) (.tmp u.m) y1, ty1, p1, a1, none⟩] ∧
    o2.toList = [⟨some u.e, .binOp .add t2 (.tmp u.i) (.const (.int .i64 1)) y2, ty2, p2, a2, none⟩, ⟨some u.i, .move (.tmp u.e), ty3, p3, a3, none⟩] ∧ u.i ≠ u.m ∧ u.d ≠ u.m ∧ u.e ≠ u.m := by
  unfold loopU at h
  split at h
  · rename_i id1 o1 d' k body id2 o2
    split at h
    · rename_i d t1 i m y1 ty1 p1 a1 e t2 i' y2 ty2 p2 a2 i'' e' ty3 p3 a3 h1 h2
      split at h
      · rename_i hc
        obtain ⟨rfl, rfl, rfl, rfl, c1, c2, c3⟩ := hc
        injection h with h
        subst h
        exact ⟨id1, id2, o1, o2, t1, t2, y1, y2, ty1, ty2, ty3, p1, p2, p3, a1, a2, a3, rfl, h1, h2, c1, c2, c3⟩
      · cases h
    · cases h
  · cases h
theorem luOf_form {c : Code} {s : St} {u : Lu} {q : Nat} {ws : List Tmp} (h : luOf c s = some (u, q, ws)) : loopU c = some u ∧ s.tm.get u.i = some (.int .i64 0) ∧ (∃ z, s.tm.get u.m = some (.ilen q z)) ∧ wrote c = some ws := by
  unfold luOf at h
  split at h
  · rename_i u' hu
    split at h
    · rename_i h1 h2 h3
      injection h with h
      injection h with e1 h
      injection h with e2 e3
      subst e1; subst e2; subst e3
      exact ⟨hu, h1, ⟨_, h2⟩, h3⟩
    · cases h
  · cases h
end
end Go.Abs

namespace Go.Abs
noncomputable section
variable [Bnd]
variable {P : Program} {w : World}
def cx0 : Cx := ⟨fun _ => none, fun _ => 0, fun _ => False, ⟨fun _ => undef, 0, 0⟩⟩
theorem bin_value {op : BinOp} {t yt ty : TypeId} {p : String} {af : Array Edge} {dst : Option Tmp} {a : Act} {xo yo : Operand} {k z : Int} {v : AV} {r : Value} (hop : isSh op = false) (hb : intA op .i64 k z = some v) (hv : ∀ q, VRel cx0 w v q → q = r) (hx : a.eval xo = .int .i64 k) (hy : a.eval yo = .int .i64 z) :
    (execOp a.eval ⟨dst, .binOp op t xo yo yt, ty, p, af, none⟩).run P w = .ok (.value r) w := by
  obtain ⟨q, q1, q2⟩ := bin_sim (P := P) (x := cx0) (w := w) (xo := xo) (yo := yo) (op := op) (t := t) (a := .int .i64 k) (b := .int .i64 z) (v := v) (by simp [binA, hop, hb]) (.int _ _) (.int _ _)
  rw [hv q q2] at q1
  show Sem.run P (do pure (Next.value (← (do eqGuard op t xo yo (a.eval xo) (a.eval yo); binOp op t (a.eval xo) (a.eval yo) : Sem Value))) : Sem Next) w = _
  rw [hx, hy, Sem.run_bind, q1]
  rfl
theorem test_step {l : Option Nat} {id d i m : Nat} {o1 : Array Oper} {t1 y1 ty1 : TypeId} {p1 : String} {a1 : Array Edge} {a : Act} {k len : Int} {Q : Exit → Act → World → Prop} (ho : o1.toList = [⟨some d, .binOp .lss t1 (.tmp i) (.tmp m) y1, ty1, p1, a1, none⟩])
    (hi : a.tmps.getD i undef = .int .i64 k) (hm : a.tmps.getD m undef = .int .i64 len) (h : Q .normal (a.put (some d) (.bool (decide (k < len)))) w) : (Code.region id o1 false).wpIn (fen l) 0 P Q a w := by
  have hrun := bin_value (P := P) (w := w) (op := .lss) (t := t1) (yt := y1) (ty := ty1) (p := p1) (af := a1) (dst := some d) (a := a) (xo := .tmp i) (yo := .tmp m) (k := k) (z := len) (v := .bool (decide (k < len))) (r := .bool (decide (k < len))) rfl rfl (fun q hq => by cases hq; rfl) hi hm
  refine wpIn_region_list ?_
  rw [ho]
  unfold wpListIn
  simp only [Region.wanted, if_true]
  refine ⟨fun f _ => fen_fn l f, ?_⟩
  rw [Oper.semAt_eq _ _ _ (fun c hc => by cases hc), hrun, Oper.uponIn_value]
  exact h
theorem step_step {l : Option Nat} {id e i : Nat} {o2 : Array Oper} {t2 y2 ty2 ty3 : TypeId} {p2 p3 : String} {a2 a3 : Array Edge} {a : Act} {k : Int} {Q : Exit → Act → World → Prop}
    (ho : o2.toList = [⟨some e, .binOp .add t2 (.tmp i) (.const (.int .i64 1)) y2, ty2, p2, a2, none⟩, ⟨some i, .move (.tmp e), ty3, p3, a3, none⟩])
    (hi : a.tmps.getD i undef = .int .i64 k) (he : e < a.tmps.size) (h : Q .normal ((a.put (some e) (.int .i64 (IntKind.wrap .i64 (k + 1)))).put (some i) (.int .i64 (IntKind.wrap .i64 (k + 1)))) w) : (Code.region id o2 false).wpIn (fen l) 0 P Q a w := by
  have hrun0 := bin_value (P := P) (w := w) (op := .add) (t := t2) (yt := y2) (ty := ty2) (p := p2) (af := a2) (dst := some e) (a := a) (xo := .tmp i) (yo := .const (.int .i64 1)) (k := k) (z := 1) (v := .int .i64 (IntKind.wrap .i64 (k + 1))) (r := .int .i64 (IntKind.wrap .i64 (k + 1))) rfl rfl (fun q hq => by cases hq; rfl) hi rfl
  refine wpIn_region_list ?_
  rw [ho]
  unfold wpListIn
  simp only [Region.wanted, if_true]
  refine ⟨fun f _ => fen_fn l f, ?_⟩
  rw [Oper.semAt_eq _ _ _ (fun c hc => by cases hc), hrun0, Oper.uponIn_value]
  unfold wpListIn
  simp only [Region.wanted, if_true]
  refine ⟨fun f _ => fen_fn l f, ?_⟩
  rw [Oper.semAt_eq _ _ _ (fun c hc => by cases hc)]
  have hev : (a.put (some e) (.int .i64 (IntKind.wrap .i64 (k + 1)))).eval (.tmp e) = .int .i64 (IntKind.wrap .i64 (k + 1)) := by
    show (a.tmps.setIfInBounds e _).getD e undef = _
    simp [Array.getD_eq_getD_getElem?, Array.getElem?_setIfInBounds, he]
  have hrun : (execOp (a.put (some e) (.int .i64 (IntKind.wrap .i64 (k + 1)))).eval ⟨some i, .move (.tmp e), ty3, p3, a3, none⟩).run P w = .ok (.value (.int .i64 (IntKind.wrap .i64 (k + 1)))) w := by
    show Sem.run P (pure (Next.value ((a.put (some e) (.int .i64 (IntKind.wrap .i64 (k + 1)))).eval (.tmp e)))) w = _
    rw [hev]
    rfl
  rw [hrun, Oper.uponIn_value]
  exact h
end
end Go.Abs

namespace Go.Abs
noncomputable section
variable [Bnd]
variable {w : World}
theorem covT_spec {f : Bool} {n n' es zz : Nat} {tm tm' : Tr AV} {keep : Tmp} : ∀ {k : Nat}, covT f n n' es zz tm tm' keep k = true → ∀ t, t < k → t = keep ∨ covV f n n' es zz ((tm.get t).getD (.tup [])) ((tm'.get t).getD (.tup [])) = true
  | 0, _, t, h => by omega
  | k + 1, h, t, ht => by
    simp only [covT, Bool.and_eq_true, Bool.or_eq_true, beq_iff_eq] at h
    by_cases hk : t = k
    · subst hk; exact h.1
    · exact covT_spec h.2 t (by omega)
theorem covH_spec {f : Bool} {n n' es zz : Nat} {h h' : Hp} : ∀ {k : Nat}, covH f n n' es zz h h' k = true → ∀ j b, j < k → h.blks.get j = some b → ∃ b', h'.blks.get j = some b' ∧ ((∃ a e a', b = .cells a e ∧ b' = .cells a' e ∧ covL f n n' es zz a a' = true) ∨ (b' = b ∧ lowB n b = true))
  | 0, _, j, b, hj, _ => by omega
  | k + 1, hc, j, b, hj, hb => by
    simp only [covH, Bool.and_eq_true] at hc
    by_cases hk : j = k
    · subst hk
      have h1 := hc.1
      rw [hb] at h1
      cases hb' : h'.blks.get j with
      | none => rw [hb'] at h1; cases b <;> cases h1
      | some b' =>
        rw [hb'] at h1
        refine ⟨b', rfl, ?_⟩
        have other : (sameB b b' && lowB n b) = true → b' = b ∧ lowB n b = true := fun h2 => by
          simp only [Bool.and_eq_true] at h2
          exact ⟨(sameB_eq h2.1).symm, h2.2⟩
        cases b with
        | cells a e =>
          cases b' with
          | cells a' e' =>
            have h2 : (e == e' && covL f n n' es zz a a') = true := h1
            simp only [Bool.and_eq_true, beq_iff_eq] at h2
            obtain ⟨rfl, h2⟩ := h2
            exact .inl ⟨a, e, a', rfl, rfl, h2⟩
          | _ => exact .inr (other h1)
        | _ => exact .inr (other h1)
    · exact covH_spec hc.2 j b (by omega) hb
theorem undef_only {x z : Cx} {v : AV} {u : World} (h : VRel x w v undef) : VRel z u v undef := by
  generalize he : undef = q at h
  cases h <;> first
    | (cases he; done)
    | exact .junk _
    | skip
  all_goals first
    | (rename_i cs cs' h; cases he; cases cs with
        | nil => exact .tup _ _ .nil
        | cons a l => cases h)
    | (rename_i h; exfalso; rw [← he] at h; cases h)
    | (rename_i h _ _; exfalso; rw [← he] at h; cases h)
    | skip
end
end Go.Abs

namespace Go.Abs
noncomputable section
variable [Bnd]
def leaveOf (tm : Tr AV) (k : Tmp) : AV := match tm.get k with
  | some (.usl ..) => .any
  | _ => .junk
theorem leaveT_get {tm : Tr AV} {k : Tmp} : ∀ {ws : List Tmp} {t : Tr AV}, (leaveT tm ws t).get k = if k ∈ ws then some (leaveOf tm k) else t.get k
  | [], t => by simp [leaveT]
  | j :: r, t => by
    show (leaveT tm r (t.put j (leaveOf tm j))).get k = _
    rw [leaveT_get (ws := r), Tr.get_put]
    by_cases h1 : k ∈ r
    · rw [if_pos h1, if_pos (List.mem_cons_of_mem _ h1)]
    · rw [if_neg h1]
      by_cases h2 : k = j
      · subst h2
        rw [if_pos rfl, if_pos List.mem_cons_self]
      · rw [if_neg h2, if_neg (by simp [h1, h2])]
def headOf (n es zz : Nat) (tm tm' : Tr AV) (k : Tmp) : AV := match tm.get k, (tm'.get k).map isAcc with
  | some .nilsl, some true => .usl n es 0 zz
  | _, _ => .junk
theorem headT_get {n es zz : Nat} {tm tm' : Tr AV} {k : Tmp} : ∀ {ws : List Tmp} {t : Tr AV}, (headT n es zz tm tm' ws t).get k = if k ∈ ws then some (headOf n es zz tm tm' k) else t.get k
  | [], t => by simp [headT]
  | j :: r, t => by
    show (headT n es zz tm tm' r (t.put j (headOf n es zz tm tm' j))).get k = _
    rw [headT_get (ws := r), Tr.get_put]
    by_cases h1 : k ∈ r
    · rw [if_pos h1, if_pos (List.mem_cons_of_mem _ h1)]
    · rw [if_neg h1]
      by_cases h2 : k = j
      · subst h2
        rw [if_pos rfl, if_pos List.mem_cons_self]
      · rw [if_neg h2, if_neg (by simp [h1, h2])]
end
end Go.Abs

namespace Go.Abs
noncomputable section
variable [Bnd]
/-- what lies at a name in the head's heap: cells cell by cell, maps as they lay -/
theorem headH_lies {m es zz : Nat} {h h' : Hp} : ∀ {k : Nat} {t : Tr Blk} {n : Nat}, (headH m es zz h h' k t).get n = if n < k then (match h.blks.get n, h'.blks.get n with
    | some (.cells a e), some (.cells b e') => some (.cells (headL m es zz a b) e)
    | _, _ => t.get n) else t.get n
  | 0, t, n => by simp [headH]
  | k + 1, t, n => by
    simp only [headH]
    rw [headH_lies (k := k)]
    by_cases h1 : n < k
    · rw [if_pos h1, if_pos (by omega)]
      have hne : n ≠ k := by omega
      have hk : ∀ (t2 : Tr Blk), (match h.blks.get k, h'.blks.get k with
          | some (.cells a e), some (.cells b e') => t.put k (.cells (headL m es zz a b) e)
          | _, _ => t).get n = t.get n := by
        intro _
        split
        · rw [Tr.get_put, if_neg hne]
        · rfl
      split
      · rfl
      · exact hk t
    · rw [if_neg h1]
      by_cases h2 : n = k
      · subst h2
        rw [if_pos (by omega)]
        split
        · rename_i ha hb
          rw [Tr.get_put, if_pos rfl, ha, hb]
        · rename_i hn
          split
          · rename_i ha hb
            exact absurd hb (fun hb => hn _ _ _ _ ha hb)
          · rfl
      · rw [if_neg (by omega)]
        split
        · rw [Tr.get_put, if_neg h2]
        · rfl
theorem leaveH_lies : ∀ {k : Nat} {t : Tr Blk} {n : Nat}, (leaveH k t).get n = if n < k then (match t.get n with
    | some (.cells a e) => some (.cells (a.map leaveV) e)
    | o => o) else t.get n
  | 0, t, n => by simp [leaveH]
  | k + 1, t, n => by
    simp only [leaveH]
    rw [leaveH_lies (k := k)]
    by_cases h1 : n < k
    · rw [if_pos h1, if_pos (by omega)]
      have hne : n ≠ k := by omega
      cases hgk : t.get k with
      | none => rfl
      | some b => cases b <;> simp only [Tr.get_put, if_neg hne]
    · rw [if_neg h1]
      by_cases h2 : n = k
      · subst h2
        rw [if_pos (by omega)]
        split
        · rename_i hg
          rw [Tr.get_put, if_pos rfl, hg]
        · rename_i hn
          split
          · rename_i hg
            exact absurd hg (hn _ _)
          · rfl
      · rw [if_neg (by omega)]
        split
        · rw [Tr.get_put, if_neg h2]
        · rfl
end
end Go.Abs

namespace Go.Abs
noncomputable section
variable [Bnd]
variable {w : World}
/-! ### what lies below covers -/
theorem sub_rel {n0 : Nat} {y z : Cx} (hA : Agree n0 y z) {a b : AV} {v : Value} (h : subV n0 a b = true) (hv : VRel y w b v) : VRel z w a v := by
  unfold subV at h
  split at h
  · exact .junk v
  · exact .any v (hv.sc h)
  · simp only [Bool.and_eq_true] at h
    rw [same_eq h.1] at *
    exact hv.low hA h.2
theorem subL_rel {n0 : Nat} {y z : Cx} (hA : Agree n0 y z) : ∀ {a b : List AV} {v : List Value}, subL n0 a b = true → VRels y w b v → VRels z w a v
  | [], [], _, _, .nil => .nil
  | a :: x, b :: l, _, h, .cons _ _ _ _ h1 h2 => by
    simp only [subL, Bool.and_eq_true] at h
    exact .cons _ _ _ _ (sub_rel hA h.1 h1) (subL_rel hA h.2 h2)
  | [], _ :: _, _, h, _ => by simp [subL] at h
  | _ :: _, [], _, h, _ => by simp [subL] at h
theorem subT_spec {n : Nat} {tm tm' : Tr AV} : ∀ {k : Nat}, subT n tm tm' k = true → ∀ t, t < k → subV n ((tm.get t).getD (.tup [])) ((tm'.get t).getD (.tup [])) = true
  | 0, _, t, h => by omega
  | k + 1, h, t, ht => by
    simp only [subT, Bool.and_eq_true] at h
    by_cases hk : t = k
    · subst hk; exact h.1
    · exact subT_spec h.2 t (by omega)
theorem subH_spec {n : Nat} {h h' : Hp} : ∀ {k : Nat}, subH n h h' k = true → ∀ j b, j < k → h.blks.get j = some b → ∃ b', h'.blks.get j = some b' ∧ ((∃ a e a', b = .cells a e ∧ b' = .cells a' e ∧ subL n a a' = true) ∨ (b' = b ∧ lowB n b = true))
  | 0, _, j, b, hj, _ => by omega
  | k + 1, hc, j, b, hj, hb => by
    simp only [subH, Bool.and_eq_true] at hc
    by_cases hk : j = k
    · subst hk
      have h1 := hc.1
      rw [hb] at h1
      cases hb' : h'.blks.get j with
      | none => rw [hb'] at h1; cases b <;> cases h1
      | some b' =>
        rw [hb'] at h1
        refine ⟨b', rfl, ?_⟩
        have other : (sameB b b' && lowB n b) = true → b' = b ∧ lowB n b = true := fun h2 => by
          simp only [Bool.and_eq_true] at h2
          exact ⟨(sameB_eq h2.1).symm, h2.2⟩
        cases b with
        | cells a e =>
          cases b' with
          | cells a' e' =>
            have h2 : (e == e' && subL n a a') = true := h1
            simp only [Bool.and_eq_true, beq_iff_eq] at h2
            obtain ⟨rfl, h2⟩ := h2
            exact .inl ⟨a, e, a', rfl, rfl, h2⟩
          | _ => exact .inr (other h1)
        | _ => exact .inr (other h1)
    · exact subH_spec hc.2 j b (by omega) hb
/-! ### contexts with another round -/
def Cx.re (x : Cx) (k : Nat) : Cx := ⟨x.m, x.κ, x.F, ⟨x.τ.v, k, x.τ.D⟩⟩
theorem Cx.re_agree (x : Cx) (k n : Nat) : Agree n x (x.re k) := ⟨fun _ _ => rfl, fun _ _ => rfl, fun _ h => h, rfl, rfl⟩
theorem Cx.re_self (x : Cx) : x.re x.τ.ck = x := rfl
theorem Cx.re_re (x : Cx) (j k : Nat) : (x.re j).re k = x.re k := rfl
theorem Ext.re {x y : Cx} {hm hm' : HM} {n0 n1 : Nat} {w w' : World} (h : Ext x hm n0 w y hm' n1 w') (k : Nat) : Ext (x.re k) hm n0 w (y.re k) hm' n1 w' :=
  ⟨h.m, h.κ, h.mo, h.F, h.Fn, by show (⟨y.τ.v, k, y.τ.D⟩ : Kn) = ⟨x.τ.v, k, x.τ.D⟩; rw [h.τ], h.os, h.tape, h.output, h.size, h.fr, h.im⟩
/-- the later heap told of less, more names taken -/
theorem Ext.less {x y : Cx} {hm hm' hm'' : HM} {n0 n1 n2 : Nat} {w w' : World} (h : Ext x hm n0 w y hm' n1 w') (hn : n1 ≤ n2) (hs : ∀ n b, hm'' n = some b → ∃ b', hm' n = some b') : Ext x hm n0 w y hm'' n2 w' :=
  ⟨h.m, h.κ, fun n hh => h.mo n (by omega), h.F, h.Fn, h.τ, h.os, h.tape, h.output, h.size, h.fr, fun n b c e hx => by obtain ⟨b', e'⟩ := hs n b e; exact h.im n b' c e' hx⟩
theorem DRel.via {x y z : Cx} (h1 : ∀ n c, x.m n = some c → y.m n = some c) (h2 : ∀ n c, x.m n = some c → z.m n = some c) : ∀ {l : List Nat} {d0 ds : List Deferred}, DRel x l d0 → DRel y l ds → DRel z l ds
  | [], _, [], _, _ => trivial
  | [], _, _ :: _, _, h => h.elim
  | _ :: _, _, [], _, h => h.elim
  | _ :: _, [], _ :: _, h, _ => h.elim
  | _ :: _, _ :: _, _ :: _, ⟨⟨c, a1, _⟩, a3⟩, ⟨⟨c', b1, b2⟩, b3⟩ => by
    rw [h1 _ _ a1] at b1
    cases b1
    exact ⟨⟨c, h2 _ _ a1, b2⟩, DRel.via h1 h2 a3 b3⟩
theorem getD_past {a : Array Value} {t : Nat} (h : a.size ≤ t) : a.getD t undef = undef := by
  rw [Array.getD_eq_getD_getElem?, Array.getElem?_eq_none h]
  rfl
theorem head_undef {x z : Cx} {s s1 : St} {a : Act} {ws : List Tmp} {es zz : Nat} {e : TypeId} {u : World} (h : SRel x w s a) (t : Tmp) (ht : s.nt ≤ t) : VRel z u (((headS s s1 ws es zz e).tm.get t).getD (.tup [])) undef := by
  have h0 := h.tm t
  rw [getD_past (by rw [h.nt]; exact ht)] at h0
  show VRel z u (((headT s.hp.next es zz s.tm s1.tm ws s.tm).get t).getD (.tup [])) undef
  rw [headT_get]
  by_cases hm : t ∈ ws
  · rw [if_pos hm]
    show VRel z u (headOf s.hp.next es zz s.tm s1.tm t) undef
    unfold headOf
    split
    · rename_i hg _
      rw [hg] at h0
      exact absurd h0 (by intro hh; generalize he : undef = q at hh; cases hh; cases he)
    · exact .junk _
  · rw [if_neg hm]
    exact undef_only h0
theorem leave_undef {x z : Cx} {s s1 s2 : St} {a : Act} {ws : List Tmp} {es zz : Nat} {e : TypeId} {u : World} (h : SRel x w s a) (t : Tmp) (ht : s.nt ≤ t) : VRel z u (((leaveS s s1 s2 (headS s s1 ws es zz e) ws es zz).tm.get t).getD (.tup [])) undef := by
  have h1 := head_undef (z := z) (u := u) (s1 := s1) (ws := ws) (es := es) (zz := zz) (e := e) h t ht
  show VRel z u (((leaveT (headS s s1 ws es zz e).tm ws (headS s s1 ws es zz e).tm).get t).getD (.tup [])) undef
  rw [leaveT_get]
  by_cases hm : t ∈ ws
  · rw [if_pos hm]
    show VRel z u (leaveOf (headS s s1 ws es zz e).tm t) undef
    unfold leaveOf
    split
    · rename_i hg
      rw [hg] at h1
      exact absurd h1 (by intro hh; generalize he : undef = q at hh; cases hh; cases he)
    · exact .junk _
  · rw [if_neg hm]
    exact h1
/-- a state told of less -/
theorem SRel.sub {x : Cx} {S T : St} {a : Act} {N k : Nat} (h : SRel x w S a) (hs : subS N T S = true) (hd : T.df = S.df) (hw : ∀ n b, T.hp.blks.get n = some b → n < N)
    (hu : ∀ t, T.nt ≤ t → VRel (x.re k) w ((T.tm.get t).getD (.tup [])) undef) : SRel (x.re k) w T a := by
  simp only [subS, Bool.and_eq_true, beq_iff_eq] at hs
  obtain ⟨⟨hT, hH⟩, hn⟩ := hs
  have hA := x.re_agree k N
  refine ⟨fun t => ?_, h.nt.trans hn.symm, by rw [hd]; exact DRel.mono (x := x) (y := x.re k) (fun _ _ h => h) h.df, ?_⟩
  · by_cases ht : t < T.nt
    · exact sub_rel hA (subT_spec hT t ht) (h.tm t)
    · rw [show a.tmps.getD t undef = undef from getD_past (by rw [h.nt, ← hn]; omega)]
      exact hu t (by omega)
  · refine ⟨fun n b e => ?_, fun n n' b b' c e e' hx hx' => ?_, h.hp.fb, h.hp.mb⟩
    · obtain ⟨b', e', hh⟩ := subH_spec hH n b (hw _ _ e) e
      obtain ⟨c, q1, q2, q3⟩ := h.hp.blk _ _ e'
      refine ⟨c, q1, ?_, q3⟩
      rcases hh with ⟨u, ty, u', rfl, rfl, hl⟩ | ⟨rfl, hl⟩
      · obtain ⟨arr, vs, r1, r2, r3⟩ := q2
        exact ⟨arr, vs, r1, subL_rel hA hl r2, r3⟩
      · exact q2.low hA hl
    · obtain ⟨b1, e1, _⟩ := subH_spec hH n b (hw _ _ e) e
      obtain ⟨b2, e2, _⟩ := subH_spec hH n' b' (hw _ _ e') e'
      exact h.hp.inj n n' _ _ c e1 e2 hx hx'
end
end Go.Abs

namespace Go.Abs
noncomputable section
variable [Bnd]
variable {w : World}
theorem put_ne {a : Act} {d t : Tmp} {r : Value} (h : t ≠ d) : (a.put (some d) r).tmps.getD t undef = a.tmps.getD t undef := by
  show (a.tmps.setIfInBounds d r).getD t undef = _
  simp [Array.getD_eq_getD_getElem?, Array.getElem?_setIfInBounds_ne (Ne.symm h)]
theorem put_eq {a : Act} {d : Tmp} {r : Value} (h : d < a.tmps.size) : (a.put (some d) r).tmps.getD d undef = r := by
  show (a.tmps.setIfInBounds d r).getD d undef = _
  simp [Array.getD_eq_getD_getElem?, h]
theorem headH_low {s s1 : St} {es zz : Nat} (hwf : Wf s.hp) {n : Nat} {b : Blk} (h : (headH s.hp.next es zz s.hp s1.hp s.hp.next s.hp.blks).get n = some b) : n < s.hp.next ∧ ∃ b', s.hp.blks.get n = some b' := by
  rw [headH_lies] at h
  split at h
  · rename_i hn
    split at h
    · rename_i ha _
      exact ⟨hn, _, ha⟩
    · exact ⟨hn, _, h⟩
  · exact ⟨hwf _ _ h, _, h⟩
theorem headS_get {s s1 : St} {ws : List Tmp} {es zz : Nat} {e : TypeId} (hwf : Wf s.hp) {n : Nat} {b : Blk} (h : (headS s s1 ws es zz e).hp.blks.get n = some b) : (n = s.hp.next ∧ b = .ucells e) ∨ (n < s.hp.next ∧ ∃ b', s.hp.blks.get n = some b') := by
  have h : ((headH s.hp.next es zz s.hp s1.hp s.hp.next s.hp.blks).put s.hp.next (.ucells e)).get n = some b := h
  rw [Tr.get_put] at h
  split at h
  · rename_i hn
    injection h with h
    exact .inl ⟨hn, h.symm⟩
  · exact .inr (headH_low hwf h)
theorem leaveS_get {s s1 s2 : St} {ws : List Tmp} {es zz : Nat} {e : TypeId} (hwf : Wf s.hp) {n : Nat} {b : Blk} (h : (leaveS s s1 s2 (headS s s1 ws es zz e) ws es zz).hp.blks.get n = some b) : n < s.hp.next ∧ (∃ b', s.hp.blks.get n = some b') ∧ ∃ b', (headS s s1 ws es zz e).hp.blks.get n = some b' := by
  have h : (leaveH s.hp.next (headH s.hp.next es zz s.hp s1.hp s.hp.next s.hp.blks)).get n = some b := h
  have h2 : ∃ b', (headH s.hp.next es zz s.hp s1.hp s.hp.next s.hp.blks).get n = some b' := by
    rw [leaveH_lies] at h
    split at h
    · split at h
      · rename_i hg
        exact ⟨_, hg⟩
      · exact ⟨_, h⟩
    · exact ⟨_, h⟩
  obtain ⟨b', h2⟩ := h2
  obtain ⟨h3, h4⟩ := headH_low hwf h2
  refine ⟨h3, h4, b', ?_⟩
  show ((headH s.hp.next es zz s.hp s1.hp s.hp.next s.hp.blks).put s.hp.next (.ucells e)).get n = some b'
  rw [Tr.get_put, if_neg (by omega)]
  exact h2
/-- behind a round: the head again, one round on -/
theorem cov_next {f : Bool} {x y : Cx} {w0 : World} {s s1 sl : St} {a0 a' a'' : Act} {ws : List Tmp} {es zz : Nat} {e : TypeId} {u : Lu} {k : Nat}
    (hs0 : SRel x w0 s a0) (hwf : Wf s.hp) (hN : x.m s.hp.next = none) (hnx : s.hp.next ≤ sl.hp.next) (hE : Ext x s.hp.blks.get s.hp.next w0 (y.re x.τ.ck) sl.hp.blks.get sl.hp.next w)
    (hy : SRel y w sl a') (hk : y.τ.ck = k) (hk2 : (k + 1) * zz ≤ 2 ^ 47) (hf0 : f = true → k = 0) (hc : covS f s (headS s s1 ws es zz e) sl ws es zz e u.i = true)
    (h1 : a''.tmps.size = a'.tmps.size) (h2 : a''.defers = a'.defers) (h3 : ∀ t, t ≠ u.i → t ≠ u.e → a''.tmps.getD t undef = a'.tmps.getD t undef) (hi : isJunk ((headS s s1 ws es zz e).tm.get u.i) = true) (he : isJunk ((headS s s1 ws es zz e).tm.get u.e) = true) :
    ∃ z : Cx, z.τ = ⟨x.τ.v, k + 1, x.τ.D⟩ ∧ Ext x s.hp.blks.get s.hp.next w0 (z.re x.τ.ck) (headS s s1 ws es zz e).hp.blks.get (s.hp.next + 1) w ∧ SRel z w (headS s s1 ws es zz e) a'' := by
  unfold covS at hc
  split at hc
  rotate_left
  · cases hc
  rename_i n1 es1 hacc
  simp only [Bool.and_eq_true, beq_iff_eq, decide_eq_true_eq] at hc
  obtain ⟨⟨⟨⟨⟨⟨rfl, hT⟩, hH⟩, hb⟩, hge⟩, hdf⟩, hnt⟩ := hc
  have hv : y.τ.v = x.τ.v := (by have := congrArg Kn.v hE.τ; exact this)
  have hD : y.τ.D = x.τ.D := (by have := congrArg Kn.D hE.τ; exact this)
  have hb1 : ∃ b, sl.hp.blks.get n1 = some b ∧ ((b = .ucells e) ∨ ∃ cs, b = .cells cs e) := by
    split at hb
    · rename_i e' hg; rw [beq_iff_eq] at hb; subst hb; exact ⟨_, hg, .inl rfl⟩
    · rename_i cs e' hg; rw [beq_iff_eq] at hb; subst hb; exact ⟨_, hg, .inr ⟨cs, rfl⟩⟩
    · cases hb
  obtain ⟨b1, hb1, hbf⟩ := hb1
  obtain ⟨c1, q1, q2, q3⟩ := hy.hp.blk _ _ hb1
  have hym : ∀ n, n < s.hp.next → y.m n = x.m n := fun n hn => hE.mo n (.inl hn)
  let z : Cx := ⟨fun n => if n = s.hp.next then y.m n1 else x.m n, fun n => if n = s.hp.next then y.κ n1 else y.κ n, y.F, ⟨x.τ.v, k + 1, x.τ.D⟩⟩
  have zN : z.m s.hp.next = y.m n1 := if_pos rfl
  have zκ : z.κ s.hp.next = y.κ n1 := if_pos rfl
  have zm : ∀ n, n ≠ s.hp.next → z.m n = x.m n := fun n hn => if_neg hn
  have zκ' : ∀ n, n ≠ s.hp.next → z.κ n = y.κ n := fun n hn => if_neg hn
  have hA : Agree s.hp.next y z := ⟨fun n hn => by rw [zm n (by omega), hym n hn], fun n hn => zκ' n (by omega), fun _ h => h, hv.symm, hD.symm⟩
  have hck : z.τ.ck = y.τ.ck + 1 := by rw [hk]
  have hk3 : z.τ.ck * zz ≤ 2 ^ 47 := hk2
  have hf : f = true → y.τ.ck = 0 := fun h => by rw [hk]; exact hf0 h
  have hxz : ∀ n c, x.m n = some c → z.m n = some c := fun n c hn => by
    rw [zm n (fun hh => by rw [hh, hN] at hn; cases hn)]; exact hn
  refine ⟨z, rfl, ?_, ?_, ?_, ?_, ?_⟩
  · refine ⟨hxz, fun n c hn => ?_, fun n hn => zm n (by omega), hE.F, hE.Fn, rfl, hE.os, hE.tape, hE.output, hE.size, hE.fr, fun n b c e0 hx => ?_⟩
    · show z.κ n = x.κ n
      rw [zκ' n (fun hh => by rw [hh, hN] at hn; cases hn)]
      exact hE.κ n c hn
    · rcases headS_get hwf e0 with ⟨rfl, rfl⟩ | ⟨hlt, b', hb'⟩
      · have hx : z.m s.hp.next = some c := hx
        rw [zN] at hx
        exact hE.im n1 _ c hb1 hx
      · have hx : z.m n = some c := hx
        rw [zm n (by omega)] at hx
        exact .inl ⟨n, b', hb', hx⟩
  · intro t
    by_cases hti : t = u.i
    · subst hti
      have : (headS s s1 ws es1 zz e).tm.get u.i = some .junk := by
        revert hi
        cases (headS s s1 ws es1 zz e).tm.get u.i with
        | none => intro h; cases h
        | some v => cases v <;> intro h <;> first | rfl | cases h
      rw [this]
      exact .junk _
    by_cases hte : t = u.e
    · subst hte
      have : (headS s s1 ws es1 zz e).tm.get u.e = some .junk := by
        revert he
        cases (headS s s1 ws es1 zz e).tm.get u.e with
        | none => intro h; cases h
        | some v => cases v <;> intro h <;> first | rfl | cases h
      rw [this]
      exact .junk _
    rw [h3 t hti hte]
    by_cases ht : t < s.nt
    · rcases covT_spec hT t ht with h | h
      · exact absurd h hti
      · exact cov_rel hf hA zN zκ hck hk3 h (hy.tm t)
    · rw [show a'.tmps.getD t undef = undef from getD_past (by rw [hy.nt, hnt]; omega)]
      exact head_undef hs0 t (by omega)
  · rw [h1, hy.nt, hnt]; rfl
  · rw [h2]
    have hdd := hy.df
    rw [hdf] at hdd
    exact DRel.via (x := x) (y := y) (z := z) hE.m hxz hs0.df hdd
  · refine ⟨fun n b e0 => ?_, fun n n' b b' c e0 e0' hx hx' => ?_, hy.hp.fb, fun n c hn => ?_⟩
    · rcases headS_get hwf e0 with ⟨rfl, rfl⟩ | ⟨hlt, b', hb'⟩
      · refine ⟨c1, by rw [zN]; exact q1, ?_, q3⟩
        rw [zκ]
        rcases hbf with rfl | ⟨cs, rfl⟩
        · exact q2
        · obtain ⟨arr, vs, r1, r2, r3, r4⟩ := q2
          exact ⟨arr, r1, r4⟩
      · obtain ⟨b2, k1, k2⟩ := covH_spec hH n b hlt e0
        obtain ⟨c2, p1, p2, p3⟩ := hy.hp.blk _ _ k1
        refine ⟨c2, by rw [zm n (by omega), ← hym n hlt]; exact p1, ?_, p3⟩
        rw [zκ' n (by omega)]
        rcases k2 with ⟨v, ty, v', rfl, rfl, hl⟩ | ⟨rfl, hl⟩
        · obtain ⟨arr, vs, r1, r2, r3⟩ := p2
          exact ⟨arr, vs, r1, covL_rel hf hA zN zκ hck hk3 hl r2, r3⟩
        · exact p2.low hA hl
    · rcases headS_get hwf e0 with ⟨rfl, rfl⟩ | ⟨hlt, _⟩ <;> rcases headS_get hwf e0' with ⟨rfl, rfl⟩ | ⟨hlt', _⟩
      · rfl
      · obtain ⟨b2, k1, _⟩ := covH_spec hH n' b' hlt' e0'
        rw [zN] at hx
        rw [zm n' (by omega), ← hym n' hlt'] at hx'
        have := hy.hp.inj n1 n' _ _ c hb1 k1 hx hx'
        omega
      · obtain ⟨b2, k1, _⟩ := covH_spec hH n b hlt e0
        rw [zN] at hx'
        rw [zm n (by omega), ← hym n hlt] at hx
        have := hy.hp.inj n1 n _ _ c hb1 k1 hx' hx
        omega
      · obtain ⟨b2, k1, _⟩ := covH_spec hH n b hlt e0
        obtain ⟨b3, k3, _⟩ := covH_spec hH n' b' hlt' e0'
        rw [zm n (by omega), ← hym n hlt] at hx
        rw [zm n' (by omega), ← hym n' hlt'] at hx'
        exact hy.hp.inj n n' _ _ c k1 k3 hx hx'
    · by_cases hnN : n = s.hp.next
      · subst hnN
        rw [zN] at hn
        exact hy.hp.mb _ _ hn
      · rw [zm n hnN] at hn
        exact Nat.lt_of_lt_of_le (hs0.hp.mb _ _ hn) hE.size
end
end Go.Abs

namespace Go.Abs
noncomputable section
variable [Bnd]
variable {P : Program} {Sg : FuncId → Option Sp}
/-- what a round from S comes to -/
structure Rnd (P : Program) (Sg : FuncId → Option Sp) (n : Nat) (f : Bool) (s s1 : St) (u : Lu) (q : Nat) (ws : List Tmp) (es zz : Nat) (e : TypeId) (lv : St) (S sl : St) : Prop where
  run : code P Sg n u.body (atIdx S u q) = some (.normal, sl)
  cov : covS f s (headS s s1 ws es zz e) sl ws es zz e u.i = true
  idx : isIdx q (sl.tm.get u.i) = true
  lvS : subS s.hp.next lv S = true
  nt : S.nt = s.nt
  df : S.df = s.df
  rd : S.rd = s.rd
  wf : Wf S.hp
  nx : s.hp.next ≤ S.hp.next
  nx1 : S.hp.next ≤ s.hp.next + 1
  nl : sl.hp.next ≤ lv.hp.next
  im : S.tm.get u.m = s.tm.get u.m
  un : ∀ n b, lv.hp.blks.get n = some b → ∃ b', S.hp.blks.get n = some b'
theorem isIdx_eq {q : Nat} {o : Option AV} (h : isIdx q o = true) : o = some (.idx q) := by
  unfold isIdx at h
  split at h
  · rw [beq_iff_eq] at h; rw [h]
  · cases h
theorem ilen_eq {x : Cx} {w : World} {q zz : Nat} {v : Value} (h : VRel x w (.ilen q zz) v) : ∃ A n cap, x.τ.v q = .slice A n cap ∧ n * zz ≤ 2 ^ 47 ∧ v = .int .i64 n := by
  cases h with | ilen _ _ A n cap h hn => exact ⟨A, n, cap, h, hn, rfl⟩
theorem idx_eq {x : Cx} {w : World} {q : Nat} {v : Value} (h : VRel x w (.idx q) v) : v = .int .i64 x.τ.ck := by
  cases h with | idx _ A n cap h hk => rfl
theorem wrap_next {k : Nat} (h : k < 2 ^ 48) : IntKind.wrap .i64 ((k : Int) + 1) = ((k + 1 : Nat) : Int) := by
  rw [IntKind.wrap_i64]
  omega
theorem loopRS_of {n : Nat} (hc : CodeS P Sg n) : LoopRS P Sg n := by
  intro c s u q ws r x w a hlu e hs hwf hf l hrd Q hQ
  obtain ⟨hU, hi0, ⟨zz, him⟩, hws⟩ := luOf_form hlu
  have hzz : zOf (s.tm.get u.m) = zz := by rw [him]; rfl
  obtain ⟨id1, id2, o1, o2, t1, t2, y1, y2, ty1, ty2, ty3, p1, p2, p3, af1, af2, af3, rfl, ho1, ho2, hne1, hne2, hne3⟩ := loopU_form hU
  unfold loopR at e
  rw [hzz] at e
  split at e
  rotate_left
  · cases e
  rename_i s1 hr1
  split at e
  rotate_left
  · cases e
  rename_i n1 es hacc
  split at e
  rotate_left
  · cases e
  rename_i ety hel
  split at e
  rotate_left
  · cases e
  rename_i s2 hr2
  split at e
  rotate_left
  · cases e
  rename_i hchk
  injection e with e
  subst e
  simp only [Bool.and_eq_true] at hchk
  obtain ⟨⟨hcv1, hcv2⟩, hfit⟩ := hchk
  unfold fitL at hfit
  simp only [Bool.and_eq_true, decide_eq_true_eq, Bool.not_eq_true', beq_eq_false_iff_ne, List.contains_iff_mem, ne_eq] at hfit
  obtain ⟨⟨⟨⟨⟨⟨⟨⟨⟨⟨⟨⟨hd, hen⟩, hdi⟩, hx1⟩, hx2⟩, hje⟩, hwi⟩, hwd⟩, hwm⟩, hz0⟩, hss⟩, hl1⟩, hl2⟩ := hfit
  have hwm : u.m ∉ ws := by
    intro hm
    rw [← List.contains_iff_mem] at hm
    rw [hm] at hwm
    cases hwm
  generalize hB : headS s s1 ws es zz ety = sB at *
  generalize hL : leaveS s s1 s2 sB ws es zz = lv at *
  have hlvn : lv.hp.next = max (s.hp.next + 1) (max s1.hp.next s2.hp.next) := by rw [← hL]; rfl
  have hBn : sB.hp.next = s.hp.next + 1 := by rw [← hB]; rfl
  have hlvg : ∀ n b, lv.hp.blks.get n = some b → n < s.hp.next ∧ (∃ b', s.hp.blks.get n = some b') ∧ ∃ b', sB.hp.blks.get n = some b' := by
    intro n b h
    rw [← hL, ← hB] at h
    rw [← hB]
    exact leaveS_get hwf h
  have hBwf : Wf sB.hp := by
    intro n b h
    rw [hBn]
    rw [← hB] at h
    rcases headS_get hwf h with ⟨rfl, _⟩ | ⟨h, _⟩ <;> omega
  have hBtm : ∀ t, sB.tm.get t = if t ∈ ws then some (headOf s.hp.next es zz s.tm s1.tm t) else s.tm.get t := by
    intro t
    rw [← hB]
    exact headT_get
  have hji : isJunk (sB.tm.get u.i) = true := by
    rw [hBtm, if_pos hwi]
    unfold headOf
    rw [hi0]
    rfl
  have R1 : Rnd P Sg n true s s1 u q ws es zz ety lv s s1 := ⟨hr1, by rw [hB]; exact hcv1, hx1, hl1, rfl, rfl, rfl, hwf, Nat.le_refl _, Nat.le_succ _, by rw [hlvn]; omega, rfl, fun n b h => (hlvg n b h).2.1⟩
  have R2 : Rnd P Sg n false s s1 u q ws es zz ety lv sB s2 := ⟨hr2, by rw [hB]; exact hcv2, hx2, hl2, by rw [← hB]; rfl, by rw [← hB]; rfl, by rw [← hB]; rfl, hBwf, by omega, by omega, by rw [hlvn]; omega, by rw [hBtm, if_neg hwm], fun n b h => (hlvg n b h).2.2⟩
  have hxN : x.m s.hp.next = none := hf _ (Nat.le_refl _) (by show s.hp.next < lv.hp.next; omega)
  have hum := hs.tm u.m
  rw [him] at hum
  obtain ⟨A, len, cap, hτ, hlen, hlm⟩ := ilen_eq hum
  have hlen2 : len ≤ len * zz := Nat.le_mul_of_pos_right _ hz0
  let μ : Act → World → Nat := fun a _ => match a.tmps.getD u.i undef with
    | .int _ k => len - k.toNat
    | _ => 0
  let I : Act → World → Prop := fun a' w' => ∃ (k : Nat) (z : Cx) (f : Bool) (S sl : St), Rnd P Sg n f s s1 u q ws es zz ety lv S sl ∧ (f = true → k = 0) ∧ k ≤ len ∧ z.τ = ⟨x.τ.v, k, x.τ.D⟩ ∧
    Ext x s.hp.blks.get s.hp.next w (z.re x.τ.ck) S.hp.blks.get S.hp.next w' ∧ SRel z w' S a' ∧ a'.tmps.getD u.i undef = .int .i64 k
  refine wpIn_loop I μ ?_ ?_
  · refine ⟨0, x.re 0, true, s, s1, R1, fun _ => rfl, Nat.zero_le _, rfl, ?_, hs.sub hss rfl hwf (fun t ht => ?_), ?_⟩
    · exact Ext.refl
    · have := hs.tm t
      rw [getD_past (by rw [hs.nt]; exact ht)] at this
      exact undef_only this
    · have := hs.tm u.i
      rw [hi0] at this
      generalize a.tmps.getD u.i undef = v at this
      cases this
      rfl
  intro a' w' hI
  obtain ⟨k, z, f, S, sl, R, hf0, hk, hzτ, hE, hS, hai⟩ := hI
  have ham : a'.tmps.getD u.m undef = .int .i64 len := by
    have := hS.tm u.m
    rw [R.im, him] at this
    obtain ⟨A', n', cap', h1, _, h2⟩ := ilen_eq this
    rw [hzτ] at h1
    rw [hτ] at h1
    injection h1 with _ h1 _
    rw [h2, h1]
  have hcode : Code.seq (.region id1 o1 false) (.seq (.cond (.tmp u.d) .skip (.exit u.k)) (.seq u.body (.region id2 o2 false))) = Code.seq (.region id1 o1 false) (.seq (.cond (.tmp u.d) .skip (.exit u.k)) (.seq u.body (.region id2 o2 false))) := rfl
  refine wpIn_seq (test_step ho1 hai ham ?_)
  have hdsz : u.d < a'.tmps.size := by rw [hS.nt, R.nt]; exact hd
  have hev : ∀ v, (a'.put (some u.d) v).eval (.tmp u.d) = v := fun v => put_eq hdsz
  have hev' : ∀ v, (a'.put (some u.d) v).tmps.getD u.d undef = v := fun v => put_eq hdsz
  by_cases hlt : k < len
  · have hdec : decide ((k : Int) < (len : Int)) = true := decide_eq_true (by omega)
    rw [hdec]
    refine wpIn_seq (wpIn_cond_true (hev _) (wpIn_skip (wpIn_seq ?_)))
    have hSat : SRel z w' (atIdx S u q) (a'.put (some u.d) (.bool true)) := by
      refine ⟨fun t => ?_, by rw [put_size]; exact hS.nt, by rw [put_defers]; exact hS.df, hS.hp⟩
      show VRel z w' ((((S.tm.put u.d .junk).put u.i (.idx q)).get t).getD (.tup [])) _
      rw [Tr.get_put]
      by_cases hti : t = u.i
      · subst hti
        rw [if_pos rfl, put_ne (Ne.symm hdi), hai]
        have hck : z.τ.ck = k := by rw [hzτ]
        rw [← hck]
        exact .idx q A len cap (by rw [hzτ]; exact hτ) (by rw [hck]; exact hlt)
      · rw [if_neg hti, Tr.get_put]
        by_cases htd : t = u.d
        · subst htd
          rw [if_pos rfl]
          exact .junk _
        · rw [if_neg htd, put_ne htd]
          exact hS.tm t
    have gr := (grows (P := P) (Sg := Sg) n).1 _ _ _ R.run
    have hfz : Free z (atIdx S u q).hp sl.hp := by
      intro j h1 h2
      have h1 : S.hp.next ≤ j := h1
      have := hE.mo j (.inr h1)
      have e1 : z.m j = x.m j := this
      rw [e1]
      exact hf j (Nat.le_trans R.nx h1) (Nat.lt_of_lt_of_le h2 R.nl)
    refine hc _ _ _ z w' _ R.run hSat R.wf hfz l (by show S.rd = _; rw [R.rd]; exact hrd) _ (fun a2 w2 hw => ?_)
    obtain ⟨y, hE2, hy⟩ := hw
    have hyck : y.τ.ck = k := by rw [hE2.τ, hzτ]
    have hE2' : Ext z S.hp.blks.get S.hp.next w' y sl.hp.blks.get sl.hp.next w2 := hE2
    have hE3 : Ext x s.hp.blks.get s.hp.next w (y.re x.τ.ck) sl.hp.blks.get sl.hp.next w2 := hE.trans (hE2'.re x.τ.ck) R.nx gr.1
    have h2i : a2.tmps.getD u.i undef = .int .i64 k := by
      have := hy.tm u.i
      rw [isIdx_eq R.idx] at this
      have := idx_eq this
      rw [this, hyck]
    have hslnt : sl.nt = s.nt := by
      have := R.cov
      unfold covS at this
      split at this
      · simp only [Bool.and_eq_true, beq_iff_eq] at this
        exact this.2
      · cases this
    have h2e : u.e < a2.tmps.size := by rw [hy.nt, hslnt]; exact hen
    refine step_step ho2 h2i h2e ?_
    rw [wrap_next (by omega)]
    have hisz : u.i < a2.tmps.size := by
      by_cases h : u.i < a2.tmps.size
      · exact h
      · exfalso
        rw [getD_past (Nat.le_of_not_lt h)] at h2i
        cases h2i
    have h3i : ((a2.put (some u.e) (.int .i64 ((k + 1 : Nat) : Int))).put (some u.i) (.int .i64 ((k + 1 : Nat) : Int))).tmps.getD u.i undef = .int .i64 ((k + 1 : Nat) : Int) := put_eq (by rw [put_size]; exact hisz)
    obtain ⟨z', hz1, hz2, hz3⟩ := cov_next (a'' := (a2.put (some u.e) (.int .i64 ((k + 1 : Nat) : Int))).put (some u.i) (.int .i64 ((k + 1 : Nat) : Int))) hs hwf hxN (Nat.le_trans R.nx gr.1) hE3 hy hyck (Nat.le_trans (Nat.mul_le_mul_right zz (show k + 1 ≤ len by omega)) hlen) hf0 R.cov
      (by rw [put_size, put_size]) (by rw [put_defers, put_defers]) (fun t h1 h2 => by rw [put_ne h1, put_ne h2]) (by rw [hB]; exact hji) (by rw [hB]; exact hje)
    rw [hB] at hz2 hz3
    refine ⟨⟨k + 1, z', false, sB, s2, R2, (fun h => by cases h), hlt, hz1, by rw [hBn]; exact hz2, hz3, h3i⟩, ?_⟩
    show (match ((a2.put (some u.e) (.int .i64 ((k + 1 : Nat) : Int))).put (some u.i) (.int .i64 ((k + 1 : Nat) : Int))).tmps.getD u.i undef with
      | .int _ k => len - k.toNat
      | _ => 0) < (match a'.tmps.getD u.i undef with
      | .int _ k => len - k.toNat
      | _ => 0)
    rw [h3i, hai]
    simp only [Int.toNat_natCast]
    omega
  · have hdec : decide ((k : Int) < (len : Int)) = false := decide_eq_false (by omega)
    rw [hdec]
    refine wpIn_seq (wpIn_cond_false (hev _) (wpIn_exit ?_))
    refine hQ _ _ ⟨z.re x.τ.ck, ?_, ?_⟩
    · exact hE.less (by have := R.nx1; show S.hp.next ≤ lv.hp.next; omega) R.un
    · have hsub : SRel (z.re x.τ.ck) w' lv a' := hS.sub R.lvS (by rw [R.df, ← hL]; rfl) (fun n b h => (hlvg n b h).1) (fun t ht => by
        rw [← hL, ← hB]
        exact leave_undef hs t (by rw [← hL] at ht; exact ht))
      refine ⟨fun t => ?_, by rw [put_size]; exact hsub.nt, by rw [put_defers]; exact hsub.df, hsub.hp⟩
      by_cases htd : t = u.d
      · subst htd
        rw [hev']
        have : lv.tm.get u.d = some (leaveOf sB.tm u.d) := by
          rw [← hL]
          show (leaveT sB.tm ws sB.tm).get u.d = _
          rw [leaveT_get, if_pos hwd]
        rw [this]
        show VRel _ _ (leaveOf sB.tm u.d) _
        unfold leaveOf
        split
        · exact .any _ rfl
        · exact .junk _
      · rw [put_ne htd]
        exact hsub.tm t
end
end Go.Abs
