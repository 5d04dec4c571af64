import Derived.Test.YtepifamhppinjaaGreatDoorEngP1
/- The engine: what only reads is Go's (second part). -/
namespace Go.Eng
variable {P : Program}

/-- what an equality comes to -/
structure EqOk (P : Program) (t : Nat) (b : Bool) (x y : Value) : Prop where
  run : ∀ w, (Op.equal t x y).run P w = .ok b w
  notNil : ¬ (x = .nilIface ∧ y = .nilIface)
  notAgg : ∀ a c, ¬ (x = .agg a ∧ y = .agg c)
  eql : binOp .eql t x y = (do pure (.bool (← Op.equal t x y)))
  neq : binOp .neq t x y = (do pure (.bool (!(← Op.equal t x y))))

theorem dBool_eq {d : TypeDesc} (h : dBool d = true) : d = .bool := by unfold dBool at h; split at h <;> first | rfl | cases h
theorem dPtr_eq {d : TypeDesc} {e : Nat} (h : dPtr d = some e) : d = .pointer e := by unfold dPtr at h; split at h <;> first | (cases h; rfl) | cases h
theorem dIface_eq {d : TypeDesc} (h : dIface d = true) : ∃ m, d = .interface m := by unfold dIface at h; split at h <;> first | exact ⟨_, rfl⟩ | cases h
theorem dSlice_eq {d : TypeDesc} (h : dSlice d = true) : ∃ m, d = .slice m := by unfold dSlice at h; split at h <;> first | exact ⟨_, rfl⟩ | cases h
theorem dMap_eq {d : TypeDesc} (h : dMap d = true) : ∃ k m, d = .map k m := by unfold dMap at h; split at h <;> first | exact ⟨_, _, rfl⟩ | cases h
theorem dFunc_eq {d : TypeDesc} (h : dFunc d = true) : ∃ k m v, d = .func k m v := by unfold dFunc at h; split at h <;> first | exact ⟨_, _, _, rfl⟩ | cases h

theorem eqV_sound {t : Nat} {x y : V} {b : Bool} (h : eqV P t x y = some b) {ρ : Rho} {x' y' : Value} (hx : VR ρ x x') (hy : VR ρ y y') : EqOk P t b x' y' := by
  obtain ⟨d, hd, g⟩ := ob_some h
  clear h
  have hu := run_und (P := P) hd
  have one : ∀ x y : Value, Op.equal t x y = Op.equalIn (9999 + 1) t x y := fun _ _ => rfl
  split at g
  · obtain ⟨h1, g2⟩ := br_none g
    clear g
    cases dBool_eq h1
    simp only [VR] at hx hy
    subst hx; subst hy
    cases g2
    refine ⟨fun w => ?_, by simp, by simp, by simp [binOp], by simp [binOp]⟩
    rename_i a b'
    rw [one, Op.equalIn]
    simp only [Sem.run_bind, hu, Result.andThen_ok, Sem.run_pure]
    cases a <;> cases b' <;> rfl
  · obtain ⟨e, he, g2⟩ := ob_some g
    clear g
    cases dPtr_eq he
    obtain ⟨z, hz, g3⟩ := ob_some g2
    clear g2
    obtain ⟨h1, h⟩ := br_none g3
    clear g3
    simp only [beq_eq', Bool.and_eq_true, decide_eq_true_eq, Bool.not_eq_true', decide_eq_false_iff_not] at h1
    obtain ⟨rfl, hz0⟩ := h1
    simp only [beq_eq', Option.some.injEq] at h
    subst h
    simp only [VR] at hx hy
    obtain ⟨b1, z1, rfl, hr1⟩ := hx
    obtain ⟨b2, z2, rfl, hr2⟩ := hy
    rw [hr1] at hr2; cases hr2
    refine ⟨fun w => ?_, by simp, by simp, by simp [binOp], by simp [binOp]⟩
    rw [one, Op.equalIn]
    simp only [Sem.run_bind, hu, Result.andThen_ok, run_szOf hz, ne_eq, hz0, not_false_eq_true, if_true, sameAddr, beq_self_eq_true, Sem.run_pure]
    congr 1
    rw [Bool.eq_iff_iff]; simp
  all_goals first
    | (cases g; done)
    | (first
        | (obtain ⟨e, he, h⟩ := ob_some g; clear g; cases dPtr_eq he)
        | (obtain ⟨h1, h⟩ := br_none g; clear g; first | (obtain ⟨_, rfl⟩ := dIface_eq h1) | (obtain ⟨_, rfl⟩ := dSlice_eq h1) | (obtain ⟨_, _, rfl⟩ := dMap_eq h1) | (obtain ⟨_, _, _, rfl⟩ := dFunc_eq h1))
       cases h
       simp only [VR] at hx hy
       first
         | (subst hx; subst hy)
         | (obtain ⟨_, _, rfl, _⟩ := hx; subst hy)
         | (obtain ⟨_, _, rfl, _⟩ := hy; subst hx)
         | (obtain ⟨_, rfl, _⟩ := hx; subst hy)
         | (obtain ⟨_, rfl, _⟩ := hy; subst hx)
         | (obtain ⟨_, _, _, rfl, _⟩ := hx; subst hy)
         | (obtain ⟨_, _, _, rfl, _⟩ := hy; subst hx)
       refine ⟨fun w => ?_, by simp, by simp, by simp [binOp], by simp [binOp]⟩
       rw [one, Op.equalIn]
       simp only [Sem.run_bind, hu, Result.andThen_ok, Sem.run_pure, Option.isNone_none, Option.isNone_some])

theorem eqGuard_ok {op : BinOp} {t : TypeId} {x y : Operand} {a b : Value} (h1 : ¬ (a = .nilIface ∧ b = .nilIface)) (h2 : ∀ c d, ¬ (a = .agg c ∧ b = .agg d)) (w : World) :
    (eqGuard op t x y a b).run P w = .ok () w := by
  have e : eqGuard op t x y a b = pure () := by
    unfold eqGuard
    cases a <;> cases b <;> first | exact absurd ⟨rfl, rfl⟩ h1 | exact absurd ⟨rfl, rfl⟩ (h2 _ _) | (cases op <;> rfl)
  rw [e]; rfl

theorem binV_sound {op : BinOp} {t : Nat} {x y : V} {v : V} (h : binV P op t x y = some v) {ρ : Rho} {x' y' : Value} (hx : VR ρ x x') (hy : VR ρ y y') (o p : Operand) (w : World) :
    ∃ v', (do eqGuard op t o p x' y'; binOp op t x' y' : Sem Value).run P w = .ok v' w ∧ VR ρ v v' := by
  unfold binV at h
  split at h
  · simp only [VR] at hx hy
    subst hx; subst hy
    rw [Sem.run_bind, eqGuard_ok (by simp) (by simp)]
    rename_i k a j b
    cases hs : isShift op with
    | true =>
      rw [hs] at h
      obtain ⟨v', h1, h2⟩ := opShift_sound h t j w
      exact ⟨v', h1, h2 ρ⟩
    | false =>
      rw [hs] at h
      simp only [br_false] at h
      obtain ⟨h1, g⟩ := br_none h
      clear h
      cases ikEq_eq h1
      obtain ⟨v', h1, h2⟩ := opInt_sound (by constructor <;> (rintro rfl; cases hs)) g t w
      exact ⟨v', h1, h2 ρ⟩
  · simp only [VR] at hx hy
    obtain ⟨s, rfl, hs⟩ := hx
    obtain ⟨u, rfl, hu⟩ := hy
    rw [Sem.run_bind, eqGuard_ok (by simp) (by simp)]
    obtain ⟨v', h1, h2⟩ := opStr_sound h hs hu t w
    exact ⟨v', h1, h2 ρ⟩
  · obtain ⟨e, he, g⟩ := ob_some h
    clear h
    obtain ⟨b, hb, h⟩ := ob_some g
    clear g
    have hk := eqV_sound hb hx hy
    rw [Sem.run_bind, eqGuard_ok hk.notNil hk.notAgg]
    cases h
    cases op <;> first | (cases he; done) | skip
    · cases he
      rw [hk.eql]
      exact ⟨.bool b, by simp [hk.run], by simp [VR]⟩
    · cases he
      rw [hk.neq]
      exact ⟨.bool !b, by simp [hk.run], by simp [VR]⟩

theorem unV_sound {op : UnOp} {x v : V} (h : unV op x = some v) {ρ : Rho} {x' : Value} (hx : VR ρ x x') (w : World) : ∃ v', (Op.unary op x').run P w = .ok v' w ∧ VR ρ v v' := by
  unfold unV at h
  split at h
  · cases h
    simp only [VR] at hx; subst hx
    rename_i k n
    exact ⟨.int k (k.wrap (0 - n)), by simp [Op.unary, Op.intArith], by rw [wrapI_eq]; simp only [VR]; rfl⟩
  · cases h
    simp only [VR] at hx; subst hx
    rename_i b
    exact ⟨.bool !b, by simp [Op.unary], by simp [VR]⟩
  · cases h
end Go.Eng
