import Derived.Test.YtepifamhppinjaaGreatDoorEngH6
/- The engine: code is Go's. -/
namespace Go.Eng

/-- what an engine's end says of an exit -/
def Ends (n : Sz) (ρ : Rho) (h : Hp) (w : World) : R → Exit → Act → World → Prop
  | .norm fr h', .normal, a', w' => ∃ ρ', Ext ρ h w ρ' h' w' ∧ Fresh ρ' h' ∧ FR ρ' n fr a'
  | .exit id fr h', .exit j, a', w' => j = id ∧ ∃ ρ', Ext ρ h w ρ' h' w' ∧ Fresh ρ' h' ∧ FR ρ' n fr a'
  | .ret fr h', .ret, a', w' => ∃ ρ', Ext ρ h w ρ' h' w' ∧ Fresh ρ' h' ∧ FR ρ' n fr a'
  | .pan v fr h', .panic chain, a', w' => ∃ ρ' v', chain = [{ v := v', recovered := false }] ∧ Ext ρ h w ρ' h' w' ∧ Fresh ρ' h' ∧ FR ρ' n fr a' ∧ VR ρ' v v'
  | _, _, _, _ => False
theorem Ends.trans {n : Sz} {ρ ρ₁ : Rho} {h h₁ : Hp} {w w₁ : World} (x : Ext ρ h w ρ₁ h₁ w₁) {r : R} {e : Exit} {a : Act} {w' : World} (k : Ends n ρ₁ h₁ w₁ r e a w') : Ends n ρ h w r e a w' := by
  cases r <;> cases e <;> first | exact k.elim | skip
  · obtain ⟨ρ', h1, h2, h3⟩ := k; exact ⟨ρ', x.trans h1, h2, h3⟩
  · obtain ⟨e, ρ', h1, h2, h3⟩ := k; exact ⟨e, ρ', x.trans h1, h2, h3⟩
  · obtain ⟨ρ', h1, h2, h3⟩ := k; exact ⟨ρ', x.trans h1, h2, h3⟩
  · obtain ⟨ρ', v', e, h1, h2, h3, h4⟩ := k; exact ⟨ρ', v', e, x.trans h1, h2, h3, h4⟩

/-- the engine's step is a piece of code's -/
def Sound (P : Program) (n : Sz) (f : Fr → Hp → R) (c : Code) : Prop :=
  ∀ ρ fr h a w, Sim ρ h w → Fresh ρ h → FR ρ n fr a → f fr h ≠ .bad → c.wp P (Ends n ρ h w (f fr h)) a w

/-! Loops. -/
def LoopIn (P : Program) (c : Code) (Q : Exit → Act → World → Prop) (a : Act) (w : World) : Prop :=
  ∀ (b : Frame) (k : List Item) (cs : List Frame), ∃ e a' w', Q e a' w' ∧ Arrives P (lone (b.at a (.code c :: .inLoop c :: k)) cs w) b k cs e a' w'
theorem LoopIn.wp {P : Program} {c : Code} {Q : Exit → Act → World → Prop} {a : Act} {w : World} (h : LoopIn P c Q a w) : (Code.loop c).wp P Q a w :=
  fun b k cs => let ⟨e, a', w', q, r⟩ := h b k cs; ⟨e, a', w', q, .of_steps (.one step_loop) r⟩
theorem LoopIn.round {P : Program} {c : Code} {Q : Exit → Act → World → Prop} {a : Act} {w : World} (h : c.wp P (Exit.then (LoopIn P c Q) Q) a w) : LoopIn P c Q a w := by
  intro b k cs
  obtain ⟨e, a₁, w₁, hq, harr⟩ := h b (.inLoop c :: k) cs
  cases e with
  | normal =>
    obtain ⟨e₂, a₂, w₂, hq₂, harr₂⟩ := hq b k cs
    exact ⟨e₂, a₂, w₂, hq₂, .of_steps (Steps.trans harr (.one step_inLoop)) harr₂⟩
  | exit id => exact ⟨_, a₁, w₁, hq, .pass (x := .inLoop c) rfl (fun _ _ => .inl (by simp)) harr⟩
  | goto l => exact ⟨_, a₁, w₁, hq, .pass (x := .inLoop c) rfl (fun _ _ => .inl (by simp)) harr⟩
  | ret => exact ⟨_, a₁, w₁, hq, .pass (x := .inLoop c) rfl (fun _ _ => .inl (by simp)) harr⟩
  | panic ch => exact ⟨_, a₁, w₁, hq, .pass (x := .inLoop c) rfl (fun _ _ => .inl (by simp)) harr⟩
  | outgrown => exact ⟨_, a₁, w₁, hq, .pass (x := .inLoop c) rfl (fun _ _ => .inl (by simp)) harr⟩

/-- a number of rounds -/
def LoopS (P : Program) (n : Sz) (c : Code) (f : Fr → Hp → R) : Prop :=
  ∀ (Q : Exit → Act → World → Prop) ρ fr h a w, Sim ρ h w → Fresh ρ h → FR ρ n fr a → f fr h ≠ .bad →
    (∀ fr' h' ρ' a' w', f fr h = .norm fr' h' → Ext ρ h w ρ' h' w' → Fresh ρ' h' → FR ρ' n fr' a' → LoopIn P c Q a' w') →
    (∀ e a' w', Ends n ρ h w (f fr h) e a' w' → e ≠ .normal → Q e a' w') → LoopIn P c Q a w
theorem LoopS.one {P : Program} {n : Sz} {c : Code} {f : Fr → Hp → R} (h : Sound P n f c) : LoopS P n c f := by
  intro Q ρ fr h' a w hs hfr hf hb hn he
  refine LoopIn.round (wp_mono (h ρ fr h' a w hs hfr hf hb) fun e a' w' hq => ?_)
  cases e with
  | normal =>
    show LoopIn P c Q a' w'
    cases hr : f fr h' with
    | norm fr' h'' => rw [hr] at hq; obtain ⟨ρ', q1, q2, q3⟩ := hq; exact hn fr' h'' ρ' a' w' hr q1 q2 q3
    | exit _ _ _ => rw [hr] at hq; exact hq.elim
    | ret _ _ => rw [hr] at hq; exact hq.elim
    | pan _ _ _ => rw [hr] at hq; exact hq.elim
    | bad => rw [hr] at hq; exact hq.elim
  | _ => exact he _ _ _ hq (by simp)
theorem andThen_norm (fr : Fr) (h : Hp) (k : Fr → Hp → R) : andThen (.norm fr h) k = k fr h := rfl
theorem LoopS.then {P : Program} {n : Sz} {c : Code} {f g : Fr → Hp → R} (hf : LoopS P n c f) (hg : LoopS P n c g) : LoopS P n c fun fr h => andThen (f fr h) g := by
  intro Q ρ fr h a w hs hfr hfa hb hn he
  change andThen (f fr h) g ≠ .bad at hb
  change ∀ fr' h' ρ' a' w', andThen (f fr h) g = .norm fr' h' → _ at hn
  change ∀ e a' w', Ends n ρ h w (andThen (f fr h) g) e a' w' → _ at he
  have hfb : f fr h ≠ .bad := fun e => hb (by rw [e]; rfl)
  have hS := hf Q ρ fr h a w hs hfr hfa hfb
  generalize f fr h = r at *
  refine hS (fun fr' h' ρ' a' w' hr x hfr' hfa' => ?_) (fun e a' w' hends hne => ?_)
  · subst hr
    change g fr' h' ≠ .bad at hb
    change ∀ fr'' h'' ρ'' a'' w'', g fr' h' = .norm fr'' h'' → _ at hn
    change ∀ e a' w', Ends n ρ h w (g fr' h') e a' w' → _ at he
    exact hg Q ρ' fr' h' a' w' x.sim hfr' hfa' hb (fun fr'' h'' ρ'' a'' w'' hr2 x2 => hn fr'' h'' ρ'' a'' w'' hr2 (x.trans x2)) (fun e a'' w'' hends => he e a'' w'' (hends.trans x))
  · refine he e a' w' ?_ hne
    cases r with
    | norm fr' h' => cases e <;> first | exact absurd rfl hne | exact hends.elim
    | bad => exact absurd rfl hfb
    | _ => exact hends
theorem LoopS.it {P : Program} {n : Sz} {c : Code} {f : Fr → Hp → R} (hf : LoopS P n c f) : ∀ m, LoopS P n c (it f m)
  | 0 => hf
  | m + 1 => (LoopS.it hf m).then (LoopS.it hf m)
theorem LoopS.geo {P : Program} {n : Sz} {c : Code} {f : Fr → Hp → R} (hf : LoopS P n c f) : ∀ l, LoopS P n c (geo f l)
  | [] => fun _ _ _ _ _ _ _ _ _ hb => absurd rfl hb
  | m :: l => (hf.it m).then (LoopS.geo hf l)
theorem geo_norm (f : Fr → Hp → R) : ∀ (l : List Nat) (fr : Fr) (h : Hp) (fr' : Fr) (h' : Hp), geo f l fr h ≠ .norm fr' h'
  | [], _, _, _, _ => by intro e; cases e
  | m :: l, fr, h, fr', h' => by
    intro e
    have e : andThen (it f m fr h) (geo f l) = .norm fr' h' := e
    cases hr : it f m fr h with
    | norm a b => rw [hr] at e; exact geo_norm f l a b fr' h' e
    | exit _ _ _ => rw [hr] at e; cases e
    | ret _ _ => rw [hr] at e; cases e
    | pan _ _ _ => rw [hr] at e; cases e
    | bad => rw [hr] at e; cases e
theorem Sound.loop {P : Program} {n : Sz} {c : Code} {f : Fr → Hp → R} (hf : Sound P n f c) (l : List Nat) : Sound P n (geo f l) (.loop c) := by
  intro ρ fr h a w hs hfr hfa hb
  refine LoopIn.wp ((LoopS.geo (LoopS.one hf) l) _ ρ fr h a w hs hfr hfa hb (fun fr' h' _ _ _ hr => absurd hr (geo_norm f l fr h fr' h')) (fun e a' w' he _ => he))

/-! Sequences, blocks, conditions. -/
theorem Sound.seq {P : Program} {n : Sz} {c d : Code} {f g : Fr → Hp → R} (hf : Sound P n f c) (hg : Sound P n g d) : Sound P n (fun fr h => andThen (f fr h) g) (.seq c d) := by
  intro ρ fr h a w hs hfr hfa hb
  change andThen (f fr h) g ≠ .bad at hb
  change (Code.seq c d).wp P (Ends n ρ h w (andThen (f fr h) g)) a w
  have hfb : f fr h ≠ .bad := fun e => hb (by rw [e]; rfl)
  have hS := hf ρ fr h a w hs hfr hfa hfb
  generalize f fr h = r at *
  refine wp_seq (wp_mono hS fun e a' w' hends => ?_)
  cases r with
  | norm fr' h' =>
    cases e <;> first | exact hends.elim | skip
    obtain ⟨ρ', x, q2, q3⟩ := hends
    change g fr' h' ≠ .bad at hb
    show d.wp P (Ends n ρ h w (g fr' h')) a' w'
    exact wp_mono (hg ρ' fr' h' a' w' x.sim q2 q3 hb) fun e a'' w'' k => k.trans x
  | exit _ _ _ => cases e <;> first | exact hends.elim | exact hends
  | ret _ _ => cases e <;> first | exact hends.elim | exact hends
  | pan _ _ _ => cases e <;> first | exact hends.elim | exact hends
  | bad => exact absurd rfl hfb
theorem Sound.block {P : Program} {n : Sz} {c : Code} {f : Fr → Hp → R} (id : Nat) (hf : Sound P n f c) : Sound P n (fun fr h => inBlock id (f fr h)) (.block id c) := by
  intro ρ fr h a w hs hfr hfa hb
  change inBlock id (f fr h) ≠ .bad at hb
  change (Code.block id c).wp P (Ends n ρ h w (inBlock id (f fr h))) a w
  have hfb : f fr h ≠ .bad := fun e => hb (by rw [e]; rfl)
  have hS := hf ρ fr h a w hs hfr hfa hfb
  generalize f fr h = r at *
  refine wp_block (wp_mono hS fun e a' w' hends => ?_)
  cases r with
  | norm fr' h' => cases e <;> first | exact hends.elim | exact hends
  | exit j fr' h' =>
    cases e with
    | exit j' =>
      obtain ⟨e1, k⟩ := hends
      subst e1
      have e2 : inBlock id (.exit j' fr' h') = br (Nat.beq j' id) (.norm fr' h') (.exit j' fr' h') := rfl
      rw [e2]
      by_cases hj : j' = id
      · simp only [Exit.inBlock, hj, if_true, beq_eq', decide_true, br_true]; exact k
      · simp only [Exit.inBlock, hj, if_false, beq_eq', decide_false, br_false]; exact ⟨rfl, k⟩
    | _ => exact hends.elim
  | ret _ _ => cases e <;> first | exact hends.elim | exact hends
  | pan _ _ _ => cases e <;> first | exact hends.elim | exact hends
  | bad => exact absurd rfl hfb
theorem Sound.cond {P : Program} {n : Sz} {x : Operand} {c d : Code} {f g : Fr → Hp → R} (hf : Sound P n f c) (hg : Sound P n g d) : Sound P n (fun fr h => condR (ev n fr x) f g fr h) (.cond x c d) := by
  intro ρ fr h a w hs hfr hfa hb
  have hx := ev_VR hfa x
  simp only at hb ⊢
  unfold condR at hb ⊢
  split at hb
  · rename_i t ht
    rw [ht] at hx
    simp only [VR] at hx
    refine wp_cond hx ?_
    cases t with
    | true => exact hf ρ fr h a w hs hfr hfa hb
    | false => exact hg ρ fr h a w hs hfr hfa hb
  · exact absurd rfl hb
end Go.Eng
