import Derived.Test.YtepifamhppinjaaGreatDoorEngQ3
/- The engine: the run by a plan, as a list of steps. -/
namespace Go.Eng

theorem bool_same {x y : Bool} (h : br x y (not y) = true) : x = y := by cases x <;> cases y <;> first | rfl | cases h
theorem nat_same {x y : Nat} (h : Nat.beq x y = true) : x = y := by simpa using h
theorem same1_sound {a b : V} (h : same1 a b = true) : a = b := by
  unfold same1 at h
  split at h <;> (try simp only [Bool.and_eq_true] at h) <;> first
    | rfl
    | (rw [bool_same h]; done)
    | (cases h; done)
    | (rw [nat_same h]; done)
    | (rw [nat_same h.1, nat_same h.2]; done)
    | skip
  · rw [ikEq_eq h.1]
    have := h.2
    rw [intEq_eq] at this
    rw [eq_of_beq this]
  · have h : and (Nat.beq _ _) (Nat.beq _ _) = true := h
    simp only [Bool.and_eq_true] at h
    rw [nat_same h.1, nat_same h.2]
  · obtain ⟨⟨h1, h2⟩, ⟨h3, h4⟩, h5, h6⟩ := h
    rw [nat_same h1, nat_same h2, nat_same h3, nat_same h4, nat_same h5, bool_same h6]
theorem sameL_sound : ∀ {a b : List V}, sameL a b = true → a = b
  | [], [], _ => rfl
  | [], _ :: _, h => by cases h
  | _ :: _, [], h => by cases h
  | x :: a, y :: b, h => by
    have h : br (same1 x y) (sameL a b) false = true := h
    cases hb : same1 x y with
    | false => rw [hb] at h; cases h
    | true => rw [hb] at h; rw [same1_sound hb, sameL_sound h]
theorem same_sound {a b : V} (h : same a b = true) : a = b := by
  unfold same at h
  split at h
  · rw [sameL_sound h]
  · exact same1_sound h
theorem free_rdOp {P : Program} {n : Sz} {fr : Fr} {op : Op} (h : free op = true) (H H' : Hp) : rdOp P n fr H op = rdOp P n fr H' op := by
  cases op <;> first | rfl | (cases h; done) | skip
  case makeFunc f a b => cases f <;> rfl
theorem cls_le {P : Program} (op : Op) : cls P op ≤ 2 := by
  unfold cls
  split <;> first
    | omega
    | skip
  · unfold br; cases convAl P _ _ <;> simp
  · split
    · split <;> omega
    · omega

/-- a step of the run by a plan -/
structure Tr where
  j : Nat
  o : Oper
  v : V
  ob : Option Obj
  fr : Fr

section
variable (E : Env) (call : Call) (n : Sz) (ops : Array Oper) (us : T3 Nat) (base : Nat)
inductive Chain : List (Nat × Hp) → Hp → Fr → Hp → List Tr → Fr → Hp → Prop
  | nil (snaps : List (Nat × Hp)) (H : Hp) (fr : Fr) (h : Hp) : Chain snaps H fr h [] fr h
  | skip {snaps : List (Nat × Hp)} {H h h' : Hp} {fr fr' : Fr} {j : Nat} {o : Oper} {T : List Tr} (ho : ops[j]? = some o) (hs : isHard E.P ops j = false) (hw : wantE n ops.toList o.guard fr = some false)
      (k : Chain snaps H (putF n o.dst V.undef fr) h T fr' h') : Chain snaps H fr h (⟨j, o, V.undef, none, fr⟩ :: T) fr' h'
  | pass {snaps : List (Nat × Hp)} {H h h' : Hp} {fr fr' : Fr} {j : Nat} {o : Oper} {T : List Tr} (ho : ops[j]? = some o) (hs : isHard E.P ops j = true) (hw : wantE n ops.toList o.guard fr = some false)
      (k : Chain ((j, H) :: snaps) h (putF n o.dst V.undef fr) h T fr' h') : Chain snaps H fr h (⟨j, o, V.undef, none, fr⟩ :: T) fr' h'
  | read {snaps : List (Nat × Hp)} {H h h' : Hp} {fr fr' : Fr} {j : Nat} {o : Oper} {v : V} {T : List Tr} (ho : ops[j]? = some o) (hs : isHard E.P ops j = false) (hw : wantE n ops.toList o.guard fr = some true)
      (hc : cls E.P o.op = 0) (hv : rdOp E.P n fr H o.op = some v) (hsn : ∀ p ∈ snaps, bit (get3 us j) p.1 = false → rdOp E.P n fr p.2 o.op = some v)
      (k : Chain snaps H (putF n o.dst v fr) h T fr' h') : Chain snaps H fr h (⟨j, o, v, none, fr⟩ :: T) fr' h'
  | make {snaps : List (Nat × Hp)} {H h h' : Hp} {fr fr' : Fr} {j : Nat} {o : Oper} {obj : Obj} {kf : Nat → V} {T : List Tr} (ho : ops[j]? = some o) (hs : isHard E.P ops j = false) (hw : wantE n ops.toList o.guard fr = some true)
      (hc : cls E.P o.op = 1) (hv : alOp E.P n fr o.op = some (obj, kf))
      (k : Chain snaps H (putF n o.dst (kf (base + j)) fr) (h.put (base + j) obj) T fr' h') : Chain snaps H fr h (⟨j, o, kf (base + j), some obj, fr⟩ :: T) fr' h'
  | hard {snaps : List (Nat × Hp)} {H h h1 h' : Hp} {fr fr' : Fr} {j : Nat} {o : Oper} {v : V} {T : List Tr} (ho : ops[j]? = some o) (hs : isHard E.P ops j = true) (hw : wantE n ops.toList o.guard fr = some true)
      (hv : xOp E call n o.op fr h = .val v h1)
      (k : Chain ((j, H) :: snaps) h1 (putF n o.dst v fr) h1 T fr' h') : Chain snaps H fr h (⟨j, o, v, none, fr⟩ :: T) fr' h'
theorem agreeW_cons (fr : Fr) (op : Op) (u : Nat) (v : V) (p : Nat × Hp) (snaps : List (Nat × Hp)) : agreeW E n fr op u v (p :: snaps) = br (br (bit u p.1) true (@Option.rec V (fun _ => Bool) false (fun w => same w v) (rdOp E.P n fr p.2 op))) (agreeW E n fr op u v snaps) false := rfl
theorem agreeW_sound {fr : Fr} {op : Op} {u : Nat} {v : V} : ∀ {snaps : List (Nat × Hp)}, agreeW E n fr op u v snaps = true → ∀ p ∈ snaps, bit u p.1 = false → rdOp E.P n fr p.2 op = some v
  | [], _, _, h, _ => by cases h
  | q :: snaps, h, p, hp, hb => by
    rw [agreeW_cons] at h
    cases h1 : br (bit u q.1) true (@Option.rec V (fun _ => Bool) false (fun w => same w v) (rdOp E.P n fr q.2 op)) with
    | false => rw [h1] at h; cases h
    | true =>
      rw [h1] at h
      rcases List.mem_cons.1 hp with rfl | hp
      · rw [hb] at h1
        cases h2 : rdOp E.P n fr p.2 op with
        | none => rw [h2] at h1; cases h1
        | some w =>
          rw [h2] at h1
          have h1 : same w v = true := h1
          rw [same_sound h1]
      · exact agreeW_sound h p hp hb
theorem readW_sound {fr : Fr} {H : Hp} {op : Op} {u : Nat} {v : V} {snaps : List (Nat × Hp)} (h : readW E n fr H op u snaps = some v) : rdOp E.P n fr H op = some v ∧ ∀ p ∈ snaps, bit u p.1 = false → rdOp E.P n fr p.2 op = some v := by
  obtain ⟨w, hw, h2⟩ := ob_some h
  obtain ⟨h3, h4⟩ := br_none h2
  cases h4
  refine ⟨hw, fun p hp hb => ?_⟩
  cases hf : free op with
  | true => rw [← free_rdOp hf H p.2]; exact hw
  | false => rw [hf] at h3; exact agreeW_sound E n h3 p hp hb
noncomputable def runD1 (j : Nat) (ih : List (Nat × Hp) → Hp → Fr → Hp → R) (snaps : List (Nat × Hp)) (H : Hp) (fr : Fr) (h : Hp) (o : Oper) (b : Bool) : R :=
  @Nat.rec (fun _ => R)
    (br b (@Option.rec V (fun _ => R) .bad (fun v => ih snaps H (putF n o.dst v fr) h) (readW E n fr H o.op (get3 us j) snaps)) (ih snaps H (putF n o.dst V.undef fr) h))
    (fun m _ => @Nat.rec (fun _ => R)
      (br b (@Option.rec (Obj × (Nat → V)) (fun _ => R) .bad (fun p => num (Nat.add base j) fun id => ih snaps H (putF n o.dst (p.2 id) fr) (h.put id p.1)) (alOp E.P n fr o.op)) (ih snaps H (putF n o.dst V.undef fr) h))
      (fun _ _ => br b (@O.rec (fun _ => R) (fun v h' => ih ((j, H) :: snaps) h' (putF n o.dst v fr) h') (fun _ _ => .bad) .bad (xOp E call n o.op fr h)) (ih ((j, H) :: snaps) h (putF n o.dst V.undef fr) h)) m)
    (cls E.P o.op)
theorem runD_cons (j : Nat) (l : List Nat) (snaps : List (Nat × Hp)) (H : Hp) (fr : Fr) (h : Hp) : runD E call n ops us base (j :: l) snaps H fr h =
    @Option.rec Oper (fun _ => R) .bad (fun o => @Option.rec Bool (fun _ => R) .bad (fun b => runD1 E call n us base j (runD E call n ops us base l) snaps H fr h o b) (wantE n ops.toList o.guard fr)) (nth ops.toList j) := rfl
theorem runD_some {j : Nat} {o : Oper} (ho : ops.toList[j]? = some o) (l : List Nat) (snaps : List (Nat × Hp)) (H : Hp) (fr : Fr) (h : Hp) : runD E call n ops us base (j :: l) snaps H fr h =
    @Option.rec Bool (fun _ => R) .bad (fun b => runD1 E call n us base j (runD E call n ops us base l) snaps H fr h o b) (wantE n ops.toList o.guard fr) := by
  rw [runD_cons, nth_eq, ho]
theorem runD_none {j : Nat} (ho : ops.toList[j]? = none) (l : List Nat) (snaps : List (Nat × Hp)) (H : Hp) (fr : Fr) (h : Hp) : runD E call n ops us base (j :: l) snaps H fr h = .bad := by
  rw [runD_cons, nth_eq, ho]
theorem runD_chain : ∀ (l : List Nat) (snaps : List (Nat × Hp)) (H : Hp) (fr : Fr) (h : Hp), runD E call n ops us base l snaps H fr h ≠ .bad →
    ∃ T fr' h', T.map Tr.j = l ∧ Chain E call n ops us base snaps H fr h T fr' h' ∧ runD E call n ops us base l snaps H fr h = .norm fr' h'
  | [], snaps, H, fr, h, _ => ⟨[], fr, h, rfl, .nil .., rfl⟩
  | j :: l, snaps, H, fr, h, hb => by
    cases ho : ops.toList[j]? with
    | none => exact absurd (runD_none E call n ops us base ho l snaps H fr h) hb
    | some o =>
      rw [runD_some E call n ops us base ho] at hb ⊢
      have ho' : ops[j]? = some o := by simpa using ho
      have hhard : isHard E.P ops j = Nat.beq (cls E.P o.op) 2 := by unfold isHard; rw [nth_eq, ho]
      cases hw : wantE n ops.toList o.guard fr with
      | none => rw [hw] at hb; exact absurd rfl hb
      | some b =>
        rw [hw] at hb
        simp only at hb ⊢
        unfold runD1 at hb ⊢
        have hle := cls_le (P := E.P) o.op
        cases hcl : cls E.P o.op with
        | zero =>
          rw [hcl] at hb hhard
          cases b with
          | false =>
            obtain ⟨T, fr', h', k1, k2, k3⟩ := runD_chain l snaps H (putF n o.dst V.undef fr) h hb
            exact ⟨_, fr', h', by rw [List.map_cons, k1], .skip ho' hhard hw k2, k3⟩
          | true =>
            simp only [br_true] at hb ⊢
            cases hr : readW E n fr H o.op (get3 us j) snaps with
            | none => rw [hr] at hb; exact absurd rfl hb
            | some v =>
              rw [hr] at hb
              obtain ⟨q1, q2⟩ := readW_sound E n hr
              obtain ⟨T, fr', h', k1, k2, k3⟩ := runD_chain l snaps H (putF n o.dst v fr) h hb
              exact ⟨_, fr', h', by rw [List.map_cons, k1], .read ho' hhard hw hcl q1 q2 k2, k3⟩
        | succ m =>
          rw [hcl] at hb hhard hle
          cases m with
          | zero =>
            cases b with
            | false =>
              obtain ⟨T, fr', h', k1, k2, k3⟩ := runD_chain l snaps H (putF n o.dst V.undef fr) h hb
              exact ⟨_, fr', h', by rw [List.map_cons, k1], .skip ho' hhard hw k2, k3⟩
            | true =>
              simp only [br_true, num_eq] at hb ⊢
              cases hr : alOp E.P n fr o.op with
              | none => rw [hr] at hb; exact absurd rfl hb
              | some p =>
                obtain ⟨obj, kf⟩ := p
                rw [hr] at hb
                obtain ⟨T, fr', h', k1, k2, k3⟩ := runD_chain l snaps H (putF n o.dst (kf (base + j)) fr) (h.put (base + j) obj) hb
                exact ⟨_, fr', h', by rw [List.map_cons, k1], .make ho' hhard hw hcl hr k2, k3⟩
          | succ m =>
            have hm : m = 0 := by omega
            subst hm
            cases b with
            | false =>
              obtain ⟨T, fr', h', k1, k2, k3⟩ := runD_chain l ((j, H) :: snaps) h (putF n o.dst V.undef fr) h hb
              exact ⟨_, fr', h', by rw [List.map_cons, k1], .pass ho' hhard hw k2, k3⟩
            | true =>
              simp only [br_true] at hb ⊢
              cases hr : xOp E call n o.op fr h with
              | bad => rw [hr] at hb; exact absurd rfl hb
              | pan _ _ => rw [hr] at hb; exact absurd rfl hb
              | val v h1 =>
                rw [hr] at hb
                obtain ⟨T, fr', h', k1, k2, k3⟩ := runD_chain l ((j, H) :: snaps) h1 (putF n o.dst v fr) h1 hb
                exact ⟨_, fr', h', by rw [List.map_cons, k1], .hard ho' hhard hw hr k2, k3⟩
end
end Go.Eng
