import Derived.Test.YtepifamhppinjaaGreatDoorEngQ9
/- The engine: a drawn region, whole. -/
namespace Go.Eng

theorem all_of_ready_nil {ops : Array Oper} {us : T3 Nat} (hu : UpOk ops us ops.size) {listed : Array Bool} (hsz : listed.size = ops.size) (h : Region.ready .any ops listed = []) : ∀ i, i < ops.size → listed.getD i false = true := by
  intro i
  induction i using Nat.strongRecOn with
  | _ i ih =>
    intro hi
    cases hb : listed.getD i false with
    | true => rfl
    | false =>
      exfalso
      have hl : i < listed.size := by omega
      have hu0 : listed.getD i true = false := by simp [hl] at hb ⊢; exact hb
      have : i ∈ Region.ready .any ops listed := mem_ready.2 ⟨hu0, ops[i], by simp [hi], fun e he hb => by
        have := hu.back i hi ops[i] (by simp [hi]) e he hb
        exact ih e.on this (by omega)⟩
      rw [h] at this; cases this
theorem last_of {p : Nat → Bool} : ∀ {l : List Tr}, (∃ x ∈ l, p x.j = true) → ∃ la x lb, l = la ++ x :: lb ∧ p x.j = true ∧ ∀ y ∈ lb, p y.j = false
  | [], h => by obtain ⟨_, h, _⟩ := h; cases h
  | y :: l, h => by
    by_cases hl : ∃ x ∈ l, p x.j = true
    · obtain ⟨la, x, lb, rfl, h1, h2⟩ := last_of hl
      exact ⟨y :: la, x, lb, rfl, h1, h2⟩
    · obtain ⟨x, hx, hp⟩ := h
      rcases List.mem_cons.1 hx with rfl | hx
      · refine ⟨[], x, l, rfl, hp, fun z hz => ?_⟩
        cases hh : p z.j with
        | false => rfl
        | true => exact absurd ⟨z, hz, hh⟩ hl
      · exact absurd ⟨x, hx, hp⟩ hl

section
variable {E : Env} {G : Nat} {call : Call} {n : Sz} {ops : Array Oper} {us ws : T3 Nat} {base : Nat} {ρ0 : Rho} {h0 : Hp} {w0 : World} {frE : Fr} {hE : Hp}
theorem region_main (F : Fixed E G call n ops us ws base) : ∀ (fuel : Nat) (listed : Array Bool) (l : List Nat) (T : List Tr) (done grp last : Nat) (snaps : List (Nat × Hp)) (H : Hp) (fr : Fr) (ρ : Rho) (a : Act) (w : World),
    l.length = fuel → listed.size = ops.size → l.Nodup → (∀ i, i ∈ l ↔ i < ops.size ∧ listed.getD i true = false) →
    Inv E call n ops us base ρ0 h0 w0 (fun i => listed.getD i false = true) T done grp last snaps H fr frE hE ρ a w → wpAny E.P .any ops (Ends n ρ0 h0 w0 (.norm frE hE)) fuel listed a w
  | 0, listed, l, T, done, grp, last, snaps, H, fr, ρ, a, w, hlen, hsz, hnd, hm, I => by
    have : l = [] := List.length_eq_zero_iff.1 hlen
    subst this
    have hr : Region.ready .any ops listed = [] := List.eq_nil_iff_forall_not_mem.2 fun i hi => by
      obtain ⟨h0, o, hoi, _⟩ := mem_ready.1 hi
      have := (hm i).2 ⟨(Array.getElem?_eq_some_iff.1 hoi).1, h0⟩
      cases this
    exact ⟨hr, I.fin F (all_of_ready_nil F.up hsz hr)⟩
  | fuel + 1, listed, l, T, done, grp, last, snaps, H, fr, ρ, a, w, hlen, hsz, hnd, hm, I => by
    refine ⟨fun hr => I.fin F (all_of_ready_nil F.up hsz hr), fun j hj => ?_⟩
    obtain ⟨hun, oj, hoj, hall⟩ := mem_ready.1 hj
    have hjs := (Array.getElem?_eq_some_iff.1 hoj).1
    have hjl : j < listed.size := by omega
    have hDj : ¬ listed.getD j false = true := by simp [hjl] at hun ⊢; exact hun
    have hup := F.up.up j hjs oj hoj _ I.cls hall
    obtain ⟨l1, l2, rfl⟩ := List.append_of_mem ((hm j).2 ⟨hjs, hun⟩)
    have hset : ∀ i, (listed.setIfInBounds j true).getD i false = true ↔ (listed.getD i false = true ∨ i = j) := fun i => by
      by_cases e : j = i
      · subst e; simp [hjl]
      · rw [getD_set_ne false e]; exact ⟨.inl, fun h => h.resolve_right fun h => e h.symm⟩
    have hset1 : ∀ i, (listed.setIfInBounds j true).getD i true = false ↔ (listed.getD i true = false ∧ i ≠ j) := fun i => by
      by_cases e : j = i
      · subst e; simp [hjl]
      · rw [getD_set_ne true e]; exact ⟨fun h => ⟨h, fun h => e h.symm⟩, fun h => h.1⟩
    have hnd' : (l1 ++ l2).Nodup ∧ j ∉ l1 ++ l2 := by
      have h1 := (List.perm_middle (a := j) (l₁ := l1) (l₂ := l2)).nodup_iff.1 hnd
      exact ⟨(List.nodup_cons.1 h1).2, (List.nodup_cons.1 h1).1⟩
    have hm' : ∀ i, i ∈ l1 ++ l2 ↔ i < ops.size ∧ (listed.setIfInBounds j true).getD i true = false := fun i => by
      rw [hset1]
      have h1 := hm i
      constructor
      · intro h
        have hne : i ≠ j := fun e => hnd'.2 (e ▸ h)
        have h2 := h1.1 (by rcases List.mem_append.1 h with h | h; exact List.mem_append_left _ h; exact List.mem_append_right _ (List.mem_cons_of_mem _ h))
        exact ⟨h2.1, h2.2, hne⟩
      · rintro ⟨h2, h3, h4⟩
        rcases List.mem_append.1 (h1.2 ⟨h2, h3⟩) with h | h
        · exact List.mem_append_left _ h
        · exact List.mem_append_right _ ((List.mem_cons.1 h).resolve_left h4)
    have hlen' : (l1 ++ l2).length = fuel := by simp at hlen ⊢; omega
    have next : ∀ {T' done' grp' last' snaps' H' fr' ρ' a' w'}, Inv E call n ops us base ρ0 h0 w0 (fun i => (listed.setIfInBounds j true).getD i false = true) T' done' grp' last' snaps' H' fr' frE hE ρ' a' w' →
        wpAny E.P .any ops (Ends n ρ0 h0 w0 (.norm frE hE)) fuel (listed.setIfInBounds j true) a' w' := fun I' =>
      region_main F fuel _ (l1 ++ l2) _ _ _ _ _ _ _ _ _ _ hlen' (by simp [hsz]) hnd'.1 hm' I'
    have hjT : j ∈ T.map Tr.j := (keeps_all I.keeps j hjs).resolve_left fun h => hDj (I.sub j h)
    obtain ⟨t, htT, htj⟩ := List.mem_map.1 hjT
    obtain ⟨T1, T2, rfl⟩ := List.append_of_mem htT
    subst htj
    have hto : oj = t.o := by have := chain_ops I.chain t htT; rw [hoj] at this; cases this; rfl
    subst hto
    obtain ⟨fr', hf', hag⟩ := I.seen F hDj hup
    have hag' : ∀ x ∈ t.o.op.operands, ev n t.fr x = ev n fr' x := fun x hx => hag x fun s e => looks_operand hx e
    have hwag : wantE n ops.toList t.o.guard t.fr = wantE n ops.toList t.o.guard fr' := want_agree hag
    have hsub : ∀ x ∈ T1, isHard E.P ops x.j = true → bit (get3 us t.j) x.j = false := fun x hx hh => by
      cases hb : bit (get3 us t.j) x.j with
      | false => rfl
      | true => exact absurd (hup _ hb) (I.nh x (List.mem_append_left _ hx) hh)
    have htop := F.top
    have h0n := I.h0n
    unfold wpOp
    simp only [hoj]
    cases hsf : isHard E.P ops t.j with
    | false =>
      have same : ∀ {v' : Value}, VR ρ t.v v' → t.ob = none → Inv E call n ops us base ρ0 h0 w0 (fun i => (listed.setIfInBounds t.j true).getD i false = true) (T1 ++ t :: T2) done grp last snaps H fr frE hE ρ (a.put t.o.dst v') w := fun hv hob =>
        I.soft F htT hsf hall hset I.x (Rho.le_refl _) I.fresh hv (fun obj ho => by rw [hob] at ho; cases ho) (fun y hy hDy obj ho => I.pend y hy hDy obj ho) (fun y hy hDy _ obj ho => I.idle y hy hDy obj ho)
      rcases chain_soft hsf I.chain hsub with ⟨hw, hv, hob⟩ | ⟨hw, hc, hob, hrd⟩ | ⟨hw, hc, obj, kf, hal, hob, hv⟩
      · rw [hwag] at hw
        rw [wantE_sound hf' hw]
        simp only [Bool.false_eq_true, if_false]
        exact next (same (by rw [hv]; exact undef_VR ρ) hob)
      · rw [hwag] at hw
        rw [wantE_sound hf' hw]
        simp only [if_true]
        rw [rdOp_agree hag'] at hrd
        obtain ⟨v', k1, k2⟩ := rdOp_sound I.x.sim hf' t.o hrd
        refine .inl ?_
        rw [Oper.wp, k1]
        exact next (same k2 hob)
      · rw [hwag] at hw
        rw [wantE_sound hf' hw]
        simp only [if_true]
        rw [alOp_agree hag'] at hal
        obtain ⟨v', c, z, d, k1, k2⟩ := alOp_sound hf' t.o hal w
        obtain ⟨r1, r2⟩ := I.idle t htT hDj obj hob
        obtain ⟨q1, q2⟩ := k2 (base + t.j) r1
        refine .inl ?_
        rw [Oper.wp, k1]
        refine next (I.soft F htT hsf hall hset (I.x.reserve (by omega) (by omega) r1 r2 c z d) (Rho.le_set r1 _) ?_ (by rw [hv]; exact q2) ?_ ?_ ?_)
        · intro id hid
          have := I.nx
          rw [Rho.set_ne _ (by omega)]; exact I.fresh id hid
        · intro obj' ho'
          rw [hob] at ho'; cases ho'
          exact PendOk.fresh I.x.sim I.x.size r2 d q1
        · exact fun y hy hDy obj' ho' => (I.pend y hy hDy obj' ho').other r1 c z d
        · intro y hy hDy hne obj' ho'
          obtain ⟨s1, s2⟩ := I.idle y hy hDy obj' ho'
          exact ⟨by rw [Rho.set_ne _ (by omega)]; exact s1, s2⟩
    | true =>
      have hk : keepsGo E.P ops us (T1.map Tr.j ++ t.j :: T2.map Tr.j) done grp last = true := by simpa using I.keeps
      have hs1 : ∀ x ∈ T1, isHard E.P ops x.j = false := fun x hx => by
        cases hh : isHard E.P ops x.j with
        | false => rfl
        | true =>
          exfalso
          obtain ⟨Ta, y, Tb, rfl, hy, hTb⟩ := last_of (p := isHard E.P ops) ⟨x, hx, hh⟩
          have hk2 : keepsGo E.P ops us (Ta.map Tr.j ++ y.j :: (Tb.map Tr.j ++ t.j :: T2.map Tr.j)) done grp last = true := by simpa using I.keeps
          have hb := keeps_next hk2 hy hsf (fun s hs => by obtain ⟨z, hz, rfl⟩ := List.mem_map.1 hs; exact hTb z hz)
          exact I.nh y (by simp) hy (hup _ hb)
      have hD1 : ∀ x ∈ T1, listed.getD x.j false = true := fun x hx =>
        hup _ ((keeps_hard hk hsf (fun s hs => by obtain ⟨z, hz, rfl⟩ := List.mem_map.1 hs; exact hs1 z hz)).1 _ (.inl (List.mem_map.2 ⟨x, hx, rfl⟩)))
      obtain ⟨snaps1, H1, fr1, h1, k1, k2, k3⟩ := chain_split I.chain
      obtain ⟨rfl, rfl⟩ := k3 hs1
      have hsubT : ∀ x ∈ T1, x ∈ T1 ++ t :: T2 := fun x hx => List.mem_append_left _ hx
      have hnd1 : (T1.map Tr.j).Nodup := by
        have := keeps_nodup hk
        exact (List.nodup_append.1 this).1
      obtain ⟨x1, hnx, hat⟩ := adopt_all h0n (by omega) k1 hs1 hnd1 (fun x hx => keeps_lt I.keeps _ (List.mem_map.2 ⟨x, hsubT x hx, rfl⟩)) I.x (fun x hx => I.pend x (hsubT x hx) (hD1 x hx))
      have hfr1 : t.fr = fr1 := chain_head k2
      have fresh1 : Fresh ρ h1 := I.fresh.of_next hnx
      cases k2 with
      | skip ho hh hw k => rw [hsf] at hh; cases hh
      | read ho hh hw hc hv hsn k => rw [hsf] at hh; cases hh
      | make ho hh hw hc hv k => rw [hsf] at hh; cases hh
      | pass ho hh hw k =>
        rw [hwag] at hw
        rw [wantE_sound hf' hw]
        simp only [Bool.false_eq_true, if_false]
        obtain ⟨_, _, _, I'⟩ := I.hard F hDj hall hset hs1 hD1 k1 x1 hnx hat (Ext.refl x1.sim) fresh1 (undef_VR ρ) k
        exact next I'
      | @hard _ _ _ h2 _ _ _ _ _ v _ ho hh hw hv k =>
        rw [hwag] at hw
        rw [wantE_sound hf' hw]
        simp only [if_true]
        rw [xOp_agree hag'] at hv
        refine .inl (xOp_sound F.hcall F.hG x1.sim fresh1 hf' _ hv (by simp) _ _ (fun v2 h3 ρ' v' w' e x2 fresh' hvr => ?_) (fun v2 h3 ρ' v' w' e _ _ _ => by cases e))
        cases e
        obtain ⟨_, _, _, I'⟩ := I.hard F hDj hall hset hs1 hD1 k1 x1 hnx hat x2 fresh' hvr k
        exact next I'
end
end Go.Eng
