import Derived.Test.YtepifamhppinjaaGreatDoorEngQ7
/- The engine: the turns of a drawn region's objects; its end. -/
namespace Go.Eng

section
variable {E : Env} {G : Nat} {call : Call} {n : Sz} {ops : Array Oper} {us ws : T3 Nat} {base : Nat} {ρ0 : Rho} {h0 : Hp} {w0 : World}
/-- soft steps that are made ahead take their turns -/
theorem adopt_all {ρ : Rho} {w : World} (hb : h0.next ≤ base) (htop : base + ops.size ≤ 262144) : ∀ {T1 : List Tr} {snaps : List (Nat × Hp)} {H h h1 : Hp} {fr fr1 : Fr}, Chain E call n ops us base snaps H fr h T1 fr1 h1 → (∀ t ∈ T1, isHard E.P ops t.j = false) → (T1.map Tr.j).Nodup → (∀ t ∈ T1, t.j < ops.size) →
    Ext ρ0 h0 w0 ρ h w → (∀ t ∈ T1, ∀ obj, t.ob = some obj → PendOk ρ h w w0 (base + t.j) obj) →
    Ext ρ0 h0 w0 ρ h1 w ∧ h1.next = h.next ∧ (∀ id, id < 262144 → (∀ t ∈ T1, id ≠ base + t.j) → h1.at id = h.at id)
  | [], snaps, H, h, h1, fr, fr1, k, _, _, _, x, _ => by cases k; exact ⟨x, rfl, fun _ _ _ => rfl⟩
  | t :: T1, snaps, H, h, h1, fr, fr1, k, hs, hnd, hlt, x, hp => by
    have hs' : ∀ y ∈ T1, isHard E.P ops y.j = false := fun y hy => hs y (List.mem_cons_of_mem _ hy)
    have hlt' : ∀ y ∈ T1, y.j < ops.size := fun y hy => hlt y (List.mem_cons_of_mem _ hy)
    have hnd' : (T1.map Tr.j).Nodup := (List.nodup_cons.1 (by simpa using hnd)).2
    have hnt : ∀ y ∈ T1, y.j ≠ t.j := fun y hy e => (List.nodup_cons.1 (show (t.j :: T1.map Tr.j).Nodup by simpa using hnd)).1 (List.mem_map.2 ⟨y, hy, e⟩)
    have plain : ∀ {snaps' : List (Nat × Hp)} {H' : Hp} {fr' : Fr}, Chain E call n ops us base snaps' H' fr' h T1 fr1 h1 → Ext ρ0 h0 w0 ρ h1 w ∧ h1.next = h.next ∧ (∀ id, id < 262144 → (∀ y ∈ t :: T1, id ≠ base + y.j) → h1.at id = h.at id) := fun k => by
      obtain ⟨q1, q2, q3⟩ := adopt_all hb htop k hs' hnd' hlt' x (fun y hy => hp y (List.mem_cons_of_mem _ hy))
      exact ⟨q1, q2, fun id hid hne => q3 id hid fun y hy => hne y (List.mem_cons_of_mem _ hy)⟩
    have htl := hlt t (List.mem_cons_self ..)
    cases k with
    | skip ho hsf hw k => exact plain k
    | pass ho hsf hw k => have := hs _ (List.mem_cons_self ..); rw [hsf] at this; cases this
    | read ho hsf hw hc hv hsn k => exact plain k
    | hard ho hsf hw hv k => have := hs _ (List.mem_cons_self ..); rw [hsf] at this; cases this
    | @make _ _ _ _ _ _ j o obj kf _ ho hsf hw hc hv k =>
      have hj : j < ops.size := htl
      have hpt := hp _ (List.mem_cons_self ..) obj rfl
      have x' := x.adopt (show base + j < 262144 by omega) (show h0.next ≤ base + j by omega) hpt
      obtain ⟨q1, q2, q3⟩ := adopt_all hb htop k hs' hnd' hlt' x' (fun y hy obj' ho' => by
        have h1 := hp y (List.mem_cons_of_mem _ hy) obj' ho'
        have h2 := hnt y hy
        have h3 := hlt' y hy
        exact h1.put (by omega) (by omega) (fun e => h2 (show y.j = j by omega)))
      refine ⟨q1, q2, fun id hid hne => ?_⟩
      rw [q3 id hid fun y hy => hne y (List.mem_cons_of_mem _ hy), Hp.at_put _ _ _ _ hid (by omega), if_neg (hne _ (List.mem_cons_self ..))]
theorem keeps_nodup {P : Program} : ∀ {l : List Nat} {done grp last : Nat}, keepsGo P ops us l done grp last = true → l.Nodup
  | [], _, _, _, _ => List.nodup_nil
  | i :: l, done, grp, last, h => by
    have hb := keeps_behind (l1 := []) (by simpa using h)
    obtain ⟨_, _, _, k⟩ := keeps_step h
    refine List.nodup_cons.2 ⟨hb, ?_⟩
    rcases k with ⟨_, _, _, k⟩ | ⟨_, k⟩ <;> exact keeps_nodup k
theorem keeps_lt {P : Program} : ∀ {l : List Nat} {done grp last : Nat}, keepsGo P ops us l done grp last = true → ∀ i ∈ l, i < ops.size := by
  intro l done grp last h i hi
  obtain ⟨a, b, rfl⟩ := List.append_of_mem hi
  exact (keeps_at h).1

variable {D : Nat → Prop} {T : List Tr} {done grp last : Nat} {snaps : List (Nat × Hp)} {H : Hp} {fr frE : Fr} {hE : Hp} {ρ : Rho} {a : Act} {w : World}
/-- the frame behind steps that all are made -/
theorem frame_all {_k0 : keepsGo E.P ops us (T.map Tr.j) done grp last = true} (F : Fixed E G call n ops us ws base) {T1 T2 : List Tr} (hT : T = T1 ++ T2) (I : Inv E call n ops us base ρ0 h0 w0 D T done grp last snaps H fr frE hE ρ a w) (hD : ∀ t ∈ T1, D t.j)
    {fr1 : Fr} {h1 : Hp} (k1 : Chain E call n ops us base snaps H fr H T1 fr1 h1) {s : Nat} (hs : s < n.n) (hno : ∀ t ∈ T2, D t.j → t.o.dst ≠ some s) : VR ρ (get3 fr1 s) (a.tmps.getD s undef) := by
  have hops := chain_ops I.chain
  by_cases hex : ∃ x ∈ T1, x.o.dst = some s
  · obtain ⟨x, hx, hd⟩ := hex
    have hxT : x ∈ T := by rw [hT]; exact List.mem_append_left _ hx
    have hv : get3 fr1 s = x.v := chain_put I.small hs k1 (fun y hy hdy => by
      have hyT : y ∈ T := by rw [hT]; exact List.mem_append_left _ hy
      have := F.wr.one (hops y hyT) (hops x hxT) hdy hd
      rw [uniqJ I.keeps hxT hyT this]) (.inl ⟨x, hx, hd⟩)
    rw [hv]; exact I.tmp1 x hxT (hD x hx) s hs hd
  · have hno1 : ∀ x ∈ T1, x.o.dst ≠ some s := fun x hx hd => hex ⟨x, hx, hd⟩
    rw [chain_keep I.small (s := s) (Nat.lt_of_lt_of_le hs I.small) k1 hno1]
    refine I.tmp0 s hs fun t ht hDt => ?_
    rw [hT] at ht
    rcases List.mem_append.1 ht with h | h
    · exact hno1 t h
    · exact hno t h hDt
/-- all is listed: the region is at its end -/
theorem Inv.fin (F : Fixed E G call n ops us ws base) (I : Inv E call n ops us base ρ0 h0 w0 D T done grp last snaps H fr frE hE ρ a w) (hall : ∀ i, i < ops.size → D i) : Ends n ρ0 h0 w0 (.norm frE hE) .normal a w := by
  have hlt := keeps_lt I.keeps
  have hD : ∀ t ∈ T, D t.j := fun t ht => hall _ (hlt _ (List.mem_map.2 ⟨t, ht, rfl⟩))
  have hs : ∀ t ∈ T, isHard E.P ops t.j = false := fun t ht => by
    cases hh : isHard E.P ops t.j with
    | false => rfl
    | true => exact absurd (hD t ht) (I.nh t ht hh)
  have htop := F.top
  obtain ⟨q1, q2, _⟩ := adopt_all I.h0n (by omega) I.chain hs (keeps_nodup I.keeps) (fun t ht => hlt _ (List.mem_map.2 ⟨t, ht, rfl⟩)) I.x (fun t ht => I.pend t ht (hD t ht))
  refine ⟨ρ, q1, I.fresh.of_next q2, I.size, I.small, I.nd, fun s hs => ?_, I.glob⟩
  exact frame_all (_k0 := I.keeps) F (T1 := T) (T2 := []) (by simp) I hD I.chain hs (fun t ht => by cases ht)
end
end Go.Eng
