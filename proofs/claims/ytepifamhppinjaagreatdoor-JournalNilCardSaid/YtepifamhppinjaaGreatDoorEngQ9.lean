import Derived.Test.YtepifamhppinjaaGreatDoorEngQ8
/- The engine: one step of a drawn region. -/
namespace Go.Eng

theorem put_size (a : Act) (d : Option Nat) (v : Value) : (a.put d v).tmps.size = a.tmps.size := by cases d <;> simp [Act.put]
theorem put_nd (a : Act) (d : Option Nat) (v : Value) : (a.put d v).defers = a.defers := by cases d <;> rfl
theorem put_getD_ne (a : Act) {d : Option Nat} {s : Nat} (v : Value) (h : d ≠ some s) : (a.put d v).tmps.getD s undef = a.tmps.getD s undef := by
  cases d with
  | none => rfl
  | some d =>
    have hne : d ≠ s := fun e => h (by rw [e])
    simp only [Act.put, Array.getD_eq_getD_getElem?, Array.getElem?_setIfInBounds_ne hne]
theorem put_getD_eq (a : Act) {s : Nat} (v : Value) (h : s < a.tmps.size) : (a.put (some s) v).tmps.getD s undef = v := by
  simp [Act.put, Array.getD_eq_getD_getElem?, h]

section
variable {E : Env} {G : Nat} {call : Call} {n : Sz} {ops : Array Oper} {us ws : T3 Nat} {base : Nat} {ρ0 : Rho} {h0 : Hp} {w0 : World}
variable {D D' : Nat → Prop} {T T1 T2 : List Tr} {t : Tr} {done grp last : Nat} {snaps : List (Nat × Hp)} {H : Hp} {fr frE : Fr} {hE : Hp} {ρ ρ' : Rho} {a : Act} {w w' : World}
theorem Inv.cls' (I : Inv E call n ops us base ρ0 h0 w0 D T done grp last snaps H fr frE hE ρ a w) (hot : ops[t.j]? = some t.o) (hall : ∀ e ∈ t.o.after, Region.binds .any e = true → D e.on) (hD' : ∀ i, D' i ↔ (D i ∨ i = t.j)) : Cls ops D' := by
  intro i o ho hi e he hb
  rcases (hD' i).1 hi with h | h
  · exact (hD' _).2 (.inl (I.cls i o ho h e he hb))
  · subst h; rw [hot] at ho; cases ho; exact (hD' _).2 (.inl (hall e he hb))
theorem Inv.soft (F : Fixed E G call n ops us ws base) (I : Inv E call n ops us base ρ0 h0 w0 D T done grp last snaps H fr frE hE ρ a w) (ht : t ∈ T) (hsf : isHard E.P ops t.j = false)
    (hall : ∀ e ∈ t.o.after, Region.binds .any e = true → D e.on) (hD' : ∀ i, D' i ↔ (D i ∨ i = t.j)) {v' : Value} (x' : Ext ρ0 h0 w0 ρ' H w') (hle : ρ.le ρ') (fresh' : Fresh ρ' H) (hv : VR ρ' t.v v')
    (pendT : ∀ obj, t.ob = some obj → PendOk ρ' H w' w0 (base + t.j) obj) (pendO : ∀ y ∈ T, D y.j → ∀ obj, y.ob = some obj → PendOk ρ' H w' w0 (base + y.j) obj)
    (idleO : ∀ y ∈ T, ¬ D y.j → y.j ≠ t.j → ∀ obj, y.ob = some obj → ρ' (base + y.j) = none ∧ H.at (base + y.j) = .none) :
    Inv E call n ops us base ρ0 h0 w0 D' T done grp last snaps H fr frE hE ρ' (a.put t.o.dst v') w' := by
  have hops := chain_ops I.chain
  have hot := hops t ht
  refine ⟨x', I.h0n, fresh', I.nx, I.chain, I.keeps, fun s hs => (hD' s).2 (.inl (I.sub s hs)), I.cls' hot hall hD', fun y hy hh hDy => ?_, by rw [put_size]; exact I.size, I.small, by rw [put_nd]; exact I.nd,
    fun g hg => (I.glob g hg).imp fun _ => hle _ _, fun s hs hno => ?_, fun y hy hDy s hs hd => ?_, fun y hy hDy obj ho => ?_, fun y hy hDy obj ho => ?_⟩
  · rcases (hD' _).1 hDy with h | h
    · exact I.nh y hy hh h
    · rw [h, hsf] at hh; cases hh
  · have hne := hno t ht ((hD' _).2 (.inr rfl))
    rw [put_getD_ne _ _ hne]
    exact VR.mono hle _ _ (I.tmp0 s hs fun y hy hDy => hno y hy ((hD' _).2 (.inl hDy)))
  · by_cases e : y.j = t.j
    · have := uniqJ I.keeps ht hy e
      subst this
      rw [hd, put_getD_eq _ _ (by rw [I.size]; exact hs)]; exact hv
    · have hDy0 : D y.j := ((hD' _).1 hDy).resolve_right e
      have hne : t.o.dst ≠ some s := fun h => e (F.wr.one (hops y hy) hot hd h)
      rw [put_getD_ne _ _ hne]
      exact VR.mono hle _ _ (I.tmp1 y hy hDy0 s hs hd)
  · by_cases e : y.j = t.j
    · have := uniqJ I.keeps ht hy e
      subst this
      exact pendT obj ho
    · exact pendO y hy (((hD' _).1 hDy).resolve_right e) obj ho
  · exact idleO y hy (fun h => hDy ((hD' _).2 (.inl h))) (fun h => hDy ((hD' _).2 (.inr h))) obj ho
theorem Inv.hard (F : Fixed E G call n ops us ws base) (I : Inv E call n ops us base ρ0 h0 w0 D (T1 ++ t :: T2) done grp last snaps H fr frE hE ρ a w) (hD : ¬ D t.j)
    (hall : ∀ e ∈ t.o.after, Region.binds .any e = true → D e.on) (hD' : ∀ i, D' i ↔ (D i ∨ i = t.j)) (_hs1 : ∀ x ∈ T1, isHard E.P ops x.j = false) (hD1 : ∀ x ∈ T1, D x.j) {fr1 : Fr} {h1 h2 : Hp} {snaps2 : List (Nat × Hp)} {v : V} {v' : Value}
    (k1 : Chain E call n ops us base snaps H fr H T1 fr1 h1) (x1 : Ext ρ0 h0 w0 ρ h1 w) (hnx : h1.next = H.next) (hat : ∀ id, id < 262144 → (∀ x ∈ T1, id ≠ base + x.j) → h1.at id = H.at id)
    (x2 : Ext ρ h1 w ρ' h2 w') (fresh' : Fresh ρ' h2) (hv : VR ρ' v v') (k2 : Chain E call n ops us base snaps2 h2 (putF n t.o.dst v fr1) h2 T2 frE hE) :
    ∃ done' grp' last', Inv E call n ops us base ρ0 h0 w0 D' T2 done' grp' last' snaps2 h2 (putF n t.o.dst v fr1) frE hE ρ' (a.put t.o.dst v') w' := by
  have hops := chain_ops I.chain
  have hot := hops t (by simp)
  have hk : keepsGo E.P ops us ((T1.map Tr.j ++ [t.j]) ++ T2.map Tr.j) done grp last = true := by simpa using I.keeps
  have hk' : keepsGo E.P ops us (T1.map Tr.j ++ t.j :: T2.map Tr.j) done grp last = true := by simpa using I.keeps
  obtain ⟨done', grp', last', q1, q2⟩ := keeps_drop hk
  have hT2 : ∀ y ∈ T2, y ∈ T1 ++ t :: T2 := fun y hy => List.mem_append_right _ (List.mem_cons_of_mem _ hy)
  have hne2 : ∀ y ∈ T2, y.j ≠ t.j := fun y hy e => keeps_behind hk' (List.mem_map.2 ⟨y, hy, e⟩)
  have hlt : ∀ y ∈ T2, y.j < ops.size := fun y hy => keeps_lt I.keeps _ (List.mem_map.2 ⟨y, hT2 y hy, rfl⟩)
  have htop := F.top
  have hn12 : ∀ y ∈ T2, ∀ x ∈ T1, base + y.j ≠ base + x.j := fun y hy x hx e => by
    have e : y.j = x.j := by omega
    have := uniqJ I.keeps (List.mem_append_left _ hx) (hT2 y hy) e
    subst this
    obtain ⟨Ta, Tb, rfl⟩ := List.append_of_mem hy
    have k3 : keepsGo E.P ops us ((T1.map Tr.j ++ t.j :: Ta.map Tr.j) ++ y.j :: Tb.map Tr.j) done grp last = true := by simpa using I.keeps
    exact (keeps_at k3).2.2.1 (List.mem_append_left _ (List.mem_map.2 ⟨y, hx, rfl⟩))
  have hat2 : ∀ y ∈ T2, h1.at (base + y.j) = H.at (base + y.j) := fun y hy => hat _ (by have := hlt y hy; omega) (hn12 y hy)
  refine ⟨done', grp', last', x1.trans x2, I.h0n, fresh', by have := I.nx; have := x2.nx; omega, k2, q1, fun s hs => ?_, I.cls' hot hall hD', fun y hy hh hDy => ?_, by rw [put_size]; exact I.size, I.small, by rw [put_nd]; exact I.nd,
    fun g hg => (I.glob g hg).imp fun _ => x2.le _ _, fun s hs hno => ?_, fun y hy hDy s hs hd => ?_, fun y hy hDy obj ho => ?_, fun y hy hDy obj ho => ?_⟩
  · rcases (q2 s).1 hs with h | h
    · exact (hD' s).2 (.inl (I.sub s h))
    · rcases List.mem_append.1 h with h | h
      · obtain ⟨x, hx, rfl⟩ := List.mem_map.1 h
        exact (hD' _).2 (.inl (hD1 x hx))
      · exact (hD' s).2 (.inr (by simpa using h))
  · rcases (hD' _).1 hDy with h | h
    · exact I.nh y (hT2 y hy) hh h
    · exact hne2 y hy h
  · by_cases hd : t.o.dst = some s
    · rw [hd, putF_eq hs I.small, put_getD_eq _ _ (by rw [I.size]; exact hs)]; exact hv
    · rw [putF_ne (Nat.lt_of_lt_of_le hs I.small) I.small hd, put_getD_ne _ _ hd]
      refine VR.mono x2.le _ _ (frame_all (_k0 := I.keeps) F (T1 := T1) (T2 := t :: T2) rfl I hD1 k1 hs fun y hy hDy => ?_)
      rcases List.mem_cons.1 hy with h | h
      · subst h; exact absurd hDy hD
      · exact hno y h ((hD' _).2 (.inl hDy))
  · have hDy0 : D y.j := ((hD' _).1 hDy).resolve_right (hne2 y hy)
    have hne : t.o.dst ≠ some s := fun h => hne2 y hy (F.wr.one (hops y (hT2 y hy)) hot hd h)
    rw [put_getD_ne _ _ hne]
    exact VR.mono x2.le _ _ (I.tmp1 y (hT2 y hy) hDy0 s hs hd)
  · have hDy0 : D y.j := ((hD' _).1 hDy).resolve_right (hne2 y hy)
    obtain ⟨b, z, r1, r2, r3, r4, r5, r6⟩ := I.pend y (hT2 y hy) hDy0 obj ho
    have p1 : PendOk ρ h1 w w0 (base + y.j) obj := ⟨b, z, r1, r2, r3, r4, by rw [hat2 y hy]; exact r5, r6⟩
    exact p1.step x2
  · obtain ⟨r1, r2⟩ := I.idle y (hT2 y hy) (fun h => hDy ((hD' _).2 (.inl h))) obj ho
    have hid : base + y.j < 262144 := by have := hlt y hy; omega
    have hidn : base + y.j < h1.next := by have := hlt y hy; have := I.nx; omega
    refine ⟨?_, by rw [x2.idle _ hid hidn r1, hat2 y hy]; exact r2⟩
    cases h3 : ρ' (base + y.j) with
    | none => rfl
    | some p => obtain ⟨b, z⟩ := p; exact absurd (x2.new _ b z r1 h3).1 (by omega)
end
end Go.Eng
