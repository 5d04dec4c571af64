import Derived.Test.YtepifamhppinjaaGreatDoorEngQ6
/- The engine: the invariant of a drawn region, and what a step that is ready sees. -/
namespace Go.Eng

theorem uniqJ {P : Program} {ops : Array Oper} {us : T3 Nat} {T : List Tr} {done grp last : Nat} (k : keepsGo P ops us (T.map Tr.j) done grp last = true) {x y : Tr} (hx : x ∈ T) (hy : y ∈ T) (e : y.j = x.j) : y = x := by
  obtain ⟨Ta, Tb, rfl⟩ := List.append_of_mem hx
  have k : keepsGo P ops us (Ta.map Tr.j ++ x.j :: Tb.map Tr.j) done grp last = true := by simpa using k
  rcases List.mem_append.1 hy with h | h
  · exact absurd (List.mem_map.2 ⟨y, h, e⟩) (keeps_at k).2.2.1
  · rcases List.mem_cons.1 h with h | h
    · exact h
    · exact absurd (List.mem_map.2 ⟨y, h, e⟩) (keeps_behind k)

structure Fixed (E : Env) (G : Nat) (call : Call) (n : Sz) (ops : Array Oper) (us ws : T3 Nat) (base : Nat) : Prop where
  hcall : CallOk E.P G call
  hG : n.g = G
  up : UpOk ops us ops.size
  wr : WrOk ops ws ops.size
  look : ∀ i o, ops[i]? = some o → (∀ cs b, o.op ≠ .select cs b) ∧ lookOk us ws i (o.looksAt ops) = true
  top : base + ops.size < 262144

structure Inv (E : Env) (call : Call) (n : Sz) (ops : Array Oper) (us : T3 Nat) (base : Nat) (ρ0 : Rho) (h0 : Hp) (w0 : World) (D : Nat → Prop) (T : List Tr) (done grp last : Nat) (snaps : List (Nat × Hp)) (H : Hp) (fr frE : Fr) (hE : Hp) (ρ : Rho) (a : Act) (w : World) : Prop where
  x : Ext ρ0 h0 w0 ρ H w
  h0n : h0.next ≤ base
  fresh : Fresh ρ H
  nx : base + ops.size ≤ H.next
  chain : Chain E call n ops us base snaps H fr H T frE hE
  keeps : keepsGo E.P ops us (T.map Tr.j) done grp last = true
  sub : ∀ s, bit done s = true → D s
  cls : Cls ops D
  nh : ∀ t ∈ T, isHard E.P ops t.j = true → ¬ D t.j
  size : a.tmps.size = n.n
  small : n.n ≤ 512
  nd : a.defers = []
  glob : ∀ g, g < n.g → ∃ z, ρ g = some (g, z)
  tmp0 : ∀ s, s < n.n → (∀ t ∈ T, D t.j → t.o.dst ≠ some s) → VR ρ (get3 fr s) (a.tmps.getD s undef)
  tmp1 : ∀ t ∈ T, D t.j → ∀ s, s < n.n → t.o.dst = some s → VR ρ t.v (a.tmps.getD s undef)
  pend : ∀ t ∈ T, D t.j → ∀ obj, t.ob = some obj → PendOk ρ H w w0 (base + t.j) obj
  idle : ∀ t ∈ T, ¬ D t.j → ∀ obj, t.ob = some obj → ρ (base + t.j) = none ∧ H.at (base + t.j) = .none

section
variable {E : Env} {G : Nat} {call : Call} {n : Sz} {ops : Array Oper} {us ws : T3 Nat} {base : Nat} {ρ0 : Rho} {h0 : Hp} {w0 : World} {D : Nat → Prop} {T : List Tr} {done grp last : Nat} {snaps : List (Nat × Hp)} {H : Hp} {fr frE : Fr} {hE : Hp} {ρ : Rho} {a : Act} {w : World}
theorem Inv.look_val (F : Fixed E G call n ops us ws base) {T1 T2 : List Tr} {t : Tr} (I : Inv E call n ops us base ρ0 h0 w0 D (T1 ++ t :: T2) done grp last snaps H fr frE hE ρ a w) (hD : ¬ D t.j) (hup : ∀ s, bit (get3 us t.j) s = true → D s) :
    ∀ s ∈ t.o.looksAt ops, s < n.n → VR ρ (get3 t.fr s) (a.tmps.getD s undef) := by
  intro s hs hsn
  have k := I.keeps
  have k' : keepsGo E.P ops us (T1.map Tr.j ++ t.j :: T2.map Tr.j) done grp last = true := by simpa using k
  obtain ⟨hsz, _, hn1, hbefore⟩ := keeps_at k'
  have hops := chain_ops I.chain
  have hot := hops t (by simp)
  obtain ⟨snaps1, H1, fr1, h1, k1, k2, _⟩ := chain_split I.chain
  rw [chain_head k2]
  have hw : ∀ x ∈ T1 ++ t :: T2, x.o.dst = some s → x.j = t.j ∨ bit (get3 us t.j) x.j = true ∨ bit (get3 us x.j) t.j = true := fun x hx hd =>
    lookOk_sound F.wr (F.look t.j t.o hot).2 s hs x.j x.o (hops x hx) hd
  by_cases hex : ∃ x ∈ T1, x.o.dst = some s
  · obtain ⟨x, hx, hd⟩ := hex
    have hxT : x ∈ T1 ++ t :: T2 := List.mem_append_left _ hx
    have hDx : D x.j := by
      rcases hw x hxT hd with h | h | h
      · exact absurd (List.mem_map.2 ⟨x, hx, h⟩) hn1
      · exact hup _ h
      · exfalso
        obtain ⟨Ta, Tb, rfl⟩ := List.append_of_mem hx
        have k3 : keepsGo E.P ops us (Ta.map Tr.j ++ x.j :: (Tb.map Tr.j ++ t.j :: T2.map Tr.j)) done grp last = true := by simpa using k
        rcases (keeps_at k3).2.2.2 _ h with h4 | h4
        · exact hD (I.sub _ h4)
        · exact hn1 (by simp only [List.map_append, List.map_cons, List.mem_append]; exact .inl h4)
    have hv : get3 fr1 s = x.v := chain_put I.small hsn k1 (fun y hy hdy => by
      have := F.wr.one (hops y (List.mem_append_left _ hy)) (hops x hxT) hdy hd
      rw [uniqJ k hxT (List.mem_append_left _ hy) this]) (.inl ⟨x, hx, hd⟩)
    rw [hv]
    exact I.tmp1 x hxT hDx s hsn hd
  · have hno : ∀ x ∈ T1, x.o.dst ≠ some s := fun x hx hd => hex ⟨x, hx, hd⟩
    rw [chain_keep I.small (s := s) (Nat.lt_of_lt_of_le hsn I.small) k1 hno]
    refine I.tmp0 s hsn fun y hy hDy hdy => ?_
    rcases List.mem_append.1 hy with h | h
    · exact hno y h hdy
    · rcases List.mem_cons.1 h with h | h
      · subst h; exact hD hDy
      · obtain ⟨Ta, Tb, rfl⟩ := List.append_of_mem h
        have k3 : keepsGo E.P ops us ((T1.map Tr.j ++ t.j :: Ta.map Tr.j) ++ y.j :: Tb.map Tr.j) done grp last = true := by simpa using k
        obtain ⟨hysz, hy1, hy2, _⟩ := keeps_at k3
        have hoy := hops y hy
        rcases hw y hy hdy with h4 | h4 | h4
        · exact hy2 (by rw [h4]; simp)
        · rcases hbefore _ h4 with h5 | h5
          · rw [h5] at hy1; cases hy1
          · exact hy2 (List.mem_append_left _ h5)
        · exact hD (F.up.up y.j hysz y.o hoy D I.cls (fun e he hb => I.cls y.j y.o hoy hDy e he hb) _ h4)
theorem looks_operand {o : Oper} {x : Operand} (hx : x ∈ o.op.operands) {t : Nat} (e : x = .tmp t) : t ∈ o.looksAt ops := by
  subst e
  exact List.mem_append_left _ (List.mem_filterMap.2 ⟨.tmp t, by simpa using hx, rfl⟩)
theorem want_agree {fr fr' : Fr} {o : Oper} (h : ∀ x : Operand, (∀ t, x = .tmp t → t ∈ o.looksAt ops) → ev n fr x = ev n fr' x) : wantE n ops.toList o.guard fr = wantE n ops.toList o.guard fr' := by
  cases hg : o.guard with
  | none => rfl
  | some g =>
    obtain ⟨j, want⟩ := g
    show ob (nth ops.toList j) _ = ob (nth ops.toList j) _
    rw [nth_eq]
    cases hp : ops.toList[j]? with
    | none => rfl
    | some p =>
      show ob p.dst _ = ob p.dst _
      cases hd : p.dst with
      | none => rfl
      | some t =>
        have hp' : ops[j]? = some p := by simpa using hp
        have hm : t ∈ o.looksAt ops := List.mem_append_right _ (by simp [hg, hp', hd])
        have he := h (.tmp t) (fun t' e => by cases e; exact hm)
        show br (lt t n.n) _ none = br (lt t n.n) _ none
        by_cases ht : t < n.n
        · have he : br (lt t n.n) (get3 fr t) V.undef = br (lt t n.n) (get3 fr' t) V.undef := he
          simp only [lt_eq, ht, decide_true, br_true] at he ⊢
          rw [he]
        · simp only [lt_eq, ht, decide_false, br_false]
/-- what a step that is ready sees of the frame -/
theorem Inv.seen (F : Fixed E G call n ops us ws base) {T1 T2 : List Tr} {t : Tr} (I : Inv E call n ops us base ρ0 h0 w0 D (T1 ++ t :: T2) done grp last snaps H fr frE hE ρ a w) (hD : ¬ D t.j) (hup : ∀ s, bit (get3 us t.j) s = true → D s) :
    ∃ fr', FR ρ n fr' a ∧ (∀ x : Operand, (∀ s, x = .tmp s → s ∈ t.o.looksAt ops) → ev n t.fr x = ev n fr' x) := by
  have hp : PF ρ n t.fr a (fun s => s ∈ t.o.looksAt ops) := ⟨I.size, I.small, I.nd, fun s hs hk => I.look_val F hD hup s hk hs, I.glob⟩
  obtain ⟨fr', h1, h2⟩ := hp.full
  exact ⟨fr', h1, h2⟩
end
end Go.Eng
