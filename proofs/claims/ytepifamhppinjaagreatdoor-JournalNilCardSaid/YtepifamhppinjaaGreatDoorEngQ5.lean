import Derived.Test.YtepifamhppinjaaGreatDoorEngQ4
/- The engine: what the steps of a run by a plan come to. -/
namespace Go.Eng

theorem putF_ne {n : Sz} {d : Option Nat} {v : V} {fr : Fr} {s : Nat} (hs : s < 512) (hn : n.n ≤ 512) (h : d ≠ some s) : get3 (putF n d v fr) s = get3 fr s := by
  cases d with
  | none => rfl
  | some d =>
    show get3 (br (lt d n.n) (set3 fr d v) fr) s = _
    by_cases hd : d < n.n
    · simp only [lt_eq, hd, decide_true, br_true]
      rw [get3_set3 _ _ _ _ hs (by omega), if_neg (fun e => h (by rw [e]))]
    · simp only [lt_eq, hd, decide_false, br_false]
theorem putF_eq {n : Sz} {v : V} {fr : Fr} {s : Nat} (hs : s < n.n) (hn : n.n ≤ 512) : get3 (putF n (some s) v fr) s = v := by
  show get3 (br (lt s n.n) (set3 fr s v) fr) s = _
  simp only [lt_eq, hs, decide_true, br_true]
  rw [get3_set3 _ _ _ _ (by omega) (by omega), if_pos rfl]

/-- what a soft step is, on a heap -/
def SoftAt (E : Env) (n : Sz) (ops : Array Oper) (base : Nat) (t : Tr) (H : Hp) : Prop :=
  (wantE n ops.toList t.o.guard t.fr = some false ∧ t.v = V.undef ∧ t.ob = none) ∨
  (wantE n ops.toList t.o.guard t.fr = some true ∧ cls E.P t.o.op = 0 ∧ t.ob = none ∧ rdOp E.P n t.fr H t.o.op = some t.v) ∨
  (wantE n ops.toList t.o.guard t.fr = some true ∧ cls E.P t.o.op = 1 ∧ ∃ obj kf, alOp E.P n t.fr t.o.op = some (obj, kf) ∧ t.ob = some obj ∧ t.v = kf (base + t.j))

section
variable {E : Env} {call : Call} {n : Sz} {ops : Array Oper} {us : T3 Nat} {base : Nat}
theorem chain_ops {snaps : List (Nat × Hp)} {H h h' : Hp} {fr fr' : Fr} {T : List Tr} (k : Chain E call n ops us base snaps H fr h T fr' h') : ∀ t ∈ T, ops[t.j]? = some t.o := by
  induction k with
  | nil => intro t ht; cases ht
  | skip ho _ _ _ ih => intro t ht; rcases List.mem_cons.1 ht with rfl | ht; exact ho; exact ih t ht
  | pass ho _ _ _ ih => intro t ht; rcases List.mem_cons.1 ht with rfl | ht; exact ho; exact ih t ht
  | read ho _ _ _ _ _ _ ih => intro t ht; rcases List.mem_cons.1 ht with rfl | ht; exact ho; exact ih t ht
  | make ho _ _ _ _ _ ih => intro t ht; rcases List.mem_cons.1 ht with rfl | ht; exact ho; exact ih t ht
  | hard ho _ _ _ _ ih => intro t ht; rcases List.mem_cons.1 ht with rfl | ht; exact ho; exact ih t ht
theorem chain_keep (hn : n.n ≤ 512) {s : Nat} (hs : s < 512) {snaps : List (Nat × Hp)} {H h h' : Hp} {fr fr' : Fr} {T : List Tr} (k : Chain E call n ops us base snaps H fr h T fr' h') : (∀ t ∈ T, t.o.dst ≠ some s) → get3 fr' s = get3 fr s := by
  have key : ∀ {o : Oper} {T : List Tr} {t : Tr} {v : V} {fr fr' : Fr}, t.o = o → (∀ x ∈ t :: T, x.o.dst ≠ some s) → ((∀ x ∈ T, x.o.dst ≠ some s) → get3 fr' s = get3 (putF n o.dst v fr) s) → get3 fr' s = get3 fr s := by
    intro o T t v fr fr' e h ih
    rw [ih fun x hx => h x (List.mem_cons_of_mem _ hx), putF_ne hs hn (e ▸ h t (List.mem_cons_self ..))]
  induction k with
  | nil => intro _; rfl
  | skip _ _ _ _ ih => exact fun h => key rfl h ih
  | pass _ _ _ _ ih => exact fun h => key rfl h ih
  | read _ _ _ _ _ _ _ ih => exact fun h => key rfl h ih
  | make _ _ _ _ _ _ ih => exact fun h => key rfl h ih
  | hard _ _ _ _ _ ih => exact fun h => key rfl h ih
theorem chain_put (hn : n.n ≤ 512) {s : Nat} (hs : s < n.n) {u : V} {snaps : List (Nat × Hp)} {H h h' : Hp} {fr fr' : Fr} {T : List Tr} (k : Chain E call n ops us base snaps H fr h T fr' h') :
    (∀ t ∈ T, t.o.dst = some s → t.v = u) → ((∃ t ∈ T, t.o.dst = some s) ∨ get3 fr s = u) → get3 fr' s = u := by
  have key : ∀ {T : List Tr} {t : Tr} {fr fr' : Fr}, (∀ x ∈ t :: T, x.o.dst = some s → x.v = u) → ((∃ x ∈ t :: T, x.o.dst = some s) ∨ get3 fr s = u) →
      ((∀ x ∈ T, x.o.dst = some s → x.v = u) → ((∃ x ∈ T, x.o.dst = some s) ∨ get3 (putF n t.o.dst t.v fr) s = u) → get3 fr' s = u) → get3 fr' s = u := by
    intro T t fr fr' h1 h2 ih
    refine ih (fun x hx => h1 x (List.mem_cons_of_mem _ hx)) ?_
    by_cases hd : t.o.dst = some s
    · right; rw [hd, putF_eq hs hn]; exact h1 t (List.mem_cons_self ..) hd
    · rcases h2 with ⟨x, hx, hdx⟩ | h2
      · rcases List.mem_cons.1 hx with rfl | hx
        · exact absurd hdx hd
        · exact .inl ⟨x, hx, hdx⟩
      · right; rw [putF_ne (by omega) hn hd]; exact h2
  induction k with
  | nil => intro _ h; rcases h with ⟨t, ht, _⟩ | h; cases ht; exact h
  | skip _ _ _ _ ih => exact fun h1 h2 => key h1 h2 ih
  | pass _ _ _ _ ih => exact fun h1 h2 => key h1 h2 ih
  | read _ _ _ _ _ _ _ ih => exact fun h1 h2 => key h1 h2 ih
  | make _ _ _ _ _ _ ih => exact fun h1 h2 => key h1 h2 ih
  | hard _ _ _ _ _ ih => exact fun h1 h2 => key h1 h2 ih
theorem chain_split : ∀ {T1 T2 : List Tr} {snaps : List (Nat × Hp)} {H h h' : Hp} {fr fr' : Fr}, Chain E call n ops us base snaps H fr h (T1 ++ T2) fr' h' →
    ∃ snaps1 H1 fr1 h1, Chain E call n ops us base snaps H fr h T1 fr1 h1 ∧ Chain E call n ops us base snaps1 H1 fr1 h1 T2 fr' h' ∧ ((∀ t ∈ T1, isHard E.P ops t.j = false) → snaps1 = snaps ∧ H1 = H)
  | [], T2, snaps, H, h, h', fr, fr', k => ⟨snaps, H, fr, h, .nil .., k, fun _ => ⟨rfl, rfl⟩⟩
  | t :: T1, T2, snaps, H, h, h', fr, fr', k => by
    have k : Chain E call n ops us base snaps H fr h (t :: (T1 ++ T2)) fr' h' := k
    cases k with
    | skip ho hs hw k =>
      obtain ⟨a, b, c, d, k1, k2, k3⟩ := chain_split k
      exact ⟨a, b, c, d, .skip ho hs hw k1, k2, fun hh => k3 fun t ht => hh t (List.mem_cons_of_mem _ ht)⟩
    | pass ho hs hw k =>
      obtain ⟨a, b, c, d, k1, k2, k3⟩ := chain_split k
      exact ⟨a, b, c, d, .pass ho hs hw k1, k2, fun hh => by have := hh _ (List.mem_cons_self ..); rw [hs] at this; cases this⟩
    | read ho hs hw hc hv hsn k =>
      obtain ⟨a, b, c, d, k1, k2, k3⟩ := chain_split k
      exact ⟨a, b, c, d, .read ho hs hw hc hv hsn k1, k2, fun hh => k3 fun t ht => hh t (List.mem_cons_of_mem _ ht)⟩
    | make ho hs hw hc hv k =>
      obtain ⟨a, b, c, d, k1, k2, k3⟩ := chain_split k
      exact ⟨a, b, c, d, .make ho hs hw hc hv k1, k2, fun hh => k3 fun t ht => hh t (List.mem_cons_of_mem _ ht)⟩
    | hard ho hs hw hv k =>
      obtain ⟨a, b, c, d, k1, k2, k3⟩ := chain_split k
      exact ⟨a, b, c, d, .hard ho hs hw hv k1, k2, fun hh => by have := hh _ (List.mem_cons_self ..); rw [hs] at this; cases this⟩
theorem chain_head {t : Tr} {T : List Tr} {snaps : List (Nat × Hp)} {H h h' : Hp} {fr fr' : Fr} (k : Chain E call n ops us base snaps H fr h (t :: T) fr' h') : t.fr = fr := by cases k <;> rfl
/-- a soft step reads the same on every heap of its window -/
theorem chain_snap {H0 : Hp} {t : Tr} (ht : isHard E.P ops t.j = false) {snaps : List (Nat × Hp)} {H h h' : Hp} {fr fr' : Fr} {T : List Tr} (k : Chain E call n ops us base snaps H fr h T fr' h') :
    t ∈ T → (∃ p ∈ snaps, p.2 = H0 ∧ bit (get3 us t.j) p.1 = false) → SoftAt E n ops base t H0 := by
  induction k with
  | nil => intro h; cases h
  | skip ho hs hw k ih =>
    intro hm hp
    rcases List.mem_cons.1 hm with rfl | hm
    · exact .inl ⟨hw, rfl, rfl⟩
    · exact ih hm hp
  | pass ho hs hw k ih =>
    intro hm ⟨p, hp, e⟩
    rcases List.mem_cons.1 hm with rfl | hm
    · rw [hs] at ht; cases ht
    · exact ih hm ⟨p, List.mem_cons_of_mem _ hp, e⟩
  | read ho hs hw hc hv hsn k ih =>
    intro hm hp
    rcases List.mem_cons.1 hm with rfl | hm
    · obtain ⟨p, hp, rfl, hb⟩ := hp
      exact .inr (.inl ⟨hw, hc, rfl, hsn p hp hb⟩)
    · exact ih hm hp
  | make ho hs hw hc hv k ih =>
    intro hm hp
    rcases List.mem_cons.1 hm with rfl | hm
    · exact .inr (.inr ⟨hw, hc, _, _, hv, rfl, rfl⟩)
    · exact ih hm hp
  | hard ho hs hw hv k ih =>
    intro hm ⟨p, hp, e⟩
    rcases List.mem_cons.1 hm with rfl | hm
    · rw [hs] at ht; cases ht
    · exact ih hm ⟨p, List.mem_cons_of_mem _ hp, e⟩
theorem chain_soft {t : Tr} (ht : isHard E.P ops t.j = false) : ∀ {T1 T2 : List Tr} {snaps : List (Nat × Hp)} {H h h' : Hp} {fr fr' : Fr}, Chain E call n ops us base snaps H fr h (T1 ++ t :: T2) fr' h' →
    (∀ x ∈ T1, isHard E.P ops x.j = true → bit (get3 us t.j) x.j = false) → SoftAt E n ops base t H
  | [], T2, snaps, H, h, h', fr, fr', k, _ => by
    have k : Chain E call n ops us base snaps H fr h (t :: T2) fr' h' := k
    cases k with
    | skip ho hs hw k => exact .inl ⟨hw, rfl, rfl⟩
    | pass ho hs hw k => rw [hs] at ht; cases ht
    | read ho hs hw hc hv hsn k => exact .inr (.inl ⟨hw, hc, rfl, hv⟩)
    | make ho hs hw hc hv k => exact .inr (.inr ⟨hw, hc, _, _, hv, rfl, rfl⟩)
    | hard ho hs hw hv k => rw [hs] at ht; cases ht
  | x :: T1, T2, snaps, H, h, h', fr, fr', k, hx => by
    have k : Chain E call n ops us base snaps H fr h (x :: (T1 ++ t :: T2)) fr' h' := k
    have hx' : ∀ y ∈ T1, isHard E.P ops y.j = true → bit (get3 us t.j) y.j = false := fun y hy => hx y (List.mem_cons_of_mem _ hy)
    have hm : t ∈ T1 ++ t :: T2 := List.mem_append_right _ (List.mem_cons_self ..)
    have hb := hx x (List.mem_cons_self ..)
    cases k with
    | skip ho hs hw k => exact chain_soft ht k hx'
    | read ho hs hw hc hv hsn k => exact chain_soft ht k hx'
    | make ho hs hw hc hv k => exact chain_soft ht k hx'
    | pass ho hs hw k => exact chain_snap ht k hm ⟨_, List.mem_cons_self .., rfl, hb hs⟩
    | hard ho hs hw hv k => exact chain_snap ht k hm ⟨_, List.mem_cons_self .., rfl, hb hs⟩
end
end Go.Eng
