import Derived.Test.YtepifamhppinjaaGreatDoorEngQ2
/- The engine: what the order of a plan says. -/
namespace Go.Eng

theorem looksOk_cons (ops : Array Oper) (us ws : T3 Nat) (o : Oper) (l : List Oper) (i : Nat) :
    looksOk ops us ws (o :: l) i = num (Nat.succ i) fun i' => br (and (looksOk.noS o.op) (lookOk us ws i (o.looksAt ops))) (looksOk ops us ws l i') false := rfl
theorem looksOk_sound {ops : Array Oper} {us ws : T3 Nat} : ∀ {l : List Oper} {i : Nat}, looksOk ops us ws l i = true → ∀ k o, l[k]? = some o → (∀ cs b, o.op ≠ .select cs b) ∧ lookOk us ws (i + k) (o.looksAt ops) = true
  | [], _, _, k, o, h => by simp at h
  | p :: l, i, h, k, o, ho => by
    rw [looksOk_cons] at h
    simp only [num_eq] at h
    cases hb : and (looksOk.noS p.op) (lookOk us ws i (p.looksAt ops)) with
    | false => rw [hb] at h; cases h
    | true =>
      rw [hb] at h
      have h : looksOk ops us ws l (i + 1) = true := h
      cases k with
      | zero =>
        have e : p = o := by simpa using ho
        subst e
        simp only [Bool.and_eq_true] at hb
        exact ⟨fun cs b e => (by rw [e] at hb; cases hb.1), hb.2⟩
      | succ k =>
        have := looksOk_sound h k o (by simpa using ho)
        rwa [show i + 1 + k = i + (k + 1) by omega] at this

section
variable {P : Program} {ops : Array Oper} {us : T3 Nat}
theorem keepsGo_cons (i : Nat) (l : List Nat) (done grp last : Nat) : keepsGo P ops us (i :: l) done grp last =
    br (and (lt i ops.size) (and (not (bit done i)) (sub (get3 us i) done)))
        (br (isHard P ops i)
          (br (and (sub grp (get3 us i)) (@Nat.rec (fun _ => Bool) true (fun w _ => bit (get3 us i) w) last)) (num (Nat.lor done (one i)) fun d => num (Nat.succ i) fun i' => keepsGo P ops us l d 0 i') false)
          (num (Nat.lor done (one i)) fun d => num (Nat.lor grp (one i)) fun g => keepsGo P ops us l d g last)) false := rfl
theorem keeps_step {i : Nat} {l : List Nat} {done grp last : Nat} (h : keepsGo P ops us (i :: l) done grp last = true) :
    i < ops.size ∧ bit done i = false ∧ (∀ s, bit (get3 us i) s = true → bit done s = true) ∧
    ((isHard P ops i = true ∧ (∀ s, bit grp s = true → bit (get3 us i) s = true) ∧ (∀ w, last = w + 1 → bit (get3 us i) w = true) ∧ keepsGo P ops us l (Nat.lor done (one i)) 0 (i + 1) = true) ∨
     (isHard P ops i = false ∧ keepsGo P ops us l (Nat.lor done (one i)) (Nat.lor grp (one i)) last = true)) := by
  rw [keepsGo_cons] at h
  cases hb : and (lt i ops.size) (and (not (bit done i)) (sub (get3 us i) done)) with
  | false => rw [hb] at h; cases h
  | true =>
    rw [hb] at h
    simp only [Bool.and_eq_true, lt_eq, decide_eq_true_eq, Bool.not_eq_true'] at hb
    refine ⟨hb.1, hb.2.1, sub_eq hb.2.2, ?_⟩
    simp only [num_eq, br_true] at h
    cases hh : isHard P ops i with
    | false => rw [hh] at h; exact .inr ⟨rfl, h⟩
    | true =>
      rw [hh] at h
      simp only [br_true] at h
      cases h2 : and (sub grp (get3 us i)) (@Nat.rec (fun _ => Bool) true (fun w _ => bit (get3 us i) w) last) with
      | false => rw [h2] at h; cases h
      | true =>
        rw [h2] at h
        simp only [Bool.and_eq_true] at h2
        refine .inl ⟨rfl, sub_eq h2.1, fun w hw => ?_, h⟩
        subst hw; exact h2.2
theorem bit_done (done i s : Nat) : bit (Nat.lor done (one i)) s = true ↔ (bit done s = true ∨ s = i) := by
  rw [bit_or, bit_one, Bool.or_eq_true, decide_eq_true_eq]
  exact ⟨fun h => h.imp id fun e => e.symm, fun h => h.imp id fun e => e.symm⟩
theorem keeps_all : ∀ {l : List Nat} {done grp last : Nat}, keepsGo P ops us l done grp last = true → ∀ i, i < ops.size → bit done i = true ∨ i ∈ l
  | [], done, grp, last, h, i, hi => .inl (sub_eq (a := Nat.sub (one ops.size) 1) h i (bit_full _ _ hi))
  | j :: l, done, grp, last, h, i, hi => by
    obtain ⟨_, _, _, k⟩ := keeps_step h
    have : bit (Nat.lor done (one j)) i = true ∨ i ∈ l := by
      rcases k with ⟨_, _, _, k⟩ | ⟨_, k⟩ <;> exact keeps_all k i hi
    rcases this with h1 | h1
    · rcases (bit_done done j i).1 h1 with h2 | h2
      · exact .inl h2
      · exact .inr (h2 ▸ List.mem_cons_self ..)
    · exact .inr (List.mem_cons_of_mem _ h1)
theorem keeps_drop : ∀ {l1 l2 : List Nat} {done grp last : Nat}, keepsGo P ops us (l1 ++ l2) done grp last = true → ∃ done' grp' last', keepsGo P ops us l2 done' grp' last' = true ∧ ∀ s, bit done' s = true ↔ (bit done s = true ∨ s ∈ l1)
  | [], l2, done, grp, last, h => ⟨done, grp, last, h, fun s => by simp⟩
  | i :: l1, l2, done, grp, last, h => by
    obtain ⟨_, _, _, k⟩ := keeps_step h
    have : ∃ done' grp' last', keepsGo P ops us l2 done' grp' last' = true ∧ ∀ s, bit done' s = true ↔ (bit (Nat.lor done (one i)) s = true ∨ s ∈ l1) := by
      rcases k with ⟨_, _, _, k⟩ | ⟨_, k⟩ <;> exact keeps_drop k
    obtain ⟨d, g, l, k1, k2⟩ := this
    refine ⟨d, g, l, k1, fun s => ?_⟩
    rw [k2 s, bit_done, List.mem_cons]
    constructor
    · rintro ((h | h) | h)
      · exact .inl h
      · exact .inr (.inl h)
      · exact .inr (.inr h)
    · rintro (h | h | h)
      · exact .inl (.inl h)
      · exact .inl (.inr h)
      · exact .inr h
theorem keeps_at {l1 l2 : List Nat} {j : Nat} {done grp last : Nat} (h : keepsGo P ops us (l1 ++ j :: l2) done grp last = true) :
    j < ops.size ∧ bit done j = false ∧ j ∉ l1 ∧ ∀ s, bit (get3 us j) s = true → bit done s = true ∨ s ∈ l1 := by
  obtain ⟨d, g, l, k1, k2⟩ := keeps_drop h
  obtain ⟨q1, q2, q3, _⟩ := keeps_step k1
  have hn : ¬ (bit done j = true ∨ j ∈ l1) := fun hh => by rw [(k2 j).2 hh] at q2; cases q2
  refine ⟨q1, ?_, fun hh => hn (.inr hh), fun s hs => (k2 s).1 (q3 s hs)⟩
  cases hb : bit done j with
  | false => rfl
  | true => exact absurd (.inl hb) hn
theorem keeps_behind {l1 l2 : List Nat} {j : Nat} {done grp last : Nat} (h : keepsGo P ops us (l1 ++ j :: l2) done grp last = true) : j ∉ l2 := by
  intro hj
  obtain ⟨a, b, rfl⟩ := List.append_of_mem hj
  have h : keepsGo P ops us ((l1 ++ j :: a) ++ j :: b) done grp last = true := by simpa using h
  exact (keeps_at h).2.2.1 (by simp)
/-- a hard operation is bound to all since the hard one before it, and to that one -/
theorem keeps_hard : ∀ {l1 l2 : List Nat} {j : Nat} {done grp last : Nat}, keepsGo P ops us (l1 ++ j :: l2) done grp last = true → isHard P ops j = true → (∀ s ∈ l1, isHard P ops s = false) →
    (∀ s, (s ∈ l1 ∨ bit grp s = true) → bit (get3 us j) s = true) ∧ ∀ w, last = w + 1 → bit (get3 us j) w = true
  | [], l2, j, done, grp, last, h, hj, _ => by
    obtain ⟨_, _, _, k⟩ := keeps_step h
    rcases k with ⟨_, k1, k2, _⟩ | ⟨k, _⟩
    · exact ⟨fun s hs => hs.elim (fun h => by cases h) (k1 s), k2⟩
    · rw [hj] at k; cases k
  | i :: l1, l2, j, done, grp, last, h, hj, hs => by
    obtain ⟨_, _, _, k⟩ := keeps_step h
    rcases k with ⟨k, _⟩ | ⟨_, k⟩
    · rw [hs i (List.mem_cons_self ..)] at k; cases k
    · obtain ⟨q1, q2⟩ := keeps_hard k hj fun s hm => hs s (List.mem_cons_of_mem _ hm)
      refine ⟨fun s hm => ?_, q2⟩
      rcases hm with hm | hm
      · rcases List.mem_cons.1 hm with e | hm
        · exact q1 s (.inr ((bit_done grp i s).2 (.inr e)))
        · exact q1 s (.inl hm)
      · exact q1 s (.inr ((bit_done grp i s).2 (.inl hm)))
theorem keeps_next {l1 l2 l3 : List Nat} {x j : Nat} {done grp last : Nat} (h : keepsGo P ops us (l1 ++ x :: (l2 ++ j :: l3)) done grp last = true) (hx : isHard P ops x = true) (hj : isHard P ops j = true) (hs : ∀ s ∈ l2, isHard P ops s = false) :
    bit (get3 us j) x = true := by
  obtain ⟨d, g, l, k1, _⟩ := keeps_drop h
  obtain ⟨_, _, _, k⟩ := keeps_step k1
  rcases k with ⟨_, _, _, k⟩ | ⟨k, _⟩
  · exact (keeps_hard k hj hs).2 x rfl
  · rw [hx] at k; cases k
end
end Go.Eng
