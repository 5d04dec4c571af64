import Derived.Test.YtepifamhppinjaaGreatDoorEngQ1
import Derived.Test.YtepifamhppinjaaGreatDoorEngCD
/- The engine: what the plan of a drawn region says. -/
namespace Go.Eng

theorem bit_eq (m i : Nat) : bit m i = m.testBit i := by
  have h1 : Nat.land (Nat.shiftRight m i) 1 = m / 2 ^ i % 2 := by
    have e1 : Nat.shiftRight m i = m / 2 ^ i := Nat.shiftRight_eq_div_pow m i
    rw [e1]; exact Nat.and_one_is_mod _
  unfold bit
  rw [h1, Nat.testBit_eq_decide_div_mod_eq, beq_eq']
theorem one_eq (i : Nat) : one i = 2 ^ i := Nat.one_shiftLeft i
theorem bit_one (i j : Nat) : bit (one i) j = decide (i = j) := by rw [bit_eq, one_eq, Nat.testBit_two_pow]
theorem bit_or (a b i : Nat) : bit (Nat.lor a b) i = (bit a i || bit b i) := by
  simp only [bit_eq]; exact Nat.testBit_or a b i
theorem bit_zero (i : Nat) : bit 0 i = false := by rw [bit_eq]; exact Nat.zero_testBit i
theorem bit_full (n i : Nat) (h : i < n) : bit (Nat.sub (one n) 1) i = true := by
  have : Nat.sub (one n) 1 = 2 ^ n - 1 := by rw [one_eq]; rfl
  rw [this, bit_eq, Nat.testBit_two_pow_sub_one]; simpa using h
theorem sub_eq {a b : Nat} (h : sub a b = true) (i : Nat) (hi : bit a i = true) : bit b i = true := by
  unfold sub at h
  rw [beq_eq', decide_eq_true_eq] at h
  have h2 : (Nat.land a b).testBit i = (a.testBit i && b.testBit i) := Nat.testBit_and a b i
  rw [bit_eq] at hi ⊢
  rw [h, hi] at h2
  simpa using h2.symm

/-- closed under bonds -/
def Cls (ops : Array Oper) (D : Nat → Prop) : Prop := ∀ i o, ops[i]? = some o → D i → ∀ e ∈ o.after, Region.binds .any e = true → D e.on
structure UpOk (ops : Array Oper) (us : T3 Nat) (m : Nat) : Prop where
  back : ∀ i, i < m → ∀ o, ops[i]? = some o → ∀ e ∈ o.after, Region.binds .any e = true → e.on < i
  up : ∀ i, i < m → ∀ o, ops[i]? = some o → ∀ D, Cls ops D → (∀ e ∈ o.after, Region.binds .any e = true → D e.on) → ∀ s, bit (get3 us i) s = true → D s
  has : ∀ i, i < m → ∀ o, ops[i]? = some o → ∀ e ∈ o.after, Region.binds .any e = true → bit (get3 us i) e.on = true
theorem upOf_cons (us : T3 Nat) (i : Nat) (e : Edge) (es : List Edge) : upOf us i (e :: es) = br (Region.binds .any e) (br (lt e.on i) (ob (upOf us i es) fun m => num (Nat.lor m (Nat.lor (one e.on) (get3 us e.on))) some) none) (upOf us i es) := rfl
theorem upOf_sound {ops : Array Oper} {us : T3 Nat} {i : Nat} (hu : UpOk ops us i) : ∀ {es : List Edge} {m : Nat}, upOf us i es = some m → i ≤ ops.size →
    (∀ e ∈ es, Region.binds .any e = true → e.on < i ∧ bit m e.on = true) ∧ ∀ D, Cls ops D → (∀ e ∈ es, Region.binds .any e = true → D e.on) → ∀ s, bit m s = true → D s
  | [], m, h, _ => by cases h; exact ⟨fun _ h => (by cases h), fun _ _ _ s hs => by rw [bit_zero] at hs; cases hs⟩
  | e :: es, m, h, hi => by
    rw [upOf_cons] at h
    cases hb : Region.binds .any e with
    | false =>
      rw [hb] at h
      obtain ⟨k1, k2⟩ := upOf_sound hu h hi
      refine ⟨fun f hf hbf => ?_, fun D hD hes => k2 D hD fun f hf => hes f (List.mem_cons_of_mem _ hf)⟩
      rcases List.mem_cons.1 hf with rfl | hf
      · rw [hb] at hbf; cases hbf
      · exact k1 f hf hbf
    | true =>
      rw [hb] at h
      obtain ⟨hlt, h2⟩ := br_none (h : br (lt e.on i) _ none = some m)
      simp only [lt_eq, decide_eq_true_eq] at hlt
      obtain ⟨m', hm', h3⟩ := ob_some h2
      simp only [num_eq, Option.some.injEq] at h3
      subst h3
      obtain ⟨k1, k2⟩ := upOf_sound hu hm' hi
      refine ⟨fun f hf hbf => ?_, fun D hD hes s hs => ?_⟩
      · rcases List.mem_cons.1 hf with rfl | hf
        · exact ⟨hlt, by rw [bit_or, bit_or, bit_one]; simp⟩
        · exact ⟨(k1 f hf hbf).1, by rw [bit_or, (k1 f hf hbf).2]; rfl⟩
      · have hDe := hes e (List.mem_cons_self ..) hb
        simp only [bit_or, bit_one, Bool.or_eq_true, decide_eq_true_eq] at hs
        rcases hs with hs | hs | hs
        · exact k2 D hD (fun f hf => hes f (List.mem_cons_of_mem _ hf)) s hs
        · exact hs ▸ hDe
        · have hes' : e.on < ops.size := by omega
          obtain ⟨oe, hoe⟩ : ∃ oe, ops[e.on]? = some oe := ⟨_, Array.getElem?_eq_getElem hes'⟩
          exact hu.up e.on hlt oe hoe D hD (fun f hf hbf => hD e.on oe hoe hDe f hf hbf) s hs
theorem upsGo_cons (o : Oper) (l : List Oper) (i : Nat) (us : T3 Nat) : upsGo (o :: l) i us = ob (upOf us i o.after.toList) fun m => num (Nat.succ i) fun i' => upsGo l i' (set3 us i m) := rfl
theorem upsGo_sound {ops : Array Oper} (hn : ops.size ≤ 512) : ∀ {l : List Oper} {i : Nat} {us us' : T3 Nat}, ops.toList.drop i = l → i ≤ ops.size → UpOk ops us i → upsGo l i us = some us' → UpOk ops us' ops.size
  | [], i, us, us', hl, hi, hu, h => by
    cases h
    have : ops.size = i := by
      have := congrArg List.length hl
      simp at this; omega
    rw [this]; exact hu
  | o :: l, i, us, us', hl, hi, hu, h => by
    rw [upsGo_cons] at h
    obtain ⟨m, hm, h2⟩ := ob_some h
    simp only [num_eq] at h2
    have hlen := congrArg List.length hl
    simp at hlen
    have hil : i < ops.size := by omega
    have hoi : ops[i]? = some o := by
      have := congrArg (fun l => l[0]?) hl
      simpa using this
    obtain ⟨k1, k2⟩ := upOf_sound hu hm hi
    have hget : ∀ j, j < ops.size → get3 (set3 us i m) j = if j = i then m else get3 us j := fun j hj => get3_set3 _ _ _ _ (by omega) (by omega)
    have hdr : ops.toList.drop (i + 1) = l := by rw [← List.drop_drop, hl]; rfl
    refine upsGo_sound hn hdr (by omega) ⟨?_, ?_, ?_⟩ h2
    · intro j hj oj hoj e he hb
      by_cases e1 : j = i
      · subst e1; rw [hoi] at hoj; cases hoj; exact (k1 e (by simpa using he) hb).1
      · exact hu.back j (by omega) oj hoj e he hb
    · intro j hj oj hoj D hD hes s hs
      rw [hget j (by omega)] at hs
      by_cases e1 : j = i
      · subst e1; rw [hoi] at hoj; cases hoj
        rw [if_pos rfl] at hs
        exact k2 D hD (fun e he => hes e (by simpa using he)) s hs
      · rw [if_neg e1] at hs
        exact hu.up j (by omega) oj hoj D hD hes s hs
    · intro j hj oj hoj e he hb
      rw [hget j (by omega)]
      by_cases e1 : j = i
      · subst e1; rw [hoi] at hoj; cases hoj; rw [if_pos rfl]; exact (k1 e (by simpa using he) hb).2
      · rw [if_neg e1]; exact hu.has j (by omega) oj hoj e he hb

structure WrOk (ops : Array Oper) (ws : T3 Nat) (m : Nat) : Prop where
  dst : ∀ i, i < m → ∀ o d, ops[i]? = some o → o.dst = some d → d < 512 ∧ get3 ws d = i + 1
theorem wrGo_cons (o : Oper) (l : List Oper) (i : Nat) (ws : T3 Nat) : wrGo (o :: l) i ws = num (Nat.succ i) fun i' => @Option.rec Nat (fun _ => Option (T3 Nat)) (wrGo l i' ws) (fun d => br (and (lt d 512) (Nat.beq (get3 ws d) 0)) (wrGo l i' (set3 ws d i')) none) o.dst := rfl
theorem wrGo_sound {ops : Array Oper} : ∀ {l : List Oper} {i : Nat} {ws ws' : T3 Nat}, ops.toList.drop i = l → i ≤ ops.size → WrOk ops ws i → wrGo l i ws = some ws' → WrOk ops ws' ops.size
  | [], i, ws, ws', hl, hi, hw, h => by
    cases h
    have : ops.size = i := by
      have := congrArg List.length hl
      simp at this; omega
    rw [this]; exact hw
  | o :: l, i, ws, ws', hl, hi, hw, h => by
    rw [wrGo_cons] at h
    simp only [num_eq] at h
    have hlen := congrArg List.length hl
    simp at hlen
    have hoi : ops[i]? = some o := by
      have := congrArg (fun l => l[0]?) hl
      simpa using this
    have hdr : ops.toList.drop (i + 1) = l := by rw [← List.drop_drop, hl]; rfl
    cases hd : o.dst with
    | none =>
      rw [hd] at h
      refine wrGo_sound hdr (by omega) ⟨fun j hj oj d hoj hdj => ?_⟩ h
      by_cases e1 : j = i
      · subst e1; rw [hoi] at hoj; cases hoj; rw [hd] at hdj; cases hdj
      · exact hw.dst j (by omega) oj d hoj hdj
    | some d =>
      rw [hd] at h
      obtain ⟨h1, h2⟩ := br_none (h : br _ _ none = some ws')
      simp only [Bool.and_eq_true, lt_eq, beq_eq', decide_eq_true_eq] at h1
      refine wrGo_sound hdr (by omega) ⟨fun j hj oj d' hoj hdj => ?_⟩ h2
      by_cases e1 : j = i
      · subst e1; rw [hoi] at hoj; cases hoj; rw [hd] at hdj; cases hdj
        exact ⟨h1.1, by rw [get3_set3 _ _ _ _ h1.1 h1.1, if_pos rfl]⟩
      · obtain ⟨q1, q2⟩ := hw.dst j (by omega) oj d' hoj hdj
        refine ⟨q1, ?_⟩
        rw [get3_set3 _ _ _ _ q1 h1.1]
        by_cases e2 : d' = d
        · subst e2; rw [q2] at h1; exact absurd h1.2 (by omega)
        · rw [if_neg e2]; exact q2
/-- a slot has one writer -/
theorem WrOk.one {ops : Array Oper} {ws : T3 Nat} (hw : WrOk ops ws ops.size) {i j : Nat} {oi oj : Oper} {d : Nat} (hi : ops[i]? = some oi) (hj : ops[j]? = some oj) (h1 : oi.dst = some d) (h2 : oj.dst = some d) : i = j := by
  have hi' := (Array.getElem?_eq_some_iff.1 hi).1
  have hj' := (Array.getElem?_eq_some_iff.1 hj).1
  have := (hw.dst i hi' oi d hi h1).2
  rw [(hw.dst j hj' oj d hj h2).2] at this
  omega
theorem lookOk_cons (us ws : T3 Nat) (i s : Nat) (l : List Nat) : lookOk us ws i (s :: l) = br (br (lt s 512) (@Nat.rec (fun _ => Bool) true (fun w _ => br (Nat.beq w i) true (br (bit (get3 us i) w) true (bit (get3 us w) i))) (get3 ws s)) false) (lookOk us ws i l) false := rfl
theorem lookOk_sound {ops : Array Oper} {us ws : T3 Nat} (hw : WrOk ops ws ops.size) {i : Nat} : ∀ {l : List Nat}, lookOk us ws i l = true → ∀ s ∈ l, ∀ w ow, ops[w]? = some ow → ow.dst = some s → w = i ∨ bit (get3 us i) w = true ∨ bit (get3 us w) i = true
  | [], _, _, h, _, _, _, _ => by cases h
  | s :: l, h, s', hs', w, ow, how, hds => by
    rw [lookOk_cons] at h
    cases hb : br (lt s 512) (@Nat.rec (fun _ => Bool) true (fun w _ => br (Nat.beq w i) true (br (bit (get3 us i) w) true (bit (get3 us w) i))) (get3 ws s)) false with
    | false => rw [hb] at h; cases h
    | true =>
      rw [hb] at h
      rcases List.mem_cons.1 hs' with rfl | hs'
      · have hw' := (Array.getElem?_eq_some_iff.1 how).1
        obtain ⟨q1, q2⟩ := hw.dst w hw' ow s' how hds
        rw [lt_eq] at hb
        simp only [q1, decide_true, br_true, q2] at hb
        by_cases e1 : w = i
        · exact .inl e1
        · have hb : br (Nat.beq w i) true (br (bit (get3 us i) w) true (bit (get3 us w) i)) = true := hb
          rw [show Nat.beq w i = false by simp [e1]] at hb
          cases h2 : bit (get3 us i) w with
          | true => exact .inr (.inl rfl)
          | false => rw [h2] at hb; exact .inr (.inr hb)
      · exact lookOk_sound hw h s' hs' w ow how hds
end Go.Eng
