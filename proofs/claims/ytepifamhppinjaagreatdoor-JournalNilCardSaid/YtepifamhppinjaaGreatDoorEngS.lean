import Derived.Test.YtepifamhppinjaaGreatDoorEngR
/- The engine: how its heap follows the world's. -/
namespace Go.Eng

theorem Hp.at_put (h : Hp) (i j : Nat) (o : Obj) (hi : i < 262144) (hj : j < 262144) : (h.put j o).at i = if i = j then o else h.at i := get6_set6 h.t i j o hi hj
theorem Hp.at_next (n m : Nat) (t : T6 Obj) (i : Nat) : (Hp.mk n t).at i = (Hp.mk m t).at i := rfl

def Rho.set (ρ : Rho) (id : Nat) (p : Nat × Nat) : Rho := fun i => if i = id then some p else ρ i
theorem Rho.le_set {ρ : Rho} {id : Nat} (h : ρ id = none) (p : Nat × Nat) : ρ.le (ρ.set id p) := by
  intro i q hq
  unfold Rho.set
  by_cases e : i = id
  · subst e; rw [h] at hq; cases hq
  · rw [if_neg e]; exact hq
theorem Rho.set_self (ρ : Rho) (id : Nat) (p : Nat × Nat) : ρ.set id p id = some p := by simp [Rho.set]
theorem Rho.set_ne {ρ : Rho} {id i : Nat} (p : Nat × Nat) (h : i ≠ id) : ρ.set id p i = ρ i := by simp [Rho.set, h]

/-- a new block is laid -/
theorem Sim.alloc {ρ : Rho} {h : Hp} {w : World} (hs : Sim ρ h w) {id : Nat} (hid : id < 262144) (hn : h.next ≤ id) (hf : ρ id = none) (o : Obj) (c : Go.Obj) (z : Nat)
    (hor : OR (ρ.set id (w.heap.size, z)) { w with heap := w.heap.push c } w.heap.size z o) (n : Nat) (hn' : h.next ≤ n) :
    Ext ρ h w (ρ.set id (w.heap.size, z)) ⟨n, (h.put id o).t⟩ { w with heap := w.heap.push c } := by
  have hle : ρ.le (ρ.set id (w.heap.size, z)) := Rho.le_set hf _
  have hat : ∀ i, i < 262144 → (Hp.mk n (h.put id o).t).at i = if i = id then o else h.at i := fun i hi => Hp.at_put h i id o hi hid
  have hpush : ∀ b, b < w.heap.size → (w.heap.push c)[b]? = w.heap[b]? := fun b hb => by
    rw [Array.getElem?_push]; simp [Nat.ne_of_lt hb]
  refine ⟨hle, ⟨?_, ?_⟩, by simp, fun b hb _ => hpush b hb, ?_, ?_, hn', fun i hi hlt _ => (by rw [hat i hi, if_neg (by omega)]), fun i b y h0 h1 => ?_, rfl, rfl, rfl⟩
  · intro i b y hr
    by_cases e : i = id
    · subst e
      rw [Rho.set_self] at hr
      cases hr
      refine ⟨hid, by simp, ?_⟩
      rw [hat _ hid, if_pos rfl]
      exact hor
    · rw [Rho.set_ne _ e] at hr
      obtain ⟨h1, h2, h3⟩ := hs.live i b y hr
      refine ⟨h1, by simp; omega, ?_⟩
      rw [hat _ h1, if_neg e]
      exact OR.mono hle (hpush b h2) h3
  · intro i j b y y' hi hj ho hn
    by_cases ei : i = id
    · by_cases ej : j = id
      · rw [ei, ej]
      · exfalso
        subst ei
        rw [Rho.set_self] at hi; cases hi
        rw [Rho.set_ne _ ej] at hj
        exact absurd (hs.live j _ _ hj).2.1 (Nat.lt_irrefl _)
    · rw [Rho.set_ne _ ei] at hi
      by_cases ej : j = id
      · exfalso
        subst ej
        rw [Rho.set_self] at hj; cases hj
        exact absurd (hs.live i _ _ hi).2.1 (Nat.lt_irrefl _)
      · rw [Rho.set_ne _ ej] at hj
        rw [hat _ (hs.live i _ _ hi).1, if_neg ei] at ho
        rw [hat _ (hs.live j _ _ hj).1, if_neg ej] at hn
        exact hs.inj i j b y y' hi hj ho hn
  · rintro b ⟨i, y, hr, ho⟩
    by_cases e : i = id
    · subst e; rw [Rho.set_self] at hr; cases hr; exact .inr (Nat.le_refl _)
    · rw [Rho.set_ne _ e] at hr
      rw [hat _ (hs.live i _ _ hr).1, if_neg e] at ho
      exact .inl ⟨i, y, hr, ho⟩
  · rintro b ⟨i, y, hr, ho⟩
    by_cases e : i = id
    · subst e; rw [Rho.set_self] at hr; cases hr; exact .inr (Nat.le_refl _)
    · rw [Rho.set_ne _ e] at hr
      rw [hat _ (hs.live i _ _ hr).1, if_neg e] at ho
      exact .inl ⟨i, y, hr, ho⟩
  · by_cases e : i = id
    · subst e; rw [Rho.set_self] at h1; cases h1; exact ⟨hn, .inl (Nat.le_refl _)⟩
    · rw [Rho.set_ne _ e, h0] at h1; cases h1

/-- an object's block changes -/
theorem Sim.change {ρ : Rho} {h : Hp} {w w' : World} (hs : Sim ρ h w) {id b z : Nat} (hr : ρ id = some (b, z)) (hown : (h.at id).own = true) (o : Obj)
    (hsize : w'.heap.size = w.heap.size) (hother : ∀ b', b' ≠ b → w'.heap[b']? = w.heap[b']?) (ht : w'.tape = w.tape) (hos : w'.os = w.os) (hout : w'.output = w.output)
    (hor : OR ρ w' b z o) : Ext ρ h w ρ (h.put id o) w' := by
  have hid := (hs.live id b z hr).1
  have hne : h.at id ≠ .none := fun e => by rw [e] at hown; cases hown
  have hat : ∀ i, i < 262144 → (h.put id o).at i = if i = id then o else h.at i := fun i hi => Hp.at_put h i id o hi hid
  refine ⟨Rho.le_refl _, ⟨?_, ?_⟩, by omega, ?_, ?_, ?_, Nat.le_refl _, fun i hi _ h0 => (by rw [hat i hi, if_neg (fun e => by rw [e, hr] at h0; cases h0)]), fun _ _ _ h0 h1 => (by rw [h0] at h1; cases h1), ht, hos, hout⟩
  · intro i b' y hi
    obtain ⟨h1, h2, h3⟩ := hs.live i b' y hi
    refine ⟨h1, by omega, ?_⟩
    rw [hat _ h1]
    by_cases e : i = id
    · subst e; rw [hr] at hi; cases hi; rw [if_pos rfl]; exact hor
    · rw [if_neg e]
      by_cases eb : b' = b
      · subst eb
        have : h.at i = .none := Classical.byContradiction fun hn => e (hs.inj id i b' z y hr hi hown hn).symm
        rw [this]; trivial
      · exact OR.mono (Rho.le_refl _) (hother b' eb) h3
  · intro i j b' y y' hi hj ho hn
    have hi1 := (hs.live i b' y hi).1
    have hj1 := (hs.live j b' y' hj).1
    rw [hat _ hi1] at ho
    rw [hat _ hj1] at hn
    refine hs.inj i j b' y y' hi hj ?_ ?_
    · by_cases e : i = id
      · rw [e]; exact hown
      · rw [if_neg e] at ho; exact ho
    · by_cases e : j = id
      · rw [e]; exact hne
      · rw [if_neg e] at hn; exact hn
  · intro b' hb' ho
    exact hother b' fun e => ho ⟨id, z, e ▸ hr, hown⟩
  · rintro b' ⟨i, y, hi, ho⟩
    rw [hat _ (hs.live i _ _ hi).1] at ho
    refine .inl ⟨i, y, hi, ?_⟩
    by_cases e : i = id
    · rw [e]; exact hown
    · rw [if_neg e] at ho; exact ho
  · rintro b' ⟨i, y, hi, ho⟩
    rw [hat _ (hs.live i _ _ hi).1] at ho
    refine .inl ⟨i, y, hi, ?_⟩
    by_cases e : i = id
    · rw [e]; exact hne
    · rw [if_neg e] at ho; exact ho

/-- an object's block changes, and the object goes by a new number from now on -/
theorem Sim.rename {ρ : Rho} {h : Hp} {w w' : World} (hs : Sim ρ h w) {id b z id' : Nat} (hr : ρ id = some (b, z)) (hown : (h.at id).own = true) (hid' : id' < 262144) (hn : h.next ≤ id') (hf : ρ id' = none) (o : Obj)
    (hsize : w'.heap.size = w.heap.size) (hother : ∀ b', b' ≠ b → w'.heap[b']? = w.heap[b']?) (ht : w'.tape = w.tape) (hos : w'.os = w.os) (hout : w'.output = w.output) (n : Nat) (hn' : h.next ≤ n)
    (hor : OR (ρ.set id' (b, z)) w' b z o) : Ext ρ h w (ρ.set id' (b, z)) ⟨n, ((h.put id .none).put id' o).t⟩ w' := by
  have hid := (hs.live id b z hr).1
  have hb := (hs.live id b z hr).2.1
  have hne : id ≠ id' := fun e => by rw [e, hf] at hr; cases hr
  have hne0 : h.at id ≠ .none := fun e => by rw [e] at hown; cases hown
  have hle : ρ.le (ρ.set id' (b, z)) := Rho.le_set hf _
  have hat : ∀ i, i < 262144 → (Hp.mk n ((h.put id .none).put id' o).t).at i = if i = id' then o else if i = id then .none else h.at i := fun i hi => by
    rw [← Hp.at_put h i id .none hi hid]; exact Hp.at_put (h.put id .none) i id' o hi hid'
  refine ⟨hle, ⟨?_, ?_⟩, by omega, ?_, ?_, ?_, hn', fun i hi hlt h0 => (by rw [hat i hi, if_neg (by omega), if_neg (fun e => by rw [e, hr] at h0; cases h0)]), fun i b' y h0 h1 => ?_, ht, hos, hout⟩
  · intro i b' y hi
    by_cases e : i = id'
    · subst e
      rw [Rho.set_self] at hi; cases hi
      rw [hat _ hid', if_pos rfl]
      exact ⟨hid', by omega, hor⟩
    · rw [Rho.set_ne _ e] at hi
      obtain ⟨h1, h2, h3⟩ := hs.live i b' y hi
      refine ⟨h1, by omega, ?_⟩
      rw [hat _ h1, if_neg e]
      by_cases e2 : i = id
      · rw [if_pos e2]; trivial
      · rw [if_neg e2]
        by_cases eb : b' = b
        · subst eb
          have : h.at i = .none := Classical.byContradiction fun hn => e2 (hs.inj id i b' z y hr hi hown hn).symm
          rw [this]; trivial
        · exact OR.mono hle (hother b' eb) h3
  · intro i j b' y y' hi hj ho hn
    have key : ∀ k x, (ρ.set id' (b, z)) k = some (b, x) → (Hp.mk n ((h.put id .none).put id' o).t).at k ≠ .none → k = id' := by
      intro k x hk hkn
      by_cases e : k = id'
      · exact e
      · exfalso
        rw [Rho.set_ne _ e] at hk
        rw [hat _ (hs.live k _ _ hk).1, if_neg e] at hkn
        by_cases e2 : k = id
        · rw [if_pos e2] at hkn; exact hkn rfl
        · rw [if_neg e2] at hkn; exact e2 (hs.inj id k b z x hr hk hown hkn).symm
    have hno : (Hp.mk n ((h.put id .none).put id' o).t).at i ≠ .none := fun e => by rw [e] at ho; cases ho
    by_cases eb : b' = b
    · subst eb
      rw [key i y hi hno, key j y' hj hn]
    · by_cases ei : i = id'
      · subst ei; rw [Rho.set_self] at hi; cases hi; exact absurd rfl eb
      · by_cases ej : j = id'
        · subst ej; rw [Rho.set_self] at hj; cases hj; exact absurd rfl eb
        · rw [Rho.set_ne _ ei] at hi
          rw [Rho.set_ne _ ej] at hj
          rw [hat _ (hs.live i _ _ hi).1, if_neg ei] at ho
          rw [hat _ (hs.live j _ _ hj).1, if_neg ej] at hn
          by_cases e1 : i = id
          · rw [if_pos e1] at ho; cases ho
          · by_cases e2 : j = id
            · rw [if_pos e2] at hn; exact absurd rfl hn
            · rw [if_neg e1] at ho; rw [if_neg e2] at hn
              exact hs.inj i j b' y y' hi hj ho hn
  · intro b' hb' ho
    exact hother b' fun e => ho ⟨id, z, e ▸ hr, hown⟩
  · rintro b' ⟨i, y, hi, ho⟩
    by_cases e : i = id'
    · subst e; rw [Rho.set_self] at hi; cases hi; exact .inl ⟨id, _, hr, hown⟩
    · rw [Rho.set_ne _ e] at hi
      rw [hat _ (hs.live i _ _ hi).1, if_neg e] at ho
      by_cases e2 : i = id
      · rw [if_pos e2] at ho; cases ho
      · rw [if_neg e2] at ho; exact .inl ⟨i, y, hi, ho⟩
  · rintro b' ⟨i, y, hi, ho⟩
    by_cases e : i = id'
    · subst e; rw [Rho.set_self] at hi; cases hi; exact .inl ⟨id, _, hr, hne0⟩
    · rw [Rho.set_ne _ e] at hi
      rw [hat _ (hs.live i _ _ hi).1, if_neg e] at ho
      by_cases e2 : i = id
      · rw [if_pos e2] at ho; exact absurd rfl ho
      · rw [if_neg e2] at ho; exact .inl ⟨i, y, hi, ho⟩
  · by_cases e : i = id'
    · subst e; rw [Rho.set_self] at h1; cases h1; exact ⟨hn, .inr ⟨id, _, hr, hne0⟩⟩
    · rw [Rho.set_ne _ e, h0] at h1; cases h1
end Go.Eng
