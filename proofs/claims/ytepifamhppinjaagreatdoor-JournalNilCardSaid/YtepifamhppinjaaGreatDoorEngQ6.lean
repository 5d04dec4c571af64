import Derived.Test.YtepifamhppinjaaGreatDoorEngQ5
/- The engine: objects that a drawn region makes ahead of their turn. -/
namespace Go.Eng

/-- an object that is made, and whose turn has not come -/
def PendOk (ρ : Rho) (H : Hp) (w w0 : World) (id : Nat) (obj : Obj) : Prop :=
  ∃ b z, ρ id = some (b, z) ∧ w0.heap.size ≤ b ∧ b < w.heap.size ∧ (∀ i z', ρ i = some (b, z') → i = id) ∧ H.at id = .none ∧ OR ρ w b z obj

theorem Ext.adopt {ρ0 ρ : Rho} {h0 H : Hp} {w0 w : World} (x : Ext ρ0 h0 w0 ρ H w) {id : Nat} {obj : Obj} (hid : id < 262144) (hn : h0.next ≤ id) (p : PendOk ρ H w w0 id obj) : Ext ρ0 h0 w0 ρ (H.put id obj) w := by
  obtain ⟨b, z, hr, hb0, hb, hu, hnone, hor⟩ := p
  have hat : ∀ i, i < 262144 → (H.put id obj).at i = if i = id then obj else H.at i := fun i hi => Hp.at_put H i id obj hi hid
  refine ⟨x.le, ⟨?_, ?_⟩, x.size, x.keep, ?_, ?_, x.nx, ?_, x.new, x.tape, x.os, x.output⟩
  · intro i b' y hi
    obtain ⟨h1, h2, h3⟩ := x.sim.live i b' y hi
    refine ⟨h1, h2, ?_⟩
    rw [hat _ h1]
    by_cases e : i = id
    · subst e; rw [hr] at hi; cases hi; rw [if_pos rfl]; exact hor
    · rw [if_neg e]; exact h3
  · intro i j b' y y' hi hj ho hne
    have hi1 := (x.sim.live i b' y hi).1
    have hj1 := (x.sim.live j b' y' hj).1
    rw [hat _ hi1] at ho
    rw [hat _ hj1] at hne
    by_cases ei : i = id
    · subst ei; rw [hr] at hi; cases hi; exact (hu j y' hj).symm
    · by_cases ej : j = id
      · subst ej; rw [hr] at hj; cases hj; exact hu i y hi
      · rw [if_neg ei] at ho; rw [if_neg ej] at hne
        exact x.sim.inj i j b' y y' hi hj ho hne
  · rintro b' ⟨i, y, hi, ho⟩
    rw [hat _ (x.sim.live i _ _ hi).1] at ho
    by_cases e : i = id
    · subst e; rw [hr] at hi; cases hi; exact .inr hb0
    · rw [if_neg e] at ho; exact x.own b' ⟨i, y, hi, ho⟩
  · rintro b' ⟨i, y, hi, ho⟩
    rw [hat _ (x.sim.live i _ _ hi).1] at ho
    by_cases e : i = id
    · subst e; rw [hr] at hi; cases hi; exact .inr hb0
    · rw [if_neg e] at ho; exact x.act b' ⟨i, y, hi, ho⟩
  · intro i hi hlt h0
    rw [hat _ hi, if_neg (by omega)]; exact x.idle i hi hlt h0

theorem Ext.reserve {ρ0 ρ : Rho} {h0 H : Hp} {w0 w : World} (x : Ext ρ0 h0 w0 ρ H w) {id : Nat} (hid : id < 262144) (hn : h0.next ≤ id) (hf : ρ id = none) (hnone : H.at id = .none) (c : Go.Obj) (z d : Nat) :
    Ext ρ0 h0 w0 (ρ.set id (w.heap.size, z)) H { w with heap := w.heap.push c, drawn := d } := by
  have hle : ρ.le (ρ.set id (w.heap.size, z)) := Rho.le_set hf _
  have hpush : ∀ b, b < w.heap.size → (w.heap.push c)[b]? = w.heap[b]? := fun b hb => by
    rw [Array.getElem?_push]; simp [Nat.ne_of_lt hb]
  have hsz := x.size
  refine ⟨Rho.le_trans x.le hle, ⟨?_, ?_⟩, by simp; omega, ?_, ?_, ?_, x.nx, x.idle, ?_, x.tape, x.os, x.output⟩
  · intro i b y hi
    by_cases e : i = id
    · subst e; rw [Rho.set_self] at hi; cases hi
      exact ⟨hid, by simp, by rw [hnone]; trivial⟩
    · rw [Rho.set_ne _ e] at hi
      obtain ⟨h1, h2, h3⟩ := x.sim.live i b y hi
      exact ⟨h1, by simp; omega, OR.mono hle (hpush b h2) h3⟩
  · intro i j b y y' hi hj ho hne
    have ei : i ≠ id := fun e => by rw [e, hnone] at ho; cases ho
    have ej : j ≠ id := fun e => by rw [e, hnone] at hne; exact hne rfl
    rw [Rho.set_ne _ ei] at hi
    rw [Rho.set_ne _ ej] at hj
    exact x.sim.inj i j b y y' hi hj ho hne
  · intro b hb ho
    show (w.heap.push c)[b]? = _
    rw [hpush b (by omega)]; exact x.keep b hb ho
  · rintro b ⟨i, y, hi, ho⟩
    have ei : i ≠ id := fun e => by rw [e, hnone] at ho; cases ho
    rw [Rho.set_ne _ ei] at hi
    exact x.own b ⟨i, y, hi, ho⟩
  · rintro b ⟨i, y, hi, ho⟩
    have ei : i ≠ id := fun e => by rw [e, hnone] at ho; exact ho rfl
    rw [Rho.set_ne _ ei] at hi
    exact x.act b ⟨i, y, hi, ho⟩
  · intro i b y h1 h2
    by_cases e : i = id
    · subst e; rw [Rho.set_self] at h2; cases h2; exact ⟨hn, .inl hsz⟩
    · rw [Rho.set_ne _ e] at h2; exact x.new i b y h1 h2

theorem PendOk.fresh {ρ : Rho} {H : Hp} {w w0 : World} (hs : Sim ρ H w) (h0 : w0.heap.size ≤ w.heap.size) {id : Nat} (hnone : H.at id = .none) {obj : Obj} {c : Go.Obj} {z : Nat} (d : Nat)
    (hor : OR (ρ.set id (w.heap.size, z)) { w with heap := w.heap.push c } w.heap.size z obj) : PendOk (ρ.set id (w.heap.size, z)) H { w with heap := w.heap.push c, drawn := d } w0 id obj := by
  refine ⟨w.heap.size, z, Rho.set_self _ _ _, h0, by simp, fun i z' hi => ?_, hnone, OR.mono (Rho.le_refl _) rfl hor⟩
  by_cases e : i = id
  · exact e
  · rw [Rho.set_ne _ e] at hi
    exact absurd (hs.live i _ _ hi).2.1 (Nat.lt_irrefl _)
theorem PendOk.other {ρ : Rho} {H : Hp} {w w0 : World} {id id' : Nat} {obj : Obj} (p : PendOk ρ H w w0 id' obj) (hf : ρ id = none) (c : Go.Obj) (z d : Nat) :
    PendOk (ρ.set id (w.heap.size, z)) H { w with heap := w.heap.push c, drawn := d } w0 id' obj := by
  obtain ⟨b, y, hr, hb0, hb, hu, hnone, hor⟩ := p
  have hle : ρ.le (ρ.set id (w.heap.size, z)) := Rho.le_set hf _
  refine ⟨b, y, hle _ _ hr, hb0, by simp; omega, fun i z' hi => ?_, hnone, OR.mono hle ?_ hor⟩
  · by_cases e : i = id
    · subst e; rw [Rho.set_self] at hi; cases hi; omega
    · rw [Rho.set_ne _ e] at hi; exact hu i z' hi
  · show (w.heap.push c)[b]? = _
    rw [Array.getElem?_push]; simp [Nat.ne_of_lt hb]
theorem PendOk.step {ρ ρ' : Rho} {H H' : Hp} {w w' w0 : World} {id : Nat} {obj : Obj} (p : PendOk ρ H w w0 id obj) (x : Ext ρ H w ρ' H' w') : PendOk ρ' H' w' w0 id obj := by
  obtain ⟨b, z, hr, hb0, hb, hu, hnone, hor⟩ := p
  have hdead : ¬ Live ρ H b := fun ⟨i, y, hi, ho⟩ => by rw [hu i y hi, hnone] at ho; exact ho rfl
  have hown : ¬ Owned ρ H b := fun ⟨i, y, hi, ho⟩ => by rw [hu i y hi, hnone] at ho; cases ho
  have hr' := x.le _ _ hr
  refine ⟨b, z, hr', hb0, Nat.lt_of_lt_of_le hb x.size, fun i z' hi => ?_, ?_, OR.mono x.le (x.keep b hb hown) hor⟩
  · cases h1 : ρ i with
    | none =>
      rcases (x.new i b z' h1 hi).2 with h2 | h2
      · omega
      · exact absurd h2 hdead
    | some q =>
      have := x.le i q h1
      rw [hi] at this; cases this
      exact hu i z' h1
  · refine Classical.byContradiction fun hne => ?_
    rcases x.act b ⟨id, z, hr', hne⟩ with h2 | h2
    · exact hdead h2
    · omega
theorem PendOk.put {ρ : Rho} {H : Hp} {w w0 : World} {id id' : Nat} {obj obj' : Obj} (p : PendOk ρ H w w0 id obj) (hid : id < 262144) (hid' : id' < 262144) (hne : id ≠ id') : PendOk ρ (H.put id' obj') w w0 id obj := by
  obtain ⟨b, z, hr, hb0, hb, hu, hnone, hor⟩ := p
  exact ⟨b, z, hr, hb0, hb, hu, by rw [Hp.at_put _ _ _ _ hid hid', if_neg hne]; exact hnone, hor⟩
end Go.Eng
