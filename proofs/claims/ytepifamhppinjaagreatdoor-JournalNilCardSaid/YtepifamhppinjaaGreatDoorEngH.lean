import Derived.Test.YtepifamhppinjaaGreatDoorEngA
/- The engine: what does more is Go's: stores. -/
namespace Go.Eng
variable {P : Program}

theorem allOne_cons (v : V) (l : List V) : allOne (v :: l) = br v.one (allOne l) false := rfl
theorem one_cell {ρ : Rho} {v : V} {x : Value} (h : VR ρ v x) (ho : v.one = true) : x.oneCell' = true := by
  cases v <;> simp only [VR] at h <;> first
    | (cases ho; done)
    | (subst h; rfl)
    | (obtain ⟨_, rfl, _⟩ := h; rfl)
    | (obtain ⟨_, _, rfl, _⟩ := h; rfl)
    | (obtain ⟨_, _, _, rfl, _⟩ := h; rfl)
theorem allOne_cells {ρ : Rho} : ∀ {l : List V} {ls : List Value}, VRs ρ l ls → allOne l = true → ∀ x ∈ ls, x.oneCell' = true
  | [], _, h, _ => by simp only [VRs] at h; subst h; simp
  | v :: l, _, h, ho => by
    simp only [VRs] at h
    obtain ⟨x, xs, rfl, h1, h2⟩ := h
    rw [allOne_cons] at ho
    cases hv : v.one with
    | false => rw [hv] at ho; cases ho
    | true =>
      rw [hv] at ho
      intro y hy
      rcases List.mem_cons.1 hy with rfl | hy
      · exact one_cell h1 hv
      · exact allOne_cells h2 ho y hy

/-- the world with cells stored -/
theorem setCells_heap (b : Nat) {e : TypeId} {fz : Nat × Nat} : ∀ (ls : List Value) (o : Nat) (w : World) (c : Array Value), w.heap[b]? = some (.cells c e fz) →
    ∃ c' : Array Value, (w.setCells b o ls).heap[b]? = some (.cells c' e fz) ∧ c'.size = c.size ∧ (∀ i, c'[i]? = if o ≤ i ∧ i < o + ls.length ∧ i < c.size then ls[i - o]? else c[i]?) ∧
      (w.setCells b o ls).heap.size = w.heap.size ∧ (∀ b', b' ≠ b → (w.setCells b o ls).heap[b']? = w.heap[b']?) ∧ (w.setCells b o ls).tape = w.tape ∧ (w.setCells b o ls).os = w.os ∧ (w.setCells b o ls).output = w.output
  | [], o, w, c, h => ⟨c, h, rfl, fun i => by rw [if_neg (by simp; omega)], rfl, fun _ _ => rfl, rfl, rfl, rfl⟩
  | v :: ls, o, w, c, h => by
    have hb : (w.setCell ⟨b, o, none⟩ v).heap[b]? = some (.cells (c.setIfInBounds o v) e fz) := by
      simp [World.setCell, Array.getElem?_modify, h]
    obtain ⟨c', h1, h2, h3, h4, h5, h6, h7, h8⟩ := setCells_heap b ls (o + 1) (w.setCell ⟨b, o, none⟩ v) _ hb
    refine ⟨c', h1, by rw [h2]; simp, fun i => ?_, ?_, fun b' hb' => ?_, h6, h7, h8⟩
    · rw [h3 i]
      simp only [Array.size_setIfInBounds, List.length_cons]
      by_cases hi : o + 1 ≤ i ∧ i < o + 1 + ls.length ∧ i < c.size
      · rw [if_pos hi, if_pos (by omega), show i - o = (i - (o + 1)) + 1 by omega]; rfl
      · rw [if_neg hi, Array.getElem?_setIfInBounds]
        by_cases ho : o = i
        · subst ho
          by_cases hc : o < c.size
          · simp [hc]
          · simp [hc]
        · rw [if_neg ho, if_neg (fun hh => hi (by omega))]
    · show ((w.setCell ⟨b, o, none⟩ v).setCells b (o + 1) ls).heap.size = _
      rw [h4]; simp [World.setCell]
    · rw [World.setCells, h5 b' hb']
      have hb2 : ¬ b = b' := fun e => hb' e.symm
      simp [World.setCell, Array.getElem?_modify, hb2]

theorem store_sound {ρ : Rho} {h h' : Hp} {w : World} (hs : Sim ρ h w) {id off b z : Nat} {l : List V} (hc : h.store id off l = some h') (hr : ρ id = some (b, z)) {ls : List Value} (hl : VRs ρ l ls) :
    ∃ w', (storeCells ⟨b, off, none⟩ ls).run P w = .ok () w' ∧ w' = w.setCells b off ls ∧ Ext ρ h w ρ h' w' ∧ h'.next = h.next := by
  unfold Hp.store at hc
  cases ho : h.at id with
  | none => rw [ho] at hc; cases hc
  | map _ _ => rw [ho] at hc; cases hc
  | siter _ _ _ => rw [ho] at hc; cases hc
  | ro _ _ => rw [ho] at hc; cases hc
  | arr len a =>
    rw [ho] at hc
    obtain ⟨h1, h2⟩ := br_none hc
    cases h2
    simp only [ble_eq', lenL_eq, Bool.and_eq_true, decide_eq_true_eq] at h1
    obtain ⟨hb, hone⟩ := h1
    have hb : off + l.length ≤ len := hb
    have h3 := (hs.live id b z hr).2.2
    rw [ho] at h3
    obtain ⟨c, e, lo, hi, g1, g2, g3, g4⟩ := h3
    obtain ⟨r1, r2, r3⟩ := g4
    have hll := hl.length
    obtain ⟨c', k1, k2, k3, k4, k5, k6, k7, k8⟩ := setCells_heap b ls off w c g1
    refine ⟨_, ?_, rfl, ?_, rfl⟩
    · have := run_storeCells_cells (P := P) b off ls 0 w (fun j hj => by
          rw [Nat.add_zero, cell_of_cells g1]
          rw [Array.getElem?_eq_getElem (by omega)]; rfl) (fun j hj => by
          rw [Nat.add_zero]
          simp only [World.frozen?, g1]
          rcases g3 with g3 | g3
          · simp; omega
          · simp; omega) (allOne_cells hl hone)
      simpa using this
    · refine hs.change hr (by rw [ho]; rfl) _ k4 k5 k6 k7 k8 ?_
      refine ⟨c', e, lo, hi, k1, by omega, g3, by omega, by simpa using r2, fun i hi => ?_⟩
      rw [AT.get_puts _ _ _ _ (by omega) (by omega)]
      have hic : i < c.size := by omega
      have hg : c'.getD i undef = (c'[i]?).getD undef := by simp [Array.getD_eq_getD_getElem?]
      rw [hg, k3 i]
      by_cases hin : off ≤ i ∧ i < off + l.length
      · rw [if_pos hin, if_pos (by omega)]
        obtain ⟨x, hx, hv⟩ := hl.get (List.getElem?_eq_getElem (show i - off < l.length by omega))
        rw [List.getElem?_eq_getElem (show i - off < l.length by omega), hx]
        exact hv
      · rw [if_neg hin, if_neg (by omega)]
        have := r3 i hi
        simpa [Array.getD_eq_getD_getElem?] using this

theorem storeV_sound {ρ : Rho} {h h' : Hp} {w : World} (hs : Sim ρ h w) {t : Nat} {x v : V} (hc : storeV P t h x v = some h') {x' v' : Value} (hx : VR ρ x x') (hv : VR ρ v v') :
    ∃ w', (Instr.storeAt t x' v').run P w = .ok () w' ∧ Ext ρ h w ρ h' w' ∧ h'.next = h.next := by
  unfold storeV at hc
  split at hc
  · obtain ⟨n, hn, g⟩ := ob_some hc
    obtain ⟨h1, g2⟩ := br_none g
    simp only [beq_eq', lenL_eq, decide_eq_true_eq] at h1
    simp only [VR] at hx
    obtain ⟨b, z, rfl, hr⟩ := hx
    have hk : v.known = true := by
      unfold Hp.store at g2
      cases v <;> first | rfl | skip
      rename_i id off
      cases ho : h.at id with
      | arr len a =>
        rw [ho] at g2
        obtain ⟨q, _⟩ := br_none g2
        simp only [Bool.and_eq_true] at q
        cases q.2
      | none => rw [ho] at g2; cases g2
      | map _ _ => rw [ho] at g2; cases g2
      | siter _ _ _ => rw [ho] at g2; cases g2
      | ro _ _ => rw [ho] at g2; cases g2
    have hcv := cells_VR hv hk
    obtain ⟨w', k1, k2, k3, k4⟩ := store_sound (P := P) hs g2 hr hcv
    refine ⟨w', ?_, k3, k4⟩
    have hsz : v'.cells.size = n := by rw [← h1, hcv.length]; simp
    simp [Instr.storeAt, Instr.sureAddr, storeVar, run_szOf hn, hsz, k1]
  · cases hc
end Go.Eng
