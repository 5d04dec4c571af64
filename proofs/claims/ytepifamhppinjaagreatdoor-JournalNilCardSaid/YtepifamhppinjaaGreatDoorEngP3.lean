import Derived.Test.YtepifamhppinjaaGreatDoorEngP2
/- The engine: what only reads is Go's (third part): memory. -/
namespace Go.Eng
variable {P : Program}

/-- the row that an object stands for -/
theorem Sim.row {ρ : Rho} {h : Hp} {w : World} (hs : Sim ρ h w) {id b z : Nat} (hr : ρ id = some (b, z)) {n : Nat} {a : AT} (ho : h.at id = .arr n a ∨ h.at id = .ro n a) :
    ∃ c e fz, w.heap[b]? = some (.cells c e fz) ∧ c.size = z ∧ Row ρ n a c := by
  have h3 := (hs.live id b z hr).2.2
  rcases ho with ho | ho
  · rw [ho] at h3
    obtain ⟨c, e, lo, hi, h1, h2, _, h4⟩ := h3
    exact ⟨c, e, _, h1, h2, h4⟩
  · rw [ho] at h3
    exact h3
theorem cell_of_cells {w : World} {b : Nat} {c : Array Value} {e : TypeId} {fz : Nat × Nat} (h : w.heap[b]? = some (.cells c e fz)) (i : Nat) : w.cell? ⟨b, i, none⟩ = c[i]? := by
  obtain ⟨lo, hi⟩ := fz
  simp [World.cell?, h]
theorem Row.range {ρ : Rho} {n : Nat} {a : AT} {c : Array Value} (hr : Row ρ n a c) {w : World} {b : Nat} {e : TypeId} {fz : Nat × Nat} (h : w.heap[b]? = some (.cells c e fz)) {off k : Nat} (hk : off + k ≤ n) :
    ∃ cs : List Value, cs.length = k ∧ w.rangeAt b off cs ∧ VRs ρ (a.cells k off) cs := by
  have hn := hr.1
  refine ⟨(List.range k).map fun j => c.getD (off + j) undef, by simp, ?_, ?_⟩
  · intro j v hv
    have hj : j < k := by
      have := List.getElem?_eq_some_iff.1 hv
      obtain ⟨h1, _⟩ := this
      simpa using h1
    rw [cell_of_cells h]
    have : c.getD (off + j) undef = v := by simpa [hj] using hv
    have hl : off + j < c.size := by omega
    rw [← this]
    simp [hl]
  · refine VRs.mk (by simp) fun i hi => ?_
    simp only [AT.length_cells] at hi
    rw [AT.getElem?_cells _ _ _ _ hi]
    have := hr.2.2 (off + i) (by omega)
    simpa [hi] using this

theorem cells_sound {ρ : Rho} {h : Hp} {w : World} (hs : Sim ρ h w) {id off n b z : Nat} {l : List V} (hc : h.cells id off n = some l) (hr : ρ id = some (b, z)) :
    ∃ cs : List Value, cs.length = n ∧ l.length = n ∧ w.rangeAt b off cs ∧ VRs ρ l cs := by
  unfold Hp.cells at hc
  cases ho : h.at id with
  | none => rw [ho] at hc; cases hc
  | map _ _ => rw [ho] at hc; cases hc
  | siter _ _ _ => rw [ho] at hc; cases hc
  | arr len a =>
    rw [ho] at hc
    obtain ⟨h1, h2⟩ := br_none hc
    cases h2
    simp only [ble_eq', decide_eq_true_eq] at h1
    obtain ⟨c, e, fz, g1, g2, g3⟩ := hs.row hr (.inl ho)
    obtain ⟨cs, k1, k2, k3⟩ := g3.range g1 h1
    exact ⟨cs, k1, by simp, k2, k3⟩
  | ro len a =>
    rw [ho] at hc
    obtain ⟨h1, h2⟩ := br_none hc
    cases h2
    simp only [ble_eq', decide_eq_true_eq] at h1
    obtain ⟨c, e, fz, g1, g2, g3⟩ := hs.row hr (.inr ho)
    obtain ⟨cs, k1, k2, k3⟩ := g3.range g1 h1
    exact ⟨cs, k1, by simp, k2, k3⟩
theorem cell_sound {ρ : Rho} {h : Hp} {w : World} (hs : Sim ρ h w) {id off b z : Nat} {v : V} (hc : h.cell id off = some v) (hr : ρ id = some (b, z)) :
    ∃ x, w.cell? ⟨b, off, none⟩ = some x ∧ VR ρ v x := by
  have key : ∀ n a, (h.at id = .arr n a ∨ h.at id = .ro n a) → off < n → ∃ x, w.cell? ⟨b, off, none⟩ = some x ∧ VR ρ (a.get off) x := by
    intro n a ho hn
    obtain ⟨c, e, fz, g1, g2, g3⟩ := hs.row hr ho
    have hl : off < c.size := Nat.lt_of_lt_of_le hn g3.1
    refine ⟨c[off], by rw [cell_of_cells g1]; simp [hl], ?_⟩
    have := g3.2.2 off hn
    simpa [hl] using this
  unfold Hp.cell at hc
  cases ho : h.at id with
  | none => rw [ho] at hc; cases hc
  | map _ _ => rw [ho] at hc; cases hc
  | siter _ _ _ => rw [ho] at hc; cases hc
  | arr len a =>
    rw [ho] at hc
    obtain ⟨h1, h2⟩ := br_none hc
    cases h2
    simp only [lt_eq, decide_eq_true_eq] at h1
    exact key len a (.inl ho) h1
  | ro len a =>
    rw [ho] at hc
    obtain ⟨h1, h2⟩ := br_none hc
    cases h2
    simp only [lt_eq, decide_eq_true_eq] at h1
    exact key len a (.inr ho) h1

theorem loadV_sound {ρ : Rho} {h : Hp} {w : World} (hs : Sim ρ h w) {t : Nat} {x v : V} {x' : Value} (hl : loadV P t h x = some v) (hx : VR ρ x x') :
    ∃ v', (Instr.loadAt t x').run P w = .ok v' w ∧ VR ρ v v' := by
  unfold loadV at hl
  split at hl
  · obtain ⟨b, hb, g⟩ := ob_some hl
    clear hl
    obtain ⟨d, hd, hrow, hagg⟩ := isAggT_eq hb
    simp only [VR] at hx
    obtain ⟨blk, z, rfl, hr⟩ := hx
    cases b with
    | true =>
      obtain ⟨n, hn, g2⟩ := ob_some g
      obtain ⟨l, hl, g3⟩ := ob_some g2
      cases g3
      obtain ⟨cs, k1, k2, k3, k4⟩ := cells_sound hs hl hr
      obtain ⟨i, hi, hsz, _⟩ := szOf_eq hn
      refine ⟨.agg cs.toArray, run_loadAt_mid w blk _ t cs d k3 hd hrow (by rw [hi, k1]; simp [hsz]), ?_⟩
      simp only [VR]
      exact ⟨cs.toArray, rfl, by simpa using k4⟩
    | false =>
      obtain ⟨y, hy, hvy⟩ := cell_sound hs g hr
      refine ⟨y, ?_, hvy⟩
      simp [Instr.loadAt, Instr.sureAddr, loadVar, hagg, hy]
  · cases hl

theorem asN_int {v : V} {n : Nat} (h : asN v = some n) {ρ : Rho} {x : Value} (hx : VR ρ v x) : ∃ k, x = .int k n := by
  unfold asN at h
  split at h
  · rename_i k m
    simp only [VR] at hx
    cases m with
    | ofNat m => cases h; exact ⟨k, hx⟩
    | negSucc m => cases h
  · cases h
theorem run_asIntOf (k : IntKind) (n : Int) (w : World) : (asIntOf (.int k n)).run P w = .ok (k, n) w := rfl

theorem add_mid (b o j : Nat) : (⟨b, o, none⟩ : Addr).add j = ⟨b, o + j, none⟩ := Addr.add_mid b o j
theorem elemOf_eq {t e : Nat} (h : elemOf P t = some e) : P.underlying t = some (.slice e) := by
  obtain ⟨d, hd, g⟩ := ob_some h
  cases d <;> first | (cases g; done) | skip
  cases g; exact hd

theorem indexAddrV_sound {t : Nat} {x ix v : V} (h : indexAddrV P t x ix = some v) {ρ : Rho} {x' i' : Value} (hx : VR ρ x x') (hi : VR ρ ix i') (w : World) :
    ∃ v', (Instr.indexAt t x' i').run P w = .ok v' w ∧ VR ρ v v' := by
  obtain ⟨i, hn, g⟩ := ob_some h
  clear h
  obtain ⟨k, rfl⟩ := asN_int hn hi
  split at g
  · obtain ⟨e, he, g2⟩ := ob_some g
    obtain ⟨sz, hsz, g3⟩ := ob_some g2
    obtain ⟨h1, g4⟩ := br_none g3
    simp only [beq_eq', lt_eq, Bool.and_eq_true, decide_eq_true_eq] at h1
    obtain ⟨rfl, hlt⟩ := h1
    simp only [num_eq, Option.some.injEq] at g4
    subst g4
    simp only [VR] at hx
    obtain ⟨b, z, cap', rfl, hr, _⟩ := hx
    refine ⟨.pointer (some ⟨b, _, none⟩), ?_, by simp only [VR]; exact ⟨b, z, rfl, hr⟩⟩
    have hpos : (0 : Int) ≤ (i : Int) ∧ (i : Int) < ((_ : Nat) : Int) := ⟨by omega, by exact_mod_cast hlt⟩
    simp [Instr.indexAt, run_asIntOf, run_underlying (elemOf_eq he), run_szOf hsz, hlt, add_mid]
  · obtain ⟨d, hd, g2⟩ := ob_some g
    split at g2
    · obtain ⟨sz, hsz, g3⟩ := ob_some g2
      obtain ⟨h1, g4⟩ := br_none g3
      simp only [lt_eq, decide_eq_true_eq] at h1
      simp only [num_eq, Option.some.injEq] at g4
      subst g4
      simp only [VR] at hx
      obtain ⟨b, z, rfl, hr⟩ := hx
      refine ⟨.pointer (some ⟨b, _, none⟩), ?_, by simp only [VR]; exact ⟨b, z, rfl, hr⟩⟩
      simp [Instr.indexAt, Instr.sureAddr, run_asIntOf, run_und hd, run_szOf hsz, h1, add_mid]
    · cases g2
  · cases g

theorem partV_sound {t off : Nat} {l : List V} {v : V} (h : partV P t off l = some v) {ρ : Rho} {cs : Array Value} (hl : VRs ρ l cs.toList) (w : World) :
    ∃ v', (part t cs off).run P w = .ok v' w ∧ VR ρ v v' := by
  obtain ⟨b, hb, g⟩ := ob_some h
  obtain ⟨d, hd, hrow, hagg⟩ := isAggT_eq hb
  cases b with
  | true =>
    obtain ⟨n, hn, g2⟩ := ob_some g
    obtain ⟨h1, g3⟩ := br_none g2
    cases g3
    refine ⟨.agg (cs.extract off (off + n)), by simp [part, hagg, run_szOf hn], ?_⟩
    simp only [VR]
    refine ⟨_, rfl, ?_⟩
    have := (hl.drop off).take n
    rw [Array.toList_extract]
    simpa [List.extract_eq_take_drop] using this
  | false =>
    simp only [br_false, nth_eq] at g
    obtain ⟨x, hx, hv⟩ := hl.get g
    refine ⟨x, ?_, hv⟩
    have : cs[off]? = some x := by simpa using hx
    simp [part, hagg, this]

theorem fieldOf_eq {t i : Nat} {f : Field} (h : fieldOf P t i = some f) : ∃ fs, P.underlying t = some (.struct fs) ∧ fs[i]? = some f := by
  obtain ⟨d, hd, g⟩ := ob_some h
  cases d <;> first | (cases g; done) | skip
  simp only [nth_eq] at g
  exact ⟨_, hd, by simpa using g⟩
theorem rField_sound {n : Sz} {fr : Fr} {a : Act} {ρ : Rho} (hf : FR ρ n fr a) {t i : Nat} {x : Operand} {v : V} (h : rField P n fr t x i = some v) (w : World) :
    ∃ v', (Instr.field t (a.eval x) i).run P w = .ok v' w ∧ VR ρ v v' := by
  obtain ⟨f, hfi, g⟩ := ob_some h
  obtain ⟨fs, hd, hi⟩ := fieldOf_eq hfi
  have hx := ev_VR hf x
  split at g
  · rename_i l hl
    rw [hl] at hx
    simp only [VR] at hx
    obtain ⟨cs, hcs, hv⟩ := hx
    obtain ⟨v', h1, h2⟩ := partV_sound g hv w
    exact ⟨v', by simp [Instr.field, run_underlying hd, hi, hcs, asAgg, h1], h2⟩
  · cases g
theorem rFieldAddr_sound {n : Sz} {fr : Fr} {a : Act} {ρ : Rho} (hf : FR ρ n fr a) {t i : Nat} {x : Operand} {v : V} (h : rFieldAddr P n fr t x i = some v) (w : World) :
    ∃ v', (Instr.fieldAt t (a.eval x) i).run P w = .ok v' w ∧ VR ρ v v' := by
  obtain ⟨f, hfi, g⟩ := ob_some h
  obtain ⟨fs, hd, hi⟩ := fieldOf_eq hfi
  have hx := ev_VR hf x
  obtain ⟨z, hz, g2⟩ := ob_some g
  by_cases h0 : z = 0
  · subst h0; cases g2
  · rw [show Nat.beq z 0 = false by simp [h0]] at g2
    simp only [br_false] at g2
    split at g2
    · rename_i id off he
      rw [he] at hx
      simp only [VR] at hx
      obtain ⟨b, y, hxe, hr⟩ := hx
      simp only [num_eq, Option.some.injEq] at g2
      subst g2
      refine ⟨.pointer (some ⟨b, off + f.offset, none⟩), ?_, by simp only [VR]; exact ⟨b, y, rfl, hr⟩⟩
      simp [Instr.fieldAt, run_underlying hd, hi, hxe, Instr.sureAddr, fieldPlace, run_szOf hz, h0, add_mid]
    · cases g2
end Go.Eng
