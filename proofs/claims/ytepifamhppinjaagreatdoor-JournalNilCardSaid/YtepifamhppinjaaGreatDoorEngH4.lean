import Derived.Test.YtepifamhppinjaaGreatDoorEngH3
/- The engine: copy. -/
namespace Go.Eng
variable {P : Program}

theorem srcV_take {ρ : Rho} {h : Hp} {w : World} (hs : Sim ρ h w) {es : Nat} {x : V} {n : Nat} {l : List V} (hc : srcV es x h = some (n, l)) {x' : Value} (hx : VR ρ x x') (m : Nat) (hm : m ≤ n) :
    ∃ new : Array Value, VRs ρ (l.take (m * es)) new.toList ∧ (Builtin.firstCells es m x').run P w = .ok new w := by
  unfold srcV at hc
  split at hc
  · cases hc
    simp only [VR] at hx; subst hx
    exact ⟨#[], by simp [VRs], rfl⟩
  · rename_i len code
    obtain ⟨h1, h2⟩ := br_none hc
    cases h2
    simp only [beq_eq', decide_eq_true_eq] at h1
    subst h1
    simp only [VR] at hx
    obtain ⟨s, rfl, hsr⟩ := hx
    have hb := (bytesV_VRs (ρ := ρ) hsr).take m
    refine ⟨_, ?_, rfl⟩
    rw [Nat.mul_one]
    have : (s.extract 0 m).data.toList = s.data.toList.take m := by
      rw [ByteArray.data_extract]; simp
    simp only [Array.toList_map, this] at hb ⊢
    rw [List.map_take]; exact hb
  · rename_i id off len cap es' ex
    obtain ⟨h1, h2⟩ := br_none hc
    simp only [beq_eq', decide_eq_true_eq] at h1
    subst h1
    obtain ⟨l', hl, g⟩ := ob_some h2
    cases g
    simp only [VR] at hx
    obtain ⟨b, z, cap', rfl, hr, _⟩ := hx
    obtain ⟨cs, k1, k2, k3, k4⟩ := cells_sound hs hl hr
    have hle : m * es ≤ cs.length := by rw [k1]; exact Nat.mul_le_mul_right es hm
    refine ⟨(cs.take (m * es)).toArray, by simpa using k4.take (m * es), ?_⟩
    have k3' : w.rangeAt b off (cs.take (m * es)) := by
      intro j v hv
      rw [List.getElem?_take] at hv
      split at hv
      · exact k3 j v hv
      · cases hv
    have hld := rangeAt_load (P := P) k3'
    rw [List.length_take, Nat.min_eq_left hle] at hld
    simpa [Builtin.firstCells] using hld
  · cases hc

theorem copyV_sound {ρ : Rho} {h : Hp} {w : World} (hs : Sim ρ h w) {ts : Array TypeId} {t e es : Nat} (ht : ts[0]? = some t) (hu : P.underlying t = some (.slice e)) (hz : szOf P e = some es) {d x : V} {d' x' : Value} (hd : VR ρ d d') (hx : VR ρ x x')
    {o : O} (hc : copyV es d x h = o) (ho : o ≠ .bad) (ty : TypeId) :
    ∃ v h', o = .val v h' ∧ h'.next = h.next ∧ ∃ v' w', (Builtin.copy_ ts ty #[d', x']).run P w = .ok v' w' ∧ Ext ρ h w ρ h' w' ∧ VR ρ v v' := by
  unfold copyV at hc
  obtain ⟨⟨n, l⟩, hsrc, hc⟩ := oo_val hc ho
  obtain ⟨hn, hll, _⟩ := srcV_sound (P := P) hs hsrc hx
  have h0 : (#[d', x'] : Array Value)[0]? = some d' := rfl
  have h1 : (#[d', x'] : Array Value)[1]? = some x' := rfl
  have hsz := fun w => run_szOf hz w
  split at hc
  · simp only [VR] at hd
    obtain ⟨new, g1, g2⟩ := srcV_take (P := P) hs hsrc hx 0 (Nat.zero_le _)
    refine ⟨_, _, hc.symm, rfl, _, w, ?_, Ext.refl hs, by simp only [VR]; rfl⟩
    subst hd
    have hmin : Nat.min n 0 = 0 := Nat.min_zero n
    simp [Builtin.copy_, ht, Sem.run_bind, run_underlying hu, Result.andThen_ok, hn, hsz, g2, goInt]
  · rename_i id off len cap es' ex _
    obtain ⟨he, hcB⟩ := br_bad hc ho
    clear hc
    simp only [beq_eq', decide_eq_true_eq] at he
    subst he
    simp only [num_eq] at hcB
    obtain ⟨h', hst, hc⟩ := oo_val hcB ho
    simp only [VR] at hd
    obtain ⟨b, z, cap', rfl, hr, _⟩ := hd
    have hmn : br (Nat.ble n len) n len = min n len := by
      simp only [ble_eq']
      by_cases hnl : n ≤ len
      · simp only [hnl, decide_true, br_true]; omega
      · simp only [hnl, decide_false, br_false]; omega
    have hst : h.store id off (l.take (min n len * es)) = some h' := by rw [← hmn]; exact hst
    have hc : O.val (.int .i64 (.ofNat (min n len))) h' = o := by rw [← hmn]; exact hc
    obtain ⟨new, g1, g2⟩ := srcV_take (P := P) hs hsrc hx (min n len) (Nat.min_le_left _ _)
    obtain ⟨w', k1, _, k3, k4⟩ := store_sound (P := P) hs hst hr g1
    refine ⟨_, _, hc.symm, k4, _, w', ?_, k3, by simp only [VR]; rfl⟩
    have hmin : Nat.min n len = min n len := rfl
    simp [Builtin.copy_, ht, Sem.run_bind, run_underlying hu, Result.andThen_ok, hn, hsz, hmin, g2, goInt, k1]
  · exact absurd hc.symm ho
end Go.Eng
