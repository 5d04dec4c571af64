import Derived.Test.YtepifamhppinjaaGreatDoorEngH
/- The engine: what does more is Go's: append and copy. -/
namespace Go.Eng
variable {P : Program}

theorem Sim.heapOnly {ρ : Rho} {h : Hp} {w w' : World} (hs : Sim ρ h w) (e : w'.heap = w.heap) : Sim ρ h w' :=
  ⟨fun id b z hr => let ⟨h1, h2, h3⟩ := hs.live id b z hr; ⟨h1, by rw [e]; exact h2, OR.mono (Rho.le_refl _) (by rw [e]) h3⟩, hs.inj⟩

theorem srcV_sound {ρ : Rho} {h : Hp} {w : World} (hs : Sim ρ h w) {es : Nat} {x : V} {n : Nat} {l : List V} (hc : srcV es x h = some (n, l)) {x' : Value} (hx : VR ρ x x') :
    (∀ w : World, (Builtin.lenOf x').run P w = .ok n w) ∧ l.length = n * es ∧ ∃ new : Array Value, VRs ρ l new.toList ∧ ∀ w', w'.heap = w.heap → (Builtin.firstCells es n x').run P w' = .ok new w' := by
  unfold srcV at hc
  split at hc
  · cases hc
    simp only [VR] at hx; subst hx
    exact ⟨fun _ => rfl, by simp, #[], by simp [VRs], fun _ _ => rfl⟩
  · rename_i len code
    obtain ⟨h1, h2⟩ := br_none hc
    cases h2
    simp only [beq_eq', decide_eq_true_eq] at h1
    subst h1
    simp only [VR] at hx
    obtain ⟨s, rfl, hsr⟩ := hx
    have hb := bytesV_VRs (ρ := ρ) hsr
    have hsz := hsr.size
    refine ⟨fun w => by simp [Builtin.lenOf, hsz], ?_, _, hb, fun w' _ => ?_⟩
    · have := hb.length
      rw [this]
      have : s.data.toList.length = n := hsr.1
      simpa using this
    · have : s.extract 0 n = s := by
        rw [← hsz]
        apply ByteArray.ext
        have e2 : s.size = s.data.size := by cases s; rfl
        rw [ByteArray.data_extract, e2]; simp
      simp [Builtin.firstCells, this]
  · rename_i id off len cap es' ex
    obtain ⟨h1, h2⟩ := br_none hc
    simp only [beq_eq', decide_eq_true_eq] at h1
    subst h1
    obtain ⟨l', hl, g⟩ := ob_some h2
    cases g
    simp only [VR] at hx
    obtain ⟨b, z, cap', rfl, hr, _⟩ := hx
    obtain ⟨cs, k1, k2, k3, k4⟩ := cells_sound hs hl hr
    refine ⟨fun w => rfl, k2, cs.toArray, by simpa using k4, fun w' hw => ?_⟩
    have k3' : w'.rangeAt b off cs := by
      intro j v hv
      have := k3 j v hv
      unfold World.cell? at this ⊢
      rw [hw]; exact this
    have hld := rangeAt_load (P := P) k3'
    rw [k1] at hld
    simpa [Builtin.firstCells] using hld
  · cases hc

theorem growBy_le (newLen : Nat) : ∀ (r c : Nat), Builtin.growBy newLen r c ≤ max c (newLen + (newLen + 768) / 4)
  | 0, c => by simp [Builtin.growBy]; omega
  | r + 1, c => by
    unfold Builtin.growBy
    split
    · omega
    · have := growBy_le newLen r (c + (c + 768) / 4)
      omega
theorem nextcap_le (need cap : Nat) (h : cap < need) : Builtin.nextslicecap need cap ≤ 2 * need + 768 := by
  unfold Builtin.nextslicecap
  split
  · omega
  · split
    · omega
    · have := growBy_le need 4 cap; omega

/-- an append's common beginning -/
structure AppendPre (P : Program) (ts : Array TypeId) (e es : Nat) (i : TypeInfo) : Prop where
  t1 : ∃ t, ts[0]? = some t ∧ P.underlying t = some (.slice e)
  t2 : ∃ t d, ts[1]? = some t ∧ P.underlying t = some d ∧ (∀ k, d ≠ .int k)
  inf : P.info? e = some i
  size : i.size = es

theorem append_inplace {ts : Array TypeId} {e es : Nat} {i : TypeInfo} (hp : AppendPre P ts e es i) {b off len cap n : Nat} {x : Value} (hn : ∀ w : World, (Builtin.lenOf x).run P w = .ok n w) {new : Array Value} {w w' : World}
    (hnew : (Builtin.firstCells es n x).run P w = .ok new w) (hst : (storeCells ⟨b, off + len * es, none⟩ new.toList).run P w = .ok () w') (hm : len + n ≤ cap) (ty : TypeId) :
    (Builtin.append_ ts ty #[.slice (some ⟨b, off, none⟩) len cap, x]).run P w = .ok (.slice (some ⟨b, off, none⟩) (len + n) cap) w' := by
  obtain ⟨t, ht, hu⟩ := hp.t1
  obtain ⟨t2, d2, ht2, hu2, hd2⟩ := hp.t2
  have hz : (match d2 with | .int _ => true | _ => false) = false := by cases d2 <;> first | rfl | exact absurd rfl (hd2 _)
  have h0 : (#[.slice (some ⟨b, off, none⟩) len cap, x] : Array Value)[0]? = some (.slice (some ⟨b, off, none⟩) len cap) := rfl
  have h1 : (#[.slice (some ⟨b, off, none⟩) len cap, x] : Array Value)[1]? = some x := rfl
  simp only [Builtin.append_, ht, h0, h1, ht2, Sem.run_bind, run_underlying hu, Result.andThen_ok, run_underlying hu2, Sem.run_pure, Bool.false_eq_true, if_false, Bool.not_false, if_true, hn, hm, hnew, add_mid, hst, sizeOf, typeInfo, run_program, hp.inf, hp.size]

theorem append_grow {ts : Array TypeId} {e es : Nat} {i : TypeInfo} (hp : AppendPre P ts e es i) {s x : Value} {base : Option Addr} {len cap n : Nat} (hse : s = .slice base len cap) (hn : ∀ w : World, (Builtin.lenOf x).run P w = .ok n w) {old new : Array Value} {w : World}
    (hold : ∀ w', w'.heap = w.heap → (Builtin.firstCells es len s).run P w' = .ok old w') (hnew : ∀ w', w'.heap = w.heap → (Builtin.firstCells es n x).run P w' = .ok new w')
    {z : Value} (hz : i.zero = some z) (_hzs : z.cells.size = es) (hm : ¬ len + n ≤ cap) (h20 : len + n ≤ 1048576) (hby : i.bytes ≤ 65536) (ty : TypeId) :
    ∃ newCap, len + n ≤ newCap ∧ (Builtin.append_ ts ty #[s, x]).run P w = .ok (.slice (some ⟨w.heap.size, 0, none⟩) (len + n) newCap)
      { w with heap := w.heap.push (.cells (old ++ new ++ Builtin.zeroCells z.cells (newCap - (len + n))) e), drawn := w.drawn + 1 } := by
  subst hse
  obtain ⟨t, ht, hu⟩ := hp.t1
  obtain ⟨t2, d2, ht2, hu2, hd2⟩ := hp.t2
  have hzz : (match d2 with | .int _ => true | _ => false) = false := by cases d2 <;> first | rfl | exact absurd rfl (hd2 _)
  have h0 : (#[.slice base len cap, x] : Array Value)[0]? = some (.slice base len cap) := rfl
  have h1 : (#[.slice base len cap, x] : Array Value)[1]? = some x := rfl
  refine ⟨len + n + (w.tape w.drawn (.appendCap (len + n) cap e)) % (2 ^ 63 - (len + n)), by omega, ?_⟩
  have hc1 : ¬ (((len + n : Nat) : Int) > IntKind.i64.max ∧ (False ∨ i.bytes = 0)) := by
    have : IntKind.i64.max = 9223372036854775807 := by decide
    omega
  have hc2 : ¬ (Builtin.nextslicecap (len + n) cap * i.bytes > 2 ^ 48) := by
    have h3 := nextcap_le (len + n) cap (by omega)
    have h4 : Builtin.nextslicecap (len + n) cap * i.bytes ≤ (2 * 1048576 + 768) * 65536 := Nat.mul_le_mul (by omega) hby
    rw [show (2 : Nat) ^ 48 = 281474976710656 from rfl]; omega
  have hc1' : ¬ (((len + n : Nat) : Int) > IntKind.i64.max ∧ ((false = true) ∨ i.bytes = 0)) := by simpa using hc1
  have ho := hold { w with drawn := w.drawn + 1 } rfl
  have hnn := hnew { w with drawn := w.drawn + 1 } rfl
  simp only [Builtin.append_, ht, h0, h1, ht2, Sem.run_bind, run_underlying hu, Result.andThen_ok, run_underlying hu2, Sem.run_pure, Bool.false_eq_true, if_false, Bool.not_false, if_true, hn, hm, sizeOf, typeInfo, run_program, hp.inf, hp.size,
    hc1, hc2, run_choose, Question.forced, Question.cut, run_askRoom, zeroValue, hz, newRow, run_newObj]
  simp only [ho, hnn, Result.andThen_ok]
end Go.Eng
