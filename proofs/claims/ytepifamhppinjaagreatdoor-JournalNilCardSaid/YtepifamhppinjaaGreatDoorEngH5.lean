import Derived.Test.YtepifamhppinjaaGreatDoorEngC
/- The engine: map updates. -/
namespace Go.Eng
variable {P : Program}

theorem sameNow_bits {d : TypeDesc} {a b : Value} (h : Instr.sameNow d a b = some true) : Instr.sameBits 10000 b a = true := by
  unfold Instr.sameNow at h
  split at h
  · split at h
    · rename_i e; subst e; simp at h; subst h; simp [Instr.sameBits]
    · cases h
  · have h := Option.some.inj h
    rw [ba_beq] at h
    have e := eq_of_beq h
    simp only [Instr.sameBits]
    rw [ba_beq, e]; simp
  · have h := Option.some.inj h
    have e := eq_of_beq h
    subst e; simp [Instr.sameBits]
  · cases h

theorem setK_cons (k x : V) (clock : Nat) (e : V × V × Nat) (es : List (V × V × Nat)) :
    setK k x clock (e :: es) = ob (veq1 k e.1) fun b => br b (some (true, (k, x, e.2.2) :: es)) (ob (setK k x clock es) fun r => some (r.1, e :: r.2)) := rfl
theorem setK_sound {kt : Nat} {k x : V} (hk : keyOk P kt k = true) {d : TypeDesc} (hd : P.underlying kt = some d) {ρ : Rho} {k' x' : Value} (h1 : VR ρ k k') (h2 : VR ρ x x') (clock : Nat) :
    ∀ {es : List (V × V × Nat)} {es' : List MapEntry}, ERs ρ es es' → ∀ {b : Bool} {es2 : List (V × V × Nat)}, setK k x clock es = some (b, es2) → ∀ i,
      (b = false → Instr.findNow d k' es' i = some none ∧ ERs ρ es2 (es' ++ [{ key := k', val := x', born := clock }])) ∧
      (b = true → ∃ j v0 e0, Instr.findNow d k' es' i = some (some (i + j, v0)) ∧ es'[j]? = some e0 ∧ Instr.sameNow d k' e0.key = some true ∧ ERs ρ es2 (es'.set j { e0 with key := k', val := x' }))
  | [], _, h, b, es2, hs, i => by
    cases h; cases hs
    exact ⟨fun _ => ⟨rfl, ⟨_, _, rfl, h1, h2, rfl, rfl⟩⟩, fun h => (by cases h)⟩
  | e :: es, _, h, b, es2, hs, i => by
    obtain ⟨y, ys, rfl, g1, g2, g3, g4⟩ := h
    rw [setK_cons] at hs
    obtain ⟨c, hc, hs2⟩ := ob_some hs
    obtain ⟨d', hd', hsn⟩ := veq1_sound hc hk h1 g1
    rw [hd] at hd'; cases hd'
    cases c with
    | true =>
      cases hs2
      refine ⟨fun h => (by cases h), fun _ => ⟨0, y.val, y, by simp [Instr.findNow, hsn], rfl, hsn, ?_⟩⟩
      exact ⟨_, _, rfl, h1, h2, g3, g4⟩
    | false =>
      obtain ⟨r, hr, hs3⟩ := ob_some hs2
      cases hs3
      obtain ⟨k1, k2⟩ := setK_sound hk hd h1 h2 clock g4 (b := r.1) (es2 := r.2) hr (i + 1)
      refine ⟨fun hb => ?_, fun hb => ?_⟩
      · obtain ⟨q1, q2⟩ := k1 hb
        exact ⟨by simp [Instr.findNow, hsn, q1], ⟨_, _, rfl, g1, g2, g3, q2⟩⟩
      · obtain ⟨j, v0, e0, q1, q2, q3, q4⟩ := k2 hb
        exact ⟨j + 1, v0, e0, by simp [Instr.findNow, hsn, q1]; omega, by simpa using q2, q3, ⟨_, _, rfl, g1, g2, g3, q4⟩⟩

theorem run_setObj {w : World} {b : Nat} (c : Go.Obj) {es : Array MapEntry} {k : Nat} (h : w.heap[b]? = some (.map es k)) : (setObj b c).run P w = .ok () { w with heap := w.heap.setIfInBounds b c } := by
  simp [setObj, Sem.run, h]

theorem hUpdate_sound {E : Env} {n : Sz} {fr : Fr} {a : Act} {ρ : Rho} {h : Hp} {w : World} (hs : Sim ρ h w) (hf : FR ρ n fr a) {t : Nat} {m k x : Operand} {o : O} (hc : hUpdate E n fr h t m k x = o) (ho : o ≠ .bad) :
    ∃ h', o = .val V.undef h' ∧ h'.next = h.next ∧ ∃ w', (Instr.mapUpdate t (a.eval m) (a.eval k) (a.eval x)).run E.P w = .ok () w' ∧ Ext ρ h w ρ h' w' := by
  unfold hUpdate at hc
  obtain ⟨d, hd, hc⟩ := oo_val hc ho
  split at hc
  · rename_i kt et
    obtain ⟨hk, hcA⟩ := br_bad hc ho
    clear hc
    have hm := ev_VR hf m
    split at hcA
    · rename_i id hid
      rw [hid] at hm
      simp only [VR] at hm
      obtain ⟨b, z, hmv, hr⟩ := hm
      cases hoo : h.at id with
      | none => rw [hoo] at hcA; exact absurd hcA.symm ho
      | arr _ _ => rw [hoo] at hcA; exact absurd hcA.symm ho
      | ro _ _ => rw [hoo] at hcA; exact absurd hcA.symm ho
      | siter _ _ _ => rw [hoo] at hcA; exact absurd hcA.symm ho
      | map es c =>
        rw [hoo] at hcA
        obtain ⟨⟨found, es2⟩, hset, hcB⟩ := oo_val hcA ho
        obtain ⟨dk, hdk, _⟩ := keyOk_und hk
        obtain ⟨es', g1, g2, g3⟩ := run_getMap (P := E.P) hs hr hoo
        obtain ⟨k1, k2⟩ := setK_sound hk hdk (ev_VR hf k) (ev_VR hf x) c g2 hset 0
        have hown : (h.at id).own = true := by rw [hoo]; rfl
        have hbz := (hs.live id b z hr).2.1
        refine ⟨_, hcB.symm, rfl, ?_⟩
        have hck := fun w => run_checkKey hk false (a.eval k) w
        have change : ∀ es3 c3, ERs ρ es2 es3.toList → c3 = br found c (Nat.succ c) → Ext ρ h w ρ (h.put id (.map es2 (br found c (Nat.succ c)))) { w with heap := w.heap.setIfInBounds b (.map es3 c3) } := by
          intro es3 c3 he hc3
          refine hs.change hr hown _ (by simp) (fun b' hb' => ?_) rfl rfl rfl ?_
          · simp [Array.getElem?_setIfInBounds_ne (Ne.symm hb')]
          · exact ⟨es3, by simp [hbz, hc3], he⟩
        cases found with
        | false =>
          obtain ⟨q1, q2⟩ := k1 rfl
          refine ⟨_, ?_, change (es'.push { key := a.eval k, val := a.eval x, born := c }) (c + 1) (by simpa using q2) rfl⟩
          simp [Instr.mapUpdate, Sem.run_bind, run_und hd, hmv, g3, hck, Instr.findKey, run_und hdk, q1, run_setObj _ g1]
        | true =>
          obtain ⟨j, v0, e0, q1, q2, q3, q4⟩ := k2 rfl
          have hj : j < es'.size := by
            have := (List.getElem?_eq_some_iff.1 q2).1; simpa using this
          have hej : es'[j]? = some e0 := by simpa using q2
          have hmod : (es'.modify j fun e => { e with key := a.eval k, val := a.eval x }).toList = es'.toList.set j { e0 with key := a.eval k, val := a.eval x } := by
            apply List.ext_getElem?
            intro i
            rw [Array.toList_modify, List.getElem?_modify, List.getElem?_set]
            by_cases e : j = i
            · subst e
              have hgj : es'[j] = e0 := (Array.getElem?_eq_some_iff.1 hej).2
              simp [hj, hgj]
            · simp [e]
          refine ⟨_, ?_, change (es'.modify j fun e => { e with key := a.eval k, val := a.eval x }) c (by rw [hmod]; exact q4) rfl⟩
          have hst : (Instr.keyThatStays e0.key (a.eval k)).run E.P w = .ok (a.eval k) w := by
            simp [Instr.keyThatStays, sameNow_bits q3]
          simp [Instr.mapUpdate, Sem.run_bind, run_und hd, hmv, g3, hck, Instr.findKey, run_und hdk, q1, run_setObj _ g1, hej, hst]
    · exact absurd hcA.symm ho
  · exact absurd hc.symm ho
end Go.Eng
