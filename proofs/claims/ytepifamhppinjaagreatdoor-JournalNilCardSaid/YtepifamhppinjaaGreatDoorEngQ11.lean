import Derived.Test.YtepifamhppinjaaGreatDoorEngQ10
/- The engine: a region that is run by its plan is Go's, in whatever order. -/
namespace Go.Eng

theorem emptyAt_eq {h : Hp} {base : Nat} : ∀ {n : Nat}, emptyAt h base n = true → ∀ i, i < n → h.at (base + i) = .none
  | 0, _, i, hi => absurd hi (Nat.not_lt_zero i)
  | n + 1, hh, i, hi => by
    have hh : br (@Obj.rec (fun _ => Bool) true (fun _ _ => false) (fun _ _ => false) (fun _ _ => false) (fun _ _ _ => false) (h.at (Nat.add base n))) (emptyAt h base n) false = true := hh
    cases ho : h.at (Nat.add base n) with
    | none =>
      rw [ho] at hh
      by_cases e : i = n
      · subst e; exact ho
      · exact emptyAt_eq (n := n) hh i (by omega)
    | arr _ _ => rw [ho] at hh; cases hh
    | ro _ _ => rw [ho] at hh; cases hh
    | map _ _ => rw [ho] at hh; cases hh
    | siter _ _ _ => rw [ho] at hh; cases hh
theorem planOf_sound {P : Program} {ops : Array Oper} {p : Plan} (h : planOf P ops = some p) : ∃ ws, UpOk ops p.us ops.size ∧ WrOk ops ws ops.size ∧
    (∀ i o, ops[i]? = some o → (∀ cs b, o.op ≠ .select cs b) ∧ lookOk p.us ws i (o.looksAt ops) = true) ∧ keepsGo P ops p.us p.order 0 0 0 = true := by
  obtain ⟨us, hus, h1⟩ := ob_some h
  obtain ⟨ws, hws, h2⟩ := ob_some h1
  obtain ⟨h3, h4⟩ := br_none h2
  cases h4
  simp only [Bool.and_eq_true, ble_eq', decide_eq_true_eq] at h3
  obtain ⟨hn, hl, hk⟩ := h3
  refine ⟨ws, upsGo_sound hn (l := ops.toList) (i := 0) (by simp) (Nat.zero_le _) ⟨fun i hi => absurd hi (Nat.not_lt_zero i), fun i hi => absurd hi (Nat.not_lt_zero i), fun i hi => absurd hi (Nat.not_lt_zero i)⟩ hus,
    wrGo_sound (l := ops.toList) (i := 0) (by simp) (Nat.zero_le _) ⟨fun i hi => absurd hi (Nat.not_lt_zero i)⟩ hws, fun i o ho => ?_, hk⟩
  have := looksOk_sound hl i o (by simpa using ho)
  rwa [Nat.zero_add] at this
theorem regionD_sound {E : Env} {G : Nat} {call : Call} {n : Sz} (hord : E.P.follows .mixedOrders = true) (hcall : CallOk E.P G call) (hG : n.g = G) (id : Nat) {ops : Array Oper} {p : Plan} (hp : planOf E.P ops = some p) :
    Sound E.P n (regionD E call n ops p) (.region id ops true) := by
  obtain ⟨ws, u1, u2, u3, u4⟩ := planOf_sound hp
  intro ρ fr h a w hs hfr hf hb
  obtain ⟨nx, t⟩ := h
  have e : regionD E call n ops p fr ⟨nx, t⟩ = br (and (lt (nx + ops.size) 262144) (emptyAt ⟨nx, t⟩ nx ops.size)) (runD E call n ops p.us nx p.order [] ⟨nx + ops.size, t⟩ fr ⟨nx + ops.size, t⟩) .bad := by
    unfold regionD
    simp only [num_eq]; rfl
  rw [e] at hb ⊢
  cases hc : and (lt (nx + ops.size) 262144) (emptyAt ⟨nx, t⟩ nx ops.size) with
  | false => rw [hc] at hb; exact absurd rfl hb
  | true =>
    rw [hc] at hb
    simp only [br_true] at hb ⊢
    simp only [Bool.and_eq_true, lt_eq, decide_eq_true_eq] at hc
    obtain ⟨T, frE, hE, k1, k2, k3⟩ := runD_chain E call n ops p.us nx p.order [] _ fr _ hb
    rw [k3]
    refine wp_region_any hord ?_
    have hx : Ext ρ ⟨nx, t⟩ w ρ ⟨nx + ops.size, t⟩ { w with drawn := w.drawn + 1 } :=
      ⟨Rho.le_refl _, ⟨fun i b z hr => (hs.drew _).live i b z hr, fun i j b y z => hs.inj i j b y z⟩, Nat.le_refl _, fun _ _ _ => rfl, fun _ h => .inl h, fun _ h => .inl h, Nat.le_add_right _ _, fun _ _ _ _ => rfl, fun _ _ _ h k => (by rw [h] at k; cases k), rfl, rfl, rfl⟩
    have hD : ∀ i, ¬ (Array.replicate ops.size false).getD i false = true := fun i hh => by
      rw [Array.getD_eq_getD_getElem?, Array.getElem?_replicate] at hh
      split at hh <;> cases hh
    refine region_main (base := nx) (ws := ws) ⟨hcall, hG, u1, u2, u3, hc.1⟩ ops.size _ (List.range ops.size) T 0 0 0 [] ⟨nx + ops.size, t⟩ fr ρ a _ (by simp) (by simp) List.nodup_range (fun i => ?_) ?_
    · simp only [List.mem_range]
      refine ⟨fun h => ⟨h, ?_⟩, fun h => h.1⟩
      rw [Array.getD_eq_getD_getElem?, Array.getElem?_replicate, if_pos h]; rfl
    · refine ⟨hx, Nat.le_refl _, fun i hi => hfr i ?_, Nat.le_refl _, k2, by rw [k1]; exact u4, fun s hs => (by rw [bit_zero] at hs; cases hs), fun i o _ hi => absurd hi (hD i), fun _ _ _ => hD _, hf.size, hf.small, hf.noDefers, hf.glob,
        fun s hs _ => hf.val s hs, fun y _ hy => absurd hy (hD _), fun y _ hy => absurd hy (hD _), fun y hy _ obj _ => ⟨hfr _ ?_, ?_⟩⟩
      · have hi : nx + ops.size ≤ i := hi
        show nx ≤ i; omega
      · show nx ≤ nx + y.j; omega
      · have hlt : y.j < ops.size := by
          have hm : y.j ∈ T.map Tr.j := List.mem_map.2 ⟨y, hy, rfl⟩
          rw [k1] at hm
          exact keeps_lt u4 _ hm
        exact emptyAt_eq hc.2 _ hlt
end Go.Eng
