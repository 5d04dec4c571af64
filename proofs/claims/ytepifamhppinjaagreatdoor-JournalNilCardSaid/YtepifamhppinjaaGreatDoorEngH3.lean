import Derived.Test.YtepifamhppinjaaGreatDoorEngH2
/- The engine: append and copy, whole. -/
namespace Go.Eng
variable {P : Program}

theorem Hp.new_val {h : Hp} {o : Obj} {k : Nat → Hp → O} (hn : h.new o k ≠ .bad) : h.next < 262144 ∧ h.new o k = k h.next ⟨h.next + 1, (h.put h.next o).t⟩ := by
  obtain ⟨n, t⟩ := h
  have e : (Hp.mk n t).new o k = br (lt n 262144) (k n ⟨Nat.succ n, set6 t n o⟩) .bad := by
    show num n (fun n => br (lt n 262144) (k n ⟨Nat.succ n, set6 t n o⟩) .bad) = _
    rw [num_eq]
  rw [e] at hn ⊢
  by_cases hl : n < 262144
  · refine ⟨hl, ?_⟩
    rw [lt_eq]; simp only [hl, decide_true, br_true]; rfl
  · exfalso; apply hn; rw [lt_eq]; simp only [hl, decide_false, br_false]

theorem br_bad {b : Bool} {o x : O} (h : br b o .bad = x) (hx : x ≠ .bad) : b = true ∧ o = x := by
  cases b with
  | true => exact ⟨rfl, h⟩
  | false => exact absurd h.symm hx
theorem oo_val {α : Type} {o : Option α} {f : α → O} {x : O} (h : oo o f = x) (hx : x ≠ .bad) : ∃ a, o = some a ∧ f a = x := by
  cases o with
  | none => exact absurd h.symm hx
  | some a => exact ⟨a, rfl, h⟩

theorem Fresh.of_next {ρ : Rho} {h h' : Hp} (hf : Fresh ρ h) (e : h'.next = h.next) : Fresh ρ h' := fun id hid => hf id (by omega)
theorem Fresh.set {ρ : Rho} {h : Hp} (hf : Fresh ρ h) (p : Nat × Nat) (t : T6 Obj) : Fresh (ρ.set h.next p) ⟨h.next + 1, t⟩ := fun id hid => by
  have hid : h.next + 1 ≤ id := hid
  rw [Rho.set_ne _ (by omega)]; exact hf id (by omega)
theorem Sim.remove {ρ : Rho} {h : Hp} {w : World} (hs : Sim ρ h w) {id b z : Nat} (hr : ρ id = some (b, z)) (hown : (h.at id).own = true) : Ext ρ h w ρ (h.put id .none) w :=
  hs.change hr hown .none rfl (fun _ _ => rfl) rfl rfl rfl trivial

theorem zeroCells_size (z : Array Value) (n : Nat) : (Builtin.zeroCells z n).size = n * z.size := by simp [Builtin.zeroCells]

theorem append_nil {ts : Array TypeId} {e es : Nat} {i : TypeInfo} (hp : AppendPre P ts e es i) {x : Value} (hn : ∀ w : World, (Builtin.lenOf x).run P w = .ok 0 w) {new : Array Value} {w : World}
    (hnew : (Builtin.firstCells es 0 x).run P w = .ok new w) (ty : TypeId) :
    (Builtin.append_ ts ty #[.slice none 0 0, x]).run P w = .ok (.slice none 0 0) w := by
  obtain ⟨t, ht, hu⟩ := hp.t1
  obtain ⟨t2, d2, ht2, hu2, hd2⟩ := hp.t2
  have hz : (match d2 with | .int _ => true | _ => false) = false := by cases d2 <;> first | rfl | exact absurd rfl (hd2 _)
  have h0 : (#[.slice none 0 0, x] : Array Value)[0]? = some (.slice none 0 0) := rfl
  have h1 : (#[.slice none 0 0, x] : Array Value)[1]? = some x := rfl
  simp [Builtin.append_, ht, ht2, Sem.run_bind, run_underlying hu, Result.andThen_ok, run_underlying hu2, Sem.run_pure, hn, hnew, sizeOf, typeInfo, run_program, hp.inf, hp.size]

/-- an append that takes a new block -/
theorem append_new {ρ : Rho} {h : Hp} {w : World} (hs : Sim ρ h w) (hfr : Fresh ρ h) {ts : Array TypeId} {e es : Nat} {i : TypeInfo} (hp : AppendPre P ts e es i) {base : Option Addr} {len cap n : Nat} {x : Value} {l₁ l₂ : List V}
    (hn : ∀ w : World, (Builtin.lenOf x).run P w = .ok n w) {old new : Array Value}
    (hold : ∀ w', w'.heap = w.heap → (Builtin.firstCells es len (.slice base len cap)).run P w' = .ok old w') (hnew : ∀ w', w'.heap = w.heap → (Builtin.firstCells es n x).run P w' = .ok new w')
    {z : Value} (hz : i.zero = some z) (hzs : z.cells.size = es) (hm : ¬ len + n ≤ cap) (h20 : len + n ≤ 1048576) (hby : i.bytes ≤ 65536)
    (h1 : VRs ρ l₁ old.toList) (h2 : VRs ρ l₂ new.toList) (hl1 : l₁.length = len * es) (hl2 : l₂.length = n * es) (o : Obj)
    (hor : ∀ ρ' w' b z c e', w'.heap[b]? = some (.cells c e' (0, 0)) → c.size = z → VRs ρ' (l₁ ++ l₂) (c.toList.take ((len + n) * es)) → OR ρ' w' b z o) (hid : h.next < 262144) (ty : TypeId) :
    ∃ ρ' v' w', (Builtin.append_ ts ty #[.slice base len cap, x]).run P w = .ok v' w' ∧ Ext ρ h w ρ' ⟨h.next + 1, (h.put h.next o).t⟩ w' ∧ Fresh ρ' ⟨h.next + 1, (h.put h.next o).t⟩ ∧ VR ρ' (.sl h.next 0 (len + n) (len + n) es false) v' := by
  obtain ⟨newCap, hnc, hrun⟩ := append_grow (s := .slice base len cap) hp rfl hn hold hnew hz hzs hm h20 hby ty
  have hf0 := hfr h.next (Nat.le_refl _)
  have hs1 : old.size = len * es := by have := h1.length; rw [hl1] at this; simpa using this.symm
  have hs2 : new.size = n * es := by have := h2.length; rw [hl2] at this; simpa using this.symm
  have hsz : (old ++ new ++ Builtin.zeroCells z.cells (newCap - (len + n))).size = newCap * es := by
    have e1 : len * es + n * es = (len + n) * es := (Nat.add_mul _ _ _).symm
    simp only [Array.size_append, zeroCells_size, hs1, hs2, hzs, e1]
    rw [← Nat.add_mul]; congr 1; omega
  have hw : Sim ρ h { w with drawn := w.drawn + 1 } := hs.drew _
  have hlast : ∀ c : Go.Obj, ({ w with drawn := w.drawn + 1, heap := w.heap.push c } : World).heap[w.heap.size]? = some c := fun c => by simp
  have hx := hw.alloc hid (Nat.le_refl _) hf0 o (.cells (old ++ new ++ Builtin.zeroCells z.cells (newCap - (len + n))) e) (newCap * es)
    (hor _ _ _ _ _ e (hlast _) hsz (by
      have hle := Rho.le_set hf0 (w.heap.size, newCap * es)
      have ha := VRs.append (VRs.mono hle _ _ h1) (VRs.mono hle _ _ h2)
      have : (old ++ new ++ Builtin.zeroCells z.cells (newCap - (len + n))).toList.take ((len + n) * es) = old.toList ++ new.toList := by
        rw [Array.toList_append, Array.toList_append, List.take_left']
        simp [hs1, hs2, Nat.add_mul]
      rw [this]; exact ha)) (h.next + 1) (Nat.le_succ _)
  refine ⟨_, _, _, hrun, (Ext.drew hs _).trans hx, hfr.set _ _, ?_⟩
  simp only [VR]
  exact ⟨w.heap.size, newCap * es, newCap, rfl, Rho.set_self _ _ _, by omega, hnc, by simp, Nat.le_refl _⟩

theorem appendV_sound {ρ : Rho} {h : Hp} {w : World} (hs : Sim ρ h w) (hfr : Fresh ρ h) {ts : Array TypeId} {e es : Nat} {i : TypeInfo} (hp : AppendPre P ts e es i) {s x : V} {n : Nat} {l : List V} (hsrc : srcV es x h = some (n, l))
    {s' x' : Value} (hvs : VR ρ s s') (hvx : VR ρ x x') {o : O} (hc : appendV P e es s n l h = o) (ho : o ≠ .bad) (ty : TypeId) :
    ∃ v h', o = .val v h' ∧ ∃ ρ' v' w', (Builtin.append_ ts ty #[s', x']).run P w = .ok v' w' ∧ Ext ρ h w ρ' h' w' ∧ Fresh ρ' h' ∧ VR ρ' v v' := by
  obtain ⟨hn, hll, new, hnv, hnew⟩ := srcV_sound (P := P) hs hsrc hvx
  unfold appendV at hc
  obtain ⟨i', hi', hc⟩ := oo_val hc ho
  have : i' = i := by rw [hp.inf] at hi'; cases hi'; rfl
  subst this
  obtain ⟨zl, hz, hc⟩ := oo_val hc ho
  obtain ⟨z', i2, e1, e2, _, _, e5, _⟩ := zero_sound hz ρ
  have : i2 = i' := by rw [hp.inf] at e1; cases e1; rfl
  subst this
  have hzs : z'.cells.size = es := e5.trans hp.size
  have hsize : new.size = l.length := by have := hnv.length; simpa using this.symm
  split at hc
  · -- nil
    simp only [VR] at hvs; subst hvs
    by_cases h0 : n = 0
    · subst h0
      simp only [beq_eq', decide_true, br_true] at hc
      exact ⟨_, _, hc.symm, ρ, _, w, append_nil hp hn (hnew w rfl) ty, Ext.refl hs, hfr, by simp [VR]⟩
    · simp only [beq_eq', h0, decide_false, br_false] at hc
      obtain ⟨hb, hc⟩ := br_bad hc ho
      simp only [ble_eq', Bool.and_eq_true, decide_eq_true_eq] at hb
      obtain ⟨ob, hrow, hc⟩ := oo_val hc ho
      obtain ⟨hid, hc'⟩ := Hp.new_val (hc ▸ ho)
      rw [hc] at hc'
      refine ⟨_, _, hc', ?_⟩
      have := append_new hs hfr hp (base := none) (len := 0) (cap := 0) hn (old := #[]) (fun w' _ => rfl) hnew e2 hzs (by omega) (by omega) hb.2 (l₁ := []) (l₂ := l) (by simp [VRs]) hnv (by simp) hll ob
        (fun ρ' w' b z c e' g1 g2 g3 => OR_row hrow g1 g2 (.inl rfl) (by simpa using g3)) hid ty
      simpa using this
  · rename_i id off len cap es' ex _ _
    obtain ⟨he, hcB⟩ := br_bad hc ho
    clear hc
    simp only [beq_eq', decide_eq_true_eq] at he
    subst he
    simp only [num_eq] at hcB
    obtain ⟨hb, hc⟩ := br_bad hcB ho
    clear hcB
    simp only [ble_eq', Bool.and_eq_true, decide_eq_true_eq, Nat.add_eq, Nat.mul_eq] at hb hc
    have hvs0 := hvs
    simp only [VR] at hvs
    obtain ⟨b, z, cap', rfl, hr, hz1, hcap, hex, hlen⟩ := hvs
    by_cases hm : len + n ≤ cap
    · simp only [hm, decide_true, br_true] at hc
      obtain ⟨h', hst, hc⟩ := oo_val hc ho
      obtain ⟨w', k1, _, k3, k4⟩ := store_sound (P := P) hs hst hr hnv
      refine ⟨_, _, hc.symm, ρ, _, w', append_inplace hp hn (hnew w rfl) k1 (by omega) ty, k3, hfr.of_next k4, ?_⟩
      simp only [VR]
      exact ⟨b, z, cap', rfl, hr, hz1, hcap, hex, hm⟩
    · simp only [hm, decide_false, br_false] at hc
      have hcells : ∀ have_ a, (h.at id = .arr have_ a ∨ h.at id = .ro have_ a) → off + len * es ≤ have_ → h.cells id off (len * es) = some (a.cells (len * es) off) := by
        intro have_ a hoo hle
        unfold Hp.cells
        rcases hoo with hoo | hoo <;> rw [hoo] <;> simp only [ble_eq', Nat.add_eq, hle, decide_true, br_true]
      have grown : ∀ have_ a ob h₀, Ext ρ h w ρ h₀ w → h₀.next = h.next → (h.at id = .arr have_ a ∨ h.at id = .ro have_ a) → off + len * es ≤ have_ → cap' < len + n → h.next < 262144 →
          (∀ ρ' w' b z c e', w'.heap[b]? = some (.cells c e' (0, 0)) → c.size = z → VRs ρ' (a.cells (len * es) off ++ l) (c.toList.take ((len + n) * es)) → OR ρ' w' b z ob) →
          ∃ ρ' v' w', (Builtin.append_ ts ty #[.slice (some ⟨b, off, none⟩) len cap', x']).run P w = .ok v' w' ∧ Ext ρ h w ρ' ⟨h.next + 1, (h₀.put h.next ob).t⟩ w' ∧ Fresh ρ' ⟨h.next + 1, (h₀.put h.next ob).t⟩ ∧ VR ρ' (.sl h.next 0 (len + n) (len + n) es false) v' := by
        intro have_ a ob h₀ hx hnx hoo hle hcn hid hor
        obtain ⟨cs, k1, k2, k3, k4⟩ := cells_sound hs (hcells have_ a hoo hle) hr
        have hld : ∀ w', w'.heap = w.heap → (Builtin.firstCells es len (.slice (some ⟨b, off, none⟩) len cap')).run P w' = .ok cs.toArray w' := fun w' hw => by
          have k3' : w'.rangeAt b off cs := by
            intro j v hv
            have := k3 j v hv
            unfold World.cell? at this ⊢
            rw [hw]; exact this
          have hld := rangeAt_load (P := P) k3'
          rw [k1] at hld
          simpa [Builtin.firstCells] using hld
        have := append_new hx.sim (hfr.of_next hnx) hp hn hld hnew e2 hzs (by omega) hb.1 hb.2 (by simpa using k4) hnv k2 hll ob hor (by omega) ty
        obtain ⟨ρ', v', w', g1, g2, g3, g4⟩ := this
        rw [hnx] at g2 g3 g4
        exact ⟨ρ', v', w', g1, hx.trans g2, g3, g4⟩
      cases hoo : h.at id with
      | none => rw [hoo] at hc; exact absurd hc.symm ho
      | map _ _ => rw [hoo] at hc; exact absurd hc.symm ho
      | siter _ _ _ => rw [hoo] at hc; exact absurd hc.symm ho
      | ro have_ a =>
        rw [hoo] at hc
        obtain ⟨hb2, hc⟩ := br_bad hc ho
        simp only [Bool.and_eq_true, decide_eq_true_eq] at hb2
        obtain ⟨ob, hrow, hc⟩ := oo_val hc ho
        obtain ⟨hid, hc'⟩ := Hp.new_val (hc ▸ ho)
        rw [hc] at hc'
        have hcc := hex hb2.1
        refine ⟨_, _, hc', grown have_ a ob h (Ext.refl hs) rfl (.inr hoo) hb2.2 (by omega) hid ?_⟩
        intro ρ' w' b z c e' g1 g2 g3
        rw [app_eq] at hrow
        exact OR_row hrow g1 g2 (.inl rfl) g3
      | arr have_ a =>
        rw [hoo] at hc
        obtain ⟨hb2, hc⟩ := br_bad hc ho
        simp only [Bool.and_eq_true, decide_eq_true_eq] at hb2
        obtain ⟨hb2, hb3, hone⟩ := hb2
        cases hexx : ex with
        | true =>
          simp only [hexx, br_true] at hc
          obtain ⟨ob, hrow, hc⟩ := oo_val hc ho
          obtain ⟨hid, hc'⟩ := Hp.new_val (hc ▸ ho)
          rw [hc] at hc'
          have hcc := hex hexx
          refine ⟨_, _, hc', grown have_ a ob h (Ext.refl hs) rfl (.inl hoo) hb2 (by omega) hid ?_⟩
          intro ρ' w' b z c e' g1 g2 g3
          rw [app_eq] at hrow
          exact OR_row hrow g1 g2 (.inl rfl) g3
        | false =>
          simp only [hexx, br_false] at hc
          obtain ⟨h0, hcC⟩ := br_bad hc ho
          clear hc
          simp only [beq_eq', decide_eq_true_eq] at h0
          subst h0
          have hc := hcC
          obtain ⟨hid, hc'⟩ := Hp.new_val (hc ▸ ho)
          rw [hc] at hc'
          have hnx : (h.put id .none).next = h.next := rfl
          rw [hnx] at hid hc'
          have hown : (h.at id).own = true := by rw [hoo]; rfl
          rw [lenL_eq] at hc'
          have hadd : len * es + l.length = (len + n) * es := by rw [hll, Nat.add_mul]
          have hhave : len * es ≤ have_ := by omega
          have hacap : have_ ≤ a.cap ∧ True := by
            have h3 := (hs.live id b z hr).2.2
            rw [hoo] at h3
            obtain ⟨c, e, lo, hi, g1, g2, g3, g4⟩ := h3
            exact ⟨g4.2.1, trivial⟩
          have hcp : (len + n) * es ≤ (a.push (len * es) l.length l).cap := by
            rw [← hadd]; exact AT.push_cap a (len * es) l (by omega)
          have hget : ∀ i, i < (len + n) * es → (a.push (len * es) l.length l).get i = if i < len * es then a.get i else (l[i - len * es]?).getD V.unk := by
            intro i hi
            rw [AT.push_get a (len * es) l (by omega) (by omega) i (by omega)]
          refine ⟨_, _, hc', ?_⟩
          by_cases hg : len + n ≤ cap'
          · -- in place
            have h3 := (hs.live id b z hr).2.2
            rw [hoo] at h3
            obtain ⟨c, e', lo, hi, g1, g2, g3, g4⟩ := h3
            have hmz : (len + n) * es ≤ z := Nat.le_trans (Nat.mul_le_mul_right es hg) (by omega)
            obtain ⟨c', q1, q2, q3, q4, q5, q6, q7, q8⟩ := setCells_heap b new.toList (len * es) w c g1
            have hnl : new.toList.length = l.length := by simpa using hsize
            have hst := run_storeCells_cells (P := P) b (len * es) new.toList 0 w (fun j hj => by
              rw [Nat.add_zero, cell_of_cells g1]
              rw [Array.getElem?_eq_getElem (by omega)]; rfl) (fun j hj => by
              rw [Nat.add_zero]
              simp only [World.frozen?, g1]
              rcases g3 with g3 | g3
              · simp; omega
              · simp; omega) (allOne_cells hnv hone)
            refine ⟨_, _, _, append_inplace (off := 0) hp hn (hnew w rfl) (by simpa using hst) hg ty, hs.rename hr hown hid (Nat.le_refl _) (hfr _ (Nat.le_refl _)) (.arr ((len + n) * es) (a.push (len * es) l.length l)) q4 q5 q6 q7 q8 (h.next + 1) (Nat.le_succ _) ?_, hfr.set _ _, ?_⟩
            · refine ⟨c', e', lo, hi, by simpa using q1, by omega, g3, by omega, hcp, fun i hi => ?_⟩
              rw [hget i hi]
              have hic : i < c.size := by omega
              have hgd : c'.getD i undef = (c'[i]?).getD undef := by simp [Array.getD_eq_getD_getElem?]
              rw [hgd, q3 i]
              have hle := Rho.le_set (hfr h.next (Nat.le_refl _)) (b, z)
              by_cases hin : i < len * es
              · rw [if_pos hin, if_neg (by omega)]
                have := VR.mono hle _ _ (g4.2.2 i (by omega))
                simpa [Array.getD_eq_getD_getElem?] using this
              · rw [if_neg hin, if_pos (by omega)]
                obtain ⟨x, hx, hv⟩ := hnv.get (List.getElem?_eq_getElem (show i - len * es < l.length by omega))
                rw [List.getElem?_eq_getElem (show i - len * es < l.length by omega), hx]
                exact VR.mono hle _ _ hv
            · simp only [VR]
              exact ⟨b, z, cap', rfl, Rho.set_self _ _ _, by omega, hg, by simp, Nat.le_refl _⟩
          · have := grown have_ a (.arr ((len + n) * es) (a.push (len * es) l.length l)) (h.put id .none) (hs.remove hr hown) rfl (.inl hoo) hb2 (by omega) hid ?_
            · exact this
            · intro ρ' w' b z c e' g1 g2 g3
              have hlen3 := g3.length
              have hcl : c.toList.length = c.size := by simp
              simp only [List.length_append, List.length_take, AT.length_cells, hcl] at hlen3
              refine ⟨c, e', 0, 0, g1, g2, .inl rfl, by omega, hcp, fun i hi => ?_⟩
              rw [hget i hi]
              have hi1 : i < (a.cells (len * es) 0 ++ l).length := by simp; omega
              obtain ⟨x, hx, hv⟩ := g3.get (List.getElem?_eq_getElem hi1)
              rw [List.getElem?_take, if_pos hi] at hx
              have hx' : c.getD i undef = x := by
                have : c[i]? = some x := by simpa using hx
                simp [Array.getD_eq_getD_getElem?, this]
              rw [hx']
              have he : (a.cells (len * es) 0 ++ l)[i] = if i < len * es then a.get i else (l[i - len * es]?).getD V.unk := by
                have := List.getElem?_eq_getElem hi1
                rw [List.getElem?_append] at this
                simp only [AT.length_cells] at this
                by_cases hin : i < len * es
                · rw [if_pos hin, AT.getElem?_cells _ _ _ _ hin] at this
                  rw [if_pos hin]; simpa using (Option.some.inj this).symm
                · rw [if_neg hin] at this
                  rw [if_neg hin, this]; rfl
              rw [← he]; exact hv
  · exact absurd hc.symm ho
end Go.Eng
