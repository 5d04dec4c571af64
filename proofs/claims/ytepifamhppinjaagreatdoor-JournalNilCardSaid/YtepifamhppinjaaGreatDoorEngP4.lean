import Derived.Test.YtepifamhppinjaaGreatDoorEngP3
/- The engine: what only reads is Go's (fourth part): strings, parts, conversions. -/
namespace Go.Eng
variable {P : Program}

theorem SR.mk {s : ByteArray} {l c : Nat} (h1 : s.data.toList.length = l) (h2 : encL s.data.toList 0 = c) : SR l c s := ⟨h1, h2⟩

theorem bytearray_get {s : ByteArray} {i : Nat} (h : i < s.size) : s[i]? = some (s.data.toList[i]'(by have : s.data.toList.length = s.size := by { cases s; rfl }; omega)) := by
  rw [ByteArray.getElem?_lt' s i h]
  rfl

theorem indexV_sound {t : Nat} {x ix v : V} (h : indexV P t x ix = some v) {ρ : Rho} {x' i' : Value} (hx : VR ρ x x') (hi : VR ρ ix i') (w : World) :
    ∃ v', (Instr.index t x' i').run P w = .ok v' w ∧ VR ρ v v' := by
  obtain ⟨i, hn, g⟩ := ob_some h
  clear h
  obtain ⟨k, rfl⟩ := asN_int hn hi
  split at g
  · rename_i len code
    obtain ⟨d, hd, g2⟩ := ob_some g
    split at g2
    · obtain ⟨h1, g3⟩ := br_none g2
      simp only [lt_eq, decide_eq_true_eq] at h1
      simp only [num_eq, Option.some.injEq] at g3
      subst g3
      simp only [VR] at hx
      obtain ⟨s, rfl, hs⟩ := hx
      have hsz := hs.size
      have hlt : i < s.data.toList.length := by rw [hs.1]; exact h1
      refine ⟨.int .u8 (s.data.toList[i].toNat), ?_, ?_⟩
      · have hb := bytearray_get (s := s) (i := i) (by omega)
        simp [Instr.index, run_asIntOf, run_und hd, hb]
      · simp only [VR]
        have := encL_get s.data.toList i hlt
        rw [hs.list.2, hs.1] at this
        show Value.int IntKind.u8 _ = Value.int IntKind.u8 (Int.ofNat (code / 256 ^ (len - (i + 1)) % 256))
        rw [this]; rfl
    · cases g2
  · obtain ⟨d, hd, g2⟩ := ob_some g
    split at g2
    · obtain ⟨sz, hsz, g3⟩ := ob_some g2
      obtain ⟨h1, g4⟩ := br_none g3
      simp only [lt_eq, decide_eq_true_eq] at h1
      simp only [VR] at hx
      obtain ⟨cs, rfl, hv⟩ := hx
      obtain ⟨v', k1, k2⟩ := partV_sound g4 hv w
      refine ⟨v', ?_, k2⟩
      have k1' : (part _ cs (i * sz)).run P w = .ok v' w := k1
      simp [Instr.index, run_asIntOf, run_und hd, run_szOf hsz, h1, k1']
    · cases g2
  · cases g

/-! Parts of rows and strings. -/
theorem boundN_sound {o : Option Operand} {n : Sz} {fr : Fr} {d m : Nat} (h : boundN o n fr d = some m) {ρ : Rho} {a : Act} (hf : FR ρ n fr a) :
    (o.map a.eval = none ∧ m = d) ∨ ∃ k, o.map a.eval = some (.int k m) := by
  cases o with
  | none => cases h; exact .inl ⟨rfl, rfl⟩
  | some x =>
    obtain ⟨k, hk⟩ := asN_int (show asN (ev n fr x) = some m from h) (ev_VR hf x)
    exact .inr ⟨k, by simp [hk]⟩
theorem run_sliceBound {k : IntKind} {i y : Nat} (h : i ≤ y) (c : BoundsCode) (w : World) : (Instr.sliceBound (.int k i) y c).run P w = .ok i w := by
  have : (i : Int) ≤ (y : Int) := by exact_mod_cast h
  simp [Instr.sliceBound, run_asIntOf, this]
theorem run_bounds {isSlice : Bool} {len cap l h m : Nat} {lo hi mx : Option Value}
    (hm : (mx = none ∧ m = cap) ∨ ∃ k, mx = some (.int k m)) (hh : (hi = none ∧ h = len) ∨ ∃ k, hi = some (.int k h)) (hl : (lo = none ∧ l = 0) ∨ ∃ k, lo = some (.int k l))
    (h1 : l ≤ h) (h2 : h ≤ m) (h3 : m ≤ cap) (h4 : mx = none ∨ hi ≠ none) (w : World) : (Instr.sliceBounds isSlice len cap lo hi mx).run P w = .ok (l, h, m) w := by
  unfold Instr.sliceBounds
  rcases hm with ⟨rfl, rfl⟩ | ⟨k, rfl⟩ <;> rcases hh with ⟨rfl, rfl⟩ | ⟨k', rfl⟩ <;> rcases hl with ⟨rfl, rfl⟩ | ⟨k'', rfl⟩ <;>
    first
      | (exfalso; rcases h4 with h4 | h4 <;> simp at h4; done)
      | simp only [Sem.run_bind, Sem.run_pure, Result.andThen_ok, run_sliceBound h1, run_sliceBound h2, run_sliceBound h3]
theorem isNone_none {α : Type} {o : Option α} (h : isNone o = true) : o = none := by cases o <;> first | rfl | cases h
theorem isNone_some {α : Type} {o : Option α} (h : isNone o = false) : ∃ a, o = some a := by cases o <;> first | exact ⟨_, rfl⟩ | cases h

theorem cutSl_sound {id off es l h m : Nat} {ex : Bool} {v : V} (hc : cutSl id off es l h m ex = some v) {ρ : Rho} {b z : Nat} (hr : ρ id = some (b, z)) (hlh : l ≤ h) (hhm : h ≤ m) {m' : Nat}
    (hm' : m ≤ m') (hex : ex = true → m' = m) (hz : off + m' * es ≤ z) :
    VR ρ v (.slice (if m' = l then some ⟨b, off, none⟩ else (some ⟨b, off, none⟩ : Option Addr).map (·.add (l * es))) (h - l) (m' - l)) := by
  unfold cutSl at hc
  by_cases h0 : l = 0
  · subst h0
    simp only [beq_eq', decide_true, br_true, num_eq, Option.some.injEq] at hc
    subst hc
    simp only [VR]
    refine ⟨b, z, m', ?_, hr, hz, hm', hex, hhm⟩
    split <;> simp [add_mid]
  · rw [show Nat.beq l 0 = false by simp [h0]] at hc
    simp only [br_false] at hc
    by_cases h1 : l < m
    case neg =>
      have hlm : l = m := by omega
      have hlh' : h = l := by omega
      subst hlm hlh'
      simp only [lt_eq, Nat.lt_irrefl, decide_false, br_false] at hc
      cases hex' : ex with
      | true =>
        rw [hex'] at hc
        simp only [br_true, Option.some.injEq] at hc
        subst hc
        have e := hex hex'
        subst e
        simp only [VR]
        refine ⟨b, z, 0, ?_, hr, by omega, Nat.le_refl _, fun _ => rfl, Nat.le_refl _⟩
        simp
      | false =>
        rw [hex'] at hc
        simp only [br_false, Option.some.injEq] at hc
        subst hc
        simp only [VR]
        split
        · exact ⟨_, _, by rw [Nat.sub_self]⟩
        · exact ⟨_, _, by rw [Nat.sub_self]; rfl⟩
    simp only [lt_eq, h1, decide_true, br_true, num_eq, Option.some.injEq] at hc
    subst hc
    simp only [VR]
    refine ⟨b, z, m' - l, ?_, hr, ?_, ?_, ?_, ?_⟩
    · rw [if_neg (by omega)]; simp only [Option.map_some, add_mid]; rfl
    · show off + l * es + (m' - l) * es ≤ z
      have : l * es + (m' - l) * es = m' * es := by rw [← Nat.add_mul]; congr 1; omega
      omega
    · show m - l ≤ m' - l; omega
    · intro e; show m' - l = m - l; rw [hex e]
    · show h - l ≤ m - l; omega

theorem cut_SR {l h len code : Nat} {s : ByteArray} (hs : SR len code s) (h1 : l ≤ h) (h2 : h ≤ len) : ∃ n c, cut l h len code = .str n c ∧ SR n c (s.extract l h) := by
  refine ⟨h - l, code / 256 ^ (len - h) % 256 ^ (h - l), by simp only [cut, num_eq]; rfl, ?_⟩
  have e : (s.extract l h).data.toList = (s.data.toList.take h).drop l := by
    rw [ByteArray.data_extract, Array.toList_extract, List.extract_eq_take_drop, List.drop_take]
  refine SR.mk ?_ ?_
  · rw [e, List.length_drop, List.length_take, hs.1]; omega
  · rw [e, ← encL_drop, ← encL_take _ _ (by rw [hs.1]; exact h2), hs.list.2, hs.1, List.length_take, hs.1, Nat.min_eq_left h2]

theorem sliceV_sound {t : Nat} {n : Sz} {fr : Fr} {x v : V} {lo hi mx : Option Operand} (h : sliceV P t n fr x lo hi mx = some v) {ρ : Rho} {a : Act} (hf : FR ρ n fr a) {x' : Value} (hx : VR ρ x x')
    (h34 : mx = none ∨ hi ≠ none) (w : World) : ∃ v', (Instr.sliceAt t x' (lo.map a.eval) (hi.map a.eval) (mx.map a.eval)).run P w = .ok v' w ∧ VR ρ v v' := by
  have h34' : mx.map a.eval = none ∨ hi.map a.eval ≠ none := by
    rcases h34 with h | h
    · left; simpa using h
    · right; simpa using h
  unfold sliceV at h
  split at h
  · obtain ⟨d, hd, g⟩ := ob_some h
    split at g
    · obtain ⟨h1, g2⟩ := br_none g
      cases isNone_none h1
      obtain ⟨hh, hhe, g3⟩ := ob_some g2
      obtain ⟨ll, lle, g4⟩ := ob_some g3
      obtain ⟨h2, g5⟩ := br_none g4
      simp only [ble_eq', Bool.and_eq_true, decide_eq_true_eq] at h2
      simp only [Option.some.injEq] at g5
      subst g5
      simp only [VR] at hx
      obtain ⟨s, rfl, hs⟩ := hx
      obtain ⟨nn, cc, hcut, hsr⟩ := cut_SR hs h2.1 h2.2
      have hsz := hs.size
      refine ⟨.string (s.extract ll hh), ?_, by rw [hcut]; simp only [VR]; exact ⟨_, rfl, hsr⟩⟩
      have hb := run_bounds (P := P) (isSlice := false) (len := s.size) (cap := s.size) (m := s.size) (mx := none) (.inl ⟨rfl, rfl⟩) (hsz ▸ boundN_sound hhe hf) (boundN_sound lle hf) h2.1 (by omega) (Nat.le_refl _) (.inl rfl) w
      simp [Instr.sliceAt, Instr.slice, run_und hd, hb]
    · cases g
  · obtain ⟨e, he, g⟩ := ob_some h
    obtain ⟨sz, hsz, g1⟩ := ob_some g
    obtain ⟨m, hm, g2⟩ := ob_some g1
    obtain ⟨hh, hhe, g3⟩ := ob_some g2
    obtain ⟨ll, lle, g4⟩ := ob_some g3
    obtain ⟨h2, g5⟩ := br_none g4
    simp only [beq_eq', Bool.and_eq_true, decide_eq_true_eq] at h2
    obtain ⟨rfl, rfl, rfl⟩ := h2
    cases g5
    simp only [VR] at hx
    subst hx
    refine ⟨.slice none 0 0, ?_, by simp [VR]⟩
    have hb := run_bounds (P := P) (isSlice := true) (len := 0) (cap := 0) (boundN_sound hm hf) (boundN_sound hhe hf) (boundN_sound lle hf) (Nat.le_refl _) (Nat.le_refl _) (Nat.le_refl _) h34' w
    simp [Instr.sliceAt, Instr.slice, run_underlying (elemOf_eq he), hb, run_szOf hsz]
  · rename_i id off len cap es ex
    obtain ⟨e, he, g⟩ := ob_some h
    obtain ⟨sz, hsz, g1⟩ := ob_some g
    obtain ⟨h0, g1'⟩ := br_none g1
    simp only [beq_eq', decide_eq_true_eq] at h0
    subst h0
    obtain ⟨m, hm, g2⟩ := ob_some g1'
    obtain ⟨hh, hhe, g3⟩ := ob_some g2
    obtain ⟨ll, lle, g4⟩ := ob_some g3
    obtain ⟨h2, g5⟩ := br_none g4
    simp only [ble_eq', Bool.and_eq_true, decide_eq_true_eq] at h2
    obtain ⟨h2, h3, h4⟩ := h2
    simp only [VR] at hx
    obtain ⟨b, z, cap', rfl, hr, hz, hcap, hexact, hlen⟩ := hx
    rcases boundN_sound hm hf with ⟨hmn, rfl⟩ | ⟨k, hmk⟩
    · have hmx : mx = none := by simpa using hmn
      subst hmx
      have hb := run_bounds (P := P) (isSlice := true) (len := len) (cap := cap') (m := cap') (mx := none) (.inl ⟨rfl, rfl⟩) (boundN_sound hhe hf) (boundN_sound lle hf) h2 (by omega) (Nat.le_refl _) (.inl rfl) w
      refine ⟨_, ?_, cutSl_sound g5 hr h2 h3 hcap (by simpa [isNone] using hexact) hz⟩
      simp [Instr.sliceAt, Instr.slice, run_underlying (elemOf_eq he), hb, run_szOf hsz]
    · have hb := run_bounds (P := P) (isSlice := true) (len := len) (cap := cap') (m := m) (mx := mx.map a.eval) (.inr ⟨k, hmk⟩) (boundN_sound hhe hf) (boundN_sound lle hf) h2 h3 (by omega) h34' w
      refine ⟨_, ?_, cutSl_sound g5 hr h2 h3 (Nat.le_refl _) (fun _ => rfl) (by have := Nat.mul_le_mul_right sz (show m ≤ cap' by omega); omega)⟩
      simp [Instr.sliceAt, Instr.slice, run_underlying (elemOf_eq he), hb, run_szOf hsz]
  · cases h
end Go.Eng
