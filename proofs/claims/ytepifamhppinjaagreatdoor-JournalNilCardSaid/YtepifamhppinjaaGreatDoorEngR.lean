import Derived.Test.YtepifamhppinjaaGreatDoorEngB
import Derived.Test.YtepifamhppinjaaGreatDoorEngX
/- The engine: what its values and its heap stand for. -/
namespace Go.Eng

/-- where an object lies: its block, and how many cells the block has -/
abbrev Rho := Nat → Option (Nat × Nat)
def Rho.le (ρ ρ' : Rho) : Prop := ∀ id p, ρ id = some p → ρ' id = some p
theorem Rho.le_refl (ρ : Rho) : ρ.le ρ := fun _ _ h => h
theorem Rho.le_trans {a b c : Rho} (h : a.le b) (k : b.le c) : a.le c := fun _ _ x => k _ _ (h _ _ x)

def SR (l c : Nat) (s : ByteArray) : Prop := s.data.toList.length = l ∧ enc s = c

mutual
def VR (ρ : Rho) : V → Value → Prop
  | .unk, _ => True
  | .bool b, w => w = .bool b
  | .int k n, w => w = .int k n
  | .str l c, w => ∃ s, w = .string s ∧ SR l c s
  | .ptr id off, w => ∃ b z, w = .pointer (some ⟨b, off, none⟩) ∧ ρ id = some (b, z)
  | .nilp, w => w = .pointer none
  | .sl id off len cap es ex, w => ∃ b z cap', w = .slice (some ⟨b, off, none⟩) len cap' ∧ ρ id = some (b, z) ∧ off + cap' * es ≤ z ∧ cap ≤ cap' ∧ (ex = true → cap' = cap) ∧ len ≤ cap
  | .nils, w => w = .slice none 0 0
  | .sl0, w => ∃ a cap, w = .slice (some a) 0 cap
  | .map id, w => ∃ b z, w = .map (some b) ∧ ρ id = some (b, z)
  | .nilmap, w => w = .map none
  | .fn f a b, w => ∃ a' b' : Array Value, w = .func (.func f) a' b' ∧ VRs ρ a a'.toList ∧ VRs ρ b b'.toList
  | .nilfn, w => w = .nilFunc
  | .iface t v, w => ∃ x, w = .iface t x ∧ VR ρ v x
  | .nili, w => w = .nilIface
  | .agg l, w => ∃ cs : Array Value, w = .agg cs ∧ VRs ρ l cs.toList
  | .tup l, w => ∃ cs : Array Value, w = .tuple cs ∧ VRs ρ l cs.toList
def VRs (ρ : Rho) : List V → List Value → Prop
  | [], w => w = []
  | v :: l, w => ∃ x xs, w = x :: xs ∧ VR ρ v x ∧ VRs ρ l xs
end

mutual
theorem VR.mono {ρ ρ' : Rho} (hle : ρ.le ρ') : ∀ (v : V) (w : Value), VR ρ v w → VR ρ' v w
  | .unk, _, _ => by simp [VR]
  | .bool _, _, h => by simpa [VR] using h
  | .int _ _, _, h => by simpa [VR] using h
  | .str _ _, _, h => by simpa [VR] using h
  | .ptr _ _, _, h => by
    simp only [VR] at h ⊢
    obtain ⟨b, z, e, hr⟩ := h
    exact ⟨b, z, e, hle _ _ hr⟩
  | .nilp, _, h => by simpa [VR] using h
  | .sl _ _ _ _ _ _, _, h => by
    simp only [VR] at h ⊢
    obtain ⟨b, z, c, e, hr, t⟩ := h
    exact ⟨b, z, c, e, hle _ _ hr, t⟩
  | .nils, _, h => by simpa [VR] using h
  | .sl0, _, h => by simpa [VR] using h
  | .map _, _, h => by
    simp only [VR] at h ⊢
    obtain ⟨b, z, e, hr⟩ := h
    exact ⟨b, z, e, hle _ _ hr⟩
  | .nilmap, _, h => by simpa [VR] using h
  | .fn _ a b, _, h => by
    simp only [VR] at h ⊢
    obtain ⟨a', b', e, h1, h2⟩ := h
    exact ⟨a', b', e, VRs.mono hle a _ h1, VRs.mono hle b _ h2⟩
  | .nilfn, _, h => by simpa [VR] using h
  | .iface _ v, _, h => by
    simp only [VR] at h ⊢
    obtain ⟨x, e, h1⟩ := h
    exact ⟨x, e, VR.mono hle v _ h1⟩
  | .nili, _, h => by simpa [VR] using h
  | .agg l, _, h => by
    simp only [VR] at h ⊢
    obtain ⟨cs, e, h1⟩ := h
    exact ⟨cs, e, VRs.mono hle l _ h1⟩
  | .tup l, _, h => by
    simp only [VR] at h ⊢
    obtain ⟨cs, e, h1⟩ := h
    exact ⟨cs, e, VRs.mono hle l _ h1⟩
theorem VRs.mono {ρ ρ' : Rho} (hle : ρ.le ρ') : ∀ (l : List V) (w : List Value), VRs ρ l w → VRs ρ' l w
  | [], _, h => by simpa [VRs] using h
  | v :: l, _, h => by
    simp only [VRs] at h ⊢
    obtain ⟨x, xs, e, h1, h2⟩ := h
    exact ⟨x, xs, e, VR.mono hle v _ h1, VRs.mono hle l _ h2⟩
end

theorem VRs.length {ρ : Rho} : ∀ {l : List V} {w : List Value}, VRs ρ l w → l.length = w.length
  | [], _, h => by simp only [VRs] at h; subst h; rfl
  | v :: l, _, h => by
    simp only [VRs] at h
    obtain ⟨x, xs, rfl, _, h2⟩ := h
    simp [VRs.length h2]
theorem VRs.get {ρ : Rho} : ∀ {l : List V} {w : List Value}, VRs ρ l w → ∀ {i : Nat} {v : V}, l[i]? = some v → ∃ x, w[i]? = some x ∧ VR ρ v x
  | [], _, _, i, v, hv => by simp at hv
  | a :: l, _, h, i, v, hv => by
    simp only [VRs] at h
    obtain ⟨x, xs, rfl, h1, h2⟩ := h
    cases i with
    | zero => simp at hv; subst hv; exact ⟨x, rfl, h1⟩
    | succ i => simp at hv; exact VRs.get h2 hv
theorem VRs.mk {ρ : Rho} : ∀ {l : List V} {w : List Value}, l.length = w.length → (∀ i, i < l.length → VR ρ ((l[i]?).getD V.unk) ((w[i]?).getD undef)) → VRs ρ l w
  | [], w, hl, _ => by cases w with
    | nil => simp [VRs]
    | cons => simp at hl
  | v :: l, w, hl, h => by
    cases w with
    | nil => simp at hl
    | cons x xs =>
      simp only [VRs]
      refine ⟨x, xs, rfl, by simpa using h 0 (by simp), VRs.mk (by simpa using hl) fun i hi => ?_⟩
      simpa using h (i + 1) (by simpa using hi)
theorem VRs.append {ρ : Rho} : ∀ {l m : List V} {v w : List Value}, VRs ρ l v → VRs ρ m w → VRs ρ (l ++ m) (v ++ w)
  | [], m, _, w, h, k => by simp only [VRs] at h; subst h; simpa using k
  | a :: l, m, _, w, h, k => by
    simp only [VRs] at h
    obtain ⟨x, xs, rfl, h1, h2⟩ := h
    simp only [List.cons_append, VRs]
    exact ⟨x, xs ++ w, rfl, h1, VRs.append h2 k⟩
theorem VRs.take {ρ : Rho} {l : List V} {v : List Value} (h : VRs ρ l v) (n : Nat) : VRs ρ (l.take n) (v.take n) := by
  induction n generalizing l v with
  | zero => simp [VRs]
  | succ n ih => cases l with
    | nil => simp only [VRs] at h; subst h; simp [VRs]
    | cons a l =>
      simp only [VRs] at h
      obtain ⟨x, xs, rfl, h1, h2⟩ := h
      simp only [List.take_succ_cons, VRs]
      exact ⟨x, _, rfl, h1, ih h2⟩
theorem VRs.drop {ρ : Rho} {l : List V} {v : List Value} (h : VRs ρ l v) (n : Nat) : VRs ρ (l.drop n) (v.drop n) := by
  induction n generalizing l v with
  | zero => simpa using h
  | succ n ih => cases l with
    | nil => simp only [VRs] at h; subst h; simp [VRs]
    | cons a l =>
      simp only [VRs] at h
      obtain ⟨x, xs, rfl, h1, h2⟩ := h
      simpa using ih h2

def ERs (ρ : Rho) : List (V × V × Nat) → List MapEntry → Prop
  | [], w => w = []
  | e :: l, w => ∃ x xs, w = x :: xs ∧ VR ρ e.1 x.key ∧ VR ρ e.2.1 x.val ∧ x.born = e.2.2 ∧ ERs ρ l xs
theorem ERs.mono {ρ ρ' : Rho} (hle : ρ.le ρ') : ∀ {l : List (V × V × Nat)} {w : List MapEntry}, ERs ρ l w → ERs ρ' l w
  | [], _, h => h
  | e :: l, _, h => by
    obtain ⟨x, xs, rfl, h1, h2, h3, h4⟩ := h
    exact ⟨x, xs, rfl, VR.mono hle _ _ h1, VR.mono hle _ _ h2, h3, ERs.mono hle h4⟩

/-- cells that stand for a row -/
def Row (ρ : Rho) (n : Nat) (a : AT) (c : Array Value) : Prop := n ≤ c.size ∧ n ≤ a.cap ∧ ∀ i, i < n → VR ρ (a.get i) (c.getD i undef)
theorem Row.mono {ρ ρ' : Rho} (hle : ρ.le ρ') {n : Nat} {a : AT} {c : Array Value} (h : Row ρ n a c) : Row ρ' n a c :=
  ⟨h.1, h.2.1, fun i hi => VR.mono hle _ _ (h.2.2 i hi)⟩

def OR (ρ : Rho) (w : World) (b z : Nat) : Obj → Prop
  | .none => True
  | .arr n a => ∃ c e lo hi, w.heap[b]? = some (.cells c e (lo, hi)) ∧ c.size = z ∧ (lo = hi ∨ z ≤ lo) ∧ Row ρ n a c
  | .ro n a => ∃ c e fz, w.heap[b]? = some (.cells c e fz) ∧ c.size = z ∧ Row ρ n a c
  | .map es k => ∃ es', w.heap[b]? = some (.map es' k) ∧ ERs ρ es es'.toList
  | .siter l c p => ∃ s, w.heap[b]? = some (.stringIter s p) ∧ SR l c s
theorem OR.mono {ρ ρ' : Rho} (hle : ρ.le ρ') {w w' : World} {b z : Nat} (hb : w'.heap[b]? = w.heap[b]?) : ∀ {o : Obj}, OR ρ w b z o → OR ρ' w' b z o
  | .none, _ => trivial
  | .arr _ _, ⟨c, e, lo, hi, h1, h2, h3, h4⟩ => ⟨c, e, lo, hi, hb ▸ h1, h2, h3, h4.mono hle⟩
  | .ro _ _, ⟨c, e, fz, h1, h2, h4⟩ => ⟨c, e, fz, hb ▸ h1, h2, h4.mono hle⟩
  | .map _ _, ⟨es', h1, h2⟩ => ⟨es', hb ▸ h1, h2.mono hle⟩
  | .siter _ _ _, ⟨s, h1, h2⟩ => ⟨s, hb ▸ h1, h2⟩

/-- may the object be written? -/
def Obj.own : Obj → Bool
  | .none => false
  | .ro _ _ => false
  | _ => true

structure Sim (ρ : Rho) (h : Hp) (w : World) : Prop where
  live : ∀ id b z, ρ id = some (b, z) → id < 262144 ∧ b < w.heap.size ∧ OR ρ w b z (h.at id)
  inj : ∀ i j b y z, ρ i = some (b, y) → ρ j = some (b, z) → (h.at i).own = true → h.at j ≠ .none → i = j

def Owned (ρ : Rho) (h : Hp) (b : Nat) : Prop := ∃ id z, ρ id = some (b, z) ∧ (h.at id).own = true
/-- a block that some object stands for -/
def Live (ρ : Rho) (h : Hp) (b : Nat) : Prop := ∃ id z, ρ id = some (b, z) ∧ h.at id ≠ .none
def Fresh (ρ : Rho) (h : Hp) : Prop := ∀ id, h.next ≤ id → ρ id = none

structure Ext (ρ : Rho) (h : Hp) (w : World) (ρ' : Rho) (h' : Hp) (w' : World) : Prop where
  le : ρ.le ρ'
  sim : Sim ρ' h' w'
  size : w.heap.size ≤ w'.heap.size
  keep : ∀ b, b < w.heap.size → ¬ Owned ρ h b → w'.heap[b]? = w.heap[b]?
  own : ∀ b, Owned ρ' h' b → Owned ρ h b ∨ w.heap.size ≤ b
  act : ∀ b, Live ρ' h' b → Live ρ h b ∨ w.heap.size ≤ b
  nx : h.next ≤ h'.next
  idle : ∀ id, id < 262144 → id < h.next → ρ id = none → h'.at id = h.at id
  new : ∀ id b z, ρ id = none → ρ' id = some (b, z) → h.next ≤ id ∧ (w.heap.size ≤ b ∨ Live ρ h b)
  tape : w'.tape = w.tape
  os : w'.os = w.os
  output : w'.output = w.output

theorem Ext.refl {ρ : Rho} {h : Hp} {w : World} (hs : Sim ρ h w) : Ext ρ h w ρ h w :=
  ⟨Rho.le_refl _, hs, Nat.le_refl _, fun _ _ _ => rfl, fun _ h => .inl h, fun _ h => .inl h, Nat.le_refl _, fun _ _ _ _ => rfl, fun _ _ _ h k => (by rw [h] at k; cases k), rfl, rfl, rfl⟩
theorem Ext.trans {ρ ρ₁ ρ₂ : Rho} {h h₁ h₂ : Hp} {w w₁ w₂ : World} (a : Ext ρ h w ρ₁ h₁ w₁) (b : Ext ρ₁ h₁ w₁ ρ₂ h₂ w₂) : Ext ρ h w ρ₂ h₂ w₂ where
  le := Rho.le_trans a.le b.le
  sim := b.sim
  size := Nat.le_trans a.size b.size
  keep := fun n hn ho => by
    rw [b.keep n (Nat.lt_of_lt_of_le hn a.size) (fun h1 => (a.own n h1).elim ho (fun h2 => by omega)), a.keep n hn ho]
  own := fun n hn => (b.own n hn).elim (a.own n) (fun h2 => .inr (Nat.le_trans a.size h2))
  act := fun n hn => (b.act n hn).elim (a.act n) (fun h2 => .inr (Nat.le_trans a.size h2))
  nx := Nat.le_trans a.nx b.nx
  idle := fun id hid hlt h0 => by
    have h1 : ρ₁ id = none := by
      cases h1 : ρ₁ id with
      | none => rfl
      | some p =>
        obtain ⟨blk, z⟩ := p
        exact absurd (a.new id blk z h0 h1).1 (by omega)
    rw [b.idle id hid (Nat.lt_of_lt_of_le hlt a.nx) h1, a.idle id hid hlt h0]
  new := fun id blk z h0 h2 => by
    cases h1 : ρ₁ id with
    | none =>
      obtain ⟨k1, k2⟩ := b.new id blk z h1 h2
      refine ⟨Nat.le_trans a.nx k1, ?_⟩
      rcases k2 with k2 | k2
      · exact .inl (Nat.le_trans a.size k2)
      · exact (a.act blk k2).symm
    | some p =>
      have := b.le id p h1
      rw [h2] at this; cases this
      exact a.new id blk z h0 h1
  tape := b.tape.trans a.tape
  os := b.os.trans a.os
  output := b.output.trans a.output

theorem Sim.drew {ρ : Rho} {h : Hp} {w : World} (hs : Sim ρ h w) (n : Nat) : Sim ρ h { w with drawn := n } :=
  ⟨fun id b z hr => let ⟨h1, h2, h3⟩ := hs.live id b z hr; ⟨h1, h2, OR.mono (Rho.le_refl _) rfl h3⟩, hs.inj⟩
theorem Ext.drew {ρ : Rho} {h : Hp} {w : World} (hs : Sim ρ h w) (n : Nat) : Ext ρ h w ρ h { w with drawn := n } :=
  ⟨Rho.le_refl _, hs.drew n, Nat.le_refl _, fun _ _ _ => rfl, fun _ h => .inl h, fun _ h => .inl h, Nat.le_refl _, fun _ _ _ _ => rfl, fun _ _ _ h k => (by rw [h] at k; cases k), rfl, rfl, rfl⟩

/-- a frame -/
structure FR (ρ : Rho) (n : Sz) (fr : Fr) (a : Act) : Prop where
  size : a.tmps.size = n.n
  small : n.n ≤ 512
  noDefers : a.defers = []
  val : ∀ t, t < n.n → VR ρ (get3 fr t) (a.tmps.getD t undef)
  glob : ∀ g, g < n.g → ∃ z, ρ g = some (g, z)
theorem FR.mono {ρ ρ' : Rho} (hle : ρ.le ρ') {n : Sz} {fr : Fr} {a : Act} (h : FR ρ n fr a) : FR ρ' n fr a :=
  ⟨h.size, h.small, h.noDefers, fun t ht => VR.mono hle _ _ (h.val t ht), fun g hg => (h.glob g hg).imp fun _ => hle _ _⟩

theorem ofV1_VR (ρ : Rho) (v : Value) : VR ρ (ofV1 v) v := by
  unfold ofV1
  split <;> simp [VR, SR]
theorem ofVs_VR (ρ : Rho) (l : List Value) : VRs ρ (ofVs l) l := by
  induction l with
  | nil => simp [VRs, ofVs]
  | cons v l ih => show VRs ρ (ofV1 v :: ofVs l) _; simp only [VRs]; exact ⟨v, l, rfl, ofV1_VR ρ v, ih⟩
theorem ofValue_VR (ρ : Rho) (v : Value) : VR ρ (ofValue v) v := by
  unfold ofValue
  split
  · simp only [VR]; exact ⟨_, rfl, ofVs_VR ρ _⟩
  · simp only [VR]; exact ⟨_, rfl, ofVs_VR ρ _⟩
  · exact ofV1_VR ρ _
theorem ev_VR {ρ : Rho} {n : Sz} {fr : Fr} {a : Act} (h : FR ρ n fr a) (x : Operand) : VR ρ (ev n fr x) (a.eval x) := by
  cases x with
  | tmp t =>
    show VR ρ (br (lt t n.n) (get3 fr t) V.undef) (a.tmps.getD t undef)
    by_cases ht : t < n.n
    · simp only [lt_eq, ht, decide_true, br_true]; exact h.val t ht
    · simp only [lt_eq, ht, decide_false, br_false]
      have : a.tmps.getD t undef = undef := by simp [Array.getD, h.size, ht]
      rw [this]; simp only [V.undef, VR]; exact ⟨#[], rfl, by simp [VRs]⟩
  | const v => exact ofValue_VR ρ v
  | global g =>
    show VR ρ (br (lt g n.g) (.ptr g 0) .unk) (.pointer (some ⟨g, 0, none⟩))
    by_cases hg : g < n.g
    · simp only [lt_eq, hg, decide_true, br_true, VR]
      obtain ⟨z, hz⟩ := h.glob g hg
      exact ⟨g, z, rfl, hz⟩
    · simp only [lt_eq, hg, decide_false, br_false, VR]
  | func f => simp only [ev, Act.eval, VR]; exact ⟨#[], #[], rfl, by simp [VRs], by simp [VRs]⟩
theorem evs_VR {ρ : Rho} {n : Sz} {fr : Fr} {a : Act} (h : FR ρ n fr a) (xs : List Operand) : VRs ρ (evs n fr xs) (xs.map a.eval) := by
  induction xs with
  | nil => simp [VRs, evs]
  | cons x xs ih => show VRs ρ (ev n fr x :: evs n fr xs) _; simp only [List.map_cons, VRs]; exact ⟨_, _, rfl, ev_VR h x, ih⟩
theorem put_FR {ρ : Rho} {n : Sz} {fr : Fr} {a : Act} (h : FR ρ n fr a) (d : Option Nat) {v : V} {w : Value} (hv : VR ρ v w) : FR ρ n (putF n d v fr) (a.put d w) := by
  cases d with
  | none => exact h
  | some d =>
    show FR ρ n (br (lt d n.n) (set3 fr d v) fr) { a with tmps := a.tmps.setIfInBounds d w }
    have hs := h.size
    have hsm := h.small
    by_cases hd : d < n.n
    · simp only [lt_eq, hd, decide_true, br_true]
      refine ⟨by simp [hs], hsm, h.noDefers, fun t ht => ?_, h.glob⟩
      rw [get3_set3 _ _ _ _ (by omega) (by omega)]
      have hg := h.val t ht
      simp only [Array.getD, hs, ht, dif_pos] at hg
      simp only [Array.getD, Array.size_setIfInBounds, hs, ht, dif_pos]
      by_cases e : t = d
      · subst e; simpa using hv
      · rw [if_neg e]
        have e' : d ≠ t := fun x => e x.symm
        simp only [Array.getInternal_eq_getElem] at hg ⊢
        rw [Array.getElem_setIfInBounds_ne _ e']
        exact hg
    · simp only [lt_eq, hd, decide_false, br_false]
      rw [Array.setIfInBounds_eq_of_size_le (by omega)]
      exact h
end Go.Eng
