import Derived.Test.YtepifamhppinjaaGreatDoorEngR
import Derived.Laws.Sem
/- The engine: its numbers and strings are Go's. -/
namespace Go.Eng

theorem wrap_is (k : IntKind) (n r : Int) (h : (k.signed = true ∧ ((n % 2 ^ k.bits ≥ 2 ^ (k.bits - 1) ∧ r = n % 2 ^ k.bits - 2 ^ k.bits) ∨ (n % 2 ^ k.bits < 2 ^ (k.bits - 1) ∧ r = n % 2 ^ k.bits))) ∨ (k.signed = false ∧ r = n % 2 ^ k.bits)) : r = k.wrap n := by
  unfold IntKind.wrap
  rcases h with ⟨hs, ⟨h1, rfl⟩ | ⟨h1, rfl⟩⟩ | ⟨hs, rfl⟩
  · simp only [hs, Bool.true_and]; rw [if_pos (decide_eq_true h1)]
  · simp only [hs, Bool.true_and]; rw [if_neg (by rw [decide_eq_true_iff]; omega)]
  · simp only [hs, Bool.false_and]; rw [if_neg (by simp)]
theorem wrapI_eq (k : IntKind) (n : Int) : wrapI k n = .int k (k.wrap n) := by
  cases n with
  | negSucc m => rfl
  | ofNat m =>
    show num m (fun m => br (Nat.ble m (kmax k)) (V.int k (.ofNat m)) (num (Nat.mod m (kmod k)) fun r => br (Nat.ble r (kmax k)) (.int k (.ofNat r)) (num (Nat.sub (Nat.sub (kmod k) r) 1) fun s => .int k (.negSucc s)))) = _
    simp only [num_eq, ble_eq']
    by_cases h1 : m ≤ kmax k
    · simp only [h1, decide_true, br_true, V.int.injEq, true_and]
      apply wrap_is
      cases k <;> simp only [kmax] at h1 <;> simp only [IntKind.bits, IntKind.signed, Int.ofNat_eq_natCast, Nat.reduceSub, Int.reducePow, true_and, false_and, or_false, false_or, reduceCtorEq] <;> omega
    · simp only [h1, decide_false, br_false]
      show br (decide (m % kmod k ≤ kmax k)) (V.int k (.ofNat (m % kmod k))) (.int k (.negSucc (kmod k - m % kmod k - 1))) = _
      by_cases h2 : m % kmod k ≤ kmax k
      · simp only [h2, decide_true, br_true, V.int.injEq, true_and]
        apply wrap_is
        cases k <;> simp only [kmax, kmod] at h1 h2 <;> simp only [kmod, IntKind.bits, IntKind.signed, Int.ofNat_eq_natCast, Nat.reduceSub, Int.reducePow, true_and, false_and, or_false, false_or, reduceCtorEq] <;> omega
      · simp only [h2, decide_false, br_false, V.int.injEq, true_and]
        apply wrap_is
        cases k <;> simp only [kmax, kmod] at h1 h2 <;> simp only [kmod, IntKind.bits, IntKind.signed, Int.ofNat_eq_natCast, Nat.reduceSub, Int.reducePow, true_and, false_and, or_false, false_or, reduceCtorEq, Int.negSucc_eq] <;> omega

theorem ikEq_eq {a b : IntKind} (h : ikEq a b = true) : a = b := by
  cases a <;> cases b <;> first | rfl | exact absurd h (by decide)
theorem ikEq_self (a : IntKind) : ikEq a a = true := by cases a <;> rfl
theorem intEq_eq (a b : Int) : intEq a b = (a == b) := by
  rw [Bool.eq_iff_iff, beq_iff_eq]
  cases a <;> cases b <;> simp [intEq, Int.ofNat_inj] <;> omega
theorem intLe_eq (a b : Int) : intLe a b = decide (a ≤ b) := by
  rw [Bool.eq_iff_iff, decide_eq_true_iff]
  cases a <;> cases b <;> simp [intLe] <;> omega
theorem nats_some {a b : Int} {f : Nat → Nat → Option V} {v : V} (h : nats a b f = some v) : ∃ m n : Nat, a = m ∧ b = n ∧ f m n = some v := by
  cases a <;> cases b <;> first | exact ⟨_, _, rfl, rfl, h⟩ | exact absurd h (by simp [nats])

theorem bv_and (k : IntKind) (m n : Nat) (hm : m < kmod k) (hn : n < kmod k) : (BitVec.ofInt k.bits (m : Int) &&& BitVec.ofInt k.bits (n : Int)).toNat = Nat.land m n := by
  have e : kmod k = 2 ^ k.bits := by cases k <;> rfl
  rw [e] at hm hn
  rw [BitVec.ofInt_natCast, BitVec.ofInt_natCast, BitVec.toNat_and, BitVec.toNat_ofNat, BitVec.toNat_ofNat, Nat.mod_eq_of_lt hm, Nat.mod_eq_of_lt hn]; rfl
theorem bv_or (k : IntKind) (m n : Nat) (hm : m < kmod k) (hn : n < kmod k) : (BitVec.ofInt k.bits (m : Int) ||| BitVec.ofInt k.bits (n : Int)).toNat = Nat.lor m n := by
  have e : kmod k = 2 ^ k.bits := by cases k <;> rfl
  rw [e] at hm hn
  rw [BitVec.ofInt_natCast, BitVec.ofInt_natCast, BitVec.toNat_or, BitVec.toNat_ofNat, BitVec.toNat_ofNat, Nat.mod_eq_of_lt hm, Nat.mod_eq_of_lt hn]; rfl
theorem bv_xor (k : IntKind) (m n : Nat) (hm : m < kmod k) (hn : n < kmod k) : (BitVec.ofInt k.bits (m : Int) ^^^ BitVec.ofInt k.bits (n : Int)).toNat = Nat.xor m n := by
  have e : kmod k = 2 ^ k.bits := by cases k <;> rfl
  rw [e] at hm hn
  rw [BitVec.ofInt_natCast, BitVec.ofInt_natCast, BitVec.toNat_xor, BitVec.toNat_ofNat, BitVec.toNat_ofNat, Nat.mod_eq_of_lt hm, Nat.mod_eq_of_lt hn]; rfl

theorem bits_some {k : IntKind} {a b : Int} {f : Nat → Nat → Nat} {v : V} (h : bits k a b f = some v) : ∃ m n : Nat, a = m ∧ b = n ∧ m < kmod k ∧ n < kmod k ∧ v = .int k (k.wrap (f m n)) := by
  obtain ⟨m, n, rfl, rfl, h⟩ := nats_some h
  obtain ⟨h1, h2⟩ := br_none h
  simp only [lt_eq, Bool.and_eq_true, decide_eq_true_eq] at h1
  refine ⟨m, n, rfl, rfl, h1.1, h1.2, ?_⟩
  rw [← Option.some_inj, ← h2, wrapI_eq]; rfl

theorem opInt_sound {P : Program} {op : BinOp} {k : IntKind} {a b : Int} {v : V} (hop : op ≠ .shl ∧ op ≠ .shr) (h : opInt op k a b = some v) (t : TypeId) (w : World) :
    ∃ v', (binOp op t (.int k a) (.int k b)).run P w = .ok v' w ∧ ∀ ρ, VR ρ v v' := by
  cases op with
  | shl => exact absurd rfl hop.1
  | shr => exact absurd rfl hop.2
  | add => cases h; exact ⟨.int k (k.wrap (a + b)), by simp [binOp, Op.intArith], fun ρ => by rw [wrapI_eq]; simp only [VR]; rfl⟩
  | sub => cases h; exact ⟨.int k (k.wrap (a - b)), by simp [binOp, Op.intArith], fun ρ => by rw [wrapI_eq]; simp only [VR]; rfl⟩
  | mul => cases h; exact ⟨.int k (k.wrap (a * b)), by simp [binOp, Op.intArith], fun ρ => by rw [wrapI_eq]; simp only [VR]; rfl⟩
  | quo =>
    obtain ⟨m, n, rfl, rfl, h2⟩ := nats_some h
    clear h
    by_cases hn : n = 0
    · subst hn; exact absurd h2 (by simp)
    · rw [show Nat.beq n 0 = false by simp [hn]] at h2
      simp only [br_false, wrapI_eq, Option.some.injEq] at h2
      subst h2
      have hn' : ¬ ((n : Int) = 0) := by omega
      exact ⟨.int k (k.wrap ((m : Int).tdiv n)), by simp only [binOp, Op.intDiv, ne_eq, not_true_eq_false, if_false, hn', Sem.run_pure], fun ρ => by simp only [VR]; rfl⟩
  | rem =>
    obtain ⟨m, n, rfl, rfl, h2⟩ := nats_some h
    clear h
    by_cases hn : n = 0
    · subst hn; exact absurd h2 (by simp)
    · rw [show Nat.beq n 0 = false by simp [hn]] at h2
      simp only [br_false, num_eq, Option.some.injEq] at h2
      subst h2
      have hn' : ¬ ((n : Int) = 0) := by omega
      exact ⟨.int k ((m : Int).tmod n), by simp only [binOp, Op.intDiv, ne_eq, not_true_eq_false, if_false, hn', Sem.run_pure], fun ρ => by simp only [VR]; rfl⟩
  | and =>
    obtain ⟨m, n, rfl, rfl, hm, hn, rfl⟩ := bits_some h
    exact ⟨.int k (k.wrap (BitVec.ofInt k.bits m &&& BitVec.ofInt k.bits n).toNat), by simp only [binOp, Op.intBits, ne_eq, not_true_eq_false, if_false, Sem.run_pure], fun ρ => by simp only [VR, bv_and k m n hm hn]⟩
  | or =>
    obtain ⟨m, n, rfl, rfl, hm, hn, rfl⟩ := bits_some h
    exact ⟨.int k (k.wrap (BitVec.ofInt k.bits m ||| BitVec.ofInt k.bits n).toNat), by simp only [binOp, Op.intBits, ne_eq, not_true_eq_false, if_false, Sem.run_pure], fun ρ => by simp only [VR, bv_or k m n hm hn]⟩
  | xor =>
    obtain ⟨m, n, rfl, rfl, hm, hn, rfl⟩ := bits_some h
    exact ⟨.int k (k.wrap (BitVec.ofInt k.bits m ^^^ BitVec.ofInt k.bits n).toNat), by simp only [binOp, Op.intBits, ne_eq, not_true_eq_false, if_false, Sem.run_pure], fun ρ => by simp only [VR, bv_xor k m n hm hn]⟩
  | andNot => cases h
  | eql => cases h; exact ⟨.bool (a == b), by simp only [binOp, Op.intCmp, ne_eq, not_true_eq_false, if_false, Sem.run_pure], fun ρ => by simp only [VR, intEq_eq]⟩
  | neq => cases h; exact ⟨.bool (a != b), by simp only [binOp, Op.intCmp, ne_eq, not_true_eq_false, if_false, Sem.run_pure], fun ρ => by simp only [VR, intEq_eq]; rfl⟩
  | lss => cases h; exact ⟨.bool (a < b), by simp only [binOp, Op.intCmp, ne_eq, not_true_eq_false, if_false, Sem.run_pure], fun ρ => by simp only [VR, intLe_eq]; congr 1; rw [Bool.eq_iff_iff]; simp⟩
  | leq => cases h; exact ⟨.bool (a ≤ b), by simp only [binOp, Op.intCmp, ne_eq, not_true_eq_false, if_false, Sem.run_pure], fun ρ => by simp only [VR, intLe_eq]⟩
  | gtr => cases h; exact ⟨.bool (a > b), by simp only [binOp, Op.intCmp, ne_eq, not_true_eq_false, if_false, Sem.run_pure], fun ρ => by simp only [VR, intLe_eq]; congr 1; rw [Bool.eq_iff_iff]; simp⟩
  | geq => cases h; exact ⟨.bool (a ≥ b), by simp only [binOp, Op.intCmp, ne_eq, not_true_eq_false, if_false, Sem.run_pure], fun ρ => by simp only [VR, intLe_eq]⟩

theorem opShift_sound {P : Program} {op : BinOp} {k : IntKind} {a b : Int} {v : V} (h : opShift op k a b = some v) (t : TypeId) (j : IntKind) (w : World) :
    ∃ v', (binOp op t (.int k a) (.int j b)).run P w = .ok v' w ∧ ∀ ρ, VR ρ v v' := by
  obtain ⟨m, n, rfl, rfl, h3⟩ := nats_some h
  clear h
  have h := h3
  clear h3
  have key : n < k.bits ∧ ((op = .shl ∧ v = wrapI k (.ofNat (Nat.mul m (Nat.pow 2 n)))) ∨ (op = .shr ∧ v = .int k (.ofNat (m / 2 ^ n)))) := by
    have hb : opShift.kbits k = k.bits := by cases k <;> rfl
    have hb8 : 8 ≤ k.bits := by cases k <;> decide
    by_cases h8 : n < 8
    · simp only [lt_eq, h8, decide_true, br_true] at h
      refine ⟨by omega, ?_⟩
      cases op <;> first | (cases h; done) | (left; cases h; exact ⟨rfl, rfl⟩) | (right; simp only [num_eq] at h; cases h; exact ⟨rfl, rfl⟩)
    · simp only [lt_eq, h8, decide_false, br_false] at h
      obtain ⟨h1, h⟩ := br_none h
      rw [hb] at h1
      refine ⟨by simpa using h1, ?_⟩
      cases op <;> first | (cases h; done) | (left; cases h; exact ⟨rfl, rfl⟩) | (right; simp only [num_eq] at h; cases h; exact ⟨rfl, rfl⟩)
  obtain ⟨hk, hv⟩ := key
  have hn : ¬ ((n : Int) < 0) := by omega
  have hmin : min (n : Int).toNat k.bits = n := by simp; omega
  rcases hv with ⟨rfl, rfl⟩ | ⟨rfl, rfl⟩
  · refine ⟨.int k (k.wrap ((m : Int) * 2 ^ n)), by simp only [binOp, Op.shift, hn, if_false, hmin, Sem.run_pure], fun ρ => ?_⟩
    rw [wrapI_eq]; simp only [VR]
    congr 2
  · refine ⟨.int k ((m : Int).fdiv (2 ^ n)), by simp only [binOp, Op.shift, hn, if_false, hmin, Sem.run_pure], fun ρ => ?_⟩
    simp only [VR]
    congr 1
    rw [show ((2 : Int) ^ n) = ((2 ^ n : Nat) : Int) by push_cast; first | done | rfl]
    exact (Int.ofNat_fdiv m (2 ^ n)).symm

/-! Strings. -/
theorem encL_cons (b : UInt8) (l : List UInt8) (a : Nat) : encL (b :: l) a = encL l (a * 256 + b.toNat) := by
  show num (Nat.add (Nat.mul a 256) b.toNat) (encL l) = _
  rw [num_eq]; rfl
theorem encL_nil (a : Nat) : encL [] a = a := rfl
theorem encL_append (l m : List UInt8) (a : Nat) : encL (l ++ m) a = encL m (encL l a) := by
  induction l generalizing a with
  | nil => rfl
  | cons b l ih => rw [List.cons_append, encL_cons, encL_cons, ih]
theorem encL_base (l : List UInt8) (a : Nat) : encL l a = a * 256 ^ l.length + encL l 0 := by
  induction l generalizing a with
  | nil => simp [encL_nil]
  | cons b l ih =>
    rw [encL_cons, encL_cons, ih (a * 256 + b.toNat), ih (0 * 256 + b.toNat), List.length_cons, Nat.pow_succ]
    simp only [Nat.zero_mul, Nat.zero_add, Nat.add_mul, Nat.mul_assoc, Nat.mul_comm 256]
    omega
theorem encL_lt (l : List UInt8) : encL l 0 < 256 ^ l.length := by
  induction l with
  | nil => simp [encL_nil]
  | cons b l ih =>
    rw [encL_cons, encL_base, List.length_cons, Nat.pow_succ]
    have hb : b.toNat < 256 := b.toNat_lt
    have : (0 * 256 + b.toNat) * 256 ^ l.length ≤ 255 * 256 ^ l.length := Nat.mul_le_mul_right _ (by omega)
    omega
theorem encL_div (l m : List UInt8) : encL (l ++ m) 0 / 256 ^ m.length = encL l 0 := by
  rw [encL_append, encL_base, Nat.add_comm, Nat.add_mul_div_right _ _ (Nat.pow_pos (by decide)), Nat.div_eq_of_lt (encL_lt m), Nat.zero_add]
theorem encL_mod (l m : List UInt8) : encL (l ++ m) 0 % 256 ^ m.length = encL m 0 := by
  rw [encL_append, encL_base, Nat.add_comm, Nat.add_mul_mod_self_right, Nat.mod_eq_of_lt (encL_lt m)]
theorem encL_take (l : List UInt8) (h : Nat) (_ : h ≤ l.length) : encL l 0 / 256 ^ (l.length - h) = encL (l.take h) 0 := by
  have e := encL_div (l.take h) (l.drop h)
  rw [List.take_append_drop, List.length_drop] at e
  exact e
theorem encL_drop (l : List UInt8) (h : Nat) : encL l 0 % 256 ^ (l.length - h) = encL (l.drop h) 0 := by
  have e := encL_mod (l.take h) (l.drop h)
  rw [List.take_append_drop, List.length_drop] at e
  exact e
theorem encL_inj : ∀ (l m : List UInt8), l.length = m.length → encL l 0 = encL m 0 → l = m
  | [], [], _, _ => rfl
  | [], _ :: _, h, _ => by simp at h
  | _ :: _, [], h, _ => by simp at h
  | b :: l, c :: m, h, e => by
    have hl : l.length = m.length := by simpa using h
    have e1 := encL_div [b] l
    have e2 := encL_div [c] m
    have f1 := encL_mod [b] l
    have f2 := encL_mod [c] m
    simp only [List.singleton_append] at e1 e2 f1 f2
    rw [e, hl, e2] at e1
    rw [e, hl, f2] at f1
    have hb : b = c := by
      have : (0 * 256 + c.toNat) = (0 * 256 + b.toNat) := by simpa [encL_cons, encL_nil] using e1
      exact UInt8.toNat_inj.1 (by omega)
    rw [hb, encL_inj l m hl f1.symm]
theorem encL_get (l : List UInt8) (i : Nat) (hi : i < l.length) : encL l 0 / 256 ^ (l.length - (i + 1)) % 256 = l[i].toNat := by
  rw [encL_take l (i + 1) hi, List.take_succ_eq_append_getElem hi]
  have := encL_mod (l.take i) [l[i]]
  simpa [encL_cons, encL_nil] using this

theorem strEq_eq {l c m d : Nat} {x y : List UInt8} (hx : x.length = l ∧ encL x 0 = c) (hy : y.length = m ∧ encL y 0 = d) : strEq l c m d = (x == y) := by
  rw [Bool.eq_iff_iff, beq_iff_eq]
  unfold strEq
  simp only [beq_eq', Bool.and_eq_true, decide_eq_true_eq]
  constructor
  · rintro ⟨h1, h2⟩
    exact encL_inj x y (by omega) (by omega)
  · rintro rfl
    exact ⟨by omega, by omega⟩
theorem bytesLess_iff : ∀ (x y : List UInt8), Op.bytesLess x y = true ↔
    (encL x 0 * 256 ^ (y.length - x.length) < encL y 0 * 256 ^ (x.length - y.length) ∨ (encL x 0 * 256 ^ (y.length - x.length) = encL y 0 * 256 ^ (x.length - y.length) ∧ x.length < y.length))
  | [], [] => by simp [Op.bytesLess, encL_nil]
  | _ :: _, [] => by simp [Op.bytesLess, encL_nil]
  | [], b :: y => by
    simp only [Op.bytesLess, true_iff, encL_nil, List.length_nil, List.length_cons, Nat.zero_sub, Nat.pow_zero, Nat.mul_one, Nat.zero_mul]
    omega
  | a :: x, b :: y => by
    have ih := bytesLess_iff x y
    simp only [Op.bytesLess, Bool.or_eq_true, Bool.and_eq_true, decide_eq_true_eq, beq_iff_eq, List.length_cons]
    rw [show y.length + 1 - (x.length + 1) = y.length - x.length by omega, show x.length + 1 - (y.length + 1) = x.length - y.length by omega]
    rw [encL_cons, encL_cons, encL_base x, encL_base y]
    simp only [Nat.zero_mul, Nat.zero_add, Nat.add_mul, Nat.mul_assoc, ← Nat.pow_add]
    have hx := encL_lt x
    have hy := encL_lt y
    generalize hN : 256 ^ max x.length y.length = N
    have e1 : x.length + (y.length - x.length) = max x.length y.length := by omega
    have e2 : y.length + (x.length - y.length) = max x.length y.length := by omega
    rw [e1, e2, hN]
    have hX : encL x 0 * 256 ^ (y.length - x.length) < N := by
      rw [← hN, ← e1, Nat.pow_add]; exact Nat.mul_lt_mul_of_pos_right hx (Nat.pow_pos (by decide))
    have hY : encL y 0 * 256 ^ (x.length - y.length) < N := by
      rw [← hN, ← e2, Nat.pow_add]; exact Nat.mul_lt_mul_of_pos_right hy (Nat.pow_pos (by decide))
    generalize encL x 0 * 256 ^ (y.length - x.length) = X at *
    generalize encL y 0 * 256 ^ (x.length - y.length) = Y at *
    rw [ih]
    rcases Nat.lt_trichotomy a.toNat b.toNat with h | h | h
    · have h1 : a < b := UInt8.lt_iff_toNat_lt.2 h
      have h2 : a.toNat * N + N ≤ b.toNat * N := by
        have : (a.toNat + 1) * N ≤ b.toNat * N := Nat.mul_le_mul_right _ h
        rw [Nat.add_mul] at this; omega
      simp only [h1, true_or, true_iff]; left; omega
    · have h1 : a = b := UInt8.toNat_inj.1 h
      subst h1
      have : ¬ a < a := by simp
      simp only [this, false_or, true_and]
      constructor
      · rintro (h1 | ⟨h1, h2⟩)
        · left; omega
        · right; omega
      · rintro (h1 | ⟨h1, h2⟩)
        · left; omega
        · right; omega
    · have h1 : ¬ a < b := by rw [UInt8.lt_iff_toNat_lt]; omega
      have h3 : ¬ a = b := by rintro rfl; omega
      have h2 : b.toNat * N + N ≤ a.toNat * N := by
        have : (b.toNat + 1) * N ≤ a.toNat * N := Nat.mul_le_mul_right _ h
        rw [Nat.add_mul] at this; omega
      simp only [h1, h3, false_or, false_and, false_iff]
      omega
theorem strLt_eq {l c m d : Nat} {x y : List UInt8} (hx : x.length = l ∧ encL x 0 = c) (hy : y.length = m ∧ encL y 0 = d) : strLt l c m d = Op.bytesLess x y := by
  rw [Bool.eq_iff_iff, bytesLess_iff]
  obtain ⟨rfl, rfl⟩ := hx
  obtain ⟨rfl, rfl⟩ := hy
  unfold strLt
  show br (lt (encL x 0 * 256 ^ (y.length - x.length)) (encL y 0 * 256 ^ (x.length - y.length))) true (br (Nat.beq (encL x 0 * 256 ^ (y.length - x.length)) (encL y 0 * 256 ^ (x.length - y.length))) (lt x.length y.length) false) = true ↔ _
  generalize encL x 0 * 256 ^ (y.length - x.length) = X
  generalize encL y 0 * 256 ^ (x.length - y.length) = Y
  simp only [lt_eq, beq_eq']
  by_cases h1 : X < Y
  · simp [h1]
  · by_cases h2 : X = Y
    · simp [h2]
    · simp [h1, h2]
end Go.Eng
