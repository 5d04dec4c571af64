import Derived.Test.YtepifamhppinjaaGreatDoorEngP6
/- The engine: what makes one object is Go's. -/
namespace Go.Eng
variable {P : Program}

theorem row_eq {n : Nat} {l : List V} {o : Obj} (h : row n l = some o) : o = .arr n (AT.ofList n l) ∧ n ≤ 4096 ∧ l.length = n := by
  obtain ⟨h1, h2⟩ := br_none h
  simp only [ble_eq', lenL_eq, beq_eq', Bool.and_eq_true, decide_eq_true_eq] at h1
  cases h2
  exact ⟨rfl, h1.1, h1.2⟩
/-- a new row is what its list of values says -/
theorem OR_row {ρ : Rho} {w : World} {b z n : Nat} {l : List V} {o : Obj} (h : row n l = some o) {c : Array Value} {e : TypeId} {lo hi : Nat} (hb : w.heap[b]? = some (.cells c e (lo, hi))) (hz : c.size = z) (hfz : lo = hi ∨ z ≤ lo)
    (hv : VRs ρ l (c.toList.take n)) : OR ρ w b z o := by
  obtain ⟨rfl, hn, hl⟩ := row_eq h
  have hlen := hv.length
  rw [List.length_take, hl] at hlen
  have hnc : n ≤ c.size := by have : c.toList.length = c.size := by simp
                              omega
  refine ⟨c, e, lo, hi, hb, hz, hfz, hnc, ?_, fun i hi => ?_⟩
  · have := AT.ofList_cap l (by omega); rwa [hl] at this
  · have hg : (AT.ofList n l).get i = l[i] := by
      subst hl; exact AT.ofList_get l (by omega) i (by omega)
    rw [hg]
    obtain ⟨x, hx, hvx⟩ := hv.get (List.getElem?_eq_getElem (show i < l.length by omega))
    have : (c.toList.take n)[i]? = c[i]? := by rw [List.getElem?_take, if_pos hi]; simp
    rw [this] at hx
    have hxi := (Array.getElem?_eq_some_iff.1 hx)
    obtain ⟨hlt, he⟩ := hxi
    simp only [Array.getD, hlt, dif_pos]
    simpa [he] using hvx

theorem rep_succ {α : Type} (a : List α) (n : Nat) : rep a (n + 1) = a ++ rep a n := by show app a (rep a n) = _; rw [app_eq]
theorem rep_length {α : Type} (a : List α) (n : Nat) : (rep a n).length = n * a.length := by
  induction n with
  | zero => rw [Nat.zero_mul]; rfl
  | succ n ih => rw [rep_succ, List.length_append, ih, Nat.add_mul]; omega
theorem rep_get {α : Type} (a : List α) (n i : Nat) (h : i < n * a.length) : (rep a n)[i]? = a[i % a.length]? := by
  induction n generalizing i with
  | zero => simp at h
  | succ n ih =>
    rw [rep_succ, List.getElem?_append]
    by_cases hi : i < a.length
    · rw [if_pos hi, Nat.mod_eq_of_lt hi]
    · rw [if_neg hi, ih _ (by rw [Nat.add_mul] at h; omega)]
      congr 1
      rw [show i = (i - a.length) + a.length by omega, Nat.add_mod_right]; simp
theorem rep_VRs {ρ : Rho} {z : List V} {z' : Array Value} (h : VRs ρ z z'.toList) (n : Nat) : VRs ρ (rep z n) ((Array.range (n * z'.size)).map fun i => z'[i % z'.size]!).toList := by
  have hl := h.length
  have hsz : z.length = z'.size := by simpa using hl
  refine VRs.mk (by simp [rep_length, hsz]) fun i hi => ?_
  rw [rep_length] at hi
  rw [rep_get _ _ _ hi]
  have hpos : 0 < z.length := by
    rcases Nat.eq_zero_or_pos z.length with h0 | h0
    · rw [h0] at hi; omega
    · exact h0
  have hm : i % z.length < z.length := Nat.mod_lt _ hpos
  obtain ⟨x, hx, hv⟩ := h.get (List.getElem?_eq_getElem hm)
  rw [List.getElem?_eq_getElem hm]
  have hi' : i < n * z'.size := by rw [← hsz]; exact hi
  have hm' : i % z'.size < z'.size := by rw [← hsz]; exact hm
  have hx' : z'[i % z'.size] = x := by
    rw [Array.getElem?_toList, hsz, Array.getElem?_eq_getElem hm'] at hx
    simpa using hx
  simp only [Array.toList_map, Array.toList_range, List.getElem?_map, List.getElem?_range, hi', Option.map_some, Option.getD_some]
  rw [getElem!_pos z' _ hm', hx']; exact hv

/-- what an operation that makes one object comes to -/
def Makes (P : Program) (a : Act) (o : Oper) (w : World) (obj : Obj) (k : Nat → V) (ρ : Rho) : Prop :=
  ∃ v' c z d, (execOp a.eval o).run P w = .ok (.value v') { w with heap := w.heap.push c, drawn := d } ∧
    ∀ id, ρ id = none → OR (ρ.set id (w.heap.size, z)) { w with heap := w.heap.push c } w.heap.size z obj ∧ VR (ρ.set id (w.heap.size, z)) (k id) v'

theorem push_last (w : World) (c : Go.Obj) : ({ w with heap := w.heap.push c } : World).heap[w.heap.size]? = some c := by simp
theorem zero_sound {t : Nat} {l : List V} (h : zero P t = some l) (ρ : Rho) : ∃ z' i, P.info? t = some i ∧ i.zero = some z' ∧ VRs ρ l z'.cells.toList ∧ l.length = i.size ∧ z'.cells.size = i.size ∧ ∀ w, (zeroValue t).run P w = .ok z' w := by
  obtain ⟨i, hi, g⟩ := ob_some h
  obtain ⟨z', hz, g2⟩ := ob_some g
  obtain ⟨h1, g3⟩ := br_none g2
  cases g3
  simp only [lenL_eq, beq_eq', Bool.and_eq_true, decide_eq_true_eq] at h1
  have hv := ofValue_known z' h1.1 ρ
  exact ⟨z', i, hi, hz, hv, h1.2, by rw [← h1.2, hv.length]; simp, fun w => by simp [zeroValue, typeInfo, hi, hz]⟩

theorem make_row {a : Act} {o : Oper} {w : World} {obj : Obj} {ρ : Rho} {n : Nat} {l : List V} (hrow : row n l = some obj) (c : Array Value) (e : TypeId) (hv : VRs ρ l c.toList)
    (k : Nat → V) (v' : Value) (hrun : (execOp a.eval o).run P w = .ok (.value v') { w with heap := w.heap.push (.cells c e) })
    (hk : ∀ id, ρ id = none → VR (ρ.set id (w.heap.size, c.size)) (k id) v') : Makes P a o w obj k ρ := by
  refine ⟨v', .cells c e, c.size, w.drawn, hrun, fun id hid => ⟨?_, hk id hid⟩⟩
  have hl := (row_eq hrow).2.2
  have hlen := hv.length
  refine OR_row hrow (push_last w _) rfl (.inl rfl) ?_
  rw [List.take_of_length_le (by omega)]
  exact VRs.mono (Rho.le_set hid _) _ _ hv

/-! The bytes of a string. -/
def byteV (b : UInt8) : V := .int .u8 (.ofNat b.toNat)
def bvs (n : Nat) : Nat → List V → List V := @Nat.rec (fun _ => Nat → List V → List V) (fun _ acc => acc) (fun _ ih c acc => num (Nat.div c 256) fun c' => num (Nat.mod c 256) fun b => ih c' (.int .u8 (.ofNat b) :: acc)) n
theorem bvs_succ (n c : Nat) (acc : List V) : bvs (n + 1) c acc = bvs n (c / 256) (.int .u8 (.ofNat (c % 256)) :: acc) := by
  show num (Nat.div c 256) (fun c' => num (Nat.mod c 256) fun b => bvs n c' (V.int .u8 (.ofNat b) :: acc)) = _
  simp only [num_eq]; rfl
theorem bvs_eq : ∀ (n : Nat) (l : List UInt8), l.length = n → ∀ acc, bvs n (encL l 0) acc = l.map byteV ++ acc
  | 0, l, h, acc => by rw [List.length_eq_zero_iff.1 h]; rfl
  | n + 1, l, h, acc => by
    have hne : l ≠ [] := by rintro rfl; simp at h
    have e := List.dropLast_concat_getLast hne
    have hl : l.dropLast.length = n := by simp [h]
    rw [bvs_succ]
    have h1 : encL l 0 = encL l.dropLast 0 * 256 + (l.getLast hne).toNat := by
      have := congrArg (fun l => encL l 0) e
      simp only [encL_append, encL_cons, encL_nil] at this
      exact this.symm
    have hb : (l.getLast hne).toNat < 256 := UInt8.toNat_lt _
    rw [h1, show (encL l.dropLast 0 * 256 + (l.getLast hne).toNat) / 256 = encL l.dropLast 0 by omega, show (encL l.dropLast 0 * 256 + (l.getLast hne).toNat) % 256 = (l.getLast hne).toNat by omega, bvs_eq n _ hl]
    have e2 : l.map byteV = l.dropLast.map byteV ++ [byteV (l.getLast hne)] := by
      rw [← List.map_singleton, ← List.map_append, e]
    rw [e2, List.append_assoc]; rfl
theorem bytesV_VRs {ρ : Rho} {len code : Nat} {s : ByteArray} (h : SR len code s) : VRs ρ (bytesV len code) (s.data.map fun b => Value.int .u8 b.toNat).toList := by
  have e : bytesV len code = s.data.toList.map byteV := by
    show bvs len code [] = _
    rw [← h.list.2, bvs_eq len _ h.1, List.append_nil]
  rw [e, Array.toList_map]
  generalize s.data.toList = l
  induction l with
  | nil => simp [VRs]
  | cons b l ih => simp only [List.map_cons, VRs, byteV, VR]; exact ⟨_, _, rfl, rfl, ih⟩
theorem push_modify (a : Array Go.Obj) (x : Go.Obj) (f : Go.Obj → Go.Obj) : (a.push x).modify a.size f = a.push (f x) := by
  apply Array.ext (by simp)
  intro i h1 h2
  rw [Array.getElem_modify]
  by_cases hi : a.size = i
  · subst hi; simp
  · have : i < a.size := by simp at h1; omega
    rw [if_neg hi, Array.getElem_push_lt this, Array.getElem_push_lt this]

theorem alOp_sound {n : Sz} {fr : Fr} {a : Act} {ρ : Rho} (hf : FR ρ n fr a) (o : Oper) {obj : Obj} {k : Nat → V} (h : alOp P n fr o.op = some (obj, k)) (w : World) : Makes P a o w obj k ρ := by
  cases ho : o.op <;> rw [ho] at h <;> simp only [alOp] at h <;> first | (cases h; done) | skip
  case alloc t =>
    obtain ⟨l, hl, g⟩ := ob_some h
    obtain ⟨ob, hrow, g2⟩ := ob_some g
    cases g2
    obtain ⟨z', i, hi, hz, hv, h1, h2, hrun⟩ := zero_sound hl ρ
    refine make_row hrow z'.cells t hv _ (.pointer (some ⟨w.heap.size, 0, none⟩)) ?_ fun id hid => by simp only [VR]; exact ⟨_, _, rfl, Rho.set_self _ _ _⟩
    simp [execOp, ho, Instr.alloc, hrun, newVar, newRow]
  case box t x =>
    obtain ⟨hk, g⟩ := br_none h
    obtain ⟨ob, hrow, g2⟩ := ob_some g
    cases g2
    refine make_row hrow (a.eval x).cells t (cells_VR (ev_VR hf x) hk) _ (.pointer (some ⟨w.heap.size, 0, none⟩)) ?_ fun id hid => by simp only [VR]; exact ⟨_, _, rfl, Rho.set_self _ _ _⟩
    simp [execOp, ho, Instr.box, newVar, newRow]
  case buildSlice t len ps =>
    obtain ⟨e, he, g⟩ := ob_some h
    obtain ⟨sz, hsz, g2⟩ := ob_some g
    obtain ⟨z, hz, g3⟩ := ob_some g2
    obtain ⟨l, hl, g4⟩ := ob_some g3
    obtain ⟨ob, hrow, g5⟩ := ob_some g4
    cases g5
    obtain ⟨z', i, hi, hz', hv, h1, h2, hrun⟩ := zero_sound hz ρ
    obtain ⟨i2, hi2, e2, _⟩ := szOf_eq hsz
    rw [hi] at hi2; cases hi2
    have hps : PRs ρ (partsV n fr ps.toList) (ps.map fun (i, x) => (i, a.eval x)).toList := by
      rw [Array.toList_map]; exact partsV_PRs hf _
    obtain ⟨l', k1, k2⟩ := fillV_sound hps hl (rep_VRs hv len)
    obtain ⟨_, hle, hlen⟩ := row_eq hrow
    have hle' : ¬ (len * sz > 2 ^ 24) := by have : len * sz ≤ 4096 := hle; omega
    have hl'sz : l'.size = len * sz := by have := k2.length; rw [hlen] at this; simpa using this.symm
    refine make_row hrow l' e k2 _ (.slice (some ⟨w.heap.size, 0, none⟩) len len) ?_ fun id hid => ?_
    · rw [h2, e2] at k1
      have k1' : Instr.fill (fun i => some (i * sz, sz)) (((Array.range (len * sz)).map fun i => z'.cells[i % sz]!)) (ps.map fun (i, x) => (i, a.eval x)).toList = some l' := k1
      by_cases h0 : len * sz = 0
      · have e0 : ∀ f : Nat → Value, (Array.range (len * sz)).map f = #[] := fun f => by rw [h0]; simp
        rw [e0] at k1'
        have e1 : ∀ f : Nat → Value, (Array.range 0).map f = #[] := fun f => by simp
        have e2 : ¬ (0 > 2 ^ 24) := by decide
        simp only [execOp, ho, Instr.buildSlice, Sem.run_bind, run_underlying (elemOf_eq he), Result.andThen_ok, run_szOf hsz, Sem.run_pure, h0, if_true, e2, if_false, e1, k1', newRow, run_newObj]
      · have hlz : ¬ (len = 0 ∨ sz = 0) := by simpa [Nat.mul_eq_zero] using h0
        simp only [execOp, ho, Instr.buildSlice, Sem.run_bind, run_underlying (elemOf_eq he), Result.andThen_ok, run_szOf hsz, hle', if_false, Sem.run_pure, h0, hrun, h2, e2, k1', newRow, run_newObj]
    · simp only [VR]
      exact ⟨_, _, len, rfl, Rho.set_self _ _ _, by rw [hl'sz]; omega, Nat.le_refl _, fun _ => rfl, Nat.le_refl _⟩
  case makeMap t r =>
    cases r with
    | some r => cases h
    | none =>
      cases h
      refine ⟨.map (some w.heap.size), .map #[] 0, 0, w.drawn, by simp [execOp, ho, Instr.makeMap], fun id hid => ⟨?_, by simp only [VR]; exact ⟨_, _, rfl, Rho.set_self _ _ _⟩⟩⟩
      exact ⟨#[], push_last w _, rfl⟩
  case makeSlice t l c =>
    obtain ⟨e, he, g⟩ := ob_some h
    obtain ⟨inf, hinf, g0⟩ := ob_some g
    obtain ⟨sz, hsz, g2⟩ := ob_some g0
    obtain ⟨z, hz, g3⟩ := ob_some g2
    obtain ⟨ln, hln, g4⟩ := ob_some g3
    obtain ⟨cn, hcn, g5⟩ := ob_some g4
    obtain ⟨hb, g6⟩ := br_none g5
    obtain ⟨ob, hrow, g7⟩ := ob_some g6
    cases g7
    simp only [ble_eq', Bool.and_eq_true, decide_eq_true_eq] at hb
    obtain ⟨hlc, hc20, hby⟩ := hb
    obtain ⟨z', i, hi, hz', hv, h1, h2, hrun⟩ := zero_sound hz ρ
    obtain ⟨i2, hi2, e2, _⟩ := szOf_eq hsz
    rw [hi] at hi2; cases hi2
    rw [hi] at hinf; cases hinf
    obtain ⟨kl, hkl⟩ := asN_int hln (ev_VR hf l)
    obtain ⟨kc, hkc⟩ := asN_int hcn (ev_VR hf c)
    have hv2 := rep_VRs hv cn
    rw [h2, e2] at hv2
    have wl : IntKind.i64.wrap (ln : Int) = ln := by
      symm; apply wrap_is; simp only [IntKind.bits, IntKind.signed, Nat.reduceSub, Int.reducePow, true_and]; omega
    have wc : IntKind.i64.wrap (cn : Int) = cn := by
      symm; apply wrap_is; simp only [IntKind.bits, IntKind.signed, Nat.reduceSub, Int.reducePow, true_and]; omega
    have hbig : ¬ ((inf.bytes : Int) * (cn : Int) > 2 ^ 48) := by
      have h3 : inf.bytes * cn ≤ 65536 * 1048576 := Nat.mul_le_mul hby hc20
      rw [← Int.natCast_mul]
      generalize inf.bytes * cn = q at *
      rw [show (2 : Int) ^ 48 = 281474976710656 from rfl]
      omega
    refine make_row hrow _ e hv2 _ (.slice (some ⟨w.heap.size, 0, none⟩) ln cn) ?_ fun id hid => ?_
    · have hcond : (decide ((cn : Int) < 0) || decide ((inf.bytes : Int) * (cn : Int) > 2 ^ 48) || decide ((ln : Int) < 0) || decide ((ln : Int) > cn)) = false := by
        simp only [Bool.or_eq_false_iff, decide_eq_false_iff_not]
        exact ⟨⟨⟨by omega, hbig⟩, by omega⟩, by omega⟩
      simp only [execOp, ho, Instr.makeSlice, Sem.run_bind, run_underlying (elemOf_eq he), Result.andThen_ok, hkl, hkc, asInt, run_asIntOf, Sem.run_pure, typeInfo, hi, run_program, wl, wc, hcond, Bool.false_eq_true, if_false, run_askRoom, Int.toNat_natCast, run_szOf hsz]
      by_cases h0 : cn * sz = 0
      · have e1 : ∀ f : Nat → Value, (Array.range 0).map f = #[] := fun f => by simp
        simp only [h0, if_true, Sem.run_pure, Result.andThen_ok, e1, newRow, Sem.run_bind, run_newObj]
      · simp only [h0, if_false, Sem.run_bind, hrun, Result.andThen_ok, Sem.run_pure, newRow, run_newObj, h2, e2]
    · simp only [VR]
      exact ⟨_, _, cn, rfl, Rho.set_self _ _ _, by simp, Nat.le_refl _, fun _ => rfl, hlc⟩
  case convert s d x =>
    obtain ⟨sd, hsd, g0⟩ := ob_some h
    obtain ⟨e, he, g⟩ := ob_some g0
    obtain ⟨hu8, g2⟩ := br_none g
    have hx := ev_VR hf x
    split at g2
    · rename_i len code hev
      obtain ⟨ob, hrow, g3⟩ := ob_some g2
      cases g3
      rw [hev] at hx
      simp only [VR] at hx
      obtain ⟨t, ht, hsr⟩ := hx
      have hbv := bytesV_VRs (ρ := ρ) hsr
      have hsz := hsr.size
      have hd := elemOf_eq he
      generalize hcap : t.size + (w.tape w.drawn (.appendCap t.size 0 e)) % (2 ^ 63 - t.size) = cap
      have hcap' : len ≤ cap := by omega
      refine ⟨.slice (some ⟨w.heap.size, 0, none⟩) t.size cap, .cells ((t.data.map fun b => Value.int .u8 b.toNat) ++ Array.replicate (cap - t.size) (.int .u8 0)) e (cap, cap + 1), cap, w.drawn + 1, ?_, fun id hid => ⟨?_, ?_⟩⟩
      · have hfreeze : ∀ X : Array Value, X.size = cap → ({ w with heap := w.heap.push (.cells X e), drawn := w.drawn + 1 } : World).freeze ⟨w.heap.size, cap, none⟩ 1 = { w with heap := w.heap.push (.cells X e (cap, cap + 1)), drawn := w.drawn + 1 } := by
          intro X hX
          unfold World.freeze
          rw [if_neg (by decide)]
          simp only [push_modify]
          simp
        have hX : ((t.data.map fun (b : UInt8) => Value.int .u8 (b.toNat : Int)) ++ Array.replicate (cap - t.size) (Value.int .u8 0) : Array Value).size = cap := by
          have : t.data.size = t.size := by cases t; rfl
          simp [this]; omega
        have hshape : ∀ X : Array Value, X.size = cap → ({ w with heap := w.heap.push (.cells X e), drawn := w.drawn + 1 } : World).shape? w.heap.size = some (e, cap) := by
          intro X hX; simp [World.shape?, hX]
        simp only [execOp, ho, convert, Sem.run_bind, run_und hsd, run_underlying hd, Result.andThen_ok, ht, run_underlying (isU8_eq hu8), Conv.stringToBytes, run_choose, Question.forced, Bool.false_eq_true, if_false, Question.cut, hcap, newRow, run_newObj, Sem.run_pure, markStringish, run_shape, hshape _ hX, run_freeze, hfreeze _ hX]
      · refine OR_row hrow (push_last w _) ?_ (.inr (Nat.le_refl _)) ?_
        · have : t.data.size = t.size := by cases t; rfl
          simp [this]; omega
        · have hl : (t.data.map fun b => Value.int .u8 b.toNat).toList.length = len := by have := hbv.length; rw [← this]; exact (row_eq hrow).2.2
          rw [Array.toList_append, List.take_append_of_le_length (by omega), List.take_of_length_le (by omega)]
          exact VRs.mono (Rho.le_set hid _) _ _ hbv
      · simp only [VR, hsz]
        exact ⟨_, _, cap, rfl, Rho.set_self _ _ _, by omega, hcap', fun h => (by cases h), Nat.le_refl _⟩
    · cases g2
  case range t x =>
    have hx := ev_VR hf x
    split at h
    · rename_i len code hev
      obtain ⟨d, hd, g⟩ := ob_some h
      split at g
      · cases g
        rw [hev] at hx
        simp only [VR] at hx
        obtain ⟨s, hse, hsr⟩ := hx
        refine ⟨.pointer (some ⟨w.heap.size, 0, none⟩), .stringIter s 0, 0, w.drawn, ?_, fun id hid => ⟨⟨s, push_last w _, hsr⟩, by simp only [VR]; exact ⟨_, _, rfl, Rho.set_self _ _ _⟩⟩⟩
        simp [execOp, ho, Instr.range, run_und hd, hse]
      · cases g
    · cases h
end Go.Eng
