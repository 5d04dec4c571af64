import Derived.Test.YtepifamhppinjaaGreatDoorEngN
import Derived.Test.YtepifamhppinjaaGreatDoorEngS
import Derived.Laws.Strings
import Derived.Laws.Strings2
import Derived.Laws.BytesString
import Derived.Laws.Concat
import Derived.Deep.MidRow
import Derived.ChangeKeysEq
/- The engine: what only reads is Go's (first part). -/
namespace Go.Eng
variable {P : Program}

theorem SR.list {l c : Nat} {s : ByteArray} (h : SR l c s) : s.data.toList.length = l ∧ encL s.data.toList 0 = c := h
theorem SR.size {l c : Nat} {s : ByteArray} (h : SR l c s) : s.size = l := by rw [← h.1]; cases s; rfl
theorem szOf_eq {t n : Nat} (h : szOf P t = some n) : ∃ i, P.info? t = some i ∧ i.size = n ∧ P.cellsOf t = n := by
  obtain ⟨i, hi, e⟩ := ob_some h
  cases e
  exact ⟨i, hi, rfl, by simp [Program.cellsOf, hi]⟩
theorem run_szOf {t n : Nat} (h : szOf P t = some n) (w : World) : (sizeOf t).run P w = .ok n w := by
  obtain ⟨i, hi, e, _⟩ := szOf_eq h
  simp [sizeOf, typeInfo, hi, e]
theorem run_und {t : Nat} {d : TypeDesc} (h : und P t = some d) (w : World) : (underlying t).run P w = .ok d w := run_underlying h w
theorem isAggT_eq {t : Nat} {b : Bool} (h : isAggT P t = some b) : ∃ d, P.underlying t = some d ∧ d.isRow = b ∧ ∀ w, (isAgg t).run P w = .ok b w := by
  obtain ⟨d, hd, e⟩ := ob_some h
  cases e
  refine ⟨d, hd, ?_, fun w => ?_⟩
  · cases d <;> rfl
  · unfold isAgg
    rw [Sem.run_bind, run_und hd w]
    cases d <;> rfl

/-! Strings. -/
theorem opStr_sound {op : BinOp} {l c m d : Nat} {v : V} (h : opStr op l c m d = some v) {x y : ByteArray} (hx : SR l c x) (hy : SR m d y) (t : TypeId) (w : World) :
    ∃ v', (binOp op t (.string x) (.string y)).run P w = .ok v' w ∧ ∀ ρ, VR ρ v v' := by
  have e1 := strEq_eq hx.list hy.list
  have e2 := strLt_eq hx.list hy.list
  have e3 := strLt_eq hy.list hx.list
  have hle : (Op.bytesLess x.data.toList y.data.toList || x.data.toList == y.data.toList) = !Op.bytesLess y.data.toList x.data.toList := by
    rw [← e1, ← e2, ← e3, Bool.eq_iff_iff]
    unfold strLt strEq
    have h1 := hx.1; have h2 := hy.1
    simp only [lt_eq, beq_eq']
    have ha : Nat.mul c (Nat.pow 256 (Nat.sub m l)) = c * 256 ^ (m - l) := rfl
    have hb : Nat.mul d (Nat.pow 256 (Nat.sub l m)) = d * 256 ^ (l - m) := rfl
    rw [ha, hb]
    by_cases hlm : l = m
    · subst hlm
      simp only [Nat.sub_self, Nat.pow_zero, Nat.mul_one]
      by_cases hc : c < d
      · have : ¬ d < c := by omega
        have h3 : ¬ d = c := by omega
        simp [hc, this, h3]
      · by_cases hd : d < c
        · have h3 : ¬ c = d := by omega
          simp [hc, hd, h3]
        · have : c = d := by omega
          subst this; simp
    · generalize c * 256 ^ (m - l) = X
      generalize d * 256 ^ (l - m) = Y
      have hml : ¬ m = l := fun e => hlm e.symm
      by_cases hX : X < Y
      · have : ¬ Y < X := by omega
        have h3 : ¬ Y = X := by omega
        simp [hX, this, h3]
      · by_cases hY : Y < X
        · have : ¬ X = Y := by omega
          simp [hX, hY, this, hlm]
        · have : X = Y := by omega
          subst this
          simp [hlm]; omega
  have hS := fun o => show binOp o t (.string x) (.string y) = Op.stringOp o x y by cases o <;> simp [binOp]
  cases op <;> first | (cases h; done) | skip
  case add =>
    have h' : br (Nat.ble (l + m) 1099511627776) (some (V.str (l + m) (c * 256 ^ m + d))) none = some v := by
      have h2 := h
      simp only [opStr, num_eq] at h2
      exact h2
    obtain ⟨hb, h2⟩ := br_none h'
    cases h2
    simp only [ble_eq', decide_eq_true_eq] at hb
    have s1 := hx.size; have s2 := hy.size
    refine ⟨.string (x ++ y), by rw [hS]; exact run_string_add_sum w x y (by omega), fun ρ => ?_⟩
    simp only [VR]
    refine ⟨_, rfl, ?_, ?_⟩
    · simp [hx.1, hy.1]
    · show encL (x ++ y).data.toList 0 = _
      rw [ByteArray.data_append, Array.toList_append, encL_append, encL_base, hx.list.2, hy.list.2, hy.1]
  case eql => cases h; exact ⟨.bool (x.toList == y.toList), by rw [hS]; simp [Op.stringOp], fun ρ => by simp only [VR, e1, ByteArray.toList_eq]⟩
  case neq => cases h; exact ⟨.bool !(x.toList == y.toList), by rw [hS]; simp [Op.stringOp], fun ρ => by simp only [VR, e1, ByteArray.toList_eq]⟩
  case lss => cases h; exact ⟨.bool (Op.bytesLess x.toList y.toList), by rw [hS]; simp [Op.stringOp], fun ρ => by simp only [VR, e2, ByteArray.toList_eq]⟩
  case leq => cases h; exact ⟨.bool (Op.bytesLess x.toList y.toList || x.toList == y.toList), by rw [hS]; simp [Op.stringOp], fun ρ => by simp only [VR, e3, ByteArray.toList_eq, hle]⟩
  case gtr => cases h; exact ⟨.bool !(Op.bytesLess x.toList y.toList || x.toList == y.toList), by rw [hS]; simp [Op.stringOp], fun ρ => by simp only [VR, e3, ByteArray.toList_eq, hle, Bool.not_not]⟩
  case geq => cases h; exact ⟨.bool !(Op.bytesLess x.toList y.toList), by rw [hS]; simp [Op.stringOp], fun ρ => by simp only [VR, e2, ByteArray.toList_eq]⟩

end Go.Eng
