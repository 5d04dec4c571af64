import Derived.Test.YtepifamhppinjaaGreatDoorEngP1
import Derived.Lib.Bytealg
/- The engine: the library's functions without a body, on strings: count, index, compare. -/
namespace Go.Eng

noncomputable def cntV (b : Nat) (n : Nat) : Nat → Nat → Nat :=
  @Nat.rec (fun _ => Nat → Nat → Nat) (fun _ acc => acc) (fun _ ih c acc => num (Nat.div c 256) fun c' => br (Nat.beq (Nat.mod c 256) b) (num (Nat.succ acc) fun a => ih c' a) (ih c' acc)) n
theorem cntV_succ (b n c acc : Nat) : cntV b (n + 1) c acc = cntV b n (c / 256) (if c % 256 = b then acc + 1 else acc) := by
  show num (Nat.div c 256) (fun c' => br (Nat.beq (Nat.mod c 256) b) (num (Nat.succ acc) fun a => cntV b n c' a) (cntV b n c' acc)) = _
  simp only [num_eq]
  by_cases h : c % 256 = b
  · rw [if_pos h, show Nat.beq (Nat.mod c 256) b = true by rw [beq_eq']; exact decide_eq_true h]; rfl
  · rw [if_neg h, show Nat.beq (Nat.mod c 256) b = false by rw [beq_eq']; exact decide_eq_false h]; rfl
theorem cntV_eq (b : UInt8) : ∀ (n : Nat) (l : List UInt8), l.length = n → ∀ acc, cntV b.toNat n (encL l 0) acc = acc + l.count b
  | 0, l, h, acc => by rw [List.length_eq_zero_iff.1 h]; rfl
  | n + 1, l, h, acc => by
    have hne : l ≠ [] := by rintro rfl; simp at h
    have e := List.dropLast_concat_getLast hne
    have hl : l.dropLast.length = n := by simp [h]
    have h1 : encL l 0 = encL l.dropLast 0 * 256 + (l.getLast hne).toNat := by
      have := congrArg (fun l => encL l 0) e
      simp only [encL_append, encL_cons, encL_nil] at this
      exact this.symm
    have hb : (l.getLast hne).toNat < 256 := UInt8.toNat_lt _
    rw [cntV_succ, h1, show (encL l.dropLast 0 * 256 + (l.getLast hne).toNat) / 256 = encL l.dropLast 0 by omega,
      show (encL l.dropLast 0 * 256 + (l.getLast hne).toNat) % 256 = (l.getLast hne).toNat by omega, cntV_eq b n _ hl]
    have hc : l.count b = l.dropLast.count b + (if l.getLast hne = b then 1 else 0) := by
      conv => lhs; rw [← e]
      rw [List.count_append, List.count_singleton]
      simp only [beq_iff_eq]
    rw [hc]
    by_cases hx : l.getLast hne = b
    · rw [if_pos (by rw [hx]), if_pos hx]; omega
    · rw [if_neg (fun h => hx (UInt8.toNat_inj.1 h)), if_neg hx]; omega
/-- the place of a byte, one more; nought if there is none: n bytes are left of len -/
noncomputable def idxV (b c len n : Nat) : Nat :=
  @Nat.rec (fun _ => Nat) 0 (fun m ih => br (Nat.beq (Nat.mod (Nat.div c (Nat.pow 256 m)) 256) b) (num (Nat.sub len m) fun r => r) ih) n
theorem idxV_succ (b c len m : Nat) : idxV b c len (m + 1) = if c / 256 ^ m % 256 = b then len - m else idxV b c len m := by
  show br (Nat.beq (Nat.mod (Nat.div c (Nat.pow 256 m)) 256) b) (num (Nat.sub len m) fun r => r) (idxV b c len m) = _
  simp only [num_eq]
  by_cases h : c / 256 ^ m % 256 = b
  · rw [if_pos h, show Nat.beq (Nat.mod (Nat.div c (Nat.pow 256 m)) 256) b = true by rw [beq_eq']; exact decide_eq_true h]; rfl
  · rw [if_neg h, show Nat.beq (Nat.mod (Nat.div c (Nat.pow 256 m)) 256) b = false by rw [beq_eq']; exact decide_eq_false h]; rfl
theorem idxV_eq (b : UInt8) (l : List UInt8) : ∀ (n : Nat) (r : List UInt8), r.length = n → ∀ p : List UInt8, l = p ++ r → ((idxV b.toNat (encL l 0) l.length n : Nat) : Int) - 1 = if Lib.indexByte r b = -1 then -1 else Lib.indexByte r b + p.length
  | 0, r, h, p, _ => by rw [List.length_eq_zero_iff.1 h]; rfl
  | n + 1, [], h, p, _ => by simp at h
  | n + 1, x :: r, h, p, e => by
    have hr : r.length = n := by simpa using h
    have hlen : l.length = p.length + (n + 1) := by rw [e]; simp [hr]
    have hg : encL l 0 / 256 ^ n % 256 = x.toNat := by
      have := encL_get l p.length (by omega)
      rw [show l.length - (p.length + 1) = n by omega] at this
      rw [this]; simp [e]
    rw [idxV_succ, hg]
    unfold Lib.indexByte
    by_cases hx : x = b
    · subst hx
      rw [if_pos rfl]
      simp only [beq_self_eq_true, if_true]
      rw [if_neg (by decide)]; omega
    · rw [if_neg (fun h => hx (UInt8.toNat_inj.1 h))]
      have hbf : (x == b) = false := by simpa using hx
      simp only [hbf, Bool.false_eq_true, if_false]
      rw [idxV_eq b l n r hr (p ++ [x]) (by rw [e]; simp)]
      have hge := Lib.indexByte_ge r b
      by_cases hm : Lib.indexByte r b = -1
      · simp [hm]
      · have hbm : (Lib.indexByte r b == -1) = false := by simpa using hm
        simp only [hm, hbm, Bool.false_eq_true, if_false, List.length_append, List.length_singleton]
        rw [if_neg (by omega)]; omega
end Go.Eng
