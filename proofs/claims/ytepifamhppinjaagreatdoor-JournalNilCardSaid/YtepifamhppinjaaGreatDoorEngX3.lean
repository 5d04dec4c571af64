import Derived.Test.YtepifamhppinjaaGreatDoorEngX2
import Derived.Test.YtepifamhppinjaaGreatDoorEngR
import Derived.Test.YtepifamhppinjaaGreatDoorEngN
import Derived.Laws.Externs
/- The engine: the library's functions without a body, as calls. -/
namespace Go.Eng

noncomputable def nCount (args : List V) (h : Hp) : O :=
  match args with
  | [.str l c, .int .u8 (.ofNat b)] => br (lt b 256) (num (cntV b l c 0) fun r => .val (.int .i64 (.ofNat r)) h) .bad
  | _ => .bad
noncomputable def nIndex (args : List V) (h : Hp) : O :=
  match args with
  | [.str l c, .int .u8 (.ofNat b)] => br (lt b 256) (@Nat.rec (fun _ => O) (.val (.int .i64 (.negSucc 0)) h) (fun r _ => .val (.int .i64 (.ofNat r)) h) (idxV b c l l)) .bad
  | _ => .bad
noncomputable def nCmp (args : List V) (h : Hp) : O :=
  match args with
  | [.str l c, .str m d] => .val (.int .i64 (br (strEq l c m d) (.ofNat 0) (br (strLt l c m d) (.negSucc 0) (.ofNat 1)))) h
  | _ => .bad
theorem cmpB : ∀ x y : List UInt8, Lib.compareBytes x y = if x == y then 0 else if Op.bytesLess x y then -1 else 1
  | [], [] => rfl
  | [], _ :: _ => rfl
  | _ :: _, [] => rfl
  | a :: x, b :: y => by
    have ih := cmpB x y
    simp only [Lib.compareBytes, Op.bytesLess]
    by_cases h1 : a < b
    · have hne : a ≠ b := fun e => by subst e; exact absurd h1 (UInt8.lt_irrefl a)
      simp [h1, hne]
    · by_cases h2 : b < a
      · have hne : a ≠ b := fun e => by subst e; exact absurd h2 (UInt8.lt_irrefl a)
        simp [h1, h2, hne]
      · have he : a = b := UInt8.le_antisymm (UInt8.not_lt.1 h2) (UInt8.not_lt.1 h1)
        subst he
        simp only [h1, if_false]
        rw [ih]
        simp
/-- a function without a body answers -/
def ExtAt (P : Program) (f : Nat) (args : List V) (h : Hp) (r : O) : Prop :=
  ∃ v, r = .val v h ∧ ∀ ρ (args' : Array Value) (w : World), VRs ρ args args'.toList → ∃ v', (callFunc f args').run P w = .ok (.value v') w ∧ VR ρ v v'
def ExtOk (P : Program) (f : Nat) (g : List V → Hp → O) : Prop := ∀ args h, g args h ≠ .bad → ExtAt P f args h (g args h)

theorem byte_of {b : Nat} (h : b < 256) : ((Int.ofNat b).toNat.toUInt8).toNat = b := by
  have e : (Int.ofNat b).toNat = b := rfl
  rw [e]
  show (UInt8.ofNat b).toNat = b
  rw [UInt8.toNat_ofNat']; omega

theorem nCount_ok {P : Program} {f : Nat} {fn : Func} (hf : P.funcs[f]? = some fn) (hname : (fn.name == "runtime.NumGoroutine") = false) (hb : fn.body.isNone = true) (hn : Extern.findNext fn = none) (he : Extern.find fn = some Extern.BytealgCount.count) : ExtOk P f nCount := by
  intro args h hbad
  unfold nCount at hbad ⊢
  split at hbad
  · rename_i l c b
    cases hlt : lt b 256 with
    | false => rw [hlt] at hbad; exact absurd rfl hbad
    | true =>
      simp only [lt_eq, decide_eq_true_eq] at hlt
      refine ⟨.int .i64 (.ofNat (cntV b l c 0)), by simp only [br_true, num_eq], fun ρ args' w ha => ?_⟩
      simp only [VRs, VR] at ha
      obtain ⟨_, _, e, ⟨s, rfl, hs⟩, _, _, rfl, rfl, rfl⟩ := ha
      have harr : args' = #[.string s, .int .u8 (.ofNat b)] := by apply Array.ext'; rw [e]
      subst harr
      refine ⟨_, by rw [run_callFunc_extern hf hname hb hn he, Lib.run_countString]; rfl, ?_⟩
      simp only [VR]
      have := cntV_eq ((Int.ofNat b).toNat.toUInt8) l s.data.toList hs.1 0
      rw [byte_of hlt, hs.list.2, Nat.zero_add] at this
      rw [this]; rfl
  · exact absurd rfl hbad
theorem nIndex_ok {P : Program} {f : Nat} {fn : Func} (hf : P.funcs[f]? = some fn) (hname : (fn.name == "runtime.NumGoroutine") = false) (hb : fn.body.isNone = true) (hn : Extern.findNext fn = none) (he : Extern.find fn = some Extern.BytealgIndexByte.indexByte) : ExtOk P f nIndex := by
  intro args h hbad
  unfold nIndex at hbad ⊢
  split at hbad
  · rename_i l c b
    cases hlt : lt b 256 with
    | false => rw [hlt] at hbad; exact absurd rfl hbad
    | true =>
      simp only [lt_eq, decide_eq_true_eq] at hlt
      refine ⟨.int .i64 ((idxV b c l l : Nat) - 1 : Int), ?_, fun ρ args' w ha => ?_⟩
      · simp only [br_true]
        cases idxV b c l l with
        | zero => rfl
        | succ r => simp
      simp only [VRs, VR] at ha
      obtain ⟨_, _, e, ⟨s, rfl, hs⟩, _, _, rfl, rfl, rfl⟩ := ha
      have harr : args' = #[.string s, .int .u8 (.ofNat b)] := by apply Array.ext'; rw [e]
      subst harr
      refine ⟨_, by rw [run_callFunc_extern hf hname hb hn he, Lib.run_indexByteString]; rfl, ?_⟩
      simp only [VR]
      have := idxV_eq ((Int.ofNat b).toNat.toUInt8) s.data.toList s.data.toList.length s.data.toList rfl [] rfl
      rw [byte_of hlt, hs.list.2, hs.1] at this
      rw [this]
      split
      · rename_i h1; rw [h1]
      · simp
  · exact absurd rfl hbad
theorem nCmp_ok {P : Program} {f : Nat} {fn : Func} (hf : P.funcs[f]? = some fn) (hname : (fn.name == "runtime.NumGoroutine") = false) (hb : fn.body.isNone = true) (hn : Extern.findNext fn = none) (he : Extern.find fn = some Extern.BytealgCompare.compare) : ExtOk P f nCmp := by
  intro args h hbad
  unfold nCmp at hbad ⊢
  split at hbad
  · rename_i l c m d
    refine ⟨_, rfl, fun ρ args' w ha => ?_⟩
    simp only [VRs, VR] at ha
    obtain ⟨_, _, e, ⟨s, rfl, hs⟩, _, _, rfl, ⟨t, rfl, ht⟩, rfl⟩ := ha
    have harr : args' = #[.string s, .string t] := by apply Array.ext'; rw [e]
    subst harr
    refine ⟨.int .i64 (Extern.BytealgCompare.cmp s t), by rw [run_callFunc_extern hf hname hb hn he]; rfl, ?_⟩
    simp only [VR]
    rw [Lib.cmp_eq, cmpB, strEq_eq hs.list ht.list, strLt_eq hs.list ht.list]
    cases (s.data.toList == t.data.toList) with
    | true => rfl
    | false => cases Op.bytesLess s.data.toList t.data.toList <;> rfl
  · exact absurd rfl hbad
end Go.Eng
