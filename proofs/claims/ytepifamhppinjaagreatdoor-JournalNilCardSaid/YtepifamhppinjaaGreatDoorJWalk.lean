/-
  JournalNil returns true whatever its two arguments are, and writes nothing that was there before the call. No conditions.
-/
import Derived.Test.YtepifamhppinjaaGreatDoorEngT
import Derived.Test.YtepifamhppinjaaGreatDoorProg
namespace Go.Proofs.YtepifamhppinjaaGreatDoor.journalNil
open Go Go.Eng Go.RowKit
open Go.Proofs
set_option maxRecDepth 100000
noncomputable def tbl0 : List (Nat × Func) := [(3, Tryz.f3), (4, Tryz.f4), (5, Tryz.f5), (6, Tryz.f6), (7, Tryz.f7), (8, Tryz.f8), (9, Tryz.f9), (10, Tryz.f10), (11, Tryz.f11), (12, Tryz.f12), (13, Tryz.f13), (14, Tryz.f14), (15, Tryz.f15), (26, Tryz.f26), (28, Tryz.f28), (29, Tryz.f29), (30, Tryz.f30), (31, Tryz.f31), (32, Tryz.f32)]
noncomputable def env : Env := { P := Tryz.prog, tbl := Go.Eng.look tbl0, nat := fun _ => none, ext := fun _ => none }
theorem tbl0_holds : ∀ p ∈ tbl0, Holds1 Tryz.prog p := by
  have h3 : Holds1 Tryz.prog (3, Tryz.f3) := ⟨Tryz.func3, by kernel_rfl⟩
  have h4 : Holds1 Tryz.prog (4, Tryz.f4) := ⟨Tryz.func4, by kernel_rfl⟩
  have h5 : Holds1 Tryz.prog (5, Tryz.f5) := ⟨Tryz.func5, by kernel_rfl⟩
  have h6 : Holds1 Tryz.prog (6, Tryz.f6) := ⟨Tryz.func6, by kernel_rfl⟩
  have h7 : Holds1 Tryz.prog (7, Tryz.f7) := ⟨Tryz.func7, by kernel_rfl⟩
  have h8 : Holds1 Tryz.prog (8, Tryz.f8) := ⟨Tryz.func8, by kernel_rfl⟩
  have h9 : Holds1 Tryz.prog (9, Tryz.f9) := ⟨Tryz.func9, by kernel_rfl⟩
  have h10 : Holds1 Tryz.prog (10, Tryz.f10) := ⟨Tryz.func10, by kernel_rfl⟩
  have h11 : Holds1 Tryz.prog (11, Tryz.f11) := ⟨Tryz.func11, by kernel_rfl⟩
  have h12 : Holds1 Tryz.prog (12, Tryz.f12) := ⟨Tryz.func12, by kernel_rfl⟩
  have h13 : Holds1 Tryz.prog (13, Tryz.f13) := ⟨Tryz.func13, by kernel_rfl⟩
  have h14 : Holds1 Tryz.prog (14, Tryz.f14) := ⟨Tryz.func14, by kernel_rfl⟩
  have h15 : Holds1 Tryz.prog (15, Tryz.f15) := ⟨Tryz.func15, by kernel_rfl⟩
  have h26 : Holds1 Tryz.prog (26, Tryz.f26) := ⟨Tryz.func26, by kernel_rfl⟩
  have h28 : Holds1 Tryz.prog (28, Tryz.f28) := ⟨Tryz.func28, by kernel_rfl⟩
  have h29 : Holds1 Tryz.prog (29, Tryz.f29) := ⟨Tryz.func29, by kernel_rfl⟩
  have h30 : Holds1 Tryz.prog (30, Tryz.f30) := ⟨Tryz.func30, by kernel_rfl⟩
  have h31 : Holds1 Tryz.prog (31, Tryz.f31) := ⟨Tryz.func31, by kernel_rfl⟩
  have h32 : Holds1 Tryz.prog (32, Tryz.f32) := ⟨Tryz.func32, by kernel_rfl⟩
  intro p hp
  simp only [tbl0, List.mem_cons, List.not_mem_nil, or_false] at hp
  rcases hp with rfl | rfl | rfl | rfl | rfl | rfl | rfl | rfl | rfl | rfl | rfl | rfl | rfl | rfl | rfl | rfl | rfl | rfl | rfl <;> assumption
theorem envOk : EnvOk env 0 := ⟨fun _ _ h => look_sound tbl0_holds h, by kernel_rfl, fun _ _ h => by cases h⟩
noncomputable def rec0 : V := .agg (rep [.unk] 9)
theorem run_true : isTrue (callAt env 0 20 3 [.unk, rec0] ⟨0, H0⟩) = true := by kernel_rfl
theorem unks (ρ : Rho) : ∀ (n : Nat) (l : List Value), l.length = n → VRs ρ (rep [V.unk] n) l
  | 0, l, h => by rw [List.length_eq_zero_iff.1 h]; rfl
  | n + 1, [], h => by simp at h
  | n + 1, x :: l, h => ⟨x, l, rfl, by simp [VR], unks ρ n l (by simpa using h)⟩
theorem walk (v : Value) (cs : Array Value) (hcs : cs.size = 9) (w : World) : Calls Tryz.prog 3 #[v, .agg cs] w fun e w' => e = .returned (.bool true) ∧ Below w.heap.size w w' :=
  calls_true (m := 19) envOk rfl run_true (args' := #[v, .agg cs]) (by
    refine ⟨v, [.agg cs], rfl, by simp [VR], .agg cs, [], rfl, ?_, rfl⟩
    simp only [rec0, VR]
    exact ⟨cs, rfl, unks _ 9 _ (by simpa using hcs)⟩) w
end Go.Proofs.YtepifamhppinjaaGreatDoor.journalNil
