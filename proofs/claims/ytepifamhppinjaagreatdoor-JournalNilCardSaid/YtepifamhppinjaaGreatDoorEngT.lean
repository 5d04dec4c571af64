import Derived.Test.YtepifamhppinjaaGreatDoorEngG
import Derived.Below
import Derived.KernelRfl
/- The engine: what a run that ends in true says. -/
namespace Go.Eng
open Go.RowKit

def R0 : Rho := fun _ => none
theorem sim0 (w : World) : Sim R0 ⟨0, H0⟩ w := ⟨fun _ _ _ h => (by cases h), fun _ _ _ _ _ h => (by cases h)⟩
theorem fresh0 : Fresh R0 ⟨0, H0⟩ := fun _ _ => rfl
theorem glob0 : Glob R0 0 := fun _ h => absurd h (Nat.not_lt_zero _)
theorem Ext.below {h h' : Hp} {w w' : World} {ρ' : Rho} (x : Ext R0 h w ρ' h' w') : Below w.heap.size w w' :=
  ⟨x.os, x.tape, x.output, x.size, fun k hk => x.keep k hk fun ⟨_, _, hr, _⟩ => by cases hr⟩

/-- a run that ends in true, over no memory that was there before -/
theorem calls_true {E : Env} (hE : EnvOk E 0) {m f : Nat} (hx : E.nat f = none) {args : List V} (h : isTrue (callAt E 0 (m + 1) f args ⟨0, H0⟩) = true) {args' : Array Value} (ha : VRs R0 args args'.toList) (w : World) :
    Calls E.P f args' w fun e w' => e = .returned (.bool true) ∧ Below w.heap.size w w' := by
  rw [callAt_none hx] at h
  have hb : body E (callAt E 0 m) 0 f args ⟨0, H0⟩ ≠ .bad := fun e => by rw [e] at h; cases h
  obtain ⟨_, hk⟩ := body_left hE (callAt_sound hE m) f args ⟨0, H0⟩ hb
  refine Calls.mono (hk R0 w args' (sim0 w) fresh0 glob0 ha) fun e w' he => ?_
  generalize body E (callAt E 0 m) 0 f args ⟨0, H0⟩ = o at h he
  unfold isTrue at h
  split at h
  · cases e with
    | returned v =>
      obtain ⟨ρ', x, _, hv⟩ := he
      simp only [VR] at hv
      subst hv
      exact ⟨rfl, x.below⟩
    | panicked _ => exact he.elim
    | outgrown => exact he.elim
  · cases h

/-! A table of functions. -/
noncomputable def look (l : List (Nat × Func)) (f : Nat) : Option Func := @List.rec (Nat × Func) (fun _ => Option Func) none (fun p _ ih => br (Nat.beq p.1 f) (some p.2) ih) l
def Holds1 (P : Program) (p : Nat × Func) : Prop := P.funcs[p.1]? = some p.2 ∧ (p.2.name == "runtime.NumGoroutine") = false
theorem look_sound {P : Program} : ∀ {l : List (Nat × Func)}, (∀ p ∈ l, Holds1 P p) → ∀ {f : Nat} {fn : Func}, look l f = some fn → P.funcs[f]? = some fn ∧ (fn.name == "runtime.NumGoroutine") = false
  | [], _, _, _, h => by cases h
  | p :: l, hl, f, fn, h => by
    have h : br (Nat.beq p.1 f) (some p.2) (look l f) = some fn := h
    by_cases e : p.1 = f
    · rw [show Nat.beq p.1 f = true by simp [e]] at h
      cases h
      exact e ▸ hl p (List.mem_cons_self ..)
    · rw [show Nat.beq p.1 f = false by simp [e]] at h
      exact look_sound (fun q hq => hl q (List.mem_cons_of_mem _ hq)) h
end Go.Eng
