/-
  No function of the translation starts a goroutine.
-/
import Derived.Test.YtepifamhppinjaaGreatDoorRows
import Derived.KernelRfl
import GoSem.ClaimGoes
namespace Go.Proofs.YtepifamhppinjaaGreatDoor.journalNil
open Go Go.Proofs.YtepifamhppinjaaGreatDoor
set_option maxRecDepth 100000
theorem goes0 : ((Tryz.prog.funcs.toList.take 150).all fun fn => !fn.goes) = true := by kernel_rfl
theorem goes1 : (((Tryz.prog.funcs.toList.drop 150).take 150).all fun fn => !fn.goes) = true := by kernel_rfl
theorem goes2 : (((Tryz.prog.funcs.toList.drop 150).drop 150).all fun fn => !fn.goes) = true := by kernel_rfl
theorem all_of_parts {α : Type} (p : α → Bool) (n : Nat) (l : List α) (h1 : (l.take n).all p = true) (h2 : (l.drop n).all p = true) : l.all p = true := by
  rw [← List.take_append_drop n l, List.all_append, h1, h2]; rfl
theorem goesNone : (Tryz.prog.funcs.toList.all fun fn => !fn.goes) = true :=
  all_of_parts _ 150 _ goes0 (all_of_parts _ 150 _ goes1 goes2)
theorem goesBy_none {P : Program} (h : (P.funcs.toList.all fun fn => !fn.goes) = true) (c : OpenClaim) (hs : c.start = .entering) : false = c.goesBy P := by
  have hall : ∀ fn ∈ P.funcs.toList, fn.goes = false := fun fn hf => by simpa using List.all_eq_true.1 h fn hf
  have h1 : ∀ g : Nat, (P.funcs[g]?).any Func.goes = false := by
    intro g
    cases hg : P.funcs[g]? with
    | none => rfl
    | some fn =>
      have : fn ∈ P.funcs.toList := by
        rw [Array.mem_toList_iff]
        exact Array.mem_of_getElem? hg
      exact hall fn this
  have h2 : P.funcs.any Func.goes = false := by
    rw [← Array.any_toList]
    exact List.any_eq_false.2 fun fn hf => by simp [hall fn hf]
  have h3 : ∀ f, P.goes f = false := by
    intro f
    unfold Program.goes
    rw [h2, Bool.and_false, Bool.or_false]
    exact List.any_eq_false.2 fun g _ => by simp [h1 g]
  unfold OpenClaim.goesBy Program.goesAt Program.goesFrom
  rw [hs]
  cases P.funcNamed c.func with
  | none => rfl
  | some f => show false = (P.goes f || false); rw [h3 f]; rfl
theorem goes_row : false = Rows.journalNilRow.goesBy Tryz.prog := goesBy_none goesNone _ rfl
end Go.Proofs.YtepifamhppinjaaGreatDoor.journalNil
