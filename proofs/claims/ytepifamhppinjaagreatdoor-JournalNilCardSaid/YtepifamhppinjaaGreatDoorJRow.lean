/-
  The given statement on JournalNil: for every input it returns true, and the input reads as it did; the listed package variables read as the program lays them.
-/
import Derived.Test.YtepifamhppinjaaGreatDoorJLift
import Derived.Test.YtepifamhppinjaaGreatDoorJFacts
namespace Go.Proofs.YtepifamhppinjaaGreatDoor.journalNil
open Go.ChangeShapes Go.WideShapes Go.ChangeAt Go.RowKit
theorem row_holds : Rows.JournalNilSaid :=
  OpenClaim.holds_of_wide 3 Tryz.f3 rfl rfl rfl rfl rfl rfl rfl ⟨rfl, rfl, rfl, rfl, rfl⟩ rfl rfl rfl rfl rfl row_func Tryz.func3 closed row_inst row_wrap
    (fun os started H enc _ => lifted os started H enc)
#print axioms row_holds
end Go.Proofs.YtepifamhppinjaaGreatDoor.journalNil
