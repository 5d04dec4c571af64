/-
  The closed facts of JournalNil's row, one by one (each is a computation over the whole program).
-/
import Derived.Test.YtepifamhppinjaaGreatDoorRows
import Derived.ProofKit
import Derived.JoinedOf
namespace Go.Proofs.YtepifamhppinjaaGreatDoor.journalNil
set_option maxRecDepth 100000
theorem fact_named : ((Rows.journalNilRow.named == Tryz.prog.varsNamed 3)) = true := by kernel_rfl
end Go.Proofs.YtepifamhppinjaaGreatDoor.journalNil
