/-
  The closed facts of JournalNil's row, one by one (each is a computation over the whole program).
-/
import Derived.Test.YtepifamhppinjaaGreatDoorRows
import Derived.ProofKit
import Derived.JoinedOf
namespace Go.Proofs.YtepifamhppinjaaGreatDoor.journalNil
set_option maxRecDepth 100000
theorem fact_wf : (Rows.journalNilRow.wf (OpenSpec.ofChange Rows.journalNilSpec)) = true := by kernel_rfl
theorem fact_lay : (laidOutB Tryz.prog) = true := by kernel_rfl
theorem fact_rowed : (mapsRowed Tryz.prog) = true := by kernel_rfl
theorem fact_read : (Tryz.f3.params.all (Tryz.prog.readableRec ·)) = true := by kernel_rfl
theorem fact_tie : (namedTie Tryz.prog Rows.journalNilRow.named Rows.journalNilSpec.vars) = true := by kernel_rfl
theorem fact_s1 : ((Rows.journalNilRow.stops == [])) = true := by kernel_rfl
theorem fact_s2 : ((Tryz.prog.stops == [])) = true := by kernel_rfl
theorem fact_s3 : ((Rows.journalNilRow.knobs == [])) = true := by kernel_rfl
theorem fact_s4 : ((Tryz.prog.stopKnobs == [])) = true := by kernel_rfl
theorem fact_inPlace : ((Rows.journalNilRow.inPlace == Tryz.prog.inPlace 3)) = true := by kernel_rfl
theorem fact_unf : ((Rows.journalNilRow.unfollowed == Tryz.prog.unfollowed 3)) = true := by kernel_rfl
end Go.Proofs.YtepifamhppinjaaGreatDoor.journalNil
