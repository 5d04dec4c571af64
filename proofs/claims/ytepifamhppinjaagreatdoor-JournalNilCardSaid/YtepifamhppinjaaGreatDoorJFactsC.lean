/-
  The closed facts of JournalNil's row, one by one (each is a computation over the whole program).
-/
import Derived.Test.YtepifamhppinjaaGreatDoorRows
import Derived.ProofKit
import Derived.JoinedOf
namespace Go.Proofs.YtepifamhppinjaaGreatDoor.journalNil
set_option maxRecDepth 100000
theorem fact_io : ((Rows.journalNilRow.ifacesOut == Tryz.f3.resultTypes.toList.any (Tryz.prog.ifacesRec ·))) = true := by kernel_rfl
theorem fact_lo : ((Rows.journalNilRow.loopsOut == Tryz.f3.resultTypes.toList.any (Tryz.prog.loopsFrom ·))) = true := by kernel_rfl
theorem fact_pk : ((Rows.journalNilRow.plainKeys == Tryz.prog.plainKeys)) = true := by kernel_rfl
theorem fact_sh : (Rows.journalNilRow.shortTexts.isNone) = true := by kernel_rfl
theorem fact_heard : (Tryz.prog.stopsHeard) = true := by kernel_rfl
theorem fact_may : (Tryz.prog.mayEnter) = true := by kernel_rfl
theorem fact_lifts : ((Rows.journalNilRow.lifted == Tryz.prog.liftsFinal)) = true := by kernel_rfl
theorem fact_make : ((Tryz.prog.make == some Rows.journalNilRow.make)) = true := by kernel_rfl
theorem fact_pinned : ((Rows.journalNilRow.pinned == Rows.journalNilRow.pinnedBy)) = true := by kernel_rfl
theorem fact_veil : ((Rows.journalNilRow.veiled == (Tryz.f3.params.toList ++ Rows.journalNilSpec.plain.varTypes Tryz.prog ++ Tryz.f3.resultTypes.toList).any (Tryz.prog.veiledRec ·))) = true := by kernel_rfl
theorem fact_fits : (Rows.journalNilRow.veiledFits Tryz.prog Tryz.f3.params.toList (Tryz.f3.params.toList ++ Rows.journalNilSpec.plain.varTypes Tryz.prog ++ Tryz.f3.resultTypes.toList)) = true := by kernel_rfl
end Go.Proofs.YtepifamhppinjaaGreatDoor.journalNil
