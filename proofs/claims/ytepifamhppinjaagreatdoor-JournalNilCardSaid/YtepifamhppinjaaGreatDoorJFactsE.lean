/-
  The closed facts of JournalNil's row, one by one (each is a computation over the whole program).
-/
import Derived.Test.YtepifamhppinjaaGreatDoorRows
import Derived.ProofKit
import Derived.JoinedOf
namespace Go.Proofs.YtepifamhppinjaaGreatDoor.journalNil
set_option maxRecDepth 100000
theorem fact_maps : ((Rows.journalNilRow.maps == (Tryz.f3.params.toList ++ Rows.journalNilSpec.plain.varTypes Tryz.prog).any (Tryz.prog.mapsRec ·))) = true := by kernel_rfl
theorem fact_ifaces : ((Rows.journalNilRow.ifaces == (Tryz.f3.params.toList ++ Rows.journalNilSpec.plain.varTypes Tryz.prog).any (Tryz.prog.ifacesRec ·))) = true := by kernel_rfl
theorem fact_mapsOut : ((Rows.journalNilRow.mapsOut == Tryz.prog.mapsAmong Tryz.f3.resultTypes.toList)) = true := by kernel_rfl
theorem fact_loops : ((Rows.journalNilRow.loops == (Tryz.f3.params.toList ++ Rows.journalNilSpec.plain.varTypes Tryz.prog).any (Tryz.prog.loopsFrom ·))) = true := by kernel_rfl
theorem fact_wide : ((Rows.journalNilRow.wideKeys == (Tryz.f3.params.toList ++ Rows.journalNilSpec.plain.varTypes Tryz.prog ++ Tryz.f3.resultTypes.toList).any (Tryz.prog.wideKeysFrom ·))) = true := by kernel_rfl
theorem fact_vars : (Rows.journalNilSpec.vars.all (Tryz.prog.varReadable ·)) = true := by kernel_rfl
theorem fact_res : (Tryz.f3.resultTypes.all (fun t => Tryz.prog.readableRec t && decide (t < Tryz.prog.types.size))) = true := by kernel_rfl
end Go.Proofs.YtepifamhppinjaaGreatDoor.journalNil
