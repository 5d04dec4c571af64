/-
  The closed facts of JournalNil's row, one by one (each is a computation over the whole program).
-/
import Derived.Test.YtepifamhppinjaaGreatDoorRows
import Derived.Test.YtepifamhppinjaaGreatDoorJFactsA
import Derived.Test.YtepifamhppinjaaGreatDoorJFactsB
import Derived.Test.YtepifamhppinjaaGreatDoorJFactsC
import Derived.Test.YtepifamhppinjaaGreatDoorJFactsD
import Derived.Test.YtepifamhppinjaaGreatDoorJFactsE
namespace Go.Proofs.YtepifamhppinjaaGreatDoor.journalNil
set_option maxRecDepth 100000
theorem closed : joinedFacts Tryz.prog 3 Tryz.f3 Rows.journalNilSpec Rows.journalNilRow = true := by
  unfold joinedFacts
  rw [fact_wf, fact_lay, fact_rowed, fact_read, fact_tie, fact_s1, fact_s2, fact_s3, fact_s4, fact_inPlace, fact_unf, fact_rec, fact_named, fact_maps, fact_ifaces, fact_mapsOut, fact_loops, fact_wide, fact_vars, fact_res, fact_io, fact_lo, fact_pk, fact_sh, fact_heard, fact_may, fact_lifts, fact_make, fact_pinned, fact_veil, fact_fits]
  kernel_rfl
end Go.Proofs.YtepifamhppinjaaGreatDoor.journalNil
