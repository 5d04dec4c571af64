/-
  An input that JournalNil's row reads: its closed facts, one by one.
-/
import Derived.Test.YtepifamhppinjaaGreatDoorRows
import Derived.ProofKit
import Derived.LaidMore
import Derived.OpenShut
import Derived.ShutString
import Derived.ChangeOld
import Derived.Stop.Joined
import Derived.Lay
namespace Go.Proofs.YtepifamhppinjaaGreatDoor.journalNil
open Go.ChangeShapes Go.WideShapes Go.ChangeAt Go.RowKit
set_option maxRecDepth 100000
theorem own : ownKnob Tryz.prog.godebug = none := by kernel_rfl
theorem laidOut : laidOutB Tryz.prog = true := by kernel_rfl
theorem cells27 : Tryz.prog.cellsOf 27 = 9 := by kernel_rfl
theorem noInit : Tryz.prog.inits.idxOf? 3 = none := by kernel_rfl
noncomputable def args0 : Array Value := #[.string ByteArray.empty, .agg #[.string ByteArray.empty, .string ByteArray.empty, .int .u64 0, .int .i64 0, .int .i64 0, .slice none 0 0, .bool false, .slice none 0 0, .slice none 0 0]]
noncomputable def w1 (os : Os) : World := World.laidAll Tryz.prog os Rows.journalNilRow.laid
noncomputable def w0 (os : Os) : World := (w1 os).forCall (fun _ _ => 0) ⟨#[], args0, []⟩
theorem wit_zip (os : Os) : (w0 os).variablesZipB Tryz.prog = true := by kernel_rfl
theorem wit_roll (os : Os) : ((w0 os).heap.toList.drop Tryz.prog.globals.size).take ((begin Tryz.prog (fun _ _ => 0) default).world.heap.size - Tryz.prog.globals.size) =
      (begin Tryz.prog (fun _ _ => 0) default).world.heap.toList.drop Tryz.prog.globals.size := by kernel_rfl
theorem wit_ok (os : Os) : Input.okWideB Tryz.prog (w0 os) 3 ⟨#[], args0, []⟩ = true := by kernel_rfl
theorem wit_pre (os : Os) (H : Type) (enc : TypeId × Value → H) : Rows.journalNilSpec.preB enc Tryz.prog Tryz.f3 [] false (w0 os).memory args0 8 = true := by kernel_rfl
theorem wit_sized (os : Os) (H : Type) (enc : TypeId × Value → H) : Rows.journalNilSpec.sizedB enc Tryz.prog Tryz.f3 false (w0 os).memory args0 8 = true := by kernel_rfl
theorem wit_plain : (Rows.journalNilRow.laid.all fun x => x.2.handleName?.isNone) = true := by kernel_rfl
theorem wit_fits (os : Os) : (World.holding Tryz.prog os ⟨#[], #[], []⟩).layFits Tryz.prog Rows.journalNilRow.laid [] = true := by kernel_rfl
theorem wit_ifaces (os : Os) : (World.holding Tryz.prog os ⟨#[], #[], []⟩).layIfaces Tryz.prog Rows.journalNilRow.laid (World.laidAll Tryz.prog os Rows.journalNilRow.laid) = true := by kernel_rfl
theorem trod_a : Tryz.prog.readableRec 9 = true := by kernel_rfl
theorem trod_b : decide (9 < Tryz.prog.types.size) = true := by kernel_rfl
theorem trod_c : Tryz.prog.readableRec 27 = true := by kernel_rfl
theorem trod_d : decide (27 < Tryz.prog.types.size) = true := by kernel_rfl
theorem row_func : Tryz.prog.funcNamed Rows.journalNilRow.func = some 3 := by kernel_rfl
theorem row_inst : Tryz.f3.isInstance Tryz.prog Rows.journalNilRow.origin Rows.journalNilRow.targs := of_decide_eq_true (by kernel_rfl)
theorem row_wrap : Tryz.f3.isWrapper Tryz.prog Rows.journalNilRow.wrapper Rows.journalNilRow.mainSum := by
  unfold Func.isWrapper
  first | (rw [if_pos (by decide +kernel)]; kernel_rfl) | (rw [if_neg (by decide +kernel)]; exact ⟨rfl, rfl⟩)
end Go.Proofs.YtepifamhppinjaaGreatDoor.journalNil
