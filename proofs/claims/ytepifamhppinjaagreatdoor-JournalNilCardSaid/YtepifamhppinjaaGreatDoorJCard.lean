/-
  The card of JournalNil: for every input it returns true, and the input reads as it did; the listed package variables are tied to the program's text.
-/
import Derived.Test.YtepifamhppinjaaGreatDoorJRow
import Derived.Test.YtepifamhppinjaaGreatDoorJTie
import Derived.Test.YtepifamhppinjaaGreatDoorJGoes
import Derived.Test.YtepifamhppinjaaGreatDoorCards
import Derived.SevenTiedAt
import Derived.LaidByTextLater
namespace Go.Proofs.YtepifamhppinjaaGreatDoor.journalNil
open Go Go.Proofs.YtepifamhppinjaaGreatDoor
set_option maxRecDepth 100000
theorem pin_first : Tryz.pinned.checked.prog.pinnedFits "unicode/utf8.first" = true := by kernel_rfl
theorem noUnsafe : Tryz.pinned.checked.prog.headLifts.contains "ownunsafe" = false := by kernel_rfl
theorem fits : Tryz.pinned.checked.prog.listedFits (tieL ++ [("unicode/utf8.first", Rows.laid_unicode_utf8_first)]) = true := by
  unfold Program.listedFits
  rw [noUnsafe]
  kernel_rfl
theorem row_tie : Rows.journalNilRow.laidByTextAt .later Tryz.pinned [.data, .data, .data, .data, .sentinel, .sentinel, .widerDeep, .widerDeep, .data, .pinned] true :=
  OpenClaim.laidByTextAt_pinned rfl rfl tie rfl rfl rfl rfl (fun y hy _e => by
    simp only [Rows.journalNilRow, List.zip_cons_cons, List.zip_nil_right, List.mem_cons, List.mem_nil_iff, or_false] at hy
    rcases hy with rfl | rfl | rfl | rfl | rfl | rfl | rfl | rfl | rfl | rfl
    · cases _e
    · cases _e
    · cases _e
    · cases _e
    · cases _e
    · cases _e
    · cases _e
    · cases _e
    · cases _e
    · exact ⟨pin_first, by kernel_rfl⟩) fits
theorem wfText : Rows.journalNilRow.wfByText (OpenSpec.ofChange Rows.journalNilSpec) = true := by kernel_rfl
theorem isMain : Tryz.pinned.checked.prog.mainIs = some (true, "f02f605182a7333bc211bfa06f491a586aabb4b2d447583ae6d9adc0949da614".toList) := by kernel_rfl
theorem looks : true = Tryz.prog.looks [] := by kernel_rfl
theorem noStand9 : Tryz.prog.wantsStandIn 9 = false := by kernel_rfl
theorem noStand27 : Tryz.prog.wantsStandIn 27 = false := by kernel_rfl
theorem noStand (j : Nat) (t : TypeId) (ht : Tryz.f3.params[j]? = some t) : Tryz.prog.wantsStandIn t = false := by
  rw [Tryz.params3] at ht
  rcases j with _ | _ | j
  · have h9 : t = 9 := by simpa using ht.symm
    subst h9; exact noStand9
  · have h27 : t = 27 := by simpa using ht.symm
    subst h27; exact noStand27
  · simp at ht
theorem card_holds : Rows.JournalNilCardSaid :=
  Claim7.holds_tied_plain_at .later [] [.data, .data, .data, .data, .sentinel, .sentinel, .widerDeep, .widerDeep, .data, .pinned] true (true, "f02f605182a7333bc211bfa06f491a586aabb4b2d447583ae6d9adc0949da614") true
    row_holds (fun _ h => by cases h) wfText (fun _ h => by cases h) row_tie rfl ⟨rfl, rfl⟩ isMain rfl
    (fun f fn hf hfn => by
      obtain rfl : f = 3 := Option.some.inj (row_func.symm.trans hf) |>.symm
      obtain rfl : fn = Tryz.f3 := (Option.some.inj (Tryz.func3.symm.trans hfn)).symm
      exact ⟨looks, fun j t ht => noStand j t ht⟩)
    goes_row
#print axioms card_holds
end Go.Proofs.YtepifamhppinjaaGreatDoor.journalNil
