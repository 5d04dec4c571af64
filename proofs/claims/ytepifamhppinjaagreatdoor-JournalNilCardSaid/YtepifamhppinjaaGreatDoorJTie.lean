/-
  The row's variables are what the program's own text lays: the tie, by closed facts of their own.
-/
import Derived.Test.YtepifamhppinjaaGreatDoorRows
import Derived.LaidByTextLater
import Derived.SevenTiedAt
import Derived.LaidSub
import Derived.LaidOnce
namespace Go.Proofs.YtepifamhppinjaaGreatDoor.journalNil
open Go Go.Proofs.YtepifamhppinjaaGreatDoor
set_option maxRecDepth 100000
noncomputable abbrev tieL : List (String × DataW Unit) := [("math/bits.deBruijn32tab", Rows.laid_math_bits_deBruijn32tab), ("math/bits.deBruijn64tab", Rows.laid_math_bits_deBruijn64tab), ("internal/strconv.uint64pow10", Rows.laid_internal_strconv_uint64pow10), ("unicode/utf8.acceptRanges", Rows.laid_unicode_utf8_acceptRanges), ("strconv.ErrRange", Rows.laid_strconv_ErrRange), ("strconv.ErrSyntax", Rows.laid_strconv_ErrSyntax), ("gameplayer/check.keywords", Rows.laid_gameplayer_check_keywords), ("gameplayer/lexer.words", Rows.laid_gameplayer_lexer_words), ("gameplayer/exhaust.open", Rows.laid_gameplayer_exhaust_open)]
abbrev tieK : List LaidKind := [.data, .data, .data, .data, .sentinel, .sentinel, .widerDeep, .widerDeep, .data]
theorem tie1 : Tryz.prog.worded (varsWordLater true) = true := by kernel_rfl
theorem tie2 : Tryz.prog.worded (varsWordLater !true) = false := by kernel_rfl
theorem tie3 : Tryz.prog.worded rootWordLater = true := by kernel_rfl
theorem tie4 : tieL.map (fun x => Tryz.prog.kindOfLater x.1) = tieK.map some := by kernel_rfl
theorem tie5 : (Tryz.prog.funcNamed "gosem.cut.vars").isSome = true := by kernel_rfl
theorem tie6 : varsNamedLaterB Tryz.prog (varsId Tryz.prog) tieL = true := by kernel_rfl
theorem tie7 (os : Os) (tape : Tape) : doorLeaves Tryz.prog 99 8 65 tieL os tape = some (tieL.filter fun x => x.2.handleName?.isNone, (funcsListed tieL).map (·.2.funcsOut)) := by kernel_rfl
theorem tie : Tryz.prog.laidByTextLater tieL tieK true :=
  Program.laidByTextLater_by_one 99 8 65 tie1 tie2 tie3 tie4 tie5 tie6 tie7
end Go.Proofs.YtepifamhppinjaaGreatDoor.journalNil
