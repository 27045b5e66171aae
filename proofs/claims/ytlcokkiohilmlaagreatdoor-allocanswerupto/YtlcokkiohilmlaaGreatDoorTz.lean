import Derived.Test.YtlcokkiohilmlaaGreatDoorCards
import Derived.LaidByTextLater
import Derived.SevenTiedAt
import Derived.LaidSub
import Derived.LaidOnce
/- The listed variables' tie to the program's text, its closed facts one by one: over the given text. -/
namespace Go.Proofs.YtlcokkiohilmlaaGreatDoor
abbrev laid3 : List (String × DataW Unit) := [("unicode/utf8.acceptRanges", Rows.laid_unicode_utf8_acceptRanges), ("unicode.White_Space", Rows.laid_unicode_White_Space), ("strings.asciiSpace", Rows.laid_strings_asciiSpace)]
theorem ty1 : Tryz.prog.worded (varsWordLater true) = true := by kernel_rfl
theorem ty2 : Tryz.prog.worded (varsWordLater !true) = false := by kernel_rfl
theorem ty3 : Tryz.prog.worded rootWordLater = true := by kernel_rfl
theorem ty4 : laid3.map (fun x => Tryz.prog.kindOfLater x.1) = [LaidKind.data, .listed, .data].map some := by kernel_rfl
theorem ty5 : (Tryz.prog.funcNamed "gosem.cut.vars").isSome = true := by kernel_rfl
theorem ty6 : varsNamedLaterB Tryz.prog (varsId Tryz.prog) laid3 = true := by kernel_rfl
theorem ty7 (os : Os) (tape : Tape) : doorLeaves Tryz.prog 43 8 257 laid3 os tape = some (laid3.filter fun x => x.2.handleName?.isNone, (funcsListed laid3).map (·.2.funcsOut)) := by kernel_rfl
theorem ty_tie : Tryz.prog.laidByTextLater laid3 [.data, .listed, .data] true := Program.laidByTextLater_by_one 43 8 257 ty1 ty2 ty3 ty4 ty5 ty6 ty7
end Go.Proofs.YtlcokkiohilmlaaGreatDoor
