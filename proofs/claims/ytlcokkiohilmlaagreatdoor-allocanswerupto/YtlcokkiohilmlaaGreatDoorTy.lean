import Derived.Test.YtlcokkiohilmlaaGreatDoorTz
/- The listed variables' tie to the program's text: over the pinned text; joined. -/
namespace Go.Proofs.YtlcokkiohilmlaaGreatDoor
theorem ty8 : Tryz.pinned.checked.prog.pinnedFits "unicode.CaseRanges" = true := by kernel_rfl
theorem ty9 : Tryz.pinned.checked.prog.pinnedFits "unicode/utf8.first" = true := by kernel_rfl
theorem ty10 : Tryz.pinned.checked.prog.headLifts.contains "ownunsafe" = false := by kernel_rfl
theorem ty11 : Tryz.pinned.checked.prog.listedFits [("unicode/utf8.acceptRanges", Rows.laid_unicode_utf8_acceptRanges), ("unicode.White_Space", Rows.laid_unicode_White_Space), ("strings.asciiSpace", Rows.laid_strings_asciiSpace), ("unicode.CaseRanges", Rows.laid_unicode_CaseRanges), ("unicode/utf8.first", Rows.laid_unicode_utf8_first)] = true := by
  unfold Program.listedFits
  rw [ty10]
  kernel_rfl
theorem own_row_tie : Rows.allocAnswerUptoRow.laidByTextAt .later Tryz.pinned [.data, .listed, .data, .pinned, .pinned] true :=
  OpenClaim.laidByTextAt_pinned rfl rfl ty_tie rfl rfl rfl rfl (fun y hy _e => by
    simp only [Rows.allocAnswerUptoRow, List.zip_cons_cons, List.zip_nil_right, List.mem_cons, List.mem_nil_iff, or_false] at hy
    rcases hy with rfl | rfl | rfl | rfl | rfl
    · cases _e
    · cases _e
    · cases _e
    · exact ⟨ty8, by kernel_rfl⟩
    · exact ⟨ty9, by kernel_rfl⟩) ty11
end Go.Proofs.YtlcokkiohilmlaaGreatDoor
