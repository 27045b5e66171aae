import Derived.Test.YtlcokkiohilmlaaGreatDoorAc
import Derived.Lib.SmallJoins
import Derived.BigQuiet
import Derived.Deep.QuietTactic
namespace Go.Proofs.YtlcokkiohilmlaaGreatDoor
open Go.RowKit
def words0 : List (List UInt8) := [[111, 107], [97, 114, 103, 117, 109, 101, 110, 116], [102, 111, 114, 109], [114, 97, 110, 103, 101], [99, 117, 114, 118, 101], [103, 114, 111, 117, 112], [108, 101, 110, 103, 116, 104], [100, 101, 112, 116, 104], [109, 105, 115, 115, 105, 110, 103], [116, 119, 105, 99, 101], [99, 111, 110, 102, 105, 103], [112, 114, 111, 111, 102]]
def words20 : List (List UInt8) := [[107, 105, 110, 100], [99, 104, 97, 105, 110], [115, 105, 103, 110, 97, 116, 117, 114, 101], [110, 111, 110, 99, 101], [99, 111, 100, 101], [102, 101, 101], [98, 108, 111, 98], [103, 97, 115], [105, 110, 105, 116, 99, 111, 100, 101], [102, 117, 110, 100, 115]]
def words40 : List (List UInt8) := [[110, 117, 109, 98, 101, 114], [112, 97, 114, 101, 110, 116], [116, 105, 109, 101], [102, 105, 101, 108, 100, 115], [101, 120, 116, 114, 97], [108, 105, 109, 105, 116], [117, 115, 101, 100], [115, 101, 97, 108], [100, 105, 102, 102, 105, 99, 117, 108, 116, 121], [98, 97, 115, 101, 102, 101, 101], [101, 120, 99, 101, 115, 115], [111, 109, 109, 101, 114, 115], [116, 114, 97, 110, 115, 97, 99, 116, 105, 111, 110, 115], [119, 105, 116, 104, 100, 114, 97, 119, 97, 108, 115], [98, 108, 111, 111, 109], [114, 101, 99, 101, 105, 112, 116, 115], [115, 116, 97, 116, 101], [98, 108, 111, 98, 103, 97, 115]]
def unknownS : List UInt8 := [117, 110, 107, 110, 111, 119, 110]
def wordAt (a : Int) (l : List (List UInt8)) : List UInt8 := if 0 ≤ a ∧ a < l.length then l[a.toNat]?.getD unknownS else unknownS
/-- an error's word -/
def wordS (e : Int) : List UInt8 := if 40 ≤ e then wordAt (e - 40) words40 else if 20 ≤ e then wordAt (e - 20) words20 else wordAt e words0
/-- the library's table of blanks stands in memory -/
def Sp (w : World) : Prop := Lib.TabIs Tryz.prog w "strings.asciiSpace" .u8 Lib.asciiSpaceTab
theorem g_space : Tryz.prog.globalNamed "strings.asciiSpace" = some 0 := by kernel_rfl
theorem Sp.below {w w' : World} (h : Sp w) (hb : Below w.heap.size w w') : Sp w' := Joins.tab_stays g_space h hb (Nat.le_refl _)

theorem ascii_all (l : List UInt8) (h : l.all (fun b => b.toNat < 128) = true) : ∀ (j : Nat) (b : UInt8), l[j]? = some b → b.toNat < 128 := fun j b hj => by
  have := List.all_eq_true.1 h b (List.mem_of_getElem? hj)
  simpa using this
theorem wordAt_in (a : Int) (l : List (List UInt8)) (h0 : 0 ≤ a) (h : a.toNat < l.length) : wordAt a l = l[a.toNat] := by
  unfold wordAt
  rw [if_pos ⟨h0, by omega⟩, List.getElem?_eq_getElem h]; rfl
theorem wordAt_out (a : Int) (l : List (List UInt8)) (h : ¬ (0 ≤ a ∧ a < l.length)) : wordAt a l = unknownS := if_neg h
set_option maxRecDepth 100000 in
set_option maxHeartbeats 1600000 in
theorem alloc_Word_hi (e : Int) (w : World) (hs : Sp w) (h1 : 40 ≤ e) (h2 : e ≤ 9223372036854775807) :
    Calls Tryz.prog 10 #[.int .i64 e] w fun r w' => r = .returned (.string ⟨(wordAt (e - 40) words40).toArray⟩) ∧ Below w.heap.size w w' := by
  go_enter Tryz.func10, Tryz.ntmps10
  go_wp2_with fail
  refine (Tryz.strings_Fields_laid _ _ (by decide) (ascii_all _ (by decide)) hs).mono ?_
  rintro r w1 ⟨rfl, rfl⟩
  generalize hF : Lib.fields _ = F
  have HF : Hid (F = words40) := hF.symm.trans (by decide +kernel)
  clear hF
  have hfl : F.length ≤ 1000 := by rw [HF.out]; decide
  by_cases hr : 0 ≤ e - 40 ∧ e - 40 < (F.length : Int)
  · obtain ⟨hr0, hr1⟩ := hr
    go_wp2_with fail
    go_ret
    refine ⟨?_, (Below.refl _ _).alloc (Nat.le_refl _) _⟩
    rw [← HF.out, wordAt_in _ _ hr0 (by omega)]
    rfl
  · have hr' : e - 40 < 0 ∨ (F.length : Int) ≤ e - 40 := by omega
    have HR := Lib.hid hr; clear hr
    rcases hr' with hr' | hr'
    all_goals
      go_wp2_with fail
      go_ret
      refine ⟨?_, (Below.refl _ _).alloc (Nat.le_refl _) _⟩
      rw [← HF.out, wordAt_out _ _ HR.out]
      rfl
set_option maxRecDepth 100000 in
set_option maxHeartbeats 1600000 in
theorem alloc_Word_mid (e : Int) (w : World) (hs : Sp w) (h1 : 20 ≤ e) (h2 : e < 40) :
    Calls Tryz.prog 10 #[.int .i64 e] w fun r w' => r = .returned (.string ⟨(wordAt (e - 20) words20).toArray⟩) ∧ Below w.heap.size w w' := by
  go_enter Tryz.func10, Tryz.ntmps10
  go_wp2_with fail
  refine (Tryz.strings_Fields_laid _ _ (by decide) (ascii_all _ (by decide)) hs).mono ?_
  rintro r w1 ⟨rfl, rfl⟩
  generalize hF : Lib.fields _ = F
  have HF : Hid (F = words20) := hF.symm.trans (by decide +kernel)
  clear hF
  have hfl : F.length ≤ 1000 := by rw [HF.out]; decide
  by_cases hr : 0 ≤ e - 20 ∧ e - 20 < (F.length : Int)
  · obtain ⟨hr0, hr1⟩ := hr
    go_wp2_with fail
    go_ret
    refine ⟨?_, (Below.refl _ _).alloc (Nat.le_refl _) _⟩
    rw [← HF.out, wordAt_in _ _ hr0 (by omega)]
    rfl
  · have hr' : e - 20 < 0 ∨ (F.length : Int) ≤ e - 20 := by omega
    have HR := Lib.hid hr; clear hr
    rcases hr' with hr' | hr'
    all_goals
      go_wp2_with fail
      go_ret
      refine ⟨?_, (Below.refl _ _).alloc (Nat.le_refl _) _⟩
      rw [← HF.out, wordAt_out _ _ HR.out]
      rfl
set_option maxRecDepth 100000 in
set_option maxHeartbeats 1600000 in
theorem alloc_Word_lo (e : Int) (w : World) (hs : Sp w) (h1 : e < 20) (h2 : -9223372036854775808 ≤ e) :
    Calls Tryz.prog 10 #[.int .i64 e] w fun r w' => r = .returned (.string ⟨(wordAt (e) words0).toArray⟩) ∧ Below w.heap.size w w' := by
  go_enter Tryz.func10, Tryz.ntmps10
  go_wp2_with fail
  refine (Tryz.strings_Fields_laid _ _ (by decide) (ascii_all _ (by decide)) hs).mono ?_
  rintro r w1 ⟨rfl, rfl⟩
  generalize hF : Lib.fields _ = F
  have HF : Hid (F = words0) := hF.symm.trans (by decide +kernel)
  clear hF
  have hfl : F.length ≤ 1000 := by rw [HF.out]; decide
  by_cases hr : 0 ≤ e ∧ e < (F.length : Int)
  · obtain ⟨hr0, hr1⟩ := hr
    go_wp2_with fail
    go_ret
    refine ⟨?_, (Below.refl _ _).alloc (Nat.le_refl _) _⟩
    rw [← HF.out, wordAt_in _ _ hr0 (by omega)]
    rfl
  · have hr' : e < 0 ∨ (F.length : Int) ≤ e := by omega
    have HR := Lib.hid hr; clear hr
    rcases hr' with hr' | hr'
    all_goals
      go_wp2_with fail
      go_ret
      refine ⟨?_, (Below.refl _ _).alloc (Nat.le_refl _) _⟩
      rw [← HF.out, wordAt_out _ _ HR.out]
      rfl
theorem alloc_Word (e : Int) (w : World) (hs : Sp w) (h1 : -9223372036854775808 ≤ e) (h2 : e ≤ 9223372036854775807) :
    Calls Tryz.prog 10 #[.int .i64 e] w fun r w' => r = .returned (.string ⟨(wordS e).toArray⟩) ∧ Below w.heap.size w w' := by
  unfold wordS
  by_cases h40 : 40 ≤ e
  · rw [if_pos h40]; exact alloc_Word_hi e w hs h40 h2
  · rw [if_neg h40]
    by_cases h20 : 20 ≤ e
    · rw [if_pos h20]; exact alloc_Word_mid e w hs h20 (by omega)
    · rw [if_neg h20]; exact alloc_Word_lo e w hs (by omega) h1
end Go.Proofs.YtlcokkiohilmlaaGreatDoor
