import Derived.Test.YtlcokkiohilmlaaGreatDoorRa
import Derived.Test.YtlcokkiohilmlaaGreatDoorWo
namespace Go.Proofs.YtlcokkiohilmlaaGreatDoor
open Go.RowKit
def nums : List Int := [0, 1, 2, 3, 4, 5, 6, 7, 8, 9, 10, 11, 20, 21, 22, 23, 24, 25, 26, 27, 28, 29, 40, 41, 42, 43, 44, 45, 46, 47, 48, 49, 50, 51, 52, 53, 54, 55, 56, 57]
def allWords : List (List UInt8) := words0 ++ words20 ++ words40
theorem nums_len : nums.length = 40 := rfl
theorem allWords_len : allWords.length = 40 := rfl
def numsV : Array Value := (nums.map fun n => Value.int .i64 n).toArray
def wordsV : Array Value := (allWords.map fun s => Value.string ⟨s.toArray⟩).toArray
theorem word_hit (k : Nat) (h : k < 40) : wordS (nums[k]'h) = allWords[k]'h := by
  have : ∀ i : Fin 40, wordS (nums[i.val]'i.isLt) = allWords[i.val]'i.isLt := by decide
  exact this ⟨k, h⟩
theorem nums_lo (i : Nat) (h : i < 12) : nums[i]'(Nat.lt_of_lt_of_le h (by decide)) = (i : Int) := by
  have : ∀ i : Fin 12, nums[i.val]'(Nat.lt_of_lt_of_le i.isLt (by decide)) = (i.val : Int) := by decide
  exact this ⟨i, h⟩
theorem nums_mid' : ∀ i : Fin 10, nums[12 + i.val]'(by rw [nums_len]; omega) = (20 : Int) + i.val := by decide
theorem nums_hi' : ∀ i : Fin 18, nums[22 + i.val]'(by rw [nums_len]; omega) = (40 : Int) + i.val := by decide
theorem nums_mid (i : Nat) (h : i < 10) : nums[12 + i]'(by rw [nums_len]; omega) = (20 : Int) + i := by
  exact nums_mid' ⟨i, h⟩
theorem nums_hi (i : Nat) (h : i < 18) : nums[22 + i]'(by rw [nums_len]; omega) = (40 : Int) + i := by
  exact nums_hi' ⟨i, h⟩
theorem word_miss (e : Int) (h : ∀ j (hj : j < 40), nums[j]'hj ≠ e) : wordS e = unknownS := by
  unfold wordS
  split
  · refine wordAt_out _ _ fun hr => ?_
    have h18 : words40.length = 18 := rfl
    rw [h18] at hr
    refine h (22 + (e - 40).toNat) (by omega) ?_
    exact (nums_hi (e - 40).toNat (by omega)).trans (by omega)
  · split
    · refine wordAt_out _ _ fun hr => ?_
      have h10 : words20.length = 10 := rfl
      rw [h10] at hr
      refine h (12 + (e - 20).toNat) (by omega) ?_
      exact (nums_mid (e - 20).toNat (by omega)).trans (by omega)
    · refine wordAt_out _ _ fun hr => ?_
      have h12 : words0.length = 12 := rfl
      rw [h12] at hr
      refine h e.toNat (by omega) ?_
      exact (nums_lo e.toNat (by omega)).trans (by omega)
theorem numsV_get (k : Nat) (h : k < 40) : numsV[k]? = some (.int .i64 (nums[k]'h)) := by
  rw [← Array.getElem?_toList]
  simp only [numsV, List.getElem?_map]
  rw [List.getElem?_eq_getElem (l := nums) h]; rfl
theorem wordsV_get (k : Nat) (h : k < 40) : wordsV[k]? = some (.string ⟨(allWords[k]'h).toArray⟩) := by
  rw [← Array.getElem?_toList]
  simp only [wordsV, List.getElem?_map]
  rw [List.getElem?_eq_getElem (l := allWords) h]; rfl
set_option maxRecDepth 100000 in
set_option maxHeartbeats 1600000 in
theorem ref_Word (e : Int) (w : World) :
    Calls Tryz.prog 14 #[.int .i64 e] w fun r w' => r = .returned (.string ⟨(wordS e).toArray⟩) ∧ Below w.heap.size w w' := by
  go_enter Tryz.func14, Tryz.ntmps14
  go_wp2_with fail
  go_loopw [5] (fun i wr => ∃ k : Nat, k ≤ 40 ∧ i = .int .i64 k ∧ (∀ j (hj : j < 40), j < k → nums[j]'hj ≠ e) ∧ Blk wr w.heap.size numsV 3 ∧ Blk wr (w.heap.size + 1) wordsV 9 ∧ Below w.heap.size w wr) (fun i _ => 40 - (intOf i).toNat)
  case atStart => exact ⟨0, Nat.zero_le _, rfl, fun j _ h => absurd h (Nat.not_lt_zero _), (Blk.new _ _ _).alloc _, Blk.new' (by simp) _ _, ((Below.refl _ _).alloc (Nat.le_refl _) _).alloc (by simp) _⟩
  case round =>
    obtain ⟨k, hk, rfl, hm, hA, hB, hbw⟩ := hrel
    have HM := Lib.hid hm; clear hm
    by_cases hlt : k < 40
    · have c1 := (hA.cell k).trans (numsV_get k hlt)
      have c2 := (hB.cell k).trans (wordsV_get k hlt)
      have hit := word_hit k hlt
      generalize hx : nums[k]'hlt = x at c1 hit
      generalize allWords[k]'hlt = y at c2 hit
      have HX := Lib.hid hx; clear hx
      have HI := Lib.hid hit; clear hit
      by_cases he : x = e
      · subst he
        go_wp2_with fail
        go_ret
        exact ⟨by rw [HI.out]; rfl, hbw⟩
      · have hb : (x == e) = false := by simpa using he
        have HE := Lib.hid he; clear he
        go_wp2_with fail
        go_roundw
        case rel =>
          refine ⟨k + 1, by omega, by go_num, fun j hj hjk => ?_, hA, hB, hbw⟩
          by_cases ejk : j = k
          · subst ejk; rw [HX.out]; exact HE.out
          · exact HM.out j hj (by omega)
        case measure => simp [intOf] <;> omega
    · have hu := word_miss e (fun j hj => HM.out j hj (by omega))
      have HU := Lib.hid hu; clear hu
      go_wp2_with fail
      go_ret
      exact ⟨by rw [HU.out]; rfl, hbw⟩
end Go.Proofs.YtlcokkiohilmlaaGreatDoor
