import Derived.Test.YtlcokkiohilmlaaGreatDoorRq
import Derived.Test.YtlcokkiohilmlaaGreatDoorWr
namespace Go.Proofs.YtlcokkiohilmlaaGreatDoor
open Go.RowKit
theorem ref_Of (n : Nat) (hn : n < 2 ^ 64) (w : World) :
    Calls Tryz.prog 27 #[.int .u64 n] w fun e w' => e = .returned (.agg (wcells n)) ∧ Below w.heap.size w w' := by
  have hw := wcells_small n hn
  have HW := Lib.hid hw; clear hw
  go_enter Tryz.func27, Tryz.ntmps27
  go_wp2
  refine bodyPost_ret (v := .agg #[.int .u64 n, .int .u64 0, .int .u64 0, .int .u64 0]) (by simp [results, Tryz.results27, go_sem]) rfl ⟨by rw [HW.out], ?_⟩
  repeat (first | exact Below.refl _ _ | refine Below.setCell ?_ (by simp) _ | refine Below.alloc ?_ (by simp) _)
theorem ref_num (n : Nat) (hn : n < 2 ^ 64) (w : World) :
    Calls Tryz.prog 16 #[.int .u64 n] w fun e w' => e = .returned (.string ⟨(quant n).toArray⟩) ∧ Below w.heap.size w w' := by
  go_enter Tryz.func16, Tryz.ntmps16
  go_wp2_with fail
  refine (ref_Of n hn _).mono ?_
  rintro e w1 ⟨rfl, b1⟩
  go_wp2_with fail
  refine (ref_Quantity n _ (Nat.lt_of_lt_of_le hn (Nat.pow_le_pow_right (by decide) (by decide)))).mono ?_
  rintro e w2 ⟨rfl, b2⟩
  go_wp2_with fail
  go_ret
  exact ⟨rfl, b1.trans (b2.mono b1.size)⟩
theorem ref_end (w : World) :
    Calls Tryz.prog 15 #[] w fun e w' => e = .returned (.string ⟨#[10]⟩) ∧ Below w.heap.size w w' := by
  have kc : (convert 31 9 (.slice (some ⟨w.heap.size, 0, none⟩) 1 1)).run Tryz.prog (w.alloc (.cells #[.int .u8 10] 5)) = .ok (.string ⟨#[10]⟩) (w.alloc (.cells #[.int .u8 10] 5)) :=
    run_convert_bytes_back (P := Tryz.prog) (w.alloc (.cells #[.int .u8 10] 5)) 31 9 5 ⟨w.heap.size, 0, none⟩ 1 [10] (by kernel_rfl) (by kernel_rfl) (by kernel_rfl) (fun j hj => by
      match j, hj with
      | 0, _ => simp [Addr.add])
  go_enter Tryz.func15, Tryz.ntmps15
  go_wp2_with fail
  go_ret
  exact ⟨rfl, (Below.refl _ _).alloc (Nat.le_refl _) _⟩
end Go.Proofs.YtlcokkiohilmlaaGreatDoor
