import Derived.Test.YtlcokkiohilmlaaGreatDoorPl
namespace Go.Proofs.YtlcokkiohilmlaaGreatDoor
open Go.RowKit
theorem Mx.below {w w' : World} (h : Mx w) (hb : Below w.heap.size w w') : Mx w' := by
  obtain ⟨m, hm⟩ := h
  exact ⟨m, (hb.cell (p := ⟨_, _, none⟩) (cell_lt hm)).trans hm⟩
set_option maxRecDepth 100000 in
set_option maxHeartbeats 1600000 in
theorem law23_wakes (w : World) (hm : Mx w) (hs : Sp w) :
    Calls Tryz.prog 7 #[] w fun e w' => e = .returned (.bool true) ∧ Below w.heap.size w w' := by
  have H56 := Lib.hid (show ansNo 56 = [114, 101, 106, 101, 99, 116, 101, 100, 32, 115, 116, 97, 116, 101, 10] by decide)
  have H10 := Lib.hid (show wordS 10 = [99, 111, 110, 102, 105, 103] by decide)
  have HS := Lib.hid hs; clear hs
  go_enter Tryz.func7, Tryz.ntmps7
  go_wp2_with fail
  refine (alloc_Play_empty w hm HS.out).mono ?_
  rintro e w1 ⟨rfl, b1⟩
  have HB1 := Lib.hid b1; clear b1
  go_wp2_with fail
  refine (alloc_Answer_no _ _ 56 (HS.out.below HB1.out) (by decide) (by decide) (by decide)).mono ?_
  rintro e w2 ⟨he, b2⟩
  rw [H56.out] at he
  subst he
  have HB2 := Lib.hid (HB1.out.trans (b2.mono HB1.out.size)); clear b2
  go_wp2_with fail
  refine (alloc_Word 10 _ (HS.out.below HB2.out) (by decide) (by decide)).mono ?_
  rintro e w3 ⟨he, b3⟩
  rw [H10.out] at he
  subst he
  have HB3 := Lib.hid (HB2.out.trans (b3.mono HB2.out.size)); clear b3
  go_wp2_with fail
  go_ret
  exact ⟨rfl, HB3.out⟩
end Go.Proofs.YtlcokkiohilmlaaGreatDoor
