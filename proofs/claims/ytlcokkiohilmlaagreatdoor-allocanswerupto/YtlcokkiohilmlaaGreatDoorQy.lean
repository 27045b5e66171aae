import Derived.Test.YtlcokkiohilmlaaGreatDoorWs
namespace Go.Proofs.YtlcokkiohilmlaaGreatDoor
open Go.RowKit

/-- the digits of a number as a quantity, behind 0x -/
def quantD (n : Nat) : List UInt8 := if (hexes (shortB n)).dropWhile (· == 48) = [] then [48] else (hexes (shortB n)).dropWhile (· == 48)
def quant (n : Nat) : List UInt8 := 48 :: 120 :: quantD n
theorem trimPrefix_text (l : List UInt8) : Lib.trimPrefix (text l) [48, 120] = hexes l := by
  have h : Lib.hasPrefix (text l) [48, 120] = true := by simp [Lib.hasPrefix, text]
  rw [Lib.trimPrefix, if_pos h]; rfl
theorem shortB_len (n : Nat) : (shortB n).length ≤ 32 := by
  have := (List.dropWhile_suffix (fun x : UInt8 => x == 0) (l := be32 n)).length_le
  rw [be32_len] at this; exact this

set_option maxRecDepth 100000 in
set_option maxHeartbeats 400000 in
theorem hexa_Quantity (n : Nat) (w : World) (hn : n < 2 ^ 256) :
    Calls Tryz.prog 33 #[.agg (wcells n)] w fun e w' => e = .returned (.string ⟨(quant n).toArray⟩) ∧ Below w.heap.size w w' := by
  have hwsz : (Tryz.prog.info? 43).map (·.size) = some (wcells n).size := by rw [wcells_size]; kernel_rfl
  go_enter Tryz.func33, Tryz.ntmps33
  go_wp2_with (first | (refine wpList_load_arr rfl 43 _ rfl _ _ rfl (wcells n) _ (Blk.all (Blk.new _ _ _)) Tryz.underlying43 rfl hwsz ?_))
  refine (word_Short n _ hn).mono ?_
  rintro e w1 ⟨v, rfl, hv, b1⟩
  have hbw : Below w.heap.size w w1 := ((Below.refl _ _).alloc (Nat.le_refl _) _).trans (b1.mono (by simp))
  clear b1
  go_wp2_with fail
  refine (Text _ _ _ hv (by have := shortB_len n; omega)).mono ?_
  rintro e w2 ⟨rfl, b2⟩
  have hbw2 := hbw.trans (b2.mono hbw.size)
  clear b2 hbw hv
  go_wp2_with fail
  refine (Tryz.strings_TrimPrefix _ _ _).mono ?_
  rintro e w3 ⟨rfl, rfl⟩
  rw [show (Lib.trimPrefix (ByteArray.mk (text (shortB n)).toArray).data.toList (ByteArray.mk #[48, 120]).data.toList) = hexes (shortB n) from trimPrefix_text _]
  go_wp2_with fail
  refine (Tryz.strings_TrimLeft_one _ 48 (by decide) _).mono ?_
  rintro e w3 ⟨rfl, rfl⟩
  generalize hq : Lib.trimLeftB _ _ = q
  have hql : q.length ≤ 64 := by
    rw [← hq]
    show (List.dropWhile (fun x => x == 48) (hexes (shortB n))).length ≤ 64
    have := (List.dropWhile_suffix (fun x : UInt8 => x == 48) (l := hexes (shortB n))).length_le
    rw [hexes_length] at this
    have := shortB_len n
    omega
  have HQ := Lib.hid hq; clear hq
  by_cases h0 : q = []
  · have HQ0 := Lib.hid h0; clear h0
    have hb : q.isEmpty = true := by rw [HQ0.out]; rfl
    go_wp2_with fail
    go_ret
    refine ⟨?_, hbw2⟩
    have e : quantD n = [48] := if_pos (HQ.out.trans HQ0.out)
    simp [quant, e]; rfl
  · have hb : q.isEmpty = false := by simpa using h0
    have HQ0 := Lib.hid h0; clear h0
    go_wp2_with fail
    go_ret
    refine ⟨?_, hbw2⟩
    have e : quantD n = q := by
      have h := HQ.out
      unfold quantD
      rw [show List.dropWhile (fun x => x == 48) (hexes (shortB n)) = q from h, if_neg HQ0.out]
    simp only [quant, e]
    congr 2
end Go.Proofs.YtlcokkiohilmlaaGreatDoor
