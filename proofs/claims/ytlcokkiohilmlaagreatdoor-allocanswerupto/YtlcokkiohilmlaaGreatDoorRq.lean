import Derived.Test.YtlcokkiohilmlaaGreatDoorRb
import Derived.Test.YtlcokkiohilmlaaGreatDoorQy
namespace Go.Proofs.YtlcokkiohilmlaaGreatDoor
open Go.RowKit
theorem hexd_zero (x : Nat) (h : x < 16) : hexd x = 48 ↔ x = 0 := by
  have : ∀ i : Fin 16, hexd i.val = 48 ↔ i.val = 0 := by decide
  exact this ⟨x, h⟩
theorem dropWhile_head {α} (p : α → Bool) : ∀ (l : List α) (a : α) (r : List α), l.dropWhile p = a :: r → p a = false
  | [], a, r, h => by simp at h
  | x :: l, a, r, h => by
    by_cases hx : p x = true
    · rw [List.dropWhile_cons_of_pos hx] at h; exact dropWhile_head p l a r h
    · rw [List.dropWhile_cons_of_neg hx] at h
      injection h with h1 _
      rw [← h1]; simpa using hx
theorem quantD_eq (n : Nat) : quantD n = match hexes (shortB n) with
    | [] => [48]
    | a :: r => if a = 48 then r else a :: r := by
  unfold quantD
  cases hs : shortB n with
  | nil => rfl
  | cons b l =>
    have hb := dropWhile_head _ _ _ _ hs
    have hb0 : b.toNat ≠ 0 := fun e => by
      have : b = 0 := UInt8.toNat_inj.1 e
      simp [this] at hb
    have hb1 := UInt8.toNat_lt b
    simp only [hexes]
    by_cases h1 : hexd (b.toNat / 16) = 48
    · have h2 : ¬ hexd (b.toNat % 16) = 48 := fun e => by
        have e1 := (hexd_zero _ (by omega)).1 h1
        have e2 := (hexd_zero _ (by omega)).1 e
        omega
      have h2' : (hexd (b.toNat % 16) == 48) = false := by simpa using h2
      simp [List.dropWhile, h1, h2']
    · have h1' : (hexd (b.toNat / 16) == 48) = false := by simpa using h1
      simp [List.dropWhile, h1, h1']
theorem ref_Short (n : Nat) (w : World) (hn : n < 2 ^ 256) :
    Calls Tryz.prog 39 #[.agg (wcells n)] w fun e w' => ∃ v, e = .returned v ∧ RdB w' v (shortB n) ∧ Below w.heap.size w w' := by
  have hwsz : (Tryz.prog.info? 43).map (·.size) = some (wcells n).size := by rw [wcells_size]; kernel_rfl
  go_enter Tryz.func39, Tryz.ntmps39
  go_wp2_with (first | (refine wpList_load_arr rfl 43 _ rfl _ _ rfl (wcells n) _ (Blk.all (Blk.new _ _ _)) Tryz.underlying43 rfl hwsz ?_))
  refine (ref_N n _ hn).mono ?_
  rintro e w1 ⟨v, rfl, hv, b1⟩
  have hbw : Below w.heap.size w w1 := ((Below.refl _ _).alloc (Nat.le_refl _) _).trans (b1.mono (by simp))
  clear b1
  go_wp2_with fail
  refine (ref_Bytes n v _ hv).mono ?_
  rintro e w2 ⟨v2, rfl, hv2, b2⟩
  go_wp2_with fail
  go_ret
  exact ⟨_, rfl, hv2, hbw.trans (b2.mono hbw.size)⟩
theorem ref_Text (v : Value) (l : List UInt8) (w : World) (hv : RdB w v l) (hl : l.length ≤ 2^40) :
    Calls Tryz.prog 17 #[v] w fun e w' => e = .returned (.string ⟨(text l).toArray⟩) ∧ Below w.heap.size w w' := by
  go_enter Tryz.func17, Tryz.ntmps17
  go_wp2_with fail
  refine (ref_hexes _ _ _ hv hl).mono ?_
  rintro e w1 ⟨rfl, b1⟩
  have hs : (hexes l).length ≤ 2 ^ 41 := by rw [hexes_length]; omega
  go_wp2_with fail
  go_ret
  refine ⟨?_, b1⟩
  simp [text]; rfl
set_option maxRecDepth 100000 in
theorem ref_Quantity (n : Nat) (w : World) (hn : n < 2 ^ 256) :
    Calls Tryz.prog 26 #[.agg (wcells n)] w fun e w' => e = .returned (.string ⟨(quant n).toArray⟩) ∧ Below w.heap.size w w' := by
  have hwsz : (Tryz.prog.info? 43).map (·.size) = some (wcells n).size := by rw [wcells_size]; kernel_rfl
  have hq := quantD_eq n
  go_enter Tryz.func26, Tryz.ntmps26
  go_wp2_with (first | (refine wpList_load_arr rfl 43 _ rfl _ _ rfl (wcells n) _ (Blk.all (Blk.new _ _ _)) Tryz.underlying43 rfl hwsz ?_))
  refine (ref_Short n _ hn).mono ?_
  rintro e w1 ⟨v, rfl, hv, b1⟩
  have hbw : Below w.heap.size w w1 := ((Below.refl _ _).alloc (Nat.le_refl _) _).trans (b1.mono (by simp))
  clear b1
  go_wp2_with fail
  refine (ref_hexes _ _ _ hv (by have := shortB_len n; omega)).mono ?_
  rintro e w2 ⟨rfl, b2⟩
  have hbw2 := hbw.trans (b2.mono hbw.size)
  clear b2 hbw hv
  have hlen : (hexes (shortB n)).length ≤ 64 := by rw [hexes_length]; have := shortB_len n; omega
  generalize hexes (shortB n) = h at hq hlen ⊢
  have HQ := Lib.hid hq; clear hq
  cases h with
  | nil =>
    go_wp2_with fail
    go_ret
    refine ⟨?_, hbw2⟩
    unfold quant; rw [HQ.out]; rfl
  | cons a r =>
    simp only [List.length_cons] at hlen
    have hl2 : r.length ≤ 63 := by omega
    go_wp2_with fail
    · rename_i hx
      have ha : a = 48 := by
        have hx2 : ((a.toNat : Int) == 48) = true := hx
        have : a.toNat = 48 := by have := eq_of_beq hx2; omega
        exact UInt8.toNat_inj.1 this
      go_ret
      refine ⟨?_, hbw2⟩
      unfold quant; rw [HQ.out]
      simp [ha]
      apply ByteArray.ext
      simp [ByteArray.data_extract]
    · rename_i hx
      have ha : ¬ a = 48 := fun e => by
        have hx2 : ((a.toNat : Int) == 48) = false := hx
        subst e; exact absurd hx2 (by decide)
      go_ret
      refine ⟨?_, hbw2⟩
      unfold quant; rw [HQ.out]
      simp [ha]
      apply ByteArray.ext
      simp
end Go.Proofs.YtlcokkiohilmlaaGreatDoor
