import Derived.Test.YtlcokkiohilmlaaGreatDoorRn
namespace Go.Proofs.YtlcokkiohilmlaaGreatDoor
open Go.RowKit
/-- digit j behind i bytes from below -/
def digU (n i j : Nat) : Nat := dig (n % 2 ^ (8 * i)) j
theorem digU_lt (n i j : Nat) : digU n i j < 2 ^ 32 := dig_lt _ _
def cellsU (n i : Nat) : Array Value := #[.int .u32 (digU n i 0), .int .u32 (digU n i 1), .int .u32 (digU n i 2), .int .u32 (digU n i 3), .int .u32 (digU n i 4), .int .u32 (digU n i 5), .int .u32 (digU n i 6), .int .u32 (digU n i 7)]
theorem cellsU_get (n i j : Nat) (h : j < 8) : (cellsU n i)[j]? = some (.int .u32 (digU n i j)) := by
  match j, h with
  | 0, _ => rfl
  | 1, _ => rfl
  | 2, _ => rfl
  | 3, _ => rfl
  | 4, _ => rfl
  | 5, _ => rfl
  | 6, _ => rfl
  | 7, _ => rfl
theorem cellsU_zero (n : Nat) : cellsU n 0 = #[.int .u32 0, .int .u32 0, .int .u32 0, .int .u32 0, .int .u32 0, .int .u32 0, .int .u32 0, .int .u32 0] := by
  simp [cellsU, digU, dig, Nat.mod_one]
theorem digU_div (n i j : Nat) (h : 32 * j ≤ 8 * i) : digU n i j = n / 2 ^ (32 * j) % 2 ^ (8 * i - 32 * j) % 2 ^ 32 := by
  unfold digU dig
  have e : 2 ^ (8 * i) = 2 ^ (32 * j) * 2 ^ (8 * i - 32 * j) := by rw [← Nat.pow_add]; congr 1; omega
  rw [e, Nat.mod_mul_right_div_self]
theorem digU_or (n i : Nat) : digU n i (i / 4) ||| (n / 256 ^ i % 256) * 2 ^ (8 * (i % 4)) = digU n (i + 1) (i / 4) := by
  rw [digU_div _ _ _ (by omega), digU_div _ _ _ (by omega)]
  have e1 : 8 * i - 32 * (i / 4) = 8 * (i % 4) := by omega
  have e2 : 8 * (i + 1) - 32 * (i / 4) = 8 * (i % 4) + 8 := by omega
  rw [e1, e2, show (256 : Nat) ^ i = 2 ^ (32 * (i / 4)) * 2 ^ (8 * (i % 4)) from by rw [show (256 : Nat) = 2 ^ 8 from rfl, ← Nat.pow_mul, ← Nat.pow_add]; congr 1; omega]
  rw [← Nat.div_div_eq_div_mul]
  generalize n / 2 ^ (32 * (i / 4)) = m
  have hr : i % 4 < 4 := Nat.mod_lt _ (by decide)
  generalize i % 4 = r at hr
  have h1 : m % 2 ^ (8 * r) % 2 ^ 32 = m % 2 ^ (8 * r) := Nat.mod_eq_of_lt (Nat.lt_of_lt_of_le (Nat.mod_lt _ (Nat.pow_pos (by decide))) (Nat.pow_le_pow_right (by decide) (by omega)))
  have h2 : m % 2 ^ (8 * r + 8) % 2 ^ 32 = m % 2 ^ (8 * r + 8) := Nat.mod_eq_of_lt (Nat.lt_of_lt_of_le (Nat.mod_lt _ (Nat.pow_pos (by decide))) (Nat.pow_le_pow_right (by decide) (by omega)))
  rw [h1, h2, Nat.pow_add, Nat.mod_mul, Nat.or_comm, Nat.mul_comm (m / 2 ^ (8 * r) % 256), ← Nat.two_pow_add_eq_or_of_lt (Nat.mod_lt _ (Nat.pow_pos (by decide)))]
  rw [show (2 : Nat) ^ 8 = 256 from rfl]; omega
theorem digU_ne (n i j : Nat) (h : i / 4 ≠ j) : digU n (i + 1) j = digU n i j := by
  by_cases hlt : j < i / 4
  · rw [digU_div _ _ _ (by omega), digU_div _ _ _ (by omega), Nat.mod_mod_of_dvd _ (Nat.pow_dvd_pow 2 (by omega)), Nat.mod_mod_of_dvd _ (Nat.pow_dvd_pow 2 (by omega))]
  · have hz : ∀ k, k ≤ i + 1 → digU n k j = 0 := by
      intro k hk
      unfold digU dig
      have hl : n % 2 ^ (8 * k) < 2 ^ (32 * j) := Nat.lt_of_lt_of_le (Nat.mod_lt _ (Nat.pow_pos (by decide))) (Nat.pow_le_pow_right (by decide) (by omega))
      rw [Nat.div_eq_of_lt hl]
    rw [hz _ (Nat.le_refl _), hz _ (by omega)]
theorem cellsU_set (n i : Nat) : (cellsU n i).setIfInBounds (i / 4) (.int .u32 (digU n (i + 1) (i / 4))) = cellsU n (i + 1) := by
  apply Array.ext_getElem?
  intro j
  by_cases hj : j < 8
  · by_cases e : i / 4 = j
    · subst e
      rw [Array.getElem?_setIfInBounds_self_of_lt (by simp [cellsU]; omega), cellsU_get _ _ _ hj]
    · rw [Array.getElem?_setIfInBounds_ne e, cellsU_get _ _ _ hj, cellsU_get _ _ _ hj, digU_ne _ _ _ e]
  · rw [Array.getElem?_eq_none (by simp [cellsU]; omega), Array.getElem?_eq_none (by simp [cellsU]; omega)]
theorem digU_32 (n j : Nat) (hn : n < 2 ^ 256) : digU n 32 j = dig n j := by
  unfold digU
  rw [Nat.mod_eq_of_lt hn]
theorem bits_or_u32_nat (a b : Nat) (ha : a < 4294967296) (hb : b < 4294967296) : bits .or .u32 (a : Int) (b : Int) = ((a ||| b : Nat) : Int) := by
  have hx : a ||| b < 2 ^ 32 := Nat.or_lt_two_pow (by omega) (by omega)
  have h1 : (BitVec.ofInt 32 (a : Int)).toNat = a := by
    rw [BitVec.ofInt_natCast, BitVec.toNat_ofNat]; exact Nat.mod_eq_of_lt (by omega)
  have h2 : (BitVec.ofInt 32 (b : Int)).toNat = b := by
    rw [BitVec.ofInt_natCast, BitVec.toNat_ofNat]; exact Nat.mod_eq_of_lt (by omega)
  have hw : ∀ n : Int, IntKind.u32.wrap n = n % 4294967296 := fun n => by simp [IntKind.wrap, IntKind.bits, IntKind.signed]
  show IntKind.u32.wrap ((BitVec.ofInt 32 (a : Int) ||| BitVec.ofInt 32 (b : Int)).toNat : Int) = _
  rw [BitVec.toNat_or, h1, h2, hw]
  omega
theorem byteAt_low (n k : Nat) (h : k < 32) : (byteAt n (31 - k)).toNat = n / 256 ^ k % 256 := by
  simp only [byteAt, show 31 - (31 - k) = k from by omega]
  simp
theorem digU_step (n k : Nat) (h : k < 32) : bits .or .u32 (digU n k (k / 4) : Int) (((byteAt n (31 - k)).toNat : Int) * 2 ^ (8 * (k % 4)) % 4294967296) = (digU n (k + 1) (k / 4) : Int) := by
  have hb : n / 256 ^ k % 256 < 256 := Nat.mod_lt _ (by decide)
  have hp : (2 : Nat) ^ (8 * (k % 4)) ≤ 16777216 := Nat.le_trans (Nat.pow_le_pow_right (by decide) (by omega : 8 * (k % 4) ≤ 24)) (by decide)
  have hm : n / 256 ^ k % 256 * 2 ^ (8 * (k % 4)) < 4294967296 := Nat.lt_of_le_of_lt (Nat.mul_le_mul (by omega : _ ≤ 255) hp) (by decide)
  have e : ((byteAt n (31 - k)).toNat : Int) * 2 ^ (8 * (k % 4)) % 4294967296 = ((n / 256 ^ k % 256 * 2 ^ (8 * (k % 4)) : Nat) : Int) := by
    rw [byteAt_low _ _ h]
    have e2 : ((n / 256 ^ k % 256 : Nat) : Int) * 2 ^ (8 * (k % 4)) = ((n / 256 ^ k % 256 * 2 ^ (8 * (k % 4)) : Nat) : Int) := by rw [Int.natCast_mul, Int.natCast_pow]; rfl
    rw [e2]; omega
  rw [e, bits_or_u32_nat _ _ (digU_lt _ _ _) hm, digU_or]
theorem info_u32 : (Tryz.prog.info? 139).map (fun i => (i.zero, i.size, i.bytes)) = some (some (.int .u32 0), 1, 4) := by kernel_rfl
theorem und_N : Tryz.prog.underlying 144 = some (.slice 139) := by kernel_rfl
theorem make8 (w : World) : (Instr.makeSlice 144 (.int .i64 8) (.int .i64 8)).run Tryz.prog w = .ok (.slice (some ⟨w.heap.size, 0, none⟩) 8 8) (w.alloc (.cells #[.int .u32 0, .int .u32 0, .int .u32 0, .int .u32 0, .int .u32 0, .int .u32 0, .int .u32 0, .int .u32 0] 139)) := by
  obtain ⟨i0, hi, hz0, hz1, hz2⟩ := info_parts info_u32
  have h := run_make (P := Tryz.prog) w 144 139 i0 _ und_N hi hz0 .i64 .i64 8 8 (by omega) (by omega) (by rw [hz2]; omega) (by omega)
  rw [hz1] at h
  have e : madeCells (Value.int .u32 0).cells (Int.toNat 8 * 1) = #[.int .u32 0, .int .u32 0, .int .u32 0, .int .u32 0, .int .u32 0, .int .u32 0, .int .u32 0, .int .u32 0] := by
    rw [show Int.toNat 8 * 1 = 8 from rfl]; simp [madeCells, Value.cells, ← List.toArray_range, List.range, List.range.loop, Nat.mod_one]
  rw [e] at h
  exact h
set_option maxHeartbeats 1600000 in
set_option maxRecDepth 100000 in
theorem ref_From (n : Nat) (v : Value) (w : World) (hn : n < 2 ^ 256) (hv : RdB w v (be32 n)) :
    Calls Tryz.prog 104 #[v] w fun e w' => ∃ v, e = .returned v ∧ RdN w' v n ∧ Below w.heap.size w w' := by
  obtain ⟨a, cap, rfl, hc⟩ := hv
  rw [be32_len]
  have hc' : ∀ i, i < 32 → ∃ b off, a = some ⟨b, off, none⟩ ∧ w.cell? ⟨b, off + i, none⟩ = some (.int .u8 (byteAt n i).toNat) := by
    intro i hi
    obtain ⟨b, off, h1, h2⟩ := hc i (by rw [be32_len]; exact hi)
    refine ⟨b, off, h1, ?_⟩
    simpa [be32] using h2
  clear hc
  obtain ⟨b, off, rfl, hc0⟩ := hc' 0 (by omega)
  have hb := cell_lt hc0
  clear hc0
  have hcc : ∀ i, i < 32 → w.cell? ⟨b, off + i, none⟩ = some (.int .u8 (byteAt n i).toNat) := by
    intro i hi
    obtain ⟨b', off', h1, h2⟩ := hc' i hi
    injection h1 with h1; injection h1 with h3 h4; subst h3 h4; exact h2
  have HC := Lib.hid hcc; clear hcc
  clear hc'
  go_enter Tryz.func104, Tryz.ntmps104
  have mk := make8 w
  go_wp2_with fail
  go_loopw [4] (fun i wr => ∃ k : Nat, k ≤ 32 ∧ i = .int .i64 k ∧ Blk wr w.heap.size (cellsU n k) 139 ∧ Below w.heap.size w wr) (fun i _ => 32 - (intOf i).toNat)
  case atStart => exact ⟨0, by omega, rfl, by rw [cellsU_zero]; exact Blk.new _ _ _, (Below.refl _ _).alloc (Nat.le_refl _) _⟩
  case round =>
    obtain ⟨k, hk, rfl, hA, hbw⟩ := hrel
    have hsz := hbw.size
    by_cases hlt : k < 32
    · have hcell : wr.cell? ⟨b, off + (31 - k), none⟩ = some (.int .u8 (byteAt n (31 - k)).toNat) := by rw [hbw.cell (p := ⟨b, _, none⟩) hb]; exact HC.out _ (by omega)
      have hdst : wr.cell? ⟨w.heap.size, k / 4, none⟩ = some (.int .u32 (digU n k (k / 4))) := by rw [hA.cell]; exact cellsU_get _ _ _ (by omega)
      have hfz : wr.frozen? ⟨w.heap.size, k / 4, none⟩ = false := hA.frozen _
      have hl := digU_lt n k (k / 4)
      have hx := UInt8.toNat_lt (byteAt n (31 - k))
      go_wp2_with fail
      go_region
      all_goals go_wp2_with fail
      refine ⟨⟨k + 1, by omega, by go_num, ?_, (hbw.setCell (p := ⟨w.heap.size, k / 4, none⟩) (Nat.le_refl _) _).drew⟩, by simp [intOf] <;> omega⟩
      rw [digU_step _ _ hlt]
      have := (hA.set (k / 4) (.int .u32 (digU n (k + 1) (k / 4)))).drew
      rwa [cellsU_set] at this
    · obtain rfl : k = 32 := by omega
      have hcs : ∀ j, j < 8 → wr.cell? ⟨w.heap.size, j, none⟩ = some (.int .u32 (dig n j)) := by
        intro j hj
        rw [hA.cell, cellsU_get _ _ _ hj, digU_32 _ _ hn]
      have HCS := Lib.hid hcs; clear hcs
      go_wp2_with fail
      refine (ref_trim n w.heap.size wr hA.lt HCS.out).mono ?_
      rintro e w1 ⟨v, rfl, h1, h2⟩
      go_wp2_with fail
      go_ret
      exact ⟨_, rfl, h1, hbw.trans (h2.mono hsz)⟩
end Go.Proofs.YtlcokkiohilmlaaGreatDoor
