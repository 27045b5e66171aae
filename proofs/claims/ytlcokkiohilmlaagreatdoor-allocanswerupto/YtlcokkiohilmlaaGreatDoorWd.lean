import Derived.Test.YtlcokkiohilmlaaGreatDoorKt
namespace Go.Proofs.YtlcokkiohilmlaaGreatDoor
open Go.RowKit

/-- limb i of a number -/
def limb (n i : Nat) : Nat := n / 2 ^ (64 * i) % 2 ^ 64
theorem limb_lt (n i : Nat) : limb n i < 2 ^ 64 := Nat.mod_lt _ (by decide)
def wcells (n : Nat) : Array Value := #[.int .u64 (limb n 0), .int .u64 (limb n 1), .int .u64 (limb n 2), .int .u64 (limb n 3)]
theorem wcells_get (n i : Nat) (h : i < 4) : (wcells n)[i]? = some (.int .u64 (limb n i)) := by
  match i, h with
  | 0, _ => rfl
  | 1, _ => rfl
  | 2, _ => rfl
  | 3, _ => rfl
theorem wcells_size (n : Nat) : (wcells n).size = 4 := rfl

/-- an array of bytes as cells -/
def bytesV (l : List UInt8) : Array Value := (Lib.byteCells l).toArray
theorem bytesV_size (l : List UInt8) : (bytesV l).size = l.length := by simp [bytesV, Lib.byteCells]
theorem bytesV_get (l : List UInt8) (i : Nat) (h : i < l.length) : (bytesV l)[i]? = some (.int .u8 l[i].toNat) := by
  simp [bytesV, Lib.byteCells, h]
theorem bytesV_set (l : List UInt8) (i : Nat) (x : UInt8) : (bytesV l).setIfInBounds i (.int .u8 x.toNat) = bytesV (l.set i x) := by
  simp only [bytesV, Lib.byteCells, List.map_set, List.setIfInBounds_toArray]

theorem mod_shift (a s : Nat) (h : s + 8 ≤ 64) : a % 2 ^ 64 / 2 ^ s % 256 = a / 2 ^ s % 256 := by
  have e : 2 ^ 64 = 2 ^ s * 2 ^ (64 - s) := by rw [← Nat.pow_add]; congr 1; omega
  rw [e, Nat.mod_mul_right_div_self]
  exact Nat.mod_mod_of_dvd _ (by rw [show (256 : Nat) = 2 ^ 8 from rfl]; exact Nat.pow_dvd_pow 2 (by omega))
theorem limb_byte (n j : Nat) : limb n (j / 8) / 2 ^ (j % 8 * 8) % 256 = n / 256 ^ j % 256 := by
  unfold limb
  rw [mod_shift _ _ (by omega), Nat.div_div_eq_div_mul, ← Nat.pow_add, show (256 : Nat) ^ j = 2 ^ (8 * j) from by rw [show (256 : Nat) = 2 ^ 8 from rfl, ← Nat.pow_mul]]
  congr 3
  omega
theorem bytesV_one (l : List UInt8) : (bytesV l).all (·.oneCell') = true := by
  rw [Array.all_eq_true_iff_forall_mem]
  intro v hv
  simp only [bytesV, Lib.byteCells, List.mem_toArray, List.mem_map] at hv
  obtain ⟨x, _, rfl⟩ := hv
  rfl
/-- byte i of 32, the highest first -/
def byteAt (n i : Nat) : UInt8 := (n / 256 ^ (31 - i) % 256).toUInt8
def be32 (n : Nat) : List UInt8 := (List.range 32).map (byteAt n)
def be32upto (n k : Nat) : List UInt8 := (List.range 32).map fun i => if i < k then byteAt n i else 0
theorem be32upto_len (n k : Nat) : (be32upto n k).length = 32 := by simp [be32upto]
theorem be32upto_set (n k : Nat) : (be32upto n k).set k (byteAt n k) = be32upto n (k + 1) := by
  apply List.ext_getElem
  · simp [be32upto]
  · intro i h1 h2
    simp only [be32upto, List.length_map, List.length_range] at h2
    simp only [List.getElem_set, be32upto, List.getElem_map, List.getElem_range]
    by_cases e : k = i
    · subst e; simp
    · rw [if_neg e]
      by_cases h3 : i < k
      · rw [if_pos h3, if_pos (by omega)]
      · rw [if_neg h3, if_neg (by omega)]
theorem be32upto_32 (n : Nat) : be32upto n 32 = be32 n := by
  apply List.map_congr_left
  intro i hi
  rw [if_pos (by simpa using hi)]

theorem be32_len (n : Nat) : (be32 n).length = 32 := by simp [be32]
theorem size_b32 : (Tryz.prog.info? 23).map (·.size) = some 32 := by kernel_rfl
theorem zeros32 (n : Nat) : bytesV (be32upto n 0) = #[.int .u8 0, .int .u8 0, .int .u8 0, .int .u8 0, .int .u8 0, .int .u8 0, .int .u8 0, .int .u8 0, .int .u8 0, .int .u8 0, .int .u8 0, .int .u8 0, .int .u8 0, .int .u8 0, .int .u8 0, .int .u8 0, .int .u8 0, .int .u8 0, .int .u8 0, .int .u8 0, .int .u8 0, .int .u8 0, .int .u8 0, .int .u8 0, .int .u8 0, .int .u8 0, .int .u8 0, .int .u8 0, .int .u8 0, .int .u8 0, .int .u8 0, .int .u8 0] := by
  simp [bytesV, be32upto, Lib.byteCells, List.range, List.range.loop]

set_option maxHeartbeats 400000 in
theorem word_Bytes (n : Nat) (w : World) :
    Calls Tryz.prog 100 #[.agg (wcells n)] w fun e w' => e = .returned (.agg (bytesV (be32 n))) ∧ Below w.heap.size w w' := by
  have hz := zeros32 n
  go_enter Tryz.func100, Tryz.ntmps100
  go_wp2_with fail
  go_loopw [6] (fun i wr => ∃ k : Nat, k ≤ 32 ∧ i = .int .i64 k ∧ Blk wr w.heap.size (wcells n) 43 ∧ (∃ cs, cs.size = 32 ∧ Blk wr (w.heap.size + 1) cs 23) ∧ Blk wr (w.heap.size + 1 + 1) (bytesV (be32upto n k)) 23 ∧ Below w.heap.size w wr) (fun i _ => 32 - (intOf i).toNat)
  case atStart =>
    refine ⟨0, by omega, rfl, ((Blk.new _ _ _).alloc _).alloc _, ⟨bytesV (be32upto n 0), by rw [bytesV_size, be32upto_len], ?_⟩, ?_, ?_⟩
    · rw [hz]; exact (Blk.new' (by simp) _ _).alloc _
    · rw [hz]; exact Blk.new' (by simp) _ _
    · exact (((Below.refl _ _).alloc (Nat.le_refl _) _).alloc (by simp) _).alloc (by simp; omega) _
  case round =>
    obtain ⟨k, hk, rfl, hA, ⟨cs, hcs, hB⟩, hC, hbw⟩ := hrel
    by_cases hlt : k < 32
    · have hcell : wr.cell? ⟨w.heap.size, (31 - k) / 8, none⟩ = some (.int .u64 (limb n ((31 - k) / 8))) := by rw [hA.cell]; exact wcells_get _ _ (by omega)
      have hlim := limb_lt n ((31 - k) / 8)
      have hdst : wr.cell? ⟨w.heap.size + 1 + 1, k, none⟩ = some (.int .u8 (be32upto n k)[k]!.toNat) := by
        rw [hC.cell, bytesV_get _ _ (by rw [be32upto_len]; omega), getElem!_pos]
      have hfz : wr.frozen? ⟨w.heap.size + 1 + 1, k, none⟩ = false := hC.frozen _
      have hx : (Value.int .u8 ((limb n ((31 - k) / 8) : Int) / 2 ^ ((31 - k) % 8 * 8) % 256)) = .int .u8 (byteAt n k).toNat := by
        have := limb_byte n (31 - k)
        have e : ((byteAt n k).toNat : Int) = ((limb n ((31 - k) / 8) / 2 ^ ((31 - k) % 8 * 8) % 256 : Nat) : Int) := by
          rw [this]; simp [byteAt]
        rw [e]; simp
      have HX := Lib.hid hx; clear hx
      go_wp2_with fail
      go_roundw
      case rel =>
        refine ⟨k + 1, by omega, by go_num, hA.set_ne _ _ _ (by omega), ⟨cs, hcs, hB.set_ne _ _ _ (by omega)⟩, ?_, hbw.setCell (p := ⟨w.heap.size + 1 + 1, k, none⟩) (by simp; omega) _⟩
        rw [HX.out]
        have := hC.set k (.int .u8 (byteAt n k).toNat)
        rwa [bytesV_set, be32upto_set] at this
      case measure => simp [intOf]; omega
    · obtain rfl : k = 32 := by omega
      rw [be32upto_32] at hC
      have hsz : (Tryz.prog.info? 23).map (·.size) = some (bytesV (be32 n)).size := by rw [bytesV_size, be32_len]; exact size_b32
      have h1 : (bytesV (be32 n)).all (·.oneCell') = true := bytesV_one _
      have hth := hB.there 0 (bytesV (be32 n)).size (by rw [hcs, bytesV_size]; simp [be32])
      go_wp2_with (first | (refine wpList_load_arr rfl 23 _ rfl _ _ rfl (bytesV (be32 n)) _ hC.all Tryz.underlying23 rfl hsz ?_) | (refine wpList_store_mid rfl 23 _ _ rfl _ _ (bytesV (be32 n)) rfl rfl hth hsz h1 ?_))
      have hB' := hB.sets_all (cs' := bytesV (be32 n)) (by rw [hcs, bytesV_size]; simp [be32])
      refine bodyPost_ret (v := .agg (bytesV (be32 n))) (results_cell_arr rfl _ _ _ _ _ _ rfl hB'.all Tryz.underlying23 rfl hsz) rfl ⟨rfl, ?_⟩
      exact Below.setCells hbw (by omega) _ _
end Go.Proofs.YtlcokkiohilmlaaGreatDoor
