import Derived.Test.YtlcokkiohilmlaaGreatDoorRh
import Derived.Test.YtlcokkiohilmlaaGreatDoorWs
import Derived.BigQuiet
namespace Go.Proofs.YtlcokkiohilmlaaGreatDoor
open Go.RowKit
/-- digit j of 32 bits -/
def dig (n j : Nat) : Nat := n / 2 ^ (32 * j) % 2 ^ 32
theorem dig_lt (n j : Nat) : dig n j < 2 ^ 32 := Nat.mod_lt _ (by decide)
/-- what a natural number of the reference reads as: at most 8 digits, no zero on top -/
def RdN (w : World) (v : Value) (n : Nat) : Prop :=
  ∃ b m : Nat, m ≤ 8 ∧ v = .slice (some ⟨b, 0, none⟩) m 8 ∧ b < w.heap.size ∧ (∀ j, j < m → w.cell? ⟨b, j, none⟩ = some (.int .u32 (dig n j))) ∧ (∀ j, m ≤ j → j < 8 → dig n j = 0) ∧ (0 < m → dig n (m - 1) ≠ 0)

set_option maxHeartbeats 800000 in
theorem ref_trim (n b : Nat) (w : World) (hb : b < w.heap.size) (hc : ∀ j, j < 8 → w.cell? ⟨b, j, none⟩ = some (.int .u32 (dig n j))) :
    Calls Tryz.prog 200 #[.slice (some ⟨b, 0, none⟩) 8 8] w fun e w' => ∃ v, e = .returned v ∧ RdN w' v n ∧ Below w.heap.size w w' := by
  have HC := Lib.hid hc; clear hc
  go_enter Tryz.func200, Tryz.ntmps200
  go_wp2_with fail
  go_loopw [3] (fun i wr => ∃ k : Nat, k ≤ 8 ∧ i = .int .i64 k ∧ (∀ j, k ≤ j → j < 8 → dig n j = 0) ∧ Below w.heap.size w wr) (fun i _ => (intOf i).toNat)
  case atStart => exact ⟨8, Nat.le_refl _, rfl, fun j h1 h2 => by omega, Below.refl _ _⟩
  case round =>
    obtain ⟨k, hk, rfl, hz, hbw⟩ := hrel
    have HZ := Lib.hid hz; clear hz
    have hsz := hbw.size
    by_cases hk0 : 0 < k
    · obtain ⟨j, rfl⟩ : ∃ j, k = j + 1 := ⟨k - 1, by omega⟩
      have hcell : wr.cell? ⟨b, j, none⟩ = some (.int .u32 (dig n j)) := by rw [hbw.cell (p := ⟨b, j, none⟩) hb]; exact HC.out j (by omega)
      by_cases h0 : dig n j = 0
      · rw [h0] at hcell
        have H0 := Lib.hid h0; clear h0
        go_wp2_with fail
        go_roundw
        case rel => exact ⟨j, by omega, by go_num, fun i h1 h2 => if e : i = j then e ▸ H0.out else HZ.out i (by omega) h2, hbw⟩
        case measure => simp [intOf] <;> omega
      · have hne : ((dig n j : Int) == 0) = false := by simp; omega
        have H0 := Lib.hid h0; clear h0
        go_wp2_with fail
        go_ret
        refine ⟨_, rfl, ⟨b, j + 1, hk, rfl, by omega, ?_, HZ.out, fun _ => H0.out⟩, hbw⟩
        intro i hi
        exact (hbw.cell (p := ⟨b, i, none⟩) hb).trans (HC.out i (by omega))
    · go_wp2_with fail
      go_ret
      refine ⟨_, rfl, ⟨b, k, hk, rfl, by omega, ?_, HZ.out, fun h => absurd h hk0⟩, hbw⟩
      intro i hi
      omega
end Go.Proofs.YtlcokkiohilmlaaGreatDoor
