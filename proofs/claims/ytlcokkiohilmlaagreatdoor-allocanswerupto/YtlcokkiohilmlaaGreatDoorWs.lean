import Derived.Test.YtlcokkiohilmlaaGreatDoorNm
import Derived.Test.YtlcokkiohilmlaaGreatDoorShelf
namespace Go.Proofs.YtlcokkiohilmlaaGreatDoor
open Go.RowKit

set_option maxHeartbeats 400000 in
theorem word_Bits (n : Nat) (w : World) (hn : n < 2 ^ 256) :
    Calls Tryz.prog 101 #[.agg (wcells n)] w fun e w' => ∃ B : Nat, e = .returned (.int .i64 B) ∧ IsBits n B ∧ Below w.heap.size w w' := by
  go_enter Tryz.func101, Tryz.ntmps101
  go_wp2_with fail
  go_loopw [3] (fun i wr => ∃ k : Nat, k ≤ 4 ∧ i = .int .i64 ((k : Int) - 1) ∧ (∀ j, k ≤ j → j < 4 → limb n j = 0) ∧ Blk wr w.heap.size (wcells n) 43 ∧ Below w.heap.size w wr) (fun i _ => (intOf i + 1).toNat)
  case atStart => exact ⟨4, by omega, rfl, fun j h1 h2 => by omega, Blk.new _ _ _, (Below.refl _ _).alloc (Nat.le_refl _) _⟩
  case round =>
    obtain ⟨k, hk, rfl, hz, hA, hbw⟩ := hrel
    cases k with
    | zero =>
      have h0 : n = 0 := by
        have := limb_zero_above hn (i := 0) (fun j _ h => hz j (by omega) h) (by omega)
        simpa using this
      go_wp2_with fail
      go_ret
      exact ⟨0, rfl, .inl ⟨h0, rfl⟩, hbw⟩
    | succ k =>
      have hcell : wr.cell? ⟨w.heap.size, k, none⟩ = some (.int .u64 (limb n k)) := by rw [hA.cell]; exact wcells_get _ _ (by omega)
      have hl := limb_lt n k
      by_cases h0 : limb n k = 0
      · have hb : ((limb n k : Int) != 0) = false := by simp [h0]
        have H0 := Lib.hid h0; clear h0
        go_wp2_with fail
        go_roundw
        case rel => exact ⟨k, by omega, rfl, fun j h1 h2 => if e : j = k then e ▸ H0.out else hz j (by omega) h2, hA, hbw⟩
        case measure => simp [intOf] <;> omega
      · have hb : ((limb n k : Int) != 0) = true := by simp [h0]
        have hlt : n < 2 ^ (64 * (k + 1)) := limb_zero_above hn hz hk
        have HB := Lib.hid (isBits_at hlt h0)
        have hle := isBits_le HB.out hn
        clear hlt h0
        go_wp2_with fail
        refine (Tryz.bits_Len64 _ _ (by omega) (by omega)).mono ?_
        rintro e w1 ⟨rfl, rfl⟩
        simp only [Int.toNat_natCast]
        go_wp2_with fail
        go_ret
        exact ⟨_, by rw [Int.natCast_add]; rfl, HB.out, hbw⟩

theorem al_b32 : Tryz.prog.arrayLen 23 = 32 := by kernel_rfl
theorem el_b32 : Tryz.prog.elem 23 = 5 := by kernel_rfl
theorem size_u8 : (Tryz.prog.info? 5).map (·.size) = some 1 := by kernel_rfl
theorem info_u8 : (Tryz.prog.info? 5).map (fun i => (i.zero, i.size, i.bytes)) = some (some (.int .u8 0), 1, 1) := by kernel_rfl
/-- an owned row of bytes reads as its bytes -/
theorem RdB_own {w : World} {B : Nat} {v : Value} {l : List UInt8} (h : w.ownsRow B 5 1 v l.length (Lib.byteCells l)) : RdB w v l := by
  rcases h.2 with ⟨hv, h0⟩ | ⟨g, cap, cur, hv, _⟩
  · have : l = [] := List.eq_nil_of_length_eq_zero h0
    subst this
    exact ⟨none, 0, hv, fun i hi => absurd hi (by simp)⟩
  · refine ⟨some ⟨g, 0, none⟩, cap, hv, fun i hi => ⟨g, 0, rfl, ?_⟩⟩
    have := h.cells (g := g) (by rw [hv]; rfl) i (.int .u8 l[i].toNat) (by simp [Lib.byteCells, hi])
    rw [Addr.add_mid] at this
    exact this

set_option maxRecDepth 100000 in
set_option maxHeartbeats 800000 in
theorem word_Short (n : Nat) (w : World) (hn : n < 2 ^ 256) :
    Calls Tryz.prog 56 #[.agg (wcells n)] w fun e w' => ∃ v, e = .returned v ∧ RdB w' v (shortB n) ∧ Below w.heap.size w w' := by
  obtain ⟨i0, hi, hz0, hz1, hz2⟩ := info_parts info_u8
  have hwsz : (Tryz.prog.info? 43).map (·.size) = some (wcells n).size := by rw [wcells_size]; kernel_rfl
  go_enter Tryz.func56, Tryz.ntmps56
  go_wp2_with (first | (refine wpList_load_arr rfl 43 _ rfl _ _ rfl (wcells n) _ (Blk.all (Blk.new _ _ _)) Tryz.underlying43 rfl hwsz ?_))
  refine (word_Bytes n _).mono ?_
  rintro e w1 ⟨rfl, b1⟩
  have hA := (Blk.new w (wcells n) 43).below b1 (by simp)
  have hlt := hA.lt
  have hsz : (Tryz.prog.info? 23).map (·.size) = some (bytesV (be32 n)).size := by rw [bytesV_size, be32_len]; exact size_b32
  have hone : (bytesV (be32 n)).all (·.oneCell') = true := bytesV_one _
  have h32 : (bytesV (be32 n)).size = 32 := by rw [bytesV_size, be32_len]
  go_wp2_with (first | (refine wpList_store_mid rfl 23 _ _ rfl _ _ (bytesV (be32 n)) rfl rfl ?h1 hsz hone ?_; (case h1 => exact (Blk.new _ _ _).there 0 _ (by rw [h32]; exact Nat.le_refl _))) | (refine wpList_load_arr rfl 43 _ rfl _ _ rfl (wcells n) _ ?h2 Tryz.underlying43 rfl hwsz ?_; (case h2 => exact ((hA.alloc _).sets_ne _ _ _ (by omega)).all)))
  have hbw : Below w.heap.size w w1 := ((Below.refl _ _).alloc (Nat.le_refl _) _).trans (b1.mono (by simp))
  generalize hw2 : World.setCells _ _ _ _ = w2
  obtain ⟨hN, hs2, hbel, _⟩ := stored_new hw2 (by rw [h32]; rfl)
  have hbw2 := hbel _ _ hbw hbw.size
  clear hw2 hbel hbw hA hlt
  refine (word_Bits n _ hn).mono ?_
  rintro e w3 ⟨B, rfl, hB, b3⟩
  have hN3 := hN.below b3 (by rw [hs2]; simp)
  have hbw3 := hbw2.trans (b3.mono hbw2.size)
  have hBle := isBits_le hB hn
  have hsh := Lib.hid (shortB_drop hn hB)
  clear hN hbw2 hB
  obtain ⟨X, hX, hXe⟩ := run_sliceAt_from (P := Tryz.prog) Tryz.underlying23 size_u8 al_b32 el_b32 ⟨w1.heap.size, 0, none⟩ (32 - ((B : Int) + 7) / 8) (by omega) (by omega)
  have hXE : Hid ((32 - ((B : Int) + 7) / 8) < 32 → X = (⟨w1.heap.size, 0, none⟩ : Addr).add (32 - ((B : Int) + 7) / 8).toNat) := hXe
  clear hXe
  have hlen : (Lib.byteCells (shortB n)).length = (32 - (32 - (B + 7) / 8)) * 1 := by
    rw [hsh.out]; simp [Lib.byteCells, be32_len]
  have HL := Lib.hid hlen; clear hlen
  have hnews : ∀ j u, (Lib.byteCells (shortB n))[j]? = some u → w3.cell? (X.add j) = some u := by
    intro j u hu
    have hj : j < (Lib.byteCells (shortB n)).length := (List.getElem?_eq_some_iff.1 hu).1
    rw [HL.out] at hj
    rw [hXE.out (by omega), Addr.add_mid, Addr.add_mid, hN3.cell]
    rw [hsh.out] at hu
    have e : (32 - ((B : Int) + 7) / 8).toNat = 32 - (B + 7) / 8 := by omega
    rw [e, ← hu]
    simp [bytesV, Lib.byteCells]
  have HN := Lib.hid hnews; clear hnews
  go_wp2_with (at_builtin; refine wpList_append_own _ rfl _ _ 31 rfl w.heap.size 5 i0 (.int .u8 0) 1 1 Tryz.underlying31 hi hz0 hz1 hz2 rfl (by decide) (.slice none 0 0) 0 [] rfl (World.ownsRow_nil _ _ _ _) X _ _ (Lib.byteCells (shortB n)) rfl HL.out HN.out ?c2 ?c3 ?c4 ?c5 ?_)
  case c2 =>
    intro u hu
    simp only [Lib.byteCells, List.mem_map] at hu
    obtain ⟨x, _, rfl⟩ := hu
    rfl
  case c3 => unfold maxLen; omega
  case c4 => omega
  case c5 => exact hbw3.size
  intro v' w4 hown hgrow _
  have hown' : w4.ownsRow w.heap.size 5 1 v' (shortB n).length (Lib.byteCells (shortB n)) := by
    have hl := HL.out
    have e : 32 - (32 - (B + 7) / 8) = (shortB n).length := by simpa [Lib.byteCells] using hl.symm
    rw [← e]; exact hown
  clear hown HL HN hXE hX
  go_wp2
  go_ret
  exact ⟨v', rfl, RdB_own hown', hbw3.grown hgrow hbw3.size (fun k hk => by simp [Value.ownBlock] at hk)⟩
end Go.Proofs.YtlcokkiohilmlaaGreatDoor
