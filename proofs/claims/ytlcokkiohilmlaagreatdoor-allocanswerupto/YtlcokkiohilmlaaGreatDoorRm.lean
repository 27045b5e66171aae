import Derived.Test.YtlcokkiohilmlaaGreatDoorRf
namespace Go.Proofs.YtlcokkiohilmlaaGreatDoor
open Go.RowKit
theorem be32_snoc (n c : Nat) (h : c < 32) : (be32 n).take (c + 1) = (be32 n).take c ++ [byteAt n c] := by
  rw [List.take_succ_eq_append_getElem (by rw [be32_len]; exact h)]
  simp [be32]
theorem limb_at (n m p : Nat) (hm : m < 4) (hp : p < 8) : ((limb n m : Int) / 2 ^ (8 * p) % 256) = (byteAt n (8 * (3 - m) + (7 - p))).toNat := by
  have h := limb_byte n (8 * m + p)
  rw [show (8 * m + p) / 8 = m from by omega, show (8 * m + p) % 8 * 8 = 8 * p from by omega] at h
  have e : (byteAt n (8 * (3 - m) + (7 - p))).toNat = n / 256 ^ (8 * m + p) % 256 := by
    simp only [byteAt, show 31 - (8 * (3 - m) + (7 - p)) = 8 * m + p from by omega]
    simp
  rw [e, ← h]
  simp
set_option maxHeartbeats 1600000 in
set_option maxRecDepth 100000 in
theorem ref_N (n : Nat) (w : World) (hn : n < 2 ^ 256) :
    Calls Tryz.prog 59 #[.agg (wcells n)] w fun e w' => ∃ v, e = .returned v ∧ RdN w' v n ∧ Below w.heap.size w w' := by
  obtain ⟨i0, hi, hz0, hz1, hz2⟩ := info_parts info_u8
  go_enter Tryz.func59, Tryz.ntmps59
  go_wp2_with fail
  go_loopw [3, 4] (fun o i wr => ∃ m : Nat, m ≤ 4 ∧ i = .int .i64 ((m : Int) - 1) ∧ wr.ownsRow (w.heap.size + 1) 5 1 o (8 * (4 - m)) (Lib.byteCells ((be32 n).take (8 * (4 - m)))) ∧ Blk wr w.heap.size (wcells n) 43 ∧ Below w.heap.size w wr) (fun _ i _ => (intOf i + 1).toNat)
  case atStart => exact ⟨4, Nat.le_refl _, rfl, World.ownsRow_nil _ _ _ _, Blk.new _ _ _, (Below.refl _ _).alloc (Nat.le_refl _) _⟩
  case round =>
    obtain ⟨m, hm, hiv, hrow, hA, hbw⟩ := hrel
    have hsz := hbw.size
    have hlt := hA.lt
    have HROW := Lib.hid hrow; clear hrow
    by_cases hm0 : 0 < m
    · obtain ⟨M, rfl⟩ : ∃ M, m = M + 1 := ⟨m - 1, by omega⟩
      have hiv2 := hiv.trans (show Value.int .i64 (((M + 1 : Nat) : Int) - 1) = Value.int .i64 (M : Int) from by congr 1; omega)
      clear hiv; subst hiv2
      obtain ⟨wo, rfl⟩ : ∃ wo : World, wo = wr := ⟨_, rfl⟩
      go_wp2_with fail
      go_loopw [3, 5] (fun o i wr => ∃ p : Nat, p ≤ 8 ∧ i = .int .i64 ((p : Int) - 1) ∧ wr.ownsRow (w.heap.size + 1) 5 1 o (8 * (3 - M) + (8 - p)) (Lib.byteCells ((be32 n).take (8 * (3 - M) + (8 - p)))) ∧ Blk wr w.heap.size (wcells n) 43 ∧ Below w.heap.size w wr) (fun _ i _ => (intOf i + 1).toNat)
      case atStart => exact ⟨8, Nat.le_refl _, rfl, by rw [show 8 * (3 - M) + (8 - 8) = 8 * (4 - (M + 1)) from by omega]; exact HROW.out, hA, hbw⟩
      case round =>
        obtain ⟨p, hp, rfl, hrow, hA, hbw⟩ := hrel
        have hsz := hbw.size
        have hlt := hA.lt
        have HROW := Lib.hid hrow; clear hrow
        by_cases hp0 : 0 < p
        · obtain ⟨q, rfl⟩ : ∃ q, p = q + 1 := ⟨p - 1, by omega⟩
          have hcell : wr.cell? ⟨w.heap.size, M, none⟩ = some (.int .u64 (limb n M)) := by rw [hA.cell]; exact wcells_get _ _ (by omega)
          have hl := limb_lt n M
          go_wp2_with (at_builtin; refine wpList_append_own _ rfl _ _ 31 rfl (w.heap.size + 1) 5 i0 (.int .u8 0) 1 1 Tryz.underlying31 hi hz0 hz1 hz2 rfl (by decide) u3 (8 * (3 - M) + (8 - (q + 1))) (Lib.byteCells ((be32 n).take (8 * (3 - M) + (8 - (q + 1))))) rfl (HROW.out.alloc _) ⟨wr.heap.size, 0, none⟩ 1 1 [.int .u8 ((limb n M : Int) / 2 ^ (8 * q) % 256)] rfl rfl ?c1 ?c2 ?c3 ?c4 ?c5 ?_)
          case c1 =>
            intro j u hj
            match j, hj with
            | 0, hj => simp at hj; subst hj; simp [Addr.add]
          case c2 => intro u hu; simp at hu; subst hu; rfl
          case c3 => unfold maxLen; omega
          case c4 => omega
          case c5 => simp; omega
          intro v' w2 hown' hgrow _
          have hblk := ownsRow_block HROW.out
          have hA2 := (hA.alloc (.cells #[.int .u8 ((limb n M : Int) / 2 ^ (8 * q) % 256)] 5)).grown hgrow (fun e => by have := hblk _ e; omega)
          have hb2 := (hbw.alloc hsz (.cells #[.int .u8 ((limb n M : Int) / 2 ^ (8 * q) % 256)] 5)).grown hgrow (by simp; omega) (fun k hk => by have := hblk k hk; omega)
          rw [limb_at n M q (by omega) (by omega)] at hown'
          have hr : w2.ownsRow (w.heap.size + 1) 5 1 v' (8 * (3 - M) + (8 - q)) (Lib.byteCells ((be32 n).take (8 * (3 - M) + (8 - q)))) := by
            rw [show 8 * (3 - M) + (8 - q) = 8 * (3 - M) + (8 - (q + 1)) + 1 from by omega, be32_snoc _ _ (by omega), Lib.byteCells_append]
            rw [show 8 * (3 - M) + (7 - q) = 8 * (3 - M) + (8 - (q + 1)) from by omega] at hown'
            exact hown'
          clear hown' hgrow
          have HR := Lib.hid hr; clear hr
          go_wp2_with fail
          go_roundw
          case rel => exact ⟨q, by omega, by go_num, HR.out, hA2, hb2⟩
          case measure => simp [intOf] <;> omega
        · go_wp2_with fail
          go_roundw
          case rel => exact ⟨M, by omega, by go_num, by rw [show 8 * (4 - M) = 8 * (3 - M) + (8 - p) from by omega]; exact HROW.out, hA, hbw⟩
          case measure => simp [intOf] <;> omega
    · subst hiv
      obtain rfl : m = 0 := by omega
      have hR : RdB wr u3 (be32 n) := RdB_own (by have := HROW.out; rw [be32_len]; rw [show 8 * (4 - 0) = 32 from rfl, List.take_of_length_le (by rw [be32_len]; exact Nat.le_refl _)] at this; exact this)
      go_wp2_with fail
      refine (ref_From n u3 wr hn hR).mono ?_
      rintro e w1 ⟨v, rfl, h1, h2⟩
      go_wp2_with fail
      go_ret
      exact ⟨_, rfl, h1, hbw.trans (h2.mono hsz)⟩
end Go.Proofs.YtlcokkiohilmlaaGreatDoor
