import Derived.Test.YtlcokkiohilmlaaGreatDoorRm
namespace Go.Proofs.YtlcokkiohilmlaaGreatDoor
open Go.RowKit
theorem dig_byte (n i : Nat) (hi : i < 32) : ((dig n (i / 4) : Int) / 2 ^ (8 * (i % 4)) % 256) = ((byteAt n (31 - i)).toNat : Int) := by
  have e : (byteAt n (31 - i)).toNat = n / 256 ^ i % 256 := byteAt_low n i hi
  have h : dig n (i / 4) / 2 ^ (8 * (i % 4)) % 256 = n / 256 ^ i % 256 := by
    unfold dig
    have e : 2 ^ 32 = 2 ^ (8 * (i % 4)) * 2 ^ (32 - 8 * (i % 4)) := by rw [← Nat.pow_add]; congr 1; omega
    rw [e, Nat.mod_mul_right_div_self, Nat.mod_mod_of_dvd _ (by rw [show (256 : Nat) = 2 ^ 8 from rfl]; exact Nat.pow_dvd_pow 2 (by omega)), Nat.div_div_eq_div_mul, ← Nat.pow_add, show (256 : Nat) ^ i = 2 ^ (8 * i) from by rw [show (256 : Nat) = 2 ^ 8 from rfl, ← Nat.pow_mul]]
    congr 3
    omega
  rw [e, ← h]
  simp
/-- the bytes up to place k, without zeros ahead -/
def upS (n k : Nat) : List UInt8 := ((be32 n).take k).dropWhile (· == 0)
theorem upS_32 (n : Nat) : upS n 32 = shortB n := by
  unfold upS shortB
  rw [List.take_of_length_le (by rw [be32_len]; exact Nat.le_refl _)]
theorem upS_len (n k : Nat) : (upS n k).length ≤ 32 := by
  unfold upS
  have := (List.dropWhile_suffix (fun x : UInt8 => x == 0) (l := (be32 n).take k)).length_le
  have h2 : ((be32 n).take k).length ≤ 32 := by rw [List.length_take, be32_len]; omega
  omega
theorem upS_succ (n k : Nat) (h : k < 32) : upS n (k + 1) = if (upS n k).length = 0 then (if byteAt n k = 0 then [] else [byteAt n k]) else upS n k ++ [byteAt n k] := by
  unfold upS
  rw [be32_snoc _ _ h, List.dropWhile_append]
  generalize List.dropWhile (fun x => x == 0) (List.take k (be32 n)) = l
  cases l with
  | nil =>
    by_cases e : byteAt n k = 0
    · simp [List.dropWhile, e]
    · have e' : (byteAt n k == 0) = false := by simpa using e
      simp [List.dropWhile, e, e']
  | cons a l => simp
theorem byteAt_zero (n m i : Nat) (h : ∀ j, m ≤ j → j < 8 → dig n j = 0) (hi : i < 32 - 4 * m) : byteAt n i = 0 := by
  have hd := dig_byte n (31 - i) (by omega)
  rw [h _ (by omega) (by omega), show 31 - (31 - i) = i from by omega] at hd
  have : (byteAt n i).toNat = 0 := by simpa using hd.symm
  exact UInt8.toNat_inj.1 this
theorem upS_zero (n m : Nat) (h : ∀ j, m ≤ j → j < 8 → dig n j = 0) : ∀ k, k ≤ 32 - 4 * m → upS n k = []
  | 0, _ => rfl
  | k + 1, hk => by
    rw [upS_succ n k (by omega), upS_zero n m h k (by omega), byteAt_zero n m k h (by omega)]
    rfl
theorem own_form {w : World} {base : Nat} {e : TypeId} {size n : Nat} {v : Value} {xs : List Value} (h : w.ownsRow base e size v n xs) : ∃ a cap, v = .slice a n cap := by
  rcases h.2 with ⟨rfl, h0⟩ | ⟨g, cap, cur, rfl, -⟩
  · exact ⟨none, 0, by rw [h0]⟩
  · exact ⟨_, _, rfl⟩
set_option maxHeartbeats 1600000 in
set_option maxRecDepth 100000 in
theorem ref_Bytes (n : Nat) (v : Value) (w : World) (hv : RdN w v n) :
    Calls Tryz.prog 58 #[v] w fun e w' => ∃ v, e = .returned v ∧ RdB w' v (shortB n) ∧ Below w.heap.size w w' := by
  obtain ⟨i0, hi, hz0, hz1, hz2⟩ := info_parts info_u8
  obtain ⟨b, m, hm, rfl, hb, hc, hz, -⟩ := hv
  have HC := Lib.hid hc; clear hc
  have HZ := Lib.hid hz; clear hz
  go_enter Tryz.func58, Tryz.ntmps58
  go_wp2_with fail
  go_loopw [3, 4] (fun o i wr => ∃ c : Nat, c ≤ 4 * m ∧ i = .int .i64 ((c : Int) - 1) ∧ wr.ownsRow w.heap.size 5 1 o (upS n (32 - c)).length (Lib.byteCells (upS n (32 - c))) ∧ Below w.heap.size w wr) (fun _ i _ => (intOf i + 1).toNat)
  case atStart => exact ⟨4 * m, Nat.le_refl _, by congr 1 <;> omega, by rw [upS_zero n m HZ.out _ (by omega)]; exact World.ownsRow_nil _ _ _ _, Below.refl _ _⟩
  case round =>
    obtain ⟨c, hc, hiv, hrow, hbw⟩ := hrel
    have hsz := hbw.size
    by_cases hc0 : 0 < c
    · obtain ⟨j, rfl⟩ : ∃ j, c = j + 1 := ⟨c - 1, by omega⟩
      have hiv2 := hiv.trans (show Value.int .i64 (((j + 1 : Nat) : Int) - 1) = Value.int .i64 (j : Int) from by congr 1; omega)
      clear hiv; subst hiv2
      have hcell : wr.cell? ⟨b, j / 4, none⟩ = some (.int .u32 (dig n (j / 4))) := by rw [hbw.cell (p := ⟨b, _, none⟩) hb]; exact HC.out _ (by omega)
      have hl := dig_lt n (j / 4)
      have hd := dig_byte n j (by omega)
      have hs := upS_succ n (31 - j) (by omega)
      rw [show 31 - j + 1 = 32 - j from by omega] at hs
      have hlen := upS_len n (31 - j)
      rw [show 32 - (j + 1) = 31 - j from by omega] at hrow
      generalize upS n (31 - j) = l at hrow hs hlen
      generalize byteAt n (31 - j) = x at hd hs
      have hx := UInt8.toNat_lt x
      obtain ⟨ao, capo, rfl⟩ := own_form hrow
      have HROW := Lib.hid hrow; clear hrow
      have HS := Lib.hid hs; clear hs
      by_cases h0 : l.length ≤ 0
      · by_cases hx0 : x = 0
        · have hres : upS n (32 - j) = l := by
            rw [HS.out, if_pos (by omega), if_pos hx0]
            exact (List.eq_nil_of_length_eq_zero (by omega)).symm
          have HRES := Lib.hid hres; clear hres
          have hxi : (x.toNat : Int) = 0 := by rw [hx0]; rfl
          go_wp2_with fail
          go_roundw
          case rel => exact ⟨j, by omega, by go_num, by rw [HRES.out]; exact HROW.out, hbw⟩
          case measure => simp [intOf] <;> omega
        · have hres : upS n (32 - j) = l ++ [x] := by
            rw [HS.out, if_pos (by omega), if_neg hx0]
            rw [List.eq_nil_of_length_eq_zero (l := l) (by omega)]; rfl
          have HRES := Lib.hid hres; clear hres
          have hxi : ((x.toNat : Int) != 0) = true := by
            have : x.toNat ≠ 0 := fun e => hx0 (UInt8.toNat_inj.1 e)
            simp; omega
          have HX0 := Lib.hid hx0; clear hx0
          go_wp2_with (at_builtin; refine wpList_append_own _ rfl _ _ 31 rfl w.heap.size 5 i0 (.int .u8 0) 1 1 Tryz.underlying31 hi hz0 hz1 hz2 rfl (by decide) (.slice ao l.length capo) l.length (Lib.byteCells l) rfl (HROW.out.alloc _) ⟨wr.heap.size, 0, none⟩ 1 1 [.int .u8 (x.toNat : Int)] rfl rfl ?c1 ?c2 ?c3 ?c4 ?c5 ?_)
          case c1 =>
            intro j u hj
            match j, hj with
            | 0, hj => simp at hj; subst hj; simp [Addr.add]
          case c2 => intro u hu; simp at hu; subst hu; rfl
          case c3 => unfold maxLen; omega
          case c4 => omega
          case c5 => simp; omega
          intro v' w2 hown' hgrow _
          have hblk := ownsRow_block HROW.out
          have hb2 := (hbw.alloc hsz (.cells #[.int .u8 (x.toNat : Int)] 5)).grown hgrow (by simp; omega) hblk
          have hr : w2.ownsRow w.heap.size 5 1 v' (upS n (32 - j)).length (Lib.byteCells (upS n (32 - j))) := by
            rw [HRES.out, Lib.byteCells_append, List.length_append]; exact hown'
          clear hown' hgrow
          have HR := Lib.hid hr; clear hr
          go_wp2_with fail
          go_roundw
          case rel => exact ⟨j, by omega, by go_num, HR.out, hb2⟩
          case measure => simp [intOf] <;> omega
      · have hres : upS n (32 - j) = l ++ [x] := by
          rw [HS.out, if_neg (by omega)]
        have HRES := Lib.hid hres; clear hres
        go_wp2_with (at_builtin; refine wpList_append_own _ rfl _ _ 31 rfl w.heap.size 5 i0 (.int .u8 0) 1 1 Tryz.underlying31 hi hz0 hz1 hz2 rfl (by decide) (.slice ao l.length capo) l.length (Lib.byteCells l) rfl (HROW.out.alloc _) ⟨wr.heap.size, 0, none⟩ 1 1 [.int .u8 (x.toNat : Int)] rfl rfl ?c1 ?c2 ?c3 ?c4 ?c5 ?_)
        case c1 =>
          intro j u hj
          match j, hj with
          | 0, hj => simp at hj; subst hj; simp [Addr.add]
        case c2 => intro u hu; simp at hu; subst hu; rfl
        case c3 => unfold maxLen; omega
        case c4 => omega
        case c5 => simp; omega
        intro v' w2 hown' hgrow _
        have hblk := ownsRow_block HROW.out
        have hb2 := (hbw.alloc hsz (.cells #[.int .u8 (x.toNat : Int)] 5)).grown hgrow (by simp; omega) hblk
        have hr : w2.ownsRow w.heap.size 5 1 v' (upS n (32 - j)).length (Lib.byteCells (upS n (32 - j))) := by
          rw [HRES.out, Lib.byteCells_append, List.length_append]; exact hown'
        clear hown' hgrow
        have HR := Lib.hid hr; clear hr
        go_wp2_with fail
        go_roundw
        case rel => exact ⟨j, by omega, by go_num, HR.out, hb2⟩
        case measure => simp [intOf] <;> omega
    · subst hiv
      obtain rfl : c = 0 := by omega
      rw [show 32 - 0 = 32 from rfl, upS_32] at hrow
      have hR := RdB_own hrow
      go_wp2_with fail
      go_ret
      exact ⟨_, rfl, hR, hbw⟩
end Go.Proofs.YtlcokkiohilmlaaGreatDoor
