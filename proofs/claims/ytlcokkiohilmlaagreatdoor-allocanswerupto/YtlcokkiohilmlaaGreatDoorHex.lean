import Derived.Test.YtlcokkiohilmlaaGreatDoorBldS
import Derived.Test.YtlcokkiohilmlaaGreatDoorTxt
import Derived.Lib.Hide
namespace Go.Proofs.YtlcokkiohilmlaaGreatDoor
open Go.RowKit
/-- v reads as the bytes l -/
def RdB (w : World) (v : Value) (l : List UInt8) : Prop :=
  ∃ a cap, v = .slice a l.length cap ∧ ∀ i (h : i < l.length), ∃ b off, a = some ⟨b, off, none⟩ ∧ w.cell? ⟨b, off + i, none⟩ = some (.int .u8 l[i].toNat)

theorem fresh75 (w : World) : Lib.IsBuilder 50 5 w.heap.size w.heap.size [] (w.alloc (.cells #[.pointer none, .slice none 0 0] 50)) := Lib.fresh_isBuilder 50 5 w

theorem dig_get (n : Nat) (h : n < 16) : ({ data := #[48, 49, 50, 51, 52, 53, 54, 55, 56, 57, 97, 98, 99, 100, 101, 102] } : ByteArray)[n]'h = hexd n := by
  have h' : ∀ i : Fin 16, ({ data := #[48, 49, 50, 51, 52, 53, 54, 55, 56, 57, 97, 98, 99, 100, 101, 102] } : ByteArray)[i.val]'(i.isLt) = hexd i.val := by decide
  exact h' ⟨n, h⟩
theorem cell_lt {w : World} {b o : Nat} {v : Value} (h : w.cell? ⟨b, o, none⟩ = some v) : b < w.heap.size := by
  rcases Nat.lt_or_ge b w.heap.size with h' | h'
  · exact h'
  · simp [World.cell?, Array.getElem?_eq_none h'] at h
/-- a cell that was there is there still -/
theorem cell_later {w w' : World} {b o : Nat} {v : Value} (hb : Below w.heap.size w w') (h : w.cell? ⟨b, o, none⟩ = some v) : w'.cell? ⟨b, o, none⟩ = some v :=
  (hb.cell (p := ⟨b, o, none⟩) (cell_lt h)).trans h

theorem text_take_len (l : List UInt8) (k : Nat) (hk : k ≤ l.length) : (Lib.byteCells (text (l.take k))).length = 2 + 2 * k := by
  simp [Lib.byteCells, text, hexes_length, Nat.min_eq_left hk]; omega
theorem text_snoc (l : List UInt8) (k : Nat) (hk : k < l.length) :
    Lib.byteCells (text (l.take (k + 1))) = Lib.byteCells (text (l.take k)) ++ [.int .u8 (hexd (l[k].toNat / 16)).toNat] ++ [.int .u8 (hexd (l[k].toNat % 16)).toNat] := by
  rw [List.take_succ_eq_append_getElem hk]
  simp only [Lib.byteCells, text, hexes_append, hexes, List.map_cons, List.map_append, List.map_nil, List.cons_append, List.append_assoc, List.nil_append]

set_option maxHeartbeats 400000 in
theorem Text (v : Value) (l : List UInt8) (w : World) (hv : RdB w v l) (hl : l.length ≤ 2^40) :
    Calls Tryz.prog 35 #[v] w fun e w' => e = .returned (.string ⟨(text l).toArray⟩) ∧ Below w.heap.size w w' := by
  obtain ⟨a, cap, rfl, hc⟩ := hv
  have hb0 : Below w.heap.size w (w.alloc (.cells #[.pointer none, .slice none 0 0] 50)) := (Below.refl _ _).alloc (Nat.le_refl _) _
  go_enter Tryz.func35, Tryz.ntmps35
  go_wp2_with fail
  refine (WriteString (T := 50) (.inl rfl) w.heap.size w.heap.size [] _ _ (fresh75 w) (by decide) (by simp)).mono ?_
  rintro e w1 ⟨rfl, h1, b1, -⟩
  have hb1 : Below w.heap.size w w1 := hb0.trans b1
  clear hb0 b1
  go_wp2_with fail
  go_loopw [9] (fun i wr => ∃ k : Nat, k ≤ l.length ∧ i = .int .i64 k ∧ Lib.BuilderAt 50 5 w.heap.size w.heap.size (.pointer (some ⟨w.heap.size, 0, none⟩)) (Lib.byteCells (text (l.take k))) wr ∧ Below w.heap.size w wr) (fun i _ => l.length - (intOf i).toNat)
  case atStart => exact ⟨0, Nat.zero_le _, rfl, h1, hb1⟩
  case round =>
    obtain ⟨k, hk, rfl, hB, hbw⟩ := hrel
    have hsz := hbw.size
    by_cases hlt : k < l.length
    · obtain ⟨b, off, rfl, hcell⟩ := hc k hlt
      have hcell' := cell_later hbw hcell
      have hx : l[k].toNat < 256 := UInt8.toNat_lt _
      clear hcell hc
      go_wp2_with fail
      refine (WriteByte (T := 50) (.inl rfl) w.heap.size w.heap.size _ _ _ (.inr hB) (by rw [text_take_len l k hk]; omega) hsz).mono ?_
      rintro e w2 ⟨rfl, h2, b2, -⟩
      go_wp2_with fail
      refine (WriteByte (T := 50) (.inl rfl) w.heap.size w.heap.size _ _ _ (.inr h2) (by rw [List.length_append, text_take_len l k hk]; simp; omega) (by have := b2.size; omega)).mono ?_
      rintro e w3 ⟨rfl, h3, b3, -⟩
      rw [dig_get _ (by omega), dig_get _ (by omega), ← text_snoc l k hlt] at h3
      go_wp2_with fail
      go_roundw
      case rel => exact ⟨k + 1, hlt, by go_num, h3, (hbw.trans b2).trans b3⟩
      case measure => simp [intOf]; omega
    · obtain rfl : k = l.length := by omega
      rw [List.take_length] at hB
      go_wp2_with fail
      refine (Str_any (T := 50) (.inl rfl) w.heap.size w.heap.size (text l) _ (.inr hB) hsz).mono ?_
      rintro e w2 ⟨rfl, b2⟩
      go_wp2_with fail
      go_ret
      exact ⟨rfl, hbw.trans b2⟩
end Go.Proofs.YtlcokkiohilmlaaGreatDoor
