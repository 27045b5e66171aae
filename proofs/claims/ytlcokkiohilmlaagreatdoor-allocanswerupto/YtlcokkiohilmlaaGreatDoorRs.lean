import Derived.Test.YtlcokkiohilmlaaGreatDoorRc
namespace Go.Proofs.YtlcokkiohilmlaaGreatDoor
open Go.RowKit
set_option maxRecDepth 100000 in
set_option maxHeartbeats 1600000 in
theorem text_receipts (B b : Nat) (acc : List UInt8) (w : World) (v : Value) (ds : List RecD) (h : Lib.IsBuilder 52 5 B b (Lib.byteCells acc) w)
    (hv : RdS B w 261 (RecC B w) v ds) (hBw : B ≤ w.heap.size) (hlen : (acc ++ recsS ds).length ≤ 2 ^ 40) :
    Calls Tryz.prog 12 #[.pointer (some ⟨b, 0, none⟩), v] w fun e w' => e = .returned (.tuple #[]) ∧
      Lib.IsBuilder 52 5 B b (Lib.byteCells (acc ++ recsS ds)) w' ∧ Below B w w' ∧ Lib.OthersKept 5 (some b) w w' := by
  obtain ⟨a, cap, rfl, hc⟩ := hv
  have hds : ds.length ≤ 2 ^ 40 := by
    have := flatMap_ge recS (fun d => by have := lineS_pos (recP d); simp only [recS, List.length_append]; omega) ds
    simp only [recsS, List.length_append] at hlen
    omega
  have HC := Lib.hid hc; clear hc
  go_enter Tryz.func12, Tryz.ntmps12
  go_wp2_with fail
  go_loopw [8] (fun i wr => ∃ k : Nat, k ≤ ds.length ∧ i = .int .i64 k ∧ Lib.IsBuilder 52 5 B b (Lib.byteCells (acc ++ recsS (ds.take k))) wr ∧ Below B w wr ∧ Lib.OthersKept 5 (some b) w wr) (fun i _ => ds.length - (intOf i).toNat)
  case atStart => exact ⟨0, Nat.zero_le _, rfl, by simpa [recsS] using h, Below.refl _ _, Lib.OthersKept.refl _ _ _⟩
  case round =>
    obtain ⟨k, hk, rfl, hB, hbw, hot⟩ := hrel
    have hsz := hbw.size
    have HB := Lib.hid hB; clear hB
    by_cases hlt : k < ds.length
    · obtain ⟨lb, off, cs, rfl, hlb, hrange, hcs, hrec⟩ := HC.out k hlt
      have HR := Lib.hid (rangeAt_below hbw hlb hrange); clear hrange
      have HREC := Lib.hid (hrec.below hbw)
      have hone := hrec.1
      clear hrec
      have hszc : (Tryz.prog.info? 34).map (·.size) = some cs.size := by rw [hcs]; exact size_rec
      go_wp2_with (first | (refine wpList_load_arr rfl 34 _ rfl _ _ rfl cs _ ?h2 Tryz.underlying34 rfl hszc ?_; (case h2 => first | exact HR.out | exact hN.all)) | (refine wpList_store_mid rfl 34 _ _ rfl _ _ cs rfl rfl ?h1 hszc hone ?_; (case h1 => exact (Blk.new _ _ _).there 0 _ (by rw [hcs]; exact Nat.le_refl _)); generalize hw1 : World.setCells _ _ _ _ = w1; obtain ⟨hN, hs1, hbel, hoth⟩ := stored_new hw1 (by rw [hcs]; rfl); clear hw1))
      have hb1 := hbel _ _ (Below.refl wr.heap.size wr) (Nat.le_refl _)
      refine (text_receipt B b _ _ cs ds[k] (IsBuilder_below HB.out hb1) hcs (HREC.out.below (hb1.mono (Nat.le_trans hBw hsz))) (by omega) (by
        rw [List.append_assoc, recsS, ← flatMap_take_succ recS ds k hlt]
        have := flatMap_take_le recS ds (k + 1)
        simp only [recsS, List.length_append] at hlen ⊢; omega)).mono ?_
      rintro e w2 ⟨rfl, h2, b2, k2⟩
      rw [List.append_assoc, recsS, ← flatMap_take_succ recS ds k hlt] at h2
      have H2 := Lib.hid h2; clear h2
      go_wp2_with fail
      go_roundw
      case rel => exact ⟨k + 1, hlt, by go_num, H2.out, (hbw.trans (hb1.mono (Nat.le_trans hBw hsz))).trans b2, (hot.trans (OthersKept_below hb1)).trans k2⟩
      case measure => simp [intOf] <;> omega
    · obtain rfl : k = ds.length := by omega
      rw [List.take_length] at HB
      go_wp2_with fail
      go_end0
      exact ⟨rfl, HB.out, hbw, hot⟩
end Go.Proofs.YtlcokkiohilmlaaGreatDoor
