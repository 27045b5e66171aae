import Derived.Test.YtlcokkiohilmlaaGreatDoorRl
import Derived.Test.YtlcokkiohilmlaaGreatDoorRs
namespace Go.Proofs.YtlcokkiohilmlaaGreatDoor
open Go.RowKit
theorem quant_len (n : Nat) : (quant n).length ≤ 66 := by
  unfold quant quantD
  have h := (List.dropWhile_suffix (fun x : UInt8 => x == 48) (l := hexes (shortB n))).length_le
  rw [hexes_length] at h
  have := shortB_len n
  split <;> simp only [List.length_cons, List.length_nil] <;> omega
set_option maxRecDepth 100000 in
set_option maxHeartbeats 1600000 in
theorem ref_Receipts (B : Nat) (w : World) (v : Value) (ds : List RecD) (hv : RdS B w 261 (RecC B w) v ds) (hBw : B ≤ w.heap.size) (hlen : (recsS ds).length ≤ 2 ^ 40) :
    Calls Tryz.prog 18 #[v] w fun e w' => e = .returned (.string ⟨(recsS ds).toArray⟩) ∧ Below w.heap.size w w' := by
  obtain ⟨a, cap, rfl, hc⟩ := hv
  have hds : ds.length ≤ 2 ^ 40 := by
    have := flatMap_ge recS (fun d => by have := lineS_pos (recP d); simp only [recS, List.length_append]; omega) ds
    simp only [recsS] at hlen
    omega
  have HC := Lib.hid hc; clear hc
  go_enter Tryz.func18, Tryz.ntmps18
  go_wp2_with fail
  go_loopw [3, 4] (fun s i wr => ∃ k : Nat, k ≤ ds.length ∧ i = .int .i64 k ∧ s = .string ⟨(recsS (ds.take k)).toArray⟩ ∧ Below w.heap.size w wr) (fun _ i _ => ds.length - (intOf i).toNat)
  case atStart => exact ⟨0, Nat.zero_le _, rfl, rfl, Below.refl _ _⟩
  case round =>
    obtain ⟨k, hk, rfl, rfl, hbw⟩ := hrel
    have hsz := hbw.size
    by_cases hlt : k < ds.length
    · obtain ⟨lb, off, cs, rfl, hlb, hrange, hcs, hrec⟩ := HC.out k hlt
      have hbB : Below B w wr := hbw.mono hBw
      have HR := Lib.hid (rangeAt_below hbB hlb hrange); clear hrange
      obtain ⟨hone, ⟨rv, h1, hroot⟩, h2, h3, hg, lv, h4, hlogs⟩ := hrec
      have HRU := Lib.hid (fun w' (hb : Below B w w') => hroot.below hb)
      obtain ⟨ra, rcap, rfl, hrc⟩ := hroot
      clear hrc
      have hf1 := flatMap_take_succ recS ds k hlt
      have hf2 := flatMap_take_le recS ds (k + 1)
      rw [hf1] at hf2
      have hL3 : (recsS (ds.take k)).length + (recS ds[k]).length ≤ 1099511627776 := by simp only [recsS, List.length_append] at hlen hf2 ⊢; omega
      have hA : (recsS (ds.take k)).length ≤ 1099511627776 := by omega
      have hll : (logsS ds[k].logs).length ≤ 2 ^ 40 := by simp only [recS, List.length_append] at hL3; omega
      have hq := quant_len (ds[k]).gas
      have hrt : (recP ds[k]).length = 3 := by simp [recP]
      have hszc : (Tryz.prog.info? 34).map (·.size) = some cs.size := by rw [hcs]; exact size_rec
      have HLG := Lib.hid (fun w' (hb : Below B w w') => (hlogs.below hb (fun _ _ h => h.below hb) : RdS B w' 22 (LogC B w') lv ds[k].logs))
      have HL2 := Lib.hid hf1; have HL3 := Lib.hid hL3
      clear hf1 hf2 hL3 hlogs
      go_wp2_with (first | (refine wpList_load_arr rfl 34 _ rfl _ _ rfl cs _ ?h2 Tryz.underlying34 rfl hszc ?_; (case h2 => first | exact HR.out | exact hN.all)) | (refine wpList_store_mid rfl 34 _ _ rfl _ _ cs rfl rfl ?h1 hszc hone ?_; (case h1 => exact (Blk.new _ _ _).there 0 _ (by rw [hcs]; exact Nat.le_refl _)); generalize hw1 : World.setCells _ _ _ _ = w1; obtain ⟨hN, hs1, hbel, hoth⟩ := stored_new hw1 (by rw [hcs]; rfl); clear hw1; have C3 := (hN.cell 3).trans h3))
      refine (ref_num _ hg _).mono ?_
      rintro e w2 ⟨rfl, b2⟩
      have hb1 := hbel _ _ (Below.refl wr.heap.size wr) (Nat.le_refl _)
      have hN2 := hN.below b2 (by omega)
      have b12 : Below wr.heap.size wr w2 := hb1.trans (b2.mono (by omega))
      have bw2 : Below B w w2 := hbB.trans (b12.mono (Nat.le_trans hBw hsz))
      have HBW := Lib.hid (hbw.trans (b12.mono hsz))
      have hs2 := HBW.out.size
      have hBw2 : B ≤ w2.heap.size := Nat.le_trans hBw hs2
      have e1 := (hN2.cell 1).trans h1
      have e2 := (hN2.cell 2).trans h2
      have HSw2 := Lib.hid (fun w' (hb : Below w2.heap.size w2 w') => (⟨((hN2.below hb hN2.lt).cell 260).trans h4, hb⟩ : w'.cell? ⟨wr.heap.size, 260, none⟩ = some lv ∧ Below w2.heap.size w2 w'))
      have HN2 := Lib.hid hN2
      clear hN C3 b2 hbel hoth hb1 hN2 b12 h1 h2 h3 h4
      by_cases hr : (ds[k]).root.length = 0
      · have hr0 : (ds[k]).root = [] := List.eq_nil_of_length_eq_zero hr
        cases hok : (ds[k]).ok with
        | true =>
          rw [hok] at e2
          have HP := Lib.hid (show recP ds[k] = [[114, 101, 99, 101, 105, 112, 116], quant ds[k].gas, [111, 107]] by simp [recP, hr0, hok])
          have HR0 := Lib.hid hr; clear hr hr0 hok
          have hrl : (ds[k]).root.length ≤ 0 := by rw [HR0.out]; exact Nat.le_refl _
          go_wp2_with fail
          have q4 : ¬ 9223372036854775807 < (recsS (List.take k ds)).length + 8 + (quant ds[k].gas).length + 1 + 2 + 1 := by omega
          have q5 : ¬ 9223372036854775807 < (recsS (List.take k ds)).length + 8 + (quant ds[k].gas).length + 1 + 2 + 1 + (logsS ds[k].logs).length := by omega
          go_region_held3 (fun w' => w'.cell? ⟨wr.heap.size, 260, none⟩ = some lv ∧ Below w2.heap.size w2 w')
            (first
              | exact HSw2.out _ (Below.drew (Below.refl _ w2))
              | exact HSw2.out _ c4
              | exact HSw2.out _ c3)
            (first
              | (go_at_call 15; refine (ref_end _).mono ?_; rintro e w3 ⟨rfl, b3⟩; have c3 : Below w2.heap.size w2 w3 := (Below.drew (Below.refl _ w2)).trans b3; clear b3)
              | (go_at_call 29; refine (ref_Logs B _ _ _ (HLG.out _ (bw2.trans ((Below.drew (Below.refl _ w2)).mono hBw2))) (Nat.le_trans hBw2 (Nat.le_refl _)) hll).mono ?_; rintro e w3 ⟨rfl, b3⟩; have c3 : Below w2.heap.size w2 w3 := (Below.drew (Below.refl _ w2)).trans b3; clear b3)
              | (go_at_call 15; refine (ref_end _).mono ?_; rintro e w4 ⟨rfl, b4⟩; have c4 : Below w2.heap.size w2 w4 := c3.trans (b4.mono c3.size); clear b4)
              | (go_at_call 29; refine (ref_Logs B _ _ _ (HLG.out _ (bw2.trans (c3.mono hBw2))) (Nat.le_trans hBw2 c3.size) hll).mono ?_; rintro e w4 ⟨rfl, b4⟩; have c4 : Below w2.heap.size w2 w4 := c3.trans (b4.mono c3.size); clear b4))
          go_wp2_with fail
          go_roundw
          case rel => exact ⟨k + 1, hlt, by go_num, by rw [show recsS (ds.take (k + 1)) = _ from HL2.out, recS, HP.out]; simp only [ba_app, lineS, joinS, List.append_assoc, List.flatMap_cons, List.flatMap_nil, List.append_nil, List.cons_append, List.nil_append]; rfl, HBW.out.trans (c4.mono hs2)⟩
          case measure => simp [intOf] <;> omega
        | false =>
          rw [hok] at e2
          have HP := Lib.hid (show recP ds[k] = [[114, 101, 99, 101, 105, 112, 116], quant ds[k].gas, [102, 97, 105, 108, 101, 100]] by simp [recP, hr0, hok])
          have HR0 := Lib.hid hr; clear hr hr0 hok
          have hrl : (ds[k]).root.length ≤ 0 := by rw [HR0.out]; exact Nat.le_refl _
          go_wp2_with fail
          have q4 : ¬ 9223372036854775807 < (recsS (List.take k ds)).length + 8 + (quant ds[k].gas).length + 1 + 6 + 1 := by omega
          have q5 : ¬ 9223372036854775807 < (recsS (List.take k ds)).length + 8 + (quant ds[k].gas).length + 1 + 6 + 1 + (logsS ds[k].logs).length := by omega
          go_region_held3 (fun w' => w'.cell? ⟨wr.heap.size, 260, none⟩ = some lv ∧ Below w2.heap.size w2 w')
            (first
              | exact HSw2.out _ (Below.drew (Below.refl _ w2))
              | exact HSw2.out _ c4
              | exact HSw2.out _ c3)
            (first
              | (go_at_call 15; refine (ref_end _).mono ?_; rintro e w3 ⟨rfl, b3⟩; have c3 : Below w2.heap.size w2 w3 := (Below.drew (Below.refl _ w2)).trans b3; clear b3)
              | (go_at_call 29; refine (ref_Logs B _ _ _ (HLG.out _ (bw2.trans ((Below.drew (Below.refl _ w2)).mono hBw2))) (Nat.le_trans hBw2 (Nat.le_refl _)) hll).mono ?_; rintro e w3 ⟨rfl, b3⟩; have c3 : Below w2.heap.size w2 w3 := (Below.drew (Below.refl _ w2)).trans b3; clear b3)
              | (go_at_call 15; refine (ref_end _).mono ?_; rintro e w4 ⟨rfl, b4⟩; have c4 : Below w2.heap.size w2 w4 := c3.trans (b4.mono c3.size); clear b4)
              | (go_at_call 29; refine (ref_Logs B _ _ _ (HLG.out _ (bw2.trans (c3.mono hBw2))) (Nat.le_trans hBw2 c3.size) hll).mono ?_; rintro e w4 ⟨rfl, b4⟩; have c4 : Below w2.heap.size w2 w4 := c3.trans (b4.mono c3.size); clear b4))
          go_wp2_with fail
          go_roundw
          case rel => exact ⟨k + 1, hlt, by go_num, by rw [show recsS (ds.take (k + 1)) = _ from HL2.out, recS, HP.out]; simp only [ba_app, lineS, joinS, List.append_assoc, List.flatMap_cons, List.flatMap_nil, List.append_nil, List.cons_append, List.nil_append]; rfl, HBW.out.trans (c4.mono hs2)⟩
          case measure => simp [intOf] <;> omega
      · have hrp : 0 < (ds[k]).root.length := by omega
        have HP := Lib.hid (show recP ds[k] = [[114, 101, 99, 101, 105, 112, 116], quant ds[k].gas, text ds[k].root] by
          have : ds[k].root ≠ [] := fun e => hr (by rw [e]; rfl)
          simp [recP, this])
        have hrl : (ds[k]).root.length ≤ 2 ^ 40 := by
          have h := HL3.out
          simp only [recS, HP.out, lineS, joinS, List.length_append, List.flatMap_cons, List.length_cons, text, hexes_length] at h
          omega
        have htx : (text (ds[k]).root).length ≤ 4398046511104 := by simp only [text, hexes_length, List.length_cons]; omega
        have HRT := Lib.hid (show RdB w2 (.slice ra ds[k].root.length rcap) ds[k].root from (HRU.out w2 bw2).rd)
        clear hr
        go_wp2_with fail
        refine (ref_Text _ _ _ HRT.out hrl).mono ?_
        rintro e w5 ⟨rfl, b5⟩
        have bw5 : Below B w w5 := bw2.trans (b5.mono hBw2)
        have hBw5 : B ≤ w5.heap.size := Nat.le_trans hBw2 b5.size
        have HSw5 := Lib.hid (fun w' (hb : Below w5.heap.size w5 w') => (⟨(HSw2.out w' (b5.trans (hb.mono b5.size))).1, hb⟩ : w'.cell? ⟨wr.heap.size, 260, none⟩ = some lv ∧ Below w5.heap.size w5 w'))
        have HBW := Lib.hid (HBW.out.trans (b5.mono hs2))
        have hs5 := HBW.out.size
        clear b5
        go_wp2_with fail
        have q4 : ¬ 9223372036854775807 < (recsS (List.take k ds)).length + 8 + (quant ds[k].gas).length + 1 + (text ds[k].root).length + 1 := by omega
        have q5 : ¬ 9223372036854775807 < (recsS (List.take k ds)).length + 8 + (quant ds[k].gas).length + 1 + (text ds[k].root).length + 1 + (logsS ds[k].logs).length := by omega
        go_region_held3 (fun w' => w'.cell? ⟨wr.heap.size, 260, none⟩ = some lv ∧ Below w5.heap.size w5 w')
          (first
            | exact HSw5.out _ (Below.drew (Below.refl _ w5))
            | exact HSw5.out _ c4
            | exact HSw5.out _ c3)
          (first
            | (go_at_call 15; refine (ref_end _).mono ?_; rintro e w3 ⟨rfl, b3⟩; have c3 : Below w5.heap.size w5 w3 := (Below.drew (Below.refl _ w5)).trans b3; clear b3)
            | (go_at_call 29; refine (ref_Logs B _ _ _ (HLG.out _ (bw5.trans ((Below.drew (Below.refl _ w5)).mono hBw5))) (Nat.le_trans hBw5 (Nat.le_refl _)) hll).mono ?_; rintro e w3 ⟨rfl, b3⟩; have c3 : Below w5.heap.size w5 w3 := (Below.drew (Below.refl _ w5)).trans b3; clear b3)
            | (go_at_call 15; refine (ref_end _).mono ?_; rintro e w4 ⟨rfl, b4⟩; have c4 : Below w5.heap.size w5 w4 := c3.trans (b4.mono c3.size); clear b4)
            | (go_at_call 29; refine (ref_Logs B _ _ _ (HLG.out _ (bw5.trans (c3.mono hBw5))) (Nat.le_trans hBw5 c3.size) hll).mono ?_; rintro e w4 ⟨rfl, b4⟩; have c4 : Below w5.heap.size w5 w4 := c3.trans (b4.mono c3.size); clear b4))
        go_wp2_with fail
        go_roundw
        case rel => exact ⟨k + 1, hlt, by go_num, by rw [show recsS (ds.take (k + 1)) = _ from HL2.out, recS, HP.out]; simp only [ba_app, lineS, joinS, List.append_assoc, List.flatMap_cons, List.flatMap_nil, List.append_nil, List.cons_append, List.nil_append]; rfl, HBW.out.trans (c4.mono hs5)⟩
        case measure => simp [intOf] <;> omega
    · obtain rfl : k = ds.length := by omega
      rw [List.take_length]
      go_wp2_with fail
      go_ret
      exact ⟨rfl, hbw⟩
end Go.Proofs.YtlcokkiohilmlaaGreatDoor
