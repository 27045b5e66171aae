import Derived.Test.YtlcokkiohilmlaaGreatDoorRr
import Derived.Test.YtlcokkiohilmlaaGreatDoorAc
namespace Go.Proofs.YtlcokkiohilmlaaGreatDoor
open Go.RowKit
/-- an account's line and so many of its slots -/
def accR (d : AccD) (j : Nat) : List UInt8 := lineS (accP d) ++ (d.store.take j).flatMap fun s => lineS (slotP s)
theorem accR_succ (d : AccD) (j : Nat) (h : j < d.store.length) : accR d (j + 1) = accR d j ++ lineS (slotP d.store[j]) := by
  unfold accR; rw [flatMap_take_succ _ _ _ h, List.append_assoc]
theorem accR_all (d : AccD) : accR d d.store.length = accS d := by
  unfold accR accS; rw [List.take_length]
theorem accR_le (d : AccD) (j : Nat) : (accR d j).length ≤ (accS d).length := by
  unfold accR accS
  have := flatMap_take_le (fun s => lineS (slotP s)) d.store j
  simp only [List.length_append]; omega
attribute [local irreducible] limb
set_option maxRecDepth 100000 in
set_option maxHeartbeats 3200000 in
theorem ref_Accounts (B : Nat) (w : World) (v : Value) (ds : List AccD) (hv : RdS B w 27 (AccC B w) v ds) (hBw : B ≤ w.heap.size) (hlen : (accsS ds).length ≤ 2 ^ 40) :
    Calls Tryz.prog 19 #[v] w fun e w' => e = .returned (.string ⟨(accsS ds).toArray⟩) ∧ Below w.heap.size w w' := by
  obtain ⟨a, cap, rfl, hc⟩ := hv
  have hds : ds.length ≤ 2 ^ 40 := by
    have := flatMap_ge accS (fun d => by have := lineS_pos (accP d); simp only [accS, List.length_append]; omega) ds
    simp only [accsS] at hlen
    omega
  have HC := Lib.hid hc; clear hc
  go_enter Tryz.func19, Tryz.ntmps19
  go_wp2_with fail
  go_loopw [3, 4] (fun s i wr => ∃ k : Nat, k ≤ ds.length ∧ i = .int .i64 k ∧ s = .string ⟨(accsS (ds.take k)).toArray⟩ ∧ Below w.heap.size w wr) (fun _ i _ => ds.length - (intOf i).toNat)
  case atStart => exact ⟨0, Nat.zero_le _, rfl, rfl, Below.refl _ _⟩
  case round =>
    obtain ⟨k, hk, rfl, rfl, hbw⟩ := hrel
    obtain ⟨wo, rfl⟩ : ∃ wo : World, wo = wr := ⟨_, rfl⟩
    have hsz := hbw.size
    by_cases hlt : k < ds.length
    · obtain ⟨lb, off, cs, rfl, hlb, hrange, hcs, hone, ha20, haddr, h20, hnon, hbal, hbl, ⟨cv, h25, hcode⟩, sv, h26, hst⟩ := HC.out k hlt
      have hbB : Below B w wo := hbw.mono hBw
      have hf1 := flatMap_take_succ accS ds k hlt
      have hf2 := flatMap_take_le accS ds (k + 1)
      rw [hf1] at hf2
      have hL3 : (accsS (ds.take k)).length + (accS ds[k]).length ≤ 1099511627776 := by simp only [accsS, List.length_append] at hlen hf2 ⊢; omega
      have hA : (accsS (ds.take k)).length ≤ 1099511627776 := by omega
      obtain ⟨sa, scap, rfl, hsc⟩ := hst
      have hstl : (ds[k]).store.length ≤ 2 ^ 40 := by
        have := flatMap_ge (fun s => lineS (slotP s)) (fun d => lineS_pos _) (ds[k]).store
        simp only [accS, List.length_append] at hL3
        omega
      have hcl : (ds[k]).code.length ≤ 2 ^ 40 := by
        simp only [accS, accP, lineS, joinS, List.length_append, List.flatMap_cons, List.length_cons, text, hexes_length] at hL3
        omega
      have hq1 := quant_len (ds[k]).nonce
      have hq2 := quant_len (ds[k]).bal
      have hta : (text (ds[k]).addr).length ≤ 42 := by simp [text, hexes_length, ha20]
      have htd : (text (ds[k]).code).length ≤ 4398046511104 := by simp only [text, hexes_length, List.length_cons]; omega
      have hla : (ds[k]).addr.length ≤ 2 ^ 40 := by rw [ha20]; decide
      have HSC := Lib.hid hsc; clear hsc
      have HR := Lib.hid (rangeAt_below hbB hlb hrange); clear hrange
      have HL2 := Lib.hid hf1; have HL3 := Lib.hid hL3; clear hf1 hf2 hL3
      have hszc : (Tryz.prog.info? 46).map (·.size) = some cs.size := by rw [hcs]; exact size_acc
      go_wp2_with (first | (refine wpList_load_arr rfl 46 _ rfl _ _ rfl cs _ HR.out Tryz.underlying46 rfl hszc ?_) | (refine wpList_store_mid rfl 46 _ _ rfl _ _ cs rfl rfl ?h1 hszc hone ?_; (case h1 => exact (Blk.new _ _ _).there 0 _ (by rw [hcs]; exact Nat.le_refl _)); generalize hw1 : World.setCells _ _ _ _ = w1; obtain ⟨hN, hs1, hbel, hoth⟩ := stored_new hw1 (by rw [hcs]; rfl); clear hw1))
      have hb1 := hbel _ _ (Below.refl wo.heap.size wo) (Nat.le_refl _)
      have bw1 : Below B w w1 := hbB.trans (hb1.mono (Nat.le_trans hBw hsz))
      have hBw1 : B ≤ w1.heap.size := Nat.le_trans hBw (Nat.le_trans hsz hb1.size)
      have hbc : ∀ i, i < 4 → cs[21 + i]? = some (.int .u64 (limb (ds[k]).bal i)) := by
        intro i hi
        have := wcells_get (ds[k]).bal i hi
        rw [← hbal, Array.getElem?_extract] at this
        split at this
        · exact this
        · simp at this
      have HSS := Lib.hid (fun w' (hb : Below w1.heap.size w1 w') => (⟨((hN.below hb hN.lt).cell 20).trans h20, ((hN.below hb hN.lt).cell 25).trans h25, ((hN.below hb hN.lt).cell (21 + 0)).trans (hbc 0 (by omega)), ((hN.below hb hN.lt).cell (21 + 1)).trans (hbc 1 (by omega)), ((hN.below hb hN.lt).cell (21 + 2)).trans (hbc 2 (by omega)), ((hN.below hb hN.lt).cell (21 + 3)).trans (hbc 3 (by omega)), hb⟩ :
        w'.cell? ⟨wo.heap.size, 20, none⟩ = some (.int .u64 (ds[k]).nonce) ∧ w'.cell? ⟨wo.heap.size, 25, none⟩ = some cv ∧ w'.cell? ⟨wo.heap.size, 21, none⟩ = some (.int .u64 (limb (ds[k]).bal 0)) ∧ w'.cell? ⟨wo.heap.size, 22, none⟩ = some (.int .u64 (limb (ds[k]).bal 1)) ∧ w'.cell? ⟨wo.heap.size, 23, none⟩ = some (.int .u64 (limb (ds[k]).bal 2)) ∧ w'.cell? ⟨wo.heap.size, 24, none⟩ = some (.int .u64 (limb (ds[k]).bal 3)) ∧ Below w1.heap.size w1 w'))
      have HRA := Lib.hid (fun w' (hb : Below w1.heap.size w1 w') => RdB_range (hN.below hb hN.lt).all haddr ha20 20)
      have HRC := Lib.hid (fun w' (hb : Below w1.heap.size w1 w') => (hcode.below (bw1.trans (hb.mono hBw1))).rd)
      have q1 : ¬ 9223372036854775807 < (accsS (List.take k ds)).length + 8 := by omega
      have q2 : ¬ 9223372036854775807 < (accsS (List.take k ds)).length + 8 + (text ds[k].addr).length := by omega
      have q3 : ¬ 9223372036854775807 < (accsS (List.take k ds)).length + 8 + (text ds[k].addr).length + 1 := by omega
      have q4 : ¬ 9223372036854775807 < (accsS (List.take k ds)).length + 8 + (text ds[k].addr).length + 1 + (quant ds[k].nonce).length := by omega
      have q5 : ¬ 9223372036854775807 < (accsS (List.take k ds)).length + 8 + (text ds[k].addr).length + 1 + (quant ds[k].nonce).length + 1 := by omega
      have q6 : ¬ 9223372036854775807 < (accsS (List.take k ds)).length + 8 + (text ds[k].addr).length + 1 + (quant ds[k].nonce).length + 1 + (quant ds[k].bal).length := by omega
      have q7 : ¬ 9223372036854775807 < (accsS (List.take k ds)).length + 8 + (text ds[k].addr).length + 1 + (quant ds[k].nonce).length + 1 + (quant ds[k].bal).length + 1 := by omega
      have q8 : ¬ 9223372036854775807 < (accsS (List.take k ds)).length + 8 + (text ds[k].addr).length + 1 + (quant ds[k].nonce).length + 1 + (quant ds[k].bal).length + 1 + (text ds[k].code).length := by omega
      have q9 : ¬ 9223372036854775807 < (accsS (List.take k ds)).length + 8 + (text ds[k].addr).length + 1 + (quant ds[k].nonce).length + 1 + (quant ds[k].bal).length + 1 + (text ds[k].code).length + 1 := by omega
      have HB1 := Lib.hid (hbw.trans (hb1.mono hsz))
      have HN := Lib.hid (fun w' (hb : Below w1.heap.size w1 w') => ((hN.below hb hN.lt).cell 26).trans h26)
      clear hbc hN hoth hbel hb1 h20 h25 h26 hcode haddr hbal
      go_region_held3 (fun w' => w'.cell? ⟨wo.heap.size, 20, none⟩ = some (.int .u64 (ds[k]).nonce) ∧ w'.cell? ⟨wo.heap.size, 25, none⟩ = some cv ∧ w'.cell? ⟨wo.heap.size, 21, none⟩ = some (.int .u64 (limb (ds[k]).bal 0)) ∧ w'.cell? ⟨wo.heap.size, 22, none⟩ = some (.int .u64 (limb (ds[k]).bal 1)) ∧ w'.cell? ⟨wo.heap.size, 23, none⟩ = some (.int .u64 (limb (ds[k]).bal 2)) ∧ w'.cell? ⟨wo.heap.size, 24, none⟩ = some (.int .u64 (limb (ds[k]).bal 3)) ∧ Below w1.heap.size w1 w')
        (first
          | exact HSS.out _ (Below.drew (Below.refl _ w1))
          | exact HSS.out _ c5
          | exact HSS.out _ c4
          | exact HSS.out _ c3
          | exact HSS.out _ c2
          | exact HSS.out _ c1)
        (first
          | (go_at_call 17; refine (ref_Text _ _ _ (HRA.out _ (Below.drew (Below.refl _ w1))) hla).mono ?_; rintro e x1 ⟨rfl, b1⟩; have c1 : Below w1.heap.size w1 x1 := (Below.drew (Below.refl _ w1)).trans b1; clear b1)
          | (go_at_call 16; refine (ref_num _ hnon x1).mono ?_; rintro e x2 ⟨rfl, b2⟩; have c2 : Below w1.heap.size w1 x2 := c1.trans (b2.mono c1.size); clear b2)
          | (go_at_call 26; refine (ref_Quantity (ds[k]).bal x2 hbl).mono ?_; rintro e x3 ⟨rfl, b3⟩; have c3 : Below w1.heap.size w1 x3 := c2.trans (b3.mono c2.size); clear b3)
          | (go_at_call 17; refine (ref_Text _ _ _ (HRC.out _ c3) hcl).mono ?_; rintro e x4 ⟨rfl, b4⟩; have c4 : Below w1.heap.size w1 x4 := c3.trans (b4.mono c3.size); clear b4)
          | (go_at_call 15; refine (ref_end x4).mono ?_; rintro e x5 ⟨rfl, b5⟩; have c5 : Below w1.heap.size w1 x5 := c4.trans (b5.mono c4.size); clear b5))
      go_wp2_with fail
      clear q1 q2 q3 q4 q5 q6 q7 q8 q9 c1 c2 c3 c4
      go_loopw [3, 6] (fun s i wi => ∃ j : Nat, j ≤ (ds[k]).store.length ∧ i = .int .i64 j ∧ s = .string ⟨(accsS (ds.take k) ++ accR ds[k] j).toArray⟩ ∧ Below w1.heap.size w1 wi) (fun _ i _ => (ds[k]).store.length - (intOf i).toNat)
      case atStart =>
        refine ⟨0, Nat.zero_le _, rfl, ?_, c5⟩
        simp only [ba_app, accR, accP, lineS, joinS, List.append_assoc, List.take_zero, List.flatMap_nil, List.append_nil, List.flatMap_cons, List.cons_append, List.nil_append]
      case round =>
        obtain ⟨j, hj, rfl, rfl, hbi⟩ := hrel
        obtain ⟨wp, rfl⟩ : ∃ wp : World, wp = wr := ⟨_, rfl⟩
        have hsi := hbi.size
        have hbBi : Below B w wp := bw1.trans (hbi.mono hBw1)
        have hcS := HN.out wp hbi
        by_cases hlj : j < (ds[k]).store.length
        · obtain ⟨tb, toff, tcs, rfl, htb, htr, hts, htk, hk1, hk2⟩ := HSC.out j hlj
          subst htk
          have hRj : (accsS (List.take k ds)).length + (accR ds[k] j).length ≤ 1099511627776 := by
            have h1 := HL3.out
            have h2 := accR_le ds[k] j
            omega
          have hx1 := quant_len (ds[k]).store[j].1
          have hx2 := quant_len (ds[k]).store[j].2
          have htc : ∀ w', Below wp.heap.size wp w' → ∀ i v, (wcells (ds[k]).store[j].1 ++ wcells (ds[k]).store[j].2)[i]? = some v → w'.cell? ⟨tb, toff + j * 8 + i, none⟩ = some v := by
            intro w' hb i v hi
            exact rangeAt_below (hbBi.trans (hb.mono (Nat.le_trans hBw1 hsi))) htb htr i v (by rw [Array.getElem?_toList]; exact hi)
          have HSS := Lib.hid (fun w' (hb : Below wp.heap.size wp w') => (⟨HN.out w' (hbi.trans (hb.mono hsi)), htc w' hb 0 _ rfl, htc w' hb 1 _ rfl, htc w' hb 2 _ rfl, htc w' hb 3 _ rfl, htc w' hb 4 _ rfl, htc w' hb 5 _ rfl, htc w' hb 6 _ rfl, htc w' hb 7 _ rfl, hb⟩ :
            w'.cell? ⟨wo.heap.size, 26, none⟩ = some (.slice (some ⟨tb, toff, none⟩) (ds[k]).store.length scap) ∧
            w'.cell? ⟨tb, toff + j * 8, none⟩ = some (.int .u64 (limb (ds[k]).store[j].1 0)) ∧ w'.cell? ⟨tb, toff + j * 8 + 1, none⟩ = some (.int .u64 (limb (ds[k]).store[j].1 1)) ∧ w'.cell? ⟨tb, toff + j * 8 + 2, none⟩ = some (.int .u64 (limb (ds[k]).store[j].1 2)) ∧ w'.cell? ⟨tb, toff + j * 8 + 3, none⟩ = some (.int .u64 (limb (ds[k]).store[j].1 3)) ∧
            w'.cell? ⟨tb, toff + j * 8 + 4, none⟩ = some (.int .u64 (limb (ds[k]).store[j].2 0)) ∧ w'.cell? ⟨tb, toff + j * 8 + 5, none⟩ = some (.int .u64 (limb (ds[k]).store[j].2 1)) ∧ w'.cell? ⟨tb, toff + j * 8 + 6, none⟩ = some (.int .u64 (limb (ds[k]).store[j].2 2)) ∧ w'.cell? ⟨tb, toff + j * 8 + 7, none⟩ = some (.int .u64 (limb (ds[k]).store[j].2 3)) ∧ Below wp.heap.size wp w'))
          have HR1 := Lib.hid (accR_succ ds[k] j hlj)
          clear htc htr
          have q1 : ¬ 9223372036854775807 < (accsS (List.take k ds)).length + (accR ds[k] j).length + 5 := by omega
          have q2 : ¬ 9223372036854775807 < (accsS (List.take k ds)).length + (accR ds[k] j).length + 5 + (quant (ds[k]).store[j].1).length := by omega
          have q3 : ¬ 9223372036854775807 < (accsS (List.take k ds)).length + (accR ds[k] j).length + 5 + (quant (ds[k]).store[j].1).length + 1 := by omega
          have q4 : ¬ 9223372036854775807 < (accsS (List.take k ds)).length + (accR ds[k] j).length + 5 + (quant (ds[k]).store[j].1).length + 1 + (quant (ds[k]).store[j].2).length := by omega
          have q5 : ¬ 9223372036854775807 < (accsS (List.take k ds)).length + (accR ds[k] j).length + 5 + (quant (ds[k]).store[j].1).length + 1 + (quant (ds[k]).store[j].2).length + 1 := by omega
          go_wp2_with fail
          go_region_held3 (fun w' => w'.cell? ⟨wo.heap.size, 26, none⟩ = some (.slice (some ⟨tb, toff, none⟩) (ds[k]).store.length scap) ∧
            w'.cell? ⟨tb, toff + j * 8, none⟩ = some (.int .u64 (limb (ds[k]).store[j].1 0)) ∧ w'.cell? ⟨tb, toff + j * 8 + 1, none⟩ = some (.int .u64 (limb (ds[k]).store[j].1 1)) ∧ w'.cell? ⟨tb, toff + j * 8 + 2, none⟩ = some (.int .u64 (limb (ds[k]).store[j].1 2)) ∧ w'.cell? ⟨tb, toff + j * 8 + 3, none⟩ = some (.int .u64 (limb (ds[k]).store[j].1 3)) ∧
            w'.cell? ⟨tb, toff + j * 8 + 4, none⟩ = some (.int .u64 (limb (ds[k]).store[j].2 0)) ∧ w'.cell? ⟨tb, toff + j * 8 + 5, none⟩ = some (.int .u64 (limb (ds[k]).store[j].2 1)) ∧ w'.cell? ⟨tb, toff + j * 8 + 6, none⟩ = some (.int .u64 (limb (ds[k]).store[j].2 2)) ∧ w'.cell? ⟨tb, toff + j * 8 + 7, none⟩ = some (.int .u64 (limb (ds[k]).store[j].2 3)) ∧ Below wp.heap.size wp w')
            (first
              | exact HSS.out _ (Below.drew (Below.refl _ wp))
              | exact HSS.out _ d3
              | exact HSS.out _ d2
              | exact HSS.out _ d1)
            (first
              | (go_at_call 26; refine (ref_Quantity (ds[k]).store[j].2 y1 hk2).mono ?_; rintro e y2 ⟨rfl, b2⟩; have d2 : Below wp.heap.size wp y2 := d1.trans (b2.mono d1.size); clear b2)
              | (go_at_call 26; refine (ref_Quantity (ds[k]).store[j].1 _ hk1).mono ?_; rintro e y1 ⟨rfl, b1⟩; have d1 : Below wp.heap.size wp y1 := (Below.drew (Below.refl _ wp)).trans b1; clear b1)
              | (go_at_call 15; refine (ref_end y2).mono ?_; rintro e y3 ⟨rfl, b3⟩; have d3 : Below wp.heap.size wp y3 := d2.trans (b3.mono d2.size); clear b3))
          go_wp2_with fail
          go_roundw
          case rel => exact ⟨j + 1, hlj, by go_num, by rw [HR1.out]; simp only [ba_app, slotP, lineS, joinS, List.append_assoc, List.append_nil, List.flatMap_cons, List.flatMap_nil, List.cons_append, List.nil_append], hbi.trans (d3.mono hsi)⟩
          case measure => simp [intOf] <;> omega
        · obtain rfl : j = (ds[k]).store.length := by omega
          go_wp2_with fail
          go_roundw
          case rel => exact ⟨k + 1, hlt, by go_num, by rw [show accsS (ds.take (k + 1)) = _ from HL2.out, accR_all]; rfl, HB1.out.trans (hbi.mono HB1.out.size)⟩
          case measure => simp [intOf] <;> omega
    · obtain rfl : k = ds.length := by omega
      rw [List.take_length]
      go_wp2_with fail
      go_ret
      exact ⟨rfl, hbw⟩
end Go.Proofs.YtlcokkiohilmlaaGreatDoor
