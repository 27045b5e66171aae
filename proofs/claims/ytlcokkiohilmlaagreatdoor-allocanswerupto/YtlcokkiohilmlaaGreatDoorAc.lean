import Derived.Test.YtlcokkiohilmlaaGreatDoorRs
namespace Go.Proofs.YtlcokkiohilmlaaGreatDoor
open Go.RowKit
theorem size_acc : (Tryz.prog.info? 46).map (·.size) = some 27 := by kernel_rfl
theorem size_slot : (Tryz.prog.info? 77).map (·.size) = some 8 := by kernel_rfl
theorem wcells_one (n : Nat) : (wcells n).all (·.oneCell') = true := by simp [wcells, Value.oneCell']
theorem slot_one (d : Nat × Nat) : (wcells d.1 ++ wcells d.2).all (·.oneCell') = true := by simp [wcells, Value.oneCell']
theorem slot_size (d : Nat × Nat) : (wcells d.1 ++ wcells d.2).size = 8 := rfl
theorem slot_key (d : Nat × Nat) : (wcells d.1 ++ wcells d.2).extract 0 4 = wcells d.1 := rfl
theorem slot_val (d : Nat × Nat) : (wcells d.1 ++ wcells d.2).extract 4 8 = wcells d.2 := rfl
theorem quant_pos (n : Nat) : 2 ≤ (quant n).length := by simp [quant]

set_option maxRecDepth 100000 in
set_option maxHeartbeats 3200000 in
theorem text_accounts (B b : Nat) (acc : List UInt8) (w : World) (v : Value) (ds : List AccD) (h : Lib.IsBuilder 52 5 B b (Lib.byteCells acc) w)
    (hv : RdS B w 27 (AccC B w) v ds) (hBw : B ≤ w.heap.size) (hlen : (acc ++ accsS ds).length ≤ 2 ^ 40) :
    Calls Tryz.prog 13 #[.pointer (some ⟨b, 0, none⟩), v] w fun e w' => e = .returned (.tuple #[]) ∧
      Lib.IsBuilder 52 5 B b (Lib.byteCells (acc ++ accsS ds)) w' ∧ Below B w w' ∧ Lib.OthersKept 5 (some b) w w' := by
  obtain ⟨a, cap, rfl, hc⟩ := hv
  have hds : ds.length ≤ 2 ^ 40 := by
    have := flatMap_ge accS (fun d => by have := lineS_pos (accP d); simp only [accS, List.length_append]; omega) ds
    simp only [accsS, List.length_append] at hlen
    omega
  have HC := Lib.hid hc; clear hc
  go_enter Tryz.func13, Tryz.ntmps13
  go_wp2_with fail
  go_loopw [10] (fun i wr => ∃ k : Nat, k ≤ ds.length ∧ i = .int .i64 k ∧ Lib.IsBuilder 52 5 B b (Lib.byteCells (acc ++ accsS (ds.take k))) wr ∧ Below B w wr ∧ Lib.OthersKept 5 (some b) w wr) (fun i _ => ds.length - (intOf i).toNat)
  case atStart => exact ⟨0, Nat.zero_le _, rfl, by simpa [accsS] using h, Below.refl _ _, Lib.OthersKept.refl _ _ _⟩
  case round =>
    obtain ⟨k, hk, rfl, hB, hbw, hot⟩ := hrel
    obtain ⟨wo, rfl⟩ : ∃ wo : World, wo = wr := ⟨_, rfl⟩
    have hsz := hbw.size
    have HB := Lib.hid hB; clear hB
    by_cases hlt : k < ds.length
    · obtain ⟨lb, off, cs, rfl, hlb, hrange, hcs, hone, ha20, haddr, h20, hnon, hbal, hbl, ⟨cv, h25, hcode⟩, sv, h26, hst⟩ := HC.out k hlt
      have hlen1 : (acc ++ accsS (ds.take k) ++ accS ds[k]).length ≤ 2 ^ 40 := by
        rw [List.append_assoc, accsS, ← flatMap_take_succ accS ds k hlt]
        have := flatMap_take_le accS ds (k + 1)
        simp only [accsS, List.length_append] at hlen ⊢; omega
      obtain ⟨sa, scap, rfl, hsc⟩ := hst
      have hstl : (ds[k]).store.length ≤ 2 ^ 40 := by
        have := flatMap_ge (fun s => lineS (slotP s)) (fun d => lineS_pos _) (ds[k]).store
        simp only [accS, List.length_append] at hlen1
        omega
      have hcl : (ds[k]).code.length ≤ 2 ^ 40 := by
        simp only [accS, accP, lineS, joinS, List.length_append, List.flatMap_cons, List.length_cons, text, hexes_length] at hlen1
        omega
      have HLEN := Lib.hid hlen1; clear hlen1
      have HSC := Lib.hid hsc; clear hsc
      have HR := Lib.hid (rangeAt_below hbw hlb hrange); clear hrange
      have HAD := Lib.hid haddr; clear haddr
      have HBA := Lib.hid hbal; clear hbal
      have hszc : (Tryz.prog.info? 46).map (·.size) = some cs.size := by rw [hcs]; exact size_acc
      have hsza : (Tryz.prog.info? 41).map (·.size) = some (bytesV (ds[k]).addr).size := by rw [bytesV_size, ha20]; exact size_addr
      have hszw : (Tryz.prog.info? 43).map (·.size) = some (wcells (ds[k]).bal).size := size_word
      go_wp2_with (first | (refine wpList_load_arr rfl 46 _ rfl _ _ rfl cs _ HR.out Tryz.underlying46 rfl hszc ?_) | (refine wpList_store_mid rfl 46 _ _ rfl _ _ cs rfl rfl ?h1 hszc hone ?_; (case h1 => exact (Blk.new _ _ _).there 0 _ (by rw [hcs]; exact Nat.le_refl _)); generalize hw1 : World.setCells _ _ _ _ = w1; obtain ⟨hN, hs1, hbel, hoth⟩ := stored_new hw1 (by rw [hcs]; rfl); clear hw1; have c20 := (hN.cell 20).trans h20; have c25 := (hN.cell 25).trans h25; have c26 := (hN.cell 26).trans h26) | (refine wpList_load_arr rfl 41 _ rfl _ _ rfl (bytesV (ds[k]).addr) _ ?h2 Tryz.underlying41 rfl hsza ?_; (case h2 => rw [← HAD.out]; exact hN.range 0 20)) | (refine wpList_load_arr rfl 43 _ rfl _ _ rfl (wcells (ds[k]).bal) _ ?h2 Tryz.underlying43 rfl hszw ?_; (case h2 => rw [← HBA.out]; exact hN.range 21 4)))
      have hb1 := hbel _ _ (Below.refl wo.heap.size wo) (Nat.le_refl _)
      have hbB := Lib.IsBuilder_lt HB.out
      have hcode1 : RdU B w1 cv (ds[k]).code := hcode.below (hbw.trans (hb1.mono (Nat.le_trans hBw hsz)))
      have hPs : Pcs B b (w1.alloc (.cells ([.iface 9 (.string ⟨#[97, 99, 99, 111, 117, 110, 116]⟩), .iface 41 (.agg (bytesV (ds[k]).addr)), .iface 22 (.int .u64 (ds[k]).nonce), .iface 43 (.agg (wcells (ds[k]).bal)), .iface 31 cv] : List Value).toArray 20)) (.slice (some ⟨wo.heap.size + 1, 0, none⟩) 5 5) (accP ds[k]) :=
        Pcs_new _ [.iface 9 (.string ⟨#[97, 99, 99, 111, 117, 110, 116]⟩), .iface 41 (.agg (bytesV (ds[k]).addr)), .iface 22 (.int .u64 (ds[k]).nonce), .iface 43 (.agg (wcells (ds[k]).bal)), .iface 31 cv] (accP ds[k]) rfl hs1.symm (by omega) (by omega) ⟨rfl, fun i h1 h2 => match i, h1, h2 with | 0, _, _ => .str [97, 99, 99, 111, 117, 110, 116] | 1, _, _ => .addr _ ha20 | 2, _, _ => .num _ hnon | 3, _, _ => .word _ hbl | 4, _, _ => .bytes _ _ hcode1 hcl⟩
      refine (text_line B b _ _ _ _ (IsBuilder_below HB.out (hb1.alloc (by omega) _)) hPs (by simp; omega) (by have := HLEN.out; simp only [accS, List.length_append] at this ⊢; omega)).mono ?_
      rintro e w2 ⟨rfl, h2, b2, k2⟩
      have c26' : w2.cell? ⟨wo.heap.size, 26, none⟩ = some (.slice sa (ds[k]).store.length scap) := (((hN.alloc _).others k2 (by omega) (by decide)).cell 26).trans h26
      have H2 := Lib.hid h2; clear h2 hPs c20 c25 c26 hoth
      have hbw2 : Below B w w2 := (hbw.trans ((hb1.alloc (by omega) _).mono (Nat.le_trans hBw hsz))).trans b2
      have hot2 := (hot.trans (OthersKept_below (hb1.alloc (by omega) (.cells ([.iface 9 (.string ⟨#[97, 99, 99, 111, 117, 110, 116]⟩), .iface 41 (.agg (bytesV (ds[k]).addr)), .iface 22 (.int .u64 (ds[k]).nonce), .iface 43 (.agg (wcells (ds[k]).bal)), .iface 31 cv] : List Value).toArray 20)))).trans k2
      clear hb1 hbel hN b2 k2 hcode1
      go_wp2_with fail
      go_loopw [33] (fun i wi => ∃ j : Nat, j ≤ (ds[k]).store.length ∧ i = .int .i64 j ∧ Lib.IsBuilder 52 5 B b (Lib.byteCells (acc ++ accsS (ds.take k) ++ lineS (accP ds[k]) ++ ((ds[k]).store.take j).flatMap fun s => lineS (slotP s))) wi ∧ Below B w wi ∧ Lib.OthersKept 5 (some b) w wi) (fun i _ => (ds[k]).store.length - (intOf i).toNat)
      case atStart => exact ⟨0, Nat.zero_le _, rfl, .inr (by simpa using H2.out), hbw2, hot2⟩
      case round =>
        obtain ⟨j, hj, rfl, hBj, hbj, hotj⟩ := hrel
        have hszj := hbj.size
        have HBJ := Lib.hid hBj; clear hBj
        have hbBj := Lib.IsBuilder_lt HBJ.out
        by_cases hlj : j < (ds[k]).store.length
        · obtain ⟨tb, toff, tcs, rfl, htb, htr, hts, rfl, hk1, hk2⟩ := HSC.out j hlj
          have HTR := Lib.hid (rangeAt_below hbj htb (show w.rangeAt tb _ _ from htr)); clear htr
          have hszs : (Tryz.prog.info? 77).map (·.size) = some (wcells (ds[k]).store[j].1 ++ wcells (ds[k]).store[j].2).size := size_slot
          have hszw1 : (Tryz.prog.info? 43).map (·.size) = some (wcells (ds[k]).store[j].1).size := size_word
          have hszw2 : (Tryz.prog.info? 43).map (·.size) = some (wcells (ds[k]).store[j].2).size := size_word
          have hones := slot_one (ds[k]).store[j]
          go_wp2_with (first | (refine wpList_load_arr rfl 77 _ rfl _ _ rfl (wcells (ds[k]).store[j].1 ++ wcells (ds[k]).store[j].2) _ HTR.out Tryz.underlying77 rfl hszs ?_) | (refine wpList_store_mid rfl 77 _ _ rfl _ _ (wcells (ds[k]).store[j].1 ++ wcells (ds[k]).store[j].2) rfl rfl ?h1 hszs hones ?_; (case h1 => exact (Blk.new _ _ _).there 0 _ (by rw [slot_size]; exact Nat.le_refl _)); generalize hw3 : World.setCells _ _ _ _ = w3; obtain ⟨hN3, hs3, hbel3, hoth3⟩ := stored_new hw3 (by rw [slot_size]; rfl); clear hw3) | (refine wpList_load_arr rfl 43 _ rfl _ 0 rfl (wcells (ds[k]).store[j].1) _ ?h2 Tryz.underlying43 rfl hszw1 ?_; (case h2 => rw [← slot_key]; exact hN3.range 0 4)) | (refine wpList_load_arr rfl 43 _ rfl _ 4 rfl (wcells (ds[k]).store[j].2) _ ?h2 Tryz.underlying43 rfl hszw2 ?_; (case h2 => rw [← slot_val]; exact hN3.range 4 4)))
          have hb3 := hbel3 _ _ (Below.refl wr.heap.size wr) (Nat.le_refl _)
          have hPs : Pcs B b (w3.alloc (.cells ([.iface 9 (.string ⟨#[115, 108, 111, 116]⟩), .iface 43 (.agg (wcells (ds[k]).store[j].1)), .iface 43 (.agg (wcells (ds[k]).store[j].2))] : List Value).toArray 20)) (.slice (some ⟨wr.heap.size + 1, 0, none⟩) 3 3) (slotP (ds[k]).store[j]) :=
            Pcs_new _ [.iface 9 (.string ⟨#[115, 108, 111, 116]⟩), .iface 43 (.agg (wcells (ds[k]).store[j].1)), .iface 43 (.agg (wcells (ds[k]).store[j].2))] _ rfl hs3.symm (by omega) (by omega) ⟨rfl, fun i h1 h2 => match i, h1, h2 with | 0, _, _ => .str [115, 108, 111, 116] | 1, _, _ => .word _ hk1 | 2, _, _ => .word _ hk2⟩
          refine (text_line B b _ _ _ _ (IsBuilder_below HBJ.out (hb3.alloc (by omega) _)) hPs (by simp; omega) (by
            have h1 := flatMap_take_succ (fun s => lineS (slotP s)) (ds[k]).store j hlj
            have h2 := flatMap_take_le (fun s => lineS (slotP s)) (ds[k]).store (j + 1)
            rw [h1] at h2
            have := HLEN.out
            simp only [accS, List.length_append] at this h2 ⊢; omega)).mono ?_
          rintro e w4 ⟨rfl, h4, b4, k4⟩
          have h4' : Lib.IsBuilder 52 5 B b (Lib.byteCells (acc ++ accsS (ds.take k) ++ lineS (accP ds[k]) ++ ((ds[k]).store.take (j + 1)).flatMap fun s => lineS (slotP s))) w4 := .inr (by
            rw [flatMap_take_succ (fun s => lineS (slotP s)) _ _ hlj, ← List.append_assoc]; exact h4)
          have H4 := Lib.hid h4'; clear h4 h4' hPs
          have hbw4 : Below B w w4 := (hbj.trans ((hb3.alloc (by omega) _).mono (Nat.le_trans hBw hszj))).trans b4
          have hot4 := (hotj.trans (OthersKept_below (hb3.alloc (by omega) (.cells ([.iface 9 (.string ⟨#[115, 108, 111, 116]⟩), .iface 43 (.agg (wcells (ds[k]).store[j].1)), .iface 43 (.agg (wcells (ds[k]).store[j].2))] : List Value).toArray 20)))).trans k4
          clear hb3 hbel3 hN3 hoth3 b4 k4
          go_wp2_with fail
          go_roundw
          case rel => exact ⟨j + 1, hlj, by go_num, H4.out, hbw4, hot4⟩
          case measure => simp [intOf] <;> omega
        · obtain rfl : j = (ds[k]).store.length := by omega
          rw [List.take_length] at HBJ
          have H5 := Lib.hid (show Lib.IsBuilder 52 5 B b (Lib.byteCells (acc ++ accsS (ds.take (k + 1)))) wr by
            rw [accsS, flatMap_take_succ accS ds k hlt, accS, ← List.append_assoc, ← List.append_assoc]; exact HBJ.out)
          go_wp2_with fail
          go_roundw
          case rel => exact ⟨k + 1, hlt, by go_num, H5.out, hbj, hotj⟩
          case measure => simp [intOf] <;> omega
    · obtain rfl : k = ds.length := by omega
      rw [List.take_length] at HB
      go_wp2_with fail
      go_end0
      exact ⟨rfl, HB.out, hbw, hot⟩
end Go.Proofs.YtlcokkiohilmlaaGreatDoor
