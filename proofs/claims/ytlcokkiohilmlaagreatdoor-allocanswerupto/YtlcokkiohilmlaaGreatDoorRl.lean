import Derived.Test.YtlcokkiohilmlaaGreatDoorRo
import Derived.Test.YtlcokkiohilmlaaGreatDoorLg
import Derived.Deep.RegionHeld3
namespace Go.Proofs.YtlcokkiohilmlaaGreatDoor
open Go.RowKit
theorem al_addr : Tryz.prog.arrayLen 41 = 20 := by kernel_rfl
theorem el_addr : Tryz.prog.elem 41 = 5 := by kernel_rfl
theorem al_hash : Tryz.prog.arrayLen 24 = 32 := by kernel_rfl
theorem el_hash : Tryz.prog.elem 24 = 5 := by kernel_rfl
theorem sl_addr (b o : Nat) (w : World) : (Instr.sliceAt 41 (.pointer (some ⟨b, o, none⟩)) none none none).run Tryz.prog w = .ok (.slice (some ⟨b, o, none⟩) 20 20) w := by
  obtain ⟨v, h1, h2⟩ := run_sliceAt_all (P := Tryz.prog) Tryz.underlying41 size_u8 al_addr el_addr ⟨b, o, none⟩
  rw [h1, h2 (by decide), Addr.add_mid]; rfl
theorem sl_hash (b o : Nat) (w : World) : (Instr.sliceAt 24 (.pointer (some ⟨b, o, none⟩)) none none none).run Tryz.prog w = .ok (.slice (some ⟨b, o, none⟩) 32 32) w := by
  obtain ⟨v, h1, h2⟩ := run_sliceAt_all (P := Tryz.prog) Tryz.underlying24 size_u8 al_hash el_hash ⟨b, o, none⟩
  rw [h1, h2 (by decide), Addr.add_mid]; rfl
attribute [go_sem] sl_addr sl_hash
theorem ba_app (a b : List UInt8) : ((ByteArray.mk a.toArray) ++ (ByteArray.mk b.toArray)) = ByteArray.mk (a ++ b).toArray := by
  apply ByteArray.ext
  simp
/-- bytes of an array that lies in a row -/
theorem RdB_range {w : World} {b o n : Nat} {cs : Array Value} {l : List UInt8} (hr : w.rangeAt b o cs.toList) (h : cs.extract 0 n = bytesV l) (hl : l.length = n) (cap : Nat) : RdB w (.slice (some ⟨b, o, none⟩) n cap) l := by
  refine ⟨_, cap, by rw [hl], fun i hi => ⟨b, o, rfl, ?_⟩⟩
  apply hr i
  have h1 := bytesV_get l i hi
  rw [← h, Array.getElem?_extract] at h1
  rw [← Array.getElem?_toList] at *
  split at h1
  · simpa using h1
  · simp at h1
theorem RdB_hash {w : World} {b o : Nat} {l : List UInt8} (hr : w.rangeAt b o (bytesV l).toList) (hl : l.length = 32) : RdB w (.slice (some ⟨b, o, none⟩) 32 32) l := by
  refine RdB_range hr ?_ hl 32
  rw [Array.extract_eq_self_of_le (by rw [bytesV_size, hl]; exact Nat.le_refl _)]
/-- a log's line up to so many topics -/
def logR (d : LogD) (j : Nat) : List UInt8 := [108, 111, 103, 32] ++ text d.addr ++ [32] ++ text d.data ++ (d.topics.take j).flatMap fun t => [32] ++ text t
theorem logR_succ (d : LogD) (j : Nat) (h : j < d.topics.length) : logR d (j + 1) = logR d j ++ [32] ++ text d.topics[j] := by
  unfold logR
  rw [flatMap_take_succ _ _ _ h]; simp
theorem logR_le (d : LogD) (j : Nat) : (logR d j).length ≤ (logR d d.topics.length).length := by
  unfold logR
  rw [List.take_length]
  simp only [List.length_append]
  have := flatMap_take_le (fun t => [32] ++ text t) d.topics j
  omega
theorem logR_line (d : LogD) : lineS (logP d) = logR d d.topics.length ++ [10] := by
  simp [lineS, logP, joinS, logR, List.flatMap_map]
set_option maxRecDepth 100000 in
set_option maxHeartbeats 1600000 in
theorem ref_Logs (B : Nat) (w : World) (v : Value) (ds : List LogD) (hv : RdS B w 22 (LogC B w) v ds) (hBw : B ≤ w.heap.size) (hlen : (logsS ds).length ≤ 2 ^ 40) :
    Calls Tryz.prog 29 #[v] w fun e w' => e = .returned (.string ⟨(logsS ds).toArray⟩) ∧ Below w.heap.size w w' := by
  obtain ⟨a, cap, rfl, hc⟩ := hv
  have HC := Lib.hid hc; clear hc
  have hn : ds.length ≤ 2 ^ 40 := Nat.le_trans (flatMap_ge (fun d => lineS (logP d)) (fun d => by simp [lineS]) ds) hlen
  go_enter Tryz.func29, Tryz.ntmps29
  go_wp2_with fail
  go_loopw [3, 4] (fun s i wr => ∃ k : Nat, k ≤ ds.length ∧ i = .int .i64 k ∧ s = .string ⟨(logsS (ds.take k)).toArray⟩ ∧ Below w.heap.size w wr) (fun _ i _ => ds.length - (intOf i).toNat)
  case atStart => exact ⟨0, Nat.zero_le _, rfl, rfl, Below.refl _ _⟩
  case round =>
    obtain ⟨k, hk, rfl, rfl, hbw⟩ := hrel
    have hsz := hbw.size
    by_cases hlt : k < ds.length
    · obtain ⟨lb, off, cs, rfl, hlb, hrange, hcs, hlog⟩ := HC.out k hlt
      obtain ⟨hone, ha20, haddr, ⟨tv, htv, ht⟩, dv, hdv, hd⟩ := hlog
      obtain ⟨ta, tcap, rfl, htc⟩ := ht
      have hbB : Below B w wr := hbw.mono hBw
      have hr2 := rangeAt_below hbB hlb hrange
      have h1 := flatMap_take_succ (fun d => lineS (logP d)) ds k hlt
      have h2 := flatMap_take_le (fun d => lineS (logP d)) ds (k + 1)
      rw [h1] at h2
      have hA : (logsS (ds.take k)).length ≤ 1099511627776 := by simp only [logsS, List.length_append] at hlen h2 ⊢; omega
      have hL : (lineS (logP ds[k])).length ≤ 2 ^ 40 := by simp only [logsS, List.length_append] at hlen h2 ⊢; omega
      have hL3 : (logsS (ds.take k)).length + (lineS (logP ds[k])).length ≤ 1099511627776 := by simp only [logsS, List.length_append] at hlen h2 ⊢; omega
      have hdl : (ds[k]).data.length ≤ 2 ^ 40 := by have := data_le ds[k]; omega
      have htl : (ds[k]).topics.length ≤ 2 ^ 40 := by
        have := lineS_ge (logP ds[k])
        have e : (logP ds[k]).length = 3 + (ds[k]).topics.length := by simp [logP]; omega
        omega
      have hta : (text (ds[k]).addr).length ≤ 42 := by simp [text, hexes_length, ha20]
      have htd : (text (ds[k]).data).length ≤ 4398046511104 := by simp only [text, hexes_length, List.length_cons]; omega
      have RA : ∀ w', Below B w w' → RdB w' (.slice (some ⟨lb, off + k * 22, none⟩) 20 20) (ds[k]).addr := fun w' hb => RdB_range (rangeAt_below hb hlb hrange) haddr ha20 20
      have RD : ∀ w', Below B w w' → RdB w' dv (ds[k]).data := fun w' hb => (hd.below hb).rd
      have CD : ∀ w', Below B w w' → w'.cell? ⟨lb, off + k * 22 + 21, none⟩ = some dv := fun w' hb => rangeAt_below hb hlb hrange 21 dv (by rw [Array.getElem?_toList]; exact hdv)
      have CT : ∀ w', Below B w w' → w'.cell? ⟨lb, off + k * 22 + 20, none⟩ = some (.slice ta (ds[k]).topics.length tcap) := fun w' hb => rangeAt_below hb hlb hrange 20 _ (by rw [Array.getElem?_toList]; exact htv)
      have cd := CD wr hbB
      have ct := CT wr hbB
      have hBr := Nat.le_trans hBw hsz
      have HS := Lib.hid (fun w' hb => (⟨CD w' hb, hb⟩ : w'.cell? ⟨lb, off + k * 22 + 21, none⟩ = some dv ∧ Below B w w'))
      have HRA := Lib.hid RA; have HRD := Lib.hid RD; have HCD := Lib.hid CD; have HCT := Lib.hid CT; have HTC := Lib.hid htc; have HL3 := Lib.hid hL3; have HL2 := Lib.hid h1
      have hla : (ds[k]).addr.length ≤ 2 ^ 40 := by rw [ha20]; decide
      clear RA RD CD CT htc hL hL3 h1 h2 hr2 haddr hrange hdv htv hone ha20 hd
      go_wp2_with fail
      have q1 : ¬ 9223372036854775807 < (logsS (List.take k ds)).length + 4 := by omega
      have q2 : ¬ 9223372036854775807 < (logsS (List.take k ds)).length + 4 + (text ds[k].addr).length := by omega
      have q3 : ¬ 9223372036854775807 < (logsS (List.take k ds)).length + 4 + (text ds[k].addr).length + 1 := by omega
      have q4 : ¬ 9223372036854775807 < (logsS (List.take k ds)).length + 4 + (text ds[k].addr).length + 1 + (text ds[k].data).length := by omega
      go_region_held3 (fun w' => w'.cell? ⟨lb, off + k * 22 + 21, none⟩ = some dv ∧ Below B w w')
        (first
          | exact HS.out _ hbB.drew
          | exact HS.out _ hb2
          | exact HS.out _ hb1)
        (first
          | (go_at_call 17; refine (ref_Text _ _ _ (HRA.out _ hbB.drew) hla).mono ?_; rintro e w1 ⟨rfl, b1⟩; have hb1 : Below B w w1 := hbB.drew.trans (b1.mono hBr); have c1 : Below w.heap.size w w1 := hbw.drew.trans (b1.mono hsz); clear b1)
          | (go_at_call 17; refine (ref_Text _ _ _ (HRD.out _ hbB.drew) hdl).mono ?_; rintro e w1 ⟨rfl, b1⟩; have hb1 : Below B w w1 := hbB.drew.trans (b1.mono hBr); have c1 : Below w.heap.size w w1 := hbw.drew.trans (b1.mono hsz); clear b1)
          | (go_at_call 17; refine (ref_Text _ _ _ (HRA.out _ hb1) hla).mono ?_; rintro e w2 ⟨rfl, b2⟩; have hb2 : Below B w w2 := hb1.trans (b2.mono (Nat.le_trans hBw c1.size)); have c2 : Below w.heap.size w w2 := c1.trans (b2.mono c1.size); clear b2)
          | (go_at_call 17; refine (ref_Text _ _ _ (HRD.out _ hb1) hdl).mono ?_; rintro e w2 ⟨rfl, b2⟩; have hb2 : Below B w w2 := hb1.trans (b2.mono (Nat.le_trans hBw c1.size)); have c2 : Below w.heap.size w w2 := c1.trans (b2.mono c1.size); clear b2))
      go_wp2_with fail
      clear q1 q2 q3 q4
      obtain ⟨wo, rfl⟩ : ∃ wo : World, wo = wr := ⟨_, rfl⟩
      have hR0 : (logsS (List.take k ds)).length + (logR ds[k] (ds[k]).topics.length).length ≤ 1099511627776 := by
        have := HL3.out
        rw [logR_line] at this
        simp only [List.length_append, List.length_cons, List.length_nil] at this; omega
      have HR0 := Lib.hid hR0; clear hR0
      go_loopw [3, 5] (fun s i wi => ∃ j : Nat, j ≤ (ds[k]).topics.length ∧ i = .int .i64 j ∧ s = .string ⟨(logsS (ds.take k) ++ logR ds[k] j).toArray⟩ ∧ Below w.heap.size w wi) (fun _ i _ => (ds[k]).topics.length - (intOf i).toNat)
      case atStart =>
        refine ⟨0, Nat.zero_le _, rfl, ?_, c2⟩
        simp only [ba_app, logR, List.append_assoc, List.take_zero, List.flatMap_nil, List.append_nil]
      case round =>
        obtain ⟨j, hj, rfl, rfl, hbi⟩ := hrel
        have hsi := hbi.size
        have hbBi : Below B w wr := hbi.mono hBw
        have ct := HCT.out wr hbBi
        have hRj : (logsS (List.take k ds)).length + (logR ds[k] j).length ≤ 1099511627776 := by
          have h1 := HR0.out
          have h2 : (logR ds[k] j).length ≤ (logR ds[k] (ds[k]).topics.length).length := logR_le _ _
          omega
        by_cases hlj : j < (ds[k]).topics.length
        · obtain ⟨tb, toff, tcs, rfl, htb, htr, hts, htl32, rfl⟩ := HTC.out j hlj
          have hRT := RdB_hash (rangeAt_below hbBi htb htr) htl32
          have hR1 := logR_succ ds[k] j hlj
          have htt : (text (ds[k]).topics[j]).length ≤ 66 := by simp [text, hexes_length, htl32]
          have HR1 := Lib.hid hR1; have HRT := Lib.hid hRT; clear hR1 hRT htr
          go_wp2_with fail
          refine (ref_Text _ _ _ HRT.out (by rw [htl32]; decide)).mono ?_
          rintro e w3 ⟨rfl, b3⟩
          have c3 : Below w.heap.size w w3 := hbi.trans (b3.mono hsi)
          go_wp2_with fail
          go_roundw
          case rel => exact ⟨j + 1, hlj, by go_num, by rw [HR1.out]; simp only [ba_app, List.append_assoc], c3⟩
          case measure => simp [intOf] <;> omega
        · obtain rfl : j = (ds[k]).topics.length := by omega
          go_wp2_with fail
          refine (ref_end _).mono ?_
          rintro e w3 ⟨rfl, b3⟩
          have c3 : Below w.heap.size w w3 := hbi.trans (b3.mono hsi)
          go_wp2_with fail
          go_roundw
          case rel => exact ⟨k + 1, hlt, by go_num, by rw [show logsS (ds.take (k + 1)) = _ from HL2.out, logR_line]; simp only [ba_app, List.append_assoc]; rfl, c3⟩
          case measure => simp [intOf] <;> omega
    · obtain rfl : k = ds.length := by omega
      rw [List.take_length]
      go_wp2_with fail
      go_ret
      exact ⟨rfl, hbw⟩
end Go.Proofs.YtlcokkiohilmlaaGreatDoor
