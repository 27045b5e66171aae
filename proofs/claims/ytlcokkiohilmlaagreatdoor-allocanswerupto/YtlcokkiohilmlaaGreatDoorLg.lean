import Derived.Test.YtlcokkiohilmlaaGreatDoorDt
namespace Go.Proofs.YtlcokkiohilmlaaGreatDoor
open Go.RowKit
theorem size_log : (Tryz.prog.info? 104).map (·.size) = some 22 := by kernel_rfl
theorem info_any : (Tryz.prog.info? 20).map (fun i => (i.zero, i.size, i.bytes)) = some (some .nilIface, 1, 16) := by kernel_rfl

theorem logV_succ' (dv : Value) (d : LogD) (j : Nat) (h : j < d.topics.length) : [Value.iface 9 (.string ⟨#[108, 111, 103]⟩), .iface 41 (.agg (bytesV d.addr)), .iface 31 dv] ++ ((d.topics.take (j + 1)).map fun l => Value.iface 24 (.agg (bytesV l))) = ([Value.iface 9 (.string ⟨#[108, 111, 103]⟩), .iface 41 (.agg (bytesV d.addr)), .iface 31 dv] ++ (d.topics.take j).map fun l => Value.iface 24 (.agg (bytesV l))) ++ [.iface 24 (.agg (bytesV d.topics[j]))] := by
  rw [List.take_succ_eq_append_getElem h, List.map_append, List.append_assoc]; rfl
theorem ownsRow_new {w : World} {base g : Nat} {T : TypeId} (xs : List Value) (cs : Array Value) (hcs : cs.toList = xs) (hb : base ≤ g) (hg : g = w.heap.size) (hm : xs.length ≤ maxLen) :
    (w.alloc (.cells cs T)).ownsRow base T 1 (.slice (some ⟨g, 0, none⟩) xs.length xs.length) xs.length xs := by
  subst hg
  have e : cs.size = xs.length := by rw [← hcs]; simp
  exact ⟨by simp, .inr ⟨_, _, cs, rfl, hb, heap_alloc_new w _, Nat.le_refl _, hm, by rw [e, Nat.mul_one], by rw [hcs, Nat.mul_one, List.take_length]⟩⟩
/-- the row of a log's line, so many topics in it -/
def logV (dv : Value) (d : LogD) (j : Nat) : List Value := [.iface 9 (.string ⟨#[108, 111, 103]⟩), .iface 41 (.agg (bytesV d.addr)), .iface 31 dv] ++ (d.topics.take j).map fun l => .iface 24 (.agg (bytesV l))
theorem _root_.Go.Lib.IsBuilder_lt {T e : TypeId} {B b : Nat} {bs : List Value} {w : World} (h : Lib.IsBuilder T e B b bs w) : b < w.heap.size := by
  rcases h with h | h <;> exact Lib.BuilderAt.lt h
theorem data_le (d : LogD) : d.data.length ≤ (lineS (logP d)).length := by
  simp only [lineS, logP, joinS, List.length_append, List.flatMap_cons, List.length_cons, text, hexes_length]
  omega
theorem Pcs_log {w : World} {B b base : Nat} {row dv : Value} {d : LogD} (hown : w.ownsRow base 20 1 row (3 + d.topics.length) (logV dv d d.topics.length)) (hb : b < base)
    (ha : d.addr.length = 20) (ht : ∀ i (h : i < d.topics.length), d.topics[i].length = 32) (hd : RdU B w dv d.data) (hdl : d.data.length ≤ 2 ^ 40) : Pcs B b w row (logP d) := by
  obtain ⟨_, h2⟩ := hown
  rcases h2 with ⟨_, h0⟩ | ⟨g, cap, cur, hv, hg, hh, hn, hm, hs, htk⟩
  · omega
  · have e : (logP d).length = 3 + d.topics.length := by simp [logP]; omega
    refine ⟨some ⟨g, 0, none⟩, cap, by rw [e]; exact hv, fun i hi => ?_⟩
    have hx : ∃ x, (logV dv d d.topics.length)[i]? = some x ∧ Pc B w x (logP d)[i] := by
      match i, hi with
      | 0, _ => exact ⟨_, rfl, .str [108, 111, 103]⟩
      | 1, _ => exact ⟨_, rfl, .addr _ ha⟩
      | 2, _ => exact ⟨_, rfl, .bytes _ _ hd hdl⟩
      | i + 3, hi =>
        have hi' : i < d.topics.length := by omega
        refine ⟨.iface 24 (.agg (bytesV d.topics[i])), ?_, ?_⟩
        · simp [logV, hi']
        · have : (logP d)[i + 3] = text d.topics[i] := by simp [logP]
          rw [this]
          exact .hash _ (ht i hi')
    obtain ⟨x, hx, hp⟩ := hx
    refine ⟨g, 0, x, rfl, ?_, hp, .inr ⟨by omega, cur, _, hh⟩⟩
    rw [Nat.zero_add, Lib.cell_of_heap hh, ← hx, ← htk, List.getElem?_take]
    rw [if_pos (by omega)]; simp
theorem logV_succ (dv : Value) (d : LogD) (j : Nat) (h : j < d.topics.length) : logV dv d (j + 1) = logV dv d j ++ [.iface 24 (.agg (bytesV d.topics[j]))] := logV_succ' dv d j h
set_option maxRecDepth 100000 in
set_option maxHeartbeats 1600000 in
theorem text_logs (B b : Nat) (acc : List UInt8) (w : World) (v : Value) (ds : List LogD) (h : Lib.IsBuilder 52 5 B b (Lib.byteCells acc) w)
    (hv : ∀ w', Below B w w' → RdS B w' 22 (LogC B w') v ds) (hBw : B ≤ w.heap.size) (hlen : (acc ++ logsS ds).length ≤ 2 ^ 40) :
    Calls Tryz.prog 38 #[.pointer (some ⟨b, 0, none⟩), v] w fun e w' => e = .returned (.tuple #[]) ∧
      Lib.IsBuilder 52 5 B b (Lib.byteCells (acc ++ logsS ds)) w' ∧ Below B w w' ∧ Lib.OthersKept 5 (some b) w w' := by
  obtain ⟨i0, hi, hz0, hz1, hz2⟩ := info_parts info_any
  obtain ⟨a, cap, rfl, _⟩ := hv w (Below.refl _ _)
  have hds : ds.length ≤ 2 ^ 40 := by
    have := flatMap_ge (fun d => lineS (logP d)) (fun d => lineS_pos _) ds
    simp only [logsS, List.length_append] at hlen
    omega
  go_enter Tryz.func38, Tryz.ntmps38
  go_wp2_with fail
  go_loopw [11] (fun i wr => ∃ k : Nat, k ≤ ds.length ∧ i = .int .i64 k ∧ Lib.IsBuilder 52 5 B b (Lib.byteCells (acc ++ logsS (ds.take k))) wr ∧ Below B w wr ∧ Lib.OthersKept 5 (some b) w wr) (fun i _ => ds.length - (intOf i).toNat)
  case atStart => exact ⟨0, Nat.zero_le _, rfl, by simpa [logsS] using h, Below.refl _ _, Lib.OthersKept.refl _ _ _⟩
  case round =>
    obtain ⟨k, hk, rfl, hB, hbw, hot⟩ := hrel
    obtain ⟨wo, rfl⟩ : ∃ wo : World, wo = wr := ⟨_, rfl⟩
    have hsz := hbw.size
    have HB := Lib.hid hB; clear hB
    by_cases hlt : k < ds.length
    · obtain ⟨a', cap', hae, hc⟩ := hv wo hbw
      injection hae with hae _ hcap
      subst hae
      subst hcap
      obtain ⟨lb, off, cs, rfl, hlb, hrange, hcs, hlog⟩ := hc k hlt
      obtain ⟨hone, ha20, haddr, ⟨tv, htv, ht⟩, dv, hdv, hd⟩ := hlog
      obtain ⟨ta, tcap, rfl, htc⟩ := ht
      have hlen1 : (acc ++ logsS (ds.take k) ++ lineS (logP ds[k])).length ≤ 2 ^ 40 := by
        have h1 := flatMap_take_succ (fun d => lineS (logP d)) ds k hlt
        have h2 := flatMap_take_le (fun d => lineS (logP d)) ds (k + 1)
        rw [h1] at h2
        simp only [logsS, List.length_append] at hlen h2 ⊢
        omega
      have htl : (ds[k]).topics.length ≤ 2 ^ 40 := by
        have := lineS_ge (logP ds[k])
        have e : (logP ds[k]).length = 3 + (ds[k]).topics.length := by simp [logP]; omega
        simp only [List.length_append] at hlen1
        omega
      have hdl : (ds[k]).data.length ≤ 2 ^ 40 := by
        have := data_le ds[k]
        simp only [List.length_append] at hlen1
        omega
      have HLEN := Lib.hid hlen1; clear hlen1
      have HTC := Lib.hid htc; clear htc
      have HR := Lib.hid hrange; clear hrange hc hv
      have hszc : (Tryz.prog.info? 104).map (·.size) = some cs.size := by rw [hcs]; exact size_log
      have hsza : (Tryz.prog.info? 41).map (·.size) = some (bytesV (ds[k]).addr).size := by rw [bytesV_size, ha20]; exact size_addr
      have hHA := Lib.hid haddr; clear haddr
      go_wp2_with (first | (refine wpList_load_arr rfl 104 _ rfl _ _ rfl cs _ HR.out Tryz.underlying104 rfl hszc ?_) | (refine wpList_store_mid rfl 104 _ _ rfl _ _ cs rfl rfl ?h1 hszc hone ?_; (case h1 => exact (Blk.new _ _ _).there 0 _ (by rw [hcs]; exact Nat.le_refl _)); generalize hw1 : World.setCells _ _ _ _ = w1; obtain ⟨hN, hs1, hbel, hoth⟩ := stored_new hw1 (by rw [hcs]; rfl); clear hw1; have c20 := (hN.cell 20).trans htv; have c21 := (hN.cell 21).trans hdv) | (refine wpList_load_arr rfl 41 _ rfl _ _ rfl (bytesV (ds[k]).addr) _ ?h2 Tryz.underlying41 rfl hsza ?_; (case h2 => rw [← hHA.out]; exact hN.range 0 20)))
      go_loopw [6, 26] (fun row i wi => ∃ j : Nat, j ≤ (ds[k]).topics.length ∧ i = .int .i64 j ∧ wi.ownsRow wo.heap.size 20 1 row (3 + j) (logV dv ds[k] j) ∧ Below wo.heap.size wo wi) (fun _ i _ => (ds[k]).topics.length - (intOf i).toNat)
      case atStart =>
        refine ⟨0, Nat.zero_le _, rfl, ownsRow_new (logV dv ds[k] 0) _ rfl (by omega) hs1.symm (by simp [logV, maxLen]), (hbel _ _ (Below.refl _ _) (Nat.le_refl _)).alloc (by omega) _⟩
      case round =>
        obtain ⟨j, hj, rfl, hrow, hbi⟩ := hrel
        have hsi := hbi.size
        have HROW := Lib.hid hrow; clear hrow
        by_cases hlj : j < (ds[k]).topics.length
        · obtain ⟨tb, toff, tcs, rfl, htb, htr, hts, htl32, rfl⟩ := HTC.out j hlj
          have HTR := Lib.hid (rangeAt_below (hbi.mono (Nat.le_trans hBw hsz)) htb htr); clear htr
          have hszh : (Tryz.prog.info? 24).map (·.size) = some (bytesV (ds[k]).topics[j]).size := by rw [bytesV_size, htl32]; exact size_hash
          have honeh : (bytesV (ds[k]).topics[j]).all (·.oneCell') = true := bytesV_one _
          have HS := Lib.hid (show (bytesV (ds[k]).topics[j]).size = 32 by rw [bytesV_size, htl32])
          go_wp2_with (first | (at_builtin; refine wpList_append_own _ rfl _ _ 65 rfl wo.heap.size 20 i0 .nilIface 1 16 Tryz.underlying65 hi hz0 hz1 hz2 rfl (by decide) _ _ _ rfl (ownsRow_below HROW.out ((hbel2 _ _ (Below.refl _ _) (Nat.le_refl _)).alloc (by omega) _)) ⟨wr.heap.size + 1, 0, none⟩ 1 1 [.iface 24 (.agg (bytesV (ds[k]).topics[j]))] rfl rfl ?c1 ?c2 ?c3 ?c4 ?c5 ?_) | (refine wpList_load_arr rfl 24 _ rfl _ _ rfl (bytesV (ds[k]).topics[j]) _ ?h1 Tryz.underlying24 rfl hszh ?_; (case h1 => first | exact HTR.out | exact hN2.all)) | (refine wpList_store_mid rfl 24 _ _ rfl _ _ (bytesV (ds[k]).topics[j]) rfl rfl ?h1 hszh honeh ?_; (case h1 => exact (Blk.new _ _ _).there 0 _ (by rw [HS.out]; exact Nat.le_refl _)); generalize hw2 : World.setCells _ _ _ _ = w2; obtain ⟨hN2, hs2, hbel2, hoth2⟩ := stored_new hw2 (by rw [HS.out]; rfl); clear hw2))
          case c1 =>
            intro q u hq
            match q, hq with
            | 0, hq =>
              simp at hq; subst hq
              rw [Addr.add_mid]
              have := (Blk.new' (w := w2) (b := wr.heap.size + 1) hs2.symm #[.iface 24 (.agg (bytesV (ds[k]).topics[j]))] 20).cell 0
              simpa using this
          case c2 => intro u hu; simp at hu; subst hu; rfl
          case c3 => unfold maxLen; omega
          case c4 => omega
          case c5 => simp; omega
          intro v' w4 hown4 hgr4 _
          have hb4 : Below wo.heap.size wo w4 := (((hbi.trans ((hbel2 _ _ (Below.refl _ _) (Nat.le_refl _)).mono hsi)).alloc (by omega) _).grown hgr4 (by simp; omega) (fun g hg => (HROW.out.lt g hg).1))
          have hown4' : w4.ownsRow wo.heap.size 20 1 v' (3 + (j + 1)) (logV dv ds[k] (j + 1)) := by
            rw [logV_succ _ _ _ hlj, ← Nat.add_assoc]; exact hown4
          have HO4 := Lib.hid hown4'; clear hown4 hown4' hgr4
          go_wp2_with fail
          go_roundw
          case rel => exact ⟨j + 1, hlj, by go_num, HO4.out, hb4⟩
          case measure => simp [intOf] <;> omega
        · obtain rfl : j = (ds[k]).topics.length := by omega
          go_wp2_with fail
          refine (text_line B b (acc ++ logsS (ds.take k)) _ _ (logP ds[k]) (IsBuilder_below HB.out hbi) (Pcs_log HROW.out (by have := (Lib.IsBuilder_lt HB.out); omega) ha20 (fun i hi => by obtain ⟨_, _, _, _, _, _, _, h32, _⟩ := HTC.out i hi; exact h32) (hd.below (hbi.mono (Nat.le_trans hBw hsz))) hdl) (Nat.le_trans (Nat.le_trans hBw hsz) hsi) HLEN.out).mono ?_
          rintro e w5 ⟨rfl, h5, b5, k5⟩
          have h5' : Lib.IsBuilder 52 5 B b (Lib.byteCells (acc ++ logsS (ds.take (k + 1)))) w5 := .inr (by
            rw [logsS, flatMap_take_succ _ _ _ hlt, ← List.append_assoc]; exact h5)
          have H5 := Lib.hid h5'; clear h5 h5'
          go_wp2_with fail
          go_roundw
          case rel => exact ⟨k + 1, hlt, by go_num, H5.out, (hbw.trans (hbi.mono (Nat.le_trans hBw hsz))).trans b5, (hot.trans (OthersKept_below hbi)).trans k5⟩
          case measure => simp [intOf] <;> omega
    · obtain rfl : k = ds.length := by omega
      rw [List.take_length] at HB
      go_wp2_with fail
      go_end0
      exact ⟨rfl, HB.out, hbw, hot⟩
end Go.Proofs.YtlcokkiohilmlaaGreatDoor
