import Derived.Test.YtlcokkiohilmlaaGreatDoorWk
import Derived.Test.YtlcokkiohilmlaaGreatDoorTn
namespace Go.Proofs.YtlcokkiohilmlaaGreatDoor
open Go.RowKit
theorem info_rec : (Tryz.prog.info? 34).map (fun i => (i.zero.map (·.cells.size), i.size, i.bytes)) = some (some 261, 261, 328) := by kernel_rfl
theorem size_res : (Tryz.prog.info? 29).map (·.size) = some 389 := by kernel_rfl
/-- the result as the statement cuts it -/
def cutR (d : ResD) : ResD := { d with recs := d.recs.take 10, alloc := (d.alloc.take 30).map cutA }
theorem row_keep' {xs ys : List Value} {k j n : Nat} (h : xs.length = k * n) (hj : j < k) : ((xs ++ ys).drop (j * n)).take n = (xs.drop (j * n)).take n := by
  have : (j + 1) * n ≤ k * n := Nat.mul_le_mul_right _ hj
  rw [Nat.add_mul, Nat.one_mul] at this
  rw [List.drop_append_of_le_length (by omega), List.take_append_of_le_length (by rw [List.length_drop]; omega)]
theorem row_last' {xs ys : List Value} {k n : Nat} (h : xs.length = k * n) (hy : ys.length = n) : ((xs ++ ys).drop (k * n)).take n = ys := by
  rw [← h, List.drop_left, List.take_of_length_le (by omega)]
theorem recs_step {w : World} {ds : List RecD} {k : Nat} {xs ys : List Value} (hl : xs.length = k * 261) (h7 : ∀ j (h : j < ds.length), j < k → RecC w.heap.size w ((xs.drop (j * 261)).take 261).toArray ds[j])
    (hk : k < ds.length) (hy : ys.length = 261) (hnew : RecC w.heap.size w ys.toArray ds[k]) : ∀ j (h : j < ds.length), j < k + 1 → RecC w.heap.size w (((xs ++ ys).drop (j * 261)).take 261).toArray ds[j] := by
  intro j h hj
  by_cases hjk : j < k
  · rw [row_keep' hl hjk]; exact h7 j h hjk
  · obtain rfl : j = k := by omega
    rw [row_last' hl hy]; exact hnew
theorem res_new {w W : World} {cs cs3 : Array Value} {d : ResD} {lv av : Value} (hv : ResV w.heap.size w cs d) (hs3 : cs3.size = 389) (hlo : ∀ i, i < 387 → cs3[i]? = cs[i]?) (h387 : cs3[387]? = some lv) (h388 : cs3[388]? = some av)
    (hl : RdS W.heap.size W 261 (RecC W.heap.size W) lv (cutR d).recs) (ha : RdS W.heap.size W 27 (AccC W.heap.size W) av (cutR d).alloc) : ResC W.heap.size W cs3 (cutR d) := by
  obtain ⟨-, hcs, k0, n0, ⟨l1, x1⟩, ⟨l2, x2⟩, ⟨l3, x3⟩, ⟨l4, x4⟩, ⟨l5, x5⟩, k6, n6, k7, n7, -⟩ := hv
  have ex : ∀ a b, b ≤ 387 → cs3.extract a b = cs.extract a b := fun a b hb => extract_eq (by omega) fun i _ h => hlo i (by omega)
  exact ⟨hs3, (hlo 0 (by omega)).trans k0, n0, ⟨l1, (ex 1 33 (by omega)).trans x1⟩, ⟨l2, (ex 33 65 (by omega)).trans x2⟩, ⟨l3, (ex 65 97 (by omega)).trans x3⟩, ⟨l4, (ex 97 129 (by omega)).trans x4⟩, ⟨l5, (ex 129 385 (by omega)).trans x5⟩, (hlo 385 (by omega)).trans k6, n6, (hlo 386 (by omega)).trans k7, n7, ⟨lv, h387, hl⟩, av, h388, ha⟩
theorem ResC.later {w w' : World} {cs : Array Value} {d : ResD} (h : ResC w.heap.size w cs d) (hb : Below w.heap.size w w') : ResC w'.heap.size w' cs d := by
  obtain ⟨hcs, k0, n0, x1, x2, x3, x4, x5, k6, n6, k7, n7, ⟨lv, hl, hr⟩, av, ha, hacc⟩ := h
  exact ⟨hcs, k0, n0, x1, x2, x3, x4, x5, k6, n6, k7, n7, ⟨lv, hl, (hr.below hb (fun _ _ h => h.below hb)).mono hb.size (fun _ _ h => h.mono hb.size)⟩, av, ha, (hacc.below hb (fun _ _ h => h.below hb)).mono hb.size (fun _ _ h => h.mono hb.size)⟩
theorem cut_len {d : ResD} (h1 : d.hash.length = 32) (h2 : d.state.length = 32) (h3 : d.txs.length = 32) (h4 : d.rroot.length = 32) (h5 : d.bloom.length = 256) : (ansOK (cutR d)).length ≤ 3000 + ((recsS d.recs).length + (accsS (d.alloc.map cutA)).length) := by
  have q1 := quant_le d.number
  have q2 := quant_le d.gas
  have q3 := quant_le d.blob
  have hr : (recsS (d.recs.take 10)).length ≤ (recsS d.recs).length := flatMap_take_le recS d.recs 10
  have ha : (accsS ((d.alloc.take 30).map cutA)).length ≤ (accsS (d.alloc.map cutA)).length := by
    rw [List.map_take]; exact flatMap_take_le accS _ 30
  simp only [ansOK, cutR, List.length_append, lineS, joinS, List.flatMap_cons, List.flatMap_nil, List.length_cons, List.length_nil, text_len, h1, h2, h3, h4, h5]
  omega

theorem RdV.later {B B' : Nat} {w w' : World} {v : Value} {l : List UInt8} (h : RdV B w v l) (hb : Below B w w') (hB : B ≤ B') : RdV B' w' v l := by
  obtain ⟨a, cap, hv, hn, hc⟩ := h.below hb
  refine ⟨a, cap, hv, hn, fun i hi => ?_⟩
  obtain ⟨b, off, ha, hlt, hcell⟩ := hc i hi
  exact ⟨b, off, ha, by omega, hcell⟩
theorem RdW.later {α : Type} {B B' : Nat} {w w' : World} {size : Nat} {P : Array Value → α → Prop} {v : Value} {ds : List α} (h : RdW B w size P v ds) (hb : Below B w w') (hB : B ≤ B') : RdW B' w' size P v ds := by
  obtain ⟨a, cap, hv, hn, hc⟩ := h
  refine ⟨a, cap, hv, hn, fun i hi => ?_⟩
  obtain ⟨b, off, cs, ha, hlt, hr, hs, hp⟩ := hc i hi
  exact ⟨b, off, cs, ha, by omega, rangeAt_below hb hlt hr, hs, hp⟩
theorem AccV.later {B B' : Nat} {w w' : World} {cs : Array Value} {d : AccD} (h : AccV B w cs d) (hb : Below B w w') (hB : B ≤ B') : AccV B' w' cs d := by
  obtain ⟨h0, h1, h2, h3, h4, h5, h6, ⟨cv, h7, h8⟩, sv, h9, h10⟩ := h
  exact ⟨h0, h1, h2, h3, h4, h5, h6, ⟨cv, h7, h8.later hb hB⟩, sv, h9, h10.later hb hB⟩
theorem stored_new' {w1 w2 : World} {g : Nat} (hg : g = w1.heap.size) {T : TypeId} {z cs : Array Value} (h : (w1.alloc (.cells z T)).setCells g 0 cs.toList = w2) (hs : z.size = cs.size) :
    Blk w2 g cs T ∧ w2.heap.size = g + 1 ∧ (∀ B w0, Below B w0 w1 → B ≤ g → Below B w0 w2) ∧ ∀ b cs' T', Blk w1 b cs' T' → Blk w2 b cs' T' := by
  subst hg; exact stored_new h hs
set_option maxRecDepth 100000 in
set_option maxHeartbeats 800000 in
theorem law23_AllocAnswer (w : World) (cs : Array Value) (d : ResD) (e : Int) (hm : Mx w) (hsp : Sp w) (h1 : -9223372036854775808 ≤ e) (h2 : e ≤ 9223372036854775807) (hv : ResV w.heap.size w cs d)
    (hlen : (recsS d.recs).length + (accsS (d.alloc.map cutA)).length ≤ 2 ^ 39) (hal : d.alloc.length ≤ 2 ^ 40) (hcl : ∀ a ∈ d.alloc, a.code.length ≤ 2 ^ 46) :
    Calls Tryz.prog 3 #[.agg cs, .int .i64 e] w fun r w' => r = .returned (.bool true) ∧ Below w.heap.size w w' := by
  obtain ⟨ir, zr, hir, hzr, hzrc, hirs, hirb⟩ := info_parts' info_rec
  have HV := Lib.hid hv
  obtain ⟨hone, hcs, k0, n0, ⟨l1, x1⟩, ⟨l2, x2⟩, ⟨l3, x3⟩, ⟨l4, x4⟩, ⟨l5, x5⟩, k6, n6, k7, n7, ⟨rv, h387, hrec⟩, av, h388, hacc⟩ := hv
  have hrl : d.recs.length ≤ 2 ^ 40 := Nat.le_trans (flatMap_ge recS (fun d => by have := lineS_pos (recP d); simp only [recS, List.length_append]; omega) d.recs) (by rw [recsS] at hlen; omega)
  have HLEN := Lib.hid (Nat.le_trans (cut_len l1 l2 l3 l4 l5) (Nat.add_le_add_left hlen 3000)); clear hlen
  clear k0 n0 l1 x1 l2 x2 l3 x3 l4 x4 l5 x5 k6 n6 k7 n7
  have HM := Lib.hid hm; clear hm
  have HSP := Lib.hid hsp; clear hsp
  obtain ⟨ra, rcap, rfl, hrc⟩ := hrec
  have HRC := Lib.hid hrc; clear hrc
  obtain ⟨aa, acap, rfl, hac⟩ := hacc
  have HAC := Lib.hid (show RdS w.heap.size w 27 (AccV w.heap.size w) (.slice aa d.alloc.length acap) d.alloc from ⟨aa, acap, rfl, hac⟩); clear hac
  have HCL := Lib.hid hcl; clear hcl
  have hszc : (Tryz.prog.info? 29).map (·.size) = some cs.size := by rw [hcs]; exact size_res
  have hzs : Tryz.zeroCells29.size = 389 := by kernel_rfl
  have hN := Blk.new w cs 29
  have hb0 : Below w.heap.size w (w.alloc (.cells cs 29)) := (Below.refl _ _).alloc (Nat.le_refl _) _
  go_enter Tryz.func3, Tryz.ntmps3
  go_wp2_with (first | (refine wpList_load_arr rfl 29 _ rfl _ _ rfl cs _ hN.all Tryz.underlying29 rfl hszc ?_) | (refine wpList_store_mid rfl 29 _ _ rfl _ _ cs rfl rfl ?h1 hszc hone ?_; (case h1 => exact (Blk.new' (by simp) _ _).there 0 _ (by rw [hcs, hzs]; exact Nat.le_refl _)); generalize hw1 : World.setCells _ _ _ _ = w1; obtain ⟨hX, hs1, hbel, hoth⟩ := stored_new' (by simp) hw1 (by rw [hcs, hzs]); clear hw1; have hR := hoth _ _ _ hN; have c388 := (hR.cell 388).trans h388))
  have hbw1 : Below w.heap.size w w1 := hbel _ _ hb0 (by omega)
  have hacc1 : RdS w1.heap.size w1 27 (AccV w1.heap.size w1) (.slice aa d.alloc.length acap) d.alloc := (HAC.out.below hbw1 (fun _ _ h => h.later hbw1 (Nat.le_refl _))).mono hbw1.size (fun _ _ h => h.later (Below.refl _ _) hbw1.size)
  refine (law15_Twins w1 _ d.alloc hacc1 hal HCL.out).mono ?_
  rintro r w2 ⟨av', rfl, hacc2, hb2⟩
  have hX2 := hX.below hb2 (by omega)
  have hR2 := hR.below hb2 (by omega)
  have e388 := (hX2.cell 388).trans h388
  have z388 := hX2.frozen 388
  have f387 := (hR2.cell 387).trans h387
  have hbw2 := hbw1.trans (hb2.mono hbw1.size)
  have hs2 := hb2.size
  have HACC2 := Lib.hid hacc2; clear hacc2 hacc1 HAC
  obtain ⟨aa', n', acap', rfl⟩ := HACC2.out.slice
  clear c388 hR hX hbel hoth hb2 hbw1
  go_wp2_with fail
  generalize hW2 : World.setCell w2 ⟨w.heap.size + 1, 388, none⟩ _ = W2
  have hXW : Blk W2 (w.heap.size + 1) (cs.setIfInBounds 388 (.slice aa' n' acap')) 29 := by rw [← hW2]; exact hX2.set 388 _
  have hRW : Blk W2 w.heap.size cs 29 := by rw [← hW2]; exact hR2.set_ne _ _ _ (by omega)
  have hbW : Below w.heap.size w W2 := by rw [← hW2]; exact hbw2.setCell (p := ⟨_, _, none⟩) (by simp) _
  have hAW : AccsO W2 (.slice aa' n' acap') (cutR d).alloc := by rw [← hW2]; exact HACC2.out.set hX2 _
  have HXW := Lib.hid hXW; clear hXW
  have HRW := Lib.hid hRW; clear hRW
  have HAW := Lib.hid hAW; clear hAW
  have HBW := Lib.hid hbW; clear hbW
  clear hW2 hX2 hR2 e388 z388 f387 hbw2 HACC2 hN hszc hb0 hs1 hs2
  go_loopw [6, 7] (fun o i wr => ∃ (k : Nat) (xs : List Value), k ≤ d.recs.length ∧ k ≤ 10 ∧ i = .int .i64 k ∧ wr.ownsRow W2.heap.size 34 261 o k xs ∧ (∀ j (h : j < d.recs.length), j < k → RecC w.heap.size w ((xs.drop (j * 261)).take 261).toArray d.recs[j]) ∧ Below W2.heap.size W2 wr) (fun _ i _ => 10 - (intOf i).toNat)
  case atStart => exact ⟨0, [], Nat.zero_le _, Nat.zero_le _, rfl, ⟨rfl, .inl ⟨rfl, rfl⟩⟩, fun j _ h => absurd h (by omega), Below.refl _ _⟩
  case round =>
    obtain ⟨k, xs, hk, hk10, rfl, hown, hrecs, hbr⟩ := hrel
    obtain ⟨wo, rfl⟩ : ∃ wo : World, wo = wr := ⟨_, rfl⟩
    have HO := Lib.hid hown; clear hown
    have HRS := Lib.hid hrecs; clear hrecs
    have hszo := hbr.size
    have hszW := HBW.out.size
    have f387 : wo.cell? ⟨w.heap.size, 387, none⟩ = some (.slice ra d.recs.length rcap) := ((HRW.out.below hbr HRW.out.lt).cell 387).trans h387
    by_cases hgo : k < d.recs.length ∧ k < 10
    · obtain ⟨hlt, hlt10⟩ := hgo
      obtain ⟨lb, off, rcs, rfl, hlb, hrange, hrs, hrec⟩ := HRC.out k hlt
      have HR := Lib.hid (rangeAt_below (HBW.out.trans (hbr.mono hszW)) hlb hrange); clear hrange
      have hszr : (Tryz.prog.info? 34).map (·.size) = some rcs.size := by rw [hrs]; exact size_rec
      have hoR : ∀ u ∈ rcs.toList, u.oneCell' = true := fun u hu => Array.all_eq_true_iff_forall_mem.1 hrec.1 u (by simpa using hu)
      have HOR := Lib.hid hoR; clear hoR
      have HREC := Lib.hid hrec; clear hrec
      have hd10 : decide ((k : Int) < 10) = true := by simp; omega
      have hl6 : rcs.toList.length = 1 * 261 := by simpa using hrs
      have HL6 := Lib.hid hl6; clear hl6
      have hb7 := (Below.refl wo.heap.size wo).alloc (Nat.le_refl _) (.cells rcs 34)
      have HO7 := Lib.hid (ownsRow_low HO.out hb7)
      have hbr7 := hbr.trans (hb7.mono hszo)
      go_wp2_with (first | (refine wpList_load_arr rfl 34 _ rfl _ _ rfl rcs _ HR.out Tryz.underlying34 rfl hszr ?_) | (refine wpList_build_one rfl 26 34 _ rfl rcs rfl ir zr 261 Tryz.underlying26 hir hzr hirs hrs (by decide) (by decide) ?_) | (at_builtin; refine wpList_append_own _ rfl _ _ 26 rfl W2.heap.size 34 ir zr 261 328 Tryz.underlying26 hir hzr hirs hirb hzrc (by decide) u6 k xs rfl HO7.out ⟨_, 0, none⟩ 1 1 rcs.toList rfl HL6.out (news_new _ _ _) HOR.out ?c3 ?c4 ?c5 ?_))
      case c3 => unfold maxLen; omega
      case c4 => omega
      case c5 => simp; omega
      intro v8 w8 hown8 hgrow8 _
      have HR8 := Lib.hid (recs_step HO7.out.1 HRS.out hlt (by rw [Array.length_toList]; exact hrs) (by simpa using HREC.out))
      have hbr8 := hbr7.grown hgrow8 (by simp; omega) (fun q hq => ownsRow_ge HO7.out q hq)
      have HO8 := Lib.hid hown8; clear hown8
      clear f387
      go_wp2_with fail
      go_roundw
      case rel => exact ⟨k + 1, _, hlt, hlt10, by go_num, HO8.out, HR8.out, hbr8⟩
      case measure => simp [intOf] <;> omega
    · have hX3 := HXW.out.below hbr HXW.out.lt
      have hkk : k = (cutR d).recs.length := by simp only [cutR, List.length_take]; omega
      obtain ⟨la, ln, lcap, rfl⟩ := ownsRow_slice3 HO.out
      have i387 : wo.cell? ⟨w.heap.size + 1, 387, none⟩ = some (.slice ra d.recs.length rcap) := by
        rw [hX3.cell 387, Array.getElem?_setIfInBounds_ne (by omega)]; exact h387
      have z387 := hX3.frozen 387
      have hX4 := hX3.set 387 (.slice la ln lcap)
      have hb4 : Below w.heap.size w (wo.setCell ⟨w.heap.size + 1, 387, none⟩ (.slice la ln lcap)) := (HBW.out.trans (hbr.mono hszW)).setCell (p := ⟨_, _, none⟩) (by simp) _
      have ho4 : (wo.setCell ⟨w.heap.size + 1, 387, none⟩ (.slice la ln lcap)).ownsRow W2.heap.size 34 261 (.slice la ln lcap) (cutR d).recs.length xs := ownsRow_cast hkk rfl (ownsRow_set HO.out hX3 (by decide) _)
      have ha4 : AccsO (wo.setCell ⟨w.heap.size + 1, 387, none⟩ (.slice la ln lcap)) (.slice aa' n' acap') (cutR d).alloc := (HAW.out.low hbr).set hX3 _
      generalize hW4 : wo.setCell ⟨w.heap.size + 1, 387, none⟩ (.slice la ln lcap) = W4 at *
      have HW4 := Lib.hid hW4; clear hW4
      have hr4 : RdS W4.heap.size W4 261 (RecC W4.heap.size W4) (.slice la ln lcap) (cutR d).recs := RdS_own ho4 (by omega) fun i hi => by
        have hi' : i < d.recs.length := by simp only [cutR, List.length_take] at hi; omega
        have := ((HRS.out i hi' (by omega)).below hb4).mono hb4.size
        simpa [cutR] using this
      have hres : ResC W4.heap.size W4 ((cs.setIfInBounds 388 (.slice aa' n' acap')).setIfInBounds 387 (.slice la ln lcap)) (cutR d) := by
        refine res_new HV.out (by simp [hcs]) (fun i hi => ?_) ?_ ?_ hr4 ha4.rd
        · rw [Array.getElem?_setIfInBounds_ne (by omega), Array.getElem?_setIfInBounds_ne (by omega)]
        · rw [Array.getElem?_setIfInBounds_self_of_lt (by simp; omega)]
        · rw [Array.getElem?_setIfInBounds_ne (by omega), Array.getElem?_setIfInBounds_self_of_lt (by omega)]
      have hs4 : ((cs.setIfInBounds 388 (.slice aa' n' acap')).setIfInBounds 387 (.slice la ln lcap)).size = 389 := by simp [hcs]
      generalize hcs4 : (cs.setIfInBounds 388 (.slice aa' n' acap')).setIfInBounds 387 (.slice la ln lcap) = cs4 at *
      have HS4 := Lib.hid hs4
      have HRES := Lib.hid (fun w' (hb : Below W4.heap.size W4 w') => hres.later hb)
      have hld : ∀ w', Below W4.heap.size W4 w' → w'.rangeAt (w.heap.size + 1) 0 cs4.toList := fun w' hb => (hX4.below hb hX4.lt).all
      have HLD := Lib.hid hld; clear hld
      have HB4 := Lib.hid hb4; clear hb4
      have HL2 : (ansOK (cutR d)).length ≤ 2 ^ 40 := Nat.le_trans HLEN.out (by omega)
      have HL := Lib.hid HL2; clear HL2
      have HH12 := Lib.hid (And.intro h1 h2)
      have HX4 := Lib.hid hX4
      have HKK := Lib.hid hkk
      clear hX4 hX3 ho4 ha4 hr4 hres hcs4 hkk h1 h2 hs4 HV HCL HAW HRS h388 h387 HO
      by_cases hlt : k < d.recs.length
      · have hd10 : decide ((k : Int) < 10) = false := by simp; omega
        clear hgo
        go_wp2_with fail
        rw [HW4.out]
        have c0 : Below W4.heap.size W4 W4.drew := Below.drew (Below.refl _ W4)
        refine wp_region_held_drew (S := fun w' => Below W4.heap.size W4 w') (by kernel_rfl) c0 (fun hHeld => ?_)
        refine wpAnyH_take (i := 0) (oi := { dst := some 34, op := .load 29 (.tmp 5), type := 29, pos := "law.go:85", after := #[], guard := none }) rfl (by kernel_rfl) (by kernel_rfl) (by kernel_rfl) (fun _ _ _ h => h) (yieldsIf_load_mid (by rfl) 29 _ rfl _ _ rfl cs4.toList _ HLD.out Tryz.underlying29 rfl (by rw [Array.length_toList, HS4.out]; exact size_res)) hHeld ?_
        simp only [Act.put, List.setIfInBounds_toArray, List.set_cons_zero, List.set_cons_succ]
        simp only [Array.toArray_toList]
        refine wpAnyH_take (i := 1) (oi := { dst := some 35, op := .move (.tmp 1), type := 3, pos := "law.go:85", after := #[], guard := none }) (v := .int .i64 e) rfl (by kernel_rfl) (by kernel_rfl) (by kernel_rfl) (fun _ _ _ h => h) (Or.inl ⟨by rfl, fun wz hSw => by go_simp⟩) hHeld ?_
        simp only [Act.put, List.setIfInBounds_toArray, List.set_cons_zero, List.set_cons_succ]
        refine wpAnyH_take (i := 3) (oi := { dst := some 37, op := .load 29 (.tmp 5), type := 29, pos := "law.go:85", after := #[], guard := none }) rfl (by kernel_rfl) (by kernel_rfl) (by kernel_rfl) (fun _ _ _ h => h) (yieldsIf_load_mid (by rfl) 29 _ rfl _ _ rfl cs4.toList _ HLD.out Tryz.underlying29 rfl (by rw [Array.length_toList, HS4.out]; exact size_res)) hHeld ?_
        simp only [Act.put, List.setIfInBounds_toArray, List.set_cons_zero, List.set_cons_succ]
        simp only [Array.toArray_toList]
        refine wpAnyH_take (i := 4) (oi := { dst := some 38, op := .move (.tmp 1), type := 3, pos := "law.go:85", after := #[], guard := none }) (v := .int .i64 e) rfl (by kernel_rfl) (by kernel_rfl) (by kernel_rfl) (fun _ _ _ h => h) (Or.inl ⟨by rfl, fun wz hSw => by go_simp⟩) hHeld ?_
        simp only [Act.put, List.setIfInBounds_toArray, List.set_cons_zero, List.set_cons_succ]
        refine wpAnyH_ready (rs := [2]) (by kernel_rfl) (by simp) ?_
        refine AllReadyH.cons (o := { dst := some 36, op := .call { callee := .value (.func 5), args := #[.tmp 34, .tmp 35], argTypes := #[29, 36] }, type := 9, pos := "law.go:85", after := #[⟨0, .data⟩, ⟨1, .data⟩], guard := none }) rfl (fun K hK => ?_) AllReadyH.nil
        go_simp
        refine (alloc_Answer W4.drew cs4 (cutR d) e (HSP.out.below (HB4.out.trans (c0.mono HB4.out.size))) HH12.out.1 HH12.out.2 (HRES.out _ c0) HL.out).mono ?_
        rintro r x1 ⟨rfl, b⟩
        have c1 := c0.trans (b.mono c0.size)
        clear b
        go_wp2_with fail
        refine hK.out _ _ c1 (fun hHeld => ?_)
        clear hK K
        try simp only [Act.put, List.setIfInBounds_toArray, List.set_cons_zero, List.set_cons_succ]
        refine wpAnyH_ready (rs := [5]) (by kernel_rfl) (by simp) ?_
        refine AllReadyH.cons (o := { dst := some 39, op := .call { callee := .value (.func 6), args := #[.tmp 37, .tmp 38], argTypes := #[29, 3] }, type := 9, pos := "law.go:85", after := #[⟨3, .data⟩, ⟨4, .data⟩, ⟨2, .chain⟩], guard := none }) rfl (fun K hK => ?_) AllReadyH.nil
        go_simp
        refine (ref_Answer x1 cs4 (cutR d) e (HRES.out _ c1) HL.out).mono ?_
        rintro r x2 ⟨rfl, b⟩
        have c2 := c1.trans (b.mono c1.size)
        clear b
        go_wp2_with fail
        refine hK.out _ _ c2 (fun hHeld => ?_)
        clear hK K
        try simp only [Act.put, List.setIfInBounds_toArray, List.set_cons_zero, List.set_cons_succ]
        refine wpAnyH_take (i := 6) (oi := { dst := some 40, op := .binOp .eql 9 (.tmp 36) (.tmp 39) 9, type := 4, pos := "law.go:85", after := #[⟨2, .data⟩, ⟨5, .data⟩], guard := none }) (v := .bool true) rfl (by kernel_rfl) (by kernel_rfl) (by kernel_rfl) (fun _ _ _ h => h) (Or.inl ⟨by rfl, fun wz hSw => by go_simp⟩) hHeld ?_
        simp only [Act.put, List.setIfInBounds_toArray, List.set_cons_zero, List.set_cons_succ]
        refine wpAnyH_take (i := 7) (oi := { dst := some 41, op := .move (.tmp 40), type := 4, pos := "law.go:85", after := #[⟨6, .data⟩, ⟨5, .chain⟩], guard := none }) (v := .bool true) rfl (by kernel_rfl) (by kernel_rfl) (by kernel_rfl) (fun _ _ _ h => h) (Or.inl ⟨by rfl, fun wz hSw => by go_simp⟩) hHeld ?_
        simp only [Act.put, List.setIfInBounds_toArray, List.set_cons_zero, List.set_cons_succ]
        refine wpAnyH_ready (rs := [8]) (by kernel_rfl) (by simp) ?_
        refine AllReadyH.cons (o := { dst := some 42, op := .call { callee := .value (.func 7), args := #[], argTypes := #[] }, type := 4, pos := "law.go:85", after := #[⟨7, .chain⟩, ⟨7, .guard⟩], guard := some (7, true) }) rfl (fun K hK => ?_) AllReadyH.nil
        go_simp
        refine (law23_wakes x2 (HM.out.below (HB4.out.trans (c2.mono HB4.out.size))) (HSP.out.below (HB4.out.trans (c2.mono HB4.out.size)))).mono ?_
        rintro r x3 ⟨rfl, b⟩
        have c3 := c2.trans (b.mono c2.size)
        clear b
        go_wp2_with fail
        refine hK.out _ _ c3 (fun hHeld => ?_)
        clear hK K
        try simp only [Act.put, List.setIfInBounds_toArray, List.set_cons_zero, List.set_cons_succ]
        refine wpAnyH_take (i := 9) (oi := { dst := some 43, op := .pick (.tmp 41) (.tmp 42) (.const (.bool false)), type := 4, pos := "law.go:85", after := #[⟨7, .data⟩, ⟨8, .data⟩], guard := none }) (v := .bool true) rfl (by kernel_rfl) (by kernel_rfl) (by kernel_rfl) (fun _ _ _ h => h) (Or.inl ⟨by rfl, fun wz hSw => by go_simp⟩) hHeld ?_
        simp only [Act.put, List.setIfInBounds_toArray, List.set_cons_zero, List.set_cons_succ]
        refine wpAnyH_take (i := 10) (oi := { dst := some 4, op := .assign (.tmp 43), type := 4, pos := "law.go:85", after := #[⟨9, .data⟩, ⟨8, .chain⟩, ⟨0, .phase⟩, ⟨1, .phase⟩, ⟨2, .phase⟩, ⟨3, .phase⟩, ⟨4, .phase⟩, ⟨5, .phase⟩, ⟨6, .phase⟩, ⟨7, .phase⟩, ⟨8, .phase⟩, ⟨9, .phase⟩], guard := none }) (v := .bool true) rfl (by kernel_rfl) (by kernel_rfl) (by kernel_rfl) (fun _ _ _ h => h) (Or.inl ⟨by rfl, fun wz hSw => by go_simp⟩) hHeld ?_
        simp only [Act.put, List.setIfInBounds_toArray, List.set_cons_zero, List.set_cons_succ]
        refine wpAnyH_done (by kernel_rfl) ?_ _
        go_wp2_with fail
        go_ret
        exact ⟨rfl, HB4.out.trans (c3.mono HB4.out.size)⟩
      · have hdl : decide (k < d.recs.length) = false := by simp; omega
        clear hgo
        go_wp2_with fail
        rw [HW4.out]
        have c0 : Below W4.heap.size W4 W4.drew := Below.drew (Below.refl _ W4)
        refine wp_region_held_drew (S := fun w' => Below W4.heap.size W4 w') (by kernel_rfl) c0 (fun hHeld => ?_)
        refine wpAnyH_take (i := 0) (oi := { dst := some 34, op := .load 29 (.tmp 5), type := 29, pos := "law.go:85", after := #[], guard := none }) rfl (by kernel_rfl) (by kernel_rfl) (by kernel_rfl) (fun _ _ _ h => h) (yieldsIf_load_mid (by rfl) 29 _ rfl _ _ rfl cs4.toList _ HLD.out Tryz.underlying29 rfl (by rw [Array.length_toList, HS4.out]; exact size_res)) hHeld ?_
        simp only [Act.put, List.setIfInBounds_toArray, List.set_cons_zero, List.set_cons_succ]
        simp only [Array.toArray_toList]
        refine wpAnyH_take (i := 1) (oi := { dst := some 35, op := .move (.tmp 1), type := 3, pos := "law.go:85", after := #[], guard := none }) (v := .int .i64 e) rfl (by kernel_rfl) (by kernel_rfl) (by kernel_rfl) (fun _ _ _ h => h) (Or.inl ⟨by rfl, fun wz hSw => by go_simp⟩) hHeld ?_
        simp only [Act.put, List.setIfInBounds_toArray, List.set_cons_zero, List.set_cons_succ]
        refine wpAnyH_take (i := 3) (oi := { dst := some 37, op := .load 29 (.tmp 5), type := 29, pos := "law.go:85", after := #[], guard := none }) rfl (by kernel_rfl) (by kernel_rfl) (by kernel_rfl) (fun _ _ _ h => h) (yieldsIf_load_mid (by rfl) 29 _ rfl _ _ rfl cs4.toList _ HLD.out Tryz.underlying29 rfl (by rw [Array.length_toList, HS4.out]; exact size_res)) hHeld ?_
        simp only [Act.put, List.setIfInBounds_toArray, List.set_cons_zero, List.set_cons_succ]
        simp only [Array.toArray_toList]
        refine wpAnyH_take (i := 4) (oi := { dst := some 38, op := .move (.tmp 1), type := 3, pos := "law.go:85", after := #[], guard := none }) (v := .int .i64 e) rfl (by kernel_rfl) (by kernel_rfl) (by kernel_rfl) (fun _ _ _ h => h) (Or.inl ⟨by rfl, fun wz hSw => by go_simp⟩) hHeld ?_
        simp only [Act.put, List.setIfInBounds_toArray, List.set_cons_zero, List.set_cons_succ]
        refine wpAnyH_ready (rs := [2]) (by kernel_rfl) (by simp) ?_
        refine AllReadyH.cons (o := { dst := some 36, op := .call { callee := .value (.func 5), args := #[.tmp 34, .tmp 35], argTypes := #[29, 36] }, type := 9, pos := "law.go:85", after := #[⟨0, .data⟩, ⟨1, .data⟩], guard := none }) rfl (fun K hK => ?_) AllReadyH.nil
        go_simp
        refine (alloc_Answer W4.drew cs4 (cutR d) e (HSP.out.below (HB4.out.trans (c0.mono HB4.out.size))) HH12.out.1 HH12.out.2 (HRES.out _ c0) HL.out).mono ?_
        rintro r x1 ⟨rfl, b⟩
        have c1 := c0.trans (b.mono c0.size)
        clear b
        go_wp2_with fail
        refine hK.out _ _ c1 (fun hHeld => ?_)
        clear hK K
        try simp only [Act.put, List.setIfInBounds_toArray, List.set_cons_zero, List.set_cons_succ]
        refine wpAnyH_ready (rs := [5]) (by kernel_rfl) (by simp) ?_
        refine AllReadyH.cons (o := { dst := some 39, op := .call { callee := .value (.func 6), args := #[.tmp 37, .tmp 38], argTypes := #[29, 3] }, type := 9, pos := "law.go:85", after := #[⟨3, .data⟩, ⟨4, .data⟩, ⟨2, .chain⟩], guard := none }) rfl (fun K hK => ?_) AllReadyH.nil
        go_simp
        refine (ref_Answer x1 cs4 (cutR d) e (HRES.out _ c1) HL.out).mono ?_
        rintro r x2 ⟨rfl, b⟩
        have c2 := c1.trans (b.mono c1.size)
        clear b
        go_wp2_with fail
        refine hK.out _ _ c2 (fun hHeld => ?_)
        clear hK K
        try simp only [Act.put, List.setIfInBounds_toArray, List.set_cons_zero, List.set_cons_succ]
        refine wpAnyH_take (i := 6) (oi := { dst := some 40, op := .binOp .eql 9 (.tmp 36) (.tmp 39) 9, type := 4, pos := "law.go:85", after := #[⟨2, .data⟩, ⟨5, .data⟩], guard := none }) (v := .bool true) rfl (by kernel_rfl) (by kernel_rfl) (by kernel_rfl) (fun _ _ _ h => h) (Or.inl ⟨by rfl, fun wz hSw => by go_simp⟩) hHeld ?_
        simp only [Act.put, List.setIfInBounds_toArray, List.set_cons_zero, List.set_cons_succ]
        refine wpAnyH_take (i := 7) (oi := { dst := some 41, op := .move (.tmp 40), type := 4, pos := "law.go:85", after := #[⟨6, .data⟩, ⟨5, .chain⟩], guard := none }) (v := .bool true) rfl (by kernel_rfl) (by kernel_rfl) (by kernel_rfl) (fun _ _ _ h => h) (Or.inl ⟨by rfl, fun wz hSw => by go_simp⟩) hHeld ?_
        simp only [Act.put, List.setIfInBounds_toArray, List.set_cons_zero, List.set_cons_succ]
        refine wpAnyH_ready (rs := [8]) (by kernel_rfl) (by simp) ?_
        refine AllReadyH.cons (o := { dst := some 42, op := .call { callee := .value (.func 7), args := #[], argTypes := #[] }, type := 4, pos := "law.go:85", after := #[⟨7, .chain⟩, ⟨7, .guard⟩], guard := some (7, true) }) rfl (fun K hK => ?_) AllReadyH.nil
        go_simp
        refine (law23_wakes x2 (HM.out.below (HB4.out.trans (c2.mono HB4.out.size))) (HSP.out.below (HB4.out.trans (c2.mono HB4.out.size)))).mono ?_
        rintro r x3 ⟨rfl, b⟩
        have c3 := c2.trans (b.mono c2.size)
        clear b
        go_wp2_with fail
        refine hK.out _ _ c3 (fun hHeld => ?_)
        clear hK K
        try simp only [Act.put, List.setIfInBounds_toArray, List.set_cons_zero, List.set_cons_succ]
        refine wpAnyH_take (i := 9) (oi := { dst := some 43, op := .pick (.tmp 41) (.tmp 42) (.const (.bool false)), type := 4, pos := "law.go:85", after := #[⟨7, .data⟩, ⟨8, .data⟩], guard := none }) (v := .bool true) rfl (by kernel_rfl) (by kernel_rfl) (by kernel_rfl) (fun _ _ _ h => h) (Or.inl ⟨by rfl, fun wz hSw => by go_simp⟩) hHeld ?_
        simp only [Act.put, List.setIfInBounds_toArray, List.set_cons_zero, List.set_cons_succ]
        refine wpAnyH_take (i := 10) (oi := { dst := some 4, op := .assign (.tmp 43), type := 4, pos := "law.go:85", after := #[⟨9, .data⟩, ⟨8, .chain⟩, ⟨0, .phase⟩, ⟨1, .phase⟩, ⟨2, .phase⟩, ⟨3, .phase⟩, ⟨4, .phase⟩, ⟨5, .phase⟩, ⟨6, .phase⟩, ⟨7, .phase⟩, ⟨8, .phase⟩, ⟨9, .phase⟩], guard := none }) (v := .bool true) rfl (by kernel_rfl) (by kernel_rfl) (by kernel_rfl) (fun _ _ _ h => h) (Or.inl ⟨by rfl, fun wz hSw => by go_simp⟩) hHeld ?_
        simp only [Act.put, List.setIfInBounds_toArray, List.set_cons_zero, List.set_cons_succ]
        refine wpAnyH_done (by kernel_rfl) ?_ _
        go_wp2_with fail
        go_ret
        exact ⟨rfl, HB4.out.trans (c3.mono HB4.out.size)⟩
end Go.Proofs.YtlcokkiohilmlaaGreatDoor
