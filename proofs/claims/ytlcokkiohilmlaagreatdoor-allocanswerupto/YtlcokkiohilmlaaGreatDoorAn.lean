import Derived.Test.YtlcokkiohilmlaaGreatDoorWo
namespace Go.Proofs.YtlcokkiohilmlaaGreatDoor
open Go.RowKit
structure ResD where
  number : Nat
  hash : List UInt8
  state : List UInt8
  txs : List UInt8
  rroot : List UInt8
  bloom : List UInt8
  gas : Nat
  blob : Nat
  recs : List RecD
  alloc : List AccD
def ResC (B : Nat) (w : World) (cs : Array Value) (d : ResD) : Prop :=
  cs.size = 389 ∧ cs[0]? = some (.int .u64 d.number) ∧ d.number < 2 ^ 64 ∧ (d.hash.length = 32 ∧ cs.extract 1 33 = bytesV d.hash) ∧ (d.state.length = 32 ∧ cs.extract 33 65 = bytesV d.state) ∧
    (d.txs.length = 32 ∧ cs.extract 65 97 = bytesV d.txs) ∧ (d.rroot.length = 32 ∧ cs.extract 97 129 = bytesV d.rroot) ∧ (d.bloom.length = 256 ∧ cs.extract 129 385 = bytesV d.bloom) ∧
    cs[385]? = some (.int .u64 d.gas) ∧ d.gas < 2 ^ 64 ∧ cs[386]? = some (.int .u64 d.blob) ∧ d.blob < 2 ^ 64 ∧ (∃ rv, cs[387]? = some rv ∧ RdS B w 261 (RecC B w) rv d.recs) ∧ ∃ av, cs[388]? = some av ∧ RdS B w 27 (AccC B w) av d.alloc
def ansOK (d : ResD) : List UInt8 := [] ++ lineS [[97, 99, 99, 101, 112, 116, 101, 100], quant d.number] ++ lineS [[104, 97, 115, 104], text d.hash] ++ lineS [[115, 116, 97, 116, 101], text d.state] ++ lineS [[116, 114, 97, 110, 115, 97, 99, 116, 105, 111, 110, 115], text d.txs] ++ lineS [[114, 101, 99, 101, 105, 112, 116, 115], text d.rroot] ++ lineS [[98, 108, 111, 111, 109], text d.bloom] ++ lineS [[103, 97, 115], quant d.gas] ++ lineS [[98, 108, 111, 98, 103, 97, 115], quant d.blob] ++ recsS d.recs ++ accsS d.alloc
def ansNo (e : Int) : List UInt8 := [] ++ lineS [[114, 101, 106, 101, 99, 116, 101, 100], wordS e]
/-- what a block led to, as a text -/
def ansS (d : ResD) (e : Int) : List UInt8 := if e = 0 then ansOK d else ansNo e
theorem RdU_of_blk {w : World} {B bl : Nat} {cs : Array Value} {T : TypeId} {l : List UInt8} {o : Nat} (h : Blk w bl cs T) (hlt : bl < B) (he : cs.extract o (o + l.length) = bytesV l) :
    RdU B w (.slice (some ⟨bl, o, none⟩) l.length l.length) l := by
  refine ⟨_, _, rfl, fun i hi => ⟨bl, o, rfl, hlt, ?_⟩⟩
  have h1 := h.range o l.length (i) (.int .u8 l[i].toNat) (by rw [he, Array.getElem?_toList]; exact bytesV_get l i hi)
  exact h1
theorem RdS.mono {α : Type} {B B' : Nat} {w : World} {size : Nat} {P Q : Array Value → α → Prop} {v : Value} {ds : List α} (h : RdS B w size P v ds) (hB : B ≤ B') (hPQ : ∀ cs d, P cs d → Q cs d) : RdS B' w size Q v ds := by
  obtain ⟨a, cap, hv, hc⟩ := h
  refine ⟨a, cap, hv, fun i hi => ?_⟩
  obtain ⟨b, off, cs, ha, hlt, hr, hs, hp⟩ := hc i hi
  exact ⟨b, off, cs, ha, by omega, hr, hs, hPQ _ _ hp⟩
theorem LogC.mono {B B' : Nat} {w : World} {cs : Array Value} {d : LogD} (h : LogC B w cs d) (hB : B ≤ B') : LogC B' w cs d := by
  obtain ⟨h0, h1, h2, ⟨tv, h3, h4⟩, dv, h5, h6⟩ := h
  exact ⟨h0, h1, h2, ⟨tv, h3, h4.mono hB (fun _ _ h => h)⟩, dv, h5, h6.mono hB⟩
theorem RecC.mono {B B' : Nat} {w : World} {cs : Array Value} {d : RecD} (h : RecC B w cs d) (hB : B ≤ B') : RecC B' w cs d := by
  obtain ⟨h0, ⟨rv, h1, h2⟩, h3, h4, h5, lv, h6, h7⟩ := h
  exact ⟨h0, ⟨rv, h1, h2.mono hB⟩, h3, h4, h5, lv, h6, h7.mono hB (fun _ _ h => h.mono hB)⟩
theorem AccC.mono {B B' : Nat} {w : World} {cs : Array Value} {d : AccD} (h : AccC B w cs d) (hB : B ≤ B') : AccC B' w cs d := by
  obtain ⟨h0, h1, h2, h3, h4, h5, h6, ⟨cv, h7, h8⟩, sv, h9, h10⟩ := h
  exact ⟨h0, h1, h2, h3, h4, h5, h6, ⟨cv, h7, h8.mono hB⟩, sv, h9, h10.mono hB (fun _ _ h => h)⟩
theorem fresh77 (w : World) : Lib.IsBuilder 52 5 w.heap.size w.heap.size [] (w.alloc (.cells #[.pointer none, .slice none 0 0] 52)) := Lib.fresh_isBuilder 52 5 w
theorem fresh77' {w : World} {g : Nat} (hg : g = w.heap.size) : Lib.IsBuilder 52 5 g g (Lib.byteCells []) (w.alloc (.cells #[.pointer none, .slice none 0 0] 52)) := by
  subst hg; exact fresh77 w
theorem size_b256 : (Tryz.prog.info? 25).map (·.size) = some 256 := by kernel_rfl
theorem al_b256 : Tryz.prog.arrayLen 25 = 256 := by kernel_rfl
theorem el_b256 : Tryz.prog.elem 25 = 5 := by kernel_rfl

set_option maxRecDepth 100000 in
set_option maxHeartbeats 3200000 in
theorem alloc_Answer_ok (w : World) (cs : Array Value) (d : ResD) (hv : ResC w.heap.size w cs d) (hlen : (ansOK d).length ≤ 2 ^ 40) :
    Calls Tryz.prog 5 #[.agg cs, .int .i64 0] w fun e w' => e = .returned (.string ⟨(ansOK d).toArray⟩) ∧ Below w.heap.size w w' := by
  obtain ⟨hcs, k0, n0, ⟨l1, x1⟩, ⟨l2, x2⟩, ⟨l3, x3⟩, ⟨l4, x4⟩, ⟨l5, x5⟩, k6, n6, k7, n7, ⟨rv, k8, hrec⟩, av, k9, hacc⟩ := hv
  have hN := Blk.new w cs 29
  have hB0 := fresh77' (w := w.alloc (.cells cs 29)) (g := w.heap.size + 1) (by simp)
  have hb0 : Below w.heap.size w (w.alloc (.cells cs 29)) := (Below.refl _ _).alloc (Nat.le_refl _) _
  have hbw0 : Below w.heap.size w ((w.alloc (.cells cs 29)).alloc (.cells #[.pointer none, .slice none 0 0] 52)) := hb0.alloc (by simp) _
  have hN0 := hN.alloc (.cells #[.pointer none, .slice none 0 0] 52)
  have HLEN := Lib.hid hlen; clear hlen
  have X1 := Lib.hid x1; clear x1
  have X2 := Lib.hid x2; clear x2
  have X3 := Lib.hid x3; clear x3
  have X4 := Lib.hid x4; clear x4
  have X5 := Lib.hid x5; clear x5
  have HREC := Lib.hid ((hrec.below hbw0 (fun _ _ h => h.below hbw0)).mono (Nat.le_succ _) (fun _ _ h => h.mono (Nat.le_succ _)))
  have HACC := Lib.hid ((hacc.below hbw0 (fun _ _ h => h.below hbw0)).mono (Nat.le_succ _) (fun _ _ h => h.mono (Nat.le_succ _)))
  clear hrec hacc hb0 hN
  obtain ⟨w0, hw0⟩ : ∃ w0 : World, w0 = (w.alloc (.cells cs 29)).alloc (.cells #[.pointer none, .slice none 0 0] 52) := ⟨_, rfl⟩
  rw [← hw0] at hB0 hN0 hbw0 HREC HACC
  have hs0 : w0.heap.size = w.heap.size + 2 := by rw [hw0]; simp
  have HW0 := Lib.hid hw0; clear hw0
  have H0 := Lib.hid hB0; clear hB0
  have hsA : (Tryz.prog.info? 25).map (·.size) = some 256 := size_b256
  go_enter Tryz.func5, Tryz.ntmps5
  have CELL0 := (hN0.cell 0).trans k0
  rw [HW0.out] at CELL0
  go_wp2_with fail
  rw [← HW0.out]
  have hPs0 : Pcs (w.heap.size + 1) (w.heap.size + 1) (w0.alloc (.cells ([.iface 9 (.string ⟨#[97, 99, 99, 101, 112, 116, 101, 100]⟩), .iface 22 (.int .u64 d.number)] : List Value).toArray 20)) (.slice (some ⟨w.heap.size + 1 + 1, 0, none⟩) 2 2) [[97, 99, 99, 101, 112, 116, 101, 100], quant d.number] := Pcs_new _ [.iface 9 (.string ⟨#[97, 99, 99, 101, 112, 116, 101, 100]⟩), .iface 22 (.int .u64 d.number)] _ rfl (by omega) (by omega) (by omega) ⟨rfl, fun i h1 h2 => match i, h1, h2 with | 0, _, _ => .str [97, 99, 99, 101, 112, 116, 101, 100] | 1, _, _ => .num _ n0⟩
  refine (text_line (w.heap.size + 1) (w.heap.size + 1) _ _ _ _ (IsBuilder_below H0.out ((Below.refl _ _).alloc (Nat.le_refl _) _)) hPs0 (by simp; omega) (by have := HLEN.out; simp only [ansOK, List.length_append] at this ⊢; omega)).mono ?_
  rintro e w1 ⟨rfl, h, bb, -⟩
  have H1 := Lib.hid (show Lib.IsBuilder 52 5 _ _ _ w1 from .inr h); clear h
  have hb1 : Below (w.heap.size + 1) w0 w1 := (((Below.refl _ _).alloc (by omega) _).trans bb)
  have hN1 := hN0.below hb1 (Nat.lt_succ_self _)
  have hs1 := hb1.size
  have hbw1 := hbw0.trans (hb1.mono (Nat.le_succ _))
  have hT1 := hb1
  clear bb hPs0 hN0 CELL0
  have hsz1 : (Tryz.prog.info? 24).map (·.size) = some (bytesV d.hash).size := by rw [bytesV_size, l1]; exact size_hash
  go_wp2_with (first | (refine wpList_load_arr rfl 24 _ rfl _ 1 rfl (bytesV d.hash) _ ?h2 Tryz.underlying24 rfl hsz1 ?_; (case h2 => rw [← X1.out]; exact hN1.range 1 32)))
  have hPs1 : Pcs (w.heap.size + 1) (w.heap.size + 1) (w1.alloc (.cells ([.iface 9 (.string ⟨#[104, 97, 115, 104]⟩), .iface 24 (.agg (bytesV d.hash))] : List Value).toArray 20)) (.slice (some ⟨w1.heap.size, 0, none⟩) 2 2) [[104, 97, 115, 104], text d.hash] := Pcs_new _ [.iface 9 (.string ⟨#[104, 97, 115, 104]⟩), .iface 24 (.agg (bytesV d.hash))] _ rfl (by omega) (by omega) (by omega) ⟨rfl, fun i h1 h2 => match i, h1, h2 with | 0, _, _ => .str [104, 97, 115, 104] | 1, _, _ => .hash _ l1⟩
  refine (text_line (w.heap.size + 1) (w.heap.size + 1) _ _ _ _ (IsBuilder_below H1.out ((Below.refl _ _).alloc (Nat.le_refl _) _)) hPs1 (by simp; omega) (by have := HLEN.out; simp only [ansOK, List.length_append] at this ⊢; omega)).mono ?_
  rintro e w2 ⟨rfl, h, bb, -⟩
  have H2 := Lib.hid (show Lib.IsBuilder 52 5 _ _ _ w2 from .inr h); clear h
  have hb2 : Below (w.heap.size + 1) w1 w2 := (((Below.refl _ _).alloc (by omega) _).trans bb)
  have hN2 := hN1.below hb2 (Nat.lt_succ_self _)
  have hs2 := hb2.size
  have hbw2 := hbw1.trans (hb2.mono (Nat.le_succ _))
  have hT2 := hT1.trans hb2
  clear bb hPs1 hN1 hsz1
  have hsz2 : (Tryz.prog.info? 24).map (·.size) = some (bytesV d.state).size := by rw [bytesV_size, l2]; exact size_hash
  go_wp2_with (first | (refine wpList_load_arr rfl 24 _ rfl _ 33 rfl (bytesV d.state) _ ?h2 Tryz.underlying24 rfl hsz2 ?_; (case h2 => rw [← X2.out]; exact hN2.range 33 32)))
  have hPs2 : Pcs (w.heap.size + 1) (w.heap.size + 1) (w2.alloc (.cells ([.iface 9 (.string ⟨#[115, 116, 97, 116, 101]⟩), .iface 24 (.agg (bytesV d.state))] : List Value).toArray 20)) (.slice (some ⟨w2.heap.size, 0, none⟩) 2 2) [[115, 116, 97, 116, 101], text d.state] := Pcs_new _ [.iface 9 (.string ⟨#[115, 116, 97, 116, 101]⟩), .iface 24 (.agg (bytesV d.state))] _ rfl (by omega) (by omega) (by omega) ⟨rfl, fun i h1 h2 => match i, h1, h2 with | 0, _, _ => .str [115, 116, 97, 116, 101] | 1, _, _ => .hash _ l2⟩
  refine (text_line (w.heap.size + 1) (w.heap.size + 1) _ _ _ _ (IsBuilder_below H2.out ((Below.refl _ _).alloc (Nat.le_refl _) _)) hPs2 (by simp; omega) (by have := HLEN.out; simp only [ansOK, List.length_append] at this ⊢; omega)).mono ?_
  rintro e w3 ⟨rfl, h, bb, -⟩
  have H3 := Lib.hid (show Lib.IsBuilder 52 5 _ _ _ w3 from .inr h); clear h
  have hb3 : Below (w.heap.size + 1) w2 w3 := (((Below.refl _ _).alloc (by omega) _).trans bb)
  have hN3 := hN2.below hb3 (Nat.lt_succ_self _)
  have hs3 := hb3.size
  have hbw3 := hbw2.trans (hb3.mono (Nat.le_succ _))
  have hT3 := hT2.trans hb3
  clear bb hPs2 hN2 hsz2
  have hsz3 : (Tryz.prog.info? 24).map (·.size) = some (bytesV d.txs).size := by rw [bytesV_size, l3]; exact size_hash
  go_wp2_with (first | (refine wpList_load_arr rfl 24 _ rfl _ 65 rfl (bytesV d.txs) _ ?h2 Tryz.underlying24 rfl hsz3 ?_; (case h2 => rw [← X3.out]; exact hN3.range 65 32)))
  have hPs3 : Pcs (w.heap.size + 1) (w.heap.size + 1) (w3.alloc (.cells ([.iface 9 (.string ⟨#[116, 114, 97, 110, 115, 97, 99, 116, 105, 111, 110, 115]⟩), .iface 24 (.agg (bytesV d.txs))] : List Value).toArray 20)) (.slice (some ⟨w3.heap.size, 0, none⟩) 2 2) [[116, 114, 97, 110, 115, 97, 99, 116, 105, 111, 110, 115], text d.txs] := Pcs_new _ [.iface 9 (.string ⟨#[116, 114, 97, 110, 115, 97, 99, 116, 105, 111, 110, 115]⟩), .iface 24 (.agg (bytesV d.txs))] _ rfl (by omega) (by omega) (by omega) ⟨rfl, fun i h1 h2 => match i, h1, h2 with | 0, _, _ => .str [116, 114, 97, 110, 115, 97, 99, 116, 105, 111, 110, 115] | 1, _, _ => .hash _ l3⟩
  refine (text_line (w.heap.size + 1) (w.heap.size + 1) _ _ _ _ (IsBuilder_below H3.out ((Below.refl _ _).alloc (Nat.le_refl _) _)) hPs3 (by simp; omega) (by have := HLEN.out; simp only [ansOK, List.length_append] at this ⊢; omega)).mono ?_
  rintro e w4 ⟨rfl, h, bb, -⟩
  have H4 := Lib.hid (show Lib.IsBuilder 52 5 _ _ _ w4 from .inr h); clear h
  have hb4 : Below (w.heap.size + 1) w3 w4 := (((Below.refl _ _).alloc (by omega) _).trans bb)
  have hN4 := hN3.below hb4 (Nat.lt_succ_self _)
  have hs4 := hb4.size
  have hbw4 := hbw3.trans (hb4.mono (Nat.le_succ _))
  have hT4 := hT3.trans hb4
  clear bb hPs3 hN3 hsz3
  have hsz4 : (Tryz.prog.info? 24).map (·.size) = some (bytesV d.rroot).size := by rw [bytesV_size, l4]; exact size_hash
  go_wp2_with (first | (refine wpList_load_arr rfl 24 _ rfl _ 97 rfl (bytesV d.rroot) _ ?h2 Tryz.underlying24 rfl hsz4 ?_; (case h2 => rw [← X4.out]; exact hN4.range 97 32)))
  have hPs4 : Pcs (w.heap.size + 1) (w.heap.size + 1) (w4.alloc (.cells ([.iface 9 (.string ⟨#[114, 101, 99, 101, 105, 112, 116, 115]⟩), .iface 24 (.agg (bytesV d.rroot))] : List Value).toArray 20)) (.slice (some ⟨w4.heap.size, 0, none⟩) 2 2) [[114, 101, 99, 101, 105, 112, 116, 115], text d.rroot] := Pcs_new _ [.iface 9 (.string ⟨#[114, 101, 99, 101, 105, 112, 116, 115]⟩), .iface 24 (.agg (bytesV d.rroot))] _ rfl (by omega) (by omega) (by omega) ⟨rfl, fun i h1 h2 => match i, h1, h2 with | 0, _, _ => .str [114, 101, 99, 101, 105, 112, 116, 115] | 1, _, _ => .hash _ l4⟩
  refine (text_line (w.heap.size + 1) (w.heap.size + 1) _ _ _ _ (IsBuilder_below H4.out ((Below.refl _ _).alloc (Nat.le_refl _) _)) hPs4 (by simp; omega) (by have := HLEN.out; simp only [ansOK, List.length_append] at this ⊢; omega)).mono ?_
  rintro e w5 ⟨rfl, h, bb, -⟩
  have H5 := Lib.hid (show Lib.IsBuilder 52 5 _ _ _ w5 from .inr h); clear h
  have hb5 : Below (w.heap.size + 1) w4 w5 := (((Below.refl _ _).alloc (by omega) _).trans bb)
  have hN5 := hN4.below hb5 (Nat.lt_succ_self _)
  have hs5 := hb5.size
  have hbw5 := hbw4.trans (hb5.mono (Nat.le_succ _))
  have hT5 := hT4.trans hb5
  clear bb hPs4 hN4 hsz4
  have hbloom : RdU (w.heap.size + 1) w5 (.slice (some ⟨w.heap.size, 129, none⟩) 256 256) d.bloom := by
    have h := RdU_of_blk (l := d.bloom) (o := 129) hN5 (Nat.lt_succ_self _) (by rw [l5]; exact X5.out)
    rwa [l5] at h
  obtain ⟨SL, hSL, hSLe⟩ := run_sliceAt_all (P := Tryz.prog) Tryz.underlying25 size_u8 al_b256 el_b256 ⟨w.heap.size, 129, none⟩
  go_wp2_with fail
  have hPs5 : Pcs (w.heap.size + 1) (w.heap.size + 1) (w5.alloc (.cells ([.iface 9 (.string ⟨#[98, 108, 111, 111, 109]⟩), .iface 31 (.slice (some ⟨w.heap.size, 129, none⟩) 256 256)] : List Value).toArray 20)) (.slice (some ⟨w5.heap.size, 0, none⟩) 2 2) [[98, 108, 111, 111, 109], text d.bloom] := Pcs_new _ [.iface 9 (.string ⟨#[98, 108, 111, 111, 109]⟩), .iface 31 (.slice (some ⟨w.heap.size, 129, none⟩) 256 256)] _ rfl (by omega) (by omega) (by omega) ⟨rfl, fun i h1 h2 => match i, h1, h2 with | 0, _, _ => .str [98, 108, 111, 111, 109] | 1, _, _ => .bytes _ _ hbloom (by omega)⟩
  refine (text_line (w.heap.size + 1) (w.heap.size + 1) _ _ _ _ (IsBuilder_below H5.out ((Below.refl _ _).alloc (Nat.le_refl _) _)) hPs5 (by simp; omega) (by have := HLEN.out; simp only [ansOK, List.length_append] at this ⊢; omega)).mono ?_
  rintro e w6 ⟨rfl, h, bb, -⟩
  have H6 := Lib.hid (show Lib.IsBuilder 52 5 _ _ _ w6 from .inr h); clear h
  have hb6 : Below (w.heap.size + 1) w5 w6 := (((Below.refl _ _).alloc (by omega) _).trans bb)
  have hN6 := hN5.below hb6 (Nat.lt_succ_self _)
  have hs6 := hb6.size
  have hbw6 := hbw5.trans (hb6.mono (Nat.le_succ _))
  have hT6 := hT5.trans hb6
  clear bb hPs5 hN5
  have CELL6 := (hN6.cell 385).trans k6
  go_wp2_with fail
  have hPs6 : Pcs (w.heap.size + 1) (w.heap.size + 1) (w6.alloc (.cells ([.iface 9 (.string ⟨#[103, 97, 115]⟩), .iface 22 (.int .u64 d.gas)] : List Value).toArray 20)) (.slice (some ⟨w6.heap.size, 0, none⟩) 2 2) [[103, 97, 115], quant d.gas] := Pcs_new _ [.iface 9 (.string ⟨#[103, 97, 115]⟩), .iface 22 (.int .u64 d.gas)] _ rfl (by omega) (by omega) (by omega) ⟨rfl, fun i h1 h2 => match i, h1, h2 with | 0, _, _ => .str [103, 97, 115] | 1, _, _ => .num _ n6⟩
  refine (text_line (w.heap.size + 1) (w.heap.size + 1) _ _ _ _ (IsBuilder_below H6.out ((Below.refl _ _).alloc (Nat.le_refl _) _)) hPs6 (by simp; omega) (by have := HLEN.out; simp only [ansOK, List.length_append] at this ⊢; omega)).mono ?_
  rintro e w7 ⟨rfl, h, bb, -⟩
  have H7 := Lib.hid (show Lib.IsBuilder 52 5 _ _ _ w7 from .inr h); clear h
  have hb7 : Below (w.heap.size + 1) w6 w7 := (((Below.refl _ _).alloc (by omega) _).trans bb)
  have hN7 := hN6.below hb7 (Nat.lt_succ_self _)
  have hs7 := hb7.size
  have hbw7 := hbw6.trans (hb7.mono (Nat.le_succ _))
  have hT7 := hT6.trans hb7
  clear bb hPs6 hN6 CELL6
  have CELL7 := (hN7.cell 386).trans k7
  go_wp2_with fail
  have hPs7 : Pcs (w.heap.size + 1) (w.heap.size + 1) (w7.alloc (.cells ([.iface 9 (.string ⟨#[98, 108, 111, 98, 103, 97, 115]⟩), .iface 22 (.int .u64 d.blob)] : List Value).toArray 20)) (.slice (some ⟨w7.heap.size, 0, none⟩) 2 2) [[98, 108, 111, 98, 103, 97, 115], quant d.blob] := Pcs_new _ [.iface 9 (.string ⟨#[98, 108, 111, 98, 103, 97, 115]⟩), .iface 22 (.int .u64 d.blob)] _ rfl (by omega) (by omega) (by omega) ⟨rfl, fun i h1 h2 => match i, h1, h2 with | 0, _, _ => .str [98, 108, 111, 98, 103, 97, 115] | 1, _, _ => .num _ n7⟩
  refine (text_line (w.heap.size + 1) (w.heap.size + 1) _ _ _ _ (IsBuilder_below H7.out ((Below.refl _ _).alloc (Nat.le_refl _) _)) hPs7 (by simp; omega) (by have := HLEN.out; simp only [ansOK, List.length_append] at this ⊢; omega)).mono ?_
  rintro e w8 ⟨rfl, h, bb, -⟩
  have H8 := Lib.hid (show Lib.IsBuilder 52 5 _ _ _ w8 from .inr h); clear h
  have hb8 : Below (w.heap.size + 1) w7 w8 := (((Below.refl _ _).alloc (by omega) _).trans bb)
  have hN8 := hN7.below hb8 (Nat.lt_succ_self _)
  have hs8 := hb8.size
  have hbw8 := hbw7.trans (hb8.mono (Nat.le_succ _))
  have hT8 := hT7.trans hb8
  clear bb hPs7 hN7 CELL7
  have CELL8 := (hN8.cell 387).trans k8
  go_wp2_with fail
  refine (text_receipts (w.heap.size + 1) (w.heap.size + 1) _ _ _ d.recs H8.out (HREC.out.below hT8 (fun _ _ h => h.below hT8)) (by omega) (by have := HLEN.out; simp only [ansOK, List.length_append] at this ⊢; omega)).mono ?_
  rintro e w9 ⟨rfl, h, bb, -⟩
  have H9 := Lib.hid h; clear h
  have hN9 := hN8.below bb (Nat.lt_succ_self _)
  have CELL9 := (hN9.cell 388).trans k9
  have hs9 := bb.size
  have hT9 := hT8.trans bb
  have hbw9 := hbw8.trans (bb.mono (Nat.le_succ _))
  clear bb CELL8
  go_wp2_with fail
  refine (text_accounts (w.heap.size + 1) (w.heap.size + 1) _ _ _ d.alloc H9.out (HACC.out.below hT9 (fun _ _ h => h.below hT9)) (by omega) (by have := HLEN.out; simp only [ansOK, List.length_append] at this ⊢; omega)).mono ?_
  rintro e w10 ⟨rfl, h, bb, -⟩
  have H10 := Lib.hid h; clear h
  have hs10 := bb.size
  have hbw10 := hbw9.trans (bb.mono (Nat.le_succ _))
  clear bb CELL9
  go_wp2_with fail
  refine (Str_any (T := 52) (.inr rfl) (w.heap.size + 1) (w.heap.size + 1) _ _ H10.out (by omega)).mono ?_
  rintro e w11 ⟨rfl, bb⟩
  have hbw11 := hbw10.trans (bb.mono (Nat.le_succ _))
  go_wp2_with fail
  go_ret
  refine ⟨?_, hbw11⟩
  first | (simp only [ansOK]; rfl) | (simp [ansOK]; done) | (simp only [ansOK, List.nil_append, List.append_assoc]; rfl)
end Go.Proofs.YtlcokkiohilmlaaGreatDoor
