import Derived.Test.YtlcokkiohilmlaaGreatDoorQy
namespace Go.Proofs.YtlcokkiohilmlaaGreatDoor
open Go.RowKit

theorem RdB.below {w w' : World} {v : Value} {l : List UInt8} (h : RdB w v l) (hb : Below w.heap.size w w') : RdB w' v l := by
  obtain ⟨a, cap, hv, hc⟩ := h
  refine ⟨a, cap, hv, fun i hi => ?_⟩
  obtain ⟨b, off, ha, hcell⟩ := hc i hi
  exact ⟨b, off, ha, cell_later hb hcell⟩

/-- v reads as the bytes l, in blocks below B -/
def RdU (B : Nat) (w : World) (v : Value) (l : List UInt8) : Prop :=
  ∃ a cap, v = .slice a l.length cap ∧ ∀ i (h : i < l.length), ∃ b off, a = some ⟨b, off, none⟩ ∧ b < B ∧ w.cell? ⟨b, off + i, none⟩ = some (.int .u8 l[i].toNat)
theorem RdU.rd {B : Nat} {w : World} {v : Value} {l : List UInt8} (h : RdU B w v l) : RdB w v l := by
  obtain ⟨a, cap, hv, hc⟩ := h
  refine ⟨a, cap, hv, fun i hi => ?_⟩
  obtain ⟨b, off, ha, _, hcell⟩ := hc i hi
  exact ⟨b, off, ha, hcell⟩
theorem RdB.up {w : World} {v : Value} {l : List UInt8} (h : RdB w v l) : RdU w.heap.size w v l := by
  obtain ⟨a, cap, hv, hc⟩ := h
  refine ⟨a, cap, hv, fun i hi => ?_⟩
  obtain ⟨b, off, ha, hcell⟩ := hc i hi
  exact ⟨b, off, ha, cell_lt hcell, hcell⟩
theorem RdU.below {B : Nat} {w w' : World} {v : Value} {l : List UInt8} (h : RdU B w v l) (hb : Below B w w') : RdU B w' v l := by
  obtain ⟨a, cap, hv, hc⟩ := h
  refine ⟨a, cap, hv, fun i hi => ?_⟩
  obtain ⟨b, off, ha, hlt, hcell⟩ := hc i hi
  exact ⟨b, off, ha, hlt, (hb.cell (p := ⟨b, off + i, none⟩) hlt).trans hcell⟩
theorem RdU.mono {B B' : Nat} {w : World} {v : Value} {l : List UInt8} (h : RdU B w v l) (hB : B ≤ B') : RdU B' w v l := by
  obtain ⟨a, cap, hv, hc⟩ := h
  refine ⟨a, cap, hv, fun i hi => ?_⟩
  obtain ⟨b, off, ha, hlt, hcell⟩ := hc i hi
  exact ⟨b, off, ha, by omega, hcell⟩

/-- a piece of a line, and its text -/
inductive Pc (B : Nat) (w : World) : Value → List UInt8 → Prop
  | str (s : List UInt8) : Pc B w (.iface 9 (.string ⟨s.toArray⟩)) s
  | num (n : Nat) (hn : n < 2 ^ 64) : Pc B w (.iface 22 (.int .u64 n)) (quant n)
  | word (n : Nat) (hn : n < 2 ^ 256) : Pc B w (.iface 43 (.agg (wcells n))) (quant n)
  | addr (l : List UInt8) (hl : l.length = 20) : Pc B w (.iface 41 (.agg (bytesV l))) (text l)
  | hash (l : List UInt8) (hl : l.length = 32) : Pc B w (.iface 24 (.agg (bytesV l))) (text l)
  | bytes (v : Value) (l : List UInt8) (hv : RdU B w v l) (hl : l.length ≤ 2 ^ 40) : Pc B w (.iface 31 v) (text l)
theorem Pc.below {B : Nat} {w w' : World} {v : Value} {l : List UInt8} (h : Pc B w v l) (hb : Below B w w') : Pc B w' v l := by
  cases h with
  | str _ => exact .str _
  | num n hn => exact .num n hn
  | word n hn => exact .word n hn
  | addr l hl => exact .addr l hl
  | hash l hl => exact .hash l hl
  | bytes v l hv hl => exact .bytes v l (hv.below hb) hl

@[go_sem] theorem as_s_s (v : Value) (w : World) : (Instr.typeAssert (.iface 9 v) 20 9 true).run Tryz.prog w = .ok (.tuple #[v, .bool true]) w := by kernel_rfl
@[go_sem] theorem as_n_s (v : Value) (w : World) : (Instr.typeAssert (.iface 22 v) 20 9 true).run Tryz.prog w = .ok (.tuple #[.string .empty, .bool false]) w := by kernel_rfl
@[go_sem] theorem as_n_n (v : Value) (w : World) : (Instr.typeAssert (.iface 22 v) 20 22 true).run Tryz.prog w = .ok (.tuple #[v, .bool true]) w := by kernel_rfl
@[go_sem] theorem as_w_s (v : Value) (w : World) : (Instr.typeAssert (.iface 43 v) 20 9 true).run Tryz.prog w = .ok (.tuple #[.string .empty, .bool false]) w := by kernel_rfl
@[go_sem] theorem as_w_n (v : Value) (w : World) : (Instr.typeAssert (.iface 43 v) 20 22 true).run Tryz.prog w = .ok (.tuple #[.int .u64 0, .bool false]) w := by kernel_rfl
@[go_sem] theorem as_w_w (v : Value) (w : World) : (Instr.typeAssert (.iface 43 v) 20 43 true).run Tryz.prog w = .ok (.tuple #[v, .bool true]) w := by kernel_rfl
@[go_sem] theorem as_a_s (v : Value) (w : World) : (Instr.typeAssert (.iface 41 v) 20 9 true).run Tryz.prog w = .ok (.tuple #[.string .empty, .bool false]) w := by kernel_rfl
@[go_sem] theorem as_a_n (v : Value) (w : World) : (Instr.typeAssert (.iface 41 v) 20 22 true).run Tryz.prog w = .ok (.tuple #[.int .u64 0, .bool false]) w := by kernel_rfl
@[go_sem] theorem as_a_w (v : Value) (w : World) : (Instr.typeAssert (.iface 41 v) 20 43 true).run Tryz.prog w = .ok (.tuple #[.agg #[.int .u64 0, .int .u64 0, .int .u64 0, .int .u64 0], .bool false]) w := by kernel_rfl
@[go_sem] theorem as_a_a (v : Value) (w : World) : (Instr.typeAssert (.iface 41 v) 20 41 true).run Tryz.prog w = .ok (.tuple #[v, .bool true]) w := by kernel_rfl
@[go_sem] theorem as_h_s (v : Value) (w : World) : (Instr.typeAssert (.iface 24 v) 20 9 true).run Tryz.prog w = .ok (.tuple #[.string .empty, .bool false]) w := by kernel_rfl
@[go_sem] theorem as_h_n (v : Value) (w : World) : (Instr.typeAssert (.iface 24 v) 20 22 true).run Tryz.prog w = .ok (.tuple #[.int .u64 0, .bool false]) w := by kernel_rfl
@[go_sem] theorem as_h_w (v : Value) (w : World) : (Instr.typeAssert (.iface 24 v) 20 43 true).run Tryz.prog w = .ok (.tuple #[.agg #[.int .u64 0, .int .u64 0, .int .u64 0, .int .u64 0], .bool false]) w := by kernel_rfl
@[go_sem] theorem as_h_a (v : Value) (w : World) : (Instr.typeAssert (.iface 24 v) 20 41 true).run Tryz.prog w = .ok (.tuple #[.agg #[.int .u8 0, .int .u8 0, .int .u8 0, .int .u8 0, .int .u8 0, .int .u8 0, .int .u8 0, .int .u8 0, .int .u8 0, .int .u8 0, .int .u8 0, .int .u8 0, .int .u8 0, .int .u8 0, .int .u8 0, .int .u8 0, .int .u8 0, .int .u8 0, .int .u8 0, .int .u8 0], .bool false]) w := by kernel_rfl
@[go_sem] theorem as_h_h (v : Value) (w : World) : (Instr.typeAssert (.iface 24 v) 20 24 true).run Tryz.prog w = .ok (.tuple #[v, .bool true]) w := by kernel_rfl
@[go_sem] theorem as_b_s (v : Value) (w : World) : (Instr.typeAssert (.iface 31 v) 20 9 true).run Tryz.prog w = .ok (.tuple #[.string .empty, .bool false]) w := by kernel_rfl
@[go_sem] theorem as_b_n (v : Value) (w : World) : (Instr.typeAssert (.iface 31 v) 20 22 true).run Tryz.prog w = .ok (.tuple #[.int .u64 0, .bool false]) w := by kernel_rfl
@[go_sem] theorem as_b_w (v : Value) (w : World) : (Instr.typeAssert (.iface 31 v) 20 43 true).run Tryz.prog w = .ok (.tuple #[.agg #[.int .u64 0, .int .u64 0, .int .u64 0, .int .u64 0], .bool false]) w := by kernel_rfl
@[go_sem] theorem as_b_a (v : Value) (w : World) : (Instr.typeAssert (.iface 31 v) 20 41 true).run Tryz.prog w = .ok (.tuple #[.agg #[.int .u8 0, .int .u8 0, .int .u8 0, .int .u8 0, .int .u8 0, .int .u8 0, .int .u8 0, .int .u8 0, .int .u8 0, .int .u8 0, .int .u8 0, .int .u8 0, .int .u8 0, .int .u8 0, .int .u8 0, .int .u8 0, .int .u8 0, .int .u8 0, .int .u8 0, .int .u8 0], .bool false]) w := by kernel_rfl
@[go_sem] theorem as_b_h (v : Value) (w : World) : (Instr.typeAssert (.iface 31 v) 20 24 true).run Tryz.prog w = .ok (.tuple #[.agg #[.int .u8 0, .int .u8 0, .int .u8 0, .int .u8 0, .int .u8 0, .int .u8 0, .int .u8 0, .int .u8 0, .int .u8 0, .int .u8 0, .int .u8 0, .int .u8 0, .int .u8 0, .int .u8 0, .int .u8 0, .int .u8 0, .int .u8 0, .int .u8 0, .int .u8 0, .int .u8 0, .int .u8 0, .int .u8 0, .int .u8 0, .int .u8 0, .int .u8 0, .int .u8 0, .int .u8 0, .int .u8 0, .int .u8 0, .int .u8 0, .int .u8 0, .int .u8 0], .bool false]) w := by kernel_rfl
@[go_sem] theorem as_b_b (v : Value) (w : World) : (Instr.typeAssert (.iface 31 v) 20 31 false).run Tryz.prog w = .ok v w := by kernel_rfl

theorem wcells_small (n : Nat) (hn : n < 2 ^ 64) : wcells n = #[.int .u64 n, .int .u64 0, .int .u64 0, .int .u64 0] := by
  have h : ∀ i, 1 ≤ i → limb n i = 0 := fun i hi => by
    unfold limb
    rw [Nat.div_eq_of_lt (Nat.lt_of_lt_of_le hn (Nat.pow_le_pow_right (by decide) (by omega)))]
  have h0 : limb n 0 = n := by simp [limb, Nat.mod_eq_of_lt hn]
  simp [wcells, h 1 (by decide), h 2 (by decide), h 3 (by decide), h0]
theorem size_word : (Tryz.prog.info? 43).map (·.size) = some 4 := by kernel_rfl
theorem size_addr : (Tryz.prog.info? 41).map (·.size) = some 20 := by kernel_rfl
theorem size_hash : (Tryz.prog.info? 24).map (·.size) = some 32 := by kernel_rfl
set_option maxHeartbeats 400000 in
theorem word_Of (n : Nat) (hn : n < 2 ^ 64) (w : World) :
    Calls Tryz.prog 34 #[.int .u64 n] w fun e w' => e = .returned (.agg (wcells n)) ∧ Below w.heap.size w w' := by
  have hw := wcells_small n hn
  have HW := Lib.hid hw; clear hw
  go_enter Tryz.func34, Tryz.ntmps34
  go_wp2_with fail
  refine bodyPost_ret (v := .agg #[.int .u64 n, .int .u64 0, .int .u64 0, .int .u64 0]) (by simp [results, Tryz.results34, go_sem]) rfl ⟨by rw [HW.out], ?_⟩
  repeat (first | exact Below.refl _ _ | refine Below.setCell ?_ (by simp) _ | refine Below.alloc ?_ (by simp) _)
set_option maxRecDepth 100000 in
set_option maxHeartbeats 800000 in
theorem written_str (s : List UInt8) (w : World) :
    Calls Tryz.prog 23 #[.iface 9 (.string ⟨s.toArray⟩)] w fun e w' => e = .returned (.string ⟨s.toArray⟩) ∧ Below w.heap.size w w' := by
  go_enter Tryz.func23, Tryz.ntmps23
  go_wp2_with fail
  go_ret
  exact ⟨rfl, Below.refl _ _⟩
set_option maxRecDepth 100000 in
set_option maxHeartbeats 800000 in
theorem written_num (n : Nat) (hn : n < 2 ^ 64) (w : World) :
    Calls Tryz.prog 23 #[.iface 22 (.int .u64 n)] w fun e w' => e = .returned (.string ⟨(quant n).toArray⟩) ∧ Below w.heap.size w w' := by
  go_enter Tryz.func23, Tryz.ntmps23
  go_wp2_with fail
  refine (word_Of n hn _).mono ?_
  rintro e w1 ⟨rfl, b1⟩
  go_wp2_with fail
  refine (hexa_Quantity n _ (Nat.lt_trans hn (by decide))).mono ?_
  rintro e w2 ⟨rfl, b2⟩
  go_wp2_with fail
  go_ret
  exact ⟨rfl, b1.trans (b2.mono b1.size)⟩
set_option maxRecDepth 100000 in
set_option maxHeartbeats 800000 in
theorem written_word (n : Nat) (hn : n < 2 ^ 256) (w : World) :
    Calls Tryz.prog 23 #[.iface 43 (.agg (wcells n))] w fun e w' => e = .returned (.string ⟨(quant n).toArray⟩) ∧ Below w.heap.size w w' := by
  have hsz : (Tryz.prog.info? 43).map (·.size) = some (wcells n).size := size_word
  have hone : (wcells n).all (·.oneCell') = true := by simp [wcells, Value.oneCell']
  go_enter Tryz.func23, Tryz.ntmps23
  go_wp2_with (first | (refine wpList_store_mid rfl 43 _ _ rfl _ _ (wcells n) rfl rfl ?h1 hsz hone ?_; (case h1 => exact (Blk.new _ _ _).there 0 _ (by rw [wcells_size]; exact Nat.le_refl _))) | (refine wpList_load_arr rfl 43 _ rfl _ _ rfl (wcells n) _ ?h2 Tryz.underlying43 rfl hsz ?_; (case h2 => exact ((Blk.new _ _ _).sets_all (by rw [wcells_size]; rfl)).all)))
  generalize hw1 : World.setCells _ _ _ _ = w1
  obtain ⟨_, hs1, hbel, _⟩ := stored_new hw1 (by rw [wcells_size]; rfl)
  have b1 := hbel _ _ (Below.refl w.heap.size w) (Nat.le_refl _)
  clear hw1 hbel
  refine (hexa_Quantity n _ hn).mono ?_
  rintro e w2 ⟨rfl, b2⟩
  go_wp2_with fail
  go_ret
  exact ⟨rfl, b1.trans (b2.mono b1.size)⟩
theorem RdB_blk {w : World} {b : Nat} {l : List UInt8} {T : TypeId} (h : Blk w b (bytesV l) T) : RdB w (.slice (some ⟨b, 0, none⟩) l.length l.length) l :=
  ⟨_, _, rfl, fun i hi => ⟨b, 0, rfl, by rw [Nat.zero_add, h.cell]; exact bytesV_get l i hi⟩⟩
set_option maxRecDepth 100000 in
set_option maxHeartbeats 800000 in
theorem written_addr (l : List UInt8) (hl : l.length = 20) (w : World) :
    Calls Tryz.prog 23 #[.iface 41 (.agg (bytesV l))] w fun e w' => e = .returned (.string ⟨(text l).toArray⟩) ∧ Below w.heap.size w w' := by
  have h20 : (bytesV l).size = 20 := by rw [bytesV_size, hl]
  have hsz : (Tryz.prog.info? 41).map (·.size) = some (bytesV l).size := by rw [h20]; exact size_addr
  have hone : (bytesV l).all (·.oneCell') = true := bytesV_one l
  have H20 := Lib.hid h20; clear h20
  go_enter Tryz.func23, Tryz.ntmps23
  go_wp2_with (first | (refine wpList_store_mid rfl 41 _ _ rfl _ _ (bytesV l) rfl rfl ?h1 hsz hone ?_; (case h1 => exact (Blk.new _ _ _).there 0 _ (by rw [H20.out]; exact Nat.le_refl _))))
  generalize hw1 : World.setCells _ _ _ _ = w1
  obtain ⟨hN, hs1, hbel, _⟩ := stored_new hw1 (by rw [H20.out]; rfl)
  have b1 := hbel _ _ (Below.refl w.heap.size w) (Nat.le_refl _)
  clear hw1 hbel
  refine (Text _ l _ (by have := RdB_blk hN; rwa [hl] at this) (by omega)).mono ?_
  rintro e w2 ⟨rfl, b2⟩
  go_wp2_with fail
  go_ret
  exact ⟨rfl, b1.trans (b2.mono b1.size)⟩
set_option maxRecDepth 100000 in
set_option maxHeartbeats 800000 in
theorem written_hash (l : List UInt8) (hl : l.length = 32) (w : World) :
    Calls Tryz.prog 23 #[.iface 24 (.agg (bytesV l))] w fun e w' => e = .returned (.string ⟨(text l).toArray⟩) ∧ Below w.heap.size w w' := by
  have h32 : (bytesV l).size = 32 := by rw [bytesV_size, hl]
  have hsz : (Tryz.prog.info? 24).map (·.size) = some (bytesV l).size := by rw [h32]; exact size_hash
  have hone : (bytesV l).all (·.oneCell') = true := bytesV_one l
  have H32 := Lib.hid h32; clear h32
  go_enter Tryz.func23, Tryz.ntmps23
  go_wp2_with (first | (refine wpList_store_mid rfl 24 _ _ rfl _ _ (bytesV l) rfl rfl ?h1 hsz hone ?_; (case h1 => exact (Blk.new _ _ _).there 0 _ (by rw [H32.out]; exact Nat.le_refl _))))
  generalize hw1 : World.setCells _ _ _ _ = w1
  obtain ⟨hN, hs1, hbel, _⟩ := stored_new hw1 (by rw [H32.out]; rfl)
  have b1 := hbel _ _ (Below.refl w.heap.size w) (Nat.le_refl _)
  clear hw1 hbel
  refine (Text _ l _ (by have := RdB_blk hN; rwa [hl] at this) (by omega)).mono ?_
  rintro e w2 ⟨rfl, b2⟩
  go_wp2_with fail
  go_ret
  exact ⟨rfl, b1.trans (b2.mono b1.size)⟩
set_option maxRecDepth 100000 in
set_option maxHeartbeats 800000 in
theorem written_bytes (v : Value) (l : List UInt8) (w : World) (hv : RdB w v l) (hl : l.length ≤ 2 ^ 40) :
    Calls Tryz.prog 23 #[.iface 31 v] w fun e w' => e = .returned (.string ⟨(text l).toArray⟩) ∧ Below w.heap.size w w' := by
  go_enter Tryz.func23, Tryz.ntmps23
  go_wp2_with fail
  refine (Text v l _ hv hl).mono ?_
  rintro e w2 ⟨rfl, b2⟩
  go_wp2_with fail
  go_ret
  exact ⟨rfl, b2⟩
theorem written_any (B : Nat) (w : World) (v : Value) (l : List UInt8) (h : Pc B w v l) :
    Calls Tryz.prog 23 #[v] w fun e w' => e = .returned (.string ⟨l.toArray⟩) ∧ Below w.heap.size w w' := by
  cases h with
  | str s => exact written_str _ w
  | num n hn => exact written_num n hn w
  | word n hn => exact written_word n hn w
  | addr l hl => exact written_addr l hl w
  | hash l hl => exact written_hash l hl w
  | bytes v l hv hl => exact written_bytes v l w hv.rd hl
end Go.Proofs.YtlcokkiohilmlaaGreatDoor
