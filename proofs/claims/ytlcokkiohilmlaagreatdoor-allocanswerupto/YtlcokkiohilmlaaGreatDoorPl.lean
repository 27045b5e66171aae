import Derived.Test.YtlcokkiohilmlaaGreatDoorRd
import Derived.Test.YtlcokkiohilmlaaGreatDoorAo
namespace Go.Proofs.YtlcokkiohilmlaaGreatDoor
open Go.RowKit
set_option maxRecDepth 100000 in
set_option maxHeartbeats 1600000 in
theorem alloc_Play_empty (w : World) (hm : Mx w) (hs : Sp w) :
    Calls Tryz.prog 20 #[.string ⟨#[]⟩] w fun e w' => e = .returned (.string ⟨#[102, 97, 117, 108, 116, 32, 109, 105, 115, 115, 105, 110, 103, 32, 48, 120, 49, 10]⟩) ∧ Below w.heap.size w w' := by
  go_enter Tryz.func20, Tryz.ntmps20
  go_wp2_with fail
  refine (alloc_Read_empty w hm).mono ?_
  rintro e w1 ⟨rfl, b1⟩
  have hszI : (Tryz.prog.info? 92).map (·.size) = some Tryz.zeroCells92.size := by kernel_rfl
  have honI : Tryz.zeroCells92.all (·.oneCell') = true := by kernel_rfl
  have gI := (Blk.new w1 Tryz.zeroCells92 92).alloc (.cells #[.int .i64 0, .int .i64 0] 94)
  have thI := gI.there 0 Tryz.zeroCells92.size (by omega)
  go_wp2_with (first | (refine wpList_store_mid rfl 92 _ _ rfl _ _ Tryz.zeroCells92 rfl rfl thI hszI honI ?_; generalize hws : World.setCells _ _ _ _ = ws; have gF : Blk ws (w1.heap.size + 1) #[.int .i64 0, .int .i64 0] 94 := (by rw [← hws]; exact (Blk.new' (by simp) _ _).sets_ne _ _ _ (by omega)); have e0 : ws.cell? ⟨w1.heap.size + 1, 0, none⟩ = some (.int .i64 0) := gF.cell 0; have e1 : ws.cell? ⟨w1.heap.size + 1, 1, none⟩ = some (.int .i64 0) := gF.cell 1; have z0 := gF.frozen 0; have z1 := gF.frozen 1))
  have hbs : Below w.heap.size w ws := by rw [← hws]; exact Below.setCells ((b1.alloc b1.size _).alloc (by have := b1.size; simp; omega) _) b1.size _ _
  generalize hwf : World.setCell (World.setCell ws _ _) _ _ = wf
  have gF2 : Blk wf (w1.heap.size + 1) #[.int .i64 8, .int .i64 1] 94 := by rw [← hwf]; exact (gF.set 0 _).set 1 _
  have hbf : Below w.heap.size w wf := by
    rw [← hwf]
    have := b1.size
    exact (hbs.setCell (p := ⟨_, _, none⟩) (by simp; omega) _).setCell (p := ⟨_, _, none⟩) (by simp; omega) _
  have hsf : wf.heap.size = ws.heap.size := by rw [← hwf]; simp [World.setCell]
  rw [← hsf] at *
  clear hwf hws gF e0 e1 z0 z1 hbs gI thI
  have f0 : (wf.alloc (.cells #[.pointer none, .slice none 0 0] 52)).cell? ⟨w1.heap.size + 1, 0, none⟩ = some (.int .i64 8) := (gF2.alloc _).cell 0
  have f1 : (wf.alloc (.cells #[.pointer none, .slice none 0 0] 52)).cell? ⟨w1.heap.size + 1, 1, none⟩ = some (.int .i64 1) := (gF2.alloc _).cell 1
  generalize hW4 : wf.alloc (.cells #[.pointer none, .slice none 0 0] 52) = W4 at *
  have hb4 : Below w.heap.size w W4 := by rw [← hW4]; exact hbf.alloc (by have := hbf.size; omega) _
  have hs4 : Sp W4.drew := hs.below (hb4.trans (Below.drew (Below.refl _ _)))
  have hB4 : Lib.IsBuilder 52 5 wf.heap.size wf.heap.size (Lib.byteCells []) W4 := by rw [← hW4]; exact fresh77' rfl
  have hs4z : W4.heap.size = wf.heap.size + 1 := by rw [← hW4]; simp
  have hwrap : IntKind.u64.wrap 1 = 1 := by decide
  have HQ := Lib.hid (show quant 1 = [48, 120, 49] by decide)
  have HWD := Lib.hid (show wordS 8 = [109, 105, 115, 115, 105, 110, 103] by decide)
  go_region_with (first | (go_at_call 10; refine (alloc_Word 8 _ hs4 (by omega) (by omega)).mono ?_; rintro r w5 ⟨rfl, b5⟩; have f5 : w5.cell? ⟨w1.heap.size + 1, 1, none⟩ = some (.int .i64 1) := (b5.cell (p := ⟨_, _, none⟩) (cell_lt f1)).trans f1; have hB5 := IsBuilder_below hB4 ((Below.drew (Below.refl _ W4)).trans b5)) | (go_at_call 9; have hPs : Pcs wf.heap.size wf.heap.size (w5.alloc (.cells ([.iface 9 (.string ⟨#[102, 97, 117, 108, 116]⟩), .iface 9 (.string ⟨(wordS 8).toArray⟩), .iface 22 (.int .u64 (1 : Nat))] : List Value).toArray 20)) (.slice (some ⟨w5.heap.size, 0, none⟩) 3 3) [[102, 97, 117, 108, 116], wordS 8, quant 1] := (Pcs_new _ [.iface 9 (.string ⟨#[102, 97, 117, 108, 116]⟩), .iface 9 (.string ⟨(wordS 8).toArray⟩), .iface 22 (.int .u64 (1 : Nat))] _ rfl rfl (by have := b5.size; simp at this; omega) (by have := b5.size; simp at this; omega) ⟨rfl, fun i h1 h2 => match i, h1, h2 with | 0, _, _ => .str [102, 97, 117, 108, 116] | 1, _, _ => .str _ | 2, _, _ => .num 1 (by decide)⟩); refine (text_line wf.heap.size wf.heap.size _ _ _ _ (IsBuilder_below hB5 ((Below.refl _ _).alloc (Nat.le_refl _) _)) hPs (by have := b5.size; simp at this ⊢; omega) (by rw [HQ.out, HWD.out]; decide)).mono ?_; rintro r w6 ⟨rfl, h6, b6, -⟩))
  all_goals
    have H6 := Lib.hid (show Lib.IsBuilder 52 5 _ _ _ w6 from .inr h6); clear h6
    have hsz5 : wf.heap.size + 1 ≤ w5.heap.size := by have := b5.size; simp at this; omega
    have hbw5 : Below w.heap.size w w5 := (hb4.trans (Below.drew (Below.refl _ _))).trans (b5.mono (by have := hb4.size; simp; omega))
    have hbw6 := (hbw5.alloc hbw5.size _).trans (b6.mono (by have := hbf.size; omega))
    have hsz6 := b6.size
    clear b5 b6 hbw5
    go_wp2_with fail
    refine (Str_any (T := 52) (.inr rfl) wf.heap.size wf.heap.size _ _ H6.out (by simp at hsz6; omega)).mono ?_
    rintro r w7 ⟨rfl, b7⟩
    have hbw7 := hbw6.trans (b7.mono hbf.size)
    go_wp2_with fail
    go_ret
    refine ⟨?_, hbw7⟩
    rw [HQ.out, HWD.out]
    rfl
end Go.Proofs.YtlcokkiohilmlaaGreatDoor
