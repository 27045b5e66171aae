import Derived.Test.YtlcokkiohilmlaaGreatDoorAn
namespace Go.Proofs.YtlcokkiohilmlaaGreatDoor
open Go.RowKit
theorem wordS_len (e : Int) : (wordS e).length ≤ 20 := by
  have h0 : ∀ w ∈ words0, w.length ≤ 20 := by decide
  have h20 : ∀ w ∈ words20, w.length ≤ 20 := by decide
  have h40 : ∀ w ∈ words40, w.length ≤ 20 := by decide
  have key : ∀ (a : Int) (l : List (List UInt8)), (∀ w ∈ l, w.length ≤ 20) → (wordAt a l).length ≤ 20 := by
    intro a l hl
    unfold wordAt
    split
    · cases hx : l[a.toNat]? with
      | none => exact (by decide : unknownS.length ≤ 20)
      | some x => exact hl x (List.mem_of_getElem? hx)
    · decide
  unfold wordS
  split
  · exact key _ _ h40
  · split
    · exact key _ _ h20
    · exact key _ _ h0

set_option maxRecDepth 100000 in
set_option maxHeartbeats 1600000 in
theorem alloc_Answer_no (w : World) (cs : Array Value) (e : Int) (hs : Sp w) (h0 : e ≠ 0) (h1 : -9223372036854775808 ≤ e) (h2 : e ≤ 9223372036854775807) :
    Calls Tryz.prog 5 #[.agg cs, .int .i64 e] w fun r w' => r = .returned (.string ⟨(ansNo e).toArray⟩) ∧ Below w.heap.size w w' := by
  have hne : (e != 0) = true := by simpa using h0
  have HW := Lib.hid (wordS_len e)
  have H0 := Lib.hid h0; clear h0
  have hb0 : Below w.heap.size w (w.alloc (.cells cs 29)) := (Below.refl _ _).alloc (Nat.le_refl _) _
  have hB0 := fresh77' (w := w.alloc (.cells cs 29)) (g := w.heap.size + 1) (by simp)
  have hbw0 := hb0.alloc (by simp) (.cells #[.pointer none, .slice none 0 0] 52)
  go_enter Tryz.func5, Tryz.ntmps5
  go_wp2_with fail
  refine (alloc_Word e _ (hs.below hbw0) h1 h2).mono ?_
  rintro r w1 ⟨rfl, b1⟩
  have hB1 := Lib.hid (IsBuilder_below hB0 b1)
  have hs1 := b1.size
  have hs1' : w.heap.size + 2 ≤ w1.heap.size := by simpa using hs1
  clear hs1
  have hbw1 := hbw0.trans (b1.mono (by simp only [World.alloc, Array.size_push]; omega))
  clear hbw0 hb0 hB0 b1
  go_wp2_with fail
  have hPs : Pcs (w.heap.size + 1) (w.heap.size + 1) (w1.alloc (.cells ([.iface 9 (.string ⟨#[114, 101, 106, 101, 99, 116, 101, 100]⟩), .iface 9 (.string ⟨(wordS e).toArray⟩)] : List Value).toArray 20)) (.slice (some ⟨w1.heap.size, 0, none⟩) 2 2) [[114, 101, 106, 101, 99, 116, 101, 100], wordS e] :=
    Pcs_new _ [.iface 9 (.string ⟨#[114, 101, 106, 101, 99, 116, 101, 100]⟩), .iface 9 (.string ⟨(wordS e).toArray⟩)] _ rfl rfl (by omega) (by omega) ⟨rfl, fun i h1 h2 => match i, h1, h2 with | 0, _, _ => .str [114, 101, 106, 101, 99, 116, 101, 100] | 1, _, _ => .str _⟩
  refine (text_line (w.heap.size + 1) (w.heap.size + 1) _ _ _ _ (IsBuilder_below hB1.out ((Below.refl _ _).alloc (Nat.le_refl _) _)) hPs (by simp; omega) (by
    have := HW.out
    simp only [lineS, joinS, List.length_append, List.flatMap_cons, List.flatMap_nil, List.length_cons, List.length_nil]; omega)).mono ?_
  rintro r w2 ⟨rfl, h, bb, -⟩
  have H2 := Lib.hid (show Lib.IsBuilder 52 5 _ _ _ w2 from .inr h); clear h
  have hbw2 := (hbw1.alloc (by omega) (.cells ([.iface 9 (.string ⟨#[114, 101, 106, 101, 99, 116, 101, 100]⟩), .iface 9 (.string ⟨(wordS e).toArray⟩)] : List Value).toArray 20)).trans (bb.mono (Nat.le_succ _))
  have hs2 := bb.size
  have hs2' : w1.heap.size + 1 ≤ w2.heap.size := by simpa using hs2
  clear hs2
  clear bb hPs hB1
  go_wp2_with fail
  refine (Str_any (T := 52) (.inr rfl) (w.heap.size + 1) (w.heap.size + 1) _ _ H2.out (by omega)).mono ?_
  rintro r w3 ⟨rfl, bb⟩
  have hbw3 := hbw2.trans (bb.mono (by omega))
  go_wp2_with fail
  go_ret
  refine ⟨?_, hbw3⟩
  first | (simp only [ansNo]; rfl) | (simp [ansNo]; done)
theorem alloc_Answer (w : World) (cs : Array Value) (d : ResD) (e : Int) (hs : Sp w) (h1 : -9223372036854775808 ≤ e) (h2 : e ≤ 9223372036854775807) (hv : ResC w.heap.size w cs d) (hlen : (ansOK d).length ≤ 2 ^ 40) :
    Calls Tryz.prog 5 #[.agg cs, .int .i64 e] w fun r w' => r = .returned (.string ⟨(ansS d e).toArray⟩) ∧ Below w.heap.size w w' := by
  unfold ansS
  by_cases h0 : e = 0
  · subst h0; rw [if_pos rfl]; exact alloc_Answer_ok w cs d hv hlen
  · rw [if_neg h0]; exact alloc_Answer_no w cs e hs h0 h1 h2
end Go.Proofs.YtlcokkiohilmlaaGreatDoor
