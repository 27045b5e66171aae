import Derived.Test.YtlcokkiohilmlaaGreatDoorTw
import Derived.Maps.Own
namespace Go.Proofs.YtlcokkiohilmlaaGreatDoor
open Go.RowKit
theorem Blk.sets_part {b : Nat} {T : TypeId} : ∀ (vs : List Value) (o : Nat) (w : World) (c : Array Value), Blk w b c T → o + vs.length ≤ c.size →
    ∃ c', Blk (w.setCells b o vs) b c' T ∧ c'.size = c.size ∧ (∀ i, i < o ∨ o + vs.length ≤ i → c'[i]? = c[i]?)
  | [], o, w, c, hb, _ => ⟨c, hb, rfl, fun _ _ => rfl⟩
  | v :: r, o, w, c, hb, hl => by
    simp only [List.length_cons] at hl
    obtain ⟨c', h1, h2, h3⟩ := Blk.sets_part r (o + 1) _ _ (hb.set o v) (by simp; omega)
    refine ⟨c', h1, by simpa using h2, fun i hi => ?_⟩
    simp only [List.length_cons] at hi
    rw [h3 i (by omega), Array.getElem?_setIfInBounds_ne (by omega)]
def isReader (w : World) (m r : Nat) : Prop := w.heap[m]? = some (.map #[] 0) ∧ ∃ cs, cs.size = 600 ∧ Blk w r cs 115 ∧ cs[599]? = some (.map (some m))
theorem isReader.set {w : World} {m r i : Nat} (h : isReader w m r) (hne : m ≠ r) (hi : i < 599) (v : Value) : isReader (w.setCell ⟨r, i, none⟩ v) m r := by
  obtain ⟨h1, cs, h2, h3, h4⟩ := h
  exact ⟨(Below.heap_setCell _ _ _ _ hne).trans h1, _, by simpa using h2, h3.set i v, by rw [Array.getElem?_setIfInBounds_ne (by omega)]; exact h4⟩
theorem isReader.new (w : World) (z : Array Value) (hz : z.size = 600) (vs : List Value) (hv : vs.length ≤ 599) :
    isReader (((w.alloc (.map #[] 0)).alloc (.cells (z.setIfInBounds 599 (.map (some w.heap.size))) 115)).setCells (w.heap.size + 1) 0 vs) w.heap.size (w.heap.size + 1) := by
  have hb : Blk ((w.alloc (.map #[] 0)).alloc (.cells (z.setIfInBounds 599 (.map (some w.heap.size))) 115)) (w.heap.size + 1) (z.setIfInBounds 599 (.map (some w.heap.size))) 115 := Blk.new' (by simp) _ _
  obtain ⟨c', h1, h2, h3⟩ := Blk.sets_part vs 0 _ _ hb (by simp [hz]; omega)
  refine ⟨?_, c', by simpa [hz] using h2, h1, ?_⟩
  · rw [setCells_heap_ne _ _ _ _ _ (by omega), Lib.alloc_old _ _ _ (by simp)]
    exact heap_alloc_new w _
  · rw [h3 599 (by omega), Array.getElem?_setIfInBounds_self_of_lt (by omega)]
theorem size_config : (Tryz.prog.info? 86).map (·.size) = some 39 := by kernel_rfl
theorem size_reader : Tryz.zeroCells115.size = 600 := by kernel_rfl
set_option maxRecDepth 100000 in
set_option maxHeartbeats 1600000 in
theorem alloc_newReader (w : World) :
    Calls Tryz.prog 40 #[] w fun e w' => e = .returned (.pointer (some ⟨w.heap.size + 1, 0, none⟩)) ∧ isReader w' w.heap.size (w.heap.size + 1) ∧ Below w.heap.size w w' := by
  have hmm := @run_makeMap Tryz.prog
  have hsc := size_config
  go_enter Tryz.func40, Tryz.ntmps40
  go_wp2_with (first | (refine wpList_store_mid rfl 86 _ _ rfl _ _ _ rfl rfl ?h1 hsc ?h3 ?_; (case h1 => exact (Blk.new' (by simp) _ _).there 0 _ (by rw [Array.size_setIfInBounds, size_reader]; decide)); (case h3 => simp [Value.oneCell']); generalize hw1 : World.setCells _ _ _ _ = w1))
  have hR : isReader w1 w.heap.size (w.heap.size + 1) := by rw [← hw1]; exact isReader.new w _ size_reader _ (by simp)
  have hb1 : Below w.heap.size w w1 := by rw [← hw1]; exact Below.setCells (((Below.refl _ _).alloc (Nat.le_refl _) _).alloc (by simp) _) (by omega) _ _
  clear hw1
  go_loopw [12] (fun i wr => ∃ k : Nat, k ≤ 14 ∧ i = .int .i64 k ∧ isReader wr w.heap.size (w.heap.size + 1) ∧ Below w.heap.size w wr) (fun i _ => 14 - (intOf i).toNat)
  case atStart => exact ⟨0, by omega, rfl, hR, hb1⟩
  case round =>
    obtain ⟨k, hk, rfl, hA, hbw⟩ := hrel
    by_cases hlt : k < 14
    · have hA' := hA
      obtain ⟨-, cs, hcs, hB, -⟩ := hA'
      have hcell : wr.cell? ⟨w.heap.size + 1, 1 + k, none⟩ = some (cs[1 + k]'(by omega)) := by rw [hB.cell]; exact Array.getElem?_eq_getElem _
      have hfz : wr.frozen? ⟨w.heap.size + 1, 1 + k, none⟩ = false := hB.frozen _
      generalize (cs[1 + k]'(by omega)) = cv at hcell
      have HC := Lib.hid hcs; clear hcs hB
      by_cases hk0 : 0 < k
      · have hcut : wr.cell? ⟨w.heap.size + 1, 0 + 1 + k, none⟩ = some cv := by rw [Nat.zero_add]; exact hcell
        go_wp2_with fail
        go_roundw
        case rel => exact ⟨k + 1, hlt, by go_num, hA.set (by omega) (by omega) _, hbw.setCell (p := ⟨_, _, none⟩) (by simp) _⟩
        case measure => simp [intOf] <;> omega
      · go_wp2_with fail
        go_roundw
        case rel => exact ⟨k + 1, hlt, by go_num, hA, hbw⟩
        case measure => simp [intOf] <;> omega
    · go_wp2_with fail
      go_ret
      exact ⟨rfl, hA, hbw⟩
end Go.Proofs.YtlcokkiohilmlaaGreatDoor
