import Derived.Test.YtlcokkiohilmlaaGreatDoorAo
import Derived.Deep.RegionHeld3
import Derived.Deep.AppendLies
namespace Go.Proofs.YtlcokkiohilmlaaGreatDoor
open Go.RowKit
theorem u8_wrap_small {x : Int} (h : 0 ≤ x) (h2 : x < 256) : IntKind.u8.wrap x = x := by
  unfold IntKind.wrap; simp [IntKind.bits, IntKind.signed]; omega
theorem row_at {w : World} {g n j : Nat} {e : TypeId} {cur : Array Value} {l : List UInt8} (hg : w.heap[g]? = some (.cells cur e (0, 0))) (ht : cur.toList.take (n * 1) = Lib.byteCells l) (hj : j < l.length) :
    w.cell? ((⟨g, 0, none⟩ : Addr).add j) = some (.int .u8 (l[j].toNat : Int)) := by
  have hadd : (⟨g, 0, none⟩ : Addr).add j = ⟨g, j, none⟩ := by unfold Addr.add; split <;> simp_all
  rw [hadd, cell_of_row w g j cur e (0, 0) hg]
  have h1 : (Lib.byteCells l)[j]? = some (.int .u8 (l[j].toNat : Int)) := by simp [Lib.byteCells, hj]
  rw [← ht, List.getElem?_take] at h1
  split at h1
  · simpa using h1
  · simp at h1
set_option maxRecDepth 100000 in
/-- string(b) of a row of one's own -/
theorem string_own {w : World} {base : Nat} {v : Value} {n : Nat} {l : List UInt8} (h : w.ownsRow base 5 1 v n (Lib.byteCells l)) :
    (convert 31 9 v).run Tryz.prog w = .ok (.string ⟨l.toArray⟩) w := by
  obtain ⟨hl, h⟩ := h
  rw [Lib.byteCells_length] at hl
  rcases h with ⟨rfl, h0⟩ | ⟨g, cap, cur, rfl, -, hg, -, -, -, ht⟩
  · obtain rfl : l = [] := List.eq_nil_of_length_eq_zero (by omega)
    exact run_convert_bytes_nil (P := Tryz.prog) w 31 5 (by rfl) (by rfl) _ _ 9 (by rfl)
  · have hn : n = l.length := by omega
    subst hn
    exact run_convert_bytes_back w 31 9 5 ⟨g, 0, none⟩ cap l (by rfl) (by rfl) (by rfl) (fun j hj => row_at hg ht hj)
theorem hexes_snoc (l : List UInt8) (k : Nat) (h : k < l.length) : hexes (l.take (k + 1)) = hexes (l.take k) ++ [hexd (l[k].toNat / 16), hexd (l[k].toNat % 16)] := by
  rw [List.take_succ_eq_append_getElem h, hexes_append]; simp [hexes]
theorem ownsRow_block {w : World} {base : Nat} {e : TypeId} {size n : Nat} {v : Value} {xs : List Value} (h : w.ownsRow base e size v n xs) : ∀ k, v.ownBlock = some k → base ≤ k := by
  intro k hk
  rcases h.2 with ⟨rfl, -⟩ | ⟨g, cap, cur, rfl, hb, -⟩
  · simp [Value.ownBlock] at hk
  · simp only [Value.ownBlock, Option.some.injEq] at hk; omega
set_option maxRecDepth 100000 in
set_option maxHeartbeats 1600000 in
theorem ref_hexes (v : Value) (l : List UInt8) (w : World) (hv : RdB w v l) (hl : l.length ≤ 2^40) :
    Calls Tryz.prog 28 #[v] w fun e w' => e = .returned (.string ⟨(hexes l).toArray⟩) ∧ Below w.heap.size w w' := by
  obtain ⟨i0, hi, hz0, hz1, hz2⟩ := info_parts info_u8
  obtain ⟨a, cap, rfl, hc⟩ := hv
  have HC := Lib.hid hc; clear hc
  go_enter Tryz.func28, Tryz.ntmps28
  go_wp2_with fail
  go_loopw [3, 4] (fun o i wr => ∃ k : Nat, k ≤ l.length ∧ i = .int .i64 k ∧ wr.ownsRow w.heap.size 5 1 o (2 * k) (Lib.byteCells (hexes (l.take k))) ∧ Below w.heap.size w wr) (fun _ i _ => l.length - (intOf i).toNat)
  case atStart => exact ⟨0, Nat.zero_le _, rfl, World.ownsRow_nil _ _ _ _, Below.refl _ _⟩
  case round =>
    obtain ⟨k, hk, rfl, hrow, hbw⟩ := hrel
    have hsz := hbw.size
    have HROW := Lib.hid hrow; clear hrow
    by_cases hlt : k < l.length
    · obtain ⟨b, off, rfl, hcell⟩ := HC.out k hlt
      have hcell' := cell_later hbw hcell
      have hx : l[k].toNat < 256 := UInt8.toNat_lt _
      have hne : u3.ownBlock ≠ some b := fun e => by
        have := (HROW.out.lt b e).1
        have := cell_lt hcell
        omega
      have h0 : (0 : Int) ≤ (k : Int) := Int.natCast_nonneg _
      have h1 : (k : Int) < (l.length : Int) := by omega
      have h2 : (0 : Int) ≤ (l[k].toNat : Int) / 16 := by omega
      have h3 : (l[k].toNat : Int) / 16 < 16 := by omega
      have h4 : (0 : Int) ≤ (l[k].toNat : Int) % 16 := by omega
      have h5 : (l[k].toNat : Int) % 16 < 16 := by omega
      have e1 : ((l[k].toNat : Int).tdiv 16) = (l[k].toNat : Int) / 16 := Int.tdiv_eq_ediv_of_nonneg (by omega)
      have e2 : ((l[k].toNat : Int).tmod 16) = (l[k].toNat : Int) % 16 := Int.tmod_eq_emod_of_nonneg (by omega)
      have e3 : IntKind.u8.wrap ((l[k].toNat : Int) / 16) = (l[k].toNat : Int) / 16 := u8_wrap_small h2 (by omega)
      have e4 : IntKind.u8.wrap ((l[k].toNat : Int) % 16) = (l[k].toNat : Int) % 16 := u8_wrap_small h4 (by omega)
      have hbl := cell_lt hcell
      clear hcell
      go_wp2_with fail
      go_region_held3 (fun w' => w'.cell? ⟨b, off + k, none⟩ = some (.int .u8 l[k].toNat))
        (first
          | go_keep
          | (rw [hgrow.cell_far _ (by simp; omega) (Ne.symm hne)]; assumption))
        ((refine step_append_lies _ (by rfl) _ _ _ (by rfl) w.heap.size 5 i0 (.int .u8 0) 1 1 Tryz.underlying31 hi hz0 hz1 hz2 rfl (by omega) u3 (2 * k) (Lib.byteCells (hexes (l.take k))) (by rfl) ((HROW.out.alloc _).drew)
            ⟨wr.heap.size, 0, none⟩ 2 2 _ (by rfl) (by rfl) (World.news_of_block (t := 5) (fr := (0, 0)) (heap_alloc_new wr _)) (by simp [Value.oneCell'])
            (by omega) (by unfold maxLen; omega) (by omega) (by simp; omega) (wr.heap.size + 1) (by simp) ?_; intro gg cap' w1 hown1 hgrow hat hlt'))
      go_wp2_with fail
      all_goals
        refine ⟨⟨k + 1, hlt, by go_num, ?_, ((hbw.alloc hsz _).drew).grown hgrow (by simp; omega) (ownsRow_block HROW.out)⟩, by simp [intOf] <;> omega⟩
        rw [hexes_snoc l k hlt, Lib.byteCells_append]
        rw [dig_get _ (by omega), dig_get _ (by omega)] at hown1
        have d1 : ((l[k].toNat : Int) / 16).toNat = l[k].toNat / 16 := by omega
        have d2 : ((l[k].toNat : Int) % 16).toNat = l[k].toNat % 16 := by omega
        rw [d1, d2] at hown1
        exact hown1
    · obtain rfl : k = l.length := by omega
      rw [List.take_length] at HROW
      have kc := string_own HROW.out
      go_wp2_with fail
      go_ret
      exact ⟨rfl, hbw⟩
end Go.Proofs.YtlcokkiohilmlaaGreatDoor
