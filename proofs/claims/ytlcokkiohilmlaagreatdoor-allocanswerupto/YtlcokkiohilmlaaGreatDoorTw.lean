import Derived.Test.YtlcokkiohilmlaaGreatDoorRz
namespace Go.Proofs.YtlcokkiohilmlaaGreatDoor
open Go.RowKit
/-- bytes that lie in memory below B, the room told -/
def RdV (B : Nat) (w : World) (v : Value) (l : List UInt8) : Prop :=
  ∃ a cap, v = .slice a l.length cap ∧ l.length ≤ cap ∧ ∀ i (h : i < l.length), ∃ b off, a = some ⟨b, off, none⟩ ∧ b < B ∧ w.cell? ⟨b, off + i, none⟩ = some (.int .u8 l[i].toNat)
theorem RdV.below {B : Nat} {w w' : World} {v : Value} {l : List UInt8} (h : RdV B w v l) (hb : Below B w w') : RdV B w' v l := by
  obtain ⟨a, cap, hv, hn, hc⟩ := h
  refine ⟨a, cap, hv, hn, fun i hi => ?_⟩
  obtain ⟨b, off, ha, hlt, hcell⟩ := hc i hi
  exact ⟨b, off, ha, hlt, (hb.cell (p := ⟨b, off + i, none⟩) hlt).trans hcell⟩
theorem RdV.u {B : Nat} {w : World} {v : Value} {l : List UInt8} (h : RdV B w v l) : RdU B w v l := by
  obtain ⟨a, cap, hv, -, hc⟩ := h
  exact ⟨a, cap, hv, hc⟩
theorem RdU_own {w : World} {B : Nat} {v : Value} {l : List UInt8} (h : w.ownsRow B 5 1 v l.length (Lib.byteCells l)) : RdU w.heap.size w v l := by
  rcases h.2 with ⟨hv, h0⟩ | ⟨g, cap, cur, hv, hb, hg, _⟩
  · have : l = [] := List.eq_nil_of_length_eq_zero h0
    subst this
    exact ⟨none, 0, hv, fun i hi => absurd hi (by simp)⟩
  · have hlt : g < w.heap.size := by
      rcases Nat.lt_or_ge g w.heap.size with h' | h'
      · exact h'
      · simp [Array.getElem?_eq_none h'] at hg
    refine ⟨some ⟨g, 0, none⟩, cap, hv, fun i hi => ⟨g, 0, rfl, hlt, ?_⟩⟩
    have := h.cells (g := g) (by rw [hv]; rfl) i (.int .u8 l[i].toNat) (by simp [Lib.byteCells, hi])
    rw [Addr.add_mid] at this
    exact this
theorem ownsRow_empty (w : World) : (w.alloc (.cells #[] 5)).ownsRow w.heap.size 5 1 (.slice (some ⟨w.heap.size, 0, none⟩) 0 0) 0 [] :=
  ⟨rfl, .inr ⟨w.heap.size, 0, #[], rfl, Nat.le_refl _, heap_alloc_new w _, Nat.le_refl _, by unfold maxLen; omega, rfl, rfl⟩⟩
set_option maxRecDepth 100000 in
set_option maxHeartbeats 1600000 in
theorem keep_Twin (B : Nat) (w : World) (v : Value) (l : List UInt8) (hv : RdV B w v l) (hBw : B ≤ w.heap.size) (hl : l.length ≤ 2 ^ 46) :
    Calls Tryz.prog 8 #[v, .int .i64 400] w fun e w' => ∃ v', e = .returned v' ∧ w'.ownsRow w.heap.size 5 1 v' (l.take 400).length (Lib.byteCells (l.take 400)) ∧ Below w.heap.size w w' := by
  obtain ⟨i0, hi, hz0, hz1, hz2⟩ := info_parts info_u8
  obtain ⟨a, cap, rfl, hn, hc⟩ := hv
  by_cases h4 : 400 < l.length
  · obtain ⟨b, off, rfl, hb, -⟩ := hc 0 (by omega)
    have hn' : (400 : Int) ≤ (cap : Int) := by omega
    have hnews : ∀ j u, (Lib.byteCells (l.take 400))[j]? = some u → (w.alloc (.cells #[] 5)).cell? ((⟨b, off, none⟩ : Addr).add j) = some u := by
      intro j u hu
      have hj : j < (Lib.byteCells (l.take 400)).length := (List.getElem?_eq_some_iff.1 hu).1
      rw [Lib.byteCells_length, List.length_take] at hj
      obtain ⟨b', off', h1, h2, h3⟩ := hc j (by omega)
      injection h1 with h1; injection h1 with h1 h1'; subst h1; subst h1'
      rw [Addr.add_mid]
      refine (((Below.refl w.heap.size w).alloc (Nat.le_refl _) _).cell (p := ⟨b, off + j, none⟩) (by simp; omega)).trans (h3.trans ?_)
      rw [← hu]
      simp only [Lib.byteCells, List.getElem?_map, List.getElem?_take]
      rw [if_pos (by omega), List.getElem?_eq_getElem (by omega)]; rfl
    have HN := Lib.hid hnews; clear hnews
    have hlen : (Lib.byteCells (l.take 400)).length = 400 * 1 := by rw [Lib.byteCells_length, List.length_take]; omega
    have HL := Lib.hid hlen; clear hlen
    clear hc
    go_enter Tryz.func8, Tryz.ntmps8
    go_wp2_with (at_builtin; refine wpList_append_own _ rfl _ _ 31 rfl w.heap.size 5 i0 (.int .u8 0) 1 1 Tryz.underlying31 hi hz0 hz1 hz2 rfl (by decide) (.slice (some ⟨w.heap.size, 0, none⟩) 0 0) 0 [] rfl (ownsRow_empty w) ⟨b, off, none⟩ 400 _ (Lib.byteCells (l.take 400)) rfl HL.out HN.out ?c2 ?c3 ?c4 ?c5 ?_)
    case c2 =>
      intro u hu
      simp only [Lib.byteCells, List.mem_map] at hu
      obtain ⟨x, _, rfl⟩ := hu
      rfl
    case c3 => unfold maxLen; omega
    case c4 => omega
    case c5 => simp
    intro v' w4 hown hgrow _
    have hown' : w4.ownsRow w.heap.size 5 1 v' (l.take 400).length (Lib.byteCells (l.take 400)) := by
      have hl := HL.out
      rw [Lib.byteCells_length] at hl
      have e : 0 + 400 = (l.take 400).length := by omega
      first | exact hown | (rw [← e]; exact hown)
    clear hown
    go_wp2
    go_ret
    exact ⟨v', rfl, hown', ((Below.refl _ _).alloc (Nat.le_refl _) _).grown hgrow (by simp) (fun k hk => by simp [Value.ownBlock] at hk; omega)⟩
  · have ht : l.take 400 = l := List.take_of_length_le (by omega)
    rw [ht]
    cases a with
    | none =>
      have h0 : l.length = 0 := by
        rcases Nat.eq_zero_or_pos l.length with h | h
        · exact h
        · obtain ⟨b, off, h1, -⟩ := hc 0 h; cases h1
      have hl0 : l = [] := List.eq_nil_of_length_eq_zero h0
      subst hl0
      clear hc
      go_enter Tryz.func8, Tryz.ntmps8
      go_wp2_with fail
      go_ret
      exact ⟨_, rfl, ownsRow_empty w, (Below.refl _ _).alloc (Nat.le_refl _) _⟩
    | some ad =>
      have hnews : ∀ j u, (Lib.byteCells l)[j]? = some u → (w.alloc (.cells #[] 5)).cell? (ad.add j) = some u := by
        intro j u hu
        have hj : j < (Lib.byteCells l).length := (List.getElem?_eq_some_iff.1 hu).1
        rw [Lib.byteCells_length] at hj
        obtain ⟨b', off', h1, h2, h3⟩ := hc j (by omega)
        injection h1 with h1; subst h1
        rw [Addr.add_mid]
        refine (((Below.refl w.heap.size w).alloc (Nat.le_refl _) _).cell (p := ⟨b', off' + j, none⟩) (by simp; omega)).trans (h3.trans ?_)
        rw [← hu]
        simp only [Lib.byteCells, List.getElem?_map]
        rw [List.getElem?_eq_getElem (by omega)]; rfl
      have HN := Lib.hid hnews; clear hnews
      have hlen : (Lib.byteCells l).length = l.length * 1 := by rw [Lib.byteCells_length]; omega
      have HL := Lib.hid hlen; clear hlen
      clear hc ht
      go_enter Tryz.func8, Tryz.ntmps8
      go_wp2_with (at_builtin; refine wpList_append_own _ rfl _ _ 31 rfl w.heap.size 5 i0 (.int .u8 0) 1 1 Tryz.underlying31 hi hz0 hz1 hz2 rfl (by decide) (.slice (some ⟨w.heap.size, 0, none⟩) 0 0) 0 [] rfl (ownsRow_empty w) ad l.length _ (Lib.byteCells l) rfl HL.out HN.out ?c2 ?c3 ?c4 ?c5 ?_)
      case c2 =>
        intro u hu
        simp only [Lib.byteCells, List.mem_map] at hu
        obtain ⟨x, _, rfl⟩ := hu
        rfl
      case c3 => unfold maxLen; omega
      case c4 => omega
      case c5 => simp
      intro v' w4 hown hgrow _
      have hown' : w4.ownsRow w.heap.size 5 1 v' l.length (Lib.byteCells l) := by
        have hl := HL.out
        rw [Lib.byteCells_length] at hl
        have e : 0 + l.length = l.length := by omega
        first | exact hown | (rw [← e]; exact hown)
      clear hown
      go_wp2
      go_ret
      exact ⟨v', rfl, hown', ((Below.refl _ _).alloc (Nat.le_refl _) _).grown hgrow (by simp) (fun k hk => by simp [Value.ownBlock] at hk; omega)⟩
end Go.Proofs.YtlcokkiohilmlaaGreatDoor
