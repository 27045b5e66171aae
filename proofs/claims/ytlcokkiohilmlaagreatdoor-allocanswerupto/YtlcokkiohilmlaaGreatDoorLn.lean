import Derived.Test.YtlcokkiohilmlaaGreatDoorWr
import Derived.Deep.RegionWith
namespace Go.Proofs.YtlcokkiohilmlaaGreatDoor
open Go.RowKit

/-- pieces, a blank between them -/
def joinS : List (List UInt8) → List UInt8
  | [] => []
  | p :: r => p ++ r.flatMap fun q => 32 :: q
def lineS (ps : List (List UInt8)) : List UInt8 := joinS ps ++ [10]
theorem joinS_zero (ps : List (List UInt8)) : joinS (ps.take 0) = [] := by simp [joinS]
theorem joinS_one (ps : List (List UInt8)) (h : 0 < ps.length) : joinS (ps.take (0 + 1)) = ps[0] := by
  cases ps with
  | nil => simp at h
  | cons p r => simp [joinS]
theorem joinS_first (ps : List (List UInt8)) (k : Nat) (h : k < ps.length) (h0 : k ≤ 0) : joinS (ps.take (k + 1)) = joinS (ps.take k) ++ ps[k] := by
  obtain rfl : k = 0 := by omega
  rw [joinS_one ps h, joinS_zero]; rfl
theorem joinS_succ (ps : List (List UInt8)) (k : Nat) (h : k < ps.length) (h0 : 0 < k) : joinS (ps.take (k + 1)) = joinS (ps.take k) ++ [32] ++ ps[k] := by
  cases ps with
  | nil => simp at h
  | cons p r =>
    obtain ⟨k, rfl⟩ : ∃ m, k = m + 1 := ⟨k - 1, by omega⟩
    simp only [List.take_succ_cons, joinS, List.getElem_cons_succ]
    rw [List.take_succ_eq_append_getElem (by simpa using h), List.flatMap_append]
    simp only [List.flatMap_cons, List.flatMap_nil, List.append_nil, List.append_assoc, List.cons_append, List.nil_append]
theorem lineS_ge (ps : List (List UInt8)) : ps.length ≤ (lineS ps).length := by
  cases ps with
  | nil => simp
  | cons p r =>
    have : ∀ r : List (List UInt8), r.length ≤ (r.flatMap fun q => 32 :: q).length := by
      intro r
      induction r with
      | nil => simp
      | cons q r ih => simp only [List.flatMap_cons, List.length_append, List.length_cons]; omega
    have := this r
    simp only [lineS, joinS, List.length_append, List.length_cons, List.length_nil]
    omega
theorem joinS_len (ps : List (List UInt8)) (k : Nat) : (joinS (ps.take k)).length ≤ (joinS ps).length := by
  cases ps with
  | nil => simp
  | cons p r =>
    cases k with
    | zero => simp [joinS]
    | succ k =>
      simp only [List.take_succ_cons, joinS, List.length_append]
      have : (r.take k).flatMap (fun q => 32 :: q) <+: r.flatMap (fun q => 32 :: q) := by
        refine ⟨(r.drop k).flatMap (fun q => 32 :: q), ?_⟩
        rw [← List.flatMap_append, List.take_append_drop]
      have := this.length_le
      omega
theorem len_le {a j p : List UInt8} (h : (a ++ (j ++ p)).length ≤ 2 ^ 40) : (Lib.byteCells (a ++ j)).length + (ByteArray.mk p.toArray).size ≤ 140737488355328 := by
  have e : (ByteArray.mk p.toArray).size = p.length := by simp [ByteArray.size]
  rw [e]
  simp only [Lib.byteCells, List.length_map, List.length_append] at h ⊢
  omega
theorem len_le1 {a j p : List UInt8} (h : (a ++ (j ++ [32] ++ p)).length ≤ 2 ^ 40) : (Lib.byteCells (a ++ j)).length + 1 ≤ 140737488355328 := by
  simp only [Lib.byteCells, List.length_map, List.length_append] at h ⊢
  omega
theorem bytes_app (a b : List UInt8) : Lib.byteCells (a ++ b) = Lib.byteCells a ++ Lib.byteCells b := by simp [Lib.byteCells]
theorem ownsRow_below {w w' : World} {B : Nat} {e : TypeId} {v : Value} {n : Nat} {xs : List Value} (h : w.ownsRow B e 1 v n xs) (hb : Below w.heap.size w w') : w'.ownsRow B e 1 v n xs := by
  obtain ⟨h1, h2⟩ := h
  refine ⟨h1, ?_⟩
  rcases h2 with h2 | ⟨g, cap, cur, hv, hg, hh, r⟩
  · exact .inl h2
  · have hlt : g < w.heap.size := (Array.getElem?_eq_some_iff.1 hh).1
    exact .inr ⟨g, cap, cur, hv, hg, (hb.block g hlt).trans hh, r⟩
theorem BuilderAt_below {T e : TypeId} {B b : Nat} {p : Value} {bs : List Value} {w w' : World} (h : Lib.BuilderAt T e B b p bs w) (hb : Below w.heap.size w w') : Lib.BuilderAt T e B b p bs w' := by
  have hlt := Lib.BuilderAt.lt h
  obtain ⟨hB, v, hbk, hown, hne⟩ := h
  exact ⟨hB, v, (hb.block b hlt).trans hbk, ownsRow_below hown hb, hne⟩
theorem IsBuilder_below {T e : TypeId} {B b : Nat} {bs : List Value} {w w' : World} (h : Lib.IsBuilder T e B b bs w) (hb : Below w.heap.size w w') : Lib.IsBuilder T e B b bs w' := by
  rcases h with h | h
  · exact .inl (BuilderAt_below h hb)
  · exact .inr (BuilderAt_below h hb)
theorem OthersKept_below {e : TypeId} {b : Option Nat} {w w' : World} (hb : Below w.heap.size w w') : Lib.OthersKept e b w w' := fun k _ hk _ _ => (hb.block k (Array.getElem?_eq_some_iff.1 hk).1).trans hk
/-- the arguments of a line -/
def Pcs (B b : Nat) (w : World) (v : Value) (ps : List (List UInt8)) : Prop :=
  ∃ a cap, v = .slice a ps.length cap ∧ ∀ i (h : i < ps.length), ∃ sb off x, a = some ⟨sb, off, none⟩ ∧ w.cell? ⟨sb, off + i, none⟩ = some x ∧ Pc B w x ps[i] ∧
    (sb < B ∨ (sb ≠ b ∧ ∃ c fz, w.heap[sb]? = some (.cells c 20 fz)))

set_option maxRecDepth 100000 in
set_option maxHeartbeats 800000 in
theorem text_line (B b : Nat) (acc : List UInt8) (w : World) (v : Value) (ps : List (List UInt8)) (h : Lib.IsBuilder 52 5 B b (Lib.byteCells acc) w)
    (hv : Pcs B b w v ps) (hBw : B ≤ w.heap.size) (hlen : (acc ++ lineS ps).length ≤ 2 ^ 40) :
    Calls Tryz.prog 9 #[.pointer (some ⟨b, 0, none⟩), v] w fun e w' => e = .returned (.tuple #[]) ∧
      Lib.BuilderAt 52 5 B b (.pointer (some ⟨b, 0, none⟩)) (Lib.byteCells (acc ++ lineS ps)) w' ∧ Below B w w' ∧ Lib.OthersKept 5 (some b) w w' := by
  have hps : ps.length ≤ 2 ^ 40 := by
    have := lineS_ge ps
    simp only [List.length_append] at hlen
    omega
  obtain ⟨a, cap, rfl, hc⟩ := hv
  go_enter Tryz.func9, Tryz.ntmps9
  go_wp2_with fail
  go_loopw [8] (fun i wr => ∃ k : Nat, k ≤ ps.length ∧ i = .int .i64 k ∧ Lib.IsBuilder 52 5 B b (Lib.byteCells (acc ++ joinS (ps.take k))) wr ∧ Below B w wr ∧ Lib.OthersKept 5 (some b) w wr) (fun i _ => ps.length - (intOf i).toNat)
  case atStart => exact ⟨0, Nat.zero_le _, rfl, by rw [joinS_zero, List.append_nil]; exact h, Below.refl _ _, Lib.OthersKept.refl _ _ _⟩
  case round =>
    obtain ⟨k, hk, rfl, hB, hbw, hot⟩ := hrel
    have hsz := hbw.size
    by_cases hlt : k < ps.length
    · obtain ⟨sb, off, x, rfl, hcell, hpc, hwh⟩ := hc k hlt
      have hcell' : wr.cell? ⟨sb, off + k, none⟩ = some x := by
        rcases hwh with hwh | ⟨hne, c, fz, hsb⟩
        · exact (hbw.cell (p := ⟨sb, off + k, none⟩) hwh).trans hcell
        · have := hot sb _ hsb (by simpa using hne) (by intro c' fz' e; injection e with _ e2; exact absurd e2 (by decide))
          rw [← hcell]; simp [World.cell?, this, hsb]
      have hpc' := hpc.below hbw
      clear hcell hc hwh
      have hln : (acc ++ joinS (ps.take (k + 1))).length ≤ 2 ^ 40 := by
        refine Nat.le_trans ?_ hlen
        simp only [List.length_append, lineS]
        have := joinS_len ps (k + 1)
        omega
      by_cases hk0 : k ≤ 0
      · rw [joinS_first ps k hlt hk0] at hln
        have HL := Lib.hid hln; clear hln
        have HB := Lib.hid hB; clear hB
        go_wp2_with fail
        go_region_with (first | (go_at_call 23; refine (written_any B _ x _ (hpc'.below (Below.drew (Below.refl B wr)))).mono ?_; rintro e w2 ⟨rfl, b2'⟩; have b2 : Below wr.heap.size wr w2 := (Below.drew (Below.refl _ wr)).trans b2'; clear b2') | (go_at_call 22; refine (WriteString (T := 52) (.inr rfl) B b (Lib.byteCells (acc ++ joinS (ps.take k))) _ _ (IsBuilder_below HB.out b2) (len_le HL.out) (Nat.le_trans (Nat.le_trans hBw hsz) b2.size)).mono ?_; rintro e w3 ⟨rfl, h3, b3, k3⟩))
        go_wp2_with fail
        go_roundw
        case rel => exact ⟨k + 1, hlt, by go_num, .inr (by rw [joinS_first ps k hlt hk0, ← List.append_assoc, bytes_app]; exact h3), (hbw.trans (b2.mono (Nat.le_trans hBw hsz))).trans b3, (hot.trans (OthersKept_below b2)).trans k3⟩
        case measure => simp [intOf] <;> omega
      · have hk1 : 0 < k := by omega
        rw [joinS_succ ps k hlt hk1] at hln
        have HL := Lib.hid hln; clear hln
        have HB := Lib.hid hB; clear hB
        go_wp2_with fail
        refine (WriteByte (T := 52) (.inr rfl) B b _ _ _ HB.out (len_le1 HL.out) (Nat.le_trans hBw hsz)).mono ?_
        rintro e w1 ⟨rfl, h1, b1, k1⟩
        have HB1 := Lib.hid (show Lib.IsBuilder 52 5 B b (Lib.byteCells (acc ++ (joinS (ps.take k) ++ [32]))) w1 from .inr (by rw [← List.append_assoc, bytes_app]; exact h1))
        have hpc1 := hpc'.below b1
        have hsz1 := b1.size
        clear h1 HB
        go_wp2_with fail
        go_region_with (first | (go_at_call 23; refine (written_any B _ x _ (hpc1.below (Below.drew (Below.refl B w1)))).mono ?_; rintro e w2 ⟨rfl, b2'⟩; have b2 : Below w1.heap.size w1 w2 := (Below.drew (Below.refl _ w1)).trans b2'; clear b2') | (go_at_call 22; refine (WriteString (T := 52) (.inr rfl) B b (Lib.byteCells (acc ++ (joinS (ps.take k) ++ [32]))) _ _ (IsBuilder_below HB1.out b2) (len_le HL.out) (Nat.le_trans (Nat.le_trans (Nat.le_trans hBw hsz) hsz1) b2.size)).mono ?_; rintro e w3 ⟨rfl, h3, b3, k3⟩))
        go_wp2_with fail
        go_roundw
        case rel => exact ⟨k + 1, hlt, by go_num, .inr (by rw [joinS_succ ps k hlt hk1, ← List.append_assoc, bytes_app]; exact h3), ((hbw.trans b1).trans (b2.mono (Nat.le_trans (Nat.le_trans hBw hsz) hsz1))).trans b3, ((hot.trans k1).trans (OthersKept_below b2)).trans k3⟩
        case measure => simp [intOf] <;> omega
    · obtain rfl : k = ps.length := by omega
      rw [List.take_length] at hB
      have HB := Lib.hid hB; clear hB
      go_wp2_with fail
      refine (WriteByte (T := 52) (.inr rfl) B b _ _ _ HB.out (by simp only [lineS, List.length_append] at hlen; simp only [Lib.byteCells, List.length_map, List.length_append]; omega) (Nat.le_trans hBw hsz)).mono ?_
      rintro e w1 ⟨rfl, h1, b1, k1⟩
      go_wp2_with fail
      go_end0
      exact ⟨rfl, by rw [lineS, ← List.append_assoc, bytes_app]; exact h1, hbw.trans b1, hot.trans k1⟩
end Go.Proofs.YtlcokkiohilmlaaGreatDoor
