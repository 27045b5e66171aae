import Derived.Test.YtlcokkiohilmlaaGreatDoorLg
namespace Go.Proofs.YtlcokkiohilmlaaGreatDoor
open Go.RowKit
theorem Blk.others {w w' : World} {b k : Nat} {cs : Array Value} {T : TypeId} (h : Blk w k cs T) (ho : Lib.OthersKept 5 (some b) w w') (hne : k ≠ b) (hT : T ≠ 5) : Blk w' k cs T :=
  ho k _ h (by simpa using hne) (by intro c fz e; injection e with _ e2; exact hT e2)
theorem rec_len1 {acc : List UInt8} {d : RecD} (h : (acc ++ recS d).length ≤ 2 ^ 40) : (acc ++ lineS (recP d)).length ≤ 2 ^ 40 := by
  simp only [recS, List.length_append] at h ⊢; omega
theorem size_rec : (Tryz.prog.info? 34).map (·.size) = some 261 := by kernel_rfl

set_option maxRecDepth 100000 in
set_option maxHeartbeats 1600000 in
theorem text_receipt (B b : Nat) (acc : List UInt8) (w : World) (cs : Array Value) (d : RecD) (h : Lib.IsBuilder 52 5 B b (Lib.byteCells acc) w)
    (_hsz : cs.size = 261) (hv : RecC B w cs d) (hBw : B ≤ w.heap.size) (hlen : (acc ++ recS d).length ≤ 2 ^ 40) :
    Calls Tryz.prog 25 #[.pointer (some ⟨b, 0, none⟩), .agg cs] w fun e w' => e = .returned (.tuple #[]) ∧
      Lib.IsBuilder 52 5 B b (Lib.byteCells (acc ++ recS d)) w' ∧ Below B w w' ∧ Lib.OthersKept 5 (some b) w w' := by
  obtain ⟨hone, ⟨rv, h1, hroot⟩, h2, h3, hg, lv, h4, hlogs⟩ := hv
  obtain ⟨ra, rcap, rfl, hrc⟩ := hroot
  have hb0 : Below w.heap.size w (w.alloc (.cells cs 34)) := (Below.refl _ _).alloc (Nat.le_refl _) _
  have hN := Blk.new w cs 34
  have c1 := (hN.cell 1).trans h1
  have c2 := (hN.cell 2).trans h2
  have c3 := (hN.cell 3).trans h3
  have c4 := (hN.cell 260).trans h4
  have hbl := Lib.IsBuilder_lt h
  have HRC := Lib.hid hrc; clear hrc
  have HL := Lib.hid hlogs; clear hlogs
  have HN := Lib.hid hN; clear hN
  have HB := Lib.hid h; clear h
  have HLEN := Lib.hid hlen; clear hlen
  by_cases hr : d.root.length = 0
  · have hr0 : d.root = [] := List.eq_nil_of_length_eq_zero hr
    cases hok : d.ok with
    | true =>
      rw [hok] at c2
      have HP := Lib.hid (show recP d = [[114, 101, 99, 101, 105, 112, 116], quant d.gas, [111, 107]] by simp [recP, hr0, hok])
      have HR0 := Lib.hid hr; clear hr hr0 hok
      have hrl : d.root.length ≤ 0 := by rw [HR0.out]; exact Nat.le_refl _
      go_enter Tryz.func25, Tryz.ntmps25
      go_wp2_with fail
      have hPs : Pcs B b ((w.alloc (.cells cs 34)).alloc (.cells ([.iface 9 (.string ⟨#[114, 101, 99, 101, 105, 112, 116]⟩), .iface 22 (.int .u64 d.gas), .iface 9 (.string ⟨#[111, 107]⟩)] : List Value).toArray 20)) (.slice (some ⟨w.heap.size + 1, 0, none⟩) 3 3) (recP d) := Pcs_new (w := w.alloc (.cells cs 34)) _ [.iface 9 (.string ⟨#[114, 101, 99, 101, 105, 112, 116]⟩), .iface 22 (.int .u64 d.gas), .iface 9 (.string ⟨#[111, 107]⟩)] (recP d) rfl (by simp) (by simp; omega) (by simp; omega) (by rw [HP.out]; exact ⟨rfl, fun i h1 h2 => match i, h1, h2 with | 0, _, _ => .str [114, 101, 99, 101, 105, 112, 116] | 1, _, _ => .num _ hg | 2, _, _ => .str [111, 107]⟩)
      refine (text_line B b acc _ _ _ (IsBuilder_below HB.out (hb0.alloc (by simp) _)) hPs (by simp; omega) (rec_len1 HLEN.out)).mono ?_
      clear hPs
      rintro e w1 ⟨rfl, h5, b5, k5⟩
      have c4' : w1.cell? ⟨w.heap.size, 260, none⟩ = some lv := (((HN.out.alloc _).others k5 (by omega) (by decide)).cell 260).trans h4
      have H5 := Lib.hid h5; clear h5 c1 c2 c3 c4
      have hbw : Below B w w1 := ((hb0.mono hBw).alloc (by simp; omega) _).trans b5
      have hsz1 := hbw.size
      go_wp2_with fail
      refine (text_logs B b (acc ++ lineS (recP d)) _ _ d.logs (.inr H5.out) (fun w' hb' => HL.out.below (hbw.trans hb') (fun _ _ h => h.below (hbw.trans hb'))) (by omega) (by have := HLEN.out; rwa [recS, ← List.append_assoc] at this)).mono ?_
      rintro e w2 ⟨rfl, h6, b6, k6⟩
      go_wp2_with fail
      go_end0
      exact ⟨rfl, by rw [recS, ← List.append_assoc]; exact h6, hbw.trans b6, ((OthersKept_below (hb0.alloc (by simp) _)).trans k5).trans k6⟩
    | false =>
      rw [hok] at c2
      have HP := Lib.hid (show recP d = [[114, 101, 99, 101, 105, 112, 116], quant d.gas, [102, 97, 105, 108, 101, 100]] by simp [recP, hr0, hok])
      have HR0 := Lib.hid hr; clear hr hr0 hok
      have hrl : d.root.length ≤ 0 := by rw [HR0.out]; exact Nat.le_refl _
      go_enter Tryz.func25, Tryz.ntmps25
      go_wp2_with fail
      have hPs : Pcs B b ((w.alloc (.cells cs 34)).alloc (.cells ([.iface 9 (.string ⟨#[114, 101, 99, 101, 105, 112, 116]⟩), .iface 22 (.int .u64 d.gas), .iface 9 (.string ⟨#[102, 97, 105, 108, 101, 100]⟩)] : List Value).toArray 20)) (.slice (some ⟨w.heap.size + 1, 0, none⟩) 3 3) (recP d) := Pcs_new (w := w.alloc (.cells cs 34)) _ [.iface 9 (.string ⟨#[114, 101, 99, 101, 105, 112, 116]⟩), .iface 22 (.int .u64 d.gas), .iface 9 (.string ⟨#[102, 97, 105, 108, 101, 100]⟩)] (recP d) rfl (by simp) (by simp; omega) (by simp; omega) (by rw [HP.out]; exact ⟨rfl, fun i h1 h2 => match i, h1, h2 with | 0, _, _ => .str [114, 101, 99, 101, 105, 112, 116] | 1, _, _ => .num _ hg | 2, _, _ => .str [102, 97, 105, 108, 101, 100]⟩)
      refine (text_line B b acc _ _ _ (IsBuilder_below HB.out (hb0.alloc (by simp) _)) hPs (by simp; omega) (rec_len1 HLEN.out)).mono ?_
      clear hPs
      rintro e w1 ⟨rfl, h5, b5, k5⟩
      have c4' : w1.cell? ⟨w.heap.size, 260, none⟩ = some lv := (((HN.out.alloc _).others k5 (by omega) (by decide)).cell 260).trans h4
      have H5 := Lib.hid h5; clear h5 c1 c2 c3 c4
      have hbw : Below B w w1 := ((hb0.mono hBw).alloc (by simp; omega) _).trans b5
      have hsz1 := hbw.size
      go_wp2_with fail
      refine (text_logs B b (acc ++ lineS (recP d)) _ _ d.logs (.inr H5.out) (fun w' hb' => HL.out.below (hbw.trans hb') (fun _ _ h => h.below (hbw.trans hb'))) (by omega) (by have := HLEN.out; rwa [recS, ← List.append_assoc] at this)).mono ?_
      rintro e w2 ⟨rfl, h6, b6, k6⟩
      go_wp2_with fail
      go_end0
      exact ⟨rfl, by rw [recS, ← List.append_assoc]; exact h6, hbw.trans b6, ((OthersKept_below (hb0.alloc (by simp) _)).trans k5).trans k6⟩
  · have hr' : 0 < d.root.length := by omega
    have HP := Lib.hid (show recP d = [[114, 101, 99, 101, 105, 112, 116], quant d.gas, text d.root] by
      have : d.root ≠ [] := by intro e; rw [e] at hr; exact hr rfl
      simp [recP, this])
    clear hr
    have hrl : d.root.length ≤ 2 ^ 40 := by
      have := HLEN.out
      rw [recS, HP.out] at this
      simp only [lineS, joinS, List.length_append, List.flatMap_cons, List.length_cons, text, hexes_length] at this
      omega
    go_enter Tryz.func25, Tryz.ntmps25
    go_wp2_with fail
    have hPs : Pcs B b ((w.alloc (.cells cs 34)).alloc (.cells ([.iface 9 (.string ⟨#[114, 101, 99, 101, 105, 112, 116]⟩), .iface 22 (.int .u64 d.gas), .iface 31 (.slice ra d.root.length rcap)] : List Value).toArray 20)) (.slice (some ⟨w.heap.size + 1, 0, none⟩) 3 3) (recP d) := Pcs_new (w := w.alloc (.cells cs 34)) _ [.iface 9 (.string ⟨#[114, 101, 99, 101, 105, 112, 116]⟩), .iface 22 (.int .u64 d.gas), .iface 31 (.slice ra d.root.length rcap)] (recP d) rfl (by simp) (by simp; omega) (by simp; omega) (by rw [HP.out]; exact ⟨rfl, fun i h1 h2 => match i, h1, h2 with | 0, _, _ => .str [114, 101, 99, 101, 105, 112, 116] | 1, _, _ => .num _ hg | 2, _, _ => .bytes _ _ (RdU.below ⟨ra, rcap, rfl, HRC.out⟩ (hb0.mono hBw)) hrl⟩)
    refine (text_line B b acc _ _ _ (IsBuilder_below HB.out (hb0.alloc (by simp) _)) hPs (by simp; omega) (rec_len1 HLEN.out)).mono ?_
    clear hPs
    rintro e w1 ⟨rfl, h5, b5, k5⟩
    have c4' : w1.cell? ⟨w.heap.size, 260, none⟩ = some lv := (((HN.out.alloc _).others k5 (by omega) (by decide)).cell 260).trans h4
    have H5 := Lib.hid h5; clear h5 c1 c2 c3 c4
    have hbw : Below B w w1 := ((hb0.mono hBw).alloc (by simp; omega) _).trans b5
    have hsz1 := hbw.size
    go_wp2_with fail
    refine (text_logs B b (acc ++ lineS (recP d)) _ _ d.logs (.inr H5.out) (fun w' hb' => HL.out.below (hbw.trans hb') (fun _ _ h => h.below (hbw.trans hb'))) (by omega) (by have := HLEN.out; rwa [recS, ← List.append_assoc] at this)).mono ?_
    rintro e w2 ⟨rfl, h6, b6, k6⟩
    go_wp2_with fail
    go_end0
    exact ⟨rfl, by rw [recS, ← List.append_assoc]; exact h6, hbw.trans b6, ((OthersKept_below (hb0.alloc (by simp) _)).trans k5).trans k6⟩
end Go.Proofs.YtlcokkiohilmlaaGreatDoor
