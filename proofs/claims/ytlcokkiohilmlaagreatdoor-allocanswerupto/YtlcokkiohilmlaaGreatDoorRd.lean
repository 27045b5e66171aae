import Derived.Test.YtlcokkiohilmlaaGreatDoorFf
namespace Go.Proofs.YtlcokkiohilmlaaGreatDoor
open Go.RowKit
theorem hexa_Fields_empty (w : World) :
    Calls Tryz.prog 42 #[.string ⟨#[]⟩] w fun e w' => (∃ a, e = .returned (.slice a 0 0)) ∧ Below w.heap.size w w' := by
  go_enter Tryz.func42, Tryz.ntmps42
  go_wp2_with fail
  refine (FieldsFunc_empty _ w).mono ?_
  rintro e w1 ⟨⟨a, rfl⟩, b1⟩
  go_wp2_with fail
  go_ret
  exact ⟨⟨a, rfl⟩, b1⟩
theorem isReader.below {w w' : World} {m r : Nat} (h : isReader w m r) (hb : Below w.heap.size w w') : isReader w' m r := by
  obtain ⟨h1, cs, h2, h3, h4⟩ := h
  have hm : m < w.heap.size := by
    rcases Nat.lt_or_ge m w.heap.size with h | h
    · exact h
    · simp [Array.getElem?_eq_none h] at h1
  exact ⟨(hb.block m hm).trans h1, cs, h2, h3.below hb h3.lt, h4⟩
theorem ix0 (w : World) : (Instr.index 110 (.agg #[.string ⟨#[112, 97, 114, 101, 110, 116]⟩, .string ⟨#[98, 108, 111, 99, 107]⟩]) (.int .i64 0)).run Tryz.prog w = .ok (.string ⟨#[112, 97, 114, 101, 110, 116]⟩) w := by kernel_rfl
theorem info_unit : (Tryz.prog.info? 111).map (·.zero) = some (some (.agg #[])) := by kernel_rfl
theorem lk0 (w : World) (n : Nat) (h : w.heap[n]? = some (.map #[] 0)) : (Instr.lookup 113 (.map (some n)) (.string ⟨#[112, 97, 114, 101, 110, 116]⟩) true).run Tryz.prog w = .ok (.tuple #[.agg #[], .bool false]) w := by
  have hu : Tryz.prog.underlying 113 = some (.map 9 111) := by kernel_rfl
  have hk : Tryz.prog.underlying 9 = some .string := by kernel_rfl
  have hc := MapKept.run_checkKey (P := Tryz.prog) (w := w) (k := .string ⟨#[112, 97, 114, 101, 110, 116]⟩) hk (by simp [MapKept.IsKey]) true 9999
  have hi := info_unit
  cases hq : Tryz.prog.info? 111 with
  | none => simp [hq] at hi
  | some i =>
    have hz : i.zero = some (.agg #[]) := by simpa [hq] using hi
    have hf : Instr.findNow .string (.string ⟨#[112, 97, 114, 101, 110, 116]⟩) ([] : List MapEntry) 0 = some none := rfl
    simp [Instr.lookup, run_underlying hu, run_underlying hk, hf, getObj, Sem.run, h, hc, Instr.findKey, zeroValue, typeInfo, hq, hz]
/-- the library's cell that strings.Split reads -/
def Mx (w : World) : Prop := ∃ m, w.cell? ⟨2, 0, none⟩ = some (.int .i64 m)
theorem results_two_arr {P : Program} {fn : Func} {p q : Tmp} {t u : TypeId} (h : fn.results = #[.cell p t, .cell q u]) (tmps : Array Value) (w : World) (b b' : Nat) (cs cs' : Array Value) (d d' : TypeDesc)
    (hp : tmps.getD p undef = .pointer (some ⟨b, 0, none⟩)) (hc : w.rangeAt b 0 cs.toList) (hu : P.underlying t = some d) (hd : d.isRow = true) (hi : (P.info? t).map (·.size) = some cs.size)
    (hp' : tmps.getD q undef = .pointer (some ⟨b', 0, none⟩)) (hc' : w.rangeAt b' 0 cs'.toList) (hu' : P.underlying u = some d') (hd' : d'.isRow = true) (hi' : (P.info? u).map (·.size) = some cs'.size) :
    (results fn tmps).run P w = .ok (.tuple #[.agg cs, .agg cs']) w := by
  have hp2 : tmps[p]?.getD undef = .pointer (some ⟨b, 0, none⟩) := by simpa using hp
  have hp3 : tmps[q]?.getD undef = .pointer (some ⟨b', 0, none⟩) := by simpa using hp'
  have hl := run_loadVar_mid (P := P) w b 0 t cs.toList d hc hu hd (by simpa using hi)
  have hl' := run_loadVar_mid (P := P) w b' 0 u cs'.toList d' hc' hu' hd' (by simpa using hi')
  simp only [Array.toArray_toList] at hl hl'
  simp [results, h, hp2, hp3, asAddr, hl, hl']
theorem size_fault : (Tryz.prog.info? 94).map (·.size) = some 2 := by kernel_rfl
set_option maxRecDepth 100000 in
set_option maxHeartbeats 1600000 in
theorem alloc_Read_empty (w : World) (hm : Mx w) :
    Calls Tryz.prog 30 #[.string ⟨#[]⟩] w fun e w' => e = .returned (.tuple #[.agg Tryz.zeroCells92, .agg #[.int .i64 8, .int .i64 1]]) ∧ Below w.heap.size w w' := by
  obtain ⟨m, hm⟩ := hm
  have hmlt := cell_lt hm
  go_enter Tryz.func30, Tryz.ntmps30
  go_wp2_with fail
  have hI := Blk.new w Tryz.zeroCells92 92
  have hI2 := hI.alloc (.cells #[.int .i64 0, .int .i64 0] 94)
  have hF : Blk ((w.alloc (.cells Tryz.zeroCells92 92)).alloc (.cells #[.int .i64 0, .int .i64 0] 94)) (w.heap.size + 1) #[.int .i64 0, .int .i64 0] 94 := Blk.new' (by simp) _ _
  have hb0 : Below w.heap.size w ((w.alloc (.cells Tryz.zeroCells92 92)).alloc (.cells #[.int .i64 0, .int .i64 0] 94)) := ((Below.refl _ _).alloc (Nat.le_refl _) _).alloc (by simp) _
  have hsz0 : ((w.alloc (.cells Tryz.zeroCells92 92)).alloc (.cells #[.int .i64 0, .int .i64 0] 94)).heap.size = w.heap.size + 2 := by simp
  generalize hw0 : (w.alloc (.cells Tryz.zeroCells92 92)).alloc (.cells #[.int .i64 0, .int .i64 0] 94) = w0 at hI2 hF hb0 hsz0 ⊢
  clear hw0 hI
  refine (alloc_newReader w0).mono ?_
  rintro e w1 ⟨rfl, hR, b1⟩
  have hI3 := hI2.below b1 hI2.lt
  have hF3 := hF.below b1 hF.lt
  have hb1 := hb0.trans (b1.mono hb0.size)
  have hm1 : w1.cell? ⟨2, 0, none⟩ = some (.int .i64 m) := (hb1.cell (p := ⟨_, _, none⟩) hmlt).trans hm
  clear b1 hI2 hF
  go_wp2_with fail
  refine (Tryz.strings_Split _ _ m _ (by decide) hm1 (by decide)).mono ?_
  rintro e w2 ⟨rfl, rfl⟩
  have e1 : Lib.countB (ByteArray.mk #[]) (ByteArray.mk #[10]) = 0 := by decide
  have e2 : (List.map Value.string (Lib.splitB (ByteArray.mk #[10]) 0 0 (ByteArray.mk #[]))).toArray = #[.string ⟨#[]⟩] := by rfl
  rw [e1, e2]
  clear e1 e2
  have hL : Blk (w1.alloc (.cells #[.string ⟨#[]⟩] 9)) w1.heap.size #[.string ⟨#[]⟩] 9 := Blk.new _ _ _
  have hI4 := hI3.alloc (.cells #[.string ⟨#[]⟩] 9)
  have hF4 := hF3.alloc (.cells #[.string ⟨#[]⟩] 9)
  have hR4 : isReader (w1.alloc (.cells #[.string ⟨#[]⟩] 9)) (w.heap.size + 2) (w.heap.size + 2 + 1) := by
    rw [hsz0] at hR
    obtain ⟨h1, cs, h2, h3, h4⟩ := hR
    refine ⟨(Lib.alloc_old _ _ _ ?_).trans h1, cs, h2, h3.alloc _, h4⟩
    rcases Nat.lt_or_ge (w.heap.size + 2) w1.heap.size with h | h
    · exact h
    · simp [Array.getElem?_eq_none h] at h1
  have hb4 : Below w.heap.size w (w1.alloc (.cells #[.string ⟨#[]⟩] 9)) := hb1.alloc hb1.size _
  have hc4 := hL.cell 0
  generalize w1.alloc (.cells #[.string ⟨#[]⟩] 9) = w4 at hL hI4 hF4 hR4 hb4 hc4 ⊢
  clear hI3 hF3 hR hm1
  go_wp2_with fail
  go_loopw [19] (fun i wr => ∃ k : Nat, k ≤ 1 ∧ i = .int .i64 k ∧ Blk wr w.heap.size Tryz.zeroCells92 92 ∧ Blk wr (w.heap.size + 1) #[.int .i64 0, .int .i64 0] 94 ∧ isReader wr (w.heap.size + 2) (w.heap.size + 2 + 1) ∧ wr.cell? ⟨w1.heap.size, 0, none⟩ = some (.string ⟨#[]⟩) ∧ Below w.heap.size w wr) (fun i _ => 1 - (intOf i).toNat)
  case atStart => exact ⟨0, by omega, rfl, hI4, hF4, hR4, hc4, hb4⟩
  case round =>
    obtain ⟨k, hk, rfl, gI, gF, gR, gc, gb⟩ := hrel
    by_cases hlt : k < 1
    · have gck : wr.cell? ⟨w1.heap.size, k, none⟩ = some (.string ⟨#[]⟩) := by rw [show k = 0 by omega]; exact gc
      obtain ⟨wo, rfl⟩ : ∃ wo : World, wo = wr := ⟨_, rfl⟩
      go_wp2_with fail
      refine (hexa_Fields_empty wo).mono ?_
      rintro e w5 ⟨⟨a5, rfl⟩, b5⟩
      have b5' := gb.trans (b5.mono gb.size)
      have gI5 := gI.below b5 gI.lt
      have gF5 := gF.below b5 gF.lt
      have gR5 := gR.below b5
      have gc5 : w5.cell? ⟨w1.heap.size, 0, none⟩ = some (.string ⟨#[]⟩) := (b5.cell (p := ⟨_, _, none⟩) (cell_lt gc)).trans gc
      clear gck b5
      go_wp2_with fail
      go_roundw
      case rel => exact ⟨k + 1, hlt, by go_num, gI5, gF5, gR5, gc5, b5'⟩
      case measure => simp [intOf] <;> omega
    · obtain ⟨gm, cs, gs, gB, g599⟩ := gR
      have gl : wr.cell? ⟨w.heap.size + 2 + 1, 599, none⟩ = some (.map (some (w.heap.size + 2))) := (gB.cell 599).trans g599
      obtain ⟨wo, rfl⟩ : ∃ wo : World, wo = wr := ⟨_, rfl⟩
      go_wp2_with fail
      go_loopw [46] (fun i wr => i = .int .i64 0 ∧ wr = wo) (fun _ _ => 0)
      case atStart => exact ⟨rfl, rfl⟩
      case round =>
        obtain ⟨rfl, rfl⟩ := hrel
        have hix := ix0 wr
        have hlk := lk0 wr _ gm
        have hszI : (Tryz.prog.info? 92).map (·.size) = some Tryz.zeroCells92.size := by kernel_rfl
        have honI : Tryz.zeroCells92.all (·.oneCell') = true := by kernel_rfl
        have thI := (gI.alloc (.cells #[] 111)).there 0 Tryz.zeroCells92.size (by omega)
        go_wp2_with (first | (refine wpList_store_mid rfl 92 _ _ rfl _ _ Tryz.zeroCells92 rfl rfl thI hszI honI ?_; generalize hws : World.setCells _ _ _ _ = ws; have gF2 : Blk ws (w.heap.size + 1) #[.int .i64 0, .int .i64 0] 94 := (by rw [← hws]; exact (gF.alloc _).sets_ne _ _ _ (by omega)); have e0 : ws.cell? ⟨w.heap.size + 1, 0, none⟩ = some (.int .i64 0) := gF2.cell 0; have e1 : ws.cell? ⟨w.heap.size + 1, 1, none⟩ = some (.int .i64 0) := gF2.cell 1; have z0 := gF2.frozen 0; have z1 := gF2.frozen 1))
        have gI2 : Blk ws w.heap.size Tryz.zeroCells92 92 := by
          rw [← hws]; exact (gI.alloc _).sets_all rfl
        have hFF : Blk ((ws.setCell ⟨w.heap.size + 1, 0, none⟩ (.int .i64 8)).setCell ⟨w.heap.size + 1, 1, none⟩ (.int .i64 1)) (w.heap.size + 1) #[.int .i64 8, .int .i64 1] 94 := (gF2.set 0 _).set 1 _
        have hII := (gI2.set_ne (w.heap.size + 1) 0 (.int .i64 8) (by omega)).set_ne (w.heap.size + 1) 1 (.int .i64 1) (by omega)
        have hbs : Below w.heap.size w ws := by rw [← hws]; exact Below.setCells (gb.alloc gb.size _) (Nat.le_refl _) _ _
        refine bodyPost_ret (v := .tuple #[.agg Tryz.zeroCells92, .agg #[.int .i64 8, .int .i64 1]]) (results_two_arr rfl _ _ w.heap.size (w.heap.size + 1) _ _ _ _ rfl hII.all Tryz.underlying92 rfl hszI rfl hFF.all Tryz.underlying94 rfl size_fault) rfl ⟨rfl, ?_⟩
        exact (hbs.setCell (p := ⟨_, _, none⟩) (by simp) _).setCell (p := ⟨_, _, none⟩) (by simp) _
end Go.Proofs.YtlcokkiohilmlaaGreatDoor
