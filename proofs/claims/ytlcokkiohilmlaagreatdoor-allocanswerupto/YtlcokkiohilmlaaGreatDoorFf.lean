import Derived.Test.YtlcokkiohilmlaaGreatDoorNr
namespace Go.Proofs.YtlcokkiohilmlaaGreatDoor
open Go.RowKit
theorem info_span : (Tryz.prog.info? 138).map (fun i => (i.zero, i.size, i.bytes)) = some (some (.agg #[.int .i64 0, .int .i64 0]), 2, 16) := by kernel_rfl
theorem info_str : (Tryz.prog.info? 9).map (fun i => (i.zero, i.size, i.bytes)) = some (some (.string ⟨#[]⟩), 1, 16) := by kernel_rfl
theorem und_spans : Tryz.prog.underlying 136 = some (.slice 138) := by kernel_rfl
theorem und_strs : Tryz.prog.underlying 72 = some (.slice 9) := by kernel_rfl
theorem makeSpans : ∃ cs, ∀ w, (Instr.makeSlice 136 (.int .i64 0) (.int .i64 32)).run Tryz.prog w = .ok (.slice (some ⟨w.heap.size, 0, none⟩) 0 32) (w.alloc (.cells cs 138)) := by
  obtain ⟨i0, hi, hz0, hz1, hz2⟩ := info_parts info_span
  exact ⟨_, fun w => run_make (P := Tryz.prog) w 136 138 i0 _ und_spans hi hz0 .i64 .i64 0 32 (by omega) (by omega) (by rw [hz2]; omega) (by omega)⟩
theorem makeStrs0 : ∃ cs, ∀ w, (Instr.makeSlice 72 (.int .i64 0) (.int .i64 0)).run Tryz.prog w = .ok (.slice (some ⟨w.heap.size, 0, none⟩) 0 0) (w.alloc (.cells cs 9)) := by
  obtain ⟨i0, hi, hz0, hz1, hz2⟩ := info_parts info_str
  exact ⟨_, fun w => run_make (P := Tryz.prog) w 72 9 i0 _ und_strs hi hz0 .i64 .i64 0 0 (by omega) (by omega) (by rw [hz2]; omega) (by omega)⟩
set_option maxRecDepth 100000 in
set_option maxHeartbeats 1600000 in
theorem FieldsFunc_empty (f : Value) (w : World) :
    Calls Tryz.prog 36 #[.string ⟨#[]⟩, f] w fun e w' => (∃ a, e = .returned (.slice a 0 0)) ∧ Below w.heap.size w w' := by
  obtain ⟨c1, m1⟩ := makeSpans
  obtain ⟨c2, m2⟩ := makeStrs0
  go_enter Tryz.func36, Tryz.ntmps36
  go_wp2_with fail
  go_loopw [5, 6] (fun o i wr => o = .slice (some ⟨w.heap.size, 0, none⟩) 0 32 ∧ i = .int .i64 (-1) ∧ wr = World.iter (w.alloc (.cells c1 138)) ⟨#[]⟩ 0) (fun _ _ _ => 0)
  case atStart => exact ⟨rfl, rfl, rfl⟩
  case round =>
    obtain ⟨rfl, rfl, rfl⟩ := hrel
    have hend : ∀ ty, (Instr.next (.pointer (some ⟨w.heap.size + 1, 0, none⟩)) true ty).run Tryz.prog (World.iter (w.alloc (.cells c1 138)) ⟨#[]⟩ 0) = .ok (.tuple #[.bool false]) (World.iter (w.alloc (.cells c1 138)) ⟨#[]⟩ 0) := by
      intro ty
      have h := run_next_end (P := Tryz.prog) (w.alloc (.cells c1 138)) ⟨#[]⟩ 0 ty (by decide)
      have e : (w.alloc (.cells c1 138)).heap.size = w.heap.size + 1 := by simp
      rwa [e] at h
    have hb1 : Below w.heap.size w (World.iter (w.alloc (.cells c1 138)) ⟨#[]⟩ 0) := ((Below.refl _ _).alloc (Nat.le_refl _) _).trans ((Below.refl _ _).alloc (by simp) _)
    generalize hwi : World.iter (w.alloc (.cells c1 138)) ⟨#[]⟩ 0 = wi at hend hb1 ⊢
    clear hwi
    go_wp2_with fail
    go_loopw [49] (fun i wr => i = .int .i64 0 ∧ Below w.heap.size w wr) (fun _ _ => 0)
    case atStart => exact ⟨rfl, hb1.alloc hb1.size _⟩
    case round =>
      obtain ⟨rfl, hbw⟩ := hrel
      go_wp2_with fail
      go_ret
      exact ⟨⟨_, rfl⟩, hbw⟩
end Go.Proofs.YtlcokkiohilmlaaGreatDoor
