import Derived.Test.YtlcokkiohilmlaaGreatDoorBl
import Derived.Test.YtlcokkiohilmlaaGreatDoorCl
/- The row's closed facts, together. -/
namespace Go.Proofs.YtlcokkiohilmlaaGreatDoor
theorem unf_row : Rows.allocAnswerUptoRow.unfollowed = true := rfl
set_option maxRecDepth 100000 in
theorem f_inPlace : (Rows.allocAnswerUptoRow.inPlace == Tryz.prog.inPlace 3) = true := by
  rw [inPlace_is (l := Rows.allocAnswerUptoRow.inPlace) (by kernel_rfl)]; exact beq_self_eq_true _
set_option maxRecDepth 100000 in
theorem f_named : (Rows.allocAnswerUptoRow.named == Tryz.prog.varsNamed 3) = true := by
  rw [named_is (l := Rows.allocAnswerUptoRow.named) (by kernel_rfl)]; exact beq_self_eq_true _
theorem f_unf : (Rows.allocAnswerUptoRow.unfollowed == Tryz.prog.unfollowed 3) = true := by rw [unfollowed_is]; rfl
theorem f_rec : (Rows.allocAnswerUptoRow.recurses == Tryz.prog.recurses 3) = true := by rw [recurses_is]; rfl
theorem pars : Tryz.f3.params.toList = [29, 3] := by rw [Tryz.params3]
theorem ress : Tryz.f3.resultTypes.toList = [4] := by kernel_rfl
theorem vts : (Rows.OpenSpec.upto Rows.allocAnswerSpec).bare.plain.varTypes Tryz.prog = [] := by kernel_rfl
theorem lvt : ((Rows.allocAnswerUptoRow.laid.filterMap fun x => (Tryz.prog.globalNamed x.1).bind fun g => (Tryz.prog.globals[g]?).map (·.type)).all fun t => fixed Tryz.prog t && !vlB Tryz.prog t) = true := by kernel_rfl
theorem any_no {f : TypeId → Bool} {l : List TypeId} (h : ∀ t ∈ l, f t = false) : l.any f = false := by
  rw [List.any_eq_false]
  intro t ht
  rw [h t ht]; simp
theorem pl3 (t : TypeId) (h : t ∈ [29, 3] ++ [] ++ [4]) : PlainT Tryz.prog t := by
  simp only [List.append_nil, List.cons_append, List.nil_append, List.mem_cons, List.mem_nil_iff, or_false] at h
  rcases h with rfl | rfl | rfl
  · exact pl_res
  · exact pl_int
  · exact pl_bool
theorem pl2 (t : TypeId) (h : t ∈ [29, 3] ++ []) : PlainT Tryz.prog t := pl3 t (List.mem_append_left _ h)
theorem f_par : Tryz.f3.params.all (Tryz.prog.readableRec ·) = true := by
  rw [← Array.all_toList, pars, List.all_eq_true]
  exact fun t h => (pl2 t (by simpa using h)).rd
theorem f_res : Tryz.f3.resultTypes.all (fun t => Tryz.prog.readableRec t && decide (t < Tryz.prog.types.size)) = true := by
  rw [← Array.all_toList, ress, List.all_eq_true]
  intro t h
  obtain rfl : t = 4 := by simpa using h
  rw [pl_bool.rd, types_n]; rfl
set_option maxRecDepth 100000 in
set_option maxHeartbeats 1000000 in
theorem closed : joinedFacts Tryz.prog 3 Tryz.f3 (Rows.OpenSpec.upto Rows.allocAnswerSpec).bare Rows.allocAnswerUptoRow = true := by
  unfold joinedFacts
  rw [pars, ress, vts]
  simp only [Bool.and_eq_true]
  refine ⟨⟨⟨⟨⟨⟨⟨⟨⟨⟨⟨⟨⟨⟨⟨⟨⟨⟨⟨⟨⟨⟨⟨⟨⟨⟨⟨⟨⟨⟨⟨by kernel_rfl, laid_out⟩, maps_rowed⟩, f_par⟩, by kernel_rfl⟩, by kernel_rfl⟩, by kernel_rfl⟩, by kernel_rfl⟩, by kernel_rfl⟩, f_inPlace⟩, f_unf⟩, f_rec⟩, f_named⟩, by rw [any_no (fun t h => (pl2 t h).mp)]; rfl⟩, by rw [any_no (fun t h => (pl2 t h).ifc)]; rfl⟩, by kernel_rfl⟩, by rw [any_no (fun t h => (pl2 t h).lp)]; rfl⟩, by rw [any_no (fun t h => (pl3 t h).wk)]; rfl⟩, by kernel_rfl⟩, f_res⟩, by rw [any_no (l := [4]) (fun t h => (pl3 t (List.mem_append_right _ h)).ifc)]; rfl⟩, by rw [any_no (l := [4]) (fun t h => (pl3 t (List.mem_append_right _ h)).lp)]; rfl⟩, by kernel_rfl⟩, by kernel_rfl⟩, by kernel_rfl⟩, by kernel_rfl⟩, by kernel_rfl⟩, by kernel_rfl⟩, by kernel_rfl⟩, by kernel_rfl⟩, by rw [any_no (fun t h => (pl3 t h).vl)]; rfl⟩, ?_⟩
  unfold OpenClaim.veiledFits
  rw [Bool.and_eq_true]
  refine ⟨rfl, ?_⟩
  rw [Bool.or_eq_true]
  refine .inl ?_
  rw [List.all_append, Bool.and_eq_true, List.all_eq_true, List.all_eq_true]
  refine ⟨fun t h => own_of (pl3 t h).vl, fun t h => ?_⟩
  have := List.all_eq_true.1 lvt t h
  rw [Bool.and_eq_true, Bool.not_eq_true'] at this
  exact own_of (veiled_of types8 this.1 this.2)
end Go.Proofs.YtlcokkiohilmlaaGreatDoor
