import Derived.Test.YtlcokkiohilmlaaGreatDoorBk
/- The program's types, fifty at a time: all rows are laid out. -/
namespace Go.Proofs.YtlcokkiohilmlaaGreatDoor
def mapRow (P : Program) (t : TypeId) : Bool := match P.underlying t with | some (.map _ e) => decide (e < P.types.size) | _ => true
theorem types_n : Tryz.prog.types.size = 883 := by kernel_rfl
theorem row0 : (List.range' 0 50).all (rowFine Tryz.prog) = true := by kernel_rfl
theorem row1 : (List.range' 50 50).all (rowFine Tryz.prog) = true := by kernel_rfl
theorem row2 : (List.range' 100 50).all (rowFine Tryz.prog) = true := by kernel_rfl
theorem row3 : (List.range' 150 50).all (rowFine Tryz.prog) = true := by kernel_rfl
theorem row4 : (List.range' 200 50).all (rowFine Tryz.prog) = true := by kernel_rfl
theorem row5 : (List.range' 250 50).all (rowFine Tryz.prog) = true := by kernel_rfl
theorem row6 : (List.range' 300 50).all (rowFine Tryz.prog) = true := by kernel_rfl
theorem row7 : (List.range' 350 50).all (rowFine Tryz.prog) = true := by kernel_rfl
theorem row8 : (List.range' 400 50).all (rowFine Tryz.prog) = true := by kernel_rfl
theorem row9 : (List.range' 450 50).all (rowFine Tryz.prog) = true := by kernel_rfl
theorem row10 : (List.range' 500 50).all (rowFine Tryz.prog) = true := by kernel_rfl
theorem row11 : (List.range' 550 50).all (rowFine Tryz.prog) = true := by kernel_rfl
theorem row12 : (List.range' 600 50).all (rowFine Tryz.prog) = true := by kernel_rfl
theorem row13 : (List.range' 650 50).all (rowFine Tryz.prog) = true := by kernel_rfl
theorem row14 : (List.range' 700 50).all (rowFine Tryz.prog) = true := by kernel_rfl
theorem row15 : (List.range' 750 50).all (rowFine Tryz.prog) = true := by kernel_rfl
theorem row16 : (List.range' 800 50).all (rowFine Tryz.prog) = true := by kernel_rfl
theorem row17 : (List.range' 850 33).all (rowFine Tryz.prog) = true := by kernel_rfl
theorem mrow0 : (List.range' 0 50).all (mapRow Tryz.prog) = true := by kernel_rfl
theorem mrow1 : (List.range' 50 50).all (mapRow Tryz.prog) = true := by kernel_rfl
theorem mrow2 : (List.range' 100 50).all (mapRow Tryz.prog) = true := by kernel_rfl
theorem mrow3 : (List.range' 150 50).all (mapRow Tryz.prog) = true := by kernel_rfl
theorem mrow4 : (List.range' 200 50).all (mapRow Tryz.prog) = true := by kernel_rfl
theorem mrow5 : (List.range' 250 50).all (mapRow Tryz.prog) = true := by kernel_rfl
theorem mrow6 : (List.range' 300 50).all (mapRow Tryz.prog) = true := by kernel_rfl
theorem mrow7 : (List.range' 350 50).all (mapRow Tryz.prog) = true := by kernel_rfl
theorem mrow8 : (List.range' 400 50).all (mapRow Tryz.prog) = true := by kernel_rfl
theorem mrow9 : (List.range' 450 50).all (mapRow Tryz.prog) = true := by kernel_rfl
theorem mrow10 : (List.range' 500 50).all (mapRow Tryz.prog) = true := by kernel_rfl
theorem mrow11 : (List.range' 550 50).all (mapRow Tryz.prog) = true := by kernel_rfl
theorem mrow12 : (List.range' 600 50).all (mapRow Tryz.prog) = true := by kernel_rfl
theorem mrow13 : (List.range' 650 50).all (mapRow Tryz.prog) = true := by kernel_rfl
theorem mrow14 : (List.range' 700 50).all (mapRow Tryz.prog) = true := by kernel_rfl
theorem mrow15 : (List.range' 750 50).all (mapRow Tryz.prog) = true := by kernel_rfl
theorem mrow16 : (List.range' 800 50).all (mapRow Tryz.prog) = true := by kernel_rfl
theorem mrow17 : (List.range' 850 33).all (mapRow Tryz.prog) = true := by kernel_rfl
theorem globals_in : Tryz.prog.globals.all (fun g => decide (g.type < Tryz.prog.types.size)) = true := by kernel_rfl
theorem funcs_in : Tryz.prog.funcs.all (fun f => f.params.all fun t => decide (t < Tryz.prog.types.size)) = true := by
  rw [types_n]
  kernel_rfl
set_option maxRecDepth 100000 in
theorem rows_fine : ∀ i : Nat, i < 883 → rowFine Tryz.prog i = true := by
  intro i hi
  by_cases h9 : i < 450
  · by_cases h4 : i < 200
    · by_cases h2 : i < 100
      · by_cases h1 : i < 50
        · exact chunk (f := rowFine Tryz.prog) (i := i) (a := 0) (n := 50) row0 (by omega) (by omega)
        · exact chunk (f := rowFine Tryz.prog) (i := i) (a := 50) (n := 50) row1 (by omega) (by omega)
      · by_cases h3 : i < 150
        · exact chunk (f := rowFine Tryz.prog) (i := i) (a := 100) (n := 50) row2 (by omega) (by omega)
        · exact chunk (f := rowFine Tryz.prog) (i := i) (a := 150) (n := 50) row3 (by omega) (by omega)
    · by_cases h6 : i < 300
      · by_cases h5 : i < 250
        · exact chunk (f := rowFine Tryz.prog) (i := i) (a := 200) (n := 50) row4 (by omega) (by omega)
        · exact chunk (f := rowFine Tryz.prog) (i := i) (a := 250) (n := 50) row5 (by omega) (by omega)
      · by_cases h7 : i < 350
        · exact chunk (f := rowFine Tryz.prog) (i := i) (a := 300) (n := 50) row6 (by omega) (by omega)
        · by_cases h8 : i < 400
          · exact chunk (f := rowFine Tryz.prog) (i := i) (a := 350) (n := 50) row7 (by omega) (by omega)
          · exact chunk (f := rowFine Tryz.prog) (i := i) (a := 400) (n := 50) row8 (by omega) (by omega)
  · by_cases h13 : i < 650
    · by_cases h11 : i < 550
      · by_cases h10 : i < 500
        · exact chunk (f := rowFine Tryz.prog) (i := i) (a := 450) (n := 50) row9 (by omega) (by omega)
        · exact chunk (f := rowFine Tryz.prog) (i := i) (a := 500) (n := 50) row10 (by omega) (by omega)
      · by_cases h12 : i < 600
        · exact chunk (f := rowFine Tryz.prog) (i := i) (a := 550) (n := 50) row11 (by omega) (by omega)
        · exact chunk (f := rowFine Tryz.prog) (i := i) (a := 600) (n := 50) row12 (by omega) (by omega)
    · by_cases h15 : i < 750
      · by_cases h14 : i < 700
        · exact chunk (f := rowFine Tryz.prog) (i := i) (a := 650) (n := 50) row13 (by omega) (by omega)
        · exact chunk (f := rowFine Tryz.prog) (i := i) (a := 700) (n := 50) row14 (by omega) (by omega)
      · by_cases h16 : i < 800
        · exact chunk (f := rowFine Tryz.prog) (i := i) (a := 750) (n := 50) row15 (by omega) (by omega)
        · by_cases h17 : i < 850
          · exact chunk (f := rowFine Tryz.prog) (i := i) (a := 800) (n := 50) row16 (by omega) (by omega)
          · exact chunk (f := rowFine Tryz.prog) (i := i) (a := 850) (n := 33) row17 (by omega) (by omega)
set_option maxRecDepth 100000 in
theorem map_rows : ∀ i : Nat, i < 883 → mapRow Tryz.prog i = true := by
  intro i hi
  by_cases h9 : i < 450
  · by_cases h4 : i < 200
    · by_cases h2 : i < 100
      · by_cases h1 : i < 50
        · exact chunk (f := mapRow Tryz.prog) (i := i) (a := 0) (n := 50) mrow0 (by omega) (by omega)
        · exact chunk (f := mapRow Tryz.prog) (i := i) (a := 50) (n := 50) mrow1 (by omega) (by omega)
      · by_cases h3 : i < 150
        · exact chunk (f := mapRow Tryz.prog) (i := i) (a := 100) (n := 50) mrow2 (by omega) (by omega)
        · exact chunk (f := mapRow Tryz.prog) (i := i) (a := 150) (n := 50) mrow3 (by omega) (by omega)
    · by_cases h6 : i < 300
      · by_cases h5 : i < 250
        · exact chunk (f := mapRow Tryz.prog) (i := i) (a := 200) (n := 50) mrow4 (by omega) (by omega)
        · exact chunk (f := mapRow Tryz.prog) (i := i) (a := 250) (n := 50) mrow5 (by omega) (by omega)
      · by_cases h7 : i < 350
        · exact chunk (f := mapRow Tryz.prog) (i := i) (a := 300) (n := 50) mrow6 (by omega) (by omega)
        · by_cases h8 : i < 400
          · exact chunk (f := mapRow Tryz.prog) (i := i) (a := 350) (n := 50) mrow7 (by omega) (by omega)
          · exact chunk (f := mapRow Tryz.prog) (i := i) (a := 400) (n := 50) mrow8 (by omega) (by omega)
  · by_cases h13 : i < 650
    · by_cases h11 : i < 550
      · by_cases h10 : i < 500
        · exact chunk (f := mapRow Tryz.prog) (i := i) (a := 450) (n := 50) mrow9 (by omega) (by omega)
        · exact chunk (f := mapRow Tryz.prog) (i := i) (a := 500) (n := 50) mrow10 (by omega) (by omega)
      · by_cases h12 : i < 600
        · exact chunk (f := mapRow Tryz.prog) (i := i) (a := 550) (n := 50) mrow11 (by omega) (by omega)
        · exact chunk (f := mapRow Tryz.prog) (i := i) (a := 600) (n := 50) mrow12 (by omega) (by omega)
    · by_cases h15 : i < 750
      · by_cases h14 : i < 700
        · exact chunk (f := mapRow Tryz.prog) (i := i) (a := 650) (n := 50) mrow13 (by omega) (by omega)
        · exact chunk (f := mapRow Tryz.prog) (i := i) (a := 700) (n := 50) mrow14 (by omega) (by omega)
      · by_cases h16 : i < 800
        · exact chunk (f := mapRow Tryz.prog) (i := i) (a := 750) (n := 50) mrow15 (by omega) (by omega)
        · by_cases h17 : i < 850
          · exact chunk (f := mapRow Tryz.prog) (i := i) (a := 800) (n := 50) mrow16 (by omega) (by omega)
          · exact chunk (f := mapRow Tryz.prog) (i := i) (a := 850) (n := 33) mrow17 (by omega) (by omega)
set_option maxRecDepth 100000 in
theorem laid_out : laidOutB Tryz.prog = true := by
  unfold laidOutB
  rw [Bool.and_eq_true, Bool.and_eq_true]
  refine ⟨⟨?_, globals_in⟩, funcs_in⟩
  rw [types_n, List.all_eq_true]
  exact fun i hi => rows_fine i (List.mem_range.1 hi)
set_option maxRecDepth 100000 in
theorem maps_rowed : mapsRowed Tryz.prog = true := by
  unfold mapsRowed
  rw [List.all_eq_true]
  intro i hi
  rw [types_n] at hi
  show mapRow Tryz.prog i = true
  exact map_rows i (List.mem_range.1 hi)
end Go.Proofs.YtlcokkiohilmlaaGreatDoor
