import Derived.Test.YtlcokkiohilmlaaGreatDoorCl
import Derived.SevenTiedAt
/- No function of the program starts a goroutine; one of them looks into an interface value. -/
namespace Go.Proofs.YtlcokkiohilmlaaGreatDoor
def stays (P : Program) (i : Nat) : Bool := !(P.funcs[i]?).any Func.goes
theorem stays_ok0 : (List.range' 0 32).all (stays Tryz.prog) = true := by kernel_rfl
theorem stays_ok1 : (List.range' 32 32).all (stays Tryz.prog) = true := by kernel_rfl
theorem stays_ok2 : (List.range' 64 32).all (stays Tryz.prog) = true := by kernel_rfl
theorem stays_ok3 : (List.range' 96 32).all (stays Tryz.prog) = true := by kernel_rfl
theorem stays_ok4 : (List.range' 128 32).all (stays Tryz.prog) = true := by kernel_rfl
theorem stays_ok5 : (List.range' 160 32).all (stays Tryz.prog) = true := by kernel_rfl
theorem stays_ok6 : (List.range' 192 32).all (stays Tryz.prog) = true := by kernel_rfl
theorem stays_ok7 : (List.range' 224 32).all (stays Tryz.prog) = true := by kernel_rfl
theorem stays_ok8 : (List.range' 256 32).all (stays Tryz.prog) = true := by kernel_rfl
theorem stays_ok9 : (List.range' 288 32).all (stays Tryz.prog) = true := by kernel_rfl
theorem stays_ok10 : (List.range' 320 32).all (stays Tryz.prog) = true := by kernel_rfl
theorem stays_ok11 : (List.range' 352 32).all (stays Tryz.prog) = true := by kernel_rfl
theorem stays_ok12 : (List.range' 384 32).all (stays Tryz.prog) = true := by kernel_rfl
theorem stays_ok13 : (List.range' 416 32).all (stays Tryz.prog) = true := by kernel_rfl
theorem stays_ok14 : (List.range' 448 32).all (stays Tryz.prog) = true := by kernel_rfl
theorem stays_ok15 : (List.range' 480 32).all (stays Tryz.prog) = true := by kernel_rfl
theorem stays_ok16 : (List.range' 512 32).all (stays Tryz.prog) = true := by kernel_rfl
theorem stays_ok17 : (List.range' 544 32).all (stays Tryz.prog) = true := by kernel_rfl
theorem stays_ok18 : (List.range' 576 32).all (stays Tryz.prog) = true := by kernel_rfl
theorem stays_ok19 : (List.range' 608 32).all (stays Tryz.prog) = true := by kernel_rfl
theorem stays_ok20 : (List.range' 640 32).all (stays Tryz.prog) = true := by kernel_rfl
theorem stays_ok21 : (List.range' 672 32).all (stays Tryz.prog) = true := by kernel_rfl
theorem stays_ok22 : (List.range' 704 32).all (stays Tryz.prog) = true := by kernel_rfl
theorem stays_ok23 : (List.range' 736 32).all (stays Tryz.prog) = true := by kernel_rfl
theorem stays_all : ∀ i : Nat, stays Tryz.prog i = true := by
  intro i
  by_cases hN : i < 768
  · by_cases h12 : i < 384
    · by_cases h6 : i < 192
      · by_cases h3 : i < 96
        · by_cases h1 : i < 32
          · exact chunk (f := stays Tryz.prog) (i := i) (a := 0) (n := 32) stays_ok0 (by omega) (by omega)
          · by_cases h2 : i < 64
            · exact chunk (f := stays Tryz.prog) (i := i) (a := 32) (n := 32) stays_ok1 (by omega) (by omega)
            · exact chunk (f := stays Tryz.prog) (i := i) (a := 64) (n := 32) stays_ok2 (by omega) (by omega)
        · by_cases h4 : i < 128
          · exact chunk (f := stays Tryz.prog) (i := i) (a := 96) (n := 32) stays_ok3 (by omega) (by omega)
          · by_cases h5 : i < 160
            · exact chunk (f := stays Tryz.prog) (i := i) (a := 128) (n := 32) stays_ok4 (by omega) (by omega)
            · exact chunk (f := stays Tryz.prog) (i := i) (a := 160) (n := 32) stays_ok5 (by omega) (by omega)
      · by_cases h9 : i < 288
        · by_cases h7 : i < 224
          · exact chunk (f := stays Tryz.prog) (i := i) (a := 192) (n := 32) stays_ok6 (by omega) (by omega)
          · by_cases h8 : i < 256
            · exact chunk (f := stays Tryz.prog) (i := i) (a := 224) (n := 32) stays_ok7 (by omega) (by omega)
            · exact chunk (f := stays Tryz.prog) (i := i) (a := 256) (n := 32) stays_ok8 (by omega) (by omega)
        · by_cases h10 : i < 320
          · exact chunk (f := stays Tryz.prog) (i := i) (a := 288) (n := 32) stays_ok9 (by omega) (by omega)
          · by_cases h11 : i < 352
            · exact chunk (f := stays Tryz.prog) (i := i) (a := 320) (n := 32) stays_ok10 (by omega) (by omega)
            · exact chunk (f := stays Tryz.prog) (i := i) (a := 352) (n := 32) stays_ok11 (by omega) (by omega)
    · by_cases h18 : i < 576
      · by_cases h15 : i < 480
        · by_cases h13 : i < 416
          · exact chunk (f := stays Tryz.prog) (i := i) (a := 384) (n := 32) stays_ok12 (by omega) (by omega)
          · by_cases h14 : i < 448
            · exact chunk (f := stays Tryz.prog) (i := i) (a := 416) (n := 32) stays_ok13 (by omega) (by omega)
            · exact chunk (f := stays Tryz.prog) (i := i) (a := 448) (n := 32) stays_ok14 (by omega) (by omega)
        · by_cases h16 : i < 512
          · exact chunk (f := stays Tryz.prog) (i := i) (a := 480) (n := 32) stays_ok15 (by omega) (by omega)
          · by_cases h17 : i < 544
            · exact chunk (f := stays Tryz.prog) (i := i) (a := 512) (n := 32) stays_ok16 (by omega) (by omega)
            · exact chunk (f := stays Tryz.prog) (i := i) (a := 544) (n := 32) stays_ok17 (by omega) (by omega)
      · by_cases h21 : i < 672
        · by_cases h19 : i < 608
          · exact chunk (f := stays Tryz.prog) (i := i) (a := 576) (n := 32) stays_ok18 (by omega) (by omega)
          · by_cases h20 : i < 640
            · exact chunk (f := stays Tryz.prog) (i := i) (a := 608) (n := 32) stays_ok19 (by omega) (by omega)
            · exact chunk (f := stays Tryz.prog) (i := i) (a := 640) (n := 32) stays_ok20 (by omega) (by omega)
        · by_cases h22 : i < 704
          · exact chunk (f := stays Tryz.prog) (i := i) (a := 672) (n := 32) stays_ok21 (by omega) (by omega)
          · by_cases h23 : i < 736
            · exact chunk (f := stays Tryz.prog) (i := i) (a := 704) (n := 32) stays_ok22 (by omega) (by omega)
            · exact chunk (f := stays Tryz.prog) (i := i) (a := 736) (n := 32) stays_ok23 (by omega) (by omega)
  · have h1 : Tryz.prog.funcs[i]? = none := Array.getElem?_eq_none (by rw [funcs_n]; omega)
    unfold stays
    rw [h1]; rfl
theorem funcs_stay : Tryz.prog.funcs.any Func.goes = false := by
  rw [Bool.eq_false_iff]
  intro h
  rw [Array.any_eq_true] at h
  obtain ⟨i, hi, hg⟩ := h
  have := stays_all i
  unfold stays at this
  rw [Array.getElem?_eq_getElem hi] at this
  simp [hg] at this
theorem goes_no (f : Nat) : Tryz.prog.goes f = false := by
  unfold Program.goes
  rw [funcs_stay, Bool.and_false, Bool.or_false, List.any_eq_false]
  intro g _
  have := stays_all g
  unfold stays at this
  simpa using this
theorem looks_yes : Tryz.prog.looks [] = true := by
  unfold Program.looks
  rw [List.any_eq_true]
  exact ⟨23, List.mem_range.2 (by rw [funcs_n]; omega), by kernel_rfl⟩
end Go.Proofs.YtlcokkiohilmlaaGreatDoor
