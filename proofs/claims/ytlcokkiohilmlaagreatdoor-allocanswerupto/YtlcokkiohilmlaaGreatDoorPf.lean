/- AllocAnswer: for every result and every error, what is read being of bulk at most 1048576, the program's text and the document's are the same: the row's second form and its card. -/
import Derived.Test.YtlcokkiohilmlaaGreatDoorCards
import Derived.Test.YtlcokkiohilmlaaGreatDoorTy
import Derived.Test.YtlcokkiohilmlaaGreatDoorAl
import Derived.Test.YtlcokkiohilmlaaGreatDoorJf
import Derived.Test.YtlcokkiohilmlaaGreatDoorGs
import Derived.Test.YtlcokkiohilmlaaGreatDoorOq
import Derived.ProofKit
import Derived.OpenShut
import Derived.Lay
import Derived.LaidMore
import Derived.LaidLaws
import Derived.SevenTiedAt
import Derived.Stop.Joined
import Derived.Deep.DeepHandedRow
import Derived.Lib.LaidTab
import Derived.Lib.LaidU8
import Derived.Shelf.Vars
namespace Go.Proofs.YtlcokkiohilmlaaGreatDoor
open Go.ChangeShapes Go.WideShapes Go.ChangeAt Go.RowKit

theorem own : ownKnob Tryz.prog.godebug = none := by kernel_rfl
theorem gSpType : (Tryz.prog.globals[0]?).map (·.type) = some 25 := by kernel_rfl
theorem gSpData : (Rows.laid_strings_asciiSpace : DataW Unit) = Lib.tabData .u8 Lib.asciiSpaceTab := by kernel_rfl
/-- what the row's list gives: the library's table of blanks -/
theorem sp_of {W : World} (h : laidMetH Tryz.prog Rows.allocAnswerUptoRow.laid W) : Sp W := by
  rw [MakeChecks.laidMetH_plain _ _ _ (by kernel_rfl)] at h
  have hr := Lib.laidMet.reads h (n := "strings.asciiSpace") (d := Rows.laid_strings_asciiSpace) (.tail _ (.tail _ (.head _)))
  obtain ⟨g', t', cs, fuel, p, hg', ht', hvar, hd⟩ := hr
  obtain rfl := Option.some.inj (g_space.symm.trans hg')
  obtain rfl := Option.some.inj (gSpType.symm.trans ht')
  rw [gSpData] at hd
  unfold Sp Lib.TabIs
  rw [hvar, ← Lib.cells_of_tab Tryz.underlying25 Tryz.underlying5 co_u8 co_b256 hd]
theorem mx_of {W : World} (h : W.ShapedOpen Tryz.prog) : Mx W :=
  cell_of_shapedOpen_int (zero := #[.int .i64 0]) h (of_decide_eq_true (by kernel_rfl)) (t := 3) (by kernel_rfl) rfl (by kernel_rfl) (by kernel_rfl) Tryz.underlying3
theorem bulk_is {H : Type} : Bulk (H := H) 200 (fun d => 200 * Rows.uptoBulk d) (fun l => 200 * Rows.uptoBulkAll l) where
  one d := by
    have : 1 ≤ Rows.uptoBulk d := by
      cases d with
      | lit l => cases l <;> simp [Rows.uptoBulk]
      | nil => simp [Rows.uptoBulk]
      | ptr d => simp [Rows.uptoBulk]
      | slice elems spare => simp [Rows.uptoBulk]
      | agg parts => simp [Rows.uptoBulk]
      | iface t d => simp [Rows.uptoBulk]
      | map entries => simp [Rows.uptoBulk]
      | held h => simp [Rows.uptoBulk]
    omega
  nil := by simp [Rows.uptoBulkAll]
  cons d r := by simp only [Rows.uptoBulkAll]; omega
  slice e s := by simp only [Rows.uptoBulk]; omega
  agg p := by simp only [Rows.uptoBulk]; omega
theorem small {H : Type} {d0 d1 : DataW H} (hk : Rows.uptoSmall H [d0, d1] = true) : Rows.uptoBulk d0 ≤ 1048576 := by
  have h : Rows.uptoBulkAll [d0, d1] ≤ 1048576 := of_decide_eq_true hk
  simp only [Rows.uptoBulkAll] at h
  omega

set_option maxRecDepth 100000 in
/-- WHAT THE WALK GIVES, FOR EVERY ARGUMENT OF THAT BULK AND EVERY WORLD THAT HOLDS THE TABLES -/
theorem contract (H : Type) (enc : TypeId × Value → H) (F : Stop.Interp) (W : World) (base : Nat) (args : Array Value) (ds gs : List (DataW H)) (before : List MemPlace)
    (hval : ∀ (j : Nat) t v, Tryz.f3.params[j]? = some t → args[j]? = some v → Value.okWide Tryz.prog W .any base t v)
    (hW : DataW.Whole enc Tryz.prog Tryz.f3.params.toList Rows.allocAnswerSpec.vars false W args.toList ds gs before) (hk : Rows.uptoSmall H (ds ++ gs) = true) (hL : laidMetH Tryz.prog Rows.allocAnswerUptoRow.laid W) (hsh : W.ShapedOpen Tryz.prog) :
    Calls Tryz.prog 3 args W fun e W' => ∃ v, e = .returned v ∧ ((Rows.OpenSpec.upto Rows.allocAnswerSpec).at F).post enc Tryz.prog Tryz.f3 false true false false W args v W' := by
  have hW' := hW
  obtain ⟨p, q, hA0, hV, rfl, hfz, hnd⟩ := hW
  have hA : DataW.TrodAll enc Tryz.prog W 0 (fun _ => true) true Tryz.f3.params.toList args.toList ds p := hA0
  rw [Tryz.params3] at hA hval
  obtain ⟨v0, v1, d0, d1, p0, p1, rfl, rfl, rfl, h0, h1⟩ := trodAll_two hA
  obtain ⟨rfl, rfl⟩ := trodVars_none hV
  obtain ⟨cs, rfl, hcs⟩ := okWide_struct Tryz.underlying29 (hval 0 29 v0 rfl rfl)
  obtain ⟨e, rfl, rfl, rfl, we⟩ := open_int Tryz.underlying3 (hval 1 3 v1 rfl rfl) h1
  have hb := bounds_i64 we
  clear hA0
  simp only [List.append_nil] at hW' hk
  have hlt : ∀ x ∈ p0, x.block < W.heap.size := fun x hx => by simpa using hW'.lt x (by simpa using hx)
  obtain ⟨fuel0, hf0⟩ := id h0
  obtain ⟨d, hd, hw⟩ := op_res bulk_is hf0
  have hd' : ResV W.heap.size W cs d := by simpa [Value.cells] using hd
  have hsm := small hk
  have hw2 : (recsS d.recs).length + (d.alloc.map fun a => (accS (cutA a)).length + a.code.length).sum ≤ 200 * Rows.uptoBulk d0 := hw
  clear hw
  have ha := accs_sum d.alloc
  have hac := code_sum d.alloc
  have hal := flatMap_ge accS (fun d => by have := lineS_pos (accP d); simp only [accS, List.length_append]; omega) (d.alloc.map cutA)
  rw [List.length_map] at hal
  simp only [accsS] at ha
  refine (law23_AllocAnswer W cs d e (mx_of hsh) (sp_of hL) hb.1 hb.2 hd' (by simp only [accsS]; omega) (by omega) (fun a h => by have := hac a h; omega)).mono fun r W' ⟨he, hbl⟩ => ?_
  subst he
  have e1 : ((Rows.OpenSpec.upto Rows.allocAnswerSpec).at F).fn H ([d0, .lit (.int .i64 e)] ++ []) = { results := [.lit (.bool true)], args := [d0, .lit (.int .i64 e)] } := rfl
  refine ⟨_, rfl, _, _, _, [], p0 ++ [], [], hW', ?_, ?_, ?_, hbl.frame _, fun h => by cases h⟩
  · rw [e1]; exact trodAll_mk1 (shut_bool Tryz.underlying4 _)
  · rw [e1]; exact trodAll_mk2 (Below.trod laid_out pl_res.rd (by rw [types_n]; decide) h0 hbl hlt) (shut_int Tryz.underlying3 we)
  · rw [e1]; rfl

noncomputable def args0 : Array Value := #[.agg Tryz.zeroCells29, .int .i64 0]
noncomputable def world0 (os : Os) : World := World.laidAll Tryz.prog os Rows.allocAnswerUptoRow.laid
theorem world0_shaped (os : Os) : ((world0 os).forCall (fun _ _ => 0) ⟨#[], args0, []⟩).Shaped Tryz.prog := World.shaped_of_ZipB (by kernel_rfl) (by kernel_rfl)
theorem world0_ok (os : Os) : Input.okWideB Tryz.prog ((world0 os).forCall (fun _ _ => 0) ⟨#[], args0, []⟩) 3 ⟨#[], args0, []⟩ = true := by kernel_rfl
theorem world0_laid (os : Os) : laidMetH Tryz.prog Rows.allocAnswerUptoRow.laid ((world0 os).forCall (fun _ _ => 0) ⟨#[], args0, []⟩).memory := by
  rw [MakeChecks.laidMetH_plain _ _ _ (by kernel_rfl)]
  exact laidMet_laidAll _ (by kernel_rfl) (by kernel_rfl)
theorem world0_reads (os : Os) {H : Type} (enc : TypeId × Value → H) :
    (DataW.whole enc Tryz.prog ((world0 os).forCall (fun _ _ => 0) ⟨#[], args0, []⟩).memory Tryz.f3.params.toList Rows.allocAnswerSpec.vars false args0.toList 8).map (fun x => Rows.uptoSmall H (x.1 ++ x.2.1)) = some true := by kernel_rfl
theorem world0_sized (os : Os) {H : Type} (enc : TypeId × Value → H) : (Rows.OpenSpec.upto Rows.allocAnswerSpec).bare.sizedB enc Tryz.prog Tryz.f3 false ((world0 os).forCall (fun _ _ => 0) ⟨#[], args0, []⟩).memory args0 8 = true := by kernel_rfl
theorem witness (os : Os) {H : Type} (enc : TypeId × Value → H) : ∃ (w : World) (tape : Tape) (i : Input), w.os = os ∧ (w.forCall tape i).Shaped Tryz.checked.prog ∧ i.vars = [] ∧ Input.okWide Tryz.checked.prog (w.forCall tape i) .any w.heap.size 3 i ∧
    (Rows.OpenSpec.upto Rows.allocAnswerSpec).preRow enc Tryz.checked.prog Tryz.f3 Rows.allocAnswerUptoRow.domain false Rows.allocAnswerUptoRow.laid (w.forCall tape i).memory i.args ∧ ({} : Assume).holds Tryz.checked.prog (lone (Frame.enter Tryz.checked.prog 3 i.args .normal) [] (w.forCall tape i)) := by
  obtain ⟨x, hx, hx1⟩ := Option.map_eq_some_iff.1 (world0_reads os enc)
  refine ⟨world0 os, fun _ _ => 0, ⟨#[], args0, []⟩, World.laidAll_os _ _ _, world0_shaped os, (Input.okWide_of_okWideB (base := 0) (world0_ok os)).1, (Input.okWide_of_okWideB (world0_ok os)).2, ?_, ?_⟩
  · exact OpenSpec.preRow_of_cond 8 hx (by kernel_rfl) (fun k hk => by cases hk; exact hx1) (world0_sized os enc) (world0_laid os)
  · simp only [Assume.holds]
    exact ⟨by simp, by simp, fun _ => Modest.zero, by simp, by simp⟩
set_option maxRecDepth 100000 in
theorem lifted (os : Os) (started : os.Started) (H : Type) (enc : TypeId × Value → H) (F : Stop.Interp) :
    ReturnsInHanded {} Tryz.checked os 3 .any ((Rows.OpenSpec.upto Rows.allocAnswerSpec).preRow enc Tryz.prog Tryz.f3 Rows.allocAnswerUptoRow.domain false Rows.allocAnswerUptoRow.laid) (((Rows.OpenSpec.upto Rows.allocAnswerSpec).at F).post enc Tryz.prog Tryz.f3 false true false false) := by
  refine returnsInHanded_of_row (C := Tryz.checked) (s := Rows.OpenSpec.upto Rows.allocAnswerSpec) own started (by kernel_rfl) Tryz.func3 (witness os enc) ?_
  intro W base args ds gs before hval hW _ hcond _ hL hsh _
  exact contract H enc F W base args ds gs before hval hW (hcond _ rfl) hL hsh
set_option maxRecDepth 100000 in
theorem saidUpto : Rows.AllocAnswerUptoSaid :=
  OpenClaim.holds_of_cond 3 Tryz.f3 rfl rfl rfl rfl rfl rfl rfl ⟨rfl, rfl, rfl, rfl, rfl⟩ rfl rfl rfl rfl rfl (by kernel_rfl) Tryz.func3 closed
    (of_decide_eq_true (by kernel_rfl)) (by unfold Func.isWrapper; first | (rw [if_pos (by decide +kernel)]; kernel_rfl) | (rw [if_neg (by decide +kernel)]; exact ⟨rfl, rfl⟩))
    (fun os started H enc _ F => by rw [OpenClaim.pre_eq_preRow]; exact lifted os started H enc F)
/-- no parameter wants a stand-in; the program's own looks are on -/
theorem plain (f : FuncId) (fn : Func) (hf : Tryz.pinned.checked.prog.funcNamed "quarry/quarrylaw23.AllocAnswer" = some f) (hfn : Tryz.pinned.checked.prog.funcs[f]? = some fn) :
    true = Tryz.pinned.checked.prog.looks [] ∧ ∀ (j : Nat) t, fn.params[j]? = some t → Tryz.pinned.checked.prog.wantsStandIn t = false := by
  obtain rfl : f = 3 := Option.some.inj ((show Tryz.prog.funcNamed "quarry/quarrylaw23.AllocAnswer" = some 3 by kernel_rfl).symm.trans hf) |>.symm
  obtain rfl : fn = Tryz.f3 := (Option.some.inj (Tryz.func3.symm.trans hfn)).symm
  refine ⟨looks_yes.symm, fun j t ht => ?_⟩
  rw [Tryz.params3] at ht
  have hm : t ∈ [29, 3] := by simpa using Array.mem_of_getElem? ht
  have hall : ([29, 3].all fun u => !Tryz.prog.wantsStandIn u) = true := by kernel_rfl
  exact (show Tryz.prog.wantsStandIn t = false by simpa using List.all_eq_true.1 hall t hm)
theorem goes_from : Tryz.prog.goesFrom "quarry/quarrylaw23.AllocAnswer" = false := by
  unfold Program.goesFrom
  rw [show Tryz.prog.funcNamed "quarry/quarrylaw23.AllocAnswer" = some 3 by kernel_rfl]
  rw [Option.any_some]
  exact goes_no _
theorem goes_at {P : Program} {s : Start} {n : String} (hs : s = .entering) (h : P.goesFrom n = false) : false = P.goesAt s n := by
  subst hs
  unfold Program.goesAt
  rw [h]; rfl
set_option maxRecDepth 100000 in
theorem goes0 : false = Rows.allocAnswerUptoRow.goesBy Tryz.pinned.checked.prog := goes_at rfl goes_from
set_option maxRecDepth 100000 in
/-- THE CARD -/
theorem allocAnswer_card : Rows.AllocAnswerUptoCardSaid :=
  Claim7.holds_tied_plain_at .later [] _ _ _ _ saidUpto (fun _ h => by cases h) (by kernel_rfl) (fun _ h => by cases h) own_row_tie rfl ⟨rfl, rfl⟩ (by kernel_rfl) rfl plain goes0
end Go.Proofs.YtlcokkiohilmlaaGreatDoor
