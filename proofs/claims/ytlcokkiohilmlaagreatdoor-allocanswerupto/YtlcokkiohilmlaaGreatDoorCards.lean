/-
  DERIVED. GIVEN WITH THE SEED: THE CARDS: each row of YtlcokkiohilmlaaGreatDoorRows.lean that lists a variable, with what it lists TIED to the program's text (the seventh form; the later family's looks); each row that meets fmt, with fmt's text TOLD by the authors' own Lean function (tested against real Go, not proved from fmt's source: count such statements apart). THE CARD IS WHAT COUNTS. Prove the row's statement (the work); the ties are given (YtlcokkiohilmlaaGreatDoorTie.lean); close each card by the builder's one call (the guide's Derived/Test/ToyasCard.lean, 'card_holds'). Laid BY PROGRAM, IN A SANDBOX (cutbox-door.mjs). By AI agents, Wed Nov 11 2026. No macro, syntax, notation, axiom, sorry.
-/
import Derived.Test.YtlcokkiohilmlaaGreatDoorRows
import GoSem.ClaimSeven
namespace Go.Proofs.YtlcokkiohilmlaaGreatDoor
namespace Rows

/-- THE TIED CARD OF 'quarrylaw23.AllocAnswer'. -/
def allocAnswerCard : Claim7 := { stood := { row := allocAnswerRow, standIns := [], harness := (true, "20e0efa4754bddc1787cc74b02cae1b2a0ce121d0cce45f8b6b6290de3251480"), looks := true }, kinds := [], alts := [], laidByText := true, laidKinds := [.data, .listed, .data, .pinned, .pinned], laidTests := true, laidLooks := .later }
def AllocAnswerCardSaid : Prop := Claim7.holds Tryz.pinned (.plain (OpenSpec.ofChange allocAnswerSpec)) allocAnswerCard

/-- THE SECOND FORM's CARD OF 'quarrylaw23.AllocAnswer'. -/
def allocAnswerUptoCard : Claim7 := { stood := { row := allocAnswerUptoRow, standIns := [], harness := (true, "20e0efa4754bddc1787cc74b02cae1b2a0ce121d0cce45f8b6b6290de3251480"), looks := true }, kinds := [], alts := [], laidByText := true, laidKinds := [.data, .listed, .data, .pinned, .pinned], laidTests := true, laidLooks := .later }
def AllocAnswerUptoCardSaid : Prop := Claim7.holds Tryz.pinned (.plain (OpenSpec.upto allocAnswerSpec)) allocAnswerUptoCard
end Rows
end Go.Proofs.YtlcokkiohilmlaaGreatDoor
