/-
  DERIVED. GIVEN WITH THE SEED: THE CARDS: each row of YtfihakfjjoednaaGreatDoorRows.lean that lists a variable, with what it lists TIED to the program's text (the seventh form; the later family's looks); each row that meets fmt, with fmt's text TOLD by the authors' own Lean function (tested against real Go, not proved from fmt's source: count such statements apart). THE CARD IS WHAT COUNTS. Prove the row's statement (the work); the ties are given (YtfihakfjjoednaaGreatDoorTie.lean); close each card by the builder's one call (the guide's Derived/Test/ToyasCard.lean, 'card_holds'). Laid BY PROGRAM, IN A SANDBOX (cutbox-door.mjs). By AI agents, Wed Nov 11 2026. No macro, syntax, notation, axiom, sorry.
-/
import Derived.Test.YtfihakfjjoednaaGreatDoorRows
import GoSem.ClaimSeven
namespace Go.Proofs.YtfihakfjjoednaaGreatDoor
namespace Rows

/-- THE TIED CARD OF 'laws.FnPoolNew'. -/
def fnPoolNewCard : Claim7 := { stood := { row := fnPoolNewRow, standIns := [], harness := (true, "4bfbd4457c7bf91d68003540c3a3edff0edabee7c9e33521e0886167c2b7fc1f"), looks := true }, kinds := [], alts := [], laidByText := true, laidKinds := [.data, .data, .data, .data, .sentinel, .sentinel, .pinned], laidTests := true, laidLooks := .later }
def FnPoolNewCardSaid : Prop := Claim7.holds Tryz.pinned (.plain (OpenSpec.ofChange fnPoolNewSpec)) fnPoolNewCard

/-- THE SECOND FORM's CARD OF 'laws.FnPoolNew'. -/
def fnPoolNewUptoCard : Claim7 := { stood := { row := fnPoolNewUptoRow, standIns := [], harness := (true, "4bfbd4457c7bf91d68003540c3a3edff0edabee7c9e33521e0886167c2b7fc1f"), looks := true }, kinds := [], alts := [], laidByText := true, laidKinds := [.data, .data, .data, .data, .sentinel, .sentinel, .pinned], laidTests := true, laidLooks := .later }
def FnPoolNewUptoCardSaid : Prop := Claim7.holds Tryz.pinned (.plain (OpenSpec.upto fnPoolNewSpec)) fnPoolNewUptoCard
end Rows
end Go.Proofs.YtfihakfjjoednaaGreatDoor
