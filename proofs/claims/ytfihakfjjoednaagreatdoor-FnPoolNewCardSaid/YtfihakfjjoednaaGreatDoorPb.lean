/-
  FnPoolNew returns true for every code, and the code reads behind the call as it did before. Conditions: the code is any slice of bytes; the seven tables of Go's library that the row lists hold what the program's text lays (the card ties six to the text; utf8.first is the form's pinned constant).
-/
import Derived.Test.YtfihakfjjoednaaGreatDoorPa
set_option linter.all false
namespace Go.Proofs.YtfihakfjjoednaaGreatDoor
set_option maxRecDepth 100000
theorem card1 : OpenClaim.laidByTextAt .later Tryz.pinned Rows.fnPoolNewRow [.data, .data, .data, .data, .sentinel, .sentinel, .pinned] true := fnPoolNew_row_tie
theorem card2 : OpenClaim.holds Tryz.pinned (OpenSpec.ofChange Rows.fnPoolNewSpec) Rows.fnPoolNewRow := row_holds
theorem card3 : Rows.fnPoolNewRow.start = Start.entering := rfl
theorem card4 : Rows.fnPoolNewRow.noBlocks = false ∧ Rows.fnPoolNewRow.again = false := ⟨rfl, rfl⟩
theorem card5 : (!(true, "4bfbd4457c7bf91d68003540c3a3edff0edabee7c9e33521e0886167c2b7fc1f").fst && (true, "4bfbd4457c7bf91d68003540c3a3edff0edabee7c9e33521e0886167c2b7fc1f").snd.isEmpty && !true) = false := rfl
theorem card0 : Claim7.holds Tryz.pinned (.plain (OpenSpec.ofChange Rows.fnPoolNewSpec)) { stood := { row := Rows.fnPoolNewRow, standIns := [], harness := (true, "4bfbd4457c7bf91d68003540c3a3edff0edabee7c9e33521e0886167c2b7fc1f"), looks := true }, alts := [], laidByText := true, laidKinds := [.data, .data, .data, .data, .sentinel, .sentinel, .pinned], laidTests := true, laidLooks := .later } := by
  refine Claim7.holds_tied_plain_at (p := Tryz.pinned) (s := OpenSpec.ofChange Rows.fnPoolNewSpec) (c := Rows.fnPoolNewRow) .later [] [.data, .data, .data, .data, .sentinel, .sentinel, .pinned] true (true, "4bfbd4457c7bf91d68003540c3a3edff0edabee7c9e33521e0886167c2b7fc1f") true card2 ?_ text_wf ?_ card1 card3 card4 mains card5 params_plain goesBy_false
  · intro D h; cases h
  · intro D h; cases h
theorem card_holds : Rows.FnPoolNewCardSaid := card0
end Go.Proofs.YtfihakfjjoednaaGreatDoor
#print axioms Go.Proofs.YtfihakfjjoednaaGreatDoor.card_holds
