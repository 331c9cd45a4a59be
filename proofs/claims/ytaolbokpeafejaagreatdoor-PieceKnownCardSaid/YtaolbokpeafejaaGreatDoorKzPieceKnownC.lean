/-
  The card's closed facts, apart. (No statement of the seat.)
-/
import Derived.Test.YtaolbokpeafejaaGreatDoorKzR
import Derived.Test.YtaolbokpeafejaaGreatDoorTie
import Derived.SevenTiedAt
set_option linter.unusedVariables false
namespace Go.Am.T
open Go Go.Am Go.Proofs
open Go.Proofs.YtaolbokpeafejaaGreatDoor

theorem pieceKnown_wfText : Rows.pieceKnownRow.wfByText (OpenSpec.ofChange Rows.pieceKnownSpec) = true := by kernel_rfl
theorem pieceKnown_goes : false = Rows.pieceKnownRow.goesBy Tryz.prog := by kernel_rfl
theorem pieceKnown_fn : Tryz.prog.funcNamed "almanac/almanaclaw12.PieceKnown" = some 3 := by kernel_rfl
theorem pieceKnown_frame : Tryz.f3.params = #[] := Tryz.params3

end Go.Am.T
