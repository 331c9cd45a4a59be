/-
  The row's closed facts, apart. (No statement of the seat.)
-/
import Derived.Test.YtaolbokpeafejaaGreatDoorKzJ
set_option linter.unusedVariables false
set_option linter.unusedSimpArgs false
namespace Go.Am.T
open Go Go.Am Go.Proofs Go.RowKit Go.ChangeShapes Go.WideShapes Go.ChangeAt
open Go.Proofs.YtaolbokpeafejaaGreatDoor

theorem pieceKnown_wf : Rows.pieceKnownRow.wf (OpenSpec.ofChange Rows.pieceKnownSpec) = true := by kernel_rfl
theorem pieceKnown_tie5 : namedTie Tryz.prog Rows.pieceKnownRow.named Rows.pieceKnownSpec.vars = true := by kernel_rfl
theorem pieceKnown_inPlace : (Rows.pieceKnownRow.inPlace == Tryz.prog.inPlace 3) = true := by kernel_rfl
theorem pieceKnown_unfollowed : (Rows.pieceKnownRow.unfollowed == Tryz.prog.unfollowed 3) = true := by kernel_rfl
theorem pieceKnown_recurses : (Rows.pieceKnownRow.recurses == Tryz.prog.recurses 3) = true := by kernel_rfl
theorem pieceKnown_named : (Rows.pieceKnownRow.named == Tryz.prog.varsNamed 3) = true := by kernel_rfl
end Go.Am.T
