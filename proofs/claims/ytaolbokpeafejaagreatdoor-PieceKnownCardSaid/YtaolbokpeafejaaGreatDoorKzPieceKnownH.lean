/-
  The row's statement.
-/
import Derived.Test.YtaolbokpeafejaaGreatDoorKzPieceKnownL
import Derived.Test.YtaolbokpeafejaaGreatDoorKzPieceKnownJ
set_option linter.unusedVariables false
set_option linter.unusedSimpArgs false
namespace Go.Am.T
open Go Go.Am Go.Proofs Go.RowKit Go.ChangeShapes Go.WideShapes Go.ChangeAt
open Go.Proofs.YtaolbokpeafejaaGreatDoor

theorem pieceKnown_joined : joinedFacts Tryz.prog 3 Tryz.f3 Rows.pieceKnownSpec Rows.pieceKnownRow = true :=
  joined_of pieceKnown_wf laidOut jMaps pieceKnown_tie5 pieceKnown_inPlace pieceKnown_unfollowed pieceKnown_recurses pieceKnown_named jPlain jHeard jEnter jLift jMake (by kernel_rfl)

theorem pieceKnown_holds : Rows.PieceKnownSaid :=
  OpenClaim.holds_of_wide 3 Tryz.f3 rfl rfl rfl rfl rfl rfl rfl ⟨rfl, rfl, rfl, rfl, rfl⟩ rfl rfl rfl rfl rfl (by kernel_rfl) Tryz.func3 pieceKnown_joined
    (of_decide_eq_true (by kernel_rfl)) (by unfold Func.isWrapper; first | (rw [if_pos (by decide +kernel)]; kernel_rfl) | (rw [if_neg (by decide +kernel)]; exact ⟨rfl, rfl⟩))
    (fun os started T enc _ => pieceKnown_lifted os started T enc)
end Go.Am.T
