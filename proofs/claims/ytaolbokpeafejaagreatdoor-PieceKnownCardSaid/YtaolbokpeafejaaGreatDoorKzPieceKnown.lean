/-
  PROVED: almanaclaw12.PieceKnown answers true, returns always (a closed statement: the run is carried out by the kernel on an abstract machine that is proved sound); the tied card.
  CONDITIONS: none but the card's own: the listed variable holds what the program's text lays in it.
-/
import Derived.Test.YtaolbokpeafejaaGreatDoorKzPieceKnownH
import Derived.Test.YtaolbokpeafejaaGreatDoorKzPieceKnownC
import Derived.Test.YtaolbokpeafejaaGreatDoorKzC
import Derived.Test.YtaolbokpeafejaaGreatDoorTie
import Derived.Test.YtaolbokpeafejaaGreatDoorCards
set_option linter.unusedVariables false
set_option linter.unusedSimpArgs false
namespace Go.Am.T
open Go Go.Am Go.Proofs Go.RowKit Go.ChangeShapes Go.WideShapes Go.ChangeAt
open Go.Proofs.YtaolbokpeafejaaGreatDoor

theorem pieceKnown_card : Rows.PieceKnownCardSaid :=
  Claim7.holds_tied_plain_at .later [] [.funcs] true (true, "94daa52195dd7e6b40cc73547b1bacd75989b8c3e788ae1486ec8c276a48cfbc") true
    pieceKnown_holds (fun _ h => by cases h) pieceKnown_wfText (fun _ h => by cases h) pieceKnown_row_tie rfl ⟨rfl, rfl⟩ jMain rfl
    (fun f fn hf hfn => by
      obtain rfl : f = 3 := Option.some.inj ((pieceKnown_fn : Tryz.prog.funcNamed "almanac/almanaclaw12.PieceKnown" = some 3).symm.trans hf) |>.symm
      obtain rfl : fn = Tryz.f3 := (Option.some.inj (Tryz.func3.symm.trans hfn)).symm
      exact ⟨jLooks, fun j t ht => by
        rw [Tryz.params3] at ht
        simp at ht⟩)
    pieceKnown_goes
end Go.Am.T
namespace Go.Proofs.YtaolbokpeafejaaGreatDoor
theorem pieceKnown_card : Rows.PieceKnownCardSaid := Go.Am.T.pieceKnown_card
#print axioms pieceKnown_card
end Go.Proofs.YtaolbokpeafejaaGreatDoor
