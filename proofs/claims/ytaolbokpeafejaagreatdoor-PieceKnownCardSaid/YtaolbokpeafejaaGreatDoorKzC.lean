/-
  The seat's closed facts that all its cards share. (Lemmas alone.)
-/
import Derived.Test.YtaolbokpeafejaaGreatDoorKzR
import Derived.SevenTiedAt
set_option linter.unusedVariables false
namespace Go.Am.T
open Go Go.Am Go.Proofs
open Go.Proofs.YtaolbokpeafejaaGreatDoor

theorem jMain : Tryz.pinned.checked.prog.mainIs = some (true, "94daa52195dd7e6b40cc73547b1bacd75989b8c3e788ae1486ec8c276a48cfbc".toList) := by kernel_rfl
theorem jLooks : true = Tryz.prog.looks [] := by kernel_rfl

end Go.Am.T
