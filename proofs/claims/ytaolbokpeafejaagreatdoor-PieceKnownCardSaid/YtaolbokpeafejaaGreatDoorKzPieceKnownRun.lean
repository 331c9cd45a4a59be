/-
  The closed run of almanaclaw12.PieceKnown, by the kernel. (No statement of the seat.)
-/
import Derived.Test.YtaolbokpeafejaaGreatDoorKzR
set_option linter.unusedVariables false
namespace Go.Am.T
open Go Go.Am Go.Proofs

set_option maxRecDepth 1000000 in
theorem pieceKnown_run : (envC ⟨0, default, Tryz.prog, G0, X0⟩ 5000 300).call 3 [] H0 (fun v _ => V.beq v (.bool true)) = true := by kernel_rfl

theorem pieceKnown_ok (pr : Par) (σ : H) (K : V → H → Prop) (hK : K (.bool true) σ) : best pr.C 3 [] σ K :=
  best_runC (P := Tryz.prog) (G := G0) (X := X0) rfl rfl rfl 5000 300 true flat0 pieceKnown_run trivial hK

end Go.Am.T
