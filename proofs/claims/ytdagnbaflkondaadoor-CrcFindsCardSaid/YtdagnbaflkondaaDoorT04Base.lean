/-
  The seat's program on the abstract machine: what its variables hold. (Definitions alone.)
-/
import Derived.Test.YtdagnbaflkondaaDoorAmBest
import Derived.Test.YtdagnbaflkondaaDoorProg
set_option linter.unusedVariables false
namespace Go.Am.T
open Go Go.Am Go.Proofs

def G0 : Nat → List V := fun g => if g = 0 then [.int .u32 0, .int .u32 79764919, .int .u32 159529838, .int .u32 222504665, .int .u32 319059676, .int .u32 398814059, .int .u32 445009330, .int .u32 507990021, .int .u32 638119352, .int .u32 583659535, .int .u32 797628118, .int .u32 726387553, .int .u32 890018660, .int .u32 835552979, .int .u32 1015980042, .int .u32 944750013] else []

structure Par where
  B : Nat
  W0 : World

noncomputable def Par.C (p : Par) : Ctx := ⟨p.B, p.W0, Tryd.prog, G0⟩
noncomputable def Par.E (p : Par) (n : Nat) : Env := ⟨p.C, best p.C, n⟩

end Go.Am.T
