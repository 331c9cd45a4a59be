/-
  The seat's rows: what the listed variable gives; the start. (Lemmas alone.)
-/
import Derived.Test.YtdagnbaflkondaaDoorT04Base
import Derived.Test.YtdagnbaflkondaaDoorAmStart
import Derived.Test.YtdagnbaflkondaaDoorRows
set_option linter.unusedVariables false
namespace Go.Am.T
open Go Go.Am Go.Proofs Go.RowKit Go.ChangeShapes Go.WideShapes Go.ChangeAt
open Go.Proofs.YtdagnbaflkondaaDoor

theorem own : ownKnob Tryd.prog.godebug = none := by kernel_rfl
theorem laidOut : laidOutB Tryd.prog = true := by kernel_rfl
theorem gSteps : Tryd.prog.globalNamed "almanac/crc.steps" = some 0 := by kernel_rfl
theorem tSteps : (Tryd.prog.globals[0]?).map (·.type) = some 44 := by kernel_rfl
abbrev laids : List (String × DataW Unit) := [("almanac/crc.steps", Rows.laid_almanac_crc_steps)]

def stepsZ : List Int := [0, 79764919, 159529838, 222504665, 319059676, 398814059, 445009330, 507990021, 638119352, 583659535, 797628118, 726387553, 890018660, 835552979, 1015980042, 944750013]

set_option maxRecDepth 100000 in
/-- The door's own heap meets the condition. -/
theorem door_met (os : Os) (args : Array Value) : laidMetH Tryd.prog laids ((World.doorLaid Tryd.prog 400 os).forCall (fun _ _ => 0) ⟨#[], args, []⟩).memory :=
  laidMetH_of_parts3 (fuel := 8) (laidMet_of_run' 8 (by kernel_rfl) (by kernel_rfl)) (by kernel_rfl) (by kernel_rfl)

theorem cells22 : Tryd.prog.cellsOf 22 = 1 := by kernel_rfl
theorem cells5 : Tryd.prog.cellsOf 5 = 1 := by kernel_rfl
theorem bytes5 : Tryd.prog.bytesOf 5 = 1 := by kernel_rfl

theorem glob_ok {W : World} (h : laidMetH Tryd.prog laids W) : ∀ (g j : Nat) (v : V), (G0 g)[j]? = some v → g < W.heap.size ∧ ∃ x, W.cell? ⟨g, j, none⟩ = some x ∧ ∀ ρ', VR ρ' v x := by
  rw [MakeChecks.laidMetH_plain _ _ _ (by kernel_rfl)] at h
  obtain ⟨ps, ⟨g0, t0, cs0, f0, p0, q0, hg0, ht0, hv0, hd0, _, _⟩, _, _⟩ := h
  obtain rfl := Option.some.inj (gSteps.symm.trans hg0)
  obtain rfl := Option.some.inj (tSteps.symm.trans ht0)
  have hz := glob_ints (zs := stepsZ) gSteps hv0 Tryd.underlying44 Tryd.underlying22 cells22 hd0
  intro g j v hv
  by_cases hg : g = 0
  · subst hg
    have e : G0 0 = stepsZ.map (fun z => V.int .u32 z) := rfl
    rw [e, List.getElem?_map, Option.map_eq_some_iff] at hv
    obtain ⟨z, h1, rfl⟩ := hv
    have hc := hz j z h1
    refine ⟨?_, _, hc, fun _ => rfl⟩
    unfold World.cell? at hc
    split at hc
    · rename_i hh; exact (Array.getElem?_eq_some_iff.1 hh).1
    · cases hc
  · simp [G0, hg] at hv
theorem heap_pos {W : World} (h : laidMetH Tryd.prog laids W) : 0 < W.heap.size := (glob_ok h 0 0 (.int .u32 0) rfl).1

end Go.Am.T
