/-
  The seat's closed facts that all its rows share; the row's facts out of parts. (Lemmas alone.)
-/
import Derived.Test.YtaolbokpeafejaaGreatDoorKzR
set_option linter.unusedVariables false
namespace Go.Am.T
open Go Go.Am Go.Proofs Go.RowKit Go.ChangeShapes Go.WideShapes Go.ChangeAt
open Go.Proofs.YtaolbokpeafejaaGreatDoor

/-- A row's closed facts, out of parts (each by itself is less than the whole for the kernel). -/
theorem joined_of {P : Program} {f : FuncId} {fn : Func} {s : ChangeSpec} {c : OpenClaim}
    (k1 : c.wf (OpenSpec.ofChange s) = true) (k2 : laidOutB P = true) (k3 : mapsRowed P = true) (k5 : namedTie P c.named s.vars = true)
    (k10 : (c.inPlace == P.inPlace f) = true) (k11 : (c.unfollowed == P.unfollowed f) = true) (k12 : (c.recurses == P.recurses f) = true) (k13 : (c.named == P.varsNamed f) = true)
    (k22 : (c.plainKeys == P.plainKeys) = true) (k23b : P.stopsHeard = true) (k24 : P.mayEnter = true) (k24b : (c.lifted == P.liftsFinal) = true) (k24c : (P.make == some c.make) = true)
    (rest : (fn.params.all (P.readableRec ·) && (c.stops == []) && (P.stops == []) && (c.knobs == []) && (P.stopKnobs == []) &&
      (c.maps == (fn.params.toList ++ s.plain.varTypes P).any (P.mapsRec ·)) && (c.ifaces == (fn.params.toList ++ s.plain.varTypes P).any (P.ifacesRec ·)) && (c.mapsOut == P.mapsAmong fn.resultTypes.toList) &&
      (c.loops == (fn.params.toList ++ s.plain.varTypes P).any (P.loopsFrom ·)) && (c.wideKeys == (fn.params.toList ++ s.plain.varTypes P ++ fn.resultTypes.toList).any (P.wideKeysFrom ·)) &&
      s.vars.all (P.varReadable ·) && fn.resultTypes.all (fun t => P.readableRec t && decide (t < P.types.size)) && (c.ifacesOut == fn.resultTypes.toList.any (P.ifacesRec ·)) && (c.loopsOut == fn.resultTypes.toList.any (P.loopsFrom ·)) && c.shortTexts.isNone &&
      (c.kinds == (if c.domain.isEmpty then [] else fn.params.toList.map fun t => match P.underlying t with | some (.int k) => some k | _ => none)) && (c.pinned == c.pinnedBy) &&
      (c.veiled == (fn.params.toList ++ s.plain.varTypes P ++ fn.resultTypes.toList).any (P.veiledRec ·)) && c.veiledFits P fn.params.toList (fn.params.toList ++ s.plain.varTypes P ++ fn.resultTypes.toList)) = true) :
    joinedFacts P f fn s c = true := by
  unfold joinedFacts
  rw [k1, k2, k3, k5, k10, k11, k12, k13, k22, k23b, k24, k24b, k24c]
  simp only [Bool.and_true, Bool.true_and]
  exact rest

theorem jMaps : mapsRowed Tryz.prog = true := by kernel_rfl
theorem jHeard : Tryz.prog.stopsHeard = true := by kernel_rfl
theorem jEnter : Tryz.prog.mayEnter = true := by kernel_rfl
theorem jPlain : (Rows.pieceKnownRow.plainKeys == Tryz.prog.plainKeys) = true := by kernel_rfl
theorem jLift : (Rows.pieceKnownRow.lifted == Tryz.prog.liftsFinal) = true := by kernel_rfl
theorem jMake : (Tryz.prog.make == some Rows.pieceKnownRow.make) = true := by kernel_rfl

end Go.Am.T
