/-
  The law from every start. (No statement of the seat.)
-/
import Derived.Test.YtaolbokpeafejaaGreatDoorKzPieceKnownRun
import Derived.SevenTiedAt
set_option linter.unusedVariables false
set_option linter.unusedSimpArgs false
namespace Go.Am.T
open Go Go.Am Go.Proofs Go.RowKit Go.ChangeShapes Go.WideShapes Go.ChangeAt
open Go.Proofs.YtaolbokpeafejaaGreatDoor

set_option maxRecDepth 100000 in
theorem pieceKnown_lifted (os : Os) (started : os.Started) (T : Type) (enc : TypeId × Value → T) :
    ReturnsInHanded {} Tryz.checked os 3 .any (fun w args => (Rows.pieceKnownSpec.pre enc Tryz.prog Tryz.f3 [] false w args ∧ laidMetH Tryz.prog laids w) ∧ sizedMet enc Tryz.prog Tryz.f3 (OpenSpec.ofChange Rows.pieceKnownSpec) false w args)
      (Rows.pieceKnownSpec.post enc Tryz.prog Tryz.f3 false true false false) := by
  refine returnsInHanded_of_change_and (C := Tryz.checked) (X := fun w _ => laidMetH Tryz.prog laids w) (fun _ _ _ hh h => h.of_heap hh) own started (by kernel_rfl) Tryz.func3
    (ChangeSpec.witness_shaped (enc := enc) (C := Tryz.checked) (os := os) (X := fun w _ => laidMetH Tryz.prog laids w) false (World.doorLaid Tryz.prog 400 os) #[] 8 rfl (World.shaped_of_RefB (by kernel_rfl) (by kernel_rfl)) (by kernel_rfl) (by kernel_rfl) (by kernel_rfl) (door_met os _)) ?_
  intro W base args ds gs before hval0 hW _ hwt hL _
  have hW' := hW
  obtain ⟨p, q, hA0, hV, rfl, hfz, hnd⟩ := hW
  have hA : DataW.TrodAll enc Tryz.prog W 0 (fun _ => true) true Tryz.f3.params.toList args.toList ds p := hA0
  have hP := Tryz.params3
  rw [hP] at hA
  obtain ⟨e0, rfl, rfl⟩ := trodAll_nil hA
  have hargs : args = #[] := Array.toList_inj.1 e0
  subst hargs
  obtain ⟨rfl, rfl⟩ := trodVars_none hV
  let pr : Par := ⟨W.heap.size, W⟩
  have hR : Rl pr.C (startP []) (startH []) W := start_rl [] x_ok (fun i r' hi => by simp at hi) (glob_ok _ hL)
  have hc := pieceKnown_ok pr (startH []) (fun v _ => v = .bool true) rfl
  have := hc (startP []) W [] hR rfl
  refine Calls.mono (show Calls Tryz.prog 3 #[] W _ from this) fun e W' hE => ?_
  obtain ⟨u, σ', ρ', x, rfl, rfl, _, hR', hx⟩ := hE
  exact ⟨_, rfl, hx ▸ post_true hW' rfl rfl (by kernel_rfl) u4 laidOut (by kernel_rfl) hR'.below⟩

end Go.Am.T
