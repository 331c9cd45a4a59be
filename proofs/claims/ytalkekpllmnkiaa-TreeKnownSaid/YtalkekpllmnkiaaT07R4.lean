/-
  PROVED: almanaclaw07.TreeKnown answers true, returns always (a closed statement: the run is carried out by the kernel on an abstract machine that is proved sound).
  CONDITIONS: none but the statement's own.
-/
import Derived.Test.YtalkekpllmnkiaaAmComp
import Derived.Test.YtalkekpllmnkiaaAmStart
import Derived.Test.YtalkekpllmnkiaaRows
import Derived.SizedLaws
set_option linter.unusedVariables false
set_option linter.unusedSimpArgs false
namespace Go.Am.T
open Go Go.Am Go.Proofs Go.RowKit Go.ChangeShapes Go.WideShapes Go.ChangeAt
open Go.Proofs.Ytalkekpllmnkiaa

theorem own : ownKnob Try.prog.godebug = none := by kernel_rfl
theorem laidOut : laidOutB Try.prog = true := by kernel_rfl

def G0 : Nat → List V := fun _ => []

structure Par where
  B : Nat
  W0 : World

noncomputable def Par.C (p : Par) : Ctx := ⟨p.B, p.W0, Try.prog, G0⟩

set_option maxRecDepth 1000000 in
theorem treeKnown_run : (envC ⟨0, default, Try.prog, G0⟩ 5000 200).call 4 [] H0 (fun v _ => V.beq v (.bool true)) = true := by kernel_rfl

theorem treeKnown_ok (pr : Par) (σ : H) (K : V → H → Prop) (hK : K (.bool true) σ) : best pr.C 4 [] σ K :=
  best_runC (P := Try.prog) (G := G0) rfl rfl 5000 200 true treeKnown_run trivial hK

set_option maxRecDepth 100000 in
theorem treeKnown_lifted (os : Os) (started : os.Started) (T : Type) (enc : TypeId × Value → T) :
    ReturnsInHanded {} Try.checked os 4 .any (Rows.treeKnownSpec.pre6 enc Try.prog Try.f4 [] false) (Rows.treeKnownSpec.post enc Try.prog Try.f4 false true false false) := by
  refine returnsInHanded_of_change_sized (C := Try.checked) own started (by kernel_rfl) Try.func4
    (ChangeSpec.witness6 (enc := enc) (C := Try.checked) false ⟨#[], #[], []⟩ 8 (by kernel_rfl) (by kernel_rfl) (by kernel_rfl) (by kernel_rfl)) ?_
  intro W base args ds gs before hval0 hW _ hwt _
  have hW' := hW
  obtain ⟨p, q, hA0, hV, rfl, hfz, hnd⟩ := hW
  have hA : DataW.TrodAll enc Try.prog W 0 (fun _ => true) true Try.f4.params.toList args.toList ds p := hA0
  have hP := Try.params4
  rw [hP] at hA
  obtain ⟨e0, rfl, rfl⟩ := trodAll_nil hA
  have hargs : args = #[] := Array.toList_inj.1 e0
  subst hargs
  obtain ⟨rfl, rfl⟩ := trodVars_none hV
  let pr : Par := ⟨W.heap.size, W⟩
  have hR : Rl pr.C (startP []) (startH []) W := start_rl [] (fun i r' hi => by simp at hi) (fun g j v hv => by simp [G0] at hv)
  have hc := treeKnown_ok pr (startH []) (fun v _ => v = .bool true) rfl
  have := hc (startP []) W [] hR rfl
  refine Calls.mono (show Calls Try.prog 4 #[] W _ from this) fun e W' hE => ?_
  obtain ⟨u, σ', ρ', x, rfl, rfl, _, hR', hx⟩ := hE
  exact ⟨_, rfl, hx ▸ post_true hW' rfl rfl (by kernel_rfl) Try.underlying4 laidOut (by kernel_rfl) hR'.below⟩

theorem treeKnown_holds : Rows.TreeKnownSaid :=
  OpenClaim.holds_of_wide 4 Try.f4 rfl rfl rfl rfl rfl rfl rfl ⟨rfl, rfl, rfl, rfl, rfl⟩ rfl rfl rfl rfl rfl (by kernel_rfl) Try.func4 (by kernel_rfl)
    (of_decide_eq_true (by kernel_rfl)) (by unfold Func.isWrapper; first | (rw [if_pos (by decide +kernel)]; kernel_rfl) | (rw [if_neg (by decide +kernel)]; exact ⟨rfl, rfl⟩))
    (fun os started T enc _ => treeKnown_lifted os started T enc)
end Go.Am.T
namespace Go.Proofs.Ytalkekpllmnkiaa
theorem treeKnown_said : Rows.TreeKnownSaid := Go.Am.T.treeKnown_holds
#print axioms treeKnown_said
end Go.Proofs.Ytalkekpllmnkiaa
