/-
  PROVED: almanaclaw04.CrcKnown answers true for every input, returns always, and its arguments read behind the call as they read before (the tied card).
  CONDITIONS: none but the card's own: the listed variables hold what the program's text lays in them; a slice takes at most the form's own reach.
-/
import Derived.Test.YtdagnbaflkondaaDoorT04R
import Derived.Test.YtdagnbaflkondaaDoorT04L8
import Derived.Test.YtdagnbaflkondaaDoorTie
import Derived.Test.YtdagnbaflkondaaDoorCards
import Derived.SevenTiedAt
set_option linter.unusedVariables false
set_option linter.unusedSimpArgs false
namespace Go.Am.T
open Go Go.Am Go.Proofs Go.RowKit Go.ChangeShapes Go.WideShapes Go.ChangeAt
open Go.Proofs.YtdagnbaflkondaaDoor

set_option maxRecDepth 100000 in
theorem crcKnown_lifted (os : Os) (started : os.Started) (T : Type) (enc : TypeId × Value → T) :
    ReturnsInHanded {} Tryd.checked os 8 .any (fun w args => (Rows.crcKnownSpec.pre enc Tryd.prog Tryd.f8 [] false w args ∧ laidMetH Tryd.prog laids w) ∧ sizedMet enc Tryd.prog Tryd.f8 (OpenSpec.ofChange Rows.crcKnownSpec) false w args)
      (Rows.crcKnownSpec.post enc Tryd.prog Tryd.f8 false true false false) := by
  refine returnsInHanded_of_change_and (C := Tryd.checked) (X := fun w _ => laidMetH Tryd.prog laids w) (fun _ _ _ hh h => h.of_heap hh) own started (by kernel_rfl) Tryd.func8
    (ChangeSpec.witness_shaped (enc := enc) (C := Tryd.checked) (os := os) (X := fun w _ => laidMetH Tryd.prog laids w) false (World.doorLaid Tryd.prog 400 os) #[] 8 rfl (World.shaped_of_RefB (by kernel_rfl) (by kernel_rfl)) (by kernel_rfl) (by kernel_rfl) (by kernel_rfl) (door_met os _)) ?_
  intro W base args ds gs before hval0 hW _ hwt hL _
  have hval : ∀ (j : Nat) t v, Tryd.f8.params[j]? = some t → args[j]? = some v → Value.okWide Tryd.prog W .any base t v := hval0
  have hW' := hW
  obtain ⟨p, q, hA0, hV, rfl, hfz, hnd⟩ := hW
  have hA : DataW.TrodAll enc Tryd.prog W 0 (fun _ => true) true Tryd.f8.params.toList args.toList ds p := hA0
  have hP := Tryd.params8
  rw [hP] at hA hval
  obtain ⟨e0, rfl, rfl⟩ := trodAll_nil hA
  have hargs : args = #[] := Array.toList_inj.1 e0
  subst hargs
  obtain ⟨rfl, rfl⟩ := trodVars_none hV
  let pr : Par := ⟨W.heap.size, W⟩
  have hR : Rl pr.C (startP []) (startH []) W := start_rl [] (fun i r' hi => by
    simp at hi) (glob_ok hL)
  have hc := crcKnown_ok pr   (startH [])  (fun v _ => v = .bool true) rfl
  have := hc (startP []) W [] hR (rfl)
  refine Calls.mono (show Calls Tryd.prog 8 #[] W _ from this) fun e W' hE => ?_
  obtain ⟨u, σ', ρ', x, rfl, rfl, _, hR', hx⟩ := hE
  exact ⟨_, rfl, hx ▸ post_true hW' rfl rfl (by kernel_rfl) Tryd.underlying4 laidOut (by kernel_rfl) hR'.below⟩

theorem crcKnown_holds : Rows.CrcKnownSaid :=
  OpenClaim.holds_of_wide 8 Tryd.f8 rfl rfl rfl rfl rfl rfl rfl ⟨rfl, rfl, rfl, rfl, rfl⟩ rfl rfl rfl rfl rfl (by kernel_rfl) Tryd.func8 (by kernel_rfl)
    (of_decide_eq_true (by kernel_rfl)) (by unfold Func.isWrapper; first | (rw [if_pos (by decide +kernel)]; kernel_rfl) | (rw [if_neg (by decide +kernel)]; exact ⟨rfl, rfl⟩))
    (fun os started T enc _ => crcKnown_lifted os started T enc)

theorem crcKnown_card : Rows.CrcKnownCardSaid :=
  Claim7.holds_tied_plain_at .later [] [.data] true (true, "17491e78a3c75f2931f6bd1527689d17f2ea3943958e875519678df8c7d9d321") false
    crcKnown_holds (fun _ h => by cases h) (by kernel_rfl) (fun _ h => by cases h) crcKnown_row_tie rfl ⟨rfl, rfl⟩ (by kernel_rfl) rfl
    (fun f fn hf hfn => by
      obtain rfl : f = 8 := Option.some.inj ((show Tryd.prog.funcNamed "almanac/almanaclaw04.CrcKnown" = some 8 by kernel_rfl).symm.trans hf) |>.symm
      obtain rfl : fn = Tryd.f8 := (Option.some.inj (Tryd.func8.symm.trans hfn)).symm
      exact ⟨by kernel_rfl, fun j t ht => by
        rw [Tryd.params8] at ht
        simp at ht⟩)
    (by kernel_rfl)
end Go.Am.T
namespace Go.Proofs.YtdagnbaflkondaaDoor
theorem crcKnown_card : Rows.CrcKnownCardSaid := Go.Am.T.crcKnown_card
#print axioms crcKnown_card
end Go.Proofs.YtdagnbaflkondaaDoor
