/-
  PROVED: almanaclaw04.CrcBack answers true for every input, returns always, and its arguments read behind the call as they read before (the tied card).
  CONDITIONS: none but the card's own: the listed variables hold what the program's text lays in them; a slice takes at most the form's own reach.
-/
import Derived.Test.YtdagnbaflkondaaDoorT04R
import Derived.Test.YtdagnbaflkondaaDoorT04L5
import Derived.Test.YtdagnbaflkondaaDoorTie
import Derived.Test.YtdagnbaflkondaaDoorCards
import Derived.SevenTiedAt
set_option linter.unusedVariables false
set_option linter.unusedSimpArgs false
namespace Go.Am.T
open Go Go.Am Go.Proofs Go.RowKit Go.ChangeShapes Go.WideShapes Go.ChangeAt
open Go.Proofs.YtdagnbaflkondaaDoor

set_option maxRecDepth 100000 in
theorem crcBack_lifted (os : Os) (started : os.Started) (T : Type) (enc : TypeId × Value → T) :
    ReturnsInHanded {} Tryd.checked os 5 .any (fun w args => (Rows.crcBackSpec.pre enc Tryd.prog Tryd.f5 [] false w args ∧ laidMetH Tryd.prog laids w) ∧ sizedMet enc Tryd.prog Tryd.f5 (OpenSpec.ofChange Rows.crcBackSpec) false w args)
      (Rows.crcBackSpec.post enc Tryd.prog Tryd.f5 false true false false) := by
  refine returnsInHanded_of_change_and (C := Tryd.checked) (X := fun w _ => laidMetH Tryd.prog laids w) (fun _ _ _ hh h => h.of_heap hh) own started (by kernel_rfl) Tryd.func5
    (ChangeSpec.witness_shaped (enc := enc) (C := Tryd.checked) (os := os) (X := fun w _ => laidMetH Tryd.prog laids w) false (World.doorLaid Tryd.prog 400 os) #[.slice none 0 0] 8 rfl (World.shaped_of_RefB (by kernel_rfl) (by kernel_rfl)) (by kernel_rfl) (by kernel_rfl) (by kernel_rfl) (door_met os _)) ?_
  intro W base args ds gs before hval0 hW _ hwt hL _
  have hval : ∀ (j : Nat) t v, Tryd.f5.params[j]? = some t → args[j]? = some v → Value.okWide Tryd.prog W .any base t v := hval0
  have hW' := hW
  obtain ⟨p, q, hA0, hV, rfl, hfz, hnd⟩ := hW
  have hA : DataW.TrodAll enc Tryd.prog W 0 (fun _ => true) true Tryd.f5.params.toList args.toList ds p := hA0
  have hP := Tryd.params5
  rw [hP] at hA hval
  obtain ⟨v0, vs1, d0, ds1, p0, q1, e0, rfl, rfl, h0, hr1⟩ := trodAll_cons hA
  obtain ⟨e1, rfl, rfl⟩ := trodAll_nil hr1
  have hargs : args = #[v0] := by
    apply Array.toList_inj.1
    rw [e0, e1]
  subst hargs
  obtain ⟨rfl, rfl⟩ := trodVars_none hV
  have hwt' : (DataW.weightsEach Tryd.prog [23] [d0]).all (· ≤ reachBytes) = true := hwt
  simp only [DataW.weightsEach, List.all_append, Bool.and_eq_true] at hwt'
  obtain ⟨r0, b0, l0, hB0⟩ := open_bytes Tryd.underlying23 Tryd.underlying5 cells5 bytes5 (hval 0 23 v0 rfl rfl) h0 hwt'.1 (heap_pos hL)
  let pr : Par := ⟨W.heap.size, W⟩
  have hR : Rl pr.C (startP [r0]) (startH [r0]) W := start_rl [r0] (fun i r' hi => by
    match i, hi with
    | 0, hi =>
      cases hi
      exact ⟨hB0.blk, fun j c hj => by obtain ⟨y, h1, h2⟩ := hB0.cell j c hj; exact ⟨y, h1, h2 _⟩⟩) (glob_ok hL)
  have hb0 : Bytes (startH [r0]) (b0 0) l0 := hB0.bytes 0 _ rfl
  have hv0 : VR (startP [r0]) (b0 0) v0 := hB0.val 0 _ (by simp [startP])
  have hl0 := hB0.len
  have hc := crcBack_ok pr (b0 0) l0 hl0 (startH [r0]) hb0 (fun v _ => v = .bool true) rfl
  have := hc (startP [r0]) W [v0] hR (⟨_, _, rfl, hv0, rfl⟩)
  refine Calls.mono (show Calls Tryd.prog 5 #[v0] W _ from this) fun e W' hE => ?_
  obtain ⟨u, σ', ρ', x, rfl, rfl, _, hR', hx⟩ := hE
  exact ⟨_, rfl, hx ▸ post_true hW' rfl rfl (by kernel_rfl) Tryd.underlying4 laidOut (by kernel_rfl) hR'.below⟩

theorem crcBack_holds : Rows.CrcBackSaid :=
  OpenClaim.holds_of_wide 5 Tryd.f5 rfl rfl rfl rfl rfl rfl rfl ⟨rfl, rfl, rfl, rfl, rfl⟩ rfl rfl rfl rfl rfl (by kernel_rfl) Tryd.func5 (by kernel_rfl)
    (of_decide_eq_true (by kernel_rfl)) (by unfold Func.isWrapper; first | (rw [if_pos (by decide +kernel)]; kernel_rfl) | (rw [if_neg (by decide +kernel)]; exact ⟨rfl, rfl⟩))
    (fun os started T enc _ => crcBack_lifted os started T enc)

theorem crcBack_card : Rows.CrcBackCardSaid :=
  Claim7.holds_tied_plain_at .later [] [.data] true (true, "17491e78a3c75f2931f6bd1527689d17f2ea3943958e875519678df8c7d9d321") false
    crcBack_holds (fun _ h => by cases h) (by kernel_rfl) (fun _ h => by cases h) crcBack_row_tie rfl ⟨rfl, rfl⟩ (by kernel_rfl) rfl
    (fun f fn hf hfn => by
      obtain rfl : f = 5 := Option.some.inj ((show Tryd.prog.funcNamed "almanac/almanaclaw04.CrcBack" = some 5 by kernel_rfl).symm.trans hf) |>.symm
      obtain rfl : fn = Tryd.f5 := (Option.some.inj (Tryd.func5.symm.trans hfn)).symm
      exact ⟨by kernel_rfl, fun j t ht => by
        rw [Tryd.params5] at ht
        have hm : t ∈ [23] := by simpa using Array.mem_of_getElem? ht
        have hall : ([23].all fun u => !Tryd.prog.wantsStandIn u) = true := by kernel_rfl
        exact (show Tryd.prog.wantsStandIn t = false by simpa using List.all_eq_true.1 hall t hm)⟩)
    (by kernel_rfl)
end Go.Am.T
namespace Go.Proofs.YtdagnbaflkondaaDoor
theorem crcBack_card : Rows.CrcBackCardSaid := Go.Am.T.crcBack_card
#print axioms crcBack_card
end Go.Proofs.YtdagnbaflkondaaDoor
