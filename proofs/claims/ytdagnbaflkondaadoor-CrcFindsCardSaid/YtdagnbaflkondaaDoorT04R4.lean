/-
  PROVED: almanaclaw04.CrcFinds answers true for every input, returns always, and its arguments read behind the call as they read before (the tied card).
  CONDITIONS: none but the card's own: the listed variables hold what the program's text lays in them; a slice takes at most the form's own reach.
-/
import Derived.Test.YtdagnbaflkondaaDoorT04R
import Derived.Test.YtdagnbaflkondaaDoorT04L4
import Derived.Test.YtdagnbaflkondaaDoorTie
import Derived.Test.YtdagnbaflkondaaDoorCards
import Derived.SevenTiedAt
set_option linter.unusedVariables false
set_option linter.unusedSimpArgs false
namespace Go.Am.T
open Go Go.Am Go.Proofs Go.RowKit Go.ChangeShapes Go.WideShapes Go.ChangeAt
open Go.Proofs.YtdagnbaflkondaaDoor

set_option maxRecDepth 100000 in
theorem crcFinds_lifted (os : Os) (started : os.Started) (T : Type) (enc : TypeId × Value → T) :
    ReturnsInHanded {} Tryd.checked os 4 .any (fun w args => (Rows.crcFindsSpec.pre enc Tryd.prog Tryd.f4 [] false w args ∧ laidMetH Tryd.prog laids w) ∧ sizedMet enc Tryd.prog Tryd.f4 (OpenSpec.ofChange Rows.crcFindsSpec) false w args)
      (Rows.crcFindsSpec.post enc Tryd.prog Tryd.f4 false true false false) := by
  refine returnsInHanded_of_change_and (C := Tryd.checked) (X := fun w _ => laidMetH Tryd.prog laids w) (fun _ _ _ hh h => h.of_heap hh) own started (by kernel_rfl) Tryd.func4
    (ChangeSpec.witness_shaped (enc := enc) (C := Tryd.checked) (os := os) (X := fun w _ => laidMetH Tryd.prog laids w) false (World.doorLaid Tryd.prog 400 os) #[.slice none 0 0, .int .u16 0, .int .u32 0] 8 rfl (World.shaped_of_RefB (by kernel_rfl) (by kernel_rfl)) (by kernel_rfl) (by kernel_rfl) (by kernel_rfl) (door_met os _)) ?_
  intro W base args ds gs before hval0 hW _ hwt hL _
  have hval : ∀ (j : Nat) t v, Tryd.f4.params[j]? = some t → args[j]? = some v → Value.okWide Tryd.prog W .any base t v := hval0
  have hW' := hW
  obtain ⟨p, q, hA0, hV, rfl, hfz, hnd⟩ := hW
  have hA : DataW.TrodAll enc Tryd.prog W 0 (fun _ => true) true Tryd.f4.params.toList args.toList ds p := hA0
  have hP := Tryd.params4
  rw [hP] at hA hval
  obtain ⟨v0, vs1, d0, ds1, p0, q1, e0, rfl, rfl, h0, hr1⟩ := trodAll_cons hA
  obtain ⟨v1, vs2, d1, ds2, p1, q2, e1, rfl, rfl, h1, hr2⟩ := trodAll_cons hr1
  obtain ⟨v2, vs3, d2, ds3, p2, q3, e2, rfl, rfl, h2, hr3⟩ := trodAll_cons hr2
  obtain ⟨e3, rfl, rfl⟩ := trodAll_nil hr3
  have hargs : args = #[v0, v1, v2] := by
    apply Array.toList_inj.1
    rw [e0, e1, e2, e3]
  subst hargs
  obtain ⟨rfl, rfl⟩ := trodVars_none hV
  obtain ⟨n1, rfl, rfl, rfl, w1⟩ := open_int Tryd.underlying35 (hval 1 35 v1 rfl rfl) h1
  obtain ⟨n2, rfl, rfl, rfl, w2⟩ := open_int Tryd.underlying22 (hval 2 22 v2 rfl rfl) h2
  have hwt' : (DataW.weightsEach Tryd.prog [23, 35, 22] [d0, .lit (.int .u16 n1), .lit (.int .u32 n2)]).all (· ≤ reachBytes) = true := hwt
  simp only [DataW.weightsEach, List.all_append, Bool.and_eq_true] at hwt'
  obtain ⟨r0, b0, l0, hB0⟩ := open_bytes Tryd.underlying23 Tryd.underlying5 cells5 bytes5 (hval 0 23 v0 rfl rfl) h0 hwt'.1 (heap_pos hL)
  have hn1 := bounds_u16 w1
  have hn2 := bounds_u32 w2
  let pr : Par := ⟨W.heap.size, W⟩
  have hR : Rl pr.C (startP [r0]) (startH [r0]) W := start_rl [r0] (fun i r' hi => by
    match i, hi with
    | 0, hi =>
      cases hi
      exact ⟨hB0.blk, fun j c hj => by obtain ⟨y, h1, h2⟩ := hB0.cell j c hj; exact ⟨y, h1, h2 _⟩⟩) (glob_ok hL)
  have hb0 : Bytes (startH [r0]) (b0 0) l0 := hB0.bytes 0 _ rfl
  have hv0 : VR (startP [r0]) (b0 0) v0 := hB0.val 0 _ (by simp [startP])
  have hl0 := hB0.len
  obtain ⟨m1, rfl⟩ : ∃ m : Nat, n1 = m := ⟨n1.toNat, by omega⟩
  have hc := crcFinds_ok pr (b0 0) l0 m1 (BitVec.ofNat 32 n2.toNat) hl0 (by omega) (startH [r0]) hb0 (fun v _ => v = .bool true) rfl
  have := hc (startP [r0]) W [v0, .int .u16 m1, .int .u32 n2] hR (⟨_, _, rfl, hv0, ⟨_, _, rfl, rfl, ⟨_, _, rfl, (by rw [← w32_of hn2.1 (by omega)]; rfl), rfl⟩⟩⟩)
  refine Calls.mono (show Calls Tryd.prog 4 #[v0, .int .u16 m1, .int .u32 n2] W _ from this) fun e W' hE => ?_
  obtain ⟨u, σ', ρ', x, rfl, rfl, _, hR', hx⟩ := hE
  exact ⟨_, rfl, hx ▸ post_true hW' rfl rfl (by kernel_rfl) Tryd.underlying4 laidOut (by kernel_rfl) hR'.below⟩

theorem crcFinds_holds : Rows.CrcFindsSaid :=
  OpenClaim.holds_of_wide 4 Tryd.f4 rfl rfl rfl rfl rfl rfl rfl ⟨rfl, rfl, rfl, rfl, rfl⟩ rfl rfl rfl rfl rfl (by kernel_rfl) Tryd.func4 (by kernel_rfl)
    (of_decide_eq_true (by kernel_rfl)) (by unfold Func.isWrapper; first | (rw [if_pos (by decide +kernel)]; kernel_rfl) | (rw [if_neg (by decide +kernel)]; exact ⟨rfl, rfl⟩))
    (fun os started T enc _ => crcFinds_lifted os started T enc)

theorem crcFinds_card : Rows.CrcFindsCardSaid :=
  Claim7.holds_tied_plain_at .later [] [.data] true (true, "17491e78a3c75f2931f6bd1527689d17f2ea3943958e875519678df8c7d9d321") false
    crcFinds_holds (fun _ h => by cases h) (by kernel_rfl) (fun _ h => by cases h) crcFinds_row_tie rfl ⟨rfl, rfl⟩ (by kernel_rfl) rfl
    (fun f fn hf hfn => by
      obtain rfl : f = 4 := Option.some.inj ((show Tryd.prog.funcNamed "almanac/almanaclaw04.CrcFinds" = some 4 by kernel_rfl).symm.trans hf) |>.symm
      obtain rfl : fn = Tryd.f4 := (Option.some.inj (Tryd.func4.symm.trans hfn)).symm
      exact ⟨by kernel_rfl, fun j t ht => by
        rw [Tryd.params4] at ht
        have hm : t ∈ [23, 35, 22] := by simpa using Array.mem_of_getElem? ht
        have hall : ([23, 35, 22].all fun u => !Tryd.prog.wantsStandIn u) = true := by kernel_rfl
        exact (show Tryd.prog.wantsStandIn t = false by simpa using List.all_eq_true.1 hall t hm)⟩)
    (by kernel_rfl)
end Go.Am.T
namespace Go.Proofs.YtdagnbaflkondaaDoor
theorem crcFinds_card : Rows.CrcFindsCardSaid := Go.Am.T.crcFinds_card
#print axioms crcFinds_card
end Go.Proofs.YtdagnbaflkondaaDoor
