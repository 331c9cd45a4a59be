/-
  PROVED: almanaclaw04.CrcCalls answers true for every input, returns always, and its arguments read behind the call as they read before (the tied card).
  CONDITIONS: none but the card's own: the listed variables hold what the program's text lays in them; a slice takes at most the form's own reach.
-/
import Derived.Test.YtdagnbaflkondaaDoorT04R
import Derived.Test.YtdagnbaflkondaaDoorT04L3
import Derived.Test.YtdagnbaflkondaaDoorTie
import Derived.Test.YtdagnbaflkondaaDoorCards
import Derived.SevenTiedAt
set_option linter.unusedVariables false
set_option linter.unusedSimpArgs false
namespace Go.Am.T
open Go Go.Am Go.Proofs Go.RowKit Go.ChangeShapes Go.WideShapes Go.ChangeAt
open Go.Proofs.YtdagnbaflkondaaDoor

set_option maxRecDepth 100000 in
theorem crcCalls_lifted (os : Os) (started : os.Started) (T : Type) (enc : TypeId × Value → T) :
    ReturnsInHanded {} Tryd.checked os 3 .any (fun w args => (Rows.crcCallsSpec.pre enc Tryd.prog Tryd.f3 [] false w args ∧ laidMetH Tryd.prog laids w) ∧ sizedMet enc Tryd.prog Tryd.f3 (OpenSpec.ofChange Rows.crcCallsSpec) false w args)
      (Rows.crcCallsSpec.post enc Tryd.prog Tryd.f3 false true false false) := by
  refine returnsInHanded_of_change_and (C := Tryd.checked) (X := fun w _ => laidMetH Tryd.prog laids w) (fun _ _ _ hh h => h.of_heap hh) own started (by kernel_rfl) Tryd.func3
    (ChangeSpec.witness_shaped (enc := enc) (C := Tryd.checked) (os := os) (X := fun w _ => laidMetH Tryd.prog laids w) false (World.doorLaid Tryd.prog 400 os) #[.int .u32 0, .slice none 0 0, .slice none 0 0] 8 rfl (World.shaped_of_RefB (by kernel_rfl) (by kernel_rfl)) (by kernel_rfl) (by kernel_rfl) (by kernel_rfl) (door_met os _)) ?_
  intro W base args ds gs before hval0 hW _ hwt hL _
  have hval : ∀ (j : Nat) t v, Tryd.f3.params[j]? = some t → args[j]? = some v → Value.okWide Tryd.prog W .any base t v := hval0
  have hW' := hW
  obtain ⟨p, q, hA0, hV, rfl, hfz, hnd⟩ := hW
  have hA : DataW.TrodAll enc Tryd.prog W 0 (fun _ => true) true Tryd.f3.params.toList args.toList ds p := hA0
  have hP := Tryd.params3
  rw [hP] at hA hval
  obtain ⟨v0, vs1, d0, ds1, p0, q1, e0, rfl, rfl, h0, hr1⟩ := trodAll_cons hA
  obtain ⟨v1, vs2, d1, ds2, p1, q2, e1, rfl, rfl, h1, hr2⟩ := trodAll_cons hr1
  obtain ⟨v2, vs3, d2, ds3, p2, q3, e2, rfl, rfl, h2, hr3⟩ := trodAll_cons hr2
  obtain ⟨e3, rfl, rfl⟩ := trodAll_nil hr3
  have hargs : args = #[v0, v1, v2] := by
    apply Array.toList_inj.1
    rw [e0, e1, e2, e3]
  subst hargs
  obtain ⟨rfl, rfl⟩ := trodVars_none hV
  obtain ⟨n0, rfl, rfl, rfl, w0⟩ := open_int Tryd.underlying22 (hval 0 22 v0 rfl rfl) h0
  have hwt' : (DataW.weightsEach Tryd.prog [22, 23, 23] [.lit (.int .u32 n0), d1, d2]).all (· ≤ reachBytes) = true := hwt
  simp only [DataW.weightsEach, List.all_append, Bool.and_eq_true] at hwt'
  obtain ⟨r1, b1, l1, hB1⟩ := open_bytes Tryd.underlying23 Tryd.underlying5 cells5 bytes5 (hval 1 23 v1 rfl rfl) h1 hwt'.2.1 (heap_pos hL)
  obtain ⟨r2, b2, l2, hB2⟩ := open_bytes Tryd.underlying23 Tryd.underlying5 cells5 bytes5 (hval 2 23 v2 rfl rfl) h2 hwt'.2.2.1 (heap_pos hL)
  have hn0 := bounds_u32 w0
  let pr : Par := ⟨W.heap.size, W⟩
  have hR : Rl pr.C (startP [r1, r2]) (startH [r1, r2]) W := start_rl [r1, r2] (fun i r' hi => by
    match i, hi with
    | 0, hi =>
      cases hi
      exact ⟨hB1.blk, fun j c hj => by obtain ⟨y, h1, h2⟩ := hB1.cell j c hj; exact ⟨y, h1, h2 _⟩⟩
    | 1, hi =>
      cases hi
      exact ⟨hB2.blk, fun j c hj => by obtain ⟨y, h1, h2⟩ := hB2.cell j c hj; exact ⟨y, h1, h2 _⟩⟩) (glob_ok hL)
  have hb1 : Bytes (startH [r1, r2]) (b1 0) l1 := hB1.bytes 0 _ rfl
  have hv1 : VR (startP [r1, r2]) (b1 0) v1 := hB1.val 0 _ (by simp [startP])
  have hl1 := hB1.len
  have hb2 : Bytes (startH [r1, r2]) (b2 1) l2 := hB2.bytes 1 _ rfl
  have hv2 : VR (startP [r1, r2]) (b2 1) v2 := hB2.val 1 _ (by simp [startP])
  have hl2 := hB2.len
  have hc := crcCalls_ok pr (BitVec.ofNat 32 n0.toNat) (b1 0) l1 (b2 1) l2 hl1 hl2 (startH [r1, r2]) hb1 hb2 (fun v _ => v = .bool true) rfl
  have := hc (startP [r1, r2]) W [.int .u32 n0, v1, v2] hR (⟨_, _, rfl, (by rw [← w32_of hn0.1 (by omega)]; rfl), ⟨_, _, rfl, hv1, ⟨_, _, rfl, hv2, rfl⟩⟩⟩)
  refine Calls.mono (show Calls Tryd.prog 3 #[.int .u32 n0, v1, v2] W _ from this) fun e W' hE => ?_
  obtain ⟨u, σ', ρ', x, rfl, rfl, _, hR', hx⟩ := hE
  exact ⟨_, rfl, hx ▸ post_true hW' rfl rfl (by kernel_rfl) Tryd.underlying4 laidOut (by kernel_rfl) hR'.below⟩

theorem crcCalls_holds : Rows.CrcCallsSaid :=
  OpenClaim.holds_of_wide 3 Tryd.f3 rfl rfl rfl rfl rfl rfl rfl ⟨rfl, rfl, rfl, rfl, rfl⟩ rfl rfl rfl rfl rfl (by kernel_rfl) Tryd.func3 (by kernel_rfl)
    (of_decide_eq_true (by kernel_rfl)) (by unfold Func.isWrapper; first | (rw [if_pos (by decide +kernel)]; kernel_rfl) | (rw [if_neg (by decide +kernel)]; exact ⟨rfl, rfl⟩))
    (fun os started T enc _ => crcCalls_lifted os started T enc)

theorem crcCalls_card : Rows.CrcCallsCardSaid :=
  Claim7.holds_tied_plain_at .later [] [.data] true (true, "17491e78a3c75f2931f6bd1527689d17f2ea3943958e875519678df8c7d9d321") false
    crcCalls_holds (fun _ h => by cases h) (by kernel_rfl) (fun _ h => by cases h) crcCalls_row_tie rfl ⟨rfl, rfl⟩ (by kernel_rfl) rfl
    (fun f fn hf hfn => by
      obtain rfl : f = 3 := Option.some.inj ((show Tryd.prog.funcNamed "almanac/almanaclaw04.CrcCalls" = some 3 by kernel_rfl).symm.trans hf) |>.symm
      obtain rfl : fn = Tryd.f3 := (Option.some.inj (Tryd.func3.symm.trans hfn)).symm
      exact ⟨by kernel_rfl, fun j t ht => by
        rw [Tryd.params3] at ht
        have hm : t ∈ [22, 23, 23] := by simpa using Array.mem_of_getElem? ht
        have hall : ([22, 23, 23].all fun u => !Tryd.prog.wantsStandIn u) = true := by kernel_rfl
        exact (show Tryd.prog.wantsStandIn t = false by simpa using List.all_eq_true.1 hall t hm)⟩)
    (by kernel_rfl)
end Go.Am.T
namespace Go.Proofs.YtdagnbaflkondaaDoor
theorem crcCalls_card : Rows.CrcCallsCardSaid := Go.Am.T.crcCalls_card
#print axioms crcCalls_card
end Go.Proofs.YtdagnbaflkondaaDoor
