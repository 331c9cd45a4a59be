/-
  PROVED: almanaclaw04.CrcMore answers true for every sum, every row of bytes and every place, returns always, and its arguments read behind the call as they read before (the tied card).
  CONDITIONS: none but the card's own: 'almanac/crc.steps' holds what the program's text lays in it; a slice takes at most the form's own reach.
-/
import Derived.Test.YtdagnbaflkondaaDoorT04R
import Derived.Test.YtdagnbaflkondaaDoorT04L6
import Derived.Test.YtdagnbaflkondaaDoorTie
import Derived.Test.YtdagnbaflkondaaDoorCards
import Derived.SevenTiedAt
set_option linter.unusedVariables false
namespace Go.Am.T
open Go Go.Am Go.Proofs Go.RowKit Go.ChangeShapes Go.WideShapes Go.ChangeAt
open Go.Proofs.YtdagnbaflkondaaDoor

set_option maxRecDepth 100000 in
theorem crcMore_lifted (os : Os) (started : os.Started) (T : Type) (enc : TypeId × Value → T) :
    ReturnsInHanded {} Tryd.checked os 6 .any (fun w args => (Rows.crcMoreSpec.pre enc Tryd.prog Tryd.f6 [] false w args ∧ laidMetH Tryd.prog laids w) ∧ sizedMet enc Tryd.prog Tryd.f6 (OpenSpec.ofChange Rows.crcMoreSpec) false w args)
      (Rows.crcMoreSpec.post enc Tryd.prog Tryd.f6 false true false false) := by
  refine returnsInHanded_of_change_and (C := Tryd.checked) (X := fun w _ => laidMetH Tryd.prog laids w) (fun _ _ _ hh h => h.of_heap hh) own started (by kernel_rfl) Tryd.func6
    (ChangeSpec.witness_shaped (enc := enc) (C := Tryd.checked) (os := os) (X := fun w _ => laidMetH Tryd.prog laids w) false (World.doorLaid Tryd.prog 400 os) #[.int .u32 0, .slice none 0 0, .int .u16 0] 8 rfl (World.shaped_of_RefB (by kernel_rfl) (by kernel_rfl)) (by kernel_rfl) (by kernel_rfl) (by kernel_rfl) (door_met os _)) ?_
  intro W base args ds gs before hval0 hW _ hwt hL _
  have hval : ∀ (j : Nat) t v, Tryd.f6.params[j]? = some t → args[j]? = some v → Value.okWide Tryd.prog W .any base t v := hval0
  have hW' := hW
  obtain ⟨p, q, hA0, hV, rfl, hfz, hnd⟩ := hW
  have hA : DataW.TrodAll enc Tryd.prog W 0 (fun _ => true) true Tryd.f6.params.toList args.toList ds p := hA0
  have hP := Tryd.params6
  rw [hP] at hA hval
  obtain ⟨v0, v1, v2, d0, d1, d2, p0, p1, p2, rfl, rfl, rfl, h0, h1, h2⟩ := trodAll_three hA
  obtain ⟨rfl, rfl⟩ := trodVars_none hV
  obtain ⟨s, rfl, rfl, rfl, ws⟩ := open_int Tryd.underlying22 (hval 0 22 v0 rfl rfl) h0
  obtain ⟨n, rfl, rfl, rfl, wn⟩ := open_int Tryd.underlying35 (hval 2 35 v2 rfl rfl) h2
  have hwt1 : (DataW.weights Tryd.prog 23 d1).all (· ≤ reachBytes) = true := by
    have hwt' : (DataW.weightsEach Tryd.prog [22, 23, 35] [.lit (.int .u32 s), d1, .lit (.int .u16 n)]).all (· ≤ reachBytes) = true := hwt
    simp only [DataW.weightsEach, List.all_append, Bool.and_eq_true] at hwt'
    exact hwt'.2.1
  obtain ⟨r, v, l, hB⟩ := open_bytes Tryd.underlying23 Tryd.underlying5 cells5 bytes5 (hval 1 23 v1 rfl rfl) h1 hwt1 (heap_pos hL)
  have hs := bounds_u32 ws
  have hn := bounds_u16 wn
  let pr : Par := ⟨W.heap.size, W⟩
  have hR : Rl pr.C (startP [r]) (startH [r]) W := start_rl [r] (fun i r' hi => by
    match i, hi with
    | 0, hi =>
      cases hi
      exact ⟨hB.blk, fun j c hj => by obtain ⟨y, h1, h2⟩ := hB.cell j c hj; exact ⟨y, h1, h2 _⟩⟩) (glob_ok hL)
  have hb : Bytes (startH [r]) (v 0) l := hB.bytes 0 _ rfl
  have hv : VR (startP [r]) (v 0) v1 := hB.val 0 _ (by simp [startP])
  obtain ⟨m, rfl⟩ : ∃ m : Nat, n = m := ⟨n.toNat, by omega⟩
  have hc := crcMore_ok pr (BitVec.ofNat 32 s.toNat) (v 0) l m (by omega) (by have := hB.len; omega) (startH [r]) hb (fun v _ => v = .bool true) rfl
  have := hc (startP [r]) W [.int .u32 s, v1, .int .u16 m] hR ⟨_, _, rfl, by rw [← w32_of hs.1 (by omega)]; rfl, _, _, rfl, hv, _, _, rfl, rfl, rfl⟩
  refine Calls.mono (show Calls Tryd.prog 6 #[.int .u32 s, v1, .int .u16 m] W _ from this) fun e W' hE => ?_
  obtain ⟨u, σ', ρ', x, rfl, rfl, _, hR', hx⟩ := hE
  exact ⟨_, rfl, hx ▸ post_true hW' rfl rfl (by kernel_rfl) Tryd.underlying4 laidOut (by kernel_rfl) hR'.below⟩

theorem crcMore_holds : Rows.CrcMoreSaid :=
  OpenClaim.holds_of_wide 6 Tryd.f6 rfl rfl rfl rfl rfl rfl rfl ⟨rfl, rfl, rfl, rfl, rfl⟩ rfl rfl rfl rfl rfl (by kernel_rfl) Tryd.func6 (by kernel_rfl)
    (of_decide_eq_true (by kernel_rfl)) (by unfold Func.isWrapper; first | (rw [if_pos (by decide +kernel)]; kernel_rfl) | (rw [if_neg (by decide +kernel)]; exact ⟨rfl, rfl⟩))
    (fun os started T enc _ => crcMore_lifted os started T enc)

theorem crcMore_card : Rows.CrcMoreCardSaid :=
  Claim7.holds_tied_plain_at .later [] [.data] true (true, "17491e78a3c75f2931f6bd1527689d17f2ea3943958e875519678df8c7d9d321") false
    crcMore_holds (fun _ h => by cases h) (by kernel_rfl) (fun _ h => by cases h) crcMore_row_tie rfl ⟨rfl, rfl⟩ (by kernel_rfl) rfl
    (fun f fn hf hfn => by
      obtain rfl : f = 6 := Option.some.inj ((show Tryd.prog.funcNamed "almanac/almanaclaw04.CrcMore" = some 6 by kernel_rfl).symm.trans hf) |>.symm
      obtain rfl : fn = Tryd.f6 := (Option.some.inj (Tryd.func6.symm.trans hfn)).symm
      exact ⟨by kernel_rfl, fun j t ht => by
        rw [Tryd.params6] at ht
        have hm : t ∈ [22, 23, 35] := by simpa using Array.mem_of_getElem? ht
        have hall : ([22, 23, 35].all fun u => !Tryd.prog.wantsStandIn u) = true := by kernel_rfl
        exact (show Tryd.prog.wantsStandIn t = false by simpa using List.all_eq_true.1 hall t hm)⟩)
    (by kernel_rfl)
end Go.Am.T
namespace Go.Proofs.YtdagnbaflkondaaDoor
theorem crcMore_card : Rows.CrcMoreCardSaid := Go.Am.T.crcMore_card
end Go.Proofs.YtdagnbaflkondaaDoor
