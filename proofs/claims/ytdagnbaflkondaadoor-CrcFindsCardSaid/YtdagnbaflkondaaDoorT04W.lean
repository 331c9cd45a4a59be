/-
  The seat's law's rows: wakes. (Contracts.)
-/
import Derived.Test.YtdagnbaflkondaaDoorT04A
set_option linter.unusedVariables false
namespace Go.Am.T
open Go Go.Am Go.Proofs

theorem lit_bytes {σ : H} {n n0 : Nat} {ps : List (Nat × V)} {K : V → H → Prop} (l : List UInt8) (hn : n0 ≤ σ.size) (hc : bsP ⟨5, 1, 1, [.int .u8 0]⟩ n ps = some (l.map bv)) (hl : l.length = n)
    (hK : ∀ v σ', Grew σ σ' → Owns σ' n0 1 v l.length (l.map bv) → K v σ') : litX σ ⟨5, 1, 1, [.int .u8 0]⟩ n ps K := by
  subst hl
  exact lit_owns hn hc (by simp) hK

theorem frz_owns {σ : H} {n0 : Nat} {l : List UInt8} {v : V} {K : V → H → Prop} (hO : Owns σ n0 1 v l.length (l.map bv)) (hl : l ≠ []) (hK : K v σ) : frzX σ v K := by
  obtain ⟨h, ⟨rfl, h0⟩ | ⟨id, r, ex, rfl, h1, h2, h3, h4, h5⟩⟩ := hO
  · exact absurd (List.eq_nil_of_length_eq_zero h0) hl
  · simp only [frzX]
    rw [if_pos]
    · exact hK
    · refine ⟨?_, ?_, by decide⟩
      · simpa [H.isOwn, h2, h4] using h5
      · cases l <;> simp at hl ⊢

theorem strip_e1 : stripB [0, 0] = ([], 4) := by decide +kernel
theorem strip_e2 : stripB [0, 0, 0, 1] = ([], 21) := by decide +kernel
theorem sum_e1 : moreB 0 [49, 50, 51, 52, 53, 54, 55, 56, 57] = 0xfc891918#32 := by decide +kernel
theorem sum_e2 : moreB 0 [] = 0#32 := by decide +kernel
theorem sum_e3 : moreB (moreB 0 [49, 50, 51, 52, 53]) [54, 55, 56, 57] = 0xfc891918#32 := by decide +kernel
theorem four_e : fourB (moreB 0 []) = [0, 0, 0, 0] := by decide +kernel

theorem wakes_ok (p : Par) (σ : H) (K : V → H → Prop) (hK : K (.bool true) σ) : best p.C 17 [] σ K := by
  refine best_of_body (fn := Tryd.f17) Tryd.func17 0 ?_
  refine (f17_eq p 0 σ _).mpr ?_
  refine lit_bytes [0, 0] (Nat.le_refl _) rfl rfl ?_
  intro v1 σ1 g1 o1
  refine strip_ok p v1 [0, 0] (by decide) σ1 o1.bytes _ ?_
  intro u1 σ2 g2 _
  rw [strip_e1, ext_tuple, ext_tuple, List.getElem?_cons_zero, List.getElem?_cons_succ, List.getElem?_cons_zero, need_some, need_some]
  refine lit_bytes [0, 0, 0, 1] (Nat.le_refl _) rfl rfl ?_
  intro v2 σ3 g3 o3
  refine strip_ok p v2 [0, 0, 0, 1] (by decide) σ3 o3.bytes _ ?_
  intro u2 σ4 g4 _
  rw [strip_e2, ext_tuple, ext_tuple, List.getElem?_cons_zero, List.getElem?_cons_succ, List.getElem?_cons_zero, need_some, need_some]
  refine lit_bytes [49, 50, 51, 52, 53, 54, 55, 56, 57] (Nat.le_refl _) rfl rfl ?_
  intro v3 σ5 g5 o5
  refine frz_owns o5 (by decide) ?_
  refine sum_ok p v3 _ (by decide) σ5 o5.bytes _ ?_
  rw [sum_e1, show (V.int .u32 4236843288) = w32 0xfc891918#32 from rfl, bn_eql32, need_some, gdF_dec_t, if_pos rfl]
  refine sum_ok p .nils [] (by decide) σ5 (.inl ⟨rfl, rfl⟩) _ ?_
  rw [sum_e2, show (V.int .u32 0) = w32 0#32 from rfl, bn_eql32, need_some, pick_bool, need_some, if_pos (by decide), gdF_dec_t, if_pos rfl]
  refine lit_bytes [49, 50, 51, 52, 53] (Nat.le_refl _) rfl rfl ?_
  intro v4 σ6 g6 o6
  refine frz_owns o6 (by decide) ?_
  refine sum_ok p v4 _ (by decide) σ6 o6.bytes _ ?_
  refine lit_bytes [54, 55, 56, 57] (Nat.le_refl _) rfl rfl ?_
  intro v5 σ7 g7 o7
  refine frz_owns o7 (by decide) ?_
  refine more_ok p _ v5 _ (by decide) σ7 o7.bytes _ ?_
  rw [sum_e3, bn_eql32, need_some, pick_bool, need_some, if_pos (by decide), gdF_dec_t, if_pos rfl]
  refine mark_ok p .nils [] (by decide) σ7 (.inl ⟨rfl, rfl⟩) _ ?_
  intro v6 σ8 g8 o8
  have b8 : Bytes σ8 v6 ([] ++ fourB (moreB 0 [])) := o8.bytes
  rw [b8.str, need_some, four_e, bn_seql, need_some, pick_bool, need_some, if_pos (by decide), gdF_dec_t, if_pos (by decide)]
  rw [bn_eql, need_some, pick_bool, need_some, if_pos (by decide), gdF_dec_t, if_pos rfl]
  rw [bn_eql, need_some, pick_bool, need_some, if_pos (by decide)]
  exact Ret.pure (((((((g1.trans g2).trans g3).trans g4).trans g5).trans g6).trans g7).trans g8) trivial hK
end Go.Am.T
