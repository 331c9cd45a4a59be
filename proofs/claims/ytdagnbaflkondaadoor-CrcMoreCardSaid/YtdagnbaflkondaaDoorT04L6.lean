/-
  CrcMore: it answers true. (A contract.)
-/
import Derived.Test.YtdagnbaflkondaaDoorT04W
set_option linter.unusedVariables false
namespace Go.Am.T
open Go Go.Am Go.Proofs

theorem moreB_append (s : BitVec 32) (a b : List UInt8) : moreB (moreB s a) b = moreB s (a ++ b) := by
  simp [moreB, List.foldl_append]

theorem crcMore_ok (p : Par) (s : BitVec 32) (v : V) (l : List UInt8) (n : Nat) (hn : n < 65536) (hl : l.length ≤ 140737488355328) (σ : H) (hb : Bytes σ v l) (K : V → H → Prop)
    (hK : K (.bool true) σ) : best p.C 6 [w32 s, v, .int .u16 n] σ K := by
  refine best_of_body (fn := Tryd.f6) Tryd.func6 0 ?_
  refine (f6_eq p 0 _ _ _ σ _).mpr ?_
  have hk : n % (l.length + 1) ≤ l.length := by have := Nat.mod_lt n (show 0 < l.length + 1 by omega); omega
  rw [cv_int, need_some, hb.len, need_some, bn_add, need_some, wrap_i64 (by omega) (by omega), wrap_i64 (by omega) (by omega), bn_rem, if_neg (by omega), need_some]
  have e : ((n : Int).tmod ((l.length : Int) + 1)) = ((n % (l.length + 1) : Nat) : Int) := by
    rw [Int.tmod_eq_emod_of_nonneg (by omega)]; rfl
  rw [e]
  obtain ⟨u1, h1, b1⟩ := hb.front (ik := .i64) hk
  obtain ⟨u2, h2, b2⟩ := hb.back (ik := .i64) hk
  have l1 : (l.take (n % (l.length + 1))).length ≤ 9223372036854775806 := by simp; omega
  have l2 : (l.drop (n % (l.length + 1))).length ≤ 9223372036854775806 := by simp; omega
  have z : (V.int .u32 0) = w32 0 := rfl
  rw [h1, need_some, h2, need_some]
  refine more_ok p _ _ _ l1 σ b1 _ ?_
  refine more_ok p _ _ _ l2 σ b2 _ ?_
  refine more_ok p _ _ _ (by omega) σ hb _ ?_
  rw [moreB_append, List.take_append_drop, bn_eql32, need_some, gdF_dec_t, if_pos rfl, need_some, need_some]
  refine sum_ok p _ _ l1 σ b1 _ ?_
  refine more_ok p _ _ _ l2 σ b2 _ ?_
  refine sum_ok p _ _ (by omega) σ hb _ ?_
  rw [moreB_append, List.take_append_drop, bn_eql32, need_some, pick_bool, need_some, if_pos (by simp), gdF_dec_t, if_pos rfl]
  refine more_ok p _ _ [] (by simp) σ (.inl ⟨rfl, rfl⟩) _ ?_
  rw [show moreB s [] = s by simp [moreB], bn_eql32, need_some, pick_bool, need_some, if_pos (by simp), gdF_dec_t, if_pos rfl, z]
  refine more_ok p _ _ _ (by omega) σ hb _ ?_
  refine sum_ok p _ _ (by omega) σ hb _ ?_
  rw [bn_eql32, need_some, pick_bool, need_some, if_pos (by simp), gdF_dec_t, if_pos rfl]
  refine wakes_ok p σ _ ?_
  rw [pick_bool, need_some, if_pos (by simp)]
  exact Ret.pure (Grew.refl _) trivial hK
end Go.Am.T
