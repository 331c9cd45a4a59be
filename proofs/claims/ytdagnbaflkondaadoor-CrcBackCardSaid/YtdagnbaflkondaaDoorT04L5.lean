/-
  CrcBack: it answers true. (A contract.)
-/
import Derived.Test.YtdagnbaflkondaaDoorT04W
import Derived.Test.YtdagnbaflkondaaDoorT04M
set_option linter.unusedVariables false
set_option linter.unusedSimpArgs false
namespace Go.Am.T
open Go Go.Am Go.Proofs

theorem crcBack_ok (p : Par) (v : V) (l : List UInt8) (hl : l.length ≤ 140737488351232) (σ : H) (hb : Bytes σ v l) (K : V → H → Prop)
    (hK : K (.bool true) σ) : best p.C 5 [v] σ K := by
  refine best_of_body (fn := Tryd.f5) Tryd.func5 0 ?_
  refine (f5_eq p 0 _ σ _).mpr ?_
  refine strip_ok p v l (by omega) σ hb _ ?_
  intro u σ1 hg hO
  have hb1 := hb.grew hg
  have hu : Bytes σ1 u (stripB l).1 := hO.bytes
  rw [ext_tuple, ext_tuple, List.getElem?_cons_zero, List.getElem?_cons_succ, List.getElem?_cons_zero, need_some, need_some, bn_eql, need_some]
  rcases strip_cases l with ⟨h4, hs⟩ | ⟨m, a, b, c, d, rfl, ⟨hm, hs⟩ | ⟨hm, hs⟩⟩
  · rw [hs] at hu ⊢
    have e1 : decide ((l.length : Int) < 4) = true := by simp; omega
    simp only [show (decide ((4 : Int) = 0)) = false from rfl, show (decide ((4 : Int) = 4)) = true from rfl, cnd_bool, gdF_bool, pick_bool, hu.len, hb1.len, need_some, bn_eql, bn_lss, bn_eq, eqS_bool, e1, List.length_nil, Int.natCast_zero, show (decide ((0 : Int) = 0)) = true from rfl, decide_true, if_true, Bool.false_eq_true, if_false,
      show (true = false) = False from by simp]
    refine wakes_ok p σ1 _ ?_
    exact Ret.pure hg trivial hK
  · rw [hs] at hu ⊢
    simp only [show (decide ((0 : Int) = 0)) = true from rfl, cnd_bool, if_true]
    rw [hb1.str, need_some]
    refine mark_ok p u m (by simp at hl; omega) σ1 hu _ ?_
    intro t σ2 hg2 hO2
    have ht : Bytes σ2 t (m ++ fourB (moreB 0 m)) := Owns.bytes (by rw [List.length_append]; exact hO2)
    refine ⟨by rw [(hb1.grew hg2).str], ?_⟩
    rw [ht.str, need_some, bn_seql, need_some, gdF_dec_t, hm, fourB_numB, if_pos rfl]
    refine wakes_ok p σ2 _ ?_
    rw [pick_bool, need_some, if_pos (by simp)]
    exact Ret.pure (hg.trans hg2) trivial hK
  · rw [hs] at hu ⊢
    have hlen : (m ++ [a, b, c, d]).length = m.length + 4 := by simp
    have e1 : decide (((m ++ [a, b, c, d]).length : Int) < 4) = false := by rw [hlen]; simp; omega
    have e2 : (((m ++ [a, b, c, d]).length : Nat) : Int) - 4 = (m.length : Nat) := by rw [hlen]; omega
    have e3 : IntKind.i64.wrap ((((m ++ [a, b, c, d]).length : Nat) : Int) - 4) = (m.length : Nat) := by rw [e2, wrap_i64 (by omega) (by omega)]
    obtain ⟨f, h1, b1⟩ := hb1.front (ik := .i64) (n := m.length) (by rw [hlen]; omega)
    rw [List.take_left] at b1
    simp only [show (decide ((21 : Int) = 0)) = false from rfl, show (decide ((21 : Int) = 4)) = false from rfl, cnd_bool, gdF_bool, pick_bool, hu.len, hb1.len, need_some, bn_eql, bn_lss, bn_eq, eqS_bool, e1, List.length_nil, Int.natCast_zero, show (decide ((0 : Int) = 0)) = true from rfl, decide_true, if_true, Bool.false_eq_true, if_false,
      bn_sub, e3, h1, hb1.str]
    refine mark_ok p f m (by rw [hlen] at hl; omega) σ1 b1 _ ?_
    intro t σ2 hg2 hO2
    have ht : Bytes σ2 t (m ++ fourB (moreB 0 m)) := Owns.bytes (by rw [List.length_append]; exact hO2)
    refine ⟨by rw [(hb1.grew hg2).str], ?_⟩
    have hne : ¬ (m ++ fourB (moreB 0 m) = m ++ [a, b, c, d]) := by
      intro e
      have e2 := List.append_cancel_left e
      apply hm
      have := numB_fourB (moreB 0 m)
      simp only [fourB, List.cons.injEq, and_true] at e2
      rw [e2.1, e2.2.1, e2.2.2.1, e2.2.2.2] at this
      exact this.symm
    simp only [ht.str, need_some, bn_sneq, hne, decide_false, Bool.not_false, gdF_bool, pick_bool, if_true]
    refine wakes_ok p σ2 _ ?_
    exact Ret.pure (hg.trans hg2) trivial hK
end Go.Am.T
