/-
  Sums as sums of bits: pure laws of words and rows of bytes. (No program.)
-/
import Derived.Test.YtdagnbaflkondaaDoorT04A
set_option linter.unusedVariables false
set_option linter.unusedSimpArgs false
namespace Go.Am.T

theorem b8_ext {x : BitVec 32} {c : UInt8} (h : ∀ i, i < 8 → x.getLsbD i = c.toBitVec.getLsbD i) : b8 x = c := by
  apply UInt8.toBitVec_inj.1
  apply BitVec.eq_of_getLsbD_eq
  intro i hi
  simp only [b8, BitVec.getLsbD_setWidth]
  simp [hi, h i hi]

theorem fourB_numB (a b c d : UInt8) : fourB (numB a b c d) = [a, b, c, d] := by
  simp only [fourB, List.cons.injEq, and_true]
  refine ⟨b8_ext ?_, b8_ext ?_, b8_ext ?_, b8_ext ?_⟩ <;>
  · intro i hi
    simp only [numB, g32, BitVec.getLsbD_ushiftRight, BitVec.getLsbD_or, BitVec.getLsbD_shiftLeft, BitVec.getLsbD_setWidth]
    rcases (by omega : i = 0 ∨ i = 1 ∨ i = 2 ∨ i = 3 ∨ i = 4 ∨ i = 5 ∨ i = 6 ∨ i = 7) with rfl | rfl | rfl | rfl | rfl | rfl | rfl | rfl <;> simp

theorem numB_fourB (x : BitVec 32) : numB (b8 (x >>> 24)) (b8 (x >>> 16)) (b8 (x >>> 8)) (b8 x) = x := by
  apply BitVec.eq_of_getLsbD_eq
  intro i hi
  simp only [numB, g32, b8, BitVec.getLsbD_ushiftRight, BitVec.getLsbD_or, BitVec.getLsbD_shiftLeft, BitVec.getLsbD_setWidth]
  rcases Nat.lt_or_ge i 8 with h | h
  · simp [h, show i < 16 by omega, show i < 24 by omega, hi]
  · rcases Nat.lt_or_ge i 16 with h2 | h2
    · simp [h2, show ¬ i < 8 by omega, show i < 24 by omega, hi, show i - 8 < 8 by omega, show 8 + (i - 8) = i by omega, show i - 8 < 32 by omega]
    · rcases Nat.lt_or_ge i 24 with h3 | h3
      · simp [h3, show ¬ i < 16 by omega, show ¬ i < 8 by omega, hi, show i - 16 < 8 by omega, show ¬ i - 8 < 8 by omega, show 16 + (i - 16) = i by omega, show i - 16 < 32 by omega]
      · simp [show ¬ i < 24 by omega, show ¬ i < 16 by omega, show ¬ i < 8 by omega, hi, show i - 24 < 8 by omega, show ¬ i - 16 < 8 by omega, show ¬ i - 8 < 8 by omega, show 24 + (i - 24) = i by omega, show i - 24 < 32 by omega]

theorem strip_cases (l : List UInt8) : (l.length < 4 ∧ stripB l = ([], 4)) ∨
    (∃ m a b c d, l = m ++ [a, b, c, d] ∧ ((moreB 0 m = numB a b c d ∧ stripB l = (m, 0)) ∨ (moreB 0 m ≠ numB a b c d ∧ stripB l = ([], 21)))) := by
  by_cases h : l.length < 4
  · exact .inl ⟨h, by simp only [stripB, if_pos h]⟩
  · right
    obtain ⟨n, hn⟩ : ∃ n, l.length = n + 4 := ⟨l.length - 4, by omega⟩
    have e2 : l.length - 4 = n := by omega
    have hd : (l.drop n).length = 4 := by simp; omega
    obtain ⟨a, b, c, d, hdd⟩ : ∃ a b c d, l.drop n = [a, b, c, d] := by
      match hq : l.drop n, hd with
      | [a, b, c, d], _ => exact ⟨a, b, c, d, rfl⟩
    refine ⟨l.take n, a, b, c, d, by rw [← hdd, List.take_append_drop], ?_⟩
    have es : stripB l = if moreB 0 (l.take n) = numB a b c d then (l.take n, 0) else ([], 21) := by
      simp only [stripB, if_neg h, e2, hdd]
    by_cases hs : moreB 0 (l.take n) = numB a b c d
    · rw [if_pos hs] at es
      exact .inl ⟨hs, es⟩
    · rw [if_neg hs] at es
      exact .inr ⟨hs, es⟩
end Go.Am.T
