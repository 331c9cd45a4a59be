/-
  Sums, bit by bit: pure laws. (No program.)
-/
import Derived.Test.YtdagnbaflkondaaDoorT04M2
set_option linter.unusedVariables false
set_option linter.unusedSimpArgs false
namespace Go.Am.T

/-- One step of a register. -/
def st (x : BitVec 32) : BitVec 32 := x <<< 1 ^^^ (if x.getLsbD 31 then 0x04c11db7#32 else 0#32)
def stN : Nat → BitVec 32 → BitVec 32
  | 0, x => x
  | n + 1, x => stN n (st x)

theorem st_xor (a b : BitVec 32) : st (a ^^^ b) = st a ^^^ st b := by
  unfold st
  rw [BitVec.shiftLeft_xor_distrib, BitVec.getLsbD_xor]
  cases a.getLsbD 31 <;> cases b.getLsbD 31 <;> simp [xor_swap, BitVec.xor_assoc]
  · ac_rfl
  · rw [show 79764919#32 ^^^ (b <<< 1 ^^^ 79764919#32) = b <<< 1 ^^^ (79764919#32 ^^^ 79764919#32) by ac_rfl]
    simp

theorem stN_xor : ∀ (n : Nat) (a b : BitVec 32), stN n (a ^^^ b) = stN n a ^^^ stN n b
  | 0, _, _ => rfl
  | n + 1, a, b => by simp only [stN, st_xor, stN_xor n]

theorem stN_add : ∀ (m n : Nat) (x : BitVec 32), stN (m + n) x = stN n (stN m x)
  | 0, n, x => by simp [stN]
  | m + 1, n, x => by rw [Nat.succ_add]; simp only [stN]; exact stN_add m n _

theorem st_low {x : BitVec 32} (h : x.getLsbD 31 = false) : st x = x <<< 1 := by
  simp only [st, h, Bool.false_eq_true, if_false, BitVec.xor_zero]

theorem hi_all : ∀ i : Fin 16, halfB (BitVec.ofNat 32 i.val <<< 28) = stN 4 (BitVec.ofNat 32 i.val <<< 28) := by decide +kernel

theorem half_st (x : BitVec 32) : halfB x = stN 4 x := by
  have hx : x = (x &&& 0x0fffffff#32) ^^^ ((x >>> 28) <<< 28) := by
    apply BitVec.eq_of_getLsbD_eq
    intro i hi
    simp only [BitVec.getLsbD_xor, BitVec.getLsbD_and, BitVec.getLsbD_shiftLeft, BitVec.getLsbD_ushiftRight]
    have hm : ∀ i : Fin 32, (0x0fffffff#32).getLsbD i.val = decide (i.val < 28) := by decide
    have := hm ⟨i, hi⟩
    simp only at this
    rw [this]
    by_cases h : i < 28
    · simp [h, hi]
    · simp [h, hi, show 28 + (i - 28) = i by omega]
  have hlo : halfB (x &&& 0x0fffffff#32) = stN 4 (x &&& 0x0fffffff#32) := by
    have hb : ∀ j, 28 ≤ j → (x &&& 0x0fffffff#32).getLsbD j = false := by
      intro j hj
      have hm : ∀ i : Fin 64, 28 ≤ i.val → (0x0fffffff#32).getLsbD i.val = false := by decide
      rw [BitVec.getLsbD_and]
      rcases Nat.lt_or_ge j 64 with h | h
      · have := hm ⟨j, h⟩ hj
        simp only at this
        rw [this, Bool.and_false]
      · rw [BitVec.getLsbD_of_ge _ _ (by omega), Bool.false_and]
    generalize x &&& 0x0fffffff#32 = y at hb
    have h0 : (y >>> 28).toNat = 0 := by
      have : y >>> 28 = 0#32 := by
        apply BitVec.eq_of_getLsbD_eq
        intro i hi
        simp only [BitVec.getLsbD_ushiftRight, hb (28 + i) (by omega), BitVec.getLsbD_zero]
      rw [this]; rfl
    have s1 : st y = y <<< 1 := st_low (hb 31 (by omega))
    have s2 : st (y <<< 1) = y <<< 1 <<< 1 := st_low (by simpa [BitVec.getLsbD_shiftLeft] using hb 30 (by omega))
    have s3 : st (y <<< 1 <<< 1) = y <<< 1 <<< 1 <<< 1 := st_low (by simpa [BitVec.getLsbD_shiftLeft] using hb 29 (by omega))
    have s4 : st (y <<< 1 <<< 1 <<< 1) = y <<< 1 <<< 1 <<< 1 <<< 1 := st_low (by simpa [BitVec.getLsbD_shiftLeft] using hb 28 (by omega))
    simp only [stN, s1, s2, s3, s4]
    unfold halfB
    rw [h0]
    have : tabB 0 = 0#32 := rfl
    rw [this, BitVec.xor_zero, ← BitVec.shiftLeft_add, ← BitVec.shiftLeft_add, ← BitVec.shiftLeft_add]
  have hhi : halfB ((x >>> 28) <<< 28) = stN 4 ((x >>> 28) <<< 28) := by
    have := hi_all ⟨_, top_lt x⟩
    simp only at this
    rw [BitVec.ofNat_toNat, BitVec.setWidth_eq] at this
    exact this
  rw [hx, half_xor, stN_xor, hlo, hhi]

theorem in_st (x : BitVec 32) (c : UInt8) : inB x c = stN 8 (x ^^^ (c.toBitVec.setWidth 32) <<< 24) := by
  unfold inB
  rw [half_st, half_st, ← stN_add]

theorem st_inj0 {x : BitVec 32} (h : st x = 0#32) : x = 0#32 := by
  have hb : x.getLsbD 31 = false := by
    have := congrArg (fun y => BitVec.getLsbD y 0) h
    simp only [st, BitVec.getLsbD_xor, BitVec.getLsbD_shiftLeft, BitVec.getLsbD_zero] at this
    cases hx : x.getLsbD 31 with
    | false => rfl
    | true => simp [hx] at this
  rw [st_low hb] at h
  apply BitVec.eq_of_getLsbD_eq
  intro i hi
  rw [BitVec.getLsbD_zero]
  by_cases h31 : i = 31
  · rw [h31, hb]
  · have := congrArg (fun y => BitVec.getLsbD y (i + 1)) h
    simp only [BitVec.getLsbD_shiftLeft, BitVec.getLsbD_zero] at this
    simpa [show i + 1 < 32 by omega] using this

theorem stN_inj0 : ∀ (n : Nat) {x : BitVec 32}, stN n x = 0#32 → x = 0#32
  | 0, _, h => h
  | n + 1, x, h => st_inj0 (stN_inj0 n h)
end Go.Am.T
