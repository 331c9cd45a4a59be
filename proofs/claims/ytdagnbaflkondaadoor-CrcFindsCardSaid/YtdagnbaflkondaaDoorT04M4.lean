/-
  Which turned bits a sum finds: pure laws. (No program.)
-/
import Derived.Test.YtdagnbaflkondaaDoorT04M3
set_option linter.unusedVariables false
set_option linter.unusedSimpArgs false
namespace Go.Am.T

theorem stN_low : ∀ (n : Nat) (x : BitVec 32), (∀ j, 32 - n ≤ j → x.getLsbD j = false) → n ≤ 32 → stN n x = x <<< n
  | 0, x, _, _ => by simp [stN]
  | n + 1, x, h, hn => by
    simp only [stN]
    rw [st_low (h 31 (by omega)), stN_low n (x <<< 1) (fun j hj => by
      simp only [BitVec.getLsbD_shiftLeft]
      by_cases h0 : j < 1
      · simp [h0]
      · rw [h (j - 1) (by omega)]; simp) (by omega), ← BitVec.shiftLeft_add, Nat.add_comm 1 n]

theorem stN_zero (n : Nat) : stN n 0#32 = 0#32 := by
  have h := stN_xor n 0#32 0#32
  simp only [BitVec.xor_self] at h
  exact h

theorem in_zero (d : BitVec 32) : inB d 0 = stN 8 d := by
  rw [in_st]; congr 1; simp

theorem fold_init : ∀ (l : List UInt8) (y d : BitVec 32), l.foldl inB (y ^^^ d) = l.foldl inB y ^^^ stN (8 * l.length) d
  | [], y, d => by simp [stN]
  | c :: l, y, d => by
    simp only [List.foldl_cons, List.length_cons]
    have h : inB (y ^^^ d) c = inB y c ^^^ stN 8 d := by
      have := in_xor y d c 0
      rw [UInt8.xor_zero, in_zero] at this
      exact this
    rw [h, fold_init l, show 8 * (l.length + 1) = 8 + 8 * l.length by omega, stN_add]

theorem fold_flip : ∀ (l : List UInt8) (q : Nat) (hq : q < l.length) (e : UInt8) (x : BitVec 32),
    (l.set q (l[q] ^^^ e)).foldl inB x = l.foldl inB x ^^^ stN (8 * (l.length - q)) (g32 e <<< 24)
  | c :: l, 0, _, e, x => by
    simp only [List.set_cons_zero, List.foldl_cons, List.getElem_cons_zero, List.length_cons]
    have h : inB x (c ^^^ e) = inB x c ^^^ stN 8 (g32 e <<< 24) := by
      have := in_xor x 0#32 c e
      rw [BitVec.xor_zero] at this
      rw [this, in_st 0#32 e, BitVec.zero_xor]; rfl
    rw [h, fold_init, show 8 * (l.length + 1 - 0) = 8 + 8 * l.length by omega, stN_add]
  | c :: l, q + 1, hq, e, x => by
    simp only [List.set_cons_succ, List.foldl_cons, List.getElem_cons_succ, List.length_cons]
    rw [fold_flip l q (by simpa using hq), show l.length + 1 - (q + 1) = l.length - q by omega]

theorem numB_xor (a b c d : UInt8) : numB a b c d = g32 a <<< 24 ^^^ g32 b <<< 16 ^^^ g32 c <<< 8 ^^^ g32 d := by
  apply BitVec.eq_of_getLsbD_eq
  intro i hi
  simp only [numB, g32, BitVec.getLsbD_or, BitVec.getLsbD_xor, BitVec.getLsbD_shiftLeft, BitVec.getLsbD_setWidth]
  have ho : ∀ (x : UInt8) (j : Nat), 8 ≤ j → x.toBitVec.getLsbD j = false := fun x j hj => BitVec.getLsbD_of_ge _ _ hj
  rcases Nat.lt_or_ge i 8 with h | h
  · simp [h, show i < 16 by omega, show i < 24 by omega, hi]
  · rcases Nat.lt_or_ge i 16 with h2 | h2
    · simp [h2, show ¬ i < 8 by omega, show i < 24 by omega, hi, ho d i h]
    · rcases Nat.lt_or_ge i 24 with h3 | h3
      · simp [h3, show ¬ i < 16 by omega, show ¬ i < 8 by omega, hi, ho d i h, ho c (i - 8) (by omega)]
      · simp [show ¬ i < 24 by omega, show ¬ i < 16 by omega, show ¬ i < 8 by omega, hi, ho d i h, ho c (i - 8) (by omega), ho b (i - 16) (by omega)]

theorem g32_high (x : UInt8) (k j : Nat) (hj : 8 + k ≤ j) : (g32 x <<< k).getLsbD j = false := by
  simp only [g32, BitVec.getLsbD_shiftLeft, BitVec.getLsbD_setWidth]
  rw [BitVec.getLsbD_of_ge x.toBitVec (j - k) (by omega)]
  simp

theorem four_fold (x : BitVec 32) (a b c d : UInt8) : [a, b, c, d].foldl inB x = stN 32 (x ^^^ numB a b c d) := by
  have h1 : stN 8 (g32 b <<< 16) = g32 b <<< 24 := by rw [stN_low 8 _ (fun j hj => g32_high b 16 j (by omega)) (by omega), ← BitVec.shiftLeft_add]
  have h2 : stN 16 (g32 c <<< 8) = g32 c <<< 24 := by rw [stN_low 16 _ (fun j hj => g32_high c 8 j (by omega)) (by omega), ← BitVec.shiftLeft_add]
  have h3 : stN 24 (g32 d) = g32 d <<< 24 := stN_low 24 _ (fun j hj => by have := g32_high d 0 j (by omega); simpa using this) (by omega)
  rw [List.foldl_cons, List.foldl_cons, List.foldl_cons, List.foldl_cons, List.foldl_nil, in_st, in_st, in_st, in_st]
  rw [show (UInt8.toBitVec a).setWidth 32 = g32 a from rfl, show (UInt8.toBitVec b).setWidth 32 = g32 b from rfl, show (UInt8.toBitVec c).setWidth 32 = g32 c from rfl, show (UInt8.toBitVec d).setWidth 32 = g32 d from rfl]
  rw [← h1, ← stN_xor, ← stN_add]
  rw [show stN 8 (stN (8 + 8) ((x ^^^ g32 a <<< 24) ^^^ g32 b <<< 16) ^^^ g32 c <<< 24) = stN 8 (stN 16 (((x ^^^ g32 a <<< 24) ^^^ g32 b <<< 16) ^^^ g32 c <<< 8)) by rw [stN_xor 16 _ (g32 c <<< 8), h2]]
  rw [← stN_add, ← h3, ← stN_xor, ← stN_add, numB_xor]
  simp only [BitVec.xor_assoc]

theorem not_eq_iff (r n : BitVec 32) : ~~~r = n ↔ r ^^^ n = BitVec.allOnes 32 := by
  constructor
  · rintro rfl
    rw [← BitVec.xor_allOnes, ← BitVec.xor_assoc, BitVec.xor_self, BitVec.zero_xor]
  · intro h
    have : n = r ^^^ (r ^^^ n) := by rw [← BitVec.xor_assoc, BitVec.xor_self, BitVec.zero_xor]
    rw [this, h, BitVec.xor_allOnes]

theorem stN_inj (n : Nat) {x y : BitVec 32} (h : stN n x = stN n y) : x = y := by
  have h0 : stN n (x ^^^ y) = 0#32 := by rw [stN_xor, h, BitVec.xor_self]
  have := stN_inj0 n h0
  have e : x = (x ^^^ y) ^^^ y := by rw [BitVec.xor_assoc, BitVec.xor_self, BitVec.xor_zero]
  rw [e, this, BitVec.zero_xor]

/-- A row is taken just where its register ends so. -/
theorem taken_iff (m : List UInt8) (a b c d : UInt8) : moreB 0 m = numB a b c d ↔ (m ++ [a, b, c, d]).foldl inB (BitVec.allOnes 32) = stN 32 (BitVec.allOnes 32) := by
  rw [List.foldl_append, four_fold]
  unfold moreB
  rw [not_eq_iff, show (~~~(0 : BitVec 32)) = BitVec.allOnes 32 from rfl]
  exact ⟨fun h => by rw [h], fun h => stN_inj 32 h⟩

def top : BitVec 32 := 1#32 <<< 31
theorem one_up : ∀ i : Fin 32, stN i.val (1#32 <<< (31 - i.val)) = top := by decide +kernel
/-- The first n bits of a word, turned round. -/
def rev (t : BitVec 32) : Nat → BitVec 32
  | 0 => 0#32
  | n + 1 => rev t n ^^^ (if t.getLsbD n then 1#32 <<< (31 - n) else 0#32)

theorem rev_bit (t : BitVec 32) (i : Nat) (hi : i < 32) : ∀ n, n ≤ 32 → (rev t n).getLsbD (31 - i) = (decide (i < n) && t.getLsbD i)
  | 0, _ => by simp [rev]
  | n + 1, hn => by
    have hone : ∀ j k : Fin 32, (1#32 <<< (31 - j.val)).getLsbD (31 - k.val) = decide (k.val = j.val) := by decide +kernel
    have h1 := hone ⟨n, by omega⟩ ⟨i, hi⟩
    simp only at h1
    simp only [rev, BitVec.getLsbD_xor, rev_bit t i hi n (by omega)]
    by_cases he : i = n
    · subst he
      cases ht : t.getLsbD i <;> simp [ht, h1]
    · cases ht : t.getLsbD n <;> simp [h1, he, show (i < n + 1) = (i < n) by apply propext; omega]

theorem rev_zero {t : BitVec 32} (h : rev t 32 = 0#32) : t = 0#32 := by
  apply BitVec.eq_of_getLsbD_eq
  intro i hi
  have := rev_bit t i hi 32 (by omega)
  rw [h] at this
  simp [hi] at this
  simp [this, hi]
end Go.Am.T
