/-
  Sums of rows, xored: pure laws. (No program.)
-/
import Derived.Test.YtdagnbaflkondaaDoorT04M
set_option linter.unusedVariables false
set_option linter.unusedSimpArgs false
namespace Go.Am.T

theorem xor_swap (a b c d : BitVec 32) : (a ^^^ b) ^^^ (c ^^^ d) = (a ^^^ c) ^^^ (b ^^^ d) := by ac_rfl

theorem tab_xor_all : ∀ i : Fin 16, ∀ j : Fin 16, tabB (i.val ^^^ j.val) = tabB i.val ^^^ tabB j.val := by decide +kernel

theorem top_lt (x : BitVec 32) : (x >>> 28).toNat < 16 := by
  rw [BitVec.toNat_ushiftRight, Nat.shiftRight_eq_div_pow]; have := x.isLt; omega

theorem half_xor (a b : BitVec 32) : halfB (a ^^^ b) = halfB a ^^^ halfB b := by
  unfold halfB
  have h := tab_xor_all ⟨_, top_lt a⟩ ⟨_, top_lt b⟩
  simp only at h
  rw [BitVec.shiftLeft_xor_distrib, BitVec.ushiftRight_xor_distrib, BitVec.toNat_xor, h]
  exact xor_swap _ _ _ _

theorem in_xor (x y : BitVec 32) (a b : UInt8) : inB (x ^^^ y) (a ^^^ b) = inB x a ^^^ inB y b := by
  unfold inB
  rw [UInt8.toBitVec_xor, BitVec.setWidth_xor, BitVec.shiftLeft_xor_distrib, xor_swap, half_xor, half_xor]

def x3 : List UInt8 → List UInt8 → List UInt8 → List UInt8
  | a :: ar, b :: br, c :: cr => (a ^^^ b ^^^ c) :: x3 ar br cr
  | _, _, _ => []

theorem x3_length : ∀ a b c : List UInt8, (x3 a b c).length = min a.length (min b.length c.length)
  | [], _, _ => by simp [x3]
  | _ :: _, [], _ => by simp [x3]
  | _ :: _, _ :: _, [] => by simp [x3]
  | a :: ar, b :: br, c :: cr => by simp [x3, x3_length ar br cr]

theorem x3_get : ∀ (a b c : List UInt8) (i : Nat) (ha : i < a.length) (hb : i < b.length) (hc : i < c.length), (x3 a b c)[i]? = some (a[i] ^^^ b[i] ^^^ c[i])
  | a :: ar, b :: br, c :: cr, 0, _, _, _ => rfl
  | a :: ar, b :: br, c :: cr, i + 1, ha, hb, hc => by
    simp only [x3, List.getElem?_cons_succ, List.getElem_cons_succ]
    exact x3_get ar br cr i _ _ _

theorem fold_x3 : ∀ (a b c : List UInt8) (x y z : BitVec 32), a.length = b.length → a.length = c.length →
    (x3 a b c).foldl inB (x ^^^ y ^^^ z) = a.foldl inB x ^^^ b.foldl inB y ^^^ c.foldl inB z
  | [], [], [], _, _, _, _, _ => rfl
  | a :: ar, b :: br, c :: cr, x, y, z, h1, h2 => by
    simp only [x3, List.foldl_cons]
    rw [in_xor, in_xor]
    exact fold_x3 ar br cr _ _ _ (by simpa using h1) (by simpa using h2)
  | [], _ :: _, _, _, _, _, h, _ => by simp at h
  | _ :: _, [], _, _, _, _, h, _ => by simp at h
  | [], [], _ :: _, _, _, _, _, h => by simp at h
  | _ :: _, _ :: _, [], _, _, _, _, h => by simp at h

theorem not3 (x y z : BitVec 32) : ~~~(x ^^^ y ^^^ z) = ~~~x ^^^ ~~~y ^^^ ~~~z := by
  apply BitVec.eq_of_getLsbD_eq
  intro i hi
  simp [hi]

theorem more_x3 (s t u : BitVec 32) (a b c : List UInt8) (h1 : a.length = b.length) (h2 : a.length = c.length) : moreB (s ^^^ t ^^^ u) (x3 a b c) = moreB s a ^^^ moreB t b ^^^ moreB u c := by
  unfold moreB
  rw [not3, fold_x3 _ _ _ _ _ _ h1 h2, not3]

theorem x3_self : ∀ a : List UInt8, x3 a a a = a
  | [] => rfl
  | a :: ar => by
    simp only [x3, x3_self ar, List.cons.injEq, and_true]
    rw [UInt8.xor_self, UInt8.zero_xor]
end Go.Am.T
