/-
  AM: words without a sign, as bit vectors; rows of bytes, more of them. (Lemmas alone; no program.)
-/
import Derived.Test.YtaolbokpeafejaaGreatDoorAmSlices
set_option linter.unusedVariables false
set_option linter.unusedSimpArgs false
namespace Go.Am
open Go Go.RowKit

def w32 (x : BitVec 32) : V := .int .u32 x.toNat
def w16 (x : BitVec 16) : V := .int .u16 x.toNat
def w64 (x : BitVec 64) : V := .int .u64 x.toNat

theorem wrap_nat (k : IntKind) (hs : k.signed = false) (n : Nat) : k.wrap (n : Int) = ((n % 2 ^ k.bits : Nat) : Int) := by
  simp [IntKind.wrap, hs]

theorem ofInt_nat {n : Nat} (x : BitVec n) : BitVec.ofInt n (x.toNat : Int) = x := by
  apply BitVec.eq_of_toNat_eq
  simp [BitVec.toNat_ofInt]

theorem bn_and32 (a b : BitVec 32) : bnP .prim .and (w32 a) (w32 b) = some (w32 (a &&& b)) := by
  simp only [w32, bn_and, bitI]
  have ea : BitVec.ofInt IntKind.u32.bits (a.toNat : Int) = a := ofInt_nat a
  have eb : BitVec.ofInt IntKind.u32.bits (b.toNat : Int) = b := ofInt_nat b
  rw [ea, eb, wrap_nat _ rfl, Nat.mod_eq_of_lt (BitVec.isLt _)]
  rfl
theorem bn_or32 (a b : BitVec 32) : bnP .prim .or (w32 a) (w32 b) = some (w32 (a ||| b)) := by
  simp only [w32, bn_or, bitI]
  have ea : BitVec.ofInt IntKind.u32.bits (a.toNat : Int) = a := ofInt_nat a
  have eb : BitVec.ofInt IntKind.u32.bits (b.toNat : Int) = b := ofInt_nat b
  rw [ea, eb, wrap_nat _ rfl, Nat.mod_eq_of_lt (BitVec.isLt _)]
  rfl
theorem bn_xor32 (a b : BitVec 32) : bnP .prim .xor (w32 a) (w32 b) = some (w32 (a ^^^ b)) := by
  simp only [w32, bn_xor, bitI]
  have ea : BitVec.ofInt IntKind.u32.bits (a.toNat : Int) = a := ofInt_nat a
  have eb : BitVec.ofInt IntKind.u32.bits (b.toNat : Int) = b := ofInt_nat b
  rw [ea, eb, wrap_nat _ rfl, Nat.mod_eq_of_lt (BitVec.isLt _)]
  rfl
theorem un_xor32 (a : BitVec 32) : unP .xor (w32 a) = some (w32 (~~~a)) := by
  have h := bn_xor32 (BitVec.allOnes 32) a
  rw [BitVec.allOnes_xor] at h
  exact h
theorem bn_shl32 (a : BitVec 32) (k : IntKind) (n : Nat) : bnP .prim .shl (w32 a) (.int k n) = some (w32 (a <<< n)) := by
  simp only [w32, bn_shl]
  rw [if_neg (by omega)]
  unfold shlI
  have e : ((a.toNat : Int) * 2 ^ min (n : Int).toNat IntKind.u32.bits) = ((a.toNat * 2 ^ min n 32 : Nat) : Int) := by
    push_cast; rfl
  rw [e, wrap_nat _ rfl]
  have : (a.toNat * 2 ^ min n 32) % 2 ^ 32 = (a <<< n).toNat := by
    rw [BitVec.toNat_shiftLeft, Nat.shiftLeft_eq]
    rcases Nat.lt_or_ge n 32 with h | h
    · rw [Nat.min_eq_left (by omega)]
    · rw [Nat.min_eq_right h, Nat.mul_mod_left]
      obtain ⟨d, rfl⟩ : ∃ d, n = d + 32 := ⟨n - 32, by omega⟩
      rw [Nat.pow_add, ← Nat.mul_assoc, Nat.mul_mod_left]
  rw [show IntKind.u32.bits = 32 from rfl, this]
theorem bn_shr32 (a : BitVec 32) (k : IntKind) (n : Nat) : bnP .prim .shr (w32 a) (.int k n) = some (w32 (a >>> n)) := by
  simp only [w32, bn_shr]
  rw [if_neg (by omega)]
  unfold shrI
  have e : ((a.toNat : Int).fdiv (2 ^ min (n : Int).toNat IntKind.u32.bits)) = ((a.toNat / 2 ^ min n 32 : Nat) : Int) := by
    rw [Int.fdiv_eq_ediv_of_nonneg _ (Int.le_of_lt (Int.pow_pos (by decide)))]
    have : IntKind.u32.bits = 32 := rfl
    rw [Int.toNat_natCast, this]
    push_cast; rfl
  rw [e]
  have : (a.toNat / 2 ^ min n 32) = (a >>> n).toNat := by
    rw [BitVec.toNat_ushiftRight, Nat.shiftRight_eq_div_pow]
    rcases Nat.lt_or_ge n 32 with h | h
    · rw [Nat.min_eq_left (by omega)]
    · rw [Nat.min_eq_right h, Nat.div_eq_of_lt a.isLt, Nat.div_eq_of_lt (Nat.lt_of_lt_of_le a.isLt (Nat.pow_le_pow_right (by decide) h))]
  rw [this]
theorem bn_xor8 (a b : UInt8) : bnP .prim .xor (bv a) (bv b) = some (bv (a ^^^ b)) := by
  simp only [bv, bn_xor, bitI]
  have ea : BitVec.ofInt IntKind.u8.bits (a.toNat : Int) = a.toBitVec := ofInt_nat a.toBitVec
  have eb : BitVec.ofInt IntKind.u8.bits (b.toNat : Int) = b.toBitVec := ofInt_nat b.toBitVec
  rw [ea, eb, wrap_nat _ rfl, Nat.mod_eq_of_lt (BitVec.isLt _)]
  rfl
theorem bn_eql32 (a b : BitVec 32) : bnP .prim .eql (w32 a) (w32 b) = some (.bool (decide (a = b))) := by
  simp only [w32, bn_eql]
  congr 2
  by_cases h : a = b
  · simp [h]
  · simp only [h, decide_false, decide_eq_false_iff_not]
    intro e; exact h (BitVec.eq_of_toNat_eq (by omega))
theorem bn_neq32 (a b : BitVec 32) : bnP .prim .neq (w32 a) (w32 b) = some (.bool (!decide (a = b))) := by
  have h := bn_eql32 a b
  simp only [w32, bn_eql, bn_neq, Option.some.injEq, V.bool.injEq] at h ⊢
  rw [h]
theorem cv_u8_u32 (σ : H) (c : UInt8) : cvP σ (.int .u32) (bv c) = some (w32 (c.toBitVec.setWidth 32)) := by
  simp only [bv, cv_int, w32]
  rw [wrap_nat _ rfl]
  rw [Nat.mod_eq_of_lt (Nat.lt_trans c.toNat_lt (by decide))]
  congr 3
theorem cv_u32_u8 (σ : H) (a : BitVec 32) : cvP σ (.int .u8) (w32 a) = some (bv (UInt8.ofBitVec (a.setWidth 8))) := by
  simp only [bv, cv_int, w32]
  rw [wrap_nat _ rfl]
  rfl

/-- Of any word of the kind: it is one of these. -/
theorem w32_of {n : Int} (h0 : 0 ≤ n) (h1 : n < 4294967296) : V.int .u32 n = w32 (BitVec.ofNat 32 n.toNat) := by
  simp only [w32]
  congr 1
  rw [BitVec.toNat_ofNat, Nat.mod_eq_of_lt (by omega)]
  omega

theorem Bytes.str {σ : H} {v : V} {l : List UInt8} (h : Bytes σ v l) : cvP σ .bstr v = some (.str l) := by
  have hb : ∀ l : List UInt8, bytesOf (l.map bv) = some l := by
    intro l
    induction l with
    | nil => rfl
    | cons b l ih => simp only [List.map_cons, bv, bytesOf, bv] at ih ⊢; simp [ih]
  rw [cv_bstr]
  rcases h with ⟨rfl, rfl⟩ | ⟨a, cb, ex, rfl, hcb, hc⟩
  · rfl
  · simp [bytesV, slCells, hc, hb]

theorem bnd_nat (ik : IntKind) (n d u : Nat) (h : n ≤ u) : bnd (some (.int ik (n : Int))) d u = some n := by simp [bnd, h]

theorem cells_part {σ : H} {a : PA} {n : Nat} {vs : List V} (h : σ.cells a n = some vs) (i m : Nat) (hm : i + m ≤ n) : σ.cells { a with off := a.off + i } m = some ((vs.drop i).take m) := by
  unfold H.cells at h ⊢
  split at h
  · split at h
    · rename_i r hr hh
      have e : vs = (r.cells.drop a.off).take n := (Option.some.inj h).symm
      simp only [hr]
      rw [if_pos ⟨hh.1, by omega⟩, e]
      congr 1
      rw [List.drop_take, List.drop_drop, List.take_take]
      congr 1
      omega
    · cases h
  · cases h

/-- Bytes of a slice's part. -/
theorem Bytes.part {σ : H} {v : V} {l : List UInt8} (h : Bytes σ v l) (lo hi : Option V) (i j : Nat) (hij : i ≤ j) (hj : j ≤ l.length)
    (h1 : ∀ len ub, len = l.length → len ≤ ub → bnd hi len ub = some j) (h2 : bnd lo 0 j = some i) : ∃ u, slP (.sl 1) v lo hi none = some u ∧ Bytes σ u ((l.drop i).take (j - i)) := by
  rcases h with ⟨rfl, rfl⟩ | ⟨a, cb, ex, rfl, hcb, hc⟩
  · have : j = 0 := by simpa using hj
    subst this
    have : i = 0 := by omega
    subst this
    refine ⟨.nils, ?_, .inl ⟨rfl, rfl⟩⟩
    simp only [slP, slRange, h1 0 0 rfl (Nat.le_refl _), h2]
  · refine ⟨.slice { a with off := a.off + i } 1 (j - i) (cb - i) ex, ?_, .inr ⟨{ a with off := a.off + i }, cb - i, ex, ?_, ?_, ?_⟩⟩
    · simp [slP, slRange, h1 _ cb rfl hcb, h2]
    · congr 1; simp; omega
    · simp; omega
    · rw [cells_part hc i _ (by simp; omega)]
      simp

theorem Bytes.front {σ : H} {v : V} {l : List UInt8} (h : Bytes σ v l) {ik : IntKind} {n : Nat} (hn : n ≤ l.length) : ∃ u, slP (.sl 1) v none (some (.int ik n)) none = some u ∧ Bytes σ u (l.take n) := by
  have := h.part none (some (.int ik n)) 0 n (Nat.zero_le _) hn (fun len ub h1 h2 => bnd_nat _ _ _ _ (by omega)) rfl
  simpa using this
theorem Bytes.back {σ : H} {v : V} {l : List UInt8} (h : Bytes σ v l) {ik : IntKind} {n : Nat} (hn : n ≤ l.length) : ∃ u, slP (.sl 1) v (some (.int ik n)) none none = some u ∧ Bytes σ u (l.drop n) := by
  have := h.part (some (.int ik n)) none n l.length hn (Nat.le_refl _) (fun len ub h1 h2 => by simp [bnd, h1]) (bnd_nat _ _ _ _ hn)
  rwa [List.take_of_length_le (by simp)] at this
theorem Bytes.mid {σ : H} {v : V} {l : List UInt8} (h : Bytes σ v l) {ik jk : IntKind} {i j : Nat} (hij : i ≤ j) (hj : j ≤ l.length) : ∃ u, slP (.sl 1) v (some (.int ik i)) (some (.int jk j)) none = some u ∧ Bytes σ u ((l.drop i).take (j - i)) :=
  h.part _ _ i j hij hj (fun len ub h1 h2 => bnd_nat _ _ _ _ (by omega)) (bnd_nat _ _ _ _ hij)

end Go.Am
