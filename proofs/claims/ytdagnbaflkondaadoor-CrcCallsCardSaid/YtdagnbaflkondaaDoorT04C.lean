/-
  The document's answer for sums: what it answers. (Contracts.)
-/
import Derived.Test.YtdagnbaflkondaaDoorT04W
import Derived.Test.YtdagnbaflkondaaDoorT04M3
import Derived.Test.YtdagnbaflkondaaDoorAmPut
set_option linter.unusedVariables false
set_option linter.unusedSimpArgs false
namespace Go.Am.T
open Go Go.Am Go.Proofs

theorem bn_mul32_pow (a : BitVec 32) (k : Nat) (hk : k ≤ 32) : bnP .prim .mul (w32 a) (.int .u32 ((2 ^ k : Nat) : Int)) = some (w32 (a <<< k)) := by
  have h := bn_shl32 a .u64 k
  simp only [w32, bn_shl, bn_mul] at h ⊢
  rw [if_neg (by omega)] at h
  rw [← h]
  unfold shlI
  have e : min (k : Int).toNat IntKind.u32.bits = k := by
    have : IntKind.u32.bits = 32 := rfl
    rw [this, Int.toNat_natCast]; omega
  rw [e]
  push_cast
  rfl

theorem geq_top (x : BitVec 32) : bnP .prim .geq (w32 x) (.int .u32 2147483648) = some (.bool (x.getLsbD 31)) := by
  simp only [w32, bn_geq]
  congr 2
  have h : x.getLsbD 31 = decide (2147483648 ≤ x.toNat) := by
    rw [BitVec.getLsbD, Nat.testBit_eq_decide_div_mod_eq]
    have := x.isLt
    congr 1
    apply propext
    constructor <;> intro h <;> omega
  rw [h]
  congr 1
  apply propext
  constructor <;> intro h <;> omega

theorem in_loop (p : Par) (m : Nat) (σ : H) (KK : Kx) (r : BitVec 32) (hK : ∀ s1 s2 s3 s4 s5 s6 s7 s8 s9 s10 s11 s12 s13 s14 s15 s16 s17 s18 s19 s20 s21 s22 s23 : V, KK (.exit 0) [w32 r, s1, s2, s3, s4, s5, s6, s7, s8, s9, s10, s11, s12, s13, s14, s15, s16, s17, s18, s19, s20, s21, s22, s23] σ) :
    ∀ (d n i : Nat) (x : BitVec 32) (s1 s2 s3 s4 s6 s7 s8 s9 s10 s11 s12 s13 s14 s15 s16 s17 s18 s19 s20 s21 s22 s23 : V), i + d = 8 → d < n → stN d x = r → loopN (exec (p.E m) (sA (sA (sB (sA (sB (sB (cd Tryd.f22)))))))) n [w32 x, s1, s2, s3, s4, .int .i64 i, s6, s7, s8, s9, s10, s11, s12, s13, s14, s15, s16, s17, s18, s19, s20, s21, s22, s23] σ KK := by
  intro d
  induction d with
  | zero =>
    intro n i x s1 s2 s3 s4 s6 s7 s8 s9 s10 s11 s12 s13 s14 s15 s16 s17 s18 s19 s20 s21 s22 s23 hi hn hr
    obtain ⟨n, rfl⟩ : ∃ k, n = k + 1 := ⟨n - 1, by omega⟩
    rw [loopN_succ, f22_pBBABAA, bn_lss, need_some, cnd_dec, if_neg (by omega)]
    simp only [stN] at hr
    subst hr
    exact hK _ _ _ _ _ _ _ _ _ _ _ _ _ _ _ _ _ _ _ _ _ _ _
  | succ d ih =>
    intro n i x s1 s2 s3 s4 s6 s7 s8 s9 s10 s11 s12 s13 s14 s15 s16 s17 s18 s19 s20 s21 s22 s23 hi hn hr
    obtain ⟨n, rfl⟩ : ∃ k, n = k + 1 := ⟨n - 1, by omega⟩
    have e2 : bnP .prim .mul (w32 x) (.int .u32 2) = some (w32 (x <<< 1)) := bn_mul32_pow x 1 (by omega)
    rw [loopN_succ, f22_pBBABAA, bn_lss, need_some, cnd_dec, if_pos (by omega), geq_top, need_some, e2, need_some, cnd_bool]
    simp only [stN] at hr
    cases hb : x.getLsbD 31 with
    | true =>
      have es : st x = x <<< 1 ^^^ 79764919#32 := by simp only [st, hb, if_true]
      rw [if_pos rfl, show (V.int .u32 79764919) = w32 79764919#32 from rfl, bn_xor32, need_some, bn_add, need_some, wrap_i64 (by omega) (by omega), ← es]
      exact ih n (i + 1) (st x) _ _ _ _ _ _ _ _ _ _ _ _ _ _ _ _ _ _ _ _ _ _ (by omega) (by omega) hr
    | false =>
      have es : st x = x <<< 1 := st_low hb
      rw [if_neg (by simp), bn_add, need_some, wrap_i64 (by omega) (by omega), ← es]
      exact ih n (i + 1) (st x) _ _ _ _ _ _ _ _ _ _ _ _ _ _ _ _ _ _ _ _ _ _ (by omega) (by omega) hr

theorem refIn_ok (p : Par) (x : BitVec 32) (c : UInt8) (σ : H) (K : V → H → Prop) (hK : K (w32 (inB x c)) σ) : best p.C 22 [w32 x, bv c] σ K := by
  refine best_of_body (fn := Tryd.f22) Tryd.func22 9 ?_
  refine (f22_eq p 9 _ _ σ _).mpr ?_
  have e : bnP .prim .mul (w32 (c.toBitVec.setWidth 32)) (.int .u32 16777216) = some (w32 ((c.toBitVec.setWidth 32) <<< 24)) := bn_mul32_pow _ 24 (by omega)
  rw [cv_u8_u32, need_some, e, need_some, bn_xor32, need_some]
  refine in_loop p 9 σ _ (inB x c) ?_ 8 _ 0 _ _ _ _ _ _ _ _ _ _ _ _ _ _ _ _ _ _ _ _ _ _ _ (by omega) (by omega) (in_st x c).symm
  intro s1 s2 s3 s4 s5 s6 s7 s8 s9 s10 s11 s12 s13 s14 s15 s16 s17 s18 s19 s20 s21 s22 s23
  show exec (p.E _) _ _ σ _
  rw [f22_pBBB, f22_ret]
  exact Ret.pure (Grew.refl _) trivial hK

theorem refMore_loop (p : Par) (m : Nat) (v : V) (l : List UInt8) (hl : l.length ≤ 9223372036854775806) (σ : H) (hb : Bytes σ v l) (KK : Kx) (r : BitVec 32) (hK : ∀ s0 s2 s3 s4 s6 s7 s8 s9 s10 s11 s12 s13 s14 s15 s16 s17 s18 s19 s20 s21 s22 : V, KK (.exit 0) [s0, v, s2, s3, s4, w32 r, s6, s7, s8, s9, s10, s11, s12, s13, s14, s15, s16, s17, s18, s19, s20, s21, s22] σ) :
    ∀ (d n i : Nat) (x : BitVec 32) (s0 s2 s3 s4 s7 s8 s9 s10 s11 s12 s13 s14 s15 s16 s17 s18 s19 s20 s21 s22 : V), i + d = l.length → d < n → (l.drop i).foldl inB x = r → loopN (exec (p.E m) (sA (sA (sB (sA (sB (sB (cd Tryd.f15)))))))) n [s0, v, s2, s3, s4, w32 x, .int .i64 i, s7, s8, s9, s10, s11, s12, s13, s14, s15, s16, s17, s18, s19, s20, s21, s22] σ KK := by
  intro d
  induction d with
  | zero =>
    intro n i x s0 s2 s3 s4 s7 s8 s9 s10 s11 s12 s13 s14 s15 s16 s17 s18 s19 s20 s21 s22 hi hn hr
    obtain ⟨n, rfl⟩ : ∃ k, n = k + 1 := ⟨n - 1, by omega⟩
    rw [loopN_succ, f15_pBBABAA, hb.len, need_some, bn_lss, need_some, cnd_dec, if_neg (by omega)]
    rw [List.drop_of_length_le (by omega)] at hr
    simp only [List.foldl_nil] at hr
    subst hr
    exact hK _ _ _ _ _ _ _ _ _ _ _ _ _ _ _ _ _ _ _ _ _
  | succ d ih =>
    intro n i x s0 s2 s3 s4 s7 s8 s9 s10 s11 s12 s13 s14 s15 s16 s17 s18 s19 s20 s21 s22 hi hn hr
    obtain ⟨n, rfl⟩ : ∃ k, n = k + 1 := ⟨n - 1, by omega⟩
    have hil : i < l.length := by omega
    obtain ⟨a, ha, hc⟩ := hb.at (ik := .i64) hil
    rw [loopN_succ, f15_pBBABAA, hb.len, need_some, bn_lss, need_some, cnd_dec, if_pos (by omega), ha, need_some, ld_one, hc, need_some]
    refine refIn_ok p _ _ σ _ ?_
    rw [bn_add, need_some, wrap_i64 (by omega) (by omega)]
    refine ih n (i + 1) _ _ _ _ _ _ _ _ _ _ _ _ _ _ _ _ _ _ _ _ _ (by omega) (by omega) ?_
    rw [← hr, List.drop_eq_getElem_cons hil]
    rfl

theorem refMore_ok (p : Par) (s : BitVec 32) (v : V) (l : List UInt8) (hl : l.length ≤ 9223372036854775806) (σ : H) (hb : Bytes σ v l) (K : V → H → Prop)
    (hK : K (w32 (moreB s l)) σ) : best p.C 15 [w32 s, v] σ K := by
  refine best_of_body (fn := Tryd.f15) Tryd.func15 (l.length + 1) ?_
  refine (f15_eq p (l.length + 1) _ _ σ _).mpr ?_
  have hn : ∀ x : BitVec 32, x ^^^ 4294967295#32 = ~~~x := by
    intro x
    rw [show (4294967295#32) = BitVec.allOnes 32 from rfl, BitVec.xor_allOnes]
  rw [show (V.int .u32 4294967295) = w32 4294967295#32 from rfl, bn_xor32, need_some, hn]
  refine refMore_loop p _ v l hl σ hb _ (l.foldl inB (~~~s)) ?_ l.length _ 0 _ _ _ _ _ _ _ _ _ _ _ _ _ _ _ _ _ _ _ _ _ (by omega) (by omega) rfl
  intro s0 s2 s3 s4 s6 s7 s8 s9 s10 s11 s12 s13 s14 s15 s16 s17 s18 s19 s20 s21 s22
  show exec (p.E _) _ _ σ _
  rw [f15_pBBB, show (V.int .u32 4294967295) = w32 4294967295#32 from rfl, bn_xor32, need_some, hn, f15_ret]
  exact Ret.pure (Grew.refl _) trivial hK

theorem refSum_ok (p : Par) (v : V) (l : List UInt8) (hl : l.length ≤ 9223372036854775806) (σ : H) (hb : Bytes σ v l) (K : V → H → Prop)
    (hK : K (w32 (moreB 0 l)) σ) : best p.C 13 [v] σ K := by
  refine best_of_body (fn := Tryd.f13) Tryd.func13 0 ?_
  refine (f13_eq p 0 _ σ _).mpr ?_
  exact refMore_ok p 0 v l hl σ hb _ (Ret.pure (Grew.refl _) trivial hK)

theorem refMark_ok (p : Par) (v : V) (l : List UInt8) (hl : l.length + 4 ≤ 140737488355328) (σ : H) (hb : Bytes σ v l) (K : V → H → Prop)
    (hK : ∀ u σ', Grew σ σ' → OwnB σ' σ.size u (l ++ fourB (moreB 0 l)) → K u σ') : best p.C 16 [v] σ K := by
  refine best_of_body (fn := Tryd.f16) Tryd.func16 0 ?_
  refine (f16_eq p 0 _ σ _).mpr ?_
  refine refSum_ok p v l (by omega) σ hb _ ?_
  refine app_owns (n0 := σ.size) (Owns.nil _ _ _) (Nat.le_refl _) (apX_bytes hb) (by simp) (bv_one l) (by decide) (by simp; omega) ?_
  intro u1 σ1 hO1 hle1 _
  rw [show (V.int .u64 24) = .int .u64 ((24 : Nat) : Int) from rfl, show (V.int .u64 16) = .int .u64 ((16 : Nat) : Int) from rfl, show (V.int .u64 8) = .int .u64 ((8 : Nat) : Int) from rfl]
  simp only [bn_shr32, need_some, cv_u32_u8]
  have hg1 : Grew σ σ1 := (Grew.refl σ).step hle1
  refine lit_owns (n0 := σ.size) (cs := (fourB (moreB 0 l)).map bv) hg1.1 rfl rfl ?_
  intro f σ2 hg2 hO2
  have hf : Bytes σ2 f (fourB (moreB 0 l)) := Owns.bytes hO2
  refine app_owns (n0 := σ.size) (hO1.grew hg2) (Nat.le_trans hg1.1 hg2.1) (apX_bytes hf) rfl (bv_one _) (by decide) (by rw [show (fourB (moreB 0 l)).length = 4 from rfl]; simpa using hl) ?_
  intro u2 σ3 hO3 hle _
  refine Ret.here (hK _ _ ((hg1.trans hg2).step hle) ?_)
  simp only [OwnB, List.length_append, List.map_append]
  simpa using hO3
end Go.Am.T
