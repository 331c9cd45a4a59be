/-
  The seat's functions of the package itself: what they answer. (Contracts.)
-/
import Derived.Test.YtdagnbaflkondaaDoorT04Eq
import Derived.Test.YtdagnbaflkondaaDoorAmWord
set_option linter.unusedVariables false
namespace Go.Am.T
open Go Go.Am Go.Proofs

def tabB (i : Nat) : BitVec 32 := [0x00000000#32, 0x04c11db7#32, 0x09823b6e#32, 0x0d4326d9#32, 0x130476dc#32, 0x17c56b6b#32, 0x1a864db2#32, 0x1e475005#32, 0x2608edb8#32, 0x22c9f00f#32, 0x2f8ad6d6#32, 0x2b4bcb61#32, 0x350c9b64#32, 0x31cd86d3#32, 0x3c8ea00a#32, 0x384fbdbd#32].getD i 0
def halfB (x : BitVec 32) : BitVec 32 := x <<< 4 ^^^ tabB (x >>> 28).toNat
def inB (x : BitVec 32) (b : UInt8) : BitVec 32 := halfB (halfB (x ^^^ (b.toBitVec.setWidth 32) <<< 24))
def moreB (s : BitVec 32) (l : List UInt8) : BitVec 32 := ~~~(l.foldl inB (~~~s))
def b8 (x : BitVec 32) : UInt8 := UInt8.ofBitVec (x.setWidth 8)
def fourB (x : BitVec 32) : List UInt8 := [b8 (x >>> 24), b8 (x >>> 16), b8 (x >>> 8), b8 x]
def g32 (b : UInt8) : BitVec 32 := b.toBitVec.setWidth 32
def numB (a b c d : UInt8) : BitVec 32 := g32 a <<< 24 ||| g32 b <<< 16 ||| g32 c <<< 8 ||| g32 d

theorem half_ok (p : Par) (x : BitVec 32) (σ : H) (K : V → H → Prop) (hK : K (w32 (halfB x)) σ) : best p.C 21 [w32 x] σ K := by
  refine best_of_body (fn := Tryd.f21) Tryd.func21 0 ?_
  refine (f21_eq p 0 _ σ _).mpr ?_
  have e4 := bn_shl32 x .u64 4
  have e28 := bn_shr32 x .u64 28
  simp only [show ((4 : Nat) : Int) = 4 from rfl, show ((28 : Nat) : Int) = 28 from rfl] at e4 e28
  rw [e4, need_some, e28, need_some]
  have hlt : (x >>> 28).toNat < 16 := by
    rw [BitVec.toNat_ushiftRight, Nat.shiftRight_eq_div_pow]; have := x.isLt; omega
  have hg : ixP (some 16, 1) (.gp 0 0) (w32 (x >>> 28)) = some (.gp 0 (x >>> 28).toNat) := by
    simp only [w32, ix_arr]
    rw [if_pos ⟨by omega, by omega⟩, addO_gp, Int.toNat_natCast]; simp only [Nat.mul_one, Nat.zero_add]
  rw [hg, need_some, ld_glob]
  have ht : (G0 0)[(x >>> 28).toNat]? = some (w32 (tabB (x >>> 28).toNat)) := by
    generalize (x >>> 28).toNat = q at hlt ⊢
    rcases (by omega : q = 0 ∨ q = 1 ∨ q = 2 ∨ q = 3 ∨ q = 4 ∨ q = 5 ∨ q = 6 ∨ q = 7 ∨ q = 8 ∨ q = 9 ∨ q = 10 ∨ q = 11 ∨ q = 12 ∨ q = 13 ∨ q = 14 ∨ q = 15) with rfl | rfl | rfl | rfl | rfl | rfl | rfl | rfl | rfl | rfl | rfl | rfl | rfl | rfl | rfl | rfl <;> rfl
  rw [ht, need_some, bn_xor32, need_some]
  exact Ret.pure (Grew.refl _) trivial hK

theorem more_loop (p : Par) (m : Nat) (v : V) (l : List UInt8) (hl : l.length ≤ 9223372036854775806) (σ : H) (hb : Bytes σ v l) (KK : Kx) (r : BitVec 32)
    (hK : ∀ s0 s1 s2 s3 s4 s6 s7 s8 s9 s10 s11 s12 s13 s14 s15 s16 s17 s18 s19 s20 s21 s22 s23 s24 s25 : V, KK (.exit 0) [s0, s1, s2, s3, s4, w32 r, s6, s7, s8, s9, s10, s11, s12, s13, s14, s15, s16, s17, s18, s19, s20, s21, s22, s23, s24, s25] σ) : ∀ (d n i : Nat) (x : BitVec 32) (s0 s1 s2 s3 s4 s6 s7 s8 s9 s13 s14 s15 s16 s17 s18 s19 s20 s21 s22 s23 s24 s25 : V), i + d = l.length → d < n → (l.drop i).foldl inB x = r →
    loopN (exec (p.E m) (sA (sA (sB (sA (sB (sB (cd Tryd.f14)))))))) n [s0, s1, s2, s3, s4, w32 x, s6, s7, s8, s9, v, .int .i64 l.length, .int .i64 i, s13, s14, s15, s16, s17, s18, s19, s20, s21, s22, s23, s24, s25] σ KK := by
  intro d
  induction d with
  | zero =>
    intro n i x s0 s1 s2 s3 s4 s6 s7 s8 s9 s13 s14 s15 s16 s17 s18 s19 s20 s21 s22 s23 s24 s25 hi hn hr
    obtain ⟨n, rfl⟩ : ∃ k, n = k + 1 := ⟨n - 1, by omega⟩
    rw [loopN_succ, f14_pBBABAA, bn_lss, need_some, cnd_dec, if_neg (by omega)]
    rw [List.drop_of_length_le (by omega)] at hr
    simp only [List.foldl_nil] at hr
    subst hr
    exact hK _ _ _ _ _ _ _ _ _ _ _ _ _ _ _ _ _ _ _ _ _ _ _ _ _
  | succ d ih =>
    intro n i x s0 s1 s2 s3 s4 s6 s7 s8 s9 s13 s14 s15 s16 s17 s18 s19 s20 s21 s22 s23 s24 s25 hi hn hr
    obtain ⟨n, rfl⟩ : ∃ k, n = k + 1 := ⟨n - 1, by omega⟩
    have hil : i < l.length := by omega
    obtain ⟨a, ha, hc⟩ := hb.at (ik := .i64) hil
    rw [loopN_succ, f14_pBBABAA, bn_lss, need_some, cnd_dec, if_pos (by omega), ha, need_some, ld_one, hc, need_some]
    rw [cv_u8_u32, need_some, show (V.int .u64 24) = .int .u64 ((24 : Nat) : Int) from rfl, bn_shl32, need_some, bn_xor32, need_some]
    refine half_ok p _ σ _ ?_
    refine half_ok p _ σ _ ?_
    rw [bn_add, need_some, wrap_i64 (by omega) (by omega)]
    refine ih n (i + 1) _ _ _ _ _ _ _ _ _ _ _ _ _ _ _ _ _ _ _ _ _ _ _ (by omega) (by omega) ?_
    rw [← hr, List.drop_eq_getElem_cons hil]
    rfl

theorem more_ok (p : Par) (s : BitVec 32) (v : V) (l : List UInt8) (hl : l.length ≤ 9223372036854775806) (σ : H) (hb : Bytes σ v l) (K : V → H → Prop)
    (hK : K (w32 (moreB s l)) σ) : best p.C 14 [w32 s, v] σ K := by
  refine best_of_body (fn := Tryd.f14) Tryd.func14 (l.length + 1) ?_
  refine (f14_eq p (l.length + 1) _ _ σ _).mpr ?_
  rw [un_xor32, need_some, hb.len, need_some]
  refine more_loop p _ v l hl σ hb _ (l.foldl inB (~~~s)) ?_ l.length _ 0 _ _ _ _ _ _ _ _ _ _ _ _ _ _ _ _ _ _ _ _ _ _ _ (by omega) (by omega) rfl
  intros
  show exec (p.E _) _ _ σ _
  rw [f14_pBBB, un_xor32, need_some, f14_ret]
  exact Ret.pure (Grew.refl _) trivial hK

theorem sum_ok (p : Par) (v : V) (l : List UInt8) (hl : l.length ≤ 9223372036854775806) (σ : H) (hb : Bytes σ v l) (K : V → H → Prop)
    (hK : K (w32 (moreB 0 l)) σ) : best p.C 12 [v] σ K := by
  refine best_of_body (fn := Tryd.f12) Tryd.func12 0 ?_
  refine (f12_eq p 0 _ σ _).mpr ?_
  exact more_ok p 0 v l hl σ hb _ (Ret.pure (Grew.refl _) trivial hK)

theorem clone_ok (p : Par) (v : V) (l : List UInt8) (hl : l.length ≤ 140737488355328) (σ : H) (hb : Bytes σ v l) (K : V → H → Prop)
    (hK : ∀ u σ', Grew σ σ' → Owns σ' σ.size 1 u l.length (l.map bv) → K u σ') : best p.C 18 [v] σ K := by
  refine best_of_body (fn := Tryd.f18) Tryd.func18 0 ?_
  refine (f18_eq p 0 _ σ _).mpr ?_
  rcases hb with ⟨rfl, rfl⟩ | ⟨a, cb, ex, rfl, hcb, hc⟩
  · rw [bn_eq]
    simp only [eqS, need_some, cnd_bool, if_true]
    exact Ret.pure (Grew.refl _) trivial (hK _ _ (Grew.refl _) (Owns.nil _ _ _))
  · rw [bn_eq]
    simp only [eqS, need_some, cnd_bool, Bool.false_eq_true, if_false]
    refine lit_owns (n0 := σ.size) (cs := []) (Nat.le_refl _) rfl rfl ?_
    intro u σ1 hg hO
    have hb1 : Bytes σ1 (.slice a 1 l.length cb ex) l := (show Bytes σ _ l from .inr ⟨a, cb, ex, rfl, hcb, hc⟩).grew hg
    refine app_owns (n0 := σ.size) hO hg.1 (apX_bytes hb1) (by simp) (bv_one l) (by decide) (by simpa using hl) ?_
    intro u2 σ2 hO2 hle hn
    refine Ret.here ?_
    simp only [Nat.zero_add, List.nil_append] at hO2
    exact hK _ _ (hg.step hle) hO2

theorem four_ok (p : Par) (x : BitVec 32) (σ : H) (K : V → H → Prop)
    (hK : ∀ u σ', Grew σ σ' → Owns σ' σ.size 1 u 4 ((fourB x).map bv) → K u σ') : best p.C 19 [w32 x] σ K := by
  refine best_of_body (fn := Tryd.f19) Tryd.func19 0 ?_
  refine (f19_eq p 0 _ σ _).mpr ?_
  rw [show (V.int .u64 24) = .int .u64 ((24 : Nat) : Int) from rfl, show (V.int .u64 16) = .int .u64 ((16 : Nat) : Int) from rfl, show (V.int .u64 8) = .int .u64 ((8 : Nat) : Int) from rfl]
  simp only [bn_shr32, need_some, cv_u32_u8]
  refine lit_owns (n0 := σ.size) (cs := (fourB x).map bv) (Nat.le_refl _) rfl rfl ?_
  intro u σ1 hg hO
  exact Ret.here (hK _ _ hg hO)

theorem number_ok (p : Par) (v : V) (a b c d : UInt8) (σ : H) (hb : Bytes σ v [a, b, c, d]) (K : V → H → Prop) (hK : K (w32 (numB a b c d)) σ) : best p.C 20 [v] σ K := by
  refine best_of_body (fn := Tryd.f20) Tryd.func20 0 ?_
  refine (f20_eq p 0 _ σ _).mpr ?_
  obtain ⟨p0, h0, k0⟩ := hb.at (ik := .i64) (i := 0) (by simp)
  obtain ⟨p1, h1, k1⟩ := hb.at (ik := .i64) (i := 1) (by simp)
  obtain ⟨p2, h2, k2⟩ := hb.at (ik := .i64) (i := 2) (by simp)
  obtain ⟨p3, h3, k3⟩ := hb.at (ik := .i64) (i := 3) (by simp)
  simp only [show ((0 : Nat) : Int) = 0 from rfl, show ((1 : Nat) : Int) = 1 from rfl, show ((2 : Nat) : Int) = 2 from rfl, show ((3 : Nat) : Int) = 3 from rfl] at h0 h1 h2 h3
  rw [show (V.int .u64 24) = .int .u64 ((24 : Nat) : Int) from rfl, show (V.int .u64 16) = .int .u64 ((16 : Nat) : Int) from rfl, show (V.int .u64 8) = .int .u64 ((8 : Nat) : Int) from rfl]
  simp only [h0, h1, h2, h3, need_some, ld_one, k0, k1, k2, k3, List.getElem_cons_zero, List.getElem_cons_succ, cv_u8_u32, bn_shl32, bn_or32]
  exact Ret.pure (Grew.refl _) trivial hK

theorem mark_ok (p : Par) (v : V) (l : List UInt8) (hl : l.length + 4 ≤ 140737488355328) (σ : H) (hb : Bytes σ v l) (K : V → H → Prop)
    (hK : ∀ u σ', Grew σ σ' → Owns σ' σ.size 1 u (l.length + 4) ((l ++ fourB (moreB 0 l)).map bv) → K u σ') : best p.C 9 [v] σ K := by
  refine best_of_body (fn := Tryd.f9) Tryd.func9 0 ?_
  refine (f9_eq p 0 _ σ _).mpr ?_
  refine clone_ok p v l (by omega) σ hb _ ?_
  intro u σ1 hg hO
  refine sum_ok p v l (by omega) σ1 (hb.grew hg) _ ?_
  refine four_ok p _ σ1 _ ?_
  intro f σ2 hg2 hO2
  have hf : Bytes σ2 f (fourB (moreB 0 l)) := Owns.bytes hO2
  refine app_owns (n0 := σ.size) (hO.grew hg2) (Nat.le_trans hg.1 hg2.1) (apX_bytes hf) rfl (bv_one _) (by decide) (by rw [show (fourB (moreB 0 l)).length = 4 from rfl]; simpa using hl) ?_
  intro u2 σ3 hO3 hle hn
  refine Ret.here (hK _ _ ((hg.trans hg2).step hle) ?_)
  rw [show (fourB (moreB 0 l)).length = 4 from rfl] at hO3
  rwa [List.map_append]

/-- What is stripped. -/
def stripB (l : List UInt8) : List UInt8 × Int :=
  if l.length < 4 then ([], 4) else
  match l.drop (l.length - 4) with
  | [a, b, c, d] => if moreB 0 (l.take (l.length - 4)) = numB a b c d then (l.take (l.length - 4), 0) else ([], 21)
  | _ => ([], 21)

theorem strip_ok (p : Par) (v : V) (l : List UInt8) (hl : l.length ≤ 140737488355328) (σ : H) (hb : Bytes σ v l) (K : V → H → Prop)
    (hK : ∀ u σ', Grew σ σ' → Owns σ' σ.size 1 u (stripB l).1.length ((stripB l).1.map bv) → K (.tuple [u, .int .i64 (stripB l).2]) σ') : best p.C 10 [v] σ K := by
  refine best_of_body (fn := Tryd.f10) Tryd.func10 0 ?_
  refine (f10_eq p 0 _ σ _).mpr ?_
  rw [hb.len, need_some, bn_sub, need_some, wrap_i64 (by omega) (by omega), bn_lss, need_some, cnd_dec]
  by_cases h4 : l.length < 4
  · rw [if_pos (by omega)]
    refine Ret.here ?_
    have := hK .nils σ (Grew.refl _)
    simp only [stripB, if_pos h4] at this
    exact this (Owns.nil _ _ _)
  · rw [if_neg (by omega)]
    obtain ⟨n, hn⟩ : ∃ n, l.length = n + 4 := ⟨l.length - 4, by omega⟩
    have e : ((l.length : Int) - 4) = ((n : Nat) : Int) := by omega
    have e2 : l.length - 4 = n := by omega
    rw [e]
    obtain ⟨u1, h1, b1⟩ := hb.front (ik := .i64) (n := n) (by omega)
    obtain ⟨u2, h2, b2⟩ := hb.back (ik := .i64) (n := n) (by omega)
    rw [h1, need_some, h2, need_some]
    have hd : (l.drop n).length = 4 := by simp; omega
    obtain ⟨a, b, c, d, hdd⟩ : ∃ a b c d, l.drop n = [a, b, c, d] := by
      match hq : l.drop n, hd with
      | [a, b, c, d], _ => exact ⟨a, b, c, d, rfl⟩
    rw [hdd] at b2
    refine sum_ok p u1 _ (by simp; omega) σ b1 _ ?_
    refine number_ok p u2 a b c d σ b2 _ ?_
    rw [bn_neq32, need_some, cnd_not, need_some]
    have es : stripB l = if moreB 0 (l.take n) = numB a b c d then (l.take n, 0) else ([], 21) := by
      simp only [stripB, if_neg h4, e2, hdd]
    by_cases hs : moreB 0 (l.take n) = numB a b c d
    · rw [if_pos hs] at es
      rw [if_pos hs]
      refine clone_ok p u1 _ (by simp; omega) σ b1 _ ?_
      intro u σ1 hg hO
      have := hK u σ1 hg
      rw [es] at this
      exact Ret.here (this hO)
    · rw [if_neg hs] at es
      rw [if_neg hs]
      have := hK .nils σ (Grew.refl _)
      rw [es] at this
      exact Ret.here (this (Owns.nil _ _ _))
end Go.Am.T
