/-
  CrcLinear: it answers true. (A contract.)
-/
import Derived.Test.YtdagnbaflkondaaDoorT04W
import Derived.Test.YtdagnbaflkondaaDoorT04M2
import Derived.Test.YtdagnbaflkondaaDoorAmPut
set_option linter.unusedVariables false
set_option linter.unusedSimpArgs false
namespace Go.Am.T
open Go Go.Am Go.Proofs

theorem linear_loop (p : Par) (m : Nat) (σ0 : H) (va vb vc z : V) (a b c : List UInt8) (N : Nat) (hNa : N ≤ a.length) (hNb : N ≤ b.length) (hNc : N ≤ c.length) (hN : N ≤ 140737488351232) (ha : Bytes σ0 va a) (hb : Bytes σ0 vb b) (hc : Bytes σ0 vc c) (s t u : V) (KK : Kx)
    (hK : ∀ (s6 s7 s8 s9 s10 s11 s12 s15 s16 s17 s18 s19 s20 s21 s22 s23 s24 s25 s26 s27 s28 s29 s30 s31 s32 s33 s34 s35 s36 s37 s38 s39 s40 s41 s42 s43 s44 s45 s46 s47 s48 s49 s50 s51 s52 s53 s54 s55 s56 s57 s58 s59 s60 s61 s62 s63 s64 s65 s66 s67 s68 s69 s70 s71 s72 s73 s74 s75 s76 s77 s78 s79 s80 s81 s82 s83 s84 s85 : V) (σ : H), Grew σ0 σ → OwnB σ σ0.size z (x3 (a.take N) (b.take N) (c.take N)) → KK (.exit 0) [va, vb, vc, s, t, u, s6, s7, s8, s9, s10, s11, s12, .int .i64 N, z, s15, s16, s17, s18, s19, s20, s21, s22, s23, s24, s25, s26, s27, s28, s29, s30, s31, s32, s33, s34, s35, s36, s37, s38, s39, s40, s41, s42, s43, s44, s45, s46, s47, s48, s49, s50, s51, s52, s53, s54, s55, s56, s57, s58, s59, s60, s61, s62, s63, s64, s65, s66, s67, s68, s69, s70, s71, s72, s73, s74, s75, s76, s77, s78, s79, s80, s81, s82, s83, s84, s85] σ) :
    ∀ (d n i : Nat) (σ : H) (s6 s7 s8 s9 s10 s11 s12 s16 s17 s18 s19 s20 s21 s22 s23 s24 s25 s26 s27 s28 s29 s30 s31 s32 s33 s34 s35 s36 s37 s38 s39 s40 s41 s42 s43 s44 s45 s46 s47 s48 s49 s50 s51 s52 s53 s54 s55 s56 s57 s58 s59 s60 s61 s62 s63 s64 s65 s66 s67 s68 s69 s70 s71 s72 s73 s74 s75 s76 s77 s78 s79 s80 s81 s82 s83 s84 s85 : V), i + d = N → d < n → Grew σ0 σ → OwnB σ σ0.size z ((x3 (a.take N) (b.take N) (c.take N)).take i ++ List.replicate d 0) →
    loopN (exec (p.E m) (sA (sA (sB (sA (sB (sB (sB (cd Tryd.f7))))))))) n [va, vb, vc, s, t, u, s6, s7, s8, s9, s10, s11, s12, .int .i64 N, z, .int .i64 i, s16, s17, s18, s19, s20, s21, s22, s23, s24, s25, s26, s27, s28, s29, s30, s31, s32, s33, s34, s35, s36, s37, s38, s39, s40, s41, s42, s43, s44, s45, s46, s47, s48, s49, s50, s51, s52, s53, s54, s55, s56, s57, s58, s59, s60, s61, s62, s63, s64, s65, s66, s67, s68, s69, s70, s71, s72, s73, s74, s75, s76, s77, s78, s79, s80, s81, s82, s83, s84, s85] σ KK := by
  have hxl : (x3 (a.take N) (b.take N) (c.take N)).length = N := by rw [x3_length]; simp; omega
  intro d
  induction d with
  | zero =>
    intro n i σ s6 s7 s8 s9 s10 s11 s12 s16 s17 s18 s19 s20 s21 s22 s23 s24 s25 s26 s27 s28 s29 s30 s31 s32 s33 s34 s35 s36 s37 s38 s39 s40 s41 s42 s43 s44 s45 s46 s47 s48 s49 s50 s51 s52 s53 s54 s55 s56 s57 s58 s59 s60 s61 s62 s63 s64 s65 s66 s67 s68 s69 s70 s71 s72 s73 s74 s75 s76 s77 s78 s79 s80 s81 s82 s83 s84 s85 hi hn hg hO
    obtain ⟨n, rfl⟩ : ∃ k, n = k + 1 := ⟨n - 1, by omega⟩
    rw [loopN_succ, f7_pBBBABAA, bn_lss, need_some, cnd_dec, if_neg (by omega)]
    refine hK _ _ _ _ _ _ _ _ _ _ _ _ _ _ _ _ _ _ _ _ _ _ _ _ _ _ _ _ _ _ _ _ _ _ _ _ _ _ _ _ _ _ _ _ _ _ _ _ _ _ _ _ _ _ _ _ _ _ _ _ _ _ _ _ _ _ _ _ _ _ _ _ _ _ _ _ _ _ σ hg ?_
    rw [List.take_of_length_le (by omega), List.replicate_zero, List.append_nil] at hO
    exact hO
  | succ d ih =>
    intro n i σ s6 s7 s8 s9 s10 s11 s12 s16 s17 s18 s19 s20 s21 s22 s23 s24 s25 s26 s27 s28 s29 s30 s31 s32 s33 s34 s35 s36 s37 s38 s39 s40 s41 s42 s43 s44 s45 s46 s47 s48 s49 s50 s51 s52 s53 s54 s55 s56 s57 s58 s59 s60 s61 s62 s63 s64 s65 s66 s67 s68 s69 s70 s71 s72 s73 s74 s75 s76 s77 s78 s79 s80 s81 s82 s83 s84 s85 hi hn hg hO
    obtain ⟨n, rfl⟩ : ∃ k, n = k + 1 := ⟨n - 1, by omega⟩
    obtain ⟨pa, ha1, ha2⟩ := (ha.grew hg).at (ik := .i64) (i := i) (by omega)
    obtain ⟨pb, hb1, hb2⟩ := (hb.grew hg).at (ik := .i64) (i := i) (by omega)
    obtain ⟨pc, hc1, hc2⟩ := (hc.grew hg).at (ik := .i64) (i := i) (by omega)
    rw [loopN_succ, f7_pBBBABAA, bn_lss, need_some, cnd_dec, if_pos (by omega), ha1, need_some, ld_one, ha2, need_some, hb1, need_some, ld_one, hb2, need_some, bn_xor8, need_some, hc1, need_some, ld_one, hc2, need_some, bn_xor8, need_some]
    have htl : ((x3 (a.take N) (b.take N) (c.take N)).take i).length = i := by simp; omega
    obtain ⟨q, σ', hq1, _, hq3, hq4, hq5, hq6, hq7, _⟩ := hO.put (ik := .i64) (i := i) (by simp; omega) (a[i] ^^^ b[i] ^^^ c[i])
    rw [hq1, need_some, storeX, hq3, need_some, bn_add, need_some, wrap_i64 (by omega) (by omega)]
    refine ih n (i + 1) σ' _ _ _ _ _ _ _ _ _ _ _ _ _ _ _ _ _ _ _ _ _ _ _ _ _ _ _ _ _ _ _ _ _ _ _ _ _ _ _ _ _ _ _ _ _ _ _ _ _ _ _ _ _ _ _ _ _ _ _ _ _ _ _ _ _ _ _ _ _ _ _ _ _ _ _ _ _ (by omega) (by omega) ⟨by rw [hq5]; exact hg.1, fun j hj => by rw [hq7 j (by omega)]; exact hg.2 j hj⟩ ?_
    have e : (((x3 (a.take N) (b.take N) (c.take N)).take i ++ List.replicate (d + 1) 0).set i (a[i] ^^^ b[i] ^^^ c[i])) = (x3 (a.take N) (b.take N) (c.take N)).take (i + 1) ++ List.replicate d 0 := by
      rw [List.take_add_one, x3_get _ _ _ i (by simp; omega) (by simp; omega) (by simp; omega)]
      rw [List.replicate_succ, List.set_append_right _ _ (by omega), htl, Nat.sub_self, List.set_cons_zero]
      simp
    rw [e] at hq4
    exact hq4

theorem crcLinear_ok (p : Par) (va : V) (a : List UInt8) (vb : V) (b : List UInt8) (vc : V) (c : List UInt8) (s t u : BitVec 32) (hla : a.length ≤ 140737488351232) (hlb : b.length ≤ 140737488351232) (hlc : c.length ≤ 140737488351232) (σ : H) (ha : Bytes σ va a) (hb : Bytes σ vb b) (hc : Bytes σ vc c) (K : V → H → Prop)
    (hK : K (.bool true) σ) : best p.C 7 [va, vb, vc, w32 s, w32 t, w32 u] σ K := by
  let N := min a.length (min b.length c.length)
  have hNa : N ≤ a.length := by omega
  have hNb : N ≤ b.length := by omega
  have hNc : N ≤ c.length := by omega
  refine best_of_body (fn := Tryd.f7) Tryd.func7 (N + 1) ?_
  refine (f7_eq p (N + 1) _ _ _ _ _ _ σ _).mpr ?_
  have hf : foldV min2V (.int .i64 a.length) [.int .i64 b.length, .int .i64 c.length] = some (.int .i64 (N : Nat)) := by
    simp only [foldV, min2V]
    congr 2
    split <;> split <;> omega
  rw [ha.len, need_some, hb.len, need_some, hc.len, need_some, hf, need_some]
  refine make_bytes (n0 := σ.size) (Nat.le_refl _) (by omega) ?_
  intro z σ1 hg1 hO1
  refine linear_loop p _ σ va vb vc z a b c N hNa hNb hNc (by omega) ha hb hc _ _ _ _ ?_ N _ 0 σ1 _ _ _ _ _ _ _ _ _ _ _ _ _ _ _ _ _ _ _ _ _ _ _ _ _ _ _ _ _ _ _ _ _ _ _ _ _ _ _ _ _ _ _ _ _ _ _ _ _ _ _ _ _ _ _ _ _ _ _ _ _ _ _ _ _ _ _ _ _ _ _ _ _ _ _ _ _ (by omega) (by omega) hg1 (by simpa using hO1)
  intro s6 s7 s8 s9 s10 s11 s12 s15 s16 s17 s18 s19 s20 s21 s22 s23 s24 s25 s26 s27 s28 s29 s30 s31 s32 s33 s34 s35 s36 s37 s38 s39 s40 s41 s42 s43 s44 s45 s46 s47 s48 s49 s50 s51 s52 s53 s54 s55 s56 s57 s58 s59 s60 s61 s62 s63 s64 s65 s66 s67 s68 s69 s70 s71 s72 s73 s74 s75 s76 s77 s78 s79 s80 s81 s82 s83 s84 s85 σ2 hg2 hO2
  show exec (p.E _) _ _ σ2 _
  obtain ⟨ua, ea, fa⟩ := (ha.grew hg2).front (ik := .i64) hNa
  obtain ⟨ub, eb, fb⟩ := (hb.grew hg2).front (ik := .i64) hNb
  obtain ⟨uc, ec, fc⟩ := (hc.grew hg2).front (ik := .i64) hNc
  have la : (a.take N).length = N := by simp; omega
  have lb : (b.take N).length = N := by simp; omega
  have lc : (c.take N).length = N := by simp; omega
  have lx : (x3 (a.take N) (b.take N) (c.take N)).length = N := by rw [x3_length, la, lb, lc]; omega
  rw [f7_pBBBB, ea, need_some, eb, need_some, ec, need_some]
  refine sum_ok p z _ (by omega) σ2 hO2.bytes _ ?_
  refine sum_ok p ua _ (by omega) σ2 fa _ ?_
  refine sum_ok p ub _ (by omega) σ2 fb _ ?_
  rw [bn_xor32, need_some]
  refine sum_ok p uc _ (by omega) σ2 fc _ ?_
  have h0 := more_x3 0 0 0 (a.take N) (b.take N) (c.take N) (by omega) (by omega)
  rw [show (0 ^^^ 0 ^^^ 0 : BitVec 32) = 0 by rfl] at h0
  rw [bn_xor32, need_some, bn_neq32, need_some, cnd_not, if_pos h0, bn_xor32, need_some, bn_xor32, need_some]
  refine more_ok p _ va a (by omega) σ2 (ha.grew hg2) _ ?_
  refine more_ok p _ va a (by omega) σ2 (ha.grew hg2) _ ?_
  refine more_ok p _ va a (by omega) σ2 (ha.grew hg2) _ ?_
  rw [bn_xor32, need_some]
  refine more_ok p _ va a (by omega) σ2 (ha.grew hg2) _ ?_
  have h1 := more_x3 s t u a a a rfl rfl
  rw [x3_self] at h1
  rw [bn_xor32, need_some, bn_eql32, need_some, gdF_dec_t, if_pos h1]
  refine wakes_ok p σ2 _ ?_
  rw [pick_bool, need_some, if_pos (by simp [h1]), f7_ret]
  exact Ret.pure hg2 trivial hK
end Go.Am.T
