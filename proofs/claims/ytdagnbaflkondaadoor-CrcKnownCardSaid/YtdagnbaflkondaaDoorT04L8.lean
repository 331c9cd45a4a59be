/-
  CrcKnown: it answers true. (A contract.)
-/
import Derived.Test.YtdagnbaflkondaaDoorT04W
import Derived.Test.YtdagnbaflkondaaDoorAmPut
set_option linter.unusedVariables false
set_option linter.unusedSimpArgs false
namespace Go.Am.T
open Go Go.Am Go.Proofs

def zSums : List Nat := [0, 2985771083, 4282948482, 1218151167, 955982468, 3102688355, 3313845133, 2130392761, 2533049510, 1965592679, 1846956487, 932045270, 4133727198, 1096953584, 3818839435, 3888172011, 2865945911, 3180328851, 3002325222, 4136833115, 2983832560, 3517128834, 126718997, 572785998, 72582085, 4050711447, 1283274741, 3444203096, 2548960769, 1688414928, 2910593024, 221614230, 3047837848, 2975612510, 1412861570, 3974766480, 2873978198, 654215972, 3453591321, 70209281, 2377922455, 1426174326, 3742692903, 2362806559, 946218177, 636027235, 3608215232, 2933234599, 2848788815, 2936056138, 2017387000, 1235896340, 233886771, 1894708632, 3216426412, 2185485448, 2460292043, 947620795, 944143203, 95855459, 277956640, 1823390523, 2263164600, 660296983]
def zSum (i : Nat) : BitVec 32 := moreB 0 (List.replicate i 0)
theorem zSums_eq : (List.range 64).map (fun i => (zSum i).toNat) = zSums := by decide +kernel
theorem zSums_diff : ∀ i : Fin 64, ∀ k : Fin 64, k.val < i.val → zSums[i.val]? ≠ zSums[k.val]? := by decide +kernel
theorem zSum_diff {i k : Nat} (hi : i < 64) (hk : k < i) : zSum i ≠ zSum k := by
  intro e
  refine zSums_diff ⟨i, hi⟩ ⟨k, by omega⟩ hk ?_
  rw [← zSums_eq]
  simp only [List.getElem?_map, List.getElem?_range hi, List.getElem?_range (show k < 64 by omega), Option.map_some, e]

theorem strip_nil : stripB [] = ([], 4) := by decide +kernel
theorem strip_zeros : stripB (List.replicate 4 0) = ([], 0) := by decide +kernel

theorem known_inner (p : Par) (m : Nat) (σ : H) (z : V) (hz : Bytes σ z (List.replicate 64 0)) (i : Nat) (hi : i < 64) (s0 s1 s2 s3 s4 s8 s9 s10 s11 s12 s13 s14 s15 s16 s17 s20 s21 s36 s37 s38 s39 s40 s41 s42 s43 s44 s45 s46 s47 s48 s49 : V) (KK : Kx)
    (hK : ∀ (s7 s18 s19 s22 s23 s24 s25 s26 s27 s28 s29 s30 s31 s32 s33 s34 s35 : V), KK (.exit 2) [s0, s1, s2, s3, s4, z, .int .i64 i, s7, s8, s9, s10, s11, s12, s13, s14, s15, s16, s17, s18, s19, s20, s21, s22, s23, s24, s25, s26, s27, s28, s29, s30, s31, s32, s33, s34, s35, s36, s37, s38, s39, s40, s41, s42, s43, s44, s45, s46, s47, s48, s49] σ) :
    ∀ (d n k : Nat) (s18 s19 s22 s23 s24 s25 s26 s27 s28 s29 s30 s31 s32 s33 s34 s35 : V), k + d = i → d < n →
    loopN (exec (p.E m) (sA (sA (sB (sA (sA (sB (sA (sA (sB (sA (sB (sB (sB (sB (cd Tryd.f8)))))))))))))))) n [s0, s1, s2, s3, s4, z, .int .i64 i, .int .i64 k, s8, s9, s10, s11, s12, s13, s14, s15, s16, s17, s18, s19, s20, s21, s22, s23, s24, s25, s26, s27, s28, s29, s30, s31, s32, s33, s34, s35, s36, s37, s38, s39, s40, s41, s42, s43, s44, s45, s46, s47, s48, s49] σ KK := by
  intro d
  induction d with
  | zero =>
    intro n k s18 s19 s22 s23 s24 s25 s26 s27 s28 s29 s30 s31 s32 s33 s34 s35 hk hn
    obtain ⟨n, rfl⟩ : ∃ k, n = k + 1 := ⟨n - 1, by omega⟩
    rw [loopN_succ, f8_pBBBBABAABAABAA, bn_lss, need_some, cnd_dec, if_neg (by omega)]
    exact hK _ _ _ _ _ _ _ _ _ _ _ _ _ _ _ _ _
  | succ d ih =>
    intro n k s18 s19 s22 s23 s24 s25 s26 s27 s28 s29 s30 s31 s32 s33 s34 s35 hk hn
    obtain ⟨n, rfl⟩ : ∃ k, n = k + 1 := ⟨n - 1, by omega⟩
    obtain ⟨u1, e1, b1⟩ := hz.front (ik := .i64) (n := i) (by simp; omega)
    obtain ⟨u2, e2, b2⟩ := hz.front (ik := .i64) (n := k) (by simp; omega)
    rw [List.take_replicate, Nat.min_eq_left (by omega)] at b1 b2
    rw [loopN_succ, f8_pBBBBABAABAABAA, bn_lss, need_some, cnd_dec, if_pos (by omega), e1, need_some, e2, need_some]
    refine sum_ok p u1 _ (by simp; omega) σ b1 _ ?_
    refine sum_ok p u2 _ (by simp; omega) σ b2 _ ?_
    rw [bn_eql32, need_some, cnd_dec, if_neg (show ¬ moreB 0 (List.replicate i 0) = moreB 0 (List.replicate k 0) from zSum_diff hi (by omega)), bn_add, need_some, wrap_i64 (by omega) (by omega)]
    exact ih n (k + 1) _ _ _ _ _ _ _ _ _ _ _ _ _ _ _ _ (by omega) (by omega)

theorem known_loop (p : Par) (m : Nat) (hm : 64 < m) (σ : H) (z : V) (hz : Bytes σ z (List.replicate 64 0)) (s2 s3 s4 : V) (KK : Kx)
    (hK : ∀ (s0 s1 s6 s7 s8 s9 s10 s11 s12 s13 s14 s15 s16 s17 s18 s19 s20 s21 s22 s23 s24 s25 s26 s27 s28 s29 s30 s31 s32 s33 s34 s35 s36 s37 s38 s39 s40 s41 s42 s43 s44 s45 s46 s47 s48 s49 : V), KK (.exit 0) [s0, s1, s2, s3, s4, z, s6, s7, s8, s9, s10, s11, s12, s13, s14, s15, s16, s17, s18, s19, s20, s21, s22, s23, s24, s25, s26, s27, s28, s29, s30, s31, s32, s33, s34, s35, s36, s37, s38, s39, s40, s41, s42, s43, s44, s45, s46, s47, s48, s49] σ) :
    ∀ (d n i : Nat) (s0 s1 s7 s8 s9 s10 s11 s12 s13 s14 s15 s16 s17 s18 s19 s20 s21 s22 s23 s24 s25 s26 s27 s28 s29 s30 s31 s32 s33 s34 s35 s36 s37 s38 s39 s40 s41 s42 s43 s44 s45 s46 s47 s48 s49 : V), i + d = 64 → d < n →
    loopN (exec (p.E m) (sA (sA (sB (sA (sB (sB (sB (sB (cd Tryd.f8)))))))))) n [s0, s1, s2, s3, s4, z, .int .i64 i, s7, s8, s9, s10, s11, s12, s13, s14, s15, s16, s17, s18, s19, s20, s21, s22, s23, s24, s25, s26, s27, s28, s29, s30, s31, s32, s33, s34, s35, s36, s37, s38, s39, s40, s41, s42, s43, s44, s45, s46, s47, s48, s49] σ KK := by
  intro d
  induction d with
  | zero =>
    intro n i s0 s1 s7 s8 s9 s10 s11 s12 s13 s14 s15 s16 s17 s18 s19 s20 s21 s22 s23 s24 s25 s26 s27 s28 s29 s30 s31 s32 s33 s34 s35 s36 s37 s38 s39 s40 s41 s42 s43 s44 s45 s46 s47 s48 s49 hi hn
    obtain ⟨n, rfl⟩ : ∃ k, n = k + 1 := ⟨n - 1, by omega⟩
    rw [loopN_succ, f8_pBBBBABAA, bn_lss, need_some, cnd_dec, if_neg (by omega)]
    exact hK _ _ _ _ _ _ _ _ _ _ _ _ _ _ _ _ _ _ _ _ _ _ _ _ _ _ _ _ _ _ _ _ _ _ _ _ _ _ _ _ _ _ _ _ _ _
  | succ d ih =>
    intro n i s0 s1 s7 s8 s9 s10 s11 s12 s13 s14 s15 s16 s17 s18 s19 s20 s21 s22 s23 s24 s25 s26 s27 s28 s29 s30 s31 s32 s33 s34 s35 s36 s37 s38 s39 s40 s41 s42 s43 s44 s45 s46 s47 s48 s49 hi hn
    obtain ⟨n, rfl⟩ : ∃ k, n = k + 1 := ⟨n - 1, by omega⟩
    rw [loopN_succ, f8_pBBBBABAA, bn_lss, need_some, cnd_dec, if_pos (by omega)]
    refine known_inner p m σ z hz i (by omega) _ _ _ _ _ _ _ _ _ _ _ _ _ _ _ _ _ _ _ _ _ _ _ _ _ _ _ _ _ _ _ _ ?_ i _ 0 _ _ _ _ _ _ _ _ _ _ _ _ _ _ _ _ (by omega) (by omega)
    intros
    show exec (p.E _) _ _ σ _
    rw [f8_pBBBBABAABB, bn_add, need_some, wrap_i64 (by omega) (by omega)]
    exact ih n (i + 1) _ _ _ _ _ _ _ _ _ _ _ _ _ _ _ _ _ _ _ _ _ _ _ _ _ _ _ _ _ _ _ _ _ _ _ _ _ _ _ _ _ _ _ _ _ (by omega) (by omega)

theorem crcKnown_ok (p : Par) (σ : H) (K : V → H → Prop) (hK : K (.bool true) σ) : best p.C 8 [] σ K := by
  refine best_of_body (fn := Tryd.f8) Tryd.func8 65 ?_
  refine (f8_eq p 65 σ _).mpr ?_
  refine strip_ok p .nils [] (by simp) σ (.inl ⟨rfl, rfl⟩) _ ?_
  intro u1 σ1 g1 _
  rw [strip_nil, ext_tuple, ext_tuple, List.getElem?_cons_zero, List.getElem?_cons_succ, List.getElem?_cons_zero, need_some, need_some]
  refine make_bytes (n0 := σ.size) (n := 4) g1.1 (by omega) ?_
  intro v2 σ2 g2 o2
  refine strip_ok p v2 _ (by simp) σ2 o2.bytes _ ?_
  intro u3 σ3 g3 o3
  rw [strip_zeros] at o3 ⊢
  rw [ext_tuple, ext_tuple, List.getElem?_cons_zero, List.getElem?_cons_succ, List.getElem?_cons_zero, need_some, need_some]
  refine make_bytes (n0 := σ.size) (n := 64) ((g1.trans g2).trans g3).1 (by omega) ?_
  intro z σ4 g4 o4
  have hu3 : Bytes σ4 u3 [] := (Owns.bytes o3).grew g4
  refine known_loop p 65 (by omega) σ4 z o4.bytes _ _ _ _ ?_ 64 _ 0 _ _ _ _ _ _ _ _ _ _ _ _ _ _ _ _ _ _ _ _ _ _ _ _ _ _ _ _ _ _ _ _ _ _ _ _ _ _ _ _ _ _ _ _ _ (by omega) (by omega)
  intro s0 s1 s6 s7 s8 s9 s10 s11 s12 s13 s14 s15 s16 s17 s18 s19 s20 s21 s22 s23 s24 s25 s26 s27 s28 s29 s30 s31 s32 s33 s34 s35 s36 s37 s38 s39 s40 s41 s42 s43 s44 s45 s46 s47 s48 s49
  show exec (p.E _) _ _ σ4 _
  rw [f8_pBBBBB, bn_eql, need_some, gdF_dec_t, if_pos rfl, bn_eql, need_some, pick_bool, need_some, if_pos (by simp), gdF_dec_t, if_pos rfl, hu3.len, need_some, bn_eql, need_some, pick_bool, need_some, if_pos (by simp), gdF_dec_t, if_pos (by simp)]
  refine wakes_ok p σ4 _ ?_
  rw [pick_bool, need_some, if_pos (by simp), f8_ret]
  exact Ret.pure (((g1.trans g2).trans g3).trans g4) trivial hK
end Go.Am.T
