/-
  CrcFinds: it answers true. (A contract.)
-/
import Derived.Test.YtdagnbaflkondaaDoorT04W
import Derived.Test.YtdagnbaflkondaaDoorT04M4
import Derived.Test.YtdagnbaflkondaaDoorAmPut
set_option linter.unusedVariables false
set_option linter.unusedSimpArgs false
namespace Go.Am.T
open Go Go.Am Go.Proofs

def bitE (b : Bool) (r : Nat) : UInt8 := if b then UInt8.ofBitVec (1#8 <<< (7 - r)) else 0

theorem bit_one (t : BitVec 32) (i : Nat) : (t >>> i) &&& 1#32 = if t.getLsbD i then 1#32 else 0#32 := by
  apply BitVec.eq_of_getLsbD_eq
  intro j hj
  have h1 : (1#32).getLsbD j = decide (j = 0) := by
    have : ∀ j : Fin 32, (1#32).getLsbD j.val = decide (j.val = 0) := by decide
    exact this ⟨j, hj⟩
  rw [BitVec.getLsbD_and, BitVec.getLsbD_ushiftRight, h1]
  by_cases h0 : j = 0
  · subst h0
    cases h : t.getLsbD i <;> simp [h]
  · cases h : t.getLsbD i <;> simp [h0, h1]

theorem shl_e (b : Bool) (r : Nat) (hr : r < 8) : bnP .prim .shl (bv (b8 (if b then 1#32 else 0#32))) (.int .i64 ((7 - r : Nat) : Int)) = some (bv (bitE b r)) := by
  rcases (by omega : r = 0 ∨ r = 1 ∨ r = 2 ∨ r = 3 ∨ r = 4 ∨ r = 5 ∨ r = 6 ∨ r = 7) with rfl | rfl | rfl | rfl | rfl | rfl | rfl | rfl <;> cases b <;> rfl

theorem g32_e (b : Bool) (r : Nat) (hr : r < 8) : g32 (bitE b r) <<< 24 = if b then 1#32 <<< (31 - r) else 0#32 := by
  rcases (by omega : r = 0 ∨ r = 1 ∨ r = 2 ∨ r = 3 ∨ r = 4 ∨ r = 5 ∨ r = 6 ∨ r = 7) with rfl | rfl | rfl | rfl | rfl | rfl | rfl | rfl <;> cases b <;> rfl

theorem flip_step (t : BitVec 32) (l : List UInt8) (L first i q r : Nat) (hL : l.length = L) (hk : first + i = 8 * q + r) (hr : r < 8) (hi : i < 32) (hq : q < l.length) (hf : first + 32 ≤ 8 * L) (B x : BitVec 32)
    (h : l.foldl inB x = B ^^^ stN (8 * L - first) (rev t i)) : (l.set q (l[q] ^^^ bitE (t.getLsbD i) r)).foldl inB x = B ^^^ stN (8 * L - first) (rev t (i + 1)) := by
  rw [fold_flip _ _ hq, h, g32_e _ _ hr, rev, stN_xor, BitVec.xor_assoc]
  congr 2
  cases ht : t.getLsbD i with
  | false => simp [stN_zero]
  | true =>
    simp only [if_true]
    have h1 := one_up ⟨r, by omega⟩
    have h2 := one_up ⟨i, hi⟩
    simp only at h1 h2
    rw [show 8 * (l.length - q) = r + (8 * L - (first + i)) by omega, stN_add, h1, ← h2, ← stN_add, show i + (8 * L - (first + i)) = 8 * L - first by omega]

theorem turn_loop (p : Par) (m : Nat) (σ0 : H) (vb z : V) (n0 L first : Nat) (t : BitVec 32) (hL : L ≤ 140737488355328) (hf : first + 32 ≤ 8 * L) (m0 : List UInt8) (hm0 : m0.length = L) (hn0 : σ0.size ≤ n0) (KK : Kx)
    (hK : ∀ (s1 s3 s4 s5 s6 s8 s9 s11 s12 s13 s14 s15 s16 s17 s18 s19 s20 s21 s22 s23 s24 s25 s26 s27 s28 s29 s30 s31 s32 s33 s34 s35 s36 s37 s38 s39 s40 s41 s42 s43 s44 s45 s46 s47 s48 s49 s50 s51 s52 s53 s54 s55 s56 s57 s58 s59 s60 s61 s62 s63 s64 s65 s66 s67 s68 s69 s70 s71 s72 s73 s74 s75 s76 s77 s78 s79 s80 s81 s82 s83 s84 s85 s86 s87 s88 s89 s90 s91 s92 s93 s94 s95 : V) (σ : H) (l : List UInt8), l.length = L → Grew σ0 σ → OwnB σ n0 z l → (t = 0#32 → l = m0) → l.foldl inB (BitVec.allOnes 32) = m0.foldl inB (BitVec.allOnes 32) ^^^ stN (8 * L - first) (rev t 32) → KK (.exit 0) [vb, s1, w32 t, s3, s4, s5, s6, z, s8, s9, .int .i64 first, s11, s12, s13, s14, s15, s16, s17, s18, s19, s20, s21, s22, s23, s24, s25, s26, s27, s28, s29, s30, s31, s32, s33, s34, s35, s36, s37, s38, s39, s40, s41, s42, s43, s44, s45, s46, s47, s48, s49, s50, s51, s52, s53, s54, s55, s56, s57, s58, s59, s60, s61, s62, s63, s64, s65, s66, s67, s68, s69, s70, s71, s72, s73, s74, s75, s76, s77, s78, s79, s80, s81, s82, s83, s84, s85, s86, s87, s88, s89, s90, s91, s92, s93, s94, s95] σ) :
    ∀ (d n i : Nat) (σ : H) (l : List UInt8) (s1 s3 s4 s5 s6 s8 s9 s12 s13 s14 s15 s16 s17 s18 s19 s20 s21 s22 s23 s24 s25 s26 s27 s28 s29 s30 s31 s32 s33 s34 s35 s36 s37 s38 s39 s40 s41 s42 s43 s44 s45 s46 s47 s48 s49 s50 s51 s52 s53 s54 s55 s56 s57 s58 s59 s60 s61 s62 s63 s64 s65 s66 s67 s68 s69 s70 s71 s72 s73 s74 s75 s76 s77 s78 s79 s80 s81 s82 s83 s84 s85 s86 s87 s88 s89 s90 s91 s92 s93 s94 s95 : V), i + d = 32 → d < n → l.length = L → Grew σ0 σ → OwnB σ n0 z l → (t = 0#32 → l = m0) → l.foldl inB (BitVec.allOnes 32) = m0.foldl inB (BitVec.allOnes 32) ^^^ stN (8 * L - first) (rev t i) →
    loopN (exec (p.E m) (sA (sA (sB (sA (sB (sB (sB (sB (sB (cd Tryd.f4))))))))))) n [vb, s1, w32 t, s3, s4, s5, s6, z, s8, s9, .int .i64 first, .int .i64 i, s12, s13, s14, s15, s16, s17, s18, s19, s20, s21, s22, s23, s24, s25, s26, s27, s28, s29, s30, s31, s32, s33, s34, s35, s36, s37, s38, s39, s40, s41, s42, s43, s44, s45, s46, s47, s48, s49, s50, s51, s52, s53, s54, s55, s56, s57, s58, s59, s60, s61, s62, s63, s64, s65, s66, s67, s68, s69, s70, s71, s72, s73, s74, s75, s76, s77, s78, s79, s80, s81, s82, s83, s84, s85, s86, s87, s88, s89, s90, s91, s92, s93, s94, s95] σ KK := by
  intro d
  induction d with
  | zero =>
    intro n i σ l s1 s3 s4 s5 s6 s8 s9 s12 s13 s14 s15 s16 s17 s18 s19 s20 s21 s22 s23 s24 s25 s26 s27 s28 s29 s30 s31 s32 s33 s34 s35 s36 s37 s38 s39 s40 s41 s42 s43 s44 s45 s46 s47 s48 s49 s50 s51 s52 s53 s54 s55 s56 s57 s58 s59 s60 s61 s62 s63 s64 s65 s66 s67 s68 s69 s70 s71 s72 s73 s74 s75 s76 s77 s78 s79 s80 s81 s82 s83 s84 s85 s86 s87 s88 s89 s90 s91 s92 s93 s94 s95 hi hn hl hg hO h0 hx
    obtain ⟨n, rfl⟩ : ∃ k, n = k + 1 := ⟨n - 1, by omega⟩
    rw [loopN_succ, f4_pBBBBBABAA, bn_lss, need_some, cnd_dec, if_neg (by omega)]
    have : i = 32 := by omega
    subst this
    exact hK _ _ _ _ _ _ _ _ _ _ _ _ _ _ _ _ _ _ _ _ _ _ _ _ _ _ _ _ _ _ _ _ _ _ _ _ _ _ _ _ _ _ _ _ _ _ _ _ _ _ _ _ _ _ _ _ _ _ _ _ _ _ _ _ _ _ _ _ _ _ _ _ _ _ _ _ _ _ _ _ _ _ _ _ _ _ _ _ _ _ _ _ σ l hl hg hO h0 hx
  | succ d ih =>
    intro n i σ l s1 s3 s4 s5 s6 s8 s9 s12 s13 s14 s15 s16 s17 s18 s19 s20 s21 s22 s23 s24 s25 s26 s27 s28 s29 s30 s31 s32 s33 s34 s35 s36 s37 s38 s39 s40 s41 s42 s43 s44 s45 s46 s47 s48 s49 s50 s51 s52 s53 s54 s55 s56 s57 s58 s59 s60 s61 s62 s63 s64 s65 s66 s67 s68 s69 s70 s71 s72 s73 s74 s75 s76 s77 s78 s79 s80 s81 s82 s83 s84 s85 s86 s87 s88 s89 s90 s91 s92 s93 s94 s95 hi hn hl hg hO h0 hx
    obtain ⟨n, rfl⟩ : ∃ k, n = k + 1 := ⟨n - 1, by omega⟩
    obtain ⟨q, hq⟩ : ∃ q, q = (first + i) / 8 := ⟨_, rfl⟩
    obtain ⟨r, hr⟩ : ∃ r, r = (first + i) % 8 := ⟨_, rfl⟩
    have hql : q < l.length := by omega
    have hr8 : r < 8 := by omega
    obtain ⟨a, σ', h1, h2, h3, h4, h5, h6, h7, h8⟩ := hO.put (ik := .i64) hql (l[q] ^^^ bitE (t.getLsbD i) r)
    have ek : IntKind.i64.wrap ((first : Int) + (i : Int)) = ((first + i : Nat) : Int) := by rw [wrap_i64 (by omega) (by omega)]; push_cast; rfl
    have ed : ((first + i : Nat) : Int).tdiv 8 = (q : Int) := by rw [hq, Int.tdiv_eq_ediv_of_nonneg (by omega)]; rfl
    have em : ((first + i : Nat) : Int).tmod 8 = (r : Int) := by rw [hr, Int.tmod_eq_emod_of_nonneg (by omega)]; rfl
    have e7 : IntKind.i64.wrap (7 - (r : Int)) = ((7 - r : Nat) : Int) := by rw [wrap_i64 (by omega) (by omega)]; omega
    rw [loopN_succ, f4_pBBBBBABAA, bn_lss, need_some, cnd_dec, if_pos (by omega), bn_add, need_some, ek, bn_quo, if_neg (by decide), need_some, ed, wrap_i64 (by omega) (by omega), h1, need_some, ld_one, h2, need_some,
      bn_shr32, need_some, show (V.int .u32 1) = w32 1#32 from rfl, bn_and32, need_some, bit_one, cv_u32_u8, need_some, bn_rem, if_neg (by decide), need_some, em, bn_sub, need_some, e7]
    rw [show UInt8.ofBitVec ((if t.getLsbD i then 1#32 else 0#32).setWidth 8) = b8 (if t.getLsbD i then 1#32 else 0#32) from rfl, shl_e _ _ hr8, need_some, bn_xor8, need_some, need_some, storeX, h3, need_some, bn_add, need_some, wrap_i64 (by omega) (by omega)]
    refine ih n (i + 1) σ' (l.set q (l[q] ^^^ bitE (t.getLsbD i) r)) _ _ _ _ _ _ _ _ _ _ _ _ _ _ _ _ _ _ _ _ _ _ _ _ _ _ _ _ _ _ _ _ _ _ _ _ _ _ _ _ _ _ _ _ _ _ _ _ _ _ _ _ _ _ _ _ _ _ _ _ _ _ _ _ _ _ _ _ _ _ _ _ _ _ _ _ _ _ _ _ _ _ _ _ _ _ _ _ _ _ _ (by omega) (by omega) (by simpa using hl) ⟨by rw [h5]; exact hg.1, fun j hj => by rw [h7 j (by omega)]; exact hg.2 j hj⟩ h4 ?_ ?_
    · intro ht
      have hz : bitE (t.getLsbD i) r = 0 := by rw [ht]; simp [bitE]
      rw [hz, UInt8.xor_zero, List.set_getElem_self]
      exact h0 ht
    · exact flip_step t l L first i q r hl (by omega) hr8 (by omega) hql hf _ _ hx

theorem crcFinds_ok (p : Par) (vb : V) (b : List UInt8) (at' : Nat) (t : BitVec 32) (hlb : b.length ≤ 140737488351232) (hat : at' < 65536) (σ : H) (hb : Bytes σ vb b) (K : V → H → Prop)
    (hK : K (.bool true) σ) : best p.C 4 [vb, .int .u16 at', w32 t] σ K := by
  refine best_of_body (fn := Tryd.f4) Tryd.func4 33 ?_
  refine (f4_eq p 33 _ _ _ σ _).mpr ?_
  refine mark_ok p vb b (by omega) σ hb _ ?_
  intro z σ1 g1 hz'
  obtain ⟨m0, hm0⟩ : ∃ m0, m0 = b ++ fourB (moreB 0 b) := ⟨_, rfl⟩
  have hml : m0.length = b.length + 4 := by rw [hm0, List.length_append]; rfl
  have hz1 : OwnB σ1 σ.size z m0 := by rw [OwnB, hml, hm0]; exact hz'
  have hst : stripB m0 = (b, 0) := by
    rcases strip_cases m0 with ⟨h4, _⟩ | ⟨m, a1, a2, a3, a4, he, h⟩
    · omega
    · have hl1 : m.length = b.length := by have := congrArg List.length he; simp at this; omega
      rw [hm0] at he
      obtain ⟨rfl, e2⟩ := List.append_inj he (by omega)
      have : moreB 0 b = numB a1 a2 a3 a4 := by
        have h3 := numB_fourB (moreB 0 b)
        simp only [fourB, List.cons.injEq, and_true] at e2
        rw [e2.1, e2.2.1, e2.2.2.1, e2.2.2.2] at h3
        exact h3.symm
      rcases h with ⟨_, h⟩ | ⟨h, _⟩
      · rw [hm0, he]; rw [← he, ← hm0]; exact h
      · exact absurd this h
  have hpass : m0.foldl inB (BitVec.allOnes 32) = stN 32 (BitVec.allOnes 32) := by
    rw [hm0]
    exact (taken_iff b _ _ _ _).1 (numB_fourB (moreB 0 b)).symm
  refine strip_ok p z m0 (by omega) σ1 hz1.bytes _ ?_
  intro u σ2 g2 hu
  have bb2 := hb.grew (g1.trans g2)
  have hz2 : OwnB σ2 σ.size z m0 := Owns.grew hz1 g2
  have bu2 : Bytes σ2 u b := by have := Owns.bytes hu; rwa [hst] at this
  rw [hst, ext_tuple, ext_tuple, List.getElem?_cons_zero, List.getElem?_cons_succ, List.getElem?_cons_zero, need_some, need_some]
  have e34 : IntKind.i64.wrap ((b.length : Int) + 4) = ((m0.length : Nat) : Int) := by rw [wrap_i64 (by omega) (by omega), hml]; push_cast; rfl
  simp only [bn_neq, need_some, show (decide ((0 : Int) = 0)) = true from rfl, Bool.not_true, gdF_bool, if_true, bu2.str, bb2.str, bn_sneq, decide_true, pick_bool, Bool.false_eq_true, if_false, (Owns.bytes hz2).len, bb2.len, bn_add, e34, cnd_bool]
  obtain ⟨first, hfirst⟩ : ∃ f, f = at' % (8 * m0.length - 31) := ⟨_, rfl⟩
  have hflt : first + 32 ≤ 8 * m0.length := by have := Nat.mod_lt at' (show 0 < 8 * m0.length - 31 by omega); omega
  have e8 : IntKind.i64.wrap (8 * ((m0.length : Nat) : Int)) = 8 * ((m0.length : Nat) : Int) := wrap_i64 (by omega) (by omega)
  have e31 : IntKind.i64.wrap (8 * ((m0.length : Nat) : Int) - 31) = 8 * ((m0.length : Nat) : Int) - 31 := wrap_i64 (by omega) (by omega)
  have em : (at' : Int).tmod (8 * ((m0.length : Nat) : Int) - 31) = (first : Nat) := by
    rw [Int.tmod_eq_emod_of_nonneg (by omega), hfirst, show 8 * ((m0.length : Nat) : Int) - 31 = ((8 * m0.length - 31 : Nat) : Int) by omega]; rfl
  rw [f4_pBBBB, cv_int, need_some, wrap_i64 (by omega) (by omega), (Owns.bytes hz2).len, need_some, bn_mul, need_some, e8, bn_sub, need_some, e31, bn_rem, if_neg (by omega), need_some, em]
  refine turn_loop p 33 σ vb z σ.size m0.length first t (by omega) hflt m0 rfl (Nat.le_refl _) _ ?_ 32 _ 0 σ2 m0 _ _ _ _ _ _ _ _ _ _ _ _ _ _ _ _ _ _ _ _ _ _ _ _ _ _ _ _ _ _ _ _ _ _ _ _ _ _ _ _ _ _ _ _ _ _ _ _ _ _ _ _ _ _ _ _ _ _ _ _ _ _ _ _ _ _ _ _ _ _ _ _ _ _ _ _ _ _ _ _ _ _ _ _ _ _ _ _ _ _ _ (by omega) (by omega) rfl (g1.trans g2) hz2 (fun _ => rfl) (by rw [rev, stN_zero, BitVec.xor_zero])
  intro s1 s3 s4 s5 s6 s8 s9 s11 s12 s13 s14 s15 s16 s17 s18 s19 s20 s21 s22 s23 s24 s25 s26 s27 s28 s29 s30 s31 s32 s33 s34 s35 s36 s37 s38 s39 s40 s41 s42 s43 s44 s45 s46 s47 s48 s49 s50 s51 s52 s53 s54 s55 s56 s57 s58 s59 s60 s61 s62 s63 s64 s65 s66 s67 s68 s69 s70 s71 s72 s73 s74 s75 s76 s77 s78 s79 s80 s81 s82 s83 s84 s85 s86 s87 s88 s89 s90 s91 s92 s93 s94 s95 σ3 l hl g3 hz3 h0 hx
  show exec (p.E _) _ _ σ3 _
  rw [f4_pBBBBBB]
  refine strip_ok p z l (by omega) σ3 hz3.bytes _ ?_
  intro u' σ4 g4 hu4
  have bu4 := Owns.bytes hu4
  have bb4 := hb.grew (g3.trans g4)
  rw [ext_tuple, ext_tuple, List.getElem?_cons_zero, List.getElem?_cons_succ, List.getElem?_cons_zero, need_some, need_some, show (V.int .u32 0) = w32 0#32 from rfl, bn_neq32, need_some, cnd_not]
  by_cases ht : t = 0#32
  · have := h0 ht
    subst this
    rw [hst] at bu4 ⊢
    rw [if_pos ht, bn_eql, need_some, gdF_dec_t, if_pos rfl, bu4.str, need_some, bb4.str, need_some, bn_seql, need_some, pick_bool, need_some, if_pos (by simp), gdF_dec_t, if_pos rfl]
    refine wakes_ok p σ4 _ ?_
    rw [pick_bool, need_some, if_pos (by simp), f4_ret]
    exact Ret.pure (g3.trans g4) trivial hK
  · rw [if_neg ht]
    have hs : stripB l = ([], 21) := by
      rcases strip_cases l with ⟨h4, _⟩ | ⟨m, a1, a2, a3, a4, rfl, ⟨hm, _⟩ | ⟨_, h⟩⟩
      · omega
      · exfalso
        apply ht
        apply rev_zero
        apply stN_inj0 (8 * m0.length - first)
        have h5 := (taken_iff m a1 a2 a3 a4).1 hm
        rw [hx, hpass] at h5
        have := congrArg (fun y => stN 32 (BitVec.allOnes 32) ^^^ y) h5
        simp only [← BitVec.xor_assoc, BitVec.xor_self, BitVec.zero_xor] at this
        exact this
      · exact h
    rw [hs] at bu4 ⊢
    rw [bn_eql, need_some, gdF_dec_t, if_pos rfl, bu4.len, need_some, bn_eql, need_some, pick_bool, need_some, if_pos (by simp), gdF_dec_t, if_pos (by simp)]
    refine wakes_ok p σ4 _ ?_
    rw [pick_bool, need_some, if_pos (by simp), f4_ret]
    exact Ret.pure (g3.trans g4) trivial hK
end Go.Am.T
