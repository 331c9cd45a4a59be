/-
  CrcCalls: it answers true. (A contract.)
-/
import Derived.Test.YtdagnbaflkondaaDoorT04C
set_option linter.unusedVariables false
set_option linter.unusedSimpArgs false
namespace Go.Am.T
open Go Go.Am Go.Proofs

theorem refStrip_ok (p : Par) (v : V) (l : List UInt8) (hl : l.length ≤ 140737488355328) (σ : H) (hb : Bytes σ v l) (K : V → H → Prop)
    (hK : ∀ u σ', Grew σ σ' → OwnB σ' σ.size u (stripB l).1 → K (.tuple [u, .int .i64 (stripB l).2]) σ') : best p.C 11 [v] σ K := by
  refine best_of_body (fn := Tryd.f11) Tryd.func11 0 ?_
  refine (f11_eq p 0 _ σ _).mpr ?_
  rw [hb.len, need_some, bn_lss, need_some, cnd_dec]
  rcases strip_cases l with ⟨h4, hs⟩ | ⟨m, a, b, c, d, rfl, hs⟩
  · rw [if_pos (by omega)]
    refine Ret.here ?_
    have := hK .nils σ (Grew.refl _)
    rw [hs] at this
    exact this (Owns.nil _ _ _)
  · have hlen : (m ++ [a, b, c, d]).length = m.length + 4 := by simp
    rw [hlen] at hl
    rw [if_neg (by rw [hlen]; omega), need_some, bn_sub, need_some, wrap_i64 (by rw [hlen]; omega) (by rw [hlen]; omega)]
    rw [show (((m ++ [a, b, c, d]).length : Nat) : Int) - 4 = (m.length : Nat) by rw [hlen]; omega]
    obtain ⟨f, h1, b1⟩ := hb.front (ik := .i64) (n := m.length) (by rw [hlen]; omega)
    rw [List.take_left] at b1
    rw [h1, need_some]
    refine app_owns (n0 := σ.size) (Owns.nil _ _ _) (Nat.le_refl _) (apX_bytes b1) (by simp) (bv_one m) (by decide) (by simp; omega) ?_
    intro u σ1 hO hle _
    have hg1 : Grew σ σ1 := (Grew.refl σ).step hle
    have hO' : OwnB σ1 σ.size u m := by simpa using hO
    rw [(hb.grew hg1).str, need_some]
    refine refMark_ok p u m (by omega) σ1 hO'.bytes _ ?_
    intro t σ2 hg2 hO2
    refine ⟨by rw [(hb.grew (hg1.trans hg2)).str], ?_⟩
    have ht : Bytes σ2 t (m ++ fourB (moreB 0 m)) := hO2.bytes
    rw [ht.str, need_some, bn_sneq, need_some, cnd_not]
    rcases hs with ⟨hm, hs⟩ | ⟨hm, hs⟩
    · rw [if_pos (by rw [hm, fourB_numB])]
      have := hK u σ2 (hg1.trans hg2)
      rw [hs] at this
      exact Ret.here (this (hO'.grew hg2))
    · rw [if_neg]
      · have := hK .nils σ2 (hg1.trans hg2)
        rw [hs] at this
        exact Ret.here (this (Owns.nil _ _ _))
      · intro e
        have e2 := List.append_cancel_left e
        apply hm
        have := numB_fourB (moreB 0 m)
        simp only [fourB, List.cons.injEq, and_true] at e2
        rw [e2.1, e2.2.1, e2.2.2.1, e2.2.2.2] at this
        exact this.symm

/-- What a row of writes into one slice leaves as it was. -/
structure Only (z : V) (n0 : Nat) (σ σ' : H) : Prop where
  size : σ'.size = σ.size
  low : ∀ j, j < n0 → σ'.get j = σ.get j
  other : ∀ j, (∀ p s n c e, z = .slice p s n c e → p.id ≠ j) → σ'.get j = σ.get j

theorem flip_loop (p : Par) (m : Nat) (z : V) (n0 : Nat) (N : Nat) (hN : N ≤ 140737488355328) (KK : Kx) (σ0 : H)
    (s0 s1 s2 s3 s4 s5 s6 s7 s8 s9 s10 s11 s12 s13 s14 s15 s18 s19 s20 s21 s22 s23 s24 s25 s26 s27 s28 s29 s30 s31 s32 s33 s34 s35 s36 s37 s38 s39 s40 s41 s42 s43 s44 s45 s46 s47 s48 s49 s50 s51 s52 s53 s54 s55 s56 s57 s58 s59 s60 s61 s62 s63 s64 s65 s66 s67 s68 s69 s70 s71 s72 s73 s86 s87 s88 s89 s90 s91 s92 s93 s94 s95 s96 s97 s98 s99 s100 s101 s102 s103 s104 : V)
    (hK : ∀ (s17 s74 s75 s76 s77 s78 s79 s80 s81 s82 s83 s84 s85 : V) (σ : H) (l : List UInt8), l.length = N → OwnB σ n0 z l → Only z n0 σ0 σ → KK (.exit 2) [s0, s1, s2, s3, s4, s5, s6, s7, s8, s9, s10, s11, s12, s13, s14, s15, z, s17, s18, s19, s20, s21, s22, s23, s24, s25, s26, s27, s28, s29, s30, s31, s32, s33, s34, s35, s36, s37, s38, s39, s40, s41, s42, s43, s44, s45, s46, s47, s48, s49, s50, s51, s52, s53, s54, s55, s56, s57, s58, s59, s60, s61, s62, s63, s64, s65, s66, s67, s68, s69, s70, s71, s72, s73, s74, s75, s76, s77, s78, s79, s80, s81, s82, s83, s84, s85, s86, s87, s88, s89, s90, s91, s92, s93, s94, s95, s96, s97, s98, s99, s100, s101, s102, s103, s104] σ) :
    ∀ (d n i : Nat) (σ : H) (l : List UInt8) (s74 s75 s76 s77 s78 s79 s80 s81 s82 s83 s84 s85 : V), i + d = N → d < n → l.length = N → OwnB σ n0 z l → Only z n0 σ0 σ →
    loopN (exec (p.E m) (sA (sA (sB (sB (sA (sA (sB (sB (sA (sA (sB (sA (sB (sB (sB (sB (sB (sB (cd Tryd.f3)))))))))))))))))))) n [s0, s1, s2, s3, s4, s5, s6, s7, s8, s9, s10, s11, s12, s13, s14, s15, z, .int .i64 i, s18, s19, s20, s21, s22, s23, s24, s25, s26, s27, s28, s29, s30, s31, s32, s33, s34, s35, s36, s37, s38, s39, s40, s41, s42, s43, s44, s45, s46, s47, s48, s49, s50, s51, s52, s53, s54, s55, s56, s57, s58, s59, s60, s61, s62, s63, s64, s65, s66, s67, s68, s69, s70, s71, s72, s73, s74, s75, s76, s77, s78, s79, s80, s81, s82, s83, s84, s85, s86, s87, s88, s89, s90, s91, s92, s93, s94, s95, s96, s97, s98, s99, s100, s101, s102, s103, s104] σ KK := by
  intro d
  induction d with
  | zero =>
    intro n i σ l s74 s75 s76 s77 s78 s79 s80 s81 s82 s83 s84 s85 hi hn hl hO ho
    obtain ⟨n, rfl⟩ : ∃ k, n = k + 1 := ⟨n - 1, by omega⟩
    rw [loopN_succ, f3_pBBBBBBABAABBAABBAA, (Owns.bytes hO).len, need_some, bn_lss, need_some, cnd_dec, if_neg (by omega)]
    exact hK _ _ _ _ _ _ _ _ _ _ _ _ _ σ l hl hO ho
  | succ d ih =>
    intro n i σ l s74 s75 s76 s77 s78 s79 s80 s81 s82 s83 s84 s85 hi hn hl hO ho
    obtain ⟨n, rfl⟩ : ∃ k, n = k + 1 := ⟨n - 1, by omega⟩
    have hil : i < l.length := by omega
    obtain ⟨q, σ', h1, h2, h3, h4, h5, h6, h7, h8⟩ := hO.put (ik := .i64) hil (l[i] ^^^ 255)
    rw [loopN_succ, f3_pBBBBBBABAABBAABBAA, (Owns.bytes hO).len, need_some, bn_lss, need_some, cnd_dec, if_pos (by omega), h1, need_some, ld_one, h2, need_some, show (V.int .u8 255) = bv 255 from rfl, bn_xor8, need_some, need_some, storeX, h3, need_some, bn_add, need_some, wrap_i64 (by omega) (by omega)]
    refine ih n (i + 1) σ' (l.set i (l[i] ^^^ 255)) _ _ _ _ _ _ _ _ _ _ _ _ (by omega) (by omega) (by simpa using hl) (by simpa using h4) ?_
    refine ⟨h5.trans ho.size, fun j hj => (h7 j (by omega)).trans (ho.low j hj), fun j hj => ?_⟩
    refine Eq.trans (h7 j ?_) (ho.other j hj)
    rintro rfl
    obtain ⟨_, ⟨rfl, h0⟩ | ⟨id, r, ex, rfl, _⟩⟩ := hO
    · omega
    · exact hj _ _ _ _ _ rfl (h8 _ _ _ _ _ rfl)

theorem bd_two {σ τ : H} {n k : Nat} {z u : V} {l r : List UInt8} (hz : OwnB σ n z l) (hu : OwnB τ k u r) : bdP [.nils, .nils] [(0, 1, z), (1, 1, u)] = some (.agg [z, u]) ∧
    inP (.arr 2 false 1) (.agg [z, u]) (.int .i64 0) = some z ∧ inP (.arr 2 false 1) (.agg [z, u]) (.int .i64 1) = some u := by
  obtain ⟨_, ⟨rfl, _⟩ | ⟨id, _, ex, rfl, _⟩⟩ := hz <;> obtain ⟨_, ⟨rfl, _⟩ | ⟨id2, _, ex2, rfl, _⟩⟩ := hu <;> exact ⟨rfl, rfl, rfl⟩

theorem Only.grew {z : V} {n0 : Nat} {σ σ' τ : H} (h : Only z n0 σ σ') (hg : Grew τ σ) (hn : τ.size ≤ n0) : Grew τ σ' := ⟨by rw [h.size]; exact hg.1, fun i hi => (h.low i (by omega)).trans (hg.2 i hi)⟩

theorem crcCalls_ok (p : Par) (s : BitVec 32) (va : V) (a : List UInt8) (vb : V) (b : List UInt8) (hla : a.length ≤ 140737488351232) (hlb : b.length ≤ 140737488351232) (σ : H) (ha : Bytes σ va a) (hb : Bytes σ vb b) (K : V → H → Prop)
    (hK : K (.bool true) σ) : best p.C 3 [w32 s, va, vb] σ K := by
  obtain ⟨k, hk⟩ : ∃ k, k = a.length + b.length + 17 := ⟨_, rfl⟩
  refine best_of_body (fn := Tryd.f3) Tryd.func3 (k + 3) ?_
  refine (f3_eq p (k + 3) _ _ _ σ _).mpr ?_
  refine app_owns (n0 := σ.size) (Owns.nil _ _ _) (Nat.le_refl _) (apX_bytes ha) (by simp) (bv_one a) (by decide) (by simp; omega) ?_
  intro x σ1 hx' hle1 _
  have hx1 : OwnB σ1 σ.size x a := by simpa using hx'
  have g1 : Grew σ σ1 := (Grew.refl σ).step hle1
  refine app_owns (n0 := σ1.size) (Owns.nil _ _ _) (Nat.le_refl _) (apX_bytes (hb.grew g1)) (by simp) (bv_one b) (by decide) (by simp; omega) ?_
  intro y σ2 hy' hle2 _
  have hy2 : OwnB σ2 σ1.size y b := by simpa using hy'
  have g2 : Grew σ1 σ2 := (Grew.refl σ1).step hle2
  have bx2 : Bytes σ2 x a := (Owns.bytes hx1).grew g2
  have by2 : Bytes σ2 y b := Owns.bytes hy2
  have ba2 : Bytes σ2 va a := ha.grew (g1.trans g2)
  have bb2 : Bytes σ2 vb b := hb.grew (g1.trans g2)
  refine mark_ok p x a (by omega) σ2 bx2 _ ?_
  intro z σ3 g3 hz'
  have hz3 : OwnB σ3 σ2.size z (a ++ fourB (moreB 0 a)) := by rw [OwnB, List.length_append]; exact hz'
  refine strip_ok p y b (by omega) σ3 (by2.grew g3) _ ?_
  intro u σ4 g4 hu4
  have hu4' : OwnB σ4 σ3.size u (stripB b).1 := hu4
  rw [ext_tuple, ext_tuple, List.getElem?_cons_zero, List.getElem?_cons_succ, List.getElem?_cons_zero, need_some, need_some]
  refine refStrip_ok p vb b (by omega) σ4 (bb2.grew (g3.trans g4)) _ ?_
  intro t σ5 g5 ht5
  rw [ext_tuple, ext_tuple, List.getElem?_cons_zero, List.getElem?_cons_succ, List.getElem?_cons_zero, need_some, need_some]
  have g25 : Grew σ2 σ5 := (g3.trans g4).trans g5
  have bz5 : Bytes σ5 z (a ++ fourB (moreB 0 a)) := (Owns.bytes hz3).grew (g4.trans g5)
  refine sum_ok p x a (by omega) σ5 (bx2.grew g25) _ ?_
  refine refSum_ok p va a (by omega) σ5 (ba2.grew g25) _ ?_
  rw [bn_eql32, need_some, gdF_dec_t, if_pos rfl]
  refine more_ok p s x a (by omega) σ5 (bx2.grew g25) _ ?_
  refine refMore_ok p s va a (by omega) σ5 (ba2.grew g25) _ ?_
  rw [bn_eql32, need_some, pick_bool, need_some, if_pos (by simp), gdF_dec_t, if_pos rfl, bz5.str, need_some]
  refine refMark_ok p va a (by omega) σ5 (ba2.grew g25) _ ?_
  intro r σ6 g6 hr6
  have g26 := g25.trans g6
  refine ⟨by rw [(bz5.grew g6).str], ?_⟩
  have br6 : Bytes σ6 r (a ++ fourB (moreB 0 a)) := Owns.bytes hr6
  have bu6 : Bytes σ6 u (stripB b).1 := (Owns.bytes hu4').grew (g5.trans g6)
  have bt6 : Bytes σ6 t (stripB b).1 := (Owns.bytes ht5).grew g6
  rw [br6.str, need_some, bn_seql, need_some, pick_bool, need_some, if_pos (by simp), gdF_dec_t, if_pos rfl, bu6.str, need_some, bt6.str, need_some, bn_seql, need_some, pick_bool, need_some, if_pos (by simp), gdF_dec_t, if_pos rfl, bn_eql, need_some, pick_bool, need_some, if_pos (by simp)]
  have hz6 : OwnB σ6 σ2.size z (a ++ fourB (moreB 0 a)) := Owns.grew hz3 ((g4.trans g5).trans g6)
  have hu6 : OwnB σ6 σ3.size u (stripB b).1 := Owns.grew hu4' (g5.trans g6)
  obtain ⟨e1, e2, e3⟩ := bd_two hz6 hu6
  have hsl : (stripB b).1.length ≤ b.length := by
    rcases strip_cases b with ⟨_, hs⟩ | ⟨m, c1, c2, c3, c4, rfl, ⟨_, hs⟩ | ⟨_, hs⟩⟩ <;> rw [hs] <;> simp
  have hzl : (a ++ fourB (moreB 0 a)).length = a.length + 4 := by rw [List.length_append]; rfl
  have hzid : ∀ q w n c e, z = .slice q w n c e → q.id < σ3.size := by
    intro q w n c e h
    obtain ⟨_, ⟨rfl, _⟩ | ⟨id, rr, ex, rfl, _, hr, _⟩⟩ := hz3
    · cases h
    · cases h; exact H.get_lt hr
  rw [f3_pBBBBBB, e1, need_some, loopN_succ, f3_pBBBBBBABAA, bn_lss, need_some, cnd_dec, if_pos (by decide), e2, need_some]
  refine flip_loop p _ z σ2.size (a.length + 4) (by omega) _ σ6 _ _ _ _ _ _ _ _ _ _ _ _ _ _ _ _ _ _ _ _ _ _ _ _ _ _ _ _ _ _ _ _ _ _ _ _ _ _ _ _ _ _ _ _ _ _ _ _ _ _ _ _ _ _ _ _ _ _ _ _ _ _ _ _ _ _ _ _ _ _ _ _ _ _ _ _ _ _ _ _ _ _ _ _ _ _ _ _ _ _ _ ?_ (a.length + 4) _ 0 σ6 _ _ _ _ _ _ _ _ _ _ _ _ _ (by omega) (by omega) hzl hz6 ⟨rfl, fun _ _ => rfl, fun _ _ => rfl⟩
  intro s17 s74 s75 s76 s77 s78 s79 s80 s81 s82 s83 s84 s85 σ7 l7 hl7 hz7 ho7
  show exec (p.E _) _ _ σ7 _
  rw [f3_pBBBBBBABAABBB, bn_add, need_some, wrap_i64 (by omega) (by omega)]
  have hu7 : OwnB σ7 σ3.size u (stripB b).1 := by
    refine Owns.keep (n1 := 0) hu6 (fun q w n c e h => ho7.other _ ?_)
    intro q' w' n' c' e' h' he
    have h1 := hzid _ _ _ _ _ h'
    obtain ⟨_, ⟨hnil, _⟩ | ⟨id, rr, ex, hs, hid, _⟩⟩ := hu6
    · rw [h] at hnil; cases hnil
    · rw [h] at hs; cases hs
      simp only at he
      omega
  show loopN (exec (p.E (k + 3)) (sA (sA (sB (sA (sB (sB (sB (sB (sB (sB (cd Tryd.f3)))))))))))) (k + 2) _ σ7 _
  rw [loopN_succ, f3_pBBBBBBABAA, bn_lss, need_some, cnd_dec, if_pos (by decide), show (V.int .i64 (0 + 1)) = .int .i64 1 from rfl, e3, need_some]
  refine flip_loop p _ u σ3.size (stripB b).1.length (by omega) _ σ7 _ _ _ _ _ _ _ _ _ _ _ _ _ _ _ _ _ _ _ _ _ _ _ _ _ _ _ _ _ _ _ _ _ _ _ _ _ _ _ _ _ _ _ _ _ _ _ _ _ _ _ _ _ _ _ _ _ _ _ _ _ _ _ _ _ _ _ _ _ _ _ _ _ _ _ _ _ _ _ _ _ _ _ _ _ _ _ _ _ _ _ ?_ (stripB b).1.length _ 0 σ7 _ _ _ _ _ _ _ _ _ _ _ _ _ (by omega) (by omega) rfl hu7 ⟨rfl, fun _ _ => rfl, fun _ _ => rfl⟩
  intro s17 s74 s75 s76 s77 s78 s79 s80 s81 s82 s83 s84 s85 σ8 l8 hl8 hu8 ho8
  show exec (p.E _) _ _ σ8 _
  rw [f3_pBBBBBBABAABBB, bn_add, need_some, wrap_i64 (by omega) (by omega)]
  show loopN (exec (p.E (k + 3)) (sA (sA (sB (sA (sB (sB (sB (sB (sB (sB (cd Tryd.f3)))))))))))) (k + 1) _ σ8 _
  rw [loopN_succ, f3_pBBBBBBABAA, bn_lss, need_some, cnd_dec, if_neg (by decide)]
  show exec (p.E _) _ _ σ8 _
  have g7 : Grew σ2 σ7 := ho7.grew g26 (Nat.le_refl _)
  have g8 : Grew σ2 σ8 := ho8.grew g7 g3.1
  rw [f3_pBBBBBBB, gdF_dec_t, if_pos rfl, (bx2.grew g8).str, need_some, (ba2.grew g8).str, need_some, bn_seql, need_some, pick_bool, need_some, if_pos (by simp), gdF_dec_t, if_pos rfl, (by2.grew g8).str, need_some, (bb2.grew g8).str, need_some, bn_seql, need_some, pick_bool, need_some, if_pos (by simp), gdF_dec_t, if_pos rfl]
  refine wakes_ok p σ8 _ ?_
  rw [pick_bool, need_some, if_pos (by simp), f3_ret]
  exact Ret.pure ((g1.trans g2).trans g8) trivial hK
end Go.Am.T
