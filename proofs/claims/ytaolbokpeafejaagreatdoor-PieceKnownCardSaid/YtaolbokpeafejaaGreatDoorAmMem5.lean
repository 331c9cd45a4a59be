/-
  AM: append, sound. (Lemmas alone; no program.)
-/
import Derived.Test.YtaolbokpeafejaaGreatDoorAmMem4
set_option linter.unusedVariables false
set_option linter.unusedSimpArgs false
namespace Go.Am
open Go Go.RowKit

variable {C : Ctx} {ρ : Pl} {σ : H} {w : World}

theorem H.grow_inv {σ σ' : H} {a : PA} {ns : List V} (h : σ.grow a ns = some σ') : ∃ r, σ.get a.id = some (.row r) ∧ r.own = true ∧ a.ver = r.cells.length ∧ ns.all V.one = true ∧ σ' = σ.set a.id (.row { r with cells := r.cells ++ ns }) := by
  unfold H.grow at h
  split at h
  · rename_i r hr
    split at h
    · rename_i hc
      cases h
      exact ⟨r, hr, hc.1, hc.2.1, hc.2.2, rfl⟩
    · simp at h
  · simp at h

/-- A new row with room behind it. -/
theorem roomy_sound (hR : Rl C ρ σ w) (e : TypeId) {cs : List V} {xs zs : List Value} (hv : VRs ρ cs xs) :
    ∃ ρ', Ext ρ ρ' ∧ Rl C ρ' (mkRow σ e cs) (w.alloc (.cells (xs ++ zs).toArray e)) ∧ ρ' σ.size cs.length = some ⟨w.heap.size, 0, xs.length + zs.length⟩ := by
  have hl := hv.length
  obtain ⟨h1, h2⟩ := hR.push_row { cells := cs, elem := e, low := cs.length, own := true } (xs ++ zs).toArray e rfl (Nat.le_refl _) (by simp; omega) (by
    simp only [hl]
    rw [List.take_append_of_le_length (Nat.le_refl _), List.take_length]
    exact hv)
  exact ⟨_, h2, h1, by simp [Pl.new]⟩

theorem ap_sound (hR : Rl C ρ σ w) {ts : Array TypeId} {ty : TypeId} {k : SlK} {s x r : V} {s' x' : Value} {σ' : H} (hk : apK C.P ts = some k) (hs : VR ρ s s') (hx : VR ρ x x') (h : apP σ k s x = some (r, σ')) :
    ∃ ρ' w' y, (Builtin.append_ ts ty #[s', x']).run C.P w = .ok y w' ∧ Ext ρ ρ' ∧ Rl C ρ' σ' w' ∧ VR ρ' r y := by
  have hk' : ∃ t u d i z, ts[0]? = some t ∧ ts[1]? = some u ∧ SlOk C.P t k i z ∧ C.P.underlying u = some d ∧ (∀ q, d ≠ .int q) ∧ k.bytes ≠ 0 ∧ k.sz ≠ 0 := by
    unfold apK at hk
    split at hk
    · rename_i t u h0 h1
      split at hk
      · rename_i k' e hs1 hu
        split at hk
        · simp at hk
        · rename_i hb
          cases hk
          obtain ⟨i, z, hok⟩ := slInfo_ok hs1
          exact ⟨t, u, _, i, z, h0, h1, hok, hu, fun q e => (by cases e), fun e => hb (.inl e), fun e => hb (.inr e)⟩
      · rename_i k' hs1 hu
        split at hk
        · simp at hk
        · rename_i hb
          cases hk
          obtain ⟨i, z, hok⟩ := slInfo_ok hs1
          exact ⟨t, u, _, i, z, h0, h1, hok, hu, fun q e => (by cases e), fun e => hb (.inl e), fun e => hb (.inr e)⟩
      · simp at hk
    · simp at hk
  obtain ⟨t, u, d, i, z, ht, hu, hok, hd, hni, hb0, hs0⟩ := hk'
  unfold apP at h
  split at h
  · simp at h
  · rename_i ns n hns
    obtain ⟨hln, new, hnew, hnsz, hfc⟩ := apX_sound hR hx hns
    obtain ⟨_, new2, hnew2, hnsz2, hfc2⟩ := apX_sound hR.drew hx hns
    have hnl := hnew.length
    have hnl2 := hnew2.length
    have zsz : ∀ m, (Builtin.zeroCells z.cells m).toList.length = m * k.sz := fun m => by simp [Builtin.zeroCells, hok.zsize]
    split at h
    · -- nil
      simp only [VR] at hs; subst hs
      split at h
      · rename_i hn0
        cases h
        refine ⟨ρ, w, .slice none 0 0, ?_, Ext.refl _, hR, by simp only [VR]⟩
        rw [run_app_place (ty := ty) (base := none) ht hok hu hd hni hln hfc (by omega)]
        simp [hn0]
      · rename_i hn0
        split at h
        · rename_i hfit
          cases h
          have hfo : (Builtin.firstCells k.sz 0 (.slice none 0 0)).run C.P w.drew = .ok #[] w.drew := run_firstCells_none w.drew k.sz 0 0 0
          have hrun := run_app_grow (ty := ty) (base := none) (sLen := 0) (sCap := 0) ht hok hu hd hni hln hfc2 hfo (by omega) hb0 (by simpa using hfit)
          simp only [Nat.zero_add] at hrun
          obtain ⟨ρ', g1, g2, g3⟩ := roomy_sound hR.drew k.elem (zs := (Builtin.zeroCells z.cells (grownCap w n 0 k.elem - n)).toList) hnew2
          have harr : (#[] ++ new2 ++ Builtin.zeroCells z.cells (grownCap w n 0 k.elem - n)) = (new2.toList ++ (Builtin.zeroCells z.cells (grownCap w n 0 k.elem - n)).toList).toArray := by
            apply Array.ext'; simp
          rw [harr] at hrun
          refine ⟨ρ', _, _, hrun, g1, g2, ?_⟩
          have hge := grownCap_ge w n 0 k.elem
          have hnn : ns.length = n * k.sz := by rw [hnl2]; simpa using hnsz2
          simp only [VR, newPA]
          rw [hnn] at g3
          refine ⟨_, _, _, g3, rfl, Nat.le_refl _, hge, by simp, .inr ⟨rfl, ?_⟩, fun e => by cases e⟩
          simp only [Nat.zero_add, zsz, Array.length_toList, hnsz2]
          rw [← Nat.add_mul]
          have : n + (grownCap w n 0 k.elem - n) = grownCap w n 0 k.elem := by omega
          rw [this]
          exact Nat.le_refl _
        · simp at h
    · rename_i a sz len cb ex
      split at h
      · simp at h
      · rename_i hsz
        have hsz : sz = k.sz := by simpa using hsz
        subst hsz
        have hs' := hs
        simp only [VR] at hs'
        obtain ⟨p, ad, c, hp, rfl, hlb, hbc, hver, hcap, hex⟩ := hs'
        split at h
        · rename_i hn0
          subst hn0
          cases h
          have hnil : new.toList = [] := List.eq_nil_of_length_eq_zero (by simpa using hnsz)
          refine ⟨ρ, w, .slice (some ad) len c, ?_, Ext.refl _, hR, hs⟩
          rw [run_app_place (ty := ty) (base := some ad) ht hok hu hd hni hln hfc (by omega)]
          simp [hnil, storeCells]
        · rename_i hn0
          split at h
          · rename_i hroom
            split at h
            · rename_i σ2 hst
              cases h
              rcases hcap with h0 | ⟨h0, h00⟩
              · omega
              · subst h0
                obtain ⟨r1, r2⟩ := hR.store (xs := new.toList) hst hp hnew
                refine ⟨ρ, _, .slice (some (p.at a.off)) (len + n) c, ?_, Ext.refl _, r2, ?_⟩
                · rw [run_app_place (ty := ty) (base := some (p.at a.off)) ht hok hu hd hni hln hfc (by omega)]
                  simp only [Place.at_add]
                  rw [r1]; rfl
                · simp only [VR]
                  exact ⟨p, _, c, hp, rfl, hroom, hbc, hver, .inr ⟨rfl, h00⟩, hex⟩
            · simp at h
          · rename_i hroom
            split at h
            · rename_i hfit
              split at h
              · rename_i hexx
                have hcc := hex hexx
                split at h
                · rename_i old hold
                  cases h
                  obtain ⟨xs, hxl, hxr, hxc⟩ := slCells_sound hR.drew hs hold
                  have hfo : (Builtin.firstCells k.sz len (.slice (some ad) len c)).run C.P w.drew = .ok xs.toArray w.drew := run_firstCells_some (P := C.P) w.drew k.sz len ad len c xs hxl hxc
                  have hrun := run_app_grow (ty := ty) (base := some ad) (sLen := len) (sCap := c) ht hok hu hd hni hln hfc2 hfo (by omega) hb0 hfit
                  obtain ⟨ρ', g1, g2, g3⟩ := roomy_sound hR.drew k.elem (zs := (Builtin.zeroCells z.cells (grownCap w (len + n) c k.elem - (len + n))).toList) (hxr.append hnew2)
                  have harr : (xs.toArray ++ new2 ++ Builtin.zeroCells z.cells (grownCap w (len + n) c k.elem - (len + n))) = (xs ++ new2.toList ++ (Builtin.zeroCells z.cells (grownCap w (len + n) c k.elem - (len + n))).toList).toArray := by
                    apply Array.ext'; simp
                  rw [harr] at hrun
                  refine ⟨ρ', _, _, hrun, g1, g2, ?_⟩
                  have hge := grownCap_ge w (len + n) c k.elem
                  have hnn : (old ++ ns).length = (len + n) * k.sz := by
                    rw [List.length_append, hxr.length, hxl, hnl2, Nat.add_mul]; simpa using hnsz2
                  simp only [VR, newPA]
                  rw [hnn] at g3
                  refine ⟨_, _, _, g3, rfl, Nat.le_refl _, hge, by simp, .inr ⟨rfl, ?_⟩, fun e => by cases e⟩
                  simp only [Nat.zero_add, zsz, List.length_append, Array.length_toList, hnsz2, hxl]
                  rw [← Nat.add_mul, ← Nat.add_mul]
                  have : len + n + (grownCap w (len + n) c k.elem - (len + n)) = grownCap w (len + n) c k.elem := by omega
                  rw [this]
                  exact Nat.le_refl _
                · simp at h
              · rename_i hexx
                split at h
                · rename_i hcond
                  obtain ⟨ho, hlc, hlv⟩ := hcond
                  split at h
                  · rename_i σ2 hgr
                    cases h
                    have hnn : ns.length = n * k.sz := by rw [hnl]; simpa using hnsz
                    have hmul : (len + n) * k.sz = a.ver + ns.length := by rw [Nat.add_mul, hlv, hnn]
                    rcases Nat.lt_or_ge c (len + n) with hc | hc
                    · -- a new array
                      have hcells : ∃ xs : List Value, xs.length = len * k.sz ∧ (∀ (j : Nat) (x : Value), xs[j]? = some x → w.drew.cell? (ad.add j) = some x) ∧ ∀ r, σ.get a.id = some (.row r) → VRs ρ r.cells xs := by
                        obtain ⟨r0, hr0, hown0, hver0, _, _⟩ := H.grow_inv hgr
                        have hlow0 := hR.low _ _ hr0
                        have hsl : slCells σ (.slice a k.sz len cb ex) = some r0.cells := by
                          simp only [slCells, H.cells, hr0]
                          rw [if_pos (by omega), ho, hlv, hver0]
                          simp
                        obtain ⟨xs, hxl, hxr, hxc⟩ := slCells_sound hR.drew hs hsl
                        exact ⟨xs, hxl, hxc, fun r hr => by rw [hr0] at hr; cases hr; exact hxr⟩
                      obtain ⟨xs, hxl, hxc, hxr⟩ := hcells
                      have hfo : (Builtin.firstCells k.sz len (.slice (some ad) len c)).run C.P w.drew = .ok xs.toArray w.drew := run_firstCells_some (P := C.P) w.drew k.sz len ad len c xs hxl hxc
                      have hrun := run_app_grow (ty := ty) (base := some ad) (sLen := len) (sCap := c) ht hok hu hd hni hln hfc2 hfo hc hb0 hfit
                      have hlist : (xs.toArray ++ new2 ++ Builtin.zeroCells z.cells (grownCap w (len + n) c k.elem - (len + n))).toList = xs ++ new2.toList ++ (Builtin.zeroCells z.cells (grownCap w (len + n) c k.elem - (len + n))).toList := by simp
                      have hsize : (xs.toArray ++ new2 ++ Builtin.zeroCells z.cells (grownCap w (len + n) c k.elem - (len + n))).size = grownCap w (len + n) c k.elem * k.sz := by
                        rw [← Array.length_toList, hlist]
                        simp only [List.length_append, zsz, Array.length_toList, hnsz2, hxl]
                        have hge := grownCap_ge w (len + n) c k.elem
                        rw [← Nat.add_mul, ← Nat.add_mul]
                        congr 1; omega
                      have hge := grownCap_ge w (len + n) c k.elem
                      have hgesz : (len + n) * k.sz ≤ grownCap w (len + n) c k.elem * k.sz := Nat.mul_le_mul_right _ hge
                      obtain ⟨q1, q2⟩ := hR.drew.grow_there (t := k.elem) (cs := xs.toArray ++ new2 ++ Builtin.zeroCells z.cells (grownCap w (len + n) c k.elem - (len + n))) hgr hp (by
                        intro r hr
                        rw [hlist, List.take_append_of_le_length (by rw [List.length_append, hxl]; omega)]
                        rw [List.take_of_length_le (by rw [List.length_append, hxl]; omega)]
                        exact (hxr r hr).append hnew2) (by rw [hsize]; omega)
                      refine ⟨_, _, _, hrun, q2, q1, ?_⟩
                      simp only [VR]
                      have hpos : 0 < ns.length ∨ ns.length = 0 := by omega
                      by_cases hns0 : ns.length = 0
                      · -- elements of no size
                        have hk0 : k.sz = 0 := by
                          rw [hns0] at hnn
                          rcases Nat.mul_eq_zero.1 hnn.symm with h1 | h1
                          · exact absurd h1 hn0
                          · exact h1
                        exact absurd hk0 hs0
                      · refine ⟨⟨w.drew.heap.size, 0, grownCap w (len + n) c k.elem * k.sz⟩, _, _, by rw [← hsize]; rw [Pl.more_at, if_pos ⟨rfl, by omega, Nat.le_refl _⟩], rfl, Nat.le_refl _, hge, by rw [ho, hmul]; simp, .inr ⟨by simp [Place.at, ho], by rw [ho]; simp⟩, fun e => by cases e⟩
                    · -- in place
                      rcases hcap with h0 | ⟨h0, h00⟩
                      · omega
                      · subst h0
                        have hcm : (len + n) * k.sz ≤ c * k.sz := Nat.mul_le_mul_right _ hc
                        obtain ⟨q1, q2, q3⟩ := hR.grow_here (xs := new.toList) hgr hp hnew (by omega)
                        refine ⟨_, _, .slice (some (p.at a.off)) (len + n) c, ?_, q3, q2, ?_⟩
                        · rw [run_app_place (ty := ty) (base := some (p.at a.off)) ht hok hu hd hni hln hfc hc]
                          simp only [Place.at_add, ho, Nat.zero_add, hlv]
                          rw [q1]; rfl
                        · simp only [VR]
                          by_cases hns0 : ns.length = 0
                          · refine ⟨p, _, c, q3.map _ _ _ (by simpa [hns0] using hp), rfl, Nat.le_refl _, hc, by rw [ho, hmul]; simp, .inr ⟨rfl, h00⟩, fun e => by cases e⟩
                          · refine ⟨p, _, c, by rw [Pl.more_at, if_pos ⟨rfl, by show a.ver < a.ver + ns.length; omega, Nat.le_refl _⟩], rfl, Nat.le_refl _, hc, by rw [ho, hmul]; simp, .inr ⟨rfl, h00⟩, fun e => by cases e⟩
                  · simp at h
                · simp at h
            · simp at h
    · simp at h

end Go.Am
