/-
  AM: regions in the order of the text, code, loops; bodies. (Lemmas alone; no program.)
-/
import Derived.Test.YtaolbokpeafejaaGreatDoorAmExec
import Derived.LoopN
set_option linter.unusedVariables false
set_option linter.unusedSimpArgs false
namespace Go.Am
open Go Go.RowKit

/-- The slot of a guard: may the operation run? -/
def gd (v : Option V) (want : Bool) (yes no : Prop) : Prop :=
  match v with
  | some (.bool b) => if b = want then yes else no
  | some (.tuple _) => no
  | _ => False

def guardSlot (ops : Array Oper) (o : Oper) : Option (Tmp × Bool) :=
  match o.guard with
  | none => none
  | some (j, want) => match ops[j]? with
    | some oj => match oj.dst with
      | some t => some (t, want)
      | none => none
    | none => none

/-- One operation of a region, by its number. -/
def stepX (E : Env) (ops : Array Oper) (i : Nat) (s : List V) (σ : H) (K : List V → H → Prop) : Prop :=
  match ops[i]? with
  | none => K s σ
  | some o =>
    match o.guard with
    | none => opX E s σ o fun v σ' => K (putS s o.dst v) σ'
    | some _ => match guardSlot ops o with
      | some (t, want) => gd s[t]? want (opX E s σ o fun v σ' => K (putS s o.dst v) σ') (K (putS s o.dst undefV) σ)
      | none => False

/-- Operations one behind the other. -/
def exIx (E : Env) (ops : Array Oper) : List Nat → List V → H → (List V → H → Prop) → Prop
  | [], s, σ, K => K s σ
  | i :: l, s, σ, K => stepX E ops i s σ fun s σ => exIx E ops l s σ K

variable {ρ : Pl} {σ : H} {w : World} {E : Env}

/-- What a proof hands on behind some code: the post at the abstract state. -/
def Post (C : Ctx) (ρ : Pl) (a : Act) (K : List V → H → Prop) (Q : Act → World → Prop) : Prop :=
  ∀ s σ ρ' a' w', K s σ → Ext ρ ρ' → Rl C ρ' σ w' → VRs ρ' s a'.tmps.toList → a'.defers = a.defers → Q a' w'

theorem wanted_gd {ops : Array Oper} {o : Oper} {s : List V} {a : Act} {t : Tmp} {want : Bool} (hs : VRs ρ s a.tmps.toList) (hg : guardSlot ops o = some (t, want)) (hne : o.guard ≠ none) {yes no : Prop} (h : gd s[t]? want yes no) :
    (Region.wanted o (yielded ops a.tmps) = true ∧ yes) ∨ (Region.wanted o (yielded ops a.tmps) = false ∧ no) := by
  unfold guardSlot at hg
  cases hgd : o.guard with
  | none => exact absurd hgd hne
  | some p =>
    obtain ⟨j, wt⟩ := p
    rw [hgd] at hg
    simp only at hg
    split at hg
    · rename_i oj hoj
      split at hg
      · rename_i t' ht'
        cases hg
        have hy : yielded ops a.tmps j = match a.tmps[t]? with | some (.bool b) => some b | _ => none := by
          simp only [yielded, hoj, ht', Option.bind_some]
          rfl
        simp only [Region.wanted, hgd, hy]
        unfold gd at h
        split at h
        · rename_i b hb
          obtain ⟨x, hx, hr⟩ := hs.get hb
          simp only [VR] at hr; subst hr
          rw [Array.getElem?_toList] at hx
          rw [hx]
          simp only
          by_cases hbw : b = want
          · rw [if_pos hbw] at h; left; exact ⟨by simp [hbw], h⟩
          · rw [if_neg hbw] at h; right; exact ⟨by simp [hbw], h⟩
        · rename_i vs hb
          obtain ⟨x, hx, hr⟩ := hs.get hb
          simp only [VR] at hr
          obtain ⟨c, rfl, _⟩ := hr
          rw [Array.getElem?_toList] at hx
          rw [hx]
          right; exact ⟨by simp, h⟩
        · exact h.elim
      · simp at hg
    · simp at hg

theorem stepX_sound (hC : CallOk E.C E.call) (hY : YieldOk E.C E.yield) {ro : Option Nat} {ops : Array Oper} {Q : Exit → Act → World → Prop} {i : Nat} {ρ : Pl} {s : List V} {σ : H} {a : Act} {w : World} {K : List V → H → Prop} {next : Act → World → Prop}
    (h : stepX E ops i s σ K) (hR : Rl E.C ρ σ w) (hs : VRs ρ s a.tmps.toList) (hQ : Post E.C ρ a K next) : wpOpIn (FW ro) 0 E.C.P ops Q i next a w := by
  unfold stepX at h
  unfold wpOpIn
  cases ho : ops[i]? with
  | none =>
    rw [ho] at h
    exact hQ _ _ _ _ _ h (Ext.refl _) hR hs rfl
  | some o =>
    rw [ho] at h
    simp only at h ⊢
    have run : (opX E s σ o fun v σ' => K (putS s o.dst v) σ') → o.wpIn (FW ro) 0 E.C.P a w next Q := by
      intro hx
      refine opX_sound hC hY hR hs hx ?_
      intro v σ' ρ' x w' hk he hR' hvr
      exact hQ _ _ _ _ _ hk he hR' (putS_rel (VRs.ext he hs) hvr) (put_defers _ _ _)
    cases hgd : o.guard with
    | none =>
      rw [hgd] at h
      have hw : Region.wanted o (yielded ops a.tmps) = true := by simp [Region.wanted, hgd]
      rw [if_pos hw]
      exact run h
    | some p =>
      rw [hgd] at h
      simp only at h
      split at h
      · rename_i t want hg
        rcases wanted_gd hs hg (by rw [hgd]; simp) h with ⟨hw, hy⟩ | ⟨hw, hn⟩
        · rw [if_pos hw]; exact run hy
        · rw [if_neg (by rw [hw]; simp)]
          exact ⟨fun _ _ => trivial, hQ _ _ _ _ _ hn (Ext.refl _) hR (putS_rel hs undef_rel) (put_defers _ _ _)⟩
      · exact h.elim

theorem exIx_sound (hC : CallOk E.C E.call) (hY : YieldOk E.C E.yield) {ro : Option Nat} {ops : Array Oper} {Q : Exit → Act → World → Prop} : ∀ (l : List Nat) (ρ : Pl) (s : List V) (σ : H) (a : Act) (w : World) (K : List V → H → Prop),
    exIx E ops l s σ K → Rl E.C ρ σ w → VRs ρ s a.tmps.toList → Post E.C ρ a K (Q .normal) → wpOpsIn (FW ro) 0 E.C.P ops Q l a w
  | [], ρ, s, σ, a, w, K, h, hR, hs, hQ => hQ _ _ _ _ _ h (Ext.refl _) hR hs rfl
  | i :: l, ρ, s, σ, a, w, K, h, hR, hs, hQ => by
    rw [wpOpsIn_cons]
    refine stepX_sound hC hY h hR hs ?_
    intro s2 σ2 ρ2 a2 w2 hk he hR2 hs2 hd2
    refine exIx_sound hC hY l ρ2 s2 σ2 a2 w2 K hk hR2 hs2 ?_
    intro s3 σ3 ρ3 a3 w3 hk3 he3 hR3 hs3 hd3
    exact hQ _ _ _ _ _ hk3 (he.trans he3) hR3 hs3 (hd3.trans hd2)

/-- Whichever order the edges let. -/
def exAny (E : Env) (ops : Array Oper) : Nat → Array Bool → List V → H → (List V → H → Prop) → Prop
  | 0, listed, s, σ, K => Region.ready .any ops listed = [] ∧ K s σ
  | n + 1, listed, s, σ, K => (Region.ready .any ops listed = [] → K s σ) ∧
      ∀ i, i ∈ Region.ready .any ops listed → stepX E ops i s σ fun s σ => exAny E ops n (listed.setIfInBounds i true) s σ K

theorem exAny_sound (hC : CallOk E.C E.call) (hY : YieldOk E.C E.yield) {ro : Option Nat} {ops : Array Oper} {Q : Exit → Act → World → Prop} : ∀ (n : Nat) (listed : Array Bool) (ρ : Pl) (s : List V) (σ : H) (a : Act) (w : World) (K : List V → H → Prop),
    exAny E ops n listed s σ K → Rl E.C ρ σ w → VRs ρ s a.tmps.toList → Post E.C ρ a K (Q .normal) → wpAnyIn (FW ro) 0 E.C.P .any ops Q n listed a w
  | 0, listed, ρ, s, σ, a, w, K, h, hR, hs, hQ => ⟨h.1, hQ _ _ _ _ _ h.2 (Ext.refl _) hR hs rfl⟩
  | n + 1, listed, ρ, s, σ, a, w, K, h, hR, hs, hQ => by
    refine ⟨fun he => hQ _ _ _ _ _ (h.1 he) (Ext.refl _) hR hs rfl, fun i hi => ?_⟩
    refine stepX_sound hC hY (h.2 i hi) hR hs ?_
    intro s2 σ2 ρ2 a2 w2 hk he hR2 hs2 hd2
    refine exAny_sound hC hY n _ ρ2 s2 σ2 a2 w2 K hk hR2 hs2 ?_
    intro s3 σ3 ρ3 a3 w3 hk3 he3 hR3 hs3 hd3
    exact hQ _ _ _ _ _ hk3 (he.trans he3) hR3 hs3 (hd3.trans hd2)

end Go.Am
