/-
  AM: guards that are known need no second look. (Lemmas alone; no program.)
-/
import Derived.Test.YtaolbokpeafejaaGreatDoorAmDraw5
set_option linter.unusedVariables false
set_option linter.unusedSimpArgs false
namespace Go.Am
open Go Go.RowKit

abbrev Kn := List (Nat × Option Bool)

def lookKn : Kn → Nat → Option (Option Bool)
  | [], _ => none
  | (k, r) :: kn, j => match k == j with
    | true => some r
    | false => lookKn kn j

def forget (ops : Array Oper) (d : Option Tmp) (kn : Kn) : Kn :=
  match d with
  | none => kn
  | some t => kn.filter fun p => !(dstOf ops p.1 == some t)

/-- Passed over: its slot holds nothing. -/
def passed (i : Nat) (d : Option Tmp) (s : List V) (kn : Kn) : Kn :=
  match d with
  | none => kn
  | some t => match s[t]? with
    | some _ => (i, none) :: kn
    | none => kn

def KnOk (ops : Array Oper) (kn : Kn) (s : List V) : Prop :=
  ∀ j r, (j, r) ∈ kn → ∃ t, dstOf ops j = some t ∧ s[t]? = some (match r with | some b => .bool b | none => undefV)

theorem lookKn_mem : ∀ {kn : Kn} {j : Nat} {r : Option Bool}, lookKn kn j = some r → (j, r) ∈ kn
  | [], j, r, h => by simp [lookKn] at h
  | (k, q) :: kn, j, r, h => by
    simp only [lookKn] at h
    split at h
    · rename_i hk
      have : k = j := by simpa using hk
      subst this; cases h; simp
    · simp [lookKn_mem h]

theorem KnOk.forget {ops : Array Oper} {kn : Kn} {s : List V} (h : KnOk ops kn s) (d : Option Tmp) (v : V) : KnOk ops (forget ops d kn) (putS s d v) := by
  cases d with
  | none => exact h
  | some t =>
    intro j r hj
    simp only [Am.forget, List.mem_filter, Bool.not_eq_true', beq_eq_false_iff_ne] at hj
    obtain ⟨u, h1, h2⟩ := h j r hj.1
    refine ⟨u, h1, ?_⟩
    have : t ≠ u := fun e => hj.2 (by rw [h1, e])
    simp only [putS, List.getElem?_set, this, if_false]
    exact h2

theorem KnOk.passed {ops : Array Oper} {kn : Kn} {s : List V} {i : Nat} {o : Oper} (ho : ops[i]? = some o) (h : KnOk ops kn (putS s o.dst undefV)) : KnOk ops (passed i o.dst s kn) (putS s o.dst undefV) := by
  unfold Am.passed
  split
  · exact h
  · rename_i t hd
    split
    · rename_i v hv
      intro j r hj
      simp only [List.mem_cons, Prod.mk.injEq] at hj
      rcases hj with ⟨rfl, rfl⟩ | hj
      · refine ⟨t, by simp [dstOf, ho, hd], ?_⟩
        have := (List.getElem?_eq_some_iff.1 hv).1
        simp [hd, putS, List.getElem?_set, this]
      · exact h j r hj
    · exact h

theorem guardSlot_dst {ops : Array Oper} {o : Oper} {j : Nat} {want : Bool} {t : Tmp} (hg : o.guard = some (j, want)) (hd : dstOf ops j = some t) : guardSlot ops o = some (t, want) := by
  unfold guardSlot dstOf at *
  rw [hg]
  simp only
  cases ho : ops[j]? with
  | none => simp [ho] at hd
  | some oj => simp only [ho] at hd ⊢; rw [hd]

theorem dst_guardSlot {ops : Array Oper} {o : Oper} {j : Nat} {want w2 : Bool} {t : Tmp} (hg : o.guard = some (j, want)) (h : guardSlot ops o = some (t, w2)) : dstOf ops j = some t ∧ w2 = want := by
  unfold guardSlot at h
  rw [hg] at h
  simp only at h
  unfold dstOf
  split at h
  · rename_i oj hoj
    rw [hoj]
    simp only
    split at h
    · rename_i t' ht'; cases h; exact ⟨ht', rfl⟩
    · simp at h
  · simp at h

/-- A guard that is looked at. -/
def gdF (v : Option V) (want : Bool) (yes no : Prop) : Prop :=
  match v with
  | some (.bool b) => if b = want then yes else no
  | _ => False

/-- The operations of a region, one behind the other: what is known of guards is used. -/
def exIxF (E : Env) (ops : Array Oper) : List Nat → Kn → List V → H → (List V → H → Prop) → Prop
  | [], _, s, σ, K => K s σ
  | i :: l, kn, s, σ, K =>
    match ops[i]? with
    | none => exIxF E ops l kn s σ K
    | some o =>
      match o.guard with
      | none => opX E s σ o fun v σ' => exIxF E ops l (forget ops o.dst kn) (putS s o.dst v) σ' K
      | some (j, want) => match lookKn kn j with
        | some (some b) => match b == want with
          | true => opX E s σ o fun v σ' => exIxF E ops l (forget ops o.dst kn) (putS s o.dst v) σ' K
          | false => exIxF E ops l (passed i o.dst s (forget ops o.dst kn)) (putS s o.dst undefV) σ K
        | some none => exIxF E ops l (passed i o.dst s (forget ops o.dst kn)) (putS s o.dst undefV) σ K
        | none => match guardSlot ops o with
          | some (t, _) => gdF s[t]? want (opX E (s.set t (.bool want)) σ o fun v σ' => exIxF E ops l (forget ops o.dst ((j, some want) :: kn)) (putS (s.set t (.bool want)) o.dst v) σ' K)
              (exIxF E ops l (passed i o.dst (s.set t (.bool (!want))) (forget ops o.dst ((j, some (!want)) :: kn))) (putS (s.set t (.bool (!want))) o.dst undefV) σ K)
          | none => False

/-- What is known answers the guard. -/
theorem known_gdB {ops : Array Oper} {o : Oper} {j : Nat} {want : Bool} {kn : Kn} {s : List V} {r : Option Bool} (hg : o.guard = some (j, want)) (hk : KnOk ops kn s) (hl : lookKn kn j = some r) :
    gdB ops o s = some (match r with | some b => b == want | none => false) := by
  obtain ⟨t, h1, h2⟩ := hk j r (lookKn_mem hl)
  unfold gdB
  rw [hg]
  simp only [guardSlot_dst hg h1]
  cases r with
  | none => rw [h2]; rfl
  | some b => rw [h2]; simp only [Option.some.injEq]; rw [Bool.eq_iff_iff]; simp

theorem set_same {s : List V} {t : Nat} {v : V} (h : s[t]? = some v) : s.set t v = s := by
  apply List.ext_getElem?
  intro i
  rw [List.getElem?_set]
  split
  · rename_i e; subst e
    have := (List.getElem?_eq_some_iff.1 h).1
    rw [if_pos this, h]
  · rfl

/-- A guard that is looked at: what is known behind it. -/
theorem gd_known {ops : Array Oper} {o : Oper} {j : Nat} {want w2 : Bool} {kn : Kn} {s : List V} {t : Tmp} {yes no : Prop} (hg : o.guard = some (j, want)) (hk : KnOk ops kn s) (hs : guardSlot ops o = some (t, w2)) (h : gdF s[t]? want yes no) :
    (gdB ops o s = some true ∧ yes ∧ KnOk ops ((j, some want) :: kn) s ∧ s.set t (.bool want) = s) ∨ (gdB ops o s = some false ∧ no ∧ KnOk ops ((j, some (!want)) :: kn) s ∧ s.set t (.bool (!want)) = s) := by
  obtain ⟨hd, rfl⟩ := dst_guardSlot hg hs
  have add : ∀ b, s[t]? = some (.bool b) → KnOk ops ((j, some b) :: kn) s := by
    intro b hb k r hkr
    simp only [List.mem_cons, Prod.mk.injEq] at hkr
    rcases hkr with ⟨rfl, rfl⟩ | hkr
    · exact ⟨t, hd, hb⟩
    · exact hk k r hkr
  unfold gdB
  rw [hg]
  simp only [hs]
  unfold gdF at h
  split at h
  · rename_i b hb
    rw [hb]
    split at h
    · rename_i hbw
      subst hbw
      exact .inl ⟨by simp, h, add _ hb, set_same hb⟩
    · rename_i hbw
      have : b = !w2 := by cases b <;> cases w2 <;> simp_all
      refine .inr ⟨by simp [hbw], h, ?_, ?_⟩
      · rw [← this]; exact add b hb
      · rw [← this]; exact set_same hb
  · exact h.elim

theorem exIxF_exIx {E : Env} (hM : EMono E) {ops : Array Oper} : ∀ (l : List Nat) (kn : Kn) (s : List V) (σ : H) (K : List V → H → Prop), KnOk ops kn s → exIxF E ops l kn s σ K → exIx E ops l s σ K
  | [], kn, s, σ, K, hk, h => h
  | i :: l, kn, s, σ, K, hk, h => by
    simp only [exIxF] at h
    simp only [exIx]
    cases ho : ops[i]? with
    | none =>
      rw [ho] at h
      unfold stepX
      rw [ho]
      exact exIxF_exIx hM l kn s σ K hk h
    | some o =>
      rw [ho] at h
      rw [stepX_iff ho]
      simp only at h
      have yes : ∀ kn', KnOk ops kn' s → (opX E s σ o fun v σ' => exIxF E ops l (forget ops o.dst kn') (putS s o.dst v) σ' K) → opX E s σ o fun v σ' => exIx E ops l (putS s o.dst v) σ' K :=
        fun kn' hk' hx => opX_mono hM (fun v σ' hh => exIxF_exIx hM l _ _ _ _ (hk'.forget o.dst v) hh) hx
      have no : ∀ kn', KnOk ops kn' s → exIxF E ops l (passed i o.dst s (forget ops o.dst kn')) (putS s o.dst undefV) σ K → exIx E ops l (putS s o.dst undefV) σ K :=
        fun kn' hk' hx => exIxF_exIx hM l _ _ _ _ (KnOk.passed ho (hk'.forget o.dst undefV)) hx
      cases hg : o.guard with
      | none =>
        rw [hg] at h
        simp only at h
        exact .inl ⟨by simp [gdB, hg], yes kn hk h⟩
      | some p =>
        obtain ⟨j, want⟩ := p
        rw [hg] at h
        simp only at h
        split at h
        · rename_i b hl
          have hgb := known_gdB hg hk hl
          split at h
          · rename_i hb; simp only [hb] at hgb; exact .inl ⟨hgb, yes kn hk h⟩
          · rename_i hb; simp only [hb] at hgb; exact .inr ⟨hgb, no kn hk h⟩
        · rename_i hl
          exact .inr ⟨known_gdB hg hk hl, no kn hk h⟩
        · split at h
          · rename_i t w2 hs
            rcases gd_known hg hk hs h with ⟨g1, g2, g3, g4⟩ | ⟨g1, g2, g3, g4⟩
            · rw [g4] at g2; exact .inl ⟨g1, yes _ g3 g2⟩
            · rw [g4] at g2; exact .inr ⟨g1, no _ g3 g2⟩
          · exact h.elim

/-- One order of a region whose order is drawn: what is known of guards is used. -/
def dRunF (E : Env) (ops : Array Oper) (ms : List Nat) : List Nat → Kn → List (Nat × List V) → List V → H → (List V → H → Prop) → Prop
  | [], _, _, s, σ, K => K s σ
  | i :: l, kn, mem, s, σ, K =>
    match ops[i]? with
    | none => False
    | some o =>
      let yes (s : List V) (kn : Kn) : Prop := match isEff E.C.P ops i with
        | true => opX E s σ o fun v σ' => looks E.C ops ms i σ σ' (dRunF E ops ms l (forget ops o.dst kn) mem (putS s o.dst v) σ' K) mem
        | false => opX E s σ o fun v _ => dRunF E ops ms l (forget ops o.dst kn) (match hrd E.C o.op with | true => (i, s) :: mem | false => mem) (putS s o.dst v) σ K
      let no (s : List V) (kn : Kn) : Prop := dRunF E ops ms l (passed i o.dst s (forget ops o.dst kn)) mem (putS s o.dst undefV) σ K
      match o.guard with
      | none => yes s kn
      | some (j, want) => match lookKn kn j with
        | some (some b) => match b == want with
          | true => yes s kn
          | false => no s kn
        | some none => no s kn
        | none => match guardSlot ops o with
          | some (t, _) => gdF s[t]? want (yes (s.set t (.bool want)) ((j, some want) :: kn)) (no (s.set t (.bool (!want))) ((j, some (!want)) :: kn))
          | none => False

theorem looks_mono {C : Ctx} {ops : Array Oper} {ms : List Nat} {i : Nat} {σ σ' : H} {A B : Prop} (h : A → B) : ∀ {mem : List (Nat × List V)}, looks C ops ms i σ σ' A mem → looks C ops ms i σ σ' B mem
  | [], hl => h hl
  | (j, sj) :: mem, hl => by
    simp only [looks] at hl ⊢
    split at hl
    · exact looks_mono h hl
    · split at hl
      · exact ⟨hl.1, looks_mono h hl.2⟩
      · exact hl.elim

theorem dRun_of {E : Env} {ops : Array Oper} {ms : List Nat} {i : Nat} {l : List Nat} {mem : List (Nat × List V)} {s : List V} {σ : H} {K : List V → H → Prop} {o : Oper} (ho : ops[i]? = some o)
    (h : (gdB ops o s = some true ∧ (match isEff E.C.P ops i with
      | true => opX E s σ o fun v σ' => looks E.C ops ms i σ σ' (dRun E ops ms l mem (putS s o.dst v) σ' K) mem
      | false => opX E s σ o fun v _ => dRun E ops ms l (match hrd E.C o.op with | true => (i, s) :: mem | false => mem) (putS s o.dst v) σ K)) ∨
    (gdB ops o s = some false ∧ dRun E ops ms l mem (putS s o.dst undefV) σ K)) : dRun E ops ms (i :: l) mem s σ K := by
  simp only [dRun, ho]
  unfold gdB at h
  cases hg : o.guard with
  | none =>
    rw [hg] at h
    simp only at h ⊢
    rcases h with h | h
    · exact h.2
    · simp at h
  | some p =>
    rw [hg] at h
    simp only at h ⊢
    cases hs : guardSlot ops o with
    | none => rw [hs] at h; simp at h
    | some q =>
      obtain ⟨t, want⟩ := q
      rw [hs] at h
      simp only [gd] at h ⊢
      cases hv : s[t]? with
      | none => rw [hv] at h; simp at h
      | some v =>
        rw [hv] at h
        cases v <;> simp only [reduceCtorEq, false_and, or_self, Option.some.injEq, decide_eq_true_eq, decide_eq_false_iff_not, Bool.false_eq_true, true_and, false_or] at h ⊢
        · rename_i b
          by_cases hb : b = want
          · rw [if_pos hb]
            rcases h with h | h
            · exact h.2
            · exact absurd hb h.1
          · rw [if_neg hb]
            rcases h with h | h
            · exact absurd h.1 hb
            · exact h.2
        · exact h

theorem dRunF_dRun {E : Env} (hM : EMono E) {ops : Array Oper} {ms : List Nat} : ∀ (l : List Nat) (kn : Kn) (mem : List (Nat × List V)) (s : List V) (σ : H) (K : List V → H → Prop), KnOk ops kn s → dRunF E ops ms l kn mem s σ K → dRun E ops ms l mem s σ K
  | [], kn, mem, s, σ, K, hk, h => h
  | i :: l, kn, mem, s, σ, K, hk, h => by
    simp only [dRunF] at h
    cases ho : ops[i]? with
    | none => rw [ho] at h; exact h.elim
    | some o =>
      rw [ho] at h
      simp only at h
      refine dRun_of ho ?_
      have yes : ∀ kn', KnOk ops kn' s → (match isEff E.C.P ops i with
        | true => opX E s σ o fun v σ' => looks E.C ops ms i σ σ' (dRunF E ops ms l (forget ops o.dst kn') mem (putS s o.dst v) σ' K) mem
        | false => opX E s σ o fun v _ => dRunF E ops ms l (forget ops o.dst kn') (match hrd E.C o.op with | true => (i, s) :: mem | false => mem) (putS s o.dst v) σ K) →
        (match isEff E.C.P ops i with
        | true => opX E s σ o fun v σ' => looks E.C ops ms i σ σ' (dRun E ops ms l mem (putS s o.dst v) σ' K) mem
        | false => opX E s σ o fun v _ => dRun E ops ms l (match hrd E.C o.op with | true => (i, s) :: mem | false => mem) (putS s o.dst v) σ K) := by
        intro kn' hk' hx
        split at hx
        · exact opX_mono hM (fun v σ' hh => looks_mono (fun hh => dRunF_dRun hM l _ _ _ _ _ (hk'.forget o.dst v) hh) hh) hx
        · exact opX_mono hM (fun v σ' hh => dRunF_dRun hM l _ _ _ _ _ (hk'.forget o.dst v) hh) hx
      have no : ∀ kn', KnOk ops kn' s → dRunF E ops ms l (passed i o.dst s (forget ops o.dst kn')) mem (putS s o.dst undefV) σ K → dRun E ops ms l mem (putS s o.dst undefV) σ K :=
        fun kn' hk' hx => dRunF_dRun hM l _ _ _ _ _ (KnOk.passed ho (hk'.forget o.dst undefV)) hx
      cases hg : o.guard with
      | none =>
        rw [hg] at h
        simp only at h
        exact .inl ⟨by simp [gdB, hg], yes kn hk h⟩
      | some p =>
        obtain ⟨j, want⟩ := p
        rw [hg] at h
        simp only at h
        split at h
        · rename_i b hl
          have hgb := known_gdB hg hk hl
          split at h
          · rename_i hb; simp only [hb] at hgb; exact .inl ⟨hgb, yes kn hk h⟩
          · rename_i hb; simp only [hb] at hgb; exact .inr ⟨hgb, no kn hk h⟩
        · rename_i hl
          exact .inr ⟨known_gdB hg hk hl, no kn hk h⟩
        · split at h
          · rename_i t w2 hs
            rcases gd_known hg hk hs h with ⟨g1, g2, g3, g4⟩ | ⟨g1, g2, g3, g4⟩
            · rw [g4] at g2; exact .inl ⟨g1, yes _ g3 g2⟩
            · rw [g4] at g2; exact .inr ⟨g1, no _ g3 g2⟩
          · exact h.elim

theorem KnOk.nil {ops : Array Oper} {s : List V} : KnOk ops [] s := fun j r h => by simp at h

end Go.Am
