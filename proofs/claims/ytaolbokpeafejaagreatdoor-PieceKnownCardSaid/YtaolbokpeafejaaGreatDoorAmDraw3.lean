/-
  AM: one order, with looks back, stands for all orders: the proof. (Lemmas alone; no program.)
-/
import Derived.Test.YtaolbokpeafejaaGreatDoorAmDraw2
set_option linter.unusedVariables false
set_option linter.unusedSimpArgs false
namespace Go.Am
open Go Go.RowKit

/-! ### Slots, by the last that wrote -/

def lastW (ops : Array Oper) (S : Nat → Bool) (t : Tmp) : Nat → Option Nat
  | 0 => none
  | k + 1 => if S k = true ∧ dstOf ops k = some t then some k else lastW ops S t k

theorem lastW_congr {ops : Array Oper} {S S' : Nat → Bool} {t : Tmp} : ∀ n, (∀ i, i < n → dstOf ops i = some t → S i = S' i) → lastW ops S t n = lastW ops S' t n
  | 0, _ => rfl
  | n + 1, h => by
    simp only [lastW]
    by_cases hd : dstOf ops n = some t
    · rw [h n (by omega) hd, lastW_congr n (fun i hi => h i (by omega))]
    · rw [if_neg (by simp [hd]), if_neg (by simp [hd]), lastW_congr n (fun i hi => h i (by omega))]

def addS (S : Nat → Bool) (j : Nat) : Nat → Bool := fun i => i == j || S i

theorem lastW_add {ops : Array Oper} {S : Nat → Bool} {t : Tmp} {j : Nat} (hd : dstOf ops j = some t) : ∀ n, j < n → (∀ i, S i = true → dstOf ops i = some t → i < j) → lastW ops (addS S j) t n = some j
  | 0, h, _ => by omega
  | n + 1, h, hs => by
    simp only [lastW]
    by_cases hn : n = j
    · subst hn; rw [if_pos ⟨by simp [addS], hd⟩]
    · rw [if_neg, lastW_add hd n (by omega) hs]
      rintro ⟨h1, h2⟩
      simp only [addS, Bool.or_eq_true, beq_iff_eq] at h1
      rcases h1 with h1 | h1
      · exact hn h1
      · have := hs n h1 h2; omega

theorem lastW_mem {ops : Array Oper} {S : Nat → Bool} {t : Tmp} {k : Nat} : ∀ n, lastW ops S t n = some k → S k = true ∧ dstOf ops k = some t
  | 0, h => by simp [lastW] at h
  | n + 1, h => by
    simp only [lastW] at h
    split at h
    · rename_i hh; cases h; exact hh
    · exact lastW_mem n h

def SlotsAre (ops : Array Oper) (s0 : List V) (val : Nat → V) (S : Nat → Bool) (s : List V) : Prop :=
  s.length = s0.length ∧ ∀ t, t < s0.length → s[t]? = match lastW ops S t ops.size with
    | some i => some (val i)
    | none => s0[t]?

theorem SlotsAre.start {ops : Array Oper} {s0 : List V} {val : Nat → V} : SlotsAre ops s0 val (fun _ => false) s0 := by
  refine ⟨rfl, fun t ht => ?_⟩
  have : ∀ n, lastW ops (fun _ => false) t n = none := by
    intro n
    induction n with
    | zero => rfl
    | succ n ih => simp [lastW, ih]
  rw [this]

theorem SlotsAre.val {ops : Array Oper} {s0 s : List V} {val val' : Nat → V} {S : Nat → Bool} (h : SlotsAre ops s0 val S s) (hv : ∀ i, S i = true → val' i = val i) : SlotsAre ops s0 val' S s := by
  refine ⟨h.1, fun t ht => ?_⟩
  rw [h.2 t ht]
  cases hl : lastW ops S t ops.size with
  | none => rfl
  | some k => simp only; rw [hv k (lastW_mem _ hl).1]

theorem SlotsAre.add {ops : Array Oper} {s0 s : List V} {val : Nat → V} {S : Nat → Bool} {j : Nat} {o : Oper} (h : SlotsAre ops s0 val S s) (ho : ops[j]? = some o) (hj : j < ops.size)
    (hlt : ∀ t i, o.dst = some t → S i = true → dstOf ops i = some t → i < j) : SlotsAre ops s0 val (addS S j) (putS s o.dst (val j)) := by
  have hdst : dstOf ops j = o.dst := by simp [dstOf, ho]
  have other : ∀ t, o.dst ≠ some t → lastW ops (addS S j) t ops.size = lastW ops S t ops.size := by
    intro t ht
    refine lastW_congr _ (fun i _ hi => ?_)
    have : i ≠ j := fun e => ht (by rw [← hdst, ← e]; exact hi)
    simp [addS, this]
  cases hd : o.dst with
  | none =>
    refine ⟨h.1, fun t ht => ?_⟩
    rw [other t (by simp [hd])]
    exact h.2 t ht
  | some d =>
    refine ⟨by simp [putS, h.1], fun t ht => ?_⟩
    simp only [putS, List.getElem?_set]
    by_cases hdt : d = t
    · subst hdt
      rw [lastW_add (by rw [hdst, hd]) _ hj (fun i h1 h2 => hlt d i hd h1 h2)]
      simp [h.1, ht]
    · rw [other t (by rw [hd]; simp [hdt])]
      simp only [hdt, if_false]
      exact h.2 t ht

/-! ### Sets that are closed -/

def DC (ops : Array Oper) (S : Nat → Bool) : Prop := ∀ i j, Direct ops i j → S j = true → S i = true

theorem DC.anc {ops : Array Oper} {S : Nat → Bool} (h : DC ops S) {i j : Nat} (ha : Anc ops i j) : S j = true → S i = true := by
  induction ha with
  | base hd => exact h _ _ hd
  | step _ hd ih => exact fun hj => ih (h _ _ hd hj)

theorem anc_of_preds {ops : Array Oper} {S : Nat → Bool} (h : DC ops S) {i j : Nat} (ha : Anc ops i j) (hp : ∀ k, Direct ops k j → S k = true) : S i = true := by
  cases ha with
  | base hd => exact hp _ hd
  | step ha hd => exact h.anc ha (hp _ hd)

theorem DC.add {ops : Array Oper} {S : Nat → Bool} (h : DC ops S) {j : Nat} (hp : ∀ k, Direct ops k j → S k = true) : DC ops (addS S j) := by
  intro i k hd hk
  simp only [addS, Bool.or_eq_true, beq_iff_eq] at hk ⊢
  rcases hk with rfl | hk
  · exact .inr (hp _ hd)
  · exact .inr (h _ _ hd hk)

/-- What the check of names says. -/
def Ind (ops : Array Oper) : Prop := ∀ j o, ops[j]? = some o → ∀ t, t ∈ namesOf ops o → ∀ i, i < ops.size → i ≠ j → dstOf ops i = some t → (i < j → Anc ops i j) ∧ (j < i → Anc ops j i)

theorem ind_of {ops : Array Oper} (h : indOk ops (msk ops) = true) : Ind ops := by
  intro j o ho t ht i hi hij hd
  have hj : j < ops.size := by
    rcases Nat.lt_or_ge j ops.size with hh | hh
    · exact hh
    · rw [Array.getElem?_eq_none hh] at ho; cases ho
  unfold indOk at h
  have h1 := List.all_eq_true.1 h j (List.mem_range.2 hj)
  rw [ho] at h1
  have h2 := List.all_eq_true.1 (List.all_eq_true.1 h1 t ht) i (List.mem_range.2 hi)
  simp only [Bool.or_eq_true, beq_iff_eq, Bool.not_eq_true', hij, false_or] at h2
  rcases h2 with h2 | h2
  · rw [hd] at h2; simp at h2
  · have h3 := anc_sound h2
    refine ⟨fun hlt => ?_, fun hlt => ?_⟩
    · rwa [Nat.min_eq_left (by omega), Nat.max_eq_right (by omega)] at h3
    · rwa [Nat.min_eq_right (by omega), Nat.max_eq_left (by omega)] at h3

theorem dst_name {ops : Array Oper} {o : Oper} {t : Tmp} (h : o.dst = some t) : t ∈ namesOf ops o := by simp [namesOf, h]

/-- Two closed sets that hold all that an operation hangs on, and not it: where it looks the slots are the same. -/
theorem same_names {ops : Array Oper} (hI : Ind ops) {s0 s s' : List V} {val : Nat → V} {S S' : Nat → Bool} {j : Nat} {o : Oper} (ho : ops[j]? = some o)
    (h1 : SlotsAre ops s0 val S s) (h2 : SlotsAre ops s0 val S' s') (d1 : DC ops S) (d2 : DC ops S') (p1 : ∀ k, Direct ops k j → S k = true) (p2 : ∀ k, Direct ops k j → S' k = true) (n1 : S j = false) (n2 : S' j = false)
    {t : Tmp} (ht : t ∈ namesOf ops o) : s[t]? = s'[t]? := by
  rcases Nat.lt_or_ge t s0.length with hl | hl
  · rw [h1.2 t hl, h2.2 t hl]
    rw [lastW_congr (S := S) (S' := S') ops.size]
    intro i hi hd
    by_cases hij : i = j
    · subst hij; rw [n1, n2]
    · obtain ⟨g1, g2⟩ := hI j o ho t ht i hi hij hd
      rcases Nat.lt_or_ge i j with hlt | hge
      · rw [anc_of_preds d1 (g1 hlt) p1, anc_of_preds d2 (g1 hlt) p2]
      · have ha := g2 (by omega)
        have e1 : S i = false := by
          cases e : S i with
          | false => rfl
          | true => rw [d1.anc ha e] at n1; cases n1
        have e2 : S' i = false := by
          cases e : S' i with
          | false => rfl
          | true => rw [d2.anc ha e] at n2; cases n2
        rw [e1, e2]
  · rw [List.getElem?_eq_none (by rw [h1.1]; exact hl), List.getElem?_eq_none (by rw [h2.1]; exact hl)]

theorem gdB_congr {ops : Array Oper} {o : Oper} {s s' : List V} (h : ∀ t, t ∈ namesOf ops o → s[t]? = s'[t]?) : gdB ops o s = gdB ops o s' := by
  unfold gdB
  cases hg : o.guard with
  | none => rfl
  | some p =>
    simp only
    cases hs : guardSlot ops o with
    | none => rfl
    | some q =>
      obtain ⟨t, want⟩ := q
      simp only
      rw [h t (by simp [namesOf, hs])]

theorem agree_of {ops : Array Oper} {o : Oper} {s s' : List V} (h : ∀ t, t ∈ namesOf ops o → s[t]? = s'[t]?) : Agree o.op s s' :=
  fun t ht => h t (by simp [namesOf, ht])

/-- Whoever wrote the same slot ahead came ahead in the text. -/
theorem writers_ahead {ops : Array Oper} (hI : Ind ops) {S : Nat → Bool} {j : Nat} {o : Oper} (ho : ops[j]? = some o) (d : DC ops S) (n : S j = false) (hlt : ∀ i, S i = true → i < ops.size) :
    ∀ t i, o.dst = some t → S i = true → dstOf ops i = some t → i < j := by
  intro t i hd hi hdi
  by_cases hij : i = j
  · subst hij; rw [n] at hi; cases hi
  · rcases Nat.lt_or_ge i j with h | h
    · exact h
    · have := (hI j o ho t (dst_name hd) i (hlt i hi) hij hdi).2 (by omega)
      rw [d.anc this hi] at n; cases n

end Go.Am
