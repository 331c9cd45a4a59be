/-
  AM: the check of an order by masks: the same, faster for the kernel. (Lemmas alone; no program.)
-/
import Derived.Test.YtaolbokpeafejaaGreatDoorAmDraw4
set_option linter.unusedVariables false
set_option linter.unusedSimpArgs false
namespace Go.Am
open Go Go.RowKit

def bitN (i : Nat) : Nat := 1 <<< i

theorem testBit_bitN (i j : Nat) : (bitN i).testBit j = decide (i = j) := by
  unfold bitN
  rw [Nat.one_shiftLeft]
  exact testBit_pow i j

def okOrdF (P : Program) (ops : Array Oper) (ms : List Nat) : Nat → List Nat → Option Nat
  | d, [] => some d
  | d, i :: l => match ops[i]? with
    | none => none
    | some o => match (o.after.toList.all fun e => match Region.binds .any e with
        | true => match Nat.blt e.on i with
          | true => d.testBit e.on
          | false => false
        | false => true) with
      | true => match d.testBit i with
        | true => none
        | false => match isEff P ops i with
          | true => match l.all fun j => anc ms i j with
            | true => okOrdF P ops ms (d ||| bitN i) l
            | false => none
          | false => okOrdF P ops ms (d ||| bitN i) l
      | false => none

theorem okOrdF_ok {P : Program} {ops : Array Oper} {ms : List Nat} : ∀ (l : List Nat) (d d' : Nat) (done : List Nat), (∀ i, d.testBit i = done.contains i) → okOrdF P ops ms d l = some d' →
    okOrd P ops ms done l = true ∧ ∀ i, d'.testBit i = (done.contains i || l.contains i)
  | [], d, d', done, hd, h => by
    simp only [okOrdF, Option.some.injEq] at h
    subst h
    exact ⟨rfl, fun i => by simp [hd]⟩
  | i :: l, d, d', done, hd, h => by
    simp only [okOrdF] at h
    split at h
    · cases h
    · rename_i o ho
      split at h
      · rename_i hed
        split at h
        · cases h
        · rename_i hdi
          have hnext : ∀ j, (d ||| bitN i).testBit j = (i :: done).contains j := by
            intro j
            rw [Nat.testBit_or, testBit_bitN, hd, List.contains_cons]
            by_cases e : i = j
            · subst e; simp
            · have : (j == i) = false := by simp; exact fun e' => e e'.symm
              rw [this]; simp [e]
          have key : (!isEff P ops i || l.all fun j => anc ms i j) = true ∧ okOrdF P ops ms (d ||| bitN i) l = some d' := by
            split at h
            · rename_i he
              split at h
              · rename_i ha; exact ⟨by rw [ha]; simp, h⟩
              · cases h
            · rename_i he; exact ⟨by rw [he]; rfl, h⟩
          obtain ⟨h1, h2⟩ := okOrdF_ok l _ d' (i :: done) hnext key.2
          constructor
          · simp only [okOrd, ho, Bool.and_eq_true]
            refine ⟨⟨⟨?_, ?_⟩, key.1⟩, h1⟩
            · rw [List.all_eq_true] at hed ⊢
              intro e hm
              have := hed e hm
              simp only [Bool.or_eq_true, Bool.not_eq_true', Bool.and_eq_true, decide_eq_true_eq]
              split at this
              · rename_i hb
                right
                split at this
                · rename_i hlt
                  exact ⟨by simpa using hlt, by rw [← hd]; exact this⟩
                · cases this
              · rename_i hb; left; exact hb
            · rw [← hd, hdi]; rfl
          · intro j
            rw [h2 j]
            simp only [List.contains_cons]
            cases (j == i) <;> cases done.contains j <;> cases l.contains j <;> rfl
      · cases h

/-- Which operations write a slot. -/
def wm (t : Tmp) : List Oper → Nat → Nat
  | [], _ => 0
  | o :: os, i => match o.dst with
    | some u => match Nat.beq u t with
      | true => bitN i ||| wm t os (i + 1)
      | false => wm t os (i + 1)
    | none => wm t os (i + 1)

theorem wm_bit {t : Tmp} : ∀ (os : List Oper) (i k : Nat) (o : Oper), os[k]? = some o → o.dst = some t → (wm t os i).testBit (i + k) = true
  | [], i, k, o, h, _ => by simp at h
  | o' :: os, i, k, o, h, hd => by
    simp only [wm]
    cases k with
    | zero =>
      simp only [List.getElem?_cons_zero, Option.some.injEq] at h
      subst h
      rw [hd]
      simp only
      have : Nat.beq t t = true := by simp
      rw [this]
      simp [Nat.testBit_or, testBit_bitN]
    | succ k =>
      rw [List.getElem?_cons_succ] at h
      have ih := wm_bit os (i + 1) k o h hd
      rw [show i + 1 + k = i + (k + 1) by omega] at ih
      split
      · split
        · rw [Nat.testBit_or, ih]; simp
        · exact ih
      · exact ih

/-- Which operations stand behind one. -/
def dm (ms : List Nat) (j : Nat) : Nat → Nat → Nat
  | _, 0 => 0
  | k, f + 1 => match anc ms j k with
    | true => bitN k ||| dm ms j (k + 1) f
    | false => dm ms j (k + 1) f

theorem dm_bit {ms : List Nat} {j : Nat} : ∀ (f k i : Nat), (dm ms j k f).testBit i = true → k ≤ i ∧ anc ms j i = true
  | 0, k, i, h => by simp [dm] at h
  | f + 1, k, i, h => by
    simp only [dm] at h
    split at h
    · rename_i ha
      rw [Nat.testBit_or, Bool.or_eq_true] at h
      rcases h with h | h
      · rw [testBit_bitN, decide_eq_true_eq] at h; subst h; exact ⟨Nat.le_refl _, ha⟩
      · have := dm_bit f (k + 1) i h; exact ⟨by omega, this.2⟩
    · have := dm_bit f (k + 1) i h; exact ⟨by omega, this.2⟩

def okm (ms : List Nat) (n j : Nat) : Nat := bitN j ||| ((ms.getD j 0) % bitN j ||| dm ms j (j + 1) (n - (j + 1)))

def indGo (ops : Array Oper) (ms : List Nat) (n : Nat) : List Oper → Nat → Bool
  | [], _ => true
  | o :: os, j => match (namesOf ops o).all fun t => Nat.beq (wm t ops.toList 0 &&& okm ms n j) (wm t ops.toList 0) with
    | true => indGo ops ms n os (j + 1)
    | false => false

theorem indGo_all {ops : Array Oper} {ms : List Nat} {n : Nat} : ∀ (os : List Oper) (j : Nat), indGo ops ms n os j = true → ∀ (k : Nat) (o : Oper), os[k]? = some o → ∀ t, t ∈ namesOf ops o → wm t ops.toList 0 &&& okm ms n (j + k) = wm t ops.toList 0
  | [], j, h, k, o, hk => by simp at hk
  | o' :: os, j, h, k, o, hk => by
    simp only [indGo] at h
    split at h
    · rename_i ha
      cases k with
      | zero =>
        simp only [List.getElem?_cons_zero, Option.some.injEq] at hk
        subst hk
        intro t ht
        rw [List.all_eq_true] at ha
        exact Nat.eq_of_beq_eq_true (ha t ht)
      | succ k =>
        rw [List.getElem?_cons_succ] at hk
        have := indGo_all os (j + 1) h k o hk
        rw [show j + 1 + k = j + (k + 1) by omega] at this
        exact this
    · cases h

theorem indOk_of {ops : Array Oper} {ms : List Nat} (h : indGo ops ms ops.size ops.toList 0 = true) : indOk ops ms = true := by
  unfold indOk
  rw [List.all_eq_true]
  intro j hj
  cases ho : ops[j]? with
  | none => rfl
  | some o =>
    simp only
    rw [List.all_eq_true]
    intro t ht
    rw [List.all_eq_true]
    intro i hi
    simp only [Bool.or_eq_true, Bool.not_eq_true', beq_iff_eq, beq_eq_false_iff_ne]
    by_cases hij : i = j
    · exact .inl (.inl hij)
    · by_cases hd : dstOf ops i = some t
      · right
        have hw := indGo_all ops.toList 0 h j o (by simpa using ho) t ht
        rw [Nat.zero_add] at hw
        unfold dstOf at hd
        cases hoi : ops[i]? with
        | none => rw [hoi] at hd; cases hd
        | some oi =>
          rw [hoi] at hd
          have hb := wm_bit (t := t) ops.toList 0 i oi (by simpa using hoi) hd
          rw [Nat.zero_add] at hb
          rw [← hw, Nat.testBit_and, Bool.and_eq_true] at hb
          have hok := hb.2
          unfold okm at hok
          rw [Nat.testBit_or, Nat.testBit_or, Bool.or_eq_true, Bool.or_eq_true, testBit_bitN, decide_eq_true_eq] at hok
          rcases hok with h1 | h1 | h1
          · exact absurd h1.symm hij
          · unfold bitN at h1
            rw [Nat.one_shiftLeft, Nat.testBit_mod_two_pow, Bool.and_eq_true, decide_eq_true_eq] at h1
            rw [Nat.min_eq_left (by omega), Nat.max_eq_right (by omega)]
            exact h1.2
          · have h2 := dm_bit _ _ _ h1
            rw [Nat.min_eq_right (by omega), Nat.max_eq_left (by omega)]
            exact h2.2
      · exact .inl (.inr hd)

def dOkF (P : Program) (ops : Array Oper) (ms : List Nat) (ord : List Nat) : Bool :=
  match okOrdF P ops ms 0 ord with
  | some d => match Nat.beq d (bitN ops.size - 1) with
    | true => indGo ops ms ops.size ops.toList 0
    | false => false
  | none => false

theorem dOkF_ok {P : Program} {ops : Array Oper} {ms : List Nat} {ord : List Nat} (h : dOkF P ops ms ord = true) : dOk P ops ms ord = true := by
  unfold dOkF at h
  split at h
  · rename_i d hd
    split at h
    · rename_i he
      have he := Nat.eq_of_beq_eq_true he
      obtain ⟨h1, h2⟩ := okOrdF_ok ord 0 d [] (fun i => by simp) hd
      unfold dOk
      simp only [Bool.and_eq_true]
      refine ⟨⟨h1, ?_⟩, indOk_of h⟩
      rw [List.all_eq_true]
      intro i hi
      have := h2 i
      simp only [List.contains_nil, Bool.false_or] at this
      rw [← this, he]
      unfold bitN
      rw [Nat.one_shiftLeft, Nat.testBit_two_pow_sub_one]
      simpa using hi
    · cases h
  · cases h

/-- The order: each read as early as it may be. -/
def canF (ms : List Nat) : List Nat → List Nat → List Nat
  | [], reads => reads
  | e :: es, reads => (reads.filter fun j => match anc ms e j with | true => false | false => true) ++ e :: canF ms es (reads.filter fun j => anc ms e j)

def canonF (P : Program) (ops : Array Oper) (ms : List Nat) : List Nat :=
  canF ms ((List.range ops.size).filter (isEff P ops)) ((List.range ops.size).filter fun i => match isEff P ops i with | true => false | false => true)

end Go.Am
