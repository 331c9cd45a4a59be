/-
  AM: regions whose order is drawn: one order, with looks back, stands for all. (Lemmas alone; no program.)
-/
import Derived.Test.YtaolbokpeafejaaGreatDoorAmCode
set_option linter.unusedVariables false
set_option linter.unusedSimpArgs false
namespace Go.Am
open Go Go.RowKit

/-! ### What hangs on what -/

def Direct (ops : Array Oper) (i j : Nat) : Prop := ∃ o e, ops[j]? = some o ∧ e ∈ o.after.toList ∧ Region.binds .any e = true ∧ e.on = i

inductive Anc (ops : Array Oper) : Nat → Nat → Prop where
  | base {i j} : Direct ops i j → Anc ops i j
  | step {i k j} : Anc ops i k → Direct ops k j → Anc ops i j

def maskE (acc : List Nat) : List Edge → Nat
  | [] => 0
  | e :: es => if Region.binds .any e = true then (maskE acc es ||| 2 ^ e.on) ||| acc.getD e.on 0 else maskE acc es

def masks : List Nat → List Oper → List Nat
  | acc, [] => acc
  | acc, o :: os => masks (acc ++ [maskE acc o.after.toList]) os

theorem testBit_pow (n i : Nat) : (2 ^ n).testBit i = decide (n = i) := Nat.testBit_two_pow

theorem maskE_sound {ops : Array Oper} {acc : List Nat} {j : Nat} {o : Oper} (ho : ops[j]? = some o) (hacc : ∀ (k m i : Nat), acc[k]? = some m → m.testBit i = true → Anc ops i k) :
    ∀ (es : List Edge), (∀ e, e ∈ es → e ∈ o.after.toList) → ∀ i, (maskE acc es).testBit i = true → Anc ops i j
  | [], _, i, h => by simp [maskE] at h
  | e :: es, hs, i, h => by
    have ih := maskE_sound ho hacc es (fun e he => hs e (by simp [he])) i
    simp only [maskE] at h
    split at h
    · rename_i hb
      simp only [Nat.testBit_or, Bool.or_eq_true, testBit_pow, decide_eq_true_eq] at h
      have hd : Direct ops e.on j := ⟨o, e, ho, hs e (by simp), hb, rfl⟩
      rcases h with (h | h) | h
      · exact ih h
      · exact .base (h ▸ hd)
      · cases hm : acc[e.on]? with
        | none => rw [List.getD_eq_getElem?_getD, hm] at h; simp at h
        | some m =>
          rw [List.getD_eq_getElem?_getD, hm] at h
          exact .step (hacc _ _ _ hm h) hd
    · exact ih h

theorem masks_sound {ops : Array Oper} : ∀ (l : List Oper) (acc : List Nat), (∀ (k m i : Nat), acc[k]? = some m → m.testBit i = true → Anc ops i k) → (∀ k o, l[k]? = some o → ops[acc.length + k]? = some o) →
    ∀ (k m i : Nat), (masks acc l)[k]? = some m → m.testBit i = true → Anc ops i k
  | [], acc, h1, _ => h1
  | o :: os, acc, h1, h2 => by
    simp only [masks]
    refine masks_sound os _ ?_ ?_
    · intro k m i hk hi
      rw [List.getElem?_append] at hk
      split at hk
      · exact h1 k m i hk hi
      · rename_i hlt
        have : k = acc.length := by
          have := (List.getElem?_eq_some_iff.1 hk).1
          simp at this; omega
        subst this
        simp at hk
        subst hk
        have ho : ops[acc.length]? = some o := by simpa using h2 0 o rfl
        exact maskE_sound ho h1 o.after.toList (fun e he => he) i hi
    · intro k o' hk
      have := h2 (k + 1) o' (by simpa using hk)
      rw [← this]; simp; congr 1; omega

def msk (ops : Array Oper) : List Nat := masks [] ops.toList
def anc (ms : List Nat) (i j : Nat) : Bool := (ms.getD j 0).testBit i

theorem anc_sound {ops : Array Oper} {i j : Nat} (h : anc (msk ops) i j = true) : Anc ops i j := by
  unfold anc at h
  cases hm : (msk ops)[j]? with
  | none => rw [List.getD_eq_getElem?_getD, hm] at h; simp at h
  | some m =>
    rw [List.getD_eq_getElem?_getD, hm] at h
    exact masks_sound ops.toList [] (fun k m i hk => by simp at hk) (fun k o hk => by simpa using hk) j m i hm h

/-! ### Names, kinds -/

def opTmps (o : Op) : List Tmp := o.operands.toList.filterMap fun | .tmp t => some t | _ => none

def namesOf (ops : Array Oper) (o : Oper) : List Tmp :=
  o.dst.toList ++ opTmps o.op ++ (match guardSlot ops o with | some (t, _) => [t] | none => [])

def isEff (P : Program) (ops : Array Oper) (i : Nat) : Bool :=
  match ops[i]? with
  | some o => match opK P o.op with
    | .mv | .rd => false
    | _ => true
  | none => false

/-- Does it read memory? -/
def hrd (C : Ctx) : Op → Bool
  | .load .. => true
  | .convert a b _ => match cvK C.P a b with
    | some .bstr => true
    | _ => false
  | .lookup .. => true
  | .call c => match c.callee with
    | .builtin .len => lnmK C.P c.argTypes
    | _ => false
  | _ => false

theorem opR_heap {C : Ctx} {s : List V} {σ σ' : H} {op : Op} (h : hrd C op = false) : opR C s σ op = opR C s σ' op := by
  unfold opR
  cases op <;> first | rfl | skip
  · simp [hrd] at h
  · rename_i a b x
    simp only [opR0]
    simp only [hrd] at h
    cases hk : cvK C.P a b with
    | none => rfl
    | some k =>
      cases hv : evO s x with
      | none => rfl
      | some v =>
        cases k with
        | bstr => simp [hk] at h
        | int k => cases v <;> rfl
        | flt k => cases v <;> rfl
        | id => cases v <;> rfl
  · simp [hrd] at h
  · rename_i c
    simp only [hrd] at h
    simp only
    split
    · rename_i hc
      rw [hc] at h
      simp only at h
      rw [h]
      rfl
    · rfl

theorem evO_congr {s s' : List V} {o : Operand} (h : ∀ t, o = .tmp t → s[t]? = s'[t]?) : evO s o = evO s' o := by
  cases o <;> simp only [evO]
  exact h _ rfl

theorem evOs_congr {s s' : List V} : ∀ {os : List Operand}, (∀ t, Operand.tmp t ∈ os → s[t]? = s'[t]?) → evOs s os = evOs s' os
  | [], _ => rfl
  | o :: os, h => by
    simp only [evOs]
    rw [evO_congr (fun t e => h t (by simp [e])), evOs_congr (fun t ht => h t (by simp [ht]))]

theorem evPs_congr {s s' : List V} : ∀ {ps : List (Nat × Operand)}, (∀ t, Operand.tmp t ∈ ps.map (·.2) → s[t]? = s'[t]?) → evPs s ps = evPs s' ps
  | [], _ => rfl
  | (i, o) :: ps, h => by
    simp only [evPs]
    rw [evO_congr (fun t e => h t (by simp [e])), evPs_congr (fun t ht => h t (by simp at ht ⊢; exact .inr ht))]

theorem evOpt_congr {s s' : List V} {o : Option Operand} (h : ∀ t, o = some (.tmp t) → s[t]? = s'[t]?) : evOpt s o = evOpt s' o := by
  cases o <;> simp only [evOpt]
  rw [evO_congr (fun t e => h t (by rw [e]))]

/-- Do two rows of slots agree where an operation looks? -/
def Agree (op : Op) (s s' : List V) : Prop := ∀ t, t ∈ opTmps op → s[t]? = s'[t]?

theorem Agree.of {op : Op} {s s' : List V} (h : Agree op s s') {t : Tmp} (ht : Operand.tmp t ∈ op.operands.toList) : s[t]? = s'[t]? :=
  h t (List.mem_filterMap.2 ⟨_, ht, rfl⟩)

theorem opR_congr {C : Ctx} {s s' : List V} {σ : H} {op : Op} (h : Agree op s s') : opR C s σ op = opR C s' σ op := by
  have hh := fun t => @Agree.of op s s' h t
  unfold opR opR0
  cases op <;> simp only [Op.operands] at hh <;> try rfl
  case move x => exact evO_congr (fun t e => hh t (by simp [e]))
  case assign x => exact evO_congr (fun t e => hh t (by simp [e]))
  case pick c a b =>
    simp only
    rw [evO_congr (o := c) (fun t e => hh t (by simp [e])), evO_congr (o := a) (fun t e => hh t (by simp [e])), evO_congr (o := b) (fun t e => hh t (by simp [e]))]
  case build t ps =>
    simp only
    rw [evPs_congr (fun t ht => hh t (by simpa using ht))]
  case load t x => simp only; rw [evO_congr (o := x) (fun t e => hh t (by simp [e]))]
  case nilCheck x => simp only; rw [evO_congr (o := x) (fun t e => hh t (by simp [e]))]
  case binOp op t x y yt =>
    simp only
    rw [evO_congr (o := x) (fun t e => hh t (by simp [e])), evO_congr (o := y) (fun t e => hh t (by simp [e]))]
  case unOp op t x => simp only; rw [evO_congr (o := x) (fun t e => hh t (by simp [e]))]
  case convert a b x => simp only; rw [evO_congr (o := x) (fun t e => hh t (by simp [e]))]
  case makeInterface t x => simp only; rw [evO_congr (o := x) (fun t e => hh t (by simp [e]))]
  case makeFunc fn fs cs =>
    simp only
    rw [evOs_congr (fun t ht => hh t (by simp at ht ⊢; exact .inl ht)), evOs_congr (os := cs.toList) (fun t ht => hh t (by simp at ht ⊢; exact .inr ht))]
  case slice t x lo hi mx =>
    simp only
    rw [evO_congr (o := x) (fun t e => hh t (by simp [e])), evOpt_congr (o := lo) (fun t e => hh t (by simp [e])), evOpt_congr (o := hi) (fun t e => hh t (by simp [e])), evOpt_congr (o := mx) (fun t e => hh t (by simp [e]))]
  case fieldAddr t x i => simp only; rw [evO_congr (o := x) (fun t e => hh t (by simp [e]))]
  case field t x i => simp only; rw [evO_congr (o := x) (fun t e => hh t (by simp [e]))]
  case indexAddr t x i =>
    simp only
    rw [evO_congr (o := x) (fun t e => hh t (by simp [e])), evO_congr (o := i) (fun t e => hh t (by simp [e]))]
  case index t x i =>
    simp only
    rw [evO_congr (o := x) (fun t e => hh t (by simp [e])), evO_congr (o := i) (fun t e => hh t (by simp [e]))]
  case extract x i => simp only; rw [evO_congr (o := x) (fun t e => hh t (by simp [e]))]
  case call c =>
    simp only
    cases hc : c.callee with
    | builtin b =>
      simp only
      rw [evOs_congr (fun t ht => hh t (by simp [Call.operands, hc]; simpa using ht))]
    | _ => rfl
  case lookup t x i ok =>
    simp only
    rw [evO_congr (o := x) (fun t e => hh t (by simp [e])), evO_congr (o := i) (fun t e => hh t (by simp [e]))]

theorem opX_congr {E : Env} {s s' : List V} {σ : H} {o : Oper} {K : V → H → Prop} (h : Agree o.op s s') : opX E s σ o K = opX E s' σ o K := by
  have hr := opR_congr (C := E.C) (σ := σ) h
  have hh := fun t => @Agree.of o.op s s' h t
  unfold opX
  rw [hr]
  split
  · rfl
  · unfold fzX
    generalize o.op = op at hh
    cases op <;> simp only [Op.operands] at hh <;> try rfl
    case convert a b x =>
      try simp only
      rw [evO_congr (o := x) (fun t e => hh t (by simp [e]))]
  · rfl
  · unfold opWX
    generalize o.op = op at hh
    cases op <;> simp only [Op.operands] at hh <;> try rfl
    case box e x => simp only; rw [evO_congr (o := x) (fun t e => hh t (by simp [e]))]
    case buildSlice t n ps => simp only; rw [evPs_congr (fun t ht => hh t (by simpa using ht))]
    case store t a v =>
      simp only
      rw [evO_congr (o := a) (fun t e => hh t (by simp [e])), evO_congr (o := v) (fun t e => hh t (by simp [e]))]
    case makeSlice t l c =>
      simp only
      rw [evO_congr (o := l) (fun t e => hh t (by simp [e])), evO_congr (o := c) (fun t e => hh t (by simp [e]))]
    case call c =>
      try simp only
      cases hc : c.callee with
      | builtin b =>
        try simp only
        rw [evOs_congr (fun t ht => hh t (by simp [Call.operands, hc]; simpa using ht))]
      | _ => rfl
    case convert a b x => simp only; rw [evO_congr (o := x) (fun t e => hh t (by simp [e]))]
    case insert t m k x =>
      simp only
      rw [evO_congr (o := m) (fun t e => hh t (by simp [e])), evO_congr (o := k) (fun t e => hh t (by simp [e])), evO_congr (o := x) (fun t e => hh t (by simp [e]))]
    case mapUpdate t m k x =>
      simp only
      rw [evO_congr (o := m) (fun t e => hh t (by simp [e])), evO_congr (o := k) (fun t e => hh t (by simp [e])), evO_congr (o := x) (fun t e => hh t (by simp [e]))]
    case range t x => simp only; rw [evO_congr (o := x) (fun t e => hh t (by simp [e]))]
    case next it b => simp only; rw [evO_congr (o := it) (fun t e => hh t (by simp [e]))]
  · generalize o.op = op at hh
    cases op <;> simp only [Op.operands] at hh <;> try rfl
    case call c =>
      try simp only
      cases hc : c.callee with
      | value f =>
        try simp only
        rw [evO_congr (o := f) (fun t e => hh t (by simp [Call.operands, hc, e])), evOs_congr (fun t ht => hh t (by simp [Call.operands, hc]; right; simpa using ht))]
      | _ => rfl
  · rfl

end Go.Am
