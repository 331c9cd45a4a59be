/-
  AM: one order, with looks back, stands for all orders. (Lemmas alone; no program.)
-/
import Derived.Test.YtaolbokpeafejaaGreatDoorAmDraw
set_option linter.unusedVariables false
set_option linter.unusedSimpArgs false
namespace Go.Am
open Go Go.RowKit

def CallMono (call : Call) : Prop := ∀ (f : FuncId) (args : List V) (σ : H) (K K' : V → H → Prop), (∀ v σ', K v σ' → K' v σ') → call f args σ K → call f args σ K'

structure EMono (E : Env) : Prop where
  call : CallMono E.call
  yield : ∀ (r : Nat) (args : List V) (σ : H) (K K' : V → H → Prop), (∀ v σ', K v σ' → K' v σ') → E.yield r args σ K → E.yield r args σ K'

theorem need_mono {α : Type} {x : Option α} {K K' : α → Prop} (h : ∀ v, K v → K' v) (hk : need x K) : need x K' := by
  obtain ⟨v, h1, h2⟩ := need_elim hk
  exact need_intro v h1 (h v h2)

theorem callV_mono {E : Env} (hM : EMono E) {u : V} {vs : List V} {σ : H} {K K' : V → H → Prop} (h : ∀ v σ', K v σ' → K' v σ') (hk : callV E u vs σ K) : callV E u vs σ K' := by
  unfold callV at hk ⊢
  split at hk
  · split at hk
    · rename_i hf; rw [if_pos hf]; exact hM.call _ _ _ _ _ h hk
    · rename_i hf
      rw [if_neg hf]
      split at hk
      · exact need_mono (fun r hr => h _ _ hr) hk
      · exact hk.elim
  · exact hM.yield _ _ _ _ _ h hk
  · exact hk.elim

theorem opWX_mono {C : Ctx} {s : List V} {σ : H} {op : Op} {K K' : V → H → Prop} (h : ∀ v σ', K v σ' → K' v σ') (hk : opWX C s σ op K) : opWX C s σ op K' := by
  unfold opWX at hk ⊢
  split at hk
  · split at hk
    · exact h _ _ hk
    · exact hk.elim
  · split at hk
    · exact h _ _ hk
    · exact hk.elim
  · split at hk
    · exact need_mono (fun _ g => h _ _ g) hk
    · exact hk.elim
  · split at hk
    · exact need_mono (fun _ g => h _ _ g) hk
    · exact hk.elim
  · split at hk
    · exact need_mono (fun _ g => h _ _ g) hk
    · exact hk.elim
  · split at hk
    · split at hk
      · exact need_mono (fun _ g => h _ _ g) hk
      · exact hk.elim
    · split at hk
      · exact need_mono (fun _ g => h _ _ g) hk
      · exact hk.elim
    · split at hk
      · exact need_mono (fun _ g => h _ _ g) hk
      · exact hk.elim
    · split at hk
      · exact need_mono (fun _ g => h _ _ g) hk
      · exact hk.elim
    · exact hk.elim
  · split at hk
    · unfold s2bX at hk ⊢
      split at hk
      · exact h _ _ hk
      · exact hk.elim
    · exact hk.elim
  · split at hk
    · exact h _ _ hk
    · exact hk.elim
  · split at hk
    · exact need_mono (fun _ g => h _ _ g) hk
    · exact hk.elim
  · split at hk
    · exact need_mono (fun _ g => h _ _ g) hk
    · exact hk.elim
  · split at hk
    · unfold rgX at hk ⊢
      split at hk
      · exact h _ _ hk
      · exact hk.elim
    · exact hk.elim
  · split at hk
    · exact need_mono (fun _ g => h _ _ g) hk
    · exact hk.elim
  · exact hk.elim

theorem opX_mono {E : Env} (hM : EMono E) {s : List V} {σ : H} {o : Oper} {K K' : V → H → Prop} (h : ∀ v σ', K v σ' → K' v σ') (hk : opX E s σ o K) : opX E s σ o K' := by
  unfold opX at hk ⊢
  split at hk
  · split at hk
    · exact h _ _ hk
    · exact hk.elim
  · unfold fzX at hk ⊢
    split at hk
    · split at hk
      · split at hk
        · split at hk
          · unfold frzX at hk ⊢
            split at hk
            · split at hk
              · rename_i hc; rw [if_pos hc]; exact h _ _ hk
              · exact hk.elim
            · exact hk.elim
          · exact hk.elim
        · exact hk.elim
      · exact hk.elim
    · exact hk.elim
  · exact need_mono (fun _ g => h _ _ g) hk
  · exact opWX_mono h hk
  · split at hk
    · split at hk
      · split at hk
        · exact callV_mono hM h hk
        · exact hk.elim
      · exact hk.elim
    · exact hk.elim
  · exact hk.elim

/-- The slot of a guard, as a Bool. -/
def gdB (ops : Array Oper) (o : Oper) (s : List V) : Option Bool :=
  match o.guard with
  | none => some true
  | some _ => match guardSlot ops o with
    | some (t, want) => match s[t]? with
      | some (.bool b) => some (decide (b = want))
      | some (.tuple _) => some false
      | _ => none
    | none => none

theorem stepX_iff {E : Env} {ops : Array Oper} {i : Nat} {o : Oper} {s : List V} {σ : H} {K : List V → H → Prop} (ho : ops[i]? = some o) :
    stepX E ops i s σ K ↔ (gdB ops o s = some true ∧ opX E s σ o (fun v σ' => K (putS s o.dst v) σ')) ∨ (gdB ops o s = some false ∧ K (putS s o.dst undefV) σ) := by
  unfold stepX gdB
  rw [ho]
  simp only
  cases hg : o.guard with
  | none => simp
  | some p =>
    simp only
    cases hs : guardSlot ops o with
    | none => simp
    | some q =>
      obtain ⟨t, want⟩ := q
      simp only [gd]
      cases hv : s[t]? with
      | none => simp
      | some v =>
        cases v <;> simp
        rename_i b
        by_cases hb : b = want <;> simp [hb]

theorem isEff_read {E : Env} {ops : Array Oper} {i : Nat} {o : Oper} (ho : ops[i]? = some o) (h : isEff E.C.P ops i = false) {s : List V} {σ : H} {K : V → H → Prop} :
    opX E s σ o K ↔ ∃ v, opR E.C s σ o.op = some v ∧ K v σ := by
  unfold isEff at h
  rw [ho] at h
  simp only at h
  unfold opX
  cases hk : opK E.C.P o.op <;> simp [hk] at h <;> simp only
  · cases hv : opR E.C s σ o.op <;> simp
  · constructor
    · exact need_elim
    · rintro ⟨v, h1, h2⟩; exact need_intro v h1 h2

/-- The looks back: what was read, and need not have been ahead of this, reads as it did. -/
def looks (C : Ctx) (ops : Array Oper) (ms : List Nat) (i : Nat) (σ σ' : H) (rest : Prop) : List (Nat × List V) → Prop
  | [] => rest
  | (j, sj) :: mem => match anc ms j i with
    | true => looks C ops ms i σ σ' rest mem
    | false => match ops[j]? with
      | some o => opR C sj σ' o.op = opR C sj σ o.op ∧ looks C ops ms i σ σ' rest mem
      | none => False

theorem looks_rest {C : Ctx} {ops : Array Oper} {ms : List Nat} {i : Nat} {σ σ' : H} {rest : Prop} : ∀ {mem : List (Nat × List V)}, looks C ops ms i σ σ' rest mem → rest
  | [], h => h
  | (j, sj) :: mem, h => by
    simp only [looks] at h
    split at h
    · exact looks_rest h
    · split at h
      · exact looks_rest h.2
      · exact h.elim

theorem looks_mem {C : Ctx} {ops : Array Oper} {ms : List Nat} {i : Nat} {σ σ' : H} {rest : Prop} : ∀ {mem : List (Nat × List V)}, looks C ops ms i σ σ' rest mem →
    ∀ j sj o, (j, sj) ∈ mem → anc ms j i = false → ops[j]? = some o → opR C sj σ' o.op = opR C sj σ o.op
  | [], h, j, sj, o, hm, _, _ => by simp at hm
  | (k, sk) :: mem, h, j, sj, o, hm, ha, ho => by
    simp only [looks] at h
    split at h
    · rename_i hk
      simp only [List.mem_cons, Prod.mk.injEq] at hm
      rcases hm with ⟨rfl, rfl⟩ | hm
      · rw [ha] at hk; cases hk
      · exact looks_mem h j sj o hm ha ho
    · split at h
      · rename_i o' ho'
        simp only [List.mem_cons, Prod.mk.injEq] at hm
        rcases hm with ⟨rfl, rfl⟩ | hm
        · rw [ho] at ho'; cases ho'; exact h.1
        · exact looks_mem h.2 j sj o hm ha ho
      · exact h.elim

/-- One order of a region whose order is drawn. -/
def dRun (E : Env) (ops : Array Oper) (ms : List Nat) : List Nat → List (Nat × List V) → List V → H → (List V → H → Prop) → Prop
  | [], _, s, σ, K => K s σ
  | i :: l, mem, s, σ, K =>
    match ops[i]? with
    | none => False
    | some o =>
      match o.guard with
      | none => match isEff E.C.P ops i with
        | true => opX E s σ o fun v σ' => looks E.C ops ms i σ σ' (dRun E ops ms l mem (putS s o.dst v) σ' K) mem
        | false => opX E s σ o fun v _ => dRun E ops ms l (match hrd E.C o.op with | true => (i, s) :: mem | false => mem) (putS s o.dst v) σ K
      | some _ => match guardSlot ops o with
        | none => False
        | some (t, want) => gd s[t]? want (match isEff E.C.P ops i with
          | true => opX E s σ o fun v σ' => looks E.C ops ms i σ σ' (dRun E ops ms l mem (putS s o.dst v) σ' K) mem
          | false => opX E s σ o fun v _ => dRun E ops ms l (match hrd E.C o.op with | true => (i, s) :: mem | false => mem) (putS s o.dst v) σ K)
            (dRun E ops ms l mem (putS s o.dst undefV) σ K)

theorem dRun_cons {E : Env} {ops : Array Oper} {ms : List Nat} {i : Nat} {l : List Nat} {mem : List (Nat × List V)} {s : List V} {σ : H} {K : List V → H → Prop} {o : Oper} (ho : ops[i]? = some o)
    (h : dRun E ops ms (i :: l) mem s σ K) :
    (gdB ops o s = some true ∧ (match isEff E.C.P ops i with
      | true => opX E s σ o fun v σ' => looks E.C ops ms i σ σ' (dRun E ops ms l mem (putS s o.dst v) σ' K) mem
      | false => opX E s σ o fun v _ => dRun E ops ms l (match hrd E.C o.op with | true => (i, s) :: mem | false => mem) (putS s o.dst v) σ K)) ∨
    (gdB ops o s = some false ∧ dRun E ops ms l mem (putS s o.dst undefV) σ K) := by
  simp only [dRun, ho] at h
  unfold gdB
  cases hg : o.guard with
  | none => rw [hg] at h; simp only at h ⊢; exact .inl ⟨by simp, h⟩
  | some p =>
    rw [hg] at h
    simp only at h ⊢
    cases hs : guardSlot ops o with
    | none => rw [hs] at h; exact h.elim
    | some q =>
      obtain ⟨t, want⟩ := q
      rw [hs] at h
      simp only [gd] at h ⊢
      cases hv : s[t]? with
      | none => rw [hv] at h; exact h.elim
      | some v =>
        rw [hv] at h
        cases v <;> simp only at h <;> try exact h.elim
        · rename_i b
          by_cases hb : b = want
          · rw [if_pos hb] at h; exact .inl ⟨by simp [hb], h⟩
          · rw [if_neg hb] at h; exact .inr ⟨by simp [hb], h⟩
        · exact .inr ⟨by simp, h⟩

/-! ### The order that is run -/

/-- Each effect in its turn; what only reads as early as it may. -/
def stageOf (ops : Array Oper) (ms : List Nat) (effs : List Nat) (j : Nat) : Nat := (effs.filter fun e => anc ms e j).length

def canonGo (ops : Array Oper) (ms : List Nat) (all reads : List Nat) : Nat → List Nat → List Nat
  | k, [] => reads.filter fun j => stageOf ops ms all j == k
  | k, e :: es => (reads.filter fun j => stageOf ops ms all j == k) ++ e :: canonGo ops ms all reads (k + 1) es

def canon (P : Program) (ops : Array Oper) (ms : List Nat) : List Nat :=
  let is := List.range ops.size
  let effs := is.filter (isEff P ops)
  match effs with
  | [] => is
  | _ => canonGo ops ms effs (is.filter fun i => !isEff P ops i) 0 effs

def okOrd (P : Program) (ops : Array Oper) (ms : List Nat) : List Nat → List Nat → Bool
  | _, [] => true
  | done, i :: l =>
    (match ops[i]? with
      | some o => o.after.toList.all fun e => !Region.binds .any e || (decide (e.on < i) && done.contains e.on)
      | none => false) && !done.contains i && (!isEff P ops i || l.all fun j => anc ms i j) && okOrd P ops ms (i :: done) l

def dstOf (ops : Array Oper) (i : Nat) : Option Tmp :=
  match ops[i]? with
  | some o => o.dst
  | none => none

def indOk (ops : Array Oper) (ms : List Nat) : Bool :=
  (List.range ops.size).all fun j => match ops[j]? with
    | none => true
    | some o => (namesOf ops o).all fun t => (List.range ops.size).all fun i => i == j || !(dstOf ops i == some t) || anc ms (min i j) (max i j)

def dOk (P : Program) (ops : Array Oper) (ms : List Nat) (ord : List Nat) : Bool :=
  okOrd P ops ms [] ord && ((List.range ops.size).all fun i => ord.contains i) && indOk ops ms

end Go.Am
