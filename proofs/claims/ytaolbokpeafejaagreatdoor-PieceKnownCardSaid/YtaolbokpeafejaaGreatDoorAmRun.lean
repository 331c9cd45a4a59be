/-
  AM: closed runs: the abstract machine as a program that the kernel carries out. (Lemmas alone; no program.)
-/
import Derived.Test.YtaolbokpeafejaaGreatDoorAmBest
set_option linter.unusedVariables false
set_option linter.unusedSimpArgs false
namespace Go.Am
open Go Go.RowKit

abbrev KB := V → H → Bool

/-! ### Equality of values -/
mutual
def V.beq : V → V → Bool
  | .bool a, .bool b => a == b
  | .int k a, .int j b => decide (k = j) && a == b
  | .flt k a, .flt j b => decide (k = j) && a == b
  | .str a, .str b => a == b
  | .nilp, .nilp => true
  | .ptr a, .ptr b => decide (a = b)
  | .gp a b, .gp c d => a == c && b == d
  | .nils, .nils => true
  | .slice a b c d e, .slice a' b' c' d' e' => decide (a = a') && b == b' && c == c' && d == d' && e == e'
  | .nilm, .nilm => true
  | .map a, .map b => a == b
  | .func f a b, .func g c d => decide (f = g) && V.beqs a c && V.beqs b d
  | .nilf, .nilf => true
  | .iface t a, .iface u b => decide (t = u) && V.beq a b
  | .nili, .nili => true
  | .agg a, .agg b => V.beqs a b
  | .tuple a, .tuple b => V.beqs a b
  | .iter a, .iter b => a == b
  | .yld a, .yld b => a == b
  | _, _ => false
def V.beqs : List V → List V → Bool
  | [], [] => true
  | a :: as, b :: bs => V.beq a b && V.beqs as bs
  | _, _ => false
end

mutual
theorem V.beq_eq : ∀ {a b : V}, V.beq a b = true → a = b
  | .bool a, b, h => by cases b <;> simp_all [V.beq]
  | .int k a, b, h => by cases b <;> simp_all [V.beq]
  | .flt k a, b, h => by cases b <;> simp_all [V.beq]
  | .str a, b, h => by cases b <;> simp_all [V.beq]
  | .nilp, b, h => by cases b <;> simp_all [V.beq]
  | .ptr a, b, h => by cases b <;> simp_all [V.beq]
  | .gp a c, b, h => by cases b <;> simp_all [V.beq]
  | .nils, b, h => by cases b <;> simp_all [V.beq]
  | .slice a c d e f, b, h => by cases b <;> simp_all [V.beq]
  | .nilm, b, h => by cases b <;> simp_all [V.beq]
  | .map a, b, h => by cases b <;> simp_all [V.beq]
  | .func f x y, b, h => by
    cases b <;> simp only [V.beq, Bool.and_eq_true, decide_eq_true_eq, Bool.false_eq_true] at h
    obtain ⟨⟨rfl, h1⟩, h2⟩ := h
    rw [V.beqs_eq h1, V.beqs_eq h2]
  | .nilf, b, h => by cases b <;> simp_all [V.beq]
  | .iface t v, b, h => by
    cases b <;> simp only [V.beq, Bool.and_eq_true, decide_eq_true_eq, Bool.false_eq_true] at h
    obtain ⟨rfl, h1⟩ := h
    rw [V.beq_eq h1]
  | .nili, b, h => by cases b <;> simp_all [V.beq]
  | .agg cs, b, h => by
    cases b <;> simp only [V.beq, Bool.false_eq_true] at h
    rw [V.beqs_eq h]
  | .tuple cs, b, h => by
    cases b <;> simp only [V.beq, Bool.false_eq_true] at h
    rw [V.beqs_eq h]
  | .iter a, b, h => by cases b <;> simp_all [V.beq]
  | .yld a, b, h => by cases b <;> simp_all [V.beq]
theorem V.beqs_eq : ∀ {a b : List V}, V.beqs a b = true → a = b
  | [], b, h => by cases b <;> simp_all [V.beqs]
  | a :: as, b, h => by
    cases b with
    | nil => simp [V.beqs] at h
    | cons b bs =>
      simp only [V.beqs, Bool.and_eq_true] at h
      rw [V.beq_eq h.1, V.beqs_eq h.2]
end

def optEq : Option V → Option V → Bool
  | none, none => true
  | some a, some b => V.beq a b
  | _, _ => false
theorem optEq_eq {a b : Option V} (h : optEq a b = true) : a = b := by
  cases a <;> cases b <;> simp [optEq] at h
  · rfl
  · rw [V.beq_eq h]

/-! ### The run -/
structure EnvB where
  C : Ctx
  call : FuncId → List V → H → KB → Bool
  yield : Nat → List V → H → KB → Bool
  n : Nat

def needB {α : Type} (x : Option α) (K : α → Bool) : Bool :=
  match x with
  | some v => K v
  | none => false

def exB (k : XK) (σ : H) (args : List V) (K : KB) : Bool :=
  match exP k σ args with
  | some (v, σ') => K v σ'
  | none => false

def callVB (E : EnvB) (f : V) (args : List V) (σ : H) (K : KB) : Bool :=
  match f with
  | .func (.func g) fs cs => match fnOk E.C.P g with
    | true => E.call g (fs ++ args ++ cs) σ K
    | false => match E.C.X g with
      | some k => exB k σ (fs ++ args ++ cs) K
      | none => false
  | .yld r => E.yield r args σ K
  | _ => false

def opWXB (C : Ctx) (s : List V) (σ : H) (op : Op) (K : KB) : Bool :=
  match opW C s σ op with
  | some (r, σ') => K (r.getD undefV) σ'
  | none => false

def fzXB (C : Ctx) (s : List V) (σ : H) (op : Op) (K : KB) : Bool :=
  match op with
  | .convert a b x => match a == b, C.P.underlying a with
    | true, some (.slice e) => match C.P.underlying e with
      | some (.int .u8) => match evO s x with
        | some (.slice a sz len cb ex) => match σ.isOwn a && decide (0 < cb) && decide (0 < sz) with
          | true => K (.slice a sz len cb ex) σ
          | false => false
        | _ => false
      | _ => false
    | _, _ => false
  | _ => false

def opXB (E : EnvB) (s : List V) (σ : H) (o : Oper) (K : KB) : Bool :=
  match opK E.C.P o.op with
  | .mv => match opR E.C s σ o.op with
    | some v => K v σ
    | none => false
  | .fz => fzXB E.C s σ o.op K
  | .rd => match opR E.C s σ o.op with
    | some v => K v σ
    | none => false
  | .wr => opWXB E.C s σ o.op K
  | .call => match o.op with
    | .call c => match c.callee with
      | .value f => match evO s f, evOs s c.args.toList with
        | some u, some vs => callVB E u vs σ K
        | _, _ => false
      | _ => false
    | _ => false
  | .no => false

/-- What is asked of a guard. -/
def gdK (ops : Array Oper) (o : Oper) (kn : Kn) (s : List V) : Option Bool :=
  match o.guard with
  | none => some true
  | some (j, want) => match guardSlot ops o with
    | some (t, _) => match s[t]? with
      | some (.bool b) => some (b == want)
      | some (.tuple _) => some false
      | _ => none
    | none => none

def exIxB (E : EnvB) (ops : Array Oper) : List Nat → List V → H → (List V → H → Bool) → Bool
  | [], s, σ, K => K s σ
  | i :: l, s, σ, K => match ops[i]? with
    | none => exIxB E ops l s σ K
    | some o => match gdB ops o s with
      | some true => opXB E s σ o fun v σ' => exIxB E ops l (putS s o.dst v) σ' K
      | some false => exIxB E ops l (putS s o.dst undefV) σ K
      | none => false

def looksB (C : Ctx) (ops : Array Oper) (ms : List Nat) (i : Nat) (σ σ' : H) (rest : Bool) : List (Nat × List V) → Bool
  | [] => rest
  | (j, sj) :: mem => match anc ms j i with
    | true => looksB C ops ms i σ σ' rest mem
    | false => match ops[j]? with
      | some o => match optEq (opR C sj σ' o.op) (opR C sj σ o.op) with
        | true => looksB C ops ms i σ σ' rest mem
        | false => false
      | none => false

def dRunB (E : EnvB) (ops : Array Oper) (ms : List Nat) : List Nat → List (Nat × List V) → List V → H → (List V → H → Bool) → Bool
  | [], _, s, σ, K => K s σ
  | i :: l, mem, s, σ, K =>
    match ops[i]? with
    | none => false
    | some o => match gdB ops o s with
      | some true => match isEff E.C.P ops i with
        | true => opXB E s σ o fun v σ' => looksB E.C ops ms i σ σ' (dRunB E ops ms l mem (putS s o.dst v) σ' K) mem
        | false => opXB E s σ o fun v _ => dRunB E ops ms l (match hrd E.C o.op with | true => (i, s) :: mem | false => mem) (putS s o.dst v) σ K
      | some false => dRunB E ops ms l mem (putS s o.dst undefV) σ K
      | none => false

abbrev KxB := Ex → List V → H → Bool

def loopB (body : List V → H → KxB → Bool) : Nat → List V → H → KxB → Bool
  | 0, _, _, _ => false
  | n + 1, s, σ, K => body s σ fun e s' σ' => match e with
    | .normal => loopB body n s' σ' K
    | .exit i => K (.exit i) s' σ'
    | .ret => K .ret s' σ'

def rangeKB (rid : Nat) (s : List V) (K : KxB) : KB := fun _ σ =>
  match σ.get rid with
  | some (.loop l) => match l.state with
    | .busy => false
    | _ => match l.pending with
      | none => K .normal s (σ.set rid (.loop { l with state := .exhausted }))
      | some .ret => K .ret s (σ.set rid (.loop { l with state := .exhausted }))
      | some (.exit i) => K (.exit i) s (σ.set rid (.loop { l with state := .exhausted }))
      | _ => false
  | _ => false

def rangeXB (E : EnvB) (ro : Option Nat) (u : V) (ps : Array Tmp) (a b : Code) (s : List V) (σ : H) (K : KxB) : Bool :=
  match u with
  | .func (.func f) fs cs => match fnOk E.C.P f && inRound ro σ with
    | true => E.call f (fs ++ [.yld σ.size] ++ cs) (σ.push (.loop { state := .ready, pending := none, tmps := s, params := ps, assign := a, body := b })) (rangeKB σ.size s K)
    | false => false
  | _ => false

def execB (E : EnvB) (ro : Option Nat) : Code → List V → H → KxB → Bool
  | .skip, s, σ, K => K .normal s σ
  | .label _, s, σ, K => K .normal s σ
  | .region id ops draw, s, σ, K => match draw with
    | false => exIxB E ops (List.range ops.size) s σ (K .normal)
    | true => match E.C.P.follows .mixedOrders && dOkF E.C.P ops (msk ops) (canonF E.C.P ops (msk ops)) with
      | true => dRunB E ops (msk ops) (canonF E.C.P ops (msk ops)) [] s σ (K .normal)
      | false => false
  | .seq a b, s, σ, K => execB E ro a s σ fun e s σ => match e with
    | .normal => execB E ro b s σ K
    | .exit i => K (.exit i) s σ
    | .ret => K .ret s σ
  | .cond c x y, s, σ, K => match evO s c with
    | some (.bool true) => execB E ro x s σ K
    | some (.bool false) => execB E ro y s σ K
    | _ => false
  | .block id c, s, σ, K => execB E ro c s σ fun e s σ => match e with
    | .exit i => match i == id with
      | true => K .normal s σ
      | false => K (.exit i) s σ
    | .normal => K .normal s σ
    | .ret => K .ret s σ
  | .loop c, s, σ, K => loopB (execB E ro c) E.n s σ K
  | .scope c, s, σ, K => execB E ro c s σ K
  | .exit id, s, σ, K => K (.exit id) s σ
  | .ret, s, σ, K => K .ret s σ
  | .rangeFunc g ps a b, s, σ, K => match evO s g with
    | some u => rangeXB E ro u ps a b s σ K
    | none => false
  | _, _, _, _ => false

def bodyKB (E : EnvB) (fn : Func) (K : KB) : KxB := fun e s σ =>
  match e with
  | .exit _ => false
  | _ => match rsVs E.C s σ fn.results.toList with
    | some vs => K (oneV vs) σ
    | none => false

def bodyB (E : EnvB) (fn : Func) (args : List V) (σ : H) (K : KB) : Bool :=
  match fn.body with
  | none => false
  | some c => execB E none c (args ++ List.replicate (fn.ntmps - args.length) undefV) σ (bodyKB E fn K)

def roundEndB (rid : Nat) (K : KB) : KxB := fun e _ σ =>
  match σ.get rid with
  | some (.loop l) => match e with
    | .normal => K (.bool true) (σ.set rid (.loop { l with state := .ready, pending := none }))
    | .ret => K (.bool false) (σ.set rid (.loop { l with state := .done, pending := some .ret }))
    | .exit i => K (.bool false) (σ.set rid (.loop { l with state := .done, pending := some (.exit i) }))
  | _ => false

def roundXB (E : EnvB) (rid : Nat) (args : List V) (σ : H) (K : KB) : Bool :=
  match σ.get rid with
  | some (.loop l) => match args.length == l.params.size with
    | true => execB E (some rid) l.assign (putMany l.tmps (l.params.toList.zip args)) σ fun e s1 σ1 => match e with
      | .normal => match σ1.get rid with
        | some (.loop l1) => match l1.state with
          | .ready => execB E (some rid) l.body s1 (σ1.set rid (.loop { l1 with state := .busy })) (roundEndB rid K)
          | _ => false
        | _ => false
      | _ => false
    | false => false
  | _ => false

/-! ### It is sound -/

structure Sim (EB : EnvB) (E : Env) : Prop where
  P : EB.C.P = E.C.P
  G : EB.C.G = E.C.G
  X : EB.C.X = E.C.X
  n : EB.n = E.n
  call : ∀ f args σ K, EB.call f args σ K = true → E.call f args σ (fun v σ => K v σ = true)
  yield : ∀ r args σ K, EB.yield r args σ K = true → E.yield r args σ (fun v σ => K v σ = true)

theorem ctx_opR {C C' : Ctx} (hP : C.P = C'.P) (hG : C.G = C'.G) (s : List V) (σ : H) (op : Op) : opR C s σ op = opR C' s σ op := by
  obtain ⟨B, W, P, G, X⟩ := C
  obtain ⟨B', W', P', G', X'⟩ := C'
  cases hP; cases hG
  rfl
theorem ctx_opW {C C' : Ctx} (hP : C.P = C'.P) (hG : C.G = C'.G) (s : List V) (σ : H) (op : Op) : opW C s σ op = opW C' s σ op := by
  obtain ⟨B, W, P, G, X⟩ := C
  obtain ⟨B', W', P', G', X'⟩ := C'
  cases hP; cases hG
  rfl
theorem ctx_hrd {C C' : Ctx} (hP : C.P = C'.P) (op : Op) : hrd C op = hrd C' op := by
  obtain ⟨B, W, P, G, X⟩ := C
  obtain ⟨B', W', P', G', X'⟩ := C'
  cases hP
  rfl
theorem ctx_rsVs {C C' : Ctx} (hP : C.P = C'.P) (hG : C.G = C'.G) (s : List V) (σ : H) (rs : List ResultVar) : rsVs C s σ rs = rsVs C' s σ rs := by
  obtain ⟨B, W, P, G, X⟩ := C
  obtain ⟨B', W', P', G', X'⟩ := C'
  cases hP; cases hG
  induction rs with
  | nil => rfl
  | cons r rs ih => simp only [rsVs, ih]; cases r <;> rfl

variable {EB : EnvB} {E : Env}

theorem opWX_of {C : Ctx} {s : List V} {σ : H} {op : Op} {K : V → H → Prop} {r : Option V} {σ' : H} (h : opW C s σ op = some (r, σ')) (hk : K (r.getD undefV) σ') : opWX C s σ op K := by
  unfold opW at h
  unfold opWX
  split at h
  · split at h
    · rename_i v hv; cases h; exact hk
    · cases h
  · split at h
    · rename_i v hv; cases h; exact hk
    · cases h
  · split at h
    · rename_i n _ k vs hk1 hv
      split at h
      · rename_i cs hcs; cases h; exact need_intro _ hcs hk
      · cases h
    · cases h
  · split at h
    · rename_i b n u v hk1 hu hv
      split at h
      · rename_i σ2 hs; cases h; exact need_intro _ hs hk
      · cases h
    · cases h
  · split at h
    · rename_i k u v hk1 hu hv
      split at h
      · rename_i n m hm; cases h; exact need_intro (n, m) hm hk
      · cases h
    · cases h
  · rename_i c
    split at h
    · rename_i hc
      split at h
      · rename_i k u v hk1 hv
        split at h
        · rename_i r2 σ2 hr; cases h; exact need_intro (r2, _) hr hk
        · cases h
      · cases h
    · split at h
      · split at h
        · rename_i hr; cases h; exact need_intro _ hr hk
        · cases h
      · cases h
    · split at h
      · split at h
        · rename_i r2 σ2 hr; cases h; exact need_intro (r2, _) hr hk
        · cases h
      · cases h
    · split at h
      · split at h
        · rename_i hr; cases h; exact need_intro _ hr hk
        · cases h
      · cases h
    · cases h
  · rename_i a b x
    split at h
    · rename_i e bs hk1 hv
      cases h
      rw [hk1, hv]
      exact hk
    · cases h
  · split at h
    · cases h; exact hk
    · cases h
  · split at h
    · split at h
      · rename_i hr; cases h; exact need_intro _ hr hk
      · cases h
    · cases h
  · split at h
    · split at h
      · rename_i hr; cases h; exact need_intro _ hr hk
      · cases h
    · cases h
  · rename_i ty x
    split at h
    · rename_i bs hk1 hv
      cases h
      rw [hk1, hv]
      exact hk
    · cases h
  · split at h
    · split at h
      · rename_i r2 σ2 hr; cases h; exact need_intro (r2, _) hr hk
      · cases h
    · cases h
  · cases h

theorem opXB_sound (hS : Sim EB E) {s : List V} {σ : H} {o : Oper} {K : KB} (h : opXB EB s σ o K = true) : opX E s σ o (fun v σ => K v σ = true) := by
  unfold opXB at h
  unfold opX
  rw [hS.P] at h
  split at h
  · rename_i hk
    rw [ctx_opR hS.P hS.G] at h
    split at h
    · rename_i v hv; rw [hk, hv]; exact h
    · cases h
  · rename_i hk
    rw [hk]
    unfold fzXB at h
    simp only [fzX]
    split at h
    · rename_i a b x hop
      simp only [hop]
      rw [hS.P] at h
      split at h
      · rename_i e hab hu
        rw [hab, hu]
        simp only
        split at h
        · rename_i he
          rw [he]
          simp only
          split at h
          · rename_i a2 sz len cb ex hv
            rw [hv]
            simp only [frzX]
            split at h
            · rename_i hc
              simp only [Bool.and_eq_true, decide_eq_true_eq] at hc
              rw [if_pos ⟨hc.1.1, hc.1.2, hc.2⟩]
              exact h
            · cases h
          · cases h
        · cases h
      · cases h
    · cases h
  · rename_i hk
    rw [ctx_opR hS.P hS.G] at h
    split at h
    · rename_i v hv; rw [hk, hv]; exact h
    · cases h
  · rename_i hk
    rw [hk]
    unfold opWXB at h
    rw [ctx_opW hS.P hS.G] at h
    split at h
    · rename_i r σ' hr
      exact opWX_of hr h
    · cases h
  · rename_i hk
    rw [hk]
    simp only
    split at h
    · rename_i c hop
      split at h
      · rename_i f hcal
        split at h
        · rename_i u vs hu hvs
          simp only [hop, hcal, hu, hvs]
          unfold callVB at h
          unfold callV
          split at h
          · rename_i g fs cs
            rw [hS.P] at h
            split at h
            · rename_i hok; dsimp only; rw [if_pos hok]; exact hS.call _ _ _ _ h
            · rename_i hok
              dsimp only
              rw [if_neg (by rw [hok]; simp)]
              rw [hS.X] at h
              split at h
              · rename_i k hk
                rw [hk]
                unfold exB at h
                split at h
                · rename_i v σ' hv; exact need_intro (v, σ') hv h
                · cases h
              · cases h
          · exact hS.yield _ _ _ _ h
          · cases h
        · cases h
      · cases h
    · cases h
  · cases h

theorem gdB_step {E : Env} {ops : Array Oper} {i : Nat} {o : Oper} {s : List V} {σ : H} {K : List V → H → Prop} (ho : ops[i]? = some o)
    (h : (gdB ops o s = some true ∧ opX E s σ o fun v σ' => K (putS s o.dst v) σ') ∨ (gdB ops o s = some false ∧ K (putS s o.dst undefV) σ)) : stepX E ops i s σ K := (stepX_iff ho).2 h

theorem exIxB_sound (hS : Sim EB E) (hM : EMono E) {ops : Array Oper} : ∀ (l : List Nat) (s : List V) (σ : H) (K : List V → H → Bool), exIxB EB ops l s σ K = true → exIx E ops l s σ (fun s σ => K s σ = true)
  | [], s, σ, K, h => h
  | i :: l, s, σ, K, h => by
    simp only [exIxB] at h
    simp only [exIx]
    cases ho : ops[i]? with
    | none =>
      rw [ho] at h
      unfold stepX
      rw [ho]
      exact exIxB_sound hS hM l s σ K h
    | some o =>
      rw [ho] at h
      refine gdB_step ho ?_
      simp only at h
      split at h
      · rename_i hg; exact .inl ⟨hg, opX_mono hM (fun v σ' hk => exIxB_sound hS hM l _ _ K hk) (opXB_sound hS h)⟩
      · rename_i hg; exact .inr ⟨hg, exIxB_sound hS hM l _ _ K h⟩
      · cases h

theorem looksB_sound (hS : Sim EB E) {ops : Array Oper} {ms : List Nat} {i : Nat} {σ σ' : H} {rest : Bool} : ∀ {mem : List (Nat × List V)}, looksB EB.C ops ms i σ σ' rest mem = true → looks E.C ops ms i σ σ' (rest = true) mem
  | [], h => h
  | (j, sj) :: mem, h => by
    simp only [looksB] at h
    simp only [looks]
    split at h
    · rename_i ha; rw [ha]; exact looksB_sound hS h
    · rename_i ha
      rw [ha]
      split at h
      · rename_i o ho
        rw [ho]
        split at h
        · rename_i he
          have := optEq_eq he
          rw [ctx_opR hS.P hS.G, ctx_opR hS.P hS.G] at this
          exact ⟨this, looksB_sound hS h⟩
        · cases h
      · cases h

theorem dRunB_sound (hS : Sim EB E) (hM : EMono E) {ops : Array Oper} {ms : List Nat} : ∀ (l : List Nat) (mem : List (Nat × List V)) (s : List V) (σ : H) (K : List V → H → Bool),
    dRunB EB ops ms l mem s σ K = true → dRun E ops ms l mem s σ (fun s σ => K s σ = true)
  | [], mem, s, σ, K, h => h
  | i :: l, mem, s, σ, K, h => by
    simp only [dRunB] at h
    cases ho : ops[i]? with
    | none => rw [ho] at h; cases h
    | some o =>
      rw [ho] at h
      refine dRun_of ho ?_
      simp only at h
      split at h
      · rename_i hg
        refine .inl ⟨hg, ?_⟩
        rw [hS.P] at h
        split at h
        · rename_i he
          rw [he]
          refine opX_mono hM (fun v σ' hk => ?_) (opXB_sound hS h)
          exact looks_mono (fun hk => dRunB_sound hS hM l _ _ _ K hk) (looksB_sound hS hk)
        · rename_i he
          rw [he]
          refine opX_mono hM (fun v σ' hk => ?_) (opXB_sound hS h)
          rw [ctx_hrd hS.P] at hk
          exact dRunB_sound hS hM l _ _ _ K hk
      · rename_i hg
        exact .inr ⟨hg, dRunB_sound hS hM l _ _ _ K h⟩
      · cases h

variable {ρ : Pl} {σ : H} {w : World}

theorem execB_sound (hS : Sim EB E) (hC : CallOk E.C E.call) (hY : YieldOk E.C E.yield) (hM : EMono E) {ro : Option Nat} : ∀ (c : Code) (ρ : Pl) (s : List V) (σ : H) (a : Act) (w : World) (K : KxB) (Q : Exit → Act → World → Prop) (fr : Option Nat),
    execB EB ro c s σ K = true → RoundAt ρ ro fr → Rl E.C ρ σ w → VRs ρ s a.tmps.toList → PostX E.C ρ a (fun e s σ => K e s σ = true) Q → c.wpIn (FW fr) 0 E.C.P Q a w := by
  intro c
  induction c with
  | skip => intro ρ s σ a w K Q fr h hro hR hs hQ; exact wpIn_skip (hQ _ _ _ _ _ _ h (Ext.refl _) hR hs (Marks.refl _ _ _))
  | label l => intro ρ s σ a w K Q fr h hro hR hs hQ; exact wpIn_label (hQ _ _ _ _ _ _ h (Ext.refl _) hR hs (Marks.refl _ _ _))
  | exit id => intro ρ s σ a w K Q fr h hro hR hs hQ; exact wpIn_exit (hQ _ _ _ _ _ _ h (Ext.refl _) hR hs (Marks.refl _ _ _))
  | ret => intro ρ s σ a w K Q fr h hro hR hs hQ; exact wpIn_ret (hQ _ _ _ _ _ _ h (Ext.refl _) hR hs (Marks.refl _ _ _))
  | region id ops draw =>
    intro ρ s σ a w K Q fr h hro hR hs hQ
    cases draw with
    | false =>
      exact wpIn_region (exIx_sound hC hY _ ρ s σ a w _ (exIxB_sound hS hM _ _ _ _ h) hR hs (fun s' σ' ρ' a' w' hk he hR' hs' hd => hQ .normal _ _ _ _ _ hk he hR' hs' (Marks.same hd)))
    | true =>
      simp only [execB] at h
      split at h
      · rename_i hc
        simp only [Bool.and_eq_true] at hc
        rw [hS.P] at hc h
        have hany := dRun_any hM (dOkF_ok hc.2) (dRunB_sound hS hM _ _ _ _ _ h)
        refine wpIn_region_any hc.1 ?_
        exact exAny_sound hC hY ops.size _ ρ s σ a w.drew _ hany hR.drew hs (fun s' σ' ρ' a' w' hk he hR' hs' hd => hQ .normal _ _ _ _ _ hk he hR' hs' (Marks.same hd))
      · cases h
  | seq x y ihx ihy =>
    intro ρ s σ a w K Q fr h hro hR hs hQ
    refine wpIn_seq (ihx ρ s σ a w _ _ fr h hro hR hs ?_)
    intro e s' σ' ρ' a' w' hk he hR' hs' hd
    cases e with
    | normal => exact ihy ρ' s' σ' a' w' K Q fr hk (hro.ext he) hR' hs' (hQ.mono he hd)
    | exit i => exact hQ (.exit i) _ _ _ _ _ hk he hR' hs' hd
    | ret => exact hQ .ret _ _ _ _ _ hk he hR' hs' hd
  | cond c x y ihx ihy =>
    intro ρ s σ a w K Q fr h hro hR hs hQ
    simp only [execB] at h
    split at h
    · rename_i hb
      have hv := evO_sound hs hb
      simp only [VR] at hv
      exact wpIn_cond_true hv (ihx ρ s σ a w K Q fr h hro hR hs hQ)
    · rename_i hb
      have hv := evO_sound hs hb
      simp only [VR] at hv
      exact wpIn_cond_false hv (ihy ρ s σ a w K Q fr h hro hR hs hQ)
    · cases h
  | block id c ih =>
    intro ρ s σ a w K Q fr h hro hR hs hQ
    refine wpIn_block (ih ρ s σ a w _ _ fr h hro hR hs ?_)
    intro e s' σ' ρ' a' w' hk he hR' hs' hd
    cases e with
    | normal => exact hQ .normal _ _ _ _ _ hk he hR' hs' hd
    | exit i =>
      simp only at hk
      simp only [Ex.to, Exit.inBlock]
      split
      · rename_i hi
        have : (i == id) = true := by simpa using hi
        rw [this] at hk; exact hQ .normal _ _ _ _ _ hk he hR' hs' hd
      · rename_i hi
        have : (i == id) = false := by simpa using hi
        rw [this] at hk; exact hQ (.exit i) _ _ _ _ _ hk he hR' hs' hd
    | ret => exact hQ .ret _ _ _ _ _ hk he hR' hs' hd
  | loop c ih =>
    intro ρ s σ a w K Q fr h hro hR hs hQ
    simp only [execB] at h
    refine wpIn_loop_rounds EB.n ?_
    generalize EB.n = n at h
    induction n generalizing ρ s σ a w with
    | zero => cases h
    | succ n ihn =>
      simp only [loopB] at h
      rw [roundsIn_succ]
      refine ih ρ s σ a w _ _ fr h hro hR hs ?_
      intro e s' σ' ρ' a' w' hk he hR' hs' hd
      cases e with
      | normal => exact ihn ρ' s' σ' a' w' (hro.ext he) hR' hs' (hQ.mono he hd) hk
      | exit i => exact hQ (.exit i) _ _ _ _ _ hk he hR' hs' hd
      | ret => exact hQ .ret _ _ _ _ _ hk he hR' hs' hd
  | rangeFunc g ps x y ihx ihy =>
    intro ρ s σ a w K Q fr h hro hR hs hQ
    simp only [execB] at h
    split at h
    · rename_i u hu
      unfold rangeXB at h
      split at h
      · rename_i f fs cs
        split at h
        · rename_i hok
          simp only [Bool.and_eq_true] at hok
          rw [hS.P] at hok
          obtain ⟨fnn, hfn, hb, hnm⟩ := fnOk_parts hok.1
          have hf := evO_sound hs hu
          simp only [VR] at hf
          obtain ⟨f1, c1, e, hf1, hc1⟩ := hf
          refine wpIn_rangeFunc ?_
          intro fn _
          obtain ⟨l, mark, w1, ρ1, h1, h2, h3, h4, h5⟩ := enterLoop_sound hR hro hok.2 fn hs ps x y a.defers
          have hargs : VRs ρ1 (fs ++ [V.yld σ.size] ++ cs) (f1.toList ++ [Value.func (.yield l) #[] #[]] ++ c1.toList) := by
            refine VRs.append (VRs.append (hf1.ext h2) ?_) (hc1.ext h2)
            simp only [VRs, VR]
            exact ⟨_, _, rfl, ⟨_, h4, rfl⟩, rfl⟩
          have hcalls := hC _ _ _ _ (hS.call _ _ _ _ h) ρ1 w1 _ h3 hargs
          refine ⟨l, mark, w1, { target := .fn (.func f) c1, args := f1 ++ #[.func (.yield l) #[] #[]] }, w1, f, (f1.toList ++ [Value.func (.yield l) #[] #[]] ++ c1.toList).toArray, w1, h1, ?_, fun _ _ => trivial, ?_, (fun h => by cases h), ?_⟩
          · have : resolve a.eval (rangeCall g l) 0 = Deferred.ofValue (a.eval g) #[.func (.yield l) #[] #[]] := by
              simp [resolve, rangeCall, Act.eval]
            rw [this, e]
            simp [Deferred.ofValue]
          · have hae : (f1.toList ++ [Value.func (.yield l) #[] #[]] ++ c1.toList).toArray = f1 ++ #[.func (.yield l) #[] #[]] ++ c1 := by
              apply Array.ext'; simp
            rw [hae]
            simp only [invoke, callFunc, Sem.run_bind, run_program, hfn, hnm, hb, Result.andThen_ok, Bool.false_eq_true, if_false, Sem.run_pure]
          · refine CallsIn.mono (show CallsIn (FW fr) 0 _ _ _ _ _ from (callsIn_wide (n := 0)).2 hcalls) ?_
            rintro e' w' ⟨v, σ', ρ', z, hk, rfl, he, hR', hvr⟩
            have hp := he.map _ _ _ h4
            unfold rangeKB at hk
            split at hk
            · rename_i l1 hl1
              have hnb : l1.state ≠ .busy := by intro e2; rw [e2] at hk; cases hk
              have hk' : (match l1.pending with
                  | none => K .normal s (σ'.set σ.size (.loop { l1 with state := .exhausted }))
                  | some .ret => K .ret s (σ'.set σ.size (.loop { l1 with state := .exhausted }))
                  | some (.exit i) => K (.exit i) s (σ'.set σ.size (.loop { l1 with state := .exhausted }))
                  | _ => false) = true := by
                cases hst : l1.state <;> rw [hst] at hk <;> first | exact absurd hst hnb | exact hk
              obtain ⟨w4, hend, hR4⟩ := endLoop_sound hR' hl1 hp hnb
              refine ⟨l1.pending, w4, hend, ?_⟩
              have hex : Ext ρ ρ' := h2.trans he
              have hmk : Marks ρ ρ' a.defers (mark ++ a.defers) := h5.trans (Marks.refl _ _ _) h2 he
              have hss : VRs ρ' s ({ a with defers := mark ++ a.defers } : Act).tmps.toList := hs.ext hex
              cases hpe : l1.pending with
              | none =>
                rw [hpe] at hk' hR4
                exact hQ .normal _ _ _ _ _ hk' hex hR4 hss hmk
              | some cc =>
                rw [hpe] at hk' hR4
                cases cc <;> first | (cases hk'; done) | skip
                · rename_i i; exact wpIn_exit (hQ (.exit i) _ _ _ _ _ hk' hex hR4 hss hmk)
                · exact wpIn_ret (hQ .ret _ _ _ _ _ hk' hex hR4 hss hmk)
            · cases hk
        · cases h
      · cases h
    · cases h
  | scope c ih =>
    intro ρ s σ a w K Q fr h hro hR hs hQ
    refine wpIn_scope (ih ρ s σ a w K _ fr h hro hR hs ?_)
    intro e s' σ' ρ' a' w' hk he hR' hs' hd
    have := hQ e _ _ _ _ _ hk he hR' hs' hd
    cases e <;> exact this
  | goto l => intro ρ s σ a w K Q fr h hro hR hs hQ; cases h
  | refuse why => intro ρ s σ a w K Q fr h hro hR hs hQ; cases h

/-- A body's contract is the function's. -/
theorem bodyB_sound (hS : Sim EB E) (hC : CallOk E.C E.call) (hY : YieldOk E.C E.yield) (hM : EMono E) {f : FuncId} {fn : Func} (hf : E.C.P.funcs[f]? = some fn) {args : List V} {K : KB} (h : bodyB EB fn args σ K = true)
    (hR : Rl E.C ρ σ w) {xs : List Value} (hx : VRs ρ args xs) :
    Calls E.C.P f xs.toArray w fun e w' => ∃ v σ' ρ' x, K v σ' = true ∧ e = .returned x ∧ Ext ρ ρ' ∧ Rl E.C ρ' σ' w' ∧ VR ρ' v x := by
  unfold bodyB at h
  split at h
  · cases h
  · rename_i c hb
    have hl := hx.length
    refine (callsIn_wide (n := 0)).1 (show CallsIn (FW none) 0 _ _ _ _ _ from ?_)
    refine callsIn_of_wp_marks hf hb trivial ?_
    refine execB_sound hS hC hY hM c ρ _ σ _ w _ _ none h trivial hR ?_ ?_
    · have := hx.append (VRs.replicate (undef_rel (ρ := ρ)) (fn.ntmps - args.length))
      simpa [hl] using this
    · intro e s σ' ρ' a' w' hk he hR' hs' hd
      obtain ⟨ms, hms, hnd, hmm⟩ := hd
      have hms : a'.defers = ms.map markOf := by simpa using hms
      have fin : (match rsVs EB.C s σ' fn.results.toList with | some vs => K (oneV vs) σ' | none => false) = true → LeavesInM (FW none) 0 E.C.P fn a'.tmps (fun e w' => ∃ v σ' ρ' x, K v σ' = true ∧ e = .returned x ∧ Ext ρ ρ' ∧ Rl E.C ρ' σ' w' ∧ VR ρ' v x) a'.defers .returning w' := by
        intro hrs
        rw [hms]
        have : ∃ vs, rsVs E.C s σ' fn.results.toList = some vs ∧ K (oneV vs) σ' = true := by
          rw [ctx_rsVs hS.P hS.G] at hrs
          split at hrs
          · rename_i vs hvs; exact ⟨vs, hvs, hrs⟩
          · cases hrs
        obtain ⟨vs, hvs, hk⟩ := this
        refine leave_sound ms ρ' σ' w' hR' hnd (fun b hb => (hmm b hb).1) ?_
        intro ρ2 w2 hR2 hme hd2
        have hm2 : ∀ i v p, ρ' i v = some p → ρ2 i v = some p := fun i v p h => by rw [hme]; exact h
        obtain ⟨x, hx1, hx2⟩ := results_sound hR2 (hs'.extM hm2) hvs
        refine ⟨x, hx1, _, σ', ρ2, x, hk, rfl, ⟨fun i v p h => hm2 _ _ _ (he.map _ _ _ h), fun b hb => hd2 b (he.dfr _ hb) (fun hbm => (hmm b hbm).2 hb)⟩, hR2, hx2⟩
      cases e with
      | normal => exact fin hk
      | exit i => cases hk
      | ret => exact fin hk

theorem roundB_sound (hS : Sim EB E) (hC : CallOk E.C E.call) (hY : YieldOk E.C E.yield) (hM : EMono E) {rid : Nat} {args : List V} {K : KB} (h : roundXB EB rid args σ K = true) : bestY E.C rid args σ (fun v σ => K v σ = true) := by
  intro ρ w xs hR hx
  unfold roundXB at h
  split at h
  · rename_i l hl
    split at h
    · rename_i hlen
      have hlen : args.length = l.params.size := by simpa using hlen
      obtain ⟨p, x, hp, hB, hxx, r, rfl, g1, g2, g3, g4, g5, g6⟩ := hR.obj _ _ hl rfl
      have hxl := hx.length
      have hps : xs.toArray.size = r.params.size := by rw [g3]; simp; omega
      refine ⟨p, r.fn, (r.params.zip xs.toArray).foldl (fun tmps (ta : Tmp × Value) => tmps.setIfInBounds ta.1 ta.2) r.tmps, r.assign, r.body, hp, ?_, ?_⟩
      · exact run_yield hxx hps
      · have hpm : VRs ρ (putMany l.tmps (l.params.toList.zip args)) ((r.params.zip xs.toArray).foldl (fun tmps (ta : Tmp × Value) => tmps.setIfInBounds ta.1 ta.2) r.tmps).toList := by
          rw [← Array.foldl_toList]
          refine putMany_rel _ _ _ _ g6 ?_ ?_
          · rw [List.map_snd_zip (by simp; omega), Array.toList_zip, List.map_snd_zip (by rw [g3]; simp; omega)]
            simpa using hx
          · rw [List.map_fst_zip (by simp; omega), Array.toList_zip, List.map_fst_zip (by rw [g3]; simp; omega), g3]
        refine roundIn_of_wpIn trivial ?_
        have hro : RoundAt ρ (some rid) (some p.blk) := ⟨p, hp, rfl⟩
        rw [g4]
        refine execB_sound hS hC hY hM l.assign ρ _ σ _ w _ _ (some p.blk) h hro hR hpm ?_
        intro e s1 σ1 ρ1 a1 w1 hk he hR1 hs1 hd1
        cases e with
        | exit i => cases hk
        | ret => cases hk
        | normal =>
          simp only at hk
          split at hk
          · rename_i l1 hl1
            split at hk
            · rename_i hst
              obtain ⟨q, y, hq, hB1, hy, r1, rfl, f1, f2, f3, f4, f5, f6⟩ := hR1.obj _ _ hl1 rfl
              have hp1 := he.map _ _ _ hp
              rw [hp1] at hq; cases hq
              have hset : Rl E.C ρ1 (σ1.set rid (.loop { l1 with state := .busy })) (w1.putObj p.blk (.loop { r1 with state := .busy })) := hR1.set_solid hl1 rfl rfl hp1 ⟨_, rfl, rfl, f2, f3, f4, f5, f6⟩
              refine ⟨w1.putObj p.blk (.loop { r1 with state := .busy }), ?_, ?_⟩
              · exact run_beginRound hy (by rw [f1]; exact hst)
              · rw [g5]
                refine execB_sound hS hC hY hM l.body ρ1 _ _ _ _ _ _ (some p.blk) hk (hro.ext he) hset hs1 ?_
                intro e2 s2 σ2 ρ2 a2 w2 hk2 he2 hR2 hs2 hd2
                unfold roundEndB at hk2
                split at hk2
                · rename_i l2 hl2
                  obtain ⟨q, y2, hq, hB2, hy2, r2, rfl, k1, k2, k3, k4, k5, k6⟩ := hR2.obj _ _ hl2 rfl
                  have hp2 := he2.map _ _ _ hp1
                  rw [hp2] at hq; cases hq
                  have fin : ∀ (st : LoopState) (j : Option Code) (v : V), K v (σ2.set rid (.loop { l2 with state := st, pending := j })) = true → v = .bool j.isNone → st = (if j.isNone then .ready else .done) →
                      ∃ v' w', (Instr.endRound p.blk j).run E.C.P w2 = .ok v' w' ∧ ∃ v σ' ρ' x, K v σ' = true ∧ Ending.returned v' = .returned x ∧ Ext ρ ρ' ∧ Rl E.C ρ' σ' w' ∧ VR ρ' v x := by
                    intro st j v hv e1 e3
                    refine ⟨.bool j.isNone, w2.putObj p.blk (.loop { r2 with state := st, pending := j }), ?_, v, _, ρ2, _, hv, rfl, he.trans he2, hR2.set_solid hl2 rfl rfl hp2 ⟨_, rfl, rfl, rfl, k3, k4, k5, k6⟩, by rw [e1]; simp only [VR]⟩
                    rw [run_endRound j hy2, ← e3]
                  cases e2 with
                  | normal => exact fin .ready none _ hk2 rfl rfl
                  | ret => exact fin .done (some .ret) _ hk2 rfl rfl
                  | exit i => exact fin .done (some (.exit i)) _ hk2 rfl rfl
                · cases hk2
            · cases hk
          · cases hk
    · cases h
  · cases h


/-! ### The operations over a function that looks up the slots -/
def gO (g : Nat → Option V) : Operand → Option V
  | .tmp t => g t
  | .const x => ofConst x
  | .global n => some (.gp n 0)
  | .func f => some (.func (.func f) [] [])

def gOs (g : Nat → Option V) : List Operand → Option (List V)
  | [] => some []
  | o :: os => match gO g o, gOs g os with
    | some v, some vs => some (v :: vs)
    | _, _ => none

def gOpt (g : Nat → Option V) : Option Operand → Option (Option V)
  | none => some none
  | some o => match gO g o with
    | some v => some (some v)
    | none => none

def gPs (g : Nat → Option V) : List (Nat × Operand) → Option (List (Nat × V))
  | [] => some []
  | (i, o) :: ps => match gO g o, gPs g ps with
    | some v, some vs => some ((i, v) :: vs)
    | _, _ => none

def opR0G (C : Ctx) (g : Nat → Option V) (σ : H) (op : Op) : Option V :=
  match op with
  | .move x | .assign x => gO g x
  | .pick c a b => match gO g c, gO g a, gO g b with
    | some c, some a, some b => pickV c a b
    | _, _, _ => none
  | .build t ps => match bdK C.P t, gPs g ps.toList with
    | some k, some vs => match places k.2 vs with
      | some qs => bdP k.1 qs
      | none => none
    | _, _ => none
  | .load t x => match tk C.P t, gO g x with
    | some (b, n), some v => ldP C.G σ b n v
    | _, _ => none
  | .nilCheck x => match gO g x with
    | some v => nilV v
    | none => none
  | .binOp op t x y _ => match bnK C.P op t (isC x || isC y), gO g x, gO g y with
    | some k, some u, some v => bnP k op u v
    | _, _, _ => none
  | .unOp op _ x => match gO g x with
    | some v => unP op v
    | none => none
  | .convert a b x => match cvK C.P a b, gO g x with
    | some k, some v => cvP σ k v
    | _, _ => none
  | .makeInterface t x => match C.P.underlying t, gO g x with
    | some (.interface _), _ => none
    | some _, some v => some (.iface t v)
    | _, _ => none
  | .makeFunc fn fs cs => match gOs g fs.toList, gOs g cs.toList with
    | some a, some b => some (.func fn a b)
    | _, _ => none
  | .slice t x lo hi mx => match slK C.P t, gO g x, gOpt g lo, gOpt g hi, gOpt g mx with
    | some k, some v, some l, some h, some m => slP k v l h m
    | _, _, _, _, _ => none
  | .fieldAddr t x i => match fOff C.P t i, gO g x with
    | some n, some v => addO n v
    | _, _ => none
  | .field t x i => match fdK C.P t i, gO g x with
    | some k, some v => fdP k v
    | _, _ => none
  | .indexAddr t x i => match ixK C.P t, gO g x, gO g i with
    | some k, some v, some j => ixP k v j
    | _, _, _ => none
  | .index t x i => match inK C.P t, gO g x, gO g i with
    | some k, some v, some j => inP k v j
    | _, _, _ => none
  | .extract x i => match gO g x with
    | some v => extV i v
    | none => none
  | .call c => match c.callee with
    | .builtin b => match gOs g c.args.toList with
      | some vs => biR C b c.argTypes vs
      | none => none
    | _ => none
  | _ => none

def opRG (C : Ctx) (g : Nat → Option V) (σ : H) (op : Op) : Option V :=
  match op with
  | .lookup t x i ok => match mpK C.P t, gO g x, gO g i with
    | some k, some u, some v => lkP σ k ok u v
    | _, _, _ => none
  | .call c => match c.callee with
    | .builtin .len => match lnmK C.P c.argTypes with
      | true => match gOs g c.args.toList with
        | some [x] => lnmP σ x
        | _ => none
      | false => opR0G C g σ (.call c)
    | _ => opR0G C g σ (.call c)
  | op => opR0G C g σ op

def opWG (C : Ctx) (g : Nat → Option V) (σ : H) (op : Op) : Option (Option V × H) :=
  match op with
  | .alloc e => match zeroV C.P e with
    | some v => some (some (.ptr (newPA σ v.cellsV.length)), mkRow σ e v.cellsV)
    | none => none
  | .box e x => match gO g x with
    | some v => some (some (.ptr (newPA σ v.cellsV.length)), mkRow σ e v.cellsV)
    | none => none
  | .buildSlice t n ps => match slInfo C.P t, gPs g ps.toList with
    | some k, some vs => match bsP k n vs with
      | some cs => some (some (wholeSl σ k.sz n), mkRow σ k.elem cs)
      | none => none
    | _, _ => none
  | .store t a x => match tk C.P t, gO g a, gO g x with
    | some (_, n), some u, some v => match stP σ n u v with
      | some σ' => some (none, σ')
      | none => none
    | _, _, _ => none
  | .makeSlice t l c => match slInfo C.P t, gO g l, gO g c with
    | some k, some u, some v => match msP k u v with
      | some (n, m) => some (some (.slice (newPA σ (m * k.sz)) k.sz n m true), mkRow σ k.elem (zeros k m))
      | none => none
    | _, _, _ => none
  | .call c => match c.callee with
    | .builtin .append => match apK C.P c.argTypes, gOs g c.args.toList with
      | some k, some [u, v] => match apP σ k u v with
        | some (r, σ') => some (some r, σ')
        | none => none
      | _, _ => none
    | .builtin .clear => match clK C.P c.argTypes, gOs g c.args.toList with
      | some k, some [u] => match clP σ k u with
        | some σ' => some (some (.tuple []), σ')
        | none => none
      | _, _ => none
    | .builtin .copy => match clK C.P c.argTypes, gOs g c.args.toList with
      | some k, some [u, v] => match cpP σ k u v with
        | some (r, σ') => some (some r, σ')
        | none => none
      | _, _ => none
    | .builtin .delete => match dlK C.P c.argTypes, gOs g c.args.toList with
      | some k, some [u, v] => match dlP σ k.1 u v with
        | some σ' => some (some (.tuple []), σ')
        | none => none
      | _, _ => none
    | _ => none
  | .convert a b x => match s2bK C.P a b, gO g x with
    | some e, some (.str bs) => some (some (s2b σ bs), mkRow σ e (bs.map fun c => .int .u8 c.toNat))
    | _, _ => none
  | .makeMap t r => match r with
    | none => some (some (.map σ.size), σ.push (.map [] 0))
    | some _ => none
  | .mapUpdate t m k x => match mpK C.P t, gO g m, gO g k, gO g x with
    | some kk, some u, some v, some y => match muP σ kk.1 u v y with
      | some σ' => some (none, σ')
      | none => none
    | _, _, _, _ => none
  | .insert t m k x => match mpK C.P t, gO g m, gO g k, gO g x with
    | some kk, some u, some v, some y => match muP σ kk.1 u v y with
      | some σ' => some (none, σ')
      | none => none
    | _, _, _, _ => none
  | .range t x => match rgK C.P t, gO g x with
    | true, some (.str bs) => some (some (.iter σ.size), σ.push (.sit bs 0))
    | _, _ => none
  | .next it isS => match isS, gO g it with
    | true, some u => match nxP σ u with
      | some (r, σ') => some (some r, σ')
      | none => none
    | _, _ => none
  | _ => none

def rsVG (C : Ctx) (g : Nat → Option V) (σ : H) : ResultVar → Option V
  | .tmp t => g t
  | .cell a t => match tk C.P t, g a with
    | some (b, n), some v => ldP C.G σ b n v
    | _, _ => none

def rsVsG (C : Ctx) (g : Nat → Option V) (σ : H) : List ResultVar → Option (List V)
  | [] => some []
  | r :: rs => match rsVG C g σ r, rsVsG C g σ rs with
    | some v, some vs => some (v :: vs)
    | _, _ => none

def Looks (g : Nat → Option V) (s : List V) : Prop := ∀ t, g t = s[t]?

variable {g : Nat → Option V} {s : List V}
theorem gO_eq (h : Looks g s) (o : Operand) : gO g o = evO s o := by
  cases o <;> simp only [gO, evO]
  exact h _
theorem gOs_eq (h : Looks g s) : ∀ os, gOs g os = evOs s os
  | [] => rfl
  | o :: os => by simp only [gOs, evOs, gO_eq h, gOs_eq h os]; rfl
theorem gPs_eq (h : Looks g s) : ∀ ps, gPs g ps = evPs s ps
  | [] => rfl
  | (i, o) :: ps => by simp only [gPs, evPs, gO_eq h, gPs_eq h ps]; rfl
theorem gOpt_eq (h : Looks g s) (o : Option Operand) : gOpt g o = evOpt s o := by
  cases o <;> simp only [gOpt, evOpt, gO_eq h] <;> rfl
theorem opR0G_eq (h : Looks g s) (C : Ctx) (σ : H) (op : Op) : opR0G C g σ op = opR0 C s σ op := by
  cases op <;> simp only [opR0G, opR0, gO_eq h, gOs_eq h, gPs_eq h, gOpt_eq h] <;> rfl
theorem opRG_eq (h : Looks g s) (C : Ctx) (σ : H) (op : Op) : opRG C g σ op = opR C s σ op := by
  cases op <;> simp only [opRG, opR, gO_eq h, gOs_eq h, gPs_eq h, gOpt_eq h, opR0G_eq h] <;> rfl
theorem opWG_eq (h : Looks g s) (C : Ctx) (σ : H) (op : Op) : opWG C g σ op = opW C s σ op := by
  cases op <;> simp only [opWG, opW, gO_eq h, gOs_eq h, gPs_eq h, gOpt_eq h] <;> rfl
theorem rsVsG_eq (h : Looks g s) (C : Ctx) (σ : H) : ∀ rs, rsVsG C g σ rs = rsVs C s σ rs
  | [] => rfl
  | r :: rs => by
    have h1 : rsVG C g σ r = rsV C s σ r := by
      cases r with
      | tmp t => exact h _
      | cell a t => simp only [rsVG, rsV]; rw [h]; rfl
    simp only [rsVsG, rsVs, h1, rsVsG_eq h C σ rs]; rfl

def gdG (ops : Array Oper) (o : Oper) (g : Nat → Option V) : Option Bool :=
  match o.guard with
  | none => some true
  | some _ => match guardSlot ops o with
    | some (t, want) => match g t with
      | some (.bool b) => some (decide (b = want))
      | some (.tuple _) => some false
      | _ => none
    | none => none
theorem gdG_eq (h : Looks g s) (ops : Array Oper) (o : Oper) : gdG ops o g = gdB ops o s := by
  unfold gdG gdB
  cases o.guard with
  | none => rfl
  | some p =>
    simp only
    cases guardSlot ops o with
    | none => rfl
    | some q => simp only; rw [h]; rfl

def fzXG (C : Ctx) (g : Nat → Option V) (σ : H) (op : Op) (K : KB) : Bool :=
  match op with
  | .convert a b x => match a == b, C.P.underlying a with
    | true, some (.slice e) => match C.P.underlying e with
      | some (.int .u8) => match gO g x with
        | some (.slice a sz len cb ex) => match σ.isOwn a && decide (0 < cb) && decide (0 < sz) with
          | true => K (.slice a sz len cb ex) σ
          | false => false
        | _ => false
      | _ => false
    | _, _ => false
  | _ => false

/-- One operation; what is known of the program alone goes by C. -/
def opXG (C : Ctx) (E : EnvB) (g : Nat → Option V) (σ : H) (o : Oper) (K : KB) : Bool :=
  match opK C.P o.op with
  | .mv => match opRG C g σ o.op with
    | some v => K v σ
    | none => false
  | .fz => fzXG C g σ o.op K
  | .rd => match opRG C g σ o.op with
    | some v => K v σ
    | none => false
  | .wr => match opWG C g σ o.op with
    | some (r, σ') => K (match r with | some v => v | none => undefV) σ'
    | none => false
  | .call => match o.op with
    | .call c => match c.callee with
      | .value f => match gO g f, gOs g c.args.toList with
        | some u, some vs => match u with
          | .func (.func f) fs cs => match fnOk C.P f with
            | true => E.call f (fs ++ vs ++ cs) σ K
            | false => match C.X f with
              | some k => exB k σ (fs ++ vs ++ cs) K
              | none => false
          | .yld r => E.yield r vs σ K
          | _ => false
        | _, _ => false
      | _ => false
    | _ => false
  | .no => false

theorem opXG_eq {C : Ctx} {E : EnvB} (hC : E.C = C) (h : Looks g s) (σ : H) (o : Oper) (K : KB) : opXG C E g σ o K = opXB E s σ o K := by
  subst hC
  unfold opXG opXB
  split
  · rw [opRG_eq h]
  · generalize o.op = op
    cases op <;> simp only [fzXG, fzXB, gO_eq h]
  · rw [opRG_eq h]
  · rw [opWG_eq h]
    unfold opWXB
    split
    · rename_i r σ' _
      cases r <;> rfl
    · rfl
  · split
    · split
      · rw [gO_eq h, gOs_eq h]
        split
        · rfl
        · rfl
      · rfl
    · rfl
  · rfl

/-! ### Slots in a tree: the same run, faster for the kernel -/

abbrev TV := Tr V

def toL (t : TV) : Nat → Nat → List V
  | _, 0 => []
  | i, n + 1 => (match t.get i with | some v => v | none => undefV) :: toL t (i + 1) n

theorem toL_length (t : TV) : ∀ (n i : Nat), (toL t i n).length = n
  | 0, i => rfl
  | n + 1, i => by simp [toL, toL_length t n]

theorem toL_set (t : TV) (v : V) : ∀ (n i k : Nat), toL (Tr.set v t (i + k)) i n = (toL t i n).set k v
  | 0, i, k => by simp [toL]
  | n + 1, i, k => by
    simp only [toL]
    cases k with
    | zero =>
      simp only [Nat.add_zero, List.set_cons_zero, Tr.get_set, if_true]
      congr 1
      have : ∀ (m j : Nat), i < j → toL (Tr.set v t i) j m = toL t j m := by
        intro m
        induction m with
        | zero => intro j _; rfl
        | succ m ih => intro j hj; simp only [toL, Tr.get_set]; rw [if_neg (by omega), ih (j + 1) (by omega)]
      exact this n (i + 1) (by omega)
    | succ k =>
      simp only [List.set_cons_succ, Tr.get_set]
      rw [if_neg (by omega)]
      have := toL_set t v n (i + 1) k
      rw [show i + 1 + k = i + (k + 1) by omega] at this
      rw [this]

def putT (t : TV) (d : Option Tmp) (v : V) : TV :=
  match d with
  | some k => Tr.set v t k
  | none => t

theorem toL_put (t : TV) (n : Nat) (d : Option Tmp) (v : V) : toL (putT t d v) 0 n = putS (toL t 0 n) d v := by
  cases d with
  | none => rfl
  | some k =>
    have := toL_set t v n 0 k
    rw [Nat.zero_add] at this
    exact this

def ofL : TV → Nat → List V → TV
  | t, _, [] => t
  | t, i, v :: vs => ofL (Tr.set v t i) (i + 1) vs

theorem toL_ofL : ∀ (vs : List V) (t : TV) (i n : Nat), i + vs.length ≤ n → toL (ofL t i vs) 0 n = (toL t 0 n).take i ++ vs ++ (toL t 0 n).drop (i + vs.length)
  | [], t, i, n, h => by simp [ofL]
  | v :: vs, t, i, n, h => by
    simp only [ofL]
    simp only [List.length_cons] at h
    rw [toL_ofL vs _ (i + 1) n (by omega)]
    have := toL_set t v n 0 i
    rw [Nat.zero_add] at this
    rw [this]
    have hi : i < (toL t 0 n).length := by rw [toL_length]; omega
    rw [List.take_set, List.drop_set]
    simp only [List.length_cons]
    rw [if_pos (by omega), List.take_succ_eq_append_getElem hi, List.set_append_right _ _ (by simp; omega)]
    simp only [List.length_take, Nat.min_eq_left (Nat.le_of_lt hi), Nat.sub_self, List.set_cons_zero]
    simp only [List.append_assoc, List.cons_append, List.nil_append]
    congr 2
    rw [show i + 1 + vs.length = i + (vs.length + 1) by omega]

def gT (s : TV) (n : Nat) : Nat → Option V := fun k =>
  match Nat.blt k n with
  | true => match s.get k with
    | some v => some v
    | none => some undefV
  | false => none

theorem toL_get (t : TV) : ∀ (n i k : Nat), (toL t i n)[k]? = if k < n then some (match t.get (i + k) with | some v => v | none => undefV) else none
  | 0, i, k => by simp [toL]
  | n + 1, i, k => by
    simp only [toL]
    cases k with
    | zero => simp
    | succ k =>
      rw [List.getElem?_cons_succ, toL_get t n (i + 1) k, show i + 1 + k = i + (k + 1) by omega]
      by_cases h : k < n
      · rw [if_pos h, if_pos (by omega)]
      · rw [if_neg h, if_neg (by omega)]

theorem gT_looks (t : TV) (n : Nat) : Looks (gT t n) (toL t 0 n) := by
  intro k
  rw [toL_get]
  unfold gT
  by_cases h : k < n
  · rw [if_pos h]
    have : Nat.blt k n = true := by simpa using h
    rw [this, Nat.zero_add]
    simp only
    split <;> rfl
  · rw [if_neg h]
    have : Nat.blt k n = false := by
      cases hb : Nat.blt k n with
      | false => rfl
      | true => exact absurd (by simpa using hb) h
    rw [this]

def looksT (C : Ctx) (n : Nat) (ops : Array Oper) (ms : List Nat) (i : Nat) (σ σ' : H) (rest : Bool) : List (Nat × TV) → Bool
  | [] => rest
  | (j, sj) :: mem => match anc ms j i with
    | true => looksT C n ops ms i σ σ' rest mem
    | false => match ops[j]? with
      | some o => match optEq (opRG C (gT sj n) σ' o.op) (opRG C (gT sj n) σ o.op) with
        | true => looksT C n ops ms i σ σ' rest mem
        | false => false
      | none => false

theorem looksT_eq (C : Ctx) (n : Nat) (ops : Array Oper) (ms : List Nat) (i : Nat) (σ σ' : H) (rest : Bool) : ∀ mem, looksT C n ops ms i σ σ' rest mem = looksB C ops ms i σ σ' rest (mem.map fun p => (p.1, toL p.2 0 n))
  | [] => rfl
  | (j, sj) :: mem => by
    simp only [looksT, looksB, List.map_cons, opRG_eq (gT_looks sj n), looksT_eq C n ops ms i σ σ' rest mem]

def exIxT (C : Ctx) (E : EnvB) (n : Nat) (ops : Array Oper) : List Nat → TV → H → (TV → H → Bool) → Bool
  | [], s, σ, K => K s σ
  | i :: l, s, σ, K => match ops[i]? with
    | none => exIxT C E n ops l s σ K
    | some o => match gdG ops o (gT s n) with
      | some true => opXG C E (gT s n) σ o fun v σ' => exIxT C E n ops l (putT s o.dst v) σ' K
      | some false => exIxT C E n ops l (putT s o.dst undefV) σ K
      | none => false

def dRunT (C : Ctx) (E : EnvB) (n : Nat) (ops : Array Oper) (ms : List Nat) : List Nat → List (Nat × TV) → TV → H → (TV → H → Bool) → Bool
  | [], _, s, σ, K => K s σ
  | i :: l, mem, s, σ, K =>
    match ops[i]? with
    | none => false
    | some o => match gdG ops o (gT s n) with
      | some true => match isEff C.P ops i with
        | true => opXG C E (gT s n) σ o fun v σ' => looksT C n ops ms i σ σ' (dRunT C E n ops ms l mem (putT s o.dst v) σ' K) mem
        | false => opXG C E (gT s n) σ o fun v _ => dRunT C E n ops ms l (match hrd C o.op with | true => (i, s) :: mem | false => mem) (putT s o.dst v) σ K
      | some false => dRunT C E n ops ms l mem (putT s o.dst undefV) σ K
      | none => false

abbrev KxT := Ex → TV → H → Bool

def loopT (body : TV → H → KxT → Bool) : Nat → TV → H → KxT → Bool
  | 0, _, _, _ => false
  | n + 1, s, σ, K => body s σ fun e s' σ' => match e with
    | .normal => loopT body n s' σ' K
    | .exit i => K (.exit i) s' σ'
    | .ret => K .ret s' σ'

def execT (C : Ctx) (E : EnvB) (ro : Option Nat) (n : Nat) : Code → TV → H → KxT → Bool
  | .skip, s, σ, K => K .normal s σ
  | .label _, s, σ, K => K .normal s σ
  | .region id ops draw, s, σ, K => match draw with
    | false => exIxT C E n ops (List.range ops.size) s σ (K .normal)
    | true => match C.P.follows .mixedOrders && dOkF C.P ops (msk ops) (canonF C.P ops (msk ops)) with
      | true => dRunT C E n ops (msk ops) (canonF C.P ops (msk ops)) [] s σ (K .normal)
      | false => false
  | .seq a b, s, σ, K => execT C E ro n a s σ fun e s σ => match e with
    | .normal => execT C E ro n b s σ K
    | .exit i => K (.exit i) s σ
    | .ret => K .ret s σ
  | .cond c x y, s, σ, K => match gO (gT s n) c with
    | some (.bool true) => execT C E ro n x s σ K
    | some (.bool false) => execT C E ro n y s σ K
    | _ => false
  | .block id c, s, σ, K => execT C E ro n c s σ fun e s σ => match e with
    | .exit i => match i == id with
      | true => K .normal s σ
      | false => K (.exit i) s σ
    | .normal => K .normal s σ
    | .ret => K .ret s σ
  | .loop c, s, σ, K => loopT (execT C E ro n c) E.n s σ K
  | .scope c, s, σ, K => execT C E ro n c s σ K
  | .exit id, s, σ, K => K (.exit id) s σ
  | .ret, s, σ, K => K .ret s σ
  | .rangeFunc g ps a b, s, σ, K => match gO (gT s n) g with
    | some u => rangeXB E ro u ps a b (toL s 0 n) σ fun e _ σ => K e s σ
    | none => false
  | _, _, _, _ => false

theorem exIxT_eq {C : Ctx} {E : EnvB} (hC : E.C = C) (n : Nat) (ops : Array Oper) : ∀ (l : List Nat) (s : TV) (σ : H) (KT : TV → H → Bool) (KB' : List V → H → Bool), (∀ s σ, KT s σ = KB' (toL s 0 n) σ) → exIxT C E n ops l s σ KT = exIxB E ops l (toL s 0 n) σ KB'
  | [], s, σ, KT, KB', h => h s σ
  | i :: l, s, σ, KT, KB', h => by
    simp only [exIxT, exIxB, gdG_eq (gT_looks s n), opXG_eq hC (gT_looks s n)]
    have ih := fun s σ => exIxT_eq hC n ops l s σ KT KB' h
    simp only [ih, toL_put]

theorem dRunT_eq {C : Ctx} {E : EnvB} (hC : E.C = C) (n : Nat) (ops : Array Oper) (ms : List Nat) : ∀ (l : List Nat) (mem : List (Nat × TV)) (s : TV) (σ : H) (KT : TV → H → Bool) (KB' : List V → H → Bool), (∀ s σ, KT s σ = KB' (toL s 0 n) σ) →
    dRunT C E n ops ms l mem s σ KT = dRunB E ops ms l (mem.map fun p => (p.1, toL p.2 0 n)) (toL s 0 n) σ KB'
  | [], mem, s, σ, KT, KB', h => h s σ
  | i :: l, mem, s, σ, KT, KB', h => by
    have ih := fun mem s σ => dRunT_eq hC n ops ms l mem s σ KT KB' h
    subst hC
    simp only [dRunT, dRunB, gdG_eq (gT_looks s n), opXG_eq rfl (gT_looks s n), looksT_eq, ih, toL_put]
    cases hh : ops[i]? with
    | none => rfl
    | some o =>
      simp only
      cases hrd E.C o.op <;> simp only [List.map_cons]

theorem loopT_eq {bt : TV → H → KxT → Bool} {bb : List V → H → KxB → Bool} (n : Nat) (hb : ∀ s σ KT KB', (∀ e s σ, KT e s σ = KB' e (toL s 0 n) σ) → bt s σ KT = bb (toL s 0 n) σ KB') :
    ∀ (m : Nat) (s : TV) (σ : H) (KT : KxT) (KB' : KxB), (∀ e s σ, KT e s σ = KB' e (toL s 0 n) σ) → loopT bt m s σ KT = loopB bb m (toL s 0 n) σ KB'
  | 0, s, σ, KT, KB', h => rfl
  | m + 1, s, σ, KT, KB', h => by
    simp only [loopT, loopB]
    refine hb s σ _ _ ?_
    intro e s' σ'
    cases e with
    | normal => exact loopT_eq n hb m s' σ' KT KB' h
    | exit i => exact h _ _ _
    | ret => exact h _ _ _

theorem rangeKB_slots (rid : Nat) (s : List V) (K K' : KxB) (h : ∀ e σ, K e s σ = K' e s σ) : rangeKB rid s K = rangeKB rid s K' := by
  funext v σ
  unfold rangeKB
  split
  · split
    · rfl
    · split <;> first | rfl | exact h _ _
  · rfl

theorem execT_eq {C : Ctx} {E : EnvB} (hC : E.C = C) (ro : Option Nat) (n : Nat) : ∀ (c : Code) (s : TV) (σ : H) (KT : KxT) (KB' : KxB), (∀ e s σ, KT e s σ = KB' e (toL s 0 n) σ) → execT C E ro n c s σ KT = execB E ro c (toL s 0 n) σ KB' := by
  intro c
  induction c with
  | skip => intro s σ KT KB' h; exact h _ _ _
  | label l => intro s σ KT KB' h; exact h _ _ _
  | exit id => intro s σ KT KB' h; exact h _ _ _
  | ret => intro s σ KT KB' h; exact h _ _ _
  | goto l => intro s σ KT KB' h; rfl
  | refuse l => intro s σ KT KB' h; rfl
  | region id ops draw =>
    intro s σ KT KB' h
    cases draw with
    | false => exact exIxT_eq hC n ops _ s σ _ _ (fun s σ => h _ _ _)
    | true =>
      simp only [execT, execB, ← hC]
      split
      · rw [hC]
        exact dRunT_eq hC n ops _ _ _ s σ _ _ (fun s σ => h _ _ _)
      · rfl
  | seq a b iha ihb =>
    intro s σ KT KB' h
    simp only [execT, execB]
    refine iha s σ _ _ ?_
    intro e s σ
    cases e with
    | normal => exact ihb s σ KT KB' h
    | exit i => exact h _ _ _
    | ret => exact h _ _ _
  | cond c x y ihx ihy =>
    intro s σ KT KB' h
    simp only [execT, execB, gO_eq (gT_looks s n)]
    split
    · exact ihx s σ KT KB' h
    · exact ihy s σ KT KB' h
    · rfl
  | block id c ih =>
    intro s σ KT KB' h
    simp only [execT, execB]
    refine ih s σ _ _ ?_
    intro e s σ
    cases e with
    | normal => exact h _ _ _
    | ret => exact h _ _ _
    | exit i =>
      simp only
      split <;> exact h _ _ _
  | loop c ih =>
    intro s σ KT KB' h
    simp only [execT, execB]
    exact loopT_eq n ih E.n s σ KT KB' h
  | scope c ih => intro s σ KT KB' h; exact ih s σ KT KB' h
  | rangeFunc g ps a b iha ihb =>
    intro s σ KT KB' h
    simp only [execT, execB, gO_eq (gT_looks s n)]
    split
    · rename_i u hu
      unfold rangeXB
      split
      · split
        · rw [rangeKB_slots σ.size (toL s 0 n) (fun e _ σ => KT e s σ) KB' (fun e σ => h e s σ)]
        · rfl
      · rfl
    · rfl

def bodyT (C : Ctx) (E : EnvB) (fn : Func) (args : List V) (σ : H) (K : KB) : Bool :=
  match fn.body with
  | none => false
  | some c => match Nat.ble args.length fn.ntmps with
    | true => execT C E none fn.ntmps c (ofL .nil 0 args) σ fun e s σ => match e with
      | .exit _ => false
      | _ => match rsVsG C (gT s fn.ntmps) σ fn.results.toList with
        | some vs => K (oneV vs) σ
        | none => false
    | false => false

theorem toL_nil : ∀ (n i : Nat), toL .nil i n = List.replicate n undefV
  | 0, i => rfl
  | n + 1, i => by simp only [toL, Tr.get, toL_nil n, List.replicate_succ]

theorem bodyT_sound {C : Ctx} {E : EnvB} (hC : E.C = C) {fn : Func} {args : List V} {σ : H} {K : KB} (h : bodyT C E fn args σ K = true) : bodyB E fn args σ K = true := by
  unfold bodyT at h
  unfold bodyB
  split at h
  · cases h
  · rename_i c hc
    split at h
    · rename_i hle
      have hle := Nat.le_of_ble_eq_true hle
      rw [execT_eq hC none fn.ntmps c _ σ _ (bodyKB E fn K) (fun e s σ => by cases e <;> simp only [bodyKB, rsVsG_eq (gT_looks s fn.ntmps), hC])] at h
      rw [toL_ofL args .nil 0 fn.ntmps (by omega)] at h
      simp only [List.take_zero, List.nil_append, Nat.zero_add, toL_nil, List.drop_replicate] at h
      exact h
    · cases h

def roundXT (C : Ctx) (E : EnvB) (rid : Nat) (args : List V) (σ : H) (K : KB) : Bool :=
  match σ.get rid with
  | some (.loop l) => match args.length == l.params.size with
    | true => execT C E (some rid) l.tmps.length l.assign (ofL .nil 0 (putMany l.tmps (l.params.toList.zip args))) σ fun e s1 σ1 => match e with
      | .normal => match σ1.get rid with
        | some (.loop l1) => match l1.state with
          | .ready => execT C E (some rid) l.tmps.length l.body s1 (σ1.set rid (.loop { l1 with state := .busy })) fun e s σ => roundEndB rid K e (toL s 0 l.tmps.length) σ
          | _ => false
        | _ => false
      | _ => false
    | false => false
  | _ => false

theorem putMany_length : ∀ (l : List (Tmp × V)) (s : List V), (putMany s l).length = s.length
  | [], s => rfl
  | (t, v) :: l, s => by simp [putMany, putMany_length l]

theorem roundXT_sound {C : Ctx} {E : EnvB} (hC : E.C = C) {rid : Nat} {args : List V} {σ : H} {K : KB} (h : roundXT C E rid args σ K = true) : roundXB E rid args σ K = true := by
  unfold roundXT at h
  unfold roundXB
  split at h
  · rename_i l hl
    split at h
    · rename_i hlen
      rw [execT_eq hC (some rid) l.tmps.length l.assign _ σ _ (fun e s1 σ1 => match e with
        | .normal => match σ1.get rid with
          | some (.loop l1) => match l1.state with
            | .ready => execB E (some rid) l.body s1 (σ1.set rid (.loop { l1 with state := .busy })) (roundEndB rid K)
            | _ => false
          | _ => false
        | _ => false) ?_] at h
      · rw [toL_ofL _ .nil 0 _ (by rw [putMany_length]; omega)] at h
        simp only [List.take_zero, List.nil_append, Nat.zero_add, toL_nil, putMany_length, List.drop_replicate, Nat.sub_self, List.replicate_zero, List.append_nil] at h
        exact h
      · intro e s1 σ1
        cases e with
        | exit i => rfl
        | ret => rfl
        | normal =>
          simp only
          split
          · split
            · exact execT_eq hC (some rid) l.tmps.length l.body _ _ _ _ (fun _ _ _ => rfl)
            · rfl
          · rfl
    · cases h
  · cases h

/-! ### Levels of calls -/

/-- The machine of so many levels of calls. -/
def envN (C : Ctx) (rounds : Nat) : Nat → EnvB
  | 0 => ⟨C, fun _ _ _ _ => false, fun _ _ _ _ => false, rounds⟩
  | n + 1 => ⟨C, fun f args σ K => match C.P.funcs[f]? with
      | some fn => bodyT C (envN C rounds n) fn args σ K
      | none => false, fun r args σ K => roundXT C (envN C rounds n) r args σ K, rounds⟩


theorem envN_C (C : Ctx) (r n : Nat) : (envN C r n).C = C := by cases n <;> rfl
theorem envN_n (C : Ctx) (r n : Nat) : (envN C r n).n = r := by cases n <;> rfl

theorem envN_sim {C0 C : Ctx} (hP : C0.P = C.P) (hG : C0.G = C.G) (hX : C0.X = C.X) (r : Nat) : ∀ n, Sim (envN C0 r n) ⟨C, best C, bestY C, r, fun _ => none⟩
  | 0 => ⟨hP, hG, hX, rfl, fun _ _ _ _ h => (by cases h), fun _ _ _ _ h => (by cases h)⟩
  | n + 1 => by
    have hM : EMono ⟨C, best C, bestY C, r, fun _ => none⟩ := ⟨best_mono C, bestY_mono C⟩
    refine ⟨hP, hG, hX, rfl, ?_, ?_⟩
    · intro f args σ K h
      simp only [envN] at h
      split at h
      · rename_i fn hf
        intro ρ w xs hR hx
        exact bodyB_sound (envN_sim hP hG hX r n) (best_ok C) (bestY_ok C) hM (by rw [← hP]; exact hf) (bodyT_sound (envN_C _ _ _) h) hR hx
      · cases h
    · intro rid args σ K h
      exact roundB_sound (envN_sim hP hG hX r n) (best_ok C) (bestY_ok C) hM (roundXT_sound (envN_C _ _ _) h)

/-- A run that the kernel carries out is a contract. -/
theorem best_of_run {C : Ctx} {P : Program} {G : Nat → List V} {X : FuncId → Option XK} (hP : P = C.P) (hG : G = C.G) (hX : X = C.X) (r n : Nat) {f : FuncId} {args : List V} {σ : H} {K : KB} (h : (envN ⟨0, default, P, G, X⟩ r n).call f args σ K = true) :
    best C f args σ (fun v σ => K v σ = true) := (envN_sim (C0 := ⟨0, default, P, G, X⟩) hP hG hX r n).call f args σ K h

/-! ### A run apart: of values alone, in whatever heap -/

theorem Rl.frame {C : Ctx} {ρ : Pl} {σ : H} {w w' : World} (hR : Rl C ρ σ w) (hb : Below w.heap.size w w') : Rl C ρ σ w' := by
  have hold : ∀ b, b < w.heap.size → w'.heap[b]? = w.heap[b]? := fun b h => hb.block b h
  have hsz : w.heap.size ≤ w'.heap.size := hb.size
  refine { toRel := { below := hR.below.trans (hb.mono hR.base), base := Nat.le_trans hR.base hsz, dom := ?_, vers := hR.vers, low := hR.low, row := ?_, disj := hR.disj, fr := ?_, same := hR.same, obj := ?_, dfr := ?_ }, glob := hR.glob, ext := hR.ext }
  · intro i v p h
    obtain ⟨h1, h2, h3⟩ := hR.dom _ _ _ h
    exact ⟨h1, by omega, h3⟩
  · intro i r v hg hl hv
    obtain ⟨p, hp, h⟩ := hR.row _ _ _ hg hl hv
    exact ⟨p, hp, h.step (Ext.refl _) (hold _ (hR.dom _ _ _ hp).2.1)⟩
  · intro i v p o hp hg ho
    exact (hR.fr _ _ _ _ hp hg ho).of_block (hold _ (hR.dom _ _ _ hp).2.1)
  · intro i o hg ho
    obtain ⟨p, x, h1, h2, h3, h4⟩ := hR.obj _ _ hg ho
    exact ⟨p, x, h1, h2, by rw [hold _ (hR.dom _ _ _ h1).2.1]; exact h3, h4⟩
  · intro b hb
    obtain ⟨h1, h2⟩ := hR.dfr b hb
    exact ⟨h1, by rw [hold _ (heap_lt h2)]; exact h2⟩

def H0 : H := H.empty
def ρ0 : Pl := ⟨fun _ _ => none, []⟩

theorem flatVR {ρ ρ' : Pl} {v : V} {x : Value} (h : VR ρ v x) (hb : V.bel 0 v) : VR ρ' v x :=
  (h.cut hb).extM (fun i v p e => by rw [Pl.cut_at] at e; simp at e)
theorem flatVRs {ρ ρ' : Pl} {vs : List V} {xs : List Value} (h : VRs ρ vs xs) (hb : V.bels 0 vs) : VRs ρ' vs xs :=
  (h.cut hb).extM (fun i v p e => by rw [Pl.cut_at] at e; simp at e)

theorem Rl.zero {C : Ctx} {ρ : Pl} {σ : H} {w : World} (hR : Rl C ρ σ w) (hF : ∀ (g j : Nat) (v : V), (C.G g)[j]? = some v → V.bel 0 v) : Rl ⟨w.heap.size, w, C.P, C.G, C.X⟩ ρ0 H0 w := by
  have hg : ∀ i o, H0.get i = some o → False := fun i o h => by simp [H0, H.empty, H.get_def] at h
  refine { toRel := { below := Below.refl _ _, base := Nat.le_refl _, dom := fun i v p h => by simp [ρ0] at h, vers := fun i v p r h => by simp [ρ0] at h, low := fun i r h => (hg _ _ h).elim, row := fun i r v h => (hg _ _ h).elim, disj := fun i j v u p q o o' _ h => by simp [ρ0] at h, fr := fun i v p o h => by simp [ρ0] at h, same := fun i v u p q h => by simp [ρ0] at h, obj := fun i o h => (hg _ _ h).elim, dfr := fun b h => by simp [ρ0] at h }, glob := ?_, ext := hR.ext }
  intro g j v h
  obtain ⟨h1, y, h2, h3⟩ := hR.glob g j v h
  have hB : C.B ≤ w.heap.size := hR.base
  refine ⟨Nat.lt_of_lt_of_le h1 hB, y, ?_, flatVR h3 (hF g j v h)⟩
  show w.cell? ⟨g, j, none⟩ = some y
  rw [World.cell?_of_block (w := C.W0) (a := ⟨g, j, none⟩) (hR.below.block _ h1)]
  exact h2

theorem best_apart {C : Ctx} {f : FuncId} {args : List V} {σ : H} {K : V → H → Prop} (hF : ∀ (g j : Nat) (v : V), (C.G g)[j]? = some v → V.bel 0 v) (Q : V → Prop) (h : ∀ B W0, best ⟨B, W0, C.P, C.G, C.X⟩ f args H0 (fun v _ => Q v)) (ha : V.bels 0 args) (hQ : ∀ v, Q v → V.bel 0 v ∧ K v σ) : best C f args σ K := by
  intro ρ w xs hR hx
  refine (h w.heap.size w ρ0 w xs (hR.zero hF) (flatVRs hx ha)).mono ?_
  rintro e w' ⟨v, σ', ρ', x, hq, rfl, _, hR', hv⟩
  obtain ⟨h1, h2⟩ := hQ v hq
  exact ⟨v, σ, ρ, x, h2, rfl, Ext.refl _, hR.frame hR'.below, flatVR hv h1⟩

/-- A function that answers a Bool out of values alone: by the kernel's run. -/
theorem best_run {C : Ctx} {P : Program} {G : Nat → List V} {X : FuncId → Option XK} (hP : P = C.P) (hG : G = C.G) (hX : X = C.X) (r n : Nat) {f : FuncId} {args : List V} {σ : H} {K : V → H → Prop} (b : Bool) (hF : ∀ (g j : Nat) (v : V), (C.G g)[j]? = some v → V.bel 0 v)
    (h : (envN ⟨0, default, P, G, X⟩ r n).call f args H0 (fun v _ => V.beq v (.bool b)) = true) (ha : V.bels 0 args) (hK : K (.bool b) σ) : best C f args σ K := by
  refine best_apart hF (fun v => v = .bool b) (fun B W0 => ?_) ha (fun v hv => by subst hv; exact ⟨trivial, hK⟩)
  refine best_mono _ _ _ _ _ _ ?_ (best_of_run (C := ⟨B, W0, C.P, C.G, C.X⟩) hP hG hX r n h)
  intro v σ' hk
  exact V.beq_eq hk

end Go.Am
