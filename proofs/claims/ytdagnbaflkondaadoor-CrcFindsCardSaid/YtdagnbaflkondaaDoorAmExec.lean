/-
  AM: operations with an effect; regions in the order of the text; code; calls. (Lemmas alone; no program.)
-/
import Derived.Test.YtdagnbaflkondaaDoorAmFreeze
set_option linter.unusedVariables false
set_option linter.unusedSimpArgs false
namespace Go.Am
open Go Go.RowKit

abbrev Call := FuncId → List V → H → (V → H → Prop) → Prop

structure Env where
  C : Ctx
  call : Call
  n : Nat

def need {α : Type} (x : Option α) (K : α → Prop) : Prop := ∃ v, x = some v ∧ K v

@[congr] theorem need_congr {α : Type} {x y : Option α} {K : α → Prop} (h : x = y) : need x K = need y K := by rw [h]
theorem need_some {α : Type} (v : α) (K : α → Prop) : need (some v) K = K v := by simp [need]
theorem need_none {α : Type} (K : α → Prop) : need none K = False := by simp [need]

/-- The kinds of an operation: it reads, it works on memory, it calls. -/
inductive OK where
  | mv
  | fz
  | rd
  | wr
  | call
  | no

def opK : Op → OK
  | .move _ | .assign _ | .makeInterface .. | .makeFunc .. => .mv
  | .convert a b _ => match a == b with
    | true => .fz
    | false => .rd
  | .pick .. | .build .. | .load .. | .nilCheck _ | .binOp .. | .unOp .. | .slice .. | .fieldAddr .. | .field .. | .indexAddr .. | .index .. | .extract .. => .rd
  | .alloc _ | .box .. | .buildSlice .. | .store .. | .makeSlice .. => .wr
  | .call c => match c.callee with
    | .builtin .len | .builtin .max | .builtin .min => .rd
    | .builtin .append => .wr
    | .value _ => .call
    | _ => .no
  | _ => .no

/-- What an operation on memory answers (none: nothing), and the heap behind it. -/
def opW (C : Ctx) (s : List V) (σ : H) (op : Op) : Option (Option V × H) :=
  match op with
  | .alloc e => match zeroV C.P e with
    | some v => some (some (.ptr (newPA σ v.cellsV.length)), mkRow σ e v.cellsV)
    | none => none
  | .box e x => match evO s x with
    | some v => some (some (.ptr (newPA σ v.cellsV.length)), mkRow σ e v.cellsV)
    | none => none
  | .buildSlice t n ps => match slInfo C.P t, evPs s ps.toList with
    | some k, some vs => match bsP k n vs with
      | some cs => some (some (wholeSl σ k.sz n), mkRow σ k.elem cs)
      | none => none
    | _, _ => none
  | .store t a x => match tk C.P t, evO s a, evO s x with
    | some (_, n), some u, some v => match stP σ n u v with
      | some σ' => some (none, σ')
      | none => none
    | _, _, _ => none
  | .makeSlice t l c => match slInfo C.P t, evO s l, evO s c with
    | some k, some u, some v => match msP k u v with
      | some (n, m) => some (some (.slice (newPA σ (m * k.sz)) k.sz n m true), mkRow σ k.elem (zeros k m))
      | none => none
    | _, _, _ => none
  | .call c => match c.callee with
    | .builtin .append => match apK C.P c.argTypes, evOs s c.args.toList with
      | some k, some [u, v] => match apP σ k u v with
        | some (r, σ') => some (some r, σ')
        | none => none
      | _, _ => none
    | _ => none
  | _ => none

variable {C : Ctx} {ρ : Pl} {σ : H} {w : World}

/-- What the model's operation comes to: a value, or nothing. -/
def Ans (ρ : Pl) : Option V → Next → Prop
  | some v, n => ∃ x, n = .value x ∧ VR ρ v x
  | none, n => n = .skip

theorem opW_sound (hR : Rl C ρ σ w) {s : List V} {a : Act} (hs : VRs ρ s a.tmps.toList) {o : Oper} {r : Option V} {σ' : H} (h : opW C s σ o.op = some (r, σ')) :
    ∃ ρ' w' n, (execOp a.eval o).run C.P w = .ok n w' ∧ Ext ρ ρ' ∧ Rl C ρ' σ' w' ∧ Ans ρ' r n := by
  have lift : ∀ (m : Sem Value) (x : Value) (w' : World), m.run C.P w = .ok x w' → (do pure (Next.value (← m)) : Sem Next).run C.P w = .ok (.value x) w' := by
    intro m x w' hm
    simp [hm]
  unfold opW at h
  split at h
  · rename_i e hop
    split at h
    · rename_i v hv
      cases h
      obtain ⟨ρ', w', y, h1, h2, h3, h4⟩ := alloc_sound hR e hv
      exact ⟨ρ', w', .value y, by simp only [execOp, hop]; exact lift _ _ _ h1, h2, h3, y, rfl, h4⟩
    · simp at h
  · rename_i e x hop
    split at h
    · rename_i v hv
      cases h
      obtain ⟨ρ', w', y, h1, h2, h3, h4⟩ := box_sound hR e (evO_sound hs hv)
      exact ⟨ρ', w', .value y, by simp only [execOp, hop]; exact lift _ _ _ h1, h2, h3, y, rfl, h4⟩
    · simp at h
  · rename_i t n ps hop
    split at h
    · rename_i k vs hk hvs
      split at h
      · rename_i cs hcs
        cases h
        obtain ⟨ρ', w', y, h1, h2, h3, h4⟩ := bs_sound hR (xs := ps.map fun (i, x) => (i, a.eval x)) hk (by simpa using evPs_sound hs hvs) hcs
        exact ⟨ρ', w', .value y, by simp only [execOp, hop]; exact lift _ _ _ h1, h2, h3, y, rfl, h4⟩
      · simp at h
    · simp at h
  · rename_i t p x hop
    split at h
    · rename_i b n u v hk hu hv
      split at h
      · rename_i σ2 hst
        cases h
        obtain ⟨w', h1, h2⟩ := st_sound hR hk (evO_sound hs hu) (evO_sound hs hv) hst
        exact ⟨ρ, w', .skip, by simp [execOp, hop, h1], Ext.refl _, h2, rfl⟩
      · simp at h
    · simp at h
  · rename_i t l c hop
    split at h
    · rename_i k u v hk hu hv
      split at h
      · rename_i n m hm
        cases h
        obtain ⟨ρ', w', y, h1, h2, h3, h4⟩ := ms_sound hR hk (evO_sound hs hu) (evO_sound hs hv) hm
        exact ⟨ρ', w', .value y, by simp only [execOp, hop]; exact lift _ _ _ h1, h2, h3, y, rfl, h4⟩
      · simp at h
    · simp at h
  · rename_i c hop
    split at h
    · rename_i hcal
      split at h
      · rename_i k u v hk hvs
        split at h
        · rename_i r2 σ2 hap
          cases h
          have hvr := evOs_sound hs hvs
          simp only [VRs] at hvr
          obtain ⟨x, xs, e, hx, y, ys, e2, hy, e3⟩ := hvr
          subst e3 e2
          have hargs : c.args.map a.eval = #[x, y] := by apply Array.ext'; simpa using e
          obtain ⟨ρ', w', z, h1, h2, h3, h4⟩ := ap_sound (ty := o.type) hR hk hx hy hap
          refine ⟨ρ', w', .value z, ?_, h2, h3, z, rfl, h4⟩
          simp only [execOp, hop, resolve, hcal, Sem.run_bind, Sem.run_pure, Result.andThen_ok, invoke, builtin, hargs, h1]
        · simp at h
      · simp at h
    · simp at h
  · simp at h

/-! ### Calls -/

/-- May this function be entered? -/
def fnOk (P : Program) (g : FuncId) : Bool :=
  match P.funcs[g]? with
  | some fn => fn.body.isSome && !(fn.name == "runtime.NumGoroutine")
  | none => false

/-- A function value is called. -/
def callV (E : Env) (f : V) (args : List V) (σ : H) (K : V → H → Prop) : Prop :=
  match f with
  | .func (.func g) fs cs => if fnOk E.C.P g = true then E.call g (fs ++ args ++ cs) σ K else False
  | _ => False

def CallOk (C : Ctx) (call : Call) : Prop :=
  ∀ (f : FuncId) (args : List V) (σ : H) (K : V → H → Prop), call f args σ K → ∀ (ρ : Pl) (w : World) (xs : List Value), Rl C ρ σ w → VRs ρ args xs →
    Calls C.P f xs.toArray w fun e w' => ∃ v σ' ρ' x, K v σ' ∧ e = .returned x ∧ Ext ρ ρ' ∧ Rl C ρ' σ' w' ∧ VR ρ' v x

def undefV : V := .tuple []

def putS (s : List V) (d : Option Tmp) (v : V) : List V :=
  match d with
  | some t => s.set t v
  | none => s

theorem putS_rel {s : List V} {a : Act} {d : Option Tmp} {v : V} {x : Value} (hs : VRs ρ s a.tmps.toList) (hv : VR ρ v x) : VRs ρ (putS s d v) (a.put d x).tmps.toList := by
  cases d with
  | none => exact hs
  | some t => simpa [putS, Act.put] using hs.set hv

theorem put_defers (a : Act) (d : Option Tmp) (x : Value) : (a.put d x).defers = a.defers := by cases d <;> rfl

theorem undef_rel : VR ρ undefV undef := by simp only [undefV, VR]; exact ⟨#[], rfl, by simp [VRs]⟩

/-- The operations on memory, each handed what follows it. -/
def boxX (σ : H) (e : TypeId) (v : V) (K : V → H → Prop) : Prop := K (.ptr (newPA σ v.cellsV.length)) (mkRow σ e v.cellsV)
def storeX (σ : H) (n : Nat) (u v : V) (K : V → H → Prop) : Prop := need (stP σ n u v) fun σ' => K undefV σ'
def litX (σ : H) (k : SlK) (n : Nat) (ps : List (Nat × V)) (K : V → H → Prop) : Prop := need (bsP k n ps) fun cs => K (wholeSl σ k.sz n) (mkRow σ k.elem cs)
def makeX (σ : H) (k : SlK) (l c : V) (K : V → H → Prop) : Prop := need (msP k l c) fun r => K (.slice (newPA σ (r.2 * k.sz)) k.sz r.1 r.2 true) (mkRow σ k.elem (zeros k r.2))
def appX (σ : H) (k : SlK) (u v : V) (K : V → H → Prop) : Prop := need (apP σ k u v) fun r => K r.1 r.2

def opWX (C : Ctx) (s : List V) (σ : H) (op : Op) (K : V → H → Prop) : Prop :=
  match op with
  | .alloc e => match zeroV C.P e with
    | some v => boxX σ e v K
    | none => False
  | .box e x => match evO s x with
    | some v => boxX σ e v K
    | none => False
  | .buildSlice t n ps => match slInfo C.P t, evPs s ps.toList with
    | some k, some vs => litX σ k n vs K
    | _, _ => False
  | .store t a x => match tk C.P t, evO s a, evO s x with
    | some (_, n), some u, some v => storeX σ n u v K
    | _, _, _ => False
  | .makeSlice t l c => match slInfo C.P t, evO s l, evO s c with
    | some k, some u, some v => makeX σ k u v K
    | _, _, _ => False
  | .call c => match c.callee with
    | .builtin .append => match apK C.P c.argTypes, evOs s c.args.toList with
      | some k, some [u, v] => appX σ k u v K
      | _, _ => False
    | _ => False
  | _ => False

theorem opWX_opW {C : Ctx} {s : List V} {σ : H} {op : Op} {K : V → H → Prop} (h : opWX C s σ op K) : ∃ r σ', opW C s σ op = some (r, σ') ∧ K (r.getD undefV) σ' := by
  unfold opWX at h
  unfold opW
  split at h
  · split at h
    · rename_i v hv; exact ⟨some (.ptr (newPA σ v.cellsV.length)), mkRow σ _ v.cellsV, by simp only [hv], h⟩
    · exact h.elim
  · split at h
    · rename_i v hv; exact ⟨some (.ptr (newPA σ v.cellsV.length)), mkRow σ _ v.cellsV, by simp only [hv], h⟩
    · exact h.elim
  · split at h
    · rename_i n _ k vs hk hv
      obtain ⟨cs, hcs, hk2⟩ := h
      exact ⟨some (wholeSl σ k.sz _), mkRow σ k.elem cs, by simp only [hk, hv, hcs], hk2⟩
    · exact h.elim
  · split at h
    · rename_i b n u v hk hu hv
      obtain ⟨σ', hs, hk2⟩ := h
      exact ⟨none, σ', by simp only [hk, hu, hv, hs], hk2⟩
    · exact h.elim
  · split at h
    · rename_i k u v hk hu hv
      obtain ⟨⟨n, m⟩, hr, hk2⟩ := h
      exact ⟨some (.slice (newPA σ (m * k.sz)) k.sz n m true), mkRow σ k.elem (zeros k m), by simp only [hk, hu, hv, hr], hk2⟩
    · exact h.elim
  · split at h
    · split at h
      · rename_i hc k u v hk hv
        obtain ⟨⟨r, σ'⟩, hr, hk2⟩ := h
        exact ⟨some r, σ', by simp only [hk, hv, hr], hk2⟩
      · exact h.elim
    · exact h.elim
  · exact h.elim

/-- Bytes that are written out, as a slice. -/
def fzX (C : Ctx) (s : List V) (σ : H) (op : Op) (K : V → H → Prop) : Prop :=
  match op with
  | .convert a b x => match a == b, C.P.underlying a with
    | true, some (.slice e) => match C.P.underlying e with
      | some (.int .u8) => match evO s x with
        | some v => frzX σ v K
        | none => False
      | _ => False
    | _, _ => False
  | _ => False

theorem fzX_sound {C : Ctx} {ρ : Pl} {σ : H} {w : World} (hR : Rl C ρ σ w) {s : List V} {a : Act} (hs : VRs ρ s a.tmps.toList) {o : Oper} {K : V → H → Prop} (h : fzX C s σ o.op K) :
    ∃ v x w', (execOp a.eval o).run C.P w = .ok (.value x) w' ∧ VR ρ v x ∧ Rl C ρ σ w' ∧ K v σ := by
  unfold fzX at h
  split at h
  · rename_i ta tb x hop
    split at h
    · rename_i e hab hu
      have hab : ta = tb := by simpa using hab
      subst hab
      split at h
      · rename_i he
        split at h
        · rename_i v hv
          have hvr := evO_sound hs hv
          obtain ⟨w', h1, h2, h3⟩ := frz_sound hR hu he hvr h
          exact ⟨v, a.eval x, w', by simp [execOp, hop, h1], hvr, h2, h3⟩
        · exact h.elim
      · exact h.elim
    · exact h.elim
  · exact h.elim

/-- One operation. -/
def opX (E : Env) (s : List V) (σ : H) (o : Oper) (K : V → H → Prop) : Prop :=
  match opK o.op with
  | .mv => match opR E.C s σ o.op with
    | some v => K v σ
    | none => False
  | .fz => fzX E.C s σ o.op K
  | .rd => need (opR E.C s σ o.op) fun v => K v σ
  | .wr => opWX E.C s σ o.op K
  | .call => match o.op with
    | .call c => match c.callee with
      | .value f => match evO s f, evOs s c.args.toList with
        | some u, some vs => callV E u vs σ K
        | _, _ => False
      | _ => False
    | _ => False
  | .no => False

theorem opX_sound {E : Env} (hC : CallOk E.C E.call) (hR : Rl E.C ρ σ w) {s : List V} {a : Act} (hs : VRs ρ s a.tmps.toList) {o : Oper} {K : V → H → Prop} (h : opX E s σ o K)
    {next : Act → World → Prop} {Q : Exit → Act → World → Prop}
    (hK : ∀ v σ' ρ' x w', K v σ' → Ext ρ ρ' → Rl E.C ρ' σ' w' → VR ρ' v x → next (a.put o.dst x) w') : o.wp E.C.P a w next Q := by
  unfold opX at h
  unfold Oper.wp
  split at h
  · split at h
    · rename_i v hv
      obtain ⟨x, hx, hr⟩ := opR_sound hR hs hv
      rw [hx, Oper.upon_value]
      exact hK _ _ _ _ _ h (Ext.refl _) hR hr
    · exact h.elim
  · obtain ⟨v, x, w', hx, hv, hR', hk⟩ := fzX_sound hR hs h
    rw [hx, Oper.upon_value]
    exact hK _ _ _ _ _ hk (Ext.refl _) hR' hv
  · obtain ⟨v, hv, hk⟩ := h
    obtain ⟨x, hx, hr⟩ := opR_sound hR hs hv
    rw [hx, Oper.upon_value]
    exact hK _ _ _ _ _ hk (Ext.refl _) hR hr
  · obtain ⟨r, σ', hv, hk⟩ := opWX_opW h
    obtain ⟨ρ', w', n, hx, he, hR', hr⟩ := opW_sound hR hs hv
    rw [hx]
    cases r with
    | some v =>
      obtain ⟨x, rfl, hvr⟩ := hr
      rw [Oper.upon_value]
      exact hK _ _ _ _ _ hk he hR' hvr
    | none =>
      have : n = .skip := hr
      subst this
      rw [Oper.upon_skip]
      exact hK _ _ _ _ _ hk he hR' undef_rel
  · split at h
    · rename_i c hop
      split at h
      · rename_i f hcal
        split at h
        · rename_i u vs hu hvs
          unfold callV at h
          split at h
          · rename_i g fs cs
            split at h
            · rename_i hok
              have hf := evO_sound hs hu
              simp only [VR] at hf
              obtain ⟨f1, c1, e, hf1, hc1⟩ := hf
              have hv := evOs_sound hs hvs
              have hcalls := hC _ _ _ _ h ρ w (f1.toList ++ c.args.toList.map a.eval ++ c1.toList) hR ((hf1.append hv).append hc1)
              have hfn : ∃ fn, E.C.P.funcs[g]? = some fn ∧ fn.body.isNone = false ∧ (fn.name == "runtime.NumGoroutine") = false := by
                unfold fnOk at hok
                split at hok
                · rename_i fn hfn
                  simp only [Bool.and_eq_true, Bool.not_eq_true'] at hok
                  refine ⟨fn, hfn, ?_, hok.2⟩
                  cases hb : fn.body <;> simp_all
                · simp at hok
              obtain ⟨fn, hfn, hb, hnm⟩ := hfn
              have hrun : (execOp a.eval o).run E.C.P w = .ok (.enter g (f1.toList ++ c.args.toList.map a.eval ++ c1.toList).toArray) w := by
                have hae : (f1.toList ++ c.args.toList.map a.eval ++ c1.toList).toArray = f1 ++ c.args.map a.eval ++ c1 := by
                  apply Array.ext'; simp
                rw [hae]
                simp only [execOp, hop, resolve, hcal, e, Deferred.ofValue, Sem.run_bind, Sem.run_pure, Result.andThen_ok, invoke, callFunc, run_program, hfn, hnm, hb, Bool.false_eq_true, if_false]
              rw [hrun, Oper.upon_enter]
              refine hcalls.mono ?_
              rintro e' w' ⟨v, σ', ρ', x, hk, rfl, he, hR', hvr⟩
              exact hK _ _ _ _ _ hk he hR' hvr
            · exact h.elim
          · exact h.elim
        · exact h.elim
      · exact h.elim
    · exact h.elim
  · exact h.elim

end Go.Am
