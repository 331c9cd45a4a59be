/-
  AM: code, loops; bodies. (Lemmas alone; no program.)
-/
import Derived.Test.YtdagnbaflkondaaDoorAmKnown
import Derived.LoopN
set_option linter.unusedVariables false
set_option linter.unusedSimpArgs false
namespace Go.Am
open Go Go.RowKit
variable {ρ : Pl} {σ : H} {w : World} {E : Env}

/-! ### Code -/

inductive Ex where
  | normal
  | exit (id : Nat)
  | ret

def cnd (v : Option V) (x y : Prop) : Prop :=
  match v with
  | some (.bool b) => if b = true then x else y
  | _ => False

abbrev Kx := Ex → List V → H → Prop

def loopN (body : List V → H → Kx → Prop) : Nat → List V → H → Kx → Prop
  | 0, _, _, _ => False
  | n + 1, s, σ, K => body s σ fun e s' σ' => match e with
    | .normal => loopN body n s' σ' K
    | .exit i => K (.exit i) s' σ'
    | .ret => K .ret s' σ'

def seqK (rest : List V → H → Kx → Prop) (K : Kx) : Kx := fun e s σ =>
  match e with
  | .normal => rest s σ K
  | .exit i => K (.exit i) s σ
  | .ret => K .ret s σ

def blkK (id : Nat) (K : Kx) : Kx := fun e s σ =>
  match e with
  | .exit i => if i = id then K .normal s σ else K (.exit i) s σ
  | .normal => K .normal s σ
  | .ret => K .ret s σ

def exec (E : Env) : Code → List V → H → Kx → Prop
  | .skip, s, σ, K => K .normal s σ
  | .label _, s, σ, K => K .normal s σ
  | .region id ops draw, s, σ, K => match draw with
    | false => exIxF E ops (List.range ops.size) [] s σ (K .normal)
    | true => if E.C.P.follows .mixedOrders = true ∧ dOk ops (msk ops) (canon ops (msk ops)) = true then dRunF E ops (msk ops) (canon ops (msk ops)) [] [] s σ (K .normal) else False
  | .seq a b, s, σ, K => exec E a s σ (seqK (exec E b) K)
  | .cond c x y, s, σ, K => cnd (evO s c) (exec E x s σ K) (exec E y s σ K)
  | .block id c, s, σ, K => exec E c s σ (blkK id K)
  | .loop c, s, σ, K => loopN (exec E c) E.n s σ K
  | .exit id, s, σ, K => K (.exit id) s σ
  | .ret, s, σ, K => K .ret s σ
  | _, _, _, _ => False

def Ex.to : Ex → Exit
  | .normal => .normal
  | .exit i => .exit i
  | .ret => .ret

def PostX (C : Ctx) (ρ : Pl) (a : Act) (K : Kx) (Q : Exit → Act → World → Prop) : Prop :=
  ∀ e s σ ρ' a' w', K e s σ → Ext ρ ρ' → Rl C ρ' σ w' → VRs ρ' s a'.tmps.toList → a'.defers = a.defers → Q e.to a' w'

theorem PostX.mono {C : Ctx} {ρ ρ' : Pl} {a a' : Act} {K : Kx} {Q : Exit → Act → World → Prop} (h : PostX C ρ a K Q) (he : Ext ρ ρ') (hd : a'.defers = a.defers) : PostX C ρ' a' K Q :=
  fun e s σ ρ2 a2 w2 hk h1 h2 h3 h4 => h e s σ ρ2 a2 w2 hk (he.trans h1) h2 h3 (h4.trans hd)

theorem exec_sound (hC : CallOk E.C E.call) (hM : CallMono E.call) : ∀ (c : Code) (ρ : Pl) (s : List V) (σ : H) (a : Act) (w : World) (K : Kx) (Q : Exit → Act → World → Prop),
    exec E c s σ K → Rl E.C ρ σ w → VRs ρ s a.tmps.toList → PostX E.C ρ a K Q → c.wp E.C.P Q a w := by
  intro c
  induction c with
  | skip => intro ρ s σ a w K Q h hR hs hQ; exact wp_skip (hQ _ _ _ _ _ _ h (Ext.refl _) hR hs rfl)
  | label l => intro ρ s σ a w K Q h hR hs hQ; exact wp_label (hQ _ _ _ _ _ _ h (Ext.refl _) hR hs rfl)
  | exit id => intro ρ s σ a w K Q h hR hs hQ; exact wp_exit (hQ _ _ _ _ _ _ h (Ext.refl _) hR hs rfl)
  | ret => intro ρ s σ a w K Q h hR hs hQ; exact wp_ret (hQ _ _ _ _ _ _ h (Ext.refl _) hR hs rfl)
  | region id ops draw =>
    intro ρ s σ a w K Q h hR hs hQ
    cases draw with
    | false =>
      exact wp_region (exIx_sound hC _ ρ s σ a w _ (exIxF_exIx hM _ _ _ _ _ KnOk.nil h) hR hs (fun s' σ' ρ' a' w' hk he hR' hs' hd => hQ .normal _ _ _ _ _ hk he hR' hs' hd))
    | true =>
      simp only [exec] at h
      split at h
      · rename_i hc
        have hany := dRun_any hM hc.2 (dRunF_dRun hM _ _ _ _ _ _ KnOk.nil h)
        refine wp_region_any hc.1 ?_
        exact exAny_sound hC ops.size _ ρ s σ a w.drew _ hany hR.drew hs (fun s' σ' ρ' a' w' hk he hR' hs' hd => hQ .normal _ _ _ _ _ hk he hR' hs' hd)
      · exact h.elim
  | seq x y ihx ihy =>
    intro ρ s σ a w K Q h hR hs hQ
    refine wp_seq (ihx ρ s σ a w _ _ h hR hs ?_)
    intro e s' σ' ρ' a' w' hk he hR' hs' hd
    cases e with
    | normal => exact ihy ρ' s' σ' a' w' K Q hk hR' hs' (hQ.mono he hd)
    | exit i => exact hQ (.exit i) _ _ _ _ _ hk he hR' hs' hd
    | ret => exact hQ .ret _ _ _ _ _ hk he hR' hs' hd
  | cond c x y ihx ihy =>
    intro ρ s σ a w K Q h hR hs hQ
    simp only [exec, cnd] at h
    split at h
    · rename_i b hb
      have hv := evO_sound hs hb
      simp only [VR] at hv
      split at h
      · rename_i hbt; subst hbt
        exact wp_cond_true hv (ihx ρ s σ a w K Q h hR hs hQ)
      · rename_i hbt
        have : b = false := by simpa using hbt
        subst this
        exact wp_cond_false hv (ihy ρ s σ a w K Q h hR hs hQ)
    · exact h.elim
  | block id c ih =>
    intro ρ s σ a w K Q h hR hs hQ
    refine wp_block (ih ρ s σ a w _ _ h hR hs ?_)
    intro e s' σ' ρ' a' w' hk he hR' hs' hd
    cases e with
    | normal => exact hQ .normal _ _ _ _ _ hk he hR' hs' hd
    | exit i =>
      simp only [blkK] at hk
      simp only [Ex.to, Exit.inBlock]
      split
      · rename_i hi; rw [if_pos hi] at hk; exact hQ .normal _ _ _ _ _ hk he hR' hs' hd
      · rename_i hi; rw [if_neg hi] at hk; exact hQ (.exit i) _ _ _ _ _ hk he hR' hs' hd
    | ret => exact hQ .ret _ _ _ _ _ hk he hR' hs' hd
  | loop c ih =>
    intro ρ s σ a w K Q h hR hs hQ
    simp only [exec] at h
    refine wp_loop_rounds E.n ?_
    generalize E.n = n at h
    induction n generalizing ρ s σ a w with
    | zero => exact h.elim
    | succ n ihn =>
      simp only [loopN] at h
      rw [rounds_succ]
      refine ih ρ s σ a w _ _ h hR hs ?_
      intro e s' σ' ρ' a' w' hk he hR' hs' hd
      cases e with
      | normal => exact ihn ρ' s' σ' a' w' hR' hs' (hQ.mono he hd) hk
      | exit i => exact hQ (.exit i) _ _ _ _ _ hk he hR' hs' hd
      | ret => exact hQ .ret _ _ _ _ _ hk he hR' hs' hd
  | rangeFunc f ps x y ihx ihy => intro ρ s σ a w K Q h hR hs hQ; exact h.elim
  | scope c ih => intro ρ s σ a w K Q h hR hs hQ; exact h.elim
  | goto l => intro ρ s σ a w K Q h hR hs hQ; exact h.elim
  | refuse why => intro ρ s σ a w K Q h hR hs hQ; exact h.elim

/-! ### Bodies -/

def rsV (C : Ctx) (s : List V) (σ : H) : ResultVar → Option V
  | .tmp t => s[t]?
  | .cell a t => match tk C.P t, s[a]? with
    | some (b, n), some v => ldP C.G σ b n v
    | _, _ => none

def rsVs (C : Ctx) (s : List V) (σ : H) : List ResultVar → Option (List V)
  | [] => some []
  | r :: rs => match rsV C s σ r, rsVs C s σ rs with
    | some v, some vs => some (v :: vs)
    | _, _ => none

def oneV : List V → V
  | [v] => v
  | vs => .tuple vs

/-- The results, each in its turn. -/
def rsK (C : Ctx) (s : List V) (σ : H) : List ResultVar → (List V → Prop) → Prop
  | [], k => k []
  | .tmp t :: rs, k => match s[t]? with
    | some v => rsK C s σ rs fun vs => k (v :: vs)
    | none => False
  | .cell a t :: rs, k => match tk C.P t, s[a]? with
    | some (b, n), some u => need (ldP C.G σ b n u) fun v => rsK C s σ rs fun vs => k (v :: vs)
    | _, _ => False

theorem rsK_rsVs {C : Ctx} {s : List V} {σ : H} : ∀ {rs : List ResultVar} {k : List V → Prop}, rsK C s σ rs k → ∃ vs, rsVs C s σ rs = some vs ∧ k vs
  | [], k, h => ⟨[], rfl, h⟩
  | .tmp t :: rs, k, h => by
    simp only [rsK] at h
    split at h
    · rename_i v hv
      obtain ⟨vs, h1, h2⟩ := rsK_rsVs h
      exact ⟨v :: vs, by simp only [rsVs, rsV, hv, h1], h2⟩
    · exact h.elim
  | .cell a t :: rs, k, h => by
    simp only [rsK] at h
    split at h
    · rename_i b n u hk hu
      obtain ⟨v, hv, h⟩ := h
      obtain ⟨vs, h1, h2⟩ := rsK_rsVs h
      exact ⟨v :: vs, by simp only [rsVs, rsV, hk, hu, hv, h1], h2⟩
    · exact h.elim

/-- What is done behind a body: its results are handed on. -/
def bodyK (E : Env) (fn : Func) (K : V → H → Prop) : Kx := fun e s σ =>
  match e with
  | .exit _ => False
  | .normal => rsK E.C s σ fn.results.toList fun vs => K (oneV vs) σ
  | .ret => rsK E.C s σ fn.results.toList fun vs => K (oneV vs) σ

def body (E : Env) (fn : Func) (args : List V) (σ : H) (K : V → H → Prop) : Prop :=
  match fn.body with
  | none => False
  | some c => exec E c (args ++ List.replicate (fn.ntmps - args.length) undefV) σ (bodyK E fn K)

theorem rsV_sound (hR : Rl E.C ρ σ w) {s : List V} {xs : Array Value} (hs : VRs ρ s xs.toList) {r : ResultVar} {v : V} (h : rsV E.C s σ r = some v) :
    ∃ x, ((match r with | .tmp t => pure (xs.getD t undef) | .cell a t => do loadVar t (← asAddr (xs.getD a undef)) : Sem Value)).run E.C.P w = .ok x w ∧ VR ρ v x := by
  cases r with
  | tmp t =>
    simp only [rsV] at h
    obtain ⟨x, hx, hr⟩ := hs.get h
    refine ⟨x, ?_, hr⟩
    simp only [Sem.run_pure]
    rw [Array.getD_eq_getD_getElem?, ← Array.getElem?_toList, hx]; rfl
  | cell a t =>
    simp only [rsV] at h
    split at h
    · rename_i b n v' hk hv'
      obtain ⟨x, hx, hr⟩ := hs.get hv'
      obtain ⟨y, hy, hvy⟩ := ld_sound hR hk hr h
      refine ⟨y, ?_, hvy⟩
      have hxa : xs.getD a undef = x := by rw [Array.getD_eq_getD_getElem?, ← Array.getElem?_toList, hx]; rfl
      simp only [hxa]
      unfold Instr.loadAt at hy
      rw [Sem.run_bind] at hy ⊢
      have : ∃ ad, x = .pointer (some ad) := by
        cases v' <;> cases b <;> simp [ldP] at h
        all_goals
          simp only [VR] at hr
          first | (obtain ⟨p, _, rfl⟩ := hr; exact ⟨_, rfl⟩) | exact ⟨_, hr⟩
      obtain ⟨ad, rfl⟩ := this
      simpa [Instr.sureAddr, asAddr] using hy
    · simp at h

theorem rsVs_sound (hR : Rl E.C ρ σ w) {s : List V} {xs : Array Value} (hs : VRs ρ s xs.toList) : ∀ {rs : List ResultVar} {vs : List V}, rsVs E.C s σ rs = some vs →
    ∃ ys : List Value, (rs.mapM (fun r => (match r with | .tmp t => pure (xs.getD t undef) | .cell a t => do loadVar t (← asAddr (xs.getD a undef)) : Sem Value))).run E.C.P w = .ok ys w ∧ VRs ρ vs ys
  | [], vs, h => by simp only [rsVs, Option.some.injEq] at h; subst h; exact ⟨[], by simp, by simp [VRs]⟩
  | r :: rs, vs, h => by
    simp only [rsVs] at h
    split at h
    · rename_i v us hv hu
      cases h
      obtain ⟨x, hx, hr⟩ := rsV_sound hR hs hv
      obtain ⟨ys, hy, hrs⟩ := rsVs_sound hR hs hu
      refine ⟨x :: ys, ?_, by simp only [VRs]; exact ⟨x, ys, rfl, hr, hrs⟩⟩
      simp only [List.mapM_cons, Sem.run_bind, hx, Result.andThen_ok, hy, Sem.run_pure]
    · simp at h

theorem results_sound (hR : Rl E.C ρ σ w) {fn : Func} {s : List V} {xs : Array Value} (hs : VRs ρ s xs.toList) {vs : List V} (h : rsVs E.C s σ fn.results.toList = some vs) :
    ∃ x, (results fn xs).run E.C.P w = .ok x w ∧ VR ρ (oneV vs) x := by
  obtain ⟨ys, hy, hr⟩ := rsVs_sound hR hs h
  have hm : (fn.results.mapM (fun r => (match r with | .tmp t => pure (xs.getD t undef) | .cell a t => do loadVar t (← asAddr (xs.getD a undef)) : Sem Value))).run E.C.P w = .ok ys.toArray w := by
    rw [Array.mapM_eq_mapM_toList]
    simp only [Sem.run_map, hy, Result.andThen_ok]
  have hl := hr.length
  refine ⟨(if h : ys.toArray.size = 1 then ys.toArray[0] else .tuple ys.toArray), ?_, ?_⟩
  · unfold results
    rw [Sem.run_bind]
    refine Eq.trans (congrArg (fun r => Result.andThen r _) hm) ?_
    rfl
  · match vs, ys, hr with
    | [], ys, hr => simp only [VRs] at hr; subst hr; simp [oneV, VR, VRs]
    | [v], ys, hr =>
      simp only [VRs] at hr
      obtain ⟨y, ys', rfl, h1, h2⟩ := hr
      subst h2
      simpa [oneV] using h1
    | v :: u :: vs, ys, hr =>
      have hl2 := hr.length
      simp only [List.length_cons] at hl2
      rw [dif_neg (by simp; omega)]
      simp only [oneV, VR]
      exact ⟨_, rfl, by simpa using hr⟩

/-- A body's contract is the function's. -/
theorem body_sound (hC : CallOk E.C E.call) (hM : CallMono E.call) {f : FuncId} {fn : Func} (hf : E.C.P.funcs[f]? = some fn) {args : List V} {K : V → H → Prop} (h : body E fn args σ K)
    (hR : Rl E.C ρ σ w) {xs : List Value} (hx : VRs ρ args xs) :
    Calls E.C.P f xs.toArray w fun e w' => ∃ v σ' ρ' x, K v σ' ∧ e = .returned x ∧ Ext ρ ρ' ∧ Rl E.C ρ' σ' w' ∧ VR ρ' v x := by
  unfold body at h
  split at h
  · exact h.elim
  · rename_i c hb
    have hl := hx.length
    refine calls_of_wp hf hb ?_
    refine exec_sound hC hM c ρ _ σ _ w _ _ h hR ?_ ?_
    · have := hx.append (VRs.replicate (undef_rel (ρ := ρ)) (fn.ntmps - args.length))
      simpa [hl] using this
    · intro e s σ' ρ' a' w' hk he hR' hs' hd
      have fin : rsK E.C s σ' fn.results.toList (fun vs => K (oneV vs) σ') → a'.defers = [] ∧ ∃ v, (results fn a'.tmps).run E.C.P w' = .ok v w' ∧
          ∃ v' σ2 ρ2 x, K v' σ2 ∧ Ending.returned v = .returned x ∧ Ext ρ ρ2 ∧ Rl E.C ρ2 σ2 w' ∧ VR ρ2 v' x := by
        intro hrs
        obtain ⟨vs, hvs, hk⟩ := rsK_rsVs hrs
        obtain ⟨x, hx1, hx2⟩ := results_sound hR' hs' hvs
        exact ⟨hd, x, hx1, _, σ', ρ', x, hk, rfl, he, hR', hx2⟩
      cases e with
      | normal => exact fin hk
      | exit i => exact hk.elim
      | ret => exact fin hk

/-! ### Places in a code -/

def cd (fn : Func) : Code := fn.body.getD .skip
def sA : Code → Code
  | .seq a _ => a
  | .block _ c => c
  | .loop c => c
  | .cond _ a _ => a
  | c => c
def sB : Code → Code
  | .seq _ b => b
  | .cond _ _ b => b
  | c => c

/-- What follows a round of a loop. -/
def loopK (bd : List V → H → Kx → Prop) (n : Nat) (K : Kx) : Kx := fun e s σ =>
  match e with
  | .normal => loopN bd n s σ K
  | .exit i => K (.exit i) s σ
  | .ret => K .ret s σ

theorem loopN_succ (bd : List V → H → Kx → Prop) (n : Nat) (s : List V) (σ : H) (K : Kx) : loopN bd (n + 1) s σ K = bd s σ (loopK bd n K) := rfl

end Go.Am
