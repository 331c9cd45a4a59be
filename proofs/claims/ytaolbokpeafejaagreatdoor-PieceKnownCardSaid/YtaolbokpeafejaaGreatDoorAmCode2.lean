/-
  AM: code, loops; bodies. (Lemmas alone; no program.)
-/
import Derived.Test.YtaolbokpeafejaaGreatDoorAmKnown
import Derived.Test.YtaolbokpeafejaaGreatDoorAmSolid
import Derived.Scope
set_option linter.unusedVariables false
set_option linter.unusedSimpArgs false
namespace Go.Am
open Go Go.RowKit
variable {ρ : Pl} {σ : H} {w : World} {E : Env}

/-! ### Code -/

inductive Ex where
  | normal
  | exit (id : Nat)
  | ret

def cnd (v : Option V) (x y : Prop) : Prop :=
  match v with
  | some (.bool b) => if b = true then x else y
  | _ => False

abbrev Kx := Ex → List V → H → Prop

def loopN (wk : List V → (List V → Prop) → Prop) (body : List V → H → Kx → Prop) : Nat → List V → H → Kx → Prop
  | 0, _, _, _ => False
  | n + 1, s, σ, K => body s σ fun e s' σ' => match e with
    | .normal => wk s' fun s' => loopN wk body n s' σ' K
    | .exit i => K (.exit i) s' σ'
    | .ret => K .ret s' σ'

def seqK (rest : List V → H → Kx → Prop) (K : Kx) : Kx := fun e s σ =>
  match e with
  | .normal => rest s σ K
  | .exit i => K (.exit i) s σ
  | .ret => K .ret s σ

def blkK (id : Nat) (K : Kx) : Kx := fun e s σ =>
  match e with
  | .exit i => if i = id then K .normal s σ else K (.exit i) s σ
  | .normal => K .normal s σ
  | .ret => K .ret s σ

/-- Slots that the mask names may hold whatever they like. -/
def mix (m : Nat) (d : Nat → V) : Nat → List V → List V
  | _, [] => []
  | i, v :: vs => (match m.testBit i with | true => d i | false => v) :: mix m d (i + 1) vs

theorem mix_self (m : Nat) (d : Nat → V) : ∀ (i : Nat) (s : List V), (∀ (j : Nat) (v : V), s[j]? = some v → d (i + j) = v) → mix m d i s = s
  | i, [], h => rfl
  | i, v :: vs, h => by
    simp only [mix]
    rw [mix_self m d (i + 1) vs (fun j u hj => by rw [← h (j + 1) u (by simpa using hj)]; congr 1; omega)]
    have := h 0 v rfl
    simp only [Nat.add_zero] at this
    split <;> simp [this]

/-- What a piece of code does not look at is forgotten ahead of it. -/
def weak (E : Env) (c : Code) (s : List V) (P : List V → Prop) : Prop :=
  match E.mask c with
  | none => P s
  | some m => ∀ d : Nat → V, P (mix m d 0 s)

theorem weak_elim {E : Env} {c : Code} {s : List V} {P : List V → Prop} (h : weak E c s P) : P s := by
  unfold weak at h
  split at h
  · exact h
  · have := h (fun i => s.getD i default)
    rwa [mix_self _ _ 0 s (fun j v hj => by simp [List.getD_eq_getElem?_getD, hj])] at this

/-- Behind a range over a function: what its rounds have left. -/
def rangeK (rid : Nat) (s : List V) (K : Kx) : V → H → Prop := fun _ σ =>
  match σ.get rid with
  | some (.loop l) => match l.state with
    | .busy => False
    | _ => match l.pending with
      | none => K .normal s (σ.set rid (.loop { l with state := .exhausted }))
      | some .ret => K .ret s (σ.set rid (.loop { l with state := .exhausted }))
      | some (.exit i) => K (.exit i) s (σ.set rid (.loop { l with state := .exhausted }))
      | _ => False
  | _ => False

/-- Is there room for a range over a function: in no round, or in one whose record stands? -/
def inRound (ro : Option Nat) (σ : H) : Bool :=
  match ro with
  | none => true
  | some r => match σ.get r with
    | some (.loop _) => true
    | _ => false

/-- The head of a range over a function: its record is laid, the function is called. -/
def rangeX (E : Env) (ro : Option Nat) (u : V) (ps : Array Tmp) (a b : Code) (s : List V) (σ : H) (K : Kx) : Prop :=
  match u with
  | .func (.func f) fs cs => if (fnOk E.C.P f && inRound ro σ) = true then
      E.call f (fs ++ [.yld σ.size] ++ cs) (σ.push (.loop { state := .ready, pending := none, tmps := s, params := ps, assign := a, body := b })) (rangeK σ.size s K)
    else False
  | _ => False

def exec (E : Env) (ro : Option Nat) : Code → List V → H → Kx → Prop
  | .skip, s, σ, K => K .normal s σ
  | .label _, s, σ, K => K .normal s σ
  | .region id ops draw, s, σ, K => match draw with
    | false => exIxF E ops (List.range ops.size) [] s σ (K .normal)
    | true => if E.C.P.follows .mixedOrders = true ∧ dOkF E.C.P ops (msk ops) (canonF E.C.P ops (msk ops)) = true then dRunF E ops (msk ops) (canonF E.C.P ops (msk ops)) [] [] s σ (K .normal) else False
  | .seq a b, s, σ, K => exec E ro a s σ (seqK (fun s σ K => weak E b s fun s => exec E ro b s σ K) K)
  | .cond c x y, s, σ, K => cnd (evO s c) (weak E x s fun s => exec E ro x s σ K) (weak E y s fun s => exec E ro y s σ K)
  | .block id c, s, σ, K => exec E ro c s σ (blkK id K)
  | .loop c, s, σ, K => weak E c s fun s => loopN (weak E c) (exec E ro c) E.n s σ K
  | .scope c, s, σ, K => exec E ro c s σ K
  | .exit id, s, σ, K => K (.exit id) s σ
  | .ret, s, σ, K => K .ret s σ
  | .rangeFunc g ps a b, s, σ, K => match evO s g with
    | some u => rangeX E ro u ps a b s σ K
    | none => False
  | _, _, _, _ => False

def Ex.to : Ex → Exit
  | .normal => .normal
  | .exit i => .exit i
  | .ret => .ret

/-- The marks that ranges over functions leave among an activation's deferred calls. -/
def markOf (b : Nat) : Deferred := { target := .collected b, args := #[] }

def Marks (ρ ρ' : Pl) (d d' : List Deferred) : Prop := ∃ ms : List Nat, d' = ms.map markOf ++ d ∧ ms.Nodup ∧ ∀ b, b ∈ ms → b ∈ ρ'.dfr ∧ b ∉ ρ.dfr

theorem Marks.refl (ρ ρ' : Pl) (d : List Deferred) : Marks ρ ρ' d d := ⟨[], rfl, List.nodup_nil, by simp⟩
theorem Marks.same {ρ ρ' : Pl} {d d' : List Deferred} (h : d' = d) : Marks ρ ρ' d d' := h ▸ Marks.refl _ _ _
theorem Marks.trans {ρ ρ1 ρ2 : Pl} {d d1 d2 : List Deferred} (h1 : Marks ρ ρ1 d d1) (h2 : Marks ρ1 ρ2 d1 d2) (e1 : Ext ρ ρ1) (e2 : Ext ρ1 ρ2) : Marks ρ ρ2 d d2 := by
  obtain ⟨ms, rfl, n1, m1⟩ := h1
  obtain ⟨ns, rfl, n2, m2⟩ := h2
  refine ⟨ns ++ ms, by simp, ?_, ?_⟩
  · rw [List.nodup_append]
    refine ⟨n2, n1, ?_⟩
    rintro a ha b hb rfl
    exact (m2 a ha).2 (m1 a hb).1
  · intro b hb
    rw [List.mem_append] at hb
    rcases hb with hb | hb
    · exact ⟨(m2 b hb).1, fun h => (m2 b hb).2 (e1.dfr _ h)⟩
    · exact ⟨e2.dfr _ (m1 b hb).1, (m1 b hb).2⟩

def PostX (C : Ctx) (ρ : Pl) (a : Act) (K : Kx) (Q : Exit → Act → World → Prop) : Prop :=
  ∀ e s σ ρ' a' w', K e s σ → Ext ρ ρ' → Rl C ρ' σ w' → VRs ρ' s a'.tmps.toList → Marks ρ ρ' a.defers a'.defers → Q e.to a' w'

theorem PostX.mono {C : Ctx} {ρ ρ' : Pl} {a a' : Act} {K : Kx} {Q : Exit → Act → World → Prop} (h : PostX C ρ a K Q) (he : Ext ρ ρ') (hd : Marks ρ ρ' a.defers a'.defers) : PostX C ρ' a' K Q :=
  fun e s σ ρ2 a2 w2 hk h1 h2 h3 h4 => h e s σ ρ2 a2 w2 hk (he.trans h1) h2 h3 (hd.trans h4 he h1)

theorem wpIn_scope {F : Fence} {n : Nat} {P : Program} {Q : Exit → Act → World → Prop} {a : Act} {w : World} {c : Code} (h : c.wpIn F n P (Exit.noGoto Q) a w) : (Code.scope c).wpIn F n P Q a w := by
  have step_scope : ∀ (b : Frame) (k : List Item) (cs : List Frame), step P (lone (b.atR a (.code (.scope c) :: k)) cs w) = .next (lone (b.atR a (.code c :: .inScope c :: k)) cs w) := fun b k cs =>
    step_lone_go (by simp [stepG, stepG.exec, Frame.atR])
  have step_inScope : ∀ (b : Frame) (k : List Item) (cs : List Frame) (a : Act) (w : World), step P (lone (b.atR a (.inScope c :: k)) cs w) = .next (lone (b.atR a k) cs w) := fun b k cs a w =>
    step_lone_go (by simp [stepG, stepG.exec, Frame.atR])
  intro b k cs hro hb hr
  have h0 : (lone (b.atR a (.code (.scope c) :: k)) cs w).fenced P F := fenced_calm hb hr rfl
  obtain ⟨e, a₁, w₁, hq, harr⟩ := h b (.inScope c :: k) cs hro hb hr
  cases e with
  | normal => exact ⟨.normal, a₁, w₁, hq, .head h0 (step_scope _ _ _) (StepsIn.trans harr (.one (fenced_calm hb hr rfl) (step_inScope _ _ _ _ _)))⟩
  | exit id =>
    have hx : exitTo id (.inScope c :: k) = exitTo id k := by simp [exitTo]
    exact ⟨.exit id, a₁, w₁, hq, fun k' hk => .head h0 (step_scope _ _ _) (harr.1 k' (by rw [hx]; exact hk)),
      fun hr' hk => let ⟨k₁, h1, h2⟩ := harr.2 hr' (by rw [hx]; exact hk); ⟨k₁, h1, .head h0 (step_scope _ _ _) h2⟩⟩
  | goto l => exact hq.elim
  | ret => exact ⟨_, a₁, w₁, hq, .of_steps (.one h0 (step_scope _ _ _)) harr⟩
  | panic ch => exact ⟨_, a₁, w₁, hq, .of_steps (.one h0 (step_scope _ _ _)) harr⟩
  | outgrown => exact ⟨_, a₁, w₁, hq, .of_steps (.one h0 (step_scope _ _ _)) harr⟩

/-- The round in which the code runs, in the abstract and in the machine. -/
def RoundAt (ρ : Pl) (ro fr : Option Nat) : Prop :=
  match ro, fr with
  | none, none => True
  | some r, some l => ∃ p, ρ r 0 = some p ∧ p.blk = l
  | _, _ => False

theorem RoundAt.ext {ρ ρ' : Pl} {ro fr : Option Nat} (h : RoundAt ρ ro fr) (he : Ext ρ ρ') : RoundAt ρ' ro fr := by
  unfold RoundAt at *
  split at h
  · trivial
  · obtain ⟨p, h1, h2⟩ := h; exact ⟨p, he.map _ _ _ h1, h2⟩
  · exact h.elim

theorem fnOk_parts {P : Program} {g : FuncId} (hok : fnOk P g = true) : ∃ fn, P.funcs[g]? = some fn ∧ fn.body.isNone = false ∧ (fn.name == "runtime.NumGoroutine") = false := by
  unfold fnOk at hok
  split at hok
  · rename_i fn hfn
    simp only [Bool.and_eq_true, Bool.not_eq_true'] at hok
    refine ⟨fn, hfn, ?_, hok.2⟩
    cases hb : fn.body <;> simp_all
  · simp at hok

theorem enterLoop_sound {C : Ctx} {ρ : Pl} {σ : H} {w : World} (hR : Rl C ρ σ w) {ro fr : Option Nat} (hro : RoundAt ρ ro fr) (hin : inRound ro σ = true) (fn : FuncId) {s : List V} {tmps : Array Value} (hs : VRs ρ s tmps.toList) (ps : Array Tmp) (a b : Code) (d : List Deferred) :
    ∃ l mark w1 ρ1, (Instr.enterLoop fn tmps ps a b fr).run C.P w = .ok (l, mark) w1 ∧ Ext ρ ρ1 ∧ Rl C ρ1 (σ.push (.loop { state := .ready, pending := none, tmps := s, params := ps, assign := a, body := b })) w1 ∧
      ρ1 σ.size 0 = some ⟨l, 0, 0⟩ ∧ Marks ρ ρ1 d (mark ++ d) := by
  cases fr with
  | none =>
    have h1 := hR.dfr_alloc
    have hs1 : VRs (⟨ρ.map, w.heap.size :: ρ.dfr⟩ : Pl) s tmps.toList := VRs.extM (ρ := ρ) (ρ' := ⟨ρ.map, w.heap.size :: ρ.dfr⟩) (fun _ _ _ h => h) hs
    obtain ⟨h2, h3⟩ := h1.push_solid (o := .loop { state := .ready, pending := none, tmps := s, params := ps, assign := a, body := b })
      (x := .loop { state := .ready, pending := none, fn, tmps, params := ps, assign := a, body := b, defers := w.heap.size }) rfl ⟨_, rfl, rfl, rfl, rfl, rfl, rfl, hs1⟩
    refine ⟨(w.alloc (.deferred (some []))).heap.size, [markOf w.heap.size], _, _, ?_, Ext.trans (b := ⟨ρ.map, w.heap.size :: ρ.dfr⟩) ⟨fun _ _ _ h => h, fun b hb => by simp [hb]⟩ h3, h2, by simp [Pl.new_at], ?_⟩
    · rw [run_enterLoop_outer]
      simp [markOf]
    · refine ⟨[w.heap.size], rfl, by simp, ?_⟩
      intro b hb
      simp only [List.mem_singleton] at hb
      subst hb
      refine ⟨h3.dfr _ (by simp), fun h => ?_⟩
      have := heap_lt (hR.dfr _ h).2
      omega
  | some l0 =>
    cases ro with
    | none => exact hro.elim
    | some r0 =>
      obtain ⟨p, hp, rfl⟩ := hro
      simp only [inRound] at hin
      split at hin
      · rename_i l1 hl1
        obtain ⟨q, x, hq, hB, hx, r, rfl, _⟩ := hR.obj _ _ hl1 rfl
        rw [hp] at hq; cases hq
        obtain ⟨h2, h3⟩ := hR.push_solid (o := .loop { state := .ready, pending := none, tmps := s, params := ps, assign := a, body := b })
          (x := .loop { state := .ready, pending := none, fn, tmps, params := ps, assign := a, body := b, defers := r.defers }) rfl ⟨_, rfl, rfl, rfl, rfl, rfl, rfl, hs⟩
        refine ⟨w.heap.size, [], _, _, ?_, h3, h2, by simp [Pl.new_at], Marks.refl _ _ _⟩
        simp only [Instr.enterLoop, Sem.run_bind, run_getLoop hx, Result.andThen_ok, Sem.run_pure, run_newObj_alloc]
      · cases hin

theorem endLoop_sound {C : Ctx} {ρ : Pl} {σ : H} {w : World} (hR : Rl C ρ σ w) {rid : Nat} {l : LoopA} (hg : σ.get rid = some (.loop l)) {p : Place} (hp : ρ rid 0 = some p) (hb : l.state ≠ .busy) :
    ∃ w1, (Instr.endLoop p.blk).run C.P w = .ok l.pending w1 ∧ Rl C ρ (σ.set rid (.loop { l with state := .exhausted })) w1 := by
  obtain ⟨q, x, hq, hB, hx, r, rfl, h1, h2, h3, h4, h5, h6⟩ := hR.obj _ _ hg rfl
  rw [hp] at hq; cases hq
  refine ⟨w.putObj p.blk (.loop { r with state := .exhausted }), ?_, hR.set_solid hg rfl rfl hp ⟨_, rfl, rfl, h2, h3, h4, h5, h6⟩⟩
  rw [run_endLoop hx (by rw [h1]; exact hb), h2]

theorem exec_sound (hC : CallOk E.C E.call) (hY : YieldOk E.C E.yield) (hM : EMono E) {ro : Option Nat} : ∀ (c : Code) (ρ : Pl) (s : List V) (σ : H) (a : Act) (w : World) (K : Kx) (Q : Exit → Act → World → Prop) (fr : Option Nat),
    exec E ro c s σ K → RoundAt ρ ro fr → Rl E.C ρ σ w → VRs ρ s a.tmps.toList → PostX E.C ρ a K Q → c.wpIn (FW fr) 0 E.C.P Q a w := by
  intro c
  induction c with
  | skip => intro ρ s σ a w K Q fr h hro hR hs hQ; exact wpIn_skip (hQ _ _ _ _ _ _ h (Ext.refl _) hR hs (Marks.refl _ _ _))
  | label l => intro ρ s σ a w K Q fr h hro hR hs hQ; exact wpIn_label (hQ _ _ _ _ _ _ h (Ext.refl _) hR hs (Marks.refl _ _ _))
  | exit id => intro ρ s σ a w K Q fr h hro hR hs hQ; exact wpIn_exit (hQ _ _ _ _ _ _ h (Ext.refl _) hR hs (Marks.refl _ _ _))
  | ret => intro ρ s σ a w K Q fr h hro hR hs hQ; exact wpIn_ret (hQ _ _ _ _ _ _ h (Ext.refl _) hR hs (Marks.refl _ _ _))
  | region id ops draw =>
    intro ρ s σ a w K Q fr h hro hR hs hQ
    cases draw with
    | false =>
      exact wpIn_region (exIx_sound hC hY _ ρ s σ a w _ (exIxF_exIx hM _ _ _ _ _ KnOk.nil h) hR hs (fun s' σ' ρ' a' w' hk he hR' hs' hd => hQ .normal _ _ _ _ _ hk he hR' hs' (Marks.same hd)))
    | true =>
      simp only [exec] at h
      split at h
      · rename_i hc
        have hany := dRun_any hM (dOkF_ok hc.2) (dRunF_dRun hM _ _ _ _ _ _ KnOk.nil h)
        refine wpIn_region_any hc.1 ?_
        exact exAny_sound hC hY ops.size _ ρ s σ a w.drew _ hany hR.drew hs (fun s' σ' ρ' a' w' hk he hR' hs' hd => hQ .normal _ _ _ _ _ hk he hR' hs' (Marks.same hd))
      · exact h.elim
  | seq x y ihx ihy =>
    intro ρ s σ a w K Q fr h hro hR hs hQ
    refine wpIn_seq (ihx ρ s σ a w _ _ fr h hro hR hs ?_)
    intro e s' σ' ρ' a' w' hk he hR' hs' hd
    cases e with
    | normal => exact ihy ρ' s' σ' a' w' K Q fr (weak_elim (P := fun s => exec E ro y s σ' K) hk) (hro.ext he) hR' hs' (hQ.mono he hd)
    | exit i => exact hQ (.exit i) _ _ _ _ _ hk he hR' hs' hd
    | ret => exact hQ .ret _ _ _ _ _ hk he hR' hs' hd
  | cond c x y ihx ihy =>
    intro ρ s σ a w K Q fr h hro hR hs hQ
    simp only [exec, cnd] at h
    split at h
    · rename_i b hb
      have hv := evO_sound hs hb
      simp only [VR] at hv
      split at h
      · rename_i hbt; subst hbt
        exact wpIn_cond_true hv (ihx ρ s σ a w K Q fr (weak_elim (P := fun s => exec E ro x s σ K) h) hro hR hs hQ)
      · rename_i hbt
        have : b = false := by simpa using hbt
        subst this
        exact wpIn_cond_false hv (ihy ρ s σ a w K Q fr (weak_elim (P := fun s => exec E ro y s σ K) h) hro hR hs hQ)
    · exact h.elim
  | block id c ih =>
    intro ρ s σ a w K Q fr h hro hR hs hQ
    refine wpIn_block (ih ρ s σ a w _ _ fr h hro hR hs ?_)
    intro e s' σ' ρ' a' w' hk he hR' hs' hd
    cases e with
    | normal => exact hQ .normal _ _ _ _ _ hk he hR' hs' hd
    | exit i =>
      simp only [blkK] at hk
      simp only [Ex.to, Exit.inBlock]
      split
      · rename_i hi; rw [if_pos hi] at hk; exact hQ .normal _ _ _ _ _ hk he hR' hs' hd
      · rename_i hi; rw [if_neg hi] at hk; exact hQ (.exit i) _ _ _ _ _ hk he hR' hs' hd
    | ret => exact hQ .ret _ _ _ _ _ hk he hR' hs' hd
  | loop c ih =>
    intro ρ s σ a w K Q fr h hro hR hs hQ
    simp only [exec] at h
    replace h := weak_elim h
    refine wpIn_loop_rounds E.n ?_
    generalize E.n = n at h
    induction n generalizing ρ s σ a w with
    | zero => exact h.elim
    | succ n ihn =>
      simp only [loopN] at h
      rw [roundsIn_succ]
      refine ih ρ s σ a w _ _ fr h hro hR hs ?_
      intro e s' σ' ρ' a' w' hk he hR' hs' hd
      cases e with
      | normal => exact ihn ρ' s' σ' a' w' (hro.ext he) hR' hs' (hQ.mono he hd) (weak_elim hk)
      | exit i => exact hQ (.exit i) _ _ _ _ _ hk he hR' hs' hd
      | ret => exact hQ .ret _ _ _ _ _ hk he hR' hs' hd
  | rangeFunc g ps x y ihx ihy =>
    intro ρ s σ a w K Q fr h hro hR hs hQ
    simp only [exec] at h
    split at h
    · rename_i u hu
      unfold rangeX at h
      split at h
      · rename_i f fs cs
        split at h
        · rename_i hok
          simp only [Bool.and_eq_true] at hok
          obtain ⟨fnn, hfn, hb, hnm⟩ := fnOk_parts hok.1
          have hf := evO_sound hs hu
          simp only [VR] at hf
          obtain ⟨f1, c1, e, hf1, hc1⟩ := hf
          refine wpIn_rangeFunc ?_
          intro fn _
          obtain ⟨l, mark, w1, ρ1, h1, h2, h3, h4, h5⟩ := enterLoop_sound hR hro hok.2 fn hs ps x y a.defers
          have hargs : VRs ρ1 (fs ++ [V.yld σ.size] ++ cs) (f1.toList ++ [Value.func (.yield l) #[] #[]] ++ c1.toList) := by
            refine VRs.append (VRs.append (hf1.ext h2) ?_) (hc1.ext h2)
            simp only [VRs, VR]
            exact ⟨_, _, rfl, ⟨_, h4, rfl⟩, rfl⟩
          have hcalls := hC _ _ _ _ h ρ1 w1 _ h3 hargs
          refine ⟨l, mark, w1, { target := .fn (.func f) c1, args := f1 ++ #[.func (.yield l) #[] #[]] }, w1, f, (f1.toList ++ [Value.func (.yield l) #[] #[]] ++ c1.toList).toArray, w1, h1, ?_, fun _ _ => trivial, ?_, (fun h => by cases h), ?_⟩
          · have : resolve a.eval (rangeCall g l) 0 = Deferred.ofValue (a.eval g) #[.func (.yield l) #[] #[]] := by
              simp [resolve, rangeCall, Act.eval]
            rw [this, e]
            simp [Deferred.ofValue]
          · have hae : (f1.toList ++ [Value.func (.yield l) #[] #[]] ++ c1.toList).toArray = f1 ++ #[.func (.yield l) #[] #[]] ++ c1 := by
              apply Array.ext'; simp
            rw [hae]
            simp only [invoke, callFunc, Sem.run_bind, run_program, hfn, hnm, hb, Result.andThen_ok, Bool.false_eq_true, if_false, Sem.run_pure]
          · refine CallsIn.mono (show CallsIn (FW fr) 0 _ _ _ _ _ from (callsIn_wide (n := 0)).2 hcalls) ?_
            rintro e' w' ⟨v, σ', ρ', z, hk, rfl, he, hR', hvr⟩
            have hp := he.map _ _ _ h4
            unfold rangeK at hk
            split at hk
            · rename_i l1 hl1
              have hnb : l1.state ≠ .busy := by intro e2; rw [e2] at hk; exact hk
              have hk' : (match l1.pending with
                  | none => K .normal s (σ'.set σ.size (.loop { l1 with state := .exhausted }))
                  | some .ret => K .ret s (σ'.set σ.size (.loop { l1 with state := .exhausted }))
                  | some (.exit i) => K (.exit i) s (σ'.set σ.size (.loop { l1 with state := .exhausted }))
                  | _ => False) := by
                cases hst : l1.state <;> rw [hst] at hk <;> first | exact absurd hst hnb | exact hk
              obtain ⟨w4, hend, hR4⟩ := endLoop_sound hR' hl1 hp hnb
              refine ⟨l1.pending, w4, hend, ?_⟩
              have hex : Ext ρ ρ' := h2.trans he
              have hmk : Marks ρ ρ' a.defers (mark ++ a.defers) := h5.trans (Marks.refl _ _ _) h2 he
              have hss : VRs ρ' s ({ a with defers := mark ++ a.defers } : Act).tmps.toList := hs.ext hex
              cases hpe : l1.pending with
              | none =>
                rw [hpe] at hk' hR4
                exact hQ .normal _ _ _ _ _ hk' hex hR4 hss hmk
              | some cc =>
                rw [hpe] at hk' hR4
                cases cc <;> first | exact hk'.elim | skip
                · rename_i i; exact wpIn_exit (hQ (.exit i) _ _ _ _ _ hk' hex hR4 hss hmk)
                · exact wpIn_ret (hQ .ret _ _ _ _ _ hk' hex hR4 hss hmk)
            · exact hk.elim
        · exact h.elim
      · exact h.elim
    · exact h.elim
  | scope c ih =>
    intro ρ s σ a w K Q fr h hro hR hs hQ
    refine wpIn_scope (ih ρ s σ a w K _ fr h hro hR hs ?_)
    intro e s' σ' ρ' a' w' hk he hR' hs' hd
    have := hQ e _ _ _ _ _ hk he hR' hs' hd
    cases e <;> exact this
  | goto l => intro ρ s σ a w K Q fr h hro hR hs hQ; exact h.elim
  | refuse why => intro ρ s σ a w K Q fr h hro hR hs hQ; exact h.elim

/-! ### Bodies -/

def rsV (C : Ctx) (s : List V) (σ : H) : ResultVar → Option V
  | .tmp t => s[t]?
  | .cell a t => match tk C.P t, s[a]? with
    | some (b, n), some v => ldP C.G σ b n v
    | _, _ => none

def rsVs (C : Ctx) (s : List V) (σ : H) : List ResultVar → Option (List V)
  | [] => some []
  | r :: rs => match rsV C s σ r, rsVs C s σ rs with
    | some v, some vs => some (v :: vs)
    | _, _ => none

def oneV : List V → V
  | [v] => v
  | vs => .tuple vs

/-- The results, each in its turn. -/
def rsK (C : Ctx) (s : List V) (σ : H) : List ResultVar → (List V → Prop) → Prop
  | [], k => k []
  | .tmp t :: rs, k => match s[t]? with
    | some v => rsK C s σ rs fun vs => k (v :: vs)
    | none => False
  | .cell a t :: rs, k => match tk C.P t, s[a]? with
    | some (b, n), some u => need (ldP C.G σ b n u) fun v => rsK C s σ rs fun vs => k (v :: vs)
    | _, _ => False

theorem rsK_rsVs {C : Ctx} {s : List V} {σ : H} : ∀ {rs : List ResultVar} {k : List V → Prop}, rsK C s σ rs k → ∃ vs, rsVs C s σ rs = some vs ∧ k vs
  | [], k, h => ⟨[], rfl, h⟩
  | .tmp t :: rs, k, h => by
    simp only [rsK] at h
    split at h
    · rename_i v hv
      obtain ⟨vs, h1, h2⟩ := rsK_rsVs h
      exact ⟨v :: vs, by simp only [rsVs, rsV, hv, h1], h2⟩
    · exact h.elim
  | .cell a t :: rs, k, h => by
    simp only [rsK] at h
    split at h
    · rename_i b n u hk hu
      obtain ⟨v, hv, h⟩ := need_elim h
      obtain ⟨vs, h1, h2⟩ := rsK_rsVs h
      exact ⟨v :: vs, by simp only [rsVs, rsV, hk, hu, hv, h1], h2⟩
    · exact h.elim

/-- What is done behind a body: its results are handed on. -/
def bodyK (E : Env) (fn : Func) (K : V → H → Prop) : Kx := fun e s σ =>
  match e with
  | .exit _ => False
  | .normal => rsK E.C s σ fn.results.toList fun vs => K (oneV vs) σ
  | .ret => rsK E.C s σ fn.results.toList fun vs => K (oneV vs) σ

def body (E : Env) (fn : Func) (args : List V) (σ : H) (K : V → H → Prop) : Prop :=
  match fn.body with
  | none => False
  | some c => exec E none c (args ++ List.replicate (fn.ntmps - args.length) undefV) σ (bodyK E fn K)

theorem rsV_sound (hR : Rl E.C ρ σ w) {s : List V} {xs : Array Value} (hs : VRs ρ s xs.toList) {r : ResultVar} {v : V} (h : rsV E.C s σ r = some v) :
    ∃ x, ((match r with | .tmp t => pure (xs.getD t undef) | .cell a t => do loadVar t (← asAddr (xs.getD a undef)) : Sem Value)).run E.C.P w = .ok x w ∧ VR ρ v x := by
  cases r with
  | tmp t =>
    simp only [rsV] at h
    obtain ⟨x, hx, hr⟩ := hs.get h
    refine ⟨x, ?_, hr⟩
    simp only [Sem.run_pure]
    rw [Array.getD_eq_getD_getElem?, ← Array.getElem?_toList, hx]; rfl
  | cell a t =>
    simp only [rsV] at h
    split at h
    · rename_i b n v' hk hv'
      obtain ⟨x, hx, hr⟩ := hs.get hv'
      obtain ⟨y, hy, hvy⟩ := ld_sound hR hk hr h
      refine ⟨y, ?_, hvy⟩
      have hxa : xs.getD a undef = x := by rw [Array.getD_eq_getD_getElem?, ← Array.getElem?_toList, hx]; rfl
      simp only [hxa]
      unfold Instr.loadAt at hy
      rw [Sem.run_bind] at hy ⊢
      have : ∃ ad, x = .pointer (some ad) := by
        cases v' <;> cases b <;> simp [ldP] at h
        all_goals
          simp only [VR] at hr
          first | (obtain ⟨p, _, rfl⟩ := hr; exact ⟨_, rfl⟩) | exact ⟨_, hr⟩
      obtain ⟨ad, rfl⟩ := this
      simpa [Instr.sureAddr, asAddr] using hy
    · simp at h

theorem rsVs_sound (hR : Rl E.C ρ σ w) {s : List V} {xs : Array Value} (hs : VRs ρ s xs.toList) : ∀ {rs : List ResultVar} {vs : List V}, rsVs E.C s σ rs = some vs →
    ∃ ys : List Value, (rs.mapM (fun r => (match r with | .tmp t => pure (xs.getD t undef) | .cell a t => do loadVar t (← asAddr (xs.getD a undef)) : Sem Value))).run E.C.P w = .ok ys w ∧ VRs ρ vs ys
  | [], vs, h => by simp only [rsVs, Option.some.injEq] at h; subst h; exact ⟨[], by simp, by simp [VRs]⟩
  | r :: rs, vs, h => by
    simp only [rsVs] at h
    split at h
    · rename_i v us hv hu
      cases h
      obtain ⟨x, hx, hr⟩ := rsV_sound hR hs hv
      obtain ⟨ys, hy, hrs⟩ := rsVs_sound hR hs hu
      refine ⟨x :: ys, ?_, by simp only [VRs]; exact ⟨x, ys, rfl, hr, hrs⟩⟩
      simp only [List.mapM_cons, Sem.run_bind, hx, Result.andThen_ok, hy, Sem.run_pure]
    · simp at h

theorem results_sound (hR : Rl E.C ρ σ w) {fn : Func} {s : List V} {xs : Array Value} (hs : VRs ρ s xs.toList) {vs : List V} (h : rsVs E.C s σ fn.results.toList = some vs) :
    ∃ x, (results fn xs).run E.C.P w = .ok x w ∧ VR ρ (oneV vs) x := by
  obtain ⟨ys, hy, hr⟩ := rsVs_sound hR hs h
  have hm : (fn.results.mapM (fun r => (match r with | .tmp t => pure (xs.getD t undef) | .cell a t => do loadVar t (← asAddr (xs.getD a undef)) : Sem Value))).run E.C.P w = .ok ys.toArray w := by
    rw [Array.mapM_eq_mapM_toList]
    simp only [Sem.run_map, hy, Result.andThen_ok]
  have hl := hr.length
  refine ⟨(if h : ys.toArray.size = 1 then ys.toArray[0] else .tuple ys.toArray), ?_, ?_⟩
  · unfold results
    rw [Sem.run_bind]
    refine Eq.trans (congrArg (fun r => Result.andThen r _) hm) ?_
    rfl
  · match vs, ys, hr with
    | [], ys, hr => simp only [VRs] at hr; subst hr; simp [oneV, VR, VRs]
    | [v], ys, hr =>
      simp only [VRs] at hr
      obtain ⟨y, ys', rfl, h1, h2⟩ := hr
      subst h2
      simpa [oneV] using h1
    | v :: u :: vs, ys, hr =>
      have hl2 := hr.length
      simp only [List.length_cons] at hl2
      rw [dif_neg (by simp; omega)]
      simp only [oneV, VR]
      exact ⟨_, rfl, by simpa using hr⟩

/-- The marks are taken away, one by one. -/
theorem leave_sound {C : Ctx} {fn : Func} {tmps : Array Value} {R : Ending → World → Prop} : ∀ (ms : List Nat) (ρ : Pl) (σ : H) (w : World), Rl C ρ σ w → ms.Nodup → (∀ b, b ∈ ms → b ∈ ρ.dfr) →
    (∀ ρ' w', Rl C ρ' σ w' → (∀ i v, ρ' i v = ρ i v) → (∀ b, b ∈ ρ.dfr → b ∉ ms → b ∈ ρ'.dfr) → ∃ v, (results fn tmps).run C.P w' = .ok v w' ∧ R (.returned v) w') →
    LeavesInM (FW none) 0 C.P fn tmps R (ms.map markOf) .returning w
  | [], ρ, σ, w, hR, hn, hm, h => by
    obtain ⟨v, h1, h2⟩ := h ρ w hR (fun _ _ => rfl) (fun b hb _ => hb)
    exact ⟨v, h1, h2⟩
  | b :: ms, ρ, σ, w, hR, hn, hm, h => by
    have hb := hm b (by simp)
    rw [List.nodup_cons] at hn
    refine ⟨by simp, .inl ⟨b, w.putObj b (.deferred none), rfl, run_takeDeferred (hR.dfr b hb).2, ?_⟩⟩
    refine leave_sound ms _ σ _ (hR.dfr_done hb) hn.2 ?_ ?_
    · intro c hc
      simp only [List.mem_filter, bne_iff_ne, ne_eq]
      exact ⟨hm c (by simp [hc]), by rintro rfl; exact hn.1 hc⟩
    · intro ρ' w' hR' hme hd
      refine h ρ' w' hR' (fun i v => (hme i v).trans rfl) ?_
      intro c hc hcm
      simp only [List.mem_cons, not_or] at hcm
      exact hd c (by simp only [List.mem_filter, bne_iff_ne, ne_eq]; exact ⟨hc, hcm.1⟩) hcm.2

/-- A body's contract is the function's. -/
theorem body_sound (hC : CallOk E.C E.call) (hY : YieldOk E.C E.yield) (hM : EMono E) {f : FuncId} {fn : Func} (hf : E.C.P.funcs[f]? = some fn) {args : List V} {K : V → H → Prop} (h : body E fn args σ K)
    (hR : Rl E.C ρ σ w) {xs : List Value} (hx : VRs ρ args xs) :
    Calls E.C.P f xs.toArray w fun e w' => ∃ v σ' ρ' x, K v σ' ∧ e = .returned x ∧ Ext ρ ρ' ∧ Rl E.C ρ' σ' w' ∧ VR ρ' v x := by
  unfold body at h
  split at h
  · exact h.elim
  · rename_i c hb
    have hl := hx.length
    refine (callsIn_wide (n := 0)).1 (show CallsIn (FW none) 0 _ _ _ _ _ from ?_)
    refine callsIn_of_wp_marks hf hb trivial ?_
    refine exec_sound hC hY hM c ρ _ σ _ w _ _ none h trivial hR ?_ ?_
    · have := hx.append (VRs.replicate (undef_rel (ρ := ρ)) (fn.ntmps - args.length))
      simpa [hl] using this
    · intro e s σ' ρ' a' w' hk he hR' hs' hd
      obtain ⟨ms, hms, hnd, hmm⟩ := hd
      have hms : a'.defers = ms.map markOf := by simpa using hms
      have fin : rsK E.C s σ' fn.results.toList (fun vs => K (oneV vs) σ') → LeavesInM (FW none) 0 E.C.P fn a'.tmps (fun e w' => ∃ v σ' ρ' x, K v σ' ∧ e = .returned x ∧ Ext ρ ρ' ∧ Rl E.C ρ' σ' w' ∧ VR ρ' v x) a'.defers .returning w' := by
        intro hrs
        rw [hms]
        obtain ⟨vs, hvs, hk⟩ := rsK_rsVs hrs
        refine leave_sound ms ρ' σ' w' hR' hnd (fun b hb => (hmm b hb).1) ?_
        intro ρ2 w2 hR2 hme hd2
        have hm2 : ∀ i v p, ρ' i v = some p → ρ2 i v = some p := fun i v p h => by rw [hme]; exact h
        obtain ⟨x, hx1, hx2⟩ := results_sound hR2 (hs'.extM hm2) hvs
        refine ⟨x, hx1, _, σ', ρ2, x, hk, rfl, ⟨fun i v p h => hm2 _ _ _ (he.map _ _ _ h), fun b hb => hd2 b (he.dfr _ hb) (fun hbm => (hmm b hbm).2 hb)⟩, hR2, hx2⟩
      cases e with
      | normal => exact fin hk
      | exit i => exact hk.elim
      | ret => exact fin hk

/-! ### Rounds -/

def putMany (s : List V) : List (Tmp × V) → List V
  | [] => s
  | (t, v) :: l => putMany (s.set t v) l

/-- A round begins: the record was ready. -/
def beginX (rid : Nat) (σ : H) (P : H → Prop) : Prop :=
  match σ.get rid with
  | some (.loop l) => match l.state with
    | .ready => P (σ.set rid (.loop { l with state := .busy }))
    | _ => False
  | _ => False

/-- A round ends. -/
def endX (rid : Nat) (σ : H) (go : Bool) (j : Option Code) (K : V → H → Prop) : Prop :=
  match σ.get rid with
  | some (.loop l) => K (.bool go) (σ.set rid (.loop { l with state := (match go with | true => .ready | false => .done), pending := j }))
  | _ => False

/-- What a round's end comes to. -/
def roundEnd (rid : Nat) (K : V → H → Prop) : Kx := fun e _ σ =>
  match e with
  | .normal => endX rid σ true none K
  | .ret => endX rid σ false (some .ret) K
  | .exit i => endX rid σ false (some (.exit i)) K

/-- Behind the assignment to the left sides. -/
def beginK (E : Env) (rid : Nat) (body : Code) (K : V → H → Prop) : Kx := fun e s1 σ1 =>
  match e with
  | .normal => beginX rid σ1 fun σ2 => exec E (some rid) body s1 σ2 (roundEnd rid K)
  | .ret => False
  | .exit _ => False

/-- A round of a range over a function. -/
def roundX (E : Env) (rid : Nat) (args : List V) (σ : H) (K : V → H → Prop) : Prop :=
  match σ.get rid with
  | some (.loop l) => if args.length = l.params.size then
      exec E (some rid) l.assign (putMany l.tmps (l.params.toList.zip args)) σ (beginK E rid l.body K)
    else False
  | _ => False

theorem putMany_rel {ρ : Pl} : ∀ (l : List (Tmp × V)) (l' : List (Tmp × Value)) (s : List V) (xs : Array Value), VRs ρ s xs.toList → VRs ρ (l.map (·.2)) (l'.map (·.2)) → l.map (·.1) = l'.map (·.1) →
    VRs ρ (putMany s l) (l'.foldl (fun tmps (ta : Tmp × Value) => tmps.setIfInBounds ta.1 ta.2) xs).toList
  | [], l', s, xs, hs, hl, he => by
    cases l' with
    | nil => exact hs
    | cons b l' => simp at he
  | (t, v) :: l, l', s, xs, hs, hl, he => by
    cases l' with
    | nil => simp at he
    | cons b l' =>
      obtain ⟨t', y⟩ := b
      simp only [List.map_cons, List.cons.injEq] at he
      obtain ⟨rfl, he⟩ := he
      simp only [List.map_cons, VRs] at hl
      obtain ⟨y', ys, e, h1, h2⟩ := hl
      cases e
      simp only [putMany, List.foldl_cons]
      refine putMany_rel l l' _ _ ?_ h2 he
      have := hs.set (i := t) h1
      simpa [Array.toList_setIfInBounds] using this

theorem round_sound (hC : CallOk E.C E.call) (hY : YieldOk E.C E.yield) (hM : EMono E) {rid : Nat} {args : List V} {K : V → H → Prop} (h : roundX E rid args σ K) : bestY E.C rid args σ K := by
  intro ρ w xs hR hx
  unfold roundX at h
  split at h
  · rename_i l hl
    split at h
    · rename_i hlen
      obtain ⟨p, x, hp, hB, hxx, r, rfl, g1, g2, g3, g4, g5, g6⟩ := hR.obj _ _ hl rfl
      have hxl := hx.length
      have hps : xs.toArray.size = r.params.size := by rw [g3]; simp; omega
      refine ⟨p, r.fn, (r.params.zip xs.toArray).foldl (fun tmps (ta : Tmp × Value) => tmps.setIfInBounds ta.1 ta.2) r.tmps, r.assign, r.body, hp, ?_, ?_⟩
      · exact run_yield hxx hps
      · have hpm : VRs ρ (putMany l.tmps (l.params.toList.zip args)) ((r.params.zip xs.toArray).foldl (fun tmps (ta : Tmp × Value) => tmps.setIfInBounds ta.1 ta.2) r.tmps).toList := by
          rw [← Array.foldl_toList]
          refine putMany_rel _ _ _ _ g6 ?_ ?_
          · rw [List.map_snd_zip (by simp; omega), Array.toList_zip, List.map_snd_zip (by rw [g3]; simp; omega)]
            simpa using hx
          · rw [List.map_fst_zip (by simp; omega), Array.toList_zip, List.map_fst_zip (by rw [g3]; simp; omega), g3]
        refine roundIn_of_wpIn trivial ?_
        have hro : RoundAt ρ (some rid) (some p.blk) := ⟨p, hp, rfl⟩
        rw [g4]
        refine exec_sound hC hY hM l.assign ρ _ σ _ w _ _ (some p.blk) h hro hR hpm ?_
        intro e s1 σ1 ρ1 a1 w1 hk he hR1 hs1 hd1
        cases e with
        | exit i => exact hk.elim
        | ret => exact hk.elim
        | normal =>
          simp only [beginK, beginX] at hk
          split at hk
          · rename_i l1 hl1
            split at hk
            · rename_i hst
              obtain ⟨q, y, hq, hB1, hy, r1, rfl, f1, f2, f3, f4, f5, f6⟩ := hR1.obj _ _ hl1 rfl
              have hp1 := he.map _ _ _ hp
              rw [hp1] at hq; cases hq
              have hset : Rl E.C ρ1 (σ1.set rid (.loop { l1 with state := .busy })) (w1.putObj p.blk (.loop { r1 with state := .busy })) := hR1.set_solid hl1 rfl rfl hp1 ⟨_, rfl, rfl, f2, f3, f4, f5, f6⟩
              refine ⟨w1.putObj p.blk (.loop { r1 with state := .busy }), ?_, ?_⟩
              · exact run_beginRound hy (by rw [f1]; exact hst)
              · rw [g5]
                refine exec_sound hC hY hM l.body ρ1 _ _ _ _ _ _ (some p.blk) hk (hro.ext he) hset hs1 ?_
                intro e2 s2 σ2 ρ2 a2 w2 hk2 he2 hR2 hs2 hd2
                have hk2 : ∃ l2 go j, σ2.get rid = some (.loop l2) ∧ e2 = (match j with | none => .normal | some c => match c with | .exit i => .exit i | _ => .ret) ∧ go = j.isNone ∧
                    K (.bool go) (σ2.set rid (.loop { l2 with state := (match go with | true => .ready | false => .done), pending := j })) ∧ (j = none ∨ j = some .ret ∨ ∃ i, j = some (.exit i)) := by
                  unfold roundEnd endX at hk2
                  split at hk2 <;> split at hk2 <;> first | exact hk2.elim | skip
                  · rename_i l2 hl2; exact ⟨l2, true, none, hl2, rfl, rfl, hk2, .inl rfl⟩
                  · rename_i l2 hl2; exact ⟨l2, false, some .ret, hl2, rfl, rfl, hk2, .inr (.inl rfl)⟩
                  · rename_i l2 hl2; exact ⟨l2, false, some (.exit _), hl2, rfl, rfl, hk2, .inr (.inr ⟨_, rfl⟩)⟩
                obtain ⟨l2, go, j, hl2, he2', hgo, hk2, hj⟩ := hk2
                have hdone : True := trivial
                cases hdone with
                | intro =>
                  obtain ⟨q, y2, hq, hB2, hy2, r2, rfl, k1, k2, k3, k4, k5, k6⟩ := hR2.obj _ _ hl2 rfl
                  have hp2 := he2.map _ _ _ hp1
                  rw [hp2] at hq; cases hq
                  have fin : ∃ v' w', (Instr.endRound p.blk j).run E.C.P w2 = .ok v' w' ∧ ∃ v σ' ρ' x, K v σ' ∧ Ending.returned v' = .returned x ∧ Ext ρ ρ' ∧ Rl E.C ρ' σ' w' ∧ VR ρ' v x := by
                    refine ⟨.bool j.isNone, w2.putObj p.blk (.loop { r2 with state := if j.isNone then .ready else .done, pending := j }), run_endRound j hy2, _, _, ρ2, _, hk2, rfl, he.trans he2, hR2.set_solid hl2 rfl rfl hp2 ⟨_, rfl, ?_, rfl, k3, k4, k5, k6⟩, ?_⟩
                    · subst hgo; cases j <;> rfl
                    · subst hgo; simp only [VR]
                  rcases hj with rfl | rfl | ⟨i, rfl⟩ <;> subst he2' <;> exact fin
            · exact hk.elim
          · exact hk.elim
    · exact h.elim
  · exact h.elim

/-! ### Places in a code -/

def cd (fn : Func) : Code := fn.body.getD .skip
def sA : Code → Code
  | .seq a _ => a
  | .block _ c => c
  | .loop c => c
  | .cond _ a _ => a
  | c => c
def sB : Code → Code
  | .seq _ b => b
  | .cond _ _ b => b
  | c => c

def fstReg : Code → Option Nat
  | .region id _ _ => some id
  | .seq a b => match fstReg a with
    | some i => some i
    | none => fstReg b
  | .block _ c => fstReg c
  | .loop c => fstReg c
  | .scope c => fstReg c
  | _ => none

def lookN : List (Nat × Nat) → Nat → Option Nat
  | [], _ => none
  | (k, m) :: l, i => match k == i with
    | true => some m
    | false => lookN l i

/-- Masks by the number of a code's first region. -/
def maskT (l : List (Nat × Nat)) (c : Code) : Option Nat :=
  match fstReg c with
  | some i => lookN l i
  | none => none

/-- What follows a round of a loop. -/
def loopK (wk : List V → (List V → Prop) → Prop) (bd : List V → H → Kx → Prop) (n : Nat) (K : Kx) : Kx := fun e s σ =>
  match e with
  | .normal => wk s fun s => loopN wk bd n s σ K
  | .exit i => K (.exit i) s σ
  | .ret => K .ret s σ

theorem loopN_succ (wk : List V → (List V → Prop) → Prop) (bd : List V → H → Kx → Prop) (n : Nat) (s : List V) (σ : H) (K : Kx) : loopN wk bd (n + 1) s σ K = bd s σ (loopK wk bd n K) := rfl

end Go.Am
