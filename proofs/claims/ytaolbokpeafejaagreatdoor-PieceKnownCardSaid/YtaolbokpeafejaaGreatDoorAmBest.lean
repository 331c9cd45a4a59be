/-
  AM: the contract of a function, as the weakest that is true; what a call has made for itself may be forgotten. (Lemmas alone; no program.)
-/
import Derived.Test.YtaolbokpeafejaaGreatDoorAmCode2
set_option linter.unusedVariables false
set_option linter.unusedSimpArgs false
namespace Go.Am
open Go Go.RowKit

/-! ### What lies below a number -/

mutual
def V.bel (n : Nat) : V → Prop
  | .ptr a => a.id < n
  | .slice a _ _ _ _ => a.id < n
  | .map r => r < n
  | .iter r => r < n
  | .yld r => r < n
  | .func _ fs cs => V.bels n fs ∧ V.bels n cs
  | .iface _ v => V.bel n v
  | .agg cs => V.bels n cs
  | .tuple cs => V.bels n cs
  | .bool _ => True
  | .int _ _ => True
  | .flt _ _ => True
  | .str _ => True
  | .nilp => True
  | .gp _ _ => True
  | .nils => True
  | .nilm => True
  | .nilf => True
  | .nili => True
def V.bels (n : Nat) : List V → Prop
  | [] => True
  | v :: vs => V.bel n v ∧ V.bels n vs
end

def Pl.cut (ρ : Pl) (n : Nat) : Pl := ⟨fun i v => if i < n then ρ i v else none, ρ.dfr⟩

theorem Pl.cut_at (ρ : Pl) (n i v : Nat) : (ρ.cut n) i v = if i < n then ρ i v else none := rfl

mutual
theorem VR.bel {ρ : Pl} {n : Nat} (h : ∀ i v p, ρ i v = some p → i < n) : ∀ {v : V} {x : Value}, VR ρ v x → V.bel n v
  | .bool _, _, _ => by simp only [V.bel]
  | .int _ _, _, _ => by simp only [V.bel]
  | .flt _ _, _, _ => by simp only [V.bel]
  | .str _, _, _ => by simp only [V.bel]
  | .nilp, _, _ => by simp only [V.bel]
  | .ptr a, x, e => by simp only [VR] at e; simp only [V.bel]; obtain ⟨p, e1, _⟩ := e; exact h _ _ _ e1
  | .gp _ _, _, _ => by simp only [V.bel]
  | .nils, _, _ => by simp only [V.bel]
  | .slice a sz len cb ex, x, e => by simp only [VR] at e; simp only [V.bel]; obtain ⟨p, ad, c, e1, _⟩ := e; exact h _ _ _ e1
  | .nilm, _, _ => by simp only [V.bel]
  | .map r, x, e => by simp only [VR] at e; simp only [V.bel]; obtain ⟨p, e1, _⟩ := e; exact h _ _ _ e1
  | .func fn fs cs, x, e => by simp only [VR] at e; simp only [V.bel]; obtain ⟨f, c, _, e2, e3⟩ := e; exact ⟨VRs.bel h e2, VRs.bel h e3⟩
  | .nilf, _, _ => by simp only [V.bel]
  | .iface t v, x, e => by simp only [VR] at e; simp only [V.bel]; obtain ⟨y, _, e2⟩ := e; exact VR.bel h e2
  | .nili, _, _ => by simp only [V.bel]
  | .agg cs, x, e => by simp only [VR] at e; simp only [V.bel]; obtain ⟨c, _, e2⟩ := e; exact VRs.bel h e2
  | .tuple cs, x, e => by simp only [VR] at e; simp only [V.bel]; obtain ⟨c, _, e2⟩ := e; exact VRs.bel h e2
  | .iter r, x, e => by simp only [VR] at e; simp only [V.bel]; obtain ⟨p, e1, _⟩ := e; exact h _ _ _ e1
  | .yld r, x, e => by simp only [VR] at e; simp only [V.bel]; obtain ⟨p, e1, _⟩ := e; exact h _ _ _ e1
theorem VRs.bel {ρ : Pl} {n : Nat} (h : ∀ i v p, ρ i v = some p → i < n) : ∀ {vs : List V} {xs : List Value}, VRs ρ vs xs → V.bels n vs
  | [], _, _ => by simp only [V.bels]
  | v :: vs, xs, e => by
    simp only [VRs] at e
    obtain ⟨y, ys, _, e2, e3⟩ := e
    simp only [V.bels]
    exact ⟨VR.bel h e2, VRs.bel h e3⟩
end

mutual
theorem VR.cut {ρ : Pl} {n : Nat} : ∀ {v : V} {x : Value}, VR ρ v x → V.bel n v → VR (ρ.cut n) v x
  | .bool _, _, e, _ => e
  | .int _ _, _, e, _ => e
  | .flt _ _, _, e, _ => e
  | .str _, _, e, _ => e
  | .nilp, _, e, _ => e
  | .ptr a, x, e, h => by
    simp only [VR] at e ⊢; simp only [V.bel] at h
    obtain ⟨p, e1, e2⟩ := e
    exact ⟨p, by simp [Pl.cut_at, h, e1], e2⟩
  | .gp _ _, _, e, _ => e
  | .nils, _, e, _ => e
  | .slice a sz len cb ex, x, e, h => by
    simp only [VR] at e ⊢; simp only [V.bel] at h
    obtain ⟨p, ad, c, e1, e2⟩ := e
    exact ⟨p, ad, c, by simp [Pl.cut_at, h, e1], e2⟩
  | .nilm, _, e, _ => e
  | .map r, x, e, h => by
    simp only [VR] at e ⊢; simp only [V.bel] at h
    obtain ⟨p, e1, e2⟩ := e
    exact ⟨p, by simp [Pl.cut_at, h, e1], e2⟩
  | .func fn fs cs, x, e, h => by
    simp only [VR] at e ⊢; simp only [V.bel] at h
    obtain ⟨f, c, e1, e2, e3⟩ := e
    exact ⟨f, c, e1, VRs.cut e2 h.1, VRs.cut e3 h.2⟩
  | .nilf, _, e, _ => e
  | .iface t v, x, e, h => by
    simp only [VR] at e ⊢; simp only [V.bel] at h
    obtain ⟨y, e1, e2⟩ := e
    exact ⟨y, e1, VR.cut e2 h⟩
  | .nili, _, e, _ => e
  | .agg cs, x, e, h => by
    simp only [VR] at e ⊢; simp only [V.bel] at h
    obtain ⟨c, e1, e2⟩ := e
    exact ⟨c, e1, VRs.cut e2 h⟩
  | .tuple cs, x, e, h => by
    simp only [VR] at e ⊢; simp only [V.bel] at h
    obtain ⟨c, e1, e2⟩ := e
    exact ⟨c, e1, VRs.cut e2 h⟩
  | .iter r, x, e, h => by
    simp only [VR] at e ⊢; simp only [V.bel] at h
    obtain ⟨p, e1, e2⟩ := e
    exact ⟨p, by simp [Pl.cut_at, h, e1], e2⟩
  | .yld r, x, e, h => by
    simp only [VR] at e ⊢; simp only [V.bel] at h
    obtain ⟨p, e1, e2⟩ := e
    exact ⟨p, by simp [Pl.cut_at, h, e1], e2⟩
theorem VRs.cut {ρ : Pl} {n : Nat} : ∀ {vs : List V} {xs : List Value}, VRs ρ vs xs → V.bels n vs → VRs (ρ.cut n) vs xs
  | [], _, e, _ => e
  | v :: vs, xs, e, h => by
    simp only [VRs] at e ⊢; simp only [V.bels] at h
    obtain ⟨y, ys, e1, e2, e3⟩ := e
    exact ⟨y, ys, e1, VR.cut e2 h.1, VRs.cut e3 h.2⟩
end

theorem V.bels_get {n : Nat} : ∀ {vs : List V} {j : Nat} {v : V}, V.bels n vs → vs[j]? = some v → V.bel n v
  | [], j, v, _, h => by simp at h
  | u :: vs, j, v, hb, h => by
    simp only [V.bels] at hb
    cases j with
    | zero => simp at h; subst h; exact hb.1
    | succ j => simp at h; exact V.bels_get hb.2 h

def O.bel (n : Nat) : O → Prop
  | .row r => V.bels n r.cells
  | .map es _ => ∀ k v b, (k, v, b) ∈ es → V.bel n k ∧ V.bel n v
  | .sit _ _ => True
  | .loop l => V.bels n l.tmps
  | .dead => True

/-- The heap that is handed back: what the call has made for itself is forgotten. -/
def Drops (σ σ' σ'' : H) : Prop :=
  σ''.size = σ.size ∧ ∀ i, i < σ.size → σ''.get i = σ'.get i ∧ (σ'.get i = σ.get i ∨ ∃ o, σ'.get i = some o ∧ o.bel σ.size)

theorem MRel.cut {ρ : Pl} {n : Nat} : ∀ {es : List (V × V × Nat)} {xs : List MapEntry}, MRel ρ es xs → (∀ k v b, (k, v, b) ∈ es → V.bel n k ∧ V.bel n v) → MRel (ρ.cut n) es xs
  | [], _, e, _ => e
  | (k, v, b) :: es, xs, e, h => by
    obtain ⟨x, xs', e1, e2, e3, e4, e5⟩ := e
    have := h k v b (by simp)
    exact ⟨x, xs', e1, e2.cut this.1, e3.cut this.2, e4, MRel.cut e5 (fun k v b hm => h k v b (by simp [hm]))⟩

theorem MRel.bel {ρ : Pl} {n : Nat} (h : ∀ i v p, ρ i v = some p → i < n) : ∀ {es : List (V × V × Nat)} {xs : List MapEntry}, MRel ρ es xs → ∀ k v b, (k, v, b) ∈ es → V.bel n k ∧ V.bel n v
  | [], _, _, k, v, b, hm => by simp at hm
  | (k', v', b') :: es, xs, e, k, v, b, hm => by
    obtain ⟨x, xs', e1, e2, e3, e4, e5⟩ := e
    simp only [List.mem_cons, Prod.mk.injEq] at hm
    rcases hm with ⟨rfl, rfl, rfl⟩ | hm
    · exact ⟨e2.bel h, e3.bel h⟩
    · exact MRel.bel h e5 k v b hm

theorem ORel.cut {ρ : Pl} {n : Nat} : ∀ {o : O} {x : Obj}, ORel ρ o x → o.bel n → ORel (ρ.cut n) o x
  | .map es c, x, e, h => by obtain ⟨xs, e1, e2⟩ := e; exact ⟨xs, e1, e2.cut h⟩
  | .sit s n, x, e, _ => e
  | .loop l, x, e, h => by obtain ⟨r, e1, e2, e3, e4, e5, e6, e7⟩ := e; exact ⟨r, e1, e2, e3, e4, e5, e6, e7.cut h⟩
  | .row _, _, _, _ => trivial
  | .dead, _, _, _ => trivial

theorem Rl.obj_bel {C : Ctx} {ρ : Pl} {σ : H} {w : World} (hR : Rl C ρ σ w) {i : Nat} {o : O} (h : σ.get i = some o) : o.bel σ.size := by
  have hd : ∀ i v p, ρ i v = some p → i < σ.size := fun i v p hp => (hR.dom _ _ _ hp).1
  cases o with
  | row r =>
    simp only [O.bel]
    obtain ⟨p, hp, hrow, _⟩ := hR.row _ _ _ h (hR.low _ _ h) (Nat.le_refl _)
    have : ∀ l : List V, (∀ (j : Nat) (c : V), l[j]? = some c → V.bel σ.size c) → V.bels σ.size l := by
      intro l
      induction l with
      | nil => intro _; simp only [V.bels]
      | cons a l ih => intro hl; simp only [V.bels]; exact ⟨hl 0 a rfl, ih (fun j c hj => hl (j + 1) c (by simpa using hj))⟩
    refine this _ (fun j c hj => ?_)
    obtain ⟨x, _, hx⟩ := hrow j c (List.getElem?_eq_some_iff.1 hj).1 hj
    exact hx.bel hd
  | map es c =>
    obtain ⟨p, x, _, _, _, xs, _, hm⟩ := hR.obj _ _ h rfl
    exact hm.bel hd
  | sit s n => trivial
  | loop l =>
    obtain ⟨p, x, _, _, _, r, _, _, _, _, _, _, hm⟩ := hR.obj _ _ h rfl
    exact hm.bel hd
  | dead => trivial

theorem Rl.drop {C : Ctx} {ρ ρ' : Pl} {σ σ' σ'' : H} {w w' : World} (h0 : Rl C ρ σ w) (hR : Rl C ρ' σ' w') (he : Ext ρ ρ') (hd : Drops σ σ' σ'') :
    Rl C (ρ'.cut σ.size) σ'' w' ∧ Ext ρ (ρ'.cut σ.size) := by
  have hsz := hd.1
  have hcut : ∀ i v p, (ρ'.cut σ.size) i v = some p → i < σ.size ∧ ρ' i v = some p := by
    intro i v p h
    rw [Pl.cut_at] at h
    split at h
    · rename_i hi; exact ⟨hi, h⟩
    · cases h
  have hget : ∀ i o, σ''.get i = some o → i < σ.size ∧ σ'.get i = some o ∧ o.bel σ.size := by
    intro i o h
    have hi : i < σ.size := by rw [← hsz]; exact H.get_lt h
    obtain ⟨h1, h2⟩ := hd.2 i hi
    rw [h1] at h
    refine ⟨hi, h, ?_⟩
    rcases h2 with h2 | ⟨o', ho', hb⟩
    · rw [h] at h2; exact h0.obj_bel h2.symm
    · rw [h] at ho'; cases ho'; exact hb
  refine ⟨{ toRel := { below := hR.below, base := hR.base, dom := ?_, vers := ?_, low := ?_, row := ?_, disj := ?_, fr := ?_, same := ?_, obj := ?_, dfr := ?_ }, glob := h0.globX (fun i v p hp => by have := (h0.dom _ _ _ hp).1; simp [Pl.cut_at, this, he.map _ _ _ hp]), ext := hR.ext }, ?_⟩
  · intro i v p hp
    obtain ⟨hi, hp⟩ := hcut _ _ _ hp
    obtain ⟨_, a2, a3⟩ := hR.dom _ _ _ hp
    exact ⟨by rw [hsz]; exact hi, a2, a3⟩
  · intro i v p r hp hg
    exact hR.vers _ _ _ _ (hcut _ _ _ hp).2 (hget _ _ hg).2.1
  · intro i r hg
    exact hR.low _ _ (hget _ _ hg).2.1
  · intro i r v hg hl hv
    obtain ⟨hi, hg, hb⟩ := hget _ _ hg
    obtain ⟨p, hp, g1, g2, g3⟩ := hR.row _ _ _ hg hl hv
    refine ⟨p, by simp [Pl.cut_at, hi, hp], ?_, g2, g3⟩
    intro j c hj hc
    obtain ⟨x, hx1, hx2⟩ := g1 j c hj hc
    exact ⟨x, hx1, hx2.cut (V.bels_get hb hc)⟩
  · intro i j v u p q o o' hij hp hq hg hg' ho ho'
    exact hR.disj _ _ _ _ _ _ _ _ hij (hcut _ _ _ hp).2 (hcut _ _ _ hq).2 (hget _ _ hg).2.1 (hget _ _ hg').2.1 ho ho'
  · intro i v p o hp hg ho
    exact hR.fr _ _ _ _ (hcut _ _ _ hp).2 (hget _ _ hg).2.1 ho
  · intro i v u p q hp hq hb
    exact hR.same _ _ _ _ _ (hcut _ _ _ hp).2 (hcut _ _ _ hq).2 hb
  · intro i o hg ho
    obtain ⟨hi, hg, hb⟩ := hget _ _ hg
    obtain ⟨p, x, hp, h1, h2, h3⟩ := hR.obj _ _ hg ho
    exact ⟨p, x, by simp [Pl.cut_at, hi, hp], h1, h2, h3.cut hb⟩
  · exact hR.dfr
  · refine ⟨?_, he.dfr⟩
    intro i v p hp
    have := (h0.dom _ _ _ hp).1
    simp [Pl.cut_at, this, he.map _ _ _ hp]

/-! ### The weakest contract -/

def best (C : Ctx) : Call := fun f args σ K =>
  ∀ (ρ : Pl) (w : World) (xs : List Value), Rl C ρ σ w → VRs ρ args xs → Calls C.P f xs.toArray w fun e w' => ∃ v σ' ρ' x, K v σ' ∧ e = .returned x ∧ Ext ρ ρ' ∧ Rl C ρ' σ' w' ∧ VR ρ' v x

theorem best_ok (C : Ctx) : CallOk C (best C) := fun f args σ K h => h

theorem bestY_ok (C : Ctx) : YieldOk C (bestY C) := fun r args σ K h => h

theorem bestY_mono (C : Ctx) : ∀ (r : Nat) (args : List V) (σ : H) (K K' : V → H → Prop), (∀ v σ', K v σ' → K' v σ') → bestY C r args σ K → bestY C r args σ K' := by
  intro r args σ K K' hk h ρ w xs hR hx
  obtain ⟨p, f, tmps, asg, bd, h1, h2, h3⟩ := h ρ w xs hR hx
  refine ⟨p, f, tmps, asg, bd, h1, h2, RoundIn.mono h3 ?_⟩
  rintro e w' ⟨v, σ', ρ', x, h1, h2⟩
  exact ⟨v, σ', ρ', x, hk _ _ h1, h2⟩

theorem best_mono (C : Ctx) : CallMono (best C) := by
  intro f args σ K K' hk h ρ w xs hR hx
  refine (h ρ w xs hR hx).mono ?_
  rintro e w' ⟨v, σ', ρ', x, h1, h2⟩
  exact ⟨v, σ', ρ', x, hk _ _ h1, h2⟩

/-- What a body may leave so that the caller has K: as it is, or what is its own forgotten. -/
def Ret (σ : H) (K : V → H → Prop) : V → H → Prop := fun v σ' => K v σ' ∨ ∃ σ'', Drops σ σ' σ'' ∧ V.bel σ.size v ∧ K v σ''

theorem best_of_body {C : Ctx} {f : FuncId} {fn : Func} {args : List V} {σ : H} {K : V → H → Prop} (hf : C.P.funcs[f]? = some fn) (n : Nat) (mask : Code → Option Nat) (h : body ⟨C, best C, bestY C, n, mask⟩ fn args σ (Ret σ K)) : best C f args σ K := by
  intro ρ w xs hR hx
  have := body_sound (E := ⟨C, best C, bestY C, n, mask⟩) (best_ok C) (bestY_ok C) ⟨best_mono C, bestY_mono C⟩ hf h hR hx
  refine this.mono ?_
  rintro e w' ⟨v, σ', ρ', x, hk, he, hex, hR', hv⟩
  rcases hk with hk | ⟨σ'', hd, hb, hk⟩
  · exact ⟨v, σ', ρ', x, hk, he, hex, hR', hv⟩
  · obtain ⟨r1, r2⟩ := Rl.drop hR hR' hex hd
    exact ⟨v, σ'', _, x, hk, he, r2, r1, hv.cut hb⟩

theorem bestY_of_round {C : Ctx} {rid : Nat} {args : List V} {σ : H} {K : V → H → Prop} (n : Nat) (mask : Code → Option Nat) (h : roundX ⟨C, best C, bestY C, n, mask⟩ rid args σ K) : bestY C rid args σ K :=
  round_sound (E := ⟨C, best C, bestY C, n, mask⟩) (best_ok C) (bestY_ok C) ⟨best_mono C, bestY_mono C⟩ h

/-- What is its own alone is new: the old is as it was. -/
theorem Drops.refl (σ : H) : Drops σ σ σ := ⟨rfl, fun i _ => ⟨rfl, .inl rfl⟩⟩

def Grew (σ σ' : H) : Prop := σ.size ≤ σ'.size ∧ ∀ i, i < σ.size → σ'.get i = σ.get i

theorem Grew.refl (σ : H) : Grew σ σ := ⟨Nat.le_refl _, fun _ _ => rfl⟩
theorem Grew.trans {a b c : H} (h : Grew a b) (k : Grew b c) : Grew a c := ⟨Nat.le_trans h.1 k.1, fun i hi => (k.2 i (Nat.lt_of_lt_of_le hi h.1)).trans (h.2 i hi)⟩
theorem Grew.push (σ : H) (o : O) : Grew σ (σ.push o) := ⟨by simp, fun i hi => H.get_push_ne _ _ (Nat.ne_of_lt hi)⟩
theorem Grew.mkRow (σ : H) (e : TypeId) (cs : List V) : Grew σ (mkRow σ e cs) := Grew.push _ _
theorem Grew.drops {σ σ' : H} (h : Grew σ σ') : Drops σ σ' σ := ⟨rfl, fun i hi => ⟨(h.2 i hi).symm, .inl (h.2 i hi)⟩⟩

/-- A body that only computes. -/
theorem Ret.pure {σ σ' : H} {K : V → H → Prop} {v : V} (hg : Grew σ σ') (hv : V.bel σ.size v) (h : K v σ) : Ret σ K v σ' := .inr ⟨σ, hg.drops, hv, h⟩
theorem Ret.here {σ σ' : H} {K : V → H → Prop} {v : V} (h : K v σ') : Ret σ K v σ' := .inl h

end Go.Am
