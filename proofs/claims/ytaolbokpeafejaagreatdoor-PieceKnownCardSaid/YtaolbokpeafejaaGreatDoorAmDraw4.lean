/-
  AM: one order, with looks back, stands for all orders: the end. (Lemmas alone; no program.)
-/
import Derived.Test.YtaolbokpeafejaaGreatDoorAmDraw3
set_option linter.unusedVariables false
set_option linter.unusedSimpArgs false
namespace Go.Am
open Go Go.RowKit

variable {E : Env} {ops : Array Oper} {s0 : List V} {K : List V → H → Prop}

abbrev inL (l : List Nat) : Nat → Bool := fun i => l.contains i

/-- What is kept of an operation that one order has behind it, and the other may not yet. -/
def Pend (E : Env) (ops : Array Oper) (val : Nat → V) (ref : Nat → List V) (σ : H) (j : Nat) (o : Oper) : Prop :=
  (gdB ops o (ref j) = some false ∧ val j = undefV) ∨ (gdB ops o (ref j) = some true ∧ opR E.C (ref j) σ o.op = some (val j))

structure Inv (E : Env) (ops : Array Oper) (s0 : List V) (K : List V → H → Prop) (S : Nat → Bool) (done rest : List Nat) (mem : List (Nat × List V)) (Cs s : List V) (σ : H)
    (val : Nat → V) (ref : Nat → List V) (pre : Nat → Nat → Bool) : Prop where
  run : dRun E ops (msk ops) rest mem Cs σ K
  ord : okOrd E.C.P ops (msk ops) done rest = true
  cover : ∀ i, i < ops.size → i ∈ done ∨ i ∈ rest
  dlt : ∀ i, i ∈ done → i < ops.size
  dcD : DC ops (inL done)
  slotsC : SlotsAre ops s0 val (inL done) Cs
  sub : ∀ i, S i = true → i ∈ done
  eff : ∀ i, i ∈ done → isEff E.C.P ops i = true → S i = true
  dcS : DC ops S
  slotsS : SlotsAre ops s0 val S s
  refs : ∀ j, j ∈ done → isEff E.C.P ops j = false → DC ops (pre j) ∧ (∀ i, Direct ops i j → pre j i = true) ∧ pre j j = false ∧ SlotsAre ops s0 val (pre j) (ref j) ∧ ∀ k, pre j k = true → k ∈ done
  pend : ∀ j o, j ∈ done → isEff E.C.P ops j = false → S j = false → ops[j]? = some o → Pend E ops val ref σ j o
  mems : ∀ j o, j ∈ done → isEff E.C.P ops j = false → ops[j]? = some o → hrd E.C o.op = true → gdB ops o (ref j) = some true → (j, ref j) ∈ mem

theorem okOrd_cons {P : Program} {ms : List Nat} {done l : List Nat} {i : Nat} (h : okOrd P ops ms done (i :: l) = true) :
    ∃ o, ops[i]? = some o ∧ (∀ e, e ∈ o.after.toList → Region.binds .any e = true → e.on < i ∧ e.on ∈ done) ∧ i ∉ done ∧ (isEff P ops i = true → ∀ j, j ∈ l → anc ms i j = true) ∧ okOrd P ops ms (i :: done) l = true := by
  simp only [okOrd, Bool.and_eq_true] at h
  obtain ⟨⟨⟨h1, h2⟩, h3⟩, h4⟩ := h
  cases ho : ops[i]? with
  | none => rw [ho] at h1; cases h1
  | some o =>
    rw [ho] at h1
    refine ⟨o, rfl, ?_, by simpa using h2, ?_, h4⟩
    · intro e he hb
      have := List.all_eq_true.1 h1 e he
      simp only [hb, Bool.not_true, Bool.false_or, Bool.and_eq_true, decide_eq_true_eq] at this
      exact ⟨this.1, by simpa using this.2⟩
    · intro he j hj
      simp only [he, Bool.not_true, Bool.false_or] at h3
      exact List.all_eq_true.1 h3 j hj

theorem direct_done {done : List Nat} {i : Nat} {o : Oper} (ho : ops[i]? = some o) (h : ∀ e, e ∈ o.after.toList → Region.binds .any e = true → e.on < i ∧ e.on ∈ done) : ∀ k, Direct ops k i → inL done k = true := by
  rintro k ⟨o', e, ho', he, hb, rfl⟩
  rw [ho] at ho'; cases ho'
  simpa using (h e he hb).2

theorem inL_cons (done : List Nat) (i : Nat) : inL (i :: done) = addS (inL done) i := by
  funext k
  rw [Bool.eq_iff_iff]
  simp [inL, addS]

theorem lt_of_op {i : Nat} {o : Oper} (ho : ops[i]? = some o) : i < ops.size := by
  rcases Nat.lt_or_ge i ops.size with h | h
  · exact h
  · rw [Array.getElem?_eq_none h] at ho; cases ho

/-- The one order goes on to its next effect. -/
theorem Inv.advance (hI : Ind ops) : ∀ (rest : List Nat) {S : Nat → Bool} {done : List Nat} {mem : List (Nat × List V)} {Cs s : List V} {σ : H} {val : Nat → V} {ref : Nat → List V} {pre : Nat → Nat → Bool},
    Inv E ops s0 K S done rest mem Cs s σ val ref pre →
    ∃ done' rest' mem' Cs' val' ref' pre', Inv E ops s0 K S done' rest' mem' Cs' s σ val' ref' pre' ∧ (rest' = [] ∨ ∃ i l, rest' = i :: l ∧ isEff E.C.P ops i = true)
  | [], S, done, mem, Cs, s, σ, val, ref, pre, h => ⟨_, _, _, _, _, _, _, h, .inl rfl⟩
  | i :: l, S, done, mem, Cs, s, σ, val, ref, pre, h => by
    cases he : isEff E.C.P ops i with
    | true => exact ⟨_, _, _, _, _, _, _, h, .inr ⟨i, l, rfl, he⟩⟩
    | false =>
      obtain ⟨o, ho, hdir, hnd, _, hord⟩ := okOrd_cons h.ord
      have hi : i < ops.size := lt_of_op ho
      have hSi : S i = false := by
        cases e : S i with
        | false => rfl
        | true => exact absurd (h.sub i e) hnd
      have hpd := direct_done ho hdir
      have hni : inL done i = false := by simpa using hnd
      -- what it answers
      have key : ∃ v mem', dRun E ops (msk ops) l mem' (putS Cs o.dst v) σ K ∧ ((gdB ops o Cs = some false ∧ v = undefV) ∨ (gdB ops o Cs = some true ∧ opR E.C Cs σ o.op = some v)) ∧
          (∀ x, x ∈ mem → x ∈ mem') ∧ (hrd E.C o.op = true → gdB ops o Cs = some true → (i, Cs) ∈ mem') := by
        rcases dRun_cons ho h.run with ⟨hg, hr⟩ | ⟨hg, hr⟩
        · rw [he] at hr
          simp only at hr
          obtain ⟨v, hv, hk⟩ := (isEff_read ho he).1 hr
          cases hh : hrd E.C o.op with
          | true => rw [hh] at hk; exact ⟨v, _, hk, .inr ⟨hg, hv⟩, fun x hx => by simp [hx], fun _ _ => by simp⟩
          | false => rw [hh] at hk; exact ⟨v, _, hk, .inr ⟨hg, hv⟩, fun x hx => hx, fun e => by cases e⟩
        · exact ⟨undefV, mem, hr, .inl ⟨hg, rfl⟩, fun x hx => hx, fun _ e => by rw [hg] at e; cases e⟩
      obtain ⟨v, mem', hrun, hans, hmem, hnew⟩ := key
      let val' : Nat → V := fun k => if k = i then v else val k
      let ref' : Nat → List V := fun k => if k = i then Cs else ref k
      let pre' : Nat → Nat → Bool := fun k => if k = i then inL done else pre k
      have hval : ∀ k, k ∈ done → val' k = val k := fun k hk => by
        have : k ≠ i := fun e => hnd (e ▸ hk)
        simp [val', this]
      have hvi : val' i = v := by simp [val']
      refine Inv.advance hI l (done := i :: done) (mem := mem') (Cs := putS Cs o.dst v) (val := val') (ref := ref') (pre := pre') ?_
      have hne : ∀ k, k ∈ done → k ≠ i := fun k hk e => hnd (e ▸ hk)
      refine { run := hrun, ord := hord, cover := ?_, dlt := ?_, dcD := ?_, slotsC := ?_, sub := fun k hk => by simp [h.sub k hk], eff := ?_, dcS := h.dcS, slotsS := ?_, refs := ?_, pend := ?_, mems := ?_ }
      · intro k hk
        rcases h.cover k hk with h1 | h1
        · exact .inl (by simp [h1])
        · simp only [List.mem_cons] at h1 ⊢
          rcases h1 with rfl | h1
          · exact .inl (.inl rfl)
          · exact .inr h1
      · intro k hk
        simp only [List.mem_cons] at hk
        rcases hk with rfl | hk
        · exact hi
        · exact h.dlt k hk
      · rw [inL_cons]; exact h.dcD.add hpd
      · rw [inL_cons]
        have h1 : SlotsAre ops s0 val' (inL done) Cs := h.slotsC.val (fun k hk => hval k (by simpa using hk))
        have := h1.add ho hi (writers_ahead hI ho h.dcD hni (fun k hk => h.dlt k (by simpa using hk)))
        rwa [hvi] at this
      · intro k hk hke
        simp only [List.mem_cons] at hk
        rcases hk with rfl | hk
        · rw [he] at hke; cases hke
        · exact h.eff k hk hke
      · exact h.slotsS.val (fun k hk => hval k (h.sub k hk))
      · intro k hk hke
        simp only [List.mem_cons] at hk
        by_cases hki : k = i
        · subst hki
          simp only [pre', ref', if_true]
          exact ⟨h.dcD, hpd, hni, h.slotsC.val (fun k hk => hval k (by simpa using hk)), fun m hm => by simp; right; simpa using hm⟩
        · have hk : k ∈ done := by rcases hk with rfl | hk; exact absurd rfl hki; exact hk
          obtain ⟨a1, a2, a3, a4, a5⟩ := h.refs k hk hke
          simp only [pre', ref', hki, if_false]
          exact ⟨a1, a2, a3, a4.val (fun m hm => hval m (a5 m hm)), fun m hm => by simp [a5 m hm]⟩
      · intro k o' hk hke hks ho'
        simp only [List.mem_cons] at hk
        by_cases hki : k = i
        · subst hki
          rw [ho] at ho'; cases ho'
          unfold Pend
          simp only [ref', if_true, hvi]
          exact hans
        · have hk : k ∈ done := by rcases hk with rfl | hk; exact absurd rfl hki; exact hk
          have := h.pend k o' hk hke hks ho'
          unfold Pend at this ⊢
          simp only [ref', hki, if_false, hval k hk]
          exact this
      · intro k o' hk hke ho' hh hg
        simp only [List.mem_cons] at hk
        by_cases hki : k = i
        · subst hki
          rw [ho] at ho'; cases ho'
          simp only [ref', if_true] at hg ⊢
          exact hnew hh hg
        · have hk : k ∈ done := by rcases hk with rfl | hk; exact absurd rfl hki; exact hk
          simp only [ref', hki, if_false] at hg ⊢
          exact hmem _ (h.mems k o' hk hke ho' hh hg)

/-- All have come: the end. -/
theorem Inv.finish {S : Nat → Bool} {done rest : List Nat} {mem : List (Nat × List V)} {Cs s : List V} {σ : H} {val : Nat → V} {ref : Nat → List V} {pre : Nat → Nat → Bool}
    (h : Inv E ops s0 K S done rest mem Cs s σ val ref pre) (hr : rest = [] ∨ ∃ i l, rest = i :: l ∧ isEff E.C.P ops i = true) (hall : ∀ i, i < ops.size → S i = true) : K s σ := by
  rcases hr with rfl | ⟨i, l, rfl, he⟩
  · have hk : K Cs σ := h.run
    have : s = Cs := by
      apply List.ext_getElem?
      intro t
      rcases Nat.lt_or_ge t s0.length with hl | hl
      · rw [h.slotsS.2 t hl, h.slotsC.2 t hl]
        rw [lastW_congr (S := S) (S' := inL done) ops.size]
        intro i hi _
        rw [hall i hi]
        exact (by simpa using h.sub i (hall i hi) : inL done i = true).symm
      · rw [List.getElem?_eq_none (by rw [h.slotsS.1]; exact hl), List.getElem?_eq_none (by rw [h.slotsC.1]; exact hl)]
    rw [this]; exact hk
  · obtain ⟨o, ho, _, hnd, _, _⟩ := okOrd_cons h.ord
    exact absurd (h.sub i (hall i (lt_of_op ho))) hnd

/-- One more in the other order. -/
theorem Inv.next (hM : EMono E) (hI : Ind ops) {S : Nat → Bool} {done rest : List Nat} {mem : List (Nat × List V)} {Cs s : List V} {σ : H} {val : Nat → V} {ref : Nat → List V} {pre : Nat → Nat → Bool}
    (h : Inv E ops s0 K S done rest mem Cs s σ val ref pre) (hr : rest = [] ∨ ∃ i l, rest = i :: l ∧ isEff E.C.P ops i = true) {j : Nat} {o : Oper} (ho : ops[j]? = some o) (hS : S j = false) (hp : ∀ k, Direct ops k j → S k = true)
    {G : List V → H → Prop} (hG : ∀ done' rest' mem' Cs' s' σ' val' ref' pre', Inv E ops s0 K (addS S j) done' rest' mem' Cs' s' σ' val' ref' pre' → G s' σ') : stepX E ops j s σ G := by
  have hj := lt_of_op ho
  have hSlt : ∀ i, S i = true → i < ops.size := fun i hi => h.dlt i (h.sub i hi)
  have hahead := writers_ahead hI ho h.dcS hS hSlt
  by_cases hjd : j ∈ done
  · have hje : isEff E.C.P ops j = false := by
      cases e : isEff E.C.P ops j with
      | false => rfl
      | true => rw [h.eff j hjd e] at hS; cases hS
    obtain ⟨a1, a2, a3, a4, a5⟩ := h.refs j hjd hje
    have hsame : ∀ t, t ∈ namesOf ops o → s[t]? = (ref j)[t]? := fun t ht => same_names hI ho h.slotsS a4 h.dcS a1 hp a2 hS a3 ht
    have hinv : Inv E ops s0 K (addS S j) done rest mem Cs (putS s o.dst (val j)) σ val ref pre := by
      refine { h with sub := ?_, eff := ?_, dcS := h.dcS.add hp, slotsS := h.slotsS.add ho hj hahead, pend := ?_ }
      · intro k hk
        simp only [addS, Bool.or_eq_true, beq_iff_eq] at hk
        rcases hk with rfl | hk
        · exact hjd
        · exact h.sub k hk
      · intro k hk hke; simp [addS, h.eff k hk hke]
      · intro k o' hk hke hks ho'
        simp only [addS, Bool.or_eq_false_iff] at hks
        exact h.pend k o' hk hke hks.2 ho'
    rw [stepX_iff ho]
    rcases h.pend j o hjd hje hS ho with ⟨hg, hv⟩ | ⟨hg, hv⟩
    · right
      refine ⟨by rw [gdB_congr hsame]; exact hg, ?_⟩
      rw [← hv]
      exact hG _ _ _ _ _ _ _ _ _ hinv
    · left
      refine ⟨by rw [gdB_congr hsame]; exact hg, ?_⟩
      rw [isEff_read ho hje]
      exact ⟨val j, by rw [opR_congr (agree_of hsame)]; exact hv, hG _ _ _ _ _ _ _ _ _ hinv⟩
  · -- an effect: the next one
    have hjr : j ∈ rest := (h.cover j hj).resolve_left hjd
    rcases hr with rfl | ⟨i, l, rfl, he⟩
    · simp at hjr
    obtain ⟨o', ho', hdir, hnd, hall, hord⟩ := okOrd_cons h.ord
    have hij : j = i := by
      simp only [List.mem_cons] at hjr
      rcases hjr with e | hjl
      · exact e
      · have ha := anc_sound (hall he j hjl)
        have := anc_of_preds h.dcS ha hp
        exact absurd (h.sub i this) hnd
    subst hij
    rw [ho] at ho'; cases ho'
    have hpd := direct_done ho hdir
    have hni : inL done j = false := by simpa using hnd
    have hsame : ∀ t, t ∈ namesOf ops o → s[t]? = Cs[t]? := fun t ht => same_names hI ho h.slotsS h.slotsC h.dcS h.dcD hp hpd hS hni ht
    have hbuild : ∀ v σ', (∀ k sk ok, (k, sk) ∈ mem → anc (msk ops) k j = false → ops[k]? = some ok → opR E.C sk σ' ok.op = opR E.C sk σ ok.op) → dRun E ops (msk ops) l mem (putS Cs o.dst v) σ' K →
        Inv E ops s0 K (addS S j) (j :: done) l mem (putS Cs o.dst v) (putS s o.dst v) σ' (fun k => if k = j then v else val k) ref pre := by
      intro v σ' hlook hrun
      have hval : ∀ k, k ∈ done → (fun k => if k = j then v else val k) k = val k := fun k hk => by
        have : k ≠ j := fun e => hnd (e ▸ hk)
        simp [this]
      refine { run := hrun, ord := hord, cover := ?_, dlt := ?_, dcD := ?_, slotsC := ?_, sub := ?_, eff := ?_, dcS := h.dcS.add hp, slotsS := ?_, refs := ?_, pend := ?_, mems := ?_ }
      · intro k hk
        rcases h.cover k hk with h1 | h1
        · exact .inl (by simp [h1])
        · simp only [List.mem_cons] at h1 ⊢
          rcases h1 with rfl | h1
          · exact .inl (.inl rfl)
          · exact .inr h1
      · intro k hk
        simp only [List.mem_cons] at hk
        rcases hk with rfl | hk
        · exact hj
        · exact h.dlt k hk
      · rw [inL_cons]; exact h.dcD.add hpd
      · rw [inL_cons]
        have h1 := h.slotsC.val (val' := fun k => if k = j then v else val k) (fun k hk => hval k (by simpa using hk))
        have := h1.add ho hj (writers_ahead hI ho h.dcD hni (fun k hk => h.dlt k (by simpa using hk)))
        simpa using this
      · intro k hk
        simp only [addS, Bool.or_eq_true, beq_iff_eq] at hk
        rcases hk with rfl | hk
        · simp
        · simp [h.sub k hk]
      · intro k hk hke
        simp only [List.mem_cons] at hk
        rcases hk with rfl | hk
        · simp [addS]
        · simp [addS, h.eff k hk hke]
      · have h1 := h.slotsS.val (val' := fun k => if k = j then v else val k) (fun k hk => hval k (h.sub k hk))
        have := h1.add ho hj hahead
        simpa using this
      · intro k hk hke
        simp only [List.mem_cons] at hk
        rcases hk with rfl | hk
        · rw [he] at hke; cases hke
        · obtain ⟨a1, a2, a3, a4, a5⟩ := h.refs k hk hke
          exact ⟨a1, a2, a3, a4.val (fun m hm => hval m (a5 m hm)), fun m hm => by simp [a5 m hm]⟩
      · intro k ok hk hke hks hok
        simp only [List.mem_cons] at hk
        simp only [addS, Bool.or_eq_false_iff, beq_eq_false_iff_ne] at hks
        have hk : k ∈ done := by rcases hk with e | hk; exact absurd e hks.1; exact hk
        have hpk := h.pend k ok hk hke hks.2 hok
        unfold Pend at hpk ⊢
        have hv2 := hval k hk
        simp only at hv2 ⊢
        rw [hv2]
        rcases hpk with hpk | ⟨hg, hv⟩
        · exact .inl hpk
        · refine .inr ⟨hg, ?_⟩
          cases hh : hrd E.C ok.op with
          | false => rw [opR_heap (σ' := σ) hh]; exact hv
          | true =>
            have hm := h.mems k ok hk hke hok hh hg
            have hna : anc (msk ops) k j = false := by
              cases e : anc (msk ops) k j with
              | false => rfl
              | true =>
                have := anc_of_preds h.dcS (anc_sound e) hp
                rw [this] at hks; exact absurd hks.2 (by simp)
            rw [hlook k (ref k) ok hm hna hok]
            exact hv
      · intro k ok hk hke hok hh hg
        simp only [List.mem_cons] at hk
        rcases hk with rfl | hk
        · rw [he] at hke; cases hke
        · exact h.mems k ok hk hke hok hh hg
    rw [stepX_iff ho]
    rcases dRun_cons ho h.run with ⟨hg, hrun⟩ | ⟨hg, hrun⟩
    · left
      refine ⟨by rw [gdB_congr hsame]; exact hg, ?_⟩
      rw [he] at hrun
      simp only at hrun
      rw [opX_congr (agree_of hsame)]
      refine opX_mono hM ?_ hrun
      intro v σ' hl
      exact hG _ _ _ _ _ _ _ _ _ (hbuild v σ' (fun k sk ok hm ha hok => looks_mem hl k sk ok hm ha hok) (looks_rest hl))
    · right
      refine ⟨by rw [gdB_congr hsame]; exact hg, ?_⟩
      exact hG _ _ _ _ _ _ _ _ _ (hbuild undefV σ (fun k sk ok hm ha hok => rfl) hrun)

/-! ### All together -/

def unl (ops : Array Oper) (listed : Array Bool) : Nat := ((List.range ops.size).filter fun i => !listed.getD i true).length

theorem filter_length_lt {α : Type} {p q : α → Bool} : ∀ {l : List α} {x : α}, (∀ y, q y = true → p y = true) → x ∈ l → p x = true → q x = false → (l.filter q).length < (l.filter p).length
  | [], x, _, h, _, _ => by simp at h
  | a :: l, x, hpq, h, hp, hq => by
    simp only [List.mem_cons] at h
    have hle : (l.filter q).length ≤ (l.filter p).length := by
      clear h hp hq
      induction l with
      | nil => simp
      | cons b l ih =>
        simp only [List.filter_cons]
        by_cases h1 : q b = true
        · rw [if_pos h1, if_pos (hpq b h1)]; simpa using ih
        · rw [if_neg h1]
          split
          · simp; omega
          · exact ih
    by_cases hxl : x ∈ l
    · have ih := filter_length_lt hpq hxl hp hq
      simp only [List.filter_cons]
      by_cases h1 : q a = true
      · rw [if_pos h1, if_pos (hpq a h1)]; simpa using ih
      · rw [if_neg h1]
        split
        · simp; omega
        · exact ih
    · have hxa : x = a := h.resolve_right hxl
      subst hxa
      simp only [List.filter_cons]
      rw [if_neg (by simp [hq]), if_pos hp]
      simp; omega

theorem mem_ready {listed : Array Bool} {i : Nat} : i ∈ Region.ready .any ops listed ↔
    ∃ o, ops[i]? = some o ∧ listed.getD i true = false ∧ ∀ e, e ∈ o.after.toList → Region.binds .any e = true → listed.getD e.on false = true := by
  unfold Region.ready
  simp only [List.mem_filter, List.mem_range, Bool.and_eq_true, Bool.not_eq_true']
  constructor
  · rintro ⟨hi, h1, h2⟩
    refine ⟨ops[i], Array.getElem?_eq_getElem hi, h1, ?_⟩
    intro e he hb
    rw [Array.getElem?_eq_getElem hi] at h2
    simp only [Option.map_some, Option.getD_some] at h2
    rw [← Array.all_toList] at h2
    have := List.all_eq_true.1 h2 e he
    simpa [hb] using this
  · rintro ⟨o, ho, h1, h2⟩
    refine ⟨lt_of_op ho, h1, ?_⟩
    rw [ho]
    simp only [Option.map_some, Option.getD_some]
    rw [← Array.all_toList]
    refine List.all_eq_true.2 fun e he => ?_
    cases hb : Region.binds .any e with
    | false => simp
    | true => simp [h2 e he hb]

theorem getD_set {listed : Array Bool} {i k : Nat} {d : Bool} (hi : i < listed.size) : (listed.setIfInBounds i true).getD k d = if k = i then true else listed.getD k d := by
  simp only [Array.getD_eq_getD_getElem?, Array.getElem?_setIfInBounds]
  by_cases h : i = k
  · subst h; simp [hi]
  · have h2 : ¬ k = i := fun e => h e.symm
    simp [h, h2]

theorem Inv.any (hM : EMono E) (hI : Ind ops) (hedge : ∀ i o e, ops[i]? = some o → e ∈ o.after.toList → Region.binds .any e = true → e.on < i) : ∀ (n : Nat) (listed : Array Bool) {S : Nat → Bool} {done rest : List Nat} {mem : List (Nat × List V)} {Cs s : List V} {σ : H} {val : Nat → V} {ref : Nat → List V} {pre : Nat → Nat → Bool},
    Inv E ops s0 K S done rest mem Cs s σ val ref pre → listed.size = ops.size → (∀ i, i < ops.size → S i = listed.getD i true) → unl ops listed ≤ n → exAny E ops n listed s σ K := by
  intro n
  induction n with
  | zero =>
    intro listed S done rest mem Cs s σ val ref pre h hsz hS hn
    have hall : ∀ i, i < ops.size → S i = true := by
      intro i hi
      rw [hS i hi]
      cases e : listed.getD i true with
      | true => rfl
      | false =>
        have : i ∈ (List.range ops.size).filter fun i => !listed.getD i true := List.mem_filter.2 ⟨List.mem_range.2 hi, by rw [e]; rfl⟩
        have := List.length_pos_of_mem this
        unfold unl at hn; omega
    obtain ⟨_, _, _, _, _, _, _, h', hr⟩ := h.advance hI
    refine ⟨?_, h'.finish hr hall⟩
    cases e : Region.ready .any ops listed with
    | nil => rfl
    | cons i l =>
      have : i ∈ Region.ready .any ops listed := by rw [e]; simp
      obtain ⟨o, ho, h1, _⟩ := mem_ready.1 this
      have := hall i (lt_of_op ho)
      rw [hS i (lt_of_op ho), h1] at this; cases this
  | succ n ih =>
    intro listed S done rest mem Cs s σ val ref pre h hsz hS hn
    obtain ⟨done', rest', mem', Cs', val', ref', pre', h', hr⟩ := h.advance hI
    refine ⟨fun hnone => ?_, fun i hi => ?_⟩
    · refine h'.finish hr ?_
      -- the least that has not come would be ready
      intro i
      induction i using Nat.strongRecOn with
      | _ i ihi =>
        intro hi
        rw [hS i hi]
        cases e : listed.getD i true with
        | true => rfl
        | false =>
          exfalso
          have : i ∈ Region.ready .any ops listed := by
            refine mem_ready.2 ⟨ops[i], Array.getElem?_eq_getElem hi, e, ?_⟩
            intro ed hed hb
            have hlt := hedge i _ ed (Array.getElem?_eq_getElem hi) hed hb
            have := ihi ed.on hlt (by omega)
            rw [hS ed.on (by omega)] at this
            rw [← this]
            simp only [Array.getD_eq_getD_getElem?]
            rw [Array.getElem?_eq_getElem (by rw [hsz]; omega)]
            rfl
          rw [hnone] at this
          simp at this
    · obtain ⟨o, ho, h1, h2⟩ := mem_ready.1 hi
      have hil := lt_of_op ho
      refine h'.next hM hI hr ho (by rw [hS i hil, h1]) ?_ ?_
      · rintro k ⟨o', e, ho', he, hb, rfl⟩
        rw [ho] at ho'; cases ho'
        have hlt := hedge i o e ho he hb
        rw [hS e.on (by omega)]
        have := h2 e he hb
        rw [← this]
        simp only [Array.getD_eq_getD_getElem?]
        rw [Array.getElem?_eq_getElem (by rw [hsz]; omega)]
        rfl
      · intro done2 rest2 mem2 Cs2 s2 σ2 val2 ref2 pre2 h2'
        refine ih (listed.setIfInBounds i true) h2' (by simpa using hsz) ?_ ?_
        · intro k hk
          rw [getD_set (by rw [hsz]; exact hil)]
          by_cases hki : k = i
          · simp [addS, hki]
          · simp [addS, hki, hS k hk]
        · have hlt : unl ops (listed.setIfInBounds i true) < unl ops listed := by
            refine filter_length_lt ?_ (List.mem_range.2 hil) (by simp [h1]) (by rw [getD_set (by rw [hsz]; exact hil)]; simp)
            intro y hy
            rw [getD_set (by rw [hsz]; exact hil)] at hy
            split at hy
            · simp at hy
            · exact hy
          omega

theorem okOrd_edge {P : Program} : ∀ (l done : List Nat), okOrd P ops (msk ops) done l = true → ∀ i, i ∈ l → ∀ o e, ops[i]? = some o → e ∈ o.after.toList → Region.binds .any e = true → e.on < i
  | [], _, _, i, hi, _, _, _, _, _ => by simp at hi
  | k :: l, done, h, i, hi, o, e, ho, he, hb => by
    obtain ⟨o', ho', hdir, _, _, hord⟩ := okOrd_cons h
    simp only [List.mem_cons] at hi
    rcases hi with rfl | hi
    · rw [ho] at ho'; cases ho'
      exact (hdir e he hb).1
    · exact okOrd_edge l _ hord i hi o e ho he hb

theorem dRun_any (hM : EMono E) {ord : List Nat} (hok : dOk E.C.P ops (msk ops) ord = true) {s : List V} {σ : H} (h : dRun E ops (msk ops) ord [] s σ K) :
    exAny E ops ops.size (Array.replicate ops.size false) s σ K := by
  unfold dOk at hok
  simp only [Bool.and_eq_true] at hok
  obtain ⟨⟨h1, h2⟩, h3⟩ := hok
  have hcov : ∀ i, i < ops.size → i ∈ ord := fun i hi => by
    have := List.all_eq_true.1 h2 i (List.mem_range.2 hi)
    simpa using this
  have hinv : Inv E ops s K (fun _ => false) [] ord [] s s σ (fun _ => undefV) (fun _ => []) (fun _ _ => false) :=
    { run := h, ord := h1, cover := fun i hi => .inr (hcov i hi), dlt := fun i hi => (by simp at hi), dcD := fun i j _ hj => (by simp at hj), slotsC := by
        have := @SlotsAre.start ops s (fun _ => undefV)
        exact this
      sub := fun i hi => (by cases hi), eff := fun i hi => (by simp at hi), dcS := fun i j _ hj => (by cases hj), slotsS := SlotsAre.start, refs := fun j hj => (by simp at hj), pend := fun j o hj => (by simp at hj), mems := fun j o hj => (by simp at hj) }
  refine hinv.any hM (ind_of h3) ?_ ops.size _ (by simp) ?_ ?_
  · intro i o e ho he hb
    exact okOrd_edge ord [] h1 i (hcov i (lt_of_op ho)) o e ho he hb
  · intro i hi
    simp [Array.getD_eq_getD_getElem?, hi]
  · unfold unl
    refine Nat.le_trans (List.length_filter_le _ _) (by simp)

end Go.Am
