/-
  AM: slices that a call has made for itself; reading what was there. (Lemmas alone; no program.)
-/
import Derived.Test.YtaolbokpeafejaaGreatDoorAmSimp
set_option linter.unusedVariables false
set_option linter.unusedSimpArgs false
namespace Go.Am
open Go Go.RowKit

/-- An object that may have grown at its end. -/
def OLe : O → O → Prop
  | .row r, o => ∃ ns, o = .row { r with cells := r.cells ++ ns }
  | o, o' => o' = o

theorem OLe.refl (o : O) : OLe o o := by
  cases o <;> simp only [OLe]
  exact ⟨[], by simp⟩

theorem OLe.trans {a b c : O} (h : OLe a b) (k : OLe b c) : OLe a c := by
  cases a <;> simp only [OLe] at h ⊢
  · obtain ⟨ns, rfl⟩ := h
    obtain ⟨ms, rfl⟩ := k
    exact ⟨ns ++ ms, by simp⟩
  all_goals subst h; simpa only [OLe] using k

/-- The heap has grown: objects below n0 are as they were, others may have grown at their ends. -/
structure Le (n0 : Nat) (σ σ' : H) : Prop where
  size : σ.size ≤ σ'.size
  old : ∀ i, i < n0 → σ'.get i = σ.get i
  all : ∀ i o, σ.get i = some o → ∃ o', σ'.get i = some o' ∧ OLe o o'

theorem Le.refl (n0 : Nat) (σ : H) : Le n0 σ σ := ⟨Nat.le_refl _, fun _ _ => rfl, fun i o h => ⟨o, h, OLe.refl o⟩⟩
theorem Le.trans {n0 : Nat} {a b c : H} (h : Le n0 a b) (k : Le n0 b c) : Le n0 a c :=
  ⟨Nat.le_trans h.size k.size, fun i hi => (k.old i hi).trans (h.old i hi), fun i o ho => by
    obtain ⟨o1, h1, h2⟩ := h.all i o ho
    obtain ⟨o2, h3, h4⟩ := k.all i o1 h1
    exact ⟨o2, h3, h2.trans h4⟩⟩
theorem Le.mono {n0 n1 : Nat} {a b : H} (h : Le n0 a b) (hn : n1 ≤ n0) : Le n1 a b := ⟨h.size, fun i hi => h.old i (by omega), h.all⟩
theorem Grew.le {σ σ' : H} (h : Grew σ σ') {n0 : Nat} (hn : n0 ≤ σ.size) : Le n0 σ σ' :=
  ⟨h.1, fun i hi => h.2 i (by omega), fun i o ho => ⟨o, by rw [h.2 i (H.get_lt ho)]; exact ho, OLe.refl o⟩⟩
theorem Grew.step {σ0 σ σ' : H} (h : Grew σ0 σ) (k : Le σ0.size σ σ') : Grew σ0 σ' := ⟨Nat.le_trans h.1 k.size, fun i hi => (k.old i hi).trans (h.2 i hi)⟩
theorem Le.push (n0 : Nat) {σ : H} (o : O) (hn : n0 ≤ σ.size) : Le n0 σ (σ.push o) := (Grew.push σ o).le hn
theorem Le.mkRow (n0 : Nat) {σ : H} (e : TypeId) (cs : List V) (hn : n0 ≤ σ.size) : Le n0 σ (Am.mkRow σ e cs) := (Grew.mkRow σ e cs).le hn

theorem Le.cells {n0 : Nat} {σ σ' : H} (h : Le n0 σ σ') {a : PA} {n : Nat} {vs : List V} (hc : σ.cells a n = some vs) (hl : vs.length = n) : σ'.cells a n = some vs := by
  unfold H.cells at hc ⊢
  split at hc
  · rename_i r hr
    obtain ⟨o', h1, h2⟩ := h.all _ _ hr
    simp only [OLe] at h2
    obtain ⟨ns, rfl⟩ := h2
    rw [h1]
    split at hc
    · rename_i hcc
      cases hc
      simp only
      rw [if_pos hcc]
      simp only [List.length_take, List.length_drop] at hl
      rcases Nat.lt_or_ge r.cells.length a.off with h0 | h0
      · have hn0 : n = 0 := by omega
        subst hn0; simp
      · rw [List.drop_append_of_le_length h0, List.take_append_of_le_length (by simp; omega)]
    · cases hc
  · cases hc

theorem Le.cell {n0 : Nat} {σ σ' : H} (h : Le n0 σ σ') {a : PA} {v : V} (hc : σ.cell a = some v) : σ'.cell a = some v := by
  unfold H.cell at hc ⊢
  split at hc
  · rename_i r hr
    obtain ⟨o', h1, h2⟩ := h.all _ _ hr
    simp only [OLe] at h2
    obtain ⟨ns, rfl⟩ := h2
    rw [h1]
    split at hc
    · rename_i hcc
      simp only
      rw [if_pos hcc, List.getElem?_append_left (List.getElem?_eq_some_iff.1 hc).1]
      exact hc
    · cases hc
  · cases hc

theorem Bytes.le {n0 : Nat} {σ σ' : H} {v : V} {l : List UInt8} (h : Bytes σ v l) (hg : Le n0 σ σ') : Bytes σ' v l := by
  rcases h with h | ⟨a, cb, ex, h1, hcb, h2⟩
  · exact .inl h
  · exact .inr ⟨a, cb, ex, h1, hcb, hg.cells h2 (by simp)⟩

/-- A slice that owns its whole row, made from n0 on. -/
def Owns (σ : H) (n0 sz : Nat) (v : V) (len : Nat) (cs : List V) : Prop :=
  cs.length = len * sz ∧ ((v = .nils ∧ len = 0) ∨ ∃ id r ex, v = .slice ⟨id, 0, len * sz⟩ sz len len ex ∧ n0 ≤ id ∧ σ.get id = some (.row r) ∧ r.cells = cs ∧ r.own = true ∧ r.low ≤ len * sz)

theorem Owns.nil (σ : H) (n0 sz : Nat) : Owns σ n0 sz .nils 0 [] := ⟨by simp, .inl ⟨rfl, rfl⟩⟩

theorem Owns.cells {σ : H} {n0 sz len : Nat} {v : V} {cs : List V} (h : Owns σ n0 sz v len cs) : slCells σ v = some cs := by
  obtain ⟨hl, ⟨rfl, rfl⟩ | ⟨id, r, ex, rfl, _, hr, hc, _, hlow⟩⟩ := h
  · simp at hl; simp [slCells, hl]
  · simp only [slCells, H.cells, hr]
    rw [if_pos ⟨hlow, by simp⟩]
    simp [hc, ← hl]

theorem Owns.bytes {σ : H} {n0 : Nat} {v : V} {l : List UInt8} (h : Owns σ n0 1 v l.length (l.map bv)) : Bytes σ v l := by
  have hc := h.cells
  obtain ⟨hl, ⟨rfl, h0⟩ | ⟨id, r, ex, rfl, _, hr, hcc, _, hlow⟩⟩ := h
  · exact .inl ⟨rfl, List.eq_nil_of_length_eq_zero h0⟩
  · refine .inr ⟨⟨id, 0, l.length⟩, l.length, ex, by simp, Nat.le_refl _, ?_⟩
    simpa [slCells] using hc

theorem Owns.mono {σ : H} {n0 n1 sz len : Nat} {v : V} {cs : List V} (h : Owns σ n0 sz v len cs) (hn : n1 ≤ n0) : Owns σ n1 sz v len cs := by
  obtain ⟨hl, h | ⟨id, r, ex, h1, h2, h3⟩⟩ := h
  · exact ⟨hl, .inl h⟩
  · exact ⟨hl, .inr ⟨id, r, ex, h1, by omega, h3⟩⟩

/-- What is owned below where the heap turns stays. -/
theorem Owns.keep {σ σ' : H} {n0 n1 sz len : Nat} {v : V} {cs : List V} (h : Owns σ n0 sz v len cs) (hs : ∀ a b c d e, v = .slice a b c d e → σ'.get a.id = σ.get a.id) : Owns σ' n0 sz v len cs := by
  obtain ⟨hl, h | ⟨id, r, ex, h1, h2, h3, h4⟩⟩ := h
  · exact ⟨hl, .inl h⟩
  · exact ⟨hl, .inr ⟨id, r, ex, h1, h2, by rw [hs _ _ _ _ _ h1]; exact h3, h4⟩⟩

theorem Owns.grew {σ σ' : H} {n0 sz len : Nat} {v : V} {cs : List V} (h : Owns σ n0 sz v len cs) (hg : Grew σ σ') : Owns σ' n0 sz v len cs := by
  obtain ⟨hl, h | ⟨id, r, ex, h1, h2, h3, h4⟩⟩ := h
  · exact ⟨hl, .inl h⟩
  · exact ⟨hl, .inr ⟨id, r, ex, h1, h2, by rw [hg.2 id (H.get_lt h3)]; exact h3, h4⟩⟩

/-- A row that is written out. -/
theorem lit_owns {σ : H} {k : SlK} {n n0 : Nat} {ps : List (Nat × V)} {K : V → H → Prop} {cs : List V} (hn : n0 ≤ σ.size) (hc : bsP k n ps = some cs) (hl : cs.length = n * k.sz)
    (hK : ∀ v σ', Grew σ σ' → Owns σ' n0 k.sz v n cs → K v σ') : litX σ k n ps K := by
  refine need_intro cs hc ?_
  refine hK _ _ (Grew.mkRow _ _ _) ⟨hl, .inr ⟨σ.size, { cells := cs, elem := k.elem, low := cs.length, own := true }, true, rfl, hn, H.get_push_self _ _, rfl, rfl, ?_⟩⟩
  simp [hl]

theorem store_grow_get {σ σ' : H} {a : PA} {ns : List V} {r : Row} (hr : σ.get a.id = some (.row r)) (hg : σ.grow a ns = some σ') : σ' = σ.set a.id (.row { r with cells := r.cells ++ ns }) := by
  obtain ⟨r', h1, _, _, _, h2⟩ := H.grow_inv hg
  rw [hr] at h1; cases h1; exact h2

/-- append to a slice that owns its row. -/
theorem app_owns {σ : H} {k : SlK} {n0 len n : Nat} {v x : V} {cs ns : List V} {K : V → H → Prop} (hO : Owns σ n0 k.sz v len cs) (hn0 : n0 ≤ σ.size) (hx : apX σ k.sz x = some (ns, n)) (hnl : ns.length = n * k.sz)
    (hone : ns.all V.one = true) (hsz : k.sz ≠ 0) (hfit : (len + n) * k.bytes ≤ 140737488355328)
    (hK : ∀ v' σ', Owns σ' n0 k.sz v' (len + n) (cs ++ ns) → Le n0 σ σ' → (∀ i, i < σ.size → (∀ a b c d e, v = .slice a b c d e → i ≠ a.id) → σ'.get i = σ.get i) → K v' σ') : appX σ k v x K := by
  obtain ⟨hl, h | ⟨id, r, ex, rfl, hid, hr, hcs, hown, hlow⟩⟩ := hO
  · obtain ⟨rfl, rfl⟩ := h
    have hc0 : cs = [] := List.eq_nil_of_length_eq_zero (by simpa using hl)
    subst hc0
    simp only [appX, apP, hx]
    by_cases h0 : n = 0
    · subst h0
      simp only [if_true, need_some]
      have : ns = [] := List.eq_nil_of_length_eq_zero (by simpa using hnl)
      subst this
      exact hK _ _ (Owns.nil _ _ _) (Le.refl _ _) (fun _ _ _ => rfl)
    · rw [if_neg h0, if_pos (by simpa using hfit), need_some]
      refine hK _ _ ⟨by simp [hnl], .inr ⟨σ.size, { cells := ns, elem := k.elem, low := ns.length, own := true }, false, by simp [newPA, hnl], hn0, by simp [mkRow], by simp, rfl, ?_⟩⟩ (Le.mkRow _ _ _ hn0) (fun i hi _ => H.get_push_ne _ _ (Nat.ne_of_lt hi))
      simp [hnl]
  · simp only [appX, apP, hx, ne_eq, not_true_eq_false, if_false]
    by_cases h0 : n = 0
    · subst h0
      simp only [if_true, need_some]
      have : ns = [] := List.eq_nil_of_length_eq_zero (by simpa using hnl)
      subst this
      refine hK _ _ ⟨by simpa using hl, .inr ⟨id, r, ex, rfl, hid, hr, by simpa using hcs, hown, hlow⟩⟩ (Le.refl _ _) (fun _ _ _ => rfl)
    · rw [if_neg h0, if_neg (by omega), if_pos hfit]
      have hsl : slCells σ (.slice ⟨id, 0, len * k.sz⟩ k.sz len len ex) = some cs := by
        simp only [slCells, H.cells, hr]
        rw [if_pos ⟨hlow, by simp⟩]
        simp [hcs, ← hl]
      have hlen2 : (cs ++ ns).length = (len + n) * k.sz := by rw [List.length_append, hl, hnl, Nat.add_mul]
      by_cases hex : ex = true
      · rw [if_pos hex, hsl]
        simp only [need_some]
        refine hK _ _ ⟨hlen2, .inr ⟨σ.size, { cells := cs ++ ns, elem := k.elem, low := (cs ++ ns).length, own := true }, false, by simp [newPA, hlen2], hn0, by simp [mkRow], rfl, rfl, ?_⟩⟩ (Le.mkRow _ _ _ hn0) (fun i hi _ => H.get_push_ne _ _ (Nat.ne_of_lt hi))
        rw [hlen2]; exact Nat.le_refl _
      · rw [if_neg hex, if_pos ⟨trivial, trivial, trivial⟩]
        have hgr : σ.grow ⟨id, 0, len * k.sz⟩ ns = some (σ.set id (.row { r with cells := r.cells ++ ns })) := by
          unfold H.grow
          simp only [hr]
          rw [if_pos ⟨hown, by rw [hcs, hl], hone⟩]
        rw [hgr]
        simp only [need_some]
        have hlt := H.get_lt hr
        have hge : (σ.set id (.row { r with cells := r.cells ++ ns })).get id = some (.row { r with cells := r.cells ++ ns }) := H.get_set_self _ hlt
        refine hK _ _ ⟨hlen2, .inr ⟨id, { r with cells := r.cells ++ ns }, false, by rw [hnl, ← Nat.add_mul], hid, hge, by simp [hcs], hown, by simp only; rw [Nat.add_mul]; omega⟩⟩ ?_ ?_
        · refine ⟨by simp, fun i hi => H.get_set_ne _ _ (by omega), fun i o ho => ?_⟩
          by_cases hi : id = i
          · subst hi
            rw [hr] at ho; cases ho
            exact ⟨_, hge, ns, rfl⟩
          · exact ⟨o, by rw [H.get_set_ne _ _ hi]; exact ho, OLe.refl o⟩
        · intro i hi hne
          exact H.get_set_ne _ _ (fun e => hne _ _ _ _ _ rfl e.symm)

theorem apX_bytes {σ : H} {v : V} {l : List UInt8} (h : Bytes σ v l) : apX σ 1 v = some (l.map bv, l.length) := by
  rcases h with ⟨rfl, rfl⟩ | ⟨a, cb, ex, rfl, _, hc⟩
  · rfl
  · simp [apX, slCells, hc]

theorem bv_one (l : List UInt8) : (l.map bv).all V.one = true := by simp [bv, V.one]

end Go.Am
