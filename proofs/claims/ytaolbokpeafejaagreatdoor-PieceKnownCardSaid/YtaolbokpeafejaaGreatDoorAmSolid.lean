/-
  AM: objects that are no rows: maps, iterators, the records of ranges over functions. (Lemmas alone; no program.)
-/
import Derived.Test.YtaolbokpeafejaaGreatDoorAmFreeze
import Derived.RangeFuncRecord
set_option linter.unusedVariables false
set_option linter.unusedSimpArgs false
namespace Go.Am
open Go Go.RowKit
variable {C : Ctx} {ρ : Pl} {σ : H} {w : World}

def isCells : Obj → Bool
  | .cells .. => true
  | _ => false

theorem isCells_of {x : Obj} (h : ∀ c e f, x ≠ .cells c e f) : isCells x = false := by
  cases x <;> first | rfl | exact absurd rfl (h _ _ _)

theorem isCells_ne {x : Obj} (h : isCells x = false) : ∀ c e f, x ≠ .cells c e f := by
  rintro c e f rfl; simp [isCells] at h

theorem RowAt.same {B : Nat} {ρ ρ' : Pl} {w w' : World} {r : Row} {v : Nat} {p : Place} (hx : ∀ i v p, ρ i v = some p → ρ' i v = some p)
    (hc : ∀ a, w'.cell? a = w.cell? a) (hf : ∀ a, w'.frozen? a = w.frozen? a) (h : RowAt B ρ w r v p) : RowAt B ρ' w' r v p := by
  obtain ⟨h1, h2, h3⟩ := h
  refine ⟨fun j c hj hcc => ?_, fun ho => ?_, h3⟩
  · obtain ⟨x, hx1, hx2⟩ := h1 j c hj hcc
    exact ⟨x, by rw [hc]; exact hx1, hx2.extM hx⟩
  · obtain ⟨g1, g2⟩ := h2 ho
    refine ⟨g1, fun j hj => ?_⟩
    rw [hc, hf]; exact g2 j hj

theorem putObj_cell {b : Nat} {x x' : Obj} (hx : w.heap[b]? = some x) (n1 : isCells x = false) (n2 : isCells x' = false) (a : Addr) : (w.putObj b x').cell? a = w.cell? a := by
  unfold World.cell?
  by_cases h : a.block = b
  · rw [h, World.putObj_heap_same (heap_lt hx), hx]
    cases x <;> simp [isCells] at n1 <;> cases x' <;> simp [isCells] at n2 <;> rfl
  · rw [World.putObj_heap_other h]

theorem putObj_frozen {b : Nat} {x x' : Obj} (hx : w.heap[b]? = some x) (n1 : isCells x = false) (n2 : isCells x' = false) (a : Addr) : (w.putObj b x').frozen? a = w.frozen? a := by
  unfold World.frozen?
  by_cases h : a.block = b
  · rw [h, World.putObj_heap_same (heap_lt hx), hx]
    cases x <;> simp [isCells] at n1 <;> cases x' <;> simp [isCells] at n2 <;> rfl
  · rw [World.putObj_heap_other h]

theorem below_putObj {B : Nat} {W0 : World} {b : Nat} {x : Obj} (hb : B ≤ b) (h : Below B W0 w) : Below B W0 (w.putObj b x) :=
  h.trans ⟨rfl, rfl, rfl, by simp, fun k hk => World.putObj_heap_other (by omega)⟩

/-- An object that is no cells is turned. -/
theorem Rl.put (hR : Rl C ρ σ w) {b : Nat} {x x' : Obj} (hB : C.B ≤ b) (hx : w.heap[b]? = some x) (n1 : isCells x = false) (n2 : isCells x' = false) {σ' : H} {ρ' : Pl} (hm : ∀ i v, ρ' i v = ρ i v)
    (hsz : σ'.size = σ.size) (hrow : ∀ i r, σ'.get i = some (.row r) → σ.get i = some (.row r)) (hown : ∀ i o', σ'.get i = some o' → ∃ o, σ.get i = some o ∧ (o'.own = true → o.own = true))
    (hobj : ∀ i o, σ'.get i = some o → o.solid = true → ∃ p y, ρ' i 0 = some p ∧ C.B ≤ p.blk ∧ (w.putObj b x').heap[p.blk]? = some y ∧ ORel ρ' o y)
    (hdfr : ∀ c, c ∈ ρ'.dfr → C.B ≤ c ∧ (w.putObj b x').heap[c]? = some (.deferred (some []))) : Rl C ρ' σ' (w.putObj b x') := by
  have hc := fun a => putObj_cell (w := w) hx n1 n2 a
  have hf := fun a => putObj_frozen (w := w) hx n1 n2 a
  have hmm : ∀ i v p, ρ i v = some p → ρ' i v = some p := fun i v p h => by rw [hm]; exact h
  refine { toRel := { below := below_putObj hB hR.below, base := by rw [World.putObj_size]; exact hR.base, dom := ?_, vers := ?_, low := ?_, row := ?_, disj := ?_, fr := ?_, same := ?_, obj := hobj, dfr := hdfr }, glob := hR.globX hmm, ext := hR.ext }
  · intro i v p h
    rw [hm] at h
    rw [hsz, World.putObj_size]; exact hR.dom _ _ _ h
  · intro i v p r h hg
    rw [hm] at h
    exact hR.vers _ _ _ _ h (hrow _ _ hg)
  · intro i r hg
    exact hR.low _ _ (hrow _ _ hg)
  · intro i r v hg hl hv
    obtain ⟨p, hp, h⟩ := hR.row _ _ _ (hrow _ _ hg) hl hv
    exact ⟨p, hmm _ _ _ hp, h.same hmm hc hf⟩
  · intro i j v u p q o o' hij hp hq hg hg' ho ho'
    rw [hm] at hp hq
    obtain ⟨o1, h1, h2⟩ := hown _ _ hg
    obtain ⟨o2, h3, h4⟩ := hown _ _ hg'
    exact hR.disj _ _ _ _ _ _ _ _ hij hp hq h1 h3 (h2 ho) (h4 ho')
  · intro i v p o hp hg ho
    rw [hm] at hp
    obtain ⟨o1, h1, h2⟩ := hown _ _ hg
    intro cs e lo hi hh
    by_cases hb : p.blk = b
    · rw [hb, World.putObj_heap_same (heap_lt hx)] at hh
      cases hh; simp [isCells] at n2
    · rw [World.putObj_heap_other hb] at hh
      exact hR.fr _ _ _ _ hp h1 (h2 ho) cs e lo hi hh
  · intro i v u p q hp hq hb
    rw [hm] at hp hq
    exact hR.same _ _ _ _ _ hp hq hb

theorem Rl.set_solid (hR : Rl C ρ σ w) {i : Nat} {o o' : O} {p : Place} {x' : Obj} (hg : σ.get i = some o) (ho : o.solid = true) (ho' : o'.solid = true) (hp : ρ i 0 = some p) (hx' : ORel ρ o' x') : Rl C ρ (σ.set i o') (w.putObj p.blk x') := by
  obtain ⟨q, x, hq, hB, hx, hor⟩ := hR.obj _ _ hg ho
  rw [hp] at hq; cases hq
  have hi := H.get_lt hg
  have n1 := isCells_of (hor.solid ho)
  have n2 := isCells_of (hx'.solid ho')
  refine hR.put hB hx n1 n2 (fun _ _ => rfl) (by simp) ?_ ?_ ?_ ?_
  · intro j r hj
    rw [H.get_set] at hj
    split at hj
    · simp only [hi, if_true, Option.some.injEq] at hj; subst hj; simp [O.solid, O.isRow] at ho'
    · exact hj
  · intro j o2 hj
    rw [H.get_set] at hj
    split at hj
    · rename_i e; subst e
      exact ⟨o, hg, fun _ => O.solid_own ho⟩
    · exact ⟨o2, hj, id⟩
  · intro j o2 hj hs
    rw [H.get_set] at hj
    split at hj
    · rename_i e; subst e
      simp only [hi, if_true, Option.some.injEq] at hj; subst hj
      exact ⟨p, x', hp, hB, World.putObj_heap_same (heap_lt hx), hx'⟩
    · rename_i e
      obtain ⟨q, y, h1, h2, h3, h4⟩ := hR.obj _ _ hj hs
      refine ⟨q, y, h1, h2, ?_, h4⟩
      rw [World.putObj_heap_other (hR.disj _ _ _ _ _ _ _ _ (fun e' => e e'.symm) h1 hp hj hg (O.solid_own hs) (O.solid_own ho))]
      exact h3
  · intro c hc
    obtain ⟨h1, h2⟩ := hR.dfr c hc
    refine ⟨h1, ?_⟩
    rw [World.putObj_heap_other]
    · exact h2
    · rintro rfl
      rw [hx] at h2; cases h2
      cases o <;> simp [O.solid, O.isRow, O.isDead] at ho
      · obtain ⟨_, e, _⟩ := hor; cases e
      · have e : _ = _ := hor; cases e
      · obtain ⟨_, e, _⟩ := hor; cases e

theorem Rl.dfr_alloc (hR : Rl C ρ σ w) : Rl C ⟨ρ.map, w.heap.size :: ρ.dfr⟩ σ (w.alloc (.deferred (some []))) := by
  have hold : ∀ i v p, ρ i v = some p → (w.alloc (.deferred (some []))).heap[p.blk]? = w.heap[p.blk]? := fun i v p hp => alloc_heap_lt w _ (hR.dom _ _ _ hp).2.1
  have hx : Ext ρ ⟨ρ.map, w.heap.size :: ρ.dfr⟩ := ⟨fun _ _ _ h => h, fun b hb => by simp [hb]⟩
  refine { toRel := { below := hR.below.alloc hR.base _, base := by simp; have := hR.base; omega, dom := ?_, vers := hR.vers, low := hR.low, row := ?_, disj := hR.disj, fr := ?_, same := hR.same, obj := ?_, dfr := ?_ }, glob := hR.globX hx.map, ext := hR.ext }
  · intro i v p h
    obtain ⟨h1, h2, h3⟩ := hR.dom _ _ _ h
    exact ⟨h1, by simp; omega, h3⟩
  · intro i r v hg hl hv
    obtain ⟨p, hp, h⟩ := hR.row _ _ _ hg hl hv
    exact ⟨p, hp, h.step hx (hold _ _ _ hp)⟩
  · intro i v p o hp hg ho
    exact (hR.fr _ _ _ _ hp hg ho).of_block (hold _ _ _ hp)
  · intro i o hg ho
    obtain ⟨p, x, h1, h2, h3, h4⟩ := hR.obj _ _ hg ho
    exact ⟨p, x, h1, h2, by rw [hold _ _ _ h1]; exact h3, h4.ext hx⟩
  · intro b hb
    simp only [List.mem_cons] at hb
    rcases hb with rfl | hb
    · exact ⟨hR.base, heap_alloc_new w _⟩
    · obtain ⟨h1, h2⟩ := hR.dfr b hb
      exact ⟨h1, by rw [alloc_heap_lt w _ (heap_lt h2)]; exact h2⟩

theorem Rl.dfr_done (hR : Rl C ρ σ w) {b : Nat} (hb : b ∈ ρ.dfr) : Rl C ⟨ρ.map, ρ.dfr.filter (· != b)⟩ σ (w.putObj b (.deferred none)) := by
  obtain ⟨hB, hx⟩ := hR.dfr b hb
  have hmm : ∀ i v p, ρ i v = some p → (⟨ρ.map, ρ.dfr.filter (· != b)⟩ : Pl) i v = some p := fun _ _ _ h => h
  refine hR.put hB hx rfl rfl (fun _ _ => rfl) rfl (fun _ _ h => h) (fun i o h => ⟨o, h, id⟩) ?_ ?_
  · intro i o hg ho
    obtain ⟨p, y, h1, h2, h3, h4⟩ := hR.obj _ _ hg ho
    refine ⟨p, y, h1, h2, ?_, h4.extM hmm⟩
    rw [World.putObj_heap_other]
    · exact h3
    · intro e
      rw [e, hx] at h3; cases h3
      cases o <;> simp [O.solid, O.isRow, O.isDead] at ho
      · obtain ⟨_, e, _⟩ := h4; cases e
      · have e : _ = _ := h4; cases e
      · obtain ⟨_, e, _⟩ := h4; cases e
  · intro c hc
    simp only [List.mem_filter, bne_iff_ne, ne_eq] at hc
    obtain ⟨h1, h2⟩ := hR.dfr c hc.1
    exact ⟨h1, by rw [World.putObj_heap_other hc.2]; exact h2⟩

/-- A new object that is no row. -/
theorem Rl.push_solid (hR : Rl C ρ σ w) {o : O} {x : Obj} (ho : o.solid = true) (hx0 : ORel ρ o x) :
    Rl C (ρ.new σ.size 0 ⟨w.heap.size, 0, 0⟩) (σ.push o) (w.alloc x) ∧ Ext ρ (ρ.new σ.size 0 ⟨w.heap.size, 0, 0⟩) := by
  have hx : Ext ρ (ρ.new σ.size 0 ⟨w.heap.size, 0, 0⟩) := Pl.new_ext hR.fresh
  refine ⟨?_, hx⟩
  have hblk : (w.alloc x).heap[w.heap.size]? = some x := heap_alloc_new w _
  have hold : ∀ i v p, ρ i v = some p → (w.alloc x).heap[p.blk]? = w.heap[p.blk]? := fun i v p hp => alloc_heap_lt w _ (hR.dom _ _ _ hp).2.1
  have hat : ∀ i v p, (ρ.new σ.size 0 ⟨w.heap.size, 0, 0⟩) i v = some p → (i = σ.size ∧ v = 0 ∧ p = ⟨w.heap.size, 0, 0⟩) ∨ (i ≠ σ.size ∧ ρ i v = some p) := by
    intro i v p h
    rw [Pl.new_at] at h
    split at h
    · rename_i hi
      split at h
      · cases h; exact .inl ⟨hi, by omega, rfl⟩
      · cases h
    · rename_i hi; exact .inr ⟨hi, h⟩
  have hget : ∀ i o', (σ.push o).get i = some o' → (i = σ.size ∧ o' = o) ∨ (i ≠ σ.size ∧ σ.get i = some o') := by
    intro i o' h
    rw [H.get_push] at h
    split at h
    · rename_i hi; cases h; exact .inl ⟨hi, rfl⟩
    · rename_i hi; exact .inr ⟨hi, h⟩
  have hnr : o.isRow = false := by simp [O.solid] at ho; exact ho.1
  refine { toRel := { below := hR.below.alloc hR.base _, base := by simp; have := hR.base; omega, dom := ?_, vers := ?_, low := ?_, row := ?_, disj := ?_, fr := ?_, same := ?_, obj := ?_, dfr := ?_ }, glob := hR.globX hx.map, ext := hR.ext }
  · intro i v p h
    rcases hat _ _ _ h with ⟨rfl, rfl, rfl⟩ | ⟨_, h⟩
    · exact ⟨by simp, by simp, by simp⟩
    · obtain ⟨h1, h2, h3⟩ := hR.dom _ _ _ h
      exact ⟨by simp; omega, by simp; omega, h3⟩
  · intro i v p r h hg
    rcases hget _ _ hg with ⟨_, rfl⟩ | ⟨hi, hg⟩
    · simp [O.isRow] at hnr
    · rcases hat _ _ _ h with ⟨e, _, _⟩ | ⟨_, h⟩
      · exact absurd e hi
      · exact hR.vers _ _ _ _ h hg
  · intro i r hg
    rcases hget _ _ hg with ⟨_, rfl⟩ | ⟨hi, hg⟩
    · simp [O.isRow] at hnr
    · exact hR.low _ _ hg
  · intro i r v hg hl hv
    rcases hget _ _ hg with ⟨_, rfl⟩ | ⟨hi, hg⟩
    · simp [O.isRow] at hnr
    · obtain ⟨p, hp, h⟩ := hR.row _ _ _ hg hl hv
      exact ⟨p, hx.map _ _ _ hp, h.step hx (hold _ _ _ hp)⟩
  · intro i j v u p q o1 o2 hij hp hq hg hg' ho1 ho2
    rcases hat _ _ _ hp with ⟨rfl, rfl, rfl⟩ | ⟨hi, hp⟩ <;> rcases hat _ _ _ hq with ⟨rfl, rfl, rfl⟩ | ⟨hj, hq⟩
    · exact absurd rfl hij
    · have := (hR.dom _ _ _ hq).2.1
      simp only; omega
    · have := (hR.dom _ _ _ hp).2.1
      simp only; omega
    · rcases hget _ _ hg with ⟨e, _⟩ | ⟨_, hg⟩
      · exact absurd e hi
      · rcases hget _ _ hg' with ⟨e, _⟩ | ⟨_, hg'⟩
        · exact absurd e hj
        · exact hR.disj _ _ _ _ _ _ _ _ hij hp hq hg hg' ho1 ho2
  · intro i v p o1 hp hg ho1
    rcases hat _ _ _ hp with ⟨rfl, rfl, rfl⟩ | ⟨hi, hp⟩
    · intro cs e lo hi hh
      rw [hblk] at hh
      cases hh
      exact absurd rfl (hx0.solid ho _ _ _)
    · rcases hget _ _ hg with ⟨e, _⟩ | ⟨_, hg⟩
      · exact absurd e hi
      · exact (hR.fr _ _ _ _ hp hg ho1).of_block (hold _ _ _ hp)
  · intro i v u p q hp hq hb
    rcases hat _ _ _ hp with ⟨rfl, rfl, rfl⟩ | ⟨hi, hp⟩ <;> rcases hat _ _ _ hq with ⟨e, rfl, rfl⟩ | ⟨hj, hq⟩
    · rfl
    · exact absurd rfl hj
    · exact absurd e hi
    · exact hR.same _ _ _ _ _ hp hq hb
  · intro i o1 hg ho1
    rcases hget _ _ hg with ⟨rfl, rfl⟩ | ⟨hi, hg⟩
    · exact ⟨⟨w.heap.size, 0, 0⟩, x, by simp [Pl.new_at], hR.base, hblk, hx0.ext hx⟩
    · obtain ⟨p, y, h1, h2, h3, h4⟩ := hR.obj _ _ hg ho1
      exact ⟨p, y, hx.map _ _ _ h1, h2, by rw [hold _ _ _ h1]; exact h3, h4.ext hx⟩
  · intro b hb
    obtain ⟨h1, h2⟩ := hR.dfr b hb
    exact ⟨h1, by rw [alloc_heap_lt w _ (heap_lt h2)]; exact h2⟩

end Go.Am
