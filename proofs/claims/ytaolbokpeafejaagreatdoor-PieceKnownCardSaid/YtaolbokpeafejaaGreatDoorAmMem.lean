/-
  AM: new rows, stores. (Lemmas alone; no program.)
-/
import Derived.Test.YtaolbokpeafejaaGreatDoorAmOpR
set_option linter.unusedVariables false
set_option linter.unusedSimpArgs false
namespace Go.Am
open Go Go.RowKit

variable {C : Ctx} {ρ : Pl} {σ : H} {w : World}

theorem Rel.fresh {B : Nat} {W0 : World} (h : Rel B W0 ρ σ w) (v : Nat) : ρ σ.size v = none := by
  cases e : ρ σ.size v with
  | none => rfl
  | some p => exact absurd (h.dom _ _ _ e).1 (Nat.lt_irrefl _)

theorem cell_of_block {w : World} {b : Nat} {cs : Array Value} {t : TypeId} {fr : Nat × Nat} (h : w.heap[b]? = some (.cells cs t fr)) (o : Nat) : w.cell? ⟨b, o, none⟩ = cs[o]? := by
  simp [World.cell?, h]

/-- The row that is laid: where it lies. -/
def Pl.new (ρ : Pl) (i n : Nat) (p : Place) : Pl := ⟨fun j v => if j = i then (if v ≤ n then some p else none) else ρ j v, ρ.dfr⟩

theorem Pl.new_at (ρ : Pl) (i n : Nat) (p : Place) (j v : Nat) : (ρ.new i n p) j v = if j = i then (if v ≤ n then some p else none) else ρ j v := rfl

theorem Pl.new_ext {i n : Nat} {p : Place} (h : ∀ v, ρ i v = none) : Ext ρ (ρ.new i n p) := by
  refine ⟨?_, fun _ hb => hb⟩
  intro j v q hq
  rw [Pl.new_at]
  by_cases hj : j = i
  · subst hj; rw [h v] at hq; cases hq
  · simp [hj, hq]

theorem heap_lt {w : World} {b : Nat} {x : Obj} (h : w.heap[b]? = some x) : b < w.heap.size := (Array.getElem?_eq_some_iff.1 h).1

theorem alloc_heap_lt (w : World) (o : Obj) {b : Nat} (h : b < w.heap.size) : (w.alloc o).heap[b]? = w.heap[b]? := heap_alloc_old w o b h

theorem RowAt.step {B : Nat} {ρ ρ' : Pl} {w w' : World} {r : Row} {v : Nat} {p : Place} (hx : Ext ρ ρ') (hb : w'.heap[p.blk]? = w.heap[p.blk]?) (h : RowAt B ρ w r v p) : RowAt B ρ' w' r v p := by
  obtain ⟨h1, h2, h3⟩ := h
  have hc : ∀ j, w'.cell? (p.at j) = w.cell? (p.at j) := fun j => World.cell?_of_block (w := w) (a := p.at j) hb
  have hf : ∀ j, w'.frozen? (p.at j) = w.frozen? (p.at j) := fun j => World.frozen?_of_block (w := w) (a := p.at j) hb
  refine ⟨fun j c hj hcc => ?_, fun ho => ?_, h3⟩
  · obtain ⟨x, hx1, hx2⟩ := h1 j c hj hcc
    exact ⟨x, by rw [hc]; exact hx1, hx2.ext hx⟩
  · obtain ⟨g1, g2⟩ := h2 ho
    refine ⟨g1, fun j hj => ?_⟩
    rw [hc, hf]; exact g2 j hj

/-- A new object of the call's own: a row of cells. -/
theorem Rl.push_rowF (hR : Rl C ρ σ w) (r : Row) (cs : Array Value) (t : TypeId) (fz : Nat × Nat) (hfz : fz.1 = fz.2 ∨ cs.size ≤ fz.1) (hown : r.own = true) (hlow : r.low ≤ r.cells.length)
    (hlen : r.cells.length ≤ cs.size) (hv : VRs ρ r.cells (cs.toList.take r.cells.length)) :
    Rl C (ρ.new σ.size r.cells.length ⟨w.heap.size, 0, cs.size⟩) (σ.push (.row r)) (w.alloc (.cells cs t fz)) ∧ Ext ρ (ρ.new σ.size r.cells.length ⟨w.heap.size, 0, cs.size⟩) := by
  have hx : Ext ρ (ρ.new σ.size r.cells.length ⟨w.heap.size, 0, cs.size⟩) := Pl.new_ext hR.fresh
  refine ⟨?_, hx⟩
  have hblk : (w.alloc (.cells cs t fz)).heap[w.heap.size]? = some (.cells cs t fz) := heap_alloc_new w _
  have hold : ∀ i v p, ρ i v = some p → (w.alloc (.cells cs t fz)).heap[p.blk]? = w.heap[p.blk]? := fun i v p hp => alloc_heap_lt w _ (hR.dom _ _ _ hp).2.1
  refine { toRel := { below := hR.below.alloc hR.base _, base := by simp; have := hR.base; omega, dom := ?_, vers := ?_, low := ?_, row := ?_, disj := ?_, fr := ?_, same := ?_, obj := ?_, dfr := ?_ }, glob := hR.globX hx.map, ext := hR.ext }
  · intro i v p hp
    rw [Pl.new_at] at hp
    split at hp
    · rename_i hi
      split at hp
      · rename_i hvl
        cases hp
        refine ⟨by simp [hi], by simp, by simp; omega⟩
      · simp at hp
    · obtain ⟨a1, a2, a3⟩ := hR.dom _ _ _ hp
      exact ⟨by simp; omega, by simp; omega, a3⟩
  · intro i v p r' hp hg
    rw [Pl.new_at] at hp
    rw [H.get_push] at hg
    split at hp
    · rename_i hi
      split at hp
      · rename_i hvl
        simp [hi] at hg
        subst hg; exact hvl
      · simp at hp
    · rename_i hi
      simp [hi] at hg
      exact hR.vers _ _ _ _ hp hg
  · intro i r' hg
    rw [H.get_push] at hg
    split at hg
    · cases hg; exact hlow
    · exact hR.low _ _ hg
  · intro i r' v hg hl hvl
    rw [H.get_push] at hg
    split at hg
    · rename_i hi
      cases hg
      refine ⟨⟨w.heap.size, 0, cs.size⟩, by simp [Pl.new_at, hi, hvl], ?_, ?_, ?_⟩
      · intro j c hj hc
        obtain ⟨x, hx1, hx2⟩ := hv.get hc
        rw [List.getElem?_take_of_lt (by omega), Array.getElem?_toList] at hx1
        refine ⟨x, ?_, hx2.ext hx⟩
        simp only [Place.at, Nat.zero_add]
        rw [cell_of_block hblk]; exact hx1
      · intro _
        refine ⟨hR.base, fun j hj => ⟨?_, ?_⟩⟩
        · simp only [Place.at, Nat.zero_add]
          rw [cell_of_block hblk]
          exact ⟨_, Array.getElem?_eq_getElem hj⟩
        · simp only [Place.at, Nat.zero_add]
          unfold World.frozen?
          rw [hblk]
          simp only [Bool.and_eq_false_iff, decide_eq_false_iff_not]
          have hj' : j < cs.size := hj
          rcases hfz with h | h <;> omega
      · intro ho; rw [hown] at ho; cases ho
    · rename_i hi
      obtain ⟨p, hp, hrow⟩ := hR.row _ _ _ hg hl hvl
      exact ⟨p, hx.map _ _ _ hp, hrow.step hx (hold _ _ _ hp)⟩
  · intro i j v u p q o o' hij hp hq hg hg' ho ho'
    rw [H.get_push] at hg hg'
    rw [Pl.new_at] at hp hq
    split at hp
    · rename_i hi
      split at hp
      · cases hp
        split at hq
        · rename_i hj; exact absurd (hi.trans hj.symm) hij
        · have := (hR.dom _ _ _ hq).2.1
          intro e
          rw [← e] at this
          exact Nat.lt_irrefl _ this
      · simp at hp
    · rename_i hi
      split at hq
      · split at hq
        · cases hq
          have := (hR.dom _ _ _ hp).2.1
          intro e
          rw [e] at this
          exact Nat.lt_irrefl _ this
        · simp at hq
      · rename_i hj
        simp [hi] at hg
        simp [hj] at hg'
        exact hR.disj _ _ _ _ _ _ _ _ hij hp hq hg hg' ho ho'
  · intro i v p o hp hg ho
    rw [H.get_push] at hg
    rw [Pl.new_at] at hp
    split at hp
    · split at hp
      · cases hp
        intro cs' e lo hi hh
        rw [hblk] at hh
        cases hh
        exact hfz
      · simp at hp
    · rename_i hi
      simp [hi] at hg
      intro cs' e lo hi' hh
      rw [hold _ _ _ hp] at hh
      exact hR.fr _ _ _ _ hp hg ho cs' e lo hi' hh
  · intro i v u p q hp hq hpq
    rw [Pl.new_at] at hp hq
    split at hp
    · split at hp
      · split at hq
        · split at hq
          · cases hp; cases hq; rfl
          · simp at hq
        · rename_i h1 _ h2; exact absurd h1 h2
      · simp at hp
    · rename_i h1
      rw [if_neg h1] at hq
      exact hR.same _ _ _ _ _ hp hq hpq
  · intro i o hg ho
    rw [H.get_push] at hg
    split at hg
    · cases hg; simp [O.solid, O.isRow] at ho
    · obtain ⟨p, x, hp, hb, hh, hm⟩ := hR.obj _ _ hg ho
      exact ⟨p, x, hx.map _ _ _ hp, hb, by rw [hold _ _ _ hp]; exact hh, hm.ext hx⟩
  · intro b hb
    obtain ⟨h1, h2⟩ := hR.dfr b hb
    exact ⟨h1, by rw [alloc_heap_lt w _ (heap_lt h2)]; exact h2⟩

theorem Rl.push_row (hR : Rl C ρ σ w) (r : Row) (cs : Array Value) (t : TypeId) (hown : r.own = true) (hlow : r.low ≤ r.cells.length)
    (hlen : r.cells.length ≤ cs.size) (hv : VRs ρ r.cells (cs.toList.take r.cells.length)) :
    Rl C (ρ.new σ.size r.cells.length ⟨w.heap.size, 0, cs.size⟩) (σ.push (.row r)) (w.alloc (.cells cs t)) ∧ Ext ρ (ρ.new σ.size r.cells.length ⟨w.heap.size, 0, cs.size⟩) :=
  hR.push_rowF r cs t (0, 0) (.inl rfl) hown hlow hlen hv

/-- A draw turns nothing. -/
theorem Rl.drew (hR : Rl C ρ σ w) : Rl C ρ σ w.drew :=
  { toRel := { below := hR.below.drew, base := hR.base, dom := hR.dom, vers := hR.vers, low := hR.low, row := fun i r v hg hl hv => by
                obtain ⟨p, hp, hr⟩ := hR.row i r v hg hl hv
                exact ⟨p, hp, hr.step (Ext.refl _) rfl⟩
               disj := hR.disj, fr := hR.fr, same := hR.same, obj := hR.obj, dfr := hR.dfr }, glob := hR.glob, ext := hR.ext }

/-! ### Stores -/

def V.one : V → Bool
  | .agg _ | .tuple _ => false
  | _ => true

theorem V.one_rel {v : V} {x : Value} (h : VR ρ v x) (ho : v.one = true) : x.oneCell' = true := by
  cases v <;> simp only [VR] at h <;> (try (obtain ⟨_, _, _, _, rfl, _⟩ := h)) <;> (try (obtain ⟨_, _, rfl, _⟩ := h)) <;> (try (obtain ⟨_, rfl, _⟩ := h)) <;> (try (obtain ⟨_, _, rfl⟩ := h)) <;> (try subst h) <;>
    first | rfl | (simp [V.one] at ho)

/-- Cells one behind the other. -/
def stores (w : World) (a : Addr) : List Value → World
  | [] => w
  | x :: xs => stores (w.setCell a x) ⟨a.block, a.off + 1, none⟩ xs

theorem run_stores {P : Program} : ∀ (xs : List Value) (w : World) (b o i : Nat), (∀ x, x ∈ xs → x.oneCell' = true) → (∀ j, j < xs.length → (∃ y, w.cell? ⟨b, o + i + j, none⟩ = some y) ∧ w.frozen? ⟨b, o + i + j, none⟩ = false) →
    (storeCells ⟨b, o, none⟩ xs i).run P w = .ok () (stores w ⟨b, o + i, none⟩ xs)
  | [], w, b, o, i, h1, h2 => by simp [storeCells, stores]
  | x :: xs, w, b, o, i, h1, h2 => by
    obtain ⟨⟨y, hy⟩, hf⟩ := h2 0 (by simp)
    simp only [Nat.add_zero] at hy hf
    have ha : (⟨b, o, none⟩ : Addr).add i = ⟨b, o + i, none⟩ := by
      unfold Addr.add; split
      · rename_i e; subst e; rfl
      · rfl
    have hone : x.oneCell' = true := h1 x (by simp)
    have hst : (store ((⟨b, o, none⟩ : Addr).add i) x).run P w = .ok () (w.setCell ⟨b, o + i, none⟩ x) := by
      rw [ha]
      unfold store
      cases x <;> first | (simp [Value.oneCell'] at hone; done) | simp [Sem.run, hy, hf]
    simp only [storeCells, Sem.run_bind, hst, Result.andThen_ok, stores]
    have := run_stores (P := P) xs (w.setCell ⟨b, o + i, none⟩ x) b o (i + 1) (fun z hz => h1 z (by simp [hz])) (fun j hj => by
      obtain ⟨⟨z, hz⟩, hzf⟩ := h2 (j + 1) (by simp; omega)
      have e : o + (i + 1) + j = o + i + (j + 1) := by omega
      rw [e]
      refine ⟨⟨z, ?_⟩, by rw [World.frozen?_setCell]; exact hzf⟩
      rw [World.cell?_setCell_other _ _ _ _ (by intro h; have := congrArg Addr.off h; dsimp only at this; omega)]
      exact hz)
    exact this

theorem stores_size : ∀ (xs : List Value) (w : World) (a : Addr), (stores w a xs).heap.size = w.heap.size
  | [], w, a => rfl
  | x :: xs, w, a => by simp [stores, stores_size xs]

theorem stores_below {B : Nat} {W0 : World} : ∀ (xs : List Value) (w : World) (a : Addr), B ≤ a.block → Below B W0 w → Below B W0 (stores w a xs)
  | [], w, a, h, hb => hb
  | x :: xs, w, a, h, hb => stores_below xs _ _ h (hb.setCell h x)

theorem stores_block : ∀ (xs : List Value) (w : World) (a : Addr) (k : Nat), k ≠ a.block → (stores w a xs).heap[k]? = w.heap[k]?
  | [], w, a, k, h => rfl
  | x :: xs, w, a, k, h => by
    exact (stores_block xs (w.setCell a x) ⟨a.block, a.off + 1, none⟩ k h).trans (Below.heap_setCell _ _ _ _ h)

/-- What is no cells lies as it lay. -/
theorem setCell_solid {w : World} {a : Addr} {v : Value} {b : Nat} {x : Obj} (hx : ∀ c e f, x ≠ .cells c e f) (h : w.heap[b]? = some x) : (w.setCell a v).heap[b]? = some x := by
  unfold World.setCell
  simp only [Array.getElem?_modify]
  split
  · rw [h]
    cases x <;> first | rfl | exact absurd rfl (hx _ _ _)
  · exact h
theorem stores_solid {b : Nat} {x : Obj} (hx : ∀ c e f, x ≠ .cells c e f) : ∀ (xs : List Value) (w : World) (a : Addr), w.heap[b]? = some x → (stores w a xs).heap[b]? = some x
  | [], w, a, h => h
  | v :: xs, w, a, h => stores_solid hx xs _ _ (setCell_solid hx h)
theorem ORel.solid {ρ : Pl} {o : O} {x : Obj} (h : ORel ρ o x) (ho : o.solid = true) : ∀ c e f, x ≠ .cells c e f := by
  intro c e f
  cases o <;> simp [O.solid, O.isRow, O.isDead] at ho
  · obtain ⟨xs, rfl, _⟩ := h; simp
  · have : x = _ := h; subst this; simp
  · obtain ⟨r, rfl, _⟩ := h; simp

theorem stores_frozen : ∀ (xs : List Value) (w : World) (a b : Addr), (stores w a xs).frozen? b = w.frozen? b
  | [], w, a, b => rfl
  | x :: xs, w, a, b => by simp [stores, stores_frozen xs]

theorem stores_cell : ∀ (xs : List Value) (w : World) (b o j : Nat), (∀ i, i < xs.length → ∃ y, w.cell? ⟨b, o + i, none⟩ = some y) →
    (stores w ⟨b, o, none⟩ xs).cell? ⟨b, j, none⟩ = if o ≤ j ∧ j < o + xs.length then xs[j - o]? else w.cell? ⟨b, j, none⟩
  | [], w, b, o, j, h => by simp [stores]; omega
  | x :: xs, w, b, o, j, h => by
    obtain ⟨y, hy⟩ := h 0 (by simp)
    simp only [Nat.add_zero] at hy
    simp only [stores]
    rw [stores_cell xs _ b (o + 1) j (fun i hi => by
      obtain ⟨z, hz⟩ := h (i + 1) (by simp; omega)
      refine ⟨z, ?_⟩
      rw [World.cell?_setCell_other _ _ _ _ (by intro e; have := congrArg Addr.off e; dsimp only at this; omega)]
      rw [← hz]; congr 2; omega)]
    by_cases h1 : o = j
    · subst h1
      rw [if_neg (by omega), if_pos (by simp)]
      simp [World.cell?_setCell_same _ _ _ hy]
    · by_cases h2 : o + 1 ≤ j ∧ j < o + 1 + xs.length
      · rw [if_pos h2, if_pos (by simp; omega)]
        rw [show j - o = (j - (o + 1)) + 1 by omega, List.getElem?_cons_succ]
      · rw [if_neg h2, if_neg (by simp; omega)]
        exact World.cell?_setCell_other _ _ _ _ (by intro e; have := congrArg Addr.off e; dsimp only at this; omega)

theorem FrOk.of_block {w w' : World} {b : Nat} (h : FrOk w b) (hb : w'.heap[b]? = w.heap[b]?) : FrOk w' b :=
  fun cs e lo hi hh => h cs e lo hi (by rw [← hb]; exact hh)

theorem FrOk.setCell {w : World} {b : Nat} (h : FrOk w b) (a : Addr) (v : Value) : FrOk (w.setCell a v) b := by
  intro cs e lo hi hh
  simp only [World.setCell, Array.getElem?_modify] at hh
  split at hh
  · cases ho : w.heap[b]? with
    | none => simp [ho] at hh
    | some o =>
      rw [ho] at hh
      simp only [Option.map_some, Option.some.injEq] at hh
      cases o <;> simp only [reduceCtorEq] at hh
      rename_i c e' f
      obtain ⟨lo', hi'⟩ := f
      simp only [Obj.cells.injEq, Prod.mk.injEq] at hh
      obtain ⟨h1, h2, h3, h4⟩ := hh
      have := h c e' lo' hi' ho
      subst h3 h4
      rw [← h1]
      split
      · exact this
      · simpa using this
  · exact h cs e lo hi hh

theorem FrOk.stores {b : Nat} : ∀ (xs : List Value) {w : World} (a : Addr), FrOk w b → FrOk (stores w a xs) b
  | [], w, a, h => h
  | x :: xs, w, a, h => FrOk.stores xs _ (h.setCell a x)

end Go.Am
