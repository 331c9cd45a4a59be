/-
  AM: append, over abstract rows. (Lemmas alone; no program.)
-/
import Derived.Test.YtaolbokpeafejaaGreatDoorAmMem3
set_option linter.unusedVariables false
set_option linter.unusedSimpArgs false
namespace Go.Am
open Go Go.RowKit

variable {C : Ctx} {ρ : Pl} {σ : H} {w : World}

/-- What is appended: its cells, and how many elements. -/
def apX (σ : H) (sz : Nat) (x : V) : Option (List V × Nat) :=
  match x with
  | .nils => some ([], 0)
  | .slice a sz' len cb ex => if sz' = sz then match slCells σ (.slice a sz' len cb ex) with
      | some cs => some (cs, len)
      | none => none
    else none
  | .str s => if sz = 1 then some (s.map (fun b => V.int .u8 b.toNat), s.length) else none
  | _ => none

theorem apX_sound (hR : Rl C ρ σ w) {sz n : Nat} {x : V} {x' : Value} {cs : List V} (hx : VR ρ x x') (h : apX σ sz x = some (cs, n)) :
    (Builtin.lenOf x').run C.P w = .ok n w ∧ ∃ new : Array Value, VRs ρ cs new.toList ∧ new.size = n * sz ∧ (Builtin.firstCells sz n x').run C.P w = .ok new w := by
  unfold apX at h
  split at h
  · cases h
    simp only [VR] at hx; subst hx
    exact ⟨rfl, #[], by simp [VRs], by simp, rfl⟩
  · rename_i a sz' len cb ex
    split at h
    · rename_i hsz
      subst hsz
      split at h
      · rename_i cs' hcs
        cases h
        have hx' := hx
        simp only [VR] at hx'
        obtain ⟨p, ad, c, hp, rfl, _⟩ := hx'
        obtain ⟨xs, hxl, hrel, hc⟩ := slCells_sound hR hx hcs
        refine ⟨rfl, xs.toArray, by simpa using hrel, by simpa using hxl, ?_⟩
        have := run_firstCells_some (P := C.P) w sz' n ad n c xs hxl hc
        exact this
      · simp at h
    · simp at h
  · rename_i s
    split at h
    · rename_i hsz
      subst hsz
      cases h
      simp only [VR] at hx; subst hx
      refine ⟨rfl, (s.map (fun b => Value.int .u8 b.toNat)).toArray, ?_, by simp, ?_⟩
      · apply VRs.of_get
        · simp
        · intro i v hv
          rw [List.getElem?_map] at hv
          obtain ⟨b, hb, rfl⟩ := Option.map_eq_some_iff.1 hv
          exact ⟨.int .u8 b.toNat, by simp [hb], by simp only [VR]⟩
      · simp only [Builtin.firstCells, Sem.run_pure]
        congr 1
        apply Array.ext'
        simp [ByteArray.data_extract, List.extract_eq_take_drop]
    · simp at h
  · simp at h

/-- A row that grows at its end. -/
def H.grow (σ : H) (a : PA) (ns : List V) : Option H :=
  match σ.get a.id with
  | some (.row r) => if r.own = true ∧ a.ver = r.cells.length ∧ ns.all V.one = true then some (σ.set a.id (.row { r with cells := r.cells ++ ns })) else none
  | _ => none

/-- Of the new versions of a row: where they lie. -/
def Pl.more (ρ : Pl) (i n m : Nat) (p : Place) : Pl := ⟨fun j v => if j = i ∧ n < v ∧ v ≤ m then some p else ρ j v, ρ.dfr⟩

theorem Pl.more_at (ρ : Pl) (i n m : Nat) (p : Place) (j v : Nat) : (ρ.more i n m p) j v = if j = i ∧ n < v ∧ v ≤ m then some p else ρ j v := rfl

theorem Rl.more_ext (hR : Rl C ρ σ w) {i m : Nat} {r : Row} {p : Place} (hr : σ.get i = some (.row r)) : Ext ρ (ρ.more i r.cells.length m p) := by
  refine ⟨?_, fun _ hb => hb⟩
  intro j v q hq
  rw [Pl.more_at, if_neg]
  · exact hq
  · rintro ⟨rfl, h1, h2⟩
    have := hR.vers _ _ _ _ hq hr
    omega

/-- Growing where there was room. -/
theorem Rl.grow_here (hR : Rl C ρ σ w) {a : PA} {ns : List V} {xs : List Value} {p : Place} {σ' : H} (h : σ.grow a ns = some σ') (hp : ρ a.id a.ver = some p) (hv : VRs ρ ns xs) (hroom : a.ver + ns.length ≤ p.cap) :
    (storeCells (p.at a.ver) xs).run C.P w = .ok () (stores w (p.at a.ver) xs) ∧
      Rl C (ρ.more a.id a.ver (a.ver + ns.length) p) σ' (stores w (p.at a.ver) xs) ∧ Ext ρ (ρ.more a.id a.ver (a.ver + ns.length) p) := by
  unfold H.grow at h
  split at h
  · rename_i r hr
    split at h
    · rename_i hc
      obtain ⟨hown, hver, hone⟩ := hc
      cases h
      have hx : Ext ρ (ρ.more a.id a.ver (a.ver + ns.length) p) := by rw [hver]; exact hR.more_ext hr
      have hl := hv.length
      have hlow := hR.low _ _ hr
      obtain ⟨q, hq, hrow1, hrow2, hrow3⟩ := hR.row _ _ a.ver hr (by omega) (by omega)
      rw [hp] at hq; cases hq
      obtain ⟨hB, hcap⟩ := hrow2 hown
      obtain ⟨hd1, hd2, hd3⟩ := hR.dom _ _ _ hp
      have hx1 : ∀ x, x ∈ xs → x.oneCell' = true := by
        intro x hx
        obtain ⟨i, hi⟩ := List.getElem?_of_mem hx
        obtain ⟨v, hvi, hvr⟩ := hv.get' hi
        exact V.one_rel hvr (List.all_eq_true.1 hone v (List.mem_of_getElem? hvi))
      have hcells : ∀ j, j < xs.length → (∃ y, w.cell? ⟨p.blk, p.off + a.ver + j, none⟩ = some y) ∧ w.frozen? ⟨p.blk, p.off + a.ver + j, none⟩ = false := by
        intro j hj
        have := hcap (a.ver + j) (by omega)
        simpa [Place.at, Nat.add_assoc] using this
      have hsz := stores_size xs w (p.at a.ver)
      have hother : ∀ k, k ≠ p.blk → (stores w (p.at a.ver) xs).heap[k]? = w.heap[k]? := fun k hk => stores_block xs w (p.at a.ver) k hk
      have hcell : ∀ j, (stores w (p.at a.ver) xs).cell? (p.at j) = if a.ver ≤ j ∧ j < a.ver + xs.length then xs[j - a.ver]? else w.cell? (p.at j) := by
        intro j
        have := stores_cell xs w p.blk (p.off + a.ver) (p.off + j) (fun i hi => (hcells i hi).1)
        unfold Place.at
        rw [this]
        by_cases h1 : a.ver ≤ j ∧ j < a.ver + xs.length
        · rw [if_pos h1, if_pos (by omega)]; congr 1; omega
        · rw [if_neg h1, if_neg (by omega)]
      have hfr : ∀ b, (stores w (p.at a.ver) xs).frozen? b = w.frozen? b := fun b => stores_frozen xs w _ b
      have hids : a.id < σ.size := H.get_lt hr
      refine ⟨?_, ?_, hx⟩
      · have := run_stores (P := C.P) xs w p.blk (p.off + a.ver) 0 hx1 (by simpa using hcells)
        simpa [Place.at] using this
      · have hmore : ∀ j v q, ρ.more a.id a.ver (a.ver + ns.length) p j v = some q → (j = a.id ∧ a.ver < v ∧ v ≤ a.ver + ns.length ∧ q = p) ∨ ρ j v = some q := by
          intro j v q hq
          rw [Pl.more_at] at hq
          split at hq
          · rename_i hh; cases hq; exact .inl ⟨hh.1, hh.2.1, hh.2.2, rfl⟩
          · exact .inr hq
        have hget : ∀ k o, (σ.set a.id (.row { r with cells := r.cells ++ ns })).get k = some o → (k = a.id ∧ o = .row { r with cells := r.cells ++ ns }) ∨ (k ≠ a.id ∧ σ.get k = some o) := by
          intro k o hk
          rw [H.get_set] at hk
          split at hk
          · rename_i hkk
            subst hkk
            simp only [hids, if_true, Option.some.injEq] at hk
            exact .inl ⟨rfl, hk.symm⟩
          · rename_i hkk; exact .inr ⟨fun e => hkk e.symm, hk⟩
        have hrowp : ∀ v q, ρ a.id v = some q → v ≤ a.ver → (∀ j c, j < v → r.cells[j]? = some c → ∃ x, w.cell? (q.at j) = some x ∧ VR ρ c x) →
            (∀ j, j < q.cap → (∃ x, w.cell? (q.at j) = some x) ∧ w.frozen? (q.at j) = false) → C.B ≤ q.blk →
            RowAt C.B (ρ.more a.id a.ver (a.ver + ns.length) p) (stores w (p.at a.ver) xs) { r with cells := r.cells ++ ns } v q := by
          intro v q hq hvv h1 h2 h3
          by_cases hb : q.blk = p.blk
          · have ho := hR.same _ _ _ _ _ hq hp hb
            have hat : ∀ j, q.at j = p.at j := fun j => by simp [Place.at, hb, ho]
            refine ⟨fun j c hj hc => ?_, fun _ => ⟨h3, fun j hj => ⟨?_, by rw [hfr]; exact (h2 j hj).2⟩⟩, fun ho => by simp only at ho; rw [hown] at ho; cases ho⟩
            · simp only at hc
              rw [List.getElem?_append_left (by omega)] at hc
              obtain ⟨x, hx1, hx2⟩ := h1 j c hj hc
              rw [hat, hcell, if_neg (by omega), ← hat]
              exact ⟨x, hx1, hx2.ext hx⟩
            · rw [hat, hcell]
              split
              · rename_i hjr
                have : j - a.ver < xs.length := by omega
                exact ⟨_, List.getElem?_eq_getElem this⟩
              · rw [← hat]; exact (h2 j hj).1
          · have hc' : ∀ j, (stores w (p.at a.ver) xs).cell? (q.at j) = w.cell? (q.at j) := fun j => World.cell?_of_block (w := w) (a := q.at j) (hother _ hb)
            refine ⟨fun j c hj hc => ?_, fun _ => ⟨h3, fun j hj => ⟨?_, by rw [hfr]; exact (h2 j hj).2⟩⟩, fun ho => by simp only at ho; rw [hown] at ho; cases ho⟩
            · simp only at hc
              rw [List.getElem?_append_left (by omega)] at hc
              obtain ⟨x, hx1, hx2⟩ := h1 j c hj hc
              exact ⟨x, by rw [hc']; exact hx1, hx2.ext hx⟩
            · rw [hc']; exact (h2 j hj).1
        refine { toRel := { below := stores_below xs w _ hB hR.below, base := by rw [hsz]; exact hR.base, dom := ?_, vers := ?_, low := ?_, row := ?_, disj := ?_, fr := ?_, same := ?_, obj := ?_, dfr := ?_ }, glob := hR.globX hx.map, ext := hR.ext }
        · intro i v q hq
          rcases hmore _ _ _ hq with ⟨rfl, h1, h2, rfl⟩ | hq
          · exact ⟨by simpa using hids, by rw [hsz]; exact hd2, by omega⟩
          · obtain ⟨b1, b2, b3⟩ := hR.dom _ _ _ hq
            exact ⟨by simpa using b1, by rw [hsz]; exact b2, b3⟩
        · intro i v q r' hq hg
          rcases hget _ _ hg with ⟨rfl, e⟩ | ⟨hi, hg⟩
          · cases e
            simp only [List.length_append]
            rcases hmore _ _ _ hq with ⟨_, h1, h2, rfl⟩ | hq
            · omega
            · have := hR.vers _ _ _ _ hq hr; omega
          · rcases hmore _ _ _ hq with ⟨h0, _⟩ | hq
            · exact absurd h0 hi
            · exact hR.vers _ _ _ _ hq hg
        · intro i r' hg
          rcases hget _ _ hg with ⟨rfl, e⟩ | ⟨hi, hg⟩
          · cases e; simp only [List.length_append]; omega
          · exact hR.low _ _ hg
        · intro i r' v hg hlo hvl
          rcases hget _ _ hg with ⟨rfl, e⟩ | ⟨hi, hg⟩
          · cases e
            simp only [List.length_append] at hlo hvl
            by_cases hvv : v ≤ a.ver
            · obtain ⟨q, hq, g1, g2, g3⟩ := hR.row _ _ v hr hlo (by omega)
              obtain ⟨g4, g5⟩ := g2 hown
              exact ⟨q, hx.map _ _ _ hq, hrowp v q hq hvv g1 g5 g4⟩
            · refine ⟨p, by simp [Pl.more_at]; omega, ?_, ?_, ?_⟩
              · intro j c hj hc
                simp only at hc
                rw [hcell]
                by_cases hja : j < a.ver
                · rw [List.getElem?_append_left (by omega)] at hc
                  rw [if_neg (by omega)]
                  obtain ⟨x, hx1, hx2⟩ := hrow1 j c hja hc
                  exact ⟨x, hx1, hx2.ext hx⟩
                · rw [List.getElem?_append_right (by omega), ← hver] at hc
                  rw [if_pos (by omega)]
                  obtain ⟨x, hx1, hx2⟩ := hv.get hc
                  exact ⟨x, hx1, hx2.ext hx⟩
              · intro _
                refine ⟨hB, fun j hj => ⟨?_, by rw [hfr]; exact (hcap j hj).2⟩⟩
                rw [hcell]
                split
                · rename_i hjr
                  have : j - a.ver < xs.length := by omega
                  exact ⟨_, List.getElem?_eq_getElem this⟩
                · exact (hcap j hj).1
              · intro ho; simp only at ho; rw [hown] at ho; cases ho
          · obtain ⟨q, hq, hrow⟩ := hR.row _ _ _ hg hlo hvl
            refine ⟨q, hx.map _ _ _ hq, hrow.step hx (hother _ ?_)⟩
            cases ho : r'.own with
            | true => exact fun e => hR.disj _ _ _ _ _ _ _ _ (fun e => hi e.symm) hp hq hr hg hown ho e.symm
            | false => have := hrow.2.2 ho; omega
        · intro i j v u q q' o o' hij hq hq' hg hg' ho ho'
          have conv : ∀ k v q o, ρ.more a.id a.ver (a.ver + ns.length) p k v = some q → (σ.set a.id (.row { r with cells := r.cells ++ ns })).get k = some o → o.own = true →
              ∃ v2 q2 o2, ρ k v2 = some q2 ∧ q2.blk = q.blk ∧ σ.get k = some o2 ∧ o2.own = true := by
            intro k v q o hq hg ho
            have hq2 : ∃ v2 q2, ρ k v2 = some q2 ∧ q2.blk = q.blk := by
              rcases hmore _ _ _ hq with ⟨rfl, _, _, rfl⟩ | hq
              · exact ⟨_, _, hp, rfl⟩
              · exact ⟨_, _, hq, rfl⟩
            obtain ⟨v2, q2, e1, e2⟩ := hq2
            rcases hget _ _ hg with ⟨rfl, e⟩ | ⟨hi, hg⟩
            · exact ⟨v2, q2, _, e1, e2, hr, hown⟩
            · exact ⟨v2, q2, o, e1, e2, hg, ho⟩
          obtain ⟨v2, q2, o2, a1, a2, a3, a4⟩ := conv _ _ _ _ hq hg ho
          obtain ⟨v3, q3, o3, b1, b2, b3, b4⟩ := conv _ _ _ _ hq' hg' ho'
          rw [← a2, ← b2]
          exact hR.disj _ _ _ _ _ _ _ _ hij a1 b1 a3 b3 a4 b4
        · intro i v q o hq hg ho
          have hq2 : ∃ v2, ρ i v2 = some q := by
            rcases hmore _ _ _ hq with ⟨e1, _, _, e2⟩ | hq
            · subst e1; exact ⟨_, by rw [e2]; exact hp⟩
            · exact ⟨_, hq⟩
          obtain ⟨v2, hq2⟩ := hq2
          rcases hget _ _ hg with ⟨e0, e⟩ | ⟨hi, hg⟩
          · subst e0; exact FrOk.stores xs _ (hR.fr _ _ _ _ hq2 hr hown)
          · exact FrOk.stores xs _ (hR.fr _ _ _ _ hq2 hg ho)
        · intro i v u q q' hq hq' hb
          rcases hmore _ _ _ hq with ⟨e1, _, _, e2⟩ | hq2 <;> rcases hmore _ _ _ hq' with ⟨e3, _, _, e4⟩ | hq3
          · rw [e2, e4]
          · subst e1; rw [e2] at hb ⊢; exact hR.same _ _ _ _ _ hp hq3 hb
          · subst e3; rw [e4] at hb ⊢; exact hR.same _ _ _ _ _ hq2 hp hb
          · exact hR.same _ _ _ _ _ hq2 hq3 hb
        · intro i o hg ho
          rcases hget _ _ hg with ⟨e1, e⟩ | ⟨hi, hg⟩
          · subst e; simp [O.solid, O.isRow] at ho
          · obtain ⟨q, y, hq, hb, hh, hm⟩ := hR.obj _ _ hg ho
            exact ⟨q, y, hx.map _ _ _ hq, hb, stores_solid (hm.solid ho) xs w _ hh, hm.ext hx⟩
        · intro b hb
          obtain ⟨h1, h2⟩ := hR.dfr b hb
          exact ⟨h1, stores_solid (by simp) xs w _ h2⟩
    · simp at h
  · simp at h

/-- Growing into a new array. -/
theorem Rl.grow_there (hR : Rl C ρ σ w) {a : PA} {ns : List V} {cs : Array Value} {t : TypeId} {p : Place} {σ' : H} (h : σ.grow a ns = some σ') (hp : ρ a.id a.ver = some p)
    (hv : ∀ r, σ.get a.id = some (.row r) → VRs ρ (r.cells ++ ns) (cs.toList.take (a.ver + ns.length))) (hlen : a.ver + ns.length ≤ cs.size) :
    Rl C (ρ.more a.id a.ver (a.ver + ns.length) ⟨w.heap.size, 0, cs.size⟩) σ' (w.alloc (.cells cs t)) ∧ Ext ρ (ρ.more a.id a.ver (a.ver + ns.length) ⟨w.heap.size, 0, cs.size⟩) := by
  unfold H.grow at h
  split at h
  · rename_i r hr
    split at h
    · rename_i hc
      obtain ⟨hown, hver, hone⟩ := hc
      cases h
      have hv := hv r hr
      have hx : Ext ρ (ρ.more a.id a.ver (a.ver + ns.length) ⟨w.heap.size, 0, cs.size⟩) := by rw [hver]; exact hR.more_ext hr
      refine ⟨?_, hx⟩
      have hlow := hR.low _ _ hr
      have hids : a.id < σ.size := H.get_lt hr
      have hblk : (w.alloc (.cells cs t)).heap[w.heap.size]? = some (.cells cs t) := heap_alloc_new w _
      have hold : ∀ i v q, ρ i v = some q → (w.alloc (.cells cs t)).heap[q.blk]? = w.heap[q.blk]? := fun i v q hq => alloc_heap_lt w _ (hR.dom _ _ _ hq).2.1
      have hmore : ∀ j v q, ρ.more a.id a.ver (a.ver + ns.length) ⟨w.heap.size, 0, cs.size⟩ j v = some q → (j = a.id ∧ a.ver < v ∧ v ≤ a.ver + ns.length ∧ q = ⟨w.heap.size, 0, cs.size⟩) ∨ ρ j v = some q := by
        intro j v q hq
        rw [Pl.more_at] at hq
        split at hq
        · rename_i hh; cases hq; exact .inl ⟨hh.1, hh.2.1, hh.2.2, rfl⟩
        · exact .inr hq
      have hget : ∀ k o, (σ.set a.id (.row { r with cells := r.cells ++ ns })).get k = some o → (k = a.id ∧ o = .row { r with cells := r.cells ++ ns }) ∨ (k ≠ a.id ∧ σ.get k = some o) := by
        intro k o hk
        rw [H.get_set] at hk
        split at hk
        · rename_i hkk
          subst hkk
          simp only [hids, if_true, Option.some.injEq] at hk
          exact .inl ⟨rfl, hk.symm⟩
        · rename_i hkk; exact .inr ⟨fun e => hkk e.symm, hk⟩
      refine { toRel := { below := hR.below.alloc hR.base _, base := by simp; have := hR.base; omega, dom := ?_, vers := ?_, low := ?_, row := ?_, disj := ?_, fr := ?_, same := ?_, obj := ?_, dfr := ?_ }, glob := hR.globX hx.map, ext := hR.ext }
      · intro i v q hq
        rcases hmore _ _ _ hq with ⟨e1, h1, h2, e2⟩ | hq
        · subst e1; rw [e2]; exact ⟨by simpa using hids, by simp, by simp; omega⟩
        · obtain ⟨b1, b2, b3⟩ := hR.dom _ _ _ hq
          exact ⟨by simpa using b1, by simp; omega, b3⟩
      · intro i v q r' hq hg
        rcases hget _ _ hg with ⟨e0, e⟩ | ⟨hi, hg⟩
        · subst e0
          cases e
          simp only [List.length_append]
          rcases hmore _ _ _ hq with ⟨_, h1, h2, _⟩ | hq
          · omega
          · have := hR.vers _ _ _ _ hq hr; omega
        · rcases hmore _ _ _ hq with ⟨h0, _⟩ | hq
          · exact absurd h0 hi
          · exact hR.vers _ _ _ _ hq hg
      · intro i r' hg
        rcases hget _ _ hg with ⟨e0, e⟩ | ⟨hi, hg⟩
        · cases e; simp only [List.length_append]; omega
        · exact hR.low _ _ hg
      · intro i r' v hg hlo hvl
        rcases hget _ _ hg with ⟨e0, e⟩ | ⟨hi, hg⟩
        · subst e0
          cases e
          simp only [List.length_append] at hlo hvl
          by_cases hvv : v ≤ a.ver
          · obtain ⟨q, hq, g1, g2, g3⟩ := hR.row _ _ v hr hlo (by omega)
            have hb := hold _ _ _ hq
            have hc : ∀ j, (w.alloc (.cells cs t)).cell? (q.at j) = w.cell? (q.at j) := fun j => World.cell?_of_block (w := w) (a := q.at j) hb
            have hf : ∀ j, (w.alloc (.cells cs t)).frozen? (q.at j) = w.frozen? (q.at j) := fun j => World.frozen?_of_block (w := w) (a := q.at j) hb
            refine ⟨q, hx.map _ _ _ hq, fun j c hj hcc => ?_, fun ho => ?_, g3⟩
            · simp only at hcc
              rw [List.getElem?_append_left (by omega)] at hcc
              obtain ⟨x, hx1, hx2⟩ := g1 j c hj hcc
              exact ⟨x, by rw [hc]; exact hx1, hx2.ext hx⟩
            · obtain ⟨g4, g5⟩ := g2 ho
              exact ⟨g4, fun j hj => by rw [hc, hf]; exact g5 j hj⟩
          · refine ⟨⟨w.heap.size, 0, cs.size⟩, by simp [Pl.more_at]; omega, ?_, ?_, ?_⟩
            · intro j c hj hcc
              simp only at hcc
              obtain ⟨x, hx1, hx2⟩ := hv.get hcc
              rw [List.getElem?_take_of_lt (by omega), Array.getElem?_toList] at hx1
              refine ⟨x, ?_, hx2.ext hx⟩
              simp only [Place.at, Nat.zero_add]
              rw [cell_of_block hblk]; exact hx1
            · intro _
              refine ⟨hR.base, fun j hj => ⟨?_, ?_⟩⟩
              · simp only [Place.at, Nat.zero_add]
                rw [cell_of_block hblk]
                exact ⟨_, Array.getElem?_eq_getElem hj⟩
              · simp only [Place.at, Nat.zero_add]
                exact World.frozen?_alloc_new _ _ _ _
            · intro ho; simp only at ho; rw [hown] at ho; cases ho
        · obtain ⟨q, hq, hrow⟩ := hR.row _ _ _ hg hlo hvl
          exact ⟨q, hx.map _ _ _ hq, hrow.step hx (hold _ _ _ hq)⟩
      · intro i j v u q q' o o' hij hq hq' hg hg' ho ho'
        have conv : ∀ k o, (σ.set a.id (.row { r with cells := r.cells ++ ns })).get k = some o → o.own = true → ∃ o2, σ.get k = some o2 ∧ o2.own = true := by
          intro k o hg ho
          rcases hget _ _ hg with ⟨e0, e⟩ | ⟨hi, hg⟩
          · subst e0; exact ⟨_, hr, hown⟩
          · exact ⟨o, hg, ho⟩
        obtain ⟨o2, a3, a4⟩ := conv _ _ hg ho
        obtain ⟨o3, b3, b4⟩ := conv _ _ hg' ho'
        rcases hmore _ _ _ hq with ⟨e1, _, _, e2⟩ | hq2 <;> rcases hmore _ _ _ hq' with ⟨e3, _, _, e4⟩ | hq3
        · exact absurd (e1.trans e3.symm) hij
        · rw [e2]; have := (hR.dom _ _ _ hq3).2.1; intro e; rw [← e] at this; exact Nat.lt_irrefl _ this
        · rw [e4]; have := (hR.dom _ _ _ hq2).2.1; intro e; rw [e] at this; exact Nat.lt_irrefl _ this
        · exact hR.disj _ _ _ _ _ _ _ _ hij hq2 hq3 a3 b3 a4 b4
      · intro i v q o hq hg ho
        rcases hmore _ _ _ hq with ⟨e1, _, _, e2⟩ | hq2
        · rw [e2]
          intro cs' e lo hi hh
          rw [hblk] at hh; cases hh; exact .inl rfl
        · rcases hget _ _ hg with ⟨e0, e⟩ | ⟨hi, hg⟩
          · subst e0; exact (hR.fr _ _ _ _ hq2 hr hown).of_block (hold _ _ _ hq2)
          · exact (hR.fr _ _ _ _ hq2 hg ho).of_block (hold _ _ _ hq2)
      · intro i v u q q' hq hq' hb
        rcases hmore _ _ _ hq with ⟨e1, _, _, e2⟩ | hq2 <;> rcases hmore _ _ _ hq' with ⟨e3, _, _, e4⟩ | hq3
        · rw [e2, e4]
        · rw [e2] at hb; have := (hR.dom _ _ _ hq3).2.1; rw [← hb] at this; exact absurd this (Nat.lt_irrefl _)
        · rw [e4] at hb; have := (hR.dom _ _ _ hq2).2.1; rw [hb] at this; exact absurd this (Nat.lt_irrefl _)
        · exact hR.same _ _ _ _ _ hq2 hq3 hb
      · intro i o hg ho
        rcases hget _ _ hg with ⟨e1, e⟩ | ⟨hi, hg⟩
        · subst e; simp [O.solid, O.isRow] at ho
        · obtain ⟨q, y, hq, hb, hh, hm⟩ := hR.obj _ _ hg ho
          exact ⟨q, y, hx.map _ _ _ hq, hb, by rw [hold _ _ _ hq]; exact hh, hm.ext hx⟩
      · intro b hb
        obtain ⟨h1, h2⟩ := hR.dfr b hb
        exact ⟨h1, by rw [alloc_heap_lt w _ (heap_lt h2)]; exact h2⟩
    · simp at h
  · simp at h

/-- append: what comes of it. -/
def apP (σ : H) (k : SlK) (s : V) (x : V) : Option (V × H) :=
  match apX σ k.sz x with
  | none => none
  | some (ns, n) =>
    match s with
    | .nils => if n = 0 then some (.nils, σ) else if n * k.bytes ≤ 140737488355328 then some (.slice (newPA σ (n * k.sz)) k.sz n n false, mkRow σ k.elem ns) else none
    | .slice a sz len cb ex =>
      if sz ≠ k.sz then none else
      if n = 0 then some (.slice a sz len cb ex, σ) else
      if len + n ≤ cb then (match σ.store { a with off := a.off + len * sz } ns with
        | some σ' => some (.slice a sz (len + n) cb ex, σ')
        | none => none) else
      if (len + n) * k.bytes ≤ 140737488355328 then
        (if ex = true then (match slCells σ (.slice a sz len cb ex) with
          | some old => some (.slice (newPA σ ((len + n) * sz)) sz (len + n) (len + n) false, mkRow σ k.elem (old ++ ns))
          | none => none)
        else if a.off = 0 ∧ len = cb ∧ len * sz = a.ver then (match σ.grow a ns with
          | some σ' => some (.slice { a with ver := a.ver + ns.length } sz (len + n) (len + n) false, σ')
          | none => none)
        else none)
      else none
    | _ => none

def apK (P : Program) (ts : Array TypeId) : Option SlK :=
  match ts[0]?, ts[1]? with
  | some t, some u => match slInfo P t, P.underlying u with
    | some k, some (.slice _) => if k.bytes = 0 ∨ k.sz = 0 then none else some k
    | some k, some .string => if k.bytes = 0 ∨ k.sz = 0 then none else some k
    | _, _ => none
  | _, _ => none

end Go.Am
