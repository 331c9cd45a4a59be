/-
  AM: stores into rows; the operations that make a row. (Lemmas alone; no program.)
-/
import Derived.Test.YtaolbokpeafejaaGreatDoorAmMem
set_option linter.unusedVariables false
set_option linter.unusedSimpArgs false
namespace Go.Am
open Go Go.RowKit

variable {C : Ctx} {ρ : Pl} {σ : H} {w : World}

def H.store (σ : H) (a : PA) (vs : List V) : Option H :=
  match σ.get a.id with
  | some (.row r) => if r.own = true ∧ a.ver = r.cells.length ∧ a.off + vs.length ≤ a.ver ∧ vs.all V.one = true then
      some (σ.set a.id (.row { r with cells := splice r.cells a.off vs, low := a.ver })) else none
  | _ => none

theorem splice_get : ∀ (vs cs : List V) (off j : Nat), off + vs.length ≤ cs.length →
    (splice cs off vs)[j]? = if off ≤ j ∧ j < off + vs.length then vs[j - off]? else cs[j]?
  | [], cs, off, j, h => by simp [splice]; omega
  | v :: vs, cs, off, j, h => by
    simp only [List.length_cons] at h
    simp only [splice]
    rw [splice_get vs (cs.set off v) (off + 1) j (by simp; omega)]
    by_cases h1 : off = j
    · subst h1
      rw [if_neg (by omega), if_pos (by simp), List.getElem?_set_self (by omega)]
      simp
    · by_cases h2 : off + 1 ≤ j ∧ j < off + 1 + vs.length
      · rw [if_pos h2, if_pos (by simp; omega)]
        rw [show j - off = (j - (off + 1)) + 1 by omega, List.getElem?_cons_succ]
      · rw [if_neg h2, if_neg (by simp; omega)]
        simp [List.getElem?_set, h1]

theorem Rl.store (hR : Rl C ρ σ w) {a : PA} {vs : List V} {xs : List Value} {p : Place} {σ' : H} (h : σ.store a vs = some σ') (hp : ρ a.id a.ver = some p) (hv : VRs ρ vs xs) :
    (storeCells (p.at a.off) xs).run C.P w = .ok () (stores w (p.at a.off) xs) ∧ Rl C ρ σ' (stores w (p.at a.off) xs) := by
  unfold H.store at h
  split at h
  · rename_i r hr
    split at h
    · rename_i hc
      obtain ⟨hown, hver, hlen, hone⟩ := hc
      cases h
      have hl := hv.length
      obtain ⟨q, hq, hrow1, hrow2, hrow3⟩ := hR.row _ _ a.ver hr (by rw [hver]; exact hR.low _ _ hr) (by omega)
      rw [hp] at hq; cases hq
      obtain ⟨hB, hcap⟩ := hrow2 hown
      obtain ⟨hd1, hd2, hd3⟩ := hR.dom _ _ _ hp
      have hx1 : ∀ x, x ∈ xs → x.oneCell' = true := by
        intro x hx
        obtain ⟨i, hi⟩ := List.getElem?_of_mem hx
        obtain ⟨v, hvi, hvr⟩ := hv.get' hi
        exact V.one_rel hvr (List.all_eq_true.1 hone v (List.mem_of_getElem? hvi))
      have hcells : ∀ j, j < xs.length → (∃ y, w.cell? ⟨p.blk, p.off + a.off + j, none⟩ = some y) ∧ w.frozen? ⟨p.blk, p.off + a.off + j, none⟩ = false := by
        intro j hj
        have := hcap (a.off + j) (by omega)
        simpa [Place.at, Nat.add_assoc] using this
      refine ⟨?_, ?_⟩
      · have := run_stores (P := C.P) xs w p.blk (p.off + a.off) 0 hx1 (by simpa using hcells)
        simpa [Place.at] using this
      · have hsz := stores_size xs w (p.at a.off)
        have hother : ∀ k, k ≠ p.blk → (stores w (p.at a.off) xs).heap[k]? = w.heap[k]? := fun k hk => stores_block xs w (p.at a.off) k hk
        have hcell : ∀ j, (stores w (p.at a.off) xs).cell? (p.at j) = if a.off ≤ j ∧ j < a.off + xs.length then xs[j - a.off]? else w.cell? (p.at j) := by
          intro j
          have := stores_cell xs w p.blk (p.off + a.off) (p.off + j) (fun i hi => (hcells i hi).1)
          unfold Place.at
          rw [this]
          by_cases h1 : a.off ≤ j ∧ j < a.off + xs.length
          · rw [if_pos h1, if_pos (by omega)]; congr 1; omega
          · rw [if_neg h1, if_neg (by omega)]
        have hfr : ∀ b, (stores w (p.at a.off) xs).frozen? b = w.frozen? b := fun b => stores_frozen xs w _ b
        have hids : a.id < σ.size := H.get_lt hr
        refine { toRel := { below := stores_below xs w _ hB hR.below, base := by rw [hsz]; exact hR.base, dom := ?_, vers := ?_, low := ?_, row := ?_, disj := ?_, fr := ?_, same := hR.same, obj := ?_, dfr := ?_ }, glob := hR.glob, ext := hR.ext }
        · intro i v q hq
          obtain ⟨b1, b2, b3⟩ := hR.dom _ _ _ hq
          exact ⟨by simpa using b1, by rw [hsz]; exact b2, b3⟩
        · intro i v q r' hq hg
          rw [H.get_set] at hg
          split at hg
          · rename_i hi
            subst hi
            simp only [hids, if_true, Option.some.injEq, O.row.injEq] at hg
            subst hg
            simp only [splice_length]
            exact hR.vers _ _ _ _ hq hr
          · exact hR.vers _ _ _ _ hq hg
        · intro i r' hg
          rw [H.get_set] at hg
          split at hg
          · simp only [hids, if_true, Option.some.injEq, O.row.injEq] at hg
            subst hg
            simp only [splice_length]; omega
          · exact hR.low _ _ hg
        · intro i r' v hg hlo hvl
          rw [H.get_set] at hg
          split at hg
          · rename_i hi
            subst hi
            simp only [hids, if_true, Option.some.injEq, O.row.injEq] at hg
            subst hg
            simp only [splice_length] at hlo hvl
            obtain rfl : v = a.ver := by omega
            refine ⟨p, hp, ?_, ?_, ?_⟩
            · intro j c hj hcj
              simp only at hcj
              rw [splice_get _ _ _ _ (by omega)] at hcj
              rw [hcell]
              split at hcj
              · rename_i hjr
                rw [if_pos (by omega)]
                exact hv.get hcj
              · rename_i hjr
                rw [if_neg (by omega)]
                exact hrow1 j c hj hcj
            · intro _
              refine ⟨hB, fun j hj => ⟨?_, by rw [hfr]; exact (hcap j hj).2⟩⟩
              rw [hcell]
              split
              · rename_i hjr
                have : j - a.off < xs.length := by omega
                exact ⟨_, List.getElem?_eq_getElem this⟩
              · exact (hcap j hj).1
            · intro ho; simp only at ho; rw [hown] at ho; cases ho
          · rename_i hi
            obtain ⟨q, hq, hrow⟩ := hR.row _ _ _ hg hlo hvl
            refine ⟨q, hq, hrow.step (Ext.refl _) (hother _ ?_)⟩
            cases ho : r'.own with
            | true => exact fun e => hR.disj _ _ _ _ _ _ _ _ hi hp hq hr hg hown ho e.symm
            | false => have := hrow.2.2 ho; omega
        · intro i j v u q q' o o' hij hq hq' hg hg' ho ho'
          have conv : ∀ k o, (σ.set a.id (.row { r with cells := splice r.cells a.off vs, low := a.ver })).get k = some o → o.own = true → ∃ o2, σ.get k = some o2 ∧ o2.own = true := by
            intro k o hk hko
            rw [H.get_set] at hk
            split at hk
            · rename_i hkk; subst hkk; exact ⟨_, hr, hown⟩
            · exact ⟨o, hk, hko⟩
          obtain ⟨o2, hg2, ho2⟩ := conv _ _ hg ho
          obtain ⟨o3, hg3, ho3⟩ := conv _ _ hg' ho'
          exact hR.disj _ _ _ _ _ _ _ _ hij hq hq' hg2 hg3 ho2 ho3
        · intro i v q o hq hg ho
          rw [H.get_set] at hg
          split at hg
          · rename_i hi
            subst hi
            exact FrOk.stores xs _ (hR.fr _ _ _ _ hq hr hown)
          · exact FrOk.stores xs _ (hR.fr _ _ _ _ hq hg ho)
        · intro i o hg ho
          rw [H.get_set] at hg
          split at hg
          · simp only [hids, if_true, Option.some.injEq] at hg
            subst hg; simp [O.solid, O.isRow] at ho
          · obtain ⟨q, y, hq, hb, hh, hm⟩ := hR.obj _ _ hg ho
            exact ⟨q, y, hq, hb, stores_solid (hm.solid ho) xs w _ hh, hm⟩
        · intro b hb
          obtain ⟨h1, h2⟩ := hR.dfr b hb
          exact ⟨h1, stores_solid (by simp) xs w _ h2⟩
    · simp at h
  · simp at h

/-! ### The store -/

def stP (σ : H) (n : Nat) (x v : V) : Option H :=
  match x with
  | .ptr a => if v.cellsV.length = n then σ.store a v.cellsV else none
  | _ => none

theorem st_sound (hR : Rl C ρ σ w) {t : TypeId} {b : Bool} {n : Nat} {u v : V} {x y : Value} {σ' : H} (hk : tk C.P t = some (b, n)) (hx : VR ρ u x) (hy : VR ρ v y) (h : stP σ n u v = some σ') :
    ∃ w', (Instr.storeAt t x y).run C.P w = .ok () w' ∧ Rl C ρ σ' w' := by
  cases u <;> simp only [stP, reduceCtorEq] at h
  rename_i a
  split at h
  · rename_i hn
    simp only [VR] at hx
    obtain ⟨p, hp, rfl⟩ := hx
    have hc := cells_rel hy
    obtain ⟨h1, h2⟩ := hR.store h hp hc
    refine ⟨_, ?_, h2⟩
    have hl := hc.length
    have : y.cells.size = n := by rw [← hn]; simpa using hl.symm
    simp only [Instr.storeAt, Instr.sureAddr, Sem.run_bind, Sem.run_pure, Result.andThen_ok, storeVar, run_sizeOf' hk, this, ne_eq, not_true_eq_false, if_false]
    exact h1
  · simp at h

/-! ### New rows -/

/-- A new row of cells; its address. -/
def mkRow (σ : H) (e : TypeId) (cs : List V) : H := σ.push (.row { cells := cs, elem := e, low := cs.length, own := true })
def newPA (σ : H) (n : Nat) : PA := ⟨σ.size, 0, n⟩

theorem mkRow_sound (hR : Rl C ρ σ w) (e : TypeId) {cs : List V} {xs : Array Value} (hv : VRs ρ cs xs.toList) :
    ∃ ρ', Ext ρ ρ' ∧ Rl C ρ' (mkRow σ e cs) (w.alloc (.cells xs e)) ∧ VR ρ' (.ptr (newPA σ cs.length)) (.pointer (some ⟨w.heap.size, 0, none⟩)) ∧
      ρ' σ.size cs.length = some ⟨w.heap.size, 0, xs.size⟩ := by
  have hl := hv.length
  have hl' : cs.length = xs.size := by simpa using hl
  obtain ⟨h1, h2⟩ := hR.push_row { cells := cs, elem := e, low := cs.length, own := true } xs e rfl (Nat.le_refl _) (by simp only; omega) (by
    simp only; rw [List.take_of_length_le (by omega)]; exact hv)
  refine ⟨_, h2, h1, ?_, ?_⟩
  · simp only [VR, newPA]
    exact ⟨⟨w.heap.size, 0, xs.size⟩, by simp [Pl.new], by simp [Place.at]⟩
  · simp [Pl.new]

/-- The zero value of a type. -/
def zeroV (P : Program) (t : TypeId) : Option V :=
  match P.info? t with
  | some i => match i.zero with
    | some z => ofConst z
    | none => none
  | none => none

theorem zero_sound {P : Program} {t : TypeId} {v : V} (h : zeroV P t = some v) : ∃ z, (zeroValue t).run P w = .ok z w ∧ VR ρ v z := by
  unfold zeroV at h
  split at h
  · rename_i i hi
    split at h
    · rename_i z hz
      exact ⟨z, by simp [zeroValue, run_typeInfo' hi, hz], ofConst_sound h⟩
    · simp at h
  · simp at h

theorem box_sound (hR : Rl C ρ σ w) (e : TypeId) {v : V} {x : Value} (hv : VR ρ v x) :
    ∃ ρ' w' y, (Instr.box e x).run C.P w = .ok y w' ∧ Ext ρ ρ' ∧ Rl C ρ' (mkRow σ e v.cellsV) w' ∧ VR ρ' (.ptr (newPA σ v.cellsV.length)) y := by
  obtain ⟨ρ', h1, h2, h3, _⟩ := mkRow_sound hR e (cells_rel hv)
  exact ⟨ρ', _, _, by simp only [Instr.box, newVar, newRow, Sem.run_bind, run_newObj, Result.andThen_ok, Sem.run_pure]; rfl, h1, h2, h3⟩

theorem alloc_sound (hR : Rl C ρ σ w) (e : TypeId) {v : V} (hz : zeroV C.P e = some v) :
    ∃ ρ' w' y, (Instr.alloc e true (.tuple #[])).run C.P w = .ok y w' ∧ Ext ρ ρ' ∧ Rl C ρ' (mkRow σ e v.cellsV) w' ∧ VR ρ' (.ptr (newPA σ v.cellsV.length)) y := by
  obtain ⟨z, hzr, hv⟩ := zero_sound (w := w) (ρ := ρ) hz
  obtain ⟨ρ', h1, h2, h3, _⟩ := mkRow_sound hR e (cells_rel hv)
  exact ⟨ρ', _, _, by simp only [Instr.alloc, newVar, newRow, Sem.run_bind, hzr, run_newObj, Result.andThen_ok, Sem.run_pure]; rfl, h1, h2, h3⟩

end Go.Am
