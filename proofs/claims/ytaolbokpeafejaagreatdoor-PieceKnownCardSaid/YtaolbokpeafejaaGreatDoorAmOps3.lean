/-
  AM: loads, addresses, slices, conversions. (Lemmas alone; no program.)
-/
import Derived.Test.YtaolbokpeafejaaGreatDoorAmOps2
set_option linter.unusedVariables false
set_option linter.unusedSimpArgs false
namespace Go.Am
open Go Go.RowKit

variable {C : Ctx} {ρ : Pl} {σ : H} {w : World}

/-! ### Loads -/

def H.cell (σ : H) (a : PA) : Option V :=
  match σ.get a.id with
  | some (.row r) => if r.low ≤ a.ver ∧ a.off < a.ver then r.cells[a.off]? else none
  | _ => none

def H.cells (σ : H) (a : PA) (n : Nat) : Option (List V) :=
  match σ.get a.id with
  | some (.row r) => if r.low ≤ a.ver ∧ a.off + n ≤ a.ver then some ((r.cells.drop a.off).take n) else none
  | _ => none

theorem Place.at_add (p : Place) (o n : Nat) : (p.at o).add n = p.at (o + n) := by
  unfold Place.at Addr.add
  split
  · rename_i h; subst h; rfl
  · simp [Nat.add_assoc]

theorem Rel.cell_at {B : Nat} {W0 : World} (h : Rel B W0 ρ σ w) {a : PA} {v : V} {p : Place} (hc : σ.cell a = some v) (hp : ρ a.id a.ver = some p) :
    ∃ x, w.cell? (p.at a.off) = some x ∧ VR ρ v x := by
  unfold H.cell at hc
  split at hc
  · rename_i r hr
    split at hc
    · rename_i hlo
      have hv := h.vers _ _ _ _ hp hr
      obtain ⟨q, hq, hrow⟩ := h.row _ _ _ hr hlo.1 hv
      rw [hp] at hq; cases hq
      exact hrow.1 _ _ hlo.2 hc
    · simp at hc
  · simp at hc

theorem Rel.cells_at {B : Nat} {W0 : World} (h : Rel B W0 ρ σ w) {a : PA} {n : Nat} {vs : List V} {p : Place} (hc : σ.cells a n = some vs) (hp : ρ a.id a.ver = some p) :
    vs.length = n ∧ ∃ xs : List Value, xs.length = n ∧ VRs ρ vs xs ∧ ∀ (j : Nat) (x : Value), xs[j]? = some x → w.cell? ((p.at a.off).add j) = some x := by
  unfold H.cells at hc
  split at hc
  · rename_i r hr
    split at hc
    · rename_i hlo
      cases hc
      have hv := h.vers _ _ _ _ hp hr
      obtain ⟨q, hq, hrow⟩ := h.row _ _ _ hr hlo.1 hv
      rw [hp] at hq; cases hq
      have hlen : ((r.cells.drop a.off).take n).length = n := by simp; omega
      refine ⟨hlen, ?_⟩
      have key : ∀ j, j < n → ∃ x, w.cell? ((p.at a.off).add j) = some x ∧ ∀ c, r.cells[a.off + j]? = some c → VR ρ c x := by
        intro j hj
        have hlt : a.off + j < r.cells.length := by omega
        obtain ⟨x, hx, hvx⟩ := hrow.1 (a.off + j) _ (by omega) (List.getElem?_eq_getElem hlt)
        refine ⟨x, by rw [Place.at_add]; exact hx, fun c hc => ?_⟩
        rw [List.getElem?_eq_getElem hlt] at hc; cases hc; exact hvx
      refine ⟨(List.range n).map fun j => (w.cell? ((p.at a.off).add j)).getD undef, by simp, ?_, ?_⟩
      · apply VRs.of_get
        · simp; omega
        · intro i v hv'
          have hi : i < n := by have := (List.getElem?_eq_some_iff.1 hv').1; simp only [List.length_take] at this; omega
          obtain ⟨x, hx, hvx⟩ := key i hi
          refine ⟨x, by simp [hi, hx], hvx v ?_⟩
          rw [List.getElem?_take_of_lt hi, List.getElem?_drop] at hv'
          exact hv'
      · intro j x hj
        have hi : j < n := by rcases Nat.lt_or_ge j n with hh | hh; exact hh; simp [hh] at hj
        obtain ⟨y, hy, _⟩ := key j hi
        simp [hi, hy] at hj
        rw [hy, hj]
    · simp at hc
  · simp at hc

/-- A load through a pointer. -/
def ldP (G : Nat → List V) (σ : H) : Bool → Nat → V → Option V
  | false, _, .ptr a => σ.cell a
  | true, n, .ptr a => match σ.cells a n with
    | some vs => some (.agg vs)
    | none => none
  | false, _, .gp g o => (G g)[o]?
  | true, n, .gp g o => if o + n ≤ (G g).length then some (.agg (((G g).drop o).take n)) else none
  | _, _, _ => none

theorem Rl.glob_cell (h : Rl C ρ σ w) {g j : Nat} {v : V} (hg : (C.G g)[j]? = some v) : ∃ x, w.cell? ⟨g, j, none⟩ = some x ∧ VR ρ v x := by
  obtain ⟨hb, x, hx, hv⟩ := h.glob g j v hg
  exact ⟨x, by rw [h.below.cell hb]; exact hx, hv⟩

theorem ld_sound (h : Rl C ρ σ w) {t : TypeId} {b : Bool} {n : Nat} {v r : V} {x : Value} (hk : tk C.P t = some (b, n)) (hv : VR ρ v x) (hr : ldP C.G σ b n v = some r) :
    ∃ y, (Instr.loadAt t x).run C.P w = .ok y w ∧ VR ρ r y := by
  cases v <;> cases b <;> simp only [ldP] at hr <;> try (simp at hr; done)
  · obtain ⟨p, hp, rfl⟩ : ∃ p, ρ _ _ = some p ∧ x = _ := by simpa only [VR] using hv
    obtain ⟨y, hy, hvy⟩ := h.cell_at hr hp
    exact ⟨y, by simp [Instr.loadAt, Instr.sureAddr, loadVar, run_isAgg' hk, run_load, hy], hvy⟩
  · obtain ⟨p, hp, rfl⟩ : ∃ p, ρ _ _ = some p ∧ x = _ := by simpa only [VR] using hv
    split at hr
    · rename_i vs hvs
      cases hr
      obtain ⟨hl, xs, hxl, hrel, hc⟩ := h.cells_at hvs hp
      refine ⟨.agg xs.toArray, ?_, by simp only [VR]; exact ⟨_, rfl, by simpa using hrel⟩⟩
      have := run_loadCells_list (P := C.P) (w := w) _ xs hc
      rw [hxl] at this
      simp [Instr.loadAt, Instr.sureAddr, loadVar, run_isAgg' hk, run_sizeOf' hk, this]
    · simp at hr
  · rename_i g o
    simp only [VR] at hv; subst hv
    obtain ⟨y, hy, hvy⟩ := h.glob_cell hr
    exact ⟨y, by simp [Instr.loadAt, Instr.sureAddr, loadVar, run_isAgg' hk, run_load, hy], hvy⟩
  · rename_i g o
    simp only [VR] at hv; subst hv
    split at hr
    · rename_i hle
      cases hr
      have key : ∀ j, j < n → ∃ x, w.cell? ((⟨g, o, none⟩ : Addr).add j) = some x ∧ ∀ c, (C.G g)[o + j]? = some c → VR ρ c x := by
        intro j hj
        have hlt : o + j < (C.G g).length := by omega
        obtain ⟨x, hx, hvx⟩ := h.glob_cell (List.getElem?_eq_getElem hlt)
        refine ⟨x, ?_, fun c hc => ?_⟩
        · unfold Addr.add; split
          · rename_i e; subst e; exact hx
          · exact hx
        · rw [List.getElem?_eq_getElem hlt] at hc; cases hc; exact hvx
      have hxs : ∀ (j : Nat) (x : Value), ((List.range n).map fun j => (w.cell? ((⟨g, o, none⟩ : Addr).add j)).getD undef)[j]? = some x → w.cell? ((⟨g, o, none⟩ : Addr).add j) = some x := by
        intro j x hj
        have hi : j < n := by rcases Nat.lt_or_ge j n with hh | hh; exact hh; simp [hh] at hj
        obtain ⟨y, hy, _⟩ := key j hi
        simp [hi, hy] at hj
        rw [hy, hj]
      have := run_loadCells_list (P := C.P) (w := w) _ _ hxs
      simp only [List.length_map, List.length_range] at this
      refine ⟨_, by simp only [Instr.loadAt, Instr.sureAddr, loadVar, run_isAgg' hk, run_sizeOf' hk, this, Sem.run_bind, Sem.run_pure, Result.andThen_ok, if_true]; rfl, ?_⟩
      simp only [VR]
      refine ⟨_, rfl, ?_⟩
      apply VRs.of_get
      · simp; omega
      · intro i v hv'
        have hi : i < n := by have := (List.getElem?_eq_some_iff.1 hv').1; simp only [List.length_take] at this; omega
        obtain ⟨x, hx, hvx⟩ := key i hi
        refine ⟨x, by simp [hi, hx], hvx v ?_⟩
        rw [List.getElem?_take_of_lt hi, List.getElem?_drop] at hv'
        exact hv'
    · simp at hr

/-! ### Addresses -/

def addO (n : Nat) : V → Option V
  | .ptr a => some (.ptr { a with off := a.off + n })
  | .gp g o => some (.gp g (o + n))
  | _ => none

theorem addO_sound {n : Nat} {v r : V} {x : Value} (hv : VR ρ v x) (h : addO n v = some r) : ∃ a, x = .pointer (some a) ∧ VR ρ r (.pointer (some (a.add n))) := by
  cases v <;> simp [addO] at h
  · subst h
    simp only [VR] at hv ⊢
    obtain ⟨p, hp, rfl⟩ := hv
    exact ⟨_, rfl, p, hp, by rw [Place.at_add]⟩
  · subst h
    simp only [VR] at hv ⊢
    subst hv
    refine ⟨_, rfl, ?_⟩
    unfold Addr.add
    split
    · rename_i e; subst e; rfl
    · rfl

/-- A field's first cell, if it is of any size. -/
def fOff (P : Program) (s : TypeId) (i : Nat) : Option Nat :=
  match P.underlying s with
  | some (.struct fs) => match fs[i]? with
    | some f => match tk P f.type with
      | some (_, n) => if n = 0 then none else some f.offset
      | none => none
    | none => none
  | _ => none

theorem fld_sound {P : Program} {s : TypeId} {i n : Nat} {v r : V} {x : Value} (hf : fOff P s i = some n) (hv : VR ρ v x) (h : addO n v = some r) :
    ∃ y, (Instr.fieldAt s x i).run P w = .ok y w ∧ VR ρ r y := by
  obtain ⟨a, rfl, hr⟩ := addO_sound hv h
  unfold fOff at hf
  split at hf
  · rename_i fs hu
    split at hf
    · rename_i f hff
      split at hf
      · rename_i b m hk
        split at hf
        · simp at hf
        · rename_i hm
          cases hf
          exact ⟨_, by simp [Instr.fieldAt, run_underlying hu, hff, Instr.sureAddr, fieldPlace, run_sizeOf' hk, hm], hr⟩
      · simp at hf
    · simp at hf
  · simp at hf

/-- What kind of a thing is indexed: an array (its length, its elements' size) or a slice. -/
def ixK (P : Program) (t : TypeId) : Option (Option Nat × Nat) :=
  match P.underlying t with
  | some (.array n e) => match tk P e with
    | some (_, k) => some (some n, k)
    | none => none
  | some (.slice e) => match tk P e with
    | some (_, k) => some (none, k)
    | none => none
  | _ => none

def ixP (k : Option Nat × Nat) (x i : V) : Option V :=
  match i with
  | .int _ j => match k.1 with
    | some n => if 0 ≤ j ∧ j < n then addO (j.toNat * k.2) x else none
    | none => match x with
      | .slice a sz len _ _ => if sz = k.2 ∧ 0 ≤ j ∧ j < len then some (.ptr { a with off := a.off + j.toNat * k.2 }) else none
      | _ => none
  | _ => none

theorem ix_sound {P : Program} {t : TypeId} {k : Option Nat × Nat} {v i r : V} {x y : Value} (hk : ixK P t = some k) (hv : VR ρ v x) (hi : VR ρ i y) (h : ixP k v i = some r) :
    ∃ z, (Instr.indexAt t x y).run P w = .ok z w ∧ VR ρ r z := by
  unfold ixK at hk
  cases i <;> simp only [ixP] at h <;> try (simp at h; done)
  rename_i ik j
  simp only [VR] at hi; subst hi
  split at hk
  · rename_i n e hu
    split at hk
    · rename_i b m hm
      cases hk
      simp only at h
      split at h
      · rename_i hj
        obtain ⟨a, rfl, hr⟩ := addO_sound hv h
        exact ⟨_, by simp [Instr.indexAt, asIntOf, run_underlying hu, Instr.sureAddr, hj, run_sizeOf' hm], hr⟩
      · simp at h
    · simp at hk
  · rename_i e hu
    split at hk
    · rename_i b m hm
      cases hk
      simp only at h
      split at h
      · rename_i a sz len cb ex
        split at h
        · rename_i hj
          obtain ⟨rfl, hj⟩ := hj
          cases h
          simp only [VR] at hv ⊢
          obtain ⟨p, ad, c, hp, rfl, hlb, hbc, hver, hcap, _⟩ := hv
          have had : ad = p.at a.off := by
            rcases hcap with h0 | h0
            · omega
            · exact h0.1
          subst had
          refine ⟨.pointer (some ((p.at a.off).add (j.toNat * sz))), ?_, p, hp, by rw [Place.at_add]⟩
          simp [Instr.indexAt, asIntOf, run_underlying hu, hj, run_sizeOf' hm]
        · simp at h
      · simp at h
    · simp at hk
  · simp at hk

end Go.Am
