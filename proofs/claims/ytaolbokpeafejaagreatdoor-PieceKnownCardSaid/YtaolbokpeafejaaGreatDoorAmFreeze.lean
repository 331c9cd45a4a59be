/-
  AM: the conversion of bytes that are written out: a mark behind the row. (Lemmas alone; no program.)
-/
import Derived.Test.YtaolbokpeafejaaGreatDoorAmMem5
set_option linter.unusedVariables false
set_option linter.unusedSimpArgs false
namespace Go.Am
open Go Go.RowKit

variable {C : Ctx} {ρ : Pl} {σ : H} {w : World}

theorem freeze_heap_other (w : World) (a : Addr) (n k : Nat) (h : k ≠ a.block) : (w.freeze a n).heap[k]? = w.heap[k]? := by
  unfold World.freeze
  split
  · rfl
  · simp only [Array.getElem?_modify]
    rw [if_neg (fun e => h e.symm)]

theorem freeze_size (w : World) (a : Addr) (n : Nat) : (w.freeze a n).heap.size = w.heap.size := by
  unfold World.freeze
  split <;> simp

theorem freeze_row {w : World} {b : Nat} {cs : Array Value} {e : TypeId} {lo hi : Nat} (h : w.heap[b]? = some (.cells cs e (lo, hi))) :
    (w.freeze ⟨b, cs.size, none⟩ 1).heap[b]? = some (.cells cs e (if lo == hi then (cs.size, cs.size + 1) else (min lo cs.size, max hi (cs.size + 1)))) := by
  unfold World.freeze
  rw [if_neg (by decide)]
  simp only [Array.getElem?_modify, if_true, h, Option.map_some]

theorem Rl.freeze (hR : Rl C ρ σ w) {i v : Nat} {p : Place} {r : Row} {cs : Array Value} {e : TypeId} {fr : Nat × Nat} (hr : σ.get i = some (.row r)) (hown : r.own = true) (hlv : r.low ≤ v) (hp : ρ i v = some p)
    (hb : w.heap[p.blk]? = some (.cells cs e fr)) : Rl C ρ σ (w.freeze ⟨p.blk, cs.size, none⟩ 1) := by
  obtain ⟨lo, hi⟩ := fr
  have hfr := hR.fr _ _ _ _ hp hr hown cs e lo hi hb
  have hnew := freeze_row hb
  have hother : ∀ k, k ≠ p.blk → (w.freeze ⟨p.blk, cs.size, none⟩ 1).heap[k]? = w.heap[k]? := fun k hk => freeze_heap_other w _ 1 k hk
  have hB : C.B ≤ p.blk := by
    obtain ⟨q', hq', _, h2', _⟩ := hR.row _ _ _ hr hlv (hR.vers _ _ _ _ hp hr)
    rw [hp] at hq'; cases hq'
    exact (h2' hown).1
  have hcell : ∀ a, (w.freeze ⟨p.blk, cs.size, none⟩ 1).cell? a = w.cell? a := by
    intro a
    by_cases ha : a.block = p.blk
    · simp only [World.cell?, ha, hnew, hb]
    · exact World.cell?_of_block (w := w) (hother _ ha)
  have hfrz : ∀ a x, w.cell? a = some x → w.frozen? a = false → (w.freeze ⟨p.blk, cs.size, none⟩ 1).frozen? a = false := by
    intro a x hx hf
    by_cases ha : a.block = p.blk
    · simp only [World.cell?, ha, hb] at hx
      simp only [World.frozen?, ha, hb] at hf
      simp only [World.frozen?, ha, hnew]
      split at hx
      · cases hx
      · have hlt : a.off < cs.size := by
          rcases Nat.lt_or_ge a.off cs.size with h | h
          · exact h
          · rw [Array.getElem?_eq_none h] at hx; cases hx
        split
        · simp only [Bool.and_eq_false_iff, decide_eq_false_iff_not]; left; omega
        · rename_i hne
          have hne : lo ≠ hi := by simpa using hne
          have hlo : cs.size ≤ lo := hfr.resolve_left hne
          simp only [Bool.and_eq_false_iff, decide_eq_false_iff_not]; left; omega
    · rw [World.frozen?_of_block (w := w) (hother _ ha)]; exact hf
  refine { toRel := { below := ?_, base := by rw [freeze_size]; exact hR.base, dom := ?_, vers := hR.vers, low := hR.low, row := ?_, disj := hR.disj, fr := ?_, same := hR.same, obj := ?_, dfr := ?_ }, glob := hR.glob, ext := hR.ext }
  · refine hR.below.trans ⟨?_, ?_, ?_, by rw [freeze_size]; exact Nat.le_refl _, fun k hk => hother k (by omega)⟩ <;> (unfold World.freeze; rw [if_neg (by decide)])
  · intro j u q hq
    obtain ⟨a1, a2, a3⟩ := hR.dom _ _ _ hq
    exact ⟨a1, by rw [freeze_size]; exact a2, a3⟩
  · intro j r' u hg hl hu
    obtain ⟨q, hq, g1, g2, g3⟩ := hR.row _ _ _ hg hl hu
    refine ⟨q, hq, fun k c hk hc => ?_, fun ho => ?_, g3⟩
    · obtain ⟨x, hx1, hx2⟩ := g1 k c hk hc
      exact ⟨x, by rw [hcell]; exact hx1, hx2⟩
    · obtain ⟨b1, b2⟩ := g2 ho
      refine ⟨b1, fun k hk => ?_⟩
      obtain ⟨⟨x, hx⟩, hf⟩ := b2 k hk
      exact ⟨⟨x, by rw [hcell]; exact hx⟩, hfrz _ x hx hf⟩
  · intro j u q o hq hg ho
    intro cs' e' lo' hi' hh
    by_cases hqb : q.blk = p.blk
    · rw [hqb, hnew] at hh
      split at hh
      · cases hh; right; exact Nat.le_refl _
      · rename_i hne
        have hne : lo ≠ hi := by simpa using hne
        have hlo : cs.size ≤ lo := hfr.resolve_left hne
        cases hh; right; omega
    · rw [hother _ hqb] at hh
      exact hR.fr _ _ _ _ hq hg ho cs' e' lo' hi' hh
  · intro j o hg ho
    obtain ⟨q, x, hq, hb', hh, hm⟩ := hR.obj _ _ hg ho
    refine ⟨q, x, hq, hb', ?_, hm⟩
    by_cases hqb : q.blk = p.blk
    · rw [hqb, hb] at hh; cases hh; exact absurd rfl (hm.solid ho _ _ _)
    · rw [hother _ hqb]; exact hh
  · intro b hb2
    obtain ⟨h1, h2⟩ := hR.dfr b hb2
    refine ⟨h1, ?_⟩
    by_cases hqb : b = p.blk
    · rw [hqb, hb] at h2; cases h2
    · rw [hother _ hqb]; exact h2

def H.isOwn (σ : H) (a : PA) : Bool :=
  match σ.get a.id with
  | some (.row r) => r.own && decide (r.low ≤ a.ver)
  | _ => false

def frzX (σ : H) (v : V) (K : V → H → Prop) : Prop :=
  match v with
  | .slice a sz len cb ex => if σ.isOwn a = true ∧ 0 < cb ∧ 0 < sz then K (.slice a sz len cb ex) σ else False
  | _ => False

theorem frz_sound (hR : Rl C ρ σ w) {t e : TypeId} {v : V} {x : Value} {K : V → H → Prop} (hu : C.P.underlying t = some (.slice e)) (he : C.P.underlying e = some (.int .u8)) (hv : VR ρ v x) (h : frzX σ v K) :
    ∃ w', (convert t t x).run C.P w = .ok x w' ∧ Rl C ρ σ w' ∧ K v σ := by
  unfold frzX at h
  split at h
  · rename_i a sz len cb ex
    split at h
    · rename_i hc
      obtain ⟨hown, hcb, hsz⟩ := hc
      simp only [VR] at hv
      obtain ⟨p, ad, c, hp, rfl, hlb, hbc, hver, hcap, hex⟩ := hv
      rcases hcap with h0 | ⟨h0, h00⟩
      · omega
      subst h0
      unfold H.isOwn at hown
      split at hown
      · rename_i r hr
        simp only [Bool.and_eq_true, decide_eq_true_eq] at hown
        obtain ⟨hown, hl⟩ := hown
        -- the block is a row of cells
        have hcell : ∃ cs e fr, w.heap[p.blk]? = some (.cells cs e fr) := by
          have hlow := hR.low _ _ hr
          obtain ⟨q, hq, g1, g2, g3⟩ := hR.row _ _ a.ver hr hl (hR.vers _ _ _ _ hp hr)
          rw [hp] at hq; cases hq
          have hpos : 0 < cb * sz := Nat.mul_pos hcb hsz
          obtain ⟨⟨x, hx⟩, _⟩ := (g2 hown).2 0 (by have := (hR.dom _ _ _ hp).2.2; omega)
          unfold World.cell? at hx
          split at hx
          · rename_i cs e fr hb; exact ⟨cs, e, fr, hb⟩
          · cases hx
        obtain ⟨cs, e', fr, hb⟩ := hcell
        refine ⟨w.freeze ⟨p.blk, cs.size, none⟩ 1, ?_, hR.freeze hr hown hl hp hb, h⟩
        have hshape : w.shape? p.blk = some (e', cs.size) := by simp [World.shape?, hb]
        simp only [convert, Sem.run_bind, run_underlying hu, run_underlying he, Result.andThen_ok, beq_self_eq_true, markStringish, run_shape, Place.at, hshape, run_freeze, Sem.run_pure]
      · cases hown
    · exact h.elim
  · exact h.elim

end Go.Am
