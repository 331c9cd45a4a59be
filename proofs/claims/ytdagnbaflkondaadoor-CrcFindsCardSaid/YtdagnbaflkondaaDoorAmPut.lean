/-
  AM: rows of bytes that a call has made: made by make, written in place. (Lemmas alone; no program.)
-/
import Derived.Test.YtdagnbaflkondaaDoorAmWord
set_option linter.unusedVariables false
set_option linter.unusedSimpArgs false
namespace Go.Am
open Go Go.RowKit

/-- Slices of bytes that a call has made for itself. -/
abbrev OwnB (σ : H) (n0 : Nat) (v : V) (l : List UInt8) : Prop := Owns σ n0 1 v l.length (l.map bv)

abbrev kB : SlK := ⟨5, 1, 1, [.int .u8 0]⟩

theorem zeros_bytes : ∀ n, zeros kB n = (List.replicate n (0 : UInt8)).map bv
  | 0 => rfl
  | n + 1 => by
    simp only [zeros, List.replicate_succ, List.map_cons, zeros_bytes n]
    rfl

theorem make_bytes {σ : H} {n0 n : Nat} {ik jk : IntKind} {K : V → H → Prop} (hn : n0 ≤ σ.size) (hb : n ≤ 281474976710656)
    (hK : ∀ v σ', Grew σ σ' → OwnB σ' n0 v (List.replicate n 0) → K v σ') : makeX σ kB (.int ik n) (.int jk n) K := by
  have h : msP kB (.int ik n) (.int jk n) = some (n, n) := by
    simp only [msP]
    rw [if_pos ⟨by omega, by omega, by simp; omega, by omega⟩]
    simp
  refine ⟨(n, n), h, ?_⟩
  refine hK _ _ (Grew.mkRow _ _ _) ⟨by simp, .inr ⟨σ.size, { cells := zeros kB n, elem := 5, low := (zeros kB n).length, own := true }, true, by simp [newPA], hn, H.get_push_self _ _, zeros_bytes n, rfl, ?_⟩⟩
  simp [zeros_bytes]

theorem splice_one : ∀ (l : List V) (i : Nat) (v : V), splice l i [v] = l.set i v := by
  intro l i v
  simp [splice]

/-- A byte is written into a row of the call's own. -/
theorem OwnB.put {σ : H} {n0 : Nat} {v : V} {l : List UInt8} (hO : OwnB σ n0 v l) {ik : IntKind} {i : Nat} (hi : i < l.length) (b : UInt8) :
    ∃ a σ', ixP (none, 1) v (.int ik i) = some (.ptr a) ∧ σ.cell a = some (bv l[i]) ∧ stP σ 1 (.ptr a) (bv b) = some σ' ∧ OwnB σ' n0 v (l.set i b) ∧ σ'.size = σ.size ∧
      n0 ≤ a.id ∧ (∀ j, j ≠ a.id → σ'.get j = σ.get j) ∧ (∀ p s n c e, v = .slice p s n c e → p.id = a.id) := by
  have hB : Bytes σ v l := hO.bytes
  obtain ⟨a', ha', hc'⟩ := hB.at (ik := ik) hi
  obtain ⟨hl, ⟨rfl, h0⟩ | ⟨id, r, ex, rfl, hid, hr, hcs, hown, hlow⟩⟩ := hO
  · omega
  · have hrl : r.cells.length = l.length := by rw [hcs]; simp
    refine ⟨⟨id, i, l.length⟩, σ.set id (.row { r with cells := r.cells.set i (bv b), low := l.length }), ?_, ?_, ?_, ?_, ?_, hid, ?_, ?_⟩
    · rw [ix_sl, if_pos ⟨rfl, by omega, by omega⟩]; simp
    · unfold H.cell
      simp only [hr]
      rw [if_pos ⟨by omega, hi⟩, hcs]
      simp [hi]
    · simp only [stP, V.cellsV, bv, List.length_singleton, if_true]
      unfold H.store
      simp only [hr]
      rw [if_pos ⟨hown, by rw [hrl], by simp; omega, by simp [V.one]⟩, splice_one]
    · refine ⟨by simp, .inr ⟨id, _, ex, by simp, hid, H.get_set_self _ (H.get_lt hr), ?_, hown, by simp⟩⟩
      simp only [hcs, List.map_set]
    · simp
    · intro j hj
      exact H.get_set_ne _ _ (fun e => hj e.symm)
    · intro p s n c e h
      cases h
      rfl
end Go.Am
