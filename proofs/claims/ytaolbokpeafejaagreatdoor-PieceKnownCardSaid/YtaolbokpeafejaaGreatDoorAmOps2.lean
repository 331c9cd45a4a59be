/-
  AM: types, parts, comparisons, loads, addresses. (Lemmas alone; no program.)
-/
import Derived.Test.YtaolbokpeafejaaGreatDoorAmOps
set_option linter.unusedVariables false
set_option linter.unusedSimpArgs false
namespace Go.Am
open Go Go.RowKit

/-- Of a type: is it a struct or an array; how many cells. -/
def tk (P : Program) (t : TypeId) : Option (Bool × Nat) :=
  match P.info? t with
  | none => none
  | some i => match P.underlying t with
    | some (.struct _) | some (.array _ _) => some (true, i.size)
    | some _ => some (false, i.size)
    | none => none

theorem tk_info {P : Program} {t : TypeId} {b : Bool} {n : Nat} (h : tk P t = some (b, n)) : ∃ i, P.info? t = some i ∧ i.size = n := by
  unfold tk at h
  split at h
  · simp at h
  · rename_i i hi
    refine ⟨i, hi, ?_⟩
    split at h <;> simp at h <;> exact h.2

theorem run_typeInfo' {P : Program} {t : TypeId} {i : TypeInfo} {w : World} (h : P.info? t = some i) : (typeInfo t).run P w = .ok i w := by
  simp [typeInfo, h]

theorem run_sizeOf' {P : Program} {t : TypeId} {b : Bool} {n : Nat} {w : World} (h : tk P t = some (b, n)) : (sizeOf t).run P w = .ok n w := by
  obtain ⟨i, hi, rfl⟩ := tk_info h
  simp [sizeOf, run_typeInfo' hi]

theorem run_isAgg' {P : Program} {t : TypeId} {b : Bool} {n : Nat} {w : World} (h : tk P t = some (b, n)) : (isAgg t).run P w = .ok b w := by
  unfold tk at h
  split at h
  · simp at h
  · split at h
    · rename_i f hf
      simp at h
      simp [isAgg, run_underlying hf, h.1]
    · rename_i f e hf
      simp at h
      simp [isAgg, run_underlying hf, h.1]
    · rename_i d h1 h2 hd
      simp at h
      obtain ⟨rfl, _⟩ := h
      simp only [isAgg, Sem.run_bind, run_underlying hd, Result.andThen_ok]
      cases d <;> first | rfl | exact absurd rfl (h1 _) | exact absurd rfl (h2 _ _)
    · simp at h

/-- A part of a value's cells. -/
def partV (P : Program) (t : TypeId) (cs : List V) (off : Nat) : Option V :=
  match tk P t with
  | some (true, n) => some (.agg ((cs.drop off).take n))
  | some (false, _) => cs[off]?
  | none => none

theorem run_part' {P : Program} {ρ : Pl} {t : TypeId} {cs : List V} {xs : Array Value} {off : Nat} {v : V} {w : World}
    (hx : VRs ρ cs xs.toList) (h : partV P t cs off = some v) : ∃ x, (part t xs off).run P w = .ok x w ∧ VR ρ v x := by
  unfold partV at h
  split at h
  · rename_i n hn
    cases h
    refine ⟨.agg (xs.extract off (off + n)), by simp [part, run_isAgg' hn, run_sizeOf' hn], ?_⟩
    simp only [VR]
    refine ⟨_, rfl, ?_⟩
    have := (hx.drop off).take n
    simpa [Array.toList_extract, List.extract_eq_take_drop] using this
  · rename_i n hn
    obtain ⟨x, e, hv⟩ := hx.get h
    refine ⟨x, ?_, hv⟩
    rw [Array.getElem?_toList] at e
    simp [part, run_isAgg' hn, e]
  · simp at h

/-! ### Equality -/

/-- What '==' goes by, of a type. -/
inductive TE where
  | bool | int | flt | str | ptr | sl | mp | fn | ifc
  | st (fs : List (TE × Bool × Nat × Nat))

def partA (agg : Bool) (off n : Nat) (cs : List V) : Option V :=
  match agg with
  | true => some (.agg ((cs.drop off).take n))
  | false => cs[off]?

mutual
def eqS : TE → V → V → Option Bool
  | .bool, .bool a, .bool b => some (decide (a = b))
  | .int, .int k a, .int k' b => if k = k' then some (decide (a = b)) else none
  | .flt, .flt k a, .flt k' b => if k = k' then some (Op.floatEq k a b) else none
  | .str, .str a, .str b => some (decide (a = b))
  | .ptr, .nilp, .nilp => some true
  | .ptr, .nilp, .ptr _ => some false
  | .ptr, .ptr _, .nilp => some false
  | .ptr, .nilp, .gp _ _ => some false
  | .ptr, .gp _ _, .nilp => some false
  | .sl, .nils, .nils => some true
  | .sl, .nils, .slice .. => some false
  | .sl, .slice .., .nils => some false
  | .mp, .nilm, .nilm => some true
  | .mp, .nilm, .map _ => some false
  | .mp, .map _, .nilm => some false
  | .fn, .nilf, .nilf => some true
  | .fn, .nilf, .func .. => some false
  | .fn, .func .., .nilf => some false
  | .ifc, .nili, .nili => some true
  | .ifc, .nili, .iface .. => some false
  | .ifc, .iface .., .nili => some false
  | .st fs, .agg xs, .agg ys => eqFs fs xs ys
  | _, _, _ => none
def eqFs : List (TE × Bool × Nat × Nat) → List V → List V → Option Bool
  | [], _, _ => some true
  | f :: fs, xs, ys =>
    match partA f.2.1 f.2.2.1 f.2.2.2 xs, partA f.2.1 f.2.2.1 f.2.2.2 ys with
    | some a, some b => (eqS f.1 a b).bind fun r => (eqFs fs xs ys).bind fun q => some (r && q)
    | _, _ => none
end

/-- The way of '==' at a type, to a depth. -/
def tyE (P : Program) : Nat → TypeId → Option TE
  | 0, _ => none
  | d + 1, t =>
    match P.underlying t with
    | some .bool => some .bool
    | some (.int _) => some .int
    | some (.float _) => some .flt
    | some .string => some .str
    | some (.pointer _) => some .ptr
    | some (.slice _) => some .sl
    | some (.map _ _) => some .mp
    | some (.func _ _ _) => some .fn
    | some (.interface _) => some .ifc
    | some (.struct fs) => if P.stoodInHeld t then none else
        (fs.toList.foldr (fun f acc => match acc with
          | none => none
          | some l => if f.name = "_" then some l else match tyE P d f.type, tk P f.type with
            | some e, some (b, n) => some ((e, b, f.offset, n) :: l)
            | _, _ => none) (some [])).map .st
    | _ => none

theorem beqd {α : Type} [BEq α] [LawfulBEq α] [DecidableEq α] (a b : α) : (a == b) = decide (a = b) := by
  rw [Bool.eq_iff_iff]; simp

set_option maxHeartbeats 4000000 in
theorem eqS_sound (P : Program) {ρ : Pl} : ∀ (d : Nat) (t : TypeId) (e : TE) (x y : V) (x' y' : Value) (w : World) (b : Bool),
    tyE P d t = some e → eqS e x y = some b → VR ρ x x' → VR ρ y y' → ∀ D, d ≤ D → (Op.equalIn D t x' y').run P w = .ok b w := by
  intro d
  induction d with
  | zero => intro t e x y x' y' w b h; simp [tyE] at h
  | succ d ih =>
    intro t e x y x' y' w b h hq hx hy D hD
    obtain ⟨D, rfl⟩ : ∃ m, D = m + 1 := ⟨D - 1, by omega⟩
    have hD' : d ≤ D := by omega
    unfold tyE at h
    split at h
    · rename_i hu; cases h; cases x <;> cases y <;> simp [eqS] at hq; simp only [VR] at hx hy; subst hx hy hq; simp [Op.equalIn, run_underlying hu, beqd]
    · rename_i k hu; cases h; cases x <;> cases y <;> simp [eqS] at hq; simp only [VR] at hx hy; subst hx hy; obtain ⟨rfl, rfl⟩ := hq; simp [Op.equalIn, run_underlying hu, beqd]
    · rename_i k hu; cases h; cases x <;> cases y <;> simp [eqS] at hq; simp only [VR] at hx hy; subst hx hy; obtain ⟨rfl, rfl⟩ := hq; simp [Op.equalIn, run_underlying hu, beqd]
    · rename_i hu; cases h; cases x <;> cases y <;> simp [eqS] at hq; simp only [VR] at hx hy; subst hx hy hq; simp [Op.equalIn, run_underlying hu, beq_toListBytes, ByteArray.toList_eq, beqd]
    · rename_i k hu; cases h; cases x <;> cases y <;> simp [eqS] at hq <;> simp only [VR] at hx hy <;> (try obtain ⟨p, _, rfl⟩ := hx) <;> (try obtain ⟨q, _, rfl⟩ := hy) <;> (try subst hx) <;> (try subst hy) <;> subst hq <;> simp [Op.equalIn, run_underlying hu]
    · rename_i k hu; cases h; cases x <;> cases y <;> simp [eqS] at hq <;> simp only [VR] at hx hy <;> (try obtain ⟨p, ad, c, _, rfl, _⟩ := hx) <;> (try obtain ⟨q, ad, c, _, rfl, _⟩ := hy) <;> (try subst hx) <;> (try subst hy) <;> subst hq <;> simp [Op.equalIn, run_underlying hu]
    · rename_i k u hu; cases h; cases x <;> cases y <;> simp [eqS] at hq <;> simp only [VR] at hx hy <;> (try obtain ⟨p, _, rfl⟩ := hx) <;> (try obtain ⟨q, _, rfl⟩ := hy) <;> (try subst hx) <;> (try subst hy) <;> subst hq <;> simp [Op.equalIn, run_underlying hu]
    · rename_i k u v hu; cases h; cases x <;> cases y <;> simp [eqS] at hq <;> simp only [VR] at hx hy <;> (try obtain ⟨p, q, rfl, _⟩ := hx) <;> (try obtain ⟨p, q, rfl, _⟩ := hy) <;> (try subst hx) <;> (try subst hy) <;> subst hq <;> simp [Op.equalIn, run_underlying hu]
    · rename_i k hu; cases h; cases x <;> cases y <;> simp [eqS] at hq <;> simp only [VR] at hx hy <;> (try obtain ⟨p, rfl, _⟩ := hx) <;> (try obtain ⟨p, rfl, _⟩ := hy) <;> (try subst hx) <;> (try subst hy) <;> subst hq <;> simp [Op.equalIn, run_underlying hu]
    · rename_i fs hu
      split at h
      · simp at h
      · rename_i hst
        have hst : P.stoodInHeld t = false := by simpa using hst
        obtain ⟨l, hl, rfl⟩ := Option.map_eq_some_iff.1 h
        cases x <;> cases y <;> simp [eqS] at hq
        rename_i xs ys
        simp only [VR] at hx hy
        obtain ⟨cx, rfl, hx⟩ := hx
        obtain ⟨cy, rfl, hy⟩ := hy
        have hf : P.fieldsOf t = fs := by simp [Program.fieldsOf, hu]
        rw [run_equalIn_struct (P := P) w D t cx cy (by rw [hf]; exact hu) hst, hf]
        clear h hu hf hst
        generalize fs.toList = fl at hl ⊢
        induction fl generalizing l b with
        | nil => simp at hl; subst hl; simp [eqFs] at hq; subst hq; simp [Op.eqFields]
        | cons f fl ih2 =>
          simp only [List.foldr_cons] at hl
          split at hl
          · simp at hl
          · rename_i l' hl'
            split at hl
            · rename_i hn
              cases hl
              simp only [Op.eqFields, hn, ne_eq, not_true_eq_false, if_false]
              exact ih2 b l hq hl'
            · rename_i hn
              split at hl
              · rename_i e bb n he hk
                cases hl
                simp only [eqFs] at hq
                split at hq
                · rename_i a c ha hc
                  obtain ⟨r, hr, hq⟩ := Option.bind_eq_some_iff.1 hq
                  obtain ⟨q, hq1, hq⟩ := Option.bind_eq_some_iff.1 hq
                  have pa : partV P f.type xs f.offset = some a := by simp only [partV, hk]; cases bb <;> simpa [partA] using ha
                  have pc : partV P f.type ys f.offset = some c := by simp only [partV, hk]; cases bb <;> simpa [partA] using hc
                  obtain ⟨a', ea, va⟩ := run_part' (w := w) hx pa
                  obtain ⟨c', ec, vc⟩ := run_part' (w := w) hy pc
                  simp only [Op.eqFields, ne_eq, hn, not_false_eq_true, if_true, Sem.run_bind, ea, ec, Result.andThen_ok, ih _ _ _ _ _ _ w r he hr va vc D hD']
                  cases hq
                  cases r
                  · simp
                  · simpa using ih2 q l' hq1 hl'
                · simp at hq
              · simp at hl
    · simp at h

end Go.Am
