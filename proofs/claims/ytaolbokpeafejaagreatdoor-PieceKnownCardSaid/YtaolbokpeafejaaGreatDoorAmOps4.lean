/-
  AM: slicing, strings, conversions, building. (Lemmas alone; no program.)
-/
import Derived.Test.YtaolbokpeafejaaGreatDoorAmOps3
set_option linter.unusedVariables false
set_option linter.unusedSimpArgs false
namespace Go.Am
open Go Go.RowKit

variable {C : Ctx} {ρ : Pl} {σ : H} {w : World}

/-! ### Slicing -/

/-- A bound: what it is where it is left out, and how far it may go. -/
def bnd (x : Option V) (dflt ub : Nat) : Option Nat :=
  match x with
  | none => some dflt
  | some (.int _ i) => if 0 ≤ i ∧ i ≤ ub then some i.toNat else none
  | _ => none

/-- The operand of a bound, on both sides. -/
def BR (ρ : Pl) : Option V → Option Value → Prop
  | none, y => y = none
  | some v, y => ∃ x, y = some x ∧ VR ρ v x

def slRange (lo hi mx : Option V) (len ub : Nat) : Option (Nat × Nat × Option Nat) :=
  match mx with
  | none => match bnd hi len ub with
    | some h => match bnd lo 0 h with
      | some l => some (l, h, none)
      | none => none
    | none => none
  | some m => match bnd (some m) 0 ub with
    | some m => match hi with
      | none => none
      | some hv => match bnd (some hv) 0 m with
        | some h => match bnd lo 0 h with
          | some l => some (l, h, some m)
          | none => none
        | none => none
    | none => none

theorem bnd_some {x : V} {d ub n : Nat} (h : bnd (some x) d ub = some n) : ∃ k i, x = .int k i ∧ 0 ≤ i ∧ i ≤ ub ∧ n = i.toNat := by
  unfold bnd at h
  split at h
  · rename_i h'; simp at h'
  · rename_i k i h'
    cases h'
    split at h
    · rename_i hi; cases h; exact ⟨k, i, rfl, hi.1, hi.2, rfl⟩
    · simp at h
  · simp at h

theorem slRange_le {lo hi mx : Option V} {len ub l h : Nat} {m : Option Nat} (hle : len ≤ ub) (e : slRange lo hi mx len ub = some (l, h, m)) :
    l ≤ h ∧ h ≤ ub ∧ (∀ k, m = some k → h ≤ k ∧ k ≤ ub) := by
  have blo : ∀ h' l', bnd lo 0 h' = some l' → l' ≤ h' := by
    intro h' l' hb
    cases lo with
    | none => simp [bnd] at hb; omega
    | some x => obtain ⟨k, i, _, h0, h1, rfl⟩ := bnd_some hb; omega
  unfold slRange at e
  split at e
  · split at e
    · rename_i h' hh
      split at e
      · rename_i l' hl
        cases e
        refine ⟨blo _ _ hl, ?_, by simp⟩
        cases hi with
        | none => simp [bnd] at hh; omega
        | some x => obtain ⟨k, i, _, h0, h1, rfl⟩ := bnd_some hh; omega
      · simp at e
    · simp at e
  · split at e
    · rename_i m' hm
      split at e
      · simp at e
      · split at e
        · rename_i h' hh
          split at e
          · rename_i l' hl
            cases e
            obtain ⟨_, _, _, _, _, rfl⟩ := bnd_some hm
            obtain ⟨_, _, _, _, _, rfl⟩ := bnd_some hh
            refine ⟨blo _ _ hl, by omega, ?_⟩
            intro k hk; cases hk; omega
          · simp at e
        · simp at e
    · simp at e

theorem run_sliceBound'' {P : Program} {w : World} {x : V} {x' : Value} {d u u' n : Nat} (code : Instr.sliceBound = Instr.sliceBound := rfl) (hx : VR ρ x x') (hb : bnd (some x) d u = some n) (hu : u ≤ u') :
    ∀ c, (Instr.sliceBound x' u' c).run P w = .ok n w := by
  intro c
  obtain ⟨k, i, rfl, h0, hi, rfl⟩ := bnd_some hb
  simp only [VR] at hx; subst hx
  exact run_sliceBound _ _ _ _ _ h0 (by omega)

/-- What the model's bounds come to, at any greater capacity. -/
theorem run_sliceBounds' {P : Program} {lo hi mx : Option V} {lo' hi' mx' : Option Value} {len ub cap l h : Nat} {m : Option Nat} (s : Bool)
    (h1 : BR ρ lo lo') (h2 : BR ρ hi hi') (h3 : BR ρ mx mx') (hub : ub ≤ cap) (e : slRange lo hi mx len ub = some (l, h, m)) :
    (Instr.sliceBounds s len cap lo' hi' mx').run P w = .ok (l, h, m.getD cap) w := by
  unfold slRange at e
  split at e
  · simp only [BR] at h3; subst h3
    split at e
    · rename_i h' hh
      split at e
      · rename_i l' hl
        cases e
        cases hi with
        | none =>
          simp only [BR] at h2; subst h2
          simp [bnd] at hh; subst hh
          cases lo with
          | none => simp only [BR] at h1; subst h1; simp [bnd] at hl; subst hl; simp [Instr.sliceBounds]
          | some x => obtain ⟨x', rfl, hx⟩ := h1; simp [Instr.sliceBounds, run_sliceBound'' rfl hx hl (Nat.le_refl _)]
        | some y =>
          obtain ⟨y', rfl, hy⟩ := h2
          cases lo with
          | none => simp only [BR] at h1; subst h1; simp [bnd] at hl; subst hl; simp [Instr.sliceBounds, run_sliceBound'' rfl hy hh hub]
          | some x => obtain ⟨x', rfl, hx⟩ := h1; simp [Instr.sliceBounds, run_sliceBound'' rfl hy hh hub, run_sliceBound'' rfl hx hl (Nat.le_refl _)]
      · simp at e
    · simp at e
  · obtain ⟨m', rfl, hm'⟩ := h3
    split at e
    · rename_i mv hm
      split at e
      · simp at e
      · rename_i hv
        obtain ⟨hv', rfl, hhv⟩ := h2
        split at e
        · rename_i h' hh
          split at e
          · rename_i l' hl
            cases e
            cases lo with
            | none => simp only [BR] at h1; subst h1; simp [bnd] at hl; subst hl; simp [Instr.sliceBounds, run_sliceBound'' rfl hm' hm hub, run_sliceBound'' rfl hhv hh (Nat.le_refl _)]
            | some x => obtain ⟨x', rfl, hx⟩ := h1; simp [Instr.sliceBounds, run_sliceBound'' rfl hm' hm hub, run_sliceBound'' rfl hhv hh (Nat.le_refl _), run_sliceBound'' rfl hx hl (Nat.le_refl _)]
          · simp at e
        · simp at e
    · simp at e

/-- The kind of what is sliced: a string, a slice (its elements' size), an array behind a pointer (its length, its elements' size). -/
inductive SK where
  | str
  | sl (k : Nat)
  | arr (n k : Nat)

def slK (P : Program) (t : TypeId) : Option SK :=
  match P.underlying t with
  | some .string => some .str
  | some (.slice e) => match tk P e with
    | some (_, k) => some (.sl k)
    | none => none
  | some (.array n e) => match tk P e with
    | some (_, k) => some (.arr n k)
    | none => none
  | _ => none

def slP (k : SK) (x : V) (lo hi mx : Option V) : Option V :=
  match k, x with
  | .str, .str s => match mx with
    | none => match slRange lo hi none s.length s.length with
      | some (l, h, _) => some (.str ((s.drop l).take (h - l)))
      | none => none
    | some _ => none
  | .sl _, .nils => match slRange lo hi mx 0 0 with
    | some _ => some .nils
    | none => none
  | .sl k, .slice a sz len cb ex => if sz = k then match slRange lo hi mx len cb with
      | some (l, h, m) => some (.slice { a with off := a.off + l * sz } sz (h - l) (m.getD cb - l) (m.isSome || ex))
      | none => none
    else none
  | .arr n k, .ptr a => if a.off + n * k ≤ a.ver then match slRange lo hi mx n n with
      | some (l, h, m) => some (.slice { a with off := a.off + l * k } k (h - l) (m.getD n - l) true)
      | none => none
    else none
  | _, _ => none

theorem sl_sound (hR : Rl C ρ σ w) {t : TypeId} {k : SK} {v r : V} {x : Value} {lo hi mx : Option V} {lo' hi' mx' : Option Value} (hk : slK C.P t = some k) (hv : VR ρ v x)
    (h1 : BR ρ lo lo') (h2 : BR ρ hi hi') (h3 : BR ρ mx mx') (h : slP k v lo hi mx = some r) :
    ∃ z, (Instr.sliceAt t x lo' hi' mx').run C.P w = .ok z w ∧ VR ρ r z := by
  unfold slK at hk
  split at hk
  · rename_i hu
    cases hk
    cases v <;> simp only [slP] at h <;> try (simp at h; done)
    rename_i s
    split at h
    · simp only [BR] at h3; subst h3
      split at h
      · rename_i l hh m he
        cases h
        simp only [VR] at hv ⊢; subst hv
        obtain ⟨a1, a2, a3⟩ := slRange_le (Nat.le_refl _) he
        have hb := run_sliceBounds' (P := C.P) (w := w) (lo' := lo') (hi' := hi') (mx := none) (mx' := none) (cap := s.length) false h1 h2 (by simp only [BR]) (Nat.le_refl _) he
        refine ⟨_, ?_, rfl⟩
        have hsz : (⟨⟨s⟩⟩ : ByteArray).size = s.length := rfl
        simp only [Instr.sliceAt, Instr.slice, Sem.run_bind, run_underlying hu, Result.andThen_ok, Option.isSome_none, Bool.false_eq_true, if_false, hsz, hb, Sem.run_pure]
        congr 2
        apply ByteArray.ext
        rw [ByteArray.data_extract]
        apply Array.ext'
        simp [Array.toList_extract, List.extract_eq_take_drop]
      · simp at h
    · simp at h
  · rename_i e hu
    split at hk
    · rename_i b sz hz
      cases hk
      cases v <;> simp only [slP] at h <;> try (simp at h; done)
      · split at h
        · rename_i q he
          cases h
          obtain ⟨l, hh, m⟩ := q
          simp only [VR] at hv; subst hv
          obtain ⟨a1, a2, a3⟩ := slRange_le (Nat.le_refl _) he
          have hb := run_sliceBounds' (P := C.P) (w := w) (lo' := lo') (hi' := hi') (mx' := mx') (cap := 0) true h1 h2 h3 (Nat.le_refl _) he
          have hm0 : m.getD 0 = 0 := by cases m with | none => rfl | some k => have := a3 k rfl; simp; omega
          refine ⟨.slice none 0 0, ?_, by simp only [VR]⟩
          obtain rfl : l = 0 := by omega
          obtain rfl : hh = 0 := by omega
          simp [Instr.sliceAt, Instr.slice, run_underlying hu, hb, run_sizeOf' hz, hm0]
        · simp at h
      · rename_i a sz' len cb ex
        split at h
        · rename_i hsz
          subst hsz
          split at h
          · rename_i l hh m he
            cases h
            simp only [VR] at hv ⊢
            obtain ⟨p, ad, c, hp, rfl, hlb, hbc, hver, hcap, hex⟩ := hv
            obtain ⟨a1, a2, a3⟩ := slRange_le hlb he
            have hb := run_sliceBounds' (P := C.P) (w := w) (lo' := lo') (hi' := hi') (mx' := mx') (cap := c) true h1 h2 h3 hbc he
            have e1 : l * sz' ≤ hh * sz' := Nat.mul_le_mul_right _ a1
            have e2 : hh * sz' ≤ cb * sz' := Nat.mul_le_mul_right _ a2
            have hmge : hh ≤ m.getD c := by cases m with | none => simp; omega | some k => have := a3 k rfl; simp; omega
            have hmle : m.getD c ≤ c := by cases m with | none => simp | some k => have := a3 k rfl; simp; omega
            have hmb : hh ≤ m.getD cb ∧ m.getD cb ≤ cb ∧ m.getD cb ≤ m.getD c := by cases m with | none => simp; omega | some k => have := a3 k rfl; simp; omega
            refine ⟨_, by simp only [Instr.sliceAt, Instr.slice, Sem.run_bind, run_underlying hu, Result.andThen_ok, hb, run_sizeOf' hz, Sem.run_pure]; rfl, ?_⟩
            have e3 : (m.getD cb - l) * sz' = m.getD cb * sz' - l * sz' := Nat.sub_mul _ _ _
            have e7 : m.getD cb * sz' ≤ cb * sz' := Nat.mul_le_mul_right _ hmb.2.1
            have e8 : l * sz' ≤ m.getD cb * sz' := Nat.mul_le_mul_right _ (by omega)
            refine ⟨p, if m.getD c = l then ad else ad.add (l * sz'), m.getD c - l, hp, ?_, by omega, by omega, by omega, ?_, ?_⟩
            · split <;> simp
            · by_cases hml : m.getD c = l
              · left; omega
              · right
                rw [if_neg hml]
                rcases hcap with h0 | ⟨h0, h00⟩
                · omega
                · subst h0
                  refine ⟨by rw [Place.at_add], ?_⟩
                  have e4 : (m.getD c - l) * sz' = m.getD c * sz' - l * sz' := Nat.sub_mul _ _ _
                  have e5 : m.getD c * sz' ≤ c * sz' := Nat.mul_le_mul_right _ hmle
                  have e6 : l * sz' ≤ m.getD c * sz' := Nat.mul_le_mul_right _ (by omega)
                  omega
            · intro hn
              cases m with
              | some k => simp
              | none => simp at hn; simp [hex hn]
          · simp at h
        · simp at h
    · simp at hk
  · rename_i n e hu
    split at hk
    · rename_i b sz hz
      cases hk
      cases v <;> simp only [slP] at h <;> try (simp at h; done)
      rename_i a
      split at h
      · rename_i hav
        split at h
        · rename_i l hh m he
          cases h
          simp only [VR] at hv ⊢
          obtain ⟨p, hp, rfl⟩ := hv
          obtain ⟨a1, a2, a3⟩ := slRange_le (Nat.le_refl _) he
          have hb := run_sliceBounds' (P := C.P) (w := w) (lo' := lo') (hi' := hi') (mx' := mx') (cap := n) false h1 h2 h3 (Nat.le_refl _) he
          have hvc := (hR.dom _ _ _ hp).2.2
          have hmge : hh ≤ m.getD n := by cases m with | none => simp; omega | some k => have := a3 k rfl; simp; omega
          have hmle : m.getD n ≤ n := by cases m with | none => simp | some k => simpa using (a3 k rfl).2
          have e1 : l * sz ≤ hh * sz := Nat.mul_le_mul_right _ a1
          have e2 : hh * sz ≤ n * sz := Nat.mul_le_mul_right _ a2
          have e3 : (hh - l) * sz = hh * sz - l * sz := Nat.sub_mul _ _ _
          have e4 : (m.getD n - l) * sz = m.getD n * sz - l * sz := Nat.sub_mul _ _ _
          have e5 : m.getD n * sz ≤ n * sz := Nat.mul_le_mul_right _ hmle
          have e6 : l * sz ≤ m.getD n * sz := Nat.mul_le_mul_right _ (by omega)
          refine ⟨_, by simp only [Instr.sliceAt, Instr.sureAddr, Sem.run_bind, run_underlying hu, Result.andThen_ok, hb, run_sizeOf' hz, Sem.run_pure]; rfl, ?_⟩
          refine ⟨p, if m.getD n = l then p.at a.off else (p.at a.off).add (l * sz), m.getD n - l, hp, rfl, by omega, by omega, by omega, ?_, fun _ => rfl⟩
          by_cases hml : m.getD n = l
          · left; omega
          · right
            rw [if_neg hml]
            exact ⟨by rw [Place.at_add], by omega⟩
        · simp at h
      · simp at h
    · simp at hk
  · simp at hk

end Go.Am
