/-
  AM: the other operations that only read. (Lemmas alone; no program.)
-/
import Derived.Test.YtaolbokpeafejaaGreatDoorAmOps4
set_option linter.unusedVariables false
set_option linter.unusedSimpArgs false
namespace Go.Am
open Go Go.RowKit

variable {C : Ctx} {ρ : Pl} {σ : H} {w : World}

/-! ### Building -/

def V.cellsV : V → List V
  | .agg cs => cs
  | v => [v]

theorem cells_of_not {x : Value} (h : ∀ c, x ≠ .agg c) : x.cells = #[x] := by
  cases x <;> first | rfl | exact absurd rfl (h _)

theorem cells_rel {v : V} {x : Value} (h : VR ρ v x) : VRs ρ v.cellsV x.cells.toList := by
  have key : (∀ c, x ≠ .agg c) → v.cellsV = [v] → VRs ρ v.cellsV x.cells.toList := by
    intro h1 h2
    rw [h2, cells_of_not h1]
    simp only [VRs]
    exact ⟨x, [], rfl, h, rfl⟩
  have hh := h
  cases v <;> simp only [VR] at hh
  case agg cs =>
    obtain ⟨c, rfl, hc⟩ := hh
    exact hc
  all_goals
    refine key ?_ rfl
    intro c e
    subst e
    first | (cases hh; done) | (obtain ⟨_, _, hh⟩ := hh; cases hh; done) | (obtain ⟨_, hh, _⟩ := hh; cases hh; done) | (obtain ⟨_, _, hh, _⟩ := hh; cases hh; done) | (obtain ⟨_, _, _, _, hh, _⟩ := hh; cases hh; done)

inductive All2 {α β : Type} (R : α → β → Prop) : List α → List β → Prop where
  | nil : All2 R [] []
  | cons {a b as bs} : R a b → All2 R as bs → All2 R (a :: as) (b :: bs)

def splice : List V → Nat → List V → List V
  | cs, _, [] => cs
  | cs, off, v :: vs => splice (cs.set off v) (off + 1) vs

theorem splice_length : ∀ (vs cs : List V) (off : Nat), (splice cs off vs).length = cs.length
  | [], cs, off => rfl
  | v :: vs, cs, off => by simp [splice, splice_length vs]

theorem splice_rel : ∀ (vs : List V) (ys : List Value) (cs : List V) (xs : Array Value) (off i : Nat), VRs ρ vs ys → VRs ρ cs xs.toList →
    VRs ρ (splice cs (off + i) vs) ((ys.zipIdx i).foldl (fun (cs : Array Value) (p : Value × Nat) => cs.setIfInBounds (off + p.2) p.1) xs).toList
  | [], ys, cs, xs, off, i, h1, h2 => by simp only [VRs] at h1; subst h1; simpa [splice] using h2
  | v :: vs, ys, cs, xs, off, i, h1, h2 => by
    simp only [VRs] at h1
    obtain ⟨y, ys', rfl, hv, hvs⟩ := h1
    simp only [List.zipIdx_cons, List.foldl_cons, splice]
    have := splice_rel vs ys' (cs.set (off + i) v) (xs.setIfInBounds (off + i) y) off (i + 1) hvs (by simpa using h2.set hv)
    simpa [Nat.add_assoc] using this

def fillV (cells : List V) : List (Nat × Nat × V) → Option (List V)
  | [] => some cells
  | (off, n, v) :: ps =>
    if v.cellsV.length = n ∧ off + n ≤ cells.length then fillV (splice cells off v.cellsV) ps else none

theorem fill_sound {place : Nat → Option (Nat × Nat)} : ∀ (ps : List (Nat × Nat × V)) (qs : List (Nat × Value)) (cells : List V) (xs : Array Value) (r : List V),
    All2 (fun (p : Nat × Nat × V) (q : Nat × Value) => place q.1 = some (p.1, p.2.1) ∧ VR ρ p.2.2 q.2) ps qs → VRs ρ cells xs.toList → fillV cells ps = some r →
    ∃ ys, Instr.fill place xs qs = some ys ∧ VRs ρ r ys.toList
  | [], qs, cells, xs, r, hp, hc, h => by
    cases hp
    simp only [fillV, Option.some.injEq] at h
    subst h
    exact ⟨xs, rfl, hc⟩
  | (off, n, v) :: ps, qs, cells, xs, r, hp, hc, h => by
    cases hp with
    | cons h1 h2 =>
      rename_i q qs
      obtain ⟨i, x⟩ := q
      simp only at h1
      simp only [fillV] at h
      split at h
      · rename_i hn
        have hcr := cells_rel h1.2
        have hl := hcr.length
        have hl2 := hc.length
        have hl3 : xs.size = cells.length := by simpa using hl2.symm
        have hl4 : x.cells.size = n := by rw [← hn.1]; simpa using hl.symm
        have hsp := splice_rel v.cellsV x.cells.toList cells xs off 0 hcr hc
        obtain ⟨ys, hy, hr⟩ := fill_sound ps qs _ ((x.cells.zipIdx).foldl (fun (cs : Array Value) (p : Value × Nat) => cs.setIfInBounds (off + p.2) p.1) xs) r h2 (by
          rw [← Array.foldl_toList, Array.toList_zipIdx]; exact hsp) h
        refine ⟨ys, ?_, hr⟩
        simp only [Instr.fill, h1.1]
        rw [if_neg (by simp [hl4]; omega)]
        exact hy
      · simp at h

/-- How a struct or an array is built: its zero cells, where each part lies. -/
def bdK (P : Program) (t : TypeId) : Option (List V × (Nat → Option (Nat × Nat))) :=
  match P.info? t with
  | none => none
  | some i => match i.zero with
    | none => none
    | some z => match ofConsts1 z.cells.toList with
      | none => none
      | some zs => match P.underlying t with
        | some (.struct fs) => if fs.toList.all (fun f => (tk P f.type).isSome) = false then none else some (zs, fun j => match fs[j]? with
          | some f => match tk P f.type with
            | some (_, n) => some (f.offset, n)
            | none => none
          | none => none)
        | some (.array _ e) => match tk P e with
          | some (_, n) => some (zs, fun j => some (j * n, n))
          | none => none
        | _ => none

def places (pl : Nat → Option (Nat × Nat)) : List (Nat × V) → Option (List (Nat × Nat × V))
  | [] => some []
  | (i, v) :: ps => match pl i, places pl ps with
    | some (o, n), some qs => some ((o, n, v) :: qs)
    | _, _ => none

def bdV (k : List V × (Nat → Option (Nat × Nat))) (ps : List (Nat × V)) : Option V :=
  match places k.2 ps with
  | some qs => match fillV k.1 qs with
    | some cs => some (.agg cs)
    | none => none
  | none => none

theorem places_rel {pl : Nat → Option (Nat × Nat)} {place : Nat → Option (Nat × Nat)} (hpl : ∀ i q, pl i = some q → place i = some q) : ∀ (ps : List (Nat × V)) (qs : List (Nat × Nat × V)) (xs : List (Nat × Value)),
    places pl ps = some qs → All2 (fun (p : Nat × V) (q : Nat × Value) => p.1 = q.1 ∧ VR ρ p.2 q.2) ps xs →
    All2 (fun (p : Nat × Nat × V) (q : Nat × Value) => place q.1 = some (p.1, p.2.1) ∧ VR ρ p.2.2 q.2) qs xs
  | [], qs, xs, h, hr => by simp only [places, Option.some.injEq] at h; subst h; cases hr; exact .nil
  | (i, v) :: ps, qs, xs, h, hr => by
    simp only [places] at h
    split at h
    · rename_i o n qs' h1 h2
      cases h
      cases hr with
      | cons hh ht =>
        refine .cons ⟨?_, hh.2⟩ (places_rel hpl ps qs' _ h2 ht)
        have := hpl _ _ h1
        rw [← hh.1]; exact this
    · simp at h

theorem run_mapM_list {P : Program} {w : World} {α β : Type} (f : α → Sem β) (g : α → β) : ∀ (xs : List α), (∀ x, x ∈ xs → (f x).run P w = .ok (g x) w) →
    (xs.mapM f).run P w = .ok (xs.map g) w
  | [], _ => by simp
  | x :: xs, h => by
    have hx := h x (by simp)
    have ih := run_mapM_list f g xs (fun y hy => h y (by simp [hy]))
    simp [List.mapM_cons, hx, ih]

theorem run_mapM_array {P : Program} {w : World} {α β : Type} (f : α → Sem β) (g : α → β) (xs : Array α) (h : ∀ x, x ∈ xs.toList → (f x).run P w = .ok (g x) w) :
    (xs.mapM f).run P w = .ok (xs.map g) w := by
  rw [Array.mapM_eq_mapM_toList]
  simp only [Sem.run_map, Sem.run_bind, run_mapM_list f g xs.toList h, Result.andThen_ok, Sem.run_pure]
  congr 1
  apply Array.ext'
  simp

theorem bd_sound {P : Program} {t : TypeId} {k : List V × (Nat → Option (Nat × Nat))} {ps : List (Nat × V)} {xs : Array (Nat × Value)} {r : V}
    (hk : bdK P t = some k) (hp : All2 (fun (p : Nat × V) (q : Nat × Value) => p.1 = q.1 ∧ VR ρ p.2 q.2) ps xs.toList) (h : bdV k ps = some r) :
    ∃ y, (Instr.build t xs).run P w = .ok y w ∧ VR ρ r y := by
  unfold bdK at hk
  split at hk
  · simp at hk
  · rename_i i hi
    split at hk
    · simp at hk
    · rename_i z hz
      split at hk
      · simp at hk
      · rename_i zs hzs
        have hzr : VRs ρ zs z.cells.toList := ofConsts1_sound hzs
        have hzero : (zeroValue t).run P w = .ok z w := by simp [zeroValue, run_typeInfo' hi, hz]
        unfold bdV at h
        split at h
        · rename_i qs hqs
          split at h
          · rename_i cs hcs
            cases h
            split at hk
            · rename_i fs hu
              split at hk
              · simp at hk
              · rename_i hall
                have hall : ∀ (f : Field), f ∈ fs.toList → (tk P f.type).isSome = true := List.all_eq_true.1 (by simpa only [Bool.not_eq_false] using hall)
                cases hk
                have hm : (fs.mapM fun (f : Field) => (do pure (f.offset, ← sizeOf f.type) : Sem (Nat × Nat))).run P w = .ok (fs.map fun (f : Field) => (f.offset, ((tk P f.type).map (·.2)).getD 0)) w := by
                  apply run_mapM_array
                  intro f hf
                  obtain ⟨⟨b, n⟩, hbn⟩ := Option.isSome_iff_exists.1 (hall f hf)
                  simp [run_sizeOf' hbn, hbn]
                have hpl : ∀ (i : Nat) (q : Nat × Nat), (match fs[i]? with
                    | some f => match tk P f.type with
                      | some (_, n) => some (f.offset, n)
                      | none => none
                    | none => none) = some q → ((fs.map fun (f : Field) => (f.offset, ((tk P f.type).map (·.2)).getD 0))[·]?) i = some q := by
                  intro i q hq
                  split at hq
                  · rename_i f hf
                    split at hq
                    · rename_i b n hbn
                      cases hq
                      simp [hf, hbn]
                    · simp at hq
                  · simp at hq
                have hpr := places_rel hpl ps qs xs.toList hqs hp
                obtain ⟨ys, hys, hyr⟩ := fill_sound (ρ := ρ) qs xs.toList zs z.cells cs hpr hzr hcs
                refine ⟨.agg ys, ?_, by simp only [VR]; exact ⟨ys, rfl, hyr⟩⟩
                simp only [Instr.build, Sem.run_bind, hzero, Result.andThen_ok, run_underlying hu, hm]
                simp only [hys]
                rfl
            · rename_i n e hu
              split at hk
              · rename_i b m hm
                cases hk
                have hpr := places_rel (place := fun i => some (i * m, m)) (fun i q hq => hq) ps qs xs.toList hqs hp
                obtain ⟨ys, hys, hyr⟩ := fill_sound (ρ := ρ) (place := fun i => some (i * m, m)) qs xs.toList zs z.cells cs hpr hzr hcs
                refine ⟨.agg ys, ?_, by simp only [VR]; exact ⟨ys, rfl, hyr⟩⟩
                simp only [Instr.build, Sem.run_bind, hzero, Result.andThen_ok, run_underlying hu, run_sizeOf' hm]
                simp only [hys]
                rfl
              · simp at hk
            · simp at hk
          · simp at h
        · simp at h

/-! ### Single values -/

def unP (op : UnOp) (x : V) : Option V :=
  match op, x with
  | .neg, .int k n => some (.int k (k.wrap (0 - n)))
  | .xor, .int k n => some (.int k (bitI .xor k (if k.signed then -1 else k.max) n))
  | .not, .bool b => some (.bool (!b))
  | .neg, .flt k b => some (.flt k (Op.negFloat k b))
  | _, _ => none

theorem un_sound {P : Program} {op : UnOp} {v r : V} {x : Value} (hv : VR ρ v x) (h : unP op v = some r) : ∃ y, (Op.unary op x).run P w = .ok y w ∧ VR ρ r y := by
  cases op <;> cases v <;> simp only [unP, reduceCtorEq, Option.some.injEq] at h <;> subst h <;> simp only [VR] at hv <;> subst hv
  case neg.int k n => exact ⟨.int k (k.wrap (0 - n)), by simp only [Op.unary, Op.intArith, Sem.run_pure], by simp only [VR]⟩
  case not.bool b => exact ⟨.bool (!b), by simp only [Op.unary, Sem.run_pure], by simp only [VR]⟩
  case neg.flt k b => exact ⟨.float k (Op.negFloat k b), by simp only [Op.unary, Sem.run_pure], by simp only [VR]⟩
  case xor.int k n => exact ⟨.int k (bitI .xor k (if k.signed then -1 else k.max) n), by simp only [Op.unary, Op.intBits, Sem.run_pure]; rfl, by simp only [VR]⟩

def bytesOf : List V → Option (List UInt8)
  | [] => some []
  | .int .u8 n :: vs => match bytesOf vs with
    | some bs => some (UInt8.ofNat n.toNat :: bs)
    | none => none
  | _ => none

theorem bytesOf_sound : ∀ {vs : List V} {bs : List UInt8} {xs : List Value}, bytesOf vs = some bs → VRs ρ vs xs →
    ∃ ns : List Int, xs = ns.map (Value.int .u8) ∧ bs = ns.map (fun n => UInt8.ofNat n.toNat)
  | [], bs, xs, h, hr => by simp only [bytesOf, Option.some.injEq] at h; subst h; simp only [VRs] at hr; exact ⟨[], by simp [hr], rfl⟩
  | v :: vs, bs, xs, h, hr => by
    simp only [VRs] at hr
    obtain ⟨y, ys, rfl, hv, hs⟩ := hr
    unfold bytesOf at h
    split at h
    · simp_all
    · rename_i n vs' e
      cases e
      split at h
      · rename_i bs' hbs
        cases h
        obtain ⟨ns, rfl, rfl⟩ := bytesOf_sound hbs hs
        simp only [VR] at hv; subst hv
        exact ⟨n :: ns, rfl, rfl⟩
      · simp at h
    · simp at h

theorem foldl_push : ∀ (ns : List Int) (l : List UInt8), (ns.foldl (fun (r : ByteArray) n => r.push (UInt8.ofNat n.toNat)) ⟨⟨l⟩⟩) = ⟨⟨l ++ ns.map (fun n => UInt8.ofNat n.toNat)⟩⟩
  | [], l => by simp
  | n :: ns, l => by
    simp only [List.foldl_cons, List.map_cons]
    have : ((⟨⟨l⟩⟩ : ByteArray).push (UInt8.ofNat n.toNat)) = ⟨⟨l ++ [UInt8.ofNat n.toNat]⟩⟩ := by
      apply ByteArray.ext; apply Array.ext'; simp
    rw [this, foldl_push ns]
    simp

/-- The cells that a slice holds. -/
def slCells (σ : H) : V → Option (List V)
  | .nils => some []
  | .slice a sz len _ _ => σ.cells a (len * sz)
  | _ => none

theorem slCells_sound (hR : Rl C ρ σ w) {a : PA} {sz len cb : Nat} {ex : Bool} {ad : Addr} {c : Nat} {vs : List V} (hv : VR ρ (.slice a sz len cb ex) (.slice (some ad) len c))
    (h : slCells σ (.slice a sz len cb ex) = some vs) : ∃ xs : List Value, xs.length = len * sz ∧ VRs ρ vs xs ∧ ∀ (j : Nat) (x : Value), xs[j]? = some x → w.cell? (ad.add j) = some x := by
  simp only [VR] at hv
  obtain ⟨p, ad', c', hp, e, hlb, hbc, hver, hcap, _⟩ := hv
  cases e
  simp only [slCells] at h
  obtain ⟨hl, xs, hxl, hrel, hc⟩ := hR.cells_at h hp
  refine ⟨xs, hxl, hrel, ?_⟩
  rcases hcap with h0 | h0
  · intro j x hj
    have : xs.length = 0 := by rw [hxl, show len = 0 by omega, Nat.zero_mul]
    have := List.eq_nil_of_length_eq_zero this
    subst this
    simp at hj
  · rw [h0.1]; exact hc

def bytesV (σ : H) (x : V) : Option V :=
  match x with
  | .nils => some (.str [])
  | .slice a sz len cb ex => if sz = 1 then match slCells σ (.slice a sz len cb ex) with
      | some vs => match bytesOf vs with
        | some bs => some (.str bs)
        | none => none
      | none => none
    else none
  | _ => none

theorem bytes_sound (hR : Rl C ρ σ w) {v r : V} {x : Value} (hv : VR ρ v x) (h : bytesV σ v = some r) : ∃ y, (Conv.bytesToString x).run C.P w = .ok y w ∧ VR ρ r y := by
  unfold bytesV at h
  split at h
  · cases h
    simp only [VR] at hv; subst hv
    exact ⟨_, by simp [Conv.bytesToString]; rfl, by simp only [VR]; rfl⟩
  · rename_i a sz len cb ex
    split at h
    · rename_i hsz
      subst hsz
      split at h
      · rename_i vs hvs
        split at h
        · rename_i bs hbs
          cases h
          have hv' := hv
          simp only [VR] at hv'
          obtain ⟨p, ad, c, hp, rfl, _⟩ := hv'
          obtain ⟨xs, hxl, hrel, hc⟩ := slCells_sound hR hv hvs
          obtain ⟨ns, rfl, rfl⟩ := bytesOf_sound hbs hrel
          have hlc := run_loadCells_list (P := C.P) (w := w) ad _ hc
          rw [hxl, Nat.mul_one] at hlc
          refine ⟨_, run_bytesToString (P := C.P) w ad len c ns hlc, ?_⟩
          simp only [VR]
          have := foldl_push ns []
          simp only [List.nil_append] at this
          rw [← this]; rfl
        · simp at h
      · simp at h
    · simp at h
  · simp at h

end Go.Am
