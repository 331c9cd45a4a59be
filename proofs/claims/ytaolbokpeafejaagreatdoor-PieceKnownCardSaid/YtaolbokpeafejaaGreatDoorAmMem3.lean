/-
  AM: slices that are made; append. (Lemmas alone; no program.)
-/
import Derived.Test.YtaolbokpeafejaaGreatDoorAmMem2
import Derived.Laws.Append
import Derived.Laws.AppendOwn
set_option linter.unusedVariables false
set_option linter.unusedSimpArgs false
namespace Go.Am
open Go Go.RowKit

variable {C : Ctx} {ρ : Pl} {σ : H} {w : World}

/-! ### Slices that are written out, and made -/

/-- Of a slice type: its elements' type, their size, their bytes, their zero cells. -/
structure SlK where
  elem : TypeId
  sz : Nat
  bytes : Nat
  zero : List V

def slInfo (P : Program) (t : TypeId) : Option SlK :=
  match P.underlying t with
  | some (.slice e) => match P.info? e with
    | some i => match i.zero with
      | some z => match ofConsts1 z.cells.toList with
        | some zs => if zs.length = i.size then (match tk P e with
            | some (_, n) => if n = i.size then some ⟨e, i.size, i.bytes, zs⟩ else none
            | none => none) else none
        | none => none
      | none => none
    | none => none
  | _ => none

structure SlOk (P : Program) (t : TypeId) (k : SlK) (i : TypeInfo) (z : Value) : Prop where
  under : P.underlying t = some (.slice k.elem)
  info : P.info? k.elem = some i
  size : i.size = k.sz
  bytes : i.bytes = k.bytes
  zero : i.zero = some z
  zrel : ∀ ρ, VRs ρ k.zero z.cells.toList
  zlen : k.zero.length = k.sz

theorem slInfo_ok {P : Program} {t : TypeId} {k : SlK} (h : slInfo P t = some k) : ∃ i z, SlOk P t k i z := by
  unfold slInfo at h
  split at h
  · rename_i e hu
    split at h
    · rename_i i hi
      split at h
      · rename_i z hz
        split at h
        · rename_i zs hzs
          split at h
          · rename_i hl
            split at h
            · rename_i b n hn
              split at h
              · rename_i hnn
                cases h
                exact ⟨i, z, hu, hi, rfl, rfl, hz, fun ρ => ofConsts1_sound hzs, hl⟩
              · simp at h
            · simp at h
          · simp at h
        · simp at h
      · simp at h
    · simp at h
  · simp at h

theorem SlOk.run_info {P : Program} {t : TypeId} {k : SlK} {i : TypeInfo} {z : Value} (h : SlOk P t k i z) : (typeInfo k.elem).run P w = .ok i w := run_typeInfo' h.info
theorem SlOk.run_size {P : Program} {t : TypeId} {k : SlK} {i : TypeInfo} {z : Value} (h : SlOk P t k i z) : (sizeOf k.elem).run P w = .ok k.sz w := by
  simp [sizeOf, h.run_info, h.size]
theorem SlOk.run_zero {P : Program} {t : TypeId} {k : SlK} {i : TypeInfo} {z : Value} (h : SlOk P t k i z) : (zeroValue k.elem).run P w = .ok z w := by
  simp [zeroValue, h.run_info, h.zero]
theorem SlOk.zsize {P : Program} {t : TypeId} {k : SlK} {i : TypeInfo} {z : Value} (h : SlOk P t k i z) : z.cells.size = k.sz := by
  have := (h.zrel ⟨fun _ _ => none, []⟩).length
  rw [← h.zlen]; simpa using this.symm

/-- n cells of zero values. -/
def zeros (k : SlK) : Nat → List V
  | 0 => []
  | n + 1 => k.zero ++ zeros k n

theorem zeros_length {k : SlK} (hz : k.zero.length = k.sz) : ∀ n, (zeros k n).length = n * k.sz
  | 0 => by simp [zeros]
  | n + 1 => by simp [zeros, zeros_length hz n, hz, Nat.succ_mul, Nat.add_comm]

theorem zeros_get {k : SlK} (hz : k.zero.length = k.sz) : ∀ (n j : Nat), j < n * k.sz → (zeros k n)[j]? = k.zero[j % k.sz]?
  | 0, j, h => by simp at h
  | n + 1, j, h => by
    simp only [zeros, List.getElem?_append, hz]
    by_cases hj : j < k.sz
    · simp [hj, Nat.mod_eq_of_lt hj]
    · simp only [hj, if_false]
      have h2 : j - k.sz < n * k.sz := by rw [Nat.succ_mul] at h; omega
      rw [zeros_get hz n _ h2, Nat.mod_eq_sub_mod (Nat.le_of_not_lt hj)]

theorem zeros_rel {P : Program} {t : TypeId} {k : SlK} {i : TypeInfo} {z : Value} (h : SlOk P t k i z) (n : Nat) :
    VRs ρ (zeros k n) ((Array.range (n * k.sz)).map (fun j => z.cells[j % z.cells.size]!)).toList := by
  apply VRs.of_get
  · simp [zeros_length h.zlen]
  · intro j v hv
    have hj : j < n * k.sz := by
      have := (List.getElem?_eq_some_iff.1 hv).1
      rwa [zeros_length h.zlen] at this
    rw [zeros_get h.zlen n j hj] at hv
    obtain ⟨x, hx, hr⟩ := (h.zrel ρ).get hv
    refine ⟨x, ?_, hr⟩
    rw [Array.getElem?_toList] at hx ⊢
    simp only [Array.getElem?_map, Array.getElem?_range, hj, if_true, Option.map_some]
    rw [h.zsize, Array.getElem!_eq_getD, Array.getD_eq_getD_getElem?, hx]; rfl

theorem zeroCells_eq {P : Program} {t : TypeId} {k : SlK} {i : TypeInfo} {z : Value} (h : SlOk P t k i z) (n : Nat) :
    Builtin.zeroCells z.cells n = (Array.range (n * k.sz)).map (fun j => z.cells[j % z.cells.size]!) := by
  unfold Builtin.zeroCells
  rw [h.zsize]

/-- A slice over a whole new row. -/
def wholeSl (σ : H) (sz n : Nat) : V := .slice (newPA σ (n * sz)) sz n n true

theorem wholeSl_rel {ρ' : Pl} {sz n : Nat} {p : Place} (hp : ρ' σ.size (n * sz) = some p) (ho : p.off = 0) (hc : n * sz ≤ p.cap) : VR ρ' (wholeSl σ sz n) (.slice (some ⟨p.blk, 0, none⟩) n n) := by
  simp only [wholeSl, VR, newPA]
  exact ⟨p, _, n, hp, rfl, Nat.le_refl _, Nat.le_refl _, by simp, .inr ⟨by simp [Place.at, ho], by simpa using hc⟩, fun _ => rfl⟩

/-- The cells of a slice that is written out. -/
def bsP (k : SlK) (n : Nat) (ps : List (Nat × V)) : Option (List V) :=
  match places (fun i => some (i * k.sz, k.sz)) ps with
  | some qs => if n * k.sz ≤ 16777216 then fillV (zeros k n) qs else none
  | none => none

theorem fillV_length : ∀ (ps : List (Nat × Nat × V)) (cs r : List V), fillV cs ps = some r → r.length = cs.length
  | [], cs, r, h => by simp only [fillV, Option.some.injEq] at h; subst h; rfl
  | (o, n, v) :: ps, cs, r, h => by
    simp only [fillV] at h
    split at h
    · rw [fillV_length ps _ r h, splice_length]
    · simp at h

theorem bs_sound (hR : Rl C ρ σ w) {t : TypeId} {k : SlK} {n : Nat} {ps : List (Nat × V)} {xs : Array (Nat × Value)} {cs : List V} (hk : slInfo C.P t = some k)
    (hp : All2 (fun (p : Nat × V) (q : Nat × Value) => p.1 = q.1 ∧ VR ρ p.2 q.2) ps xs.toList) (h : bsP k n ps = some cs) :
    ∃ ρ' w' y, (Instr.buildSlice t n xs).run C.P w = .ok y w' ∧ Ext ρ ρ' ∧ Rl C ρ' (mkRow σ k.elem cs) w' ∧ VR ρ' (wholeSl σ k.sz n) y := by
  obtain ⟨i, z, hok⟩ := slInfo_ok hk
  unfold bsP at h
  split at h
  · rename_i qs hqs
    split at h
    · rename_i hn
      have hpr := places_rel (place := fun i => some (i * k.sz, k.sz)) (fun i q hq => hq) ps qs xs.toList hqs hp
      obtain ⟨ys, hys, hyr⟩ := fill_sound (ρ := ρ) (place := fun i => some (i * k.sz, k.sz)) qs xs.toList (zeros k n) ((Array.range (n * k.sz)).map (fun j => z.cells[j % z.cells.size]!)) cs hpr (zeros_rel hok n) h
      have hcl : cs.length = n * k.sz := by rw [fillV_length _ _ _ h, zeros_length hok.zlen]
      have hyl : ys.size = n * k.sz := by rw [← hcl]; simpa using hyr.length.symm
      obtain ⟨ρ', h1, h2, h3, h4⟩ := mkRow_sound hR k.elem hyr
      rw [hcl] at h4
      refine ⟨ρ', _, _, ?_, h1, h2, wholeSl_rel (p := ⟨w.heap.size, 0, ys.size⟩) h4 rfl (by simp [hyl])⟩
      have hlim : ¬ n * k.sz > 2 ^ 24 := by omega
      by_cases h0 : n * k.sz = 0
      · have hys' : Instr.fill (fun i => some (i * k.sz, k.sz)) ((Array.range (n * k.sz)).map fun j => (#[] : Array Value)[j % (#[] : Array Value).size]!) xs.toList = some ys := by
          rw [← hys]; congr 1; simp [h0]
        simp only [Instr.buildSlice, Sem.run_bind, run_underlying hok.under, Result.andThen_ok, hok.run_size, hlim, if_false, h0, if_true, Sem.run_pure, show ¬ ((0 : Nat) > 2 ^ 24) from by decide]
        rw [h0] at hys'
        simp only [hys', newRow, Sem.run_bind, run_newObj, Result.andThen_ok, Sem.run_pure]
        rfl
      · simp only [Instr.buildSlice, Sem.run_bind, run_underlying hok.under, Result.andThen_ok, hok.run_size, hlim, if_false, h0, hok.run_zero, Sem.run_pure]
        simp only [hys, newRow, Sem.run_bind, run_newObj, Result.andThen_ok, Sem.run_pure]
        rfl
    · simp at h
  · simp at h

/-- make([]T, n), make([]T, n, c). -/
def msP (k : SlK) (l c : V) : Option (Nat × Nat) :=
  match l, c with
  | .int _ l, .int _ c => if 0 ≤ l ∧ l ≤ c ∧ k.bytes * c ≤ 281474976710656 ∧ c ≤ 9223372036854775807 then some (l.toNat, c.toNat) else none
  | _, _ => none

theorem i64_wrap_of {n : Int} (h0 : 0 ≤ n) (h1 : n ≤ 9223372036854775807) : IntKind.i64.wrap n = n := by
  have hb : IntKind.i64.bits = 64 := rfl
  have hs : IntKind.i64.signed = true := rfl
  simp only [IntKind.wrap, hb, hs]
  have : n % 2 ^ 64 = n := Int.emod_eq_of_lt h0 (by omega)
  rw [this]
  simp
  omega

theorem ms_sound (hR : Rl C ρ σ w) {t : TypeId} {k : SlK} {l c : V} {l' c' : Value} {n m : Nat} (hk : slInfo C.P t = some k) (hl : VR ρ l l') (hc : VR ρ c c') (h : msP k l c = some (n, m)) :
    ∃ ρ' w' y, (Instr.makeSlice t l' c').run C.P w = .ok y w' ∧ Ext ρ ρ' ∧ Rl C ρ' (mkRow σ k.elem (zeros k m)) w' ∧ VR ρ' (.slice (newPA σ (m * k.sz)) k.sz n m true) y := by
  obtain ⟨i, z, hok⟩ := slInfo_ok hk
  cases l <;> cases c <;> simp only [msP, reduceCtorEq] at h
  rename_i k1 l k2 c
  split at h
  · rename_i hh
    obtain ⟨h0, h1, h2, h3⟩ := hh
    cases h
    simp only [VR] at hl hc; subst hl hc
    have hzr := zeros_rel (ρ := ρ) hok c.toNat
    obtain ⟨ρ', g1, g2, g3, g4⟩ := mkRow_sound hR k.elem hzr
    rw [zeros_length hok.zlen] at g4
    refine ⟨ρ', _, .slice (some ⟨w.heap.size, 0, none⟩) l.toNat c.toNat, ?_, g1, g2, ?_⟩
    · have wl : IntKind.i64.wrap l = l := i64_wrap_of h0 (by omega)
      have wc : IntKind.i64.wrap c = c := i64_wrap_of (by omega) h3
      have c0 : (0 : Int) ≤ c := by omega
      have hno : ¬ ((decide (c < 0) || decide ((k.bytes : Int) * c > 2 ^ 48)) = true ∨ l < 0 ∨ l > c) := by
        simp only [Bool.or_eq_true, decide_eq_true_eq]
        have : (k.bytes : Int) * c ≤ 281474976710656 := h2
        omega
      simp only [Instr.makeSlice, Sem.run_bind, run_underlying hok.under, Result.andThen_ok, asInt, asIntOf, Sem.run_pure, hok.run_info, wl, wc, hok.bytes]
      rw [if_neg (by simp only [Bool.or_eq_true, decide_eq_true_eq]; omega)]
      simp only [Sem.run_bind, run_askRoom, Result.andThen_ok, hok.run_size]
      by_cases hz0 : c.toNat * k.sz = 0
      · have : ((Array.range (c.toNat * k.sz)).map fun j => (#[] : Array Value)[j % (#[] : Array Value).size]!) = (Array.range (c.toNat * k.sz)).map (fun j => z.cells[j % z.cells.size]!) := by
          rw [hz0]; simp
        simp only [hz0, if_true, Sem.run_bind, Sem.run_pure, Result.andThen_ok, newRow, run_newObj]
        rw [hz0] at this
        rw [this]
        rfl
      · simp only [hz0, if_false, hok.run_zero, Sem.run_bind, Sem.run_pure, Result.andThen_ok, newRow, run_newObj]
        rfl
    · simp only [VR, newPA]
      have hle : l.toNat ≤ c.toNat := by omega
      exact ⟨_, _, c.toNat, g4, rfl, hle, Nat.le_refl _, by simp, .inr ⟨by simp [Place.at], by simp⟩, fun _ => rfl⟩
  · simp at h

/-! ### append -/

theorem run_app_place {P : Program} {ts : Array TypeId} {ty t u : TypeId} {d : TypeDesc} {k : SlK} {i : TypeInfo} {z x : Value} {n sLen sCap : Nat} {base : Option Addr} {new : Array Value}
    (ht : ts[0]? = some t) (hok : SlOk P t k i z) (hu : ts[1]? = some u) (hd : P.underlying u = some d) (hni : ∀ k, d ≠ .int k)
    (hn : (Builtin.lenOf x).run P w = .ok n w) (hf : (Builtin.firstCells k.sz n x).run P w = .ok new w) (hle : sLen + n ≤ sCap) :
    (Builtin.append_ ts ty #[.slice base sLen sCap, x]).run P w =
      (((match base with | some a => storeCells (a.add (sLen * k.sz)) new.toList | none => pure ()) : Sem Unit).run P w).andThen fun _ w' => .ok (.slice base (sLen + n) sCap) w' := by
  have h0 : (#[.slice base sLen sCap, x] : Array Value)[0]? = some (.slice base sLen sCap) := rfl
  have h1 : (#[.slice base sLen sCap, x] : Array Value)[1]? = some x := rfl
  have hz : (match d with | .int _ => true | _ => false) = false := by cases d <;> first | rfl | exact absurd rfl (hni _)
  simp only [Builtin.append_, ht, h0, h1, hu, Sem.run_bind, run_underlying hok.under, run_underlying hd, Result.andThen_ok, hok.run_size, Sem.run_pure, hz, Bool.false_eq_true, if_false, hn, hle, if_true, Bool.not_false, hf]
  cases base <;> simp

theorem run_app_grow {P : Program} {ts : Array TypeId} {ty t u : TypeId} {d : TypeDesc} {k : SlK} {i : TypeInfo} {z x : Value} {n sLen sCap : Nat} {base : Option Addr} {old new : Array Value}
    (ht : ts[0]? = some t) (hok : SlOk P t k i z) (hu : ts[1]? = some u) (hd : P.underlying u = some d) (hni : ∀ k, d ≠ .int k)
    (hn : (Builtin.lenOf x).run P w = .ok n w) (hf : (Builtin.firstCells k.sz n x).run P w.drew = .ok new w.drew) (hfo : (Builtin.firstCells k.sz sLen (.slice base sLen sCap)).run P w.drew = .ok old w.drew)
    (hgt : sCap < sLen + n) (hb : k.bytes ≠ 0) (hfit : (sLen + n) * k.bytes ≤ 140737488355328) :
    (Builtin.append_ ts ty #[.slice base sLen sCap, x]).run P w =
      .ok (.slice (some ⟨w.heap.size, 0, none⟩) (sLen + n) (grownCap w (sLen + n) sCap k.elem))
        (w.drew.alloc (.cells (old ++ new ++ Builtin.zeroCells z.cells (grownCap w (sLen + n) sCap k.elem - (sLen + n))) k.elem)) := by
  have h0 : (#[.slice base sLen sCap, x] : Array Value)[0]? = some (.slice base sLen sCap) := rfl
  have h1 : (#[.slice base sLen sCap, x] : Array Value)[1]? = some x := rfl
  have hz : (match d with | .int _ => true | _ => false) = false := by cases d <;> first | rfl | exact absurd rfl (hni _)
  have hle : ¬ (sLen + n ≤ sCap) := by omega
  have h2 := growslice_fits hgt hfit
  have hfit' : ¬ (Builtin.nextslicecap (sLen + n) sCap * k.bytes > 2 ^ 48) := by omega
  have hbb : ¬ (((sLen + n : Nat) : Int) > IntKind.i64.max ∧ ((false = true) ∨ k.bytes = 0)) := by
    rintro ⟨_, h | h⟩
    · cases h
    · exact hb h
  have hch : (choose (.appendCap (sLen + n) sCap k.elem)).run P w = .ok (grownCap w (sLen + n) sCap k.elem) w.drew := by
    simp [Question.forced, grownCap]
  simp only [Builtin.append_, ht, h0, h1, hu, Sem.run_bind, run_underlying hok.under, run_underlying hd, Result.andThen_ok, hok.run_size, Sem.run_pure, hz, Bool.false_eq_true, if_false, hn, hle, Bool.not_false, if_true,
    hok.run_info, hok.bytes]
  rw [if_neg (by simpa using hbb)]
  simp only [Sem.run_bind, hok.run_info, hok.bytes, Result.andThen_ok]
  rw [if_neg hfit']
  simp only [Sem.run_bind, hch, Result.andThen_ok, hok.run_info, run_askRoom, hfo, hf, hok.run_zero, newRow, run_newObj, Sem.run_pure, World.size_drew]
  rfl

end Go.Am
