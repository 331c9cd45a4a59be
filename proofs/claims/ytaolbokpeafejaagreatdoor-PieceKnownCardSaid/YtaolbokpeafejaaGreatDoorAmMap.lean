/-
  AM: maps, iterators over strings, clear, copy, bytes of a string. (Lemmas alone; no program.)
-/
import Derived.Test.YtaolbokpeafejaaGreatDoorAmSolid
import Derived.Test.YtaolbokpeafejaaGreatDoorAmMem5
import Derived.Laws.IdiomStrings
set_option linter.unusedVariables false
set_option linter.unusedSimpArgs false
namespace Go.Am
open Go Go.RowKit
variable {C : Ctx} {ρ : Pl} {σ : H} {w : World}

/-! ### Keys -/
inductive KK where
  | int
  | str
  | bool

/-- A map's type: the kind of its keys, the zero of its elements. -/
def mpK (P : Program) (t : TypeId) : Option (KK × V) :=
  match P.underlying t with
  | some (.map kt et) => match P.underlying kt, zeroV P et with
    | some (.int _), some z => some (.int, z)
    | some .string, some z => some (.str, z)
    | some .bool, some z => some (.bool, z)
    | _, _ => none
  | _ => none

theorem bytes_beq' (a b : ByteArray) : (a == b) = true ↔ a = b := by
  rw [beq_toListBytes, ByteArray.toList_eq, ByteArray.toList_eq]
  simp only [beq_iff_eq]
  constructor
  · intro h; obtain ⟨⟨a⟩⟩ := a; obtain ⟨⟨b⟩⟩ := b; simp at h; subst h; rfl
  · rintro rfl; rfl

def sameV : KK → V → V → Option Bool
  | .int, .int k a, .int j b => if k = j then some (decide (a = b)) else none
  | .str, .str a, .str b => some (decide (a = b))
  | .bool, .bool a, .bool b => some (decide (a = b))
  | _, _, _ => none

abbrev MEs := List (V × V × Nat)

def findV (kk : KK) (k : V) : MEs → Nat → Option (Option (Nat × V))
  | [], _ => some none
  | (k2, v, _) :: es, i => match sameV kk k k2 with
    | some true => some (some (i, v))
    | some false => findV kk k es (i + 1)
    | none => none

def kkOk (P : Program) (kk : KK) (kt : TypeId) : Prop :=
  match kk with
  | .int => ∃ k, P.underlying kt = some (.int k)
  | .str => P.underlying kt = some .string
  | .bool => P.underlying kt = some .bool

def kkDesc (P : Program) (kt : TypeId) : Option TypeDesc := P.underlying kt

theorem sameV_sound {P : Program} {kk : KK} {kt : TypeId} {d : TypeDesc} (hd : P.underlying kt = some d) (hk : kkOk P kk kt) {a b : V} {x y : Value} {r : Bool} (ha : VR ρ a x) (hb : VR ρ b y) (h : sameV kk a b = some r) :
    Instr.sameNow d x y = some r := by
  unfold sameV at h
  split at h
  · split at h
    · rename_i e
      cases h
      obtain ⟨k, hk⟩ := hk
      rw [hd] at hk; cases hk
      simp only [VR] at ha hb; subst ha hb
      simp [Instr.sameNow, e, beqd]
    · cases h
  · cases h
    simp only [kkOk] at hk
    rw [hd] at hk; cases hk
    simp only [VR] at ha hb; subst ha hb
    simp only [Instr.sameNow, Option.some.injEq]
    rw [Bool.eq_iff_iff]
    simp only [bytes_beq', decide_eq_true_eq]
    constructor
    · intro h; injection h with h; injection h
    · rintro rfl; rfl
  · cases h
    simp only [kkOk] at hk
    rw [hd] at hk; cases hk
    simp only [VR] at ha hb; subst ha hb
    simp [Instr.sameNow, beqd]
  · cases h

theorem checkKey_n {P : Program} {kk : KK} {kt : TypeId} (hk : kkOk P kk kt) (e : Bool) (n : Nat) (x : Value) : (Instr.checkKey e (n + 1) kt x).run P w = .ok () w := by
  unfold kkOk at hk
  split at hk
  · obtain ⟨k, hk⟩ := hk
    simp [Instr.checkKey, run_underlying hk]
  · simp [Instr.checkKey, run_underlying hk]
  · simp [Instr.checkKey, run_underlying hk]
theorem checkKey_ok {P : Program} {kk : KK} {kt : TypeId} (hk : kkOk P kk kt) (e : Bool) (x : Value) : (Instr.checkKey e 10000 kt x).run P w = .ok () w := checkKey_n hk e 9999 x

/-- Found alike. -/
def FoundR (ρ : Pl) : Option (Nat × V) → Option (Nat × Value) → Prop
  | none, none => True
  | some (j, v), some (j', y) => j = j' ∧ VR ρ v y
  | _, _ => False

theorem findV_sound {P : Program} {kk : KK} {kt : TypeId} {d : TypeDesc} (hd : P.underlying kt = some d) (hk : kkOk P kk kt) {k : V} {key : Value} (ha : VR ρ k key) : ∀ {es : MEs} {xs : List MapEntry} {i : Nat} {r : Option (Nat × V)},
    MRel ρ es xs → findV kk k es i = some r → ∃ r', Instr.findNow d key xs i = some r' ∧ FoundR ρ r r'
  | [], xs, i, r, hm, h => by
    have hm : xs = [] := hm
    subst hm
    simp only [findV, Option.some.injEq] at h; subst h
    exact ⟨none, rfl, trivial⟩
  | (k2, v, b) :: es, xs, i, r, hm, h => by
    obtain ⟨x, xs', rfl, h1, h2, h3, h4⟩ := hm
    simp only [findV] at h
    split at h
    · rename_i hs
      cases h
      refine ⟨some (i, x.val), by simp only [Instr.findNow, sameV_sound hd hk ha h1 hs], rfl, h2⟩
    · rename_i hs
      obtain ⟨r', g1, g2⟩ := findV_sound hd hk ha h4 h
      exact ⟨r', by simp only [Instr.findNow, sameV_sound hd hk ha h1 hs]; exact g1, g2⟩
    · cases h

theorem findKey_ok {P : Program} {kk : KK} {kt : TypeId} {d : TypeDesc} (hd : P.underlying kt = some d) (hk : kkOk P kk kt) {k : V} {key : Value} (ha : VR ρ k key) {es : MEs} {xs : List MapEntry} {r : Option (Nat × V)}
    (hm : MRel ρ es xs) (h : findV kk k es 0 = some r) : ∃ r', (Instr.findKey kt key xs).run P w = .ok r' w ∧ FoundR ρ r r' := by
  obtain ⟨r', h1, h2⟩ := findV_sound hd hk ha hm h
  exact ⟨r', by simp only [Instr.findKey, Sem.run_bind, run_underlying hd, Result.andThen_ok, h1, Sem.run_pure], h2⟩

theorem mpK_parts {P : Program} {t : TypeId} {kk : KK} {z : V} (h : mpK P t = some (kk, z)) : ∃ kt et d, P.underlying t = some (.map kt et) ∧ P.underlying kt = some d ∧ kkOk P kk kt ∧ zeroV P et = some z := by
  unfold mpK at h
  split at h
  · rename_i kt et hu
    split at h <;> cases h
    · rename_i k hk hz; exact ⟨kt, et, _, hu, hk, ⟨_, hk⟩, hz⟩
    · rename_i hk hz; exact ⟨kt, et, _, hu, hk, hk, hz⟩
    · rename_i hk hz; exact ⟨kt, et, _, hu, hk, hk, hz⟩
  · cases h

/-- What a map holds. -/
def mesOf (σ : H) : V → Option MEs
  | .nilm => some []
  | .map r => match σ.get r with
    | some (.map es _) => some es
    | _ => none
  | _ => none

theorem mesOf_sound (hR : Rl C ρ σ w) {v : V} {x : Value} {es : MEs} (hv : VR ρ v x) (h : mesOf σ v = some es) :
    (x = .map none ∧ es = []) ∨ ∃ p xs c, x = .map (some p) ∧ w.heap[p]? = some (.map xs c) ∧ MRel ρ es xs.toList := by
  unfold mesOf at h
  split at h
  · cases h; simp only [VR] at hv; exact .inl ⟨hv, rfl⟩
  · rename_i r
    split at h
    · rename_i es' c hg
      cases h
      simp only [VR] at hv
      obtain ⟨p, hp, rfl⟩ := hv
      obtain ⟨q, y, hq, hB, hy, xs, rfl, hm⟩ := hR.obj _ _ hg rfl
      rw [hp] at hq; cases hq
      exact .inr ⟨p.blk, xs, c, rfl, hy, hm⟩
    · cases h
  · cases h

/-- A look into a map. -/
def lkP (σ : H) (k : KK × V) (ok : Bool) (m key : V) : Option V :=
  match mesOf σ m with
  | some es => match findV k.1 key es 0 with
    | some (some (_, v)) => some (if ok then .tuple [v, .bool true] else v)
    | some none => some (if ok then .tuple [k.2, .bool false] else k.2)
    | none => none
  | none => none

theorem lk_sound (hR : Rl C ρ σ w) {t : TypeId} {k : KK × V} {ok : Bool} {m key r : V} {x y : Value} (hk : mpK C.P t = some k) (hm : VR ρ m x) (hy : VR ρ key y) (h : lkP σ k ok m key = some r) :
    ∃ z, (Instr.lookup t x y ok).run C.P w = .ok z w ∧ VR ρ r z := by
  obtain ⟨kk, zv⟩ := k
  obtain ⟨kt, et, d, h1, h2, h3, h4⟩ := mpK_parts hk
  obtain ⟨z0, hz1, hz2⟩ := zero_sound (ρ := ρ) (w := w) h4
  unfold lkP at h
  split at h
  · rename_i es hes
    have key2 : ∀ (xs : Array MapEntry), MRel ρ es xs.toList → ∃ z, (do
        Instr.checkKey xs.isEmpty 10000 kt y
        let (v, ok2) ← match ← Instr.findKey kt y xs.toList with
          | some (_, v) => pure (v, true)
          | none => pure (← zeroValue et, false)
        pure (if ok then .tuple #[v, .bool ok2] else v) : Sem Value).run C.P w = .ok z w ∧ VR ρ r z := by
      intro xs hmr
      split at h
      · rename_i j v hf
        cases h
        obtain ⟨r', g1, g2⟩ := findKey_ok (P := C.P) (w := w) h2 h3 hy hmr hf
        cases r' with
        | none => exact g2.elim
        | some q =>
          obtain ⟨j', v'⟩ := q
          obtain ⟨rfl, g2⟩ := g2
          refine ⟨_, by simp only [Sem.run_bind, checkKey_ok h3, g1, Result.andThen_ok, Sem.run_pure]; rfl, ?_⟩
          cases ok
          · simpa using g2
          · simp only [if_true, VR, VRs]; exact ⟨_, rfl, _, _, rfl, g2, _, _, rfl, rfl, rfl⟩
      · rename_i hf
        cases h
        obtain ⟨r', g1, g2⟩ := findKey_ok (P := C.P) (w := w) h2 h3 hy hmr hf
        cases r' with
        | some q => exact g2.elim
        | none =>
          refine ⟨_, by simp only [Sem.run_bind, checkKey_ok h3, g1, hz1, Result.andThen_ok, Sem.run_pure]; rfl, ?_⟩
          cases ok
          · simpa using hz2
          · simp only [if_true, VR, VRs]; exact ⟨_, rfl, _, _, rfl, hz2, _, _, rfl, rfl, rfl⟩
      · cases h
    rcases mesOf_sound hR hm hes with ⟨rfl, rfl⟩ | ⟨p, xs, c, rfl, hh, hmr⟩
    · obtain ⟨z, e1, e2⟩ := key2 #[] rfl
      refine ⟨z, ?_, e2⟩
      simp only [Instr.lookup, Sem.run_bind, run_underlying h1, Result.andThen_ok, Sem.run_pure] at e1 ⊢
      exact e1
    · obtain ⟨z, e1, e2⟩ := key2 xs hmr
      refine ⟨z, ?_, e2⟩
      have hg : (getObj p).run C.P w = .ok (.map xs c) w := by simp [getObj, Sem.run, hh]
      simp only [Instr.lookup, Sem.run_bind, run_underlying h1, Result.andThen_ok, Sem.run_pure, hg] at e1 ⊢
      exact e1
  · cases h

/-- How many a map holds. -/
def lnmP (σ : H) (m : V) : Option V :=
  match mesOf σ m with
  | some es => some (.int .i64 es.length)
  | none => none

theorem MRel.length {ρ : Pl} : ∀ {es : MEs} {xs : List MapEntry}, MRel ρ es xs → es.length = xs.length
  | [], xs, h => by have h : xs = [] := h; simp [h]
  | (k, v, b) :: es, xs, h => by obtain ⟨x, xs', rfl, _, _, _, h4⟩ := h; simp [h4.length]

theorem lnm_sound (hR : Rl C ρ σ w) {t kt et : TypeId} {m r : V} {x : Value} {ts : Array TypeId} {ty : TypeId} (ht : ts[0]? = some t) (hu : C.P.underlying t = some (.map kt et)) (hm : VR ρ m x) (h : lnmP σ m = some r) :
    ∃ z, (Builtin.len_ ts ty #[x]).run C.P w = .ok z w ∧ VR ρ r z := by
  have h0 : (#[x] : Array Value)[0]? = some x := rfl
  unfold lnmP at h
  split at h
  · rename_i es hes
    cases h
    rcases mesOf_sound hR hm hes with ⟨rfl, rfl⟩ | ⟨p, xs, c, rfl, hh, hmr⟩
    · exact ⟨_, by simp only [Builtin.len_, ht, h0, Sem.run_bind, run_underlying hu, Result.andThen_ok, Sem.run_pure, goInt]; rfl, by simp only [VR]; rfl⟩
    · have hg : (getObj p).run C.P w = .ok (.map xs c) w := by simp [getObj, Sem.run, hh]
      refine ⟨_, by simp only [Builtin.len_, ht, h0, Sem.run_bind, run_underlying hu, Result.andThen_ok, hg, Sem.run_pure, goInt]; rfl, ?_⟩
      simp only [VR]
      have := hmr.length
      simp at this
      rw [this]
  · cases h

/-! ### Writing into a map -/
def modV : MEs → Nat → V → V → MEs
  | [], _, _, _ => []
  | (k, v, b) :: es, 0, k', v' => (k', v', b) :: es
  | e :: es, i + 1, k', v' => e :: modV es i k' v'

def muP (σ : H) (kk : KK) (m key val : V) : Option H :=
  match m with
  | .map r => match σ.get r with
    | some (.map es c) => match findV kk key es 0 with
      | some (some (i, _)) => some (σ.set r (.map (modV es i key val) c))
      | some none => some (σ.set r (.map (es ++ [(key, val, c)]) (c + 1)))
      | none => none
    | _ => none
  | _ => none

theorem MRel.push {ρ : Pl} {k v : V} {x : MapEntry} (hk : VR ρ k x.key) (hv : VR ρ v x.val) : ∀ {es : MEs} {xs : List MapEntry}, MRel ρ es xs → MRel ρ (es ++ [(k, v, x.born)]) (xs ++ [x])
  | [], xs, h => by have h : xs = [] := h; subst h; exact ⟨x, [], rfl, hk, hv, rfl, rfl⟩
  | (k2, v2, b) :: es, xs, h => by
    obtain ⟨y, ys, rfl, h1, h2, h3, h4⟩ := h
    exact ⟨y, ys ++ [x], rfl, h1, h2, h3, h4.push hk hv⟩

theorem MRel.modify {ρ : Pl} {k v : V} {kx vx : Value} (hk : VR ρ k kx) (hv : VR ρ v vx) : ∀ {es : MEs} {xs : List MapEntry} (i : Nat), MRel ρ es xs → MRel ρ (modV es i k v) (xs.modify i fun e => { e with key := kx, val := vx })
  | [], xs, i, h => by have h : xs = [] := h; subst h; simp [modV, MRel]
  | (k2, v2, b) :: es, xs, i, h => by
    obtain ⟨y, ys, rfl, h1, h2, h3, h4⟩ := h
    cases i with
    | zero => simp only [modV, List.modify_zero_cons]; exact ⟨_, _, rfl, hk, hv, h3, h4⟩
    | succ i => simp only [modV, List.modify_succ_cons]; exact ⟨_, _, rfl, h1, h2, h3, h4.modify hk hv i⟩

/-- The entry that is found has the key's bits. -/
theorem findNow_key {P : Program} {kk : KK} {kt : TypeId} {d : TypeDesc} (hd : P.underlying kt = some d) (hk : kkOk P kk kt) {key : Value} : ∀ {xs : List MapEntry} {i j : Nat} {v : Value},
    Instr.findNow d key xs i = some (some (j, v)) → i ≤ j ∧ ∃ e, xs[j - i]? = some e ∧ ∀ n, Instr.sameBits n e.key key = true
  | [], i, j, v, h => by simp [Instr.findNow] at h
  | e :: xs, i, j, v, h => by
    simp only [Instr.findNow] at h
    split at h
    · rename_i hs
      cases h
      refine ⟨Nat.le_refl _, e, by simp, fun n => ?_⟩
      unfold Instr.sameNow at hs
      split at hs
      · split at hs
        · rename_i he e1
          simp only [Option.some.injEq, beq_iff_eq] at hs
          subst e1 hs; rw [he]; cases n <;> simp [Instr.sameBits]
        · cases hs
      · rename_i he
        simp only [Option.some.injEq, bytes_beq'] at hs
        subst hs; rw [he]; cases n <;> simp [Instr.sameBits, bytes_beq']
      · rename_i he
        simp only [Option.some.injEq, beq_iff_eq] at hs
        subst hs; rw [he]; cases n <;> simp [Instr.sameBits]
      · cases hs
    · obtain ⟨h1, e2, h2, h3⟩ := findNow_key hd hk h
      refine ⟨by omega, e2, ?_, h3⟩
      obtain ⟨n, hn⟩ : ∃ n, j - i = n + 1 := ⟨j - i - 1, by omega⟩
      rw [hn]
      have : j - (i + 1) = n := by omega
      rw [this] at h2
      simpa using h2
    · cases h

theorem mu_sound (hR : Rl C ρ σ w) {t : TypeId} {k : KK × V} {m key val : V} {x y z : Value} {σ' : H} (hk : mpK C.P t = some k) (hm : VR ρ m x) (hy : VR ρ key y) (hz : VR ρ val z) (h : muP σ k.1 m key val = some σ') :
    ∃ w', (Instr.mapUpdate t x y z).run C.P w = .ok () w' ∧ Rl C ρ σ' w' := by
  obtain ⟨kk, zv⟩ := k
  obtain ⟨kt, et, d, h1, h2, h3, h4⟩ := mpK_parts hk
  unfold muP at h
  split at h
  · rename_i r
    split at h
    · rename_i es c hg
      simp only [VR] at hm
      obtain ⟨p, hp, rfl⟩ := hm
      obtain ⟨q, ob, hq, hB, hob, xs, rfl, hmr⟩ := hR.obj _ _ hg rfl
      rw [hp] at hq; cases hq
      have hgo : (getObj p.blk).run C.P w = .ok (.map xs c) w := by simp [getObj, Sem.run, hob]
      have hso : ∀ o, (setObj p.blk o).run C.P w = .ok () (w.putObj p.blk o) := by intro o; simp [setObj, Sem.run, hob, World.putObj]
      split at h
      · rename_i i v hf
        cases h
        obtain ⟨r', g1, g2⟩ := findV_sound h2 h3 hy hmr hf
        cases r' with
        | none => exact g2.elim
        | some qq =>
          obtain ⟨j, v'⟩ := qq
          obtain ⟨rfl, g2⟩ := g2
          obtain ⟨_, e, he, hsb⟩ := findNow_key h2 h3 g1
          refine ⟨w.putObj p.blk (.map (xs.modify i fun e => { e with key := y, val := z }) c), ?_, hR.set_solid hg rfl rfl hp ⟨_, rfl, by rw [Array.toList_modify]; exact hmr.modify hy hz i⟩⟩
          have hfk : (Instr.findKey kt y xs.toList).run C.P w = .ok (some (i, v')) w := by simp only [Instr.findKey, Sem.run_bind, run_underlying h2, Result.andThen_ok, g1, Sem.run_pure]
          have hei : xs[i]? = some e := by simpa using he
          have hks : (Instr.keyThatStays (((xs[i]?).map (·.key)).getD y) y).run C.P w = .ok y w := by
            rw [hei]
            simp [Instr.keyThatStays, hsb]
          simp only [Instr.mapUpdate, Sem.run_bind, run_underlying h1, Result.andThen_ok, hgo, checkKey_ok h3, hfk, hks, hso]
      · rename_i hf
        cases h
        obtain ⟨r', g1, g2⟩ := findV_sound h2 h3 hy hmr hf
        cases r' with
        | some qq => exact g2.elim
        | none =>
          refine ⟨w.putObj p.blk (.map (xs.push { key := y, val := z, born := c }) (c + 1)), ?_, hR.set_solid hg rfl rfl hp ⟨_, rfl, by rw [Array.toList_push]; exact hmr.push (x := { key := y, val := z, born := c }) hy hz⟩⟩
          have hfk : (Instr.findKey kt y xs.toList).run C.P w = .ok none w := by simp only [Instr.findKey, Sem.run_bind, run_underlying h2, Result.andThen_ok, g1, Sem.run_pure]
          simp only [Instr.mapUpdate, Sem.run_bind, run_underlying h1, Result.andThen_ok, hgo, checkKey_ok h3, hfk, hso]
      · cases h
    · cases h
  · cases h

def dlP (σ : H) (kk : KK) (m key : V) : Option H :=
  match m with
  | .nilm => some σ
  | .map r => match σ.get r with
    | some (.map es c) => match findV kk key es 0 with
      | some (some (i, _)) => some (σ.set r (.map (es.eraseIdx i) c))
      | some none => some (σ.set r (.map es c))
      | none => none
    | _ => none
  | _ => none

theorem MRel.erase {ρ : Pl} : ∀ {es : MEs} {xs : List MapEntry} (i : Nat), MRel ρ es xs → MRel ρ (es.eraseIdx i) (xs.eraseIdx i)
  | [], xs, i, h => by have h : xs = [] := h; subst h; simp [MRel]
  | (k2, v2, b) :: es, xs, i, h => by
    obtain ⟨y, ys, rfl, h1, h2, h3, h4⟩ := h
    cases i with
    | zero => simpa using h4
    | succ i => simp only [List.eraseIdx_cons_succ]; exact ⟨_, _, rfl, h1, h2, h3, h4.erase i⟩

theorem dl_sound (hR : Rl C ρ σ w) {t : TypeId} {k : KK × V} {m key : V} {x y : Value} {σ' : H} {ts : Array TypeId} {ty : TypeId} (ht : ts[0]? = some t) (hk : mpK C.P t = some k) (hm : VR ρ m x) (hy : VR ρ key y) (h : dlP σ k.1 m key = some σ') :
    ∃ w', (Builtin.delete_ ts ty #[x, y]).run C.P w = .ok (.tuple #[]) w' ∧ Rl C ρ σ' w' := by
  obtain ⟨kk, zv⟩ := k
  obtain ⟨kt, et, d, h1, h2, h3, h4⟩ := mpK_parts hk
  have e0 : (#[x, y] : Array Value)[0]? = some x := rfl
  have e1 : (#[x, y] : Array Value)[1]? = some y := rfl
  unfold dlP at h
  split at h
  · cases h
    simp only [VR] at hm; subst hm
    exact ⟨w, by simp only [Builtin.delete_, ht, e0, e1, Sem.run_bind, run_underlying h1, Result.andThen_ok, checkKey_ok h3, Sem.run_pure], hR⟩
  · rename_i r
    split at h
    · rename_i es c hg
      simp only [VR] at hm
      obtain ⟨p, hp, rfl⟩ := hm
      obtain ⟨q, ob, hq, hB, hob, xs, rfl, hmr⟩ := hR.obj _ _ hg rfl
      rw [hp] at hq; cases hq
      have hgo : (getObj p.blk).run C.P w = .ok (.map xs c) w := by simp [getObj, Sem.run, hob]
      have hso : ∀ o, (setObj p.blk o).run C.P w = .ok () (w.putObj p.blk o) := by intro o; simp [setObj, Sem.run, hob, World.putObj]
      split at h
      · rename_i i v hf
        cases h
        obtain ⟨r', g1, g2⟩ := findKey_ok (P := C.P) (w := w) h2 h3 hy hmr hf
        cases r' with
        | none => exact g2.elim
        | some qq =>
          obtain ⟨j, v'⟩ := qq
          obtain ⟨rfl, g2⟩ := g2
          refine ⟨w.putObj p.blk (.map (xs.eraseIdxIfInBounds i) c), ?_, hR.set_solid hg rfl rfl hp ⟨_, rfl, by rw [Array.toList_eraseIdxIfInBounds]; exact hmr.erase i⟩⟩
          simp only [Builtin.delete_, ht, e0, e1, Sem.run_bind, run_underlying h1, Result.andThen_ok, hgo, checkKey_ok h3, g1, hso, Sem.run_pure]
      · rename_i hf
        cases h
        obtain ⟨r', g1, g2⟩ := findKey_ok (P := C.P) (w := w) h2 h3 hy hmr hf
        cases r' with
        | some qq => exact g2.elim
        | none =>
          refine ⟨w.putObj p.blk (.map xs c), ?_, hR.set_solid hg rfl rfl hp ⟨_, rfl, hmr⟩⟩
          simp only [Builtin.delete_, ht, e0, e1, Sem.run_bind, run_underlying h1, Result.andThen_ok, hgo, checkKey_ok h3, g1, hso, Sem.run_pure]
      · cases h
    · cases h
  · cases h

/-! ### New objects -/
theorem mkmap_sound (hR : Rl C ρ σ w) : ∃ ρ', Ext ρ ρ' ∧ Rl C ρ' (σ.push (.map [] 0)) (w.alloc (.map #[] 0)) ∧ VR ρ' (.map σ.size) (.map (some w.heap.size)) := by
  obtain ⟨h1, h2⟩ := hR.push_solid (o := .map [] 0) (x := .map #[] 0) rfl ⟨_, rfl, rfl⟩
  refine ⟨_, h2, h1, ?_⟩
  simp only [VR]
  exact ⟨⟨w.heap.size, 0, 0⟩, by simp [Pl.new_at], rfl⟩

theorem sit_sound (hR : Rl C ρ σ w) (b : List UInt8) : ∃ ρ', Ext ρ ρ' ∧ Rl C ρ' (σ.push (.sit b 0)) (w.alloc (.stringIter ⟨⟨b⟩⟩ 0)) ∧ VR ρ' (.iter σ.size) (.pointer (some ⟨w.heap.size, 0, none⟩)) := by
  obtain ⟨h1, h2⟩ := hR.push_solid (o := .sit b 0) (x := .stringIter ⟨⟨b⟩⟩ 0) rfl rfl
  refine ⟨_, h2, h1, ?_⟩
  simp only [VR]
  exact ⟨⟨w.heap.size, 0, 0⟩, by simp [Pl.new_at], rfl⟩

def nxP (σ : H) (it : V) : Option (V × H) :=
  match it with
  | .iter r => match σ.get r with
    | some (.sit b pos) => if pos < b.length then
        some (.tuple [.bool true, .int .i64 pos, .int .i32 (Utf8.decode ⟨⟨b⟩⟩ pos).1], σ.set r (.sit b (pos + (Utf8.decode ⟨⟨b⟩⟩ pos).2)))
      else some (.tuple [.bool false], σ)
    | _ => none
  | _ => none

theorem nx_sound (hR : Rl C ρ σ w) {it v : V} {x : Value} {ty : TypeId} {σ' : H} (hx : VR ρ it x) (h : nxP σ it = some (v, σ')) :
    ∃ y w', (Instr.next x true ty).run C.P w = .ok y w' ∧ Rl C ρ σ' w' ∧ VR ρ v y := by
  unfold nxP at h
  split at h
  · rename_i r
    split at h
    · rename_i b pos hg
      simp only [VR] at hx
      obtain ⟨p, hp, rfl⟩ := hx
      obtain ⟨q, ob, hq, hB, hob, hor⟩ := hR.obj _ _ hg rfl
      rw [hp] at hq; cases hq
      have hor : ob = .stringIter ⟨⟨b⟩⟩ pos := hor
      subst hor
      have hgo : (getObj p.blk).run C.P w = .ok (.stringIter ⟨⟨b⟩⟩ pos) w := by simp [getObj, Sem.run, hob]
      have hso : ∀ o, (setObj p.blk o).run C.P w = .ok () (w.putObj p.blk o) := by intro o; simp [setObj, Sem.run, hob, World.putObj]
      have hsz : (⟨⟨b⟩⟩ : ByteArray).size = b.length := rfl
      split at h
      · rename_i hlt
        cases h
        refine ⟨.tuple #[.bool true, goInt pos, .int .i32 (Utf8.decode ⟨⟨b⟩⟩ pos).1], w.putObj p.blk (.stringIter ⟨⟨b⟩⟩ (pos + (Utf8.decode ⟨⟨b⟩⟩ pos).2)), ?_, hR.set_solid hg rfl rfl hp rfl, ?_⟩
        · simp only [Instr.next, Sem.run_bind, hgo, Result.andThen_ok, hsz, hlt, if_true, hso, Sem.run_pure]
        · simp only [VR, VRs]; exact ⟨_, rfl, _, _, rfl, rfl, _, _, rfl, rfl, _, _, rfl, rfl, rfl⟩
      · rename_i hlt
        cases h
        refine ⟨.tuple #[.bool false], w, ?_, hR, by simp only [VR, VRs]; exact ⟨_, rfl, _, _, rfl, rfl, rfl⟩⟩
        simp only [Instr.next, Sem.run_bind, hgo, Result.andThen_ok, hsz, hlt, if_false, Sem.run_pure]
    · cases h
  · cases h

/-! ### clear, copy, bytes of a string -/
def clP (σ : H) (k : SlK) (x : V) : Option H :=
  match x with
  | .nils => some σ
  | .slice a sz len cb ex => if sz = k.sz then (if len = 0 then some σ else σ.store a (zeros k len)) else none
  | _ => none

theorem cl_sound (hR : Rl C ρ σ w) {t : TypeId} {ts : Array TypeId} {ty : TypeId} {k : SlK} {v : V} {x : Value} {σ' : H} (ht : ts[0]? = some t) (hk : slInfo C.P t = some k) (hx : VR ρ v x) (h : clP σ k v = some σ') :
    ∃ w', (Builtin.clear_ ts ty #[x]).run C.P w = .ok (.tuple #[]) w' ∧ Rl C ρ σ' w' := by
  obtain ⟨i, z, hok⟩ := slInfo_ok hk
  have e0 : (#[x] : Array Value)[0]? = some x := rfl
  unfold clP at h
  split at h
  · cases h
    simp only [VR] at hx; subst hx
    exact ⟨w, by simp only [Builtin.clear_, ht, e0, Sem.run_bind, run_underlying hok.under, Result.andThen_ok, Sem.run_pure], hR⟩
  · rename_i a sz len cb ex
    split at h
    · rename_i hsz
      simp only [VR] at hx
      obtain ⟨p, ad, c, hp, rfl, hl1, hl2, hl3, hl4, hl5⟩ := hx
      split at h
      · rename_i h0
        cases h; subst h0
        exact ⟨w, by simp only [Builtin.clear_, ht, e0, Sem.run_bind, run_underlying hok.under, Result.andThen_ok, Sem.run_pure], hR⟩
      · rename_i h0
        have had : ad = p.at a.off := by
          rcases hl4 with h | h
          · omega
          · exact h.1
        subst had
        have hz : VRs ρ (zeros k len) (Builtin.zeroCells z.cells len).toList := by
          rw [zeroCells_eq hok len]; exact zeros_rel hok len
        obtain ⟨h1, h2⟩ := hR.store h hp hz
        refine ⟨_, ?_, h2⟩
        obtain ⟨n, rfl⟩ : ∃ n, len = n + 1 := ⟨len - 1, by omega⟩
        simp only [Builtin.clear_, ht, e0, Sem.run_bind, run_underlying hok.under, Result.andThen_ok, hok.run_zero, h1, Sem.run_pure]
    · cases h
  · cases h

def cpP (σ : H) (k : SlK) (dst src : V) : Option (V × H) :=
  match apX σ k.sz src with
  | some (ns, n) => match dst with
    | .nils => if n = 0 then some (.int .i64 0, σ) else none
    | .slice a sz len cb ex => if sz = k.sz ∧ n ≤ len then (if n = 0 then some (.int .i64 0, σ) else match σ.store a ns with
        | some σ' => some (.int .i64 n, σ')
        | none => none) else none
    | _ => none
  | none => none

theorem cp_sound (hR : Rl C ρ σ w) {t : TypeId} {ts : Array TypeId} {ty : TypeId} {k : SlK} {u v r : V} {x y : Value} {σ' : H} (ht : ts[0]? = some t) (hk : slInfo C.P t = some k) (hx : VR ρ u x) (hy : VR ρ v y) (h : cpP σ k u v = some (r, σ')) :
    ∃ z w', (Builtin.copy_ ts ty #[x, y]).run C.P w = .ok z w' ∧ Rl C ρ σ' w' ∧ VR ρ r z := by
  obtain ⟨i, z, hok⟩ := slInfo_ok hk
  have e0 : (#[x, y] : Array Value)[0]? = some x := rfl
  have e1 : (#[x, y] : Array Value)[1]? = some y := rfl
  unfold cpP at h
  split at h
  · rename_i ns n hns
    obtain ⟨hln, new, hnew, hnsz, hfc⟩ := apX_sound hR hy hns
    split at h
    · split at h
      · rename_i h0
        cases h; subst h0
        simp only [VR] at hx; subst hx
        refine ⟨goInt (Nat.min 0 0), w, ?_, hR, by simp only [VR]; rfl⟩
        simp only [Builtin.copy_, ht, e0, e1, Sem.run_bind, run_underlying hok.under, Result.andThen_ok, hln, hok.run_size, Nat.min_def, Nat.le_refl, if_true, hfc, Sem.run_pure]
      · cases h
    · rename_i a sz len cb ex
      split at h
      · rename_i hc
        obtain ⟨hsz, hle⟩ := hc
        simp only [VR] at hx
        obtain ⟨p, ad, c, hp, rfl, hl1, hl2, hl3, hl4, hl5⟩ := hx
        have hmin : Nat.min n len = n := Nat.min_eq_left hle
        split at h
        · rename_i h0
          cases h; subst h0
          have hn0 : new.toList = [] := by
            have : new.size = 0 := by simpa using hnsz
            exact List.eq_nil_of_length_eq_zero (by simpa using this)
          refine ⟨goInt (0 : Nat), w, ?_, hR, by simp only [VR]; rfl⟩
          simp only [Builtin.copy_, ht, e0, e1, Sem.run_bind, run_underlying hok.under, Result.andThen_ok, hln, hok.run_size, hmin, hfc, hn0, storeCells, Sem.run_pure]
        · rename_i h0
          split at h
          · rename_i σ2 hst
            cases h
            have had : ad = p.at a.off := by
              rcases hl4 with h | h
              · omega
              · exact h.1
            subst had
            obtain ⟨h1, h2⟩ := hR.store hst hp hnew
            refine ⟨goInt (n : Nat), _, ?_, h2, by simp only [VR]; rfl⟩
            simp only [Builtin.copy_, ht, e0, e1, Sem.run_bind, run_underlying hok.under, Result.andThen_ok, hln, hok.run_size, hmin, hfc, h1, Sem.run_pure]
          · cases h
      · cases h
    · cases h
  · cases h

/-- Bytes out of a string. -/
def s2b (σ : H) (b : List UInt8) : V := .slice (newPA σ b.length) 1 b.length b.length false

theorem s2b_sound (hR : Rl C ρ σ w) {s d e : TypeId} {b : List UInt8} (hs : C.P.underlying s = some .string) (hd : C.P.underlying d = some (.slice e)) (he : C.P.underlying e = some (.int .u8)) :
    ∃ ρ' w' y, (convert s d (.string ⟨⟨b⟩⟩)).run C.P w = .ok y w' ∧ Ext ρ ρ' ∧ Rl C ρ' (mkRow σ e (b.map fun c => .int .u8 c.toNat)) w' ∧ VR ρ' (s2b σ b) y := by
  have hrun := run_bytes_of_string (P := C.P) w s d e ⟨⟨b⟩⟩ hs hd he
  have hge : b.length ≤ grownCap w b.length 0 e := by
    exact grownCap_ge w b.length 0 e
  have hsz : (bytesRow ⟨⟨b⟩⟩ (grownCap w b.length 0 e)).size = grownCap w b.length 0 e := by
    simp [bytesRow]
    show b.length + (grownCap w b.length 0 e - (⟨⟨b⟩⟩ : ByteArray).size) = _
    have : (⟨⟨b⟩⟩ : ByteArray).size = b.length := rfl
    omega
  have htl : (bytesRow ⟨⟨b⟩⟩ (grownCap w b.length 0 e)).toList.take b.length = b.map fun c => Value.int .u8 c.toNat := by
    simp [bytesRow]
  obtain ⟨h1, h2⟩ := (hR.drew).push_rowF { cells := b.map fun c => V.int .u8 c.toNat, elem := e, low := (b.map fun c => V.int .u8 c.toNat).length, own := true } (bytesRow ⟨⟨b⟩⟩ (grownCap w b.length 0 e)) e
    ((bytesRow ⟨⟨b⟩⟩ (grownCap w b.length 0 e)).size, (bytesRow ⟨⟨b⟩⟩ (grownCap w b.length 0 e)).size + 1) (.inr (Nat.le_refl _)) rfl (Nat.le_refl _) (by simp [hsz]; omega) (by
      simp only [List.length_map]
      rw [htl]
      clear hrun htl hsz hge
      induction b with
      | nil => simp [VRs]
      | cons c b ih => simp only [List.map_cons, VRs, VR]; exact ⟨_, _, rfl, rfl, ih⟩)
  refine ⟨_, _, _, hrun, h2, h1, ?_⟩
  simp only [s2b, VR, newPA, List.length_map]
  refine ⟨_, _, _, by rw [Pl.new_at, if_pos rfl, if_pos (Nat.le_refl _)], rfl, Nat.le_refl _, hge, by simp, .inr ⟨by simp [Place.at], by show 0 + grownCap w b.length 0 e * 1 ≤ (bytesRow ⟨⟨b⟩⟩ (grownCap w b.length 0 e)).size; rw [hsz]; omega⟩, fun e => by cases e⟩

end Go.Am
