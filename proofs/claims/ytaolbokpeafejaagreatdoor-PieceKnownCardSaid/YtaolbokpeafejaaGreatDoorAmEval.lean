/-
  AM: the operations that only read, together. (Lemmas alone; no program.)
-/
import Derived.Test.YtaolbokpeafejaaGreatDoorAmOps5
set_option linter.unusedVariables false
set_option linter.unusedSimpArgs false
namespace Go.Am
open Go Go.RowKit

variable {C : Ctx} {ρ : Pl} {σ : H} {w : World}

inductive CK where
  | int (k : IntKind)
  | flt (k : FloatKind)
  | id
  | bstr

def cvK (P : Program) (src dst : TypeId) : Option CK :=
  match P.underlying src, P.underlying dst with
  | some (.int _), some (.int k) => some (.int k)
  | some (.float _), some (.int k) => some (.int k)
  | some (.int _), some (.float k) => some (.flt k)
  | some (.float _), some (.float k) => some (.flt k)
  | some .string, some .string => some .id
  | some (.slice e), some .string => match P.underlying e with
    | some (.int .u8) => some .bstr
    | _ => none
  | _, _ => none

def cvP (σ : H) (k : CK) (x : V) : Option V :=
  match k, x with
  | .int k, .int _ n => some (.int k (k.wrap n))
  | .int k, .flt s b => match (s.decode b).toInt .zero with
    | some n => if k.min ≤ n ∧ n ≤ k.max then some (.int k n) else none
    | none => none
  | .flt k, .int _ n => some (.flt k (k.nearest n))
  | .flt k, .flt s b => if s = k then some (.flt k b) else none
  | .id, .str s => some (.str s)
  | .bstr, x => bytesV σ x
  | _, _ => none

theorem cv_sound (hR : Rl C ρ σ w) {s d : TypeId} {k : CK} {v r : V} {x : Value} (hk : cvK C.P s d = some k) (hv : VR ρ v x) (h : cvP σ k v = some r) :
    ∃ y, (convert s d x).run C.P w = .ok y w ∧ VR ρ r y := by
  unfold cvK at hk
  split at hk
  iterate 2
    · rename_i k1 k2 h1 h2
      cases hk
      cases v <;> simp only [cvP, reduceCtorEq] at h
      · simp only [Option.some.injEq] at h
        subst h
        simp only [VR] at hv; subst hv
        exact ⟨_, by simp only [convert, Sem.run_bind, run_underlying h1, run_underlying h2, Result.andThen_ok, Conv.intToInt, Sem.run_pure]; rfl, by simp only [VR]⟩
      · simp only [VR] at hv; subst hv
        split at h
        · rename_i n hn
          split at h
          · rename_i hb
            simp only [Option.some.injEq] at h
            subst h
            exact ⟨_, by simp only [convert, Sem.run_bind, run_underlying h1, run_underlying h2, Result.andThen_ok, Conv.floatToInt, hn, hb, and_self, if_true, Sem.run_pure]; rfl, by simp only [VR]⟩
          · simp at h
        · simp at h
  iterate 2
    · rename_i k1 k2 h1 h2
      cases hk
      cases v <;> simp only [cvP, reduceCtorEq] at h
      · simp only [Option.some.injEq] at h
        subst h
        simp only [VR] at hv; subst hv
        exact ⟨_, by simp only [convert, Sem.run_bind, run_underlying h1, run_underlying h2, Result.andThen_ok, Conv.intToFloat, Sem.run_pure]; rfl, by simp only [VR]⟩
      · simp only [VR] at hv; subst hv
        split at h
        · rename_i hb
          subst hb
          simp only [Option.some.injEq] at h
          subst h
          exact ⟨_, by simp only [convert, Sem.run_bind, run_underlying h1, run_underlying h2, Result.andThen_ok, Conv.floatToFloat, if_true, Sem.run_pure]; rfl, by simp only [VR]⟩
        · simp at h
  · rename_i h1 h2
    cases hk
    cases v <;> simp only [cvP, reduceCtorEq, Option.some.injEq] at h
    subst h
    simp only [VR] at hv; subst hv
    exact ⟨_, by simp only [convert, Sem.run_bind, run_underlying h1, run_underlying h2, Result.andThen_ok, Sem.run_pure]; rfl, by simp only [VR]⟩
  · rename_i e h1 h2
    split at hk
    · rename_i he
      cases hk
      simp only [cvP] at h
      obtain ⟨y, hy, hr⟩ := bytes_sound hR hv h
      refine ⟨y, ?_, hr⟩
      have hsl : ∃ a l c, x = .slice a l c := by
        cases v <;> simp [bytesV] at h
        · simp only [VR] at hv; exact ⟨_, _, _, hv⟩
        · simp only [VR] at hv; obtain ⟨p, ad, c, _, rfl, _⟩ := hv; exact ⟨_, _, _, rfl⟩
      obtain ⟨a, l, c, rfl⟩ := hsl
      rw [run_convert_bytes_string w s d e a l c h1 he h2]
      exact hy
    · simp at hk
  · simp at hk

inductive LK where
  | str
  | sl
  | arr (n : Nat)

def lnK (P : Program) (t : TypeId) : Option LK :=
  match P.underlying t with
  | some .string => some .str
  | some (.slice _) => some .sl
  | some (.array n _) => some (.arr n)
  | _ => none

def lnP (k : LK) (x : V) : Option V :=
  match k, x with
  | .str, .str s => some (.int .i64 s.length)
  | .sl, .nils => some (.int .i64 0)
  | .sl, .slice _ _ n _ _ => some (.int .i64 n)
  | .arr n, _ => some (.int .i64 n)
  | _, _ => none

theorem ln_sound {P : Program} {t ty : TypeId} {ts : Array TypeId} {k : LK} {v r : V} {x : Value} (ht : ts[0]? = some t) (hk : lnK P t = some k) (hv : VR ρ v x) (h : lnP k v = some r) :
    ∃ y, (Builtin.len_ ts ty #[x]).run P w = .ok y w ∧ VR ρ r y := by
  have h0 : (#[x] : Array Value)[0]? = some x := rfl
  unfold lnK at hk
  split at hk
  · rename_i hu
    cases hk
    cases v <;> simp only [lnP, reduceCtorEq, Option.some.injEq] at h
    subst h
    simp only [VR] at hv; subst hv
    exact ⟨_, by simp only [Builtin.len_, ht, h0, Sem.run_bind, run_underlying hu, Result.andThen_ok, Sem.run_pure, goInt]; rfl, by simp only [VR]; rfl⟩
  · rename_i e hu
    cases hk
    cases v <;> simp only [lnP, reduceCtorEq, Option.some.injEq] at h
    · subst h
      simp only [VR] at hv; subst hv
      exact ⟨_, by simp only [Builtin.len_, ht, h0, Sem.run_bind, run_underlying hu, Result.andThen_ok, Sem.run_pure, goInt]; rfl, by simp only [VR]; rfl⟩
    · subst h
      simp only [VR] at hv; obtain ⟨p, ad, c, _, rfl, _⟩ := hv
      exact ⟨_, by simp only [Builtin.len_, ht, h0, Sem.run_bind, run_underlying hu, Result.andThen_ok, Sem.run_pure, goInt]; rfl, by simp only [VR]⟩
  · rename_i n e hu
    cases hk
    simp only [lnP, Option.some.injEq] at h
    subst h
    exact ⟨_, by simp only [Builtin.len_, ht, h0, Sem.run_bind, run_underlying hu, Result.andThen_ok, Sem.run_pure, goInt]; rfl, by simp only [VR]⟩
  · simp at hk

def caP (k : LK) (x : V) : Option V :=
  match k, x with
  | .sl, .nils => some (.int .i64 0)
  | .sl, .slice _ _ _ n true => some (.int .i64 n)
  | _, _ => none

theorem ca_sound {P : Program} {t ty : TypeId} {ts : Array TypeId} {k : LK} {v r : V} {x : Value} (ht : ts[0]? = some t) (hk : lnK P t = some k) (hv : VR ρ v x) (h : caP k v = some r) :
    ∃ y, (Builtin.cap_ ts ty #[x]).run P w = .ok y w ∧ VR ρ r y := by
  have h0 : (#[x] : Array Value)[0]? = some x := rfl
  unfold lnK at hk
  unfold caP at h
  split at h
  · split at hk
    · simp at hk
    · rename_i e hu
      cases h
      simp only [VR] at hv; subst hv
      exact ⟨_, by simp only [Builtin.cap_, ht, h0, Sem.run_bind, run_underlying hu, Result.andThen_ok, Sem.run_pure, goInt]; rfl, by simp only [VR]; rfl⟩
    · simp at hk
    · simp at hk
  · split at hk
    · simp at hk
    · rename_i e hu
      cases h
      simp only [VR] at hv; obtain ⟨p, ad, c, _, rfl, _, _, _, _, hc⟩ := hv
      have hc' := hc trivial
      subst hc'
      exact ⟨_, by simp only [Builtin.cap_, ht, h0, Sem.run_bind, run_underlying hu, Result.andThen_ok, Sem.run_pure, goInt]; rfl, by simp only [VR]⟩
    · simp at hk
    · simp at hk
  · simp at h

def max2V : V → V → Option V
  | .int k x, .int _ y => some (.int k (if y > x then y else x))
  | _, _ => none
def min2V : V → V → Option V
  | .int k x, .int _ y => some (.int k (if y < x then y else x))
  | _, _ => none

def foldV (f : V → V → Option V) : V → List V → Option V
  | x, [] => some x
  | x, y :: ys => match f x y with
    | some z => foldV f z ys
    | none => none

theorem max2_sound {P : Program} {x y r : V} {x' y' : Value} (hx : VR ρ x x') (hy : VR ρ y y') (h : max2V x y = some r) : ∃ z, (Builtin.max2 x' y').run P w = .ok z w ∧ VR ρ r z := by
  cases x <;> cases y <;> simp only [max2V, reduceCtorEq, Option.some.injEq] at h
  subst h
  simp only [VR] at hx hy; subst hx hy
  exact ⟨_, by simp only [Builtin.max2, Sem.run_pure]; rfl, by simp only [VR]⟩

theorem min2_sound {P : Program} {x y r : V} {x' y' : Value} (hx : VR ρ x x') (hy : VR ρ y y') (h : min2V x y = some r) : ∃ z, (Builtin.min2 x' y').run P w = .ok z w ∧ VR ρ r z := by
  cases x <;> cases y <;> simp only [min2V, reduceCtorEq, Option.some.injEq] at h
  subst h
  simp only [VR] at hx hy; subst hx hy
  exact ⟨_, by simp only [Builtin.min2, Sem.run_pure]; rfl, by simp only [VR]⟩

theorem foldV_sound {P : Program} {f : V → V → Option V} {g : Value → Value → Sem Value}
    (hf : ∀ (x y r : V) (x' y' : Value), VR ρ x x' → VR ρ y y' → f x y = some r → ∃ z, (g x' y').run P w = .ok z w ∧ VR ρ r z) :
    ∀ (ys : List V) (ys' : List Value) (x r : V) (x' : Value), VR ρ x x' → VRs ρ ys ys' → foldV f x ys = some r → ∃ z, (ys'.foldlM g x').run P w = .ok z w ∧ VR ρ r z
  | [], ys', x, r, x', hx, hy, h => by
    simp only [VRs] at hy; subst hy
    simp only [foldV, Option.some.injEq] at h; subst h
    exact ⟨x', by simp, hx⟩
  | y :: ys, ys', x, r, x', hx, hy, h => by
    simp only [VRs] at hy
    obtain ⟨y', ys'', rfl, h1, h2⟩ := hy
    simp only [foldV] at h
    split at h
    · rename_i z hz
      obtain ⟨z', e1, e2⟩ := hf x y z x' y' hx h1 hz
      obtain ⟨u, e3, e4⟩ := foldV_sound hf ys ys'' z r z' e2 h2 h
      exact ⟨u, by simp [List.foldlM_cons, e1, e3], e4⟩
    · simp at h

/-! ### Binary operations by the type -/

inductive BK where
  | prim
  | flt
  | eq (e : TE)

def isC : Operand → Bool
  | .const _ => true
  | _ => false

def bnK (P : Program) (op : BinOp) (t : TypeId) (cst : Bool) : Option BK :=
  match P.underlying t with
  | some (.int _) | some .string => some .prim
  | some (.float _) => some .flt
  | _ => match op with
    | .eql | .neq => match tyE P 8 t with
      | some .ifc => if cst then some (.eq .ifc) else none
      | some (.st fs) => if P.eqGuardType P.depth t then none else some (.eq (.st fs))
      | some e => some (.eq e)
      | none => none
    | _ => none

def bnP (k : BK) (op : BinOp) (x y : V) : Option V :=
  match k with
  | .prim => match x, y with
    | .int k a, .int k' b => if op = .shl ∨ op = .shr ∨ k = k' then intOp op k a b else none
    | .str a, .str b => strOp op a b
    | _, _ => none
  | .flt => match x, y with
    | .flt k a, .flt k' b => if k = k' then fltOp op k a b else none
    | _, _ => none
  | .eq e => match op with
    | .eql => match eqS e x y with
      | some b => some (.bool b)
      | none => none
    | .neq => match eqS e x y with
      | some b => some (.bool (!b))
      | none => none
    | _ => none

theorem intOp_kind {op : BinOp} {k : IntKind} {a b : Int} {v : V} (h : intOp op k a b = some v) : (∃ n, v = .int k n) ∨ ∃ c, v = .bool c := by
  cases op <;> simp only [intOp] at h <;> (try split at h) <;> simp at h <;> subst h <;> first | exact .inl ⟨_, rfl⟩ | exact .inr ⟨_, rfl⟩

theorem run_intOp2 {P : Program} {op : BinOp} {k k' : IntKind} {a b : Int} {v : V} (t : TypeId) (hk : op = .shl ∨ op = .shr ∨ k = k') (h : intOp op k a b = some v) :
    ∃ x, (binOp op t (.int k a) (.int k' b)).run P w = .ok x w ∧ ∀ ρ, VR ρ v x := by
  by_cases hkk : k = k'
  · subst hkk; exact run_intOp t h
  · cases op <;> simp [hkk] at hk <;> simp only [intOp] at h <;> split at h <;> first | (simp at h; done) | skip
    all_goals
      rename_i hb
      cases h
      exact ⟨_, by simp only [binOp, Op.shift, hb, if_false, Sem.run_pure]; rfl, fun _ => by simp only [VR]; rfl⟩

theorem run_strOp {P : Program} {op : BinOp} {a b : List UInt8} {v : V} (t : TypeId) (h : strOp op a b = some v) :
    ∃ x, (binOp op t (.string ⟨⟨a⟩⟩) (.string ⟨⟨b⟩⟩)).run P w = .ok x w ∧ ∀ ρ, VR ρ v x := by
  have e1 : (⟨⟨a⟩⟩ : ByteArray).toList = a := by rw [ByteArray.toList_eq]
  have e2 : (⟨⟨b⟩⟩ : ByteArray).toList = b := by rw [ByteArray.toList_eq]
  have s1 : (⟨⟨a⟩⟩ : ByteArray).size = a.length := rfl
  have s2 : (⟨⟨b⟩⟩ : ByteArray).size = b.length := rfl
  cases op <;> simp only [strOp, reduceCtorEq, Option.some.injEq] at h
  case add =>
    split at h
    · simp at h
    · rename_i hn
      cases h
      refine ⟨.string (⟨⟨a⟩⟩ ++ ⟨⟨b⟩⟩), by simp only [binOp, Op.stringOp, s1, s2, hn, if_false, Sem.run_pure], fun _ => ?_⟩
      simp only [VR]
      rfl
  all_goals
    subst h
    refine ⟨_, by simp only [binOp, Op.stringOp, Sem.run_pure, e1, e2]; rfl, fun _ => ?_⟩
    simp [VR, beqd]

theorem run_fltOp {P : Program} {op : BinOp} {k : FloatKind} {a b : Nat} {v : V} (t : TypeId) (h : fltOp op k a b = some v) :
    ∃ x, (binOp op t (.float k a) (.float k b)).run P w = .ok x w ∧ ∀ ρ, VR ρ v x := by
  cases op <;> simp only [fltOp, reduceCtorEq] at h <;> first
    | (simp only [Option.some.injEq] at h; subst h; exact ⟨_, by simp only [binOp, Op.floatCmp, Op.floatEq, ne_eq, not_true_eq_false, if_false, Sem.run_pure]; rfl, fun _ => by simp only [VR]; rfl⟩)
    | (simp only [Option.some.injEq] at h; subst h; exact ⟨_, by simp only [binOp, Op.floatCmp, ne_eq, not_true_eq_false, if_false, Sem.run_pure]; rfl, fun _ => by simp only [VR]⟩)
    | (split at h
       · rename_i r hr
         simp only [Option.some.injEq] at h; subst h
         exact ⟨_, by simp only [binOp, Op.floatArith, ne_eq, not_true_eq_false, if_false, Sem.run_bind, hr, Sem.run_pure, Result.andThen_ok]; rfl, fun _ => by simp only [VR]⟩
       · simp at h)

theorem guard_plain {P : Program} {op : BinOp} {t : TypeId} {x y : Operand} {a b : Value} (h1 : ∀ c d, a = .agg c → b = .agg d → False) (h2 : a = .nilIface → b = .nilIface → False) :
    (eqGuard op t x y a b).run P w = .ok () w := by
  unfold eqGuard
  split
  case h_3 => rfl
  all_goals
    simp only [Bool.not_true, Bool.false_eq_true, if_false]
    first
      | rfl
      | (split
         · exact (h2 rfl rfl).elim
         · exact (h1 _ _ rfl rfl).elim
         · rfl)

theorem guard_agg {P : Program} {op : BinOp} {t : TypeId} {x y : Operand} {c d : Array Value} (h : P.eqGuardType P.depth t = false) :
    (eqGuard op t x y (.agg c) (.agg d)).run P w = .ok () w := by
  unfold eqGuard
  split
  case h_3 => rfl
  all_goals simp [h]

theorem guard_nili {P : Program} {op : BinOp} {t : TypeId} {x y : Operand} (h : (isC x || isC y) = true) :
    (eqGuard op t x y .nilIface .nilIface).run P w = .ok () w := by
  unfold eqGuard
  split
  case h_3 => rfl
  all_goals
    simp only [Bool.not_true, Bool.false_eq_true, if_false]
    cases x <;> cases y <;> first | (simp [isC] at h; done) | simp

/-- What the value of an abstract one may be. -/
theorem VR.nili_inv {v : V} (h : VR ρ v .nilIface) : v = .nili := by
  cases v <;> simp only [VR] at h <;> first
    | rfl
    | (cases h; done)
    | (obtain ⟨_, _, h⟩ := h; cases h; done)
    | (obtain ⟨_, h, _⟩ := h; cases h; done)
    | (obtain ⟨_, _, h, _⟩ := h; cases h; done)
    | (obtain ⟨_, _, _, _, h, _⟩ := h; cases h; done)

theorem VR.agg_inv {v : V} {c : Array Value} (h : VR ρ v (.agg c)) : ∃ cs, v = .agg cs := by
  cases v <;> simp only [VR] at h <;> first
    | exact ⟨_, rfl⟩
    | (cases h; done)
    | (obtain ⟨_, _, h⟩ := h; cases h; done)
    | (obtain ⟨_, h, _⟩ := h; cases h; done)
    | (obtain ⟨_, _, h, _⟩ := h; cases h; done)
    | (obtain ⟨_, _, _, _, h, _⟩ := h; cases h; done)

def V.plain : V → Bool
  | .int .. | .flt .. | .str _ => true
  | _ => false

theorem binOp_eq {P : Program} {t : TypeId} {e : TE} {u v : V} {x y : Value} {b : Bool} (hq : eqS e u v = some b) (hx : VR ρ u x) (hy : VR ρ v y)
    (he : e ≠ .int) (hf : e ≠ .flt) (hs : e ≠ .str) (hrun : (Op.equal t x y).run P w = .ok b w) :
    (binOp .eql t x y).run P w = .ok (.bool b) w ∧ (binOp .neq t x y).run P w = .ok (.bool (!b)) w := by
  unfold eqS at hq
  split at hq <;> first | exact absurd rfl he | exact absurd rfl hf | exact absurd rfl hs | (cases hq; done) | skip
  all_goals
    simp only [VR] at hx hy
    (try obtain ⟨_, _, _, _, rfl, _⟩ := hx) <;> (try obtain ⟨_, _, rfl, _⟩ := hx) <;> (try obtain ⟨_, rfl, _⟩ := hx) <;> (try obtain ⟨_, _, rfl⟩ := hx) <;> (try subst hx) <;>
    (try obtain ⟨_, _, _, _, rfl, _⟩ := hy) <;> (try obtain ⟨_, _, rfl, _⟩ := hy) <;> (try obtain ⟨_, rfl, _⟩ := hy) <;> (try obtain ⟨_, _, rfl⟩ := hy) <;> (try subst hy) <;>
    simp [binOp, hrun]

theorem tyE_kind {P : Program} {d : Nat} {t : TypeId} {e : TE} (hu1 : ∀ k, P.underlying t = some (.int k) → False) (hu2 : P.underlying t = some .string → False)
    (hu3 : ∀ k, P.underlying t = some (.float k) → False) (he : tyE P (d + 1) t = some e) : e ≠ .int ∧ e ≠ .flt ∧ e ≠ .str := by
  unfold tyE at he
  split at he
  case h_2 k hu => exact (hu1 k hu).elim
  case h_3 k hu => exact (hu3 k hu).elim
  case h_4 hu => exact (hu2 hu).elim
  case h_10 fs hu =>
    split at he
    · cases he
    · obtain ⟨l, _, rfl⟩ := Option.map_eq_some_iff.1 he
      simp
  all_goals first | (cases he; done) | (cases he; simp)

theorem bn_sound {P : Program} {op : BinOp} {t yt : TypeId} {x y : Operand} {k : BK} {u v r : V} {x' y' : Value} (hk : bnK P op t (isC x || isC y) = some k) (hx : VR ρ u x') (hy : VR ρ v y')
    (h : bnP k op u v = some r) : ∃ z, (do eqGuard op t x y x' y'; binOp op t x' y' : Sem Value).run P w = .ok z w ∧ VR ρ r z := by
  have plain : k = .prim ∨ k = .flt → ∃ z, (do eqGuard op t x y x' y'; binOp op t x' y' : Sem Value).run P w = .ok z w ∧ VR ρ r z := by
    intro hh
    rcases hh with rfl | rfl
    · simp only [bnP] at h
      cases u <;> cases v <;> simp only [reduceCtorEq] at h
      · split at h
        · rename_i hc
          simp only [VR] at hx hy; subst hx hy
          obtain ⟨z, hz, hr⟩ := run_intOp2 (P := P) (w := w) t hc h
          exact ⟨z, by rw [Sem.run_bind, guard_plain (by simp) (by simp)]; simp only [Result.andThen_ok, hz], hr ρ⟩
        · simp at h
      · simp only [VR] at hx hy; subst hx hy
        obtain ⟨z, hz, hr⟩ := run_strOp (P := P) (w := w) t h
        exact ⟨z, by rw [Sem.run_bind, guard_plain (by simp) (by simp)]; simp only [Result.andThen_ok, hz], hr ρ⟩
    · simp only [bnP] at h
      cases u <;> cases v <;> simp only [reduceCtorEq] at h
      split at h
      · rename_i hc
        subst hc
        simp only [VR] at hx hy; subst hx hy
        obtain ⟨z, hz, hr⟩ := run_fltOp (P := P) (w := w) t h
        exact ⟨z, by rw [Sem.run_bind, guard_plain (by simp) (by simp)]; simp only [Result.andThen_ok, hz], hr ρ⟩
      · simp at h
  have typed : ∀ (e : TE), k = .eq e → tyE P 8 t = some e → e ≠ .int → e ≠ .flt → e ≠ .str →
      (∀ fs, e = .st fs → P.eqGuardType P.depth t = false) → (e = .ifc → (isC x || isC y) = true) → ∃ z, (do eqGuard op t x y x' y'; binOp op t x' y' : Sem Value).run P w = .ok z w ∧ VR ρ r z := by
    intro e hke he n1 n2 n3 hst hifc
    subst hke
    have hq : ∃ b, eqS e u v = some b := by
      simp only [bnP] at h
      cases op <;> simp only [reduceCtorEq] at h <;> cases hq : eqS e u v <;> simp_all
    obtain ⟨b, hq⟩ := hq
    have hrun := eqS_sound P 8 t e u v x' y' w b he hq hx hy 10000 (by decide)
    obtain ⟨r1, r2⟩ := binOp_eq (P := P) (t := t) hq hx hy n1 n2 n3 hrun
    have hg : (eqGuard op t x y x' y').run P w = .ok () w := by
      by_cases h1 : ∃ c d, x' = .agg c ∧ y' = .agg d
      · obtain ⟨c, d, rfl, rfl⟩ := h1
        obtain ⟨cs, rfl⟩ := VR.agg_inv hx
        have hfs : ∃ fs, e = .st fs := by
          cases e <;> simp only [eqS, reduceCtorEq] at hq
          exact ⟨_, rfl⟩
        obtain ⟨fs, rfl⟩ := hfs
        exact guard_agg (hst fs rfl)
      · by_cases h2 : x' = .nilIface ∧ y' = .nilIface
        · obtain ⟨rfl, rfl⟩ := h2
          obtain rfl := VR.nili_inv hx
          have hif : e = .ifc := by
            cases e <;> simp only [eqS, reduceCtorEq] at hq
            rfl
          exact guard_nili (hifc hif)
        · exact guard_plain (fun c d e1 e2 => h1 ⟨c, d, e1, e2⟩) (fun e1 e2 => h2 ⟨e1, e2⟩)
    simp only [bnP, hq] at h
    cases op <;> simp only [reduceCtorEq, Option.some.injEq] at h
    · subst h; exact ⟨.bool b, by simp only [Sem.run_bind, hg, Result.andThen_ok, r1], by simp only [VR]⟩
    · subst h; exact ⟨.bool (!b), by simp only [Sem.run_bind, hg, Result.andThen_ok, r2], by simp only [VR]⟩
  unfold bnK at hk
  split at hk
  · cases hk; exact plain (.inl rfl)
  · cases hk; exact plain (.inl rfl)
  · cases hk; exact plain (.inr rfl)
  · rename_i hu1 hu2 hu3
    have key : ∀ e, tyE P 8 t = some e → e ≠ .int ∧ e ≠ .flt ∧ e ≠ .str := fun e he => tyE_kind (d := 7) hu1 hu2 hu3 he
    have main : (match tyE P 8 t with
        | some .ifc => if (isC x || isC y) then some (BK.eq .ifc) else none
        | some (.st fs) => if P.eqGuardType P.depth t then none else some (.eq (.st fs))
        | some e => some (.eq e)
        | none => none) = some k → ∃ z, (do eqGuard op t x y x' y'; binOp op t x' y' : Sem Value).run P w = .ok z w ∧ VR ρ r z := by
      intro hk
      split at hk
      · rename_i he
        split at hk
        · rename_i hc
          cases hk
          obtain ⟨a1, a2, a3⟩ := key _ he
          exact typed _ rfl he a1 a2 a3 (fun _ e => by cases e) (fun _ => hc)
        · simp at hk
      · rename_i fs he
        split at hk
        · simp at hk
        · rename_i hc
          cases hk
          obtain ⟨a1, a2, a3⟩ := key _ he
          exact typed _ rfl he a1 a2 a3 (fun _ _ => by simpa using hc) (fun e => by cases e)
      · rename_i e n1 n2 he
        cases hk
        obtain ⟨a1, a2, a3⟩ := key _ he
        exact typed _ rfl he a1 a2 a3 (fun fs e' => absurd e' (n2 fs)) (fun e' => absurd e' n1)
      · simp at hk
    split at hk
    · exact main hk
    · exact main hk
    · simp at hk

end Go.Am
