/-
  AM: the operations that only read: what each answers over the abstract values, and that the model answers alike. (Lemmas alone; no program.)
-/
import Derived.Test.YtaolbokpeafejaaGreatDoorAmCore
import Derived.Laws.Small
import Derived.Laws.StructEq
import Derived.Laws.Slices
import Derived.Laws.Cells
import Derived.Laws.Rows
import Derived.Laws.BytesString
import Derived.Laws.Externs
set_option linter.unusedVariables false
set_option linter.unusedSimpArgs false
namespace Go.Am
open Go Go.RowKit

/-- Functions that the model itself carries out. -/
inductive XK where
  | bits
  | frombits
  | cmps
  | clone
  | floor
  | trunc
  deriving DecidableEq

def XK.fn : XK → Array Value → Sem Value
  | .bits => Extern.MathFloatBits.float64bits
  | .frombits => Extern.MathFloatBits.float64frombits
  | .cmps => Extern.BytealgCompare.compare
  | .clone => Extern.MapsClone.clone
  | .floor => Extern.MathFloor.toIntegral "math.archFloor" .down
  | .trunc => Extern.MathFloor.toIntegral "math.archTrunc" .zero

def XSem (P : Program) (f : FuncId) (k : XK) : Prop := ∃ fn, P.funcs[f]? = some fn ∧ (fn.name == "runtime.NumGoroutine") = false ∧ fn.body.isNone = true ∧ Extern.findNext fn = none ∧ Extern.find fn = some k.fn

structure Ctx where
  B : Nat
  W0 : World
  P : Program
  G : Nat → List V
  X : FuncId → Option XK

/-- The relation, with what the program's own variables hold. -/
structure Rl (C : Ctx) (ρ : Pl) (σ : H) (w : World) : Prop extends Rel C.B C.W0 ρ σ w where
  glob : ∀ (g j : Nat) (v : V), (C.G g)[j]? = some v → g < C.B ∧ ∃ x, C.W0.cell? ⟨g, j, none⟩ = some x ∧ VR ρ v x
  ext : ∀ f k, C.X f = some k → XSem C.P f k

theorem Rl.globX {C : Ctx} {ρ ρ' : Pl} {σ : H} {w : World} (hR : Rl C ρ σ w) (hx : ∀ i v p, ρ i v = some p → ρ' i v = some p) : ∀ (g j : Nat) (v : V), (C.G g)[j]? = some v → g < C.B ∧ ∃ x, C.W0.cell? ⟨g, j, none⟩ = some x ∧ VR ρ' v x := by
  intro g j v h
  obtain ⟨h1, x, h2, h3⟩ := hR.glob g j v h
  exact ⟨h1, x, h2, h3.extM hx⟩

/-! ### Operands -/

def ofConst1 : Value → Option V
  | .bool b => some (.bool b)
  | .int k n => some (.int k n)
  | .float k n => some (.flt k n)
  | .string s => some (.str s.data.toList)
  | .pointer none => some .nilp
  | .slice none 0 0 => some .nils
  | .map none => some .nilm
  | .nilFunc => some .nilf
  | .nilIface => some .nili
  | _ => none

def ofConsts1 : List Value → Option (List V)
  | [] => some []
  | x :: xs => match ofConst1 x, ofConsts1 xs with
    | some v, some vs => some (v :: vs)
    | _, _ => none

def ofConst : Value → Option V
  | .agg cs => match ofConsts1 cs.toList with
    | some vs => some (.agg vs)
    | none => none
  | .tuple cs => match ofConsts1 cs.toList with
    | some vs => some (.tuple vs)
    | none => none
  | x => ofConst1 x

theorem ofConst1_sound {ρ : Pl} {x : Value} {v : V} (h : ofConst1 x = some v) : VR ρ v x := by
  unfold ofConst1 at h
  split at h <;> first | (cases h; simp only [VR]; done) | (cases h; simp only [VR]) | (simp at h)

theorem ofConsts1_sound {ρ : Pl} : ∀ {xs : List Value} {vs : List V}, ofConsts1 xs = some vs → VRs ρ vs xs
  | [], vs, h => by simp only [ofConsts1, Option.some.injEq] at h; subst h; simp only [VRs]
  | x :: xs, vs, h => by
    simp only [ofConsts1] at h
    split at h
    · rename_i v us hv hs
      cases h
      simp only [VRs]
      exact ⟨x, xs, rfl, ofConst1_sound hv, ofConsts1_sound hs⟩
    · simp at h

theorem ofConst_sound {ρ : Pl} {x : Value} {v : V} (h : ofConst x = some v) : VR ρ v x := by
  unfold ofConst at h
  split at h
  · split at h
    · rename_i cs _ vs hv
      cases h
      simp only [VR]; exact ⟨cs, rfl, ofConsts1_sound hv⟩
    · simp at h
  · split at h
    · rename_i cs _ vs hv
      cases h
      simp only [VR]; exact ⟨cs, rfl, ofConsts1_sound hv⟩
    · simp at h
  · exact ofConst1_sound h

def evO (s : List V) : Operand → Option V
  | .tmp t => s[t]?
  | .const x => ofConst x
  | .global g => some (.gp g 0)
  | .func f => some (.func (.func f) [] [])

theorem evO_sound {ρ : Pl} {s : List V} {a : Act} {o : Operand} {v : V} (hs : VRs ρ s a.tmps.toList) (h : evO s o = some v) : VR ρ v (a.eval o) := by
  cases o with
  | tmp t =>
    simp only [evO] at h
    obtain ⟨x, hx, hv⟩ := hs.get h
    have : a.eval (.tmp t) = x := by
      simp only [Act.eval]
      rw [Array.getD_eq_getD_getElem?, ← Array.getElem?_toList, hx]; rfl
    rw [this]; exact hv
  | const x => exact ofConst_sound h
  | global g => simp only [evO, Option.some.injEq] at h; subst h; simp only [VR, Act.eval]
  | func f => simp only [evO, Option.some.injEq] at h; subst h; simp only [VR, Act.eval]; exact ⟨#[], #[], rfl, by simp [VRs], by simp [VRs]⟩

def evOs (s : List V) : List Operand → Option (List V)
  | [] => some []
  | o :: os => match evO s o, evOs s os with
    | some v, some vs => some (v :: vs)
    | _, _ => none

theorem evOs_sound {ρ : Pl} {s : List V} {a : Act} (hs : VRs ρ s a.tmps.toList) : ∀ {os : List Operand} {vs : List V}, evOs s os = some vs → VRs ρ vs (os.map a.eval)
  | [], vs, h => by simp only [evOs, Option.some.injEq] at h; subst h; simp [VRs]
  | o :: os, vs, h => by
    simp only [evOs] at h
    split at h
    · rename_i v us hv hu
      cases h
      simp only [List.map_cons, VRs]
      exact ⟨_, _, rfl, evO_sound hs hv, evOs_sound hs hu⟩
    · simp at h

/-! ### Binary operations on plain values -/

def bitI (op : BinOp) (k : IntKind) (a b : Int) : Int :=
  match op with
  | .and => k.wrap (BitVec.ofInt k.bits a &&& BitVec.ofInt k.bits b).toNat
  | .or => k.wrap (BitVec.ofInt k.bits a ||| BitVec.ofInt k.bits b).toNat
  | .xor => k.wrap (BitVec.ofInt k.bits a ^^^ BitVec.ofInt k.bits b).toNat
  | _ => k.wrap (BitVec.ofInt k.bits a &&& ~~~(BitVec.ofInt k.bits b)).toNat

def shlI (k : IntKind) (a b : Int) : Int := k.wrap (a * 2 ^ (min b.toNat k.bits))
def shrI (k : IntKind) (a b : Int) : Int := a.fdiv (2 ^ (min b.toNat k.bits))

/-- Operations on two whole numbers of one kind. -/
def intOp (op : BinOp) (k : IntKind) (a b : Int) : Option V :=
  match op with
  | .add => some (.int k (k.wrap (a + b)))
  | .sub => some (.int k (k.wrap (a - b)))
  | .mul => some (.int k (k.wrap (a * b)))
  | .quo => if b = 0 then none else some (.int k (k.wrap (a.tdiv b)))
  | .rem => if b = 0 then none else some (.int k (a.tmod b))
  | .and => some (.int k (bitI .and k a b))
  | .or => some (.int k (bitI .or k a b))
  | .xor => some (.int k (bitI .xor k a b))
  | .andNot => some (.int k (bitI .andNot k a b))
  | .eql => some (.bool (decide (a = b)))
  | .neq => some (.bool (!decide (a = b)))
  | .lss => some (.bool (decide (a < b)))
  | .leq => some (.bool (decide (a ≤ b)))
  | .gtr => some (.bool (decide (b < a)))
  | .geq => some (.bool (decide (b ≤ a)))
  | .shl => if b < 0 then none else some (.int k (shlI k a b))
  | .shr => if b < 0 then none else some (.int k (shrI k a b))

def strOp (op : BinOp) (a b : List UInt8) : Option V :=
  match op with
  | .add => if ((a.length + b.length : Nat) : Int) > IntKind.i64.max then none else some (.str (a ++ b))
  | .eql => some (.bool (decide (a = b)))
  | .neq => some (.bool (!decide (a = b)))
  | .lss => some (.bool (Op.bytesLess a b))
  | .leq => some (.bool (Op.bytesLess a b || decide (a = b)))
  | .gtr => some (.bool (!(Op.bytesLess a b || decide (a = b))))
  | .geq => some (.bool (!Op.bytesLess a b))
  | _ => none

/-- Is a value plainly nil, or plainly not? -/
def isNil : V → Option Bool
  | .nilp | .nils | .nilm | .nilf | .nili => some true
  | .ptr _ | .gp _ _ | .slice .. | .map _ | .func .. | .iface .. => some false
  | _ => none

def fltOp (op : BinOp) (k : FloatKind) (a b : Nat) : Option V :=
  match op with
  | .eql => some (.bool (Op.floatEq k a b))
  | .neq => some (.bool (!Op.floatEq k a b))
  | .lss => some (.bool (k.format.order a b == some .lt))
  | .leq => some (.bool (k.format.order a b == some .lt || k.format.order a b == some .eq))
  | .gtr => some (.bool (k.format.order a b == some .gt))
  | .geq => some (.bool (k.format.order a b == some .gt || k.format.order a b == some .eq))
  | .add => match k.format.add a b with
    | some r => some (.flt k r)
    | none => none
  | .sub => match k.format.sub a b with
    | some r => some (.flt k r)
    | none => none
  | .mul => match k.format.mul a b with
    | some r => some (.flt k r)
    | none => none
  | .quo => match k.format.div a b with
    | some r => some (.flt k r)
    | none => none
  | _ => none

def binP (op : BinOp) (x y : V) : Option V :=
  match x, y with
  | .int k a, .int k' b => if op = .shl ∨ op = .shr ∨ k = k' then intOp op k a b else none
  | .str a, .str b => strOp op a b
  | .bool a, .bool b => match op with
    | .eql => some (.bool (decide (a = b)))
    | .neq => some (.bool (!decide (a = b)))
    | _ => none
  | _, _ => none

theorem run_intOp {P : Program} {w : World} {op : BinOp} {k : IntKind} {a b : Int} {v : V} (t : TypeId) (h : intOp op k a b = some v) :
    ∃ x, (binOp op t (.int k a) (.int k b)).run P w = .ok x w ∧ ∀ ρ, VR ρ v x := by
  cases op <;> simp only [intOp] at h <;> first
    | (split at h <;> first | (simp at h; done) | skip; rename_i hb; cases h; simp [binOp, Op.intArith, Op.intBits, Op.intCmp, Op.intDiv, Op.shift, hb, VR, bitI, shlI, shrI]; done)
    | (cases h; simp [binOp, Op.intArith, Op.intBits, Op.intCmp, Op.intDiv, Op.shift, VR, bitI, shlI, shrI]; done)
    | (cases h; refine ⟨_, by simp [binOp, Op.intArith, Op.intBits, Op.intCmp, Op.intDiv, Op.shift]; rfl, fun ρ => ?_⟩; simp [VR, bitI]; try rfl)

end Go.Am
