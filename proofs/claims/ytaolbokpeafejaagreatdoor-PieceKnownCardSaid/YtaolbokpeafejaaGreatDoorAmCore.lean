/-
  AM: an abstract machine for the walks: values, an abstract heap, and how both stand to the model's world. (Lemmas alone; no program.)
-/
import Derived.Below
import Derived.Orders
import Derived.KernelRfl
set_option linter.unusedVariables false
set_option linter.unusedSimpArgs false
namespace Go.Am
open Go Go.RowKit

/-- A place in the abstract heap: which row, which cell, and how many cells the row had when the address was made. -/
structure PA where
  id : Nat
  off : Nat
  ver : Nat
  deriving DecidableEq

inductive V where
  | bool (b : Bool)
  | int (k : IntKind) (n : Int)
  | flt (k : FloatKind) (bits : Nat)
  | str (s : List UInt8)
  | nilp
  | ptr (a : PA)
  | gp (g off : Nat)
  | nils
  | slice (a : PA) (sz len cb : Nat) (ex : Bool)
  | nilm
  | map (r : Nat)
  | func (fn : Fn) (first captured : List V)
  | nilf
  | iface (t : TypeId) (v : V)
  | nili
  | agg (cs : List V)
  | tuple (vs : List V)
  | iter (r : Nat)
  | yld (r : Nat)

instance : Inhabited V := ⟨.nilp⟩

/-- Where a row (at a number of cells) lies in the model's heap. -/
structure Place where
  blk : Nat
  off : Nat
  cap : Nat

structure Pl where
  map : Nat → Nat → Option Place
  dfr : List Nat

instance : CoeFun Pl (fun _ => Nat → Nat → Option Place) := ⟨Pl.map⟩

def Place.at (p : Place) (o : Nat) : Addr := ⟨p.blk, p.off + o, none⟩

mutual
def VR (ρ : Pl) : V → Value → Prop
  | .bool b, x => x = .bool b
  | .int k n, x => x = .int k n
  | .flt k n, x => x = .float k n
  | .str s, x => x = .string ⟨⟨s⟩⟩
  | .nilp, x => x = .pointer none
  | .ptr a, x => ∃ p, ρ a.id a.ver = some p ∧ x = .pointer (some (p.at a.off))
  | .gp g o, x => x = .pointer (some ⟨g, o, none⟩)
  | .nils, x => x = .slice none 0 0
  | .slice a sz len cb ex, x => ∃ p ad c, ρ a.id a.ver = some p ∧ x = .slice (some ad) len c ∧ len ≤ cb ∧ cb ≤ c ∧ a.off + cb * sz ≤ a.ver ∧
      (c = 0 ∨ (ad = p.at a.off ∧ a.off + c * sz ≤ p.cap)) ∧ (ex = true → c = cb)
  | .nilm, x => x = .map none
  | .map r, x => ∃ p, ρ r 0 = some p ∧ x = .map (some p.blk)
  | .func fn fs cs, x => ∃ f c : Array Value, x = .func fn f c ∧ VRs ρ fs f.toList ∧ VRs ρ cs c.toList
  | .nilf, x => x = .nilFunc
  | .iface t v, x => ∃ y, x = .iface t y ∧ VR ρ v y
  | .nili, x => x = .nilIface
  | .agg cs, x => ∃ c : Array Value, x = .agg c ∧ VRs ρ cs c.toList
  | .tuple vs, x => ∃ c : Array Value, x = .tuple c ∧ VRs ρ vs c.toList
  | .iter r, x => ∃ p, ρ r 0 = some p ∧ x = .pointer (some ⟨p.blk, 0, none⟩)
  | .yld r, x => ∃ p, ρ r 0 = some p ∧ x = .func (.yield p.blk) #[] #[]
def VRs (ρ : Pl) : List V → List Value → Prop
  | [], xs => xs = []
  | v :: vs, xs => ∃ y ys, xs = y :: ys ∧ VR ρ v y ∧ VRs ρ vs ys
end

structure Ext (ρ ρ' : Pl) : Prop where
  map : ∀ i v p, ρ i v = some p → ρ' i v = some p
  dfr : ∀ b, b ∈ ρ.dfr → b ∈ ρ'.dfr

theorem Ext.refl (ρ : Pl) : Ext ρ ρ := ⟨fun _ _ _ h => h, fun _ h => h⟩
theorem Ext.trans {a b c : Pl} (h : Ext a b) (k : Ext b c) : Ext a c := ⟨fun i v p e => k.map i v p (h.map i v p e), fun b hb => k.dfr b (h.dfr b hb)⟩

mutual
theorem VR.extM {ρ ρ' : Pl} (h : ∀ i v p, ρ i v = some p → ρ' i v = some p) : ∀ {v : V} {x : Value}, VR ρ v x → VR ρ' v x
  | .bool _, _, e => e
  | .int _ _, _, e => e
  | .flt _ _, _, e => e
  | .str _, _, e => e
  | .nilp, _, e => e
  | .ptr a, x, e => by
    simp only [VR] at e ⊢
    obtain ⟨p, e1, e2⟩ := e
    exact ⟨p, h _ _ _ e1, e2⟩
  | .gp _ _, _, e => e
  | .nils, _, e => e
  | .slice a sz len cb ex, x, e => by
    simp only [VR] at e ⊢
    obtain ⟨p, ad, c, e1, e2⟩ := e
    exact ⟨p, ad, c, h _ _ _ e1, e2⟩
  | .nilm, _, e => e
  | .map r, x, e => by
    simp only [VR] at e ⊢
    obtain ⟨p, e1, e2⟩ := e
    exact ⟨p, h _ _ _ e1, e2⟩
  | .func fn fs cs, x, e => by
    simp only [VR] at e ⊢
    obtain ⟨f, c, e1, e2, e3⟩ := e
    exact ⟨f, c, e1, VRs.extM h e2, VRs.extM h e3⟩
  | .nilf, _, e => e
  | .iface t v, x, e => by
    simp only [VR] at e ⊢
    obtain ⟨y, e1, e2⟩ := e
    exact ⟨y, e1, VR.extM h e2⟩
  | .nili, _, e => e
  | .agg cs, x, e => by
    simp only [VR] at e ⊢
    obtain ⟨c, e1, e2⟩ := e
    exact ⟨c, e1, VRs.extM h e2⟩
  | .tuple vs, x, e => by
    simp only [VR] at e ⊢
    obtain ⟨c, e1, e2⟩ := e
    exact ⟨c, e1, VRs.extM h e2⟩
  | .iter r, x, e => by
    simp only [VR] at e ⊢
    obtain ⟨p, e1, e2⟩ := e
    exact ⟨p, h _ _ _ e1, e2⟩
  | .yld r, x, e => by
    simp only [VR] at e ⊢
    obtain ⟨p, e1, e2⟩ := e
    exact ⟨p, h _ _ _ e1, e2⟩
theorem VRs.extM {ρ ρ' : Pl} (h : ∀ i v p, ρ i v = some p → ρ' i v = some p) : ∀ {vs : List V} {xs : List Value}, VRs ρ vs xs → VRs ρ' vs xs
  | [], _, e => e
  | v :: vs, xs, e => by
    simp only [VRs] at e ⊢
    obtain ⟨y, ys, e1, e2, e3⟩ := e
    exact ⟨y, ys, e1, VR.extM h e2, VRs.extM h e3⟩
end

theorem VR.ext {ρ ρ' : Pl} (h : Ext ρ ρ') {v : V} {x : Value} (hv : VR ρ v x) : VR ρ' v x := hv.extM h.map
theorem VRs.ext {ρ ρ' : Pl} (h : Ext ρ ρ') {vs : List V} {xs : List Value} (hv : VRs ρ vs xs) : VRs ρ' vs xs := hv.extM h.map

theorem VRs.length {ρ : Pl} : ∀ {vs : List V} {xs : List Value}, VRs ρ vs xs → vs.length = xs.length
  | [], _, e => by simp only [VRs] at e; simp [e]
  | v :: vs, xs, e => by
    simp only [VRs] at e
    obtain ⟨y, ys, e1, e2, e3⟩ := e
    simp [e1, VRs.length e3]

theorem VRs.get {ρ : Pl} : ∀ {vs : List V} {xs : List Value} {i : Nat} {v : V}, VRs ρ vs xs → vs[i]? = some v → ∃ x, xs[i]? = some x ∧ VR ρ v x
  | [], _, i, v, e, h => by simp at h
  | u :: vs, xs, i, v, e, h => by
    simp only [VRs] at e
    obtain ⟨y, ys, e1, e2, e3⟩ := e
    subst e1
    cases i with
    | zero => simp at h; subst h; exact ⟨y, rfl, e2⟩
    | succ i => simp at h; simpa using VRs.get e3 h

theorem VRs.get' {ρ : Pl} : ∀ {vs : List V} {xs : List Value} {i : Nat} {x : Value}, VRs ρ vs xs → xs[i]? = some x → ∃ v, vs[i]? = some v ∧ VR ρ v x
  | [], _, i, v, e, h => by simp only [VRs] at e; simp [e] at h
  | u :: vs, xs, i, v, e, h => by
    simp only [VRs] at e
    obtain ⟨y, ys, e1, e2, e3⟩ := e
    subst e1
    cases i with
    | zero => simp at h; subst h; exact ⟨u, rfl, e2⟩
    | succ i => simp at h; simpa using VRs.get' e3 h

theorem VRs.set {ρ : Pl} : ∀ {vs : List V} {xs : List Value} {i : Nat} {v : V} {x : Value}, VRs ρ vs xs → VR ρ v x → VRs ρ (vs.set i v) (xs.set i x)
  | [], _, i, v, x, e, h => by simp only [VRs] at e; simp [e, VRs]
  | u :: vs, xs, i, v, x, e, h => by
    simp only [VRs] at e
    obtain ⟨y, ys, e1, e2, e3⟩ := e
    subst e1
    cases i with
    | zero => simp only [List.set_cons_zero, VRs]; exact ⟨x, ys, rfl, h, e3⟩
    | succ i => simp only [List.set_cons_succ, VRs]; exact ⟨y, _, rfl, e2, VRs.set e3 h⟩

theorem VRs.append {ρ : Pl} : ∀ {vs us : List V} {xs ys : List Value}, VRs ρ vs xs → VRs ρ us ys → VRs ρ (vs ++ us) (xs ++ ys)
  | [], us, xs, ys, e, h => by simp only [VRs] at e; subst e; simpa using h
  | u :: vs, us, xs, ys, e, h => by
    simp only [VRs] at e
    obtain ⟨y, zs, e1, e2, e3⟩ := e
    subst e1
    simp only [List.cons_append, VRs]
    exact ⟨y, _, rfl, e2, VRs.append e3 h⟩

theorem VRs.drop {ρ : Pl} : ∀ {vs : List V} {xs : List Value} (n : Nat), VRs ρ vs xs → VRs ρ (vs.drop n) (xs.drop n)
  | [], xs, n, e => by simp only [VRs] at e; subst e; simp [VRs]
  | u :: vs, xs, n, e => by
    cases n with
    | zero => simpa using e
    | succ n =>
      simp only [VRs] at e
      obtain ⟨y, zs, e1, e2, e3⟩ := e
      subst e1
      simpa using VRs.drop n e3

theorem VRs.take {ρ : Pl} : ∀ {vs : List V} {xs : List Value} (n : Nat), VRs ρ vs xs → VRs ρ (vs.take n) (xs.take n)
  | [], xs, n, e => by simp only [VRs] at e; subst e; simp [VRs]
  | u :: vs, xs, n, e => by
    cases n with
    | zero => simp [VRs]
    | succ n =>
      simp only [VRs] at e
      obtain ⟨y, zs, e1, e2, e3⟩ := e
      subst e1
      simp only [List.take_succ_cons, VRs]
      exact ⟨y, _, rfl, e2, VRs.take n e3⟩

theorem VRs.replicate {ρ : Pl} {v : V} {x : Value} (h : VR ρ v x) : ∀ n, VRs ρ (List.replicate n v) (List.replicate n x)
  | 0 => by simp [VRs]
  | n + 1 => by simp only [List.replicate_succ, VRs]; exact ⟨x, _, rfl, h, VRs.replicate h n⟩

theorem VRs.of_get {ρ : Pl} : ∀ {vs : List V} {xs : List Value}, vs.length = xs.length → (∀ (i : Nat) (v : V), vs[i]? = some v → ∃ x, xs[i]? = some x ∧ VR ρ v x) → VRs ρ vs xs
  | [], xs, e, h => by simp at e; simp only [VRs]; exact List.eq_nil_of_length_eq_zero e.symm
  | u :: vs, [], e, h => by simp at e
  | u :: vs, x :: xs, e, h => by
    simp only [VRs]
    obtain ⟨y, hy, hv⟩ := h 0 u rfl
    simp at hy; subst hy
    exact ⟨x, xs, rfl, hv, VRs.of_get (by simpa using e) (fun i v hi => by have := h (i + 1) v (by simpa using hi); simpa using this)⟩

/-! ### The heap -/

structure Row where
  cells : List V
  elem : TypeId
  low : Nat
  own : Bool

/-- The record of a range over a function. -/
structure LoopA where
  state : LoopState
  pending : Option Code
  tmps : List V
  params : Array Tmp
  assign : Code
  body : Code

inductive O where
  | row (r : Row)
  | map (es : List (V × V × Nat)) (clock : Nat)
  | sit (s : List UInt8) (pos : Nat)
  | loop (l : LoopA)
  | dead

/-- A tree of numbered leaves. -/
inductive Tr (α : Type) where
  | nil
  | node (l : Tr α) (v : Option α) (r : Tr α)

def Tr.get {α : Type} : Tr α → Nat → Option α
  | .nil, _ => none
  | .node l v r, i => match i with
    | 0 => v
    | k + 1 => match k % 2 with
      | 0 => l.get (k / 2)
      | _ => r.get (k / 2)

def Tr.sing {α : Type} (a : α) : Nat → Nat → Tr α
  | 0, _ => .nil
  | f + 1, i => match i with
    | 0 => .node .nil (some a) .nil
    | k + 1 => match k % 2 with
      | 0 => .node (Tr.sing a f (k / 2)) none .nil
      | _ => .node .nil none (Tr.sing a f (k / 2))

def Tr.set {α : Type} (a : α) : Tr α → Nat → Tr α
  | .nil, i => Tr.sing a (i + 1) i
  | .node l v r, i => match i with
    | 0 => .node l (some a) r
    | k + 1 => match k % 2 with
      | 0 => .node (Tr.set a l (k / 2)) v r
      | _ => .node l v (Tr.set a r (k / 2))

theorem mod2_cases (k : Nat) : k % 2 = 0 ∨ ∃ m, k % 2 = m + 1 := by
  rcases (by omega : k % 2 = 0 ∨ k % 2 = 1) with h | h
  · exact .inl h
  · exact .inr ⟨0, h⟩

theorem Tr.get_sing {α : Type} (a : α) : ∀ (f i j : Nat), i < f → (Tr.sing a f i).get j = if i = j then some a else none
  | 0, i, j, h => by omega
  | f + 1, i, j, h => by
    cases i with
    | zero =>
      simp only [Tr.sing]
      cases j with
      | zero => simp [Tr.get]
      | succ j => simp only [Tr.get]; split <;> simp
    | succ k =>
      simp only [Tr.sing]
      have ih := Tr.get_sing a f (k / 2)
      rcases mod2_cases k with hk | ⟨m, hk⟩
      · rw [hk]
        cases j with
        | zero => simp [Tr.get]
        | succ j =>
          simp only [Tr.get]
          rcases mod2_cases j with hj | ⟨q, hj⟩
          · rw [hj]; simp only; rw [ih (j / 2) (by omega)]
            by_cases e : k = j
            · subst e; simp
            · rw [if_neg (by omega), if_neg (by omega)]
          · rw [hj]; simp only; rw [if_neg (by intro e; have : k = j := by omega
                                               rw [this] at hk; omega)]
      · rw [hk]
        cases j with
        | zero => simp [Tr.get]
        | succ j =>
          simp only [Tr.get]
          rcases mod2_cases j with hj | ⟨q, hj⟩
          · rw [hj]; simp only; rw [if_neg (by intro e; have : k = j := by omega
                                               rw [this] at hk; omega)]
          · rw [hj]; simp only; rw [ih (j / 2) (by omega)]
            by_cases e : k = j
            · subst e; simp
            · rw [if_neg (by omega), if_neg (by omega)]

theorem Tr.get_set {α : Type} (a : α) : ∀ (t : Tr α) (i j : Nat), (Tr.set a t i).get j = if i = j then some a else t.get j
  | .nil, i, j => by simp only [Tr.set]; rw [Tr.get_sing a _ _ _ (Nat.lt_succ_self i)]; simp [Tr.get]
  | .node l v r, i, j => by
    cases i with
    | zero =>
      simp only [Tr.set]
      cases j with
      | zero => simp [Tr.get]
      | succ j => simp [Tr.get]
    | succ k =>
      simp only [Tr.set]
      rcases mod2_cases k with hk | ⟨m, hk⟩
      · rw [hk]
        cases j with
        | zero => simp [Tr.get]
        | succ j =>
          simp only [Tr.get]
          rcases mod2_cases j with hj | ⟨q, hj⟩
          · rw [hj]; simp only; rw [Tr.get_set a l]
            by_cases e : k = j
            · subst e; simp
            · rw [if_neg (by omega), if_neg (by omega)]
          · rw [hj]; simp only; rw [if_neg (by intro e; have : k = j := by omega
                                               rw [this] at hk; omega)]
      · rw [hk]
        cases j with
        | zero => simp [Tr.get]
        | succ j =>
          simp only [Tr.get]
          rcases mod2_cases j with hj | ⟨q, hj⟩
          · rw [hj]; simp only; rw [if_neg (by intro e; have : k = j := by omega
                                               rw [this] at hk; omega)]
          · rw [hj]; simp only; rw [Tr.get_set a r]
            by_cases e : k = j
            · subst e; simp
            · rw [if_neg (by omega), if_neg (by omega)]

structure H where
  size : Nat
  tr : Tr O

def H.get (σ : H) (i : Nat) : Option O :=
  match decide (i < σ.size) with
  | true => σ.tr.get i
  | false => none
def H.push (σ : H) (o : O) : H := ⟨σ.size + 1, σ.tr.set o σ.size⟩
def H.set (σ : H) (i : Nat) (o : O) : H := ⟨σ.size, σ.tr.set o i⟩

theorem H.get_def (σ : H) (i : Nat) : σ.get i = if i < σ.size then σ.tr.get i else none := by
  unfold H.get
  by_cases h : i < σ.size <;> simp [h]

@[simp] theorem H.size_push (σ : H) (o : O) : (σ.push o).size = σ.size + 1 := rfl
@[simp] theorem H.size_set (σ : H) (i : Nat) (o : O) : (σ.set i o).size = σ.size := rfl
theorem H.get_push (σ : H) (o : O) (i : Nat) : (σ.push o).get i = if i = σ.size then some o else σ.get i := by
  rw [H.get_def, H.get_def]
  simp only [H.push, Tr.get_set]
  by_cases h : i = σ.size
  · subst h; simp
  · have h' : ¬ σ.size = i := fun e => h e.symm
    rw [if_neg h, if_neg h']
    by_cases h2 : i < σ.size
    · rw [if_pos h2, if_pos (by omega)]
    · rw [if_neg h2, if_neg (by omega)]
@[simp] theorem H.get_push_self (σ : H) (o : O) : (σ.push o).get σ.size = some o := by simp [H.get_push]
theorem H.get_push_ne (σ : H) (o : O) {i : Nat} (h : i ≠ σ.size) : (σ.push o).get i = σ.get i := by simp [H.get_push, h]
theorem H.get_lt {σ : H} {i : Nat} {o : O} (h : σ.get i = some o) : i < σ.size := by
  rw [H.get_def] at h
  by_cases h2 : i < σ.size
  · exact h2
  · simp [h2] at h
theorem H.get_set (σ : H) (i j : Nat) (o : O) : (σ.set i o).get j = if i = j then (if i < σ.size then some o else none) else σ.get j := by
  rw [H.get_def, H.get_def]
  simp only [H.set, Tr.get_set]
  by_cases h : i = j <;> by_cases g : j < σ.size <;> simp [h, g]
theorem H.get_set_self {σ : H} {i : Nat} (o : O) (h : i < σ.size) : (σ.set i o).get i = some o := by simp [H.get_set, h]
theorem H.get_set_ne (σ : H) {i j : Nat} (o : O) (h : i ≠ j) : (σ.set i o).get j = σ.get j := by simp [H.get_set, h]

def H.empty : H := ⟨0, .nil⟩
def H.pushes (σ : H) : List O → H
  | [] => σ
  | o :: os => (σ.push o).pushes os
theorem H.pushes_size : ∀ (os : List O) (σ : H), (σ.pushes os).size = σ.size + os.length
  | [], σ => rfl
  | o :: os, σ => by simp only [H.pushes, H.pushes_size os, H.size_push, List.length_cons]; omega
theorem H.pushes_get : ∀ (os : List O) (σ : H) (i : Nat), (σ.pushes os).get i = if i < σ.size then σ.get i else os[i - σ.size]?
  | [], σ, i => by
    simp only [H.pushes]
    by_cases h : i < σ.size
    · simp [h]
    · simp [h]; rw [H.get_def]; simp [h]
  | o :: os, σ, i => by
    simp only [H.pushes]
    rw [H.pushes_get os, H.size_push, H.get_push]
    by_cases h : i < σ.size
    · rw [if_pos (by omega), if_neg (by omega), if_pos h]
    · by_cases h2 : i = σ.size
      · subst h2; simp
      · rw [if_neg (by omega), if_neg h]
        obtain ⟨n, hn⟩ : ∃ n, i - σ.size = n + 1 := ⟨i - σ.size - 1, by omega⟩
        rw [hn, List.getElem?_cons_succ]
        congr 1; omega

def O.own : O → Bool
  | .row r => r.own
  | .map .. | .sit .. | .loop .. => true
  | .dead => false

def MRel (ρ : Pl) : List (V × V × Nat) → List MapEntry → Prop
  | [], xs => xs = []
  | (k, v, b) :: es, xs => ∃ x xs', xs = x :: xs' ∧ VR ρ k x.key ∧ VR ρ v x.val ∧ x.born = b ∧ MRel ρ es xs'

theorem MRel.extM {ρ ρ' : Pl} (h : ∀ i v p, ρ i v = some p → ρ' i v = some p) : ∀ {es : List (V × V × Nat)} {xs : List MapEntry}, MRel ρ es xs → MRel ρ' es xs
  | [], _, e => e
  | (k, v, b) :: es, xs, e => by
    obtain ⟨x, xs', e1, e2, e3, e4, e5⟩ := e
    exact ⟨x, xs', e1, VR.extM h e2, VR.extM h e3, e4, MRel.extM h e5⟩

/-- What an object that is no row says of the model's. -/
def ORel (ρ : Pl) : O → Obj → Prop
  | .map es c, x => ∃ xs, x = .map xs c ∧ MRel ρ es xs.toList
  | .sit s n, x => x = .stringIter ⟨⟨s⟩⟩ n
  | .loop l, x => ∃ r : Loop, x = .loop r ∧ r.state = l.state ∧ r.pending = l.pending ∧ r.params = l.params ∧ r.assign = l.assign ∧ r.body = l.body ∧ VRs ρ l.tmps r.tmps.toList
  | _, _ => True

theorem ORel.extM {ρ ρ' : Pl} (h : ∀ i v p, ρ i v = some p → ρ' i v = some p) : ∀ {o : O} {x : Obj}, ORel ρ o x → ORel ρ' o x
  | .map es c, x, e => by obtain ⟨xs, e1, e2⟩ := e; exact ⟨xs, e1, e2.extM h⟩
  | .sit s n, x, e => e
  | .loop l, x, e => by obtain ⟨r, e1, e2, e3, e4, e5, e6, e7⟩ := e; exact ⟨r, e1, e2, e3, e4, e5, e6, e7.extM h⟩
  | .row _, _, _ => trivial
  | .dead, _, _ => trivial

theorem ORel.ext {ρ ρ' : Pl} (h : Ext ρ ρ') {o : O} {x : Obj} (e : ORel ρ o x) : ORel ρ' o x := e.extM h.map

def O.isRow : O → Bool
  | .row _ => true
  | _ => false
def O.isDead : O → Bool
  | .dead => true
  | _ => false
/-- An object that is no row: it lies at its number's place. -/
def O.solid (o : O) : Bool := !o.isRow && !o.isDead

theorem O.solid_own {o : O} (h : o.solid = true) : o.own = true := by cases o <;> simp_all [O.solid, O.isRow, O.isDead, O.own]

/-- What a row says of the world: each number of cells from 'low' on has its place; the cells there; what is the call's own may be written. -/
def RowAt (B : Nat) (ρ : Pl) (w : World) (r : Row) (v : Nat) (p : Place) : Prop :=
  (∀ j c, j < v → r.cells[j]? = some c → ∃ x, w.cell? (p.at j) = some x ∧ VR ρ c x) ∧
  (r.own = true → B ≤ p.blk ∧ ∀ j, j < p.cap → (∃ x, w.cell? (p.at j) = some x) ∧ w.frozen? (p.at j) = false) ∧
  (r.own = false → p.blk < B)

/-- The marks of a block that the call may write lie behind its cells. -/
def FrOk (w : World) (b : Nat) : Prop := ∀ cs e lo hi, w.heap[b]? = some (.cells cs e (lo, hi)) → lo = hi ∨ cs.size ≤ lo

structure Rel (B : Nat) (W0 : World) (ρ : Pl) (σ : H) (w : World) : Prop where
  below : Below B W0 w
  base : B ≤ w.heap.size
  dom : ∀ i v p, ρ i v = some p → i < σ.size ∧ p.blk < w.heap.size ∧ v ≤ p.cap
  vers : ∀ i v p r, ρ i v = some p → σ.get i = some (.row r) → v ≤ r.cells.length
  low : ∀ i r, σ.get i = some (.row r) → r.low ≤ r.cells.length
  row : ∀ i r v, σ.get i = some (.row r) → r.low ≤ v → v ≤ r.cells.length → ∃ p, ρ i v = some p ∧ RowAt B ρ w r v p
  disj : ∀ i j v u p q o o', i ≠ j → ρ i v = some p → ρ j u = some q → σ.get i = some o → σ.get j = some o' → o.own = true → o'.own = true → p.blk ≠ q.blk
  fr : ∀ i v p o, ρ i v = some p → σ.get i = some o → o.own = true → FrOk w p.blk
  same : ∀ i v u p q, ρ i v = some p → ρ i u = some q → p.blk = q.blk → p.off = q.off
  obj : ∀ i o, σ.get i = some o → o.solid = true → ∃ p x, ρ i 0 = some p ∧ B ≤ p.blk ∧ w.heap[p.blk]? = some x ∧ ORel ρ o x
  dfr : ∀ b, b ∈ ρ.dfr → B ≤ b ∧ w.heap[b]? = some (.deferred (some []))

end Go.Am
