/-
  AM: closed runs, faster: each operation, region, code, function is turned once into a small function of the state; the kernel keeps it. (Lemmas alone; no program.)
-/
import Derived.Test.YtaolbokpeafejaaGreatDoorAmRun
set_option linter.unusedVariables false
set_option linter.unusedSimpArgs false
namespace Go.Am
open Go Go.RowKit

/-- A function that is worked out once. -/
structure Cl (α : Type) where
  run : α

/-! ### Slots -/
def cG : Nat → Nat → Cl (TV → Option V)
  | 0, _ => ⟨fun _ => none⟩
  | f + 1, i => match i with
    | 0 => ⟨fun t => Tr.casesOn t none fun _ v _ => v⟩
    | k + 1 => match k % 2 with
      | 0 => match cG f (k / 2) with
        | ⟨h⟩ => ⟨fun t => Tr.casesOn t none fun l _ _ => h l⟩
      | _ => match cG f (k / 2) with
        | ⟨h⟩ => ⟨fun t => Tr.casesOn t none fun _ _ r => h r⟩

theorem cG_eq : ∀ (f i : Nat) (t : TV), i < f → (cG f i).run t = t.get i
  | 0, i, t, h => by omega
  | f + 1, i, t, h => by
    cases i with
    | zero => cases t <;> rfl
    | succ k =>
      simp only [cG]
      have ih := fun t => cG_eq f (k / 2) t (by omega)
      rcases mod2_cases k with hk | ⟨m, hk⟩
      · rw [hk]
        cases t with
        | nil => simp only; rfl
        | node l v r => simp only [Tr.get, hk]; exact ih l
      · rw [hk]
        cases t with
        | nil => simp only; rfl
        | node l v r => simp only [Tr.get, hk]; exact ih r

def cS : Nat → Nat → Cl (V → TV → TV)
  | 0, _ => ⟨fun _ t => t⟩
  | f + 1, i => match i with
    | 0 => ⟨fun a t => Tr.casesOn t (.node .nil (some a) .nil) fun l _ r => .node l (some a) r⟩
    | k + 1 => match k % 2 with
      | 0 => match cS f (k / 2) with
        | ⟨h⟩ => ⟨fun a t => Tr.casesOn t (.node (h a .nil) none .nil) fun l v r => .node (h a l) v r⟩
      | _ => match cS f (k / 2) with
        | ⟨h⟩ => ⟨fun a t => Tr.casesOn t (.node .nil none (h a .nil)) fun l v r => .node l v (h a r)⟩

theorem sing_fuel (a : V) : ∀ (f g i : Nat), i < f → i < g → Tr.sing a f i = Tr.sing a g i
  | 0, _, i, h, _ => by omega
  | f + 1, 0, i, _, h => by omega
  | f + 1, g + 1, i, h1, h2 => by
    cases i with
    | zero => rfl
    | succ k =>
      simp only [Tr.sing]
      rw [sing_fuel a f g (k / 2) (by omega) (by omega)]

theorem cS_nil : ∀ (f i : Nat) (a : V), i < f → (cS f i).run a .nil = Tr.sing a f i
  | 0, i, a, h => by omega
  | f + 1, i, a, h => by
    cases i with
    | zero => rfl
    | succ k =>
      simp only [cS, Tr.sing]
      have ih := cS_nil f (k / 2) a (by omega)
      rcases mod2_cases k with hk | ⟨m, hk⟩ <;> rw [hk] <;> simp only [ih]

theorem cS_eq : ∀ (f i : Nat) (a : V) (t : TV), i < f → (cS f i).run a t = Tr.set a t i
  | 0, i, a, t, h => by omega
  | f + 1, i, a, .nil, h => by
    rw [cS_nil _ _ _ h]
    exact sing_fuel a _ _ i h (Nat.lt_succ_self i)
  | f + 1, i, a, .node l v r, h => by
    cases i with
    | zero => rfl
    | succ k =>
      simp only [cS, Tr.set]
      have ih := fun t => cS_eq f (k / 2) a t (by omega)
      rcases mod2_cases k with hk | ⟨m, hk⟩ <;> rw [hk] <;> simp only [ih]

/-- A slot of so many. -/
def cT (n t : Nat) : Cl (TV → Option V) :=
  match Nat.blt t n with
  | true => match cG (t + 1) t with
    | ⟨h⟩ => ⟨fun s => match h s with
      | some v => some v
      | none => some undefV⟩
  | false => ⟨fun _ => none⟩

theorem cT_eq (n t : Nat) (s : TV) : (cT n t).run s = gT s n t := by
  unfold cT gT
  split
  · have := cG_eq (t + 1) t s (Nat.lt_succ_self t)
    revert this
    cases cG (t + 1) t with
    | mk h =>
      intro this
      rename_i hb
      simp only at this ⊢
      rw [this, hb]
      rfl
  · rename_i hb; rw [hb]

def cP (d : Option Tmp) : Cl (V → TV → TV) :=
  match d with
  | some k => cS (k + 1) k
  | none => ⟨fun _ t => t⟩

theorem cP_eq (d : Option Tmp) (v : V) (t : TV) : (cP d).run v t = putT t d v := by
  cases d with
  | none => rfl
  | some k => exact cS_eq _ _ _ _ (Nat.lt_succ_self k)

/-! ### Operands -/
def cO (n : Nat) : Operand → Cl (TV → Option V)
  | .tmp t => cT n t
  | .const x => match ofConst x with
    | some v => ⟨fun _ => some v⟩
    | none => ⟨fun _ => none⟩
  | .global g => ⟨fun _ => some (.gp g 0)⟩
  | .func f => ⟨fun _ => some (.func (.func f) [] [])⟩

theorem cO_eq (n : Nat) (s : TV) (o : Operand) : (cO n o).run s = gO (gT s n) o := by
  cases o with
  | tmp t => exact cT_eq n t s
  | const x => simp only [cO, gO]; split <;> rename_i h <;> rw [h]
  | global g => rfl
  | func f => rfl

def cOs (n : Nat) : List Operand → Cl (TV → Option (List V))
  | [] => ⟨fun _ => some []⟩
  | o :: os => match cO n o, cOs n os with
    | ⟨f⟩, ⟨fs⟩ => ⟨fun s => match f s with
      | some v => match fs s with
        | some vs => some (v :: vs)
        | none => none
      | none => none⟩

theorem cOs_eq (n : Nat) (s : TV) : ∀ os, (cOs n os).run s = gOs (gT s n) os
  | [] => rfl
  | o :: os => by
    have h1 := cO_eq n s o
    have h2 := cOs_eq n s os
    simp only [cOs, gOs]
    revert h1 h2
    cases cO n o; cases cOs n os
    intro h1 h2
    simp only at h1 h2 ⊢
    rw [h1, h2]
    cases gO (gT s n) o <;> cases gOs (gT s n) os <;> rfl

/-- One operation, worked out. -/
abbrev Fn1 := EnvB → TV → H → KB → Bool

def un1 (f : TV → Option V) (k : V → Option V) : Cl Fn1 := ⟨fun _ s σ K => match f s with
  | some v => match k v with
    | some r => K r σ
    | none => false
  | none => false⟩
def un1h (f : TV → Option V) (k : H → V → Option V) : Cl Fn1 := ⟨fun _ s σ K => match f s with
  | some v => match k σ v with
    | some r => K r σ
    | none => false
  | none => false⟩
def bi1 (f h : TV → Option V) (k : V → V → Option V) : Cl Fn1 := ⟨fun _ s σ K => match f s with
  | some u => match h s with
    | some v => match k u v with
      | some r => K r σ
      | none => false
    | none => false
  | none => false⟩

def no1 : Cl Fn1 := ⟨fun _ _ _ _ => false⟩

/-- Arithmetic, by the operation. -/
def cB (k : BK) (op : BinOp) : Cl (V → V → Option V) :=
  match k, op with
  | .prim, .add => ⟨fun x y => match x, y with
    | .int k a, .int j b => match decide (k = j) with
      | true => some (.int k (k.wrap (a + b)))
      | false => none
    | .str a, .str b => strOp .add a b
    | _, _ => none⟩
  | .prim, .sub => ⟨fun x y => match x, y with
    | .int k a, .int j b => match decide (k = j) with
      | true => some (.int k (k.wrap (a - b)))
      | false => none
    | _, _ => none⟩
  | .prim, .lss => ⟨fun x y => match x, y with
    | .int k a, .int j b => match decide (k = j) with
      | true => some (.bool (decide (a < b)))
      | false => none
    | .str a, .str b => strOp .lss a b
    | _, _ => none⟩
  | .prim, .leq => ⟨fun x y => match x, y with
    | .int k a, .int j b => match decide (k = j) with
      | true => some (.bool (decide (a ≤ b)))
      | false => none
    | .str a, .str b => strOp .leq a b
    | _, _ => none⟩
  | .prim, .gtr => ⟨fun x y => match x, y with
    | .int k a, .int j b => match decide (k = j) with
      | true => some (.bool (decide (b < a)))
      | false => none
    | .str a, .str b => strOp .gtr a b
    | _, _ => none⟩
  | .prim, .geq => ⟨fun x y => match x, y with
    | .int k a, .int j b => match decide (k = j) with
      | true => some (.bool (decide (b ≤ a)))
      | false => none
    | .str a, .str b => strOp .geq a b
    | _, _ => none⟩
  | .prim, .eql => ⟨fun x y => match x, y with
    | .int k a, .int j b => match decide (k = j) with
      | true => some (.bool (decide (a = b)))
      | false => none
    | .str a, .str b => strOp .eql a b
    | _, _ => none⟩
  | .prim, .neq => ⟨fun x y => match x, y with
    | .int k a, .int j b => match decide (k = j) with
      | true => some (.bool (!decide (a = b)))
      | false => none
    | .str a, .str b => strOp .neq a b
    | _, _ => none⟩
  | k, op => ⟨fun x y => bnP k op x y⟩

theorem cB_eq (k : BK) (op : BinOp) (x y : V) : (cB k op).run x y = bnP k op x y := by
  unfold cB
  split <;> first
    | rfl
    | (cases x <;> cases y <;> simp only [bnP] <;> first
        | rfl
        | (rename_i k a j b
           by_cases h : k = j
           · subst h; simp [intOp]
           · simp [h])
        | simp [strOp])

def cX (C : Ctx) (n : Nat) (o : Oper) : Cl Fn1 :=
  match o.op with
  | .move x => ⟨fun _ s σ K => match (cO n x).run s with
    | some v => K v σ
    | none => false⟩
  | .assign x => ⟨fun _ s σ K => match (cO n x).run s with
    | some v => K v σ
    | none => false⟩
  | .load t x => match tk C.P t with
    | some (b, m) => ⟨fun _ s σ K => match (cO n x).run s with
      | some v => match ldP C.G σ b m v with
        | some r => K r σ
        | none => false
      | none => false⟩
    | none => no1
  | .binOp op t x y yt => match bnK C.P op t (isC x || isC y) with
    | some k => bi1 (cO n x).run (cO n y).run (cB k op).run
    | none => no1
  | .fieldAddr t x i => match fOff C.P t i with
    | some m => un1 (cO n x).run (addO m)
    | none => no1
  | .field t x i => match fdK C.P t i with
    | some k => un1 (cO n x).run (fdP k)
    | none => no1
  | .indexAddr t x i => match ixK C.P t with
    | some k => bi1 (cO n x).run (cO n i).run (ixP k)
    | none => no1
  | .index t x i => match inK C.P t with
    | some k => bi1 (cO n x).run (cO n i).run (inP k)
    | none => no1
  | .extract x i => un1 (cO n x).run (extV i)
  | .nilCheck x => un1 (cO n x).run nilV
  | .store t a x => match tk C.P t with
    | some (_, m) => ⟨fun _ s σ K => match (cO n a).run s with
      | some u => match (cO n x).run s with
        | some v => match stP σ m u v with
          | some σ' => K undefV σ'
          | none => false
        | none => false
      | none => false⟩
    | none => no1
  | .box e x => ⟨fun _ s σ K => match (cO n x).run s with
    | some v => K (.ptr (newPA σ v.cellsV.length)) (mkRow σ e v.cellsV)
    | none => false⟩
  | .call c => match c.callee with
    | .value f => ⟨fun E s σ K => match (cO n f).run s with
      | some u => match (cOs n c.args.toList).run s with
        | some vs => match u with
          | .func (.func f) fs cs => match fnOk C.P f with
            | true => E.call f (fs ++ vs ++ cs) σ K
            | false => match C.X f with
              | some k => exB k σ (fs ++ vs ++ cs) K
              | none => false
          | .yld r => E.yield r vs σ K
          | _ => false
        | none => false
      | none => false⟩
    | .builtin .append => match apK C.P c.argTypes with
      | some k => ⟨fun _ s σ K => match (cOs n c.args.toList).run s with
        | some [u, v] => match apP σ k u v with
          | some (r, σ') => K r σ'
          | none => false
        | _ => false⟩
      | none => no1
    | _ => ⟨fun E s σ K => opXG C E (gT s n) σ o K⟩
  | _ => ⟨fun E s σ K => opXG C E (gT s n) σ o K⟩

theorem cX_eq (C : Ctx) (n : Nat) (o : Oper) (E : EnvB) (s : TV) (σ : H) (K : KB) : (cX C n o).run E s σ K = opXG C E (gT s n) σ o K := by
  unfold cX
  split
  · rename_i x hop
    simp only [opXG, hop, opK, opRG, opR0G, cO_eq]; rfl
  · rename_i x hop
    simp only [opXG, hop, opK, opRG, opR0G, cO_eq]; rfl
  · rename_i t x hop
    simp only [opXG, hop, opK, opRG, opR0G]
    cases tk C.P t with
    | none => rfl
    | some q =>
      obtain ⟨b, m⟩ := q
      simp only [cO_eq]
      cases gO (gT s n) x <;> rfl
  · rename_i op t x y yt hop
    simp only [opXG, hop, opK, opRG, opR0G]
    cases bnK C.P op t (isC x || isC y) with
    | none => rfl
    | some k =>
      simp only [bi1, cO_eq]
      cases gO (gT s n) x with
      | none => rfl
      | some u =>
        cases gO (gT s n) y with
        | none => rfl
        | some v => simp only [cB_eq]; rfl
  · rename_i t x i hop
    simp only [opXG, hop, opK, opRG, opR0G]
    cases fOff C.P t i with
    | none => rfl
    | some m => simp only [un1, cO_eq]; cases gO (gT s n) x <;> rfl
  · rename_i t x i hop
    simp only [opXG, hop, opK, opRG, opR0G]
    cases fdK C.P t i with
    | none => rfl
    | some m => simp only [un1, cO_eq]; cases gO (gT s n) x <;> rfl
  · rename_i t x i hop
    simp only [opXG, hop, opK, opRG, opR0G]
    cases ixK C.P t with
    | none => rfl
    | some m => simp only [bi1, cO_eq]; cases gO (gT s n) x <;> cases gO (gT s n) i <;> rfl
  · rename_i t x i hop
    simp only [opXG, hop, opK, opRG, opR0G]
    cases inK C.P t with
    | none => rfl
    | some m => simp only [bi1, cO_eq]; cases gO (gT s n) x <;> cases gO (gT s n) i <;> rfl
  · rename_i x i hop
    simp only [opXG, hop, opK, opRG, opR0G, un1, cO_eq]; cases gO (gT s n) x <;> rfl
  · rename_i x hop
    simp only [opXG, hop, opK, opRG, opR0G, un1, cO_eq]; cases gO (gT s n) x <;> rfl
  · rename_i t a x hop
    simp only [opXG, hop, opK, opWG]
    cases tk C.P t with
    | none => rfl
    | some q =>
      obtain ⟨b, m⟩ := q
      simp only [cO_eq]
      cases gO (gT s n) a with
      | none => rfl
      | some u =>
        cases gO (gT s n) x with
        | none => rfl
        | some v =>
          simp only
          cases stP σ m u v <;> rfl
  · rename_i e x hop
    simp only [opXG, hop, opK, opWG, cO_eq]
    cases gO (gT s n) x <;> rfl
  · rename_i c hop
    split
    · rename_i f hc
      simp only [opXG, hop, opK, hc, cO_eq, cOs_eq]
      cases gO (gT s n) f with
      | none => rfl
      | some u => cases gOs (gT s n) c.args.toList <;> rfl
    · rename_i hc
      simp only [opXG, hop, opK, hc, opWG]
      cases apK C.P c.argTypes with
      | none => rfl
      | some k =>
        simp only [cOs_eq]
        cases gOs (gT s n) c.args.toList with
        | none => rfl
        | some vs =>
          match vs with
          | [] => rfl
          | [a] => rfl
          | [u, v] =>
            simp only
            cases apP σ k u v <;> rfl
          | a :: b :: d :: r => rfl
    · rfl
  · rfl

/-! ### Regions -/
def cGd (n : Nat) (ops : Array Oper) (o : Oper) : Cl (TV → Option Bool) :=
  match o.guard with
  | none => ⟨fun _ => some true⟩
  | some _ => match guardSlot ops o with
    | some (t, want) => ⟨fun s => match (cT n t).run s with
      | some (.bool b) => some (match b, want with
        | true, true => true
        | false, false => true
        | _, _ => false)
      | some (.tuple _) => some false
      | _ => none⟩
    | none => ⟨fun _ => none⟩

theorem cGd_eq (n : Nat) (ops : Array Oper) (o : Oper) (s : TV) : (cGd n ops o).run s = gdG ops o (gT s n) := by
  unfold cGd gdG
  cases o.guard with
  | none => rfl
  | some p =>
    simp only
    cases guardSlot ops o with
    | none => rfl
    | some q =>
      obtain ⟨t, want⟩ := q
      simp only [cT_eq]
      cases gT s n t with
      | none => rfl
      | some v => cases v <;> first | rfl | (rename_i b; cases b <;> cases want <;> rfl)

abbrev FnT := EnvB → TV → H → (TV → H → Bool) → Bool

def cReg (C : Ctx) (n : Nat) (ops : Array Oper) : List Oper → Cl FnT
  | [] => ⟨fun _ s σ K => K s σ⟩
  | o :: l => match o.guard with
    | none => ⟨fun E s σ K => (cX C n o).run E s σ fun v σ' => (cReg C n ops l).run E ((cP o.dst).run v s) σ' K⟩
    | some _ => ⟨fun E s σ K => match (cGd n ops o).run s with
      | some true => (cX C n o).run E s σ fun v σ' => (cReg C n ops l).run E ((cP o.dst).run v s) σ' K
      | some false => (cReg C n ops l).run E ((cP o.dst).run undefV s) σ K
      | none => false⟩

theorem cReg_eq (C : Ctx) (n : Nat) (ops : Array Oper) (E : EnvB) (K : TV → H → Bool) : ∀ (l : List Oper) (k : Nat) (s : TV) (σ : H), (∀ j, l[j]? = ops[k + j]?) → (cReg C n ops l).run E s σ K = exIxT C E n ops (List.range' k l.length) s σ K
  | [], k, s, σ, h => rfl
  | o :: l, k, s, σ, h => by
    have h0 : ops[k]? = some o := by have := h 0; simpa using this.symm
    have hn : ∀ j, l[j]? = ops[k + 1 + j]? := by
      intro j
      have := h (j + 1)
      rw [List.getElem?_cons_succ] at this
      rw [this]; congr 1; omega
    have ih := fun s σ => cReg_eq C n ops E K l (k + 1) s σ hn
    simp only [cReg, List.length_cons, List.range'_succ, exIxT, h0]
    cases hg : o.guard with
    | none =>
      have : gdG ops o (gT s n) = some true := by simp [gdG, hg]
      simp only [this, cX_eq, ih, cP_eq]
    | some p => simp only [cGd_eq, cX_eq, ih, cP_eq]; rfl

abbrev FnD := EnvB → List (Nat × TV) → TV → H → (TV → H → Bool) → Bool

def cDr (C : Ctx) (n : Nat) (ops : Array Oper) (ms : List Nat) : List Nat → Cl FnD
  | [] => ⟨fun _ _ s σ K => K s σ⟩
  | i :: l => match ops[i]? with
    | none => ⟨fun _ _ _ _ _ => false⟩
    | some o => match isEff C.P ops i with
      | true => ⟨fun E mem s σ K => match (cGd n ops o).run s with
        | some true => (cX C n o).run E s σ fun v σ' => looksT C n ops ms i σ σ' ((cDr C n ops ms l).run E mem ((cP o.dst).run v s) σ' K) mem
        | some false => (cDr C n ops ms l).run E mem ((cP o.dst).run undefV s) σ K
        | none => false⟩
      | false => match hrd C o.op with
        | true => ⟨fun E mem s σ K => match (cGd n ops o).run s with
          | some true => (cX C n o).run E s σ fun v _ => (cDr C n ops ms l).run E ((i, s) :: mem) ((cP o.dst).run v s) σ K
          | some false => (cDr C n ops ms l).run E mem ((cP o.dst).run undefV s) σ K
          | none => false⟩
        | false => ⟨fun E mem s σ K => match (cGd n ops o).run s with
          | some true => (cX C n o).run E s σ fun v _ => (cDr C n ops ms l).run E mem ((cP o.dst).run v s) σ K
          | some false => (cDr C n ops ms l).run E mem ((cP o.dst).run undefV s) σ K
          | none => false⟩

theorem cDr_eq (C : Ctx) (n : Nat) (ops : Array Oper) (ms : List Nat) (E : EnvB) (K : TV → H → Bool) : ∀ (l : List Nat) (mem : List (Nat × TV)) (s : TV) (σ : H), (cDr C n ops ms l).run E mem s σ K = dRunT C E n ops ms l mem s σ K
  | [], mem, s, σ => rfl
  | i :: l, mem, s, σ => by
    have ih := fun mem s σ => cDr_eq C n ops ms E K l mem s σ
    simp only [cDr, dRunT]
    cases ops[i]? with
    | none => rfl
    | some o =>
      simp only
      cases isEff C.P ops i with
      | true => simp only [cGd_eq, cX_eq, ih, cP_eq]; rfl
      | false =>
        cases hrd C o.op with
        | true => simp only [cGd_eq, cX_eq, ih, cP_eq]; rfl
        | false => simp only [cGd_eq, cX_eq, ih, cP_eq]; rfl

/-! ### Code -/
abbrev FnC := EnvB → Option Nat → TV → H → KxT → Bool

def cC (C : Ctx) (n : Nat) : Code → Cl FnC
  | .skip => ⟨fun _ _ s σ K => K .normal s σ⟩
  | .label _ => ⟨fun _ _ s σ K => K .normal s σ⟩
  | .region id ops draw => match draw with
    | false => ⟨fun E _ s σ K => (cReg C n ops ops.toList).run E s σ (K .normal)⟩
    | true => match C.P.follows .mixedOrders && dOkF C.P ops (msk ops) (canonF C.P ops (msk ops)) with
      | true => ⟨fun E _ s σ K => (cDr C n ops (msk ops) (canonF C.P ops (msk ops))).run E [] s σ (K .normal)⟩
      | false => ⟨fun _ _ _ _ _ => false⟩
  | .seq a b => ⟨fun E ro s σ K => (cC C n a).run E ro s σ fun e s σ => match e with
    | .normal => (cC C n b).run E ro s σ K
    | .exit i => K (.exit i) s σ
    | .ret => K .ret s σ⟩
  | .cond c x y => ⟨fun E ro s σ K => match (cO n c).run s with
    | some (.bool true) => (cC C n x).run E ro s σ K
    | some (.bool false) => (cC C n y).run E ro s σ K
    | _ => false⟩
  | .block id c => ⟨fun E ro s σ K => (cC C n c).run E ro s σ fun e s σ => match e with
    | .exit i => match i == id with
      | true => K .normal s σ
      | false => K (.exit i) s σ
    | .normal => K .normal s σ
    | .ret => K .ret s σ⟩
  | .loop c => ⟨fun E ro s σ K => loopT (fun s σ K => (cC C n c).run E ro s σ K) E.n s σ K⟩
  | .scope c => cC C n c
  | .exit id => ⟨fun _ _ s σ K => K (.exit id) s σ⟩
  | .ret => ⟨fun _ _ s σ K => K .ret s σ⟩
  | c => ⟨fun E ro s σ K => execT C E ro n c s σ K⟩

theorem cC_eq (C : Ctx) (n : Nat) (E : EnvB) (ro : Option Nat) : ∀ (c : Code) (s : TV) (σ : H) (K : KxT), (cC C n c).run E ro s σ K = execT C E ro n c s σ K := by
  intro c
  induction c with
  | skip => intros; rfl
  | label l => intros; rfl
  | exit id => intros; rfl
  | ret => intros; rfl
  | goto l => intros; rfl
  | refuse l => intros; rfl
  | rangeFunc g ps a b => intros; rfl
  | region id ops draw =>
    intro s σ K
    cases draw with
    | false =>
      simp only [cC, execT]
      rw [cReg_eq C n ops E (K .normal) ops.toList 0 s σ (fun j => by simp), List.range_eq_range']
      simp
    | true =>
      simp only [cC, execT]
      cases C.P.follows .mixedOrders && dOkF C.P ops (msk ops) (canonF C.P ops (msk ops)) with
      | true => simp only [cDr_eq]
      | false => rfl
  | seq a b iha ihb =>
    intro s σ K
    simp only [cC, execT, iha, ihb]; rfl
  | cond c x y ihx ihy =>
    intro s σ K
    simp only [cC, execT, cO_eq, ihx, ihy]; rfl
  | block id c ih =>
    intro s σ K
    simp only [cC, execT, ih]; rfl
  | loop c ih =>
    intro s σ K
    simp only [cC, execT]
    congr 1
    funext s σ K
    exact ih s σ K
  | scope c ih => intro s σ K; simp only [cC, execT, ih]

/-! ### Functions -/
abbrev FnF := EnvB → List V → H → KB → Bool

def cRs (C : Ctx) (n : Nat) : List ResultVar → Cl (TV → H → Option (List V))
  | [] => ⟨fun _ _ => some []⟩
  | .tmp t :: rs => ⟨fun s σ => match (cT n t).run s with
    | some v => match (cRs C n rs).run s σ with
      | some vs => some (v :: vs)
      | none => none
    | none => none⟩
  | r :: rs => ⟨fun s σ => rsVsG C (gT s n) σ (r :: rs)⟩

theorem cRs_eq (C : Ctx) (n : Nat) (s : TV) (σ : H) : ∀ rs, (cRs C n rs).run s σ = rsVsG C (gT s n) σ rs
  | [] => rfl
  | .tmp t :: rs => by
    simp only [cRs, rsVsG, rsVG, cT_eq, cRs_eq C n s σ rs]
    cases gT s n t <;> cases rsVsG C (gT s n) σ rs <;> rfl
  | .cell a t :: rs => rfl

def cF (C : Ctx) (f : FuncId) : Cl FnF :=
  match C.P.funcs[f]? with
  | some fn => match fn.body with
    | none => ⟨fun _ _ _ _ => false⟩
    | some c => ⟨fun E args σ K => match Nat.ble args.length fn.ntmps with
      | true => (cC C fn.ntmps c).run E none (ofL .nil 0 args) σ fun e s σ => match e with
        | .exit _ => false
        | _ => match (cRs C fn.ntmps fn.results.toList).run s σ with
          | some vs => K (oneV vs) σ
          | none => false
      | false => false⟩
  | none => ⟨fun _ _ _ _ => false⟩

theorem cF_eq (C : Ctx) (f : FuncId) (E : EnvB) (args : List V) (σ : H) (K : KB) : (cF C f).run E args σ K = match C.P.funcs[f]? with
    | some fn => bodyT C E fn args σ K
    | none => false := by
  unfold cF
  cases C.P.funcs[f]? with
  | none => rfl
  | some fn =>
    simp only
    unfold bodyT
    cases fn.body with
    | none => rfl
    | some c =>
      simp only
      cases Nat.ble args.length fn.ntmps with
      | false => rfl
      | true =>
        simp only
        rw [cC_eq]
        congr 1
        funext e s σ
        cases e <;> simp only [cRs_eq] <;> rfl

def cRound (C : Ctx) (E : EnvB) (rid : Nat) (args : List V) (σ : H) (K : KB) : Bool :=
  match σ.get rid with
  | some (.loop l) => match args.length == l.params.size with
    | true => (cC C l.tmps.length l.assign).run E (some rid) (ofL .nil 0 (putMany l.tmps (l.params.toList.zip args))) σ fun e s1 σ1 => match e with
      | .normal => match σ1.get rid with
        | some (.loop l1) => match l1.state with
          | .ready => (cC C l.tmps.length l.body).run E (some rid) s1 (σ1.set rid (.loop { l1 with state := .busy })) fun e s σ => roundEndB rid K e (toL s 0 l.tmps.length) σ
          | _ => false
        | _ => false
      | _ => false
    | false => false
  | _ => false

theorem cRound_eq (C : Ctx) (E : EnvB) (rid : Nat) (args : List V) (σ : H) (K : KB) : cRound C E rid args σ K = roundXT C E rid args σ K := by
  unfold cRound roundXT
  simp only [cC_eq]; rfl

def envC (C : Ctx) (rounds : Nat) : Nat → EnvB
  | 0 => ⟨C, fun _ _ _ _ => false, fun _ _ _ _ => false, rounds⟩
  | n + 1 => ⟨C, fun f args σ K => (cF C f).run (envC C rounds n) args σ K, fun r args σ K => cRound C (envC C rounds n) r args σ K, rounds⟩

theorem envC_eq (C : Ctx) (r : Nat) : ∀ n, envC C r n = envN C r n
  | 0 => rfl
  | n + 1 => by
    simp only [envC, envN, envC_eq C r n, cRound_eq]
    congr 1
    funext f args σ K
    rw [cF_eq]; rfl

/-- A function that answers a Bool out of values alone: by the kernel's run. -/
theorem best_runC {C : Ctx} {P : Program} {G : Nat → List V} {X : FuncId → Option XK} (hP : P = C.P) (hG : G = C.G) (hX : X = C.X) (r n : Nat) {f : FuncId} {args : List V} {σ : H} {K : V → H → Prop} (b : Bool) (hF : ∀ (g j : Nat) (v : V), (C.G g)[j]? = some v → V.bel 0 v)
    (h : (envC ⟨0, default, P, G, X⟩ r n).call f args H0 (fun v _ => V.beq v (.bool b)) = true) (ha : V.bels 0 args) (hK : K (.bool b) σ) : best C f args σ K :=
  best_run hP hG hX r n b hF (by rw [envC_eq] at h; exact h) ha hK

end Go.Am
