/-
  AM: operations with an effect; regions in the order of the text; code; calls. (Lemmas alone; no program.)
-/
import Derived.Test.YtaolbokpeafejaaGreatDoorAmRd
import Derived.RangeFuncLeaves
import Derived.RangeFuncCalls
import Derived.RangeFuncRecord
import Derived.OrdersIn
import Derived.LoopNIn
set_option linter.unusedVariables false
set_option linter.unusedSimpArgs false
namespace Go.Am
open Go Go.RowKit

abbrev Call := FuncId → List V → H → (V → H → Prop) → Prop

structure Env where
  C : Ctx
  call : Call
  yield : Nat → List V → H → (V → H → Prop) → Prop
  n : Nat
  mask : Code → Option Nat

/-- The wide fence, in a round of a range over a function or in none. -/
abbrev FW (r : Option Nat) : Fence := { Fence.wide with round := r }

def need {α : Type} (x : Option α) (K : α → Prop) : Prop :=
  match x with
  | some v => K v
  | none => False

theorem need_elim {α : Type} {x : Option α} {K : α → Prop} (h : need x K) : ∃ v, x = some v ∧ K v := by
  cases x with
  | none => exact h.elim
  | some v => exact ⟨v, rfl, h⟩
/-- A need that is met. -/
theorem need_intro {α : Type} {x : Option α} {K : α → Prop} (v : α) (h : x = some v) (hk : K v) : need x K := by
  subst h; exact hk

@[congr] theorem need_congr {α : Type} {x y : Option α} {K : α → Prop} (h : x = y) : need x K = need y K := by rw [h]
theorem need_some {α : Type} (v : α) (K : α → Prop) : need (some v) K = K v := rfl
theorem need_none {α : Type} (K : α → Prop) : need none K = False := rfl

/-- The kinds of an operation: it reads, it works on memory, it calls. -/
inductive OK where
  | mv
  | fz
  | rd
  | wr
  | call
  | no

def opK (P : Program) : Op → OK
  | .move _ | .assign _ | .makeInterface .. | .makeFunc .. => .mv
  | .convert a b _ => match a == b with
    | true => .fz
    | false => match P.underlying b with
      | some (.slice _) => .wr
      | _ => .rd
  | .pick .. | .build .. | .load .. | .nilCheck _ | .binOp .. | .unOp .. | .slice .. | .fieldAddr .. | .field .. | .indexAddr .. | .index .. | .extract .. | .lookup .. => .rd
  | .alloc _ | .box .. | .buildSlice .. | .store .. | .makeSlice .. | .makeMap .. | .mapUpdate .. | .insert .. | .range .. | .next .. => .wr
  | .call c => match c.callee with
    | .builtin .len | .builtin .cap | .builtin .max | .builtin .min => .rd
    | .builtin .append | .builtin .clear | .builtin .copy | .builtin .delete => .wr
    | .value _ => .call
    | _ => .no
  | _ => .no

def clK (P : Program) (ts : Array TypeId) : Option SlK :=
  match ts[0]? with
  | some t => slInfo P t
  | none => none
def dlK (P : Program) (ts : Array TypeId) : Option (KK × V) :=
  match ts[0]? with
  | some t => mpK P t
  | none => none
/-- Bytes of a string: the type of the elements. -/
def s2bK (P : Program) (a b : TypeId) : Option TypeId :=
  match P.underlying a, P.underlying b with
  | some .string, some (.slice e) => match P.underlying e with
    | some (.int .u8) => some e
    | _ => none
  | _, _ => none
def rgK (P : Program) (t : TypeId) : Bool :=
  match P.underlying t with
  | some .string => true
  | _ => false

/-- What an operation on memory answers (none: nothing), and the heap behind it. -/
def opW (C : Ctx) (s : List V) (σ : H) (op : Op) : Option (Option V × H) :=
  match op with
  | .alloc e => match zeroV C.P e with
    | some v => some (some (.ptr (newPA σ v.cellsV.length)), mkRow σ e v.cellsV)
    | none => none
  | .box e x => match evO s x with
    | some v => some (some (.ptr (newPA σ v.cellsV.length)), mkRow σ e v.cellsV)
    | none => none
  | .buildSlice t n ps => match slInfo C.P t, evPs s ps.toList with
    | some k, some vs => match bsP k n vs with
      | some cs => some (some (wholeSl σ k.sz n), mkRow σ k.elem cs)
      | none => none
    | _, _ => none
  | .store t a x => match tk C.P t, evO s a, evO s x with
    | some (_, n), some u, some v => match stP σ n u v with
      | some σ' => some (none, σ')
      | none => none
    | _, _, _ => none
  | .makeSlice t l c => match slInfo C.P t, evO s l, evO s c with
    | some k, some u, some v => match msP k u v with
      | some (n, m) => some (some (.slice (newPA σ (m * k.sz)) k.sz n m true), mkRow σ k.elem (zeros k m))
      | none => none
    | _, _, _ => none
  | .call c => match c.callee with
    | .builtin .append => match apK C.P c.argTypes, evOs s c.args.toList with
      | some k, some [u, v] => match apP σ k u v with
        | some (r, σ') => some (some r, σ')
        | none => none
      | _, _ => none
    | .builtin .clear => match clK C.P c.argTypes, evOs s c.args.toList with
      | some k, some [u] => match clP σ k u with
        | some σ' => some (some (.tuple []), σ')
        | none => none
      | _, _ => none
    | .builtin .copy => match clK C.P c.argTypes, evOs s c.args.toList with
      | some k, some [u, v] => match cpP σ k u v with
        | some (r, σ') => some (some r, σ')
        | none => none
      | _, _ => none
    | .builtin .delete => match dlK C.P c.argTypes, evOs s c.args.toList with
      | some k, some [u, v] => match dlP σ k.1 u v with
        | some σ' => some (some (.tuple []), σ')
        | none => none
      | _, _ => none
    | _ => none
  | .convert a b x => match s2bK C.P a b, evO s x with
    | some e, some (.str bs) => some (some (s2b σ bs), mkRow σ e (bs.map fun c => .int .u8 c.toNat))
    | _, _ => none
  | .makeMap t r => match r with
    | none => some (some (.map σ.size), σ.push (.map [] 0))
    | some _ => none
  | .mapUpdate t m k x => match mpK C.P t, evO s m, evO s k, evO s x with
    | some kk, some u, some v, some y => match muP σ kk.1 u v y with
      | some σ' => some (none, σ')
      | none => none
    | _, _, _, _ => none
  | .insert t m k x => match mpK C.P t, evO s m, evO s k, evO s x with
    | some kk, some u, some v, some y => match muP σ kk.1 u v y with
      | some σ' => some (none, σ')
      | none => none
    | _, _, _, _ => none
  | .range t x => match rgK C.P t, evO s x with
    | true, some (.str bs) => some (some (.iter σ.size), σ.push (.sit bs 0))
    | _, _ => none
  | .next it isS => match isS, evO s it with
    | true, some u => match nxP σ u with
      | some (r, σ') => some (some r, σ')
      | none => none
    | _, _ => none
  | _ => none

variable {C : Ctx} {ρ : Pl} {σ : H} {w : World}

/-- What the model's operation comes to: a value, or nothing. -/
def Ans (ρ : Pl) : Option V → Next → Prop
  | some v, n => ∃ x, n = .value x ∧ VR ρ v x
  | none, n => n = .skip

theorem opW_sound (hR : Rl C ρ σ w) {s : List V} {a : Act} (hs : VRs ρ s a.tmps.toList) {o : Oper} {r : Option V} {σ' : H} (h : opW C s σ o.op = some (r, σ')) :
    ∃ ρ' w' n, (execOp a.eval o).run C.P w = .ok n w' ∧ Ext ρ ρ' ∧ Rl C ρ' σ' w' ∧ Ans ρ' r n := by
  have lift : ∀ (m : Sem Value) (x : Value) (w' : World), m.run C.P w = .ok x w' → (do pure (Next.value (← m)) : Sem Next).run C.P w = .ok (.value x) w' := by
    intro m x w' hm
    simp [hm]
  unfold opW at h
  split at h
  · rename_i e hop
    split at h
    · rename_i v hv
      cases h
      obtain ⟨ρ', w', y, h1, h2, h3, h4⟩ := alloc_sound hR e hv
      exact ⟨ρ', w', .value y, by simp only [execOp, hop]; exact lift _ _ _ h1, h2, h3, y, rfl, h4⟩
    · simp at h
  · rename_i e x hop
    split at h
    · rename_i v hv
      cases h
      obtain ⟨ρ', w', y, h1, h2, h3, h4⟩ := box_sound hR e (evO_sound hs hv)
      exact ⟨ρ', w', .value y, by simp only [execOp, hop]; exact lift _ _ _ h1, h2, h3, y, rfl, h4⟩
    · simp at h
  · rename_i t n ps hop
    split at h
    · rename_i k vs hk hvs
      split at h
      · rename_i cs hcs
        cases h
        obtain ⟨ρ', w', y, h1, h2, h3, h4⟩ := bs_sound hR (xs := ps.map fun (i, x) => (i, a.eval x)) hk (by simpa using evPs_sound hs hvs) hcs
        exact ⟨ρ', w', .value y, by simp only [execOp, hop]; exact lift _ _ _ h1, h2, h3, y, rfl, h4⟩
      · simp at h
    · simp at h
  · rename_i t p x hop
    split at h
    · rename_i b n u v hk hu hv
      split at h
      · rename_i σ2 hst
        cases h
        obtain ⟨w', h1, h2⟩ := st_sound hR hk (evO_sound hs hu) (evO_sound hs hv) hst
        exact ⟨ρ, w', .skip, by simp [execOp, hop, h1], Ext.refl _, h2, rfl⟩
      · simp at h
    · simp at h
  · rename_i t l c hop
    split at h
    · rename_i k u v hk hu hv
      split at h
      · rename_i n m hm
        cases h
        obtain ⟨ρ', w', y, h1, h2, h3, h4⟩ := ms_sound hR hk (evO_sound hs hu) (evO_sound hs hv) hm
        exact ⟨ρ', w', .value y, by simp only [execOp, hop]; exact lift _ _ _ h1, h2, h3, y, rfl, h4⟩
      · simp at h
    · simp at h
  · rename_i c hop
    split at h
    · rename_i hcal
      split at h
      · rename_i k u v hk hvs
        split at h
        · rename_i r2 σ2 hap
          cases h
          have hvr := evOs_sound hs hvs
          simp only [VRs] at hvr
          obtain ⟨x, xs, e, hx, y, ys, e2, hy, e3⟩ := hvr
          subst e3 e2
          have hargs : c.args.map a.eval = #[x, y] := by apply Array.ext'; simpa using e
          obtain ⟨ρ', w', z, h1, h2, h3, h4⟩ := ap_sound (ty := o.type) hR hk hx hy hap
          refine ⟨ρ', w', .value z, ?_, h2, h3, z, rfl, h4⟩
          simp only [execOp, hop, resolve, hcal, Sem.run_bind, Sem.run_pure, Result.andThen_ok, invoke, builtin, hargs, h1]
        · simp at h
      · simp at h
    · rename_i hcal
      split at h
      · rename_i k u hk hvs
        split at h
        · rename_i σ2 hcl
          cases h
          have hvr := evOs_sound hs hvs
          simp only [VRs] at hvr
          obtain ⟨x, xs, e, hx, e3⟩ := hvr
          subst e3
          have hargs : c.args.map a.eval = #[x] := by apply Array.ext'; simpa using e
          unfold clK at hk
          split at hk
          · rename_i t ht
            obtain ⟨w', h1, h2⟩ := cl_sound (ty := o.type) hR ht hk hx hcl
            refine ⟨ρ, w', .value (.tuple #[]), ?_, Ext.refl _, h2, _, rfl, by simp only [VR]; exact ⟨_, rfl, rfl⟩⟩
            simp only [execOp, hop, resolve, hcal, Sem.run_bind, Sem.run_pure, Result.andThen_ok, invoke, builtin, hargs, h1]
          · cases hk
        · cases h
      · cases h
    · rename_i hcal
      split at h
      · rename_i k u v hk hvs
        split at h
        · rename_i r2 σ2 hcp
          cases h
          have hvr := evOs_sound hs hvs
          simp only [VRs] at hvr
          obtain ⟨x, xs, e, hx, y, ys, e2, hy, e3⟩ := hvr
          subst e3 e2
          have hargs : c.args.map a.eval = #[x, y] := by apply Array.ext'; simpa using e
          unfold clK at hk
          split at hk
          · rename_i t ht
            obtain ⟨z, w', h1, h2, h3⟩ := cp_sound (ty := o.type) hR ht hk hx hy hcp
            refine ⟨ρ, w', .value z, ?_, Ext.refl _, h2, _, rfl, h3⟩
            simp only [execOp, hop, resolve, hcal, Sem.run_bind, Sem.run_pure, Result.andThen_ok, invoke, builtin, hargs, h1]
          · cases hk
        · cases h
      · cases h
    · rename_i hcal
      split at h
      · rename_i k u v hk hvs
        split at h
        · rename_i σ2 hdl
          cases h
          have hvr := evOs_sound hs hvs
          simp only [VRs] at hvr
          obtain ⟨x, xs, e, hx, y, ys, e2, hy, e3⟩ := hvr
          subst e3 e2
          have hargs : c.args.map a.eval = #[x, y] := by apply Array.ext'; simpa using e
          unfold dlK at hk
          split at hk
          · rename_i t ht
            obtain ⟨w', h1, h2⟩ := dl_sound (ty := o.type) hR ht hk hx hy hdl
            refine ⟨ρ, w', .value (.tuple #[]), ?_, Ext.refl _, h2, _, rfl, by simp only [VR]; exact ⟨_, rfl, rfl⟩⟩
            simp only [execOp, hop, resolve, hcal, Sem.run_bind, Sem.run_pure, Result.andThen_ok, invoke, builtin, hargs, h1]
          · cases hk
        · cases h
      · cases h
    · simp at h
  · rename_i ta tb x hop
    split at h
    · rename_i e bs hk hv
      cases h
      unfold s2bK at hk
      split at hk
      · rename_i e2 hu1 hu2
        split at hk
        · rename_i he
          cases hk
          have hvr := evO_sound hs hv
          simp only [VR] at hvr
          obtain ⟨ρ', w', y, h1, h2, h3, h4⟩ := s2b_sound (b := bs) hR hu1 hu2 he
          refine ⟨ρ', w', .value y, ?_, h2, h3, y, rfl, h4⟩
          simp only [execOp, hop, hvr]
          exact lift _ _ _ h1
        · cases hk
      · cases hk
    · cases h
  · rename_i t r hop
    split at h
    · cases h
      obtain ⟨ρ', h1, h2, h3⟩ := mkmap_sound hR
      refine ⟨ρ', _, .value _, ?_, h1, h2, _, rfl, h3⟩
      simp only [execOp, hop, Instr.makeMap, Option.map_none, Sem.run_bind, Sem.run_pure, Result.andThen_ok, run_newObj_alloc]
    · cases h
  · rename_i t m k x hop
    split at h
    · rename_i kk u v y hk hm hkey hx
      split at h
      · rename_i σ2 hmu
        cases h
        obtain ⟨w', h1, h2⟩ := mu_sound hR hk (evO_sound hs hm) (evO_sound hs hkey) (evO_sound hs hx) hmu
        exact ⟨ρ, w', .skip, by simp [execOp, hop, h1], Ext.refl _, h2, rfl⟩
      · cases h
    · cases h
  · rename_i t m k x hop
    split at h
    · rename_i kk u v y hk hm hkey hx
      split at h
      · rename_i σ2 hmu
        cases h
        obtain ⟨w', h1, h2⟩ := mu_sound hR hk (evO_sound hs hm) (evO_sound hs hkey) (evO_sound hs hx) hmu
        exact ⟨ρ, w', .skip, by simp [execOp, hop, h1], Ext.refl _, h2, rfl⟩
      · cases h
    · cases h
  · rename_i t x hop
    split at h
    · rename_i bs hk hv
      cases h
      unfold rgK at hk
      split at hk
      · rename_i hu
        have hvr := evO_sound hs hv
        simp only [VR] at hvr
        obtain ⟨ρ', h1, h2, h3⟩ := sit_sound hR bs
        refine ⟨ρ', _, .value _, ?_, h1, h2, _, rfl, h3⟩
        simp only [execOp, hop, hvr, Instr.range, Sem.run_bind, run_underlying hu, Sem.run_pure, Result.andThen_ok, run_newObj_alloc]
      · cases hk
    · cases h
  · rename_i it isS hop
    split at h
    · rename_i u hu
      split at h
      · rename_i r2 σ2 hnx
        cases h
        obtain ⟨y, w', h1, h2, h3⟩ := nx_sound (ty := o.type) hR (evO_sound hs hu) hnx
        refine ⟨ρ, w', .value y, ?_, Ext.refl _, h2, y, rfl, h3⟩
        simp only [execOp, hop]
        exact lift _ _ _ h1
      · cases h
    · cases h
  · simp at h

/-! ### Calls -/

/-- May this function be entered? -/
def fnOk (P : Program) (g : FuncId) : Bool :=
  match P.funcs[g]? with
  | some fn => fn.body.isSome && !(fn.name == "runtime.NumGoroutine")
  | none => false

/-- What the model carries out itself. -/
def cmpI (a b : List UInt8) : Int := Extern.BytealgCompare.cmp ⟨⟨a⟩⟩ ⟨⟨b⟩⟩

/-- A float brought to a whole one. -/
def wholeF (way : Ieee.Toward) (x : Nat) : Option V :=
  match FloatKind.f64.decode x with
  | .nan _ t => if FloatKind.f64.format.quiet t = t then some (.flt .f64 x) else none
  | d => some (.flt .f64 (FloatKind.f64.encode (d.integral way)))

theorem wholeF_sound {P : Program} {name : String} {way : Ieee.Toward} {x : Nat} {v : V} (h : wholeF way x = some v) :
    ∃ y, (Extern.MathFloor.toIntegral name way #[.float .f64 x]).run P w = .ok y w ∧ ∀ ρ, VR ρ v y := by
  unfold wholeF at h
  have e : Extern.MathFloor.toIntegral name way #[.float .f64 x] = (match FloatKind.f64.decode x with
    | .nan s t =>
      if FloatKind.f64.format.quiet t = t then pure (.float .f64 x) else do
      let kept ← choose (.extern "math.Floor,Ceil,Trunc,RoundToEven.signallingNaN kept" 2)
      pure (.float .f64 (if kept == 1 then x else FloatKind.f64.encode (.nan s (FloatKind.f64.format.quiet t))))
    | d => pure (.float .f64 (FloatKind.f64.encode (d.integral way))) : Sem Value) := rfl
  rw [e]
  cases hd : FloatKind.f64.decode x with
  | nan s t =>
    simp only [hd] at h
    split at h
    · rename_i hq
      cases h
      exact ⟨.float .f64 x, by simp only [hq, if_true, Sem.run_pure], fun _ => by simp only [VR]⟩
    · cases h
  | infinity s =>
    simp only [hd] at h
    cases h
    exact ⟨_, by simp only [Sem.run_pure]; rfl, fun _ => by simp only [VR]⟩
  | number s m e =>
    simp only [hd] at h
    cases h
    exact ⟨_, by simp only [Sem.run_pure]; rfl, fun _ => by simp only [VR]⟩

def exP (k : XK) (σ : H) (args : List V) : Option (V × H) :=
  match k, args with
  | .bits, [.flt .f64 b] => some (.int .u64 b, σ)
  | .frombits, [.int .u64 n] => some (.flt .f64 n.toNat, σ)
  | .cmps, [.str a, .str b] => some (.int .i64 (cmpI a b), σ)
  | .clone, [.iface t (.map r)] => match σ.get r with
    | some (.map es c) => some (.iface t (.map σ.size), σ.push (.map es c))
    | _ => none
  | .floor, [.flt .f64 x] => (wholeF .down x).map fun v => (v, σ)
  | .trunc, [.flt .f64 x] => (wholeF .zero x).map fun v => (v, σ)
  | _, _ => none

theorem exP_sound (hR : Rl C ρ σ w) {f : FuncId} {k : XK} (hk : C.X f = some k) {args : List V} {xs : List Value} (hx : VRs ρ args xs) {v : V} {σ' : H} (h : exP k σ args = some (v, σ')) :
    ∃ ρ' w' x, (callFunc f xs.toArray).run C.P w = .ok (.value x) w' ∧ Ext ρ ρ' ∧ Rl C ρ' σ' w' ∧ VR ρ' v x := by
  obtain ⟨fn, h1, h2, h3, h4, h5⟩ := hR.ext f k hk
  have hrun := run_callFunc_extern h1 h2 h3 h4 h5 xs.toArray w
  unfold exP at h
  split at h
  · rename_i b
    cases h
    simp only [VRs, VR] at hx
    obtain ⟨_, _, rfl, rfl, rfl⟩ := hx
    refine ⟨ρ, w, .int .u64 b, ?_, Ext.refl _, hR, by simp only [VR]⟩
    rw [hrun]; rfl
  · rename_i n
    cases h
    simp only [VRs, VR] at hx
    obtain ⟨_, _, rfl, rfl, rfl⟩ := hx
    refine ⟨ρ, w, .float .f64 n.toNat, ?_, Ext.refl _, hR, by simp only [VR]⟩
    rw [hrun]; rfl
  · rename_i a b
    cases h
    simp only [VRs, VR] at hx
    obtain ⟨_, _, rfl, rfl, _, _, rfl, rfl, rfl⟩ := hx
    refine ⟨ρ, w, .int .i64 (cmpI a b), ?_, Ext.refl _, hR, by simp only [VR]⟩
    rw [hrun]; rfl
  · rename_i t r
    split at h
    · rename_i es c hg
      cases h
      simp only [VRs, VR] at hx
      obtain ⟨_, _, rfl, ⟨_, rfl, p, hp, rfl⟩, rfl⟩ := hx
      obtain ⟨q, ob, hq, hB, hob, ys, rfl, hmr⟩ := hR.obj _ _ hg rfl
      rw [hp] at hq; cases hq
      obtain ⟨g1, g2⟩ := hR.push_solid (o := .map es c) (x := .map ys c) rfl ⟨_, rfl, hmr⟩
      have hgo : (getObj p.blk).run C.P w = .ok (.map ys c) w := by simp [getObj, Sem.run, hob]
      refine ⟨_, w.alloc (.map ys c), .iface t (.map (some w.heap.size)), ?_, g2, g1, ?_⟩
      · rw [hrun]
        have e : XK.fn .clone [Value.iface t (.map (some p.blk))].toArray = (do
            let .map entries clock ← getObj p.blk | stuck "maps.clone: a map expected"
            pure (.iface t (.map (some (← newObj (.map entries clock))))) : Sem Value) := rfl
        rw [e]
        simp only [Sem.run_bind, hgo, Result.andThen_ok, run_newObj_alloc, Sem.run_pure]
      · simp only [VR]
        exact ⟨_, rfl, ⟨w.heap.size, 0, 0⟩, by simp [Pl.new_at], rfl⟩
    · cases h
  · rename_i x
    rw [Option.map_eq_some_iff] at h
    obtain ⟨u, hu, he⟩ := h
    cases he
    simp only [VRs, VR] at hx
    obtain ⟨_, _, rfl, rfl, rfl⟩ := hx
    obtain ⟨y, hy, hr⟩ := wholeF_sound (P := C.P) (w := w) (name := "math.archFloor") (way := .down) hu
    refine ⟨ρ, w, y, ?_, Ext.refl _, hR, hr ρ⟩
    rw [hrun]
    have e : XK.fn .floor [Value.float .f64 x].toArray = Extern.MathFloor.toIntegral "math.archFloor" .down #[.float .f64 x] := rfl
    rw [e, hy]
    rfl
  · rename_i x
    rw [Option.map_eq_some_iff] at h
    obtain ⟨u, hu, he⟩ := h
    cases he
    simp only [VRs, VR] at hx
    obtain ⟨_, _, rfl, rfl, rfl⟩ := hx
    obtain ⟨y, hy, hr⟩ := wholeF_sound (P := C.P) (w := w) (name := "math.archTrunc") (way := .zero) hu
    refine ⟨ρ, w, y, ?_, Ext.refl _, hR, hr ρ⟩
    rw [hrun]
    have e : XK.fn .trunc [Value.float .f64 x].toArray = Extern.MathFloor.toIntegral "math.archTrunc" .zero #[.float .f64 x] := rfl
    rw [e, hy]
    rfl
  · cases h

/-- A function value is called. -/
def callV (E : Env) (f : V) (args : List V) (σ : H) (K : V → H → Prop) : Prop :=
  match f with
  | .func (.func g) fs cs => if fnOk E.C.P g = true then E.call g (fs ++ args ++ cs) σ K else match E.C.X g with
    | some k => need (exP k σ (fs ++ args ++ cs)) fun r => K r.1 r.2
    | none => False
  | .yld r => E.yield r args σ K
  | _ => False

def CallOk (C : Ctx) (call : Call) : Prop :=
  ∀ (f : FuncId) (args : List V) (σ : H) (K : V → H → Prop), call f args σ K → ∀ (ρ : Pl) (w : World) (xs : List Value), Rl C ρ σ w → VRs ρ args xs →
    Calls C.P f xs.toArray w fun e w' => ∃ v σ' ρ' x, K v σ' ∧ e = .returned x ∧ Ext ρ ρ' ∧ Rl C ρ' σ' w' ∧ VR ρ' v x

/-- What a call of yield comes to: a round of the loop. -/
def bestY (C : Ctx) (rid : Nat) (args : List V) (σ : H) (K : V → H → Prop) : Prop :=
  ∀ (ρ : Pl) (w : World) (xs : List Value), Rl C ρ σ w → VRs ρ args xs → ∃ p f tmps assign body, ρ rid 0 = some p ∧ (Instr.yield p.blk xs.toArray).run C.P w = .ok (.round p.blk f tmps assign body) w ∧
    RoundIn (FW none) 0 C.P p.blk f tmps assign body w fun e w' => ∃ v σ' ρ' x, K v σ' ∧ e = .returned x ∧ Ext ρ ρ' ∧ Rl C ρ' σ' w' ∧ VR ρ' v x

def YieldOk (C : Ctx) (y : Nat → List V → H → (V → H → Prop) → Prop) : Prop := ∀ rid args σ K, y rid args σ K → bestY C rid args σ K

def undefV : V := .tuple []

def putS (s : List V) (d : Option Tmp) (v : V) : List V :=
  match d with
  | some t => s.set t v
  | none => s

theorem putS_rel {s : List V} {a : Act} {d : Option Tmp} {v : V} {x : Value} (hs : VRs ρ s a.tmps.toList) (hv : VR ρ v x) : VRs ρ (putS s d v) (a.put d x).tmps.toList := by
  cases d with
  | none => exact hs
  | some t => simpa [putS, Act.put] using hs.set hv

theorem put_defers (a : Act) (d : Option Tmp) (x : Value) : (a.put d x).defers = a.defers := by cases d <;> rfl

theorem undef_rel : VR ρ undefV undef := by simp only [undefV, VR]; exact ⟨#[], rfl, by simp [VRs]⟩

/-- The operations on memory, each handed what follows it. -/
def boxX (σ : H) (e : TypeId) (v : V) (K : V → H → Prop) : Prop := K (.ptr (newPA σ v.cellsV.length)) (mkRow σ e v.cellsV)
def storeX (σ : H) (n : Nat) (u v : V) (K : V → H → Prop) : Prop := need (stP σ n u v) fun σ' => K undefV σ'
def litX (σ : H) (k : SlK) (n : Nat) (ps : List (Nat × V)) (K : V → H → Prop) : Prop := need (bsP k n ps) fun cs => K (wholeSl σ k.sz n) (mkRow σ k.elem cs)
def makeX (σ : H) (k : SlK) (l c : V) (K : V → H → Prop) : Prop := need (msP k l c) fun r => K (.slice (newPA σ (r.2 * k.sz)) k.sz r.1 r.2 true) (mkRow σ k.elem (zeros k r.2))
def appX (σ : H) (k : SlK) (u v : V) (K : V → H → Prop) : Prop := need (apP σ k u v) fun r => K r.1 r.2

def s2bX (σ : H) (e : TypeId) (v : V) (K : V → H → Prop) : Prop :=
  match v with
  | .str bs => K (s2b σ bs) (mkRow σ e (bs.map fun c => .int .u8 c.toNat))
  | _ => False
def rgX (σ : H) (v : V) (K : V → H → Prop) : Prop :=
  match v with
  | .str bs => K (.iter σ.size) (σ.push (.sit bs 0))
  | _ => False

def opWX (C : Ctx) (s : List V) (σ : H) (op : Op) (K : V → H → Prop) : Prop :=
  match op with
  | .alloc e => match zeroV C.P e with
    | some v => boxX σ e v K
    | none => False
  | .box e x => match evO s x with
    | some v => boxX σ e v K
    | none => False
  | .buildSlice t n ps => match slInfo C.P t, evPs s ps.toList with
    | some k, some vs => litX σ k n vs K
    | _, _ => False
  | .store t a x => match tk C.P t, evO s a, evO s x with
    | some (_, n), some u, some v => storeX σ n u v K
    | _, _, _ => False
  | .makeSlice t l c => match slInfo C.P t, evO s l, evO s c with
    | some k, some u, some v => makeX σ k u v K
    | _, _, _ => False
  | .call c => match c.callee with
    | .builtin .append => match apK C.P c.argTypes, evOs s c.args.toList with
      | some k, some [u, v] => appX σ k u v K
      | _, _ => False
    | .builtin .clear => match clK C.P c.argTypes, evOs s c.args.toList with
      | some k, some [u] => need (clP σ k u) fun σ' => K (.tuple []) σ'
      | _, _ => False
    | .builtin .copy => match clK C.P c.argTypes, evOs s c.args.toList with
      | some k, some [u, v] => need (cpP σ k u v) fun r => K r.1 r.2
      | _, _ => False
    | .builtin .delete => match dlK C.P c.argTypes, evOs s c.args.toList with
      | some k, some [u, v] => need (dlP σ k.1 u v) fun σ' => K (.tuple []) σ'
      | _, _ => False
    | _ => False
  | .convert a b x => match s2bK C.P a b, evO s x with
    | some e, some v => s2bX σ e v K
    | _, _ => False
  | .makeMap t r => match r with
    | none => K (.map σ.size) (σ.push (.map [] 0))
    | some _ => False
  | .mapUpdate t m k x => match mpK C.P t, evO s m, evO s k, evO s x with
    | some kk, some u, some v, some y => need (muP σ kk.1 u v y) fun σ' => K undefV σ'
    | _, _, _, _ => False
  | .insert t m k x => match mpK C.P t, evO s m, evO s k, evO s x with
    | some kk, some u, some v, some y => need (muP σ kk.1 u v y) fun σ' => K undefV σ'
    | _, _, _, _ => False
  | .range t x => match rgK C.P t, evO s x with
    | true, some v => rgX σ v K
    | _, _ => False
  | .next it isS => match isS, evO s it with
    | true, some u => need (nxP σ u) fun r => K r.1 r.2
    | _, _ => False
  | _ => False

theorem opWX_opW {C : Ctx} {s : List V} {σ : H} {op : Op} {K : V → H → Prop} (h : opWX C s σ op K) : ∃ r σ', opW C s σ op = some (r, σ') ∧ K (r.getD undefV) σ' := by
  unfold opWX at h
  unfold opW
  split at h
  · split at h
    · rename_i v hv; exact ⟨some (.ptr (newPA σ v.cellsV.length)), mkRow σ _ v.cellsV, by simp only [hv], h⟩
    · exact h.elim
  · split at h
    · rename_i v hv; exact ⟨some (.ptr (newPA σ v.cellsV.length)), mkRow σ _ v.cellsV, by simp only [hv], h⟩
    · exact h.elim
  · split at h
    · rename_i n _ k vs hk hv
      obtain ⟨cs, hcs, hk2⟩ := need_elim h
      exact ⟨some (wholeSl σ k.sz _), mkRow σ k.elem cs, by simp only [hk, hv, hcs], hk2⟩
    · exact h.elim
  · split at h
    · rename_i b n u v hk hu hv
      obtain ⟨σ', hs, hk2⟩ := need_elim h
      exact ⟨none, σ', by simp only [hk, hu, hv, hs], hk2⟩
    · exact h.elim
  · split at h
    · rename_i k u v hk hu hv
      obtain ⟨⟨n, m⟩, hr, hk2⟩ := need_elim h
      exact ⟨some (.slice (newPA σ (m * k.sz)) k.sz n m true), mkRow σ k.elem (zeros k m), by simp only [hk, hu, hv, hr], hk2⟩
    · exact h.elim
  · split at h
    · split at h
      · rename_i hc k u v hk hv
        obtain ⟨⟨r, σ'⟩, hr, hk2⟩ := need_elim h
        exact ⟨some r, σ', by simp only [hk, hv, hr], hk2⟩
      · exact h.elim
    · split at h
      · rename_i k u hk hv
        obtain ⟨σ', hr, hk2⟩ := need_elim h
        exact ⟨some (.tuple []), σ', by simp only [hk, hv, hr], hk2⟩
      · exact h.elim
    · split at h
      · rename_i k u v hk hv
        obtain ⟨⟨r, σ'⟩, hr, hk2⟩ := need_elim h
        exact ⟨some r, σ', by simp only [hk, hv, hr], hk2⟩
      · exact h.elim
    · split at h
      · rename_i k u v hk hv
        obtain ⟨σ', hr, hk2⟩ := need_elim h
        exact ⟨some (.tuple []), σ', by simp only [hk, hv, hr], hk2⟩
      · exact h.elim
    · exact h.elim
  · split at h
    · rename_i e v hk hv
      unfold s2bX at h
      split at h
      · rename_i bs
        exact ⟨some (s2b σ bs), _, by simp only [hk, hv], h⟩
      · exact h.elim
    · exact h.elim
  · split at h
    · exact ⟨_, _, rfl, h⟩
    · exact h.elim
  · split at h
    · rename_i kk u v y hk hm hkey hx
      obtain ⟨σ', hr, hk2⟩ := need_elim h
      exact ⟨none, σ', by simp only [hk, hm, hkey, hx, hr], hk2⟩
    · exact h.elim
  · split at h
    · rename_i kk u v y hk hm hkey hx
      obtain ⟨σ', hr, hk2⟩ := need_elim h
      exact ⟨none, σ', by simp only [hk, hm, hkey, hx, hr], hk2⟩
    · exact h.elim
  · split at h
    · rename_i v hk hv
      unfold rgX at h
      split at h
      · rename_i bs
        exact ⟨some (.iter σ.size), _, by simp only [hk, hv], h⟩
      · exact h.elim
    · exact h.elim
  · split at h
    · rename_i u hu
      obtain ⟨⟨r, σ'⟩, hr, hk2⟩ := need_elim h
      exact ⟨some r, σ', by simp only [hu, hr], hk2⟩
    · exact h.elim
  · exact h.elim

/-- Bytes that are written out, as a slice. -/
def fzX (C : Ctx) (s : List V) (σ : H) (op : Op) (K : V → H → Prop) : Prop :=
  match op with
  | .convert a b x => match a == b, C.P.underlying a with
    | true, some (.slice e) => match C.P.underlying e with
      | some (.int .u8) => match evO s x with
        | some v => frzX σ v K
        | none => False
      | _ => False
    | _, _ => False
  | _ => False

theorem fzX_sound {C : Ctx} {ρ : Pl} {σ : H} {w : World} (hR : Rl C ρ σ w) {s : List V} {a : Act} (hs : VRs ρ s a.tmps.toList) {o : Oper} {K : V → H → Prop} (h : fzX C s σ o.op K) :
    ∃ v x w', (execOp a.eval o).run C.P w = .ok (.value x) w' ∧ VR ρ v x ∧ Rl C ρ σ w' ∧ K v σ := by
  unfold fzX at h
  split at h
  · rename_i ta tb x hop
    split at h
    · rename_i e hab hu
      have hab : ta = tb := by simpa using hab
      subst hab
      split at h
      · rename_i he
        split at h
        · rename_i v hv
          have hvr := evO_sound hs hv
          obtain ⟨w', h1, h2, h3⟩ := frz_sound hR hu he hvr h
          exact ⟨v, a.eval x, w', by simp [execOp, hop, h1], hvr, h2, h3⟩
        · exact h.elim
      · exact h.elim
    · exact h.elim
  · exact h.elim

/-- One operation. -/
def opX (E : Env) (s : List V) (σ : H) (o : Oper) (K : V → H → Prop) : Prop :=
  match opK E.C.P o.op with
  | .mv => match opR E.C s σ o.op with
    | some v => K v σ
    | none => False
  | .fz => fzX E.C s σ o.op K
  | .rd => need (opR E.C s σ o.op) fun v => K v σ
  | .wr => opWX E.C s σ o.op K
  | .call => match o.op with
    | .call c => match c.callee with
      | .value f => match evO s f, evOs s c.args.toList with
        | some u, some vs => callV E u vs σ K
        | _, _ => False
      | _ => False
    | _ => False
  | .no => False

theorem opK_defer {P : Program} {op : Op} (h : opK P op ≠ .no) : ∀ c, op ≠ .defer c := by
  rintro c rfl
  exact h rfl

theorem opX_sound {E : Env} (hC : CallOk E.C E.call) (hY : YieldOk E.C E.yield) {ro : Option Nat} (hR : Rl E.C ρ σ w) {s : List V} {a : Act} (hs : VRs ρ s a.tmps.toList) {o : Oper} {K : V → H → Prop} (h : opX E s σ o K)
    {next : Act → World → Prop} {Q : Exit → Act → World → Prop}
    (hK : ∀ v σ' ρ' x w', K v σ' → Ext ρ ρ' → Rl E.C ρ' σ' w' → VR ρ' v x → next (a.put o.dst x) w') : o.wpIn (FW ro) 0 E.C.P a w next Q := by
  have hdf : opK E.C.P o.op ≠ .no := by
    intro e
    unfold opX at h
    rw [e] at h
    exact h
  unfold opX at h
  unfold Oper.wpIn
  refine ⟨fun _ _ => trivial, ?_⟩
  rw [Oper.semAt_eq _ _ _ (opK_defer hdf)]
  split at h
  · split at h
    · rename_i v hv
      obtain ⟨x, hx, hr⟩ := opR_sound hR hs hv
      rw [hx, Oper.uponIn_value]
      exact hK _ _ _ _ _ h (Ext.refl _) hR hr
    · exact h.elim
  · obtain ⟨v, x, w', hx, hv, hR', hk⟩ := fzX_sound hR hs h
    rw [hx, Oper.uponIn_value]
    exact hK _ _ _ _ _ hk (Ext.refl _) hR' hv
  · obtain ⟨v, hv, hk⟩ := need_elim h
    obtain ⟨x, hx, hr⟩ := opR_sound hR hs hv
    rw [hx, Oper.uponIn_value]
    exact hK _ _ _ _ _ hk (Ext.refl _) hR hr
  · obtain ⟨r, σ', hv, hk⟩ := opWX_opW h
    obtain ⟨ρ', w', n, hx, he, hR', hr⟩ := opW_sound hR hs hv
    rw [hx]
    cases r with
    | some v =>
      obtain ⟨x, rfl, hvr⟩ := hr
      rw [Oper.uponIn_value]
      exact hK _ _ _ _ _ hk he hR' hvr
    | none =>
      have : n = .skip := hr
      subst this
      rw [Oper.uponIn_skip]
      exact hK _ _ _ _ _ hk he hR' undef_rel
  · split at h
    · rename_i c hop
      split at h
      · rename_i f hcal
        split at h
        · rename_i u vs hu hvs
          unfold callV at h
          split at h
          · rename_i g fs cs
            split at h
            · rename_i hok
              have hf := evO_sound hs hu
              simp only [VR] at hf
              obtain ⟨f1, c1, e, hf1, hc1⟩ := hf
              have hv := evOs_sound hs hvs
              have hcalls := hC _ _ _ _ h ρ w (f1.toList ++ c.args.toList.map a.eval ++ c1.toList) hR ((hf1.append hv).append hc1)
              have hfn : ∃ fn, E.C.P.funcs[g]? = some fn ∧ fn.body.isNone = false ∧ (fn.name == "runtime.NumGoroutine") = false := by
                unfold fnOk at hok
                split at hok
                · rename_i fn hfn
                  simp only [Bool.and_eq_true, Bool.not_eq_true'] at hok
                  refine ⟨fn, hfn, ?_, hok.2⟩
                  cases hb : fn.body <;> simp_all
                · simp at hok
              obtain ⟨fn, hfn, hb, hnm⟩ := hfn
              have hrun : (execOp a.eval o).run E.C.P w = .ok (.enter g (f1.toList ++ c.args.toList.map a.eval ++ c1.toList).toArray) w := by
                have hae : (f1.toList ++ c.args.toList.map a.eval ++ c1.toList).toArray = f1 ++ c.args.map a.eval ++ c1 := by
                  apply Array.ext'; simp
                rw [hae]
                simp only [execOp, hop, resolve, hcal, e, Deferred.ofValue, Sem.run_bind, Sem.run_pure, Result.andThen_ok, invoke, callFunc, run_program, hfn, hnm, hb, Bool.false_eq_true, if_false]
              rw [hrun, Oper.uponIn_enter]
              refine ⟨fun h => (by cases h), ?_⟩
              refine CallsIn.mono (show CallsIn (FW ro) 0 _ _ _ _ _ from (callsIn_wide (n := 0)).2 hcalls) ?_
              rintro e' w' ⟨v, σ', ρ', x, hk, rfl, he, hR', hvr⟩
              exact hK _ _ _ _ _ hk he hR' hvr
            · split at h
              · rename_i k hk
                obtain ⟨⟨v, σ2⟩, hv, hkk⟩ := need_elim h
                have hf := evO_sound hs hu
                simp only [VR] at hf
                obtain ⟨f1, c1, e, hf1, hc1⟩ := hf
                have hvv := evOs_sound hs hvs
                obtain ⟨ρ', w', x, hrun0, he, hR', hvr⟩ := exP_sound hR hk ((hf1.append hvv).append hc1) hv
                have hrun : (execOp a.eval o).run E.C.P w = .ok (.value x) w' := by
                  have hae : (f1.toList ++ c.args.toList.map a.eval ++ c1.toList).toArray = f1 ++ c.args.map a.eval ++ c1 := by
                    apply Array.ext'; simp
                  rw [hae] at hrun0
                  simp only [execOp, hop, resolve, hcal, e, Deferred.ofValue, Sem.run_bind, Sem.run_pure, Result.andThen_ok, invoke, hrun0]
                rw [hrun, Oper.uponIn_value]
                exact hK _ _ _ _ _ hkk he hR' hvr
              · exact h.elim
          · rename_i r
            have hf := evO_sound hs hu
            simp only [VR] at hf
            obtain ⟨p, hp, e⟩ := hf
            have hv := evOs_sound hs hvs
            obtain ⟨p', f, tmps, asg, bd, hp', hy, hround⟩ := hY _ _ _ _ h ρ w _ hR hv
            rw [hp] at hp'; cases hp'
            have hrun : (execOp a.eval o).run E.C.P w = .ok (.round p.blk f tmps asg bd) w := by
              have hae : (#[] ++ c.args.map a.eval : Array Value) = (c.args.toList.map a.eval).toArray := by
                apply Array.ext'; simp
              simp only [execOp, hop, resolve, hcal, e, Deferred.ofValue, Sem.run_bind, Sem.run_pure, Result.andThen_ok, invoke, hae, hy]
            rw [hrun, Oper.uponIn_round]
            refine ⟨fun h => (by cases h), ?_⟩
            refine RoundIn.mono (show RoundIn (FW ro) 0 _ _ _ _ _ _ _ _ from hround) ?_
            rintro e' w' ⟨v, σ', ρ', x, hk, rfl, he, hR', hvr⟩
            exact hK _ _ _ _ _ hk he hR' hvr
          · exact h.elim
        · exact h.elim
      · exact h.elim
    · exact h.elim
  · exact h.elim

end Go.Am
