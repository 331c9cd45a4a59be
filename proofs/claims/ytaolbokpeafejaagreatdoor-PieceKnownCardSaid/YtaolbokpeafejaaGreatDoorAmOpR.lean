/-
  AM: each operation that only reads, off the model's own operation. (Lemmas alone; no program.)
-/
import Derived.Test.YtaolbokpeafejaaGreatDoorAmEval
set_option linter.unusedVariables false
set_option linter.unusedSimpArgs false
namespace Go.Am
open Go Go.RowKit

variable {C : Ctx} {ρ : Pl} {σ : H} {w : World}

def evOpt (s : List V) : Option Operand → Option (Option V)
  | none => some none
  | some o => match evO s o with
    | some v => some (some v)
    | none => none

theorem evOpt_sound {s : List V} {a : Act} (hs : VRs ρ s a.tmps.toList) {o : Option Operand} {v : Option V} (h : evOpt s o = some v) : BR ρ v (o.map a.eval) := by
  cases o with
  | none => simp only [evOpt, Option.some.injEq] at h; subst h; simp [BR]
  | some o =>
    simp only [evOpt] at h
    split at h
    · rename_i u hu
      cases h
      simp only [BR]
      exact ⟨_, rfl, evO_sound hs hu⟩
    · simp at h

def evPs (s : List V) : List (Nat × Operand) → Option (List (Nat × V))
  | [] => some []
  | (i, o) :: ps => match evO s o, evPs s ps with
    | some v, some vs => some ((i, v) :: vs)
    | _, _ => none

theorem evPs_sound {s : List V} {a : Act} (hs : VRs ρ s a.tmps.toList) : ∀ {ps : List (Nat × Operand)} {vs : List (Nat × V)}, evPs s ps = some vs →
    All2 (fun (p : Nat × V) (q : Nat × Value) => p.1 = q.1 ∧ VR ρ p.2 q.2) vs (ps.map fun (i, x) => (i, a.eval x))
  | [], vs, h => by simp only [evPs, Option.some.injEq] at h; subst h; exact .nil
  | (i, o) :: ps, vs, h => by
    simp only [evPs] at h
    split at h
    · rename_i v us hv hu
      cases h
      exact .cons ⟨rfl, evO_sound hs hv⟩ (evPs_sound hs hu)
    · simp at h

def pickV (c a b : V) : Option V :=
  match c with
  | .bool t => some (if t then a else b)
  | _ => none

def extV (i : Nat) : V → Option V
  | .tuple vs => vs[i]?
  | _ => none

def nilV : V → Option V
  | .ptr a => some (.ptr a)
  | .gp g o => some (.gp g o)
  | .func (.func f) fs cs => some (.func (.func f) fs cs)
  | .yld r => some (.yld r)
  | _ => none

/-- A field of a struct value: is it a struct itself, where it begins, its cells. -/
def fdK (P : Program) (t : TypeId) (i : Nat) : Option (Bool × Nat × Nat) :=
  match P.underlying t with
  | some (.struct fs) => match fs[i]? with
    | some f => match tk P f.type with
      | some (b, n) => some (b, f.offset, n)
      | none => none
    | none => none
  | _ => none

def fdP (k : Bool × Nat × Nat) : V → Option V
  | .agg cs => partA k.1 k.2.1 k.2.2 cs
  | _ => none

/-- An element of a string or of an array value. -/
inductive IK where
  | str
  | arr (len : Nat) (agg : Bool) (n : Nat)

def inK (P : Program) (t : TypeId) : Option IK :=
  match P.underlying t with
  | some .string => some .str
  | some (.array n e) => match tk P e with
    | some (b, k) => some (.arr n b k)
    | none => none
  | _ => none

def inP (k : IK) (x i : V) : Option V :=
  match k, x, i with
  | .str, .str s, .int _ j => if 0 ≤ j then match s[j.toNat]? with
      | some b => some (.int .u8 b.toNat)
      | none => none
    else none
  | .arr len b n, .agg cs, .int _ j => if 0 ≤ j ∧ j < len then partA b (j.toNat * n) n cs else none
  | _, _, _ => none

/-- A struct or an array out of its zero cells and its parts. -/
def bdP (zs : List V) (qs : List (Nat × Nat × V)) : Option V :=
  match fillV zs qs with
  | some cs => some (.agg cs)
  | none => none

/-- A builtin that only reads. -/
def biR (C : Ctx) (b : Builtin) (ts : Array TypeId) (vs : List V) : Option V :=
  match b with
  | .len => match ts[0]? with
    | some t => match lnK C.P t with
      | some k => match vs with
        | [x] => lnP k x
        | _ => none
      | none => none
    | none => none
  | .cap => match ts[0]? with
    | some t => match lnK C.P t with
      | some k => match vs with
        | [x] => caP k x
        | _ => none
      | none => none
    | none => none
  | .max => match vs with
    | x :: ys => foldV max2V x ys
    | [] => none
  | .min => match vs with
    | x :: ys => foldV min2V x ys
    | [] => none
  | _ => none

def opR0 (C : Ctx) (s : List V) (σ : H) (op : Op) : Option V :=
  match op with
  | .move x | .assign x => evO s x
  | .pick c a b => match evO s c, evO s a, evO s b with
    | some c, some a, some b => pickV c a b
    | _, _, _ => none
  | .build t ps => match bdK C.P t, evPs s ps.toList with
    | some k, some vs => match places k.2 vs with
      | some qs => bdP k.1 qs
      | none => none
    | _, _ => none
  | .load t x => match tk C.P t, evO s x with
    | some (b, n), some v => ldP C.G σ b n v
    | _, _ => none
  | .nilCheck x => match evO s x with
    | some v => nilV v
    | none => none
  | .binOp op t x y _ => match bnK C.P op t (isC x || isC y), evO s x, evO s y with
    | some k, some u, some v => bnP k op u v
    | _, _, _ => none
  | .unOp op _ x => match evO s x with
    | some v => unP op v
    | none => none
  | .convert a b x => match cvK C.P a b, evO s x with
    | some k, some v => cvP σ k v
    | _, _ => none
  | .makeInterface t x => match C.P.underlying t, evO s x with
    | some (.interface _), _ => none
    | some _, some v => some (.iface t v)
    | _, _ => none
  | .makeFunc fn fs cs => match evOs s fs.toList, evOs s cs.toList with
    | some a, some b => some (.func fn a b)
    | _, _ => none
  | .slice t x lo hi mx => match slK C.P t, evO s x, evOpt s lo, evOpt s hi, evOpt s mx with
    | some k, some v, some l, some h, some m => slP k v l h m
    | _, _, _, _, _ => none
  | .fieldAddr t x i => match fOff C.P t i, evO s x with
    | some n, some v => addO n v
    | _, _ => none
  | .field t x i => match fdK C.P t i, evO s x with
    | some k, some v => fdP k v
    | _, _ => none
  | .indexAddr t x i => match ixK C.P t, evO s x, evO s i with
    | some k, some v, some j => ixP k v j
    | _, _, _ => none
  | .index t x i => match inK C.P t, evO s x, evO s i with
    | some k, some v, some j => inP k v j
    | _, _, _ => none
  | .extract x i => match evO s x with
    | some v => extV i v
    | none => none
  | .call c => match c.callee with
    | .builtin b => match evOs s c.args.toList with
      | some vs => biR C b c.argTypes vs
      | none => none
    | _ => none
  | _ => none

theorem partA_sound {P : Program} {t : TypeId} {b : Bool} {n off : Nat} {cs : List V} {xs : Array Value} {r : V} (hk : tk P t = some (b, n)) (hx : VRs ρ cs xs.toList) (h : partA b off n cs = some r) :
    ∃ y, (part t xs off).run P w = .ok y w ∧ VR ρ r y := by
  refine run_part' hx ?_
  simp only [partV, hk]
  cases b <;> simpa [partA] using h

theorem opR0_sound (hR : Rl C ρ σ w) {s : List V} {a : Act} (hs : VRs ρ s a.tmps.toList) {o : Oper} {v : V} (h : opR0 C s σ o.op = some v) :
    ∃ x, (execOp a.eval o).run C.P w = .ok (.value x) w ∧ VR ρ v x := by
  have lift : ∀ (m : Sem Value) (x : Value), m.run C.P w = .ok x w → (do pure (Next.value (← m)) : Sem Next).run C.P w = .ok (.value x) w := by
    intro m x hm
    simp [hm]
  unfold opR0 at h
  split at h
  · rename_i x hop
    exact ⟨_, by simp only [execOp, hop, Sem.run_pure], evO_sound hs h⟩
  · rename_i x hop
    exact ⟨_, by simp only [execOp, hop, Sem.run_pure], evO_sound hs h⟩
  · rename_i c x y hop
    split at h
    · rename_i vc va vb hc ha hb
      cases vc <;> simp only [pickV, reduceCtorEq, Option.some.injEq] at h
      rename_i t
      subst h
      have hcv := evO_sound hs hc
      simp only [VR] at hcv
      cases t
      · exact ⟨_, by simp only [execOp, hop, hcv, asBool, Sem.run_bind, Sem.run_pure, Result.andThen_ok, if_false, Bool.false_eq_true], evO_sound hs hb⟩
      · exact ⟨_, by simp only [execOp, hop, hcv, asBool, Sem.run_bind, Sem.run_pure, Result.andThen_ok, if_true], evO_sound hs ha⟩
    · simp at h
  · rename_i t ps hop
    split at h
    · rename_i k vs hk hv
      have h : bdV k vs = some v := by
        unfold bdV
        split at h
        · rename_i qs hqs
          rw [hqs]; exact h
        · simp at h
      obtain ⟨y, hy, hr⟩ := bd_sound (P := C.P) (w := w) (xs := ps.map fun (i, x) => (i, a.eval x)) hk (by simpa using evPs_sound hs hv) h
      exact ⟨y, by simp only [execOp, hop]; exact lift _ _ hy, hr⟩
    · simp at h
  · rename_i t x hop
    split at h
    · rename_i b n v hk hv
      obtain ⟨y, hy, hr⟩ := ld_sound hR hk (evO_sound hs hv) h
      exact ⟨y, by simp only [execOp, hop]; exact lift _ _ hy, hr⟩
    · simp at h
  · rename_i x hop
    split at h
    · rename_i u hu
      have hv := evO_sound hs hu
      unfold nilV at h
      split at h <;> cases h
      · simp only [VR] at hv ⊢
        obtain ⟨p, hp, e⟩ := hv
        exact ⟨_, by simp only [execOp, hop, e, Sem.run_pure], p, hp, rfl⟩
      · simp only [VR] at hv ⊢
        exact ⟨_, by simp only [execOp, hop, hv, Sem.run_pure], rfl⟩
      · have hv' := hv
        simp only [VR] at hv
        obtain ⟨f, c, e, _, _⟩ := hv
        refine ⟨a.eval x, by simp only [execOp, hop, e, Sem.run_pure], hv'⟩
      · have hv' := hv
        simp only [VR] at hv
        obtain ⟨p, hp, e⟩ := hv
        refine ⟨a.eval x, by simp only [execOp, hop, e, Sem.run_pure], hv'⟩
    · simp at h
  · rename_i op t x y yt hop
    split at h
    · rename_i k u v' hk hu hv
      obtain ⟨z, hz, hr⟩ := bn_sound (P := C.P) (w := w) (yt := yt) hk (evO_sound hs hu) (evO_sound hs hv) h
      exact ⟨z, by simp only [execOp, hop]; exact lift _ _ hz, hr⟩
    · simp at h
  · rename_i op t x hop
    split at h
    · rename_i u hu
      obtain ⟨z, hz, hr⟩ := un_sound (P := C.P) (w := w) (evO_sound hs hu) h
      exact ⟨z, by simp only [execOp, hop]; exact lift _ _ hz, hr⟩
    · simp at h
  · rename_i t1 t2 x hop
    split at h
    · rename_i k u hk hu
      obtain ⟨z, hz, hr⟩ := cv_sound hR hk (evO_sound hs hu) h
      exact ⟨z, by simp only [execOp, hop]; exact lift _ _ hz, hr⟩
    · simp at h
  · rename_i t x hop
    split at h
    · simp at h
    · rename_i d u hni hd hu
      cases h
      refine ⟨.iface t (a.eval x), ?_, by simp only [VR]; exact ⟨_, rfl, evO_sound hs hu⟩⟩
      simp only [execOp, hop]
      refine lift _ _ ?_
      simp only [Instr.makeInterface, Sem.run_bind, run_underlying hd, Result.andThen_ok]
      cases d <;> first | rfl | (rename_i ms; exact absurd hd (hni ms))
    · simp at h
  · rename_i fn fs cs hop
    split at h
    · rename_i l1 l2 h1 h2
      cases h
      refine ⟨.func fn (fs.map a.eval) (cs.map a.eval), by simp only [execOp, hop, Instr.makeFunc]; exact lift _ _ rfl, ?_⟩
      simp only [VR]
      exact ⟨_, _, rfl, by simpa using evOs_sound hs h1, by simpa using evOs_sound hs h2⟩
    · simp at h
  · rename_i t x lo hi mx hop
    split at h
    · rename_i k u l hh m hk hu h1 h2 h3
      obtain ⟨z, hz, hr⟩ := sl_sound hR hk (evO_sound hs hu) (evOpt_sound hs h1) (evOpt_sound hs h2) (evOpt_sound hs h3) h
      exact ⟨z, by simp only [execOp, hop]; exact lift _ _ hz, hr⟩
    · simp at h
  · rename_i t x i hop
    split at h
    · rename_i n u hn hu
      obtain ⟨z, hz, hr⟩ := fld_sound (P := C.P) (w := w) hn (evO_sound hs hu) h
      exact ⟨z, by simp only [execOp, hop]; exact lift _ _ hz, hr⟩
    · simp at h
  · rename_i t x i hop
    split at h
    · rename_i k u hk hu
      have hv := evO_sound hs hu
      cases u <;> simp only [fdP, reduceCtorEq] at h
      rename_i cs
      simp only [VR] at hv
      obtain ⟨c, e, hc⟩ := hv
      unfold fdK at hk
      split at hk
      · rename_i fs huu
        split at hk
        · rename_i f hf
          split at hk
          · rename_i b n hkk
            cases hk
            obtain ⟨y, hy, hr⟩ := partA_sound (w := w) hkk hc h
            refine ⟨y, ?_, hr⟩
            simp only [execOp, hop]
            refine lift _ _ ?_
            simp only [Instr.field, Sem.run_bind, run_underlying huu, Result.andThen_ok, hf, e, asAgg, Sem.run_pure]
            exact hy
          · simp at hk
        · simp at hk
      · simp at hk
    · simp at h
  · rename_i t x i hop
    split at h
    · rename_i k u j hk hu hj
      obtain ⟨z, hz, hr⟩ := ix_sound (P := C.P) (w := w) hk (evO_sound hs hu) (evO_sound hs hj) h
      exact ⟨z, by simp only [execOp, hop]; exact lift _ _ hz, hr⟩
    · simp at h
  · rename_i t x i hop
    split at h
    · rename_i k u j hk hu hj
      have hv := evO_sound hs hu
      have hi := evO_sound hs hj
      unfold inK at hk
      split at hk
      · rename_i huu
        cases hk
        cases u <;> cases j <;> simp only [inP, reduceCtorEq] at h
        rename_i l ik n
        split at h
        · rename_i h0
          split at h
          · rename_i b hb
            cases h
            simp only [VR] at hv hi
            have hb' : (⟨⟨l⟩⟩ : ByteArray)[n.toNat]? = some b := by
              rw [List.getElem?_eq_some_iff] at hb
              obtain ⟨hlt, hbb⟩ := hb
              rw [getElem?_pos (⟨⟨l⟩⟩ : ByteArray) n.toNat hlt, ← hbb]
              rfl
            refine ⟨.int .u8 b.toNat, ?_, by simp only [VR]⟩
            simp only [execOp, hop]
            refine lift _ _ ?_
            simp only [Instr.index, hv, hi, asIntOf, Sem.run_bind, Sem.run_pure, Result.andThen_ok, run_underlying huu, h0, if_true, hb']
          · simp at h
        · simp at h
      · rename_i len e huu
        split at hk
        · rename_i b n hkk
          cases hk
          cases u <;> cases j <;> simp only [inP, reduceCtorEq] at h
          rename_i cs ik m
          split at h
          · rename_i h0
            simp only [VR] at hv hi
            obtain ⟨c, e, hc⟩ := hv
            obtain ⟨y, hy, hr⟩ := partA_sound (w := w) hkk hc h
            refine ⟨y, ?_, hr⟩
            simp only [execOp, hop]
            refine lift _ _ ?_
            simp only [Instr.index, e, hi, asIntOf, Sem.run_bind, Sem.run_pure, Result.andThen_ok, run_underlying huu, h0, and_self, if_true, run_sizeOf' hkk]
            exact hy
          · simp at h
        · simp at hk
      · simp at hk
    · simp at h
  · rename_i x i hop
    split at h
    · rename_i u hu
      have hv := evO_sound hs hu
      cases u <;> simp only [extV, reduceCtorEq] at h
      simp only [VR] at hv
      obtain ⟨c, e, hc⟩ := hv
      obtain ⟨y, hy, hr⟩ := hc.get h
      refine ⟨y, ?_, hr⟩
      rw [Array.getElem?_toList] at hy
      simp only [execOp, hop, e]
      refine lift _ _ ?_
      simp [Instr.extract, hy]
    · simp at h
  · rename_i c hop
    split at h
    · rename_i b hcal
      split at h
      · rename_i vs hvs
        have hvr := evOs_sound hs hvs
        have hex : ∀ (m : Sem Value) (y : Value), (∀ ts ty cs xs, builtin b ts ty cs xs = builtin b ts ty cs xs) → True := fun _ _ _ => trivial
        unfold biR at h
        split at h
        · split at h
          · rename_i t ht
            split at h
            · rename_i k hk
              split at h
              · rename_i x
                simp only [VRs] at hvr
                obtain ⟨y, ys, e, hy, hys⟩ := hvr
                subst hys
                have hargs : c.args.map a.eval = #[y] := by
                  apply Array.ext'; simpa using e
                obtain ⟨z, hz, hr⟩ := ln_sound (P := C.P) (w := w) (ty := o.type) ht hk hy h
                refine ⟨z, ?_, hr⟩
                simp only [execOp, hop, resolve, hcal, Sem.run_bind, Sem.run_pure, Result.andThen_ok, invoke, builtin, hargs, hz]
              · simp at h
            · simp at h
          · simp at h
        · split at h
          · rename_i t ht
            split at h
            · rename_i k hk
              split at h
              · rename_i x
                simp only [VRs] at hvr
                obtain ⟨y, ys, e, hy, hys⟩ := hvr
                subst hys
                have hargs : c.args.map a.eval = #[y] := by
                  apply Array.ext'; simpa using e
                obtain ⟨z, hz, hr⟩ := ca_sound (P := C.P) (w := w) (ty := o.type) ht hk hy h
                refine ⟨z, ?_, hr⟩
                simp only [execOp, hop, resolve, hcal, Sem.run_bind, Sem.run_pure, Result.andThen_ok, invoke, builtin, hargs, hz]
              · simp at h
            · simp at h
          · simp at h
        · split at h
          · rename_i x ys
            simp only [VRs] at hvr
            obtain ⟨y, ys', e, hy, hys⟩ := hvr
            have hargs : (c.args.map a.eval).toList = y :: ys' := by simpa using e
            obtain ⟨z, hz, hr⟩ := foldV_sound (P := C.P) (w := w) (ρ := ρ) (fun x y r x' y' h1 h2 h3 => max2_sound h1 h2 h3) ys ys' x v y hy hys h
            refine ⟨z, ?_, hr⟩
            simp only [execOp, hop, resolve, hcal, Sem.run_bind, Sem.run_pure, Result.andThen_ok, invoke, builtin, Builtin.max_, hargs, hz]
          · simp at h
        · split at h
          · rename_i x ys
            simp only [VRs] at hvr
            obtain ⟨y, ys', e, hy, hys⟩ := hvr
            have hargs : (c.args.map a.eval).toList = y :: ys' := by simpa using e
            obtain ⟨z, hz, hr⟩ := foldV_sound (P := C.P) (w := w) (ρ := ρ) (fun x y r x' y' h1 h2 h3 => min2_sound h1 h2 h3) ys ys' x v y hy hys h
            refine ⟨z, ?_, hr⟩
            simp only [execOp, hop, resolve, hcal, Sem.run_bind, Sem.run_pure, Result.andThen_ok, invoke, builtin, Builtin.min_, hargs, hz]
          · simp at h
        · simp at h
      · simp at h
    · simp at h
  · simp at h

end Go.Am
