/-
  AM: how a call begins (what the arguments hold, the listed variables) and what the row asks at its end. (Lemmas alone; no program.)
-/
import Derived.Test.YtaolbokpeafejaaGreatDoorAmWord
import Derived.ProofKit
import Derived.LaidMore
import Derived.LaidHandle
import Derived.OpenShut
set_option linter.unusedVariables false
set_option linter.unusedSimpArgs false
namespace Go.Am
open Go Go.RowKit Go.ChangeShapes Go.WideShapes

/-! ### The row's end -/
section
variable {H : Type} {enc : TypeId × Value → H} {P : Program}

theorem stays_all (hl : laidOutB P = true) {W W' : World} {sp : Nat → Bool} (hb : Below W.heap.size W W') :
    ∀ {ts : List TypeId} {vs : List Value} {ds : List (DataW H)} {ps : List MemPlace}, (ts.all fun t => P.readableRec t && decide (t < P.types.size)) = true →
      DataW.TrodAll enc P W 0 (fun _ => true) true ts vs ds ps → (∀ x ∈ ps, x.block < W.heap.size) → (∀ x ∈ ps, sp x.block = true) → DataW.TrodAll enc P W' 0 sp true ts vs ds ps
  | [], vs, ds, ps, _, h, _, _ => by
    obtain ⟨rfl, rfl, rfl⟩ := trodAll_nil h
    exact trodAll_mk0
  | t :: ts, vs, ds, ps, hr, h, hlt, hsp => by
    obtain ⟨v, vs', d, ds', p, q, rfl, rfl, rfl, h1, h2⟩ := trodAll_cons h
    simp only [List.all_cons, Bool.and_eq_true, decide_eq_true_eq] at hr
    refine trodAll_cons_mk (WideElems.Trod_stays hl hr.1.1 hr.1.2 h1 (fun x hx => hb.same (hlt x (List.mem_append_left _ hx))) (fun x hx => hsp x (List.mem_append_left _ hx))) ?_
    exact stays_all hl hb hr.2 h2 (fun x hx => hlt x (List.mem_append_right _ hx)) (fun x hx => hsp x (List.mem_append_right _ hx))

/-- What a law's row asks at the end: true came back; below the heap's old size nothing has turned. -/
theorem post_true {f : Func} {s : ChangeSpec} {apart fresh handsOn again : Bool} {W W' : World} {args : Array Value} {ds gs : List (DataW H)} {before : List MemPlace} {tb : TypeId}
    (hW : DataW.Whole enc P f.params.toList s.vars apart W args.toList ds gs before) (hv : s.vars = []) (hs : s.fn H (ds ++ gs) = { results := [.lit (.bool true)], args := ds })
    (hr : f.resultTypes = #[tb]) (htb : P.underlying tb = some .bool) (hl : laidOutB P = true) (hrd : (f.params.toList.all fun t => P.readableRec t && decide (t < P.types.size)) = true)
    (hb : Below W.heap.size W W') : s.post enc P f apart fresh handsOn again W args (.bool true) W' := by
  have hlt : ∀ p ∈ before, p.block < W.heap.size := fun p hp => hW.lt p hp
  have hold : ∀ p ∈ before, (fun b => decide (b < W.heap.size)) p.block = true := fun p hp => by simpa using hlt p hp
  have hW' := hW
  obtain ⟨p, q, hA, hV, rfl, hz, hn⟩ := hW'
  rw [hv] at hV
  obtain ⟨rfl, rfl⟩ := trodVars_none hV
  have hres : ∀ (b : Nat) (sp : Nat → Bool) (hd : Bool), DataW.TrodAll enc P W' b sp hd f.resultTypes.toList ((Value.bool true).resultList f.resultTypes.size) (s.fn H (ds ++ [])).results [] := by
    intro b sp hd
    rw [hs, hr]
    exact trodAll_mk1 (shut_bool htb _)
  have hargs : ∀ sp : Nat → Bool, (∀ x ∈ p ++ [], sp x.block = true) → DataW.TrodAll enc P W' 0 sp true f.params.toList args.toList (s.fn H (ds ++ [])).args (p ++ []) := by
    intro sp hsp
    rw [hs, List.append_nil]
    exact stays_all hl hb hrd hA (fun x hx => hlt x (by simpa using hx)) (fun x hx => hsp x (by simpa using hx))
  have hvars : ∀ sp : Nat → Bool, DataW.TrodVars enc P W' sp s.vars (s.fn H (ds ++ [])).vars [] := by
    intro sp; rw [hv, hs]; rfl
  have hok : ∀ (j : Nat) (t : TypeId) (r : Value), f.resultTypes[j]? = some t → ((Value.bool true).resultList f.resultTypes.size)[j]? = some r → Value.okWide P W' .any 0 t r := ok_one hr rfl (okWide_bool_mk htb _)
  refine ⟨ds, [], p ++ [], [], p ++ [], [], hW, hres _ _ _, hargs _ hold, hvars _, World.keptBut_mono (fun p hp => ⟨hp, Or.inr (.inl hp)⟩) (hb.frame _), fun _ => ?_⟩
  refine ⟨hok, _, _, ([] ++ (p ++ [])) ++ [], ⟨[] ++ (p ++ []), [], trodAll_append (hargs _ (fun _ _ => rfl)) (hres _ _ _), hvars _, rfl, ?_, ?_⟩, ?_⟩
  · intro b off hp
    have hm : MemPlace.cell b off ∈ p ++ [] := by simpa using hp
    rw [hb.frozen (p := ⟨b, off, none⟩) (hlt _ hm)]
    exact hz b off hm
  · intro ha
    have := hn ha
    simpa using this
  · intro p hp _
    simpa using hp
end

/-! ### The start -/

/-- A row that was there before the call. -/
structure Old where
  blk : Nat
  off : Nat
  cells : List V

def startH (rs : List Old) : H := H.empty.pushes (rs.map fun r => .row { cells := r.cells, elem := 0, low := r.cells.length, own := false })
def startP (rs : List Old) : Pl := ⟨fun i v => match rs[i]? with
  | some r => if v = r.cells.length then some ⟨r.blk, r.off, r.cells.length⟩ else none
  | none => none, []⟩

theorem startP_at (rs : List Old) (i v : Nat) : startP rs i v = match rs[i]? with
  | some r => if v = r.cells.length then some ⟨r.blk, r.off, r.cells.length⟩ else none
  | none => none := rfl

theorem startP_some {rs : List Old} {i v : Nat} {p : Place} (h : startP rs i v = some p) : ∃ r, rs[i]? = some r ∧ v = r.cells.length ∧ p = ⟨r.blk, r.off, r.cells.length⟩ := by
  rw [startP_at] at h
  split at h
  · rename_i r hr
    split at h
    · rename_i hv; cases h; exact ⟨r, hr, hv, rfl⟩
    · cases h
  · cases h

theorem startH_get {rs : List Old} {i : Nat} {o : O} (h : (startH rs).get i = some o) : ∃ r, rs[i]? = some r ∧ o = .row { cells := r.cells, elem := 0, low := r.cells.length, own := false } := by
  unfold startH at h
  rw [H.pushes_get] at h
  simp only [H.empty, Nat.not_lt_zero, if_false, Nat.sub_zero, List.getElem?_map, Option.map_eq_some_iff] at h
  obtain ⟨r, h1, h2⟩ := h
  exact ⟨r, h1, h2.symm⟩

theorem start_rl {P : Program} {G : Nat → List V} {X : FuncId → Option XK} {W : World} (rs : List Old) (hX : ∀ f k, X f = some k → XSem P f k)
    (hrs : ∀ (i : Nat) r, rs[i]? = some r → r.blk < W.heap.size ∧ ∀ (j : Nat) (c : V), r.cells[j]? = some c → ∃ x, W.cell? ⟨r.blk, r.off + j, none⟩ = some x ∧ VR (startP rs) c x)
    (hG : ∀ (g j : Nat) (v : V), (G g)[j]? = some v → g < W.heap.size ∧ ∃ x, W.cell? ⟨g, j, none⟩ = some x ∧ VR (startP rs) v x) : Rl ⟨W.heap.size, W, P, G, X⟩ (startP rs) (startH rs) W := by
  have hsz : (startH rs).size = rs.length := by simp [startH, H.pushes_size, H.empty]
  refine { below := Below.refl _ _, base := Nat.le_refl _, dom := ?_, vers := ?_, low := ?_, row := ?_, disj := ?_, fr := ?_, same := ?_, obj := ?_, dfr := ?_, glob := hG, ext := hX }
  · intro i v p h
    obtain ⟨r, h1, rfl, rfl⟩ := startP_some h
    exact ⟨by rw [hsz]; exact (List.getElem?_eq_some_iff.1 h1).1, (hrs i r h1).1, Nat.le_refl _⟩
  · intro i v p r h hg
    obtain ⟨r1, h1, rfl, rfl⟩ := startP_some h
    obtain ⟨r2, h2, e⟩ := startH_get hg
    rw [h1] at h2; cases h2
    cases e
    exact Nat.le_refl _
  · intro i r hg
    obtain ⟨r2, h2, e⟩ := startH_get hg
    cases e
    exact Nat.le_refl _
  · intro i r v hg hlo hhi
    obtain ⟨r2, h2, e⟩ := startH_get hg
    cases e
    have hv : v = r2.cells.length := Nat.le_antisymm hhi hlo
    subst hv
    refine ⟨⟨r2.blk, r2.off, r2.cells.length⟩, by simp [startP_at, h2], ?_, fun h => by simp at h, fun _ => (hrs i r2 h2).1⟩
    intro j c hj hc
    exact (hrs i r2 h2).2 j c hc
  · intro i j v u p q o o' _ _ _ hg _ ho _
    obtain ⟨r2, h2, rfl⟩ := startH_get hg
    simp [O.own] at ho
  · intro i v p o _ hg ho
    obtain ⟨r2, h2, rfl⟩ := startH_get hg
    simp [O.own] at ho
  · intro i v u p q h h' _
    obtain ⟨r, h1, rfl, rfl⟩ := startP_some h
    obtain ⟨r', h1', rfl, rfl⟩ := startP_some h'
    rw [h1] at h1'; cases h1'
    rfl
  · intro i o hg ho
    obtain ⟨r2, h2, e⟩ := startH_get hg
    subst e; simp [O.solid, O.isRow] at ho
  · intro b hb
    simp [startP] at hb

/-- A listed variable that is a row of whole numbers: its cells. -/
theorem glob_ints {T : Type} {enc : TypeId × Value → T} {P : Program} {W : World} {base fuel : Nat} {sp : Nat → Bool} {held : Bool} {n : String} {g m : Nat} {t e : TypeId} {k : IntKind} {cs : Array Value} {zs : List Int} {p : List MemPlace}
    (hg : P.globalNamed n = some g) (hv : W.var? P n = some cs) (ht : P.underlying t = some (.array m e)) (he : P.underlying e = some (.int k)) (hc : P.cellsOf e = 1)
    (hd : DataW.trod enc P W base sp held fuel t cs.toList = some (.agg (zs.map fun z => .lit (.int k z)), p)) (j : Nat) (z : Int) (hz : zs[j]? = some z) : W.cell? ⟨g, j, none⟩ = some (.int k z) := by
  obtain ⟨xs, m1, rfl, hx, _, hn, hel⟩ := DataW.trod_array ht hd
  simp only [Prod.mk.injEq, DataW.agg.injEq] at hx
  have hxl : zs.length = xs.length := by have := congrArg List.length hx.1; simpa using this
  have hj : j < zs.length := (List.getElem?_eq_some_iff.1 hz).1
  have h1 := hel j (by omega)
  rw [hc, Nat.mul_one] at h1
  have hy : xs[j]? = some xs[j] := List.getElem?_eq_getElem (by omega)
  rw [hy] at h1
  obtain ⟨i, e1, e2, _⟩ := DataW.trod_int he h1
  have h2 : (xs.map (·.1))[j]? = some (.lit (.int k z)) := by rw [← hx.1]; simp [hz]
  rw [List.getElem?_map, hy] at h2
  simp only [Option.map_some, Option.some.injEq, e2, DataW.lit.injEq, Lit.int.injEq, true_and] at h2
  subst h2
  rw [World.var?_cell hg hv j]
  have h3 : cs.toList[j]? = some (.int k i) := by
    cases hq : cs.toList.drop j with
    | nil => rw [hq] at e1; simp at e1
    | cons c r =>
      rw [hq] at e1
      simp at e1
      subst e1
      have := congrArg List.head? hq
      simpa using this
  simpa using h3

/-! ### A listed variable that holds functions -/
theorem trod_func {T : Type} {enc : TypeId × Value → T} {P : Program} {w : World} {base fuel : Nat} {sp : Nat → Bool} {t : TypeId} {cs : List Value} {x : DataW T × List MemPlace} {ps rs : Array TypeId} {va : Bool}
    (ht : P.underlying t = some (.func ps rs va)) (h : DataW.trod enc P w base sp true fuel t cs = some x) : (cs = [.nilFunc] ∧ x.1 = .nil) ∨ ∃ fn a b, cs = [.func fn a b] ∧ x.1 = .held (enc (t, .func fn a b)) := by
  cases fuel with
  | zero => simp [DataW.trod] at h
  | succ m =>
    unfold DataW.trod at h
    rw [ht] at h
    split at h <;> first | (cases h; done) | skip
    all_goals simp_all
    · rw [← h]
    · exact ⟨_, _, _, ⟨rfl, rfl, rfl⟩, by rw [← h]⟩

def nmB (P : Program) (f : FuncId) : Bool :=
  match P.funcs[f]? with
  | some fn => P.funcNamed fn.name == some f
  | none => false
def nmOf (P : Program) (f : FuncId) : List UInt8 :=
  match P.funcs[f]? with
  | some fn => fn.name.toUTF8.data.toList
  | none => []

def fnD (P : Program) : Option FuncId → DataW (List UInt8)
  | some f => .held (nmOf P f)
  | none => .nil

def fnOkB (P : Program) : Option FuncId → Bool
  | some f => nmB P f && !(nmOf P f).isEmpty
  | none => true

def fnV : Option FuncId → V
  | some f => .func (.func f) [] []
  | none => .nilf

theorem glob_funcs {P : Program} {W : World} {fuel : Nat} {n : String} {g m : Nat} {t e : TypeId} {ps rs : Array TypeId} {va : Bool} {cs : Array Value} {fs : List (Option FuncId)} {p : List MemPlace}
    (hg : P.globalNamed n = some g) (hv : W.var? P n = some cs) (ht : P.underlying t = some (.array m e)) (he : P.underlying e = some (.func ps rs va)) (hc : P.cellsOf e = 1)
    (hok : fs.all (fnOkB P) = true)
    (hd : DataW.trod (funcToken P) P W 0 (fun _ => true) true fuel t cs.toList = some (.agg (fs.map (fnD P)), p)) (j : Nat) (f : Option FuncId) (hf : fs[j]? = some f) :
    ∃ x, W.cell? ⟨g, j, none⟩ = some x ∧ ∀ ρ, VR ρ (fnV f) x := by
  obtain ⟨xs, m1, rfl, hx, _, hn, hel⟩ := DataW.trod_array ht hd
  simp only [Prod.mk.injEq, DataW.agg.injEq] at hx
  have hxl : fs.length = xs.length := by have := congrArg List.length hx.1; simpa using this
  have hj : j < fs.length := (List.getElem?_eq_some_iff.1 hf).1
  have h1 := hel j (by omega)
  rw [hc, Nat.mul_one] at h1
  have hy : xs[j]? = some xs[j] := List.getElem?_eq_getElem (by omega)
  rw [hy] at h1
  have h2 : (xs.map (·.1))[j]? = some (fnD P f) := by rw [← hx.1]; simp [hf]
  rw [List.getElem?_map, hy] at h2
  simp only [Option.map_some, Option.some.injEq] at h2
  have one : ∀ c, (cs.toList.drop j).take 1 = [c] → W.cell? ⟨g, j, none⟩ = some c := by
    intro c hcc
    rw [World.var?_cell hg hv j]
    have h3 : cs.toList[j]? = some c := by
      cases hq : cs.toList.drop j with
      | nil => rw [hq] at hcc; simp at hcc
      | cons d r =>
        rw [hq] at hcc
        simp at hcc
        subst hcc
        have := congrArg List.head? hq
        simpa using this
    simpa using h3
  rcases trod_func he h1 with ⟨e1, e2⟩ | ⟨fn, a, b, e1, e2⟩
  · rw [h2] at e2
    cases f with
    | none => exact ⟨_, one _ e1, fun _ => by simp only [fnV, VR]⟩
    | some f => simp [fnD] at e2
  · rw [h2] at e2
    cases f with
    | none => simp [fnD] at e2
    | some f =>
      simp only [fnD, DataW.held.injEq] at e2
      have hall := List.all_eq_true.1 hok (some f) (List.mem_of_getElem? hf)
      simp only [fnOkB, Bool.and_eq_true, Bool.not_eq_true'] at hall
      obtain ⟨hb, hne⟩ := hall
      unfold nmB at hb
      cases hfn : P.funcs[f]? with
      | none => rw [hfn] at hb; cases hb
      | some fn0 =>
        rw [hfn] at hb
        simp only [beq_iff_eq] at hb
        have hnm : nmOf P f = fn0.name.toUTF8.data.toList := by unfold nmOf; rw [hfn]
        rw [hnm] at e2 hne
        cases hl : fn0.name.toUTF8.data.toList with
        | nil => rw [hl] at hne; cases hne
        | cons b0 r0 =>
          rw [hl] at e2
          obtain ⟨f1, fn1, e3, e4, e5, e6⟩ := funcToken_tells e2.symm
          cases e3
          have hname : fn1.name = fn0.name := by
            rw [← hl] at e6
            have h7 : fn1.name.toUTF8 = fn0.name.toUTF8 := by
              have : fn1.name.toUTF8.data = fn0.name.toUTF8.data := Array.toList_inj.1 e6
              exact ByteArray.ext this
            exact String.toByteArray_inj.1 h7
          rw [hname, hb] at e5
          cases e5
          exact ⟨_, one _ e1, fun _ => by simp only [fnV, VR]; exact ⟨#[], #[], rfl, by simp [VRs], by simp [VRs]⟩⟩

/-! ### A slice of bytes among the arguments -/

/-- What an argument is that is a slice of bytes: the row, the value. -/
structure ArgB (W : World) (x : Value) (r : Old) (v : Nat → V) (l : List UInt8) : Prop where
  blk : r.blk < W.heap.size
  cell : ∀ (j : Nat) (c : V), r.cells[j]? = some c → ∃ y, W.cell? ⟨r.blk, r.off + j, none⟩ = some y ∧ ∀ ρ, VR ρ c y
  val : ∀ (i : Nat) (ρ : Pl), ρ i r.cells.length = some ⟨r.blk, r.off, r.cells.length⟩ → VR ρ (v i) x
  bytes : ∀ (i : Nat) (σ : H), σ.get i = some (.row { cells := r.cells, elem := 0, low := r.cells.length, own := false }) → Bytes σ (v i) l
  len : l.length ≤ 140737488351232

theorem open_bytes {T : Type} {enc : TypeId × Value → T} {P : Program} {W : World} {b0 : Nat} {t e : TypeId} {x : Value} {d : DataW T} {ps : List MemPlace} (ht : P.underlying t = some (.slice e)) (he : P.underlying e = some (.int .u8))
    (hc : P.cellsOf e = 1) (hby : P.bytesOf e = 1) (hval : Value.okWide P W .any b0 t x) (hd : DataW.Trod enc P W 0 (fun _ => true) true t x d ps) (hw : (DataW.weights P t d).all (· ≤ reachBytes) = true) (hW0 : 0 < W.heap.size) :
    ∃ r v l, ArgB W x r v l := by
  obtain ⟨fuel, hf⟩ := hd
  rcases open_ints ht he hc hf with ⟨hcs, hx⟩ | ⟨a, len, cap, zs, hcs, _, hl, hm, hz, hx, hcell, hwz⟩
  · have hx0 : x = .slice none 0 0 := by
      cases x <;> simp_all [Value.cells, Value.okWide, Cell.okWide, Cell.ok]
    subst hx0
    exact ⟨⟨0, 0, []⟩, fun _ => .nils, [], ⟨hW0, fun j c h => by simp at h, fun _ _ _ => rfl, fun _ _ _ => .inl ⟨rfl, rfl⟩, by simp⟩⟩
  · have hx0 : x = .slice (some a) len cap := by
      cases x <;> simp_all [Value.cells, Value.okWide, Cell.okWide, Cell.ok]
    subst hx0
    simp only [if_true] at hz
    have hd0 : d = .slice (lits .u8 (zs.take len)) (lits .u8 (zs.drop len)) := congrArg Prod.fst hx
    subst hd0
    simp only [DataW.weights, ht, hby, List.all_cons, Bool.and_eq_true, decide_eq_true_eq] at hw
    have hcap : cap ≤ reachBytes := by
      have := hw.1
      simp only [lits, List.length_map, List.length_take, List.length_drop] at this
      omega
    rcases Nat.eq_zero_or_pos cap with h0 | hpos
    · subst h0
      have hl0 : len = 0 := by omega
      subst hl0
      refine ⟨⟨0, 0, []⟩, fun i => .slice ⟨i, 0, 0⟩ 1 0 0 true, [], ⟨hW0, fun j c h => by simp at h, ?_, ?_, by simp⟩⟩
      · intro i ρ hρ
        simp only [VR]
        exact ⟨_, a, 0, hρ, rfl, Nat.le_refl _, Nat.le_refl _, by simp, .inl rfl, fun _ => rfl⟩
      · intro i σ hg
        refine .inr ⟨⟨i, 0, 0⟩, 0, true, rfl, Nat.le_refl _, ?_⟩
        unfold H.cells
        simp only [hg]
        rw [if_pos ⟨by simp, by simp⟩]
        rfl
    have hb : ∀ n ∈ zs, 0 ≤ n ∧ n ≤ 255 := fun n hn => bounds_u8 (hwz n hn)
    let l : List UInt8 := zs.map fun n => UInt8.ofNat n.toNat
    have hll : l.length = cap := by simp [l, hz]
    have hbv : ∀ n : Int, 0 ≤ n → n ≤ 255 → bv (UInt8.ofNat n.toNat) = .int .u8 n := by
      intro n h0 h1
      simp only [bv, UInt8.toNat_ofNat']
      congr 1
      omega
    have hcells : ∀ (j : Nat) (c : V), (l.map bv)[j]? = some c → c = .int .u8 (zs.getD j 0) ∧ j < zs.length := by
      intro j c h
      simp only [l, List.map_map, List.getElem?_map, Option.map_eq_some_iff, Function.comp] at h
      obtain ⟨n, h1, h2⟩ := h
      have hj := (List.getElem?_eq_some_iff.1 h1).1
      have hn := hb n (List.mem_of_getElem? h1)
      rw [hbv n hn.1 hn.2] at h2
      refine ⟨?_, hj⟩
      rw [← h2, List.getD, h1]; rfl
    have hspot : 0 < cap → a.spot = none := by
      intro h0
      have := hcell 0 (by omega)
      simp only [Addr.add, if_true] at this
      unfold World.cell? at this
      split at this
      · cases hs : a.spot with
        | none => rfl
        | some _ => simp [hs] at this
      · cases this
    have hblk : 0 < cap → a.block < W.heap.size := by
      intro h0
      have := hcell 0 (by omega)
      simp only [Addr.add, if_true] at this
      unfold World.cell? at this
      split at this
      · rename_i h; exact (Array.getElem?_eq_some_iff.1 h).1
      · cases this
    have hadd : ∀ j, j < cap → a.add j = ⟨a.block, a.off + j, none⟩ := by
      intro j hj
      unfold Addr.add
      split
      · rename_i h; subst h
        have := hspot hj
        cases a; simp_all
      · rfl
    refine ⟨⟨a.block, a.off, l.map bv⟩, fun i => .slice ⟨i, 0, cap⟩ 1 len cap true, l.take len, ⟨?_, ?_, ?_, ?_, ?_⟩⟩
    · exact hblk hpos
    · intro j c h
      obtain ⟨rfl, hj⟩ := hcells j c h
      have := hcell j hj
      rw [hadd j (by omega)] at this
      exact ⟨_, this, fun ρ => rfl⟩
    · intro i ρ hρ
      simp only [List.length_map, hll] at hρ
      simp only [VR]
      refine ⟨_, a, cap, hρ, rfl, hl, Nat.le_refl _, by simp, ?_, fun _ => rfl⟩
      rcases Nat.eq_zero_or_pos cap with h0 | h0
      · exact .inl h0
      · refine .inr ⟨?_, by simp⟩
        have := hspot h0
        cases a; simp_all [Place.at]
    · intro i σ hg
      have e : (l.take len).length = len := by simp; omega
      refine .inr ⟨⟨i, 0, cap⟩, cap, true, by rw [e], by rw [e]; exact hl, ?_⟩
      unfold H.cells
      simp only [hg]
      rw [if_pos ⟨by simp [hll], by rw [e]; omega⟩, e]
      simp [List.map_take]
    · have h1 : (l.take len).length ≤ cap := by simp; omega
      have : reachBytes = 140737488351232 := rfl
      omega
end Go.Am
