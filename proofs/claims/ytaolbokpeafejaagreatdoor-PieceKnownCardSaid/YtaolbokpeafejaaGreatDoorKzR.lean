/-
  The seat's rows: what the listed variable gives; the start. (Lemmas alone.)
-/
import Derived.Test.YtaolbokpeafejaaGreatDoorAmComp
import Derived.Test.YtaolbokpeafejaaGreatDoorAmStart
import Derived.Test.YtaolbokpeafejaaGreatDoorRows
import Derived.SizedLaws
import Derived.LaidMore
set_option linter.unusedVariables false
namespace Go.Am.T
open Go Go.Am Go.Proofs Go.RowKit Go.ChangeShapes Go.WideShapes Go.ChangeAt
open Go.Proofs.YtaolbokpeafejaaGreatDoor

theorem own : ownKnob Tryz.prog.godebug = none := by kernel_rfl
theorem laidOut : laidOutB Tryz.prog = true := by kernel_rfl
theorem gWithin : Tryz.prog.globalNamed "almanac/value.within" = some 1 := by kernel_rfl
theorem tWithin : (Tryz.prog.globals[1]?).map (·.type) = some 282 := by kernel_rfl
abbrev laids : List (String × DataW Unit) := [("almanac/value.within", Rows.laid_almanac_value_within)]

def fsW : List (Option FuncId) := [some 400, some 401, some 403, none, some 404, some 405, some 406]

def G0 : Nat → List V := fun g => match g with
  | 1 => fsW.map fnV
  | _ => []
def X0 : FuncId → Option XK := fun f => match f with
  | 183 => some .frombits
  | 207 => some .clone
  | 258 => some .bits
  | 311 => some .cmps
  | 372 => some .trunc
  | 376 => some .floor
  | _ => none

theorem within_out : DataW.funcsOut (.agg [.iface "func" (.lit (.string [97, 108, 109, 97, 110, 97, 99, 47, 118, 97, 108, 117, 101, 46, 119, 105, 116, 104, 105, 110, 36, 49])), .iface "func" (.lit (.string [97, 108, 109, 97, 110, 97, 99, 47, 118, 97, 108, 117, 101, 46, 119, 105, 116, 104, 105, 110, 36, 50])), .iface "func" (.lit (.string [97, 108, 109, 97, 110, 97, 99, 47, 118, 97, 108, 117, 101, 46, 119, 105, 116, 104, 105, 110, 36, 51])), .nil, .iface "func" (.lit (.string [97, 108, 109, 97, 110, 97, 99, 47, 118, 97, 108, 117, 101, 46, 119, 105, 116, 104, 105, 110, 36, 52])), .iface "func" (.lit (.string [97, 108, 109, 97, 110, 97, 99, 47, 118, 97, 108, 117, 101, 46, 119, 105, 116, 104, 105, 110, 36, 53])), .iface "func" (.lit (.string [97, 108, 109, 97, 110, 97, 99, 47, 118, 97, 108, 117, 101, 46, 119, 105, 116, 104, 105, 110, 36, 54]))]) = .agg (fsW.map (fnD Tryz.prog)) := by kernel_rfl

set_option maxRecDepth 100000 in
/-- The door's own heap meets the condition. -/
theorem door_met (os : Os) (args : Array Value) : laidMetH Tryz.prog laids ((World.doorLaid Tryz.prog 400 os).forCall (fun _ _ => 0) ⟨#[], args, []⟩).memory :=
  laidMetH_of_parts3 (fuel := 8) (laidMet_of_run' 8 (by kernel_rfl) (by kernel_rfl)) (by kernel_rfl) (by kernel_rfl)

theorem u282 : Tryz.prog.underlying 282 = some (.array 7 201) := by kernel_rfl
theorem u4 : Tryz.prog.underlying 4 = some .bool := by kernel_rfl
theorem u201b : (match Tryz.prog.underlying 201 with | some (.func ..) => true | _ => false) = true := by kernel_rfl
theorem u201 : ∃ ps rs va, Tryz.prog.underlying 201 = some (.func ps rs va) := by
  have h := u201b
  split at h
  · rename_i ps rs va e; exact ⟨_, _, _, e⟩
  · cases h
theorem cells201 : Tryz.prog.cellsOf 201 = 1 := by kernel_rfl
theorem fsOk : fsW.all (fnOkB Tryz.prog) = true := by kernel_rfl

theorem glob_ok {W : World} (ρ : Pl) (h : laidMetH Tryz.prog laids W) : ∀ (g j : Nat) (v : V), (G0 g)[j]? = some v → g < W.heap.size ∧ ∃ x, W.cell? ⟨g, j, none⟩ = some x ∧ VR ρ v x := by
  obtain ⟨g0, t0, cs0, f0, p0, hg0, ht0, hv0, hd0⟩ := laidMetH.funcs h (n := "almanac/value.within") (List.mem_singleton.2 rfl)
  obtain rfl := Option.some.inj (gWithin.symm.trans hg0)
  obtain rfl := Option.some.inj (tWithin.symm.trans ht0)
  obtain ⟨ps, rs, va, hu⟩ := u201
  rw [within_out] at hd0
  have hz := glob_funcs (P := Tryz.prog) (W := W) (fs := fsW) gWithin hv0 u282 hu cells201 fsOk hd0
  intro g j v hv
  by_cases hg : g = 1
  · subst hg
    have e : G0 1 = fsW.map fnV := rfl
    rw [e, List.getElem?_map, Option.map_eq_some_iff] at hv
    obtain ⟨z, h1, rfl⟩ := hv
    obtain ⟨x, hc, hx⟩ := hz j z h1
    refine ⟨?_, x, hc, hx ρ⟩
    unfold World.cell? at hc
    split at hc
    · rename_i hh; exact (Array.getElem?_eq_some_iff.1 hh).1
    · cases hc
  · have : G0 g = [] := by unfold G0; split <;> simp_all
    rw [this] at hv
    simp at hv

set_option maxRecDepth 100000 in
theorem x183 : XSem Tryz.prog 183 .frombits := by
  have h : Tryz.prog.funcs[183]? = some (Tryz.prog.funcs[183]?.getD default) := by kernel_rfl
  exact ⟨_, h, by kernel_rfl, by kernel_rfl, by kernel_rfl, by kernel_rfl⟩
set_option maxRecDepth 100000 in
theorem x207 : XSem Tryz.prog 207 .clone := by
  have h : Tryz.prog.funcs[207]? = some (Tryz.prog.funcs[207]?.getD default) := by kernel_rfl
  exact ⟨_, h, by kernel_rfl, by kernel_rfl, by kernel_rfl, by kernel_rfl⟩
set_option maxRecDepth 100000 in
theorem x258 : XSem Tryz.prog 258 .bits := by
  have h : Tryz.prog.funcs[258]? = some (Tryz.prog.funcs[258]?.getD default) := by kernel_rfl
  exact ⟨_, h, by kernel_rfl, by kernel_rfl, by kernel_rfl, by kernel_rfl⟩
set_option maxRecDepth 100000 in
theorem x311 : XSem Tryz.prog 311 .cmps := by
  have h : Tryz.prog.funcs[311]? = some (Tryz.prog.funcs[311]?.getD default) := by kernel_rfl
  exact ⟨_, h, by kernel_rfl, by kernel_rfl, by kernel_rfl, by kernel_rfl⟩
set_option maxRecDepth 100000 in
theorem x372 : XSem Tryz.prog 372 .trunc := by
  have h : Tryz.prog.funcs[372]? = some (Tryz.prog.funcs[372]?.getD default) := by kernel_rfl
  exact ⟨_, h, by kernel_rfl, by kernel_rfl, by kernel_rfl, by kernel_rfl⟩
set_option maxRecDepth 100000 in
theorem x376 : XSem Tryz.prog 376 .floor := by
  have h : Tryz.prog.funcs[376]? = some (Tryz.prog.funcs[376]?.getD default) := by kernel_rfl
  exact ⟨_, h, by kernel_rfl, by kernel_rfl, by kernel_rfl, by kernel_rfl⟩
theorem x_ok : ∀ f k, X0 f = some k → XSem Tryz.prog f k := by
  intro f k h
  unfold X0 at h
  split at h <;> cases h
  · exact x183
  · exact x207
  · exact x258
  · exact x311
  · exact x372
  · exact x376

theorem flat0 : ∀ (g j : Nat) (v : V), (G0 g)[j]? = some v → v.bel 0 := by
  intro g j v hv
  by_cases hg : g = 1
  · subst hg
    have e : G0 1 = fsW.map fnV := rfl
    rw [e, List.getElem?_map, Option.map_eq_some_iff] at hv
    obtain ⟨z, h1, rfl⟩ := hv
    cases z <;> simp [fnV, V.bel, V.bels]
  · have : G0 g = [] := by unfold G0; split <;> simp_all
    rw [this] at hv
    simp at hv

structure Par where
  B : Nat
  W0 : World

noncomputable def Par.C (p : Par) : Ctx := ⟨p.B, p.W0, Tryz.prog, G0, X0⟩

end Go.Am.T
