/-
  AM: the operations that read, maps too. (Lemmas alone; no program.)
-/
import Derived.Test.YtaolbokpeafejaaGreatDoorAmMap
import Derived.Test.YtaolbokpeafejaaGreatDoorAmFreeze
set_option linter.unusedVariables false
set_option linter.unusedSimpArgs false
namespace Go.Am
open Go Go.RowKit
variable {C : Ctx} {ρ : Pl} {σ : H} {w : World}

/-- len of a map? -/
def lnmK (P : Program) (ts : Array TypeId) : Bool :=
  match ts[0]? with
  | some t => match P.underlying t with
    | some (.map _ _) => true
    | _ => false
  | none => false

def opR (C : Ctx) (s : List V) (σ : H) (op : Op) : Option V :=
  match op with
  | .lookup t x i ok => match mpK C.P t, evO s x, evO s i with
    | some k, some u, some v => lkP σ k ok u v
    | _, _, _ => none
  | .call c => match c.callee with
    | .builtin .len => match lnmK C.P c.argTypes with
      | true => match evOs s c.args.toList with
        | some [x] => lnmP σ x
        | _ => none
      | false => opR0 C s σ (.call c)
    | _ => opR0 C s σ (.call c)
  | op => opR0 C s σ op

theorem opR_sound (hR : Rl C ρ σ w) {s : List V} {a : Act} (hs : VRs ρ s a.tmps.toList) {o : Oper} {v : V} (h : opR C s σ o.op = some v) :
    ∃ x, (execOp a.eval o).run C.P w = .ok (.value x) w ∧ VR ρ v x := by
  unfold opR at h
  split at h
  · rename_i t x i ok hop
    split at h
    · rename_i k u y hk hu hy
      obtain ⟨z, h1, h2⟩ := lk_sound hR hk (evO_sound hs hu) (evO_sound hs hy) h
      exact ⟨z, by simp [execOp, hop, h1], h2⟩
    · cases h
  · rename_i c hop
    split at h
    · rename_i hcal
      split at h
      · rename_i hl
        split at h
        · rename_i x hx
          unfold lnmK at hl
          split at hl
          · rename_i t ht
            split at hl
            · rename_i kt et hu
              have hv := evOs_sound hs hx
              simp only [VRs] at hv
              obtain ⟨y, ys, e, hy, e2⟩ := hv
              subst e2
              have hargs : c.args.map a.eval = #[y] := by apply Array.ext'; simpa using e
              obtain ⟨z, h1, h2⟩ := lnm_sound (ty := o.type) hR ht hu hy h
              refine ⟨z, ?_, h2⟩
              simp only [execOp, hop, resolve, hcal, Sem.run_bind, Sem.run_pure, Result.andThen_ok, invoke, builtin, hargs]
              simp [h1]
            · cases hl
          · cases hl
        · cases h
      · exact opR0_sound hR hs (by rw [hop]; exact h)
    · exact opR0_sound hR hs (by rw [hop]; exact h)
  · exact opR0_sound hR hs h

end Go.Am
