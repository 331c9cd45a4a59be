/-
  AM: how the small operations are worked out. (Lemmas alone; no program.)
-/
import Derived.Test.YtaolbokpeafejaaGreatDoorAmBest
set_option linter.unusedVariables false
set_option linter.unusedSimpArgs false
namespace Go.Am
open Go Go.RowKit

theorem need_ite {α : Type} (c : Prop) [Decidable c] (v : α) (K : α → Prop) : need (if c then some v else none) K = (c ∧ K v) := by
  by_cases h : c <;> simp [h, need]
theorem need_ite' {α : Type} (c : Prop) [Decidable c] (v : α) (K : α → Prop) : need (if c then none else some v) K = (¬ c ∧ K v) := by
  by_cases h : c <;> simp [h, need]

theorem cnd_bool (b : Bool) (x y : Prop) : cnd (some (.bool b)) x y = (if b = true then x else y) := rfl
theorem cnd_dec (c : Prop) [Decidable c] (x y : Prop) : cnd (some (.bool (decide c))) x y = (if c then x else y) := by simp [cnd]
theorem cnd_not (c : Prop) [Decidable c] (x y : Prop) : cnd (some (.bool (!decide c))) x y = (if c then y else x) := by by_cases h : c <;> simp [cnd, h]
theorem gdF_bool (b w : Bool) (x y : Prop) : gdF (some (.bool b)) w x y = (if b = w then x else y) := rfl
theorem gdF_dec_t (c : Prop) [Decidable c] (x y : Prop) : gdF (some (.bool (decide c))) true x y = (if c then x else y) := by simp [gdF]
theorem gdF_dec_f (c : Prop) [Decidable c] (x y : Prop) : gdF (some (.bool (decide c))) false x y = (if c then y else x) := by by_cases h : c <;> simp [gdF, h]
theorem gdF_not_t (c : Prop) [Decidable c] (x y : Prop) : gdF (some (.bool (!decide c))) true x y = (if c then y else x) := by by_cases h : c <;> simp [gdF, h]
theorem gdF_not_f (c : Prop) [Decidable c] (x y : Prop) : gdF (some (.bool (!decide c))) false x y = (if c then x else y) := by by_cases h : c <;> simp [gdF, h]

section ints
variable (k k' : IntKind) (a b : Int)
theorem bn_add : bnP .prim .add (.int k a) (.int k b) = some (.int k (k.wrap (a + b))) := by simp [bnP, intOp]
theorem bn_sub : bnP .prim .sub (.int k a) (.int k b) = some (.int k (k.wrap (a - b))) := by simp [bnP, intOp]
theorem bn_mul : bnP .prim .mul (.int k a) (.int k b) = some (.int k (k.wrap (a * b))) := by simp [bnP, intOp]
theorem bn_quo : bnP .prim .quo (.int k a) (.int k b) = if b = 0 then none else some (.int k (k.wrap (a.tdiv b))) := by simp [bnP, intOp]
theorem bn_rem : bnP .prim .rem (.int k a) (.int k b) = if b = 0 then none else some (.int k (a.tmod b)) := by simp [bnP, intOp]
theorem bn_and : bnP .prim .and (.int k a) (.int k b) = some (.int k (bitI .and k a b)) := by simp [bnP, intOp]
theorem bn_or : bnP .prim .or (.int k a) (.int k b) = some (.int k (bitI .or k a b)) := by simp [bnP, intOp]
theorem bn_xor : bnP .prim .xor (.int k a) (.int k b) = some (.int k (bitI .xor k a b)) := by simp [bnP, intOp]
theorem bn_andNot : bnP .prim .andNot (.int k a) (.int k b) = some (.int k (bitI .andNot k a b)) := by simp [bnP, intOp]
theorem bn_eql : bnP .prim .eql (.int k a) (.int k b) = some (.bool (decide (a = b))) := by simp [bnP, intOp]
theorem bn_neq : bnP .prim .neq (.int k a) (.int k b) = some (.bool (!decide (a = b))) := by simp [bnP, intOp]
theorem bn_lss : bnP .prim .lss (.int k a) (.int k b) = some (.bool (decide (a < b))) := by simp [bnP, intOp]
theorem bn_leq : bnP .prim .leq (.int k a) (.int k b) = some (.bool (decide (a ≤ b))) := by simp [bnP, intOp]
theorem bn_gtr : bnP .prim .gtr (.int k a) (.int k b) = some (.bool (decide (b < a))) := by simp [bnP, intOp]
theorem bn_geq : bnP .prim .geq (.int k a) (.int k b) = some (.bool (decide (b ≤ a))) := by simp [bnP, intOp]
theorem bn_shl : bnP .prim .shl (.int k a) (.int k' b) = if b < 0 then none else some (.int k (shlI k a b)) := by simp [bnP, intOp]
theorem bn_shr : bnP .prim .shr (.int k a) (.int k' b) = if b < 0 then none else some (.int k (shrI k a b)) := by simp [bnP, intOp]
end ints

section strs
variable (a b : List UInt8)
theorem bn_seql : bnP .prim .eql (.str a) (.str b) = some (.bool (decide (a = b))) := rfl
theorem bn_sneq : bnP .prim .neq (.str a) (.str b) = some (.bool (!decide (a = b))) := rfl
theorem bn_slss : bnP .prim .lss (.str a) (.str b) = some (.bool (Op.bytesLess a b)) := rfl
end strs

theorem bn_eq (e : TE) (x y : V) : bnP (.eq e) .eql x y = match eqS e x y with | some b => some (.bool b) | none => none := rfl
theorem bn_ne (e : TE) (x y : V) : bnP (.eq e) .neq x y = match eqS e x y with | some b => some (.bool (!b)) | none => none := rfl
theorem eqS_bool (a b : Bool) : eqS .bool (.bool a) (.bool b) = some (decide (a = b)) := by simp [eqS]
theorem eqS_int (k : IntKind) (a b : Int) : eqS .int (.int k a) (.int k b) = some (decide (a = b)) := by simp [eqS]
theorem eqS_str (a b : List UInt8) : eqS .str (.str a) (.str b) = some (decide (a = b)) := by simp [eqS]

theorem un_not (b : Bool) : unP .not (.bool b) = some (.bool (!b)) := rfl
theorem un_neg (k : IntKind) (n : Int) : unP .neg (.int k n) = some (.int k (k.wrap (0 - n))) := rfl
theorem un_xor (k : IntKind) (n : Int) : unP .xor (.int k n) = some (.int k (bitI .xor k (if k.signed then -1 else k.max) n)) := rfl
theorem cv_int (σ : H) (k j : IntKind) (n : Int) : cvP σ (.int k) (.int j n) = some (.int k (k.wrap n)) := rfl
theorem cv_bstr (σ : H) (x : V) : cvP σ .bstr x = bytesV σ x := by cases x <;> rfl
theorem pick_bool (t : Bool) (a b : V) : pickV (.bool t) a b = some (if t then a else b) := rfl
theorem pick_true (a b : V) : pickV (.bool true) a b = some a := rfl
theorem pick_false (a b : V) : pickV (.bool false) a b = some b := rfl
theorem ext_tuple (i : Nat) (vs : List V) : extV i (.tuple vs) = vs[i]? := rfl
theorem addO_ptr (n : Nat) (a : PA) : addO n (.ptr a) = some (.ptr { a with off := a.off + n }) := rfl
theorem addO_gp (n g o : Nat) : addO n (.gp g o) = some (.gp g (o + n)) := rfl
theorem ix_arr (n k : Nat) (x : V) (ik : IntKind) (j : Int) : ixP (some n, k) x (.int ik j) = if 0 ≤ j ∧ j < n then addO (j.toNat * k) x else none := rfl
theorem ix_sl (a : PA) (sz len cb : Nat) (ex : Bool) (k : Nat) (ik : IntKind) (j : Int) :
    ixP (none, k) (.slice a sz len cb ex) (.int ik j) = if sz = k ∧ 0 ≤ j ∧ j < len then some (.ptr { a with off := a.off + j.toNat * k }) else none := rfl
theorem ld_one (G : Nat → List V) (σ : H) (n : Nat) (a : PA) : ldP G σ false n (.ptr a) = σ.cell a := rfl
theorem ld_many (G : Nat → List V) (σ : H) (n : Nat) (a : PA) : ldP G σ true n (.ptr a) = match σ.cells a n with | some vs => some (.agg vs) | none => none := rfl
theorem ld_glob (G : Nat → List V) (σ : H) (n g o : Nat) : ldP G σ false n (.gp g o) = (G g)[o]? := rfl
theorem ln_nils : lnP .sl .nils = some (.int .i64 0) := rfl
theorem ln_sl (a : PA) (sz len cb : Nat) (ex : Bool) : lnP .sl (.slice a sz len cb ex) = some (.int .i64 len) := rfl
theorem ln_str (s : List UInt8) : lnP .str (.str s) = some (.int .i64 s.length) := rfl
theorem ln_arr (n : Nat) (x : V) : lnP (.arr n) x = some (.int .i64 n) := by cases x <;> rfl

theorem box_def (σ : H) (e : TypeId) (v : V) (K : V → H → Prop) : boxX σ e v K = K (.ptr (newPA σ v.cellsV.length)) (mkRow σ e v.cellsV) := rfl


/-- wrap of what is in bounds. -/
theorem wrap_i64 {n : Int} (h0 : -9223372036854775808 ≤ n) (h1 : n ≤ 9223372036854775807) : IntKind.i64.wrap n = n := by
  have hb : IntKind.i64.bits = 64 := rfl
  have hs : IntKind.i64.signed = true := rfl
  simp only [IntKind.wrap, hb, hs]
  split <;> rename_i h <;> simp at h <;> omega
theorem wrap_u8 (n : Int) : IntKind.u8.wrap n = n % 256 := by
  have hb : IntKind.u8.bits = 8 := rfl
  have hs : IntKind.u8.signed = false := rfl
  simp [IntKind.wrap, hb, hs]
theorem wrap_u16 (n : Int) : IntKind.u16.wrap n = n % 65536 := by
  have hb : IntKind.u16.bits = 16 := rfl
  have hs : IntKind.u16.signed = false := rfl
  simp [IntKind.wrap, hb, hs]
theorem wrap_u32 (n : Int) : IntKind.u32.wrap n = n % 4294967296 := by
  have hb : IntKind.u32.bits = 32 := rfl
  have hs : IntKind.u32.signed = false := rfl
  simp [IntKind.wrap, hb, hs]
theorem wrap_u64 (n : Int) : IntKind.u64.wrap n = n % 18446744073709551616 := by
  have hb : IntKind.u64.bits = 64 := rfl
  have hs : IntKind.u64.signed = false := rfl
  simp [IntKind.wrap, hb, hs]

/-! ### Rows of bytes -/

theorem cell_of_cells {σ : H} {a : PA} {n i : Nat} {vs : List V} (h : σ.cells a n = some vs) (hi : i < n) : σ.cell { a with off := a.off + i } = vs[i]? := by
  unfold H.cells at h
  unfold H.cell
  simp only
  split at h
  · rename_i r hr
    split at h
    · rename_i hc
      cases h
      rw [if_pos ⟨hc.1, by omega⟩, List.getElem?_take_of_lt hi, List.getElem?_drop]
    · cases h
  · cases h

theorem cells_length {σ : H} {a : PA} {n : Nat} {vs : List V} (h : σ.cells a n = some vs) (hw : ∀ r, σ.get a.id = some (.row r) → a.ver ≤ r.cells.length) : vs.length = n := by
  unfold H.cells at h
  split at h
  · rename_i r hr
    split at h
    · rename_i hc
      cases h
      have := hw r hr
      simp; omega
    · cases h
  · cases h

def bv (b : UInt8) : V := .int .u8 b.toNat

/-- A slice of bytes that holds these. -/
def Bytes (σ : H) (v : V) (l : List UInt8) : Prop :=
  (v = .nils ∧ l = []) ∨ ∃ a cb ex, v = .slice a 1 l.length cb ex ∧ l.length ≤ cb ∧ σ.cells a l.length = some (l.map bv)

theorem Bytes.len {σ : H} {v : V} {l : List UInt8} (h : Bytes σ v l) : lnP .sl v = some (.int .i64 l.length) := by
  rcases h with ⟨rfl, rfl⟩ | ⟨a, cb, ex, rfl, _, _⟩ <;> rfl

theorem Bytes.at {σ : H} {v : V} {l : List UInt8} (h : Bytes σ v l) {ik : IntKind} {i : Nat} (hi : i < l.length) : ∃ a, ixP (none, 1) v (.int ik i) = some (.ptr a) ∧ σ.cell a = some (bv l[i]) := by
  rcases h with ⟨_, rfl⟩ | ⟨a, cb, ex, rfl, _, hc⟩
  · simp at hi
  · refine ⟨{ a with off := a.off + i }, ?_, ?_⟩
    · rw [ix_sl, if_pos ⟨rfl, by omega, by omega⟩]; simp
    · rw [cell_of_cells hc hi]; simp [hi]

theorem Bytes.grew {σ σ' : H} {v : V} {l : List UInt8} (h : Bytes σ v l) (hg : Grew σ σ') : Bytes σ' v l := by
  rcases h with h | ⟨a, cb, ex, h1, hcb, h2⟩
  · exact .inl h
  · refine .inr ⟨a, cb, ex, h1, hcb, ?_⟩
    unfold H.cells at h2 ⊢
    split at h2
    · rename_i r hr
      rw [hg.2 a.id (H.get_lt hr), hr]
      exact h2
    · cases h2

theorem bit_range (op : BinOp) (a b : Int) : 0 ≤ bitI op .u32 a b ∧ bitI op .u32 a b < 4294967296 := by
  have h : ∀ n : Int, 0 ≤ IntKind.u32.wrap n ∧ IntKind.u32.wrap n < 4294967296 := fun n => by rw [wrap_u32]; omega
  unfold bitI
  cases op <;> exact h _

end Go.Am
