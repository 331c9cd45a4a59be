/-
  NARROWER THAN 'FOR EVERY INPUT', by the rows' own cells (each row's printed sentence says how): PieceKnown: laid · StoreKnown: laid · SnapKnown: laid · EntityKnown: laid · BatchKnown: laid · AdjKnown: laid · IndexKnown: laid.
  DERIVED. THE GIVEN ROWS OF THIS SEAT. 7 by the template 'for every input the law returns true; each argument reads behind the call as it read before'; 0 by the template 'total and deterministic' (their statements: YtaolbokpeafejaaGreatDoorTotals.lean).
  GIVEN WITH THE SEED: the statements are not yours to turn. If you find one false, say at which input.
  Laid BY PROGRAM, IN A SANDBOX (cutbox-rows.mjs): the forced cells as the released guide's own fill.sh prints them over the translation c89eafb534d27664… (all of the seat's roots in one cut). By AI agents, Wed Nov 11 2026. No macro, syntax, notation, axiom, sorry.
-/
import Derived.Test.YtaolbokpeafejaaGreatDoorChecked
import GoSem.Claim
import GoSem.ClaimJoined
import GoSem.ClaimMapViews
import Derived.JoinedTies
import Derived.KernelRfl
namespace Go.Proofs.YtaolbokpeafejaaGreatDoor
/- THE CELL 'sum', in the pinned program and in every row, IS THE sha256 OF THE DUMP (.gsa) THAT YtaolbokpeafejaaGreatDoorProg.lean LOADS. Nothing in Lean hashes anything: it is a label: what it is worth is what the hold of that sum in a sandbox is worth. -/
noncomputable def Tryz.pinned : Pinned := { name := "ytaolbokpeafejaagreatdoor", sum := "c89eafb534d276647bc936c1014157c54de7df0a1a70e0f0702dfeacf85d25eb", checked := Tryz.checked }
namespace Rows
def none {H : Type} : Left H := { results := [], args := [] }

/- WHAT THE LISTED PACKAGE-LEVEL VARIABLES READ AS WHEN THE CALL BEGINS. Each datum BY PROGRAM (the guide's laid-datum.mjs) off the statement by which the dump's own 'gosem.cut.vars' lays the variable. In a bare row this is a premise. The card (YtaolbokpeafejaaGreatDoorCards.lean) ties it to the program's text. -/
def laid_almanac_value_within {H : Type} : DataW H := .iface "func table" (.agg [.iface "func" (.lit (.string [97, 108, 109, 97, 110, 97, 99, 47, 118, 97, 108, 117, 101, 46, 119, 105, 116, 104, 105, 110, 36, 49])), .iface "func" (.lit (.string [97, 108, 109, 97, 110, 97, 99, 47, 118, 97, 108, 117, 101, 46, 119, 105, 116, 104, 105, 110, 36, 50])), .iface "func" (.lit (.string [97, 108, 109, 97, 110, 97, 99, 47, 118, 97, 108, 117, 101, 46, 119, 105, 116, 104, 105, 110, 36, 51])), .nil, .iface "func" (.lit (.string [97, 108, 109, 97, 110, 97, 99, 47, 118, 97, 108, 117, 101, 46, 119, 105, 116, 104, 105, 110, 36, 52])), .iface "func" (.lit (.string [97, 108, 109, 97, 110, 97, 99, 47, 118, 97, 108, 117, 101, 46, 119, 105, 116, 104, 105, 110, 36, 53])), .iface "func" (.lit (.string [97, 108, 109, 97, 110, 97, 99, 47, 118, 97, 108, 117, 101, 46, 119, 105, 116, 104, 105, 110, 36, 54]))])

/-- 'almanaclaw12.PieceKnown': WHATEVER THE INPUT: true; the input reads as it did. -/
def pieceKnownSpec : ChangeSpec := { name := "pieceKnown", fn := fun _ => fun
  | [] => { results := [.lit (.bool true)], args := [] }
  | _ => none }
def pieceKnownRow : OpenClaim := { program := "ytaolbokpeafejaagreatdoor", sum := "c89eafb534d276647bc936c1014157c54de7df0a1a70e0f0702dfeacf85d25eb", func := "almanac/almanaclaw12.PieceKnown", spec := "pieceKnown", inPlace := ["math.Float64frombits", "math.Float64bits", "math.archFloor", "math.archTrunc"], unfollowed := true, recurses := true, named := ["almanac/value.within"], plainKeys := false, apart := false, laid := [("almanac/value.within", laid_almanac_value_within)] }
def PieceKnownSaid : Prop := pieceKnownRow.holds Tryz.pinned (OpenSpec.ofChange pieceKnownSpec)

/-- ITS FALSE NEIGHBOUR: 'it returns false'. Refute it at one input. -/
def pieceKnownWrong : ChangeSpec := { name := "pieceKnown", fn := fun _ => fun
  | [] => { results := [.lit (.bool false)], args := [] }
  | _ => none }
def PieceKnownWrongFalsely : Prop := pieceKnownRow.holds Tryz.pinned (OpenSpec.ofChange pieceKnownWrong)

/-- 'almanaclaw15.StoreKnown': WHATEVER THE INPUT: true; the input reads as it did. -/
def storeKnownSpec : ChangeSpec := { name := "storeKnown", fn := fun _ => fun
  | [] => { results := [.lit (.bool true)], args := [] }
  | _ => none }
def storeKnownRow : OpenClaim := { program := "ytaolbokpeafejaagreatdoor", sum := "c89eafb534d276647bc936c1014157c54de7df0a1a70e0f0702dfeacf85d25eb", func := "almanac/almanaclaw15.StoreKnown", spec := "storeKnown", inPlace := ["math.Float64frombits", "math.Float64bits", "internal/bytealg.abigen_runtime_cmpstring", "slices.overlaps[almanac/entity.Prop]"], unfollowed := true, recurses := true, named := ["almanac/value.within"], plainKeys := false, apart := false, laid := [("almanac/value.within", laid_almanac_value_within)] }
def StoreKnownSaid : Prop := storeKnownRow.holds Tryz.pinned (OpenSpec.ofChange storeKnownSpec)

/-- ITS FALSE NEIGHBOUR: 'it returns false'. Refute it at one input. -/
def storeKnownWrong : ChangeSpec := { name := "storeKnown", fn := fun _ => fun
  | [] => { results := [.lit (.bool false)], args := [] }
  | _ => none }
def StoreKnownWrongFalsely : Prop := storeKnownRow.holds Tryz.pinned (OpenSpec.ofChange storeKnownWrong)

/-- 'almanaclaw16.SnapKnown': WHATEVER THE INPUT: true; the input reads as it did. -/
def snapKnownSpec : ChangeSpec := { name := "snapKnown", fn := fun _ => fun
  | [] => { results := [.lit (.bool true)], args := [] }
  | _ => none }
def snapKnownRow : OpenClaim := { program := "ytaolbokpeafejaagreatdoor", sum := "c89eafb534d276647bc936c1014157c54de7df0a1a70e0f0702dfeacf85d25eb", func := "almanac/almanaclaw16.SnapKnown", spec := "snapKnown", inPlace := ["math.Float64frombits", "math.Float64bits", "internal/bytealg.abigen_runtime_cmpstring", "slices.overlaps[almanac/entity.Prop]", "maps.clone", "math.archFloor", "math.archTrunc"], unfollowed := true, recurses := true, named := ["almanac/value.within"], plainKeys := false, apart := false, laid := [("almanac/value.within", laid_almanac_value_within)] }
def SnapKnownSaid : Prop := snapKnownRow.holds Tryz.pinned (OpenSpec.ofChange snapKnownSpec)

/-- ITS FALSE NEIGHBOUR: 'it returns false'. Refute it at one input. -/
def snapKnownWrong : ChangeSpec := { name := "snapKnown", fn := fun _ => fun
  | [] => { results := [.lit (.bool false)], args := [] }
  | _ => none }
def SnapKnownWrongFalsely : Prop := snapKnownRow.holds Tryz.pinned (OpenSpec.ofChange snapKnownWrong)

/-- 'almanaclaw13.EntityKnown': WHATEVER THE INPUT: true; the input reads as it did. -/
def entityKnownSpec : ChangeSpec := { name := "entityKnown", fn := fun _ => fun
  | [] => { results := [.lit (.bool true)], args := [] }
  | _ => none }
def entityKnownRow : OpenClaim := { program := "ytaolbokpeafejaagreatdoor", sum := "c89eafb534d276647bc936c1014157c54de7df0a1a70e0f0702dfeacf85d25eb", func := "almanac/almanaclaw13.EntityKnown", spec := "entityKnown", inPlace := ["math.Float64frombits", "math.Float64bits", "internal/bytealg.abigen_runtime_cmpstring", "slices.overlaps[almanac/entity.Prop]"], unfollowed := true, recurses := true, named := ["almanac/value.within"], plainKeys := false, apart := false, laid := [("almanac/value.within", laid_almanac_value_within)] }
def EntityKnownSaid : Prop := entityKnownRow.holds Tryz.pinned (OpenSpec.ofChange entityKnownSpec)

/-- ITS FALSE NEIGHBOUR: 'it returns false'. Refute it at one input. -/
def entityKnownWrong : ChangeSpec := { name := "entityKnown", fn := fun _ => fun
  | [] => { results := [.lit (.bool false)], args := [] }
  | _ => none }
def EntityKnownWrongFalsely : Prop := entityKnownRow.holds Tryz.pinned (OpenSpec.ofChange entityKnownWrong)

/-- 'almanaclaw14.BatchKnown': WHATEVER THE INPUT: true; the input reads as it did. -/
def batchKnownSpec : ChangeSpec := { name := "batchKnown", fn := fun _ => fun
  | [] => { results := [.lit (.bool true)], args := [] }
  | _ => none }
def batchKnownRow : OpenClaim := { program := "ytaolbokpeafejaagreatdoor", sum := "c89eafb534d276647bc936c1014157c54de7df0a1a70e0f0702dfeacf85d25eb", func := "almanac/almanaclaw14.BatchKnown", spec := "batchKnown", inPlace := ["math.Float64frombits", "math.Float64bits", "internal/bytealg.abigen_runtime_cmpstring", "slices.overlaps[almanac/entity.Prop]"], unfollowed := true, recurses := true, named := ["almanac/value.within"], plainKeys := false, apart := false, laid := [("almanac/value.within", laid_almanac_value_within)] }
def BatchKnownSaid : Prop := batchKnownRow.holds Tryz.pinned (OpenSpec.ofChange batchKnownSpec)

/-- ITS FALSE NEIGHBOUR: 'it returns false'. Refute it at one input. -/
def batchKnownWrong : ChangeSpec := { name := "batchKnown", fn := fun _ => fun
  | [] => { results := [.lit (.bool false)], args := [] }
  | _ => none }
def BatchKnownWrongFalsely : Prop := batchKnownRow.holds Tryz.pinned (OpenSpec.ofChange batchKnownWrong)

/-- 'almanaclaw17.AdjKnown': WHATEVER THE INPUT: true; the input reads as it did. -/
def adjKnownSpec : ChangeSpec := { name := "adjKnown", fn := fun _ => fun
  | [] => { results := [.lit (.bool true)], args := [] }
  | _ => none }
def adjKnownRow : OpenClaim := { program := "ytaolbokpeafejaagreatdoor", sum := "c89eafb534d276647bc936c1014157c54de7df0a1a70e0f0702dfeacf85d25eb", func := "almanac/almanaclaw17.AdjKnown", spec := "adjKnown", inPlace := ["math.Float64frombits", "math.Float64bits", "internal/bytealg.abigen_runtime_cmpstring", "slices.overlaps[almanac/entity.Prop]"], unfollowed := true, recurses := true, named := ["almanac/value.within"], plainKeys := false, apart := false, laid := [("almanac/value.within", laid_almanac_value_within)] }
def AdjKnownSaid : Prop := adjKnownRow.holds Tryz.pinned (OpenSpec.ofChange adjKnownSpec)

/-- ITS FALSE NEIGHBOUR: 'it returns false'. Refute it at one input. -/
def adjKnownWrong : ChangeSpec := { name := "adjKnown", fn := fun _ => fun
  | [] => { results := [.lit (.bool false)], args := [] }
  | _ => none }
def AdjKnownWrongFalsely : Prop := adjKnownRow.holds Tryz.pinned (OpenSpec.ofChange adjKnownWrong)

/-- 'almanaclaw18.IndexKnown': WHATEVER THE INPUT: true; the input reads as it did. -/
def indexKnownSpec : ChangeSpec := { name := "indexKnown", fn := fun _ => fun
  | [] => { results := [.lit (.bool true)], args := [] }
  | _ => none }
def indexKnownRow : OpenClaim := { program := "ytaolbokpeafejaagreatdoor", sum := "c89eafb534d276647bc936c1014157c54de7df0a1a70e0f0702dfeacf85d25eb", func := "almanac/almanaclaw18.IndexKnown", spec := "indexKnown", inPlace := ["math.Float64frombits", "math.Float64bits", "internal/bytealg.abigen_runtime_cmpstring", "slices.overlaps[almanac/entity.Prop]", "math.archTrunc"], unfollowed := true, recurses := true, named := ["almanac/value.within"], plainKeys := false, apart := false, laid := [("almanac/value.within", laid_almanac_value_within)] }
def IndexKnownSaid : Prop := indexKnownRow.holds Tryz.pinned (OpenSpec.ofChange indexKnownSpec)

/-- ITS FALSE NEIGHBOUR: 'it returns false'. Refute it at one input. -/
def indexKnownWrong : ChangeSpec := { name := "indexKnown", fn := fun _ => fun
  | [] => { results := [.lit (.bool false)], args := [] }
  | _ => none }
def IndexKnownWrongFalsely : Prop := indexKnownRow.holds Tryz.pinned (OpenSpec.ofChange indexKnownWrong)

/- THE SECOND FORM. 'bulk': how many values and letters a reading holds, each counted each time it is reached (what is shared counts as often as it is met; a slice's spare places count too). A statement '..UptoSaid' is the law's where the arguments, and the package variables that the reading takes, are together of bulk at most 1048576: NARROWER than '..Said'. Prove '..Said' where nothing that the law and all that it calls make is longer than what came in: it says more and counts as full. Else prove '..UptoSaid'. A law counts once. -/
mutual
def uptoBulk {H : Type} : DataW H → Nat
  | .lit (.string bytes) => bytes.length + 1
  | .lit _ => 1
  | .nil => 1
  | .ptr d => uptoBulk d + 1
  | .slice elems spare => uptoBulkAll elems + uptoBulkAll spare + 1
  | .agg parts => uptoBulkAll parts + 1
  | .iface _ d => uptoBulk d + 1
  | .map entries => uptoBulkEntries entries + 1
  | .held _ => 1
def uptoBulkAll {H : Type} : List (DataW H) → Nat
  | [] => 0
  | d :: r => uptoBulk d + uptoBulkAll r
def uptoBulkEntries {H : Type} : List (Lit × DataW H) → Nat
  | [] => 0
  | x :: r => uptoBulkEntry x + uptoBulkEntries r
def uptoBulkEntry {H : Type} : Lit × DataW H → Nat
  | (.string bytes, d) => bytes.length + uptoBulk d + 1
  | (_, d) => uptoBulk d + 1
 end
def uptoSmall : (H : Type) → List (DataW H) → Bool := fun _ ds => decide (uptoBulkAll ds ≤ 1048576)
def OpenSpec.upto (s : _root_.Go.ChangeSpec) : _root_.Go.OpenSpec := { _root_.Go.OpenSpec.ofChange s with cond := some uptoSmall }

/-- 'almanaclaw12.PieceKnown', WHERE WHAT IT READS IS OF BULK AT MOST 1048576: true; the input reads as it did. -/
def pieceKnownUptoRow : OpenClaim := { program := "ytaolbokpeafejaagreatdoor", sum := "c89eafb534d276647bc936c1014157c54de7df0a1a70e0f0702dfeacf85d25eb", func := "almanac/almanaclaw12.PieceKnown", spec := "pieceKnown", inPlace := ["math.Float64frombits", "math.Float64bits", "math.archFloor", "math.archTrunc"], unfollowed := true, recurses := true, named := ["almanac/value.within"], plainKeys := false, apart := false, laid := [("almanac/value.within", laid_almanac_value_within)], narrowed := true }
def PieceKnownUptoSaid : Prop := pieceKnownUptoRow.holds Tryz.pinned (OpenSpec.upto pieceKnownSpec)

/-- 'almanaclaw15.StoreKnown', WHERE WHAT IT READS IS OF BULK AT MOST 1048576: true; the input reads as it did. -/
def storeKnownUptoRow : OpenClaim := { program := "ytaolbokpeafejaagreatdoor", sum := "c89eafb534d276647bc936c1014157c54de7df0a1a70e0f0702dfeacf85d25eb", func := "almanac/almanaclaw15.StoreKnown", spec := "storeKnown", inPlace := ["math.Float64frombits", "math.Float64bits", "internal/bytealg.abigen_runtime_cmpstring", "slices.overlaps[almanac/entity.Prop]"], unfollowed := true, recurses := true, named := ["almanac/value.within"], plainKeys := false, apart := false, laid := [("almanac/value.within", laid_almanac_value_within)], narrowed := true }
def StoreKnownUptoSaid : Prop := storeKnownUptoRow.holds Tryz.pinned (OpenSpec.upto storeKnownSpec)

/-- 'almanaclaw16.SnapKnown', WHERE WHAT IT READS IS OF BULK AT MOST 1048576: true; the input reads as it did. -/
def snapKnownUptoRow : OpenClaim := { program := "ytaolbokpeafejaagreatdoor", sum := "c89eafb534d276647bc936c1014157c54de7df0a1a70e0f0702dfeacf85d25eb", func := "almanac/almanaclaw16.SnapKnown", spec := "snapKnown", inPlace := ["math.Float64frombits", "math.Float64bits", "internal/bytealg.abigen_runtime_cmpstring", "slices.overlaps[almanac/entity.Prop]", "maps.clone", "math.archFloor", "math.archTrunc"], unfollowed := true, recurses := true, named := ["almanac/value.within"], plainKeys := false, apart := false, laid := [("almanac/value.within", laid_almanac_value_within)], narrowed := true }
def SnapKnownUptoSaid : Prop := snapKnownUptoRow.holds Tryz.pinned (OpenSpec.upto snapKnownSpec)

/-- 'almanaclaw13.EntityKnown', WHERE WHAT IT READS IS OF BULK AT MOST 1048576: true; the input reads as it did. -/
def entityKnownUptoRow : OpenClaim := { program := "ytaolbokpeafejaagreatdoor", sum := "c89eafb534d276647bc936c1014157c54de7df0a1a70e0f0702dfeacf85d25eb", func := "almanac/almanaclaw13.EntityKnown", spec := "entityKnown", inPlace := ["math.Float64frombits", "math.Float64bits", "internal/bytealg.abigen_runtime_cmpstring", "slices.overlaps[almanac/entity.Prop]"], unfollowed := true, recurses := true, named := ["almanac/value.within"], plainKeys := false, apart := false, laid := [("almanac/value.within", laid_almanac_value_within)], narrowed := true }
def EntityKnownUptoSaid : Prop := entityKnownUptoRow.holds Tryz.pinned (OpenSpec.upto entityKnownSpec)

/-- 'almanaclaw14.BatchKnown', WHERE WHAT IT READS IS OF BULK AT MOST 1048576: true; the input reads as it did. -/
def batchKnownUptoRow : OpenClaim := { program := "ytaolbokpeafejaagreatdoor", sum := "c89eafb534d276647bc936c1014157c54de7df0a1a70e0f0702dfeacf85d25eb", func := "almanac/almanaclaw14.BatchKnown", spec := "batchKnown", inPlace := ["math.Float64frombits", "math.Float64bits", "internal/bytealg.abigen_runtime_cmpstring", "slices.overlaps[almanac/entity.Prop]"], unfollowed := true, recurses := true, named := ["almanac/value.within"], plainKeys := false, apart := false, laid := [("almanac/value.within", laid_almanac_value_within)], narrowed := true }
def BatchKnownUptoSaid : Prop := batchKnownUptoRow.holds Tryz.pinned (OpenSpec.upto batchKnownSpec)

/-- 'almanaclaw17.AdjKnown', WHERE WHAT IT READS IS OF BULK AT MOST 1048576: true; the input reads as it did. -/
def adjKnownUptoRow : OpenClaim := { program := "ytaolbokpeafejaagreatdoor", sum := "c89eafb534d276647bc936c1014157c54de7df0a1a70e0f0702dfeacf85d25eb", func := "almanac/almanaclaw17.AdjKnown", spec := "adjKnown", inPlace := ["math.Float64frombits", "math.Float64bits", "internal/bytealg.abigen_runtime_cmpstring", "slices.overlaps[almanac/entity.Prop]"], unfollowed := true, recurses := true, named := ["almanac/value.within"], plainKeys := false, apart := false, laid := [("almanac/value.within", laid_almanac_value_within)], narrowed := true }
def AdjKnownUptoSaid : Prop := adjKnownUptoRow.holds Tryz.pinned (OpenSpec.upto adjKnownSpec)

/-- 'almanaclaw18.IndexKnown', WHERE WHAT IT READS IS OF BULK AT MOST 1048576: true; the input reads as it did. -/
def indexKnownUptoRow : OpenClaim := { program := "ytaolbokpeafejaagreatdoor", sum := "c89eafb534d276647bc936c1014157c54de7df0a1a70e0f0702dfeacf85d25eb", func := "almanac/almanaclaw18.IndexKnown", spec := "indexKnown", inPlace := ["math.Float64frombits", "math.Float64bits", "internal/bytealg.abigen_runtime_cmpstring", "slices.overlaps[almanac/entity.Prop]", "math.archTrunc"], unfollowed := true, recurses := true, named := ["almanac/value.within"], plainKeys := false, apart := false, laid := [("almanac/value.within", laid_almanac_value_within)], narrowed := true }
def IndexKnownUptoSaid : Prop := indexKnownUptoRow.holds Tryz.pinned (OpenSpec.upto indexKnownSpec)

end Rows
end Go.Proofs.YtaolbokpeafejaaGreatDoor
