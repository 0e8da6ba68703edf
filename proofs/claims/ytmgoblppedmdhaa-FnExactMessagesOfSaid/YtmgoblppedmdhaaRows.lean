/-
  No cell of these rows narrows 'for every input' (looked for: loops, veiled, ifaces, maps, wideKeys, modest, calm, conditions, laid).
  DERIVED. THE GIVEN ROWS OF THIS SEAT. 8 by the template 'for every input the law returns true; each argument reads behind the call as it read before'; 0 by the template 'total and deterministic' (their statements: YtmgoblppedmdhaaTotals.lean).
  GIVEN WITH THE SEED: the statements are not yours to turn. If you find one false, say at which input.
  Laid BY PROGRAM, IN A SANDBOX (cutbox-rows.mjs): the forced cells as the released guide's own fill.sh prints them over the translation 56a2e0bf94911676… (all of the seat's roots in one cut). By AI agents, Wed Nov 11 2026. No macro, syntax, notation, axiom, sorry.
-/
import Derived.Test.YtmgoblppedmdhaaChecked
import GoSem.Claim
import GoSem.ClaimJoined
import GoSem.ClaimMapViews
import Derived.JoinedTies
import Derived.KernelRfl
namespace Go.Proofs.Ytmgoblppedmdhaa
/- THE CELL 'sum', in the pinned program and in every row, IS THE sha256 OF THE DUMP (.gsa) THAT YtmgoblppedmdhaaProg.lean LOADS. Nothing in Lean hashes anything: it is a label: what it is worth is what the hold of that sum in a sandbox is worth. -/
noncomputable def Try.pinned : Pinned := { name := "ytmgoblppedmdhaa", sum := "56a2e0bf94911676f9c210efe5e9a8e594580e91159a95ed52a9cd9f6937729c", checked := Try.checked }
namespace Rows
def none {H : Type} : Left H := { results := [], args := [] }

/-- 'laws.FnLags': WHATEVER THE INPUT: true; the input reads as it did. -/
def fnLagsSpec : ChangeSpec := { name := "fnLags", fn := fun _ => fun
  | [d1, d2] => { results := [.lit (.bool true)], args := [d1, d2] }
  | _ => none }
def fnLagsRow : OpenClaim := { program := "ytmgoblppedmdhaa", sum := "56a2e0bf94911676f9c210efe5e9a8e594580e91159a95ed52a9cd9f6937729c", func := "loop.example/g01201/laws.FnLags", spec := "fnLags", apart := false }
def FnLagsSaid : Prop := fnLagsRow.holds Try.pinned (OpenSpec.ofChange fnLagsSpec)

/-- ITS FALSE NEIGHBOUR: 'it returns false'. Refute it at one input. -/
def fnLagsWrong : ChangeSpec := { name := "fnLags", fn := fun _ => fun
  | [d1, d2] => { results := [.lit (.bool false)], args := [d1, d2] }
  | _ => none }
def FnLagsWrongFalsely : Prop := fnLagsRow.holds Try.pinned (OpenSpec.ofChange fnLagsWrong)

/-- 'laws.FnShares': WHATEVER THE INPUT: true; the input reads as it did. -/
def fnSharesSpec : ChangeSpec := { name := "fnShares", fn := fun _ => fun
  | [d1, d2] => { results := [.lit (.bool true)], args := [d1, d2] }
  | _ => none }
def fnSharesRow : OpenClaim := { program := "ytmgoblppedmdhaa", sum := "56a2e0bf94911676f9c210efe5e9a8e594580e91159a95ed52a9cd9f6937729c", func := "loop.example/g01201/laws.FnShares", spec := "fnShares", inPlace := ["math.Float64frombits", "math.Float64bits"], unfollowed := true, recurses := true, apart := false }
def FnSharesSaid : Prop := fnSharesRow.holds Try.pinned (OpenSpec.ofChange fnSharesSpec)

/-- ITS FALSE NEIGHBOUR: 'it returns false'. Refute it at one input. -/
def fnSharesWrong : ChangeSpec := { name := "fnShares", fn := fun _ => fun
  | [d1, d2] => { results := [.lit (.bool false)], args := [d1, d2] }
  | _ => none }
def FnSharesWrongFalsely : Prop := fnSharesRow.holds Try.pinned (OpenSpec.ofChange fnSharesWrong)

/-- 'laws.FnBinsCut': WHATEVER THE INPUT: true; the input reads as it did. -/
def fnBinsCutSpec : ChangeSpec := { name := "fnBinsCut", fn := fun _ => fun
  | [d1, d2] => { results := [.lit (.bool true)], args := [d1, d2] }
  | _ => none }
def fnBinsCutRow : OpenClaim := { program := "ytmgoblppedmdhaa", sum := "56a2e0bf94911676f9c210efe5e9a8e594580e91159a95ed52a9cd9f6937729c", func := "loop.example/g01201/laws.FnBinsCut", spec := "fnBinsCut", inPlace := ["math.Float32frombits", "math.Float64frombits", "math.Float64bits"], unfollowed := true, recurses := true, apart := false }
def FnBinsCutSaid : Prop := fnBinsCutRow.holds Try.pinned (OpenSpec.ofChange fnBinsCutSpec)

/-- ITS FALSE NEIGHBOUR: 'it returns false'. Refute it at one input. -/
def fnBinsCutWrong : ChangeSpec := { name := "fnBinsCut", fn := fun _ => fun
  | [d1, d2] => { results := [.lit (.bool false)], args := [d1, d2] }
  | _ => none }
def FnBinsCutWrongFalsely : Prop := fnBinsCutRow.holds Try.pinned (OpenSpec.ofChange fnBinsCutWrong)

/-- 'laws.FnSpectraAdded': WHATEVER THE INPUT: true; the input reads as it did. -/
def fnSpectraAddedSpec : ChangeSpec := { name := "fnSpectraAdded", fn := fun _ => fun
  | [d1, d2] => { results := [.lit (.bool true)], args := [d1, d2] }
  | _ => none }
def fnSpectraAddedRow : OpenClaim := { program := "ytmgoblppedmdhaa", sum := "56a2e0bf94911676f9c210efe5e9a8e594580e91159a95ed52a9cd9f6937729c", func := "loop.example/g01201/laws.FnSpectraAdded", spec := "fnSpectraAdded", inPlace := ["math.Float64frombits", "math.Float64bits", "math.sqrt"], apart := false }
def FnSpectraAddedSaid : Prop := fnSpectraAddedRow.holds Try.pinned (OpenSpec.ofChange fnSpectraAddedSpec)

/-- ITS FALSE NEIGHBOUR: 'it returns false'. Refute it at one input. -/
def fnSpectraAddedWrong : ChangeSpec := { name := "fnSpectraAdded", fn := fun _ => fun
  | [d1, d2] => { results := [.lit (.bool false)], args := [d1, d2] }
  | _ => none }
def FnSpectraAddedWrongFalsely : Prop := fnSpectraAddedRow.holds Try.pinned (OpenSpec.ofChange fnSpectraAddedWrong)

/-- 'laws.FnGraded': WHATEVER THE INPUT: true; the input reads as it did. -/
def fnGradedSpec : ChangeSpec := { name := "fnGraded", fn := fun _ => fun
  | [d1, d2] => { results := [.lit (.bool true)], args := [d1, d2] }
  | _ => none }
def fnGradedRow : OpenClaim := { program := "ytmgoblppedmdhaa", sum := "56a2e0bf94911676f9c210efe5e9a8e594580e91159a95ed52a9cd9f6937729c", func := "loop.example/g01201/laws.FnGraded", spec := "fnGraded", inPlace := ["math.Float32frombits", "math.Float32bits"], unfollowed := true, recurses := true, apart := false }
def FnGradedSaid : Prop := fnGradedRow.holds Try.pinned (OpenSpec.ofChange fnGradedSpec)

/-- ITS FALSE NEIGHBOUR: 'it returns false'. Refute it at one input. -/
def fnGradedWrong : ChangeSpec := { name := "fnGraded", fn := fun _ => fun
  | [d1, d2] => { results := [.lit (.bool false)], args := [d1, d2] }
  | _ => none }
def FnGradedWrongFalsely : Prop := fnGradedRow.holds Try.pinned (OpenSpec.ofChange fnGradedWrong)

/-- 'laws.FnExactHaloRows': WHATEVER THE INPUT: true; the input reads as it did. -/
def fnExactHaloRowsSpec : ChangeSpec := { name := "fnExactHaloRows", fn := fun _ => fun
  | [d1, d2] => { results := [.lit (.bool true)], args := [d1, d2] }
  | _ => none }
def fnExactHaloRowsRow : OpenClaim := { program := "ytmgoblppedmdhaa", sum := "56a2e0bf94911676f9c210efe5e9a8e594580e91159a95ed52a9cd9f6937729c", func := "loop.example/g01201/laws.FnExactHaloRows", spec := "fnExactHaloRows", recurses := true, apart := false }
def FnExactHaloRowsSaid : Prop := fnExactHaloRowsRow.holds Try.pinned (OpenSpec.ofChange fnExactHaloRowsSpec)

/-- ITS FALSE NEIGHBOUR: 'it returns false'. Refute it at one input. -/
def fnExactHaloRowsWrong : ChangeSpec := { name := "fnExactHaloRows", fn := fun _ => fun
  | [d1, d2] => { results := [.lit (.bool false)], args := [d1, d2] }
  | _ => none }
def FnExactHaloRowsWrongFalsely : Prop := fnExactHaloRowsRow.holds Try.pinned (OpenSpec.ofChange fnExactHaloRowsWrong)

/-- 'laws.FnSpectra': WHATEVER THE INPUT: true; the input reads as it did. -/
def fnSpectraSpec : ChangeSpec := { name := "fnSpectra", fn := fun _ => fun
  | [d1, d2] => { results := [.lit (.bool true)], args := [d1, d2] }
  | _ => none }
def fnSpectraRow : OpenClaim := { program := "ytmgoblppedmdhaa", sum := "56a2e0bf94911676f9c210efe5e9a8e594580e91159a95ed52a9cd9f6937729c", func := "loop.example/g01201/laws.FnSpectra", spec := "fnSpectra", inPlace := ["math.Float64frombits", "math.Float64bits", "math.sqrt"], unfollowed := true, recurses := true, apart := false }
def FnSpectraSaid : Prop := fnSpectraRow.holds Try.pinned (OpenSpec.ofChange fnSpectraSpec)

/-- ITS FALSE NEIGHBOUR: 'it returns false'. Refute it at one input. -/
def fnSpectraWrong : ChangeSpec := { name := "fnSpectra", fn := fun _ => fun
  | [d1, d2] => { results := [.lit (.bool false)], args := [d1, d2] }
  | _ => none }
def FnSpectraWrongFalsely : Prop := fnSpectraRow.holds Try.pinned (OpenSpec.ofChange fnSpectraWrong)

/-- 'laws.FnExactMessagesOf': WHATEVER THE INPUT: true; the input reads as it did. -/
def fnExactMessagesOfSpec : ChangeSpec := { name := "fnExactMessagesOf", fn := fun _ => fun
  | [d1, d2] => { results := [.lit (.bool true)], args := [d1, d2] }
  | _ => none }
def fnExactMessagesOfRow : OpenClaim := { program := "ytmgoblppedmdhaa", sum := "56a2e0bf94911676f9c210efe5e9a8e594580e91159a95ed52a9cd9f6937729c", func := "loop.example/g01201/laws.FnExactMessagesOf", spec := "fnExactMessagesOf", unfollowed := true, recurses := true, apart := false }
def FnExactMessagesOfSaid : Prop := fnExactMessagesOfRow.holds Try.pinned (OpenSpec.ofChange fnExactMessagesOfSpec)

/-- ITS FALSE NEIGHBOUR: 'it returns false'. Refute it at one input. -/
def fnExactMessagesOfWrong : ChangeSpec := { name := "fnExactMessagesOf", fn := fun _ => fun
  | [d1, d2] => { results := [.lit (.bool false)], args := [d1, d2] }
  | _ => none }
def FnExactMessagesOfWrongFalsely : Prop := fnExactMessagesOfRow.holds Try.pinned (OpenSpec.ofChange fnExactMessagesOfWrong)

/- THE SECOND FORM. 'bulk': how many values and letters a reading holds, each counted each time it is reached (what is shared counts as often as it is met; a slice's spare places count too). A statement '..UptoSaid' is the law's where the arguments, and the package variables that the reading takes, are together of bulk at most 1048576: NARROWER than '..Said'. Prove '..Said' where nothing that the law and all that it calls make is longer than what came in: it says more and counts as full. Else prove '..UptoSaid'. A law counts once. -/
mutual
def uptoBulk {H : Type} : DataW H → Nat
  | .lit (.string bytes) => bytes.length + 1
  | .lit _ => 1
  | .nil => 1
  | .ptr d => uptoBulk d + 1
  | .slice elems spare => uptoBulkAll elems + uptoBulkAll spare + 1
  | .agg parts => uptoBulkAll parts + 1
  | .iface _ d => uptoBulk d + 1
  | .map entries => uptoBulkEntries entries + 1
  | .held _ => 1
def uptoBulkAll {H : Type} : List (DataW H) → Nat
  | [] => 0
  | d :: r => uptoBulk d + uptoBulkAll r
def uptoBulkEntries {H : Type} : List (Lit × DataW H) → Nat
  | [] => 0
  | x :: r => uptoBulkEntry x + uptoBulkEntries r
def uptoBulkEntry {H : Type} : Lit × DataW H → Nat
  | (.string bytes, d) => bytes.length + uptoBulk d + 1
  | (_, d) => uptoBulk d + 1
 end
def uptoSmall : (H : Type) → List (DataW H) → Bool := fun _ ds => decide (uptoBulkAll ds ≤ 1048576)
def OpenSpec.upto (s : _root_.Go.ChangeSpec) : _root_.Go.OpenSpec := { _root_.Go.OpenSpec.ofChange s with cond := some uptoSmall }

/-- 'laws.FnLags', WHERE WHAT IT READS IS OF BULK AT MOST 1048576: true; the input reads as it did. -/
def fnLagsUptoRow : OpenClaim := { program := "ytmgoblppedmdhaa", sum := "56a2e0bf94911676f9c210efe5e9a8e594580e91159a95ed52a9cd9f6937729c", func := "loop.example/g01201/laws.FnLags", spec := "fnLags", apart := false, narrowed := true }
def FnLagsUptoSaid : Prop := fnLagsUptoRow.holds Try.pinned (OpenSpec.upto fnLagsSpec)

/-- 'laws.FnShares', WHERE WHAT IT READS IS OF BULK AT MOST 1048576: true; the input reads as it did. -/
def fnSharesUptoRow : OpenClaim := { program := "ytmgoblppedmdhaa", sum := "56a2e0bf94911676f9c210efe5e9a8e594580e91159a95ed52a9cd9f6937729c", func := "loop.example/g01201/laws.FnShares", spec := "fnShares", inPlace := ["math.Float64frombits", "math.Float64bits"], unfollowed := true, recurses := true, apart := false, narrowed := true }
def FnSharesUptoSaid : Prop := fnSharesUptoRow.holds Try.pinned (OpenSpec.upto fnSharesSpec)

/-- 'laws.FnBinsCut', WHERE WHAT IT READS IS OF BULK AT MOST 1048576: true; the input reads as it did. -/
def fnBinsCutUptoRow : OpenClaim := { program := "ytmgoblppedmdhaa", sum := "56a2e0bf94911676f9c210efe5e9a8e594580e91159a95ed52a9cd9f6937729c", func := "loop.example/g01201/laws.FnBinsCut", spec := "fnBinsCut", inPlace := ["math.Float32frombits", "math.Float64frombits", "math.Float64bits"], unfollowed := true, recurses := true, apart := false, narrowed := true }
def FnBinsCutUptoSaid : Prop := fnBinsCutUptoRow.holds Try.pinned (OpenSpec.upto fnBinsCutSpec)

/-- 'laws.FnSpectraAdded', WHERE WHAT IT READS IS OF BULK AT MOST 1048576: true; the input reads as it did. -/
def fnSpectraAddedUptoRow : OpenClaim := { program := "ytmgoblppedmdhaa", sum := "56a2e0bf94911676f9c210efe5e9a8e594580e91159a95ed52a9cd9f6937729c", func := "loop.example/g01201/laws.FnSpectraAdded", spec := "fnSpectraAdded", inPlace := ["math.Float64frombits", "math.Float64bits", "math.sqrt"], apart := false, narrowed := true }
def FnSpectraAddedUptoSaid : Prop := fnSpectraAddedUptoRow.holds Try.pinned (OpenSpec.upto fnSpectraAddedSpec)

/-- 'laws.FnGraded', WHERE WHAT IT READS IS OF BULK AT MOST 1048576: true; the input reads as it did. -/
def fnGradedUptoRow : OpenClaim := { program := "ytmgoblppedmdhaa", sum := "56a2e0bf94911676f9c210efe5e9a8e594580e91159a95ed52a9cd9f6937729c", func := "loop.example/g01201/laws.FnGraded", spec := "fnGraded", inPlace := ["math.Float32frombits", "math.Float32bits"], unfollowed := true, recurses := true, apart := false, narrowed := true }
def FnGradedUptoSaid : Prop := fnGradedUptoRow.holds Try.pinned (OpenSpec.upto fnGradedSpec)

/-- 'laws.FnExactHaloRows', WHERE WHAT IT READS IS OF BULK AT MOST 1048576: true; the input reads as it did. -/
def fnExactHaloRowsUptoRow : OpenClaim := { program := "ytmgoblppedmdhaa", sum := "56a2e0bf94911676f9c210efe5e9a8e594580e91159a95ed52a9cd9f6937729c", func := "loop.example/g01201/laws.FnExactHaloRows", spec := "fnExactHaloRows", recurses := true, apart := false, narrowed := true }
def FnExactHaloRowsUptoSaid : Prop := fnExactHaloRowsUptoRow.holds Try.pinned (OpenSpec.upto fnExactHaloRowsSpec)

/-- 'laws.FnSpectra', WHERE WHAT IT READS IS OF BULK AT MOST 1048576: true; the input reads as it did. -/
def fnSpectraUptoRow : OpenClaim := { program := "ytmgoblppedmdhaa", sum := "56a2e0bf94911676f9c210efe5e9a8e594580e91159a95ed52a9cd9f6937729c", func := "loop.example/g01201/laws.FnSpectra", spec := "fnSpectra", inPlace := ["math.Float64frombits", "math.Float64bits", "math.sqrt"], unfollowed := true, recurses := true, apart := false, narrowed := true }
def FnSpectraUptoSaid : Prop := fnSpectraUptoRow.holds Try.pinned (OpenSpec.upto fnSpectraSpec)

/-- 'laws.FnExactMessagesOf', WHERE WHAT IT READS IS OF BULK AT MOST 1048576: true; the input reads as it did. -/
def fnExactMessagesOfUptoRow : OpenClaim := { program := "ytmgoblppedmdhaa", sum := "56a2e0bf94911676f9c210efe5e9a8e594580e91159a95ed52a9cd9f6937729c", func := "loop.example/g01201/laws.FnExactMessagesOf", spec := "fnExactMessagesOf", unfollowed := true, recurses := true, apart := false, narrowed := true }
def FnExactMessagesOfUptoSaid : Prop := fnExactMessagesOfUptoRow.holds Try.pinned (OpenSpec.upto fnExactMessagesOfSpec)

end Rows
end Go.Proofs.Ytmgoblppedmdhaa
