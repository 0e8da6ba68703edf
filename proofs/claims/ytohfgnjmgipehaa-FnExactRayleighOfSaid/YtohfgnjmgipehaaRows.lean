/-
  No cell of these rows narrows 'for every input' (looked for: loops, veiled, ifaces, maps, wideKeys, modest, calm, conditions, laid).
  DERIVED. THE GIVEN ROWS OF THIS SEAT. 15 by the template 'for every input the law returns true; each argument reads behind the call as it read before'; 0 by the template 'total and deterministic' (their statements: YtohfgnjmgipehaaTotals.lean).
  GIVEN WITH THE SEED: the statements are not yours to turn. If you find one false, say at which input.
  Laid BY PROGRAM, IN A SANDBOX (cutbox-rows.mjs): the forced cells as the released guide's own fill.sh prints them over the translation 3d6d37021af4ce92… (all of the seat's roots in one cut). By AI agents, Wed Nov 11 2026. No macro, syntax, notation, axiom, sorry.
-/
import Derived.Test.YtohfgnjmgipehaaChecked
import GoSem.Claim
import GoSem.ClaimJoined
import GoSem.ClaimMapViews
import Derived.JoinedTies
import Derived.KernelRfl
namespace Go.Proofs.Ytohfgnjmgipehaa
/- THE CELL 'sum', in the pinned program and in every row, IS THE sha256 OF THE DUMP (.gsa) THAT YtohfgnjmgipehaaProg.lean LOADS. Nothing in Lean hashes anything: it is a label: what it is worth is what the hold of that sum in a sandbox is worth. -/
noncomputable def Try.pinned : Pinned := { name := "ytohfgnjmgipehaa", sum := "3d6d37021af4ce920b037e7f745c56aaa44f216bfb368f4280b986ad48a3229e", checked := Try.checked }
namespace Rows
def none {H : Type} : Left H := { results := [], args := [] }

/-- 'laws.FnExactIsStrip': WHATEVER THE INPUT: true; the input reads as it did. -/
def fnExactIsStripSpec : ChangeSpec := { name := "fnExactIsStrip", fn := fun _ => fun
  | [d1, d2] => { results := [.lit (.bool true)], args := [d1, d2] }
  | _ => none }
def fnExactIsStripRow : OpenClaim := { program := "ytohfgnjmgipehaa", sum := "3d6d37021af4ce920b037e7f745c56aaa44f216bfb368f4280b986ad48a3229e", func := "loop.example/g01201/laws.FnExactIsStrip", spec := "fnExactIsStrip", apart := false }
def FnExactIsStripSaid : Prop := fnExactIsStripRow.holds Try.pinned (OpenSpec.ofChange fnExactIsStripSpec)

/-- ITS FALSE NEIGHBOUR: 'it returns false'. Refute it at one input. -/
def fnExactIsStripWrong : ChangeSpec := { name := "fnExactIsStrip", fn := fun _ => fun
  | [d1, d2] => { results := [.lit (.bool false)], args := [d1, d2] }
  | _ => none }
def FnExactIsStripWrongFalsely : Prop := fnExactIsStripRow.holds Try.pinned (OpenSpec.ofChange fnExactIsStripWrong)

/-- 'laws.FnExactWindowOf': WHATEVER THE INPUT: true; the input reads as it did. -/
def fnExactWindowOfSpec : ChangeSpec := { name := "fnExactWindowOf", fn := fun _ => fun
  | [d1, d2] => { results := [.lit (.bool true)], args := [d1, d2] }
  | _ => none }
def fnExactWindowOfRow : OpenClaim := { program := "ytohfgnjmgipehaa", sum := "3d6d37021af4ce920b037e7f745c56aaa44f216bfb368f4280b986ad48a3229e", func := "loop.example/g01201/laws.FnExactWindowOf", spec := "fnExactWindowOf", inPlace := ["math.Float64frombits", "math.Float64bits"], apart := false }
def FnExactWindowOfSaid : Prop := fnExactWindowOfRow.holds Try.pinned (OpenSpec.ofChange fnExactWindowOfSpec)

/-- ITS FALSE NEIGHBOUR: 'it returns false'. Refute it at one input. -/
def fnExactWindowOfWrong : ChangeSpec := { name := "fnExactWindowOf", fn := fun _ => fun
  | [d1, d2] => { results := [.lit (.bool false)], args := [d1, d2] }
  | _ => none }
def FnExactWindowOfWrongFalsely : Prop := fnExactWindowOfRow.holds Try.pinned (OpenSpec.ofChange fnExactWindowOfWrong)

/-- 'laws.FnExactBinOf': WHATEVER THE INPUT: true; the input reads as it did. -/
def fnExactBinOfSpec : ChangeSpec := { name := "fnExactBinOf", fn := fun _ => fun
  | [d1, d2] => { results := [.lit (.bool true)], args := [d1, d2] }
  | _ => none }
def fnExactBinOfRow : OpenClaim := { program := "ytohfgnjmgipehaa", sum := "3d6d37021af4ce920b037e7f745c56aaa44f216bfb368f4280b986ad48a3229e", func := "loop.example/g01201/laws.FnExactBinOf", spec := "fnExactBinOf", inPlace := ["math.Float32frombits", "math.Float64frombits", "math.Float64bits"], apart := false }
def FnExactBinOfSaid : Prop := fnExactBinOfRow.holds Try.pinned (OpenSpec.ofChange fnExactBinOfSpec)

/-- ITS FALSE NEIGHBOUR: 'it returns false'. Refute it at one input. -/
def fnExactBinOfWrong : ChangeSpec := { name := "fnExactBinOf", fn := fun _ => fun
  | [d1, d2] => { results := [.lit (.bool false)], args := [d1, d2] }
  | _ => none }
def FnExactBinOfWrongFalsely : Prop := fnExactBinOfRow.holds Try.pinned (OpenSpec.ofChange fnExactBinOfWrong)

/-- 'laws.FnExactFluxThrough': WHATEVER THE INPUT: true; the input reads as it did. -/
def fnExactFluxThroughSpec : ChangeSpec := { name := "fnExactFluxThrough", fn := fun _ => fun
  | [d1, d2, d3] => { results := [.lit (.bool true)], args := [d1, d2, d3] }
  | _ => none }
def fnExactFluxThroughRow : OpenClaim := { program := "ytohfgnjmgipehaa", sum := "3d6d37021af4ce920b037e7f745c56aaa44f216bfb368f4280b986ad48a3229e", func := "loop.example/g01201/laws.FnExactFluxThrough", spec := "fnExactFluxThrough", apart := false }
def FnExactFluxThroughSaid : Prop := fnExactFluxThroughRow.holds Try.pinned (OpenSpec.ofChange fnExactFluxThroughSpec)

/-- ITS FALSE NEIGHBOUR: 'it returns false'. Refute it at one input. -/
def fnExactFluxThroughWrong : ChangeSpec := { name := "fnExactFluxThrough", fn := fun _ => fun
  | [d1, d2, d3] => { results := [.lit (.bool false)], args := [d1, d2, d3] }
  | _ => none }
def FnExactFluxThroughWrongFalsely : Prop := fnExactFluxThroughRow.holds Try.pinned (OpenSpec.ofChange fnExactFluxThroughWrong)

/-- 'laws.FnExactTimesWindow': WHATEVER THE INPUT: true; the input reads as it did. -/
def fnExactTimesWindowSpec : ChangeSpec := { name := "fnExactTimesWindow", fn := fun _ => fun
  | [d1, d2] => { results := [.lit (.bool true)], args := [d1, d2] }
  | _ => none }
def fnExactTimesWindowRow : OpenClaim := { program := "ytohfgnjmgipehaa", sum := "3d6d37021af4ce920b037e7f745c56aaa44f216bfb368f4280b986ad48a3229e", func := "loop.example/g01201/laws.FnExactTimesWindow", spec := "fnExactTimesWindow", unfollowed := true, recurses := true, apart := false }
def FnExactTimesWindowSaid : Prop := fnExactTimesWindowRow.holds Try.pinned (OpenSpec.ofChange fnExactTimesWindowSpec)

/-- ITS FALSE NEIGHBOUR: 'it returns false'. Refute it at one input. -/
def fnExactTimesWindowWrong : ChangeSpec := { name := "fnExactTimesWindow", fn := fun _ => fun
  | [d1, d2] => { results := [.lit (.bool false)], args := [d1, d2] }
  | _ => none }
def FnExactTimesWindowWrongFalsely : Prop := fnExactTimesWindowRow.holds Try.pinned (OpenSpec.ofChange fnExactTimesWindowWrong)

/-- 'laws.FnExactStillCells': WHATEVER THE INPUT: true; the input reads as it did. -/
def fnExactStillCellsSpec : ChangeSpec := { name := "fnExactStillCells", fn := fun _ => fun
  | [d] => { results := [.lit (.bool true)], args := [d] }
  | _ => none }
def fnExactStillCellsRow : OpenClaim := { program := "ytohfgnjmgipehaa", sum := "3d6d37021af4ce920b037e7f745c56aaa44f216bfb368f4280b986ad48a3229e", func := "loop.example/g01201/laws.FnExactStillCells", spec := "fnExactStillCells", unfollowed := true, recurses := true, apart := false }
def FnExactStillCellsSaid : Prop := fnExactStillCellsRow.holds Try.pinned (OpenSpec.ofChange fnExactStillCellsSpec)

/-- ITS FALSE NEIGHBOUR: 'it returns false'. Refute it at one input. -/
def fnExactStillCellsWrong : ChangeSpec := { name := "fnExactStillCells", fn := fun _ => fun
  | [d] => { results := [.lit (.bool false)], args := [d] }
  | _ => none }
def FnExactStillCellsWrongFalsely : Prop := fnExactStillCellsRow.holds Try.pinned (OpenSpec.ofChange fnExactStillCellsWrong)

/-- 'laws.FnExactChannelSheet': WHATEVER THE INPUT: true; the input reads as it did. -/
def fnExactChannelSheetSpec : ChangeSpec := { name := "fnExactChannelSheet", fn := fun _ => fun
  | [d1, d2, d3] => { results := [.lit (.bool true)], args := [d1, d2, d3] }
  | _ => none }
def fnExactChannelSheetRow : OpenClaim := { program := "ytohfgnjmgipehaa", sum := "3d6d37021af4ce920b037e7f745c56aaa44f216bfb368f4280b986ad48a3229e", func := "loop.example/g01201/laws.FnExactChannelSheet", spec := "fnExactChannelSheet", unfollowed := true, recurses := true, apart := false }
def FnExactChannelSheetSaid : Prop := fnExactChannelSheetRow.holds Try.pinned (OpenSpec.ofChange fnExactChannelSheetSpec)

/-- ITS FALSE NEIGHBOUR: 'it returns false'. Refute it at one input. -/
def fnExactChannelSheetWrong : ChangeSpec := { name := "fnExactChannelSheet", fn := fun _ => fun
  | [d1, d2, d3] => { results := [.lit (.bool false)], args := [d1, d2, d3] }
  | _ => none }
def FnExactChannelSheetWrongFalsely : Prop := fnExactChannelSheetRow.holds Try.pinned (OpenSpec.ofChange fnExactChannelSheetWrong)

/-- 'laws.FnExactStripsOf': WHATEVER THE INPUT: true; the input reads as it did. -/
def fnExactStripsOfSpec : ChangeSpec := { name := "fnExactStripsOf", fn := fun _ => fun
  | [d1, d2] => { results := [.lit (.bool true)], args := [d1, d2] }
  | _ => none }
def fnExactStripsOfRow : OpenClaim := { program := "ytohfgnjmgipehaa", sum := "3d6d37021af4ce920b037e7f745c56aaa44f216bfb368f4280b986ad48a3229e", func := "loop.example/g01201/laws.FnExactStripsOf", spec := "fnExactStripsOf", apart := false }
def FnExactStripsOfSaid : Prop := fnExactStripsOfRow.holds Try.pinned (OpenSpec.ofChange fnExactStripsOfSpec)

/-- ITS FALSE NEIGHBOUR: 'it returns false'. Refute it at one input. -/
def fnExactStripsOfWrong : ChangeSpec := { name := "fnExactStripsOf", fn := fun _ => fun
  | [d1, d2] => { results := [.lit (.bool false)], args := [d1, d2] }
  | _ => none }
def FnExactStripsOfWrongFalsely : Prop := fnExactStripsOfRow.holds Try.pinned (OpenSpec.ofChange fnExactStripsOfWrong)

/-- 'laws.FnExactFillRect': WHATEVER THE INPUT: true; the input reads as it did. -/
def fnExactFillRectSpec : ChangeSpec := { name := "fnExactFillRect", fn := fun _ => fun
  | [d1, d2, d3, d4] => { results := [.lit (.bool true)], args := [d1, d2, d3, d4] }
  | _ => none }
def fnExactFillRectRow : OpenClaim := { program := "ytohfgnjmgipehaa", sum := "3d6d37021af4ce920b037e7f745c56aaa44f216bfb368f4280b986ad48a3229e", func := "loop.example/g01201/laws.FnExactFillRect", spec := "fnExactFillRect", unfollowed := true, recurses := true, apart := false }
def FnExactFillRectSaid : Prop := fnExactFillRectRow.holds Try.pinned (OpenSpec.ofChange fnExactFillRectSpec)

/-- ITS FALSE NEIGHBOUR: 'it returns false'. Refute it at one input. -/
def fnExactFillRectWrong : ChangeSpec := { name := "fnExactFillRect", fn := fun _ => fun
  | [d1, d2, d3, d4] => { results := [.lit (.bool false)], args := [d1, d2, d3, d4] }
  | _ => none }
def FnExactFillRectWrongFalsely : Prop := fnExactFillRectRow.holds Try.pinned (OpenSpec.ofChange fnExactFillRectWrong)

/-- 'laws.FnExactGradeLosses': WHATEVER THE INPUT: true; the input reads as it did. -/
def fnExactGradeLossesSpec : ChangeSpec := { name := "fnExactGradeLosses", fn := fun _ => fun
  | [d1, d2, d3] => { results := [.lit (.bool true)], args := [d1, d2, d3] }
  | _ => none }
def fnExactGradeLossesRow : OpenClaim := { program := "ytohfgnjmgipehaa", sum := "3d6d37021af4ce920b037e7f745c56aaa44f216bfb368f4280b986ad48a3229e", func := "loop.example/g01201/laws.FnExactGradeLosses", spec := "fnExactGradeLosses", unfollowed := true, recurses := true, apart := false }
def FnExactGradeLossesSaid : Prop := fnExactGradeLossesRow.holds Try.pinned (OpenSpec.ofChange fnExactGradeLossesSpec)

/-- ITS FALSE NEIGHBOUR: 'it returns false'. Refute it at one input. -/
def fnExactGradeLossesWrong : ChangeSpec := { name := "fnExactGradeLosses", fn := fun _ => fun
  | [d1, d2, d3] => { results := [.lit (.bool false)], args := [d1, d2, d3] }
  | _ => none }
def FnExactGradeLossesWrongFalsely : Prop := fnExactGradeLossesRow.holds Try.pinned (OpenSpec.ofChange fnExactGradeLossesWrong)

/-- 'laws.FnExactSlitSheet': WHATEVER THE INPUT: true; the input reads as it did. -/
def fnExactSlitSheetSpec : ChangeSpec := { name := "fnExactSlitSheet", fn := fun _ => fun
  | [d1, d2, d3] => { results := [.lit (.bool true)], args := [d1, d2, d3] }
  | _ => none }
def fnExactSlitSheetRow : OpenClaim := { program := "ytohfgnjmgipehaa", sum := "3d6d37021af4ce920b037e7f745c56aaa44f216bfb368f4280b986ad48a3229e", func := "loop.example/g01201/laws.FnExactSlitSheet", spec := "fnExactSlitSheet", unfollowed := true, recurses := true, apart := false }
def FnExactSlitSheetSaid : Prop := fnExactSlitSheetRow.holds Try.pinned (OpenSpec.ofChange fnExactSlitSheetSpec)

/-- ITS FALSE NEIGHBOUR: 'it returns false'. Refute it at one input. -/
def fnExactSlitSheetWrong : ChangeSpec := { name := "fnExactSlitSheet", fn := fun _ => fun
  | [d1, d2, d3] => { results := [.lit (.bool false)], args := [d1, d2, d3] }
  | _ => none }
def FnExactSlitSheetWrongFalsely : Prop := fnExactSlitSheetRow.holds Try.pinned (OpenSpec.ofChange fnExactSlitSheetWrong)

/-- 'laws.FnExactCutStrip': WHATEVER THE INPUT: true; the input reads as it did. -/
def fnExactCutStripSpec : ChangeSpec := { name := "fnExactCutStrip", fn := fun _ => fun
  | [d1, d2, d3] => { results := [.lit (.bool true)], args := [d1, d2, d3] }
  | _ => none }
def fnExactCutStripRow : OpenClaim := { program := "ytohfgnjmgipehaa", sum := "3d6d37021af4ce920b037e7f745c56aaa44f216bfb368f4280b986ad48a3229e", func := "loop.example/g01201/laws.FnExactCutStrip", spec := "fnExactCutStrip", apart := false }
def FnExactCutStripSaid : Prop := fnExactCutStripRow.holds Try.pinned (OpenSpec.ofChange fnExactCutStripSpec)

/-- ITS FALSE NEIGHBOUR: 'it returns false'. Refute it at one input. -/
def fnExactCutStripWrong : ChangeSpec := { name := "fnExactCutStrip", fn := fun _ => fun
  | [d1, d2, d3] => { results := [.lit (.bool false)], args := [d1, d2, d3] }
  | _ => none }
def FnExactCutStripWrongFalsely : Prop := fnExactCutStripRow.holds Try.pinned (OpenSpec.ofChange fnExactCutStripWrong)

/-- 'laws.FnExactRayleighOf': WHATEVER THE INPUT: true; the input reads as it did. -/
def fnExactRayleighOfSpec : ChangeSpec := { name := "fnExactRayleighOf", fn := fun _ => fun
  | [d1, d2] => { results := [.lit (.bool true)], args := [d1, d2] }
  | _ => none }
def fnExactRayleighOfRow : OpenClaim := { program := "ytohfgnjmgipehaa", sum := "3d6d37021af4ce920b037e7f745c56aaa44f216bfb368f4280b986ad48a3229e", func := "loop.example/g01201/laws.FnExactRayleighOf", spec := "fnExactRayleighOf", unfollowed := true, recurses := true, apart := false }
def FnExactRayleighOfSaid : Prop := fnExactRayleighOfRow.holds Try.pinned (OpenSpec.ofChange fnExactRayleighOfSpec)

/-- ITS FALSE NEIGHBOUR: 'it returns false'. Refute it at one input. -/
def fnExactRayleighOfWrong : ChangeSpec := { name := "fnExactRayleighOf", fn := fun _ => fun
  | [d1, d2] => { results := [.lit (.bool false)], args := [d1, d2] }
  | _ => none }
def FnExactRayleighOfWrongFalsely : Prop := fnExactRayleighOfRow.holds Try.pinned (OpenSpec.ofChange fnExactRayleighOfWrong)

/-- 'laws.FnExactRampField': WHATEVER THE INPUT: true; the input reads as it did. -/
def fnExactRampFieldSpec : ChangeSpec := { name := "fnExactRampField", fn := fun _ => fun
  | [d1, d2, d3] => { results := [.lit (.bool true)], args := [d1, d2, d3] }
  | _ => none }
def fnExactRampFieldRow : OpenClaim := { program := "ytohfgnjmgipehaa", sum := "3d6d37021af4ce920b037e7f745c56aaa44f216bfb368f4280b986ad48a3229e", func := "loop.example/g01201/laws.FnExactRampField", spec := "fnExactRampField", unfollowed := true, recurses := true, apart := false }
def FnExactRampFieldSaid : Prop := fnExactRampFieldRow.holds Try.pinned (OpenSpec.ofChange fnExactRampFieldSpec)

/-- ITS FALSE NEIGHBOUR: 'it returns false'. Refute it at one input. -/
def fnExactRampFieldWrong : ChangeSpec := { name := "fnExactRampField", fn := fun _ => fun
  | [d1, d2, d3] => { results := [.lit (.bool false)], args := [d1, d2, d3] }
  | _ => none }
def FnExactRampFieldWrongFalsely : Prop := fnExactRampFieldRow.holds Try.pinned (OpenSpec.ofChange fnExactRampFieldWrong)

/-- 'laws.FnExactClearRect': WHATEVER THE INPUT: true; the input reads as it did. -/
def fnExactClearRectSpec : ChangeSpec := { name := "fnExactClearRect", fn := fun _ => fun
  | [d1, d2, d3] => { results := [.lit (.bool true)], args := [d1, d2, d3] }
  | _ => none }
def fnExactClearRectRow : OpenClaim := { program := "ytohfgnjmgipehaa", sum := "3d6d37021af4ce920b037e7f745c56aaa44f216bfb368f4280b986ad48a3229e", func := "loop.example/g01201/laws.FnExactClearRect", spec := "fnExactClearRect", unfollowed := true, recurses := true, apart := false }
def FnExactClearRectSaid : Prop := fnExactClearRectRow.holds Try.pinned (OpenSpec.ofChange fnExactClearRectSpec)

/-- ITS FALSE NEIGHBOUR: 'it returns false'. Refute it at one input. -/
def fnExactClearRectWrong : ChangeSpec := { name := "fnExactClearRect", fn := fun _ => fun
  | [d1, d2, d3] => { results := [.lit (.bool false)], args := [d1, d2, d3] }
  | _ => none }
def FnExactClearRectWrongFalsely : Prop := fnExactClearRectRow.holds Try.pinned (OpenSpec.ofChange fnExactClearRectWrong)

/- THE SECOND FORM. 'bulk': how many values and letters a reading holds, each counted each time it is reached (what is shared counts as often as it is met; a slice's spare places count too). A statement '..UptoSaid' is the law's where the arguments, and the package variables that the reading takes, are together of bulk at most 1048576: NARROWER than '..Said'. Prove '..Said' where nothing that the law and all that it calls make is longer than what came in: it says more and counts as full. Else prove '..UptoSaid'. A law counts once. -/
mutual
def uptoBulk {H : Type} : DataW H → Nat
  | .lit (.string bytes) => bytes.length + 1
  | .lit _ => 1
  | .nil => 1
  | .ptr d => uptoBulk d + 1
  | .slice elems spare => uptoBulkAll elems + uptoBulkAll spare + 1
  | .agg parts => uptoBulkAll parts + 1
  | .iface _ d => uptoBulk d + 1
  | .map entries => uptoBulkEntries entries + 1
  | .held _ => 1
def uptoBulkAll {H : Type} : List (DataW H) → Nat
  | [] => 0
  | d :: r => uptoBulk d + uptoBulkAll r
def uptoBulkEntries {H : Type} : List (Lit × DataW H) → Nat
  | [] => 0
  | x :: r => uptoBulkEntry x + uptoBulkEntries r
def uptoBulkEntry {H : Type} : Lit × DataW H → Nat
  | (.string bytes, d) => bytes.length + uptoBulk d + 1
  | (_, d) => uptoBulk d + 1
 end
def uptoSmall : (H : Type) → List (DataW H) → Bool := fun _ ds => decide (uptoBulkAll ds ≤ 1048576)
def OpenSpec.upto (s : _root_.Go.ChangeSpec) : _root_.Go.OpenSpec := { _root_.Go.OpenSpec.ofChange s with cond := some uptoSmall }

/-- 'laws.FnExactIsStrip', WHERE WHAT IT READS IS OF BULK AT MOST 1048576: true; the input reads as it did. -/
def fnExactIsStripUptoRow : OpenClaim := { program := "ytohfgnjmgipehaa", sum := "3d6d37021af4ce920b037e7f745c56aaa44f216bfb368f4280b986ad48a3229e", func := "loop.example/g01201/laws.FnExactIsStrip", spec := "fnExactIsStrip", apart := false, narrowed := true }
def FnExactIsStripUptoSaid : Prop := fnExactIsStripUptoRow.holds Try.pinned (OpenSpec.upto fnExactIsStripSpec)

/-- 'laws.FnExactWindowOf', WHERE WHAT IT READS IS OF BULK AT MOST 1048576: true; the input reads as it did. -/
def fnExactWindowOfUptoRow : OpenClaim := { program := "ytohfgnjmgipehaa", sum := "3d6d37021af4ce920b037e7f745c56aaa44f216bfb368f4280b986ad48a3229e", func := "loop.example/g01201/laws.FnExactWindowOf", spec := "fnExactWindowOf", inPlace := ["math.Float64frombits", "math.Float64bits"], apart := false, narrowed := true }
def FnExactWindowOfUptoSaid : Prop := fnExactWindowOfUptoRow.holds Try.pinned (OpenSpec.upto fnExactWindowOfSpec)

/-- 'laws.FnExactBinOf', WHERE WHAT IT READS IS OF BULK AT MOST 1048576: true; the input reads as it did. -/
def fnExactBinOfUptoRow : OpenClaim := { program := "ytohfgnjmgipehaa", sum := "3d6d37021af4ce920b037e7f745c56aaa44f216bfb368f4280b986ad48a3229e", func := "loop.example/g01201/laws.FnExactBinOf", spec := "fnExactBinOf", inPlace := ["math.Float32frombits", "math.Float64frombits", "math.Float64bits"], apart := false, narrowed := true }
def FnExactBinOfUptoSaid : Prop := fnExactBinOfUptoRow.holds Try.pinned (OpenSpec.upto fnExactBinOfSpec)

/-- 'laws.FnExactFluxThrough', WHERE WHAT IT READS IS OF BULK AT MOST 1048576: true; the input reads as it did. -/
def fnExactFluxThroughUptoRow : OpenClaim := { program := "ytohfgnjmgipehaa", sum := "3d6d37021af4ce920b037e7f745c56aaa44f216bfb368f4280b986ad48a3229e", func := "loop.example/g01201/laws.FnExactFluxThrough", spec := "fnExactFluxThrough", apart := false, narrowed := true }
def FnExactFluxThroughUptoSaid : Prop := fnExactFluxThroughUptoRow.holds Try.pinned (OpenSpec.upto fnExactFluxThroughSpec)

/-- 'laws.FnExactTimesWindow', WHERE WHAT IT READS IS OF BULK AT MOST 1048576: true; the input reads as it did. -/
def fnExactTimesWindowUptoRow : OpenClaim := { program := "ytohfgnjmgipehaa", sum := "3d6d37021af4ce920b037e7f745c56aaa44f216bfb368f4280b986ad48a3229e", func := "loop.example/g01201/laws.FnExactTimesWindow", spec := "fnExactTimesWindow", unfollowed := true, recurses := true, apart := false, narrowed := true }
def FnExactTimesWindowUptoSaid : Prop := fnExactTimesWindowUptoRow.holds Try.pinned (OpenSpec.upto fnExactTimesWindowSpec)

/-- 'laws.FnExactStillCells', WHERE WHAT IT READS IS OF BULK AT MOST 1048576: true; the input reads as it did. -/
def fnExactStillCellsUptoRow : OpenClaim := { program := "ytohfgnjmgipehaa", sum := "3d6d37021af4ce920b037e7f745c56aaa44f216bfb368f4280b986ad48a3229e", func := "loop.example/g01201/laws.FnExactStillCells", spec := "fnExactStillCells", unfollowed := true, recurses := true, apart := false, narrowed := true }
def FnExactStillCellsUptoSaid : Prop := fnExactStillCellsUptoRow.holds Try.pinned (OpenSpec.upto fnExactStillCellsSpec)

/-- 'laws.FnExactChannelSheet', WHERE WHAT IT READS IS OF BULK AT MOST 1048576: true; the input reads as it did. -/
def fnExactChannelSheetUptoRow : OpenClaim := { program := "ytohfgnjmgipehaa", sum := "3d6d37021af4ce920b037e7f745c56aaa44f216bfb368f4280b986ad48a3229e", func := "loop.example/g01201/laws.FnExactChannelSheet", spec := "fnExactChannelSheet", unfollowed := true, recurses := true, apart := false, narrowed := true }
def FnExactChannelSheetUptoSaid : Prop := fnExactChannelSheetUptoRow.holds Try.pinned (OpenSpec.upto fnExactChannelSheetSpec)

/-- 'laws.FnExactStripsOf', WHERE WHAT IT READS IS OF BULK AT MOST 1048576: true; the input reads as it did. -/
def fnExactStripsOfUptoRow : OpenClaim := { program := "ytohfgnjmgipehaa", sum := "3d6d37021af4ce920b037e7f745c56aaa44f216bfb368f4280b986ad48a3229e", func := "loop.example/g01201/laws.FnExactStripsOf", spec := "fnExactStripsOf", apart := false, narrowed := true }
def FnExactStripsOfUptoSaid : Prop := fnExactStripsOfUptoRow.holds Try.pinned (OpenSpec.upto fnExactStripsOfSpec)

/-- 'laws.FnExactFillRect', WHERE WHAT IT READS IS OF BULK AT MOST 1048576: true; the input reads as it did. -/
def fnExactFillRectUptoRow : OpenClaim := { program := "ytohfgnjmgipehaa", sum := "3d6d37021af4ce920b037e7f745c56aaa44f216bfb368f4280b986ad48a3229e", func := "loop.example/g01201/laws.FnExactFillRect", spec := "fnExactFillRect", unfollowed := true, recurses := true, apart := false, narrowed := true }
def FnExactFillRectUptoSaid : Prop := fnExactFillRectUptoRow.holds Try.pinned (OpenSpec.upto fnExactFillRectSpec)

/-- 'laws.FnExactGradeLosses', WHERE WHAT IT READS IS OF BULK AT MOST 1048576: true; the input reads as it did. -/
def fnExactGradeLossesUptoRow : OpenClaim := { program := "ytohfgnjmgipehaa", sum := "3d6d37021af4ce920b037e7f745c56aaa44f216bfb368f4280b986ad48a3229e", func := "loop.example/g01201/laws.FnExactGradeLosses", spec := "fnExactGradeLosses", unfollowed := true, recurses := true, apart := false, narrowed := true }
def FnExactGradeLossesUptoSaid : Prop := fnExactGradeLossesUptoRow.holds Try.pinned (OpenSpec.upto fnExactGradeLossesSpec)

/-- 'laws.FnExactSlitSheet', WHERE WHAT IT READS IS OF BULK AT MOST 1048576: true; the input reads as it did. -/
def fnExactSlitSheetUptoRow : OpenClaim := { program := "ytohfgnjmgipehaa", sum := "3d6d37021af4ce920b037e7f745c56aaa44f216bfb368f4280b986ad48a3229e", func := "loop.example/g01201/laws.FnExactSlitSheet", spec := "fnExactSlitSheet", unfollowed := true, recurses := true, apart := false, narrowed := true }
def FnExactSlitSheetUptoSaid : Prop := fnExactSlitSheetUptoRow.holds Try.pinned (OpenSpec.upto fnExactSlitSheetSpec)

/-- 'laws.FnExactCutStrip', WHERE WHAT IT READS IS OF BULK AT MOST 1048576: true; the input reads as it did. -/
def fnExactCutStripUptoRow : OpenClaim := { program := "ytohfgnjmgipehaa", sum := "3d6d37021af4ce920b037e7f745c56aaa44f216bfb368f4280b986ad48a3229e", func := "loop.example/g01201/laws.FnExactCutStrip", spec := "fnExactCutStrip", apart := false, narrowed := true }
def FnExactCutStripUptoSaid : Prop := fnExactCutStripUptoRow.holds Try.pinned (OpenSpec.upto fnExactCutStripSpec)

/-- 'laws.FnExactRayleighOf', WHERE WHAT IT READS IS OF BULK AT MOST 1048576: true; the input reads as it did. -/
def fnExactRayleighOfUptoRow : OpenClaim := { program := "ytohfgnjmgipehaa", sum := "3d6d37021af4ce920b037e7f745c56aaa44f216bfb368f4280b986ad48a3229e", func := "loop.example/g01201/laws.FnExactRayleighOf", spec := "fnExactRayleighOf", unfollowed := true, recurses := true, apart := false, narrowed := true }
def FnExactRayleighOfUptoSaid : Prop := fnExactRayleighOfUptoRow.holds Try.pinned (OpenSpec.upto fnExactRayleighOfSpec)

/-- 'laws.FnExactRampField', WHERE WHAT IT READS IS OF BULK AT MOST 1048576: true; the input reads as it did. -/
def fnExactRampFieldUptoRow : OpenClaim := { program := "ytohfgnjmgipehaa", sum := "3d6d37021af4ce920b037e7f745c56aaa44f216bfb368f4280b986ad48a3229e", func := "loop.example/g01201/laws.FnExactRampField", spec := "fnExactRampField", unfollowed := true, recurses := true, apart := false, narrowed := true }
def FnExactRampFieldUptoSaid : Prop := fnExactRampFieldUptoRow.holds Try.pinned (OpenSpec.upto fnExactRampFieldSpec)

/-- 'laws.FnExactClearRect', WHERE WHAT IT READS IS OF BULK AT MOST 1048576: true; the input reads as it did. -/
def fnExactClearRectUptoRow : OpenClaim := { program := "ytohfgnjmgipehaa", sum := "3d6d37021af4ce920b037e7f745c56aaa44f216bfb368f4280b986ad48a3229e", func := "loop.example/g01201/laws.FnExactClearRect", spec := "fnExactClearRect", unfollowed := true, recurses := true, apart := false, narrowed := true }
def FnExactClearRectUptoSaid : Prop := fnExactClearRectUptoRow.holds Try.pinned (OpenSpec.upto fnExactClearRectSpec)

end Rows
end Go.Proofs.Ytohfgnjmgipehaa
