/-
  No cell of these rows narrows 'for every input' (looked for: loops, veiled, ifaces, maps, wideKeys, modest, calm, conditions, laid).
  DERIVED. THE GIVEN ROWS OF THIS SEAT. 33 by the template 'for every input the law returns true; each argument reads behind the call as it read before'; 0 by the template 'total and deterministic' (their statements: YtinpafbadbnhhaaTotals.lean).
  GIVEN WITH THE SEED: the statements are not yours to turn. If you find one false, say at which input.
  Laid BY PROGRAM, IN A SANDBOX (cutbox-rows.mjs): the forced cells as the released guide's own fill.sh prints them over the translation 3604c61b0364538a… (all of the seat's roots in one cut). By AI agents, Wed Nov 11 2026. No macro, syntax, notation, axiom, sorry.
-/
import Derived.Test.YtinpafbadbnhhaaChecked
import GoSem.Claim
import GoSem.ClaimJoined
import GoSem.ClaimMapViews
import Derived.JoinedTies
import Derived.KernelRfl
namespace Go.Proofs.Ytinpafbadbnhhaa
/- THE CELL 'sum', in the pinned program and in every row, IS THE sha256 OF THE DUMP (.gsa) THAT YtinpafbadbnhhaaProg.lean LOADS. Nothing in Lean hashes anything: it is a label: what it is worth is what the hold of that sum in a sandbox is worth. -/
noncomputable def Try.pinned : Pinned := { name := "ytinpafbadbnhhaa", sum := "3604c61b0364538aa92652e6ef6521089ed66aed5f1f3c7be2a343509a6d1ac5", checked := Try.checked }
namespace Rows
def none {H : Type} : Left H := { results := [], args := [] }

/-- 'laws.FnLags': WHATEVER THE INPUT: true; the input reads as it did. -/
def fnLagsSpec : ChangeSpec := { name := "fnLags", fn := fun _ => fun
  | [d1, d2] => { results := [.lit (.bool true)], args := [d1, d2] }
  | _ => none }
def fnLagsRow : OpenClaim := { program := "ytinpafbadbnhhaa", sum := "3604c61b0364538aa92652e6ef6521089ed66aed5f1f3c7be2a343509a6d1ac5", func := "loop.example/g01201/laws.FnLags", spec := "fnLags", apart := false }
def FnLagsSaid : Prop := fnLagsRow.holds Try.pinned (OpenSpec.ofChange fnLagsSpec)

/-- ITS FALSE NEIGHBOUR: 'it returns false'. Refute it at one input. -/
def fnLagsWrong : ChangeSpec := { name := "fnLags", fn := fun _ => fun
  | [d1, d2] => { results := [.lit (.bool false)], args := [d1, d2] }
  | _ => none }
def FnLagsWrongFalsely : Prop := fnLagsRow.holds Try.pinned (OpenSpec.ofChange fnLagsWrong)

/-- 'laws.FnExactTimesWindow': WHATEVER THE INPUT: true; the input reads as it did. -/
def fnExactTimesWindowSpec : ChangeSpec := { name := "fnExactTimesWindow", fn := fun _ => fun
  | [d1, d2] => { results := [.lit (.bool true)], args := [d1, d2] }
  | _ => none }
def fnExactTimesWindowRow : OpenClaim := { program := "ytinpafbadbnhhaa", sum := "3604c61b0364538aa92652e6ef6521089ed66aed5f1f3c7be2a343509a6d1ac5", func := "loop.example/g01201/laws.FnExactTimesWindow", spec := "fnExactTimesWindow", unfollowed := true, recurses := true, apart := false }
def FnExactTimesWindowSaid : Prop := fnExactTimesWindowRow.holds Try.pinned (OpenSpec.ofChange fnExactTimesWindowSpec)

/-- ITS FALSE NEIGHBOUR: 'it returns false'. Refute it at one input. -/
def fnExactTimesWindowWrong : ChangeSpec := { name := "fnExactTimesWindow", fn := fun _ => fun
  | [d1, d2] => { results := [.lit (.bool false)], args := [d1, d2] }
  | _ => none }
def FnExactTimesWindowWrongFalsely : Prop := fnExactTimesWindowRow.holds Try.pinned (OpenSpec.ofChange fnExactTimesWindowWrong)

/-- 'laws.FnAwake': WHATEVER THE INPUT: true; the input reads as it did. -/
def fnAwakeSpec : ChangeSpec := { name := "fnAwake", fn := fun _ => fun
  | [d1, d2] => { results := [.lit (.bool true)], args := [d1, d2] }
  | _ => none }
def fnAwakeRow : OpenClaim := { program := "ytinpafbadbnhhaa", sum := "3604c61b0364538aa92652e6ef6521089ed66aed5f1f3c7be2a343509a6d1ac5", func := "loop.example/g01201/laws.FnAwake", spec := "fnAwake", inPlace := ["math.Float32frombits", "math.Float32bits"], unfollowed := true, recurses := true, apart := false }
def FnAwakeSaid : Prop := fnAwakeRow.holds Try.pinned (OpenSpec.ofChange fnAwakeSpec)

/-- ITS FALSE NEIGHBOUR: 'it returns false'. Refute it at one input. -/
def fnAwakeWrong : ChangeSpec := { name := "fnAwake", fn := fun _ => fun
  | [d1, d2] => { results := [.lit (.bool false)], args := [d1, d2] }
  | _ => none }
def FnAwakeWrongFalsely : Prop := fnAwakeRow.holds Try.pinned (OpenSpec.ofChange fnAwakeWrong)

/-- 'laws.FnExactIsStrip': WHATEVER THE INPUT: true; the input reads as it did. -/
def fnExactIsStripSpec : ChangeSpec := { name := "fnExactIsStrip", fn := fun _ => fun
  | [d1, d2] => { results := [.lit (.bool true)], args := [d1, d2] }
  | _ => none }
def fnExactIsStripRow : OpenClaim := { program := "ytinpafbadbnhhaa", sum := "3604c61b0364538aa92652e6ef6521089ed66aed5f1f3c7be2a343509a6d1ac5", func := "loop.example/g01201/laws.FnExactIsStrip", spec := "fnExactIsStrip", apart := false }
def FnExactIsStripSaid : Prop := fnExactIsStripRow.holds Try.pinned (OpenSpec.ofChange fnExactIsStripSpec)

/-- ITS FALSE NEIGHBOUR: 'it returns false'. Refute it at one input. -/
def fnExactIsStripWrong : ChangeSpec := { name := "fnExactIsStrip", fn := fun _ => fun
  | [d1, d2] => { results := [.lit (.bool false)], args := [d1, d2] }
  | _ => none }
def FnExactIsStripWrongFalsely : Prop := fnExactIsStripRow.holds Try.pinned (OpenSpec.ofChange fnExactIsStripWrong)

/-- 'laws.FnExactWindowOf': WHATEVER THE INPUT: true; the input reads as it did. -/
def fnExactWindowOfSpec : ChangeSpec := { name := "fnExactWindowOf", fn := fun _ => fun
  | [d1, d2] => { results := [.lit (.bool true)], args := [d1, d2] }
  | _ => none }
def fnExactWindowOfRow : OpenClaim := { program := "ytinpafbadbnhhaa", sum := "3604c61b0364538aa92652e6ef6521089ed66aed5f1f3c7be2a343509a6d1ac5", func := "loop.example/g01201/laws.FnExactWindowOf", spec := "fnExactWindowOf", inPlace := ["math.Float64frombits", "math.Float64bits"], apart := false }
def FnExactWindowOfSaid : Prop := fnExactWindowOfRow.holds Try.pinned (OpenSpec.ofChange fnExactWindowOfSpec)

/-- ITS FALSE NEIGHBOUR: 'it returns false'. Refute it at one input. -/
def fnExactWindowOfWrong : ChangeSpec := { name := "fnExactWindowOf", fn := fun _ => fun
  | [d1, d2] => { results := [.lit (.bool false)], args := [d1, d2] }
  | _ => none }
def FnExactWindowOfWrongFalsely : Prop := fnExactWindowOfRow.holds Try.pinned (OpenSpec.ofChange fnExactWindowOfWrong)

/-- 'laws.FnExactTurnsOfRayleigh': WHATEVER THE INPUT: true; the input reads as it did. -/
def fnExactTurnsOfRayleighSpec : ChangeSpec := { name := "fnExactTurnsOfRayleigh", fn := fun _ => fun
  | [d] => { results := [.lit (.bool true)], args := [d] }
  | _ => none }
def fnExactTurnsOfRayleighRow : OpenClaim := { program := "ytinpafbadbnhhaa", sum := "3604c61b0364538aa92652e6ef6521089ed66aed5f1f3c7be2a343509a6d1ac5", func := "loop.example/g01201/laws.FnExactTurnsOfRayleigh", spec := "fnExactTurnsOfRayleigh", inPlace := ["math.sqrt", "math.Float64frombits", "math.Float64bits"], apart := false }
def FnExactTurnsOfRayleighSaid : Prop := fnExactTurnsOfRayleighRow.holds Try.pinned (OpenSpec.ofChange fnExactTurnsOfRayleighSpec)

/-- ITS FALSE NEIGHBOUR: 'it returns false'. Refute it at one input. -/
def fnExactTurnsOfRayleighWrong : ChangeSpec := { name := "fnExactTurnsOfRayleigh", fn := fun _ => fun
  | [d] => { results := [.lit (.bool false)], args := [d] }
  | _ => none }
def FnExactTurnsOfRayleighWrongFalsely : Prop := fnExactTurnsOfRayleighRow.holds Try.pinned (OpenSpec.ofChange fnExactTurnsOfRayleighWrong)

/-- 'laws.FnExactStillCells': WHATEVER THE INPUT: true; the input reads as it did. -/
def fnExactStillCellsSpec : ChangeSpec := { name := "fnExactStillCells", fn := fun _ => fun
  | [d] => { results := [.lit (.bool true)], args := [d] }
  | _ => none }
def fnExactStillCellsRow : OpenClaim := { program := "ytinpafbadbnhhaa", sum := "3604c61b0364538aa92652e6ef6521089ed66aed5f1f3c7be2a343509a6d1ac5", func := "loop.example/g01201/laws.FnExactStillCells", spec := "fnExactStillCells", unfollowed := true, recurses := true, apart := false }
def FnExactStillCellsSaid : Prop := fnExactStillCellsRow.holds Try.pinned (OpenSpec.ofChange fnExactStillCellsSpec)

/-- ITS FALSE NEIGHBOUR: 'it returns false'. Refute it at one input. -/
def fnExactStillCellsWrong : ChangeSpec := { name := "fnExactStillCells", fn := fun _ => fun
  | [d] => { results := [.lit (.bool false)], args := [d] }
  | _ => none }
def FnExactStillCellsWrongFalsely : Prop := fnExactStillCellsRow.holds Try.pinned (OpenSpec.ofChange fnExactStillCellsWrong)

/-- 'laws.FnExactChannelSheet': WHATEVER THE INPUT: true; the input reads as it did. -/
def fnExactChannelSheetSpec : ChangeSpec := { name := "fnExactChannelSheet", fn := fun _ => fun
  | [d1, d2, d3] => { results := [.lit (.bool true)], args := [d1, d2, d3] }
  | _ => none }
def fnExactChannelSheetRow : OpenClaim := { program := "ytinpafbadbnhhaa", sum := "3604c61b0364538aa92652e6ef6521089ed66aed5f1f3c7be2a343509a6d1ac5", func := "loop.example/g01201/laws.FnExactChannelSheet", spec := "fnExactChannelSheet", unfollowed := true, recurses := true, apart := false }
def FnExactChannelSheetSaid : Prop := fnExactChannelSheetRow.holds Try.pinned (OpenSpec.ofChange fnExactChannelSheetSpec)

/-- ITS FALSE NEIGHBOUR: 'it returns false'. Refute it at one input. -/
def fnExactChannelSheetWrong : ChangeSpec := { name := "fnExactChannelSheet", fn := fun _ => fun
  | [d1, d2, d3] => { results := [.lit (.bool false)], args := [d1, d2, d3] }
  | _ => none }
def FnExactChannelSheetWrongFalsely : Prop := fnExactChannelSheetRow.holds Try.pinned (OpenSpec.ofChange fnExactChannelSheetWrong)

/-- 'laws.FnShares': WHATEVER THE INPUT: true; the input reads as it did. -/
def fnSharesSpec : ChangeSpec := { name := "fnShares", fn := fun _ => fun
  | [d1, d2] => { results := [.lit (.bool true)], args := [d1, d2] }
  | _ => none }
def fnSharesRow : OpenClaim := { program := "ytinpafbadbnhhaa", sum := "3604c61b0364538aa92652e6ef6521089ed66aed5f1f3c7be2a343509a6d1ac5", func := "loop.example/g01201/laws.FnShares", spec := "fnShares", inPlace := ["math.Float64frombits", "math.Float64bits"], unfollowed := true, recurses := true, apart := false }
def FnSharesSaid : Prop := fnSharesRow.holds Try.pinned (OpenSpec.ofChange fnSharesSpec)

/-- ITS FALSE NEIGHBOUR: 'it returns false'. Refute it at one input. -/
def fnSharesWrong : ChangeSpec := { name := "fnShares", fn := fun _ => fun
  | [d1, d2] => { results := [.lit (.bool false)], args := [d1, d2] }
  | _ => none }
def FnSharesWrongFalsely : Prop := fnSharesRow.holds Try.pinned (OpenSpec.ofChange fnSharesWrong)

/-- 'laws.FnExactBinOf': WHATEVER THE INPUT: true; the input reads as it did. -/
def fnExactBinOfSpec : ChangeSpec := { name := "fnExactBinOf", fn := fun _ => fun
  | [d1, d2] => { results := [.lit (.bool true)], args := [d1, d2] }
  | _ => none }
def fnExactBinOfRow : OpenClaim := { program := "ytinpafbadbnhhaa", sum := "3604c61b0364538aa92652e6ef6521089ed66aed5f1f3c7be2a343509a6d1ac5", func := "loop.example/g01201/laws.FnExactBinOf", spec := "fnExactBinOf", inPlace := ["math.Float32frombits", "math.Float64frombits", "math.Float64bits"], apart := false }
def FnExactBinOfSaid : Prop := fnExactBinOfRow.holds Try.pinned (OpenSpec.ofChange fnExactBinOfSpec)

/-- ITS FALSE NEIGHBOUR: 'it returns false'. Refute it at one input. -/
def fnExactBinOfWrong : ChangeSpec := { name := "fnExactBinOf", fn := fun _ => fun
  | [d1, d2] => { results := [.lit (.bool false)], args := [d1, d2] }
  | _ => none }
def FnExactBinOfWrongFalsely : Prop := fnExactBinOfRow.holds Try.pinned (OpenSpec.ofChange fnExactBinOfWrong)

/-- 'laws.FnExactStripsOf': WHATEVER THE INPUT: true; the input reads as it did. -/
def fnExactStripsOfSpec : ChangeSpec := { name := "fnExactStripsOf", fn := fun _ => fun
  | [d1, d2] => { results := [.lit (.bool true)], args := [d1, d2] }
  | _ => none }
def fnExactStripsOfRow : OpenClaim := { program := "ytinpafbadbnhhaa", sum := "3604c61b0364538aa92652e6ef6521089ed66aed5f1f3c7be2a343509a6d1ac5", func := "loop.example/g01201/laws.FnExactStripsOf", spec := "fnExactStripsOf", apart := false }
def FnExactStripsOfSaid : Prop := fnExactStripsOfRow.holds Try.pinned (OpenSpec.ofChange fnExactStripsOfSpec)

/-- ITS FALSE NEIGHBOUR: 'it returns false'. Refute it at one input. -/
def fnExactStripsOfWrong : ChangeSpec := { name := "fnExactStripsOf", fn := fun _ => fun
  | [d1, d2] => { results := [.lit (.bool false)], args := [d1, d2] }
  | _ => none }
def FnExactStripsOfWrongFalsely : Prop := fnExactStripsOfRow.holds Try.pinned (OpenSpec.ofChange fnExactStripsOfWrong)

/-- 'laws.FnExactFluxThrough': WHATEVER THE INPUT: true; the input reads as it did. -/
def fnExactFluxThroughSpec : ChangeSpec := { name := "fnExactFluxThrough", fn := fun _ => fun
  | [d1, d2, d3] => { results := [.lit (.bool true)], args := [d1, d2, d3] }
  | _ => none }
def fnExactFluxThroughRow : OpenClaim := { program := "ytinpafbadbnhhaa", sum := "3604c61b0364538aa92652e6ef6521089ed66aed5f1f3c7be2a343509a6d1ac5", func := "loop.example/g01201/laws.FnExactFluxThrough", spec := "fnExactFluxThrough", apart := false }
def FnExactFluxThroughSaid : Prop := fnExactFluxThroughRow.holds Try.pinned (OpenSpec.ofChange fnExactFluxThroughSpec)

/-- ITS FALSE NEIGHBOUR: 'it returns false'. Refute it at one input. -/
def fnExactFluxThroughWrong : ChangeSpec := { name := "fnExactFluxThrough", fn := fun _ => fun
  | [d1, d2, d3] => { results := [.lit (.bool false)], args := [d1, d2, d3] }
  | _ => none }
def FnExactFluxThroughWrongFalsely : Prop := fnExactFluxThroughRow.holds Try.pinned (OpenSpec.ofChange fnExactFluxThroughWrong)

/-- 'laws.FnExactFillRect': WHATEVER THE INPUT: true; the input reads as it did. -/
def fnExactFillRectSpec : ChangeSpec := { name := "fnExactFillRect", fn := fun _ => fun
  | [d1, d2, d3, d4] => { results := [.lit (.bool true)], args := [d1, d2, d3, d4] }
  | _ => none }
def fnExactFillRectRow : OpenClaim := { program := "ytinpafbadbnhhaa", sum := "3604c61b0364538aa92652e6ef6521089ed66aed5f1f3c7be2a343509a6d1ac5", func := "loop.example/g01201/laws.FnExactFillRect", spec := "fnExactFillRect", unfollowed := true, recurses := true, apart := false }
def FnExactFillRectSaid : Prop := fnExactFillRectRow.holds Try.pinned (OpenSpec.ofChange fnExactFillRectSpec)

/-- ITS FALSE NEIGHBOUR: 'it returns false'. Refute it at one input. -/
def fnExactFillRectWrong : ChangeSpec := { name := "fnExactFillRect", fn := fun _ => fun
  | [d1, d2, d3, d4] => { results := [.lit (.bool false)], args := [d1, d2, d3, d4] }
  | _ => none }
def FnExactFillRectWrongFalsely : Prop := fnExactFillRectRow.holds Try.pinned (OpenSpec.ofChange fnExactFillRectWrong)

/-- 'laws.FnExactGradeLosses': WHATEVER THE INPUT: true; the input reads as it did. -/
def fnExactGradeLossesSpec : ChangeSpec := { name := "fnExactGradeLosses", fn := fun _ => fun
  | [d1, d2, d3] => { results := [.lit (.bool true)], args := [d1, d2, d3] }
  | _ => none }
def fnExactGradeLossesRow : OpenClaim := { program := "ytinpafbadbnhhaa", sum := "3604c61b0364538aa92652e6ef6521089ed66aed5f1f3c7be2a343509a6d1ac5", func := "loop.example/g01201/laws.FnExactGradeLosses", spec := "fnExactGradeLosses", unfollowed := true, recurses := true, apart := false }
def FnExactGradeLossesSaid : Prop := fnExactGradeLossesRow.holds Try.pinned (OpenSpec.ofChange fnExactGradeLossesSpec)

/-- ITS FALSE NEIGHBOUR: 'it returns false'. Refute it at one input. -/
def fnExactGradeLossesWrong : ChangeSpec := { name := "fnExactGradeLosses", fn := fun _ => fun
  | [d1, d2, d3] => { results := [.lit (.bool false)], args := [d1, d2, d3] }
  | _ => none }
def FnExactGradeLossesWrongFalsely : Prop := fnExactGradeLossesRow.holds Try.pinned (OpenSpec.ofChange fnExactGradeLossesWrong)

/-- 'laws.FnExactSpectrumOf': WHATEVER THE INPUT: true; the input reads as it did. -/
def fnExactSpectrumOfSpec : ChangeSpec := { name := "fnExactSpectrumOf", fn := fun _ => fun
  | [d] => { results := [.lit (.bool true)], args := [d] }
  | _ => none }
def fnExactSpectrumOfRow : OpenClaim := { program := "ytinpafbadbnhhaa", sum := "3604c61b0364538aa92652e6ef6521089ed66aed5f1f3c7be2a343509a6d1ac5", func := "loop.example/g01201/laws.FnExactSpectrumOf", spec := "fnExactSpectrumOf", inPlace := ["math.Float32frombits", "math.Float64frombits", "math.Float64bits"], apart := false }
def FnExactSpectrumOfSaid : Prop := fnExactSpectrumOfRow.holds Try.pinned (OpenSpec.ofChange fnExactSpectrumOfSpec)

/-- ITS FALSE NEIGHBOUR: 'it returns false'. Refute it at one input. -/
def fnExactSpectrumOfWrong : ChangeSpec := { name := "fnExactSpectrumOf", fn := fun _ => fun
  | [d] => { results := [.lit (.bool false)], args := [d] }
  | _ => none }
def FnExactSpectrumOfWrongFalsely : Prop := fnExactSpectrumOfRow.holds Try.pinned (OpenSpec.ofChange fnExactSpectrumOfWrong)

/-- 'laws.FnBinsCut': WHATEVER THE INPUT: true; the input reads as it did. -/
def fnBinsCutSpec : ChangeSpec := { name := "fnBinsCut", fn := fun _ => fun
  | [d1, d2] => { results := [.lit (.bool true)], args := [d1, d2] }
  | _ => none }
def fnBinsCutRow : OpenClaim := { program := "ytinpafbadbnhhaa", sum := "3604c61b0364538aa92652e6ef6521089ed66aed5f1f3c7be2a343509a6d1ac5", func := "loop.example/g01201/laws.FnBinsCut", spec := "fnBinsCut", inPlace := ["math.Float32frombits", "math.Float64frombits", "math.Float64bits"], unfollowed := true, recurses := true, apart := false }
def FnBinsCutSaid : Prop := fnBinsCutRow.holds Try.pinned (OpenSpec.ofChange fnBinsCutSpec)

/-- ITS FALSE NEIGHBOUR: 'it returns false'. Refute it at one input. -/
def fnBinsCutWrong : ChangeSpec := { name := "fnBinsCut", fn := fun _ => fun
  | [d1, d2] => { results := [.lit (.bool false)], args := [d1, d2] }
  | _ => none }
def FnBinsCutWrongFalsely : Prop := fnBinsCutRow.holds Try.pinned (OpenSpec.ofChange fnBinsCutWrong)

/-- 'laws.FnExactSlitSheet': WHATEVER THE INPUT: true; the input reads as it did. -/
def fnExactSlitSheetSpec : ChangeSpec := { name := "fnExactSlitSheet", fn := fun _ => fun
  | [d1, d2, d3] => { results := [.lit (.bool true)], args := [d1, d2, d3] }
  | _ => none }
def fnExactSlitSheetRow : OpenClaim := { program := "ytinpafbadbnhhaa", sum := "3604c61b0364538aa92652e6ef6521089ed66aed5f1f3c7be2a343509a6d1ac5", func := "loop.example/g01201/laws.FnExactSlitSheet", spec := "fnExactSlitSheet", unfollowed := true, recurses := true, apart := false }
def FnExactSlitSheetSaid : Prop := fnExactSlitSheetRow.holds Try.pinned (OpenSpec.ofChange fnExactSlitSheetSpec)

/-- ITS FALSE NEIGHBOUR: 'it returns false'. Refute it at one input. -/
def fnExactSlitSheetWrong : ChangeSpec := { name := "fnExactSlitSheet", fn := fun _ => fun
  | [d1, d2, d3] => { results := [.lit (.bool false)], args := [d1, d2, d3] }
  | _ => none }
def FnExactSlitSheetWrongFalsely : Prop := fnExactSlitSheetRow.holds Try.pinned (OpenSpec.ofChange fnExactSlitSheetWrong)

/-- 'laws.FnSpectraAdded': WHATEVER THE INPUT: true; the input reads as it did. -/
def fnSpectraAddedSpec : ChangeSpec := { name := "fnSpectraAdded", fn := fun _ => fun
  | [d1, d2] => { results := [.lit (.bool true)], args := [d1, d2] }
  | _ => none }
def fnSpectraAddedRow : OpenClaim := { program := "ytinpafbadbnhhaa", sum := "3604c61b0364538aa92652e6ef6521089ed66aed5f1f3c7be2a343509a6d1ac5", func := "loop.example/g01201/laws.FnSpectraAdded", spec := "fnSpectraAdded", inPlace := ["math.Float64frombits", "math.Float64bits", "math.sqrt"], apart := false }
def FnSpectraAddedSaid : Prop := fnSpectraAddedRow.holds Try.pinned (OpenSpec.ofChange fnSpectraAddedSpec)

/-- ITS FALSE NEIGHBOUR: 'it returns false'. Refute it at one input. -/
def fnSpectraAddedWrong : ChangeSpec := { name := "fnSpectraAdded", fn := fun _ => fun
  | [d1, d2] => { results := [.lit (.bool false)], args := [d1, d2] }
  | _ => none }
def FnSpectraAddedWrongFalsely : Prop := fnSpectraAddedRow.holds Try.pinned (OpenSpec.ofChange fnSpectraAddedWrong)

/-- 'laws.FnExactCutStrip': WHATEVER THE INPUT: true; the input reads as it did. -/
def fnExactCutStripSpec : ChangeSpec := { name := "fnExactCutStrip", fn := fun _ => fun
  | [d1, d2, d3] => { results := [.lit (.bool true)], args := [d1, d2, d3] }
  | _ => none }
def fnExactCutStripRow : OpenClaim := { program := "ytinpafbadbnhhaa", sum := "3604c61b0364538aa92652e6ef6521089ed66aed5f1f3c7be2a343509a6d1ac5", func := "loop.example/g01201/laws.FnExactCutStrip", spec := "fnExactCutStrip", apart := false }
def FnExactCutStripSaid : Prop := fnExactCutStripRow.holds Try.pinned (OpenSpec.ofChange fnExactCutStripSpec)

/-- ITS FALSE NEIGHBOUR: 'it returns false'. Refute it at one input. -/
def fnExactCutStripWrong : ChangeSpec := { name := "fnExactCutStrip", fn := fun _ => fun
  | [d1, d2, d3] => { results := [.lit (.bool false)], args := [d1, d2, d3] }
  | _ => none }
def FnExactCutStripWrongFalsely : Prop := fnExactCutStripRow.holds Try.pinned (OpenSpec.ofChange fnExactCutStripWrong)

/-- 'laws.FnExactRayleighOf': WHATEVER THE INPUT: true; the input reads as it did. -/
def fnExactRayleighOfSpec : ChangeSpec := { name := "fnExactRayleighOf", fn := fun _ => fun
  | [d1, d2] => { results := [.lit (.bool true)], args := [d1, d2] }
  | _ => none }
def fnExactRayleighOfRow : OpenClaim := { program := "ytinpafbadbnhhaa", sum := "3604c61b0364538aa92652e6ef6521089ed66aed5f1f3c7be2a343509a6d1ac5", func := "loop.example/g01201/laws.FnExactRayleighOf", spec := "fnExactRayleighOf", unfollowed := true, recurses := true, apart := false }
def FnExactRayleighOfSaid : Prop := fnExactRayleighOfRow.holds Try.pinned (OpenSpec.ofChange fnExactRayleighOfSpec)

/-- ITS FALSE NEIGHBOUR: 'it returns false'. Refute it at one input. -/
def fnExactRayleighOfWrong : ChangeSpec := { name := "fnExactRayleighOf", fn := fun _ => fun
  | [d1, d2] => { results := [.lit (.bool false)], args := [d1, d2] }
  | _ => none }
def FnExactRayleighOfWrongFalsely : Prop := fnExactRayleighOfRow.holds Try.pinned (OpenSpec.ofChange fnExactRayleighOfWrong)

/-- 'laws.FnExactModeTurns': WHATEVER THE INPUT: true; the input reads as it did. -/
def fnExactModeTurnsSpec : ChangeSpec := { name := "fnExactModeTurns", fn := fun _ => fun
  | [d1, d2, d3, d4, d5] => { results := [.lit (.bool true)], args := [d1, d2, d3, d4, d5] }
  | _ => none }
def fnExactModeTurnsRow : OpenClaim := { program := "ytinpafbadbnhhaa", sum := "3604c61b0364538aa92652e6ef6521089ed66aed5f1f3c7be2a343509a6d1ac5", func := "loop.example/g01201/laws.FnExactModeTurns", spec := "fnExactModeTurns", inPlace := ["math.Float64frombits", "math.sqrt", "math.Float64bits"], apart := false }
def FnExactModeTurnsSaid : Prop := fnExactModeTurnsRow.holds Try.pinned (OpenSpec.ofChange fnExactModeTurnsSpec)

/-- ITS FALSE NEIGHBOUR: 'it returns false'. Refute it at one input. -/
def fnExactModeTurnsWrong : ChangeSpec := { name := "fnExactModeTurns", fn := fun _ => fun
  | [d1, d2, d3, d4, d5] => { results := [.lit (.bool false)], args := [d1, d2, d3, d4, d5] }
  | _ => none }
def FnExactModeTurnsWrongFalsely : Prop := fnExactModeTurnsRow.holds Try.pinned (OpenSpec.ofChange fnExactModeTurnsWrong)

/-- 'laws.FnExactTravelTurns': WHATEVER THE INPUT: true; the input reads as it did. -/
def fnExactTravelTurnsSpec : ChangeSpec := { name := "fnExactTravelTurns", fn := fun _ => fun
  | [d1, d2, d3, d4, d5] => { results := [.lit (.bool true)], args := [d1, d2, d3, d4, d5] }
  | _ => none }
def fnExactTravelTurnsRow : OpenClaim := { program := "ytinpafbadbnhhaa", sum := "3604c61b0364538aa92652e6ef6521089ed66aed5f1f3c7be2a343509a6d1ac5", func := "loop.example/g01201/laws.FnExactTravelTurns", spec := "fnExactTravelTurns", inPlace := ["math.Float64frombits", "math.sqrt", "math.Float64bits"], apart := false }
def FnExactTravelTurnsSaid : Prop := fnExactTravelTurnsRow.holds Try.pinned (OpenSpec.ofChange fnExactTravelTurnsSpec)

/-- ITS FALSE NEIGHBOUR: 'it returns false'. Refute it at one input. -/
def fnExactTravelTurnsWrong : ChangeSpec := { name := "fnExactTravelTurns", fn := fun _ => fun
  | [d1, d2, d3, d4, d5] => { results := [.lit (.bool false)], args := [d1, d2, d3, d4, d5] }
  | _ => none }
def FnExactTravelTurnsWrongFalsely : Prop := fnExactTravelTurnsRow.holds Try.pinned (OpenSpec.ofChange fnExactTravelTurnsWrong)

/-- 'laws.FnExactRampField': WHATEVER THE INPUT: true; the input reads as it did. -/
def fnExactRampFieldSpec : ChangeSpec := { name := "fnExactRampField", fn := fun _ => fun
  | [d1, d2, d3] => { results := [.lit (.bool true)], args := [d1, d2, d3] }
  | _ => none }
def fnExactRampFieldRow : OpenClaim := { program := "ytinpafbadbnhhaa", sum := "3604c61b0364538aa92652e6ef6521089ed66aed5f1f3c7be2a343509a6d1ac5", func := "loop.example/g01201/laws.FnExactRampField", spec := "fnExactRampField", unfollowed := true, recurses := true, apart := false }
def FnExactRampFieldSaid : Prop := fnExactRampFieldRow.holds Try.pinned (OpenSpec.ofChange fnExactRampFieldSpec)

/-- ITS FALSE NEIGHBOUR: 'it returns false'. Refute it at one input. -/
def fnExactRampFieldWrong : ChangeSpec := { name := "fnExactRampField", fn := fun _ => fun
  | [d1, d2, d3] => { results := [.lit (.bool false)], args := [d1, d2, d3] }
  | _ => none }
def FnExactRampFieldWrongFalsely : Prop := fnExactRampFieldRow.holds Try.pinned (OpenSpec.ofChange fnExactRampFieldWrong)

/-- 'laws.FnExactClearRect': WHATEVER THE INPUT: true; the input reads as it did. -/
def fnExactClearRectSpec : ChangeSpec := { name := "fnExactClearRect", fn := fun _ => fun
  | [d1, d2, d3] => { results := [.lit (.bool true)], args := [d1, d2, d3] }
  | _ => none }
def fnExactClearRectRow : OpenClaim := { program := "ytinpafbadbnhhaa", sum := "3604c61b0364538aa92652e6ef6521089ed66aed5f1f3c7be2a343509a6d1ac5", func := "loop.example/g01201/laws.FnExactClearRect", spec := "fnExactClearRect", unfollowed := true, recurses := true, apart := false }
def FnExactClearRectSaid : Prop := fnExactClearRectRow.holds Try.pinned (OpenSpec.ofChange fnExactClearRectSpec)

/-- ITS FALSE NEIGHBOUR: 'it returns false'. Refute it at one input. -/
def fnExactClearRectWrong : ChangeSpec := { name := "fnExactClearRect", fn := fun _ => fun
  | [d1, d2, d3] => { results := [.lit (.bool false)], args := [d1, d2, d3] }
  | _ => none }
def FnExactClearRectWrongFalsely : Prop := fnExactClearRectRow.holds Try.pinned (OpenSpec.ofChange fnExactClearRectWrong)

/-- 'laws.FnExactModeField': WHATEVER THE INPUT: true; the input reads as it did. -/
def fnExactModeFieldSpec : ChangeSpec := { name := "fnExactModeField", fn := fun _ => fun
  | [d1, d2, d3, d4] => { results := [.lit (.bool true)], args := [d1, d2, d3, d4] }
  | _ => none }
def fnExactModeFieldRow : OpenClaim := { program := "ytinpafbadbnhhaa", sum := "3604c61b0364538aa92652e6ef6521089ed66aed5f1f3c7be2a343509a6d1ac5", func := "loop.example/g01201/laws.FnExactModeField", spec := "fnExactModeField", inPlace := ["math.Float64frombits", "math.Float64bits"], unfollowed := true, recurses := true, apart := false }
def FnExactModeFieldSaid : Prop := fnExactModeFieldRow.holds Try.pinned (OpenSpec.ofChange fnExactModeFieldSpec)

/-- ITS FALSE NEIGHBOUR: 'it returns false'. Refute it at one input. -/
def fnExactModeFieldWrong : ChangeSpec := { name := "fnExactModeField", fn := fun _ => fun
  | [d1, d2, d3, d4] => { results := [.lit (.bool false)], args := [d1, d2, d3, d4] }
  | _ => none }
def FnExactModeFieldWrongFalsely : Prop := fnExactModeFieldRow.holds Try.pinned (OpenSpec.ofChange fnExactModeFieldWrong)

/-- 'laws.FnRects': WHATEVER THE INPUT: true; the input reads as it did. -/
def fnRectsSpec : ChangeSpec := { name := "fnRects", fn := fun _ => fun
  | [d1, d2] => { results := [.lit (.bool true)], args := [d1, d2] }
  | _ => none }
def fnRectsRow : OpenClaim := { program := "ytinpafbadbnhhaa", sum := "3604c61b0364538aa92652e6ef6521089ed66aed5f1f3c7be2a343509a6d1ac5", func := "loop.example/g01201/laws.FnRects", spec := "fnRects", inPlace := ["math.Float32frombits", "math.Float32bits"], unfollowed := true, recurses := true, apart := false }
def FnRectsSaid : Prop := fnRectsRow.holds Try.pinned (OpenSpec.ofChange fnRectsSpec)

/-- ITS FALSE NEIGHBOUR: 'it returns false'. Refute it at one input. -/
def fnRectsWrong : ChangeSpec := { name := "fnRects", fn := fun _ => fun
  | [d1, d2] => { results := [.lit (.bool false)], args := [d1, d2] }
  | _ => none }
def FnRectsWrongFalsely : Prop := fnRectsRow.holds Try.pinned (OpenSpec.ofChange fnRectsWrong)

/-- 'laws.FnGraded': WHATEVER THE INPUT: true; the input reads as it did. -/
def fnGradedSpec : ChangeSpec := { name := "fnGraded", fn := fun _ => fun
  | [d1, d2] => { results := [.lit (.bool true)], args := [d1, d2] }
  | _ => none }
def fnGradedRow : OpenClaim := { program := "ytinpafbadbnhhaa", sum := "3604c61b0364538aa92652e6ef6521089ed66aed5f1f3c7be2a343509a6d1ac5", func := "loop.example/g01201/laws.FnGraded", spec := "fnGraded", inPlace := ["math.Float32frombits", "math.Float32bits"], unfollowed := true, recurses := true, apart := false }
def FnGradedSaid : Prop := fnGradedRow.holds Try.pinned (OpenSpec.ofChange fnGradedSpec)

/-- ITS FALSE NEIGHBOUR: 'it returns false'. Refute it at one input. -/
def fnGradedWrong : ChangeSpec := { name := "fnGraded", fn := fun _ => fun
  | [d1, d2] => { results := [.lit (.bool false)], args := [d1, d2] }
  | _ => none }
def FnGradedWrongFalsely : Prop := fnGradedRow.holds Try.pinned (OpenSpec.ofChange fnGradedWrong)

/-- 'laws.FnExactSleepingBlocks': WHATEVER THE INPUT: true; the input reads as it did. -/
def fnExactSleepingBlocksSpec : ChangeSpec := { name := "fnExactSleepingBlocks", fn := fun _ => fun
  | [d1, d2, d3] => { results := [.lit (.bool true)], args := [d1, d2, d3] }
  | _ => none }
def fnExactSleepingBlocksRow : OpenClaim := { program := "ytinpafbadbnhhaa", sum := "3604c61b0364538aa92652e6ef6521089ed66aed5f1f3c7be2a343509a6d1ac5", func := "loop.example/g01201/laws.FnExactSleepingBlocks", spec := "fnExactSleepingBlocks", inPlace := ["math.Float32bits"], unfollowed := true, recurses := true, apart := false }
def FnExactSleepingBlocksSaid : Prop := fnExactSleepingBlocksRow.holds Try.pinned (OpenSpec.ofChange fnExactSleepingBlocksSpec)

/-- ITS FALSE NEIGHBOUR: 'it returns false'. Refute it at one input. -/
def fnExactSleepingBlocksWrong : ChangeSpec := { name := "fnExactSleepingBlocks", fn := fun _ => fun
  | [d1, d2, d3] => { results := [.lit (.bool false)], args := [d1, d2, d3] }
  | _ => none }
def FnExactSleepingBlocksWrongFalsely : Prop := fnExactSleepingBlocksRow.holds Try.pinned (OpenSpec.ofChange fnExactSleepingBlocksWrong)

/-- 'laws.FnExactStepStrip': WHATEVER THE INPUT: true; the input reads as it did. -/
def fnExactStepStripSpec : ChangeSpec := { name := "fnExactStepStrip", fn := fun _ => fun
  | [d1, d2, d3] => { results := [.lit (.bool true)], args := [d1, d2, d3] }
  | _ => none }
def fnExactStepStripRow : OpenClaim := { program := "ytinpafbadbnhhaa", sum := "3604c61b0364538aa92652e6ef6521089ed66aed5f1f3c7be2a343509a6d1ac5", func := "loop.example/g01201/laws.FnExactStepStrip", spec := "fnExactStepStrip", apart := false }
def FnExactStepStripSaid : Prop := fnExactStepStripRow.holds Try.pinned (OpenSpec.ofChange fnExactStepStripSpec)

/-- ITS FALSE NEIGHBOUR: 'it returns false'. Refute it at one input. -/
def fnExactStepStripWrong : ChangeSpec := { name := "fnExactStepStrip", fn := fun _ => fun
  | [d1, d2, d3] => { results := [.lit (.bool false)], args := [d1, d2, d3] }
  | _ => none }
def FnExactStepStripWrongFalsely : Prop := fnExactStepStripRow.holds Try.pinned (OpenSpec.ofChange fnExactStepStripWrong)

/-- 'laws.FnExactStepAwake': WHATEVER THE INPUT: true; the input reads as it did. -/
def fnExactStepAwakeSpec : ChangeSpec := { name := "fnExactStepAwake", fn := fun _ => fun
  | [d1, d2, d3] => { results := [.lit (.bool true)], args := [d1, d2, d3] }
  | _ => none }
def fnExactStepAwakeRow : OpenClaim := { program := "ytinpafbadbnhhaa", sum := "3604c61b0364538aa92652e6ef6521089ed66aed5f1f3c7be2a343509a6d1ac5", func := "loop.example/g01201/laws.FnExactStepAwake", spec := "fnExactStepAwake", inPlace := ["math.Float32bits"], unfollowed := true, recurses := true, apart := false }
def FnExactStepAwakeSaid : Prop := fnExactStepAwakeRow.holds Try.pinned (OpenSpec.ofChange fnExactStepAwakeSpec)

/-- ITS FALSE NEIGHBOUR: 'it returns false'. Refute it at one input. -/
def fnExactStepAwakeWrong : ChangeSpec := { name := "fnExactStepAwake", fn := fun _ => fun
  | [d1, d2, d3] => { results := [.lit (.bool false)], args := [d1, d2, d3] }
  | _ => none }
def FnExactStepAwakeWrongFalsely : Prop := fnExactStepAwakeRow.holds Try.pinned (OpenSpec.ofChange fnExactStepAwakeWrong)

/-- 'laws.FnExactHaloRows': WHATEVER THE INPUT: true; the input reads as it did. -/
def fnExactHaloRowsSpec : ChangeSpec := { name := "fnExactHaloRows", fn := fun _ => fun
  | [d1, d2] => { results := [.lit (.bool true)], args := [d1, d2] }
  | _ => none }
def fnExactHaloRowsRow : OpenClaim := { program := "ytinpafbadbnhhaa", sum := "3604c61b0364538aa92652e6ef6521089ed66aed5f1f3c7be2a343509a6d1ac5", func := "loop.example/g01201/laws.FnExactHaloRows", spec := "fnExactHaloRows", recurses := true, apart := false }
def FnExactHaloRowsSaid : Prop := fnExactHaloRowsRow.holds Try.pinned (OpenSpec.ofChange fnExactHaloRowsSpec)

/-- ITS FALSE NEIGHBOUR: 'it returns false'. Refute it at one input. -/
def fnExactHaloRowsWrong : ChangeSpec := { name := "fnExactHaloRows", fn := fun _ => fun
  | [d1, d2] => { results := [.lit (.bool false)], args := [d1, d2] }
  | _ => none }
def FnExactHaloRowsWrongFalsely : Prop := fnExactHaloRowsRow.holds Try.pinned (OpenSpec.ofChange fnExactHaloRowsWrong)

/-- 'laws.FnSpectra': WHATEVER THE INPUT: true; the input reads as it did. -/
def fnSpectraSpec : ChangeSpec := { name := "fnSpectra", fn := fun _ => fun
  | [d1, d2] => { results := [.lit (.bool true)], args := [d1, d2] }
  | _ => none }
def fnSpectraRow : OpenClaim := { program := "ytinpafbadbnhhaa", sum := "3604c61b0364538aa92652e6ef6521089ed66aed5f1f3c7be2a343509a6d1ac5", func := "loop.example/g01201/laws.FnSpectra", spec := "fnSpectra", inPlace := ["math.Float64frombits", "math.Float64bits", "math.sqrt"], unfollowed := true, recurses := true, apart := false }
def FnSpectraSaid : Prop := fnSpectraRow.holds Try.pinned (OpenSpec.ofChange fnSpectraSpec)

/-- ITS FALSE NEIGHBOUR: 'it returns false'. Refute it at one input. -/
def fnSpectraWrong : ChangeSpec := { name := "fnSpectra", fn := fun _ => fun
  | [d1, d2] => { results := [.lit (.bool false)], args := [d1, d2] }
  | _ => none }
def FnSpectraWrongFalsely : Prop := fnSpectraRow.holds Try.pinned (OpenSpec.ofChange fnSpectraWrong)

/-- 'laws.FnExactMessagesOf': WHATEVER THE INPUT: true; the input reads as it did. -/
def fnExactMessagesOfSpec : ChangeSpec := { name := "fnExactMessagesOf", fn := fun _ => fun
  | [d1, d2] => { results := [.lit (.bool true)], args := [d1, d2] }
  | _ => none }
def fnExactMessagesOfRow : OpenClaim := { program := "ytinpafbadbnhhaa", sum := "3604c61b0364538aa92652e6ef6521089ed66aed5f1f3c7be2a343509a6d1ac5", func := "loop.example/g01201/laws.FnExactMessagesOf", spec := "fnExactMessagesOf", unfollowed := true, recurses := true, apart := false }
def FnExactMessagesOfSaid : Prop := fnExactMessagesOfRow.holds Try.pinned (OpenSpec.ofChange fnExactMessagesOfSpec)

/-- ITS FALSE NEIGHBOUR: 'it returns false'. Refute it at one input. -/
def fnExactMessagesOfWrong : ChangeSpec := { name := "fnExactMessagesOf", fn := fun _ => fun
  | [d1, d2] => { results := [.lit (.bool false)], args := [d1, d2] }
  | _ => none }
def FnExactMessagesOfWrongFalsely : Prop := fnExactMessagesOfRow.holds Try.pinned (OpenSpec.ofChange fnExactMessagesOfWrong)

/- THE SECOND FORM. 'bulk': how many values and letters a reading holds, each counted each time it is reached (what is shared counts as often as it is met; a slice's spare places count too). A statement '..UptoSaid' is the law's where the arguments, and the package variables that the reading takes, are together of bulk at most 1048576: NARROWER than '..Said'. Prove '..Said' where nothing that the law and all that it calls make is longer than what came in: it says more and counts as full. Else prove '..UptoSaid'. A law counts once. -/
mutual
def uptoBulk {H : Type} : DataW H → Nat
  | .lit (.string bytes) => bytes.length + 1
  | .lit _ => 1
  | .nil => 1
  | .ptr d => uptoBulk d + 1
  | .slice elems spare => uptoBulkAll elems + uptoBulkAll spare + 1
  | .agg parts => uptoBulkAll parts + 1
  | .iface _ d => uptoBulk d + 1
  | .map entries => uptoBulkEntries entries + 1
  | .held _ => 1
def uptoBulkAll {H : Type} : List (DataW H) → Nat
  | [] => 0
  | d :: r => uptoBulk d + uptoBulkAll r
def uptoBulkEntries {H : Type} : List (Lit × DataW H) → Nat
  | [] => 0
  | x :: r => uptoBulkEntry x + uptoBulkEntries r
def uptoBulkEntry {H : Type} : Lit × DataW H → Nat
  | (.string bytes, d) => bytes.length + uptoBulk d + 1
  | (_, d) => uptoBulk d + 1
 end
def uptoSmall : (H : Type) → List (DataW H) → Bool := fun _ ds => decide (uptoBulkAll ds ≤ 1048576)
def OpenSpec.upto (s : _root_.Go.ChangeSpec) : _root_.Go.OpenSpec := { _root_.Go.OpenSpec.ofChange s with cond := some uptoSmall }

/-- 'laws.FnLags', WHERE WHAT IT READS IS OF BULK AT MOST 1048576: true; the input reads as it did. -/
def fnLagsUptoRow : OpenClaim := { program := "ytinpafbadbnhhaa", sum := "3604c61b0364538aa92652e6ef6521089ed66aed5f1f3c7be2a343509a6d1ac5", func := "loop.example/g01201/laws.FnLags", spec := "fnLags", apart := false, narrowed := true }
def FnLagsUptoSaid : Prop := fnLagsUptoRow.holds Try.pinned (OpenSpec.upto fnLagsSpec)

/-- 'laws.FnExactTimesWindow', WHERE WHAT IT READS IS OF BULK AT MOST 1048576: true; the input reads as it did. -/
def fnExactTimesWindowUptoRow : OpenClaim := { program := "ytinpafbadbnhhaa", sum := "3604c61b0364538aa92652e6ef6521089ed66aed5f1f3c7be2a343509a6d1ac5", func := "loop.example/g01201/laws.FnExactTimesWindow", spec := "fnExactTimesWindow", unfollowed := true, recurses := true, apart := false, narrowed := true }
def FnExactTimesWindowUptoSaid : Prop := fnExactTimesWindowUptoRow.holds Try.pinned (OpenSpec.upto fnExactTimesWindowSpec)

/-- 'laws.FnAwake', WHERE WHAT IT READS IS OF BULK AT MOST 1048576: true; the input reads as it did. -/
def fnAwakeUptoRow : OpenClaim := { program := "ytinpafbadbnhhaa", sum := "3604c61b0364538aa92652e6ef6521089ed66aed5f1f3c7be2a343509a6d1ac5", func := "loop.example/g01201/laws.FnAwake", spec := "fnAwake", inPlace := ["math.Float32frombits", "math.Float32bits"], unfollowed := true, recurses := true, apart := false, narrowed := true }
def FnAwakeUptoSaid : Prop := fnAwakeUptoRow.holds Try.pinned (OpenSpec.upto fnAwakeSpec)

/-- 'laws.FnExactIsStrip', WHERE WHAT IT READS IS OF BULK AT MOST 1048576: true; the input reads as it did. -/
def fnExactIsStripUptoRow : OpenClaim := { program := "ytinpafbadbnhhaa", sum := "3604c61b0364538aa92652e6ef6521089ed66aed5f1f3c7be2a343509a6d1ac5", func := "loop.example/g01201/laws.FnExactIsStrip", spec := "fnExactIsStrip", apart := false, narrowed := true }
def FnExactIsStripUptoSaid : Prop := fnExactIsStripUptoRow.holds Try.pinned (OpenSpec.upto fnExactIsStripSpec)

/-- 'laws.FnExactWindowOf', WHERE WHAT IT READS IS OF BULK AT MOST 1048576: true; the input reads as it did. -/
def fnExactWindowOfUptoRow : OpenClaim := { program := "ytinpafbadbnhhaa", sum := "3604c61b0364538aa92652e6ef6521089ed66aed5f1f3c7be2a343509a6d1ac5", func := "loop.example/g01201/laws.FnExactWindowOf", spec := "fnExactWindowOf", inPlace := ["math.Float64frombits", "math.Float64bits"], apart := false, narrowed := true }
def FnExactWindowOfUptoSaid : Prop := fnExactWindowOfUptoRow.holds Try.pinned (OpenSpec.upto fnExactWindowOfSpec)

/-- 'laws.FnExactTurnsOfRayleigh', WHERE WHAT IT READS IS OF BULK AT MOST 1048576: true; the input reads as it did. -/
def fnExactTurnsOfRayleighUptoRow : OpenClaim := { program := "ytinpafbadbnhhaa", sum := "3604c61b0364538aa92652e6ef6521089ed66aed5f1f3c7be2a343509a6d1ac5", func := "loop.example/g01201/laws.FnExactTurnsOfRayleigh", spec := "fnExactTurnsOfRayleigh", inPlace := ["math.sqrt", "math.Float64frombits", "math.Float64bits"], apart := false, narrowed := true }
def FnExactTurnsOfRayleighUptoSaid : Prop := fnExactTurnsOfRayleighUptoRow.holds Try.pinned (OpenSpec.upto fnExactTurnsOfRayleighSpec)

/-- 'laws.FnExactStillCells', WHERE WHAT IT READS IS OF BULK AT MOST 1048576: true; the input reads as it did. -/
def fnExactStillCellsUptoRow : OpenClaim := { program := "ytinpafbadbnhhaa", sum := "3604c61b0364538aa92652e6ef6521089ed66aed5f1f3c7be2a343509a6d1ac5", func := "loop.example/g01201/laws.FnExactStillCells", spec := "fnExactStillCells", unfollowed := true, recurses := true, apart := false, narrowed := true }
def FnExactStillCellsUptoSaid : Prop := fnExactStillCellsUptoRow.holds Try.pinned (OpenSpec.upto fnExactStillCellsSpec)

/-- 'laws.FnExactChannelSheet', WHERE WHAT IT READS IS OF BULK AT MOST 1048576: true; the input reads as it did. -/
def fnExactChannelSheetUptoRow : OpenClaim := { program := "ytinpafbadbnhhaa", sum := "3604c61b0364538aa92652e6ef6521089ed66aed5f1f3c7be2a343509a6d1ac5", func := "loop.example/g01201/laws.FnExactChannelSheet", spec := "fnExactChannelSheet", unfollowed := true, recurses := true, apart := false, narrowed := true }
def FnExactChannelSheetUptoSaid : Prop := fnExactChannelSheetUptoRow.holds Try.pinned (OpenSpec.upto fnExactChannelSheetSpec)

/-- 'laws.FnShares', WHERE WHAT IT READS IS OF BULK AT MOST 1048576: true; the input reads as it did. -/
def fnSharesUptoRow : OpenClaim := { program := "ytinpafbadbnhhaa", sum := "3604c61b0364538aa92652e6ef6521089ed66aed5f1f3c7be2a343509a6d1ac5", func := "loop.example/g01201/laws.FnShares", spec := "fnShares", inPlace := ["math.Float64frombits", "math.Float64bits"], unfollowed := true, recurses := true, apart := false, narrowed := true }
def FnSharesUptoSaid : Prop := fnSharesUptoRow.holds Try.pinned (OpenSpec.upto fnSharesSpec)

/-- 'laws.FnExactBinOf', WHERE WHAT IT READS IS OF BULK AT MOST 1048576: true; the input reads as it did. -/
def fnExactBinOfUptoRow : OpenClaim := { program := "ytinpafbadbnhhaa", sum := "3604c61b0364538aa92652e6ef6521089ed66aed5f1f3c7be2a343509a6d1ac5", func := "loop.example/g01201/laws.FnExactBinOf", spec := "fnExactBinOf", inPlace := ["math.Float32frombits", "math.Float64frombits", "math.Float64bits"], apart := false, narrowed := true }
def FnExactBinOfUptoSaid : Prop := fnExactBinOfUptoRow.holds Try.pinned (OpenSpec.upto fnExactBinOfSpec)

/-- 'laws.FnExactStripsOf', WHERE WHAT IT READS IS OF BULK AT MOST 1048576: true; the input reads as it did. -/
def fnExactStripsOfUptoRow : OpenClaim := { program := "ytinpafbadbnhhaa", sum := "3604c61b0364538aa92652e6ef6521089ed66aed5f1f3c7be2a343509a6d1ac5", func := "loop.example/g01201/laws.FnExactStripsOf", spec := "fnExactStripsOf", apart := false, narrowed := true }
def FnExactStripsOfUptoSaid : Prop := fnExactStripsOfUptoRow.holds Try.pinned (OpenSpec.upto fnExactStripsOfSpec)

/-- 'laws.FnExactFluxThrough', WHERE WHAT IT READS IS OF BULK AT MOST 1048576: true; the input reads as it did. -/
def fnExactFluxThroughUptoRow : OpenClaim := { program := "ytinpafbadbnhhaa", sum := "3604c61b0364538aa92652e6ef6521089ed66aed5f1f3c7be2a343509a6d1ac5", func := "loop.example/g01201/laws.FnExactFluxThrough", spec := "fnExactFluxThrough", apart := false, narrowed := true }
def FnExactFluxThroughUptoSaid : Prop := fnExactFluxThroughUptoRow.holds Try.pinned (OpenSpec.upto fnExactFluxThroughSpec)

/-- 'laws.FnExactFillRect', WHERE WHAT IT READS IS OF BULK AT MOST 1048576: true; the input reads as it did. -/
def fnExactFillRectUptoRow : OpenClaim := { program := "ytinpafbadbnhhaa", sum := "3604c61b0364538aa92652e6ef6521089ed66aed5f1f3c7be2a343509a6d1ac5", func := "loop.example/g01201/laws.FnExactFillRect", spec := "fnExactFillRect", unfollowed := true, recurses := true, apart := false, narrowed := true }
def FnExactFillRectUptoSaid : Prop := fnExactFillRectUptoRow.holds Try.pinned (OpenSpec.upto fnExactFillRectSpec)

/-- 'laws.FnExactGradeLosses', WHERE WHAT IT READS IS OF BULK AT MOST 1048576: true; the input reads as it did. -/
def fnExactGradeLossesUptoRow : OpenClaim := { program := "ytinpafbadbnhhaa", sum := "3604c61b0364538aa92652e6ef6521089ed66aed5f1f3c7be2a343509a6d1ac5", func := "loop.example/g01201/laws.FnExactGradeLosses", spec := "fnExactGradeLosses", unfollowed := true, recurses := true, apart := false, narrowed := true }
def FnExactGradeLossesUptoSaid : Prop := fnExactGradeLossesUptoRow.holds Try.pinned (OpenSpec.upto fnExactGradeLossesSpec)

/-- 'laws.FnExactSpectrumOf', WHERE WHAT IT READS IS OF BULK AT MOST 1048576: true; the input reads as it did. -/
def fnExactSpectrumOfUptoRow : OpenClaim := { program := "ytinpafbadbnhhaa", sum := "3604c61b0364538aa92652e6ef6521089ed66aed5f1f3c7be2a343509a6d1ac5", func := "loop.example/g01201/laws.FnExactSpectrumOf", spec := "fnExactSpectrumOf", inPlace := ["math.Float32frombits", "math.Float64frombits", "math.Float64bits"], apart := false, narrowed := true }
def FnExactSpectrumOfUptoSaid : Prop := fnExactSpectrumOfUptoRow.holds Try.pinned (OpenSpec.upto fnExactSpectrumOfSpec)

/-- 'laws.FnBinsCut', WHERE WHAT IT READS IS OF BULK AT MOST 1048576: true; the input reads as it did. -/
def fnBinsCutUptoRow : OpenClaim := { program := "ytinpafbadbnhhaa", sum := "3604c61b0364538aa92652e6ef6521089ed66aed5f1f3c7be2a343509a6d1ac5", func := "loop.example/g01201/laws.FnBinsCut", spec := "fnBinsCut", inPlace := ["math.Float32frombits", "math.Float64frombits", "math.Float64bits"], unfollowed := true, recurses := true, apart := false, narrowed := true }
def FnBinsCutUptoSaid : Prop := fnBinsCutUptoRow.holds Try.pinned (OpenSpec.upto fnBinsCutSpec)

/-- 'laws.FnExactSlitSheet', WHERE WHAT IT READS IS OF BULK AT MOST 1048576: true; the input reads as it did. -/
def fnExactSlitSheetUptoRow : OpenClaim := { program := "ytinpafbadbnhhaa", sum := "3604c61b0364538aa92652e6ef6521089ed66aed5f1f3c7be2a343509a6d1ac5", func := "loop.example/g01201/laws.FnExactSlitSheet", spec := "fnExactSlitSheet", unfollowed := true, recurses := true, apart := false, narrowed := true }
def FnExactSlitSheetUptoSaid : Prop := fnExactSlitSheetUptoRow.holds Try.pinned (OpenSpec.upto fnExactSlitSheetSpec)

/-- 'laws.FnSpectraAdded', WHERE WHAT IT READS IS OF BULK AT MOST 1048576: true; the input reads as it did. -/
def fnSpectraAddedUptoRow : OpenClaim := { program := "ytinpafbadbnhhaa", sum := "3604c61b0364538aa92652e6ef6521089ed66aed5f1f3c7be2a343509a6d1ac5", func := "loop.example/g01201/laws.FnSpectraAdded", spec := "fnSpectraAdded", inPlace := ["math.Float64frombits", "math.Float64bits", "math.sqrt"], apart := false, narrowed := true }
def FnSpectraAddedUptoSaid : Prop := fnSpectraAddedUptoRow.holds Try.pinned (OpenSpec.upto fnSpectraAddedSpec)

/-- 'laws.FnExactCutStrip', WHERE WHAT IT READS IS OF BULK AT MOST 1048576: true; the input reads as it did. -/
def fnExactCutStripUptoRow : OpenClaim := { program := "ytinpafbadbnhhaa", sum := "3604c61b0364538aa92652e6ef6521089ed66aed5f1f3c7be2a343509a6d1ac5", func := "loop.example/g01201/laws.FnExactCutStrip", spec := "fnExactCutStrip", apart := false, narrowed := true }
def FnExactCutStripUptoSaid : Prop := fnExactCutStripUptoRow.holds Try.pinned (OpenSpec.upto fnExactCutStripSpec)

/-- 'laws.FnExactRayleighOf', WHERE WHAT IT READS IS OF BULK AT MOST 1048576: true; the input reads as it did. -/
def fnExactRayleighOfUptoRow : OpenClaim := { program := "ytinpafbadbnhhaa", sum := "3604c61b0364538aa92652e6ef6521089ed66aed5f1f3c7be2a343509a6d1ac5", func := "loop.example/g01201/laws.FnExactRayleighOf", spec := "fnExactRayleighOf", unfollowed := true, recurses := true, apart := false, narrowed := true }
def FnExactRayleighOfUptoSaid : Prop := fnExactRayleighOfUptoRow.holds Try.pinned (OpenSpec.upto fnExactRayleighOfSpec)

/-- 'laws.FnExactModeTurns', WHERE WHAT IT READS IS OF BULK AT MOST 1048576: true; the input reads as it did. -/
def fnExactModeTurnsUptoRow : OpenClaim := { program := "ytinpafbadbnhhaa", sum := "3604c61b0364538aa92652e6ef6521089ed66aed5f1f3c7be2a343509a6d1ac5", func := "loop.example/g01201/laws.FnExactModeTurns", spec := "fnExactModeTurns", inPlace := ["math.Float64frombits", "math.sqrt", "math.Float64bits"], apart := false, narrowed := true }
def FnExactModeTurnsUptoSaid : Prop := fnExactModeTurnsUptoRow.holds Try.pinned (OpenSpec.upto fnExactModeTurnsSpec)

/-- 'laws.FnExactTravelTurns', WHERE WHAT IT READS IS OF BULK AT MOST 1048576: true; the input reads as it did. -/
def fnExactTravelTurnsUptoRow : OpenClaim := { program := "ytinpafbadbnhhaa", sum := "3604c61b0364538aa92652e6ef6521089ed66aed5f1f3c7be2a343509a6d1ac5", func := "loop.example/g01201/laws.FnExactTravelTurns", spec := "fnExactTravelTurns", inPlace := ["math.Float64frombits", "math.sqrt", "math.Float64bits"], apart := false, narrowed := true }
def FnExactTravelTurnsUptoSaid : Prop := fnExactTravelTurnsUptoRow.holds Try.pinned (OpenSpec.upto fnExactTravelTurnsSpec)

/-- 'laws.FnExactRampField', WHERE WHAT IT READS IS OF BULK AT MOST 1048576: true; the input reads as it did. -/
def fnExactRampFieldUptoRow : OpenClaim := { program := "ytinpafbadbnhhaa", sum := "3604c61b0364538aa92652e6ef6521089ed66aed5f1f3c7be2a343509a6d1ac5", func := "loop.example/g01201/laws.FnExactRampField", spec := "fnExactRampField", unfollowed := true, recurses := true, apart := false, narrowed := true }
def FnExactRampFieldUptoSaid : Prop := fnExactRampFieldUptoRow.holds Try.pinned (OpenSpec.upto fnExactRampFieldSpec)

/-- 'laws.FnExactClearRect', WHERE WHAT IT READS IS OF BULK AT MOST 1048576: true; the input reads as it did. -/
def fnExactClearRectUptoRow : OpenClaim := { program := "ytinpafbadbnhhaa", sum := "3604c61b0364538aa92652e6ef6521089ed66aed5f1f3c7be2a343509a6d1ac5", func := "loop.example/g01201/laws.FnExactClearRect", spec := "fnExactClearRect", unfollowed := true, recurses := true, apart := false, narrowed := true }
def FnExactClearRectUptoSaid : Prop := fnExactClearRectUptoRow.holds Try.pinned (OpenSpec.upto fnExactClearRectSpec)

/-- 'laws.FnExactModeField', WHERE WHAT IT READS IS OF BULK AT MOST 1048576: true; the input reads as it did. -/
def fnExactModeFieldUptoRow : OpenClaim := { program := "ytinpafbadbnhhaa", sum := "3604c61b0364538aa92652e6ef6521089ed66aed5f1f3c7be2a343509a6d1ac5", func := "loop.example/g01201/laws.FnExactModeField", spec := "fnExactModeField", inPlace := ["math.Float64frombits", "math.Float64bits"], unfollowed := true, recurses := true, apart := false, narrowed := true }
def FnExactModeFieldUptoSaid : Prop := fnExactModeFieldUptoRow.holds Try.pinned (OpenSpec.upto fnExactModeFieldSpec)

/-- 'laws.FnRects', WHERE WHAT IT READS IS OF BULK AT MOST 1048576: true; the input reads as it did. -/
def fnRectsUptoRow : OpenClaim := { program := "ytinpafbadbnhhaa", sum := "3604c61b0364538aa92652e6ef6521089ed66aed5f1f3c7be2a343509a6d1ac5", func := "loop.example/g01201/laws.FnRects", spec := "fnRects", inPlace := ["math.Float32frombits", "math.Float32bits"], unfollowed := true, recurses := true, apart := false, narrowed := true }
def FnRectsUptoSaid : Prop := fnRectsUptoRow.holds Try.pinned (OpenSpec.upto fnRectsSpec)

/-- 'laws.FnGraded', WHERE WHAT IT READS IS OF BULK AT MOST 1048576: true; the input reads as it did. -/
def fnGradedUptoRow : OpenClaim := { program := "ytinpafbadbnhhaa", sum := "3604c61b0364538aa92652e6ef6521089ed66aed5f1f3c7be2a343509a6d1ac5", func := "loop.example/g01201/laws.FnGraded", spec := "fnGraded", inPlace := ["math.Float32frombits", "math.Float32bits"], unfollowed := true, recurses := true, apart := false, narrowed := true }
def FnGradedUptoSaid : Prop := fnGradedUptoRow.holds Try.pinned (OpenSpec.upto fnGradedSpec)

/-- 'laws.FnExactSleepingBlocks', WHERE WHAT IT READS IS OF BULK AT MOST 1048576: true; the input reads as it did. -/
def fnExactSleepingBlocksUptoRow : OpenClaim := { program := "ytinpafbadbnhhaa", sum := "3604c61b0364538aa92652e6ef6521089ed66aed5f1f3c7be2a343509a6d1ac5", func := "loop.example/g01201/laws.FnExactSleepingBlocks", spec := "fnExactSleepingBlocks", inPlace := ["math.Float32bits"], unfollowed := true, recurses := true, apart := false, narrowed := true }
def FnExactSleepingBlocksUptoSaid : Prop := fnExactSleepingBlocksUptoRow.holds Try.pinned (OpenSpec.upto fnExactSleepingBlocksSpec)

/-- 'laws.FnExactStepStrip', WHERE WHAT IT READS IS OF BULK AT MOST 1048576: true; the input reads as it did. -/
def fnExactStepStripUptoRow : OpenClaim := { program := "ytinpafbadbnhhaa", sum := "3604c61b0364538aa92652e6ef6521089ed66aed5f1f3c7be2a343509a6d1ac5", func := "loop.example/g01201/laws.FnExactStepStrip", spec := "fnExactStepStrip", apart := false, narrowed := true }
def FnExactStepStripUptoSaid : Prop := fnExactStepStripUptoRow.holds Try.pinned (OpenSpec.upto fnExactStepStripSpec)

/-- 'laws.FnExactStepAwake', WHERE WHAT IT READS IS OF BULK AT MOST 1048576: true; the input reads as it did. -/
def fnExactStepAwakeUptoRow : OpenClaim := { program := "ytinpafbadbnhhaa", sum := "3604c61b0364538aa92652e6ef6521089ed66aed5f1f3c7be2a343509a6d1ac5", func := "loop.example/g01201/laws.FnExactStepAwake", spec := "fnExactStepAwake", inPlace := ["math.Float32bits"], unfollowed := true, recurses := true, apart := false, narrowed := true }
def FnExactStepAwakeUptoSaid : Prop := fnExactStepAwakeUptoRow.holds Try.pinned (OpenSpec.upto fnExactStepAwakeSpec)

/-- 'laws.FnExactHaloRows', WHERE WHAT IT READS IS OF BULK AT MOST 1048576: true; the input reads as it did. -/
def fnExactHaloRowsUptoRow : OpenClaim := { program := "ytinpafbadbnhhaa", sum := "3604c61b0364538aa92652e6ef6521089ed66aed5f1f3c7be2a343509a6d1ac5", func := "loop.example/g01201/laws.FnExactHaloRows", spec := "fnExactHaloRows", recurses := true, apart := false, narrowed := true }
def FnExactHaloRowsUptoSaid : Prop := fnExactHaloRowsUptoRow.holds Try.pinned (OpenSpec.upto fnExactHaloRowsSpec)

/-- 'laws.FnSpectra', WHERE WHAT IT READS IS OF BULK AT MOST 1048576: true; the input reads as it did. -/
def fnSpectraUptoRow : OpenClaim := { program := "ytinpafbadbnhhaa", sum := "3604c61b0364538aa92652e6ef6521089ed66aed5f1f3c7be2a343509a6d1ac5", func := "loop.example/g01201/laws.FnSpectra", spec := "fnSpectra", inPlace := ["math.Float64frombits", "math.Float64bits", "math.sqrt"], unfollowed := true, recurses := true, apart := false, narrowed := true }
def FnSpectraUptoSaid : Prop := fnSpectraUptoRow.holds Try.pinned (OpenSpec.upto fnSpectraSpec)

/-- 'laws.FnExactMessagesOf', WHERE WHAT IT READS IS OF BULK AT MOST 1048576: true; the input reads as it did. -/
def fnExactMessagesOfUptoRow : OpenClaim := { program := "ytinpafbadbnhhaa", sum := "3604c61b0364538aa92652e6ef6521089ed66aed5f1f3c7be2a343509a6d1ac5", func := "loop.example/g01201/laws.FnExactMessagesOf", spec := "fnExactMessagesOf", unfollowed := true, recurses := true, apart := false, narrowed := true }
def FnExactMessagesOfUptoSaid : Prop := fnExactMessagesOfUptoRow.holds Try.pinned (OpenSpec.upto fnExactMessagesOfSpec)

end Rows
end Go.Proofs.Ytinpafbadbnhhaa
