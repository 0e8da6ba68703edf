/-
  No cell of these rows narrows 'for every input' (looked for: loops, veiled, ifaces, maps, wideKeys, modest, calm, conditions, laid).
  DERIVED. THE GIVEN ROWS OF THIS SEAT. 9 by the template 'for every input the law returns true; each argument reads behind the call as it read before'; 0 by the template 'total and deterministic' (their statements: YthccgmjanoeohaaTotals.lean).
  GIVEN WITH THE SEED: the statements are not yours to turn. If you find one false, say at which input.
  Laid BY PROGRAM, IN A SANDBOX (cutbox-rows.mjs): the forced cells as the released guide's own fill.sh prints them over the translation ab868a6db16fc45b… (all of the seat's roots in one cut). By AI agents, Wed Nov 11 2026. No macro, syntax, notation, axiom, sorry.
-/
import Derived.Test.YthccgmjanoeohaaChecked
import GoSem.Claim
import GoSem.ClaimJoined
import GoSem.ClaimMapViews
import Derived.JoinedTies
import Derived.KernelRfl
namespace Go.Proofs.Ythccgmjanoeohaa
/- THE CELL 'sum', in the pinned program and in every row, IS THE sha256 OF THE DUMP (.gsa) THAT YthccgmjanoeohaaProg.lean LOADS. Nothing in Lean hashes anything: it is a label: what it is worth is what the hold of that sum in a sandbox is worth. -/
noncomputable def Try.pinned : Pinned := { name := "ythccgmjanoeohaa", sum := "ab868a6db16fc45bf4d6bb7a15d12e9e494cf9aec2b6f319be29db417eefde93", checked := Try.checked }
namespace Rows
def none {H : Type} : Left H := { results := [], args := [] }

/-- 'laws.FnExactModeField': WHATEVER THE INPUT: true; the input reads as it did. -/
def fnExactModeFieldSpec : ChangeSpec := { name := "fnExactModeField", fn := fun _ => fun
  | [d1, d2, d3, d4] => { results := [.lit (.bool true)], args := [d1, d2, d3, d4] }
  | _ => none }
def fnExactModeFieldRow : OpenClaim := { program := "ythccgmjanoeohaa", sum := "ab868a6db16fc45bf4d6bb7a15d12e9e494cf9aec2b6f319be29db417eefde93", func := "loop.example/g01201/laws.FnExactModeField", spec := "fnExactModeField", inPlace := ["math.Float64frombits", "math.Float64bits"], unfollowed := true, recurses := true, apart := false }
def FnExactModeFieldSaid : Prop := fnExactModeFieldRow.holds Try.pinned (OpenSpec.ofChange fnExactModeFieldSpec)

/-- ITS FALSE NEIGHBOUR: 'it returns false'. Refute it at one input. -/
def fnExactModeFieldWrong : ChangeSpec := { name := "fnExactModeField", fn := fun _ => fun
  | [d1, d2, d3, d4] => { results := [.lit (.bool false)], args := [d1, d2, d3, d4] }
  | _ => none }
def FnExactModeFieldWrongFalsely : Prop := fnExactModeFieldRow.holds Try.pinned (OpenSpec.ofChange fnExactModeFieldWrong)

/-- 'laws.FnExactSleepingBlocks': WHATEVER THE INPUT: true; the input reads as it did. -/
def fnExactSleepingBlocksSpec : ChangeSpec := { name := "fnExactSleepingBlocks", fn := fun _ => fun
  | [d1, d2, d3] => { results := [.lit (.bool true)], args := [d1, d2, d3] }
  | _ => none }
def fnExactSleepingBlocksRow : OpenClaim := { program := "ythccgmjanoeohaa", sum := "ab868a6db16fc45bf4d6bb7a15d12e9e494cf9aec2b6f319be29db417eefde93", func := "loop.example/g01201/laws.FnExactSleepingBlocks", spec := "fnExactSleepingBlocks", inPlace := ["math.Float32bits"], unfollowed := true, recurses := true, apart := false }
def FnExactSleepingBlocksSaid : Prop := fnExactSleepingBlocksRow.holds Try.pinned (OpenSpec.ofChange fnExactSleepingBlocksSpec)

/-- ITS FALSE NEIGHBOUR: 'it returns false'. Refute it at one input. -/
def fnExactSleepingBlocksWrong : ChangeSpec := { name := "fnExactSleepingBlocks", fn := fun _ => fun
  | [d1, d2, d3] => { results := [.lit (.bool false)], args := [d1, d2, d3] }
  | _ => none }
def FnExactSleepingBlocksWrongFalsely : Prop := fnExactSleepingBlocksRow.holds Try.pinned (OpenSpec.ofChange fnExactSleepingBlocksWrong)

/-- 'laws.FnExactStepStrip': WHATEVER THE INPUT: true; the input reads as it did. -/
def fnExactStepStripSpec : ChangeSpec := { name := "fnExactStepStrip", fn := fun _ => fun
  | [d1, d2, d3] => { results := [.lit (.bool true)], args := [d1, d2, d3] }
  | _ => none }
def fnExactStepStripRow : OpenClaim := { program := "ythccgmjanoeohaa", sum := "ab868a6db16fc45bf4d6bb7a15d12e9e494cf9aec2b6f319be29db417eefde93", func := "loop.example/g01201/laws.FnExactStepStrip", spec := "fnExactStepStrip", apart := false }
def FnExactStepStripSaid : Prop := fnExactStepStripRow.holds Try.pinned (OpenSpec.ofChange fnExactStepStripSpec)

/-- ITS FALSE NEIGHBOUR: 'it returns false'. Refute it at one input. -/
def fnExactStepStripWrong : ChangeSpec := { name := "fnExactStepStrip", fn := fun _ => fun
  | [d1, d2, d3] => { results := [.lit (.bool false)], args := [d1, d2, d3] }
  | _ => none }
def FnExactStepStripWrongFalsely : Prop := fnExactStepStripRow.holds Try.pinned (OpenSpec.ofChange fnExactStepStripWrong)

/-- 'laws.FnExactStepAwake': WHATEVER THE INPUT: true; the input reads as it did. -/
def fnExactStepAwakeSpec : ChangeSpec := { name := "fnExactStepAwake", fn := fun _ => fun
  | [d1, d2, d3] => { results := [.lit (.bool true)], args := [d1, d2, d3] }
  | _ => none }
def fnExactStepAwakeRow : OpenClaim := { program := "ythccgmjanoeohaa", sum := "ab868a6db16fc45bf4d6bb7a15d12e9e494cf9aec2b6f319be29db417eefde93", func := "loop.example/g01201/laws.FnExactStepAwake", spec := "fnExactStepAwake", inPlace := ["math.Float32bits"], unfollowed := true, recurses := true, apart := false }
def FnExactStepAwakeSaid : Prop := fnExactStepAwakeRow.holds Try.pinned (OpenSpec.ofChange fnExactStepAwakeSpec)

/-- ITS FALSE NEIGHBOUR: 'it returns false'. Refute it at one input. -/
def fnExactStepAwakeWrong : ChangeSpec := { name := "fnExactStepAwake", fn := fun _ => fun
  | [d1, d2, d3] => { results := [.lit (.bool false)], args := [d1, d2, d3] }
  | _ => none }
def FnExactStepAwakeWrongFalsely : Prop := fnExactStepAwakeRow.holds Try.pinned (OpenSpec.ofChange fnExactStepAwakeWrong)

/-- 'laws.FnExactHaloRows': WHATEVER THE INPUT: true; the input reads as it did. -/
def fnExactHaloRowsSpec : ChangeSpec := { name := "fnExactHaloRows", fn := fun _ => fun
  | [d1, d2] => { results := [.lit (.bool true)], args := [d1, d2] }
  | _ => none }
def fnExactHaloRowsRow : OpenClaim := { program := "ythccgmjanoeohaa", sum := "ab868a6db16fc45bf4d6bb7a15d12e9e494cf9aec2b6f319be29db417eefde93", func := "loop.example/g01201/laws.FnExactHaloRows", spec := "fnExactHaloRows", recurses := true, apart := false }
def FnExactHaloRowsSaid : Prop := fnExactHaloRowsRow.holds Try.pinned (OpenSpec.ofChange fnExactHaloRowsSpec)

/-- ITS FALSE NEIGHBOUR: 'it returns false'. Refute it at one input. -/
def fnExactHaloRowsWrong : ChangeSpec := { name := "fnExactHaloRows", fn := fun _ => fun
  | [d1, d2] => { results := [.lit (.bool false)], args := [d1, d2] }
  | _ => none }
def FnExactHaloRowsWrongFalsely : Prop := fnExactHaloRowsRow.holds Try.pinned (OpenSpec.ofChange fnExactHaloRowsWrong)

/-- 'laws.FnExactSpectrumOf': WHATEVER THE INPUT: true; the input reads as it did. -/
def fnExactSpectrumOfSpec : ChangeSpec := { name := "fnExactSpectrumOf", fn := fun _ => fun
  | [d] => { results := [.lit (.bool true)], args := [d] }
  | _ => none }
def fnExactSpectrumOfRow : OpenClaim := { program := "ythccgmjanoeohaa", sum := "ab868a6db16fc45bf4d6bb7a15d12e9e494cf9aec2b6f319be29db417eefde93", func := "loop.example/g01201/laws.FnExactSpectrumOf", spec := "fnExactSpectrumOf", inPlace := ["math.Float32frombits", "math.Float64frombits", "math.Float64bits"], apart := false }
def FnExactSpectrumOfSaid : Prop := fnExactSpectrumOfRow.holds Try.pinned (OpenSpec.ofChange fnExactSpectrumOfSpec)

/-- ITS FALSE NEIGHBOUR: 'it returns false'. Refute it at one input. -/
def fnExactSpectrumOfWrong : ChangeSpec := { name := "fnExactSpectrumOf", fn := fun _ => fun
  | [d] => { results := [.lit (.bool false)], args := [d] }
  | _ => none }
def FnExactSpectrumOfWrongFalsely : Prop := fnExactSpectrumOfRow.holds Try.pinned (OpenSpec.ofChange fnExactSpectrumOfWrong)

/-- 'laws.FnExactMessagesOf': WHATEVER THE INPUT: true; the input reads as it did. -/
def fnExactMessagesOfSpec : ChangeSpec := { name := "fnExactMessagesOf", fn := fun _ => fun
  | [d1, d2] => { results := [.lit (.bool true)], args := [d1, d2] }
  | _ => none }
def fnExactMessagesOfRow : OpenClaim := { program := "ythccgmjanoeohaa", sum := "ab868a6db16fc45bf4d6bb7a15d12e9e494cf9aec2b6f319be29db417eefde93", func := "loop.example/g01201/laws.FnExactMessagesOf", spec := "fnExactMessagesOf", unfollowed := true, recurses := true, apart := false }
def FnExactMessagesOfSaid : Prop := fnExactMessagesOfRow.holds Try.pinned (OpenSpec.ofChange fnExactMessagesOfSpec)

/-- ITS FALSE NEIGHBOUR: 'it returns false'. Refute it at one input. -/
def fnExactMessagesOfWrong : ChangeSpec := { name := "fnExactMessagesOf", fn := fun _ => fun
  | [d1, d2] => { results := [.lit (.bool false)], args := [d1, d2] }
  | _ => none }
def FnExactMessagesOfWrongFalsely : Prop := fnExactMessagesOfRow.holds Try.pinned (OpenSpec.ofChange fnExactMessagesOfWrong)

/-- 'laws.FnGraded': WHATEVER THE INPUT: true; the input reads as it did. -/
def fnGradedSpec : ChangeSpec := { name := "fnGraded", fn := fun _ => fun
  | [d1, d2] => { results := [.lit (.bool true)], args := [d1, d2] }
  | _ => none }
def fnGradedRow : OpenClaim := { program := "ythccgmjanoeohaa", sum := "ab868a6db16fc45bf4d6bb7a15d12e9e494cf9aec2b6f319be29db417eefde93", func := "loop.example/g01201/laws.FnGraded", spec := "fnGraded", inPlace := ["math.Float32frombits", "math.Float32bits"], unfollowed := true, recurses := true, apart := false }
def FnGradedSaid : Prop := fnGradedRow.holds Try.pinned (OpenSpec.ofChange fnGradedSpec)

/-- ITS FALSE NEIGHBOUR: 'it returns false'. Refute it at one input. -/
def fnGradedWrong : ChangeSpec := { name := "fnGraded", fn := fun _ => fun
  | [d1, d2] => { results := [.lit (.bool false)], args := [d1, d2] }
  | _ => none }
def FnGradedWrongFalsely : Prop := fnGradedRow.holds Try.pinned (OpenSpec.ofChange fnGradedWrong)

/-- 'laws.FnAwake': WHATEVER THE INPUT: true; the input reads as it did. -/
def fnAwakeSpec : ChangeSpec := { name := "fnAwake", fn := fun _ => fun
  | [d1, d2] => { results := [.lit (.bool true)], args := [d1, d2] }
  | _ => none }
def fnAwakeRow : OpenClaim := { program := "ythccgmjanoeohaa", sum := "ab868a6db16fc45bf4d6bb7a15d12e9e494cf9aec2b6f319be29db417eefde93", func := "loop.example/g01201/laws.FnAwake", spec := "fnAwake", inPlace := ["math.Float32frombits", "math.Float32bits"], unfollowed := true, recurses := true, apart := false }
def FnAwakeSaid : Prop := fnAwakeRow.holds Try.pinned (OpenSpec.ofChange fnAwakeSpec)

/-- ITS FALSE NEIGHBOUR: 'it returns false'. Refute it at one input. -/
def fnAwakeWrong : ChangeSpec := { name := "fnAwake", fn := fun _ => fun
  | [d1, d2] => { results := [.lit (.bool false)], args := [d1, d2] }
  | _ => none }
def FnAwakeWrongFalsely : Prop := fnAwakeRow.holds Try.pinned (OpenSpec.ofChange fnAwakeWrong)

/- THE SECOND FORM. 'bulk': how many values and letters a reading holds, each counted each time it is reached (what is shared counts as often as it is met; a slice's spare places count too). A statement '..UptoSaid' is the law's where the arguments, and the package variables that the reading takes, are together of bulk at most 1048576: NARROWER than '..Said'. Prove '..Said' where nothing that the law and all that it calls make is longer than what came in: it says more and counts as full. Else prove '..UptoSaid'. A law counts once. -/
mutual
def uptoBulk {H : Type} : DataW H → Nat
  | .lit (.string bytes) => bytes.length + 1
  | .lit _ => 1
  | .nil => 1
  | .ptr d => uptoBulk d + 1
  | .slice elems spare => uptoBulkAll elems + uptoBulkAll spare + 1
  | .agg parts => uptoBulkAll parts + 1
  | .iface _ d => uptoBulk d + 1
  | .map entries => uptoBulkEntries entries + 1
  | .held _ => 1
def uptoBulkAll {H : Type} : List (DataW H) → Nat
  | [] => 0
  | d :: r => uptoBulk d + uptoBulkAll r
def uptoBulkEntries {H : Type} : List (Lit × DataW H) → Nat
  | [] => 0
  | x :: r => uptoBulkEntry x + uptoBulkEntries r
def uptoBulkEntry {H : Type} : Lit × DataW H → Nat
  | (.string bytes, d) => bytes.length + uptoBulk d + 1
  | (_, d) => uptoBulk d + 1
 end
def uptoSmall : (H : Type) → List (DataW H) → Bool := fun _ ds => decide (uptoBulkAll ds ≤ 1048576)
def OpenSpec.upto (s : _root_.Go.ChangeSpec) : _root_.Go.OpenSpec := { _root_.Go.OpenSpec.ofChange s with cond := some uptoSmall }

/-- 'laws.FnExactModeField', WHERE WHAT IT READS IS OF BULK AT MOST 1048576: true; the input reads as it did. -/
def fnExactModeFieldUptoRow : OpenClaim := { program := "ythccgmjanoeohaa", sum := "ab868a6db16fc45bf4d6bb7a15d12e9e494cf9aec2b6f319be29db417eefde93", func := "loop.example/g01201/laws.FnExactModeField", spec := "fnExactModeField", inPlace := ["math.Float64frombits", "math.Float64bits"], unfollowed := true, recurses := true, apart := false, narrowed := true }
def FnExactModeFieldUptoSaid : Prop := fnExactModeFieldUptoRow.holds Try.pinned (OpenSpec.upto fnExactModeFieldSpec)

/-- 'laws.FnExactSleepingBlocks', WHERE WHAT IT READS IS OF BULK AT MOST 1048576: true; the input reads as it did. -/
def fnExactSleepingBlocksUptoRow : OpenClaim := { program := "ythccgmjanoeohaa", sum := "ab868a6db16fc45bf4d6bb7a15d12e9e494cf9aec2b6f319be29db417eefde93", func := "loop.example/g01201/laws.FnExactSleepingBlocks", spec := "fnExactSleepingBlocks", inPlace := ["math.Float32bits"], unfollowed := true, recurses := true, apart := false, narrowed := true }
def FnExactSleepingBlocksUptoSaid : Prop := fnExactSleepingBlocksUptoRow.holds Try.pinned (OpenSpec.upto fnExactSleepingBlocksSpec)

/-- 'laws.FnExactStepStrip', WHERE WHAT IT READS IS OF BULK AT MOST 1048576: true; the input reads as it did. -/
def fnExactStepStripUptoRow : OpenClaim := { program := "ythccgmjanoeohaa", sum := "ab868a6db16fc45bf4d6bb7a15d12e9e494cf9aec2b6f319be29db417eefde93", func := "loop.example/g01201/laws.FnExactStepStrip", spec := "fnExactStepStrip", apart := false, narrowed := true }
def FnExactStepStripUptoSaid : Prop := fnExactStepStripUptoRow.holds Try.pinned (OpenSpec.upto fnExactStepStripSpec)

/-- 'laws.FnExactStepAwake', WHERE WHAT IT READS IS OF BULK AT MOST 1048576: true; the input reads as it did. -/
def fnExactStepAwakeUptoRow : OpenClaim := { program := "ythccgmjanoeohaa", sum := "ab868a6db16fc45bf4d6bb7a15d12e9e494cf9aec2b6f319be29db417eefde93", func := "loop.example/g01201/laws.FnExactStepAwake", spec := "fnExactStepAwake", inPlace := ["math.Float32bits"], unfollowed := true, recurses := true, apart := false, narrowed := true }
def FnExactStepAwakeUptoSaid : Prop := fnExactStepAwakeUptoRow.holds Try.pinned (OpenSpec.upto fnExactStepAwakeSpec)

/-- 'laws.FnExactHaloRows', WHERE WHAT IT READS IS OF BULK AT MOST 1048576: true; the input reads as it did. -/
def fnExactHaloRowsUptoRow : OpenClaim := { program := "ythccgmjanoeohaa", sum := "ab868a6db16fc45bf4d6bb7a15d12e9e494cf9aec2b6f319be29db417eefde93", func := "loop.example/g01201/laws.FnExactHaloRows", spec := "fnExactHaloRows", recurses := true, apart := false, narrowed := true }
def FnExactHaloRowsUptoSaid : Prop := fnExactHaloRowsUptoRow.holds Try.pinned (OpenSpec.upto fnExactHaloRowsSpec)

/-- 'laws.FnExactSpectrumOf', WHERE WHAT IT READS IS OF BULK AT MOST 1048576: true; the input reads as it did. -/
def fnExactSpectrumOfUptoRow : OpenClaim := { program := "ythccgmjanoeohaa", sum := "ab868a6db16fc45bf4d6bb7a15d12e9e494cf9aec2b6f319be29db417eefde93", func := "loop.example/g01201/laws.FnExactSpectrumOf", spec := "fnExactSpectrumOf", inPlace := ["math.Float32frombits", "math.Float64frombits", "math.Float64bits"], apart := false, narrowed := true }
def FnExactSpectrumOfUptoSaid : Prop := fnExactSpectrumOfUptoRow.holds Try.pinned (OpenSpec.upto fnExactSpectrumOfSpec)

/-- 'laws.FnExactMessagesOf', WHERE WHAT IT READS IS OF BULK AT MOST 1048576: true; the input reads as it did. -/
def fnExactMessagesOfUptoRow : OpenClaim := { program := "ythccgmjanoeohaa", sum := "ab868a6db16fc45bf4d6bb7a15d12e9e494cf9aec2b6f319be29db417eefde93", func := "loop.example/g01201/laws.FnExactMessagesOf", spec := "fnExactMessagesOf", unfollowed := true, recurses := true, apart := false, narrowed := true }
def FnExactMessagesOfUptoSaid : Prop := fnExactMessagesOfUptoRow.holds Try.pinned (OpenSpec.upto fnExactMessagesOfSpec)

/-- 'laws.FnGraded', WHERE WHAT IT READS IS OF BULK AT MOST 1048576: true; the input reads as it did. -/
def fnGradedUptoRow : OpenClaim := { program := "ythccgmjanoeohaa", sum := "ab868a6db16fc45bf4d6bb7a15d12e9e494cf9aec2b6f319be29db417eefde93", func := "loop.example/g01201/laws.FnGraded", spec := "fnGraded", inPlace := ["math.Float32frombits", "math.Float32bits"], unfollowed := true, recurses := true, apart := false, narrowed := true }
def FnGradedUptoSaid : Prop := fnGradedUptoRow.holds Try.pinned (OpenSpec.upto fnGradedSpec)

/-- 'laws.FnAwake', WHERE WHAT IT READS IS OF BULK AT MOST 1048576: true; the input reads as it did. -/
def fnAwakeUptoRow : OpenClaim := { program := "ythccgmjanoeohaa", sum := "ab868a6db16fc45bf4d6bb7a15d12e9e494cf9aec2b6f319be29db417eefde93", func := "loop.example/g01201/laws.FnAwake", spec := "fnAwake", inPlace := ["math.Float32frombits", "math.Float32bits"], unfollowed := true, recurses := true, apart := false, narrowed := true }
def FnAwakeUptoSaid : Prop := fnAwakeUptoRow.holds Try.pinned (OpenSpec.upto fnAwakeSpec)

end Rows
end Go.Proofs.Ythccgmjanoeohaa
