/- Functions of the program: what each computes, as a plain function, and that the call comes to it. Written by a program (wip/gen). -/
import Derived.Test.YtmgoblppedmdhaaGBase
import Derived.Test.YtmgoblppedmdhaaGTrig
import Derived.Test.YtmgoblppedmdhaaGCopy
import Derived.Test.YtmgoblppedmdhaaGSheet
import Derived.Test.YtmgoblppedmdhaaGField
import Derived.Test.YtmgoblppedmdhaaGRec
import Derived.Test.YtmgoblppedmdhaaLibB
import Derived.Test.YtmgoblppedmdhaaProg
import Derived.KernelRfl
set_option linter.unusedVariables false
namespace Go.H
open Go Go.Proofs



noncomputable def impl_validSheet (a0_0 : Int) (a0_1 : Int) (a0_2 : Bool) (a0_3 : List (Option Nat)) (a0_4 : List (Option Nat)) : Option (Int × Int × Bool × (List (Option Nat)) × (List (Option Nat)) × Bool) :=
 ((impl_ValidSheet a0_0 a0_1 a0_2 a0_3 a0_4).bind fun (x1 : Bool) => (if (!x1) = true then some (0, 0, false, ([] : List (Option Nat)), ([] : List (Option Nat)), false) else some (a0_0, a0_1, a0_2, a0_3, a0_4, true)))

noncomputable def impl_PlainSheet.s0 (a0 : Int) (a1 : Int) (a3 : Option Nat) (x4 : Int) (x5 : List (Option Nat)) : Option ((Int × (List (Option Nat))) ⊕ (Int × Bool × (List (Option Nat)))) :=
 (if (decide (x4 < (IntKind.wrap .i64 (a0 * a1)))) = true then (if x5.length + [a3].length ≤ 1000000000 then some (.inl (IntKind.wrap .i64 (x4 + 1), x5 ++ [a3])) else none) else some (.inr (x4, decide (x4 < (IntKind.wrap .i64 (a0 * a1))), x5)))

noncomputable def impl_PlainSheet (a0 : Int) (a1 : Int) (a2 : Bool) (a3 : Option Nat) : Option (Int × Int × Bool × (List (Option Nat)) × (List (Option Nat)) × Bool) :=
 ((((impl_within a0 3 16).bind fun (x2 : Bool) => (if (!x2) = true then some true else ((impl_within a1 3 16).bind fun (x3 : Bool) => some (!x3)))) : Option Bool).bind fun (x1 : Bool) => (if x1 = true then some (0, 0, false, ([] : List (Option Nat)), ([] : List (Option Nat)), false) else (if 0 ≤ (IntKind.wrap .i64 (a0 * a1)) ∧ (IntKind.wrap .i64 (a0 * a1)) ≤ 1000000000 then ((loopF (fun (s : (Int × (List (Option Nat)))) => impl_PlainSheet.s0 a0 a1 a3 s.1 s.2) (0, ([] : List (Option Nat)))).bind fun (⟨x6, x7, x8⟩ : (Int × Bool × (List (Option Nat)))) => ((impl_validSheet a0 a1 a2 x8 (List.replicate (Int.toNat (IntKind.wrap .i64 (a0 * a1))) (some 0))).bind fun (x9 : (Int × Int × Bool × (List (Option Nat)) × (List (Option Nat)) × Bool)) => some (x9.1, x9.2.1, x9.2.2.1, x9.2.2.2.1, x9.2.2.2.2.1, x9.2.2.2.2.2))) else none)))

noncomputable def impl_isOrder (a0 : Int) : Option Bool :=
 ((impl_within a0 1 8).bind fun (x1 : Bool) => some x1)

noncomputable def impl_isMode (a0_0 : Int) (a0_1 : Int) (a0_2 : Bool) (a0_3 : List (Option Nat)) (a0_4 : List (Option Nat)) (a1 : Int) (a2 : Int) : Option Bool :=
 ((((impl_ValidSheet a0_0 a0_1 a0_2 a0_3 a0_4).bind fun (x2 : Bool) => (if x2 = true then (if (!a0_2) = true then ((impl_isOrder a1).bind fun (x3 : Bool) => (if x3 = true then ((impl_isOrder a2).bind fun (x4 : Bool) => some x4) else some false)) else some false) else some false)) : Option Bool).bind fun (x1 : Bool) => some x1)

noncomputable def impl_zeroField (a0_0 : Int) (a0_1 : Int) (a0_2 : Bool) (a0_3 : List (Option Nat)) (a0_4 : List (Option Nat)) : Option ((List (Option Nat)) × (List (Option Nat)) × (List (Option Nat))) :=
 (if 0 ≤ (IntKind.wrap .i64 (a0_0 * a0_1)) ∧ (IntKind.wrap .i64 (a0_0 * a0_1)) ≤ 1000000000 then (if 0 ≤ (IntKind.wrap .i64 (a0_0 * a0_1)) ∧ (IntKind.wrap .i64 (a0_0 * a0_1)) ≤ 1000000000 then (if 0 ≤ (IntKind.wrap .i64 (a0_0 * a0_1)) ∧ (IntKind.wrap .i64 (a0_0 * a0_1)) ≤ 1000000000 then some (List.replicate (Int.toNat (IntKind.wrap .i64 (a0_0 * a0_1))) (some 0), List.replicate (Int.toNat (IntKind.wrap .i64 (a0_0 * a0_1))) (some 0), List.replicate (Int.toNat (IntKind.wrap .i64 (a0_0 * a0_1))) (some 0)) else none) else none) else none)

noncomputable def impl_quotient (a0 : Int) (a1 : Int) : Option (Option Nat) :=
 some (fop .quo .f32 (fofi .f32 a0) (fofi .f32 a1))

noncomputable def impl_modeField_1_2 (a0 : Int) (a1 : Int) (a2 : Int) (ae0_0 : Int) (ae0_1 : Int) (ae0_2 : Bool) (ae0_3 : List (Option Nat)) (ae0_4 : List (Option Nat)) (ae1_0 : Option Nat) (ae2_0 : Int) (ae3_0 : Int) (ae4_0 : List (Option Nat)) (ae4_1 : List (Option Nat)) (ae4_2 : List (Option Nat)) : Option (Int × Int × Bool × (Option Nat) × Int × Int × (List (Option Nat)) × (List (Option Nat)) × (List (Option Nat))) :=
 ((impl_Sheet_isBorder ae0_0 ae0_1 ae0_2 ae0_3 ae0_4 a0 a1).bind fun (x1 : Bool) => (((if (!x1) = true then ((impl_quotient (IntKind.wrap .i64 (ae2_0 * a0)) (IntKind.wrap .i64 (2 * (IntKind.wrap .i64 (ae0_0 - 1))))).bind fun (x3 : Option Nat) => ((impl_SineTurns x3).bind fun (x4 : Option Nat) => ((impl_quotient (IntKind.wrap .i64 (ae3_0 * a1)) (IntKind.wrap .i64 (2 * (IntKind.wrap .i64 (ae0_1 - 1))))).bind fun (x5 : Option Nat) => ((impl_SineTurns x5).bind fun (x6 : Option Nat) => ((idx ae4_0 a2).bind fun (x7 : Option Nat) => ((setF ae4_0 a2 (fop .mul .f32 (fop .mul .f32 ae1_0 x4) x6)).bind fun (x8 : List (Option Nat)) => some x8)))))) else some ae4_0) : Option (List (Option Nat))).bind fun (x2 : List (Option Nat)) => some (ae0_0, ae0_1, ae0_2, ae1_0, ae2_0, ae3_0, x2, ae4_1, ae4_2)))

noncomputable def impl_Sheet_each__impl_modeField_1.s1 (a0_0 : Int) (a0_1 : Int) (a0_2 : Bool) (a0_3 : List (Option Nat)) (a0_4 : List (Option Nat)) (ae0_3 : List (Option Nat)) (ae0_4 : List (Option Nat)) (x1 : Int) (x22 : Int) (x23 : Int) (x24 : Int) (x25 : Bool) (x26 : Option Nat) (x27 : Int) (x28 : Int) (x29 : List (Option Nat)) (x30 : List (Option Nat)) (x31 : List (Option Nat)) : Option ((Int × Int × Int × Bool × (Option Nat) × Int × Int × (List (Option Nat)) × (List (Option Nat)) × (List (Option Nat))) ⊕ (Int × Bool × Int × Int × Bool × (Option Nat) × Int × Int × (List (Option Nat)) × (List (Option Nat)) × (List (Option Nat)))) :=
 (if (decide (x22 < a0_0)) = true then ((impl_Sheet_at a0_0 a0_1 a0_2 a0_3 a0_4 x22 x1).bind fun (x43 : Int) => ((impl_modeField_1_2 x22 x1 x43 x23 x24 x25 ae0_3 ae0_4 x26 x27 x28 x29 x30 x31).bind fun (x44 : (Int × Int × Bool × (Option Nat) × Int × Int × (List (Option Nat)) × (List (Option Nat)) × (List (Option Nat)))) => some (.inl (IntKind.wrap .i64 (x22 + 1), x44.1, x44.2.1, x44.2.2.1, x44.2.2.2.1, x44.2.2.2.2.1, x44.2.2.2.2.2.1, x44.2.2.2.2.2.2.1, x44.2.2.2.2.2.2.2.1, x44.2.2.2.2.2.2.2.2)))) else some (.inr (x22, decide (x22 < a0_0), x23, x24, x25, x26, x27, x28, x29, x30, x31)))

noncomputable def impl_Sheet_each__impl_modeField_1.s0 (a0_0 : Int) (a0_1 : Int) (a0_2 : Bool) (a0_3 : List (Option Nat)) (a0_4 : List (Option Nat)) (ae0_3 : List (Option Nat)) (ae0_4 : List (Option Nat)) (x1 : Int) (x2 : Int) (x3 : Int) (x4 : Bool) (x5 : Option Nat) (x6 : Int) (x7 : Int) (x8 : List (Option Nat)) (x9 : List (Option Nat)) (x10 : List (Option Nat)) : Option ((Int × Int × Int × Bool × (Option Nat) × Int × Int × (List (Option Nat)) × (List (Option Nat)) × (List (Option Nat))) ⊕ (Int × Bool × Int × Int × Bool × (Option Nat) × Int × Int × (List (Option Nat)) × (List (Option Nat)) × (List (Option Nat)))) :=
 (if (decide (x1 < a0_1)) = true then ((loopF (fun (s : (Int × Int × Int × Bool × (Option Nat) × Int × Int × (List (Option Nat)) × (List (Option Nat)) × (List (Option Nat)))) => impl_Sheet_each__impl_modeField_1.s1 a0_0 a0_1 a0_2 a0_3 a0_4 ae0_3 ae0_4 x1 s.1 s.2.1 s.2.2.1 s.2.2.2.1 s.2.2.2.2.1 s.2.2.2.2.2.1 s.2.2.2.2.2.2.1 s.2.2.2.2.2.2.2.1 s.2.2.2.2.2.2.2.2.1 s.2.2.2.2.2.2.2.2.2) (0, x2, x3, x4, x5, x6, x7, x8, x9, x10)).bind fun (⟨x32, x33, x34, x35, x36, x37, x38, x39, x40, x41, x42⟩ : (Int × Bool × Int × Int × Bool × (Option Nat) × Int × Int × (List (Option Nat)) × (List (Option Nat)) × (List (Option Nat)))) => some (.inl (IntKind.wrap .i64 (x1 + 1), x34, x35, x36, x37, x38, x39, x40, x41, x42))) else some (.inr (x1, decide (x1 < a0_1), x2, x3, x4, x5, x6, x7, x8, x9, x10)))

noncomputable def impl_Sheet_each__impl_modeField_1 (a0_0 : Int) (a0_1 : Int) (a0_2 : Bool) (a0_3 : List (Option Nat)) (a0_4 : List (Option Nat)) (ae0_0 : Int) (ae0_1 : Int) (ae0_2 : Bool) (ae0_3 : List (Option Nat)) (ae0_4 : List (Option Nat)) (ae1_0 : Option Nat) (ae2_0 : Int) (ae3_0 : Int) (ae4_0 : List (Option Nat)) (ae4_1 : List (Option Nat)) (ae4_2 : List (Option Nat)) : Option (Int × Int × Bool × (Option Nat) × Int × Int × (List (Option Nat)) × (List (Option Nat)) × (List (Option Nat))) :=
 ((loopF (fun (s : (Int × Int × Int × Bool × (Option Nat) × Int × Int × (List (Option Nat)) × (List (Option Nat)) × (List (Option Nat)))) => impl_Sheet_each__impl_modeField_1.s0 a0_0 a0_1 a0_2 a0_3 a0_4 ae0_3 ae0_4 s.1 s.2.1 s.2.2.1 s.2.2.2.1 s.2.2.2.2.1 s.2.2.2.2.2.1 s.2.2.2.2.2.2.1 s.2.2.2.2.2.2.2.1 s.2.2.2.2.2.2.2.2.1 s.2.2.2.2.2.2.2.2.2) (0, ae0_0, ae0_1, ae0_2, ae1_0, ae2_0, ae3_0, ae4_0, ae4_1, ae4_2)).bind fun (⟨x11, x12, x13, x14, x15, x16, x17, x18, x19, x20, x21⟩ : (Int × Bool × Int × Int × Bool × (Option Nat) × Int × Int × (List (Option Nat)) × (List (Option Nat)) × (List (Option Nat)))) => some (x13, x14, x15, x16, x17, x18, x19, x20, x21))

noncomputable def impl_modeField (a0_0 : Int) (a0_1 : Int) (a0_2 : Bool) (a0_3 : List (Option Nat)) (a0_4 : List (Option Nat)) (a1 : Int) (a2 : Int) (a3 : Option Nat) : Option ((List (Option Nat)) × (List (Option Nat)) × (List (Option Nat))) :=
 ((impl_zeroField a0_0 a0_1 a0_2 a0_3 a0_4).bind fun (x1 : ((List (Option Nat)) × (List (Option Nat)) × (List (Option Nat)))) => ((impl_Sheet_each__impl_modeField_1 a0_0 a0_1 a0_2 a0_3 a0_4 a0_0 a0_1 a0_2 a0_3 a0_4 a3 a1 a2 x1.1 x1.2.1 x1.2.2).bind fun (x2 : (Int × Int × Bool × (Option Nat) × Int × Int × (List (Option Nat)) × (List (Option Nat)) × (List (Option Nat)))) => some (x2.2.2.2.2.2.2.1, x2.2.2.2.2.2.2.2.1, x2.2.2.2.2.2.2.2.2)))

noncomputable def impl_ModeField (a0_0 : Int) (a0_1 : Int) (a0_2 : Bool) (a0_3 : List (Option Nat)) (a0_4 : List (Option Nat)) (a1 : Int) (a2 : Int) (a3 : Option Nat) : Option ((List (Option Nat)) × (List (Option Nat)) × (List (Option Nat)) × Bool) :=
 ((((impl_isMode a0_0 a0_1 a0_2 a0_3 a0_4 a1 a2).bind fun (x2 : Bool) => (if (!x2) = true then some true else ((impl_IsFinite a3).bind fun (x3 : Bool) => some (!x3)))) : Option Bool).bind fun (x1 : Bool) => (if x1 = true then some (([] : List (Option Nat)), ([] : List (Option Nat)), ([] : List (Option Nat)), false) else ((impl_modeField a0_0 a0_1 a0_2 a0_3 a0_4 a1 a2 a3).bind fun (x4 : ((List (Option Nat)) × (List (Option Nat)) × (List (Option Nat)))) => some (x4.1, x4.2.1, x4.2.2, true))))

noncomputable def impl_square (a0 : Option Nat) : Option (Option Nat) :=
 some (fop .mul .f64 (wid a0) (wid a0))

noncomputable def impl_shareOf.s0 (a1_0 : List (Option Nat)) (x1 : ((List (Option Nat)) × (List (Option Nat)) × (List (Option Nat)))) (x2 : Option Nat) (x3 : Option Nat) (x4 : Int) : Option (((Option Nat) × (Option Nat) × Int) ⊕ ((Option Nat) × (Option Nat) × Int × Bool)) :=
 (if (decide (x4 < (x1.1.length : Int))) = true then ((idx x1.1 x4).bind fun (x9 : Option Nat) => ((idx a1_0 x4).bind fun (x10 : Option Nat) => ((impl_square x9).bind fun (x11 : Option Nat) => some (.inl (fop .add .f64 x2 (fop .mul .f64 (wid x10) (wid x9)), fop .add .f64 x3 x11, IntKind.wrap .i64 (x4 + 1)))))) else some (.inr (x2, x3, x4, decide (x4 < (x1.1.length : Int)))))

noncomputable def impl_shareOf (a0_0 : Int) (a0_1 : Int) (a0_2 : Bool) (a0_3 : List (Option Nat)) (a0_4 : List (Option Nat)) (a1_0 : List (Option Nat)) (a1_1 : List (Option Nat)) (a1_2 : List (Option Nat)) (a2 : Int) (a3 : Int) : Option ((Option Nat) × Bool) :=
 ((impl_modeField a0_0 a0_1 a0_2 a0_3 a0_4 a2 a3 (some 1065353216)).bind fun (x1 : ((List (Option Nat)) × (List (Option Nat)) × (List (Option Nat)))) => ((loopF (fun (s : ((Option Nat) × (Option Nat) × Int)) => impl_shareOf.s0 a1_0 x1 s.1 s.2.1 s.2.2) ((some 0), (some 0), 0)).bind fun (⟨x5, x6, x7, x8⟩ : ((Option Nat) × (Option Nat) × Int × Bool)) => (if (fcmp .eql .f64 x6 (some 0)) = true then some ((some 0), false) else ((fcv .f64 .f32 (fop .quo .f64 x5 x6)).bind fun (x12 : Option Nat) => some (x12, true)))))

noncomputable def impl_ShareOf (a0_0 : Int) (a0_1 : Int) (a0_2 : Bool) (a0_3 : List (Option Nat)) (a0_4 : List (Option Nat)) (a1_0 : List (Option Nat)) (a1_1 : List (Option Nat)) (a1_2 : List (Option Nat)) (a2 : Int) (a3 : Int) : Option ((Option Nat) × Bool) :=
 ((((impl_isMode a0_0 a0_1 a0_2 a0_3 a0_4 a2 a3).bind fun (x2 : Bool) => (if (!x2) = true then some true else ((impl_IsField a0_0 a0_1 a0_2 a0_3 a0_4 a1_0 a1_1 a1_2).bind fun (x3 : Bool) => some (!x3)))) : Option Bool).bind fun (x1 : Bool) => (if x1 = true then some ((some 0), false) else ((impl_shareOf a0_0 a0_1 a0_2 a0_3 a0_4 a1_0 a1_1 a1_2 a2 a3).bind fun (x4 : ((Option Nat) × Bool)) => some (x4.1, x4.2))))

noncomputable def impl_WithoutMode.s0 (x1 : ((Option Nat) × Bool)) (x3 : ((List (Option Nat)) × (List (Option Nat)) × (List (Option Nat)))) (x4 : Int) (x5 : List (Option Nat)) : Option ((Int × (List (Option Nat))) ⊕ (Int × Bool × (List (Option Nat)))) :=
 (if (decide (x4 < (x3.1.length : Int))) = true then ((idx x3.1 x4).bind fun (x9 : Option Nat) => ((idx x5 x4).bind fun (x10 : Option Nat) => ((idx x5 x4).bind fun (x11 : Option Nat) => ((setF x5 x4 (fop .sub .f32 x10 (fop .mul .f32 x1.1 x9))).bind fun (x12 : List (Option Nat)) => some (.inl (IntKind.wrap .i64 (x4 + 1), x12)))))) else some (.inr (x4, decide (x4 < (x3.1.length : Int)), x5)))

noncomputable def impl_WithoutMode (a0_0 : Int) (a0_1 : Int) (a0_2 : Bool) (a0_3 : List (Option Nat)) (a0_4 : List (Option Nat)) (a1_0 : List (Option Nat)) (a1_1 : List (Option Nat)) (a1_2 : List (Option Nat)) (a2 : Int) (a3 : Int) : Option ((List (Option Nat)) × (List (Option Nat)) × (List (Option Nat)) × Bool) :=
 ((impl_ShareOf a0_0 a0_1 a0_2 a0_3 a0_4 a1_0 a1_1 a1_2 a2 a3).bind fun (x1 : ((Option Nat) × Bool)) => (if (!x1.2) = true then some (([] : List (Option Nat)), ([] : List (Option Nat)), ([] : List (Option Nat)), false) else ((impl_copyField a1_0 a1_1 a1_2).bind fun (x2 : ((List (Option Nat)) × (List (Option Nat)) × (List (Option Nat)))) => ((impl_modeField a0_0 a0_1 a0_2 a0_3 a0_4 a2 a3 (some 1065353216)).bind fun (x3 : ((List (Option Nat)) × (List (Option Nat)) × (List (Option Nat)))) => ((loopF (fun (s : (Int × (List (Option Nat)))) => impl_WithoutMode.s0 x1 x3 s.1 s.2) (0, x2.1)).bind fun (⟨x6, x7, x8⟩ : (Int × Bool × (List (Option Nat)))) => ((impl_validField a0_0 a0_1 a0_2 a0_3 a0_4 x8 x2.2.1 x2.2.2).bind fun (x13 : ((List (Option Nat)) × (List (Option Nat)) × (List (Option Nat)) × Bool)) => some (x13.1, x13.2.1, x13.2.2.1, x13.2.2.2)))))))

noncomputable def impl_AddFields_1 (a0 : Option Nat) (a1 : Option Nat) : Option (Option Nat) :=
 some (fop .add .f32 a0 a1)

noncomputable def impl_both__impl_AddFields_1.s0 (a0 : List (Option Nat)) (a1 : List (Option Nat)) (x1 : List (Option Nat)) (x2 : Int) : Option (((List (Option Nat)) × Int) ⊕ (Int × Bool × (List (Option Nat)))) :=
 (if (decide (x2 < (a0.length : Int))) = true then ((idx a0 x2).bind fun (x6 : Option Nat) => ((idx a1 x2).bind fun (x7 : Option Nat) => ((impl_AddFields_1 x6 x7).bind fun (x8 : Option Nat) => (if x1.length + [x8].length ≤ 1000000000 then some (.inl (x1 ++ [x8], IntKind.wrap .i64 (x2 + 1))) else none)))) else some (.inr (x2, decide (x2 < (a0.length : Int)), x1)))

noncomputable def impl_both__impl_AddFields_1 (a0 : List (Option Nat)) (a1 : List (Option Nat)) : Option (List (Option Nat)) :=
 ((loopF (fun (s : ((List (Option Nat)) × Int)) => impl_both__impl_AddFields_1.s0 a0 a1 s.1 s.2) (([] : List (Option Nat)), 0)).bind fun (⟨x3, x4, x5⟩ : (Int × Bool × (List (Option Nat)))) => some x5)

noncomputable def impl_AddFields (a0_0 : Int) (a0_1 : Int) (a0_2 : Bool) (a0_3 : List (Option Nat)) (a0_4 : List (Option Nat)) (a1_0 : List (Option Nat)) (a1_1 : List (Option Nat)) (a1_2 : List (Option Nat)) (a2_0 : List (Option Nat)) (a2_1 : List (Option Nat)) (a2_2 : List (Option Nat)) : Option ((List (Option Nat)) × (List (Option Nat)) × (List (Option Nat)) × Bool) :=
 ((((impl_IsField a0_0 a0_1 a0_2 a0_3 a0_4 a1_0 a1_1 a1_2).bind fun (x2 : Bool) => (if (!x2) = true then some true else ((impl_IsField a0_0 a0_1 a0_2 a0_3 a0_4 a2_0 a2_1 a2_2).bind fun (x3 : Bool) => some (!x3)))) : Option Bool).bind fun (x1 : Bool) => (if x1 = true then some (([] : List (Option Nat)), ([] : List (Option Nat)), ([] : List (Option Nat)), false) else ((impl_both__impl_AddFields_1 a1_0 a2_0).bind fun (x4 : List (Option Nat)) => ((impl_both__impl_AddFields_1 a1_1 a2_1).bind fun (x5 : List (Option Nat)) => ((impl_both__impl_AddFields_1 a1_2 a2_2).bind fun (x6 : List (Option Nat)) => ((impl_validField a0_0 a0_1 a0_2 a0_3 a0_4 x4 x5 x6).bind fun (x7 : ((List (Option Nat)) × (List (Option Nat)) × (List (Option Nat)) × Bool)) => some (x7.1, x7.2.1, x7.2.2.1, x7.2.2.2)))))))

noncomputable def laws_r8Gap (a0 : Option Nat) (a1 : Option Nat) : Option (Option Nat) :=
 some (fmax .f64 (fop .sub .f64 a0 a1) (fop .sub .f64 a1 a0))

noncomputable def laws_FnShares (a0 : List (Int)) (a1 : List (Int)) : Option Bool :=
 ((laws_r8Long a0 a1).bind fun (x1 : Bool) => (if x1 = true then some true else ((laws_r8At a0 0 5).bind fun (x2 : Int) => ((laws_r8At a0 1 5).bind fun (x3 : Int) => ((laws_r8At a0 2 (IntKind.wrap .i64 ((IntKind.wrap .i64 (4 + x2)) - 2))).bind fun (x4 : Int) => ((laws_r8At a0 3 (IntKind.wrap .i64 ((IntKind.wrap .i64 (4 + x3)) - 2))).bind fun (x5 : Int) => ((laws_r8At a0 4 (IntKind.wrap .i64 ((IntKind.wrap .i64 (4 + x2)) - 2))).bind fun (x6 : Int) => ((laws_r8At a0 5 (IntKind.wrap .i64 ((IntKind.wrap .i64 (4 + x3)) - 2))).bind fun (x7 : Int) => ((impl_PlainSheet (IntKind.wrap .i64 (4 + x2)) (IntKind.wrap .i64 (4 + x3)) false (some 1048576000)).bind fun (x8 : (Int × Int × Bool × (List (Option Nat)) × (List (Option Nat)) × Bool)) => ((impl_ModeField x8.1 x8.2.1 x8.2.2.1 x8.2.2.2.1 x8.2.2.2.2.1 (IntKind.wrap .i64 (1 + x4)) (IntKind.wrap .i64 (1 + x5)) (some 1069547520)).bind fun (x9 : ((List (Option Nat)) × (List (Option Nat)) × (List (Option Nat)) × Bool)) => ((impl_ModeField x8.1 x8.2.1 x8.2.2.1 x8.2.2.2.1 x8.2.2.2.2.1 (IntKind.wrap .i64 (1 + x6)) (IntKind.wrap .i64 (1 + x7)) (some 3204448256)).bind fun (x10 : ((List (Option Nat)) × (List (Option Nat)) × (List (Option Nat)) × Bool)) => ((impl_ShareOf x8.1 x8.2.1 x8.2.2.1 x8.2.2.2.1 x8.2.2.2.2.1 x9.1 x9.2.1 x9.2.2.1 (IntKind.wrap .i64 (1 + x4)) (IntKind.wrap .i64 (1 + x5))).bind fun (x11 : ((Option Nat) × Bool)) => ((impl_ShareOf x8.1 x8.2.1 x8.2.2.1 x8.2.2.2.1 x8.2.2.2.2.1 x9.1 x9.2.1 x9.2.2.1 (IntKind.wrap .i64 (1 + x6)) (IntKind.wrap .i64 (1 + x7))).bind fun (x12 : ((Option Nat) × Bool)) => ((impl_WithoutMode x8.1 x8.2.1 x8.2.2.1 x8.2.2.2.1 x8.2.2.2.2.1 x9.1 x9.2.1 x9.2.2.1 (IntKind.wrap .i64 (1 + x4)) (IntKind.wrap .i64 (1 + x5))).bind fun (x13 : ((List (Option Nat)) × (List (Option Nat)) × (List (Option Nat)) × Bool)) => ((impl_ShareOf x8.1 x8.2.1 x8.2.2.1 x8.2.2.2.1 x8.2.2.2.2.1 x13.1 x13.2.1 x13.2.2.1 (IntKind.wrap .i64 (1 + x4)) (IntKind.wrap .i64 (1 + x5))).bind fun (x14 : ((Option Nat) × Bool)) => ((impl_AddFields x8.1 x8.2.1 x8.2.2.1 x8.2.2.2.1 x8.2.2.2.2.1 x9.1 x9.2.1 x9.2.2.1 x10.1 x10.2.1 x10.2.2.1).bind fun (x15 : ((List (Option Nat)) × (List (Option Nat)) × (List (Option Nat)) × Bool)) => ((impl_ShareOf x8.1 x8.2.1 x8.2.2.1 x8.2.2.2.1 x8.2.2.2.2.1 x15.1 x15.2.1 x15.2.2.1 (IntKind.wrap .i64 (1 + x4)) (IntKind.wrap .i64 (1 + x5))).bind fun (x16 : ((Option Nat) × Bool)) => ((impl_ShareOf x8.1 x8.2.1 x8.2.2.1 x8.2.2.2.1 x8.2.2.2.2.1 x10.1 x10.2.1 x10.2.2.1 (IntKind.wrap .i64 (1 + x4)) (IntKind.wrap .i64 (1 + x5))).bind fun (x17 : ((Option Nat) × Bool)) => (((if ((IntKind.wrap .i64 (1 + x4)) == (IntKind.wrap .i64 (1 + x6))) = true then some ((IntKind.wrap .i64 (1 + x5)) == (IntKind.wrap .i64 (1 + x7))) else some false) : Option Bool).bind fun (x18 : Bool) => (((if (!x8.2.2.2.2.2) = true then some true else (if (!x9.2.2.2) = true then some true else (if (!x10.2.2.2) = true then some true else (if (!x11.2) = true then some true else (if (!x12.2) = true then some true else (if (!x13.2.2.2) = true then some true else (if (!x14.2) = true then some true else (if (!x15.2.2.2) = true then some true else (if (!x16.2) = true then some true else (if (!x17.2) = true then some true else ((laws_r8Gap (wid x11.1) (some 4609434218613702656)).bind fun (x20 : Option Nat) => (if (fcmp .gtr .f64 x20 (some 4562254508917369340)) = true then some true else (if (!x18) = true then ((laws_r8Gap (wid x12.1) (some 0)).bind fun (x21 : Option Nat) => some (fcmp .gtr .f64 x21 (some 4562254508917369340))) else some false))))))))))))) : Option Bool).bind fun (x19 : Bool) => (if x19 = true then some false else ((((laws_r8Gap (wid x14.1) (some 0)).bind fun (x23 : Option Nat) => (if (fcmp .lss .f64 x23 (some 4562254508917369340)) = true then ((laws_r8Gap (wid x16.1) (fop .add .f64 (wid x11.1) (wid x17.1))).bind fun (x24 : Option Nat) => some (fcmp .lss .f64 x24 (some 4562254508917369340))) else some false)) : Option Bool).bind fun (x22 : Bool) => some x22))))))))))))))))))))))

set_option maxRecDepth 20000 in
theorem impl_validSheet_ok (h0 : Heap) (lo : Nat) (hlo : lo ≤ h0.size) (a0_0 : Int) (a0_1 : Int) (a0_2 : Bool) (u0_3 : Value) (a0_3 : List (Option Nat)) (u0_4 : Value) (a0_4 : List (Option Nat)) (S0 : Sep [u0_3.ownBlock, u0_4.ownBlock] h0.size h0 [ownO (kF .f32) 29 u0_3 a0_3, ownO (kF .f32) 29 u0_4 a0_4]) (hB : ∀ b, some b ∈ [u0_3.ownBlock, u0_4.ownBlock] → lo ≤ b) (r : (Int × Int × Bool × (List (Option Nat)) × (List (Option Nat)) × Bool)) (hp : impl_validSheet a0_0 a0_1 a0_2 a0_3 a0_4 = some r) : CallsH Try.prog 73 ([(.agg (List.toArray (α := Value) [(.int .i64 a0_0), (.int .i64 a0_1), (.bool a0_2), u0_3, u0_4]))].toArray ++ [].toArray) h0 (fun v h' => ∃ w3, ∃ w4, v = (.tuple (List.toArray (α := Value) [(.agg (List.toArray (α := Value) [(.int .i64 r.1), (.int .i64 r.2.1), (.bool r.2.2.1), w3, w4])), (.bool r.2.2.2.2.2)])) ∧ Mod [u0_3.ownBlock, u0_4.ownBlock] h0 h' ∧ Sep [u0_3.ownBlock, u0_4.ownBlock] h0.size h' [ownO (kF .f32) 29 w3 r.2.2.2.1, ownO (kF .f32) 29 w4 r.2.2.2.2.1]) := by
 unfold impl_validSheet at hp
 refine callsH_of_W (l := [(.agg (List.toArray (α := Value) [(.int .i64 a0_0), (.int .i64 a0_1), (.bool a0_2), u0_3, u0_4]))]) (cap := []) 9 Try.func73 rfl rfl rfl ?_
 refine W.seq ?_
 refine W.region ?_
 refine RL.op _ (by decide) (opS_boxed (opv_boxA (cs := [(.int .i64 a0_0), (.int .i64 a0_1), (.bool a0_2), u0_3, u0_4]) rfl rfl)) ?_
 rintro _ hp1 ⟨bb1, rfl, MT_1, T_1⟩
 obtain ⟨X_1, S_1⟩ := Sep.turn0 (Mod.refl [u0_3.ownBlock, u0_4.ownBlock] h0) S0 MT_1 T_1
 refine RL.op _ (by decide) (opS_boxed (opv_alloc (cs := [(.int .i64 0), (.int .i64 0), (.bool false), (.slice none 0 0), (.slice none 0 0)]) rfl Try.zero33 rfl)) ?_
 rintro _ hp2 ⟨bb2, rfl, MT_2, T_2⟩
 obtain ⟨X_2, S_2⟩ := Sep.turn0 X_1 S_1 MT_2 T_2
 refine RL.opD (by decide) (opv_assign rfl rfl) ?_
 refine RL.nil ?_
 refine thnN ?_
 refine W.seq ?_
 refine W.seq ?_
 refine W.region ?_
 refine RL.opD (by decide) (opv_loadA (us := [(.int .i64 a0_0), (.int .i64 a0_1), (.bool a0_2), u0_3, u0_4]) rfl Try.agg33 Try.size33 rfl (Sep.at (o := boxO bb1 [(.int .i64 a0_0), (.int .i64 a0_1), (.bool a0_2), u0_3, u0_4]) S_2 1 rfl) rfl rfl) ?_
 obtain ⟨x1, hx1, hp⟩ := Option.bind_eq_some_iff.1 hp
 refine RL.op _ (by decide) (opv_call (cap := []) (impl_ValidSheet_ok _ _ _ _ _ _ (ownO.read (Sep.at (o := ownO (kF .f32) 29 u0_3 a0_3) S_2 2 rfl)) _ _ (ownO.read (Sep.at (o := ownO (kF .f32) 29 u0_4 a0_4) S_2 3 rfl)) _ hx1) rfl rfl ⟨rfl, trivial⟩ Try.func45 rfl rfl) ?_
 rintro _ hp3 ⟨rfl, MT_3, T_3⟩
 obtain ⟨X_3, S_3⟩ := Sep.turn0 X_2 S_2 MT_3 T_3
 refine RL.opD (by decide) (opv_not rfl rfl) ?_
 refine RL.nil ?_
 refine thnN ?_
 by_cases c1 : (!x1) = true
 ·rw [if_pos c1] at hp
  refine W.condT rfl c1 ?_
  refine W.seq ?_
  refine W.region ?_
  refine RL.opD (by decide) (opv_build (cs := [(.int .i64 0), (.int .i64 0), (.bool false), (.slice none 0 0), (.slice none 0 0)]) [] [] rfl Try.bd33 trivial rfl) ?_
  refine RL.op0 _ (opS_stored (cs := [(.int .i64 0), (.int .i64 0), (.bool false), (.slice none 0 0), (.slice none 0 0)]) (cs' := [(.int .i64 0), (.int .i64 0), (.bool false), (.slice none 0 0), (.slice none 0 0)]) (opv_storeA (us := [(.int .i64 0), (.int .i64 0), (.bool false), (.slice none 0 0), (.slice none 0 0)]) rfl Try.size33 rfl rfl (oneAll rfl (oneAll rfl (oneAll rfl (oneAll rfl (oneAll rfl rfl))))) (Sep.at (o := boxO bb2 [(.int .i64 0), (.int .i64 0), (.bool false), (.slice none 0 0), (.slice none 0 0)]) S_3 0 rfl) rfl rfl) (Sep.at (o := boxO bb2 [(.int .i64 0), (.int .i64 0), (.bool false), (.slice none 0 0), (.slice none 0 0)]) S_3 0 rfl)) ?_
  rintro _ hp4 ⟨rfl, MT_4, T_4⟩
  have S_4 : Sep [u0_3.ownBlock, u0_4.ownBlock] h0.size hp3 ([boxO bb2 [(.int .i64 0), (.int .i64 0), (.bool false), (.slice none 0 0), (.slice none 0 0)]] ++ [boxO bb1 [(.int .i64 a0_0), (.int .i64 a0_1), (.bool a0_2), u0_3, u0_4], ownO (kF .f32) 29 u0_3 a0_3, ownO (kF .f32) 29 u0_4 a0_4]) := Sep.sel S_3 [0, 1, 2, 3] (by decide)
  obtain ⟨X_4, S_5⟩ := Sep.turn X_3 S_4 MT_4 T_4
  refine RL.opD (by decide) (opv_assign rfl rfl) ?_
  refine RL.nil ?_
  refine thnN ?_
  refine W.ret ?_
  refine thnR ?_
  have S_6 : Sep [u0_3.ownBlock, u0_4.ownBlock] h0.size hp4 [ownO (kF .f32) 29 (.slice none 0 0) ([] : List (Option Nat)), boxO bb2 [(.int .i64 0), (.int .i64 0), (.bool false), (.slice none 0 0), (.slice none 0 0)], boxO bb1 [(.int .i64 a0_0), (.int .i64 a0_1), (.bool a0_2), u0_3, u0_4], ownO (kF .f32) 29 u0_3 a0_3, ownO (kF .f32) 29 u0_4 a0_4] := Sep.addNil S_5
  have S_7 : Sep [u0_3.ownBlock, u0_4.ownBlock] h0.size hp4 [ownO (kF .f32) 29 (.slice none 0 0) ([] : List (Option Nat)), ownO (kF .f32) 29 (.slice none 0 0) ([] : List (Option Nat)), boxO bb2 [(.int .i64 0), (.int .i64 0), (.bool false), (.slice none 0 0), (.slice none 0 0)], boxO bb1 [(.int .i64 a0_0), (.int .i64 a0_1), (.bool a0_2), u0_3, u0_4], ownO (kF .f32) 29 u0_3 a0_3, ownO (kF .f32) 29 u0_4 a0_4] := Sep.addNil S_6
  have er := Option.some.inj hp
  subst er
  exact Rt.cellA rfl rfl rfl Try.agg33 Try.size33 (Sep.at (o := boxO bb2 [(.int .i64 0), (.int .i64 0), (.bool false), (.slice none 0 0), (.slice none 0 0)]) S_7 2 rfl) rfl ⟨(.slice none 0 0), (.slice none 0 0), rfl, X_4, (Sep.sel S_7 [1, 0] (by decide))⟩
 ·rw [if_neg c1] at hp
  have c1 := eq_false_of_ne_true c1
  refine W.condF rfl c1 ?_
  refine W.skip ?_
  refine thnN ?_
  refine W.seq ?_
  refine W.region ?_
  refine RL.opD (by decide) (opv_loadA (us := [(.int .i64 a0_0), (.int .i64 a0_1), (.bool a0_2), u0_3, u0_4]) rfl Try.agg33 Try.size33 rfl (Sep.at (o := boxO bb1 [(.int .i64 a0_0), (.int .i64 a0_1), (.bool a0_2), u0_3, u0_4]) S_3 1 rfl) rfl rfl) ?_
  refine RL.op0 _ (opS_stored (cs := [(.int .i64 0), (.int .i64 0), (.bool false), (.slice none 0 0), (.slice none 0 0)]) (cs' := [(.int .i64 a0_0), (.int .i64 a0_1), (.bool a0_2), u0_3, u0_4]) (opv_storeA (us := [(.int .i64 a0_0), (.int .i64 a0_1), (.bool a0_2), u0_3, u0_4]) rfl Try.size33 rfl rfl (oneAll rfl (oneAll rfl (oneAll rfl (oneAll (ownO.one (Sep.at (o := ownO (kF .f32) 29 u0_3 a0_3) S_3 2 rfl)) (oneAll (ownO.one (Sep.at (o := ownO (kF .f32) 29 u0_4 a0_4) S_3 3 rfl)) rfl))))) (Sep.at (o := boxO bb2 [(.int .i64 0), (.int .i64 0), (.bool false), (.slice none 0 0), (.slice none 0 0)]) S_3 0 rfl) rfl rfl) (Sep.at (o := boxO bb2 [(.int .i64 0), (.int .i64 0), (.bool false), (.slice none 0 0), (.slice none 0 0)]) S_3 0 rfl)) ?_
  rintro _ hp5 ⟨rfl, MT_5, T_5⟩
  have S_8 : Sep [u0_3.ownBlock, u0_4.ownBlock] h0.size hp3 ([boxO bb2 [(.int .i64 0), (.int .i64 0), (.bool false), (.slice none 0 0), (.slice none 0 0)]] ++ [boxO bb1 [(.int .i64 a0_0), (.int .i64 a0_1), (.bool a0_2), u0_3, u0_4], ownO (kF .f32) 29 u0_3 a0_3, ownO (kF .f32) 29 u0_4 a0_4]) := Sep.sel S_3 [0, 1, 2, 3] (by decide)
  obtain ⟨X_5, S_9⟩ := Sep.turn X_3 S_8 MT_5 T_5
  refine RL.opD (by decide) (opv_assign rfl rfl) ?_
  refine RL.nil ?_
  refine thnN ?_
  refine W.ret ?_
  have er := Option.some.inj hp
  subst er
  exact Rt.cellA rfl rfl rfl Try.agg33 Try.size33 (Sep.at (o := boxO bb2 [(.int .i64 a0_0), (.int .i64 a0_1), (.bool a0_2), u0_3, u0_4]) S_9 0 rfl) rfl ⟨u0_3, u0_4, rfl, X_5, (Sep.sel S_9 [2, 3] (by decide))⟩

set_option maxRecDepth 20000 in
theorem impl_PlainSheet_ok (h0 : Heap) (a0 : Int) (a1 : Int) (a2 : Bool) (u3 : Value) (a3 : Option Nat) (g3 : IsF .f32 u3 a3) (r : (Int × Int × Bool × (List (Option Nat)) × (List (Option Nat)) × Bool)) (hp : impl_PlainSheet a0 a1 a2 a3 = some r) : CallsH Try.prog 16 ([(.int .i64 a0), (.int .i64 a1), (.bool a2), u3].toArray ++ [].toArray) h0 (fun v h' => ∃ w3, ∃ w4, v = (.tuple (List.toArray (α := Value) [(.agg (List.toArray (α := Value) [(.int .i64 r.1), (.int .i64 r.2.1), (.bool r.2.2.1), w3, w4])), (.bool r.2.2.2.2.2)])) ∧ Mod [] h0 h' ∧ Sep [] h0.size h' [ownO (kF .f32) 29 w3 r.2.2.2.1, ownO (kF .f32) 29 w4 r.2.2.2.2.1]) := by
 unfold impl_PlainSheet at hp
 refine callsH_of_W (l := [(.int .i64 a0), (.int .i64 a1), (.bool a2), u3]) (cap := []) 44 Try.func16 rfl rfl rfl ?_
 refine W.seq ?_
 refine W.region ?_
 refine RL.op _ (by decide) (opS_boxed (opv_alloc (cs := [(.int .i64 0), (.int .i64 0), (.bool false), (.slice none 0 0), (.slice none 0 0)]) rfl Try.zero33 rfl)) ?_
 rintro _ hp1 ⟨bb1, rfl, MT_1, T_1⟩
 obtain ⟨X_1, S_1⟩ := Sep.turn0 (Mod.refl [] h0) (Sep.nil [] h0.size h0) MT_1 T_1
 refine RL.opD (by decide) (opv_assign rfl rfl) ?_
 refine RL.nil ?_
 refine thnN ?_
 refine W.seq ?_
 refine W.seq ?_
 obtain ⟨x1, hy1, hp⟩ := Option.bind_eq_some_iff.1 hp
 refine W.cut (fun φ' h' => Fr.sub [(0, (.int .i64 a0)), (1, (.int .i64 a1)), (2, (.bool a2)), (3, u3), (8, (.pointer (some ⟨bb1, 0, none⟩))), (9, (.bool false)), (18, (.bool x1))] φ' ∧ hp1 = h') ?_ ?_
 ·refine W.region ?_
  refine RL.opD (by decide) (opv_move rfl rfl) ?_
  obtain ⟨x2, hx2, hy1⟩ := Option.bind_eq_some_iff.1 hy1
  refine RL.op _ (by decide) (opv_call (cap := []) (impl_within_ok _ _ _ _ _ hx2) rfl rfl ⟨rfl, rfl, rfl, trivial⟩ Try.func71 rfl rfl) ?_
  rintro _ _ ⟨rfl, rfl⟩
  refine RL.opD (by decide) (opv_not rfl rfl) ?_
  refine RL.opD (by decide) (opv_move rfl rfl) ?_
  by_cases c1 : (!x2) = true
  ·rw [if_pos c1] at hy1
   refine RL.noT rfl rfl c1 (by decide) ?_
   refine RL.noT rfl rfl c1 (by decide) ?_
   refine RL.noT rfl rfl c1 (by decide) ?_
   refine RL.opD (by decide) (opv_pick rfl rfl (fun _ => rfl) (fun e => absurd (Eq.trans (Eq.symm e) c1) (by decide)) rfl) ?_
   refine RL.nil ?_
   have ey1 := Option.some.inj hy1
   subst ey1
   refine onlyN ?_
   exact ⟨⟨rfl, rfl, rfl, rfl, rfl, rfl, rfl, trivial⟩, rfl⟩
  ·rw [if_neg c1] at hy1
   have c1 := eq_false_of_ne_true c1
   refine RL.yesD rfl rfl c1 (by decide) (opv_move rfl rfl) ?_
   obtain ⟨x3, hx3, hy1⟩ := Option.bind_eq_some_iff.1 hy1
   refine RL.yes _ rfl rfl c1 (by decide) (opv_call (cap := []) (impl_within_ok _ _ _ _ _ hx3) rfl rfl ⟨rfl, rfl, rfl, trivial⟩ Try.func71 rfl rfl) ?_
   rintro _ _ ⟨rfl, rfl⟩
   refine RL.yesD rfl rfl c1 (by decide) (opv_not rfl rfl) ?_
   refine RL.opD (by decide) (opv_pick rfl rfl (fun e => absurd (Eq.trans (Eq.symm e) c1) (by decide)) (fun _ => rfl) rfl) ?_
   refine RL.nil ?_
   have ey1 := Option.some.inj hy1
   subst ey1
   refine onlyN ?_
   exact ⟨⟨rfl, rfl, rfl, rfl, rfl, rfl, rfl, trivial⟩, rfl⟩
 rintro φ' _ ⟨hs1, rfl⟩
 refine thnN ?_
 refine W.sub hs1 ?_
 by_cases c2 : x1 = true
 ·rw [if_pos c2] at hp
  refine W.condT rfl c2 ?_
  refine W.seq ?_
  refine W.region ?_
  refine RL.opD (by decide) (opv_build (cs := [(.int .i64 0), (.int .i64 0), (.bool false), (.slice none 0 0), (.slice none 0 0)]) [] [] rfl Try.bd33 trivial rfl) ?_
  refine RL.op0 _ (opS_stored (cs := [(.int .i64 0), (.int .i64 0), (.bool false), (.slice none 0 0), (.slice none 0 0)]) (cs' := [(.int .i64 0), (.int .i64 0), (.bool false), (.slice none 0 0), (.slice none 0 0)]) (opv_storeA (us := [(.int .i64 0), (.int .i64 0), (.bool false), (.slice none 0 0), (.slice none 0 0)]) rfl Try.size33 rfl rfl (oneAll rfl (oneAll rfl (oneAll rfl (oneAll rfl (oneAll rfl rfl))))) (Sep.at (o := boxO bb1 [(.int .i64 0), (.int .i64 0), (.bool false), (.slice none 0 0), (.slice none 0 0)]) S_1 0 rfl) rfl rfl) (Sep.at (o := boxO bb1 [(.int .i64 0), (.int .i64 0), (.bool false), (.slice none 0 0), (.slice none 0 0)]) S_1 0 rfl)) ?_
  rintro _ hp2 ⟨rfl, MT_2, T_2⟩
  have S_2 : Sep [] h0.size hp1 ([boxO bb1 [(.int .i64 0), (.int .i64 0), (.bool false), (.slice none 0 0), (.slice none 0 0)]] ++ []) := Sep.sel S_1 [0] (by decide)
  obtain ⟨X_2, S_3⟩ := Sep.turn X_1 S_2 MT_2 T_2
  refine RL.opD (by decide) (opv_assign rfl rfl) ?_
  refine RL.nil ?_
  refine thnN ?_
  refine W.ret ?_
  refine thnR ?_
  have S_4 : Sep [] h0.size hp2 [ownO (kF .f32) 29 (.slice none 0 0) ([] : List (Option Nat)), boxO bb1 [(.int .i64 0), (.int .i64 0), (.bool false), (.slice none 0 0), (.slice none 0 0)]] := Sep.addNil S_3
  have S_5 : Sep [] h0.size hp2 [ownO (kF .f32) 29 (.slice none 0 0) ([] : List (Option Nat)), ownO (kF .f32) 29 (.slice none 0 0) ([] : List (Option Nat)), boxO bb1 [(.int .i64 0), (.int .i64 0), (.bool false), (.slice none 0 0), (.slice none 0 0)]] := Sep.addNil S_4
  have er := Option.some.inj hp
  subst er
  exact Rt.cellA rfl rfl rfl Try.agg33 Try.size33 (Sep.at (o := boxO bb1 [(.int .i64 0), (.int .i64 0), (.bool false), (.slice none 0 0), (.slice none 0 0)]) S_5 2 rfl) rfl ⟨(.slice none 0 0), (.slice none 0 0), rfl, X_2, (Sep.sel S_5 [1, 0] (by decide))⟩
 ·rw [if_neg c2] at hp
  have c2 := eq_false_of_ne_true c2
  refine W.condF rfl c2 ?_
  refine W.skip ?_
  refine thnN ?_
  refine W.seq ?_
  refine W.region ?_
  refine RL.opD (by decide) (opv_move rfl rfl) ?_
  refine RL.opD (by decide) (opv_move rfl rfl) ?_
  refine RL.opD (by decide) (opv_move rfl rfl) ?_
  refine RL.opD (by decide) (opv_move rfl rfl) ?_
  refine RL.opD (by decide) (opv_move rfl rfl) ?_
  refine RL.opD (by decide) (opv_mul rfl rfl rfl) ?_
  obtain ⟨c3, hp⟩ := of_ite hp
  refine RL.op _ (by decide) (opS_make (K := (kF .f32)) (zx := (some 0)) rfl Try.underlying25 Try.einfo29 rfl rfl ⟨_, rfl, (isF_lit .f32 0 (by decide) (by decide))⟩ rfl rfl (by decide) c3) ?_
  rintro v1 hp3 ⟨MT_3, T_3⟩
  obtain ⟨X_3, S_6⟩ := Sep.turn0 X_1 S_1 MT_3 T_3
  refine RL.opD (by decide) (opv_build (cs := [(.int .i64 a0), (.int .i64 a1), (.bool a2), (.slice none 0 0), v1]) [(0, [(.int .i64 a0)]), (1, [(.int .i64 a1)]), (2, [(.bool a2)]), (3, [(.slice none 0 0)]), (4, [v1])] [(0, (.int .i64 a0)), (1, (.int .i64 a1)), (2, (.bool a2)), (3, (.slice none 0 0)), (4, v1)] rfl Try.bd33 ⟨⟨rfl, rfl, rfl, cells1 rfl⟩, ⟨rfl, rfl, rfl, cells1 rfl⟩, ⟨rfl, rfl, rfl, cells1 rfl⟩, ⟨rfl, rfl, rfl, cells1 rfl⟩, ⟨rfl, rfl, rfl, cells1 (ownO.one (Sep.at (o := ownO (kF .f32) 29 v1 (List.replicate (Int.toNat (IntKind.wrap .i64 (a0 * a1))) (some 0))) S_6 0 rfl))⟩, trivial⟩ rfl) ?_
  refine RL.op _ (by decide) (opS_boxed (opv_alloc (cs := [(.int .i64 0), (.int .i64 0), (.bool false), (.slice none 0 0), (.slice none 0 0)]) rfl Try.zero33 rfl)) ?_
  rintro _ hp4 ⟨bb2, rfl, MT_4, T_4⟩
  obtain ⟨X_4, S_7⟩ := Sep.turn0 X_3 S_6 MT_4 T_4
  have S_8 : Sep [] h0.size hp4 [ownO (kF .f32) 29 (.slice none 0 0) ([] : List (Option Nat)), boxO bb2 [(.int .i64 0), (.int .i64 0), (.bool false), (.slice none 0 0), (.slice none 0 0)], ownO (kF .f32) 29 v1 (List.replicate (Int.toNat (IntKind.wrap .i64 (a0 * a1))) (some 0)), boxO bb1 [(.int .i64 0), (.int .i64 0), (.bool false), (.slice none 0 0), (.slice none 0 0)]] := Sep.addNil S_7
  refine RL.op0 _ (opS_stored (cs := [(.int .i64 0), (.int .i64 0), (.bool false), (.slice none 0 0), (.slice none 0 0)]) (cs' := [(.int .i64 a0), (.int .i64 a1), (.bool a2), (.slice none 0 0), v1]) (opv_storeA (us := [(.int .i64 a0), (.int .i64 a1), (.bool a2), (.slice none 0 0), v1]) rfl Try.size33 rfl rfl (oneAll rfl (oneAll rfl (oneAll rfl (oneAll (ownO.one (Sep.at (o := ownO (kF .f32) 29 (.slice none 0 0) ([] : List (Option Nat))) S_8 0 rfl)) (oneAll (ownO.one (Sep.at (o := ownO (kF .f32) 29 v1 (List.replicate (Int.toNat (IntKind.wrap .i64 (a0 * a1))) (some 0))) S_8 2 rfl)) rfl))))) (Sep.at (o := boxO bb2 [(.int .i64 0), (.int .i64 0), (.bool false), (.slice none 0 0), (.slice none 0 0)]) S_8 1 rfl) rfl rfl) (Sep.at (o := boxO bb2 [(.int .i64 0), (.int .i64 0), (.bool false), (.slice none 0 0), (.slice none 0 0)]) S_8 1 rfl)) ?_
  rintro _ hp5 ⟨rfl, MT_5, T_5⟩
  have S_9 : Sep [] h0.size hp4 ([boxO bb2 [(.int .i64 0), (.int .i64 0), (.bool false), (.slice none 0 0), (.slice none 0 0)]] ++ [ownO (kF .f32) 29 (.slice none 0 0) ([] : List (Option Nat)), ownO (kF .f32) 29 v1 (List.replicate (Int.toNat (IntKind.wrap .i64 (a0 * a1))) (some 0)), boxO bb1 [(.int .i64 0), (.int .i64 0), (.bool false), (.slice none 0 0), (.slice none 0 0)]]) := Sep.sel S_8 [1, 0, 2, 3] (by decide)
  obtain ⟨X_5, S_10⟩ := Sep.turn X_4 S_9 MT_5 T_5
  refine RL.nil ?_
  refine thnN ?_
  refine W.seq ?_
  refine W.seq ?_
  refine W.region ?_
  refine RL.opD (by decide) (opv_move rfl rfl) ?_
  refine RL.opD (by decide) (opv_move rfl rfl) ?_
  refine RL.opD (by decide) (opv_mul rfl rfl rfl) ?_
  refine RL.opD (by decide) (opv_move rfl rfl) ?_
  refine RL.nil ?_
  refine thnN ?_
  obtain ⟨y2, hy2, hp⟩ := Option.bind_eq_some_iff.1 hp
  refine W.cut (fun φ' h' => ∃ x6, ∃ x7, ∃ x8, ∃ v3, y2 = (x6, x7, x8) ∧ Fr.sub [(0, (.int .i64 a0)), (1, (.int .i64 a1)), (2, (.bool a2)), (3, u3), (8, (.pointer (some ⟨bb1, 0, none⟩))), (9, (.bool false)), (18, (.bool x1)), (10, (.pointer (some ⟨bb2, 0, none⟩))), (30, (.int .i64 (IntKind.wrap .i64 (a0 * a1)))), (31, (.int .i64 x6)), (32, (.bool x7))] φ' ∧ Mod [] h0 h' ∧ Sep [] h0.size h' [boxO bb2 [(.int .i64 a0), (.int .i64 a1), (.bool a2), v3, v1], ownO (kF .f32) 29 v1 (List.replicate (Int.toNat (IntKind.wrap .i64 (a0 * a1))) (some 0)), boxO bb1 [(.int .i64 0), (.int .i64 0), (.bool false), (.slice none 0 0), (.slice none 0 0)], ownO (kF .f32) 29 v3 x8]) ?_ ?_
  ·refine W.block ?_
   refine W.loopS (fun (s : (Int × (List (Option Nat)))) φ' h' => ∃ v2, Fr.sub [(0, (.int .i64 a0)), (1, (.int .i64 a1)), (2, (.bool a2)), (3, u3), (8, (.pointer (some ⟨bb1, 0, none⟩))), (9, (.bool false)), (18, (.bool x1)), (10, (.pointer (some ⟨bb2, 0, none⟩))), (30, (.int .i64 (IntKind.wrap .i64 (a0 * a1)))), (31, (.int .i64 s.1))] φ' ∧ Mod [] h0 h' ∧ Sep [] h0.size h' [boxO bb2 [(.int .i64 a0), (.int .i64 a1), (.bool a2), v2, v1], ownO (kF .f32) 29 v2 s.2, ownO (kF .f32) 29 v1 (List.replicate (Int.toNat (IntKind.wrap .i64 (a0 * a1))) (some 0)), boxO bb1 [(.int .i64 0), (.int .i64 0), (.bool false), (.slice none 0 0), (.slice none 0 0)]]) hy2 ⟨(.slice none 0 0), ⟨rfl, rfl, rfl, rfl, rfl, rfl, rfl, rfl, rfl, rfl, trivial⟩, X_5, (Sep.sel S_10 [0, 1, 2, 3] (by decide))⟩ ?_
   rintro ⟨x4, x5⟩ φ' hp6 o1 ⟨v2, hs2, X_6, S_11⟩ ho1 hy1
   have hs2 : Fr.sub [(0, (.int .i64 a0)), (1, (.int .i64 a1)), (2, (.bool a2)), (3, u3), (8, (.pointer (some ⟨bb1, 0, none⟩))), (9, (.bool false)), (18, (.bool x1)), (10, (.pointer (some ⟨bb2, 0, none⟩))), (30, (.int .i64 (IntKind.wrap .i64 (a0 * a1)))), (31, (.int .i64 x4))] φ' := hs2
   have S_11 : Sep [] h0.size hp6 [boxO bb2 [(.int .i64 a0), (.int .i64 a1), (.bool a2), v2, v1], ownO (kF .f32) 29 v2 x5, ownO (kF .f32) 29 v1 (List.replicate (Int.toNat (IntKind.wrap .i64 (a0 * a1))) (some 0)), boxO bb1 [(.int .i64 0), (.int .i64 0), (.bool false), (.slice none 0 0), (.slice none 0 0)]] := S_11
   have ho1 : impl_PlainSheet.s0 a0 a1 a3 x4 x5 = some o1 := ho1
   unfold impl_PlainSheet.s0 at ho1
   refine W.sub hs2 ?_
   refine W.seq ?_
   refine W.region ?_
   refine RL.opD (by decide) (opv_icmp rfl rfl rfl rfl) ?_
   refine RL.nil ?_
   refine thnN ?_
   refine W.seq ?_
   by_cases c4 : (decide (x4 < (IntKind.wrap .i64 (a0 * a1)))) = true
   ·rw [if_pos c4] at ho1
    refine W.condT rfl c4 ?_
    refine W.skip ?_
    refine thnN ?_
    refine W.seq ?_
    refine W.block ?_
    refine W.region ?_
    refine RL.opD (by decide) (opv_fieldAddr rfl Try.fo33_3 rfl) ?_
    refine RL.opD (by decide) (opv_loadB rfl Try.one25 rfl (Sep.at (o := boxO bb2 [(.int .i64 a0), (.int .i64 a1), (.bool a2), v2, v1]) S_11 0 rfl) rfl) ?_
    refine RL.opD (by decide) (opv_move rfl rfl) ?_
    refine RL.op _ (by decide) (opS_lit1 (K := (kF .f32)) (z := a3) rfl Try.underlying25 Try.einfo29 rfl rfl rfl rfl ⟨_, rfl, g3⟩) ?_
    rintro v4 hp7 ⟨MT_6, T_6⟩
    obtain ⟨X_7, S_12⟩ := Sep.turn0 X_6 S_11 MT_6 T_6
    obtain ⟨c5, ho1⟩ := of_ite ho1
    refine RL.op _ (by decide) (opS_append (K := (kF .f32)) rfl Try.underlying25 Try.einfo29 rfl rfl rfl rfl (Sep.at (o := ownO (kF .f32) 29 v2 x5) S_12 2 rfl) (ownO.read (Sep.at (o := ownO (kF .f32) 29 v4 [a3]) S_12 0 rfl)) (by decide) (by decide) c5) ?_
    rintro v5 hp8 ⟨MT_7, T_7⟩
    have S_13 : Sep [] h0.size hp7 ([ownO (kF .f32) 29 v2 x5] ++ [ownO (kF .f32) 29 v4 [a3], boxO bb2 [(.int .i64 a0), (.int .i64 a1), (.bool a2), v2, v1], ownO (kF .f32) 29 v1 (List.replicate (Int.toNat (IntKind.wrap .i64 (a0 * a1))) (some 0)), boxO bb1 [(.int .i64 0), (.int .i64 0), (.bool false), (.slice none 0 0), (.slice none 0 0)]]) := Sep.sel S_12 [2, 0, 1, 3, 4] (by decide)
    obtain ⟨X_8, S_14⟩ := Sep.turn X_7 S_13 MT_7 T_7
    refine RL.opD (by decide) (opv_fieldAddr rfl Try.fo33_3 rfl) ?_
    refine RL.op0 _ (opS_stored (cs := [(.int .i64 a0), (.int .i64 a1), (.bool a2), v2, v1]) (cs' := [(.int .i64 a0), (.int .i64 a1), (.bool a2), v5, v1]) (opv_storeB (k := 3) (cs := [(.int .i64 a0), (.int .i64 a1), (.bool a2), v2, v1]) rfl Try.size25 rfl rfl (ownO.one (Sep.at (o := ownO (kF .f32) 29 v5 (x5 ++ [a3])) S_14 0 rfl)) (Sep.at (o := boxO bb2 [(.int .i64 a0), (.int .i64 a1), (.bool a2), v2, v1]) S_14 2 rfl) (Nat.le_of_ble_eq_true rfl)) (Sep.at (o := boxO bb2 [(.int .i64 a0), (.int .i64 a1), (.bool a2), v2, v1]) S_14 2 rfl)) ?_
    rintro _ hp9 ⟨rfl, MT_8, T_8⟩
    have S_15 : Sep [] h0.size hp8 ([boxO bb2 [(.int .i64 a0), (.int .i64 a1), (.bool a2), v2, v1]] ++ [ownO (kF .f32) 29 v5 (x5 ++ [a3]), ownO (kF .f32) 29 v4 [a3], ownO (kF .f32) 29 v1 (List.replicate (Int.toNat (IntKind.wrap .i64 (a0 * a1))) (some 0)), boxO bb1 [(.int .i64 0), (.int .i64 0), (.bool false), (.slice none 0 0), (.slice none 0 0)]]) := Sep.sel S_14 [2, 0, 1, 3, 4] (by decide)
    obtain ⟨X_9, S_16⟩ := Sep.turn X_8 S_15 MT_8 T_8
    refine RL.nil ?_
    refine blkN ?_
    refine thnN ?_
    refine W.region ?_
    refine RL.opD (by decide) (opv_add rfl rfl rfl) ?_
    refine RL.opD (by decide) (opv_move rfl rfl) ?_
    refine RL.nil ?_
    have eo1 := Option.some.inj ho1
    subst eo1
    refine rndN (s' := (IntKind.wrap .i64 (x4 + 1), x5 ++ [a3])) rfl ?_
    exact ⟨v5, ⟨rfl, rfl, rfl, rfl, rfl, rfl, rfl, rfl, rfl, rfl, trivial⟩, X_9, (Sep.sel S_16 [0, 1, 3, 4] (by decide))⟩
   ·rw [if_neg c4] at ho1
    have c4 := eq_false_of_ne_true c4
    refine W.condF rfl c4 ?_
    refine W.exit ?_
    refine thnX ?_
    refine rndX ?_
    refine blkI ?_
    have eo1 := Option.some.inj ho1
    subst eo1
    have ey2 := hy1 _ rfl
    subst ey2
    refine onlyN ?_
    exact ⟨x4, decide (x4 < (IntKind.wrap .i64 (a0 * a1))), x5, v2, rfl, ⟨rfl, rfl, rfl, rfl, rfl, rfl, rfl, rfl, rfl, rfl, rfl, trivial⟩, X_6, (Sep.sel S_11 [0, 2, 3, 1] (by decide))⟩
  rintro φ' hp10 ⟨x6, x7, x8, v3, rfl, hs3, X_10, S_17⟩
  try dsimp only at hp
  refine thnN ?_
  refine W.sub hs3 ?_
  refine W.seq ?_
  refine W.region ?_
  refine RL.opD (by decide) (opv_loadA (us := [(.int .i64 a0), (.int .i64 a1), (.bool a2), v3, v1]) rfl Try.agg33 Try.size33 rfl (Sep.at (o := boxO bb2 [(.int .i64 a0), (.int .i64 a1), (.bool a2), v3, v1]) S_17 0 rfl) rfl rfl) ?_
  obtain ⟨x9, hx9, hp⟩ := Option.bind_eq_some_iff.1 hp
  have S_19 : Sep [] h0.size hp10 [ownO (kF .f32) 29 v3 x8, ownO (kF .f32) 29 v1 (List.replicate (Int.toNat (IntKind.wrap .i64 (a0 * a1))) (some 0))] := Sep.sel S_17 [3, 1] (by decide)
  have S_18 : Sep [v3.ownBlock, v1.ownBlock] hp10.size hp10 [ownO (kF .f32) 29 v3 x8, ownO (kF .f32) 29 v1 (List.replicate (Int.toNat (IntKind.wrap .i64 (a0 * a1))) (some 0))] := Sep.own S_19 _
  refine RL.op _ (by decide) (opv_call (cap := []) (impl_validSheet_ok _ h0.size (Nat.le_trans (Nat.le_refl _) (Mod.size X_10)) _ _ _ _ _ _ _ S_18 (Sep.ge (L := [ownO (kF .f32) 29 v3 x8, ownO (kF .f32) 29 v1 (List.replicate (Int.toNat (IntKind.wrap .i64 (a0 * a1))) (some 0))]) S_19 (Nat.le_refl _) nob) _ hx9) rfl rfl ⟨rfl, trivial⟩ Try.func73 rfl rfl) ?_
  rintro _ hp11 ⟨v6, v7, rfl, MT_9, T_9⟩
  have S_20 : Sep [] h0.size hp10 ([ownO (kF .f32) 29 v3 x8, ownO (kF .f32) 29 v1 (List.replicate (Int.toNat (IntKind.wrap .i64 (a0 * a1))) (some 0))] ++ [boxO bb2 [(.int .i64 a0), (.int .i64 a1), (.bool a2), v3, v1], boxO bb1 [(.int .i64 0), (.int .i64 0), (.bool false), (.slice none 0 0), (.slice none 0 0)]]) := Sep.sel S_17 [3, 1, 0, 2] (by decide)
  obtain ⟨X_11, S_21⟩ := Sep.turn X_10 S_20 MT_9 T_9
  refine RL.opD (by decide) (opv_extract rfl rfl rfl) ?_
  refine RL.opD (by decide) (opv_extract rfl rfl rfl) ?_
  refine RL.op0 _ (opS_stored (cs := [(.int .i64 0), (.int .i64 0), (.bool false), (.slice none 0 0), (.slice none 0 0)]) (cs' := [(.int .i64 x9.1), (.int .i64 x9.2.1), (.bool x9.2.2.1), v6, v7]) (opv_storeA (us := [(.int .i64 x9.1), (.int .i64 x9.2.1), (.bool x9.2.2.1), v6, v7]) rfl Try.size33 rfl rfl (oneAll rfl (oneAll rfl (oneAll rfl (oneAll (ownO.one (Sep.at (o := ownO (kF .f32) 29 v6 x9.2.2.2.1) S_21 0 rfl)) (oneAll (ownO.one (Sep.at (o := ownO (kF .f32) 29 v7 x9.2.2.2.2.1) S_21 1 rfl)) rfl))))) (Sep.at (o := boxO bb1 [(.int .i64 0), (.int .i64 0), (.bool false), (.slice none 0 0), (.slice none 0 0)]) S_21 3 rfl) rfl rfl) (Sep.at (o := boxO bb1 [(.int .i64 0), (.int .i64 0), (.bool false), (.slice none 0 0), (.slice none 0 0)]) S_21 3 rfl)) ?_
  rintro _ hp12 ⟨rfl, MT_10, T_10⟩
  have S_22 : Sep [] h0.size hp11 ([boxO bb1 [(.int .i64 0), (.int .i64 0), (.bool false), (.slice none 0 0), (.slice none 0 0)]] ++ [ownO (kF .f32) 29 v6 x9.2.2.2.1, ownO (kF .f32) 29 v7 x9.2.2.2.2.1, boxO bb2 [(.int .i64 a0), (.int .i64 a1), (.bool a2), v3, v1]]) := Sep.sel S_21 [3, 0, 1, 2] (by decide)
  obtain ⟨X_12, S_23⟩ := Sep.turn X_11 S_22 MT_10 T_10
  refine RL.opD (by decide) (opv_assign rfl rfl) ?_
  refine RL.nil ?_
  refine thnN ?_
  refine W.ret ?_
  have er := Option.some.inj hp
  subst er
  exact Rt.cellA rfl rfl rfl Try.agg33 Try.size33 (Sep.at (o := boxO bb1 [(.int .i64 x9.1), (.int .i64 x9.2.1), (.bool x9.2.2.1), v6, v7]) S_23 0 rfl) rfl ⟨v6, v7, rfl, X_12, (Sep.sel S_23 [1, 2] (by decide))⟩

set_option maxRecDepth 20000 in
theorem impl_isOrder_ok (h0 : Heap) (a0 : Int) (r : Bool) (hp : impl_isOrder a0 = some r) : CallsH Try.prog 133 ([(.int .i64 a0)].toArray ++ [].toArray) h0 (fun v h' => v = (.bool r) ∧ h0 = h') := by
 unfold impl_isOrder at hp
 refine callsH_of_W (l := [(.int .i64 a0)]) (cap := []) 5 Try.func133 rfl rfl rfl ?_
 refine W.seq ?_
 refine W.region ?_
 refine RL.opD (by decide) (opv_assign rfl rfl) ?_
 refine RL.nil ?_
 refine thnN ?_
 refine W.seq ?_
 refine W.region ?_
 refine RL.opD (by decide) (opv_move rfl rfl) ?_
 obtain ⟨x1, hx1, hp⟩ := Option.bind_eq_some_iff.1 hp
 refine RL.op _ (by decide) (opv_call (cap := []) (impl_within_ok _ _ _ _ _ hx1) rfl rfl ⟨rfl, rfl, rfl, trivial⟩ Try.func71 rfl rfl) ?_
 rintro _ _ ⟨rfl, rfl⟩
 refine RL.opD (by decide) (opv_assign rfl rfl) ?_
 refine RL.nil ?_
 refine thnN ?_
 refine W.ret ?_
 have er := Option.some.inj hp
 subst er
 exact Rt.one rfl rfl ⟨rfl, rfl⟩

set_option maxRecDepth 20000 in
theorem impl_isMode_ok (h0 : Heap) (a0_0 : Int) (a0_1 : Int) (a0_2 : Bool) (u0_3 : Value) (a0_3 : List (Option Nat)) (g0_3 : SL (kF .f32) h0.size h0 u0_3 a0_3) (u0_4 : Value) (a0_4 : List (Option Nat)) (g0_4 : SL (kF .f32) h0.size h0 u0_4 a0_4) (a1 : Int) (a2 : Int) (r : Bool) (hp : impl_isMode a0_0 a0_1 a0_2 a0_3 a0_4 a1 a2 = some r) : CallsH Try.prog 74 ([(.agg (List.toArray (α := Value) [(.int .i64 a0_0), (.int .i64 a0_1), (.bool a0_2), u0_3, u0_4])), (.int .i64 a1), (.int .i64 a2)].toArray ++ [].toArray) h0 (fun v h' => v = (.bool r) ∧ Mod [] h0 h' ∧ Sep [] h0.size h' []) := by
 unfold impl_isMode at hp
 refine callsH_of_W (l := [(.agg (List.toArray (α := Value) [(.int .i64 a0_0), (.int .i64 a0_1), (.bool a0_2), u0_3, u0_4])), (.int .i64 a1), (.int .i64 a2)]) (cap := []) 22 Try.func74 rfl rfl rfl ?_
 refine W.seq ?_
 refine W.region ?_
 refine RL.op _ (by decide) (opS_boxed (opv_boxA (cs := [(.int .i64 a0_0), (.int .i64 a0_1), (.bool a0_2), u0_3, u0_4]) rfl rfl)) ?_
 rintro _ hp1 ⟨bb1, rfl, MT_1, T_1⟩
 obtain ⟨X_1, S_1⟩ := Sep.turn0 (Mod.refl [] h0) (Sep.nil [] h0.size h0) MT_1 T_1
 refine RL.opD (by decide) (opv_assign rfl rfl) ?_
 refine RL.nil ?_
 refine thnN ?_
 refine W.seq ?_
 obtain ⟨x1, hy1, hp⟩ := Option.bind_eq_some_iff.1 hp
 refine W.cut (fun φ' h' => Fr.sub [(0, (.agg (List.toArray (α := Value) [(.int .i64 a0_0), (.int .i64 a0_1), (.bool a0_2), u0_3, u0_4]))), (1, (.int .i64 a1)), (2, (.int .i64 a2)), (3, (.pointer (some ⟨bb1, 0, none⟩))), (6, (.bool x1))] φ' ∧ Mod [] h0 h' ∧ Sep [] h0.size h' [boxO bb1 [(.int .i64 a0_0), (.int .i64 a0_1), (.bool a0_2), u0_3, u0_4]]) ?_ ?_
 ·refine W.region ?_
  refine RL.opD (by decide) (opv_loadA (us := [(.int .i64 a0_0), (.int .i64 a0_1), (.bool a0_2), u0_3, u0_4]) rfl Try.agg33 Try.size33 rfl (Sep.at (o := boxO bb1 [(.int .i64 a0_0), (.int .i64 a0_1), (.bool a0_2), u0_3, u0_4]) S_1 0 rfl) rfl rfl) ?_
  obtain ⟨x2, hx2, hy1⟩ := Option.bind_eq_some_iff.1 hy1
  refine RL.op _ (by decide) (opv_call (cap := []) (impl_ValidSheet_ok _ _ _ _ _ _ (SL.up (SL.mod g0_3 X_1 (Nat.le_refl _) nob) (Nat.le_trans (Nat.le_refl _) (Mod.size X_1))) _ _ (SL.up (SL.mod g0_4 X_1 (Nat.le_refl _) nob) (Nat.le_trans (Nat.le_refl _) (Mod.size X_1))) _ hx2) rfl rfl ⟨rfl, trivial⟩ Try.func45 rfl rfl) ?_
  rintro _ hp2 ⟨rfl, MT_2, T_2⟩
  obtain ⟨X_2, S_2⟩ := Sep.turn0 X_1 S_1 MT_2 T_2
  refine RL.opD (by decide) (opv_move rfl rfl) ?_
  by_cases c1 : x2 = true
  ·rw [if_pos c1] at hy1
   refine RL.yesD rfl rfl c1 (by decide) (opv_fieldAddr rfl Try.fo33_2 rfl) ?_
   refine RL.yesD rfl rfl c1 (by decide) (opv_loadB rfl Try.one4 rfl (Sep.at (o := boxO bb1 [(.int .i64 a0_0), (.int .i64 a0_1), (.bool a0_2), u0_3, u0_4]) S_2 0 rfl) rfl) ?_
   refine RL.yesD rfl rfl c1 (by decide) (opv_not rfl rfl) ?_
   refine RL.opD (by decide) (opv_pick rfl rfl (fun _ => rfl) (fun e => absurd (Eq.trans (Eq.symm e) c1) (by decide)) rfl) ?_
   refine RL.opD (by decide) (opv_move rfl rfl) ?_
   by_cases c2 : (!a0_2) = true
   ·rw [if_pos c2] at hy1
    refine RL.yesD rfl rfl c2 (by decide) (opv_move rfl rfl) ?_
    obtain ⟨x3, hx3, hy1⟩ := Option.bind_eq_some_iff.1 hy1
    refine RL.yes _ rfl rfl c2 (by decide) (opv_call (cap := []) (impl_isOrder_ok _ _ _ hx3) rfl rfl ⟨rfl, trivial⟩ Try.func133 rfl rfl) ?_
    rintro _ _ ⟨rfl, rfl⟩
    refine RL.opD (by decide) (opv_pick rfl rfl (fun _ => rfl) (fun e => absurd (Eq.trans (Eq.symm e) c2) (by decide)) rfl) ?_
    refine RL.opD (by decide) (opv_move rfl rfl) ?_
    by_cases c3 : x3 = true
    ·rw [if_pos c3] at hy1
     refine RL.yesD rfl rfl c3 (by decide) (opv_move rfl rfl) ?_
     obtain ⟨x4, hx4, hy1⟩ := Option.bind_eq_some_iff.1 hy1
     refine RL.yes _ rfl rfl c3 (by decide) (opv_call (cap := []) (impl_isOrder_ok _ _ _ hx4) rfl rfl ⟨rfl, trivial⟩ Try.func133 rfl rfl) ?_
     rintro _ _ ⟨rfl, rfl⟩
     refine RL.opD (by decide) (opv_pick rfl rfl (fun _ => rfl) (fun e => absurd (Eq.trans (Eq.symm e) c3) (by decide)) rfl) ?_
     refine RL.opD (by decide) (opv_assign rfl rfl) ?_
     refine RL.nil ?_
     have ey1 := Option.some.inj hy1
     subst ey1
     refine onlyN ?_
     exact ⟨⟨rfl, rfl, rfl, rfl, rfl, trivial⟩, X_2, (Sep.sel S_2 [0] (by decide))⟩
    ·rw [if_neg c3] at hy1
     have c3 := eq_false_of_ne_true c3
     refine RL.noF rfl rfl c3 (by decide) ?_
     refine RL.noF rfl rfl c3 (by decide) ?_
     refine RL.opD (by decide) (opv_pick rfl rfl (fun e => absurd (Eq.trans (Eq.symm e) c3) (by decide)) (fun _ => rfl) rfl) ?_
     refine RL.opD (by decide) (opv_assign rfl rfl) ?_
     refine RL.nil ?_
     have ey1 := Option.some.inj hy1
     subst ey1
     refine onlyN ?_
     exact ⟨⟨rfl, rfl, rfl, rfl, rfl, trivial⟩, X_2, (Sep.sel S_2 [0] (by decide))⟩
   ·rw [if_neg c2] at hy1
    have c2 := eq_false_of_ne_true c2
    refine RL.noF rfl rfl c2 (by decide) ?_
    refine RL.noF rfl rfl c2 (by decide) ?_
    refine RL.opD (by decide) (opv_pick rfl rfl (fun e => absurd (Eq.trans (Eq.symm e) c2) (by decide)) (fun _ => rfl) rfl) ?_
    refine RL.opD (by decide) (opv_move rfl rfl) ?_
    refine RL.noF rfl rfl rfl (by decide) ?_
    refine RL.noF rfl rfl rfl (by decide) ?_
    refine RL.opD (by decide) (opv_pick rfl rfl (fun e => absurd (Eq.trans (Eq.symm e) rfl) (by decide)) (fun _ => rfl) rfl) ?_
    refine RL.opD (by decide) (opv_assign rfl rfl) ?_
    refine RL.nil ?_
    have ey1 := Option.some.inj hy1
    subst ey1
    refine onlyN ?_
    exact ⟨⟨rfl, rfl, rfl, rfl, rfl, trivial⟩, X_2, (Sep.sel S_2 [0] (by decide))⟩
  ·rw [if_neg c1] at hy1
   have c1 := eq_false_of_ne_true c1
   refine RL.noF rfl rfl c1 (by decide) ?_
   refine RL.noF rfl rfl c1 (by decide) ?_
   refine RL.noF rfl rfl c1 (by decide) ?_
   refine RL.opD (by decide) (opv_pick rfl rfl (fun e => absurd (Eq.trans (Eq.symm e) c1) (by decide)) (fun _ => rfl) rfl) ?_
   refine RL.opD (by decide) (opv_move rfl rfl) ?_
   refine RL.noF rfl rfl rfl (by decide) ?_
   refine RL.noF rfl rfl rfl (by decide) ?_
   refine RL.opD (by decide) (opv_pick rfl rfl (fun e => absurd (Eq.trans (Eq.symm e) rfl) (by decide)) (fun _ => rfl) rfl) ?_
   refine RL.opD (by decide) (opv_move rfl rfl) ?_
   refine RL.noF rfl rfl rfl (by decide) ?_
   refine RL.noF rfl rfl rfl (by decide) ?_
   refine RL.opD (by decide) (opv_pick rfl rfl (fun e => absurd (Eq.trans (Eq.symm e) rfl) (by decide)) (fun _ => rfl) rfl) ?_
   refine RL.opD (by decide) (opv_assign rfl rfl) ?_
   refine RL.nil ?_
   have ey1 := Option.some.inj hy1
   subst ey1
   refine onlyN ?_
   exact ⟨⟨rfl, rfl, rfl, rfl, rfl, trivial⟩, X_2, (Sep.sel S_2 [0] (by decide))⟩
 rintro φ' hp3 ⟨hs1, X_3, S_3⟩
 refine thnN ?_
 refine W.sub hs1 ?_
 refine W.ret ?_
 have er := Option.some.inj hp
 subst er
 exact Rt.one rfl rfl ⟨rfl, X_3, (Sep.nil _ _ _)⟩

set_option maxRecDepth 20000 in
theorem impl_zeroField_ok (h0 : Heap) (a0_0 : Int) (a0_1 : Int) (a0_2 : Bool) (u0_3 : Value) (a0_3 : List (Option Nat)) (g0_3 : SL (kF .f32) h0.size h0 u0_3 a0_3) (u0_4 : Value) (a0_4 : List (Option Nat)) (g0_4 : SL (kF .f32) h0.size h0 u0_4 a0_4) (r : ((List (Option Nat)) × (List (Option Nat)) × (List (Option Nat)))) (hp : impl_zeroField a0_0 a0_1 a0_2 a0_3 a0_4 = some r) : CallsH Try.prog 134 ([(.agg (List.toArray (α := Value) [(.int .i64 a0_0), (.int .i64 a0_1), (.bool a0_2), u0_3, u0_4]))].toArray ++ [].toArray) h0 (fun v h' => ∃ w0, ∃ w1, ∃ w2, v = (.agg (List.toArray (α := Value) [w0, w1, w2])) ∧ Mod [] h0 h' ∧ Sep [] h0.size h' [ownO (kF .f32) 29 w0 r.1, ownO (kF .f32) 29 w1 r.2.1, ownO (kF .f32) 29 w2 r.2.2]) := by
 unfold impl_zeroField at hp
 refine callsH_of_W (l := [(.agg (List.toArray (α := Value) [(.int .i64 a0_0), (.int .i64 a0_1), (.bool a0_2), u0_3, u0_4]))]) (cap := []) 16 Try.func134 rfl rfl rfl ?_
 refine W.seq ?_
 refine W.region ?_
 refine RL.op _ (by decide) (opS_boxed (opv_boxA (cs := [(.int .i64 a0_0), (.int .i64 a0_1), (.bool a0_2), u0_3, u0_4]) rfl rfl)) ?_
 rintro _ hp1 ⟨bb1, rfl, MT_1, T_1⟩
 obtain ⟨X_1, S_1⟩ := Sep.turn0 (Mod.refl [] h0) (Sep.nil [] h0.size h0) MT_1 T_1
 refine RL.op _ (by decide) (opS_boxed (opv_alloc (cs := [(.slice none 0 0), (.slice none 0 0), (.slice none 0 0)]) rfl Try.zero37 rfl)) ?_
 rintro _ hp2 ⟨bb2, rfl, MT_2, T_2⟩
 obtain ⟨X_2, S_2⟩ := Sep.turn0 X_1 S_1 MT_2 T_2
 refine RL.nil ?_
 refine thnN ?_
 refine W.seq ?_
 refine W.region ?_
 refine RL.opD (by decide) (opv_fieldAddr rfl Try.fo33_0 rfl) ?_
 refine RL.opD (by decide) (opv_loadB rfl Try.one2 rfl (Sep.at (o := boxO bb1 [(.int .i64 a0_0), (.int .i64 a0_1), (.bool a0_2), u0_3, u0_4]) S_2 1 rfl) rfl) ?_
 refine RL.opD (by decide) (opv_fieldAddr rfl Try.fo33_1 rfl) ?_
 refine RL.opD (by decide) (opv_loadB rfl Try.one2 rfl (Sep.at (o := boxO bb1 [(.int .i64 a0_0), (.int .i64 a0_1), (.bool a0_2), u0_3, u0_4]) S_2 1 rfl) rfl) ?_
 refine RL.opD (by decide) (opv_mul rfl rfl rfl) ?_
 refine RL.opD (by decide) (opv_assign rfl rfl) ?_
 refine RL.nil ?_
 refine thnN ?_
 refine W.seq ?_
 obtain ⟨c1, hp⟩ := of_ite hp
 obtain ⟨c2, hp⟩ := of_ite hp
 obtain ⟨c3, hp⟩ := of_ite hp
 refine W.sub (ψ := [(0, (.agg (List.toArray (α := Value) [(.int .i64 a0_0), (.int .i64 a0_1), (.bool a0_2), u0_3, u0_4]))), (1, (.pointer (some ⟨bb1, 0, none⟩))), (2, (.pointer (some ⟨bb2, 0, none⟩))), (3, (.int .i64 (IntKind.wrap .i64 (a0_0 * a0_1))))]) ⟨rfl, rfl, rfl, rfl, trivial⟩ ?_
 refine W.regionM [fun v _ => @Eq Value (.int .i64 (IntKind.wrap .i64 (a0_0 * a0_1))) v, fun v h => Sep [] hp2.size h [ownO (kF .f32) 29 v (List.replicate (Int.toNat (IntKind.wrap .i64 (a0_0 * a0_1))) (some 0))], fun v _ => @Eq Value (.int .i64 (IntKind.wrap .i64 (a0_0 * a0_1))) v, fun v h => Sep [] hp2.size h [ownO (kF .f32) 29 v (List.replicate (Int.toNat (IntKind.wrap .i64 (a0_0 * a0_1))) (some 0))], fun v _ => @Eq Value (.int .i64 (IntKind.wrap .i64 (a0_0 * a0_1))) v, fun v h => Sep [] hp2.size h [ownO (kF .f32) 29 v (List.replicate (Int.toNat (IntKind.wrap .i64 (a0_0 * a0_1))) (some 0))]] [none, some (fun u => [u.ownBlock]), none, some (fun u => [u.ownBlock]), none, some (fun u => [u.ownBlock])] [] [[], [0], [], [2], [], [4]] [1, 3, 5] Try.mixed (by decide +kernel) (by decide +kernel) rfl rfl rfl (by decide +kernel) rfl ⟨fun _ _ _ h _ => h, fun _ _ _ h x => h.ext x, fun _ _ _ h _ => h, fun _ _ _ h x => h.ext x, fun _ _ _ h _ => h, fun _ _ _ h x => h.ext x, trivial⟩ ?_ ?_
 ·refine ⟨⟨rfl, ?_⟩, ⟨rfl, ?_⟩, ⟨rfl, ?_⟩, ⟨rfl, ?_⟩, ⟨rfl, ?_⟩, ⟨rfl, ?_⟩, trivial⟩
  ·rintro hp7 E_1
   refine Dep.nil ?_
   refine GuardOK.none rfl ?_
   exact OpV.toDx (opv_move rfl rfl) rfl
  ·rintro hp8 E_2 _ rfl
   refine Dep.nil ?_
   refine GuardOK.none rfl ?_
   exact OpV.mono (opS_make (K := (kF .f32)) (zx := (some 0)) rfl Try.underlying25 Try.einfo29 rfl rfl ⟨_, rfl, (isF_lit .f32 0 (by decide) (by decide))⟩ rfl rfl (by decide) c1) (by rintro _ _ ⟨M_, T_⟩; exact ⟨Mod.ext M_, Sep.weak T_ (Ext.size E_2), Sep.fresh T_⟩)
  ·rintro hp9 E_3
   refine Dep.nil ?_
   refine GuardOK.none rfl ?_
   exact OpV.toDx (opv_move rfl rfl) rfl
  ·rintro hp10 E_4 _ rfl
   refine Dep.nil ?_
   refine GuardOK.none rfl ?_
   exact OpV.mono (opS_make (K := (kF .f32)) (zx := (some 0)) rfl Try.underlying25 Try.einfo29 rfl rfl ⟨_, rfl, (isF_lit .f32 0 (by decide) (by decide))⟩ rfl rfl (by decide) c2) (by rintro _ _ ⟨M_, T_⟩; exact ⟨Mod.ext M_, Sep.weak T_ (Ext.size E_4), Sep.fresh T_⟩)
  ·rintro hp11 E_5
   refine Dep.nil ?_
   refine GuardOK.none rfl ?_
   exact OpV.toDx (opv_move rfl rfl) rfl
  ·rintro hp12 E_6 _ rfl
   refine Dep.nil ?_
   refine GuardOK.none rfl ?_
   exact OpV.mono (opS_make (K := (kF .f32)) (zx := (some 0)) rfl Try.underlying25 Try.einfo29 rfl rfl ⟨_, rfl, (isF_lit .f32 0 (by decide) (by decide))⟩ rfl rfl (by decide) c3) (by rintro _ _ ⟨M_, T_⟩; exact ⟨Mod.ext M_, Sep.weak T_ (Ext.size E_6), Sep.fresh T_⟩)
 rintro hp13 E_7 v1 T_3 v2 T_4 v3 T_5
 refine DepM.nil ?_
 intro PW_1 LK_
 have X_7 := Mod.lift X_2 E_7
 have S_8 := Sep.join S_2 (Mod.size X_2) (Ext.mod E_7 []) (Sep.both T_3 (Sep.both T_4 T_5 (Apt.symm (Apt.of PW_1 0 1 rfl rfl (by decide)))) (Apt.cat' (Apt.symm (Apt.of PW_1 1 2 rfl rfl (by decide))) (Apt.symm (Apt.of PW_1 0 2 rfl rfl (by decide)))))
 show RL _ _ _ _ (_ :: _) _ _
 refine RL.opD (by decide) (opv_build (cs := [v1, v2, v3]) [(0, [v1]), (1, [v2]), (2, [v3])] [(0, v1), (1, v2), (2, v3)] rfl Try.bd37 ⟨⟨rfl, rfl, rfl, cells1 (ownO.one (Sep.at (o := ownO (kF .f32) 29 v1 (List.replicate (Int.toNat (IntKind.wrap .i64 (a0_0 * a0_1))) (some 0))) S_8 0 rfl))⟩, ⟨rfl, rfl, rfl, cells1 (ownO.one (Sep.at (o := ownO (kF .f32) 29 v2 (List.replicate (Int.toNat (IntKind.wrap .i64 (a0_0 * a0_1))) (some 0))) S_8 1 rfl))⟩, ⟨rfl, rfl, rfl, cells1 (ownO.one (Sep.at (o := ownO (kF .f32) 29 v3 (List.replicate (Int.toNat (IntKind.wrap .i64 (a0_0 * a0_1))) (some 0))) S_8 2 rfl))⟩, trivial⟩ rfl) ?_
 refine RL.op0 _ (opS_stored (cs := [(.slice none 0 0), (.slice none 0 0), (.slice none 0 0)]) (cs' := [v1, v2, v3]) (opv_storeA (us := [v1, v2, v3]) rfl Try.size37 rfl rfl (oneAll (ownO.one (Sep.at (o := ownO (kF .f32) 29 v1 (List.replicate (Int.toNat (IntKind.wrap .i64 (a0_0 * a0_1))) (some 0))) S_8 0 rfl)) (oneAll (ownO.one (Sep.at (o := ownO (kF .f32) 29 v2 (List.replicate (Int.toNat (IntKind.wrap .i64 (a0_0 * a0_1))) (some 0))) S_8 1 rfl)) (oneAll (ownO.one (Sep.at (o := ownO (kF .f32) 29 v3 (List.replicate (Int.toNat (IntKind.wrap .i64 (a0_0 * a0_1))) (some 0))) S_8 2 rfl)) rfl))) (Sep.at (o := boxO bb2 [(.slice none 0 0), (.slice none 0 0), (.slice none 0 0)]) S_8 3 rfl) rfl rfl) (Sep.at (o := boxO bb2 [(.slice none 0 0), (.slice none 0 0), (.slice none 0 0)]) S_8 3 rfl)) ?_
 rintro _ hp14 ⟨rfl, MT_7, T_7⟩
 have S_9 : Sep [] h0.size hp13 ([boxO bb2 [(.slice none 0 0), (.slice none 0 0), (.slice none 0 0)]] ++ [ownO (kF .f32) 29 v1 (List.replicate (Int.toNat (IntKind.wrap .i64 (a0_0 * a0_1))) (some 0)), ownO (kF .f32) 29 v2 (List.replicate (Int.toNat (IntKind.wrap .i64 (a0_0 * a0_1))) (some 0)), ownO (kF .f32) 29 v3 (List.replicate (Int.toNat (IntKind.wrap .i64 (a0_0 * a0_1))) (some 0)), boxO bb1 [(.int .i64 a0_0), (.int .i64 a0_1), (.bool a0_2), u0_3, u0_4]]) := Sep.sel S_8 [3, 0, 1, 2, 4] (by decide)
 obtain ⟨X_8, S_10⟩ := Sep.turn X_7 S_9 MT_7 T_7
 refine RL.nil ?_
 refine thnN ?_
 refine W.ret ?_
 have er := Option.some.inj hp
 subst er
 exact Rt.cell1 rfl rfl Try.agg37 Try.size37 (Sep.at (o := boxO bb2 [v1, v2, v3]) S_10 0 rfl) rfl ⟨v1, v2, v3, rfl, X_8, (Sep.sel S_10 [1, 2, 3] (by decide))⟩

set_option maxRecDepth 20000 in
theorem impl_quotient_ok (h0 : Heap) (a0 : Int) (a1 : Int) (r : Option Nat) (hp : impl_quotient a0 a1 = some r) : CallsH Try.prog 137 ([(.int .i64 a0), (.int .i64 a1)].toArray ++ [].toArray) h0 (fun v h' => IsF .f32 v r ∧ h0 = h') := by
 unfold impl_quotient at hp
 refine callsH_of_W (l := [(.int .i64 a0), (.int .i64 a1)]) (cap := []) 10 Try.func137 rfl rfl rfl ?_
 refine W.seq ?_
 refine W.region ?_
 refine RL.opD (by decide) (opv_assign rfl rfl) ?_
 refine RL.nil ?_
 refine thnN ?_
 refine W.seq ?_
 refine W.region ?_
 refine RL.opD (by decide) (opv_move rfl rfl) ?_
 refine RL.opF (by decide) (opv_i2f rfl (by rw [Try.underlying2]; rfl) Try.underlying29 rfl) ?_
 intro v1 fv1
 refine RL.opD (by decide) (opv_move rfl rfl) ?_
 refine RL.opF (by decide) (opv_i2f rfl (by rw [Try.underlying2]; rfl) Try.underlying29 rfl) ?_
 intro v2 fv2
 refine RL.opF (by decide) (opv_fop rfl rfl rfl rfl fv1 fv2) ?_
 intro v3 fv3
 refine RL.opD (by decide) (opv_assign rfl rfl) ?_
 refine RL.nil ?_
 refine thnN ?_
 refine W.ret ?_
 have er := Option.some.inj hp
 subst er
 exact Rt.one rfl rfl ⟨fv3, rfl⟩

set_option maxRecDepth 20000 in
theorem impl_modeField_1_2_ok (h0 : Heap) (lo : Nat) (hlo : lo ≤ h0.size) (a0 : Int) (a1 : Int) (a2 : Int) (be0 : Nat) (ae0_0 : Int) (ae0_1 : Int) (ae0_2 : Bool) (ue0_3 : Value) (ae0_3 : List (Option Nat)) (ge0_3 : SL (kF .f32) lo h0 ue0_3 ae0_3) (ue0_4 : Value) (ae0_4 : List (Option Nat)) (ge0_4 : SL (kF .f32) lo h0 ue0_4 ae0_4) (be1 : Nat) (ue1_0 : Value) (ae1_0 : Option Nat) (ge1_0 : IsF .f32 ue1_0 ae1_0) (be2 : Nat) (ae2_0 : Int) (be3 : Nat) (ae3_0 : Int) (be4 : Nat) (ue4_0 : Value) (ae4_0 : List (Option Nat)) (ue4_1 : Value) (ae4_1 : List (Option Nat)) (ue4_2 : Value) (ae4_2 : List (Option Nat)) (S0 : Sep [some be0, some be1, some be2, some be3, some be4, ue4_0.ownBlock, ue4_1.ownBlock, ue4_2.ownBlock] h0.size h0 [boxO be0 [(.int .i64 ae0_0), (.int .i64 ae0_1), (.bool ae0_2), ue0_3, ue0_4], boxO be1 [ue1_0], boxO be2 [(.int .i64 ae2_0)], boxO be3 [(.int .i64 ae3_0)], boxO be4 [ue4_0, ue4_1, ue4_2], ownO (kF .f32) 29 ue4_0 ae4_0, ownO (kF .f32) 29 ue4_1 ae4_1, ownO (kF .f32) 29 ue4_2 ae4_2]) (hB : ∀ b, some b ∈ [some be0, some be1, some be2, some be3, some be4, ue4_0.ownBlock, ue4_1.ownBlock, ue4_2.ownBlock] → lo ≤ b) (r : (Int × Int × Bool × (Option Nat) × Int × Int × (List (Option Nat)) × (List (Option Nat)) × (List (Option Nat)))) (hp : impl_modeField_1_2 a0 a1 a2 ae0_0 ae0_1 ae0_2 ae0_3 ae0_4 ae1_0 ae2_0 ae3_0 ae4_0 ae4_1 ae4_2 = some r) : CallsH Try.prog 135 ([(.int .i64 a0), (.int .i64 a1), (.int .i64 a2)].toArray ++ [(.pointer (some ⟨be0, 0, none⟩)), (.pointer (some ⟨be1, 0, none⟩)), (.pointer (some ⟨be2, 0, none⟩)), (.pointer (some ⟨be3, 0, none⟩)), (.pointer (some ⟨be4, 0, none⟩))].toArray) h0 (fun v h' => ∃ w3, v = (.tuple (List.toArray (α := Value) [])) ∧ IsF .f32 w3 r.2.2.2.1 ∧ Mod [some be0, some be1, some be2, some be3, some be4, ue4_0.ownBlock, ue4_1.ownBlock, ue4_2.ownBlock] h0 h' ∧ Sep [some be0, some be1, some be2, some be3, some be4, ue4_0.ownBlock, ue4_1.ownBlock, ue4_2.ownBlock] h0.size h' [boxO be0 [(.int .i64 r.1), (.int .i64 r.2.1), (.bool r.2.2.1), ue0_3, ue0_4], boxO be1 [w3], boxO be2 [(.int .i64 r.2.2.2.2.1)], boxO be3 [(.int .i64 r.2.2.2.2.2.1)], boxO be4 [ue4_0, ue4_1, ue4_2], ownO (kF .f32) 29 ue4_0 r.2.2.2.2.2.2.1, ownO (kF .f32) 29 ue4_1 r.2.2.2.2.2.2.2.1, ownO (kF .f32) 29 ue4_2 r.2.2.2.2.2.2.2.2]) := by
 unfold impl_modeField_1_2 at hp
 refine callsH_of_W (l := [(.int .i64 a0), (.int .i64 a1), (.int .i64 a2)]) (cap := [(.pointer (some ⟨be0, 0, none⟩)), (.pointer (some ⟨be1, 0, none⟩)), (.pointer (some ⟨be2, 0, none⟩)), (.pointer (some ⟨be3, 0, none⟩)), (.pointer (some ⟨be4, 0, none⟩))]) 41 Try.func135 rfl rfl rfl ?_
 refine W.seq ?_
 refine W.region ?_
 refine RL.opD (by decide) (opv_loadA (us := [(.int .i64 ae0_0), (.int .i64 ae0_1), (.bool ae0_2), ue0_3, ue0_4]) rfl Try.agg33 Try.size33 rfl (Sep.at (o := boxO be0 [(.int .i64 ae0_0), (.int .i64 ae0_1), (.bool ae0_2), ue0_3, ue0_4]) S0 0 rfl) rfl rfl) ?_
 refine RL.opD (by decide) (opv_move rfl rfl) ?_
 refine RL.opD (by decide) (opv_move rfl rfl) ?_
 obtain ⟨x1, hx1, hp⟩ := Option.bind_eq_some_iff.1 hp
 refine RL.op _ (by decide) (opv_call (cap := []) (impl_Sheet_isBorder_ok _ _ _ _ _ _ (SL.up ge0_3 hlo) _ _ (SL.up ge0_4 hlo) _ _ _ hx1) rfl rfl ⟨rfl, rfl, rfl, trivial⟩ Try.func112 rfl rfl) ?_
 rintro _ hp1 ⟨rfl, MT_1, T_1⟩
 obtain ⟨X_1, S_1⟩ := Sep.turn0 (Mod.refl [some be0, some be1, some be2, some be3, some be4, ue4_0.ownBlock, ue4_1.ownBlock, ue4_2.ownBlock] h0) S0 MT_1 T_1
 refine RL.opD (by decide) (opv_not rfl rfl) ?_
 refine RL.nil ?_
 refine thnN ?_
 obtain ⟨x2, hy1, hp⟩ := Option.bind_eq_some_iff.1 hp
 refine W.cut (fun φ' h' => Fr.sub [(0, (.int .i64 a0)), (1, (.int .i64 a1)), (2, (.int .i64 a2)), (3, (.pointer (some ⟨be0, 0, none⟩))), (4, (.pointer (some ⟨be1, 0, none⟩))), (5, (.pointer (some ⟨be2, 0, none⟩))), (6, (.pointer (some ⟨be3, 0, none⟩))), (7, (.pointer (some ⟨be4, 0, none⟩))), (15, (.bool (!x1)))] φ' ∧ Mod [some be0, some be1, some be2, some be3, some be4, ue4_0.ownBlock, ue4_1.ownBlock, ue4_2.ownBlock] h0 h' ∧ Sep [some be0, some be1, some be2, some be3, some be4, ue4_0.ownBlock, ue4_1.ownBlock, ue4_2.ownBlock] h0.size h' [boxO be0 [(.int .i64 ae0_0), (.int .i64 ae0_1), (.bool ae0_2), ue0_3, ue0_4], boxO be1 [ue1_0], boxO be2 [(.int .i64 ae2_0)], boxO be3 [(.int .i64 ae3_0)], boxO be4 [ue4_0, ue4_1, ue4_2], ownO (kF .f32) 29 ue4_0 x2, ownO (kF .f32) 29 ue4_1 ae4_1, ownO (kF .f32) 29 ue4_2 ae4_2]) ?_ ?_
 ·by_cases c1 : (!x1) = true
  ·rw [if_pos c1] at hy1
   refine W.condT rfl c1 ?_
   obtain ⟨x3, hx3, hy1⟩ := Option.bind_eq_some_iff.1 hy1
   obtain ⟨x4, hx4, hy1⟩ := Option.bind_eq_some_iff.1 hy1
   obtain ⟨x5, hx5, hy1⟩ := Option.bind_eq_some_iff.1 hy1
   obtain ⟨x6, hx6, hy1⟩ := Option.bind_eq_some_iff.1 hy1
   obtain ⟨x7, hx7, hy1⟩ := Option.bind_eq_some_iff.1 hy1
   obtain ⟨x8, hx8, hy1⟩ := Option.bind_eq_some_iff.1 hy1
   refine W.sub (ψ := [(0, (.int .i64 a0)), (1, (.int .i64 a1)), (2, (.int .i64 a2)), (3, (.pointer (some ⟨be0, 0, none⟩))), (4, (.pointer (some ⟨be1, 0, none⟩))), (5, (.pointer (some ⟨be2, 0, none⟩))), (6, (.pointer (some ⟨be3, 0, none⟩))), (7, (.pointer (some ⟨be4, 0, none⟩))), (15, (.bool (!x1)))]) ⟨rfl, rfl, rfl, rfl, rfl, rfl, rfl, rfl, rfl, trivial⟩ ?_
   refine W.regionP [fun v _ => @Eq Value (.pointer (some ⟨be4, 0, none⟩)) v, fun v _ => @Eq Value ue4_0 v, fun v _ => @Eq Value (.int .i64 a2) v, fun v _ => IsF .f32 v ae1_0, fun v _ => @Eq Value (.int .i64 ae2_0) v, fun v _ => @Eq Value (.int .i64 a0) v, fun v _ => @Eq Value (.int .i64 (IntKind.wrap .i64 (ae2_0 * a0))) v, fun v _ => @Eq Value (.pointer (some ⟨be0, 0, none⟩)) v, fun v _ => @Eq Value (.int .i64 ae0_0) v, fun v _ => @Eq Value (.int .i64 (IntKind.wrap .i64 (ae0_0 - 1))) v, fun v _ => @Eq Value (.int .i64 (IntKind.wrap .i64 (2 * (IntKind.wrap .i64 (ae0_0 - 1))))) v, fun v _ => IsF .f32 v x3, fun v _ => IsF .f32 v x4, fun v _ => IsF .f32 v (fop .mul .f32 ae1_0 x4), fun v _ => @Eq Value (.int .i64 ae3_0) v, fun v _ => @Eq Value (.int .i64 a1) v, fun v _ => @Eq Value (.int .i64 (IntKind.wrap .i64 (ae3_0 * a1))) v, fun v _ => @Eq Value (.pointer (some ⟨be0, 1, none⟩)) v, fun v _ => @Eq Value (.int .i64 ae0_1) v, fun v _ => @Eq Value (.int .i64 (IntKind.wrap .i64 (ae0_1 - 1))) v, fun v _ => @Eq Value (.int .i64 (IntKind.wrap .i64 (2 * (IntKind.wrap .i64 (ae0_1 - 1))))) v, fun v _ => IsF .f32 v x5, fun v _ => IsF .f32 v x6, fun v _ => IsF .f32 v (fop .mul .f32 (fop .mul .f32 ae1_0 x4) x6), fun v _ => PtI 1 v ue4_0 (Int.toNat a2)] [[], [0], [], [], [], [], [4, 5], [], [7], [8], [9], [6, 10], [11], [3, 12], [], [], [14, 15], [], [17], [18], [19], [16, 20], [21], [13, 22], [1, 2]] [23, 24] Try.mixed (by decide +kernel) (by decide +kernel) rfl rfl rfl ?_ ?_
   ·refine ⟨⟨rfl, ?_⟩, ⟨rfl, ?_⟩, ⟨rfl, ?_⟩, ⟨rfl, ?_⟩, ⟨rfl, ?_⟩, ⟨rfl, ?_⟩, ⟨rfl, ?_⟩, ⟨rfl, ?_⟩, ⟨rfl, ?_⟩, ⟨rfl, ?_⟩, ⟨rfl, ?_⟩, ⟨rfl, ?_⟩, ⟨rfl, ?_⟩, ⟨rfl, ?_⟩, ⟨rfl, ?_⟩, ⟨rfl, ?_⟩, ⟨rfl, ?_⟩, ⟨rfl, ?_⟩, ⟨rfl, ?_⟩, ⟨rfl, ?_⟩, ⟨rfl, ?_⟩, ⟨rfl, ?_⟩, ⟨rfl, ?_⟩, ⟨rfl, ?_⟩, ⟨rfl, ?_⟩, trivial⟩
    ·rintro _ rfl
     refine Dep.nil ?_
     refine GuardOK.none rfl ?_
     exact OpV.toD (opv_fieldAddr rfl Try.fo37_0 rfl) rfl
    ·rintro _ rfl _ rfl
     refine Dep.nil ?_
     refine GuardOK.none rfl ?_
     exact OpV.toD (opv_loadB rfl Try.one25 rfl (Sep.at (o := boxO be4 [ue4_0, ue4_1, ue4_2]) S_1 4 rfl) rfl) rfl
    ·rintro _ rfl
     refine Dep.nil ?_
     refine GuardOK.none rfl ?_
     exact OpV.toD (opv_move rfl rfl) rfl
    ·rintro _ rfl
     refine Dep.nil ?_
     refine GuardOK.none rfl ?_
     exact OpV.toD (opv_loadB rfl Try.one29 rfl (Sep.at (o := boxO be1 [ue1_0]) S_1 1 rfl) rfl) ge1_0
    ·rintro _ rfl
     refine Dep.nil ?_
     refine GuardOK.none rfl ?_
     exact OpV.toD (opv_loadB rfl Try.one2 rfl (Sep.at (o := boxO be2 [(.int .i64 ae2_0)]) S_1 2 rfl) rfl) rfl
    ·rintro _ rfl
     refine Dep.nil ?_
     refine GuardOK.none rfl ?_
     exact OpV.toD (opv_move rfl rfl) rfl
    ·rintro _ rfl _ rfl _ rfl
     refine Dep.nil ?_
     refine GuardOK.none rfl ?_
     exact OpV.toD (opv_mul rfl rfl rfl) rfl
    ·rintro _ rfl
     refine Dep.nil ?_
     refine GuardOK.none rfl ?_
     exact OpV.toD (opv_fieldAddr rfl Try.fo33_0 rfl) rfl
    ·rintro _ rfl _ rfl
     refine Dep.nil ?_
     refine GuardOK.none rfl ?_
     exact OpV.toD (opv_loadB rfl Try.one2 rfl (Sep.at (o := boxO be0 [(.int .i64 ae0_0), (.int .i64 ae0_1), (.bool ae0_2), ue0_3, ue0_4]) S_1 0 rfl) rfl) rfl
    ·rintro _ rfl _ rfl
     refine Dep.nil ?_
     refine GuardOK.none rfl ?_
     exact OpV.toD (opv_sub rfl rfl rfl) rfl
    ·rintro _ rfl _ rfl
     refine Dep.nil ?_
     refine GuardOK.none rfl ?_
     exact OpV.toD (opv_mul rfl rfl rfl) rfl
    ·rintro _ rfl _ rfl _ rfl
     refine Dep.nil ?_
     refine GuardOK.none rfl ?_
     exact OpV.mono (opv_call (cap := []) (impl_quotient_ok _ _ _ _ hx3) rfl rfl ⟨rfl, rfl, trivial⟩ Try.func137 rfl rfl) (by rintro v2 _ ⟨fv2, rfl⟩; exact ⟨rfl, fv2⟩)
    ·rintro _ rfl v2 fv2
     refine Dep.nil ?_
     refine GuardOK.none rfl ?_
     exact OpV.mono (opv_call (cap := []) (impl_SineTurns_ok _ _ _ fv2 _ hx4) rfl rfl ⟨rfl, trivial⟩ Try.func136 rfl rfl) (by rintro v3 _ ⟨fv3, rfl⟩; exact ⟨rfl, fv3⟩)
    ·rintro _ rfl v1 fv1 v3 fv3
     refine Dep.nil ?_
     refine GuardOK.none rfl ?_
     exact OpV.toS (opv_fop rfl rfl rfl rfl fv1 fv3) (fun _ h => h)
    ·rintro _ rfl
     refine Dep.nil ?_
     refine GuardOK.none rfl ?_
     exact OpV.toD (opv_loadB rfl Try.one2 rfl (Sep.at (o := boxO be3 [(.int .i64 ae3_0)]) S_1 3 rfl) rfl) rfl
    ·rintro _ rfl
     refine Dep.nil ?_
     refine GuardOK.none rfl ?_
     exact OpV.toD (opv_move rfl rfl) rfl
    ·rintro _ rfl _ rfl _ rfl
     refine Dep.nil ?_
     refine GuardOK.none rfl ?_
     exact OpV.toD (opv_mul rfl rfl rfl) rfl
    ·rintro _ rfl
     refine Dep.nil ?_
     refine GuardOK.none rfl ?_
     exact OpV.toD (opv_fieldAddr rfl Try.fo33_1 rfl) rfl
    ·rintro _ rfl _ rfl
     refine Dep.nil ?_
     refine GuardOK.none rfl ?_
     exact OpV.toD (opv_loadB rfl Try.one2 rfl (Sep.at (o := boxO be0 [(.int .i64 ae0_0), (.int .i64 ae0_1), (.bool ae0_2), ue0_3, ue0_4]) S_1 0 rfl) rfl) rfl
    ·rintro _ rfl _ rfl
     refine Dep.nil ?_
     refine GuardOK.none rfl ?_
     exact OpV.toD (opv_sub rfl rfl rfl) rfl
    ·rintro _ rfl _ rfl
     refine Dep.nil ?_
     refine GuardOK.none rfl ?_
     exact OpV.toD (opv_mul rfl rfl rfl) rfl
    ·rintro _ rfl _ rfl _ rfl
     refine Dep.nil ?_
     refine GuardOK.none rfl ?_
     exact OpV.mono (opv_call (cap := []) (impl_quotient_ok _ _ _ _ hx5) rfl rfl ⟨rfl, rfl, trivial⟩ Try.func137 rfl rfl) (by rintro v5 _ ⟨fv5, rfl⟩; exact ⟨rfl, fv5⟩)
    ·rintro _ rfl v5 fv5
     refine Dep.nil ?_
     refine GuardOK.none rfl ?_
     exact OpV.mono (opv_call (cap := []) (impl_SineTurns_ok _ _ _ fv5 _ hx6) rfl rfl ⟨rfl, trivial⟩ Try.func136 rfl rfl) (by rintro v6 _ ⟨fv6, rfl⟩; exact ⟨rfl, fv6⟩)
    ·rintro _ rfl v4 fv4 v6 fv6
     refine Dep.nil ?_
     refine GuardOK.none rfl ?_
     exact OpV.toS (opv_fop rfl rfl rfl rfl fv4 fv6) (fun _ h => h)
    ·rintro _ rfl _ rfl _ rfl
     refine Dep.nil ?_
     refine GuardOK.none rfl ?_
     exact OpV.toS (opv_index rfl Try.underlying25 (by rw [Try.size29]; rfl) rfl rfl (ownO.read (Sep.at (o := ownO (kF .f32) 29 ue4_0 ae4_0) S_1 5 rfl)) hx7) (fun _ h => h)
   rintro v7 fv7 v8 fv8
   refine Dep.nil ?_
   show RL _ _ _ _ (_ :: _) _ _
   refine RL.op0 _ (opS_storeE (K := (kF .f32)) rfl Try.size29 rfl rfl fv8 rfl ⟨_, rfl, fv7⟩ hx8 (Sep.at (o := ownO (kF .f32) 29 ue4_0 ae4_0) S_1 5 rfl)) ?_
   rintro _ hp3 ⟨rfl, MT_3, T_3⟩
   have S_4 : Sep [some be0, some be1, some be2, some be3, some be4, ue4_0.ownBlock, ue4_1.ownBlock, ue4_2.ownBlock] h0.size hp1 ([ownO (kF .f32) 29 ue4_0 ae4_0] ++ [boxO be0 [(.int .i64 ae0_0), (.int .i64 ae0_1), (.bool ae0_2), ue0_3, ue0_4], boxO be1 [ue1_0], boxO be2 [(.int .i64 ae2_0)], boxO be3 [(.int .i64 ae3_0)], boxO be4 [ue4_0, ue4_1, ue4_2], ownO (kF .f32) 29 ue4_1 ae4_1, ownO (kF .f32) 29 ue4_2 ae4_2]) := Sep.sel S_1 [5, 0, 1, 2, 3, 4, 6, 7] (by decide)
   obtain ⟨X_3, S_5⟩ := Sep.turn X_1 S_4 MT_3 T_3
   refine RL.nil ?_
   have ey1 := Option.some.inj hy1
   subst ey1
   refine onlyN ?_
   exact ⟨⟨rfl, rfl, rfl, rfl, rfl, rfl, rfl, rfl, rfl, trivial⟩, X_3, (Sep.sel S_5 [1, 2, 3, 4, 5, 0, 6, 7] (by decide))⟩
  ·rw [if_neg c1] at hy1
   have c1 := eq_false_of_ne_true c1
   refine W.condF rfl c1 ?_
   refine W.skip ?_
   have ey1 := Option.some.inj hy1
   subst ey1
   refine onlyN ?_
   exact ⟨⟨rfl, rfl, rfl, rfl, rfl, rfl, rfl, rfl, rfl, trivial⟩, X_1, (Sep.sel S_1 [0, 1, 2, 3, 4, 5, 6, 7] (by decide))⟩
 rintro φ' hp4 ⟨hs1, X_4, S_6⟩
 have er := Option.some.inj hp
 subst er
 exact Rt.none' rfl ⟨ue1_0, rfl, ge1_0, X_4, (Sep.sel S_6 [0, 1, 2, 3, 4, 5, 6, 7] (by decide))⟩

set_option maxRecDepth 20000 in
theorem impl_Sheet_each__impl_modeField_1_ok (h0 : Heap) (lo : Nat) (hlo : lo ≤ h0.size) (a0_0 : Int) (a0_1 : Int) (a0_2 : Bool) (u0_3 : Value) (a0_3 : List (Option Nat)) (g0_3 : SL (kF .f32) lo h0 u0_3 a0_3) (u0_4 : Value) (a0_4 : List (Option Nat)) (g0_4 : SL (kF .f32) lo h0 u0_4 a0_4) (be0 : Nat) (ae0_0 : Int) (ae0_1 : Int) (ae0_2 : Bool) (ue0_3 : Value) (ae0_3 : List (Option Nat)) (ge0_3 : SL (kF .f32) lo h0 ue0_3 ae0_3) (ue0_4 : Value) (ae0_4 : List (Option Nat)) (ge0_4 : SL (kF .f32) lo h0 ue0_4 ae0_4) (be1 : Nat) (ue1_0 : Value) (ae1_0 : Option Nat) (ge1_0 : IsF .f32 ue1_0 ae1_0) (be2 : Nat) (ae2_0 : Int) (be3 : Nat) (ae3_0 : Int) (be4 : Nat) (ue4_0 : Value) (ae4_0 : List (Option Nat)) (ue4_1 : Value) (ae4_1 : List (Option Nat)) (ue4_2 : Value) (ae4_2 : List (Option Nat)) (S0 : Sep [some be0, some be1, some be2, some be3, some be4, ue4_0.ownBlock, ue4_1.ownBlock, ue4_2.ownBlock] h0.size h0 [boxO be0 [(.int .i64 ae0_0), (.int .i64 ae0_1), (.bool ae0_2), ue0_3, ue0_4], boxO be1 [ue1_0], boxO be2 [(.int .i64 ae2_0)], boxO be3 [(.int .i64 ae3_0)], boxO be4 [ue4_0, ue4_1, ue4_2], ownO (kF .f32) 29 ue4_0 ae4_0, ownO (kF .f32) 29 ue4_1 ae4_1, ownO (kF .f32) 29 ue4_2 ae4_2]) (hB : ∀ b, some b ∈ [some be0, some be1, some be2, some be3, some be4, ue4_0.ownBlock, ue4_1.ownBlock, ue4_2.ownBlock] → lo ≤ b) (r : (Int × Int × Bool × (Option Nat) × Int × Int × (List (Option Nat)) × (List (Option Nat)) × (List (Option Nat)))) (hp : impl_Sheet_each__impl_modeField_1 a0_0 a0_1 a0_2 a0_3 a0_4 ae0_0 ae0_1 ae0_2 ae0_3 ae0_4 ae1_0 ae2_0 ae3_0 ae4_0 ae4_1 ae4_2 = some r) : CallsH Try.prog 101 ([(.agg (List.toArray (α := Value) [(.int .i64 a0_0), (.int .i64 a0_1), (.bool a0_2), u0_3, u0_4])), (.func (.func 135) #[] (List.toArray (α := Value) [(.pointer (some ⟨be0, 0, none⟩)), (.pointer (some ⟨be1, 0, none⟩)), (.pointer (some ⟨be2, 0, none⟩)), (.pointer (some ⟨be3, 0, none⟩)), (.pointer (some ⟨be4, 0, none⟩))]))].toArray ++ [].toArray) h0 (fun v h' => ∃ w3, v = (.tuple (List.toArray (α := Value) [])) ∧ IsF .f32 w3 r.2.2.2.1 ∧ Mod [some be0, some be1, some be2, some be3, some be4, ue4_0.ownBlock, ue4_1.ownBlock, ue4_2.ownBlock] h0 h' ∧ Sep [some be0, some be1, some be2, some be3, some be4, ue4_0.ownBlock, ue4_1.ownBlock, ue4_2.ownBlock] h0.size h' [boxO be0 [(.int .i64 r.1), (.int .i64 r.2.1), (.bool r.2.2.1), ue0_3, ue0_4], boxO be1 [w3], boxO be2 [(.int .i64 r.2.2.2.2.1)], boxO be3 [(.int .i64 r.2.2.2.2.2.1)], boxO be4 [ue4_0, ue4_1, ue4_2], ownO (kF .f32) 29 ue4_0 r.2.2.2.2.2.2.1, ownO (kF .f32) 29 ue4_1 r.2.2.2.2.2.2.2.1, ownO (kF .f32) 29 ue4_2 r.2.2.2.2.2.2.2.2]) := by
 unfold impl_Sheet_each__impl_modeField_1 at hp
 refine callsH_of_W (l := [(.agg (List.toArray (α := Value) [(.int .i64 a0_0), (.int .i64 a0_1), (.bool a0_2), u0_3, u0_4])), (.func (.func 135) #[] (List.toArray (α := Value) [(.pointer (some ⟨be0, 0, none⟩)), (.pointer (some ⟨be1, 0, none⟩)), (.pointer (some ⟨be2, 0, none⟩)), (.pointer (some ⟨be3, 0, none⟩)), (.pointer (some ⟨be4, 0, none⟩))]))]) (cap := []) 26 Try.func101 rfl rfl rfl ?_
 refine W.seq ?_
 refine W.region ?_
 refine RL.op _ (by decide) (opS_boxed (opv_boxA (cs := [(.int .i64 a0_0), (.int .i64 a0_1), (.bool a0_2), u0_3, u0_4]) rfl rfl)) ?_
 rintro _ hp1 ⟨bb1, rfl, MT_1, T_1⟩
 obtain ⟨X_1, S_1⟩ := Sep.turn0 (Mod.refl [some be0, some be1, some be2, some be3, some be4, ue4_0.ownBlock, ue4_1.ownBlock, ue4_2.ownBlock] h0) S0 MT_1 T_1
 refine RL.nil ?_
 refine thnN ?_
 refine W.seq ?_
 refine W.region ?_
 refine RL.opD (by decide) (opv_fieldAddr rfl Try.fo33_1 rfl) ?_
 refine RL.opD (by decide) (opv_loadB rfl Try.one2 rfl (Sep.at (o := boxO bb1 [(.int .i64 a0_0), (.int .i64 a0_1), (.bool a0_2), u0_3, u0_4]) S_1 0 rfl) rfl) ?_
 refine RL.opD (by decide) (opv_move rfl rfl) ?_
 refine RL.nil ?_
 refine thnN ?_
 obtain ⟨y1, hy1, hp⟩ := Option.bind_eq_some_iff.1 hp
 refine W.cut (fun φ' h' => ∃ x11, ∃ x12, ∃ x13, ∃ x14, ∃ x15, ∃ x16, ∃ x17, ∃ x18, ∃ x19, ∃ x20, ∃ x21, ∃ v2, y1 = (x11, x12, x13, x14, x15, x16, x17, x18, x19, x20, x21) ∧ Fr.sub [(0, (.agg (List.toArray (α := Value) [(.int .i64 a0_0), (.int .i64 a0_1), (.bool a0_2), u0_3, u0_4]))), (1, (.func (.func 135) #[] (List.toArray (α := Value) [(.pointer (some ⟨be0, 0, none⟩)), (.pointer (some ⟨be1, 0, none⟩)), (.pointer (some ⟨be2, 0, none⟩)), (.pointer (some ⟨be3, 0, none⟩)), (.pointer (some ⟨be4, 0, none⟩))]))), (2, (.pointer (some ⟨bb1, 0, none⟩))), (7, (.int .i64 a0_1)), (8, (.int .i64 x11)), (9, (.bool x12))] φ' ∧ IsF .f32 v2 x16 ∧ Mod [some be0, some be1, some be2, some be3, some be4, ue4_0.ownBlock, ue4_1.ownBlock, ue4_2.ownBlock] h0 h' ∧ Sep [some be0, some be1, some be2, some be3, some be4, ue4_0.ownBlock, ue4_1.ownBlock, ue4_2.ownBlock] h0.size h' [boxO bb1 [(.int .i64 a0_0), (.int .i64 a0_1), (.bool a0_2), u0_3, u0_4], boxO be0 [(.int .i64 x13), (.int .i64 x14), (.bool x15), ue0_3, ue0_4], boxO be1 [v2], boxO be2 [(.int .i64 x17)], boxO be3 [(.int .i64 x18)], boxO be4 [ue4_0, ue4_1, ue4_2], ownO (kF .f32) 29 ue4_0 x19, ownO (kF .f32) 29 ue4_1 x20, ownO (kF .f32) 29 ue4_2 x21]) ?_ ?_
 ·refine W.block ?_
  refine W.loopS (fun (s : (Int × Int × Int × Bool × (Option Nat) × Int × Int × (List (Option Nat)) × (List (Option Nat)) × (List (Option Nat)))) φ' h' => ∃ v1, Fr.sub [(0, (.agg (List.toArray (α := Value) [(.int .i64 a0_0), (.int .i64 a0_1), (.bool a0_2), u0_3, u0_4]))), (1, (.func (.func 135) #[] (List.toArray (α := Value) [(.pointer (some ⟨be0, 0, none⟩)), (.pointer (some ⟨be1, 0, none⟩)), (.pointer (some ⟨be2, 0, none⟩)), (.pointer (some ⟨be3, 0, none⟩)), (.pointer (some ⟨be4, 0, none⟩))]))), (2, (.pointer (some ⟨bb1, 0, none⟩))), (7, (.int .i64 a0_1)), (8, (.int .i64 s.1))] φ' ∧ IsF .f32 v1 s.2.2.2.2.1 ∧ Mod [some be0, some be1, some be2, some be3, some be4, ue4_0.ownBlock, ue4_1.ownBlock, ue4_2.ownBlock] h0 h' ∧ Sep [some be0, some be1, some be2, some be3, some be4, ue4_0.ownBlock, ue4_1.ownBlock, ue4_2.ownBlock] h0.size h' [boxO bb1 [(.int .i64 a0_0), (.int .i64 a0_1), (.bool a0_2), u0_3, u0_4], boxO be0 [(.int .i64 s.2.1), (.int .i64 s.2.2.1), (.bool s.2.2.2.1), ue0_3, ue0_4], boxO be1 [v1], boxO be2 [(.int .i64 s.2.2.2.2.2.1)], boxO be3 [(.int .i64 s.2.2.2.2.2.2.1)], boxO be4 [ue4_0, ue4_1, ue4_2], ownO (kF .f32) 29 ue4_0 s.2.2.2.2.2.2.2.1, ownO (kF .f32) 29 ue4_1 s.2.2.2.2.2.2.2.2.1, ownO (kF .f32) 29 ue4_2 s.2.2.2.2.2.2.2.2.2]) hy1 ⟨ue1_0, ⟨rfl, rfl, rfl, rfl, rfl, trivial⟩, ge1_0, X_1, (Sep.sel S_1 [0, 1, 2, 3, 4, 5, 6, 7, 8] (by decide))⟩ ?_
  rintro ⟨x1, x2, x3, x4, x5, x6, x7, x8, x9, x10⟩ φ' hp2 o1 ⟨v1, hs1, fv1, X_2, S_2⟩ ho1 hy1
  have hs1 : Fr.sub [(0, (.agg (List.toArray (α := Value) [(.int .i64 a0_0), (.int .i64 a0_1), (.bool a0_2), u0_3, u0_4]))), (1, (.func (.func 135) #[] (List.toArray (α := Value) [(.pointer (some ⟨be0, 0, none⟩)), (.pointer (some ⟨be1, 0, none⟩)), (.pointer (some ⟨be2, 0, none⟩)), (.pointer (some ⟨be3, 0, none⟩)), (.pointer (some ⟨be4, 0, none⟩))]))), (2, (.pointer (some ⟨bb1, 0, none⟩))), (7, (.int .i64 a0_1)), (8, (.int .i64 x1))] φ' := hs1
  have fv1 : IsF .f32 v1 x5 := fv1
  have S_2 : Sep [some be0, some be1, some be2, some be3, some be4, ue4_0.ownBlock, ue4_1.ownBlock, ue4_2.ownBlock] h0.size hp2 [boxO bb1 [(.int .i64 a0_0), (.int .i64 a0_1), (.bool a0_2), u0_3, u0_4], boxO be0 [(.int .i64 x2), (.int .i64 x3), (.bool x4), ue0_3, ue0_4], boxO be1 [v1], boxO be2 [(.int .i64 x6)], boxO be3 [(.int .i64 x7)], boxO be4 [ue4_0, ue4_1, ue4_2], ownO (kF .f32) 29 ue4_0 x8, ownO (kF .f32) 29 ue4_1 x9, ownO (kF .f32) 29 ue4_2 x10] := S_2
  have ho1 : impl_Sheet_each__impl_modeField_1.s0 a0_0 a0_1 a0_2 a0_3 a0_4 ae0_3 ae0_4 x1 x2 x3 x4 x5 x6 x7 x8 x9 x10 = some o1 := ho1
  unfold impl_Sheet_each__impl_modeField_1.s0 at ho1
  refine W.sub hs1 ?_
  refine W.seq ?_
  refine W.region ?_
  refine RL.opD (by decide) (opv_icmp rfl rfl rfl rfl) ?_
  refine RL.nil ?_
  refine thnN ?_
  refine W.seq ?_
  by_cases c1 : (decide (x1 < a0_1)) = true
  ·rw [if_pos c1] at ho1
   refine W.condT rfl c1 ?_
   refine W.skip ?_
   refine thnN ?_
   refine W.seq ?_
   refine W.block ?_
   refine W.seq ?_
   refine W.region ?_
   refine RL.opD (by decide) (opv_move rfl rfl) ?_
   refine RL.opD (by decide) (opv_assign rfl rfl) ?_
   refine RL.nil ?_
   refine thnN ?_
   refine W.seq ?_
   refine W.region ?_
   refine RL.opD (by decide) (opv_fieldAddr rfl Try.fo33_0 rfl) ?_
   refine RL.opD (by decide) (opv_loadB rfl Try.one2 rfl (Sep.at (o := boxO bb1 [(.int .i64 a0_0), (.int .i64 a0_1), (.bool a0_2), u0_3, u0_4]) S_2 0 rfl) rfl) ?_
   refine RL.opD (by decide) (opv_move rfl rfl) ?_
   refine RL.nil ?_
   refine thnN ?_
   obtain ⟨y2, hy2, ho1⟩ := Option.bind_eq_some_iff.1 ho1
   refine W.cut (fun φ' h' => ∃ x32, ∃ x33, ∃ x34, ∃ x35, ∃ x36, ∃ x37, ∃ x38, ∃ x39, ∃ x40, ∃ x41, ∃ x42, ∃ v4, y2 = (x32, x33, x34, x35, x36, x37, x38, x39, x40, x41, x42) ∧ Fr.sub [(0, (.agg (List.toArray (α := Value) [(.int .i64 a0_0), (.int .i64 a0_1), (.bool a0_2), u0_3, u0_4]))), (1, (.func (.func 135) #[] (List.toArray (α := Value) [(.pointer (some ⟨be0, 0, none⟩)), (.pointer (some ⟨be1, 0, none⟩)), (.pointer (some ⟨be2, 0, none⟩)), (.pointer (some ⟨be3, 0, none⟩)), (.pointer (some ⟨be4, 0, none⟩))]))), (2, (.pointer (some ⟨bb1, 0, none⟩))), (7, (.int .i64 a0_1)), (8, (.int .i64 x1)), (9, (.bool (decide (x1 < a0_1)))), (4, (.int .i64 x1)), (12, (.int .i64 a0_0)), (13, (.int .i64 x32)), (14, (.bool x33))] φ' ∧ IsF .f32 v4 x37 ∧ Mod [some be0, some be1, some be2, some be3, some be4, ue4_0.ownBlock, ue4_1.ownBlock, ue4_2.ownBlock] h0 h' ∧ Sep [some be0, some be1, some be2, some be3, some be4, ue4_0.ownBlock, ue4_1.ownBlock, ue4_2.ownBlock] h0.size h' [boxO bb1 [(.int .i64 a0_0), (.int .i64 a0_1), (.bool a0_2), u0_3, u0_4], boxO be0 [(.int .i64 x34), (.int .i64 x35), (.bool x36), ue0_3, ue0_4], boxO be1 [v4], boxO be2 [(.int .i64 x38)], boxO be3 [(.int .i64 x39)], boxO be4 [ue4_0, ue4_1, ue4_2], ownO (kF .f32) 29 ue4_0 x40, ownO (kF .f32) 29 ue4_1 x41, ownO (kF .f32) 29 ue4_2 x42]) ?_ ?_
   ·refine W.block ?_
    refine W.loopS (fun (s : (Int × Int × Int × Bool × (Option Nat) × Int × Int × (List (Option Nat)) × (List (Option Nat)) × (List (Option Nat)))) φ' h' => ∃ v3, Fr.sub [(0, (.agg (List.toArray (α := Value) [(.int .i64 a0_0), (.int .i64 a0_1), (.bool a0_2), u0_3, u0_4]))), (1, (.func (.func 135) #[] (List.toArray (α := Value) [(.pointer (some ⟨be0, 0, none⟩)), (.pointer (some ⟨be1, 0, none⟩)), (.pointer (some ⟨be2, 0, none⟩)), (.pointer (some ⟨be3, 0, none⟩)), (.pointer (some ⟨be4, 0, none⟩))]))), (2, (.pointer (some ⟨bb1, 0, none⟩))), (7, (.int .i64 a0_1)), (8, (.int .i64 x1)), (9, (.bool (decide (x1 < a0_1)))), (4, (.int .i64 x1)), (12, (.int .i64 a0_0)), (13, (.int .i64 s.1))] φ' ∧ IsF .f32 v3 s.2.2.2.2.1 ∧ Mod [some be0, some be1, some be2, some be3, some be4, ue4_0.ownBlock, ue4_1.ownBlock, ue4_2.ownBlock] h0 h' ∧ Sep [some be0, some be1, some be2, some be3, some be4, ue4_0.ownBlock, ue4_1.ownBlock, ue4_2.ownBlock] h0.size h' [boxO bb1 [(.int .i64 a0_0), (.int .i64 a0_1), (.bool a0_2), u0_3, u0_4], boxO be0 [(.int .i64 s.2.1), (.int .i64 s.2.2.1), (.bool s.2.2.2.1), ue0_3, ue0_4], boxO be1 [v3], boxO be2 [(.int .i64 s.2.2.2.2.2.1)], boxO be3 [(.int .i64 s.2.2.2.2.2.2.1)], boxO be4 [ue4_0, ue4_1, ue4_2], ownO (kF .f32) 29 ue4_0 s.2.2.2.2.2.2.2.1, ownO (kF .f32) 29 ue4_1 s.2.2.2.2.2.2.2.2.1, ownO (kF .f32) 29 ue4_2 s.2.2.2.2.2.2.2.2.2]) hy2 ⟨v1, ⟨rfl, rfl, rfl, rfl, rfl, rfl, rfl, rfl, rfl, trivial⟩, fv1, X_2, (Sep.sel S_2 [0, 1, 2, 3, 4, 5, 6, 7, 8] (by decide))⟩ ?_
    rintro ⟨x22, x23, x24, x25, x26, x27, x28, x29, x30, x31⟩ φ' hp3 o2 ⟨v3, hs3, fv3, X_3, S_3⟩ ho2 hy2
    have hs3 : Fr.sub [(0, (.agg (List.toArray (α := Value) [(.int .i64 a0_0), (.int .i64 a0_1), (.bool a0_2), u0_3, u0_4]))), (1, (.func (.func 135) #[] (List.toArray (α := Value) [(.pointer (some ⟨be0, 0, none⟩)), (.pointer (some ⟨be1, 0, none⟩)), (.pointer (some ⟨be2, 0, none⟩)), (.pointer (some ⟨be3, 0, none⟩)), (.pointer (some ⟨be4, 0, none⟩))]))), (2, (.pointer (some ⟨bb1, 0, none⟩))), (7, (.int .i64 a0_1)), (8, (.int .i64 x1)), (9, (.bool (decide (x1 < a0_1)))), (4, (.int .i64 x1)), (12, (.int .i64 a0_0)), (13, (.int .i64 x22))] φ' := hs3
    have fv3 : IsF .f32 v3 x26 := fv3
    have S_3 : Sep [some be0, some be1, some be2, some be3, some be4, ue4_0.ownBlock, ue4_1.ownBlock, ue4_2.ownBlock] h0.size hp3 [boxO bb1 [(.int .i64 a0_0), (.int .i64 a0_1), (.bool a0_2), u0_3, u0_4], boxO be0 [(.int .i64 x23), (.int .i64 x24), (.bool x25), ue0_3, ue0_4], boxO be1 [v3], boxO be2 [(.int .i64 x27)], boxO be3 [(.int .i64 x28)], boxO be4 [ue4_0, ue4_1, ue4_2], ownO (kF .f32) 29 ue4_0 x29, ownO (kF .f32) 29 ue4_1 x30, ownO (kF .f32) 29 ue4_2 x31] := S_3
    have ho2 : impl_Sheet_each__impl_modeField_1.s1 a0_0 a0_1 a0_2 a0_3 a0_4 ae0_3 ae0_4 x1 x22 x23 x24 x25 x26 x27 x28 x29 x30 x31 = some o2 := ho2
    unfold impl_Sheet_each__impl_modeField_1.s1 at ho2
    refine W.sub hs3 ?_
    refine W.seq ?_
    refine W.region ?_
    refine RL.opD (by decide) (opv_icmp rfl rfl rfl rfl) ?_
    refine RL.nil ?_
    refine thnN ?_
    refine W.seq ?_
    by_cases c2 : (decide (x22 < a0_0)) = true
    ·rw [if_pos c2] at ho2
     refine W.condT rfl c2 ?_
     refine W.skip ?_
     refine thnN ?_
     refine W.seq ?_
     refine W.block ?_
     refine W.seq ?_
     refine W.region ?_
     refine RL.opD (by decide) (opv_move rfl rfl) ?_
     refine RL.opD (by decide) (opv_assign rfl rfl) ?_
     refine RL.nil ?_
     refine thnN ?_
     refine W.region ?_
     refine RL.opD (by decide) (opv_move rfl rfl) ?_
     refine RL.opD (by decide) (opv_move rfl rfl) ?_
     refine RL.opD (by decide) (opv_move rfl rfl) ?_
     refine RL.opD (by decide) (opv_loadA (us := [(.int .i64 a0_0), (.int .i64 a0_1), (.bool a0_2), u0_3, u0_4]) rfl Try.agg33 Try.size33 rfl (Sep.at (o := boxO bb1 [(.int .i64 a0_0), (.int .i64 a0_1), (.bool a0_2), u0_3, u0_4]) S_3 0 rfl) rfl rfl) ?_
     refine RL.opD (by decide) (opv_move rfl rfl) ?_
     refine RL.opD (by decide) (opv_move rfl rfl) ?_
     obtain ⟨x43, hx43, ho2⟩ := Option.bind_eq_some_iff.1 ho2
     refine RL.op _ (by decide) (opv_call (cap := []) (impl_Sheet_at_ok _ _ _ _ _ _ (SL.up (SL.mod g0_3 X_3 hlo hB) (Nat.le_trans hlo (Mod.size X_3))) _ _ (SL.up (SL.mod g0_4 X_3 hlo hB) (Nat.le_trans hlo (Mod.size X_3))) _ _ _ hx43) rfl rfl ⟨rfl, rfl, rfl, trivial⟩ Try.func108 rfl rfl) ?_
     rintro _ hp4 ⟨rfl, MT_2, T_2⟩
     obtain ⟨X_4, S_4⟩ := Sep.turn0 X_3 S_3 MT_2 T_2
     obtain ⟨x44, hx44, ho2⟩ := Option.bind_eq_some_iff.1 ho2
     have S_6 : Sep [some be0, some be1, some be2, some be3, some be4, ue4_0.ownBlock, ue4_1.ownBlock, ue4_2.ownBlock] h0.size hp4 [boxO be0 [(.int .i64 x23), (.int .i64 x24), (.bool x25), ue0_3, ue0_4], boxO be1 [v3], boxO be2 [(.int .i64 x27)], boxO be3 [(.int .i64 x28)], boxO be4 [ue4_0, ue4_1, ue4_2], ownO (kF .f32) 29 ue4_0 x29, ownO (kF .f32) 29 ue4_1 x30, ownO (kF .f32) 29 ue4_2 x31] := Sep.sel S_4 [1, 2, 3, 4, 5, 6, 7, 8] (by decide)
     have S_5 : Sep [some be0, some be1, some be2, some be3, some be4, ue4_0.ownBlock, ue4_1.ownBlock, ue4_2.ownBlock] hp4.size hp4 [boxO be0 [(.int .i64 x23), (.int .i64 x24), (.bool x25), ue0_3, ue0_4], boxO be1 [v3], boxO be2 [(.int .i64 x27)], boxO be3 [(.int .i64 x28)], boxO be4 [ue4_0, ue4_1, ue4_2], ownO (kF .f32) 29 ue4_0 x29, ownO (kF .f32) 29 ue4_1 x30, ownO (kF .f32) 29 ue4_2 x31] := Sep.own S_6 _
     refine RL.op _ (by decide) (opv_call (cap := [(.pointer (some ⟨be0, 0, none⟩)), (.pointer (some ⟨be1, 0, none⟩)), (.pointer (some ⟨be2, 0, none⟩)), (.pointer (some ⟨be3, 0, none⟩)), (.pointer (some ⟨be4, 0, none⟩))]) (impl_modeField_1_2_ok _ lo (Nat.le_trans hlo (Mod.size X_4)) _ _ _ _ _ _ _ _ _ (SL.mod ge0_3 X_4 hlo hB) _ _ (SL.mod ge0_4 X_4 hlo hB) _ _ _ fv3 _ _ _ _ _ _ _ _ _ _ _ S_5 (Sep.ge (L := [boxO be0 [(.int .i64 x23), (.int .i64 x24), (.bool x25), ue0_3, ue0_4], boxO be1 [v3], boxO be2 [(.int .i64 x27)], boxO be3 [(.int .i64 x28)], boxO be4 [ue4_0, ue4_1, ue4_2], ownO (kF .f32) 29 ue4_0 x29, ownO (kF .f32) 29 ue4_1 x30, ownO (kF .f32) 29 ue4_2 x31]) S_6 hlo hB) _ hx44) rfl rfl ⟨rfl, rfl, rfl, trivial⟩ Try.func135 rfl rfl) ?_
     rintro _ hp5 ⟨v5, rfl, fv5, MT_3, T_3⟩
     have S_7 : Sep [some be0, some be1, some be2, some be3, some be4, ue4_0.ownBlock, ue4_1.ownBlock, ue4_2.ownBlock] h0.size hp4 ([boxO be0 [(.int .i64 x23), (.int .i64 x24), (.bool x25), ue0_3, ue0_4], boxO be1 [v3], boxO be2 [(.int .i64 x27)], boxO be3 [(.int .i64 x28)], boxO be4 [ue4_0, ue4_1, ue4_2], ownO (kF .f32) 29 ue4_0 x29, ownO (kF .f32) 29 ue4_1 x30, ownO (kF .f32) 29 ue4_2 x31] ++ [boxO bb1 [(.int .i64 a0_0), (.int .i64 a0_1), (.bool a0_2), u0_3, u0_4]]) := Sep.sel S_4 [1, 2, 3, 4, 5, 6, 7, 8, 0] (by decide)
     obtain ⟨X_5, S_8⟩ := Sep.turn X_4 S_7 MT_3 T_3
     refine RL.nil ?_
     refine blkN ?_
     refine thnN ?_
     refine W.region ?_
     refine RL.opD (by decide) (opv_add rfl rfl rfl) ?_
     refine RL.opD (by decide) (opv_move rfl rfl) ?_
     refine RL.nil ?_
     have eo2 := Option.some.inj ho2
     subst eo2
     refine rndN (s' := (IntKind.wrap .i64 (x22 + 1), x44.1, x44.2.1, x44.2.2.1, x44.2.2.2.1, x44.2.2.2.2.1, x44.2.2.2.2.2.1, x44.2.2.2.2.2.2.1, x44.2.2.2.2.2.2.2.1, x44.2.2.2.2.2.2.2.2)) rfl ?_
     exact ⟨v5, ⟨rfl, rfl, rfl, rfl, rfl, rfl, rfl, rfl, rfl, trivial⟩, fv5, X_5, (Sep.sel S_8 [8, 0, 1, 2, 3, 4, 5, 6, 7] (by decide))⟩
    ·rw [if_neg c2] at ho2
     have c2 := eq_false_of_ne_true c2
     refine W.condF rfl c2 ?_
     refine W.exit ?_
     refine thnX ?_
     refine rndX ?_
     refine blkI ?_
     have eo2 := Option.some.inj ho2
     subst eo2
     have ey2 := hy2 _ rfl
     subst ey2
     refine onlyN ?_
     exact ⟨x22, decide (x22 < a0_0), x23, x24, x25, x26, x27, x28, x29, x30, x31, v3, rfl, ⟨rfl, rfl, rfl, rfl, rfl, rfl, rfl, rfl, rfl, rfl, trivial⟩, fv3, X_3, (Sep.sel S_3 [0, 1, 2, 3, 4, 5, 6, 7, 8] (by decide))⟩
   rintro φ' hp6 ⟨x32, x33, x34, x35, x36, x37, x38, x39, x40, x41, x42, v4, rfl, hs4, fv4, X_6, S_9⟩
   try dsimp only at ho1
   refine blkN ?_
   refine thnN ?_
   refine W.sub hs4 ?_
   refine W.region ?_
   refine RL.opD (by decide) (opv_add rfl rfl rfl) ?_
   refine RL.opD (by decide) (opv_move rfl rfl) ?_
   refine RL.nil ?_
   have eo1 := Option.some.inj ho1
   subst eo1
   refine rndN (s' := (IntKind.wrap .i64 (x1 + 1), x34, x35, x36, x37, x38, x39, x40, x41, x42)) rfl ?_
   exact ⟨v4, ⟨rfl, rfl, rfl, rfl, rfl, trivial⟩, fv4, X_6, (Sep.sel S_9 [0, 1, 2, 3, 4, 5, 6, 7, 8] (by decide))⟩
  ·rw [if_neg c1] at ho1
   have c1 := eq_false_of_ne_true c1
   refine W.condF rfl c1 ?_
   refine W.exit ?_
   refine thnX ?_
   refine rndX ?_
   refine blkI ?_
   have eo1 := Option.some.inj ho1
   subst eo1
   have ey1 := hy1 _ rfl
   subst ey1
   refine onlyN ?_
   exact ⟨x1, decide (x1 < a0_1), x2, x3, x4, x5, x6, x7, x8, x9, x10, v1, rfl, ⟨rfl, rfl, rfl, rfl, rfl, rfl, trivial⟩, fv1, X_2, (Sep.sel S_2 [0, 1, 2, 3, 4, 5, 6, 7, 8] (by decide))⟩
 rintro φ' hp7 ⟨x11, x12, x13, x14, x15, x16, x17, x18, x19, x20, x21, v2, rfl, hs2, fv2, X_7, S_10⟩
 try dsimp only at hp
 have er := Option.some.inj hp
 subst er
 exact Rt.none' rfl ⟨v2, rfl, fv2, X_7, (Sep.sel S_10 [1, 2, 3, 4, 5, 6, 7, 8] (by decide))⟩

set_option maxRecDepth 20000 in
theorem impl_modeField_ok (h0 : Heap) (a0_0 : Int) (a0_1 : Int) (a0_2 : Bool) (u0_3 : Value) (a0_3 : List (Option Nat)) (g0_3 : SL (kF .f32) h0.size h0 u0_3 a0_3) (u0_4 : Value) (a0_4 : List (Option Nat)) (g0_4 : SL (kF .f32) h0.size h0 u0_4 a0_4) (a1 : Int) (a2 : Int) (u3 : Value) (a3 : Option Nat) (g3 : IsF .f32 u3 a3) (r : ((List (Option Nat)) × (List (Option Nat)) × (List (Option Nat)))) (hp : impl_modeField a0_0 a0_1 a0_2 a0_3 a0_4 a1 a2 a3 = some r) : CallsH Try.prog 76 ([(.agg (List.toArray (α := Value) [(.int .i64 a0_0), (.int .i64 a0_1), (.bool a0_2), u0_3, u0_4])), (.int .i64 a1), (.int .i64 a2), u3].toArray ++ [].toArray) h0 (fun v h' => ∃ w0, ∃ w1, ∃ w2, v = (.agg (List.toArray (α := Value) [w0, w1, w2])) ∧ Mod [] h0 h' ∧ Sep [] h0.size h' [ownO (kF .f32) 29 w0 r.1, ownO (kF .f32) 29 w1 r.2.1, ownO (kF .f32) 29 w2 r.2.2]) := by
 unfold impl_modeField at hp
 refine callsH_of_W (l := [(.agg (List.toArray (α := Value) [(.int .i64 a0_0), (.int .i64 a0_1), (.bool a0_2), u0_3, u0_4])), (.int .i64 a1), (.int .i64 a2), u3]) (cap := []) 16 Try.func76 rfl rfl rfl ?_
 refine W.seq ?_
 refine W.region ?_
 refine RL.op _ (by decide) (opS_boxed (opv_boxA (cs := [(.int .i64 a0_0), (.int .i64 a0_1), (.bool a0_2), u0_3, u0_4]) rfl rfl)) ?_
 rintro _ hp1 ⟨bb1, rfl, MT_1, T_1⟩
 obtain ⟨X_1, S_1⟩ := Sep.turn0 (Mod.refl [] h0) (Sep.nil [] h0.size h0) MT_1 T_1
 refine RL.op _ (by decide) (opS_boxed (opv_box1 rfl rfl rfl)) ?_
 rintro _ hp2 ⟨bb2, rfl, MT_2, T_2⟩
 obtain ⟨X_2, S_2⟩ := Sep.turn0 X_1 S_1 MT_2 T_2
 refine RL.op _ (by decide) (opS_boxed (opv_box1 rfl rfl rfl)) ?_
 rintro _ hp3 ⟨bb3, rfl, MT_3, T_3⟩
 obtain ⟨X_3, S_3⟩ := Sep.turn0 X_2 S_2 MT_3 T_3
 refine RL.op _ (by decide) (opS_boxed (opv_box1 rfl rfl (IsF.one g3))) ?_
 rintro _ hp4 ⟨bb4, rfl, MT_4, T_4⟩
 obtain ⟨X_4, S_4⟩ := Sep.turn0 X_3 S_3 MT_4 T_4
 refine RL.op _ (by decide) (opS_boxed (opv_alloc (cs := [(.slice none 0 0), (.slice none 0 0), (.slice none 0 0)]) rfl Try.zero37 rfl)) ?_
 rintro _ hp5 ⟨bb5, rfl, MT_5, T_5⟩
 obtain ⟨X_5, S_5⟩ := Sep.turn0 X_4 S_4 MT_5 T_5
 refine RL.nil ?_
 refine thnN ?_
 refine W.seq ?_
 refine W.region ?_
 refine RL.opD (by decide) (opv_loadA (us := [(.int .i64 a0_0), (.int .i64 a0_1), (.bool a0_2), u0_3, u0_4]) rfl Try.agg33 Try.size33 rfl (Sep.at (o := boxO bb1 [(.int .i64 a0_0), (.int .i64 a0_1), (.bool a0_2), u0_3, u0_4]) S_5 4 rfl) rfl rfl) ?_
 obtain ⟨x1, hx1, hp⟩ := Option.bind_eq_some_iff.1 hp
 refine RL.op _ (by decide) (opv_call (cap := []) (impl_zeroField_ok _ _ _ _ _ _ (SL.up (SL.mod g0_3 X_5 (Nat.le_refl _) nob) (Nat.le_trans (Nat.le_refl _) (Mod.size X_5))) _ _ (SL.up (SL.mod g0_4 X_5 (Nat.le_refl _) nob) (Nat.le_trans (Nat.le_refl _) (Mod.size X_5))) _ hx1) rfl rfl ⟨rfl, trivial⟩ Try.func134 rfl rfl) ?_
 rintro _ hp6 ⟨v1, v2, v3, rfl, MT_6, T_6⟩
 obtain ⟨X_6, S_6⟩ := Sep.turn0 X_5 S_5 MT_6 T_6
 refine RL.op _ (by decide) (opS_boxed (opv_alloc (cs := [(.slice none 0 0), (.slice none 0 0), (.slice none 0 0)]) rfl Try.zero37 rfl)) ?_
 rintro _ hp7 ⟨bb6, rfl, MT_7, T_7⟩
 obtain ⟨X_7, S_7⟩ := Sep.turn0 X_6 S_6 MT_7 T_7
 refine RL.op0 _ (opS_stored (cs := [(.slice none 0 0), (.slice none 0 0), (.slice none 0 0)]) (cs' := [v1, v2, v3]) (opv_storeA (us := [v1, v2, v3]) rfl Try.size37 rfl rfl (oneAll (ownO.one (Sep.at (o := ownO (kF .f32) 29 v1 x1.1) S_7 1 rfl)) (oneAll (ownO.one (Sep.at (o := ownO (kF .f32) 29 v2 x1.2.1) S_7 2 rfl)) (oneAll (ownO.one (Sep.at (o := ownO (kF .f32) 29 v3 x1.2.2) S_7 3 rfl)) rfl))) (Sep.at (o := boxO bb6 [(.slice none 0 0), (.slice none 0 0), (.slice none 0 0)]) S_7 0 rfl) rfl rfl) (Sep.at (o := boxO bb6 [(.slice none 0 0), (.slice none 0 0), (.slice none 0 0)]) S_7 0 rfl)) ?_
 rintro _ hp8 ⟨rfl, MT_8, T_8⟩
 have S_8 : Sep [] h0.size hp7 ([boxO bb6 [(.slice none 0 0), (.slice none 0 0), (.slice none 0 0)]] ++ [ownO (kF .f32) 29 v1 x1.1, ownO (kF .f32) 29 v2 x1.2.1, ownO (kF .f32) 29 v3 x1.2.2, boxO bb5 [(.slice none 0 0), (.slice none 0 0), (.slice none 0 0)], boxO bb4 [u3], boxO bb3 [(.int .i64 a2)], boxO bb2 [(.int .i64 a1)], boxO bb1 [(.int .i64 a0_0), (.int .i64 a0_1), (.bool a0_2), u0_3, u0_4]]) := Sep.sel S_7 [0, 1, 2, 3, 4, 5, 6, 7, 8] (by decide)
 obtain ⟨X_8, S_9⟩ := Sep.turn X_7 S_8 MT_8 T_8
 refine RL.nil ?_
 refine thnN ?_
 refine W.seq ?_
 refine W.region ?_
 refine RL.opD (by decide) (opv_loadA (us := [(.int .i64 a0_0), (.int .i64 a0_1), (.bool a0_2), u0_3, u0_4]) rfl Try.agg33 Try.size33 rfl (Sep.at (o := boxO bb1 [(.int .i64 a0_0), (.int .i64 a0_1), (.bool a0_2), u0_3, u0_4]) S_9 8 rfl) rfl rfl) ?_
 refine RL.opD (by decide) (opv_makeFunc (vs := [(.pointer (some ⟨bb1, 0, none⟩)), (.pointer (some ⟨bb4, 0, none⟩)), (.pointer (some ⟨bb2, 0, none⟩)), (.pointer (some ⟨bb3, 0, none⟩)), (.pointer (some ⟨bb6, 0, none⟩))]) rfl ⟨rfl, rfl, rfl, rfl, rfl, trivial⟩) ?_
 obtain ⟨x2, hx2, hp⟩ := Option.bind_eq_some_iff.1 hp
 have S_11 : Sep [] h0.size hp8 [boxO bb1 [(.int .i64 a0_0), (.int .i64 a0_1), (.bool a0_2), u0_3, u0_4], boxO bb4 [u3], boxO bb2 [(.int .i64 a1)], boxO bb3 [(.int .i64 a2)], boxO bb6 [v1, v2, v3], ownO (kF .f32) 29 v1 x1.1, ownO (kF .f32) 29 v2 x1.2.1, ownO (kF .f32) 29 v3 x1.2.2] := Sep.sel S_9 [8, 5, 7, 6, 0, 1, 2, 3] (by decide)
 have S_10 : Sep [some bb1, some bb4, some bb2, some bb3, some bb6, v1.ownBlock, v2.ownBlock, v3.ownBlock] hp8.size hp8 [boxO bb1 [(.int .i64 a0_0), (.int .i64 a0_1), (.bool a0_2), u0_3, u0_4], boxO bb4 [u3], boxO bb2 [(.int .i64 a1)], boxO bb3 [(.int .i64 a2)], boxO bb6 [v1, v2, v3], ownO (kF .f32) 29 v1 x1.1, ownO (kF .f32) 29 v2 x1.2.1, ownO (kF .f32) 29 v3 x1.2.2] := Sep.own S_11 _
 refine RL.op _ (by decide) (opv_call (cap := []) (impl_Sheet_each__impl_modeField_1_ok _ h0.size (Nat.le_trans (Nat.le_refl _) (Mod.size X_8)) _ _ _ _ _ (SL.mod g0_3 X_8 (Nat.le_refl _) nob) _ _ (SL.mod g0_4 X_8 (Nat.le_refl _) nob) _ _ _ _ _ _ (SL.mod g0_3 X_8 (Nat.le_refl _) nob) _ _ (SL.mod g0_4 X_8 (Nat.le_refl _) nob) _ _ _ g3 _ _ _ _ _ _ _ _ _ _ _ S_10 (Sep.ge (L := [boxO bb1 [(.int .i64 a0_0), (.int .i64 a0_1), (.bool a0_2), u0_3, u0_4], boxO bb4 [u3], boxO bb2 [(.int .i64 a1)], boxO bb3 [(.int .i64 a2)], boxO bb6 [v1, v2, v3], ownO (kF .f32) 29 v1 x1.1, ownO (kF .f32) 29 v2 x1.2.1, ownO (kF .f32) 29 v3 x1.2.2]) S_11 (Nat.le_refl _) nob) _ hx2) rfl rfl ⟨rfl, rfl, trivial⟩ Try.func101 rfl rfl) ?_
 rintro _ hp9 ⟨v4, rfl, fv4, MT_9, T_9⟩
 have S_12 : Sep [] h0.size hp8 ([boxO bb1 [(.int .i64 a0_0), (.int .i64 a0_1), (.bool a0_2), u0_3, u0_4], boxO bb4 [u3], boxO bb2 [(.int .i64 a1)], boxO bb3 [(.int .i64 a2)], boxO bb6 [v1, v2, v3], ownO (kF .f32) 29 v1 x1.1, ownO (kF .f32) 29 v2 x1.2.1, ownO (kF .f32) 29 v3 x1.2.2] ++ [boxO bb5 [(.slice none 0 0), (.slice none 0 0), (.slice none 0 0)]]) := Sep.sel S_9 [8, 5, 7, 6, 0, 1, 2, 3, 4] (by decide)
 obtain ⟨X_9, S_13⟩ := Sep.turn X_8 S_12 MT_9 T_9
 refine RL.nil ?_
 refine thnN ?_
 refine W.seq ?_
 refine W.region ?_
 refine RL.opD (by decide) (opv_loadA (us := [v1, v2, v3]) rfl Try.agg37 Try.size37 rfl (Sep.at (o := boxO bb6 [v1, v2, v3]) S_13 4 rfl) rfl rfl) ?_
 refine RL.op0 _ (opS_stored (cs := [(.slice none 0 0), (.slice none 0 0), (.slice none 0 0)]) (cs' := [v1, v2, v3]) (opv_storeA (us := [v1, v2, v3]) rfl Try.size37 rfl rfl (oneAll (ownO.one (Sep.at (o := ownO (kF .f32) 29 v1 x2.2.2.2.2.2.2.1) S_13 5 rfl)) (oneAll (ownO.one (Sep.at (o := ownO (kF .f32) 29 v2 x2.2.2.2.2.2.2.2.1) S_13 6 rfl)) (oneAll (ownO.one (Sep.at (o := ownO (kF .f32) 29 v3 x2.2.2.2.2.2.2.2.2) S_13 7 rfl)) rfl))) (Sep.at (o := boxO bb5 [(.slice none 0 0), (.slice none 0 0), (.slice none 0 0)]) S_13 8 rfl) rfl rfl) (Sep.at (o := boxO bb5 [(.slice none 0 0), (.slice none 0 0), (.slice none 0 0)]) S_13 8 rfl)) ?_
 rintro _ hp10 ⟨rfl, MT_10, T_10⟩
 have S_14 : Sep [] h0.size hp9 ([boxO bb5 [(.slice none 0 0), (.slice none 0 0), (.slice none 0 0)]] ++ [boxO bb1 [(.int .i64 x2.1), (.int .i64 x2.2.1), (.bool x2.2.2.1), u0_3, u0_4], boxO bb4 [v4], boxO bb2 [(.int .i64 x2.2.2.2.2.1)], boxO bb3 [(.int .i64 x2.2.2.2.2.2.1)], boxO bb6 [v1, v2, v3], ownO (kF .f32) 29 v1 x2.2.2.2.2.2.2.1, ownO (kF .f32) 29 v2 x2.2.2.2.2.2.2.2.1, ownO (kF .f32) 29 v3 x2.2.2.2.2.2.2.2.2]) := Sep.sel S_13 [8, 0, 1, 2, 3, 4, 5, 6, 7] (by decide)
 obtain ⟨X_10, S_15⟩ := Sep.turn X_9 S_14 MT_10 T_10
 refine RL.nil ?_
 refine thnN ?_
 refine W.ret ?_
 have er := Option.some.inj hp
 subst er
 exact Rt.cell1 rfl rfl Try.agg37 Try.size37 (Sep.at (o := boxO bb5 [v1, v2, v3]) S_15 0 rfl) rfl ⟨v1, v2, v3, rfl, X_10, (Sep.sel S_15 [6, 7, 8] (by decide))⟩

set_option maxRecDepth 20000 in
theorem impl_ModeField_ok (h0 : Heap) (a0_0 : Int) (a0_1 : Int) (a0_2 : Bool) (u0_3 : Value) (a0_3 : List (Option Nat)) (g0_3 : SL (kF .f32) h0.size h0 u0_3 a0_3) (u0_4 : Value) (a0_4 : List (Option Nat)) (g0_4 : SL (kF .f32) h0.size h0 u0_4 a0_4) (a1 : Int) (a2 : Int) (u3 : Value) (a3 : Option Nat) (g3 : IsF .f32 u3 a3) (r : ((List (Option Nat)) × (List (Option Nat)) × (List (Option Nat)) × Bool)) (hp : impl_ModeField a0_0 a0_1 a0_2 a0_3 a0_4 a1 a2 a3 = some r) : CallsH Try.prog 17 ([(.agg (List.toArray (α := Value) [(.int .i64 a0_0), (.int .i64 a0_1), (.bool a0_2), u0_3, u0_4])), (.int .i64 a1), (.int .i64 a2), u3].toArray ++ [].toArray) h0 (fun v h' => ∃ w0, ∃ w1, ∃ w2, v = (.tuple (List.toArray (α := Value) [(.agg (List.toArray (α := Value) [w0, w1, w2])), (.bool r.2.2.2)])) ∧ Mod [] h0 h' ∧ Sep [] h0.size h' [ownO (kF .f32) 29 w0 r.1, ownO (kF .f32) 29 w1 r.2.1, ownO (kF .f32) 29 w2 r.2.2.1]) := by
 unfold impl_ModeField at hp
 refine callsH_of_W (l := [(.agg (List.toArray (α := Value) [(.int .i64 a0_0), (.int .i64 a0_1), (.bool a0_2), u0_3, u0_4])), (.int .i64 a1), (.int .i64 a2), u3]) (cap := []) 26 Try.func17 rfl rfl rfl ?_
 refine W.seq ?_
 refine W.region ?_
 refine RL.op _ (by decide) (opS_boxed (opv_boxA (cs := [(.int .i64 a0_0), (.int .i64 a0_1), (.bool a0_2), u0_3, u0_4]) rfl rfl)) ?_
 rintro _ hp1 ⟨bb1, rfl, MT_1, T_1⟩
 obtain ⟨X_1, S_1⟩ := Sep.turn0 (Mod.refl [] h0) (Sep.nil [] h0.size h0) MT_1 T_1
 refine RL.op _ (by decide) (opS_boxed (opv_alloc (cs := [(.slice none 0 0), (.slice none 0 0), (.slice none 0 0)]) rfl Try.zero37 rfl)) ?_
 rintro _ hp2 ⟨bb2, rfl, MT_2, T_2⟩
 obtain ⟨X_2, S_2⟩ := Sep.turn0 X_1 S_1 MT_2 T_2
 refine RL.opD (by decide) (opv_assign rfl rfl) ?_
 refine RL.nil ?_
 refine thnN ?_
 refine W.seq ?_
 refine W.seq ?_
 obtain ⟨x1, hy1, hp⟩ := Option.bind_eq_some_iff.1 hp
 refine W.cut (fun φ' h' => Fr.sub [(0, (.agg (List.toArray (α := Value) [(.int .i64 a0_0), (.int .i64 a0_1), (.bool a0_2), u0_3, u0_4]))), (1, (.int .i64 a1)), (2, (.int .i64 a2)), (3, u3), (4, (.pointer (some ⟨bb1, 0, none⟩))), (8, (.pointer (some ⟨bb2, 0, none⟩))), (9, (.bool false)), (19, (.bool x1))] φ' ∧ Mod [] h0 h' ∧ Sep [] h0.size h' [boxO bb2 [(.slice none 0 0), (.slice none 0 0), (.slice none 0 0)], boxO bb1 [(.int .i64 a0_0), (.int .i64 a0_1), (.bool a0_2), u0_3, u0_4]]) ?_ ?_
 ·refine W.region ?_
  refine RL.opD (by decide) (opv_loadA (us := [(.int .i64 a0_0), (.int .i64 a0_1), (.bool a0_2), u0_3, u0_4]) rfl Try.agg33 Try.size33 rfl (Sep.at (o := boxO bb1 [(.int .i64 a0_0), (.int .i64 a0_1), (.bool a0_2), u0_3, u0_4]) S_2 1 rfl) rfl rfl) ?_
  refine RL.opD (by decide) (opv_move rfl rfl) ?_
  refine RL.opD (by decide) (opv_move rfl rfl) ?_
  obtain ⟨x2, hx2, hy1⟩ := Option.bind_eq_some_iff.1 hy1
  refine RL.op _ (by decide) (opv_call (cap := []) (impl_isMode_ok _ _ _ _ _ _ (SL.up (SL.mod g0_3 X_2 (Nat.le_refl _) nob) (Nat.le_trans (Nat.le_refl _) (Mod.size X_2))) _ _ (SL.up (SL.mod g0_4 X_2 (Nat.le_refl _) nob) (Nat.le_trans (Nat.le_refl _) (Mod.size X_2))) _ _ _ hx2) rfl rfl ⟨rfl, rfl, rfl, trivial⟩ Try.func74 rfl rfl) ?_
  rintro _ hp3 ⟨rfl, MT_3, T_3⟩
  obtain ⟨X_3, S_3⟩ := Sep.turn0 X_2 S_2 MT_3 T_3
  refine RL.opD (by decide) (opv_not rfl rfl) ?_
  refine RL.opD (by decide) (opv_move rfl rfl) ?_
  by_cases c1 : (!x2) = true
  ·rw [if_pos c1] at hy1
   refine RL.noT rfl rfl c1 (by decide) ?_
   refine RL.noT rfl rfl c1 (by decide) ?_
   refine RL.noT rfl rfl c1 (by decide) ?_
   refine RL.opD (by decide) (opv_pick rfl rfl (fun _ => rfl) (fun e => absurd (Eq.trans (Eq.symm e) c1) (by decide)) rfl) ?_
   refine RL.nil ?_
   have ey1 := Option.some.inj hy1
   subst ey1
   refine onlyN ?_
   exact ⟨⟨rfl, rfl, rfl, rfl, rfl, rfl, rfl, rfl, trivial⟩, X_3, (Sep.sel S_3 [0, 1] (by decide))⟩
  ·rw [if_neg c1] at hy1
   have c1 := eq_false_of_ne_true c1
   refine RL.yesD rfl rfl c1 (by decide) (opv_move rfl rfl) ?_
   obtain ⟨x3, hx3, hy1⟩ := Option.bind_eq_some_iff.1 hy1
   refine RL.yes _ rfl rfl c1 (by decide) (opv_call (cap := []) (impl_IsFinite_ok _ _ _ g3 _ hx3) rfl rfl ⟨rfl, trivial⟩ Try.func75 rfl rfl) ?_
   rintro _ _ ⟨rfl, rfl⟩
   refine RL.yesD rfl rfl c1 (by decide) (opv_not rfl rfl) ?_
   refine RL.opD (by decide) (opv_pick rfl rfl (fun e => absurd (Eq.trans (Eq.symm e) c1) (by decide)) (fun _ => rfl) rfl) ?_
   refine RL.nil ?_
   have ey1 := Option.some.inj hy1
   subst ey1
   refine onlyN ?_
   exact ⟨⟨rfl, rfl, rfl, rfl, rfl, rfl, rfl, rfl, trivial⟩, X_3, (Sep.sel S_3 [0, 1] (by decide))⟩
 rintro φ' hp4 ⟨hs1, X_4, S_4⟩
 refine thnN ?_
 refine W.sub hs1 ?_
 by_cases c2 : x1 = true
 ·rw [if_pos c2] at hp
  refine W.condT rfl c2 ?_
  refine W.seq ?_
  refine W.region ?_
  refine RL.opD (by decide) (opv_build (cs := [(.slice none 0 0), (.slice none 0 0), (.slice none 0 0)]) [] [] rfl Try.bd37 trivial rfl) ?_
  refine RL.op0 _ (opS_stored (cs := [(.slice none 0 0), (.slice none 0 0), (.slice none 0 0)]) (cs' := [(.slice none 0 0), (.slice none 0 0), (.slice none 0 0)]) (opv_storeA (us := [(.slice none 0 0), (.slice none 0 0), (.slice none 0 0)]) rfl Try.size37 rfl rfl (oneAll rfl (oneAll rfl (oneAll rfl rfl))) (Sep.at (o := boxO bb2 [(.slice none 0 0), (.slice none 0 0), (.slice none 0 0)]) S_4 0 rfl) rfl rfl) (Sep.at (o := boxO bb2 [(.slice none 0 0), (.slice none 0 0), (.slice none 0 0)]) S_4 0 rfl)) ?_
  rintro _ hp5 ⟨rfl, MT_4, T_4⟩
  have S_5 : Sep [] h0.size hp4 ([boxO bb2 [(.slice none 0 0), (.slice none 0 0), (.slice none 0 0)]] ++ [boxO bb1 [(.int .i64 a0_0), (.int .i64 a0_1), (.bool a0_2), u0_3, u0_4]]) := Sep.sel S_4 [0, 1] (by decide)
  obtain ⟨X_5, S_6⟩ := Sep.turn X_4 S_5 MT_4 T_4
  refine RL.opD (by decide) (opv_assign rfl rfl) ?_
  refine RL.nil ?_
  refine thnN ?_
  refine W.ret ?_
  refine thnR ?_
  have S_7 : Sep [] h0.size hp5 [ownO (kF .f32) 29 (.slice none 0 0) ([] : List (Option Nat)), boxO bb2 [(.slice none 0 0), (.slice none 0 0), (.slice none 0 0)], boxO bb1 [(.int .i64 a0_0), (.int .i64 a0_1), (.bool a0_2), u0_3, u0_4]] := Sep.addNil S_6
  have S_8 : Sep [] h0.size hp5 [ownO (kF .f32) 29 (.slice none 0 0) ([] : List (Option Nat)), ownO (kF .f32) 29 (.slice none 0 0) ([] : List (Option Nat)), boxO bb2 [(.slice none 0 0), (.slice none 0 0), (.slice none 0 0)], boxO bb1 [(.int .i64 a0_0), (.int .i64 a0_1), (.bool a0_2), u0_3, u0_4]] := Sep.addNil S_7
  have S_9 : Sep [] h0.size hp5 [ownO (kF .f32) 29 (.slice none 0 0) ([] : List (Option Nat)), ownO (kF .f32) 29 (.slice none 0 0) ([] : List (Option Nat)), ownO (kF .f32) 29 (.slice none 0 0) ([] : List (Option Nat)), boxO bb2 [(.slice none 0 0), (.slice none 0 0), (.slice none 0 0)], boxO bb1 [(.int .i64 a0_0), (.int .i64 a0_1), (.bool a0_2), u0_3, u0_4]] := Sep.addNil S_8
  have er := Option.some.inj hp
  subst er
  exact Rt.cellA rfl rfl rfl Try.agg37 Try.size37 (Sep.at (o := boxO bb2 [(.slice none 0 0), (.slice none 0 0), (.slice none 0 0)]) S_9 3 rfl) rfl ⟨(.slice none 0 0), (.slice none 0 0), (.slice none 0 0), rfl, X_5, (Sep.sel S_9 [2, 1, 0] (by decide))⟩
 ·rw [if_neg c2] at hp
  have c2 := eq_false_of_ne_true c2
  refine W.condF rfl c2 ?_
  refine W.skip ?_
  refine thnN ?_
  refine W.seq ?_
  refine W.region ?_
  refine RL.opD (by decide) (opv_loadA (us := [(.int .i64 a0_0), (.int .i64 a0_1), (.bool a0_2), u0_3, u0_4]) rfl Try.agg33 Try.size33 rfl (Sep.at (o := boxO bb1 [(.int .i64 a0_0), (.int .i64 a0_1), (.bool a0_2), u0_3, u0_4]) S_4 1 rfl) rfl rfl) ?_
  refine RL.opD (by decide) (opv_move rfl rfl) ?_
  refine RL.opD (by decide) (opv_move rfl rfl) ?_
  refine RL.opD (by decide) (opv_move rfl rfl) ?_
  obtain ⟨x4, hx4, hp⟩ := Option.bind_eq_some_iff.1 hp
  refine RL.op _ (by decide) (opv_call (cap := []) (impl_modeField_ok _ _ _ _ _ _ (SL.up (SL.mod g0_3 X_4 (Nat.le_refl _) nob) (Nat.le_trans (Nat.le_refl _) (Mod.size X_4))) _ _ (SL.up (SL.mod g0_4 X_4 (Nat.le_refl _) nob) (Nat.le_trans (Nat.le_refl _) (Mod.size X_4))) _ _ _ _ g3 _ hx4) rfl rfl ⟨rfl, rfl, rfl, rfl, trivial⟩ Try.func76 rfl rfl) ?_
  rintro _ hp6 ⟨v1, v2, v3, rfl, MT_5, T_5⟩
  obtain ⟨X_6, S_10⟩ := Sep.turn0 X_4 S_4 MT_5 T_5
  refine RL.op0 _ (opS_stored (cs := [(.slice none 0 0), (.slice none 0 0), (.slice none 0 0)]) (cs' := [v1, v2, v3]) (opv_storeA (us := [v1, v2, v3]) rfl Try.size37 rfl rfl (oneAll (ownO.one (Sep.at (o := ownO (kF .f32) 29 v1 x4.1) S_10 0 rfl)) (oneAll (ownO.one (Sep.at (o := ownO (kF .f32) 29 v2 x4.2.1) S_10 1 rfl)) (oneAll (ownO.one (Sep.at (o := ownO (kF .f32) 29 v3 x4.2.2) S_10 2 rfl)) rfl))) (Sep.at (o := boxO bb2 [(.slice none 0 0), (.slice none 0 0), (.slice none 0 0)]) S_10 3 rfl) rfl rfl) (Sep.at (o := boxO bb2 [(.slice none 0 0), (.slice none 0 0), (.slice none 0 0)]) S_10 3 rfl)) ?_
  rintro _ hp7 ⟨rfl, MT_6, T_6⟩
  have S_11 : Sep [] h0.size hp6 ([boxO bb2 [(.slice none 0 0), (.slice none 0 0), (.slice none 0 0)]] ++ [ownO (kF .f32) 29 v1 x4.1, ownO (kF .f32) 29 v2 x4.2.1, ownO (kF .f32) 29 v3 x4.2.2, boxO bb1 [(.int .i64 a0_0), (.int .i64 a0_1), (.bool a0_2), u0_3, u0_4]]) := Sep.sel S_10 [3, 0, 1, 2, 4] (by decide)
  obtain ⟨X_7, S_12⟩ := Sep.turn X_6 S_11 MT_6 T_6
  refine RL.opD (by decide) (opv_assign rfl rfl) ?_
  refine RL.nil ?_
  refine thnN ?_
  refine W.ret ?_
  have er := Option.some.inj hp
  subst er
  exact Rt.cellA rfl rfl rfl Try.agg37 Try.size37 (Sep.at (o := boxO bb2 [v1, v2, v3]) S_12 0 rfl) rfl ⟨v1, v2, v3, rfl, X_7, (Sep.sel S_12 [1, 2, 3] (by decide))⟩

set_option maxRecDepth 20000 in
theorem impl_square_ok (h0 : Heap) (u0 : Value) (a0 : Option Nat) (g0 : IsF .f32 u0 a0) (r : Option Nat) (hp : impl_square a0 = some r) : CallsH Try.prog 138 ([u0].toArray ++ [].toArray) h0 (fun v h' => IsF .f64 v r ∧ h0 = h') := by
 unfold impl_square at hp
 refine callsH_of_W (l := [u0]) (cap := []) 8 Try.func138 rfl rfl rfl ?_
 refine W.seq ?_
 refine W.region ?_
 refine RL.opD (by decide) (opv_assign rfl rfl) ?_
 refine RL.nil ?_
 refine thnN ?_
 refine W.seq ?_
 refine W.region ?_
 refine RL.opD (by decide) (opv_move rfl rfl) ?_
 refine RL.opF (by decide) (opv_widen rfl (by rw [Try.underlying29]; rfl) Try.underlying43 rfl g0) ?_
 intro v1 fv1
 refine RL.opD (by decide) (opv_move rfl rfl) ?_
 refine RL.opF (by decide) (opv_widen rfl (by rw [Try.underlying29]; rfl) Try.underlying43 rfl g0) ?_
 intro v2 fv2
 refine RL.opF (by decide) (opv_fop rfl rfl rfl rfl fv1 fv2) ?_
 intro v3 fv3
 refine RL.opD (by decide) (opv_assign rfl rfl) ?_
 refine RL.nil ?_
 refine thnN ?_
 refine W.ret ?_
 have er := Option.some.inj hp
 subst er
 exact Rt.one rfl rfl ⟨fv3, rfl⟩

set_option maxRecDepth 20000 in
theorem impl_shareOf_ok (h0 : Heap) (a0_0 : Int) (a0_1 : Int) (a0_2 : Bool) (u0_3 : Value) (a0_3 : List (Option Nat)) (g0_3 : SL (kF .f32) h0.size h0 u0_3 a0_3) (u0_4 : Value) (a0_4 : List (Option Nat)) (g0_4 : SL (kF .f32) h0.size h0 u0_4 a0_4) (u1_0 : Value) (a1_0 : List (Option Nat)) (g1_0 : SL (kF .f32) h0.size h0 u1_0 a1_0) (u1_1 : Value) (a1_1 : List (Option Nat)) (g1_1 : SL (kF .f32) h0.size h0 u1_1 a1_1) (u1_2 : Value) (a1_2 : List (Option Nat)) (g1_2 : SL (kF .f32) h0.size h0 u1_2 a1_2) (a2 : Int) (a3 : Int) (r : ((Option Nat) × Bool)) (hp : impl_shareOf a0_0 a0_1 a0_2 a0_3 a0_4 a1_0 a1_1 a1_2 a2 a3 = some r) : CallsH Try.prog 77 ([(.agg (List.toArray (α := Value) [(.int .i64 a0_0), (.int .i64 a0_1), (.bool a0_2), u0_3, u0_4])), (.agg (List.toArray (α := Value) [u1_0, u1_1, u1_2])), (.int .i64 a2), (.int .i64 a3)].toArray ++ [].toArray) h0 (fun v h' => ∃ w0, v = (.tuple (List.toArray (α := Value) [w0, (.bool r.2)])) ∧ IsF .f32 w0 r.1 ∧ Mod [] h0 h' ∧ Sep [] h0.size h' []) := by
 unfold impl_shareOf at hp
 refine callsH_of_W (l := [(.agg (List.toArray (α := Value) [(.int .i64 a0_0), (.int .i64 a0_1), (.bool a0_2), u0_3, u0_4])), (.agg (List.toArray (α := Value) [u1_0, u1_1, u1_2])), (.int .i64 a2), (.int .i64 a3)]) (cap := []) 47 Try.func77 rfl rfl rfl ?_
 refine W.seq ?_
 refine W.region ?_
 refine RL.op _ (by decide) (opS_boxed (opv_boxA (cs := [(.int .i64 a0_0), (.int .i64 a0_1), (.bool a0_2), u0_3, u0_4]) rfl rfl)) ?_
 rintro _ hp1 ⟨bb1, rfl, MT_1, T_1⟩
 obtain ⟨X_1, S_1⟩ := Sep.turn0 (Mod.refl [] h0) (Sep.nil [] h0.size h0) MT_1 T_1
 refine RL.op _ (by decide) (opS_boxed (opv_boxA (cs := [u1_0, u1_1, u1_2]) rfl rfl)) ?_
 rintro _ hp2 ⟨bb2, rfl, MT_2, T_2⟩
 obtain ⟨X_2, S_2⟩ := Sep.turn0 X_1 S_1 MT_2 T_2
 refine RL.opD (by decide) (opv_assign rfl rfl) ?_
 refine RL.opD (by decide) (opv_assign rfl rfl) ?_
 refine RL.nil ?_
 refine thnN ?_
 refine W.seq ?_
 refine W.region ?_
 refine RL.opD (by decide) (opv_assign rfl rfl) ?_
 refine RL.opD (by decide) (opv_assign rfl rfl) ?_
 refine RL.nil ?_
 refine thnN ?_
 refine W.seq ?_
 refine W.seq ?_
 refine W.region ?_
 refine RL.opD (by decide) (opv_loadA (us := [(.int .i64 a0_0), (.int .i64 a0_1), (.bool a0_2), u0_3, u0_4]) rfl Try.agg33 Try.size33 rfl (Sep.at (o := boxO bb1 [(.int .i64 a0_0), (.int .i64 a0_1), (.bool a0_2), u0_3, u0_4]) S_2 1 rfl) rfl rfl) ?_
 refine RL.opD (by decide) (opv_move rfl rfl) ?_
 refine RL.opD (by decide) (opv_move rfl rfl) ?_
 obtain ⟨x1, hx1, hp⟩ := Option.bind_eq_some_iff.1 hp
 refine RL.op _ (by decide) (opv_call (cap := []) (impl_modeField_ok _ _ _ _ _ _ (SL.up (SL.mod g0_3 X_2 (Nat.le_refl _) nob) (Nat.le_trans (Nat.le_refl _) (Mod.size X_2))) _ _ (SL.up (SL.mod g0_4 X_2 (Nat.le_refl _) nob) (Nat.le_trans (Nat.le_refl _) (Mod.size X_2))) _ _ _ _ (isF_lit .f32 1065353216 (by decide) (by decide)) _ hx1) rfl rfl ⟨rfl, rfl, rfl, rfl, trivial⟩ Try.func76 rfl rfl) ?_
 rintro _ hp3 ⟨v1, v2, v3, rfl, MT_3, T_3⟩
 obtain ⟨X_3, S_3⟩ := Sep.turn0 X_2 S_2 MT_3 T_3
 refine RL.opD (by decide) (opv_field rfl Try.fi37_0 Try.one25 rfl rfl) ?_
 refine RL.opD (by decide) (opv_len rfl Try.underlying25 rfl (ownO.read (Sep.at (o := ownO (kF .f32) 29 v1 x1.1) S_3 0 rfl))) ?_
 refine RL.opD (by decide) (opv_move rfl rfl) ?_
 refine RL.nil ?_
 refine thnN ?_
 obtain ⟨y1, hy1, hp⟩ := Option.bind_eq_some_iff.1 hp
 refine W.cut (fun φ' h' => ∃ x5, ∃ x6, ∃ x7, ∃ x8, ∃ v6, ∃ v7, y1 = (x5, x6, x7, x8) ∧ Fr.sub [(0, (.agg (List.toArray (α := Value) [(.int .i64 a0_0), (.int .i64 a0_1), (.bool a0_2), u0_3, u0_4]))), (1, (.agg (List.toArray (α := Value) [u1_0, u1_1, u1_2]))), (2, (.int .i64 a2)), (3, (.int .i64 a3)), (4, (.pointer (some ⟨bb1, 0, none⟩))), (5, (.pointer (some ⟨bb2, 0, none⟩))), (8, (.float .f32 0)), (9, (.bool false)), (18, v1), (19, (.int .i64 (x1.1.length : Int))), (10, v6), (11, v7), (20, (.int .i64 x7)), (21, (.bool x8))] φ' ∧ IsF .f64 v6 x5 ∧ IsF .f64 v7 x6 ∧ hp3 = h') ?_ ?_
 ·refine W.block ?_
  refine W.loopS (fun (s : ((Option Nat) × (Option Nat) × Int)) φ' h' => ∃ v4, ∃ v5, Fr.sub [(0, (.agg (List.toArray (α := Value) [(.int .i64 a0_0), (.int .i64 a0_1), (.bool a0_2), u0_3, u0_4]))), (1, (.agg (List.toArray (α := Value) [u1_0, u1_1, u1_2]))), (2, (.int .i64 a2)), (3, (.int .i64 a3)), (4, (.pointer (some ⟨bb1, 0, none⟩))), (5, (.pointer (some ⟨bb2, 0, none⟩))), (8, (.float .f32 0)), (9, (.bool false)), (18, v1), (19, (.int .i64 (x1.1.length : Int))), (10, v4), (11, v5), (20, (.int .i64 s.2.2))] φ' ∧ IsF .f64 v4 s.1 ∧ IsF .f64 v5 s.2.1 ∧ hp3 = h') hy1 ⟨(.float .f64 0), (.float .f64 0), ⟨rfl, rfl, rfl, rfl, rfl, rfl, rfl, rfl, rfl, rfl, rfl, rfl, rfl, trivial⟩, (isF_lit .f64 0 (by decide) (by decide)), (isF_lit .f64 0 (by decide) (by decide)), rfl⟩ ?_
  rintro ⟨x2, x3, x4⟩ φ' _ o1 ⟨v4, v5, hs1, fv4, fv5, rfl⟩ ho1 hy1
  have hs1 : Fr.sub [(0, (.agg (List.toArray (α := Value) [(.int .i64 a0_0), (.int .i64 a0_1), (.bool a0_2), u0_3, u0_4]))), (1, (.agg (List.toArray (α := Value) [u1_0, u1_1, u1_2]))), (2, (.int .i64 a2)), (3, (.int .i64 a3)), (4, (.pointer (some ⟨bb1, 0, none⟩))), (5, (.pointer (some ⟨bb2, 0, none⟩))), (8, (.float .f32 0)), (9, (.bool false)), (18, v1), (19, (.int .i64 (x1.1.length : Int))), (10, v4), (11, v5), (20, (.int .i64 x4))] φ' := hs1
  have fv4 : IsF .f64 v4 x2 := fv4
  have fv5 : IsF .f64 v5 x3 := fv5
  have ho1 : impl_shareOf.s0 a1_0 x1 x2 x3 x4 = some o1 := ho1
  unfold impl_shareOf.s0 at ho1
  refine W.sub hs1 ?_
  refine W.seq ?_
  refine W.region ?_
  refine RL.opD (by decide) (opv_icmp rfl rfl rfl rfl) ?_
  refine RL.nil ?_
  refine thnN ?_
  refine W.seq ?_
  by_cases c1 : (decide (x4 < (x1.1.length : Int))) = true
  ·rw [if_pos c1] at ho1
   refine W.condT rfl c1 ?_
   refine W.skip ?_
   refine thnN ?_
   refine W.seq ?_
   refine W.block ?_
   refine W.seq ?_
   refine W.region ?_
   refine RL.opD (by decide) (opv_move rfl rfl) ?_
   obtain ⟨x9, hx9, ho1⟩ := Option.bind_eq_some_iff.1 ho1
   refine RL.op _ (by decide) (opv_index rfl Try.underlying25 (by rw [Try.size29]; rfl) rfl rfl (ownO.read (Sep.at (o := ownO (kF .f32) 29 v1 x1.1) S_3 0 rfl)) hx9) ?_
   rintro v8 _ ⟨fv8, rfl⟩
   refine RL.opF (by decide) (opv_loadF rfl Try.one29 rfl fv8 (ownO.read (Sep.at (o := ownO (kF .f32) 29 v1 x1.1) S_3 0 rfl)) hx9) ?_
   intro v9 fv9
   refine RL.opD (by decide) (opv_assign rfl rfl) ?_
   refine RL.opD (by decide) (opv_assign rfl rfl) ?_
   refine RL.nil ?_
   refine thnN ?_
   refine W.seq ?_
   refine W.region ?_
   refine RL.opD (by decide) (opv_move rfl rfl) ?_
   refine RL.opD (by decide) (opv_fieldAddr rfl Try.fo37_0 rfl) ?_
   refine RL.opD (by decide) (opv_loadB rfl Try.one25 rfl (Sep.at (o := boxO bb2 [u1_0, u1_1, u1_2]) S_3 3 rfl) rfl) ?_
   refine RL.opD (by decide) (opv_move rfl rfl) ?_
   obtain ⟨x10, hx10, ho1⟩ := Option.bind_eq_some_iff.1 ho1
   refine RL.op _ (by decide) (opv_index rfl Try.underlying25 (by rw [Try.size29]; rfl) rfl rfl (SL.mod g1_0 X_3 (Nat.le_refl _) nob) hx10) ?_
   rintro v10 _ ⟨fv10, rfl⟩
   refine RL.opF (by decide) (opv_loadF rfl Try.one29 rfl fv10 (SL.mod g1_0 X_3 (Nat.le_refl _) nob) hx10) ?_
   intro v11 fv11
   refine RL.opF (by decide) (opv_widen rfl (by rw [Try.underlying29]; rfl) Try.underlying43 rfl fv11) ?_
   intro v12 fv12
   refine RL.opD (by decide) (opv_move rfl rfl) ?_
   refine RL.opF (by decide) (opv_widen rfl (by rw [Try.underlying29]; rfl) Try.underlying43 rfl fv9) ?_
   intro v13 fv13
   refine RL.opF (by decide) (opv_fop rfl rfl rfl rfl fv12 fv13) ?_
   intro v14 fv14
   refine RL.opF (by decide) (opv_fop rfl rfl rfl rfl fv4 fv14) ?_
   intro v15 fv15
   refine RL.opD (by decide) (opv_assign rfl rfl) ?_
   refine RL.nil ?_
   refine thnN ?_
   refine W.region ?_
   refine RL.opD (by decide) (opv_move rfl rfl) ?_
   refine RL.opD (by decide) (opv_move rfl rfl) ?_
   obtain ⟨x11, hx11, ho1⟩ := Option.bind_eq_some_iff.1 ho1
   refine RL.op _ (by decide) (opv_call (cap := []) (impl_square_ok _ _ _ fv9 _ hx11) rfl rfl ⟨rfl, trivial⟩ Try.func138 rfl rfl) ?_
   rintro v16 _ ⟨fv16, rfl⟩
   refine RL.opF (by decide) (opv_fop rfl rfl rfl rfl fv5 fv16) ?_
   intro v17 fv17
   refine RL.opD (by decide) (opv_assign rfl rfl) ?_
   refine RL.nil ?_
   refine blkN ?_
   refine thnN ?_
   refine W.region ?_
   refine RL.opD (by decide) (opv_add rfl rfl rfl) ?_
   refine RL.opD (by decide) (opv_move rfl rfl) ?_
   refine RL.nil ?_
   have eo1 := Option.some.inj ho1
   subst eo1
   refine rndN (s' := (fop .add .f64 x2 (fop .mul .f64 (wid x10) (wid x9)), fop .add .f64 x3 x11, IntKind.wrap .i64 (x4 + 1))) rfl ?_
   exact ⟨v15, v17, ⟨rfl, rfl, rfl, rfl, rfl, rfl, rfl, rfl, rfl, rfl, rfl, rfl, rfl, trivial⟩, fv15, fv17, rfl⟩
  ·rw [if_neg c1] at ho1
   have c1 := eq_false_of_ne_true c1
   refine W.condF rfl c1 ?_
   refine W.exit ?_
   refine thnX ?_
   refine rndX ?_
   refine blkI ?_
   have eo1 := Option.some.inj ho1
   subst eo1
   have ey1 := hy1 _ rfl
   subst ey1
   refine onlyN ?_
   exact ⟨x2, x3, x4, decide (x4 < (x1.1.length : Int)), v4, v5, rfl, ⟨rfl, rfl, rfl, rfl, rfl, rfl, rfl, rfl, rfl, rfl, rfl, rfl, rfl, rfl, trivial⟩, fv4, fv5, rfl⟩
 rintro φ' _ ⟨x5, x6, x7, x8, v6, v7, rfl, hs2, fv6, fv7, rfl⟩
 try dsimp only at hp
 refine thnN ?_
 refine W.sub hs2 ?_
 refine W.seq ?_
 refine W.seq ?_
 refine W.region ?_
 refine RL.opD (by decide) (opv_move rfl rfl) ?_
 refine RL.opD (by decide) (opv_fcmp rfl rfl rfl rfl fv7 (isF_lit .f64 0 (by decide) (by decide))) ?_
 refine RL.nil ?_
 refine thnN ?_
 by_cases c2 : (fcmp .eql .f64 x6 (some 0)) = true
 ·rw [if_pos c2] at hp
  refine W.condT rfl c2 ?_
  refine W.seq ?_
  refine W.region ?_
  refine RL.opD (by decide) (opv_assign rfl rfl) ?_
  refine RL.opD (by decide) (opv_assign rfl rfl) ?_
  refine RL.nil ?_
  refine thnN ?_
  refine W.ret ?_
  refine thnR ?_
  have er := Option.some.inj hp
  subst er
  exact Rt.two rfl rfl rfl ⟨(.float .f32 0), rfl, (isF_lit .f32 0 (by decide) (by decide)), X_3, (Sep.nil _ _ _)⟩
 ·rw [if_neg c2] at hp
  have c2 := eq_false_of_ne_true c2
  refine W.condF rfl c2 ?_
  refine W.skip ?_
  refine thnN ?_
  refine W.seq ?_
  refine W.region ?_
  refine RL.opD (by decide) (opv_move rfl rfl) ?_
  refine RL.opD (by decide) (opv_move rfl rfl) ?_
  refine RL.opF (by decide) (opv_fop rfl rfl rfl rfl fv6 fv7) ?_
  intro v18 fv18
  obtain ⟨x12, hx12, hp⟩ := Option.bind_eq_some_iff.1 hp
  refine RL.opF (by decide) (opv_f2f rfl (by rw [Try.underlying43]; rfl) Try.underlying29 (by decide) rfl fv18 hx12) ?_
  intro v19 fv19
  refine RL.opD (by decide) (opv_assign rfl rfl) ?_
  refine RL.opD (by decide) (opv_assign rfl rfl) ?_
  refine RL.nil ?_
  refine thnN ?_
  refine W.ret ?_
  have er := Option.some.inj hp
  subst er
  exact Rt.two rfl rfl rfl ⟨v19, rfl, fv19, X_3, (Sep.nil _ _ _)⟩

set_option maxRecDepth 20000 in
theorem impl_ShareOf_ok (h0 : Heap) (a0_0 : Int) (a0_1 : Int) (a0_2 : Bool) (u0_3 : Value) (a0_3 : List (Option Nat)) (g0_3 : SL (kF .f32) h0.size h0 u0_3 a0_3) (u0_4 : Value) (a0_4 : List (Option Nat)) (g0_4 : SL (kF .f32) h0.size h0 u0_4 a0_4) (u1_0 : Value) (a1_0 : List (Option Nat)) (g1_0 : SL (kF .f32) h0.size h0 u1_0 a1_0) (u1_1 : Value) (a1_1 : List (Option Nat)) (g1_1 : SL (kF .f32) h0.size h0 u1_1 a1_1) (u1_2 : Value) (a1_2 : List (Option Nat)) (g1_2 : SL (kF .f32) h0.size h0 u1_2 a1_2) (a2 : Int) (a3 : Int) (r : ((Option Nat) × Bool)) (hp : impl_ShareOf a0_0 a0_1 a0_2 a0_3 a0_4 a1_0 a1_1 a1_2 a2 a3 = some r) : CallsH Try.prog 18 ([(.agg (List.toArray (α := Value) [(.int .i64 a0_0), (.int .i64 a0_1), (.bool a0_2), u0_3, u0_4])), (.agg (List.toArray (α := Value) [u1_0, u1_1, u1_2])), (.int .i64 a2), (.int .i64 a3)].toArray ++ [].toArray) h0 (fun v h' => ∃ w0, v = (.tuple (List.toArray (α := Value) [w0, (.bool r.2)])) ∧ IsF .f32 w0 r.1 ∧ Mod [] h0 h' ∧ Sep [] h0.size h' []) := by
 unfold impl_ShareOf at hp
 refine callsH_of_W (l := [(.agg (List.toArray (α := Value) [(.int .i64 a0_0), (.int .i64 a0_1), (.bool a0_2), u0_3, u0_4])), (.agg (List.toArray (α := Value) [u1_0, u1_1, u1_2])), (.int .i64 a2), (.int .i64 a3)]) (cap := []) 28 Try.func18 rfl rfl rfl ?_
 refine W.seq ?_
 refine W.region ?_
 refine RL.op _ (by decide) (opS_boxed (opv_boxA (cs := [(.int .i64 a0_0), (.int .i64 a0_1), (.bool a0_2), u0_3, u0_4]) rfl rfl)) ?_
 rintro _ hp1 ⟨bb1, rfl, MT_1, T_1⟩
 obtain ⟨X_1, S_1⟩ := Sep.turn0 (Mod.refl [] h0) (Sep.nil [] h0.size h0) MT_1 T_1
 refine RL.op _ (by decide) (opS_boxed (opv_boxA (cs := [u1_0, u1_1, u1_2]) rfl rfl)) ?_
 rintro _ hp2 ⟨bb2, rfl, MT_2, T_2⟩
 obtain ⟨X_2, S_2⟩ := Sep.turn0 X_1 S_1 MT_2 T_2
 refine RL.opD (by decide) (opv_assign rfl rfl) ?_
 refine RL.opD (by decide) (opv_assign rfl rfl) ?_
 refine RL.nil ?_
 refine thnN ?_
 refine W.seq ?_
 refine W.seq ?_
 obtain ⟨x1, hy1, hp⟩ := Option.bind_eq_some_iff.1 hp
 refine W.cut (fun φ' h' => Fr.sub [(0, (.agg (List.toArray (α := Value) [(.int .i64 a0_0), (.int .i64 a0_1), (.bool a0_2), u0_3, u0_4]))), (1, (.agg (List.toArray (α := Value) [u1_0, u1_1, u1_2]))), (2, (.int .i64 a2)), (3, (.int .i64 a3)), (4, (.pointer (some ⟨bb1, 0, none⟩))), (5, (.pointer (some ⟨bb2, 0, none⟩))), (8, (.float .f32 0)), (9, (.bool false)), (20, (.bool x1))] φ' ∧ Mod [] h0 h' ∧ Sep [] h0.size h' [boxO bb2 [u1_0, u1_1, u1_2], boxO bb1 [(.int .i64 a0_0), (.int .i64 a0_1), (.bool a0_2), u0_3, u0_4]]) ?_ ?_
 ·refine W.region ?_
  refine RL.opD (by decide) (opv_loadA (us := [(.int .i64 a0_0), (.int .i64 a0_1), (.bool a0_2), u0_3, u0_4]) rfl Try.agg33 Try.size33 rfl (Sep.at (o := boxO bb1 [(.int .i64 a0_0), (.int .i64 a0_1), (.bool a0_2), u0_3, u0_4]) S_2 1 rfl) rfl rfl) ?_
  refine RL.opD (by decide) (opv_move rfl rfl) ?_
  refine RL.opD (by decide) (opv_move rfl rfl) ?_
  obtain ⟨x2, hx2, hy1⟩ := Option.bind_eq_some_iff.1 hy1
  refine RL.op _ (by decide) (opv_call (cap := []) (impl_isMode_ok _ _ _ _ _ _ (SL.up (SL.mod g0_3 X_2 (Nat.le_refl _) nob) (Nat.le_trans (Nat.le_refl _) (Mod.size X_2))) _ _ (SL.up (SL.mod g0_4 X_2 (Nat.le_refl _) nob) (Nat.le_trans (Nat.le_refl _) (Mod.size X_2))) _ _ _ hx2) rfl rfl ⟨rfl, rfl, rfl, trivial⟩ Try.func74 rfl rfl) ?_
  rintro _ hp3 ⟨rfl, MT_3, T_3⟩
  obtain ⟨X_3, S_3⟩ := Sep.turn0 X_2 S_2 MT_3 T_3
  refine RL.opD (by decide) (opv_not rfl rfl) ?_
  refine RL.opD (by decide) (opv_move rfl rfl) ?_
  by_cases c1 : (!x2) = true
  ·rw [if_pos c1] at hy1
   refine RL.noT rfl rfl c1 (by decide) ?_
   refine RL.noT rfl rfl c1 (by decide) ?_
   refine RL.noT rfl rfl c1 (by decide) ?_
   refine RL.noT rfl rfl c1 (by decide) ?_
   refine RL.opD (by decide) (opv_pick rfl rfl (fun _ => rfl) (fun e => absurd (Eq.trans (Eq.symm e) c1) (by decide)) rfl) ?_
   refine RL.nil ?_
   have ey1 := Option.some.inj hy1
   subst ey1
   refine onlyN ?_
   exact ⟨⟨rfl, rfl, rfl, rfl, rfl, rfl, rfl, rfl, rfl, trivial⟩, X_3, (Sep.sel S_3 [0, 1] (by decide))⟩
  ·rw [if_neg c1] at hy1
   have c1 := eq_false_of_ne_true c1
   refine RL.yesD rfl rfl c1 (by decide) (opv_loadA (us := [(.int .i64 a0_0), (.int .i64 a0_1), (.bool a0_2), u0_3, u0_4]) rfl Try.agg33 Try.size33 rfl (Sep.at (o := boxO bb1 [(.int .i64 a0_0), (.int .i64 a0_1), (.bool a0_2), u0_3, u0_4]) S_3 1 rfl) rfl rfl) ?_
   refine RL.yesD rfl rfl c1 (by decide) (opv_loadA (us := [u1_0, u1_1, u1_2]) rfl Try.agg37 Try.size37 rfl (Sep.at (o := boxO bb2 [u1_0, u1_1, u1_2]) S_3 0 rfl) rfl rfl) ?_
   obtain ⟨x3, hx3, hy1⟩ := Option.bind_eq_some_iff.1 hy1
   refine RL.yes _ rfl rfl c1 (by decide) (opv_call (cap := []) (impl_IsField_ok _ _ _ _ _ _ (SL.up (SL.mod g0_3 X_3 (Nat.le_refl _) nob) (Nat.le_trans (Nat.le_refl _) (Mod.size X_3))) _ _ (SL.up (SL.mod g0_4 X_3 (Nat.le_refl _) nob) (Nat.le_trans (Nat.le_refl _) (Mod.size X_3))) _ _ (SL.up (SL.mod g1_0 X_3 (Nat.le_refl _) nob) (Nat.le_trans (Nat.le_refl _) (Mod.size X_3))) _ _ (SL.up (SL.mod g1_1 X_3 (Nat.le_refl _) nob) (Nat.le_trans (Nat.le_refl _) (Mod.size X_3))) _ _ (SL.up (SL.mod g1_2 X_3 (Nat.le_refl _) nob) (Nat.le_trans (Nat.le_refl _) (Mod.size X_3))) _ hx3) rfl rfl ⟨rfl, rfl, trivial⟩ Try.func46 rfl rfl) ?_
   rintro _ hp4 ⟨rfl, MT_4, T_4⟩
   obtain ⟨X_4, S_4⟩ := Sep.turn0 X_3 S_3 MT_4 T_4
   refine RL.yesD rfl rfl c1 (by decide) (opv_not rfl rfl) ?_
   refine RL.opD (by decide) (opv_pick rfl rfl (fun e => absurd (Eq.trans (Eq.symm e) c1) (by decide)) (fun _ => rfl) rfl) ?_
   refine RL.nil ?_
   have ey1 := Option.some.inj hy1
   subst ey1
   refine onlyN ?_
   exact ⟨⟨rfl, rfl, rfl, rfl, rfl, rfl, rfl, rfl, rfl, trivial⟩, X_4, (Sep.sel S_4 [0, 1] (by decide))⟩
 rintro φ' hp5 ⟨hs1, X_5, S_5⟩
 refine thnN ?_
 refine W.sub hs1 ?_
 by_cases c2 : x1 = true
 ·rw [if_pos c2] at hp
  refine W.condT rfl c2 ?_
  refine W.seq ?_
  refine W.region ?_
  refine RL.opD (by decide) (opv_assign rfl rfl) ?_
  refine RL.opD (by decide) (opv_assign rfl rfl) ?_
  refine RL.nil ?_
  refine thnN ?_
  refine W.ret ?_
  refine thnR ?_
  have er := Option.some.inj hp
  subst er
  exact Rt.two rfl rfl rfl ⟨(.float .f32 0), rfl, (isF_lit .f32 0 (by decide) (by decide)), X_5, (Sep.nil _ _ _)⟩
 ·rw [if_neg c2] at hp
  have c2 := eq_false_of_ne_true c2
  refine W.condF rfl c2 ?_
  refine W.skip ?_
  refine thnN ?_
  refine W.seq ?_
  refine W.region ?_
  refine RL.opD (by decide) (opv_loadA (us := [(.int .i64 a0_0), (.int .i64 a0_1), (.bool a0_2), u0_3, u0_4]) rfl Try.agg33 Try.size33 rfl (Sep.at (o := boxO bb1 [(.int .i64 a0_0), (.int .i64 a0_1), (.bool a0_2), u0_3, u0_4]) S_5 1 rfl) rfl rfl) ?_
  refine RL.opD (by decide) (opv_loadA (us := [u1_0, u1_1, u1_2]) rfl Try.agg37 Try.size37 rfl (Sep.at (o := boxO bb2 [u1_0, u1_1, u1_2]) S_5 0 rfl) rfl rfl) ?_
  refine RL.opD (by decide) (opv_move rfl rfl) ?_
  refine RL.opD (by decide) (opv_move rfl rfl) ?_
  obtain ⟨x4, hx4, hp⟩ := Option.bind_eq_some_iff.1 hp
  refine RL.op _ (by decide) (opv_call (cap := []) (impl_shareOf_ok _ _ _ _ _ _ (SL.up (SL.mod g0_3 X_5 (Nat.le_refl _) nob) (Nat.le_trans (Nat.le_refl _) (Mod.size X_5))) _ _ (SL.up (SL.mod g0_4 X_5 (Nat.le_refl _) nob) (Nat.le_trans (Nat.le_refl _) (Mod.size X_5))) _ _ (SL.up (SL.mod g1_0 X_5 (Nat.le_refl _) nob) (Nat.le_trans (Nat.le_refl _) (Mod.size X_5))) _ _ (SL.up (SL.mod g1_1 X_5 (Nat.le_refl _) nob) (Nat.le_trans (Nat.le_refl _) (Mod.size X_5))) _ _ (SL.up (SL.mod g1_2 X_5 (Nat.le_refl _) nob) (Nat.le_trans (Nat.le_refl _) (Mod.size X_5))) _ _ _ hx4) rfl rfl ⟨rfl, rfl, rfl, rfl, trivial⟩ Try.func77 rfl rfl) ?_
  rintro _ hp6 ⟨v1, rfl, fv1, MT_5, T_5⟩
  obtain ⟨X_6, S_6⟩ := Sep.turn0 X_5 S_5 MT_5 T_5
  refine RL.opD (by decide) (opv_extract rfl rfl rfl) ?_
  refine RL.opD (by decide) (opv_extract rfl rfl rfl) ?_
  refine RL.opD (by decide) (opv_assign rfl rfl) ?_
  refine RL.opD (by decide) (opv_assign rfl rfl) ?_
  refine RL.nil ?_
  refine thnN ?_
  refine W.ret ?_
  have er := Option.some.inj hp
  subst er
  exact Rt.two rfl rfl rfl ⟨v1, rfl, fv1, X_6, (Sep.nil _ _ _)⟩

set_option maxRecDepth 20000 in
theorem impl_WithoutMode_ok (h0 : Heap) (a0_0 : Int) (a0_1 : Int) (a0_2 : Bool) (u0_3 : Value) (a0_3 : List (Option Nat)) (g0_3 : SL (kF .f32) h0.size h0 u0_3 a0_3) (u0_4 : Value) (a0_4 : List (Option Nat)) (g0_4 : SL (kF .f32) h0.size h0 u0_4 a0_4) (u1_0 : Value) (a1_0 : List (Option Nat)) (g1_0 : SL (kF .f32) h0.size h0 u1_0 a1_0) (u1_1 : Value) (a1_1 : List (Option Nat)) (g1_1 : SL (kF .f32) h0.size h0 u1_1 a1_1) (u1_2 : Value) (a1_2 : List (Option Nat)) (g1_2 : SL (kF .f32) h0.size h0 u1_2 a1_2) (a2 : Int) (a3 : Int) (r : ((List (Option Nat)) × (List (Option Nat)) × (List (Option Nat)) × Bool)) (hp : impl_WithoutMode a0_0 a0_1 a0_2 a0_3 a0_4 a1_0 a1_1 a1_2 a2 a3 = some r) : CallsH Try.prog 19 ([(.agg (List.toArray (α := Value) [(.int .i64 a0_0), (.int .i64 a0_1), (.bool a0_2), u0_3, u0_4])), (.agg (List.toArray (α := Value) [u1_0, u1_1, u1_2])), (.int .i64 a2), (.int .i64 a3)].toArray ++ [].toArray) h0 (fun v h' => ∃ w0, ∃ w1, ∃ w2, v = (.tuple (List.toArray (α := Value) [(.agg (List.toArray (α := Value) [w0, w1, w2])), (.bool r.2.2.2)])) ∧ Mod [] h0 h' ∧ Sep [] h0.size h' [ownO (kF .f32) 29 w0 r.1, ownO (kF .f32) 29 w1 r.2.1, ownO (kF .f32) 29 w2 r.2.2.1]) := by
 unfold impl_WithoutMode at hp
 refine callsH_of_W (l := [(.agg (List.toArray (α := Value) [(.int .i64 a0_0), (.int .i64 a0_1), (.bool a0_2), u0_3, u0_4])), (.agg (List.toArray (α := Value) [u1_0, u1_1, u1_2])), (.int .i64 a2), (.int .i64 a3)]) (cap := []) 58 Try.func19 rfl rfl rfl ?_
 refine W.seq ?_
 refine W.region ?_
 refine RL.op _ (by decide) (opS_boxed (opv_boxA (cs := [(.int .i64 a0_0), (.int .i64 a0_1), (.bool a0_2), u0_3, u0_4]) rfl rfl)) ?_
 rintro _ hp1 ⟨bb1, rfl, MT_1, T_1⟩
 obtain ⟨X_1, S_1⟩ := Sep.turn0 (Mod.refl [] h0) (Sep.nil [] h0.size h0) MT_1 T_1
 refine RL.op _ (by decide) (opS_boxed (opv_boxA (cs := [u1_0, u1_1, u1_2]) rfl rfl)) ?_
 rintro _ hp2 ⟨bb2, rfl, MT_2, T_2⟩
 obtain ⟨X_2, S_2⟩ := Sep.turn0 X_1 S_1 MT_2 T_2
 refine RL.op _ (by decide) (opS_boxed (opv_alloc (cs := [(.slice none 0 0), (.slice none 0 0), (.slice none 0 0)]) rfl Try.zero37 rfl)) ?_
 rintro _ hp3 ⟨bb3, rfl, MT_3, T_3⟩
 obtain ⟨X_3, S_3⟩ := Sep.turn0 X_2 S_2 MT_3 T_3
 refine RL.opD (by decide) (opv_assign rfl rfl) ?_
 refine RL.nil ?_
 refine thnN ?_
 refine W.seq ?_
 refine W.region ?_
 refine RL.opD (by decide) (opv_loadA (us := [(.int .i64 a0_0), (.int .i64 a0_1), (.bool a0_2), u0_3, u0_4]) rfl Try.agg33 Try.size33 rfl (Sep.at (o := boxO bb1 [(.int .i64 a0_0), (.int .i64 a0_1), (.bool a0_2), u0_3, u0_4]) S_3 2 rfl) rfl rfl) ?_
 refine RL.opD (by decide) (opv_loadA (us := [u1_0, u1_1, u1_2]) rfl Try.agg37 Try.size37 rfl (Sep.at (o := boxO bb2 [u1_0, u1_1, u1_2]) S_3 1 rfl) rfl rfl) ?_
 refine RL.opD (by decide) (opv_move rfl rfl) ?_
 refine RL.opD (by decide) (opv_move rfl rfl) ?_
 obtain ⟨x1, hx1, hp⟩ := Option.bind_eq_some_iff.1 hp
 refine RL.op _ (by decide) (opv_call (cap := []) (impl_ShareOf_ok _ _ _ _ _ _ (SL.up (SL.mod g0_3 X_3 (Nat.le_refl _) nob) (Nat.le_trans (Nat.le_refl _) (Mod.size X_3))) _ _ (SL.up (SL.mod g0_4 X_3 (Nat.le_refl _) nob) (Nat.le_trans (Nat.le_refl _) (Mod.size X_3))) _ _ (SL.up (SL.mod g1_0 X_3 (Nat.le_refl _) nob) (Nat.le_trans (Nat.le_refl _) (Mod.size X_3))) _ _ (SL.up (SL.mod g1_1 X_3 (Nat.le_refl _) nob) (Nat.le_trans (Nat.le_refl _) (Mod.size X_3))) _ _ (SL.up (SL.mod g1_2 X_3 (Nat.le_refl _) nob) (Nat.le_trans (Nat.le_refl _) (Mod.size X_3))) _ _ _ hx1) rfl rfl ⟨rfl, rfl, rfl, rfl, trivial⟩ Try.func18 rfl rfl) ?_
 rintro _ hp4 ⟨v1, rfl, fv1, MT_4, T_4⟩
 obtain ⟨X_4, S_4⟩ := Sep.turn0 X_3 S_3 MT_4 T_4
 refine RL.opD (by decide) (opv_move rfl rfl) ?_
 refine RL.opD (by decide) (opv_extract rfl rfl rfl) ?_
 refine RL.opD (by decide) (opv_extract rfl rfl rfl) ?_
 refine RL.opD (by decide) (opv_assign rfl rfl) ?_
 refine RL.opD (by decide) (opv_assign rfl rfl) ?_
 refine RL.nil ?_
 refine thnN ?_
 refine W.seq ?_
 refine W.seq ?_
 refine W.region ?_
 refine RL.opD (by decide) (opv_move rfl rfl) ?_
 refine RL.opD (by decide) (opv_not rfl rfl) ?_
 refine RL.nil ?_
 refine thnN ?_
 by_cases c1 : (!x1.2) = true
 ·rw [if_pos c1] at hp
  refine W.condT rfl c1 ?_
  refine W.seq ?_
  refine W.region ?_
  refine RL.opD (by decide) (opv_build (cs := [(.slice none 0 0), (.slice none 0 0), (.slice none 0 0)]) [] [] rfl Try.bd37 trivial rfl) ?_
  refine RL.op0 _ (opS_stored (cs := [(.slice none 0 0), (.slice none 0 0), (.slice none 0 0)]) (cs' := [(.slice none 0 0), (.slice none 0 0), (.slice none 0 0)]) (opv_storeA (us := [(.slice none 0 0), (.slice none 0 0), (.slice none 0 0)]) rfl Try.size37 rfl rfl (oneAll rfl (oneAll rfl (oneAll rfl rfl))) (Sep.at (o := boxO bb3 [(.slice none 0 0), (.slice none 0 0), (.slice none 0 0)]) S_4 0 rfl) rfl rfl) (Sep.at (o := boxO bb3 [(.slice none 0 0), (.slice none 0 0), (.slice none 0 0)]) S_4 0 rfl)) ?_
  rintro _ hp5 ⟨rfl, MT_5, T_5⟩
  have S_5 : Sep [] h0.size hp4 ([boxO bb3 [(.slice none 0 0), (.slice none 0 0), (.slice none 0 0)]] ++ [boxO bb2 [u1_0, u1_1, u1_2], boxO bb1 [(.int .i64 a0_0), (.int .i64 a0_1), (.bool a0_2), u0_3, u0_4]]) := Sep.sel S_4 [0, 1, 2] (by decide)
  obtain ⟨X_5, S_6⟩ := Sep.turn X_4 S_5 MT_5 T_5
  refine RL.opD (by decide) (opv_assign rfl rfl) ?_
  refine RL.nil ?_
  refine thnN ?_
  refine W.ret ?_
  refine thnR ?_
  have S_7 : Sep [] h0.size hp5 [ownO (kF .f32) 29 (.slice none 0 0) ([] : List (Option Nat)), boxO bb3 [(.slice none 0 0), (.slice none 0 0), (.slice none 0 0)], boxO bb2 [u1_0, u1_1, u1_2], boxO bb1 [(.int .i64 a0_0), (.int .i64 a0_1), (.bool a0_2), u0_3, u0_4]] := Sep.addNil S_6
  have S_8 : Sep [] h0.size hp5 [ownO (kF .f32) 29 (.slice none 0 0) ([] : List (Option Nat)), ownO (kF .f32) 29 (.slice none 0 0) ([] : List (Option Nat)), boxO bb3 [(.slice none 0 0), (.slice none 0 0), (.slice none 0 0)], boxO bb2 [u1_0, u1_1, u1_2], boxO bb1 [(.int .i64 a0_0), (.int .i64 a0_1), (.bool a0_2), u0_3, u0_4]] := Sep.addNil S_7
  have S_9 : Sep [] h0.size hp5 [ownO (kF .f32) 29 (.slice none 0 0) ([] : List (Option Nat)), ownO (kF .f32) 29 (.slice none 0 0) ([] : List (Option Nat)), ownO (kF .f32) 29 (.slice none 0 0) ([] : List (Option Nat)), boxO bb3 [(.slice none 0 0), (.slice none 0 0), (.slice none 0 0)], boxO bb2 [u1_0, u1_1, u1_2], boxO bb1 [(.int .i64 a0_0), (.int .i64 a0_1), (.bool a0_2), u0_3, u0_4]] := Sep.addNil S_8
  have er := Option.some.inj hp
  subst er
  exact Rt.cellA rfl rfl rfl Try.agg37 Try.size37 (Sep.at (o := boxO bb3 [(.slice none 0 0), (.slice none 0 0), (.slice none 0 0)]) S_9 3 rfl) rfl ⟨(.slice none 0 0), (.slice none 0 0), (.slice none 0 0), rfl, X_5, (Sep.sel S_9 [2, 1, 0] (by decide))⟩
 ·rw [if_neg c1] at hp
  have c1 := eq_false_of_ne_true c1
  refine W.condF rfl c1 ?_
  refine W.skip ?_
  refine thnN ?_
  refine W.seq ?_
  refine W.region ?_
  refine RL.opD (by decide) (opv_loadA (us := [u1_0, u1_1, u1_2]) rfl Try.agg37 Try.size37 rfl (Sep.at (o := boxO bb2 [u1_0, u1_1, u1_2]) S_4 1 rfl) rfl rfl) ?_
  obtain ⟨x2, hx2, hp⟩ := Option.bind_eq_some_iff.1 hp
  refine RL.op _ (by decide) (opv_call (cap := []) (impl_copyField_ok _ _ _ (SL.up (SL.mod g1_0 X_4 (Nat.le_refl _) nob) (Nat.le_trans (Nat.le_refl _) (Mod.size X_4))) _ _ (SL.up (SL.mod g1_1 X_4 (Nat.le_refl _) nob) (Nat.le_trans (Nat.le_refl _) (Mod.size X_4))) _ _ (SL.up (SL.mod g1_2 X_4 (Nat.le_refl _) nob) (Nat.le_trans (Nat.le_refl _) (Mod.size X_4))) _ hx2) rfl rfl ⟨rfl, trivial⟩ Try.func78 rfl rfl) ?_
  rintro _ hp6 ⟨v2, v3, v4, rfl, MT_6, T_6⟩
  obtain ⟨X_6, S_10⟩ := Sep.turn0 X_4 S_4 MT_6 T_6
  refine RL.op _ (by decide) (opS_boxed (opv_alloc (cs := [(.slice none 0 0), (.slice none 0 0), (.slice none 0 0)]) rfl Try.zero37 rfl)) ?_
  rintro _ hp7 ⟨bb4, rfl, MT_7, T_7⟩
  obtain ⟨X_7, S_11⟩ := Sep.turn0 X_6 S_10 MT_7 T_7
  refine RL.op0 _ (opS_stored (cs := [(.slice none 0 0), (.slice none 0 0), (.slice none 0 0)]) (cs' := [v2, v3, v4]) (opv_storeA (us := [v2, v3, v4]) rfl Try.size37 rfl rfl (oneAll (ownO.one (Sep.at (o := ownO (kF .f32) 29 v2 x2.1) S_11 1 rfl)) (oneAll (ownO.one (Sep.at (o := ownO (kF .f32) 29 v3 x2.2.1) S_11 2 rfl)) (oneAll (ownO.one (Sep.at (o := ownO (kF .f32) 29 v4 x2.2.2) S_11 3 rfl)) rfl))) (Sep.at (o := boxO bb4 [(.slice none 0 0), (.slice none 0 0), (.slice none 0 0)]) S_11 0 rfl) rfl rfl) (Sep.at (o := boxO bb4 [(.slice none 0 0), (.slice none 0 0), (.slice none 0 0)]) S_11 0 rfl)) ?_
  rintro _ hp8 ⟨rfl, MT_8, T_8⟩
  have S_12 : Sep [] h0.size hp7 ([boxO bb4 [(.slice none 0 0), (.slice none 0 0), (.slice none 0 0)]] ++ [ownO (kF .f32) 29 v2 x2.1, ownO (kF .f32) 29 v3 x2.2.1, ownO (kF .f32) 29 v4 x2.2.2, boxO bb3 [(.slice none 0 0), (.slice none 0 0), (.slice none 0 0)], boxO bb2 [u1_0, u1_1, u1_2], boxO bb1 [(.int .i64 a0_0), (.int .i64 a0_1), (.bool a0_2), u0_3, u0_4]]) := Sep.sel S_11 [0, 1, 2, 3, 4, 5, 6] (by decide)
  obtain ⟨X_8, S_13⟩ := Sep.turn X_7 S_12 MT_8 T_8
  refine RL.nil ?_
  refine thnN ?_
  refine W.seq ?_
  refine W.seq ?_
  refine W.region ?_
  refine RL.opD (by decide) (opv_loadA (us := [(.int .i64 a0_0), (.int .i64 a0_1), (.bool a0_2), u0_3, u0_4]) rfl Try.agg33 Try.size33 rfl (Sep.at (o := boxO bb1 [(.int .i64 a0_0), (.int .i64 a0_1), (.bool a0_2), u0_3, u0_4]) S_13 6 rfl) rfl rfl) ?_
  refine RL.opD (by decide) (opv_move rfl rfl) ?_
  refine RL.opD (by decide) (opv_move rfl rfl) ?_
  obtain ⟨x3, hx3, hp⟩ := Option.bind_eq_some_iff.1 hp
  refine RL.op _ (by decide) (opv_call (cap := []) (impl_modeField_ok _ _ _ _ _ _ (SL.up (SL.mod g0_3 X_8 (Nat.le_refl _) nob) (Nat.le_trans (Nat.le_refl _) (Mod.size X_8))) _ _ (SL.up (SL.mod g0_4 X_8 (Nat.le_refl _) nob) (Nat.le_trans (Nat.le_refl _) (Mod.size X_8))) _ _ _ _ (isF_lit .f32 1065353216 (by decide) (by decide)) _ hx3) rfl rfl ⟨rfl, rfl, rfl, rfl, trivial⟩ Try.func76 rfl rfl) ?_
  rintro _ hp9 ⟨v5, v6, v7, rfl, MT_9, T_9⟩
  obtain ⟨X_9, S_14⟩ := Sep.turn0 X_8 S_13 MT_9 T_9
  refine RL.opD (by decide) (opv_field rfl Try.fi37_0 Try.one25 rfl rfl) ?_
  refine RL.opD (by decide) (opv_len rfl Try.underlying25 rfl (ownO.read (Sep.at (o := ownO (kF .f32) 29 v5 x3.1) S_14 0 rfl))) ?_
  refine RL.opD (by decide) (opv_move rfl rfl) ?_
  refine RL.nil ?_
  refine thnN ?_
  obtain ⟨y1, hy1, hp⟩ := Option.bind_eq_some_iff.1 hp
  refine W.cut (fun φ' h' => ∃ x6, ∃ x7, ∃ x8, y1 = (x6, x7, x8) ∧ Fr.sub [(0, (.agg (List.toArray (α := Value) [(.int .i64 a0_0), (.int .i64 a0_1), (.bool a0_2), u0_3, u0_4]))), (1, (.agg (List.toArray (α := Value) [u1_0, u1_1, u1_2]))), (2, (.int .i64 a2)), (3, (.int .i64 a3)), (4, (.pointer (some ⟨bb1, 0, none⟩))), (5, (.pointer (some ⟨bb2, 0, none⟩))), (8, (.pointer (some ⟨bb3, 0, none⟩))), (9, (.bool false)), (10, v1), (11, (.bool x1.2)), (24, (.bool (!x1.2))), (12, (.pointer (some ⟨bb4, 0, none⟩))), (32, v5), (33, (.int .i64 (x3.1.length : Int))), (34, (.int .i64 x6)), (35, (.bool x7))] φ' ∧ Mod [] h0 h' ∧ Sep [] h0.size h' [ownO (kF .f32) 29 v5 x3.1, ownO (kF .f32) 29 v6 x3.2.1, ownO (kF .f32) 29 v7 x3.2.2, boxO bb4 [v2, v3, v4], ownO (kF .f32) 29 v2 x8, ownO (kF .f32) 29 v3 x2.2.1, ownO (kF .f32) 29 v4 x2.2.2, boxO bb3 [(.slice none 0 0), (.slice none 0 0), (.slice none 0 0)], boxO bb2 [u1_0, u1_1, u1_2], boxO bb1 [(.int .i64 a0_0), (.int .i64 a0_1), (.bool a0_2), u0_3, u0_4]]) ?_ ?_
  ·refine W.block ?_
   refine W.loopS (fun (s : (Int × (List (Option Nat)))) φ' h' => Fr.sub [(0, (.agg (List.toArray (α := Value) [(.int .i64 a0_0), (.int .i64 a0_1), (.bool a0_2), u0_3, u0_4]))), (1, (.agg (List.toArray (α := Value) [u1_0, u1_1, u1_2]))), (2, (.int .i64 a2)), (3, (.int .i64 a3)), (4, (.pointer (some ⟨bb1, 0, none⟩))), (5, (.pointer (some ⟨bb2, 0, none⟩))), (8, (.pointer (some ⟨bb3, 0, none⟩))), (9, (.bool false)), (10, v1), (11, (.bool x1.2)), (24, (.bool (!x1.2))), (12, (.pointer (some ⟨bb4, 0, none⟩))), (32, v5), (33, (.int .i64 (x3.1.length : Int))), (34, (.int .i64 s.1))] φ' ∧ Mod [] h0 h' ∧ Sep [] h0.size h' [ownO (kF .f32) 29 v5 x3.1, ownO (kF .f32) 29 v6 x3.2.1, ownO (kF .f32) 29 v7 x3.2.2, boxO bb4 [v2, v3, v4], ownO (kF .f32) 29 v2 s.2, ownO (kF .f32) 29 v3 x2.2.1, ownO (kF .f32) 29 v4 x2.2.2, boxO bb3 [(.slice none 0 0), (.slice none 0 0), (.slice none 0 0)], boxO bb2 [u1_0, u1_1, u1_2], boxO bb1 [(.int .i64 a0_0), (.int .i64 a0_1), (.bool a0_2), u0_3, u0_4]]) hy1 ⟨⟨rfl, rfl, rfl, rfl, rfl, rfl, rfl, rfl, rfl, rfl, rfl, rfl, rfl, rfl, rfl, trivial⟩, X_9, (Sep.sel S_14 [0, 1, 2, 3, 4, 5, 6, 7, 8, 9] (by decide))⟩ ?_
   rintro ⟨x4, x5⟩ φ' hp10 o1 ⟨hs1, X_10, S_15⟩ ho1 hy1
   have hs1 : Fr.sub [(0, (.agg (List.toArray (α := Value) [(.int .i64 a0_0), (.int .i64 a0_1), (.bool a0_2), u0_3, u0_4]))), (1, (.agg (List.toArray (α := Value) [u1_0, u1_1, u1_2]))), (2, (.int .i64 a2)), (3, (.int .i64 a3)), (4, (.pointer (some ⟨bb1, 0, none⟩))), (5, (.pointer (some ⟨bb2, 0, none⟩))), (8, (.pointer (some ⟨bb3, 0, none⟩))), (9, (.bool false)), (10, v1), (11, (.bool x1.2)), (24, (.bool (!x1.2))), (12, (.pointer (some ⟨bb4, 0, none⟩))), (32, v5), (33, (.int .i64 (x3.1.length : Int))), (34, (.int .i64 x4))] φ' := hs1
   have S_15 : Sep [] h0.size hp10 [ownO (kF .f32) 29 v5 x3.1, ownO (kF .f32) 29 v6 x3.2.1, ownO (kF .f32) 29 v7 x3.2.2, boxO bb4 [v2, v3, v4], ownO (kF .f32) 29 v2 x5, ownO (kF .f32) 29 v3 x2.2.1, ownO (kF .f32) 29 v4 x2.2.2, boxO bb3 [(.slice none 0 0), (.slice none 0 0), (.slice none 0 0)], boxO bb2 [u1_0, u1_1, u1_2], boxO bb1 [(.int .i64 a0_0), (.int .i64 a0_1), (.bool a0_2), u0_3, u0_4]] := S_15
   have ho1 : impl_WithoutMode.s0 x1 x3 x4 x5 = some o1 := ho1
   unfold impl_WithoutMode.s0 at ho1
   refine W.sub hs1 ?_
   refine W.seq ?_
   refine W.region ?_
   refine RL.opD (by decide) (opv_icmp rfl rfl rfl rfl) ?_
   refine RL.nil ?_
   refine thnN ?_
   refine W.seq ?_
   by_cases c2 : (decide (x4 < (x3.1.length : Int))) = true
   ·rw [if_pos c2] at ho1
    refine W.condT rfl c2 ?_
    refine W.skip ?_
    refine thnN ?_
    refine W.seq ?_
    refine W.block ?_
    refine W.seq ?_
    refine W.region ?_
    refine RL.opD (by decide) (opv_move rfl rfl) ?_
    obtain ⟨x9, hx9, ho1⟩ := Option.bind_eq_some_iff.1 ho1
    refine RL.op _ (by decide) (opv_index rfl Try.underlying25 (by rw [Try.size29]; rfl) rfl rfl (ownO.read (Sep.at (o := ownO (kF .f32) 29 v5 x3.1) S_15 0 rfl)) hx9) ?_
    rintro v8 _ ⟨fv8, rfl⟩
    refine RL.opF (by decide) (opv_loadF rfl Try.one29 rfl fv8 (ownO.read (Sep.at (o := ownO (kF .f32) 29 v5 x3.1) S_15 0 rfl)) hx9) ?_
    intro v9 fv9
    refine RL.opD (by decide) (opv_assign rfl rfl) ?_
    refine RL.opD (by decide) (opv_assign rfl rfl) ?_
    refine RL.nil ?_
    refine thnN ?_
    obtain ⟨x10, hx10, ho1⟩ := Option.bind_eq_some_iff.1 ho1
    obtain ⟨x11, hx11, ho1⟩ := Option.bind_eq_some_iff.1 ho1
    obtain ⟨x12, hx12, ho1⟩ := Option.bind_eq_some_iff.1 ho1
    refine W.sub (ψ := [(0, (.agg (List.toArray (α := Value) [(.int .i64 a0_0), (.int .i64 a0_1), (.bool a0_2), u0_3, u0_4]))), (1, (.agg (List.toArray (α := Value) [u1_0, u1_1, u1_2]))), (2, (.int .i64 a2)), (3, (.int .i64 a3)), (4, (.pointer (some ⟨bb1, 0, none⟩))), (5, (.pointer (some ⟨bb2, 0, none⟩))), (8, (.pointer (some ⟨bb3, 0, none⟩))), (9, (.bool false)), (10, v1), (11, (.bool x1.2)), (24, (.bool (!x1.2))), (12, (.pointer (some ⟨bb4, 0, none⟩))), (32, v5), (33, (.int .i64 (x3.1.length : Int))), (34, (.int .i64 x4)), (35, (.bool (decide (x4 < (x3.1.length : Int))))), (13, (.int .i64 x4)), (14, v9)]) ⟨rfl, rfl, rfl, rfl, rfl, rfl, rfl, rfl, rfl, rfl, rfl, rfl, rfl, rfl, rfl, rfl, rfl, rfl, trivial⟩ ?_
    refine W.regionP [fun v _ => @Eq Value (.pointer (some ⟨bb4, 0, none⟩)) v, fun v _ => @Eq Value v2 v, fun v _ => @Eq Value (.int .i64 x4) v, fun v _ => @Eq Value (.pointer (some ⟨bb4, 0, none⟩)) v, fun v _ => @Eq Value v2 v, fun v _ => @Eq Value (.int .i64 x4) v, fun v _ => PtI 1 v v2 (Int.toNat x4), fun v _ => IsF .f32 v x10, fun v _ => IsF .f32 v x1.1, fun v _ => IsF .f32 v x9, fun v _ => IsF .f32 v (fop .mul .f32 x1.1 x9), fun v _ => IsF .f32 v (fop .sub .f32 x10 (fop .mul .f32 x1.1 x9)), fun v _ => PtI 1 v v2 (Int.toNat x4)] [[], [0], [], [], [3], [], [4, 5], [6], [], [], [8, 9], [7, 10], [1, 2]] [11, 12] Try.mixed (by decide +kernel) (by decide +kernel) rfl rfl rfl ?_ ?_
    ·refine ⟨⟨rfl, ?_⟩, ⟨rfl, ?_⟩, ⟨rfl, ?_⟩, ⟨rfl, ?_⟩, ⟨rfl, ?_⟩, ⟨rfl, ?_⟩, ⟨rfl, ?_⟩, ⟨rfl, ?_⟩, ⟨rfl, ?_⟩, ⟨rfl, ?_⟩, ⟨rfl, ?_⟩, ⟨rfl, ?_⟩, ⟨rfl, ?_⟩, trivial⟩
     ·rintro _ rfl
      refine Dep.nil ?_
      refine GuardOK.none rfl ?_
      exact OpV.toD (opv_fieldAddr rfl Try.fo37_0 rfl) rfl
     ·rintro _ rfl _ rfl
      refine Dep.nil ?_
      refine GuardOK.none rfl ?_
      exact OpV.toD (opv_loadB rfl Try.one25 rfl (Sep.at (o := boxO bb4 [v2, v3, v4]) S_15 3 rfl) rfl) rfl
     ·rintro _ rfl
      refine Dep.nil ?_
      refine GuardOK.none rfl ?_
      exact OpV.toD (opv_move rfl rfl) rfl
     ·rintro _ rfl
      refine Dep.nil ?_
      refine GuardOK.none rfl ?_
      exact OpV.toD (opv_fieldAddr rfl Try.fo37_0 rfl) rfl
     ·rintro _ rfl _ rfl
      refine Dep.nil ?_
      refine GuardOK.none rfl ?_
      exact OpV.toD (opv_loadB rfl Try.one25 rfl (Sep.at (o := boxO bb4 [v2, v3, v4]) S_15 3 rfl) rfl) rfl
     ·rintro _ rfl
      refine Dep.nil ?_
      refine GuardOK.none rfl ?_
      exact OpV.toD (opv_move rfl rfl) rfl
     ·rintro _ rfl _ rfl _ rfl
      refine Dep.nil ?_
      refine GuardOK.none rfl ?_
      exact OpV.toS (opv_index rfl Try.underlying25 (by rw [Try.size29]; rfl) rfl rfl (ownO.read (Sep.at (o := ownO (kF .f32) 29 v2 x5) S_15 4 rfl)) hx10) (fun _ h => h)
     ·rintro _ rfl v10 fv10
      refine Dep.nil ?_
      refine GuardOK.none rfl ?_
      exact OpV.toS (opv_loadF rfl Try.one29 rfl fv10 (ownO.read (Sep.at (o := ownO (kF .f32) 29 v2 x5) S_15 4 rfl)) hx10) (fun _ h => h)
     ·rintro _ rfl
      refine Dep.nil ?_
      refine GuardOK.none rfl ?_
      exact OpV.toD (opv_move rfl rfl) fv1
     ·rintro _ rfl
      refine Dep.nil ?_
      refine GuardOK.none rfl ?_
      exact OpV.toD (opv_move rfl rfl) fv9
     ·rintro _ rfl v12 fv12 v13 fv13
      refine Dep.nil ?_
      refine GuardOK.none rfl ?_
      exact OpV.toS (opv_fop rfl rfl rfl rfl fv12 fv13) (fun _ h => h)
     ·rintro _ rfl v11 fv11 v14 fv14
      refine Dep.nil ?_
      refine GuardOK.none rfl ?_
      exact OpV.toS (opv_fop rfl rfl rfl rfl fv11 fv14) (fun _ h => h)
     ·rintro _ rfl _ rfl _ rfl
      refine Dep.nil ?_
      refine GuardOK.none rfl ?_
      exact OpV.toS (opv_index rfl Try.underlying25 (by rw [Try.size29]; rfl) rfl rfl (ownO.read (Sep.at (o := ownO (kF .f32) 29 v2 x5) S_15 4 rfl)) hx11) (fun _ h => h)
    rintro v15 fv15 v16 fv16
    refine Dep.nil ?_
    show RL _ _ _ _ (_ :: _) _ _
    refine RL.op0 _ (opS_storeE (K := (kF .f32)) rfl Try.size29 rfl rfl fv16 rfl ⟨_, rfl, fv15⟩ hx12 (Sep.at (o := ownO (kF .f32) 29 v2 x5) S_15 4 rfl)) ?_
    rintro _ hp12 ⟨rfl, MT_11, T_11⟩
    have S_18 : Sep [] h0.size hp10 ([ownO (kF .f32) 29 v2 x5] ++ [ownO (kF .f32) 29 v5 x3.1, ownO (kF .f32) 29 v6 x3.2.1, ownO (kF .f32) 29 v7 x3.2.2, boxO bb4 [v2, v3, v4], ownO (kF .f32) 29 v3 x2.2.1, ownO (kF .f32) 29 v4 x2.2.2, boxO bb3 [(.slice none 0 0), (.slice none 0 0), (.slice none 0 0)], boxO bb2 [u1_0, u1_1, u1_2], boxO bb1 [(.int .i64 a0_0), (.int .i64 a0_1), (.bool a0_2), u0_3, u0_4]]) := Sep.sel S_15 [4, 0, 1, 2, 3, 5, 6, 7, 8, 9] (by decide)
    obtain ⟨X_12, S_19⟩ := Sep.turn X_10 S_18 MT_11 T_11
    refine RL.nil ?_
    refine blkN ?_
    refine thnN ?_
    refine W.region ?_
    refine RL.opD (by decide) (opv_add rfl rfl rfl) ?_
    refine RL.opD (by decide) (opv_move rfl rfl) ?_
    refine RL.nil ?_
    have eo1 := Option.some.inj ho1
    subst eo1
    refine rndN (s' := (IntKind.wrap .i64 (x4 + 1), x12)) rfl ?_
    exact ⟨⟨rfl, rfl, rfl, rfl, rfl, rfl, rfl, rfl, rfl, rfl, rfl, rfl, rfl, rfl, rfl, trivial⟩, X_12, (Sep.sel S_19 [1, 2, 3, 4, 0, 5, 6, 7, 8, 9] (by decide))⟩
   ·rw [if_neg c2] at ho1
    have c2 := eq_false_of_ne_true c2
    refine W.condF rfl c2 ?_
    refine W.exit ?_
    refine thnX ?_
    refine rndX ?_
    refine blkI ?_
    have eo1 := Option.some.inj ho1
    subst eo1
    have ey1 := hy1 _ rfl
    subst ey1
    refine onlyN ?_
    exact ⟨x4, decide (x4 < (x3.1.length : Int)), x5, rfl, ⟨rfl, rfl, rfl, rfl, rfl, rfl, rfl, rfl, rfl, rfl, rfl, rfl, rfl, rfl, rfl, rfl, trivial⟩, X_10, (Sep.sel S_15 [0, 1, 2, 3, 4, 5, 6, 7, 8, 9] (by decide))⟩
  rintro φ' hp13 ⟨x6, x7, x8, rfl, hs2, X_13, S_20⟩
  try dsimp only at hp
  refine thnN ?_
  refine W.sub hs2 ?_
  refine W.seq ?_
  refine W.region ?_
  refine RL.opD (by decide) (opv_loadA (us := [(.int .i64 a0_0), (.int .i64 a0_1), (.bool a0_2), u0_3, u0_4]) rfl Try.agg33 Try.size33 rfl (Sep.at (o := boxO bb1 [(.int .i64 a0_0), (.int .i64 a0_1), (.bool a0_2), u0_3, u0_4]) S_20 9 rfl) rfl rfl) ?_
  refine RL.opD (by decide) (opv_loadA (us := [v2, v3, v4]) rfl Try.agg37 Try.size37 rfl (Sep.at (o := boxO bb4 [v2, v3, v4]) S_20 3 rfl) rfl rfl) ?_
  obtain ⟨x13, hx13, hp⟩ := Option.bind_eq_some_iff.1 hp
  have S_22 : Sep [] h0.size hp13 [ownO (kF .f32) 29 v2 x8, ownO (kF .f32) 29 v3 x2.2.1, ownO (kF .f32) 29 v4 x2.2.2] := Sep.sel S_20 [4, 5, 6] (by decide)
  have S_21 : Sep [v2.ownBlock, v3.ownBlock, v4.ownBlock] hp13.size hp13 [ownO (kF .f32) 29 v2 x8, ownO (kF .f32) 29 v3 x2.2.1, ownO (kF .f32) 29 v4 x2.2.2] := Sep.own S_22 _
  refine RL.op _ (by decide) (opv_call (cap := []) (impl_validField_ok _ h0.size (Nat.le_trans (Nat.le_refl _) (Mod.size X_13)) _ _ _ _ _ (SL.mod g0_3 X_13 (Nat.le_refl _) nob) _ _ (SL.mod g0_4 X_13 (Nat.le_refl _) nob) _ _ _ _ _ _ S_21 (Sep.ge (L := [ownO (kF .f32) 29 v2 x8, ownO (kF .f32) 29 v3 x2.2.1, ownO (kF .f32) 29 v4 x2.2.2]) S_22 (Nat.le_refl _) nob) _ hx13) rfl rfl ⟨rfl, rfl, trivial⟩ Try.func79 rfl rfl) ?_
  rintro _ hp14 ⟨v17, v18, v19, rfl, MT_12, T_12⟩
  have S_23 : Sep [] h0.size hp13 ([ownO (kF .f32) 29 v2 x8, ownO (kF .f32) 29 v3 x2.2.1, ownO (kF .f32) 29 v4 x2.2.2] ++ [ownO (kF .f32) 29 v5 x3.1, ownO (kF .f32) 29 v6 x3.2.1, ownO (kF .f32) 29 v7 x3.2.2, boxO bb4 [v2, v3, v4], boxO bb3 [(.slice none 0 0), (.slice none 0 0), (.slice none 0 0)], boxO bb2 [u1_0, u1_1, u1_2], boxO bb1 [(.int .i64 a0_0), (.int .i64 a0_1), (.bool a0_2), u0_3, u0_4]]) := Sep.sel S_20 [4, 5, 6, 0, 1, 2, 3, 7, 8, 9] (by decide)
  obtain ⟨X_14, S_24⟩ := Sep.turn X_13 S_23 MT_12 T_12
  refine RL.opD (by decide) (opv_extract rfl rfl rfl) ?_
  refine RL.opD (by decide) (opv_extract rfl rfl rfl) ?_
  refine RL.op0 _ (opS_stored (cs := [(.slice none 0 0), (.slice none 0 0), (.slice none 0 0)]) (cs' := [v17, v18, v19]) (opv_storeA (us := [v17, v18, v19]) rfl Try.size37 rfl rfl (oneAll (ownO.one (Sep.at (o := ownO (kF .f32) 29 v17 x13.1) S_24 0 rfl)) (oneAll (ownO.one (Sep.at (o := ownO (kF .f32) 29 v18 x13.2.1) S_24 1 rfl)) (oneAll (ownO.one (Sep.at (o := ownO (kF .f32) 29 v19 x13.2.2.1) S_24 2 rfl)) rfl))) (Sep.at (o := boxO bb3 [(.slice none 0 0), (.slice none 0 0), (.slice none 0 0)]) S_24 7 rfl) rfl rfl) (Sep.at (o := boxO bb3 [(.slice none 0 0), (.slice none 0 0), (.slice none 0 0)]) S_24 7 rfl)) ?_
  rintro _ hp15 ⟨rfl, MT_13, T_13⟩
  have S_25 : Sep [] h0.size hp14 ([boxO bb3 [(.slice none 0 0), (.slice none 0 0), (.slice none 0 0)]] ++ [ownO (kF .f32) 29 v17 x13.1, ownO (kF .f32) 29 v18 x13.2.1, ownO (kF .f32) 29 v19 x13.2.2.1, ownO (kF .f32) 29 v5 x3.1, ownO (kF .f32) 29 v6 x3.2.1, ownO (kF .f32) 29 v7 x3.2.2, boxO bb4 [v2, v3, v4], boxO bb2 [u1_0, u1_1, u1_2], boxO bb1 [(.int .i64 a0_0), (.int .i64 a0_1), (.bool a0_2), u0_3, u0_4]]) := Sep.sel S_24 [7, 0, 1, 2, 3, 4, 5, 6, 8, 9] (by decide)
  obtain ⟨X_15, S_26⟩ := Sep.turn X_14 S_25 MT_13 T_13
  refine RL.opD (by decide) (opv_assign rfl rfl) ?_
  refine RL.nil ?_
  refine thnN ?_
  refine W.ret ?_
  have er := Option.some.inj hp
  subst er
  exact Rt.cellA rfl rfl rfl Try.agg37 Try.size37 (Sep.at (o := boxO bb3 [v17, v18, v19]) S_26 0 rfl) rfl ⟨v17, v18, v19, rfl, X_15, (Sep.sel S_26 [1, 2, 3] (by decide))⟩

set_option maxRecDepth 20000 in
theorem impl_AddFields_1_ok (h0 : Heap) (u0 : Value) (a0 : Option Nat) (g0 : IsF .f32 u0 a0) (u1 : Value) (a1 : Option Nat) (g1 : IsF .f32 u1 a1) (r : Option Nat) (hp : impl_AddFields_1 a0 a1 = some r) : CallsH Try.prog 80 ([u0, u1].toArray ++ [].toArray) h0 (fun v h' => IsF .f32 v r ∧ h0 = h') := by
 unfold impl_AddFields_1 at hp
 refine callsH_of_W (l := [u0, u1]) (cap := []) 8 Try.func80 rfl rfl rfl ?_
 refine W.seq ?_
 refine W.region ?_
 refine RL.opD (by decide) (opv_assign rfl rfl) ?_
 refine RL.nil ?_
 refine thnN ?_
 refine W.seq ?_
 refine W.region ?_
 refine RL.opD (by decide) (opv_move rfl rfl) ?_
 refine RL.opD (by decide) (opv_move rfl rfl) ?_
 refine RL.opF (by decide) (opv_fop rfl rfl rfl rfl g0 g1) ?_
 intro v1 fv1
 refine RL.opD (by decide) (opv_assign rfl rfl) ?_
 refine RL.nil ?_
 refine thnN ?_
 refine W.ret ?_
 have er := Option.some.inj hp
 subst er
 exact Rt.one rfl rfl ⟨fv1, rfl⟩

set_option maxRecDepth 20000 in
theorem impl_both__impl_AddFields_1_ok (h0 : Heap) (u0 : Value) (a0 : List (Option Nat)) (g0 : SL (kF .f32) h0.size h0 u0 a0) (u1 : Value) (a1 : List (Option Nat)) (g1 : SL (kF .f32) h0.size h0 u1 a1) (r : List (Option Nat)) (hp : impl_both__impl_AddFields_1 a0 a1 = some r) : CallsH Try.prog 81 ([u0, u1, (.func (.func 80) #[] (List.toArray (α := Value) []))].toArray ++ [].toArray) h0 (fun v h' => Mod [] h0 h' ∧ Sep [] h0.size h' [ownO (kF .f32) 29 v r]) := by
 unfold impl_both__impl_AddFields_1 at hp
 refine callsH_of_W (l := [u0, u1, (.func (.func 80) #[] (List.toArray (α := Value) []))]) (cap := []) 30 Try.func81 rfl rfl rfl ?_
 refine W.seq ?_
 refine W.region ?_
 refine RL.opD (by decide) (opv_assign rfl rfl) ?_
 have S_1 : Sep [] h0.size h0 [ownO (kF .f32) 29 (.slice none 0 0) ([] : List (Option Nat))] := Sep.addNil (Sep.nil [] h0.size h0)
 refine RL.nil ?_
 refine thnN ?_
 refine W.seq ?_
 refine W.region ?_
 refine RL.op _ (by decide) (opS_lit0 (K := (kF .f32)) rfl Try.underlying25 Try.isinfo29) ?_
 rintro v1 hp1 ⟨MT_1, T_1⟩
 obtain ⟨X_1, S_2⟩ := Sep.turn0 (Mod.refl [] h0) S_1 MT_1 T_1
 refine RL.opD (by decide) (opv_assign rfl rfl) ?_
 refine RL.nil ?_
 refine thnN ?_
 refine W.seq ?_
 refine W.seq ?_
 refine W.region ?_
 refine RL.opD (by decide) (opv_move rfl rfl) ?_
 refine RL.opD (by decide) (opv_len rfl Try.underlying25 rfl (SL.mod g0 X_1 (Nat.le_refl _) nob)) ?_
 refine RL.opD (by decide) (opv_move rfl rfl) ?_
 refine RL.nil ?_
 refine thnN ?_
 obtain ⟨y1, hy1, hp⟩ := Option.bind_eq_some_iff.1 hp
 refine W.cut (fun φ' h' => ∃ x3, ∃ x4, ∃ x5, ∃ v3, y1 = (x3, x4, x5) ∧ Fr.sub [(0, u0), (1, u1), (2, (.func (.func 80) #[] (List.toArray (α := Value) []))), (6, (.slice none 0 0)), (11, u0), (12, (.int .i64 (a0.length : Int))), (13, (.int .i64 x3)), (14, (.bool x4)), (7, v3)] φ' ∧ Mod [] h0 h' ∧ Sep [] h0.size h' [ownO (kF .f32) 29 (.slice none 0 0) ([] : List (Option Nat)), ownO (kF .f32) 29 v3 x5]) ?_ ?_
 ·refine W.block ?_
  refine W.loopS (fun (s : ((List (Option Nat)) × Int)) φ' h' => ∃ v2, Fr.sub [(0, u0), (1, u1), (2, (.func (.func 80) #[] (List.toArray (α := Value) []))), (6, (.slice none 0 0)), (11, u0), (12, (.int .i64 (a0.length : Int))), (7, v2), (13, (.int .i64 s.2))] φ' ∧ Mod [] h0 h' ∧ Sep [] h0.size h' [ownO (kF .f32) 29 v2 s.1, ownO (kF .f32) 29 (.slice none 0 0) ([] : List (Option Nat))]) hy1 ⟨v1, ⟨rfl, rfl, rfl, rfl, rfl, rfl, rfl, rfl, trivial⟩, X_1, (Sep.sel S_2 [0, 1] (by decide))⟩ ?_
  rintro ⟨x1, x2⟩ φ' hp2 o1 ⟨v2, hs1, X_2, S_3⟩ ho1 hy1
  have hs1 : Fr.sub [(0, u0), (1, u1), (2, (.func (.func 80) #[] (List.toArray (α := Value) []))), (6, (.slice none 0 0)), (11, u0), (12, (.int .i64 (a0.length : Int))), (7, v2), (13, (.int .i64 x2))] φ' := hs1
  have S_3 : Sep [] h0.size hp2 [ownO (kF .f32) 29 v2 x1, ownO (kF .f32) 29 (.slice none 0 0) ([] : List (Option Nat))] := S_3
  have ho1 : impl_both__impl_AddFields_1.s0 a0 a1 x1 x2 = some o1 := ho1
  unfold impl_both__impl_AddFields_1.s0 at ho1
  refine W.sub hs1 ?_
  refine W.seq ?_
  refine W.region ?_
  refine RL.opD (by decide) (opv_icmp rfl rfl rfl rfl) ?_
  refine RL.nil ?_
  refine thnN ?_
  refine W.seq ?_
  by_cases c1 : (decide (x2 < (a0.length : Int))) = true
  ·rw [if_pos c1] at ho1
   refine W.condT rfl c1 ?_
   refine W.skip ?_
   refine thnN ?_
   refine W.seq ?_
   refine W.block ?_
   refine W.seq ?_
   refine W.region ?_
   refine RL.opD (by decide) (opv_move rfl rfl) ?_
   obtain ⟨x6, hx6, ho1⟩ := Option.bind_eq_some_iff.1 ho1
   refine RL.op _ (by decide) (opv_index rfl Try.underlying25 (by rw [Try.size29]; rfl) rfl rfl (SL.mod g0 X_2 (Nat.le_refl _) nob) hx6) ?_
   rintro v4 _ ⟨fv4, rfl⟩
   refine RL.opF (by decide) (opv_loadF rfl Try.one29 rfl fv4 (SL.mod g0 X_2 (Nat.le_refl _) nob) hx6) ?_
   intro v5 fv5
   refine RL.opD (by decide) (opv_assign rfl rfl) ?_
   refine RL.opD (by decide) (opv_assign rfl rfl) ?_
   refine RL.nil ?_
   refine thnN ?_
   refine W.region ?_
   refine RL.opD (by decide) (opv_move rfl rfl) ?_
   refine RL.opD (by decide) (opv_move rfl rfl) ?_
   refine RL.opD (by decide) (opv_move rfl rfl) ?_
   refine RL.opD (by decide) (opv_move rfl rfl) ?_
   refine RL.opD (by decide) (opv_move rfl rfl) ?_
   obtain ⟨x7, hx7, ho1⟩ := Option.bind_eq_some_iff.1 ho1
   refine RL.op _ (by decide) (opv_index rfl Try.underlying25 (by rw [Try.size29]; rfl) rfl rfl (SL.mod g1 X_2 (Nat.le_refl _) nob) hx7) ?_
   rintro v6 _ ⟨fv6, rfl⟩
   refine RL.opF (by decide) (opv_loadF rfl Try.one29 rfl fv6 (SL.mod g1 X_2 (Nat.le_refl _) nob) hx7) ?_
   intro v7 fv7
   obtain ⟨x8, hx8, ho1⟩ := Option.bind_eq_some_iff.1 ho1
   refine RL.op _ (by decide) (opv_call (cap := []) (impl_AddFields_1_ok _ _ _ fv5 _ _ fv7 _ hx8) rfl rfl ⟨rfl, rfl, trivial⟩ Try.func80 rfl rfl) ?_
   rintro v8 _ ⟨fv8, rfl⟩
   refine RL.op _ (by decide) (opS_lit1 (K := (kF .f32)) (z := x8) rfl Try.underlying25 Try.einfo29 rfl rfl rfl rfl ⟨_, rfl, fv8⟩) ?_
   rintro v9 hp3 ⟨MT_2, T_2⟩
   obtain ⟨X_3, S_4⟩ := Sep.turn0 X_2 S_3 MT_2 T_2
   obtain ⟨c2, ho1⟩ := of_ite ho1
   refine RL.op _ (by decide) (opS_append (K := (kF .f32)) rfl Try.underlying25 Try.einfo29 rfl rfl rfl rfl (Sep.at (o := ownO (kF .f32) 29 v2 x1) S_4 1 rfl) (ownO.read (Sep.at (o := ownO (kF .f32) 29 v9 [x8]) S_4 0 rfl)) (by decide) (by decide) c2) ?_
   rintro v10 hp4 ⟨MT_3, T_3⟩
   have S_5 : Sep [] h0.size hp3 ([ownO (kF .f32) 29 v2 x1] ++ [ownO (kF .f32) 29 v9 [x8], ownO (kF .f32) 29 (.slice none 0 0) ([] : List (Option Nat))]) := Sep.sel S_4 [1, 0, 2] (by decide)
   obtain ⟨X_4, S_6⟩ := Sep.turn X_3 S_5 MT_3 T_3
   refine RL.opD (by decide) (opv_assign rfl rfl) ?_
   refine RL.nil ?_
   refine blkN ?_
   refine thnN ?_
   refine W.region ?_
   refine RL.opD (by decide) (opv_add rfl rfl rfl) ?_
   refine RL.opD (by decide) (opv_move rfl rfl) ?_
   refine RL.nil ?_
   have eo1 := Option.some.inj ho1
   subst eo1
   refine rndN (s' := (x1 ++ [x8], IntKind.wrap .i64 (x2 + 1))) rfl ?_
   exact ⟨v10, ⟨rfl, rfl, rfl, rfl, rfl, rfl, rfl, rfl, trivial⟩, X_4, (Sep.sel S_6 [0, 2] (by decide))⟩
  ·rw [if_neg c1] at ho1
   have c1 := eq_false_of_ne_true c1
   refine W.condF rfl c1 ?_
   refine W.exit ?_
   refine thnX ?_
   refine rndX ?_
   refine blkI ?_
   have eo1 := Option.some.inj ho1
   subst eo1
   have ey1 := hy1 _ rfl
   subst ey1
   refine onlyN ?_
   exact ⟨x2, decide (x2 < (a0.length : Int)), x1, v2, rfl, ⟨rfl, rfl, rfl, rfl, rfl, rfl, rfl, rfl, rfl, trivial⟩, X_2, (Sep.sel S_3 [1, 0] (by decide))⟩
 rintro φ' hp5 ⟨x3, x4, x5, v3, rfl, hs2, X_5, S_7⟩
 try dsimp only at hp
 refine thnN ?_
 refine W.sub hs2 ?_
 refine W.seq ?_
 refine W.region ?_
 refine RL.opD (by decide) (opv_move rfl rfl) ?_
 refine RL.opD (by decide) (opv_assign rfl rfl) ?_
 refine RL.nil ?_
 refine thnN ?_
 refine W.ret ?_
 have er := Option.some.inj hp
 subst er
 exact Rt.one rfl rfl ⟨X_5, (Sep.sel S_7 [1] (by decide))⟩

set_option maxRecDepth 20000 in
theorem impl_AddFields_ok (h0 : Heap) (a0_0 : Int) (a0_1 : Int) (a0_2 : Bool) (u0_3 : Value) (a0_3 : List (Option Nat)) (g0_3 : SL (kF .f32) h0.size h0 u0_3 a0_3) (u0_4 : Value) (a0_4 : List (Option Nat)) (g0_4 : SL (kF .f32) h0.size h0 u0_4 a0_4) (u1_0 : Value) (a1_0 : List (Option Nat)) (g1_0 : SL (kF .f32) h0.size h0 u1_0 a1_0) (u1_1 : Value) (a1_1 : List (Option Nat)) (g1_1 : SL (kF .f32) h0.size h0 u1_1 a1_1) (u1_2 : Value) (a1_2 : List (Option Nat)) (g1_2 : SL (kF .f32) h0.size h0 u1_2 a1_2) (u2_0 : Value) (a2_0 : List (Option Nat)) (g2_0 : SL (kF .f32) h0.size h0 u2_0 a2_0) (u2_1 : Value) (a2_1 : List (Option Nat)) (g2_1 : SL (kF .f32) h0.size h0 u2_1 a2_1) (u2_2 : Value) (a2_2 : List (Option Nat)) (g2_2 : SL (kF .f32) h0.size h0 u2_2 a2_2) (r : ((List (Option Nat)) × (List (Option Nat)) × (List (Option Nat)) × Bool)) (hp : impl_AddFields a0_0 a0_1 a0_2 a0_3 a0_4 a1_0 a1_1 a1_2 a2_0 a2_1 a2_2 = some r) : CallsH Try.prog 20 ([(.agg (List.toArray (α := Value) [(.int .i64 a0_0), (.int .i64 a0_1), (.bool a0_2), u0_3, u0_4])), (.agg (List.toArray (α := Value) [u1_0, u1_1, u1_2])), (.agg (List.toArray (α := Value) [u2_0, u2_1, u2_2]))].toArray ++ [].toArray) h0 (fun v h' => ∃ w0, ∃ w1, ∃ w2, v = (.tuple (List.toArray (α := Value) [(.agg (List.toArray (α := Value) [w0, w1, w2])), (.bool r.2.2.2)])) ∧ Mod [] h0 h' ∧ Sep [] h0.size h' [ownO (kF .f32) 29 w0 r.1, ownO (kF .f32) 29 w1 r.2.1, ownO (kF .f32) 29 w2 r.2.2.1]) := by
 unfold impl_AddFields at hp
 refine callsH_of_W (l := [(.agg (List.toArray (α := Value) [(.int .i64 a0_0), (.int .i64 a0_1), (.bool a0_2), u0_3, u0_4])), (.agg (List.toArray (α := Value) [u1_0, u1_1, u1_2])), (.agg (List.toArray (α := Value) [u2_0, u2_1, u2_2]))]) (cap := []) 43 Try.func20 rfl rfl rfl ?_
 refine W.seq ?_
 refine W.region ?_
 refine RL.op _ (by decide) (opS_boxed (opv_boxA (cs := [(.int .i64 a0_0), (.int .i64 a0_1), (.bool a0_2), u0_3, u0_4]) rfl rfl)) ?_
 rintro _ hp1 ⟨bb1, rfl, MT_1, T_1⟩
 obtain ⟨X_1, S_1⟩ := Sep.turn0 (Mod.refl [] h0) (Sep.nil [] h0.size h0) MT_1 T_1
 refine RL.op _ (by decide) (opS_boxed (opv_boxA (cs := [u1_0, u1_1, u1_2]) rfl rfl)) ?_
 rintro _ hp2 ⟨bb2, rfl, MT_2, T_2⟩
 obtain ⟨X_2, S_2⟩ := Sep.turn0 X_1 S_1 MT_2 T_2
 refine RL.op _ (by decide) (opS_boxed (opv_boxA (cs := [u2_0, u2_1, u2_2]) rfl rfl)) ?_
 rintro _ hp3 ⟨bb3, rfl, MT_3, T_3⟩
 obtain ⟨X_3, S_3⟩ := Sep.turn0 X_2 S_2 MT_3 T_3
 refine RL.op _ (by decide) (opS_boxed (opv_alloc (cs := [(.slice none 0 0), (.slice none 0 0), (.slice none 0 0)]) rfl Try.zero37 rfl)) ?_
 rintro _ hp4 ⟨bb4, rfl, MT_4, T_4⟩
 obtain ⟨X_4, S_4⟩ := Sep.turn0 X_3 S_3 MT_4 T_4
 refine RL.opD (by decide) (opv_assign rfl rfl) ?_
 refine RL.nil ?_
 refine thnN ?_
 refine W.seq ?_
 refine W.seq ?_
 obtain ⟨x1, hy1, hp⟩ := Option.bind_eq_some_iff.1 hp
 refine W.cut (fun φ' h' => Fr.sub [(0, (.agg (List.toArray (α := Value) [(.int .i64 a0_0), (.int .i64 a0_1), (.bool a0_2), u0_3, u0_4]))), (1, (.agg (List.toArray (α := Value) [u1_0, u1_1, u1_2]))), (2, (.agg (List.toArray (α := Value) [u2_0, u2_1, u2_2]))), (3, (.pointer (some ⟨bb1, 0, none⟩))), (4, (.pointer (some ⟨bb2, 0, none⟩))), (5, (.pointer (some ⟨bb3, 0, none⟩))), (6, (.pointer (some ⟨bb4, 0, none⟩))), (7, (.bool false)), (18, (.bool x1))] φ' ∧ Mod [] h0 h' ∧ Sep [] h0.size h' [boxO bb4 [(.slice none 0 0), (.slice none 0 0), (.slice none 0 0)], boxO bb3 [u2_0, u2_1, u2_2], boxO bb2 [u1_0, u1_1, u1_2], boxO bb1 [(.int .i64 a0_0), (.int .i64 a0_1), (.bool a0_2), u0_3, u0_4]]) ?_ ?_
 ·refine W.region ?_
  refine RL.opD (by decide) (opv_loadA (us := [(.int .i64 a0_0), (.int .i64 a0_1), (.bool a0_2), u0_3, u0_4]) rfl Try.agg33 Try.size33 rfl (Sep.at (o := boxO bb1 [(.int .i64 a0_0), (.int .i64 a0_1), (.bool a0_2), u0_3, u0_4]) S_4 3 rfl) rfl rfl) ?_
  refine RL.opD (by decide) (opv_loadA (us := [u1_0, u1_1, u1_2]) rfl Try.agg37 Try.size37 rfl (Sep.at (o := boxO bb2 [u1_0, u1_1, u1_2]) S_4 2 rfl) rfl rfl) ?_
  obtain ⟨x2, hx2, hy1⟩ := Option.bind_eq_some_iff.1 hy1
  refine RL.op _ (by decide) (opv_call (cap := []) (impl_IsField_ok _ _ _ _ _ _ (SL.up (SL.mod g0_3 X_4 (Nat.le_refl _) nob) (Nat.le_trans (Nat.le_refl _) (Mod.size X_4))) _ _ (SL.up (SL.mod g0_4 X_4 (Nat.le_refl _) nob) (Nat.le_trans (Nat.le_refl _) (Mod.size X_4))) _ _ (SL.up (SL.mod g1_0 X_4 (Nat.le_refl _) nob) (Nat.le_trans (Nat.le_refl _) (Mod.size X_4))) _ _ (SL.up (SL.mod g1_1 X_4 (Nat.le_refl _) nob) (Nat.le_trans (Nat.le_refl _) (Mod.size X_4))) _ _ (SL.up (SL.mod g1_2 X_4 (Nat.le_refl _) nob) (Nat.le_trans (Nat.le_refl _) (Mod.size X_4))) _ hx2) rfl rfl ⟨rfl, rfl, trivial⟩ Try.func46 rfl rfl) ?_
  rintro _ hp5 ⟨rfl, MT_5, T_5⟩
  obtain ⟨X_5, S_5⟩ := Sep.turn0 X_4 S_4 MT_5 T_5
  refine RL.opD (by decide) (opv_not rfl rfl) ?_
  refine RL.opD (by decide) (opv_move rfl rfl) ?_
  by_cases c1 : (!x2) = true
  ·rw [if_pos c1] at hy1
   refine RL.noT rfl rfl c1 (by decide) ?_
   refine RL.noT rfl rfl c1 (by decide) ?_
   refine RL.noT rfl rfl c1 (by decide) ?_
   refine RL.noT rfl rfl c1 (by decide) ?_
   refine RL.opD (by decide) (opv_pick rfl rfl (fun _ => rfl) (fun e => absurd (Eq.trans (Eq.symm e) c1) (by decide)) rfl) ?_
   refine RL.nil ?_
   have ey1 := Option.some.inj hy1
   subst ey1
   refine onlyN ?_
   exact ⟨⟨rfl, rfl, rfl, rfl, rfl, rfl, rfl, rfl, rfl, trivial⟩, X_5, (Sep.sel S_5 [0, 1, 2, 3] (by decide))⟩
  ·rw [if_neg c1] at hy1
   have c1 := eq_false_of_ne_true c1
   refine RL.yesD rfl rfl c1 (by decide) (opv_loadA (us := [(.int .i64 a0_0), (.int .i64 a0_1), (.bool a0_2), u0_3, u0_4]) rfl Try.agg33 Try.size33 rfl (Sep.at (o := boxO bb1 [(.int .i64 a0_0), (.int .i64 a0_1), (.bool a0_2), u0_3, u0_4]) S_5 3 rfl) rfl rfl) ?_
   refine RL.yesD rfl rfl c1 (by decide) (opv_loadA (us := [u2_0, u2_1, u2_2]) rfl Try.agg37 Try.size37 rfl (Sep.at (o := boxO bb3 [u2_0, u2_1, u2_2]) S_5 1 rfl) rfl rfl) ?_
   obtain ⟨x3, hx3, hy1⟩ := Option.bind_eq_some_iff.1 hy1
   refine RL.yes _ rfl rfl c1 (by decide) (opv_call (cap := []) (impl_IsField_ok _ _ _ _ _ _ (SL.up (SL.mod g0_3 X_5 (Nat.le_refl _) nob) (Nat.le_trans (Nat.le_refl _) (Mod.size X_5))) _ _ (SL.up (SL.mod g0_4 X_5 (Nat.le_refl _) nob) (Nat.le_trans (Nat.le_refl _) (Mod.size X_5))) _ _ (SL.up (SL.mod g2_0 X_5 (Nat.le_refl _) nob) (Nat.le_trans (Nat.le_refl _) (Mod.size X_5))) _ _ (SL.up (SL.mod g2_1 X_5 (Nat.le_refl _) nob) (Nat.le_trans (Nat.le_refl _) (Mod.size X_5))) _ _ (SL.up (SL.mod g2_2 X_5 (Nat.le_refl _) nob) (Nat.le_trans (Nat.le_refl _) (Mod.size X_5))) _ hx3) rfl rfl ⟨rfl, rfl, trivial⟩ Try.func46 rfl rfl) ?_
   rintro _ hp6 ⟨rfl, MT_6, T_6⟩
   obtain ⟨X_6, S_6⟩ := Sep.turn0 X_5 S_5 MT_6 T_6
   refine RL.yesD rfl rfl c1 (by decide) (opv_not rfl rfl) ?_
   refine RL.opD (by decide) (opv_pick rfl rfl (fun e => absurd (Eq.trans (Eq.symm e) c1) (by decide)) (fun _ => rfl) rfl) ?_
   refine RL.nil ?_
   have ey1 := Option.some.inj hy1
   subst ey1
   refine onlyN ?_
   exact ⟨⟨rfl, rfl, rfl, rfl, rfl, rfl, rfl, rfl, rfl, trivial⟩, X_6, (Sep.sel S_6 [0, 1, 2, 3] (by decide))⟩
 rintro φ' hp7 ⟨hs1, X_7, S_7⟩
 refine thnN ?_
 refine W.sub hs1 ?_
 by_cases c2 : x1 = true
 ·rw [if_pos c2] at hp
  refine W.condT rfl c2 ?_
  refine W.seq ?_
  refine W.region ?_
  refine RL.opD (by decide) (opv_build (cs := [(.slice none 0 0), (.slice none 0 0), (.slice none 0 0)]) [] [] rfl Try.bd37 trivial rfl) ?_
  refine RL.op0 _ (opS_stored (cs := [(.slice none 0 0), (.slice none 0 0), (.slice none 0 0)]) (cs' := [(.slice none 0 0), (.slice none 0 0), (.slice none 0 0)]) (opv_storeA (us := [(.slice none 0 0), (.slice none 0 0), (.slice none 0 0)]) rfl Try.size37 rfl rfl (oneAll rfl (oneAll rfl (oneAll rfl rfl))) (Sep.at (o := boxO bb4 [(.slice none 0 0), (.slice none 0 0), (.slice none 0 0)]) S_7 0 rfl) rfl rfl) (Sep.at (o := boxO bb4 [(.slice none 0 0), (.slice none 0 0), (.slice none 0 0)]) S_7 0 rfl)) ?_
  rintro _ hp8 ⟨rfl, MT_7, T_7⟩
  have S_8 : Sep [] h0.size hp7 ([boxO bb4 [(.slice none 0 0), (.slice none 0 0), (.slice none 0 0)]] ++ [boxO bb3 [u2_0, u2_1, u2_2], boxO bb2 [u1_0, u1_1, u1_2], boxO bb1 [(.int .i64 a0_0), (.int .i64 a0_1), (.bool a0_2), u0_3, u0_4]]) := Sep.sel S_7 [0, 1, 2, 3] (by decide)
  obtain ⟨X_8, S_9⟩ := Sep.turn X_7 S_8 MT_7 T_7
  refine RL.opD (by decide) (opv_assign rfl rfl) ?_
  refine RL.nil ?_
  refine thnN ?_
  refine W.ret ?_
  refine thnR ?_
  have S_10 : Sep [] h0.size hp8 [ownO (kF .f32) 29 (.slice none 0 0) ([] : List (Option Nat)), boxO bb4 [(.slice none 0 0), (.slice none 0 0), (.slice none 0 0)], boxO bb3 [u2_0, u2_1, u2_2], boxO bb2 [u1_0, u1_1, u1_2], boxO bb1 [(.int .i64 a0_0), (.int .i64 a0_1), (.bool a0_2), u0_3, u0_4]] := Sep.addNil S_9
  have S_11 : Sep [] h0.size hp8 [ownO (kF .f32) 29 (.slice none 0 0) ([] : List (Option Nat)), ownO (kF .f32) 29 (.slice none 0 0) ([] : List (Option Nat)), boxO bb4 [(.slice none 0 0), (.slice none 0 0), (.slice none 0 0)], boxO bb3 [u2_0, u2_1, u2_2], boxO bb2 [u1_0, u1_1, u1_2], boxO bb1 [(.int .i64 a0_0), (.int .i64 a0_1), (.bool a0_2), u0_3, u0_4]] := Sep.addNil S_10
  have S_12 : Sep [] h0.size hp8 [ownO (kF .f32) 29 (.slice none 0 0) ([] : List (Option Nat)), ownO (kF .f32) 29 (.slice none 0 0) ([] : List (Option Nat)), ownO (kF .f32) 29 (.slice none 0 0) ([] : List (Option Nat)), boxO bb4 [(.slice none 0 0), (.slice none 0 0), (.slice none 0 0)], boxO bb3 [u2_0, u2_1, u2_2], boxO bb2 [u1_0, u1_1, u1_2], boxO bb1 [(.int .i64 a0_0), (.int .i64 a0_1), (.bool a0_2), u0_3, u0_4]] := Sep.addNil S_11
  have er := Option.some.inj hp
  subst er
  exact Rt.cellA rfl rfl rfl Try.agg37 Try.size37 (Sep.at (o := boxO bb4 [(.slice none 0 0), (.slice none 0 0), (.slice none 0 0)]) S_12 3 rfl) rfl ⟨(.slice none 0 0), (.slice none 0 0), (.slice none 0 0), rfl, X_8, (Sep.sel S_12 [2, 1, 0] (by decide))⟩
 ·rw [if_neg c2] at hp
  have c2 := eq_false_of_ne_true c2
  refine W.condF rfl c2 ?_
  refine W.skip ?_
  refine thnN ?_
  refine W.seq ?_
  refine W.region ?_
  refine RL.opD (by decide) (opv_assign rfl rfl) ?_
  refine RL.nil ?_
  refine thnN ?_
  refine W.seq ?_
  obtain ⟨x4, hx4, hp⟩ := Option.bind_eq_some_iff.1 hp
  obtain ⟨x5, hx5, hp⟩ := Option.bind_eq_some_iff.1 hp
  obtain ⟨x6, hx6, hp⟩ := Option.bind_eq_some_iff.1 hp
  obtain ⟨x7, hx7, hp⟩ := Option.bind_eq_some_iff.1 hp
  refine W.sub (ψ := [(0, (.agg (List.toArray (α := Value) [(.int .i64 a0_0), (.int .i64 a0_1), (.bool a0_2), u0_3, u0_4]))), (1, (.agg (List.toArray (α := Value) [u1_0, u1_1, u1_2]))), (2, (.agg (List.toArray (α := Value) [u2_0, u2_1, u2_2]))), (3, (.pointer (some ⟨bb1, 0, none⟩))), (4, (.pointer (some ⟨bb2, 0, none⟩))), (5, (.pointer (some ⟨bb3, 0, none⟩))), (6, (.pointer (some ⟨bb4, 0, none⟩))), (7, (.bool false)), (18, (.bool x1)), (8, (.func (.func 80) #[] (List.toArray (α := Value) [])))]) ⟨rfl, rfl, rfl, rfl, rfl, rfl, rfl, rfl, rfl, rfl, trivial⟩ ?_
  refine W.regionT 25 (fun h' => Bx h' bb1 [(.int .i64 a0_0), (.int .i64 a0_1), (.bool a0_2), u0_3, u0_4] ∧ Bx h' bb2 [u1_0, u1_1, u1_2] ∧ Bx h' bb3 [u2_0, u2_1, u2_2] ∧ True) rfl Try.mixed ⟨(Sep.at (o := boxO bb1 [(.int .i64 a0_0), (.int .i64 a0_1), (.bool a0_2), u0_3, u0_4]) S_7 3 rfl), (Sep.at (o := boxO bb2 [u1_0, u1_1, u1_2]) S_7 2 rfl), (Sep.at (o := boxO bb3 [u2_0, u2_1, u2_2]) S_7 1 rfl), trivial⟩ ?_
  refine TK.take 0 rfl rfl rfl (by decide) (by decide +kernel) (fun _ _ _ h => h) (fun h' S_ => opx_loadA (us := [(.int .i64 a0_0), (.int .i64 a0_1), (.bool a0_2), u0_3, u0_4]) rfl Try.agg33 Try.size33 rfl S_.1 rfl rfl) ?_
  refine TK.take 1 rfl rfl rfl (by decide) (by decide +kernel) (fun _ _ _ h => h) (fun h' S_ => opx_fieldAddr rfl Try.fo37_0 rfl) ?_
  refine TK.take 2 rfl rfl rfl (by decide) (by decide +kernel) (fun _ _ _ h => h) (fun h' S_ => opx_loadB rfl Try.one25 rfl S_.2.1 rfl) ?_
  refine TK.take 3 rfl rfl rfl (by decide) (by decide +kernel) (fun _ _ _ h => h) (fun h' S_ => opx_fieldAddr rfl Try.fo37_0 rfl) ?_
  refine TK.take 4 rfl rfl rfl (by decide) (by decide +kernel) (fun _ _ _ h => h) (fun h' S_ => opx_loadB rfl Try.one25 rfl S_.2.2.1 rfl) ?_
  refine TK.take 5 rfl rfl rfl (by decide) (by decide +kernel) (fun _ _ _ h => h) (fun h' S_ => opx_move rfl rfl) ?_
  refine TK.take 7 rfl rfl rfl (by decide) (by decide +kernel) (fun _ _ _ h => h) (fun h' S_ => opx_fieldAddr rfl Try.fo37_1 rfl) ?_
  refine TK.take 8 rfl rfl rfl (by decide) (by decide +kernel) (fun _ _ _ h => h) (fun h' S_ => opx_loadB rfl Try.one25 rfl S_.2.1 rfl) ?_
  refine TK.take 9 rfl rfl rfl (by decide) (by decide +kernel) (fun _ _ _ h => h) (fun h' S_ => opx_fieldAddr rfl Try.fo37_1 rfl) ?_
  refine TK.take 10 rfl rfl rfl (by decide) (by decide +kernel) (fun _ _ _ h => h) (fun h' S_ => opx_loadB rfl Try.one25 rfl S_.2.2.1 rfl) ?_
  refine TK.take 11 rfl rfl rfl (by decide) (by decide +kernel) (fun _ _ _ h => h) (fun h' S_ => opx_move rfl rfl) ?_
  refine TK.take 13 rfl rfl rfl (by decide) (by decide +kernel) (fun _ _ _ h => h) (fun h' S_ => opx_fieldAddr rfl Try.fo37_2 rfl) ?_
  refine TK.take 14 rfl rfl rfl (by decide) (by decide +kernel) (fun _ _ _ h => h) (fun h' S_ => opx_loadB rfl Try.one25 rfl S_.2.1 rfl) ?_
  refine TK.take 15 rfl rfl rfl (by decide) (by decide +kernel) (fun _ _ _ h => h) (fun h' S_ => opx_fieldAddr rfl Try.fo37_2 rfl) ?_
  refine TK.take 16 rfl rfl rfl (by decide) (by decide +kernel) (fun _ _ _ h => h) (fun h' S_ => opx_loadB rfl Try.one25 rfl S_.2.2.1 rfl) ?_
  refine TK.take 17 rfl rfl rfl (by decide) (by decide +kernel) (fun _ _ _ h => h) (fun h' S_ => opx_move rfl rfl) ?_
  refine TK.stepD 6 _ rfl rfl rfl (by decide) (by decide +kernel) (opv_call (cap := []) (impl_both__impl_AddFields_1_ok _ _ _ (SL.up (SL.mod g1_0 X_7 (Nat.le_refl _) nob) (Nat.le_trans (Nat.le_refl _) (Mod.size X_7))) _ _ (SL.up (SL.mod g2_0 X_7 (Nat.le_refl _) nob) (Nat.le_trans (Nat.le_refl _) (Mod.size X_7))) _ hx4) rfl rfl ⟨rfl, rfl, rfl, trivial⟩ Try.func81 rfl rfl) ?_
  rintro v10 hp33 ⟨MT_13, T_13⟩
  obtain ⟨X_14, S_22⟩ := Sep.turn0 X_7 S_7 MT_13 T_13
  refine ⟨⟨(Sep.at (o := boxO bb1 [(.int .i64 a0_0), (.int .i64 a0_1), (.bool a0_2), u0_3, u0_4]) S_22 4 rfl), (Sep.at (o := boxO bb2 [u1_0, u1_1, u1_2]) S_22 3 rfl), (Sep.at (o := boxO bb3 [u2_0, u2_1, u2_2]) S_22 2 rfl), trivial⟩, ?_⟩
  refine TK.stepD 12 _ rfl rfl rfl (by decide) (by decide +kernel) (opv_call (cap := []) (impl_both__impl_AddFields_1_ok _ _ _ (SL.up (SL.mod g1_1 X_14 (Nat.le_refl _) nob) (Nat.le_trans (Nat.le_refl _) (Mod.size X_14))) _ _ (SL.up (SL.mod g2_1 X_14 (Nat.le_refl _) nob) (Nat.le_trans (Nat.le_refl _) (Mod.size X_14))) _ hx5) rfl rfl ⟨rfl, rfl, rfl, trivial⟩ Try.func81 rfl rfl) ?_
  rintro v11 hp34 ⟨MT_14, T_14⟩
  obtain ⟨X_15, S_23⟩ := Sep.turn0 X_14 S_22 MT_14 T_14
  refine ⟨⟨(Sep.at (o := boxO bb1 [(.int .i64 a0_0), (.int .i64 a0_1), (.bool a0_2), u0_3, u0_4]) S_23 5 rfl), (Sep.at (o := boxO bb2 [u1_0, u1_1, u1_2]) S_23 4 rfl), (Sep.at (o := boxO bb3 [u2_0, u2_1, u2_2]) S_23 3 rfl), trivial⟩, ?_⟩
  refine TK.stepD 18 _ rfl rfl rfl (by decide) (by decide +kernel) (opv_call (cap := []) (impl_both__impl_AddFields_1_ok _ _ _ (SL.up (SL.mod g1_2 X_15 (Nat.le_refl _) nob) (Nat.le_trans (Nat.le_refl _) (Mod.size X_15))) _ _ (SL.up (SL.mod g2_2 X_15 (Nat.le_refl _) nob) (Nat.le_trans (Nat.le_refl _) (Mod.size X_15))) _ hx6) rfl rfl ⟨rfl, rfl, rfl, trivial⟩ Try.func81 rfl rfl) ?_
  rintro v12 hp35 ⟨MT_15, T_15⟩
  obtain ⟨X_16, S_24⟩ := Sep.turn0 X_15 S_23 MT_15 T_15
  refine ⟨⟨(Sep.at (o := boxO bb1 [(.int .i64 a0_0), (.int .i64 a0_1), (.bool a0_2), u0_3, u0_4]) S_24 6 rfl), (Sep.at (o := boxO bb2 [u1_0, u1_1, u1_2]) S_24 5 rfl), (Sep.at (o := boxO bb3 [u2_0, u2_1, u2_2]) S_24 4 rfl), trivial⟩, ?_⟩
  refine TK.stepD 19 _ rfl rfl rfl (by decide) (by decide +kernel) (opv_build (cs := [v10, v11, v12]) [(0, [v10]), (1, [v11]), (2, [v12])] [(0, v10), (1, v11), (2, v12)] rfl Try.bd37 ⟨⟨rfl, rfl, rfl, cells1 (ownO.one (Sep.at (o := ownO (kF .f32) 29 v10 x4) S_24 2 rfl))⟩, ⟨rfl, rfl, rfl, cells1 (ownO.one (Sep.at (o := ownO (kF .f32) 29 v11 x5) S_24 1 rfl))⟩, ⟨rfl, rfl, rfl, cells1 (ownO.one (Sep.at (o := ownO (kF .f32) 29 v12 x6) S_24 0 rfl))⟩, trivial⟩ rfl) ?_
  rintro _ _ ⟨rfl, rfl⟩
  refine ⟨⟨(Sep.at (o := boxO bb1 [(.int .i64 a0_0), (.int .i64 a0_1), (.bool a0_2), u0_3, u0_4]) S_24 6 rfl), (Sep.at (o := boxO bb2 [u1_0, u1_1, u1_2]) S_24 5 rfl), (Sep.at (o := boxO bb3 [u2_0, u2_1, u2_2]) S_24 4 rfl), trivial⟩, ?_⟩
  have S_26 : Sep [] h0.size hp35 [ownO (kF .f32) 29 v10 x4, ownO (kF .f32) 29 v11 x5, ownO (kF .f32) 29 v12 x6] := Sep.sel S_24 [2, 1, 0] (by decide)
  have S_25 : Sep [v10.ownBlock, v11.ownBlock, v12.ownBlock] hp35.size hp35 [ownO (kF .f32) 29 v10 x4, ownO (kF .f32) 29 v11 x5, ownO (kF .f32) 29 v12 x6] := Sep.own S_26 _
  refine TK.stepD 20 _ rfl rfl rfl (by decide) (by decide +kernel) (opv_call (cap := []) (impl_validField_ok _ h0.size (Nat.le_trans (Nat.le_refl _) (Mod.size X_16)) _ _ _ _ _ (SL.mod g0_3 X_16 (Nat.le_refl _) nob) _ _ (SL.mod g0_4 X_16 (Nat.le_refl _) nob) _ _ _ _ _ _ S_25 (Sep.ge (L := [ownO (kF .f32) 29 v10 x4, ownO (kF .f32) 29 v11 x5, ownO (kF .f32) 29 v12 x6]) S_26 (Nat.le_refl _) nob) _ hx7) rfl rfl ⟨rfl, rfl, trivial⟩ Try.func79 rfl rfl) ?_
  rintro _ hp36 ⟨v13, v14, v15, rfl, MT_16, T_16⟩
  have S_27 : Sep [] h0.size hp35 ([ownO (kF .f32) 29 v10 x4, ownO (kF .f32) 29 v11 x5, ownO (kF .f32) 29 v12 x6] ++ [boxO bb4 [(.slice none 0 0), (.slice none 0 0), (.slice none 0 0)], boxO bb3 [u2_0, u2_1, u2_2], boxO bb2 [u1_0, u1_1, u1_2], boxO bb1 [(.int .i64 a0_0), (.int .i64 a0_1), (.bool a0_2), u0_3, u0_4]]) := Sep.sel S_24 [2, 1, 0, 3, 4, 5, 6] (by decide)
  obtain ⟨X_17, S_28⟩ := Sep.turn X_16 S_27 MT_16 T_16
  refine ⟨⟨(Sep.at (o := boxO bb1 [(.int .i64 a0_0), (.int .i64 a0_1), (.bool a0_2), u0_3, u0_4]) S_28 6 rfl), (Sep.at (o := boxO bb2 [u1_0, u1_1, u1_2]) S_28 5 rfl), (Sep.at (o := boxO bb3 [u2_0, u2_1, u2_2]) S_28 4 rfl), trivial⟩, ?_⟩
  refine TK.take 21 rfl rfl rfl (by decide) (by decide +kernel) (fun _ _ _ h => h) (fun h' S_ => opx_extract rfl rfl rfl) ?_
  refine TK.take 22 rfl rfl rfl (by decide) (by decide +kernel) (fun _ _ _ h => h) (fun h' S_ => opx_extract rfl rfl rfl) ?_
  refine TK.step 23 _ rfl rfl rfl (by decide +kernel) (opS_stored (cs := [(.slice none 0 0), (.slice none 0 0), (.slice none 0 0)]) (cs' := [v13, v14, v15]) (opv_storeA (us := [v13, v14, v15]) rfl Try.size37 rfl rfl (oneAll (ownO.one (Sep.at (o := ownO (kF .f32) 29 v13 x7.1) S_28 0 rfl)) (oneAll (ownO.one (Sep.at (o := ownO (kF .f32) 29 v14 x7.2.1) S_28 1 rfl)) (oneAll (ownO.one (Sep.at (o := ownO (kF .f32) 29 v15 x7.2.2.1) S_28 2 rfl)) rfl))) (Sep.at (o := boxO bb4 [(.slice none 0 0), (.slice none 0 0), (.slice none 0 0)]) S_28 3 rfl) rfl rfl) (Sep.at (o := boxO bb4 [(.slice none 0 0), (.slice none 0 0), (.slice none 0 0)]) S_28 3 rfl)) ?_
  rintro _ hp37 ⟨rfl, MT_17, T_17⟩
  have S_29 : Sep [] h0.size hp36 ([boxO bb4 [(.slice none 0 0), (.slice none 0 0), (.slice none 0 0)]] ++ [ownO (kF .f32) 29 v13 x7.1, ownO (kF .f32) 29 v14 x7.2.1, ownO (kF .f32) 29 v15 x7.2.2.1, boxO bb3 [u2_0, u2_1, u2_2], boxO bb2 [u1_0, u1_1, u1_2], boxO bb1 [(.int .i64 a0_0), (.int .i64 a0_1), (.bool a0_2), u0_3, u0_4]]) := Sep.sel S_28 [3, 0, 1, 2, 4, 5, 6] (by decide)
  obtain ⟨X_18, S_30⟩ := Sep.turn X_17 S_29 MT_17 T_17
  refine ⟨⟨(Sep.at (o := boxO bb1 [(.int .i64 a0_0), (.int .i64 a0_1), (.bool a0_2), u0_3, u0_4]) S_30 6 rfl), (Sep.at (o := boxO bb2 [u1_0, u1_1, u1_2]) S_30 5 rfl), (Sep.at (o := boxO bb3 [u2_0, u2_1, u2_2]) S_30 4 rfl), trivial⟩, ?_⟩
  refine TK.take 24 rfl rfl rfl (by decide) (by decide +kernel) (fun _ _ _ h => h) (fun h' S_ => opx_assign rfl rfl) ?_
  refine TK.done (by decide +kernel) ?_
  refine thnN ?_
  refine W.ret ?_
  have er := Option.some.inj hp
  subst er
  exact Rt.cellA rfl rfl rfl Try.agg37 Try.size37 (Sep.at (o := boxO bb4 [v13, v14, v15]) S_30 0 rfl) rfl ⟨v13, v14, v15, rfl, X_18, (Sep.sel S_30 [1, 2, 3] (by decide))⟩

set_option maxRecDepth 20000 in
theorem laws_r8Gap_ok (h0 : Heap) (u0 : Value) (a0 : Option Nat) (g0 : IsF .f64 u0 a0) (u1 : Value) (a1 : Option Nat) (g1 : IsF .f64 u1 a1) (r : Option Nat) (hp : laws_r8Gap a0 a1 = some r) : CallsH Try.prog 21 ([u0, u1].toArray ++ [].toArray) h0 (fun v h' => IsF .f64 v r ∧ h0 = h') := by
 unfold laws_r8Gap at hp
 refine callsH_of_W (l := [u0, u1]) (cap := []) 12 Try.func21 rfl rfl rfl ?_
 refine W.seq ?_
 refine W.region ?_
 refine RL.opD (by decide) (opv_assign rfl rfl) ?_
 refine RL.nil ?_
 refine thnN ?_
 refine W.seq ?_
 refine W.region ?_
 refine RL.opD (by decide) (opv_move rfl rfl) ?_
 refine RL.opD (by decide) (opv_move rfl rfl) ?_
 refine RL.opF (by decide) (opv_fop rfl rfl rfl rfl g0 g1) ?_
 intro v1 fv1
 refine RL.opD (by decide) (opv_move rfl rfl) ?_
 refine RL.opD (by decide) (opv_move rfl rfl) ?_
 refine RL.opF (by decide) (opv_fop rfl rfl rfl rfl g1 g0) ?_
 intro v2 fv2
 refine RL.opF (by decide) (opv_fmax rfl rfl rfl fv1 fv2) ?_
 intro v3 fv3
 refine RL.opD (by decide) (opv_assign rfl rfl) ?_
 refine RL.nil ?_
 refine thnN ?_
 refine W.ret ?_
 have er := Option.some.inj hp
 subst er
 exact Rt.one rfl rfl ⟨fv3, rfl⟩

set_option maxHeartbeats 4000000 in
set_option maxRecDepth 20000 in
theorem laws_FnShares_ok (h0 : Heap) (u0 : Value) (a0 : List (Int)) (g0 : SL (kI .u8) h0.size h0 u0 a0) (u1 : Value) (a1 : List (Int)) (g1 : SL (kI .u8) h0.size h0 u1 a1) (r : Bool) (hp : laws_FnShares a0 a1 = some r) : CallsH Try.prog 4 ([u0, u1].toArray ++ [].toArray) h0 (fun v h' => v = (.bool r) ∧ Mod [] h0 h' ∧ Sep [] h0.size h' []) := by
 unfold laws_FnShares at hp
 refine callsH_of_W (l := [u0, u1]) (cap := []) 213 Try.func4 rfl rfl rfl ?_
 refine W.seq ?_
 refine W.region ?_
 refine RL.opD (by decide) (opv_assign rfl rfl) ?_
 refine RL.nil ?_
 refine thnN ?_
 refine W.seq ?_
 refine W.seq ?_
 refine W.region ?_
 refine RL.opD (by decide) (opv_move rfl rfl) ?_
 refine RL.opD (by decide) (opv_move rfl rfl) ?_
 obtain ⟨x1, hx1, hp⟩ := Option.bind_eq_some_iff.1 hp
 refine RL.op _ (by decide) (opv_call (cap := []) (laws_r8Long_ok _ _ _ g0 _ _ g1 _ hx1) rfl rfl ⟨rfl, rfl, trivial⟩ Try.func11 rfl rfl) ?_
 rintro _ _ ⟨rfl, rfl⟩
 refine RL.nil ?_
 refine thnN ?_
 by_cases c1 : x1 = true
 ·rw [if_pos c1] at hp
  refine W.condT rfl c1 ?_
  refine W.seq ?_
  refine W.region ?_
  refine RL.opD (by decide) (opv_assign rfl rfl) ?_
  refine RL.nil ?_
  refine thnN ?_
  refine W.ret ?_
  refine thnR ?_
  have er := Option.some.inj hp
  subst er
  exact Rt.one rfl rfl ⟨rfl, (Mod.refl [] h0), (Sep.nil _ _ _)⟩
 ·rw [if_neg c1] at hp
  have c1 := eq_false_of_ne_true c1
  refine W.condF rfl c1 ?_
  refine W.skip ?_
  refine thnN ?_
  refine W.seq ?_
  refine W.region ?_
  refine RL.opD (by decide) (opv_move rfl rfl) ?_
  obtain ⟨x2, hx2, hp⟩ := Option.bind_eq_some_iff.1 hp
  refine RL.op _ (by decide) (opv_call (cap := []) (laws_r8At_ok _ _ _ g0 _ _ _ hx2) rfl rfl ⟨rfl, rfl, rfl, trivial⟩ Try.func12 rfl rfl) ?_
  rintro _ _ ⟨rfl, rfl⟩
  refine RL.opD (by decide) (opv_add rfl rfl rfl) ?_
  refine RL.opD (by decide) (opv_assign rfl rfl) ?_
  refine RL.nil ?_
  refine thnN ?_
  refine W.seq ?_
  refine W.region ?_
  refine RL.opD (by decide) (opv_move rfl rfl) ?_
  obtain ⟨x3, hx3, hp⟩ := Option.bind_eq_some_iff.1 hp
  refine RL.op _ (by decide) (opv_call (cap := []) (laws_r8At_ok _ _ _ g0 _ _ _ hx3) rfl rfl ⟨rfl, rfl, rfl, trivial⟩ Try.func12 rfl rfl) ?_
  rintro _ _ ⟨rfl, rfl⟩
  refine RL.opD (by decide) (opv_add rfl rfl rfl) ?_
  refine RL.opD (by decide) (opv_assign rfl rfl) ?_
  refine RL.nil ?_
  refine thnN ?_
  refine W.seq ?_
  refine W.region ?_
  refine RL.opD (by decide) (opv_move rfl rfl) ?_
  refine RL.opD (by decide) (opv_move rfl rfl) ?_
  refine RL.opD (by decide) (opv_sub rfl rfl rfl) ?_
  obtain ⟨x4, hx4, hp⟩ := Option.bind_eq_some_iff.1 hp
  refine RL.op _ (by decide) (opv_call (cap := []) (laws_r8At_ok _ _ _ g0 _ _ _ hx4) rfl rfl ⟨rfl, rfl, rfl, trivial⟩ Try.func12 rfl rfl) ?_
  rintro _ _ ⟨rfl, rfl⟩
  refine RL.opD (by decide) (opv_add rfl rfl rfl) ?_
  refine RL.opD (by decide) (opv_assign rfl rfl) ?_
  refine RL.nil ?_
  refine thnN ?_
  refine W.seq ?_
  refine W.region ?_
  refine RL.opD (by decide) (opv_move rfl rfl) ?_
  refine RL.opD (by decide) (opv_move rfl rfl) ?_
  refine RL.opD (by decide) (opv_sub rfl rfl rfl) ?_
  obtain ⟨x5, hx5, hp⟩ := Option.bind_eq_some_iff.1 hp
  refine RL.op _ (by decide) (opv_call (cap := []) (laws_r8At_ok _ _ _ g0 _ _ _ hx5) rfl rfl ⟨rfl, rfl, rfl, trivial⟩ Try.func12 rfl rfl) ?_
  rintro _ _ ⟨rfl, rfl⟩
  refine RL.opD (by decide) (opv_add rfl rfl rfl) ?_
  refine RL.opD (by decide) (opv_assign rfl rfl) ?_
  refine RL.nil ?_
  refine thnN ?_
  refine W.seq ?_
  refine W.region ?_
  refine RL.opD (by decide) (opv_move rfl rfl) ?_
  refine RL.opD (by decide) (opv_move rfl rfl) ?_
  refine RL.opD (by decide) (opv_sub rfl rfl rfl) ?_
  obtain ⟨x6, hx6, hp⟩ := Option.bind_eq_some_iff.1 hp
  refine RL.op _ (by decide) (opv_call (cap := []) (laws_r8At_ok _ _ _ g0 _ _ _ hx6) rfl rfl ⟨rfl, rfl, rfl, trivial⟩ Try.func12 rfl rfl) ?_
  rintro _ _ ⟨rfl, rfl⟩
  refine RL.opD (by decide) (opv_add rfl rfl rfl) ?_
  refine RL.opD (by decide) (opv_assign rfl rfl) ?_
  refine RL.nil ?_
  refine thnN ?_
  refine W.seq ?_
  refine W.region ?_
  refine RL.opD (by decide) (opv_move rfl rfl) ?_
  refine RL.opD (by decide) (opv_move rfl rfl) ?_
  refine RL.opD (by decide) (opv_sub rfl rfl rfl) ?_
  obtain ⟨x7, hx7, hp⟩ := Option.bind_eq_some_iff.1 hp
  refine RL.op _ (by decide) (opv_call (cap := []) (laws_r8At_ok _ _ _ g0 _ _ _ hx7) rfl rfl ⟨rfl, rfl, rfl, trivial⟩ Try.func12 rfl rfl) ?_
  rintro _ _ ⟨rfl, rfl⟩
  refine RL.opD (by decide) (opv_add rfl rfl rfl) ?_
  refine RL.opD (by decide) (opv_assign rfl rfl) ?_
  refine RL.nil ?_
  refine thnN ?_
  refine W.seq ?_
  refine W.region ?_
  refine RL.opD (by decide) (opv_move rfl rfl) ?_
  refine RL.opD (by decide) (opv_move rfl rfl) ?_
  obtain ⟨x8, hx8, hp⟩ := Option.bind_eq_some_iff.1 hp
  refine RL.op _ (by decide) (opv_call (cap := []) (impl_PlainSheet_ok _ _ _ _ _ _ (isF_lit .f32 1048576000 (by decide) (by decide)) _ hx8) rfl rfl ⟨rfl, rfl, rfl, rfl, trivial⟩ Try.func16 rfl rfl) ?_
  rintro _ hp1 ⟨v1, v2, rfl, MT_1, T_1⟩
  obtain ⟨X_1, S_1⟩ := Sep.turn0 (Mod.refl [] h0) (Sep.nil [] h0.size h0) MT_1 T_1
  refine RL.opD (by decide) (opv_move rfl rfl) ?_
  refine RL.opD (by decide) (opv_extract rfl rfl rfl) ?_
  refine RL.opD (by decide) (opv_extract rfl rfl rfl) ?_
  refine RL.op _ (by decide) (opS_boxed (opv_alloc (cs := [(.int .i64 0), (.int .i64 0), (.bool false), (.slice none 0 0), (.slice none 0 0)]) rfl Try.zero33 rfl)) ?_
  rintro _ hp2 ⟨bb1, rfl, MT_2, T_2⟩
  obtain ⟨X_2, S_2⟩ := Sep.turn0 X_1 S_1 MT_2 T_2
  refine RL.op0 _ (opS_stored (cs := [(.int .i64 0), (.int .i64 0), (.bool false), (.slice none 0 0), (.slice none 0 0)]) (cs' := [(.int .i64 x8.1), (.int .i64 x8.2.1), (.bool x8.2.2.1), v1, v2]) (opv_storeA (us := [(.int .i64 x8.1), (.int .i64 x8.2.1), (.bool x8.2.2.1), v1, v2]) rfl Try.size33 rfl rfl (oneAll rfl (oneAll rfl (oneAll rfl (oneAll (ownO.one (Sep.at (o := ownO (kF .f32) 29 v1 x8.2.2.2.1) S_2 1 rfl)) (oneAll (ownO.one (Sep.at (o := ownO (kF .f32) 29 v2 x8.2.2.2.2.1) S_2 2 rfl)) rfl))))) (Sep.at (o := boxO bb1 [(.int .i64 0), (.int .i64 0), (.bool false), (.slice none 0 0), (.slice none 0 0)]) S_2 0 rfl) rfl rfl) (Sep.at (o := boxO bb1 [(.int .i64 0), (.int .i64 0), (.bool false), (.slice none 0 0), (.slice none 0 0)]) S_2 0 rfl)) ?_
  rintro _ hp3 ⟨rfl, MT_3, T_3⟩
  have S_3 : Sep [] h0.size hp2 ([boxO bb1 [(.int .i64 0), (.int .i64 0), (.bool false), (.slice none 0 0), (.slice none 0 0)]] ++ [ownO (kF .f32) 29 v1 x8.2.2.2.1, ownO (kF .f32) 29 v2 x8.2.2.2.2.1]) := Sep.sel S_2 [0, 1, 2] (by decide)
  obtain ⟨X_3, S_4⟩ := Sep.turn X_2 S_3 MT_3 T_3
  refine RL.opD (by decide) (opv_assign rfl rfl) ?_
  refine RL.nil ?_
  refine thnN ?_
  refine W.seq ?_
  refine W.region ?_
  refine RL.opD (by decide) (opv_loadA (us := [(.int .i64 x8.1), (.int .i64 x8.2.1), (.bool x8.2.2.1), v1, v2]) rfl Try.agg33 Try.size33 rfl (Sep.at (o := boxO bb1 [(.int .i64 x8.1), (.int .i64 x8.2.1), (.bool x8.2.2.1), v1, v2]) S_4 0 rfl) rfl rfl) ?_
  refine RL.opD (by decide) (opv_move rfl rfl) ?_
  refine RL.opD (by decide) (opv_move rfl rfl) ?_
  obtain ⟨x9, hx9, hp⟩ := Option.bind_eq_some_iff.1 hp
  refine RL.op _ (by decide) (opv_call (cap := []) (impl_ModeField_ok _ _ _ _ _ _ (ownO.read (Sep.at (o := ownO (kF .f32) 29 v1 x8.2.2.2.1) S_4 1 rfl)) _ _ (ownO.read (Sep.at (o := ownO (kF .f32) 29 v2 x8.2.2.2.2.1) S_4 2 rfl)) _ _ _ _ (isF_lit .f32 1069547520 (by decide) (by decide)) _ hx9) rfl rfl ⟨rfl, rfl, rfl, rfl, trivial⟩ Try.func17 rfl rfl) ?_
  rintro _ hp4 ⟨v3, v4, v5, rfl, MT_4, T_4⟩
  obtain ⟨X_4, S_5⟩ := Sep.turn0 X_3 S_4 MT_4 T_4
  refine RL.opD (by decide) (opv_move rfl rfl) ?_
  refine RL.opD (by decide) (opv_extract rfl rfl rfl) ?_
  refine RL.opD (by decide) (opv_extract rfl rfl rfl) ?_
  refine RL.op _ (by decide) (opS_boxed (opv_alloc (cs := [(.slice none 0 0), (.slice none 0 0), (.slice none 0 0)]) rfl Try.zero37 rfl)) ?_
  rintro _ hp5 ⟨bb2, rfl, MT_5, T_5⟩
  obtain ⟨X_5, S_6⟩ := Sep.turn0 X_4 S_5 MT_5 T_5
  refine RL.op0 _ (opS_stored (cs := [(.slice none 0 0), (.slice none 0 0), (.slice none 0 0)]) (cs' := [v3, v4, v5]) (opv_storeA (us := [v3, v4, v5]) rfl Try.size37 rfl rfl (oneAll (ownO.one (Sep.at (o := ownO (kF .f32) 29 v3 x9.1) S_6 1 rfl)) (oneAll (ownO.one (Sep.at (o := ownO (kF .f32) 29 v4 x9.2.1) S_6 2 rfl)) (oneAll (ownO.one (Sep.at (o := ownO (kF .f32) 29 v5 x9.2.2.1) S_6 3 rfl)) rfl))) (Sep.at (o := boxO bb2 [(.slice none 0 0), (.slice none 0 0), (.slice none 0 0)]) S_6 0 rfl) rfl rfl) (Sep.at (o := boxO bb2 [(.slice none 0 0), (.slice none 0 0), (.slice none 0 0)]) S_6 0 rfl)) ?_
  rintro _ hp6 ⟨rfl, MT_6, T_6⟩
  have S_7 : Sep [] h0.size hp5 ([boxO bb2 [(.slice none 0 0), (.slice none 0 0), (.slice none 0 0)]] ++ [ownO (kF .f32) 29 v3 x9.1, ownO (kF .f32) 29 v4 x9.2.1, ownO (kF .f32) 29 v5 x9.2.2.1, boxO bb1 [(.int .i64 x8.1), (.int .i64 x8.2.1), (.bool x8.2.2.1), v1, v2], ownO (kF .f32) 29 v1 x8.2.2.2.1, ownO (kF .f32) 29 v2 x8.2.2.2.2.1]) := Sep.sel S_6 [0, 1, 2, 3, 4, 5, 6] (by decide)
  obtain ⟨X_6, S_8⟩ := Sep.turn X_5 S_7 MT_6 T_6
  refine RL.opD (by decide) (opv_assign rfl rfl) ?_
  refine RL.nil ?_
  refine thnN ?_
  refine W.seq ?_
  refine W.region ?_
  refine RL.opD (by decide) (opv_loadA (us := [(.int .i64 x8.1), (.int .i64 x8.2.1), (.bool x8.2.2.1), v1, v2]) rfl Try.agg33 Try.size33 rfl (Sep.at (o := boxO bb1 [(.int .i64 x8.1), (.int .i64 x8.2.1), (.bool x8.2.2.1), v1, v2]) S_8 4 rfl) rfl rfl) ?_
  refine RL.opD (by decide) (opv_move rfl rfl) ?_
  refine RL.opD (by decide) (opv_move rfl rfl) ?_
  obtain ⟨x10, hx10, hp⟩ := Option.bind_eq_some_iff.1 hp
  refine RL.op _ (by decide) (opv_call (cap := []) (impl_ModeField_ok _ _ _ _ _ _ (ownO.read (Sep.at (o := ownO (kF .f32) 29 v1 x8.2.2.2.1) S_8 5 rfl)) _ _ (ownO.read (Sep.at (o := ownO (kF .f32) 29 v2 x8.2.2.2.2.1) S_8 6 rfl)) _ _ _ _ (isF_lit .f32 3204448256 (by decide) (by decide)) _ hx10) rfl rfl ⟨rfl, rfl, rfl, rfl, trivial⟩ Try.func17 rfl rfl) ?_
  rintro _ hp7 ⟨v6, v7, v8, rfl, MT_7, T_7⟩
  obtain ⟨X_7, S_9⟩ := Sep.turn0 X_6 S_8 MT_7 T_7
  refine RL.opD (by decide) (opv_move rfl rfl) ?_
  refine RL.opD (by decide) (opv_extract rfl rfl rfl) ?_
  refine RL.opD (by decide) (opv_extract rfl rfl rfl) ?_
  refine RL.op _ (by decide) (opS_boxed (opv_alloc (cs := [(.slice none 0 0), (.slice none 0 0), (.slice none 0 0)]) rfl Try.zero37 rfl)) ?_
  rintro _ hp8 ⟨bb3, rfl, MT_8, T_8⟩
  obtain ⟨X_8, S_10⟩ := Sep.turn0 X_7 S_9 MT_8 T_8
  refine RL.op0 _ (opS_stored (cs := [(.slice none 0 0), (.slice none 0 0), (.slice none 0 0)]) (cs' := [v6, v7, v8]) (opv_storeA (us := [v6, v7, v8]) rfl Try.size37 rfl rfl (oneAll (ownO.one (Sep.at (o := ownO (kF .f32) 29 v6 x10.1) S_10 1 rfl)) (oneAll (ownO.one (Sep.at (o := ownO (kF .f32) 29 v7 x10.2.1) S_10 2 rfl)) (oneAll (ownO.one (Sep.at (o := ownO (kF .f32) 29 v8 x10.2.2.1) S_10 3 rfl)) rfl))) (Sep.at (o := boxO bb3 [(.slice none 0 0), (.slice none 0 0), (.slice none 0 0)]) S_10 0 rfl) rfl rfl) (Sep.at (o := boxO bb3 [(.slice none 0 0), (.slice none 0 0), (.slice none 0 0)]) S_10 0 rfl)) ?_
  rintro _ hp9 ⟨rfl, MT_9, T_9⟩
  have S_11 : Sep [] h0.size hp8 ([boxO bb3 [(.slice none 0 0), (.slice none 0 0), (.slice none 0 0)]] ++ [ownO (kF .f32) 29 v6 x10.1, ownO (kF .f32) 29 v7 x10.2.1, ownO (kF .f32) 29 v8 x10.2.2.1, boxO bb2 [v3, v4, v5], ownO (kF .f32) 29 v3 x9.1, ownO (kF .f32) 29 v4 x9.2.1, ownO (kF .f32) 29 v5 x9.2.2.1, boxO bb1 [(.int .i64 x8.1), (.int .i64 x8.2.1), (.bool x8.2.2.1), v1, v2], ownO (kF .f32) 29 v1 x8.2.2.2.1, ownO (kF .f32) 29 v2 x8.2.2.2.2.1]) := Sep.sel S_10 [0, 1, 2, 3, 4, 5, 6, 7, 8, 9, 10] (by decide)
  obtain ⟨X_9, S_12⟩ := Sep.turn X_8 S_11 MT_9 T_9
  refine RL.opD (by decide) (opv_assign rfl rfl) ?_
  refine RL.nil ?_
  refine thnN ?_
  refine W.seq ?_
  refine W.region ?_
  refine RL.opD (by decide) (opv_loadA (us := [(.int .i64 x8.1), (.int .i64 x8.2.1), (.bool x8.2.2.1), v1, v2]) rfl Try.agg33 Try.size33 rfl (Sep.at (o := boxO bb1 [(.int .i64 x8.1), (.int .i64 x8.2.1), (.bool x8.2.2.1), v1, v2]) S_12 8 rfl) rfl rfl) ?_
  refine RL.opD (by decide) (opv_loadA (us := [v3, v4, v5]) rfl Try.agg37 Try.size37 rfl (Sep.at (o := boxO bb2 [v3, v4, v5]) S_12 4 rfl) rfl rfl) ?_
  refine RL.opD (by decide) (opv_move rfl rfl) ?_
  refine RL.opD (by decide) (opv_move rfl rfl) ?_
  obtain ⟨x11, hx11, hp⟩ := Option.bind_eq_some_iff.1 hp
  refine RL.op _ (by decide) (opv_call (cap := []) (impl_ShareOf_ok _ _ _ _ _ _ (ownO.read (Sep.at (o := ownO (kF .f32) 29 v1 x8.2.2.2.1) S_12 9 rfl)) _ _ (ownO.read (Sep.at (o := ownO (kF .f32) 29 v2 x8.2.2.2.2.1) S_12 10 rfl)) _ _ (ownO.read (Sep.at (o := ownO (kF .f32) 29 v3 x9.1) S_12 5 rfl)) _ _ (ownO.read (Sep.at (o := ownO (kF .f32) 29 v4 x9.2.1) S_12 6 rfl)) _ _ (ownO.read (Sep.at (o := ownO (kF .f32) 29 v5 x9.2.2.1) S_12 7 rfl)) _ _ _ hx11) rfl rfl ⟨rfl, rfl, rfl, rfl, trivial⟩ Try.func18 rfl rfl) ?_
  rintro _ hp10 ⟨v9, rfl, fv9, MT_10, T_10⟩
  obtain ⟨X_10, S_13⟩ := Sep.turn0 X_9 S_12 MT_10 T_10
  refine RL.opD (by decide) (opv_move rfl rfl) ?_
  refine RL.opD (by decide) (opv_extract rfl rfl rfl) ?_
  refine RL.opD (by decide) (opv_extract rfl rfl rfl) ?_
  refine RL.opD (by decide) (opv_assign rfl rfl) ?_
  refine RL.opD (by decide) (opv_assign rfl rfl) ?_
  refine RL.nil ?_
  refine thnN ?_
  refine W.seq ?_
  refine W.region ?_
  refine RL.opD (by decide) (opv_loadA (us := [(.int .i64 x8.1), (.int .i64 x8.2.1), (.bool x8.2.2.1), v1, v2]) rfl Try.agg33 Try.size33 rfl (Sep.at (o := boxO bb1 [(.int .i64 x8.1), (.int .i64 x8.2.1), (.bool x8.2.2.1), v1, v2]) S_13 8 rfl) rfl rfl) ?_
  refine RL.opD (by decide) (opv_loadA (us := [v3, v4, v5]) rfl Try.agg37 Try.size37 rfl (Sep.at (o := boxO bb2 [v3, v4, v5]) S_13 4 rfl) rfl rfl) ?_
  refine RL.opD (by decide) (opv_move rfl rfl) ?_
  refine RL.opD (by decide) (opv_move rfl rfl) ?_
  obtain ⟨x12, hx12, hp⟩ := Option.bind_eq_some_iff.1 hp
  refine RL.op _ (by decide) (opv_call (cap := []) (impl_ShareOf_ok _ _ _ _ _ _ (ownO.read (Sep.at (o := ownO (kF .f32) 29 v1 x8.2.2.2.1) S_13 9 rfl)) _ _ (ownO.read (Sep.at (o := ownO (kF .f32) 29 v2 x8.2.2.2.2.1) S_13 10 rfl)) _ _ (ownO.read (Sep.at (o := ownO (kF .f32) 29 v3 x9.1) S_13 5 rfl)) _ _ (ownO.read (Sep.at (o := ownO (kF .f32) 29 v4 x9.2.1) S_13 6 rfl)) _ _ (ownO.read (Sep.at (o := ownO (kF .f32) 29 v5 x9.2.2.1) S_13 7 rfl)) _ _ _ hx12) rfl rfl ⟨rfl, rfl, rfl, rfl, trivial⟩ Try.func18 rfl rfl) ?_
  rintro _ hp11 ⟨v10, rfl, fv10, MT_11, T_11⟩
  obtain ⟨X_11, S_14⟩ := Sep.turn0 X_10 S_13 MT_11 T_11
  refine RL.opD (by decide) (opv_move rfl rfl) ?_
  refine RL.opD (by decide) (opv_extract rfl rfl rfl) ?_
  refine RL.opD (by decide) (opv_extract rfl rfl rfl) ?_
  refine RL.opD (by decide) (opv_assign rfl rfl) ?_
  refine RL.opD (by decide) (opv_assign rfl rfl) ?_
  refine RL.nil ?_
  refine thnN ?_
  refine W.seq ?_
  refine W.region ?_
  refine RL.opD (by decide) (opv_loadA (us := [(.int .i64 x8.1), (.int .i64 x8.2.1), (.bool x8.2.2.1), v1, v2]) rfl Try.agg33 Try.size33 rfl (Sep.at (o := boxO bb1 [(.int .i64 x8.1), (.int .i64 x8.2.1), (.bool x8.2.2.1), v1, v2]) S_14 8 rfl) rfl rfl) ?_
  refine RL.opD (by decide) (opv_loadA (us := [v3, v4, v5]) rfl Try.agg37 Try.size37 rfl (Sep.at (o := boxO bb2 [v3, v4, v5]) S_14 4 rfl) rfl rfl) ?_
  refine RL.opD (by decide) (opv_move rfl rfl) ?_
  refine RL.opD (by decide) (opv_move rfl rfl) ?_
  obtain ⟨x13, hx13, hp⟩ := Option.bind_eq_some_iff.1 hp
  refine RL.op _ (by decide) (opv_call (cap := []) (impl_WithoutMode_ok _ _ _ _ _ _ (ownO.read (Sep.at (o := ownO (kF .f32) 29 v1 x8.2.2.2.1) S_14 9 rfl)) _ _ (ownO.read (Sep.at (o := ownO (kF .f32) 29 v2 x8.2.2.2.2.1) S_14 10 rfl)) _ _ (ownO.read (Sep.at (o := ownO (kF .f32) 29 v3 x9.1) S_14 5 rfl)) _ _ (ownO.read (Sep.at (o := ownO (kF .f32) 29 v4 x9.2.1) S_14 6 rfl)) _ _ (ownO.read (Sep.at (o := ownO (kF .f32) 29 v5 x9.2.2.1) S_14 7 rfl)) _ _ _ hx13) rfl rfl ⟨rfl, rfl, rfl, rfl, trivial⟩ Try.func19 rfl rfl) ?_
  rintro _ hp12 ⟨v11, v12, v13, rfl, MT_12, T_12⟩
  obtain ⟨X_12, S_15⟩ := Sep.turn0 X_11 S_14 MT_12 T_12
  refine RL.opD (by decide) (opv_move rfl rfl) ?_
  refine RL.opD (by decide) (opv_extract rfl rfl rfl) ?_
  refine RL.opD (by decide) (opv_extract rfl rfl rfl) ?_
  refine RL.op _ (by decide) (opS_boxed (opv_alloc (cs := [(.slice none 0 0), (.slice none 0 0), (.slice none 0 0)]) rfl Try.zero37 rfl)) ?_
  rintro _ hp13 ⟨bb4, rfl, MT_13, T_13⟩
  obtain ⟨X_13, S_16⟩ := Sep.turn0 X_12 S_15 MT_13 T_13
  refine RL.op0 _ (opS_stored (cs := [(.slice none 0 0), (.slice none 0 0), (.slice none 0 0)]) (cs' := [v11, v12, v13]) (opv_storeA (us := [v11, v12, v13]) rfl Try.size37 rfl rfl (oneAll (ownO.one (Sep.at (o := ownO (kF .f32) 29 v11 x13.1) S_16 1 rfl)) (oneAll (ownO.one (Sep.at (o := ownO (kF .f32) 29 v12 x13.2.1) S_16 2 rfl)) (oneAll (ownO.one (Sep.at (o := ownO (kF .f32) 29 v13 x13.2.2.1) S_16 3 rfl)) rfl))) (Sep.at (o := boxO bb4 [(.slice none 0 0), (.slice none 0 0), (.slice none 0 0)]) S_16 0 rfl) rfl rfl) (Sep.at (o := boxO bb4 [(.slice none 0 0), (.slice none 0 0), (.slice none 0 0)]) S_16 0 rfl)) ?_
  rintro _ hp14 ⟨rfl, MT_14, T_14⟩
  have S_17 : Sep [] h0.size hp13 ([boxO bb4 [(.slice none 0 0), (.slice none 0 0), (.slice none 0 0)]] ++ [ownO (kF .f32) 29 v11 x13.1, ownO (kF .f32) 29 v12 x13.2.1, ownO (kF .f32) 29 v13 x13.2.2.1, boxO bb3 [v6, v7, v8], ownO (kF .f32) 29 v6 x10.1, ownO (kF .f32) 29 v7 x10.2.1, ownO (kF .f32) 29 v8 x10.2.2.1, boxO bb2 [v3, v4, v5], ownO (kF .f32) 29 v3 x9.1, ownO (kF .f32) 29 v4 x9.2.1, ownO (kF .f32) 29 v5 x9.2.2.1, boxO bb1 [(.int .i64 x8.1), (.int .i64 x8.2.1), (.bool x8.2.2.1), v1, v2], ownO (kF .f32) 29 v1 x8.2.2.2.1, ownO (kF .f32) 29 v2 x8.2.2.2.2.1]) := Sep.sel S_16 [0, 1, 2, 3, 4, 5, 6, 7, 8, 9, 10, 11, 12, 13, 14] (by decide)
  obtain ⟨X_14, S_18⟩ := Sep.turn X_13 S_17 MT_14 T_14
  refine RL.opD (by decide) (opv_assign rfl rfl) ?_
  refine RL.nil ?_
  refine thnN ?_
  refine W.seq ?_
  refine W.region ?_
  refine RL.opD (by decide) (opv_loadA (us := [(.int .i64 x8.1), (.int .i64 x8.2.1), (.bool x8.2.2.1), v1, v2]) rfl Try.agg33 Try.size33 rfl (Sep.at (o := boxO bb1 [(.int .i64 x8.1), (.int .i64 x8.2.1), (.bool x8.2.2.1), v1, v2]) S_18 12 rfl) rfl rfl) ?_
  refine RL.opD (by decide) (opv_loadA (us := [v11, v12, v13]) rfl Try.agg37 Try.size37 rfl (Sep.at (o := boxO bb4 [v11, v12, v13]) S_18 0 rfl) rfl rfl) ?_
  refine RL.opD (by decide) (opv_move rfl rfl) ?_
  refine RL.opD (by decide) (opv_move rfl rfl) ?_
  obtain ⟨x14, hx14, hp⟩ := Option.bind_eq_some_iff.1 hp
  refine RL.op _ (by decide) (opv_call (cap := []) (impl_ShareOf_ok _ _ _ _ _ _ (ownO.read (Sep.at (o := ownO (kF .f32) 29 v1 x8.2.2.2.1) S_18 13 rfl)) _ _ (ownO.read (Sep.at (o := ownO (kF .f32) 29 v2 x8.2.2.2.2.1) S_18 14 rfl)) _ _ (ownO.read (Sep.at (o := ownO (kF .f32) 29 v11 x13.1) S_18 1 rfl)) _ _ (ownO.read (Sep.at (o := ownO (kF .f32) 29 v12 x13.2.1) S_18 2 rfl)) _ _ (ownO.read (Sep.at (o := ownO (kF .f32) 29 v13 x13.2.2.1) S_18 3 rfl)) _ _ _ hx14) rfl rfl ⟨rfl, rfl, rfl, rfl, trivial⟩ Try.func18 rfl rfl) ?_
  rintro _ hp15 ⟨v14, rfl, fv14, MT_15, T_15⟩
  obtain ⟨X_15, S_19⟩ := Sep.turn0 X_14 S_18 MT_15 T_15
  refine RL.opD (by decide) (opv_move rfl rfl) ?_
  refine RL.opD (by decide) (opv_extract rfl rfl rfl) ?_
  refine RL.opD (by decide) (opv_extract rfl rfl rfl) ?_
  refine RL.opD (by decide) (opv_assign rfl rfl) ?_
  refine RL.opD (by decide) (opv_assign rfl rfl) ?_
  refine RL.nil ?_
  refine thnN ?_
  refine W.seq ?_
  refine W.region ?_
  refine RL.opD (by decide) (opv_loadA (us := [(.int .i64 x8.1), (.int .i64 x8.2.1), (.bool x8.2.2.1), v1, v2]) rfl Try.agg33 Try.size33 rfl (Sep.at (o := boxO bb1 [(.int .i64 x8.1), (.int .i64 x8.2.1), (.bool x8.2.2.1), v1, v2]) S_19 12 rfl) rfl rfl) ?_
  refine RL.opD (by decide) (opv_loadA (us := [v3, v4, v5]) rfl Try.agg37 Try.size37 rfl (Sep.at (o := boxO bb2 [v3, v4, v5]) S_19 8 rfl) rfl rfl) ?_
  refine RL.opD (by decide) (opv_loadA (us := [v6, v7, v8]) rfl Try.agg37 Try.size37 rfl (Sep.at (o := boxO bb3 [v6, v7, v8]) S_19 4 rfl) rfl rfl) ?_
  obtain ⟨x15, hx15, hp⟩ := Option.bind_eq_some_iff.1 hp
  refine RL.op _ (by decide) (opv_call (cap := []) (impl_AddFields_ok _ _ _ _ _ _ (ownO.read (Sep.at (o := ownO (kF .f32) 29 v1 x8.2.2.2.1) S_19 13 rfl)) _ _ (ownO.read (Sep.at (o := ownO (kF .f32) 29 v2 x8.2.2.2.2.1) S_19 14 rfl)) _ _ (ownO.read (Sep.at (o := ownO (kF .f32) 29 v3 x9.1) S_19 9 rfl)) _ _ (ownO.read (Sep.at (o := ownO (kF .f32) 29 v4 x9.2.1) S_19 10 rfl)) _ _ (ownO.read (Sep.at (o := ownO (kF .f32) 29 v5 x9.2.2.1) S_19 11 rfl)) _ _ (ownO.read (Sep.at (o := ownO (kF .f32) 29 v6 x10.1) S_19 5 rfl)) _ _ (ownO.read (Sep.at (o := ownO (kF .f32) 29 v7 x10.2.1) S_19 6 rfl)) _ _ (ownO.read (Sep.at (o := ownO (kF .f32) 29 v8 x10.2.2.1) S_19 7 rfl)) _ hx15) rfl rfl ⟨rfl, rfl, rfl, trivial⟩ Try.func20 rfl rfl) ?_
  rintro _ hp16 ⟨v15, v16, v17, rfl, MT_16, T_16⟩
  obtain ⟨X_16, S_20⟩ := Sep.turn0 X_15 S_19 MT_16 T_16
  refine RL.opD (by decide) (opv_move rfl rfl) ?_
  refine RL.opD (by decide) (opv_extract rfl rfl rfl) ?_
  refine RL.opD (by decide) (opv_extract rfl rfl rfl) ?_
  refine RL.op _ (by decide) (opS_boxed (opv_alloc (cs := [(.slice none 0 0), (.slice none 0 0), (.slice none 0 0)]) rfl Try.zero37 rfl)) ?_
  rintro _ hp17 ⟨bb5, rfl, MT_17, T_17⟩
  obtain ⟨X_17, S_21⟩ := Sep.turn0 X_16 S_20 MT_17 T_17
  refine RL.op0 _ (opS_stored (cs := [(.slice none 0 0), (.slice none 0 0), (.slice none 0 0)]) (cs' := [v15, v16, v17]) (opv_storeA (us := [v15, v16, v17]) rfl Try.size37 rfl rfl (oneAll (ownO.one (Sep.at (o := ownO (kF .f32) 29 v15 x15.1) S_21 1 rfl)) (oneAll (ownO.one (Sep.at (o := ownO (kF .f32) 29 v16 x15.2.1) S_21 2 rfl)) (oneAll (ownO.one (Sep.at (o := ownO (kF .f32) 29 v17 x15.2.2.1) S_21 3 rfl)) rfl))) (Sep.at (o := boxO bb5 [(.slice none 0 0), (.slice none 0 0), (.slice none 0 0)]) S_21 0 rfl) rfl rfl) (Sep.at (o := boxO bb5 [(.slice none 0 0), (.slice none 0 0), (.slice none 0 0)]) S_21 0 rfl)) ?_
  rintro _ hp18 ⟨rfl, MT_18, T_18⟩
  have S_22 : Sep [] h0.size hp17 ([boxO bb5 [(.slice none 0 0), (.slice none 0 0), (.slice none 0 0)]] ++ [ownO (kF .f32) 29 v15 x15.1, ownO (kF .f32) 29 v16 x15.2.1, ownO (kF .f32) 29 v17 x15.2.2.1, boxO bb4 [v11, v12, v13], ownO (kF .f32) 29 v11 x13.1, ownO (kF .f32) 29 v12 x13.2.1, ownO (kF .f32) 29 v13 x13.2.2.1, boxO bb3 [v6, v7, v8], ownO (kF .f32) 29 v6 x10.1, ownO (kF .f32) 29 v7 x10.2.1, ownO (kF .f32) 29 v8 x10.2.2.1, boxO bb2 [v3, v4, v5], ownO (kF .f32) 29 v3 x9.1, ownO (kF .f32) 29 v4 x9.2.1, ownO (kF .f32) 29 v5 x9.2.2.1, boxO bb1 [(.int .i64 x8.1), (.int .i64 x8.2.1), (.bool x8.2.2.1), v1, v2], ownO (kF .f32) 29 v1 x8.2.2.2.1, ownO (kF .f32) 29 v2 x8.2.2.2.2.1]) := Sep.sel S_21 [0, 1, 2, 3, 4, 5, 6, 7, 8, 9, 10, 11, 12, 13, 14, 15, 16, 17, 18] (by decide)
  obtain ⟨X_18, S_23⟩ := Sep.turn X_17 S_22 MT_18 T_18
  refine RL.opD (by decide) (opv_assign rfl rfl) ?_
  refine RL.nil ?_
  refine thnN ?_
  refine W.seq ?_
  refine W.region ?_
  refine RL.opD (by decide) (opv_loadA (us := [(.int .i64 x8.1), (.int .i64 x8.2.1), (.bool x8.2.2.1), v1, v2]) rfl Try.agg33 Try.size33 rfl (Sep.at (o := boxO bb1 [(.int .i64 x8.1), (.int .i64 x8.2.1), (.bool x8.2.2.1), v1, v2]) S_23 16 rfl) rfl rfl) ?_
  refine RL.opD (by decide) (opv_loadA (us := [v15, v16, v17]) rfl Try.agg37 Try.size37 rfl (Sep.at (o := boxO bb5 [v15, v16, v17]) S_23 0 rfl) rfl rfl) ?_
  refine RL.opD (by decide) (opv_move rfl rfl) ?_
  refine RL.opD (by decide) (opv_move rfl rfl) ?_
  obtain ⟨x16, hx16, hp⟩ := Option.bind_eq_some_iff.1 hp
  refine RL.op _ (by decide) (opv_call (cap := []) (impl_ShareOf_ok _ _ _ _ _ _ (ownO.read (Sep.at (o := ownO (kF .f32) 29 v1 x8.2.2.2.1) S_23 17 rfl)) _ _ (ownO.read (Sep.at (o := ownO (kF .f32) 29 v2 x8.2.2.2.2.1) S_23 18 rfl)) _ _ (ownO.read (Sep.at (o := ownO (kF .f32) 29 v15 x15.1) S_23 1 rfl)) _ _ (ownO.read (Sep.at (o := ownO (kF .f32) 29 v16 x15.2.1) S_23 2 rfl)) _ _ (ownO.read (Sep.at (o := ownO (kF .f32) 29 v17 x15.2.2.1) S_23 3 rfl)) _ _ _ hx16) rfl rfl ⟨rfl, rfl, rfl, rfl, trivial⟩ Try.func18 rfl rfl) ?_
  rintro _ hp19 ⟨v18, rfl, fv18, MT_19, T_19⟩
  obtain ⟨X_19, S_24⟩ := Sep.turn0 X_18 S_23 MT_19 T_19
  refine RL.opD (by decide) (opv_move rfl rfl) ?_
  refine RL.opD (by decide) (opv_extract rfl rfl rfl) ?_
  refine RL.opD (by decide) (opv_extract rfl rfl rfl) ?_
  refine RL.opD (by decide) (opv_assign rfl rfl) ?_
  refine RL.opD (by decide) (opv_assign rfl rfl) ?_
  refine RL.nil ?_
  refine thnN ?_
  refine W.seq ?_
  refine W.region ?_
  refine RL.opD (by decide) (opv_loadA (us := [(.int .i64 x8.1), (.int .i64 x8.2.1), (.bool x8.2.2.1), v1, v2]) rfl Try.agg33 Try.size33 rfl (Sep.at (o := boxO bb1 [(.int .i64 x8.1), (.int .i64 x8.2.1), (.bool x8.2.2.1), v1, v2]) S_24 16 rfl) rfl rfl) ?_
  refine RL.opD (by decide) (opv_loadA (us := [v6, v7, v8]) rfl Try.agg37 Try.size37 rfl (Sep.at (o := boxO bb3 [v6, v7, v8]) S_24 8 rfl) rfl rfl) ?_
  refine RL.opD (by decide) (opv_move rfl rfl) ?_
  refine RL.opD (by decide) (opv_move rfl rfl) ?_
  obtain ⟨x17, hx17, hp⟩ := Option.bind_eq_some_iff.1 hp
  refine RL.op _ (by decide) (opv_call (cap := []) (impl_ShareOf_ok _ _ _ _ _ _ (ownO.read (Sep.at (o := ownO (kF .f32) 29 v1 x8.2.2.2.1) S_24 17 rfl)) _ _ (ownO.read (Sep.at (o := ownO (kF .f32) 29 v2 x8.2.2.2.2.1) S_24 18 rfl)) _ _ (ownO.read (Sep.at (o := ownO (kF .f32) 29 v6 x10.1) S_24 9 rfl)) _ _ (ownO.read (Sep.at (o := ownO (kF .f32) 29 v7 x10.2.1) S_24 10 rfl)) _ _ (ownO.read (Sep.at (o := ownO (kF .f32) 29 v8 x10.2.2.1) S_24 11 rfl)) _ _ _ hx17) rfl rfl ⟨rfl, rfl, rfl, rfl, trivial⟩ Try.func18 rfl rfl) ?_
  rintro _ hp20 ⟨v19, rfl, fv19, MT_20, T_20⟩
  obtain ⟨X_20, S_25⟩ := Sep.turn0 X_19 S_24 MT_20 T_20
  refine RL.opD (by decide) (opv_move rfl rfl) ?_
  refine RL.opD (by decide) (opv_extract rfl rfl rfl) ?_
  refine RL.opD (by decide) (opv_extract rfl rfl rfl) ?_
  refine RL.opD (by decide) (opv_assign rfl rfl) ?_
  refine RL.opD (by decide) (opv_assign rfl rfl) ?_
  refine RL.nil ?_
  refine thnN ?_
  refine W.seq ?_
  obtain ⟨x18, hy1, hp⟩ := Option.bind_eq_some_iff.1 hp
  refine W.cut (fun φ' h' => Fr.sub [(0, u0), (1, u1), (4, (.bool false)), (34, (.bool x1)), (5, (.int .i64 (IntKind.wrap .i64 (4 + x2)))), (6, (.int .i64 (IntKind.wrap .i64 (4 + x3)))), (7, (.int .i64 (IntKind.wrap .i64 (1 + x4)))), (8, (.int .i64 (IntKind.wrap .i64 (1 + x5)))), (9, (.int .i64 (IntKind.wrap .i64 (1 + x6)))), (10, (.int .i64 (IntKind.wrap .i64 (1 + x7)))), (11, (.pointer (some ⟨bb1, 0, none⟩))), (12, (.bool x8.2.2.2.2.2)), (13, (.pointer (some ⟨bb2, 0, none⟩))), (14, (.bool x9.2.2.2)), (15, (.pointer (some ⟨bb3, 0, none⟩))), (16, (.bool x10.2.2.2)), (17, v9), (18, (.bool x11.2)), (19, v10), (20, (.bool x12.2)), (21, (.pointer (some ⟨bb4, 0, none⟩))), (22, (.bool x13.2.2.2)), (23, v14), (24, (.bool x14.2)), (25, (.pointer (some ⟨bb5, 0, none⟩))), (26, (.bool x15.2.2.2)), (27, v18), (28, (.bool x16.2)), (29, v19), (30, (.bool x17.2)), (31, (.bool x18))] φ' ∧ hp20 = h') ?_ ?_
  ·refine W.region ?_
   refine RL.opD (by decide) (opv_move rfl rfl) ?_
   refine RL.opD (by decide) (opv_move rfl rfl) ?_
   refine RL.opD (by decide) (opv_icmp rfl rfl rfl rfl) ?_
   refine RL.opD (by decide) (opv_move rfl rfl) ?_
   by_cases c2 : ((IntKind.wrap .i64 (1 + x4)) == (IntKind.wrap .i64 (1 + x6))) = true
   ·rw [if_pos c2] at hy1
    refine RL.yesD rfl rfl c2 (by decide) (opv_move rfl rfl) ?_
    refine RL.yesD rfl rfl c2 (by decide) (opv_move rfl rfl) ?_
    refine RL.yesD rfl rfl c2 (by decide) (opv_icmp rfl rfl rfl rfl) ?_
    refine RL.opD (by decide) (opv_pick rfl rfl (fun _ => rfl) (fun e => absurd (Eq.trans (Eq.symm e) c2) (by decide)) rfl) ?_
    refine RL.opD (by decide) (opv_assign rfl rfl) ?_
    refine RL.nil ?_
    have ey1 := Option.some.inj hy1
    subst ey1
    refine onlyN ?_
    exact ⟨⟨rfl, rfl, rfl, rfl, rfl, rfl, rfl, rfl, rfl, rfl, rfl, rfl, rfl, rfl, rfl, rfl, rfl, rfl, rfl, rfl, rfl, rfl, rfl, rfl, rfl, rfl, rfl, rfl, rfl, rfl, rfl, trivial⟩, rfl⟩
   ·rw [if_neg c2] at hy1
    have c2 := eq_false_of_ne_true c2
    refine RL.noF rfl rfl c2 (by decide) ?_
    refine RL.noF rfl rfl c2 (by decide) ?_
    refine RL.noF rfl rfl c2 (by decide) ?_
    refine RL.opD (by decide) (opv_pick rfl rfl (fun e => absurd (Eq.trans (Eq.symm e) c2) (by decide)) (fun _ => rfl) rfl) ?_
    refine RL.opD (by decide) (opv_assign rfl rfl) ?_
    refine RL.nil ?_
    have ey1 := Option.some.inj hy1
    subst ey1
    refine onlyN ?_
    exact ⟨⟨rfl, rfl, rfl, rfl, rfl, rfl, rfl, rfl, rfl, rfl, rfl, rfl, rfl, rfl, rfl, rfl, rfl, rfl, rfl, rfl, rfl, rfl, rfl, rfl, rfl, rfl, rfl, rfl, rfl, rfl, rfl, trivial⟩, rfl⟩
  rintro φ' _ ⟨hs1, rfl⟩
  refine thnN ?_
  refine W.sub hs1 ?_
  refine W.seq ?_
  refine W.seq ?_
  obtain ⟨x19, hy2, hp⟩ := Option.bind_eq_some_iff.1 hp
  refine W.cut (fun φ' h' => Fr.sub [(0, u0), (1, u1), (4, (.bool false)), (34, (.bool x1)), (5, (.int .i64 (IntKind.wrap .i64 (4 + x2)))), (6, (.int .i64 (IntKind.wrap .i64 (4 + x3)))), (7, (.int .i64 (IntKind.wrap .i64 (1 + x4)))), (8, (.int .i64 (IntKind.wrap .i64 (1 + x5)))), (9, (.int .i64 (IntKind.wrap .i64 (1 + x6)))), (10, (.int .i64 (IntKind.wrap .i64 (1 + x7)))), (11, (.pointer (some ⟨bb1, 0, none⟩))), (12, (.bool x8.2.2.2.2.2)), (13, (.pointer (some ⟨bb2, 0, none⟩))), (14, (.bool x9.2.2.2)), (15, (.pointer (some ⟨bb3, 0, none⟩))), (16, (.bool x10.2.2.2)), (17, v9), (18, (.bool x11.2)), (19, v10), (20, (.bool x12.2)), (21, (.pointer (some ⟨bb4, 0, none⟩))), (22, (.bool x13.2.2.2)), (23, v14), (24, (.bool x14.2)), (25, (.pointer (some ⟨bb5, 0, none⟩))), (26, (.bool x15.2.2.2)), (27, v18), (28, (.bool x16.2)), (29, v19), (30, (.bool x17.2)), (31, (.bool x18)), (197, (.bool x19))] φ' ∧ hp20 = h') ?_ ?_
  ·refine W.region ?_
   refine RL.opD (by decide) (opv_move rfl rfl) ?_
   refine RL.opD (by decide) (opv_not rfl rfl) ?_
   refine RL.opD (by decide) (opv_move rfl rfl) ?_
   by_cases c3 : (!x8.2.2.2.2.2) = true
   ·rw [if_pos c3] at hy2
    refine RL.noT rfl rfl c3 (by decide) ?_
    refine RL.noT rfl rfl c3 (by decide) ?_
    refine RL.opD (by decide) (opv_pick rfl rfl (fun _ => rfl) (fun e => absurd (Eq.trans (Eq.symm e) c3) (by decide)) rfl) ?_
    refine RL.opD (by decide) (opv_move rfl rfl) ?_
    refine RL.noT rfl rfl rfl (by decide) ?_
    refine RL.noT rfl rfl rfl (by decide) ?_
    refine RL.opD (by decide) (opv_pick rfl rfl (fun _ => rfl) (fun e => absurd (Eq.trans (Eq.symm e) rfl) (by decide)) rfl) ?_
    refine RL.opD (by decide) (opv_move rfl rfl) ?_
    refine RL.noT rfl rfl rfl (by decide) ?_
    refine RL.noT rfl rfl rfl (by decide) ?_
    refine RL.opD (by decide) (opv_pick rfl rfl (fun _ => rfl) (fun e => absurd (Eq.trans (Eq.symm e) rfl) (by decide)) rfl) ?_
    refine RL.opD (by decide) (opv_move rfl rfl) ?_
    refine RL.noT rfl rfl rfl (by decide) ?_
    refine RL.noT rfl rfl rfl (by decide) ?_
    refine RL.opD (by decide) (opv_pick rfl rfl (fun _ => rfl) (fun e => absurd (Eq.trans (Eq.symm e) rfl) (by decide)) rfl) ?_
    refine RL.opD (by decide) (opv_move rfl rfl) ?_
    refine RL.noT rfl rfl rfl (by decide) ?_
    refine RL.noT rfl rfl rfl (by decide) ?_
    refine RL.opD (by decide) (opv_pick rfl rfl (fun _ => rfl) (fun e => absurd (Eq.trans (Eq.symm e) rfl) (by decide)) rfl) ?_
    refine RL.opD (by decide) (opv_move rfl rfl) ?_
    refine RL.noT rfl rfl rfl (by decide) ?_
    refine RL.noT rfl rfl rfl (by decide) ?_
    refine RL.opD (by decide) (opv_pick rfl rfl (fun _ => rfl) (fun e => absurd (Eq.trans (Eq.symm e) rfl) (by decide)) rfl) ?_
    refine RL.opD (by decide) (opv_move rfl rfl) ?_
    refine RL.noT rfl rfl rfl (by decide) ?_
    refine RL.noT rfl rfl rfl (by decide) ?_
    refine RL.opD (by decide) (opv_pick rfl rfl (fun _ => rfl) (fun e => absurd (Eq.trans (Eq.symm e) rfl) (by decide)) rfl) ?_
    refine RL.opD (by decide) (opv_move rfl rfl) ?_
    refine RL.noT rfl rfl rfl (by decide) ?_
    refine RL.noT rfl rfl rfl (by decide) ?_
    refine RL.opD (by decide) (opv_pick rfl rfl (fun _ => rfl) (fun e => absurd (Eq.trans (Eq.symm e) rfl) (by decide)) rfl) ?_
    refine RL.opD (by decide) (opv_move rfl rfl) ?_
    refine RL.noT rfl rfl rfl (by decide) ?_
    refine RL.noT rfl rfl rfl (by decide) ?_
    refine RL.opD (by decide) (opv_pick rfl rfl (fun _ => rfl) (fun e => absurd (Eq.trans (Eq.symm e) rfl) (by decide)) rfl) ?_
    refine RL.opD (by decide) (opv_move rfl rfl) ?_
    refine RL.noT rfl rfl rfl (by decide) ?_
    refine RL.noT rfl rfl rfl (by decide) ?_
    refine RL.noT rfl rfl rfl (by decide) ?_
    refine RL.noT rfl rfl rfl (by decide) ?_
    refine RL.opD (by decide) (opv_pick rfl rfl (fun _ => rfl) (fun e => absurd (Eq.trans (Eq.symm e) rfl) (by decide)) rfl) ?_
    refine RL.opD (by decide) (opv_move rfl rfl) ?_
    refine RL.noT rfl rfl rfl (by decide) ?_
    refine RL.noT rfl rfl rfl (by decide) ?_
    refine RL.noT rfl rfl rfl (by decide) ?_
    refine RL.noU rfl rfl (by decide) ?_
    refine RL.noU rfl rfl (by decide) ?_
    refine RL.noU rfl rfl (by decide) ?_
    refine RL.noU rfl rfl (by decide) ?_
    refine RL.noT rfl rfl rfl (by decide) ?_
    refine RL.opD (by decide) (opv_pick rfl rfl (fun _ => rfl) (fun e => absurd (Eq.trans (Eq.symm e) rfl) (by decide)) rfl) ?_
    refine RL.nil ?_
    have ey2 := Option.some.inj hy2
    subst ey2
    refine onlyN ?_
    exact ⟨⟨rfl, rfl, rfl, rfl, rfl, rfl, rfl, rfl, rfl, rfl, rfl, rfl, rfl, rfl, rfl, rfl, rfl, rfl, rfl, rfl, rfl, rfl, rfl, rfl, rfl, rfl, rfl, rfl, rfl, rfl, rfl, rfl, trivial⟩, rfl⟩
   ·rw [if_neg c3] at hy2
    have c3 := eq_false_of_ne_true c3
    refine RL.yesD rfl rfl c3 (by decide) (opv_move rfl rfl) ?_
    refine RL.yesD rfl rfl c3 (by decide) (opv_not rfl rfl) ?_
    refine RL.opD (by decide) (opv_pick rfl rfl (fun e => absurd (Eq.trans (Eq.symm e) c3) (by decide)) (fun _ => rfl) rfl) ?_
    refine RL.opD (by decide) (opv_move rfl rfl) ?_
    by_cases c4 : (!x9.2.2.2) = true
    ·rw [if_pos c4] at hy2
     refine RL.noT rfl rfl c4 (by decide) ?_
     refine RL.noT rfl rfl c4 (by decide) ?_
     refine RL.opD (by decide) (opv_pick rfl rfl (fun _ => rfl) (fun e => absurd (Eq.trans (Eq.symm e) c4) (by decide)) rfl) ?_
     refine RL.opD (by decide) (opv_move rfl rfl) ?_
     refine RL.noT rfl rfl rfl (by decide) ?_
     refine RL.noT rfl rfl rfl (by decide) ?_
     refine RL.opD (by decide) (opv_pick rfl rfl (fun _ => rfl) (fun e => absurd (Eq.trans (Eq.symm e) rfl) (by decide)) rfl) ?_
     refine RL.opD (by decide) (opv_move rfl rfl) ?_
     refine RL.noT rfl rfl rfl (by decide) ?_
     refine RL.noT rfl rfl rfl (by decide) ?_
     refine RL.opD (by decide) (opv_pick rfl rfl (fun _ => rfl) (fun e => absurd (Eq.trans (Eq.symm e) rfl) (by decide)) rfl) ?_
     refine RL.opD (by decide) (opv_move rfl rfl) ?_
     refine RL.noT rfl rfl rfl (by decide) ?_
     refine RL.noT rfl rfl rfl (by decide) ?_
     refine RL.opD (by decide) (opv_pick rfl rfl (fun _ => rfl) (fun e => absurd (Eq.trans (Eq.symm e) rfl) (by decide)) rfl) ?_
     refine RL.opD (by decide) (opv_move rfl rfl) ?_
     refine RL.noT rfl rfl rfl (by decide) ?_
     refine RL.noT rfl rfl rfl (by decide) ?_
     refine RL.opD (by decide) (opv_pick rfl rfl (fun _ => rfl) (fun e => absurd (Eq.trans (Eq.symm e) rfl) (by decide)) rfl) ?_
     refine RL.opD (by decide) (opv_move rfl rfl) ?_
     refine RL.noT rfl rfl rfl (by decide) ?_
     refine RL.noT rfl rfl rfl (by decide) ?_
     refine RL.opD (by decide) (opv_pick rfl rfl (fun _ => rfl) (fun e => absurd (Eq.trans (Eq.symm e) rfl) (by decide)) rfl) ?_
     refine RL.opD (by decide) (opv_move rfl rfl) ?_
     refine RL.noT rfl rfl rfl (by decide) ?_
     refine RL.noT rfl rfl rfl (by decide) ?_
     refine RL.opD (by decide) (opv_pick rfl rfl (fun _ => rfl) (fun e => absurd (Eq.trans (Eq.symm e) rfl) (by decide)) rfl) ?_
     refine RL.opD (by decide) (opv_move rfl rfl) ?_
     refine RL.noT rfl rfl rfl (by decide) ?_
     refine RL.noT rfl rfl rfl (by decide) ?_
     refine RL.opD (by decide) (opv_pick rfl rfl (fun _ => rfl) (fun e => absurd (Eq.trans (Eq.symm e) rfl) (by decide)) rfl) ?_
     refine RL.opD (by decide) (opv_move rfl rfl) ?_
     refine RL.noT rfl rfl rfl (by decide) ?_
     refine RL.noT rfl rfl rfl (by decide) ?_
     refine RL.noT rfl rfl rfl (by decide) ?_
     refine RL.noT rfl rfl rfl (by decide) ?_
     refine RL.opD (by decide) (opv_pick rfl rfl (fun _ => rfl) (fun e => absurd (Eq.trans (Eq.symm e) rfl) (by decide)) rfl) ?_
     refine RL.opD (by decide) (opv_move rfl rfl) ?_
     refine RL.noT rfl rfl rfl (by decide) ?_
     refine RL.noT rfl rfl rfl (by decide) ?_
     refine RL.noT rfl rfl rfl (by decide) ?_
     refine RL.noU rfl rfl (by decide) ?_
     refine RL.noU rfl rfl (by decide) ?_
     refine RL.noU rfl rfl (by decide) ?_
     refine RL.noU rfl rfl (by decide) ?_
     refine RL.noT rfl rfl rfl (by decide) ?_
     refine RL.opD (by decide) (opv_pick rfl rfl (fun _ => rfl) (fun e => absurd (Eq.trans (Eq.symm e) rfl) (by decide)) rfl) ?_
     refine RL.nil ?_
     have ey2 := Option.some.inj hy2
     subst ey2
     refine onlyN ?_
     exact ⟨⟨rfl, rfl, rfl, rfl, rfl, rfl, rfl, rfl, rfl, rfl, rfl, rfl, rfl, rfl, rfl, rfl, rfl, rfl, rfl, rfl, rfl, rfl, rfl, rfl, rfl, rfl, rfl, rfl, rfl, rfl, rfl, rfl, trivial⟩, rfl⟩
    ·rw [if_neg c4] at hy2
     have c4 := eq_false_of_ne_true c4
     refine RL.yesD rfl rfl c4 (by decide) (opv_move rfl rfl) ?_
     refine RL.yesD rfl rfl c4 (by decide) (opv_not rfl rfl) ?_
     refine RL.opD (by decide) (opv_pick rfl rfl (fun e => absurd (Eq.trans (Eq.symm e) c4) (by decide)) (fun _ => rfl) rfl) ?_
     refine RL.opD (by decide) (opv_move rfl rfl) ?_
     by_cases c5 : (!x10.2.2.2) = true
     ·rw [if_pos c5] at hy2
      refine RL.noT rfl rfl c5 (by decide) ?_
      refine RL.noT rfl rfl c5 (by decide) ?_
      refine RL.opD (by decide) (opv_pick rfl rfl (fun _ => rfl) (fun e => absurd (Eq.trans (Eq.symm e) c5) (by decide)) rfl) ?_
      refine RL.opD (by decide) (opv_move rfl rfl) ?_
      refine RL.noT rfl rfl rfl (by decide) ?_
      refine RL.noT rfl rfl rfl (by decide) ?_
      refine RL.opD (by decide) (opv_pick rfl rfl (fun _ => rfl) (fun e => absurd (Eq.trans (Eq.symm e) rfl) (by decide)) rfl) ?_
      refine RL.opD (by decide) (opv_move rfl rfl) ?_
      refine RL.noT rfl rfl rfl (by decide) ?_
      refine RL.noT rfl rfl rfl (by decide) ?_
      refine RL.opD (by decide) (opv_pick rfl rfl (fun _ => rfl) (fun e => absurd (Eq.trans (Eq.symm e) rfl) (by decide)) rfl) ?_
      refine RL.opD (by decide) (opv_move rfl rfl) ?_
      refine RL.noT rfl rfl rfl (by decide) ?_
      refine RL.noT rfl rfl rfl (by decide) ?_
      refine RL.opD (by decide) (opv_pick rfl rfl (fun _ => rfl) (fun e => absurd (Eq.trans (Eq.symm e) rfl) (by decide)) rfl) ?_
      refine RL.opD (by decide) (opv_move rfl rfl) ?_
      refine RL.noT rfl rfl rfl (by decide) ?_
      refine RL.noT rfl rfl rfl (by decide) ?_
      refine RL.opD (by decide) (opv_pick rfl rfl (fun _ => rfl) (fun e => absurd (Eq.trans (Eq.symm e) rfl) (by decide)) rfl) ?_
      refine RL.opD (by decide) (opv_move rfl rfl) ?_
      refine RL.noT rfl rfl rfl (by decide) ?_
      refine RL.noT rfl rfl rfl (by decide) ?_
      refine RL.opD (by decide) (opv_pick rfl rfl (fun _ => rfl) (fun e => absurd (Eq.trans (Eq.symm e) rfl) (by decide)) rfl) ?_
      refine RL.opD (by decide) (opv_move rfl rfl) ?_
      refine RL.noT rfl rfl rfl (by decide) ?_
      refine RL.noT rfl rfl rfl (by decide) ?_
      refine RL.opD (by decide) (opv_pick rfl rfl (fun _ => rfl) (fun e => absurd (Eq.trans (Eq.symm e) rfl) (by decide)) rfl) ?_
      refine RL.opD (by decide) (opv_move rfl rfl) ?_
      refine RL.noT rfl rfl rfl (by decide) ?_
      refine RL.noT rfl rfl rfl (by decide) ?_
      refine RL.noT rfl rfl rfl (by decide) ?_
      refine RL.noT rfl rfl rfl (by decide) ?_
      refine RL.opD (by decide) (opv_pick rfl rfl (fun _ => rfl) (fun e => absurd (Eq.trans (Eq.symm e) rfl) (by decide)) rfl) ?_
      refine RL.opD (by decide) (opv_move rfl rfl) ?_
      refine RL.noT rfl rfl rfl (by decide) ?_
      refine RL.noT rfl rfl rfl (by decide) ?_
      refine RL.noT rfl rfl rfl (by decide) ?_
      refine RL.noU rfl rfl (by decide) ?_
      refine RL.noU rfl rfl (by decide) ?_
      refine RL.noU rfl rfl (by decide) ?_
      refine RL.noU rfl rfl (by decide) ?_
      refine RL.noT rfl rfl rfl (by decide) ?_
      refine RL.opD (by decide) (opv_pick rfl rfl (fun _ => rfl) (fun e => absurd (Eq.trans (Eq.symm e) rfl) (by decide)) rfl) ?_
      refine RL.nil ?_
      have ey2 := Option.some.inj hy2
      subst ey2
      refine onlyN ?_
      exact ⟨⟨rfl, rfl, rfl, rfl, rfl, rfl, rfl, rfl, rfl, rfl, rfl, rfl, rfl, rfl, rfl, rfl, rfl, rfl, rfl, rfl, rfl, rfl, rfl, rfl, rfl, rfl, rfl, rfl, rfl, rfl, rfl, rfl, trivial⟩, rfl⟩
     ·rw [if_neg c5] at hy2
      have c5 := eq_false_of_ne_true c5
      refine RL.yesD rfl rfl c5 (by decide) (opv_move rfl rfl) ?_
      refine RL.yesD rfl rfl c5 (by decide) (opv_not rfl rfl) ?_
      refine RL.opD (by decide) (opv_pick rfl rfl (fun e => absurd (Eq.trans (Eq.symm e) c5) (by decide)) (fun _ => rfl) rfl) ?_
      refine RL.opD (by decide) (opv_move rfl rfl) ?_
      by_cases c6 : (!x11.2) = true
      ·rw [if_pos c6] at hy2
       refine RL.noT rfl rfl c6 (by decide) ?_
       refine RL.noT rfl rfl c6 (by decide) ?_
       refine RL.opD (by decide) (opv_pick rfl rfl (fun _ => rfl) (fun e => absurd (Eq.trans (Eq.symm e) c6) (by decide)) rfl) ?_
       refine RL.opD (by decide) (opv_move rfl rfl) ?_
       refine RL.noT rfl rfl rfl (by decide) ?_
       refine RL.noT rfl rfl rfl (by decide) ?_
       refine RL.opD (by decide) (opv_pick rfl rfl (fun _ => rfl) (fun e => absurd (Eq.trans (Eq.symm e) rfl) (by decide)) rfl) ?_
       refine RL.opD (by decide) (opv_move rfl rfl) ?_
       refine RL.noT rfl rfl rfl (by decide) ?_
       refine RL.noT rfl rfl rfl (by decide) ?_
       refine RL.opD (by decide) (opv_pick rfl rfl (fun _ => rfl) (fun e => absurd (Eq.trans (Eq.symm e) rfl) (by decide)) rfl) ?_
       refine RL.opD (by decide) (opv_move rfl rfl) ?_
       refine RL.noT rfl rfl rfl (by decide) ?_
       refine RL.noT rfl rfl rfl (by decide) ?_
       refine RL.opD (by decide) (opv_pick rfl rfl (fun _ => rfl) (fun e => absurd (Eq.trans (Eq.symm e) rfl) (by decide)) rfl) ?_
       refine RL.opD (by decide) (opv_move rfl rfl) ?_
       refine RL.noT rfl rfl rfl (by decide) ?_
       refine RL.noT rfl rfl rfl (by decide) ?_
       refine RL.opD (by decide) (opv_pick rfl rfl (fun _ => rfl) (fun e => absurd (Eq.trans (Eq.symm e) rfl) (by decide)) rfl) ?_
       refine RL.opD (by decide) (opv_move rfl rfl) ?_
       refine RL.noT rfl rfl rfl (by decide) ?_
       refine RL.noT rfl rfl rfl (by decide) ?_
       refine RL.opD (by decide) (opv_pick rfl rfl (fun _ => rfl) (fun e => absurd (Eq.trans (Eq.symm e) rfl) (by decide)) rfl) ?_
       refine RL.opD (by decide) (opv_move rfl rfl) ?_
       refine RL.noT rfl rfl rfl (by decide) ?_
       refine RL.noT rfl rfl rfl (by decide) ?_
       refine RL.noT rfl rfl rfl (by decide) ?_
       refine RL.noT rfl rfl rfl (by decide) ?_
       refine RL.opD (by decide) (opv_pick rfl rfl (fun _ => rfl) (fun e => absurd (Eq.trans (Eq.symm e) rfl) (by decide)) rfl) ?_
       refine RL.opD (by decide) (opv_move rfl rfl) ?_
       refine RL.noT rfl rfl rfl (by decide) ?_
       refine RL.noT rfl rfl rfl (by decide) ?_
       refine RL.noT rfl rfl rfl (by decide) ?_
       refine RL.noU rfl rfl (by decide) ?_
       refine RL.noU rfl rfl (by decide) ?_
       refine RL.noU rfl rfl (by decide) ?_
       refine RL.noU rfl rfl (by decide) ?_
       refine RL.noT rfl rfl rfl (by decide) ?_
       refine RL.opD (by decide) (opv_pick rfl rfl (fun _ => rfl) (fun e => absurd (Eq.trans (Eq.symm e) rfl) (by decide)) rfl) ?_
       refine RL.nil ?_
       have ey2 := Option.some.inj hy2
       subst ey2
       refine onlyN ?_
       exact ⟨⟨rfl, rfl, rfl, rfl, rfl, rfl, rfl, rfl, rfl, rfl, rfl, rfl, rfl, rfl, rfl, rfl, rfl, rfl, rfl, rfl, rfl, rfl, rfl, rfl, rfl, rfl, rfl, rfl, rfl, rfl, rfl, rfl, trivial⟩, rfl⟩
      ·rw [if_neg c6] at hy2
       have c6 := eq_false_of_ne_true c6
       refine RL.yesD rfl rfl c6 (by decide) (opv_move rfl rfl) ?_
       refine RL.yesD rfl rfl c6 (by decide) (opv_not rfl rfl) ?_
       refine RL.opD (by decide) (opv_pick rfl rfl (fun e => absurd (Eq.trans (Eq.symm e) c6) (by decide)) (fun _ => rfl) rfl) ?_
       refine RL.opD (by decide) (opv_move rfl rfl) ?_
       by_cases c7 : (!x12.2) = true
       ·rw [if_pos c7] at hy2
        refine RL.noT rfl rfl c7 (by decide) ?_
        refine RL.noT rfl rfl c7 (by decide) ?_
        refine RL.opD (by decide) (opv_pick rfl rfl (fun _ => rfl) (fun e => absurd (Eq.trans (Eq.symm e) c7) (by decide)) rfl) ?_
        refine RL.opD (by decide) (opv_move rfl rfl) ?_
        refine RL.noT rfl rfl rfl (by decide) ?_
        refine RL.noT rfl rfl rfl (by decide) ?_
        refine RL.opD (by decide) (opv_pick rfl rfl (fun _ => rfl) (fun e => absurd (Eq.trans (Eq.symm e) rfl) (by decide)) rfl) ?_
        refine RL.opD (by decide) (opv_move rfl rfl) ?_
        refine RL.noT rfl rfl rfl (by decide) ?_
        refine RL.noT rfl rfl rfl (by decide) ?_
        refine RL.opD (by decide) (opv_pick rfl rfl (fun _ => rfl) (fun e => absurd (Eq.trans (Eq.symm e) rfl) (by decide)) rfl) ?_
        refine RL.opD (by decide) (opv_move rfl rfl) ?_
        refine RL.noT rfl rfl rfl (by decide) ?_
        refine RL.noT rfl rfl rfl (by decide) ?_
        refine RL.opD (by decide) (opv_pick rfl rfl (fun _ => rfl) (fun e => absurd (Eq.trans (Eq.symm e) rfl) (by decide)) rfl) ?_
        refine RL.opD (by decide) (opv_move rfl rfl) ?_
        refine RL.noT rfl rfl rfl (by decide) ?_
        refine RL.noT rfl rfl rfl (by decide) ?_
        refine RL.opD (by decide) (opv_pick rfl rfl (fun _ => rfl) (fun e => absurd (Eq.trans (Eq.symm e) rfl) (by decide)) rfl) ?_
        refine RL.opD (by decide) (opv_move rfl rfl) ?_
        refine RL.noT rfl rfl rfl (by decide) ?_
        refine RL.noT rfl rfl rfl (by decide) ?_
        refine RL.noT rfl rfl rfl (by decide) ?_
        refine RL.noT rfl rfl rfl (by decide) ?_
        refine RL.opD (by decide) (opv_pick rfl rfl (fun _ => rfl) (fun e => absurd (Eq.trans (Eq.symm e) rfl) (by decide)) rfl) ?_
        refine RL.opD (by decide) (opv_move rfl rfl) ?_
        refine RL.noT rfl rfl rfl (by decide) ?_
        refine RL.noT rfl rfl rfl (by decide) ?_
        refine RL.noT rfl rfl rfl (by decide) ?_
        refine RL.noU rfl rfl (by decide) ?_
        refine RL.noU rfl rfl (by decide) ?_
        refine RL.noU rfl rfl (by decide) ?_
        refine RL.noU rfl rfl (by decide) ?_
        refine RL.noT rfl rfl rfl (by decide) ?_
        refine RL.opD (by decide) (opv_pick rfl rfl (fun _ => rfl) (fun e => absurd (Eq.trans (Eq.symm e) rfl) (by decide)) rfl) ?_
        refine RL.nil ?_
        have ey2 := Option.some.inj hy2
        subst ey2
        refine onlyN ?_
        exact ⟨⟨rfl, rfl, rfl, rfl, rfl, rfl, rfl, rfl, rfl, rfl, rfl, rfl, rfl, rfl, rfl, rfl, rfl, rfl, rfl, rfl, rfl, rfl, rfl, rfl, rfl, rfl, rfl, rfl, rfl, rfl, rfl, rfl, trivial⟩, rfl⟩
       ·rw [if_neg c7] at hy2
        have c7 := eq_false_of_ne_true c7
        refine RL.yesD rfl rfl c7 (by decide) (opv_move rfl rfl) ?_
        refine RL.yesD rfl rfl c7 (by decide) (opv_not rfl rfl) ?_
        refine RL.opD (by decide) (opv_pick rfl rfl (fun e => absurd (Eq.trans (Eq.symm e) c7) (by decide)) (fun _ => rfl) rfl) ?_
        refine RL.opD (by decide) (opv_move rfl rfl) ?_
        by_cases c8 : (!x13.2.2.2) = true
        ·rw [if_pos c8] at hy2
         refine RL.noT rfl rfl c8 (by decide) ?_
         refine RL.noT rfl rfl c8 (by decide) ?_
         refine RL.opD (by decide) (opv_pick rfl rfl (fun _ => rfl) (fun e => absurd (Eq.trans (Eq.symm e) c8) (by decide)) rfl) ?_
         refine RL.opD (by decide) (opv_move rfl rfl) ?_
         refine RL.noT rfl rfl rfl (by decide) ?_
         refine RL.noT rfl rfl rfl (by decide) ?_
         refine RL.opD (by decide) (opv_pick rfl rfl (fun _ => rfl) (fun e => absurd (Eq.trans (Eq.symm e) rfl) (by decide)) rfl) ?_
         refine RL.opD (by decide) (opv_move rfl rfl) ?_
         refine RL.noT rfl rfl rfl (by decide) ?_
         refine RL.noT rfl rfl rfl (by decide) ?_
         refine RL.opD (by decide) (opv_pick rfl rfl (fun _ => rfl) (fun e => absurd (Eq.trans (Eq.symm e) rfl) (by decide)) rfl) ?_
         refine RL.opD (by decide) (opv_move rfl rfl) ?_
         refine RL.noT rfl rfl rfl (by decide) ?_
         refine RL.noT rfl rfl rfl (by decide) ?_
         refine RL.opD (by decide) (opv_pick rfl rfl (fun _ => rfl) (fun e => absurd (Eq.trans (Eq.symm e) rfl) (by decide)) rfl) ?_
         refine RL.opD (by decide) (opv_move rfl rfl) ?_
         refine RL.noT rfl rfl rfl (by decide) ?_
         refine RL.noT rfl rfl rfl (by decide) ?_
         refine RL.noT rfl rfl rfl (by decide) ?_
         refine RL.noT rfl rfl rfl (by decide) ?_
         refine RL.opD (by decide) (opv_pick rfl rfl (fun _ => rfl) (fun e => absurd (Eq.trans (Eq.symm e) rfl) (by decide)) rfl) ?_
         refine RL.opD (by decide) (opv_move rfl rfl) ?_
         refine RL.noT rfl rfl rfl (by decide) ?_
         refine RL.noT rfl rfl rfl (by decide) ?_
         refine RL.noT rfl rfl rfl (by decide) ?_
         refine RL.noU rfl rfl (by decide) ?_
         refine RL.noU rfl rfl (by decide) ?_
         refine RL.noU rfl rfl (by decide) ?_
         refine RL.noU rfl rfl (by decide) ?_
         refine RL.noT rfl rfl rfl (by decide) ?_
         refine RL.opD (by decide) (opv_pick rfl rfl (fun _ => rfl) (fun e => absurd (Eq.trans (Eq.symm e) rfl) (by decide)) rfl) ?_
         refine RL.nil ?_
         have ey2 := Option.some.inj hy2
         subst ey2
         refine onlyN ?_
         exact ⟨⟨rfl, rfl, rfl, rfl, rfl, rfl, rfl, rfl, rfl, rfl, rfl, rfl, rfl, rfl, rfl, rfl, rfl, rfl, rfl, rfl, rfl, rfl, rfl, rfl, rfl, rfl, rfl, rfl, rfl, rfl, rfl, rfl, trivial⟩, rfl⟩
        ·rw [if_neg c8] at hy2
         have c8 := eq_false_of_ne_true c8
         refine RL.yesD rfl rfl c8 (by decide) (opv_move rfl rfl) ?_
         refine RL.yesD rfl rfl c8 (by decide) (opv_not rfl rfl) ?_
         refine RL.opD (by decide) (opv_pick rfl rfl (fun e => absurd (Eq.trans (Eq.symm e) c8) (by decide)) (fun _ => rfl) rfl) ?_
         refine RL.opD (by decide) (opv_move rfl rfl) ?_
         by_cases c9 : (!x14.2) = true
         ·rw [if_pos c9] at hy2
          refine RL.noT rfl rfl c9 (by decide) ?_
          refine RL.noT rfl rfl c9 (by decide) ?_
          refine RL.opD (by decide) (opv_pick rfl rfl (fun _ => rfl) (fun e => absurd (Eq.trans (Eq.symm e) c9) (by decide)) rfl) ?_
          refine RL.opD (by decide) (opv_move rfl rfl) ?_
          refine RL.noT rfl rfl rfl (by decide) ?_
          refine RL.noT rfl rfl rfl (by decide) ?_
          refine RL.opD (by decide) (opv_pick rfl rfl (fun _ => rfl) (fun e => absurd (Eq.trans (Eq.symm e) rfl) (by decide)) rfl) ?_
          refine RL.opD (by decide) (opv_move rfl rfl) ?_
          refine RL.noT rfl rfl rfl (by decide) ?_
          refine RL.noT rfl rfl rfl (by decide) ?_
          refine RL.opD (by decide) (opv_pick rfl rfl (fun _ => rfl) (fun e => absurd (Eq.trans (Eq.symm e) rfl) (by decide)) rfl) ?_
          refine RL.opD (by decide) (opv_move rfl rfl) ?_
          refine RL.noT rfl rfl rfl (by decide) ?_
          refine RL.noT rfl rfl rfl (by decide) ?_
          refine RL.noT rfl rfl rfl (by decide) ?_
          refine RL.noT rfl rfl rfl (by decide) ?_
          refine RL.opD (by decide) (opv_pick rfl rfl (fun _ => rfl) (fun e => absurd (Eq.trans (Eq.symm e) rfl) (by decide)) rfl) ?_
          refine RL.opD (by decide) (opv_move rfl rfl) ?_
          refine RL.noT rfl rfl rfl (by decide) ?_
          refine RL.noT rfl rfl rfl (by decide) ?_
          refine RL.noT rfl rfl rfl (by decide) ?_
          refine RL.noU rfl rfl (by decide) ?_
          refine RL.noU rfl rfl (by decide) ?_
          refine RL.noU rfl rfl (by decide) ?_
          refine RL.noU rfl rfl (by decide) ?_
          refine RL.noT rfl rfl rfl (by decide) ?_
          refine RL.opD (by decide) (opv_pick rfl rfl (fun _ => rfl) (fun e => absurd (Eq.trans (Eq.symm e) rfl) (by decide)) rfl) ?_
          refine RL.nil ?_
          have ey2 := Option.some.inj hy2
          subst ey2
          refine onlyN ?_
          exact ⟨⟨rfl, rfl, rfl, rfl, rfl, rfl, rfl, rfl, rfl, rfl, rfl, rfl, rfl, rfl, rfl, rfl, rfl, rfl, rfl, rfl, rfl, rfl, rfl, rfl, rfl, rfl, rfl, rfl, rfl, rfl, rfl, rfl, trivial⟩, rfl⟩
         ·rw [if_neg c9] at hy2
          have c9 := eq_false_of_ne_true c9
          refine RL.yesD rfl rfl c9 (by decide) (opv_move rfl rfl) ?_
          refine RL.yesD rfl rfl c9 (by decide) (opv_not rfl rfl) ?_
          refine RL.opD (by decide) (opv_pick rfl rfl (fun e => absurd (Eq.trans (Eq.symm e) c9) (by decide)) (fun _ => rfl) rfl) ?_
          refine RL.opD (by decide) (opv_move rfl rfl) ?_
          by_cases c10 : (!x15.2.2.2) = true
          ·rw [if_pos c10] at hy2
           refine RL.noT rfl rfl c10 (by decide) ?_
           refine RL.noT rfl rfl c10 (by decide) ?_
           refine RL.opD (by decide) (opv_pick rfl rfl (fun _ => rfl) (fun e => absurd (Eq.trans (Eq.symm e) c10) (by decide)) rfl) ?_
           refine RL.opD (by decide) (opv_move rfl rfl) ?_
           refine RL.noT rfl rfl rfl (by decide) ?_
           refine RL.noT rfl rfl rfl (by decide) ?_
           refine RL.opD (by decide) (opv_pick rfl rfl (fun _ => rfl) (fun e => absurd (Eq.trans (Eq.symm e) rfl) (by decide)) rfl) ?_
           refine RL.opD (by decide) (opv_move rfl rfl) ?_
           refine RL.noT rfl rfl rfl (by decide) ?_
           refine RL.noT rfl rfl rfl (by decide) ?_
           refine RL.noT rfl rfl rfl (by decide) ?_
           refine RL.noT rfl rfl rfl (by decide) ?_
           refine RL.opD (by decide) (opv_pick rfl rfl (fun _ => rfl) (fun e => absurd (Eq.trans (Eq.symm e) rfl) (by decide)) rfl) ?_
           refine RL.opD (by decide) (opv_move rfl rfl) ?_
           refine RL.noT rfl rfl rfl (by decide) ?_
           refine RL.noT rfl rfl rfl (by decide) ?_
           refine RL.noT rfl rfl rfl (by decide) ?_
           refine RL.noU rfl rfl (by decide) ?_
           refine RL.noU rfl rfl (by decide) ?_
           refine RL.noU rfl rfl (by decide) ?_
           refine RL.noU rfl rfl (by decide) ?_
           refine RL.noT rfl rfl rfl (by decide) ?_
           refine RL.opD (by decide) (opv_pick rfl rfl (fun _ => rfl) (fun e => absurd (Eq.trans (Eq.symm e) rfl) (by decide)) rfl) ?_
           refine RL.nil ?_
           have ey2 := Option.some.inj hy2
           subst ey2
           refine onlyN ?_
           exact ⟨⟨rfl, rfl, rfl, rfl, rfl, rfl, rfl, rfl, rfl, rfl, rfl, rfl, rfl, rfl, rfl, rfl, rfl, rfl, rfl, rfl, rfl, rfl, rfl, rfl, rfl, rfl, rfl, rfl, rfl, rfl, rfl, rfl, trivial⟩, rfl⟩
          ·rw [if_neg c10] at hy2
           have c10 := eq_false_of_ne_true c10
           refine RL.yesD rfl rfl c10 (by decide) (opv_move rfl rfl) ?_
           refine RL.yesD rfl rfl c10 (by decide) (opv_not rfl rfl) ?_
           refine RL.opD (by decide) (opv_pick rfl rfl (fun e => absurd (Eq.trans (Eq.symm e) c10) (by decide)) (fun _ => rfl) rfl) ?_
           refine RL.opD (by decide) (opv_move rfl rfl) ?_
           by_cases c11 : (!x16.2) = true
           ·rw [if_pos c11] at hy2
            refine RL.noT rfl rfl c11 (by decide) ?_
            refine RL.noT rfl rfl c11 (by decide) ?_
            refine RL.opD (by decide) (opv_pick rfl rfl (fun _ => rfl) (fun e => absurd (Eq.trans (Eq.symm e) c11) (by decide)) rfl) ?_
            refine RL.opD (by decide) (opv_move rfl rfl) ?_
            refine RL.noT rfl rfl rfl (by decide) ?_
            refine RL.noT rfl rfl rfl (by decide) ?_
            refine RL.noT rfl rfl rfl (by decide) ?_
            refine RL.noT rfl rfl rfl (by decide) ?_
            refine RL.opD (by decide) (opv_pick rfl rfl (fun _ => rfl) (fun e => absurd (Eq.trans (Eq.symm e) rfl) (by decide)) rfl) ?_
            refine RL.opD (by decide) (opv_move rfl rfl) ?_
            refine RL.noT rfl rfl rfl (by decide) ?_
            refine RL.noT rfl rfl rfl (by decide) ?_
            refine RL.noT rfl rfl rfl (by decide) ?_
            refine RL.noU rfl rfl (by decide) ?_
            refine RL.noU rfl rfl (by decide) ?_
            refine RL.noU rfl rfl (by decide) ?_
            refine RL.noU rfl rfl (by decide) ?_
            refine RL.noT rfl rfl rfl (by decide) ?_
            refine RL.opD (by decide) (opv_pick rfl rfl (fun _ => rfl) (fun e => absurd (Eq.trans (Eq.symm e) rfl) (by decide)) rfl) ?_
            refine RL.nil ?_
            have ey2 := Option.some.inj hy2
            subst ey2
            refine onlyN ?_
            exact ⟨⟨rfl, rfl, rfl, rfl, rfl, rfl, rfl, rfl, rfl, rfl, rfl, rfl, rfl, rfl, rfl, rfl, rfl, rfl, rfl, rfl, rfl, rfl, rfl, rfl, rfl, rfl, rfl, rfl, rfl, rfl, rfl, rfl, trivial⟩, rfl⟩
           ·rw [if_neg c11] at hy2
            have c11 := eq_false_of_ne_true c11
            refine RL.yesD rfl rfl c11 (by decide) (opv_move rfl rfl) ?_
            refine RL.yesD rfl rfl c11 (by decide) (opv_not rfl rfl) ?_
            refine RL.opD (by decide) (opv_pick rfl rfl (fun e => absurd (Eq.trans (Eq.symm e) c11) (by decide)) (fun _ => rfl) rfl) ?_
            refine RL.opD (by decide) (opv_move rfl rfl) ?_
            by_cases c12 : (!x17.2) = true
            ·rw [if_pos c12] at hy2
             refine RL.noT rfl rfl c12 (by decide) ?_
             refine RL.noT rfl rfl c12 (by decide) ?_
             refine RL.noT rfl rfl c12 (by decide) ?_
             refine RL.noT rfl rfl c12 (by decide) ?_
             refine RL.opD (by decide) (opv_pick rfl rfl (fun _ => rfl) (fun e => absurd (Eq.trans (Eq.symm e) c12) (by decide)) rfl) ?_
             refine RL.opD (by decide) (opv_move rfl rfl) ?_
             refine RL.noT rfl rfl rfl (by decide) ?_
             refine RL.noT rfl rfl rfl (by decide) ?_
             refine RL.noT rfl rfl rfl (by decide) ?_
             refine RL.noU rfl rfl (by decide) ?_
             refine RL.noU rfl rfl (by decide) ?_
             refine RL.noU rfl rfl (by decide) ?_
             refine RL.noU rfl rfl (by decide) ?_
             refine RL.noT rfl rfl rfl (by decide) ?_
             refine RL.opD (by decide) (opv_pick rfl rfl (fun _ => rfl) (fun e => absurd (Eq.trans (Eq.symm e) rfl) (by decide)) rfl) ?_
             refine RL.nil ?_
             have ey2 := Option.some.inj hy2
             subst ey2
             refine onlyN ?_
             exact ⟨⟨rfl, rfl, rfl, rfl, rfl, rfl, rfl, rfl, rfl, rfl, rfl, rfl, rfl, rfl, rfl, rfl, rfl, rfl, rfl, rfl, rfl, rfl, rfl, rfl, rfl, rfl, rfl, rfl, rfl, rfl, rfl, rfl, trivial⟩, rfl⟩
            ·rw [if_neg c12] at hy2
             have c12 := eq_false_of_ne_true c12
             refine RL.yesD rfl rfl c12 (by decide) (opv_move rfl rfl) ?_
             refine RL.yes _ rfl rfl c12 (by decide) (opv_widen rfl (by rw [Try.underlying29]; rfl) Try.underlying43 rfl fv9) ?_
             rintro v20 _ ⟨fv20, rfl⟩
             obtain ⟨x20, hx20, hy2⟩ := Option.bind_eq_some_iff.1 hy2
             refine RL.yes _ rfl rfl c12 (by decide) (opv_call (cap := []) (laws_r8Gap_ok _ _ _ fv20 _ _ (isF_lit .f64 4609434218613702656 (by decide) (by decide)) _ hx20) rfl rfl ⟨rfl, rfl, trivial⟩ Try.func21 rfl rfl) ?_
             rintro v21 _ ⟨fv21, rfl⟩
             refine RL.yesD rfl rfl c12 (by decide) (opv_fcmp rfl rfl rfl rfl fv21 (isF_lit .f64 4562254508917369340 (by decide) (by decide))) ?_
             refine RL.opD (by decide) (opv_pick rfl rfl (fun e => absurd (Eq.trans (Eq.symm e) c12) (by decide)) (fun _ => rfl) rfl) ?_
             refine RL.opD (by decide) (opv_move rfl rfl) ?_
             by_cases c13 : (fcmp .gtr .f64 x20 (some 4562254508917369340)) = true
             ·rw [if_pos c13] at hy2
              refine RL.noT rfl rfl c13 (by decide) ?_
              refine RL.noT rfl rfl c13 (by decide) ?_
              refine RL.noT rfl rfl c13 (by decide) ?_
              refine RL.noU rfl rfl (by decide) ?_
              refine RL.noU rfl rfl (by decide) ?_
              refine RL.noU rfl rfl (by decide) ?_
              refine RL.noU rfl rfl (by decide) ?_
              refine RL.noT rfl rfl c13 (by decide) ?_
              refine RL.opD (by decide) (opv_pick rfl rfl (fun _ => rfl) (fun e => absurd (Eq.trans (Eq.symm e) c13) (by decide)) rfl) ?_
              refine RL.nil ?_
              have ey2 := Option.some.inj hy2
              subst ey2
              refine onlyN ?_
              exact ⟨⟨rfl, rfl, rfl, rfl, rfl, rfl, rfl, rfl, rfl, rfl, rfl, rfl, rfl, rfl, rfl, rfl, rfl, rfl, rfl, rfl, rfl, rfl, rfl, rfl, rfl, rfl, rfl, rfl, rfl, rfl, rfl, rfl, trivial⟩, rfl⟩
             ·rw [if_neg c13] at hy2
              have c13 := eq_false_of_ne_true c13
              refine RL.yesD rfl rfl c13 (by decide) (opv_move rfl rfl) ?_
              refine RL.yesD rfl rfl c13 (by decide) (opv_not rfl rfl) ?_
              refine RL.yesD rfl rfl c13 (by decide) (opv_move rfl rfl) ?_
              by_cases c14 : (!x18) = true
              ·rw [if_pos c14] at hy2
               refine RL.yesD rfl rfl c14 (by decide) (opv_move rfl rfl) ?_
               refine RL.yes _ rfl rfl c14 (by decide) (opv_widen rfl (by rw [Try.underlying29]; rfl) Try.underlying43 rfl fv10) ?_
               rintro v22 _ ⟨fv22, rfl⟩
               obtain ⟨x21, hx21, hy2⟩ := Option.bind_eq_some_iff.1 hy2
               refine RL.yes _ rfl rfl c14 (by decide) (opv_call (cap := []) (laws_r8Gap_ok _ _ _ fv22 _ _ (isF_lit .f64 0 (by decide) (by decide)) _ hx21) rfl rfl ⟨rfl, rfl, trivial⟩ Try.func21 rfl rfl) ?_
               rintro v23 _ ⟨fv23, rfl⟩
               refine RL.yesD rfl rfl c14 (by decide) (opv_fcmp rfl rfl rfl rfl fv23 (isF_lit .f64 4562254508917369340 (by decide) (by decide))) ?_
               refine RL.yesD rfl rfl c13 (by decide) (opv_pick rfl rfl (fun _ => rfl) (fun e => absurd (Eq.trans (Eq.symm e) c14) (by decide)) rfl) ?_
               refine RL.opD (by decide) (opv_pick rfl rfl (fun e => absurd (Eq.trans (Eq.symm e) c13) (by decide)) (fun _ => rfl) rfl) ?_
               refine RL.nil ?_
               have ey2 := Option.some.inj hy2
               subst ey2
               refine onlyN ?_
               exact ⟨⟨rfl, rfl, rfl, rfl, rfl, rfl, rfl, rfl, rfl, rfl, rfl, rfl, rfl, rfl, rfl, rfl, rfl, rfl, rfl, rfl, rfl, rfl, rfl, rfl, rfl, rfl, rfl, rfl, rfl, rfl, rfl, rfl, trivial⟩, rfl⟩
              ·rw [if_neg c14] at hy2
               have c14 := eq_false_of_ne_true c14
               refine RL.noF rfl rfl c14 (by decide) ?_
               refine RL.noF rfl rfl c14 (by decide) ?_
               refine RL.noF rfl rfl c14 (by decide) ?_
               refine RL.noF rfl rfl c14 (by decide) ?_
               refine RL.yesD rfl rfl c13 (by decide) (opv_pick rfl rfl (fun e => absurd (Eq.trans (Eq.symm e) c14) (by decide)) (fun _ => rfl) rfl) ?_
               refine RL.opD (by decide) (opv_pick rfl rfl (fun e => absurd (Eq.trans (Eq.symm e) c13) (by decide)) (fun _ => rfl) rfl) ?_
               refine RL.nil ?_
               have ey2 := Option.some.inj hy2
               subst ey2
               refine onlyN ?_
               exact ⟨⟨rfl, rfl, rfl, rfl, rfl, rfl, rfl, rfl, rfl, rfl, rfl, rfl, rfl, rfl, rfl, rfl, rfl, rfl, rfl, rfl, rfl, rfl, rfl, rfl, rfl, rfl, rfl, rfl, rfl, rfl, rfl, rfl, trivial⟩, rfl⟩
  rintro φ' _ ⟨hs2, rfl⟩
  refine thnN ?_
  refine W.sub hs2 ?_
  by_cases c15 : x19 = true
  ·rw [if_pos c15] at hp
   refine W.condT rfl c15 ?_
   refine W.seq ?_
   refine W.region ?_
   refine RL.opD (by decide) (opv_assign rfl rfl) ?_
   refine RL.nil ?_
   refine thnN ?_
   refine W.ret ?_
   refine thnR ?_
   have er := Option.some.inj hp
   subst er
   exact Rt.one rfl rfl ⟨rfl, X_20, (Sep.nil _ _ _)⟩
  ·rw [if_neg c15] at hp
   have c15 := eq_false_of_ne_true c15
   refine W.condF rfl c15 ?_
   refine W.skip ?_
   refine thnN ?_
   refine W.seq ?_
   obtain ⟨x22, hy3, hp⟩ := Option.bind_eq_some_iff.1 hp
   refine W.cut (fun φ' h' => Fr.sub [(0, u0), (1, u1), (34, (.bool x1)), (5, (.int .i64 (IntKind.wrap .i64 (4 + x2)))), (6, (.int .i64 (IntKind.wrap .i64 (4 + x3)))), (7, (.int .i64 (IntKind.wrap .i64 (1 + x4)))), (8, (.int .i64 (IntKind.wrap .i64 (1 + x5)))), (9, (.int .i64 (IntKind.wrap .i64 (1 + x6)))), (10, (.int .i64 (IntKind.wrap .i64 (1 + x7)))), (11, (.pointer (some ⟨bb1, 0, none⟩))), (12, (.bool x8.2.2.2.2.2)), (13, (.pointer (some ⟨bb2, 0, none⟩))), (14, (.bool x9.2.2.2)), (15, (.pointer (some ⟨bb3, 0, none⟩))), (16, (.bool x10.2.2.2)), (17, v9), (18, (.bool x11.2)), (19, v10), (20, (.bool x12.2)), (21, (.pointer (some ⟨bb4, 0, none⟩))), (22, (.bool x13.2.2.2)), (23, v14), (24, (.bool x14.2)), (25, (.pointer (some ⟨bb5, 0, none⟩))), (26, (.bool x15.2.2.2)), (27, v18), (28, (.bool x16.2)), (29, v19), (30, (.bool x17.2)), (31, (.bool x18)), (197, (.bool x19)), (4, (.bool x22))] φ' ∧ hp20 = h') ?_ ?_
   ·refine W.region ?_
    refine RL.opD (by decide) (opv_move rfl rfl) ?_
    refine RL.opF (by decide) (opv_widen rfl (by rw [Try.underlying29]; rfl) Try.underlying43 rfl fv14) ?_
    intro v24 fv24
    obtain ⟨x23, hx23, hy3⟩ := Option.bind_eq_some_iff.1 hy3
    refine RL.op _ (by decide) (opv_call (cap := []) (laws_r8Gap_ok _ _ _ fv24 _ _ (isF_lit .f64 0 (by decide) (by decide)) _ hx23) rfl rfl ⟨rfl, rfl, trivial⟩ Try.func21 rfl rfl) ?_
    rintro v25 _ ⟨fv25, rfl⟩
    refine RL.opD (by decide) (opv_fcmp rfl rfl rfl rfl fv25 (isF_lit .f64 4562254508917369340 (by decide) (by decide))) ?_
    refine RL.opD (by decide) (opv_move rfl rfl) ?_
    by_cases c16 : (fcmp .lss .f64 x23 (some 4562254508917369340)) = true
    ·rw [if_pos c16] at hy3
     refine RL.yesD rfl rfl c16 (by decide) (opv_move rfl rfl) ?_
     refine RL.yes _ rfl rfl c16 (by decide) (opv_widen rfl (by rw [Try.underlying29]; rfl) Try.underlying43 rfl fv18) ?_
     rintro v26 _ ⟨fv26, rfl⟩
     refine RL.yesD rfl rfl c16 (by decide) (opv_move rfl rfl) ?_
     refine RL.yes _ rfl rfl c16 (by decide) (opv_widen rfl (by rw [Try.underlying29]; rfl) Try.underlying43 rfl fv9) ?_
     rintro v27 _ ⟨fv27, rfl⟩
     refine RL.yesD rfl rfl c16 (by decide) (opv_move rfl rfl) ?_
     refine RL.yes _ rfl rfl c16 (by decide) (opv_widen rfl (by rw [Try.underlying29]; rfl) Try.underlying43 rfl fv19) ?_
     rintro v28 _ ⟨fv28, rfl⟩
     refine RL.yes _ rfl rfl c16 (by decide) (opv_fop rfl rfl rfl rfl fv27 fv28) ?_
     rintro v29 _ ⟨fv29, rfl⟩
     obtain ⟨x24, hx24, hy3⟩ := Option.bind_eq_some_iff.1 hy3
     refine RL.yes _ rfl rfl c16 (by decide) (opv_call (cap := []) (laws_r8Gap_ok _ _ _ fv26 _ _ fv29 _ hx24) rfl rfl ⟨rfl, rfl, trivial⟩ Try.func21 rfl rfl) ?_
     rintro v30 _ ⟨fv30, rfl⟩
     refine RL.yesD rfl rfl c16 (by decide) (opv_fcmp rfl rfl rfl rfl fv30 (isF_lit .f64 4562254508917369340 (by decide) (by decide))) ?_
     refine RL.opD (by decide) (opv_pick rfl rfl (fun _ => rfl) (fun e => absurd (Eq.trans (Eq.symm e) c16) (by decide)) rfl) ?_
     refine RL.opD (by decide) (opv_assign rfl rfl) ?_
     refine RL.nil ?_
     have ey3 := Option.some.inj hy3
     subst ey3
     refine onlyN ?_
     exact ⟨⟨rfl, rfl, rfl, rfl, rfl, rfl, rfl, rfl, rfl, rfl, rfl, rfl, rfl, rfl, rfl, rfl, rfl, rfl, rfl, rfl, rfl, rfl, rfl, rfl, rfl, rfl, rfl, rfl, rfl, rfl, rfl, rfl, trivial⟩, rfl⟩
    ·rw [if_neg c16] at hy3
     have c16 := eq_false_of_ne_true c16
     refine RL.noF rfl rfl c16 (by decide) ?_
     refine RL.noF rfl rfl c16 (by decide) ?_
     refine RL.noF rfl rfl c16 (by decide) ?_
     refine RL.noF rfl rfl c16 (by decide) ?_
     refine RL.noF rfl rfl c16 (by decide) ?_
     refine RL.noF rfl rfl c16 (by decide) ?_
     refine RL.noF rfl rfl c16 (by decide) ?_
     refine RL.noF rfl rfl c16 (by decide) ?_
     refine RL.noF rfl rfl c16 (by decide) ?_
     refine RL.opD (by decide) (opv_pick rfl rfl (fun e => absurd (Eq.trans (Eq.symm e) c16) (by decide)) (fun _ => rfl) rfl) ?_
     refine RL.opD (by decide) (opv_assign rfl rfl) ?_
     refine RL.nil ?_
     have ey3 := Option.some.inj hy3
     subst ey3
     refine onlyN ?_
     exact ⟨⟨rfl, rfl, rfl, rfl, rfl, rfl, rfl, rfl, rfl, rfl, rfl, rfl, rfl, rfl, rfl, rfl, rfl, rfl, rfl, rfl, rfl, rfl, rfl, rfl, rfl, rfl, rfl, rfl, rfl, rfl, rfl, rfl, trivial⟩, rfl⟩
   rintro φ' _ ⟨hs3, rfl⟩
   refine thnN ?_
   refine W.sub hs3 ?_
   refine W.ret ?_
   have er := Option.some.inj hp
   subst er
   exact Rt.one rfl rfl ⟨rfl, X_20, (Sep.nil _ _ _)⟩

end Go.H
