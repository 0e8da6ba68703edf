/- Functions of the program: what each computes, as a plain function, and that the call comes to it. Written by a program (wip/gen). -/
import Derived.Test.YthccgmjanoeohaaPGrid
import Derived.Test.YthccgmjanoeohaaPSine
import Derived.Test.YthccgmjanoeohaaBase21
import Derived.Test.YthccgmjanoeohaaProg
import Derived.KernelRfl
set_option linter.unusedVariables false
namespace Go.H
open Go Go.Proofs



noncomputable def spec_l08Order (a0 : Int) (a1 : Int) : Option Bool :=
  ((((spec_l00In a0 1 8).bind fun (x2 : Bool) => (if x2 = true then ((spec_l00In a1 1 8).bind fun (x3 : Bool) => some x3) else some false)) : Option Bool).bind fun (x1 : Bool) => some x1)

noncomputable def spec_l02Zero (a0 : Int) : Option ((List (Option Nat)) × (List (Option Nat)) × (List (Option Nat))) :=
  (if 0 ≤ a0 ∧ a0 ≤ 1000000000 then (if 0 ≤ a0 ∧ a0 ≤ 1000000000 then (if 0 ≤ a0 ∧ a0 ≤ 1000000000 then some (List.replicate (Int.toNat a0) (some 0), List.replicate (Int.toNat a0) (some 0), List.replicate (Int.toNat a0) (some 0)) else none) else none) else none)

noncomputable def spec_l08Share (a0 : Int) (a1 : Int) : Option (Option Nat) :=
  ((spec_l01Sine (fop .quo .f32 (fofi .f32 a0) (fofi .f32 a1))).bind fun (x1 : Option Nat) => some x1)

noncomputable def spec_l08Mode.s1 (a0_0 : Int) (a0_1 : Int) (a1 : Int) (a2 : Int) (a3 : Option Nat) (x2 : Int) (x7 : Int) (x8 : List (Option Nat)) : Option ((Int × (List (Option Nat))) ⊕ (Int × Bool × (List (Option Nat)))) :=
  (if (decide (x7 < (IntKind.wrap .i64 (a0_0 - 1)))) = true then ((spec_l08Share (IntKind.wrap .i64 (a1 * x7)) (IntKind.wrap .i64 (2 * (IntKind.wrap .i64 (a0_0 - 1))))).bind fun (x12 : Option Nat) => ((spec_l08Share (IntKind.wrap .i64 (a2 * x2)) (IntKind.wrap .i64 (2 * (IntKind.wrap .i64 (a0_1 - 1))))).bind fun (x13 : Option Nat) => ((idx x8 (IntKind.wrap .i64 (x7 + (IntKind.wrap .i64 (a0_0 * x2))))).bind fun (x14 : Option Nat) => ((setF x8 (IntKind.wrap .i64 (x7 + (IntKind.wrap .i64 (a0_0 * x2)))) (fop .mul .f32 (fop .mul .f32 a3 x12) x13)).bind fun (x15 : List (Option Nat)) => some (.inl (IntKind.wrap .i64 (x7 + 1), x15)))))) else some (.inr (x7, decide (x7 < (IntKind.wrap .i64 (a0_0 - 1))), x8)))

noncomputable def spec_l08Mode.s0 (a0_0 : Int) (a0_1 : Int) (a1 : Int) (a2 : Int) (a3 : Option Nat) (x2 : Int) (x3 : List (Option Nat)) : Option ((Int × (List (Option Nat))) ⊕ (Int × Bool × (List (Option Nat)))) :=
  (if (decide (x2 < (IntKind.wrap .i64 (a0_1 - 1)))) = true then ((loopF (fun (s : (Int × (List (Option Nat)))) => spec_l08Mode.s1 a0_0 a0_1 a1 a2 a3 x2 s.1 s.2) (1, x3)).bind fun (⟨x9, x10, x11⟩ : (Int × Bool × (List (Option Nat)))) => some (.inl (IntKind.wrap .i64 (x2 + 1), x11))) else some (.inr (x2, decide (x2 < (IntKind.wrap .i64 (a0_1 - 1))), x3)))

noncomputable def spec_l08Mode (a0_0 : Int) (a0_1 : Int) (a0_2 : Bool) (a0_3 : List (Option Nat)) (a0_4 : List (Option Nat)) (a1 : Int) (a2 : Int) (a3 : Option Nat) : Option ((List (Option Nat)) × (List (Option Nat)) × (List (Option Nat))) :=
  ((spec_l02Zero (IntKind.wrap .i64 (a0_0 * a0_1))).bind fun (x1 : ((List (Option Nat)) × (List (Option Nat)) × (List (Option Nat)))) => ((loopF (fun (s : (Int × (List (Option Nat)))) => spec_l08Mode.s0 a0_0 a0_1 a1 a2 a3 s.1 s.2) (1, x1.1)).bind fun (⟨x4, x5, x6⟩ : (Int × Bool × (List (Option Nat)))) => some (x6, x1.2.1, x1.2.2)))

noncomputable def spec_ModeField (a0_0 : Int) (a0_1 : Int) (a0_2 : Bool) (a0_3 : List (Option Nat)) (a0_4 : List (Option Nat)) (a1 : Int) (a2 : Int) (a3 : Option Nat) : Option ((List (Option Nat)) × (List (Option Nat)) × (List (Option Nat)) × Bool) :=
  ((((spec_l02Is a0_0 a0_1 a0_2 a0_3 a0_4).bind fun (x2 : Bool) => (if (!x2) = true then some true else (if a0_2 = true then some true else ((spec_l08Order a1 a2).bind fun (x3 : Bool) => (if (!x3) = true then some true else ((spec_l01Finite a3).bind fun (x4 : Bool) => some (!x4))))))) : Option Bool).bind fun (x1 : Bool) => (if x1 = true then some (([] : List (Option Nat)), ([] : List (Option Nat)), ([] : List (Option Nat)), false) else ((spec_l08Mode a0_0 a0_1 a0_2 a0_3 a0_4 a1 a2 a3).bind fun (x5 : ((List (Option Nat)) × (List (Option Nat)) × (List (Option Nat)))) => some (x5.1, x5.2.1, x5.2.2, true))))

noncomputable def impl_isOrder (a0 : Int) : Option Bool :=
  ((impl_within a0 1 8).bind fun (x1 : Bool) => some x1)

noncomputable def impl_isMode (a0_0 : Int) (a0_1 : Int) (a0_2 : Bool) (a0_3 : List (Option Nat)) (a0_4 : List (Option Nat)) (a1 : Int) (a2 : Int) : Option Bool :=
  ((((impl_ValidSheet a0_0 a0_1 a0_2 a0_3 a0_4).bind fun (x2 : Bool) => (if x2 = true then (if (!a0_2) = true then ((impl_isOrder a1).bind fun (x3 : Bool) => (if x3 = true then ((impl_isOrder a2).bind fun (x4 : Bool) => some x4) else some false)) else some false) else some false)) : Option Bool).bind fun (x1 : Bool) => some x1)

noncomputable def impl_zeroField (a0_0 : Int) (a0_1 : Int) (a0_2 : Bool) (a0_3 : List (Option Nat)) (a0_4 : List (Option Nat)) : Option ((List (Option Nat)) × (List (Option Nat)) × (List (Option Nat))) :=
  (if 0 ≤ (IntKind.wrap .i64 (a0_0 * a0_1)) ∧ (IntKind.wrap .i64 (a0_0 * a0_1)) ≤ 1000000000 then (if 0 ≤ (IntKind.wrap .i64 (a0_0 * a0_1)) ∧ (IntKind.wrap .i64 (a0_0 * a0_1)) ≤ 1000000000 then (if 0 ≤ (IntKind.wrap .i64 (a0_0 * a0_1)) ∧ (IntKind.wrap .i64 (a0_0 * a0_1)) ≤ 1000000000 then some (List.replicate (Int.toNat (IntKind.wrap .i64 (a0_0 * a0_1))) (some 0), List.replicate (Int.toNat (IntKind.wrap .i64 (a0_0 * a0_1))) (some 0), List.replicate (Int.toNat (IntKind.wrap .i64 (a0_0 * a0_1))) (some 0)) else none) else none) else none)

noncomputable def impl_Sheet_isBorder (a0_0 : Int) (a0_1 : Int) (a0_2 : Bool) (a0_3 : List (Option Nat)) (a0_4 : List (Option Nat)) (a1 : Int) (a2 : Int) : Option Bool :=
  (((if (!a0_2) = true then (if (a1 == 0) = true then some true else (if (a1 == (IntKind.wrap .i64 (a0_0 - 1))) = true then some true else (if (a2 == 0) = true then some true else some (a2 == (IntKind.wrap .i64 (a0_1 - 1)))))) else some false) : Option Bool).bind fun (x1 : Bool) => some x1)

noncomputable def impl_quotient (a0 : Int) (a1 : Int) : Option (Option Nat) :=
  some (fop .quo .f32 (fofi .f32 a0) (fofi .f32 a1))

noncomputable def impl_modeField_1_2 (a0 : Int) (a1 : Int) (a2 : Int) (ae0_0 : Int) (ae0_1 : Int) (ae0_2 : Bool) (ae0_3 : List (Option Nat)) (ae0_4 : List (Option Nat)) (ae1_0 : Option Nat) (ae2_0 : Int) (ae3_0 : Int) (ae4_0 : List (Option Nat)) (ae4_1 : List (Option Nat)) (ae4_2 : List (Option Nat)) : Option (Int × Int × Bool × (Option Nat) × Int × Int × (List (Option Nat)) × (List (Option Nat)) × (List (Option Nat))) :=
  ((impl_Sheet_isBorder ae0_0 ae0_1 ae0_2 ae0_3 ae0_4 a0 a1).bind fun (x1 : Bool) => (((if (!x1) = true then ((impl_quotient (IntKind.wrap .i64 (ae2_0 * a0)) (IntKind.wrap .i64 (2 * (IntKind.wrap .i64 (ae0_0 - 1))))).bind fun (x3 : Option Nat) => ((impl_SineTurns x3).bind fun (x4 : Option Nat) => ((impl_quotient (IntKind.wrap .i64 (ae3_0 * a1)) (IntKind.wrap .i64 (2 * (IntKind.wrap .i64 (ae0_1 - 1))))).bind fun (x5 : Option Nat) => ((impl_SineTurns x5).bind fun (x6 : Option Nat) => ((idx ae4_0 a2).bind fun (x7 : Option Nat) => ((setF ae4_0 a2 (fop .mul .f32 (fop .mul .f32 ae1_0 x4) x6)).bind fun (x8 : List (Option Nat)) => some x8)))))) else some ae4_0) : Option (List (Option Nat))).bind fun (x2 : List (Option Nat)) => some (ae0_0, ae0_1, ae0_2, ae1_0, ae2_0, ae3_0, x2, ae4_1, ae4_2)))

noncomputable def impl_Sheet_each__impl_modeField_1.s1 (a0_0 : Int) (a0_1 : Int) (a0_2 : Bool) (a0_3 : List (Option Nat)) (a0_4 : List (Option Nat)) (ae0_3 : List (Option Nat)) (ae0_4 : List (Option Nat)) (x1 : Int) (x22 : Int) (x23 : Int) (x24 : Int) (x25 : Bool) (x26 : Option Nat) (x27 : Int) (x28 : Int) (x29 : List (Option Nat)) (x30 : List (Option Nat)) (x31 : List (Option Nat)) : Option ((Int × Int × Int × Bool × (Option Nat) × Int × Int × (List (Option Nat)) × (List (Option Nat)) × (List (Option Nat))) ⊕ (Int × Bool × Int × Int × Bool × (Option Nat) × Int × Int × (List (Option Nat)) × (List (Option Nat)) × (List (Option Nat)))) :=
  (if (decide (x22 < a0_0)) = true then ((impl_Sheet_at a0_0 a0_1 a0_2 a0_3 a0_4 x22 x1).bind fun (x43 : Int) => ((impl_modeField_1_2 x22 x1 x43 x23 x24 x25 ae0_3 ae0_4 x26 x27 x28 x29 x30 x31).bind fun (x44 : (Int × Int × Bool × (Option Nat) × Int × Int × (List (Option Nat)) × (List (Option Nat)) × (List (Option Nat)))) => some (.inl (IntKind.wrap .i64 (x22 + 1), x44.1, x44.2.1, x44.2.2.1, x44.2.2.2.1, x44.2.2.2.2.1, x44.2.2.2.2.2.1, x44.2.2.2.2.2.2.1, x44.2.2.2.2.2.2.2.1, x44.2.2.2.2.2.2.2.2)))) else some (.inr (x22, decide (x22 < a0_0), x23, x24, x25, x26, x27, x28, x29, x30, x31)))

noncomputable def impl_Sheet_each__impl_modeField_1.s0 (a0_0 : Int) (a0_1 : Int) (a0_2 : Bool) (a0_3 : List (Option Nat)) (a0_4 : List (Option Nat)) (ae0_3 : List (Option Nat)) (ae0_4 : List (Option Nat)) (x1 : Int) (x2 : Int) (x3 : Int) (x4 : Bool) (x5 : Option Nat) (x6 : Int) (x7 : Int) (x8 : List (Option Nat)) (x9 : List (Option Nat)) (x10 : List (Option Nat)) : Option ((Int × Int × Int × Bool × (Option Nat) × Int × Int × (List (Option Nat)) × (List (Option Nat)) × (List (Option Nat))) ⊕ (Int × Bool × Int × Int × Bool × (Option Nat) × Int × Int × (List (Option Nat)) × (List (Option Nat)) × (List (Option Nat)))) :=
  (if (decide (x1 < a0_1)) = true then ((loopF (fun (s : (Int × Int × Int × Bool × (Option Nat) × Int × Int × (List (Option Nat)) × (List (Option Nat)) × (List (Option Nat)))) => impl_Sheet_each__impl_modeField_1.s1 a0_0 a0_1 a0_2 a0_3 a0_4 ae0_3 ae0_4 x1 s.1 s.2.1 s.2.2.1 s.2.2.2.1 s.2.2.2.2.1 s.2.2.2.2.2.1 s.2.2.2.2.2.2.1 s.2.2.2.2.2.2.2.1 s.2.2.2.2.2.2.2.2.1 s.2.2.2.2.2.2.2.2.2) (0, x2, x3, x4, x5, x6, x7, x8, x9, x10)).bind fun (⟨x32, x33, x34, x35, x36, x37, x38, x39, x40, x41, x42⟩ : (Int × Bool × Int × Int × Bool × (Option Nat) × Int × Int × (List (Option Nat)) × (List (Option Nat)) × (List (Option Nat)))) => some (.inl (IntKind.wrap .i64 (x1 + 1), x34, x35, x36, x37, x38, x39, x40, x41, x42))) else some (.inr (x1, decide (x1 < a0_1), x2, x3, x4, x5, x6, x7, x8, x9, x10)))

noncomputable def impl_Sheet_each__impl_modeField_1 (a0_0 : Int) (a0_1 : Int) (a0_2 : Bool) (a0_3 : List (Option Nat)) (a0_4 : List (Option Nat)) (ae0_0 : Int) (ae0_1 : Int) (ae0_2 : Bool) (ae0_3 : List (Option Nat)) (ae0_4 : List (Option Nat)) (ae1_0 : Option Nat) (ae2_0 : Int) (ae3_0 : Int) (ae4_0 : List (Option Nat)) (ae4_1 : List (Option Nat)) (ae4_2 : List (Option Nat)) : Option (Int × Int × Bool × (Option Nat) × Int × Int × (List (Option Nat)) × (List (Option Nat)) × (List (Option Nat))) :=
  ((loopF (fun (s : (Int × Int × Int × Bool × (Option Nat) × Int × Int × (List (Option Nat)) × (List (Option Nat)) × (List (Option Nat)))) => impl_Sheet_each__impl_modeField_1.s0 a0_0 a0_1 a0_2 a0_3 a0_4 ae0_3 ae0_4 s.1 s.2.1 s.2.2.1 s.2.2.2.1 s.2.2.2.2.1 s.2.2.2.2.2.1 s.2.2.2.2.2.2.1 s.2.2.2.2.2.2.2.1 s.2.2.2.2.2.2.2.2.1 s.2.2.2.2.2.2.2.2.2) (0, ae0_0, ae0_1, ae0_2, ae1_0, ae2_0, ae3_0, ae4_0, ae4_1, ae4_2)).bind fun (⟨x11, x12, x13, x14, x15, x16, x17, x18, x19, x20, x21⟩ : (Int × Bool × Int × Int × Bool × (Option Nat) × Int × Int × (List (Option Nat)) × (List (Option Nat)) × (List (Option Nat)))) => some (x13, x14, x15, x16, x17, x18, x19, x20, x21))

noncomputable def impl_modeField (a0_0 : Int) (a0_1 : Int) (a0_2 : Bool) (a0_3 : List (Option Nat)) (a0_4 : List (Option Nat)) (a1 : Int) (a2 : Int) (a3 : Option Nat) : Option ((List (Option Nat)) × (List (Option Nat)) × (List (Option Nat))) :=
  ((impl_zeroField a0_0 a0_1 a0_2 a0_3 a0_4).bind fun (x1 : ((List (Option Nat)) × (List (Option Nat)) × (List (Option Nat)))) => ((impl_Sheet_each__impl_modeField_1 a0_0 a0_1 a0_2 a0_3 a0_4 a0_0 a0_1 a0_2 a0_3 a0_4 a3 a1 a2 x1.1 x1.2.1 x1.2.2).bind fun (x2 : (Int × Int × Bool × (Option Nat) × Int × Int × (List (Option Nat)) × (List (Option Nat)) × (List (Option Nat)))) => some (x2.2.2.2.2.2.2.1, x2.2.2.2.2.2.2.2.1, x2.2.2.2.2.2.2.2.2)))

noncomputable def impl_ModeField (a0_0 : Int) (a0_1 : Int) (a0_2 : Bool) (a0_3 : List (Option Nat)) (a0_4 : List (Option Nat)) (a1 : Int) (a2 : Int) (a3 : Option Nat) : Option ((List (Option Nat)) × (List (Option Nat)) × (List (Option Nat)) × Bool) :=
  ((((impl_isMode a0_0 a0_1 a0_2 a0_3 a0_4 a1 a2).bind fun (x2 : Bool) => (if (!x2) = true then some true else ((impl_IsFinite a3).bind fun (x3 : Bool) => some (!x3)))) : Option Bool).bind fun (x1 : Bool) => (if x1 = true then some (([] : List (Option Nat)), ([] : List (Option Nat)), ([] : List (Option Nat)), false) else ((impl_modeField a0_0 a0_1 a0_2 a0_3 a0_4 a1 a2 a3).bind fun (x4 : ((List (Option Nat)) × (List (Option Nat)) × (List (Option Nat)))) => some (x4.1, x4.2.1, x4.2.2, true))))

noncomputable def laws_FnExactModeField (a0_0 : Int) (a0_1 : Int) (a0_2 : Bool) (a0_3 : List (Option Nat)) (a0_4 : List (Option Nat)) (a1 : Int) (a2 : Int) (a3 : Option Nat) : Option Bool :=
  ((laws_szSheet a0_0 a0_1 a0_2 a0_3 a0_4 1048576).bind fun (x1 : Int) => (if (decide (x1 < 0)) = true then some true else ((laws_toSheet a0_0 a0_1 a0_2 a0_3 a0_4).bind fun (x2 : (Int × Int × Bool × (List (Option Nat)) × (List (Option Nat)))) => ((spec_ModeField x2.1 x2.2.1 x2.2.2.1 x2.2.2.2.1 x2.2.2.2.2 a1 a2 a3).bind fun (x3 : ((List (Option Nat)) × (List (Option Nat)) × (List (Option Nat)) × Bool)) => ((laws_toSheet a0_0 a0_1 a0_2 a0_3 a0_4).bind fun (x4 : (Int × Int × Bool × (List (Option Nat)) × (List (Option Nat)))) => ((impl_ModeField x4.1 x4.2.1 x4.2.2.1 x4.2.2.2.1 x4.2.2.2.2 a1 a2 a3).bind fun (x5 : ((List (Option Nat)) × (List (Option Nat)) × (List (Option Nat)) × Bool)) => ((((laws_eqField x5.1 x5.2.1 x5.2.2.1 x3.1 x3.2.1 x3.2.2.1).bind fun (x7 : Bool) => (if (!x7) = true then some true else some (x5.2.2.2 != x3.2.2.2))) : Option Bool).bind fun (x6 : Bool) => (if x6 = true then some false else ((laws_toSheet a0_0 a0_1 a0_2 a0_3 a0_4).bind fun (x8 : (Int × Int × Bool × (List (Option Nat)) × (List (Option Nat)))) => ((laws_eqSheet x4.1 x4.2.1 x4.2.2.1 x4.2.2.2.1 x4.2.2.2.2 x8.1 x8.2.1 x8.2.2.1 x8.2.2.2.1 x8.2.2.2.2).bind fun (x9 : Bool) => (if (!x9) = true then some false else ((laws_markSheet x4.1 x4.2.1 x4.2.2.1 x4.2.2.2.1 x4.2.2.2.2 1).bind fun (x10 : (Int × (List (Option Nat)) × (List (Option Nat)))) => (((if (decide (x10.1 < 0)) = true then some true else ((laws_eqField x5.1 x5.2.1 x5.2.2.1 x3.1 x3.2.1 x3.2.2.1).bind fun (x12 : Bool) => (if (!x12) = true then some true else some (x5.2.2.2 != x3.2.2.2)))) : Option Bool).bind fun (x11 : Bool) => (if x11 = true then some false else ((laws_markField x5.1 x5.2.1 x5.2.2.1 1).bind fun (x13 : (Int × (List (Option Nat)) × (List (Option Nat)) × (List (Option Nat)))) => ((laws_heldField x13.2.1 x13.2.2.1 x13.2.2.2 1).bind fun (x14 : Int) => (if (decide (x14 < 0)) = true then some false else (if (x14 != x13.1) = true then some false else ((laws_toSheet a0_0 a0_1 a0_2 a0_3 a0_4).bind fun (x15 : (Int × Int × Bool × (List (Option Nat)) × (List (Option Nat)))) => ((impl_ModeField x15.1 x15.2.1 x15.2.2.1 x15.2.2.2.1 x15.2.2.2.2 a1 a2 a3).bind fun (x16 : ((List (Option Nat)) × (List (Option Nat)) × (List (Option Nat)) × Bool)) => ((((laws_eqField x16.1 x16.2.1 x16.2.2.1 x3.1 x3.2.1 x3.2.2.1).bind fun (x18 : Bool) => (if (!x18) = true then some true else some (x16.2.2.2 != x3.2.2.2))) : Option Bool).bind fun (x17 : Bool) => (if x17 = true then some false else ((laws_heldField x13.2.1 x13.2.2.1 x13.2.2.2 1).bind fun (x19 : Int) => (if (decide (x19 < 0)) = true then some false else (if (x19 != x13.1) = true then some false else some true)))))))))))))))))))))))))

set_option maxRecDepth 20000 in
theorem spec_l08Order_ok (h0 : Heap) (a0 : Int) (a1 : Int) (r : Bool) (hp : spec_l08Order a0 a1 = some r) : CallsH Try.prog 68 ([(.int .i64 a0), (.int .i64 a1)].toArray ++ [].toArray) h0 (fun v h' => v = (.bool r) ∧ h0 = h') := by
  unfold spec_l08Order at hp
  refine callsH_of_W (l := [(.int .i64 a0), (.int .i64 a1)]) (cap := []) 11 Try.func68 rfl rfl rfl ?_
  refine W.seq ?_
  refine W.region ?_
  refine RL.opD (by decide) (opv_assign rfl rfl) ?_
  refine RL.nil ?_
  refine thnN ?_
  refine W.seq ?_
  obtain ⟨x1, hy1, hp⟩ := Option.bind_eq_some_iff.1 hp
  refine W.cut (fun φ' h' => Fr.sub [(0, (.int .i64 a0)), (1, (.int .i64 a1)), (4, (.bool x1))] φ' ∧ h0 = h') ?_ ?_
  · obtain ⟨x2, hx2, hy1⟩ := Option.bind_eq_some_iff.1 hy1
    by_cases c1 : x2 = true
    · rw [if_pos c1] at hy1
      obtain ⟨x3, hx3, hy1⟩ := Option.bind_eq_some_iff.1 hy1
      refine W.region ?_
      refine RL.opD (by decide) (opv_move rfl rfl) ?_
      refine RL.op _ (by decide) (opv_call (cap := []) (spec_l00In_ok _ _ _ _ _ hx2) rfl rfl ⟨rfl, rfl, rfl, trivial⟩ Try.func76 rfl rfl) ?_
      rintro _ _ ⟨rfl, rfl⟩
      refine RL.opD (by decide) (opv_move rfl rfl) ?_
      refine RL.yes _ rfl rfl c1 (by decide) (opv_move rfl rfl) ?_
      rintro _ _ ⟨rfl, rfl⟩
      refine RL.yes _ rfl rfl c1 (by decide) (opv_call (cap := []) (spec_l00In_ok _ _ _ _ _ hx3) rfl rfl ⟨rfl, rfl, rfl, trivial⟩ Try.func76 rfl rfl) ?_
      rintro _ _ ⟨rfl, rfl⟩
      refine RL.opD (by decide) (opv_pick rfl rfl (fun _ => rfl) (fun e => absurd (Eq.trans (Eq.symm e) c1) (by decide)) rfl) ?_
      refine RL.opD (by decide) (opv_assign rfl rfl) ?_
      refine RL.nil ?_
      have ey1 := Option.some.inj hy1
      subst ey1
      refine onlyN ?_
      exact ⟨⟨rfl, rfl, rfl, trivial⟩, rfl⟩
    · rw [if_neg c1] at hy1
      have c1 := eq_false_of_ne_true c1
      refine W.region ?_
      refine RL.opD (by decide) (opv_move rfl rfl) ?_
      refine RL.op _ (by decide) (opv_call (cap := []) (spec_l00In_ok _ _ _ _ _ hx2) rfl rfl ⟨rfl, rfl, rfl, trivial⟩ Try.func76 rfl rfl) ?_
      rintro _ _ ⟨rfl, rfl⟩
      refine RL.opD (by decide) (opv_move rfl rfl) ?_
      refine RL.no rfl rfl (Eq.trans c1 (by decide)) (by decide) ?_
      refine RL.no rfl rfl (Eq.trans c1 (by decide)) (by decide) ?_
      refine RL.opD (by decide) (opv_pick rfl rfl (fun e => absurd (Eq.trans (Eq.symm e) c1) (by decide)) (fun _ => rfl) rfl) ?_
      refine RL.opD (by decide) (opv_assign rfl rfl) ?_
      refine RL.nil ?_
      have ey1 := Option.some.inj hy1
      subst ey1
      refine onlyN ?_
      exact ⟨⟨rfl, rfl, rfl, trivial⟩, rfl⟩
  rintro φ' _ ⟨hs1, rfl⟩
  refine thnN ?_
  refine W.sub hs1 ?_
  refine W.ret ?_
  have er := Option.some.inj hp
  subst er
  exact Rt.one rfl rfl ⟨rfl, rfl⟩

set_option maxRecDepth 20000 in
theorem spec_l02Zero_ok (h0 : Heap) (a0 : Int) (r : ((List (Option Nat)) × (List (Option Nat)) × (List (Option Nat)))) (hp : spec_l02Zero a0 = some r) : CallsH Try.prog 127 ([(.int .i64 a0)].toArray ++ [].toArray) h0 (fun v h' => ∃ w0, ∃ w1, ∃ w2, v = (.agg (List.toArray (α := Value) [w0, w1, w2])) ∧ Mod [] h0 h' ∧ Sep [] h0.size h' [ownO (kF .f32) 25 w0 r.1, ownO (kF .f32) 25 w1 r.2.1, ownO (kF .f32) 25 w2 r.2.2]) := by
  unfold spec_l02Zero at hp
  refine callsH_of_W (l := [(.int .i64 a0)]) (cap := []) 10 Try.func127 rfl rfl rfl ?_
  refine W.seq ?_
  refine W.region ?_
  refine RL.op _ (by decide) (opS_boxed (opv_alloc (cs := [(.slice none 0 0), (.slice none 0 0), (.slice none 0 0)]) rfl Try.zero28 rfl)) ?_
  rintro _ hp1 ⟨bb1, rfl, MT_1, T_1⟩
  have X_1 : Mod [] h0 hp1 := Mod.step (A := []) (L := []) (Mod.refl [] h0) (Sep.nil [] h0.size h0) MT_1
  have S_1 : Sep [] h0.size hp1 [boxO bb1 [(.slice none 0 0), (.slice none 0 0), (.slice none 0 0)]] := Sep.step (A := []) (L := []) (Sep.nil [] h0.size h0) (Mod.size (Mod.refl [] h0)) MT_1 T_1
  refine RL.nil ?_
  refine thnN ?_
  refine W.seq ?_
  obtain ⟨c1, hp⟩ := of_ite hp
  obtain ⟨c2, hp⟩ := of_ite hp
  obtain ⟨c3, hp⟩ := of_ite hp
  refine W.sub (ψ := [(0, (.int .i64 a0)), (2, (.pointer (some ⟨bb1, 0, none⟩)))]) ⟨rfl, rfl, trivial⟩ ?_
  refine W.regionM [fun v _ => @Eq Value (.int .i64 a0) v, fun v h => Sep [] hp1.size h [ownO (kF .f32) 25 v (List.replicate (Int.toNat a0) (some 0))], fun v _ => @Eq Value (.int .i64 a0) v, fun v h => Sep [] hp1.size h [ownO (kF .f32) 25 v (List.replicate (Int.toNat a0) (some 0))], fun v _ => @Eq Value (.int .i64 a0) v, fun v h => Sep [] hp1.size h [ownO (kF .f32) 25 v (List.replicate (Int.toNat a0) (some 0))]] [none, some (fun u => [u.ownBlock]), none, some (fun u => [u.ownBlock]), none, some (fun u => [u.ownBlock])] [] [[], [0], [], [2], [], [4]] [1, 3, 5] Try.mixed (by decide +kernel) (by decide +kernel) rfl rfl rfl (by decide +kernel) rfl ⟨fun _ _ _ h _ => h, fun _ _ _ h x => h.ext x, fun _ _ _ h _ => h, fun _ _ _ h x => h.ext x, fun _ _ _ h _ => h, fun _ _ _ h x => h.ext x, trivial⟩ ?_ ?_
  · refine ⟨⟨rfl, ?_⟩, ⟨rfl, ?_⟩, ⟨rfl, ?_⟩, ⟨rfl, ?_⟩, ⟨rfl, ?_⟩, ⟨rfl, ?_⟩, trivial⟩
    · rintro hp6 E_1
      refine Dep.nil ?_
      refine GuardOK.none rfl ?_
      exact OpV.toDx (opv_move rfl rfl) rfl
    · rintro hp7 E_2 _ rfl
      refine Dep.nil ?_
      refine GuardOK.none rfl ?_
      exact OpV.mono (opS_make (K := (kF .f32)) (zx := (some 0)) rfl Try.underlying22 Try.einfo25 rfl rfl ⟨_, rfl, (isF_lit .f32 0 (by decide) (by decide))⟩ rfl rfl (by decide) c1) (by rintro _ _ ⟨M_, T_⟩; exact ⟨Mod.ext M_, Sep.weak T_ (Ext.size E_2), Sep.fresh T_⟩)
    · rintro hp8 E_3
      refine Dep.nil ?_
      refine GuardOK.none rfl ?_
      exact OpV.toDx (opv_move rfl rfl) rfl
    · rintro hp9 E_4 _ rfl
      refine Dep.nil ?_
      refine GuardOK.none rfl ?_
      exact OpV.mono (opS_make (K := (kF .f32)) (zx := (some 0)) rfl Try.underlying22 Try.einfo25 rfl rfl ⟨_, rfl, (isF_lit .f32 0 (by decide) (by decide))⟩ rfl rfl (by decide) c2) (by rintro _ _ ⟨M_, T_⟩; exact ⟨Mod.ext M_, Sep.weak T_ (Ext.size E_4), Sep.fresh T_⟩)
    · rintro hp10 E_5
      refine Dep.nil ?_
      refine GuardOK.none rfl ?_
      exact OpV.toDx (opv_move rfl rfl) rfl
    · rintro hp11 E_6 _ rfl
      refine Dep.nil ?_
      refine GuardOK.none rfl ?_
      exact OpV.mono (opS_make (K := (kF .f32)) (zx := (some 0)) rfl Try.underlying22 Try.einfo25 rfl rfl ⟨_, rfl, (isF_lit .f32 0 (by decide) (by decide))⟩ rfl rfl (by decide) c3) (by rintro _ _ ⟨M_, T_⟩; exact ⟨Mod.ext M_, Sep.weak T_ (Ext.size E_6), Sep.fresh T_⟩)
  rintro hp12 E_7 v1 T_2 v2 T_3 v3 T_4
  refine DepM.nil ?_
  intro PW_1 LK_
  have X_6 : Mod [] h0 hp12 := Mod.lift X_1 E_7
  have S_7 : Sep [] h0.size hp12 [ownO (kF .f32) 25 v1 (List.replicate (Int.toNat a0) (some 0)), ownO (kF .f32) 25 v2 (List.replicate (Int.toNat a0) (some 0)), ownO (kF .f32) 25 v3 (List.replicate (Int.toNat a0) (some 0)), boxO bb1 [(.slice none 0 0), (.slice none 0 0), (.slice none 0 0)]] := Sep.join S_1 (Mod.size X_1) (Ext.mod E_7 []) (Sep.both T_2 (Sep.both T_3 T_4 (Apt.symm (Apt.of PW_1 0 1 rfl rfl (by decide)))) (Apt.cat' (Apt.symm (Apt.of PW_1 1 2 rfl rfl (by decide))) (Apt.symm (Apt.of PW_1 0 2 rfl rfl (by decide)))))
  show RL _ _ _ _ (_ :: _) _ _
  refine RL.opD (by decide) (opv_build (cs := [v1, v2, v3]) [(0, [v1]), (1, [v2]), (2, [v3])] [(0, v1), (1, v2), (2, v3)] rfl Try.bd28 ⟨⟨rfl, rfl, rfl, cells1 (ownO.one (Sep.at (o := ownO (kF .f32) 25 v1 (List.replicate (Int.toNat a0) (some 0))) S_7 0 rfl))⟩, ⟨rfl, rfl, rfl, cells1 (ownO.one (Sep.at (o := ownO (kF .f32) 25 v2 (List.replicate (Int.toNat a0) (some 0))) S_7 1 rfl))⟩, ⟨rfl, rfl, rfl, cells1 (ownO.one (Sep.at (o := ownO (kF .f32) 25 v3 (List.replicate (Int.toNat a0) (some 0))) S_7 2 rfl))⟩, trivial⟩ rfl) ?_
  refine RL.op0 _ (opS_stored (cs := [(.slice none 0 0), (.slice none 0 0), (.slice none 0 0)]) (cs' := [v1, v2, v3]) (opv_storeA (us := [v1, v2, v3]) rfl Try.size28 rfl rfl (oneAll (ownO.one (Sep.at (o := ownO (kF .f32) 25 v1 (List.replicate (Int.toNat a0) (some 0))) S_7 0 rfl)) (oneAll (ownO.one (Sep.at (o := ownO (kF .f32) 25 v2 (List.replicate (Int.toNat a0) (some 0))) S_7 1 rfl)) (oneAll (ownO.one (Sep.at (o := ownO (kF .f32) 25 v3 (List.replicate (Int.toNat a0) (some 0))) S_7 2 rfl)) rfl))) (Sep.at (o := boxO bb1 [(.slice none 0 0), (.slice none 0 0), (.slice none 0 0)]) S_7 3 rfl) rfl rfl) (Sep.at (o := boxO bb1 [(.slice none 0 0), (.slice none 0 0), (.slice none 0 0)]) S_7 3 rfl)) ?_
  rintro _ hp13 ⟨rfl, MT_6, T_6⟩
  have S_8 : Sep [] h0.size hp12 ([boxO bb1 [(.slice none 0 0), (.slice none 0 0), (.slice none 0 0)]] ++ [ownO (kF .f32) 25 v1 (List.replicate (Int.toNat a0) (some 0)), ownO (kF .f32) 25 v2 (List.replicate (Int.toNat a0) (some 0)), ownO (kF .f32) 25 v3 (List.replicate (Int.toNat a0) (some 0))]) := Sep.sel S_7 [3, 0, 1, 2] (by decide)
  have X_7 : Mod [] h0 hp13 := Mod.step (A := [boxO bb1 [(.slice none 0 0), (.slice none 0 0), (.slice none 0 0)]]) (L := [ownO (kF .f32) 25 v1 (List.replicate (Int.toNat a0) (some 0)), ownO (kF .f32) 25 v2 (List.replicate (Int.toNat a0) (some 0)), ownO (kF .f32) 25 v3 (List.replicate (Int.toNat a0) (some 0))]) X_6 S_8 MT_6
  have S_9 : Sep [] h0.size hp13 [boxO bb1 [v1, v2, v3], ownO (kF .f32) 25 v1 (List.replicate (Int.toNat a0) (some 0)), ownO (kF .f32) 25 v2 (List.replicate (Int.toNat a0) (some 0)), ownO (kF .f32) 25 v3 (List.replicate (Int.toNat a0) (some 0))] := Sep.step (A := [boxO bb1 [(.slice none 0 0), (.slice none 0 0), (.slice none 0 0)]]) (L := [ownO (kF .f32) 25 v1 (List.replicate (Int.toNat a0) (some 0)), ownO (kF .f32) 25 v2 (List.replicate (Int.toNat a0) (some 0)), ownO (kF .f32) 25 v3 (List.replicate (Int.toNat a0) (some 0))]) S_8 (Mod.size X_6) MT_6 T_6
  refine RL.nil ?_
  refine thnN ?_
  refine W.ret ?_
  have er := Option.some.inj hp
  subst er
  exact Rt.cell1 rfl rfl Try.agg28 Try.size28 (Sep.at (o := boxO bb1 [v1, v2, v3]) S_9 0 rfl) rfl ⟨v1, v2, v3, rfl, X_7, (Sep.sel S_9 [1, 2, 3] (by decide))⟩

set_option maxRecDepth 20000 in
theorem spec_l08Share_ok (h0 : Heap) (a0 : Int) (a1 : Int) (r : Option Nat) (hp : spec_l08Share a0 a1 = some r) : CallsH Try.prog 128 ([(.int .i64 a0), (.int .i64 a1)].toArray ++ [].toArray) h0 (fun v h' => IsF .f32 v r ∧ h0 = h') := by
  unfold spec_l08Share at hp
  refine callsH_of_W (l := [(.int .i64 a0), (.int .i64 a1)]) (cap := []) 11 Try.func128 rfl rfl rfl ?_
  refine W.seq ?_
  refine W.region ?_
  refine RL.opD (by decide) (opv_assign rfl rfl) ?_
  refine RL.nil ?_
  refine thnN ?_
  refine W.seq ?_
  obtain ⟨x1, hx1, hp⟩ := Option.bind_eq_some_iff.1 hp
  refine W.region ?_
  refine RL.opD (by decide) (opv_move rfl rfl) ?_
  refine RL.opF (by decide) (opv_i2f rfl (by rw [Try.underlying2]; rfl) Try.underlying25 rfl) ?_
  intro v1 fv1
  refine RL.opD (by decide) (opv_move rfl rfl) ?_
  refine RL.opF (by decide) (opv_i2f rfl (by rw [Try.underlying2]; rfl) Try.underlying25 rfl) ?_
  intro v2 fv2
  refine RL.opF (by decide) (opv_fop rfl rfl rfl rfl fv1 fv2) ?_
  intro v3 fv3
  refine RL.op _ (by decide) (opv_call (cap := []) (spec_l01Sine_ok _ _ _ fv3 _ hx1) rfl rfl ⟨rfl, trivial⟩ Try.func177 rfl rfl) ?_
  rintro v4 _ ⟨fv4, rfl⟩
  refine RL.opD (by decide) (opv_assign rfl rfl) ?_
  refine RL.nil ?_
  refine thnN ?_
  refine W.ret ?_
  have er := Option.some.inj hp
  subst er
  exact Rt.one rfl rfl ⟨fv4, rfl⟩

set_option maxRecDepth 20000 in
theorem spec_l08Mode_ok (h0 : Heap) (b0 : Nat) (a0_0 : Int) (a0_1 : Int) (a0_2 : Bool) (u0_3 : Value) (a0_3 : List (Option Nat)) (g0_3 : SL (kF .f32) h0.size h0 u0_3 a0_3) (u0_4 : Value) (a0_4 : List (Option Nat)) (g0_4 : SL (kF .f32) h0.size h0 u0_4 a0_4) (G0 : Bx h0 b0 [(.int .i64 a0_0), (.int .i64 a0_1), (.bool a0_2), u0_3, u0_4]) (a1 : Int) (a2 : Int) (u3 : Value) (a3 : Option Nat) (g3 : IsF .f32 u3 a3) (r : ((List (Option Nat)) × (List (Option Nat)) × (List (Option Nat)))) (hp : spec_l08Mode a0_0 a0_1 a0_2 a0_3 a0_4 a1 a2 a3 = some r) : CallsH Try.prog 70 ([(.pointer (some ⟨b0, 0, none⟩)), (.int .i64 a1), (.int .i64 a2), u3].toArray ++ [].toArray) h0 (fun v h' => ∃ w0, ∃ w1, ∃ w2, v = (.agg (List.toArray (α := Value) [w0, w1, w2])) ∧ Mod [] h0 h' ∧ Sep [] h0.size h' [ownO (kF .f32) 25 w0 r.1, ownO (kF .f32) 25 w1 r.2.1, ownO (kF .f32) 25 w2 r.2.2]) := by
  unfold spec_l08Mode at hp
  refine callsH_of_W (l := [(.pointer (some ⟨b0, 0, none⟩)), (.int .i64 a1), (.int .i64 a2), u3]) (cap := []) 77 Try.func70 rfl rfl rfl ?_
  refine W.seq ?_
  refine W.region ?_
  refine RL.op _ (by decide) (opS_boxed (opv_alloc (cs := [(.slice none 0 0), (.slice none 0 0), (.slice none 0 0)]) rfl Try.zero28 rfl)) ?_
  rintro _ hp1 ⟨bb1, rfl, MT_1, T_1⟩
  have X_1 : Mod [] h0 hp1 := Mod.step (A := []) (L := []) (Mod.refl [] h0) (Sep.nil [] h0.size h0) MT_1
  have S_1 : Sep [] h0.size hp1 [boxO bb1 [(.slice none 0 0), (.slice none 0 0), (.slice none 0 0)]] := Sep.step (A := []) (L := []) (Sep.nil [] h0.size h0) (Mod.size (Mod.refl [] h0)) MT_1 T_1
  refine RL.nil ?_
  refine thnN ?_
  refine W.seq ?_
  obtain ⟨x1, hx1, hp⟩ := Option.bind_eq_some_iff.1 hp
  refine W.sub (ψ := [(0, (.pointer (some ⟨b0, 0, none⟩))), (1, (.int .i64 a1)), (2, (.int .i64 a2)), (3, u3), (8, (.pointer (some ⟨bb1, 0, none⟩)))]) ⟨rfl, rfl, rfl, rfl, rfl, trivial⟩ ?_
  refine W.regionM [fun v _ => @Eq Value (.pointer (some ⟨b0, 0, none⟩)) v, fun v _ => @Eq Value (.pointer (some ⟨b0, 0, none⟩)) v, fun v _ => @Eq Value (.pointer (some ⟨b0, 0, none⟩)) v, fun v _ => @Eq Value (.int .i64 a0_0) v, fun v _ => @Eq Value (.pointer (some ⟨b0, 0, none⟩)) v, fun v _ => @Eq Value (.pointer (some ⟨b0, 0, none⟩)) v, fun v _ => @Eq Value (.pointer (some ⟨b0, 1, none⟩)) v, fun v _ => @Eq Value (.int .i64 a0_1) v, fun v _ => @Eq Value (.int .i64 (IntKind.wrap .i64 (a0_0 * a0_1))) v, fun v h => ∃ v1, ∃ v2, ∃ v3, @Eq Value v (.agg (List.toArray (α := Value) [v1, v2, v3])) ∧ Sep [] hp1.size h [ownO (kF .f32) 25 v1 x1.1, ownO (kF .f32) 25 v2 x1.2.1, ownO (kF .f32) 25 v3 x1.2.2], fun v h => ∃ b, @Eq Value v (.pointer (some ⟨b, 0, none⟩)) ∧ Sep [] hp1.size h [boxO b [(.slice none 0 0), (.slice none 0 0), (.slice none 0 0)]]] [none, none, none, none, none, none, none, none, none, some (fun u => [Value.ownBlock (vget u 0), Value.ownBlock (vget u 1), Value.ownBlock (vget u 2)]), some (fun u => [ptrB u])] [] [[], [0], [1], [2], [], [4], [5], [6], [3, 7], [8], []] [9, 10] Try.mixed (by decide +kernel) (by decide +kernel) rfl rfl rfl (by decide +kernel) rfl ⟨fun _ _ _ h _ => h, fun _ _ _ h _ => h, fun _ _ _ h _ => h, fun _ _ _ h _ => h, fun _ _ _ h _ => h, fun _ _ _ h _ => h, fun _ _ _ h _ => h, fun _ _ _ h _ => h, fun _ _ _ h _ => h, fun _ _ _ ⟨u0_, u1_, u2_, e, h⟩ x => ⟨u0_, u1_, u2_, e, h.ext x⟩, fun _ _ _ ⟨b, e, h⟩ x => ⟨b, e, h.ext x⟩, trivial⟩ ?_ ?_
  · refine ⟨⟨rfl, ?_⟩, ⟨rfl, ?_⟩, ⟨rfl, ?_⟩, ⟨rfl, ?_⟩, ⟨rfl, ?_⟩, ⟨rfl, ?_⟩, ⟨rfl, ?_⟩, ⟨rfl, ?_⟩, ⟨rfl, ?_⟩, ⟨rfl, ?_⟩, ⟨rfl, ?_⟩, trivial⟩
    · rintro hp5 E_1
      refine Dep.nil ?_
      refine GuardOK.none rfl ?_
      exact OpV.toDx (opv_move rfl rfl) rfl
    · rintro hp6 E_2 _ rfl
      refine Dep.nil ?_
      refine GuardOK.none rfl ?_
      exact OpV.toDx (opv_nilCheck rfl rfl) rfl
    · rintro hp7 E_3 _ rfl
      refine Dep.nil ?_
      refine GuardOK.none rfl ?_
      exact OpV.toDx (opv_fieldAddr rfl Try.fo31_0 rfl) rfl
    · rintro hp8 E_4 _ rfl
      refine Dep.nil ?_
      refine GuardOK.none rfl ?_
      exact OpV.toDx (opv_loadB rfl Try.one2 rfl (Bx.mod G0 (Mod.lift X_1 E_4) nobB) rfl) rfl
    · rintro hp9 E_5
      refine Dep.nil ?_
      refine GuardOK.none rfl ?_
      exact OpV.toDx (opv_move rfl rfl) rfl
    · rintro hp10 E_6 _ rfl
      refine Dep.nil ?_
      refine GuardOK.none rfl ?_
      exact OpV.toDx (opv_nilCheck rfl rfl) rfl
    · rintro hp11 E_7 _ rfl
      refine Dep.nil ?_
      refine GuardOK.none rfl ?_
      exact OpV.toDx (opv_fieldAddr rfl Try.fo31_1 rfl) rfl
    · rintro hp12 E_8 _ rfl
      refine Dep.nil ?_
      refine GuardOK.none rfl ?_
      exact OpV.toDx (opv_loadB rfl Try.one2 rfl (Bx.mod G0 (Mod.lift X_1 E_8) nobB) rfl) rfl
    · rintro hp13 E_9 _ rfl _ rfl
      refine Dep.nil ?_
      refine GuardOK.none rfl ?_
      exact OpV.toDx (opv_mul rfl rfl rfl) rfl
    · rintro hp14 E_10 _ rfl
      refine Dep.nil ?_
      refine GuardOK.none rfl ?_
      exact OpV.mono (opv_call (cap := []) (spec_l02Zero_ok _ _ _ hx1) rfl rfl ⟨rfl, trivial⟩ Try.func127 rfl rfl) (by rintro _ _ ⟨v1, v2, v3, rfl, M_, T_⟩; exact ⟨Mod.ext M_, ⟨v1, v2, v3, rfl, Sep.weak T_ (Ext.size E_10)⟩, Sep.fresh T_⟩)
    · rintro hp15 E_11
      refine Dep.nil ?_
      refine GuardOK.none rfl ?_
      exact OpV.mono (opS_boxed (opv_alloc (cs := [(.slice none 0 0), (.slice none 0 0), (.slice none 0 0)]) rfl Try.zero28 rfl)) (by rintro _ _ ⟨b_, rfl, M_, T_⟩; exact ⟨Mod.ext M_, ⟨b_, rfl, Sep.weak T_ (Ext.size E_11)⟩, Sep.fresh T_⟩)
  rintro hp16 E_12 _ ⟨v1, v2, v3, rfl, T_2⟩ _ ⟨bb2, rfl, T_3⟩
  refine DepM.nil ?_
  intro PW_1 LK_
  have X_5 : Mod [] h0 hp16 := Mod.lift X_1 E_12
  have S_6 : Sep [] h0.size hp16 [ownO (kF .f32) 25 v1 x1.1, ownO (kF .f32) 25 v2 x1.2.1, ownO (kF .f32) 25 v3 x1.2.2, boxO bb2 [(.slice none 0 0), (.slice none 0 0), (.slice none 0 0)], boxO bb1 [(.slice none 0 0), (.slice none 0 0), (.slice none 0 0)]] := Sep.join S_1 (Mod.size X_1) (Ext.mod E_12 []) (Sep.both T_2 T_3 (Apt.symm (Apt.of PW_1 0 1 rfl rfl (by decide))))
  show RL _ _ _ _ (_ :: _) _ _
  refine RL.op0 _ (opS_stored (cs := [(.slice none 0 0), (.slice none 0 0), (.slice none 0 0)]) (cs' := [v1, v2, v3]) (opv_storeA (us := [v1, v2, v3]) rfl Try.size28 rfl rfl (oneAll (ownO.one (Sep.at (o := ownO (kF .f32) 25 v1 x1.1) S_6 0 rfl)) (oneAll (ownO.one (Sep.at (o := ownO (kF .f32) 25 v2 x1.2.1) S_6 1 rfl)) (oneAll (ownO.one (Sep.at (o := ownO (kF .f32) 25 v3 x1.2.2) S_6 2 rfl)) rfl))) (Sep.at (o := boxO bb2 [(.slice none 0 0), (.slice none 0 0), (.slice none 0 0)]) S_6 3 rfl) rfl rfl) (Sep.at (o := boxO bb2 [(.slice none 0 0), (.slice none 0 0), (.slice none 0 0)]) S_6 3 rfl)) ?_
  rintro _ hp17 ⟨rfl, MT_5, T_5⟩
  have S_7 : Sep [] h0.size hp16 ([boxO bb2 [(.slice none 0 0), (.slice none 0 0), (.slice none 0 0)]] ++ [ownO (kF .f32) 25 v1 x1.1, ownO (kF .f32) 25 v2 x1.2.1, ownO (kF .f32) 25 v3 x1.2.2, boxO bb1 [(.slice none 0 0), (.slice none 0 0), (.slice none 0 0)]]) := Sep.sel S_6 [3, 0, 1, 2, 4] (by decide)
  have X_6 : Mod [] h0 hp17 := Mod.step (A := [boxO bb2 [(.slice none 0 0), (.slice none 0 0), (.slice none 0 0)]]) (L := [ownO (kF .f32) 25 v1 x1.1, ownO (kF .f32) 25 v2 x1.2.1, ownO (kF .f32) 25 v3 x1.2.2, boxO bb1 [(.slice none 0 0), (.slice none 0 0), (.slice none 0 0)]]) X_5 S_7 MT_5
  have S_8 : Sep [] h0.size hp17 [boxO bb2 [v1, v2, v3], ownO (kF .f32) 25 v1 x1.1, ownO (kF .f32) 25 v2 x1.2.1, ownO (kF .f32) 25 v3 x1.2.2, boxO bb1 [(.slice none 0 0), (.slice none 0 0), (.slice none 0 0)]] := Sep.step (A := [boxO bb2 [(.slice none 0 0), (.slice none 0 0), (.slice none 0 0)]]) (L := [ownO (kF .f32) 25 v1 x1.1, ownO (kF .f32) 25 v2 x1.2.1, ownO (kF .f32) 25 v3 x1.2.2, boxO bb1 [(.slice none 0 0), (.slice none 0 0), (.slice none 0 0)]]) S_7 (Mod.size X_5) MT_5 T_5
  refine RL.nil ?_
  refine thnN ?_
  refine W.seq ?_
  refine W.seq ?_
  refine W.region ?_
  refine RL.opD (by decide) (opv_assign rfl rfl) ?_
  refine RL.nil ?_
  refine thnN ?_
  obtain ⟨y1, hy1, hp⟩ := Option.bind_eq_some_iff.1 hp
  refine W.cut (fun φ' h' => ∃ x4, ∃ x5, ∃ x6, y1 = (x4, x5, x6) ∧ Fr.sub [(0, (.pointer (some ⟨b0, 0, none⟩))), (1, (.int .i64 a1)), (2, (.int .i64 a2)), (3, u3), (8, (.pointer (some ⟨bb1, 0, none⟩))), (9, (.pointer (some ⟨bb2, 0, none⟩))), (10, (.int .i64 x4)), (29, (.bool x5))] φ' ∧ Mod [] h0 h' ∧ Sep [] h0.size h' [boxO bb2 [v1, v2, v3], ownO (kF .f32) 25 v1 x6, ownO (kF .f32) 25 v2 x1.2.1, ownO (kF .f32) 25 v3 x1.2.2, boxO bb1 [(.slice none 0 0), (.slice none 0 0), (.slice none 0 0)]]) ?_ ?_
  · refine W.block ?_
    refine W.loopS (fun (s : (Int × (List (Option Nat)))) φ' h' => Fr.sub [(0, (.pointer (some ⟨b0, 0, none⟩))), (1, (.int .i64 a1)), (2, (.int .i64 a2)), (3, u3), (8, (.pointer (some ⟨bb1, 0, none⟩))), (9, (.pointer (some ⟨bb2, 0, none⟩))), (10, (.int .i64 s.1))] φ' ∧ Mod [] h0 h' ∧ Sep [] h0.size h' [boxO bb2 [v1, v2, v3], ownO (kF .f32) 25 v1 s.2, ownO (kF .f32) 25 v2 x1.2.1, ownO (kF .f32) 25 v3 x1.2.2, boxO bb1 [(.slice none 0 0), (.slice none 0 0), (.slice none 0 0)]]) hy1 ⟨⟨rfl, rfl, rfl, rfl, rfl, rfl, rfl, trivial⟩, X_6, (Sep.sel S_8 [0, 1, 2, 3, 4] (by decide))⟩ ?_
    rintro ⟨x2, x3⟩ φ' hp18 o1 ⟨hs1, X_7, S_9⟩ ho1 hy1
    have hs1 : Fr.sub [(0, (.pointer (some ⟨b0, 0, none⟩))), (1, (.int .i64 a1)), (2, (.int .i64 a2)), (3, u3), (8, (.pointer (some ⟨bb1, 0, none⟩))), (9, (.pointer (some ⟨bb2, 0, none⟩))), (10, (.int .i64 x2))] φ' := hs1
    have S_9 : Sep [] h0.size hp18 [boxO bb2 [v1, v2, v3], ownO (kF .f32) 25 v1 x3, ownO (kF .f32) 25 v2 x1.2.1, ownO (kF .f32) 25 v3 x1.2.2, boxO bb1 [(.slice none 0 0), (.slice none 0 0), (.slice none 0 0)]] := S_9
    have ho1 : spec_l08Mode.s0 a0_0 a0_1 a1 a2 a3 x2 x3 = some o1 := ho1
    unfold spec_l08Mode.s0 at ho1
    refine W.sub hs1 ?_
    refine W.seq ?_
    refine W.seq ?_
    refine W.region ?_
    refine RL.opD (by decide) (opv_move rfl rfl) ?_
    refine RL.opD (by decide) (opv_move rfl rfl) ?_
    refine RL.opD (by decide) (opv_nilCheck rfl rfl) ?_
    refine RL.opD (by decide) (opv_fieldAddr rfl Try.fo31_1 rfl) ?_
    refine RL.opD (by decide) (opv_loadB rfl Try.one2 rfl (Bx.mod G0 X_7 nobB) rfl) ?_
    refine RL.opD (by decide) (opv_sub rfl rfl rfl) ?_
    refine RL.opD (by decide) (opv_icmp rfl rfl rfl rfl) ?_
    refine RL.nil ?_
    refine thnN ?_
    by_cases c1 : (decide (x2 < (IntKind.wrap .i64 (a0_1 - 1)))) = true
    · rw [if_pos c1] at ho1
      refine W.condT rfl c1 ?_
      refine W.skip ?_
      refine thnN ?_
      refine W.seq ?_
      refine W.block ?_
      refine W.seq ?_
      refine W.region ?_
      refine RL.opD (by decide) (opv_assign rfl rfl) ?_
      refine RL.nil ?_
      refine thnN ?_
      obtain ⟨y2, hy2, ho1⟩ := Option.bind_eq_some_iff.1 ho1
      refine W.cut (fun φ' h' => ∃ x9, ∃ x10, ∃ x11, y2 = (x9, x10, x11) ∧ Fr.sub [(0, (.pointer (some ⟨b0, 0, none⟩))), (1, (.int .i64 a1)), (2, (.int .i64 a2)), (3, u3), (8, (.pointer (some ⟨bb1, 0, none⟩))), (9, (.pointer (some ⟨bb2, 0, none⟩))), (10, (.int .i64 x2)), (29, (.bool (decide (x2 < (IntKind.wrap .i64 (a0_1 - 1)))))), (11, (.int .i64 x9)), (38, (.bool x10))] φ' ∧ Mod [] h0 h' ∧ Sep [] h0.size h' [boxO bb2 [v1, v2, v3], ownO (kF .f32) 25 v1 x11, ownO (kF .f32) 25 v2 x1.2.1, ownO (kF .f32) 25 v3 x1.2.2, boxO bb1 [(.slice none 0 0), (.slice none 0 0), (.slice none 0 0)]]) ?_ ?_
      · refine W.block ?_
        refine W.loopS (fun (s : (Int × (List (Option Nat)))) φ' h' => Fr.sub [(0, (.pointer (some ⟨b0, 0, none⟩))), (1, (.int .i64 a1)), (2, (.int .i64 a2)), (3, u3), (8, (.pointer (some ⟨bb1, 0, none⟩))), (9, (.pointer (some ⟨bb2, 0, none⟩))), (10, (.int .i64 x2)), (29, (.bool (decide (x2 < (IntKind.wrap .i64 (a0_1 - 1)))))), (11, (.int .i64 s.1))] φ' ∧ Mod [] h0 h' ∧ Sep [] h0.size h' [boxO bb2 [v1, v2, v3], ownO (kF .f32) 25 v1 s.2, ownO (kF .f32) 25 v2 x1.2.1, ownO (kF .f32) 25 v3 x1.2.2, boxO bb1 [(.slice none 0 0), (.slice none 0 0), (.slice none 0 0)]]) hy2 ⟨⟨rfl, rfl, rfl, rfl, rfl, rfl, rfl, rfl, rfl, trivial⟩, X_7, (Sep.sel S_9 [0, 1, 2, 3, 4] (by decide))⟩ ?_
        rintro ⟨x7, x8⟩ φ' hp19 o2 ⟨hs3, X_8, S_10⟩ ho2 hy2
        have hs3 : Fr.sub [(0, (.pointer (some ⟨b0, 0, none⟩))), (1, (.int .i64 a1)), (2, (.int .i64 a2)), (3, u3), (8, (.pointer (some ⟨bb1, 0, none⟩))), (9, (.pointer (some ⟨bb2, 0, none⟩))), (10, (.int .i64 x2)), (29, (.bool (decide (x2 < (IntKind.wrap .i64 (a0_1 - 1)))))), (11, (.int .i64 x7))] φ' := hs3
        have S_10 : Sep [] h0.size hp19 [boxO bb2 [v1, v2, v3], ownO (kF .f32) 25 v1 x8, ownO (kF .f32) 25 v2 x1.2.1, ownO (kF .f32) 25 v3 x1.2.2, boxO bb1 [(.slice none 0 0), (.slice none 0 0), (.slice none 0 0)]] := S_10
        have ho2 : spec_l08Mode.s1 a0_0 a0_1 a1 a2 a3 x2 x7 x8 = some o2 := ho2
        unfold spec_l08Mode.s1 at ho2
        refine W.sub hs3 ?_
        refine W.seq ?_
        refine W.seq ?_
        refine W.region ?_
        refine RL.opD (by decide) (opv_move rfl rfl) ?_
        refine RL.opD (by decide) (opv_move rfl rfl) ?_
        refine RL.opD (by decide) (opv_nilCheck rfl rfl) ?_
        refine RL.opD (by decide) (opv_fieldAddr rfl Try.fo31_0 rfl) ?_
        refine RL.opD (by decide) (opv_loadB rfl Try.one2 rfl (Bx.mod G0 X_8 nobB) rfl) ?_
        refine RL.opD (by decide) (opv_sub rfl rfl rfl) ?_
        refine RL.opD (by decide) (opv_icmp rfl rfl rfl rfl) ?_
        refine RL.nil ?_
        refine thnN ?_
        by_cases c2 : (decide (x7 < (IntKind.wrap .i64 (a0_0 - 1)))) = true
        · rw [if_pos c2] at ho2
          refine W.condT rfl c2 ?_
          refine W.skip ?_
          refine thnN ?_
          refine W.seq ?_
          refine W.block ?_
          refine W.seq ?_
          obtain ⟨x12, hx12, ho2⟩ := Option.bind_eq_some_iff.1 ho2
          refine W.region ?_
          refine RL.opD (by decide) (opv_move rfl rfl) ?_
          refine RL.opD (by decide) (opv_move rfl rfl) ?_
          refine RL.opD (by decide) (opv_move rfl rfl) ?_
          refine RL.opD (by decide) (opv_mul rfl rfl rfl) ?_
          refine RL.opD (by decide) (opv_move rfl rfl) ?_
          refine RL.opD (by decide) (opv_nilCheck rfl rfl) ?_
          refine RL.opD (by decide) (opv_fieldAddr rfl Try.fo31_0 rfl) ?_
          refine RL.opD (by decide) (opv_loadB rfl Try.one2 rfl (Bx.mod G0 X_8 nobB) rfl) ?_
          refine RL.opD (by decide) (opv_sub rfl rfl rfl) ?_
          refine RL.opD (by decide) (opv_mul rfl rfl rfl) ?_
          refine RL.op _ (by decide) (opv_call (cap := []) (spec_l08Share_ok _ _ _ _ hx12) rfl rfl ⟨rfl, rfl, trivial⟩ Try.func128 rfl rfl) ?_
          rintro v7 _ ⟨fv7, rfl⟩
          refine RL.opF (by decide) (opv_fop rfl rfl rfl rfl g3 fv7) ?_
          intro v8 fv8
          refine RL.opD (by decide) (opv_assign rfl rfl) ?_
          refine RL.nil ?_
          refine thnN ?_
          obtain ⟨x13, hx13, ho2⟩ := Option.bind_eq_some_iff.1 ho2
          obtain ⟨x14, hx14, ho2⟩ := Option.bind_eq_some_iff.1 ho2
          obtain ⟨x15, hx15, ho2⟩ := Option.bind_eq_some_iff.1 ho2
          refine W.sub (ψ := [(0, (.pointer (some ⟨b0, 0, none⟩))), (1, (.int .i64 a1)), (2, (.int .i64 a2)), (3, u3), (8, (.pointer (some ⟨bb1, 0, none⟩))), (9, (.pointer (some ⟨bb2, 0, none⟩))), (10, (.int .i64 x2)), (29, (.bool (decide (x2 < (IntKind.wrap .i64 (a0_1 - 1)))))), (11, (.int .i64 x7)), (38, (.bool (decide (x7 < (IntKind.wrap .i64 (a0_0 - 1)))))), (12, v8)]) ⟨rfl, rfl, rfl, rfl, rfl, rfl, rfl, rfl, rfl, rfl, rfl, trivial⟩ ?_
          refine W.regionP [fun v _ => @Eq Value (.pointer (some ⟨bb2, 0, none⟩)) v, fun v _ => @Eq Value v1 v, fun v _ => @Eq Value (.int .i64 x7) v, fun v _ => @Eq Value (.pointer (some ⟨b0, 0, none⟩)) v, fun v _ => @Eq Value (.pointer (some ⟨b0, 0, none⟩)) v, fun v _ => @Eq Value (.pointer (some ⟨b0, 0, none⟩)) v, fun v _ => @Eq Value (.int .i64 a0_0) v, fun v _ => @Eq Value (.int .i64 x2) v, fun v _ => @Eq Value (.int .i64 (IntKind.wrap .i64 (a0_0 * x2))) v, fun v _ => @Eq Value (.int .i64 (IntKind.wrap .i64 (x7 + (IntKind.wrap .i64 (a0_0 * x2))))) v, fun v _ => IsF .f32 v (fop .mul .f32 a3 x12), fun v _ => @Eq Value (.int .i64 a2) v, fun v _ => @Eq Value (.int .i64 x2) v, fun v _ => @Eq Value (.int .i64 (IntKind.wrap .i64 (a2 * x2))) v, fun v _ => @Eq Value (.pointer (some ⟨b0, 0, none⟩)) v, fun v _ => @Eq Value (.pointer (some ⟨b0, 0, none⟩)) v, fun v _ => @Eq Value (.pointer (some ⟨b0, 1, none⟩)) v, fun v _ => @Eq Value (.int .i64 a0_1) v, fun v _ => @Eq Value (.int .i64 (IntKind.wrap .i64 (a0_1 - 1))) v, fun v _ => @Eq Value (.int .i64 (IntKind.wrap .i64 (2 * (IntKind.wrap .i64 (a0_1 - 1))))) v, fun v _ => IsF .f32 v x13, fun v _ => IsF .f32 v (fop .mul .f32 (fop .mul .f32 a3 x12) x13), fun v _ => PtI 1 v v1 (Int.toNat (IntKind.wrap .i64 (x7 + (IntKind.wrap .i64 (a0_0 * x2)))))] [[], [0], [], [], [3], [4], [5], [], [6, 7], [2, 8], [], [], [], [11, 12], [], [14], [15], [16], [17], [18], [13, 19], [10, 20], [1, 9]] [21, 22] Try.mixed (by decide +kernel) (by decide +kernel) rfl rfl rfl ?_ ?_
          · refine ⟨⟨rfl, ?_⟩, ⟨rfl, ?_⟩, ⟨rfl, ?_⟩, ⟨rfl, ?_⟩, ⟨rfl, ?_⟩, ⟨rfl, ?_⟩, ⟨rfl, ?_⟩, ⟨rfl, ?_⟩, ⟨rfl, ?_⟩, ⟨rfl, ?_⟩, ⟨rfl, ?_⟩, ⟨rfl, ?_⟩, ⟨rfl, ?_⟩, ⟨rfl, ?_⟩, ⟨rfl, ?_⟩, ⟨rfl, ?_⟩, ⟨rfl, ?_⟩, ⟨rfl, ?_⟩, ⟨rfl, ?_⟩, ⟨rfl, ?_⟩, ⟨rfl, ?_⟩, ⟨rfl, ?_⟩, ⟨rfl, ?_⟩, trivial⟩
            · rintro _ rfl
              refine Dep.nil ?_
              refine GuardOK.none rfl ?_
              exact OpV.toD (opv_fieldAddr rfl Try.fo28_0 rfl) rfl
            · rintro _ rfl _ rfl
              refine Dep.nil ?_
              refine GuardOK.none rfl ?_
              exact OpV.toD (opv_loadB rfl Try.one22 rfl (Sep.at (o := boxO bb2 [v1, v2, v3]) S_10 0 rfl) rfl) rfl
            · rintro _ rfl
              refine Dep.nil ?_
              refine GuardOK.none rfl ?_
              exact OpV.toD (opv_move rfl rfl) rfl
            · rintro _ rfl
              refine Dep.nil ?_
              refine GuardOK.none rfl ?_
              exact OpV.toD (opv_move rfl rfl) rfl
            · rintro _ rfl _ rfl
              refine Dep.nil ?_
              refine GuardOK.none rfl ?_
              exact OpV.toD (opv_nilCheck rfl rfl) rfl
            · rintro _ rfl _ rfl
              refine Dep.nil ?_
              refine GuardOK.none rfl ?_
              exact OpV.toD (opv_fieldAddr rfl Try.fo31_0 rfl) rfl
            · rintro _ rfl _ rfl
              refine Dep.nil ?_
              refine GuardOK.none rfl ?_
              exact OpV.toD (opv_loadB rfl Try.one2 rfl (Bx.mod G0 X_8 nobB) rfl) rfl
            · rintro _ rfl
              refine Dep.nil ?_
              refine GuardOK.none rfl ?_
              exact OpV.toD (opv_move rfl rfl) rfl
            · rintro _ rfl _ rfl _ rfl
              refine Dep.nil ?_
              refine GuardOK.none rfl ?_
              exact OpV.toD (opv_mul rfl rfl rfl) rfl
            · rintro _ rfl _ rfl _ rfl
              refine Dep.nil ?_
              refine GuardOK.none rfl ?_
              exact OpV.toD (opv_add rfl rfl rfl) rfl
            · rintro _ rfl
              refine Dep.nil ?_
              refine GuardOK.none rfl ?_
              exact OpV.toD (opv_move rfl rfl) fv8
            · rintro _ rfl
              refine Dep.nil ?_
              refine GuardOK.none rfl ?_
              exact OpV.toD (opv_move rfl rfl) rfl
            · rintro _ rfl
              refine Dep.nil ?_
              refine GuardOK.none rfl ?_
              exact OpV.toD (opv_move rfl rfl) rfl
            · rintro _ rfl _ rfl _ rfl
              refine Dep.nil ?_
              refine GuardOK.none rfl ?_
              exact OpV.toD (opv_mul rfl rfl rfl) rfl
            · rintro _ rfl
              refine Dep.nil ?_
              refine GuardOK.none rfl ?_
              exact OpV.toD (opv_move rfl rfl) rfl
            · rintro _ rfl _ rfl
              refine Dep.nil ?_
              refine GuardOK.none rfl ?_
              exact OpV.toD (opv_nilCheck rfl rfl) rfl
            · rintro _ rfl _ rfl
              refine Dep.nil ?_
              refine GuardOK.none rfl ?_
              exact OpV.toD (opv_fieldAddr rfl Try.fo31_1 rfl) rfl
            · rintro _ rfl _ rfl
              refine Dep.nil ?_
              refine GuardOK.none rfl ?_
              exact OpV.toD (opv_loadB rfl Try.one2 rfl (Bx.mod G0 X_8 nobB) rfl) rfl
            · rintro _ rfl _ rfl
              refine Dep.nil ?_
              refine GuardOK.none rfl ?_
              exact OpV.toD (opv_sub rfl rfl rfl) rfl
            · rintro _ rfl _ rfl
              refine Dep.nil ?_
              refine GuardOK.none rfl ?_
              exact OpV.toD (opv_mul rfl rfl rfl) rfl
            · rintro _ rfl _ rfl _ rfl
              refine Dep.nil ?_
              refine GuardOK.none rfl ?_
              exact OpV.mono (opv_call (cap := []) (spec_l08Share_ok _ _ _ _ hx13) rfl rfl ⟨rfl, rfl, trivial⟩ Try.func128 rfl rfl) (by rintro v10 _ ⟨fv10, rfl⟩; exact ⟨rfl, fv10⟩)
            · rintro _ rfl v9 fv9 v10 fv10
              refine Dep.nil ?_
              refine GuardOK.none rfl ?_
              exact OpV.toS (opv_fop rfl rfl rfl rfl fv9 fv10) (fun _ h => h)
            · rintro _ rfl _ rfl _ rfl
              refine Dep.nil ?_
              refine GuardOK.none rfl ?_
              exact OpV.toS (opv_index rfl Try.underlying22 (by rw [Try.size25]; rfl) rfl rfl (ownO.read (Sep.at (o := ownO (kF .f32) 25 v1 x8) S_10 1 rfl)) hx14) (fun _ h => h)
          rintro v11 fv11 v12 fv12
          refine Dep.nil ?_
          show RL _ _ _ _ (_ :: _) _ _
          refine RL.op0 _ (opS_storeE (K := (kF .f32)) rfl Try.size25 rfl rfl fv12 rfl ⟨_, rfl, fv11⟩ hx15 (Sep.at (o := ownO (kF .f32) 25 v1 x8) S_10 1 rfl)) ?_
          rintro _ hp21 ⟨rfl, MT_7, T_7⟩
          have S_13 : Sep [] h0.size hp19 ([ownO (kF .f32) 25 v1 x8] ++ [boxO bb2 [v1, v2, v3], ownO (kF .f32) 25 v2 x1.2.1, ownO (kF .f32) 25 v3 x1.2.2, boxO bb1 [(.slice none 0 0), (.slice none 0 0), (.slice none 0 0)]]) := Sep.sel S_10 [1, 0, 2, 3, 4] (by decide)
          have X_10 : Mod [] h0 hp21 := Mod.step (A := [ownO (kF .f32) 25 v1 x8]) (L := [boxO bb2 [v1, v2, v3], ownO (kF .f32) 25 v2 x1.2.1, ownO (kF .f32) 25 v3 x1.2.2, boxO bb1 [(.slice none 0 0), (.slice none 0 0), (.slice none 0 0)]]) X_8 S_13 MT_7
          have S_14 : Sep [] h0.size hp21 [ownO (kF .f32) 25 v1 x15, boxO bb2 [v1, v2, v3], ownO (kF .f32) 25 v2 x1.2.1, ownO (kF .f32) 25 v3 x1.2.2, boxO bb1 [(.slice none 0 0), (.slice none 0 0), (.slice none 0 0)]] := Sep.step (A := [ownO (kF .f32) 25 v1 x8]) (L := [boxO bb2 [v1, v2, v3], ownO (kF .f32) 25 v2 x1.2.1, ownO (kF .f32) 25 v3 x1.2.2, boxO bb1 [(.slice none 0 0), (.slice none 0 0), (.slice none 0 0)]]) S_13 (Mod.size X_8) MT_7 T_7
          refine RL.nil ?_
          refine blkN ?_
          refine thnN ?_
          refine W.region ?_
          refine RL.opD (by decide) (opv_move rfl rfl) ?_
          refine RL.opD (by decide) (opv_add rfl rfl rfl) ?_
          refine RL.opD (by decide) (opv_assign rfl rfl) ?_
          refine RL.nil ?_
          have eo2 := Option.some.inj ho2
          subst eo2
          refine rndN (s' := (IntKind.wrap .i64 (x7 + 1), x15)) rfl ?_
          exact ⟨⟨rfl, rfl, rfl, rfl, rfl, rfl, rfl, rfl, rfl, trivial⟩, X_10, (Sep.sel S_14 [1, 0, 2, 3, 4] (by decide))⟩
        · rw [if_neg c2] at ho2
          have c2 := eq_false_of_ne_true c2
          refine W.condF rfl c2 ?_
          refine W.exit ?_
          refine thnX ?_
          refine rndX ?_
          refine blkI ?_
          have eo2 := Option.some.inj ho2
          subst eo2
          have ey2 := hy2 _ rfl
          subst ey2
          refine onlyN ?_
          exact ⟨x7, decide (x7 < (IntKind.wrap .i64 (a0_0 - 1))), x8, rfl, ⟨rfl, rfl, rfl, rfl, rfl, rfl, rfl, rfl, rfl, rfl, trivial⟩, X_8, (Sep.sel S_10 [0, 1, 2, 3, 4] (by decide))⟩
      rintro φ' hp22 ⟨x9, x10, x11, rfl, hs4, X_11, S_15⟩
      try dsimp only at ho1
      refine blkN ?_
      refine thnN ?_
      refine W.sub hs4 ?_
      refine W.region ?_
      refine RL.opD (by decide) (opv_move rfl rfl) ?_
      refine RL.opD (by decide) (opv_add rfl rfl rfl) ?_
      refine RL.opD (by decide) (opv_assign rfl rfl) ?_
      refine RL.nil ?_
      have eo1 := Option.some.inj ho1
      subst eo1
      refine rndN (s' := (IntKind.wrap .i64 (x2 + 1), x11)) rfl ?_
      exact ⟨⟨rfl, rfl, rfl, rfl, rfl, rfl, rfl, trivial⟩, X_11, (Sep.sel S_15 [0, 1, 2, 3, 4] (by decide))⟩
    · rw [if_neg c1] at ho1
      have c1 := eq_false_of_ne_true c1
      refine W.condF rfl c1 ?_
      refine W.exit ?_
      refine thnX ?_
      refine rndX ?_
      refine blkI ?_
      have eo1 := Option.some.inj ho1
      subst eo1
      have ey1 := hy1 _ rfl
      subst ey1
      refine onlyN ?_
      exact ⟨x2, decide (x2 < (IntKind.wrap .i64 (a0_1 - 1))), x3, rfl, ⟨rfl, rfl, rfl, rfl, rfl, rfl, rfl, rfl, trivial⟩, X_7, (Sep.sel S_9 [0, 1, 2, 3, 4] (by decide))⟩
  rintro φ' hp23 ⟨x4, x5, x6, rfl, hs2, X_12, S_16⟩
  try dsimp only at hp
  refine thnN ?_
  refine W.sub hs2 ?_
  refine W.seq ?_
  refine W.region ?_
  refine RL.opD (by decide) (opv_loadA (us := [v1, v2, v3]) rfl Try.agg28 Try.size28 rfl (Sep.at (o := boxO bb2 [v1, v2, v3]) S_16 0 rfl) rfl rfl) ?_
  refine RL.op0 _ (opS_stored (cs := [(.slice none 0 0), (.slice none 0 0), (.slice none 0 0)]) (cs' := [v1, v2, v3]) (opv_storeA (us := [v1, v2, v3]) rfl Try.size28 rfl rfl (oneAll (ownO.one (Sep.at (o := ownO (kF .f32) 25 v1 x6) S_16 1 rfl)) (oneAll (ownO.one (Sep.at (o := ownO (kF .f32) 25 v2 x1.2.1) S_16 2 rfl)) (oneAll (ownO.one (Sep.at (o := ownO (kF .f32) 25 v3 x1.2.2) S_16 3 rfl)) rfl))) (Sep.at (o := boxO bb1 [(.slice none 0 0), (.slice none 0 0), (.slice none 0 0)]) S_16 4 rfl) rfl rfl) (Sep.at (o := boxO bb1 [(.slice none 0 0), (.slice none 0 0), (.slice none 0 0)]) S_16 4 rfl)) ?_
  rintro _ hp24 ⟨rfl, MT_8, T_8⟩
  have S_17 : Sep [] h0.size hp23 ([boxO bb1 [(.slice none 0 0), (.slice none 0 0), (.slice none 0 0)]] ++ [boxO bb2 [v1, v2, v3], ownO (kF .f32) 25 v1 x6, ownO (kF .f32) 25 v2 x1.2.1, ownO (kF .f32) 25 v3 x1.2.2]) := Sep.sel S_16 [4, 0, 1, 2, 3] (by decide)
  have X_13 : Mod [] h0 hp24 := Mod.step (A := [boxO bb1 [(.slice none 0 0), (.slice none 0 0), (.slice none 0 0)]]) (L := [boxO bb2 [v1, v2, v3], ownO (kF .f32) 25 v1 x6, ownO (kF .f32) 25 v2 x1.2.1, ownO (kF .f32) 25 v3 x1.2.2]) X_12 S_17 MT_8
  have S_18 : Sep [] h0.size hp24 [boxO bb1 [v1, v2, v3], boxO bb2 [v1, v2, v3], ownO (kF .f32) 25 v1 x6, ownO (kF .f32) 25 v2 x1.2.1, ownO (kF .f32) 25 v3 x1.2.2] := Sep.step (A := [boxO bb1 [(.slice none 0 0), (.slice none 0 0), (.slice none 0 0)]]) (L := [boxO bb2 [v1, v2, v3], ownO (kF .f32) 25 v1 x6, ownO (kF .f32) 25 v2 x1.2.1, ownO (kF .f32) 25 v3 x1.2.2]) S_17 (Mod.size X_12) MT_8 T_8
  refine RL.nil ?_
  refine thnN ?_
  refine W.ret ?_
  have er := Option.some.inj hp
  subst er
  exact Rt.cell1 rfl rfl Try.agg28 Try.size28 (Sep.at (o := boxO bb1 [v1, v2, v3]) S_18 0 rfl) rfl ⟨v1, v2, v3, rfl, X_13, (Sep.sel S_18 [2, 3, 4] (by decide))⟩

set_option maxRecDepth 20000 in
theorem spec_ModeField_ok (h0 : Heap) (a0_0 : Int) (a0_1 : Int) (a0_2 : Bool) (u0_3 : Value) (a0_3 : List (Option Nat)) (g0_3 : SL (kF .f32) h0.size h0 u0_3 a0_3) (u0_4 : Value) (a0_4 : List (Option Nat)) (g0_4 : SL (kF .f32) h0.size h0 u0_4 a0_4) (a1 : Int) (a2 : Int) (u3 : Value) (a3 : Option Nat) (g3 : IsF .f32 u3 a3) (r : ((List (Option Nat)) × (List (Option Nat)) × (List (Option Nat)) × Bool)) (hp : spec_ModeField a0_0 a0_1 a0_2 a0_3 a0_4 a1 a2 a3 = some r) : CallsH Try.prog 13 ([(.agg (List.toArray (α := Value) [(.int .i64 a0_0), (.int .i64 a0_1), (.bool a0_2), u0_3, u0_4])), (.int .i64 a1), (.int .i64 a2), u3].toArray ++ [].toArray) h0 (fun v h' => ∃ w0, ∃ w1, ∃ w2, v = (.tuple (List.toArray (α := Value) [(.agg (List.toArray (α := Value) [w0, w1, w2])), (.bool r.2.2.2)])) ∧ Mod [] h0 h' ∧ Sep [] h0.size h' [ownO (kF .f32) 25 w0 r.1, ownO (kF .f32) 25 w1 r.2.1, ownO (kF .f32) 25 w2 r.2.2.1]) := by
  unfold spec_ModeField at hp
  refine callsH_of_W (l := [(.agg (List.toArray (α := Value) [(.int .i64 a0_0), (.int .i64 a0_1), (.bool a0_2), u0_3, u0_4])), (.int .i64 a1), (.int .i64 a2), u3]) (cap := []) 32 Try.func13 rfl rfl rfl ?_
  refine W.seq ?_
  refine W.region ?_
  refine RL.op _ (by decide) (opS_boxed (opv_boxA (cs := [(.int .i64 a0_0), (.int .i64 a0_1), (.bool a0_2), u0_3, u0_4]) rfl rfl)) ?_
  rintro _ hp1 ⟨bb1, rfl, MT_1, T_1⟩
  have X_1 : Mod [] h0 hp1 := Mod.step (A := []) (L := []) (Mod.refl [] h0) (Sep.nil [] h0.size h0) MT_1
  have S_1 : Sep [] h0.size hp1 [boxO bb1 [(.int .i64 a0_0), (.int .i64 a0_1), (.bool a0_2), u0_3, u0_4]] := Sep.step (A := []) (L := []) (Sep.nil [] h0.size h0) (Mod.size (Mod.refl [] h0)) MT_1 T_1
  refine RL.op _ (by decide) (opS_boxed (opv_alloc (cs := [(.slice none 0 0), (.slice none 0 0), (.slice none 0 0)]) rfl Try.zero28 rfl)) ?_
  rintro _ hp2 ⟨bb2, rfl, MT_2, T_2⟩
  have X_2 : Mod [] h0 hp2 := Mod.step (A := []) (L := [boxO bb1 [(.int .i64 a0_0), (.int .i64 a0_1), (.bool a0_2), u0_3, u0_4]]) X_1 S_1 MT_2
  have S_2 : Sep [] h0.size hp2 [boxO bb2 [(.slice none 0 0), (.slice none 0 0), (.slice none 0 0)], boxO bb1 [(.int .i64 a0_0), (.int .i64 a0_1), (.bool a0_2), u0_3, u0_4]] := Sep.step (A := []) (L := [boxO bb1 [(.int .i64 a0_0), (.int .i64 a0_1), (.bool a0_2), u0_3, u0_4]]) S_1 (Mod.size X_1) MT_2 T_2
  refine RL.opD (by decide) (opv_assign rfl rfl) ?_
  refine RL.nil ?_
  refine thnN ?_
  refine W.seq ?_
  refine W.seq ?_
  obtain ⟨x1, hy1, hp⟩ := Option.bind_eq_some_iff.1 hp
  refine W.cut (fun φ' h' => Fr.sub [(0, (.agg (List.toArray (α := Value) [(.int .i64 a0_0), (.int .i64 a0_1), (.bool a0_2), u0_3, u0_4]))), (1, (.int .i64 a1)), (2, (.int .i64 a2)), (3, u3), (4, (.pointer (some ⟨bb1, 0, none⟩))), (8, (.pointer (some ⟨bb2, 0, none⟩))), (9, (.bool false)), (26, (.bool x1))] φ' ∧ hp2 = h') ?_ ?_
  · obtain ⟨x2, hx2, hy1⟩ := Option.bind_eq_some_iff.1 hy1
    by_cases c1 : (!x2) = true
    · rw [if_pos c1] at hy1
      refine W.region ?_
      refine RL.op _ (by decide) (opv_call (cap := []) (spec_l02Is_ok _ _ _ _ _ _ _ (SL.up (SL.mod g0_3 X_2 (Nat.le_refl _) nob) (Nat.le_trans (Nat.le_refl _) (Mod.size X_2))) _ _ (SL.up (SL.mod g0_4 X_2 (Nat.le_refl _) nob) (Nat.le_trans (Nat.le_refl _) (Mod.size X_2))) (Sep.at (o := boxO bb1 [(.int .i64 a0_0), (.int .i64 a0_1), (.bool a0_2), u0_3, u0_4]) S_2 1 rfl) _ hx2) rfl rfl ⟨rfl, trivial⟩ Try.func67 rfl rfl) ?_
      rintro _ _ ⟨rfl, rfl⟩
      refine RL.opD (by decide) (opv_not rfl rfl) ?_
      refine RL.opD (by decide) (opv_move rfl rfl) ?_
      refine RL.no rfl rfl (Eq.trans c1 (by decide)) (by decide) ?_
      refine RL.no rfl rfl (Eq.trans c1 (by decide)) (by decide) ?_
      refine RL.opD (by decide) (opv_pick rfl rfl (fun _ => rfl) (fun e => absurd (Eq.trans (Eq.symm e) c1) (by decide)) rfl) ?_
      refine RL.opD (by decide) (opv_move rfl rfl) ?_
      refine RL.no rfl rfl (Eq.trans rfl (by decide)) (by decide) ?_
      refine RL.no rfl rfl (Eq.trans rfl (by decide)) (by decide) ?_
      refine RL.no rfl rfl (Eq.trans rfl (by decide)) (by decide) ?_
      refine RL.no rfl rfl (Eq.trans rfl (by decide)) (by decide) ?_
      refine RL.opD (by decide) (opv_pick rfl rfl (fun _ => rfl) (fun e => absurd (Eq.trans (Eq.symm e) rfl) (by decide)) rfl) ?_
      refine RL.opD (by decide) (opv_move rfl rfl) ?_
      refine RL.no rfl rfl (Eq.trans rfl (by decide)) (by decide) ?_
      refine RL.no rfl rfl (Eq.trans rfl (by decide)) (by decide) ?_
      refine RL.no rfl rfl (Eq.trans rfl (by decide)) (by decide) ?_
      refine RL.opD (by decide) (opv_pick rfl rfl (fun _ => rfl) (fun e => absurd (Eq.trans (Eq.symm e) rfl) (by decide)) rfl) ?_
      refine RL.nil ?_
      have ey1 := Option.some.inj hy1
      subst ey1
      refine onlyN ?_
      exact ⟨⟨rfl, rfl, rfl, rfl, rfl, rfl, rfl, rfl, trivial⟩, rfl⟩
    · rw [if_neg c1] at hy1
      have c1 := eq_false_of_ne_true c1
      by_cases c2 : a0_2 = true
      · rw [if_pos c2] at hy1
        refine W.region ?_
        refine RL.op _ (by decide) (opv_call (cap := []) (spec_l02Is_ok _ _ _ _ _ _ _ (SL.up (SL.mod g0_3 X_2 (Nat.le_refl _) nob) (Nat.le_trans (Nat.le_refl _) (Mod.size X_2))) _ _ (SL.up (SL.mod g0_4 X_2 (Nat.le_refl _) nob) (Nat.le_trans (Nat.le_refl _) (Mod.size X_2))) (Sep.at (o := boxO bb1 [(.int .i64 a0_0), (.int .i64 a0_1), (.bool a0_2), u0_3, u0_4]) S_2 1 rfl) _ hx2) rfl rfl ⟨rfl, trivial⟩ Try.func67 rfl rfl) ?_
        rintro _ _ ⟨rfl, rfl⟩
        refine RL.opD (by decide) (opv_not rfl rfl) ?_
        refine RL.opD (by decide) (opv_move rfl rfl) ?_
        refine RL.yes _ rfl rfl c1 (by decide) (opv_fieldAddr rfl Try.fo31_2 rfl) ?_
        rintro _ _ ⟨rfl, rfl⟩
        refine RL.yes _ rfl rfl c1 (by decide) (opv_loadB rfl Try.one4 rfl (Sep.at (o := boxO bb1 [(.int .i64 a0_0), (.int .i64 a0_1), (.bool a0_2), u0_3, u0_4]) S_2 1 rfl) rfl) ?_
        rintro _ _ ⟨rfl, rfl⟩
        refine RL.opD (by decide) (opv_pick rfl rfl (fun e => absurd (Eq.trans (Eq.symm e) c1) (by decide)) (fun _ => rfl) rfl) ?_
        refine RL.opD (by decide) (opv_move rfl rfl) ?_
        refine RL.no rfl rfl (Eq.trans c2 (by decide)) (by decide) ?_
        refine RL.no rfl rfl (Eq.trans c2 (by decide)) (by decide) ?_
        refine RL.no rfl rfl (Eq.trans c2 (by decide)) (by decide) ?_
        refine RL.no rfl rfl (Eq.trans c2 (by decide)) (by decide) ?_
        refine RL.opD (by decide) (opv_pick rfl rfl (fun _ => rfl) (fun e => absurd (Eq.trans (Eq.symm e) c2) (by decide)) rfl) ?_
        refine RL.opD (by decide) (opv_move rfl rfl) ?_
        refine RL.no rfl rfl (Eq.trans rfl (by decide)) (by decide) ?_
        refine RL.no rfl rfl (Eq.trans rfl (by decide)) (by decide) ?_
        refine RL.no rfl rfl (Eq.trans rfl (by decide)) (by decide) ?_
        refine RL.opD (by decide) (opv_pick rfl rfl (fun _ => rfl) (fun e => absurd (Eq.trans (Eq.symm e) rfl) (by decide)) rfl) ?_
        refine RL.nil ?_
        have ey1 := Option.some.inj hy1
        subst ey1
        refine onlyN ?_
        exact ⟨⟨rfl, rfl, rfl, rfl, rfl, rfl, rfl, rfl, trivial⟩, rfl⟩
      · rw [if_neg c2] at hy1
        have c2 := eq_false_of_ne_true c2
        obtain ⟨x3, hx3, hy1⟩ := Option.bind_eq_some_iff.1 hy1
        by_cases c3 : (!x3) = true
        · rw [if_pos c3] at hy1
          refine W.region ?_
          refine RL.op _ (by decide) (opv_call (cap := []) (spec_l02Is_ok _ _ _ _ _ _ _ (SL.up (SL.mod g0_3 X_2 (Nat.le_refl _) nob) (Nat.le_trans (Nat.le_refl _) (Mod.size X_2))) _ _ (SL.up (SL.mod g0_4 X_2 (Nat.le_refl _) nob) (Nat.le_trans (Nat.le_refl _) (Mod.size X_2))) (Sep.at (o := boxO bb1 [(.int .i64 a0_0), (.int .i64 a0_1), (.bool a0_2), u0_3, u0_4]) S_2 1 rfl) _ hx2) rfl rfl ⟨rfl, trivial⟩ Try.func67 rfl rfl) ?_
          rintro _ _ ⟨rfl, rfl⟩
          refine RL.opD (by decide) (opv_not rfl rfl) ?_
          refine RL.opD (by decide) (opv_move rfl rfl) ?_
          refine RL.yes _ rfl rfl c1 (by decide) (opv_fieldAddr rfl Try.fo31_2 rfl) ?_
          rintro _ _ ⟨rfl, rfl⟩
          refine RL.yes _ rfl rfl c1 (by decide) (opv_loadB rfl Try.one4 rfl (Sep.at (o := boxO bb1 [(.int .i64 a0_0), (.int .i64 a0_1), (.bool a0_2), u0_3, u0_4]) S_2 1 rfl) rfl) ?_
          rintro _ _ ⟨rfl, rfl⟩
          refine RL.opD (by decide) (opv_pick rfl rfl (fun e => absurd (Eq.trans (Eq.symm e) c1) (by decide)) (fun _ => rfl) rfl) ?_
          refine RL.opD (by decide) (opv_move rfl rfl) ?_
          refine RL.yes _ rfl rfl c2 (by decide) (opv_move rfl rfl) ?_
          rintro _ _ ⟨rfl, rfl⟩
          refine RL.yes _ rfl rfl c2 (by decide) (opv_move rfl rfl) ?_
          rintro _ _ ⟨rfl, rfl⟩
          refine RL.yes _ rfl rfl c2 (by decide) (opv_call (cap := []) (spec_l08Order_ok _ _ _ _ hx3) rfl rfl ⟨rfl, rfl, trivial⟩ Try.func68 rfl rfl) ?_
          rintro _ _ ⟨rfl, rfl⟩
          refine RL.yes _ rfl rfl c2 (by decide) (opv_not rfl rfl) ?_
          rintro _ _ ⟨rfl, rfl⟩
          refine RL.opD (by decide) (opv_pick rfl rfl (fun e => absurd (Eq.trans (Eq.symm e) c2) (by decide)) (fun _ => rfl) rfl) ?_
          refine RL.opD (by decide) (opv_move rfl rfl) ?_
          refine RL.no rfl rfl (Eq.trans c3 (by decide)) (by decide) ?_
          refine RL.no rfl rfl (Eq.trans c3 (by decide)) (by decide) ?_
          refine RL.no rfl rfl (Eq.trans c3 (by decide)) (by decide) ?_
          refine RL.opD (by decide) (opv_pick rfl rfl (fun _ => rfl) (fun e => absurd (Eq.trans (Eq.symm e) c3) (by decide)) rfl) ?_
          refine RL.nil ?_
          have ey1 := Option.some.inj hy1
          subst ey1
          refine onlyN ?_
          exact ⟨⟨rfl, rfl, rfl, rfl, rfl, rfl, rfl, rfl, trivial⟩, rfl⟩
        · rw [if_neg c3] at hy1
          have c3 := eq_false_of_ne_true c3
          obtain ⟨x4, hx4, hy1⟩ := Option.bind_eq_some_iff.1 hy1
          refine W.region ?_
          refine RL.op _ (by decide) (opv_call (cap := []) (spec_l02Is_ok _ _ _ _ _ _ _ (SL.up (SL.mod g0_3 X_2 (Nat.le_refl _) nob) (Nat.le_trans (Nat.le_refl _) (Mod.size X_2))) _ _ (SL.up (SL.mod g0_4 X_2 (Nat.le_refl _) nob) (Nat.le_trans (Nat.le_refl _) (Mod.size X_2))) (Sep.at (o := boxO bb1 [(.int .i64 a0_0), (.int .i64 a0_1), (.bool a0_2), u0_3, u0_4]) S_2 1 rfl) _ hx2) rfl rfl ⟨rfl, trivial⟩ Try.func67 rfl rfl) ?_
          rintro _ _ ⟨rfl, rfl⟩
          refine RL.opD (by decide) (opv_not rfl rfl) ?_
          refine RL.opD (by decide) (opv_move rfl rfl) ?_
          refine RL.yes _ rfl rfl c1 (by decide) (opv_fieldAddr rfl Try.fo31_2 rfl) ?_
          rintro _ _ ⟨rfl, rfl⟩
          refine RL.yes _ rfl rfl c1 (by decide) (opv_loadB rfl Try.one4 rfl (Sep.at (o := boxO bb1 [(.int .i64 a0_0), (.int .i64 a0_1), (.bool a0_2), u0_3, u0_4]) S_2 1 rfl) rfl) ?_
          rintro _ _ ⟨rfl, rfl⟩
          refine RL.opD (by decide) (opv_pick rfl rfl (fun e => absurd (Eq.trans (Eq.symm e) c1) (by decide)) (fun _ => rfl) rfl) ?_
          refine RL.opD (by decide) (opv_move rfl rfl) ?_
          refine RL.yes _ rfl rfl c2 (by decide) (opv_move rfl rfl) ?_
          rintro _ _ ⟨rfl, rfl⟩
          refine RL.yes _ rfl rfl c2 (by decide) (opv_move rfl rfl) ?_
          rintro _ _ ⟨rfl, rfl⟩
          refine RL.yes _ rfl rfl c2 (by decide) (opv_call (cap := []) (spec_l08Order_ok _ _ _ _ hx3) rfl rfl ⟨rfl, rfl, trivial⟩ Try.func68 rfl rfl) ?_
          rintro _ _ ⟨rfl, rfl⟩
          refine RL.yes _ rfl rfl c2 (by decide) (opv_not rfl rfl) ?_
          rintro _ _ ⟨rfl, rfl⟩
          refine RL.opD (by decide) (opv_pick rfl rfl (fun e => absurd (Eq.trans (Eq.symm e) c2) (by decide)) (fun _ => rfl) rfl) ?_
          refine RL.opD (by decide) (opv_move rfl rfl) ?_
          refine RL.yes _ rfl rfl c3 (by decide) (opv_move rfl rfl) ?_
          rintro _ _ ⟨rfl, rfl⟩
          refine RL.yes _ rfl rfl c3 (by decide) (opv_call (cap := []) (spec_l01Finite_ok _ _ _ g3 _ hx4) rfl rfl ⟨rfl, trivial⟩ Try.func69 rfl rfl) ?_
          rintro _ _ ⟨rfl, rfl⟩
          refine RL.yes _ rfl rfl c3 (by decide) (opv_not rfl rfl) ?_
          rintro _ _ ⟨rfl, rfl⟩
          refine RL.opD (by decide) (opv_pick rfl rfl (fun e => absurd (Eq.trans (Eq.symm e) c3) (by decide)) (fun _ => rfl) rfl) ?_
          refine RL.nil ?_
          have ey1 := Option.some.inj hy1
          subst ey1
          refine onlyN ?_
          exact ⟨⟨rfl, rfl, rfl, rfl, rfl, rfl, rfl, rfl, trivial⟩, rfl⟩
  rintro φ' _ ⟨hs1, rfl⟩
  refine thnN ?_
  refine W.sub hs1 ?_
  by_cases c4 : x1 = true
  · rw [if_pos c4] at hp
    refine W.condT rfl c4 ?_
    refine W.seq ?_
    refine W.region ?_
    refine RL.opD (by decide) (opv_build (cs := [(.slice none 0 0), (.slice none 0 0), (.slice none 0 0)]) [] [] rfl Try.bd28 trivial rfl) ?_
    refine RL.op0 _ (opS_stored (cs := [(.slice none 0 0), (.slice none 0 0), (.slice none 0 0)]) (cs' := [(.slice none 0 0), (.slice none 0 0), (.slice none 0 0)]) (opv_storeA (us := [(.slice none 0 0), (.slice none 0 0), (.slice none 0 0)]) rfl Try.size28 rfl rfl (oneAll rfl (oneAll rfl (oneAll rfl rfl))) (Sep.at (o := boxO bb2 [(.slice none 0 0), (.slice none 0 0), (.slice none 0 0)]) S_2 0 rfl) rfl rfl) (Sep.at (o := boxO bb2 [(.slice none 0 0), (.slice none 0 0), (.slice none 0 0)]) S_2 0 rfl)) ?_
    rintro _ hp3 ⟨rfl, MT_3, T_3⟩
    have S_3 : Sep [] h0.size hp2 ([boxO bb2 [(.slice none 0 0), (.slice none 0 0), (.slice none 0 0)]] ++ [boxO bb1 [(.int .i64 a0_0), (.int .i64 a0_1), (.bool a0_2), u0_3, u0_4]]) := Sep.sel S_2 [0, 1] (by decide)
    have X_3 : Mod [] h0 hp3 := Mod.step (A := [boxO bb2 [(.slice none 0 0), (.slice none 0 0), (.slice none 0 0)]]) (L := [boxO bb1 [(.int .i64 a0_0), (.int .i64 a0_1), (.bool a0_2), u0_3, u0_4]]) X_2 S_3 MT_3
    have S_4 : Sep [] h0.size hp3 [boxO bb2 [(.slice none 0 0), (.slice none 0 0), (.slice none 0 0)], boxO bb1 [(.int .i64 a0_0), (.int .i64 a0_1), (.bool a0_2), u0_3, u0_4]] := Sep.step (A := [boxO bb2 [(.slice none 0 0), (.slice none 0 0), (.slice none 0 0)]]) (L := [boxO bb1 [(.int .i64 a0_0), (.int .i64 a0_1), (.bool a0_2), u0_3, u0_4]]) S_3 (Mod.size X_2) MT_3 T_3
    refine RL.opD (by decide) (opv_assign rfl rfl) ?_
    refine RL.nil ?_
    refine thnN ?_
    refine W.ret ?_
    refine thnR ?_
    have S_5 : Sep [] h0.size hp3 [ownO (kF .f32) 25 (.slice none 0 0) ([] : List (Option Nat)), boxO bb2 [(.slice none 0 0), (.slice none 0 0), (.slice none 0 0)], boxO bb1 [(.int .i64 a0_0), (.int .i64 a0_1), (.bool a0_2), u0_3, u0_4]] := Sep.addNil S_4
    have S_6 : Sep [] h0.size hp3 [ownO (kF .f32) 25 (.slice none 0 0) ([] : List (Option Nat)), ownO (kF .f32) 25 (.slice none 0 0) ([] : List (Option Nat)), boxO bb2 [(.slice none 0 0), (.slice none 0 0), (.slice none 0 0)], boxO bb1 [(.int .i64 a0_0), (.int .i64 a0_1), (.bool a0_2), u0_3, u0_4]] := Sep.addNil S_5
    have S_7 : Sep [] h0.size hp3 [ownO (kF .f32) 25 (.slice none 0 0) ([] : List (Option Nat)), ownO (kF .f32) 25 (.slice none 0 0) ([] : List (Option Nat)), ownO (kF .f32) 25 (.slice none 0 0) ([] : List (Option Nat)), boxO bb2 [(.slice none 0 0), (.slice none 0 0), (.slice none 0 0)], boxO bb1 [(.int .i64 a0_0), (.int .i64 a0_1), (.bool a0_2), u0_3, u0_4]] := Sep.addNil S_6
    have er := Option.some.inj hp
    subst er
    exact Rt.cellA rfl rfl rfl Try.agg28 Try.size28 (Sep.at (o := boxO bb2 [(.slice none 0 0), (.slice none 0 0), (.slice none 0 0)]) S_7 3 rfl) rfl ⟨(.slice none 0 0), (.slice none 0 0), (.slice none 0 0), rfl, X_3, (Sep.sel S_7 [2, 1, 0] (by decide))⟩
  · rw [if_neg c4] at hp
    have c4 := eq_false_of_ne_true c4
    refine W.condF rfl c4 ?_
    refine W.skip ?_
    refine thnN ?_
    refine W.seq ?_
    obtain ⟨x5, hx5, hp⟩ := Option.bind_eq_some_iff.1 hp
    refine W.region ?_
    refine RL.opD (by decide) (opv_move rfl rfl) ?_
    refine RL.opD (by decide) (opv_move rfl rfl) ?_
    refine RL.opD (by decide) (opv_move rfl rfl) ?_
    refine RL.op _ (by decide) (opv_call (cap := []) (spec_l08Mode_ok _ _ _ _ _ _ _ (SL.up (SL.mod g0_3 X_2 (Nat.le_refl _) nob) (Nat.le_trans (Nat.le_refl _) (Mod.size X_2))) _ _ (SL.up (SL.mod g0_4 X_2 (Nat.le_refl _) nob) (Nat.le_trans (Nat.le_refl _) (Mod.size X_2))) (Sep.at (o := boxO bb1 [(.int .i64 a0_0), (.int .i64 a0_1), (.bool a0_2), u0_3, u0_4]) S_2 1 rfl) _ _ _ _ g3 _ hx5) rfl rfl ⟨rfl, rfl, rfl, rfl, trivial⟩ Try.func70 rfl rfl) ?_
    rintro _ hp4 ⟨v1, v2, v3, rfl, MT_4, T_4⟩
    have X_4 : Mod [] h0 hp4 := Mod.step (A := []) (L := [boxO bb2 [(.slice none 0 0), (.slice none 0 0), (.slice none 0 0)], boxO bb1 [(.int .i64 a0_0), (.int .i64 a0_1), (.bool a0_2), u0_3, u0_4]]) X_2 S_2 MT_4
    have S_8 : Sep [] h0.size hp4 [ownO (kF .f32) 25 v1 x5.1, ownO (kF .f32) 25 v2 x5.2.1, ownO (kF .f32) 25 v3 x5.2.2, boxO bb2 [(.slice none 0 0), (.slice none 0 0), (.slice none 0 0)], boxO bb1 [(.int .i64 a0_0), (.int .i64 a0_1), (.bool a0_2), u0_3, u0_4]] := Sep.step (A := []) (L := [boxO bb2 [(.slice none 0 0), (.slice none 0 0), (.slice none 0 0)], boxO bb1 [(.int .i64 a0_0), (.int .i64 a0_1), (.bool a0_2), u0_3, u0_4]]) S_2 (Mod.size X_2) MT_4 T_4
    refine RL.op0 _ (opS_stored (cs := [(.slice none 0 0), (.slice none 0 0), (.slice none 0 0)]) (cs' := [v1, v2, v3]) (opv_storeA (us := [v1, v2, v3]) rfl Try.size28 rfl rfl (oneAll (ownO.one (Sep.at (o := ownO (kF .f32) 25 v1 x5.1) S_8 0 rfl)) (oneAll (ownO.one (Sep.at (o := ownO (kF .f32) 25 v2 x5.2.1) S_8 1 rfl)) (oneAll (ownO.one (Sep.at (o := ownO (kF .f32) 25 v3 x5.2.2) S_8 2 rfl)) rfl))) (Sep.at (o := boxO bb2 [(.slice none 0 0), (.slice none 0 0), (.slice none 0 0)]) S_8 3 rfl) rfl rfl) (Sep.at (o := boxO bb2 [(.slice none 0 0), (.slice none 0 0), (.slice none 0 0)]) S_8 3 rfl)) ?_
    rintro _ hp5 ⟨rfl, MT_5, T_5⟩
    have S_9 : Sep [] h0.size hp4 ([boxO bb2 [(.slice none 0 0), (.slice none 0 0), (.slice none 0 0)]] ++ [ownO (kF .f32) 25 v1 x5.1, ownO (kF .f32) 25 v2 x5.2.1, ownO (kF .f32) 25 v3 x5.2.2, boxO bb1 [(.int .i64 a0_0), (.int .i64 a0_1), (.bool a0_2), u0_3, u0_4]]) := Sep.sel S_8 [3, 0, 1, 2, 4] (by decide)
    have X_5 : Mod [] h0 hp5 := Mod.step (A := [boxO bb2 [(.slice none 0 0), (.slice none 0 0), (.slice none 0 0)]]) (L := [ownO (kF .f32) 25 v1 x5.1, ownO (kF .f32) 25 v2 x5.2.1, ownO (kF .f32) 25 v3 x5.2.2, boxO bb1 [(.int .i64 a0_0), (.int .i64 a0_1), (.bool a0_2), u0_3, u0_4]]) X_4 S_9 MT_5
    have S_10 : Sep [] h0.size hp5 [boxO bb2 [v1, v2, v3], ownO (kF .f32) 25 v1 x5.1, ownO (kF .f32) 25 v2 x5.2.1, ownO (kF .f32) 25 v3 x5.2.2, boxO bb1 [(.int .i64 a0_0), (.int .i64 a0_1), (.bool a0_2), u0_3, u0_4]] := Sep.step (A := [boxO bb2 [(.slice none 0 0), (.slice none 0 0), (.slice none 0 0)]]) (L := [ownO (kF .f32) 25 v1 x5.1, ownO (kF .f32) 25 v2 x5.2.1, ownO (kF .f32) 25 v3 x5.2.2, boxO bb1 [(.int .i64 a0_0), (.int .i64 a0_1), (.bool a0_2), u0_3, u0_4]]) S_9 (Mod.size X_4) MT_5 T_5
    refine RL.opD (by decide) (opv_assign rfl rfl) ?_
    refine RL.nil ?_
    refine thnN ?_
    refine W.ret ?_
    have er := Option.some.inj hp
    subst er
    exact Rt.cellA rfl rfl rfl Try.agg28 Try.size28 (Sep.at (o := boxO bb2 [v1, v2, v3]) S_10 0 rfl) rfl ⟨v1, v2, v3, rfl, X_5, (Sep.sel S_10 [1, 2, 3] (by decide))⟩

set_option maxRecDepth 20000 in
theorem impl_isOrder_ok (h0 : Heap) (a0 : Int) (r : Bool) (hp : impl_isOrder a0 = some r) : CallsH Try.prog 129 ([(.int .i64 a0)].toArray ++ [].toArray) h0 (fun v h' => v = (.bool r) ∧ h0 = h') := by
  unfold impl_isOrder at hp
  refine callsH_of_W (l := [(.int .i64 a0)]) (cap := []) 5 Try.func129 rfl rfl rfl ?_
  refine W.seq ?_
  refine W.region ?_
  refine RL.opD (by decide) (opv_assign rfl rfl) ?_
  refine RL.nil ?_
  refine thnN ?_
  refine W.seq ?_
  obtain ⟨x1, hx1, hp⟩ := Option.bind_eq_some_iff.1 hp
  refine W.region ?_
  refine RL.opD (by decide) (opv_move rfl rfl) ?_
  refine RL.op _ (by decide) (opv_call (cap := []) (impl_within_ok _ _ _ _ _ hx1) rfl rfl ⟨rfl, rfl, rfl, trivial⟩ Try.func78 rfl rfl) ?_
  rintro _ _ ⟨rfl, rfl⟩
  refine RL.opD (by decide) (opv_assign rfl rfl) ?_
  refine RL.nil ?_
  refine thnN ?_
  refine W.ret ?_
  have er := Option.some.inj hp
  subst er
  exact Rt.one rfl rfl ⟨rfl, rfl⟩

set_option maxRecDepth 20000 in
theorem impl_isMode_ok (h0 : Heap) (a0_0 : Int) (a0_1 : Int) (a0_2 : Bool) (u0_3 : Value) (a0_3 : List (Option Nat)) (g0_3 : SL (kF .f32) h0.size h0 u0_3 a0_3) (u0_4 : Value) (a0_4 : List (Option Nat)) (g0_4 : SL (kF .f32) h0.size h0 u0_4 a0_4) (a1 : Int) (a2 : Int) (r : Bool) (hp : impl_isMode a0_0 a0_1 a0_2 a0_3 a0_4 a1 a2 = some r) : CallsH Try.prog 71 ([(.agg (List.toArray (α := Value) [(.int .i64 a0_0), (.int .i64 a0_1), (.bool a0_2), u0_3, u0_4])), (.int .i64 a1), (.int .i64 a2)].toArray ++ [].toArray) h0 (fun v h' => v = (.bool r) ∧ Mod [] h0 h' ∧ Sep [] h0.size h' []) := by
  unfold impl_isMode at hp
  refine callsH_of_W (l := [(.agg (List.toArray (α := Value) [(.int .i64 a0_0), (.int .i64 a0_1), (.bool a0_2), u0_3, u0_4])), (.int .i64 a1), (.int .i64 a2)]) (cap := []) 22 Try.func71 rfl rfl rfl ?_
  refine W.seq ?_
  refine W.region ?_
  refine RL.op _ (by decide) (opS_boxed (opv_boxA (cs := [(.int .i64 a0_0), (.int .i64 a0_1), (.bool a0_2), u0_3, u0_4]) rfl rfl)) ?_
  rintro _ hp1 ⟨bb1, rfl, MT_1, T_1⟩
  have X_1 : Mod [] h0 hp1 := Mod.step (A := []) (L := []) (Mod.refl [] h0) (Sep.nil [] h0.size h0) MT_1
  have S_1 : Sep [] h0.size hp1 [boxO bb1 [(.int .i64 a0_0), (.int .i64 a0_1), (.bool a0_2), u0_3, u0_4]] := Sep.step (A := []) (L := []) (Sep.nil [] h0.size h0) (Mod.size (Mod.refl [] h0)) MT_1 T_1
  refine RL.opD (by decide) (opv_assign rfl rfl) ?_
  refine RL.nil ?_
  refine thnN ?_
  refine W.seq ?_
  obtain ⟨x1, hy1, hp⟩ := Option.bind_eq_some_iff.1 hp
  refine W.cut (fun φ' h' => Fr.sub [(0, (.agg (List.toArray (α := Value) [(.int .i64 a0_0), (.int .i64 a0_1), (.bool a0_2), u0_3, u0_4]))), (1, (.int .i64 a1)), (2, (.int .i64 a2)), (3, (.pointer (some ⟨bb1, 0, none⟩))), (6, (.bool x1))] φ' ∧ Mod [] h0 h' ∧ Sep [] h0.size h' [boxO bb1 [(.int .i64 a0_0), (.int .i64 a0_1), (.bool a0_2), u0_3, u0_4]]) ?_ ?_
  · obtain ⟨x2, hx2, hy1⟩ := Option.bind_eq_some_iff.1 hy1
    by_cases c1 : x2 = true
    · rw [if_pos c1] at hy1
      by_cases c2 : (!a0_2) = true
      · rw [if_pos c2] at hy1
        obtain ⟨x3, hx3, hy1⟩ := Option.bind_eq_some_iff.1 hy1
        by_cases c3 : x3 = true
        · rw [if_pos c3] at hy1
          obtain ⟨x4, hx4, hy1⟩ := Option.bind_eq_some_iff.1 hy1
          refine W.region ?_
          refine RL.opD (by decide) (opv_loadA (us := [(.int .i64 a0_0), (.int .i64 a0_1), (.bool a0_2), u0_3, u0_4]) rfl Try.agg31 Try.size31 rfl (Sep.at (o := boxO bb1 [(.int .i64 a0_0), (.int .i64 a0_1), (.bool a0_2), u0_3, u0_4]) S_1 0 rfl) rfl rfl) ?_
          refine RL.op _ (by decide) (opv_call (cap := []) (impl_ValidSheet_ok _ _ _ _ _ _ (SL.up (SL.mod g0_3 X_1 (Nat.le_refl _) nob) (Nat.le_trans (Nat.le_refl _) (Mod.size X_1))) _ _ (SL.up (SL.mod g0_4 X_1 (Nat.le_refl _) nob) (Nat.le_trans (Nat.le_refl _) (Mod.size X_1))) _ hx2) rfl rfl ⟨rfl, trivial⟩ Try.func60 rfl rfl) ?_
          rintro _ hp2 ⟨rfl, MT_2, T_2⟩
          have X_2 : Mod [] h0 hp2 := Mod.step (A := []) (L := [boxO bb1 [(.int .i64 a0_0), (.int .i64 a0_1), (.bool a0_2), u0_3, u0_4]]) X_1 S_1 MT_2
          have S_2 : Sep [] h0.size hp2 [boxO bb1 [(.int .i64 a0_0), (.int .i64 a0_1), (.bool a0_2), u0_3, u0_4]] := Sep.step (A := []) (L := [boxO bb1 [(.int .i64 a0_0), (.int .i64 a0_1), (.bool a0_2), u0_3, u0_4]]) S_1 (Mod.size X_1) MT_2 T_2
          refine RL.opD (by decide) (opv_move rfl rfl) ?_
          refine RL.yes _ rfl rfl c1 (by decide) (opv_fieldAddr rfl Try.fo31_2 rfl) ?_
          rintro _ _ ⟨rfl, rfl⟩
          refine RL.yes _ rfl rfl c1 (by decide) (opv_loadB rfl Try.one4 rfl (Sep.at (o := boxO bb1 [(.int .i64 a0_0), (.int .i64 a0_1), (.bool a0_2), u0_3, u0_4]) S_2 0 rfl) rfl) ?_
          rintro _ _ ⟨rfl, rfl⟩
          refine RL.yes _ rfl rfl c1 (by decide) (opv_not rfl rfl) ?_
          rintro _ _ ⟨rfl, rfl⟩
          refine RL.opD (by decide) (opv_pick rfl rfl (fun _ => rfl) (fun e => absurd (Eq.trans (Eq.symm e) c1) (by decide)) rfl) ?_
          refine RL.opD (by decide) (opv_move rfl rfl) ?_
          refine RL.yes _ rfl rfl c2 (by decide) (opv_move rfl rfl) ?_
          rintro _ _ ⟨rfl, rfl⟩
          refine RL.yes _ rfl rfl c2 (by decide) (opv_call (cap := []) (impl_isOrder_ok _ _ _ hx3) rfl rfl ⟨rfl, trivial⟩ Try.func129 rfl rfl) ?_
          rintro _ _ ⟨rfl, rfl⟩
          refine RL.opD (by decide) (opv_pick rfl rfl (fun _ => rfl) (fun e => absurd (Eq.trans (Eq.symm e) c2) (by decide)) rfl) ?_
          refine RL.opD (by decide) (opv_move rfl rfl) ?_
          refine RL.yes _ rfl rfl c3 (by decide) (opv_move rfl rfl) ?_
          rintro _ _ ⟨rfl, rfl⟩
          refine RL.yes _ rfl rfl c3 (by decide) (opv_call (cap := []) (impl_isOrder_ok _ _ _ hx4) rfl rfl ⟨rfl, trivial⟩ Try.func129 rfl rfl) ?_
          rintro _ _ ⟨rfl, rfl⟩
          refine RL.opD (by decide) (opv_pick rfl rfl (fun _ => rfl) (fun e => absurd (Eq.trans (Eq.symm e) c3) (by decide)) rfl) ?_
          refine RL.opD (by decide) (opv_assign rfl rfl) ?_
          refine RL.nil ?_
          have ey1 := Option.some.inj hy1
          subst ey1
          refine onlyN ?_
          exact ⟨⟨rfl, rfl, rfl, rfl, rfl, trivial⟩, X_2, (Sep.sel S_2 [0] (by decide))⟩
        · rw [if_neg c3] at hy1
          have c3 := eq_false_of_ne_true c3
          refine W.region ?_
          refine RL.opD (by decide) (opv_loadA (us := [(.int .i64 a0_0), (.int .i64 a0_1), (.bool a0_2), u0_3, u0_4]) rfl Try.agg31 Try.size31 rfl (Sep.at (o := boxO bb1 [(.int .i64 a0_0), (.int .i64 a0_1), (.bool a0_2), u0_3, u0_4]) S_1 0 rfl) rfl rfl) ?_
          refine RL.op _ (by decide) (opv_call (cap := []) (impl_ValidSheet_ok _ _ _ _ _ _ (SL.up (SL.mod g0_3 X_1 (Nat.le_refl _) nob) (Nat.le_trans (Nat.le_refl _) (Mod.size X_1))) _ _ (SL.up (SL.mod g0_4 X_1 (Nat.le_refl _) nob) (Nat.le_trans (Nat.le_refl _) (Mod.size X_1))) _ hx2) rfl rfl ⟨rfl, trivial⟩ Try.func60 rfl rfl) ?_
          rintro _ hp2 ⟨rfl, MT_2, T_2⟩
          have X_2 : Mod [] h0 hp2 := Mod.step (A := []) (L := [boxO bb1 [(.int .i64 a0_0), (.int .i64 a0_1), (.bool a0_2), u0_3, u0_4]]) X_1 S_1 MT_2
          have S_2 : Sep [] h0.size hp2 [boxO bb1 [(.int .i64 a0_0), (.int .i64 a0_1), (.bool a0_2), u0_3, u0_4]] := Sep.step (A := []) (L := [boxO bb1 [(.int .i64 a0_0), (.int .i64 a0_1), (.bool a0_2), u0_3, u0_4]]) S_1 (Mod.size X_1) MT_2 T_2
          refine RL.opD (by decide) (opv_move rfl rfl) ?_
          refine RL.yes _ rfl rfl c1 (by decide) (opv_fieldAddr rfl Try.fo31_2 rfl) ?_
          rintro _ _ ⟨rfl, rfl⟩
          refine RL.yes _ rfl rfl c1 (by decide) (opv_loadB rfl Try.one4 rfl (Sep.at (o := boxO bb1 [(.int .i64 a0_0), (.int .i64 a0_1), (.bool a0_2), u0_3, u0_4]) S_2 0 rfl) rfl) ?_
          rintro _ _ ⟨rfl, rfl⟩
          refine RL.yes _ rfl rfl c1 (by decide) (opv_not rfl rfl) ?_
          rintro _ _ ⟨rfl, rfl⟩
          refine RL.opD (by decide) (opv_pick rfl rfl (fun _ => rfl) (fun e => absurd (Eq.trans (Eq.symm e) c1) (by decide)) rfl) ?_
          refine RL.opD (by decide) (opv_move rfl rfl) ?_
          refine RL.yes _ rfl rfl c2 (by decide) (opv_move rfl rfl) ?_
          rintro _ _ ⟨rfl, rfl⟩
          refine RL.yes _ rfl rfl c2 (by decide) (opv_call (cap := []) (impl_isOrder_ok _ _ _ hx3) rfl rfl ⟨rfl, trivial⟩ Try.func129 rfl rfl) ?_
          rintro _ _ ⟨rfl, rfl⟩
          refine RL.opD (by decide) (opv_pick rfl rfl (fun _ => rfl) (fun e => absurd (Eq.trans (Eq.symm e) c2) (by decide)) rfl) ?_
          refine RL.opD (by decide) (opv_move rfl rfl) ?_
          refine RL.no rfl rfl (Eq.trans c3 (by decide)) (by decide) ?_
          refine RL.no rfl rfl (Eq.trans c3 (by decide)) (by decide) ?_
          refine RL.opD (by decide) (opv_pick rfl rfl (fun e => absurd (Eq.trans (Eq.symm e) c3) (by decide)) (fun _ => rfl) rfl) ?_
          refine RL.opD (by decide) (opv_assign rfl rfl) ?_
          refine RL.nil ?_
          have ey1 := Option.some.inj hy1
          subst ey1
          refine onlyN ?_
          exact ⟨⟨rfl, rfl, rfl, rfl, rfl, trivial⟩, X_2, (Sep.sel S_2 [0] (by decide))⟩
      · rw [if_neg c2] at hy1
        have c2 := eq_false_of_ne_true c2
        refine W.region ?_
        refine RL.opD (by decide) (opv_loadA (us := [(.int .i64 a0_0), (.int .i64 a0_1), (.bool a0_2), u0_3, u0_4]) rfl Try.agg31 Try.size31 rfl (Sep.at (o := boxO bb1 [(.int .i64 a0_0), (.int .i64 a0_1), (.bool a0_2), u0_3, u0_4]) S_1 0 rfl) rfl rfl) ?_
        refine RL.op _ (by decide) (opv_call (cap := []) (impl_ValidSheet_ok _ _ _ _ _ _ (SL.up (SL.mod g0_3 X_1 (Nat.le_refl _) nob) (Nat.le_trans (Nat.le_refl _) (Mod.size X_1))) _ _ (SL.up (SL.mod g0_4 X_1 (Nat.le_refl _) nob) (Nat.le_trans (Nat.le_refl _) (Mod.size X_1))) _ hx2) rfl rfl ⟨rfl, trivial⟩ Try.func60 rfl rfl) ?_
        rintro _ hp2 ⟨rfl, MT_2, T_2⟩
        have X_2 : Mod [] h0 hp2 := Mod.step (A := []) (L := [boxO bb1 [(.int .i64 a0_0), (.int .i64 a0_1), (.bool a0_2), u0_3, u0_4]]) X_1 S_1 MT_2
        have S_2 : Sep [] h0.size hp2 [boxO bb1 [(.int .i64 a0_0), (.int .i64 a0_1), (.bool a0_2), u0_3, u0_4]] := Sep.step (A := []) (L := [boxO bb1 [(.int .i64 a0_0), (.int .i64 a0_1), (.bool a0_2), u0_3, u0_4]]) S_1 (Mod.size X_1) MT_2 T_2
        refine RL.opD (by decide) (opv_move rfl rfl) ?_
        refine RL.yes _ rfl rfl c1 (by decide) (opv_fieldAddr rfl Try.fo31_2 rfl) ?_
        rintro _ _ ⟨rfl, rfl⟩
        refine RL.yes _ rfl rfl c1 (by decide) (opv_loadB rfl Try.one4 rfl (Sep.at (o := boxO bb1 [(.int .i64 a0_0), (.int .i64 a0_1), (.bool a0_2), u0_3, u0_4]) S_2 0 rfl) rfl) ?_
        rintro _ _ ⟨rfl, rfl⟩
        refine RL.yes _ rfl rfl c1 (by decide) (opv_not rfl rfl) ?_
        rintro _ _ ⟨rfl, rfl⟩
        refine RL.opD (by decide) (opv_pick rfl rfl (fun _ => rfl) (fun e => absurd (Eq.trans (Eq.symm e) c1) (by decide)) rfl) ?_
        refine RL.opD (by decide) (opv_move rfl rfl) ?_
        refine RL.no rfl rfl (Eq.trans c2 (by decide)) (by decide) ?_
        refine RL.no rfl rfl (Eq.trans c2 (by decide)) (by decide) ?_
        refine RL.opD (by decide) (opv_pick rfl rfl (fun e => absurd (Eq.trans (Eq.symm e) c2) (by decide)) (fun _ => rfl) rfl) ?_
        refine RL.opD (by decide) (opv_move rfl rfl) ?_
        refine RL.no rfl rfl (Eq.trans rfl (by decide)) (by decide) ?_
        refine RL.no rfl rfl (Eq.trans rfl (by decide)) (by decide) ?_
        refine RL.opD (by decide) (opv_pick rfl rfl (fun e => absurd (Eq.trans (Eq.symm e) rfl) (by decide)) (fun _ => rfl) rfl) ?_
        refine RL.opD (by decide) (opv_assign rfl rfl) ?_
        refine RL.nil ?_
        have ey1 := Option.some.inj hy1
        subst ey1
        refine onlyN ?_
        exact ⟨⟨rfl, rfl, rfl, rfl, rfl, trivial⟩, X_2, (Sep.sel S_2 [0] (by decide))⟩
    · rw [if_neg c1] at hy1
      have c1 := eq_false_of_ne_true c1
      refine W.region ?_
      refine RL.opD (by decide) (opv_loadA (us := [(.int .i64 a0_0), (.int .i64 a0_1), (.bool a0_2), u0_3, u0_4]) rfl Try.agg31 Try.size31 rfl (Sep.at (o := boxO bb1 [(.int .i64 a0_0), (.int .i64 a0_1), (.bool a0_2), u0_3, u0_4]) S_1 0 rfl) rfl rfl) ?_
      refine RL.op _ (by decide) (opv_call (cap := []) (impl_ValidSheet_ok _ _ _ _ _ _ (SL.up (SL.mod g0_3 X_1 (Nat.le_refl _) nob) (Nat.le_trans (Nat.le_refl _) (Mod.size X_1))) _ _ (SL.up (SL.mod g0_4 X_1 (Nat.le_refl _) nob) (Nat.le_trans (Nat.le_refl _) (Mod.size X_1))) _ hx2) rfl rfl ⟨rfl, trivial⟩ Try.func60 rfl rfl) ?_
      rintro _ hp2 ⟨rfl, MT_2, T_2⟩
      have X_2 : Mod [] h0 hp2 := Mod.step (A := []) (L := [boxO bb1 [(.int .i64 a0_0), (.int .i64 a0_1), (.bool a0_2), u0_3, u0_4]]) X_1 S_1 MT_2
      have S_2 : Sep [] h0.size hp2 [boxO bb1 [(.int .i64 a0_0), (.int .i64 a0_1), (.bool a0_2), u0_3, u0_4]] := Sep.step (A := []) (L := [boxO bb1 [(.int .i64 a0_0), (.int .i64 a0_1), (.bool a0_2), u0_3, u0_4]]) S_1 (Mod.size X_1) MT_2 T_2
      refine RL.opD (by decide) (opv_move rfl rfl) ?_
      refine RL.no rfl rfl (Eq.trans c1 (by decide)) (by decide) ?_
      refine RL.no rfl rfl (Eq.trans c1 (by decide)) (by decide) ?_
      refine RL.no rfl rfl (Eq.trans c1 (by decide)) (by decide) ?_
      refine RL.opD (by decide) (opv_pick rfl rfl (fun e => absurd (Eq.trans (Eq.symm e) c1) (by decide)) (fun _ => rfl) rfl) ?_
      refine RL.opD (by decide) (opv_move rfl rfl) ?_
      refine RL.no rfl rfl (Eq.trans rfl (by decide)) (by decide) ?_
      refine RL.no rfl rfl (Eq.trans rfl (by decide)) (by decide) ?_
      refine RL.opD (by decide) (opv_pick rfl rfl (fun e => absurd (Eq.trans (Eq.symm e) rfl) (by decide)) (fun _ => rfl) rfl) ?_
      refine RL.opD (by decide) (opv_move rfl rfl) ?_
      refine RL.no rfl rfl (Eq.trans rfl (by decide)) (by decide) ?_
      refine RL.no rfl rfl (Eq.trans rfl (by decide)) (by decide) ?_
      refine RL.opD (by decide) (opv_pick rfl rfl (fun e => absurd (Eq.trans (Eq.symm e) rfl) (by decide)) (fun _ => rfl) rfl) ?_
      refine RL.opD (by decide) (opv_assign rfl rfl) ?_
      refine RL.nil ?_
      have ey1 := Option.some.inj hy1
      subst ey1
      refine onlyN ?_
      exact ⟨⟨rfl, rfl, rfl, rfl, rfl, trivial⟩, X_2, (Sep.sel S_2 [0] (by decide))⟩
  rintro φ' hp3 ⟨hs1, X_3, S_3⟩
  refine thnN ?_
  refine W.sub hs1 ?_
  refine W.ret ?_
  have er := Option.some.inj hp
  subst er
  exact Rt.one rfl rfl ⟨rfl, X_3, (Sep.nil _ _ _)⟩

set_option maxRecDepth 20000 in
theorem impl_zeroField_ok (h0 : Heap) (a0_0 : Int) (a0_1 : Int) (a0_2 : Bool) (u0_3 : Value) (a0_3 : List (Option Nat)) (g0_3 : SL (kF .f32) h0.size h0 u0_3 a0_3) (u0_4 : Value) (a0_4 : List (Option Nat)) (g0_4 : SL (kF .f32) h0.size h0 u0_4 a0_4) (r : ((List (Option Nat)) × (List (Option Nat)) × (List (Option Nat)))) (hp : impl_zeroField a0_0 a0_1 a0_2 a0_3 a0_4 = some r) : CallsH Try.prog 130 ([(.agg (List.toArray (α := Value) [(.int .i64 a0_0), (.int .i64 a0_1), (.bool a0_2), u0_3, u0_4]))].toArray ++ [].toArray) h0 (fun v h' => ∃ w0, ∃ w1, ∃ w2, v = (.agg (List.toArray (α := Value) [w0, w1, w2])) ∧ Mod [] h0 h' ∧ Sep [] h0.size h' [ownO (kF .f32) 25 w0 r.1, ownO (kF .f32) 25 w1 r.2.1, ownO (kF .f32) 25 w2 r.2.2]) := by
  unfold impl_zeroField at hp
  refine callsH_of_W (l := [(.agg (List.toArray (α := Value) [(.int .i64 a0_0), (.int .i64 a0_1), (.bool a0_2), u0_3, u0_4]))]) (cap := []) 16 Try.func130 rfl rfl rfl ?_
  refine W.seq ?_
  refine W.region ?_
  refine RL.op _ (by decide) (opS_boxed (opv_boxA (cs := [(.int .i64 a0_0), (.int .i64 a0_1), (.bool a0_2), u0_3, u0_4]) rfl rfl)) ?_
  rintro _ hp1 ⟨bb1, rfl, MT_1, T_1⟩
  have X_1 : Mod [] h0 hp1 := Mod.step (A := []) (L := []) (Mod.refl [] h0) (Sep.nil [] h0.size h0) MT_1
  have S_1 : Sep [] h0.size hp1 [boxO bb1 [(.int .i64 a0_0), (.int .i64 a0_1), (.bool a0_2), u0_3, u0_4]] := Sep.step (A := []) (L := []) (Sep.nil [] h0.size h0) (Mod.size (Mod.refl [] h0)) MT_1 T_1
  refine RL.op _ (by decide) (opS_boxed (opv_alloc (cs := [(.slice none 0 0), (.slice none 0 0), (.slice none 0 0)]) rfl Try.zero28 rfl)) ?_
  rintro _ hp2 ⟨bb2, rfl, MT_2, T_2⟩
  have X_2 : Mod [] h0 hp2 := Mod.step (A := []) (L := [boxO bb1 [(.int .i64 a0_0), (.int .i64 a0_1), (.bool a0_2), u0_3, u0_4]]) X_1 S_1 MT_2
  have S_2 : Sep [] h0.size hp2 [boxO bb2 [(.slice none 0 0), (.slice none 0 0), (.slice none 0 0)], boxO bb1 [(.int .i64 a0_0), (.int .i64 a0_1), (.bool a0_2), u0_3, u0_4]] := Sep.step (A := []) (L := [boxO bb1 [(.int .i64 a0_0), (.int .i64 a0_1), (.bool a0_2), u0_3, u0_4]]) S_1 (Mod.size X_1) MT_2 T_2
  refine RL.nil ?_
  refine thnN ?_
  refine W.seq ?_
  refine W.region ?_
  refine RL.opD (by decide) (opv_fieldAddr rfl Try.fo31_0 rfl) ?_
  refine RL.opD (by decide) (opv_loadB rfl Try.one2 rfl (Sep.at (o := boxO bb1 [(.int .i64 a0_0), (.int .i64 a0_1), (.bool a0_2), u0_3, u0_4]) S_2 1 rfl) rfl) ?_
  refine RL.opD (by decide) (opv_fieldAddr rfl Try.fo31_1 rfl) ?_
  refine RL.opD (by decide) (opv_loadB rfl Try.one2 rfl (Sep.at (o := boxO bb1 [(.int .i64 a0_0), (.int .i64 a0_1), (.bool a0_2), u0_3, u0_4]) S_2 1 rfl) rfl) ?_
  refine RL.opD (by decide) (opv_mul rfl rfl rfl) ?_
  refine RL.opD (by decide) (opv_assign rfl rfl) ?_
  refine RL.nil ?_
  refine thnN ?_
  refine W.seq ?_
  obtain ⟨c1, hp⟩ := of_ite hp
  obtain ⟨c2, hp⟩ := of_ite hp
  obtain ⟨c3, hp⟩ := of_ite hp
  refine W.sub (ψ := [(0, (.agg (List.toArray (α := Value) [(.int .i64 a0_0), (.int .i64 a0_1), (.bool a0_2), u0_3, u0_4]))), (1, (.pointer (some ⟨bb1, 0, none⟩))), (2, (.pointer (some ⟨bb2, 0, none⟩))), (3, (.int .i64 (IntKind.wrap .i64 (a0_0 * a0_1))))]) ⟨rfl, rfl, rfl, rfl, trivial⟩ ?_
  refine W.regionM [fun v _ => @Eq Value (.int .i64 (IntKind.wrap .i64 (a0_0 * a0_1))) v, fun v h => Sep [] hp2.size h [ownO (kF .f32) 25 v (List.replicate (Int.toNat (IntKind.wrap .i64 (a0_0 * a0_1))) (some 0))], fun v _ => @Eq Value (.int .i64 (IntKind.wrap .i64 (a0_0 * a0_1))) v, fun v h => Sep [] hp2.size h [ownO (kF .f32) 25 v (List.replicate (Int.toNat (IntKind.wrap .i64 (a0_0 * a0_1))) (some 0))], fun v _ => @Eq Value (.int .i64 (IntKind.wrap .i64 (a0_0 * a0_1))) v, fun v h => Sep [] hp2.size h [ownO (kF .f32) 25 v (List.replicate (Int.toNat (IntKind.wrap .i64 (a0_0 * a0_1))) (some 0))]] [none, some (fun u => [u.ownBlock]), none, some (fun u => [u.ownBlock]), none, some (fun u => [u.ownBlock])] [] [[], [0], [], [2], [], [4]] [1, 3, 5] Try.mixed (by decide +kernel) (by decide +kernel) rfl rfl rfl (by decide +kernel) rfl ⟨fun _ _ _ h _ => h, fun _ _ _ h x => h.ext x, fun _ _ _ h _ => h, fun _ _ _ h x => h.ext x, fun _ _ _ h _ => h, fun _ _ _ h x => h.ext x, trivial⟩ ?_ ?_
  · refine ⟨⟨rfl, ?_⟩, ⟨rfl, ?_⟩, ⟨rfl, ?_⟩, ⟨rfl, ?_⟩, ⟨rfl, ?_⟩, ⟨rfl, ?_⟩, trivial⟩
    · rintro hp7 E_1
      refine Dep.nil ?_
      refine GuardOK.none rfl ?_
      exact OpV.toDx (opv_move rfl rfl) rfl
    · rintro hp8 E_2 _ rfl
      refine Dep.nil ?_
      refine GuardOK.none rfl ?_
      exact OpV.mono (opS_make (K := (kF .f32)) (zx := (some 0)) rfl Try.underlying22 Try.einfo25 rfl rfl ⟨_, rfl, (isF_lit .f32 0 (by decide) (by decide))⟩ rfl rfl (by decide) c1) (by rintro _ _ ⟨M_, T_⟩; exact ⟨Mod.ext M_, Sep.weak T_ (Ext.size E_2), Sep.fresh T_⟩)
    · rintro hp9 E_3
      refine Dep.nil ?_
      refine GuardOK.none rfl ?_
      exact OpV.toDx (opv_move rfl rfl) rfl
    · rintro hp10 E_4 _ rfl
      refine Dep.nil ?_
      refine GuardOK.none rfl ?_
      exact OpV.mono (opS_make (K := (kF .f32)) (zx := (some 0)) rfl Try.underlying22 Try.einfo25 rfl rfl ⟨_, rfl, (isF_lit .f32 0 (by decide) (by decide))⟩ rfl rfl (by decide) c2) (by rintro _ _ ⟨M_, T_⟩; exact ⟨Mod.ext M_, Sep.weak T_ (Ext.size E_4), Sep.fresh T_⟩)
    · rintro hp11 E_5
      refine Dep.nil ?_
      refine GuardOK.none rfl ?_
      exact OpV.toDx (opv_move rfl rfl) rfl
    · rintro hp12 E_6 _ rfl
      refine Dep.nil ?_
      refine GuardOK.none rfl ?_
      exact OpV.mono (opS_make (K := (kF .f32)) (zx := (some 0)) rfl Try.underlying22 Try.einfo25 rfl rfl ⟨_, rfl, (isF_lit .f32 0 (by decide) (by decide))⟩ rfl rfl (by decide) c3) (by rintro _ _ ⟨M_, T_⟩; exact ⟨Mod.ext M_, Sep.weak T_ (Ext.size E_6), Sep.fresh T_⟩)
  rintro hp13 E_7 v1 T_3 v2 T_4 v3 T_5
  refine DepM.nil ?_
  intro PW_1 LK_
  have X_7 : Mod [] h0 hp13 := Mod.lift X_2 E_7
  have S_8 : Sep [] h0.size hp13 [ownO (kF .f32) 25 v1 (List.replicate (Int.toNat (IntKind.wrap .i64 (a0_0 * a0_1))) (some 0)), ownO (kF .f32) 25 v2 (List.replicate (Int.toNat (IntKind.wrap .i64 (a0_0 * a0_1))) (some 0)), ownO (kF .f32) 25 v3 (List.replicate (Int.toNat (IntKind.wrap .i64 (a0_0 * a0_1))) (some 0)), boxO bb2 [(.slice none 0 0), (.slice none 0 0), (.slice none 0 0)], boxO bb1 [(.int .i64 a0_0), (.int .i64 a0_1), (.bool a0_2), u0_3, u0_4]] := Sep.join S_2 (Mod.size X_2) (Ext.mod E_7 []) (Sep.both T_3 (Sep.both T_4 T_5 (Apt.symm (Apt.of PW_1 0 1 rfl rfl (by decide)))) (Apt.cat' (Apt.symm (Apt.of PW_1 1 2 rfl rfl (by decide))) (Apt.symm (Apt.of PW_1 0 2 rfl rfl (by decide)))))
  show RL _ _ _ _ (_ :: _) _ _
  refine RL.opD (by decide) (opv_build (cs := [v1, v2, v3]) [(0, [v1]), (1, [v2]), (2, [v3])] [(0, v1), (1, v2), (2, v3)] rfl Try.bd28 ⟨⟨rfl, rfl, rfl, cells1 (ownO.one (Sep.at (o := ownO (kF .f32) 25 v1 (List.replicate (Int.toNat (IntKind.wrap .i64 (a0_0 * a0_1))) (some 0))) S_8 0 rfl))⟩, ⟨rfl, rfl, rfl, cells1 (ownO.one (Sep.at (o := ownO (kF .f32) 25 v2 (List.replicate (Int.toNat (IntKind.wrap .i64 (a0_0 * a0_1))) (some 0))) S_8 1 rfl))⟩, ⟨rfl, rfl, rfl, cells1 (ownO.one (Sep.at (o := ownO (kF .f32) 25 v3 (List.replicate (Int.toNat (IntKind.wrap .i64 (a0_0 * a0_1))) (some 0))) S_8 2 rfl))⟩, trivial⟩ rfl) ?_
  refine RL.op0 _ (opS_stored (cs := [(.slice none 0 0), (.slice none 0 0), (.slice none 0 0)]) (cs' := [v1, v2, v3]) (opv_storeA (us := [v1, v2, v3]) rfl Try.size28 rfl rfl (oneAll (ownO.one (Sep.at (o := ownO (kF .f32) 25 v1 (List.replicate (Int.toNat (IntKind.wrap .i64 (a0_0 * a0_1))) (some 0))) S_8 0 rfl)) (oneAll (ownO.one (Sep.at (o := ownO (kF .f32) 25 v2 (List.replicate (Int.toNat (IntKind.wrap .i64 (a0_0 * a0_1))) (some 0))) S_8 1 rfl)) (oneAll (ownO.one (Sep.at (o := ownO (kF .f32) 25 v3 (List.replicate (Int.toNat (IntKind.wrap .i64 (a0_0 * a0_1))) (some 0))) S_8 2 rfl)) rfl))) (Sep.at (o := boxO bb2 [(.slice none 0 0), (.slice none 0 0), (.slice none 0 0)]) S_8 3 rfl) rfl rfl) (Sep.at (o := boxO bb2 [(.slice none 0 0), (.slice none 0 0), (.slice none 0 0)]) S_8 3 rfl)) ?_
  rintro _ hp14 ⟨rfl, MT_7, T_7⟩
  have S_9 : Sep [] h0.size hp13 ([boxO bb2 [(.slice none 0 0), (.slice none 0 0), (.slice none 0 0)]] ++ [ownO (kF .f32) 25 v1 (List.replicate (Int.toNat (IntKind.wrap .i64 (a0_0 * a0_1))) (some 0)), ownO (kF .f32) 25 v2 (List.replicate (Int.toNat (IntKind.wrap .i64 (a0_0 * a0_1))) (some 0)), ownO (kF .f32) 25 v3 (List.replicate (Int.toNat (IntKind.wrap .i64 (a0_0 * a0_1))) (some 0)), boxO bb1 [(.int .i64 a0_0), (.int .i64 a0_1), (.bool a0_2), u0_3, u0_4]]) := Sep.sel S_8 [3, 0, 1, 2, 4] (by decide)
  have X_8 : Mod [] h0 hp14 := Mod.step (A := [boxO bb2 [(.slice none 0 0), (.slice none 0 0), (.slice none 0 0)]]) (L := [ownO (kF .f32) 25 v1 (List.replicate (Int.toNat (IntKind.wrap .i64 (a0_0 * a0_1))) (some 0)), ownO (kF .f32) 25 v2 (List.replicate (Int.toNat (IntKind.wrap .i64 (a0_0 * a0_1))) (some 0)), ownO (kF .f32) 25 v3 (List.replicate (Int.toNat (IntKind.wrap .i64 (a0_0 * a0_1))) (some 0)), boxO bb1 [(.int .i64 a0_0), (.int .i64 a0_1), (.bool a0_2), u0_3, u0_4]]) X_7 S_9 MT_7
  have S_10 : Sep [] h0.size hp14 [boxO bb2 [v1, v2, v3], ownO (kF .f32) 25 v1 (List.replicate (Int.toNat (IntKind.wrap .i64 (a0_0 * a0_1))) (some 0)), ownO (kF .f32) 25 v2 (List.replicate (Int.toNat (IntKind.wrap .i64 (a0_0 * a0_1))) (some 0)), ownO (kF .f32) 25 v3 (List.replicate (Int.toNat (IntKind.wrap .i64 (a0_0 * a0_1))) (some 0)), boxO bb1 [(.int .i64 a0_0), (.int .i64 a0_1), (.bool a0_2), u0_3, u0_4]] := Sep.step (A := [boxO bb2 [(.slice none 0 0), (.slice none 0 0), (.slice none 0 0)]]) (L := [ownO (kF .f32) 25 v1 (List.replicate (Int.toNat (IntKind.wrap .i64 (a0_0 * a0_1))) (some 0)), ownO (kF .f32) 25 v2 (List.replicate (Int.toNat (IntKind.wrap .i64 (a0_0 * a0_1))) (some 0)), ownO (kF .f32) 25 v3 (List.replicate (Int.toNat (IntKind.wrap .i64 (a0_0 * a0_1))) (some 0)), boxO bb1 [(.int .i64 a0_0), (.int .i64 a0_1), (.bool a0_2), u0_3, u0_4]]) S_9 (Mod.size X_7) MT_7 T_7
  refine RL.nil ?_
  refine thnN ?_
  refine W.ret ?_
  have er := Option.some.inj hp
  subst er
  exact Rt.cell1 rfl rfl Try.agg28 Try.size28 (Sep.at (o := boxO bb2 [v1, v2, v3]) S_10 0 rfl) rfl ⟨v1, v2, v3, rfl, X_8, (Sep.sel S_10 [1, 2, 3] (by decide))⟩

set_option maxRecDepth 20000 in
theorem impl_Sheet_isBorder_ok (h0 : Heap) (a0_0 : Int) (a0_1 : Int) (a0_2 : Bool) (u0_3 : Value) (a0_3 : List (Option Nat)) (g0_3 : SL (kF .f32) h0.size h0 u0_3 a0_3) (u0_4 : Value) (a0_4 : List (Option Nat)) (g0_4 : SL (kF .f32) h0.size h0 u0_4 a0_4) (a1 : Int) (a2 : Int) (r : Bool) (hp : impl_Sheet_isBorder a0_0 a0_1 a0_2 a0_3 a0_4 a1 a2 = some r) : CallsH Try.prog 122 ([(.agg (List.toArray (α := Value) [(.int .i64 a0_0), (.int .i64 a0_1), (.bool a0_2), u0_3, u0_4])), (.int .i64 a1), (.int .i64 a2)].toArray ++ [].toArray) h0 (fun v h' => v = (.bool r) ∧ Mod [] h0 h' ∧ Sep [] h0.size h' []) := by
  unfold impl_Sheet_isBorder at hp
  refine callsH_of_W (l := [(.agg (List.toArray (α := Value) [(.int .i64 a0_0), (.int .i64 a0_1), (.bool a0_2), u0_3, u0_4])), (.int .i64 a1), (.int .i64 a2)]) (cap := []) 32 Try.func122 rfl rfl rfl ?_
  refine W.seq ?_
  refine W.region ?_
  refine RL.op _ (by decide) (opS_boxed (opv_boxA (cs := [(.int .i64 a0_0), (.int .i64 a0_1), (.bool a0_2), u0_3, u0_4]) rfl rfl)) ?_
  rintro _ hp1 ⟨bb1, rfl, MT_1, T_1⟩
  have X_1 : Mod [] h0 hp1 := Mod.step (A := []) (L := []) (Mod.refl [] h0) (Sep.nil [] h0.size h0) MT_1
  have S_1 : Sep [] h0.size hp1 [boxO bb1 [(.int .i64 a0_0), (.int .i64 a0_1), (.bool a0_2), u0_3, u0_4]] := Sep.step (A := []) (L := []) (Sep.nil [] h0.size h0) (Mod.size (Mod.refl [] h0)) MT_1 T_1
  refine RL.opD (by decide) (opv_assign rfl rfl) ?_
  refine RL.nil ?_
  refine thnN ?_
  refine W.seq ?_
  obtain ⟨x1, hy1, hp⟩ := Option.bind_eq_some_iff.1 hp
  refine W.cut (fun φ' h' => Fr.sub [(0, (.agg (List.toArray (α := Value) [(.int .i64 a0_0), (.int .i64 a0_1), (.bool a0_2), u0_3, u0_4]))), (1, (.int .i64 a1)), (2, (.int .i64 a2)), (3, (.pointer (some ⟨bb1, 0, none⟩))), (6, (.bool x1))] φ' ∧ hp1 = h') ?_ ?_
  · by_cases c1 : (!a0_2) = true
    · rw [if_pos c1] at hy1
      by_cases c2 : (a1 == 0) = true
      · rw [if_pos c2] at hy1
        refine W.region ?_
        refine RL.opD (by decide) (opv_fieldAddr rfl Try.fo31_2 rfl) ?_
        refine RL.opD (by decide) (opv_loadB rfl Try.one4 rfl (Sep.at (o := boxO bb1 [(.int .i64 a0_0), (.int .i64 a0_1), (.bool a0_2), u0_3, u0_4]) S_1 0 rfl) rfl) ?_
        refine RL.opD (by decide) (opv_not rfl rfl) ?_
        refine RL.opD (by decide) (opv_move rfl rfl) ?_
        refine RL.yes _ rfl rfl c1 (by decide) (opv_move rfl rfl) ?_
        rintro _ _ ⟨rfl, rfl⟩
        refine RL.yes _ rfl rfl c1 (by decide) (opv_icmp rfl rfl rfl rfl) ?_
        rintro _ _ ⟨rfl, rfl⟩
        refine RL.yes _ rfl rfl c1 (by decide) (opv_move rfl rfl) ?_
        rintro _ _ ⟨rfl, rfl⟩
        refine RL.no rfl rfl (Eq.trans c2 (by decide)) (by decide) ?_
        refine RL.no rfl rfl (Eq.trans c2 (by decide)) (by decide) ?_
        refine RL.no rfl rfl (Eq.trans c2 (by decide)) (by decide) ?_
        refine RL.no rfl rfl (Eq.trans c2 (by decide)) (by decide) ?_
        refine RL.no rfl rfl (Eq.trans c2 (by decide)) (by decide) ?_
        refine RL.yes _ rfl rfl c1 (by decide) (opv_pick rfl rfl (fun _ => rfl) (fun e => absurd (Eq.trans (Eq.symm e) c2) (by decide)) rfl) ?_
        rintro _ _ ⟨rfl, rfl⟩
        refine RL.yes _ rfl rfl c1 (by decide) (opv_move rfl rfl) ?_
        rintro _ _ ⟨rfl, rfl⟩
        refine RL.no rfl rfl (Eq.trans rfl (by decide)) (by decide) ?_
        refine RL.no rfl rfl (Eq.trans rfl (by decide)) (by decide) ?_
        refine RL.yes _ rfl rfl c1 (by decide) (opv_pick rfl rfl (fun _ => rfl) (fun e => absurd (Eq.trans (Eq.symm e) rfl) (by decide)) rfl) ?_
        rintro _ _ ⟨rfl, rfl⟩
        refine RL.yes _ rfl rfl c1 (by decide) (opv_move rfl rfl) ?_
        rintro _ _ ⟨rfl, rfl⟩
        refine RL.no rfl rfl (Eq.trans rfl (by decide)) (by decide) ?_
        refine RL.no rfl rfl (Eq.trans rfl (by decide)) (by decide) ?_
        refine RL.no rfl rfl (Eq.trans rfl (by decide)) (by decide) ?_
        refine RL.no rfl rfl (Eq.trans rfl (by decide)) (by decide) ?_
        refine RL.no rfl rfl (Eq.trans rfl (by decide)) (by decide) ?_
        refine RL.yes _ rfl rfl c1 (by decide) (opv_pick rfl rfl (fun _ => rfl) (fun e => absurd (Eq.trans (Eq.symm e) rfl) (by decide)) rfl) ?_
        rintro _ _ ⟨rfl, rfl⟩
        refine RL.opD (by decide) (opv_pick rfl rfl (fun _ => rfl) (fun e => absurd (Eq.trans (Eq.symm e) c1) (by decide)) rfl) ?_
        refine RL.opD (by decide) (opv_assign rfl rfl) ?_
        refine RL.nil ?_
        have ey1 := Option.some.inj hy1
        subst ey1
        refine onlyN ?_
        exact ⟨⟨rfl, rfl, rfl, rfl, rfl, trivial⟩, rfl⟩
      · rw [if_neg c2] at hy1
        have c2 := eq_false_of_ne_true c2
        by_cases c3 : (a1 == (IntKind.wrap .i64 (a0_0 - 1))) = true
        · rw [if_pos c3] at hy1
          refine W.region ?_
          refine RL.opD (by decide) (opv_fieldAddr rfl Try.fo31_2 rfl) ?_
          refine RL.opD (by decide) (opv_loadB rfl Try.one4 rfl (Sep.at (o := boxO bb1 [(.int .i64 a0_0), (.int .i64 a0_1), (.bool a0_2), u0_3, u0_4]) S_1 0 rfl) rfl) ?_
          refine RL.opD (by decide) (opv_not rfl rfl) ?_
          refine RL.opD (by decide) (opv_move rfl rfl) ?_
          refine RL.yes _ rfl rfl c1 (by decide) (opv_move rfl rfl) ?_
          rintro _ _ ⟨rfl, rfl⟩
          refine RL.yes _ rfl rfl c1 (by decide) (opv_icmp rfl rfl rfl rfl) ?_
          rintro _ _ ⟨rfl, rfl⟩
          refine RL.yes _ rfl rfl c1 (by decide) (opv_move rfl rfl) ?_
          rintro _ _ ⟨rfl, rfl⟩
          refine RL.yes _ rfl rfl c2 (by decide) (opv_move rfl rfl) ?_
          rintro _ _ ⟨rfl, rfl⟩
          refine RL.yes _ rfl rfl c2 (by decide) (opv_fieldAddr rfl Try.fo31_0 rfl) ?_
          rintro _ _ ⟨rfl, rfl⟩
          refine RL.yes _ rfl rfl c2 (by decide) (opv_loadB rfl Try.one2 rfl (Sep.at (o := boxO bb1 [(.int .i64 a0_0), (.int .i64 a0_1), (.bool a0_2), u0_3, u0_4]) S_1 0 rfl) rfl) ?_
          rintro _ _ ⟨rfl, rfl⟩
          refine RL.yes _ rfl rfl c2 (by decide) (opv_sub rfl rfl rfl) ?_
          rintro _ _ ⟨rfl, rfl⟩
          refine RL.yes _ rfl rfl c2 (by decide) (opv_icmp rfl rfl rfl rfl) ?_
          rintro _ _ ⟨rfl, rfl⟩
          refine RL.yes _ rfl rfl c1 (by decide) (opv_pick rfl rfl (fun e => absurd (Eq.trans (Eq.symm e) c2) (by decide)) (fun _ => rfl) rfl) ?_
          rintro _ _ ⟨rfl, rfl⟩
          refine RL.yes _ rfl rfl c1 (by decide) (opv_move rfl rfl) ?_
          rintro _ _ ⟨rfl, rfl⟩
          refine RL.no rfl rfl (Eq.trans c3 (by decide)) (by decide) ?_
          refine RL.no rfl rfl (Eq.trans c3 (by decide)) (by decide) ?_
          refine RL.yes _ rfl rfl c1 (by decide) (opv_pick rfl rfl (fun _ => rfl) (fun e => absurd (Eq.trans (Eq.symm e) c3) (by decide)) rfl) ?_
          rintro _ _ ⟨rfl, rfl⟩
          refine RL.yes _ rfl rfl c1 (by decide) (opv_move rfl rfl) ?_
          rintro _ _ ⟨rfl, rfl⟩
          refine RL.no rfl rfl (Eq.trans rfl (by decide)) (by decide) ?_
          refine RL.no rfl rfl (Eq.trans rfl (by decide)) (by decide) ?_
          refine RL.no rfl rfl (Eq.trans rfl (by decide)) (by decide) ?_
          refine RL.no rfl rfl (Eq.trans rfl (by decide)) (by decide) ?_
          refine RL.no rfl rfl (Eq.trans rfl (by decide)) (by decide) ?_
          refine RL.yes _ rfl rfl c1 (by decide) (opv_pick rfl rfl (fun _ => rfl) (fun e => absurd (Eq.trans (Eq.symm e) rfl) (by decide)) rfl) ?_
          rintro _ _ ⟨rfl, rfl⟩
          refine RL.opD (by decide) (opv_pick rfl rfl (fun _ => rfl) (fun e => absurd (Eq.trans (Eq.symm e) c1) (by decide)) rfl) ?_
          refine RL.opD (by decide) (opv_assign rfl rfl) ?_
          refine RL.nil ?_
          have ey1 := Option.some.inj hy1
          subst ey1
          refine onlyN ?_
          exact ⟨⟨rfl, rfl, rfl, rfl, rfl, trivial⟩, rfl⟩
        · rw [if_neg c3] at hy1
          have c3 := eq_false_of_ne_true c3
          by_cases c4 : (a2 == 0) = true
          · rw [if_pos c4] at hy1
            refine W.region ?_
            refine RL.opD (by decide) (opv_fieldAddr rfl Try.fo31_2 rfl) ?_
            refine RL.opD (by decide) (opv_loadB rfl Try.one4 rfl (Sep.at (o := boxO bb1 [(.int .i64 a0_0), (.int .i64 a0_1), (.bool a0_2), u0_3, u0_4]) S_1 0 rfl) rfl) ?_
            refine RL.opD (by decide) (opv_not rfl rfl) ?_
            refine RL.opD (by decide) (opv_move rfl rfl) ?_
            refine RL.yes _ rfl rfl c1 (by decide) (opv_move rfl rfl) ?_
            rintro _ _ ⟨rfl, rfl⟩
            refine RL.yes _ rfl rfl c1 (by decide) (opv_icmp rfl rfl rfl rfl) ?_
            rintro _ _ ⟨rfl, rfl⟩
            refine RL.yes _ rfl rfl c1 (by decide) (opv_move rfl rfl) ?_
            rintro _ _ ⟨rfl, rfl⟩
            refine RL.yes _ rfl rfl c2 (by decide) (opv_move rfl rfl) ?_
            rintro _ _ ⟨rfl, rfl⟩
            refine RL.yes _ rfl rfl c2 (by decide) (opv_fieldAddr rfl Try.fo31_0 rfl) ?_
            rintro _ _ ⟨rfl, rfl⟩
            refine RL.yes _ rfl rfl c2 (by decide) (opv_loadB rfl Try.one2 rfl (Sep.at (o := boxO bb1 [(.int .i64 a0_0), (.int .i64 a0_1), (.bool a0_2), u0_3, u0_4]) S_1 0 rfl) rfl) ?_
            rintro _ _ ⟨rfl, rfl⟩
            refine RL.yes _ rfl rfl c2 (by decide) (opv_sub rfl rfl rfl) ?_
            rintro _ _ ⟨rfl, rfl⟩
            refine RL.yes _ rfl rfl c2 (by decide) (opv_icmp rfl rfl rfl rfl) ?_
            rintro _ _ ⟨rfl, rfl⟩
            refine RL.yes _ rfl rfl c1 (by decide) (opv_pick rfl rfl (fun e => absurd (Eq.trans (Eq.symm e) c2) (by decide)) (fun _ => rfl) rfl) ?_
            rintro _ _ ⟨rfl, rfl⟩
            refine RL.yes _ rfl rfl c1 (by decide) (opv_move rfl rfl) ?_
            rintro _ _ ⟨rfl, rfl⟩
            refine RL.yes _ rfl rfl c3 (by decide) (opv_move rfl rfl) ?_
            rintro _ _ ⟨rfl, rfl⟩
            refine RL.yes _ rfl rfl c3 (by decide) (opv_icmp rfl rfl rfl rfl) ?_
            rintro _ _ ⟨rfl, rfl⟩
            refine RL.yes _ rfl rfl c1 (by decide) (opv_pick rfl rfl (fun e => absurd (Eq.trans (Eq.symm e) c3) (by decide)) (fun _ => rfl) rfl) ?_
            rintro _ _ ⟨rfl, rfl⟩
            refine RL.yes _ rfl rfl c1 (by decide) (opv_move rfl rfl) ?_
            rintro _ _ ⟨rfl, rfl⟩
            refine RL.no rfl rfl (Eq.trans c4 (by decide)) (by decide) ?_
            refine RL.no rfl rfl (Eq.trans c4 (by decide)) (by decide) ?_
            refine RL.no rfl rfl (Eq.trans c4 (by decide)) (by decide) ?_
            refine RL.no rfl rfl (Eq.trans c4 (by decide)) (by decide) ?_
            refine RL.no rfl rfl (Eq.trans c4 (by decide)) (by decide) ?_
            refine RL.yes _ rfl rfl c1 (by decide) (opv_pick rfl rfl (fun _ => rfl) (fun e => absurd (Eq.trans (Eq.symm e) c4) (by decide)) rfl) ?_
            rintro _ _ ⟨rfl, rfl⟩
            refine RL.opD (by decide) (opv_pick rfl rfl (fun _ => rfl) (fun e => absurd (Eq.trans (Eq.symm e) c1) (by decide)) rfl) ?_
            refine RL.opD (by decide) (opv_assign rfl rfl) ?_
            refine RL.nil ?_
            have ey1 := Option.some.inj hy1
            subst ey1
            refine onlyN ?_
            exact ⟨⟨rfl, rfl, rfl, rfl, rfl, trivial⟩, rfl⟩
          · rw [if_neg c4] at hy1
            have c4 := eq_false_of_ne_true c4
            refine W.region ?_
            refine RL.opD (by decide) (opv_fieldAddr rfl Try.fo31_2 rfl) ?_
            refine RL.opD (by decide) (opv_loadB rfl Try.one4 rfl (Sep.at (o := boxO bb1 [(.int .i64 a0_0), (.int .i64 a0_1), (.bool a0_2), u0_3, u0_4]) S_1 0 rfl) rfl) ?_
            refine RL.opD (by decide) (opv_not rfl rfl) ?_
            refine RL.opD (by decide) (opv_move rfl rfl) ?_
            refine RL.yes _ rfl rfl c1 (by decide) (opv_move rfl rfl) ?_
            rintro _ _ ⟨rfl, rfl⟩
            refine RL.yes _ rfl rfl c1 (by decide) (opv_icmp rfl rfl rfl rfl) ?_
            rintro _ _ ⟨rfl, rfl⟩
            refine RL.yes _ rfl rfl c1 (by decide) (opv_move rfl rfl) ?_
            rintro _ _ ⟨rfl, rfl⟩
            refine RL.yes _ rfl rfl c2 (by decide) (opv_move rfl rfl) ?_
            rintro _ _ ⟨rfl, rfl⟩
            refine RL.yes _ rfl rfl c2 (by decide) (opv_fieldAddr rfl Try.fo31_0 rfl) ?_
            rintro _ _ ⟨rfl, rfl⟩
            refine RL.yes _ rfl rfl c2 (by decide) (opv_loadB rfl Try.one2 rfl (Sep.at (o := boxO bb1 [(.int .i64 a0_0), (.int .i64 a0_1), (.bool a0_2), u0_3, u0_4]) S_1 0 rfl) rfl) ?_
            rintro _ _ ⟨rfl, rfl⟩
            refine RL.yes _ rfl rfl c2 (by decide) (opv_sub rfl rfl rfl) ?_
            rintro _ _ ⟨rfl, rfl⟩
            refine RL.yes _ rfl rfl c2 (by decide) (opv_icmp rfl rfl rfl rfl) ?_
            rintro _ _ ⟨rfl, rfl⟩
            refine RL.yes _ rfl rfl c1 (by decide) (opv_pick rfl rfl (fun e => absurd (Eq.trans (Eq.symm e) c2) (by decide)) (fun _ => rfl) rfl) ?_
            rintro _ _ ⟨rfl, rfl⟩
            refine RL.yes _ rfl rfl c1 (by decide) (opv_move rfl rfl) ?_
            rintro _ _ ⟨rfl, rfl⟩
            refine RL.yes _ rfl rfl c3 (by decide) (opv_move rfl rfl) ?_
            rintro _ _ ⟨rfl, rfl⟩
            refine RL.yes _ rfl rfl c3 (by decide) (opv_icmp rfl rfl rfl rfl) ?_
            rintro _ _ ⟨rfl, rfl⟩
            refine RL.yes _ rfl rfl c1 (by decide) (opv_pick rfl rfl (fun e => absurd (Eq.trans (Eq.symm e) c3) (by decide)) (fun _ => rfl) rfl) ?_
            rintro _ _ ⟨rfl, rfl⟩
            refine RL.yes _ rfl rfl c1 (by decide) (opv_move rfl rfl) ?_
            rintro _ _ ⟨rfl, rfl⟩
            refine RL.yes _ rfl rfl c4 (by decide) (opv_move rfl rfl) ?_
            rintro _ _ ⟨rfl, rfl⟩
            refine RL.yes _ rfl rfl c4 (by decide) (opv_fieldAddr rfl Try.fo31_1 rfl) ?_
            rintro _ _ ⟨rfl, rfl⟩
            refine RL.yes _ rfl rfl c4 (by decide) (opv_loadB rfl Try.one2 rfl (Sep.at (o := boxO bb1 [(.int .i64 a0_0), (.int .i64 a0_1), (.bool a0_2), u0_3, u0_4]) S_1 0 rfl) rfl) ?_
            rintro _ _ ⟨rfl, rfl⟩
            refine RL.yes _ rfl rfl c4 (by decide) (opv_sub rfl rfl rfl) ?_
            rintro _ _ ⟨rfl, rfl⟩
            refine RL.yes _ rfl rfl c4 (by decide) (opv_icmp rfl rfl rfl rfl) ?_
            rintro _ _ ⟨rfl, rfl⟩
            refine RL.yes _ rfl rfl c1 (by decide) (opv_pick rfl rfl (fun e => absurd (Eq.trans (Eq.symm e) c4) (by decide)) (fun _ => rfl) rfl) ?_
            rintro _ _ ⟨rfl, rfl⟩
            refine RL.opD (by decide) (opv_pick rfl rfl (fun _ => rfl) (fun e => absurd (Eq.trans (Eq.symm e) c1) (by decide)) rfl) ?_
            refine RL.opD (by decide) (opv_assign rfl rfl) ?_
            refine RL.nil ?_
            have ey1 := Option.some.inj hy1
            subst ey1
            refine onlyN ?_
            exact ⟨⟨rfl, rfl, rfl, rfl, rfl, trivial⟩, rfl⟩
    · rw [if_neg c1] at hy1
      have c1 := eq_false_of_ne_true c1
      refine W.region ?_
      refine RL.opD (by decide) (opv_fieldAddr rfl Try.fo31_2 rfl) ?_
      refine RL.opD (by decide) (opv_loadB rfl Try.one4 rfl (Sep.at (o := boxO bb1 [(.int .i64 a0_0), (.int .i64 a0_1), (.bool a0_2), u0_3, u0_4]) S_1 0 rfl) rfl) ?_
      refine RL.opD (by decide) (opv_not rfl rfl) ?_
      refine RL.opD (by decide) (opv_move rfl rfl) ?_
      refine RL.no rfl rfl (Eq.trans c1 (by decide)) (by decide) ?_
      refine RL.no rfl rfl (Eq.trans c1 (by decide)) (by decide) ?_
      refine RL.no rfl rfl (Eq.trans c1 (by decide)) (by decide) ?_
      refine RL.noU rfl rfl (by decide) ?_
      refine RL.noU rfl rfl (by decide) ?_
      refine RL.noU rfl rfl (by decide) ?_
      refine RL.noU rfl rfl (by decide) ?_
      refine RL.noU rfl rfl (by decide) ?_
      refine RL.no rfl rfl (Eq.trans c1 (by decide)) (by decide) ?_
      refine RL.no rfl rfl (Eq.trans c1 (by decide)) (by decide) ?_
      refine RL.noU rfl rfl (by decide) ?_
      refine RL.noU rfl rfl (by decide) ?_
      refine RL.no rfl rfl (Eq.trans c1 (by decide)) (by decide) ?_
      refine RL.no rfl rfl (Eq.trans c1 (by decide)) (by decide) ?_
      refine RL.noU rfl rfl (by decide) ?_
      refine RL.noU rfl rfl (by decide) ?_
      refine RL.noU rfl rfl (by decide) ?_
      refine RL.noU rfl rfl (by decide) ?_
      refine RL.noU rfl rfl (by decide) ?_
      refine RL.no rfl rfl (Eq.trans c1 (by decide)) (by decide) ?_
      refine RL.opD (by decide) (opv_pick rfl rfl (fun e => absurd (Eq.trans (Eq.symm e) c1) (by decide)) (fun _ => rfl) rfl) ?_
      refine RL.opD (by decide) (opv_assign rfl rfl) ?_
      refine RL.nil ?_
      have ey1 := Option.some.inj hy1
      subst ey1
      refine onlyN ?_
      exact ⟨⟨rfl, rfl, rfl, rfl, rfl, trivial⟩, rfl⟩
  rintro φ' _ ⟨hs1, rfl⟩
  refine thnN ?_
  refine W.sub hs1 ?_
  refine W.ret ?_
  have er := Option.some.inj hp
  subst er
  exact Rt.one rfl rfl ⟨rfl, X_1, (Sep.nil _ _ _)⟩

set_option maxRecDepth 20000 in
theorem impl_quotient_ok (h0 : Heap) (a0 : Int) (a1 : Int) (r : Option Nat) (hp : impl_quotient a0 a1 = some r) : CallsH Try.prog 133 ([(.int .i64 a0), (.int .i64 a1)].toArray ++ [].toArray) h0 (fun v h' => IsF .f32 v r ∧ h0 = h') := by
  unfold impl_quotient at hp
  refine callsH_of_W (l := [(.int .i64 a0), (.int .i64 a1)]) (cap := []) 10 Try.func133 rfl rfl rfl ?_
  refine W.seq ?_
  refine W.region ?_
  refine RL.opD (by decide) (opv_assign rfl rfl) ?_
  refine RL.nil ?_
  refine thnN ?_
  refine W.seq ?_
  refine W.region ?_
  refine RL.opD (by decide) (opv_move rfl rfl) ?_
  refine RL.opF (by decide) (opv_i2f rfl (by rw [Try.underlying2]; rfl) Try.underlying25 rfl) ?_
  intro v1 fv1
  refine RL.opD (by decide) (opv_move rfl rfl) ?_
  refine RL.opF (by decide) (opv_i2f rfl (by rw [Try.underlying2]; rfl) Try.underlying25 rfl) ?_
  intro v2 fv2
  refine RL.opF (by decide) (opv_fop rfl rfl rfl rfl fv1 fv2) ?_
  intro v3 fv3
  refine RL.opD (by decide) (opv_assign rfl rfl) ?_
  refine RL.nil ?_
  refine thnN ?_
  refine W.ret ?_
  have er := Option.some.inj hp
  subst er
  exact Rt.one rfl rfl ⟨fv3, rfl⟩

set_option maxRecDepth 20000 in
theorem impl_modeField_1_2_ok (h0 : Heap) (lo : Nat) (hlo : lo ≤ h0.size) (a0 : Int) (a1 : Int) (a2 : Int) (be0 : Nat) (ae0_0 : Int) (ae0_1 : Int) (ae0_2 : Bool) (ue0_3 : Value) (ae0_3 : List (Option Nat)) (ge0_3 : SL (kF .f32) lo h0 ue0_3 ae0_3) (ue0_4 : Value) (ae0_4 : List (Option Nat)) (ge0_4 : SL (kF .f32) lo h0 ue0_4 ae0_4) (be1 : Nat) (ue1_0 : Value) (ae1_0 : Option Nat) (ge1_0 : IsF .f32 ue1_0 ae1_0) (be2 : Nat) (ae2_0 : Int) (be3 : Nat) (ae3_0 : Int) (be4 : Nat) (ue4_0 : Value) (ae4_0 : List (Option Nat)) (ue4_1 : Value) (ae4_1 : List (Option Nat)) (ue4_2 : Value) (ae4_2 : List (Option Nat)) (S0 : Sep [some be0, some be1, some be2, some be3, some be4, ue4_0.ownBlock, ue4_1.ownBlock, ue4_2.ownBlock] h0.size h0 [boxO be0 [(.int .i64 ae0_0), (.int .i64 ae0_1), (.bool ae0_2), ue0_3, ue0_4], boxO be1 [ue1_0], boxO be2 [(.int .i64 ae2_0)], boxO be3 [(.int .i64 ae3_0)], boxO be4 [ue4_0, ue4_1, ue4_2], ownO (kF .f32) 25 ue4_0 ae4_0, ownO (kF .f32) 25 ue4_1 ae4_1, ownO (kF .f32) 25 ue4_2 ae4_2]) (hB : ∀ b, some b ∈ [some be0, some be1, some be2, some be3, some be4, ue4_0.ownBlock, ue4_1.ownBlock, ue4_2.ownBlock] → lo ≤ b) (r : (Int × Int × Bool × (Option Nat) × Int × Int × (List (Option Nat)) × (List (Option Nat)) × (List (Option Nat)))) (hp : impl_modeField_1_2 a0 a1 a2 ae0_0 ae0_1 ae0_2 ae0_3 ae0_4 ae1_0 ae2_0 ae3_0 ae4_0 ae4_1 ae4_2 = some r) : CallsH Try.prog 131 ([(.int .i64 a0), (.int .i64 a1), (.int .i64 a2)].toArray ++ [(.pointer (some ⟨be0, 0, none⟩)), (.pointer (some ⟨be1, 0, none⟩)), (.pointer (some ⟨be2, 0, none⟩)), (.pointer (some ⟨be3, 0, none⟩)), (.pointer (some ⟨be4, 0, none⟩))].toArray) h0 (fun v h' => ∃ w3, v = (.tuple (List.toArray (α := Value) [])) ∧ IsF .f32 w3 r.2.2.2.1 ∧ Mod [some be0, some be1, some be2, some be3, some be4, ue4_0.ownBlock, ue4_1.ownBlock, ue4_2.ownBlock] h0 h' ∧ Sep [some be0, some be1, some be2, some be3, some be4, ue4_0.ownBlock, ue4_1.ownBlock, ue4_2.ownBlock] h0.size h' [boxO be0 [(.int .i64 r.1), (.int .i64 r.2.1), (.bool r.2.2.1), ue0_3, ue0_4], boxO be1 [w3], boxO be2 [(.int .i64 r.2.2.2.2.1)], boxO be3 [(.int .i64 r.2.2.2.2.2.1)], boxO be4 [ue4_0, ue4_1, ue4_2], ownO (kF .f32) 25 ue4_0 r.2.2.2.2.2.2.1, ownO (kF .f32) 25 ue4_1 r.2.2.2.2.2.2.2.1, ownO (kF .f32) 25 ue4_2 r.2.2.2.2.2.2.2.2]) := by
  unfold impl_modeField_1_2 at hp
  refine callsH_of_W (l := [(.int .i64 a0), (.int .i64 a1), (.int .i64 a2)]) (cap := [(.pointer (some ⟨be0, 0, none⟩)), (.pointer (some ⟨be1, 0, none⟩)), (.pointer (some ⟨be2, 0, none⟩)), (.pointer (some ⟨be3, 0, none⟩)), (.pointer (some ⟨be4, 0, none⟩))]) 41 Try.func131 rfl rfl rfl ?_
  refine W.seq ?_
  obtain ⟨x1, hx1, hp⟩ := Option.bind_eq_some_iff.1 hp
  refine W.region ?_
  refine RL.opD (by decide) (opv_loadA (us := [(.int .i64 ae0_0), (.int .i64 ae0_1), (.bool ae0_2), ue0_3, ue0_4]) rfl Try.agg31 Try.size31 rfl (Sep.at (o := boxO be0 [(.int .i64 ae0_0), (.int .i64 ae0_1), (.bool ae0_2), ue0_3, ue0_4]) S0 0 rfl) rfl rfl) ?_
  refine RL.opD (by decide) (opv_move rfl rfl) ?_
  refine RL.opD (by decide) (opv_move rfl rfl) ?_
  refine RL.op _ (by decide) (opv_call (cap := []) (impl_Sheet_isBorder_ok _ _ _ _ _ _ (SL.up ge0_3 hlo) _ _ (SL.up ge0_4 hlo) _ _ _ hx1) rfl rfl ⟨rfl, rfl, rfl, trivial⟩ Try.func122 rfl rfl) ?_
  rintro _ hp1 ⟨rfl, MT_1, T_1⟩
  have X_1 : Mod [some be0, some be1, some be2, some be3, some be4, ue4_0.ownBlock, ue4_1.ownBlock, ue4_2.ownBlock] h0 hp1 := Mod.step (A := []) (L := [boxO be0 [(.int .i64 ae0_0), (.int .i64 ae0_1), (.bool ae0_2), ue0_3, ue0_4], boxO be1 [ue1_0], boxO be2 [(.int .i64 ae2_0)], boxO be3 [(.int .i64 ae3_0)], boxO be4 [ue4_0, ue4_1, ue4_2], ownO (kF .f32) 25 ue4_0 ae4_0, ownO (kF .f32) 25 ue4_1 ae4_1, ownO (kF .f32) 25 ue4_2 ae4_2]) (Mod.refl [some be0, some be1, some be2, some be3, some be4, ue4_0.ownBlock, ue4_1.ownBlock, ue4_2.ownBlock] h0) S0 MT_1
  have S_1 : Sep [some be0, some be1, some be2, some be3, some be4, ue4_0.ownBlock, ue4_1.ownBlock, ue4_2.ownBlock] h0.size hp1 [boxO be0 [(.int .i64 ae0_0), (.int .i64 ae0_1), (.bool ae0_2), ue0_3, ue0_4], boxO be1 [ue1_0], boxO be2 [(.int .i64 ae2_0)], boxO be3 [(.int .i64 ae3_0)], boxO be4 [ue4_0, ue4_1, ue4_2], ownO (kF .f32) 25 ue4_0 ae4_0, ownO (kF .f32) 25 ue4_1 ae4_1, ownO (kF .f32) 25 ue4_2 ae4_2] := Sep.step (A := []) (L := [boxO be0 [(.int .i64 ae0_0), (.int .i64 ae0_1), (.bool ae0_2), ue0_3, ue0_4], boxO be1 [ue1_0], boxO be2 [(.int .i64 ae2_0)], boxO be3 [(.int .i64 ae3_0)], boxO be4 [ue4_0, ue4_1, ue4_2], ownO (kF .f32) 25 ue4_0 ae4_0, ownO (kF .f32) 25 ue4_1 ae4_1, ownO (kF .f32) 25 ue4_2 ae4_2]) S0 (Mod.size (Mod.refl [some be0, some be1, some be2, some be3, some be4, ue4_0.ownBlock, ue4_1.ownBlock, ue4_2.ownBlock] h0)) MT_1 T_1
  refine RL.opD (by decide) (opv_not rfl rfl) ?_
  refine RL.nil ?_
  refine thnN ?_
  obtain ⟨x2, hy1, hp⟩ := Option.bind_eq_some_iff.1 hp
  refine W.cut (fun φ' h' => Fr.sub [(0, (.int .i64 a0)), (1, (.int .i64 a1)), (2, (.int .i64 a2)), (3, (.pointer (some ⟨be0, 0, none⟩))), (4, (.pointer (some ⟨be1, 0, none⟩))), (5, (.pointer (some ⟨be2, 0, none⟩))), (6, (.pointer (some ⟨be3, 0, none⟩))), (7, (.pointer (some ⟨be4, 0, none⟩))), (15, (.bool (!x1)))] φ' ∧ Mod [some be0, some be1, some be2, some be3, some be4, ue4_0.ownBlock, ue4_1.ownBlock, ue4_2.ownBlock] h0 h' ∧ Sep [some be0, some be1, some be2, some be3, some be4, ue4_0.ownBlock, ue4_1.ownBlock, ue4_2.ownBlock] h0.size h' [boxO be0 [(.int .i64 ae0_0), (.int .i64 ae0_1), (.bool ae0_2), ue0_3, ue0_4], boxO be1 [ue1_0], boxO be2 [(.int .i64 ae2_0)], boxO be3 [(.int .i64 ae3_0)], boxO be4 [ue4_0, ue4_1, ue4_2], ownO (kF .f32) 25 ue4_0 x2, ownO (kF .f32) 25 ue4_1 ae4_1, ownO (kF .f32) 25 ue4_2 ae4_2]) ?_ ?_
  · by_cases c1 : (!x1) = true
    · rw [if_pos c1] at hy1
      refine W.condT rfl c1 ?_
      obtain ⟨x3, hx3, hy1⟩ := Option.bind_eq_some_iff.1 hy1
      obtain ⟨x4, hx4, hy1⟩ := Option.bind_eq_some_iff.1 hy1
      obtain ⟨x5, hx5, hy1⟩ := Option.bind_eq_some_iff.1 hy1
      obtain ⟨x6, hx6, hy1⟩ := Option.bind_eq_some_iff.1 hy1
      obtain ⟨x7, hx7, hy1⟩ := Option.bind_eq_some_iff.1 hy1
      obtain ⟨x8, hx8, hy1⟩ := Option.bind_eq_some_iff.1 hy1
      refine W.sub (ψ := [(0, (.int .i64 a0)), (1, (.int .i64 a1)), (2, (.int .i64 a2)), (3, (.pointer (some ⟨be0, 0, none⟩))), (4, (.pointer (some ⟨be1, 0, none⟩))), (5, (.pointer (some ⟨be2, 0, none⟩))), (6, (.pointer (some ⟨be3, 0, none⟩))), (7, (.pointer (some ⟨be4, 0, none⟩))), (15, (.bool (!x1)))]) ⟨rfl, rfl, rfl, rfl, rfl, rfl, rfl, rfl, rfl, trivial⟩ ?_
      refine W.regionP [fun v _ => @Eq Value (.pointer (some ⟨be4, 0, none⟩)) v, fun v _ => @Eq Value ue4_0 v, fun v _ => @Eq Value (.int .i64 a2) v, fun v _ => IsF .f32 v ae1_0, fun v _ => @Eq Value (.int .i64 ae2_0) v, fun v _ => @Eq Value (.int .i64 a0) v, fun v _ => @Eq Value (.int .i64 (IntKind.wrap .i64 (ae2_0 * a0))) v, fun v _ => @Eq Value (.pointer (some ⟨be0, 0, none⟩)) v, fun v _ => @Eq Value (.int .i64 ae0_0) v, fun v _ => @Eq Value (.int .i64 (IntKind.wrap .i64 (ae0_0 - 1))) v, fun v _ => @Eq Value (.int .i64 (IntKind.wrap .i64 (2 * (IntKind.wrap .i64 (ae0_0 - 1))))) v, fun v _ => IsF .f32 v x3, fun v _ => IsF .f32 v x4, fun v _ => IsF .f32 v (fop .mul .f32 ae1_0 x4), fun v _ => @Eq Value (.int .i64 ae3_0) v, fun v _ => @Eq Value (.int .i64 a1) v, fun v _ => @Eq Value (.int .i64 (IntKind.wrap .i64 (ae3_0 * a1))) v, fun v _ => @Eq Value (.pointer (some ⟨be0, 1, none⟩)) v, fun v _ => @Eq Value (.int .i64 ae0_1) v, fun v _ => @Eq Value (.int .i64 (IntKind.wrap .i64 (ae0_1 - 1))) v, fun v _ => @Eq Value (.int .i64 (IntKind.wrap .i64 (2 * (IntKind.wrap .i64 (ae0_1 - 1))))) v, fun v _ => IsF .f32 v x5, fun v _ => IsF .f32 v x6, fun v _ => IsF .f32 v (fop .mul .f32 (fop .mul .f32 ae1_0 x4) x6), fun v _ => PtI 1 v ue4_0 (Int.toNat a2)] [[], [0], [], [], [], [], [4, 5], [], [7], [8], [9], [6, 10], [11], [3, 12], [], [], [14, 15], [], [17], [18], [19], [16, 20], [21], [13, 22], [1, 2]] [23, 24] Try.mixed (by decide +kernel) (by decide +kernel) rfl rfl rfl ?_ ?_
      · refine ⟨⟨rfl, ?_⟩, ⟨rfl, ?_⟩, ⟨rfl, ?_⟩, ⟨rfl, ?_⟩, ⟨rfl, ?_⟩, ⟨rfl, ?_⟩, ⟨rfl, ?_⟩, ⟨rfl, ?_⟩, ⟨rfl, ?_⟩, ⟨rfl, ?_⟩, ⟨rfl, ?_⟩, ⟨rfl, ?_⟩, ⟨rfl, ?_⟩, ⟨rfl, ?_⟩, ⟨rfl, ?_⟩, ⟨rfl, ?_⟩, ⟨rfl, ?_⟩, ⟨rfl, ?_⟩, ⟨rfl, ?_⟩, ⟨rfl, ?_⟩, ⟨rfl, ?_⟩, ⟨rfl, ?_⟩, ⟨rfl, ?_⟩, ⟨rfl, ?_⟩, ⟨rfl, ?_⟩, trivial⟩
        · rintro _ rfl
          refine Dep.nil ?_
          refine GuardOK.none rfl ?_
          exact OpV.toD (opv_fieldAddr rfl Try.fo28_0 rfl) rfl
        · rintro _ rfl _ rfl
          refine Dep.nil ?_
          refine GuardOK.none rfl ?_
          exact OpV.toD (opv_loadB rfl Try.one22 rfl (Sep.at (o := boxO be4 [ue4_0, ue4_1, ue4_2]) S_1 4 rfl) rfl) rfl
        · rintro _ rfl
          refine Dep.nil ?_
          refine GuardOK.none rfl ?_
          exact OpV.toD (opv_move rfl rfl) rfl
        · rintro _ rfl
          refine Dep.nil ?_
          refine GuardOK.none rfl ?_
          exact OpV.toD (opv_loadB rfl Try.one25 rfl (Sep.at (o := boxO be1 [ue1_0]) S_1 1 rfl) rfl) ge1_0
        · rintro _ rfl
          refine Dep.nil ?_
          refine GuardOK.none rfl ?_
          exact OpV.toD (opv_loadB rfl Try.one2 rfl (Sep.at (o := boxO be2 [(.int .i64 ae2_0)]) S_1 2 rfl) rfl) rfl
        · rintro _ rfl
          refine Dep.nil ?_
          refine GuardOK.none rfl ?_
          exact OpV.toD (opv_move rfl rfl) rfl
        · rintro _ rfl _ rfl _ rfl
          refine Dep.nil ?_
          refine GuardOK.none rfl ?_
          exact OpV.toD (opv_mul rfl rfl rfl) rfl
        · rintro _ rfl
          refine Dep.nil ?_
          refine GuardOK.none rfl ?_
          exact OpV.toD (opv_fieldAddr rfl Try.fo31_0 rfl) rfl
        · rintro _ rfl _ rfl
          refine Dep.nil ?_
          refine GuardOK.none rfl ?_
          exact OpV.toD (opv_loadB rfl Try.one2 rfl (Sep.at (o := boxO be0 [(.int .i64 ae0_0), (.int .i64 ae0_1), (.bool ae0_2), ue0_3, ue0_4]) S_1 0 rfl) rfl) rfl
        · rintro _ rfl _ rfl
          refine Dep.nil ?_
          refine GuardOK.none rfl ?_
          exact OpV.toD (opv_sub rfl rfl rfl) rfl
        · rintro _ rfl _ rfl
          refine Dep.nil ?_
          refine GuardOK.none rfl ?_
          exact OpV.toD (opv_mul rfl rfl rfl) rfl
        · rintro _ rfl _ rfl _ rfl
          refine Dep.nil ?_
          refine GuardOK.none rfl ?_
          exact OpV.mono (opv_call (cap := []) (impl_quotient_ok _ _ _ _ hx3) rfl rfl ⟨rfl, rfl, trivial⟩ Try.func133 rfl rfl) (by rintro v2 _ ⟨fv2, rfl⟩; exact ⟨rfl, fv2⟩)
        · rintro _ rfl v2 fv2
          refine Dep.nil ?_
          refine GuardOK.none rfl ?_
          exact OpV.mono (opv_call (cap := []) (impl_SineTurns_ok _ _ _ fv2 _ hx4) rfl rfl ⟨rfl, trivial⟩ Try.func132 rfl rfl) (by rintro v3 _ ⟨fv3, rfl⟩; exact ⟨rfl, fv3⟩)
        · rintro _ rfl v1 fv1 v3 fv3
          refine Dep.nil ?_
          refine GuardOK.none rfl ?_
          exact OpV.toS (opv_fop rfl rfl rfl rfl fv1 fv3) (fun _ h => h)
        · rintro _ rfl
          refine Dep.nil ?_
          refine GuardOK.none rfl ?_
          exact OpV.toD (opv_loadB rfl Try.one2 rfl (Sep.at (o := boxO be3 [(.int .i64 ae3_0)]) S_1 3 rfl) rfl) rfl
        · rintro _ rfl
          refine Dep.nil ?_
          refine GuardOK.none rfl ?_
          exact OpV.toD (opv_move rfl rfl) rfl
        · rintro _ rfl _ rfl _ rfl
          refine Dep.nil ?_
          refine GuardOK.none rfl ?_
          exact OpV.toD (opv_mul rfl rfl rfl) rfl
        · rintro _ rfl
          refine Dep.nil ?_
          refine GuardOK.none rfl ?_
          exact OpV.toD (opv_fieldAddr rfl Try.fo31_1 rfl) rfl
        · rintro _ rfl _ rfl
          refine Dep.nil ?_
          refine GuardOK.none rfl ?_
          exact OpV.toD (opv_loadB rfl Try.one2 rfl (Sep.at (o := boxO be0 [(.int .i64 ae0_0), (.int .i64 ae0_1), (.bool ae0_2), ue0_3, ue0_4]) S_1 0 rfl) rfl) rfl
        · rintro _ rfl _ rfl
          refine Dep.nil ?_
          refine GuardOK.none rfl ?_
          exact OpV.toD (opv_sub rfl rfl rfl) rfl
        · rintro _ rfl _ rfl
          refine Dep.nil ?_
          refine GuardOK.none rfl ?_
          exact OpV.toD (opv_mul rfl rfl rfl) rfl
        · rintro _ rfl _ rfl _ rfl
          refine Dep.nil ?_
          refine GuardOK.none rfl ?_
          exact OpV.mono (opv_call (cap := []) (impl_quotient_ok _ _ _ _ hx5) rfl rfl ⟨rfl, rfl, trivial⟩ Try.func133 rfl rfl) (by rintro v5 _ ⟨fv5, rfl⟩; exact ⟨rfl, fv5⟩)
        · rintro _ rfl v5 fv5
          refine Dep.nil ?_
          refine GuardOK.none rfl ?_
          exact OpV.mono (opv_call (cap := []) (impl_SineTurns_ok _ _ _ fv5 _ hx6) rfl rfl ⟨rfl, trivial⟩ Try.func132 rfl rfl) (by rintro v6 _ ⟨fv6, rfl⟩; exact ⟨rfl, fv6⟩)
        · rintro _ rfl v4 fv4 v6 fv6
          refine Dep.nil ?_
          refine GuardOK.none rfl ?_
          exact OpV.toS (opv_fop rfl rfl rfl rfl fv4 fv6) (fun _ h => h)
        · rintro _ rfl _ rfl _ rfl
          refine Dep.nil ?_
          refine GuardOK.none rfl ?_
          exact OpV.toS (opv_index rfl Try.underlying22 (by rw [Try.size25]; rfl) rfl rfl (ownO.read (Sep.at (o := ownO (kF .f32) 25 ue4_0 ae4_0) S_1 5 rfl)) hx7) (fun _ h => h)
      rintro v7 fv7 v8 fv8
      refine Dep.nil ?_
      show RL _ _ _ _ (_ :: _) _ _
      refine RL.op0 _ (opS_storeE (K := (kF .f32)) rfl Try.size25 rfl rfl fv8 rfl ⟨_, rfl, fv7⟩ hx8 (Sep.at (o := ownO (kF .f32) 25 ue4_0 ae4_0) S_1 5 rfl)) ?_
      rintro _ hp3 ⟨rfl, MT_3, T_3⟩
      have S_4 : Sep [some be0, some be1, some be2, some be3, some be4, ue4_0.ownBlock, ue4_1.ownBlock, ue4_2.ownBlock] h0.size hp1 ([ownO (kF .f32) 25 ue4_0 ae4_0] ++ [boxO be0 [(.int .i64 ae0_0), (.int .i64 ae0_1), (.bool ae0_2), ue0_3, ue0_4], boxO be1 [ue1_0], boxO be2 [(.int .i64 ae2_0)], boxO be3 [(.int .i64 ae3_0)], boxO be4 [ue4_0, ue4_1, ue4_2], ownO (kF .f32) 25 ue4_1 ae4_1, ownO (kF .f32) 25 ue4_2 ae4_2]) := Sep.sel S_1 [5, 0, 1, 2, 3, 4, 6, 7] (by decide)
      have X_3 : Mod [some be0, some be1, some be2, some be3, some be4, ue4_0.ownBlock, ue4_1.ownBlock, ue4_2.ownBlock] h0 hp3 := Mod.step (A := [ownO (kF .f32) 25 ue4_0 ae4_0]) (L := [boxO be0 [(.int .i64 ae0_0), (.int .i64 ae0_1), (.bool ae0_2), ue0_3, ue0_4], boxO be1 [ue1_0], boxO be2 [(.int .i64 ae2_0)], boxO be3 [(.int .i64 ae3_0)], boxO be4 [ue4_0, ue4_1, ue4_2], ownO (kF .f32) 25 ue4_1 ae4_1, ownO (kF .f32) 25 ue4_2 ae4_2]) X_1 S_4 MT_3
      have S_5 : Sep [some be0, some be1, some be2, some be3, some be4, ue4_0.ownBlock, ue4_1.ownBlock, ue4_2.ownBlock] h0.size hp3 [ownO (kF .f32) 25 ue4_0 x8, boxO be0 [(.int .i64 ae0_0), (.int .i64 ae0_1), (.bool ae0_2), ue0_3, ue0_4], boxO be1 [ue1_0], boxO be2 [(.int .i64 ae2_0)], boxO be3 [(.int .i64 ae3_0)], boxO be4 [ue4_0, ue4_1, ue4_2], ownO (kF .f32) 25 ue4_1 ae4_1, ownO (kF .f32) 25 ue4_2 ae4_2] := Sep.step (A := [ownO (kF .f32) 25 ue4_0 ae4_0]) (L := [boxO be0 [(.int .i64 ae0_0), (.int .i64 ae0_1), (.bool ae0_2), ue0_3, ue0_4], boxO be1 [ue1_0], boxO be2 [(.int .i64 ae2_0)], boxO be3 [(.int .i64 ae3_0)], boxO be4 [ue4_0, ue4_1, ue4_2], ownO (kF .f32) 25 ue4_1 ae4_1, ownO (kF .f32) 25 ue4_2 ae4_2]) S_4 (Mod.size X_1) MT_3 T_3
      refine RL.nil ?_
      have ey1 := Option.some.inj hy1
      subst ey1
      refine onlyN ?_
      exact ⟨⟨rfl, rfl, rfl, rfl, rfl, rfl, rfl, rfl, rfl, trivial⟩, X_3, (Sep.sel S_5 [1, 2, 3, 4, 5, 0, 6, 7] (by decide))⟩
    · rw [if_neg c1] at hy1
      have c1 := eq_false_of_ne_true c1
      refine W.condF rfl c1 ?_
      refine W.skip ?_
      have ey1 := Option.some.inj hy1
      subst ey1
      refine onlyN ?_
      exact ⟨⟨rfl, rfl, rfl, rfl, rfl, rfl, rfl, rfl, rfl, trivial⟩, X_1, (Sep.sel S_1 [0, 1, 2, 3, 4, 5, 6, 7] (by decide))⟩
  rintro φ' hp4 ⟨hs1, X_4, S_6⟩
  have er := Option.some.inj hp
  subst er
  exact Rt.none' rfl ⟨ue1_0, rfl, ge1_0, X_4, (Sep.sel S_6 [0, 1, 2, 3, 4, 5, 6, 7] (by decide))⟩

set_option maxRecDepth 20000 in
theorem impl_Sheet_each__impl_modeField_1_ok (h0 : Heap) (lo : Nat) (hlo : lo ≤ h0.size) (a0_0 : Int) (a0_1 : Int) (a0_2 : Bool) (u0_3 : Value) (a0_3 : List (Option Nat)) (g0_3 : SL (kF .f32) lo h0 u0_3 a0_3) (u0_4 : Value) (a0_4 : List (Option Nat)) (g0_4 : SL (kF .f32) lo h0 u0_4 a0_4) (be0 : Nat) (ae0_0 : Int) (ae0_1 : Int) (ae0_2 : Bool) (ue0_3 : Value) (ae0_3 : List (Option Nat)) (ge0_3 : SL (kF .f32) lo h0 ue0_3 ae0_3) (ue0_4 : Value) (ae0_4 : List (Option Nat)) (ge0_4 : SL (kF .f32) lo h0 ue0_4 ae0_4) (be1 : Nat) (ue1_0 : Value) (ae1_0 : Option Nat) (ge1_0 : IsF .f32 ue1_0 ae1_0) (be2 : Nat) (ae2_0 : Int) (be3 : Nat) (ae3_0 : Int) (be4 : Nat) (ue4_0 : Value) (ae4_0 : List (Option Nat)) (ue4_1 : Value) (ae4_1 : List (Option Nat)) (ue4_2 : Value) (ae4_2 : List (Option Nat)) (S0 : Sep [some be0, some be1, some be2, some be3, some be4, ue4_0.ownBlock, ue4_1.ownBlock, ue4_2.ownBlock] h0.size h0 [boxO be0 [(.int .i64 ae0_0), (.int .i64 ae0_1), (.bool ae0_2), ue0_3, ue0_4], boxO be1 [ue1_0], boxO be2 [(.int .i64 ae2_0)], boxO be3 [(.int .i64 ae3_0)], boxO be4 [ue4_0, ue4_1, ue4_2], ownO (kF .f32) 25 ue4_0 ae4_0, ownO (kF .f32) 25 ue4_1 ae4_1, ownO (kF .f32) 25 ue4_2 ae4_2]) (hB : ∀ b, some b ∈ [some be0, some be1, some be2, some be3, some be4, ue4_0.ownBlock, ue4_1.ownBlock, ue4_2.ownBlock] → lo ≤ b) (r : (Int × Int × Bool × (Option Nat) × Int × Int × (List (Option Nat)) × (List (Option Nat)) × (List (Option Nat)))) (hp : impl_Sheet_each__impl_modeField_1 a0_0 a0_1 a0_2 a0_3 a0_4 ae0_0 ae0_1 ae0_2 ae0_3 ae0_4 ae1_0 ae2_0 ae3_0 ae4_0 ae4_1 ae4_2 = some r) : CallsH Try.prog 79 ([(.agg (List.toArray (α := Value) [(.int .i64 a0_0), (.int .i64 a0_1), (.bool a0_2), u0_3, u0_4])), (.func (.func 131) #[] [(.pointer (some ⟨be0, 0, none⟩)), (.pointer (some ⟨be1, 0, none⟩)), (.pointer (some ⟨be2, 0, none⟩)), (.pointer (some ⟨be3, 0, none⟩)), (.pointer (some ⟨be4, 0, none⟩))].toArray)].toArray ++ [].toArray) h0 (fun v h' => ∃ w3, v = (.tuple (List.toArray (α := Value) [])) ∧ IsF .f32 w3 r.2.2.2.1 ∧ Mod [some be0, some be1, some be2, some be3, some be4, ue4_0.ownBlock, ue4_1.ownBlock, ue4_2.ownBlock] h0 h' ∧ Sep [some be0, some be1, some be2, some be3, some be4, ue4_0.ownBlock, ue4_1.ownBlock, ue4_2.ownBlock] h0.size h' [boxO be0 [(.int .i64 r.1), (.int .i64 r.2.1), (.bool r.2.2.1), ue0_3, ue0_4], boxO be1 [w3], boxO be2 [(.int .i64 r.2.2.2.2.1)], boxO be3 [(.int .i64 r.2.2.2.2.2.1)], boxO be4 [ue4_0, ue4_1, ue4_2], ownO (kF .f32) 25 ue4_0 r.2.2.2.2.2.2.1, ownO (kF .f32) 25 ue4_1 r.2.2.2.2.2.2.2.1, ownO (kF .f32) 25 ue4_2 r.2.2.2.2.2.2.2.2]) := by
  unfold impl_Sheet_each__impl_modeField_1 at hp
  refine callsH_of_W (l := [(.agg (List.toArray (α := Value) [(.int .i64 a0_0), (.int .i64 a0_1), (.bool a0_2), u0_3, u0_4])), (.func (.func 131) #[] [(.pointer (some ⟨be0, 0, none⟩)), (.pointer (some ⟨be1, 0, none⟩)), (.pointer (some ⟨be2, 0, none⟩)), (.pointer (some ⟨be3, 0, none⟩)), (.pointer (some ⟨be4, 0, none⟩))].toArray)]) (cap := []) 26 Try.func79 rfl rfl rfl ?_
  refine W.seq ?_
  refine W.region ?_
  refine RL.op _ (by decide) (opS_boxed (opv_boxA (cs := [(.int .i64 a0_0), (.int .i64 a0_1), (.bool a0_2), u0_3, u0_4]) rfl rfl)) ?_
  rintro _ hp1 ⟨bb1, rfl, MT_1, T_1⟩
  have X_1 : Mod [some be0, some be1, some be2, some be3, some be4, ue4_0.ownBlock, ue4_1.ownBlock, ue4_2.ownBlock] h0 hp1 := Mod.step (A := []) (L := [boxO be0 [(.int .i64 ae0_0), (.int .i64 ae0_1), (.bool ae0_2), ue0_3, ue0_4], boxO be1 [ue1_0], boxO be2 [(.int .i64 ae2_0)], boxO be3 [(.int .i64 ae3_0)], boxO be4 [ue4_0, ue4_1, ue4_2], ownO (kF .f32) 25 ue4_0 ae4_0, ownO (kF .f32) 25 ue4_1 ae4_1, ownO (kF .f32) 25 ue4_2 ae4_2]) (Mod.refl [some be0, some be1, some be2, some be3, some be4, ue4_0.ownBlock, ue4_1.ownBlock, ue4_2.ownBlock] h0) S0 MT_1
  have S_1 : Sep [some be0, some be1, some be2, some be3, some be4, ue4_0.ownBlock, ue4_1.ownBlock, ue4_2.ownBlock] h0.size hp1 [boxO bb1 [(.int .i64 a0_0), (.int .i64 a0_1), (.bool a0_2), u0_3, u0_4], boxO be0 [(.int .i64 ae0_0), (.int .i64 ae0_1), (.bool ae0_2), ue0_3, ue0_4], boxO be1 [ue1_0], boxO be2 [(.int .i64 ae2_0)], boxO be3 [(.int .i64 ae3_0)], boxO be4 [ue4_0, ue4_1, ue4_2], ownO (kF .f32) 25 ue4_0 ae4_0, ownO (kF .f32) 25 ue4_1 ae4_1, ownO (kF .f32) 25 ue4_2 ae4_2] := Sep.step (A := []) (L := [boxO be0 [(.int .i64 ae0_0), (.int .i64 ae0_1), (.bool ae0_2), ue0_3, ue0_4], boxO be1 [ue1_0], boxO be2 [(.int .i64 ae2_0)], boxO be3 [(.int .i64 ae3_0)], boxO be4 [ue4_0, ue4_1, ue4_2], ownO (kF .f32) 25 ue4_0 ae4_0, ownO (kF .f32) 25 ue4_1 ae4_1, ownO (kF .f32) 25 ue4_2 ae4_2]) S0 (Mod.size (Mod.refl [some be0, some be1, some be2, some be3, some be4, ue4_0.ownBlock, ue4_1.ownBlock, ue4_2.ownBlock] h0)) MT_1 T_1
  refine RL.nil ?_
  refine thnN ?_
  refine W.seq ?_
  refine W.region ?_
  refine RL.opD (by decide) (opv_fieldAddr rfl Try.fo31_1 rfl) ?_
  refine RL.opD (by decide) (opv_loadB rfl Try.one2 rfl (Sep.at (o := boxO bb1 [(.int .i64 a0_0), (.int .i64 a0_1), (.bool a0_2), u0_3, u0_4]) S_1 0 rfl) rfl) ?_
  refine RL.opD (by decide) (opv_move rfl rfl) ?_
  refine RL.nil ?_
  refine thnN ?_
  obtain ⟨y1, hy1, hp⟩ := Option.bind_eq_some_iff.1 hp
  refine W.cut (fun φ' h' => ∃ x11, ∃ x12, ∃ x13, ∃ x14, ∃ x15, ∃ x16, ∃ x17, ∃ x18, ∃ x19, ∃ x20, ∃ x21, ∃ v2, y1 = (x11, x12, x13, x14, x15, x16, x17, x18, x19, x20, x21) ∧ Fr.sub [(0, (.agg (List.toArray (α := Value) [(.int .i64 a0_0), (.int .i64 a0_1), (.bool a0_2), u0_3, u0_4]))), (1, (.func (.func 131) #[] [(.pointer (some ⟨be0, 0, none⟩)), (.pointer (some ⟨be1, 0, none⟩)), (.pointer (some ⟨be2, 0, none⟩)), (.pointer (some ⟨be3, 0, none⟩)), (.pointer (some ⟨be4, 0, none⟩))].toArray)), (2, (.pointer (some ⟨bb1, 0, none⟩))), (7, (.int .i64 a0_1)), (8, (.int .i64 x11)), (9, (.bool x12))] φ' ∧ IsF .f32 v2 x16 ∧ Mod [some be0, some be1, some be2, some be3, some be4, ue4_0.ownBlock, ue4_1.ownBlock, ue4_2.ownBlock] h0 h' ∧ Sep [some be0, some be1, some be2, some be3, some be4, ue4_0.ownBlock, ue4_1.ownBlock, ue4_2.ownBlock] h0.size h' [boxO bb1 [(.int .i64 a0_0), (.int .i64 a0_1), (.bool a0_2), u0_3, u0_4], boxO be0 [(.int .i64 x13), (.int .i64 x14), (.bool x15), ue0_3, ue0_4], boxO be1 [v2], boxO be2 [(.int .i64 x17)], boxO be3 [(.int .i64 x18)], boxO be4 [ue4_0, ue4_1, ue4_2], ownO (kF .f32) 25 ue4_0 x19, ownO (kF .f32) 25 ue4_1 x20, ownO (kF .f32) 25 ue4_2 x21]) ?_ ?_
  · refine W.block ?_
    refine W.loopS (fun (s : (Int × Int × Int × Bool × (Option Nat) × Int × Int × (List (Option Nat)) × (List (Option Nat)) × (List (Option Nat)))) φ' h' => ∃ v1, Fr.sub [(0, (.agg (List.toArray (α := Value) [(.int .i64 a0_0), (.int .i64 a0_1), (.bool a0_2), u0_3, u0_4]))), (1, (.func (.func 131) #[] [(.pointer (some ⟨be0, 0, none⟩)), (.pointer (some ⟨be1, 0, none⟩)), (.pointer (some ⟨be2, 0, none⟩)), (.pointer (some ⟨be3, 0, none⟩)), (.pointer (some ⟨be4, 0, none⟩))].toArray)), (2, (.pointer (some ⟨bb1, 0, none⟩))), (7, (.int .i64 a0_1)), (8, (.int .i64 s.1))] φ' ∧ IsF .f32 v1 s.2.2.2.2.1 ∧ Mod [some be0, some be1, some be2, some be3, some be4, ue4_0.ownBlock, ue4_1.ownBlock, ue4_2.ownBlock] h0 h' ∧ Sep [some be0, some be1, some be2, some be3, some be4, ue4_0.ownBlock, ue4_1.ownBlock, ue4_2.ownBlock] h0.size h' [boxO bb1 [(.int .i64 a0_0), (.int .i64 a0_1), (.bool a0_2), u0_3, u0_4], boxO be0 [(.int .i64 s.2.1), (.int .i64 s.2.2.1), (.bool s.2.2.2.1), ue0_3, ue0_4], boxO be1 [v1], boxO be2 [(.int .i64 s.2.2.2.2.2.1)], boxO be3 [(.int .i64 s.2.2.2.2.2.2.1)], boxO be4 [ue4_0, ue4_1, ue4_2], ownO (kF .f32) 25 ue4_0 s.2.2.2.2.2.2.2.1, ownO (kF .f32) 25 ue4_1 s.2.2.2.2.2.2.2.2.1, ownO (kF .f32) 25 ue4_2 s.2.2.2.2.2.2.2.2.2]) hy1 ⟨ue1_0, ⟨rfl, rfl, rfl, rfl, rfl, trivial⟩, ge1_0, X_1, (Sep.sel S_1 [0, 1, 2, 3, 4, 5, 6, 7, 8] (by decide))⟩ ?_
    rintro ⟨x1, x2, x3, x4, x5, x6, x7, x8, x9, x10⟩ φ' hp2 o1 ⟨v1, hs1, fv1, X_2, S_2⟩ ho1 hy1
    have hs1 : Fr.sub [(0, (.agg (List.toArray (α := Value) [(.int .i64 a0_0), (.int .i64 a0_1), (.bool a0_2), u0_3, u0_4]))), (1, (.func (.func 131) #[] [(.pointer (some ⟨be0, 0, none⟩)), (.pointer (some ⟨be1, 0, none⟩)), (.pointer (some ⟨be2, 0, none⟩)), (.pointer (some ⟨be3, 0, none⟩)), (.pointer (some ⟨be4, 0, none⟩))].toArray)), (2, (.pointer (some ⟨bb1, 0, none⟩))), (7, (.int .i64 a0_1)), (8, (.int .i64 x1))] φ' := hs1
    have fv1 : IsF .f32 v1 x5 := fv1
    have S_2 : Sep [some be0, some be1, some be2, some be3, some be4, ue4_0.ownBlock, ue4_1.ownBlock, ue4_2.ownBlock] h0.size hp2 [boxO bb1 [(.int .i64 a0_0), (.int .i64 a0_1), (.bool a0_2), u0_3, u0_4], boxO be0 [(.int .i64 x2), (.int .i64 x3), (.bool x4), ue0_3, ue0_4], boxO be1 [v1], boxO be2 [(.int .i64 x6)], boxO be3 [(.int .i64 x7)], boxO be4 [ue4_0, ue4_1, ue4_2], ownO (kF .f32) 25 ue4_0 x8, ownO (kF .f32) 25 ue4_1 x9, ownO (kF .f32) 25 ue4_2 x10] := S_2
    have ho1 : impl_Sheet_each__impl_modeField_1.s0 a0_0 a0_1 a0_2 a0_3 a0_4 ae0_3 ae0_4 x1 x2 x3 x4 x5 x6 x7 x8 x9 x10 = some o1 := ho1
    unfold impl_Sheet_each__impl_modeField_1.s0 at ho1
    refine W.sub hs1 ?_
    refine W.seq ?_
    refine W.region ?_
    refine RL.opD (by decide) (opv_icmp rfl rfl rfl rfl) ?_
    refine RL.nil ?_
    refine thnN ?_
    refine W.seq ?_
    by_cases c1 : (decide (x1 < a0_1)) = true
    · rw [if_pos c1] at ho1
      refine W.condT rfl c1 ?_
      refine W.skip ?_
      refine thnN ?_
      refine W.seq ?_
      refine W.block ?_
      refine W.seq ?_
      refine W.region ?_
      refine RL.opD (by decide) (opv_move rfl rfl) ?_
      refine RL.opD (by decide) (opv_assign rfl rfl) ?_
      refine RL.nil ?_
      refine thnN ?_
      refine W.seq ?_
      refine W.region ?_
      refine RL.opD (by decide) (opv_fieldAddr rfl Try.fo31_0 rfl) ?_
      refine RL.opD (by decide) (opv_loadB rfl Try.one2 rfl (Sep.at (o := boxO bb1 [(.int .i64 a0_0), (.int .i64 a0_1), (.bool a0_2), u0_3, u0_4]) S_2 0 rfl) rfl) ?_
      refine RL.opD (by decide) (opv_move rfl rfl) ?_
      refine RL.nil ?_
      refine thnN ?_
      obtain ⟨y2, hy2, ho1⟩ := Option.bind_eq_some_iff.1 ho1
      refine W.cut (fun φ' h' => ∃ x32, ∃ x33, ∃ x34, ∃ x35, ∃ x36, ∃ x37, ∃ x38, ∃ x39, ∃ x40, ∃ x41, ∃ x42, ∃ v4, y2 = (x32, x33, x34, x35, x36, x37, x38, x39, x40, x41, x42) ∧ Fr.sub [(0, (.agg (List.toArray (α := Value) [(.int .i64 a0_0), (.int .i64 a0_1), (.bool a0_2), u0_3, u0_4]))), (1, (.func (.func 131) #[] [(.pointer (some ⟨be0, 0, none⟩)), (.pointer (some ⟨be1, 0, none⟩)), (.pointer (some ⟨be2, 0, none⟩)), (.pointer (some ⟨be3, 0, none⟩)), (.pointer (some ⟨be4, 0, none⟩))].toArray)), (2, (.pointer (some ⟨bb1, 0, none⟩))), (7, (.int .i64 a0_1)), (8, (.int .i64 x1)), (9, (.bool (decide (x1 < a0_1)))), (4, (.int .i64 x1)), (12, (.int .i64 a0_0)), (13, (.int .i64 x32)), (14, (.bool x33))] φ' ∧ IsF .f32 v4 x37 ∧ Mod [some be0, some be1, some be2, some be3, some be4, ue4_0.ownBlock, ue4_1.ownBlock, ue4_2.ownBlock] h0 h' ∧ Sep [some be0, some be1, some be2, some be3, some be4, ue4_0.ownBlock, ue4_1.ownBlock, ue4_2.ownBlock] h0.size h' [boxO bb1 [(.int .i64 a0_0), (.int .i64 a0_1), (.bool a0_2), u0_3, u0_4], boxO be0 [(.int .i64 x34), (.int .i64 x35), (.bool x36), ue0_3, ue0_4], boxO be1 [v4], boxO be2 [(.int .i64 x38)], boxO be3 [(.int .i64 x39)], boxO be4 [ue4_0, ue4_1, ue4_2], ownO (kF .f32) 25 ue4_0 x40, ownO (kF .f32) 25 ue4_1 x41, ownO (kF .f32) 25 ue4_2 x42]) ?_ ?_
      · refine W.block ?_
        refine W.loopS (fun (s : (Int × Int × Int × Bool × (Option Nat) × Int × Int × (List (Option Nat)) × (List (Option Nat)) × (List (Option Nat)))) φ' h' => ∃ v3, Fr.sub [(0, (.agg (List.toArray (α := Value) [(.int .i64 a0_0), (.int .i64 a0_1), (.bool a0_2), u0_3, u0_4]))), (1, (.func (.func 131) #[] [(.pointer (some ⟨be0, 0, none⟩)), (.pointer (some ⟨be1, 0, none⟩)), (.pointer (some ⟨be2, 0, none⟩)), (.pointer (some ⟨be3, 0, none⟩)), (.pointer (some ⟨be4, 0, none⟩))].toArray)), (2, (.pointer (some ⟨bb1, 0, none⟩))), (7, (.int .i64 a0_1)), (8, (.int .i64 x1)), (9, (.bool (decide (x1 < a0_1)))), (4, (.int .i64 x1)), (12, (.int .i64 a0_0)), (13, (.int .i64 s.1))] φ' ∧ IsF .f32 v3 s.2.2.2.2.1 ∧ Mod [some be0, some be1, some be2, some be3, some be4, ue4_0.ownBlock, ue4_1.ownBlock, ue4_2.ownBlock] h0 h' ∧ Sep [some be0, some be1, some be2, some be3, some be4, ue4_0.ownBlock, ue4_1.ownBlock, ue4_2.ownBlock] h0.size h' [boxO bb1 [(.int .i64 a0_0), (.int .i64 a0_1), (.bool a0_2), u0_3, u0_4], boxO be0 [(.int .i64 s.2.1), (.int .i64 s.2.2.1), (.bool s.2.2.2.1), ue0_3, ue0_4], boxO be1 [v3], boxO be2 [(.int .i64 s.2.2.2.2.2.1)], boxO be3 [(.int .i64 s.2.2.2.2.2.2.1)], boxO be4 [ue4_0, ue4_1, ue4_2], ownO (kF .f32) 25 ue4_0 s.2.2.2.2.2.2.2.1, ownO (kF .f32) 25 ue4_1 s.2.2.2.2.2.2.2.2.1, ownO (kF .f32) 25 ue4_2 s.2.2.2.2.2.2.2.2.2]) hy2 ⟨v1, ⟨rfl, rfl, rfl, rfl, rfl, rfl, rfl, rfl, rfl, trivial⟩, fv1, X_2, (Sep.sel S_2 [0, 1, 2, 3, 4, 5, 6, 7, 8] (by decide))⟩ ?_
        rintro ⟨x22, x23, x24, x25, x26, x27, x28, x29, x30, x31⟩ φ' hp3 o2 ⟨v3, hs3, fv3, X_3, S_3⟩ ho2 hy2
        have hs3 : Fr.sub [(0, (.agg (List.toArray (α := Value) [(.int .i64 a0_0), (.int .i64 a0_1), (.bool a0_2), u0_3, u0_4]))), (1, (.func (.func 131) #[] [(.pointer (some ⟨be0, 0, none⟩)), (.pointer (some ⟨be1, 0, none⟩)), (.pointer (some ⟨be2, 0, none⟩)), (.pointer (some ⟨be3, 0, none⟩)), (.pointer (some ⟨be4, 0, none⟩))].toArray)), (2, (.pointer (some ⟨bb1, 0, none⟩))), (7, (.int .i64 a0_1)), (8, (.int .i64 x1)), (9, (.bool (decide (x1 < a0_1)))), (4, (.int .i64 x1)), (12, (.int .i64 a0_0)), (13, (.int .i64 x22))] φ' := hs3
        have fv3 : IsF .f32 v3 x26 := fv3
        have S_3 : Sep [some be0, some be1, some be2, some be3, some be4, ue4_0.ownBlock, ue4_1.ownBlock, ue4_2.ownBlock] h0.size hp3 [boxO bb1 [(.int .i64 a0_0), (.int .i64 a0_1), (.bool a0_2), u0_3, u0_4], boxO be0 [(.int .i64 x23), (.int .i64 x24), (.bool x25), ue0_3, ue0_4], boxO be1 [v3], boxO be2 [(.int .i64 x27)], boxO be3 [(.int .i64 x28)], boxO be4 [ue4_0, ue4_1, ue4_2], ownO (kF .f32) 25 ue4_0 x29, ownO (kF .f32) 25 ue4_1 x30, ownO (kF .f32) 25 ue4_2 x31] := S_3
        have ho2 : impl_Sheet_each__impl_modeField_1.s1 a0_0 a0_1 a0_2 a0_3 a0_4 ae0_3 ae0_4 x1 x22 x23 x24 x25 x26 x27 x28 x29 x30 x31 = some o2 := ho2
        unfold impl_Sheet_each__impl_modeField_1.s1 at ho2
        refine W.sub hs3 ?_
        refine W.seq ?_
        refine W.region ?_
        refine RL.opD (by decide) (opv_icmp rfl rfl rfl rfl) ?_
        refine RL.nil ?_
        refine thnN ?_
        refine W.seq ?_
        by_cases c2 : (decide (x22 < a0_0)) = true
        · rw [if_pos c2] at ho2
          refine W.condT rfl c2 ?_
          refine W.skip ?_
          refine thnN ?_
          refine W.seq ?_
          refine W.block ?_
          refine W.seq ?_
          refine W.region ?_
          refine RL.opD (by decide) (opv_move rfl rfl) ?_
          refine RL.opD (by decide) (opv_assign rfl rfl) ?_
          refine RL.nil ?_
          refine thnN ?_
          obtain ⟨x43, hx43, ho2⟩ := Option.bind_eq_some_iff.1 ho2
          obtain ⟨x44, hx44, ho2⟩ := Option.bind_eq_some_iff.1 ho2
          refine W.region ?_
          refine RL.opD (by decide) (opv_move rfl rfl) ?_
          refine RL.opD (by decide) (opv_move rfl rfl) ?_
          refine RL.opD (by decide) (opv_move rfl rfl) ?_
          refine RL.opD (by decide) (opv_loadA (us := [(.int .i64 a0_0), (.int .i64 a0_1), (.bool a0_2), u0_3, u0_4]) rfl Try.agg31 Try.size31 rfl (Sep.at (o := boxO bb1 [(.int .i64 a0_0), (.int .i64 a0_1), (.bool a0_2), u0_3, u0_4]) S_3 0 rfl) rfl rfl) ?_
          refine RL.opD (by decide) (opv_move rfl rfl) ?_
          refine RL.opD (by decide) (opv_move rfl rfl) ?_
          refine RL.op _ (by decide) (opv_call (cap := []) (impl_Sheet_at_ok _ _ _ _ _ _ (SL.up (SL.mod g0_3 X_3 hlo hB) (Nat.le_trans hlo (Mod.size X_3))) _ _ (SL.up (SL.mod g0_4 X_3 hlo hB) (Nat.le_trans hlo (Mod.size X_3))) _ _ _ hx43) rfl rfl ⟨rfl, rfl, rfl, trivial⟩ Try.func118 rfl rfl) ?_
          rintro _ hp4 ⟨rfl, MT_2, T_2⟩
          have X_4 : Mod [some be0, some be1, some be2, some be3, some be4, ue4_0.ownBlock, ue4_1.ownBlock, ue4_2.ownBlock] h0 hp4 := Mod.step (A := []) (L := [boxO bb1 [(.int .i64 a0_0), (.int .i64 a0_1), (.bool a0_2), u0_3, u0_4], boxO be0 [(.int .i64 x23), (.int .i64 x24), (.bool x25), ue0_3, ue0_4], boxO be1 [v3], boxO be2 [(.int .i64 x27)], boxO be3 [(.int .i64 x28)], boxO be4 [ue4_0, ue4_1, ue4_2], ownO (kF .f32) 25 ue4_0 x29, ownO (kF .f32) 25 ue4_1 x30, ownO (kF .f32) 25 ue4_2 x31]) X_3 S_3 MT_2
          have S_4 : Sep [some be0, some be1, some be2, some be3, some be4, ue4_0.ownBlock, ue4_1.ownBlock, ue4_2.ownBlock] h0.size hp4 [boxO bb1 [(.int .i64 a0_0), (.int .i64 a0_1), (.bool a0_2), u0_3, u0_4], boxO be0 [(.int .i64 x23), (.int .i64 x24), (.bool x25), ue0_3, ue0_4], boxO be1 [v3], boxO be2 [(.int .i64 x27)], boxO be3 [(.int .i64 x28)], boxO be4 [ue4_0, ue4_1, ue4_2], ownO (kF .f32) 25 ue4_0 x29, ownO (kF .f32) 25 ue4_1 x30, ownO (kF .f32) 25 ue4_2 x31] := Sep.step (A := []) (L := [boxO bb1 [(.int .i64 a0_0), (.int .i64 a0_1), (.bool a0_2), u0_3, u0_4], boxO be0 [(.int .i64 x23), (.int .i64 x24), (.bool x25), ue0_3, ue0_4], boxO be1 [v3], boxO be2 [(.int .i64 x27)], boxO be3 [(.int .i64 x28)], boxO be4 [ue4_0, ue4_1, ue4_2], ownO (kF .f32) 25 ue4_0 x29, ownO (kF .f32) 25 ue4_1 x30, ownO (kF .f32) 25 ue4_2 x31]) S_3 (Mod.size X_3) MT_2 T_2
          have S_6 : Sep [some be0, some be1, some be2, some be3, some be4, ue4_0.ownBlock, ue4_1.ownBlock, ue4_2.ownBlock] h0.size hp4 [boxO be0 [(.int .i64 x23), (.int .i64 x24), (.bool x25), ue0_3, ue0_4], boxO be1 [v3], boxO be2 [(.int .i64 x27)], boxO be3 [(.int .i64 x28)], boxO be4 [ue4_0, ue4_1, ue4_2], ownO (kF .f32) 25 ue4_0 x29, ownO (kF .f32) 25 ue4_1 x30, ownO (kF .f32) 25 ue4_2 x31] := Sep.sel S_4 [1, 2, 3, 4, 5, 6, 7, 8] (by decide)
          have S_5 : Sep [some be0, some be1, some be2, some be3, some be4, ue4_0.ownBlock, ue4_1.ownBlock, ue4_2.ownBlock] hp4.size hp4 [boxO be0 [(.int .i64 x23), (.int .i64 x24), (.bool x25), ue0_3, ue0_4], boxO be1 [v3], boxO be2 [(.int .i64 x27)], boxO be3 [(.int .i64 x28)], boxO be4 [ue4_0, ue4_1, ue4_2], ownO (kF .f32) 25 ue4_0 x29, ownO (kF .f32) 25 ue4_1 x30, ownO (kF .f32) 25 ue4_2 x31] := Sep.own S_6 _
          refine RL.op _ (by decide) (opv_call (cap := [(.pointer (some ⟨be0, 0, none⟩)), (.pointer (some ⟨be1, 0, none⟩)), (.pointer (some ⟨be2, 0, none⟩)), (.pointer (some ⟨be3, 0, none⟩)), (.pointer (some ⟨be4, 0, none⟩))]) (impl_modeField_1_2_ok _ lo (Nat.le_trans hlo (Mod.size X_4)) _ _ _ _ _ _ _ _ _ (SL.mod ge0_3 X_4 hlo hB) _ _ (SL.mod ge0_4 X_4 hlo hB) _ _ _ fv3 _ _ _ _ _ _ _ _ _ _ _ S_5 (Sep.ge (L := [boxO be0 [(.int .i64 x23), (.int .i64 x24), (.bool x25), ue0_3, ue0_4], boxO be1 [v3], boxO be2 [(.int .i64 x27)], boxO be3 [(.int .i64 x28)], boxO be4 [ue4_0, ue4_1, ue4_2], ownO (kF .f32) 25 ue4_0 x29, ownO (kF .f32) 25 ue4_1 x30, ownO (kF .f32) 25 ue4_2 x31]) S_6 hlo hB) _ hx44) rfl rfl ⟨rfl, rfl, rfl, trivial⟩ Try.func131 rfl rfl) ?_
          rintro _ hp5 ⟨v5, rfl, fv5, MT_3, T_3⟩
          have S_7 : Sep [some be0, some be1, some be2, some be3, some be4, ue4_0.ownBlock, ue4_1.ownBlock, ue4_2.ownBlock] h0.size hp4 ([boxO be0 [(.int .i64 x23), (.int .i64 x24), (.bool x25), ue0_3, ue0_4], boxO be1 [v3], boxO be2 [(.int .i64 x27)], boxO be3 [(.int .i64 x28)], boxO be4 [ue4_0, ue4_1, ue4_2], ownO (kF .f32) 25 ue4_0 x29, ownO (kF .f32) 25 ue4_1 x30, ownO (kF .f32) 25 ue4_2 x31] ++ [boxO bb1 [(.int .i64 a0_0), (.int .i64 a0_1), (.bool a0_2), u0_3, u0_4]]) := Sep.sel S_4 [1, 2, 3, 4, 5, 6, 7, 8, 0] (by decide)
          have X_5 : Mod [some be0, some be1, some be2, some be3, some be4, ue4_0.ownBlock, ue4_1.ownBlock, ue4_2.ownBlock] h0 hp5 := Mod.step (A := [boxO be0 [(.int .i64 x23), (.int .i64 x24), (.bool x25), ue0_3, ue0_4], boxO be1 [v3], boxO be2 [(.int .i64 x27)], boxO be3 [(.int .i64 x28)], boxO be4 [ue4_0, ue4_1, ue4_2], ownO (kF .f32) 25 ue4_0 x29, ownO (kF .f32) 25 ue4_1 x30, ownO (kF .f32) 25 ue4_2 x31]) (L := [boxO bb1 [(.int .i64 a0_0), (.int .i64 a0_1), (.bool a0_2), u0_3, u0_4]]) X_4 S_7 MT_3
          have S_8 : Sep [some be0, some be1, some be2, some be3, some be4, ue4_0.ownBlock, ue4_1.ownBlock, ue4_2.ownBlock] h0.size hp5 [boxO be0 [(.int .i64 x44.1), (.int .i64 x44.2.1), (.bool x44.2.2.1), ue0_3, ue0_4], boxO be1 [v5], boxO be2 [(.int .i64 x44.2.2.2.2.1)], boxO be3 [(.int .i64 x44.2.2.2.2.2.1)], boxO be4 [ue4_0, ue4_1, ue4_2], ownO (kF .f32) 25 ue4_0 x44.2.2.2.2.2.2.1, ownO (kF .f32) 25 ue4_1 x44.2.2.2.2.2.2.2.1, ownO (kF .f32) 25 ue4_2 x44.2.2.2.2.2.2.2.2, boxO bb1 [(.int .i64 a0_0), (.int .i64 a0_1), (.bool a0_2), u0_3, u0_4]] := Sep.step (A := [boxO be0 [(.int .i64 x23), (.int .i64 x24), (.bool x25), ue0_3, ue0_4], boxO be1 [v3], boxO be2 [(.int .i64 x27)], boxO be3 [(.int .i64 x28)], boxO be4 [ue4_0, ue4_1, ue4_2], ownO (kF .f32) 25 ue4_0 x29, ownO (kF .f32) 25 ue4_1 x30, ownO (kF .f32) 25 ue4_2 x31]) (L := [boxO bb1 [(.int .i64 a0_0), (.int .i64 a0_1), (.bool a0_2), u0_3, u0_4]]) S_7 (Mod.size X_4) MT_3 T_3
          refine RL.nil ?_
          refine blkN ?_
          refine thnN ?_
          refine W.region ?_
          refine RL.opD (by decide) (opv_add rfl rfl rfl) ?_
          refine RL.opD (by decide) (opv_move rfl rfl) ?_
          refine RL.nil ?_
          have eo2 := Option.some.inj ho2
          subst eo2
          refine rndN (s' := (IntKind.wrap .i64 (x22 + 1), x44.1, x44.2.1, x44.2.2.1, x44.2.2.2.1, x44.2.2.2.2.1, x44.2.2.2.2.2.1, x44.2.2.2.2.2.2.1, x44.2.2.2.2.2.2.2.1, x44.2.2.2.2.2.2.2.2)) rfl ?_
          exact ⟨v5, ⟨rfl, rfl, rfl, rfl, rfl, rfl, rfl, rfl, rfl, trivial⟩, fv5, X_5, (Sep.sel S_8 [8, 0, 1, 2, 3, 4, 5, 6, 7] (by decide))⟩
        · rw [if_neg c2] at ho2
          have c2 := eq_false_of_ne_true c2
          refine W.condF rfl c2 ?_
          refine W.exit ?_
          refine thnX ?_
          refine rndX ?_
          refine blkI ?_
          have eo2 := Option.some.inj ho2
          subst eo2
          have ey2 := hy2 _ rfl
          subst ey2
          refine onlyN ?_
          exact ⟨x22, decide (x22 < a0_0), x23, x24, x25, x26, x27, x28, x29, x30, x31, v3, rfl, ⟨rfl, rfl, rfl, rfl, rfl, rfl, rfl, rfl, rfl, rfl, trivial⟩, fv3, X_3, (Sep.sel S_3 [0, 1, 2, 3, 4, 5, 6, 7, 8] (by decide))⟩
      rintro φ' hp6 ⟨x32, x33, x34, x35, x36, x37, x38, x39, x40, x41, x42, v4, rfl, hs4, fv4, X_6, S_9⟩
      try dsimp only at ho1
      refine blkN ?_
      refine thnN ?_
      refine W.sub hs4 ?_
      refine W.region ?_
      refine RL.opD (by decide) (opv_add rfl rfl rfl) ?_
      refine RL.opD (by decide) (opv_move rfl rfl) ?_
      refine RL.nil ?_
      have eo1 := Option.some.inj ho1
      subst eo1
      refine rndN (s' := (IntKind.wrap .i64 (x1 + 1), x34, x35, x36, x37, x38, x39, x40, x41, x42)) rfl ?_
      exact ⟨v4, ⟨rfl, rfl, rfl, rfl, rfl, trivial⟩, fv4, X_6, (Sep.sel S_9 [0, 1, 2, 3, 4, 5, 6, 7, 8] (by decide))⟩
    · rw [if_neg c1] at ho1
      have c1 := eq_false_of_ne_true c1
      refine W.condF rfl c1 ?_
      refine W.exit ?_
      refine thnX ?_
      refine rndX ?_
      refine blkI ?_
      have eo1 := Option.some.inj ho1
      subst eo1
      have ey1 := hy1 _ rfl
      subst ey1
      refine onlyN ?_
      exact ⟨x1, decide (x1 < a0_1), x2, x3, x4, x5, x6, x7, x8, x9, x10, v1, rfl, ⟨rfl, rfl, rfl, rfl, rfl, rfl, trivial⟩, fv1, X_2, (Sep.sel S_2 [0, 1, 2, 3, 4, 5, 6, 7, 8] (by decide))⟩
  rintro φ' hp7 ⟨x11, x12, x13, x14, x15, x16, x17, x18, x19, x20, x21, v2, rfl, hs2, fv2, X_7, S_10⟩
  try dsimp only at hp
  have er := Option.some.inj hp
  subst er
  exact Rt.none' rfl ⟨v2, rfl, fv2, X_7, (Sep.sel S_10 [1, 2, 3, 4, 5, 6, 7, 8] (by decide))⟩

set_option maxRecDepth 20000 in
theorem impl_modeField_ok (h0 : Heap) (a0_0 : Int) (a0_1 : Int) (a0_2 : Bool) (u0_3 : Value) (a0_3 : List (Option Nat)) (g0_3 : SL (kF .f32) h0.size h0 u0_3 a0_3) (u0_4 : Value) (a0_4 : List (Option Nat)) (g0_4 : SL (kF .f32) h0.size h0 u0_4 a0_4) (a1 : Int) (a2 : Int) (u3 : Value) (a3 : Option Nat) (g3 : IsF .f32 u3 a3) (r : ((List (Option Nat)) × (List (Option Nat)) × (List (Option Nat)))) (hp : impl_modeField a0_0 a0_1 a0_2 a0_3 a0_4 a1 a2 a3 = some r) : CallsH Try.prog 73 ([(.agg (List.toArray (α := Value) [(.int .i64 a0_0), (.int .i64 a0_1), (.bool a0_2), u0_3, u0_4])), (.int .i64 a1), (.int .i64 a2), u3].toArray ++ [].toArray) h0 (fun v h' => ∃ w0, ∃ w1, ∃ w2, v = (.agg (List.toArray (α := Value) [w0, w1, w2])) ∧ Mod [] h0 h' ∧ Sep [] h0.size h' [ownO (kF .f32) 25 w0 r.1, ownO (kF .f32) 25 w1 r.2.1, ownO (kF .f32) 25 w2 r.2.2]) := by
  unfold impl_modeField at hp
  refine callsH_of_W (l := [(.agg (List.toArray (α := Value) [(.int .i64 a0_0), (.int .i64 a0_1), (.bool a0_2), u0_3, u0_4])), (.int .i64 a1), (.int .i64 a2), u3]) (cap := []) 16 Try.func73 rfl rfl rfl ?_
  refine W.seq ?_
  refine W.region ?_
  refine RL.op _ (by decide) (opS_boxed (opv_boxA (cs := [(.int .i64 a0_0), (.int .i64 a0_1), (.bool a0_2), u0_3, u0_4]) rfl rfl)) ?_
  rintro _ hp1 ⟨bb1, rfl, MT_1, T_1⟩
  have X_1 : Mod [] h0 hp1 := Mod.step (A := []) (L := []) (Mod.refl [] h0) (Sep.nil [] h0.size h0) MT_1
  have S_1 : Sep [] h0.size hp1 [boxO bb1 [(.int .i64 a0_0), (.int .i64 a0_1), (.bool a0_2), u0_3, u0_4]] := Sep.step (A := []) (L := []) (Sep.nil [] h0.size h0) (Mod.size (Mod.refl [] h0)) MT_1 T_1
  refine RL.op _ (by decide) (opS_boxed (opv_box1 rfl rfl rfl)) ?_
  rintro _ hp2 ⟨bb2, rfl, MT_2, T_2⟩
  have X_2 : Mod [] h0 hp2 := Mod.step (A := []) (L := [boxO bb1 [(.int .i64 a0_0), (.int .i64 a0_1), (.bool a0_2), u0_3, u0_4]]) X_1 S_1 MT_2
  have S_2 : Sep [] h0.size hp2 [boxO bb2 [(.int .i64 a1)], boxO bb1 [(.int .i64 a0_0), (.int .i64 a0_1), (.bool a0_2), u0_3, u0_4]] := Sep.step (A := []) (L := [boxO bb1 [(.int .i64 a0_0), (.int .i64 a0_1), (.bool a0_2), u0_3, u0_4]]) S_1 (Mod.size X_1) MT_2 T_2
  refine RL.op _ (by decide) (opS_boxed (opv_box1 rfl rfl rfl)) ?_
  rintro _ hp3 ⟨bb3, rfl, MT_3, T_3⟩
  have X_3 : Mod [] h0 hp3 := Mod.step (A := []) (L := [boxO bb2 [(.int .i64 a1)], boxO bb1 [(.int .i64 a0_0), (.int .i64 a0_1), (.bool a0_2), u0_3, u0_4]]) X_2 S_2 MT_3
  have S_3 : Sep [] h0.size hp3 [boxO bb3 [(.int .i64 a2)], boxO bb2 [(.int .i64 a1)], boxO bb1 [(.int .i64 a0_0), (.int .i64 a0_1), (.bool a0_2), u0_3, u0_4]] := Sep.step (A := []) (L := [boxO bb2 [(.int .i64 a1)], boxO bb1 [(.int .i64 a0_0), (.int .i64 a0_1), (.bool a0_2), u0_3, u0_4]]) S_2 (Mod.size X_2) MT_3 T_3
  refine RL.op _ (by decide) (opS_boxed (opv_box1 rfl rfl (IsF.one g3))) ?_
  rintro _ hp4 ⟨bb4, rfl, MT_4, T_4⟩
  have X_4 : Mod [] h0 hp4 := Mod.step (A := []) (L := [boxO bb3 [(.int .i64 a2)], boxO bb2 [(.int .i64 a1)], boxO bb1 [(.int .i64 a0_0), (.int .i64 a0_1), (.bool a0_2), u0_3, u0_4]]) X_3 S_3 MT_4
  have S_4 : Sep [] h0.size hp4 [boxO bb4 [u3], boxO bb3 [(.int .i64 a2)], boxO bb2 [(.int .i64 a1)], boxO bb1 [(.int .i64 a0_0), (.int .i64 a0_1), (.bool a0_2), u0_3, u0_4]] := Sep.step (A := []) (L := [boxO bb3 [(.int .i64 a2)], boxO bb2 [(.int .i64 a1)], boxO bb1 [(.int .i64 a0_0), (.int .i64 a0_1), (.bool a0_2), u0_3, u0_4]]) S_3 (Mod.size X_3) MT_4 T_4
  refine RL.op _ (by decide) (opS_boxed (opv_alloc (cs := [(.slice none 0 0), (.slice none 0 0), (.slice none 0 0)]) rfl Try.zero28 rfl)) ?_
  rintro _ hp5 ⟨bb5, rfl, MT_5, T_5⟩
  have X_5 : Mod [] h0 hp5 := Mod.step (A := []) (L := [boxO bb4 [u3], boxO bb3 [(.int .i64 a2)], boxO bb2 [(.int .i64 a1)], boxO bb1 [(.int .i64 a0_0), (.int .i64 a0_1), (.bool a0_2), u0_3, u0_4]]) X_4 S_4 MT_5
  have S_5 : Sep [] h0.size hp5 [boxO bb5 [(.slice none 0 0), (.slice none 0 0), (.slice none 0 0)], boxO bb4 [u3], boxO bb3 [(.int .i64 a2)], boxO bb2 [(.int .i64 a1)], boxO bb1 [(.int .i64 a0_0), (.int .i64 a0_1), (.bool a0_2), u0_3, u0_4]] := Sep.step (A := []) (L := [boxO bb4 [u3], boxO bb3 [(.int .i64 a2)], boxO bb2 [(.int .i64 a1)], boxO bb1 [(.int .i64 a0_0), (.int .i64 a0_1), (.bool a0_2), u0_3, u0_4]]) S_4 (Mod.size X_4) MT_5 T_5
  refine RL.nil ?_
  refine thnN ?_
  refine W.seq ?_
  obtain ⟨x1, hx1, hp⟩ := Option.bind_eq_some_iff.1 hp
  refine W.region ?_
  refine RL.opD (by decide) (opv_loadA (us := [(.int .i64 a0_0), (.int .i64 a0_1), (.bool a0_2), u0_3, u0_4]) rfl Try.agg31 Try.size31 rfl (Sep.at (o := boxO bb1 [(.int .i64 a0_0), (.int .i64 a0_1), (.bool a0_2), u0_3, u0_4]) S_5 4 rfl) rfl rfl) ?_
  refine RL.op _ (by decide) (opv_call (cap := []) (impl_zeroField_ok _ _ _ _ _ _ (SL.up (SL.mod g0_3 X_5 (Nat.le_refl _) nob) (Nat.le_trans (Nat.le_refl _) (Mod.size X_5))) _ _ (SL.up (SL.mod g0_4 X_5 (Nat.le_refl _) nob) (Nat.le_trans (Nat.le_refl _) (Mod.size X_5))) _ hx1) rfl rfl ⟨rfl, trivial⟩ Try.func130 rfl rfl) ?_
  rintro _ hp6 ⟨v1, v2, v3, rfl, MT_6, T_6⟩
  have X_6 : Mod [] h0 hp6 := Mod.step (A := []) (L := [boxO bb5 [(.slice none 0 0), (.slice none 0 0), (.slice none 0 0)], boxO bb4 [u3], boxO bb3 [(.int .i64 a2)], boxO bb2 [(.int .i64 a1)], boxO bb1 [(.int .i64 a0_0), (.int .i64 a0_1), (.bool a0_2), u0_3, u0_4]]) X_5 S_5 MT_6
  have S_6 : Sep [] h0.size hp6 [ownO (kF .f32) 25 v1 x1.1, ownO (kF .f32) 25 v2 x1.2.1, ownO (kF .f32) 25 v3 x1.2.2, boxO bb5 [(.slice none 0 0), (.slice none 0 0), (.slice none 0 0)], boxO bb4 [u3], boxO bb3 [(.int .i64 a2)], boxO bb2 [(.int .i64 a1)], boxO bb1 [(.int .i64 a0_0), (.int .i64 a0_1), (.bool a0_2), u0_3, u0_4]] := Sep.step (A := []) (L := [boxO bb5 [(.slice none 0 0), (.slice none 0 0), (.slice none 0 0)], boxO bb4 [u3], boxO bb3 [(.int .i64 a2)], boxO bb2 [(.int .i64 a1)], boxO bb1 [(.int .i64 a0_0), (.int .i64 a0_1), (.bool a0_2), u0_3, u0_4]]) S_5 (Mod.size X_5) MT_6 T_6
  refine RL.op _ (by decide) (opS_boxed (opv_alloc (cs := [(.slice none 0 0), (.slice none 0 0), (.slice none 0 0)]) rfl Try.zero28 rfl)) ?_
  rintro _ hp7 ⟨bb6, rfl, MT_7, T_7⟩
  have X_7 : Mod [] h0 hp7 := Mod.step (A := []) (L := [ownO (kF .f32) 25 v1 x1.1, ownO (kF .f32) 25 v2 x1.2.1, ownO (kF .f32) 25 v3 x1.2.2, boxO bb5 [(.slice none 0 0), (.slice none 0 0), (.slice none 0 0)], boxO bb4 [u3], boxO bb3 [(.int .i64 a2)], boxO bb2 [(.int .i64 a1)], boxO bb1 [(.int .i64 a0_0), (.int .i64 a0_1), (.bool a0_2), u0_3, u0_4]]) X_6 S_6 MT_7
  have S_7 : Sep [] h0.size hp7 [boxO bb6 [(.slice none 0 0), (.slice none 0 0), (.slice none 0 0)], ownO (kF .f32) 25 v1 x1.1, ownO (kF .f32) 25 v2 x1.2.1, ownO (kF .f32) 25 v3 x1.2.2, boxO bb5 [(.slice none 0 0), (.slice none 0 0), (.slice none 0 0)], boxO bb4 [u3], boxO bb3 [(.int .i64 a2)], boxO bb2 [(.int .i64 a1)], boxO bb1 [(.int .i64 a0_0), (.int .i64 a0_1), (.bool a0_2), u0_3, u0_4]] := Sep.step (A := []) (L := [ownO (kF .f32) 25 v1 x1.1, ownO (kF .f32) 25 v2 x1.2.1, ownO (kF .f32) 25 v3 x1.2.2, boxO bb5 [(.slice none 0 0), (.slice none 0 0), (.slice none 0 0)], boxO bb4 [u3], boxO bb3 [(.int .i64 a2)], boxO bb2 [(.int .i64 a1)], boxO bb1 [(.int .i64 a0_0), (.int .i64 a0_1), (.bool a0_2), u0_3, u0_4]]) S_6 (Mod.size X_6) MT_7 T_7
  refine RL.op0 _ (opS_stored (cs := [(.slice none 0 0), (.slice none 0 0), (.slice none 0 0)]) (cs' := [v1, v2, v3]) (opv_storeA (us := [v1, v2, v3]) rfl Try.size28 rfl rfl (oneAll (ownO.one (Sep.at (o := ownO (kF .f32) 25 v1 x1.1) S_7 1 rfl)) (oneAll (ownO.one (Sep.at (o := ownO (kF .f32) 25 v2 x1.2.1) S_7 2 rfl)) (oneAll (ownO.one (Sep.at (o := ownO (kF .f32) 25 v3 x1.2.2) S_7 3 rfl)) rfl))) (Sep.at (o := boxO bb6 [(.slice none 0 0), (.slice none 0 0), (.slice none 0 0)]) S_7 0 rfl) rfl rfl) (Sep.at (o := boxO bb6 [(.slice none 0 0), (.slice none 0 0), (.slice none 0 0)]) S_7 0 rfl)) ?_
  rintro _ hp8 ⟨rfl, MT_8, T_8⟩
  have S_8 : Sep [] h0.size hp7 ([boxO bb6 [(.slice none 0 0), (.slice none 0 0), (.slice none 0 0)]] ++ [ownO (kF .f32) 25 v1 x1.1, ownO (kF .f32) 25 v2 x1.2.1, ownO (kF .f32) 25 v3 x1.2.2, boxO bb5 [(.slice none 0 0), (.slice none 0 0), (.slice none 0 0)], boxO bb4 [u3], boxO bb3 [(.int .i64 a2)], boxO bb2 [(.int .i64 a1)], boxO bb1 [(.int .i64 a0_0), (.int .i64 a0_1), (.bool a0_2), u0_3, u0_4]]) := Sep.sel S_7 [0, 1, 2, 3, 4, 5, 6, 7, 8] (by decide)
  have X_8 : Mod [] h0 hp8 := Mod.step (A := [boxO bb6 [(.slice none 0 0), (.slice none 0 0), (.slice none 0 0)]]) (L := [ownO (kF .f32) 25 v1 x1.1, ownO (kF .f32) 25 v2 x1.2.1, ownO (kF .f32) 25 v3 x1.2.2, boxO bb5 [(.slice none 0 0), (.slice none 0 0), (.slice none 0 0)], boxO bb4 [u3], boxO bb3 [(.int .i64 a2)], boxO bb2 [(.int .i64 a1)], boxO bb1 [(.int .i64 a0_0), (.int .i64 a0_1), (.bool a0_2), u0_3, u0_4]]) X_7 S_8 MT_8
  have S_9 : Sep [] h0.size hp8 [boxO bb6 [v1, v2, v3], ownO (kF .f32) 25 v1 x1.1, ownO (kF .f32) 25 v2 x1.2.1, ownO (kF .f32) 25 v3 x1.2.2, boxO bb5 [(.slice none 0 0), (.slice none 0 0), (.slice none 0 0)], boxO bb4 [u3], boxO bb3 [(.int .i64 a2)], boxO bb2 [(.int .i64 a1)], boxO bb1 [(.int .i64 a0_0), (.int .i64 a0_1), (.bool a0_2), u0_3, u0_4]] := Sep.step (A := [boxO bb6 [(.slice none 0 0), (.slice none 0 0), (.slice none 0 0)]]) (L := [ownO (kF .f32) 25 v1 x1.1, ownO (kF .f32) 25 v2 x1.2.1, ownO (kF .f32) 25 v3 x1.2.2, boxO bb5 [(.slice none 0 0), (.slice none 0 0), (.slice none 0 0)], boxO bb4 [u3], boxO bb3 [(.int .i64 a2)], boxO bb2 [(.int .i64 a1)], boxO bb1 [(.int .i64 a0_0), (.int .i64 a0_1), (.bool a0_2), u0_3, u0_4]]) S_8 (Mod.size X_7) MT_8 T_8
  refine RL.nil ?_
  refine thnN ?_
  refine W.seq ?_
  obtain ⟨x2, hx2, hp⟩ := Option.bind_eq_some_iff.1 hp
  refine W.region ?_
  refine RL.opD (by decide) (opv_loadA (us := [(.int .i64 a0_0), (.int .i64 a0_1), (.bool a0_2), u0_3, u0_4]) rfl Try.agg31 Try.size31 rfl (Sep.at (o := boxO bb1 [(.int .i64 a0_0), (.int .i64 a0_1), (.bool a0_2), u0_3, u0_4]) S_9 8 rfl) rfl rfl) ?_
  refine RL.opD (by decide) (opv_makeFunc (vs := [(.pointer (some ⟨bb1, 0, none⟩)), (.pointer (some ⟨bb4, 0, none⟩)), (.pointer (some ⟨bb2, 0, none⟩)), (.pointer (some ⟨bb3, 0, none⟩)), (.pointer (some ⟨bb6, 0, none⟩))]) rfl ⟨rfl, rfl, rfl, rfl, rfl, trivial⟩) ?_
  have S_11 : Sep [] h0.size hp8 [boxO bb1 [(.int .i64 a0_0), (.int .i64 a0_1), (.bool a0_2), u0_3, u0_4], boxO bb4 [u3], boxO bb2 [(.int .i64 a1)], boxO bb3 [(.int .i64 a2)], boxO bb6 [v1, v2, v3], ownO (kF .f32) 25 v1 x1.1, ownO (kF .f32) 25 v2 x1.2.1, ownO (kF .f32) 25 v3 x1.2.2] := Sep.sel S_9 [8, 5, 7, 6, 0, 1, 2, 3] (by decide)
  have S_10 : Sep [some bb1, some bb4, some bb2, some bb3, some bb6, v1.ownBlock, v2.ownBlock, v3.ownBlock] hp8.size hp8 [boxO bb1 [(.int .i64 a0_0), (.int .i64 a0_1), (.bool a0_2), u0_3, u0_4], boxO bb4 [u3], boxO bb2 [(.int .i64 a1)], boxO bb3 [(.int .i64 a2)], boxO bb6 [v1, v2, v3], ownO (kF .f32) 25 v1 x1.1, ownO (kF .f32) 25 v2 x1.2.1, ownO (kF .f32) 25 v3 x1.2.2] := Sep.own S_11 _
  refine RL.op _ (by decide) (opv_call (cap := []) (impl_Sheet_each__impl_modeField_1_ok _ h0.size (Nat.le_trans (Nat.le_refl _) (Mod.size X_8)) _ _ _ _ _ (SL.mod g0_3 X_8 (Nat.le_refl _) nob) _ _ (SL.mod g0_4 X_8 (Nat.le_refl _) nob) _ _ _ _ _ _ (SL.mod g0_3 X_8 (Nat.le_refl _) nob) _ _ (SL.mod g0_4 X_8 (Nat.le_refl _) nob) _ _ _ g3 _ _ _ _ _ _ _ _ _ _ _ S_10 (Sep.ge (L := [boxO bb1 [(.int .i64 a0_0), (.int .i64 a0_1), (.bool a0_2), u0_3, u0_4], boxO bb4 [u3], boxO bb2 [(.int .i64 a1)], boxO bb3 [(.int .i64 a2)], boxO bb6 [v1, v2, v3], ownO (kF .f32) 25 v1 x1.1, ownO (kF .f32) 25 v2 x1.2.1, ownO (kF .f32) 25 v3 x1.2.2]) S_11 (Nat.le_refl _) nob) _ hx2) rfl rfl ⟨rfl, rfl, trivial⟩ Try.func79 rfl rfl) ?_
  rintro _ hp9 ⟨v4, rfl, fv4, MT_9, T_9⟩
  have S_12 : Sep [] h0.size hp8 ([boxO bb1 [(.int .i64 a0_0), (.int .i64 a0_1), (.bool a0_2), u0_3, u0_4], boxO bb4 [u3], boxO bb2 [(.int .i64 a1)], boxO bb3 [(.int .i64 a2)], boxO bb6 [v1, v2, v3], ownO (kF .f32) 25 v1 x1.1, ownO (kF .f32) 25 v2 x1.2.1, ownO (kF .f32) 25 v3 x1.2.2] ++ [boxO bb5 [(.slice none 0 0), (.slice none 0 0), (.slice none 0 0)]]) := Sep.sel S_9 [8, 5, 7, 6, 0, 1, 2, 3, 4] (by decide)
  have X_9 : Mod [] h0 hp9 := Mod.step (A := [boxO bb1 [(.int .i64 a0_0), (.int .i64 a0_1), (.bool a0_2), u0_3, u0_4], boxO bb4 [u3], boxO bb2 [(.int .i64 a1)], boxO bb3 [(.int .i64 a2)], boxO bb6 [v1, v2, v3], ownO (kF .f32) 25 v1 x1.1, ownO (kF .f32) 25 v2 x1.2.1, ownO (kF .f32) 25 v3 x1.2.2]) (L := [boxO bb5 [(.slice none 0 0), (.slice none 0 0), (.slice none 0 0)]]) X_8 S_12 MT_9
  have S_13 : Sep [] h0.size hp9 [boxO bb1 [(.int .i64 x2.1), (.int .i64 x2.2.1), (.bool x2.2.2.1), u0_3, u0_4], boxO bb4 [v4], boxO bb2 [(.int .i64 x2.2.2.2.2.1)], boxO bb3 [(.int .i64 x2.2.2.2.2.2.1)], boxO bb6 [v1, v2, v3], ownO (kF .f32) 25 v1 x2.2.2.2.2.2.2.1, ownO (kF .f32) 25 v2 x2.2.2.2.2.2.2.2.1, ownO (kF .f32) 25 v3 x2.2.2.2.2.2.2.2.2, boxO bb5 [(.slice none 0 0), (.slice none 0 0), (.slice none 0 0)]] := Sep.step (A := [boxO bb1 [(.int .i64 a0_0), (.int .i64 a0_1), (.bool a0_2), u0_3, u0_4], boxO bb4 [u3], boxO bb2 [(.int .i64 a1)], boxO bb3 [(.int .i64 a2)], boxO bb6 [v1, v2, v3], ownO (kF .f32) 25 v1 x1.1, ownO (kF .f32) 25 v2 x1.2.1, ownO (kF .f32) 25 v3 x1.2.2]) (L := [boxO bb5 [(.slice none 0 0), (.slice none 0 0), (.slice none 0 0)]]) S_12 (Mod.size X_8) MT_9 T_9
  refine RL.nil ?_
  refine thnN ?_
  refine W.seq ?_
  refine W.region ?_
  refine RL.opD (by decide) (opv_loadA (us := [v1, v2, v3]) rfl Try.agg28 Try.size28 rfl (Sep.at (o := boxO bb6 [v1, v2, v3]) S_13 4 rfl) rfl rfl) ?_
  refine RL.op0 _ (opS_stored (cs := [(.slice none 0 0), (.slice none 0 0), (.slice none 0 0)]) (cs' := [v1, v2, v3]) (opv_storeA (us := [v1, v2, v3]) rfl Try.size28 rfl rfl (oneAll (ownO.one (Sep.at (o := ownO (kF .f32) 25 v1 x2.2.2.2.2.2.2.1) S_13 5 rfl)) (oneAll (ownO.one (Sep.at (o := ownO (kF .f32) 25 v2 x2.2.2.2.2.2.2.2.1) S_13 6 rfl)) (oneAll (ownO.one (Sep.at (o := ownO (kF .f32) 25 v3 x2.2.2.2.2.2.2.2.2) S_13 7 rfl)) rfl))) (Sep.at (o := boxO bb5 [(.slice none 0 0), (.slice none 0 0), (.slice none 0 0)]) S_13 8 rfl) rfl rfl) (Sep.at (o := boxO bb5 [(.slice none 0 0), (.slice none 0 0), (.slice none 0 0)]) S_13 8 rfl)) ?_
  rintro _ hp10 ⟨rfl, MT_10, T_10⟩
  have S_14 : Sep [] h0.size hp9 ([boxO bb5 [(.slice none 0 0), (.slice none 0 0), (.slice none 0 0)]] ++ [boxO bb1 [(.int .i64 x2.1), (.int .i64 x2.2.1), (.bool x2.2.2.1), u0_3, u0_4], boxO bb4 [v4], boxO bb2 [(.int .i64 x2.2.2.2.2.1)], boxO bb3 [(.int .i64 x2.2.2.2.2.2.1)], boxO bb6 [v1, v2, v3], ownO (kF .f32) 25 v1 x2.2.2.2.2.2.2.1, ownO (kF .f32) 25 v2 x2.2.2.2.2.2.2.2.1, ownO (kF .f32) 25 v3 x2.2.2.2.2.2.2.2.2]) := Sep.sel S_13 [8, 0, 1, 2, 3, 4, 5, 6, 7] (by decide)
  have X_10 : Mod [] h0 hp10 := Mod.step (A := [boxO bb5 [(.slice none 0 0), (.slice none 0 0), (.slice none 0 0)]]) (L := [boxO bb1 [(.int .i64 x2.1), (.int .i64 x2.2.1), (.bool x2.2.2.1), u0_3, u0_4], boxO bb4 [v4], boxO bb2 [(.int .i64 x2.2.2.2.2.1)], boxO bb3 [(.int .i64 x2.2.2.2.2.2.1)], boxO bb6 [v1, v2, v3], ownO (kF .f32) 25 v1 x2.2.2.2.2.2.2.1, ownO (kF .f32) 25 v2 x2.2.2.2.2.2.2.2.1, ownO (kF .f32) 25 v3 x2.2.2.2.2.2.2.2.2]) X_9 S_14 MT_10
  have S_15 : Sep [] h0.size hp10 [boxO bb5 [v1, v2, v3], boxO bb1 [(.int .i64 x2.1), (.int .i64 x2.2.1), (.bool x2.2.2.1), u0_3, u0_4], boxO bb4 [v4], boxO bb2 [(.int .i64 x2.2.2.2.2.1)], boxO bb3 [(.int .i64 x2.2.2.2.2.2.1)], boxO bb6 [v1, v2, v3], ownO (kF .f32) 25 v1 x2.2.2.2.2.2.2.1, ownO (kF .f32) 25 v2 x2.2.2.2.2.2.2.2.1, ownO (kF .f32) 25 v3 x2.2.2.2.2.2.2.2.2] := Sep.step (A := [boxO bb5 [(.slice none 0 0), (.slice none 0 0), (.slice none 0 0)]]) (L := [boxO bb1 [(.int .i64 x2.1), (.int .i64 x2.2.1), (.bool x2.2.2.1), u0_3, u0_4], boxO bb4 [v4], boxO bb2 [(.int .i64 x2.2.2.2.2.1)], boxO bb3 [(.int .i64 x2.2.2.2.2.2.1)], boxO bb6 [v1, v2, v3], ownO (kF .f32) 25 v1 x2.2.2.2.2.2.2.1, ownO (kF .f32) 25 v2 x2.2.2.2.2.2.2.2.1, ownO (kF .f32) 25 v3 x2.2.2.2.2.2.2.2.2]) S_14 (Mod.size X_9) MT_10 T_10
  refine RL.nil ?_
  refine thnN ?_
  refine W.ret ?_
  have er := Option.some.inj hp
  subst er
  exact Rt.cell1 rfl rfl Try.agg28 Try.size28 (Sep.at (o := boxO bb5 [v1, v2, v3]) S_15 0 rfl) rfl ⟨v1, v2, v3, rfl, X_10, (Sep.sel S_15 [6, 7, 8] (by decide))⟩

set_option maxRecDepth 20000 in
theorem impl_ModeField_ok (h0 : Heap) (a0_0 : Int) (a0_1 : Int) (a0_2 : Bool) (u0_3 : Value) (a0_3 : List (Option Nat)) (g0_3 : SL (kF .f32) h0.size h0 u0_3 a0_3) (u0_4 : Value) (a0_4 : List (Option Nat)) (g0_4 : SL (kF .f32) h0.size h0 u0_4 a0_4) (a1 : Int) (a2 : Int) (u3 : Value) (a3 : Option Nat) (g3 : IsF .f32 u3 a3) (r : ((List (Option Nat)) × (List (Option Nat)) × (List (Option Nat)) × Bool)) (hp : impl_ModeField a0_0 a0_1 a0_2 a0_3 a0_4 a1 a2 a3 = some r) : CallsH Try.prog 15 ([(.agg (List.toArray (α := Value) [(.int .i64 a0_0), (.int .i64 a0_1), (.bool a0_2), u0_3, u0_4])), (.int .i64 a1), (.int .i64 a2), u3].toArray ++ [].toArray) h0 (fun v h' => ∃ w0, ∃ w1, ∃ w2, v = (.tuple (List.toArray (α := Value) [(.agg (List.toArray (α := Value) [w0, w1, w2])), (.bool r.2.2.2)])) ∧ Mod [] h0 h' ∧ Sep [] h0.size h' [ownO (kF .f32) 25 w0 r.1, ownO (kF .f32) 25 w1 r.2.1, ownO (kF .f32) 25 w2 r.2.2.1]) := by
  unfold impl_ModeField at hp
  refine callsH_of_W (l := [(.agg (List.toArray (α := Value) [(.int .i64 a0_0), (.int .i64 a0_1), (.bool a0_2), u0_3, u0_4])), (.int .i64 a1), (.int .i64 a2), u3]) (cap := []) 26 Try.func15 rfl rfl rfl ?_
  refine W.seq ?_
  refine W.region ?_
  refine RL.op _ (by decide) (opS_boxed (opv_boxA (cs := [(.int .i64 a0_0), (.int .i64 a0_1), (.bool a0_2), u0_3, u0_4]) rfl rfl)) ?_
  rintro _ hp1 ⟨bb1, rfl, MT_1, T_1⟩
  have X_1 : Mod [] h0 hp1 := Mod.step (A := []) (L := []) (Mod.refl [] h0) (Sep.nil [] h0.size h0) MT_1
  have S_1 : Sep [] h0.size hp1 [boxO bb1 [(.int .i64 a0_0), (.int .i64 a0_1), (.bool a0_2), u0_3, u0_4]] := Sep.step (A := []) (L := []) (Sep.nil [] h0.size h0) (Mod.size (Mod.refl [] h0)) MT_1 T_1
  refine RL.op _ (by decide) (opS_boxed (opv_alloc (cs := [(.slice none 0 0), (.slice none 0 0), (.slice none 0 0)]) rfl Try.zero28 rfl)) ?_
  rintro _ hp2 ⟨bb2, rfl, MT_2, T_2⟩
  have X_2 : Mod [] h0 hp2 := Mod.step (A := []) (L := [boxO bb1 [(.int .i64 a0_0), (.int .i64 a0_1), (.bool a0_2), u0_3, u0_4]]) X_1 S_1 MT_2
  have S_2 : Sep [] h0.size hp2 [boxO bb2 [(.slice none 0 0), (.slice none 0 0), (.slice none 0 0)], boxO bb1 [(.int .i64 a0_0), (.int .i64 a0_1), (.bool a0_2), u0_3, u0_4]] := Sep.step (A := []) (L := [boxO bb1 [(.int .i64 a0_0), (.int .i64 a0_1), (.bool a0_2), u0_3, u0_4]]) S_1 (Mod.size X_1) MT_2 T_2
  refine RL.opD (by decide) (opv_assign rfl rfl) ?_
  refine RL.nil ?_
  refine thnN ?_
  refine W.seq ?_
  refine W.seq ?_
  obtain ⟨x1, hy1, hp⟩ := Option.bind_eq_some_iff.1 hp
  refine W.cut (fun φ' h' => Fr.sub [(0, (.agg (List.toArray (α := Value) [(.int .i64 a0_0), (.int .i64 a0_1), (.bool a0_2), u0_3, u0_4]))), (1, (.int .i64 a1)), (2, (.int .i64 a2)), (3, u3), (4, (.pointer (some ⟨bb1, 0, none⟩))), (8, (.pointer (some ⟨bb2, 0, none⟩))), (9, (.bool false)), (19, (.bool x1))] φ' ∧ Mod [] h0 h' ∧ Sep [] h0.size h' [boxO bb2 [(.slice none 0 0), (.slice none 0 0), (.slice none 0 0)], boxO bb1 [(.int .i64 a0_0), (.int .i64 a0_1), (.bool a0_2), u0_3, u0_4]]) ?_ ?_
  · obtain ⟨x2, hx2, hy1⟩ := Option.bind_eq_some_iff.1 hy1
    by_cases c1 : (!x2) = true
    · rw [if_pos c1] at hy1
      refine W.region ?_
      refine RL.opD (by decide) (opv_loadA (us := [(.int .i64 a0_0), (.int .i64 a0_1), (.bool a0_2), u0_3, u0_4]) rfl Try.agg31 Try.size31 rfl (Sep.at (o := boxO bb1 [(.int .i64 a0_0), (.int .i64 a0_1), (.bool a0_2), u0_3, u0_4]) S_2 1 rfl) rfl rfl) ?_
      refine RL.opD (by decide) (opv_move rfl rfl) ?_
      refine RL.opD (by decide) (opv_move rfl rfl) ?_
      refine RL.op _ (by decide) (opv_call (cap := []) (impl_isMode_ok _ _ _ _ _ _ (SL.up (SL.mod g0_3 X_2 (Nat.le_refl _) nob) (Nat.le_trans (Nat.le_refl _) (Mod.size X_2))) _ _ (SL.up (SL.mod g0_4 X_2 (Nat.le_refl _) nob) (Nat.le_trans (Nat.le_refl _) (Mod.size X_2))) _ _ _ hx2) rfl rfl ⟨rfl, rfl, rfl, trivial⟩ Try.func71 rfl rfl) ?_
      rintro _ hp3 ⟨rfl, MT_3, T_3⟩
      have X_3 : Mod [] h0 hp3 := Mod.step (A := []) (L := [boxO bb2 [(.slice none 0 0), (.slice none 0 0), (.slice none 0 0)], boxO bb1 [(.int .i64 a0_0), (.int .i64 a0_1), (.bool a0_2), u0_3, u0_4]]) X_2 S_2 MT_3
      have S_3 : Sep [] h0.size hp3 [boxO bb2 [(.slice none 0 0), (.slice none 0 0), (.slice none 0 0)], boxO bb1 [(.int .i64 a0_0), (.int .i64 a0_1), (.bool a0_2), u0_3, u0_4]] := Sep.step (A := []) (L := [boxO bb2 [(.slice none 0 0), (.slice none 0 0), (.slice none 0 0)], boxO bb1 [(.int .i64 a0_0), (.int .i64 a0_1), (.bool a0_2), u0_3, u0_4]]) S_2 (Mod.size X_2) MT_3 T_3
      refine RL.opD (by decide) (opv_not rfl rfl) ?_
      refine RL.opD (by decide) (opv_move rfl rfl) ?_
      refine RL.no rfl rfl (Eq.trans c1 (by decide)) (by decide) ?_
      refine RL.no rfl rfl (Eq.trans c1 (by decide)) (by decide) ?_
      refine RL.no rfl rfl (Eq.trans c1 (by decide)) (by decide) ?_
      refine RL.opD (by decide) (opv_pick rfl rfl (fun _ => rfl) (fun e => absurd (Eq.trans (Eq.symm e) c1) (by decide)) rfl) ?_
      refine RL.nil ?_
      have ey1 := Option.some.inj hy1
      subst ey1
      refine onlyN ?_
      exact ⟨⟨rfl, rfl, rfl, rfl, rfl, rfl, rfl, rfl, trivial⟩, X_3, (Sep.sel S_3 [0, 1] (by decide))⟩
    · rw [if_neg c1] at hy1
      have c1 := eq_false_of_ne_true c1
      obtain ⟨x3, hx3, hy1⟩ := Option.bind_eq_some_iff.1 hy1
      refine W.region ?_
      refine RL.opD (by decide) (opv_loadA (us := [(.int .i64 a0_0), (.int .i64 a0_1), (.bool a0_2), u0_3, u0_4]) rfl Try.agg31 Try.size31 rfl (Sep.at (o := boxO bb1 [(.int .i64 a0_0), (.int .i64 a0_1), (.bool a0_2), u0_3, u0_4]) S_2 1 rfl) rfl rfl) ?_
      refine RL.opD (by decide) (opv_move rfl rfl) ?_
      refine RL.opD (by decide) (opv_move rfl rfl) ?_
      refine RL.op _ (by decide) (opv_call (cap := []) (impl_isMode_ok _ _ _ _ _ _ (SL.up (SL.mod g0_3 X_2 (Nat.le_refl _) nob) (Nat.le_trans (Nat.le_refl _) (Mod.size X_2))) _ _ (SL.up (SL.mod g0_4 X_2 (Nat.le_refl _) nob) (Nat.le_trans (Nat.le_refl _) (Mod.size X_2))) _ _ _ hx2) rfl rfl ⟨rfl, rfl, rfl, trivial⟩ Try.func71 rfl rfl) ?_
      rintro _ hp3 ⟨rfl, MT_3, T_3⟩
      have X_3 : Mod [] h0 hp3 := Mod.step (A := []) (L := [boxO bb2 [(.slice none 0 0), (.slice none 0 0), (.slice none 0 0)], boxO bb1 [(.int .i64 a0_0), (.int .i64 a0_1), (.bool a0_2), u0_3, u0_4]]) X_2 S_2 MT_3
      have S_3 : Sep [] h0.size hp3 [boxO bb2 [(.slice none 0 0), (.slice none 0 0), (.slice none 0 0)], boxO bb1 [(.int .i64 a0_0), (.int .i64 a0_1), (.bool a0_2), u0_3, u0_4]] := Sep.step (A := []) (L := [boxO bb2 [(.slice none 0 0), (.slice none 0 0), (.slice none 0 0)], boxO bb1 [(.int .i64 a0_0), (.int .i64 a0_1), (.bool a0_2), u0_3, u0_4]]) S_2 (Mod.size X_2) MT_3 T_3
      refine RL.opD (by decide) (opv_not rfl rfl) ?_
      refine RL.opD (by decide) (opv_move rfl rfl) ?_
      refine RL.yes _ rfl rfl c1 (by decide) (opv_move rfl rfl) ?_
      rintro _ _ ⟨rfl, rfl⟩
      refine RL.yes _ rfl rfl c1 (by decide) (opv_call (cap := []) (impl_IsFinite_ok _ _ _ g3 _ hx3) rfl rfl ⟨rfl, trivial⟩ Try.func72 rfl rfl) ?_
      rintro _ _ ⟨rfl, rfl⟩
      refine RL.yes _ rfl rfl c1 (by decide) (opv_not rfl rfl) ?_
      rintro _ _ ⟨rfl, rfl⟩
      refine RL.opD (by decide) (opv_pick rfl rfl (fun e => absurd (Eq.trans (Eq.symm e) c1) (by decide)) (fun _ => rfl) rfl) ?_
      refine RL.nil ?_
      have ey1 := Option.some.inj hy1
      subst ey1
      refine onlyN ?_
      exact ⟨⟨rfl, rfl, rfl, rfl, rfl, rfl, rfl, rfl, trivial⟩, X_3, (Sep.sel S_3 [0, 1] (by decide))⟩
  rintro φ' hp4 ⟨hs1, X_4, S_4⟩
  refine thnN ?_
  refine W.sub hs1 ?_
  by_cases c2 : x1 = true
  · rw [if_pos c2] at hp
    refine W.condT rfl c2 ?_
    refine W.seq ?_
    refine W.region ?_
    refine RL.opD (by decide) (opv_build (cs := [(.slice none 0 0), (.slice none 0 0), (.slice none 0 0)]) [] [] rfl Try.bd28 trivial rfl) ?_
    refine RL.op0 _ (opS_stored (cs := [(.slice none 0 0), (.slice none 0 0), (.slice none 0 0)]) (cs' := [(.slice none 0 0), (.slice none 0 0), (.slice none 0 0)]) (opv_storeA (us := [(.slice none 0 0), (.slice none 0 0), (.slice none 0 0)]) rfl Try.size28 rfl rfl (oneAll rfl (oneAll rfl (oneAll rfl rfl))) (Sep.at (o := boxO bb2 [(.slice none 0 0), (.slice none 0 0), (.slice none 0 0)]) S_4 0 rfl) rfl rfl) (Sep.at (o := boxO bb2 [(.slice none 0 0), (.slice none 0 0), (.slice none 0 0)]) S_4 0 rfl)) ?_
    rintro _ hp5 ⟨rfl, MT_4, T_4⟩
    have S_5 : Sep [] h0.size hp4 ([boxO bb2 [(.slice none 0 0), (.slice none 0 0), (.slice none 0 0)]] ++ [boxO bb1 [(.int .i64 a0_0), (.int .i64 a0_1), (.bool a0_2), u0_3, u0_4]]) := Sep.sel S_4 [0, 1] (by decide)
    have X_5 : Mod [] h0 hp5 := Mod.step (A := [boxO bb2 [(.slice none 0 0), (.slice none 0 0), (.slice none 0 0)]]) (L := [boxO bb1 [(.int .i64 a0_0), (.int .i64 a0_1), (.bool a0_2), u0_3, u0_4]]) X_4 S_5 MT_4
    have S_6 : Sep [] h0.size hp5 [boxO bb2 [(.slice none 0 0), (.slice none 0 0), (.slice none 0 0)], boxO bb1 [(.int .i64 a0_0), (.int .i64 a0_1), (.bool a0_2), u0_3, u0_4]] := Sep.step (A := [boxO bb2 [(.slice none 0 0), (.slice none 0 0), (.slice none 0 0)]]) (L := [boxO bb1 [(.int .i64 a0_0), (.int .i64 a0_1), (.bool a0_2), u0_3, u0_4]]) S_5 (Mod.size X_4) MT_4 T_4
    refine RL.opD (by decide) (opv_assign rfl rfl) ?_
    refine RL.nil ?_
    refine thnN ?_
    refine W.ret ?_
    refine thnR ?_
    have S_7 : Sep [] h0.size hp5 [ownO (kF .f32) 25 (.slice none 0 0) ([] : List (Option Nat)), boxO bb2 [(.slice none 0 0), (.slice none 0 0), (.slice none 0 0)], boxO bb1 [(.int .i64 a0_0), (.int .i64 a0_1), (.bool a0_2), u0_3, u0_4]] := Sep.addNil S_6
    have S_8 : Sep [] h0.size hp5 [ownO (kF .f32) 25 (.slice none 0 0) ([] : List (Option Nat)), ownO (kF .f32) 25 (.slice none 0 0) ([] : List (Option Nat)), boxO bb2 [(.slice none 0 0), (.slice none 0 0), (.slice none 0 0)], boxO bb1 [(.int .i64 a0_0), (.int .i64 a0_1), (.bool a0_2), u0_3, u0_4]] := Sep.addNil S_7
    have S_9 : Sep [] h0.size hp5 [ownO (kF .f32) 25 (.slice none 0 0) ([] : List (Option Nat)), ownO (kF .f32) 25 (.slice none 0 0) ([] : List (Option Nat)), ownO (kF .f32) 25 (.slice none 0 0) ([] : List (Option Nat)), boxO bb2 [(.slice none 0 0), (.slice none 0 0), (.slice none 0 0)], boxO bb1 [(.int .i64 a0_0), (.int .i64 a0_1), (.bool a0_2), u0_3, u0_4]] := Sep.addNil S_8
    have er := Option.some.inj hp
    subst er
    exact Rt.cellA rfl rfl rfl Try.agg28 Try.size28 (Sep.at (o := boxO bb2 [(.slice none 0 0), (.slice none 0 0), (.slice none 0 0)]) S_9 3 rfl) rfl ⟨(.slice none 0 0), (.slice none 0 0), (.slice none 0 0), rfl, X_5, (Sep.sel S_9 [2, 1, 0] (by decide))⟩
  · rw [if_neg c2] at hp
    have c2 := eq_false_of_ne_true c2
    refine W.condF rfl c2 ?_
    refine W.skip ?_
    refine thnN ?_
    refine W.seq ?_
    obtain ⟨x4, hx4, hp⟩ := Option.bind_eq_some_iff.1 hp
    refine W.region ?_
    refine RL.opD (by decide) (opv_loadA (us := [(.int .i64 a0_0), (.int .i64 a0_1), (.bool a0_2), u0_3, u0_4]) rfl Try.agg31 Try.size31 rfl (Sep.at (o := boxO bb1 [(.int .i64 a0_0), (.int .i64 a0_1), (.bool a0_2), u0_3, u0_4]) S_4 1 rfl) rfl rfl) ?_
    refine RL.opD (by decide) (opv_move rfl rfl) ?_
    refine RL.opD (by decide) (opv_move rfl rfl) ?_
    refine RL.opD (by decide) (opv_move rfl rfl) ?_
    refine RL.op _ (by decide) (opv_call (cap := []) (impl_modeField_ok _ _ _ _ _ _ (SL.up (SL.mod g0_3 X_4 (Nat.le_refl _) nob) (Nat.le_trans (Nat.le_refl _) (Mod.size X_4))) _ _ (SL.up (SL.mod g0_4 X_4 (Nat.le_refl _) nob) (Nat.le_trans (Nat.le_refl _) (Mod.size X_4))) _ _ _ _ g3 _ hx4) rfl rfl ⟨rfl, rfl, rfl, rfl, trivial⟩ Try.func73 rfl rfl) ?_
    rintro _ hp6 ⟨v1, v2, v3, rfl, MT_5, T_5⟩
    have X_6 : Mod [] h0 hp6 := Mod.step (A := []) (L := [boxO bb2 [(.slice none 0 0), (.slice none 0 0), (.slice none 0 0)], boxO bb1 [(.int .i64 a0_0), (.int .i64 a0_1), (.bool a0_2), u0_3, u0_4]]) X_4 S_4 MT_5
    have S_10 : Sep [] h0.size hp6 [ownO (kF .f32) 25 v1 x4.1, ownO (kF .f32) 25 v2 x4.2.1, ownO (kF .f32) 25 v3 x4.2.2, boxO bb2 [(.slice none 0 0), (.slice none 0 0), (.slice none 0 0)], boxO bb1 [(.int .i64 a0_0), (.int .i64 a0_1), (.bool a0_2), u0_3, u0_4]] := Sep.step (A := []) (L := [boxO bb2 [(.slice none 0 0), (.slice none 0 0), (.slice none 0 0)], boxO bb1 [(.int .i64 a0_0), (.int .i64 a0_1), (.bool a0_2), u0_3, u0_4]]) S_4 (Mod.size X_4) MT_5 T_5
    refine RL.op0 _ (opS_stored (cs := [(.slice none 0 0), (.slice none 0 0), (.slice none 0 0)]) (cs' := [v1, v2, v3]) (opv_storeA (us := [v1, v2, v3]) rfl Try.size28 rfl rfl (oneAll (ownO.one (Sep.at (o := ownO (kF .f32) 25 v1 x4.1) S_10 0 rfl)) (oneAll (ownO.one (Sep.at (o := ownO (kF .f32) 25 v2 x4.2.1) S_10 1 rfl)) (oneAll (ownO.one (Sep.at (o := ownO (kF .f32) 25 v3 x4.2.2) S_10 2 rfl)) rfl))) (Sep.at (o := boxO bb2 [(.slice none 0 0), (.slice none 0 0), (.slice none 0 0)]) S_10 3 rfl) rfl rfl) (Sep.at (o := boxO bb2 [(.slice none 0 0), (.slice none 0 0), (.slice none 0 0)]) S_10 3 rfl)) ?_
    rintro _ hp7 ⟨rfl, MT_6, T_6⟩
    have S_11 : Sep [] h0.size hp6 ([boxO bb2 [(.slice none 0 0), (.slice none 0 0), (.slice none 0 0)]] ++ [ownO (kF .f32) 25 v1 x4.1, ownO (kF .f32) 25 v2 x4.2.1, ownO (kF .f32) 25 v3 x4.2.2, boxO bb1 [(.int .i64 a0_0), (.int .i64 a0_1), (.bool a0_2), u0_3, u0_4]]) := Sep.sel S_10 [3, 0, 1, 2, 4] (by decide)
    have X_7 : Mod [] h0 hp7 := Mod.step (A := [boxO bb2 [(.slice none 0 0), (.slice none 0 0), (.slice none 0 0)]]) (L := [ownO (kF .f32) 25 v1 x4.1, ownO (kF .f32) 25 v2 x4.2.1, ownO (kF .f32) 25 v3 x4.2.2, boxO bb1 [(.int .i64 a0_0), (.int .i64 a0_1), (.bool a0_2), u0_3, u0_4]]) X_6 S_11 MT_6
    have S_12 : Sep [] h0.size hp7 [boxO bb2 [v1, v2, v3], ownO (kF .f32) 25 v1 x4.1, ownO (kF .f32) 25 v2 x4.2.1, ownO (kF .f32) 25 v3 x4.2.2, boxO bb1 [(.int .i64 a0_0), (.int .i64 a0_1), (.bool a0_2), u0_3, u0_4]] := Sep.step (A := [boxO bb2 [(.slice none 0 0), (.slice none 0 0), (.slice none 0 0)]]) (L := [ownO (kF .f32) 25 v1 x4.1, ownO (kF .f32) 25 v2 x4.2.1, ownO (kF .f32) 25 v3 x4.2.2, boxO bb1 [(.int .i64 a0_0), (.int .i64 a0_1), (.bool a0_2), u0_3, u0_4]]) S_11 (Mod.size X_6) MT_6 T_6
    refine RL.opD (by decide) (opv_assign rfl rfl) ?_
    refine RL.nil ?_
    refine thnN ?_
    refine W.ret ?_
    have er := Option.some.inj hp
    subst er
    exact Rt.cellA rfl rfl rfl Try.agg28 Try.size28 (Sep.at (o := boxO bb2 [v1, v2, v3]) S_12 0 rfl) rfl ⟨v1, v2, v3, rfl, X_7, (Sep.sel S_12 [1, 2, 3] (by decide))⟩

set_option maxRecDepth 20000 in
theorem laws_FnExactModeField_ok (h0 : Heap) (a0_0 : Int) (a0_1 : Int) (a0_2 : Bool) (u0_3 : Value) (a0_3 : List (Option Nat)) (g0_3 : SL (kF .f32) h0.size h0 u0_3 a0_3) (u0_4 : Value) (a0_4 : List (Option Nat)) (g0_4 : SL (kF .f32) h0.size h0 u0_4 a0_4) (a1 : Int) (a2 : Int) (u3 : Value) (a3 : Option Nat) (g3 : IsF .f32 u3 a3) (r : Bool) (hp : laws_FnExactModeField a0_0 a0_1 a0_2 a0_3 a0_4 a1 a2 a3 = some r) : CallsH Try.prog 3 ([(.agg (List.toArray (α := Value) [(.int .i64 a0_0), (.int .i64 a0_1), (.bool a0_2), u0_3, u0_4])), (.int .i64 a1), (.int .i64 a2), u3].toArray ++ [].toArray) h0 (fun v h' => v = (.bool r) ∧ Mod [] h0 h' ∧ Sep [] h0.size h' []) := by
  unfold laws_FnExactModeField at hp
  refine callsH_of_W (l := [(.agg (List.toArray (α := Value) [(.int .i64 a0_0), (.int .i64 a0_1), (.bool a0_2), u0_3, u0_4])), (.int .i64 a1), (.int .i64 a2), u3]) (cap := []) 111 Try.func3 rfl rfl rfl ?_
  refine W.seq ?_
  refine W.region ?_
  refine RL.op _ (by decide) (opS_boxed (opv_boxA (cs := [(.int .i64 a0_0), (.int .i64 a0_1), (.bool a0_2), u0_3, u0_4]) rfl rfl)) ?_
  rintro _ hp1 ⟨bb1, rfl, MT_1, T_1⟩
  have X_1 : Mod [] h0 hp1 := Mod.step (A := []) (L := []) (Mod.refl [] h0) (Sep.nil [] h0.size h0) MT_1
  have S_1 : Sep [] h0.size hp1 [boxO bb1 [(.int .i64 a0_0), (.int .i64 a0_1), (.bool a0_2), u0_3, u0_4]] := Sep.step (A := []) (L := []) (Sep.nil [] h0.size h0) (Mod.size (Mod.refl [] h0)) MT_1 T_1
  refine RL.opD (by decide) (opv_assign rfl rfl) ?_
  refine RL.nil ?_
  refine thnN ?_
  refine W.seq ?_
  refine W.region ?_
  refine RL.opD (by decide) (opv_assign rfl rfl) ?_
  refine RL.nil ?_
  refine thnN ?_
  refine W.seq ?_
  obtain ⟨x1, hx1, hp⟩ := Option.bind_eq_some_iff.1 hp
  refine W.region ?_
  refine RL.opD (by decide) (opv_loadA (us := [(.int .i64 a0_0), (.int .i64 a0_1), (.bool a0_2), u0_3, u0_4]) rfl Try.agg24 Try.size24 rfl (Sep.at (o := boxO bb1 [(.int .i64 a0_0), (.int .i64 a0_1), (.bool a0_2), u0_3, u0_4]) S_1 0 rfl) rfl rfl) ?_
  refine RL.opD (by decide) (opv_move rfl rfl) ?_
  refine RL.op _ (by decide) (opv_call (cap := []) (laws_szSheet_ok _ _ _ _ _ _ (SL.up (SL.mod g0_3 X_1 (Nat.le_refl _) nob) (Nat.le_trans (Nat.le_refl _) (Mod.size X_1))) _ _ (SL.up (SL.mod g0_4 X_1 (Nat.le_refl _) nob) (Nat.le_trans (Nat.le_refl _) (Mod.size X_1))) _ _ hx1) rfl rfl ⟨rfl, rfl, trivial⟩ Try.func12 rfl rfl) ?_
  rintro _ hp2 ⟨rfl, MT_2, T_2⟩
  have X_2 : Mod [] h0 hp2 := Mod.step (A := []) (L := [boxO bb1 [(.int .i64 a0_0), (.int .i64 a0_1), (.bool a0_2), u0_3, u0_4]]) X_1 S_1 MT_2
  have S_2 : Sep [] h0.size hp2 [boxO bb1 [(.int .i64 a0_0), (.int .i64 a0_1), (.bool a0_2), u0_3, u0_4]] := Sep.step (A := []) (L := [boxO bb1 [(.int .i64 a0_0), (.int .i64 a0_1), (.bool a0_2), u0_3, u0_4]]) S_1 (Mod.size X_1) MT_2 T_2
  refine RL.opD (by decide) (opv_assign rfl rfl) ?_
  refine RL.nil ?_
  refine thnN ?_
  refine W.seq ?_
  refine W.seq ?_
  refine W.region ?_
  refine RL.opD (by decide) (opv_move rfl rfl) ?_
  refine RL.opD (by decide) (opv_icmp rfl rfl rfl rfl) ?_
  refine RL.nil ?_
  refine thnN ?_
  by_cases c1 : (decide (x1 < 0)) = true
  · rw [if_pos c1] at hp
    refine W.condT rfl c1 ?_
    refine W.seq ?_
    refine W.region ?_
    refine RL.opD (by decide) (opv_assign rfl rfl) ?_
    refine RL.nil ?_
    refine thnN ?_
    refine W.ret ?_
    refine thnR ?_
    have er := Option.some.inj hp
    subst er
    exact Rt.one rfl rfl ⟨rfl, X_2, (Sep.nil _ _ _)⟩
  · rw [if_neg c1] at hp
    have c1 := eq_false_of_ne_true c1
    refine W.condF rfl c1 ?_
    refine W.skip ?_
    refine thnN ?_
    refine W.seq ?_
    obtain ⟨x2, hx2, hp⟩ := Option.bind_eq_some_iff.1 hp
    obtain ⟨x3, hx3, hp⟩ := Option.bind_eq_some_iff.1 hp
    refine W.region ?_
    refine RL.opD (by decide) (opv_loadA (us := [(.int .i64 a0_0), (.int .i64 a0_1), (.bool a0_2), u0_3, u0_4]) rfl Try.agg24 Try.size24 rfl (Sep.at (o := boxO bb1 [(.int .i64 a0_0), (.int .i64 a0_1), (.bool a0_2), u0_3, u0_4]) S_2 0 rfl) rfl rfl) ?_
    refine RL.op _ (by decide) (opv_call (cap := []) (laws_toSheet_ok _ _ _ _ _ _ (SL.up (SL.mod g0_3 X_2 (Nat.le_refl _) nob) (Nat.le_trans (Nat.le_refl _) (Mod.size X_2))) _ _ (SL.up (SL.mod g0_4 X_2 (Nat.le_refl _) nob) (Nat.le_trans (Nat.le_refl _) (Mod.size X_2))) _ hx2) rfl rfl ⟨rfl, trivial⟩ Try.func14 rfl rfl) ?_
    rintro _ hp3 ⟨v1, v2, rfl, MT_3, T_3⟩
    have X_3 : Mod [] h0 hp3 := Mod.step (A := []) (L := [boxO bb1 [(.int .i64 a0_0), (.int .i64 a0_1), (.bool a0_2), u0_3, u0_4]]) X_2 S_2 MT_3
    have S_3 : Sep [] h0.size hp3 [ownO (kF .f32) 25 v1 x2.2.2.2.1, ownO (kF .f32) 25 v2 x2.2.2.2.2, boxO bb1 [(.int .i64 a0_0), (.int .i64 a0_1), (.bool a0_2), u0_3, u0_4]] := Sep.step (A := []) (L := [boxO bb1 [(.int .i64 a0_0), (.int .i64 a0_1), (.bool a0_2), u0_3, u0_4]]) S_2 (Mod.size X_2) MT_3 T_3
    refine RL.opD (by decide) (opv_move rfl rfl) ?_
    refine RL.opD (by decide) (opv_move rfl rfl) ?_
    refine RL.opD (by decide) (opv_move rfl rfl) ?_
    refine RL.op _ (by decide) (opv_call (cap := []) (spec_ModeField_ok _ _ _ _ _ _ (ownO.read (Sep.at (o := ownO (kF .f32) 25 v1 x2.2.2.2.1) S_3 0 rfl)) _ _ (ownO.read (Sep.at (o := ownO (kF .f32) 25 v2 x2.2.2.2.2) S_3 1 rfl)) _ _ _ _ g3 _ hx3) rfl rfl ⟨rfl, rfl, rfl, rfl, trivial⟩ Try.func13 rfl rfl) ?_
    rintro _ hp4 ⟨v3, v4, v5, rfl, MT_4, T_4⟩
    have X_4 : Mod [] h0 hp4 := Mod.step (A := []) (L := [ownO (kF .f32) 25 v1 x2.2.2.2.1, ownO (kF .f32) 25 v2 x2.2.2.2.2, boxO bb1 [(.int .i64 a0_0), (.int .i64 a0_1), (.bool a0_2), u0_3, u0_4]]) X_3 S_3 MT_4
    have S_4 : Sep [] h0.size hp4 [ownO (kF .f32) 25 v3 x3.1, ownO (kF .f32) 25 v4 x3.2.1, ownO (kF .f32) 25 v5 x3.2.2.1, ownO (kF .f32) 25 v1 x2.2.2.2.1, ownO (kF .f32) 25 v2 x2.2.2.2.2, boxO bb1 [(.int .i64 a0_0), (.int .i64 a0_1), (.bool a0_2), u0_3, u0_4]] := Sep.step (A := []) (L := [ownO (kF .f32) 25 v1 x2.2.2.2.1, ownO (kF .f32) 25 v2 x2.2.2.2.2, boxO bb1 [(.int .i64 a0_0), (.int .i64 a0_1), (.bool a0_2), u0_3, u0_4]]) S_3 (Mod.size X_3) MT_4 T_4
    refine RL.opD (by decide) (opv_move rfl rfl) ?_
    refine RL.opD (by decide) (opv_extract rfl rfl rfl) ?_
    refine RL.opD (by decide) (opv_extract rfl rfl rfl) ?_
    refine RL.op _ (by decide) (opS_boxed (opv_alloc (cs := [(.slice none 0 0), (.slice none 0 0), (.slice none 0 0)]) rfl Try.zero28 rfl)) ?_
    rintro _ hp5 ⟨bb2, rfl, MT_5, T_5⟩
    have X_5 : Mod [] h0 hp5 := Mod.step (A := []) (L := [ownO (kF .f32) 25 v3 x3.1, ownO (kF .f32) 25 v4 x3.2.1, ownO (kF .f32) 25 v5 x3.2.2.1, ownO (kF .f32) 25 v1 x2.2.2.2.1, ownO (kF .f32) 25 v2 x2.2.2.2.2, boxO bb1 [(.int .i64 a0_0), (.int .i64 a0_1), (.bool a0_2), u0_3, u0_4]]) X_4 S_4 MT_5
    have S_5 : Sep [] h0.size hp5 [boxO bb2 [(.slice none 0 0), (.slice none 0 0), (.slice none 0 0)], ownO (kF .f32) 25 v3 x3.1, ownO (kF .f32) 25 v4 x3.2.1, ownO (kF .f32) 25 v5 x3.2.2.1, ownO (kF .f32) 25 v1 x2.2.2.2.1, ownO (kF .f32) 25 v2 x2.2.2.2.2, boxO bb1 [(.int .i64 a0_0), (.int .i64 a0_1), (.bool a0_2), u0_3, u0_4]] := Sep.step (A := []) (L := [ownO (kF .f32) 25 v3 x3.1, ownO (kF .f32) 25 v4 x3.2.1, ownO (kF .f32) 25 v5 x3.2.2.1, ownO (kF .f32) 25 v1 x2.2.2.2.1, ownO (kF .f32) 25 v2 x2.2.2.2.2, boxO bb1 [(.int .i64 a0_0), (.int .i64 a0_1), (.bool a0_2), u0_3, u0_4]]) S_4 (Mod.size X_4) MT_5 T_5
    refine RL.op0 _ (opS_stored (cs := [(.slice none 0 0), (.slice none 0 0), (.slice none 0 0)]) (cs' := [v3, v4, v5]) (opv_storeA (us := [v3, v4, v5]) rfl Try.size28 rfl rfl (oneAll (ownO.one (Sep.at (o := ownO (kF .f32) 25 v3 x3.1) S_5 1 rfl)) (oneAll (ownO.one (Sep.at (o := ownO (kF .f32) 25 v4 x3.2.1) S_5 2 rfl)) (oneAll (ownO.one (Sep.at (o := ownO (kF .f32) 25 v5 x3.2.2.1) S_5 3 rfl)) rfl))) (Sep.at (o := boxO bb2 [(.slice none 0 0), (.slice none 0 0), (.slice none 0 0)]) S_5 0 rfl) rfl rfl) (Sep.at (o := boxO bb2 [(.slice none 0 0), (.slice none 0 0), (.slice none 0 0)]) S_5 0 rfl)) ?_
    rintro _ hp6 ⟨rfl, MT_6, T_6⟩
    have S_6 : Sep [] h0.size hp5 ([boxO bb2 [(.slice none 0 0), (.slice none 0 0), (.slice none 0 0)]] ++ [ownO (kF .f32) 25 v3 x3.1, ownO (kF .f32) 25 v4 x3.2.1, ownO (kF .f32) 25 v5 x3.2.2.1, ownO (kF .f32) 25 v1 x2.2.2.2.1, ownO (kF .f32) 25 v2 x2.2.2.2.2, boxO bb1 [(.int .i64 a0_0), (.int .i64 a0_1), (.bool a0_2), u0_3, u0_4]]) := Sep.sel S_5 [0, 1, 2, 3, 4, 5, 6] (by decide)
    have X_6 : Mod [] h0 hp6 := Mod.step (A := [boxO bb2 [(.slice none 0 0), (.slice none 0 0), (.slice none 0 0)]]) (L := [ownO (kF .f32) 25 v3 x3.1, ownO (kF .f32) 25 v4 x3.2.1, ownO (kF .f32) 25 v5 x3.2.2.1, ownO (kF .f32) 25 v1 x2.2.2.2.1, ownO (kF .f32) 25 v2 x2.2.2.2.2, boxO bb1 [(.int .i64 a0_0), (.int .i64 a0_1), (.bool a0_2), u0_3, u0_4]]) X_5 S_6 MT_6
    have S_7 : Sep [] h0.size hp6 [boxO bb2 [v3, v4, v5], ownO (kF .f32) 25 v3 x3.1, ownO (kF .f32) 25 v4 x3.2.1, ownO (kF .f32) 25 v5 x3.2.2.1, ownO (kF .f32) 25 v1 x2.2.2.2.1, ownO (kF .f32) 25 v2 x2.2.2.2.2, boxO bb1 [(.int .i64 a0_0), (.int .i64 a0_1), (.bool a0_2), u0_3, u0_4]] := Sep.step (A := [boxO bb2 [(.slice none 0 0), (.slice none 0 0), (.slice none 0 0)]]) (L := [ownO (kF .f32) 25 v3 x3.1, ownO (kF .f32) 25 v4 x3.2.1, ownO (kF .f32) 25 v5 x3.2.2.1, ownO (kF .f32) 25 v1 x2.2.2.2.1, ownO (kF .f32) 25 v2 x2.2.2.2.2, boxO bb1 [(.int .i64 a0_0), (.int .i64 a0_1), (.bool a0_2), u0_3, u0_4]]) S_6 (Mod.size X_5) MT_6 T_6
    refine RL.opD (by decide) (opv_assign rfl rfl) ?_
    refine RL.nil ?_
    refine thnN ?_
    refine W.seq ?_
    obtain ⟨x4, hx4, hp⟩ := Option.bind_eq_some_iff.1 hp
    refine W.region ?_
    refine RL.opD (by decide) (opv_loadA (us := [(.int .i64 a0_0), (.int .i64 a0_1), (.bool a0_2), u0_3, u0_4]) rfl Try.agg24 Try.size24 rfl (Sep.at (o := boxO bb1 [(.int .i64 a0_0), (.int .i64 a0_1), (.bool a0_2), u0_3, u0_4]) S_7 6 rfl) rfl rfl) ?_
    refine RL.op _ (by decide) (opv_call (cap := []) (laws_toSheet_ok _ _ _ _ _ _ (SL.up (SL.mod g0_3 X_6 (Nat.le_refl _) nob) (Nat.le_trans (Nat.le_refl _) (Mod.size X_6))) _ _ (SL.up (SL.mod g0_4 X_6 (Nat.le_refl _) nob) (Nat.le_trans (Nat.le_refl _) (Mod.size X_6))) _ hx4) rfl rfl ⟨rfl, trivial⟩ Try.func14 rfl rfl) ?_
    rintro _ hp7 ⟨v6, v7, rfl, MT_7, T_7⟩
    have X_7 : Mod [] h0 hp7 := Mod.step (A := []) (L := [boxO bb2 [v3, v4, v5], ownO (kF .f32) 25 v3 x3.1, ownO (kF .f32) 25 v4 x3.2.1, ownO (kF .f32) 25 v5 x3.2.2.1, ownO (kF .f32) 25 v1 x2.2.2.2.1, ownO (kF .f32) 25 v2 x2.2.2.2.2, boxO bb1 [(.int .i64 a0_0), (.int .i64 a0_1), (.bool a0_2), u0_3, u0_4]]) X_6 S_7 MT_7
    have S_8 : Sep [] h0.size hp7 [ownO (kF .f32) 25 v6 x4.2.2.2.1, ownO (kF .f32) 25 v7 x4.2.2.2.2, boxO bb2 [v3, v4, v5], ownO (kF .f32) 25 v3 x3.1, ownO (kF .f32) 25 v4 x3.2.1, ownO (kF .f32) 25 v5 x3.2.2.1, ownO (kF .f32) 25 v1 x2.2.2.2.1, ownO (kF .f32) 25 v2 x2.2.2.2.2, boxO bb1 [(.int .i64 a0_0), (.int .i64 a0_1), (.bool a0_2), u0_3, u0_4]] := Sep.step (A := []) (L := [boxO bb2 [v3, v4, v5], ownO (kF .f32) 25 v3 x3.1, ownO (kF .f32) 25 v4 x3.2.1, ownO (kF .f32) 25 v5 x3.2.2.1, ownO (kF .f32) 25 v1 x2.2.2.2.1, ownO (kF .f32) 25 v2 x2.2.2.2.2, boxO bb1 [(.int .i64 a0_0), (.int .i64 a0_1), (.bool a0_2), u0_3, u0_4]]) S_7 (Mod.size X_6) MT_7 T_7
    refine RL.op _ (by decide) (opS_boxed (opv_alloc (cs := [(.int .i64 0), (.int .i64 0), (.bool false), (.slice none 0 0), (.slice none 0 0)]) rfl Try.zero31 rfl)) ?_
    rintro _ hp8 ⟨bb3, rfl, MT_8, T_8⟩
    have X_8 : Mod [] h0 hp8 := Mod.step (A := []) (L := [ownO (kF .f32) 25 v6 x4.2.2.2.1, ownO (kF .f32) 25 v7 x4.2.2.2.2, boxO bb2 [v3, v4, v5], ownO (kF .f32) 25 v3 x3.1, ownO (kF .f32) 25 v4 x3.2.1, ownO (kF .f32) 25 v5 x3.2.2.1, ownO (kF .f32) 25 v1 x2.2.2.2.1, ownO (kF .f32) 25 v2 x2.2.2.2.2, boxO bb1 [(.int .i64 a0_0), (.int .i64 a0_1), (.bool a0_2), u0_3, u0_4]]) X_7 S_8 MT_8
    have S_9 : Sep [] h0.size hp8 [boxO bb3 [(.int .i64 0), (.int .i64 0), (.bool false), (.slice none 0 0), (.slice none 0 0)], ownO (kF .f32) 25 v6 x4.2.2.2.1, ownO (kF .f32) 25 v7 x4.2.2.2.2, boxO bb2 [v3, v4, v5], ownO (kF .f32) 25 v3 x3.1, ownO (kF .f32) 25 v4 x3.2.1, ownO (kF .f32) 25 v5 x3.2.2.1, ownO (kF .f32) 25 v1 x2.2.2.2.1, ownO (kF .f32) 25 v2 x2.2.2.2.2, boxO bb1 [(.int .i64 a0_0), (.int .i64 a0_1), (.bool a0_2), u0_3, u0_4]] := Sep.step (A := []) (L := [ownO (kF .f32) 25 v6 x4.2.2.2.1, ownO (kF .f32) 25 v7 x4.2.2.2.2, boxO bb2 [v3, v4, v5], ownO (kF .f32) 25 v3 x3.1, ownO (kF .f32) 25 v4 x3.2.1, ownO (kF .f32) 25 v5 x3.2.2.1, ownO (kF .f32) 25 v1 x2.2.2.2.1, ownO (kF .f32) 25 v2 x2.2.2.2.2, boxO bb1 [(.int .i64 a0_0), (.int .i64 a0_1), (.bool a0_2), u0_3, u0_4]]) S_8 (Mod.size X_7) MT_8 T_8
    refine RL.op0 _ (opS_stored (cs := [(.int .i64 0), (.int .i64 0), (.bool false), (.slice none 0 0), (.slice none 0 0)]) (cs' := [(.int .i64 x4.1), (.int .i64 x4.2.1), (.bool x4.2.2.1), v6, v7]) (opv_storeA (us := [(.int .i64 x4.1), (.int .i64 x4.2.1), (.bool x4.2.2.1), v6, v7]) rfl Try.size31 rfl rfl (oneAll rfl (oneAll rfl (oneAll rfl (oneAll (ownO.one (Sep.at (o := ownO (kF .f32) 25 v6 x4.2.2.2.1) S_9 1 rfl)) (oneAll (ownO.one (Sep.at (o := ownO (kF .f32) 25 v7 x4.2.2.2.2) S_9 2 rfl)) rfl))))) (Sep.at (o := boxO bb3 [(.int .i64 0), (.int .i64 0), (.bool false), (.slice none 0 0), (.slice none 0 0)]) S_9 0 rfl) rfl rfl) (Sep.at (o := boxO bb3 [(.int .i64 0), (.int .i64 0), (.bool false), (.slice none 0 0), (.slice none 0 0)]) S_9 0 rfl)) ?_
    rintro _ hp9 ⟨rfl, MT_9, T_9⟩
    have S_10 : Sep [] h0.size hp8 ([boxO bb3 [(.int .i64 0), (.int .i64 0), (.bool false), (.slice none 0 0), (.slice none 0 0)]] ++ [ownO (kF .f32) 25 v6 x4.2.2.2.1, ownO (kF .f32) 25 v7 x4.2.2.2.2, boxO bb2 [v3, v4, v5], ownO (kF .f32) 25 v3 x3.1, ownO (kF .f32) 25 v4 x3.2.1, ownO (kF .f32) 25 v5 x3.2.2.1, ownO (kF .f32) 25 v1 x2.2.2.2.1, ownO (kF .f32) 25 v2 x2.2.2.2.2, boxO bb1 [(.int .i64 a0_0), (.int .i64 a0_1), (.bool a0_2), u0_3, u0_4]]) := Sep.sel S_9 [0, 1, 2, 3, 4, 5, 6, 7, 8, 9] (by decide)
    have X_9 : Mod [] h0 hp9 := Mod.step (A := [boxO bb3 [(.int .i64 0), (.int .i64 0), (.bool false), (.slice none 0 0), (.slice none 0 0)]]) (L := [ownO (kF .f32) 25 v6 x4.2.2.2.1, ownO (kF .f32) 25 v7 x4.2.2.2.2, boxO bb2 [v3, v4, v5], ownO (kF .f32) 25 v3 x3.1, ownO (kF .f32) 25 v4 x3.2.1, ownO (kF .f32) 25 v5 x3.2.2.1, ownO (kF .f32) 25 v1 x2.2.2.2.1, ownO (kF .f32) 25 v2 x2.2.2.2.2, boxO bb1 [(.int .i64 a0_0), (.int .i64 a0_1), (.bool a0_2), u0_3, u0_4]]) X_8 S_10 MT_9
    have S_11 : Sep [] h0.size hp9 [boxO bb3 [(.int .i64 x4.1), (.int .i64 x4.2.1), (.bool x4.2.2.1), v6, v7], ownO (kF .f32) 25 v6 x4.2.2.2.1, ownO (kF .f32) 25 v7 x4.2.2.2.2, boxO bb2 [v3, v4, v5], ownO (kF .f32) 25 v3 x3.1, ownO (kF .f32) 25 v4 x3.2.1, ownO (kF .f32) 25 v5 x3.2.2.1, ownO (kF .f32) 25 v1 x2.2.2.2.1, ownO (kF .f32) 25 v2 x2.2.2.2.2, boxO bb1 [(.int .i64 a0_0), (.int .i64 a0_1), (.bool a0_2), u0_3, u0_4]] := Sep.step (A := [boxO bb3 [(.int .i64 0), (.int .i64 0), (.bool false), (.slice none 0 0), (.slice none 0 0)]]) (L := [ownO (kF .f32) 25 v6 x4.2.2.2.1, ownO (kF .f32) 25 v7 x4.2.2.2.2, boxO bb2 [v3, v4, v5], ownO (kF .f32) 25 v3 x3.1, ownO (kF .f32) 25 v4 x3.2.1, ownO (kF .f32) 25 v5 x3.2.2.1, ownO (kF .f32) 25 v1 x2.2.2.2.1, ownO (kF .f32) 25 v2 x2.2.2.2.2, boxO bb1 [(.int .i64 a0_0), (.int .i64 a0_1), (.bool a0_2), u0_3, u0_4]]) S_10 (Mod.size X_8) MT_9 T_9
    refine RL.nil ?_
    refine thnN ?_
    refine W.seq ?_
    obtain ⟨x5, hx5, hp⟩ := Option.bind_eq_some_iff.1 hp
    refine W.region ?_
    refine RL.opD (by decide) (opv_loadA (us := [(.int .i64 x4.1), (.int .i64 x4.2.1), (.bool x4.2.2.1), v6, v7]) rfl Try.agg31 Try.size31 rfl (Sep.at (o := boxO bb3 [(.int .i64 x4.1), (.int .i64 x4.2.1), (.bool x4.2.2.1), v6, v7]) S_11 0 rfl) rfl rfl) ?_
    refine RL.opD (by decide) (opv_move rfl rfl) ?_
    refine RL.opD (by decide) (opv_move rfl rfl) ?_
    refine RL.opD (by decide) (opv_move rfl rfl) ?_
    refine RL.op _ (by decide) (opv_call (cap := []) (impl_ModeField_ok _ _ _ _ _ _ (ownO.read (Sep.at (o := ownO (kF .f32) 25 v6 x4.2.2.2.1) S_11 1 rfl)) _ _ (ownO.read (Sep.at (o := ownO (kF .f32) 25 v7 x4.2.2.2.2) S_11 2 rfl)) _ _ _ _ g3 _ hx5) rfl rfl ⟨rfl, rfl, rfl, rfl, trivial⟩ Try.func15 rfl rfl) ?_
    rintro _ hp10 ⟨v8, v9, v10, rfl, MT_10, T_10⟩
    have X_10 : Mod [] h0 hp10 := Mod.step (A := []) (L := [boxO bb3 [(.int .i64 x4.1), (.int .i64 x4.2.1), (.bool x4.2.2.1), v6, v7], ownO (kF .f32) 25 v6 x4.2.2.2.1, ownO (kF .f32) 25 v7 x4.2.2.2.2, boxO bb2 [v3, v4, v5], ownO (kF .f32) 25 v3 x3.1, ownO (kF .f32) 25 v4 x3.2.1, ownO (kF .f32) 25 v5 x3.2.2.1, ownO (kF .f32) 25 v1 x2.2.2.2.1, ownO (kF .f32) 25 v2 x2.2.2.2.2, boxO bb1 [(.int .i64 a0_0), (.int .i64 a0_1), (.bool a0_2), u0_3, u0_4]]) X_9 S_11 MT_10
    have S_12 : Sep [] h0.size hp10 [ownO (kF .f32) 25 v8 x5.1, ownO (kF .f32) 25 v9 x5.2.1, ownO (kF .f32) 25 v10 x5.2.2.1, boxO bb3 [(.int .i64 x4.1), (.int .i64 x4.2.1), (.bool x4.2.2.1), v6, v7], ownO (kF .f32) 25 v6 x4.2.2.2.1, ownO (kF .f32) 25 v7 x4.2.2.2.2, boxO bb2 [v3, v4, v5], ownO (kF .f32) 25 v3 x3.1, ownO (kF .f32) 25 v4 x3.2.1, ownO (kF .f32) 25 v5 x3.2.2.1, ownO (kF .f32) 25 v1 x2.2.2.2.1, ownO (kF .f32) 25 v2 x2.2.2.2.2, boxO bb1 [(.int .i64 a0_0), (.int .i64 a0_1), (.bool a0_2), u0_3, u0_4]] := Sep.step (A := []) (L := [boxO bb3 [(.int .i64 x4.1), (.int .i64 x4.2.1), (.bool x4.2.2.1), v6, v7], ownO (kF .f32) 25 v6 x4.2.2.2.1, ownO (kF .f32) 25 v7 x4.2.2.2.2, boxO bb2 [v3, v4, v5], ownO (kF .f32) 25 v3 x3.1, ownO (kF .f32) 25 v4 x3.2.1, ownO (kF .f32) 25 v5 x3.2.2.1, ownO (kF .f32) 25 v1 x2.2.2.2.1, ownO (kF .f32) 25 v2 x2.2.2.2.2, boxO bb1 [(.int .i64 a0_0), (.int .i64 a0_1), (.bool a0_2), u0_3, u0_4]]) S_11 (Mod.size X_9) MT_10 T_10
    refine RL.opD (by decide) (opv_move rfl rfl) ?_
    refine RL.opD (by decide) (opv_extract rfl rfl rfl) ?_
    refine RL.opD (by decide) (opv_extract rfl rfl rfl) ?_
    refine RL.op _ (by decide) (opS_boxed (opv_alloc (cs := [(.slice none 0 0), (.slice none 0 0), (.slice none 0 0)]) rfl Try.zero28 rfl)) ?_
    rintro _ hp11 ⟨bb4, rfl, MT_11, T_11⟩
    have X_11 : Mod [] h0 hp11 := Mod.step (A := []) (L := [ownO (kF .f32) 25 v8 x5.1, ownO (kF .f32) 25 v9 x5.2.1, ownO (kF .f32) 25 v10 x5.2.2.1, boxO bb3 [(.int .i64 x4.1), (.int .i64 x4.2.1), (.bool x4.2.2.1), v6, v7], ownO (kF .f32) 25 v6 x4.2.2.2.1, ownO (kF .f32) 25 v7 x4.2.2.2.2, boxO bb2 [v3, v4, v5], ownO (kF .f32) 25 v3 x3.1, ownO (kF .f32) 25 v4 x3.2.1, ownO (kF .f32) 25 v5 x3.2.2.1, ownO (kF .f32) 25 v1 x2.2.2.2.1, ownO (kF .f32) 25 v2 x2.2.2.2.2, boxO bb1 [(.int .i64 a0_0), (.int .i64 a0_1), (.bool a0_2), u0_3, u0_4]]) X_10 S_12 MT_11
    have S_13 : Sep [] h0.size hp11 [boxO bb4 [(.slice none 0 0), (.slice none 0 0), (.slice none 0 0)], ownO (kF .f32) 25 v8 x5.1, ownO (kF .f32) 25 v9 x5.2.1, ownO (kF .f32) 25 v10 x5.2.2.1, boxO bb3 [(.int .i64 x4.1), (.int .i64 x4.2.1), (.bool x4.2.2.1), v6, v7], ownO (kF .f32) 25 v6 x4.2.2.2.1, ownO (kF .f32) 25 v7 x4.2.2.2.2, boxO bb2 [v3, v4, v5], ownO (kF .f32) 25 v3 x3.1, ownO (kF .f32) 25 v4 x3.2.1, ownO (kF .f32) 25 v5 x3.2.2.1, ownO (kF .f32) 25 v1 x2.2.2.2.1, ownO (kF .f32) 25 v2 x2.2.2.2.2, boxO bb1 [(.int .i64 a0_0), (.int .i64 a0_1), (.bool a0_2), u0_3, u0_4]] := Sep.step (A := []) (L := [ownO (kF .f32) 25 v8 x5.1, ownO (kF .f32) 25 v9 x5.2.1, ownO (kF .f32) 25 v10 x5.2.2.1, boxO bb3 [(.int .i64 x4.1), (.int .i64 x4.2.1), (.bool x4.2.2.1), v6, v7], ownO (kF .f32) 25 v6 x4.2.2.2.1, ownO (kF .f32) 25 v7 x4.2.2.2.2, boxO bb2 [v3, v4, v5], ownO (kF .f32) 25 v3 x3.1, ownO (kF .f32) 25 v4 x3.2.1, ownO (kF .f32) 25 v5 x3.2.2.1, ownO (kF .f32) 25 v1 x2.2.2.2.1, ownO (kF .f32) 25 v2 x2.2.2.2.2, boxO bb1 [(.int .i64 a0_0), (.int .i64 a0_1), (.bool a0_2), u0_3, u0_4]]) S_12 (Mod.size X_10) MT_11 T_11
    refine RL.op0 _ (opS_stored (cs := [(.slice none 0 0), (.slice none 0 0), (.slice none 0 0)]) (cs' := [v8, v9, v10]) (opv_storeA (us := [v8, v9, v10]) rfl Try.size28 rfl rfl (oneAll (ownO.one (Sep.at (o := ownO (kF .f32) 25 v8 x5.1) S_13 1 rfl)) (oneAll (ownO.one (Sep.at (o := ownO (kF .f32) 25 v9 x5.2.1) S_13 2 rfl)) (oneAll (ownO.one (Sep.at (o := ownO (kF .f32) 25 v10 x5.2.2.1) S_13 3 rfl)) rfl))) (Sep.at (o := boxO bb4 [(.slice none 0 0), (.slice none 0 0), (.slice none 0 0)]) S_13 0 rfl) rfl rfl) (Sep.at (o := boxO bb4 [(.slice none 0 0), (.slice none 0 0), (.slice none 0 0)]) S_13 0 rfl)) ?_
    rintro _ hp12 ⟨rfl, MT_12, T_12⟩
    have S_14 : Sep [] h0.size hp11 ([boxO bb4 [(.slice none 0 0), (.slice none 0 0), (.slice none 0 0)]] ++ [ownO (kF .f32) 25 v8 x5.1, ownO (kF .f32) 25 v9 x5.2.1, ownO (kF .f32) 25 v10 x5.2.2.1, boxO bb3 [(.int .i64 x4.1), (.int .i64 x4.2.1), (.bool x4.2.2.1), v6, v7], ownO (kF .f32) 25 v6 x4.2.2.2.1, ownO (kF .f32) 25 v7 x4.2.2.2.2, boxO bb2 [v3, v4, v5], ownO (kF .f32) 25 v3 x3.1, ownO (kF .f32) 25 v4 x3.2.1, ownO (kF .f32) 25 v5 x3.2.2.1, ownO (kF .f32) 25 v1 x2.2.2.2.1, ownO (kF .f32) 25 v2 x2.2.2.2.2, boxO bb1 [(.int .i64 a0_0), (.int .i64 a0_1), (.bool a0_2), u0_3, u0_4]]) := Sep.sel S_13 [0, 1, 2, 3, 4, 5, 6, 7, 8, 9, 10, 11, 12, 13] (by decide)
    have X_12 : Mod [] h0 hp12 := Mod.step (A := [boxO bb4 [(.slice none 0 0), (.slice none 0 0), (.slice none 0 0)]]) (L := [ownO (kF .f32) 25 v8 x5.1, ownO (kF .f32) 25 v9 x5.2.1, ownO (kF .f32) 25 v10 x5.2.2.1, boxO bb3 [(.int .i64 x4.1), (.int .i64 x4.2.1), (.bool x4.2.2.1), v6, v7], ownO (kF .f32) 25 v6 x4.2.2.2.1, ownO (kF .f32) 25 v7 x4.2.2.2.2, boxO bb2 [v3, v4, v5], ownO (kF .f32) 25 v3 x3.1, ownO (kF .f32) 25 v4 x3.2.1, ownO (kF .f32) 25 v5 x3.2.2.1, ownO (kF .f32) 25 v1 x2.2.2.2.1, ownO (kF .f32) 25 v2 x2.2.2.2.2, boxO bb1 [(.int .i64 a0_0), (.int .i64 a0_1), (.bool a0_2), u0_3, u0_4]]) X_11 S_14 MT_12
    have S_15 : Sep [] h0.size hp12 [boxO bb4 [v8, v9, v10], ownO (kF .f32) 25 v8 x5.1, ownO (kF .f32) 25 v9 x5.2.1, ownO (kF .f32) 25 v10 x5.2.2.1, boxO bb3 [(.int .i64 x4.1), (.int .i64 x4.2.1), (.bool x4.2.2.1), v6, v7], ownO (kF .f32) 25 v6 x4.2.2.2.1, ownO (kF .f32) 25 v7 x4.2.2.2.2, boxO bb2 [v3, v4, v5], ownO (kF .f32) 25 v3 x3.1, ownO (kF .f32) 25 v4 x3.2.1, ownO (kF .f32) 25 v5 x3.2.2.1, ownO (kF .f32) 25 v1 x2.2.2.2.1, ownO (kF .f32) 25 v2 x2.2.2.2.2, boxO bb1 [(.int .i64 a0_0), (.int .i64 a0_1), (.bool a0_2), u0_3, u0_4]] := Sep.step (A := [boxO bb4 [(.slice none 0 0), (.slice none 0 0), (.slice none 0 0)]]) (L := [ownO (kF .f32) 25 v8 x5.1, ownO (kF .f32) 25 v9 x5.2.1, ownO (kF .f32) 25 v10 x5.2.2.1, boxO bb3 [(.int .i64 x4.1), (.int .i64 x4.2.1), (.bool x4.2.2.1), v6, v7], ownO (kF .f32) 25 v6 x4.2.2.2.1, ownO (kF .f32) 25 v7 x4.2.2.2.2, boxO bb2 [v3, v4, v5], ownO (kF .f32) 25 v3 x3.1, ownO (kF .f32) 25 v4 x3.2.1, ownO (kF .f32) 25 v5 x3.2.2.1, ownO (kF .f32) 25 v1 x2.2.2.2.1, ownO (kF .f32) 25 v2 x2.2.2.2.2, boxO bb1 [(.int .i64 a0_0), (.int .i64 a0_1), (.bool a0_2), u0_3, u0_4]]) S_14 (Mod.size X_11) MT_12 T_12
    refine RL.opD (by decide) (opv_assign rfl rfl) ?_
    refine RL.nil ?_
    refine thnN ?_
    refine W.seq ?_
    refine W.seq ?_
    obtain ⟨x6, hy1, hp⟩ := Option.bind_eq_some_iff.1 hp
    refine W.cut (fun φ' h' => Fr.sub [(0, (.agg (List.toArray (α := Value) [(.int .i64 a0_0), (.int .i64 a0_1), (.bool a0_2), u0_3, u0_4]))), (1, (.int .i64 a1)), (2, (.int .i64 a2)), (3, u3), (4, (.pointer (some ⟨bb1, 0, none⟩))), (8, (.bool false)), (9, (.int .i64 x1)), (24, (.bool (decide (x1 < 0)))), (10, (.pointer (some ⟨bb2, 0, none⟩))), (11, (.bool x3.2.2.2)), (12, (.pointer (some ⟨bb3, 0, none⟩))), (13, (.pointer (some ⟨bb4, 0, none⟩))), (14, (.bool x5.2.2.2)), (52, (.bool x6))] φ' ∧ Mod [] h0 h' ∧ Sep [] h0.size h' [boxO bb4 [v8, v9, v10], ownO (kF .f32) 25 v8 x5.1, ownO (kF .f32) 25 v9 x5.2.1, ownO (kF .f32) 25 v10 x5.2.2.1, boxO bb3 [(.int .i64 x4.1), (.int .i64 x4.2.1), (.bool x4.2.2.1), v6, v7], ownO (kF .f32) 25 v6 x4.2.2.2.1, ownO (kF .f32) 25 v7 x4.2.2.2.2, boxO bb2 [v3, v4, v5], ownO (kF .f32) 25 v3 x3.1, ownO (kF .f32) 25 v4 x3.2.1, ownO (kF .f32) 25 v5 x3.2.2.1, ownO (kF .f32) 25 v1 x2.2.2.2.1, ownO (kF .f32) 25 v2 x2.2.2.2.2, boxO bb1 [(.int .i64 a0_0), (.int .i64 a0_1), (.bool a0_2), u0_3, u0_4]]) ?_ ?_
    · obtain ⟨x7, hx7, hy1⟩ := Option.bind_eq_some_iff.1 hy1
      by_cases c2 : (!x7) = true
      · rw [if_pos c2] at hy1
        refine W.region ?_
        refine RL.opD (by decide) (opv_loadA (us := [v8, v9, v10]) rfl Try.agg28 Try.size28 rfl (Sep.at (o := boxO bb4 [v8, v9, v10]) S_15 0 rfl) rfl rfl) ?_
        refine RL.opD (by decide) (opv_loadA (us := [v3, v4, v5]) rfl Try.agg28 Try.size28 rfl (Sep.at (o := boxO bb2 [v3, v4, v5]) S_15 7 rfl) rfl rfl) ?_
        refine RL.op _ (by decide) (opv_call (cap := []) (laws_eqField_ok _ _ _ (ownO.read (Sep.at (o := ownO (kF .f32) 25 v8 x5.1) S_15 1 rfl)) _ _ (ownO.read (Sep.at (o := ownO (kF .f32) 25 v9 x5.2.1) S_15 2 rfl)) _ _ (ownO.read (Sep.at (o := ownO (kF .f32) 25 v10 x5.2.2.1) S_15 3 rfl)) _ _ (ownO.read (Sep.at (o := ownO (kF .f32) 25 v3 x3.1) S_15 8 rfl)) _ _ (ownO.read (Sep.at (o := ownO (kF .f32) 25 v4 x3.2.1) S_15 9 rfl)) _ _ (ownO.read (Sep.at (o := ownO (kF .f32) 25 v5 x3.2.2.1) S_15 10 rfl)) _ hx7) rfl rfl ⟨rfl, rfl, trivial⟩ Try.func16 rfl rfl) ?_
        rintro _ hp13 ⟨rfl, MT_13, T_13⟩
        have X_13 : Mod [] h0 hp13 := Mod.step (A := []) (L := [boxO bb4 [v8, v9, v10], ownO (kF .f32) 25 v8 x5.1, ownO (kF .f32) 25 v9 x5.2.1, ownO (kF .f32) 25 v10 x5.2.2.1, boxO bb3 [(.int .i64 x4.1), (.int .i64 x4.2.1), (.bool x4.2.2.1), v6, v7], ownO (kF .f32) 25 v6 x4.2.2.2.1, ownO (kF .f32) 25 v7 x4.2.2.2.2, boxO bb2 [v3, v4, v5], ownO (kF .f32) 25 v3 x3.1, ownO (kF .f32) 25 v4 x3.2.1, ownO (kF .f32) 25 v5 x3.2.2.1, ownO (kF .f32) 25 v1 x2.2.2.2.1, ownO (kF .f32) 25 v2 x2.2.2.2.2, boxO bb1 [(.int .i64 a0_0), (.int .i64 a0_1), (.bool a0_2), u0_3, u0_4]]) X_12 S_15 MT_13
        have S_16 : Sep [] h0.size hp13 [boxO bb4 [v8, v9, v10], ownO (kF .f32) 25 v8 x5.1, ownO (kF .f32) 25 v9 x5.2.1, ownO (kF .f32) 25 v10 x5.2.2.1, boxO bb3 [(.int .i64 x4.1), (.int .i64 x4.2.1), (.bool x4.2.2.1), v6, v7], ownO (kF .f32) 25 v6 x4.2.2.2.1, ownO (kF .f32) 25 v7 x4.2.2.2.2, boxO bb2 [v3, v4, v5], ownO (kF .f32) 25 v3 x3.1, ownO (kF .f32) 25 v4 x3.2.1, ownO (kF .f32) 25 v5 x3.2.2.1, ownO (kF .f32) 25 v1 x2.2.2.2.1, ownO (kF .f32) 25 v2 x2.2.2.2.2, boxO bb1 [(.int .i64 a0_0), (.int .i64 a0_1), (.bool a0_2), u0_3, u0_4]] := Sep.step (A := []) (L := [boxO bb4 [v8, v9, v10], ownO (kF .f32) 25 v8 x5.1, ownO (kF .f32) 25 v9 x5.2.1, ownO (kF .f32) 25 v10 x5.2.2.1, boxO bb3 [(.int .i64 x4.1), (.int .i64 x4.2.1), (.bool x4.2.2.1), v6, v7], ownO (kF .f32) 25 v6 x4.2.2.2.1, ownO (kF .f32) 25 v7 x4.2.2.2.2, boxO bb2 [v3, v4, v5], ownO (kF .f32) 25 v3 x3.1, ownO (kF .f32) 25 v4 x3.2.1, ownO (kF .f32) 25 v5 x3.2.2.1, ownO (kF .f32) 25 v1 x2.2.2.2.1, ownO (kF .f32) 25 v2 x2.2.2.2.2, boxO bb1 [(.int .i64 a0_0), (.int .i64 a0_1), (.bool a0_2), u0_3, u0_4]]) S_15 (Mod.size X_12) MT_13 T_13
        refine RL.opD (by decide) (opv_not rfl rfl) ?_
        refine RL.opD (by decide) (opv_move rfl rfl) ?_
        refine RL.no rfl rfl (Eq.trans c2 (by decide)) (by decide) ?_
        refine RL.no rfl rfl (Eq.trans c2 (by decide)) (by decide) ?_
        refine RL.no rfl rfl (Eq.trans c2 (by decide)) (by decide) ?_
        refine RL.opD (by decide) (opv_pick rfl rfl (fun _ => rfl) (fun e => absurd (Eq.trans (Eq.symm e) c2) (by decide)) rfl) ?_
        refine RL.nil ?_
        have ey1 := Option.some.inj hy1
        subst ey1
        refine onlyN ?_
        exact ⟨⟨rfl, rfl, rfl, rfl, rfl, rfl, rfl, rfl, rfl, rfl, rfl, rfl, rfl, rfl, trivial⟩, X_13, (Sep.sel S_16 [0, 1, 2, 3, 4, 5, 6, 7, 8, 9, 10, 11, 12, 13] (by decide))⟩
      · rw [if_neg c2] at hy1
        have c2 := eq_false_of_ne_true c2
        refine W.region ?_
        refine RL.opD (by decide) (opv_loadA (us := [v8, v9, v10]) rfl Try.agg28 Try.size28 rfl (Sep.at (o := boxO bb4 [v8, v9, v10]) S_15 0 rfl) rfl rfl) ?_
        refine RL.opD (by decide) (opv_loadA (us := [v3, v4, v5]) rfl Try.agg28 Try.size28 rfl (Sep.at (o := boxO bb2 [v3, v4, v5]) S_15 7 rfl) rfl rfl) ?_
        refine RL.op _ (by decide) (opv_call (cap := []) (laws_eqField_ok _ _ _ (ownO.read (Sep.at (o := ownO (kF .f32) 25 v8 x5.1) S_15 1 rfl)) _ _ (ownO.read (Sep.at (o := ownO (kF .f32) 25 v9 x5.2.1) S_15 2 rfl)) _ _ (ownO.read (Sep.at (o := ownO (kF .f32) 25 v10 x5.2.2.1) S_15 3 rfl)) _ _ (ownO.read (Sep.at (o := ownO (kF .f32) 25 v3 x3.1) S_15 8 rfl)) _ _ (ownO.read (Sep.at (o := ownO (kF .f32) 25 v4 x3.2.1) S_15 9 rfl)) _ _ (ownO.read (Sep.at (o := ownO (kF .f32) 25 v5 x3.2.2.1) S_15 10 rfl)) _ hx7) rfl rfl ⟨rfl, rfl, trivial⟩ Try.func16 rfl rfl) ?_
        rintro _ hp13 ⟨rfl, MT_13, T_13⟩
        have X_13 : Mod [] h0 hp13 := Mod.step (A := []) (L := [boxO bb4 [v8, v9, v10], ownO (kF .f32) 25 v8 x5.1, ownO (kF .f32) 25 v9 x5.2.1, ownO (kF .f32) 25 v10 x5.2.2.1, boxO bb3 [(.int .i64 x4.1), (.int .i64 x4.2.1), (.bool x4.2.2.1), v6, v7], ownO (kF .f32) 25 v6 x4.2.2.2.1, ownO (kF .f32) 25 v7 x4.2.2.2.2, boxO bb2 [v3, v4, v5], ownO (kF .f32) 25 v3 x3.1, ownO (kF .f32) 25 v4 x3.2.1, ownO (kF .f32) 25 v5 x3.2.2.1, ownO (kF .f32) 25 v1 x2.2.2.2.1, ownO (kF .f32) 25 v2 x2.2.2.2.2, boxO bb1 [(.int .i64 a0_0), (.int .i64 a0_1), (.bool a0_2), u0_3, u0_4]]) X_12 S_15 MT_13
        have S_16 : Sep [] h0.size hp13 [boxO bb4 [v8, v9, v10], ownO (kF .f32) 25 v8 x5.1, ownO (kF .f32) 25 v9 x5.2.1, ownO (kF .f32) 25 v10 x5.2.2.1, boxO bb3 [(.int .i64 x4.1), (.int .i64 x4.2.1), (.bool x4.2.2.1), v6, v7], ownO (kF .f32) 25 v6 x4.2.2.2.1, ownO (kF .f32) 25 v7 x4.2.2.2.2, boxO bb2 [v3, v4, v5], ownO (kF .f32) 25 v3 x3.1, ownO (kF .f32) 25 v4 x3.2.1, ownO (kF .f32) 25 v5 x3.2.2.1, ownO (kF .f32) 25 v1 x2.2.2.2.1, ownO (kF .f32) 25 v2 x2.2.2.2.2, boxO bb1 [(.int .i64 a0_0), (.int .i64 a0_1), (.bool a0_2), u0_3, u0_4]] := Sep.step (A := []) (L := [boxO bb4 [v8, v9, v10], ownO (kF .f32) 25 v8 x5.1, ownO (kF .f32) 25 v9 x5.2.1, ownO (kF .f32) 25 v10 x5.2.2.1, boxO bb3 [(.int .i64 x4.1), (.int .i64 x4.2.1), (.bool x4.2.2.1), v6, v7], ownO (kF .f32) 25 v6 x4.2.2.2.1, ownO (kF .f32) 25 v7 x4.2.2.2.2, boxO bb2 [v3, v4, v5], ownO (kF .f32) 25 v3 x3.1, ownO (kF .f32) 25 v4 x3.2.1, ownO (kF .f32) 25 v5 x3.2.2.1, ownO (kF .f32) 25 v1 x2.2.2.2.1, ownO (kF .f32) 25 v2 x2.2.2.2.2, boxO bb1 [(.int .i64 a0_0), (.int .i64 a0_1), (.bool a0_2), u0_3, u0_4]]) S_15 (Mod.size X_12) MT_13 T_13
        refine RL.opD (by decide) (opv_not rfl rfl) ?_
        refine RL.opD (by decide) (opv_move rfl rfl) ?_
        refine RL.yes _ rfl rfl c2 (by decide) (opv_move rfl rfl) ?_
        rintro _ _ ⟨rfl, rfl⟩
        refine RL.yes _ rfl rfl c2 (by decide) (opv_move rfl rfl) ?_
        rintro _ _ ⟨rfl, rfl⟩
        refine RL.yes _ rfl rfl c2 (by decide) (opv_bcmp rfl rfl Try.underlying4 rfl rfl) ?_
        rintro _ _ ⟨rfl, rfl⟩
        refine RL.opD (by decide) (opv_pick rfl rfl (fun e => absurd (Eq.trans (Eq.symm e) c2) (by decide)) (fun _ => rfl) rfl) ?_
        refine RL.nil ?_
        have ey1 := Option.some.inj hy1
        subst ey1
        refine onlyN ?_
        exact ⟨⟨rfl, rfl, rfl, rfl, rfl, rfl, rfl, rfl, rfl, rfl, rfl, rfl, rfl, rfl, trivial⟩, X_13, (Sep.sel S_16 [0, 1, 2, 3, 4, 5, 6, 7, 8, 9, 10, 11, 12, 13] (by decide))⟩
    rintro φ' hp14 ⟨hs1, X_14, S_17⟩
    refine thnN ?_
    refine W.sub hs1 ?_
    by_cases c3 : x6 = true
    · rw [if_pos c3] at hp
      refine W.condT rfl c3 ?_
      refine W.seq ?_
      refine W.region ?_
      refine RL.opD (by decide) (opv_assign rfl rfl) ?_
      refine RL.nil ?_
      refine thnN ?_
      refine W.ret ?_
      refine thnR ?_
      have er := Option.some.inj hp
      subst er
      exact Rt.one rfl rfl ⟨rfl, X_14, (Sep.nil _ _ _)⟩
    · rw [if_neg c3] at hp
      have c3 := eq_false_of_ne_true c3
      refine W.condF rfl c3 ?_
      refine W.skip ?_
      refine thnN ?_
      refine W.seq ?_
      refine W.seq ?_
      obtain ⟨x8, hx8, hp⟩ := Option.bind_eq_some_iff.1 hp
      obtain ⟨x9, hx9, hp⟩ := Option.bind_eq_some_iff.1 hp
      refine W.sub (ψ := [(0, (.agg (List.toArray (α := Value) [(.int .i64 a0_0), (.int .i64 a0_1), (.bool a0_2), u0_3, u0_4]))), (1, (.int .i64 a1)), (2, (.int .i64 a2)), (3, u3), (4, (.pointer (some ⟨bb1, 0, none⟩))), (8, (.bool false)), (9, (.int .i64 x1)), (24, (.bool (decide (x1 < 0)))), (10, (.pointer (some ⟨bb2, 0, none⟩))), (11, (.bool x3.2.2.2)), (12, (.pointer (some ⟨bb3, 0, none⟩))), (13, (.pointer (some ⟨bb4, 0, none⟩))), (14, (.bool x5.2.2.2)), (52, (.bool x6))]) ⟨rfl, rfl, rfl, rfl, rfl, rfl, rfl, rfl, rfl, rfl, rfl, rfl, rfl, rfl, trivial⟩ ?_
      refine W.regionM [fun v _ => @Eq Value (.agg (List.toArray (α := Value) [(.int .i64 x4.1), (.int .i64 x4.2.1), (.bool x4.2.2.1), v6, v7])) v, fun v _ => @Eq Value (.agg (List.toArray (α := Value) [(.int .i64 a0_0), (.int .i64 a0_1), (.bool a0_2), u0_3, u0_4])) v, fun v h => ∃ v11, ∃ v12, @Eq Value v (.agg (List.toArray (α := Value) [(.int .i64 x8.1), (.int .i64 x8.2.1), (.bool x8.2.2.1), v11, v12])) ∧ Sep [] hp14.size h [ownO (kF .f32) 25 v11 x8.2.2.2.1, ownO (kF .f32) 25 v12 x8.2.2.2.2], fun v h => @Eq Value v (.bool x9) ∧ Sep [] hp14.size h [], fun v _ => @Eq Value (.bool (!x9)) v] [none, none, some (fun u => [Value.ownBlock (vget u 3), Value.ownBlock (vget u 4)]), some (fun u => []), none] [] [[], [], [1], [0, 2], [3]] [4] Try.mixed (by decide +kernel) (by decide +kernel) rfl rfl rfl (by decide +kernel) rfl ⟨fun _ _ _ h _ => h, fun _ _ _ h _ => h, fun _ _ _ ⟨u0_, u1_, e, h⟩ x => ⟨u0_, u1_, e, h.ext x⟩, fun _ _ _ ⟨e, h⟩ x => ⟨e, h.ext x⟩, fun _ _ _ h _ => h, trivial⟩ ?_ ?_
      · refine ⟨⟨rfl, ?_⟩, ⟨rfl, ?_⟩, ⟨rfl, ?_⟩, ⟨rfl, ?_⟩, ⟨rfl, ?_⟩, trivial⟩
        · rintro hp17 E_1
          refine Dep.nil ?_
          refine GuardOK.none rfl ?_
          exact OpV.toDx (opv_loadA (us := [(.int .i64 x4.1), (.int .i64 x4.2.1), (.bool x4.2.2.1), v6, v7]) rfl Try.agg31 Try.size31 rfl (Sep.at (o := boxO bb3 [(.int .i64 x4.1), (.int .i64 x4.2.1), (.bool x4.2.2.1), v6, v7]) (Sep.ext S_17 E_1) 4 rfl) rfl rfl) rfl
        · rintro hp18 E_2
          refine Dep.nil ?_
          refine GuardOK.none rfl ?_
          exact OpV.toDx (opv_loadA (us := [(.int .i64 a0_0), (.int .i64 a0_1), (.bool a0_2), u0_3, u0_4]) rfl Try.agg24 Try.size24 rfl (Sep.at (o := boxO bb1 [(.int .i64 a0_0), (.int .i64 a0_1), (.bool a0_2), u0_3, u0_4]) (Sep.ext S_17 E_2) 13 rfl) rfl rfl) rfl
        · rintro hp19 E_3 _ rfl
          refine Dep.nil ?_
          refine GuardOK.none rfl ?_
          exact OpV.mono (opv_call (cap := []) (laws_toSheet_ok _ _ _ _ _ _ (SL.up (SL.mod g0_3 (Mod.lift X_14 E_3) (Nat.le_refl _) nob) (Nat.le_trans (Nat.le_refl _) (Mod.size (Mod.lift X_14 E_3)))) _ _ (SL.up (SL.mod g0_4 (Mod.lift X_14 E_3) (Nat.le_refl _) nob) (Nat.le_trans (Nat.le_refl _) (Mod.size (Mod.lift X_14 E_3)))) _ hx8) rfl rfl ⟨rfl, trivial⟩ Try.func14 rfl rfl) (by rintro _ _ ⟨v11, v12, rfl, M_, T_⟩; exact ⟨Mod.ext M_, ⟨v11, v12, rfl, Sep.weak T_ (Ext.size E_3)⟩, Sep.fresh T_⟩)
        · rintro hp20 E_4 _ rfl _ ⟨v11, v12, rfl, T_14⟩
          refine Dep.nil ?_
          refine GuardOK.none rfl ?_
          exact OpV.mono (opv_call (cap := []) (laws_eqSheet_ok _ _ _ _ _ _ (ownO.read (Sep.at (o := ownO (kF .f32) 25 v6 x4.2.2.2.1) (Sep.ext S_17 E_4) 5 rfl)) _ _ (ownO.read (Sep.at (o := ownO (kF .f32) 25 v7 x4.2.2.2.2) (Sep.ext S_17 E_4) 6 rfl)) _ _ _ _ _ (ownO.read (Sep.at (o := ownO (kF .f32) 25 v11 x8.2.2.2.1) T_14 0 rfl)) _ _ (ownO.read (Sep.at (o := ownO (kF .f32) 25 v12 x8.2.2.2.2) T_14 1 rfl)) _ hx9) rfl rfl ⟨rfl, rfl, trivial⟩ Try.func17 rfl rfl) (by rintro _ _ ⟨rfl, M_, T_⟩; exact ⟨Mod.ext M_, ⟨rfl, Sep.weak T_ (Ext.size E_4)⟩, Sep.fresh T_⟩)
        · rintro hp21 E_5 _ ⟨rfl, T_15⟩
          refine Dep.nil ?_
          refine GuardOK.none rfl ?_
          exact OpV.toDx (opv_not rfl rfl) rfl
      rintro hp22 E_6 _ rfl
      refine DepM.nil ?_
      intro _ LK_
      have X_17 : Mod [] h0 hp22 := Mod.lift X_14 E_6
      have S_20 : Sep [] h0.size hp22 [boxO bb4 [v8, v9, v10], ownO (kF .f32) 25 v8 x5.1, ownO (kF .f32) 25 v9 x5.2.1, ownO (kF .f32) 25 v10 x5.2.2.1, boxO bb3 [(.int .i64 x4.1), (.int .i64 x4.2.1), (.bool x4.2.2.1), v6, v7], ownO (kF .f32) 25 v6 x4.2.2.2.1, ownO (kF .f32) 25 v7 x4.2.2.2.2, boxO bb2 [v3, v4, v5], ownO (kF .f32) 25 v3 x3.1, ownO (kF .f32) 25 v4 x3.2.1, ownO (kF .f32) 25 v5 x3.2.2.1, ownO (kF .f32) 25 v1 x2.2.2.2.1, ownO (kF .f32) 25 v2 x2.2.2.2.2, boxO bb1 [(.int .i64 a0_0), (.int .i64 a0_1), (.bool a0_2), u0_3, u0_4]] := Sep.ext S_17 E_6
      show RL _ _ _ _ [] _ _
      refine RL.nil ?_
      refine thnN ?_
      by_cases c4 : (!x9) = true
      · rw [if_pos c4] at hp
        refine W.condT rfl c4 ?_
        refine W.seq ?_
        refine W.region ?_
        refine RL.opD (by decide) (opv_assign rfl rfl) ?_
        refine RL.nil ?_
        refine thnN ?_
        refine W.ret ?_
        refine thnR ?_
        have er := Option.some.inj hp
        subst er
        exact Rt.one rfl rfl ⟨rfl, X_17, (Sep.nil _ _ _)⟩
      · rw [if_neg c4] at hp
        have c4 := eq_false_of_ne_true c4
        refine W.condF rfl c4 ?_
        refine W.skip ?_
        refine thnN ?_
        refine W.seq ?_
        refine W.region ?_
        refine RL.opD (by decide) (opv_assign rfl rfl) ?_
        refine RL.nil ?_
        refine thnN ?_
        refine W.seq ?_
        obtain ⟨x10, hx10, hp⟩ := Option.bind_eq_some_iff.1 hp
        refine W.region ?_
        refine RL.opD (by decide) (opv_loadA (us := [(.int .i64 x4.1), (.int .i64 x4.2.1), (.bool x4.2.2.1), v6, v7]) rfl Try.agg31 Try.size31 rfl (Sep.at (o := boxO bb3 [(.int .i64 x4.1), (.int .i64 x4.2.1), (.bool x4.2.2.1), v6, v7]) S_20 4 rfl) rfl rfl) ?_
        refine RL.opD (by decide) (opv_move rfl rfl) ?_
        have S_22 : Sep [] h0.size hp22 [ownO (kF .f32) 25 v6 x4.2.2.2.1, ownO (kF .f32) 25 v7 x4.2.2.2.2] := Sep.sel S_20 [5, 6] (by decide)
        have S_21 : Sep [v6.ownBlock, v7.ownBlock] hp22.size hp22 [ownO (kF .f32) 25 v6 x4.2.2.2.1, ownO (kF .f32) 25 v7 x4.2.2.2.2] := Sep.own S_22 _
        refine RL.op _ (by decide) (opv_call (cap := []) (laws_markSheet_ok _ h0.size (Nat.le_trans (Nat.le_refl _) (Mod.size X_17)) _ _ _ _ _ _ _ _ S_21 (Sep.ge (L := [ownO (kF .f32) 25 v6 x4.2.2.2.1, ownO (kF .f32) 25 v7 x4.2.2.2.2]) S_22 (Nat.le_refl _) nob) _ hx10) rfl rfl ⟨rfl, rfl, trivial⟩ Try.func18 rfl rfl) ?_
        rintro _ hp23 ⟨rfl, MT_16, T_16⟩
        have S_23 : Sep [] h0.size hp22 ([ownO (kF .f32) 25 v6 x4.2.2.2.1, ownO (kF .f32) 25 v7 x4.2.2.2.2] ++ [boxO bb4 [v8, v9, v10], ownO (kF .f32) 25 v8 x5.1, ownO (kF .f32) 25 v9 x5.2.1, ownO (kF .f32) 25 v10 x5.2.2.1, boxO bb3 [(.int .i64 x4.1), (.int .i64 x4.2.1), (.bool x4.2.2.1), v6, v7], boxO bb2 [v3, v4, v5], ownO (kF .f32) 25 v3 x3.1, ownO (kF .f32) 25 v4 x3.2.1, ownO (kF .f32) 25 v5 x3.2.2.1, ownO (kF .f32) 25 v1 x2.2.2.2.1, ownO (kF .f32) 25 v2 x2.2.2.2.2, boxO bb1 [(.int .i64 a0_0), (.int .i64 a0_1), (.bool a0_2), u0_3, u0_4]]) := Sep.sel S_20 [5, 6, 0, 1, 2, 3, 4, 7, 8, 9, 10, 11, 12, 13] (by decide)
        have X_18 : Mod [] h0 hp23 := Mod.step (A := [ownO (kF .f32) 25 v6 x4.2.2.2.1, ownO (kF .f32) 25 v7 x4.2.2.2.2]) (L := [boxO bb4 [v8, v9, v10], ownO (kF .f32) 25 v8 x5.1, ownO (kF .f32) 25 v9 x5.2.1, ownO (kF .f32) 25 v10 x5.2.2.1, boxO bb3 [(.int .i64 x4.1), (.int .i64 x4.2.1), (.bool x4.2.2.1), v6, v7], boxO bb2 [v3, v4, v5], ownO (kF .f32) 25 v3 x3.1, ownO (kF .f32) 25 v4 x3.2.1, ownO (kF .f32) 25 v5 x3.2.2.1, ownO (kF .f32) 25 v1 x2.2.2.2.1, ownO (kF .f32) 25 v2 x2.2.2.2.2, boxO bb1 [(.int .i64 a0_0), (.int .i64 a0_1), (.bool a0_2), u0_3, u0_4]]) X_17 S_23 MT_16
        have S_24 : Sep [] h0.size hp23 [ownO (kF .f32) 25 v6 x10.2.1, ownO (kF .f32) 25 v7 x10.2.2, boxO bb4 [v8, v9, v10], ownO (kF .f32) 25 v8 x5.1, ownO (kF .f32) 25 v9 x5.2.1, ownO (kF .f32) 25 v10 x5.2.2.1, boxO bb3 [(.int .i64 x4.1), (.int .i64 x4.2.1), (.bool x4.2.2.1), v6, v7], boxO bb2 [v3, v4, v5], ownO (kF .f32) 25 v3 x3.1, ownO (kF .f32) 25 v4 x3.2.1, ownO (kF .f32) 25 v5 x3.2.2.1, ownO (kF .f32) 25 v1 x2.2.2.2.1, ownO (kF .f32) 25 v2 x2.2.2.2.2, boxO bb1 [(.int .i64 a0_0), (.int .i64 a0_1), (.bool a0_2), u0_3, u0_4]] := Sep.step (A := [ownO (kF .f32) 25 v6 x4.2.2.2.1, ownO (kF .f32) 25 v7 x4.2.2.2.2]) (L := [boxO bb4 [v8, v9, v10], ownO (kF .f32) 25 v8 x5.1, ownO (kF .f32) 25 v9 x5.2.1, ownO (kF .f32) 25 v10 x5.2.2.1, boxO bb3 [(.int .i64 x4.1), (.int .i64 x4.2.1), (.bool x4.2.2.1), v6, v7], boxO bb2 [v3, v4, v5], ownO (kF .f32) 25 v3 x3.1, ownO (kF .f32) 25 v4 x3.2.1, ownO (kF .f32) 25 v5 x3.2.2.1, ownO (kF .f32) 25 v1 x2.2.2.2.1, ownO (kF .f32) 25 v2 x2.2.2.2.2, boxO bb1 [(.int .i64 a0_0), (.int .i64 a0_1), (.bool a0_2), u0_3, u0_4]]) S_23 (Mod.size X_17) MT_16 T_16
        refine RL.opD (by decide) (opv_assign rfl rfl) ?_
        refine RL.nil ?_
        refine thnN ?_
        refine W.seq ?_
        refine W.seq ?_
        obtain ⟨x11, hy2, hp⟩ := Option.bind_eq_some_iff.1 hp
        refine W.cut (fun φ' h' => Fr.sub [(0, (.agg (List.toArray (α := Value) [(.int .i64 a0_0), (.int .i64 a0_1), (.bool a0_2), u0_3, u0_4]))), (1, (.int .i64 a1)), (2, (.int .i64 a2)), (3, u3), (4, (.pointer (some ⟨bb1, 0, none⟩))), (8, (.bool false)), (9, (.int .i64 x1)), (24, (.bool (decide (x1 < 0)))), (10, (.pointer (some ⟨bb2, 0, none⟩))), (11, (.bool x3.2.2.2)), (12, (.pointer (some ⟨bb3, 0, none⟩))), (13, (.pointer (some ⟨bb4, 0, none⟩))), (14, (.bool x5.2.2.2)), (52, (.bool x6)), (57, (.bool (!x9))), (15, (.int .i64 x10.1)), (73, (.bool x11))] φ' ∧ Mod [] h0 h' ∧ Sep [] h0.size h' [ownO (kF .f32) 25 v6 x10.2.1, ownO (kF .f32) 25 v7 x10.2.2, boxO bb4 [v8, v9, v10], ownO (kF .f32) 25 v8 x5.1, ownO (kF .f32) 25 v9 x5.2.1, ownO (kF .f32) 25 v10 x5.2.2.1, boxO bb3 [(.int .i64 x4.1), (.int .i64 x4.2.1), (.bool x4.2.2.1), v6, v7], boxO bb2 [v3, v4, v5], ownO (kF .f32) 25 v3 x3.1, ownO (kF .f32) 25 v4 x3.2.1, ownO (kF .f32) 25 v5 x3.2.2.1, ownO (kF .f32) 25 v1 x2.2.2.2.1, ownO (kF .f32) 25 v2 x2.2.2.2.2, boxO bb1 [(.int .i64 a0_0), (.int .i64 a0_1), (.bool a0_2), u0_3, u0_4]]) ?_ ?_
        · by_cases c5 : (decide (x10.1 < 0)) = true
          · rw [if_pos c5] at hy2
            refine W.region ?_
            refine RL.opD (by decide) (opv_move rfl rfl) ?_
            refine RL.opD (by decide) (opv_icmp rfl rfl rfl rfl) ?_
            refine RL.opD (by decide) (opv_move rfl rfl) ?_
            refine RL.no rfl rfl (Eq.trans c5 (by decide)) (by decide) ?_
            refine RL.no rfl rfl (Eq.trans c5 (by decide)) (by decide) ?_
            refine RL.no rfl rfl (Eq.trans c5 (by decide)) (by decide) ?_
            refine RL.no rfl rfl (Eq.trans c5 (by decide)) (by decide) ?_
            refine RL.opD (by decide) (opv_pick rfl rfl (fun _ => rfl) (fun e => absurd (Eq.trans (Eq.symm e) c5) (by decide)) rfl) ?_
            refine RL.opD (by decide) (opv_move rfl rfl) ?_
            refine RL.no rfl rfl (Eq.trans rfl (by decide)) (by decide) ?_
            refine RL.no rfl rfl (Eq.trans rfl (by decide)) (by decide) ?_
            refine RL.no rfl rfl (Eq.trans rfl (by decide)) (by decide) ?_
            refine RL.opD (by decide) (opv_pick rfl rfl (fun _ => rfl) (fun e => absurd (Eq.trans (Eq.symm e) rfl) (by decide)) rfl) ?_
            refine RL.nil ?_
            have ey2 := Option.some.inj hy2
            subst ey2
            refine onlyN ?_
            exact ⟨⟨rfl, rfl, rfl, rfl, rfl, rfl, rfl, rfl, rfl, rfl, rfl, rfl, rfl, rfl, rfl, rfl, rfl, trivial⟩, X_18, (Sep.sel S_24 [0, 1, 2, 3, 4, 5, 6, 7, 8, 9, 10, 11, 12, 13] (by decide))⟩
          · rw [if_neg c5] at hy2
            have c5 := eq_false_of_ne_true c5
            obtain ⟨x12, hx12, hy2⟩ := Option.bind_eq_some_iff.1 hy2
            by_cases c6 : (!x12) = true
            · rw [if_pos c6] at hy2
              refine W.region ?_
              refine RL.opD (by decide) (opv_move rfl rfl) ?_
              refine RL.opD (by decide) (opv_icmp rfl rfl rfl rfl) ?_
              refine RL.opD (by decide) (opv_move rfl rfl) ?_
              refine RL.yes _ rfl rfl c5 (by decide) (opv_loadA (us := [v8, v9, v10]) rfl Try.agg28 Try.size28 rfl (Sep.at (o := boxO bb4 [v8, v9, v10]) S_24 2 rfl) rfl rfl) ?_
              rintro _ _ ⟨rfl, rfl⟩
              refine RL.yes _ rfl rfl c5 (by decide) (opv_loadA (us := [v3, v4, v5]) rfl Try.agg28 Try.size28 rfl (Sep.at (o := boxO bb2 [v3, v4, v5]) S_24 7 rfl) rfl rfl) ?_
              rintro _ _ ⟨rfl, rfl⟩
              refine RL.yes _ rfl rfl c5 (by decide) (opv_call (cap := []) (laws_eqField_ok _ _ _ (ownO.read (Sep.at (o := ownO (kF .f32) 25 v8 x5.1) S_24 3 rfl)) _ _ (ownO.read (Sep.at (o := ownO (kF .f32) 25 v9 x5.2.1) S_24 4 rfl)) _ _ (ownO.read (Sep.at (o := ownO (kF .f32) 25 v10 x5.2.2.1) S_24 5 rfl)) _ _ (ownO.read (Sep.at (o := ownO (kF .f32) 25 v3 x3.1) S_24 8 rfl)) _ _ (ownO.read (Sep.at (o := ownO (kF .f32) 25 v4 x3.2.1) S_24 9 rfl)) _ _ (ownO.read (Sep.at (o := ownO (kF .f32) 25 v5 x3.2.2.1) S_24 10 rfl)) _ hx12) rfl rfl ⟨rfl, rfl, trivial⟩ Try.func16 rfl rfl) ?_
              rintro _ hp24 ⟨rfl, MT_17, T_17⟩
              have X_19 : Mod [] h0 hp24 := Mod.step (A := []) (L := [ownO (kF .f32) 25 v6 x10.2.1, ownO (kF .f32) 25 v7 x10.2.2, boxO bb4 [v8, v9, v10], ownO (kF .f32) 25 v8 x5.1, ownO (kF .f32) 25 v9 x5.2.1, ownO (kF .f32) 25 v10 x5.2.2.1, boxO bb3 [(.int .i64 x4.1), (.int .i64 x4.2.1), (.bool x4.2.2.1), v6, v7], boxO bb2 [v3, v4, v5], ownO (kF .f32) 25 v3 x3.1, ownO (kF .f32) 25 v4 x3.2.1, ownO (kF .f32) 25 v5 x3.2.2.1, ownO (kF .f32) 25 v1 x2.2.2.2.1, ownO (kF .f32) 25 v2 x2.2.2.2.2, boxO bb1 [(.int .i64 a0_0), (.int .i64 a0_1), (.bool a0_2), u0_3, u0_4]]) X_18 S_24 MT_17
              have S_25 : Sep [] h0.size hp24 [ownO (kF .f32) 25 v6 x10.2.1, ownO (kF .f32) 25 v7 x10.2.2, boxO bb4 [v8, v9, v10], ownO (kF .f32) 25 v8 x5.1, ownO (kF .f32) 25 v9 x5.2.1, ownO (kF .f32) 25 v10 x5.2.2.1, boxO bb3 [(.int .i64 x4.1), (.int .i64 x4.2.1), (.bool x4.2.2.1), v6, v7], boxO bb2 [v3, v4, v5], ownO (kF .f32) 25 v3 x3.1, ownO (kF .f32) 25 v4 x3.2.1, ownO (kF .f32) 25 v5 x3.2.2.1, ownO (kF .f32) 25 v1 x2.2.2.2.1, ownO (kF .f32) 25 v2 x2.2.2.2.2, boxO bb1 [(.int .i64 a0_0), (.int .i64 a0_1), (.bool a0_2), u0_3, u0_4]] := Sep.step (A := []) (L := [ownO (kF .f32) 25 v6 x10.2.1, ownO (kF .f32) 25 v7 x10.2.2, boxO bb4 [v8, v9, v10], ownO (kF .f32) 25 v8 x5.1, ownO (kF .f32) 25 v9 x5.2.1, ownO (kF .f32) 25 v10 x5.2.2.1, boxO bb3 [(.int .i64 x4.1), (.int .i64 x4.2.1), (.bool x4.2.2.1), v6, v7], boxO bb2 [v3, v4, v5], ownO (kF .f32) 25 v3 x3.1, ownO (kF .f32) 25 v4 x3.2.1, ownO (kF .f32) 25 v5 x3.2.2.1, ownO (kF .f32) 25 v1 x2.2.2.2.1, ownO (kF .f32) 25 v2 x2.2.2.2.2, boxO bb1 [(.int .i64 a0_0), (.int .i64 a0_1), (.bool a0_2), u0_3, u0_4]]) S_24 (Mod.size X_18) MT_17 T_17
              refine RL.yes _ rfl rfl c5 (by decide) (opv_not rfl rfl) ?_
              rintro _ _ ⟨rfl, rfl⟩
              refine RL.opD (by decide) (opv_pick rfl rfl (fun e => absurd (Eq.trans (Eq.symm e) c5) (by decide)) (fun _ => rfl) rfl) ?_
              refine RL.opD (by decide) (opv_move rfl rfl) ?_
              refine RL.no rfl rfl (Eq.trans c6 (by decide)) (by decide) ?_
              refine RL.no rfl rfl (Eq.trans c6 (by decide)) (by decide) ?_
              refine RL.no rfl rfl (Eq.trans c6 (by decide)) (by decide) ?_
              refine RL.opD (by decide) (opv_pick rfl rfl (fun _ => rfl) (fun e => absurd (Eq.trans (Eq.symm e) c6) (by decide)) rfl) ?_
              refine RL.nil ?_
              have ey2 := Option.some.inj hy2
              subst ey2
              refine onlyN ?_
              exact ⟨⟨rfl, rfl, rfl, rfl, rfl, rfl, rfl, rfl, rfl, rfl, rfl, rfl, rfl, rfl, rfl, rfl, rfl, trivial⟩, X_19, (Sep.sel S_25 [0, 1, 2, 3, 4, 5, 6, 7, 8, 9, 10, 11, 12, 13] (by decide))⟩
            · rw [if_neg c6] at hy2
              have c6 := eq_false_of_ne_true c6
              refine W.region ?_
              refine RL.opD (by decide) (opv_move rfl rfl) ?_
              refine RL.opD (by decide) (opv_icmp rfl rfl rfl rfl) ?_
              refine RL.opD (by decide) (opv_move rfl rfl) ?_
              refine RL.yes _ rfl rfl c5 (by decide) (opv_loadA (us := [v8, v9, v10]) rfl Try.agg28 Try.size28 rfl (Sep.at (o := boxO bb4 [v8, v9, v10]) S_24 2 rfl) rfl rfl) ?_
              rintro _ _ ⟨rfl, rfl⟩
              refine RL.yes _ rfl rfl c5 (by decide) (opv_loadA (us := [v3, v4, v5]) rfl Try.agg28 Try.size28 rfl (Sep.at (o := boxO bb2 [v3, v4, v5]) S_24 7 rfl) rfl rfl) ?_
              rintro _ _ ⟨rfl, rfl⟩
              refine RL.yes _ rfl rfl c5 (by decide) (opv_call (cap := []) (laws_eqField_ok _ _ _ (ownO.read (Sep.at (o := ownO (kF .f32) 25 v8 x5.1) S_24 3 rfl)) _ _ (ownO.read (Sep.at (o := ownO (kF .f32) 25 v9 x5.2.1) S_24 4 rfl)) _ _ (ownO.read (Sep.at (o := ownO (kF .f32) 25 v10 x5.2.2.1) S_24 5 rfl)) _ _ (ownO.read (Sep.at (o := ownO (kF .f32) 25 v3 x3.1) S_24 8 rfl)) _ _ (ownO.read (Sep.at (o := ownO (kF .f32) 25 v4 x3.2.1) S_24 9 rfl)) _ _ (ownO.read (Sep.at (o := ownO (kF .f32) 25 v5 x3.2.2.1) S_24 10 rfl)) _ hx12) rfl rfl ⟨rfl, rfl, trivial⟩ Try.func16 rfl rfl) ?_
              rintro _ hp24 ⟨rfl, MT_17, T_17⟩
              have X_19 : Mod [] h0 hp24 := Mod.step (A := []) (L := [ownO (kF .f32) 25 v6 x10.2.1, ownO (kF .f32) 25 v7 x10.2.2, boxO bb4 [v8, v9, v10], ownO (kF .f32) 25 v8 x5.1, ownO (kF .f32) 25 v9 x5.2.1, ownO (kF .f32) 25 v10 x5.2.2.1, boxO bb3 [(.int .i64 x4.1), (.int .i64 x4.2.1), (.bool x4.2.2.1), v6, v7], boxO bb2 [v3, v4, v5], ownO (kF .f32) 25 v3 x3.1, ownO (kF .f32) 25 v4 x3.2.1, ownO (kF .f32) 25 v5 x3.2.2.1, ownO (kF .f32) 25 v1 x2.2.2.2.1, ownO (kF .f32) 25 v2 x2.2.2.2.2, boxO bb1 [(.int .i64 a0_0), (.int .i64 a0_1), (.bool a0_2), u0_3, u0_4]]) X_18 S_24 MT_17
              have S_25 : Sep [] h0.size hp24 [ownO (kF .f32) 25 v6 x10.2.1, ownO (kF .f32) 25 v7 x10.2.2, boxO bb4 [v8, v9, v10], ownO (kF .f32) 25 v8 x5.1, ownO (kF .f32) 25 v9 x5.2.1, ownO (kF .f32) 25 v10 x5.2.2.1, boxO bb3 [(.int .i64 x4.1), (.int .i64 x4.2.1), (.bool x4.2.2.1), v6, v7], boxO bb2 [v3, v4, v5], ownO (kF .f32) 25 v3 x3.1, ownO (kF .f32) 25 v4 x3.2.1, ownO (kF .f32) 25 v5 x3.2.2.1, ownO (kF .f32) 25 v1 x2.2.2.2.1, ownO (kF .f32) 25 v2 x2.2.2.2.2, boxO bb1 [(.int .i64 a0_0), (.int .i64 a0_1), (.bool a0_2), u0_3, u0_4]] := Sep.step (A := []) (L := [ownO (kF .f32) 25 v6 x10.2.1, ownO (kF .f32) 25 v7 x10.2.2, boxO bb4 [v8, v9, v10], ownO (kF .f32) 25 v8 x5.1, ownO (kF .f32) 25 v9 x5.2.1, ownO (kF .f32) 25 v10 x5.2.2.1, boxO bb3 [(.int .i64 x4.1), (.int .i64 x4.2.1), (.bool x4.2.2.1), v6, v7], boxO bb2 [v3, v4, v5], ownO (kF .f32) 25 v3 x3.1, ownO (kF .f32) 25 v4 x3.2.1, ownO (kF .f32) 25 v5 x3.2.2.1, ownO (kF .f32) 25 v1 x2.2.2.2.1, ownO (kF .f32) 25 v2 x2.2.2.2.2, boxO bb1 [(.int .i64 a0_0), (.int .i64 a0_1), (.bool a0_2), u0_3, u0_4]]) S_24 (Mod.size X_18) MT_17 T_17
              refine RL.yes _ rfl rfl c5 (by decide) (opv_not rfl rfl) ?_
              rintro _ _ ⟨rfl, rfl⟩
              refine RL.opD (by decide) (opv_pick rfl rfl (fun e => absurd (Eq.trans (Eq.symm e) c5) (by decide)) (fun _ => rfl) rfl) ?_
              refine RL.opD (by decide) (opv_move rfl rfl) ?_
              refine RL.yes _ rfl rfl c6 (by decide) (opv_move rfl rfl) ?_
              rintro _ _ ⟨rfl, rfl⟩
              refine RL.yes _ rfl rfl c6 (by decide) (opv_move rfl rfl) ?_
              rintro _ _ ⟨rfl, rfl⟩
              refine RL.yes _ rfl rfl c6 (by decide) (opv_bcmp rfl rfl Try.underlying4 rfl rfl) ?_
              rintro _ _ ⟨rfl, rfl⟩
              refine RL.opD (by decide) (opv_pick rfl rfl (fun e => absurd (Eq.trans (Eq.symm e) c6) (by decide)) (fun _ => rfl) rfl) ?_
              refine RL.nil ?_
              have ey2 := Option.some.inj hy2
              subst ey2
              refine onlyN ?_
              exact ⟨⟨rfl, rfl, rfl, rfl, rfl, rfl, rfl, rfl, rfl, rfl, rfl, rfl, rfl, rfl, rfl, rfl, rfl, trivial⟩, X_19, (Sep.sel S_25 [0, 1, 2, 3, 4, 5, 6, 7, 8, 9, 10, 11, 12, 13] (by decide))⟩
        rintro φ' hp25 ⟨hs2, X_20, S_26⟩
        refine thnN ?_
        refine W.sub hs2 ?_
        by_cases c7 : x11 = true
        · rw [if_pos c7] at hp
          refine W.condT rfl c7 ?_
          refine W.seq ?_
          refine W.region ?_
          refine RL.opD (by decide) (opv_assign rfl rfl) ?_
          refine RL.nil ?_
          refine thnN ?_
          refine W.ret ?_
          refine thnR ?_
          have er := Option.some.inj hp
          subst er
          exact Rt.one rfl rfl ⟨rfl, X_20, (Sep.nil _ _ _)⟩
        · rw [if_neg c7] at hp
          have c7 := eq_false_of_ne_true c7
          refine W.condF rfl c7 ?_
          refine W.skip ?_
          refine thnN ?_
          refine W.seq ?_
          refine W.region ?_
          refine RL.opD (by decide) (opv_assign rfl rfl) ?_
          refine RL.nil ?_
          refine thnN ?_
          refine W.seq ?_
          obtain ⟨x13, hx13, hp⟩ := Option.bind_eq_some_iff.1 hp
          refine W.region ?_
          refine RL.opD (by decide) (opv_loadA (us := [v8, v9, v10]) rfl Try.agg28 Try.size28 rfl (Sep.at (o := boxO bb4 [v8, v9, v10]) S_26 2 rfl) rfl rfl) ?_
          refine RL.opD (by decide) (opv_move rfl rfl) ?_
          have S_28 : Sep [] h0.size hp25 [ownO (kF .f32) 25 v8 x5.1, ownO (kF .f32) 25 v9 x5.2.1, ownO (kF .f32) 25 v10 x5.2.2.1] := Sep.sel S_26 [3, 4, 5] (by decide)
          have S_27 : Sep [v8.ownBlock, v9.ownBlock, v10.ownBlock] hp25.size hp25 [ownO (kF .f32) 25 v8 x5.1, ownO (kF .f32) 25 v9 x5.2.1, ownO (kF .f32) 25 v10 x5.2.2.1] := Sep.own S_28 _
          refine RL.op _ (by decide) (opv_call (cap := []) (laws_markField_ok _ h0.size (Nat.le_trans (Nat.le_refl _) (Mod.size X_20)) _ _ _ _ _ _ _ S_27 (Sep.ge (L := [ownO (kF .f32) 25 v8 x5.1, ownO (kF .f32) 25 v9 x5.2.1, ownO (kF .f32) 25 v10 x5.2.2.1]) S_28 (Nat.le_refl _) nob) _ hx13) rfl rfl ⟨rfl, rfl, trivial⟩ Try.func19 rfl rfl) ?_
          rintro _ hp26 ⟨rfl, MT_18, T_18⟩
          have S_29 : Sep [] h0.size hp25 ([ownO (kF .f32) 25 v8 x5.1, ownO (kF .f32) 25 v9 x5.2.1, ownO (kF .f32) 25 v10 x5.2.2.1] ++ [ownO (kF .f32) 25 v6 x10.2.1, ownO (kF .f32) 25 v7 x10.2.2, boxO bb4 [v8, v9, v10], boxO bb3 [(.int .i64 x4.1), (.int .i64 x4.2.1), (.bool x4.2.2.1), v6, v7], boxO bb2 [v3, v4, v5], ownO (kF .f32) 25 v3 x3.1, ownO (kF .f32) 25 v4 x3.2.1, ownO (kF .f32) 25 v5 x3.2.2.1, ownO (kF .f32) 25 v1 x2.2.2.2.1, ownO (kF .f32) 25 v2 x2.2.2.2.2, boxO bb1 [(.int .i64 a0_0), (.int .i64 a0_1), (.bool a0_2), u0_3, u0_4]]) := Sep.sel S_26 [3, 4, 5, 0, 1, 2, 6, 7, 8, 9, 10, 11, 12, 13] (by decide)
          have X_21 : Mod [] h0 hp26 := Mod.step (A := [ownO (kF .f32) 25 v8 x5.1, ownO (kF .f32) 25 v9 x5.2.1, ownO (kF .f32) 25 v10 x5.2.2.1]) (L := [ownO (kF .f32) 25 v6 x10.2.1, ownO (kF .f32) 25 v7 x10.2.2, boxO bb4 [v8, v9, v10], boxO bb3 [(.int .i64 x4.1), (.int .i64 x4.2.1), (.bool x4.2.2.1), v6, v7], boxO bb2 [v3, v4, v5], ownO (kF .f32) 25 v3 x3.1, ownO (kF .f32) 25 v4 x3.2.1, ownO (kF .f32) 25 v5 x3.2.2.1, ownO (kF .f32) 25 v1 x2.2.2.2.1, ownO (kF .f32) 25 v2 x2.2.2.2.2, boxO bb1 [(.int .i64 a0_0), (.int .i64 a0_1), (.bool a0_2), u0_3, u0_4]]) X_20 S_29 MT_18
          have S_30 : Sep [] h0.size hp26 [ownO (kF .f32) 25 v8 x13.2.1, ownO (kF .f32) 25 v9 x13.2.2.1, ownO (kF .f32) 25 v10 x13.2.2.2, ownO (kF .f32) 25 v6 x10.2.1, ownO (kF .f32) 25 v7 x10.2.2, boxO bb4 [v8, v9, v10], boxO bb3 [(.int .i64 x4.1), (.int .i64 x4.2.1), (.bool x4.2.2.1), v6, v7], boxO bb2 [v3, v4, v5], ownO (kF .f32) 25 v3 x3.1, ownO (kF .f32) 25 v4 x3.2.1, ownO (kF .f32) 25 v5 x3.2.2.1, ownO (kF .f32) 25 v1 x2.2.2.2.1, ownO (kF .f32) 25 v2 x2.2.2.2.2, boxO bb1 [(.int .i64 a0_0), (.int .i64 a0_1), (.bool a0_2), u0_3, u0_4]] := Sep.step (A := [ownO (kF .f32) 25 v8 x5.1, ownO (kF .f32) 25 v9 x5.2.1, ownO (kF .f32) 25 v10 x5.2.2.1]) (L := [ownO (kF .f32) 25 v6 x10.2.1, ownO (kF .f32) 25 v7 x10.2.2, boxO bb4 [v8, v9, v10], boxO bb3 [(.int .i64 x4.1), (.int .i64 x4.2.1), (.bool x4.2.2.1), v6, v7], boxO bb2 [v3, v4, v5], ownO (kF .f32) 25 v3 x3.1, ownO (kF .f32) 25 v4 x3.2.1, ownO (kF .f32) 25 v5 x3.2.2.1, ownO (kF .f32) 25 v1 x2.2.2.2.1, ownO (kF .f32) 25 v2 x2.2.2.2.2, boxO bb1 [(.int .i64 a0_0), (.int .i64 a0_1), (.bool a0_2), u0_3, u0_4]]) S_29 (Mod.size X_20) MT_18 T_18
          refine RL.opD (by decide) (opv_assign rfl rfl) ?_
          refine RL.nil ?_
          refine thnN ?_
          refine W.seq ?_
          refine W.region ?_
          refine RL.opD (by decide) (opv_assign rfl rfl) ?_
          refine RL.nil ?_
          refine thnN ?_
          refine W.seq ?_
          obtain ⟨x14, hx14, hp⟩ := Option.bind_eq_some_iff.1 hp
          refine W.region ?_
          refine RL.opD (by decide) (opv_loadA (us := [v8, v9, v10]) rfl Try.agg28 Try.size28 rfl (Sep.at (o := boxO bb4 [v8, v9, v10]) S_30 5 rfl) rfl rfl) ?_
          refine RL.opD (by decide) (opv_move rfl rfl) ?_
          refine RL.op _ (by decide) (opv_call (cap := []) (laws_heldField_ok _ _ _ (ownO.read (Sep.at (o := ownO (kF .f32) 25 v8 x13.2.1) S_30 0 rfl)) _ _ (ownO.read (Sep.at (o := ownO (kF .f32) 25 v9 x13.2.2.1) S_30 1 rfl)) _ _ (ownO.read (Sep.at (o := ownO (kF .f32) 25 v10 x13.2.2.2) S_30 2 rfl)) _ _ hx14) rfl rfl ⟨rfl, rfl, trivial⟩ Try.func20 rfl rfl) ?_
          rintro _ hp27 ⟨rfl, MT_19, T_19⟩
          have X_22 : Mod [] h0 hp27 := Mod.step (A := []) (L := [ownO (kF .f32) 25 v8 x13.2.1, ownO (kF .f32) 25 v9 x13.2.2.1, ownO (kF .f32) 25 v10 x13.2.2.2, ownO (kF .f32) 25 v6 x10.2.1, ownO (kF .f32) 25 v7 x10.2.2, boxO bb4 [v8, v9, v10], boxO bb3 [(.int .i64 x4.1), (.int .i64 x4.2.1), (.bool x4.2.2.1), v6, v7], boxO bb2 [v3, v4, v5], ownO (kF .f32) 25 v3 x3.1, ownO (kF .f32) 25 v4 x3.2.1, ownO (kF .f32) 25 v5 x3.2.2.1, ownO (kF .f32) 25 v1 x2.2.2.2.1, ownO (kF .f32) 25 v2 x2.2.2.2.2, boxO bb1 [(.int .i64 a0_0), (.int .i64 a0_1), (.bool a0_2), u0_3, u0_4]]) X_21 S_30 MT_19
          have S_31 : Sep [] h0.size hp27 [ownO (kF .f32) 25 v8 x13.2.1, ownO (kF .f32) 25 v9 x13.2.2.1, ownO (kF .f32) 25 v10 x13.2.2.2, ownO (kF .f32) 25 v6 x10.2.1, ownO (kF .f32) 25 v7 x10.2.2, boxO bb4 [v8, v9, v10], boxO bb3 [(.int .i64 x4.1), (.int .i64 x4.2.1), (.bool x4.2.2.1), v6, v7], boxO bb2 [v3, v4, v5], ownO (kF .f32) 25 v3 x3.1, ownO (kF .f32) 25 v4 x3.2.1, ownO (kF .f32) 25 v5 x3.2.2.1, ownO (kF .f32) 25 v1 x2.2.2.2.1, ownO (kF .f32) 25 v2 x2.2.2.2.2, boxO bb1 [(.int .i64 a0_0), (.int .i64 a0_1), (.bool a0_2), u0_3, u0_4]] := Sep.step (A := []) (L := [ownO (kF .f32) 25 v8 x13.2.1, ownO (kF .f32) 25 v9 x13.2.2.1, ownO (kF .f32) 25 v10 x13.2.2.2, ownO (kF .f32) 25 v6 x10.2.1, ownO (kF .f32) 25 v7 x10.2.2, boxO bb4 [v8, v9, v10], boxO bb3 [(.int .i64 x4.1), (.int .i64 x4.2.1), (.bool x4.2.2.1), v6, v7], boxO bb2 [v3, v4, v5], ownO (kF .f32) 25 v3 x3.1, ownO (kF .f32) 25 v4 x3.2.1, ownO (kF .f32) 25 v5 x3.2.2.1, ownO (kF .f32) 25 v1 x2.2.2.2.1, ownO (kF .f32) 25 v2 x2.2.2.2.2, boxO bb1 [(.int .i64 a0_0), (.int .i64 a0_1), (.bool a0_2), u0_3, u0_4]]) S_30 (Mod.size X_21) MT_19 T_19
          refine RL.opD (by decide) (opv_assign rfl rfl) ?_
          refine RL.nil ?_
          refine thnN ?_
          refine W.seq ?_
          refine W.seq ?_
          refine W.region ?_
          refine RL.opD (by decide) (opv_move rfl rfl) ?_
          refine RL.opD (by decide) (opv_icmp rfl rfl rfl rfl) ?_
          refine RL.nil ?_
          refine thnN ?_
          by_cases c8 : (decide (x14 < 0)) = true
          · rw [if_pos c8] at hp
            refine W.condT rfl c8 ?_
            refine W.seq ?_
            refine W.region ?_
            refine RL.opD (by decide) (opv_assign rfl rfl) ?_
            refine RL.nil ?_
            refine thnN ?_
            refine W.ret ?_
            refine thnR ?_
            have er := Option.some.inj hp
            subst er
            exact Rt.one rfl rfl ⟨rfl, X_22, (Sep.nil _ _ _)⟩
          · rw [if_neg c8] at hp
            have c8 := eq_false_of_ne_true c8
            refine W.condF rfl c8 ?_
            refine W.skip ?_
            refine thnN ?_
            refine W.seq ?_
            refine W.seq ?_
            refine W.region ?_
            refine RL.opD (by decide) (opv_move rfl rfl) ?_
            refine RL.opD (by decide) (opv_move rfl rfl) ?_
            refine RL.opD (by decide) (opv_icmp rfl rfl rfl rfl) ?_
            refine RL.nil ?_
            refine thnN ?_
            by_cases c9 : (x14 != x13.1) = true
            · rw [if_pos c9] at hp
              refine W.condT rfl c9 ?_
              refine W.seq ?_
              refine W.region ?_
              refine RL.opD (by decide) (opv_assign rfl rfl) ?_
              refine RL.nil ?_
              refine thnN ?_
              refine W.ret ?_
              refine thnR ?_
              have er := Option.some.inj hp
              subst er
              exact Rt.one rfl rfl ⟨rfl, X_22, (Sep.nil _ _ _)⟩
            · rw [if_neg c9] at hp
              have c9 := eq_false_of_ne_true c9
              refine W.condF rfl c9 ?_
              refine W.skip ?_
              refine thnN ?_
              refine W.seq ?_
              obtain ⟨x15, hx15, hp⟩ := Option.bind_eq_some_iff.1 hp
              obtain ⟨x16, hx16, hp⟩ := Option.bind_eq_some_iff.1 hp
              refine W.region ?_
              refine RL.opD (by decide) (opv_loadA (us := [(.int .i64 a0_0), (.int .i64 a0_1), (.bool a0_2), u0_3, u0_4]) rfl Try.agg24 Try.size24 rfl (Sep.at (o := boxO bb1 [(.int .i64 a0_0), (.int .i64 a0_1), (.bool a0_2), u0_3, u0_4]) S_31 13 rfl) rfl rfl) ?_
              refine RL.op _ (by decide) (opv_call (cap := []) (laws_toSheet_ok _ _ _ _ _ _ (SL.up (SL.mod g0_3 X_22 (Nat.le_refl _) nob) (Nat.le_trans (Nat.le_refl _) (Mod.size X_22))) _ _ (SL.up (SL.mod g0_4 X_22 (Nat.le_refl _) nob) (Nat.le_trans (Nat.le_refl _) (Mod.size X_22))) _ hx15) rfl rfl ⟨rfl, trivial⟩ Try.func14 rfl rfl) ?_
              rintro _ hp28 ⟨v15, v16, rfl, MT_20, T_20⟩
              have X_23 : Mod [] h0 hp28 := Mod.step (A := []) (L := [ownO (kF .f32) 25 v8 x13.2.1, ownO (kF .f32) 25 v9 x13.2.2.1, ownO (kF .f32) 25 v10 x13.2.2.2, ownO (kF .f32) 25 v6 x10.2.1, ownO (kF .f32) 25 v7 x10.2.2, boxO bb4 [v8, v9, v10], boxO bb3 [(.int .i64 x4.1), (.int .i64 x4.2.1), (.bool x4.2.2.1), v6, v7], boxO bb2 [v3, v4, v5], ownO (kF .f32) 25 v3 x3.1, ownO (kF .f32) 25 v4 x3.2.1, ownO (kF .f32) 25 v5 x3.2.2.1, ownO (kF .f32) 25 v1 x2.2.2.2.1, ownO (kF .f32) 25 v2 x2.2.2.2.2, boxO bb1 [(.int .i64 a0_0), (.int .i64 a0_1), (.bool a0_2), u0_3, u0_4]]) X_22 S_31 MT_20
              have S_32 : Sep [] h0.size hp28 [ownO (kF .f32) 25 v15 x15.2.2.2.1, ownO (kF .f32) 25 v16 x15.2.2.2.2, ownO (kF .f32) 25 v8 x13.2.1, ownO (kF .f32) 25 v9 x13.2.2.1, ownO (kF .f32) 25 v10 x13.2.2.2, ownO (kF .f32) 25 v6 x10.2.1, ownO (kF .f32) 25 v7 x10.2.2, boxO bb4 [v8, v9, v10], boxO bb3 [(.int .i64 x4.1), (.int .i64 x4.2.1), (.bool x4.2.2.1), v6, v7], boxO bb2 [v3, v4, v5], ownO (kF .f32) 25 v3 x3.1, ownO (kF .f32) 25 v4 x3.2.1, ownO (kF .f32) 25 v5 x3.2.2.1, ownO (kF .f32) 25 v1 x2.2.2.2.1, ownO (kF .f32) 25 v2 x2.2.2.2.2, boxO bb1 [(.int .i64 a0_0), (.int .i64 a0_1), (.bool a0_2), u0_3, u0_4]] := Sep.step (A := []) (L := [ownO (kF .f32) 25 v8 x13.2.1, ownO (kF .f32) 25 v9 x13.2.2.1, ownO (kF .f32) 25 v10 x13.2.2.2, ownO (kF .f32) 25 v6 x10.2.1, ownO (kF .f32) 25 v7 x10.2.2, boxO bb4 [v8, v9, v10], boxO bb3 [(.int .i64 x4.1), (.int .i64 x4.2.1), (.bool x4.2.2.1), v6, v7], boxO bb2 [v3, v4, v5], ownO (kF .f32) 25 v3 x3.1, ownO (kF .f32) 25 v4 x3.2.1, ownO (kF .f32) 25 v5 x3.2.2.1, ownO (kF .f32) 25 v1 x2.2.2.2.1, ownO (kF .f32) 25 v2 x2.2.2.2.2, boxO bb1 [(.int .i64 a0_0), (.int .i64 a0_1), (.bool a0_2), u0_3, u0_4]]) S_31 (Mod.size X_22) MT_20 T_20
              refine RL.opD (by decide) (opv_move rfl rfl) ?_
              refine RL.opD (by decide) (opv_move rfl rfl) ?_
              refine RL.opD (by decide) (opv_move rfl rfl) ?_
              refine RL.op _ (by decide) (opv_call (cap := []) (impl_ModeField_ok _ _ _ _ _ _ (ownO.read (Sep.at (o := ownO (kF .f32) 25 v15 x15.2.2.2.1) S_32 0 rfl)) _ _ (ownO.read (Sep.at (o := ownO (kF .f32) 25 v16 x15.2.2.2.2) S_32 1 rfl)) _ _ _ _ g3 _ hx16) rfl rfl ⟨rfl, rfl, rfl, rfl, trivial⟩ Try.func15 rfl rfl) ?_
              rintro _ hp29 ⟨v17, v18, v19, rfl, MT_21, T_21⟩
              have X_24 : Mod [] h0 hp29 := Mod.step (A := []) (L := [ownO (kF .f32) 25 v15 x15.2.2.2.1, ownO (kF .f32) 25 v16 x15.2.2.2.2, ownO (kF .f32) 25 v8 x13.2.1, ownO (kF .f32) 25 v9 x13.2.2.1, ownO (kF .f32) 25 v10 x13.2.2.2, ownO (kF .f32) 25 v6 x10.2.1, ownO (kF .f32) 25 v7 x10.2.2, boxO bb4 [v8, v9, v10], boxO bb3 [(.int .i64 x4.1), (.int .i64 x4.2.1), (.bool x4.2.2.1), v6, v7], boxO bb2 [v3, v4, v5], ownO (kF .f32) 25 v3 x3.1, ownO (kF .f32) 25 v4 x3.2.1, ownO (kF .f32) 25 v5 x3.2.2.1, ownO (kF .f32) 25 v1 x2.2.2.2.1, ownO (kF .f32) 25 v2 x2.2.2.2.2, boxO bb1 [(.int .i64 a0_0), (.int .i64 a0_1), (.bool a0_2), u0_3, u0_4]]) X_23 S_32 MT_21
              have S_33 : Sep [] h0.size hp29 [ownO (kF .f32) 25 v17 x16.1, ownO (kF .f32) 25 v18 x16.2.1, ownO (kF .f32) 25 v19 x16.2.2.1, ownO (kF .f32) 25 v15 x15.2.2.2.1, ownO (kF .f32) 25 v16 x15.2.2.2.2, ownO (kF .f32) 25 v8 x13.2.1, ownO (kF .f32) 25 v9 x13.2.2.1, ownO (kF .f32) 25 v10 x13.2.2.2, ownO (kF .f32) 25 v6 x10.2.1, ownO (kF .f32) 25 v7 x10.2.2, boxO bb4 [v8, v9, v10], boxO bb3 [(.int .i64 x4.1), (.int .i64 x4.2.1), (.bool x4.2.2.1), v6, v7], boxO bb2 [v3, v4, v5], ownO (kF .f32) 25 v3 x3.1, ownO (kF .f32) 25 v4 x3.2.1, ownO (kF .f32) 25 v5 x3.2.2.1, ownO (kF .f32) 25 v1 x2.2.2.2.1, ownO (kF .f32) 25 v2 x2.2.2.2.2, boxO bb1 [(.int .i64 a0_0), (.int .i64 a0_1), (.bool a0_2), u0_3, u0_4]] := Sep.step (A := []) (L := [ownO (kF .f32) 25 v15 x15.2.2.2.1, ownO (kF .f32) 25 v16 x15.2.2.2.2, ownO (kF .f32) 25 v8 x13.2.1, ownO (kF .f32) 25 v9 x13.2.2.1, ownO (kF .f32) 25 v10 x13.2.2.2, ownO (kF .f32) 25 v6 x10.2.1, ownO (kF .f32) 25 v7 x10.2.2, boxO bb4 [v8, v9, v10], boxO bb3 [(.int .i64 x4.1), (.int .i64 x4.2.1), (.bool x4.2.2.1), v6, v7], boxO bb2 [v3, v4, v5], ownO (kF .f32) 25 v3 x3.1, ownO (kF .f32) 25 v4 x3.2.1, ownO (kF .f32) 25 v5 x3.2.2.1, ownO (kF .f32) 25 v1 x2.2.2.2.1, ownO (kF .f32) 25 v2 x2.2.2.2.2, boxO bb1 [(.int .i64 a0_0), (.int .i64 a0_1), (.bool a0_2), u0_3, u0_4]]) S_32 (Mod.size X_23) MT_21 T_21
              refine RL.opD (by decide) (opv_move rfl rfl) ?_
              refine RL.opD (by decide) (opv_extract rfl rfl rfl) ?_
              refine RL.opD (by decide) (opv_extract rfl rfl rfl) ?_
              refine RL.op _ (by decide) (opS_boxed (opv_alloc (cs := [(.slice none 0 0), (.slice none 0 0), (.slice none 0 0)]) rfl Try.zero28 rfl)) ?_
              rintro _ hp30 ⟨bb5, rfl, MT_22, T_22⟩
              have X_25 : Mod [] h0 hp30 := Mod.step (A := []) (L := [ownO (kF .f32) 25 v17 x16.1, ownO (kF .f32) 25 v18 x16.2.1, ownO (kF .f32) 25 v19 x16.2.2.1, ownO (kF .f32) 25 v15 x15.2.2.2.1, ownO (kF .f32) 25 v16 x15.2.2.2.2, ownO (kF .f32) 25 v8 x13.2.1, ownO (kF .f32) 25 v9 x13.2.2.1, ownO (kF .f32) 25 v10 x13.2.2.2, ownO (kF .f32) 25 v6 x10.2.1, ownO (kF .f32) 25 v7 x10.2.2, boxO bb4 [v8, v9, v10], boxO bb3 [(.int .i64 x4.1), (.int .i64 x4.2.1), (.bool x4.2.2.1), v6, v7], boxO bb2 [v3, v4, v5], ownO (kF .f32) 25 v3 x3.1, ownO (kF .f32) 25 v4 x3.2.1, ownO (kF .f32) 25 v5 x3.2.2.1, ownO (kF .f32) 25 v1 x2.2.2.2.1, ownO (kF .f32) 25 v2 x2.2.2.2.2, boxO bb1 [(.int .i64 a0_0), (.int .i64 a0_1), (.bool a0_2), u0_3, u0_4]]) X_24 S_33 MT_22
              have S_34 : Sep [] h0.size hp30 [boxO bb5 [(.slice none 0 0), (.slice none 0 0), (.slice none 0 0)], ownO (kF .f32) 25 v17 x16.1, ownO (kF .f32) 25 v18 x16.2.1, ownO (kF .f32) 25 v19 x16.2.2.1, ownO (kF .f32) 25 v15 x15.2.2.2.1, ownO (kF .f32) 25 v16 x15.2.2.2.2, ownO (kF .f32) 25 v8 x13.2.1, ownO (kF .f32) 25 v9 x13.2.2.1, ownO (kF .f32) 25 v10 x13.2.2.2, ownO (kF .f32) 25 v6 x10.2.1, ownO (kF .f32) 25 v7 x10.2.2, boxO bb4 [v8, v9, v10], boxO bb3 [(.int .i64 x4.1), (.int .i64 x4.2.1), (.bool x4.2.2.1), v6, v7], boxO bb2 [v3, v4, v5], ownO (kF .f32) 25 v3 x3.1, ownO (kF .f32) 25 v4 x3.2.1, ownO (kF .f32) 25 v5 x3.2.2.1, ownO (kF .f32) 25 v1 x2.2.2.2.1, ownO (kF .f32) 25 v2 x2.2.2.2.2, boxO bb1 [(.int .i64 a0_0), (.int .i64 a0_1), (.bool a0_2), u0_3, u0_4]] := Sep.step (A := []) (L := [ownO (kF .f32) 25 v17 x16.1, ownO (kF .f32) 25 v18 x16.2.1, ownO (kF .f32) 25 v19 x16.2.2.1, ownO (kF .f32) 25 v15 x15.2.2.2.1, ownO (kF .f32) 25 v16 x15.2.2.2.2, ownO (kF .f32) 25 v8 x13.2.1, ownO (kF .f32) 25 v9 x13.2.2.1, ownO (kF .f32) 25 v10 x13.2.2.2, ownO (kF .f32) 25 v6 x10.2.1, ownO (kF .f32) 25 v7 x10.2.2, boxO bb4 [v8, v9, v10], boxO bb3 [(.int .i64 x4.1), (.int .i64 x4.2.1), (.bool x4.2.2.1), v6, v7], boxO bb2 [v3, v4, v5], ownO (kF .f32) 25 v3 x3.1, ownO (kF .f32) 25 v4 x3.2.1, ownO (kF .f32) 25 v5 x3.2.2.1, ownO (kF .f32) 25 v1 x2.2.2.2.1, ownO (kF .f32) 25 v2 x2.2.2.2.2, boxO bb1 [(.int .i64 a0_0), (.int .i64 a0_1), (.bool a0_2), u0_3, u0_4]]) S_33 (Mod.size X_24) MT_22 T_22
              refine RL.op0 _ (opS_stored (cs := [(.slice none 0 0), (.slice none 0 0), (.slice none 0 0)]) (cs' := [v17, v18, v19]) (opv_storeA (us := [v17, v18, v19]) rfl Try.size28 rfl rfl (oneAll (ownO.one (Sep.at (o := ownO (kF .f32) 25 v17 x16.1) S_34 1 rfl)) (oneAll (ownO.one (Sep.at (o := ownO (kF .f32) 25 v18 x16.2.1) S_34 2 rfl)) (oneAll (ownO.one (Sep.at (o := ownO (kF .f32) 25 v19 x16.2.2.1) S_34 3 rfl)) rfl))) (Sep.at (o := boxO bb5 [(.slice none 0 0), (.slice none 0 0), (.slice none 0 0)]) S_34 0 rfl) rfl rfl) (Sep.at (o := boxO bb5 [(.slice none 0 0), (.slice none 0 0), (.slice none 0 0)]) S_34 0 rfl)) ?_
              rintro _ hp31 ⟨rfl, MT_23, T_23⟩
              have S_35 : Sep [] h0.size hp30 ([boxO bb5 [(.slice none 0 0), (.slice none 0 0), (.slice none 0 0)]] ++ [ownO (kF .f32) 25 v17 x16.1, ownO (kF .f32) 25 v18 x16.2.1, ownO (kF .f32) 25 v19 x16.2.2.1, ownO (kF .f32) 25 v15 x15.2.2.2.1, ownO (kF .f32) 25 v16 x15.2.2.2.2, ownO (kF .f32) 25 v8 x13.2.1, ownO (kF .f32) 25 v9 x13.2.2.1, ownO (kF .f32) 25 v10 x13.2.2.2, ownO (kF .f32) 25 v6 x10.2.1, ownO (kF .f32) 25 v7 x10.2.2, boxO bb4 [v8, v9, v10], boxO bb3 [(.int .i64 x4.1), (.int .i64 x4.2.1), (.bool x4.2.2.1), v6, v7], boxO bb2 [v3, v4, v5], ownO (kF .f32) 25 v3 x3.1, ownO (kF .f32) 25 v4 x3.2.1, ownO (kF .f32) 25 v5 x3.2.2.1, ownO (kF .f32) 25 v1 x2.2.2.2.1, ownO (kF .f32) 25 v2 x2.2.2.2.2, boxO bb1 [(.int .i64 a0_0), (.int .i64 a0_1), (.bool a0_2), u0_3, u0_4]]) := Sep.sel S_34 [0, 1, 2, 3, 4, 5, 6, 7, 8, 9, 10, 11, 12, 13, 14, 15, 16, 17, 18, 19] (by decide)
              have X_26 : Mod [] h0 hp31 := Mod.step (A := [boxO bb5 [(.slice none 0 0), (.slice none 0 0), (.slice none 0 0)]]) (L := [ownO (kF .f32) 25 v17 x16.1, ownO (kF .f32) 25 v18 x16.2.1, ownO (kF .f32) 25 v19 x16.2.2.1, ownO (kF .f32) 25 v15 x15.2.2.2.1, ownO (kF .f32) 25 v16 x15.2.2.2.2, ownO (kF .f32) 25 v8 x13.2.1, ownO (kF .f32) 25 v9 x13.2.2.1, ownO (kF .f32) 25 v10 x13.2.2.2, ownO (kF .f32) 25 v6 x10.2.1, ownO (kF .f32) 25 v7 x10.2.2, boxO bb4 [v8, v9, v10], boxO bb3 [(.int .i64 x4.1), (.int .i64 x4.2.1), (.bool x4.2.2.1), v6, v7], boxO bb2 [v3, v4, v5], ownO (kF .f32) 25 v3 x3.1, ownO (kF .f32) 25 v4 x3.2.1, ownO (kF .f32) 25 v5 x3.2.2.1, ownO (kF .f32) 25 v1 x2.2.2.2.1, ownO (kF .f32) 25 v2 x2.2.2.2.2, boxO bb1 [(.int .i64 a0_0), (.int .i64 a0_1), (.bool a0_2), u0_3, u0_4]]) X_25 S_35 MT_23
              have S_36 : Sep [] h0.size hp31 [boxO bb5 [v17, v18, v19], ownO (kF .f32) 25 v17 x16.1, ownO (kF .f32) 25 v18 x16.2.1, ownO (kF .f32) 25 v19 x16.2.2.1, ownO (kF .f32) 25 v15 x15.2.2.2.1, ownO (kF .f32) 25 v16 x15.2.2.2.2, ownO (kF .f32) 25 v8 x13.2.1, ownO (kF .f32) 25 v9 x13.2.2.1, ownO (kF .f32) 25 v10 x13.2.2.2, ownO (kF .f32) 25 v6 x10.2.1, ownO (kF .f32) 25 v7 x10.2.2, boxO bb4 [v8, v9, v10], boxO bb3 [(.int .i64 x4.1), (.int .i64 x4.2.1), (.bool x4.2.2.1), v6, v7], boxO bb2 [v3, v4, v5], ownO (kF .f32) 25 v3 x3.1, ownO (kF .f32) 25 v4 x3.2.1, ownO (kF .f32) 25 v5 x3.2.2.1, ownO (kF .f32) 25 v1 x2.2.2.2.1, ownO (kF .f32) 25 v2 x2.2.2.2.2, boxO bb1 [(.int .i64 a0_0), (.int .i64 a0_1), (.bool a0_2), u0_3, u0_4]] := Sep.step (A := [boxO bb5 [(.slice none 0 0), (.slice none 0 0), (.slice none 0 0)]]) (L := [ownO (kF .f32) 25 v17 x16.1, ownO (kF .f32) 25 v18 x16.2.1, ownO (kF .f32) 25 v19 x16.2.2.1, ownO (kF .f32) 25 v15 x15.2.2.2.1, ownO (kF .f32) 25 v16 x15.2.2.2.2, ownO (kF .f32) 25 v8 x13.2.1, ownO (kF .f32) 25 v9 x13.2.2.1, ownO (kF .f32) 25 v10 x13.2.2.2, ownO (kF .f32) 25 v6 x10.2.1, ownO (kF .f32) 25 v7 x10.2.2, boxO bb4 [v8, v9, v10], boxO bb3 [(.int .i64 x4.1), (.int .i64 x4.2.1), (.bool x4.2.2.1), v6, v7], boxO bb2 [v3, v4, v5], ownO (kF .f32) 25 v3 x3.1, ownO (kF .f32) 25 v4 x3.2.1, ownO (kF .f32) 25 v5 x3.2.2.1, ownO (kF .f32) 25 v1 x2.2.2.2.1, ownO (kF .f32) 25 v2 x2.2.2.2.2, boxO bb1 [(.int .i64 a0_0), (.int .i64 a0_1), (.bool a0_2), u0_3, u0_4]]) S_35 (Mod.size X_25) MT_23 T_23
              refine RL.opD (by decide) (opv_assign rfl rfl) ?_
              refine RL.nil ?_
              refine thnN ?_
              refine W.seq ?_
              refine W.seq ?_
              obtain ⟨x17, hy3, hp⟩ := Option.bind_eq_some_iff.1 hp
              refine W.cut (fun φ' h' => Fr.sub [(0, (.agg (List.toArray (α := Value) [(.int .i64 a0_0), (.int .i64 a0_1), (.bool a0_2), u0_3, u0_4]))), (1, (.int .i64 a1)), (2, (.int .i64 a2)), (3, u3), (4, (.pointer (some ⟨bb1, 0, none⟩))), (8, (.bool false)), (9, (.int .i64 x1)), (24, (.bool (decide (x1 < 0)))), (10, (.pointer (some ⟨bb2, 0, none⟩))), (11, (.bool x3.2.2.2)), (12, (.pointer (some ⟨bb3, 0, none⟩))), (13, (.pointer (some ⟨bb4, 0, none⟩))), (14, (.bool x5.2.2.2)), (52, (.bool x6)), (57, (.bool (!x9))), (15, (.int .i64 x10.1)), (73, (.bool x11)), (16, (.int .i64 x13.1)), (17, (.int .i64 x14)), (81, (.bool (decide (x14 < 0)))), (84, (.bool (x14 != x13.1))), (18, (.pointer (some ⟨bb5, 0, none⟩))), (19, (.bool x16.2.2.2)), (102, (.bool x17))] φ' ∧ Mod [] h0 h' ∧ Sep [] h0.size h' [boxO bb5 [v17, v18, v19], ownO (kF .f32) 25 v17 x16.1, ownO (kF .f32) 25 v18 x16.2.1, ownO (kF .f32) 25 v19 x16.2.2.1, ownO (kF .f32) 25 v15 x15.2.2.2.1, ownO (kF .f32) 25 v16 x15.2.2.2.2, ownO (kF .f32) 25 v8 x13.2.1, ownO (kF .f32) 25 v9 x13.2.2.1, ownO (kF .f32) 25 v10 x13.2.2.2, ownO (kF .f32) 25 v6 x10.2.1, ownO (kF .f32) 25 v7 x10.2.2, boxO bb4 [v8, v9, v10], boxO bb3 [(.int .i64 x4.1), (.int .i64 x4.2.1), (.bool x4.2.2.1), v6, v7], boxO bb2 [v3, v4, v5], ownO (kF .f32) 25 v3 x3.1, ownO (kF .f32) 25 v4 x3.2.1, ownO (kF .f32) 25 v5 x3.2.2.1, ownO (kF .f32) 25 v1 x2.2.2.2.1, ownO (kF .f32) 25 v2 x2.2.2.2.2, boxO bb1 [(.int .i64 a0_0), (.int .i64 a0_1), (.bool a0_2), u0_3, u0_4]]) ?_ ?_
              · obtain ⟨x18, hx18, hy3⟩ := Option.bind_eq_some_iff.1 hy3
                by_cases c10 : (!x18) = true
                · rw [if_pos c10] at hy3
                  refine W.region ?_
                  refine RL.opD (by decide) (opv_loadA (us := [v17, v18, v19]) rfl Try.agg28 Try.size28 rfl (Sep.at (o := boxO bb5 [v17, v18, v19]) S_36 0 rfl) rfl rfl) ?_
                  refine RL.opD (by decide) (opv_loadA (us := [v3, v4, v5]) rfl Try.agg28 Try.size28 rfl (Sep.at (o := boxO bb2 [v3, v4, v5]) S_36 13 rfl) rfl rfl) ?_
                  refine RL.op _ (by decide) (opv_call (cap := []) (laws_eqField_ok _ _ _ (ownO.read (Sep.at (o := ownO (kF .f32) 25 v17 x16.1) S_36 1 rfl)) _ _ (ownO.read (Sep.at (o := ownO (kF .f32) 25 v18 x16.2.1) S_36 2 rfl)) _ _ (ownO.read (Sep.at (o := ownO (kF .f32) 25 v19 x16.2.2.1) S_36 3 rfl)) _ _ (ownO.read (Sep.at (o := ownO (kF .f32) 25 v3 x3.1) S_36 14 rfl)) _ _ (ownO.read (Sep.at (o := ownO (kF .f32) 25 v4 x3.2.1) S_36 15 rfl)) _ _ (ownO.read (Sep.at (o := ownO (kF .f32) 25 v5 x3.2.2.1) S_36 16 rfl)) _ hx18) rfl rfl ⟨rfl, rfl, trivial⟩ Try.func16 rfl rfl) ?_
                  rintro _ hp32 ⟨rfl, MT_24, T_24⟩
                  have X_27 : Mod [] h0 hp32 := Mod.step (A := []) (L := [boxO bb5 [v17, v18, v19], ownO (kF .f32) 25 v17 x16.1, ownO (kF .f32) 25 v18 x16.2.1, ownO (kF .f32) 25 v19 x16.2.2.1, ownO (kF .f32) 25 v15 x15.2.2.2.1, ownO (kF .f32) 25 v16 x15.2.2.2.2, ownO (kF .f32) 25 v8 x13.2.1, ownO (kF .f32) 25 v9 x13.2.2.1, ownO (kF .f32) 25 v10 x13.2.2.2, ownO (kF .f32) 25 v6 x10.2.1, ownO (kF .f32) 25 v7 x10.2.2, boxO bb4 [v8, v9, v10], boxO bb3 [(.int .i64 x4.1), (.int .i64 x4.2.1), (.bool x4.2.2.1), v6, v7], boxO bb2 [v3, v4, v5], ownO (kF .f32) 25 v3 x3.1, ownO (kF .f32) 25 v4 x3.2.1, ownO (kF .f32) 25 v5 x3.2.2.1, ownO (kF .f32) 25 v1 x2.2.2.2.1, ownO (kF .f32) 25 v2 x2.2.2.2.2, boxO bb1 [(.int .i64 a0_0), (.int .i64 a0_1), (.bool a0_2), u0_3, u0_4]]) X_26 S_36 MT_24
                  have S_37 : Sep [] h0.size hp32 [boxO bb5 [v17, v18, v19], ownO (kF .f32) 25 v17 x16.1, ownO (kF .f32) 25 v18 x16.2.1, ownO (kF .f32) 25 v19 x16.2.2.1, ownO (kF .f32) 25 v15 x15.2.2.2.1, ownO (kF .f32) 25 v16 x15.2.2.2.2, ownO (kF .f32) 25 v8 x13.2.1, ownO (kF .f32) 25 v9 x13.2.2.1, ownO (kF .f32) 25 v10 x13.2.2.2, ownO (kF .f32) 25 v6 x10.2.1, ownO (kF .f32) 25 v7 x10.2.2, boxO bb4 [v8, v9, v10], boxO bb3 [(.int .i64 x4.1), (.int .i64 x4.2.1), (.bool x4.2.2.1), v6, v7], boxO bb2 [v3, v4, v5], ownO (kF .f32) 25 v3 x3.1, ownO (kF .f32) 25 v4 x3.2.1, ownO (kF .f32) 25 v5 x3.2.2.1, ownO (kF .f32) 25 v1 x2.2.2.2.1, ownO (kF .f32) 25 v2 x2.2.2.2.2, boxO bb1 [(.int .i64 a0_0), (.int .i64 a0_1), (.bool a0_2), u0_3, u0_4]] := Sep.step (A := []) (L := [boxO bb5 [v17, v18, v19], ownO (kF .f32) 25 v17 x16.1, ownO (kF .f32) 25 v18 x16.2.1, ownO (kF .f32) 25 v19 x16.2.2.1, ownO (kF .f32) 25 v15 x15.2.2.2.1, ownO (kF .f32) 25 v16 x15.2.2.2.2, ownO (kF .f32) 25 v8 x13.2.1, ownO (kF .f32) 25 v9 x13.2.2.1, ownO (kF .f32) 25 v10 x13.2.2.2, ownO (kF .f32) 25 v6 x10.2.1, ownO (kF .f32) 25 v7 x10.2.2, boxO bb4 [v8, v9, v10], boxO bb3 [(.int .i64 x4.1), (.int .i64 x4.2.1), (.bool x4.2.2.1), v6, v7], boxO bb2 [v3, v4, v5], ownO (kF .f32) 25 v3 x3.1, ownO (kF .f32) 25 v4 x3.2.1, ownO (kF .f32) 25 v5 x3.2.2.1, ownO (kF .f32) 25 v1 x2.2.2.2.1, ownO (kF .f32) 25 v2 x2.2.2.2.2, boxO bb1 [(.int .i64 a0_0), (.int .i64 a0_1), (.bool a0_2), u0_3, u0_4]]) S_36 (Mod.size X_26) MT_24 T_24
                  refine RL.opD (by decide) (opv_not rfl rfl) ?_
                  refine RL.opD (by decide) (opv_move rfl rfl) ?_
                  refine RL.no rfl rfl (Eq.trans c10 (by decide)) (by decide) ?_
                  refine RL.no rfl rfl (Eq.trans c10 (by decide)) (by decide) ?_
                  refine RL.no rfl rfl (Eq.trans c10 (by decide)) (by decide) ?_
                  refine RL.opD (by decide) (opv_pick rfl rfl (fun _ => rfl) (fun e => absurd (Eq.trans (Eq.symm e) c10) (by decide)) rfl) ?_
                  refine RL.nil ?_
                  have ey3 := Option.some.inj hy3
                  subst ey3
                  refine onlyN ?_
                  exact ⟨⟨rfl, rfl, rfl, rfl, rfl, rfl, rfl, rfl, rfl, rfl, rfl, rfl, rfl, rfl, rfl, rfl, rfl, rfl, rfl, rfl, rfl, rfl, rfl, rfl, trivial⟩, X_27, (Sep.sel S_37 [0, 1, 2, 3, 4, 5, 6, 7, 8, 9, 10, 11, 12, 13, 14, 15, 16, 17, 18, 19] (by decide))⟩
                · rw [if_neg c10] at hy3
                  have c10 := eq_false_of_ne_true c10
                  refine W.region ?_
                  refine RL.opD (by decide) (opv_loadA (us := [v17, v18, v19]) rfl Try.agg28 Try.size28 rfl (Sep.at (o := boxO bb5 [v17, v18, v19]) S_36 0 rfl) rfl rfl) ?_
                  refine RL.opD (by decide) (opv_loadA (us := [v3, v4, v5]) rfl Try.agg28 Try.size28 rfl (Sep.at (o := boxO bb2 [v3, v4, v5]) S_36 13 rfl) rfl rfl) ?_
                  refine RL.op _ (by decide) (opv_call (cap := []) (laws_eqField_ok _ _ _ (ownO.read (Sep.at (o := ownO (kF .f32) 25 v17 x16.1) S_36 1 rfl)) _ _ (ownO.read (Sep.at (o := ownO (kF .f32) 25 v18 x16.2.1) S_36 2 rfl)) _ _ (ownO.read (Sep.at (o := ownO (kF .f32) 25 v19 x16.2.2.1) S_36 3 rfl)) _ _ (ownO.read (Sep.at (o := ownO (kF .f32) 25 v3 x3.1) S_36 14 rfl)) _ _ (ownO.read (Sep.at (o := ownO (kF .f32) 25 v4 x3.2.1) S_36 15 rfl)) _ _ (ownO.read (Sep.at (o := ownO (kF .f32) 25 v5 x3.2.2.1) S_36 16 rfl)) _ hx18) rfl rfl ⟨rfl, rfl, trivial⟩ Try.func16 rfl rfl) ?_
                  rintro _ hp32 ⟨rfl, MT_24, T_24⟩
                  have X_27 : Mod [] h0 hp32 := Mod.step (A := []) (L := [boxO bb5 [v17, v18, v19], ownO (kF .f32) 25 v17 x16.1, ownO (kF .f32) 25 v18 x16.2.1, ownO (kF .f32) 25 v19 x16.2.2.1, ownO (kF .f32) 25 v15 x15.2.2.2.1, ownO (kF .f32) 25 v16 x15.2.2.2.2, ownO (kF .f32) 25 v8 x13.2.1, ownO (kF .f32) 25 v9 x13.2.2.1, ownO (kF .f32) 25 v10 x13.2.2.2, ownO (kF .f32) 25 v6 x10.2.1, ownO (kF .f32) 25 v7 x10.2.2, boxO bb4 [v8, v9, v10], boxO bb3 [(.int .i64 x4.1), (.int .i64 x4.2.1), (.bool x4.2.2.1), v6, v7], boxO bb2 [v3, v4, v5], ownO (kF .f32) 25 v3 x3.1, ownO (kF .f32) 25 v4 x3.2.1, ownO (kF .f32) 25 v5 x3.2.2.1, ownO (kF .f32) 25 v1 x2.2.2.2.1, ownO (kF .f32) 25 v2 x2.2.2.2.2, boxO bb1 [(.int .i64 a0_0), (.int .i64 a0_1), (.bool a0_2), u0_3, u0_4]]) X_26 S_36 MT_24
                  have S_37 : Sep [] h0.size hp32 [boxO bb5 [v17, v18, v19], ownO (kF .f32) 25 v17 x16.1, ownO (kF .f32) 25 v18 x16.2.1, ownO (kF .f32) 25 v19 x16.2.2.1, ownO (kF .f32) 25 v15 x15.2.2.2.1, ownO (kF .f32) 25 v16 x15.2.2.2.2, ownO (kF .f32) 25 v8 x13.2.1, ownO (kF .f32) 25 v9 x13.2.2.1, ownO (kF .f32) 25 v10 x13.2.2.2, ownO (kF .f32) 25 v6 x10.2.1, ownO (kF .f32) 25 v7 x10.2.2, boxO bb4 [v8, v9, v10], boxO bb3 [(.int .i64 x4.1), (.int .i64 x4.2.1), (.bool x4.2.2.1), v6, v7], boxO bb2 [v3, v4, v5], ownO (kF .f32) 25 v3 x3.1, ownO (kF .f32) 25 v4 x3.2.1, ownO (kF .f32) 25 v5 x3.2.2.1, ownO (kF .f32) 25 v1 x2.2.2.2.1, ownO (kF .f32) 25 v2 x2.2.2.2.2, boxO bb1 [(.int .i64 a0_0), (.int .i64 a0_1), (.bool a0_2), u0_3, u0_4]] := Sep.step (A := []) (L := [boxO bb5 [v17, v18, v19], ownO (kF .f32) 25 v17 x16.1, ownO (kF .f32) 25 v18 x16.2.1, ownO (kF .f32) 25 v19 x16.2.2.1, ownO (kF .f32) 25 v15 x15.2.2.2.1, ownO (kF .f32) 25 v16 x15.2.2.2.2, ownO (kF .f32) 25 v8 x13.2.1, ownO (kF .f32) 25 v9 x13.2.2.1, ownO (kF .f32) 25 v10 x13.2.2.2, ownO (kF .f32) 25 v6 x10.2.1, ownO (kF .f32) 25 v7 x10.2.2, boxO bb4 [v8, v9, v10], boxO bb3 [(.int .i64 x4.1), (.int .i64 x4.2.1), (.bool x4.2.2.1), v6, v7], boxO bb2 [v3, v4, v5], ownO (kF .f32) 25 v3 x3.1, ownO (kF .f32) 25 v4 x3.2.1, ownO (kF .f32) 25 v5 x3.2.2.1, ownO (kF .f32) 25 v1 x2.2.2.2.1, ownO (kF .f32) 25 v2 x2.2.2.2.2, boxO bb1 [(.int .i64 a0_0), (.int .i64 a0_1), (.bool a0_2), u0_3, u0_4]]) S_36 (Mod.size X_26) MT_24 T_24
                  refine RL.opD (by decide) (opv_not rfl rfl) ?_
                  refine RL.opD (by decide) (opv_move rfl rfl) ?_
                  refine RL.yes _ rfl rfl c10 (by decide) (opv_move rfl rfl) ?_
                  rintro _ _ ⟨rfl, rfl⟩
                  refine RL.yes _ rfl rfl c10 (by decide) (opv_move rfl rfl) ?_
                  rintro _ _ ⟨rfl, rfl⟩
                  refine RL.yes _ rfl rfl c10 (by decide) (opv_bcmp rfl rfl Try.underlying4 rfl rfl) ?_
                  rintro _ _ ⟨rfl, rfl⟩
                  refine RL.opD (by decide) (opv_pick rfl rfl (fun e => absurd (Eq.trans (Eq.symm e) c10) (by decide)) (fun _ => rfl) rfl) ?_
                  refine RL.nil ?_
                  have ey3 := Option.some.inj hy3
                  subst ey3
                  refine onlyN ?_
                  exact ⟨⟨rfl, rfl, rfl, rfl, rfl, rfl, rfl, rfl, rfl, rfl, rfl, rfl, rfl, rfl, rfl, rfl, rfl, rfl, rfl, rfl, rfl, rfl, rfl, rfl, trivial⟩, X_27, (Sep.sel S_37 [0, 1, 2, 3, 4, 5, 6, 7, 8, 9, 10, 11, 12, 13, 14, 15, 16, 17, 18, 19] (by decide))⟩
              rintro φ' hp33 ⟨hs3, X_28, S_38⟩
              refine thnN ?_
              refine W.sub hs3 ?_
              by_cases c11 : x17 = true
              · rw [if_pos c11] at hp
                refine W.condT rfl c11 ?_
                refine W.seq ?_
                refine W.region ?_
                refine RL.opD (by decide) (opv_assign rfl rfl) ?_
                refine RL.nil ?_
                refine thnN ?_
                refine W.ret ?_
                refine thnR ?_
                have er := Option.some.inj hp
                subst er
                exact Rt.one rfl rfl ⟨rfl, X_28, (Sep.nil _ _ _)⟩
              · rw [if_neg c11] at hp
                have c11 := eq_false_of_ne_true c11
                refine W.condF rfl c11 ?_
                refine W.skip ?_
                refine thnN ?_
                refine W.seq ?_
                refine W.region ?_
                refine RL.opD (by decide) (opv_assign rfl rfl) ?_
                refine RL.nil ?_
                refine thnN ?_
                refine W.seq ?_
                obtain ⟨x19, hx19, hp⟩ := Option.bind_eq_some_iff.1 hp
                refine W.region ?_
                refine RL.opD (by decide) (opv_loadA (us := [v8, v9, v10]) rfl Try.agg28 Try.size28 rfl (Sep.at (o := boxO bb4 [v8, v9, v10]) S_38 11 rfl) rfl rfl) ?_
                refine RL.opD (by decide) (opv_move rfl rfl) ?_
                refine RL.op _ (by decide) (opv_call (cap := []) (laws_heldField_ok _ _ _ (ownO.read (Sep.at (o := ownO (kF .f32) 25 v8 x13.2.1) S_38 6 rfl)) _ _ (ownO.read (Sep.at (o := ownO (kF .f32) 25 v9 x13.2.2.1) S_38 7 rfl)) _ _ (ownO.read (Sep.at (o := ownO (kF .f32) 25 v10 x13.2.2.2) S_38 8 rfl)) _ _ hx19) rfl rfl ⟨rfl, rfl, trivial⟩ Try.func20 rfl rfl) ?_
                rintro _ hp34 ⟨rfl, MT_25, T_25⟩
                have X_29 : Mod [] h0 hp34 := Mod.step (A := []) (L := [boxO bb5 [v17, v18, v19], ownO (kF .f32) 25 v17 x16.1, ownO (kF .f32) 25 v18 x16.2.1, ownO (kF .f32) 25 v19 x16.2.2.1, ownO (kF .f32) 25 v15 x15.2.2.2.1, ownO (kF .f32) 25 v16 x15.2.2.2.2, ownO (kF .f32) 25 v8 x13.2.1, ownO (kF .f32) 25 v9 x13.2.2.1, ownO (kF .f32) 25 v10 x13.2.2.2, ownO (kF .f32) 25 v6 x10.2.1, ownO (kF .f32) 25 v7 x10.2.2, boxO bb4 [v8, v9, v10], boxO bb3 [(.int .i64 x4.1), (.int .i64 x4.2.1), (.bool x4.2.2.1), v6, v7], boxO bb2 [v3, v4, v5], ownO (kF .f32) 25 v3 x3.1, ownO (kF .f32) 25 v4 x3.2.1, ownO (kF .f32) 25 v5 x3.2.2.1, ownO (kF .f32) 25 v1 x2.2.2.2.1, ownO (kF .f32) 25 v2 x2.2.2.2.2, boxO bb1 [(.int .i64 a0_0), (.int .i64 a0_1), (.bool a0_2), u0_3, u0_4]]) X_28 S_38 MT_25
                have S_39 : Sep [] h0.size hp34 [boxO bb5 [v17, v18, v19], ownO (kF .f32) 25 v17 x16.1, ownO (kF .f32) 25 v18 x16.2.1, ownO (kF .f32) 25 v19 x16.2.2.1, ownO (kF .f32) 25 v15 x15.2.2.2.1, ownO (kF .f32) 25 v16 x15.2.2.2.2, ownO (kF .f32) 25 v8 x13.2.1, ownO (kF .f32) 25 v9 x13.2.2.1, ownO (kF .f32) 25 v10 x13.2.2.2, ownO (kF .f32) 25 v6 x10.2.1, ownO (kF .f32) 25 v7 x10.2.2, boxO bb4 [v8, v9, v10], boxO bb3 [(.int .i64 x4.1), (.int .i64 x4.2.1), (.bool x4.2.2.1), v6, v7], boxO bb2 [v3, v4, v5], ownO (kF .f32) 25 v3 x3.1, ownO (kF .f32) 25 v4 x3.2.1, ownO (kF .f32) 25 v5 x3.2.2.1, ownO (kF .f32) 25 v1 x2.2.2.2.1, ownO (kF .f32) 25 v2 x2.2.2.2.2, boxO bb1 [(.int .i64 a0_0), (.int .i64 a0_1), (.bool a0_2), u0_3, u0_4]] := Sep.step (A := []) (L := [boxO bb5 [v17, v18, v19], ownO (kF .f32) 25 v17 x16.1, ownO (kF .f32) 25 v18 x16.2.1, ownO (kF .f32) 25 v19 x16.2.2.1, ownO (kF .f32) 25 v15 x15.2.2.2.1, ownO (kF .f32) 25 v16 x15.2.2.2.2, ownO (kF .f32) 25 v8 x13.2.1, ownO (kF .f32) 25 v9 x13.2.2.1, ownO (kF .f32) 25 v10 x13.2.2.2, ownO (kF .f32) 25 v6 x10.2.1, ownO (kF .f32) 25 v7 x10.2.2, boxO bb4 [v8, v9, v10], boxO bb3 [(.int .i64 x4.1), (.int .i64 x4.2.1), (.bool x4.2.2.1), v6, v7], boxO bb2 [v3, v4, v5], ownO (kF .f32) 25 v3 x3.1, ownO (kF .f32) 25 v4 x3.2.1, ownO (kF .f32) 25 v5 x3.2.2.1, ownO (kF .f32) 25 v1 x2.2.2.2.1, ownO (kF .f32) 25 v2 x2.2.2.2.2, boxO bb1 [(.int .i64 a0_0), (.int .i64 a0_1), (.bool a0_2), u0_3, u0_4]]) S_38 (Mod.size X_28) MT_25 T_25
                refine RL.opD (by decide) (opv_assign rfl rfl) ?_
                refine RL.nil ?_
                refine thnN ?_
                refine W.seq ?_
                refine W.seq ?_
                refine W.region ?_
                refine RL.opD (by decide) (opv_move rfl rfl) ?_
                refine RL.opD (by decide) (opv_icmp rfl rfl rfl rfl) ?_
                refine RL.nil ?_
                refine thnN ?_
                by_cases c12 : (decide (x19 < 0)) = true
                · rw [if_pos c12] at hp
                  refine W.condT rfl c12 ?_
                  refine W.seq ?_
                  refine W.region ?_
                  refine RL.opD (by decide) (opv_assign rfl rfl) ?_
                  refine RL.nil ?_
                  refine thnN ?_
                  refine W.ret ?_
                  refine thnR ?_
                  have er := Option.some.inj hp
                  subst er
                  exact Rt.one rfl rfl ⟨rfl, X_29, (Sep.nil _ _ _)⟩
                · rw [if_neg c12] at hp
                  have c12 := eq_false_of_ne_true c12
                  refine W.condF rfl c12 ?_
                  refine W.skip ?_
                  refine thnN ?_
                  refine W.seq ?_
                  refine W.seq ?_
                  refine W.region ?_
                  refine RL.opD (by decide) (opv_move rfl rfl) ?_
                  refine RL.opD (by decide) (opv_move rfl rfl) ?_
                  refine RL.opD (by decide) (opv_icmp rfl rfl rfl rfl) ?_
                  refine RL.nil ?_
                  refine thnN ?_
                  by_cases c13 : (x19 != x13.1) = true
                  · rw [if_pos c13] at hp
                    refine W.condT rfl c13 ?_
                    refine W.seq ?_
                    refine W.region ?_
                    refine RL.opD (by decide) (opv_assign rfl rfl) ?_
                    refine RL.nil ?_
                    refine thnN ?_
                    refine W.ret ?_
                    refine thnR ?_
                    have er := Option.some.inj hp
                    subst er
                    exact Rt.one rfl rfl ⟨rfl, X_29, (Sep.nil _ _ _)⟩
                  · rw [if_neg c13] at hp
                    have c13 := eq_false_of_ne_true c13
                    refine W.condF rfl c13 ?_
                    refine W.skip ?_
                    refine thnN ?_
                    refine W.seq ?_
                    refine W.region ?_
                    refine RL.opD (by decide) (opv_assign rfl rfl) ?_
                    refine RL.nil ?_
                    refine thnN ?_
                    refine W.ret ?_
                    have er := Option.some.inj hp
                    subst er
                    exact Rt.one rfl rfl ⟨rfl, X_29, (Sep.nil _ _ _)⟩

end Go.H
