/- Functions of the program: what each computes, as a plain function, and that the call comes to it. Written by a program (wip/gen). -/
import Derived.Test.YtohfgnjmgipehaaGBase
import Derived.Test.YtohfgnjmgipehaaGCopy
import Derived.Test.YtohfgnjmgipehaaGSheet
import Derived.Test.YtohfgnjmgipehaaGField
import Derived.Test.YtohfgnjmgipehaaBase23
import Derived.Test.YtohfgnjmgipehaaProg
import Derived.KernelRfl
set_option linter.unusedVariables false
namespace Go.H
open Go Go.Proofs

theorem _root_.Go.Proofs.Try.one138 : oneCellT Try.prog 138 = true := by kernel_rfl
theorem _root_.Go.Proofs.Try.one56 : oneCellT Try.prog 56 = true := by kernel_rfl
theorem _root_.Go.Proofs.Try.size138 : (Try.prog.info? 138).map (·.size) = some 1 := by kernel_rfl
theorem _root_.Go.Proofs.Try.zero138 : (Try.prog.info? 138).bind (·.zero) = some .nilFunc := by kernel_rfl

noncomputable def spec_l08Jumps.s1 (a0_0 : Int) (a0_1 : Int) (a0_2 : Bool) (a1_0 : List (Option Nat)) (a3 : Int) (a4 : Int) (x2 : Int) (x6 : Option Nat) (x7 : Int) : Option (((Option Nat) × Int) ⊕ ((Option Nat) × Int × Bool)) :=
 (if (decide (x7 < a0_0)) = true then (((((if (!a0_2) = true then (if ((IntKind.wrap .i64 (x7 + a3)) == a0_0) = true then some true else some ((IntKind.wrap .i64 (x2 + a4)) == a0_1)) else some false) : Option Bool).bind fun (x13 : Bool) => (if x13 = true then some (x6, x13) else (if a0_0 = 0 then none else (if a0_1 = 0 then none else ((idx a1_0 (IntKind.wrap .i64 ((Int.tmod (IntKind.wrap .i64 (x7 + a3)) a0_0) + (IntKind.wrap .i64 (a0_0 * (Int.tmod (IntKind.wrap .i64 (x2 + a4)) a0_1)))))).bind fun (x14 : Option Nat) => ((idx a1_0 (IntKind.wrap .i64 (x7 + (IntKind.wrap .i64 (a0_0 * x2))))).bind fun (x15 : Option Nat) => some (fop .add .f64 x6 (fop .mul .f64 (fop .sub .f64 (wid x14) (wid x15)) (fop .sub .f64 (wid x14) (wid x15))), x13))))))) : Option ((Option Nat) × Bool)).bind fun (⟨x11, x12⟩ : ((Option Nat) × Bool)) => some (.inl (x11, IntKind.wrap .i64 (x7 + 1)))) else some (.inr (x6, x7, decide (x7 < a0_0))))

noncomputable def spec_l08Jumps.s0 (a0_0 : Int) (a0_1 : Int) (a0_2 : Bool) (a1_0 : List (Option Nat)) (a3 : Int) (a4 : Int) (x1 : Option Nat) (x2 : Int) : Option (((Option Nat) × Int) ⊕ ((Option Nat) × Int × Bool)) :=
 (if (decide (x2 < a0_1)) = true then ((loopF (fun (s : ((Option Nat) × Int)) => spec_l08Jumps.s1 a0_0 a0_1 a0_2 a1_0 a3 a4 x2 s.1 s.2) (x1, 0)).bind fun (⟨x8, x9, x10⟩ : ((Option Nat) × Int × Bool)) => some (.inl (x8, IntKind.wrap .i64 (x2 + 1)))) else some (.inr (x1, x2, decide (x2 < a0_1))))

noncomputable def spec_l08Jumps (a0_0 : Int) (a0_1 : Int) (a0_2 : Bool) (a0_3 : List (Option Nat)) (a0_4 : List (Option Nat)) (a1_0 : List (Option Nat)) (a1_1 : List (Option Nat)) (a1_2 : List (Option Nat)) (a2 : Option Nat) (a3 : Int) (a4 : Int) : Option (Option Nat) :=
 ((loopF (fun (s : ((Option Nat) × Int)) => spec_l08Jumps.s0 a0_0 a0_1 a0_2 a1_0 a3 a4 s.1 s.2) (a2, 0)).bind fun (⟨x3, x4, x5⟩ : ((Option Nat) × Int × Bool)) => some x3)

noncomputable def spec_l01Narrow (a0 : Option Nat) : Option (Option Nat) :=
 ((fcv .f64 .f32 a0).bind fun (x1 : Option Nat) => some x1)

noncomputable def spec_RayleighOf.s0 (a0_3 : List (Option Nat)) (a1_0 : List (Option Nat)) (x4 : Option Nat) (x5 : Bool) (x6 : Option Nat) (x7 : Int) : Option (((Option Nat) × Bool × (Option Nat) × Int) ⊕ (((Option Nat) × Bool × (Option Nat) × Int × Bool) ⊕ ((Option Nat) × Bool))) :=
 (if (decide (x7 < (a1_0.length : Int))) = true then ((idx a0_3 x7).bind fun (x13 : Option Nat) => (if (fcmp .eql .f32 x13 (some 0)) = true then some (.inr (.inr ((some 0), false))) else ((idx a1_0 x7).bind fun (x14 : Option Nat) => ((idx a1_0 x7).bind fun (x15 : Option Nat) => ((idx a0_3 x7).bind fun (x16 : Option Nat) => some (.inl (x4, x5, fop .add .f64 x6 (fop .quo .f64 (fop .mul .f64 (wid x14) (wid x15)) (wid x16)), IntKind.wrap .i64 (x7 + 1)))))))) else some (.inr (.inl (x4, x5, x6, x7, decide (x7 < (a1_0.length : Int))))))

noncomputable def spec_RayleighOf (a0_0 : Int) (a0_1 : Int) (a0_2 : Bool) (a0_3 : List (Option Nat)) (a0_4 : List (Option Nat)) (a1_0 : List (Option Nat)) (a1_1 : List (Option Nat)) (a1_2 : List (Option Nat)) : Option ((Option Nat) × Bool) :=
 ((((spec_l02Is a0_0 a0_1 a0_2 a0_3 a0_4).bind fun (x2 : Bool) => (if (!x2) = true then some true else ((spec_l02Fits a0_0 a0_1 a0_2 a0_3 a0_4 a1_0 a1_1 a1_2).bind fun (x3 : Bool) => some (!x3)))) : Option Bool).bind fun (x1 : Bool) => (if x1 = true then some ((some 0), false) else ((loopF (fun (s : ((Option Nat) × Bool × (Option Nat) × Int)) => spec_RayleighOf.s0 a0_3 a1_0 s.1 s.2.1 s.2.2.1 s.2.2.2) ((some 0), false, (some 0), 0)).bind fun (y2 : (((Option Nat) × Bool × (Option Nat) × Int × Bool) ⊕ ((Option Nat) × Bool))) => match y2 with | .inl (x8, x9, x10, x11, x12) => (if (!(fcmp .gtr .f64 x10 (some 0))) = true then some ((some 0), false) else ((spec_l08Jumps a0_0 a0_1 a0_2 a0_3 a0_4 a1_0 a1_1 a1_2 (some 0) 0 1).bind fun (x17 : Option Nat) => ((spec_l08Jumps a0_0 a0_1 a0_2 a0_3 a0_4 a1_0 a1_1 a1_2 x17 1 0).bind fun (x18 : Option Nat) => ((spec_l01Narrow (fop .quo .f64 (fop .mul .f64 x18 (some 4602678819172646912)) x10)).bind fun (x19 : Option Nat) => some (x19, true))))) | .inr r1 => some r1)))

noncomputable def impl_RayleighOf_1 (a0 : Option Nat) : Option Bool :=
 some (!(fcmp .gtr .f32 a0 (some 0)))

noncomputable def impl_square (a0 : Option Nat) : Option (Option Nat) :=
 some (fop .mul .f64 (wid a0) (wid a0))

noncomputable def slices_IndexFunc_float32_float32__impl_RayleighOf_1.s0 (a0 : List (Option Nat)) (x1 : Int) (x2 : Int) : Option ((Int × Int) ⊕ ((Int × Int × Bool) ⊕ Int)) :=
 (if (decide (x2 < (a0.length : Int))) = true then ((idx a0 x2).bind fun (x6 : Option Nat) => ((impl_RayleighOf_1 x6).bind fun (x7 : Bool) => (if x7 = true then some (.inr (.inr x2)) else some (.inl (x1, IntKind.wrap .i64 (x2 + 1)))))) else some (.inr (.inl (x1, x2, decide (x2 < (a0.length : Int))))))

noncomputable def slices_IndexFunc_float32_float32__impl_RayleighOf_1 (a0 : List (Option Nat)) : Option Int :=
 ((loopF (fun (s : (Int × Int)) => slices_IndexFunc_float32_float32__impl_RayleighOf_1.s0 a0 s.1 s.2) (0, 0)).bind fun (y1 : ((Int × Int × Bool) ⊕ Int)) => match y1 with | .inl (x3, x4, x5) => some (-1) | .inr r1 => some r1)

noncomputable def slices_ContainsFunc_float32_float32__impl_RayleighOf_1 (a0 : List (Option Nat)) : Option Bool :=
 ((slices_IndexFunc_float32_float32__impl_RayleighOf_1 a0).bind fun (x1 : Int) => some (decide (x1 ≥ 0)))

noncomputable def impl_RayleighOf_2 (a0 : Int) (a1 : Int) (ae0_0 : List (Option Nat)) (ae0_1 : List (Option Nat)) (ae0_2 : List (Option Nat)) (ae1_0 : Option Nat) : Option (Option Nat) :=
 ((idx ae0_0 a1).bind fun (x1 : Option Nat) => ((idx ae0_0 a0).bind fun (x2 : Option Nat) => some (fop .add .f64 ae1_0 (fop .mul .f64 (fop .sub .f64 (wid x1) (wid x2)) (fop .sub .f64 (wid x1) (wid x2))))))

noncomputable def impl_RayleighOf_3 (a0 : Int) (a1 : Int) (a2 : Int) (ae0_0 : Int) (ae0_1 : Int) (ae0_2 : Bool) (ae0_3 : List (Option Nat)) (ae0_4 : List (Option Nat)) (ae2_0 : List (Option Nat)) (ae2_1 : List (Option Nat)) (ae2_2 : List (Option Nat)) (ae3_0 : Option Nat) : Option (Int × Int × Bool × (Option Nat)) :=
 (((if ae0_2 = true then some true else some (decide ((IntKind.wrap .i64 (a1 + 1)) < ae0_1))) : Option Bool).bind fun (x1 : Bool) => (((if x1 = true then ((impl_Sheet_at ae0_0 ae0_1 ae0_2 ae0_3 ae0_4 a0 (IntKind.wrap .i64 (a1 + 1))).bind fun (x3 : Int) => ((impl_RayleighOf_2 a2 x3 ae2_0 ae2_1 ae2_2 ae3_0).bind fun (x4 : Option Nat) => some x4)) else some ae3_0) : Option (Option Nat)).bind fun (x2 : Option Nat) => some (ae0_0, ae0_1, ae0_2, x2)))

noncomputable def impl_Sheet_each__impl_RayleighOf_3.s1 (a0_0 : Int) (a0_1 : Int) (a0_2 : Bool) (a0_3 : List (Option Nat)) (a0_4 : List (Option Nat)) (ae0_3 : List (Option Nat)) (ae0_4 : List (Option Nat)) (ae2_0 : List (Option Nat)) (ae2_1 : List (Option Nat)) (ae2_2 : List (Option Nat)) (x1 : Int) (x12 : Int) (x13 : Int) (x14 : Int) (x15 : Bool) (x16 : Option Nat) : Option ((Int × Int × Int × Bool × (Option Nat)) ⊕ (Int × Bool × Int × Int × Bool × (Option Nat))) :=
 (if (decide (x12 < a0_0)) = true then ((impl_Sheet_at a0_0 a0_1 a0_2 a0_3 a0_4 x12 x1).bind fun (x23 : Int) => ((impl_RayleighOf_3 x12 x1 x23 x13 x14 x15 ae0_3 ae0_4 ae2_0 ae2_1 ae2_2 x16).bind fun (x24 : (Int × Int × Bool × (Option Nat))) => some (.inl (IntKind.wrap .i64 (x12 + 1), x24.1, x24.2.1, x24.2.2.1, x24.2.2.2)))) else some (.inr (x12, decide (x12 < a0_0), x13, x14, x15, x16)))

noncomputable def impl_Sheet_each__impl_RayleighOf_3.s0 (a0_0 : Int) (a0_1 : Int) (a0_2 : Bool) (a0_3 : List (Option Nat)) (a0_4 : List (Option Nat)) (ae0_3 : List (Option Nat)) (ae0_4 : List (Option Nat)) (ae2_0 : List (Option Nat)) (ae2_1 : List (Option Nat)) (ae2_2 : List (Option Nat)) (x1 : Int) (x2 : Int) (x3 : Int) (x4 : Bool) (x5 : Option Nat) : Option ((Int × Int × Int × Bool × (Option Nat)) ⊕ (Int × Bool × Int × Int × Bool × (Option Nat))) :=
 (if (decide (x1 < a0_1)) = true then ((loopF (fun (s : (Int × Int × Int × Bool × (Option Nat))) => impl_Sheet_each__impl_RayleighOf_3.s1 a0_0 a0_1 a0_2 a0_3 a0_4 ae0_3 ae0_4 ae2_0 ae2_1 ae2_2 x1 s.1 s.2.1 s.2.2.1 s.2.2.2.1 s.2.2.2.2) (0, x2, x3, x4, x5)).bind fun (⟨x17, x18, x19, x20, x21, x22⟩ : (Int × Bool × Int × Int × Bool × (Option Nat))) => some (.inl (IntKind.wrap .i64 (x1 + 1), x19, x20, x21, x22))) else some (.inr (x1, decide (x1 < a0_1), x2, x3, x4, x5)))

noncomputable def impl_Sheet_each__impl_RayleighOf_3 (a0_0 : Int) (a0_1 : Int) (a0_2 : Bool) (a0_3 : List (Option Nat)) (a0_4 : List (Option Nat)) (ae0_0 : Int) (ae0_1 : Int) (ae0_2 : Bool) (ae0_3 : List (Option Nat)) (ae0_4 : List (Option Nat)) (ae2_0 : List (Option Nat)) (ae2_1 : List (Option Nat)) (ae2_2 : List (Option Nat)) (ae3_0 : Option Nat) : Option (Int × Int × Bool × (Option Nat)) :=
 ((loopF (fun (s : (Int × Int × Int × Bool × (Option Nat))) => impl_Sheet_each__impl_RayleighOf_3.s0 a0_0 a0_1 a0_2 a0_3 a0_4 ae0_3 ae0_4 ae2_0 ae2_1 ae2_2 s.1 s.2.1 s.2.2.1 s.2.2.2.1 s.2.2.2.2) (0, ae0_0, ae0_1, ae0_2, ae3_0)).bind fun (⟨x6, x7, x8, x9, x10, x11⟩ : (Int × Bool × Int × Int × Bool × (Option Nat))) => some (x8, x9, x10, x11))

noncomputable def impl_RayleighOf_4 (a0 : Int) (a1 : Int) (a2 : Int) (ae0_0 : Int) (ae0_1 : Int) (ae0_2 : Bool) (ae0_3 : List (Option Nat)) (ae0_4 : List (Option Nat)) (ae2_0 : List (Option Nat)) (ae2_1 : List (Option Nat)) (ae2_2 : List (Option Nat)) (ae3_0 : Option Nat) : Option (Int × Int × Bool × (Option Nat)) :=
 (((if ae0_2 = true then some true else some (decide ((IntKind.wrap .i64 (a0 + 1)) < ae0_0))) : Option Bool).bind fun (x1 : Bool) => (((if x1 = true then ((impl_Sheet_at ae0_0 ae0_1 ae0_2 ae0_3 ae0_4 (IntKind.wrap .i64 (a0 + 1)) a1).bind fun (x3 : Int) => ((impl_RayleighOf_2 a2 x3 ae2_0 ae2_1 ae2_2 ae3_0).bind fun (x4 : Option Nat) => some x4)) else some ae3_0) : Option (Option Nat)).bind fun (x2 : Option Nat) => some (ae0_0, ae0_1, ae0_2, x2)))

noncomputable def impl_Sheet_each__impl_RayleighOf_4.s1 (a0_0 : Int) (a0_1 : Int) (a0_2 : Bool) (a0_3 : List (Option Nat)) (a0_4 : List (Option Nat)) (ae0_3 : List (Option Nat)) (ae0_4 : List (Option Nat)) (ae2_0 : List (Option Nat)) (ae2_1 : List (Option Nat)) (ae2_2 : List (Option Nat)) (x1 : Int) (x12 : Int) (x13 : Int) (x14 : Int) (x15 : Bool) (x16 : Option Nat) : Option ((Int × Int × Int × Bool × (Option Nat)) ⊕ (Int × Bool × Int × Int × Bool × (Option Nat))) :=
 (if (decide (x12 < a0_0)) = true then ((impl_Sheet_at a0_0 a0_1 a0_2 a0_3 a0_4 x12 x1).bind fun (x23 : Int) => ((impl_RayleighOf_4 x12 x1 x23 x13 x14 x15 ae0_3 ae0_4 ae2_0 ae2_1 ae2_2 x16).bind fun (x24 : (Int × Int × Bool × (Option Nat))) => some (.inl (IntKind.wrap .i64 (x12 + 1), x24.1, x24.2.1, x24.2.2.1, x24.2.2.2)))) else some (.inr (x12, decide (x12 < a0_0), x13, x14, x15, x16)))

noncomputable def impl_Sheet_each__impl_RayleighOf_4.s0 (a0_0 : Int) (a0_1 : Int) (a0_2 : Bool) (a0_3 : List (Option Nat)) (a0_4 : List (Option Nat)) (ae0_3 : List (Option Nat)) (ae0_4 : List (Option Nat)) (ae2_0 : List (Option Nat)) (ae2_1 : List (Option Nat)) (ae2_2 : List (Option Nat)) (x1 : Int) (x2 : Int) (x3 : Int) (x4 : Bool) (x5 : Option Nat) : Option ((Int × Int × Int × Bool × (Option Nat)) ⊕ (Int × Bool × Int × Int × Bool × (Option Nat))) :=
 (if (decide (x1 < a0_1)) = true then ((loopF (fun (s : (Int × Int × Int × Bool × (Option Nat))) => impl_Sheet_each__impl_RayleighOf_4.s1 a0_0 a0_1 a0_2 a0_3 a0_4 ae0_3 ae0_4 ae2_0 ae2_1 ae2_2 x1 s.1 s.2.1 s.2.2.1 s.2.2.2.1 s.2.2.2.2) (0, x2, x3, x4, x5)).bind fun (⟨x17, x18, x19, x20, x21, x22⟩ : (Int × Bool × Int × Int × Bool × (Option Nat))) => some (.inl (IntKind.wrap .i64 (x1 + 1), x19, x20, x21, x22))) else some (.inr (x1, decide (x1 < a0_1), x2, x3, x4, x5)))

noncomputable def impl_Sheet_each__impl_RayleighOf_4 (a0_0 : Int) (a0_1 : Int) (a0_2 : Bool) (a0_3 : List (Option Nat)) (a0_4 : List (Option Nat)) (ae0_0 : Int) (ae0_1 : Int) (ae0_2 : Bool) (ae0_3 : List (Option Nat)) (ae0_4 : List (Option Nat)) (ae2_0 : List (Option Nat)) (ae2_1 : List (Option Nat)) (ae2_2 : List (Option Nat)) (ae3_0 : Option Nat) : Option (Int × Int × Bool × (Option Nat)) :=
 ((loopF (fun (s : (Int × Int × Int × Bool × (Option Nat))) => impl_Sheet_each__impl_RayleighOf_4.s0 a0_0 a0_1 a0_2 a0_3 a0_4 ae0_3 ae0_4 ae2_0 ae2_1 ae2_2 s.1 s.2.1 s.2.2.1 s.2.2.2.1 s.2.2.2.2) (0, ae0_0, ae0_1, ae0_2, ae3_0)).bind fun (⟨x6, x7, x8, x9, x10, x11⟩ : (Int × Bool × Int × Int × Bool × (Option Nat))) => some (x8, x9, x10, x11))

noncomputable def impl_RayleighOf.s0 (a0_3 : List (Option Nat)) (a1_0 : List (Option Nat)) (x6 : Option Nat) (x7 : Int) : Option (((Option Nat) × Int) ⊕ ((Option Nat) × Int × Bool)) :=
 (if (decide (x7 < (a1_0.length : Int))) = true then ((idx a1_0 x7).bind fun (x11 : Option Nat) => ((impl_square x11).bind fun (x12 : Option Nat) => ((idx a0_3 x7).bind fun (x13 : Option Nat) => some (.inl (fop .add .f64 x6 (fop .quo .f64 x12 (wid x13)), IntKind.wrap .i64 (x7 + 1)))))) else some (.inr (x6, x7, decide (x7 < (a1_0.length : Int)))))

noncomputable def impl_RayleighOf (a0_0 : Int) (a0_1 : Int) (a0_2 : Bool) (a0_3 : List (Option Nat)) (a0_4 : List (Option Nat)) (a1_0 : List (Option Nat)) (a1_1 : List (Option Nat)) (a1_2 : List (Option Nat)) : Option ((Option Nat) × Bool) :=
 ((((impl_IsField a0_0 a0_1 a0_2 a0_3 a0_4 a1_0 a1_1 a1_2).bind fun (x2 : Bool) => (if (!x2) = true then some true else ((slices_ContainsFunc_float32_float32__impl_RayleighOf_1 a0_3).bind fun (x3 : Bool) => some x3))) : Option Bool).bind fun (x1 : Bool) => (if x1 = true then some ((some 0), false) else ((impl_Sheet_each__impl_RayleighOf_3 a0_0 a0_1 a0_2 a0_3 a0_4 a0_0 a0_1 a0_2 a0_3 a0_4 a1_0 a1_1 a1_2 (some 0)).bind fun (x4 : (Int × Int × Bool × (Option Nat))) => ((impl_Sheet_each__impl_RayleighOf_4 x4.1 x4.2.1 x4.2.2.1 a0_3 a0_4 x4.1 x4.2.1 x4.2.2.1 a0_3 a0_4 a1_0 a1_1 a1_2 x4.2.2.2).bind fun (x5 : (Int × Int × Bool × (Option Nat))) => ((loopF (fun (s : ((Option Nat) × Int)) => impl_RayleighOf.s0 a0_3 a1_0 s.1 s.2) ((some 0), 0)).bind fun (⟨x8, x9, x10⟩ : ((Option Nat) × Int × Bool)) => (if (!(fcmp .gtr .f64 x8 (some 0))) = true then some ((some 0), false) else ((fcv .f64 .f32 (fop .quo .f64 (fop .quo .f64 x5.2.2.2 (some 4611686018427387904)) x8)).bind fun (x14 : Option Nat) => some (x14, true))))))))

noncomputable def laws_FnExactRayleighOf (a0_0 : Int) (a0_1 : Int) (a0_2 : Bool) (a0_3 : List (Option Nat)) (a0_4 : List (Option Nat)) (a1_0 : List (Option Nat)) (a1_1 : List (Option Nat)) (a1_2 : List (Option Nat)) : Option Bool :=
 ((laws_szSheet a0_0 a0_1 a0_2 a0_3 a0_4 1048576).bind fun (x1 : Int) => (if (decide (x1 < 0)) = true then some true else ((laws_szField a1_0 a1_1 a1_2 x1).bind fun (x2 : Int) => (if (decide (x2 < 0)) = true then some true else ((laws_toSheet a0_0 a0_1 a0_2 a0_3 a0_4).bind fun (x3 : (Int × Int × Bool × (List (Option Nat)) × (List (Option Nat)))) => ((laws_toField a1_0 a1_1 a1_2).bind fun (x4 : ((List (Option Nat)) × (List (Option Nat)) × (List (Option Nat)))) => ((spec_RayleighOf x3.1 x3.2.1 x3.2.2.1 x3.2.2.2.1 x3.2.2.2.2 x4.1 x4.2.1 x4.2.2).bind fun (x5 : ((Option Nat) × Bool)) => ((laws_toSheet a0_0 a0_1 a0_2 a0_3 a0_4).bind fun (x6 : (Int × Int × Bool × (List (Option Nat)) × (List (Option Nat)))) => ((laws_toField a1_0 a1_1 a1_2).bind fun (x7 : ((List (Option Nat)) × (List (Option Nat)) × (List (Option Nat)))) => ((impl_RayleighOf x6.1 x6.2.1 x6.2.2.1 x6.2.2.2.1 x6.2.2.2.2 x7.1 x7.2.1 x7.2.2).bind fun (x8 : ((Option Nat) × Bool)) => ((((laws_sameFloat (wid x8.1) (wid x5.1)).bind fun (x10 : Bool) => (if (!x10) = true then some true else some (x8.2 != x5.2))) : Option Bool).bind fun (x9 : Bool) => (if x9 = true then some false else ((laws_toSheet a0_0 a0_1 a0_2 a0_3 a0_4).bind fun (x11 : (Int × Int × Bool × (List (Option Nat)) × (List (Option Nat)))) => ((laws_eqSheet x6.1 x6.2.1 x6.2.2.1 x6.2.2.2.1 x6.2.2.2.2 x11.1 x11.2.1 x11.2.2.1 x11.2.2.2.1 x11.2.2.2.2).bind fun (x12 : Bool) => (if (!x12) = true then some false else ((laws_toField a1_0 a1_1 a1_2).bind fun (x13 : ((List (Option Nat)) × (List (Option Nat)) × (List (Option Nat)))) => ((laws_eqField x7.1 x7.2.1 x7.2.2 x13.1 x13.2.1 x13.2.2).bind fun (x14 : Bool) => (if (!x14) = true then some false else some true))))))))))))))))))

set_option maxRecDepth 20000 in
theorem spec_l08Jumps_ok (h0 : Heap) (b0 : Nat) (a0_0 : Int) (a0_1 : Int) (a0_2 : Bool) (u0_3 : Value) (a0_3 : List (Option Nat)) (g0_3 : SL (kF .f32) h0.size h0 u0_3 a0_3) (u0_4 : Value) (a0_4 : List (Option Nat)) (g0_4 : SL (kF .f32) h0.size h0 u0_4 a0_4) (G0 : Bx h0 b0 [(.int .i64 a0_0), (.int .i64 a0_1), (.bool a0_2), u0_3, u0_4]) (b1 : Nat) (u1_0 : Value) (a1_0 : List (Option Nat)) (g1_0 : SL (kF .f32) h0.size h0 u1_0 a1_0) (u1_1 : Value) (a1_1 : List (Option Nat)) (g1_1 : SL (kF .f32) h0.size h0 u1_1 a1_1) (u1_2 : Value) (a1_2 : List (Option Nat)) (g1_2 : SL (kF .f32) h0.size h0 u1_2 a1_2) (G1 : Bx h0 b1 [u1_0, u1_1, u1_2]) (u2 : Value) (a2 : Option Nat) (g2 : IsF .f64 u2 a2) (a3 : Int) (a4 : Int) (r : Option Nat) (hp : spec_l08Jumps a0_0 a0_1 a0_2 a0_3 a0_4 a1_0 a1_1 a1_2 a2 a3 a4 = some r) : CallsH Try.prog 123 ([(.pointer (some ⟨b0, 0, none⟩)), (.pointer (some ⟨b1, 0, none⟩)), u2, (.int .i64 a3), (.int .i64 a4)].toArray ++ [].toArray) h0 (fun v h' => IsF .f64 v r ∧ h0 = h') := by
 unfold spec_l08Jumps at hp
 refine callsH_of_W (l := [(.pointer (some ⟨b0, 0, none⟩)), (.pointer (some ⟨b1, 0, none⟩)), u2, (.int .i64 a3), (.int .i64 a4)]) (cap := []) 108 Try.func123 rfl rfl rfl ?_
 refine W.seq ?_
 refine W.region ?_
 refine RL.opD (by decide) (opv_assign rfl rfl) ?_
 refine RL.nil ?_
 refine thnN ?_
 refine W.seq ?_
 refine W.seq ?_
 refine W.region ?_
 refine RL.opD (by decide) (opv_assign rfl rfl) ?_
 refine RL.nil ?_
 refine thnN ?_
 obtain ⟨y1, hy1, hp⟩ := Option.bind_eq_some_iff.1 hp
 refine W.cut (fun φ' h' => ∃ x3, ∃ x4, ∃ x5, ∃ v2, y1 = (x3, x4, x5) ∧ Fr.sub [(0, (.pointer (some ⟨b0, 0, none⟩))), (1, (.pointer (some ⟨b1, 0, none⟩))), (3, (.int .i64 a3)), (4, (.int .i64 a4)), (10, (.float .f64 0)), (2, v2), (11, (.int .i64 x4)), (20, (.bool x5))] φ' ∧ IsF .f64 v2 x3 ∧ h0 = h') ?_ ?_
 ·refine W.block ?_
  refine W.loopS (fun (s : ((Option Nat) × Int)) φ' h' => ∃ v1, Fr.sub [(0, (.pointer (some ⟨b0, 0, none⟩))), (1, (.pointer (some ⟨b1, 0, none⟩))), (3, (.int .i64 a3)), (4, (.int .i64 a4)), (10, (.float .f64 0)), (2, v1), (11, (.int .i64 s.2))] φ' ∧ IsF .f64 v1 s.1 ∧ h0 = h') hy1 ⟨u2, ⟨rfl, rfl, rfl, rfl, rfl, rfl, rfl, trivial⟩, g2, rfl⟩ ?_
  rintro ⟨x1, x2⟩ φ' _ o1 ⟨v1, hs1, fv1, rfl⟩ ho1 hy1
  have hs1 : Fr.sub [(0, (.pointer (some ⟨b0, 0, none⟩))), (1, (.pointer (some ⟨b1, 0, none⟩))), (3, (.int .i64 a3)), (4, (.int .i64 a4)), (10, (.float .f64 0)), (2, v1), (11, (.int .i64 x2))] φ' := hs1
  have fv1 : IsF .f64 v1 x1 := fv1
  have ho1 : spec_l08Jumps.s0 a0_0 a0_1 a0_2 a1_0 a3 a4 x1 x2 = some o1 := ho1
  unfold spec_l08Jumps.s0 at ho1
  refine W.sub hs1 ?_
  refine W.seq ?_
  refine W.seq ?_
  refine W.region ?_
  refine RL.opD (by decide) (opv_move rfl rfl) ?_
  refine RL.opD (by decide) (opv_move rfl rfl) ?_
  refine RL.opD (by decide) (opv_nilCheck rfl rfl) ?_
  refine RL.opD (by decide) (opv_fieldAddr rfl Try.fo29_1 rfl) ?_
  refine RL.opD (by decide) (opv_loadB rfl Try.one2 rfl G0 rfl) ?_
  refine RL.opD (by decide) (opv_icmp rfl rfl rfl rfl) ?_
  refine RL.nil ?_
  refine thnN ?_
  by_cases c1 : (decide (x2 < a0_1)) = true
  ·rw [if_pos c1] at ho1
   refine W.condT rfl c1 ?_
   refine W.skip ?_
   refine thnN ?_
   refine W.seq ?_
   refine W.block ?_
   refine W.seq ?_
   refine W.region ?_
   refine RL.opD (by decide) (opv_assign rfl rfl) ?_
   refine RL.nil ?_
   refine thnN ?_
   obtain ⟨y2, hy2, ho1⟩ := Option.bind_eq_some_iff.1 ho1
   refine W.cut (fun φ' h' => ∃ x8, ∃ x9, ∃ x10, ∃ v4, y2 = (x8, x9, x10) ∧ Fr.sub [(0, (.pointer (some ⟨b0, 0, none⟩))), (1, (.pointer (some ⟨b1, 0, none⟩))), (3, (.int .i64 a3)), (4, (.int .i64 a4)), (10, (.float .f64 0)), (11, (.int .i64 x2)), (20, (.bool (decide (x2 < a0_1)))), (2, v4), (12, (.int .i64 x9)), (28, (.bool x10))] φ' ∧ IsF .f64 v4 x8 ∧ h0 = h') ?_ ?_
   ·refine W.block ?_
    refine W.loopS (fun (s : ((Option Nat) × Int)) φ' h' => ∃ v3, Fr.sub [(0, (.pointer (some ⟨b0, 0, none⟩))), (1, (.pointer (some ⟨b1, 0, none⟩))), (3, (.int .i64 a3)), (4, (.int .i64 a4)), (10, (.float .f64 0)), (11, (.int .i64 x2)), (20, (.bool (decide (x2 < a0_1)))), (2, v3), (12, (.int .i64 s.2))] φ' ∧ IsF .f64 v3 s.1 ∧ h0 = h') hy2 ⟨v1, ⟨rfl, rfl, rfl, rfl, rfl, rfl, rfl, rfl, rfl, trivial⟩, fv1, rfl⟩ ?_
    rintro ⟨x6, x7⟩ φ' _ o2 ⟨v3, hs3, fv3, rfl⟩ ho2 hy2
    have hs3 : Fr.sub [(0, (.pointer (some ⟨b0, 0, none⟩))), (1, (.pointer (some ⟨b1, 0, none⟩))), (3, (.int .i64 a3)), (4, (.int .i64 a4)), (10, (.float .f64 0)), (11, (.int .i64 x2)), (20, (.bool (decide (x2 < a0_1)))), (2, v3), (12, (.int .i64 x7))] φ' := hs3
    have fv3 : IsF .f64 v3 x6 := fv3
    have ho2 : spec_l08Jumps.s1 a0_0 a0_1 a0_2 a1_0 a3 a4 x2 x6 x7 = some o2 := ho2
    unfold spec_l08Jumps.s1 at ho2
    refine W.sub hs3 ?_
    refine W.seq ?_
    refine W.seq ?_
    refine W.region ?_
    refine RL.opD (by decide) (opv_move rfl rfl) ?_
    refine RL.opD (by decide) (opv_move rfl rfl) ?_
    refine RL.opD (by decide) (opv_nilCheck rfl rfl) ?_
    refine RL.opD (by decide) (opv_fieldAddr rfl Try.fo29_0 rfl) ?_
    refine RL.opD (by decide) (opv_loadB rfl Try.one2 rfl G0 rfl) ?_
    refine RL.opD (by decide) (opv_icmp rfl rfl rfl rfl) ?_
    refine RL.nil ?_
    refine thnN ?_
    by_cases c2 : (decide (x7 < a0_0)) = true
    ·rw [if_pos c2] at ho2
     refine W.condT rfl c2 ?_
     refine W.skip ?_
     refine thnN ?_
     refine W.seq ?_
     obtain ⟨⟨x11, x12⟩, hy3, ho2⟩ := Option.bind_eq_some_iff.1 ho2
     try dsimp only at ho2
     refine W.cut (fun φ' h' => ∃ v5, Fr.sub [(0, (.pointer (some ⟨b0, 0, none⟩))), (1, (.pointer (some ⟨b1, 0, none⟩))), (3, (.int .i64 a3)), (4, (.int .i64 a4)), (10, (.float .f64 0)), (11, (.int .i64 x2)), (20, (.bool (decide (x2 < a0_1)))), (12, (.int .i64 x7)), (28, (.bool (decide (x7 < a0_0)))), (2, v5), (55, (.bool x12))] φ' ∧ IsF .f64 v5 x11 ∧ h0 = h') ?_ ?_
     ·refine W.block ?_
      refine W.seq ?_
      refine W.seq ?_
      obtain ⟨x13, hy4, hy3⟩ := Option.bind_eq_some_iff.1 hy3
      refine W.cut (fun φ' h' => Fr.sub [(0, (.pointer (some ⟨b0, 0, none⟩))), (1, (.pointer (some ⟨b1, 0, none⟩))), (3, (.int .i64 a3)), (4, (.int .i64 a4)), (10, (.float .f64 0)), (11, (.int .i64 x2)), (20, (.bool (decide (x2 < a0_1)))), (2, v3), (12, (.int .i64 x7)), (28, (.bool (decide (x7 < a0_0)))), (55, (.bool x13))] φ' ∧ h0 = h') ?_ ?_
      ·refine W.region ?_
       refine RL.opD (by decide) (opv_move rfl rfl) ?_
       refine RL.opD (by decide) (opv_nilCheck rfl rfl) ?_
       refine RL.opD (by decide) (opv_fieldAddr rfl Try.fo29_2 rfl) ?_
       refine RL.opD (by decide) (opv_loadB rfl Try.one4 rfl G0 rfl) ?_
       refine RL.opD (by decide) (opv_not rfl rfl) ?_
       refine RL.opD (by decide) (opv_move rfl rfl) ?_
       by_cases c3 : (!a0_2) = true
       ·rw [if_pos c3] at hy4
        refine RL.yesD rfl rfl c3 (by decide) (opv_move rfl rfl) ?_
        refine RL.yesD rfl rfl c3 (by decide) (opv_move rfl rfl) ?_
        refine RL.yesD rfl rfl c3 (by decide) (opv_add rfl rfl rfl) ?_
        refine RL.yesD rfl rfl c3 (by decide) (opv_move rfl rfl) ?_
        refine RL.yesD rfl rfl c3 (by decide) (opv_nilCheck rfl rfl) ?_
        refine RL.yesD rfl rfl c3 (by decide) (opv_fieldAddr rfl Try.fo29_0 rfl) ?_
        refine RL.yesD rfl rfl c3 (by decide) (opv_loadB rfl Try.one2 rfl G0 rfl) ?_
        refine RL.yesD rfl rfl c3 (by decide) (opv_icmp rfl rfl rfl rfl) ?_
        refine RL.yesD rfl rfl c3 (by decide) (opv_move rfl rfl) ?_
        by_cases c4 : ((IntKind.wrap .i64 (x7 + a3)) == a0_0) = true
        ·rw [if_pos c4] at hy4
         refine RL.noT rfl rfl c4 (by decide) ?_
         refine RL.noT rfl rfl c4 (by decide) ?_
         refine RL.noT rfl rfl c4 (by decide) ?_
         refine RL.noT rfl rfl c4 (by decide) ?_
         refine RL.noT rfl rfl c4 (by decide) ?_
         refine RL.noT rfl rfl c4 (by decide) ?_
         refine RL.noT rfl rfl c4 (by decide) ?_
         refine RL.noT rfl rfl c4 (by decide) ?_
         refine RL.yesD rfl rfl c3 (by decide) (opv_pick rfl rfl (fun _ => rfl) (fun e => absurd (Eq.trans (Eq.symm e) c4) (by decide)) rfl) ?_
         refine RL.opD (by decide) (opv_pick rfl rfl (fun _ => rfl) (fun e => absurd (Eq.trans (Eq.symm e) c3) (by decide)) rfl) ?_
         refine RL.nil ?_
         have ey4 := Option.some.inj hy4
         subst ey4
         refine onlyN ?_
         exact ⟨⟨rfl, rfl, rfl, rfl, rfl, rfl, rfl, rfl, rfl, rfl, rfl, trivial⟩, rfl⟩
        ·rw [if_neg c4] at hy4
         have c4 := eq_false_of_ne_true c4
         refine RL.yesD rfl rfl c4 (by decide) (opv_move rfl rfl) ?_
         refine RL.yesD rfl rfl c4 (by decide) (opv_move rfl rfl) ?_
         refine RL.yesD rfl rfl c4 (by decide) (opv_add rfl rfl rfl) ?_
         refine RL.yesD rfl rfl c4 (by decide) (opv_move rfl rfl) ?_
         refine RL.yesD rfl rfl c4 (by decide) (opv_nilCheck rfl rfl) ?_
         refine RL.yesD rfl rfl c4 (by decide) (opv_fieldAddr rfl Try.fo29_1 rfl) ?_
         refine RL.yesD rfl rfl c4 (by decide) (opv_loadB rfl Try.one2 rfl G0 rfl) ?_
         refine RL.yesD rfl rfl c4 (by decide) (opv_icmp rfl rfl rfl rfl) ?_
         refine RL.yesD rfl rfl c3 (by decide) (opv_pick rfl rfl (fun e => absurd (Eq.trans (Eq.symm e) c4) (by decide)) (fun _ => rfl) rfl) ?_
         refine RL.opD (by decide) (opv_pick rfl rfl (fun _ => rfl) (fun e => absurd (Eq.trans (Eq.symm e) c3) (by decide)) rfl) ?_
         refine RL.nil ?_
         have ey4 := Option.some.inj hy4
         subst ey4
         refine onlyN ?_
         exact ⟨⟨rfl, rfl, rfl, rfl, rfl, rfl, rfl, rfl, rfl, rfl, rfl, trivial⟩, rfl⟩
       ·rw [if_neg c3] at hy4
        have c3 := eq_false_of_ne_true c3
        refine RL.noF rfl rfl c3 (by decide) ?_
        refine RL.noF rfl rfl c3 (by decide) ?_
        refine RL.noF rfl rfl c3 (by decide) ?_
        refine RL.noF rfl rfl c3 (by decide) ?_
        refine RL.noF rfl rfl c3 (by decide) ?_
        refine RL.noF rfl rfl c3 (by decide) ?_
        refine RL.noF rfl rfl c3 (by decide) ?_
        refine RL.noF rfl rfl c3 (by decide) ?_
        refine RL.noF rfl rfl c3 (by decide) ?_
        refine RL.noU rfl rfl (by decide) ?_
        refine RL.noU rfl rfl (by decide) ?_
        refine RL.noU rfl rfl (by decide) ?_
        refine RL.noU rfl rfl (by decide) ?_
        refine RL.noU rfl rfl (by decide) ?_
        refine RL.noU rfl rfl (by decide) ?_
        refine RL.noU rfl rfl (by decide) ?_
        refine RL.noU rfl rfl (by decide) ?_
        refine RL.noF rfl rfl c3 (by decide) ?_
        refine RL.opD (by decide) (opv_pick rfl rfl (fun e => absurd (Eq.trans (Eq.symm e) c3) (by decide)) (fun _ => rfl) rfl) ?_
        refine RL.nil ?_
        have ey4 := Option.some.inj hy4
        subst ey4
        refine onlyN ?_
        exact ⟨⟨rfl, rfl, rfl, rfl, rfl, rfl, rfl, rfl, rfl, rfl, rfl, trivial⟩, rfl⟩
      rintro φ' _ ⟨hs6, rfl⟩
      refine thnN ?_
      refine W.sub hs6 ?_
      by_cases c5 : x13 = true
      ·rw [if_pos c5] at hy3
       refine W.condT rfl c5 ?_
       refine W.exit ?_
       refine thnX ?_
       refine blkI ?_
       have ey3 := Option.some.inj hy3
       simp only [Prod.mk.injEq] at ey3
       obtain ⟨rfl, rfl⟩ := ey3
       refine onlyN ?_
       exact ⟨v3, ⟨rfl, rfl, rfl, rfl, rfl, rfl, rfl, rfl, rfl, rfl, rfl, trivial⟩, fv3, rfl⟩
      ·rw [if_neg c5] at hy3
       have c5 := eq_false_of_ne_true c5
       refine W.condF rfl c5 ?_
       refine W.skip ?_
       refine thnN ?_
       refine W.seq ?_
       by_cases nc6 : a0_0 = 0
       ·rw [if_pos nc6] at hy3; cases hy3
       rw [if_neg nc6] at hy3
       have c6 : a0_0 ≠ 0 := nc6
       by_cases nc7 : a0_1 = 0
       ·rw [if_pos nc7] at hy3; cases hy3
       rw [if_neg nc7] at hy3
       have c7 : a0_1 ≠ 0 := nc7
       refine W.sub (ψ := [(0, (.pointer (some ⟨b0, 0, none⟩))), (1, (.pointer (some ⟨b1, 0, none⟩))), (3, (.int .i64 a3)), (4, (.int .i64 a4)), (10, (.float .f64 0)), (11, (.int .i64 x2)), (20, (.bool (decide (x2 < a0_1)))), (2, v3), (12, (.int .i64 x7)), (28, (.bool (decide (x7 < a0_0)))), (55, (.bool x13))]) ⟨rfl, rfl, rfl, rfl, rfl, rfl, rfl, rfl, rfl, rfl, rfl, trivial⟩ ?_
       refine W.regionP [fun v _ => @Eq Value (.int .i64 x7) v, fun v _ => @Eq Value (.int .i64 a3) v, fun v _ => @Eq Value (.int .i64 (IntKind.wrap .i64 (x7 + a3))) v, fun v _ => @Eq Value (.pointer (some ⟨b0, 0, none⟩)) v, fun v _ => @Eq Value (.pointer (some ⟨b0, 0, none⟩)) v, fun v _ => @Eq Value (.pointer (some ⟨b0, 0, none⟩)) v, fun v _ => @Eq Value (.int .i64 a0_0) v, fun v _ => @Eq Value (.int .i64 (Int.tmod (IntKind.wrap .i64 (x7 + a3)) a0_0)) v, fun v _ => @Eq Value (.pointer (some ⟨b0, 0, none⟩)) v, fun v _ => @Eq Value (.pointer (some ⟨b0, 0, none⟩)) v, fun v _ => @Eq Value (.pointer (some ⟨b0, 0, none⟩)) v, fun v _ => @Eq Value (.int .i64 a0_0) v, fun v _ => @Eq Value (.int .i64 x2) v, fun v _ => @Eq Value (.int .i64 a4) v, fun v _ => @Eq Value (.int .i64 (IntKind.wrap .i64 (x2 + a4))) v, fun v _ => @Eq Value (.pointer (some ⟨b0, 0, none⟩)) v, fun v _ => @Eq Value (.pointer (some ⟨b0, 0, none⟩)) v, fun v _ => @Eq Value (.pointer (some ⟨b0, 1, none⟩)) v, fun v _ => @Eq Value (.int .i64 a0_1) v, fun v _ => @Eq Value (.int .i64 (Int.tmod (IntKind.wrap .i64 (x2 + a4)) a0_1)) v, fun v _ => @Eq Value (.int .i64 (IntKind.wrap .i64 (a0_0 * (Int.tmod (IntKind.wrap .i64 (x2 + a4)) a0_1)))) v, fun v _ => @Eq Value (.int .i64 (IntKind.wrap .i64 ((Int.tmod (IntKind.wrap .i64 (x7 + a3)) a0_0) + (IntKind.wrap .i64 (a0_0 * (Int.tmod (IntKind.wrap .i64 (x2 + a4)) a0_1)))))) v, fun v _ => @Eq Value (.int .i64 (IntKind.wrap .i64 ((Int.tmod (IntKind.wrap .i64 (x7 + a3)) a0_0) + (IntKind.wrap .i64 (a0_0 * (Int.tmod (IntKind.wrap .i64 (x2 + a4)) a0_1)))))) v] [[], [], [0, 1], [], [3], [4], [5], [2, 6], [], [8], [9], [10], [], [], [12, 13], [], [15], [16], [17], [14, 18], [11, 19], [7, 20], [21]] [22] Try.mixed (by decide +kernel) (by decide +kernel) rfl rfl rfl ?_ ?_
       ·refine ⟨⟨rfl, ?_⟩, ⟨rfl, ?_⟩, ⟨rfl, ?_⟩, ⟨rfl, ?_⟩, ⟨rfl, ?_⟩, ⟨rfl, ?_⟩, ⟨rfl, ?_⟩, ⟨rfl, ?_⟩, ⟨rfl, ?_⟩, ⟨rfl, ?_⟩, ⟨rfl, ?_⟩, ⟨rfl, ?_⟩, ⟨rfl, ?_⟩, ⟨rfl, ?_⟩, ⟨rfl, ?_⟩, ⟨rfl, ?_⟩, ⟨rfl, ?_⟩, ⟨rfl, ?_⟩, ⟨rfl, ?_⟩, ⟨rfl, ?_⟩, ⟨rfl, ?_⟩, ⟨rfl, ?_⟩, ⟨rfl, ?_⟩, trivial⟩
        ·rintro _ rfl
         refine Dep.nil ?_
         refine GuardOK.none rfl ?_
         exact OpV.toD (opv_move rfl rfl) rfl
        ·rintro _ rfl
         refine Dep.nil ?_
         refine GuardOK.none rfl ?_
         exact OpV.toD (opv_move rfl rfl) rfl
        ·rintro _ rfl _ rfl _ rfl
         refine Dep.nil ?_
         refine GuardOK.none rfl ?_
         exact OpV.toD (opv_add rfl rfl rfl) rfl
        ·rintro _ rfl
         refine Dep.nil ?_
         refine GuardOK.none rfl ?_
         exact OpV.toD (opv_move rfl rfl) rfl
        ·rintro _ rfl _ rfl
         refine Dep.nil ?_
         refine GuardOK.none rfl ?_
         exact OpV.toD (opv_nilCheck rfl rfl) rfl
        ·rintro _ rfl _ rfl
         refine Dep.nil ?_
         refine GuardOK.none rfl ?_
         exact OpV.toD (opv_fieldAddr rfl Try.fo29_0 rfl) rfl
        ·rintro _ rfl _ rfl
         refine Dep.nil ?_
         refine GuardOK.none rfl ?_
         exact OpV.toD (opv_loadB rfl Try.one2 rfl G0 rfl) rfl
        ·rintro _ rfl _ rfl _ rfl
         refine Dep.nil ?_
         refine GuardOK.none rfl ?_
         exact OpV.toD (opv_rem rfl c6 rfl rfl) rfl
        ·rintro _ rfl
         refine Dep.nil ?_
         refine GuardOK.none rfl ?_
         exact OpV.toD (opv_move rfl rfl) rfl
        ·rintro _ rfl _ rfl
         refine Dep.nil ?_
         refine GuardOK.none rfl ?_
         exact OpV.toD (opv_nilCheck rfl rfl) rfl
        ·rintro _ rfl _ rfl
         refine Dep.nil ?_
         refine GuardOK.none rfl ?_
         exact OpV.toD (opv_fieldAddr rfl Try.fo29_0 rfl) rfl
        ·rintro _ rfl _ rfl
         refine Dep.nil ?_
         refine GuardOK.none rfl ?_
         exact OpV.toD (opv_loadB rfl Try.one2 rfl G0 rfl) rfl
        ·rintro _ rfl
         refine Dep.nil ?_
         refine GuardOK.none rfl ?_
         exact OpV.toD (opv_move rfl rfl) rfl
        ·rintro _ rfl
         refine Dep.nil ?_
         refine GuardOK.none rfl ?_
         exact OpV.toD (opv_move rfl rfl) rfl
        ·rintro _ rfl _ rfl _ rfl
         refine Dep.nil ?_
         refine GuardOK.none rfl ?_
         exact OpV.toD (opv_add rfl rfl rfl) rfl
        ·rintro _ rfl
         refine Dep.nil ?_
         refine GuardOK.none rfl ?_
         exact OpV.toD (opv_move rfl rfl) rfl
        ·rintro _ rfl _ rfl
         refine Dep.nil ?_
         refine GuardOK.none rfl ?_
         exact OpV.toD (opv_nilCheck rfl rfl) rfl
        ·rintro _ rfl _ rfl
         refine Dep.nil ?_
         refine GuardOK.none rfl ?_
         exact OpV.toD (opv_fieldAddr rfl Try.fo29_1 rfl) rfl
        ·rintro _ rfl _ rfl
         refine Dep.nil ?_
         refine GuardOK.none rfl ?_
         exact OpV.toD (opv_loadB rfl Try.one2 rfl G0 rfl) rfl
        ·rintro _ rfl _ rfl _ rfl
         refine Dep.nil ?_
         refine GuardOK.none rfl ?_
         exact OpV.toD (opv_rem rfl c7 rfl rfl) rfl
        ·rintro _ rfl _ rfl _ rfl
         refine Dep.nil ?_
         refine GuardOK.none rfl ?_
         exact OpV.toD (opv_mul rfl rfl rfl) rfl
        ·rintro _ rfl _ rfl _ rfl
         refine Dep.nil ?_
         refine GuardOK.none rfl ?_
         exact OpV.toD (opv_add rfl rfl rfl) rfl
        ·rintro _ rfl _ rfl
         refine Dep.nil ?_
         refine GuardOK.none rfl ?_
         exact OpV.toD (opv_assign rfl rfl) rfl
       rintro _ rfl
       refine Dep.nil ?_
       show RL _ _ _ _ [] _ _
       refine RL.nil ?_
       refine thnN ?_
       refine W.seq ?_
       obtain ⟨x14, hx14, hy3⟩ := Option.bind_eq_some_iff.1 hy3
       obtain ⟨x15, hx15, hy3⟩ := Option.bind_eq_some_iff.1 hy3
       refine W.sub (ψ := [(0, (.pointer (some ⟨b0, 0, none⟩))), (1, (.pointer (some ⟨b1, 0, none⟩))), (3, (.int .i64 a3)), (4, (.int .i64 a4)), (10, (.float .f64 0)), (11, (.int .i64 x2)), (20, (.bool (decide (x2 < a0_1)))), (2, v3), (12, (.int .i64 x7)), (28, (.bool (decide (x7 < a0_0)))), (55, (.bool x13)), (13, (.int .i64 (IntKind.wrap .i64 ((Int.tmod (IntKind.wrap .i64 (x7 + a3)) a0_0) + (IntKind.wrap .i64 (a0_0 * (Int.tmod (IntKind.wrap .i64 (x2 + a4)) a0_1)))))))]) ⟨rfl, rfl, rfl, rfl, rfl, rfl, rfl, rfl, rfl, rfl, rfl, rfl, trivial⟩ ?_
       refine W.regionP [fun v _ => @Eq Value (.pointer (some ⟨b1, 0, none⟩)) v, fun v _ => @Eq Value (.pointer (some ⟨b1, 0, none⟩)) v, fun v _ => @Eq Value (.pointer (some ⟨b1, 0, none⟩)) v, fun v _ => @Eq Value u1_0 v, fun v _ => @Eq Value (.int .i64 (IntKind.wrap .i64 ((Int.tmod (IntKind.wrap .i64 (x7 + a3)) a0_0) + (IntKind.wrap .i64 (a0_0 * (Int.tmod (IntKind.wrap .i64 (x2 + a4)) a0_1)))))) v, fun v _ => PtI 1 v u1_0 (Int.toNat (IntKind.wrap .i64 ((Int.tmod (IntKind.wrap .i64 (x7 + a3)) a0_0) + (IntKind.wrap .i64 (a0_0 * (Int.tmod (IntKind.wrap .i64 (x2 + a4)) a0_1)))))), fun v _ => IsF .f32 v x14, fun v _ => IsF .f64 v (wid x14), fun v _ => @Eq Value (.pointer (some ⟨b1, 0, none⟩)) v, fun v _ => @Eq Value (.pointer (some ⟨b1, 0, none⟩)) v, fun v _ => @Eq Value (.pointer (some ⟨b1, 0, none⟩)) v, fun v _ => @Eq Value u1_0 v, fun v _ => @Eq Value (.int .i64 x7) v, fun v _ => @Eq Value (.pointer (some ⟨b0, 0, none⟩)) v, fun v _ => @Eq Value (.pointer (some ⟨b0, 0, none⟩)) v, fun v _ => @Eq Value (.pointer (some ⟨b0, 0, none⟩)) v, fun v _ => @Eq Value (.int .i64 a0_0) v, fun v _ => @Eq Value (.int .i64 x2) v, fun v _ => @Eq Value (.int .i64 (IntKind.wrap .i64 (a0_0 * x2))) v, fun v _ => @Eq Value (.int .i64 (IntKind.wrap .i64 (x7 + (IntKind.wrap .i64 (a0_0 * x2))))) v, fun v _ => PtI 1 v u1_0 (Int.toNat (IntKind.wrap .i64 (x7 + (IntKind.wrap .i64 (a0_0 * x2))))), fun v _ => IsF .f32 v x15, fun v _ => IsF .f64 v (wid x15), fun v _ => IsF .f64 v (fop .sub .f64 (wid x14) (wid x15)), fun v _ => IsF .f64 v (fop .sub .f64 (wid x14) (wid x15))] [[], [0], [1], [2], [], [3, 4], [5], [6], [], [8], [9], [10], [], [], [13], [14], [15], [], [16, 17], [12, 18], [11, 19], [20], [21], [7, 22], [23]] [24] Try.mixed (by decide +kernel) (by decide +kernel) rfl rfl rfl ?_ ?_
       ·refine ⟨⟨rfl, ?_⟩, ⟨rfl, ?_⟩, ⟨rfl, ?_⟩, ⟨rfl, ?_⟩, ⟨rfl, ?_⟩, ⟨rfl, ?_⟩, ⟨rfl, ?_⟩, ⟨rfl, ?_⟩, ⟨rfl, ?_⟩, ⟨rfl, ?_⟩, ⟨rfl, ?_⟩, ⟨rfl, ?_⟩, ⟨rfl, ?_⟩, ⟨rfl, ?_⟩, ⟨rfl, ?_⟩, ⟨rfl, ?_⟩, ⟨rfl, ?_⟩, ⟨rfl, ?_⟩, ⟨rfl, ?_⟩, ⟨rfl, ?_⟩, ⟨rfl, ?_⟩, ⟨rfl, ?_⟩, ⟨rfl, ?_⟩, ⟨rfl, ?_⟩, ⟨rfl, ?_⟩, trivial⟩
        ·rintro _ rfl
         refine Dep.nil ?_
         refine GuardOK.none rfl ?_
         exact OpV.toD (opv_move rfl rfl) rfl
        ·rintro _ rfl _ rfl
         refine Dep.nil ?_
         refine GuardOK.none rfl ?_
         exact OpV.toD (opv_nilCheck rfl rfl) rfl
        ·rintro _ rfl _ rfl
         refine Dep.nil ?_
         refine GuardOK.none rfl ?_
         exact OpV.toD (opv_fieldAddr rfl Try.fo53_0 rfl) rfl
        ·rintro _ rfl _ rfl
         refine Dep.nil ?_
         refine GuardOK.none rfl ?_
         exact OpV.toD (opv_loadB rfl Try.one22 rfl G1 rfl) rfl
        ·rintro _ rfl
         refine Dep.nil ?_
         refine GuardOK.none rfl ?_
         exact OpV.toD (opv_move rfl rfl) rfl
        ·rintro _ rfl _ rfl _ rfl
         refine Dep.nil ?_
         refine GuardOK.none rfl ?_
         exact OpV.toS (opv_index rfl Try.underlying22 (by rw [Try.size40]; rfl) rfl rfl g1_0 hx14) (fun _ h => h)
        ·rintro _ rfl v6 fv6
         refine Dep.nil ?_
         refine GuardOK.none rfl ?_
         exact OpV.toS (opv_loadF rfl Try.one40 rfl fv6 g1_0 hx14) (fun _ h => h)
        ·rintro _ rfl v7 fv7
         refine Dep.nil ?_
         refine GuardOK.none rfl ?_
         exact OpV.toS (opv_widen rfl (by rw [Try.underlying40]; rfl) Try.underlying56 rfl fv7) (fun _ h => h)
        ·rintro _ rfl
         refine Dep.nil ?_
         refine GuardOK.none rfl ?_
         exact OpV.toD (opv_move rfl rfl) rfl
        ·rintro _ rfl _ rfl
         refine Dep.nil ?_
         refine GuardOK.none rfl ?_
         exact OpV.toD (opv_nilCheck rfl rfl) rfl
        ·rintro _ rfl _ rfl
         refine Dep.nil ?_
         refine GuardOK.none rfl ?_
         exact OpV.toD (opv_fieldAddr rfl Try.fo53_0 rfl) rfl
        ·rintro _ rfl _ rfl
         refine Dep.nil ?_
         refine GuardOK.none rfl ?_
         exact OpV.toD (opv_loadB rfl Try.one22 rfl G1 rfl) rfl
        ·rintro _ rfl
         refine Dep.nil ?_
         refine GuardOK.none rfl ?_
         exact OpV.toD (opv_move rfl rfl) rfl
        ·rintro _ rfl
         refine Dep.nil ?_
         refine GuardOK.none rfl ?_
         exact OpV.toD (opv_move rfl rfl) rfl
        ·rintro _ rfl _ rfl
         refine Dep.nil ?_
         refine GuardOK.none rfl ?_
         exact OpV.toD (opv_nilCheck rfl rfl) rfl
        ·rintro _ rfl _ rfl
         refine Dep.nil ?_
         refine GuardOK.none rfl ?_
         exact OpV.toD (opv_fieldAddr rfl Try.fo29_0 rfl) rfl
        ·rintro _ rfl _ rfl
         refine Dep.nil ?_
         refine GuardOK.none rfl ?_
         exact OpV.toD (opv_loadB rfl Try.one2 rfl G0 rfl) rfl
        ·rintro _ rfl
         refine Dep.nil ?_
         refine GuardOK.none rfl ?_
         exact OpV.toD (opv_move rfl rfl) rfl
        ·rintro _ rfl _ rfl _ rfl
         refine Dep.nil ?_
         refine GuardOK.none rfl ?_
         exact OpV.toD (opv_mul rfl rfl rfl) rfl
        ·rintro _ rfl _ rfl _ rfl
         refine Dep.nil ?_
         refine GuardOK.none rfl ?_
         exact OpV.toD (opv_add rfl rfl rfl) rfl
        ·rintro _ rfl _ rfl _ rfl
         refine Dep.nil ?_
         refine GuardOK.none rfl ?_
         exact OpV.toS (opv_index rfl Try.underlying22 (by rw [Try.size40]; rfl) rfl rfl g1_0 hx15) (fun _ h => h)
        ·rintro _ rfl v9 fv9
         refine Dep.nil ?_
         refine GuardOK.none rfl ?_
         exact OpV.toS (opv_loadF rfl Try.one40 rfl fv9 g1_0 hx15) (fun _ h => h)
        ·rintro _ rfl v10 fv10
         refine Dep.nil ?_
         refine GuardOK.none rfl ?_
         exact OpV.toS (opv_widen rfl (by rw [Try.underlying40]; rfl) Try.underlying56 rfl fv10) (fun _ h => h)
        ·rintro _ rfl v8 fv8 v11 fv11
         refine Dep.nil ?_
         refine GuardOK.none rfl ?_
         exact OpV.toS (opv_fop rfl rfl rfl rfl fv8 fv11) (fun _ h => h)
        ·rintro _ rfl v12 fv12
         refine Dep.nil ?_
         refine GuardOK.none rfl ?_
         exact OpV.toD (opv_assign rfl rfl) fv12
       rintro v13 fv13
       refine Dep.nil ?_
       show RL _ _ _ _ [] _ _
       refine RL.nil ?_
       refine thnN ?_
       refine W.region ?_
       refine RL.opD (by decide) (opv_move rfl rfl) ?_
       refine RL.opD (by decide) (opv_move rfl rfl) ?_
       refine RL.opD (by decide) (opv_move rfl rfl) ?_
       refine RL.opF (by decide) (opv_fop rfl rfl rfl rfl fv13 fv13) ?_
       intro v14 fv14
       refine RL.opF (by decide) (opv_fop rfl rfl rfl rfl fv3 fv14) ?_
       intro v15 fv15
       refine RL.opD (by decide) (opv_assign rfl rfl) ?_
       refine RL.nil ?_
       refine blkN ?_
       have ey3 := Option.some.inj hy3
       simp only [Prod.mk.injEq] at ey3
       obtain ⟨rfl, rfl⟩ := ey3
       refine onlyN ?_
       exact ⟨v15, ⟨rfl, rfl, rfl, rfl, rfl, rfl, rfl, rfl, rfl, rfl, rfl, trivial⟩, fv15, rfl⟩
     rintro φ' _ ⟨v5, hs5, fv5, rfl⟩
     refine thnN ?_
     refine W.sub hs5 ?_
     refine W.region ?_
     refine RL.opD (by decide) (opv_move rfl rfl) ?_
     refine RL.opD (by decide) (opv_add rfl rfl rfl) ?_
     refine RL.opD (by decide) (opv_assign rfl rfl) ?_
     refine RL.nil ?_
     have eo2 := Option.some.inj ho2
     subst eo2
     refine rndN (s' := (x11, IntKind.wrap .i64 (x7 + 1))) rfl ?_
     exact ⟨v5, ⟨rfl, rfl, rfl, rfl, rfl, rfl, rfl, rfl, rfl, trivial⟩, fv5, rfl⟩
    ·rw [if_neg c2] at ho2
     have c2 := eq_false_of_ne_true c2
     refine W.condF rfl c2 ?_
     refine W.exit ?_
     refine thnX ?_
     refine rndX ?_
     refine blkI ?_
     have eo2 := Option.some.inj ho2
     subst eo2
     have ey2 := hy2 _ rfl
     subst ey2
     refine onlyN ?_
     exact ⟨x6, x7, decide (x7 < a0_0), v3, rfl, ⟨rfl, rfl, rfl, rfl, rfl, rfl, rfl, rfl, rfl, rfl, trivial⟩, fv3, rfl⟩
   rintro φ' _ ⟨x8, x9, x10, v4, rfl, hs4, fv4, rfl⟩
   try dsimp only at ho1
   refine blkN ?_
   refine thnN ?_
   refine W.sub hs4 ?_
   refine W.region ?_
   refine RL.opD (by decide) (opv_move rfl rfl) ?_
   refine RL.opD (by decide) (opv_add rfl rfl rfl) ?_
   refine RL.opD (by decide) (opv_assign rfl rfl) ?_
   refine RL.nil ?_
   have eo1 := Option.some.inj ho1
   subst eo1
   refine rndN (s' := (x8, IntKind.wrap .i64 (x2 + 1))) rfl ?_
   exact ⟨v4, ⟨rfl, rfl, rfl, rfl, rfl, rfl, rfl, trivial⟩, fv4, rfl⟩
  ·rw [if_neg c1] at ho1
   have c1 := eq_false_of_ne_true c1
   refine W.condF rfl c1 ?_
   refine W.exit ?_
   refine thnX ?_
   refine rndX ?_
   refine blkI ?_
   have eo1 := Option.some.inj ho1
   subst eo1
   have ey1 := hy1 _ rfl
   subst ey1
   refine onlyN ?_
   exact ⟨x1, x2, decide (x2 < a0_1), v1, rfl, ⟨rfl, rfl, rfl, rfl, rfl, rfl, rfl, rfl, trivial⟩, fv1, rfl⟩
 rintro φ' _ ⟨x3, x4, x5, v2, rfl, hs2, fv2, rfl⟩
 try dsimp only at hp
 refine thnN ?_
 refine W.sub hs2 ?_
 refine W.seq ?_
 refine W.region ?_
 refine RL.opD (by decide) (opv_move rfl rfl) ?_
 refine RL.opD (by decide) (opv_assign rfl rfl) ?_
 refine RL.nil ?_
 refine thnN ?_
 refine W.ret ?_
 have er := Option.some.inj hp
 subst er
 exact Rt.one rfl rfl ⟨fv2, rfl⟩

set_option maxRecDepth 20000 in
theorem spec_l01Narrow_ok (h0 : Heap) (u0 : Value) (a0 : Option Nat) (g0 : IsF .f64 u0 a0) (r : Option Nat) (hp : spec_l01Narrow a0 = some r) : CallsH Try.prog 124 ([u0].toArray ++ [].toArray) h0 (fun v h' => IsF .f32 v r ∧ h0 = h') := by
 unfold spec_l01Narrow at hp
 refine callsH_of_W (l := [u0]) (cap := []) 5 Try.func124 rfl rfl rfl ?_
 refine W.seq ?_
 refine W.region ?_
 refine RL.opD (by decide) (opv_assign rfl rfl) ?_
 refine RL.nil ?_
 refine thnN ?_
 refine W.seq ?_
 refine W.region ?_
 refine RL.opD (by decide) (opv_move rfl rfl) ?_
 obtain ⟨x1, hx1, hp⟩ := Option.bind_eq_some_iff.1 hp
 refine RL.opF (by decide) (opv_f2f rfl (by rw [Try.underlying56]; rfl) Try.underlying40 (by decide) rfl g0 hx1) ?_
 intro v1 fv1
 refine RL.opD (by decide) (opv_assign rfl rfl) ?_
 refine RL.nil ?_
 refine thnN ?_
 refine W.ret ?_
 have er := Option.some.inj hp
 subst er
 exact Rt.one rfl rfl ⟨fv1, rfl⟩

set_option maxRecDepth 20000 in
theorem spec_RayleighOf_ok (h0 : Heap) (a0_0 : Int) (a0_1 : Int) (a0_2 : Bool) (u0_3 : Value) (a0_3 : List (Option Nat)) (g0_3 : SL (kF .f32) h0.size h0 u0_3 a0_3) (u0_4 : Value) (a0_4 : List (Option Nat)) (g0_4 : SL (kF .f32) h0.size h0 u0_4 a0_4) (u1_0 : Value) (a1_0 : List (Option Nat)) (g1_0 : SL (kF .f32) h0.size h0 u1_0 a1_0) (u1_1 : Value) (a1_1 : List (Option Nat)) (g1_1 : SL (kF .f32) h0.size h0 u1_1 a1_1) (u1_2 : Value) (a1_2 : List (Option Nat)) (g1_2 : SL (kF .f32) h0.size h0 u1_2 a1_2) (r : ((Option Nat) × Bool)) (hp : spec_RayleighOf a0_0 a0_1 a0_2 a0_3 a0_4 a1_0 a1_1 a1_2 = some r) : CallsH Try.prog 67 ([(.agg (List.toArray (α := Value) [(.int .i64 a0_0), (.int .i64 a0_1), (.bool a0_2), u0_3, u0_4])), (.agg (List.toArray (α := Value) [u1_0, u1_1, u1_2]))].toArray ++ [].toArray) h0 (fun v h' => ∃ w0, v = (.tuple (List.toArray (α := Value) [w0, (.bool r.2)])) ∧ IsF .f32 w0 r.1 ∧ Mod [] h0 h' ∧ Sep [] h0.size h' []) := by
 unfold spec_RayleighOf at hp
 refine callsH_of_W (l := [(.agg (List.toArray (α := Value) [(.int .i64 a0_0), (.int .i64 a0_1), (.bool a0_2), u0_3, u0_4])), (.agg (List.toArray (α := Value) [u1_0, u1_1, u1_2]))]) (cap := []) 60 Try.func67 rfl rfl rfl ?_
 refine W.seq ?_
 refine W.region ?_
 refine RL.op _ (by decide) (opS_boxed (opv_boxA (cs := [(.int .i64 a0_0), (.int .i64 a0_1), (.bool a0_2), u0_3, u0_4]) rfl rfl)) ?_
 rintro _ hp1 ⟨bb1, rfl, MT_1, T_1⟩
 obtain ⟨X_1, S_1⟩ := Sep.turn0 (Mod.refl [] h0) (Sep.nil [] h0.size h0) MT_1 T_1
 refine RL.op _ (by decide) (opS_boxed (opv_boxA (cs := [u1_0, u1_1, u1_2]) rfl rfl)) ?_
 rintro _ hp2 ⟨bb2, rfl, MT_2, T_2⟩
 obtain ⟨X_2, S_2⟩ := Sep.turn0 X_1 S_1 MT_2 T_2
 refine RL.opD (by decide) (opv_assign rfl rfl) ?_
 refine RL.opD (by decide) (opv_assign rfl rfl) ?_
 refine RL.nil ?_
 refine thnN ?_
 refine W.seq ?_
 refine W.seq ?_
 obtain ⟨x1, hy1, hp⟩ := Option.bind_eq_some_iff.1 hp
 refine W.cut (fun φ' h' => Fr.sub [(0, (.agg (List.toArray (α := Value) [(.int .i64 a0_0), (.int .i64 a0_1), (.bool a0_2), u0_3, u0_4]))), (1, (.agg (List.toArray (α := Value) [u1_0, u1_1, u1_2]))), (2, (.pointer (some ⟨bb1, 0, none⟩))), (3, (.pointer (some ⟨bb2, 0, none⟩))), (4, (.float .f32 0)), (5, (.bool false)), (14, (.bool x1))] φ' ∧ hp2 = h') ?_ ?_
 ·refine W.region ?_
  obtain ⟨x2, hx2, hy1⟩ := Option.bind_eq_some_iff.1 hy1
  refine RL.op _ (by decide) (opv_call (cap := []) (spec_l02Is_ok _ _ _ _ _ _ _ (SL.up (SL.mod g0_3 X_2 (Nat.le_refl _) nob) (Nat.le_trans (Nat.le_refl _) (Mod.size X_2))) _ _ (SL.up (SL.mod g0_4 X_2 (Nat.le_refl _) nob) (Nat.le_trans (Nat.le_refl _) (Mod.size X_2))) (Sep.at (o := boxO bb1 [(.int .i64 a0_0), (.int .i64 a0_1), (.bool a0_2), u0_3, u0_4]) S_2 1 rfl) _ hx2) rfl rfl ⟨rfl, trivial⟩ Try.func74 rfl rfl) ?_
  rintro _ _ ⟨rfl, rfl⟩
  refine RL.opD (by decide) (opv_not rfl rfl) ?_
  refine RL.opD (by decide) (opv_move rfl rfl) ?_
  by_cases c1 : (!x2) = true
  ·rw [if_pos c1] at hy1
   refine RL.noT rfl rfl c1 (by decide) ?_
   refine RL.noT rfl rfl c1 (by decide) ?_
   refine RL.opD (by decide) (opv_pick rfl rfl (fun _ => rfl) (fun e => absurd (Eq.trans (Eq.symm e) c1) (by decide)) rfl) ?_
   refine RL.nil ?_
   have ey1 := Option.some.inj hy1
   subst ey1
   refine onlyN ?_
   exact ⟨⟨rfl, rfl, rfl, rfl, rfl, rfl, rfl, trivial⟩, rfl⟩
  ·rw [if_neg c1] at hy1
   have c1 := eq_false_of_ne_true c1
   obtain ⟨x3, hx3, hy1⟩ := Option.bind_eq_some_iff.1 hy1
   refine RL.yes _ rfl rfl c1 (by decide) (opv_call (cap := []) (spec_l02Fits_ok _ _ _ _ _ _ _ (SL.up (SL.mod g0_3 X_2 (Nat.le_refl _) nob) (Nat.le_trans (Nat.le_refl _) (Mod.size X_2))) _ _ (SL.up (SL.mod g0_4 X_2 (Nat.le_refl _) nob) (Nat.le_trans (Nat.le_refl _) (Mod.size X_2))) (Sep.at (o := boxO bb1 [(.int .i64 a0_0), (.int .i64 a0_1), (.bool a0_2), u0_3, u0_4]) S_2 1 rfl) _ _ _ (SL.up (SL.mod g1_0 X_2 (Nat.le_refl _) nob) (Nat.le_trans (Nat.le_refl _) (Mod.size X_2))) _ _ (SL.up (SL.mod g1_1 X_2 (Nat.le_refl _) nob) (Nat.le_trans (Nat.le_refl _) (Mod.size X_2))) _ _ (SL.up (SL.mod g1_2 X_2 (Nat.le_refl _) nob) (Nat.le_trans (Nat.le_refl _) (Mod.size X_2))) (Sep.at (o := boxO bb2 [u1_0, u1_1, u1_2]) S_2 0 rfl) _ hx3) rfl rfl ⟨rfl, rfl, trivial⟩ Try.func122 rfl rfl) ?_
   rintro _ _ ⟨rfl, rfl⟩
   refine RL.yesD rfl rfl c1 (by decide) (opv_not rfl rfl) ?_
   refine RL.opD (by decide) (opv_pick rfl rfl (fun e => absurd (Eq.trans (Eq.symm e) c1) (by decide)) (fun _ => rfl) rfl) ?_
   refine RL.nil ?_
   have ey1 := Option.some.inj hy1
   subst ey1
   refine onlyN ?_
   exact ⟨⟨rfl, rfl, rfl, rfl, rfl, rfl, rfl, trivial⟩, rfl⟩
 rintro φ' _ ⟨hs1, rfl⟩
 refine thnN ?_
 refine W.sub hs1 ?_
 by_cases c2 : x1 = true
 ·rw [if_pos c2] at hp
  refine W.condT rfl c2 ?_
  refine W.seq ?_
  refine W.region ?_
  refine RL.opD (by decide) (opv_assign rfl rfl) ?_
  refine RL.opD (by decide) (opv_assign rfl rfl) ?_
  refine RL.nil ?_
  refine thnN ?_
  refine W.ret ?_
  refine thnR ?_
  have er := Option.some.inj hp
  subst er
  exact Rt.two rfl rfl rfl ⟨(.float .f32 0), rfl, (isF_lit .f32 0 (by decide) (by decide)), X_2, (Sep.nil _ _ _)⟩
 ·rw [if_neg c2] at hp
  have c2 := eq_false_of_ne_true c2
  refine W.condF rfl c2 ?_
  refine W.skip ?_
  refine thnN ?_
  refine W.seq ?_
  refine W.region ?_
  refine RL.opD (by decide) (opv_assign rfl rfl) ?_
  refine RL.nil ?_
  refine thnN ?_
  refine W.seq ?_
  refine W.seq ?_
  refine W.region ?_
  refine RL.opD (by decide) (opv_assign rfl rfl) ?_
  refine RL.nil ?_
  refine thnN ?_
  obtain ⟨y2, hy2, hp⟩ := Option.bind_eq_some_iff.1 hp
  refine W.cut (fun φ' h' => ∃ x8, ∃ x9, ∃ x10, ∃ x11, ∃ x12, ∃ v3, ∃ v4, y2 = .inl (x8, x9, x10, x11, x12) ∧ Fr.sub [(0, (.agg (List.toArray (α := Value) [(.int .i64 a0_0), (.int .i64 a0_1), (.bool a0_2), u0_3, u0_4]))), (1, (.agg (List.toArray (α := Value) [u1_0, u1_1, u1_2]))), (2, (.pointer (some ⟨bb1, 0, none⟩))), (3, (.pointer (some ⟨bb2, 0, none⟩))), (14, (.bool x1)), (4, v3), (5, (.bool x9)), (6, v4), (7, (.int .i64 x11)), (19, (.bool x12))] φ' ∧ IsF .f32 v3 x8 ∧ IsF .f64 v4 x10 ∧ hp2 = h') ?_ ?_
  ·refine W.block ?_
   refine W.loopS (fun (s : ((Option Nat) × Bool × (Option Nat) × Int)) φ' h' => ∃ v1, ∃ v2, Fr.sub [(0, (.agg (List.toArray (α := Value) [(.int .i64 a0_0), (.int .i64 a0_1), (.bool a0_2), u0_3, u0_4]))), (1, (.agg (List.toArray (α := Value) [u1_0, u1_1, u1_2]))), (2, (.pointer (some ⟨bb1, 0, none⟩))), (3, (.pointer (some ⟨bb2, 0, none⟩))), (14, (.bool x1)), (4, v1), (5, (.bool s.2.1)), (6, v2), (7, (.int .i64 s.2.2.2))] φ' ∧ IsF .f32 v1 s.1 ∧ IsF .f64 v2 s.2.2.1 ∧ hp2 = h') hy2 ⟨(.float .f32 0), (.float .f64 0), ⟨rfl, rfl, rfl, rfl, rfl, rfl, rfl, rfl, rfl, trivial⟩, (isF_lit .f32 0 (by decide) (by decide)), (isF_lit .f64 0 (by decide) (by decide)), rfl⟩ ?_
   rintro ⟨x4, x5, x6, x7⟩ φ' _ o1 ⟨v1, v2, hs2, fv1, fv2, rfl⟩ ho1 hy1
   have hs2 : Fr.sub [(0, (.agg (List.toArray (α := Value) [(.int .i64 a0_0), (.int .i64 a0_1), (.bool a0_2), u0_3, u0_4]))), (1, (.agg (List.toArray (α := Value) [u1_0, u1_1, u1_2]))), (2, (.pointer (some ⟨bb1, 0, none⟩))), (3, (.pointer (some ⟨bb2, 0, none⟩))), (14, (.bool x1)), (4, v1), (5, (.bool x5)), (6, v2), (7, (.int .i64 x7))] φ' := hs2
   have fv1 : IsF .f32 v1 x4 := fv1
   have fv2 : IsF .f64 v2 x6 := fv2
   have ho1 : spec_RayleighOf.s0 a0_3 a1_0 x4 x5 x6 x7 = some o1 := ho1
   unfold spec_RayleighOf.s0 at ho1
   refine W.sub hs2 ?_
   refine W.seq ?_
   refine W.seq ?_
   refine W.region ?_
   refine RL.opD (by decide) (opv_move rfl rfl) ?_
   refine RL.opD (by decide) (opv_fieldAddr rfl Try.fo53_0 rfl) ?_
   refine RL.opD (by decide) (opv_loadB rfl Try.one22 rfl (Sep.at (o := boxO bb2 [u1_0, u1_1, u1_2]) S_2 0 rfl) rfl) ?_
   refine RL.opD (by decide) (opv_len rfl Try.underlying22 rfl (SL.mod g1_0 X_2 (Nat.le_refl _) nob)) ?_
   refine RL.opD (by decide) (opv_icmp rfl rfl rfl rfl) ?_
   refine RL.nil ?_
   refine thnN ?_
   by_cases c3 : (decide (x7 < (a1_0.length : Int))) = true
   ·rw [if_pos c3] at ho1
    refine W.condT rfl c3 ?_
    refine W.skip ?_
    refine thnN ?_
    refine W.seq ?_
    refine W.block ?_
    refine W.seq ?_
    refine W.seq ?_
    refine W.region ?_
    refine RL.opD (by decide) (opv_fieldAddr rfl Try.fo29_3 rfl) ?_
    refine RL.opD (by decide) (opv_loadB rfl Try.one22 rfl (Sep.at (o := boxO bb1 [(.int .i64 a0_0), (.int .i64 a0_1), (.bool a0_2), u0_3, u0_4]) S_2 1 rfl) rfl) ?_
    refine RL.opD (by decide) (opv_move rfl rfl) ?_
    obtain ⟨x13, hx13, ho1⟩ := Option.bind_eq_some_iff.1 ho1
    refine RL.op _ (by decide) (opv_index rfl Try.underlying22 (by rw [Try.size40]; rfl) rfl rfl (SL.mod g0_3 X_2 (Nat.le_refl _) nob) hx13) ?_
    rintro v5 _ ⟨fv5, rfl⟩
    refine RL.opF (by decide) (opv_loadF rfl Try.one40 rfl fv5 (SL.mod g0_3 X_2 (Nat.le_refl _) nob) hx13) ?_
    intro v6 fv6
    refine RL.opD (by decide) (opv_fcmp rfl rfl rfl rfl fv6 (isF_lit .f32 0 (by decide) (by decide))) ?_
    refine RL.nil ?_
    refine thnN ?_
    by_cases c4 : (fcmp .eql .f32 x13 (some 0)) = true
    ·rw [if_pos c4] at ho1
     refine W.condT rfl c4 ?_
     refine W.seq ?_
     refine W.region ?_
     refine RL.opD (by decide) (opv_assign rfl rfl) ?_
     refine RL.opD (by decide) (opv_assign rfl rfl) ?_
     refine RL.nil ?_
     refine thnN ?_
     refine W.ret ?_
     refine thnR ?_
     refine blkR ?_
     refine thnR ?_
     have eo1 := Option.some.inj ho1
     subst eo1
     have ey2 := hy1 _ rfl
     subst ey2
     try dsimp only at hp
     refine rndR ?_
     refine blkR ?_
     refine onlyR ?_
     refine thnR ?_
     have er := Option.some.inj hp
     subst er
     exact Rt.two rfl rfl rfl ⟨(.float .f32 0), rfl, (isF_lit .f32 0 (by decide) (by decide)), X_2, (Sep.nil _ _ _)⟩
    ·rw [if_neg c4] at ho1
     have c4 := eq_false_of_ne_true c4
     refine W.condF rfl c4 ?_
     refine W.skip ?_
     refine thnN ?_
     obtain ⟨x14, hx14, ho1⟩ := Option.bind_eq_some_iff.1 ho1
     obtain ⟨x15, hx15, ho1⟩ := Option.bind_eq_some_iff.1 ho1
     obtain ⟨x16, hx16, ho1⟩ := Option.bind_eq_some_iff.1 ho1
     refine W.sub (ψ := [(0, (.agg (List.toArray (α := Value) [(.int .i64 a0_0), (.int .i64 a0_1), (.bool a0_2), u0_3, u0_4]))), (1, (.agg (List.toArray (α := Value) [u1_0, u1_1, u1_2]))), (2, (.pointer (some ⟨bb1, 0, none⟩))), (3, (.pointer (some ⟨bb2, 0, none⟩))), (14, (.bool x1)), (4, v1), (5, (.bool x5)), (6, v2), (7, (.int .i64 x7)), (19, (.bool (decide (x7 < (a1_0.length : Int))))), (27, (.bool (fcmp .eql .f32 x13 (some 0))))]) ⟨rfl, rfl, rfl, rfl, rfl, rfl, rfl, rfl, rfl, rfl, rfl, trivial⟩ ?_
     refine W.regionP [fun v _ => IsF .f64 v x6, fun v _ => @Eq Value (.pointer (some ⟨bb2, 0, none⟩)) v, fun v _ => @Eq Value u1_0 v, fun v _ => @Eq Value (.int .i64 x7) v, fun v _ => PtI 1 v u1_0 (Int.toNat x7), fun v _ => IsF .f32 v x14, fun v _ => IsF .f64 v (wid x14), fun v _ => @Eq Value (.pointer (some ⟨bb2, 0, none⟩)) v, fun v _ => @Eq Value u1_0 v, fun v _ => @Eq Value (.int .i64 x7) v, fun v _ => PtI 1 v u1_0 (Int.toNat x7), fun v _ => IsF .f32 v x15, fun v _ => IsF .f64 v (wid x15), fun v _ => IsF .f64 v (fop .mul .f64 (wid x14) (wid x15)), fun v _ => @Eq Value (.pointer (some ⟨bb1, 3, none⟩)) v, fun v _ => @Eq Value u0_3 v, fun v _ => @Eq Value (.int .i64 x7) v, fun v _ => PtI 1 v u0_3 (Int.toNat x7), fun v _ => IsF .f32 v x16, fun v _ => IsF .f64 v (wid x16), fun v _ => IsF .f64 v (fop .quo .f64 (fop .mul .f64 (wid x14) (wid x15)) (wid x16)), fun v _ => IsF .f64 v (fop .add .f64 x6 (fop .quo .f64 (fop .mul .f64 (wid x14) (wid x15)) (wid x16)))] [[], [], [1], [], [2, 3], [4], [5], [], [7], [], [8, 9], [10], [11], [6, 12], [], [14], [], [15, 16], [17], [18], [13, 19], [0, 20]] [21] Try.mixed (by decide +kernel) (by decide +kernel) rfl rfl rfl ?_ ?_
     ·refine ⟨⟨rfl, ?_⟩, ⟨rfl, ?_⟩, ⟨rfl, ?_⟩, ⟨rfl, ?_⟩, ⟨rfl, ?_⟩, ⟨rfl, ?_⟩, ⟨rfl, ?_⟩, ⟨rfl, ?_⟩, ⟨rfl, ?_⟩, ⟨rfl, ?_⟩, ⟨rfl, ?_⟩, ⟨rfl, ?_⟩, ⟨rfl, ?_⟩, ⟨rfl, ?_⟩, ⟨rfl, ?_⟩, ⟨rfl, ?_⟩, ⟨rfl, ?_⟩, ⟨rfl, ?_⟩, ⟨rfl, ?_⟩, ⟨rfl, ?_⟩, ⟨rfl, ?_⟩, ⟨rfl, ?_⟩, trivial⟩
      ·rintro _ rfl
       refine Dep.nil ?_
       refine GuardOK.none rfl ?_
       exact OpV.toD (opv_move rfl rfl) fv2
      ·rintro _ rfl
       refine Dep.nil ?_
       refine GuardOK.none rfl ?_
       exact OpV.toD (opv_fieldAddr rfl Try.fo53_0 rfl) rfl
      ·rintro _ rfl _ rfl
       refine Dep.nil ?_
       refine GuardOK.none rfl ?_
       exact OpV.toD (opv_loadB rfl Try.one22 rfl (Sep.at (o := boxO bb2 [u1_0, u1_1, u1_2]) S_2 0 rfl) rfl) rfl
      ·rintro _ rfl
       refine Dep.nil ?_
       refine GuardOK.none rfl ?_
       exact OpV.toD (opv_move rfl rfl) rfl
      ·rintro _ rfl _ rfl _ rfl
       refine Dep.nil ?_
       refine GuardOK.none rfl ?_
       exact OpV.toS (opv_index rfl Try.underlying22 (by rw [Try.size40]; rfl) rfl rfl (SL.mod g1_0 X_2 (Nat.le_refl _) nob) hx14) (fun _ h => h)
      ·rintro _ rfl v8 fv8
       refine Dep.nil ?_
       refine GuardOK.none rfl ?_
       exact OpV.toS (opv_loadF rfl Try.one40 rfl fv8 (SL.mod g1_0 X_2 (Nat.le_refl _) nob) hx14) (fun _ h => h)
      ·rintro _ rfl v9 fv9
       refine Dep.nil ?_
       refine GuardOK.none rfl ?_
       exact OpV.toS (opv_widen rfl (by rw [Try.underlying40]; rfl) Try.underlying56 rfl fv9) (fun _ h => h)
      ·rintro _ rfl
       refine Dep.nil ?_
       refine GuardOK.none rfl ?_
       exact OpV.toD (opv_fieldAddr rfl Try.fo53_0 rfl) rfl
      ·rintro _ rfl _ rfl
       refine Dep.nil ?_
       refine GuardOK.none rfl ?_
       exact OpV.toD (opv_loadB rfl Try.one22 rfl (Sep.at (o := boxO bb2 [u1_0, u1_1, u1_2]) S_2 0 rfl) rfl) rfl
      ·rintro _ rfl
       refine Dep.nil ?_
       refine GuardOK.none rfl ?_
       exact OpV.toD (opv_move rfl rfl) rfl
      ·rintro _ rfl _ rfl _ rfl
       refine Dep.nil ?_
       refine GuardOK.none rfl ?_
       exact OpV.toS (opv_index rfl Try.underlying22 (by rw [Try.size40]; rfl) rfl rfl (SL.mod g1_0 X_2 (Nat.le_refl _) nob) hx15) (fun _ h => h)
      ·rintro _ rfl v11 fv11
       refine Dep.nil ?_
       refine GuardOK.none rfl ?_
       exact OpV.toS (opv_loadF rfl Try.one40 rfl fv11 (SL.mod g1_0 X_2 (Nat.le_refl _) nob) hx15) (fun _ h => h)
      ·rintro _ rfl v12 fv12
       refine Dep.nil ?_
       refine GuardOK.none rfl ?_
       exact OpV.toS (opv_widen rfl (by rw [Try.underlying40]; rfl) Try.underlying56 rfl fv12) (fun _ h => h)
      ·rintro _ rfl v10 fv10 v13 fv13
       refine Dep.nil ?_
       refine GuardOK.none rfl ?_
       exact OpV.toS (opv_fop rfl rfl rfl rfl fv10 fv13) (fun _ h => h)
      ·rintro _ rfl
       refine Dep.nil ?_
       refine GuardOK.none rfl ?_
       exact OpV.toD (opv_fieldAddr rfl Try.fo29_3 rfl) rfl
      ·rintro _ rfl _ rfl
       refine Dep.nil ?_
       refine GuardOK.none rfl ?_
       exact OpV.toD (opv_loadB rfl Try.one22 rfl (Sep.at (o := boxO bb1 [(.int .i64 a0_0), (.int .i64 a0_1), (.bool a0_2), u0_3, u0_4]) S_2 1 rfl) rfl) rfl
      ·rintro _ rfl
       refine Dep.nil ?_
       refine GuardOK.none rfl ?_
       exact OpV.toD (opv_move rfl rfl) rfl
      ·rintro _ rfl _ rfl _ rfl
       refine Dep.nil ?_
       refine GuardOK.none rfl ?_
       exact OpV.toS (opv_index rfl Try.underlying22 (by rw [Try.size40]; rfl) rfl rfl (SL.mod g0_3 X_2 (Nat.le_refl _) nob) hx16) (fun _ h => h)
      ·rintro _ rfl v15 fv15
       refine Dep.nil ?_
       refine GuardOK.none rfl ?_
       exact OpV.toS (opv_loadF rfl Try.one40 rfl fv15 (SL.mod g0_3 X_2 (Nat.le_refl _) nob) hx16) (fun _ h => h)
      ·rintro _ rfl v16 fv16
       refine Dep.nil ?_
       refine GuardOK.none rfl ?_
       exact OpV.toS (opv_widen rfl (by rw [Try.underlying40]; rfl) Try.underlying56 rfl fv16) (fun _ h => h)
      ·rintro _ rfl v14 fv14 v17 fv17
       refine Dep.nil ?_
       refine GuardOK.none rfl ?_
       exact OpV.toS (opv_fop rfl rfl rfl rfl fv14 fv17) (fun _ h => h)
      ·rintro _ rfl v7 fv7 v18 fv18
       refine Dep.nil ?_
       refine GuardOK.none rfl ?_
       exact OpV.toS (opv_fop rfl rfl rfl rfl fv7 fv18) (fun _ h => h)
     rintro v19 fv19
     refine Dep.nil ?_
     show RL _ _ _ _ (_ :: _) _ _
     refine RL.opD (by decide) (opv_assign rfl rfl) ?_
     refine RL.nil ?_
     refine blkN ?_
     refine thnN ?_
     refine W.region ?_
     refine RL.opD (by decide) (opv_move rfl rfl) ?_
     refine RL.opD (by decide) (opv_add rfl rfl rfl) ?_
     refine RL.opD (by decide) (opv_assign rfl rfl) ?_
     refine RL.nil ?_
     have eo1 := Option.some.inj ho1
     subst eo1
     refine rndN (s' := (x4, x5, fop .add .f64 x6 (fop .quo .f64 (fop .mul .f64 (wid x14) (wid x15)) (wid x16)), IntKind.wrap .i64 (x7 + 1))) rfl ?_
     exact ⟨v1, v19, ⟨rfl, rfl, rfl, rfl, rfl, rfl, rfl, rfl, rfl, trivial⟩, fv1, fv19, rfl⟩
   ·rw [if_neg c3] at ho1
    have c3 := eq_false_of_ne_true c3
    refine W.condF rfl c3 ?_
    refine W.exit ?_
    refine thnX ?_
    refine rndX ?_
    refine blkI ?_
    have eo1 := Option.some.inj ho1
    subst eo1
    have ey2 := hy1 _ rfl
    subst ey2
    refine onlyN ?_
    exact ⟨x4, x5, x6, x7, decide (x7 < (a1_0.length : Int)), v1, v2, rfl, ⟨rfl, rfl, rfl, rfl, rfl, rfl, rfl, rfl, rfl, rfl, trivial⟩, fv1, fv2, rfl⟩
  rintro φ' _ ⟨x8, x9, x10, x11, x12, v3, v4, rfl, hs3, fv3, fv4, rfl⟩
  try dsimp only at hp
  refine thnN ?_
  refine W.sub hs3 ?_
  refine W.seq ?_
  refine W.seq ?_
  refine W.region ?_
  refine RL.opD (by decide) (opv_move rfl rfl) ?_
  refine RL.opD (by decide) (opv_fcmp rfl rfl rfl rfl fv4 (isF_lit .f64 0 (by decide) (by decide))) ?_
  refine RL.opD (by decide) (opv_not rfl rfl) ?_
  refine RL.nil ?_
  refine thnN ?_
  by_cases c5 : (!(fcmp .gtr .f64 x10 (some 0))) = true
  ·rw [if_pos c5] at hp
   refine W.condT rfl c5 ?_
   refine W.seq ?_
   refine W.region ?_
   refine RL.opD (by decide) (opv_assign rfl rfl) ?_
   refine RL.opD (by decide) (opv_assign rfl rfl) ?_
   refine RL.nil ?_
   refine thnN ?_
   refine W.ret ?_
   refine thnR ?_
   have er := Option.some.inj hp
   subst er
   exact Rt.two rfl rfl rfl ⟨(.float .f32 0), rfl, (isF_lit .f32 0 (by decide) (by decide)), X_2, (Sep.nil _ _ _)⟩
  ·rw [if_neg c5] at hp
   have c5 := eq_false_of_ne_true c5
   refine W.condF rfl c5 ?_
   refine W.skip ?_
   refine thnN ?_
   refine W.seq ?_
   refine W.region ?_
   obtain ⟨x17, hx17, hp⟩ := Option.bind_eq_some_iff.1 hp
   refine RL.op _ (by decide) (opv_call (cap := []) (spec_l08Jumps_ok _ _ _ _ _ _ _ (SL.up (SL.mod g0_3 X_2 (Nat.le_refl _) nob) (Nat.le_trans (Nat.le_refl _) (Mod.size X_2))) _ _ (SL.up (SL.mod g0_4 X_2 (Nat.le_refl _) nob) (Nat.le_trans (Nat.le_refl _) (Mod.size X_2))) (Sep.at (o := boxO bb1 [(.int .i64 a0_0), (.int .i64 a0_1), (.bool a0_2), u0_3, u0_4]) S_2 1 rfl) _ _ _ (SL.up (SL.mod g1_0 X_2 (Nat.le_refl _) nob) (Nat.le_trans (Nat.le_refl _) (Mod.size X_2))) _ _ (SL.up (SL.mod g1_1 X_2 (Nat.le_refl _) nob) (Nat.le_trans (Nat.le_refl _) (Mod.size X_2))) _ _ (SL.up (SL.mod g1_2 X_2 (Nat.le_refl _) nob) (Nat.le_trans (Nat.le_refl _) (Mod.size X_2))) (Sep.at (o := boxO bb2 [u1_0, u1_1, u1_2]) S_2 0 rfl) _ _ (isF_lit .f64 0 (by decide) (by decide)) _ _ _ hx17) rfl rfl ⟨rfl, rfl, rfl, rfl, rfl, trivial⟩ Try.func123 rfl rfl) ?_
   rintro v21 _ ⟨fv21, rfl⟩
   obtain ⟨x18, hx18, hp⟩ := Option.bind_eq_some_iff.1 hp
   refine RL.op _ (by decide) (opv_call (cap := []) (spec_l08Jumps_ok _ _ _ _ _ _ _ (SL.up (SL.mod g0_3 X_2 (Nat.le_refl _) nob) (Nat.le_trans (Nat.le_refl _) (Mod.size X_2))) _ _ (SL.up (SL.mod g0_4 X_2 (Nat.le_refl _) nob) (Nat.le_trans (Nat.le_refl _) (Mod.size X_2))) (Sep.at (o := boxO bb1 [(.int .i64 a0_0), (.int .i64 a0_1), (.bool a0_2), u0_3, u0_4]) S_2 1 rfl) _ _ _ (SL.up (SL.mod g1_0 X_2 (Nat.le_refl _) nob) (Nat.le_trans (Nat.le_refl _) (Mod.size X_2))) _ _ (SL.up (SL.mod g1_1 X_2 (Nat.le_refl _) nob) (Nat.le_trans (Nat.le_refl _) (Mod.size X_2))) _ _ (SL.up (SL.mod g1_2 X_2 (Nat.le_refl _) nob) (Nat.le_trans (Nat.le_refl _) (Mod.size X_2))) (Sep.at (o := boxO bb2 [u1_0, u1_1, u1_2]) S_2 0 rfl) _ _ fv21 _ _ _ hx18) rfl rfl ⟨rfl, rfl, rfl, rfl, rfl, trivial⟩ Try.func123 rfl rfl) ?_
   rintro v22 _ ⟨fv22, rfl⟩
   refine RL.opD (by decide) (opv_assign rfl rfl) ?_
   refine RL.nil ?_
   refine thnN ?_
   refine W.seq ?_
   refine W.region ?_
   refine RL.opD (by decide) (opv_move rfl rfl) ?_
   refine RL.opF (by decide) (opv_fop rfl rfl rfl rfl fv22 (isF_lit .f64 4602678819172646912 (by decide) (by decide))) ?_
   intro v23 fv23
   refine RL.opD (by decide) (opv_move rfl rfl) ?_
   refine RL.opF (by decide) (opv_fop rfl rfl rfl rfl fv23 fv4) ?_
   intro v24 fv24
   obtain ⟨x19, hx19, hp⟩ := Option.bind_eq_some_iff.1 hp
   refine RL.op _ (by decide) (opv_call (cap := []) (spec_l01Narrow_ok _ _ _ fv24 _ hx19) rfl rfl ⟨rfl, trivial⟩ Try.func124 rfl rfl) ?_
   rintro v25 _ ⟨fv25, rfl⟩
   refine RL.opD (by decide) (opv_assign rfl rfl) ?_
   refine RL.opD (by decide) (opv_assign rfl rfl) ?_
   refine RL.nil ?_
   refine thnN ?_
   refine W.ret ?_
   have er := Option.some.inj hp
   subst er
   exact Rt.two rfl rfl rfl ⟨v25, rfl, fv25, X_2, (Sep.nil _ _ _)⟩

set_option maxRecDepth 20000 in
theorem impl_RayleighOf_1_ok (h0 : Heap) (u0 : Value) (a0 : Option Nat) (g0 : IsF .f32 u0 a0) (r : Bool) (hp : impl_RayleighOf_1 a0 = some r) : CallsH Try.prog 126 ([u0].toArray ++ [].toArray) h0 (fun v h' => v = (.bool r) ∧ h0 = h') := by
 unfold impl_RayleighOf_1 at hp
 refine callsH_of_W (l := [u0]) (cap := []) 6 Try.func126 rfl rfl rfl ?_
 refine W.seq ?_
 refine W.region ?_
 refine RL.opD (by decide) (opv_assign rfl rfl) ?_
 refine RL.nil ?_
 refine thnN ?_
 refine W.seq ?_
 refine W.region ?_
 refine RL.opD (by decide) (opv_move rfl rfl) ?_
 refine RL.opD (by decide) (opv_fcmp rfl rfl rfl rfl g0 (isF_lit .f32 0 (by decide) (by decide))) ?_
 refine RL.opD (by decide) (opv_not rfl rfl) ?_
 refine RL.opD (by decide) (opv_assign rfl rfl) ?_
 refine RL.nil ?_
 refine thnN ?_
 refine W.ret ?_
 have er := Option.some.inj hp
 subst er
 exact Rt.one rfl rfl ⟨rfl, rfl⟩

set_option maxRecDepth 20000 in
theorem impl_square_ok (h0 : Heap) (u0 : Value) (a0 : Option Nat) (g0 : IsF .f32 u0 a0) (r : Option Nat) (hp : impl_square a0 = some r) : CallsH Try.prog 130 ([u0].toArray ++ [].toArray) h0 (fun v h' => IsF .f64 v r ∧ h0 = h') := by
 unfold impl_square at hp
 refine callsH_of_W (l := [u0]) (cap := []) 8 Try.func130 rfl rfl rfl ?_
 refine W.seq ?_
 refine W.region ?_
 refine RL.opD (by decide) (opv_assign rfl rfl) ?_
 refine RL.nil ?_
 refine thnN ?_
 refine W.seq ?_
 refine W.region ?_
 refine RL.opD (by decide) (opv_move rfl rfl) ?_
 refine RL.opF (by decide) (opv_widen rfl (by rw [Try.underlying40]; rfl) Try.underlying56 rfl g0) ?_
 intro v1 fv1
 refine RL.opD (by decide) (opv_move rfl rfl) ?_
 refine RL.opF (by decide) (opv_widen rfl (by rw [Try.underlying40]; rfl) Try.underlying56 rfl g0) ?_
 intro v2 fv2
 refine RL.opF (by decide) (opv_fop rfl rfl rfl rfl fv1 fv2) ?_
 intro v3 fv3
 refine RL.opD (by decide) (opv_assign rfl rfl) ?_
 refine RL.nil ?_
 refine thnN ?_
 refine W.ret ?_
 have er := Option.some.inj hp
 subst er
 exact Rt.one rfl rfl ⟨fv3, rfl⟩

set_option maxRecDepth 20000 in
theorem slices_IndexFunc_float32_float32__impl_RayleighOf_1_ok (h0 : Heap) (u0 : Value) (a0 : List (Option Nat)) (g0 : SL (kF .f32) h0.size h0 u0 a0) (r : Int) (hp : slices_IndexFunc_float32_float32__impl_RayleighOf_1 a0 = some r) : CallsH Try.prog 150 ([u0, (.func (.func 126) #[] (List.toArray (α := Value) []))].toArray ++ [].toArray) h0 (fun v h' => v = (.int .i64 r) ∧ h0 = h') := by
 unfold slices_IndexFunc_float32_float32__impl_RayleighOf_1 at hp
 refine callsH_of_W (l := [u0, (.func (.func 126) #[] (List.toArray (α := Value) []))]) (cap := []) 19 Try.func150 rfl rfl rfl ?_
 refine W.seq ?_
 refine W.region ?_
 refine RL.opD (by decide) (opv_assign rfl rfl) ?_
 refine RL.nil ?_
 refine thnN ?_
 refine W.seq ?_
 refine W.seq ?_
 refine W.region ?_
 refine RL.opD (by decide) (opv_move rfl rfl) ?_
 refine RL.opD (by decide) (opv_len rfl Try.underlying22 rfl g0) ?_
 refine RL.opD (by decide) (opv_move rfl rfl) ?_
 refine RL.nil ?_
 refine thnN ?_
 obtain ⟨y1, hy1, hp⟩ := Option.bind_eq_some_iff.1 hp
 refine W.cut (fun φ' h' => ∃ x3, ∃ x4, ∃ x5, y1 = .inl (x3, x4, x5) ∧ Fr.sub [(0, u0), (1, (.func (.func 126) #[] (List.toArray (α := Value) []))), (7, (.int .i64 (a0.length : Int))), (4, (.int .i64 x3)), (8, (.int .i64 x4)), (9, (.bool x5))] φ' ∧ h0 = h') ?_ ?_
 ·refine W.block ?_
  refine W.loopS (fun (s : (Int × Int)) φ' h' => Fr.sub [(0, u0), (1, (.func (.func 126) #[] (List.toArray (α := Value) []))), (7, (.int .i64 (a0.length : Int))), (4, (.int .i64 s.1)), (8, (.int .i64 s.2))] φ' ∧ h0 = h') hy1 ⟨⟨rfl, rfl, rfl, rfl, rfl, trivial⟩, rfl⟩ ?_
  rintro ⟨x1, x2⟩ φ' _ o1 ⟨hs1, rfl⟩ ho1 hy1
  have hs1 : Fr.sub [(0, u0), (1, (.func (.func 126) #[] (List.toArray (α := Value) []))), (7, (.int .i64 (a0.length : Int))), (4, (.int .i64 x1)), (8, (.int .i64 x2))] φ' := hs1
  have ho1 : slices_IndexFunc_float32_float32__impl_RayleighOf_1.s0 a0 x1 x2 = some o1 := ho1
  unfold slices_IndexFunc_float32_float32__impl_RayleighOf_1.s0 at ho1
  refine W.sub hs1 ?_
  refine W.seq ?_
  refine W.region ?_
  refine RL.opD (by decide) (opv_icmp rfl rfl rfl rfl) ?_
  refine RL.nil ?_
  refine thnN ?_
  refine W.seq ?_
  by_cases c1 : (decide (x2 < (a0.length : Int))) = true
  ·rw [if_pos c1] at ho1
   refine W.condT rfl c1 ?_
   refine W.skip ?_
   refine thnN ?_
   refine W.seq ?_
   refine W.block ?_
   refine W.seq ?_
   refine W.region ?_
   refine RL.opD (by decide) (opv_move rfl rfl) ?_
   refine RL.opD (by decide) (opv_assign rfl rfl) ?_
   refine RL.nil ?_
   refine thnN ?_
   refine W.seq ?_
   refine W.region ?_
   refine RL.opD (by decide) (opv_move rfl rfl) ?_
   refine RL.opD (by decide) (opv_move rfl rfl) ?_
   refine RL.opD (by decide) (opv_move rfl rfl) ?_
   obtain ⟨x6, hx6, ho1⟩ := Option.bind_eq_some_iff.1 ho1
   refine RL.op _ (by decide) (opv_index rfl Try.underlying22 (by rw [Try.size40]; rfl) rfl rfl g0 hx6) ?_
   rintro v1 _ ⟨fv1, rfl⟩
   refine RL.opF (by decide) (opv_loadF rfl Try.one40 rfl fv1 g0 hx6) ?_
   intro v2 fv2
   obtain ⟨x7, hx7, ho1⟩ := Option.bind_eq_some_iff.1 ho1
   refine RL.op _ (by decide) (opv_call (cap := []) (impl_RayleighOf_1_ok _ _ _ fv2 _ hx7) rfl rfl ⟨rfl, trivial⟩ Try.func126 rfl rfl) ?_
   rintro _ _ ⟨rfl, rfl⟩
   refine RL.nil ?_
   refine thnN ?_
   by_cases c2 : x7 = true
   ·rw [if_pos c2] at ho1
    refine W.condT rfl c2 ?_
    refine W.seq ?_
    refine W.region ?_
    refine RL.opD (by decide) (opv_move rfl rfl) ?_
    refine RL.opD (by decide) (opv_assign rfl rfl) ?_
    refine RL.nil ?_
    refine thnN ?_
    refine W.ret ?_
    refine blkR ?_
    refine thnR ?_
    have eo1 := Option.some.inj ho1
    subst eo1
    have ey1 := hy1 _ rfl
    subst ey1
    try dsimp only at hp
    refine rndR ?_
    refine blkR ?_
    refine onlyR ?_
    refine thnR ?_
    have er := Option.some.inj hp
    subst er
    exact Rt.one rfl rfl ⟨rfl, rfl⟩
   ·rw [if_neg c2] at ho1
    have c2 := eq_false_of_ne_true c2
    refine W.condF rfl c2 ?_
    refine W.skip ?_
    refine blkN ?_
    refine thnN ?_
    refine W.region ?_
    refine RL.opD (by decide) (opv_add rfl rfl rfl) ?_
    refine RL.opD (by decide) (opv_move rfl rfl) ?_
    refine RL.nil ?_
    have eo1 := Option.some.inj ho1
    subst eo1
    refine rndN (s' := (x1, IntKind.wrap .i64 (x2 + 1))) rfl ?_
    exact ⟨⟨rfl, rfl, rfl, rfl, rfl, trivial⟩, rfl⟩
  ·rw [if_neg c1] at ho1
   have c1 := eq_false_of_ne_true c1
   refine W.condF rfl c1 ?_
   refine W.exit ?_
   refine thnX ?_
   refine rndX ?_
   refine blkI ?_
   have eo1 := Option.some.inj ho1
   subst eo1
   have ey1 := hy1 _ rfl
   subst ey1
   refine onlyN ?_
   exact ⟨x1, x2, decide (x2 < (a0.length : Int)), rfl, ⟨rfl, rfl, rfl, rfl, rfl, rfl, trivial⟩, rfl⟩
 rintro φ' _ ⟨x3, x4, x5, rfl, hs2, rfl⟩
 try dsimp only at hp
 refine thnN ?_
 refine W.sub hs2 ?_
 refine W.seq ?_
 refine W.region ?_
 refine RL.opD (by decide) (opv_assign rfl rfl) ?_
 refine RL.nil ?_
 refine thnN ?_
 refine W.ret ?_
 have er := Option.some.inj hp
 subst er
 exact Rt.one rfl rfl ⟨rfl, rfl⟩

set_option maxRecDepth 20000 in
theorem slices_ContainsFunc_float32_float32__impl_RayleighOf_1_ok (h0 : Heap) (u0 : Value) (a0 : List (Option Nat)) (g0 : SL (kF .f32) h0.size h0 u0 a0) (r : Bool) (hp : slices_ContainsFunc_float32_float32__impl_RayleighOf_1 a0 = some r) : CallsH Try.prog 125 ([u0, (.func (.func 126) #[] (List.toArray (α := Value) []))].toArray ++ [].toArray) h0 (fun v h' => v = (.bool r) ∧ h0 = h') := by
 unfold slices_ContainsFunc_float32_float32__impl_RayleighOf_1 at hp
 refine callsH_of_W (l := [u0, (.func (.func 126) #[] (List.toArray (α := Value) []))]) (cap := []) 9 Try.func125 rfl rfl rfl ?_
 refine W.seq ?_
 refine W.region ?_
 refine RL.opD (by decide) (opv_assign rfl rfl) ?_
 refine RL.nil ?_
 refine thnN ?_
 refine W.seq ?_
 refine W.region ?_
 refine RL.opD (by decide) (opv_move rfl rfl) ?_
 refine RL.opD (by decide) (opv_move rfl rfl) ?_
 obtain ⟨x1, hx1, hp⟩ := Option.bind_eq_some_iff.1 hp
 refine RL.op _ (by decide) (opv_call (cap := []) (slices_IndexFunc_float32_float32__impl_RayleighOf_1_ok _ _ _ g0 _ hx1) rfl rfl ⟨rfl, rfl, trivial⟩ Try.func150 rfl rfl) ?_
 rintro _ _ ⟨rfl, rfl⟩
 refine RL.opD (by decide) (opv_icmp rfl rfl rfl rfl) ?_
 refine RL.opD (by decide) (opv_assign rfl rfl) ?_
 refine RL.nil ?_
 refine thnN ?_
 refine W.ret ?_
 have er := Option.some.inj hp
 subst er
 exact Rt.one rfl rfl ⟨rfl, rfl⟩

set_option maxRecDepth 20000 in
theorem impl_RayleighOf_2_ok (h0 : Heap) (lo : Nat) (hlo : lo ≤ h0.size) (a0 : Int) (a1 : Int) (be0 : Nat) (ue0_0 : Value) (ae0_0 : List (Option Nat)) (ge0_0 : SL (kF .f32) lo h0 ue0_0 ae0_0) (ue0_1 : Value) (ae0_1 : List (Option Nat)) (ge0_1 : SL (kF .f32) lo h0 ue0_1 ae0_1) (ue0_2 : Value) (ae0_2 : List (Option Nat)) (ge0_2 : SL (kF .f32) lo h0 ue0_2 ae0_2) (be1 : Nat) (ue1_0 : Value) (ae1_0 : Option Nat) (ge1_0 : IsF .f64 ue1_0 ae1_0) (S0 : Sep [some be0, some be1] h0.size h0 [boxO be0 [ue0_0, ue0_1, ue0_2], boxO be1 [ue1_0]]) (hB : ∀ b, some b ∈ [some be0, some be1] → lo ≤ b) (r : Option Nat) (hp : impl_RayleighOf_2 a0 a1 ae0_0 ae0_1 ae0_2 ae1_0 = some r) : CallsH Try.prog 127 ([(.int .i64 a0), (.int .i64 a1)].toArray ++ [(.pointer (some ⟨be0, 0, none⟩)), (.pointer (some ⟨be1, 0, none⟩))].toArray) h0 (fun v h' => ∃ w0, v = (.tuple (List.toArray (α := Value) [])) ∧ IsF .f64 w0 r ∧ Mod [some be0, some be1] h0 h' ∧ Sep [some be0, some be1] h0.size h' [boxO be0 [ue0_0, ue0_1, ue0_2], boxO be1 [w0]]) := by
 unfold impl_RayleighOf_2 at hp
 refine callsH_of_W (l := [(.int .i64 a0), (.int .i64 a1)]) (cap := [(.pointer (some ⟨be0, 0, none⟩)), (.pointer (some ⟨be1, 0, none⟩))]) 25 Try.func127 rfl rfl rfl ?_
 refine W.seq ?_
 obtain ⟨x1, hx1, hp⟩ := Option.bind_eq_some_iff.1 hp
 obtain ⟨x2, hx2, hp⟩ := Option.bind_eq_some_iff.1 hp
 refine W.sub (ψ := [(0, (.int .i64 a0)), (1, (.int .i64 a1)), (2, (.pointer (some ⟨be0, 0, none⟩))), (3, (.pointer (some ⟨be1, 0, none⟩)))]) ⟨rfl, rfl, rfl, rfl, trivial⟩ ?_
 refine W.regionP [fun v _ => @Eq Value (.pointer (some ⟨be0, 0, none⟩)) v, fun v _ => @Eq Value ue0_0 v, fun v _ => @Eq Value (.int .i64 a1) v, fun v _ => PtI 1 v ue0_0 (Int.toNat a1), fun v _ => IsF .f32 v x1, fun v _ => IsF .f64 v (wid x1), fun v _ => @Eq Value (.pointer (some ⟨be0, 0, none⟩)) v, fun v _ => @Eq Value ue0_0 v, fun v _ => @Eq Value (.int .i64 a0) v, fun v _ => PtI 1 v ue0_0 (Int.toNat a0), fun v _ => IsF .f32 v x2, fun v _ => IsF .f64 v (wid x2), fun v _ => IsF .f64 v (fop .sub .f64 (wid x1) (wid x2)), fun v _ => IsF .f64 v (fop .sub .f64 (wid x1) (wid x2))] [[], [0], [], [1, 2], [3], [4], [], [6], [], [7, 8], [9], [10], [5, 11], [12]] [13] Try.mixed (by decide +kernel) (by decide +kernel) rfl rfl rfl ?_ ?_
 ·refine ⟨⟨rfl, ?_⟩, ⟨rfl, ?_⟩, ⟨rfl, ?_⟩, ⟨rfl, ?_⟩, ⟨rfl, ?_⟩, ⟨rfl, ?_⟩, ⟨rfl, ?_⟩, ⟨rfl, ?_⟩, ⟨rfl, ?_⟩, ⟨rfl, ?_⟩, ⟨rfl, ?_⟩, ⟨rfl, ?_⟩, ⟨rfl, ?_⟩, ⟨rfl, ?_⟩, trivial⟩
  ·rintro _ rfl
   refine Dep.nil ?_
   refine GuardOK.none rfl ?_
   exact OpV.toD (opv_fieldAddr rfl Try.fo53_0 rfl) rfl
  ·rintro _ rfl _ rfl
   refine Dep.nil ?_
   refine GuardOK.none rfl ?_
   exact OpV.toD (opv_loadB rfl Try.one22 rfl (Sep.at (o := boxO be0 [ue0_0, ue0_1, ue0_2]) S0 0 rfl) rfl) rfl
  ·rintro _ rfl
   refine Dep.nil ?_
   refine GuardOK.none rfl ?_
   exact OpV.toD (opv_move rfl rfl) rfl
  ·rintro _ rfl _ rfl _ rfl
   refine Dep.nil ?_
   refine GuardOK.none rfl ?_
   exact OpV.toS (opv_index rfl Try.underlying22 (by rw [Try.size40]; rfl) rfl rfl ge0_0 hx1) (fun _ h => h)
  ·rintro _ rfl v1 fv1
   refine Dep.nil ?_
   refine GuardOK.none rfl ?_
   exact OpV.toS (opv_loadF rfl Try.one40 rfl fv1 ge0_0 hx1) (fun _ h => h)
  ·rintro _ rfl v2 fv2
   refine Dep.nil ?_
   refine GuardOK.none rfl ?_
   exact OpV.toS (opv_widen rfl (by rw [Try.underlying40]; rfl) Try.underlying56 rfl fv2) (fun _ h => h)
  ·rintro _ rfl
   refine Dep.nil ?_
   refine GuardOK.none rfl ?_
   exact OpV.toD (opv_fieldAddr rfl Try.fo53_0 rfl) rfl
  ·rintro _ rfl _ rfl
   refine Dep.nil ?_
   refine GuardOK.none rfl ?_
   exact OpV.toD (opv_loadB rfl Try.one22 rfl (Sep.at (o := boxO be0 [ue0_0, ue0_1, ue0_2]) S0 0 rfl) rfl) rfl
  ·rintro _ rfl
   refine Dep.nil ?_
   refine GuardOK.none rfl ?_
   exact OpV.toD (opv_move rfl rfl) rfl
  ·rintro _ rfl _ rfl _ rfl
   refine Dep.nil ?_
   refine GuardOK.none rfl ?_
   exact OpV.toS (opv_index rfl Try.underlying22 (by rw [Try.size40]; rfl) rfl rfl ge0_0 hx2) (fun _ h => h)
  ·rintro _ rfl v4 fv4
   refine Dep.nil ?_
   refine GuardOK.none rfl ?_
   exact OpV.toS (opv_loadF rfl Try.one40 rfl fv4 ge0_0 hx2) (fun _ h => h)
  ·rintro _ rfl v5 fv5
   refine Dep.nil ?_
   refine GuardOK.none rfl ?_
   exact OpV.toS (opv_widen rfl (by rw [Try.underlying40]; rfl) Try.underlying56 rfl fv5) (fun _ h => h)
  ·rintro _ rfl v3 fv3 v6 fv6
   refine Dep.nil ?_
   refine GuardOK.none rfl ?_
   exact OpV.toS (opv_fop rfl rfl rfl rfl fv3 fv6) (fun _ h => h)
  ·rintro _ rfl v7 fv7
   refine Dep.nil ?_
   refine GuardOK.none rfl ?_
   exact OpV.toD (opv_assign rfl rfl) fv7
 rintro v8 fv8
 refine Dep.nil ?_
 show RL _ _ _ _ [] _ _
 refine RL.nil ?_
 refine thnN ?_
 refine W.region ?_
 refine RL.opD (by decide) (opv_loadB rfl Try.one56 rfl (Sep.at (o := boxO be1 [ue1_0]) S0 1 rfl) rfl) ?_
 refine RL.opD (by decide) (opv_move rfl rfl) ?_
 refine RL.opD (by decide) (opv_move rfl rfl) ?_
 refine RL.opF (by decide) (opv_fop rfl rfl rfl rfl fv8 fv8) ?_
 intro v9 fv9
 refine RL.opF (by decide) (opv_fop rfl rfl rfl rfl ge1_0 fv9) ?_
 intro v10 fv10
 refine RL.op0 _ (opS_stored (cs := [ue1_0]) (cs' := [v10]) (opv_storeB (k := 0) (cs := [ue1_0]) rfl Try.size56 rfl rfl (IsF.one fv10) (Sep.at (o := boxO be1 [ue1_0]) S0 1 rfl) (Nat.le_of_ble_eq_true rfl)) (Sep.at (o := boxO be1 [ue1_0]) S0 1 rfl)) ?_
 rintro _ hp1 ⟨rfl, MT_1, T_1⟩
 have S_1 : Sep [some be0, some be1] h0.size h0 ([boxO be1 [ue1_0]] ++ [boxO be0 [ue0_0, ue0_1, ue0_2]]) := Sep.sel S0 [1, 0] (by decide)
 obtain ⟨X_1, S_2⟩ := Sep.turn (Mod.refl [some be0, some be1] h0) S_1 MT_1 T_1
 refine RL.nil ?_
 have er := Option.some.inj hp
 subst er
 exact Rt.none' rfl ⟨v10, rfl, fv10, X_1, (Sep.sel S_2 [1, 0] (by decide))⟩

set_option maxRecDepth 20000 in
theorem impl_RayleighOf_3_ok (h0 : Heap) (lo : Nat) (hlo : lo ≤ h0.size) (a0 : Int) (a1 : Int) (a2 : Int) (be0 : Nat) (ae0_0 : Int) (ae0_1 : Int) (ae0_2 : Bool) (ue0_3 : Value) (ae0_3 : List (Option Nat)) (ge0_3 : SL (kF .f32) lo h0 ue0_3 ae0_3) (ue0_4 : Value) (ae0_4 : List (Option Nat)) (ge0_4 : SL (kF .f32) lo h0 ue0_4 ae0_4) (be1 : Nat) (be2 : Nat) (ue2_0 : Value) (ae2_0 : List (Option Nat)) (ge2_0 : SL (kF .f32) lo h0 ue2_0 ae2_0) (ue2_1 : Value) (ae2_1 : List (Option Nat)) (ge2_1 : SL (kF .f32) lo h0 ue2_1 ae2_1) (ue2_2 : Value) (ae2_2 : List (Option Nat)) (ge2_2 : SL (kF .f32) lo h0 ue2_2 ae2_2) (be3 : Nat) (ue3_0 : Value) (ae3_0 : Option Nat) (ge3_0 : IsF .f64 ue3_0 ae3_0) (S0 : Sep [some be0, some be1, some be2, some be3] h0.size h0 [boxO be0 [(.int .i64 ae0_0), (.int .i64 ae0_1), (.bool ae0_2), ue0_3, ue0_4], boxO be1 [(.func (.func 127) #[] (List.toArray (α := Value) [(.pointer (some ⟨be2, 0, none⟩)), (.pointer (some ⟨be3, 0, none⟩))]))], boxO be2 [ue2_0, ue2_1, ue2_2], boxO be3 [ue3_0]]) (hB : ∀ b, some b ∈ [some be0, some be1, some be2, some be3] → lo ≤ b) (r : (Int × Int × Bool × (Option Nat))) (hp : impl_RayleighOf_3 a0 a1 a2 ae0_0 ae0_1 ae0_2 ae0_3 ae0_4 ae2_0 ae2_1 ae2_2 ae3_0 = some r) : CallsH Try.prog 128 ([(.int .i64 a0), (.int .i64 a1), (.int .i64 a2)].toArray ++ [(.pointer (some ⟨be0, 0, none⟩)), (.pointer (some ⟨be1, 0, none⟩))].toArray) h0 (fun v h' => ∃ w3, v = (.tuple (List.toArray (α := Value) [])) ∧ IsF .f64 w3 r.2.2.2 ∧ Mod [some be0, some be1, some be2, some be3] h0 h' ∧ Sep [some be0, some be1, some be2, some be3] h0.size h' [boxO be0 [(.int .i64 r.1), (.int .i64 r.2.1), (.bool r.2.2.1), ue0_3, ue0_4], boxO be1 [(.func (.func 127) #[] (List.toArray (α := Value) [(.pointer (some ⟨be2, 0, none⟩)), (.pointer (some ⟨be3, 0, none⟩))]))], boxO be2 [ue2_0, ue2_1, ue2_2], boxO be3 [w3]]) := by
 unfold impl_RayleighOf_3 at hp
 refine callsH_of_W (l := [(.int .i64 a0), (.int .i64 a1), (.int .i64 a2)]) (cap := [(.pointer (some ⟨be0, 0, none⟩)), (.pointer (some ⟨be1, 0, none⟩))]) 25 Try.func128 rfl rfl rfl ?_
 refine W.seq ?_
 obtain ⟨x1, hy1, hp⟩ := Option.bind_eq_some_iff.1 hp
 refine W.cut (fun φ' h' => Fr.sub [(0, (.int .i64 a0)), (1, (.int .i64 a1)), (2, (.int .i64 a2)), (3, (.pointer (some ⟨be0, 0, none⟩))), (4, (.pointer (some ⟨be1, 0, none⟩))), (16, (.bool x1))] φ' ∧ h0 = h') ?_ ?_
 ·refine W.region ?_
  refine RL.opD (by decide) (opv_fieldAddr rfl Try.fo29_2 rfl) ?_
  refine RL.opD (by decide) (opv_loadB rfl Try.one4 rfl (Sep.at (o := boxO be0 [(.int .i64 ae0_0), (.int .i64 ae0_1), (.bool ae0_2), ue0_3, ue0_4]) S0 0 rfl) rfl) ?_
  refine RL.opD (by decide) (opv_move rfl rfl) ?_
  by_cases c1 : ae0_2 = true
  ·rw [if_pos c1] at hy1
   refine RL.noT rfl rfl c1 (by decide) ?_
   refine RL.noT rfl rfl c1 (by decide) ?_
   refine RL.noT rfl rfl c1 (by decide) ?_
   refine RL.noT rfl rfl c1 (by decide) ?_
   refine RL.noT rfl rfl c1 (by decide) ?_
   refine RL.opD (by decide) (opv_pick rfl rfl (fun _ => rfl) (fun e => absurd (Eq.trans (Eq.symm e) c1) (by decide)) rfl) ?_
   refine RL.nil ?_
   have ey1 := Option.some.inj hy1
   subst ey1
   refine onlyN ?_
   exact ⟨⟨rfl, rfl, rfl, rfl, rfl, rfl, trivial⟩, rfl⟩
  ·rw [if_neg c1] at hy1
   have c1 := eq_false_of_ne_true c1
   refine RL.yesD rfl rfl c1 (by decide) (opv_move rfl rfl) ?_
   refine RL.yesD rfl rfl c1 (by decide) (opv_add rfl rfl rfl) ?_
   refine RL.yesD rfl rfl c1 (by decide) (opv_fieldAddr rfl Try.fo29_1 rfl) ?_
   refine RL.yesD rfl rfl c1 (by decide) (opv_loadB rfl Try.one2 rfl (Sep.at (o := boxO be0 [(.int .i64 ae0_0), (.int .i64 ae0_1), (.bool ae0_2), ue0_3, ue0_4]) S0 0 rfl) rfl) ?_
   refine RL.yesD rfl rfl c1 (by decide) (opv_icmp rfl rfl rfl rfl) ?_
   refine RL.opD (by decide) (opv_pick rfl rfl (fun e => absurd (Eq.trans (Eq.symm e) c1) (by decide)) (fun _ => rfl) rfl) ?_
   refine RL.nil ?_
   have ey1 := Option.some.inj hy1
   subst ey1
   refine onlyN ?_
   exact ⟨⟨rfl, rfl, rfl, rfl, rfl, rfl, trivial⟩, rfl⟩
 rintro φ' _ ⟨hs1, rfl⟩
 refine thnN ?_
 refine W.sub hs1 ?_
 obtain ⟨x2, hy2, hp⟩ := Option.bind_eq_some_iff.1 hp
 refine W.cut (fun φ' h' => ∃ v1, Fr.sub [(0, (.int .i64 a0)), (1, (.int .i64 a1)), (2, (.int .i64 a2)), (3, (.pointer (some ⟨be0, 0, none⟩))), (4, (.pointer (some ⟨be1, 0, none⟩))), (16, (.bool x1))] φ' ∧ IsF .f64 v1 x2 ∧ Mod [some be0, some be1, some be2, some be3] h0 h' ∧ Sep [some be0, some be1, some be2, some be3] h0.size h' [boxO be0 [(.int .i64 ae0_0), (.int .i64 ae0_1), (.bool ae0_2), ue0_3, ue0_4], boxO be1 [(.func (.func 127) #[] (List.toArray (α := Value) [(.pointer (some ⟨be2, 0, none⟩)), (.pointer (some ⟨be3, 0, none⟩))]))], boxO be2 [ue2_0, ue2_1, ue2_2], boxO be3 [v1]]) ?_ ?_
 ·by_cases c2 : x1 = true
  ·rw [if_pos c2] at hy2
   refine W.condT rfl c2 ?_
   obtain ⟨x3, hx3, hy2⟩ := Option.bind_eq_some_iff.1 hy2
   obtain ⟨x4, hx4, hy2⟩ := Option.bind_eq_some_iff.1 hy2
   refine W.sub (ψ := [(0, (.int .i64 a0)), (1, (.int .i64 a1)), (2, (.int .i64 a2)), (3, (.pointer (some ⟨be0, 0, none⟩))), (4, (.pointer (some ⟨be1, 0, none⟩))), (16, (.bool x1))]) ⟨rfl, rfl, rfl, rfl, rfl, rfl, trivial⟩ ?_
   refine W.regionS [fun v _ => @Eq Value (.func (.func 127) #[] (List.toArray (α := Value) [(.pointer (some ⟨be2, 0, none⟩)), (.pointer (some ⟨be3, 0, none⟩))])) v, fun v _ => @Eq Value (.int .i64 a2) v, fun v _ => @Eq Value (.agg (List.toArray (α := Value) [(.int .i64 ae0_0), (.int .i64 ae0_1), (.bool ae0_2), ue0_3, ue0_4])) v, fun v _ => @Eq Value (.int .i64 a0) v, fun v _ => @Eq Value (.int .i64 a1) v, fun v _ => @Eq Value (.int .i64 (IntKind.wrap .i64 (a1 + 1))) v, fun v h => @Eq Value v (.int .i64 x3) ∧ Sep [] h0.size h []] [[], [], [], [], [], [4], [2, 3, 5]] [0, 1, 6] Try.mixed (by decide +kernel) (by decide +kernel) rfl rfl rfl ⟨fun _ _ _ h _ => h, fun _ _ _ h _ => h, fun _ _ _ h _ => h, fun _ _ _ h _ => h, fun _ _ _ h _ => h, fun _ _ _ h _ => h, fun _ _ _ ⟨e, h⟩ x => ⟨e, h.ext x⟩, trivial⟩ ?_ ?_
   ·refine ⟨⟨rfl, ?_⟩, ⟨rfl, ?_⟩, ⟨rfl, ?_⟩, ⟨rfl, ?_⟩, ⟨rfl, ?_⟩, ⟨rfl, ?_⟩, ⟨rfl, ?_⟩, trivial⟩
    ·rintro hp3 E_1
     refine Dep.nil ?_
     refine GuardOK.none rfl ?_
     exact OpV.toDx (opv_loadB rfl Try.one138 rfl (Sep.at (o := boxO be1 [(.func (.func 127) #[] (List.toArray (α := Value) [(.pointer (some ⟨be2, 0, none⟩)), (.pointer (some ⟨be3, 0, none⟩))]))]) (Sep.ext S0 E_1) 1 rfl) rfl) rfl
    ·rintro hp4 E_2
     refine Dep.nil ?_
     refine GuardOK.none rfl ?_
     exact OpV.toDx (opv_move rfl rfl) rfl
    ·rintro hp5 E_3
     refine Dep.nil ?_
     refine GuardOK.none rfl ?_
     exact OpV.toDx (opv_loadA (us := [(.int .i64 ae0_0), (.int .i64 ae0_1), (.bool ae0_2), ue0_3, ue0_4]) rfl Try.agg29 Try.size29 rfl (Sep.at (o := boxO be0 [(.int .i64 ae0_0), (.int .i64 ae0_1), (.bool ae0_2), ue0_3, ue0_4]) (Sep.ext S0 E_3) 0 rfl) rfl rfl) rfl
    ·rintro hp6 E_4
     refine Dep.nil ?_
     refine GuardOK.none rfl ?_
     exact OpV.toDx (opv_move rfl rfl) rfl
    ·rintro hp7 E_5
     refine Dep.nil ?_
     refine GuardOK.none rfl ?_
     exact OpV.toDx (opv_move rfl rfl) rfl
    ·rintro hp8 E_6 _ rfl
     refine Dep.nil ?_
     refine GuardOK.none rfl ?_
     exact OpV.toDx (opv_add rfl rfl rfl) rfl
    ·rintro hp9 E_7 _ rfl _ rfl _ rfl
     refine Dep.nil ?_
     refine GuardOK.none rfl ?_
     exact OpV.mono (opv_call (cap := []) (impl_Sheet_at_ok _ _ _ _ _ _ (SL.up (SL.mod ge0_3 (Mod.lift (Mod.refl [some be0, some be1, some be2, some be3] h0) E_7) hlo hB) (Nat.le_trans hlo (Mod.size (Mod.lift (Mod.refl [some be0, some be1, some be2, some be3] h0) E_7)))) _ _ (SL.up (SL.mod ge0_4 (Mod.lift (Mod.refl [some be0, some be1, some be2, some be3] h0) E_7) hlo hB) (Nat.le_trans hlo (Mod.size (Mod.lift (Mod.refl [some be0, some be1, some be2, some be3] h0) E_7)))) _ _ _ hx3) rfl rfl ⟨rfl, rfl, rfl, trivial⟩ Try.func92 rfl rfl) (by rintro _ _ ⟨rfl, M_, T_⟩; exact ⟨Mod.ext M_, rfl, Sep.weak T_ (Ext.size E_7)⟩)
   rintro hp10 E_8 _ rfl _ rfl _ ⟨rfl, T_1⟩
   have X_3 := Mod.lift (Mod.refl [some be0, some be1, some be2, some be3] h0) E_8
   have S_6 := Sep.join S0 (Mod.size (Mod.refl [some be0, some be1, some be2, some be3] h0)) (Ext.mod E_8 []) T_1
   refine Dep.nil ?_
   show RL _ _ _ _ (_ :: _) _ _
   have S_8 : Sep [some be0, some be1, some be2, some be3] h0.size hp10 [boxO be2 [ue2_0, ue2_1, ue2_2], boxO be3 [ue3_0]] := Sep.sel S_6 [2, 3] (by decide)
   have S_7 : Sep [some be2, some be3] hp10.size hp10 [boxO be2 [ue2_0, ue2_1, ue2_2], boxO be3 [ue3_0]] := Sep.own S_8 _
   refine RL.op _ (by decide) (opv_call (cap := [(.pointer (some ⟨be2, 0, none⟩)), (.pointer (some ⟨be3, 0, none⟩))]) (impl_RayleighOf_2_ok _ lo (Nat.le_trans hlo (Mod.size X_3)) _ _ _ _ _ (SL.mod ge2_0 X_3 hlo hB) _ _ (SL.mod ge2_1 X_3 hlo hB) _ _ (SL.mod ge2_2 X_3 hlo hB) _ _ _ ge3_0 S_7 (Sep.ge (L := [boxO be2 [ue2_0, ue2_1, ue2_2], boxO be3 [ue3_0]]) S_8 hlo hB) _ hx4) rfl rfl ⟨rfl, rfl, trivial⟩ Try.func127 rfl rfl) ?_
   rintro _ hp11 ⟨v3, rfl, fv3, MT_3, T_3⟩
   have S_9 : Sep [some be0, some be1, some be2, some be3] h0.size hp10 ([boxO be2 [ue2_0, ue2_1, ue2_2], boxO be3 [ue3_0]] ++ [boxO be0 [(.int .i64 ae0_0), (.int .i64 ae0_1), (.bool ae0_2), ue0_3, ue0_4], boxO be1 [(.func (.func 127) #[] (List.toArray (α := Value) [(.pointer (some ⟨be2, 0, none⟩)), (.pointer (some ⟨be3, 0, none⟩))]))]]) := Sep.sel S_6 [2, 3, 0, 1] (by decide)
   obtain ⟨X_4, S_10⟩ := Sep.turn X_3 S_9 MT_3 T_3
   refine RL.nil ?_
   have ey2 := Option.some.inj hy2
   subst ey2
   refine onlyN ?_
   exact ⟨v3, ⟨rfl, rfl, rfl, rfl, rfl, rfl, trivial⟩, fv3, X_4, (Sep.sel S_10 [2, 3, 0, 1] (by decide))⟩
  ·rw [if_neg c2] at hy2
   have c2 := eq_false_of_ne_true c2
   refine W.condF rfl c2 ?_
   refine W.skip ?_
   have ey2 := Option.some.inj hy2
   subst ey2
   refine onlyN ?_
   exact ⟨ue3_0, ⟨rfl, rfl, rfl, rfl, rfl, rfl, trivial⟩, ge3_0, (Mod.refl [some be0, some be1, some be2, some be3] h0), (Sep.sel S0 [0, 1, 2, 3] (by decide))⟩
 rintro φ' hp12 ⟨v1, hs2, fv1, X_5, S_11⟩
 have er := Option.some.inj hp
 subst er
 exact Rt.none' rfl ⟨v1, rfl, fv1, X_5, (Sep.sel S_11 [0, 1, 2, 3] (by decide))⟩

set_option maxRecDepth 20000 in
theorem impl_Sheet_each__impl_RayleighOf_3_ok (h0 : Heap) (lo : Nat) (hlo : lo ≤ h0.size) (a0_0 : Int) (a0_1 : Int) (a0_2 : Bool) (u0_3 : Value) (a0_3 : List (Option Nat)) (g0_3 : SL (kF .f32) lo h0 u0_3 a0_3) (u0_4 : Value) (a0_4 : List (Option Nat)) (g0_4 : SL (kF .f32) lo h0 u0_4 a0_4) (be0 : Nat) (ae0_0 : Int) (ae0_1 : Int) (ae0_2 : Bool) (ue0_3 : Value) (ae0_3 : List (Option Nat)) (ge0_3 : SL (kF .f32) lo h0 ue0_3 ae0_3) (ue0_4 : Value) (ae0_4 : List (Option Nat)) (ge0_4 : SL (kF .f32) lo h0 ue0_4 ae0_4) (be1 : Nat) (be2 : Nat) (ue2_0 : Value) (ae2_0 : List (Option Nat)) (ge2_0 : SL (kF .f32) lo h0 ue2_0 ae2_0) (ue2_1 : Value) (ae2_1 : List (Option Nat)) (ge2_1 : SL (kF .f32) lo h0 ue2_1 ae2_1) (ue2_2 : Value) (ae2_2 : List (Option Nat)) (ge2_2 : SL (kF .f32) lo h0 ue2_2 ae2_2) (be3 : Nat) (ue3_0 : Value) (ae3_0 : Option Nat) (ge3_0 : IsF .f64 ue3_0 ae3_0) (S0 : Sep [some be0, some be1, some be2, some be3] h0.size h0 [boxO be0 [(.int .i64 ae0_0), (.int .i64 ae0_1), (.bool ae0_2), ue0_3, ue0_4], boxO be1 [(.func (.func 127) #[] (List.toArray (α := Value) [(.pointer (some ⟨be2, 0, none⟩)), (.pointer (some ⟨be3, 0, none⟩))]))], boxO be2 [ue2_0, ue2_1, ue2_2], boxO be3 [ue3_0]]) (hB : ∀ b, some b ∈ [some be0, some be1, some be2, some be3] → lo ≤ b) (r : (Int × Int × Bool × (Option Nat))) (hp : impl_Sheet_each__impl_RayleighOf_3 a0_0 a0_1 a0_2 a0_3 a0_4 ae0_0 ae0_1 ae0_2 ae0_3 ae0_4 ae2_0 ae2_1 ae2_2 ae3_0 = some r) : CallsH Try.prog 99 ([(.agg (List.toArray (α := Value) [(.int .i64 a0_0), (.int .i64 a0_1), (.bool a0_2), u0_3, u0_4])), (.func (.func 128) #[] (List.toArray (α := Value) [(.pointer (some ⟨be0, 0, none⟩)), (.pointer (some ⟨be1, 0, none⟩))]))].toArray ++ [].toArray) h0 (fun v h' => ∃ w3, v = (.tuple (List.toArray (α := Value) [])) ∧ IsF .f64 w3 r.2.2.2 ∧ Mod [some be0, some be1, some be2, some be3] h0 h' ∧ Sep [some be0, some be1, some be2, some be3] h0.size h' [boxO be0 [(.int .i64 r.1), (.int .i64 r.2.1), (.bool r.2.2.1), ue0_3, ue0_4], boxO be1 [(.func (.func 127) #[] (List.toArray (α := Value) [(.pointer (some ⟨be2, 0, none⟩)), (.pointer (some ⟨be3, 0, none⟩))]))], boxO be2 [ue2_0, ue2_1, ue2_2], boxO be3 [w3]]) := by
 unfold impl_Sheet_each__impl_RayleighOf_3 at hp
 refine callsH_of_W (l := [(.agg (List.toArray (α := Value) [(.int .i64 a0_0), (.int .i64 a0_1), (.bool a0_2), u0_3, u0_4])), (.func (.func 128) #[] (List.toArray (α := Value) [(.pointer (some ⟨be0, 0, none⟩)), (.pointer (some ⟨be1, 0, none⟩))]))]) (cap := []) 26 Try.func99 rfl rfl rfl ?_
 refine W.seq ?_
 refine W.region ?_
 refine RL.op _ (by decide) (opS_boxed (opv_boxA (cs := [(.int .i64 a0_0), (.int .i64 a0_1), (.bool a0_2), u0_3, u0_4]) rfl rfl)) ?_
 rintro _ hp1 ⟨bb1, rfl, MT_1, T_1⟩
 obtain ⟨X_1, S_1⟩ := Sep.turn0 (Mod.refl [some be0, some be1, some be2, some be3] h0) S0 MT_1 T_1
 refine RL.nil ?_
 refine thnN ?_
 refine W.seq ?_
 refine W.region ?_
 refine RL.opD (by decide) (opv_fieldAddr rfl Try.fo29_1 rfl) ?_
 refine RL.opD (by decide) (opv_loadB rfl Try.one2 rfl (Sep.at (o := boxO bb1 [(.int .i64 a0_0), (.int .i64 a0_1), (.bool a0_2), u0_3, u0_4]) S_1 0 rfl) rfl) ?_
 refine RL.opD (by decide) (opv_move rfl rfl) ?_
 refine RL.nil ?_
 refine thnN ?_
 obtain ⟨y1, hy1, hp⟩ := Option.bind_eq_some_iff.1 hp
 refine W.cut (fun φ' h' => ∃ x6, ∃ x7, ∃ x8, ∃ x9, ∃ x10, ∃ x11, ∃ v2, y1 = (x6, x7, x8, x9, x10, x11) ∧ Fr.sub [(0, (.agg (List.toArray (α := Value) [(.int .i64 a0_0), (.int .i64 a0_1), (.bool a0_2), u0_3, u0_4]))), (1, (.func (.func 128) #[] (List.toArray (α := Value) [(.pointer (some ⟨be0, 0, none⟩)), (.pointer (some ⟨be1, 0, none⟩))]))), (2, (.pointer (some ⟨bb1, 0, none⟩))), (7, (.int .i64 a0_1)), (8, (.int .i64 x6)), (9, (.bool x7))] φ' ∧ IsF .f64 v2 x11 ∧ Mod [some be0, some be1, some be2, some be3] h0 h' ∧ Sep [some be0, some be1, some be2, some be3] h0.size h' [boxO bb1 [(.int .i64 a0_0), (.int .i64 a0_1), (.bool a0_2), u0_3, u0_4], boxO be0 [(.int .i64 x8), (.int .i64 x9), (.bool x10), ue0_3, ue0_4], boxO be1 [(.func (.func 127) #[] (List.toArray (α := Value) [(.pointer (some ⟨be2, 0, none⟩)), (.pointer (some ⟨be3, 0, none⟩))]))], boxO be2 [ue2_0, ue2_1, ue2_2], boxO be3 [v2]]) ?_ ?_
 ·refine W.block ?_
  refine W.loopS (fun (s : (Int × Int × Int × Bool × (Option Nat))) φ' h' => ∃ v1, Fr.sub [(0, (.agg (List.toArray (α := Value) [(.int .i64 a0_0), (.int .i64 a0_1), (.bool a0_2), u0_3, u0_4]))), (1, (.func (.func 128) #[] (List.toArray (α := Value) [(.pointer (some ⟨be0, 0, none⟩)), (.pointer (some ⟨be1, 0, none⟩))]))), (2, (.pointer (some ⟨bb1, 0, none⟩))), (7, (.int .i64 a0_1)), (8, (.int .i64 s.1))] φ' ∧ IsF .f64 v1 s.2.2.2.2 ∧ Mod [some be0, some be1, some be2, some be3] h0 h' ∧ Sep [some be0, some be1, some be2, some be3] h0.size h' [boxO bb1 [(.int .i64 a0_0), (.int .i64 a0_1), (.bool a0_2), u0_3, u0_4], boxO be0 [(.int .i64 s.2.1), (.int .i64 s.2.2.1), (.bool s.2.2.2.1), ue0_3, ue0_4], boxO be1 [(.func (.func 127) #[] (List.toArray (α := Value) [(.pointer (some ⟨be2, 0, none⟩)), (.pointer (some ⟨be3, 0, none⟩))]))], boxO be2 [ue2_0, ue2_1, ue2_2], boxO be3 [v1]]) hy1 ⟨ue3_0, ⟨rfl, rfl, rfl, rfl, rfl, trivial⟩, ge3_0, X_1, (Sep.sel S_1 [0, 1, 2, 3, 4] (by decide))⟩ ?_
  rintro ⟨x1, x2, x3, x4, x5⟩ φ' hp2 o1 ⟨v1, hs1, fv1, X_2, S_2⟩ ho1 hy1
  have hs1 : Fr.sub [(0, (.agg (List.toArray (α := Value) [(.int .i64 a0_0), (.int .i64 a0_1), (.bool a0_2), u0_3, u0_4]))), (1, (.func (.func 128) #[] (List.toArray (α := Value) [(.pointer (some ⟨be0, 0, none⟩)), (.pointer (some ⟨be1, 0, none⟩))]))), (2, (.pointer (some ⟨bb1, 0, none⟩))), (7, (.int .i64 a0_1)), (8, (.int .i64 x1))] φ' := hs1
  have fv1 : IsF .f64 v1 x5 := fv1
  have S_2 : Sep [some be0, some be1, some be2, some be3] h0.size hp2 [boxO bb1 [(.int .i64 a0_0), (.int .i64 a0_1), (.bool a0_2), u0_3, u0_4], boxO be0 [(.int .i64 x2), (.int .i64 x3), (.bool x4), ue0_3, ue0_4], boxO be1 [(.func (.func 127) #[] (List.toArray (α := Value) [(.pointer (some ⟨be2, 0, none⟩)), (.pointer (some ⟨be3, 0, none⟩))]))], boxO be2 [ue2_0, ue2_1, ue2_2], boxO be3 [v1]] := S_2
  have ho1 : impl_Sheet_each__impl_RayleighOf_3.s0 a0_0 a0_1 a0_2 a0_3 a0_4 ae0_3 ae0_4 ae2_0 ae2_1 ae2_2 x1 x2 x3 x4 x5 = some o1 := ho1
  unfold impl_Sheet_each__impl_RayleighOf_3.s0 at ho1
  refine W.sub hs1 ?_
  refine W.seq ?_
  refine W.region ?_
  refine RL.opD (by decide) (opv_icmp rfl rfl rfl rfl) ?_
  refine RL.nil ?_
  refine thnN ?_
  refine W.seq ?_
  by_cases c1 : (decide (x1 < a0_1)) = true
  ·rw [if_pos c1] at ho1
   refine W.condT rfl c1 ?_
   refine W.skip ?_
   refine thnN ?_
   refine W.seq ?_
   refine W.block ?_
   refine W.seq ?_
   refine W.region ?_
   refine RL.opD (by decide) (opv_move rfl rfl) ?_
   refine RL.opD (by decide) (opv_assign rfl rfl) ?_
   refine RL.nil ?_
   refine thnN ?_
   refine W.seq ?_
   refine W.region ?_
   refine RL.opD (by decide) (opv_fieldAddr rfl Try.fo29_0 rfl) ?_
   refine RL.opD (by decide) (opv_loadB rfl Try.one2 rfl (Sep.at (o := boxO bb1 [(.int .i64 a0_0), (.int .i64 a0_1), (.bool a0_2), u0_3, u0_4]) S_2 0 rfl) rfl) ?_
   refine RL.opD (by decide) (opv_move rfl rfl) ?_
   refine RL.nil ?_
   refine thnN ?_
   obtain ⟨y2, hy2, ho1⟩ := Option.bind_eq_some_iff.1 ho1
   refine W.cut (fun φ' h' => ∃ x17, ∃ x18, ∃ x19, ∃ x20, ∃ x21, ∃ x22, ∃ v4, y2 = (x17, x18, x19, x20, x21, x22) ∧ Fr.sub [(0, (.agg (List.toArray (α := Value) [(.int .i64 a0_0), (.int .i64 a0_1), (.bool a0_2), u0_3, u0_4]))), (1, (.func (.func 128) #[] (List.toArray (α := Value) [(.pointer (some ⟨be0, 0, none⟩)), (.pointer (some ⟨be1, 0, none⟩))]))), (2, (.pointer (some ⟨bb1, 0, none⟩))), (7, (.int .i64 a0_1)), (8, (.int .i64 x1)), (9, (.bool (decide (x1 < a0_1)))), (4, (.int .i64 x1)), (12, (.int .i64 a0_0)), (13, (.int .i64 x17)), (14, (.bool x18))] φ' ∧ IsF .f64 v4 x22 ∧ Mod [some be0, some be1, some be2, some be3] h0 h' ∧ Sep [some be0, some be1, some be2, some be3] h0.size h' [boxO bb1 [(.int .i64 a0_0), (.int .i64 a0_1), (.bool a0_2), u0_3, u0_4], boxO be0 [(.int .i64 x19), (.int .i64 x20), (.bool x21), ue0_3, ue0_4], boxO be1 [(.func (.func 127) #[] (List.toArray (α := Value) [(.pointer (some ⟨be2, 0, none⟩)), (.pointer (some ⟨be3, 0, none⟩))]))], boxO be2 [ue2_0, ue2_1, ue2_2], boxO be3 [v4]]) ?_ ?_
   ·refine W.block ?_
    refine W.loopS (fun (s : (Int × Int × Int × Bool × (Option Nat))) φ' h' => ∃ v3, Fr.sub [(0, (.agg (List.toArray (α := Value) [(.int .i64 a0_0), (.int .i64 a0_1), (.bool a0_2), u0_3, u0_4]))), (1, (.func (.func 128) #[] (List.toArray (α := Value) [(.pointer (some ⟨be0, 0, none⟩)), (.pointer (some ⟨be1, 0, none⟩))]))), (2, (.pointer (some ⟨bb1, 0, none⟩))), (7, (.int .i64 a0_1)), (8, (.int .i64 x1)), (9, (.bool (decide (x1 < a0_1)))), (4, (.int .i64 x1)), (12, (.int .i64 a0_0)), (13, (.int .i64 s.1))] φ' ∧ IsF .f64 v3 s.2.2.2.2 ∧ Mod [some be0, some be1, some be2, some be3] h0 h' ∧ Sep [some be0, some be1, some be2, some be3] h0.size h' [boxO bb1 [(.int .i64 a0_0), (.int .i64 a0_1), (.bool a0_2), u0_3, u0_4], boxO be0 [(.int .i64 s.2.1), (.int .i64 s.2.2.1), (.bool s.2.2.2.1), ue0_3, ue0_4], boxO be1 [(.func (.func 127) #[] (List.toArray (α := Value) [(.pointer (some ⟨be2, 0, none⟩)), (.pointer (some ⟨be3, 0, none⟩))]))], boxO be2 [ue2_0, ue2_1, ue2_2], boxO be3 [v3]]) hy2 ⟨v1, ⟨rfl, rfl, rfl, rfl, rfl, rfl, rfl, rfl, rfl, trivial⟩, fv1, X_2, (Sep.sel S_2 [0, 1, 2, 3, 4] (by decide))⟩ ?_
    rintro ⟨x12, x13, x14, x15, x16⟩ φ' hp3 o2 ⟨v3, hs3, fv3, X_3, S_3⟩ ho2 hy2
    have hs3 : Fr.sub [(0, (.agg (List.toArray (α := Value) [(.int .i64 a0_0), (.int .i64 a0_1), (.bool a0_2), u0_3, u0_4]))), (1, (.func (.func 128) #[] (List.toArray (α := Value) [(.pointer (some ⟨be0, 0, none⟩)), (.pointer (some ⟨be1, 0, none⟩))]))), (2, (.pointer (some ⟨bb1, 0, none⟩))), (7, (.int .i64 a0_1)), (8, (.int .i64 x1)), (9, (.bool (decide (x1 < a0_1)))), (4, (.int .i64 x1)), (12, (.int .i64 a0_0)), (13, (.int .i64 x12))] φ' := hs3
    have fv3 : IsF .f64 v3 x16 := fv3
    have S_3 : Sep [some be0, some be1, some be2, some be3] h0.size hp3 [boxO bb1 [(.int .i64 a0_0), (.int .i64 a0_1), (.bool a0_2), u0_3, u0_4], boxO be0 [(.int .i64 x13), (.int .i64 x14), (.bool x15), ue0_3, ue0_4], boxO be1 [(.func (.func 127) #[] (List.toArray (α := Value) [(.pointer (some ⟨be2, 0, none⟩)), (.pointer (some ⟨be3, 0, none⟩))]))], boxO be2 [ue2_0, ue2_1, ue2_2], boxO be3 [v3]] := S_3
    have ho2 : impl_Sheet_each__impl_RayleighOf_3.s1 a0_0 a0_1 a0_2 a0_3 a0_4 ae0_3 ae0_4 ae2_0 ae2_1 ae2_2 x1 x12 x13 x14 x15 x16 = some o2 := ho2
    unfold impl_Sheet_each__impl_RayleighOf_3.s1 at ho2
    refine W.sub hs3 ?_
    refine W.seq ?_
    refine W.region ?_
    refine RL.opD (by decide) (opv_icmp rfl rfl rfl rfl) ?_
    refine RL.nil ?_
    refine thnN ?_
    refine W.seq ?_
    by_cases c2 : (decide (x12 < a0_0)) = true
    ·rw [if_pos c2] at ho2
     refine W.condT rfl c2 ?_
     refine W.skip ?_
     refine thnN ?_
     refine W.seq ?_
     refine W.block ?_
     refine W.seq ?_
     refine W.region ?_
     refine RL.opD (by decide) (opv_move rfl rfl) ?_
     refine RL.opD (by decide) (opv_assign rfl rfl) ?_
     refine RL.nil ?_
     refine thnN ?_
     refine W.region ?_
     refine RL.opD (by decide) (opv_move rfl rfl) ?_
     refine RL.opD (by decide) (opv_move rfl rfl) ?_
     refine RL.opD (by decide) (opv_move rfl rfl) ?_
     refine RL.opD (by decide) (opv_loadA (us := [(.int .i64 a0_0), (.int .i64 a0_1), (.bool a0_2), u0_3, u0_4]) rfl Try.agg29 Try.size29 rfl (Sep.at (o := boxO bb1 [(.int .i64 a0_0), (.int .i64 a0_1), (.bool a0_2), u0_3, u0_4]) S_3 0 rfl) rfl rfl) ?_
     refine RL.opD (by decide) (opv_move rfl rfl) ?_
     refine RL.opD (by decide) (opv_move rfl rfl) ?_
     obtain ⟨x23, hx23, ho2⟩ := Option.bind_eq_some_iff.1 ho2
     refine RL.op _ (by decide) (opv_call (cap := []) (impl_Sheet_at_ok _ _ _ _ _ _ (SL.up (SL.mod g0_3 X_3 hlo hB) (Nat.le_trans hlo (Mod.size X_3))) _ _ (SL.up (SL.mod g0_4 X_3 hlo hB) (Nat.le_trans hlo (Mod.size X_3))) _ _ _ hx23) rfl rfl ⟨rfl, rfl, rfl, trivial⟩ Try.func92 rfl rfl) ?_
     rintro _ hp4 ⟨rfl, MT_2, T_2⟩
     obtain ⟨X_4, S_4⟩ := Sep.turn0 X_3 S_3 MT_2 T_2
     obtain ⟨x24, hx24, ho2⟩ := Option.bind_eq_some_iff.1 ho2
     have S_6 : Sep [some be0, some be1, some be2, some be3] h0.size hp4 [boxO be0 [(.int .i64 x13), (.int .i64 x14), (.bool x15), ue0_3, ue0_4], boxO be1 [(.func (.func 127) #[] (List.toArray (α := Value) [(.pointer (some ⟨be2, 0, none⟩)), (.pointer (some ⟨be3, 0, none⟩))]))], boxO be2 [ue2_0, ue2_1, ue2_2], boxO be3 [v3]] := Sep.sel S_4 [1, 2, 3, 4] (by decide)
     have S_5 : Sep [some be0, some be1, some be2, some be3] hp4.size hp4 [boxO be0 [(.int .i64 x13), (.int .i64 x14), (.bool x15), ue0_3, ue0_4], boxO be1 [(.func (.func 127) #[] (List.toArray (α := Value) [(.pointer (some ⟨be2, 0, none⟩)), (.pointer (some ⟨be3, 0, none⟩))]))], boxO be2 [ue2_0, ue2_1, ue2_2], boxO be3 [v3]] := Sep.own S_6 _
     refine RL.op _ (by decide) (opv_call (cap := [(.pointer (some ⟨be0, 0, none⟩)), (.pointer (some ⟨be1, 0, none⟩))]) (impl_RayleighOf_3_ok _ lo (Nat.le_trans hlo (Mod.size X_4)) _ _ _ _ _ _ _ _ _ (SL.mod ge0_3 X_4 hlo hB) _ _ (SL.mod ge0_4 X_4 hlo hB) _ _ _ _ (SL.mod ge2_0 X_4 hlo hB) _ _ (SL.mod ge2_1 X_4 hlo hB) _ _ (SL.mod ge2_2 X_4 hlo hB) _ _ _ fv3 S_5 (Sep.ge (L := [boxO be0 [(.int .i64 x13), (.int .i64 x14), (.bool x15), ue0_3, ue0_4], boxO be1 [(.func (.func 127) #[] (List.toArray (α := Value) [(.pointer (some ⟨be2, 0, none⟩)), (.pointer (some ⟨be3, 0, none⟩))]))], boxO be2 [ue2_0, ue2_1, ue2_2], boxO be3 [v3]]) S_6 hlo hB) _ hx24) rfl rfl ⟨rfl, rfl, rfl, trivial⟩ Try.func128 rfl rfl) ?_
     rintro _ hp5 ⟨v5, rfl, fv5, MT_3, T_3⟩
     have S_7 : Sep [some be0, some be1, some be2, some be3] h0.size hp4 ([boxO be0 [(.int .i64 x13), (.int .i64 x14), (.bool x15), ue0_3, ue0_4], boxO be1 [(.func (.func 127) #[] (List.toArray (α := Value) [(.pointer (some ⟨be2, 0, none⟩)), (.pointer (some ⟨be3, 0, none⟩))]))], boxO be2 [ue2_0, ue2_1, ue2_2], boxO be3 [v3]] ++ [boxO bb1 [(.int .i64 a0_0), (.int .i64 a0_1), (.bool a0_2), u0_3, u0_4]]) := Sep.sel S_4 [1, 2, 3, 4, 0] (by decide)
     obtain ⟨X_5, S_8⟩ := Sep.turn X_4 S_7 MT_3 T_3
     refine RL.nil ?_
     refine blkN ?_
     refine thnN ?_
     refine W.region ?_
     refine RL.opD (by decide) (opv_add rfl rfl rfl) ?_
     refine RL.opD (by decide) (opv_move rfl rfl) ?_
     refine RL.nil ?_
     have eo2 := Option.some.inj ho2
     subst eo2
     refine rndN (s' := (IntKind.wrap .i64 (x12 + 1), x24.1, x24.2.1, x24.2.2.1, x24.2.2.2)) rfl ?_
     exact ⟨v5, ⟨rfl, rfl, rfl, rfl, rfl, rfl, rfl, rfl, rfl, trivial⟩, fv5, X_5, (Sep.sel S_8 [4, 0, 1, 2, 3] (by decide))⟩
    ·rw [if_neg c2] at ho2
     have c2 := eq_false_of_ne_true c2
     refine W.condF rfl c2 ?_
     refine W.exit ?_
     refine thnX ?_
     refine rndX ?_
     refine blkI ?_
     have eo2 := Option.some.inj ho2
     subst eo2
     have ey2 := hy2 _ rfl
     subst ey2
     refine onlyN ?_
     exact ⟨x12, decide (x12 < a0_0), x13, x14, x15, x16, v3, rfl, ⟨rfl, rfl, rfl, rfl, rfl, rfl, rfl, rfl, rfl, rfl, trivial⟩, fv3, X_3, (Sep.sel S_3 [0, 1, 2, 3, 4] (by decide))⟩
   rintro φ' hp6 ⟨x17, x18, x19, x20, x21, x22, v4, rfl, hs4, fv4, X_6, S_9⟩
   try dsimp only at ho1
   refine blkN ?_
   refine thnN ?_
   refine W.sub hs4 ?_
   refine W.region ?_
   refine RL.opD (by decide) (opv_add rfl rfl rfl) ?_
   refine RL.opD (by decide) (opv_move rfl rfl) ?_
   refine RL.nil ?_
   have eo1 := Option.some.inj ho1
   subst eo1
   refine rndN (s' := (IntKind.wrap .i64 (x1 + 1), x19, x20, x21, x22)) rfl ?_
   exact ⟨v4, ⟨rfl, rfl, rfl, rfl, rfl, trivial⟩, fv4, X_6, (Sep.sel S_9 [0, 1, 2, 3, 4] (by decide))⟩
  ·rw [if_neg c1] at ho1
   have c1 := eq_false_of_ne_true c1
   refine W.condF rfl c1 ?_
   refine W.exit ?_
   refine thnX ?_
   refine rndX ?_
   refine blkI ?_
   have eo1 := Option.some.inj ho1
   subst eo1
   have ey1 := hy1 _ rfl
   subst ey1
   refine onlyN ?_
   exact ⟨x1, decide (x1 < a0_1), x2, x3, x4, x5, v1, rfl, ⟨rfl, rfl, rfl, rfl, rfl, rfl, trivial⟩, fv1, X_2, (Sep.sel S_2 [0, 1, 2, 3, 4] (by decide))⟩
 rintro φ' hp7 ⟨x6, x7, x8, x9, x10, x11, v2, rfl, hs2, fv2, X_7, S_10⟩
 try dsimp only at hp
 have er := Option.some.inj hp
 subst er
 exact Rt.none' rfl ⟨v2, rfl, fv2, X_7, (Sep.sel S_10 [1, 2, 3, 4] (by decide))⟩

set_option maxRecDepth 20000 in
theorem impl_RayleighOf_4_ok (h0 : Heap) (lo : Nat) (hlo : lo ≤ h0.size) (a0 : Int) (a1 : Int) (a2 : Int) (be0 : Nat) (ae0_0 : Int) (ae0_1 : Int) (ae0_2 : Bool) (ue0_3 : Value) (ae0_3 : List (Option Nat)) (ge0_3 : SL (kF .f32) lo h0 ue0_3 ae0_3) (ue0_4 : Value) (ae0_4 : List (Option Nat)) (ge0_4 : SL (kF .f32) lo h0 ue0_4 ae0_4) (be1 : Nat) (be2 : Nat) (ue2_0 : Value) (ae2_0 : List (Option Nat)) (ge2_0 : SL (kF .f32) lo h0 ue2_0 ae2_0) (ue2_1 : Value) (ae2_1 : List (Option Nat)) (ge2_1 : SL (kF .f32) lo h0 ue2_1 ae2_1) (ue2_2 : Value) (ae2_2 : List (Option Nat)) (ge2_2 : SL (kF .f32) lo h0 ue2_2 ae2_2) (be3 : Nat) (ue3_0 : Value) (ae3_0 : Option Nat) (ge3_0 : IsF .f64 ue3_0 ae3_0) (S0 : Sep [some be0, some be1, some be2, some be3] h0.size h0 [boxO be0 [(.int .i64 ae0_0), (.int .i64 ae0_1), (.bool ae0_2), ue0_3, ue0_4], boxO be1 [(.func (.func 127) #[] (List.toArray (α := Value) [(.pointer (some ⟨be2, 0, none⟩)), (.pointer (some ⟨be3, 0, none⟩))]))], boxO be2 [ue2_0, ue2_1, ue2_2], boxO be3 [ue3_0]]) (hB : ∀ b, some b ∈ [some be0, some be1, some be2, some be3] → lo ≤ b) (r : (Int × Int × Bool × (Option Nat))) (hp : impl_RayleighOf_4 a0 a1 a2 ae0_0 ae0_1 ae0_2 ae0_3 ae0_4 ae2_0 ae2_1 ae2_2 ae3_0 = some r) : CallsH Try.prog 129 ([(.int .i64 a0), (.int .i64 a1), (.int .i64 a2)].toArray ++ [(.pointer (some ⟨be0, 0, none⟩)), (.pointer (some ⟨be1, 0, none⟩))].toArray) h0 (fun v h' => ∃ w3, v = (.tuple (List.toArray (α := Value) [])) ∧ IsF .f64 w3 r.2.2.2 ∧ Mod [some be0, some be1, some be2, some be3] h0 h' ∧ Sep [some be0, some be1, some be2, some be3] h0.size h' [boxO be0 [(.int .i64 r.1), (.int .i64 r.2.1), (.bool r.2.2.1), ue0_3, ue0_4], boxO be1 [(.func (.func 127) #[] (List.toArray (α := Value) [(.pointer (some ⟨be2, 0, none⟩)), (.pointer (some ⟨be3, 0, none⟩))]))], boxO be2 [ue2_0, ue2_1, ue2_2], boxO be3 [w3]]) := by
 unfold impl_RayleighOf_4 at hp
 refine callsH_of_W (l := [(.int .i64 a0), (.int .i64 a1), (.int .i64 a2)]) (cap := [(.pointer (some ⟨be0, 0, none⟩)), (.pointer (some ⟨be1, 0, none⟩))]) 25 Try.func129 rfl rfl rfl ?_
 refine W.seq ?_
 obtain ⟨x1, hy1, hp⟩ := Option.bind_eq_some_iff.1 hp
 refine W.cut (fun φ' h' => Fr.sub [(0, (.int .i64 a0)), (1, (.int .i64 a1)), (2, (.int .i64 a2)), (3, (.pointer (some ⟨be0, 0, none⟩))), (4, (.pointer (some ⟨be1, 0, none⟩))), (16, (.bool x1))] φ' ∧ h0 = h') ?_ ?_
 ·refine W.region ?_
  refine RL.opD (by decide) (opv_fieldAddr rfl Try.fo29_2 rfl) ?_
  refine RL.opD (by decide) (opv_loadB rfl Try.one4 rfl (Sep.at (o := boxO be0 [(.int .i64 ae0_0), (.int .i64 ae0_1), (.bool ae0_2), ue0_3, ue0_4]) S0 0 rfl) rfl) ?_
  refine RL.opD (by decide) (opv_move rfl rfl) ?_
  by_cases c1 : ae0_2 = true
  ·rw [if_pos c1] at hy1
   refine RL.noT rfl rfl c1 (by decide) ?_
   refine RL.noT rfl rfl c1 (by decide) ?_
   refine RL.noT rfl rfl c1 (by decide) ?_
   refine RL.noT rfl rfl c1 (by decide) ?_
   refine RL.noT rfl rfl c1 (by decide) ?_
   refine RL.opD (by decide) (opv_pick rfl rfl (fun _ => rfl) (fun e => absurd (Eq.trans (Eq.symm e) c1) (by decide)) rfl) ?_
   refine RL.nil ?_
   have ey1 := Option.some.inj hy1
   subst ey1
   refine onlyN ?_
   exact ⟨⟨rfl, rfl, rfl, rfl, rfl, rfl, trivial⟩, rfl⟩
  ·rw [if_neg c1] at hy1
   have c1 := eq_false_of_ne_true c1
   refine RL.yesD rfl rfl c1 (by decide) (opv_move rfl rfl) ?_
   refine RL.yesD rfl rfl c1 (by decide) (opv_add rfl rfl rfl) ?_
   refine RL.yesD rfl rfl c1 (by decide) (opv_fieldAddr rfl Try.fo29_0 rfl) ?_
   refine RL.yesD rfl rfl c1 (by decide) (opv_loadB rfl Try.one2 rfl (Sep.at (o := boxO be0 [(.int .i64 ae0_0), (.int .i64 ae0_1), (.bool ae0_2), ue0_3, ue0_4]) S0 0 rfl) rfl) ?_
   refine RL.yesD rfl rfl c1 (by decide) (opv_icmp rfl rfl rfl rfl) ?_
   refine RL.opD (by decide) (opv_pick rfl rfl (fun e => absurd (Eq.trans (Eq.symm e) c1) (by decide)) (fun _ => rfl) rfl) ?_
   refine RL.nil ?_
   have ey1 := Option.some.inj hy1
   subst ey1
   refine onlyN ?_
   exact ⟨⟨rfl, rfl, rfl, rfl, rfl, rfl, trivial⟩, rfl⟩
 rintro φ' _ ⟨hs1, rfl⟩
 refine thnN ?_
 refine W.sub hs1 ?_
 obtain ⟨x2, hy2, hp⟩ := Option.bind_eq_some_iff.1 hp
 refine W.cut (fun φ' h' => ∃ v1, Fr.sub [(0, (.int .i64 a0)), (1, (.int .i64 a1)), (2, (.int .i64 a2)), (3, (.pointer (some ⟨be0, 0, none⟩))), (4, (.pointer (some ⟨be1, 0, none⟩))), (16, (.bool x1))] φ' ∧ IsF .f64 v1 x2 ∧ Mod [some be0, some be1, some be2, some be3] h0 h' ∧ Sep [some be0, some be1, some be2, some be3] h0.size h' [boxO be0 [(.int .i64 ae0_0), (.int .i64 ae0_1), (.bool ae0_2), ue0_3, ue0_4], boxO be1 [(.func (.func 127) #[] (List.toArray (α := Value) [(.pointer (some ⟨be2, 0, none⟩)), (.pointer (some ⟨be3, 0, none⟩))]))], boxO be2 [ue2_0, ue2_1, ue2_2], boxO be3 [v1]]) ?_ ?_
 ·by_cases c2 : x1 = true
  ·rw [if_pos c2] at hy2
   refine W.condT rfl c2 ?_
   obtain ⟨x3, hx3, hy2⟩ := Option.bind_eq_some_iff.1 hy2
   obtain ⟨x4, hx4, hy2⟩ := Option.bind_eq_some_iff.1 hy2
   refine W.sub (ψ := [(0, (.int .i64 a0)), (1, (.int .i64 a1)), (2, (.int .i64 a2)), (3, (.pointer (some ⟨be0, 0, none⟩))), (4, (.pointer (some ⟨be1, 0, none⟩))), (16, (.bool x1))]) ⟨rfl, rfl, rfl, rfl, rfl, rfl, trivial⟩ ?_
   refine W.regionS [fun v _ => @Eq Value (.func (.func 127) #[] (List.toArray (α := Value) [(.pointer (some ⟨be2, 0, none⟩)), (.pointer (some ⟨be3, 0, none⟩))])) v, fun v _ => @Eq Value (.int .i64 a2) v, fun v _ => @Eq Value (.agg (List.toArray (α := Value) [(.int .i64 ae0_0), (.int .i64 ae0_1), (.bool ae0_2), ue0_3, ue0_4])) v, fun v _ => @Eq Value (.int .i64 a0) v, fun v _ => @Eq Value (.int .i64 (IntKind.wrap .i64 (a0 + 1))) v, fun v _ => @Eq Value (.int .i64 a1) v, fun v h => @Eq Value v (.int .i64 x3) ∧ Sep [] h0.size h []] [[], [], [], [], [3], [], [2, 4, 5]] [0, 1, 6] Try.mixed (by decide +kernel) (by decide +kernel) rfl rfl rfl ⟨fun _ _ _ h _ => h, fun _ _ _ h _ => h, fun _ _ _ h _ => h, fun _ _ _ h _ => h, fun _ _ _ h _ => h, fun _ _ _ h _ => h, fun _ _ _ ⟨e, h⟩ x => ⟨e, h.ext x⟩, trivial⟩ ?_ ?_
   ·refine ⟨⟨rfl, ?_⟩, ⟨rfl, ?_⟩, ⟨rfl, ?_⟩, ⟨rfl, ?_⟩, ⟨rfl, ?_⟩, ⟨rfl, ?_⟩, ⟨rfl, ?_⟩, trivial⟩
    ·rintro hp3 E_1
     refine Dep.nil ?_
     refine GuardOK.none rfl ?_
     exact OpV.toDx (opv_loadB rfl Try.one138 rfl (Sep.at (o := boxO be1 [(.func (.func 127) #[] (List.toArray (α := Value) [(.pointer (some ⟨be2, 0, none⟩)), (.pointer (some ⟨be3, 0, none⟩))]))]) (Sep.ext S0 E_1) 1 rfl) rfl) rfl
    ·rintro hp4 E_2
     refine Dep.nil ?_
     refine GuardOK.none rfl ?_
     exact OpV.toDx (opv_move rfl rfl) rfl
    ·rintro hp5 E_3
     refine Dep.nil ?_
     refine GuardOK.none rfl ?_
     exact OpV.toDx (opv_loadA (us := [(.int .i64 ae0_0), (.int .i64 ae0_1), (.bool ae0_2), ue0_3, ue0_4]) rfl Try.agg29 Try.size29 rfl (Sep.at (o := boxO be0 [(.int .i64 ae0_0), (.int .i64 ae0_1), (.bool ae0_2), ue0_3, ue0_4]) (Sep.ext S0 E_3) 0 rfl) rfl rfl) rfl
    ·rintro hp6 E_4
     refine Dep.nil ?_
     refine GuardOK.none rfl ?_
     exact OpV.toDx (opv_move rfl rfl) rfl
    ·rintro hp7 E_5 _ rfl
     refine Dep.nil ?_
     refine GuardOK.none rfl ?_
     exact OpV.toDx (opv_add rfl rfl rfl) rfl
    ·rintro hp8 E_6
     refine Dep.nil ?_
     refine GuardOK.none rfl ?_
     exact OpV.toDx (opv_move rfl rfl) rfl
    ·rintro hp9 E_7 _ rfl _ rfl _ rfl
     refine Dep.nil ?_
     refine GuardOK.none rfl ?_
     exact OpV.mono (opv_call (cap := []) (impl_Sheet_at_ok _ _ _ _ _ _ (SL.up (SL.mod ge0_3 (Mod.lift (Mod.refl [some be0, some be1, some be2, some be3] h0) E_7) hlo hB) (Nat.le_trans hlo (Mod.size (Mod.lift (Mod.refl [some be0, some be1, some be2, some be3] h0) E_7)))) _ _ (SL.up (SL.mod ge0_4 (Mod.lift (Mod.refl [some be0, some be1, some be2, some be3] h0) E_7) hlo hB) (Nat.le_trans hlo (Mod.size (Mod.lift (Mod.refl [some be0, some be1, some be2, some be3] h0) E_7)))) _ _ _ hx3) rfl rfl ⟨rfl, rfl, rfl, trivial⟩ Try.func92 rfl rfl) (by rintro _ _ ⟨rfl, M_, T_⟩; exact ⟨Mod.ext M_, rfl, Sep.weak T_ (Ext.size E_7)⟩)
   rintro hp10 E_8 _ rfl _ rfl _ ⟨rfl, T_1⟩
   have X_3 := Mod.lift (Mod.refl [some be0, some be1, some be2, some be3] h0) E_8
   have S_6 := Sep.join S0 (Mod.size (Mod.refl [some be0, some be1, some be2, some be3] h0)) (Ext.mod E_8 []) T_1
   refine Dep.nil ?_
   show RL _ _ _ _ (_ :: _) _ _
   have S_8 : Sep [some be0, some be1, some be2, some be3] h0.size hp10 [boxO be2 [ue2_0, ue2_1, ue2_2], boxO be3 [ue3_0]] := Sep.sel S_6 [2, 3] (by decide)
   have S_7 : Sep [some be2, some be3] hp10.size hp10 [boxO be2 [ue2_0, ue2_1, ue2_2], boxO be3 [ue3_0]] := Sep.own S_8 _
   refine RL.op _ (by decide) (opv_call (cap := [(.pointer (some ⟨be2, 0, none⟩)), (.pointer (some ⟨be3, 0, none⟩))]) (impl_RayleighOf_2_ok _ lo (Nat.le_trans hlo (Mod.size X_3)) _ _ _ _ _ (SL.mod ge2_0 X_3 hlo hB) _ _ (SL.mod ge2_1 X_3 hlo hB) _ _ (SL.mod ge2_2 X_3 hlo hB) _ _ _ ge3_0 S_7 (Sep.ge (L := [boxO be2 [ue2_0, ue2_1, ue2_2], boxO be3 [ue3_0]]) S_8 hlo hB) _ hx4) rfl rfl ⟨rfl, rfl, trivial⟩ Try.func127 rfl rfl) ?_
   rintro _ hp11 ⟨v3, rfl, fv3, MT_3, T_3⟩
   have S_9 : Sep [some be0, some be1, some be2, some be3] h0.size hp10 ([boxO be2 [ue2_0, ue2_1, ue2_2], boxO be3 [ue3_0]] ++ [boxO be0 [(.int .i64 ae0_0), (.int .i64 ae0_1), (.bool ae0_2), ue0_3, ue0_4], boxO be1 [(.func (.func 127) #[] (List.toArray (α := Value) [(.pointer (some ⟨be2, 0, none⟩)), (.pointer (some ⟨be3, 0, none⟩))]))]]) := Sep.sel S_6 [2, 3, 0, 1] (by decide)
   obtain ⟨X_4, S_10⟩ := Sep.turn X_3 S_9 MT_3 T_3
   refine RL.nil ?_
   have ey2 := Option.some.inj hy2
   subst ey2
   refine onlyN ?_
   exact ⟨v3, ⟨rfl, rfl, rfl, rfl, rfl, rfl, trivial⟩, fv3, X_4, (Sep.sel S_10 [2, 3, 0, 1] (by decide))⟩
  ·rw [if_neg c2] at hy2
   have c2 := eq_false_of_ne_true c2
   refine W.condF rfl c2 ?_
   refine W.skip ?_
   have ey2 := Option.some.inj hy2
   subst ey2
   refine onlyN ?_
   exact ⟨ue3_0, ⟨rfl, rfl, rfl, rfl, rfl, rfl, trivial⟩, ge3_0, (Mod.refl [some be0, some be1, some be2, some be3] h0), (Sep.sel S0 [0, 1, 2, 3] (by decide))⟩
 rintro φ' hp12 ⟨v1, hs2, fv1, X_5, S_11⟩
 have er := Option.some.inj hp
 subst er
 exact Rt.none' rfl ⟨v1, rfl, fv1, X_5, (Sep.sel S_11 [0, 1, 2, 3] (by decide))⟩

set_option maxRecDepth 20000 in
theorem impl_Sheet_each__impl_RayleighOf_4_ok (h0 : Heap) (lo : Nat) (hlo : lo ≤ h0.size) (a0_0 : Int) (a0_1 : Int) (a0_2 : Bool) (u0_3 : Value) (a0_3 : List (Option Nat)) (g0_3 : SL (kF .f32) lo h0 u0_3 a0_3) (u0_4 : Value) (a0_4 : List (Option Nat)) (g0_4 : SL (kF .f32) lo h0 u0_4 a0_4) (be0 : Nat) (ae0_0 : Int) (ae0_1 : Int) (ae0_2 : Bool) (ue0_3 : Value) (ae0_3 : List (Option Nat)) (ge0_3 : SL (kF .f32) lo h0 ue0_3 ae0_3) (ue0_4 : Value) (ae0_4 : List (Option Nat)) (ge0_4 : SL (kF .f32) lo h0 ue0_4 ae0_4) (be1 : Nat) (be2 : Nat) (ue2_0 : Value) (ae2_0 : List (Option Nat)) (ge2_0 : SL (kF .f32) lo h0 ue2_0 ae2_0) (ue2_1 : Value) (ae2_1 : List (Option Nat)) (ge2_1 : SL (kF .f32) lo h0 ue2_1 ae2_1) (ue2_2 : Value) (ae2_2 : List (Option Nat)) (ge2_2 : SL (kF .f32) lo h0 ue2_2 ae2_2) (be3 : Nat) (ue3_0 : Value) (ae3_0 : Option Nat) (ge3_0 : IsF .f64 ue3_0 ae3_0) (S0 : Sep [some be0, some be1, some be2, some be3] h0.size h0 [boxO be0 [(.int .i64 ae0_0), (.int .i64 ae0_1), (.bool ae0_2), ue0_3, ue0_4], boxO be1 [(.func (.func 127) #[] (List.toArray (α := Value) [(.pointer (some ⟨be2, 0, none⟩)), (.pointer (some ⟨be3, 0, none⟩))]))], boxO be2 [ue2_0, ue2_1, ue2_2], boxO be3 [ue3_0]]) (hB : ∀ b, some b ∈ [some be0, some be1, some be2, some be3] → lo ≤ b) (r : (Int × Int × Bool × (Option Nat))) (hp : impl_Sheet_each__impl_RayleighOf_4 a0_0 a0_1 a0_2 a0_3 a0_4 ae0_0 ae0_1 ae0_2 ae0_3 ae0_4 ae2_0 ae2_1 ae2_2 ae3_0 = some r) : CallsH Try.prog 99 ([(.agg (List.toArray (α := Value) [(.int .i64 a0_0), (.int .i64 a0_1), (.bool a0_2), u0_3, u0_4])), (.func (.func 129) #[] (List.toArray (α := Value) [(.pointer (some ⟨be0, 0, none⟩)), (.pointer (some ⟨be1, 0, none⟩))]))].toArray ++ [].toArray) h0 (fun v h' => ∃ w3, v = (.tuple (List.toArray (α := Value) [])) ∧ IsF .f64 w3 r.2.2.2 ∧ Mod [some be0, some be1, some be2, some be3] h0 h' ∧ Sep [some be0, some be1, some be2, some be3] h0.size h' [boxO be0 [(.int .i64 r.1), (.int .i64 r.2.1), (.bool r.2.2.1), ue0_3, ue0_4], boxO be1 [(.func (.func 127) #[] (List.toArray (α := Value) [(.pointer (some ⟨be2, 0, none⟩)), (.pointer (some ⟨be3, 0, none⟩))]))], boxO be2 [ue2_0, ue2_1, ue2_2], boxO be3 [w3]]) := by
 unfold impl_Sheet_each__impl_RayleighOf_4 at hp
 refine callsH_of_W (l := [(.agg (List.toArray (α := Value) [(.int .i64 a0_0), (.int .i64 a0_1), (.bool a0_2), u0_3, u0_4])), (.func (.func 129) #[] (List.toArray (α := Value) [(.pointer (some ⟨be0, 0, none⟩)), (.pointer (some ⟨be1, 0, none⟩))]))]) (cap := []) 26 Try.func99 rfl rfl rfl ?_
 refine W.seq ?_
 refine W.region ?_
 refine RL.op _ (by decide) (opS_boxed (opv_boxA (cs := [(.int .i64 a0_0), (.int .i64 a0_1), (.bool a0_2), u0_3, u0_4]) rfl rfl)) ?_
 rintro _ hp1 ⟨bb1, rfl, MT_1, T_1⟩
 obtain ⟨X_1, S_1⟩ := Sep.turn0 (Mod.refl [some be0, some be1, some be2, some be3] h0) S0 MT_1 T_1
 refine RL.nil ?_
 refine thnN ?_
 refine W.seq ?_
 refine W.region ?_
 refine RL.opD (by decide) (opv_fieldAddr rfl Try.fo29_1 rfl) ?_
 refine RL.opD (by decide) (opv_loadB rfl Try.one2 rfl (Sep.at (o := boxO bb1 [(.int .i64 a0_0), (.int .i64 a0_1), (.bool a0_2), u0_3, u0_4]) S_1 0 rfl) rfl) ?_
 refine RL.opD (by decide) (opv_move rfl rfl) ?_
 refine RL.nil ?_
 refine thnN ?_
 obtain ⟨y1, hy1, hp⟩ := Option.bind_eq_some_iff.1 hp
 refine W.cut (fun φ' h' => ∃ x6, ∃ x7, ∃ x8, ∃ x9, ∃ x10, ∃ x11, ∃ v2, y1 = (x6, x7, x8, x9, x10, x11) ∧ Fr.sub [(0, (.agg (List.toArray (α := Value) [(.int .i64 a0_0), (.int .i64 a0_1), (.bool a0_2), u0_3, u0_4]))), (1, (.func (.func 129) #[] (List.toArray (α := Value) [(.pointer (some ⟨be0, 0, none⟩)), (.pointer (some ⟨be1, 0, none⟩))]))), (2, (.pointer (some ⟨bb1, 0, none⟩))), (7, (.int .i64 a0_1)), (8, (.int .i64 x6)), (9, (.bool x7))] φ' ∧ IsF .f64 v2 x11 ∧ Mod [some be0, some be1, some be2, some be3] h0 h' ∧ Sep [some be0, some be1, some be2, some be3] h0.size h' [boxO bb1 [(.int .i64 a0_0), (.int .i64 a0_1), (.bool a0_2), u0_3, u0_4], boxO be0 [(.int .i64 x8), (.int .i64 x9), (.bool x10), ue0_3, ue0_4], boxO be1 [(.func (.func 127) #[] (List.toArray (α := Value) [(.pointer (some ⟨be2, 0, none⟩)), (.pointer (some ⟨be3, 0, none⟩))]))], boxO be2 [ue2_0, ue2_1, ue2_2], boxO be3 [v2]]) ?_ ?_
 ·refine W.block ?_
  refine W.loopS (fun (s : (Int × Int × Int × Bool × (Option Nat))) φ' h' => ∃ v1, Fr.sub [(0, (.agg (List.toArray (α := Value) [(.int .i64 a0_0), (.int .i64 a0_1), (.bool a0_2), u0_3, u0_4]))), (1, (.func (.func 129) #[] (List.toArray (α := Value) [(.pointer (some ⟨be0, 0, none⟩)), (.pointer (some ⟨be1, 0, none⟩))]))), (2, (.pointer (some ⟨bb1, 0, none⟩))), (7, (.int .i64 a0_1)), (8, (.int .i64 s.1))] φ' ∧ IsF .f64 v1 s.2.2.2.2 ∧ Mod [some be0, some be1, some be2, some be3] h0 h' ∧ Sep [some be0, some be1, some be2, some be3] h0.size h' [boxO bb1 [(.int .i64 a0_0), (.int .i64 a0_1), (.bool a0_2), u0_3, u0_4], boxO be0 [(.int .i64 s.2.1), (.int .i64 s.2.2.1), (.bool s.2.2.2.1), ue0_3, ue0_4], boxO be1 [(.func (.func 127) #[] (List.toArray (α := Value) [(.pointer (some ⟨be2, 0, none⟩)), (.pointer (some ⟨be3, 0, none⟩))]))], boxO be2 [ue2_0, ue2_1, ue2_2], boxO be3 [v1]]) hy1 ⟨ue3_0, ⟨rfl, rfl, rfl, rfl, rfl, trivial⟩, ge3_0, X_1, (Sep.sel S_1 [0, 1, 2, 3, 4] (by decide))⟩ ?_
  rintro ⟨x1, x2, x3, x4, x5⟩ φ' hp2 o1 ⟨v1, hs1, fv1, X_2, S_2⟩ ho1 hy1
  have hs1 : Fr.sub [(0, (.agg (List.toArray (α := Value) [(.int .i64 a0_0), (.int .i64 a0_1), (.bool a0_2), u0_3, u0_4]))), (1, (.func (.func 129) #[] (List.toArray (α := Value) [(.pointer (some ⟨be0, 0, none⟩)), (.pointer (some ⟨be1, 0, none⟩))]))), (2, (.pointer (some ⟨bb1, 0, none⟩))), (7, (.int .i64 a0_1)), (8, (.int .i64 x1))] φ' := hs1
  have fv1 : IsF .f64 v1 x5 := fv1
  have S_2 : Sep [some be0, some be1, some be2, some be3] h0.size hp2 [boxO bb1 [(.int .i64 a0_0), (.int .i64 a0_1), (.bool a0_2), u0_3, u0_4], boxO be0 [(.int .i64 x2), (.int .i64 x3), (.bool x4), ue0_3, ue0_4], boxO be1 [(.func (.func 127) #[] (List.toArray (α := Value) [(.pointer (some ⟨be2, 0, none⟩)), (.pointer (some ⟨be3, 0, none⟩))]))], boxO be2 [ue2_0, ue2_1, ue2_2], boxO be3 [v1]] := S_2
  have ho1 : impl_Sheet_each__impl_RayleighOf_4.s0 a0_0 a0_1 a0_2 a0_3 a0_4 ae0_3 ae0_4 ae2_0 ae2_1 ae2_2 x1 x2 x3 x4 x5 = some o1 := ho1
  unfold impl_Sheet_each__impl_RayleighOf_4.s0 at ho1
  refine W.sub hs1 ?_
  refine W.seq ?_
  refine W.region ?_
  refine RL.opD (by decide) (opv_icmp rfl rfl rfl rfl) ?_
  refine RL.nil ?_
  refine thnN ?_
  refine W.seq ?_
  by_cases c1 : (decide (x1 < a0_1)) = true
  ·rw [if_pos c1] at ho1
   refine W.condT rfl c1 ?_
   refine W.skip ?_
   refine thnN ?_
   refine W.seq ?_
   refine W.block ?_
   refine W.seq ?_
   refine W.region ?_
   refine RL.opD (by decide) (opv_move rfl rfl) ?_
   refine RL.opD (by decide) (opv_assign rfl rfl) ?_
   refine RL.nil ?_
   refine thnN ?_
   refine W.seq ?_
   refine W.region ?_
   refine RL.opD (by decide) (opv_fieldAddr rfl Try.fo29_0 rfl) ?_
   refine RL.opD (by decide) (opv_loadB rfl Try.one2 rfl (Sep.at (o := boxO bb1 [(.int .i64 a0_0), (.int .i64 a0_1), (.bool a0_2), u0_3, u0_4]) S_2 0 rfl) rfl) ?_
   refine RL.opD (by decide) (opv_move rfl rfl) ?_
   refine RL.nil ?_
   refine thnN ?_
   obtain ⟨y2, hy2, ho1⟩ := Option.bind_eq_some_iff.1 ho1
   refine W.cut (fun φ' h' => ∃ x17, ∃ x18, ∃ x19, ∃ x20, ∃ x21, ∃ x22, ∃ v4, y2 = (x17, x18, x19, x20, x21, x22) ∧ Fr.sub [(0, (.agg (List.toArray (α := Value) [(.int .i64 a0_0), (.int .i64 a0_1), (.bool a0_2), u0_3, u0_4]))), (1, (.func (.func 129) #[] (List.toArray (α := Value) [(.pointer (some ⟨be0, 0, none⟩)), (.pointer (some ⟨be1, 0, none⟩))]))), (2, (.pointer (some ⟨bb1, 0, none⟩))), (7, (.int .i64 a0_1)), (8, (.int .i64 x1)), (9, (.bool (decide (x1 < a0_1)))), (4, (.int .i64 x1)), (12, (.int .i64 a0_0)), (13, (.int .i64 x17)), (14, (.bool x18))] φ' ∧ IsF .f64 v4 x22 ∧ Mod [some be0, some be1, some be2, some be3] h0 h' ∧ Sep [some be0, some be1, some be2, some be3] h0.size h' [boxO bb1 [(.int .i64 a0_0), (.int .i64 a0_1), (.bool a0_2), u0_3, u0_4], boxO be0 [(.int .i64 x19), (.int .i64 x20), (.bool x21), ue0_3, ue0_4], boxO be1 [(.func (.func 127) #[] (List.toArray (α := Value) [(.pointer (some ⟨be2, 0, none⟩)), (.pointer (some ⟨be3, 0, none⟩))]))], boxO be2 [ue2_0, ue2_1, ue2_2], boxO be3 [v4]]) ?_ ?_
   ·refine W.block ?_
    refine W.loopS (fun (s : (Int × Int × Int × Bool × (Option Nat))) φ' h' => ∃ v3, Fr.sub [(0, (.agg (List.toArray (α := Value) [(.int .i64 a0_0), (.int .i64 a0_1), (.bool a0_2), u0_3, u0_4]))), (1, (.func (.func 129) #[] (List.toArray (α := Value) [(.pointer (some ⟨be0, 0, none⟩)), (.pointer (some ⟨be1, 0, none⟩))]))), (2, (.pointer (some ⟨bb1, 0, none⟩))), (7, (.int .i64 a0_1)), (8, (.int .i64 x1)), (9, (.bool (decide (x1 < a0_1)))), (4, (.int .i64 x1)), (12, (.int .i64 a0_0)), (13, (.int .i64 s.1))] φ' ∧ IsF .f64 v3 s.2.2.2.2 ∧ Mod [some be0, some be1, some be2, some be3] h0 h' ∧ Sep [some be0, some be1, some be2, some be3] h0.size h' [boxO bb1 [(.int .i64 a0_0), (.int .i64 a0_1), (.bool a0_2), u0_3, u0_4], boxO be0 [(.int .i64 s.2.1), (.int .i64 s.2.2.1), (.bool s.2.2.2.1), ue0_3, ue0_4], boxO be1 [(.func (.func 127) #[] (List.toArray (α := Value) [(.pointer (some ⟨be2, 0, none⟩)), (.pointer (some ⟨be3, 0, none⟩))]))], boxO be2 [ue2_0, ue2_1, ue2_2], boxO be3 [v3]]) hy2 ⟨v1, ⟨rfl, rfl, rfl, rfl, rfl, rfl, rfl, rfl, rfl, trivial⟩, fv1, X_2, (Sep.sel S_2 [0, 1, 2, 3, 4] (by decide))⟩ ?_
    rintro ⟨x12, x13, x14, x15, x16⟩ φ' hp3 o2 ⟨v3, hs3, fv3, X_3, S_3⟩ ho2 hy2
    have hs3 : Fr.sub [(0, (.agg (List.toArray (α := Value) [(.int .i64 a0_0), (.int .i64 a0_1), (.bool a0_2), u0_3, u0_4]))), (1, (.func (.func 129) #[] (List.toArray (α := Value) [(.pointer (some ⟨be0, 0, none⟩)), (.pointer (some ⟨be1, 0, none⟩))]))), (2, (.pointer (some ⟨bb1, 0, none⟩))), (7, (.int .i64 a0_1)), (8, (.int .i64 x1)), (9, (.bool (decide (x1 < a0_1)))), (4, (.int .i64 x1)), (12, (.int .i64 a0_0)), (13, (.int .i64 x12))] φ' := hs3
    have fv3 : IsF .f64 v3 x16 := fv3
    have S_3 : Sep [some be0, some be1, some be2, some be3] h0.size hp3 [boxO bb1 [(.int .i64 a0_0), (.int .i64 a0_1), (.bool a0_2), u0_3, u0_4], boxO be0 [(.int .i64 x13), (.int .i64 x14), (.bool x15), ue0_3, ue0_4], boxO be1 [(.func (.func 127) #[] (List.toArray (α := Value) [(.pointer (some ⟨be2, 0, none⟩)), (.pointer (some ⟨be3, 0, none⟩))]))], boxO be2 [ue2_0, ue2_1, ue2_2], boxO be3 [v3]] := S_3
    have ho2 : impl_Sheet_each__impl_RayleighOf_4.s1 a0_0 a0_1 a0_2 a0_3 a0_4 ae0_3 ae0_4 ae2_0 ae2_1 ae2_2 x1 x12 x13 x14 x15 x16 = some o2 := ho2
    unfold impl_Sheet_each__impl_RayleighOf_4.s1 at ho2
    refine W.sub hs3 ?_
    refine W.seq ?_
    refine W.region ?_
    refine RL.opD (by decide) (opv_icmp rfl rfl rfl rfl) ?_
    refine RL.nil ?_
    refine thnN ?_
    refine W.seq ?_
    by_cases c2 : (decide (x12 < a0_0)) = true
    ·rw [if_pos c2] at ho2
     refine W.condT rfl c2 ?_
     refine W.skip ?_
     refine thnN ?_
     refine W.seq ?_
     refine W.block ?_
     refine W.seq ?_
     refine W.region ?_
     refine RL.opD (by decide) (opv_move rfl rfl) ?_
     refine RL.opD (by decide) (opv_assign rfl rfl) ?_
     refine RL.nil ?_
     refine thnN ?_
     refine W.region ?_
     refine RL.opD (by decide) (opv_move rfl rfl) ?_
     refine RL.opD (by decide) (opv_move rfl rfl) ?_
     refine RL.opD (by decide) (opv_move rfl rfl) ?_
     refine RL.opD (by decide) (opv_loadA (us := [(.int .i64 a0_0), (.int .i64 a0_1), (.bool a0_2), u0_3, u0_4]) rfl Try.agg29 Try.size29 rfl (Sep.at (o := boxO bb1 [(.int .i64 a0_0), (.int .i64 a0_1), (.bool a0_2), u0_3, u0_4]) S_3 0 rfl) rfl rfl) ?_
     refine RL.opD (by decide) (opv_move rfl rfl) ?_
     refine RL.opD (by decide) (opv_move rfl rfl) ?_
     obtain ⟨x23, hx23, ho2⟩ := Option.bind_eq_some_iff.1 ho2
     refine RL.op _ (by decide) (opv_call (cap := []) (impl_Sheet_at_ok _ _ _ _ _ _ (SL.up (SL.mod g0_3 X_3 hlo hB) (Nat.le_trans hlo (Mod.size X_3))) _ _ (SL.up (SL.mod g0_4 X_3 hlo hB) (Nat.le_trans hlo (Mod.size X_3))) _ _ _ hx23) rfl rfl ⟨rfl, rfl, rfl, trivial⟩ Try.func92 rfl rfl) ?_
     rintro _ hp4 ⟨rfl, MT_2, T_2⟩
     obtain ⟨X_4, S_4⟩ := Sep.turn0 X_3 S_3 MT_2 T_2
     obtain ⟨x24, hx24, ho2⟩ := Option.bind_eq_some_iff.1 ho2
     have S_6 : Sep [some be0, some be1, some be2, some be3] h0.size hp4 [boxO be0 [(.int .i64 x13), (.int .i64 x14), (.bool x15), ue0_3, ue0_4], boxO be1 [(.func (.func 127) #[] (List.toArray (α := Value) [(.pointer (some ⟨be2, 0, none⟩)), (.pointer (some ⟨be3, 0, none⟩))]))], boxO be2 [ue2_0, ue2_1, ue2_2], boxO be3 [v3]] := Sep.sel S_4 [1, 2, 3, 4] (by decide)
     have S_5 : Sep [some be0, some be1, some be2, some be3] hp4.size hp4 [boxO be0 [(.int .i64 x13), (.int .i64 x14), (.bool x15), ue0_3, ue0_4], boxO be1 [(.func (.func 127) #[] (List.toArray (α := Value) [(.pointer (some ⟨be2, 0, none⟩)), (.pointer (some ⟨be3, 0, none⟩))]))], boxO be2 [ue2_0, ue2_1, ue2_2], boxO be3 [v3]] := Sep.own S_6 _
     refine RL.op _ (by decide) (opv_call (cap := [(.pointer (some ⟨be0, 0, none⟩)), (.pointer (some ⟨be1, 0, none⟩))]) (impl_RayleighOf_4_ok _ lo (Nat.le_trans hlo (Mod.size X_4)) _ _ _ _ _ _ _ _ _ (SL.mod ge0_3 X_4 hlo hB) _ _ (SL.mod ge0_4 X_4 hlo hB) _ _ _ _ (SL.mod ge2_0 X_4 hlo hB) _ _ (SL.mod ge2_1 X_4 hlo hB) _ _ (SL.mod ge2_2 X_4 hlo hB) _ _ _ fv3 S_5 (Sep.ge (L := [boxO be0 [(.int .i64 x13), (.int .i64 x14), (.bool x15), ue0_3, ue0_4], boxO be1 [(.func (.func 127) #[] (List.toArray (α := Value) [(.pointer (some ⟨be2, 0, none⟩)), (.pointer (some ⟨be3, 0, none⟩))]))], boxO be2 [ue2_0, ue2_1, ue2_2], boxO be3 [v3]]) S_6 hlo hB) _ hx24) rfl rfl ⟨rfl, rfl, rfl, trivial⟩ Try.func129 rfl rfl) ?_
     rintro _ hp5 ⟨v5, rfl, fv5, MT_3, T_3⟩
     have S_7 : Sep [some be0, some be1, some be2, some be3] h0.size hp4 ([boxO be0 [(.int .i64 x13), (.int .i64 x14), (.bool x15), ue0_3, ue0_4], boxO be1 [(.func (.func 127) #[] (List.toArray (α := Value) [(.pointer (some ⟨be2, 0, none⟩)), (.pointer (some ⟨be3, 0, none⟩))]))], boxO be2 [ue2_0, ue2_1, ue2_2], boxO be3 [v3]] ++ [boxO bb1 [(.int .i64 a0_0), (.int .i64 a0_1), (.bool a0_2), u0_3, u0_4]]) := Sep.sel S_4 [1, 2, 3, 4, 0] (by decide)
     obtain ⟨X_5, S_8⟩ := Sep.turn X_4 S_7 MT_3 T_3
     refine RL.nil ?_
     refine blkN ?_
     refine thnN ?_
     refine W.region ?_
     refine RL.opD (by decide) (opv_add rfl rfl rfl) ?_
     refine RL.opD (by decide) (opv_move rfl rfl) ?_
     refine RL.nil ?_
     have eo2 := Option.some.inj ho2
     subst eo2
     refine rndN (s' := (IntKind.wrap .i64 (x12 + 1), x24.1, x24.2.1, x24.2.2.1, x24.2.2.2)) rfl ?_
     exact ⟨v5, ⟨rfl, rfl, rfl, rfl, rfl, rfl, rfl, rfl, rfl, trivial⟩, fv5, X_5, (Sep.sel S_8 [4, 0, 1, 2, 3] (by decide))⟩
    ·rw [if_neg c2] at ho2
     have c2 := eq_false_of_ne_true c2
     refine W.condF rfl c2 ?_
     refine W.exit ?_
     refine thnX ?_
     refine rndX ?_
     refine blkI ?_
     have eo2 := Option.some.inj ho2
     subst eo2
     have ey2 := hy2 _ rfl
     subst ey2
     refine onlyN ?_
     exact ⟨x12, decide (x12 < a0_0), x13, x14, x15, x16, v3, rfl, ⟨rfl, rfl, rfl, rfl, rfl, rfl, rfl, rfl, rfl, rfl, trivial⟩, fv3, X_3, (Sep.sel S_3 [0, 1, 2, 3, 4] (by decide))⟩
   rintro φ' hp6 ⟨x17, x18, x19, x20, x21, x22, v4, rfl, hs4, fv4, X_6, S_9⟩
   try dsimp only at ho1
   refine blkN ?_
   refine thnN ?_
   refine W.sub hs4 ?_
   refine W.region ?_
   refine RL.opD (by decide) (opv_add rfl rfl rfl) ?_
   refine RL.opD (by decide) (opv_move rfl rfl) ?_
   refine RL.nil ?_
   have eo1 := Option.some.inj ho1
   subst eo1
   refine rndN (s' := (IntKind.wrap .i64 (x1 + 1), x19, x20, x21, x22)) rfl ?_
   exact ⟨v4, ⟨rfl, rfl, rfl, rfl, rfl, trivial⟩, fv4, X_6, (Sep.sel S_9 [0, 1, 2, 3, 4] (by decide))⟩
  ·rw [if_neg c1] at ho1
   have c1 := eq_false_of_ne_true c1
   refine W.condF rfl c1 ?_
   refine W.exit ?_
   refine thnX ?_
   refine rndX ?_
   refine blkI ?_
   have eo1 := Option.some.inj ho1
   subst eo1
   have ey1 := hy1 _ rfl
   subst ey1
   refine onlyN ?_
   exact ⟨x1, decide (x1 < a0_1), x2, x3, x4, x5, v1, rfl, ⟨rfl, rfl, rfl, rfl, rfl, rfl, trivial⟩, fv1, X_2, (Sep.sel S_2 [0, 1, 2, 3, 4] (by decide))⟩
 rintro φ' hp7 ⟨x6, x7, x8, x9, x10, x11, v2, rfl, hs2, fv2, X_7, S_10⟩
 try dsimp only at hp
 have er := Option.some.inj hp
 subst er
 exact Rt.none' rfl ⟨v2, rfl, fv2, X_7, (Sep.sel S_10 [1, 2, 3, 4] (by decide))⟩

set_option maxRecDepth 20000 in
theorem impl_RayleighOf_ok (h0 : Heap) (a0_0 : Int) (a0_1 : Int) (a0_2 : Bool) (u0_3 : Value) (a0_3 : List (Option Nat)) (g0_3 : SL (kF .f32) h0.size h0 u0_3 a0_3) (u0_4 : Value) (a0_4 : List (Option Nat)) (g0_4 : SL (kF .f32) h0.size h0 u0_4 a0_4) (u1_0 : Value) (a1_0 : List (Option Nat)) (g1_0 : SL (kF .f32) h0.size h0 u1_0 a1_0) (u1_1 : Value) (a1_1 : List (Option Nat)) (g1_1 : SL (kF .f32) h0.size h0 u1_1 a1_1) (u1_2 : Value) (a1_2 : List (Option Nat)) (g1_2 : SL (kF .f32) h0.size h0 u1_2 a1_2) (r : ((Option Nat) × Bool)) (hp : impl_RayleighOf a0_0 a0_1 a0_2 a0_3 a0_4 a1_0 a1_1 a1_2 = some r) : CallsH Try.prog 68 ([(.agg (List.toArray (α := Value) [(.int .i64 a0_0), (.int .i64 a0_1), (.bool a0_2), u0_3, u0_4])), (.agg (List.toArray (α := Value) [u1_0, u1_1, u1_2]))].toArray ++ [].toArray) h0 (fun v h' => ∃ w0, v = (.tuple (List.toArray (α := Value) [w0, (.bool r.2)])) ∧ IsF .f32 w0 r.1 ∧ Mod [] h0 h' ∧ Sep [] h0.size h' []) := by
 unfold impl_RayleighOf at hp
 refine callsH_of_W (l := [(.agg (List.toArray (α := Value) [(.int .i64 a0_0), (.int .i64 a0_1), (.bool a0_2), u0_3, u0_4])), (.agg (List.toArray (α := Value) [u1_0, u1_1, u1_2]))]) (cap := []) 55 Try.func68 rfl rfl rfl ?_
 refine W.seq ?_
 refine W.region ?_
 refine RL.op _ (by decide) (opS_boxed (opv_boxA (cs := [(.int .i64 a0_0), (.int .i64 a0_1), (.bool a0_2), u0_3, u0_4]) rfl rfl)) ?_
 rintro _ hp1 ⟨bb1, rfl, MT_1, T_1⟩
 obtain ⟨X_1, S_1⟩ := Sep.turn0 (Mod.refl [] h0) (Sep.nil [] h0.size h0) MT_1 T_1
 refine RL.op _ (by decide) (opS_boxed (opv_boxA (cs := [u1_0, u1_1, u1_2]) rfl rfl)) ?_
 rintro _ hp2 ⟨bb2, rfl, MT_2, T_2⟩
 obtain ⟨X_2, S_2⟩ := Sep.turn0 X_1 S_1 MT_2 T_2
 refine RL.opD (by decide) (opv_assign rfl rfl) ?_
 refine RL.opD (by decide) (opv_assign rfl rfl) ?_
 refine RL.nil ?_
 refine thnN ?_
 refine W.seq ?_
 refine W.seq ?_
 obtain ⟨x1, hy1, hp⟩ := Option.bind_eq_some_iff.1 hp
 refine W.cut (fun φ' h' => Fr.sub [(0, (.agg (List.toArray (α := Value) [(.int .i64 a0_0), (.int .i64 a0_1), (.bool a0_2), u0_3, u0_4]))), (1, (.agg (List.toArray (α := Value) [u1_0, u1_1, u1_2]))), (2, (.pointer (some ⟨bb1, 0, none⟩))), (3, (.pointer (some ⟨bb2, 0, none⟩))), (4, (.float .f32 0)), (5, (.bool false)), (19, (.bool x1))] φ' ∧ Mod [] h0 h' ∧ Sep [] h0.size h' [boxO bb2 [u1_0, u1_1, u1_2], boxO bb1 [(.int .i64 a0_0), (.int .i64 a0_1), (.bool a0_2), u0_3, u0_4]]) ?_ ?_
 ·refine W.region ?_
  refine RL.opD (by decide) (opv_loadA (us := [(.int .i64 a0_0), (.int .i64 a0_1), (.bool a0_2), u0_3, u0_4]) rfl Try.agg29 Try.size29 rfl (Sep.at (o := boxO bb1 [(.int .i64 a0_0), (.int .i64 a0_1), (.bool a0_2), u0_3, u0_4]) S_2 1 rfl) rfl rfl) ?_
  refine RL.opD (by decide) (opv_loadA (us := [u1_0, u1_1, u1_2]) rfl Try.agg53 Try.size53 rfl (Sep.at (o := boxO bb2 [u1_0, u1_1, u1_2]) S_2 0 rfl) rfl rfl) ?_
  obtain ⟨x2, hx2, hy1⟩ := Option.bind_eq_some_iff.1 hy1
  refine RL.op _ (by decide) (opv_call (cap := []) (impl_IsField_ok _ _ _ _ _ _ (SL.up (SL.mod g0_3 X_2 (Nat.le_refl _) nob) (Nat.le_trans (Nat.le_refl _) (Mod.size X_2))) _ _ (SL.up (SL.mod g0_4 X_2 (Nat.le_refl _) nob) (Nat.le_trans (Nat.le_refl _) (Mod.size X_2))) _ _ (SL.up (SL.mod g1_0 X_2 (Nat.le_refl _) nob) (Nat.le_trans (Nat.le_refl _) (Mod.size X_2))) _ _ (SL.up (SL.mod g1_1 X_2 (Nat.le_refl _) nob) (Nat.le_trans (Nat.le_refl _) (Mod.size X_2))) _ _ (SL.up (SL.mod g1_2 X_2 (Nat.le_refl _) nob) (Nat.le_trans (Nat.le_refl _) (Mod.size X_2))) _ hx2) rfl rfl ⟨rfl, rfl, trivial⟩ Try.func91 rfl rfl) ?_
  rintro _ hp3 ⟨rfl, MT_3, T_3⟩
  obtain ⟨X_3, S_3⟩ := Sep.turn0 X_2 S_2 MT_3 T_3
  refine RL.opD (by decide) (opv_not rfl rfl) ?_
  refine RL.opD (by decide) (opv_move rfl rfl) ?_
  by_cases c1 : (!x2) = true
  ·rw [if_pos c1] at hy1
   refine RL.noT rfl rfl c1 (by decide) ?_
   refine RL.noT rfl rfl c1 (by decide) ?_
   refine RL.noT rfl rfl c1 (by decide) ?_
   refine RL.opD (by decide) (opv_pick rfl rfl (fun _ => rfl) (fun e => absurd (Eq.trans (Eq.symm e) c1) (by decide)) rfl) ?_
   refine RL.nil ?_
   have ey1 := Option.some.inj hy1
   subst ey1
   refine onlyN ?_
   exact ⟨⟨rfl, rfl, rfl, rfl, rfl, rfl, rfl, trivial⟩, X_3, (Sep.sel S_3 [0, 1] (by decide))⟩
  ·rw [if_neg c1] at hy1
   have c1 := eq_false_of_ne_true c1
   refine RL.yesD rfl rfl c1 (by decide) (opv_fieldAddr rfl Try.fo29_3 rfl) ?_
   refine RL.yesD rfl rfl c1 (by decide) (opv_loadB rfl Try.one22 rfl (Sep.at (o := boxO bb1 [(.int .i64 a0_0), (.int .i64 a0_1), (.bool a0_2), u0_3, u0_4]) S_3 1 rfl) rfl) ?_
   obtain ⟨x3, hx3, hy1⟩ := Option.bind_eq_some_iff.1 hy1
   refine RL.yes _ rfl rfl c1 (by decide) (opv_call (cap := []) (slices_ContainsFunc_float32_float32__impl_RayleighOf_1_ok _ _ _ (SL.up (SL.mod g0_3 X_3 (Nat.le_refl _) nob) (Nat.le_trans (Nat.le_refl _) (Mod.size X_3))) _ hx3) rfl rfl ⟨rfl, rfl, trivial⟩ Try.func125 rfl rfl) ?_
   rintro _ _ ⟨rfl, rfl⟩
   refine RL.opD (by decide) (opv_pick rfl rfl (fun e => absurd (Eq.trans (Eq.symm e) c1) (by decide)) (fun _ => rfl) rfl) ?_
   refine RL.nil ?_
   have ey1 := Option.some.inj hy1
   subst ey1
   refine onlyN ?_
   exact ⟨⟨rfl, rfl, rfl, rfl, rfl, rfl, rfl, trivial⟩, X_3, (Sep.sel S_3 [0, 1] (by decide))⟩
 rintro φ' hp4 ⟨hs1, X_4, S_4⟩
 refine thnN ?_
 refine W.sub hs1 ?_
 by_cases c2 : x1 = true
 ·rw [if_pos c2] at hp
  refine W.condT rfl c2 ?_
  refine W.seq ?_
  refine W.region ?_
  refine RL.opD (by decide) (opv_assign rfl rfl) ?_
  refine RL.opD (by decide) (opv_assign rfl rfl) ?_
  refine RL.nil ?_
  refine thnN ?_
  refine W.ret ?_
  refine thnR ?_
  have er := Option.some.inj hp
  subst er
  exact Rt.two rfl rfl rfl ⟨(.float .f32 0), rfl, (isF_lit .f32 0 (by decide) (by decide)), X_4, (Sep.nil _ _ _)⟩
 ·rw [if_neg c2] at hp
  have c2 := eq_false_of_ne_true c2
  refine W.condF rfl c2 ?_
  refine W.skip ?_
  refine thnN ?_
  refine W.seq ?_
  refine W.region ?_
  refine RL.op _ (by decide) (opS_boxed (opv_alloc (cs := [(.float .f64 0)]) rfl Try.zero56 rfl)) ?_
  rintro _ hp5 ⟨bb3, rfl, MT_4, T_4⟩
  obtain ⟨X_5, S_5⟩ := Sep.turn0 X_4 S_4 MT_4 T_4
  refine RL.op0 _ (opS_stored (cs := [(.float .f64 0)]) (cs' := [(.float .f64 0)]) (opv_storeB (k := 0) (cs := [(.float .f64 0)]) rfl Try.size56 rfl rfl (IsF.one (isF_lit .f64 0 (by decide) (by decide))) (Sep.at (o := boxO bb3 [(.float .f64 0)]) S_5 0 rfl) (Nat.le_of_ble_eq_true rfl)) (Sep.at (o := boxO bb3 [(.float .f64 0)]) S_5 0 rfl)) ?_
  rintro _ hp6 ⟨rfl, MT_5, T_5⟩
  have S_6 : Sep [] h0.size hp5 ([boxO bb3 [(.float .f64 0)]] ++ [boxO bb2 [u1_0, u1_1, u1_2], boxO bb1 [(.int .i64 a0_0), (.int .i64 a0_1), (.bool a0_2), u0_3, u0_4]]) := Sep.sel S_5 [0, 1, 2] (by decide)
  obtain ⟨X_6, S_7⟩ := Sep.turn X_5 S_6 MT_5 T_5
  refine RL.opD (by decide) (opv_assign rfl rfl) ?_
  refine RL.nil ?_
  refine thnN ?_
  refine W.seq ?_
  refine W.region ?_
  refine RL.opD (by decide) (opv_makeFunc (vs := [(.pointer (some ⟨bb2, 0, none⟩)), (.pointer (some ⟨bb3, 0, none⟩))]) rfl ⟨rfl, rfl, trivial⟩) ?_
  refine RL.op _ (by decide) (opS_boxed (opv_alloc (cs := [.nilFunc]) rfl Try.zero138 rfl)) ?_
  rintro _ hp7 ⟨bb4, rfl, MT_6, T_6⟩
  obtain ⟨X_7, S_8⟩ := Sep.turn0 X_6 S_7 MT_6 T_6
  refine RL.op0 _ (opS_stored (cs := [.nilFunc]) (cs' := [(.func (.func 127) #[] (List.toArray (α := Value) [(.pointer (some ⟨bb2, 0, none⟩)), (.pointer (some ⟨bb3, 0, none⟩))]))]) (opv_storeB (k := 0) (cs := [.nilFunc]) rfl Try.size138 rfl rfl rfl (Sep.at (o := boxO bb4 [.nilFunc]) S_8 0 rfl) (Nat.le_of_ble_eq_true rfl)) (Sep.at (o := boxO bb4 [.nilFunc]) S_8 0 rfl)) ?_
  rintro _ hp8 ⟨rfl, MT_7, T_7⟩
  have S_9 : Sep [] h0.size hp7 ([boxO bb4 [.nilFunc]] ++ [boxO bb3 [(.float .f64 0)], boxO bb2 [u1_0, u1_1, u1_2], boxO bb1 [(.int .i64 a0_0), (.int .i64 a0_1), (.bool a0_2), u0_3, u0_4]]) := Sep.sel S_8 [0, 1, 2, 3] (by decide)
  obtain ⟨X_8, S_10⟩ := Sep.turn X_7 S_9 MT_7 T_7
  refine RL.nil ?_
  refine thnN ?_
  refine W.seq ?_
  refine W.region ?_
  refine RL.opD (by decide) (opv_loadA (us := [(.int .i64 a0_0), (.int .i64 a0_1), (.bool a0_2), u0_3, u0_4]) rfl Try.agg29 Try.size29 rfl (Sep.at (o := boxO bb1 [(.int .i64 a0_0), (.int .i64 a0_1), (.bool a0_2), u0_3, u0_4]) S_10 3 rfl) rfl rfl) ?_
  refine RL.opD (by decide) (opv_makeFunc (vs := [(.pointer (some ⟨bb1, 0, none⟩)), (.pointer (some ⟨bb4, 0, none⟩))]) rfl ⟨rfl, rfl, trivial⟩) ?_
  obtain ⟨x4, hx4, hp⟩ := Option.bind_eq_some_iff.1 hp
  have S_12 : Sep [] h0.size hp8 [boxO bb1 [(.int .i64 a0_0), (.int .i64 a0_1), (.bool a0_2), u0_3, u0_4], boxO bb4 [(.func (.func 127) #[] (List.toArray (α := Value) [(.pointer (some ⟨bb2, 0, none⟩)), (.pointer (some ⟨bb3, 0, none⟩))]))], boxO bb2 [u1_0, u1_1, u1_2], boxO bb3 [(.float .f64 0)]] := Sep.sel S_10 [3, 0, 2, 1] (by decide)
  have S_11 : Sep [some bb1, some bb4, some bb2, some bb3] hp8.size hp8 [boxO bb1 [(.int .i64 a0_0), (.int .i64 a0_1), (.bool a0_2), u0_3, u0_4], boxO bb4 [(.func (.func 127) #[] (List.toArray (α := Value) [(.pointer (some ⟨bb2, 0, none⟩)), (.pointer (some ⟨bb3, 0, none⟩))]))], boxO bb2 [u1_0, u1_1, u1_2], boxO bb3 [(.float .f64 0)]] := Sep.own S_12 _
  refine RL.op _ (by decide) (opv_call (cap := []) (impl_Sheet_each__impl_RayleighOf_3_ok _ h0.size (Nat.le_trans (Nat.le_refl _) (Mod.size X_8)) _ _ _ _ _ (SL.mod g0_3 X_8 (Nat.le_refl _) nob) _ _ (SL.mod g0_4 X_8 (Nat.le_refl _) nob) _ _ _ _ _ _ (SL.mod g0_3 X_8 (Nat.le_refl _) nob) _ _ (SL.mod g0_4 X_8 (Nat.le_refl _) nob) _ _ _ _ (SL.mod g1_0 X_8 (Nat.le_refl _) nob) _ _ (SL.mod g1_1 X_8 (Nat.le_refl _) nob) _ _ (SL.mod g1_2 X_8 (Nat.le_refl _) nob) _ _ _ (isF_lit .f64 0 (by decide) (by decide)) S_11 (Sep.ge (L := [boxO bb1 [(.int .i64 a0_0), (.int .i64 a0_1), (.bool a0_2), u0_3, u0_4], boxO bb4 [(.func (.func 127) #[] (List.toArray (α := Value) [(.pointer (some ⟨bb2, 0, none⟩)), (.pointer (some ⟨bb3, 0, none⟩))]))], boxO bb2 [u1_0, u1_1, u1_2], boxO bb3 [(.float .f64 0)]]) S_12 (Nat.le_refl _) nob) _ hx4) rfl rfl ⟨rfl, rfl, trivial⟩ Try.func99 rfl rfl) ?_
  rintro _ hp9 ⟨v1, rfl, fv1, MT_8, T_8⟩
  have S_13 : Sep [] h0.size hp8 ([boxO bb1 [(.int .i64 a0_0), (.int .i64 a0_1), (.bool a0_2), u0_3, u0_4], boxO bb4 [(.func (.func 127) #[] (List.toArray (α := Value) [(.pointer (some ⟨bb2, 0, none⟩)), (.pointer (some ⟨bb3, 0, none⟩))]))], boxO bb2 [u1_0, u1_1, u1_2], boxO bb3 [(.float .f64 0)]] ++ []) := Sep.sel S_10 [3, 0, 2, 1] (by decide)
  obtain ⟨X_9, S_14⟩ := Sep.turn X_8 S_13 MT_8 T_8
  refine RL.nil ?_
  refine thnN ?_
  refine W.seq ?_
  refine W.region ?_
  refine RL.opD (by decide) (opv_loadA (us := [(.int .i64 x4.1), (.int .i64 x4.2.1), (.bool x4.2.2.1), u0_3, u0_4]) rfl Try.agg29 Try.size29 rfl (Sep.at (o := boxO bb1 [(.int .i64 x4.1), (.int .i64 x4.2.1), (.bool x4.2.2.1), u0_3, u0_4]) S_14 0 rfl) rfl rfl) ?_
  refine RL.opD (by decide) (opv_makeFunc (vs := [(.pointer (some ⟨bb1, 0, none⟩)), (.pointer (some ⟨bb4, 0, none⟩))]) rfl ⟨rfl, rfl, trivial⟩) ?_
  obtain ⟨x5, hx5, hp⟩ := Option.bind_eq_some_iff.1 hp
  have S_16 : Sep [] h0.size hp9 [boxO bb1 [(.int .i64 x4.1), (.int .i64 x4.2.1), (.bool x4.2.2.1), u0_3, u0_4], boxO bb4 [(.func (.func 127) #[] (List.toArray (α := Value) [(.pointer (some ⟨bb2, 0, none⟩)), (.pointer (some ⟨bb3, 0, none⟩))]))], boxO bb2 [u1_0, u1_1, u1_2], boxO bb3 [v1]] := Sep.sel S_14 [0, 1, 2, 3] (by decide)
  have S_15 : Sep [some bb1, some bb4, some bb2, some bb3] hp9.size hp9 [boxO bb1 [(.int .i64 x4.1), (.int .i64 x4.2.1), (.bool x4.2.2.1), u0_3, u0_4], boxO bb4 [(.func (.func 127) #[] (List.toArray (α := Value) [(.pointer (some ⟨bb2, 0, none⟩)), (.pointer (some ⟨bb3, 0, none⟩))]))], boxO bb2 [u1_0, u1_1, u1_2], boxO bb3 [v1]] := Sep.own S_16 _
  refine RL.op _ (by decide) (opv_call (cap := []) (impl_Sheet_each__impl_RayleighOf_4_ok _ h0.size (Nat.le_trans (Nat.le_refl _) (Mod.size X_9)) _ _ _ _ _ (SL.mod g0_3 X_9 (Nat.le_refl _) nob) _ _ (SL.mod g0_4 X_9 (Nat.le_refl _) nob) _ _ _ _ _ _ (SL.mod g0_3 X_9 (Nat.le_refl _) nob) _ _ (SL.mod g0_4 X_9 (Nat.le_refl _) nob) _ _ _ _ (SL.mod g1_0 X_9 (Nat.le_refl _) nob) _ _ (SL.mod g1_1 X_9 (Nat.le_refl _) nob) _ _ (SL.mod g1_2 X_9 (Nat.le_refl _) nob) _ _ _ fv1 S_15 (Sep.ge (L := [boxO bb1 [(.int .i64 x4.1), (.int .i64 x4.2.1), (.bool x4.2.2.1), u0_3, u0_4], boxO bb4 [(.func (.func 127) #[] (List.toArray (α := Value) [(.pointer (some ⟨bb2, 0, none⟩)), (.pointer (some ⟨bb3, 0, none⟩))]))], boxO bb2 [u1_0, u1_1, u1_2], boxO bb3 [v1]]) S_16 (Nat.le_refl _) nob) _ hx5) rfl rfl ⟨rfl, rfl, trivial⟩ Try.func99 rfl rfl) ?_
  rintro _ hp10 ⟨v2, rfl, fv2, MT_9, T_9⟩
  have S_17 : Sep [] h0.size hp9 ([boxO bb1 [(.int .i64 x4.1), (.int .i64 x4.2.1), (.bool x4.2.2.1), u0_3, u0_4], boxO bb4 [(.func (.func 127) #[] (List.toArray (α := Value) [(.pointer (some ⟨bb2, 0, none⟩)), (.pointer (some ⟨bb3, 0, none⟩))]))], boxO bb2 [u1_0, u1_1, u1_2], boxO bb3 [v1]] ++ []) := Sep.sel S_14 [0, 1, 2, 3] (by decide)
  obtain ⟨X_10, S_18⟩ := Sep.turn X_9 S_17 MT_9 T_9
  refine RL.nil ?_
  refine thnN ?_
  refine W.seq ?_
  refine W.seq ?_
  refine W.region ?_
  refine RL.opD (by decide) (opv_fieldAddr rfl Try.fo53_0 rfl) ?_
  refine RL.opD (by decide) (opv_loadB rfl Try.one22 rfl (Sep.at (o := boxO bb2 [u1_0, u1_1, u1_2]) S_18 2 rfl) rfl) ?_
  refine RL.opD (by decide) (opv_len rfl Try.underlying22 rfl (SL.mod g1_0 X_10 (Nat.le_refl _) nob)) ?_
  refine RL.opD (by decide) (opv_move rfl rfl) ?_
  refine RL.nil ?_
  refine thnN ?_
  obtain ⟨y2, hy2, hp⟩ := Option.bind_eq_some_iff.1 hp
  refine W.cut (fun φ' h' => ∃ x8, ∃ x9, ∃ x10, ∃ v4, y2 = (x8, x9, x10) ∧ Fr.sub [(0, (.agg (List.toArray (α := Value) [(.int .i64 a0_0), (.int .i64 a0_1), (.bool a0_2), u0_3, u0_4]))), (1, (.agg (List.toArray (α := Value) [u1_0, u1_1, u1_2]))), (2, (.pointer (some ⟨bb1, 0, none⟩))), (3, (.pointer (some ⟨bb2, 0, none⟩))), (4, (.float .f32 0)), (5, (.bool false)), (19, (.bool x1)), (6, (.pointer (some ⟨bb3, 0, none⟩))), (8, (.pointer (some ⟨bb4, 0, none⟩))), (28, u1_0), (29, (.int .i64 (a1_0.length : Int))), (7, v4), (30, (.int .i64 x9)), (31, (.bool x10))] φ' ∧ IsF .f64 v4 x8 ∧ hp10 = h') ?_ ?_
  ·refine W.block ?_
   refine W.loopS (fun (s : ((Option Nat) × Int)) φ' h' => ∃ v3, Fr.sub [(0, (.agg (List.toArray (α := Value) [(.int .i64 a0_0), (.int .i64 a0_1), (.bool a0_2), u0_3, u0_4]))), (1, (.agg (List.toArray (α := Value) [u1_0, u1_1, u1_2]))), (2, (.pointer (some ⟨bb1, 0, none⟩))), (3, (.pointer (some ⟨bb2, 0, none⟩))), (4, (.float .f32 0)), (5, (.bool false)), (19, (.bool x1)), (6, (.pointer (some ⟨bb3, 0, none⟩))), (8, (.pointer (some ⟨bb4, 0, none⟩))), (28, u1_0), (29, (.int .i64 (a1_0.length : Int))), (7, v3), (30, (.int .i64 s.2))] φ' ∧ IsF .f64 v3 s.1 ∧ hp10 = h') hy2 ⟨(.float .f64 0), ⟨rfl, rfl, rfl, rfl, rfl, rfl, rfl, rfl, rfl, rfl, rfl, rfl, rfl, trivial⟩, (isF_lit .f64 0 (by decide) (by decide)), rfl⟩ ?_
   rintro ⟨x6, x7⟩ φ' _ o1 ⟨v3, hs2, fv3, rfl⟩ ho1 hy1
   have hs2 : Fr.sub [(0, (.agg (List.toArray (α := Value) [(.int .i64 a0_0), (.int .i64 a0_1), (.bool a0_2), u0_3, u0_4]))), (1, (.agg (List.toArray (α := Value) [u1_0, u1_1, u1_2]))), (2, (.pointer (some ⟨bb1, 0, none⟩))), (3, (.pointer (some ⟨bb2, 0, none⟩))), (4, (.float .f32 0)), (5, (.bool false)), (19, (.bool x1)), (6, (.pointer (some ⟨bb3, 0, none⟩))), (8, (.pointer (some ⟨bb4, 0, none⟩))), (28, u1_0), (29, (.int .i64 (a1_0.length : Int))), (7, v3), (30, (.int .i64 x7))] φ' := hs2
   have fv3 : IsF .f64 v3 x6 := fv3
   have ho1 : impl_RayleighOf.s0 a0_3 a1_0 x6 x7 = some o1 := ho1
   unfold impl_RayleighOf.s0 at ho1
   refine W.sub hs2 ?_
   refine W.seq ?_
   refine W.region ?_
   refine RL.opD (by decide) (opv_icmp rfl rfl rfl rfl) ?_
   refine RL.nil ?_
   refine thnN ?_
   refine W.seq ?_
   by_cases c3 : (decide (x7 < (a1_0.length : Int))) = true
   ·rw [if_pos c3] at ho1
    refine W.condT rfl c3 ?_
    refine W.skip ?_
    refine thnN ?_
    refine W.seq ?_
    refine W.block ?_
    refine W.seq ?_
    refine W.region ?_
    refine RL.opD (by decide) (opv_move rfl rfl) ?_
    obtain ⟨x11, hx11, ho1⟩ := Option.bind_eq_some_iff.1 ho1
    refine RL.op _ (by decide) (opv_index rfl Try.underlying22 (by rw [Try.size40]; rfl) rfl rfl (SL.mod g1_0 X_10 (Nat.le_refl _) nob) hx11) ?_
    rintro v5 _ ⟨fv5, rfl⟩
    refine RL.opF (by decide) (opv_loadF rfl Try.one40 rfl fv5 (SL.mod g1_0 X_10 (Nat.le_refl _) nob) hx11) ?_
    intro v6 fv6
    refine RL.opD (by decide) (opv_assign rfl rfl) ?_
    refine RL.opD (by decide) (opv_assign rfl rfl) ?_
    refine RL.nil ?_
    refine thnN ?_
    obtain ⟨x12, hx12, ho1⟩ := Option.bind_eq_some_iff.1 ho1
    obtain ⟨x13, hx13, ho1⟩ := Option.bind_eq_some_iff.1 ho1
    refine W.sub (ψ := [(0, (.agg (List.toArray (α := Value) [(.int .i64 a0_0), (.int .i64 a0_1), (.bool a0_2), u0_3, u0_4]))), (1, (.agg (List.toArray (α := Value) [u1_0, u1_1, u1_2]))), (2, (.pointer (some ⟨bb1, 0, none⟩))), (3, (.pointer (some ⟨bb2, 0, none⟩))), (4, (.float .f32 0)), (5, (.bool false)), (19, (.bool x1)), (6, (.pointer (some ⟨bb3, 0, none⟩))), (8, (.pointer (some ⟨bb4, 0, none⟩))), (28, u1_0), (29, (.int .i64 (a1_0.length : Int))), (7, v3), (30, (.int .i64 x7)), (31, (.bool (decide (x7 < (a1_0.length : Int))))), (9, (.int .i64 x7)), (10, v6)]) ⟨rfl, rfl, rfl, rfl, rfl, rfl, rfl, rfl, rfl, rfl, rfl, rfl, rfl, rfl, rfl, rfl, trivial⟩ ?_
    refine W.regionP [fun v _ => IsF .f64 v x6, fun v _ => IsF .f32 v x11, fun v _ => IsF .f64 v x12, fun v _ => @Eq Value (.pointer (some ⟨bb1, 3, none⟩)) v, fun v _ => @Eq Value u0_3 v, fun v _ => @Eq Value (.int .i64 x7) v, fun v _ => PtI 1 v u0_3 (Int.toNat x7), fun v _ => IsF .f32 v x13, fun v _ => IsF .f64 v (wid x13), fun v _ => IsF .f64 v (fop .quo .f64 x12 (wid x13)), fun v _ => IsF .f64 v (fop .add .f64 x6 (fop .quo .f64 x12 (wid x13)))] [[], [], [1], [], [3], [], [4, 5], [6], [7], [2, 8], [0, 9]] [10] Try.mixed (by decide +kernel) (by decide +kernel) rfl rfl rfl ?_ ?_
    ·refine ⟨⟨rfl, ?_⟩, ⟨rfl, ?_⟩, ⟨rfl, ?_⟩, ⟨rfl, ?_⟩, ⟨rfl, ?_⟩, ⟨rfl, ?_⟩, ⟨rfl, ?_⟩, ⟨rfl, ?_⟩, ⟨rfl, ?_⟩, ⟨rfl, ?_⟩, ⟨rfl, ?_⟩, trivial⟩
     ·rintro _ rfl
      refine Dep.nil ?_
      refine GuardOK.none rfl ?_
      exact OpV.toD (opv_move rfl rfl) fv3
     ·rintro _ rfl
      refine Dep.nil ?_
      refine GuardOK.none rfl ?_
      exact OpV.toD (opv_move rfl rfl) fv6
     ·rintro _ rfl v8 fv8
      refine Dep.nil ?_
      refine GuardOK.none rfl ?_
      exact OpV.mono (opv_call (cap := []) (impl_square_ok _ _ _ fv8 _ hx12) rfl rfl ⟨rfl, trivial⟩ Try.func130 rfl rfl) (by rintro v9 _ ⟨fv9, rfl⟩; exact ⟨rfl, fv9⟩)
     ·rintro _ rfl
      refine Dep.nil ?_
      refine GuardOK.none rfl ?_
      exact OpV.toD (opv_fieldAddr rfl Try.fo29_3 rfl) rfl
     ·rintro _ rfl _ rfl
      refine Dep.nil ?_
      refine GuardOK.none rfl ?_
      exact OpV.toD (opv_loadB rfl Try.one22 rfl (Sep.at (o := boxO bb1 [(.int .i64 x5.1), (.int .i64 x5.2.1), (.bool x5.2.2.1), u0_3, u0_4]) S_18 0 rfl) rfl) rfl
     ·rintro _ rfl
      refine Dep.nil ?_
      refine GuardOK.none rfl ?_
      exact OpV.toD (opv_move rfl rfl) rfl
     ·rintro _ rfl _ rfl _ rfl
      refine Dep.nil ?_
      refine GuardOK.none rfl ?_
      exact OpV.toS (opv_index rfl Try.underlying22 (by rw [Try.size40]; rfl) rfl rfl (SL.mod g0_3 X_10 (Nat.le_refl _) nob) hx13) (fun _ h => h)
     ·rintro _ rfl v10 fv10
      refine Dep.nil ?_
      refine GuardOK.none rfl ?_
      exact OpV.toS (opv_loadF rfl Try.one40 rfl fv10 (SL.mod g0_3 X_10 (Nat.le_refl _) nob) hx13) (fun _ h => h)
     ·rintro _ rfl v11 fv11
      refine Dep.nil ?_
      refine GuardOK.none rfl ?_
      exact OpV.toS (opv_widen rfl (by rw [Try.underlying40]; rfl) Try.underlying56 rfl fv11) (fun _ h => h)
     ·rintro _ rfl v9 fv9 v12 fv12
      refine Dep.nil ?_
      refine GuardOK.none rfl ?_
      exact OpV.toS (opv_fop rfl rfl rfl rfl fv9 fv12) (fun _ h => h)
     ·rintro _ rfl v7 fv7 v13 fv13
      refine Dep.nil ?_
      refine GuardOK.none rfl ?_
      exact OpV.toS (opv_fop rfl rfl rfl rfl fv7 fv13) (fun _ h => h)
    rintro v14 fv14
    refine Dep.nil ?_
    show RL _ _ _ _ (_ :: _) _ _
    refine RL.opD (by decide) (opv_assign rfl rfl) ?_
    refine RL.nil ?_
    refine blkN ?_
    refine thnN ?_
    refine W.region ?_
    refine RL.opD (by decide) (opv_add rfl rfl rfl) ?_
    refine RL.opD (by decide) (opv_move rfl rfl) ?_
    refine RL.nil ?_
    have eo1 := Option.some.inj ho1
    subst eo1
    refine rndN (s' := (fop .add .f64 x6 (fop .quo .f64 x12 (wid x13)), IntKind.wrap .i64 (x7 + 1))) rfl ?_
    exact ⟨v14, ⟨rfl, rfl, rfl, rfl, rfl, rfl, rfl, rfl, rfl, rfl, rfl, rfl, rfl, trivial⟩, fv14, rfl⟩
   ·rw [if_neg c3] at ho1
    have c3 := eq_false_of_ne_true c3
    refine W.condF rfl c3 ?_
    refine W.exit ?_
    refine thnX ?_
    refine rndX ?_
    refine blkI ?_
    have eo1 := Option.some.inj ho1
    subst eo1
    have ey2 := hy1 _ rfl
    subst ey2
    refine onlyN ?_
    exact ⟨x6, x7, decide (x7 < (a1_0.length : Int)), v3, rfl, ⟨rfl, rfl, rfl, rfl, rfl, rfl, rfl, rfl, rfl, rfl, rfl, rfl, rfl, rfl, trivial⟩, fv3, rfl⟩
  rintro φ' _ ⟨x8, x9, x10, v4, rfl, hs3, fv4, rfl⟩
  try dsimp only at hp
  refine thnN ?_
  refine W.sub hs3 ?_
  refine W.seq ?_
  refine W.seq ?_
  refine W.region ?_
  refine RL.opD (by decide) (opv_move rfl rfl) ?_
  refine RL.opD (by decide) (opv_fcmp rfl rfl rfl rfl fv4 (isF_lit .f64 0 (by decide) (by decide))) ?_
  refine RL.opD (by decide) (opv_not rfl rfl) ?_
  refine RL.nil ?_
  refine thnN ?_
  by_cases c4 : (!(fcmp .gtr .f64 x8 (some 0))) = true
  ·rw [if_pos c4] at hp
   refine W.condT rfl c4 ?_
   refine W.seq ?_
   refine W.region ?_
   refine RL.opD (by decide) (opv_assign rfl rfl) ?_
   refine RL.opD (by decide) (opv_assign rfl rfl) ?_
   refine RL.nil ?_
   refine thnN ?_
   refine W.ret ?_
   refine thnR ?_
   have er := Option.some.inj hp
   subst er
   exact Rt.two rfl rfl rfl ⟨(.float .f32 0), rfl, (isF_lit .f32 0 (by decide) (by decide)), X_10, (Sep.nil _ _ _)⟩
  ·rw [if_neg c4] at hp
   have c4 := eq_false_of_ne_true c4
   refine W.condF rfl c4 ?_
   refine W.skip ?_
   refine thnN ?_
   refine W.seq ?_
   refine W.region ?_
   refine RL.opD (by decide) (opv_loadB rfl Try.one56 rfl (Sep.at (o := boxO bb3 [v2]) S_18 3 rfl) rfl) ?_
   refine RL.opF (by decide) (opv_fop rfl rfl rfl rfl fv2 (isF_lit .f64 4611686018427387904 (by decide) (by decide))) ?_
   intro v16 fv16
   refine RL.opD (by decide) (opv_move rfl rfl) ?_
   refine RL.opF (by decide) (opv_fop rfl rfl rfl rfl fv16 fv4) ?_
   intro v17 fv17
   obtain ⟨x14, hx14, hp⟩ := Option.bind_eq_some_iff.1 hp
   refine RL.opF (by decide) (opv_f2f rfl (by rw [Try.underlying56]; rfl) Try.underlying40 (by decide) rfl fv17 hx14) ?_
   intro v18 fv18
   refine RL.opD (by decide) (opv_assign rfl rfl) ?_
   refine RL.opD (by decide) (opv_assign rfl rfl) ?_
   refine RL.nil ?_
   refine thnN ?_
   refine W.ret ?_
   have er := Option.some.inj hp
   subst er
   exact Rt.two rfl rfl rfl ⟨v18, rfl, fv18, X_10, (Sep.nil _ _ _)⟩

set_option maxRecDepth 20000 in
theorem laws_FnExactRayleighOf_ok (h0 : Heap) (a0_0 : Int) (a0_1 : Int) (a0_2 : Bool) (u0_3 : Value) (a0_3 : List (Option Nat)) (g0_3 : SL (kF .f32) h0.size h0 u0_3 a0_3) (u0_4 : Value) (a0_4 : List (Option Nat)) (g0_4 : SL (kF .f32) h0.size h0 u0_4 a0_4) (u1_0 : Value) (a1_0 : List (Option Nat)) (g1_0 : SL (kF .f32) h0.size h0 u1_0 a1_0) (u1_1 : Value) (a1_1 : List (Option Nat)) (g1_1 : SL (kF .f32) h0.size h0 u1_1 a1_1) (u1_2 : Value) (a1_2 : List (Option Nat)) (g1_2 : SL (kF .f32) h0.size h0 u1_2 a1_2) (r : Bool) (hp : laws_FnExactRayleighOf a0_0 a0_1 a0_2 a0_3 a0_4 a1_0 a1_1 a1_2 = some r) : CallsH Try.prog 15 ([(.agg (List.toArray (α := Value) [(.int .i64 a0_0), (.int .i64 a0_1), (.bool a0_2), u0_3, u0_4])), (.agg (List.toArray (α := Value) [u1_0, u1_1, u1_2]))].toArray ++ [].toArray) h0 (fun v h' => v = (.bool r) ∧ Mod [] h0 h' ∧ Sep [] h0.size h' []) := by
 unfold laws_FnExactRayleighOf at hp
 refine callsH_of_W (l := [(.agg (List.toArray (α := Value) [(.int .i64 a0_0), (.int .i64 a0_1), (.bool a0_2), u0_3, u0_4])), (.agg (List.toArray (α := Value) [u1_0, u1_1, u1_2]))]) (cap := []) 61 Try.func15 rfl rfl rfl ?_
 refine W.seq ?_
 refine W.region ?_
 refine RL.op _ (by decide) (opS_boxed (opv_boxA (cs := [(.int .i64 a0_0), (.int .i64 a0_1), (.bool a0_2), u0_3, u0_4]) rfl rfl)) ?_
 rintro _ hp1 ⟨bb1, rfl, MT_1, T_1⟩
 obtain ⟨X_1, S_1⟩ := Sep.turn0 (Mod.refl [] h0) (Sep.nil [] h0.size h0) MT_1 T_1
 refine RL.op _ (by decide) (opS_boxed (opv_boxA (cs := [u1_0, u1_1, u1_2]) rfl rfl)) ?_
 rintro _ hp2 ⟨bb2, rfl, MT_2, T_2⟩
 obtain ⟨X_2, S_2⟩ := Sep.turn0 X_1 S_1 MT_2 T_2
 refine RL.opD (by decide) (opv_assign rfl rfl) ?_
 refine RL.nil ?_
 refine thnN ?_
 refine W.seq ?_
 refine W.region ?_
 refine RL.opD (by decide) (opv_assign rfl rfl) ?_
 refine RL.nil ?_
 refine thnN ?_
 refine W.seq ?_
 refine W.region ?_
 refine RL.opD (by decide) (opv_loadA (us := [(.int .i64 a0_0), (.int .i64 a0_1), (.bool a0_2), u0_3, u0_4]) rfl Try.agg24 Try.size24 rfl (Sep.at (o := boxO bb1 [(.int .i64 a0_0), (.int .i64 a0_1), (.bool a0_2), u0_3, u0_4]) S_2 1 rfl) rfl rfl) ?_
 refine RL.opD (by decide) (opv_move rfl rfl) ?_
 obtain ⟨x1, hx1, hp⟩ := Option.bind_eq_some_iff.1 hp
 refine RL.op _ (by decide) (opv_call (cap := []) (laws_szSheet_ok _ _ _ _ _ _ (SL.up (SL.mod g0_3 X_2 (Nat.le_refl _) nob) (Nat.le_trans (Nat.le_refl _) (Mod.size X_2))) _ _ (SL.up (SL.mod g0_4 X_2 (Nat.le_refl _) nob) (Nat.le_trans (Nat.le_refl _) (Mod.size X_2))) _ _ hx1) rfl rfl ⟨rfl, rfl, trivial⟩ Try.func18 rfl rfl) ?_
 rintro _ hp3 ⟨rfl, MT_3, T_3⟩
 obtain ⟨X_3, S_3⟩ := Sep.turn0 X_2 S_2 MT_3 T_3
 refine RL.opD (by decide) (opv_assign rfl rfl) ?_
 refine RL.nil ?_
 refine thnN ?_
 refine W.seq ?_
 refine W.seq ?_
 refine W.region ?_
 refine RL.opD (by decide) (opv_move rfl rfl) ?_
 refine RL.opD (by decide) (opv_icmp rfl rfl rfl rfl) ?_
 refine RL.nil ?_
 refine thnN ?_
 by_cases c1 : (decide (x1 < 0)) = true
 ·rw [if_pos c1] at hp
  refine W.condT rfl c1 ?_
  refine W.seq ?_
  refine W.region ?_
  refine RL.opD (by decide) (opv_assign rfl rfl) ?_
  refine RL.nil ?_
  refine thnN ?_
  refine W.ret ?_
  refine thnR ?_
  have er := Option.some.inj hp
  subst er
  exact Rt.one rfl rfl ⟨rfl, X_3, (Sep.nil _ _ _)⟩
 ·rw [if_neg c1] at hp
  have c1 := eq_false_of_ne_true c1
  refine W.condF rfl c1 ?_
  refine W.skip ?_
  refine thnN ?_
  refine W.seq ?_
  refine W.region ?_
  refine RL.opD (by decide) (opv_loadA (us := [u1_0, u1_1, u1_2]) rfl Try.agg49 Try.size49 rfl (Sep.at (o := boxO bb2 [u1_0, u1_1, u1_2]) S_3 0 rfl) rfl rfl) ?_
  refine RL.opD (by decide) (opv_move rfl rfl) ?_
  obtain ⟨x2, hx2, hp⟩ := Option.bind_eq_some_iff.1 hp
  refine RL.op _ (by decide) (opv_call (cap := []) (laws_szField_ok _ _ _ (SL.up (SL.mod g1_0 X_3 (Nat.le_refl _) nob) (Nat.le_trans (Nat.le_refl _) (Mod.size X_3))) _ _ (SL.up (SL.mod g1_1 X_3 (Nat.le_refl _) nob) (Nat.le_trans (Nat.le_refl _) (Mod.size X_3))) _ _ (SL.up (SL.mod g1_2 X_3 (Nat.le_refl _) nob) (Nat.le_trans (Nat.le_refl _) (Mod.size X_3))) _ _ hx2) rfl rfl ⟨rfl, rfl, trivial⟩ Try.func33 rfl rfl) ?_
  rintro _ hp4 ⟨rfl, MT_4, T_4⟩
  obtain ⟨X_4, S_4⟩ := Sep.turn0 X_3 S_3 MT_4 T_4
  refine RL.opD (by decide) (opv_assign rfl rfl) ?_
  refine RL.nil ?_
  refine thnN ?_
  refine W.seq ?_
  refine W.seq ?_
  refine W.region ?_
  refine RL.opD (by decide) (opv_move rfl rfl) ?_
  refine RL.opD (by decide) (opv_icmp rfl rfl rfl rfl) ?_
  refine RL.nil ?_
  refine thnN ?_
  by_cases c2 : (decide (x2 < 0)) = true
  ·rw [if_pos c2] at hp
   refine W.condT rfl c2 ?_
   refine W.seq ?_
   refine W.region ?_
   refine RL.opD (by decide) (opv_assign rfl rfl) ?_
   refine RL.nil ?_
   refine thnN ?_
   refine W.ret ?_
   refine thnR ?_
   have er := Option.some.inj hp
   subst er
   exact Rt.one rfl rfl ⟨rfl, X_4, (Sep.nil _ _ _)⟩
  ·rw [if_neg c2] at hp
   have c2 := eq_false_of_ne_true c2
   refine W.condF rfl c2 ?_
   refine W.skip ?_
   refine thnN ?_
   refine W.seq ?_
   obtain ⟨x3, hx3, hp⟩ := Option.bind_eq_some_iff.1 hp
   obtain ⟨x4, hx4, hp⟩ := Option.bind_eq_some_iff.1 hp
   obtain ⟨x5, hx5, hp⟩ := Option.bind_eq_some_iff.1 hp
   refine W.sub (ψ := [(0, (.agg (List.toArray (α := Value) [(.int .i64 a0_0), (.int .i64 a0_1), (.bool a0_2), u0_3, u0_4]))), (1, (.agg (List.toArray (α := Value) [u1_0, u1_1, u1_2]))), (2, (.pointer (some ⟨bb1, 0, none⟩))), (3, (.pointer (some ⟨bb2, 0, none⟩))), (4, (.bool false)), (5, (.int .i64 x2)), (16, (.bool (decide (x1 < 0)))), (21, (.bool (decide (x2 < 0))))]) ⟨rfl, rfl, rfl, rfl, rfl, rfl, rfl, rfl, trivial⟩ ?_
   refine W.regionM [fun v _ => @Eq Value (.agg (List.toArray (α := Value) [(.int .i64 a0_0), (.int .i64 a0_1), (.bool a0_2), u0_3, u0_4])) v, fun v h => ∃ v1, ∃ v2, @Eq Value v (.agg (List.toArray (α := Value) [(.int .i64 x3.1), (.int .i64 x3.2.1), (.bool x3.2.2.1), v1, v2])) ∧ Sep [] hp4.size h [ownO (kF .f32) 40 v1 x3.2.2.2.1, ownO (kF .f32) 40 v2 x3.2.2.2.2], fun v _ => @Eq Value (.agg (List.toArray (α := Value) [u1_0, u1_1, u1_2])) v, fun v h => ∃ v3, ∃ v4, ∃ v5, @Eq Value v (.agg (List.toArray (α := Value) [v3, v4, v5])) ∧ Sep [] hp4.size h [ownO (kF .f32) 40 v3 x4.1, ownO (kF .f32) 40 v4 x4.2.1, ownO (kF .f32) 40 v5 x4.2.2], fun v h => ∃ v6, @Eq Value v (.tuple (List.toArray (α := Value) [v6, (.bool x5.2)])) ∧ IsF .f32 v6 x5.1 ∧ Sep [] hp4.size h [], fun v h => ∃ v6, @Eq Value v (.tuple (List.toArray (α := Value) [v6, (.bool x5.2)])) ∧ IsF .f32 v6 x5.1 ∧ Sep [] hp4.size h [], fun v _ => IsF .f32 v x5.1, fun v _ => @Eq Value (.bool x5.2) v, fun v _ => IsF .f32 v x5.1, fun v _ => @Eq Value (.bool x5.2) v] [none, some (fun u => [Value.ownBlock (vget u 3), Value.ownBlock (vget u 4)]), none, some (fun u => [Value.ownBlock (vget u 0), Value.ownBlock (vget u 1), Value.ownBlock (vget u 2)]), some (fun u => []), none, none, none, none, none] [none, none, none, none, none, some (27, fun u => u)] [[], [0], [], [2], [1, 3], [4], [5], [5], [6], [7]] [8, 9] Try.mixed (by decide +kernel) (by decide +kernel) rfl rfl rfl (by decide +kernel) rfl ⟨fun _ _ _ h _ => h, fun _ _ _ ⟨u0_, u1_, e, h⟩ x => ⟨u0_, u1_, e, h.ext x⟩, fun _ _ _ h _ => h, fun _ _ _ ⟨u0_, u1_, u2_, e, h⟩ x => ⟨u0_, u1_, u2_, e, h.ext x⟩, fun _ _ _ ⟨u0_, e, f0_, h⟩ x => ⟨u0_, e, f0_, h.ext x⟩, fun _ _ _ ⟨u0_, e, f0_, h⟩ x => ⟨u0_, e, f0_, h.ext x⟩, fun _ _ _ h _ => h, fun _ _ _ h _ => h, fun _ _ _ h _ => h, fun _ _ _ h _ => h, trivial⟩ ?_ ?_
   ·refine ⟨⟨rfl, ?_⟩, ⟨rfl, ?_⟩, ⟨rfl, ?_⟩, ⟨rfl, ?_⟩, ⟨rfl, ?_⟩, ⟨rfl, ?_⟩, ⟨rfl, ?_⟩, ⟨rfl, ?_⟩, ⟨rfl, ?_⟩, ⟨rfl, ?_⟩, trivial⟩
    ·rintro hp8 E_1
     refine Dep.nil ?_
     refine GuardOK.none rfl ?_
     exact OpV.toDx (opv_loadA (us := [(.int .i64 a0_0), (.int .i64 a0_1), (.bool a0_2), u0_3, u0_4]) rfl Try.agg24 Try.size24 rfl (Sep.at (o := boxO bb1 [(.int .i64 a0_0), (.int .i64 a0_1), (.bool a0_2), u0_3, u0_4]) (Sep.ext S_4 E_1) 1 rfl) rfl rfl) rfl
    ·rintro hp9 E_2 _ rfl
     refine Dep.nil ?_
     refine GuardOK.none rfl ?_
     exact OpV.mono (opv_call (cap := []) (laws_toSheet_ok _ _ _ _ _ _ (SL.up (SL.mod g0_3 (Mod.lift X_4 E_2) (Nat.le_refl _) nob) (Nat.le_trans (Nat.le_refl _) (Mod.size (Mod.lift X_4 E_2)))) _ _ (SL.up (SL.mod g0_4 (Mod.lift X_4 E_2) (Nat.le_refl _) nob) (Nat.le_trans (Nat.le_refl _) (Mod.size (Mod.lift X_4 E_2)))) _ hx3) rfl rfl ⟨rfl, trivial⟩ Try.func20 rfl rfl) (by rintro _ _ ⟨v1, v2, rfl, M_, T_⟩; exact ⟨Mod.ext M_, ⟨v1, v2, rfl, Sep.weak T_ (Ext.size E_2)⟩, Sep.fresh T_⟩)
    ·rintro hp10 E_3
     refine Dep.nil ?_
     refine GuardOK.none rfl ?_
     exact OpV.toDx (opv_loadA (us := [u1_0, u1_1, u1_2]) rfl Try.agg49 Try.size49 rfl (Sep.at (o := boxO bb2 [u1_0, u1_1, u1_2]) (Sep.ext S_4 E_3) 0 rfl) rfl rfl) rfl
    ·rintro hp11 E_4 _ rfl
     refine Dep.nil ?_
     refine GuardOK.none rfl ?_
     exact OpV.mono (opv_call (cap := []) (laws_toField_ok _ _ _ (SL.up (SL.mod g1_0 (Mod.lift X_4 E_4) (Nat.le_refl _) nob) (Nat.le_trans (Nat.le_refl _) (Mod.size (Mod.lift X_4 E_4)))) _ _ (SL.up (SL.mod g1_1 (Mod.lift X_4 E_4) (Nat.le_refl _) nob) (Nat.le_trans (Nat.le_refl _) (Mod.size (Mod.lift X_4 E_4)))) _ _ (SL.up (SL.mod g1_2 (Mod.lift X_4 E_4) (Nat.le_refl _) nob) (Nat.le_trans (Nat.le_refl _) (Mod.size (Mod.lift X_4 E_4)))) _ hx4) rfl rfl ⟨rfl, trivial⟩ Try.func35 rfl rfl) (by rintro _ _ ⟨v3, v4, v5, rfl, M_, T_⟩; exact ⟨Mod.ext M_, ⟨v3, v4, v5, rfl, Sep.weak T_ (Ext.size E_4)⟩, Sep.fresh T_⟩)
    ·rintro hp12 E_5 _ ⟨v1, v2, rfl, T_5⟩ _ ⟨v3, v4, v5, rfl, T_6⟩
     refine Dep.nil ?_
     refine GuardOK.none rfl ?_
     exact OpV.mono (opv_call (cap := []) (spec_RayleighOf_ok _ _ _ _ _ _ (ownO.read (Sep.at (o := ownO (kF .f32) 40 v1 x3.2.2.2.1) T_5 0 rfl)) _ _ (ownO.read (Sep.at (o := ownO (kF .f32) 40 v2 x3.2.2.2.2) T_5 1 rfl)) _ _ (ownO.read (Sep.at (o := ownO (kF .f32) 40 v3 x4.1) T_6 0 rfl)) _ _ (ownO.read (Sep.at (o := ownO (kF .f32) 40 v4 x4.2.1) T_6 1 rfl)) _ _ (ownO.read (Sep.at (o := ownO (kF .f32) 40 v5 x4.2.2) T_6 2 rfl)) _ hx5) rfl rfl ⟨rfl, rfl, trivial⟩ Try.func67 rfl rfl) (by rintro _ _ ⟨v6, rfl, fv6, M_, T_⟩; exact ⟨Mod.ext M_, ⟨v6, rfl, fv6, Sep.weak T_ (Ext.size E_5)⟩, Sep.fresh T_⟩)
    ·rintro hp13 E_6 _ ⟨v6, rfl, fv6, T_7⟩
     refine Dep.nil ?_
     refine GuardOK.none rfl ?_
     exact OpV.mono (opv_move rfl rfl) (by rintro _ _ ⟨rfl, rfl⟩; exact ⟨⟨Ext.refl _, v6, rfl, fv6, T_7⟩, _, rfl, rfl⟩)
    ·rintro hp14 E_7 _ ⟨v6, rfl, fv6, T_7⟩
     refine Dep.nil ?_
     refine GuardOK.none rfl ?_
     exact OpV.toDx (opv_extract rfl rfl rfl) fv6
    ·rintro hp15 E_8 _ ⟨v6, rfl, fv6, T_7⟩
     refine Dep.nil ?_
     refine GuardOK.none rfl ?_
     exact OpV.toDx (opv_extract rfl rfl rfl) rfl
    ·rintro hp16 E_9 v7 fv7
     refine Dep.nil ?_
     refine GuardOK.none rfl ?_
     exact OpV.toDx (opv_assign rfl rfl) fv7
    ·rintro hp17 E_10 _ rfl
     refine Dep.nil ?_
     refine GuardOK.none rfl ?_
     exact OpV.toDx (opv_assign rfl rfl) rfl
   rintro hp18 E_11 v8 fv8 _ rfl
   refine DepM.nil ?_
   intro _ LK_
   have X_8 := Mod.lift X_4 E_11
   have S_8 := Sep.ext S_4 E_11
   show RL _ _ _ _ [] _ _
   refine RL.nil ?_
   refine thnN ?_
   refine W.seq ?_
   refine W.region ?_
   refine RL.opD (by decide) (opv_loadA (us := [(.int .i64 a0_0), (.int .i64 a0_1), (.bool a0_2), u0_3, u0_4]) rfl Try.agg24 Try.size24 rfl (Sep.at (o := boxO bb1 [(.int .i64 a0_0), (.int .i64 a0_1), (.bool a0_2), u0_3, u0_4]) S_8 1 rfl) rfl rfl) ?_
   obtain ⟨x6, hx6, hp⟩ := Option.bind_eq_some_iff.1 hp
   refine RL.op _ (by decide) (opv_call (cap := []) (laws_toSheet_ok _ _ _ _ _ _ (SL.up (SL.mod g0_3 X_8 (Nat.le_refl _) nob) (Nat.le_trans (Nat.le_refl _) (Mod.size X_8))) _ _ (SL.up (SL.mod g0_4 X_8 (Nat.le_refl _) nob) (Nat.le_trans (Nat.le_refl _) (Mod.size X_8))) _ hx6) rfl rfl ⟨rfl, trivial⟩ Try.func20 rfl rfl) ?_
   rintro _ hp19 ⟨v15, v16, rfl, MT_8, T_8⟩
   obtain ⟨X_9, S_9⟩ := Sep.turn0 X_8 S_8 MT_8 T_8
   refine RL.op _ (by decide) (opS_boxed (opv_alloc (cs := [(.int .i64 0), (.int .i64 0), (.bool false), (.slice none 0 0), (.slice none 0 0)]) rfl Try.zero29 rfl)) ?_
   rintro _ hp20 ⟨bb3, rfl, MT_9, T_9⟩
   obtain ⟨X_10, S_10⟩ := Sep.turn0 X_9 S_9 MT_9 T_9
   refine RL.op0 _ (opS_stored (cs := [(.int .i64 0), (.int .i64 0), (.bool false), (.slice none 0 0), (.slice none 0 0)]) (cs' := [(.int .i64 x6.1), (.int .i64 x6.2.1), (.bool x6.2.2.1), v15, v16]) (opv_storeA (us := [(.int .i64 x6.1), (.int .i64 x6.2.1), (.bool x6.2.2.1), v15, v16]) rfl Try.size29 rfl rfl (oneAll rfl (oneAll rfl (oneAll rfl (oneAll (ownO.one (Sep.at (o := ownO (kF .f32) 40 v15 x6.2.2.2.1) S_10 1 rfl)) (oneAll (ownO.one (Sep.at (o := ownO (kF .f32) 40 v16 x6.2.2.2.2) S_10 2 rfl)) rfl))))) (Sep.at (o := boxO bb3 [(.int .i64 0), (.int .i64 0), (.bool false), (.slice none 0 0), (.slice none 0 0)]) S_10 0 rfl) rfl rfl) (Sep.at (o := boxO bb3 [(.int .i64 0), (.int .i64 0), (.bool false), (.slice none 0 0), (.slice none 0 0)]) S_10 0 rfl)) ?_
   rintro _ hp21 ⟨rfl, MT_10, T_10⟩
   have S_11 : Sep [] h0.size hp20 ([boxO bb3 [(.int .i64 0), (.int .i64 0), (.bool false), (.slice none 0 0), (.slice none 0 0)]] ++ [ownO (kF .f32) 40 v15 x6.2.2.2.1, ownO (kF .f32) 40 v16 x6.2.2.2.2, boxO bb2 [u1_0, u1_1, u1_2], boxO bb1 [(.int .i64 a0_0), (.int .i64 a0_1), (.bool a0_2), u0_3, u0_4]]) := Sep.sel S_10 [0, 1, 2, 3, 4] (by decide)
   obtain ⟨X_11, S_12⟩ := Sep.turn X_10 S_11 MT_10 T_10
   refine RL.nil ?_
   refine thnN ?_
   refine W.seq ?_
   refine W.region ?_
   refine RL.opD (by decide) (opv_loadA (us := [u1_0, u1_1, u1_2]) rfl Try.agg49 Try.size49 rfl (Sep.at (o := boxO bb2 [u1_0, u1_1, u1_2]) S_12 3 rfl) rfl rfl) ?_
   obtain ⟨x7, hx7, hp⟩ := Option.bind_eq_some_iff.1 hp
   refine RL.op _ (by decide) (opv_call (cap := []) (laws_toField_ok _ _ _ (SL.up (SL.mod g1_0 X_11 (Nat.le_refl _) nob) (Nat.le_trans (Nat.le_refl _) (Mod.size X_11))) _ _ (SL.up (SL.mod g1_1 X_11 (Nat.le_refl _) nob) (Nat.le_trans (Nat.le_refl _) (Mod.size X_11))) _ _ (SL.up (SL.mod g1_2 X_11 (Nat.le_refl _) nob) (Nat.le_trans (Nat.le_refl _) (Mod.size X_11))) _ hx7) rfl rfl ⟨rfl, trivial⟩ Try.func35 rfl rfl) ?_
   rintro _ hp22 ⟨v17, v18, v19, rfl, MT_11, T_11⟩
   obtain ⟨X_12, S_13⟩ := Sep.turn0 X_11 S_12 MT_11 T_11
   refine RL.op _ (by decide) (opS_boxed (opv_alloc (cs := [(.slice none 0 0), (.slice none 0 0), (.slice none 0 0)]) rfl Try.zero53 rfl)) ?_
   rintro _ hp23 ⟨bb4, rfl, MT_12, T_12⟩
   obtain ⟨X_13, S_14⟩ := Sep.turn0 X_12 S_13 MT_12 T_12
   refine RL.op0 _ (opS_stored (cs := [(.slice none 0 0), (.slice none 0 0), (.slice none 0 0)]) (cs' := [v17, v18, v19]) (opv_storeA (us := [v17, v18, v19]) rfl Try.size53 rfl rfl (oneAll (ownO.one (Sep.at (o := ownO (kF .f32) 40 v17 x7.1) S_14 1 rfl)) (oneAll (ownO.one (Sep.at (o := ownO (kF .f32) 40 v18 x7.2.1) S_14 2 rfl)) (oneAll (ownO.one (Sep.at (o := ownO (kF .f32) 40 v19 x7.2.2) S_14 3 rfl)) rfl))) (Sep.at (o := boxO bb4 [(.slice none 0 0), (.slice none 0 0), (.slice none 0 0)]) S_14 0 rfl) rfl rfl) (Sep.at (o := boxO bb4 [(.slice none 0 0), (.slice none 0 0), (.slice none 0 0)]) S_14 0 rfl)) ?_
   rintro _ hp24 ⟨rfl, MT_13, T_13⟩
   have S_15 : Sep [] h0.size hp23 ([boxO bb4 [(.slice none 0 0), (.slice none 0 0), (.slice none 0 0)]] ++ [ownO (kF .f32) 40 v17 x7.1, ownO (kF .f32) 40 v18 x7.2.1, ownO (kF .f32) 40 v19 x7.2.2, boxO bb3 [(.int .i64 x6.1), (.int .i64 x6.2.1), (.bool x6.2.2.1), v15, v16], ownO (kF .f32) 40 v15 x6.2.2.2.1, ownO (kF .f32) 40 v16 x6.2.2.2.2, boxO bb2 [u1_0, u1_1, u1_2], boxO bb1 [(.int .i64 a0_0), (.int .i64 a0_1), (.bool a0_2), u0_3, u0_4]]) := Sep.sel S_14 [0, 1, 2, 3, 4, 5, 6, 7, 8] (by decide)
   obtain ⟨X_14, S_16⟩ := Sep.turn X_13 S_15 MT_13 T_13
   refine RL.nil ?_
   refine thnN ?_
   refine W.seq ?_
   refine W.region ?_
   refine RL.opD (by decide) (opv_loadA (us := [(.int .i64 x6.1), (.int .i64 x6.2.1), (.bool x6.2.2.1), v15, v16]) rfl Try.agg29 Try.size29 rfl (Sep.at (o := boxO bb3 [(.int .i64 x6.1), (.int .i64 x6.2.1), (.bool x6.2.2.1), v15, v16]) S_16 4 rfl) rfl rfl) ?_
   refine RL.opD (by decide) (opv_loadA (us := [v17, v18, v19]) rfl Try.agg53 Try.size53 rfl (Sep.at (o := boxO bb4 [v17, v18, v19]) S_16 0 rfl) rfl rfl) ?_
   obtain ⟨x8, hx8, hp⟩ := Option.bind_eq_some_iff.1 hp
   refine RL.op _ (by decide) (opv_call (cap := []) (impl_RayleighOf_ok _ _ _ _ _ _ (ownO.read (Sep.at (o := ownO (kF .f32) 40 v15 x6.2.2.2.1) S_16 5 rfl)) _ _ (ownO.read (Sep.at (o := ownO (kF .f32) 40 v16 x6.2.2.2.2) S_16 6 rfl)) _ _ (ownO.read (Sep.at (o := ownO (kF .f32) 40 v17 x7.1) S_16 1 rfl)) _ _ (ownO.read (Sep.at (o := ownO (kF .f32) 40 v18 x7.2.1) S_16 2 rfl)) _ _ (ownO.read (Sep.at (o := ownO (kF .f32) 40 v19 x7.2.2) S_16 3 rfl)) _ hx8) rfl rfl ⟨rfl, rfl, trivial⟩ Try.func68 rfl rfl) ?_
   rintro _ hp25 ⟨v20, rfl, fv20, MT_14, T_14⟩
   obtain ⟨X_15, S_17⟩ := Sep.turn0 X_14 S_16 MT_14 T_14
   refine RL.opD (by decide) (opv_move rfl rfl) ?_
   refine RL.opD (by decide) (opv_extract rfl rfl rfl) ?_
   refine RL.opD (by decide) (opv_extract rfl rfl rfl) ?_
   refine RL.opD (by decide) (opv_assign rfl rfl) ?_
   refine RL.opD (by decide) (opv_assign rfl rfl) ?_
   refine RL.nil ?_
   refine thnN ?_
   refine W.seq ?_
   refine W.seq ?_
   obtain ⟨x9, hy1, hp⟩ := Option.bind_eq_some_iff.1 hp
   refine W.cut (fun φ' h' => Fr.sub [(0, (.agg (List.toArray (α := Value) [(.int .i64 a0_0), (.int .i64 a0_1), (.bool a0_2), u0_3, u0_4]))), (1, (.agg (List.toArray (α := Value) [u1_0, u1_1, u1_2]))), (2, (.pointer (some ⟨bb1, 0, none⟩))), (3, (.pointer (some ⟨bb2, 0, none⟩))), (4, (.bool false)), (5, (.int .i64 x2)), (16, (.bool (decide (x1 < 0)))), (21, (.bool (decide (x2 < 0)))), (6, v8), (7, (.bool x5.2)), (8, (.pointer (some ⟨bb3, 0, none⟩))), (9, (.pointer (some ⟨bb4, 0, none⟩))), (10, v20), (11, (.bool x8.2)), (50, (.bool x9))] φ' ∧ hp25 = h') ?_ ?_
   ·refine W.region ?_
    refine RL.opD (by decide) (opv_move rfl rfl) ?_
    refine RL.opF (by decide) (opv_widen rfl (by rw [Try.underlying40]; rfl) Try.underlying56 rfl fv20) ?_
    intro v21 fv21
    refine RL.opD (by decide) (opv_move rfl rfl) ?_
    refine RL.opF (by decide) (opv_widen rfl (by rw [Try.underlying40]; rfl) Try.underlying56 rfl fv8) ?_
    intro v22 fv22
    obtain ⟨x10, hx10, hy1⟩ := Option.bind_eq_some_iff.1 hy1
    refine RL.op _ (by decide) (opv_call (cap := []) (laws_sameFloat_ok _ _ _ fv21 _ _ fv22 _ hx10) rfl rfl ⟨rfl, rfl, trivial⟩ Try.func37 rfl rfl) ?_
    rintro _ _ ⟨rfl, rfl⟩
    refine RL.opD (by decide) (opv_not rfl rfl) ?_
    refine RL.opD (by decide) (opv_move rfl rfl) ?_
    by_cases c3 : (!x10) = true
    ·rw [if_pos c3] at hy1
     refine RL.noT rfl rfl c3 (by decide) ?_
     refine RL.noT rfl rfl c3 (by decide) ?_
     refine RL.noT rfl rfl c3 (by decide) ?_
     refine RL.opD (by decide) (opv_pick rfl rfl (fun _ => rfl) (fun e => absurd (Eq.trans (Eq.symm e) c3) (by decide)) rfl) ?_
     refine RL.nil ?_
     have ey1 := Option.some.inj hy1
     subst ey1
     refine onlyN ?_
     exact ⟨⟨rfl, rfl, rfl, rfl, rfl, rfl, rfl, rfl, rfl, rfl, rfl, rfl, rfl, rfl, rfl, trivial⟩, rfl⟩
    ·rw [if_neg c3] at hy1
     have c3 := eq_false_of_ne_true c3
     refine RL.yesD rfl rfl c3 (by decide) (opv_move rfl rfl) ?_
     refine RL.yesD rfl rfl c3 (by decide) (opv_move rfl rfl) ?_
     refine RL.yesD rfl rfl c3 (by decide) (opv_bcmp rfl rfl Try.underlying4 rfl rfl) ?_
     refine RL.opD (by decide) (opv_pick rfl rfl (fun e => absurd (Eq.trans (Eq.symm e) c3) (by decide)) (fun _ => rfl) rfl) ?_
     refine RL.nil ?_
     have ey1 := Option.some.inj hy1
     subst ey1
     refine onlyN ?_
     exact ⟨⟨rfl, rfl, rfl, rfl, rfl, rfl, rfl, rfl, rfl, rfl, rfl, rfl, rfl, rfl, rfl, trivial⟩, rfl⟩
   rintro φ' _ ⟨hs1, rfl⟩
   refine thnN ?_
   refine W.sub hs1 ?_
   by_cases c4 : x9 = true
   ·rw [if_pos c4] at hp
    refine W.condT rfl c4 ?_
    refine W.seq ?_
    refine W.region ?_
    refine RL.opD (by decide) (opv_assign rfl rfl) ?_
    refine RL.nil ?_
    refine thnN ?_
    refine W.ret ?_
    refine thnR ?_
    have er := Option.some.inj hp
    subst er
    exact Rt.one rfl rfl ⟨rfl, X_15, (Sep.nil _ _ _)⟩
   ·rw [if_neg c4] at hp
    have c4 := eq_false_of_ne_true c4
    refine W.condF rfl c4 ?_
    refine W.skip ?_
    refine thnN ?_
    refine W.seq ?_
    refine W.seq ?_
    obtain ⟨x11, hx11, hp⟩ := Option.bind_eq_some_iff.1 hp
    obtain ⟨x12, hx12, hp⟩ := Option.bind_eq_some_iff.1 hp
    refine W.sub (ψ := [(0, (.agg (List.toArray (α := Value) [(.int .i64 a0_0), (.int .i64 a0_1), (.bool a0_2), u0_3, u0_4]))), (1, (.agg (List.toArray (α := Value) [u1_0, u1_1, u1_2]))), (2, (.pointer (some ⟨bb1, 0, none⟩))), (3, (.pointer (some ⟨bb2, 0, none⟩))), (4, (.bool false)), (5, (.int .i64 x2)), (16, (.bool (decide (x1 < 0)))), (21, (.bool (decide (x2 < 0)))), (6, v8), (7, (.bool x5.2)), (8, (.pointer (some ⟨bb3, 0, none⟩))), (9, (.pointer (some ⟨bb4, 0, none⟩))), (10, v20), (11, (.bool x8.2)), (50, (.bool x9))]) ⟨rfl, rfl, rfl, rfl, rfl, rfl, rfl, rfl, rfl, rfl, rfl, rfl, rfl, rfl, rfl, trivial⟩ ?_
    refine W.regionM [fun v _ => @Eq Value (.agg (List.toArray (α := Value) [(.int .i64 x6.1), (.int .i64 x6.2.1), (.bool x6.2.2.1), v15, v16])) v, fun v _ => @Eq Value (.agg (List.toArray (α := Value) [(.int .i64 a0_0), (.int .i64 a0_1), (.bool a0_2), u0_3, u0_4])) v, fun v h => ∃ v23, ∃ v24, @Eq Value v (.agg (List.toArray (α := Value) [(.int .i64 x11.1), (.int .i64 x11.2.1), (.bool x11.2.2.1), v23, v24])) ∧ Sep [] hp25.size h [ownO (kF .f32) 40 v23 x11.2.2.2.1, ownO (kF .f32) 40 v24 x11.2.2.2.2], fun v h => @Eq Value v (.bool x12) ∧ Sep [] hp25.size h [], fun v _ => @Eq Value (.bool (!x12)) v] [none, none, some (fun u => [Value.ownBlock (vget u 3), Value.ownBlock (vget u 4)]), some (fun u => []), none] [] [[], [], [1], [0, 2], [3]] [4] Try.mixed (by decide +kernel) (by decide +kernel) rfl rfl rfl (by decide +kernel) rfl ⟨fun _ _ _ h _ => h, fun _ _ _ h _ => h, fun _ _ _ ⟨u0_, u1_, e, h⟩ x => ⟨u0_, u1_, e, h.ext x⟩, fun _ _ _ ⟨e, h⟩ x => ⟨e, h.ext x⟩, fun _ _ _ h _ => h, trivial⟩ ?_ ?_
    ·refine ⟨⟨rfl, ?_⟩, ⟨rfl, ?_⟩, ⟨rfl, ?_⟩, ⟨rfl, ?_⟩, ⟨rfl, ?_⟩, trivial⟩
     ·rintro hp28 E_12
      refine Dep.nil ?_
      refine GuardOK.none rfl ?_
      exact OpV.toDx (opv_loadA (us := [(.int .i64 x6.1), (.int .i64 x6.2.1), (.bool x6.2.2.1), v15, v16]) rfl Try.agg29 Try.size29 rfl (Sep.at (o := boxO bb3 [(.int .i64 x6.1), (.int .i64 x6.2.1), (.bool x6.2.2.1), v15, v16]) (Sep.ext S_17 E_12) 4 rfl) rfl rfl) rfl
     ·rintro hp29 E_13
      refine Dep.nil ?_
      refine GuardOK.none rfl ?_
      exact OpV.toDx (opv_loadA (us := [(.int .i64 a0_0), (.int .i64 a0_1), (.bool a0_2), u0_3, u0_4]) rfl Try.agg24 Try.size24 rfl (Sep.at (o := boxO bb1 [(.int .i64 a0_0), (.int .i64 a0_1), (.bool a0_2), u0_3, u0_4]) (Sep.ext S_17 E_13) 8 rfl) rfl rfl) rfl
     ·rintro hp30 E_14 _ rfl
      refine Dep.nil ?_
      refine GuardOK.none rfl ?_
      exact OpV.mono (opv_call (cap := []) (laws_toSheet_ok _ _ _ _ _ _ (SL.up (SL.mod g0_3 (Mod.lift X_15 E_14) (Nat.le_refl _) nob) (Nat.le_trans (Nat.le_refl _) (Mod.size (Mod.lift X_15 E_14)))) _ _ (SL.up (SL.mod g0_4 (Mod.lift X_15 E_14) (Nat.le_refl _) nob) (Nat.le_trans (Nat.le_refl _) (Mod.size (Mod.lift X_15 E_14)))) _ hx11) rfl rfl ⟨rfl, trivial⟩ Try.func20 rfl rfl) (by rintro _ _ ⟨v23, v24, rfl, M_, T_⟩; exact ⟨Mod.ext M_, ⟨v23, v24, rfl, Sep.weak T_ (Ext.size E_14)⟩, Sep.fresh T_⟩)
     ·rintro hp31 E_15 _ rfl _ ⟨v23, v24, rfl, T_15⟩
      refine Dep.nil ?_
      refine GuardOK.none rfl ?_
      exact OpV.mono (opv_call (cap := []) (laws_eqSheet_ok _ _ _ _ _ _ (ownO.read (Sep.at (o := ownO (kF .f32) 40 v15 x6.2.2.2.1) (Sep.ext S_17 E_15) 5 rfl)) _ _ (ownO.read (Sep.at (o := ownO (kF .f32) 40 v16 x6.2.2.2.2) (Sep.ext S_17 E_15) 6 rfl)) _ _ _ _ _ (ownO.read (Sep.at (o := ownO (kF .f32) 40 v23 x11.2.2.2.1) T_15 0 rfl)) _ _ (ownO.read (Sep.at (o := ownO (kF .f32) 40 v24 x11.2.2.2.2) T_15 1 rfl)) _ hx12) rfl rfl ⟨rfl, rfl, trivial⟩ Try.func23 rfl rfl) (by rintro _ _ ⟨rfl, M_, T_⟩; exact ⟨Mod.ext M_, ⟨rfl, Sep.weak T_ (Ext.size E_15)⟩, Sep.fresh T_⟩)
     ·rintro hp32 E_16 _ ⟨rfl, T_16⟩
      refine Dep.nil ?_
      refine GuardOK.none rfl ?_
      exact OpV.toDx (opv_not rfl rfl) rfl
    rintro hp33 E_17 _ rfl
    refine DepM.nil ?_
    intro _ LK_
    have X_18 := Mod.lift X_15 E_17
    have S_20 := Sep.ext S_17 E_17
    show RL _ _ _ _ [] _ _
    refine RL.nil ?_
    refine thnN ?_
    by_cases c5 : (!x12) = true
    ·rw [if_pos c5] at hp
     refine W.condT rfl c5 ?_
     refine W.seq ?_
     refine W.region ?_
     refine RL.opD (by decide) (opv_assign rfl rfl) ?_
     refine RL.nil ?_
     refine thnN ?_
     refine W.ret ?_
     refine thnR ?_
     have er := Option.some.inj hp
     subst er
     exact Rt.one rfl rfl ⟨rfl, X_18, (Sep.nil _ _ _)⟩
    ·rw [if_neg c5] at hp
     have c5 := eq_false_of_ne_true c5
     refine W.condF rfl c5 ?_
     refine W.skip ?_
     refine thnN ?_
     refine W.seq ?_
     refine W.seq ?_
     obtain ⟨x13, hx13, hp⟩ := Option.bind_eq_some_iff.1 hp
     obtain ⟨x14, hx14, hp⟩ := Option.bind_eq_some_iff.1 hp
     refine W.sub (ψ := [(0, (.agg (List.toArray (α := Value) [(.int .i64 a0_0), (.int .i64 a0_1), (.bool a0_2), u0_3, u0_4]))), (1, (.agg (List.toArray (α := Value) [u1_0, u1_1, u1_2]))), (2, (.pointer (some ⟨bb1, 0, none⟩))), (3, (.pointer (some ⟨bb2, 0, none⟩))), (4, (.bool false)), (5, (.int .i64 x2)), (16, (.bool (decide (x1 < 0)))), (21, (.bool (decide (x2 < 0)))), (6, v8), (7, (.bool x5.2)), (8, (.pointer (some ⟨bb3, 0, none⟩))), (9, (.pointer (some ⟨bb4, 0, none⟩))), (10, v20), (11, (.bool x8.2)), (50, (.bool x9)), (55, (.bool (!x12)))]) ⟨rfl, rfl, rfl, rfl, rfl, rfl, rfl, rfl, rfl, rfl, rfl, rfl, rfl, rfl, rfl, rfl, trivial⟩ ?_
     refine W.regionM [fun v _ => @Eq Value (.agg (List.toArray (α := Value) [v17, v18, v19])) v, fun v _ => @Eq Value (.agg (List.toArray (α := Value) [u1_0, u1_1, u1_2])) v, fun v h => ∃ v27, ∃ v28, ∃ v29, @Eq Value v (.agg (List.toArray (α := Value) [v27, v28, v29])) ∧ Sep [] hp33.size h [ownO (kF .f32) 40 v27 x13.1, ownO (kF .f32) 40 v28 x13.2.1, ownO (kF .f32) 40 v29 x13.2.2], fun v h => @Eq Value v (.bool x14) ∧ Sep [] hp33.size h [], fun v _ => @Eq Value (.bool (!x14)) v] [none, none, some (fun u => [Value.ownBlock (vget u 0), Value.ownBlock (vget u 1), Value.ownBlock (vget u 2)]), some (fun u => []), none] [] [[], [], [1], [0, 2], [3]] [4] Try.mixed (by decide +kernel) (by decide +kernel) rfl rfl rfl (by decide +kernel) rfl ⟨fun _ _ _ h _ => h, fun _ _ _ h _ => h, fun _ _ _ ⟨u0_, u1_, u2_, e, h⟩ x => ⟨u0_, u1_, u2_, e, h.ext x⟩, fun _ _ _ ⟨e, h⟩ x => ⟨e, h.ext x⟩, fun _ _ _ h _ => h, trivial⟩ ?_ ?_
     ·refine ⟨⟨rfl, ?_⟩, ⟨rfl, ?_⟩, ⟨rfl, ?_⟩, ⟨rfl, ?_⟩, ⟨rfl, ?_⟩, trivial⟩
      ·rintro hp36 E_18
       refine Dep.nil ?_
       refine GuardOK.none rfl ?_
       exact OpV.toDx (opv_loadA (us := [v17, v18, v19]) rfl Try.agg53 Try.size53 rfl (Sep.at (o := boxO bb4 [v17, v18, v19]) (Sep.ext S_20 E_18) 0 rfl) rfl rfl) rfl
      ·rintro hp37 E_19
       refine Dep.nil ?_
       refine GuardOK.none rfl ?_
       exact OpV.toDx (opv_loadA (us := [u1_0, u1_1, u1_2]) rfl Try.agg49 Try.size49 rfl (Sep.at (o := boxO bb2 [u1_0, u1_1, u1_2]) (Sep.ext S_20 E_19) 7 rfl) rfl rfl) rfl
      ·rintro hp38 E_20 _ rfl
       refine Dep.nil ?_
       refine GuardOK.none rfl ?_
       exact OpV.mono (opv_call (cap := []) (laws_toField_ok _ _ _ (SL.up (SL.mod g1_0 (Mod.lift X_18 E_20) (Nat.le_refl _) nob) (Nat.le_trans (Nat.le_refl _) (Mod.size (Mod.lift X_18 E_20)))) _ _ (SL.up (SL.mod g1_1 (Mod.lift X_18 E_20) (Nat.le_refl _) nob) (Nat.le_trans (Nat.le_refl _) (Mod.size (Mod.lift X_18 E_20)))) _ _ (SL.up (SL.mod g1_2 (Mod.lift X_18 E_20) (Nat.le_refl _) nob) (Nat.le_trans (Nat.le_refl _) (Mod.size (Mod.lift X_18 E_20)))) _ hx13) rfl rfl ⟨rfl, trivial⟩ Try.func35 rfl rfl) (by rintro _ _ ⟨v27, v28, v29, rfl, M_, T_⟩; exact ⟨Mod.ext M_, ⟨v27, v28, v29, rfl, Sep.weak T_ (Ext.size E_20)⟩, Sep.fresh T_⟩)
      ·rintro hp39 E_21 _ rfl _ ⟨v27, v28, v29, rfl, T_17⟩
       refine Dep.nil ?_
       refine GuardOK.none rfl ?_
       exact OpV.mono (opv_call (cap := []) (laws_eqField_ok _ _ _ (ownO.read (Sep.at (o := ownO (kF .f32) 40 v17 x7.1) (Sep.ext S_20 E_21) 1 rfl)) _ _ (ownO.read (Sep.at (o := ownO (kF .f32) 40 v18 x7.2.1) (Sep.ext S_20 E_21) 2 rfl)) _ _ (ownO.read (Sep.at (o := ownO (kF .f32) 40 v19 x7.2.2) (Sep.ext S_20 E_21) 3 rfl)) _ _ (ownO.read (Sep.at (o := ownO (kF .f32) 40 v27 x13.1) T_17 0 rfl)) _ _ (ownO.read (Sep.at (o := ownO (kF .f32) 40 v28 x13.2.1) T_17 1 rfl)) _ _ (ownO.read (Sep.at (o := ownO (kF .f32) 40 v29 x13.2.2) T_17 2 rfl)) _ hx14) rfl rfl ⟨rfl, rfl, trivial⟩ Try.func38 rfl rfl) (by rintro _ _ ⟨rfl, M_, T_⟩; exact ⟨Mod.ext M_, ⟨rfl, Sep.weak T_ (Ext.size E_21)⟩, Sep.fresh T_⟩)
      ·rintro hp40 E_22 _ ⟨rfl, T_18⟩
       refine Dep.nil ?_
       refine GuardOK.none rfl ?_
       exact OpV.toDx (opv_not rfl rfl) rfl
     rintro hp41 E_23 _ rfl
     refine DepM.nil ?_
     intro _ LK_
     have X_21 := Mod.lift X_18 E_23
     have S_23 := Sep.ext S_20 E_23
     show RL _ _ _ _ [] _ _
     refine RL.nil ?_
     refine thnN ?_
     by_cases c6 : (!x14) = true
     ·rw [if_pos c6] at hp
      refine W.condT rfl c6 ?_
      refine W.seq ?_
      refine W.region ?_
      refine RL.opD (by decide) (opv_assign rfl rfl) ?_
      refine RL.nil ?_
      refine thnN ?_
      refine W.ret ?_
      refine thnR ?_
      have er := Option.some.inj hp
      subst er
      exact Rt.one rfl rfl ⟨rfl, X_21, (Sep.nil _ _ _)⟩
     ·rw [if_neg c6] at hp
      have c6 := eq_false_of_ne_true c6
      refine W.condF rfl c6 ?_
      refine W.skip ?_
      refine thnN ?_
      refine W.seq ?_
      refine W.region ?_
      refine RL.opD (by decide) (opv_assign rfl rfl) ?_
      refine RL.nil ?_
      refine thnN ?_
      refine W.ret ?_
      have er := Option.some.inj hp
      subst er
      exact Rt.one rfl rfl ⟨rfl, X_21, (Sep.nil _ _ _)⟩

end Go.H
