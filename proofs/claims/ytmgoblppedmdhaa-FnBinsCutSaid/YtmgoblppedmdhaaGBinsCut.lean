/- Functions of the program: what each computes, as a plain function, and that the call comes to it. Written by a program (wip/gen). -/
import Derived.Test.YtmgoblppedmdhaaGBase
import Derived.Test.YtmgoblppedmdhaaGSheet
import Derived.Test.YtmgoblppedmdhaaGSrc
import Derived.Test.YtmgoblppedmdhaaGSrc2
import Derived.Test.YtmgoblppedmdhaaGRec
import Derived.Test.YtmgoblppedmdhaaGTrig
import Derived.Test.YtmgoblppedmdhaaLibB
import Derived.Test.YtmgoblppedmdhaaProg
import Derived.KernelRfl
set_option linter.unusedVariables false
namespace Go.H
open Go Go.Proofs



noncomputable def laws_r8Gap (a0 : Option Nat) (a1 : Option Nat) : Option (Option Nat) :=
 some (fmax .f64 (fop .sub .f64 a0 a1) (fop .sub .f64 a1 a0))

noncomputable def spec_l01DrawFloats.s0 (a0_0 : List (Int)) (x1 : (Bool × Int × Int)) (x2 : Int) (x3 : List (Option Nat)) (x4 : Int) (x5 : Int) : Option ((Int × (List (Option Nat)) × Int × Int) ⊕ (Int × Bool × Int × Int × (List (Option Nat)))) :=
 (if (decide (x2 > 0)) = true then (((if x1.1 = true then ((spec_l01DrawFloat a0_0 x4 x5).bind fun (x14 : ((Option Nat) × Int × Int)) => (if x3.length + [x14.1].length ≤ 1000000000 then some (x14.2.1, x14.2.2, x3 ++ [x14.1]) else none)) else ((spec_l01DrawPlain a0_0 x4 x5).bind fun (x15 : ((Option Nat) × Int × Int)) => (if x3.length + [x15.1].length ≤ 1000000000 then some (x15.2.1, x15.2.2, x3 ++ [x15.1]) else none))) : Option (Int × Int × (List (Option Nat)))).bind fun (⟨x11, x12, x13⟩ : (Int × Int × (List (Option Nat)))) => some (.inl (IntKind.wrap .i64 (x2 - 1), x13, x11, x12))) else some (.inr (x2, decide (x2 > 0), x4, x5, x3)))

noncomputable def spec_l01DrawFloats (a0_0 : List (Int)) (a0_1 : Int) (a0_2 : Int) (a1 : Int) : Option ((List (Option Nat)) × Int × Int) :=
 ((spec_l00Src_one a0_0 a0_1 a0_2 4).bind fun (x1 : (Bool × Int × Int)) => ((loopF (fun (s : (Int × (List (Option Nat)) × Int × Int)) => spec_l01DrawFloats.s0 a0_0 x1 s.1 s.2.1 s.2.2.1 s.2.2.2) (a1, ([] : List (Option Nat)), x1.2.1, x1.2.2)).bind fun (⟨x6, x7, x8, x9, x10⟩ : (Int × Bool × Int × Int × (List (Option Nat)))) => some (x10, x8, x9)))

noncomputable def spec_R8Numbers (a0 : List (Int)) (a1 : Int) : Option (List (Option Nat)) :=
 ((spec_l00From a0).bind fun (x1 : (Int × Int)) => ((spec_l01DrawFloats a0 x1.1 x1.2 a1).bind fun (x2 : ((List (Option Nat)) × Int × Int)) => some x2.1))

noncomputable def impl_isTick (a0 : Int) : Option Bool :=
 ((impl_within a0 0 1000000).bind fun (x1 : Bool) => some x1)

noncomputable def impl_ValidBin (a0_0 : Option Nat) (a0_1 : Int) (a0_2 : (Option Nat × Option Nat)) : Option Bool :=
 ((((impl_IsFinite a0_0).bind fun (x2 : Bool) => (if x2 = true then ((impl_isTick a0_1).bind fun (x3 : Bool) => some x3) else some false)) : Option Bool).bind fun (x1 : Bool) => some x1)

noncomputable def impl_add (a0 : (Option Nat × Option Nat)) (a1 : (Option Nat × Option Nat)) : Option (Option Nat × Option Nat) :=
 some (fop .add .f32 a0.1 a1.1, fop .add .f32 a0.2 a1.2)

noncomputable def impl_ScaleComplex (a0 : (Option Nat × Option Nat)) (a1 : Option Nat) : Option (Option Nat × Option Nat) :=
 some (fop .mul .f32 a0.1 a1, fop .mul .f32 a0.2 a1)

noncomputable def impl_term (a0 : Option Nat) (a1 : Int) (a2 : Option Nat) : Option (Option Nat × Option Nat) :=
 ((impl_PhasorOf (fneg .f64 (fop .mul .f64 (fofi .f64 a1) (wid a2)))).bind fun (x1 : (Option Nat × Option Nat)) => ((impl_ScaleComplex x1 a0).bind fun (x2 : (Option Nat × Option Nat)) => some x2))

noncomputable def impl_StepBin (a0_0 : Option Nat) (a0_1 : Int) (a0_2 : (Option Nat × Option Nat)) (a1 : Option Nat) : Option ((Option Nat) × Int × (Option Nat × Option Nat) × Bool) :=
 ((((impl_ValidBin a0_0 a0_1 a0_2).bind fun (x2 : Bool) => (if (!x2) = true then some true else some (a0_1 == 1000000))) : Option Bool).bind fun (x1 : Bool) => (if x1 = true then some ((some 0), 0, (some 0, some 0), false) else ((impl_term a1 a0_1 a0_0).bind fun (x3 : (Option Nat × Option Nat)) => ((impl_add a0_2 x3).bind fun (x4 : (Option Nat × Option Nat)) => some (a0_0, IntKind.wrap .i64 (a0_1 + 1), x4, true)))))

noncomputable def impl_RunBin.s0 (a1 : List (Option Nat)) (x3 : Bool) (x4 : Int) (x5 : Option Nat) (x6 : Int) (x7 : (Option Nat × Option Nat)) : Option ((Bool × Int × (Option Nat) × Int × (Option Nat × Option Nat)) ⊕ ((Bool × Int × Bool × (Option Nat) × Int × (Option Nat × Option Nat)) ⊕ ((Option Nat) × Int × (Option Nat × Option Nat) × Bool))) :=
 (if (decide (x4 < (a1.length : Int))) = true then ((idx a1 x4).bind fun (x14 : Option Nat) => ((impl_StepBin x5 x6 x7 x14).bind fun (x15 : ((Option Nat) × Int × (Option Nat × Option Nat) × Bool)) => (if (!x15.2.2.2) = true then some (.inr (.inr ((some 0), 0, (some 0, some 0), false))) else some (.inl (x3, IntKind.wrap .i64 (x4 + 1), x15.1, x15.2.1, x15.2.2.1))))) else some (.inr (.inl (x3, x4, decide (x4 < (a1.length : Int)), x5, x6, x7))))

noncomputable def impl_RunBin (a0_0 : Option Nat) (a0_1 : Int) (a0_2 : (Option Nat × Option Nat)) (a1 : List (Option Nat)) : Option ((Option Nat) × Int × (Option Nat × Option Nat) × Bool) :=
 ((((impl_ValidBin a0_0 a0_1 a0_2).bind fun (x2 : Bool) => (if (!x2) = true then some true else some (decide ((a1.length : Int) > 64)))) : Option Bool).bind fun (x1 : Bool) => (if x1 = true then some ((some 0), 0, (some 0, some 0), false) else ((loopF (fun (s : (Bool × Int × (Option Nat) × Int × (Option Nat × Option Nat))) => impl_RunBin.s0 a1 s.1 s.2.1 s.2.2.1 s.2.2.2.1 s.2.2.2.2) (false, 0, a0_0, a0_1, a0_2)).bind fun (y2 : ((Bool × Int × Bool × (Option Nat) × Int × (Option Nat × Option Nat)) ⊕ ((Option Nat) × Int × (Option Nat × Option Nat) × Bool))) => match y2 with | .inl (x8, x9, x10, x11, x12, x13) => some (x11, x12, x13, true) | .inr r1 => some r1)))

noncomputable def impl_BinOf.s0 (a0 : List (Option Nat)) (a1 : Option Nat) (x4 : (Option Nat × Option Nat)) (x5 : Int) : Option (((Option Nat × Option Nat) × Int) ⊕ ((Option Nat × Option Nat) × Int × Bool)) :=
 (if (decide (x5 < (a0.length : Int))) = true then ((idx a0 x5).bind fun (x9 : Option Nat) => ((impl_term x9 x5 a1).bind fun (x10 : (Option Nat × Option Nat)) => ((impl_add x4 x10).bind fun (x11 : (Option Nat × Option Nat)) => some (.inl (x11, IntKind.wrap .i64 (x5 + 1)))))) else some (.inr (x4, x5, decide (x5 < (a0.length : Int)))))

noncomputable def impl_BinOf (a0 : List (Option Nat)) (a1 : Option Nat) : Option ((Option Nat × Option Nat) × Bool) :=
 ((((impl_isRecord_float32 a0).bind fun (x2 : Bool) => (if (!x2) = true then some true else ((impl_IsFinite a1).bind fun (x3 : Bool) => some (!x3)))) : Option Bool).bind fun (x1 : Bool) => (if x1 = true then some ((some 0, some 0), false) else ((loopF (fun (s : ((Option Nat × Option Nat) × Int)) => impl_BinOf.s0 a0 a1 s.1 s.2) ((some 0, some 0), 0)).bind fun (⟨x6, x7, x8⟩ : ((Option Nat × Option Nat) × Int × Bool)) => some (x6, true))))

noncomputable def math_Signbit (a0 : Option Nat) : Option Bool :=
 fsign a0

noncomputable def impl_SameNumber (a0 : Option Nat) (a1 : Option Nat) : Option Bool :=
 (((if (fcmp .neq .f32 a0 a0) = true then some true else some (fcmp .neq .f32 a1 a1)) : Option Bool).bind fun (x1 : Bool) => (if x1 = true then (((if (fcmp .neq .f32 a0 a0) = true then some (fcmp .neq .f32 a1 a1) else some false) : Option Bool).bind fun (x2 : Bool) => some x2) else (((if (fcmp .eql .f32 a0 a1) = true then ((math_Signbit (wid a0)).bind fun (x4 : Bool) => ((math_Signbit (wid a1)).bind fun (x5 : Bool) => some (x4 == x5))) else some false) : Option Bool).bind fun (x3 : Bool) => some x3)))

noncomputable def impl_SameComplex (a0 : (Option Nat × Option Nat)) (a1 : (Option Nat × Option Nat)) : Option Bool :=
 ((((impl_SameNumber a0.1 a1.1).bind fun (x2 : Bool) => (if x2 = true then ((impl_SameNumber a0.2 a1.2).bind fun (x3 : Bool) => some x3) else some false)) : Option Bool).bind fun (x1 : Bool) => some x1)

noncomputable def impl_windowAt (a0 : Int) (a1 : Int) (a2 : Int) : Option (Option Nat) :=
 (if (a0 == 0) = true then some (some 1065353216) else (if (a0 == 1) = true then some (fop .quo .f32 (fop .mul .f32 (some 1073741824) (fofi .f32 (imin (IntKind.wrap .i64 (a2 + 1)) (IntKind.wrap .i64 (a1 - a2))))) (fofi .f32 (IntKind.wrap .i64 (a1 + 1)))) else ((impl_SineTurns (fop .add .f32 (some 1048576000) (fop .quo .f32 (fofi .f32 (IntKind.wrap .i64 (a2 + 1))) (fofi .f32 (IntKind.wrap .i64 (a1 + 1)))))).bind fun (x1 : Option Nat) => some (fop .sub .f32 (some 1056964608) (fop .quo .f32 x1 (some 1073741824))))))

noncomputable def impl_WindowOf.s0 (a0 : Int) (a1 : Int) (x4 : List (Option Nat)) (x5 : Int) : Option (((List (Option Nat)) × Int) ⊕ (Int × Bool × (List (Option Nat)))) :=
 (if (decide (x5 < a1)) = true then ((impl_windowAt a0 a1 x5).bind fun (x9 : Option Nat) => (if x4.length + [x9].length ≤ 1000000000 then some (.inl (x4 ++ [x9], IntKind.wrap .i64 (x5 + 1))) else none)) else some (.inr (x5, decide (x5 < a1), x4)))

noncomputable def impl_WindowOf (a0 : Int) (a1 : Int) : Option ((List (Option Nat)) × Bool) :=
 ((((impl_within a0 0 2).bind fun (x2 : Bool) => (if (!x2) = true then some true else ((impl_within a1 1 64).bind fun (x3 : Bool) => some (!x3)))) : Option Bool).bind fun (x1 : Bool) => (if x1 = true then some (([] : List (Option Nat)), false) else ((loopF (fun (s : ((List (Option Nat)) × Int)) => impl_WindowOf.s0 a0 a1 s.1 s.2) (([] : List (Option Nat)), 0)).bind fun (⟨x6, x7, x8⟩ : (Int × Bool × (List (Option Nat)))) => some (x8, true))))

noncomputable def impl_TimesWindow_1 (a0 : Option Nat) (a1 : Option Nat) : Option (Option Nat) :=
 some (fop .mul .f32 a0 a1)

noncomputable def impl_both__impl_TimesWindow_1.s0 (a0 : List (Option Nat)) (a1 : List (Option Nat)) (x1 : List (Option Nat)) (x2 : Int) : Option (((List (Option Nat)) × Int) ⊕ (Int × Bool × (List (Option Nat)))) :=
 (if (decide (x2 < (a0.length : Int))) = true then ((idx a0 x2).bind fun (x6 : Option Nat) => ((idx a1 x2).bind fun (x7 : Option Nat) => ((impl_TimesWindow_1 x6 x7).bind fun (x8 : Option Nat) => (if x1.length + [x8].length ≤ 1000000000 then some (.inl (x1 ++ [x8], IntKind.wrap .i64 (x2 + 1))) else none)))) else some (.inr (x2, decide (x2 < (a0.length : Int)), x1)))

noncomputable def impl_both__impl_TimesWindow_1 (a0 : List (Option Nat)) (a1 : List (Option Nat)) : Option (List (Option Nat)) :=
 ((loopF (fun (s : ((List (Option Nat)) × Int)) => impl_both__impl_TimesWindow_1.s0 a0 a1 s.1 s.2) (([] : List (Option Nat)), 0)).bind fun (⟨x3, x4, x5⟩ : (Int × Bool × (List (Option Nat)))) => some x5)

noncomputable def impl_TimesWindow (a0 : List (Option Nat)) (a1 : List (Option Nat)) : Option ((List (Option Nat)) × Bool) :=
 ((((impl_isRecord_float32 a0).bind fun (x2 : Bool) => (if (!x2) = true then some true else some ((a1.length : Int) != (a0.length : Int)))) : Option Bool).bind fun (x1 : Bool) => (if x1 = true then some (([] : List (Option Nat)), false) else ((impl_both__impl_TimesWindow_1 a0 a1).bind fun (x3 : List (Option Nat)) => some (x3, true))))

noncomputable def laws_FnBinsCut.s1 (x2 : Int) (x31 : ((List (Option Nat)) × Bool)) (x33 : Bool) (x34 : Int) : Option ((Bool × Int) ⊕ ((Bool × Int × Bool) ⊕ Bool)) :=
 (if (decide (x34 < (IntKind.wrap .i64 (1 + x2)))) = true then ((((idx x31.1 x34).bind fun (x39 : Option Nat) => (if (!(fcmp .geq .f32 x39 (some 0))) = true then some true else ((idx x31.1 x34).bind fun (x40 : Option Nat) => (if (fcmp .gtr .f64 (wid x40) (some 4607182869159980145)) = true then some true else ((idx x31.1 x34).bind fun (x41 : Option Nat) => ((idx x31.1 (IntKind.wrap .i64 ((IntKind.wrap .i64 ((IntKind.wrap .i64 (1 + x2)) - 1)) - x34))).bind fun (x42 : Option Nat) => ((laws_r8Gap (wid x41) (wid x42)).bind fun (x43 : Option Nat) => some (fcmp .gtr .f64 x43 (some 4547007122018943789))))))))) : Option Bool).bind fun (x38 : Bool) => (if x38 = true then some (.inr (.inr false)) else some (.inl (x33, IntKind.wrap .i64 (x34 + 1))))) else some (.inr (.inl (x33, x34, decide (x34 < (IntKind.wrap .i64 (1 + x2)))))))

noncomputable def laws_FnBinsCut.s0 (x2 : Int) (x3 : List (Option Nat)) (x12 : Bool) (x13 : Int) (x14 : Option Nat) (x15 : Int) (x16 : (Option Nat × Option Nat)) : Option ((Bool × Int × (Option Nat) × Int × (Option Nat × Option Nat)) ⊕ ((Bool × Int × Bool × (Option Nat) × Int × (Option Nat × Option Nat)) ⊕ Bool)) :=
 (if (decide (x13 < (IntKind.wrap .i64 (1 + x2)))) = true then ((idx x3 x13).bind fun (x23 : Option Nat) => ((impl_StepBin x14 x15 x16 x23).bind fun (x24 : ((Option Nat) × Int × (Option Nat × Option Nat) × Bool)) => (if (!x24.2.2.2) = true then some (.inr (.inr false)) else some (.inl (x12, IntKind.wrap .i64 (x13 + 1), x24.1, x24.2.1, x24.2.2.1))))) else some (.inr (.inl (x12, x13, decide (x13 < (IntKind.wrap .i64 (1 + x2))), x14, x15, x16))))

noncomputable def laws_FnBinsCut (a0 : List (Int)) (a1 : List (Int)) : Option Bool :=
 ((laws_r8Long a0 a1).bind fun (x1 : Bool) => (if x1 = true then some true else ((laws_r8At a1 40 12).bind fun (x2 : Int) => ((spec_R8Numbers a0 (IntKind.wrap .i64 (1 + x2))).bind fun (x3 : List (Option Nat)) => ((laws_r8At a1 41 33).bind fun (x4 : Int) => ((laws_r8At a1 42 (IntKind.wrap .i64 ((IntKind.wrap .i64 (1 + x2)) + 1))).bind fun (x5 : Int) => ((impl_RunBin (fop .quo .f32 (fofi .f32 (IntKind.wrap .i64 (x4 - 16))) (some 1107296256)) 0 (some 0, some 0) x3).bind fun (x6 : ((Option Nat) × Int × (Option Nat × Option Nat) × Bool)) => ((sub x3 0 x5).bind fun (x7 : List (Option Nat)) => ((impl_RunBin (fop .quo .f32 (fofi .f32 (IntKind.wrap .i64 (x4 - 16))) (some 1107296256)) 0 (some 0, some 0) x7).bind fun (x8 : ((Option Nat) × Int × (Option Nat × Option Nat) × Bool)) => ((sub x3 x5 (x3.length : Int)).bind fun (x9 : List (Option Nat)) => ((impl_RunBin x8.1 x8.2.1 x8.2.2.1 x9).bind fun (x10 : ((Option Nat) × Int × (Option Nat × Option Nat) × Bool)) => ((impl_BinOf x3 (fop .quo .f32 (fofi .f32 (IntKind.wrap .i64 (x4 - 16))) (some 1107296256))).bind fun (x11 : ((Option Nat × Option Nat) × Bool)) => ((loopF (fun (s : (Bool × Int × (Option Nat) × Int × (Option Nat × Option Nat))) => laws_FnBinsCut.s0 x2 x3 s.1 s.2.1 s.2.2.1 s.2.2.2.1 s.2.2.2.2) (false, 0, fop .quo .f32 (fofi .f32 (IntKind.wrap .i64 (x4 - 16))) (some 1107296256), 0, (some 0, some 0))).bind fun (y1 : ((Bool × Int × Bool × (Option Nat) × Int × (Option Nat × Option Nat)) ⊕ Bool)) => match y1 with | .inl (x17, x18, x19, x20, x21, x22) => (((if (!x6.2.2.2) = true then some true else (if (!x8.2.2.2) = true then some true else (if (!x10.2.2.2) = true then some true else (if (!x11.2) = true then some true else ((impl_ValidBin x6.1 x6.2.1 x6.2.2.1).bind fun (x26 : Bool) => (if (!x26) = true then some true else (if (x6.2.1 != (IntKind.wrap .i64 (1 + x2))) = true then some true else (if (x10.2.1 != (IntKind.wrap .i64 (1 + x2))) = true then some true else ((impl_SameComplex x6.2.2.1 x10.2.2.1).bind fun (x27 : Bool) => (if (!x27) = true then some true else ((impl_SameComplex x6.2.2.1 x11.1).bind fun (x28 : Bool) => (if (!x28) = true then some true else ((impl_SameComplex x22 x11.1).bind fun (x29 : Bool) => some (!x29)))))))))))))) : Option Bool).bind fun (x25 : Bool) => (if x25 = true then some false else ((laws_r8At a1 43 3).bind fun (x30 : Int) => ((impl_WindowOf x30 (IntKind.wrap .i64 (1 + x2))).bind fun (x31 : ((List (Option Nat)) × Bool)) => (((if (!x31.2) = true then some true else some ((x31.1.length : Int) != (IntKind.wrap .i64 (1 + x2)))) : Option Bool).bind fun (x32 : Bool) => (if x32 = true then some false else ((loopF (fun (s : (Bool × Int)) => laws_FnBinsCut.s1 x2 x31 s.1 s.2) (x17, 0)).bind fun (y4 : ((Bool × Int × Bool) ⊕ Bool)) => match y4 with | .inl (x35, x36, x37) => ((impl_TimesWindow x3 x31.1).bind fun (x44 : ((List (Option Nat)) × Bool)) => (((if x44.2 = true then (if ((x44.1.length : Int) == (IntKind.wrap .i64 (1 + x2))) = true then ((idx x44.1 0).bind fun (x46 : Option Nat) => ((idx x3 0).bind fun (x47 : Option Nat) => ((idx x31.1 0).bind fun (x48 : Option Nat) => ((impl_SameNumber x46 (fop .mul .f32 x47 x48)).bind fun (x49 : Bool) => some x49)))) else some false) else some false) : Option Bool).bind fun (x45 : Bool) => some x45)) | .inr r1 => some r1))))))) | .inr r2 => some r2)))))))))))))

set_option maxRecDepth 20000 in
theorem laws_r8Gap_ok (h0 : Heap) (u0 : Value) (a0 : Option Nat) (g0 : IsF .f64 u0 a0) (u1 : Value) (a1 : Option Nat) (g1 : IsF .f64 u1 a1) (r : Option Nat) (hp : laws_r8Gap a0 a1 = some r) : CallsH Try.prog 21 ([u0, u1].toArray ++ [].toArray) h0 (fun v h' => IsF .f64 v r ∧ h0 = h') := by
 unfold laws_r8Gap at hp
 refine callsH_of_W (l := [u0, u1]) (cap := []) 12 Try.func21 rfl rfl rfl ?_
 refine W.seq ?_
 refine W.region ?_
 refine RL.opD (by decide) (opv_assign rfl rfl) ?_
 refine RL.nil ?_
 refine thnN ?_
 refine W.seq ?_
 refine W.region ?_
 refine RL.opD (by decide) (opv_move rfl rfl) ?_
 refine RL.opD (by decide) (opv_move rfl rfl) ?_
 refine RL.opF (by decide) (opv_fop rfl rfl rfl rfl g0 g1) ?_
 intro v1 fv1
 refine RL.opD (by decide) (opv_move rfl rfl) ?_
 refine RL.opD (by decide) (opv_move rfl rfl) ?_
 refine RL.opF (by decide) (opv_fop rfl rfl rfl rfl g1 g0) ?_
 intro v2 fv2
 refine RL.opF (by decide) (opv_fmax rfl rfl rfl fv1 fv2) ?_
 intro v3 fv3
 refine RL.opD (by decide) (opv_assign rfl rfl) ?_
 refine RL.nil ?_
 refine thnN ?_
 refine W.ret ?_
 have er := Option.some.inj hp
 subst er
 exact Rt.one rfl rfl ⟨fv3, rfl⟩

set_option maxRecDepth 20000 in
theorem spec_l01DrawFloats_ok (h0 : Heap) (lo : Nat) (hlo : lo ≤ h0.size) (b0 : Nat) (u0_0 : Value) (a0_0 : List (Int)) (g0_0 : SL (kI .u8) lo h0 u0_0 a0_0) (a0_1 : Int) (a0_2 : Int) (a1 : Int) (S0 : Sep [some b0] h0.size h0 [boxO b0 [u0_0, (.int .i64 a0_1), (.int .u64 a0_2)]]) (hB : ∀ b, some b ∈ [some b0] → lo ≤ b) (r : ((List (Option Nat)) × Int × Int)) (hp : spec_l01DrawFloats a0_0 a0_1 a0_2 a1 = some r) : CallsH Try.prog 82 ([(.pointer (some ⟨b0, 0, none⟩)), (.int .i64 a1)].toArray ++ [].toArray) h0 (fun v h' => Mod [some b0] h0 h' ∧ Sep [some b0] h0.size h' [ownO (kF .f32) 29 v r.1, boxO b0 [u0_0, (.int .i64 r.2.1), (.int .u64 r.2.2)]]) := by
 unfold spec_l01DrawFloats at hp
 refine callsH_of_W (l := [(.pointer (some ⟨b0, 0, none⟩)), (.int .i64 a1)]) (cap := []) 26 Try.func82 rfl rfl rfl ?_
 refine W.seq ?_
 refine W.region ?_
 refine RL.opD (by decide) (opv_assign rfl rfl) ?_
 have S_1 : Sep [some b0] h0.size h0 [ownO (kF .f32) 29 (.slice none 0 0) ([] : List (Option Nat)), boxO b0 [u0_0, (.int .i64 a0_1), (.int .u64 a0_2)]] := Sep.addNil S0
 refine RL.nil ?_
 refine thnN ?_
 refine W.seq ?_
 refine W.region ?_
 refine RL.op _ (by decide) (opS_lit0 (K := (kF .f32)) rfl Try.underlying25 Try.isinfo29) ?_
 rintro v1 hp1 ⟨MT_1, T_1⟩
 obtain ⟨X_1, S_2⟩ := Sep.turn0 (Mod.refl [some b0] h0) S_1 MT_1 T_1
 refine RL.opD (by decide) (opv_assign rfl rfl) ?_
 refine RL.nil ?_
 refine thnN ?_
 refine W.seq ?_
 refine W.region ?_
 refine RL.opD (by decide) (opv_move rfl rfl) ?_
 obtain ⟨x1, hx1, hp⟩ := Option.bind_eq_some_iff.1 hp
 have S_4 : Sep [some b0] h0.size hp1 [boxO b0 [u0_0, (.int .i64 a0_1), (.int .u64 a0_2)]] := Sep.sel S_2 [2] (by decide)
 have S_3 : Sep [some b0] hp1.size hp1 [boxO b0 [u0_0, (.int .i64 a0_1), (.int .u64 a0_2)]] := Sep.own S_4 _
 refine RL.op _ (by decide) (opv_call (cap := []) (spec_l00Src_one_ok _ lo (Nat.le_trans hlo (Mod.size X_1)) _ _ _ (SL.mod g0_0 X_1 hlo hB) _ _ _ S_3 (Sep.ge (L := [boxO b0 [u0_0, (.int .i64 a0_1), (.int .u64 a0_2)]]) S_4 hlo hB) _ hx1) rfl rfl ⟨rfl, rfl, trivial⟩ Try.func140 rfl rfl) ?_
 rintro _ hp2 ⟨rfl, MT_2, T_2⟩
 have S_5 : Sep [some b0] h0.size hp1 ([boxO b0 [u0_0, (.int .i64 a0_1), (.int .u64 a0_2)]] ++ [ownO (kF .f32) 29 v1 ([] : List (Option Nat)), ownO (kF .f32) 29 (.slice none 0 0) ([] : List (Option Nat))]) := Sep.sel S_2 [2, 0, 1] (by decide)
 obtain ⟨X_2, S_6⟩ := Sep.turn X_1 S_5 MT_2 T_2
 refine RL.opD (by decide) (opv_assign rfl rfl) ?_
 refine RL.nil ?_
 refine thnN ?_
 refine W.seq ?_
 obtain ⟨y1, hy1, hp⟩ := Option.bind_eq_some_iff.1 hp
 refine W.cut (fun φ' h' => ∃ x6, ∃ x7, ∃ x8, ∃ x9, ∃ x10, ∃ v3, y1 = (x6, x7, x8, x9, x10) ∧ Fr.sub [(0, (.pointer (some ⟨b0, 0, none⟩))), (4, (.slice none 0 0)), (6, (.bool x1.1)), (1, (.int .i64 x6)), (11, (.bool x7)), (5, v3)] φ' ∧ Mod [some b0] h0 h' ∧ Sep [some b0] h0.size h' [boxO b0 [u0_0, (.int .i64 x8), (.int .u64 x9)], ownO (kF .f32) 29 (.slice none 0 0) ([] : List (Option Nat)), ownO (kF .f32) 29 v3 x10]) ?_ ?_
 ·refine W.block ?_
  refine W.loopS (fun (s : (Int × (List (Option Nat)) × Int × Int)) φ' h' => ∃ v2, Fr.sub [(0, (.pointer (some ⟨b0, 0, none⟩))), (4, (.slice none 0 0)), (6, (.bool x1.1)), (1, (.int .i64 s.1)), (5, v2)] φ' ∧ Mod [some b0] h0 h' ∧ Sep [some b0] h0.size h' [boxO b0 [u0_0, (.int .i64 s.2.2.1), (.int .u64 s.2.2.2)], ownO (kF .f32) 29 v2 s.2.1, ownO (kF .f32) 29 (.slice none 0 0) ([] : List (Option Nat))]) hy1 ⟨v1, ⟨rfl, rfl, rfl, rfl, rfl, trivial⟩, X_2, (Sep.sel S_6 [0, 1, 2] (by decide))⟩ ?_
  rintro ⟨x2, x3, x4, x5⟩ φ' hp3 o1 ⟨v2, hs1, X_3, S_7⟩ ho1 hy1
  have hs1 : Fr.sub [(0, (.pointer (some ⟨b0, 0, none⟩))), (4, (.slice none 0 0)), (6, (.bool x1.1)), (1, (.int .i64 x2)), (5, v2)] φ' := hs1
  have S_7 : Sep [some b0] h0.size hp3 [boxO b0 [u0_0, (.int .i64 x4), (.int .u64 x5)], ownO (kF .f32) 29 v2 x3, ownO (kF .f32) 29 (.slice none 0 0) ([] : List (Option Nat))] := S_7
  have ho1 : spec_l01DrawFloats.s0 a0_0 x1 x2 x3 x4 x5 = some o1 := ho1
  unfold spec_l01DrawFloats.s0 at ho1
  refine W.sub hs1 ?_
  refine W.seq ?_
  refine W.seq ?_
  refine W.region ?_
  refine RL.opD (by decide) (opv_move rfl rfl) ?_
  refine RL.opD (by decide) (opv_icmp rfl rfl rfl rfl) ?_
  refine RL.nil ?_
  refine thnN ?_
  by_cases c1 : (decide (x2 > 0)) = true
  ·rw [if_pos c1] at ho1
   refine W.condT rfl c1 ?_
   refine W.skip ?_
   refine thnN ?_
   refine W.seq ?_
   refine W.block ?_
   refine W.seq ?_
   refine W.region ?_
   refine RL.opD (by decide) (opv_move rfl rfl) ?_
   refine RL.nil ?_
   refine thnN ?_
   obtain ⟨⟨x11, x12, x13⟩, hy2, ho1⟩ := Option.bind_eq_some_iff.1 ho1
   try dsimp only at ho1
   refine W.cut (fun φ' h' => ∃ v4, Fr.sub [(0, (.pointer (some ⟨b0, 0, none⟩))), (4, (.slice none 0 0)), (6, (.bool x1.1)), (1, (.int .i64 x2)), (11, (.bool (decide (x2 > 0)))), (14, (.bool x1.1)), (5, v4)] φ' ∧ Mod [some b0] h0 h' ∧ Sep [some b0] h0.size h' [boxO b0 [u0_0, (.int .i64 x11), (.int .u64 x12)], ownO (kF .f32) 29 (.slice none 0 0) ([] : List (Option Nat)), ownO (kF .f32) 29 v4 x13]) ?_ ?_
   ·by_cases c2 : x1.1 = true
    ·rw [if_pos c2] at hy2
     refine W.condT rfl c2 ?_
     refine W.region ?_
     refine RL.opD (by decide) (opv_move rfl rfl) ?_
     refine RL.opD (by decide) (opv_move rfl rfl) ?_
     obtain ⟨x14, hx14, hy2⟩ := Option.bind_eq_some_iff.1 hy2
     have S_9 : Sep [some b0] h0.size hp3 [boxO b0 [u0_0, (.int .i64 x4), (.int .u64 x5)]] := Sep.sel S_7 [0] (by decide)
     have S_8 : Sep [some b0] hp3.size hp3 [boxO b0 [u0_0, (.int .i64 x4), (.int .u64 x5)]] := Sep.own S_9 _
     refine RL.op _ (by decide) (opv_call (cap := []) (spec_l01DrawFloat_ok _ lo (Nat.le_trans hlo (Mod.size X_3)) _ _ _ (SL.mod g0_0 X_3 hlo hB) _ _ S_8 (Sep.ge (L := [boxO b0 [u0_0, (.int .i64 x4), (.int .u64 x5)]]) S_9 hlo hB) _ hx14) rfl rfl ⟨rfl, trivial⟩ Try.func141 rfl rfl) ?_
     rintro v5 hp4 ⟨fv5, MT_3, T_3⟩
     have S_10 : Sep [some b0] h0.size hp3 ([boxO b0 [u0_0, (.int .i64 x4), (.int .u64 x5)]] ++ [ownO (kF .f32) 29 v2 x3, ownO (kF .f32) 29 (.slice none 0 0) ([] : List (Option Nat))]) := Sep.sel S_7 [0, 1, 2] (by decide)
     obtain ⟨X_4, S_11⟩ := Sep.turn X_3 S_10 MT_3 T_3
     refine RL.op _ (by decide) (opS_lit1 (K := (kF .f32)) (z := x14.1) rfl Try.underlying25 Try.einfo29 rfl rfl rfl rfl ⟨_, rfl, fv5⟩) ?_
     rintro v6 hp5 ⟨MT_4, T_4⟩
     obtain ⟨X_5, S_12⟩ := Sep.turn0 X_4 S_11 MT_4 T_4
     obtain ⟨c3, hy2⟩ := of_ite hy2
     refine RL.op _ (by decide) (opS_append (K := (kF .f32)) rfl Try.underlying25 Try.einfo29 rfl rfl rfl rfl (Sep.at (o := ownO (kF .f32) 29 v2 x3) S_12 2 rfl) (ownO.read (Sep.at (o := ownO (kF .f32) 29 v6 [x14.1]) S_12 0 rfl)) (by decide) (by decide) c3) ?_
     rintro v7 hp6 ⟨MT_5, T_5⟩
     have S_13 : Sep [some b0] h0.size hp5 ([ownO (kF .f32) 29 v2 x3] ++ [ownO (kF .f32) 29 v6 [x14.1], boxO b0 [u0_0, (.int .i64 x14.2.1), (.int .u64 x14.2.2)], ownO (kF .f32) 29 (.slice none 0 0) ([] : List (Option Nat))]) := Sep.sel S_12 [2, 0, 1, 3] (by decide)
     obtain ⟨X_6, S_14⟩ := Sep.turn X_5 S_13 MT_5 T_5
     refine RL.opD (by decide) (opv_assign rfl rfl) ?_
     refine RL.nil ?_
     have ey2 := Option.some.inj hy2
     simp only [Prod.mk.injEq] at ey2
     obtain ⟨rfl, rfl, rfl⟩ := ey2
     refine onlyN ?_
     exact ⟨v7, ⟨rfl, rfl, rfl, rfl, rfl, rfl, rfl, trivial⟩, X_6, (Sep.sel S_14 [2, 3, 0] (by decide))⟩
    ·rw [if_neg c2] at hy2
     have c2 := eq_false_of_ne_true c2
     refine W.condF rfl c2 ?_
     refine W.region ?_
     refine RL.opD (by decide) (opv_move rfl rfl) ?_
     refine RL.opD (by decide) (opv_move rfl rfl) ?_
     obtain ⟨x15, hx15, hy2⟩ := Option.bind_eq_some_iff.1 hy2
     have S_16 : Sep [some b0] h0.size hp3 [boxO b0 [u0_0, (.int .i64 x4), (.int .u64 x5)]] := Sep.sel S_7 [0] (by decide)
     have S_15 : Sep [some b0] hp3.size hp3 [boxO b0 [u0_0, (.int .i64 x4), (.int .u64 x5)]] := Sep.own S_16 _
     refine RL.op _ (by decide) (opv_call (cap := []) (spec_l01DrawPlain_ok _ lo (Nat.le_trans hlo (Mod.size X_3)) _ _ _ (SL.mod g0_0 X_3 hlo hB) _ _ S_15 (Sep.ge (L := [boxO b0 [u0_0, (.int .i64 x4), (.int .u64 x5)]]) S_16 hlo hB) _ hx15) rfl rfl ⟨rfl, trivial⟩ Try.func142 rfl rfl) ?_
     rintro v8 hp7 ⟨fv8, MT_6, T_6⟩
     have S_17 : Sep [some b0] h0.size hp3 ([boxO b0 [u0_0, (.int .i64 x4), (.int .u64 x5)]] ++ [ownO (kF .f32) 29 v2 x3, ownO (kF .f32) 29 (.slice none 0 0) ([] : List (Option Nat))]) := Sep.sel S_7 [0, 1, 2] (by decide)
     obtain ⟨X_7, S_18⟩ := Sep.turn X_3 S_17 MT_6 T_6
     refine RL.op _ (by decide) (opS_lit1 (K := (kF .f32)) (z := x15.1) rfl Try.underlying25 Try.einfo29 rfl rfl rfl rfl ⟨_, rfl, fv8⟩) ?_
     rintro v9 hp8 ⟨MT_7, T_7⟩
     obtain ⟨X_8, S_19⟩ := Sep.turn0 X_7 S_18 MT_7 T_7
     obtain ⟨c4, hy2⟩ := of_ite hy2
     refine RL.op _ (by decide) (opS_append (K := (kF .f32)) rfl Try.underlying25 Try.einfo29 rfl rfl rfl rfl (Sep.at (o := ownO (kF .f32) 29 v2 x3) S_19 2 rfl) (ownO.read (Sep.at (o := ownO (kF .f32) 29 v9 [x15.1]) S_19 0 rfl)) (by decide) (by decide) c4) ?_
     rintro v10 hp9 ⟨MT_8, T_8⟩
     have S_20 : Sep [some b0] h0.size hp8 ([ownO (kF .f32) 29 v2 x3] ++ [ownO (kF .f32) 29 v9 [x15.1], boxO b0 [u0_0, (.int .i64 x15.2.1), (.int .u64 x15.2.2)], ownO (kF .f32) 29 (.slice none 0 0) ([] : List (Option Nat))]) := Sep.sel S_19 [2, 0, 1, 3] (by decide)
     obtain ⟨X_9, S_21⟩ := Sep.turn X_8 S_20 MT_8 T_8
     refine RL.opD (by decide) (opv_assign rfl rfl) ?_
     refine RL.nil ?_
     have ey2 := Option.some.inj hy2
     simp only [Prod.mk.injEq] at ey2
     obtain ⟨rfl, rfl, rfl⟩ := ey2
     refine onlyN ?_
     exact ⟨v10, ⟨rfl, rfl, rfl, rfl, rfl, rfl, rfl, trivial⟩, X_9, (Sep.sel S_21 [2, 3, 0] (by decide))⟩
   rintro φ' hp10 ⟨v4, hs3, X_10, S_22⟩
   refine blkN ?_
   refine thnN ?_
   refine W.sub hs3 ?_
   refine W.region ?_
   refine RL.opD (by decide) (opv_move rfl rfl) ?_
   refine RL.opD (by decide) (opv_sub rfl rfl rfl) ?_
   refine RL.opD (by decide) (opv_assign rfl rfl) ?_
   refine RL.nil ?_
   have eo1 := Option.some.inj ho1
   subst eo1
   refine rndN (s' := (IntKind.wrap .i64 (x2 - 1), x13, x11, x12)) rfl ?_
   exact ⟨v4, ⟨rfl, rfl, rfl, rfl, rfl, trivial⟩, X_10, (Sep.sel S_22 [0, 2, 1] (by decide))⟩
  ·rw [if_neg c1] at ho1
   have c1 := eq_false_of_ne_true c1
   refine W.condF rfl c1 ?_
   refine W.exit ?_
   refine thnX ?_
   refine rndX ?_
   refine blkI ?_
   have eo1 := Option.some.inj ho1
   subst eo1
   have ey1 := hy1 _ rfl
   subst ey1
   refine onlyN ?_
   exact ⟨x2, decide (x2 > 0), x4, x5, x3, v2, rfl, ⟨rfl, rfl, rfl, rfl, rfl, rfl, trivial⟩, X_3, (Sep.sel S_7 [0, 2, 1] (by decide))⟩
 rintro φ' hp11 ⟨x6, x7, x8, x9, x10, v3, rfl, hs2, X_11, S_23⟩
 try dsimp only at hp
 refine thnN ?_
 refine W.sub hs2 ?_
 refine W.seq ?_
 refine W.region ?_
 refine RL.opD (by decide) (opv_move rfl rfl) ?_
 refine RL.opD (by decide) (opv_assign rfl rfl) ?_
 refine RL.nil ?_
 refine thnN ?_
 refine W.ret ?_
 have er := Option.some.inj hp
 subst er
 exact Rt.one rfl rfl ⟨X_11, (Sep.sel S_23 [2, 0] (by decide))⟩

set_option maxRecDepth 20000 in
theorem spec_R8Numbers_ok (h0 : Heap) (u0 : Value) (a0 : List (Int)) (g0 : SL (kI .u8) h0.size h0 u0 a0) (a1 : Int) (r : List (Option Nat)) (hp : spec_R8Numbers a0 a1 = some r) : CallsH Try.prog 22 ([u0, (.int .i64 a1)].toArray ++ [].toArray) h0 (fun v h' => Mod [] h0 h' ∧ Sep [] h0.size h' [ownO (kF .f32) 29 v r]) := by
 unfold spec_R8Numbers at hp
 refine callsH_of_W (l := [u0, (.int .i64 a1)]) (cap := []) 11 Try.func22 rfl rfl rfl ?_
 refine W.seq ?_
 refine W.region ?_
 refine RL.opD (by decide) (opv_assign rfl rfl) ?_
 have S_1 : Sep [] h0.size h0 [ownO (kF .f32) 29 (.slice none 0 0) ([] : List (Option Nat))] := Sep.addNil (Sep.nil [] h0.size h0)
 refine RL.nil ?_
 refine thnN ?_
 refine W.seq ?_
 refine W.region ?_
 refine RL.opD (by decide) (opv_move rfl rfl) ?_
 obtain ⟨x1, hx1, hp⟩ := Option.bind_eq_some_iff.1 hp
 refine RL.op _ (by decide) (opv_call (cap := []) (spec_l00From_ok _ _ _ g0 _ hx1) rfl rfl ⟨rfl, trivial⟩ Try.func68 rfl rfl) ?_
 rintro _ hp1 ⟨v1, rfl, MT_1, T_1⟩
 obtain ⟨X_1, S_2⟩ := Sep.turn0 (Mod.refl [] h0) S_1 MT_1 T_1
 refine RL.opD (by decide) (opv_assign rfl rfl) ?_
 refine RL.nil ?_
 refine thnN ?_
 refine W.seq ?_
 refine W.region ?_
 refine RL.opD (by decide) (opv_move rfl rfl) ?_
 refine RL.opD (by decide) (opv_move rfl rfl) ?_
 obtain ⟨x2, hx2, hp⟩ := Option.bind_eq_some_iff.1 hp
 have S_4 : Sep [] h0.size hp1 [boxO v1 [u0, (.int .i64 x1.1), (.int .u64 x1.2)]] := Sep.sel S_2 [0] (by decide)
 have S_3 : Sep [some v1] hp1.size hp1 [boxO v1 [u0, (.int .i64 x1.1), (.int .u64 x1.2)]] := Sep.own S_4 _
 refine RL.op _ (by decide) (opv_call (cap := []) (spec_l01DrawFloats_ok _ h0.size (Nat.le_trans (Nat.le_refl _) (Mod.size X_1)) _ _ _ (SL.mod g0 X_1 (Nat.le_refl _) nob) _ _ _ S_3 (Sep.ge (L := [boxO v1 [u0, (.int .i64 x1.1), (.int .u64 x1.2)]]) S_4 (Nat.le_refl _) nob) _ hx2) rfl rfl ⟨rfl, rfl, trivial⟩ Try.func82 rfl rfl) ?_
 rintro v2 hp2 ⟨MT_2, T_2⟩
 have S_5 : Sep [] h0.size hp1 ([boxO v1 [u0, (.int .i64 x1.1), (.int .u64 x1.2)]] ++ [ownO (kF .f32) 29 (.slice none 0 0) ([] : List (Option Nat))]) := Sep.sel S_2 [0, 1] (by decide)
 obtain ⟨X_2, S_6⟩ := Sep.turn X_1 S_5 MT_2 T_2
 refine RL.opD (by decide) (opv_assign rfl rfl) ?_
 refine RL.nil ?_
 refine thnN ?_
 refine W.ret ?_
 have er := Option.some.inj hp
 subst er
 exact Rt.one rfl rfl ⟨X_2, (Sep.sel S_6 [0] (by decide))⟩

set_option maxRecDepth 20000 in
theorem impl_isTick_ok (h0 : Heap) (a0 : Int) (r : Bool) (hp : impl_isTick a0 = some r) : CallsH Try.prog 85 ([(.int .i64 a0)].toArray ++ [].toArray) h0 (fun v h' => v = (.bool r) ∧ h0 = h') := by
 unfold impl_isTick at hp
 refine callsH_of_W (l := [(.int .i64 a0)]) (cap := []) 5 Try.func85 rfl rfl rfl ?_
 refine W.seq ?_
 refine W.region ?_
 refine RL.opD (by decide) (opv_assign rfl rfl) ?_
 refine RL.nil ?_
 refine thnN ?_
 refine W.seq ?_
 refine W.region ?_
 refine RL.opD (by decide) (opv_move rfl rfl) ?_
 obtain ⟨x1, hx1, hp⟩ := Option.bind_eq_some_iff.1 hp
 refine RL.op _ (by decide) (opv_call (cap := []) (impl_within_ok _ _ _ _ _ hx1) rfl rfl ⟨rfl, rfl, rfl, trivial⟩ Try.func71 rfl rfl) ?_
 rintro _ _ ⟨rfl, rfl⟩
 refine RL.opD (by decide) (opv_assign rfl rfl) ?_
 refine RL.nil ?_
 refine thnN ?_
 refine W.ret ?_
 have er := Option.some.inj hp
 subst er
 exact Rt.one rfl rfl ⟨rfl, rfl⟩

set_option maxRecDepth 20000 in
theorem impl_ValidBin_ok (h0 : Heap) (u0_0 : Value) (a0_0 : Option Nat) (g0_0 : IsF .f32 u0_0 a0_0) (a0_1 : Int) (u0_2 : Value) (a0_2 : (Option Nat × Option Nat)) (g0_2 : IsC .f32 u0_2 a0_2) (r : Bool) (hp : impl_ValidBin a0_0 a0_1 a0_2 = some r) : CallsH Try.prog 26 ([(.agg (List.toArray (α := Value) [u0_0, (.int .i64 a0_1), u0_2]))].toArray ++ [].toArray) h0 (fun v h' => v = (.bool r) ∧ Mod [] h0 h' ∧ Sep [] h0.size h' []) := by
 unfold impl_ValidBin at hp
 refine callsH_of_W (l := [(.agg (List.toArray (α := Value) [u0_0, (.int .i64 a0_1), u0_2]))]) (cap := []) 11 Try.func26 rfl rfl rfl ?_
 refine W.seq ?_
 refine W.region ?_
 refine RL.op _ (by decide) (opS_boxed (opv_boxA (cs := [u0_0, (.int .i64 a0_1), u0_2]) rfl rfl)) ?_
 rintro _ hp1 ⟨bb1, rfl, MT_1, T_1⟩
 obtain ⟨X_1, S_1⟩ := Sep.turn0 (Mod.refl [] h0) (Sep.nil [] h0.size h0) MT_1 T_1
 refine RL.opD (by decide) (opv_assign rfl rfl) ?_
 refine RL.nil ?_
 refine thnN ?_
 refine W.seq ?_
 obtain ⟨x1, hy1, hp⟩ := Option.bind_eq_some_iff.1 hp
 refine W.cut (fun φ' h' => Fr.sub [(0, (.agg (List.toArray (α := Value) [u0_0, (.int .i64 a0_1), u0_2]))), (1, (.pointer (some ⟨bb1, 0, none⟩))), (2, (.bool x1))] φ' ∧ hp1 = h') ?_ ?_
 ·refine W.region ?_
  refine RL.opD (by decide) (opv_fieldAddr rfl Try.fo47_0 rfl) ?_
  refine RL.opD (by decide) (opv_loadB rfl Try.one29 rfl (Sep.at (o := boxO bb1 [u0_0, (.int .i64 a0_1), u0_2]) S_1 0 rfl) rfl) ?_
  obtain ⟨x2, hx2, hy1⟩ := Option.bind_eq_some_iff.1 hy1
  refine RL.op _ (by decide) (opv_call (cap := []) (impl_IsFinite_ok _ _ _ g0_0 _ hx2) rfl rfl ⟨rfl, trivial⟩ Try.func75 rfl rfl) ?_
  rintro _ _ ⟨rfl, rfl⟩
  refine RL.opD (by decide) (opv_move rfl rfl) ?_
  by_cases c1 : x2 = true
  ·rw [if_pos c1] at hy1
   refine RL.yesD rfl rfl c1 (by decide) (opv_fieldAddr rfl Try.fo47_1 rfl) ?_
   refine RL.yesD rfl rfl c1 (by decide) (opv_loadB rfl Try.one2 rfl (Sep.at (o := boxO bb1 [u0_0, (.int .i64 a0_1), u0_2]) S_1 0 rfl) rfl) ?_
   obtain ⟨x3, hx3, hy1⟩ := Option.bind_eq_some_iff.1 hy1
   refine RL.yes _ rfl rfl c1 (by decide) (opv_call (cap := []) (impl_isTick_ok _ _ _ hx3) rfl rfl ⟨rfl, trivial⟩ Try.func85 rfl rfl) ?_
   rintro _ _ ⟨rfl, rfl⟩
   refine RL.opD (by decide) (opv_pick rfl rfl (fun _ => rfl) (fun e => absurd (Eq.trans (Eq.symm e) c1) (by decide)) rfl) ?_
   refine RL.opD (by decide) (opv_assign rfl rfl) ?_
   refine RL.nil ?_
   have ey1 := Option.some.inj hy1
   subst ey1
   refine onlyN ?_
   exact ⟨⟨rfl, rfl, rfl, trivial⟩, rfl⟩
  ·rw [if_neg c1] at hy1
   have c1 := eq_false_of_ne_true c1
   refine RL.noF rfl rfl c1 (by decide) ?_
   refine RL.noF rfl rfl c1 (by decide) ?_
   refine RL.noF rfl rfl c1 (by decide) ?_
   refine RL.opD (by decide) (opv_pick rfl rfl (fun e => absurd (Eq.trans (Eq.symm e) c1) (by decide)) (fun _ => rfl) rfl) ?_
   refine RL.opD (by decide) (opv_assign rfl rfl) ?_
   refine RL.nil ?_
   have ey1 := Option.some.inj hy1
   subst ey1
   refine onlyN ?_
   exact ⟨⟨rfl, rfl, rfl, trivial⟩, rfl⟩
 rintro φ' _ ⟨hs1, rfl⟩
 refine thnN ?_
 refine W.sub hs1 ?_
 refine W.ret ?_
 have er := Option.some.inj hp
 subst er
 exact Rt.one rfl rfl ⟨rfl, X_1, (Sep.nil _ _ _)⟩

set_option maxRecDepth 20000 in
theorem impl_add_ok (h0 : Heap) (u0 : Value) (a0 : (Option Nat × Option Nat)) (g0 : IsC .f32 u0 a0) (u1 : Value) (a1 : (Option Nat × Option Nat)) (g1 : IsC .f32 u1 a1) (r : (Option Nat × Option Nat)) (hp : impl_add a0 a1 = some r) : CallsH Try.prog 83 ([u0, u1].toArray ++ [].toArray) h0 (fun v h' => IsC .f32 v r ∧ h0 = h') := by
 unfold impl_add at hp
 refine callsH_of_W (l := [u0, u1]) (cap := []) 16 Try.func83 rfl rfl rfl ?_
 refine W.seq ?_
 refine W.region ?_
 refine RL.opD (by decide) (opv_assign rfl rfl) ?_
 refine RL.nil ?_
 refine thnN ?_
 refine W.seq ?_
 refine W.region ?_
 refine RL.opD (by decide) (opv_move rfl rfl) ?_
 refine RL.opF (by decide) (opv_real rfl rfl g0) ?_
 intro v1 fv1
 refine RL.opD (by decide) (opv_move rfl rfl) ?_
 refine RL.opF (by decide) (opv_real rfl rfl g1) ?_
 intro v2 fv2
 refine RL.opF (by decide) (opv_fop rfl rfl rfl rfl fv1 fv2) ?_
 intro v3 fv3
 refine RL.opD (by decide) (opv_move rfl rfl) ?_
 refine RL.opF (by decide) (opv_imag rfl rfl g0) ?_
 intro v4 fv4
 refine RL.opD (by decide) (opv_move rfl rfl) ?_
 refine RL.opF (by decide) (opv_imag rfl rfl g1) ?_
 intro v5 fv5
 refine RL.opF (by decide) (opv_fop rfl rfl rfl rfl fv4 fv5) ?_
 intro v6 fv6
 refine RL.op _ (by decide) (opv_complex rfl rfl rfl fv3 fv6) ?_
 rintro v7 _ ⟨fv7, rfl⟩
 refine RL.opD (by decide) (opv_assign rfl rfl) ?_
 refine RL.nil ?_
 refine thnN ?_
 refine W.ret ?_
 have er := Option.some.inj hp
 subst er
 exact Rt.one rfl rfl ⟨fv7, rfl⟩

set_option maxRecDepth 20000 in
theorem impl_ScaleComplex_ok (h0 : Heap) (u0 : Value) (a0 : (Option Nat × Option Nat)) (g0 : IsC .f32 u0 a0) (u1 : Value) (a1 : Option Nat) (g1 : IsF .f32 u1 a1) (r : (Option Nat × Option Nat)) (hp : impl_ScaleComplex a0 a1 = some r) : CallsH Try.prog 89 ([u0, u1].toArray ++ [].toArray) h0 (fun v h' => IsC .f32 v r ∧ h0 = h') := by
 unfold impl_ScaleComplex at hp
 refine callsH_of_W (l := [u0, u1]) (cap := []) 14 Try.func89 rfl rfl rfl ?_
 refine W.seq ?_
 refine W.region ?_
 refine RL.opD (by decide) (opv_assign rfl rfl) ?_
 refine RL.nil ?_
 refine thnN ?_
 refine W.seq ?_
 refine W.region ?_
 refine RL.opD (by decide) (opv_move rfl rfl) ?_
 refine RL.opF (by decide) (opv_real rfl rfl g0) ?_
 intro v1 fv1
 refine RL.opD (by decide) (opv_move rfl rfl) ?_
 refine RL.opF (by decide) (opv_fop rfl rfl rfl rfl fv1 g1) ?_
 intro v2 fv2
 refine RL.opD (by decide) (opv_move rfl rfl) ?_
 refine RL.opF (by decide) (opv_imag rfl rfl g0) ?_
 intro v3 fv3
 refine RL.opD (by decide) (opv_move rfl rfl) ?_
 refine RL.opF (by decide) (opv_fop rfl rfl rfl rfl fv3 g1) ?_
 intro v4 fv4
 refine RL.op _ (by decide) (opv_complex rfl rfl rfl fv2 fv4) ?_
 rintro v5 _ ⟨fv5, rfl⟩
 refine RL.opD (by decide) (opv_assign rfl rfl) ?_
 refine RL.nil ?_
 refine thnN ?_
 refine W.ret ?_
 have er := Option.some.inj hp
 subst er
 exact Rt.one rfl rfl ⟨fv5, rfl⟩

set_option maxRecDepth 20000 in
theorem impl_term_ok (h0 : Heap) (u0 : Value) (a0 : Option Nat) (g0 : IsF .f32 u0 a0) (a1 : Int) (u2 : Value) (a2 : Option Nat) (g2 : IsF .f32 u2 a2) (r : (Option Nat × Option Nat)) (hp : impl_term a0 a1 a2 = some r) : CallsH Try.prog 84 ([u0, (.int .i64 a1), u2].toArray ++ [].toArray) h0 (fun v h' => IsC .f32 v r ∧ h0 = h') := by
 unfold impl_term at hp
 refine callsH_of_W (l := [u0, (.int .i64 a1), u2]) (cap := []) 16 Try.func84 rfl rfl rfl ?_
 refine W.seq ?_
 refine W.region ?_
 refine RL.opD (by decide) (opv_assign rfl rfl) ?_
 refine RL.nil ?_
 refine thnN ?_
 refine W.seq ?_
 refine W.region ?_
 refine RL.opD (by decide) (opv_move rfl rfl) ?_
 refine RL.opF (by decide) (opv_i2f rfl (by rw [Try.underlying2]; rfl) Try.underlying43 rfl) ?_
 intro v1 fv1
 refine RL.opD (by decide) (opv_move rfl rfl) ?_
 refine RL.opF (by decide) (opv_widen rfl (by rw [Try.underlying29]; rfl) Try.underlying43 rfl g2) ?_
 intro v2 fv2
 refine RL.opF (by decide) (opv_fop rfl rfl rfl rfl fv1 fv2) ?_
 intro v3 fv3
 refine RL.opF (by decide) (opv_fneg rfl rfl fv3) ?_
 intro v4 fv4
 obtain ⟨x1, hx1, hp⟩ := Option.bind_eq_some_iff.1 hp
 refine RL.op _ (by decide) (opv_call (cap := []) (impl_PhasorOf_ok _ _ _ fv4 _ hx1) rfl rfl ⟨rfl, trivial⟩ Try.func90 rfl rfl) ?_
 rintro v5 _ ⟨fv5, rfl⟩
 refine RL.opD (by decide) (opv_move rfl rfl) ?_
 obtain ⟨x2, hx2, hp⟩ := Option.bind_eq_some_iff.1 hp
 refine RL.op _ (by decide) (opv_call (cap := []) (impl_ScaleComplex_ok _ _ _ fv5 _ _ g0 _ hx2) rfl rfl ⟨rfl, rfl, trivial⟩ Try.func89 rfl rfl) ?_
 rintro v6 _ ⟨fv6, rfl⟩
 refine RL.opD (by decide) (opv_assign rfl rfl) ?_
 refine RL.nil ?_
 refine thnN ?_
 refine W.ret ?_
 have er := Option.some.inj hp
 subst er
 exact Rt.one rfl rfl ⟨fv6, rfl⟩

set_option maxRecDepth 20000 in
theorem impl_StepBin_ok (h0 : Heap) (u0_0 : Value) (a0_0 : Option Nat) (g0_0 : IsF .f32 u0_0 a0_0) (a0_1 : Int) (u0_2 : Value) (a0_2 : (Option Nat × Option Nat)) (g0_2 : IsC .f32 u0_2 a0_2) (u1 : Value) (a1 : Option Nat) (g1 : IsF .f32 u1 a1) (r : ((Option Nat) × Int × (Option Nat × Option Nat) × Bool)) (hp : impl_StepBin a0_0 a0_1 a0_2 a1 = some r) : CallsH Try.prog 25 ([(.agg (List.toArray (α := Value) [u0_0, (.int .i64 a0_1), u0_2])), u1].toArray ++ [].toArray) h0 (fun v h' => ∃ w0, ∃ w2, v = (.tuple (List.toArray (α := Value) [(.agg (List.toArray (α := Value) [w0, (.int .i64 r.2.1), w2])), (.bool r.2.2.2)])) ∧ IsF .f32 w0 r.1 ∧ IsC .f32 w2 r.2.2.1 ∧ Mod [] h0 h' ∧ Sep [] h0.size h' []) := by
 unfold impl_StepBin at hp
 refine callsH_of_W (l := [(.agg (List.toArray (α := Value) [u0_0, (.int .i64 a0_1), u0_2])), u1]) (cap := []) 30 Try.func25 rfl rfl rfl ?_
 refine W.seq ?_
 refine W.region ?_
 refine RL.op _ (by decide) (opS_boxed (opv_boxA (cs := [u0_0, (.int .i64 a0_1), u0_2]) rfl rfl)) ?_
 rintro _ hp1 ⟨bb1, rfl, MT_1, T_1⟩
 obtain ⟨X_1, S_1⟩ := Sep.turn0 (Mod.refl [] h0) (Sep.nil [] h0.size h0) MT_1 T_1
 refine RL.op _ (by decide) (opS_boxed (opv_alloc (cs := [(.float .f32 0), (.int .i64 0), (.complex .f32 0 0)]) rfl Try.zero47 rfl)) ?_
 rintro _ hp2 ⟨bb2, rfl, MT_2, T_2⟩
 obtain ⟨X_2, S_2⟩ := Sep.turn0 X_1 S_1 MT_2 T_2
 refine RL.opD (by decide) (opv_assign rfl rfl) ?_
 refine RL.nil ?_
 refine thnN ?_
 refine W.seq ?_
 refine W.seq ?_
 obtain ⟨x1, hy1, hp⟩ := Option.bind_eq_some_iff.1 hp
 refine W.cut (fun φ' h' => Fr.sub [(0, (.agg (List.toArray (α := Value) [u0_0, (.int .i64 a0_1), u0_2]))), (1, u1), (2, (.pointer (some ⟨bb1, 0, none⟩))), (4, (.pointer (some ⟨bb2, 0, none⟩))), (5, (.bool false)), (13, (.bool x1))] φ' ∧ Mod [] h0 h' ∧ Sep [] h0.size h' [boxO bb2 [(.float .f32 0), (.int .i64 0), (.complex .f32 0 0)], boxO bb1 [u0_0, (.int .i64 a0_1), u0_2]]) ?_ ?_
 ·refine W.region ?_
  refine RL.opD (by decide) (opv_loadA (us := [u0_0, (.int .i64 a0_1), u0_2]) rfl Try.agg47 Try.size47 rfl (Sep.at (o := boxO bb1 [u0_0, (.int .i64 a0_1), u0_2]) S_2 1 rfl) rfl rfl) ?_
  obtain ⟨x2, hx2, hy1⟩ := Option.bind_eq_some_iff.1 hy1
  refine RL.op _ (by decide) (opv_call (cap := []) (impl_ValidBin_ok _ _ _ g0_0 _ _ _ g0_2 _ hx2) rfl rfl ⟨rfl, trivial⟩ Try.func26 rfl rfl) ?_
  rintro _ hp3 ⟨rfl, MT_3, T_3⟩
  obtain ⟨X_3, S_3⟩ := Sep.turn0 X_2 S_2 MT_3 T_3
  refine RL.opD (by decide) (opv_not rfl rfl) ?_
  refine RL.opD (by decide) (opv_move rfl rfl) ?_
  by_cases c1 : (!x2) = true
  ·rw [if_pos c1] at hy1
   refine RL.noT rfl rfl c1 (by decide) ?_
   refine RL.noT rfl rfl c1 (by decide) ?_
   refine RL.noT rfl rfl c1 (by decide) ?_
   refine RL.opD (by decide) (opv_pick rfl rfl (fun _ => rfl) (fun e => absurd (Eq.trans (Eq.symm e) c1) (by decide)) rfl) ?_
   refine RL.nil ?_
   have ey1 := Option.some.inj hy1
   subst ey1
   refine onlyN ?_
   exact ⟨⟨rfl, rfl, rfl, rfl, rfl, rfl, trivial⟩, X_3, (Sep.sel S_3 [0, 1] (by decide))⟩
  ·rw [if_neg c1] at hy1
   have c1 := eq_false_of_ne_true c1
   refine RL.yesD rfl rfl c1 (by decide) (opv_fieldAddr rfl Try.fo47_1 rfl) ?_
   refine RL.yesD rfl rfl c1 (by decide) (opv_loadB rfl Try.one2 rfl (Sep.at (o := boxO bb1 [u0_0, (.int .i64 a0_1), u0_2]) S_3 1 rfl) rfl) ?_
   refine RL.yesD rfl rfl c1 (by decide) (opv_icmp rfl rfl rfl rfl) ?_
   refine RL.opD (by decide) (opv_pick rfl rfl (fun e => absurd (Eq.trans (Eq.symm e) c1) (by decide)) (fun _ => rfl) rfl) ?_
   refine RL.nil ?_
   have ey1 := Option.some.inj hy1
   subst ey1
   refine onlyN ?_
   exact ⟨⟨rfl, rfl, rfl, rfl, rfl, rfl, trivial⟩, X_3, (Sep.sel S_3 [0, 1] (by decide))⟩
 rintro φ' hp4 ⟨hs1, X_4, S_4⟩
 refine thnN ?_
 refine W.sub hs1 ?_
 by_cases c2 : x1 = true
 ·rw [if_pos c2] at hp
  refine W.condT rfl c2 ?_
  refine W.seq ?_
  refine W.region ?_
  refine RL.opD (by decide) (opv_build (cs := [(.float .f32 0), (.int .i64 0), (.complex .f32 0 0)]) [] [] rfl Try.bd47 trivial rfl) ?_
  refine RL.op0 _ (opS_stored (cs := [(.float .f32 0), (.int .i64 0), (.complex .f32 0 0)]) (cs' := [(.float .f32 0), (.int .i64 0), (.complex .f32 0 0)]) (opv_storeA (us := [(.float .f32 0), (.int .i64 0), (.complex .f32 0 0)]) rfl Try.size47 rfl rfl (oneAll (IsF.one (isF_lit .f32 0 (by decide) (by decide))) (oneAll rfl (oneAll (IsC.one (isC_lit .f32 0 0 (by decide) (by decide) (by decide) (by decide))) rfl))) (Sep.at (o := boxO bb2 [(.float .f32 0), (.int .i64 0), (.complex .f32 0 0)]) S_4 0 rfl) rfl rfl) (Sep.at (o := boxO bb2 [(.float .f32 0), (.int .i64 0), (.complex .f32 0 0)]) S_4 0 rfl)) ?_
  rintro _ hp5 ⟨rfl, MT_4, T_4⟩
  have S_5 : Sep [] h0.size hp4 ([boxO bb2 [(.float .f32 0), (.int .i64 0), (.complex .f32 0 0)]] ++ [boxO bb1 [u0_0, (.int .i64 a0_1), u0_2]]) := Sep.sel S_4 [0, 1] (by decide)
  obtain ⟨X_5, S_6⟩ := Sep.turn X_4 S_5 MT_4 T_4
  refine RL.opD (by decide) (opv_assign rfl rfl) ?_
  refine RL.nil ?_
  refine thnN ?_
  refine W.ret ?_
  refine thnR ?_
  have er := Option.some.inj hp
  subst er
  exact Rt.cellA rfl rfl rfl Try.agg47 Try.size47 (Sep.at (o := boxO bb2 [(.float .f32 0), (.int .i64 0), (.complex .f32 0 0)]) S_6 0 rfl) rfl ⟨(.float .f32 0), (.complex .f32 0 0), rfl, (isF_lit .f32 0 (by decide) (by decide)), (isC_lit .f32 0 0 (by decide) (by decide) (by decide) (by decide)), X_5, (Sep.nil _ _ _)⟩
 ·rw [if_neg c2] at hp
  have c2 := eq_false_of_ne_true c2
  refine W.condF rfl c2 ?_
  refine W.skip ?_
  refine thnN ?_
  refine W.seq ?_
  obtain ⟨x3, hx3, hp⟩ := Option.bind_eq_some_iff.1 hp
  obtain ⟨x4, hx4, hp⟩ := Option.bind_eq_some_iff.1 hp
  refine W.sub (ψ := [(0, (.agg (List.toArray (α := Value) [u0_0, (.int .i64 a0_1), u0_2]))), (1, u1), (2, (.pointer (some ⟨bb1, 0, none⟩))), (4, (.pointer (some ⟨bb2, 0, none⟩))), (5, (.bool false)), (13, (.bool x1))]) ⟨rfl, rfl, rfl, rfl, rfl, rfl, trivial⟩ ?_
  refine W.regionP [fun v _ => @Eq Value (.pointer (some ⟨bb1, 0, none⟩)) v, fun v _ => IsF .f32 v a0_0, fun v _ => @Eq Value (.pointer (some ⟨bb1, 1, none⟩)) v, fun v _ => @Eq Value (.int .i64 a0_1) v, fun v _ => @Eq Value (.int .i64 (IntKind.wrap .i64 (a0_1 + 1))) v, fun v _ => @Eq Value (.pointer (some ⟨bb1, 2, none⟩)) v, fun v _ => IsC .f32 v a0_2, fun v _ => IsF .f32 v a1, fun v _ => @Eq Value (.pointer (some ⟨bb1, 1, none⟩)) v, fun v _ => @Eq Value (.int .i64 a0_1) v, fun v _ => @Eq Value (.pointer (some ⟨bb1, 0, none⟩)) v, fun v _ => IsF .f32 v a0_0, fun v _ => IsC .f32 v x3, fun v _ => IsC .f32 v x4] [[], [0], [], [2], [3], [], [5], [], [], [8], [], [10], [7, 9, 11], [6, 12]] [1, 4, 13] Try.mixed (by decide +kernel) (by decide +kernel) rfl rfl rfl ?_ ?_
  ·refine ⟨⟨rfl, ?_⟩, ⟨rfl, ?_⟩, ⟨rfl, ?_⟩, ⟨rfl, ?_⟩, ⟨rfl, ?_⟩, ⟨rfl, ?_⟩, ⟨rfl, ?_⟩, ⟨rfl, ?_⟩, ⟨rfl, ?_⟩, ⟨rfl, ?_⟩, ⟨rfl, ?_⟩, ⟨rfl, ?_⟩, ⟨rfl, ?_⟩, ⟨rfl, ?_⟩, trivial⟩
   ·rintro _ rfl
    refine Dep.nil ?_
    refine GuardOK.none rfl ?_
    exact OpV.toD (opv_fieldAddr rfl Try.fo47_0 rfl) rfl
   ·rintro _ rfl _ rfl
    refine Dep.nil ?_
    refine GuardOK.none rfl ?_
    exact OpV.toD (opv_loadB rfl Try.one29 rfl (Sep.at (o := boxO bb1 [u0_0, (.int .i64 a0_1), u0_2]) S_4 1 rfl) rfl) g0_0
   ·rintro _ rfl
    refine Dep.nil ?_
    refine GuardOK.none rfl ?_
    exact OpV.toD (opv_fieldAddr rfl Try.fo47_1 rfl) rfl
   ·rintro _ rfl _ rfl
    refine Dep.nil ?_
    refine GuardOK.none rfl ?_
    exact OpV.toD (opv_loadB rfl Try.one2 rfl (Sep.at (o := boxO bb1 [u0_0, (.int .i64 a0_1), u0_2]) S_4 1 rfl) rfl) rfl
   ·rintro _ rfl _ rfl
    refine Dep.nil ?_
    refine GuardOK.none rfl ?_
    exact OpV.toD (opv_add rfl rfl rfl) rfl
   ·rintro _ rfl
    refine Dep.nil ?_
    refine GuardOK.none rfl ?_
    exact OpV.toD (opv_fieldAddr rfl Try.fo47_2 rfl) rfl
   ·rintro _ rfl _ rfl
    refine Dep.nil ?_
    refine GuardOK.none rfl ?_
    exact OpV.toD (opv_loadB rfl Try.one45 rfl (Sep.at (o := boxO bb1 [u0_0, (.int .i64 a0_1), u0_2]) S_4 1 rfl) rfl) g0_2
   ·rintro _ rfl
    refine Dep.nil ?_
    refine GuardOK.none rfl ?_
    exact OpV.toD (opv_move rfl rfl) g1
   ·rintro _ rfl
    refine Dep.nil ?_
    refine GuardOK.none rfl ?_
    exact OpV.toD (opv_fieldAddr rfl Try.fo47_1 rfl) rfl
   ·rintro _ rfl _ rfl
    refine Dep.nil ?_
    refine GuardOK.none rfl ?_
    exact OpV.toD (opv_loadB rfl Try.one2 rfl (Sep.at (o := boxO bb1 [u0_0, (.int .i64 a0_1), u0_2]) S_4 1 rfl) rfl) rfl
   ·rintro _ rfl
    refine Dep.nil ?_
    refine GuardOK.none rfl ?_
    exact OpV.toD (opv_fieldAddr rfl Try.fo47_0 rfl) rfl
   ·rintro _ rfl _ rfl
    refine Dep.nil ?_
    refine GuardOK.none rfl ?_
    exact OpV.toD (opv_loadB rfl Try.one29 rfl (Sep.at (o := boxO bb1 [u0_0, (.int .i64 a0_1), u0_2]) S_4 1 rfl) rfl) g0_0
   ·rintro _ rfl v3 fv3 _ rfl v4 fv4
    refine Dep.nil ?_
    refine GuardOK.none rfl ?_
    exact OpV.mono (opv_call (cap := []) (impl_term_ok _ _ _ fv3 _ _ _ fv4 _ hx3) rfl rfl ⟨rfl, rfl, rfl, trivial⟩ Try.func84 rfl rfl) (by rintro v5 _ ⟨fv5, rfl⟩; exact ⟨rfl, fv5⟩)
   ·rintro _ rfl v2 fv2 v5 fv5
    refine Dep.nil ?_
    refine GuardOK.none rfl ?_
    exact OpV.mono (opv_call (cap := []) (impl_add_ok _ _ _ fv2 _ _ fv5 _ hx4) rfl rfl ⟨rfl, rfl, trivial⟩ Try.func83 rfl rfl) (by rintro v6 _ ⟨fv6, rfl⟩; exact ⟨rfl, fv6⟩)
  rintro v1 fv1 _ rfl v6 fv6
  refine Dep.nil ?_
  show RL _ _ _ _ (_ :: _) _ _
  refine RL.opD (by decide) (opv_build (cs := [v1, (.int .i64 (IntKind.wrap .i64 (a0_1 + 1))), v6]) [(0, [v1]), (1, [(.int .i64 (IntKind.wrap .i64 (a0_1 + 1)))]), (2, [v6])] [(0, v1), (1, (.int .i64 (IntKind.wrap .i64 (a0_1 + 1)))), (2, v6)] rfl Try.bd47 ⟨⟨rfl, rfl, rfl, cells1 (IsF.one fv1)⟩, ⟨rfl, rfl, rfl, cells1 rfl⟩, ⟨rfl, rfl, rfl, cells1 (IsC.one fv6)⟩, trivial⟩ rfl) ?_
  refine RL.op0 _ (opS_stored (cs := [(.float .f32 0), (.int .i64 0), (.complex .f32 0 0)]) (cs' := [v1, (.int .i64 (IntKind.wrap .i64 (a0_1 + 1))), v6]) (opv_storeA (us := [v1, (.int .i64 (IntKind.wrap .i64 (a0_1 + 1))), v6]) rfl Try.size47 rfl rfl (oneAll (IsF.one fv1) (oneAll rfl (oneAll (IsC.one fv6) rfl))) (Sep.at (o := boxO bb2 [(.float .f32 0), (.int .i64 0), (.complex .f32 0 0)]) S_4 0 rfl) rfl rfl) (Sep.at (o := boxO bb2 [(.float .f32 0), (.int .i64 0), (.complex .f32 0 0)]) S_4 0 rfl)) ?_
  rintro _ hp7 ⟨rfl, MT_6, T_6⟩
  have S_9 : Sep [] h0.size hp4 ([boxO bb2 [(.float .f32 0), (.int .i64 0), (.complex .f32 0 0)]] ++ [boxO bb1 [u0_0, (.int .i64 a0_1), u0_2]]) := Sep.sel S_4 [0, 1] (by decide)
  obtain ⟨X_7, S_10⟩ := Sep.turn X_4 S_9 MT_6 T_6
  refine RL.opD (by decide) (opv_assign rfl rfl) ?_
  refine RL.nil ?_
  refine thnN ?_
  refine W.ret ?_
  have er := Option.some.inj hp
  subst er
  exact Rt.cellA rfl rfl rfl Try.agg47 Try.size47 (Sep.at (o := boxO bb2 [v1, (.int .i64 (IntKind.wrap .i64 (a0_1 + 1))), v6]) S_10 0 rfl) rfl ⟨v1, v6, rfl, fv1, fv6, X_7, (Sep.nil _ _ _)⟩

set_option maxRecDepth 20000 in
theorem impl_RunBin_ok (h0 : Heap) (u0_0 : Value) (a0_0 : Option Nat) (g0_0 : IsF .f32 u0_0 a0_0) (a0_1 : Int) (u0_2 : Value) (a0_2 : (Option Nat × Option Nat)) (g0_2 : IsC .f32 u0_2 a0_2) (u1 : Value) (a1 : List (Option Nat)) (g1 : SL (kF .f32) h0.size h0 u1 a1) (r : ((Option Nat) × Int × (Option Nat × Option Nat) × Bool)) (hp : impl_RunBin a0_0 a0_1 a0_2 a1 = some r) : CallsH Try.prog 23 ([(.agg (List.toArray (α := Value) [u0_0, (.int .i64 a0_1), u0_2])), u1].toArray ++ [].toArray) h0 (fun v h' => ∃ w0, ∃ w2, v = (.tuple (List.toArray (α := Value) [(.agg (List.toArray (α := Value) [w0, (.int .i64 r.2.1), w2])), (.bool r.2.2.2)])) ∧ IsF .f32 w0 r.1 ∧ IsC .f32 w2 r.2.2.1 ∧ Mod [] h0 h' ∧ Sep [] h0.size h' []) := by
 unfold impl_RunBin at hp
 refine callsH_of_W (l := [(.agg (List.toArray (α := Value) [u0_0, (.int .i64 a0_1), u0_2])), u1]) (cap := []) 37 Try.func23 rfl rfl rfl ?_
 refine W.seq ?_
 refine W.region ?_
 refine RL.op _ (by decide) (opS_boxed (opv_boxA (cs := [u0_0, (.int .i64 a0_1), u0_2]) rfl rfl)) ?_
 rintro _ hp1 ⟨bb1, rfl, MT_1, T_1⟩
 obtain ⟨X_1, S_1⟩ := Sep.turn0 (Mod.refl [] h0) (Sep.nil [] h0.size h0) MT_1 T_1
 refine RL.op _ (by decide) (opS_boxed (opv_alloc (cs := [(.float .f32 0), (.int .i64 0), (.complex .f32 0 0)]) rfl Try.zero47 rfl)) ?_
 rintro _ hp2 ⟨bb2, rfl, MT_2, T_2⟩
 obtain ⟨X_2, S_2⟩ := Sep.turn0 X_1 S_1 MT_2 T_2
 refine RL.opD (by decide) (opv_assign rfl rfl) ?_
 refine RL.nil ?_
 refine thnN ?_
 refine W.seq ?_
 refine W.seq ?_
 obtain ⟨x1, hy1, hp⟩ := Option.bind_eq_some_iff.1 hp
 refine W.cut (fun φ' h' => Fr.sub [(0, (.agg (List.toArray (α := Value) [u0_0, (.int .i64 a0_1), u0_2]))), (1, u1), (2, (.pointer (some ⟨bb1, 0, none⟩))), (4, (.pointer (some ⟨bb2, 0, none⟩))), (5, (.bool false)), (17, (.bool x1))] φ' ∧ Mod [] h0 h' ∧ Sep [] h0.size h' [boxO bb2 [(.float .f32 0), (.int .i64 0), (.complex .f32 0 0)], boxO bb1 [u0_0, (.int .i64 a0_1), u0_2]]) ?_ ?_
 ·refine W.region ?_
  refine RL.opD (by decide) (opv_loadA (us := [u0_0, (.int .i64 a0_1), u0_2]) rfl Try.agg47 Try.size47 rfl (Sep.at (o := boxO bb1 [u0_0, (.int .i64 a0_1), u0_2]) S_2 1 rfl) rfl rfl) ?_
  obtain ⟨x2, hx2, hy1⟩ := Option.bind_eq_some_iff.1 hy1
  refine RL.op _ (by decide) (opv_call (cap := []) (impl_ValidBin_ok _ _ _ g0_0 _ _ _ g0_2 _ hx2) rfl rfl ⟨rfl, trivial⟩ Try.func26 rfl rfl) ?_
  rintro _ hp3 ⟨rfl, MT_3, T_3⟩
  obtain ⟨X_3, S_3⟩ := Sep.turn0 X_2 S_2 MT_3 T_3
  refine RL.opD (by decide) (opv_not rfl rfl) ?_
  refine RL.opD (by decide) (opv_move rfl rfl) ?_
  by_cases c1 : (!x2) = true
  ·rw [if_pos c1] at hy1
   refine RL.noT rfl rfl c1 (by decide) ?_
   refine RL.noT rfl rfl c1 (by decide) ?_
   refine RL.noT rfl rfl c1 (by decide) ?_
   refine RL.opD (by decide) (opv_pick rfl rfl (fun _ => rfl) (fun e => absurd (Eq.trans (Eq.symm e) c1) (by decide)) rfl) ?_
   refine RL.nil ?_
   have ey1 := Option.some.inj hy1
   subst ey1
   refine onlyN ?_
   exact ⟨⟨rfl, rfl, rfl, rfl, rfl, rfl, trivial⟩, X_3, (Sep.sel S_3 [0, 1] (by decide))⟩
  ·rw [if_neg c1] at hy1
   have c1 := eq_false_of_ne_true c1
   refine RL.yesD rfl rfl c1 (by decide) (opv_move rfl rfl) ?_
   refine RL.yesD rfl rfl c1 (by decide) (opv_len rfl Try.underlying25 rfl (SL.mod g1 X_3 (Nat.le_refl _) nob)) ?_
   refine RL.yesD rfl rfl c1 (by decide) (opv_icmp rfl rfl rfl rfl) ?_
   refine RL.opD (by decide) (opv_pick rfl rfl (fun e => absurd (Eq.trans (Eq.symm e) c1) (by decide)) (fun _ => rfl) rfl) ?_
   refine RL.nil ?_
   have ey1 := Option.some.inj hy1
   subst ey1
   refine onlyN ?_
   exact ⟨⟨rfl, rfl, rfl, rfl, rfl, rfl, trivial⟩, X_3, (Sep.sel S_3 [0, 1] (by decide))⟩
 rintro φ' hp4 ⟨hs1, X_4, S_4⟩
 refine thnN ?_
 refine W.sub hs1 ?_
 by_cases c2 : x1 = true
 ·rw [if_pos c2] at hp
  refine W.condT rfl c2 ?_
  refine W.seq ?_
  refine W.region ?_
  refine RL.opD (by decide) (opv_build (cs := [(.float .f32 0), (.int .i64 0), (.complex .f32 0 0)]) [] [] rfl Try.bd47 trivial rfl) ?_
  refine RL.op0 _ (opS_stored (cs := [(.float .f32 0), (.int .i64 0), (.complex .f32 0 0)]) (cs' := [(.float .f32 0), (.int .i64 0), (.complex .f32 0 0)]) (opv_storeA (us := [(.float .f32 0), (.int .i64 0), (.complex .f32 0 0)]) rfl Try.size47 rfl rfl (oneAll (IsF.one (isF_lit .f32 0 (by decide) (by decide))) (oneAll rfl (oneAll (IsC.one (isC_lit .f32 0 0 (by decide) (by decide) (by decide) (by decide))) rfl))) (Sep.at (o := boxO bb2 [(.float .f32 0), (.int .i64 0), (.complex .f32 0 0)]) S_4 0 rfl) rfl rfl) (Sep.at (o := boxO bb2 [(.float .f32 0), (.int .i64 0), (.complex .f32 0 0)]) S_4 0 rfl)) ?_
  rintro _ hp5 ⟨rfl, MT_4, T_4⟩
  have S_5 : Sep [] h0.size hp4 ([boxO bb2 [(.float .f32 0), (.int .i64 0), (.complex .f32 0 0)]] ++ [boxO bb1 [u0_0, (.int .i64 a0_1), u0_2]]) := Sep.sel S_4 [0, 1] (by decide)
  obtain ⟨X_5, S_6⟩ := Sep.turn X_4 S_5 MT_4 T_4
  refine RL.opD (by decide) (opv_assign rfl rfl) ?_
  refine RL.nil ?_
  refine thnN ?_
  refine W.ret ?_
  refine thnR ?_
  have er := Option.some.inj hp
  subst er
  exact Rt.cellA rfl rfl rfl Try.agg47 Try.size47 (Sep.at (o := boxO bb2 [(.float .f32 0), (.int .i64 0), (.complex .f32 0 0)]) S_6 0 rfl) rfl ⟨(.float .f32 0), (.complex .f32 0 0), rfl, (isF_lit .f32 0 (by decide) (by decide)), (isC_lit .f32 0 0 (by decide) (by decide) (by decide) (by decide)), X_5, (Sep.nil _ _ _)⟩
 ·rw [if_neg c2] at hp
  have c2 := eq_false_of_ne_true c2
  refine W.condF rfl c2 ?_
  refine W.skip ?_
  refine thnN ?_
  refine W.seq ?_
  refine W.seq ?_
  refine W.region ?_
  refine RL.opD (by decide) (opv_move rfl rfl) ?_
  refine RL.opD (by decide) (opv_len rfl Try.underlying25 rfl (SL.mod g1 X_4 (Nat.le_refl _) nob)) ?_
  refine RL.opD (by decide) (opv_move rfl rfl) ?_
  refine RL.nil ?_
  refine thnN ?_
  obtain ⟨y2, hy2, hp⟩ := Option.bind_eq_some_iff.1 hp
  refine W.cut (fun φ' h' => ∃ x8, ∃ x9, ∃ x10, ∃ x11, ∃ x12, ∃ x13, ∃ v3, ∃ v4, y2 = .inl (x8, x9, x10, x11, x12, x13) ∧ Fr.sub [(0, (.agg (List.toArray (α := Value) [u0_0, (.int .i64 a0_1), u0_2]))), (1, u1), (2, (.pointer (some ⟨bb1, 0, none⟩))), (4, (.pointer (some ⟨bb2, 0, none⟩))), (17, (.bool x1)), (19, u1), (20, (.int .i64 (a1.length : Int))), (5, (.bool x8)), (21, (.int .i64 x9)), (22, (.bool x10))] φ' ∧ IsF .f32 v3 x11 ∧ IsC .f32 v4 x13 ∧ Mod [] h0 h' ∧ Sep [] h0.size h' [boxO bb2 [(.float .f32 0), (.int .i64 0), (.complex .f32 0 0)], boxO bb1 [v3, (.int .i64 x12), v4]]) ?_ ?_
  ·refine W.block ?_
   refine W.loopS (fun (s : (Bool × Int × (Option Nat) × Int × (Option Nat × Option Nat))) φ' h' => ∃ v1, ∃ v2, Fr.sub [(0, (.agg (List.toArray (α := Value) [u0_0, (.int .i64 a0_1), u0_2]))), (1, u1), (2, (.pointer (some ⟨bb1, 0, none⟩))), (4, (.pointer (some ⟨bb2, 0, none⟩))), (17, (.bool x1)), (19, u1), (20, (.int .i64 (a1.length : Int))), (5, (.bool s.1)), (21, (.int .i64 s.2.1))] φ' ∧ IsF .f32 v1 s.2.2.1 ∧ IsC .f32 v2 s.2.2.2.2 ∧ Mod [] h0 h' ∧ Sep [] h0.size h' [boxO bb2 [(.float .f32 0), (.int .i64 0), (.complex .f32 0 0)], boxO bb1 [v1, (.int .i64 s.2.2.2.1), v2]]) hy2 ⟨u0_0, u0_2, ⟨rfl, rfl, rfl, rfl, rfl, rfl, rfl, rfl, rfl, trivial⟩, g0_0, g0_2, X_4, (Sep.sel S_4 [0, 1] (by decide))⟩ ?_
   rintro ⟨x3, x4, x5, x6, x7⟩ φ' hp6 o1 ⟨v1, v2, hs2, fv1, fv2, X_6, S_7⟩ ho1 hy1
   have hs2 : Fr.sub [(0, (.agg (List.toArray (α := Value) [u0_0, (.int .i64 a0_1), u0_2]))), (1, u1), (2, (.pointer (some ⟨bb1, 0, none⟩))), (4, (.pointer (some ⟨bb2, 0, none⟩))), (17, (.bool x1)), (19, u1), (20, (.int .i64 (a1.length : Int))), (5, (.bool x3)), (21, (.int .i64 x4))] φ' := hs2
   have fv1 : IsF .f32 v1 x5 := fv1
   have fv2 : IsC .f32 v2 x7 := fv2
   have S_7 : Sep [] h0.size hp6 [boxO bb2 [(.float .f32 0), (.int .i64 0), (.complex .f32 0 0)], boxO bb1 [v1, (.int .i64 x6), v2]] := S_7
   have ho1 : impl_RunBin.s0 a1 x3 x4 x5 x6 x7 = some o1 := ho1
   unfold impl_RunBin.s0 at ho1
   refine W.sub hs2 ?_
   refine W.seq ?_
   refine W.region ?_
   refine RL.opD (by decide) (opv_icmp rfl rfl rfl rfl) ?_
   refine RL.nil ?_
   refine thnN ?_
   refine W.seq ?_
   by_cases c3 : (decide (x4 < (a1.length : Int))) = true
   ·rw [if_pos c3] at ho1
    refine W.condT rfl c3 ?_
    refine W.skip ?_
    refine thnN ?_
    refine W.seq ?_
    refine W.block ?_
    refine W.seq ?_
    refine W.region ?_
    obtain ⟨x14, hx14, ho1⟩ := Option.bind_eq_some_iff.1 ho1
    refine RL.op _ (by decide) (opv_index rfl Try.underlying25 (by rw [Try.size29]; rfl) rfl rfl (SL.mod g1 X_6 (Nat.le_refl _) nob) hx14) ?_
    rintro v5 _ ⟨fv5, rfl⟩
    refine RL.opF (by decide) (opv_loadF rfl Try.one29 rfl fv5 (SL.mod g1 X_6 (Nat.le_refl _) nob) hx14) ?_
    intro v6 fv6
    refine RL.opD (by decide) (opv_assign rfl rfl) ?_
    refine RL.nil ?_
    refine thnN ?_
    refine W.seq ?_
    refine W.region ?_
    refine RL.opD (by decide) (opv_loadA (us := [v1, (.int .i64 x6), v2]) rfl Try.agg47 Try.size47 rfl (Sep.at (o := boxO bb1 [v1, (.int .i64 x6), v2]) S_7 1 rfl) rfl rfl) ?_
    refine RL.opD (by decide) (opv_move rfl rfl) ?_
    obtain ⟨x15, hx15, ho1⟩ := Option.bind_eq_some_iff.1 ho1
    refine RL.op _ (by decide) (opv_call (cap := []) (impl_StepBin_ok _ _ _ fv1 _ _ _ fv2 _ _ fv6 _ hx15) rfl rfl ⟨rfl, rfl, trivial⟩ Try.func25 rfl rfl) ?_
    rintro _ hp7 ⟨v7, v8, rfl, fv7, fv8, MT_5, T_5⟩
    obtain ⟨X_7, S_8⟩ := Sep.turn0 X_6 S_7 MT_5 T_5
    refine RL.opD (by decide) (opv_move rfl rfl) ?_
    refine RL.opD (by decide) (opv_extract rfl rfl rfl) ?_
    refine RL.opD (by decide) (opv_extract rfl rfl rfl) ?_
    refine RL.op _ (by decide) (opS_boxed (opv_alloc (cs := [(.float .f32 0), (.int .i64 0), (.complex .f32 0 0)]) rfl Try.zero47 rfl)) ?_
    rintro _ hp8 ⟨bb3, rfl, MT_6, T_6⟩
    obtain ⟨X_8, S_9⟩ := Sep.turn0 X_7 S_8 MT_6 T_6
    refine RL.op0 _ (opS_stored (cs := [(.float .f32 0), (.int .i64 0), (.complex .f32 0 0)]) (cs' := [v7, (.int .i64 x15.2.1), v8]) (opv_storeA (us := [v7, (.int .i64 x15.2.1), v8]) rfl Try.size47 rfl rfl (oneAll (IsF.one fv7) (oneAll rfl (oneAll (IsC.one fv8) rfl))) (Sep.at (o := boxO bb3 [(.float .f32 0), (.int .i64 0), (.complex .f32 0 0)]) S_9 0 rfl) rfl rfl) (Sep.at (o := boxO bb3 [(.float .f32 0), (.int .i64 0), (.complex .f32 0 0)]) S_9 0 rfl)) ?_
    rintro _ hp9 ⟨rfl, MT_7, T_7⟩
    have S_10 : Sep [] h0.size hp8 ([boxO bb3 [(.float .f32 0), (.int .i64 0), (.complex .f32 0 0)]] ++ [boxO bb2 [(.float .f32 0), (.int .i64 0), (.complex .f32 0 0)], boxO bb1 [v1, (.int .i64 x6), v2]]) := Sep.sel S_9 [0, 1, 2] (by decide)
    obtain ⟨X_9, S_11⟩ := Sep.turn X_8 S_10 MT_7 T_7
    refine RL.opD (by decide) (opv_assign rfl rfl) ?_
    refine RL.nil ?_
    refine thnN ?_
    refine W.seq ?_
    refine W.seq ?_
    refine W.region ?_
    refine RL.opD (by decide) (opv_move rfl rfl) ?_
    refine RL.opD (by decide) (opv_not rfl rfl) ?_
    refine RL.nil ?_
    refine thnN ?_
    by_cases c4 : (!x15.2.2.2) = true
    ·rw [if_pos c4] at ho1
     refine W.condT rfl c4 ?_
     refine W.seq ?_
     refine W.region ?_
     refine RL.opD (by decide) (opv_build (cs := [(.float .f32 0), (.int .i64 0), (.complex .f32 0 0)]) [] [] rfl Try.bd47 trivial rfl) ?_
     refine RL.op0 _ (opS_stored (cs := [(.float .f32 0), (.int .i64 0), (.complex .f32 0 0)]) (cs' := [(.float .f32 0), (.int .i64 0), (.complex .f32 0 0)]) (opv_storeA (us := [(.float .f32 0), (.int .i64 0), (.complex .f32 0 0)]) rfl Try.size47 rfl rfl (oneAll (IsF.one (isF_lit .f32 0 (by decide) (by decide))) (oneAll rfl (oneAll (IsC.one (isC_lit .f32 0 0 (by decide) (by decide) (by decide) (by decide))) rfl))) (Sep.at (o := boxO bb2 [(.float .f32 0), (.int .i64 0), (.complex .f32 0 0)]) S_11 1 rfl) rfl rfl) (Sep.at (o := boxO bb2 [(.float .f32 0), (.int .i64 0), (.complex .f32 0 0)]) S_11 1 rfl)) ?_
     rintro _ hp10 ⟨rfl, MT_8, T_8⟩
     have S_12 : Sep [] h0.size hp9 ([boxO bb2 [(.float .f32 0), (.int .i64 0), (.complex .f32 0 0)]] ++ [boxO bb3 [v7, (.int .i64 x15.2.1), v8], boxO bb1 [v1, (.int .i64 x6), v2]]) := Sep.sel S_11 [1, 0, 2] (by decide)
     obtain ⟨X_10, S_13⟩ := Sep.turn X_9 S_12 MT_8 T_8
     refine RL.opD (by decide) (opv_assign rfl rfl) ?_
     refine RL.nil ?_
     refine thnN ?_
     refine W.ret ?_
     refine thnR ?_
     refine blkR ?_
     refine thnR ?_
     have eo1 := Option.some.inj ho1
     subst eo1
     have ey2 := hy1 _ rfl
     subst ey2
     try dsimp only at hp
     refine rndR ?_
     refine blkR ?_
     refine onlyR ?_
     refine thnR ?_
     have er := Option.some.inj hp
     subst er
     exact Rt.cellA rfl rfl rfl Try.agg47 Try.size47 (Sep.at (o := boxO bb2 [(.float .f32 0), (.int .i64 0), (.complex .f32 0 0)]) S_13 0 rfl) rfl ⟨(.float .f32 0), (.complex .f32 0 0), rfl, (isF_lit .f32 0 (by decide) (by decide)), (isC_lit .f32 0 0 (by decide) (by decide) (by decide) (by decide)), X_10, (Sep.nil _ _ _)⟩
    ·rw [if_neg c4] at ho1
     have c4 := eq_false_of_ne_true c4
     refine W.condF rfl c4 ?_
     refine W.skip ?_
     refine thnN ?_
     refine W.region ?_
     refine RL.opD (by decide) (opv_loadA (us := [v7, (.int .i64 x15.2.1), v8]) rfl Try.agg47 Try.size47 rfl (Sep.at (o := boxO bb3 [v7, (.int .i64 x15.2.1), v8]) S_11 0 rfl) rfl rfl) ?_
     refine RL.op0 _ (opS_stored (cs := [v1, (.int .i64 x6), v2]) (cs' := [v7, (.int .i64 x15.2.1), v8]) (opv_storeA (us := [v7, (.int .i64 x15.2.1), v8]) rfl Try.size47 rfl rfl (oneAll (IsF.one fv7) (oneAll rfl (oneAll (IsC.one fv8) rfl))) (Sep.at (o := boxO bb1 [v1, (.int .i64 x6), v2]) S_11 2 rfl) rfl rfl) (Sep.at (o := boxO bb1 [v1, (.int .i64 x6), v2]) S_11 2 rfl)) ?_
     rintro _ hp11 ⟨rfl, MT_9, T_9⟩
     have S_14 : Sep [] h0.size hp9 ([boxO bb1 [v1, (.int .i64 x6), v2]] ++ [boxO bb3 [v7, (.int .i64 x15.2.1), v8], boxO bb2 [(.float .f32 0), (.int .i64 0), (.complex .f32 0 0)]]) := Sep.sel S_11 [2, 0, 1] (by decide)
     obtain ⟨X_11, S_15⟩ := Sep.turn X_9 S_14 MT_9 T_9
     refine RL.nil ?_
     refine blkN ?_
     refine thnN ?_
     refine W.region ?_
     refine RL.opD (by decide) (opv_add rfl rfl rfl) ?_
     refine RL.opD (by decide) (opv_move rfl rfl) ?_
     refine RL.nil ?_
     have eo1 := Option.some.inj ho1
     subst eo1
     refine rndN (s' := (x3, IntKind.wrap .i64 (x4 + 1), x15.1, x15.2.1, x15.2.2.1)) rfl ?_
     exact ⟨v7, v8, ⟨rfl, rfl, rfl, rfl, rfl, rfl, rfl, rfl, rfl, trivial⟩, fv7, fv8, X_11, (Sep.sel S_15 [2, 0] (by decide))⟩
   ·rw [if_neg c3] at ho1
    have c3 := eq_false_of_ne_true c3
    refine W.condF rfl c3 ?_
    refine W.exit ?_
    refine thnX ?_
    refine rndX ?_
    refine blkI ?_
    have eo1 := Option.some.inj ho1
    subst eo1
    have ey2 := hy1 _ rfl
    subst ey2
    refine onlyN ?_
    exact ⟨x3, x4, decide (x4 < (a1.length : Int)), x5, x6, x7, v1, v2, rfl, ⟨rfl, rfl, rfl, rfl, rfl, rfl, rfl, rfl, rfl, rfl, trivial⟩, fv1, fv2, X_6, (Sep.sel S_7 [0, 1] (by decide))⟩
  rintro φ' hp12 ⟨x8, x9, x10, x11, x12, x13, v3, v4, rfl, hs3, fv3, fv4, X_12, S_16⟩
  try dsimp only at hp
  refine thnN ?_
  refine W.sub hs3 ?_
  refine W.seq ?_
  refine W.region ?_
  refine RL.opD (by decide) (opv_loadA (us := [v3, (.int .i64 x12), v4]) rfl Try.agg47 Try.size47 rfl (Sep.at (o := boxO bb1 [v3, (.int .i64 x12), v4]) S_16 1 rfl) rfl rfl) ?_
  refine RL.op0 _ (opS_stored (cs := [(.float .f32 0), (.int .i64 0), (.complex .f32 0 0)]) (cs' := [v3, (.int .i64 x12), v4]) (opv_storeA (us := [v3, (.int .i64 x12), v4]) rfl Try.size47 rfl rfl (oneAll (IsF.one fv3) (oneAll rfl (oneAll (IsC.one fv4) rfl))) (Sep.at (o := boxO bb2 [(.float .f32 0), (.int .i64 0), (.complex .f32 0 0)]) S_16 0 rfl) rfl rfl) (Sep.at (o := boxO bb2 [(.float .f32 0), (.int .i64 0), (.complex .f32 0 0)]) S_16 0 rfl)) ?_
  rintro _ hp13 ⟨rfl, MT_10, T_10⟩
  have S_17 : Sep [] h0.size hp12 ([boxO bb2 [(.float .f32 0), (.int .i64 0), (.complex .f32 0 0)]] ++ [boxO bb1 [v3, (.int .i64 x12), v4]]) := Sep.sel S_16 [0, 1] (by decide)
  obtain ⟨X_13, S_18⟩ := Sep.turn X_12 S_17 MT_10 T_10
  refine RL.opD (by decide) (opv_assign rfl rfl) ?_
  refine RL.nil ?_
  refine thnN ?_
  refine W.ret ?_
  have er := Option.some.inj hp
  subst er
  exact Rt.cellA rfl rfl rfl Try.agg47 Try.size47 (Sep.at (o := boxO bb2 [v3, (.int .i64 x12), v4]) S_18 0 rfl) rfl ⟨v3, v4, rfl, fv3, fv4, X_13, (Sep.nil _ _ _)⟩

set_option maxRecDepth 20000 in
theorem impl_BinOf_ok (h0 : Heap) (u0 : Value) (a0 : List (Option Nat)) (g0 : SL (kF .f32) h0.size h0 u0 a0) (u1 : Value) (a1 : Option Nat) (g1 : IsF .f32 u1 a1) (r : ((Option Nat × Option Nat) × Bool)) (hp : impl_BinOf a0 a1 = some r) : CallsH Try.prog 24 ([u0, u1].toArray ++ [].toArray) h0 (fun v h' => ∃ w0, v = (.tuple (List.toArray (α := Value) [w0, (.bool r.2)])) ∧ IsC .f32 w0 r.1 ∧ h0 = h') := by
 unfold impl_BinOf at hp
 refine callsH_of_W (l := [u0, u1]) (cap := []) 32 Try.func24 rfl rfl rfl ?_
 refine W.seq ?_
 refine W.region ?_
 refine RL.opD (by decide) (opv_assign rfl rfl) ?_
 refine RL.opD (by decide) (opv_assign rfl rfl) ?_
 refine RL.nil ?_
 refine thnN ?_
 refine W.seq ?_
 refine W.seq ?_
 obtain ⟨x1, hy1, hp⟩ := Option.bind_eq_some_iff.1 hp
 refine W.cut (fun φ' h' => Fr.sub [(0, u0), (1, u1), (4, (.complex .f32 0 0)), (5, (.bool false)), (16, (.bool x1))] φ' ∧ h0 = h') ?_ ?_
 ·refine W.region ?_
  refine RL.opD (by decide) (opv_move rfl rfl) ?_
  obtain ⟨x2, hx2, hy1⟩ := Option.bind_eq_some_iff.1 hy1
  refine RL.op _ (by decide) (opv_call (cap := []) (impl_isRecord_float32_ok _ _ _ g0 _ hx2) rfl rfl ⟨rfl, trivial⟩ Try.func70 rfl rfl) ?_
  rintro _ _ ⟨rfl, rfl⟩
  refine RL.opD (by decide) (opv_not rfl rfl) ?_
  refine RL.opD (by decide) (opv_move rfl rfl) ?_
  by_cases c1 : (!x2) = true
  ·rw [if_pos c1] at hy1
   refine RL.noT rfl rfl c1 (by decide) ?_
   refine RL.noT rfl rfl c1 (by decide) ?_
   refine RL.noT rfl rfl c1 (by decide) ?_
   refine RL.opD (by decide) (opv_pick rfl rfl (fun _ => rfl) (fun e => absurd (Eq.trans (Eq.symm e) c1) (by decide)) rfl) ?_
   refine RL.nil ?_
   have ey1 := Option.some.inj hy1
   subst ey1
   refine onlyN ?_
   exact ⟨⟨rfl, rfl, rfl, rfl, rfl, trivial⟩, rfl⟩
  ·rw [if_neg c1] at hy1
   have c1 := eq_false_of_ne_true c1
   refine RL.yesD rfl rfl c1 (by decide) (opv_move rfl rfl) ?_
   obtain ⟨x3, hx3, hy1⟩ := Option.bind_eq_some_iff.1 hy1
   refine RL.yes _ rfl rfl c1 (by decide) (opv_call (cap := []) (impl_IsFinite_ok _ _ _ g1 _ hx3) rfl rfl ⟨rfl, trivial⟩ Try.func75 rfl rfl) ?_
   rintro _ _ ⟨rfl, rfl⟩
   refine RL.yesD rfl rfl c1 (by decide) (opv_not rfl rfl) ?_
   refine RL.opD (by decide) (opv_pick rfl rfl (fun e => absurd (Eq.trans (Eq.symm e) c1) (by decide)) (fun _ => rfl) rfl) ?_
   refine RL.nil ?_
   have ey1 := Option.some.inj hy1
   subst ey1
   refine onlyN ?_
   exact ⟨⟨rfl, rfl, rfl, rfl, rfl, trivial⟩, rfl⟩
 rintro φ' _ ⟨hs1, rfl⟩
 refine thnN ?_
 refine W.sub hs1 ?_
 by_cases c2 : x1 = true
 ·rw [if_pos c2] at hp
  refine W.condT rfl c2 ?_
  refine W.seq ?_
  refine W.region ?_
  refine RL.opD (by decide) (opv_assign rfl rfl) ?_
  refine RL.opD (by decide) (opv_assign rfl rfl) ?_
  refine RL.nil ?_
  refine thnN ?_
  refine W.ret ?_
  refine thnR ?_
  have er := Option.some.inj hp
  subst er
  exact Rt.two rfl rfl rfl ⟨(.complex .f32 0 0), rfl, (isC_lit .f32 0 0 (by decide) (by decide) (by decide) (by decide)), rfl⟩
 ·rw [if_neg c2] at hp
  have c2 := eq_false_of_ne_true c2
  refine W.condF rfl c2 ?_
  refine W.skip ?_
  refine thnN ?_
  refine W.seq ?_
  refine W.region ?_
  refine RL.opD (by decide) (opv_assign rfl rfl) ?_
  refine RL.nil ?_
  refine thnN ?_
  refine W.seq ?_
  refine W.seq ?_
  refine W.region ?_
  refine RL.opD (by decide) (opv_move rfl rfl) ?_
  refine RL.opD (by decide) (opv_len rfl Try.underlying25 rfl g0) ?_
  refine RL.opD (by decide) (opv_move rfl rfl) ?_
  refine RL.nil ?_
  refine thnN ?_
  obtain ⟨y2, hy2, hp⟩ := Option.bind_eq_some_iff.1 hp
  refine W.cut (fun φ' h' => ∃ x6, ∃ x7, ∃ x8, ∃ v2, y2 = (x6, x7, x8) ∧ Fr.sub [(0, u0), (1, u1), (4, (.complex .f32 0 0)), (5, (.bool false)), (16, (.bool x1)), (17, u0), (18, (.int .i64 (a0.length : Int))), (6, v2), (19, (.int .i64 x7)), (20, (.bool x8))] φ' ∧ IsC .f32 v2 x6 ∧ h0 = h') ?_ ?_
  ·refine W.block ?_
   refine W.loopS (fun (s : ((Option Nat × Option Nat) × Int)) φ' h' => ∃ v1, Fr.sub [(0, u0), (1, u1), (4, (.complex .f32 0 0)), (5, (.bool false)), (16, (.bool x1)), (17, u0), (18, (.int .i64 (a0.length : Int))), (6, v1), (19, (.int .i64 s.2))] φ' ∧ IsC .f32 v1 s.1 ∧ h0 = h') hy2 ⟨(.complex .f32 0 0), ⟨rfl, rfl, rfl, rfl, rfl, rfl, rfl, rfl, rfl, trivial⟩, (isC_lit .f32 0 0 (by decide) (by decide) (by decide) (by decide)), rfl⟩ ?_
   rintro ⟨x4, x5⟩ φ' _ o1 ⟨v1, hs2, fv1, rfl⟩ ho1 hy1
   have hs2 : Fr.sub [(0, u0), (1, u1), (4, (.complex .f32 0 0)), (5, (.bool false)), (16, (.bool x1)), (17, u0), (18, (.int .i64 (a0.length : Int))), (6, v1), (19, (.int .i64 x5))] φ' := hs2
   have fv1 : IsC .f32 v1 x4 := fv1
   have ho1 : impl_BinOf.s0 a0 a1 x4 x5 = some o1 := ho1
   unfold impl_BinOf.s0 at ho1
   refine W.sub hs2 ?_
   refine W.seq ?_
   refine W.region ?_
   refine RL.opD (by decide) (opv_icmp rfl rfl rfl rfl) ?_
   refine RL.nil ?_
   refine thnN ?_
   refine W.seq ?_
   by_cases c3 : (decide (x5 < (a0.length : Int))) = true
   ·rw [if_pos c3] at ho1
    refine W.condT rfl c3 ?_
    refine W.skip ?_
    refine thnN ?_
    refine W.seq ?_
    refine W.block ?_
    refine W.seq ?_
    refine W.region ?_
    refine RL.opD (by decide) (opv_move rfl rfl) ?_
    obtain ⟨x9, hx9, ho1⟩ := Option.bind_eq_some_iff.1 ho1
    refine RL.op _ (by decide) (opv_index rfl Try.underlying25 (by rw [Try.size29]; rfl) rfl rfl g0 hx9) ?_
    rintro v3 _ ⟨fv3, rfl⟩
    refine RL.opF (by decide) (opv_loadF rfl Try.one29 rfl fv3 g0 hx9) ?_
    intro v4 fv4
    refine RL.opD (by decide) (opv_assign rfl rfl) ?_
    refine RL.opD (by decide) (opv_assign rfl rfl) ?_
    refine RL.nil ?_
    refine thnN ?_
    refine W.region ?_
    refine RL.opD (by decide) (opv_move rfl rfl) ?_
    refine RL.opD (by decide) (opv_move rfl rfl) ?_
    refine RL.opD (by decide) (opv_move rfl rfl) ?_
    refine RL.opD (by decide) (opv_move rfl rfl) ?_
    obtain ⟨x10, hx10, ho1⟩ := Option.bind_eq_some_iff.1 ho1
    refine RL.op _ (by decide) (opv_call (cap := []) (impl_term_ok _ _ _ fv4 _ _ _ g1 _ hx10) rfl rfl ⟨rfl, rfl, rfl, trivial⟩ Try.func84 rfl rfl) ?_
    rintro v5 _ ⟨fv5, rfl⟩
    obtain ⟨x11, hx11, ho1⟩ := Option.bind_eq_some_iff.1 ho1
    refine RL.op _ (by decide) (opv_call (cap := []) (impl_add_ok _ _ _ fv1 _ _ fv5 _ hx11) rfl rfl ⟨rfl, rfl, trivial⟩ Try.func83 rfl rfl) ?_
    rintro v6 _ ⟨fv6, rfl⟩
    refine RL.opD (by decide) (opv_assign rfl rfl) ?_
    refine RL.nil ?_
    refine blkN ?_
    refine thnN ?_
    refine W.region ?_
    refine RL.opD (by decide) (opv_add rfl rfl rfl) ?_
    refine RL.opD (by decide) (opv_move rfl rfl) ?_
    refine RL.nil ?_
    have eo1 := Option.some.inj ho1
    subst eo1
    refine rndN (s' := (x11, IntKind.wrap .i64 (x5 + 1))) rfl ?_
    exact ⟨v6, ⟨rfl, rfl, rfl, rfl, rfl, rfl, rfl, rfl, rfl, trivial⟩, fv6, rfl⟩
   ·rw [if_neg c3] at ho1
    have c3 := eq_false_of_ne_true c3
    refine W.condF rfl c3 ?_
    refine W.exit ?_
    refine thnX ?_
    refine rndX ?_
    refine blkI ?_
    have eo1 := Option.some.inj ho1
    subst eo1
    have ey2 := hy1 _ rfl
    subst ey2
    refine onlyN ?_
    exact ⟨x4, x5, decide (x5 < (a0.length : Int)), v1, rfl, ⟨rfl, rfl, rfl, rfl, rfl, rfl, rfl, rfl, rfl, rfl, trivial⟩, fv1, rfl⟩
  rintro φ' _ ⟨x6, x7, x8, v2, rfl, hs3, fv2, rfl⟩
  try dsimp only at hp
  refine thnN ?_
  refine W.sub hs3 ?_
  refine W.seq ?_
  refine W.region ?_
  refine RL.opD (by decide) (opv_move rfl rfl) ?_
  refine RL.opD (by decide) (opv_assign rfl rfl) ?_
  refine RL.opD (by decide) (opv_assign rfl rfl) ?_
  refine RL.nil ?_
  refine thnN ?_
  refine W.ret ?_
  have er := Option.some.inj hp
  subst er
  exact Rt.two rfl rfl rfl ⟨v2, rfl, fv2, rfl⟩

set_option maxRecDepth 20000 in
theorem math_Signbit_ok (h0 : Heap) (u0 : Value) (a0 : Option Nat) (g0 : IsF .f64 u0 a0) (r : Bool) (hp : math_Signbit a0 = some r) : CallsH Try.prog 88 ([u0].toArray ++ [].toArray) h0 (fun v h' => v = (.bool r) ∧ h0 = h') := by
 unfold math_Signbit at hp
 obtain ⟨b0, rfl, hb0, hc0⟩ := g0
 have g0 : IsF .f64 (.float .f64 b0) a0 := ⟨b0, rfl, hb0, hc0⟩
 refine callsH_of_W (l := [(.float .f64 b0)]) (cap := []) 7 Try.func88 rfl rfl rfl ?_
 refine W.seq ?_
 refine W.region ?_
 refine RL.opD (by decide) (opv_assign rfl rfl) ?_
 refine RL.nil ?_
 refine thnN ?_
 refine W.seq ?_
 refine W.region ?_
 refine RL.opD (by decide) (opv_move rfl rfl) ?_
 refine RL.opD (by decide) (opv_ext (vs := [(.float .f64 b0)]) rfl rfl ⟨rfl, trivial⟩ Try.func143 rfl rfl rfl rfl (fun w => raw_bits_run b0 w)) ?_
 refine RL.opD (by decide) (opv_i2i rfl (by rw [Try.underlying154]; rfl) Try.underlying2 rfl) ?_
 refine RL.opD (by decide) (opv_icmp rfl rfl rfl rfl) ?_
 refine RL.opD (by decide) (opv_assign rfl rfl) ?_
 refine RL.nil ?_
 refine thnN ?_
 refine W.ret ?_
 have er := raw_sign hb0 hc0 hp
 subst er
 exact Rt.one rfl rfl ⟨rfl, rfl⟩

set_option maxRecDepth 20000 in
theorem impl_SameNumber_ok (h0 : Heap) (u0 : Value) (a0 : Option Nat) (g0 : IsF .f32 u0 a0) (u1 : Value) (a1 : Option Nat) (g1 : IsF .f32 u1 a1) (r : Bool) (hp : impl_SameNumber a0 a1 = some r) : CallsH Try.prog 30 ([u0, u1].toArray ++ [].toArray) h0 (fun v h' => v = (.bool r) ∧ h0 = h') := by
 unfold impl_SameNumber at hp
 refine callsH_of_W (l := [u0, u1]) (cap := []) 33 Try.func30 rfl rfl rfl ?_
 refine W.seq ?_
 refine W.region ?_
 refine RL.opD (by decide) (opv_assign rfl rfl) ?_
 refine RL.nil ?_
 refine thnN ?_
 refine W.seq ?_
 refine W.seq ?_
 obtain ⟨x1, hy1, hp⟩ := Option.bind_eq_some_iff.1 hp
 refine W.cut (fun φ' h' => Fr.sub [(0, u0), (1, u1), (4, (.bool false)), (12, (.bool x1))] φ' ∧ h0 = h') ?_ ?_
 ·refine W.region ?_
  refine RL.opD (by decide) (opv_move rfl rfl) ?_
  refine RL.opD (by decide) (opv_move rfl rfl) ?_
  refine RL.opD (by decide) (opv_fcmp rfl rfl rfl rfl g0 g0) ?_
  refine RL.opD (by decide) (opv_move rfl rfl) ?_
  by_cases c1 : (fcmp .neq .f32 a0 a0) = true
  ·rw [if_pos c1] at hy1
   refine RL.noT rfl rfl c1 (by decide) ?_
   refine RL.noT rfl rfl c1 (by decide) ?_
   refine RL.noT rfl rfl c1 (by decide) ?_
   refine RL.opD (by decide) (opv_pick rfl rfl (fun _ => rfl) (fun e => absurd (Eq.trans (Eq.symm e) c1) (by decide)) rfl) ?_
   refine RL.nil ?_
   have ey1 := Option.some.inj hy1
   subst ey1
   refine onlyN ?_
   exact ⟨⟨rfl, rfl, rfl, rfl, trivial⟩, rfl⟩
  ·rw [if_neg c1] at hy1
   have c1 := eq_false_of_ne_true c1
   refine RL.yesD rfl rfl c1 (by decide) (opv_move rfl rfl) ?_
   refine RL.yesD rfl rfl c1 (by decide) (opv_move rfl rfl) ?_
   refine RL.yesD rfl rfl c1 (by decide) (opv_fcmp rfl rfl rfl rfl g1 g1) ?_
   refine RL.opD (by decide) (opv_pick rfl rfl (fun e => absurd (Eq.trans (Eq.symm e) c1) (by decide)) (fun _ => rfl) rfl) ?_
   refine RL.nil ?_
   have ey1 := Option.some.inj hy1
   subst ey1
   refine onlyN ?_
   exact ⟨⟨rfl, rfl, rfl, rfl, trivial⟩, rfl⟩
 rintro φ' _ ⟨hs1, rfl⟩
 refine thnN ?_
 refine W.sub hs1 ?_
 by_cases c2 : x1 = true
 ·rw [if_pos c2] at hp
  refine W.condT rfl c2 ?_
  refine W.seq ?_
  obtain ⟨x2, hy2, hp⟩ := Option.bind_eq_some_iff.1 hp
  refine W.cut (fun φ' h' => Fr.sub [(0, u0), (1, u1), (12, (.bool x1)), (4, (.bool x2))] φ' ∧ h0 = h') ?_ ?_
  ·refine W.region ?_
   refine RL.opD (by decide) (opv_move rfl rfl) ?_
   refine RL.opD (by decide) (opv_move rfl rfl) ?_
   refine RL.opD (by decide) (opv_fcmp rfl rfl rfl rfl g0 g0) ?_
   refine RL.opD (by decide) (opv_move rfl rfl) ?_
   by_cases c3 : (fcmp .neq .f32 a0 a0) = true
   ·rw [if_pos c3] at hy2
    refine RL.yesD rfl rfl c3 (by decide) (opv_move rfl rfl) ?_
    refine RL.yesD rfl rfl c3 (by decide) (opv_move rfl rfl) ?_
    refine RL.yesD rfl rfl c3 (by decide) (opv_fcmp rfl rfl rfl rfl g1 g1) ?_
    refine RL.opD (by decide) (opv_pick rfl rfl (fun _ => rfl) (fun e => absurd (Eq.trans (Eq.symm e) c3) (by decide)) rfl) ?_
    refine RL.opD (by decide) (opv_assign rfl rfl) ?_
    refine RL.nil ?_
    have ey2 := Option.some.inj hy2
    subst ey2
    refine onlyN ?_
    exact ⟨⟨rfl, rfl, rfl, rfl, trivial⟩, rfl⟩
   ·rw [if_neg c3] at hy2
    have c3 := eq_false_of_ne_true c3
    refine RL.noF rfl rfl c3 (by decide) ?_
    refine RL.noF rfl rfl c3 (by decide) ?_
    refine RL.noF rfl rfl c3 (by decide) ?_
    refine RL.opD (by decide) (opv_pick rfl rfl (fun e => absurd (Eq.trans (Eq.symm e) c3) (by decide)) (fun _ => rfl) rfl) ?_
    refine RL.opD (by decide) (opv_assign rfl rfl) ?_
    refine RL.nil ?_
    have ey2 := Option.some.inj hy2
    subst ey2
    refine onlyN ?_
    exact ⟨⟨rfl, rfl, rfl, rfl, trivial⟩, rfl⟩
  rintro φ' _ ⟨hs2, rfl⟩
  refine thnN ?_
  refine W.sub hs2 ?_
  refine W.ret ?_
  refine thnR ?_
  have er := Option.some.inj hp
  subst er
  exact Rt.one rfl rfl ⟨rfl, rfl⟩
 ·rw [if_neg c2] at hp
  have c2 := eq_false_of_ne_true c2
  refine W.condF rfl c2 ?_
  refine W.skip ?_
  refine thnN ?_
  refine W.seq ?_
  obtain ⟨x3, hy3, hp⟩ := Option.bind_eq_some_iff.1 hp
  refine W.cut (fun φ' h' => Fr.sub [(0, u0), (1, u1), (12, (.bool x1)), (4, (.bool x3))] φ' ∧ h0 = h') ?_ ?_
  ·refine W.region ?_
   refine RL.opD (by decide) (opv_move rfl rfl) ?_
   refine RL.opD (by decide) (opv_move rfl rfl) ?_
   refine RL.opD (by decide) (opv_fcmp rfl rfl rfl rfl g0 g1) ?_
   refine RL.opD (by decide) (opv_move rfl rfl) ?_
   by_cases c4 : (fcmp .eql .f32 a0 a1) = true
   ·rw [if_pos c4] at hy3
    refine RL.yesD rfl rfl c4 (by decide) (opv_move rfl rfl) ?_
    refine RL.yes _ rfl rfl c4 (by decide) (opv_widen rfl (by rw [Try.underlying29]; rfl) Try.underlying43 rfl g0) ?_
    rintro v1 _ ⟨fv1, rfl⟩
    obtain ⟨x4, hx4, hy3⟩ := Option.bind_eq_some_iff.1 hy3
    refine RL.yes _ rfl rfl c4 (by decide) (opv_call (cap := []) (math_Signbit_ok _ _ _ fv1 _ hx4) rfl rfl ⟨rfl, trivial⟩ Try.func88 rfl rfl) ?_
    rintro _ _ ⟨rfl, rfl⟩
    refine RL.yesD rfl rfl c4 (by decide) (opv_move rfl rfl) ?_
    refine RL.yes _ rfl rfl c4 (by decide) (opv_widen rfl (by rw [Try.underlying29]; rfl) Try.underlying43 rfl g1) ?_
    rintro v2 _ ⟨fv2, rfl⟩
    obtain ⟨x5, hx5, hy3⟩ := Option.bind_eq_some_iff.1 hy3
    refine RL.yes _ rfl rfl c4 (by decide) (opv_call (cap := []) (math_Signbit_ok _ _ _ fv2 _ hx5) rfl rfl ⟨rfl, trivial⟩ Try.func88 rfl rfl) ?_
    rintro _ _ ⟨rfl, rfl⟩
    refine RL.yesD rfl rfl c4 (by decide) (opv_bcmp rfl rfl Try.underlying4 rfl rfl) ?_
    refine RL.opD (by decide) (opv_pick rfl rfl (fun _ => rfl) (fun e => absurd (Eq.trans (Eq.symm e) c4) (by decide)) rfl) ?_
    refine RL.opD (by decide) (opv_assign rfl rfl) ?_
    refine RL.nil ?_
    have ey3 := Option.some.inj hy3
    subst ey3
    refine onlyN ?_
    exact ⟨⟨rfl, rfl, rfl, rfl, trivial⟩, rfl⟩
   ·rw [if_neg c4] at hy3
    have c4 := eq_false_of_ne_true c4
    refine RL.noF rfl rfl c4 (by decide) ?_
    refine RL.noF rfl rfl c4 (by decide) ?_
    refine RL.noF rfl rfl c4 (by decide) ?_
    refine RL.noF rfl rfl c4 (by decide) ?_
    refine RL.noF rfl rfl c4 (by decide) ?_
    refine RL.noF rfl rfl c4 (by decide) ?_
    refine RL.noF rfl rfl c4 (by decide) ?_
    refine RL.opD (by decide) (opv_pick rfl rfl (fun e => absurd (Eq.trans (Eq.symm e) c4) (by decide)) (fun _ => rfl) rfl) ?_
    refine RL.opD (by decide) (opv_assign rfl rfl) ?_
    refine RL.nil ?_
    have ey3 := Option.some.inj hy3
    subst ey3
    refine onlyN ?_
    exact ⟨⟨rfl, rfl, rfl, rfl, trivial⟩, rfl⟩
  rintro φ' _ ⟨hs3, rfl⟩
  refine thnN ?_
  refine W.sub hs3 ?_
  refine W.ret ?_
  have er := Option.some.inj hp
  subst er
  exact Rt.one rfl rfl ⟨rfl, rfl⟩

set_option maxRecDepth 20000 in
theorem impl_SameComplex_ok (h0 : Heap) (u0 : Value) (a0 : (Option Nat × Option Nat)) (g0 : IsC .f32 u0 a0) (u1 : Value) (a1 : (Option Nat × Option Nat)) (g1 : IsC .f32 u1 a1) (r : Bool) (hp : impl_SameComplex a0 a1 = some r) : CallsH Try.prog 27 ([u0, u1].toArray ++ [].toArray) h0 (fun v h' => v = (.bool r) ∧ h0 = h') := by
 unfold impl_SameComplex at hp
 refine callsH_of_W (l := [u0, u1]) (cap := []) 17 Try.func27 rfl rfl rfl ?_
 refine W.seq ?_
 refine W.region ?_
 refine RL.opD (by decide) (opv_assign rfl rfl) ?_
 refine RL.nil ?_
 refine thnN ?_
 refine W.seq ?_
 obtain ⟨x1, hy1, hp⟩ := Option.bind_eq_some_iff.1 hp
 refine W.cut (fun φ' h' => Fr.sub [(0, u0), (1, u1), (4, (.bool x1))] φ' ∧ h0 = h') ?_ ?_
 ·refine W.region ?_
  refine RL.opD (by decide) (opv_move rfl rfl) ?_
  refine RL.opF (by decide) (opv_real rfl rfl g0) ?_
  intro v1 fv1
  refine RL.opD (by decide) (opv_move rfl rfl) ?_
  refine RL.opF (by decide) (opv_real rfl rfl g1) ?_
  intro v2 fv2
  obtain ⟨x2, hx2, hy1⟩ := Option.bind_eq_some_iff.1 hy1
  refine RL.op _ (by decide) (opv_call (cap := []) (impl_SameNumber_ok _ _ _ fv1 _ _ fv2 _ hx2) rfl rfl ⟨rfl, rfl, trivial⟩ Try.func30 rfl rfl) ?_
  rintro _ _ ⟨rfl, rfl⟩
  refine RL.opD (by decide) (opv_move rfl rfl) ?_
  by_cases c1 : x2 = true
  ·rw [if_pos c1] at hy1
   refine RL.yesD rfl rfl c1 (by decide) (opv_move rfl rfl) ?_
   refine RL.yes _ rfl rfl c1 (by decide) (opv_imag rfl rfl g0) ?_
   rintro v3 _ ⟨fv3, rfl⟩
   refine RL.yesD rfl rfl c1 (by decide) (opv_move rfl rfl) ?_
   refine RL.yes _ rfl rfl c1 (by decide) (opv_imag rfl rfl g1) ?_
   rintro v4 _ ⟨fv4, rfl⟩
   obtain ⟨x3, hx3, hy1⟩ := Option.bind_eq_some_iff.1 hy1
   refine RL.yes _ rfl rfl c1 (by decide) (opv_call (cap := []) (impl_SameNumber_ok _ _ _ fv3 _ _ fv4 _ hx3) rfl rfl ⟨rfl, rfl, trivial⟩ Try.func30 rfl rfl) ?_
   rintro _ _ ⟨rfl, rfl⟩
   refine RL.opD (by decide) (opv_pick rfl rfl (fun _ => rfl) (fun e => absurd (Eq.trans (Eq.symm e) c1) (by decide)) rfl) ?_
   refine RL.opD (by decide) (opv_assign rfl rfl) ?_
   refine RL.nil ?_
   have ey1 := Option.some.inj hy1
   subst ey1
   refine onlyN ?_
   exact ⟨⟨rfl, rfl, rfl, trivial⟩, rfl⟩
  ·rw [if_neg c1] at hy1
   have c1 := eq_false_of_ne_true c1
   refine RL.noF rfl rfl c1 (by decide) ?_
   refine RL.noF rfl rfl c1 (by decide) ?_
   refine RL.noF rfl rfl c1 (by decide) ?_
   refine RL.noF rfl rfl c1 (by decide) ?_
   refine RL.noF rfl rfl c1 (by decide) ?_
   refine RL.opD (by decide) (opv_pick rfl rfl (fun e => absurd (Eq.trans (Eq.symm e) c1) (by decide)) (fun _ => rfl) rfl) ?_
   refine RL.opD (by decide) (opv_assign rfl rfl) ?_
   refine RL.nil ?_
   have ey1 := Option.some.inj hy1
   subst ey1
   refine onlyN ?_
   exact ⟨⟨rfl, rfl, rfl, trivial⟩, rfl⟩
 rintro φ' _ ⟨hs1, rfl⟩
 refine thnN ?_
 refine W.sub hs1 ?_
 refine W.ret ?_
 have er := Option.some.inj hp
 subst er
 exact Rt.one rfl rfl ⟨rfl, rfl⟩

set_option maxRecDepth 20000 in
theorem impl_windowAt_ok (h0 : Heap) (a0 : Int) (a1 : Int) (a2 : Int) (r : Option Nat) (hp : impl_windowAt a0 a1 a2 = some r) : CallsH Try.prog 86 ([(.int .i64 a0), (.int .i64 a1), (.int .i64 a2)].toArray ++ [].toArray) h0 (fun v h' => IsF .f32 v r ∧ h0 = h') := by
 unfold impl_windowAt at hp
 refine callsH_of_W (l := [(.int .i64 a0), (.int .i64 a1), (.int .i64 a2)]) (cap := []) 37 Try.func86 rfl rfl rfl ?_
 refine W.seq ?_
 refine W.region ?_
 refine RL.opD (by decide) (opv_assign rfl rfl) ?_
 refine RL.nil ?_
 refine thnN ?_
 refine W.seq ?_
 refine W.seq ?_
 refine W.region ?_
 refine RL.opD (by decide) (opv_move rfl rfl) ?_
 refine RL.nil ?_
 refine thnN ?_
 refine W.block ?_
 refine W.seq ?_
 refine W.region ?_
 refine RL.opD (by decide) (opv_icmp rfl rfl rfl rfl) ?_
 refine RL.opD (by decide) (opv_assign rfl rfl) ?_
 refine RL.nil ?_
 refine thnN ?_
 by_cases c1 : (a0 == 0) = true
 ·rw [if_pos c1] at hp
  refine W.condT rfl c1 ?_
  refine W.seq ?_
  refine W.region ?_
  refine RL.opD (by decide) (opv_assign rfl rfl) ?_
  refine RL.nil ?_
  refine thnN ?_
  refine W.ret ?_
  refine blkR ?_
  refine thnR ?_
  have er := Option.some.inj hp
  subst er
  exact Rt.one rfl rfl ⟨(isF_lit .f32 1065353216 (by decide) (by decide)), rfl⟩
 ·rw [if_neg c1] at hp
  have c1 := eq_false_of_ne_true c1
  refine W.condF rfl c1 ?_
  refine W.seq ?_
  refine W.region ?_
  refine RL.opD (by decide) (opv_icmp rfl rfl rfl rfl) ?_
  refine RL.opD (by decide) (opv_assign rfl rfl) ?_
  refine RL.nil ?_
  refine thnN ?_
  by_cases c2 : (a0 == 1) = true
  ·rw [if_pos c2] at hp
   refine W.condT rfl c2 ?_
   refine W.seq ?_
   refine W.region ?_
   refine RL.opD (by decide) (opv_move rfl rfl) ?_
   refine RL.opD (by decide) (opv_add rfl rfl rfl) ?_
   refine RL.opD (by decide) (opv_move rfl rfl) ?_
   refine RL.opD (by decide) (opv_move rfl rfl) ?_
   refine RL.opD (by decide) (opv_sub rfl rfl rfl) ?_
   refine RL.opD (by decide) (opv_min2 rfl rfl rfl) ?_
   refine RL.opF (by decide) (opv_i2f rfl (by rw [Try.underlying2]; rfl) Try.underlying29 rfl) ?_
   intro v1 fv1
   refine RL.opF (by decide) (opv_fop rfl rfl rfl rfl (isF_lit .f32 1073741824 (by decide) (by decide)) fv1) ?_
   intro v2 fv2
   refine RL.opD (by decide) (opv_move rfl rfl) ?_
   refine RL.opD (by decide) (opv_add rfl rfl rfl) ?_
   refine RL.opF (by decide) (opv_i2f rfl (by rw [Try.underlying2]; rfl) Try.underlying29 rfl) ?_
   intro v3 fv3
   refine RL.opF (by decide) (opv_fop rfl rfl rfl rfl fv2 fv3) ?_
   intro v4 fv4
   refine RL.opD (by decide) (opv_assign rfl rfl) ?_
   refine RL.nil ?_
   refine thnN ?_
   refine W.ret ?_
   refine blkR ?_
   refine thnR ?_
   have er := Option.some.inj hp
   subst er
   exact Rt.one rfl rfl ⟨fv4, rfl⟩
  ·rw [if_neg c2] at hp
   have c2 := eq_false_of_ne_true c2
   refine W.condF rfl c2 ?_
   refine W.skip ?_
   refine blkN ?_
   refine thnN ?_
   refine W.seq ?_
   refine W.region ?_
   refine RL.opD (by decide) (opv_move rfl rfl) ?_
   refine RL.opD (by decide) (opv_add rfl rfl rfl) ?_
   refine RL.opF (by decide) (opv_i2f rfl (by rw [Try.underlying2]; rfl) Try.underlying29 rfl) ?_
   intro v5 fv5
   refine RL.opD (by decide) (opv_move rfl rfl) ?_
   refine RL.opD (by decide) (opv_add rfl rfl rfl) ?_
   refine RL.opF (by decide) (opv_i2f rfl (by rw [Try.underlying2]; rfl) Try.underlying29 rfl) ?_
   intro v6 fv6
   refine RL.opF (by decide) (opv_fop rfl rfl rfl rfl fv5 fv6) ?_
   intro v7 fv7
   refine RL.opF (by decide) (opv_fop rfl rfl rfl rfl (isF_lit .f32 1048576000 (by decide) (by decide)) fv7) ?_
   intro v8 fv8
   obtain ⟨x1, hx1, hp⟩ := Option.bind_eq_some_iff.1 hp
   refine RL.op _ (by decide) (opv_call (cap := []) (impl_SineTurns_ok _ _ _ fv8 _ hx1) rfl rfl ⟨rfl, trivial⟩ Try.func136 rfl rfl) ?_
   rintro v9 _ ⟨fv9, rfl⟩
   refine RL.opF (by decide) (opv_fop rfl rfl rfl rfl fv9 (isF_lit .f32 1073741824 (by decide) (by decide))) ?_
   intro v10 fv10
   refine RL.opD (by decide) (opv_assign rfl rfl) ?_
   refine RL.nil ?_
   refine thnN ?_
   refine W.seq ?_
   refine W.region ?_
   refine RL.opD (by decide) (opv_move rfl rfl) ?_
   refine RL.opF (by decide) (opv_fop rfl rfl rfl rfl (isF_lit .f32 1056964608 (by decide) (by decide)) fv10) ?_
   intro v11 fv11
   refine RL.opD (by decide) (opv_assign rfl rfl) ?_
   refine RL.nil ?_
   refine thnN ?_
   refine W.ret ?_
   have er := Option.some.inj hp
   subst er
   exact Rt.one rfl rfl ⟨fv11, rfl⟩

set_option maxRecDepth 20000 in
theorem impl_WindowOf_ok (h0 : Heap) (a0 : Int) (a1 : Int) (r : ((List (Option Nat)) × Bool)) (hp : impl_WindowOf a0 a1 = some r) : CallsH Try.prog 28 ([(.int .i64 a0), (.int .i64 a1)].toArray ++ [].toArray) h0 (fun v h' => ∃ w0, v = (.tuple (List.toArray (α := Value) [w0, (.bool r.2)])) ∧ Mod [] h0 h' ∧ Sep [] h0.size h' [ownO (kF .f32) 29 w0 r.1]) := by
 unfold impl_WindowOf at hp
 refine callsH_of_W (l := [(.int .i64 a0), (.int .i64 a1)]) (cap := []) 30 Try.func28 rfl rfl rfl ?_
 refine W.seq ?_
 refine W.region ?_
 refine RL.opD (by decide) (opv_assign rfl rfl) ?_
 have S_1 : Sep [] h0.size h0 [ownO (kF .f32) 29 (.slice none 0 0) ([] : List (Option Nat))] := Sep.addNil (Sep.nil [] h0.size h0)
 refine RL.opD (by decide) (opv_assign rfl rfl) ?_
 refine RL.nil ?_
 refine thnN ?_
 refine W.seq ?_
 refine W.seq ?_
 obtain ⟨x1, hy1, hp⟩ := Option.bind_eq_some_iff.1 hp
 refine W.cut (fun φ' h' => Fr.sub [(0, (.int .i64 a0)), (1, (.int .i64 a1)), (4, (.slice none 0 0)), (5, (.bool false)), (15, (.bool x1))] φ' ∧ h0 = h') ?_ ?_
 ·refine W.region ?_
  refine RL.opD (by decide) (opv_move rfl rfl) ?_
  obtain ⟨x2, hx2, hy1⟩ := Option.bind_eq_some_iff.1 hy1
  refine RL.op _ (by decide) (opv_call (cap := []) (impl_within_ok _ _ _ _ _ hx2) rfl rfl ⟨rfl, rfl, rfl, trivial⟩ Try.func71 rfl rfl) ?_
  rintro _ _ ⟨rfl, rfl⟩
  refine RL.opD (by decide) (opv_not rfl rfl) ?_
  refine RL.opD (by decide) (opv_move rfl rfl) ?_
  by_cases c1 : (!x2) = true
  ·rw [if_pos c1] at hy1
   refine RL.noT rfl rfl c1 (by decide) ?_
   refine RL.noT rfl rfl c1 (by decide) ?_
   refine RL.noT rfl rfl c1 (by decide) ?_
   refine RL.opD (by decide) (opv_pick rfl rfl (fun _ => rfl) (fun e => absurd (Eq.trans (Eq.symm e) c1) (by decide)) rfl) ?_
   refine RL.nil ?_
   have ey1 := Option.some.inj hy1
   subst ey1
   refine onlyN ?_
   exact ⟨⟨rfl, rfl, rfl, rfl, rfl, trivial⟩, rfl⟩
  ·rw [if_neg c1] at hy1
   have c1 := eq_false_of_ne_true c1
   refine RL.yesD rfl rfl c1 (by decide) (opv_move rfl rfl) ?_
   obtain ⟨x3, hx3, hy1⟩ := Option.bind_eq_some_iff.1 hy1
   refine RL.yes _ rfl rfl c1 (by decide) (opv_call (cap := []) (impl_within_ok _ _ _ _ _ hx3) rfl rfl ⟨rfl, rfl, rfl, trivial⟩ Try.func71 rfl rfl) ?_
   rintro _ _ ⟨rfl, rfl⟩
   refine RL.yesD rfl rfl c1 (by decide) (opv_not rfl rfl) ?_
   refine RL.opD (by decide) (opv_pick rfl rfl (fun e => absurd (Eq.trans (Eq.symm e) c1) (by decide)) (fun _ => rfl) rfl) ?_
   refine RL.nil ?_
   have ey1 := Option.some.inj hy1
   subst ey1
   refine onlyN ?_
   exact ⟨⟨rfl, rfl, rfl, rfl, rfl, trivial⟩, rfl⟩
 rintro φ' _ ⟨hs1, rfl⟩
 refine thnN ?_
 refine W.sub hs1 ?_
 by_cases c2 : x1 = true
 ·rw [if_pos c2] at hp
  refine W.condT rfl c2 ?_
  refine W.seq ?_
  refine W.region ?_
  refine RL.opD (by decide) (opv_assign rfl rfl) ?_
  have S_2 : Sep [] h0.size h0 [ownO (kF .f32) 29 (.slice none 0 0) ([] : List (Option Nat)), ownO (kF .f32) 29 (.slice none 0 0) ([] : List (Option Nat))] := Sep.addNil S_1
  refine RL.opD (by decide) (opv_assign rfl rfl) ?_
  refine RL.nil ?_
  refine thnN ?_
  refine W.ret ?_
  refine thnR ?_
  have er := Option.some.inj hp
  subst er
  exact Rt.two rfl rfl rfl ⟨(.slice none 0 0), rfl, (Mod.refl [] h0), (Sep.sel S_2 [0] (by decide))⟩
 ·rw [if_neg c2] at hp
  have c2 := eq_false_of_ne_true c2
  refine W.condF rfl c2 ?_
  refine W.skip ?_
  refine thnN ?_
  refine W.seq ?_
  refine W.region ?_
  refine RL.op _ (by decide) (opS_lit0 (K := (kF .f32)) rfl Try.underlying25 Try.isinfo29) ?_
  rintro v1 hp1 ⟨MT_1, T_1⟩
  obtain ⟨X_1, S_3⟩ := Sep.turn0 (Mod.refl [] h0) S_1 MT_1 T_1
  refine RL.opD (by decide) (opv_assign rfl rfl) ?_
  refine RL.nil ?_
  refine thnN ?_
  refine W.seq ?_
  refine W.seq ?_
  refine W.region ?_
  refine RL.opD (by decide) (opv_move rfl rfl) ?_
  refine RL.opD (by decide) (opv_move rfl rfl) ?_
  refine RL.nil ?_
  refine thnN ?_
  obtain ⟨y2, hy2, hp⟩ := Option.bind_eq_some_iff.1 hp
  refine W.cut (fun φ' h' => ∃ x6, ∃ x7, ∃ x8, ∃ v3, y2 = (x6, x7, x8) ∧ Fr.sub [(0, (.int .i64 a0)), (1, (.int .i64 a1)), (4, (.slice none 0 0)), (5, (.bool false)), (15, (.bool x1)), (17, (.int .i64 a1)), (18, (.int .i64 x6)), (19, (.bool x7)), (6, v3)] φ' ∧ Mod [] h0 h' ∧ Sep [] h0.size h' [ownO (kF .f32) 29 (.slice none 0 0) ([] : List (Option Nat)), ownO (kF .f32) 29 v3 x8]) ?_ ?_
  ·refine W.block ?_
   refine W.loopS (fun (s : ((List (Option Nat)) × Int)) φ' h' => ∃ v2, Fr.sub [(0, (.int .i64 a0)), (1, (.int .i64 a1)), (4, (.slice none 0 0)), (5, (.bool false)), (15, (.bool x1)), (17, (.int .i64 a1)), (6, v2), (18, (.int .i64 s.2))] φ' ∧ Mod [] h0 h' ∧ Sep [] h0.size h' [ownO (kF .f32) 29 v2 s.1, ownO (kF .f32) 29 (.slice none 0 0) ([] : List (Option Nat))]) hy2 ⟨v1, ⟨rfl, rfl, rfl, rfl, rfl, rfl, rfl, rfl, trivial⟩, X_1, (Sep.sel S_3 [0, 1] (by decide))⟩ ?_
   rintro ⟨x4, x5⟩ φ' hp2 o1 ⟨v2, hs2, X_2, S_4⟩ ho1 hy1
   have hs2 : Fr.sub [(0, (.int .i64 a0)), (1, (.int .i64 a1)), (4, (.slice none 0 0)), (5, (.bool false)), (15, (.bool x1)), (17, (.int .i64 a1)), (6, v2), (18, (.int .i64 x5))] φ' := hs2
   have S_4 : Sep [] h0.size hp2 [ownO (kF .f32) 29 v2 x4, ownO (kF .f32) 29 (.slice none 0 0) ([] : List (Option Nat))] := S_4
   have ho1 : impl_WindowOf.s0 a0 a1 x4 x5 = some o1 := ho1
   unfold impl_WindowOf.s0 at ho1
   refine W.sub hs2 ?_
   refine W.seq ?_
   refine W.region ?_
   refine RL.opD (by decide) (opv_icmp rfl rfl rfl rfl) ?_
   refine RL.nil ?_
   refine thnN ?_
   refine W.seq ?_
   by_cases c3 : (decide (x5 < a1)) = true
   ·rw [if_pos c3] at ho1
    refine W.condT rfl c3 ?_
    refine W.skip ?_
    refine thnN ?_
    refine W.seq ?_
    refine W.block ?_
    refine W.seq ?_
    refine W.region ?_
    refine RL.opD (by decide) (opv_move rfl rfl) ?_
    refine RL.opD (by decide) (opv_assign rfl rfl) ?_
    refine RL.nil ?_
    refine thnN ?_
    refine W.region ?_
    refine RL.opD (by decide) (opv_move rfl rfl) ?_
    refine RL.opD (by decide) (opv_move rfl rfl) ?_
    refine RL.opD (by decide) (opv_move rfl rfl) ?_
    refine RL.opD (by decide) (opv_move rfl rfl) ?_
    obtain ⟨x9, hx9, ho1⟩ := Option.bind_eq_some_iff.1 ho1
    refine RL.op _ (by decide) (opv_call (cap := []) (impl_windowAt_ok _ _ _ _ _ hx9) rfl rfl ⟨rfl, rfl, rfl, trivial⟩ Try.func86 rfl rfl) ?_
    rintro v4 _ ⟨fv4, rfl⟩
    refine RL.op _ (by decide) (opS_lit1 (K := (kF .f32)) (z := x9) rfl Try.underlying25 Try.einfo29 rfl rfl rfl rfl ⟨_, rfl, fv4⟩) ?_
    rintro v5 hp3 ⟨MT_2, T_2⟩
    obtain ⟨X_3, S_5⟩ := Sep.turn0 X_2 S_4 MT_2 T_2
    obtain ⟨c4, ho1⟩ := of_ite ho1
    refine RL.op _ (by decide) (opS_append (K := (kF .f32)) rfl Try.underlying25 Try.einfo29 rfl rfl rfl rfl (Sep.at (o := ownO (kF .f32) 29 v2 x4) S_5 1 rfl) (ownO.read (Sep.at (o := ownO (kF .f32) 29 v5 [x9]) S_5 0 rfl)) (by decide) (by decide) c4) ?_
    rintro v6 hp4 ⟨MT_3, T_3⟩
    have S_6 : Sep [] h0.size hp3 ([ownO (kF .f32) 29 v2 x4] ++ [ownO (kF .f32) 29 v5 [x9], ownO (kF .f32) 29 (.slice none 0 0) ([] : List (Option Nat))]) := Sep.sel S_5 [1, 0, 2] (by decide)
    obtain ⟨X_4, S_7⟩ := Sep.turn X_3 S_6 MT_3 T_3
    refine RL.opD (by decide) (opv_assign rfl rfl) ?_
    refine RL.nil ?_
    refine blkN ?_
    refine thnN ?_
    refine W.region ?_
    refine RL.opD (by decide) (opv_add rfl rfl rfl) ?_
    refine RL.opD (by decide) (opv_move rfl rfl) ?_
    refine RL.nil ?_
    have eo1 := Option.some.inj ho1
    subst eo1
    refine rndN (s' := (x4 ++ [x9], IntKind.wrap .i64 (x5 + 1))) rfl ?_
    exact ⟨v6, ⟨rfl, rfl, rfl, rfl, rfl, rfl, rfl, rfl, trivial⟩, X_4, (Sep.sel S_7 [0, 2] (by decide))⟩
   ·rw [if_neg c3] at ho1
    have c3 := eq_false_of_ne_true c3
    refine W.condF rfl c3 ?_
    refine W.exit ?_
    refine thnX ?_
    refine rndX ?_
    refine blkI ?_
    have eo1 := Option.some.inj ho1
    subst eo1
    have ey2 := hy1 _ rfl
    subst ey2
    refine onlyN ?_
    exact ⟨x5, decide (x5 < a1), x4, v2, rfl, ⟨rfl, rfl, rfl, rfl, rfl, rfl, rfl, rfl, rfl, trivial⟩, X_2, (Sep.sel S_4 [1, 0] (by decide))⟩
  rintro φ' hp5 ⟨x6, x7, x8, v3, rfl, hs3, X_5, S_8⟩
  try dsimp only at hp
  refine thnN ?_
  refine W.sub hs3 ?_
  refine W.seq ?_
  refine W.region ?_
  refine RL.opD (by decide) (opv_move rfl rfl) ?_
  refine RL.opD (by decide) (opv_assign rfl rfl) ?_
  refine RL.opD (by decide) (opv_assign rfl rfl) ?_
  refine RL.nil ?_
  refine thnN ?_
  refine W.ret ?_
  have er := Option.some.inj hp
  subst er
  exact Rt.two rfl rfl rfl ⟨v3, rfl, X_5, (Sep.sel S_8 [1] (by decide))⟩

set_option maxRecDepth 20000 in
theorem impl_TimesWindow_1_ok (h0 : Heap) (u0 : Value) (a0 : Option Nat) (g0 : IsF .f32 u0 a0) (u1 : Value) (a1 : Option Nat) (g1 : IsF .f32 u1 a1) (r : Option Nat) (hp : impl_TimesWindow_1 a0 a1 = some r) : CallsH Try.prog 87 ([u0, u1].toArray ++ [].toArray) h0 (fun v h' => IsF .f32 v r ∧ h0 = h') := by
 unfold impl_TimesWindow_1 at hp
 refine callsH_of_W (l := [u0, u1]) (cap := []) 8 Try.func87 rfl rfl rfl ?_
 refine W.seq ?_
 refine W.region ?_
 refine RL.opD (by decide) (opv_assign rfl rfl) ?_
 refine RL.nil ?_
 refine thnN ?_
 refine W.seq ?_
 refine W.region ?_
 refine RL.opD (by decide) (opv_move rfl rfl) ?_
 refine RL.opD (by decide) (opv_move rfl rfl) ?_
 refine RL.opF (by decide) (opv_fop rfl rfl rfl rfl g0 g1) ?_
 intro v1 fv1
 refine RL.opD (by decide) (opv_assign rfl rfl) ?_
 refine RL.nil ?_
 refine thnN ?_
 refine W.ret ?_
 have er := Option.some.inj hp
 subst er
 exact Rt.one rfl rfl ⟨fv1, rfl⟩

set_option maxRecDepth 20000 in
theorem impl_both__impl_TimesWindow_1_ok (h0 : Heap) (u0 : Value) (a0 : List (Option Nat)) (g0 : SL (kF .f32) h0.size h0 u0 a0) (u1 : Value) (a1 : List (Option Nat)) (g1 : SL (kF .f32) h0.size h0 u1 a1) (r : List (Option Nat)) (hp : impl_both__impl_TimesWindow_1 a0 a1 = some r) : CallsH Try.prog 81 ([u0, u1, (.func (.func 87) #[] (List.toArray (α := Value) []))].toArray ++ [].toArray) h0 (fun v h' => Mod [] h0 h' ∧ Sep [] h0.size h' [ownO (kF .f32) 29 v r]) := by
 unfold impl_both__impl_TimesWindow_1 at hp
 refine callsH_of_W (l := [u0, u1, (.func (.func 87) #[] (List.toArray (α := Value) []))]) (cap := []) 30 Try.func81 rfl rfl rfl ?_
 refine W.seq ?_
 refine W.region ?_
 refine RL.opD (by decide) (opv_assign rfl rfl) ?_
 have S_1 : Sep [] h0.size h0 [ownO (kF .f32) 29 (.slice none 0 0) ([] : List (Option Nat))] := Sep.addNil (Sep.nil [] h0.size h0)
 refine RL.nil ?_
 refine thnN ?_
 refine W.seq ?_
 refine W.region ?_
 refine RL.op _ (by decide) (opS_lit0 (K := (kF .f32)) rfl Try.underlying25 Try.isinfo29) ?_
 rintro v1 hp1 ⟨MT_1, T_1⟩
 obtain ⟨X_1, S_2⟩ := Sep.turn0 (Mod.refl [] h0) S_1 MT_1 T_1
 refine RL.opD (by decide) (opv_assign rfl rfl) ?_
 refine RL.nil ?_
 refine thnN ?_
 refine W.seq ?_
 refine W.seq ?_
 refine W.region ?_
 refine RL.opD (by decide) (opv_move rfl rfl) ?_
 refine RL.opD (by decide) (opv_len rfl Try.underlying25 rfl (SL.mod g0 X_1 (Nat.le_refl _) nob)) ?_
 refine RL.opD (by decide) (opv_move rfl rfl) ?_
 refine RL.nil ?_
 refine thnN ?_
 obtain ⟨y1, hy1, hp⟩ := Option.bind_eq_some_iff.1 hp
 refine W.cut (fun φ' h' => ∃ x3, ∃ x4, ∃ x5, ∃ v3, y1 = (x3, x4, x5) ∧ Fr.sub [(0, u0), (1, u1), (2, (.func (.func 87) #[] (List.toArray (α := Value) []))), (6, (.slice none 0 0)), (11, u0), (12, (.int .i64 (a0.length : Int))), (13, (.int .i64 x3)), (14, (.bool x4)), (7, v3)] φ' ∧ Mod [] h0 h' ∧ Sep [] h0.size h' [ownO (kF .f32) 29 (.slice none 0 0) ([] : List (Option Nat)), ownO (kF .f32) 29 v3 x5]) ?_ ?_
 ·refine W.block ?_
  refine W.loopS (fun (s : ((List (Option Nat)) × Int)) φ' h' => ∃ v2, Fr.sub [(0, u0), (1, u1), (2, (.func (.func 87) #[] (List.toArray (α := Value) []))), (6, (.slice none 0 0)), (11, u0), (12, (.int .i64 (a0.length : Int))), (7, v2), (13, (.int .i64 s.2))] φ' ∧ Mod [] h0 h' ∧ Sep [] h0.size h' [ownO (kF .f32) 29 v2 s.1, ownO (kF .f32) 29 (.slice none 0 0) ([] : List (Option Nat))]) hy1 ⟨v1, ⟨rfl, rfl, rfl, rfl, rfl, rfl, rfl, rfl, trivial⟩, X_1, (Sep.sel S_2 [0, 1] (by decide))⟩ ?_
  rintro ⟨x1, x2⟩ φ' hp2 o1 ⟨v2, hs1, X_2, S_3⟩ ho1 hy1
  have hs1 : Fr.sub [(0, u0), (1, u1), (2, (.func (.func 87) #[] (List.toArray (α := Value) []))), (6, (.slice none 0 0)), (11, u0), (12, (.int .i64 (a0.length : Int))), (7, v2), (13, (.int .i64 x2))] φ' := hs1
  have S_3 : Sep [] h0.size hp2 [ownO (kF .f32) 29 v2 x1, ownO (kF .f32) 29 (.slice none 0 0) ([] : List (Option Nat))] := S_3
  have ho1 : impl_both__impl_TimesWindow_1.s0 a0 a1 x1 x2 = some o1 := ho1
  unfold impl_both__impl_TimesWindow_1.s0 at ho1
  refine W.sub hs1 ?_
  refine W.seq ?_
  refine W.region ?_
  refine RL.opD (by decide) (opv_icmp rfl rfl rfl rfl) ?_
  refine RL.nil ?_
  refine thnN ?_
  refine W.seq ?_
  by_cases c1 : (decide (x2 < (a0.length : Int))) = true
  ·rw [if_pos c1] at ho1
   refine W.condT rfl c1 ?_
   refine W.skip ?_
   refine thnN ?_
   refine W.seq ?_
   refine W.block ?_
   refine W.seq ?_
   refine W.region ?_
   refine RL.opD (by decide) (opv_move rfl rfl) ?_
   obtain ⟨x6, hx6, ho1⟩ := Option.bind_eq_some_iff.1 ho1
   refine RL.op _ (by decide) (opv_index rfl Try.underlying25 (by rw [Try.size29]; rfl) rfl rfl (SL.mod g0 X_2 (Nat.le_refl _) nob) hx6) ?_
   rintro v4 _ ⟨fv4, rfl⟩
   refine RL.opF (by decide) (opv_loadF rfl Try.one29 rfl fv4 (SL.mod g0 X_2 (Nat.le_refl _) nob) hx6) ?_
   intro v5 fv5
   refine RL.opD (by decide) (opv_assign rfl rfl) ?_
   refine RL.opD (by decide) (opv_assign rfl rfl) ?_
   refine RL.nil ?_
   refine thnN ?_
   refine W.region ?_
   refine RL.opD (by decide) (opv_move rfl rfl) ?_
   refine RL.opD (by decide) (opv_move rfl rfl) ?_
   refine RL.opD (by decide) (opv_move rfl rfl) ?_
   refine RL.opD (by decide) (opv_move rfl rfl) ?_
   refine RL.opD (by decide) (opv_move rfl rfl) ?_
   obtain ⟨x7, hx7, ho1⟩ := Option.bind_eq_some_iff.1 ho1
   refine RL.op _ (by decide) (opv_index rfl Try.underlying25 (by rw [Try.size29]; rfl) rfl rfl (SL.mod g1 X_2 (Nat.le_refl _) nob) hx7) ?_
   rintro v6 _ ⟨fv6, rfl⟩
   refine RL.opF (by decide) (opv_loadF rfl Try.one29 rfl fv6 (SL.mod g1 X_2 (Nat.le_refl _) nob) hx7) ?_
   intro v7 fv7
   obtain ⟨x8, hx8, ho1⟩ := Option.bind_eq_some_iff.1 ho1
   refine RL.op _ (by decide) (opv_call (cap := []) (impl_TimesWindow_1_ok _ _ _ fv5 _ _ fv7 _ hx8) rfl rfl ⟨rfl, rfl, trivial⟩ Try.func87 rfl rfl) ?_
   rintro v8 _ ⟨fv8, rfl⟩
   refine RL.op _ (by decide) (opS_lit1 (K := (kF .f32)) (z := x8) rfl Try.underlying25 Try.einfo29 rfl rfl rfl rfl ⟨_, rfl, fv8⟩) ?_
   rintro v9 hp3 ⟨MT_2, T_2⟩
   obtain ⟨X_3, S_4⟩ := Sep.turn0 X_2 S_3 MT_2 T_2
   obtain ⟨c2, ho1⟩ := of_ite ho1
   refine RL.op _ (by decide) (opS_append (K := (kF .f32)) rfl Try.underlying25 Try.einfo29 rfl rfl rfl rfl (Sep.at (o := ownO (kF .f32) 29 v2 x1) S_4 1 rfl) (ownO.read (Sep.at (o := ownO (kF .f32) 29 v9 [x8]) S_4 0 rfl)) (by decide) (by decide) c2) ?_
   rintro v10 hp4 ⟨MT_3, T_3⟩
   have S_5 : Sep [] h0.size hp3 ([ownO (kF .f32) 29 v2 x1] ++ [ownO (kF .f32) 29 v9 [x8], ownO (kF .f32) 29 (.slice none 0 0) ([] : List (Option Nat))]) := Sep.sel S_4 [1, 0, 2] (by decide)
   obtain ⟨X_4, S_6⟩ := Sep.turn X_3 S_5 MT_3 T_3
   refine RL.opD (by decide) (opv_assign rfl rfl) ?_
   refine RL.nil ?_
   refine blkN ?_
   refine thnN ?_
   refine W.region ?_
   refine RL.opD (by decide) (opv_add rfl rfl rfl) ?_
   refine RL.opD (by decide) (opv_move rfl rfl) ?_
   refine RL.nil ?_
   have eo1 := Option.some.inj ho1
   subst eo1
   refine rndN (s' := (x1 ++ [x8], IntKind.wrap .i64 (x2 + 1))) rfl ?_
   exact ⟨v10, ⟨rfl, rfl, rfl, rfl, rfl, rfl, rfl, rfl, trivial⟩, X_4, (Sep.sel S_6 [0, 2] (by decide))⟩
  ·rw [if_neg c1] at ho1
   have c1 := eq_false_of_ne_true c1
   refine W.condF rfl c1 ?_
   refine W.exit ?_
   refine thnX ?_
   refine rndX ?_
   refine blkI ?_
   have eo1 := Option.some.inj ho1
   subst eo1
   have ey1 := hy1 _ rfl
   subst ey1
   refine onlyN ?_
   exact ⟨x2, decide (x2 < (a0.length : Int)), x1, v2, rfl, ⟨rfl, rfl, rfl, rfl, rfl, rfl, rfl, rfl, rfl, trivial⟩, X_2, (Sep.sel S_3 [1, 0] (by decide))⟩
 rintro φ' hp5 ⟨x3, x4, x5, v3, rfl, hs2, X_5, S_7⟩
 try dsimp only at hp
 refine thnN ?_
 refine W.sub hs2 ?_
 refine W.seq ?_
 refine W.region ?_
 refine RL.opD (by decide) (opv_move rfl rfl) ?_
 refine RL.opD (by decide) (opv_assign rfl rfl) ?_
 refine RL.nil ?_
 refine thnN ?_
 refine W.ret ?_
 have er := Option.some.inj hp
 subst er
 exact Rt.one rfl rfl ⟨X_5, (Sep.sel S_7 [1] (by decide))⟩

set_option maxRecDepth 20000 in
theorem impl_TimesWindow_ok (h0 : Heap) (u0 : Value) (a0 : List (Option Nat)) (g0 : SL (kF .f32) h0.size h0 u0 a0) (u1 : Value) (a1 : List (Option Nat)) (g1 : SL (kF .f32) h0.size h0 u1 a1) (r : ((List (Option Nat)) × Bool)) (hp : impl_TimesWindow a0 a1 = some r) : CallsH Try.prog 29 ([u0, u1].toArray ++ [].toArray) h0 (fun v h' => ∃ w0, v = (.tuple (List.toArray (α := Value) [w0, (.bool r.2)])) ∧ Mod [] h0 h' ∧ Sep [] h0.size h' [ownO (kF .f32) 29 w0 r.1]) := by
 unfold impl_TimesWindow at hp
 refine callsH_of_W (l := [u0, u1]) (cap := []) 19 Try.func29 rfl rfl rfl ?_
 refine W.seq ?_
 refine W.region ?_
 refine RL.opD (by decide) (opv_assign rfl rfl) ?_
 have S_1 : Sep [] h0.size h0 [ownO (kF .f32) 29 (.slice none 0 0) ([] : List (Option Nat))] := Sep.addNil (Sep.nil [] h0.size h0)
 refine RL.opD (by decide) (opv_assign rfl rfl) ?_
 refine RL.nil ?_
 refine thnN ?_
 refine W.seq ?_
 refine W.seq ?_
 obtain ⟨x1, hy1, hp⟩ := Option.bind_eq_some_iff.1 hp
 refine W.cut (fun φ' h' => Fr.sub [(0, u0), (1, u1), (4, (.slice none 0 0)), (5, (.bool false)), (15, (.bool x1))] φ' ∧ h0 = h') ?_ ?_
 ·refine W.region ?_
  refine RL.opD (by decide) (opv_move rfl rfl) ?_
  obtain ⟨x2, hx2, hy1⟩ := Option.bind_eq_some_iff.1 hy1
  refine RL.op _ (by decide) (opv_call (cap := []) (impl_isRecord_float32_ok _ _ _ g0 _ hx2) rfl rfl ⟨rfl, trivial⟩ Try.func70 rfl rfl) ?_
  rintro _ _ ⟨rfl, rfl⟩
  refine RL.opD (by decide) (opv_not rfl rfl) ?_
  refine RL.opD (by decide) (opv_move rfl rfl) ?_
  by_cases c1 : (!x2) = true
  ·rw [if_pos c1] at hy1
   refine RL.noT rfl rfl c1 (by decide) ?_
   refine RL.noT rfl rfl c1 (by decide) ?_
   refine RL.noT rfl rfl c1 (by decide) ?_
   refine RL.noT rfl rfl c1 (by decide) ?_
   refine RL.noT rfl rfl c1 (by decide) ?_
   refine RL.opD (by decide) (opv_pick rfl rfl (fun _ => rfl) (fun e => absurd (Eq.trans (Eq.symm e) c1) (by decide)) rfl) ?_
   refine RL.nil ?_
   have ey1 := Option.some.inj hy1
   subst ey1
   refine onlyN ?_
   exact ⟨⟨rfl, rfl, rfl, rfl, rfl, trivial⟩, rfl⟩
  ·rw [if_neg c1] at hy1
   have c1 := eq_false_of_ne_true c1
   refine RL.yesD rfl rfl c1 (by decide) (opv_move rfl rfl) ?_
   refine RL.yesD rfl rfl c1 (by decide) (opv_len rfl Try.underlying25 rfl g1) ?_
   refine RL.yesD rfl rfl c1 (by decide) (opv_move rfl rfl) ?_
   refine RL.yesD rfl rfl c1 (by decide) (opv_len rfl Try.underlying25 rfl g0) ?_
   refine RL.yesD rfl rfl c1 (by decide) (opv_icmp rfl rfl rfl rfl) ?_
   refine RL.opD (by decide) (opv_pick rfl rfl (fun e => absurd (Eq.trans (Eq.symm e) c1) (by decide)) (fun _ => rfl) rfl) ?_
   refine RL.nil ?_
   have ey1 := Option.some.inj hy1
   subst ey1
   refine onlyN ?_
   exact ⟨⟨rfl, rfl, rfl, rfl, rfl, trivial⟩, rfl⟩
 rintro φ' _ ⟨hs1, rfl⟩
 refine thnN ?_
 refine W.sub hs1 ?_
 by_cases c2 : x1 = true
 ·rw [if_pos c2] at hp
  refine W.condT rfl c2 ?_
  refine W.seq ?_
  refine W.region ?_
  refine RL.opD (by decide) (opv_assign rfl rfl) ?_
  have S_2 : Sep [] h0.size h0 [ownO (kF .f32) 29 (.slice none 0 0) ([] : List (Option Nat)), ownO (kF .f32) 29 (.slice none 0 0) ([] : List (Option Nat))] := Sep.addNil S_1
  refine RL.opD (by decide) (opv_assign rfl rfl) ?_
  refine RL.nil ?_
  refine thnN ?_
  refine W.ret ?_
  refine thnR ?_
  have er := Option.some.inj hp
  subst er
  exact Rt.two rfl rfl rfl ⟨(.slice none 0 0), rfl, (Mod.refl [] h0), (Sep.sel S_2 [0] (by decide))⟩
 ·rw [if_neg c2] at hp
  have c2 := eq_false_of_ne_true c2
  refine W.condF rfl c2 ?_
  refine W.skip ?_
  refine thnN ?_
  refine W.seq ?_
  refine W.region ?_
  refine RL.opD (by decide) (opv_move rfl rfl) ?_
  refine RL.opD (by decide) (opv_move rfl rfl) ?_
  obtain ⟨x3, hx3, hp⟩ := Option.bind_eq_some_iff.1 hp
  refine RL.op _ (by decide) (opv_call (cap := []) (impl_both__impl_TimesWindow_1_ok _ _ _ g0 _ _ g1 _ hx3) rfl rfl ⟨rfl, rfl, rfl, trivial⟩ Try.func81 rfl rfl) ?_
  rintro v1 hp1 ⟨MT_1, T_1⟩
  obtain ⟨X_1, S_3⟩ := Sep.turn0 (Mod.refl [] h0) S_1 MT_1 T_1
  refine RL.opD (by decide) (opv_assign rfl rfl) ?_
  refine RL.opD (by decide) (opv_assign rfl rfl) ?_
  refine RL.nil ?_
  refine thnN ?_
  refine W.ret ?_
  have er := Option.some.inj hp
  subst er
  exact Rt.two rfl rfl rfl ⟨v1, rfl, X_1, (Sep.sel S_3 [0] (by decide))⟩

set_option maxHeartbeats 4000000 in
set_option maxRecDepth 20000 in
theorem laws_FnBinsCut_ok (h0 : Heap) (u0 : Value) (a0 : List (Int)) (g0 : SL (kI .u8) h0.size h0 u0 a0) (u1 : Value) (a1 : List (Int)) (g1 : SL (kI .u8) h0.size h0 u1 a1) (r : Bool) (hp : laws_FnBinsCut a0 a1 = some r) : CallsH Try.prog 5 ([u0, u1].toArray ++ [].toArray) h0 (fun v h' => v = (.bool r) ∧ Mod [] h0 h' ∧ Sep [] h0.size h' []) := by
 unfold laws_FnBinsCut at hp
 refine callsH_of_W (l := [u0, u1]) (cap := []) 223 Try.func5 rfl rfl rfl ?_
 refine W.seq ?_
 refine W.region ?_
 refine RL.opD (by decide) (opv_assign rfl rfl) ?_
 refine RL.nil ?_
 refine thnN ?_
 refine W.seq ?_
 refine W.seq ?_
 refine W.region ?_
 refine RL.opD (by decide) (opv_move rfl rfl) ?_
 refine RL.opD (by decide) (opv_move rfl rfl) ?_
 obtain ⟨x1, hx1, hp⟩ := Option.bind_eq_some_iff.1 hp
 refine RL.op _ (by decide) (opv_call (cap := []) (laws_r8Long_ok _ _ _ g0 _ _ g1 _ hx1) rfl rfl ⟨rfl, rfl, trivial⟩ Try.func11 rfl rfl) ?_
 rintro _ _ ⟨rfl, rfl⟩
 refine RL.nil ?_
 refine thnN ?_
 by_cases c1 : x1 = true
 ·rw [if_pos c1] at hp
  refine W.condT rfl c1 ?_
  refine W.seq ?_
  refine W.region ?_
  refine RL.opD (by decide) (opv_assign rfl rfl) ?_
  refine RL.nil ?_
  refine thnN ?_
  refine W.ret ?_
  refine thnR ?_
  have er := Option.some.inj hp
  subst er
  exact Rt.one rfl rfl ⟨rfl, (Mod.refl [] h0), (Sep.nil _ _ _)⟩
 ·rw [if_neg c1] at hp
  have c1 := eq_false_of_ne_true c1
  refine W.condF rfl c1 ?_
  refine W.skip ?_
  refine thnN ?_
  refine W.seq ?_
  refine W.region ?_
  refine RL.opD (by decide) (opv_move rfl rfl) ?_
  obtain ⟨x2, hx2, hp⟩ := Option.bind_eq_some_iff.1 hp
  refine RL.op _ (by decide) (opv_call (cap := []) (laws_r8At_ok _ _ _ g1 _ _ _ hx2) rfl rfl ⟨rfl, rfl, rfl, trivial⟩ Try.func12 rfl rfl) ?_
  rintro _ _ ⟨rfl, rfl⟩
  refine RL.opD (by decide) (opv_add rfl rfl rfl) ?_
  refine RL.opD (by decide) (opv_assign rfl rfl) ?_
  refine RL.nil ?_
  refine thnN ?_
  refine W.seq ?_
  refine W.region ?_
  refine RL.opD (by decide) (opv_move rfl rfl) ?_
  refine RL.opD (by decide) (opv_move rfl rfl) ?_
  obtain ⟨x3, hx3, hp⟩ := Option.bind_eq_some_iff.1 hp
  refine RL.op _ (by decide) (opv_call (cap := []) (spec_R8Numbers_ok _ _ _ g0 _ _ hx3) rfl rfl ⟨rfl, rfl, trivial⟩ Try.func22 rfl rfl) ?_
  rintro v1 hp1 ⟨MT_1, T_1⟩
  obtain ⟨X_1, S_1⟩ := Sep.turn0 (Mod.refl [] h0) (Sep.nil [] h0.size h0) MT_1 T_1
  refine RL.opD (by decide) (opv_assign rfl rfl) ?_
  refine RL.nil ?_
  refine thnN ?_
  refine W.seq ?_
  refine W.region ?_
  refine RL.opD (by decide) (opv_move rfl rfl) ?_
  obtain ⟨x4, hx4, hp⟩ := Option.bind_eq_some_iff.1 hp
  refine RL.op _ (by decide) (opv_call (cap := []) (laws_r8At_ok _ _ _ (SL.up (SL.mod g1 X_1 (Nat.le_refl _) nob) (Nat.le_trans (Nat.le_refl _) (Mod.size X_1))) _ _ _ hx4) rfl rfl ⟨rfl, rfl, rfl, trivial⟩ Try.func12 rfl rfl) ?_
  rintro _ _ ⟨rfl, rfl⟩
  refine RL.opD (by decide) (opv_sub rfl rfl rfl) ?_
  refine RL.opF (by decide) (opv_i2f rfl (by rw [Try.underlying2]; rfl) Try.underlying29 rfl) ?_
  intro v2 fv2
  refine RL.opF (by decide) (opv_fop rfl rfl rfl rfl fv2 (isF_lit .f32 1107296256 (by decide) (by decide))) ?_
  intro v3 fv3
  refine RL.opD (by decide) (opv_assign rfl rfl) ?_
  refine RL.nil ?_
  refine thnN ?_
  refine W.seq ?_
  refine W.region ?_
  refine RL.opD (by decide) (opv_move rfl rfl) ?_
  refine RL.opD (by decide) (opv_move rfl rfl) ?_
  refine RL.opD (by decide) (opv_add rfl rfl rfl) ?_
  obtain ⟨x5, hx5, hp⟩ := Option.bind_eq_some_iff.1 hp
  refine RL.op _ (by decide) (opv_call (cap := []) (laws_r8At_ok _ _ _ (SL.up (SL.mod g1 X_1 (Nat.le_refl _) nob) (Nat.le_trans (Nat.le_refl _) (Mod.size X_1))) _ _ _ hx5) rfl rfl ⟨rfl, rfl, rfl, trivial⟩ Try.func12 rfl rfl) ?_
  rintro _ _ ⟨rfl, rfl⟩
  refine RL.opD (by decide) (opv_assign rfl rfl) ?_
  refine RL.nil ?_
  refine thnN ?_
  refine W.seq ?_
  refine W.region ?_
  refine RL.opD (by decide) (opv_move rfl rfl) ?_
  refine RL.opD (by decide) (opv_build (cs := [v3, (.int .i64 0), (.complex .f32 0 0)]) [(0, [v3])] [(0, v3)] rfl Try.bd47 ⟨⟨rfl, rfl, rfl, cells1 (IsF.one fv3)⟩, trivial⟩ rfl) ?_
  refine RL.op _ (by decide) (opS_boxed (opv_alloc (cs := [(.float .f32 0), (.int .i64 0), (.complex .f32 0 0)]) rfl Try.zero47 rfl)) ?_
  rintro _ hp2 ⟨bb1, rfl, MT_2, T_2⟩
  obtain ⟨X_2, S_2⟩ := Sep.turn0 X_1 S_1 MT_2 T_2
  refine RL.op0 _ (opS_stored (cs := [(.float .f32 0), (.int .i64 0), (.complex .f32 0 0)]) (cs' := [v3, (.int .i64 0), (.complex .f32 0 0)]) (opv_storeA (us := [v3, (.int .i64 0), (.complex .f32 0 0)]) rfl Try.size47 rfl rfl (oneAll (IsF.one fv3) (oneAll rfl (oneAll (IsC.one (isC_lit .f32 0 0 (by decide) (by decide) (by decide) (by decide))) rfl))) (Sep.at (o := boxO bb1 [(.float .f32 0), (.int .i64 0), (.complex .f32 0 0)]) S_2 0 rfl) rfl rfl) (Sep.at (o := boxO bb1 [(.float .f32 0), (.int .i64 0), (.complex .f32 0 0)]) S_2 0 rfl)) ?_
  rintro _ hp3 ⟨rfl, MT_3, T_3⟩
  have S_3 : Sep [] h0.size hp2 ([boxO bb1 [(.float .f32 0), (.int .i64 0), (.complex .f32 0 0)]] ++ [ownO (kF .f32) 29 v1 x3]) := Sep.sel S_2 [0, 1] (by decide)
  obtain ⟨X_3, S_4⟩ := Sep.turn X_2 S_3 MT_3 T_3
  refine RL.nil ?_
  refine thnN ?_
  refine W.seq ?_
  refine W.region ?_
  refine RL.opD (by decide) (opv_loadA (us := [v3, (.int .i64 0), (.complex .f32 0 0)]) rfl Try.agg47 Try.size47 rfl (Sep.at (o := boxO bb1 [v3, (.int .i64 0), (.complex .f32 0 0)]) S_4 0 rfl) rfl rfl) ?_
  refine RL.opD (by decide) (opv_move rfl rfl) ?_
  obtain ⟨x6, hx6, hp⟩ := Option.bind_eq_some_iff.1 hp
  refine RL.op _ (by decide) (opv_call (cap := []) (impl_RunBin_ok _ _ _ fv3 _ _ _ (isC_lit .f32 0 0 (by decide) (by decide) (by decide) (by decide)) _ _ (ownO.read (Sep.at (o := ownO (kF .f32) 29 v1 x3) S_4 1 rfl)) _ hx6) rfl rfl ⟨rfl, rfl, trivial⟩ Try.func23 rfl rfl) ?_
  rintro _ hp4 ⟨v4, v5, rfl, fv4, fv5, MT_4, T_4⟩
  obtain ⟨X_4, S_5⟩ := Sep.turn0 X_3 S_4 MT_4 T_4
  refine RL.opD (by decide) (opv_move rfl rfl) ?_
  refine RL.opD (by decide) (opv_extract rfl rfl rfl) ?_
  refine RL.opD (by decide) (opv_extract rfl rfl rfl) ?_
  refine RL.op _ (by decide) (opS_boxed (opv_alloc (cs := [(.float .f32 0), (.int .i64 0), (.complex .f32 0 0)]) rfl Try.zero47 rfl)) ?_
  rintro _ hp5 ⟨bb2, rfl, MT_5, T_5⟩
  obtain ⟨X_5, S_6⟩ := Sep.turn0 X_4 S_5 MT_5 T_5
  refine RL.op0 _ (opS_stored (cs := [(.float .f32 0), (.int .i64 0), (.complex .f32 0 0)]) (cs' := [v4, (.int .i64 x6.2.1), v5]) (opv_storeA (us := [v4, (.int .i64 x6.2.1), v5]) rfl Try.size47 rfl rfl (oneAll (IsF.one fv4) (oneAll rfl (oneAll (IsC.one fv5) rfl))) (Sep.at (o := boxO bb2 [(.float .f32 0), (.int .i64 0), (.complex .f32 0 0)]) S_6 0 rfl) rfl rfl) (Sep.at (o := boxO bb2 [(.float .f32 0), (.int .i64 0), (.complex .f32 0 0)]) S_6 0 rfl)) ?_
  rintro _ hp6 ⟨rfl, MT_6, T_6⟩
  have S_7 : Sep [] h0.size hp5 ([boxO bb2 [(.float .f32 0), (.int .i64 0), (.complex .f32 0 0)]] ++ [boxO bb1 [v3, (.int .i64 0), (.complex .f32 0 0)], ownO (kF .f32) 29 v1 x3]) := Sep.sel S_6 [0, 1, 2] (by decide)
  obtain ⟨X_6, S_8⟩ := Sep.turn X_5 S_7 MT_6 T_6
  refine RL.opD (by decide) (opv_assign rfl rfl) ?_
  refine RL.nil ?_
  refine thnN ?_
  refine W.seq ?_
  obtain ⟨x7, hx7, hp⟩ := Option.bind_eq_some_iff.1 hp
  obtain ⟨x8, hx8, hp⟩ := Option.bind_eq_some_iff.1 hp
  refine W.sub (ψ := [(0, u0), (1, u1), (4, (.bool false)), (29, (.bool x1)), (5, (.int .i64 (IntKind.wrap .i64 (1 + x2)))), (6, v1), (7, v3), (8, (.int .i64 x5)), (9, (.pointer (some ⟨bb1, 0, none⟩))), (10, (.pointer (some ⟨bb2, 0, none⟩))), (11, (.bool x6.2.2.2))]) ⟨rfl, rfl, rfl, rfl, rfl, rfl, rfl, rfl, rfl, rfl, rfl, trivial⟩ ?_
  refine W.regionL [fun v _ => @Eq Value (.agg (List.toArray (α := Value) [v3, (.int .i64 0), (.complex .f32 0 0)])) v, fun v _ => @Eq Value v1 v, fun v _ => @Eq Value (.int .i64 x5) v, fun v h => SL (kF .f32) h.size h v x7, fun v h => ∃ v7, ∃ v8, @Eq Value v (.tuple (List.toArray (α := Value) [(.agg (List.toArray (α := Value) [v7, (.int .i64 x8.2.1), v8])), (.bool x8.2.2.2)])) ∧ IsF .f32 v7 x8.1 ∧ IsC .f32 v8 x8.2.2.1 ∧ Sep [] hp6.size h [], fun v h => ∃ v7, ∃ v8, @Eq Value v (.tuple (List.toArray (α := Value) [(.agg (List.toArray (α := Value) [v7, (.int .i64 x8.2.1), v8])), (.bool x8.2.2.2)])) ∧ IsF .f32 v7 x8.1 ∧ IsC .f32 v8 x8.2.2.1 ∧ Sep [] hp6.size h [], fun v h => ∃ v7, ∃ v8, @Eq Value v (.agg (List.toArray (α := Value) [v7, (.int .i64 x8.2.1), v8])) ∧ IsF .f32 v7 x8.1 ∧ IsC .f32 v8 x8.2.2.1 ∧ Sep [] hp6.size h [], fun v _ => @Eq Value (.bool x8.2.2.2) v, fun v h => ∃ b, @Eq Value v (.pointer (some ⟨b, 0, none⟩)) ∧ Sep [] hp6.size h [boxO b [(.float .f32 0), (.int .i64 0), (.complex .f32 0 0)]]] [none, none, none, none, some (fun u => []), none, none, none, some (fun u => [ptrB u])] [none, none, none, none, none, some (58, fun u => u), some (53, fun u => vget u 0)] [7] [[], [], [], [1, 2], [0, 3], [4], [5], [5], []] [4, 5, 6, 7, 8] Try.mixed (by decide +kernel) (by decide +kernel) (fun _ _ _ h => h) rfl rfl rfl (by decide +kernel) rfl ⟨fun _ _ _ h _ => h, fun _ _ _ h _ => h, fun _ _ _ h _ => h, fun _ _ _ h x => SL.up (SL.ext h x) (Ext.size x), fun _ _ _ ⟨u0_, u1_, e, f0_, f1_, h⟩ x => ⟨u0_, u1_, e, f0_, f1_, h.ext x⟩, fun _ _ _ ⟨u0_, u1_, e, f0_, f1_, h⟩ x => ⟨u0_, u1_, e, f0_, f1_, h.ext x⟩, fun _ _ _ ⟨u0_, u1_, e, f0_, f1_, h⟩ x => ⟨u0_, u1_, e, f0_, f1_, h.ext x⟩, fun _ _ _ h _ => h, fun _ _ _ ⟨b, e, h⟩ x => ⟨b, e, h.ext x⟩, trivial⟩ ?_ (.cons ?_ (.nil)) ?_
  ·refine ⟨⟨rfl, ?_⟩, ⟨rfl, ?_⟩, ⟨rfl, ?_⟩, ⟨rfl, ?_⟩, ⟨rfl, ?_⟩, ⟨rfl, ?_⟩, ⟨rfl, ?_⟩, ⟨rfl, ?_⟩, ⟨rfl, ?_⟩, trivial⟩
   ·rintro hp10 E_1
    refine Dep.nil ?_
    refine GuardOK.none rfl ?_
    exact OpV.toDx (opv_loadA (us := [v3, (.int .i64 0), (.complex .f32 0 0)]) rfl Try.agg47 Try.size47 rfl (Sep.at (o := boxO bb1 [v3, (.int .i64 0), (.complex .f32 0 0)]) (Sep.ext S_8 E_1) 1 rfl) rfl rfl) rfl
   ·rintro hp11 E_2
    refine Dep.nil ?_
    refine GuardOK.none rfl ?_
    exact OpV.toDx (opv_move rfl rfl) rfl
   ·rintro hp12 E_3
    refine Dep.nil ?_
    refine GuardOK.none rfl ?_
    exact OpV.toDx (opv_move rfl rfl) rfl
   ·rintro hp13 E_4 _ rfl _ rfl
    refine Dep.nil ?_
    refine GuardOK.none rfl ?_
    exact OpV.mono (opv_cut (K := (kF .f32)) rfl Try.underlying25 (by rw [Try.size29]; rfl) rfl (.inl ⟨rfl, rfl⟩) (.inr ⟨_, _, rfl, rfl⟩) (ownO.read (Sep.at (o := ownO (kF .f32) 29 v1 x3) (Sep.ext S_8 E_4) 2 rfl)) hx7) (by rintro _ _ ⟨S_, rfl⟩; exact ⟨Ext.refl _, S_⟩)
   ·rintro hp14 E_5 _ rfl v6 fv6
    refine Dep.nil ?_
    refine GuardOK.none rfl ?_
    exact OpV.mono (opv_call (cap := []) (impl_RunBin_ok _ _ _ fv3 _ _ _ (isC_lit .f32 0 0 (by decide) (by decide) (by decide) (by decide)) _ _ fv6 _ hx8) rfl rfl ⟨rfl, rfl, trivial⟩ Try.func23 rfl rfl) (by rintro _ _ ⟨v7, v8, rfl, fv7, fv8, M_, T_⟩; exact ⟨Mod.ext M_, ⟨v7, v8, rfl, fv7, fv8, Sep.weak T_ (Ext.size E_5)⟩, Sep.fresh T_⟩)
   ·rintro hp15 E_6 _ ⟨v7, v8, rfl, fv7, fv8, T_7⟩
    refine Dep.nil ?_
    refine GuardOK.none rfl ?_
    exact OpV.mono (opv_move rfl rfl) (by rintro _ _ ⟨rfl, rfl⟩; exact ⟨⟨Ext.refl _, v7, v8, rfl, fv7, fv8, T_7⟩, _, rfl, rfl⟩)
   ·rintro hp16 E_7 _ ⟨v7, v8, rfl, fv7, fv8, T_7⟩
    refine Dep.nil ?_
    refine GuardOK.none rfl ?_
    exact OpV.mono (opv_extract rfl rfl rfl) (by rintro _ _ ⟨rfl, rfl⟩; exact ⟨⟨Ext.refl _, v7, v8, rfl, fv7, fv8, T_7⟩, _, rfl, rfl⟩)
   ·rintro hp17 E_8 _ ⟨v7, v8, rfl, fv7, fv8, T_7⟩
    refine Dep.nil ?_
    refine GuardOK.none rfl ?_
    exact OpV.toDx (opv_extract rfl rfl rfl) rfl
   ·rintro hp18 E_9
    refine Dep.nil ?_
    refine GuardOK.none rfl ?_
    exact OpV.mono (opS_boxed (opv_alloc (cs := [(.float .f32 0), (.int .i64 0), (.complex .f32 0 0)]) rfl Try.zero47 rfl)) (by rintro _ _ ⟨b_, rfl, M_, T_⟩; exact ⟨Mod.ext M_, ⟨b_, rfl, Sep.weak T_ (Ext.size E_9)⟩, Sep.fresh T_⟩)
  ·refine ⟨[5], _, rfl, rfl, rfl, rfl, ?_⟩
   rintro hp19 E_10 _ ⟨v7, v8, rfl, fv7, fv8, T_7⟩
   refine Dep.nil ?_
   exact ⟨_, opy_extract rfl rfl rfl, ⟨Ext.refl _, rfl⟩⟩
  rintro hp20 E_11 _ ⟨v7, v8, rfl, fv7, fv8, T_7⟩ z5_ _ z6_ _ _ rfl _ ⟨bb3, rfl, T_8⟩
  refine DepM.nil ?_
  intro PW_1 LK_
  have ez5_ : z5_ = (.tuple (List.toArray (α := Value) [(.agg (List.toArray (α := Value) [v7, (.int .i64 x8.2.1), v8])), (.bool x8.2.2.2)])) := LK_ 5 _ _ _ _ _ (by decide) rfl rfl rfl rfl
  subst z5_
  have ez6_ : z6_ = (.agg (List.toArray (α := Value) [v7, (.int .i64 x8.2.1), v8])) := LK_ 6 _ _ _ _ _ (by decide) rfl rfl rfl rfl
  subst z6_
  have X_10 := Mod.lift X_6 E_11
  have S_13 := Sep.join S_8 (Mod.size X_6) (Ext.mod E_11 []) (Sep.both T_7 T_8 (Apt.symm (Apt.of PW_1 0 4 rfl rfl (by decide))))
  show RL _ _ _ _ (_ :: _) _ _
  refine RL.op0 _ (opS_stored (cs := [(.float .f32 0), (.int .i64 0), (.complex .f32 0 0)]) (cs' := [v7, (.int .i64 x8.2.1), v8]) (opv_storeA (us := [v7, (.int .i64 x8.2.1), v8]) rfl Try.size47 rfl rfl (oneAll (IsF.one fv7) (oneAll rfl (oneAll (IsC.one fv8) rfl))) (Sep.at (o := boxO bb3 [(.float .f32 0), (.int .i64 0), (.complex .f32 0 0)]) S_13 0 rfl) rfl rfl) (Sep.at (o := boxO bb3 [(.float .f32 0), (.int .i64 0), (.complex .f32 0 0)]) S_13 0 rfl)) ?_
  rintro _ hp21 ⟨rfl, MT_10, T_10⟩
  have S_14 : Sep [] h0.size hp20 ([boxO bb3 [(.float .f32 0), (.int .i64 0), (.complex .f32 0 0)]] ++ [boxO bb2 [v4, (.int .i64 x6.2.1), v5], boxO bb1 [v3, (.int .i64 0), (.complex .f32 0 0)], ownO (kF .f32) 29 v1 x3]) := Sep.sel S_13 [0, 1, 2, 3] (by decide)
  obtain ⟨X_11, S_15⟩ := Sep.turn X_10 S_14 MT_10 T_10
  refine RL.opD (by decide) (opv_assign rfl rfl) ?_
  refine RL.nil ?_
  refine thnN ?_
  refine W.seq ?_
  obtain ⟨x9, hx9, hp⟩ := Option.bind_eq_some_iff.1 hp
  obtain ⟨x10, hx10, hp⟩ := Option.bind_eq_some_iff.1 hp
  refine W.sub (ψ := [(0, u0), (1, u1), (4, (.bool false)), (29, (.bool x1)), (5, (.int .i64 (IntKind.wrap .i64 (1 + x2)))), (6, v1), (7, v3), (8, (.int .i64 x5)), (9, (.pointer (some ⟨bb1, 0, none⟩))), (10, (.pointer (some ⟨bb2, 0, none⟩))), (11, (.bool x6.2.2.2)), (12, (.pointer (some ⟨bb3, 0, none⟩))), (13, (.bool x8.2.2.2))]) ⟨rfl, rfl, rfl, rfl, rfl, rfl, rfl, rfl, rfl, rfl, rfl, rfl, rfl, trivial⟩ ?_
  refine W.regionL [fun v _ => @Eq Value (.agg (List.toArray (α := Value) [v7, (.int .i64 x8.2.1), v8])) v, fun v _ => @Eq Value v1 v, fun v _ => @Eq Value (.int .i64 x5) v, fun v h => SL (kF .f32) h.size h v x9, fun v h => ∃ v12, ∃ v13, @Eq Value v (.tuple (List.toArray (α := Value) [(.agg (List.toArray (α := Value) [v12, (.int .i64 x10.2.1), v13])), (.bool x10.2.2.2)])) ∧ IsF .f32 v12 x10.1 ∧ IsC .f32 v13 x10.2.2.1 ∧ Sep [] hp21.size h [], fun v h => ∃ v12, ∃ v13, @Eq Value v (.tuple (List.toArray (α := Value) [(.agg (List.toArray (α := Value) [v12, (.int .i64 x10.2.1), v13])), (.bool x10.2.2.2)])) ∧ IsF .f32 v12 x10.1 ∧ IsC .f32 v13 x10.2.2.1 ∧ Sep [] hp21.size h [], fun v h => ∃ v12, ∃ v13, @Eq Value v (.agg (List.toArray (α := Value) [v12, (.int .i64 x10.2.1), v13])) ∧ IsF .f32 v12 x10.1 ∧ IsC .f32 v13 x10.2.2.1 ∧ Sep [] hp21.size h [], fun v _ => @Eq Value (.bool x10.2.2.2) v, fun v h => ∃ b, @Eq Value v (.pointer (some ⟨b, 0, none⟩)) ∧ Sep [] hp21.size h [boxO b [(.float .f32 0), (.int .i64 0), (.complex .f32 0 0)]]] [none, none, none, none, some (fun u => []), none, none, none, some (fun u => [ptrB u])] [none, none, none, none, none, some (66, fun u => u), some (61, fun u => vget u 0)] [7] [[], [], [], [1, 2], [0, 3], [4], [5], [5], []] [4, 5, 6, 7, 8] Try.mixed (by decide +kernel) (by decide +kernel) (fun _ _ _ h => h) rfl rfl rfl (by decide +kernel) rfl ⟨fun _ _ _ h _ => h, fun _ _ _ h _ => h, fun _ _ _ h _ => h, fun _ _ _ h x => SL.up (SL.ext h x) (Ext.size x), fun _ _ _ ⟨u0_, u1_, e, f0_, f1_, h⟩ x => ⟨u0_, u1_, e, f0_, f1_, h.ext x⟩, fun _ _ _ ⟨u0_, u1_, e, f0_, f1_, h⟩ x => ⟨u0_, u1_, e, f0_, f1_, h.ext x⟩, fun _ _ _ ⟨u0_, u1_, e, f0_, f1_, h⟩ x => ⟨u0_, u1_, e, f0_, f1_, h.ext x⟩, fun _ _ _ h _ => h, fun _ _ _ ⟨b, e, h⟩ x => ⟨b, e, h.ext x⟩, trivial⟩ ?_ (.cons ?_ (.nil)) ?_
  ·refine ⟨⟨rfl, ?_⟩, ⟨rfl, ?_⟩, ⟨rfl, ?_⟩, ⟨rfl, ?_⟩, ⟨rfl, ?_⟩, ⟨rfl, ?_⟩, ⟨rfl, ?_⟩, ⟨rfl, ?_⟩, ⟨rfl, ?_⟩, trivial⟩
   ·rintro hp25 E_12
    refine Dep.nil ?_
    refine GuardOK.none rfl ?_
    exact OpV.toDx (opv_loadA (us := [v7, (.int .i64 x8.2.1), v8]) rfl Try.agg47 Try.size47 rfl (Sep.at (o := boxO bb3 [v7, (.int .i64 x8.2.1), v8]) (Sep.ext S_15 E_12) 0 rfl) rfl rfl) rfl
   ·rintro hp26 E_13
    refine Dep.nil ?_
    refine GuardOK.none rfl ?_
    exact OpV.toDx (opv_move rfl rfl) rfl
   ·rintro hp27 E_14
    refine Dep.nil ?_
    refine GuardOK.none rfl ?_
    exact OpV.toDx (opv_move rfl rfl) rfl
   ·rintro hp28 E_15 _ rfl _ rfl
    refine Dep.nil ?_
    refine GuardOK.none rfl ?_
    exact OpV.mono (opv_cut (K := (kF .f32)) rfl Try.underlying25 (by rw [Try.size29]; rfl) rfl (.inr ⟨_, _, rfl, rfl⟩) (.inl ⟨rfl, rfl⟩) (ownO.read (Sep.at (o := ownO (kF .f32) 29 v1 x3) (Sep.ext S_15 E_15) 3 rfl)) hx9) (by rintro _ _ ⟨S_, rfl⟩; exact ⟨Ext.refl _, S_⟩)
   ·rintro hp29 E_16 _ rfl v11 fv11
    refine Dep.nil ?_
    refine GuardOK.none rfl ?_
    exact OpV.mono (opv_call (cap := []) (impl_RunBin_ok _ _ _ fv7 _ _ _ fv8 _ _ fv11 _ hx10) rfl rfl ⟨rfl, rfl, trivial⟩ Try.func23 rfl rfl) (by rintro _ _ ⟨v12, v13, rfl, fv12, fv13, M_, T_⟩; exact ⟨Mod.ext M_, ⟨v12, v13, rfl, fv12, fv13, Sep.weak T_ (Ext.size E_16)⟩, Sep.fresh T_⟩)
   ·rintro hp30 E_17 _ ⟨v12, v13, rfl, fv12, fv13, T_11⟩
    refine Dep.nil ?_
    refine GuardOK.none rfl ?_
    exact OpV.mono (opv_move rfl rfl) (by rintro _ _ ⟨rfl, rfl⟩; exact ⟨⟨Ext.refl _, v12, v13, rfl, fv12, fv13, T_11⟩, _, rfl, rfl⟩)
   ·rintro hp31 E_18 _ ⟨v12, v13, rfl, fv12, fv13, T_11⟩
    refine Dep.nil ?_
    refine GuardOK.none rfl ?_
    exact OpV.mono (opv_extract rfl rfl rfl) (by rintro _ _ ⟨rfl, rfl⟩; exact ⟨⟨Ext.refl _, v12, v13, rfl, fv12, fv13, T_11⟩, _, rfl, rfl⟩)
   ·rintro hp32 E_19 _ ⟨v12, v13, rfl, fv12, fv13, T_11⟩
    refine Dep.nil ?_
    refine GuardOK.none rfl ?_
    exact OpV.toDx (opv_extract rfl rfl rfl) rfl
   ·rintro hp33 E_20
    refine Dep.nil ?_
    refine GuardOK.none rfl ?_
    exact OpV.mono (opS_boxed (opv_alloc (cs := [(.float .f32 0), (.int .i64 0), (.complex .f32 0 0)]) rfl Try.zero47 rfl)) (by rintro _ _ ⟨b_, rfl, M_, T_⟩; exact ⟨Mod.ext M_, ⟨b_, rfl, Sep.weak T_ (Ext.size E_20)⟩, Sep.fresh T_⟩)
  ·refine ⟨[5], _, rfl, rfl, rfl, rfl, ?_⟩
   rintro hp34 E_21 _ ⟨v12, v13, rfl, fv12, fv13, T_11⟩
   refine Dep.nil ?_
   exact ⟨_, opy_extract rfl rfl rfl, ⟨Ext.refl _, rfl⟩⟩
  rintro hp35 E_22 _ ⟨v12, v13, rfl, fv12, fv13, T_11⟩ z5_ _ z6_ _ _ rfl _ ⟨bb4, rfl, T_12⟩
  refine DepM.nil ?_
  intro PW_2 LK_
  have ez5_ : z5_ = (.tuple (List.toArray (α := Value) [(.agg (List.toArray (α := Value) [v12, (.int .i64 x10.2.1), v13])), (.bool x10.2.2.2)])) := LK_ 5 _ _ _ _ _ (by decide) rfl rfl rfl rfl
  subst z5_
  have ez6_ : z6_ = (.agg (List.toArray (α := Value) [v12, (.int .i64 x10.2.1), v13])) := LK_ 6 _ _ _ _ _ (by decide) rfl rfl rfl rfl
  subst z6_
  have X_15 := Mod.lift X_11 E_22
  have S_20 := Sep.join S_15 (Mod.size X_11) (Ext.mod E_22 []) (Sep.both T_11 T_12 (Apt.symm (Apt.of PW_2 0 4 rfl rfl (by decide))))
  show RL _ _ _ _ (_ :: _) _ _
  refine RL.op0 _ (opS_stored (cs := [(.float .f32 0), (.int .i64 0), (.complex .f32 0 0)]) (cs' := [v12, (.int .i64 x10.2.1), v13]) (opv_storeA (us := [v12, (.int .i64 x10.2.1), v13]) rfl Try.size47 rfl rfl (oneAll (IsF.one fv12) (oneAll rfl (oneAll (IsC.one fv13) rfl))) (Sep.at (o := boxO bb4 [(.float .f32 0), (.int .i64 0), (.complex .f32 0 0)]) S_20 0 rfl) rfl rfl) (Sep.at (o := boxO bb4 [(.float .f32 0), (.int .i64 0), (.complex .f32 0 0)]) S_20 0 rfl)) ?_
  rintro _ hp36 ⟨rfl, MT_14, T_14⟩
  have S_21 : Sep [] h0.size hp35 ([boxO bb4 [(.float .f32 0), (.int .i64 0), (.complex .f32 0 0)]] ++ [boxO bb3 [v7, (.int .i64 x8.2.1), v8], boxO bb2 [v4, (.int .i64 x6.2.1), v5], boxO bb1 [v3, (.int .i64 0), (.complex .f32 0 0)], ownO (kF .f32) 29 v1 x3]) := Sep.sel S_20 [0, 1, 2, 3, 4] (by decide)
  obtain ⟨X_16, S_22⟩ := Sep.turn X_15 S_21 MT_14 T_14
  refine RL.opD (by decide) (opv_assign rfl rfl) ?_
  refine RL.nil ?_
  refine thnN ?_
  refine W.seq ?_
  refine W.region ?_
  refine RL.opD (by decide) (opv_move rfl rfl) ?_
  refine RL.opD (by decide) (opv_move rfl rfl) ?_
  obtain ⟨x11, hx11, hp⟩ := Option.bind_eq_some_iff.1 hp
  refine RL.op _ (by decide) (opv_call (cap := []) (impl_BinOf_ok _ _ _ (ownO.read (Sep.at (o := ownO (kF .f32) 29 v1 x3) S_22 4 rfl)) _ _ fv3 _ hx11) rfl rfl ⟨rfl, rfl, trivial⟩ Try.func24 rfl rfl) ?_
  rintro _ _ ⟨v16, rfl, fv16, rfl⟩
  refine RL.opD (by decide) (opv_move rfl rfl) ?_
  refine RL.opD (by decide) (opv_extract rfl rfl rfl) ?_
  refine RL.opD (by decide) (opv_extract rfl rfl rfl) ?_
  refine RL.opD (by decide) (opv_assign rfl rfl) ?_
  refine RL.opD (by decide) (opv_assign rfl rfl) ?_
  refine RL.nil ?_
  refine thnN ?_
  refine W.seq ?_
  refine W.region ?_
  refine RL.opD (by decide) (opv_loadA (us := [v3, (.int .i64 0), (.complex .f32 0 0)]) rfl Try.agg47 Try.size47 rfl (Sep.at (o := boxO bb1 [v3, (.int .i64 0), (.complex .f32 0 0)]) S_22 3 rfl) rfl rfl) ?_
  refine RL.op _ (by decide) (opS_boxed (opv_alloc (cs := [(.float .f32 0), (.int .i64 0), (.complex .f32 0 0)]) rfl Try.zero47 rfl)) ?_
  rintro _ hp37 ⟨bb5, rfl, MT_15, T_15⟩
  obtain ⟨X_17, S_23⟩ := Sep.turn0 X_16 S_22 MT_15 T_15
  refine RL.op0 _ (opS_stored (cs := [(.float .f32 0), (.int .i64 0), (.complex .f32 0 0)]) (cs' := [v3, (.int .i64 0), (.complex .f32 0 0)]) (opv_storeA (us := [v3, (.int .i64 0), (.complex .f32 0 0)]) rfl Try.size47 rfl rfl (oneAll (IsF.one fv3) (oneAll rfl (oneAll (IsC.one (isC_lit .f32 0 0 (by decide) (by decide) (by decide) (by decide))) rfl))) (Sep.at (o := boxO bb5 [(.float .f32 0), (.int .i64 0), (.complex .f32 0 0)]) S_23 0 rfl) rfl rfl) (Sep.at (o := boxO bb5 [(.float .f32 0), (.int .i64 0), (.complex .f32 0 0)]) S_23 0 rfl)) ?_
  rintro _ hp38 ⟨rfl, MT_16, T_16⟩
  have S_24 : Sep [] h0.size hp37 ([boxO bb5 [(.float .f32 0), (.int .i64 0), (.complex .f32 0 0)]] ++ [boxO bb4 [v12, (.int .i64 x10.2.1), v13], boxO bb3 [v7, (.int .i64 x8.2.1), v8], boxO bb2 [v4, (.int .i64 x6.2.1), v5], boxO bb1 [v3, (.int .i64 0), (.complex .f32 0 0)], ownO (kF .f32) 29 v1 x3]) := Sep.sel S_23 [0, 1, 2, 3, 4, 5] (by decide)
  obtain ⟨X_18, S_25⟩ := Sep.turn X_17 S_24 MT_16 T_16
  refine RL.nil ?_
  refine thnN ?_
  refine W.seq ?_
  refine W.seq ?_
  refine W.region ?_
  refine RL.opD (by decide) (opv_assign rfl rfl) ?_
  refine RL.nil ?_
  refine thnN ?_
  obtain ⟨y1, hy1, hp⟩ := Option.bind_eq_some_iff.1 hp
  refine W.cut (fun φ' h' => ∃ x17, ∃ x18, ∃ x19, ∃ x20, ∃ x21, ∃ x22, ∃ v19, ∃ v20, y1 = .inl (x17, x18, x19, x20, x21, x22) ∧ Fr.sub [(0, u0), (1, u1), (29, (.bool x1)), (5, (.int .i64 (IntKind.wrap .i64 (1 + x2)))), (6, v1), (7, v3), (8, (.int .i64 x5)), (9, (.pointer (some ⟨bb1, 0, none⟩))), (10, (.pointer (some ⟨bb2, 0, none⟩))), (11, (.bool x6.2.2.2)), (12, (.pointer (some ⟨bb3, 0, none⟩))), (13, (.bool x8.2.2.2)), (14, (.pointer (some ⟨bb4, 0, none⟩))), (15, (.bool x10.2.2.2)), (16, v16), (17, (.bool x11.2)), (18, (.pointer (some ⟨bb5, 0, none⟩))), (4, (.bool x17)), (19, (.int .i64 x18)), (78, (.bool x19))] φ' ∧ IsF .f32 v19 x20 ∧ IsC .f32 v20 x22 ∧ Mod [] h0 h' ∧ Sep [] h0.size h' [boxO bb5 [v19, (.int .i64 x21), v20], boxO bb4 [v12, (.int .i64 x10.2.1), v13], boxO bb3 [v7, (.int .i64 x8.2.1), v8], boxO bb2 [v4, (.int .i64 x6.2.1), v5], boxO bb1 [v3, (.int .i64 0), (.complex .f32 0 0)], ownO (kF .f32) 29 v1 x3]) ?_ ?_
  ·refine W.block ?_
   refine W.loopS (fun (s : (Bool × Int × (Option Nat) × Int × (Option Nat × Option Nat))) φ' h' => ∃ v17, ∃ v18, Fr.sub [(0, u0), (1, u1), (29, (.bool x1)), (5, (.int .i64 (IntKind.wrap .i64 (1 + x2)))), (6, v1), (7, v3), (8, (.int .i64 x5)), (9, (.pointer (some ⟨bb1, 0, none⟩))), (10, (.pointer (some ⟨bb2, 0, none⟩))), (11, (.bool x6.2.2.2)), (12, (.pointer (some ⟨bb3, 0, none⟩))), (13, (.bool x8.2.2.2)), (14, (.pointer (some ⟨bb4, 0, none⟩))), (15, (.bool x10.2.2.2)), (16, v16), (17, (.bool x11.2)), (18, (.pointer (some ⟨bb5, 0, none⟩))), (4, (.bool s.1)), (19, (.int .i64 s.2.1))] φ' ∧ IsF .f32 v17 s.2.2.1 ∧ IsC .f32 v18 s.2.2.2.2 ∧ Mod [] h0 h' ∧ Sep [] h0.size h' [boxO bb5 [v17, (.int .i64 s.2.2.2.1), v18], boxO bb4 [v12, (.int .i64 x10.2.1), v13], boxO bb3 [v7, (.int .i64 x8.2.1), v8], boxO bb2 [v4, (.int .i64 x6.2.1), v5], boxO bb1 [v3, (.int .i64 0), (.complex .f32 0 0)], ownO (kF .f32) 29 v1 x3]) hy1 ⟨v3, (.complex .f32 0 0), ⟨rfl, rfl, rfl, rfl, rfl, rfl, rfl, rfl, rfl, rfl, rfl, rfl, rfl, rfl, rfl, rfl, rfl, rfl, rfl, trivial⟩, fv3, (isC_lit .f32 0 0 (by decide) (by decide) (by decide) (by decide)), X_18, (Sep.sel S_25 [0, 1, 2, 3, 4, 5] (by decide))⟩ ?_
   rintro ⟨x12, x13, x14, x15, x16⟩ φ' hp39 o1 ⟨v17, v18, hs1, fv17, fv18, X_19, S_26⟩ ho1 hy1
   have hs1 : Fr.sub [(0, u0), (1, u1), (29, (.bool x1)), (5, (.int .i64 (IntKind.wrap .i64 (1 + x2)))), (6, v1), (7, v3), (8, (.int .i64 x5)), (9, (.pointer (some ⟨bb1, 0, none⟩))), (10, (.pointer (some ⟨bb2, 0, none⟩))), (11, (.bool x6.2.2.2)), (12, (.pointer (some ⟨bb3, 0, none⟩))), (13, (.bool x8.2.2.2)), (14, (.pointer (some ⟨bb4, 0, none⟩))), (15, (.bool x10.2.2.2)), (16, v16), (17, (.bool x11.2)), (18, (.pointer (some ⟨bb5, 0, none⟩))), (4, (.bool x12)), (19, (.int .i64 x13))] φ' := hs1
   have fv17 : IsF .f32 v17 x14 := fv17
   have fv18 : IsC .f32 v18 x16 := fv18
   have S_26 : Sep [] h0.size hp39 [boxO bb5 [v17, (.int .i64 x15), v18], boxO bb4 [v12, (.int .i64 x10.2.1), v13], boxO bb3 [v7, (.int .i64 x8.2.1), v8], boxO bb2 [v4, (.int .i64 x6.2.1), v5], boxO bb1 [v3, (.int .i64 0), (.complex .f32 0 0)], ownO (kF .f32) 29 v1 x3] := S_26
   have ho1 : laws_FnBinsCut.s0 x2 x3 x12 x13 x14 x15 x16 = some o1 := ho1
   unfold laws_FnBinsCut.s0 at ho1
   refine W.sub hs1 ?_
   refine W.seq ?_
   refine W.seq ?_
   refine W.region ?_
   refine RL.opD (by decide) (opv_move rfl rfl) ?_
   refine RL.opD (by decide) (opv_move rfl rfl) ?_
   refine RL.opD (by decide) (opv_icmp rfl rfl rfl rfl) ?_
   refine RL.nil ?_
   refine thnN ?_
   by_cases c2 : (decide (x13 < (IntKind.wrap .i64 (1 + x2)))) = true
   ·rw [if_pos c2] at ho1
    refine W.condT rfl c2 ?_
    refine W.skip ?_
    refine thnN ?_
    refine W.seq ?_
    refine W.block ?_
    refine W.seq ?_
    obtain ⟨x23, hx23, ho1⟩ := Option.bind_eq_some_iff.1 ho1
    obtain ⟨x24, hx24, ho1⟩ := Option.bind_eq_some_iff.1 ho1
    refine W.sub (ψ := [(0, u0), (1, u1), (29, (.bool x1)), (5, (.int .i64 (IntKind.wrap .i64 (1 + x2)))), (6, v1), (7, v3), (8, (.int .i64 x5)), (9, (.pointer (some ⟨bb1, 0, none⟩))), (10, (.pointer (some ⟨bb2, 0, none⟩))), (11, (.bool x6.2.2.2)), (12, (.pointer (some ⟨bb3, 0, none⟩))), (13, (.bool x8.2.2.2)), (14, (.pointer (some ⟨bb4, 0, none⟩))), (15, (.bool x10.2.2.2)), (16, v16), (17, (.bool x11.2)), (18, (.pointer (some ⟨bb5, 0, none⟩))), (4, (.bool x12)), (19, (.int .i64 x13)), (78, (.bool (decide (x13 < (IntKind.wrap .i64 (1 + x2))))))]) ⟨rfl, rfl, rfl, rfl, rfl, rfl, rfl, rfl, rfl, rfl, rfl, rfl, rfl, rfl, rfl, rfl, rfl, rfl, rfl, rfl, trivial⟩ ?_
    refine W.regionL [fun v _ => @Eq Value (.agg (List.toArray (α := Value) [v17, (.int .i64 x15), v18])) v, fun v _ => @Eq Value v1 v, fun v _ => @Eq Value (.int .i64 x13) v, fun v _ => PtI 1 v v1 (Int.toNat x13), fun v _ => IsF .f32 v x23, fun v h => ∃ v23, ∃ v24, @Eq Value v (.tuple (List.toArray (α := Value) [(.agg (List.toArray (α := Value) [v23, (.int .i64 x24.2.1), v24])), (.bool x24.2.2.2)])) ∧ IsF .f32 v23 x24.1 ∧ IsC .f32 v24 x24.2.2.1 ∧ Sep [] hp39.size h [], fun v h => ∃ v23, ∃ v24, @Eq Value v (.tuple (List.toArray (α := Value) [(.agg (List.toArray (α := Value) [v23, (.int .i64 x24.2.1), v24])), (.bool x24.2.2.2)])) ∧ IsF .f32 v23 x24.1 ∧ IsC .f32 v24 x24.2.2.1 ∧ Sep [] hp39.size h [], fun v h => ∃ v23, ∃ v24, @Eq Value v (.agg (List.toArray (α := Value) [v23, (.int .i64 x24.2.1), v24])) ∧ IsF .f32 v23 x24.1 ∧ IsC .f32 v24 x24.2.2.1 ∧ Sep [] hp39.size h [], fun v _ => @Eq Value (.bool x24.2.2.2) v, fun v h => ∃ b, @Eq Value v (.pointer (some ⟨b, 0, none⟩)) ∧ Sep [] hp39.size h [boxO b [(.float .f32 0), (.int .i64 0), (.complex .f32 0 0)]]] [none, none, none, none, none, some (fun u => []), none, none, none, some (fun u => [ptrB u])] [none, none, none, none, none, none, some (87, fun u => u), some (81, fun u => vget u 0)] [8] [[], [], [], [1, 2], [3], [0, 4], [5], [6], [6], []] [5, 6, 7, 8, 9] Try.mixed (by decide +kernel) (by decide +kernel) (fun _ _ _ h => h) rfl rfl rfl (by decide +kernel) rfl ⟨fun _ _ _ h _ => h, fun _ _ _ h _ => h, fun _ _ _ h _ => h, fun _ _ _ h _ => h, fun _ _ _ h _ => h, fun _ _ _ ⟨u0_, u1_, e, f0_, f1_, h⟩ x => ⟨u0_, u1_, e, f0_, f1_, h.ext x⟩, fun _ _ _ ⟨u0_, u1_, e, f0_, f1_, h⟩ x => ⟨u0_, u1_, e, f0_, f1_, h.ext x⟩, fun _ _ _ ⟨u0_, u1_, e, f0_, f1_, h⟩ x => ⟨u0_, u1_, e, f0_, f1_, h.ext x⟩, fun _ _ _ h _ => h, fun _ _ _ ⟨b, e, h⟩ x => ⟨b, e, h.ext x⟩, trivial⟩ ?_ (.cons ?_ (.nil)) ?_
    ·refine ⟨⟨rfl, ?_⟩, ⟨rfl, ?_⟩, ⟨rfl, ?_⟩, ⟨rfl, ?_⟩, ⟨rfl, ?_⟩, ⟨rfl, ?_⟩, ⟨rfl, ?_⟩, ⟨rfl, ?_⟩, ⟨rfl, ?_⟩, ⟨rfl, ?_⟩, trivial⟩
     ·rintro hp43 E_23
      refine Dep.nil ?_
      refine GuardOK.none rfl ?_
      exact OpV.toDx (opv_loadA (us := [v17, (.int .i64 x15), v18]) rfl Try.agg47 Try.size47 rfl (Sep.at (o := boxO bb5 [v17, (.int .i64 x15), v18]) (Sep.ext S_26 E_23) 0 rfl) rfl rfl) rfl
     ·rintro hp44 E_24
      refine Dep.nil ?_
      refine GuardOK.none rfl ?_
      exact OpV.toDx (opv_move rfl rfl) rfl
     ·rintro hp45 E_25
      refine Dep.nil ?_
      refine GuardOK.none rfl ?_
      exact OpV.toDx (opv_move rfl rfl) rfl
     ·rintro hp46 E_26 _ rfl _ rfl
      refine Dep.nil ?_
      refine GuardOK.none rfl ?_
      exact OpV.toSx (opv_index rfl Try.underlying25 (by rw [Try.size29]; rfl) rfl rfl (ownO.read (Sep.at (o := ownO (kF .f32) 29 v1 x3) (Sep.ext S_26 E_26) 5 rfl)) hx23) (fun _ h => h)
     ·rintro hp47 E_27 v21 fv21
      refine Dep.nil ?_
      refine GuardOK.none rfl ?_
      exact OpV.toSx (opv_loadF rfl Try.one29 rfl fv21 (ownO.read (Sep.at (o := ownO (kF .f32) 29 v1 x3) (Sep.ext S_26 E_27) 5 rfl)) hx23) (fun _ h => h)
     ·rintro hp48 E_28 _ rfl v22 fv22
      refine Dep.nil ?_
      refine GuardOK.none rfl ?_
      exact OpV.mono (opv_call (cap := []) (impl_StepBin_ok _ _ _ fv17 _ _ _ fv18 _ _ fv22 _ hx24) rfl rfl ⟨rfl, rfl, trivial⟩ Try.func25 rfl rfl) (by rintro _ _ ⟨v23, v24, rfl, fv23, fv24, M_, T_⟩; exact ⟨Mod.ext M_, ⟨v23, v24, rfl, fv23, fv24, Sep.weak T_ (Ext.size E_28)⟩, Sep.fresh T_⟩)
     ·rintro hp49 E_29 _ ⟨v23, v24, rfl, fv23, fv24, T_17⟩
      refine Dep.nil ?_
      refine GuardOK.none rfl ?_
      exact OpV.mono (opv_move rfl rfl) (by rintro _ _ ⟨rfl, rfl⟩; exact ⟨⟨Ext.refl _, v23, v24, rfl, fv23, fv24, T_17⟩, _, rfl, rfl⟩)
     ·rintro hp50 E_30 _ ⟨v23, v24, rfl, fv23, fv24, T_17⟩
      refine Dep.nil ?_
      refine GuardOK.none rfl ?_
      exact OpV.mono (opv_extract rfl rfl rfl) (by rintro _ _ ⟨rfl, rfl⟩; exact ⟨⟨Ext.refl _, v23, v24, rfl, fv23, fv24, T_17⟩, _, rfl, rfl⟩)
     ·rintro hp51 E_31 _ ⟨v23, v24, rfl, fv23, fv24, T_17⟩
      refine Dep.nil ?_
      refine GuardOK.none rfl ?_
      exact OpV.toDx (opv_extract rfl rfl rfl) rfl
     ·rintro hp52 E_32
      refine Dep.nil ?_
      refine GuardOK.none rfl ?_
      exact OpV.mono (opS_boxed (opv_alloc (cs := [(.float .f32 0), (.int .i64 0), (.complex .f32 0 0)]) rfl Try.zero47 rfl)) (by rintro _ _ ⟨b_, rfl, M_, T_⟩; exact ⟨Mod.ext M_, ⟨b_, rfl, Sep.weak T_ (Ext.size E_32)⟩, Sep.fresh T_⟩)
    ·refine ⟨[6], _, rfl, rfl, rfl, rfl, ?_⟩
     rintro hp53 E_33 _ ⟨v23, v24, rfl, fv23, fv24, T_17⟩
     refine Dep.nil ?_
     exact ⟨_, opy_extract rfl rfl rfl, ⟨Ext.refl _, rfl⟩⟩
    rintro hp54 E_34 _ ⟨v23, v24, rfl, fv23, fv24, T_17⟩ z6_ _ z7_ _ _ rfl _ ⟨bb6, rfl, T_18⟩
    refine DepM.nil ?_
    intro PW_3 LK_
    have ez6_ : z6_ = (.tuple (List.toArray (α := Value) [(.agg (List.toArray (α := Value) [v23, (.int .i64 x24.2.1), v24])), (.bool x24.2.2.2)])) := LK_ 6 _ _ _ _ _ (by decide) rfl rfl rfl rfl
    subst z6_
    have ez7_ : z7_ = (.agg (List.toArray (α := Value) [v23, (.int .i64 x24.2.1), v24])) := LK_ 7 _ _ _ _ _ (by decide) rfl rfl rfl rfl
    subst z7_
    have X_23 := Mod.lift X_19 E_34
    have S_31 := Sep.join S_26 (Mod.size X_19) (Ext.mod E_34 []) (Sep.both T_17 T_18 (Apt.symm (Apt.of PW_3 0 4 rfl rfl (by decide))))
    show RL _ _ _ _ (_ :: _) _ _
    refine RL.op0 _ (opS_stored (cs := [(.float .f32 0), (.int .i64 0), (.complex .f32 0 0)]) (cs' := [v23, (.int .i64 x24.2.1), v24]) (opv_storeA (us := [v23, (.int .i64 x24.2.1), v24]) rfl Try.size47 rfl rfl (oneAll (IsF.one fv23) (oneAll rfl (oneAll (IsC.one fv24) rfl))) (Sep.at (o := boxO bb6 [(.float .f32 0), (.int .i64 0), (.complex .f32 0 0)]) S_31 0 rfl) rfl rfl) (Sep.at (o := boxO bb6 [(.float .f32 0), (.int .i64 0), (.complex .f32 0 0)]) S_31 0 rfl)) ?_
    rintro _ hp55 ⟨rfl, MT_20, T_20⟩
    have S_32 : Sep [] h0.size hp54 ([boxO bb6 [(.float .f32 0), (.int .i64 0), (.complex .f32 0 0)]] ++ [boxO bb5 [v17, (.int .i64 x15), v18], boxO bb4 [v12, (.int .i64 x10.2.1), v13], boxO bb3 [v7, (.int .i64 x8.2.1), v8], boxO bb2 [v4, (.int .i64 x6.2.1), v5], boxO bb1 [v3, (.int .i64 0), (.complex .f32 0 0)], ownO (kF .f32) 29 v1 x3]) := Sep.sel S_31 [0, 1, 2, 3, 4, 5, 6] (by decide)
    obtain ⟨X_24, S_33⟩ := Sep.turn X_23 S_32 MT_20 T_20
    refine RL.opD (by decide) (opv_assign rfl rfl) ?_
    refine RL.nil ?_
    refine thnN ?_
    refine W.seq ?_
    refine W.seq ?_
    refine W.region ?_
    refine RL.opD (by decide) (opv_move rfl rfl) ?_
    refine RL.opD (by decide) (opv_not rfl rfl) ?_
    refine RL.nil ?_
    refine thnN ?_
    by_cases c3 : (!x24.2.2.2) = true
    ·rw [if_pos c3] at ho1
     refine W.condT rfl c3 ?_
     refine W.seq ?_
     refine W.region ?_
     refine RL.opD (by decide) (opv_assign rfl rfl) ?_
     refine RL.nil ?_
     refine thnN ?_
     refine W.ret ?_
     refine thnR ?_
     refine blkR ?_
     refine thnR ?_
     have eo1 := Option.some.inj ho1
     subst eo1
     have ey1 := hy1 _ rfl
     subst ey1
     try dsimp only at hp
     refine rndR ?_
     refine blkR ?_
     refine onlyR ?_
     refine thnR ?_
     have er := Option.some.inj hp
     subst er
     exact Rt.one rfl rfl ⟨rfl, X_24, (Sep.nil _ _ _)⟩
    ·rw [if_neg c3] at ho1
     have c3 := eq_false_of_ne_true c3
     refine W.condF rfl c3 ?_
     refine W.skip ?_
     refine thnN ?_
     refine W.region ?_
     refine RL.opD (by decide) (opv_loadA (us := [v23, (.int .i64 x24.2.1), v24]) rfl Try.agg47 Try.size47 rfl (Sep.at (o := boxO bb6 [v23, (.int .i64 x24.2.1), v24]) S_33 0 rfl) rfl rfl) ?_
     refine RL.op0 _ (opS_stored (cs := [v17, (.int .i64 x15), v18]) (cs' := [v23, (.int .i64 x24.2.1), v24]) (opv_storeA (us := [v23, (.int .i64 x24.2.1), v24]) rfl Try.size47 rfl rfl (oneAll (IsF.one fv23) (oneAll rfl (oneAll (IsC.one fv24) rfl))) (Sep.at (o := boxO bb5 [v17, (.int .i64 x15), v18]) S_33 1 rfl) rfl rfl) (Sep.at (o := boxO bb5 [v17, (.int .i64 x15), v18]) S_33 1 rfl)) ?_
     rintro _ hp56 ⟨rfl, MT_21, T_21⟩
     have S_34 : Sep [] h0.size hp55 ([boxO bb5 [v17, (.int .i64 x15), v18]] ++ [boxO bb6 [v23, (.int .i64 x24.2.1), v24], boxO bb4 [v12, (.int .i64 x10.2.1), v13], boxO bb3 [v7, (.int .i64 x8.2.1), v8], boxO bb2 [v4, (.int .i64 x6.2.1), v5], boxO bb1 [v3, (.int .i64 0), (.complex .f32 0 0)], ownO (kF .f32) 29 v1 x3]) := Sep.sel S_33 [1, 0, 2, 3, 4, 5, 6] (by decide)
     obtain ⟨X_25, S_35⟩ := Sep.turn X_24 S_34 MT_21 T_21
     refine RL.nil ?_
     refine blkN ?_
     refine thnN ?_
     refine W.region ?_
     refine RL.opD (by decide) (opv_move rfl rfl) ?_
     refine RL.opD (by decide) (opv_add rfl rfl rfl) ?_
     refine RL.opD (by decide) (opv_assign rfl rfl) ?_
     refine RL.nil ?_
     have eo1 := Option.some.inj ho1
     subst eo1
     refine rndN (s' := (x12, IntKind.wrap .i64 (x13 + 1), x24.1, x24.2.1, x24.2.2.1)) rfl ?_
     exact ⟨v23, v24, ⟨rfl, rfl, rfl, rfl, rfl, rfl, rfl, rfl, rfl, rfl, rfl, rfl, rfl, rfl, rfl, rfl, rfl, rfl, rfl, trivial⟩, fv23, fv24, X_25, (Sep.sel S_35 [0, 2, 3, 4, 5, 6] (by decide))⟩
   ·rw [if_neg c2] at ho1
    have c2 := eq_false_of_ne_true c2
    refine W.condF rfl c2 ?_
    refine W.exit ?_
    refine thnX ?_
    refine rndX ?_
    refine blkI ?_
    have eo1 := Option.some.inj ho1
    subst eo1
    have ey1 := hy1 _ rfl
    subst ey1
    refine onlyN ?_
    exact ⟨x12, x13, decide (x13 < (IntKind.wrap .i64 (1 + x2))), x14, x15, x16, v17, v18, rfl, ⟨rfl, rfl, rfl, rfl, rfl, rfl, rfl, rfl, rfl, rfl, rfl, rfl, rfl, rfl, rfl, rfl, rfl, rfl, rfl, rfl, trivial⟩, fv17, fv18, X_19, (Sep.sel S_26 [0, 1, 2, 3, 4, 5] (by decide))⟩
  rintro φ' hp57 ⟨x17, x18, x19, x20, x21, x22, v19, v20, rfl, hs2, fv19, fv20, X_26, S_36⟩
  try dsimp only at hp
  refine thnN ?_
  refine W.sub hs2 ?_
  refine W.seq ?_
  refine W.seq ?_
  obtain ⟨x25, hy2, hp⟩ := Option.bind_eq_some_iff.1 hp
  refine W.cut (fun φ' h' => Fr.sub [(0, u0), (1, u1), (29, (.bool x1)), (5, (.int .i64 (IntKind.wrap .i64 (1 + x2)))), (6, v1), (7, v3), (8, (.int .i64 x5)), (9, (.pointer (some ⟨bb1, 0, none⟩))), (10, (.pointer (some ⟨bb2, 0, none⟩))), (11, (.bool x6.2.2.2)), (12, (.pointer (some ⟨bb3, 0, none⟩))), (13, (.bool x8.2.2.2)), (14, (.pointer (some ⟨bb4, 0, none⟩))), (15, (.bool x10.2.2.2)), (16, v16), (17, (.bool x11.2)), (18, (.pointer (some ⟨bb5, 0, none⟩))), (4, (.bool x17)), (19, (.int .i64 x18)), (78, (.bool x19)), (145, (.bool x25))] φ' ∧ Mod [] h0 h' ∧ Sep [] h0.size h' [boxO bb5 [v19, (.int .i64 x21), v20], boxO bb4 [v12, (.int .i64 x10.2.1), v13], boxO bb3 [v7, (.int .i64 x8.2.1), v8], boxO bb2 [v4, (.int .i64 x6.2.1), v5], boxO bb1 [v3, (.int .i64 0), (.complex .f32 0 0)], ownO (kF .f32) 29 v1 x3]) ?_ ?_
  ·refine W.region ?_
   refine RL.opD (by decide) (opv_move rfl rfl) ?_
   refine RL.opD (by decide) (opv_not rfl rfl) ?_
   refine RL.opD (by decide) (opv_move rfl rfl) ?_
   by_cases c4 : (!x6.2.2.2) = true
   ·rw [if_pos c4] at hy2
    refine RL.noT rfl rfl c4 (by decide) ?_
    refine RL.noT rfl rfl c4 (by decide) ?_
    refine RL.opD (by decide) (opv_pick rfl rfl (fun _ => rfl) (fun e => absurd (Eq.trans (Eq.symm e) c4) (by decide)) rfl) ?_
    refine RL.opD (by decide) (opv_move rfl rfl) ?_
    refine RL.noT rfl rfl rfl (by decide) ?_
    refine RL.noT rfl rfl rfl (by decide) ?_
    refine RL.opD (by decide) (opv_pick rfl rfl (fun _ => rfl) (fun e => absurd (Eq.trans (Eq.symm e) rfl) (by decide)) rfl) ?_
    refine RL.opD (by decide) (opv_move rfl rfl) ?_
    refine RL.noT rfl rfl rfl (by decide) ?_
    refine RL.noT rfl rfl rfl (by decide) ?_
    refine RL.opD (by decide) (opv_pick rfl rfl (fun _ => rfl) (fun e => absurd (Eq.trans (Eq.symm e) rfl) (by decide)) rfl) ?_
    refine RL.opD (by decide) (opv_move rfl rfl) ?_
    refine RL.noT rfl rfl rfl (by decide) ?_
    refine RL.noT rfl rfl rfl (by decide) ?_
    refine RL.noT rfl rfl rfl (by decide) ?_
    refine RL.opD (by decide) (opv_pick rfl rfl (fun _ => rfl) (fun e => absurd (Eq.trans (Eq.symm e) rfl) (by decide)) rfl) ?_
    refine RL.opD (by decide) (opv_move rfl rfl) ?_
    refine RL.noT rfl rfl rfl (by decide) ?_
    refine RL.noT rfl rfl rfl (by decide) ?_
    refine RL.noT rfl rfl rfl (by decide) ?_
    refine RL.noT rfl rfl rfl (by decide) ?_
    refine RL.opD (by decide) (opv_pick rfl rfl (fun _ => rfl) (fun e => absurd (Eq.trans (Eq.symm e) rfl) (by decide)) rfl) ?_
    refine RL.opD (by decide) (opv_move rfl rfl) ?_
    refine RL.noT rfl rfl rfl (by decide) ?_
    refine RL.noT rfl rfl rfl (by decide) ?_
    refine RL.noT rfl rfl rfl (by decide) ?_
    refine RL.noT rfl rfl rfl (by decide) ?_
    refine RL.opD (by decide) (opv_pick rfl rfl (fun _ => rfl) (fun e => absurd (Eq.trans (Eq.symm e) rfl) (by decide)) rfl) ?_
    refine RL.opD (by decide) (opv_move rfl rfl) ?_
    refine RL.noT rfl rfl rfl (by decide) ?_
    refine RL.noT rfl rfl rfl (by decide) ?_
    refine RL.noT rfl rfl rfl (by decide) ?_
    refine RL.noT rfl rfl rfl (by decide) ?_
    refine RL.noT rfl rfl rfl (by decide) ?_
    refine RL.noT rfl rfl rfl (by decide) ?_
    refine RL.opD (by decide) (opv_pick rfl rfl (fun _ => rfl) (fun e => absurd (Eq.trans (Eq.symm e) rfl) (by decide)) rfl) ?_
    refine RL.opD (by decide) (opv_move rfl rfl) ?_
    refine RL.noT rfl rfl rfl (by decide) ?_
    refine RL.noT rfl rfl rfl (by decide) ?_
    refine RL.noT rfl rfl rfl (by decide) ?_
    refine RL.noT rfl rfl rfl (by decide) ?_
    refine RL.noT rfl rfl rfl (by decide) ?_
    refine RL.opD (by decide) (opv_pick rfl rfl (fun _ => rfl) (fun e => absurd (Eq.trans (Eq.symm e) rfl) (by decide)) rfl) ?_
    refine RL.opD (by decide) (opv_move rfl rfl) ?_
    refine RL.noT rfl rfl rfl (by decide) ?_
    refine RL.noT rfl rfl rfl (by decide) ?_
    refine RL.noT rfl rfl rfl (by decide) ?_
    refine RL.noT rfl rfl rfl (by decide) ?_
    refine RL.noT rfl rfl rfl (by decide) ?_
    refine RL.opD (by decide) (opv_pick rfl rfl (fun _ => rfl) (fun e => absurd (Eq.trans (Eq.symm e) rfl) (by decide)) rfl) ?_
    refine RL.nil ?_
    have ey2 := Option.some.inj hy2
    subst ey2
    refine onlyN ?_
    exact ⟨⟨rfl, rfl, rfl, rfl, rfl, rfl, rfl, rfl, rfl, rfl, rfl, rfl, rfl, rfl, rfl, rfl, rfl, rfl, rfl, rfl, rfl, trivial⟩, X_26, (Sep.sel S_36 [0, 1, 2, 3, 4, 5] (by decide))⟩
   ·rw [if_neg c4] at hy2
    have c4 := eq_false_of_ne_true c4
    refine RL.yesD rfl rfl c4 (by decide) (opv_move rfl rfl) ?_
    refine RL.yesD rfl rfl c4 (by decide) (opv_not rfl rfl) ?_
    refine RL.opD (by decide) (opv_pick rfl rfl (fun e => absurd (Eq.trans (Eq.symm e) c4) (by decide)) (fun _ => rfl) rfl) ?_
    refine RL.opD (by decide) (opv_move rfl rfl) ?_
    by_cases c5 : (!x8.2.2.2) = true
    ·rw [if_pos c5] at hy2
     refine RL.noT rfl rfl c5 (by decide) ?_
     refine RL.noT rfl rfl c5 (by decide) ?_
     refine RL.opD (by decide) (opv_pick rfl rfl (fun _ => rfl) (fun e => absurd (Eq.trans (Eq.symm e) c5) (by decide)) rfl) ?_
     refine RL.opD (by decide) (opv_move rfl rfl) ?_
     refine RL.noT rfl rfl rfl (by decide) ?_
     refine RL.noT rfl rfl rfl (by decide) ?_
     refine RL.opD (by decide) (opv_pick rfl rfl (fun _ => rfl) (fun e => absurd (Eq.trans (Eq.symm e) rfl) (by decide)) rfl) ?_
     refine RL.opD (by decide) (opv_move rfl rfl) ?_
     refine RL.noT rfl rfl rfl (by decide) ?_
     refine RL.noT rfl rfl rfl (by decide) ?_
     refine RL.noT rfl rfl rfl (by decide) ?_
     refine RL.opD (by decide) (opv_pick rfl rfl (fun _ => rfl) (fun e => absurd (Eq.trans (Eq.symm e) rfl) (by decide)) rfl) ?_
     refine RL.opD (by decide) (opv_move rfl rfl) ?_
     refine RL.noT rfl rfl rfl (by decide) ?_
     refine RL.noT rfl rfl rfl (by decide) ?_
     refine RL.noT rfl rfl rfl (by decide) ?_
     refine RL.noT rfl rfl rfl (by decide) ?_
     refine RL.opD (by decide) (opv_pick rfl rfl (fun _ => rfl) (fun e => absurd (Eq.trans (Eq.symm e) rfl) (by decide)) rfl) ?_
     refine RL.opD (by decide) (opv_move rfl rfl) ?_
     refine RL.noT rfl rfl rfl (by decide) ?_
     refine RL.noT rfl rfl rfl (by decide) ?_
     refine RL.noT rfl rfl rfl (by decide) ?_
     refine RL.noT rfl rfl rfl (by decide) ?_
     refine RL.opD (by decide) (opv_pick rfl rfl (fun _ => rfl) (fun e => absurd (Eq.trans (Eq.symm e) rfl) (by decide)) rfl) ?_
     refine RL.opD (by decide) (opv_move rfl rfl) ?_
     refine RL.noT rfl rfl rfl (by decide) ?_
     refine RL.noT rfl rfl rfl (by decide) ?_
     refine RL.noT rfl rfl rfl (by decide) ?_
     refine RL.noT rfl rfl rfl (by decide) ?_
     refine RL.noT rfl rfl rfl (by decide) ?_
     refine RL.noT rfl rfl rfl (by decide) ?_
     refine RL.opD (by decide) (opv_pick rfl rfl (fun _ => rfl) (fun e => absurd (Eq.trans (Eq.symm e) rfl) (by decide)) rfl) ?_
     refine RL.opD (by decide) (opv_move rfl rfl) ?_
     refine RL.noT rfl rfl rfl (by decide) ?_
     refine RL.noT rfl rfl rfl (by decide) ?_
     refine RL.noT rfl rfl rfl (by decide) ?_
     refine RL.noT rfl rfl rfl (by decide) ?_
     refine RL.noT rfl rfl rfl (by decide) ?_
     refine RL.opD (by decide) (opv_pick rfl rfl (fun _ => rfl) (fun e => absurd (Eq.trans (Eq.symm e) rfl) (by decide)) rfl) ?_
     refine RL.opD (by decide) (opv_move rfl rfl) ?_
     refine RL.noT rfl rfl rfl (by decide) ?_
     refine RL.noT rfl rfl rfl (by decide) ?_
     refine RL.noT rfl rfl rfl (by decide) ?_
     refine RL.noT rfl rfl rfl (by decide) ?_
     refine RL.noT rfl rfl rfl (by decide) ?_
     refine RL.opD (by decide) (opv_pick rfl rfl (fun _ => rfl) (fun e => absurd (Eq.trans (Eq.symm e) rfl) (by decide)) rfl) ?_
     refine RL.nil ?_
     have ey2 := Option.some.inj hy2
     subst ey2
     refine onlyN ?_
     exact ⟨⟨rfl, rfl, rfl, rfl, rfl, rfl, rfl, rfl, rfl, rfl, rfl, rfl, rfl, rfl, rfl, rfl, rfl, rfl, rfl, rfl, rfl, trivial⟩, X_26, (Sep.sel S_36 [0, 1, 2, 3, 4, 5] (by decide))⟩
    ·rw [if_neg c5] at hy2
     have c5 := eq_false_of_ne_true c5
     refine RL.yesD rfl rfl c5 (by decide) (opv_move rfl rfl) ?_
     refine RL.yesD rfl rfl c5 (by decide) (opv_not rfl rfl) ?_
     refine RL.opD (by decide) (opv_pick rfl rfl (fun e => absurd (Eq.trans (Eq.symm e) c5) (by decide)) (fun _ => rfl) rfl) ?_
     refine RL.opD (by decide) (opv_move rfl rfl) ?_
     by_cases c6 : (!x10.2.2.2) = true
     ·rw [if_pos c6] at hy2
      refine RL.noT rfl rfl c6 (by decide) ?_
      refine RL.noT rfl rfl c6 (by decide) ?_
      refine RL.opD (by decide) (opv_pick rfl rfl (fun _ => rfl) (fun e => absurd (Eq.trans (Eq.symm e) c6) (by decide)) rfl) ?_
      refine RL.opD (by decide) (opv_move rfl rfl) ?_
      refine RL.noT rfl rfl rfl (by decide) ?_
      refine RL.noT rfl rfl rfl (by decide) ?_
      refine RL.noT rfl rfl rfl (by decide) ?_
      refine RL.opD (by decide) (opv_pick rfl rfl (fun _ => rfl) (fun e => absurd (Eq.trans (Eq.symm e) rfl) (by decide)) rfl) ?_
      refine RL.opD (by decide) (opv_move rfl rfl) ?_
      refine RL.noT rfl rfl rfl (by decide) ?_
      refine RL.noT rfl rfl rfl (by decide) ?_
      refine RL.noT rfl rfl rfl (by decide) ?_
      refine RL.noT rfl rfl rfl (by decide) ?_
      refine RL.opD (by decide) (opv_pick rfl rfl (fun _ => rfl) (fun e => absurd (Eq.trans (Eq.symm e) rfl) (by decide)) rfl) ?_
      refine RL.opD (by decide) (opv_move rfl rfl) ?_
      refine RL.noT rfl rfl rfl (by decide) ?_
      refine RL.noT rfl rfl rfl (by decide) ?_
      refine RL.noT rfl rfl rfl (by decide) ?_
      refine RL.noT rfl rfl rfl (by decide) ?_
      refine RL.opD (by decide) (opv_pick rfl rfl (fun _ => rfl) (fun e => absurd (Eq.trans (Eq.symm e) rfl) (by decide)) rfl) ?_
      refine RL.opD (by decide) (opv_move rfl rfl) ?_
      refine RL.noT rfl rfl rfl (by decide) ?_
      refine RL.noT rfl rfl rfl (by decide) ?_
      refine RL.noT rfl rfl rfl (by decide) ?_
      refine RL.noT rfl rfl rfl (by decide) ?_
      refine RL.noT rfl rfl rfl (by decide) ?_
      refine RL.noT rfl rfl rfl (by decide) ?_
      refine RL.opD (by decide) (opv_pick rfl rfl (fun _ => rfl) (fun e => absurd (Eq.trans (Eq.symm e) rfl) (by decide)) rfl) ?_
      refine RL.opD (by decide) (opv_move rfl rfl) ?_
      refine RL.noT rfl rfl rfl (by decide) ?_
      refine RL.noT rfl rfl rfl (by decide) ?_
      refine RL.noT rfl rfl rfl (by decide) ?_
      refine RL.noT rfl rfl rfl (by decide) ?_
      refine RL.noT rfl rfl rfl (by decide) ?_
      refine RL.opD (by decide) (opv_pick rfl rfl (fun _ => rfl) (fun e => absurd (Eq.trans (Eq.symm e) rfl) (by decide)) rfl) ?_
      refine RL.opD (by decide) (opv_move rfl rfl) ?_
      refine RL.noT rfl rfl rfl (by decide) ?_
      refine RL.noT rfl rfl rfl (by decide) ?_
      refine RL.noT rfl rfl rfl (by decide) ?_
      refine RL.noT rfl rfl rfl (by decide) ?_
      refine RL.noT rfl rfl rfl (by decide) ?_
      refine RL.opD (by decide) (opv_pick rfl rfl (fun _ => rfl) (fun e => absurd (Eq.trans (Eq.symm e) rfl) (by decide)) rfl) ?_
      refine RL.nil ?_
      have ey2 := Option.some.inj hy2
      subst ey2
      refine onlyN ?_
      exact ⟨⟨rfl, rfl, rfl, rfl, rfl, rfl, rfl, rfl, rfl, rfl, rfl, rfl, rfl, rfl, rfl, rfl, rfl, rfl, rfl, rfl, rfl, trivial⟩, X_26, (Sep.sel S_36 [0, 1, 2, 3, 4, 5] (by decide))⟩
     ·rw [if_neg c6] at hy2
      have c6 := eq_false_of_ne_true c6
      refine RL.yesD rfl rfl c6 (by decide) (opv_move rfl rfl) ?_
      refine RL.yesD rfl rfl c6 (by decide) (opv_not rfl rfl) ?_
      refine RL.opD (by decide) (opv_pick rfl rfl (fun e => absurd (Eq.trans (Eq.symm e) c6) (by decide)) (fun _ => rfl) rfl) ?_
      refine RL.opD (by decide) (opv_move rfl rfl) ?_
      by_cases c7 : (!x11.2) = true
      ·rw [if_pos c7] at hy2
       refine RL.noT rfl rfl c7 (by decide) ?_
       refine RL.noT rfl rfl c7 (by decide) ?_
       refine RL.noT rfl rfl c7 (by decide) ?_
       refine RL.opD (by decide) (opv_pick rfl rfl (fun _ => rfl) (fun e => absurd (Eq.trans (Eq.symm e) c7) (by decide)) rfl) ?_
       refine RL.opD (by decide) (opv_move rfl rfl) ?_
       refine RL.noT rfl rfl rfl (by decide) ?_
       refine RL.noT rfl rfl rfl (by decide) ?_
       refine RL.noT rfl rfl rfl (by decide) ?_
       refine RL.noT rfl rfl rfl (by decide) ?_
       refine RL.opD (by decide) (opv_pick rfl rfl (fun _ => rfl) (fun e => absurd (Eq.trans (Eq.symm e) rfl) (by decide)) rfl) ?_
       refine RL.opD (by decide) (opv_move rfl rfl) ?_
       refine RL.noT rfl rfl rfl (by decide) ?_
       refine RL.noT rfl rfl rfl (by decide) ?_
       refine RL.noT rfl rfl rfl (by decide) ?_
       refine RL.noT rfl rfl rfl (by decide) ?_
       refine RL.opD (by decide) (opv_pick rfl rfl (fun _ => rfl) (fun e => absurd (Eq.trans (Eq.symm e) rfl) (by decide)) rfl) ?_
       refine RL.opD (by decide) (opv_move rfl rfl) ?_
       refine RL.noT rfl rfl rfl (by decide) ?_
       refine RL.noT rfl rfl rfl (by decide) ?_
       refine RL.noT rfl rfl rfl (by decide) ?_
       refine RL.noT rfl rfl rfl (by decide) ?_
       refine RL.noT rfl rfl rfl (by decide) ?_
       refine RL.noT rfl rfl rfl (by decide) ?_
       refine RL.opD (by decide) (opv_pick rfl rfl (fun _ => rfl) (fun e => absurd (Eq.trans (Eq.symm e) rfl) (by decide)) rfl) ?_
       refine RL.opD (by decide) (opv_move rfl rfl) ?_
       refine RL.noT rfl rfl rfl (by decide) ?_
       refine RL.noT rfl rfl rfl (by decide) ?_
       refine RL.noT rfl rfl rfl (by decide) ?_
       refine RL.noT rfl rfl rfl (by decide) ?_
       refine RL.noT rfl rfl rfl (by decide) ?_
       refine RL.opD (by decide) (opv_pick rfl rfl (fun _ => rfl) (fun e => absurd (Eq.trans (Eq.symm e) rfl) (by decide)) rfl) ?_
       refine RL.opD (by decide) (opv_move rfl rfl) ?_
       refine RL.noT rfl rfl rfl (by decide) ?_
       refine RL.noT rfl rfl rfl (by decide) ?_
       refine RL.noT rfl rfl rfl (by decide) ?_
       refine RL.noT rfl rfl rfl (by decide) ?_
       refine RL.noT rfl rfl rfl (by decide) ?_
       refine RL.opD (by decide) (opv_pick rfl rfl (fun _ => rfl) (fun e => absurd (Eq.trans (Eq.symm e) rfl) (by decide)) rfl) ?_
       refine RL.nil ?_
       have ey2 := Option.some.inj hy2
       subst ey2
       refine onlyN ?_
       exact ⟨⟨rfl, rfl, rfl, rfl, rfl, rfl, rfl, rfl, rfl, rfl, rfl, rfl, rfl, rfl, rfl, rfl, rfl, rfl, rfl, rfl, rfl, trivial⟩, X_26, (Sep.sel S_36 [0, 1, 2, 3, 4, 5] (by decide))⟩
      ·rw [if_neg c7] at hy2
       have c7 := eq_false_of_ne_true c7
       refine RL.yesD rfl rfl c7 (by decide) (opv_loadA (us := [v4, (.int .i64 x6.2.1), v5]) rfl Try.agg47 Try.size47 rfl (Sep.at (o := boxO bb2 [v4, (.int .i64 x6.2.1), v5]) S_36 3 rfl) rfl rfl) ?_
       obtain ⟨x26, hx26, hy2⟩ := Option.bind_eq_some_iff.1 hy2
       refine RL.yes _ rfl rfl c7 (by decide) (opv_call (cap := []) (impl_ValidBin_ok _ _ _ fv4 _ _ _ fv5 _ hx26) rfl rfl ⟨rfl, trivial⟩ Try.func26 rfl rfl) ?_
       rintro _ hp58 ⟨rfl, MT_22, T_22⟩
       obtain ⟨X_27, S_37⟩ := Sep.turn0 X_26 S_36 MT_22 T_22
       refine RL.yesD rfl rfl c7 (by decide) (opv_not rfl rfl) ?_
       refine RL.opD (by decide) (opv_pick rfl rfl (fun e => absurd (Eq.trans (Eq.symm e) c7) (by decide)) (fun _ => rfl) rfl) ?_
       refine RL.opD (by decide) (opv_move rfl rfl) ?_
       by_cases c8 : (!x26) = true
       ·rw [if_pos c8] at hy2
        refine RL.noT rfl rfl c8 (by decide) ?_
        refine RL.noT rfl rfl c8 (by decide) ?_
        refine RL.noT rfl rfl c8 (by decide) ?_
        refine RL.noT rfl rfl c8 (by decide) ?_
        refine RL.opD (by decide) (opv_pick rfl rfl (fun _ => rfl) (fun e => absurd (Eq.trans (Eq.symm e) c8) (by decide)) rfl) ?_
        refine RL.opD (by decide) (opv_move rfl rfl) ?_
        refine RL.noT rfl rfl rfl (by decide) ?_
        refine RL.noT rfl rfl rfl (by decide) ?_
        refine RL.noT rfl rfl rfl (by decide) ?_
        refine RL.noT rfl rfl rfl (by decide) ?_
        refine RL.opD (by decide) (opv_pick rfl rfl (fun _ => rfl) (fun e => absurd (Eq.trans (Eq.symm e) rfl) (by decide)) rfl) ?_
        refine RL.opD (by decide) (opv_move rfl rfl) ?_
        refine RL.noT rfl rfl rfl (by decide) ?_
        refine RL.noT rfl rfl rfl (by decide) ?_
        refine RL.noT rfl rfl rfl (by decide) ?_
        refine RL.noT rfl rfl rfl (by decide) ?_
        refine RL.noT rfl rfl rfl (by decide) ?_
        refine RL.noT rfl rfl rfl (by decide) ?_
        refine RL.opD (by decide) (opv_pick rfl rfl (fun _ => rfl) (fun e => absurd (Eq.trans (Eq.symm e) rfl) (by decide)) rfl) ?_
        refine RL.opD (by decide) (opv_move rfl rfl) ?_
        refine RL.noT rfl rfl rfl (by decide) ?_
        refine RL.noT rfl rfl rfl (by decide) ?_
        refine RL.noT rfl rfl rfl (by decide) ?_
        refine RL.noT rfl rfl rfl (by decide) ?_
        refine RL.noT rfl rfl rfl (by decide) ?_
        refine RL.opD (by decide) (opv_pick rfl rfl (fun _ => rfl) (fun e => absurd (Eq.trans (Eq.symm e) rfl) (by decide)) rfl) ?_
        refine RL.opD (by decide) (opv_move rfl rfl) ?_
        refine RL.noT rfl rfl rfl (by decide) ?_
        refine RL.noT rfl rfl rfl (by decide) ?_
        refine RL.noT rfl rfl rfl (by decide) ?_
        refine RL.noT rfl rfl rfl (by decide) ?_
        refine RL.noT rfl rfl rfl (by decide) ?_
        refine RL.opD (by decide) (opv_pick rfl rfl (fun _ => rfl) (fun e => absurd (Eq.trans (Eq.symm e) rfl) (by decide)) rfl) ?_
        refine RL.nil ?_
        have ey2 := Option.some.inj hy2
        subst ey2
        refine onlyN ?_
        exact ⟨⟨rfl, rfl, rfl, rfl, rfl, rfl, rfl, rfl, rfl, rfl, rfl, rfl, rfl, rfl, rfl, rfl, rfl, rfl, rfl, rfl, rfl, trivial⟩, X_27, (Sep.sel S_37 [0, 1, 2, 3, 4, 5] (by decide))⟩
       ·rw [if_neg c8] at hy2
        have c8 := eq_false_of_ne_true c8
        refine RL.yesD rfl rfl c8 (by decide) (opv_fieldAddr rfl Try.fo47_1 rfl) ?_
        refine RL.yesD rfl rfl c8 (by decide) (opv_loadB rfl Try.one2 rfl (Sep.at (o := boxO bb2 [v4, (.int .i64 x6.2.1), v5]) S_37 3 rfl) rfl) ?_
        refine RL.yesD rfl rfl c8 (by decide) (opv_move rfl rfl) ?_
        refine RL.yesD rfl rfl c8 (by decide) (opv_icmp rfl rfl rfl rfl) ?_
        refine RL.opD (by decide) (opv_pick rfl rfl (fun e => absurd (Eq.trans (Eq.symm e) c8) (by decide)) (fun _ => rfl) rfl) ?_
        refine RL.opD (by decide) (opv_move rfl rfl) ?_
        by_cases c9 : (x6.2.1 != (IntKind.wrap .i64 (1 + x2))) = true
        ·rw [if_pos c9] at hy2
         refine RL.noT rfl rfl c9 (by decide) ?_
         refine RL.noT rfl rfl c9 (by decide) ?_
         refine RL.noT rfl rfl c9 (by decide) ?_
         refine RL.noT rfl rfl c9 (by decide) ?_
         refine RL.opD (by decide) (opv_pick rfl rfl (fun _ => rfl) (fun e => absurd (Eq.trans (Eq.symm e) c9) (by decide)) rfl) ?_
         refine RL.opD (by decide) (opv_move rfl rfl) ?_
         refine RL.noT rfl rfl rfl (by decide) ?_
         refine RL.noT rfl rfl rfl (by decide) ?_
         refine RL.noT rfl rfl rfl (by decide) ?_
         refine RL.noT rfl rfl rfl (by decide) ?_
         refine RL.noT rfl rfl rfl (by decide) ?_
         refine RL.noT rfl rfl rfl (by decide) ?_
         refine RL.opD (by decide) (opv_pick rfl rfl (fun _ => rfl) (fun e => absurd (Eq.trans (Eq.symm e) rfl) (by decide)) rfl) ?_
         refine RL.opD (by decide) (opv_move rfl rfl) ?_
         refine RL.noT rfl rfl rfl (by decide) ?_
         refine RL.noT rfl rfl rfl (by decide) ?_
         refine RL.noT rfl rfl rfl (by decide) ?_
         refine RL.noT rfl rfl rfl (by decide) ?_
         refine RL.noT rfl rfl rfl (by decide) ?_
         refine RL.opD (by decide) (opv_pick rfl rfl (fun _ => rfl) (fun e => absurd (Eq.trans (Eq.symm e) rfl) (by decide)) rfl) ?_
         refine RL.opD (by decide) (opv_move rfl rfl) ?_
         refine RL.noT rfl rfl rfl (by decide) ?_
         refine RL.noT rfl rfl rfl (by decide) ?_
         refine RL.noT rfl rfl rfl (by decide) ?_
         refine RL.noT rfl rfl rfl (by decide) ?_
         refine RL.noT rfl rfl rfl (by decide) ?_
         refine RL.opD (by decide) (opv_pick rfl rfl (fun _ => rfl) (fun e => absurd (Eq.trans (Eq.symm e) rfl) (by decide)) rfl) ?_
         refine RL.nil ?_
         have ey2 := Option.some.inj hy2
         subst ey2
         refine onlyN ?_
         exact ⟨⟨rfl, rfl, rfl, rfl, rfl, rfl, rfl, rfl, rfl, rfl, rfl, rfl, rfl, rfl, rfl, rfl, rfl, rfl, rfl, rfl, rfl, trivial⟩, X_27, (Sep.sel S_37 [0, 1, 2, 3, 4, 5] (by decide))⟩
        ·rw [if_neg c9] at hy2
         have c9 := eq_false_of_ne_true c9
         refine RL.yesD rfl rfl c9 (by decide) (opv_fieldAddr rfl Try.fo47_1 rfl) ?_
         refine RL.yesD rfl rfl c9 (by decide) (opv_loadB rfl Try.one2 rfl (Sep.at (o := boxO bb4 [v12, (.int .i64 x10.2.1), v13]) S_37 1 rfl) rfl) ?_
         refine RL.yesD rfl rfl c9 (by decide) (opv_move rfl rfl) ?_
         refine RL.yesD rfl rfl c9 (by decide) (opv_icmp rfl rfl rfl rfl) ?_
         refine RL.opD (by decide) (opv_pick rfl rfl (fun e => absurd (Eq.trans (Eq.symm e) c9) (by decide)) (fun _ => rfl) rfl) ?_
         refine RL.opD (by decide) (opv_move rfl rfl) ?_
         by_cases c10 : (x10.2.1 != (IntKind.wrap .i64 (1 + x2))) = true
         ·rw [if_pos c10] at hy2
          refine RL.noT rfl rfl c10 (by decide) ?_
          refine RL.noT rfl rfl c10 (by decide) ?_
          refine RL.noT rfl rfl c10 (by decide) ?_
          refine RL.noT rfl rfl c10 (by decide) ?_
          refine RL.noT rfl rfl c10 (by decide) ?_
          refine RL.noT rfl rfl c10 (by decide) ?_
          refine RL.opD (by decide) (opv_pick rfl rfl (fun _ => rfl) (fun e => absurd (Eq.trans (Eq.symm e) c10) (by decide)) rfl) ?_
          refine RL.opD (by decide) (opv_move rfl rfl) ?_
          refine RL.noT rfl rfl rfl (by decide) ?_
          refine RL.noT rfl rfl rfl (by decide) ?_
          refine RL.noT rfl rfl rfl (by decide) ?_
          refine RL.noT rfl rfl rfl (by decide) ?_
          refine RL.noT rfl rfl rfl (by decide) ?_
          refine RL.opD (by decide) (opv_pick rfl rfl (fun _ => rfl) (fun e => absurd (Eq.trans (Eq.symm e) rfl) (by decide)) rfl) ?_
          refine RL.opD (by decide) (opv_move rfl rfl) ?_
          refine RL.noT rfl rfl rfl (by decide) ?_
          refine RL.noT rfl rfl rfl (by decide) ?_
          refine RL.noT rfl rfl rfl (by decide) ?_
          refine RL.noT rfl rfl rfl (by decide) ?_
          refine RL.noT rfl rfl rfl (by decide) ?_
          refine RL.opD (by decide) (opv_pick rfl rfl (fun _ => rfl) (fun e => absurd (Eq.trans (Eq.symm e) rfl) (by decide)) rfl) ?_
          refine RL.nil ?_
          have ey2 := Option.some.inj hy2
          subst ey2
          refine onlyN ?_
          exact ⟨⟨rfl, rfl, rfl, rfl, rfl, rfl, rfl, rfl, rfl, rfl, rfl, rfl, rfl, rfl, rfl, rfl, rfl, rfl, rfl, rfl, rfl, trivial⟩, X_27, (Sep.sel S_37 [0, 1, 2, 3, 4, 5] (by decide))⟩
         ·rw [if_neg c10] at hy2
          have c10 := eq_false_of_ne_true c10
          refine RL.yesD rfl rfl c10 (by decide) (opv_fieldAddr rfl Try.fo47_2 rfl) ?_
          refine RL.yesD rfl rfl c10 (by decide) (opv_loadB rfl Try.one45 rfl (Sep.at (o := boxO bb2 [v4, (.int .i64 x6.2.1), v5]) S_37 3 rfl) rfl) ?_
          refine RL.yesD rfl rfl c10 (by decide) (opv_fieldAddr rfl Try.fo47_2 rfl) ?_
          refine RL.yesD rfl rfl c10 (by decide) (opv_loadB rfl Try.one45 rfl (Sep.at (o := boxO bb4 [v12, (.int .i64 x10.2.1), v13]) S_37 1 rfl) rfl) ?_
          obtain ⟨x27, hx27, hy2⟩ := Option.bind_eq_some_iff.1 hy2
          refine RL.yes _ rfl rfl c10 (by decide) (opv_call (cap := []) (impl_SameComplex_ok _ _ _ fv5 _ _ fv13 _ hx27) rfl rfl ⟨rfl, rfl, trivial⟩ Try.func27 rfl rfl) ?_
          rintro _ _ ⟨rfl, rfl⟩
          refine RL.yesD rfl rfl c10 (by decide) (opv_not rfl rfl) ?_
          refine RL.opD (by decide) (opv_pick rfl rfl (fun e => absurd (Eq.trans (Eq.symm e) c10) (by decide)) (fun _ => rfl) rfl) ?_
          refine RL.opD (by decide) (opv_move rfl rfl) ?_
          by_cases c11 : (!x27) = true
          ·rw [if_pos c11] at hy2
           refine RL.noT rfl rfl c11 (by decide) ?_
           refine RL.noT rfl rfl c11 (by decide) ?_
           refine RL.noT rfl rfl c11 (by decide) ?_
           refine RL.noT rfl rfl c11 (by decide) ?_
           refine RL.noT rfl rfl c11 (by decide) ?_
           refine RL.opD (by decide) (opv_pick rfl rfl (fun _ => rfl) (fun e => absurd (Eq.trans (Eq.symm e) c11) (by decide)) rfl) ?_
           refine RL.opD (by decide) (opv_move rfl rfl) ?_
           refine RL.noT rfl rfl rfl (by decide) ?_
           refine RL.noT rfl rfl rfl (by decide) ?_
           refine RL.noT rfl rfl rfl (by decide) ?_
           refine RL.noT rfl rfl rfl (by decide) ?_
           refine RL.noT rfl rfl rfl (by decide) ?_
           refine RL.opD (by decide) (opv_pick rfl rfl (fun _ => rfl) (fun e => absurd (Eq.trans (Eq.symm e) rfl) (by decide)) rfl) ?_
           refine RL.nil ?_
           have ey2 := Option.some.inj hy2
           subst ey2
           refine onlyN ?_
           exact ⟨⟨rfl, rfl, rfl, rfl, rfl, rfl, rfl, rfl, rfl, rfl, rfl, rfl, rfl, rfl, rfl, rfl, rfl, rfl, rfl, rfl, rfl, trivial⟩, X_27, (Sep.sel S_37 [0, 1, 2, 3, 4, 5] (by decide))⟩
          ·rw [if_neg c11] at hy2
           have c11 := eq_false_of_ne_true c11
           refine RL.yesD rfl rfl c11 (by decide) (opv_fieldAddr rfl Try.fo47_2 rfl) ?_
           refine RL.yesD rfl rfl c11 (by decide) (opv_loadB rfl Try.one45 rfl (Sep.at (o := boxO bb2 [v4, (.int .i64 x6.2.1), v5]) S_37 3 rfl) rfl) ?_
           refine RL.yesD rfl rfl c11 (by decide) (opv_move rfl rfl) ?_
           obtain ⟨x28, hx28, hy2⟩ := Option.bind_eq_some_iff.1 hy2
           refine RL.yes _ rfl rfl c11 (by decide) (opv_call (cap := []) (impl_SameComplex_ok _ _ _ fv5 _ _ fv16 _ hx28) rfl rfl ⟨rfl, rfl, trivial⟩ Try.func27 rfl rfl) ?_
           rintro _ _ ⟨rfl, rfl⟩
           refine RL.yesD rfl rfl c11 (by decide) (opv_not rfl rfl) ?_
           refine RL.opD (by decide) (opv_pick rfl rfl (fun e => absurd (Eq.trans (Eq.symm e) c11) (by decide)) (fun _ => rfl) rfl) ?_
           refine RL.opD (by decide) (opv_move rfl rfl) ?_
           by_cases c12 : (!x28) = true
           ·rw [if_pos c12] at hy2
            refine RL.noT rfl rfl c12 (by decide) ?_
            refine RL.noT rfl rfl c12 (by decide) ?_
            refine RL.noT rfl rfl c12 (by decide) ?_
            refine RL.noT rfl rfl c12 (by decide) ?_
            refine RL.noT rfl rfl c12 (by decide) ?_
            refine RL.opD (by decide) (opv_pick rfl rfl (fun _ => rfl) (fun e => absurd (Eq.trans (Eq.symm e) c12) (by decide)) rfl) ?_
            refine RL.nil ?_
            have ey2 := Option.some.inj hy2
            subst ey2
            refine onlyN ?_
            exact ⟨⟨rfl, rfl, rfl, rfl, rfl, rfl, rfl, rfl, rfl, rfl, rfl, rfl, rfl, rfl, rfl, rfl, rfl, rfl, rfl, rfl, rfl, trivial⟩, X_27, (Sep.sel S_37 [0, 1, 2, 3, 4, 5] (by decide))⟩
           ·rw [if_neg c12] at hy2
            have c12 := eq_false_of_ne_true c12
            refine RL.yesD rfl rfl c12 (by decide) (opv_fieldAddr rfl Try.fo47_2 rfl) ?_
            refine RL.yesD rfl rfl c12 (by decide) (opv_loadB rfl Try.one45 rfl (Sep.at (o := boxO bb5 [v19, (.int .i64 x21), v20]) S_37 0 rfl) rfl) ?_
            refine RL.yesD rfl rfl c12 (by decide) (opv_move rfl rfl) ?_
            obtain ⟨x29, hx29, hy2⟩ := Option.bind_eq_some_iff.1 hy2
            refine RL.yes _ rfl rfl c12 (by decide) (opv_call (cap := []) (impl_SameComplex_ok _ _ _ fv20 _ _ fv16 _ hx29) rfl rfl ⟨rfl, rfl, trivial⟩ Try.func27 rfl rfl) ?_
            rintro _ _ ⟨rfl, rfl⟩
            refine RL.yesD rfl rfl c12 (by decide) (opv_not rfl rfl) ?_
            refine RL.opD (by decide) (opv_pick rfl rfl (fun e => absurd (Eq.trans (Eq.symm e) c12) (by decide)) (fun _ => rfl) rfl) ?_
            refine RL.nil ?_
            have ey2 := Option.some.inj hy2
            subst ey2
            refine onlyN ?_
            exact ⟨⟨rfl, rfl, rfl, rfl, rfl, rfl, rfl, rfl, rfl, rfl, rfl, rfl, rfl, rfl, rfl, rfl, rfl, rfl, rfl, rfl, rfl, trivial⟩, X_27, (Sep.sel S_37 [0, 1, 2, 3, 4, 5] (by decide))⟩
  rintro φ' hp59 ⟨hs3, X_28, S_38⟩
  refine thnN ?_
  refine W.sub hs3 ?_
  by_cases c13 : x25 = true
  ·rw [if_pos c13] at hp
   refine W.condT rfl c13 ?_
   refine W.seq ?_
   refine W.region ?_
   refine RL.opD (by decide) (opv_assign rfl rfl) ?_
   refine RL.nil ?_
   refine thnN ?_
   refine W.ret ?_
   refine thnR ?_
   have er := Option.some.inj hp
   subst er
   exact Rt.one rfl rfl ⟨rfl, X_28, (Sep.nil _ _ _)⟩
  ·rw [if_neg c13] at hp
   have c13 := eq_false_of_ne_true c13
   refine W.condF rfl c13 ?_
   refine W.skip ?_
   refine thnN ?_
   refine W.seq ?_
   refine W.region ?_
   refine RL.opD (by decide) (opv_move rfl rfl) ?_
   obtain ⟨x30, hx30, hp⟩ := Option.bind_eq_some_iff.1 hp
   refine RL.op _ (by decide) (opv_call (cap := []) (laws_r8At_ok _ _ _ (SL.up (SL.mod g1 X_28 (Nat.le_refl _) nob) (Nat.le_trans (Nat.le_refl _) (Mod.size X_28))) _ _ _ hx30) rfl rfl ⟨rfl, rfl, rfl, trivial⟩ Try.func12 rfl rfl) ?_
   rintro _ _ ⟨rfl, rfl⟩
   refine RL.opD (by decide) (opv_move rfl rfl) ?_
   obtain ⟨x31, hx31, hp⟩ := Option.bind_eq_some_iff.1 hp
   refine RL.op _ (by decide) (opv_call (cap := []) (impl_WindowOf_ok _ _ _ _ hx31) rfl rfl ⟨rfl, rfl, trivial⟩ Try.func28 rfl rfl) ?_
   rintro _ hp60 ⟨v27, rfl, MT_23, T_23⟩
   obtain ⟨X_29, S_39⟩ := Sep.turn0 X_28 S_38 MT_23 T_23
   refine RL.opD (by decide) (opv_move rfl rfl) ?_
   refine RL.opD (by decide) (opv_extract rfl rfl rfl) ?_
   refine RL.opD (by decide) (opv_extract rfl rfl rfl) ?_
   refine RL.opD (by decide) (opv_assign rfl rfl) ?_
   refine RL.opD (by decide) (opv_assign rfl rfl) ?_
   refine RL.nil ?_
   refine thnN ?_
   refine W.seq ?_
   refine W.seq ?_
   obtain ⟨x32, hy3, hp⟩ := Option.bind_eq_some_iff.1 hp
   refine W.cut (fun φ' h' => Fr.sub [(0, u0), (1, u1), (29, (.bool x1)), (5, (.int .i64 (IntKind.wrap .i64 (1 + x2)))), (6, v1), (7, v3), (8, (.int .i64 x5)), (9, (.pointer (some ⟨bb1, 0, none⟩))), (10, (.pointer (some ⟨bb2, 0, none⟩))), (11, (.bool x6.2.2.2)), (12, (.pointer (some ⟨bb3, 0, none⟩))), (13, (.bool x8.2.2.2)), (14, (.pointer (some ⟨bb4, 0, none⟩))), (15, (.bool x10.2.2.2)), (16, v16), (17, (.bool x11.2)), (18, (.pointer (some ⟨bb5, 0, none⟩))), (4, (.bool x17)), (19, (.int .i64 x18)), (78, (.bool x19)), (145, (.bool x25)), (22, v27), (23, (.bool x31.2)), (160, (.bool x32))] φ' ∧ hp60 = h') ?_ ?_
   ·refine W.region ?_
    refine RL.opD (by decide) (opv_move rfl rfl) ?_
    refine RL.opD (by decide) (opv_not rfl rfl) ?_
    refine RL.opD (by decide) (opv_move rfl rfl) ?_
    by_cases c14 : (!x31.2) = true
    ·rw [if_pos c14] at hy3
     refine RL.noT rfl rfl c14 (by decide) ?_
     refine RL.noT rfl rfl c14 (by decide) ?_
     refine RL.noT rfl rfl c14 (by decide) ?_
     refine RL.noT rfl rfl c14 (by decide) ?_
     refine RL.opD (by decide) (opv_pick rfl rfl (fun _ => rfl) (fun e => absurd (Eq.trans (Eq.symm e) c14) (by decide)) rfl) ?_
     refine RL.nil ?_
     have ey3 := Option.some.inj hy3
     subst ey3
     refine onlyN ?_
     exact ⟨⟨rfl, rfl, rfl, rfl, rfl, rfl, rfl, rfl, rfl, rfl, rfl, rfl, rfl, rfl, rfl, rfl, rfl, rfl, rfl, rfl, rfl, rfl, rfl, rfl, trivial⟩, rfl⟩
    ·rw [if_neg c14] at hy3
     have c14 := eq_false_of_ne_true c14
     refine RL.yesD rfl rfl c14 (by decide) (opv_move rfl rfl) ?_
     refine RL.yesD rfl rfl c14 (by decide) (opv_len rfl Try.underlying25 rfl (ownO.read (Sep.at (o := ownO (kF .f32) 29 v27 x31.1) S_39 0 rfl))) ?_
     refine RL.yesD rfl rfl c14 (by decide) (opv_move rfl rfl) ?_
     refine RL.yesD rfl rfl c14 (by decide) (opv_icmp rfl rfl rfl rfl) ?_
     refine RL.opD (by decide) (opv_pick rfl rfl (fun e => absurd (Eq.trans (Eq.symm e) c14) (by decide)) (fun _ => rfl) rfl) ?_
     refine RL.nil ?_
     have ey3 := Option.some.inj hy3
     subst ey3
     refine onlyN ?_
     exact ⟨⟨rfl, rfl, rfl, rfl, rfl, rfl, rfl, rfl, rfl, rfl, rfl, rfl, rfl, rfl, rfl, rfl, rfl, rfl, rfl, rfl, rfl, rfl, rfl, rfl, trivial⟩, rfl⟩
   rintro φ' _ ⟨hs4, rfl⟩
   refine thnN ?_
   refine W.sub hs4 ?_
   by_cases c15 : x32 = true
   ·rw [if_pos c15] at hp
    refine W.condT rfl c15 ?_
    refine W.seq ?_
    refine W.region ?_
    refine RL.opD (by decide) (opv_assign rfl rfl) ?_
    refine RL.nil ?_
    refine thnN ?_
    refine W.ret ?_
    refine thnR ?_
    have er := Option.some.inj hp
    subst er
    exact Rt.one rfl rfl ⟨rfl, X_29, (Sep.nil _ _ _)⟩
   ·rw [if_neg c15] at hp
    have c15 := eq_false_of_ne_true c15
    refine W.condF rfl c15 ?_
    refine W.skip ?_
    refine thnN ?_
    refine W.seq ?_
    refine W.seq ?_
    refine W.region ?_
    refine RL.opD (by decide) (opv_assign rfl rfl) ?_
    refine RL.nil ?_
    refine thnN ?_
    obtain ⟨y4, hy4, hp⟩ := Option.bind_eq_some_iff.1 hp
    refine W.cut (fun φ' h' => ∃ x35, ∃ x36, ∃ x37, y4 = .inl (x35, x36, x37) ∧ Fr.sub [(0, u0), (1, u1), (29, (.bool x1)), (5, (.int .i64 (IntKind.wrap .i64 (1 + x2)))), (6, v1), (7, v3), (8, (.int .i64 x5)), (9, (.pointer (some ⟨bb1, 0, none⟩))), (10, (.pointer (some ⟨bb2, 0, none⟩))), (11, (.bool x6.2.2.2)), (12, (.pointer (some ⟨bb3, 0, none⟩))), (13, (.bool x8.2.2.2)), (14, (.pointer (some ⟨bb4, 0, none⟩))), (15, (.bool x10.2.2.2)), (16, v16), (17, (.bool x11.2)), (18, (.pointer (some ⟨bb5, 0, none⟩))), (19, (.int .i64 x18)), (78, (.bool x19)), (145, (.bool x25)), (22, v27), (23, (.bool x31.2)), (160, (.bool x32)), (4, (.bool x35)), (24, (.int .i64 x36)), (163, (.bool x37))] φ' ∧ hp60 = h') ?_ ?_
    ·refine W.block ?_
     refine W.loopS (fun (s : (Bool × Int)) φ' h' => Fr.sub [(0, u0), (1, u1), (29, (.bool x1)), (5, (.int .i64 (IntKind.wrap .i64 (1 + x2)))), (6, v1), (7, v3), (8, (.int .i64 x5)), (9, (.pointer (some ⟨bb1, 0, none⟩))), (10, (.pointer (some ⟨bb2, 0, none⟩))), (11, (.bool x6.2.2.2)), (12, (.pointer (some ⟨bb3, 0, none⟩))), (13, (.bool x8.2.2.2)), (14, (.pointer (some ⟨bb4, 0, none⟩))), (15, (.bool x10.2.2.2)), (16, v16), (17, (.bool x11.2)), (18, (.pointer (some ⟨bb5, 0, none⟩))), (19, (.int .i64 x18)), (78, (.bool x19)), (145, (.bool x25)), (22, v27), (23, (.bool x31.2)), (160, (.bool x32)), (4, (.bool s.1)), (24, (.int .i64 s.2))] φ' ∧ hp60 = h') hy4 ⟨⟨rfl, rfl, rfl, rfl, rfl, rfl, rfl, rfl, rfl, rfl, rfl, rfl, rfl, rfl, rfl, rfl, rfl, rfl, rfl, rfl, rfl, rfl, rfl, rfl, rfl, trivial⟩, rfl⟩ ?_
     rintro ⟨x33, x34⟩ φ' _ o2 ⟨hs5, rfl⟩ ho2 hy2
     have hs5 : Fr.sub [(0, u0), (1, u1), (29, (.bool x1)), (5, (.int .i64 (IntKind.wrap .i64 (1 + x2)))), (6, v1), (7, v3), (8, (.int .i64 x5)), (9, (.pointer (some ⟨bb1, 0, none⟩))), (10, (.pointer (some ⟨bb2, 0, none⟩))), (11, (.bool x6.2.2.2)), (12, (.pointer (some ⟨bb3, 0, none⟩))), (13, (.bool x8.2.2.2)), (14, (.pointer (some ⟨bb4, 0, none⟩))), (15, (.bool x10.2.2.2)), (16, v16), (17, (.bool x11.2)), (18, (.pointer (some ⟨bb5, 0, none⟩))), (19, (.int .i64 x18)), (78, (.bool x19)), (145, (.bool x25)), (22, v27), (23, (.bool x31.2)), (160, (.bool x32)), (4, (.bool x33)), (24, (.int .i64 x34))] φ' := hs5
     have ho2 : laws_FnBinsCut.s1 x2 x31 x33 x34 = some o2 := ho2
     unfold laws_FnBinsCut.s1 at ho2
     refine W.sub hs5 ?_
     refine W.seq ?_
     refine W.seq ?_
     refine W.region ?_
     refine RL.opD (by decide) (opv_move rfl rfl) ?_
     refine RL.opD (by decide) (opv_move rfl rfl) ?_
     refine RL.opD (by decide) (opv_icmp rfl rfl rfl rfl) ?_
     refine RL.nil ?_
     refine thnN ?_
     by_cases c16 : (decide (x34 < (IntKind.wrap .i64 (1 + x2)))) = true
     ·rw [if_pos c16] at ho2
      refine W.condT rfl c16 ?_
      refine W.skip ?_
      refine thnN ?_
      refine W.seq ?_
      refine W.block ?_
      refine W.seq ?_
      obtain ⟨x38, hy5, ho2⟩ := Option.bind_eq_some_iff.1 ho2
      refine W.cut (fun φ' h' => Fr.sub [(0, u0), (1, u1), (29, (.bool x1)), (5, (.int .i64 (IntKind.wrap .i64 (1 + x2)))), (6, v1), (7, v3), (8, (.int .i64 x5)), (9, (.pointer (some ⟨bb1, 0, none⟩))), (10, (.pointer (some ⟨bb2, 0, none⟩))), (11, (.bool x6.2.2.2)), (12, (.pointer (some ⟨bb3, 0, none⟩))), (13, (.bool x8.2.2.2)), (14, (.pointer (some ⟨bb4, 0, none⟩))), (15, (.bool x10.2.2.2)), (16, v16), (17, (.bool x11.2)), (18, (.pointer (some ⟨bb5, 0, none⟩))), (19, (.int .i64 x18)), (78, (.bool x19)), (145, (.bool x25)), (22, v27), (23, (.bool x31.2)), (160, (.bool x32)), (4, (.bool x33)), (24, (.int .i64 x34)), (163, (.bool (decide (x34 < (IntKind.wrap .i64 (1 + x2)))))), (196, (.bool x38))] φ' ∧ hp60 = h') ?_ ?_
      ·obtain ⟨x39, hx39, hy5⟩ := Option.bind_eq_some_iff.1 hy5
       by_cases c17 : (!(fcmp .geq .f32 x39 (some 0))) = true
       ·rw [if_pos c17] at hy5
        refine W.sub (ψ := [(0, u0), (1, u1), (29, (.bool x1)), (5, (.int .i64 (IntKind.wrap .i64 (1 + x2)))), (6, v1), (7, v3), (8, (.int .i64 x5)), (9, (.pointer (some ⟨bb1, 0, none⟩))), (10, (.pointer (some ⟨bb2, 0, none⟩))), (11, (.bool x6.2.2.2)), (12, (.pointer (some ⟨bb3, 0, none⟩))), (13, (.bool x8.2.2.2)), (14, (.pointer (some ⟨bb4, 0, none⟩))), (15, (.bool x10.2.2.2)), (16, v16), (17, (.bool x11.2)), (18, (.pointer (some ⟨bb5, 0, none⟩))), (19, (.int .i64 x18)), (78, (.bool x19)), (145, (.bool x25)), (22, v27), (23, (.bool x31.2)), (160, (.bool x32)), (4, (.bool x33)), (24, (.int .i64 x34)), (163, (.bool (decide (x34 < (IntKind.wrap .i64 (1 + x2))))))]) ⟨rfl, rfl, rfl, rfl, rfl, rfl, rfl, rfl, rfl, rfl, rfl, rfl, rfl, rfl, rfl, rfl, rfl, rfl, rfl, rfl, rfl, rfl, rfl, rfl, rfl, rfl, trivial⟩ ?_
        refine W.regionP [fun v _ => @Eq Value v27 v, fun v _ => @Eq Value (.int .i64 x34) v, fun v _ => PtI 1 v v27 (Int.toNat x34), fun v _ => IsF .f32 v x39, fun v _ => @Eq Value (.bool (fcmp .geq .f32 x39 (some 0))) v, fun v _ => @Eq Value (.bool (!(fcmp .geq .f32 x39 (some 0)))) v, fun v _ => @Eq Value (.bool (!(fcmp .geq .f32 x39 (some 0)))) v, fun v _ => @Eq Value undef v, fun v _ => @Eq Value undef v, fun v _ => @Eq Value undef v, fun v _ => @Eq Value undef v, fun v _ => @Eq Value undef v, fun v _ => @Eq Value undef v, fun v _ => @Eq Value (.bool true) v, fun v _ => @Eq Value (.bool true) v, fun v _ => @Eq Value undef v, fun v _ => @Eq Value undef v, fun v _ => @Eq Value undef v, fun v _ => @Eq Value undef v, fun v _ => @Eq Value undef v, fun v _ => @Eq Value undef v, fun v _ => @Eq Value undef v, fun v _ => @Eq Value undef v, fun v _ => @Eq Value undef v, fun v _ => @Eq Value undef v, fun v _ => @Eq Value undef v, fun v _ => @Eq Value undef v, fun v _ => @Eq Value undef v, fun v _ => @Eq Value undef v, fun v _ => @Eq Value undef v, fun v _ => @Eq Value (.bool true) v] [[], [], [0, 1], [2], [3], [4], [5], [6], [6], [6], [6], [6], [6], [6], [13], [14], [14], [14], [14], [14], [14], [14], [14], [14], [14], [14], [14], [14], [14], [14], [14]] [30] Try.mixed (by decide +kernel) (by decide +kernel) rfl rfl rfl ?_ ?_
        ·refine ⟨⟨rfl, ?_⟩, ⟨rfl, ?_⟩, ⟨rfl, ?_⟩, ⟨rfl, ?_⟩, ⟨rfl, ?_⟩, ⟨rfl, ?_⟩, ⟨rfl, ?_⟩, ⟨rfl, ?_⟩, ⟨rfl, ?_⟩, ⟨rfl, ?_⟩, ⟨rfl, ?_⟩, ⟨rfl, ?_⟩, ⟨rfl, ?_⟩, ⟨rfl, ?_⟩, ⟨rfl, ?_⟩, ⟨rfl, ?_⟩, ⟨rfl, ?_⟩, ⟨rfl, ?_⟩, ⟨rfl, ?_⟩, ⟨rfl, ?_⟩, ⟨rfl, ?_⟩, ⟨rfl, ?_⟩, ⟨rfl, ?_⟩, ⟨rfl, ?_⟩, ⟨rfl, ?_⟩, ⟨rfl, ?_⟩, ⟨rfl, ?_⟩, ⟨rfl, ?_⟩, ⟨rfl, ?_⟩, ⟨rfl, ?_⟩, ⟨rfl, ?_⟩, trivial⟩
         ·rintro _ rfl
          refine Dep.nil ?_
          refine GuardOK.none rfl ?_
          exact OpV.toD (opv_move rfl rfl) rfl
         ·rintro _ rfl
          refine Dep.nil ?_
          refine GuardOK.none rfl ?_
          exact OpV.toD (opv_move rfl rfl) rfl
         ·rintro _ rfl _ rfl _ rfl
          refine Dep.nil ?_
          refine GuardOK.none rfl ?_
          exact OpV.toS (opv_index rfl Try.underlying25 (by rw [Try.size29]; rfl) rfl rfl (ownO.read (Sep.at (o := ownO (kF .f32) 29 v27 x31.1) S_39 0 rfl)) hx39) (fun _ h => h)
         ·rintro _ rfl v28 fv28
          refine Dep.nil ?_
          refine GuardOK.none rfl ?_
          exact OpV.toS (opv_loadF rfl Try.one29 rfl fv28 (ownO.read (Sep.at (o := ownO (kF .f32) 29 v27 x31.1) S_39 0 rfl)) hx39) (fun _ h => h)
         ·rintro _ rfl v29 fv29
          refine Dep.nil ?_
          refine GuardOK.none rfl ?_
          exact OpV.toD (opv_fcmp rfl rfl rfl rfl fv29 (isF_lit .f32 0 (by decide) (by decide))) rfl
         ·rintro _ rfl _ rfl
          refine Dep.nil ?_
          refine GuardOK.none rfl ?_
          exact OpV.toD (opv_not rfl rfl) rfl
         ·rintro _ rfl _ rfl
          refine Dep.nil ?_
          refine GuardOK.none rfl ?_
          exact OpV.toD (opv_move rfl rfl) rfl
         ·rintro _ rfl _ rfl
          refine Dep.nil ?_
          refine GuardOK.pass rfl rfl rfl (Eq.trans c17 (by decide)) ⟨rfl, rfl⟩
         ·rintro _ rfl _ rfl
          refine Dep.nil ?_
          refine GuardOK.pass rfl rfl rfl (Eq.trans c17 (by decide)) ⟨rfl, rfl⟩
         ·rintro _ rfl _ rfl
          refine Dep.nil ?_
          refine GuardOK.pass rfl rfl rfl (Eq.trans c17 (by decide)) ⟨rfl, rfl⟩
         ·rintro _ rfl _ rfl
          refine Dep.nil ?_
          refine GuardOK.pass rfl rfl rfl (Eq.trans c17 (by decide)) ⟨rfl, rfl⟩
         ·rintro _ rfl _ rfl
          refine Dep.nil ?_
          refine GuardOK.pass rfl rfl rfl (Eq.trans c17 (by decide)) ⟨rfl, rfl⟩
         ·rintro _ rfl _ rfl
          refine Dep.nil ?_
          refine GuardOK.pass rfl rfl rfl (Eq.trans c17 (by decide)) ⟨rfl, rfl⟩
         ·rintro _ rfl _ rfl
          refine Dep.nil ?_
          refine GuardOK.none rfl ?_
          exact OpV.toD (opv_pick rfl rfl (fun _ => rfl) (fun e => absurd (Eq.trans (Eq.symm e) c17) (by decide)) rfl) rfl
         ·rintro _ rfl _ rfl
          refine Dep.nil ?_
          refine GuardOK.none rfl ?_
          exact OpV.toD (opv_move rfl rfl) rfl
         ·rintro _ rfl _ rfl
          refine Dep.nil ?_
          refine GuardOK.pass rfl rfl rfl (Eq.trans rfl (by decide)) ⟨rfl, rfl⟩
         ·rintro _ rfl _ rfl
          refine Dep.nil ?_
          refine GuardOK.pass rfl rfl rfl (Eq.trans rfl (by decide)) ⟨rfl, rfl⟩
         ·rintro _ rfl _ rfl
          refine Dep.nil ?_
          refine GuardOK.pass rfl rfl rfl (Eq.trans rfl (by decide)) ⟨rfl, rfl⟩
         ·rintro _ rfl _ rfl
          refine Dep.nil ?_
          refine GuardOK.pass rfl rfl rfl (Eq.trans rfl (by decide)) ⟨rfl, rfl⟩
         ·rintro _ rfl _ rfl
          refine Dep.nil ?_
          refine GuardOK.pass rfl rfl rfl (Eq.trans rfl (by decide)) ⟨rfl, rfl⟩
         ·rintro _ rfl _ rfl
          refine Dep.nil ?_
          refine GuardOK.pass rfl rfl rfl (Eq.trans rfl (by decide)) ⟨rfl, rfl⟩
         ·rintro _ rfl _ rfl
          refine Dep.nil ?_
          refine GuardOK.pass rfl rfl rfl (Eq.trans rfl (by decide)) ⟨rfl, rfl⟩
         ·rintro _ rfl _ rfl
          refine Dep.nil ?_
          refine GuardOK.pass rfl rfl rfl (Eq.trans rfl (by decide)) ⟨rfl, rfl⟩
         ·rintro _ rfl _ rfl
          refine Dep.nil ?_
          refine GuardOK.pass rfl rfl rfl (Eq.trans rfl (by decide)) ⟨rfl, rfl⟩
         ·rintro _ rfl _ rfl
          refine Dep.nil ?_
          refine GuardOK.pass rfl rfl rfl (Eq.trans rfl (by decide)) ⟨rfl, rfl⟩
         ·rintro _ rfl _ rfl
          refine Dep.nil ?_
          refine GuardOK.pass rfl rfl rfl (Eq.trans rfl (by decide)) ⟨rfl, rfl⟩
         ·rintro _ rfl _ rfl
          refine Dep.nil ?_
          refine GuardOK.pass rfl rfl rfl (Eq.trans rfl (by decide)) ⟨rfl, rfl⟩
         ·rintro _ rfl _ rfl
          refine Dep.nil ?_
          refine GuardOK.pass rfl rfl rfl (Eq.trans rfl (by decide)) ⟨rfl, rfl⟩
         ·rintro _ rfl _ rfl
          refine Dep.nil ?_
          refine GuardOK.pass rfl rfl rfl (Eq.trans rfl (by decide)) ⟨rfl, rfl⟩
         ·rintro _ rfl _ rfl
          refine Dep.nil ?_
          refine GuardOK.pass rfl rfl rfl (Eq.trans rfl (by decide)) ⟨rfl, rfl⟩
         ·rintro _ rfl _ rfl
          refine Dep.nil ?_
          refine GuardOK.none rfl ?_
          exact OpV.toD (opv_pick rfl rfl (fun _ => rfl) (fun e => absurd (Eq.trans (Eq.symm e) rfl) (by decide)) rfl) rfl
        rintro _ rfl
        refine Dep.nil ?_
        show RL _ _ _ _ [] _ _
        refine RL.nil ?_
        have ey5 := Option.some.inj hy5
        subst ey5
        refine onlyN ?_
        exact ⟨⟨rfl, rfl, rfl, rfl, rfl, rfl, rfl, rfl, rfl, rfl, rfl, rfl, rfl, rfl, rfl, rfl, rfl, rfl, rfl, rfl, rfl, rfl, rfl, rfl, rfl, rfl, rfl, trivial⟩, rfl⟩
       ·rw [if_neg c17] at hy5
        have c17 := eq_false_of_ne_true c17
        obtain ⟨x40, hx40, hy5⟩ := Option.bind_eq_some_iff.1 hy5
        by_cases c18 : (fcmp .gtr .f64 (wid x40) (some 4607182869159980145)) = true
        ·rw [if_pos c18] at hy5
         refine W.sub (ψ := [(0, u0), (1, u1), (29, (.bool x1)), (5, (.int .i64 (IntKind.wrap .i64 (1 + x2)))), (6, v1), (7, v3), (8, (.int .i64 x5)), (9, (.pointer (some ⟨bb1, 0, none⟩))), (10, (.pointer (some ⟨bb2, 0, none⟩))), (11, (.bool x6.2.2.2)), (12, (.pointer (some ⟨bb3, 0, none⟩))), (13, (.bool x8.2.2.2)), (14, (.pointer (some ⟨bb4, 0, none⟩))), (15, (.bool x10.2.2.2)), (16, v16), (17, (.bool x11.2)), (18, (.pointer (some ⟨bb5, 0, none⟩))), (19, (.int .i64 x18)), (78, (.bool x19)), (145, (.bool x25)), (22, v27), (23, (.bool x31.2)), (160, (.bool x32)), (4, (.bool x33)), (24, (.int .i64 x34)), (163, (.bool (decide (x34 < (IntKind.wrap .i64 (1 + x2))))))]) ⟨rfl, rfl, rfl, rfl, rfl, rfl, rfl, rfl, rfl, rfl, rfl, rfl, rfl, rfl, rfl, rfl, rfl, rfl, rfl, rfl, rfl, rfl, rfl, rfl, rfl, rfl, trivial⟩ ?_
         refine W.regionP [fun v _ => @Eq Value v27 v, fun v _ => @Eq Value (.int .i64 x34) v, fun v _ => PtI 1 v v27 (Int.toNat x34), fun v _ => IsF .f32 v x39, fun v _ => @Eq Value (.bool (fcmp .geq .f32 x39 (some 0))) v, fun v _ => @Eq Value (.bool (!(fcmp .geq .f32 x39 (some 0)))) v, fun v _ => @Eq Value (.bool (!(fcmp .geq .f32 x39 (some 0)))) v, fun v _ => @Eq Value v27 v, fun v _ => @Eq Value (.int .i64 x34) v, fun v _ => PtI 1 v v27 (Int.toNat x34), fun v _ => IsF .f32 v x40, fun v _ => IsF .f64 v (wid x40), fun v _ => @Eq Value (.bool (fcmp .gtr .f64 (wid x40) (some 4607182869159980145))) v, fun v _ => @Eq Value (.bool (fcmp .gtr .f64 (wid x40) (some 4607182869159980145))) v, fun v _ => @Eq Value (.bool (fcmp .gtr .f64 (wid x40) (some 4607182869159980145))) v, fun v _ => @Eq Value undef v, fun v _ => @Eq Value undef v, fun v _ => @Eq Value undef v, fun v _ => @Eq Value undef v, fun v _ => @Eq Value undef v, fun v _ => @Eq Value undef v, fun v _ => @Eq Value undef v, fun v _ => @Eq Value undef v, fun v _ => @Eq Value undef v, fun v _ => @Eq Value undef v, fun v _ => @Eq Value undef v, fun v _ => @Eq Value undef v, fun v _ => @Eq Value undef v, fun v _ => @Eq Value undef v, fun v _ => @Eq Value undef v, fun v _ => @Eq Value (.bool true) v] [[], [], [0, 1], [2], [3], [4], [5], [6], [6], [7, 8, 6], [9, 6], [10, 6], [11, 6], [6, 12], [13], [14], [14], [14], [14], [14], [14], [14], [14], [14], [14], [14], [14], [14], [14], [14], [14]] [30] Try.mixed (by decide +kernel) (by decide +kernel) rfl rfl rfl ?_ ?_
         ·refine ⟨⟨rfl, ?_⟩, ⟨rfl, ?_⟩, ⟨rfl, ?_⟩, ⟨rfl, ?_⟩, ⟨rfl, ?_⟩, ⟨rfl, ?_⟩, ⟨rfl, ?_⟩, ⟨rfl, ?_⟩, ⟨rfl, ?_⟩, ⟨rfl, ?_⟩, ⟨rfl, ?_⟩, ⟨rfl, ?_⟩, ⟨rfl, ?_⟩, ⟨rfl, ?_⟩, ⟨rfl, ?_⟩, ⟨rfl, ?_⟩, ⟨rfl, ?_⟩, ⟨rfl, ?_⟩, ⟨rfl, ?_⟩, ⟨rfl, ?_⟩, ⟨rfl, ?_⟩, ⟨rfl, ?_⟩, ⟨rfl, ?_⟩, ⟨rfl, ?_⟩, ⟨rfl, ?_⟩, ⟨rfl, ?_⟩, ⟨rfl, ?_⟩, ⟨rfl, ?_⟩, ⟨rfl, ?_⟩, ⟨rfl, ?_⟩, ⟨rfl, ?_⟩, trivial⟩
          ·rintro _ rfl
           refine Dep.nil ?_
           refine GuardOK.none rfl ?_
           exact OpV.toD (opv_move rfl rfl) rfl
          ·rintro _ rfl
           refine Dep.nil ?_
           refine GuardOK.none rfl ?_
           exact OpV.toD (opv_move rfl rfl) rfl
          ·rintro _ rfl _ rfl _ rfl
           refine Dep.nil ?_
           refine GuardOK.none rfl ?_
           exact OpV.toS (opv_index rfl Try.underlying25 (by rw [Try.size29]; rfl) rfl rfl (ownO.read (Sep.at (o := ownO (kF .f32) 29 v27 x31.1) S_39 0 rfl)) hx39) (fun _ h => h)
          ·rintro _ rfl v28 fv28
           refine Dep.nil ?_
           refine GuardOK.none rfl ?_
           exact OpV.toS (opv_loadF rfl Try.one29 rfl fv28 (ownO.read (Sep.at (o := ownO (kF .f32) 29 v27 x31.1) S_39 0 rfl)) hx39) (fun _ h => h)
          ·rintro _ rfl v29 fv29
           refine Dep.nil ?_
           refine GuardOK.none rfl ?_
           exact OpV.toD (opv_fcmp rfl rfl rfl rfl fv29 (isF_lit .f32 0 (by decide) (by decide))) rfl
          ·rintro _ rfl _ rfl
           refine Dep.nil ?_
           refine GuardOK.none rfl ?_
           exact OpV.toD (opv_not rfl rfl) rfl
          ·rintro _ rfl _ rfl
           refine Dep.nil ?_
           refine GuardOK.none rfl ?_
           exact OpV.toD (opv_move rfl rfl) rfl
          ·rintro _ rfl _ rfl
           refine Dep.nil ?_
           refine GuardOK.some rfl rfl rfl c17 ?_
           exact OpV.toD (opv_move rfl rfl) rfl
          ·rintro _ rfl _ rfl
           refine Dep.nil ?_
           refine GuardOK.some rfl rfl rfl c17 ?_
           exact OpV.toD (opv_move rfl rfl) rfl
          ·rintro _ rfl _ rfl _ rfl _ rfl
           refine Dep.nil ?_
           refine GuardOK.some rfl rfl rfl c17 ?_
           exact OpV.toS (opv_index rfl Try.underlying25 (by rw [Try.size29]; rfl) rfl rfl (ownO.read (Sep.at (o := ownO (kF .f32) 29 v27 x31.1) S_39 0 rfl)) hx40) (fun _ h => h)
          ·rintro _ rfl v30 fv30 _ rfl
           refine Dep.nil ?_
           refine GuardOK.some rfl rfl rfl c17 ?_
           exact OpV.toS (opv_loadF rfl Try.one29 rfl fv30 (ownO.read (Sep.at (o := ownO (kF .f32) 29 v27 x31.1) S_39 0 rfl)) hx40) (fun _ h => h)
          ·rintro _ rfl v31 fv31 _ rfl
           refine Dep.nil ?_
           refine GuardOK.some rfl rfl rfl c17 ?_
           exact OpV.toS (opv_widen rfl (by rw [Try.underlying29]; rfl) Try.underlying43 rfl fv31) (fun _ h => h)
          ·rintro _ rfl v32 fv32 _ rfl
           refine Dep.nil ?_
           refine GuardOK.some rfl rfl rfl c17 ?_
           exact OpV.toD (opv_fcmp rfl rfl rfl rfl fv32 (isF_lit .f64 4607182869159980145 (by decide) (by decide))) rfl
          ·rintro _ rfl _ rfl _ rfl
           refine Dep.nil ?_
           refine GuardOK.none rfl ?_
           exact OpV.toD (opv_pick rfl rfl (fun e => absurd (Eq.trans (Eq.symm e) c17) (by decide)) (fun _ => rfl) rfl) rfl
          ·rintro _ rfl _ rfl
           refine Dep.nil ?_
           refine GuardOK.none rfl ?_
           exact OpV.toD (opv_move rfl rfl) rfl
          ·rintro _ rfl _ rfl
           refine Dep.nil ?_
           refine GuardOK.pass rfl rfl rfl (Eq.trans c18 (by decide)) ⟨rfl, rfl⟩
          ·rintro _ rfl _ rfl
           refine Dep.nil ?_
           refine GuardOK.pass rfl rfl rfl (Eq.trans c18 (by decide)) ⟨rfl, rfl⟩
          ·rintro _ rfl _ rfl
           refine Dep.nil ?_
           refine GuardOK.pass rfl rfl rfl (Eq.trans c18 (by decide)) ⟨rfl, rfl⟩
          ·rintro _ rfl _ rfl
           refine Dep.nil ?_
           refine GuardOK.pass rfl rfl rfl (Eq.trans c18 (by decide)) ⟨rfl, rfl⟩
          ·rintro _ rfl _ rfl
           refine Dep.nil ?_
           refine GuardOK.pass rfl rfl rfl (Eq.trans c18 (by decide)) ⟨rfl, rfl⟩
          ·rintro _ rfl _ rfl
           refine Dep.nil ?_
           refine GuardOK.pass rfl rfl rfl (Eq.trans c18 (by decide)) ⟨rfl, rfl⟩
          ·rintro _ rfl _ rfl
           refine Dep.nil ?_
           refine GuardOK.pass rfl rfl rfl (Eq.trans c18 (by decide)) ⟨rfl, rfl⟩
          ·rintro _ rfl _ rfl
           refine Dep.nil ?_
           refine GuardOK.pass rfl rfl rfl (Eq.trans c18 (by decide)) ⟨rfl, rfl⟩
          ·rintro _ rfl _ rfl
           refine Dep.nil ?_
           refine GuardOK.pass rfl rfl rfl (Eq.trans c18 (by decide)) ⟨rfl, rfl⟩
          ·rintro _ rfl _ rfl
           refine Dep.nil ?_
           refine GuardOK.pass rfl rfl rfl (Eq.trans c18 (by decide)) ⟨rfl, rfl⟩
          ·rintro _ rfl _ rfl
           refine Dep.nil ?_
           refine GuardOK.pass rfl rfl rfl (Eq.trans c18 (by decide)) ⟨rfl, rfl⟩
          ·rintro _ rfl _ rfl
           refine Dep.nil ?_
           refine GuardOK.pass rfl rfl rfl (Eq.trans c18 (by decide)) ⟨rfl, rfl⟩
          ·rintro _ rfl _ rfl
           refine Dep.nil ?_
           refine GuardOK.pass rfl rfl rfl (Eq.trans c18 (by decide)) ⟨rfl, rfl⟩
          ·rintro _ rfl _ rfl
           refine Dep.nil ?_
           refine GuardOK.pass rfl rfl rfl (Eq.trans c18 (by decide)) ⟨rfl, rfl⟩
          ·rintro _ rfl _ rfl
           refine Dep.nil ?_
           refine GuardOK.pass rfl rfl rfl (Eq.trans c18 (by decide)) ⟨rfl, rfl⟩
          ·rintro _ rfl _ rfl
           refine Dep.nil ?_
           refine GuardOK.none rfl ?_
           exact OpV.toD (opv_pick rfl rfl (fun _ => rfl) (fun e => absurd (Eq.trans (Eq.symm e) c18) (by decide)) rfl) rfl
         rintro _ rfl
         refine Dep.nil ?_
         show RL _ _ _ _ [] _ _
         refine RL.nil ?_
         have ey5 := Option.some.inj hy5
         subst ey5
         refine onlyN ?_
         exact ⟨⟨rfl, rfl, rfl, rfl, rfl, rfl, rfl, rfl, rfl, rfl, rfl, rfl, rfl, rfl, rfl, rfl, rfl, rfl, rfl, rfl, rfl, rfl, rfl, rfl, rfl, rfl, rfl, trivial⟩, rfl⟩
        ·rw [if_neg c18] at hy5
         have c18 := eq_false_of_ne_true c18
         obtain ⟨x41, hx41, hy5⟩ := Option.bind_eq_some_iff.1 hy5
         obtain ⟨x42, hx42, hy5⟩ := Option.bind_eq_some_iff.1 hy5
         obtain ⟨x43, hx43, hy5⟩ := Option.bind_eq_some_iff.1 hy5
         refine W.sub (ψ := [(0, u0), (1, u1), (29, (.bool x1)), (5, (.int .i64 (IntKind.wrap .i64 (1 + x2)))), (6, v1), (7, v3), (8, (.int .i64 x5)), (9, (.pointer (some ⟨bb1, 0, none⟩))), (10, (.pointer (some ⟨bb2, 0, none⟩))), (11, (.bool x6.2.2.2)), (12, (.pointer (some ⟨bb3, 0, none⟩))), (13, (.bool x8.2.2.2)), (14, (.pointer (some ⟨bb4, 0, none⟩))), (15, (.bool x10.2.2.2)), (16, v16), (17, (.bool x11.2)), (18, (.pointer (some ⟨bb5, 0, none⟩))), (19, (.int .i64 x18)), (78, (.bool x19)), (145, (.bool x25)), (22, v27), (23, (.bool x31.2)), (160, (.bool x32)), (4, (.bool x33)), (24, (.int .i64 x34)), (163, (.bool (decide (x34 < (IntKind.wrap .i64 (1 + x2))))))]) ⟨rfl, rfl, rfl, rfl, rfl, rfl, rfl, rfl, rfl, rfl, rfl, rfl, rfl, rfl, rfl, rfl, rfl, rfl, rfl, rfl, rfl, rfl, rfl, rfl, rfl, rfl, trivial⟩ ?_
         refine W.regionP [fun v _ => @Eq Value v27 v, fun v _ => @Eq Value (.int .i64 x34) v, fun v _ => PtI 1 v v27 (Int.toNat x34), fun v _ => IsF .f32 v x39, fun v _ => @Eq Value (.bool (fcmp .geq .f32 x39 (some 0))) v, fun v _ => @Eq Value (.bool (!(fcmp .geq .f32 x39 (some 0)))) v, fun v _ => @Eq Value (.bool (!(fcmp .geq .f32 x39 (some 0)))) v, fun v _ => @Eq Value v27 v, fun v _ => @Eq Value (.int .i64 x34) v, fun v _ => PtI 1 v v27 (Int.toNat x34), fun v _ => IsF .f32 v x40, fun v _ => IsF .f64 v (wid x40), fun v _ => @Eq Value (.bool (fcmp .gtr .f64 (wid x40) (some 4607182869159980145))) v, fun v _ => @Eq Value (.bool (fcmp .gtr .f64 (wid x40) (some 4607182869159980145))) v, fun v _ => @Eq Value (.bool (fcmp .gtr .f64 (wid x40) (some 4607182869159980145))) v, fun v _ => @Eq Value v27 v, fun v _ => @Eq Value (.int .i64 x34) v, fun v _ => PtI 1 v v27 (Int.toNat x34), fun v _ => IsF .f32 v x41, fun v _ => IsF .f64 v (wid x41), fun v _ => @Eq Value v27 v, fun v _ => @Eq Value (.int .i64 (IntKind.wrap .i64 (1 + x2))) v, fun v _ => @Eq Value (.int .i64 (IntKind.wrap .i64 ((IntKind.wrap .i64 (1 + x2)) - 1))) v, fun v _ => @Eq Value (.int .i64 x34) v, fun v _ => @Eq Value (.int .i64 (IntKind.wrap .i64 ((IntKind.wrap .i64 ((IntKind.wrap .i64 (1 + x2)) - 1)) - x34))) v, fun v _ => PtI 1 v v27 (Int.toNat (IntKind.wrap .i64 ((IntKind.wrap .i64 ((IntKind.wrap .i64 (1 + x2)) - 1)) - x34))), fun v _ => IsF .f32 v x42, fun v _ => IsF .f64 v (wid x42), fun v _ => IsF .f64 v x43, fun v _ => @Eq Value (.bool (fcmp .gtr .f64 x43 (some 4547007122018943789))) v, fun v _ => @Eq Value (.bool (fcmp .gtr .f64 x43 (some 4547007122018943789))) v] [[], [], [0, 1], [2], [3], [4], [5], [6], [6], [7, 8, 6], [9, 6], [10, 6], [11, 6], [6, 12], [13], [14], [14], [15, 16, 14], [17, 14], [18, 14], [14], [14], [21, 14], [14], [22, 23, 14], [20, 24, 14], [25, 14], [26, 14], [19, 27, 14], [28, 14], [14, 29]] [30] Try.mixed (by decide +kernel) (by decide +kernel) rfl rfl rfl ?_ ?_
         ·refine ⟨⟨rfl, ?_⟩, ⟨rfl, ?_⟩, ⟨rfl, ?_⟩, ⟨rfl, ?_⟩, ⟨rfl, ?_⟩, ⟨rfl, ?_⟩, ⟨rfl, ?_⟩, ⟨rfl, ?_⟩, ⟨rfl, ?_⟩, ⟨rfl, ?_⟩, ⟨rfl, ?_⟩, ⟨rfl, ?_⟩, ⟨rfl, ?_⟩, ⟨rfl, ?_⟩, ⟨rfl, ?_⟩, ⟨rfl, ?_⟩, ⟨rfl, ?_⟩, ⟨rfl, ?_⟩, ⟨rfl, ?_⟩, ⟨rfl, ?_⟩, ⟨rfl, ?_⟩, ⟨rfl, ?_⟩, ⟨rfl, ?_⟩, ⟨rfl, ?_⟩, ⟨rfl, ?_⟩, ⟨rfl, ?_⟩, ⟨rfl, ?_⟩, ⟨rfl, ?_⟩, ⟨rfl, ?_⟩, ⟨rfl, ?_⟩, ⟨rfl, ?_⟩, trivial⟩
          ·rintro _ rfl
           refine Dep.nil ?_
           refine GuardOK.none rfl ?_
           exact OpV.toD (opv_move rfl rfl) rfl
          ·rintro _ rfl
           refine Dep.nil ?_
           refine GuardOK.none rfl ?_
           exact OpV.toD (opv_move rfl rfl) rfl
          ·rintro _ rfl _ rfl _ rfl
           refine Dep.nil ?_
           refine GuardOK.none rfl ?_
           exact OpV.toS (opv_index rfl Try.underlying25 (by rw [Try.size29]; rfl) rfl rfl (ownO.read (Sep.at (o := ownO (kF .f32) 29 v27 x31.1) S_39 0 rfl)) hx39) (fun _ h => h)
          ·rintro _ rfl v28 fv28
           refine Dep.nil ?_
           refine GuardOK.none rfl ?_
           exact OpV.toS (opv_loadF rfl Try.one29 rfl fv28 (ownO.read (Sep.at (o := ownO (kF .f32) 29 v27 x31.1) S_39 0 rfl)) hx39) (fun _ h => h)
          ·rintro _ rfl v29 fv29
           refine Dep.nil ?_
           refine GuardOK.none rfl ?_
           exact OpV.toD (opv_fcmp rfl rfl rfl rfl fv29 (isF_lit .f32 0 (by decide) (by decide))) rfl
          ·rintro _ rfl _ rfl
           refine Dep.nil ?_
           refine GuardOK.none rfl ?_
           exact OpV.toD (opv_not rfl rfl) rfl
          ·rintro _ rfl _ rfl
           refine Dep.nil ?_
           refine GuardOK.none rfl ?_
           exact OpV.toD (opv_move rfl rfl) rfl
          ·rintro _ rfl _ rfl
           refine Dep.nil ?_
           refine GuardOK.some rfl rfl rfl c17 ?_
           exact OpV.toD (opv_move rfl rfl) rfl
          ·rintro _ rfl _ rfl
           refine Dep.nil ?_
           refine GuardOK.some rfl rfl rfl c17 ?_
           exact OpV.toD (opv_move rfl rfl) rfl
          ·rintro _ rfl _ rfl _ rfl _ rfl
           refine Dep.nil ?_
           refine GuardOK.some rfl rfl rfl c17 ?_
           exact OpV.toS (opv_index rfl Try.underlying25 (by rw [Try.size29]; rfl) rfl rfl (ownO.read (Sep.at (o := ownO (kF .f32) 29 v27 x31.1) S_39 0 rfl)) hx40) (fun _ h => h)
          ·rintro _ rfl v30 fv30 _ rfl
           refine Dep.nil ?_
           refine GuardOK.some rfl rfl rfl c17 ?_
           exact OpV.toS (opv_loadF rfl Try.one29 rfl fv30 (ownO.read (Sep.at (o := ownO (kF .f32) 29 v27 x31.1) S_39 0 rfl)) hx40) (fun _ h => h)
          ·rintro _ rfl v31 fv31 _ rfl
           refine Dep.nil ?_
           refine GuardOK.some rfl rfl rfl c17 ?_
           exact OpV.toS (opv_widen rfl (by rw [Try.underlying29]; rfl) Try.underlying43 rfl fv31) (fun _ h => h)
          ·rintro _ rfl v32 fv32 _ rfl
           refine Dep.nil ?_
           refine GuardOK.some rfl rfl rfl c17 ?_
           exact OpV.toD (opv_fcmp rfl rfl rfl rfl fv32 (isF_lit .f64 4607182869159980145 (by decide) (by decide))) rfl
          ·rintro _ rfl _ rfl _ rfl
           refine Dep.nil ?_
           refine GuardOK.none rfl ?_
           exact OpV.toD (opv_pick rfl rfl (fun e => absurd (Eq.trans (Eq.symm e) c17) (by decide)) (fun _ => rfl) rfl) rfl
          ·rintro _ rfl _ rfl
           refine Dep.nil ?_
           refine GuardOK.none rfl ?_
           exact OpV.toD (opv_move rfl rfl) rfl
          ·rintro _ rfl _ rfl
           refine Dep.nil ?_
           refine GuardOK.some rfl rfl rfl c18 ?_
           exact OpV.toD (opv_move rfl rfl) rfl
          ·rintro _ rfl _ rfl
           refine Dep.nil ?_
           refine GuardOK.some rfl rfl rfl c18 ?_
           exact OpV.toD (opv_move rfl rfl) rfl
          ·rintro _ rfl _ rfl _ rfl _ rfl
           refine Dep.nil ?_
           refine GuardOK.some rfl rfl rfl c18 ?_
           exact OpV.toS (opv_index rfl Try.underlying25 (by rw [Try.size29]; rfl) rfl rfl (ownO.read (Sep.at (o := ownO (kF .f32) 29 v27 x31.1) S_39 0 rfl)) hx41) (fun _ h => h)
          ·rintro _ rfl v33 fv33 _ rfl
           refine Dep.nil ?_
           refine GuardOK.some rfl rfl rfl c18 ?_
           exact OpV.toS (opv_loadF rfl Try.one29 rfl fv33 (ownO.read (Sep.at (o := ownO (kF .f32) 29 v27 x31.1) S_39 0 rfl)) hx41) (fun _ h => h)
          ·rintro _ rfl v34 fv34 _ rfl
           refine Dep.nil ?_
           refine GuardOK.some rfl rfl rfl c18 ?_
           exact OpV.toS (opv_widen rfl (by rw [Try.underlying29]; rfl) Try.underlying43 rfl fv34) (fun _ h => h)
          ·rintro _ rfl _ rfl
           refine Dep.nil ?_
           refine GuardOK.some rfl rfl rfl c18 ?_
           exact OpV.toD (opv_move rfl rfl) rfl
          ·rintro _ rfl _ rfl
           refine Dep.nil ?_
           refine GuardOK.some rfl rfl rfl c18 ?_
           exact OpV.toD (opv_move rfl rfl) rfl
          ·rintro _ rfl _ rfl _ rfl
           refine Dep.nil ?_
           refine GuardOK.some rfl rfl rfl c18 ?_
           exact OpV.toD (opv_sub rfl rfl rfl) rfl
          ·rintro _ rfl _ rfl
           refine Dep.nil ?_
           refine GuardOK.some rfl rfl rfl c18 ?_
           exact OpV.toD (opv_move rfl rfl) rfl
          ·rintro _ rfl _ rfl _ rfl _ rfl
           refine Dep.nil ?_
           refine GuardOK.some rfl rfl rfl c18 ?_
           exact OpV.toD (opv_sub rfl rfl rfl) rfl
          ·rintro _ rfl _ rfl _ rfl _ rfl
           refine Dep.nil ?_
           refine GuardOK.some rfl rfl rfl c18 ?_
           exact OpV.toS (opv_index rfl Try.underlying25 (by rw [Try.size29]; rfl) rfl rfl (ownO.read (Sep.at (o := ownO (kF .f32) 29 v27 x31.1) S_39 0 rfl)) hx42) (fun _ h => h)
          ·rintro _ rfl v36 fv36 _ rfl
           refine Dep.nil ?_
           refine GuardOK.some rfl rfl rfl c18 ?_
           exact OpV.toS (opv_loadF rfl Try.one29 rfl fv36 (ownO.read (Sep.at (o := ownO (kF .f32) 29 v27 x31.1) S_39 0 rfl)) hx42) (fun _ h => h)
          ·rintro _ rfl v37 fv37 _ rfl
           refine Dep.nil ?_
           refine GuardOK.some rfl rfl rfl c18 ?_
           exact OpV.toS (opv_widen rfl (by rw [Try.underlying29]; rfl) Try.underlying43 rfl fv37) (fun _ h => h)
          ·rintro _ rfl v35 fv35 v38 fv38 _ rfl
           refine Dep.nil ?_
           refine GuardOK.some rfl rfl rfl c18 ?_
           exact OpV.mono (opv_call (cap := []) (laws_r8Gap_ok _ _ _ fv35 _ _ fv38 _ hx43) rfl rfl ⟨rfl, rfl, trivial⟩ Try.func21 rfl rfl) (by rintro v39 _ ⟨fv39, rfl⟩; exact ⟨rfl, fv39⟩)
          ·rintro _ rfl v39 fv39 _ rfl
           refine Dep.nil ?_
           refine GuardOK.some rfl rfl rfl c18 ?_
           exact OpV.toD (opv_fcmp rfl rfl rfl rfl fv39 (isF_lit .f64 4547007122018943789 (by decide) (by decide))) rfl
          ·rintro _ rfl _ rfl _ rfl
           refine Dep.nil ?_
           refine GuardOK.none rfl ?_
           exact OpV.toD (opv_pick rfl rfl (fun e => absurd (Eq.trans (Eq.symm e) c18) (by decide)) (fun _ => rfl) rfl) rfl
         rintro _ rfl
         refine Dep.nil ?_
         show RL _ _ _ _ [] _ _
         refine RL.nil ?_
         have ey5 := Option.some.inj hy5
         subst ey5
         refine onlyN ?_
         exact ⟨⟨rfl, rfl, rfl, rfl, rfl, rfl, rfl, rfl, rfl, rfl, rfl, rfl, rfl, rfl, rfl, rfl, rfl, rfl, rfl, rfl, rfl, rfl, rfl, rfl, rfl, rfl, rfl, trivial⟩, rfl⟩
      rintro φ' _ ⟨hs7, rfl⟩
      refine thnN ?_
      refine W.sub hs7 ?_
      by_cases c19 : x38 = true
      ·rw [if_pos c19] at ho2
       refine W.condT rfl c19 ?_
       refine W.seq ?_
       refine W.region ?_
       refine RL.opD (by decide) (opv_assign rfl rfl) ?_
       refine RL.nil ?_
       refine thnN ?_
       refine W.ret ?_
       refine blkR ?_
       refine thnR ?_
       have eo2 := Option.some.inj ho2
       subst eo2
       have ey4 := hy2 _ rfl
       subst ey4
       try dsimp only at hp
       refine rndR ?_
       refine blkR ?_
       refine onlyR ?_
       refine thnR ?_
       have er := Option.some.inj hp
       subst er
       exact Rt.one rfl rfl ⟨rfl, X_29, (Sep.nil _ _ _)⟩
      ·rw [if_neg c19] at ho2
       have c19 := eq_false_of_ne_true c19
       refine W.condF rfl c19 ?_
       refine W.skip ?_
       refine blkN ?_
       refine thnN ?_
       refine W.region ?_
       refine RL.opD (by decide) (opv_move rfl rfl) ?_
       refine RL.opD (by decide) (opv_add rfl rfl rfl) ?_
       refine RL.opD (by decide) (opv_assign rfl rfl) ?_
       refine RL.nil ?_
       have eo2 := Option.some.inj ho2
       subst eo2
       refine rndN (s' := (x33, IntKind.wrap .i64 (x34 + 1))) rfl ?_
       exact ⟨⟨rfl, rfl, rfl, rfl, rfl, rfl, rfl, rfl, rfl, rfl, rfl, rfl, rfl, rfl, rfl, rfl, rfl, rfl, rfl, rfl, rfl, rfl, rfl, rfl, rfl, trivial⟩, rfl⟩
     ·rw [if_neg c16] at ho2
      have c16 := eq_false_of_ne_true c16
      refine W.condF rfl c16 ?_
      refine W.exit ?_
      refine thnX ?_
      refine rndX ?_
      refine blkI ?_
      have eo2 := Option.some.inj ho2
      subst eo2
      have ey4 := hy2 _ rfl
      subst ey4
      refine onlyN ?_
      exact ⟨x33, x34, decide (x34 < (IntKind.wrap .i64 (1 + x2))), rfl, ⟨rfl, rfl, rfl, rfl, rfl, rfl, rfl, rfl, rfl, rfl, rfl, rfl, rfl, rfl, rfl, rfl, rfl, rfl, rfl, rfl, rfl, rfl, rfl, rfl, rfl, rfl, trivial⟩, rfl⟩
    rintro φ' _ ⟨x35, x36, x37, rfl, hs6, rfl⟩
    try dsimp only at hp
    refine thnN ?_
    refine W.sub hs6 ?_
    refine W.seq ?_
    refine W.region ?_
    refine RL.opD (by decide) (opv_move rfl rfl) ?_
    refine RL.opD (by decide) (opv_move rfl rfl) ?_
    obtain ⟨x44, hx44, hp⟩ := Option.bind_eq_some_iff.1 hp
    refine RL.op _ (by decide) (opv_call (cap := []) (impl_TimesWindow_ok _ _ _ (ownO.read (Sep.at (o := ownO (kF .f32) 29 v1 x3) S_39 6 rfl)) _ _ (ownO.read (Sep.at (o := ownO (kF .f32) 29 v27 x31.1) S_39 0 rfl)) _ hx44) rfl rfl ⟨rfl, rfl, trivial⟩ Try.func29 rfl rfl) ?_
    rintro _ hp61 ⟨v40, rfl, MT_24, T_24⟩
    obtain ⟨X_30, S_40⟩ := Sep.turn0 X_29 S_39 MT_24 T_24
    refine RL.opD (by decide) (opv_move rfl rfl) ?_
    refine RL.opD (by decide) (opv_extract rfl rfl rfl) ?_
    refine RL.opD (by decide) (opv_extract rfl rfl rfl) ?_
    refine RL.opD (by decide) (opv_assign rfl rfl) ?_
    refine RL.opD (by decide) (opv_assign rfl rfl) ?_
    refine RL.nil ?_
    refine thnN ?_
    refine W.seq ?_
    obtain ⟨x45, hy6, hp⟩ := Option.bind_eq_some_iff.1 hp
    refine W.cut (fun φ' h' => Fr.sub [(0, u0), (1, u1), (29, (.bool x1)), (5, (.int .i64 (IntKind.wrap .i64 (1 + x2)))), (6, v1), (7, v3), (8, (.int .i64 x5)), (9, (.pointer (some ⟨bb1, 0, none⟩))), (10, (.pointer (some ⟨bb2, 0, none⟩))), (11, (.bool x6.2.2.2)), (12, (.pointer (some ⟨bb3, 0, none⟩))), (13, (.bool x8.2.2.2)), (14, (.pointer (some ⟨bb4, 0, none⟩))), (15, (.bool x10.2.2.2)), (16, v16), (17, (.bool x11.2)), (18, (.pointer (some ⟨bb5, 0, none⟩))), (19, (.int .i64 x18)), (78, (.bool x19)), (145, (.bool x25)), (22, v27), (23, (.bool x31.2)), (160, (.bool x32)), (24, (.int .i64 x36)), (163, (.bool x37)), (25, v40), (26, (.bool x44.2)), (4, (.bool x45))] φ' ∧ hp61 = h') ?_ ?_
    ·refine W.regionH 21 rfl Try.mixed ?_
     refine HK.d 0 rfl rfl rfl (by decide) (by decide +kernel) (fun _ _ _ h => h) (opx_move rfl rfl) ?_
     refine HK.d 1 rfl rfl rfl (by decide) (by decide +kernel) (fun _ _ _ h => h) (opx_move rfl rfl) ?_
     by_cases c20 : x44.2 = true
     ·rw [if_pos c20] at hy6
      refine HK.y 2 rfl rfl rfl rfl rfl c20 (by decide) (by decide +kernel) (fun _ _ _ h => h) (opx_move rfl rfl) ?_
      refine HK.y 3 rfl rfl rfl rfl rfl c20 (by decide) (by decide +kernel) (fun _ _ _ h => h) (opx_len rfl Try.underlying25 rfl (ownO.read (Sep.at (o := ownO (kF .f32) 29 v40 x44.1) S_40 0 rfl))) ?_
      refine HK.y 4 rfl rfl rfl rfl rfl c20 (by decide) (by decide +kernel) (fun _ _ _ h => h) (opx_move rfl rfl) ?_
      refine HK.y 5 rfl rfl rfl rfl rfl c20 (by decide) (by decide +kernel) (fun _ _ _ h => h) (opx_icmp rfl rfl rfl rfl) ?_
      refine HK.d 6 rfl rfl rfl (by decide) (by decide +kernel) (fun _ _ _ h => h) (opx_pick rfl rfl (fun _ => rfl) (fun e => absurd (Eq.trans (Eq.symm e) c20) (by decide)) rfl) ?_
      refine HK.d 7 rfl rfl rfl (by decide) (by decide +kernel) (fun _ _ _ h => h) (opx_move rfl rfl) ?_
      by_cases c21 : ((x44.1.length : Int) == (IntKind.wrap .i64 (1 + x2))) = true
      ·rw [if_pos c21] at hy6
       refine HK.y 8 rfl rfl rfl rfl rfl c21 (by decide) (by decide +kernel) (fun _ _ _ h => h) (opx_move rfl rfl) ?_
       obtain ⟨x46, hx46, hy6⟩ := Option.bind_eq_some_iff.1 hy6
       refine HK.yf 9 rfl rfl rfl rfl rfl c21 (by decide) (by decide +kernel) (fun _ _ _ h => h) (opx_indexP rfl Try.underlying25 (by rw [Try.size29]; rfl) rfl rfl (ownO.read (Sep.at (o := ownO (kF .f32) 29 v40 x44.1) S_40 0 rfl)) hx46) ?_
       intro v41 fv41
       refine HK.yf 10 rfl rfl rfl rfl rfl c21 (by decide) (by decide +kernel) (fun _ _ _ h => h) (opx_loadF rfl Try.one29 rfl fv41 (ownO.read (Sep.at (o := ownO (kF .f32) 29 v40 x44.1) S_40 0 rfl)) hx46) ?_
       intro v42 fv42
       refine HK.y 11 rfl rfl rfl rfl rfl c21 (by decide) (by decide +kernel) (fun _ _ _ h => h) (opx_move rfl rfl) ?_
       obtain ⟨x47, hx47, hy6⟩ := Option.bind_eq_some_iff.1 hy6
       refine HK.yf 12 rfl rfl rfl rfl rfl c21 (by decide) (by decide +kernel) (fun _ _ _ h => h) (opx_indexP rfl Try.underlying25 (by rw [Try.size29]; rfl) rfl rfl (ownO.read (Sep.at (o := ownO (kF .f32) 29 v1 x3) S_40 7 rfl)) hx47) ?_
       intro v43 fv43
       refine HK.yf 13 rfl rfl rfl rfl rfl c21 (by decide) (by decide +kernel) (fun _ _ _ h => h) (opx_loadF rfl Try.one29 rfl fv43 (ownO.read (Sep.at (o := ownO (kF .f32) 29 v1 x3) S_40 7 rfl)) hx47) ?_
       intro v44 fv44
       refine HK.y 14 rfl rfl rfl rfl rfl c21 (by decide) (by decide +kernel) (fun _ _ _ h => h) (opx_move rfl rfl) ?_
       obtain ⟨x48, hx48, hy6⟩ := Option.bind_eq_some_iff.1 hy6
       refine HK.yf 15 rfl rfl rfl rfl rfl c21 (by decide) (by decide +kernel) (fun _ _ _ h => h) (opx_indexP rfl Try.underlying25 (by rw [Try.size29]; rfl) rfl rfl (ownO.read (Sep.at (o := ownO (kF .f32) 29 v27 x31.1) S_40 1 rfl)) hx48) ?_
       intro v45 fv45
       refine HK.yf 16 rfl rfl rfl rfl rfl c21 (by decide) (by decide +kernel) (fun _ _ _ h => h) (opx_loadF rfl Try.one29 rfl fv45 (ownO.read (Sep.at (o := ownO (kF .f32) 29 v27 x31.1) S_40 1 rfl)) hx48) ?_
       intro v46 fv46
       refine HK.sy 17 _ rfl rfl rfl rfl rfl c21 (by decide) (by decide +kernel) (opv_fop rfl rfl rfl rfl fv44 fv46) ?_
       rintro v47 _ ⟨fv47, rfl⟩
       refine ⟨rfl, ?_⟩
       obtain ⟨x49, hx49, hy6⟩ := Option.bind_eq_some_iff.1 hy6
       refine HK.sy 18 _ rfl rfl rfl rfl rfl c21 (by decide) (by decide +kernel) (opv_call (cap := []) (impl_SameNumber_ok _ _ _ fv42 _ _ fv47 _ hx49) rfl rfl ⟨rfl, rfl, trivial⟩ Try.func30 rfl rfl) ?_
       rintro _ _ ⟨rfl, rfl⟩
       refine ⟨rfl, ?_⟩
       refine HK.d 19 rfl rfl rfl (by decide) (by decide +kernel) (fun _ _ _ h => h) (opx_pick rfl rfl (fun _ => rfl) (fun e => absurd (Eq.trans (Eq.symm e) c21) (by decide)) rfl) ?_
       refine HK.d 20 rfl rfl rfl (by decide) (by decide +kernel) (fun _ _ _ h => h) (opx_assign rfl rfl) ?_
       refine HK.done (by decide +kernel) ?_
       have ey6 := Option.some.inj hy6
       subst ey6
       refine onlyN ?_
       exact ⟨⟨rfl, rfl, rfl, rfl, rfl, rfl, rfl, rfl, rfl, rfl, rfl, rfl, rfl, rfl, rfl, rfl, rfl, rfl, rfl, rfl, rfl, rfl, rfl, rfl, rfl, rfl, rfl, rfl, trivial⟩, rfl⟩
      ·rw [if_neg c21] at hy6
       have c21 := eq_false_of_ne_true c21
       refine HK.n 8 rfl rfl rfl rfl rfl c21 (by decide) (by decide +kernel) (fun _ _ _ h => h) ?_
       refine HK.n 9 rfl rfl rfl rfl rfl c21 (by decide) (by decide +kernel) (fun _ _ _ h => h) ?_
       refine HK.n 10 rfl rfl rfl rfl rfl c21 (by decide) (by decide +kernel) (fun _ _ _ h => h) ?_
       refine HK.n 11 rfl rfl rfl rfl rfl c21 (by decide) (by decide +kernel) (fun _ _ _ h => h) ?_
       refine HK.n 12 rfl rfl rfl rfl rfl c21 (by decide) (by decide +kernel) (fun _ _ _ h => h) ?_
       refine HK.n 13 rfl rfl rfl rfl rfl c21 (by decide) (by decide +kernel) (fun _ _ _ h => h) ?_
       refine HK.n 14 rfl rfl rfl rfl rfl c21 (by decide) (by decide +kernel) (fun _ _ _ h => h) ?_
       refine HK.n 15 rfl rfl rfl rfl rfl c21 (by decide) (by decide +kernel) (fun _ _ _ h => h) ?_
       refine HK.n 16 rfl rfl rfl rfl rfl c21 (by decide) (by decide +kernel) (fun _ _ _ h => h) ?_
       refine HK.n 17 rfl rfl rfl rfl rfl c21 (by decide) (by decide +kernel) (fun _ _ _ h => h) ?_
       refine HK.n 18 rfl rfl rfl rfl rfl c21 (by decide) (by decide +kernel) (fun _ _ _ h => h) ?_
       refine HK.d 19 rfl rfl rfl (by decide) (by decide +kernel) (fun _ _ _ h => h) (opx_pick rfl rfl (fun e => absurd (Eq.trans (Eq.symm e) c21) (by decide)) (fun _ => rfl) rfl) ?_
       refine HK.d 20 rfl rfl rfl (by decide) (by decide +kernel) (fun _ _ _ h => h) (opx_assign rfl rfl) ?_
       refine HK.done (by decide +kernel) ?_
       have ey6 := Option.some.inj hy6
       subst ey6
       refine onlyN ?_
       exact ⟨⟨rfl, rfl, rfl, rfl, rfl, rfl, rfl, rfl, rfl, rfl, rfl, rfl, rfl, rfl, rfl, rfl, rfl, rfl, rfl, rfl, rfl, rfl, rfl, rfl, rfl, rfl, rfl, rfl, trivial⟩, rfl⟩
     ·rw [if_neg c20] at hy6
      have c20 := eq_false_of_ne_true c20
      refine HK.n 2 rfl rfl rfl rfl rfl c20 (by decide) (by decide +kernel) (fun _ _ _ h => h) ?_
      refine HK.n 3 rfl rfl rfl rfl rfl c20 (by decide) (by decide +kernel) (fun _ _ _ h => h) ?_
      refine HK.n 4 rfl rfl rfl rfl rfl c20 (by decide) (by decide +kernel) (fun _ _ _ h => h) ?_
      refine HK.n 5 rfl rfl rfl rfl rfl c20 (by decide) (by decide +kernel) (fun _ _ _ h => h) ?_
      refine HK.d 6 rfl rfl rfl (by decide) (by decide +kernel) (fun _ _ _ h => h) (opx_pick rfl rfl (fun e => absurd (Eq.trans (Eq.symm e) c20) (by decide)) (fun _ => rfl) rfl) ?_
      refine HK.d 7 rfl rfl rfl (by decide) (by decide +kernel) (fun _ _ _ h => h) (opx_move rfl rfl) ?_
      refine HK.n 8 rfl rfl rfl rfl rfl rfl (by decide) (by decide +kernel) (fun _ _ _ h => h) ?_
      refine HK.n 9 rfl rfl rfl rfl rfl rfl (by decide) (by decide +kernel) (fun _ _ _ h => h) ?_
      refine HK.n 10 rfl rfl rfl rfl rfl rfl (by decide) (by decide +kernel) (fun _ _ _ h => h) ?_
      refine HK.n 11 rfl rfl rfl rfl rfl rfl (by decide) (by decide +kernel) (fun _ _ _ h => h) ?_
      refine HK.n 12 rfl rfl rfl rfl rfl rfl (by decide) (by decide +kernel) (fun _ _ _ h => h) ?_
      refine HK.n 13 rfl rfl rfl rfl rfl rfl (by decide) (by decide +kernel) (fun _ _ _ h => h) ?_
      refine HK.n 14 rfl rfl rfl rfl rfl rfl (by decide) (by decide +kernel) (fun _ _ _ h => h) ?_
      refine HK.n 15 rfl rfl rfl rfl rfl rfl (by decide) (by decide +kernel) (fun _ _ _ h => h) ?_
      refine HK.n 16 rfl rfl rfl rfl rfl rfl (by decide) (by decide +kernel) (fun _ _ _ h => h) ?_
      refine HK.n 17 rfl rfl rfl rfl rfl rfl (by decide) (by decide +kernel) (fun _ _ _ h => h) ?_
      refine HK.n 18 rfl rfl rfl rfl rfl rfl (by decide) (by decide +kernel) (fun _ _ _ h => h) ?_
      refine HK.d 19 rfl rfl rfl (by decide) (by decide +kernel) (fun _ _ _ h => h) (opx_pick rfl rfl (fun e => absurd (Eq.trans (Eq.symm e) rfl) (by decide)) (fun _ => rfl) rfl) ?_
      refine HK.d 20 rfl rfl rfl (by decide) (by decide +kernel) (fun _ _ _ h => h) (opx_assign rfl rfl) ?_
      refine HK.done (by decide +kernel) ?_
      have ey6 := Option.some.inj hy6
      subst ey6
      refine onlyN ?_
      exact ⟨⟨rfl, rfl, rfl, rfl, rfl, rfl, rfl, rfl, rfl, rfl, rfl, rfl, rfl, rfl, rfl, rfl, rfl, rfl, rfl, rfl, rfl, rfl, rfl, rfl, rfl, rfl, rfl, rfl, trivial⟩, rfl⟩
    rintro φ' _ ⟨hs8, rfl⟩
    refine thnN ?_
    refine W.sub hs8 ?_
    refine W.ret ?_
    have er := Option.some.inj hp
    subst er
    exact Rt.one rfl rfl ⟨rfl, X_30, (Sep.nil _ _ _)⟩

end Go.H
