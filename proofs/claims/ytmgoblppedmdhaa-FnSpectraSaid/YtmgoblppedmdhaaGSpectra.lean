/- Functions of the program: what each computes, as a plain function, and that the call comes to it. Written by a program (wip/gen). -/
import Derived.Test.YtmgoblppedmdhaaGBase
import Derived.Test.YtmgoblppedmdhaaGTrig
import Derived.Test.YtmgoblppedmdhaaGRec
import Derived.Test.YtmgoblppedmdhaaGSpec
import Derived.Test.YtmgoblppedmdhaaGSort
import Derived.Test.YtmgoblppedmdhaaBase25
import Derived.Test.YtmgoblppedmdhaaProg
import Derived.KernelRfl
set_option linter.unusedVariables false
namespace Go.H
open Go Go.Proofs



noncomputable def laws_r8Gap (a0 : Option Nat) (a1 : Option Nat) : Option (Option Nat) :=
 some (fmax .f64 (fop .sub .f64 a0 a1) (fop .sub .f64 a1 a0))

noncomputable def impl_isRecord_complex64 (a0 : List ((Option Nat × Option Nat))) : Option Bool :=
 ((impl_within (a0.length : Int) 1 64).bind fun (x1 : Bool) => some x1)

noncomputable def impl_times (a0 : Option Nat) (a1 : Option Nat) (a2 : Option Nat) (a3 : Option Nat) : Option ((Option Nat) × (Option Nat)) :=
 some (fop .sub .f64 (fop .mul .f64 a0 a2) (fop .mul .f64 a1 a3), fop .add .f64 (fop .mul .f64 a0 a3) (fop .mul .f64 a1 a2))

noncomputable def impl_MulComplex (a0 : (Option Nat × Option Nat)) (a1 : (Option Nat × Option Nat)) : Option (Option Nat × Option Nat) :=
 ((impl_parts a0).bind fun (x1 : ((Option Nat) × (Option Nat))) => ((impl_parts a1).bind fun (x2 : ((Option Nat) × (Option Nat))) => ((impl_times x1.1 x1.2 x2.1 x2.2).bind fun (x3 : ((Option Nat) × (Option Nat))) => ((fcv .f64 .f32 x3.1).bind fun (x4 : Option Nat) => ((fcv .f64 .f32 x3.2).bind fun (x5 : Option Nat) => some (x4, x5))))))

noncomputable def impl_ListOf.s1 (a0 : List ((Option Nat × Option Nat))) (x3 : Int) (x7 : (Option Nat × Option Nat)) (x8 : Int) : Option (((Option Nat × Option Nat) × Int) ⊕ ((Option Nat × Option Nat) × Int × Bool)) :=
 (if (decide (x8 < (a0.length : Int))) = true then ((idx a0 x8).bind fun (x12 : (Option Nat × Option Nat)) => ((impl_share x3 x8 (a0.length : Int)).bind fun (x13 : Option Nat) => ((impl_PhasorOf x13).bind fun (x14 : (Option Nat × Option Nat)) => ((impl_MulComplex x12 x14).bind fun (x15 : (Option Nat × Option Nat)) => ((impl_add x7 x15).bind fun (x16 : (Option Nat × Option Nat)) => some (.inl (x16, IntKind.wrap .i64 (x8 + 1)))))))) else some (.inr (x7, x8, decide (x8 < (a0.length : Int)))))

noncomputable def impl_ListOf.s0 (a0 : List ((Option Nat × Option Nat))) (x2 : List (Option Nat)) (x3 : Int) : Option (((List (Option Nat)) × Int) ⊕ (Int × Bool × (List (Option Nat)))) :=
 (if (decide (x3 < (a0.length : Int))) = true then ((loopF (fun (s : ((Option Nat × Option Nat) × Int)) => impl_ListOf.s1 a0 x3 s.1 s.2) ((some 0, some 0), 0)).bind fun (⟨x9, x10, x11⟩ : ((Option Nat × Option Nat) × Int × Bool)) => (if x2.length + [fop .quo .f32 x9.1 (fofi .f32 (a0.length : Int))].length ≤ 1000000000 then some (.inl (x2 ++ [fop .quo .f32 x9.1 (fofi .f32 (a0.length : Int))], IntKind.wrap .i64 (x3 + 1))) else none)) else some (.inr (x3, decide (x3 < (a0.length : Int)), x2)))

noncomputable def impl_ListOf (a0 : List ((Option Nat × Option Nat))) : Option ((List (Option Nat)) × Bool) :=
 ((impl_isRecord_complex64 a0).bind fun (x1 : Bool) => (if (!x1) = true then some (([] : List (Option Nat)), false) else ((loopF (fun (s : ((List (Option Nat)) × Int)) => impl_ListOf.s0 a0 s.1 s.2) (([] : List (Option Nat)), 0)).bind fun (⟨x4, x5, x6⟩ : (Int × Bool × (List (Option Nat)))) => some (x6, true))))

noncomputable def impl_PowersIn.s0 (a0 : List ((Option Nat × Option Nat))) (x2 : List (Option Nat)) (x3 : Int) : Option (((List (Option Nat)) × Int) ⊕ (Int × Bool × (List (Option Nat)))) :=
 (if (decide (x3 < (a0.length : Int))) = true then ((idx a0 x3).bind fun (x7 : (Option Nat × Option Nat)) => ((impl_PowerOf x7).bind fun (x8 : Option Nat) => (if x2.length + [x8].length ≤ 1000000000 then some (.inl (x2 ++ [x8], IntKind.wrap .i64 (x3 + 1))) else none))) else some (.inr (x3, decide (x3 < (a0.length : Int)), x2)))

noncomputable def impl_PowersIn (a0 : List ((Option Nat × Option Nat))) : Option ((List (Option Nat)) × Bool) :=
 ((impl_isRecord_complex64 a0).bind fun (x1 : Bool) => (if (!x1) = true then some (([] : List (Option Nat)), false) else ((loopF (fun (s : ((List (Option Nat)) × Int)) => impl_PowersIn.s0 a0 s.1 s.2) (([] : List (Option Nat)), 0)).bind fun (⟨x4, x5, x6⟩ : (Int × Bool × (List (Option Nat)))) => some (x6, true))))

noncomputable def impl_ConjugateOf (a0 : (Option Nat × Option Nat)) : Option (Option Nat × Option Nat) :=
 some (a0.1, fneg .f32 a0.2)

noncomputable def impl_StrongBins_1_1 (a0 : Int) (a1 : Int) (ae0_0 : List (Option Nat)) : Option Int :=
 ((idx ae0_0 a0).bind fun (x1 : Option Nat) => ((idx ae0_0 a1).bind fun (x2 : Option Nat) => (((if (fcmp .gtr .f32 x1 x2) = true then some true else (if (fcmp .eql .f32 x1 x1) = true then some (fcmp .neq .f32 x2 x2) else some false)) : Option Bool).bind fun (x3 : Bool) => (if x3 = true then some (-1) else (((if (fcmp .lss .f32 x1 x2) = true then some true else (if (fcmp .neq .f32 x1 x1) = true then some (fcmp .eql .f32 x2 x2) else some false)) : Option Bool).bind fun (x4 : Bool) => (if x4 = true then some 1 else some 0))))))

noncomputable def slices_insertionSortCmpFunc_int64__impl_StrongBins_1_4.s1 (a1 : Int) (ae0_0 : List (Option Nat)) (x6 : Int) (x7 : List (Int)) : Option ((Int × (List (Int))) ⊕ (Int × Bool × (List (Int)))) :=
 (((if (decide (x6 > a1)) = true then ((idx x7 x6).bind fun (x12 : Int) => ((idx x7 (IntKind.wrap .i64 (x6 - 1))).bind fun (x13 : Int) => ((impl_StrongBins_1_1 x12 x13 ae0_0).bind fun (x14 : Int) => some (decide (x14 < 0))))) else some false) : Option Bool).bind fun (x11 : Bool) => (if x11 = true then ((idx x7 (IntKind.wrap .i64 (x6 - 1))).bind fun (x15 : Int) => ((idx x7 x6).bind fun (x16 : Int) => ((idx x7 x6).bind fun (x17 : Int) => ((setF x7 x6 x15).bind fun (x18 : List (Int)) => ((idx x18 (IntKind.wrap .i64 (x6 - 1))).bind fun (x19 : Int) => ((setF x18 (IntKind.wrap .i64 (x6 - 1)) x16).bind fun (x20 : List (Int)) => some (.inl (IntKind.wrap .i64 (x6 - 1), x20)))))))) else some (.inr (x6, x11, x7))))

noncomputable def slices_insertionSortCmpFunc_int64__impl_StrongBins_1_4.s0 (a1 : Int) (a2 : Int) (ae0_0 : List (Option Nat)) (x1 : Int) (x2 : List (Int)) : Option ((Int × (List (Int))) ⊕ (Int × Bool × (List (Int)))) :=
 (if (decide (x1 < a2)) = true then ((loopF (fun (s : (Int × (List (Int)))) => slices_insertionSortCmpFunc_int64__impl_StrongBins_1_4.s1 a1 ae0_0 s.1 s.2) (x1, x2)).bind fun (⟨x8, x9, x10⟩ : (Int × Bool × (List (Int)))) => some (.inl (IntKind.wrap .i64 (x1 + 1), x10))) else some (.inr (x1, decide (x1 < a2), x2)))

noncomputable def slices_insertionSortCmpFunc_int64__impl_StrongBins_1_4 (a0 : List (Int)) (a1 : Int) (a2 : Int) (ae0_0 : List (Option Nat)) : Option ((List (Int)) × (List (Option Nat))) :=
 ((loopF (fun (s : (Int × (List (Int)))) => slices_insertionSortCmpFunc_int64__impl_StrongBins_1_4.s0 a1 a2 ae0_0 s.1 s.2) (IntKind.wrap .i64 (a1 + 1), a0)).bind fun (⟨x3, x4, x5⟩ : (Int × Bool × (List (Int)))) => some (x5, ae0_0))

noncomputable def slices_stableCmpFunc_int64__impl_StrongBins_1_2.s2 (a1 : Int) (x19 : Int) (x20 : Int) : Option ((Int × Int) ⊕ (Int × Int × Bool)) :=
 (if (decide (x20 ≤ a1)) = true then none else some (.inr (x19, x20, decide (x20 ≤ a1))))

noncomputable def slices_stableCmpFunc_int64__impl_StrongBins_1_2.s1 (a1 : Int) (x12 : Int) (x13 : Int) (x14 : Int) : Option ((Int × Int × Int) ⊕ (Int × Int × Int × Bool)) :=
 (if (decide (x12 < a1)) = true then ((loopF (fun (s : (Int × Int)) => slices_stableCmpFunc_int64__impl_StrongBins_1_2.s2 a1 s.1 s.2) (0, IntKind.wrap .i64 (2 * x12))).bind fun (⟨x21, x22, x23⟩ : (Int × Int × Bool)) => (((if (decide ((IntKind.wrap .i64 (x21 + x12)) < a1)) = true then none else some ()) : Option Unit).bind fun _ => some (.inl (IntKind.wrap .i64 (x12 * 2), x21, x22)))) else some (.inr (x12, x13, x14, decide (x12 < a1))))

noncomputable def slices_stableCmpFunc_int64__impl_StrongBins_1_2.s0 (a1 : Int) (x1 : Int) (x2 : Int) (x3 : List (Int)) (x4 : List (Option Nat)) : Option ((Int × Int × (List (Int)) × (List (Option Nat))) ⊕ (Int × Int × Bool × (List (Int)) × (List (Option Nat)))) :=
 (if (decide (x2 ≤ a1)) = true then ((slices_insertionSortCmpFunc_int64__impl_StrongBins_1_4 x3 x1 x2 x4).bind fun (x10 : ((List (Int)) × (List (Option Nat)))) => some (.inl (x2, IntKind.wrap .i64 (x2 + 20), x10.1, x10.2))) else some (.inr (x1, x2, decide (x2 ≤ a1), x3, x4)))

noncomputable def slices_stableCmpFunc_int64__impl_StrongBins_1_2 (a0 : List (Int)) (a1 : Int) (ae0_0 : List (Option Nat)) : Option ((List (Int)) × (List (Option Nat))) :=
 ((loopF (fun (s : (Int × Int × (List (Int)) × (List (Option Nat)))) => slices_stableCmpFunc_int64__impl_StrongBins_1_2.s0 a1 s.1 s.2.1 s.2.2.1 s.2.2.2) (0, 20, a0, ae0_0)).bind fun (⟨x5, x6, x7, x8, x9⟩ : (Int × Int × Bool × (List (Int)) × (List (Option Nat)))) => ((slices_insertionSortCmpFunc_int64__impl_StrongBins_1_4 x8 x5 a1 x9).bind fun (x11 : ((List (Int)) × (List (Option Nat)))) => ((loopF (fun (s : (Int × Int × Int)) => slices_stableCmpFunc_int64__impl_StrongBins_1_2.s1 a1 s.1 s.2.1 s.2.2) (20, x5, x6)).bind fun (⟨x15, x16, x17, x18⟩ : (Int × Int × Int × Bool)) => some (x11.1, x11.2))))

noncomputable def slices_SortStableFunc_int64_int64__impl_StrongBins_1 (a0 : List (Int)) (ae0_0 : List (Option Nat)) : Option ((List (Int)) × (List (Option Nat))) :=
 ((slices_stableCmpFunc_int64__impl_StrongBins_1_2 a0 (a0.length : Int) ae0_0).bind fun (x1 : ((List (Int)) × (List (Option Nat)))) => some (x1.1, x1.2))

noncomputable def impl_StrongBins.s0 (x1 : ((List (Option Nat)) × Bool)) (x4 : List (Int)) (x5 : Int) : Option (((List (Int)) × Int) ⊕ (Int × Bool × (List (Int)))) :=
 (if (decide (x5 < (x1.1.length : Int))) = true then (if x4.length + [x5].length ≤ 1000000000 then some (.inl (x4 ++ [x5], IntKind.wrap .i64 (x5 + 1))) else none) else some (.inr (x5, decide (x5 < (x1.1.length : Int)), x4)))

noncomputable def impl_StrongBins (a0 : List ((Option Nat × Option Nat))) (a1 : Int) : Option ((List (Int)) × Bool) :=
 ((impl_PowersIn a0).bind fun (x1 : ((List (Option Nat)) × Bool)) => (((if (!x1.2) = true then some true else ((impl_within a1 0 64).bind fun (x3 : Bool) => some (!x3))) : Option Bool).bind fun (x2 : Bool) => (if x2 = true then some (([] : List (Int)), false) else ((loopF (fun (s : ((List (Int)) × Int)) => impl_StrongBins.s0 x1 s.1 s.2) (([] : List (Int)), 0)).bind fun (⟨x6, x7, x8⟩ : (Int × Bool × (List (Int)))) => ((slices_SortStableFunc_int64_int64__impl_StrongBins_1 x8 x1.1).bind fun (x9 : ((List (Int)) × (List (Option Nat)))) => ((sub x9.1 0 (imin a1 (x9.1.length : Int))).bind fun (x10 : List (Int)) => ((slices_Sort_I x10).bind fun (x11 : List (Int)) => some (x11, true))))))))

noncomputable def laws_FnSpectra.s1 (x2 : Int) (x6 : ((List (Option Nat)) × Bool)) (x35 : ((List (Int)) × Bool)) (x37 : Bool) (x38 : Int) : Option ((Bool × Int) ⊕ ((Bool × Int × Bool) ⊕ Bool)) :=
 (if (decide (x38 < (IntKind.wrap .i64 (1 + x2)))) = true then ((idx x6.1 x38).bind fun (x42 : Option Nat) => ((idx x35.1 0).bind fun (x43 : Int) => ((idx x6.1 x43).bind fun (x44 : Option Nat) => (if (fcmp .gtr .f32 x42 x44) = true then some (.inr (.inr false)) else some (.inl (x37, IntKind.wrap .i64 (x38 + 1))))))) else some (.inr (.inl (x37, x38, decide (x38 < (IntKind.wrap .i64 (1 + x2)))))))

noncomputable def laws_FnSpectra.s0 (x2 : Int) (x3 : List (Option Nat)) (x4 : ((List ((Option Nat × Option Nat))) × Bool)) (x5 : ((List (Option Nat)) × Bool)) (x6 : ((List (Option Nat)) × Bool)) (x8 : Bool) (x9 : Option Nat) (x10 : Option Nat) (x11 : Option Nat) (x12 : Int) : Option ((Bool × (Option Nat) × (Option Nat) × (Option Nat) × Int) ⊕ ((Bool × (Option Nat) × (Option Nat) × (Option Nat) × Int × Bool) ⊕ Bool)) :=
 (if (decide (x12 < (IntKind.wrap .i64 (1 + x2)))) = true then ((idx x3 x12).bind fun (x19 : Option Nat) => ((idx x3 x12).bind fun (x20 : Option Nat) => ((idx x3 x12).bind fun (x21 : Option Nat) => ((idx x6.1 x12).bind fun (x22 : Option Nat) => ((((idx x5.1 x12).bind fun (x24 : Option Nat) => ((idx x3 x12).bind fun (x25 : Option Nat) => ((laws_r8Gap (wid x24) (wid x25)).bind fun (x26 : Option Nat) => (if (fcmp .gtr .f64 x26 (some 4562254508917369340)) = true then some true else (if (decide (x12 > 0)) = true then ((idx x4.1 (IntKind.wrap .i64 ((IntKind.wrap .i64 (1 + x2)) - x12))).bind fun (x27 : (Option Nat × Option Nat)) => ((idx x4.1 x12).bind fun (x28 : (Option Nat × Option Nat)) => ((impl_ConjugateOf x28).bind fun (x29 : (Option Nat × Option Nat)) => ((laws_r8Apart x27 x29).bind fun (x30 : Option Nat) => some (fcmp .gtr .f64 x30 (some 4562254508917369340)))))) else some false))))) : Option Bool).bind fun (x23 : Bool) => (if x23 = true then some (.inr (.inr false)) else some (.inl (x8, fop .add .f64 x9 (wid x19), fop .add .f64 x10 (fop .mul .f64 (wid x20) (wid x21)), fop .add .f64 x11 (wid x22), IntKind.wrap .i64 (x12 + 1))))))))) else some (.inr (.inl (x8, x9, x10, x11, x12, decide (x12 < (IntKind.wrap .i64 (1 + x2)))))))

noncomputable def laws_FnSpectra (a0 : List (Int)) (a1 : List (Int)) : Option Bool :=
 ((laws_r8Long a0 a1).bind fun (x1 : Bool) => (if x1 = true then some true else ((laws_r8At a1 40 10).bind fun (x2 : Int) => ((spec_R8Record a0 (IntKind.wrap .i64 (1 + x2))).bind fun (x3 : List (Option Nat)) => ((impl_SpectrumOf x3).bind fun (x4 : ((List ((Option Nat × Option Nat))) × Bool)) => ((impl_ListOf x4.1).bind fun (x5 : ((List (Option Nat)) × Bool)) => ((impl_PowersIn x4.1).bind fun (x6 : ((List (Option Nat)) × Bool)) => (((if (!x4.2) = true then some true else (if (!x5.2) = true then some true else (if (!x6.2) = true then some true else (if ((x4.1.length : Int) != (IntKind.wrap .i64 (1 + x2))) = true then some true else (if ((x5.1.length : Int) != (IntKind.wrap .i64 (1 + x2))) = true then some true else some ((x6.1.length : Int) != (IntKind.wrap .i64 (1 + x2)))))))) : Option Bool).bind fun (x7 : Bool) => (if x7 = true then some false else ((loopF (fun (s : (Bool × (Option Nat) × (Option Nat) × (Option Nat) × Int)) => laws_FnSpectra.s0 x2 x3 x4 x5 x6 s.1 s.2.1 s.2.2.1 s.2.2.2.1 s.2.2.2.2) (false, (some 0), (some 0), (some 0), 0)).bind fun (y2 : ((Bool × (Option Nat) × (Option Nat) × (Option Nat) × Int × Bool) ⊕ Bool)) => match y2 with | .inl (x13, x14, x15, x16, x17, x18) => ((((idx x4.1 0).bind fun (x32 : (Option Nat × Option Nat)) => ((laws_r8Gap (wid x32.1) x14).bind fun (x33 : Option Nat) => (if (fcmp .gtr .f64 x33 (some 4562254508917369340)) = true then some true else ((laws_r8Gap x16 (fop .mul .f64 x15 (fofi .f64 (IntKind.wrap .i64 (1 + x2))))).bind fun (x34 : Option Nat) => some (fcmp .gtr .f64 x34 (some 4576918229304087675)))))) : Option Bool).bind fun (x31 : Bool) => (if x31 = true then some false else ((impl_StrongBins x4.1 1).bind fun (x35 : ((List (Int)) × Bool)) => (((if (!x35.2) = true then some true else some ((x35.1.length : Int) != 1)) : Option Bool).bind fun (x36 : Bool) => (if x36 = true then some false else ((loopF (fun (s : (Bool × Int)) => laws_FnSpectra.s1 x2 x6 x35 s.1 s.2) (x13, 0)).bind fun (y6 : ((Bool × Int × Bool) ⊕ Bool)) => match y6 with | .inl (x39, x40, x41) => some true | .inr r1 => some r1)))))) | .inr r2 => some r2))))))))))

set_option maxRecDepth 20000 in
theorem laws_r8Gap_ok (h0 : Heap) (u0 : Value) (a0 : Option Nat) (g0 : IsF .f64 u0 a0) (u1 : Value) (a1 : Option Nat) (g1 : IsF .f64 u1 a1) (r : Option Nat) (hp : laws_r8Gap a0 a1 = some r) : CallsH Try.prog 21 ([u0, u1].toArray ++ [].toArray) h0 (fun v h' => IsF .f64 v r ∧ h0 = h') := by
 unfold laws_r8Gap at hp
 refine callsH_of_W (l := [u0, u1]) (cap := []) 12 Try.func21 rfl rfl rfl ?_
 refine W.seq ?_
 refine W.region ?_
 refine RL.opD (by decide) (opv_assign rfl rfl) ?_
 refine RL.nil ?_
 refine thnN ?_
 refine W.seq ?_
 refine W.region ?_
 refine RL.opD (by decide) (opv_move rfl rfl) ?_
 refine RL.opD (by decide) (opv_move rfl rfl) ?_
 refine RL.opF (by decide) (opv_fop rfl rfl rfl rfl g0 g1) ?_
 intro v1 fv1
 refine RL.opD (by decide) (opv_move rfl rfl) ?_
 refine RL.opD (by decide) (opv_move rfl rfl) ?_
 refine RL.opF (by decide) (opv_fop rfl rfl rfl rfl g1 g0) ?_
 intro v2 fv2
 refine RL.opF (by decide) (opv_fmax rfl rfl rfl fv1 fv2) ?_
 intro v3 fv3
 refine RL.opD (by decide) (opv_assign rfl rfl) ?_
 refine RL.nil ?_
 refine thnN ?_
 refine W.ret ?_
 have er := Option.some.inj hp
 subst er
 exact Rt.one rfl rfl ⟨fv3, rfl⟩

set_option maxRecDepth 20000 in
theorem impl_isRecord_complex64_ok (h0 : Heap) (u0 : Value) (a0 : List ((Option Nat × Option Nat))) (g0 : SL (kC .f32) h0.size h0 u0 a0) (r : Bool) (hp : impl_isRecord_complex64 a0 = some r) : CallsH Try.prog 92 ([u0].toArray ++ [].toArray) h0 (fun v h' => v = (.bool r) ∧ h0 = h') := by
 unfold impl_isRecord_complex64 at hp
 refine callsH_of_W (l := [u0]) (cap := []) 6 Try.func92 rfl rfl rfl ?_
 refine W.seq ?_
 refine W.region ?_
 refine RL.opD (by decide) (opv_assign rfl rfl) ?_
 refine RL.nil ?_
 refine thnN ?_
 refine W.seq ?_
 refine W.region ?_
 refine RL.opD (by decide) (opv_move rfl rfl) ?_
 refine RL.opD (by decide) (opv_len rfl Try.underlying59 rfl g0) ?_
 obtain ⟨x1, hx1, hp⟩ := Option.bind_eq_some_iff.1 hp
 refine RL.op _ (by decide) (opv_call (cap := []) (impl_within_ok _ _ _ _ _ hx1) rfl rfl ⟨rfl, rfl, rfl, trivial⟩ Try.func71 rfl rfl) ?_
 rintro _ _ ⟨rfl, rfl⟩
 refine RL.opD (by decide) (opv_assign rfl rfl) ?_
 refine RL.nil ?_
 refine thnN ?_
 refine W.ret ?_
 have er := Option.some.inj hp
 subst er
 exact Rt.one rfl rfl ⟨rfl, rfl⟩

set_option maxRecDepth 20000 in
theorem impl_times_ok (h0 : Heap) (u0 : Value) (a0 : Option Nat) (g0 : IsF .f64 u0 a0) (u1 : Value) (a1 : Option Nat) (g1 : IsF .f64 u1 a1) (u2 : Value) (a2 : Option Nat) (g2 : IsF .f64 u2 a2) (u3 : Value) (a3 : Option Nat) (g3 : IsF .f64 u3 a3) (r : ((Option Nat) × (Option Nat))) (hp : impl_times a0 a1 a2 a3 = some r) : CallsH Try.prog 150 ([u0, u1, u2, u3].toArray ++ [].toArray) h0 (fun v h' => ∃ w0, ∃ w1, v = (.tuple (List.toArray (α := Value) [w0, w1])) ∧ IsF .f64 w0 r.1 ∧ IsF .f64 w1 r.2 ∧ h0 = h') := by
 unfold impl_times at hp
 refine callsH_of_W (l := [u0, u1, u2, u3]) (cap := []) 24 Try.func150 rfl rfl rfl ?_
 refine W.seq ?_
 refine W.region ?_
 refine RL.opD (by decide) (opv_assign rfl rfl) ?_
 refine RL.opD (by decide) (opv_assign rfl rfl) ?_
 refine RL.nil ?_
 refine thnN ?_
 refine W.seq ?_
 refine W.region ?_
 refine RL.opD (by decide) (opv_move rfl rfl) ?_
 refine RL.opD (by decide) (opv_move rfl rfl) ?_
 refine RL.opF (by decide) (opv_fop rfl rfl rfl rfl g0 g2) ?_
 intro v1 fv1
 refine RL.opD (by decide) (opv_move rfl rfl) ?_
 refine RL.opD (by decide) (opv_move rfl rfl) ?_
 refine RL.opF (by decide) (opv_fop rfl rfl rfl rfl g1 g3) ?_
 intro v2 fv2
 refine RL.opF (by decide) (opv_fop rfl rfl rfl rfl fv1 fv2) ?_
 intro v3 fv3
 refine RL.opD (by decide) (opv_move rfl rfl) ?_
 refine RL.opD (by decide) (opv_move rfl rfl) ?_
 refine RL.opF (by decide) (opv_fop rfl rfl rfl rfl g0 g3) ?_
 intro v4 fv4
 refine RL.opD (by decide) (opv_move rfl rfl) ?_
 refine RL.opD (by decide) (opv_move rfl rfl) ?_
 refine RL.opF (by decide) (opv_fop rfl rfl rfl rfl g1 g2) ?_
 intro v5 fv5
 refine RL.opF (by decide) (opv_fop rfl rfl rfl rfl fv4 fv5) ?_
 intro v6 fv6
 refine RL.opD (by decide) (opv_assign rfl rfl) ?_
 refine RL.opD (by decide) (opv_assign rfl rfl) ?_
 refine RL.nil ?_
 refine thnN ?_
 refine W.ret ?_
 have er := Option.some.inj hp
 subst er
 exact Rt.two rfl rfl rfl ⟨v3, v6, rfl, fv3, fv6, rfl⟩

set_option maxRecDepth 20000 in
theorem impl_MulComplex_ok (h0 : Heap) (u0 : Value) (a0 : (Option Nat × Option Nat)) (g0 : IsC .f32 u0 a0) (u1 : Value) (a1 : (Option Nat × Option Nat)) (g1 : IsC .f32 u1 a1) (r : (Option Nat × Option Nat)) (hp : impl_MulComplex a0 a1 = some r) : CallsH Try.prog 123 ([u0, u1].toArray ++ [].toArray) h0 (fun v h' => IsC .f32 v r ∧ h0 = h') := by
 unfold impl_MulComplex at hp
 refine callsH_of_W (l := [u0, u1]) (cap := []) 34 Try.func123 rfl rfl rfl ?_
 refine W.seq ?_
 refine W.region ?_
 refine RL.opD (by decide) (opv_assign rfl rfl) ?_
 refine RL.nil ?_
 refine thnN ?_
 refine W.seq ?_
 refine W.region ?_
 refine RL.opD (by decide) (opv_move rfl rfl) ?_
 obtain ⟨x1, hx1, hp⟩ := Option.bind_eq_some_iff.1 hp
 refine RL.op _ (by decide) (opv_call (cap := []) (impl_parts_ok _ _ _ g0 _ hx1) rfl rfl ⟨rfl, trivial⟩ Try.func149 rfl rfl) ?_
 rintro _ _ ⟨v1, v2, rfl, fv1, fv2, rfl⟩
 refine RL.opD (by decide) (opv_move rfl rfl) ?_
 refine RL.opD (by decide) (opv_extract rfl rfl rfl) ?_
 refine RL.opD (by decide) (opv_extract rfl rfl rfl) ?_
 refine RL.opD (by decide) (opv_assign rfl rfl) ?_
 refine RL.opD (by decide) (opv_assign rfl rfl) ?_
 refine RL.nil ?_
 refine thnN ?_
 refine W.seq ?_
 refine W.region ?_
 refine RL.opD (by decide) (opv_move rfl rfl) ?_
 obtain ⟨x2, hx2, hp⟩ := Option.bind_eq_some_iff.1 hp
 refine RL.op _ (by decide) (opv_call (cap := []) (impl_parts_ok _ _ _ g1 _ hx2) rfl rfl ⟨rfl, trivial⟩ Try.func149 rfl rfl) ?_
 rintro _ _ ⟨v3, v4, rfl, fv3, fv4, rfl⟩
 refine RL.opD (by decide) (opv_move rfl rfl) ?_
 refine RL.opD (by decide) (opv_extract rfl rfl rfl) ?_
 refine RL.opD (by decide) (opv_extract rfl rfl rfl) ?_
 refine RL.opD (by decide) (opv_assign rfl rfl) ?_
 refine RL.opD (by decide) (opv_assign rfl rfl) ?_
 refine RL.nil ?_
 refine thnN ?_
 refine W.seq ?_
 refine W.region ?_
 refine RL.opD (by decide) (opv_move rfl rfl) ?_
 refine RL.opD (by decide) (opv_move rfl rfl) ?_
 refine RL.opD (by decide) (opv_move rfl rfl) ?_
 refine RL.opD (by decide) (opv_move rfl rfl) ?_
 obtain ⟨x3, hx3, hp⟩ := Option.bind_eq_some_iff.1 hp
 refine RL.op _ (by decide) (opv_call (cap := []) (impl_times_ok _ _ _ fv1 _ _ fv2 _ _ fv3 _ _ fv4 _ hx3) rfl rfl ⟨rfl, rfl, rfl, rfl, trivial⟩ Try.func150 rfl rfl) ?_
 rintro _ _ ⟨v5, v6, rfl, fv5, fv6, rfl⟩
 refine RL.opD (by decide) (opv_move rfl rfl) ?_
 refine RL.opD (by decide) (opv_extract rfl rfl rfl) ?_
 refine RL.opD (by decide) (opv_extract rfl rfl rfl) ?_
 refine RL.opD (by decide) (opv_assign rfl rfl) ?_
 refine RL.opD (by decide) (opv_assign rfl rfl) ?_
 refine RL.nil ?_
 refine thnN ?_
 refine W.seq ?_
 refine W.region ?_
 refine RL.opD (by decide) (opv_move rfl rfl) ?_
 obtain ⟨x4, hx4, hp⟩ := Option.bind_eq_some_iff.1 hp
 refine RL.opF (by decide) (opv_f2f rfl (by rw [Try.underlying43]; rfl) Try.underlying29 (by decide) rfl fv5 hx4) ?_
 intro v7 fv7
 refine RL.opD (by decide) (opv_move rfl rfl) ?_
 obtain ⟨x5, hx5, hp⟩ := Option.bind_eq_some_iff.1 hp
 refine RL.opF (by decide) (opv_f2f rfl (by rw [Try.underlying43]; rfl) Try.underlying29 (by decide) rfl fv6 hx5) ?_
 intro v8 fv8
 refine RL.op _ (by decide) (opv_complex rfl rfl rfl fv7 fv8) ?_
 rintro v9 _ ⟨fv9, rfl⟩
 refine RL.opD (by decide) (opv_assign rfl rfl) ?_
 refine RL.nil ?_
 refine thnN ?_
 refine W.ret ?_
 have er := Option.some.inj hp
 subst er
 exact Rt.one rfl rfl ⟨fv9, rfl⟩

set_option maxRecDepth 20000 in
theorem impl_ListOf_ok (h0 : Heap) (u0 : Value) (a0 : List ((Option Nat × Option Nat))) (g0 : SL (kC .f32) h0.size h0 u0 a0) (r : ((List (Option Nat)) × Bool)) (hp : impl_ListOf a0 = some r) : CallsH Try.prog 59 ([u0].toArray ++ [].toArray) h0 (fun v h' => ∃ w0, v = (.tuple (List.toArray (α := Value) [w0, (.bool r.2)])) ∧ Mod [] h0 h' ∧ Sep [] h0.size h' [ownO (kF .f32) 29 w0 r.1]) := by
 unfold impl_ListOf at hp
 refine callsH_of_W (l := [u0]) (cap := []) 47 Try.func59 rfl rfl rfl ?_
 refine W.seq ?_
 refine W.region ?_
 refine RL.opD (by decide) (opv_assign rfl rfl) ?_
 have S_1 : Sep [] h0.size h0 [ownO (kF .f32) 29 (.slice none 0 0) ([] : List (Option Nat))] := Sep.addNil (Sep.nil [] h0.size h0)
 refine RL.opD (by decide) (opv_assign rfl rfl) ?_
 refine RL.nil ?_
 refine thnN ?_
 refine W.seq ?_
 refine W.seq ?_
 refine W.region ?_
 refine RL.opD (by decide) (opv_move rfl rfl) ?_
 obtain ⟨x1, hx1, hp⟩ := Option.bind_eq_some_iff.1 hp
 refine RL.op _ (by decide) (opv_call (cap := []) (impl_isRecord_complex64_ok _ _ _ g0 _ hx1) rfl rfl ⟨rfl, trivial⟩ Try.func92 rfl rfl) ?_
 rintro _ _ ⟨rfl, rfl⟩
 refine RL.opD (by decide) (opv_not rfl rfl) ?_
 refine RL.nil ?_
 refine thnN ?_
 by_cases c1 : (!x1) = true
 ·rw [if_pos c1] at hp
  refine W.condT rfl c1 ?_
  refine W.seq ?_
  refine W.region ?_
  refine RL.opD (by decide) (opv_assign rfl rfl) ?_
  have S_2 : Sep [] h0.size h0 [ownO (kF .f32) 29 (.slice none 0 0) ([] : List (Option Nat)), ownO (kF .f32) 29 (.slice none 0 0) ([] : List (Option Nat))] := Sep.addNil S_1
  refine RL.opD (by decide) (opv_assign rfl rfl) ?_
  refine RL.nil ?_
  refine thnN ?_
  refine W.ret ?_
  refine thnR ?_
  have er := Option.some.inj hp
  subst er
  exact Rt.two rfl rfl rfl ⟨(.slice none 0 0), rfl, (Mod.refl [] h0), (Sep.sel S_2 [0] (by decide))⟩
 ·rw [if_neg c1] at hp
  have c1 := eq_false_of_ne_true c1
  refine W.condF rfl c1 ?_
  refine W.skip ?_
  refine thnN ?_
  refine W.seq ?_
  refine W.region ?_
  refine RL.op _ (by decide) (opS_lit0 (K := (kF .f32)) rfl Try.underlying25 Try.isinfo29) ?_
  rintro v1 hp1 ⟨MT_1, T_1⟩
  obtain ⟨X_1, S_3⟩ := Sep.turn0 (Mod.refl [] h0) S_1 MT_1 T_1
  refine RL.opD (by decide) (opv_move rfl rfl) ?_
  refine RL.opD (by decide) (opv_len rfl Try.underlying59 rfl (SL.mod g0 X_1 (Nat.le_refl _) nob)) ?_
  refine RL.opD (by decide) (opv_assign rfl rfl) ?_
  refine RL.opD (by decide) (opv_assign rfl rfl) ?_
  refine RL.nil ?_
  refine thnN ?_
  refine W.seq ?_
  refine W.seq ?_
  refine W.region ?_
  refine RL.opD (by decide) (opv_move rfl rfl) ?_
  refine RL.opD (by decide) (opv_move rfl rfl) ?_
  refine RL.nil ?_
  refine thnN ?_
  obtain ⟨y1, hy1, hp⟩ := Option.bind_eq_some_iff.1 hp
  refine W.cut (fun φ' h' => ∃ x4, ∃ x5, ∃ x6, ∃ v3, y1 = (x4, x5, x6) ∧ Fr.sub [(0, u0), (2, (.slice none 0 0)), (3, (.bool false)), (12, (.bool (!x1))), (5, (.int .i64 (a0.length : Int))), (16, (.int .i64 (a0.length : Int))), (17, (.int .i64 x4)), (18, (.bool x5)), (4, v3)] φ' ∧ Mod [] h0 h' ∧ Sep [] h0.size h' [ownO (kF .f32) 29 (.slice none 0 0) ([] : List (Option Nat)), ownO (kF .f32) 29 v3 x6]) ?_ ?_
  ·refine W.block ?_
   refine W.loopS (fun (s : ((List (Option Nat)) × Int)) φ' h' => ∃ v2, Fr.sub [(0, u0), (2, (.slice none 0 0)), (3, (.bool false)), (12, (.bool (!x1))), (5, (.int .i64 (a0.length : Int))), (16, (.int .i64 (a0.length : Int))), (4, v2), (17, (.int .i64 s.2))] φ' ∧ Mod [] h0 h' ∧ Sep [] h0.size h' [ownO (kF .f32) 29 v2 s.1, ownO (kF .f32) 29 (.slice none 0 0) ([] : List (Option Nat))]) hy1 ⟨v1, ⟨rfl, rfl, rfl, rfl, rfl, rfl, rfl, rfl, trivial⟩, X_1, (Sep.sel S_3 [0, 1] (by decide))⟩ ?_
   rintro ⟨x2, x3⟩ φ' hp2 o1 ⟨v2, hs1, X_2, S_4⟩ ho1 hy1
   have hs1 : Fr.sub [(0, u0), (2, (.slice none 0 0)), (3, (.bool false)), (12, (.bool (!x1))), (5, (.int .i64 (a0.length : Int))), (16, (.int .i64 (a0.length : Int))), (4, v2), (17, (.int .i64 x3))] φ' := hs1
   have S_4 : Sep [] h0.size hp2 [ownO (kF .f32) 29 v2 x2, ownO (kF .f32) 29 (.slice none 0 0) ([] : List (Option Nat))] := S_4
   have ho1 : impl_ListOf.s0 a0 x2 x3 = some o1 := ho1
   unfold impl_ListOf.s0 at ho1
   refine W.sub hs1 ?_
   refine W.seq ?_
   refine W.region ?_
   refine RL.opD (by decide) (opv_icmp rfl rfl rfl rfl) ?_
   refine RL.nil ?_
   refine thnN ?_
   refine W.seq ?_
   by_cases c2 : (decide (x3 < (a0.length : Int))) = true
   ·rw [if_pos c2] at ho1
    refine W.condT rfl c2 ?_
    refine W.skip ?_
    refine thnN ?_
    refine W.seq ?_
    refine W.block ?_
    refine W.seq ?_
    refine W.region ?_
    refine RL.opD (by decide) (opv_move rfl rfl) ?_
    refine RL.opD (by decide) (opv_assign rfl rfl) ?_
    refine RL.nil ?_
    refine thnN ?_
    refine W.seq ?_
    refine W.region ?_
    refine RL.opD (by decide) (opv_assign rfl rfl) ?_
    refine RL.nil ?_
    refine thnN ?_
    refine W.seq ?_
    refine W.seq ?_
    refine W.region ?_
    refine RL.opD (by decide) (opv_move rfl rfl) ?_
    refine RL.opD (by decide) (opv_len rfl Try.underlying59 rfl (SL.mod g0 X_2 (Nat.le_refl _) nob)) ?_
    refine RL.opD (by decide) (opv_move rfl rfl) ?_
    refine RL.nil ?_
    refine thnN ?_
    obtain ⟨y2, hy2, ho1⟩ := Option.bind_eq_some_iff.1 ho1
    refine W.cut (fun φ' h' => ∃ x9, ∃ x10, ∃ x11, ∃ v5, y2 = (x9, x10, x11) ∧ Fr.sub [(0, u0), (2, (.slice none 0 0)), (3, (.bool false)), (12, (.bool (!x1))), (5, (.int .i64 (a0.length : Int))), (16, (.int .i64 (a0.length : Int))), (4, v2), (17, (.int .i64 x3)), (18, (.bool (decide (x3 < (a0.length : Int))))), (6, (.int .i64 x3)), (20, u0), (21, (.int .i64 (a0.length : Int))), (7, v5), (22, (.int .i64 x10)), (23, (.bool x11))] φ' ∧ IsC .f32 v5 x9 ∧ hp2 = h') ?_ ?_
    ·refine W.block ?_
     refine W.loopS (fun (s : ((Option Nat × Option Nat) × Int)) φ' h' => ∃ v4, Fr.sub [(0, u0), (2, (.slice none 0 0)), (3, (.bool false)), (12, (.bool (!x1))), (5, (.int .i64 (a0.length : Int))), (16, (.int .i64 (a0.length : Int))), (4, v2), (17, (.int .i64 x3)), (18, (.bool (decide (x3 < (a0.length : Int))))), (6, (.int .i64 x3)), (20, u0), (21, (.int .i64 (a0.length : Int))), (7, v4), (22, (.int .i64 s.2))] φ' ∧ IsC .f32 v4 s.1 ∧ hp2 = h') hy2 ⟨(.complex .f32 0 0), ⟨rfl, rfl, rfl, rfl, rfl, rfl, rfl, rfl, rfl, rfl, rfl, rfl, rfl, rfl, trivial⟩, (isC_lit .f32 0 0 (by decide) (by decide) (by decide) (by decide)), rfl⟩ ?_
     rintro ⟨x7, x8⟩ φ' _ o2 ⟨v4, hs3, fv4, rfl⟩ ho2 hy2
     have hs3 : Fr.sub [(0, u0), (2, (.slice none 0 0)), (3, (.bool false)), (12, (.bool (!x1))), (5, (.int .i64 (a0.length : Int))), (16, (.int .i64 (a0.length : Int))), (4, v2), (17, (.int .i64 x3)), (18, (.bool (decide (x3 < (a0.length : Int))))), (6, (.int .i64 x3)), (20, u0), (21, (.int .i64 (a0.length : Int))), (7, v4), (22, (.int .i64 x8))] φ' := hs3
     have fv4 : IsC .f32 v4 x7 := fv4
     have ho2 : impl_ListOf.s1 a0 x3 x7 x8 = some o2 := ho2
     unfold impl_ListOf.s1 at ho2
     refine W.sub hs3 ?_
     refine W.seq ?_
     refine W.region ?_
     refine RL.opD (by decide) (opv_icmp rfl rfl rfl rfl) ?_
     refine RL.nil ?_
     refine thnN ?_
     refine W.seq ?_
     by_cases c3 : (decide (x8 < (a0.length : Int))) = true
     ·rw [if_pos c3] at ho2
      refine W.condT rfl c3 ?_
      refine W.skip ?_
      refine thnN ?_
      refine W.seq ?_
      refine W.block ?_
      refine W.seq ?_
      refine W.region ?_
      refine RL.opD (by decide) (opv_move rfl rfl) ?_
      obtain ⟨x12, hx12, ho2⟩ := Option.bind_eq_some_iff.1 ho2
      refine RL.op _ (by decide) (opv_index rfl Try.underlying59 (by rw [Try.size45]; rfl) rfl rfl (SL.mod g0 X_2 (Nat.le_refl _) nob) hx12) ?_
      rintro v6 _ ⟨fv6, rfl⟩
      refine RL.op _ (by decide) (opv_loadC rfl Try.one45 rfl fv6 (SL.mod g0 X_2 (Nat.le_refl _) nob) hx12) ?_
      rintro v7 _ ⟨fv7, rfl⟩
      refine RL.opD (by decide) (opv_assign rfl rfl) ?_
      refine RL.opD (by decide) (opv_assign rfl rfl) ?_
      refine RL.nil ?_
      refine thnN ?_
      refine W.region ?_
      refine RL.opD (by decide) (opv_move rfl rfl) ?_
      refine RL.opD (by decide) (opv_move rfl rfl) ?_
      refine RL.opD (by decide) (opv_move rfl rfl) ?_
      refine RL.opD (by decide) (opv_move rfl rfl) ?_
      refine RL.opD (by decide) (opv_move rfl rfl) ?_
      obtain ⟨x13, hx13, ho2⟩ := Option.bind_eq_some_iff.1 ho2
      refine RL.op _ (by decide) (opv_call (cap := []) (impl_share_ok _ _ _ _ _ hx13) rfl rfl ⟨rfl, rfl, rfl, trivial⟩ Try.func91 rfl rfl) ?_
      rintro v8 _ ⟨fv8, rfl⟩
      obtain ⟨x14, hx14, ho2⟩ := Option.bind_eq_some_iff.1 ho2
      refine RL.op _ (by decide) (opv_call (cap := []) (impl_PhasorOf_ok _ _ _ fv8 _ hx14) rfl rfl ⟨rfl, trivial⟩ Try.func90 rfl rfl) ?_
      rintro v9 _ ⟨fv9, rfl⟩
      obtain ⟨x15, hx15, ho2⟩ := Option.bind_eq_some_iff.1 ho2
      refine RL.op _ (by decide) (opv_call (cap := []) (impl_MulComplex_ok _ _ _ fv7 _ _ fv9 _ hx15) rfl rfl ⟨rfl, rfl, trivial⟩ Try.func123 rfl rfl) ?_
      rintro v10 _ ⟨fv10, rfl⟩
      obtain ⟨x16, hx16, ho2⟩ := Option.bind_eq_some_iff.1 ho2
      refine RL.op _ (by decide) (opv_call (cap := []) (impl_add_ok _ _ _ fv4 _ _ fv10 _ hx16) rfl rfl ⟨rfl, rfl, trivial⟩ Try.func83 rfl rfl) ?_
      rintro v11 _ ⟨fv11, rfl⟩
      refine RL.opD (by decide) (opv_assign rfl rfl) ?_
      refine RL.nil ?_
      refine blkN ?_
      refine thnN ?_
      refine W.region ?_
      refine RL.opD (by decide) (opv_add rfl rfl rfl) ?_
      refine RL.opD (by decide) (opv_move rfl rfl) ?_
      refine RL.nil ?_
      have eo2 := Option.some.inj ho2
      subst eo2
      refine rndN (s' := (x16, IntKind.wrap .i64 (x8 + 1))) rfl ?_
      exact ⟨v11, ⟨rfl, rfl, rfl, rfl, rfl, rfl, rfl, rfl, rfl, rfl, rfl, rfl, rfl, rfl, trivial⟩, fv11, rfl⟩
     ·rw [if_neg c3] at ho2
      have c3 := eq_false_of_ne_true c3
      refine W.condF rfl c3 ?_
      refine W.exit ?_
      refine thnX ?_
      refine rndX ?_
      refine blkI ?_
      have eo2 := Option.some.inj ho2
      subst eo2
      have ey2 := hy2 _ rfl
      subst ey2
      refine onlyN ?_
      exact ⟨x7, x8, decide (x8 < (a0.length : Int)), v4, rfl, ⟨rfl, rfl, rfl, rfl, rfl, rfl, rfl, rfl, rfl, rfl, rfl, rfl, rfl, rfl, rfl, trivial⟩, fv4, rfl⟩
    rintro φ' _ ⟨x9, x10, x11, v5, rfl, hs4, fv5, rfl⟩
    try dsimp only at ho1
    refine thnN ?_
    refine W.sub hs4 ?_
    refine W.region ?_
    refine RL.opD (by decide) (opv_move rfl rfl) ?_
    refine RL.opD (by decide) (opv_move rfl rfl) ?_
    refine RL.opF (by decide) (opv_real rfl rfl fv5) ?_
    intro v12 fv12
    refine RL.opD (by decide) (opv_move rfl rfl) ?_
    refine RL.opF (by decide) (opv_i2f rfl (by rw [Try.underlying3]; rfl) Try.underlying29 rfl) ?_
    intro v13 fv13
    refine RL.opF (by decide) (opv_fop rfl rfl rfl rfl fv12 fv13) ?_
    intro v14 fv14
    refine RL.op _ (by decide) (opS_lit1 (K := (kF .f32)) (z := (fop .quo .f32 x9.1 (fofi .f32 (a0.length : Int)))) rfl Try.underlying25 Try.einfo29 rfl rfl rfl rfl ⟨_, rfl, fv14⟩) ?_
    rintro v15 hp3 ⟨MT_2, T_2⟩
    obtain ⟨X_3, S_5⟩ := Sep.turn0 X_2 S_4 MT_2 T_2
    obtain ⟨c4, ho1⟩ := of_ite ho1
    refine RL.op _ (by decide) (opS_append (K := (kF .f32)) rfl Try.underlying25 Try.einfo29 rfl rfl rfl rfl (Sep.at (o := ownO (kF .f32) 29 v2 x2) S_5 1 rfl) (ownO.read (Sep.at (o := ownO (kF .f32) 29 v15 [fop .quo .f32 x9.1 (fofi .f32 (a0.length : Int))]) S_5 0 rfl)) (by decide) (by decide) c4) ?_
    rintro v16 hp4 ⟨MT_3, T_3⟩
    have S_6 : Sep [] h0.size hp3 ([ownO (kF .f32) 29 v2 x2] ++ [ownO (kF .f32) 29 v15 [fop .quo .f32 x9.1 (fofi .f32 (a0.length : Int))], ownO (kF .f32) 29 (.slice none 0 0) ([] : List (Option Nat))]) := Sep.sel S_5 [1, 0, 2] (by decide)
    obtain ⟨X_4, S_7⟩ := Sep.turn X_3 S_6 MT_3 T_3
    refine RL.opD (by decide) (opv_assign rfl rfl) ?_
    refine RL.nil ?_
    refine blkN ?_
    refine thnN ?_
    refine W.region ?_
    refine RL.opD (by decide) (opv_add rfl rfl rfl) ?_
    refine RL.opD (by decide) (opv_move rfl rfl) ?_
    refine RL.nil ?_
    have eo1 := Option.some.inj ho1
    subst eo1
    refine rndN (s' := (x2 ++ [fop .quo .f32 x9.1 (fofi .f32 (a0.length : Int))], IntKind.wrap .i64 (x3 + 1))) rfl ?_
    exact ⟨v16, ⟨rfl, rfl, rfl, rfl, rfl, rfl, rfl, rfl, trivial⟩, X_4, (Sep.sel S_7 [0, 2] (by decide))⟩
   ·rw [if_neg c2] at ho1
    have c2 := eq_false_of_ne_true c2
    refine W.condF rfl c2 ?_
    refine W.exit ?_
    refine thnX ?_
    refine rndX ?_
    refine blkI ?_
    have eo1 := Option.some.inj ho1
    subst eo1
    have ey1 := hy1 _ rfl
    subst ey1
    refine onlyN ?_
    exact ⟨x3, decide (x3 < (a0.length : Int)), x2, v2, rfl, ⟨rfl, rfl, rfl, rfl, rfl, rfl, rfl, rfl, rfl, trivial⟩, X_2, (Sep.sel S_4 [1, 0] (by decide))⟩
  rintro φ' hp5 ⟨x4, x5, x6, v3, rfl, hs2, X_5, S_8⟩
  try dsimp only at hp
  refine thnN ?_
  refine W.sub hs2 ?_
  refine W.seq ?_
  refine W.region ?_
  refine RL.opD (by decide) (opv_move rfl rfl) ?_
  refine RL.opD (by decide) (opv_assign rfl rfl) ?_
  refine RL.opD (by decide) (opv_assign rfl rfl) ?_
  refine RL.nil ?_
  refine thnN ?_
  refine W.ret ?_
  have er := Option.some.inj hp
  subst er
  exact Rt.two rfl rfl rfl ⟨v3, rfl, X_5, (Sep.sel S_8 [1] (by decide))⟩

set_option maxRecDepth 20000 in
theorem impl_PowersIn_ok (h0 : Heap) (u0 : Value) (a0 : List ((Option Nat × Option Nat))) (g0 : SL (kC .f32) h0.size h0 u0 a0) (r : ((List (Option Nat)) × Bool)) (hp : impl_PowersIn a0 = some r) : CallsH Try.prog 60 ([u0].toArray ++ [].toArray) h0 (fun v h' => ∃ w0, v = (.tuple (List.toArray (α := Value) [w0, (.bool r.2)])) ∧ Mod [] h0 h' ∧ Sep [] h0.size h' [ownO (kF .f32) 29 w0 r.1]) := by
 unfold impl_PowersIn at hp
 refine callsH_of_W (l := [u0]) (cap := []) 24 Try.func60 rfl rfl rfl ?_
 refine W.seq ?_
 refine W.region ?_
 refine RL.opD (by decide) (opv_assign rfl rfl) ?_
 have S_1 : Sep [] h0.size h0 [ownO (kF .f32) 29 (.slice none 0 0) ([] : List (Option Nat))] := Sep.addNil (Sep.nil [] h0.size h0)
 refine RL.opD (by decide) (opv_assign rfl rfl) ?_
 refine RL.nil ?_
 refine thnN ?_
 refine W.seq ?_
 refine W.seq ?_
 refine W.region ?_
 refine RL.opD (by decide) (opv_move rfl rfl) ?_
 obtain ⟨x1, hx1, hp⟩ := Option.bind_eq_some_iff.1 hp
 refine RL.op _ (by decide) (opv_call (cap := []) (impl_isRecord_complex64_ok _ _ _ g0 _ hx1) rfl rfl ⟨rfl, trivial⟩ Try.func92 rfl rfl) ?_
 rintro _ _ ⟨rfl, rfl⟩
 refine RL.opD (by decide) (opv_not rfl rfl) ?_
 refine RL.nil ?_
 refine thnN ?_
 by_cases c1 : (!x1) = true
 ·rw [if_pos c1] at hp
  refine W.condT rfl c1 ?_
  refine W.seq ?_
  refine W.region ?_
  refine RL.opD (by decide) (opv_assign rfl rfl) ?_
  have S_2 : Sep [] h0.size h0 [ownO (kF .f32) 29 (.slice none 0 0) ([] : List (Option Nat)), ownO (kF .f32) 29 (.slice none 0 0) ([] : List (Option Nat))] := Sep.addNil S_1
  refine RL.opD (by decide) (opv_assign rfl rfl) ?_
  refine RL.nil ?_
  refine thnN ?_
  refine W.ret ?_
  refine thnR ?_
  have er := Option.some.inj hp
  subst er
  exact Rt.two rfl rfl rfl ⟨(.slice none 0 0), rfl, (Mod.refl [] h0), (Sep.sel S_2 [0] (by decide))⟩
 ·rw [if_neg c1] at hp
  have c1 := eq_false_of_ne_true c1
  refine W.condF rfl c1 ?_
  refine W.skip ?_
  refine thnN ?_
  refine W.seq ?_
  refine W.region ?_
  refine RL.op _ (by decide) (opS_lit0 (K := (kF .f32)) rfl Try.underlying25 Try.isinfo29) ?_
  rintro v1 hp1 ⟨MT_1, T_1⟩
  obtain ⟨X_1, S_3⟩ := Sep.turn0 (Mod.refl [] h0) S_1 MT_1 T_1
  refine RL.opD (by decide) (opv_assign rfl rfl) ?_
  refine RL.nil ?_
  refine thnN ?_
  refine W.seq ?_
  refine W.seq ?_
  refine W.region ?_
  refine RL.opD (by decide) (opv_move rfl rfl) ?_
  refine RL.opD (by decide) (opv_len rfl Try.underlying59 rfl (SL.mod g0 X_1 (Nat.le_refl _) nob)) ?_
  refine RL.opD (by decide) (opv_move rfl rfl) ?_
  refine RL.nil ?_
  refine thnN ?_
  obtain ⟨y1, hy1, hp⟩ := Option.bind_eq_some_iff.1 hp
  refine W.cut (fun φ' h' => ∃ x4, ∃ x5, ∃ x6, ∃ v3, y1 = (x4, x5, x6) ∧ Fr.sub [(0, u0), (2, (.slice none 0 0)), (3, (.bool false)), (9, (.bool (!x1))), (11, u0), (12, (.int .i64 (a0.length : Int))), (13, (.int .i64 x4)), (14, (.bool x5)), (4, v3)] φ' ∧ Mod [] h0 h' ∧ Sep [] h0.size h' [ownO (kF .f32) 29 (.slice none 0 0) ([] : List (Option Nat)), ownO (kF .f32) 29 v3 x6]) ?_ ?_
  ·refine W.block ?_
   refine W.loopS (fun (s : ((List (Option Nat)) × Int)) φ' h' => ∃ v2, Fr.sub [(0, u0), (2, (.slice none 0 0)), (3, (.bool false)), (9, (.bool (!x1))), (11, u0), (12, (.int .i64 (a0.length : Int))), (4, v2), (13, (.int .i64 s.2))] φ' ∧ Mod [] h0 h' ∧ Sep [] h0.size h' [ownO (kF .f32) 29 v2 s.1, ownO (kF .f32) 29 (.slice none 0 0) ([] : List (Option Nat))]) hy1 ⟨v1, ⟨rfl, rfl, rfl, rfl, rfl, rfl, rfl, rfl, trivial⟩, X_1, (Sep.sel S_3 [0, 1] (by decide))⟩ ?_
   rintro ⟨x2, x3⟩ φ' hp2 o1 ⟨v2, hs1, X_2, S_4⟩ ho1 hy1
   have hs1 : Fr.sub [(0, u0), (2, (.slice none 0 0)), (3, (.bool false)), (9, (.bool (!x1))), (11, u0), (12, (.int .i64 (a0.length : Int))), (4, v2), (13, (.int .i64 x3))] φ' := hs1
   have S_4 : Sep [] h0.size hp2 [ownO (kF .f32) 29 v2 x2, ownO (kF .f32) 29 (.slice none 0 0) ([] : List (Option Nat))] := S_4
   have ho1 : impl_PowersIn.s0 a0 x2 x3 = some o1 := ho1
   unfold impl_PowersIn.s0 at ho1
   refine W.sub hs1 ?_
   refine W.seq ?_
   refine W.region ?_
   refine RL.opD (by decide) (opv_icmp rfl rfl rfl rfl) ?_
   refine RL.nil ?_
   refine thnN ?_
   refine W.seq ?_
   by_cases c2 : (decide (x3 < (a0.length : Int))) = true
   ·rw [if_pos c2] at ho1
    refine W.condT rfl c2 ?_
    refine W.skip ?_
    refine thnN ?_
    refine W.seq ?_
    refine W.block ?_
    refine W.seq ?_
    refine W.region ?_
    obtain ⟨x7, hx7, ho1⟩ := Option.bind_eq_some_iff.1 ho1
    refine RL.op _ (by decide) (opv_index rfl Try.underlying59 (by rw [Try.size45]; rfl) rfl rfl (SL.mod g0 X_2 (Nat.le_refl _) nob) hx7) ?_
    rintro v4 _ ⟨fv4, rfl⟩
    refine RL.op _ (by decide) (opv_loadC rfl Try.one45 rfl fv4 (SL.mod g0 X_2 (Nat.le_refl _) nob) hx7) ?_
    rintro v5 _ ⟨fv5, rfl⟩
    refine RL.opD (by decide) (opv_assign rfl rfl) ?_
    refine RL.nil ?_
    refine thnN ?_
    refine W.region ?_
    refine RL.opD (by decide) (opv_move rfl rfl) ?_
    refine RL.opD (by decide) (opv_move rfl rfl) ?_
    obtain ⟨x8, hx8, ho1⟩ := Option.bind_eq_some_iff.1 ho1
    refine RL.op _ (by decide) (opv_call (cap := []) (impl_PowerOf_ok _ _ _ fv5 _ hx8) rfl rfl ⟨rfl, trivial⟩ Try.func35 rfl rfl) ?_
    rintro v6 _ ⟨fv6, rfl⟩
    refine RL.op _ (by decide) (opS_lit1 (K := (kF .f32)) (z := x8) rfl Try.underlying25 Try.einfo29 rfl rfl rfl rfl ⟨_, rfl, fv6⟩) ?_
    rintro v7 hp3 ⟨MT_2, T_2⟩
    obtain ⟨X_3, S_5⟩ := Sep.turn0 X_2 S_4 MT_2 T_2
    obtain ⟨c3, ho1⟩ := of_ite ho1
    refine RL.op _ (by decide) (opS_append (K := (kF .f32)) rfl Try.underlying25 Try.einfo29 rfl rfl rfl rfl (Sep.at (o := ownO (kF .f32) 29 v2 x2) S_5 1 rfl) (ownO.read (Sep.at (o := ownO (kF .f32) 29 v7 [x8]) S_5 0 rfl)) (by decide) (by decide) c3) ?_
    rintro v8 hp4 ⟨MT_3, T_3⟩
    have S_6 : Sep [] h0.size hp3 ([ownO (kF .f32) 29 v2 x2] ++ [ownO (kF .f32) 29 v7 [x8], ownO (kF .f32) 29 (.slice none 0 0) ([] : List (Option Nat))]) := Sep.sel S_5 [1, 0, 2] (by decide)
    obtain ⟨X_4, S_7⟩ := Sep.turn X_3 S_6 MT_3 T_3
    refine RL.opD (by decide) (opv_assign rfl rfl) ?_
    refine RL.nil ?_
    refine blkN ?_
    refine thnN ?_
    refine W.region ?_
    refine RL.opD (by decide) (opv_add rfl rfl rfl) ?_
    refine RL.opD (by decide) (opv_move rfl rfl) ?_
    refine RL.nil ?_
    have eo1 := Option.some.inj ho1
    subst eo1
    refine rndN (s' := (x2 ++ [x8], IntKind.wrap .i64 (x3 + 1))) rfl ?_
    exact ⟨v8, ⟨rfl, rfl, rfl, rfl, rfl, rfl, rfl, rfl, trivial⟩, X_4, (Sep.sel S_7 [0, 2] (by decide))⟩
   ·rw [if_neg c2] at ho1
    have c2 := eq_false_of_ne_true c2
    refine W.condF rfl c2 ?_
    refine W.exit ?_
    refine thnX ?_
    refine rndX ?_
    refine blkI ?_
    have eo1 := Option.some.inj ho1
    subst eo1
    have ey1 := hy1 _ rfl
    subst ey1
    refine onlyN ?_
    exact ⟨x3, decide (x3 < (a0.length : Int)), x2, v2, rfl, ⟨rfl, rfl, rfl, rfl, rfl, rfl, rfl, rfl, rfl, trivial⟩, X_2, (Sep.sel S_4 [1, 0] (by decide))⟩
  rintro φ' hp5 ⟨x4, x5, x6, v3, rfl, hs2, X_5, S_8⟩
  try dsimp only at hp
  refine thnN ?_
  refine W.sub hs2 ?_
  refine W.seq ?_
  refine W.region ?_
  refine RL.opD (by decide) (opv_move rfl rfl) ?_
  refine RL.opD (by decide) (opv_assign rfl rfl) ?_
  refine RL.opD (by decide) (opv_assign rfl rfl) ?_
  refine RL.nil ?_
  refine thnN ?_
  refine W.ret ?_
  have er := Option.some.inj hp
  subst er
  exact Rt.two rfl rfl rfl ⟨v3, rfl, X_5, (Sep.sel S_8 [1] (by decide))⟩

set_option maxRecDepth 20000 in
theorem impl_ConjugateOf_ok (h0 : Heap) (u0 : Value) (a0 : (Option Nat × Option Nat)) (g0 : IsC .f32 u0 a0) (r : (Option Nat × Option Nat)) (hp : impl_ConjugateOf a0 = some r) : CallsH Try.prog 61 ([u0].toArray ++ [].toArray) h0 (fun v h' => IsC .f32 v r ∧ h0 = h') := by
 unfold impl_ConjugateOf at hp
 refine callsH_of_W (l := [u0]) (cap := []) 9 Try.func61 rfl rfl rfl ?_
 refine W.seq ?_
 refine W.region ?_
 refine RL.opD (by decide) (opv_assign rfl rfl) ?_
 refine RL.nil ?_
 refine thnN ?_
 refine W.seq ?_
 refine W.region ?_
 refine RL.opD (by decide) (opv_move rfl rfl) ?_
 refine RL.opF (by decide) (opv_real rfl rfl g0) ?_
 intro v1 fv1
 refine RL.opD (by decide) (opv_move rfl rfl) ?_
 refine RL.opF (by decide) (opv_imag rfl rfl g0) ?_
 intro v2 fv2
 refine RL.opF (by decide) (opv_fneg rfl rfl fv2) ?_
 intro v3 fv3
 refine RL.op _ (by decide) (opv_complex rfl rfl rfl fv1 fv3) ?_
 rintro v4 _ ⟨fv4, rfl⟩
 refine RL.opD (by decide) (opv_assign rfl rfl) ?_
 refine RL.nil ?_
 refine thnN ?_
 refine W.ret ?_
 have er := Option.some.inj hp
 subst er
 exact Rt.one rfl rfl ⟨fv4, rfl⟩

set_option maxRecDepth 20000 in
theorem impl_StrongBins_1_1_ok (h0 : Heap) (a0 : Int) (a1 : Int) (be0 : Nat) (ue0_0 : Value) (ae0_0 : List (Option Nat)) (ge0_0 : SL (kF .f32) h0.size h0 ue0_0 ae0_0) (Ge0 : Bx h0 be0 [ue0_0]) (r : Int) (hp : impl_StrongBins_1_1 a0 a1 ae0_0 = some r) : CallsH Try.prog 125 ([(.int .i64 a0), (.int .i64 a1)].toArray ++ [(.pointer (some ⟨be0, 0, none⟩))].toArray) h0 (fun v h' => v = (.int .i64 r) ∧ h0 = h') := by
 unfold impl_StrongBins_1_1 at hp
 refine callsH_of_W (l := [(.int .i64 a0), (.int .i64 a1)]) (cap := [(.pointer (some ⟨be0, 0, none⟩))]) 44 Try.func125 rfl rfl rfl ?_
 refine W.seq ?_
 refine W.region ?_
 refine RL.opD (by decide) (opv_assign rfl rfl) ?_
 refine RL.nil ?_
 refine thnN ?_
 refine W.seq ?_
 refine W.regionH 10 rfl Try.mixed ?_
 refine HK.d 0 rfl rfl rfl (by decide) (by decide +kernel) (fun _ _ _ h => h) (opx_loadB rfl Try.one25 rfl Ge0 rfl) ?_
 refine HK.d 1 rfl rfl rfl (by decide) (by decide +kernel) (fun _ _ _ h => h) (opx_move rfl rfl) ?_
 obtain ⟨x1, hx1, hp⟩ := Option.bind_eq_some_iff.1 hp
 refine HK.f 2 rfl rfl rfl (by decide) (by decide +kernel) (fun _ _ _ h => h) (opx_indexP rfl Try.underlying25 (by rw [Try.size29]; rfl) rfl rfl ge0_0 hx1) ?_
 intro v1 fv1
 refine HK.f 3 rfl rfl rfl (by decide) (by decide +kernel) (fun _ _ _ h => h) (opx_loadF rfl Try.one29 rfl fv1 ge0_0 hx1) ?_
 intro v2 fv2
 refine HK.d 4 rfl rfl rfl (by decide) (by decide +kernel) (fun _ _ _ h => h) (opx_loadB rfl Try.one25 rfl Ge0 rfl) ?_
 refine HK.d 5 rfl rfl rfl (by decide) (by decide +kernel) (fun _ _ _ h => h) (opx_move rfl rfl) ?_
 obtain ⟨x2, hx2, hp⟩ := Option.bind_eq_some_iff.1 hp
 refine HK.f 6 rfl rfl rfl (by decide) (by decide +kernel) (fun _ _ _ h => h) (opx_indexP rfl Try.underlying25 (by rw [Try.size29]; rfl) rfl rfl ge0_0 hx2) ?_
 intro v3 fv3
 refine HK.f 7 rfl rfl rfl (by decide) (by decide +kernel) (fun _ _ _ h => h) (opx_loadF rfl Try.one29 rfl fv3 ge0_0 hx2) ?_
 intro v4 fv4
 refine HK.d 8 rfl rfl rfl (by decide) (by decide +kernel) (fun _ _ _ h => h) (opx_assign rfl rfl) ?_
 refine HK.d 9 rfl rfl rfl (by decide) (by decide +kernel) (fun _ _ _ h => h) (opx_assign rfl rfl) ?_
 refine HK.done (by decide +kernel) ?_
 refine thnN ?_
 refine W.seq ?_
 refine W.block ?_
 refine W.seq ?_
 obtain ⟨x3, hy1, hp⟩ := Option.bind_eq_some_iff.1 hp
 refine W.cut (fun φ' h' => Fr.sub [(0, (.int .i64 a0)), (1, (.int .i64 a1)), (2, (.pointer (some ⟨be0, 0, none⟩))), (5, (.int .i64 0)), (6, v2), (7, v4), (16, (.bool x3))] φ' ∧ h0 = h') ?_ ?_
 ·refine W.region ?_
  refine RL.opD (by decide) (opv_move rfl rfl) ?_
  refine RL.opD (by decide) (opv_move rfl rfl) ?_
  refine RL.opD (by decide) (opv_fcmp rfl rfl rfl rfl fv2 fv4) ?_
  refine RL.opD (by decide) (opv_move rfl rfl) ?_
  by_cases c1 : (fcmp .gtr .f32 x1 x2) = true
  ·rw [if_pos c1] at hy1
   refine RL.noT rfl rfl c1 (by decide) ?_
   refine RL.noT rfl rfl c1 (by decide) ?_
   refine RL.noT rfl rfl c1 (by decide) ?_
   refine RL.noT rfl rfl c1 (by decide) ?_
   refine RL.noU rfl rfl (by decide) ?_
   refine RL.noU rfl rfl (by decide) ?_
   refine RL.noU rfl rfl (by decide) ?_
   refine RL.noT rfl rfl c1 (by decide) ?_
   refine RL.opD (by decide) (opv_pick rfl rfl (fun _ => rfl) (fun e => absurd (Eq.trans (Eq.symm e) c1) (by decide)) rfl) ?_
   refine RL.opD (by decide) (opv_assign rfl rfl) ?_
   refine RL.nil ?_
   have ey1 := Option.some.inj hy1
   subst ey1
   refine onlyN ?_
   exact ⟨⟨rfl, rfl, rfl, rfl, rfl, rfl, rfl, trivial⟩, rfl⟩
  ·rw [if_neg c1] at hy1
   have c1 := eq_false_of_ne_true c1
   refine RL.yesD rfl rfl c1 (by decide) (opv_move rfl rfl) ?_
   refine RL.yesD rfl rfl c1 (by decide) (opv_move rfl rfl) ?_
   refine RL.yesD rfl rfl c1 (by decide) (opv_fcmp rfl rfl rfl rfl fv2 fv2) ?_
   refine RL.yesD rfl rfl c1 (by decide) (opv_move rfl rfl) ?_
   by_cases c2 : (fcmp .eql .f32 x1 x1) = true
   ·rw [if_pos c2] at hy1
    refine RL.yesD rfl rfl c2 (by decide) (opv_move rfl rfl) ?_
    refine RL.yesD rfl rfl c2 (by decide) (opv_move rfl rfl) ?_
    refine RL.yesD rfl rfl c2 (by decide) (opv_fcmp rfl rfl rfl rfl fv4 fv4) ?_
    refine RL.yesD rfl rfl c1 (by decide) (opv_pick rfl rfl (fun _ => rfl) (fun e => absurd (Eq.trans (Eq.symm e) c2) (by decide)) rfl) ?_
    refine RL.opD (by decide) (opv_pick rfl rfl (fun e => absurd (Eq.trans (Eq.symm e) c1) (by decide)) (fun _ => rfl) rfl) ?_
    refine RL.opD (by decide) (opv_assign rfl rfl) ?_
    refine RL.nil ?_
    have ey1 := Option.some.inj hy1
    subst ey1
    refine onlyN ?_
    exact ⟨⟨rfl, rfl, rfl, rfl, rfl, rfl, rfl, trivial⟩, rfl⟩
   ·rw [if_neg c2] at hy1
    have c2 := eq_false_of_ne_true c2
    refine RL.noF rfl rfl c2 (by decide) ?_
    refine RL.noF rfl rfl c2 (by decide) ?_
    refine RL.noF rfl rfl c2 (by decide) ?_
    refine RL.yesD rfl rfl c1 (by decide) (opv_pick rfl rfl (fun e => absurd (Eq.trans (Eq.symm e) c2) (by decide)) (fun _ => rfl) rfl) ?_
    refine RL.opD (by decide) (opv_pick rfl rfl (fun e => absurd (Eq.trans (Eq.symm e) c1) (by decide)) (fun _ => rfl) rfl) ?_
    refine RL.opD (by decide) (opv_assign rfl rfl) ?_
    refine RL.nil ?_
    have ey1 := Option.some.inj hy1
    subst ey1
    refine onlyN ?_
    exact ⟨⟨rfl, rfl, rfl, rfl, rfl, rfl, rfl, trivial⟩, rfl⟩
 rintro φ' _ ⟨hs1, rfl⟩
 refine thnN ?_
 refine W.sub hs1 ?_
 by_cases c3 : x3 = true
 ·rw [if_pos c3] at hp
  refine W.condT rfl c3 ?_
  refine W.seq ?_
  refine W.region ?_
  refine RL.opD (by decide) (opv_assign rfl rfl) ?_
  refine RL.nil ?_
  refine thnN ?_
  refine W.ret ?_
  refine blkR ?_
  refine thnR ?_
  have er := Option.some.inj hp
  subst er
  exact Rt.one rfl rfl ⟨rfl, rfl⟩
 ·rw [if_neg c3] at hp
  have c3 := eq_false_of_ne_true c3
  refine W.condF rfl c3 ?_
  refine W.seq ?_
  obtain ⟨x4, hy2, hp⟩ := Option.bind_eq_some_iff.1 hp
  refine W.cut (fun φ' h' => Fr.sub [(0, (.int .i64 a0)), (1, (.int .i64 a1)), (2, (.pointer (some ⟨be0, 0, none⟩))), (5, (.int .i64 0)), (6, v2), (7, v4), (16, (.bool x3)), (30, (.bool x4))] φ' ∧ h0 = h') ?_ ?_
  ·refine W.region ?_
   refine RL.opD (by decide) (opv_move rfl rfl) ?_
   refine RL.opD (by decide) (opv_move rfl rfl) ?_
   refine RL.opD (by decide) (opv_fcmp rfl rfl rfl rfl fv2 fv4) ?_
   refine RL.opD (by decide) (opv_move rfl rfl) ?_
   by_cases c4 : (fcmp .lss .f32 x1 x2) = true
   ·rw [if_pos c4] at hy2
    refine RL.noT rfl rfl c4 (by decide) ?_
    refine RL.noT rfl rfl c4 (by decide) ?_
    refine RL.noT rfl rfl c4 (by decide) ?_
    refine RL.noT rfl rfl c4 (by decide) ?_
    refine RL.noU rfl rfl (by decide) ?_
    refine RL.noU rfl rfl (by decide) ?_
    refine RL.noU rfl rfl (by decide) ?_
    refine RL.noT rfl rfl c4 (by decide) ?_
    refine RL.opD (by decide) (opv_pick rfl rfl (fun _ => rfl) (fun e => absurd (Eq.trans (Eq.symm e) c4) (by decide)) rfl) ?_
    refine RL.opD (by decide) (opv_assign rfl rfl) ?_
    refine RL.nil ?_
    have ey2 := Option.some.inj hy2
    subst ey2
    refine onlyN ?_
    exact ⟨⟨rfl, rfl, rfl, rfl, rfl, rfl, rfl, rfl, trivial⟩, rfl⟩
   ·rw [if_neg c4] at hy2
    have c4 := eq_false_of_ne_true c4
    refine RL.yesD rfl rfl c4 (by decide) (opv_move rfl rfl) ?_
    refine RL.yesD rfl rfl c4 (by decide) (opv_move rfl rfl) ?_
    refine RL.yesD rfl rfl c4 (by decide) (opv_fcmp rfl rfl rfl rfl fv2 fv2) ?_
    refine RL.yesD rfl rfl c4 (by decide) (opv_move rfl rfl) ?_
    by_cases c5 : (fcmp .neq .f32 x1 x1) = true
    ·rw [if_pos c5] at hy2
     refine RL.yesD rfl rfl c5 (by decide) (opv_move rfl rfl) ?_
     refine RL.yesD rfl rfl c5 (by decide) (opv_move rfl rfl) ?_
     refine RL.yesD rfl rfl c5 (by decide) (opv_fcmp rfl rfl rfl rfl fv4 fv4) ?_
     refine RL.yesD rfl rfl c4 (by decide) (opv_pick rfl rfl (fun _ => rfl) (fun e => absurd (Eq.trans (Eq.symm e) c5) (by decide)) rfl) ?_
     refine RL.opD (by decide) (opv_pick rfl rfl (fun e => absurd (Eq.trans (Eq.symm e) c4) (by decide)) (fun _ => rfl) rfl) ?_
     refine RL.opD (by decide) (opv_assign rfl rfl) ?_
     refine RL.nil ?_
     have ey2 := Option.some.inj hy2
     subst ey2
     refine onlyN ?_
     exact ⟨⟨rfl, rfl, rfl, rfl, rfl, rfl, rfl, rfl, trivial⟩, rfl⟩
    ·rw [if_neg c5] at hy2
     have c5 := eq_false_of_ne_true c5
     refine RL.noF rfl rfl c5 (by decide) ?_
     refine RL.noF rfl rfl c5 (by decide) ?_
     refine RL.noF rfl rfl c5 (by decide) ?_
     refine RL.yesD rfl rfl c4 (by decide) (opv_pick rfl rfl (fun e => absurd (Eq.trans (Eq.symm e) c5) (by decide)) (fun _ => rfl) rfl) ?_
     refine RL.opD (by decide) (opv_pick rfl rfl (fun e => absurd (Eq.trans (Eq.symm e) c4) (by decide)) (fun _ => rfl) rfl) ?_
     refine RL.opD (by decide) (opv_assign rfl rfl) ?_
     refine RL.nil ?_
     have ey2 := Option.some.inj hy2
     subst ey2
     refine onlyN ?_
     exact ⟨⟨rfl, rfl, rfl, rfl, rfl, rfl, rfl, rfl, trivial⟩, rfl⟩
  rintro φ' _ ⟨hs2, rfl⟩
  refine thnN ?_
  refine W.sub hs2 ?_
  by_cases c6 : x4 = true
  ·rw [if_pos c6] at hp
   refine W.condT rfl c6 ?_
   refine W.seq ?_
   refine W.region ?_
   refine RL.opD (by decide) (opv_assign rfl rfl) ?_
   refine RL.nil ?_
   refine thnN ?_
   refine W.ret ?_
   refine blkR ?_
   refine thnR ?_
   have er := Option.some.inj hp
   subst er
   exact Rt.one rfl rfl ⟨rfl, rfl⟩
  ·rw [if_neg c6] at hp
   have c6 := eq_false_of_ne_true c6
   refine W.condF rfl c6 ?_
   refine W.skip ?_
   refine blkN ?_
   refine thnN ?_
   refine W.seq ?_
   refine W.region ?_
   refine RL.opD (by decide) (opv_assign rfl rfl) ?_
   refine RL.nil ?_
   refine thnN ?_
   refine W.ret ?_
   have er := Option.some.inj hp
   subst er
   exact Rt.one rfl rfl ⟨rfl, rfl⟩

set_option maxRecDepth 20000 in
theorem slices_insertionSortCmpFunc_int64__impl_StrongBins_1_4_ok (h0 : Heap) (lo : Nat) (hlo : lo ≤ h0.size) (u0 : Value) (a0 : List (Int)) (a1 : Int) (a2 : Int) (be0 : Nat) (ue0_0 : Value) (ae0_0 : List (Option Nat)) (S0 : Sep [u0.ownBlock, some be0, ue0_0.ownBlock] h0.size h0 [ownO (kI .i64) 2 u0 a0, boxO be0 [ue0_0], ownO (kF .f32) 29 ue0_0 ae0_0]) (hB : ∀ b, some b ∈ [u0.ownBlock, some be0, ue0_0.ownBlock] → lo ≤ b) (r : ((List (Int)) × (List (Option Nat)))) (hp : slices_insertionSortCmpFunc_int64__impl_StrongBins_1_4 a0 a1 a2 ae0_0 = some r) : CallsH Try.prog 174 ([u0, (.int .i64 a1), (.int .i64 a2), (.func (.func 125) #[] (List.toArray (α := Value) [(.pointer (some ⟨be0, 0, none⟩))]))].toArray ++ [].toArray) h0 (fun v h' => v = (.tuple (List.toArray (α := Value) [])) ∧ Mod [u0.ownBlock, some be0, ue0_0.ownBlock] h0 h' ∧ Sep [u0.ownBlock, some be0, ue0_0.ownBlock] h0.size h' [ownO (kI .i64) 2 u0 r.1, boxO be0 [ue0_0], ownO (kF .f32) 29 ue0_0 r.2]) := by
 unfold slices_insertionSortCmpFunc_int64__impl_StrongBins_1_4 at hp
 refine callsH_of_W (l := [u0, (.int .i64 a1), (.int .i64 a2), (.func (.func 125) #[] (List.toArray (α := Value) [(.pointer (some ⟨be0, 0, none⟩))]))]) (cap := []) 53 Try.func174 rfl rfl rfl ?_
 refine W.seq ?_
 refine W.region ?_
 refine RL.opD (by decide) (opv_move rfl rfl) ?_
 refine RL.opD (by decide) (opv_add rfl rfl rfl) ?_
 refine RL.opD (by decide) (opv_assign rfl rfl) ?_
 refine RL.nil ?_
 refine thnN ?_
 obtain ⟨y1, hy1, hp⟩ := Option.bind_eq_some_iff.1 hp
 refine W.cut (fun φ' h' => ∃ x3, ∃ x4, ∃ x5, y1 = (x3, x4, x5) ∧ Fr.sub [(0, u0), (1, (.int .i64 a1)), (2, (.int .i64 a2)), (3, (.func (.func 125) #[] (List.toArray (α := Value) [(.pointer (some ⟨be0, 0, none⟩))]))), (8, (.int .i64 x3)), (14, (.bool x4))] φ' ∧ Mod [u0.ownBlock, some be0, ue0_0.ownBlock] h0 h' ∧ Sep [u0.ownBlock, some be0, ue0_0.ownBlock] h0.size h' [ownO (kI .i64) 2 u0 x5, boxO be0 [ue0_0], ownO (kF .f32) 29 ue0_0 ae0_0]) ?_ ?_
 ·refine W.block ?_
  refine W.loopS (fun (s : (Int × (List (Int)))) φ' h' => Fr.sub [(0, u0), (1, (.int .i64 a1)), (2, (.int .i64 a2)), (3, (.func (.func 125) #[] (List.toArray (α := Value) [(.pointer (some ⟨be0, 0, none⟩))]))), (8, (.int .i64 s.1))] φ' ∧ Mod [u0.ownBlock, some be0, ue0_0.ownBlock] h0 h' ∧ Sep [u0.ownBlock, some be0, ue0_0.ownBlock] h0.size h' [ownO (kI .i64) 2 u0 s.2, boxO be0 [ue0_0], ownO (kF .f32) 29 ue0_0 ae0_0]) hy1 ⟨⟨rfl, rfl, rfl, rfl, rfl, trivial⟩, (Mod.refl [u0.ownBlock, some be0, ue0_0.ownBlock] h0), (Sep.sel S0 [0, 1, 2] (by decide))⟩ ?_
  rintro ⟨x1, x2⟩ φ' hp1 o1 ⟨hs1, X_1, S_1⟩ ho1 hy1
  have hs1 : Fr.sub [(0, u0), (1, (.int .i64 a1)), (2, (.int .i64 a2)), (3, (.func (.func 125) #[] (List.toArray (α := Value) [(.pointer (some ⟨be0, 0, none⟩))]))), (8, (.int .i64 x1))] φ' := hs1
  have S_1 : Sep [u0.ownBlock, some be0, ue0_0.ownBlock] h0.size hp1 [ownO (kI .i64) 2 u0 x2, boxO be0 [ue0_0], ownO (kF .f32) 29 ue0_0 ae0_0] := S_1
  have ho1 : slices_insertionSortCmpFunc_int64__impl_StrongBins_1_4.s0 a1 a2 ae0_0 x1 x2 = some o1 := ho1
  unfold slices_insertionSortCmpFunc_int64__impl_StrongBins_1_4.s0 at ho1
  refine W.sub hs1 ?_
  refine W.seq ?_
  refine W.seq ?_
  refine W.region ?_
  refine RL.opD (by decide) (opv_move rfl rfl) ?_
  refine RL.opD (by decide) (opv_move rfl rfl) ?_
  refine RL.opD (by decide) (opv_icmp rfl rfl rfl rfl) ?_
  refine RL.nil ?_
  refine thnN ?_
  by_cases c1 : (decide (x1 < a2)) = true
  ·rw [if_pos c1] at ho1
   refine W.condT rfl c1 ?_
   refine W.skip ?_
   refine thnN ?_
   refine W.seq ?_
   refine W.block ?_
   refine W.seq ?_
   refine W.region ?_
   refine RL.opD (by decide) (opv_move rfl rfl) ?_
   refine RL.opD (by decide) (opv_assign rfl rfl) ?_
   refine RL.nil ?_
   refine thnN ?_
   obtain ⟨y2, hy2, ho1⟩ := Option.bind_eq_some_iff.1 ho1
   refine W.cut (fun φ' h' => ∃ x8, ∃ x9, ∃ x10, y2 = (x8, x9, x10) ∧ Fr.sub [(0, u0), (1, (.int .i64 a1)), (2, (.int .i64 a2)), (3, (.func (.func 125) #[] (List.toArray (α := Value) [(.pointer (some ⟨be0, 0, none⟩))]))), (8, (.int .i64 x1)), (14, (.bool (decide (x1 < a2)))), (9, (.int .i64 x8)), (34, (.bool x9))] φ' ∧ Mod [u0.ownBlock, some be0, ue0_0.ownBlock] h0 h' ∧ Sep [u0.ownBlock, some be0, ue0_0.ownBlock] h0.size h' [ownO (kI .i64) 2 u0 x10, boxO be0 [ue0_0], ownO (kF .f32) 29 ue0_0 ae0_0]) ?_ ?_
   ·refine W.block ?_
    refine W.loopS (fun (s : (Int × (List (Int)))) φ' h' => Fr.sub [(0, u0), (1, (.int .i64 a1)), (2, (.int .i64 a2)), (3, (.func (.func 125) #[] (List.toArray (α := Value) [(.pointer (some ⟨be0, 0, none⟩))]))), (8, (.int .i64 x1)), (14, (.bool (decide (x1 < a2)))), (9, (.int .i64 s.1))] φ' ∧ Mod [u0.ownBlock, some be0, ue0_0.ownBlock] h0 h' ∧ Sep [u0.ownBlock, some be0, ue0_0.ownBlock] h0.size h' [ownO (kI .i64) 2 u0 s.2, boxO be0 [ue0_0], ownO (kF .f32) 29 ue0_0 ae0_0]) hy2 ⟨⟨rfl, rfl, rfl, rfl, rfl, rfl, rfl, trivial⟩, X_1, (Sep.sel S_1 [0, 1, 2] (by decide))⟩ ?_
    rintro ⟨x6, x7⟩ φ' hp2 o2 ⟨hs3, X_2, S_2⟩ ho2 hy2
    have hs3 : Fr.sub [(0, u0), (1, (.int .i64 a1)), (2, (.int .i64 a2)), (3, (.func (.func 125) #[] (List.toArray (α := Value) [(.pointer (some ⟨be0, 0, none⟩))]))), (8, (.int .i64 x1)), (14, (.bool (decide (x1 < a2)))), (9, (.int .i64 x6))] φ' := hs3
    have S_2 : Sep [u0.ownBlock, some be0, ue0_0.ownBlock] h0.size hp2 [ownO (kI .i64) 2 u0 x7, boxO be0 [ue0_0], ownO (kF .f32) 29 ue0_0 ae0_0] := S_2
    have ho2 : slices_insertionSortCmpFunc_int64__impl_StrongBins_1_4.s1 a1 ae0_0 x6 x7 = some o2 := ho2
    unfold slices_insertionSortCmpFunc_int64__impl_StrongBins_1_4.s1 at ho2
    refine W.sub hs3 ?_
    refine W.seq ?_
    refine W.seq ?_
    obtain ⟨x11, hy3, ho2⟩ := Option.bind_eq_some_iff.1 ho2
    refine W.cut (fun φ' h' => Fr.sub [(0, u0), (1, (.int .i64 a1)), (2, (.int .i64 a2)), (3, (.func (.func 125) #[] (List.toArray (α := Value) [(.pointer (some ⟨be0, 0, none⟩))]))), (8, (.int .i64 x1)), (14, (.bool (decide (x1 < a2)))), (9, (.int .i64 x6)), (34, (.bool x11))] φ' ∧ hp2 = h') ?_ ?_
    ·refine W.regionH 17 rfl Try.mixed ?_
     refine HK.d 0 rfl rfl rfl (by decide) (by decide +kernel) (fun _ _ _ h => h) (opx_move rfl rfl) ?_
     refine HK.d 1 rfl rfl rfl (by decide) (by decide +kernel) (fun _ _ _ h => h) (opx_move rfl rfl) ?_
     refine HK.d 2 rfl rfl rfl (by decide) (by decide +kernel) (fun _ _ _ h => h) (opx_icmp rfl rfl rfl rfl) ?_
     refine HK.d 3 rfl rfl rfl (by decide) (by decide +kernel) (fun _ _ _ h => h) (opx_move rfl rfl) ?_
     by_cases c2 : (decide (x6 > a1)) = true
     ·rw [if_pos c2] at hy3
      refine HK.y 4 rfl rfl rfl rfl rfl c2 (by decide) (by decide +kernel) (fun _ _ _ h => h) (opx_move rfl rfl) ?_
      refine HK.y 5 rfl rfl rfl rfl rfl c2 (by decide) (by decide +kernel) (fun _ _ _ h => h) (opx_move rfl rfl) ?_
      refine HK.y 6 rfl rfl rfl rfl rfl c2 (by decide) (by decide +kernel) (fun _ _ _ h => h) (opx_move rfl rfl) ?_
      obtain ⟨x12, hx12, hy3⟩ := Option.bind_eq_some_iff.1 hy3
      refine HK.yf 7 rfl rfl rfl rfl rfl c2 (by decide) (by decide +kernel) (fun _ _ _ h => h) (opx_indexP rfl Try.underlying71 (by rw [Try.size2]; rfl) rfl rfl (ownO.read (Sep.at (o := ownO (kI .i64) 2 u0 x7) S_2 0 rfl)) hx12) ?_
      intro v1 fv1
      refine HK.y 8 rfl rfl rfl rfl rfl c2 (by decide) (by decide +kernel) (fun _ _ _ h => h) (opx_loadI rfl Try.one2 rfl fv1 (ownO.read (Sep.at (o := ownO (kI .i64) 2 u0 x7) S_2 0 rfl)) hx12) ?_
      refine HK.y 9 rfl rfl rfl rfl rfl c2 (by decide) (by decide +kernel) (fun _ _ _ h => h) (opx_move rfl rfl) ?_
      refine HK.y 10 rfl rfl rfl rfl rfl c2 (by decide) (by decide +kernel) (fun _ _ _ h => h) (opx_move rfl rfl) ?_
      refine HK.y 11 rfl rfl rfl rfl rfl c2 (by decide) (by decide +kernel) (fun _ _ _ h => h) (opx_sub rfl rfl rfl) ?_
      obtain ⟨x13, hx13, hy3⟩ := Option.bind_eq_some_iff.1 hy3
      refine HK.yf 12 rfl rfl rfl rfl rfl c2 (by decide) (by decide +kernel) (fun _ _ _ h => h) (opx_indexP rfl Try.underlying71 (by rw [Try.size2]; rfl) rfl rfl (ownO.read (Sep.at (o := ownO (kI .i64) 2 u0 x7) S_2 0 rfl)) hx13) ?_
      intro v2 fv2
      refine HK.y 13 rfl rfl rfl rfl rfl c2 (by decide) (by decide +kernel) (fun _ _ _ h => h) (opx_loadI rfl Try.one2 rfl fv2 (ownO.read (Sep.at (o := ownO (kI .i64) 2 u0 x7) S_2 0 rfl)) hx13) ?_
      obtain ⟨x14, hx14, hy3⟩ := Option.bind_eq_some_iff.1 hy3
      refine HK.sy 14 _ rfl rfl rfl rfl rfl c2 (by decide) (by decide +kernel) (opv_call (cap := [(.pointer (some ⟨be0, 0, none⟩))]) (impl_StrongBins_1_1_ok _ _ _ _ _ _ (ownO.read (Sep.at (o := ownO (kF .f32) 29 ue0_0 ae0_0) S_2 2 rfl)) (Sep.at (o := boxO be0 [ue0_0]) S_2 1 rfl) _ hx14) rfl rfl ⟨rfl, rfl, trivial⟩ Try.func125 rfl rfl) ?_
      rintro _ _ ⟨rfl, rfl⟩
      refine ⟨rfl, ?_⟩
      refine HK.y 15 rfl rfl rfl rfl rfl c2 (by decide) (by decide +kernel) (fun _ _ _ h => h) (opx_icmp rfl rfl rfl rfl) ?_
      refine HK.d 16 rfl rfl rfl (by decide) (by decide +kernel) (fun _ _ _ h => h) (opx_pick rfl rfl (fun _ => rfl) (fun e => absurd (Eq.trans (Eq.symm e) c2) (by decide)) rfl) ?_
      refine HK.done (by decide +kernel) ?_
      have ey3 := Option.some.inj hy3
      subst ey3
      refine onlyN ?_
      exact ⟨⟨rfl, rfl, rfl, rfl, rfl, rfl, rfl, rfl, trivial⟩, rfl⟩
     ·rw [if_neg c2] at hy3
      have c2 := eq_false_of_ne_true c2
      refine HK.n 4 rfl rfl rfl rfl rfl c2 (by decide) (by decide +kernel) (fun _ _ _ h => h) ?_
      refine HK.n 5 rfl rfl rfl rfl rfl c2 (by decide) (by decide +kernel) (fun _ _ _ h => h) ?_
      refine HK.n 6 rfl rfl rfl rfl rfl c2 (by decide) (by decide +kernel) (fun _ _ _ h => h) ?_
      refine HK.n 7 rfl rfl rfl rfl rfl c2 (by decide) (by decide +kernel) (fun _ _ _ h => h) ?_
      refine HK.n 8 rfl rfl rfl rfl rfl c2 (by decide) (by decide +kernel) (fun _ _ _ h => h) ?_
      refine HK.n 9 rfl rfl rfl rfl rfl c2 (by decide) (by decide +kernel) (fun _ _ _ h => h) ?_
      refine HK.n 10 rfl rfl rfl rfl rfl c2 (by decide) (by decide +kernel) (fun _ _ _ h => h) ?_
      refine HK.n 11 rfl rfl rfl rfl rfl c2 (by decide) (by decide +kernel) (fun _ _ _ h => h) ?_
      refine HK.n 12 rfl rfl rfl rfl rfl c2 (by decide) (by decide +kernel) (fun _ _ _ h => h) ?_
      refine HK.n 13 rfl rfl rfl rfl rfl c2 (by decide) (by decide +kernel) (fun _ _ _ h => h) ?_
      refine HK.n 14 rfl rfl rfl rfl rfl c2 (by decide) (by decide +kernel) (fun _ _ _ h => h) ?_
      refine HK.n 15 rfl rfl rfl rfl rfl c2 (by decide) (by decide +kernel) (fun _ _ _ h => h) ?_
      refine HK.d 16 rfl rfl rfl (by decide) (by decide +kernel) (fun _ _ _ h => h) (opx_pick rfl rfl (fun e => absurd (Eq.trans (Eq.symm e) c2) (by decide)) (fun _ => rfl) rfl) ?_
      refine HK.done (by decide +kernel) ?_
      have ey3 := Option.some.inj hy3
      subst ey3
      refine onlyN ?_
      exact ⟨⟨rfl, rfl, rfl, rfl, rfl, rfl, rfl, rfl, trivial⟩, rfl⟩
    rintro φ' _ ⟨hs5, rfl⟩
    refine thnN ?_
    refine W.sub hs5 ?_
    by_cases c3 : x11 = true
    ·rw [if_pos c3] at ho2
     refine W.condT rfl c3 ?_
     refine W.skip ?_
     refine thnN ?_
     refine W.seq ?_
     refine W.block ?_
     obtain ⟨x15, hx15, ho2⟩ := Option.bind_eq_some_iff.1 ho2
     obtain ⟨x16, hx16, ho2⟩ := Option.bind_eq_some_iff.1 ho2
     obtain ⟨x17, hx17, ho2⟩ := Option.bind_eq_some_iff.1 ho2
     obtain ⟨x18, hx18, ho2⟩ := Option.bind_eq_some_iff.1 ho2
     obtain ⟨x19, hx19, ho2⟩ := Option.bind_eq_some_iff.1 ho2
     obtain ⟨x20, hx20, ho2⟩ := Option.bind_eq_some_iff.1 ho2
     refine W.sub (ψ := [(0, u0), (1, (.int .i64 a1)), (2, (.int .i64 a2)), (3, (.func (.func 125) #[] (List.toArray (α := Value) [(.pointer (some ⟨be0, 0, none⟩))]))), (8, (.int .i64 x1)), (14, (.bool (decide (x1 < a2)))), (9, (.int .i64 x6)), (34, (.bool x11))]) ⟨rfl, rfl, rfl, rfl, rfl, rfl, rfl, rfl, trivial⟩ ?_
     refine W.regionT 18 (fun h' => True) rfl Try.mixed trivial ?_
     refine TK.take 0 rfl rfl rfl (by decide) (by decide +kernel) (fun _ _ _ h => h) (fun h' S_ => opx_move rfl rfl) ?_
     refine TK.take 1 rfl rfl rfl (by decide) (by decide +kernel) (fun _ _ _ h => h) (fun h' S_ => opx_move rfl rfl) ?_
     refine TK.take 2 rfl rfl rfl (by decide) (by decide +kernel) (fun _ _ _ h => h) (fun h' S_ => opx_move rfl rfl) ?_
     refine TK.take 3 rfl rfl rfl (by decide) (by decide +kernel) (fun _ _ _ h => h) (fun h' S_ => opx_move rfl rfl) ?_
     refine TK.take 4 rfl rfl rfl (by decide) (by decide +kernel) (fun _ _ _ h => h) (fun h' S_ => opx_sub rfl rfl rfl) ?_
     refine TK.take 5 rfl rfl rfl (by decide) (by decide +kernel) (fun _ _ _ h => h) (fun h' S_ => opx_move rfl rfl) ?_
     refine TK.take 6 rfl rfl rfl (by decide) (by decide +kernel) (fun _ _ _ h => h) (fun h' S_ => opx_move rfl rfl) ?_
     refine TK.take 7 rfl rfl rfl (by decide) (by decide +kernel) (fun _ _ _ h => h) (fun h' S_ => opx_sub rfl rfl rfl) ?_
     refine TK.index 8 rfl rfl rfl (by decide) (by decide +kernel) (fun _ _ _ h => h) rfl Try.underlying71 (by rw [Try.size2]; rfl) rfl rfl (ownO.read (Sep.at (o := ownO (kI .i64) 2 u0 x7) S_2 0 rfl)) hx15 ?_
     intro v7 fv7
     refine TK.take 10 rfl rfl rfl (by decide) (by decide +kernel) (fun _ _ _ h => h) (fun h' S_ => opx_move rfl rfl) ?_
     refine TK.take 11 rfl rfl rfl (by decide) (by decide +kernel) (fun _ _ _ h => h) (fun h' S_ => opx_move rfl rfl) ?_
     refine TK.index 12 rfl rfl rfl (by decide) (by decide +kernel) (fun _ _ _ h => h) rfl Try.underlying71 (by rw [Try.size2]; rfl) rfl rfl (ownO.read (Sep.at (o := ownO (kI .i64) 2 u0 x7) S_2 0 rfl)) hx16 ?_
     intro v8 fv8
     refine TK.two 9 13 rfl rfl rfl rfl rfl rfl (by decide) (by decide) rfl (by decide +kernel) (by decide +kernel) (by decide +kernel) rfl (opx_loadI rfl Try.one2 rfl fv7 (ownO.read (Sep.at (o := ownO (kI .i64) 2 u0 x7) S_2 0 rfl)) hx15) (opx_loadI rfl Try.one2 rfl fv8 (ownO.read (Sep.at (o := ownO (kI .i64) 2 u0 x7) S_2 0 rfl)) hx16) (opx_loadI rfl Try.one2 rfl fv7 (ownO.read (Sep.at (o := ownO (kI .i64) 2 u0 x7) S_2 0 rfl)) hx15) (opx_loadI rfl Try.one2 rfl fv8 (ownO.read (Sep.at (o := ownO (kI .i64) 2 u0 x7) S_2 0 rfl)) hx16) ?_
     refine TK.index 14 rfl rfl rfl (by decide) (by decide +kernel) (fun _ _ _ h => h) rfl Try.underlying71 (by rw [Try.size2]; rfl) rfl rfl (ownO.read (Sep.at (o := ownO (kI .i64) 2 u0 x7) S_2 0 rfl)) hx17 ?_
     intro v9 fv9
     refine TK.step 15 _ rfl rfl rfl (by decide +kernel) (opS_storeE (K := (kI .i64)) rfl Try.size2 rfl rfl fv9 rfl rfl hx18 (Sep.at (o := ownO (kI .i64) 2 u0 x7) S_2 0 rfl)) ?_
     rintro _ hp5 ⟨rfl, MT_3, T_3⟩
     have S_7 : Sep [u0.ownBlock, some be0, ue0_0.ownBlock] h0.size hp2 ([ownO (kI .i64) 2 u0 x7] ++ [boxO be0 [ue0_0], ownO (kF .f32) 29 ue0_0 ae0_0]) := Sep.sel S_2 [0, 1, 2] (by decide)
     obtain ⟨X_5, S_8⟩ := Sep.turn X_2 S_7 MT_3 T_3
     refine ⟨trivial, ?_⟩
     refine TK.index 16 rfl rfl rfl (by decide) (by decide +kernel) (fun _ _ _ h => h) rfl Try.underlying71 (by rw [Try.size2]; rfl) rfl rfl (ownO.read (Sep.at (o := ownO (kI .i64) 2 u0 x18) S_8 0 rfl)) hx19 ?_
     intro v10 fv10
     refine TK.step 17 _ rfl rfl rfl (by decide +kernel) (opS_storeE (K := (kI .i64)) rfl Try.size2 rfl rfl fv10 rfl rfl hx20 (Sep.at (o := ownO (kI .i64) 2 u0 x18) S_8 0 rfl)) ?_
     rintro _ hp6 ⟨rfl, MT_4, T_4⟩
     have S_9 : Sep [u0.ownBlock, some be0, ue0_0.ownBlock] h0.size hp5 ([ownO (kI .i64) 2 u0 x18] ++ [boxO be0 [ue0_0], ownO (kF .f32) 29 ue0_0 ae0_0]) := Sep.sel S_8 [0, 1, 2] (by decide)
     obtain ⟨X_6, S_10⟩ := Sep.turn X_5 S_9 MT_4 T_4
     refine ⟨trivial, ?_⟩
     refine TK.done (by decide +kernel) ?_
     refine blkN ?_
     refine thnN ?_
     refine W.region ?_
     refine RL.opD (by decide) (opv_move rfl rfl) ?_
     refine RL.opD (by decide) (opv_sub rfl rfl rfl) ?_
     refine RL.opD (by decide) (opv_assign rfl rfl) ?_
     refine RL.nil ?_
     have eo2 := Option.some.inj ho2
     subst eo2
     refine rndN (s' := (IntKind.wrap .i64 (x6 - 1), x20)) rfl ?_
     exact ⟨⟨rfl, rfl, rfl, rfl, rfl, rfl, rfl, trivial⟩, X_6, (Sep.sel S_10 [0, 1, 2] (by decide))⟩
    ·rw [if_neg c3] at ho2
     have c3 := eq_false_of_ne_true c3
     refine W.condF rfl c3 ?_
     refine W.exit ?_
     refine thnX ?_
     refine rndX ?_
     refine blkI ?_
     have eo2 := Option.some.inj ho2
     subst eo2
     have ey2 := hy2 _ rfl
     subst ey2
     refine onlyN ?_
     exact ⟨x6, x11, x7, rfl, ⟨rfl, rfl, rfl, rfl, rfl, rfl, rfl, rfl, trivial⟩, X_2, (Sep.sel S_2 [0, 1, 2] (by decide))⟩
   rintro φ' hp7 ⟨x8, x9, x10, rfl, hs4, X_7, S_11⟩
   try dsimp only at ho1
   refine blkN ?_
   refine thnN ?_
   refine W.sub hs4 ?_
   refine W.region ?_
   refine RL.opD (by decide) (opv_move rfl rfl) ?_
   refine RL.opD (by decide) (opv_add rfl rfl rfl) ?_
   refine RL.opD (by decide) (opv_assign rfl rfl) ?_
   refine RL.nil ?_
   have eo1 := Option.some.inj ho1
   subst eo1
   refine rndN (s' := (IntKind.wrap .i64 (x1 + 1), x10)) rfl ?_
   exact ⟨⟨rfl, rfl, rfl, rfl, rfl, trivial⟩, X_7, (Sep.sel S_11 [0, 1, 2] (by decide))⟩
  ·rw [if_neg c1] at ho1
   have c1 := eq_false_of_ne_true c1
   refine W.condF rfl c1 ?_
   refine W.exit ?_
   refine thnX ?_
   refine rndX ?_
   refine blkI ?_
   have eo1 := Option.some.inj ho1
   subst eo1
   have ey1 := hy1 _ rfl
   subst ey1
   refine onlyN ?_
   exact ⟨x1, decide (x1 < a2), x2, rfl, ⟨rfl, rfl, rfl, rfl, rfl, rfl, trivial⟩, X_1, (Sep.sel S_1 [0, 1, 2] (by decide))⟩
 rintro φ' hp8 ⟨x3, x4, x5, rfl, hs2, X_8, S_12⟩
 try dsimp only at hp
 have er := Option.some.inj hp
 subst er
 exact Rt.none' rfl ⟨rfl, X_8, (Sep.sel S_12 [0, 1, 2] (by decide))⟩

set_option maxRecDepth 20000 in
theorem slices_stableCmpFunc_int64__impl_StrongBins_1_2_ok (h0 : Heap) (lo : Nat) (hlo : lo ≤ h0.size) (u0 : Value) (a0 : List (Int)) (a1 : Int) (be0 : Nat) (ue0_0 : Value) (ae0_0 : List (Option Nat)) (S0 : Sep [u0.ownBlock, some be0, ue0_0.ownBlock] h0.size h0 [ownO (kI .i64) 2 u0 a0, boxO be0 [ue0_0], ownO (kF .f32) 29 ue0_0 ae0_0]) (hB : ∀ b, some b ∈ [u0.ownBlock, some be0, ue0_0.ownBlock] → lo ≤ b) (r : ((List (Int)) × (List (Option Nat)))) (hp : slices_stableCmpFunc_int64__impl_StrongBins_1_2 a0 a1 ae0_0 = some r) : CallsH Try.prog 162 ([u0, (.int .i64 a1), (.func (.func 125) #[] (List.toArray (α := Value) [(.pointer (some ⟨be0, 0, none⟩))]))].toArray ++ [].toArray) h0 (fun v h' => v = (.tuple (List.toArray (α := Value) [])) ∧ Mod [u0.ownBlock, some be0, ue0_0.ownBlock] h0 h' ∧ Sep [u0.ownBlock, some be0, ue0_0.ownBlock] h0.size h' [ownO (kI .i64) 2 u0 r.1, boxO be0 [ue0_0], ownO (kF .f32) 29 ue0_0 r.2]) := by
 unfold slices_stableCmpFunc_int64__impl_StrongBins_1_2 at hp
 refine callsH_of_W (l := [u0, (.int .i64 a1), (.func (.func 125) #[] (List.toArray (α := Value) [(.pointer (some ⟨be0, 0, none⟩))]))]) (cap := []) 63 Try.func162 rfl rfl rfl ?_
 refine W.seq ?_
 refine W.region ?_
 refine RL.opD (by decide) (opv_assign rfl rfl) ?_
 refine RL.nil ?_
 refine thnN ?_
 refine W.seq ?_
 refine W.region ?_
 refine RL.opD (by decide) (opv_move rfl rfl) ?_
 refine RL.opD (by decide) (opv_assign rfl rfl) ?_
 refine RL.opD (by decide) (opv_assign rfl rfl) ?_
 refine RL.nil ?_
 refine thnN ?_
 refine W.seq ?_
 obtain ⟨y1, hy1, hp⟩ := Option.bind_eq_some_iff.1 hp
 refine W.cut (fun φ' h' => ∃ x5, ∃ x6, ∃ x7, ∃ x8, ∃ x9, y1 = (x5, x6, x7, x8, x9) ∧ Fr.sub [(0, u0), (1, (.int .i64 a1)), (2, (.func (.func 125) #[] (List.toArray (α := Value) [(.pointer (some ⟨be0, 0, none⟩))]))), (6, (.int .i64 20)), (7, (.int .i64 x5)), (8, (.int .i64 x6)), (13, (.bool x7))] φ' ∧ Mod [u0.ownBlock, some be0, ue0_0.ownBlock] h0 h' ∧ Sep [u0.ownBlock, some be0, ue0_0.ownBlock] h0.size h' [ownO (kI .i64) 2 u0 x8, boxO be0 [ue0_0], ownO (kF .f32) 29 ue0_0 x9]) ?_ ?_
 ·refine W.block ?_
  refine W.loopS (fun (s : (Int × Int × (List (Int)) × (List (Option Nat)))) φ' h' => Fr.sub [(0, u0), (1, (.int .i64 a1)), (2, (.func (.func 125) #[] (List.toArray (α := Value) [(.pointer (some ⟨be0, 0, none⟩))]))), (6, (.int .i64 20)), (7, (.int .i64 s.1)), (8, (.int .i64 s.2.1))] φ' ∧ Mod [u0.ownBlock, some be0, ue0_0.ownBlock] h0 h' ∧ Sep [u0.ownBlock, some be0, ue0_0.ownBlock] h0.size h' [ownO (kI .i64) 2 u0 s.2.2.1, boxO be0 [ue0_0], ownO (kF .f32) 29 ue0_0 s.2.2.2]) hy1 ⟨⟨rfl, rfl, rfl, rfl, rfl, rfl, trivial⟩, (Mod.refl [u0.ownBlock, some be0, ue0_0.ownBlock] h0), (Sep.sel S0 [0, 1, 2] (by decide))⟩ ?_
  rintro ⟨x1, x2, x3, x4⟩ φ' hp1 o1 ⟨hs1, X_1, S_1⟩ ho1 hy1
  have hs1 : Fr.sub [(0, u0), (1, (.int .i64 a1)), (2, (.func (.func 125) #[] (List.toArray (α := Value) [(.pointer (some ⟨be0, 0, none⟩))]))), (6, (.int .i64 20)), (7, (.int .i64 x1)), (8, (.int .i64 x2))] φ' := hs1
  have S_1 : Sep [u0.ownBlock, some be0, ue0_0.ownBlock] h0.size hp1 [ownO (kI .i64) 2 u0 x3, boxO be0 [ue0_0], ownO (kF .f32) 29 ue0_0 x4] := S_1
  have ho1 : slices_stableCmpFunc_int64__impl_StrongBins_1_2.s0 a1 x1 x2 x3 x4 = some o1 := ho1
  unfold slices_stableCmpFunc_int64__impl_StrongBins_1_2.s0 at ho1
  refine W.sub hs1 ?_
  refine W.seq ?_
  refine W.seq ?_
  refine W.region ?_
  refine RL.opD (by decide) (opv_move rfl rfl) ?_
  refine RL.opD (by decide) (opv_move rfl rfl) ?_
  refine RL.opD (by decide) (opv_icmp rfl rfl rfl rfl) ?_
  refine RL.nil ?_
  refine thnN ?_
  by_cases c1 : (decide (x2 ≤ a1)) = true
  ·rw [if_pos c1] at ho1
   refine W.condT rfl c1 ?_
   refine W.skip ?_
   refine thnN ?_
   refine W.block ?_
   refine W.seq ?_
   refine W.region ?_
   refine RL.opD (by decide) (opv_move rfl rfl) ?_
   refine RL.opD (by decide) (opv_move rfl rfl) ?_
   refine RL.opD (by decide) (opv_move rfl rfl) ?_
   refine RL.opD (by decide) (opv_move rfl rfl) ?_
   obtain ⟨x10, hx10, ho1⟩ := Option.bind_eq_some_iff.1 ho1
   have S_3 : Sep [u0.ownBlock, some be0, ue0_0.ownBlock] h0.size hp1 [ownO (kI .i64) 2 u0 x3, boxO be0 [ue0_0], ownO (kF .f32) 29 ue0_0 x4] := Sep.sel S_1 [0, 1, 2] (by decide)
   have S_2 : Sep [u0.ownBlock, some be0, ue0_0.ownBlock] hp1.size hp1 [ownO (kI .i64) 2 u0 x3, boxO be0 [ue0_0], ownO (kF .f32) 29 ue0_0 x4] := Sep.own S_3 _
   refine RL.op _ (by decide) (opv_call (cap := []) (slices_insertionSortCmpFunc_int64__impl_StrongBins_1_4_ok _ lo (Nat.le_trans hlo (Mod.size X_1)) _ _ _ _ _ _ _ S_2 (Sep.ge (L := [ownO (kI .i64) 2 u0 x3, boxO be0 [ue0_0], ownO (kF .f32) 29 ue0_0 x4]) S_3 hlo hB) _ hx10) rfl rfl ⟨rfl, rfl, rfl, rfl, trivial⟩ Try.func174 rfl rfl) ?_
   rintro _ hp2 ⟨rfl, MT_1, T_1⟩
   have S_4 : Sep [u0.ownBlock, some be0, ue0_0.ownBlock] h0.size hp1 ([ownO (kI .i64) 2 u0 x3, boxO be0 [ue0_0], ownO (kF .f32) 29 ue0_0 x4] ++ []) := Sep.sel S_1 [0, 1, 2] (by decide)
   obtain ⟨X_2, S_5⟩ := Sep.turn X_1 S_4 MT_1 T_1
   refine RL.nil ?_
   refine thnN ?_
   refine W.seq ?_
   refine W.region ?_
   refine RL.opD (by decide) (opv_move rfl rfl) ?_
   refine RL.opD (by decide) (opv_assign rfl rfl) ?_
   refine RL.nil ?_
   refine thnN ?_
   refine W.region ?_
   refine RL.opD (by decide) (opv_move rfl rfl) ?_
   refine RL.opD (by decide) (opv_move rfl rfl) ?_
   refine RL.opD (by decide) (opv_add rfl rfl rfl) ?_
   refine RL.opD (by decide) (opv_assign rfl rfl) ?_
   refine RL.nil ?_
   refine blkN ?_
   have eo1 := Option.some.inj ho1
   subst eo1
   refine rndN (s' := (x2, IntKind.wrap .i64 (x2 + 20), x10.1, x10.2)) rfl ?_
   exact ⟨⟨rfl, rfl, rfl, rfl, rfl, rfl, trivial⟩, X_2, (Sep.sel S_5 [0, 1, 2] (by decide))⟩
  ·rw [if_neg c1] at ho1
   have c1 := eq_false_of_ne_true c1
   refine W.condF rfl c1 ?_
   refine W.exit ?_
   refine thnX ?_
   refine rndX ?_
   refine blkI ?_
   have eo1 := Option.some.inj ho1
   subst eo1
   have ey1 := hy1 _ rfl
   subst ey1
   refine onlyN ?_
   exact ⟨x1, x2, decide (x2 ≤ a1), x3, x4, rfl, ⟨rfl, rfl, rfl, rfl, rfl, rfl, rfl, trivial⟩, X_1, (Sep.sel S_1 [0, 1, 2] (by decide))⟩
 rintro φ' hp3 ⟨x5, x6, x7, x8, x9, rfl, hs2, X_3, S_6⟩
 try dsimp only at hp
 refine thnN ?_
 refine W.sub hs2 ?_
 refine W.seq ?_
 refine W.region ?_
 refine RL.opD (by decide) (opv_move rfl rfl) ?_
 refine RL.opD (by decide) (opv_move rfl rfl) ?_
 refine RL.opD (by decide) (opv_move rfl rfl) ?_
 refine RL.opD (by decide) (opv_move rfl rfl) ?_
 obtain ⟨x11, hx11, hp⟩ := Option.bind_eq_some_iff.1 hp
 have S_8 : Sep [u0.ownBlock, some be0, ue0_0.ownBlock] h0.size hp3 [ownO (kI .i64) 2 u0 x8, boxO be0 [ue0_0], ownO (kF .f32) 29 ue0_0 x9] := Sep.sel S_6 [0, 1, 2] (by decide)
 have S_7 : Sep [u0.ownBlock, some be0, ue0_0.ownBlock] hp3.size hp3 [ownO (kI .i64) 2 u0 x8, boxO be0 [ue0_0], ownO (kF .f32) 29 ue0_0 x9] := Sep.own S_8 _
 refine RL.op _ (by decide) (opv_call (cap := []) (slices_insertionSortCmpFunc_int64__impl_StrongBins_1_4_ok _ lo (Nat.le_trans hlo (Mod.size X_3)) _ _ _ _ _ _ _ S_7 (Sep.ge (L := [ownO (kI .i64) 2 u0 x8, boxO be0 [ue0_0], ownO (kF .f32) 29 ue0_0 x9]) S_8 hlo hB) _ hx11) rfl rfl ⟨rfl, rfl, rfl, rfl, trivial⟩ Try.func174 rfl rfl) ?_
 rintro _ hp4 ⟨rfl, MT_2, T_2⟩
 have S_9 : Sep [u0.ownBlock, some be0, ue0_0.ownBlock] h0.size hp3 ([ownO (kI .i64) 2 u0 x8, boxO be0 [ue0_0], ownO (kF .f32) 29 ue0_0 x9] ++ []) := Sep.sel S_6 [0, 1, 2] (by decide)
 obtain ⟨X_4, S_10⟩ := Sep.turn X_3 S_9 MT_2 T_2
 refine RL.nil ?_
 refine thnN ?_
 obtain ⟨y2, hy2, hp⟩ := Option.bind_eq_some_iff.1 hp
 refine W.cut (fun φ' h' => ∃ x15, ∃ x16, ∃ x17, ∃ x18, y2 = (x15, x16, x17, x18) ∧ Fr.sub [(0, u0), (1, (.int .i64 a1)), (2, (.func (.func 125) #[] (List.toArray (α := Value) [(.pointer (some ⟨be0, 0, none⟩))]))), (13, (.bool x7)), (6, (.int .i64 x15)), (7, (.int .i64 x16)), (8, (.int .i64 x17)), (30, (.bool x18))] φ' ∧ hp4 = h') ?_ ?_
 ·refine W.block ?_
  refine W.loopS (fun (s : (Int × Int × Int)) φ' h' => Fr.sub [(0, u0), (1, (.int .i64 a1)), (2, (.func (.func 125) #[] (List.toArray (α := Value) [(.pointer (some ⟨be0, 0, none⟩))]))), (13, (.bool x7)), (6, (.int .i64 s.1)), (7, (.int .i64 s.2.1)), (8, (.int .i64 s.2.2))] φ' ∧ hp4 = h') hy2 ⟨⟨rfl, rfl, rfl, rfl, rfl, rfl, rfl, trivial⟩, rfl⟩ ?_
  rintro ⟨x12, x13, x14⟩ φ' _ o2 ⟨hs3, rfl⟩ ho2 hy2
  have hs3 : Fr.sub [(0, u0), (1, (.int .i64 a1)), (2, (.func (.func 125) #[] (List.toArray (α := Value) [(.pointer (some ⟨be0, 0, none⟩))]))), (13, (.bool x7)), (6, (.int .i64 x12)), (7, (.int .i64 x13)), (8, (.int .i64 x14))] φ' := hs3
  have ho2 : slices_stableCmpFunc_int64__impl_StrongBins_1_2.s1 a1 x12 x13 x14 = some o2 := ho2
  unfold slices_stableCmpFunc_int64__impl_StrongBins_1_2.s1 at ho2
  refine W.sub hs3 ?_
  refine W.seq ?_
  refine W.seq ?_
  refine W.region ?_
  refine RL.opD (by decide) (opv_move rfl rfl) ?_
  refine RL.opD (by decide) (opv_move rfl rfl) ?_
  refine RL.opD (by decide) (opv_icmp rfl rfl rfl rfl) ?_
  refine RL.nil ?_
  refine thnN ?_
  by_cases c2 : (decide (x12 < a1)) = true
  ·rw [if_pos c2] at ho2
   refine W.condT rfl c2 ?_
   refine W.skip ?_
   refine thnN ?_
   refine W.block ?_
   refine W.seq ?_
   refine W.region ?_
   refine RL.opD (by decide) (opv_move rfl rfl) ?_
   refine RL.opD (by decide) (opv_mul rfl rfl rfl) ?_
   refine RL.opD (by decide) (opv_assign rfl rfl) ?_
   refine RL.opD (by decide) (opv_assign rfl rfl) ?_
   refine RL.nil ?_
   refine thnN ?_
   refine W.seq ?_
   obtain ⟨y3, hy3, ho2⟩ := Option.bind_eq_some_iff.1 ho2
   refine W.cut (fun φ' h' => ∃ x21, ∃ x22, ∃ x23, y3 = (x21, x22, x23) ∧ Fr.sub [(0, u0), (1, (.int .i64 a1)), (2, (.func (.func 125) #[] (List.toArray (α := Value) [(.pointer (some ⟨be0, 0, none⟩))]))), (13, (.bool x7)), (6, (.int .i64 x12)), (30, (.bool (decide (x12 < a1)))), (7, (.int .i64 x21)), (8, (.int .i64 x22)), (35, (.bool x23))] φ' ∧ hp4 = h') ?_ ?_
   ·refine W.block ?_
    refine W.loopS (fun (s : (Int × Int)) φ' h' => Fr.sub [(0, u0), (1, (.int .i64 a1)), (2, (.func (.func 125) #[] (List.toArray (α := Value) [(.pointer (some ⟨be0, 0, none⟩))]))), (13, (.bool x7)), (6, (.int .i64 x12)), (30, (.bool (decide (x12 < a1)))), (7, (.int .i64 s.1)), (8, (.int .i64 s.2))] φ' ∧ hp4 = h') hy3 ⟨⟨rfl, rfl, rfl, rfl, rfl, rfl, rfl, rfl, trivial⟩, rfl⟩ ?_
    rintro ⟨x19, x20⟩ φ' _ o3 ⟨hs5, rfl⟩ ho3 hy3
    have hs5 : Fr.sub [(0, u0), (1, (.int .i64 a1)), (2, (.func (.func 125) #[] (List.toArray (α := Value) [(.pointer (some ⟨be0, 0, none⟩))]))), (13, (.bool x7)), (6, (.int .i64 x12)), (30, (.bool (decide (x12 < a1)))), (7, (.int .i64 x19)), (8, (.int .i64 x20))] φ' := hs5
    have ho3 : slices_stableCmpFunc_int64__impl_StrongBins_1_2.s2 a1 x19 x20 = some o3 := ho3
    unfold slices_stableCmpFunc_int64__impl_StrongBins_1_2.s2 at ho3
    refine W.sub hs5 ?_
    refine W.seq ?_
    refine W.seq ?_
    refine W.region ?_
    refine RL.opD (by decide) (opv_move rfl rfl) ?_
    refine RL.opD (by decide) (opv_move rfl rfl) ?_
    refine RL.opD (by decide) (opv_icmp rfl rfl rfl rfl) ?_
    refine RL.nil ?_
    refine thnN ?_
    by_cases c3 : (decide (x20 ≤ a1)) = true
    ·rw [if_pos c3] at ho3
     cases ho3
    ·rw [if_neg c3] at ho3
     have c3 := eq_false_of_ne_true c3
     refine W.condF rfl c3 ?_
     refine W.exit ?_
     refine thnX ?_
     refine rndX ?_
     refine blkI ?_
     have eo3 := Option.some.inj ho3
     subst eo3
     have ey3 := hy3 _ rfl
     subst ey3
     refine onlyN ?_
     exact ⟨x19, x20, decide (x20 ≤ a1), rfl, ⟨rfl, rfl, rfl, rfl, rfl, rfl, rfl, rfl, rfl, trivial⟩, rfl⟩
   rintro φ' _ ⟨x21, x22, x23, rfl, hs6, rfl⟩
   try dsimp only at ho2
   refine thnN ?_
   refine W.sub hs6 ?_
   refine W.seq ?_
   refine W.seq ?_
   refine W.region ?_
   refine RL.opD (by decide) (opv_move rfl rfl) ?_
   refine RL.opD (by decide) (opv_move rfl rfl) ?_
   refine RL.opD (by decide) (opv_add rfl rfl rfl) ?_
   refine RL.opD (by decide) (opv_assign rfl rfl) ?_
   refine RL.nil ?_
   refine thnN ?_
   refine W.seq ?_
   refine W.region ?_
   refine RL.opD (by decide) (opv_move rfl rfl) ?_
   refine RL.opD (by decide) (opv_move rfl rfl) ?_
   refine RL.opD (by decide) (opv_icmp rfl rfl rfl rfl) ?_
   refine RL.nil ?_
   refine thnN ?_
   obtain ⟨_, hy4, ho2⟩ := Option.bind_eq_some_iff.1 ho2
   refine W.cut (fun φ' h' => Fr.sub [(0, u0), (1, (.int .i64 a1)), (2, (.func (.func 125) #[] (List.toArray (α := Value) [(.pointer (some ⟨be0, 0, none⟩))]))), (13, (.bool x7)), (6, (.int .i64 x12)), (30, (.bool (decide (x12 < a1)))), (7, (.int .i64 x21)), (8, (.int .i64 x22)), (35, (.bool x23)), (9, (.int .i64 (IntKind.wrap .i64 (x21 + x12)))), (54, (.bool (decide ((IntKind.wrap .i64 (x21 + x12)) < a1))))] φ' ∧ hp4 = h') ?_ ?_
   ·by_cases c4 : (decide ((IntKind.wrap .i64 (x21 + x12)) < a1)) = true
    ·rw [if_pos c4] at hy4
     cases hy4
    ·rw [if_neg c4] at hy4
     have c4 := eq_false_of_ne_true c4
     refine W.condF rfl c4 ?_
     refine W.skip ?_
     refine onlyN ?_
     exact ⟨⟨rfl, rfl, rfl, rfl, rfl, rfl, rfl, rfl, rfl, rfl, rfl, trivial⟩, rfl⟩
   rintro φ' _ ⟨hs7, rfl⟩
   refine thnN ?_
   refine W.sub hs7 ?_
   refine W.region ?_
   refine RL.opD (by decide) (opv_move rfl rfl) ?_
   refine RL.opD (by decide) (opv_mul rfl rfl rfl) ?_
   refine RL.opD (by decide) (opv_assign rfl rfl) ?_
   refine RL.nil ?_
   refine blkN ?_
   have eo2 := Option.some.inj ho2
   subst eo2
   refine rndN (s' := (IntKind.wrap .i64 (x12 * 2), x21, x22)) rfl ?_
   exact ⟨⟨rfl, rfl, rfl, rfl, rfl, rfl, rfl, trivial⟩, rfl⟩
  ·rw [if_neg c2] at ho2
   have c2 := eq_false_of_ne_true c2
   refine W.condF rfl c2 ?_
   refine W.exit ?_
   refine thnX ?_
   refine rndX ?_
   refine blkI ?_
   have eo2 := Option.some.inj ho2
   subst eo2
   have ey2 := hy2 _ rfl
   subst ey2
   refine onlyN ?_
   exact ⟨x12, x13, x14, decide (x12 < a1), rfl, ⟨rfl, rfl, rfl, rfl, rfl, rfl, rfl, rfl, trivial⟩, rfl⟩
 rintro φ' _ ⟨x15, x16, x17, x18, rfl, hs4, rfl⟩
 try dsimp only at hp
 have er := Option.some.inj hp
 subst er
 exact Rt.none' rfl ⟨rfl, X_4, (Sep.sel S_10 [0, 1, 2] (by decide))⟩

set_option maxRecDepth 20000 in
theorem slices_SortStableFunc_int64_int64__impl_StrongBins_1_ok (h0 : Heap) (lo : Nat) (hlo : lo ≤ h0.size) (u0 : Value) (a0 : List (Int)) (be0 : Nat) (ue0_0 : Value) (ae0_0 : List (Option Nat)) (S0 : Sep [u0.ownBlock, some be0, ue0_0.ownBlock] h0.size h0 [ownO (kI .i64) 2 u0 a0, boxO be0 [ue0_0], ownO (kF .f32) 29 ue0_0 ae0_0]) (hB : ∀ b, some b ∈ [u0.ownBlock, some be0, ue0_0.ownBlock] → lo ≤ b) (r : ((List (Int)) × (List (Option Nat)))) (hp : slices_SortStableFunc_int64_int64__impl_StrongBins_1 a0 ae0_0 = some r) : CallsH Try.prog 124 ([u0, (.func (.func 125) #[] (List.toArray (α := Value) [(.pointer (some ⟨be0, 0, none⟩))]))].toArray ++ [].toArray) h0 (fun v h' => v = (.tuple (List.toArray (α := Value) [])) ∧ Mod [u0.ownBlock, some be0, ue0_0.ownBlock] h0 h' ∧ Sep [u0.ownBlock, some be0, ue0_0.ownBlock] h0.size h' [ownO (kI .i64) 2 u0 r.1, boxO be0 [ue0_0], ownO (kF .f32) 29 ue0_0 r.2]) := by
 unfold slices_SortStableFunc_int64_int64__impl_StrongBins_1 at hp
 refine callsH_of_W (l := [u0, (.func (.func 125) #[] (List.toArray (α := Value) [(.pointer (some ⟨be0, 0, none⟩))]))]) (cap := []) 9 Try.func124 rfl rfl rfl ?_
 refine W.region ?_
 refine RL.opD (by decide) (opv_move rfl rfl) ?_
 refine RL.opD (by decide) (opv_move rfl rfl) ?_
 refine RL.opD (by decide) (opv_len rfl Try.underlying71 rfl (ownO.read (Sep.at (o := ownO (kI .i64) 2 u0 a0) S0 0 rfl))) ?_
 refine RL.opD (by decide) (opv_move rfl rfl) ?_
 obtain ⟨x1, hx1, hp⟩ := Option.bind_eq_some_iff.1 hp
 have S_2 : Sep [u0.ownBlock, some be0, ue0_0.ownBlock] h0.size h0 [ownO (kI .i64) 2 u0 a0, boxO be0 [ue0_0], ownO (kF .f32) 29 ue0_0 ae0_0] := Sep.sel S0 [0, 1, 2] (by decide)
 have S_1 : Sep [u0.ownBlock, some be0, ue0_0.ownBlock] h0.size h0 [ownO (kI .i64) 2 u0 a0, boxO be0 [ue0_0], ownO (kF .f32) 29 ue0_0 ae0_0] := Sep.own S_2 _
 refine RL.op _ (by decide) (opv_call (cap := []) (slices_stableCmpFunc_int64__impl_StrongBins_1_2_ok _ lo hlo _ _ _ _ _ _ S_1 (Sep.ge (L := [ownO (kI .i64) 2 u0 a0, boxO be0 [ue0_0], ownO (kF .f32) 29 ue0_0 ae0_0]) S_2 hlo hB) _ hx1) rfl rfl ⟨rfl, rfl, rfl, trivial⟩ Try.func162 rfl rfl) ?_
 rintro _ hp1 ⟨rfl, MT_1, T_1⟩
 have S_3 : Sep [u0.ownBlock, some be0, ue0_0.ownBlock] h0.size h0 ([ownO (kI .i64) 2 u0 a0, boxO be0 [ue0_0], ownO (kF .f32) 29 ue0_0 ae0_0] ++ []) := Sep.sel S0 [0, 1, 2] (by decide)
 obtain ⟨X_1, S_4⟩ := Sep.turn (Mod.refl [u0.ownBlock, some be0, ue0_0.ownBlock] h0) S_3 MT_1 T_1
 refine RL.nil ?_
 have er := Option.some.inj hp
 subst er
 exact Rt.none' rfl ⟨rfl, X_1, (Sep.sel S_4 [0, 1, 2] (by decide))⟩

set_option maxRecDepth 20000 in
theorem impl_StrongBins_ok (h0 : Heap) (u0 : Value) (a0 : List ((Option Nat × Option Nat))) (g0 : SL (kC .f32) h0.size h0 u0 a0) (a1 : Int) (r : ((List (Int)) × Bool)) (hp : impl_StrongBins a0 a1 = some r) : CallsH Try.prog 62 ([u0, (.int .i64 a1)].toArray ++ [].toArray) h0 (fun v h' => ∃ w0, v = (.tuple (List.toArray (α := Value) [w0, (.bool r.2)])) ∧ Mod [] h0 h' ∧ Sep [] h0.size h' [ownO (kI .i64) 2 w0 r.1]) := by
 unfold impl_StrongBins at hp
 refine callsH_of_W (l := [u0, (.int .i64 a1)]) (cap := []) 45 Try.func62 rfl rfl rfl ?_
 refine W.seq ?_
 refine W.region ?_
 refine RL.opD (by decide) (opv_assign rfl rfl) ?_
 have S_1 : Sep [] h0.size h0 [ownO (kI .i64) 2 (.slice none 0 0) ([] : List (Int))] := Sep.addNil (Sep.nil [] h0.size h0)
 refine RL.opD (by decide) (opv_assign rfl rfl) ?_
 refine RL.nil ?_
 refine thnN ?_
 refine W.seq ?_
 refine W.region ?_
 refine RL.opD (by decide) (opv_move rfl rfl) ?_
 obtain ⟨x1, hx1, hp⟩ := Option.bind_eq_some_iff.1 hp
 refine RL.op _ (by decide) (opv_call (cap := []) (impl_PowersIn_ok _ _ _ g0 _ hx1) rfl rfl ⟨rfl, trivial⟩ Try.func60 rfl rfl) ?_
 rintro _ hp1 ⟨v1, rfl, MT_1, T_1⟩
 obtain ⟨X_1, S_2⟩ := Sep.turn0 (Mod.refl [] h0) S_1 MT_1 T_1
 refine RL.opD (by decide) (opv_move rfl rfl) ?_
 refine RL.opD (by decide) (opv_extract rfl rfl rfl) ?_
 refine RL.opD (by decide) (opv_extract rfl rfl rfl) ?_
 refine RL.op _ (by decide) (opS_boxed (opv_alloc (cs := [(.slice none 0 0)]) rfl Try.zero25 rfl)) ?_
 rintro _ hp2 ⟨bb1, rfl, MT_2, T_2⟩
 obtain ⟨X_2, S_3⟩ := Sep.turn0 X_1 S_2 MT_2 T_2
 refine RL.op0 _ (opS_stored (cs := [(.slice none 0 0)]) (cs' := [v1]) (opv_storeB (k := 0) (cs := [(.slice none 0 0)]) rfl Try.size25 rfl rfl (ownO.one (Sep.at (o := ownO (kF .f32) 29 v1 x1.1) S_3 1 rfl)) (Sep.at (o := boxO bb1 [(.slice none 0 0)]) S_3 0 rfl) (Nat.le_of_ble_eq_true rfl)) (Sep.at (o := boxO bb1 [(.slice none 0 0)]) S_3 0 rfl)) ?_
 rintro _ hp3 ⟨rfl, MT_3, T_3⟩
 have S_4 : Sep [] h0.size hp2 ([boxO bb1 [(.slice none 0 0)]] ++ [ownO (kF .f32) 29 v1 x1.1, ownO (kI .i64) 2 (.slice none 0 0) ([] : List (Int))]) := Sep.sel S_3 [0, 1, 2] (by decide)
 obtain ⟨X_3, S_5⟩ := Sep.turn X_2 S_4 MT_3 T_3
 refine RL.opD (by decide) (opv_assign rfl rfl) ?_
 refine RL.nil ?_
 refine thnN ?_
 refine W.seq ?_
 refine W.seq ?_
 obtain ⟨x2, hy1, hp⟩ := Option.bind_eq_some_iff.1 hp
 refine W.cut (fun φ' h' => Fr.sub [(0, u0), (1, (.int .i64 a1)), (4, (.slice none 0 0)), (5, (.bool false)), (6, (.pointer (some ⟨bb1, 0, none⟩))), (7, (.bool x1.2)), (21, (.bool x2))] φ' ∧ hp3 = h') ?_ ?_
 ·refine W.region ?_
  refine RL.opD (by decide) (opv_move rfl rfl) ?_
  refine RL.opD (by decide) (opv_not rfl rfl) ?_
  refine RL.opD (by decide) (opv_move rfl rfl) ?_
  by_cases c1 : (!x1.2) = true
  ·rw [if_pos c1] at hy1
   refine RL.noT rfl rfl c1 (by decide) ?_
   refine RL.noT rfl rfl c1 (by decide) ?_
   refine RL.noT rfl rfl c1 (by decide) ?_
   refine RL.opD (by decide) (opv_pick rfl rfl (fun _ => rfl) (fun e => absurd (Eq.trans (Eq.symm e) c1) (by decide)) rfl) ?_
   refine RL.nil ?_
   have ey1 := Option.some.inj hy1
   subst ey1
   refine onlyN ?_
   exact ⟨⟨rfl, rfl, rfl, rfl, rfl, rfl, rfl, trivial⟩, rfl⟩
  ·rw [if_neg c1] at hy1
   have c1 := eq_false_of_ne_true c1
   refine RL.yesD rfl rfl c1 (by decide) (opv_move rfl rfl) ?_
   obtain ⟨x3, hx3, hy1⟩ := Option.bind_eq_some_iff.1 hy1
   refine RL.yes _ rfl rfl c1 (by decide) (opv_call (cap := []) (impl_within_ok _ _ _ _ _ hx3) rfl rfl ⟨rfl, rfl, rfl, trivial⟩ Try.func71 rfl rfl) ?_
   rintro _ _ ⟨rfl, rfl⟩
   refine RL.yesD rfl rfl c1 (by decide) (opv_not rfl rfl) ?_
   refine RL.opD (by decide) (opv_pick rfl rfl (fun e => absurd (Eq.trans (Eq.symm e) c1) (by decide)) (fun _ => rfl) rfl) ?_
   refine RL.nil ?_
   have ey1 := Option.some.inj hy1
   subst ey1
   refine onlyN ?_
   exact ⟨⟨rfl, rfl, rfl, rfl, rfl, rfl, rfl, trivial⟩, rfl⟩
 rintro φ' _ ⟨hs1, rfl⟩
 refine thnN ?_
 refine W.sub hs1 ?_
 by_cases c2 : x2 = true
 ·rw [if_pos c2] at hp
  refine W.condT rfl c2 ?_
  refine W.seq ?_
  refine W.region ?_
  refine RL.opD (by decide) (opv_assign rfl rfl) ?_
  have S_6 : Sep [] h0.size hp3 [ownO (kI .i64) 2 (.slice none 0 0) ([] : List (Int)), boxO bb1 [v1], ownO (kF .f32) 29 v1 x1.1, ownO (kI .i64) 2 (.slice none 0 0) ([] : List (Int))] := Sep.addNil S_5
  refine RL.opD (by decide) (opv_assign rfl rfl) ?_
  refine RL.nil ?_
  refine thnN ?_
  refine W.ret ?_
  refine thnR ?_
  have er := Option.some.inj hp
  subst er
  exact Rt.two rfl rfl rfl ⟨(.slice none 0 0), rfl, X_3, (Sep.sel S_6 [0] (by decide))⟩
 ·rw [if_neg c2] at hp
  have c2 := eq_false_of_ne_true c2
  refine W.condF rfl c2 ?_
  refine W.skip ?_
  refine thnN ?_
  refine W.seq ?_
  refine W.region ?_
  refine RL.op _ (by decide) (opS_lit0 (K := (kI .i64)) rfl Try.underlying71 Try.isinfo2) ?_
  rintro v2 hp4 ⟨MT_4, T_4⟩
  obtain ⟨X_4, S_7⟩ := Sep.turn0 X_3 S_5 MT_4 T_4
  refine RL.opD (by decide) (opv_assign rfl rfl) ?_
  refine RL.nil ?_
  refine thnN ?_
  refine W.seq ?_
  refine W.seq ?_
  refine W.region ?_
  refine RL.opD (by decide) (opv_loadB rfl Try.one25 rfl (Sep.at (o := boxO bb1 [v1]) S_7 1 rfl) rfl) ?_
  refine RL.opD (by decide) (opv_len rfl Try.underlying25 rfl (ownO.read (Sep.at (o := ownO (kF .f32) 29 v1 x1.1) S_7 2 rfl))) ?_
  refine RL.opD (by decide) (opv_move rfl rfl) ?_
  refine RL.nil ?_
  refine thnN ?_
  obtain ⟨y2, hy2, hp⟩ := Option.bind_eq_some_iff.1 hp
  refine W.cut (fun φ' h' => ∃ x6, ∃ x7, ∃ x8, ∃ v4, y2 = (x6, x7, x8) ∧ Fr.sub [(0, u0), (1, (.int .i64 a1)), (4, (.slice none 0 0)), (5, (.bool false)), (6, (.pointer (some ⟨bb1, 0, none⟩))), (7, (.bool x1.2)), (21, (.bool x2)), (24, (.int .i64 (x1.1.length : Int))), (25, (.int .i64 x6)), (26, (.bool x7)), (8, v4)] φ' ∧ Mod [] h0 h' ∧ Sep [] h0.size h' [boxO bb1 [v1], ownO (kF .f32) 29 v1 x1.1, ownO (kI .i64) 2 (.slice none 0 0) ([] : List (Int)), ownO (kI .i64) 2 v4 x8]) ?_ ?_
  ·refine W.block ?_
   refine W.loopS (fun (s : ((List (Int)) × Int)) φ' h' => ∃ v3, Fr.sub [(0, u0), (1, (.int .i64 a1)), (4, (.slice none 0 0)), (5, (.bool false)), (6, (.pointer (some ⟨bb1, 0, none⟩))), (7, (.bool x1.2)), (21, (.bool x2)), (24, (.int .i64 (x1.1.length : Int))), (8, v3), (25, (.int .i64 s.2))] φ' ∧ Mod [] h0 h' ∧ Sep [] h0.size h' [ownO (kI .i64) 2 v3 s.1, boxO bb1 [v1], ownO (kF .f32) 29 v1 x1.1, ownO (kI .i64) 2 (.slice none 0 0) ([] : List (Int))]) hy2 ⟨v2, ⟨rfl, rfl, rfl, rfl, rfl, rfl, rfl, rfl, rfl, rfl, trivial⟩, X_4, (Sep.sel S_7 [0, 1, 2, 3] (by decide))⟩ ?_
   rintro ⟨x4, x5⟩ φ' hp5 o1 ⟨v3, hs2, X_5, S_8⟩ ho1 hy1
   have hs2 : Fr.sub [(0, u0), (1, (.int .i64 a1)), (4, (.slice none 0 0)), (5, (.bool false)), (6, (.pointer (some ⟨bb1, 0, none⟩))), (7, (.bool x1.2)), (21, (.bool x2)), (24, (.int .i64 (x1.1.length : Int))), (8, v3), (25, (.int .i64 x5))] φ' := hs2
   have S_8 : Sep [] h0.size hp5 [ownO (kI .i64) 2 v3 x4, boxO bb1 [v1], ownO (kF .f32) 29 v1 x1.1, ownO (kI .i64) 2 (.slice none 0 0) ([] : List (Int))] := S_8
   have ho1 : impl_StrongBins.s0 x1 x4 x5 = some o1 := ho1
   unfold impl_StrongBins.s0 at ho1
   refine W.sub hs2 ?_
   refine W.seq ?_
   refine W.region ?_
   refine RL.opD (by decide) (opv_icmp rfl rfl rfl rfl) ?_
   refine RL.nil ?_
   refine thnN ?_
   refine W.seq ?_
   by_cases c3 : (decide (x5 < (x1.1.length : Int))) = true
   ·rw [if_pos c3] at ho1
    refine W.condT rfl c3 ?_
    refine W.skip ?_
    refine thnN ?_
    refine W.seq ?_
    refine W.block ?_
    refine W.seq ?_
    refine W.region ?_
    refine RL.opD (by decide) (opv_move rfl rfl) ?_
    refine RL.opD (by decide) (opv_assign rfl rfl) ?_
    refine RL.nil ?_
    refine thnN ?_
    refine W.region ?_
    refine RL.opD (by decide) (opv_move rfl rfl) ?_
    refine RL.opD (by decide) (opv_move rfl rfl) ?_
    refine RL.op _ (by decide) (opS_lit1 (K := (kI .i64)) (z := x5) rfl Try.underlying71 Try.einfo2 rfl rfl rfl rfl rfl) ?_
    rintro v5 hp6 ⟨MT_5, T_5⟩
    obtain ⟨X_6, S_9⟩ := Sep.turn0 X_5 S_8 MT_5 T_5
    obtain ⟨c4, ho1⟩ := of_ite ho1
    refine RL.op _ (by decide) (opS_append (K := (kI .i64)) rfl Try.underlying71 Try.einfo2 rfl rfl rfl rfl (Sep.at (o := ownO (kI .i64) 2 v3 x4) S_9 1 rfl) (ownO.read (Sep.at (o := ownO (kI .i64) 2 v5 [x5]) S_9 0 rfl)) (by decide) (by decide) c4) ?_
    rintro v6 hp7 ⟨MT_6, T_6⟩
    have S_10 : Sep [] h0.size hp6 ([ownO (kI .i64) 2 v3 x4] ++ [ownO (kI .i64) 2 v5 [x5], boxO bb1 [v1], ownO (kF .f32) 29 v1 x1.1, ownO (kI .i64) 2 (.slice none 0 0) ([] : List (Int))]) := Sep.sel S_9 [1, 0, 2, 3, 4] (by decide)
    obtain ⟨X_7, S_11⟩ := Sep.turn X_6 S_10 MT_6 T_6
    refine RL.opD (by decide) (opv_assign rfl rfl) ?_
    refine RL.nil ?_
    refine blkN ?_
    refine thnN ?_
    refine W.region ?_
    refine RL.opD (by decide) (opv_add rfl rfl rfl) ?_
    refine RL.opD (by decide) (opv_move rfl rfl) ?_
    refine RL.nil ?_
    have eo1 := Option.some.inj ho1
    subst eo1
    refine rndN (s' := (x4 ++ [x5], IntKind.wrap .i64 (x5 + 1))) rfl ?_
    exact ⟨v6, ⟨rfl, rfl, rfl, rfl, rfl, rfl, rfl, rfl, rfl, rfl, trivial⟩, X_7, (Sep.sel S_11 [0, 2, 3, 4] (by decide))⟩
   ·rw [if_neg c3] at ho1
    have c3 := eq_false_of_ne_true c3
    refine W.condF rfl c3 ?_
    refine W.exit ?_
    refine thnX ?_
    refine rndX ?_
    refine blkI ?_
    have eo1 := Option.some.inj ho1
    subst eo1
    have ey2 := hy1 _ rfl
    subst ey2
    refine onlyN ?_
    exact ⟨x5, decide (x5 < (x1.1.length : Int)), x4, v3, rfl, ⟨rfl, rfl, rfl, rfl, rfl, rfl, rfl, rfl, rfl, rfl, rfl, trivial⟩, X_5, (Sep.sel S_8 [1, 2, 3, 0] (by decide))⟩
  rintro φ' hp8 ⟨x6, x7, x8, v4, rfl, hs3, X_8, S_12⟩
  try dsimp only at hp
  refine thnN ?_
  refine W.sub hs3 ?_
  refine W.seq ?_
  refine W.region ?_
  refine RL.opD (by decide) (opv_move rfl rfl) ?_
  refine RL.opD (by decide) (opv_makeFunc (vs := [(.pointer (some ⟨bb1, 0, none⟩))]) rfl ⟨rfl, trivial⟩) ?_
  obtain ⟨x9, hx9, hp⟩ := Option.bind_eq_some_iff.1 hp
  have S_14 : Sep [] h0.size hp8 [ownO (kI .i64) 2 v4 x8, boxO bb1 [v1], ownO (kF .f32) 29 v1 x1.1] := Sep.sel S_12 [3, 0, 1] (by decide)
  have S_13 : Sep [v4.ownBlock, some bb1, v1.ownBlock] hp8.size hp8 [ownO (kI .i64) 2 v4 x8, boxO bb1 [v1], ownO (kF .f32) 29 v1 x1.1] := Sep.own S_14 _
  refine RL.op _ (by decide) (opv_call (cap := []) (slices_SortStableFunc_int64_int64__impl_StrongBins_1_ok _ h0.size (Nat.le_trans (Nat.le_refl _) (Mod.size X_8)) _ _ _ _ _ S_13 (Sep.ge (L := [ownO (kI .i64) 2 v4 x8, boxO bb1 [v1], ownO (kF .f32) 29 v1 x1.1]) S_14 (Nat.le_refl _) nob) _ hx9) rfl rfl ⟨rfl, rfl, trivial⟩ Try.func124 rfl rfl) ?_
  rintro _ hp9 ⟨rfl, MT_7, T_7⟩
  have S_15 : Sep [] h0.size hp8 ([ownO (kI .i64) 2 v4 x8, boxO bb1 [v1], ownO (kF .f32) 29 v1 x1.1] ++ [ownO (kI .i64) 2 (.slice none 0 0) ([] : List (Int))]) := Sep.sel S_12 [3, 0, 1, 2] (by decide)
  obtain ⟨X_9, S_16⟩ := Sep.turn X_8 S_15 MT_7 T_7
  refine RL.nil ?_
  refine thnN ?_
  refine W.seq ?_
  refine W.region ?_
  refine RL.opD (by decide) (opv_move rfl rfl) ?_
  refine RL.opD (by decide) (opv_move rfl rfl) ?_
  refine RL.opD (by decide) (opv_move rfl rfl) ?_
  refine RL.opD (by decide) (opv_len rfl Try.underlying71 rfl (ownO.read (Sep.at (o := ownO (kI .i64) 2 v4 x9.1) S_16 0 rfl))) ?_
  refine RL.opD (by decide) (opv_min2 rfl rfl rfl) ?_
  obtain ⟨x10, hx10, hp⟩ := Option.bind_eq_some_iff.1 hp
  refine RL.op _ (by decide) (opS_cutO (K := (kI .i64)) rfl Try.underlying71 (by rw [Try.size2]; rfl) rfl rfl (Sep.at (o := ownO (kI .i64) 2 v4 x9.1) S_16 0 rfl) hx10) ?_
  rintro v7 hp10 ⟨MT_8, T_8⟩
  have S_17 : Sep [] h0.size hp9 ([ownO (kI .i64) 2 v4 x9.1] ++ [boxO bb1 [v1], ownO (kF .f32) 29 v1 x9.2, ownO (kI .i64) 2 (.slice none 0 0) ([] : List (Int))]) := Sep.sel S_16 [0, 1, 2, 3] (by decide)
  obtain ⟨X_10, S_18⟩ := Sep.turn X_9 S_17 MT_8 T_8
  refine RL.opD (by decide) (opv_assign rfl rfl) ?_
  refine RL.nil ?_
  refine thnN ?_
  refine W.seq ?_
  refine W.region ?_
  refine RL.opD (by decide) (opv_move rfl rfl) ?_
  obtain ⟨x11, hx11, hp⟩ := Option.bind_eq_some_iff.1 hp
  have S_20 : Sep [] h0.size hp10 [ownO (kI .i64) 2 v7 x10] := Sep.sel S_18 [0] (by decide)
  have S_19 : Sep [v7.ownBlock] hp10.size hp10 [ownO (kI .i64) 2 v7 x10] := Sep.own S_20 _
  refine RL.op _ (by decide) (opv_call (cap := []) (slices_Sort_I_ok _ h0.size (Nat.le_trans (Nat.le_refl _) (Mod.size X_10)) _ _ S_19 (Sep.ge (L := [ownO (kI .i64) 2 v7 x10]) S_20 (Nat.le_refl _) nob) _ hx11) rfl rfl ⟨rfl, trivial⟩ Try.func126 rfl rfl) ?_
  rintro _ hp11 ⟨rfl, MT_9, T_9⟩
  have S_21 : Sep [] h0.size hp10 ([ownO (kI .i64) 2 v7 x10] ++ [boxO bb1 [v1], ownO (kF .f32) 29 v1 x9.2, ownO (kI .i64) 2 (.slice none 0 0) ([] : List (Int))]) := Sep.sel S_18 [0, 1, 2, 3] (by decide)
  obtain ⟨X_11, S_22⟩ := Sep.turn X_10 S_21 MT_9 T_9
  refine RL.nil ?_
  refine thnN ?_
  refine W.seq ?_
  refine W.region ?_
  refine RL.opD (by decide) (opv_move rfl rfl) ?_
  refine RL.opD (by decide) (opv_assign rfl rfl) ?_
  refine RL.opD (by decide) (opv_assign rfl rfl) ?_
  refine RL.nil ?_
  refine thnN ?_
  refine W.ret ?_
  have er := Option.some.inj hp
  subst er
  exact Rt.two rfl rfl rfl ⟨v7, rfl, X_11, (Sep.sel S_22 [0] (by decide))⟩

set_option maxHeartbeats 4000000 in
set_option maxRecDepth 20000 in
theorem laws_FnSpectra_ok (h0 : Heap) (u0 : Value) (a0 : List (Int)) (g0 : SL (kI .u8) h0.size h0 u0 a0) (u1 : Value) (a1 : List (Int)) (g1 : SL (kI .u8) h0.size h0 u1 a1) (r : Bool) (hp : laws_FnSpectra a0 a1 = some r) : CallsH Try.prog 9 ([u0, u1].toArray ++ [].toArray) h0 (fun v h' => v = (.bool r) ∧ Mod [] h0 h' ∧ Sep [] h0.size h' []) := by
 unfold laws_FnSpectra at hp
 refine callsH_of_W (l := [u0, u1]) (cap := []) 180 Try.func9 rfl rfl rfl ?_
 refine W.seq ?_
 refine W.region ?_
 refine RL.opD (by decide) (opv_assign rfl rfl) ?_
 refine RL.nil ?_
 refine thnN ?_
 refine W.seq ?_
 refine W.seq ?_
 refine W.region ?_
 refine RL.opD (by decide) (opv_move rfl rfl) ?_
 refine RL.opD (by decide) (opv_move rfl rfl) ?_
 obtain ⟨x1, hx1, hp⟩ := Option.bind_eq_some_iff.1 hp
 refine RL.op _ (by decide) (opv_call (cap := []) (laws_r8Long_ok _ _ _ g0 _ _ g1 _ hx1) rfl rfl ⟨rfl, rfl, trivial⟩ Try.func11 rfl rfl) ?_
 rintro _ _ ⟨rfl, rfl⟩
 refine RL.nil ?_
 refine thnN ?_
 by_cases c1 : x1 = true
 ·rw [if_pos c1] at hp
  refine W.condT rfl c1 ?_
  refine W.seq ?_
  refine W.region ?_
  refine RL.opD (by decide) (opv_assign rfl rfl) ?_
  refine RL.nil ?_
  refine thnN ?_
  refine W.ret ?_
  refine thnR ?_
  have er := Option.some.inj hp
  subst er
  exact Rt.one rfl rfl ⟨rfl, (Mod.refl [] h0), (Sep.nil _ _ _)⟩
 ·rw [if_neg c1] at hp
  have c1 := eq_false_of_ne_true c1
  refine W.condF rfl c1 ?_
  refine W.skip ?_
  refine thnN ?_
  refine W.seq ?_
  refine W.region ?_
  refine RL.opD (by decide) (opv_move rfl rfl) ?_
  obtain ⟨x2, hx2, hp⟩ := Option.bind_eq_some_iff.1 hp
  refine RL.op _ (by decide) (opv_call (cap := []) (laws_r8At_ok _ _ _ g1 _ _ _ hx2) rfl rfl ⟨rfl, rfl, rfl, trivial⟩ Try.func12 rfl rfl) ?_
  rintro _ _ ⟨rfl, rfl⟩
  refine RL.opD (by decide) (opv_add rfl rfl rfl) ?_
  refine RL.opD (by decide) (opv_assign rfl rfl) ?_
  refine RL.nil ?_
  refine thnN ?_
  refine W.seq ?_
  refine W.region ?_
  refine RL.opD (by decide) (opv_move rfl rfl) ?_
  refine RL.opD (by decide) (opv_move rfl rfl) ?_
  obtain ⟨x3, hx3, hp⟩ := Option.bind_eq_some_iff.1 hp
  refine RL.op _ (by decide) (opv_call (cap := []) (spec_R8Record_ok _ _ _ g0 _ _ hx3) rfl rfl ⟨rfl, rfl, trivial⟩ Try.func13 rfl rfl) ?_
  rintro v1 hp1 ⟨MT_1, T_1⟩
  obtain ⟨X_1, S_1⟩ := Sep.turn0 (Mod.refl [] h0) (Sep.nil [] h0.size h0) MT_1 T_1
  refine RL.opD (by decide) (opv_assign rfl rfl) ?_
  refine RL.nil ?_
  refine thnN ?_
  refine W.seq ?_
  refine W.region ?_
  refine RL.opD (by decide) (opv_move rfl rfl) ?_
  obtain ⟨x4, hx4, hp⟩ := Option.bind_eq_some_iff.1 hp
  refine RL.op _ (by decide) (opv_call (cap := []) (impl_SpectrumOf_ok _ _ _ (ownO.read (Sep.at (o := ownO (kF .f32) 29 v1 x3) S_1 0 rfl)) _ hx4) rfl rfl ⟨rfl, trivial⟩ Try.func31 rfl rfl) ?_
  rintro _ hp2 ⟨v2, rfl, MT_2, T_2⟩
  obtain ⟨X_2, S_2⟩ := Sep.turn0 X_1 S_1 MT_2 T_2
  refine RL.opD (by decide) (opv_move rfl rfl) ?_
  refine RL.opD (by decide) (opv_extract rfl rfl rfl) ?_
  refine RL.opD (by decide) (opv_extract rfl rfl rfl) ?_
  refine RL.opD (by decide) (opv_assign rfl rfl) ?_
  refine RL.opD (by decide) (opv_assign rfl rfl) ?_
  refine RL.nil ?_
  refine thnN ?_
  refine W.seq ?_
  refine W.region ?_
  refine RL.opD (by decide) (opv_move rfl rfl) ?_
  obtain ⟨x5, hx5, hp⟩ := Option.bind_eq_some_iff.1 hp
  refine RL.op _ (by decide) (opv_call (cap := []) (impl_ListOf_ok _ _ _ (ownO.read (Sep.at (o := ownO (kC .f32) 45 v2 x4.1) S_2 0 rfl)) _ hx5) rfl rfl ⟨rfl, trivial⟩ Try.func59 rfl rfl) ?_
  rintro _ hp3 ⟨v3, rfl, MT_3, T_3⟩
  obtain ⟨X_3, S_3⟩ := Sep.turn0 X_2 S_2 MT_3 T_3
  refine RL.opD (by decide) (opv_move rfl rfl) ?_
  refine RL.opD (by decide) (opv_extract rfl rfl rfl) ?_
  refine RL.opD (by decide) (opv_extract rfl rfl rfl) ?_
  refine RL.opD (by decide) (opv_assign rfl rfl) ?_
  refine RL.opD (by decide) (opv_assign rfl rfl) ?_
  refine RL.nil ?_
  refine thnN ?_
  refine W.seq ?_
  refine W.region ?_
  refine RL.opD (by decide) (opv_move rfl rfl) ?_
  obtain ⟨x6, hx6, hp⟩ := Option.bind_eq_some_iff.1 hp
  refine RL.op _ (by decide) (opv_call (cap := []) (impl_PowersIn_ok _ _ _ (ownO.read (Sep.at (o := ownO (kC .f32) 45 v2 x4.1) S_3 1 rfl)) _ hx6) rfl rfl ⟨rfl, trivial⟩ Try.func60 rfl rfl) ?_
  rintro _ hp4 ⟨v4, rfl, MT_4, T_4⟩
  obtain ⟨X_4, S_4⟩ := Sep.turn0 X_3 S_3 MT_4 T_4
  refine RL.opD (by decide) (opv_move rfl rfl) ?_
  refine RL.opD (by decide) (opv_extract rfl rfl rfl) ?_
  refine RL.opD (by decide) (opv_extract rfl rfl rfl) ?_
  refine RL.opD (by decide) (opv_assign rfl rfl) ?_
  refine RL.opD (by decide) (opv_assign rfl rfl) ?_
  refine RL.nil ?_
  refine thnN ?_
  refine W.seq ?_
  refine W.seq ?_
  obtain ⟨x7, hy1, hp⟩ := Option.bind_eq_some_iff.1 hp
  refine W.cut (fun φ' h' => Fr.sub [(0, u0), (1, u1), (4, (.bool false)), (22, (.bool x1)), (5, (.int .i64 (IntKind.wrap .i64 (1 + x2)))), (6, v1), (7, v2), (8, (.bool x4.2)), (9, v3), (10, (.bool x5.2)), (11, v4), (12, (.bool x6.2)), (71, (.bool x7))] φ' ∧ hp4 = h') ?_ ?_
  ·refine W.region ?_
   refine RL.opD (by decide) (opv_move rfl rfl) ?_
   refine RL.opD (by decide) (opv_not rfl rfl) ?_
   refine RL.opD (by decide) (opv_move rfl rfl) ?_
   by_cases c2 : (!x4.2) = true
   ·rw [if_pos c2] at hy1
    refine RL.noT rfl rfl c2 (by decide) ?_
    refine RL.noT rfl rfl c2 (by decide) ?_
    refine RL.opD (by decide) (opv_pick rfl rfl (fun _ => rfl) (fun e => absurd (Eq.trans (Eq.symm e) c2) (by decide)) rfl) ?_
    refine RL.opD (by decide) (opv_move rfl rfl) ?_
    refine RL.noT rfl rfl rfl (by decide) ?_
    refine RL.noT rfl rfl rfl (by decide) ?_
    refine RL.opD (by decide) (opv_pick rfl rfl (fun _ => rfl) (fun e => absurd (Eq.trans (Eq.symm e) rfl) (by decide)) rfl) ?_
    refine RL.opD (by decide) (opv_move rfl rfl) ?_
    refine RL.noT rfl rfl rfl (by decide) ?_
    refine RL.noT rfl rfl rfl (by decide) ?_
    refine RL.noT rfl rfl rfl (by decide) ?_
    refine RL.noT rfl rfl rfl (by decide) ?_
    refine RL.opD (by decide) (opv_pick rfl rfl (fun _ => rfl) (fun e => absurd (Eq.trans (Eq.symm e) rfl) (by decide)) rfl) ?_
    refine RL.opD (by decide) (opv_move rfl rfl) ?_
    refine RL.noT rfl rfl rfl (by decide) ?_
    refine RL.noT rfl rfl rfl (by decide) ?_
    refine RL.noT rfl rfl rfl (by decide) ?_
    refine RL.noT rfl rfl rfl (by decide) ?_
    refine RL.opD (by decide) (opv_pick rfl rfl (fun _ => rfl) (fun e => absurd (Eq.trans (Eq.symm e) rfl) (by decide)) rfl) ?_
    refine RL.opD (by decide) (opv_move rfl rfl) ?_
    refine RL.noT rfl rfl rfl (by decide) ?_
    refine RL.noT rfl rfl rfl (by decide) ?_
    refine RL.noT rfl rfl rfl (by decide) ?_
    refine RL.noT rfl rfl rfl (by decide) ?_
    refine RL.opD (by decide) (opv_pick rfl rfl (fun _ => rfl) (fun e => absurd (Eq.trans (Eq.symm e) rfl) (by decide)) rfl) ?_
    refine RL.nil ?_
    have ey1 := Option.some.inj hy1
    subst ey1
    refine onlyN ?_
    exact ⟨⟨rfl, rfl, rfl, rfl, rfl, rfl, rfl, rfl, rfl, rfl, rfl, rfl, rfl, trivial⟩, rfl⟩
   ·rw [if_neg c2] at hy1
    have c2 := eq_false_of_ne_true c2
    refine RL.yesD rfl rfl c2 (by decide) (opv_move rfl rfl) ?_
    refine RL.yesD rfl rfl c2 (by decide) (opv_not rfl rfl) ?_
    refine RL.opD (by decide) (opv_pick rfl rfl (fun e => absurd (Eq.trans (Eq.symm e) c2) (by decide)) (fun _ => rfl) rfl) ?_
    refine RL.opD (by decide) (opv_move rfl rfl) ?_
    by_cases c3 : (!x5.2) = true
    ·rw [if_pos c3] at hy1
     refine RL.noT rfl rfl c3 (by decide) ?_
     refine RL.noT rfl rfl c3 (by decide) ?_
     refine RL.opD (by decide) (opv_pick rfl rfl (fun _ => rfl) (fun e => absurd (Eq.trans (Eq.symm e) c3) (by decide)) rfl) ?_
     refine RL.opD (by decide) (opv_move rfl rfl) ?_
     refine RL.noT rfl rfl rfl (by decide) ?_
     refine RL.noT rfl rfl rfl (by decide) ?_
     refine RL.noT rfl rfl rfl (by decide) ?_
     refine RL.noT rfl rfl rfl (by decide) ?_
     refine RL.opD (by decide) (opv_pick rfl rfl (fun _ => rfl) (fun e => absurd (Eq.trans (Eq.symm e) rfl) (by decide)) rfl) ?_
     refine RL.opD (by decide) (opv_move rfl rfl) ?_
     refine RL.noT rfl rfl rfl (by decide) ?_
     refine RL.noT rfl rfl rfl (by decide) ?_
     refine RL.noT rfl rfl rfl (by decide) ?_
     refine RL.noT rfl rfl rfl (by decide) ?_
     refine RL.opD (by decide) (opv_pick rfl rfl (fun _ => rfl) (fun e => absurd (Eq.trans (Eq.symm e) rfl) (by decide)) rfl) ?_
     refine RL.opD (by decide) (opv_move rfl rfl) ?_
     refine RL.noT rfl rfl rfl (by decide) ?_
     refine RL.noT rfl rfl rfl (by decide) ?_
     refine RL.noT rfl rfl rfl (by decide) ?_
     refine RL.noT rfl rfl rfl (by decide) ?_
     refine RL.opD (by decide) (opv_pick rfl rfl (fun _ => rfl) (fun e => absurd (Eq.trans (Eq.symm e) rfl) (by decide)) rfl) ?_
     refine RL.nil ?_
     have ey1 := Option.some.inj hy1
     subst ey1
     refine onlyN ?_
     exact ⟨⟨rfl, rfl, rfl, rfl, rfl, rfl, rfl, rfl, rfl, rfl, rfl, rfl, rfl, trivial⟩, rfl⟩
    ·rw [if_neg c3] at hy1
     have c3 := eq_false_of_ne_true c3
     refine RL.yesD rfl rfl c3 (by decide) (opv_move rfl rfl) ?_
     refine RL.yesD rfl rfl c3 (by decide) (opv_not rfl rfl) ?_
     refine RL.opD (by decide) (opv_pick rfl rfl (fun e => absurd (Eq.trans (Eq.symm e) c3) (by decide)) (fun _ => rfl) rfl) ?_
     refine RL.opD (by decide) (opv_move rfl rfl) ?_
     by_cases c4 : (!x6.2) = true
     ·rw [if_pos c4] at hy1
      refine RL.noT rfl rfl c4 (by decide) ?_
      refine RL.noT rfl rfl c4 (by decide) ?_
      refine RL.noT rfl rfl c4 (by decide) ?_
      refine RL.noT rfl rfl c4 (by decide) ?_
      refine RL.opD (by decide) (opv_pick rfl rfl (fun _ => rfl) (fun e => absurd (Eq.trans (Eq.symm e) c4) (by decide)) rfl) ?_
      refine RL.opD (by decide) (opv_move rfl rfl) ?_
      refine RL.noT rfl rfl rfl (by decide) ?_
      refine RL.noT rfl rfl rfl (by decide) ?_
      refine RL.noT rfl rfl rfl (by decide) ?_
      refine RL.noT rfl rfl rfl (by decide) ?_
      refine RL.opD (by decide) (opv_pick rfl rfl (fun _ => rfl) (fun e => absurd (Eq.trans (Eq.symm e) rfl) (by decide)) rfl) ?_
      refine RL.opD (by decide) (opv_move rfl rfl) ?_
      refine RL.noT rfl rfl rfl (by decide) ?_
      refine RL.noT rfl rfl rfl (by decide) ?_
      refine RL.noT rfl rfl rfl (by decide) ?_
      refine RL.noT rfl rfl rfl (by decide) ?_
      refine RL.opD (by decide) (opv_pick rfl rfl (fun _ => rfl) (fun e => absurd (Eq.trans (Eq.symm e) rfl) (by decide)) rfl) ?_
      refine RL.nil ?_
      have ey1 := Option.some.inj hy1
      subst ey1
      refine onlyN ?_
      exact ⟨⟨rfl, rfl, rfl, rfl, rfl, rfl, rfl, rfl, rfl, rfl, rfl, rfl, rfl, trivial⟩, rfl⟩
     ·rw [if_neg c4] at hy1
      have c4 := eq_false_of_ne_true c4
      refine RL.yesD rfl rfl c4 (by decide) (opv_move rfl rfl) ?_
      refine RL.yesD rfl rfl c4 (by decide) (opv_len rfl Try.underlying59 rfl (ownO.read (Sep.at (o := ownO (kC .f32) 45 v2 x4.1) S_4 2 rfl))) ?_
      refine RL.yesD rfl rfl c4 (by decide) (opv_move rfl rfl) ?_
      refine RL.yesD rfl rfl c4 (by decide) (opv_icmp rfl rfl rfl rfl) ?_
      refine RL.opD (by decide) (opv_pick rfl rfl (fun e => absurd (Eq.trans (Eq.symm e) c4) (by decide)) (fun _ => rfl) rfl) ?_
      refine RL.opD (by decide) (opv_move rfl rfl) ?_
      by_cases c5 : ((x4.1.length : Int) != (IntKind.wrap .i64 (1 + x2))) = true
      ·rw [if_pos c5] at hy1
       refine RL.noT rfl rfl c5 (by decide) ?_
       refine RL.noT rfl rfl c5 (by decide) ?_
       refine RL.noT rfl rfl c5 (by decide) ?_
       refine RL.noT rfl rfl c5 (by decide) ?_
       refine RL.opD (by decide) (opv_pick rfl rfl (fun _ => rfl) (fun e => absurd (Eq.trans (Eq.symm e) c5) (by decide)) rfl) ?_
       refine RL.opD (by decide) (opv_move rfl rfl) ?_
       refine RL.noT rfl rfl rfl (by decide) ?_
       refine RL.noT rfl rfl rfl (by decide) ?_
       refine RL.noT rfl rfl rfl (by decide) ?_
       refine RL.noT rfl rfl rfl (by decide) ?_
       refine RL.opD (by decide) (opv_pick rfl rfl (fun _ => rfl) (fun e => absurd (Eq.trans (Eq.symm e) rfl) (by decide)) rfl) ?_
       refine RL.nil ?_
       have ey1 := Option.some.inj hy1
       subst ey1
       refine onlyN ?_
       exact ⟨⟨rfl, rfl, rfl, rfl, rfl, rfl, rfl, rfl, rfl, rfl, rfl, rfl, rfl, trivial⟩, rfl⟩
      ·rw [if_neg c5] at hy1
       have c5 := eq_false_of_ne_true c5
       refine RL.yesD rfl rfl c5 (by decide) (opv_move rfl rfl) ?_
       refine RL.yesD rfl rfl c5 (by decide) (opv_len rfl Try.underlying25 rfl (ownO.read (Sep.at (o := ownO (kF .f32) 29 v3 x5.1) S_4 1 rfl))) ?_
       refine RL.yesD rfl rfl c5 (by decide) (opv_move rfl rfl) ?_
       refine RL.yesD rfl rfl c5 (by decide) (opv_icmp rfl rfl rfl rfl) ?_
       refine RL.opD (by decide) (opv_pick rfl rfl (fun e => absurd (Eq.trans (Eq.symm e) c5) (by decide)) (fun _ => rfl) rfl) ?_
       refine RL.opD (by decide) (opv_move rfl rfl) ?_
       by_cases c6 : ((x5.1.length : Int) != (IntKind.wrap .i64 (1 + x2))) = true
       ·rw [if_pos c6] at hy1
        refine RL.noT rfl rfl c6 (by decide) ?_
        refine RL.noT rfl rfl c6 (by decide) ?_
        refine RL.noT rfl rfl c6 (by decide) ?_
        refine RL.noT rfl rfl c6 (by decide) ?_
        refine RL.opD (by decide) (opv_pick rfl rfl (fun _ => rfl) (fun e => absurd (Eq.trans (Eq.symm e) c6) (by decide)) rfl) ?_
        refine RL.nil ?_
        have ey1 := Option.some.inj hy1
        subst ey1
        refine onlyN ?_
        exact ⟨⟨rfl, rfl, rfl, rfl, rfl, rfl, rfl, rfl, rfl, rfl, rfl, rfl, rfl, trivial⟩, rfl⟩
       ·rw [if_neg c6] at hy1
        have c6 := eq_false_of_ne_true c6
        refine RL.yesD rfl rfl c6 (by decide) (opv_move rfl rfl) ?_
        refine RL.yesD rfl rfl c6 (by decide) (opv_len rfl Try.underlying25 rfl (ownO.read (Sep.at (o := ownO (kF .f32) 29 v4 x6.1) S_4 0 rfl))) ?_
        refine RL.yesD rfl rfl c6 (by decide) (opv_move rfl rfl) ?_
        refine RL.yesD rfl rfl c6 (by decide) (opv_icmp rfl rfl rfl rfl) ?_
        refine RL.opD (by decide) (opv_pick rfl rfl (fun e => absurd (Eq.trans (Eq.symm e) c6) (by decide)) (fun _ => rfl) rfl) ?_
        refine RL.nil ?_
        have ey1 := Option.some.inj hy1
        subst ey1
        refine onlyN ?_
        exact ⟨⟨rfl, rfl, rfl, rfl, rfl, rfl, rfl, rfl, rfl, rfl, rfl, rfl, rfl, trivial⟩, rfl⟩
  rintro φ' _ ⟨hs1, rfl⟩
  refine thnN ?_
  refine W.sub hs1 ?_
  by_cases c7 : x7 = true
  ·rw [if_pos c7] at hp
   refine W.condT rfl c7 ?_
   refine W.seq ?_
   refine W.region ?_
   refine RL.opD (by decide) (opv_assign rfl rfl) ?_
   refine RL.nil ?_
   refine thnN ?_
   refine W.ret ?_
   refine thnR ?_
   have er := Option.some.inj hp
   subst er
   exact Rt.one rfl rfl ⟨rfl, X_4, (Sep.nil _ _ _)⟩
  ·rw [if_neg c7] at hp
   have c7 := eq_false_of_ne_true c7
   refine W.condF rfl c7 ?_
   refine W.skip ?_
   refine thnN ?_
   refine W.seq ?_
   refine W.region ?_
   refine RL.opD (by decide) (opv_assign rfl rfl) ?_
   refine RL.nil ?_
   refine thnN ?_
   refine W.seq ?_
   refine W.region ?_
   refine RL.opD (by decide) (opv_assign rfl rfl) ?_
   refine RL.nil ?_
   refine thnN ?_
   refine W.seq ?_
   refine W.region ?_
   refine RL.opD (by decide) (opv_assign rfl rfl) ?_
   refine RL.nil ?_
   refine thnN ?_
   refine W.seq ?_
   refine W.seq ?_
   refine W.region ?_
   refine RL.opD (by decide) (opv_assign rfl rfl) ?_
   refine RL.nil ?_
   refine thnN ?_
   obtain ⟨y2, hy2, hp⟩ := Option.bind_eq_some_iff.1 hp
   refine W.cut (fun φ' h' => ∃ x13, ∃ x14, ∃ x15, ∃ x16, ∃ x17, ∃ x18, ∃ v8, ∃ v9, ∃ v10, y2 = .inl (x13, x14, x15, x16, x17, x18) ∧ Fr.sub [(0, u0), (1, u1), (22, (.bool x1)), (5, (.int .i64 (IntKind.wrap .i64 (1 + x2)))), (6, v1), (7, v2), (8, (.bool x4.2)), (9, v3), (10, (.bool x5.2)), (11, v4), (12, (.bool x6.2)), (71, (.bool x7)), (4, (.bool x13)), (13, v8), (14, v9), (15, v10), (16, (.int .i64 x17)), (74, (.bool x18))] φ' ∧ IsF .f64 v8 x14 ∧ IsF .f64 v9 x15 ∧ IsF .f64 v10 x16 ∧ hp4 = h') ?_ ?_
   ·refine W.block ?_
    refine W.loopS (fun (s : (Bool × (Option Nat) × (Option Nat) × (Option Nat) × Int)) φ' h' => ∃ v5, ∃ v6, ∃ v7, Fr.sub [(0, u0), (1, u1), (22, (.bool x1)), (5, (.int .i64 (IntKind.wrap .i64 (1 + x2)))), (6, v1), (7, v2), (8, (.bool x4.2)), (9, v3), (10, (.bool x5.2)), (11, v4), (12, (.bool x6.2)), (71, (.bool x7)), (4, (.bool s.1)), (13, v5), (14, v6), (15, v7), (16, (.int .i64 s.2.2.2.2))] φ' ∧ IsF .f64 v5 s.2.1 ∧ IsF .f64 v6 s.2.2.1 ∧ IsF .f64 v7 s.2.2.2.1 ∧ hp4 = h') hy2 ⟨(.float .f64 0), (.float .f64 0), (.float .f64 0), ⟨rfl, rfl, rfl, rfl, rfl, rfl, rfl, rfl, rfl, rfl, rfl, rfl, rfl, rfl, rfl, rfl, rfl, trivial⟩, (isF_lit .f64 0 (by decide) (by decide)), (isF_lit .f64 0 (by decide) (by decide)), (isF_lit .f64 0 (by decide) (by decide)), rfl⟩ ?_
    rintro ⟨x8, x9, x10, x11, x12⟩ φ' _ o1 ⟨v5, v6, v7, hs2, fv5, fv6, fv7, rfl⟩ ho1 hy1
    have hs2 : Fr.sub [(0, u0), (1, u1), (22, (.bool x1)), (5, (.int .i64 (IntKind.wrap .i64 (1 + x2)))), (6, v1), (7, v2), (8, (.bool x4.2)), (9, v3), (10, (.bool x5.2)), (11, v4), (12, (.bool x6.2)), (71, (.bool x7)), (4, (.bool x8)), (13, v5), (14, v6), (15, v7), (16, (.int .i64 x12))] φ' := hs2
    have fv5 : IsF .f64 v5 x9 := fv5
    have fv6 : IsF .f64 v6 x10 := fv6
    have fv7 : IsF .f64 v7 x11 := fv7
    have ho1 : laws_FnSpectra.s0 x2 x3 x4 x5 x6 x8 x9 x10 x11 x12 = some o1 := ho1
    unfold laws_FnSpectra.s0 at ho1
    refine W.sub hs2 ?_
    refine W.seq ?_
    refine W.seq ?_
    refine W.region ?_
    refine RL.opD (by decide) (opv_move rfl rfl) ?_
    refine RL.opD (by decide) (opv_move rfl rfl) ?_
    refine RL.opD (by decide) (opv_icmp rfl rfl rfl rfl) ?_
    refine RL.nil ?_
    refine thnN ?_
    by_cases c8 : (decide (x12 < (IntKind.wrap .i64 (1 + x2)))) = true
    ·rw [if_pos c8] at ho1
     refine W.condT rfl c8 ?_
     refine W.skip ?_
     refine thnN ?_
     refine W.seq ?_
     refine W.block ?_
     refine W.seq ?_
     refine W.region ?_
     refine RL.opD (by decide) (opv_move rfl rfl) ?_
     refine RL.opD (by decide) (opv_move rfl rfl) ?_
     refine RL.opD (by decide) (opv_move rfl rfl) ?_
     obtain ⟨x19, hx19, ho1⟩ := Option.bind_eq_some_iff.1 ho1
     refine RL.op _ (by decide) (opv_index rfl Try.underlying25 (by rw [Try.size29]; rfl) rfl rfl (ownO.read (Sep.at (o := ownO (kF .f32) 29 v1 x3) S_4 3 rfl)) hx19) ?_
     rintro v11 _ ⟨fv11, rfl⟩
     refine RL.opF (by decide) (opv_loadF rfl Try.one29 rfl fv11 (ownO.read (Sep.at (o := ownO (kF .f32) 29 v1 x3) S_4 3 rfl)) hx19) ?_
     intro v12 fv12
     refine RL.opF (by decide) (opv_widen rfl (by rw [Try.underlying29]; rfl) Try.underlying43 rfl fv12) ?_
     intro v13 fv13
     refine RL.opF (by decide) (opv_fop rfl rfl rfl rfl fv5 fv13) ?_
     intro v14 fv14
     refine RL.opD (by decide) (opv_assign rfl rfl) ?_
     refine RL.nil ?_
     refine thnN ?_
     refine W.seq ?_
     obtain ⟨x20, hx20, ho1⟩ := Option.bind_eq_some_iff.1 ho1
     obtain ⟨x21, hx21, ho1⟩ := Option.bind_eq_some_iff.1 ho1
     refine W.sub (ψ := [(0, u0), (1, u1), (22, (.bool x1)), (5, (.int .i64 (IntKind.wrap .i64 (1 + x2)))), (6, v1), (7, v2), (8, (.bool x4.2)), (9, v3), (10, (.bool x5.2)), (11, v4), (12, (.bool x6.2)), (71, (.bool x7)), (4, (.bool x8)), (13, v14), (14, v6), (15, v7), (16, (.int .i64 x12)), (74, (.bool (decide (x12 < (IntKind.wrap .i64 (1 + x2))))))]) ⟨rfl, rfl, rfl, rfl, rfl, rfl, rfl, rfl, rfl, rfl, rfl, rfl, rfl, rfl, rfl, rfl, rfl, rfl, trivial⟩ ?_
     refine W.regionP [fun v _ => IsF .f64 v x10, fun v _ => @Eq Value v1 v, fun v _ => @Eq Value (.int .i64 x12) v, fun v _ => PtI 1 v v1 (Int.toNat x12), fun v _ => IsF .f32 v x20, fun v _ => IsF .f64 v (wid x20), fun v _ => @Eq Value v1 v, fun v _ => @Eq Value (.int .i64 x12) v, fun v _ => PtI 1 v v1 (Int.toNat x12), fun v _ => IsF .f32 v x21, fun v _ => IsF .f64 v (wid x21), fun v _ => IsF .f64 v (fop .mul .f64 (wid x20) (wid x21)), fun v _ => IsF .f64 v (fop .add .f64 x10 (fop .mul .f64 (wid x20) (wid x21)))] [[], [], [], [1, 2], [3], [4], [], [], [6, 7], [8], [9], [5, 10], [0, 11]] [12] Try.mixed (by decide +kernel) (by decide +kernel) rfl rfl rfl ?_ ?_
     ·refine ⟨⟨rfl, ?_⟩, ⟨rfl, ?_⟩, ⟨rfl, ?_⟩, ⟨rfl, ?_⟩, ⟨rfl, ?_⟩, ⟨rfl, ?_⟩, ⟨rfl, ?_⟩, ⟨rfl, ?_⟩, ⟨rfl, ?_⟩, ⟨rfl, ?_⟩, ⟨rfl, ?_⟩, ⟨rfl, ?_⟩, ⟨rfl, ?_⟩, trivial⟩
      ·rintro _ rfl
       refine Dep.nil ?_
       refine GuardOK.none rfl ?_
       exact OpV.toD (opv_move rfl rfl) fv6
      ·rintro _ rfl
       refine Dep.nil ?_
       refine GuardOK.none rfl ?_
       exact OpV.toD (opv_move rfl rfl) rfl
      ·rintro _ rfl
       refine Dep.nil ?_
       refine GuardOK.none rfl ?_
       exact OpV.toD (opv_move rfl rfl) rfl
      ·rintro _ rfl _ rfl _ rfl
       refine Dep.nil ?_
       refine GuardOK.none rfl ?_
       exact OpV.toS (opv_index rfl Try.underlying25 (by rw [Try.size29]; rfl) rfl rfl (ownO.read (Sep.at (o := ownO (kF .f32) 29 v1 x3) S_4 3 rfl)) hx20) (fun _ h => h)
      ·rintro _ rfl v16 fv16
       refine Dep.nil ?_
       refine GuardOK.none rfl ?_
       exact OpV.toS (opv_loadF rfl Try.one29 rfl fv16 (ownO.read (Sep.at (o := ownO (kF .f32) 29 v1 x3) S_4 3 rfl)) hx20) (fun _ h => h)
      ·rintro _ rfl v17 fv17
       refine Dep.nil ?_
       refine GuardOK.none rfl ?_
       exact OpV.toS (opv_widen rfl (by rw [Try.underlying29]; rfl) Try.underlying43 rfl fv17) (fun _ h => h)
      ·rintro _ rfl
       refine Dep.nil ?_
       refine GuardOK.none rfl ?_
       exact OpV.toD (opv_move rfl rfl) rfl
      ·rintro _ rfl
       refine Dep.nil ?_
       refine GuardOK.none rfl ?_
       exact OpV.toD (opv_move rfl rfl) rfl
      ·rintro _ rfl _ rfl _ rfl
       refine Dep.nil ?_
       refine GuardOK.none rfl ?_
       exact OpV.toS (opv_index rfl Try.underlying25 (by rw [Try.size29]; rfl) rfl rfl (ownO.read (Sep.at (o := ownO (kF .f32) 29 v1 x3) S_4 3 rfl)) hx21) (fun _ h => h)
      ·rintro _ rfl v19 fv19
       refine Dep.nil ?_
       refine GuardOK.none rfl ?_
       exact OpV.toS (opv_loadF rfl Try.one29 rfl fv19 (ownO.read (Sep.at (o := ownO (kF .f32) 29 v1 x3) S_4 3 rfl)) hx21) (fun _ h => h)
      ·rintro _ rfl v20 fv20
       refine Dep.nil ?_
       refine GuardOK.none rfl ?_
       exact OpV.toS (opv_widen rfl (by rw [Try.underlying29]; rfl) Try.underlying43 rfl fv20) (fun _ h => h)
      ·rintro _ rfl v18 fv18 v21 fv21
       refine Dep.nil ?_
       refine GuardOK.none rfl ?_
       exact OpV.toS (opv_fop rfl rfl rfl rfl fv18 fv21) (fun _ h => h)
      ·rintro _ rfl v15 fv15 v22 fv22
       refine Dep.nil ?_
       refine GuardOK.none rfl ?_
       exact OpV.toS (opv_fop rfl rfl rfl rfl fv15 fv22) (fun _ h => h)
     rintro v23 fv23
     refine Dep.nil ?_
     show RL _ _ _ _ (_ :: _) _ _
     refine RL.opD (by decide) (opv_assign rfl rfl) ?_
     refine RL.nil ?_
     refine thnN ?_
     refine W.seq ?_
     refine W.region ?_
     refine RL.opD (by decide) (opv_move rfl rfl) ?_
     refine RL.opD (by decide) (opv_move rfl rfl) ?_
     refine RL.opD (by decide) (opv_move rfl rfl) ?_
     obtain ⟨x22, hx22, ho1⟩ := Option.bind_eq_some_iff.1 ho1
     refine RL.op _ (by decide) (opv_index rfl Try.underlying25 (by rw [Try.size29]; rfl) rfl rfl (ownO.read (Sep.at (o := ownO (kF .f32) 29 v4 x6.1) S_4 0 rfl)) hx22) ?_
     rintro v25 _ ⟨fv25, rfl⟩
     refine RL.opF (by decide) (opv_loadF rfl Try.one29 rfl fv25 (ownO.read (Sep.at (o := ownO (kF .f32) 29 v4 x6.1) S_4 0 rfl)) hx22) ?_
     intro v26 fv26
     refine RL.opF (by decide) (opv_widen rfl (by rw [Try.underlying29]; rfl) Try.underlying43 rfl fv26) ?_
     intro v27 fv27
     refine RL.opF (by decide) (opv_fop rfl rfl rfl rfl fv7 fv27) ?_
     intro v28 fv28
     refine RL.opD (by decide) (opv_assign rfl rfl) ?_
     refine RL.nil ?_
     refine thnN ?_
     refine W.seq ?_
     obtain ⟨x23, hy3, ho1⟩ := Option.bind_eq_some_iff.1 ho1
     refine W.cut (fun φ' h' => Fr.sub [(0, u0), (1, u1), (22, (.bool x1)), (5, (.int .i64 (IntKind.wrap .i64 (1 + x2)))), (6, v1), (7, v2), (8, (.bool x4.2)), (9, v3), (10, (.bool x5.2)), (11, v4), (12, (.bool x6.2)), (71, (.bool x7)), (4, (.bool x8)), (13, v14), (14, v23), (15, v28), (16, (.int .i64 x12)), (74, (.bool (decide (x12 < (IntKind.wrap .i64 (1 + x2)))))), (134, (.bool x23))] φ' ∧ hp4 = h') ?_ ?_
     ·obtain ⟨x24, hx24, hy3⟩ := Option.bind_eq_some_iff.1 hy3
      obtain ⟨x25, hx25, hy3⟩ := Option.bind_eq_some_iff.1 hy3
      obtain ⟨x26, hx26, hy3⟩ := Option.bind_eq_some_iff.1 hy3
      by_cases c9 : (fcmp .gtr .f64 x26 (some 4562254508917369340)) = true
      ·rw [if_pos c9] at hy3
       refine W.sub (ψ := [(0, u0), (1, u1), (22, (.bool x1)), (5, (.int .i64 (IntKind.wrap .i64 (1 + x2)))), (6, v1), (7, v2), (8, (.bool x4.2)), (9, v3), (10, (.bool x5.2)), (11, v4), (12, (.bool x6.2)), (71, (.bool x7)), (4, (.bool x8)), (13, v14), (14, v23), (15, v28), (16, (.int .i64 x12)), (74, (.bool (decide (x12 < (IntKind.wrap .i64 (1 + x2))))))]) ⟨rfl, rfl, rfl, rfl, rfl, rfl, rfl, rfl, rfl, rfl, rfl, rfl, rfl, rfl, rfl, rfl, rfl, rfl, trivial⟩ ?_
       refine W.regionP [fun v _ => @Eq Value v3 v, fun v _ => @Eq Value (.int .i64 x12) v, fun v _ => PtI 1 v v3 (Int.toNat x12), fun v _ => IsF .f32 v x24, fun v _ => IsF .f64 v (wid x24), fun v _ => @Eq Value v1 v, fun v _ => @Eq Value (.int .i64 x12) v, fun v _ => PtI 1 v v1 (Int.toNat x12), fun v _ => IsF .f32 v x25, fun v _ => IsF .f64 v (wid x25), fun v _ => IsF .f64 v x26, fun v _ => @Eq Value (.bool (fcmp .gtr .f64 x26 (some 4562254508917369340))) v, fun v _ => @Eq Value (.bool (fcmp .gtr .f64 x26 (some 4562254508917369340))) v, fun v _ => @Eq Value undef v, fun v _ => @Eq Value undef v, fun v _ => @Eq Value undef v, fun v _ => @Eq Value undef v, fun v _ => @Eq Value undef v, fun v _ => @Eq Value undef v, fun v _ => @Eq Value undef v, fun v _ => @Eq Value undef v, fun v _ => @Eq Value undef v, fun v _ => @Eq Value undef v, fun v _ => @Eq Value undef v, fun v _ => @Eq Value undef v, fun v _ => @Eq Value undef v, fun v _ => @Eq Value undef v, fun v _ => @Eq Value undef v, fun v _ => @Eq Value undef v, fun v _ => @Eq Value undef v, fun v _ => @Eq Value (.bool true) v] [[], [], [0, 1], [2], [3], [], [], [5, 6], [7], [8], [4, 9], [10], [11], [12], [12], [12], [15], [15], [15], [15], [15], [15], [15], [15], [15], [15], [15], [15], [15], [12], [12]] [30] Try.mixed (by decide +kernel) (by decide +kernel) rfl rfl rfl ?_ ?_
       ·refine ⟨⟨rfl, ?_⟩, ⟨rfl, ?_⟩, ⟨rfl, ?_⟩, ⟨rfl, ?_⟩, ⟨rfl, ?_⟩, ⟨rfl, ?_⟩, ⟨rfl, ?_⟩, ⟨rfl, ?_⟩, ⟨rfl, ?_⟩, ⟨rfl, ?_⟩, ⟨rfl, ?_⟩, ⟨rfl, ?_⟩, ⟨rfl, ?_⟩, ⟨rfl, ?_⟩, ⟨rfl, ?_⟩, ⟨rfl, ?_⟩, ⟨rfl, ?_⟩, ⟨rfl, ?_⟩, ⟨rfl, ?_⟩, ⟨rfl, ?_⟩, ⟨rfl, ?_⟩, ⟨rfl, ?_⟩, ⟨rfl, ?_⟩, ⟨rfl, ?_⟩, ⟨rfl, ?_⟩, ⟨rfl, ?_⟩, ⟨rfl, ?_⟩, ⟨rfl, ?_⟩, ⟨rfl, ?_⟩, ⟨rfl, ?_⟩, ⟨rfl, ?_⟩, trivial⟩
        ·rintro _ rfl
         refine Dep.nil ?_
         refine GuardOK.none rfl ?_
         exact OpV.toD (opv_move rfl rfl) rfl
        ·rintro _ rfl
         refine Dep.nil ?_
         refine GuardOK.none rfl ?_
         exact OpV.toD (opv_move rfl rfl) rfl
        ·rintro _ rfl _ rfl _ rfl
         refine Dep.nil ?_
         refine GuardOK.none rfl ?_
         exact OpV.toS (opv_index rfl Try.underlying25 (by rw [Try.size29]; rfl) rfl rfl (ownO.read (Sep.at (o := ownO (kF .f32) 29 v3 x5.1) S_4 1 rfl)) hx24) (fun _ h => h)
        ·rintro _ rfl v29 fv29
         refine Dep.nil ?_
         refine GuardOK.none rfl ?_
         exact OpV.toS (opv_loadF rfl Try.one29 rfl fv29 (ownO.read (Sep.at (o := ownO (kF .f32) 29 v3 x5.1) S_4 1 rfl)) hx24) (fun _ h => h)
        ·rintro _ rfl v30 fv30
         refine Dep.nil ?_
         refine GuardOK.none rfl ?_
         exact OpV.toS (opv_widen rfl (by rw [Try.underlying29]; rfl) Try.underlying43 rfl fv30) (fun _ h => h)
        ·rintro _ rfl
         refine Dep.nil ?_
         refine GuardOK.none rfl ?_
         exact OpV.toD (opv_move rfl rfl) rfl
        ·rintro _ rfl
         refine Dep.nil ?_
         refine GuardOK.none rfl ?_
         exact OpV.toD (opv_move rfl rfl) rfl
        ·rintro _ rfl _ rfl _ rfl
         refine Dep.nil ?_
         refine GuardOK.none rfl ?_
         exact OpV.toS (opv_index rfl Try.underlying25 (by rw [Try.size29]; rfl) rfl rfl (ownO.read (Sep.at (o := ownO (kF .f32) 29 v1 x3) S_4 3 rfl)) hx25) (fun _ h => h)
        ·rintro _ rfl v32 fv32
         refine Dep.nil ?_
         refine GuardOK.none rfl ?_
         exact OpV.toS (opv_loadF rfl Try.one29 rfl fv32 (ownO.read (Sep.at (o := ownO (kF .f32) 29 v1 x3) S_4 3 rfl)) hx25) (fun _ h => h)
        ·rintro _ rfl v33 fv33
         refine Dep.nil ?_
         refine GuardOK.none rfl ?_
         exact OpV.toS (opv_widen rfl (by rw [Try.underlying29]; rfl) Try.underlying43 rfl fv33) (fun _ h => h)
        ·rintro _ rfl v31 fv31 v34 fv34
         refine Dep.nil ?_
         refine GuardOK.none rfl ?_
         exact OpV.mono (opv_call (cap := []) (laws_r8Gap_ok _ _ _ fv31 _ _ fv34 _ hx26) rfl rfl ⟨rfl, rfl, trivial⟩ Try.func21 rfl rfl) (by rintro v35 _ ⟨fv35, rfl⟩; exact ⟨rfl, fv35⟩)
        ·rintro _ rfl v35 fv35
         refine Dep.nil ?_
         refine GuardOK.none rfl ?_
         exact OpV.toD (opv_fcmp rfl rfl rfl rfl fv35 (isF_lit .f64 4562254508917369340 (by decide) (by decide))) rfl
        ·rintro _ rfl _ rfl
         refine Dep.nil ?_
         refine GuardOK.none rfl ?_
         exact OpV.toD (opv_move rfl rfl) rfl
        ·rintro _ rfl _ rfl
         refine Dep.nil ?_
         refine GuardOK.pass rfl rfl rfl (Eq.trans c9 (by decide)) ⟨rfl, rfl⟩
        ·rintro _ rfl _ rfl
         refine Dep.nil ?_
         refine GuardOK.pass rfl rfl rfl (Eq.trans c9 (by decide)) ⟨rfl, rfl⟩
        ·rintro _ rfl _ rfl
         refine Dep.nil ?_
         refine GuardOK.pass rfl rfl rfl (Eq.trans c9 (by decide)) ⟨rfl, rfl⟩
        ·rintro _ rfl _ rfl
         refine Dep.nil ?_
         refine GuardOK.passU rfl rfl rfl ⟨rfl, rfl⟩
        ·rintro _ rfl _ rfl
         refine Dep.nil ?_
         refine GuardOK.passU rfl rfl rfl ⟨rfl, rfl⟩
        ·rintro _ rfl _ rfl
         refine Dep.nil ?_
         refine GuardOK.passU rfl rfl rfl ⟨rfl, rfl⟩
        ·rintro _ rfl _ rfl
         refine Dep.nil ?_
         refine GuardOK.passU rfl rfl rfl ⟨rfl, rfl⟩
        ·rintro _ rfl _ rfl
         refine Dep.nil ?_
         refine GuardOK.passU rfl rfl rfl ⟨rfl, rfl⟩
        ·rintro _ rfl _ rfl
         refine Dep.nil ?_
         refine GuardOK.passU rfl rfl rfl ⟨rfl, rfl⟩
        ·rintro _ rfl _ rfl
         refine Dep.nil ?_
         refine GuardOK.passU rfl rfl rfl ⟨rfl, rfl⟩
        ·rintro _ rfl _ rfl
         refine Dep.nil ?_
         refine GuardOK.passU rfl rfl rfl ⟨rfl, rfl⟩
        ·rintro _ rfl _ rfl
         refine Dep.nil ?_
         refine GuardOK.passU rfl rfl rfl ⟨rfl, rfl⟩
        ·rintro _ rfl _ rfl
         refine Dep.nil ?_
         refine GuardOK.passU rfl rfl rfl ⟨rfl, rfl⟩
        ·rintro _ rfl _ rfl
         refine Dep.nil ?_
         refine GuardOK.passU rfl rfl rfl ⟨rfl, rfl⟩
        ·rintro _ rfl _ rfl
         refine Dep.nil ?_
         refine GuardOK.passU rfl rfl rfl ⟨rfl, rfl⟩
        ·rintro _ rfl _ rfl
         refine Dep.nil ?_
         refine GuardOK.passU rfl rfl rfl ⟨rfl, rfl⟩
        ·rintro _ rfl _ rfl
         refine Dep.nil ?_
         refine GuardOK.pass rfl rfl rfl (Eq.trans c9 (by decide)) ⟨rfl, rfl⟩
        ·rintro _ rfl _ rfl
         refine Dep.nil ?_
         refine GuardOK.none rfl ?_
         exact OpV.toD (opv_pick rfl rfl (fun _ => rfl) (fun e => absurd (Eq.trans (Eq.symm e) c9) (by decide)) rfl) rfl
       rintro _ rfl
       refine Dep.nil ?_
       show RL _ _ _ _ [] _ _
       refine RL.nil ?_
       have ey3 := Option.some.inj hy3
       subst ey3
       refine onlyN ?_
       exact ⟨⟨rfl, rfl, rfl, rfl, rfl, rfl, rfl, rfl, rfl, rfl, rfl, rfl, rfl, rfl, rfl, rfl, rfl, rfl, rfl, trivial⟩, rfl⟩
      ·rw [if_neg c9] at hy3
       have c9 := eq_false_of_ne_true c9
       by_cases c10 : (decide (x12 > 0)) = true
       ·rw [if_pos c10] at hy3
        obtain ⟨x27, hx27, hy3⟩ := Option.bind_eq_some_iff.1 hy3
        obtain ⟨x28, hx28, hy3⟩ := Option.bind_eq_some_iff.1 hy3
        obtain ⟨x29, hx29, hy3⟩ := Option.bind_eq_some_iff.1 hy3
        obtain ⟨x30, hx30, hy3⟩ := Option.bind_eq_some_iff.1 hy3
        refine W.sub (ψ := [(0, u0), (1, u1), (22, (.bool x1)), (5, (.int .i64 (IntKind.wrap .i64 (1 + x2)))), (6, v1), (7, v2), (8, (.bool x4.2)), (9, v3), (10, (.bool x5.2)), (11, v4), (12, (.bool x6.2)), (71, (.bool x7)), (4, (.bool x8)), (13, v14), (14, v23), (15, v28), (16, (.int .i64 x12)), (74, (.bool (decide (x12 < (IntKind.wrap .i64 (1 + x2))))))]) ⟨rfl, rfl, rfl, rfl, rfl, rfl, rfl, rfl, rfl, rfl, rfl, rfl, rfl, rfl, rfl, rfl, rfl, rfl, trivial⟩ ?_
        refine W.regionP [fun v _ => @Eq Value v3 v, fun v _ => @Eq Value (.int .i64 x12) v, fun v _ => PtI 1 v v3 (Int.toNat x12), fun v _ => IsF .f32 v x24, fun v _ => IsF .f64 v (wid x24), fun v _ => @Eq Value v1 v, fun v _ => @Eq Value (.int .i64 x12) v, fun v _ => PtI 1 v v1 (Int.toNat x12), fun v _ => IsF .f32 v x25, fun v _ => IsF .f64 v (wid x25), fun v _ => IsF .f64 v x26, fun v _ => @Eq Value (.bool (fcmp .gtr .f64 x26 (some 4562254508917369340))) v, fun v _ => @Eq Value (.bool (fcmp .gtr .f64 x26 (some 4562254508917369340))) v, fun v _ => @Eq Value (.int .i64 x12) v, fun v _ => @Eq Value (.bool (decide (x12 > 0))) v, fun v _ => @Eq Value (.bool (decide (x12 > 0))) v, fun v _ => @Eq Value v2 v, fun v _ => @Eq Value (.int .i64 (IntKind.wrap .i64 (1 + x2))) v, fun v _ => @Eq Value (.int .i64 x12) v, fun v _ => @Eq Value (.int .i64 (IntKind.wrap .i64 ((IntKind.wrap .i64 (1 + x2)) - x12))) v, fun v _ => PtI 1 v v2 (Int.toNat (IntKind.wrap .i64 ((IntKind.wrap .i64 (1 + x2)) - x12))), fun v _ => IsC .f32 v x27, fun v _ => @Eq Value v2 v, fun v _ => @Eq Value (.int .i64 x12) v, fun v _ => PtI 1 v v2 (Int.toNat x12), fun v _ => IsC .f32 v x28, fun v _ => IsC .f32 v x29, fun v _ => IsF .f64 v x30, fun v _ => @Eq Value (.bool (fcmp .gtr .f64 x30 (some 4562254508917369340))) v, fun v _ => @Eq Value (.bool (fcmp .gtr .f64 x30 (some 4562254508917369340))) v, fun v _ => @Eq Value (.bool (fcmp .gtr .f64 x30 (some 4562254508917369340))) v] [[], [], [0, 1], [2], [3], [], [], [5, 6], [7], [8], [4, 9], [10], [11], [12], [13, 12], [14, 12], [15], [15], [15], [17, 18, 15], [16, 19, 15], [20, 15], [15], [15], [22, 23, 15], [24, 15], [25, 15], [21, 26, 15], [27, 15], [15, 28, 12], [12, 29]] [30] Try.mixed (by decide +kernel) (by decide +kernel) rfl rfl rfl ?_ ?_
        ·refine ⟨⟨rfl, ?_⟩, ⟨rfl, ?_⟩, ⟨rfl, ?_⟩, ⟨rfl, ?_⟩, ⟨rfl, ?_⟩, ⟨rfl, ?_⟩, ⟨rfl, ?_⟩, ⟨rfl, ?_⟩, ⟨rfl, ?_⟩, ⟨rfl, ?_⟩, ⟨rfl, ?_⟩, ⟨rfl, ?_⟩, ⟨rfl, ?_⟩, ⟨rfl, ?_⟩, ⟨rfl, ?_⟩, ⟨rfl, ?_⟩, ⟨rfl, ?_⟩, ⟨rfl, ?_⟩, ⟨rfl, ?_⟩, ⟨rfl, ?_⟩, ⟨rfl, ?_⟩, ⟨rfl, ?_⟩, ⟨rfl, ?_⟩, ⟨rfl, ?_⟩, ⟨rfl, ?_⟩, ⟨rfl, ?_⟩, ⟨rfl, ?_⟩, ⟨rfl, ?_⟩, ⟨rfl, ?_⟩, ⟨rfl, ?_⟩, ⟨rfl, ?_⟩, trivial⟩
         ·rintro _ rfl
          refine Dep.nil ?_
          refine GuardOK.none rfl ?_
          exact OpV.toD (opv_move rfl rfl) rfl
         ·rintro _ rfl
          refine Dep.nil ?_
          refine GuardOK.none rfl ?_
          exact OpV.toD (opv_move rfl rfl) rfl
         ·rintro _ rfl _ rfl _ rfl
          refine Dep.nil ?_
          refine GuardOK.none rfl ?_
          exact OpV.toS (opv_index rfl Try.underlying25 (by rw [Try.size29]; rfl) rfl rfl (ownO.read (Sep.at (o := ownO (kF .f32) 29 v3 x5.1) S_4 1 rfl)) hx24) (fun _ h => h)
         ·rintro _ rfl v29 fv29
          refine Dep.nil ?_
          refine GuardOK.none rfl ?_
          exact OpV.toS (opv_loadF rfl Try.one29 rfl fv29 (ownO.read (Sep.at (o := ownO (kF .f32) 29 v3 x5.1) S_4 1 rfl)) hx24) (fun _ h => h)
         ·rintro _ rfl v30 fv30
          refine Dep.nil ?_
          refine GuardOK.none rfl ?_
          exact OpV.toS (opv_widen rfl (by rw [Try.underlying29]; rfl) Try.underlying43 rfl fv30) (fun _ h => h)
         ·rintro _ rfl
          refine Dep.nil ?_
          refine GuardOK.none rfl ?_
          exact OpV.toD (opv_move rfl rfl) rfl
         ·rintro _ rfl
          refine Dep.nil ?_
          refine GuardOK.none rfl ?_
          exact OpV.toD (opv_move rfl rfl) rfl
         ·rintro _ rfl _ rfl _ rfl
          refine Dep.nil ?_
          refine GuardOK.none rfl ?_
          exact OpV.toS (opv_index rfl Try.underlying25 (by rw [Try.size29]; rfl) rfl rfl (ownO.read (Sep.at (o := ownO (kF .f32) 29 v1 x3) S_4 3 rfl)) hx25) (fun _ h => h)
         ·rintro _ rfl v32 fv32
          refine Dep.nil ?_
          refine GuardOK.none rfl ?_
          exact OpV.toS (opv_loadF rfl Try.one29 rfl fv32 (ownO.read (Sep.at (o := ownO (kF .f32) 29 v1 x3) S_4 3 rfl)) hx25) (fun _ h => h)
         ·rintro _ rfl v33 fv33
          refine Dep.nil ?_
          refine GuardOK.none rfl ?_
          exact OpV.toS (opv_widen rfl (by rw [Try.underlying29]; rfl) Try.underlying43 rfl fv33) (fun _ h => h)
         ·rintro _ rfl v31 fv31 v34 fv34
          refine Dep.nil ?_
          refine GuardOK.none rfl ?_
          exact OpV.mono (opv_call (cap := []) (laws_r8Gap_ok _ _ _ fv31 _ _ fv34 _ hx26) rfl rfl ⟨rfl, rfl, trivial⟩ Try.func21 rfl rfl) (by rintro v35 _ ⟨fv35, rfl⟩; exact ⟨rfl, fv35⟩)
         ·rintro _ rfl v35 fv35
          refine Dep.nil ?_
          refine GuardOK.none rfl ?_
          exact OpV.toD (opv_fcmp rfl rfl rfl rfl fv35 (isF_lit .f64 4562254508917369340 (by decide) (by decide))) rfl
         ·rintro _ rfl _ rfl
          refine Dep.nil ?_
          refine GuardOK.none rfl ?_
          exact OpV.toD (opv_move rfl rfl) rfl
         ·rintro _ rfl _ rfl
          refine Dep.nil ?_
          refine GuardOK.some rfl rfl rfl c9 ?_
          exact OpV.toD (opv_move rfl rfl) rfl
         ·rintro _ rfl _ rfl _ rfl
          refine Dep.nil ?_
          refine GuardOK.some rfl rfl rfl c9 ?_
          exact OpV.toD (opv_icmp rfl rfl rfl rfl) rfl
         ·rintro _ rfl _ rfl _ rfl
          refine Dep.nil ?_
          refine GuardOK.some rfl rfl rfl c9 ?_
          exact OpV.toD (opv_move rfl rfl) rfl
         ·rintro _ rfl _ rfl
          refine Dep.nil ?_
          refine GuardOK.some rfl rfl rfl c10 ?_
          exact OpV.toD (opv_move rfl rfl) rfl
         ·rintro _ rfl _ rfl
          refine Dep.nil ?_
          refine GuardOK.some rfl rfl rfl c10 ?_
          exact OpV.toD (opv_move rfl rfl) rfl
         ·rintro _ rfl _ rfl
          refine Dep.nil ?_
          refine GuardOK.some rfl rfl rfl c10 ?_
          exact OpV.toD (opv_move rfl rfl) rfl
         ·rintro _ rfl _ rfl _ rfl _ rfl
          refine Dep.nil ?_
          refine GuardOK.some rfl rfl rfl c10 ?_
          exact OpV.toD (opv_sub rfl rfl rfl) rfl
         ·rintro _ rfl _ rfl _ rfl _ rfl
          refine Dep.nil ?_
          refine GuardOK.some rfl rfl rfl c10 ?_
          exact OpV.toS (opv_index rfl Try.underlying59 (by rw [Try.size45]; rfl) rfl rfl (ownO.read (Sep.at (o := ownO (kC .f32) 45 v2 x4.1) S_4 2 rfl)) hx27) (fun _ h => h)
         ·rintro _ rfl v36 fv36 _ rfl
          refine Dep.nil ?_
          refine GuardOK.some rfl rfl rfl c10 ?_
          exact OpV.toS (opv_loadC rfl Try.one45 rfl fv36 (ownO.read (Sep.at (o := ownO (kC .f32) 45 v2 x4.1) S_4 2 rfl)) hx27) (fun _ h => h)
         ·rintro _ rfl _ rfl
          refine Dep.nil ?_
          refine GuardOK.some rfl rfl rfl c10 ?_
          exact OpV.toD (opv_move rfl rfl) rfl
         ·rintro _ rfl _ rfl
          refine Dep.nil ?_
          refine GuardOK.some rfl rfl rfl c10 ?_
          exact OpV.toD (opv_move rfl rfl) rfl
         ·rintro _ rfl _ rfl _ rfl _ rfl
          refine Dep.nil ?_
          refine GuardOK.some rfl rfl rfl c10 ?_
          exact OpV.toS (opv_index rfl Try.underlying59 (by rw [Try.size45]; rfl) rfl rfl (ownO.read (Sep.at (o := ownO (kC .f32) 45 v2 x4.1) S_4 2 rfl)) hx28) (fun _ h => h)
         ·rintro _ rfl v38 fv38 _ rfl
          refine Dep.nil ?_
          refine GuardOK.some rfl rfl rfl c10 ?_
          exact OpV.toS (opv_loadC rfl Try.one45 rfl fv38 (ownO.read (Sep.at (o := ownO (kC .f32) 45 v2 x4.1) S_4 2 rfl)) hx28) (fun _ h => h)
         ·rintro _ rfl v39 fv39 _ rfl
          refine Dep.nil ?_
          refine GuardOK.some rfl rfl rfl c10 ?_
          exact OpV.mono (opv_call (cap := []) (impl_ConjugateOf_ok _ _ _ fv39 _ hx29) rfl rfl ⟨rfl, trivial⟩ Try.func61 rfl rfl) (by rintro v40 _ ⟨fv40, rfl⟩; exact ⟨rfl, fv40⟩)
         ·rintro _ rfl v37 fv37 v40 fv40 _ rfl
          refine Dep.nil ?_
          refine GuardOK.some rfl rfl rfl c10 ?_
          exact OpV.mono (opv_call (cap := []) (laws_r8Apart_ok _ _ _ fv37 _ _ fv40 _ hx30) rfl rfl ⟨rfl, rfl, trivial⟩ Try.func34 rfl rfl) (by rintro v41 _ ⟨fv41, rfl⟩; exact ⟨rfl, fv41⟩)
         ·rintro _ rfl v41 fv41 _ rfl
          refine Dep.nil ?_
          refine GuardOK.some rfl rfl rfl c10 ?_
          exact OpV.toD (opv_fcmp rfl rfl rfl rfl fv41 (isF_lit .f64 4562254508917369340 (by decide) (by decide))) rfl
         ·rintro _ rfl _ rfl _ rfl _ rfl
          refine Dep.nil ?_
          refine GuardOK.some rfl rfl rfl c9 ?_
          exact OpV.toD (opv_pick rfl rfl (fun _ => rfl) (fun e => absurd (Eq.trans (Eq.symm e) c10) (by decide)) rfl) rfl
         ·rintro _ rfl _ rfl _ rfl
          refine Dep.nil ?_
          refine GuardOK.none rfl ?_
          exact OpV.toD (opv_pick rfl rfl (fun e => absurd (Eq.trans (Eq.symm e) c9) (by decide)) (fun _ => rfl) rfl) rfl
        rintro _ rfl
        refine Dep.nil ?_
        show RL _ _ _ _ [] _ _
        refine RL.nil ?_
        have ey3 := Option.some.inj hy3
        subst ey3
        refine onlyN ?_
        exact ⟨⟨rfl, rfl, rfl, rfl, rfl, rfl, rfl, rfl, rfl, rfl, rfl, rfl, rfl, rfl, rfl, rfl, rfl, rfl, rfl, trivial⟩, rfl⟩
       ·rw [if_neg c10] at hy3
        have c10 := eq_false_of_ne_true c10
        refine W.sub (ψ := [(0, u0), (1, u1), (22, (.bool x1)), (5, (.int .i64 (IntKind.wrap .i64 (1 + x2)))), (6, v1), (7, v2), (8, (.bool x4.2)), (9, v3), (10, (.bool x5.2)), (11, v4), (12, (.bool x6.2)), (71, (.bool x7)), (4, (.bool x8)), (13, v14), (14, v23), (15, v28), (16, (.int .i64 x12)), (74, (.bool (decide (x12 < (IntKind.wrap .i64 (1 + x2))))))]) ⟨rfl, rfl, rfl, rfl, rfl, rfl, rfl, rfl, rfl, rfl, rfl, rfl, rfl, rfl, rfl, rfl, rfl, rfl, trivial⟩ ?_
        refine W.regionP [fun v _ => @Eq Value v3 v, fun v _ => @Eq Value (.int .i64 x12) v, fun v _ => PtI 1 v v3 (Int.toNat x12), fun v _ => IsF .f32 v x24, fun v _ => IsF .f64 v (wid x24), fun v _ => @Eq Value v1 v, fun v _ => @Eq Value (.int .i64 x12) v, fun v _ => PtI 1 v v1 (Int.toNat x12), fun v _ => IsF .f32 v x25, fun v _ => IsF .f64 v (wid x25), fun v _ => IsF .f64 v x26, fun v _ => @Eq Value (.bool (fcmp .gtr .f64 x26 (some 4562254508917369340))) v, fun v _ => @Eq Value (.bool (fcmp .gtr .f64 x26 (some 4562254508917369340))) v, fun v _ => @Eq Value (.int .i64 x12) v, fun v _ => @Eq Value (.bool (decide (x12 > 0))) v, fun v _ => @Eq Value (.bool (decide (x12 > 0))) v, fun v _ => @Eq Value undef v, fun v _ => @Eq Value undef v, fun v _ => @Eq Value undef v, fun v _ => @Eq Value undef v, fun v _ => @Eq Value undef v, fun v _ => @Eq Value undef v, fun v _ => @Eq Value undef v, fun v _ => @Eq Value undef v, fun v _ => @Eq Value undef v, fun v _ => @Eq Value undef v, fun v _ => @Eq Value undef v, fun v _ => @Eq Value undef v, fun v _ => @Eq Value undef v, fun v _ => @Eq Value (.bool false) v, fun v _ => @Eq Value (.bool false) v] [[], [], [0, 1], [2], [3], [], [], [5, 6], [7], [8], [4, 9], [10], [11], [12], [13, 12], [14, 12], [15], [15], [15], [15], [15], [15], [15], [15], [15], [15], [15], [15], [15], [15, 12], [12, 29]] [30] Try.mixed (by decide +kernel) (by decide +kernel) rfl rfl rfl ?_ ?_
        ·refine ⟨⟨rfl, ?_⟩, ⟨rfl, ?_⟩, ⟨rfl, ?_⟩, ⟨rfl, ?_⟩, ⟨rfl, ?_⟩, ⟨rfl, ?_⟩, ⟨rfl, ?_⟩, ⟨rfl, ?_⟩, ⟨rfl, ?_⟩, ⟨rfl, ?_⟩, ⟨rfl, ?_⟩, ⟨rfl, ?_⟩, ⟨rfl, ?_⟩, ⟨rfl, ?_⟩, ⟨rfl, ?_⟩, ⟨rfl, ?_⟩, ⟨rfl, ?_⟩, ⟨rfl, ?_⟩, ⟨rfl, ?_⟩, ⟨rfl, ?_⟩, ⟨rfl, ?_⟩, ⟨rfl, ?_⟩, ⟨rfl, ?_⟩, ⟨rfl, ?_⟩, ⟨rfl, ?_⟩, ⟨rfl, ?_⟩, ⟨rfl, ?_⟩, ⟨rfl, ?_⟩, ⟨rfl, ?_⟩, ⟨rfl, ?_⟩, ⟨rfl, ?_⟩, trivial⟩
         ·rintro _ rfl
          refine Dep.nil ?_
          refine GuardOK.none rfl ?_
          exact OpV.toD (opv_move rfl rfl) rfl
         ·rintro _ rfl
          refine Dep.nil ?_
          refine GuardOK.none rfl ?_
          exact OpV.toD (opv_move rfl rfl) rfl
         ·rintro _ rfl _ rfl _ rfl
          refine Dep.nil ?_
          refine GuardOK.none rfl ?_
          exact OpV.toS (opv_index rfl Try.underlying25 (by rw [Try.size29]; rfl) rfl rfl (ownO.read (Sep.at (o := ownO (kF .f32) 29 v3 x5.1) S_4 1 rfl)) hx24) (fun _ h => h)
         ·rintro _ rfl v29 fv29
          refine Dep.nil ?_
          refine GuardOK.none rfl ?_
          exact OpV.toS (opv_loadF rfl Try.one29 rfl fv29 (ownO.read (Sep.at (o := ownO (kF .f32) 29 v3 x5.1) S_4 1 rfl)) hx24) (fun _ h => h)
         ·rintro _ rfl v30 fv30
          refine Dep.nil ?_
          refine GuardOK.none rfl ?_
          exact OpV.toS (opv_widen rfl (by rw [Try.underlying29]; rfl) Try.underlying43 rfl fv30) (fun _ h => h)
         ·rintro _ rfl
          refine Dep.nil ?_
          refine GuardOK.none rfl ?_
          exact OpV.toD (opv_move rfl rfl) rfl
         ·rintro _ rfl
          refine Dep.nil ?_
          refine GuardOK.none rfl ?_
          exact OpV.toD (opv_move rfl rfl) rfl
         ·rintro _ rfl _ rfl _ rfl
          refine Dep.nil ?_
          refine GuardOK.none rfl ?_
          exact OpV.toS (opv_index rfl Try.underlying25 (by rw [Try.size29]; rfl) rfl rfl (ownO.read (Sep.at (o := ownO (kF .f32) 29 v1 x3) S_4 3 rfl)) hx25) (fun _ h => h)
         ·rintro _ rfl v32 fv32
          refine Dep.nil ?_
          refine GuardOK.none rfl ?_
          exact OpV.toS (opv_loadF rfl Try.one29 rfl fv32 (ownO.read (Sep.at (o := ownO (kF .f32) 29 v1 x3) S_4 3 rfl)) hx25) (fun _ h => h)
         ·rintro _ rfl v33 fv33
          refine Dep.nil ?_
          refine GuardOK.none rfl ?_
          exact OpV.toS (opv_widen rfl (by rw [Try.underlying29]; rfl) Try.underlying43 rfl fv33) (fun _ h => h)
         ·rintro _ rfl v31 fv31 v34 fv34
          refine Dep.nil ?_
          refine GuardOK.none rfl ?_
          exact OpV.mono (opv_call (cap := []) (laws_r8Gap_ok _ _ _ fv31 _ _ fv34 _ hx26) rfl rfl ⟨rfl, rfl, trivial⟩ Try.func21 rfl rfl) (by rintro v35 _ ⟨fv35, rfl⟩; exact ⟨rfl, fv35⟩)
         ·rintro _ rfl v35 fv35
          refine Dep.nil ?_
          refine GuardOK.none rfl ?_
          exact OpV.toD (opv_fcmp rfl rfl rfl rfl fv35 (isF_lit .f64 4562254508917369340 (by decide) (by decide))) rfl
         ·rintro _ rfl _ rfl
          refine Dep.nil ?_
          refine GuardOK.none rfl ?_
          exact OpV.toD (opv_move rfl rfl) rfl
         ·rintro _ rfl _ rfl
          refine Dep.nil ?_
          refine GuardOK.some rfl rfl rfl c9 ?_
          exact OpV.toD (opv_move rfl rfl) rfl
         ·rintro _ rfl _ rfl _ rfl
          refine Dep.nil ?_
          refine GuardOK.some rfl rfl rfl c9 ?_
          exact OpV.toD (opv_icmp rfl rfl rfl rfl) rfl
         ·rintro _ rfl _ rfl _ rfl
          refine Dep.nil ?_
          refine GuardOK.some rfl rfl rfl c9 ?_
          exact OpV.toD (opv_move rfl rfl) rfl
         ·rintro _ rfl _ rfl
          refine Dep.nil ?_
          refine GuardOK.pass rfl rfl rfl (Eq.trans c10 (by decide)) ⟨rfl, rfl⟩
         ·rintro _ rfl _ rfl
          refine Dep.nil ?_
          refine GuardOK.pass rfl rfl rfl (Eq.trans c10 (by decide)) ⟨rfl, rfl⟩
         ·rintro _ rfl _ rfl
          refine Dep.nil ?_
          refine GuardOK.pass rfl rfl rfl (Eq.trans c10 (by decide)) ⟨rfl, rfl⟩
         ·rintro _ rfl _ rfl
          refine Dep.nil ?_
          refine GuardOK.pass rfl rfl rfl (Eq.trans c10 (by decide)) ⟨rfl, rfl⟩
         ·rintro _ rfl _ rfl
          refine Dep.nil ?_
          refine GuardOK.pass rfl rfl rfl (Eq.trans c10 (by decide)) ⟨rfl, rfl⟩
         ·rintro _ rfl _ rfl
          refine Dep.nil ?_
          refine GuardOK.pass rfl rfl rfl (Eq.trans c10 (by decide)) ⟨rfl, rfl⟩
         ·rintro _ rfl _ rfl
          refine Dep.nil ?_
          refine GuardOK.pass rfl rfl rfl (Eq.trans c10 (by decide)) ⟨rfl, rfl⟩
         ·rintro _ rfl _ rfl
          refine Dep.nil ?_
          refine GuardOK.pass rfl rfl rfl (Eq.trans c10 (by decide)) ⟨rfl, rfl⟩
         ·rintro _ rfl _ rfl
          refine Dep.nil ?_
          refine GuardOK.pass rfl rfl rfl (Eq.trans c10 (by decide)) ⟨rfl, rfl⟩
         ·rintro _ rfl _ rfl
          refine Dep.nil ?_
          refine GuardOK.pass rfl rfl rfl (Eq.trans c10 (by decide)) ⟨rfl, rfl⟩
         ·rintro _ rfl _ rfl
          refine Dep.nil ?_
          refine GuardOK.pass rfl rfl rfl (Eq.trans c10 (by decide)) ⟨rfl, rfl⟩
         ·rintro _ rfl _ rfl
          refine Dep.nil ?_
          refine GuardOK.pass rfl rfl rfl (Eq.trans c10 (by decide)) ⟨rfl, rfl⟩
         ·rintro _ rfl _ rfl
          refine Dep.nil ?_
          refine GuardOK.pass rfl rfl rfl (Eq.trans c10 (by decide)) ⟨rfl, rfl⟩
         ·rintro _ rfl _ rfl _ rfl
          refine Dep.nil ?_
          refine GuardOK.some rfl rfl rfl c9 ?_
          exact OpV.toD (opv_pick rfl rfl (fun e => absurd (Eq.trans (Eq.symm e) c10) (by decide)) (fun _ => rfl) rfl) rfl
         ·rintro _ rfl _ rfl _ rfl
          refine Dep.nil ?_
          refine GuardOK.none rfl ?_
          exact OpV.toD (opv_pick rfl rfl (fun e => absurd (Eq.trans (Eq.symm e) c9) (by decide)) (fun _ => rfl) rfl) rfl
        rintro _ rfl
        refine Dep.nil ?_
        show RL _ _ _ _ [] _ _
        refine RL.nil ?_
        have ey3 := Option.some.inj hy3
        subst ey3
        refine onlyN ?_
        exact ⟨⟨rfl, rfl, rfl, rfl, rfl, rfl, rfl, rfl, rfl, rfl, rfl, rfl, rfl, rfl, rfl, rfl, rfl, rfl, rfl, trivial⟩, rfl⟩
     rintro φ' _ ⟨hs4, rfl⟩
     refine thnN ?_
     refine W.sub hs4 ?_
     by_cases c11 : x23 = true
     ·rw [if_pos c11] at ho1
      refine W.condT rfl c11 ?_
      refine W.seq ?_
      refine W.region ?_
      refine RL.opD (by decide) (opv_assign rfl rfl) ?_
      refine RL.nil ?_
      refine thnN ?_
      refine W.ret ?_
      refine blkR ?_
      refine thnR ?_
      have eo1 := Option.some.inj ho1
      subst eo1
      have ey2 := hy1 _ rfl
      subst ey2
      try dsimp only at hp
      refine rndR ?_
      refine blkR ?_
      refine onlyR ?_
      refine thnR ?_
      have er := Option.some.inj hp
      subst er
      exact Rt.one rfl rfl ⟨rfl, X_4, (Sep.nil _ _ _)⟩
     ·rw [if_neg c11] at ho1
      have c11 := eq_false_of_ne_true c11
      refine W.condF rfl c11 ?_
      refine W.skip ?_
      refine blkN ?_
      refine thnN ?_
      refine W.region ?_
      refine RL.opD (by decide) (opv_move rfl rfl) ?_
      refine RL.opD (by decide) (opv_add rfl rfl rfl) ?_
      refine RL.opD (by decide) (opv_assign rfl rfl) ?_
      refine RL.nil ?_
      have eo1 := Option.some.inj ho1
      subst eo1
      refine rndN (s' := (x8, fop .add .f64 x9 (wid x19), fop .add .f64 x10 (fop .mul .f64 (wid x20) (wid x21)), fop .add .f64 x11 (wid x22), IntKind.wrap .i64 (x12 + 1))) rfl ?_
      exact ⟨v14, v23, v28, ⟨rfl, rfl, rfl, rfl, rfl, rfl, rfl, rfl, rfl, rfl, rfl, rfl, rfl, rfl, rfl, rfl, rfl, trivial⟩, fv14, fv23, fv28, rfl⟩
    ·rw [if_neg c8] at ho1
     have c8 := eq_false_of_ne_true c8
     refine W.condF rfl c8 ?_
     refine W.exit ?_
     refine thnX ?_
     refine rndX ?_
     refine blkI ?_
     have eo1 := Option.some.inj ho1
     subst eo1
     have ey2 := hy1 _ rfl
     subst ey2
     refine onlyN ?_
     exact ⟨x8, x9, x10, x11, x12, decide (x12 < (IntKind.wrap .i64 (1 + x2))), v5, v6, v7, rfl, ⟨rfl, rfl, rfl, rfl, rfl, rfl, rfl, rfl, rfl, rfl, rfl, rfl, rfl, rfl, rfl, rfl, rfl, rfl, trivial⟩, fv5, fv6, fv7, rfl⟩
   rintro φ' _ ⟨x13, x14, x15, x16, x17, x18, v8, v9, v10, rfl, hs3, fv8, fv9, fv10, rfl⟩
   try dsimp only at hp
   refine thnN ?_
   refine W.sub hs3 ?_
   refine W.seq ?_
   refine W.seq ?_
   obtain ⟨x31, hy4, hp⟩ := Option.bind_eq_some_iff.1 hp
   refine W.cut (fun φ' h' => Fr.sub [(0, u0), (1, u1), (22, (.bool x1)), (5, (.int .i64 (IntKind.wrap .i64 (1 + x2)))), (6, v1), (7, v2), (8, (.bool x4.2)), (9, v3), (10, (.bool x5.2)), (11, v4), (12, (.bool x6.2)), (71, (.bool x7)), (4, (.bool x13)), (13, v8), (14, v9), (15, v10), (16, (.int .i64 x17)), (74, (.bool x18)), (151, (.bool x31))] φ' ∧ hp4 = h') ?_ ?_
   ·refine W.region ?_
    refine RL.opD (by decide) (opv_move rfl rfl) ?_
    obtain ⟨x32, hx32, hy4⟩ := Option.bind_eq_some_iff.1 hy4
    refine RL.op _ (by decide) (opv_index rfl Try.underlying59 (by rw [Try.size45]; rfl) rfl rfl (ownO.read (Sep.at (o := ownO (kC .f32) 45 v2 x4.1) S_4 2 rfl)) hx32) ?_
    rintro v42 _ ⟨fv42, rfl⟩
    refine RL.op _ (by decide) (opv_loadC rfl Try.one45 rfl fv42 (ownO.read (Sep.at (o := ownO (kC .f32) 45 v2 x4.1) S_4 2 rfl)) hx32) ?_
    rintro v43 _ ⟨fv43, rfl⟩
    refine RL.opF (by decide) (opv_real rfl rfl fv43) ?_
    intro v44 fv44
    refine RL.opF (by decide) (opv_widen rfl (by rw [Try.underlying29]; rfl) Try.underlying43 rfl fv44) ?_
    intro v45 fv45
    refine RL.opD (by decide) (opv_move rfl rfl) ?_
    obtain ⟨x33, hx33, hy4⟩ := Option.bind_eq_some_iff.1 hy4
    refine RL.op _ (by decide) (opv_call (cap := []) (laws_r8Gap_ok _ _ _ fv45 _ _ fv8 _ hx33) rfl rfl ⟨rfl, rfl, trivial⟩ Try.func21 rfl rfl) ?_
    rintro v46 _ ⟨fv46, rfl⟩
    refine RL.opD (by decide) (opv_fcmp rfl rfl rfl rfl fv46 (isF_lit .f64 4562254508917369340 (by decide) (by decide))) ?_
    refine RL.opD (by decide) (opv_move rfl rfl) ?_
    by_cases c12 : (fcmp .gtr .f64 x33 (some 4562254508917369340)) = true
    ·rw [if_pos c12] at hy4
     refine RL.noT rfl rfl c12 (by decide) ?_
     refine RL.noT rfl rfl c12 (by decide) ?_
     refine RL.noT rfl rfl c12 (by decide) ?_
     refine RL.noT rfl rfl c12 (by decide) ?_
     refine RL.noT rfl rfl c12 (by decide) ?_
     refine RL.noT rfl rfl c12 (by decide) ?_
     refine RL.noT rfl rfl c12 (by decide) ?_
     refine RL.opD (by decide) (opv_pick rfl rfl (fun _ => rfl) (fun e => absurd (Eq.trans (Eq.symm e) c12) (by decide)) rfl) ?_
     refine RL.nil ?_
     have ey4 := Option.some.inj hy4
     subst ey4
     refine onlyN ?_
     exact ⟨⟨rfl, rfl, rfl, rfl, rfl, rfl, rfl, rfl, rfl, rfl, rfl, rfl, rfl, rfl, rfl, rfl, rfl, rfl, rfl, trivial⟩, rfl⟩
    ·rw [if_neg c12] at hy4
     have c12 := eq_false_of_ne_true c12
     refine RL.yesD rfl rfl c12 (by decide) (opv_move rfl rfl) ?_
     refine RL.yesD rfl rfl c12 (by decide) (opv_move rfl rfl) ?_
     refine RL.yesD rfl rfl c12 (by decide) (opv_move rfl rfl) ?_
     refine RL.yes _ rfl rfl c12 (by decide) (opv_i2f rfl (by rw [Try.underlying2]; rfl) Try.underlying43 rfl) ?_
     rintro v47 _ ⟨fv47, rfl⟩
     refine RL.yes _ rfl rfl c12 (by decide) (opv_fop rfl rfl rfl rfl fv9 fv47) ?_
     rintro v48 _ ⟨fv48, rfl⟩
     obtain ⟨x34, hx34, hy4⟩ := Option.bind_eq_some_iff.1 hy4
     refine RL.yes _ rfl rfl c12 (by decide) (opv_call (cap := []) (laws_r8Gap_ok _ _ _ fv10 _ _ fv48 _ hx34) rfl rfl ⟨rfl, rfl, trivial⟩ Try.func21 rfl rfl) ?_
     rintro v49 _ ⟨fv49, rfl⟩
     refine RL.yesD rfl rfl c12 (by decide) (opv_fcmp rfl rfl rfl rfl fv49 (isF_lit .f64 4576918229304087675 (by decide) (by decide))) ?_
     refine RL.opD (by decide) (opv_pick rfl rfl (fun e => absurd (Eq.trans (Eq.symm e) c12) (by decide)) (fun _ => rfl) rfl) ?_
     refine RL.nil ?_
     have ey4 := Option.some.inj hy4
     subst ey4
     refine onlyN ?_
     exact ⟨⟨rfl, rfl, rfl, rfl, rfl, rfl, rfl, rfl, rfl, rfl, rfl, rfl, rfl, rfl, rfl, rfl, rfl, rfl, rfl, trivial⟩, rfl⟩
   rintro φ' _ ⟨hs5, rfl⟩
   refine thnN ?_
   refine W.sub hs5 ?_
   by_cases c13 : x31 = true
   ·rw [if_pos c13] at hp
    refine W.condT rfl c13 ?_
    refine W.seq ?_
    refine W.region ?_
    refine RL.opD (by decide) (opv_assign rfl rfl) ?_
    refine RL.nil ?_
    refine thnN ?_
    refine W.ret ?_
    refine thnR ?_
    have er := Option.some.inj hp
    subst er
    exact Rt.one rfl rfl ⟨rfl, X_4, (Sep.nil _ _ _)⟩
   ·rw [if_neg c13] at hp
    have c13 := eq_false_of_ne_true c13
    refine W.condF rfl c13 ?_
    refine W.skip ?_
    refine thnN ?_
    refine W.seq ?_
    refine W.region ?_
    refine RL.opD (by decide) (opv_move rfl rfl) ?_
    obtain ⟨x35, hx35, hp⟩ := Option.bind_eq_some_iff.1 hp
    refine RL.op _ (by decide) (opv_call (cap := []) (impl_StrongBins_ok _ _ _ (ownO.read (Sep.at (o := ownO (kC .f32) 45 v2 x4.1) S_4 2 rfl)) _ _ hx35) rfl rfl ⟨rfl, rfl, trivial⟩ Try.func62 rfl rfl) ?_
    rintro _ hp5 ⟨v50, rfl, MT_5, T_5⟩
    obtain ⟨X_5, S_5⟩ := Sep.turn0 X_4 S_4 MT_5 T_5
    refine RL.opD (by decide) (opv_move rfl rfl) ?_
    refine RL.opD (by decide) (opv_extract rfl rfl rfl) ?_
    refine RL.opD (by decide) (opv_extract rfl rfl rfl) ?_
    refine RL.opD (by decide) (opv_assign rfl rfl) ?_
    refine RL.opD (by decide) (opv_assign rfl rfl) ?_
    refine RL.nil ?_
    refine thnN ?_
    refine W.seq ?_
    refine W.seq ?_
    obtain ⟨x36, hy5, hp⟩ := Option.bind_eq_some_iff.1 hp
    refine W.cut (fun φ' h' => Fr.sub [(0, u0), (1, u1), (22, (.bool x1)), (5, (.int .i64 (IntKind.wrap .i64 (1 + x2)))), (6, v1), (7, v2), (8, (.bool x4.2)), (9, v3), (10, (.bool x5.2)), (11, v4), (12, (.bool x6.2)), (71, (.bool x7)), (4, (.bool x13)), (13, v8), (14, v9), (15, v10), (16, (.int .i64 x17)), (74, (.bool x18)), (151, (.bool x31)), (17, v50), (18, (.bool x35.2)), (163, (.bool x36))] φ' ∧ hp5 = h') ?_ ?_
    ·refine W.region ?_
     refine RL.opD (by decide) (opv_move rfl rfl) ?_
     refine RL.opD (by decide) (opv_not rfl rfl) ?_
     refine RL.opD (by decide) (opv_move rfl rfl) ?_
     by_cases c14 : (!x35.2) = true
     ·rw [if_pos c14] at hy5
      refine RL.noT rfl rfl c14 (by decide) ?_
      refine RL.noT rfl rfl c14 (by decide) ?_
      refine RL.noT rfl rfl c14 (by decide) ?_
      refine RL.opD (by decide) (opv_pick rfl rfl (fun _ => rfl) (fun e => absurd (Eq.trans (Eq.symm e) c14) (by decide)) rfl) ?_
      refine RL.nil ?_
      have ey5 := Option.some.inj hy5
      subst ey5
      refine onlyN ?_
      exact ⟨⟨rfl, rfl, rfl, rfl, rfl, rfl, rfl, rfl, rfl, rfl, rfl, rfl, rfl, rfl, rfl, rfl, rfl, rfl, rfl, rfl, rfl, rfl, trivial⟩, rfl⟩
     ·rw [if_neg c14] at hy5
      have c14 := eq_false_of_ne_true c14
      refine RL.yesD rfl rfl c14 (by decide) (opv_move rfl rfl) ?_
      refine RL.yesD rfl rfl c14 (by decide) (opv_len rfl Try.underlying71 rfl (ownO.read (Sep.at (o := ownO (kI .i64) 2 v50 x35.1) S_5 0 rfl))) ?_
      refine RL.yesD rfl rfl c14 (by decide) (opv_icmp rfl rfl rfl rfl) ?_
      refine RL.opD (by decide) (opv_pick rfl rfl (fun e => absurd (Eq.trans (Eq.symm e) c14) (by decide)) (fun _ => rfl) rfl) ?_
      refine RL.nil ?_
      have ey5 := Option.some.inj hy5
      subst ey5
      refine onlyN ?_
      exact ⟨⟨rfl, rfl, rfl, rfl, rfl, rfl, rfl, rfl, rfl, rfl, rfl, rfl, rfl, rfl, rfl, rfl, rfl, rfl, rfl, rfl, rfl, rfl, trivial⟩, rfl⟩
    rintro φ' _ ⟨hs6, rfl⟩
    refine thnN ?_
    refine W.sub hs6 ?_
    by_cases c15 : x36 = true
    ·rw [if_pos c15] at hp
     refine W.condT rfl c15 ?_
     refine W.seq ?_
     refine W.region ?_
     refine RL.opD (by decide) (opv_assign rfl rfl) ?_
     refine RL.nil ?_
     refine thnN ?_
     refine W.ret ?_
     refine thnR ?_
     have er := Option.some.inj hp
     subst er
     exact Rt.one rfl rfl ⟨rfl, X_5, (Sep.nil _ _ _)⟩
    ·rw [if_neg c15] at hp
     have c15 := eq_false_of_ne_true c15
     refine W.condF rfl c15 ?_
     refine W.skip ?_
     refine thnN ?_
     refine W.seq ?_
     refine W.seq ?_
     refine W.region ?_
     refine RL.opD (by decide) (opv_assign rfl rfl) ?_
     refine RL.nil ?_
     refine thnN ?_
     obtain ⟨y6, hy6, hp⟩ := Option.bind_eq_some_iff.1 hp
     refine W.cut (fun φ' h' => ∃ x39, ∃ x40, ∃ x41, y6 = .inl (x39, x40, x41) ∧ Fr.sub [(0, u0), (1, u1), (22, (.bool x1)), (5, (.int .i64 (IntKind.wrap .i64 (1 + x2)))), (6, v1), (7, v2), (8, (.bool x4.2)), (9, v3), (10, (.bool x5.2)), (11, v4), (12, (.bool x6.2)), (71, (.bool x7)), (13, v8), (14, v9), (15, v10), (16, (.int .i64 x17)), (74, (.bool x18)), (151, (.bool x31)), (17, v50), (18, (.bool x35.2)), (163, (.bool x36)), (4, (.bool x39)), (19, (.int .i64 x40)), (166, (.bool x41))] φ' ∧ hp5 = h') ?_ ?_
     ·refine W.block ?_
      refine W.loopS (fun (s : (Bool × Int)) φ' h' => Fr.sub [(0, u0), (1, u1), (22, (.bool x1)), (5, (.int .i64 (IntKind.wrap .i64 (1 + x2)))), (6, v1), (7, v2), (8, (.bool x4.2)), (9, v3), (10, (.bool x5.2)), (11, v4), (12, (.bool x6.2)), (71, (.bool x7)), (13, v8), (14, v9), (15, v10), (16, (.int .i64 x17)), (74, (.bool x18)), (151, (.bool x31)), (17, v50), (18, (.bool x35.2)), (163, (.bool x36)), (4, (.bool s.1)), (19, (.int .i64 s.2))] φ' ∧ hp5 = h') hy6 ⟨⟨rfl, rfl, rfl, rfl, rfl, rfl, rfl, rfl, rfl, rfl, rfl, rfl, rfl, rfl, rfl, rfl, rfl, rfl, rfl, rfl, rfl, rfl, rfl, trivial⟩, rfl⟩ ?_
      rintro ⟨x37, x38⟩ φ' _ o2 ⟨hs7, rfl⟩ ho2 hy2
      have hs7 : Fr.sub [(0, u0), (1, u1), (22, (.bool x1)), (5, (.int .i64 (IntKind.wrap .i64 (1 + x2)))), (6, v1), (7, v2), (8, (.bool x4.2)), (9, v3), (10, (.bool x5.2)), (11, v4), (12, (.bool x6.2)), (71, (.bool x7)), (13, v8), (14, v9), (15, v10), (16, (.int .i64 x17)), (74, (.bool x18)), (151, (.bool x31)), (17, v50), (18, (.bool x35.2)), (163, (.bool x36)), (4, (.bool x37)), (19, (.int .i64 x38))] φ' := hs7
      have ho2 : laws_FnSpectra.s1 x2 x6 x35 x37 x38 = some o2 := ho2
      unfold laws_FnSpectra.s1 at ho2
      refine W.sub hs7 ?_
      refine W.seq ?_
      refine W.seq ?_
      refine W.region ?_
      refine RL.opD (by decide) (opv_move rfl rfl) ?_
      refine RL.opD (by decide) (opv_move rfl rfl) ?_
      refine RL.opD (by decide) (opv_icmp rfl rfl rfl rfl) ?_
      refine RL.nil ?_
      refine thnN ?_
      by_cases c16 : (decide (x38 < (IntKind.wrap .i64 (1 + x2)))) = true
      ·rw [if_pos c16] at ho2
       refine W.condT rfl c16 ?_
       refine W.skip ?_
       refine thnN ?_
       refine W.seq ?_
       refine W.block ?_
       refine W.seq ?_
       refine W.regionH 11 rfl Try.mixed ?_
       refine HK.d 0 rfl rfl rfl (by decide) (by decide +kernel) (fun _ _ _ h => h) (opx_move rfl rfl) ?_
       refine HK.d 1 rfl rfl rfl (by decide) (by decide +kernel) (fun _ _ _ h => h) (opx_move rfl rfl) ?_
       obtain ⟨x42, hx42, ho2⟩ := Option.bind_eq_some_iff.1 ho2
       refine HK.f 2 rfl rfl rfl (by decide) (by decide +kernel) (fun _ _ _ h => h) (opx_indexP rfl Try.underlying25 (by rw [Try.size29]; rfl) rfl rfl (ownO.read (Sep.at (o := ownO (kF .f32) 29 v4 x6.1) S_5 1 rfl)) hx42) ?_
       intro v51 fv51
       refine HK.f 3 rfl rfl rfl (by decide) (by decide +kernel) (fun _ _ _ h => h) (opx_loadF rfl Try.one29 rfl fv51 (ownO.read (Sep.at (o := ownO (kF .f32) 29 v4 x6.1) S_5 1 rfl)) hx42) ?_
       intro v52 fv52
       refine HK.d 4 rfl rfl rfl (by decide) (by decide +kernel) (fun _ _ _ h => h) (opx_move rfl rfl) ?_
       refine HK.d 5 rfl rfl rfl (by decide) (by decide +kernel) (fun _ _ _ h => h) (opx_move rfl rfl) ?_
       obtain ⟨x43, hx43, ho2⟩ := Option.bind_eq_some_iff.1 ho2
       refine HK.f 6 rfl rfl rfl (by decide) (by decide +kernel) (fun _ _ _ h => h) (opx_indexP rfl Try.underlying71 (by rw [Try.size2]; rfl) rfl rfl (ownO.read (Sep.at (o := ownO (kI .i64) 2 v50 x35.1) S_5 0 rfl)) hx43) ?_
       intro v53 fv53
       refine HK.d 7 rfl rfl rfl (by decide) (by decide +kernel) (fun _ _ _ h => h) (opx_loadI rfl Try.one2 rfl fv53 (ownO.read (Sep.at (o := ownO (kI .i64) 2 v50 x35.1) S_5 0 rfl)) hx43) ?_
       obtain ⟨x44, hx44, ho2⟩ := Option.bind_eq_some_iff.1 ho2
       refine HK.f 8 rfl rfl rfl (by decide) (by decide +kernel) (fun _ _ _ h => h) (opx_indexP rfl Try.underlying25 (by rw [Try.size29]; rfl) rfl rfl (ownO.read (Sep.at (o := ownO (kF .f32) 29 v4 x6.1) S_5 1 rfl)) hx44) ?_
       intro v54 fv54
       refine HK.f 9 rfl rfl rfl (by decide) (by decide +kernel) (fun _ _ _ h => h) (opx_loadF rfl Try.one29 rfl fv54 (ownO.read (Sep.at (o := ownO (kF .f32) 29 v4 x6.1) S_5 1 rfl)) hx44) ?_
       intro v55 fv55
       refine HK.d 10 rfl rfl rfl (by decide) (by decide +kernel) (fun _ _ _ h => h) (opx_fcmp rfl rfl rfl rfl fv52 fv55) ?_
       refine HK.done (by decide +kernel) ?_
       refine thnN ?_
       by_cases c17 : (fcmp .gtr .f32 x42 x44) = true
       ·rw [if_pos c17] at ho2
        refine W.condT rfl c17 ?_
        refine W.seq ?_
        refine W.region ?_
        refine RL.opD (by decide) (opv_assign rfl rfl) ?_
        refine RL.nil ?_
        refine thnN ?_
        refine W.ret ?_
        refine blkR ?_
        refine thnR ?_
        have eo2 := Option.some.inj ho2
        subst eo2
        have ey6 := hy2 _ rfl
        subst ey6
        try dsimp only at hp
        refine rndR ?_
        refine blkR ?_
        refine onlyR ?_
        refine thnR ?_
        have er := Option.some.inj hp
        subst er
        exact Rt.one rfl rfl ⟨rfl, X_5, (Sep.nil _ _ _)⟩
       ·rw [if_neg c17] at ho2
        have c17 := eq_false_of_ne_true c17
        refine W.condF rfl c17 ?_
        refine W.skip ?_
        refine blkN ?_
        refine thnN ?_
        refine W.region ?_
        refine RL.opD (by decide) (opv_move rfl rfl) ?_
        refine RL.opD (by decide) (opv_add rfl rfl rfl) ?_
        refine RL.opD (by decide) (opv_assign rfl rfl) ?_
        refine RL.nil ?_
        have eo2 := Option.some.inj ho2
        subst eo2
        refine rndN (s' := (x37, IntKind.wrap .i64 (x38 + 1))) rfl ?_
        exact ⟨⟨rfl, rfl, rfl, rfl, rfl, rfl, rfl, rfl, rfl, rfl, rfl, rfl, rfl, rfl, rfl, rfl, rfl, rfl, rfl, rfl, rfl, rfl, rfl, trivial⟩, rfl⟩
      ·rw [if_neg c16] at ho2
       have c16 := eq_false_of_ne_true c16
       refine W.condF rfl c16 ?_
       refine W.exit ?_
       refine thnX ?_
       refine rndX ?_
       refine blkI ?_
       have eo2 := Option.some.inj ho2
       subst eo2
       have ey6 := hy2 _ rfl
       subst ey6
       refine onlyN ?_
       exact ⟨x37, x38, decide (x38 < (IntKind.wrap .i64 (1 + x2))), rfl, ⟨rfl, rfl, rfl, rfl, rfl, rfl, rfl, rfl, rfl, rfl, rfl, rfl, rfl, rfl, rfl, rfl, rfl, rfl, rfl, rfl, rfl, rfl, rfl, rfl, trivial⟩, rfl⟩
     rintro φ' _ ⟨x39, x40, x41, rfl, hs8, rfl⟩
     try dsimp only at hp
     refine thnN ?_
     refine W.sub hs8 ?_
     refine W.seq ?_
     refine W.region ?_
     refine RL.opD (by decide) (opv_assign rfl rfl) ?_
     refine RL.nil ?_
     refine thnN ?_
     refine W.ret ?_
     have er := Option.some.inj hp
     subst er
     exact Rt.one rfl rfl ⟨rfl, X_5, (Sep.nil _ _ _)⟩

end Go.H
