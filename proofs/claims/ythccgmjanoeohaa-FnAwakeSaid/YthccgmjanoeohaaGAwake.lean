/- Functions of the program: what each computes, as a plain function, and that the call comes to it. Written by a program (wip/gen). -/
import Derived.Test.YthccgmjanoeohaaGMax
import Derived.Test.YthccgmjanoeohaaGBase
import Derived.Test.YthccgmjanoeohaaGSheet
import Derived.Test.YthccgmjanoeohaaGField
import Derived.Test.YthccgmjanoeohaaGDraw
import Derived.Test.YthccgmjanoeohaaGSleepI
import Derived.Test.YthccgmjanoeohaaGStep2
import Derived.Test.YthccgmjanoeohaaBase23
import Derived.Test.YthccgmjanoeohaaProg
import Derived.KernelRfl
set_option linter.unusedVariables false
namespace Go.H
open Go Go.Proofs



noncomputable def impl_StepAwake.s0 (x1 : ((List (Bool)) × Bool)) (x2 : Int) (x3 : Int) : Option ((Int × Int) ⊕ (Int × Int × Bool)) :=
 (if (decide (x3 < (x1.1.length : Int))) = true then ((idx x1.1 x3).bind fun (x7 : Bool) => (((if (!x7) = true then some (IntKind.wrap .i64 (x2 + 1)) else some x2) : Option Int).bind fun (x8 : Int) => some (.inl (x8, IntKind.wrap .i64 (x3 + 1))))) else some (.inr (x2, x3, decide (x3 < (x1.1.length : Int)))))

noncomputable def impl_StepAwake (a0_0 : Int) (a0_1 : Int) (a0_2 : Bool) (a0_3 : List (Option Nat)) (a0_4 : List (Option Nat)) (a1_0 : List (Option Nat)) (a1_1 : List (Option Nat)) (a1_2 : List (Option Nat)) (a2 : Int) : Option ((List (Option Nat)) × (List (Option Nat)) × (List (Option Nat)) × Int × Bool) :=
 ((impl_SleepingBlocks a0_0 a0_1 a0_2 a0_3 a0_4 a1_0 a1_1 a1_2 a2).bind fun (x1 : ((List (Bool)) × Bool)) => (if (!x1.2) = true then some (([] : List (Option Nat)), ([] : List (Option Nat)), ([] : List (Option Nat)), 0, false) else ((loopF (fun (s : (Int × Int)) => impl_StepAwake.s0 x1 s.1 s.2) (0, 0)).bind fun (⟨x4, x5, x6⟩ : (Int × Int × Bool)) => ((impl_stepped a0_0 a0_1 a0_2 a0_3 a0_4 a1_0 a1_1 a1_2).bind fun (x9 : ((List (Option Nat)) × (List (Option Nat)) × (List (Option Nat)))) => some (x9.1, x9.2.1, x9.2.2, x4, true)))))

noncomputable def laws_b10Long (a0 : List (Int)) (a1 : List (Int)) : Option Bool :=
 (((if (decide ((a0.length : Int) > 1048576)) = true then some true else some (decide ((a1.length : Int) > 1048576))) : Option Bool).bind fun (x1 : Bool) => some x1)

noncomputable def laws_b10At (a0 : List (Int)) (a1 : Int) (a2 : Int) : Option Int :=
 (if (decide (a2 ≤ 1)) = true then some 0 else (if (decide (a1 < (a0.length : Int))) = true then ((idx a0 a1).bind fun (x1 : Int) => (if a2 = 0 then none else some (Int.tmod (IntKind.wrap .i64 x1) a2))) else (if a2 = 0 then none else some (Int.tmod (IntKind.wrap .i64 ((IntKind.wrap .i64 (a1 * 37)) + 11)) a2))))

noncomputable def spec_l01Bits (a0 : Option Nat) : Option Int :=
 (if (fcmp .neq .f32 a0 a0) = true then some 2143289344 else ((fbits a0).bind fun (x1 : Int) => some (IntKind.wrap .i64 x1)))

noncomputable def spec_l01Same (a0 : Option Nat) (a1 : Option Nat) : Option Bool :=
 ((spec_l01Bits a0).bind fun (x1 : Int) => ((spec_l01Bits a1).bind fun (x2 : Int) => some (x1 == x2)))

noncomputable def spec_SameNumber (a0 : Option Nat) (a1 : Option Nat) : Option Bool :=
 ((spec_l01Same a0 a1).bind fun (x1 : Bool) => some x1)

noncomputable def impl_RunField_1 (a0_0 : List (Option Nat)) (a0_1 : List (Option Nat)) (a0_2 : List (Option Nat)) : Option Unit :=
 some ()

noncomputable def impl_run__impl_RunField_1.s0 (a0_0 : Int) (a0_1 : Int) (a0_2 : Bool) (a0_3 : List (Option Nat)) (a0_4 : List (Option Nat)) (a2 : Int) (x5 : Int) (x6 : List (Option Nat)) (x7 : List (Option Nat)) (x8 : List (Option Nat)) : Option ((Int × (List (Option Nat)) × (List (Option Nat)) × (List (Option Nat))) ⊕ (Int × Bool × (List (Option Nat)) × (List (Option Nat)) × (List (Option Nat)))) :=
 (if (decide (x5 < a2)) = true then ((impl_stepped a0_0 a0_1 a0_2 a0_3 a0_4 x6 x7 x8).bind fun (x14 : ((List (Option Nat)) × (List (Option Nat)) × (List (Option Nat)))) => ((impl_RunField_1 x14.1 x14.2.1 x14.2.2).bind fun (x15 : Unit) => some (.inl (IntKind.wrap .i64 (x5 + 1), x14.1, x14.2.1, x14.2.2)))) else some (.inr (x5, decide (x5 < a2), x6, x7, x8)))

noncomputable def impl_run__impl_RunField_1 (a0_0 : Int) (a0_1 : Int) (a0_2 : Bool) (a0_3 : List (Option Nat)) (a0_4 : List (Option Nat)) (a1_0 : List (Option Nat)) (a1_1 : List (Option Nat)) (a1_2 : List (Option Nat)) (a2 : Int) : Option ((List (Option Nat)) × (List (Option Nat)) × (List (Option Nat)) × Bool) :=
 ((((impl_IsField a0_0 a0_1 a0_2 a0_3 a0_4 a1_0 a1_1 a1_2).bind fun (x2 : Bool) => (if (!x2) = true then some true else ((impl_within a2 0 64).bind fun (x3 : Bool) => some (!x3)))) : Option Bool).bind fun (x1 : Bool) => (if x1 = true then some (([] : List (Option Nat)), ([] : List (Option Nat)), ([] : List (Option Nat)), false) else ((impl_copyField a1_0 a1_1 a1_2).bind fun (x4 : ((List (Option Nat)) × (List (Option Nat)) × (List (Option Nat)))) => ((loopF (fun (s : (Int × (List (Option Nat)) × (List (Option Nat)) × (List (Option Nat)))) => impl_run__impl_RunField_1.s0 a0_0 a0_1 a0_2 a0_3 a0_4 a2 s.1 s.2.1 s.2.2.1 s.2.2.2) (0, x4.1, x4.2.1, x4.2.2)).bind fun (⟨x9, x10, x11, x12, x13⟩ : (Int × Bool × (List (Option Nat)) × (List (Option Nat)) × (List (Option Nat)))) => some (x11, x12, x13, true)))))

noncomputable def impl_RunField (a0_0 : Int) (a0_1 : Int) (a0_2 : Bool) (a0_3 : List (Option Nat)) (a0_4 : List (Option Nat)) (a1_0 : List (Option Nat)) (a1_1 : List (Option Nat)) (a1_2 : List (Option Nat)) (a2 : Int) : Option ((List (Option Nat)) × (List (Option Nat)) × (List (Option Nat)) × Bool) :=
 ((impl_run__impl_RunField_1 a0_0 a0_1 a0_2 a0_3 a0_4 a1_0 a1_1 a1_2 a2).bind fun (x1 : ((List (Option Nat)) × (List (Option Nat)) × (List (Option Nat)) × Bool)) => some (x1.1, x1.2.1, x1.2.2.1, x1.2.2.2))

noncomputable def impl_StepField (a0_0 : Int) (a0_1 : Int) (a0_2 : Bool) (a0_3 : List (Option Nat)) (a0_4 : List (Option Nat)) (a1_0 : List (Option Nat)) (a1_1 : List (Option Nat)) (a1_2 : List (Option Nat)) : Option ((List (Option Nat)) × (List (Option Nat)) × (List (Option Nat)) × Bool) :=
 ((impl_RunField a0_0 a0_1 a0_2 a0_3 a0_4 a1_0 a1_1 a1_2 1).bind fun (x1 : ((List (Option Nat)) × (List (Option Nat)) × (List (Option Nat)) × Bool)) => some (x1.1, x1.2.1, x1.2.2.1, x1.2.2.2))

noncomputable def spec_l01SameAll.s0 (a0 : List (Option Nat)) (a1 : List (Option Nat)) (x1 : Bool) (x2 : Int) : Option ((Bool × Int) ⊕ ((Bool × Int × Bool) ⊕ Bool)) :=
 (if (decide (x2 < (a0.length : Int))) = true then ((idx a0 x2).bind fun (x6 : Option Nat) => ((idx a1 x2).bind fun (x7 : Option Nat) => ((spec_l01Same x6 x7).bind fun (x8 : Bool) => (if (!x8) = true then some (.inr (.inr false)) else some (.inl (x1, IntKind.wrap .i64 (x2 + 1))))))) else some (.inr (.inl (x1, x2, decide (x2 < (a0.length : Int))))))

noncomputable def spec_l01SameAll (a0 : List (Option Nat)) (a1 : List (Option Nat)) : Option Bool :=
 (if ((a0.length : Int) != (a1.length : Int)) = true then some false else ((loopF (fun (s : (Bool × Int)) => spec_l01SameAll.s0 a0 a1 s.1 s.2) (false, 0)).bind fun (y1 : ((Bool × Int × Bool) ⊕ Bool)) => match y1 with | .inl (x3, x4, x5) => some true | .inr r1 => some r1))

noncomputable def spec_l02Same (a0_0 : List (Option Nat)) (a0_1 : List (Option Nat)) (a0_2 : List (Option Nat)) (a1_0 : List (Option Nat)) (a1_1 : List (Option Nat)) (a1_2 : List (Option Nat)) : Option Bool :=
 ((((spec_l01SameAll a0_0 a1_0).bind fun (x2 : Bool) => (if x2 = true then ((spec_l01SameAll a0_1 a1_1).bind fun (x3 : Bool) => (if x3 = true then ((spec_l01SameAll a0_2 a1_2).bind fun (x4 : Bool) => some x4) else some false)) else some false)) : Option Bool).bind fun (x1 : Bool) => some x1)

noncomputable def spec_SameField (a0_0 : List (Option Nat)) (a0_1 : List (Option Nat)) (a0_2 : List (Option Nat)) (a1_0 : List (Option Nat)) (a1_1 : List (Option Nat)) (a1_2 : List (Option Nat)) : Option Bool :=
 ((spec_l02Same a0_0 a0_1 a0_2 a1_0 a1_1 a1_2).bind fun (x1 : Bool) => some x1)

noncomputable def laws_b10Fields (a0_0 : List (Option Nat)) (a0_1 : List (Option Nat)) (a0_2 : List (Option Nat)) (a1_0 : List (Option Nat)) (a1_1 : List (Option Nat)) (a1_2 : List (Option Nat)) : Option Bool :=
 ((spec_SameField a0_0 a0_1 a0_2 a1_0 a1_1 a1_2).bind fun (x1 : Bool) => some x1)

noncomputable def laws_FnAwake.s1 (x2 : (Int × Int × Bool × (List (Option Nat)) × (List (Option Nat)))) (x3 : ((List (Option Nat)) × (List (Option Nat)) × (List (Option Nat)))) (x4 : Int) (x6 : ((List (Option Nat)) × (List (Option Nat)) × (List (Option Nat)) × Int × Bool)) (x7 : ((List (Bool)) × Bool)) (x18 : Bool) (x19 : Int) : Option ((Bool × Int) ⊕ ((Bool × Int × Bool) ⊕ Bool)) :=
 (if (decide (x19 < (x3.1.length : Int))) = true then (if x2.1 = 0 then none else (if IntKind.wrap .i64 (1 + x4) = 0 then none else (if x2.1 = 0 then none else (if IntKind.wrap .i64 (1 + x4) = 0 then none else ((((idx x7.1 (IntKind.wrap .i64 ((IntKind.wrap .i64 (Int.tdiv (Int.tmod x19 x2.1) (IntKind.wrap .i64 (1 + x4)))) + (IntKind.wrap .i64 ((IntKind.wrap .i64 (Int.tdiv (IntKind.wrap .i64 ((IntKind.wrap .i64 (x2.1 + (IntKind.wrap .i64 (1 + x4)))) - 1)) (IntKind.wrap .i64 (1 + x4)))) * (IntKind.wrap .i64 (Int.tdiv (IntKind.wrap .i64 (Int.tdiv x19 x2.1)) (IntKind.wrap .i64 (1 + x4))))))))).bind fun (x24 : Bool) => (if x24 = true then ((idx x6.1 x19).bind fun (x25 : Option Nat) => ((spec_SameNumber x25 (some 0)).bind fun (x26 : Bool) => (if (!x26) = true then some true else ((idx x6.2.1 x19).bind fun (x27 : Option Nat) => ((spec_SameNumber x27 (some 0)).bind fun (x28 : Bool) => (if (!x28) = true then some true else ((idx x6.2.2.1 x19).bind fun (x29 : Option Nat) => ((spec_SameNumber x29 (some 0)).bind fun (x30 : Bool) => some (!x30))))))))) else some false)) : Option Bool).bind fun (x23 : Bool) => (if x23 = true then some (.inr (.inr false)) else some (.inl (x18, IntKind.wrap .i64 (x19 + 1))))))))) else some (.inr (.inl (x18, x19, decide (x19 < (x3.1.length : Int))))))

noncomputable def laws_FnAwake.s0 (x7 : ((List (Bool)) × Bool)) (x10 : Int) (x11 : Int) : Option ((Int × Int) ⊕ (Int × Int × Bool)) :=
 (if (decide (x11 < (x7.1.length : Int))) = true then ((idx x7.1 x11).bind fun (x15 : Bool) => (((if (!x15) = true then some (IntKind.wrap .i64 (x10 + 1)) else some x10) : Option Int).bind fun (x16 : Int) => some (.inl (x16, IntKind.wrap .i64 (x11 + 1))))) else some (.inr (x10, x11, decide (x11 < (x7.1.length : Int)))))

noncomputable def laws_FnAwake (a0 : List (Int)) (a1 : List (Int)) : Option Bool :=
 ((laws_b10Long a0 a1).bind fun (x1 : Bool) => (if x1 = true then some true else ((spec_B10Sheet a0).bind fun (x2 : (Int × Int × Bool × (List (Option Nat)) × (List (Option Nat)))) => ((spec_B10Field a1 x2.1 x2.2.1 x2.2.2.1 x2.2.2.2.1 x2.2.2.2.2).bind fun (x3 : ((List (Option Nat)) × (List (Option Nat)) × (List (Option Nat)))) => ((laws_b10At a1 0 4).bind fun (x4 : Int) => ((impl_StepField x2.1 x2.2.1 x2.2.2.1 x2.2.2.2.1 x2.2.2.2.2 x3.1 x3.2.1 x3.2.2).bind fun (x5 : ((List (Option Nat)) × (List (Option Nat)) × (List (Option Nat)) × Bool)) => ((impl_StepAwake x2.1 x2.2.1 x2.2.2.1 x2.2.2.2.1 x2.2.2.2.2 x3.1 x3.2.1 x3.2.2 (IntKind.wrap .i64 (1 + x4))).bind fun (x6 : ((List (Option Nat)) × (List (Option Nat)) × (List (Option Nat)) × Int × Bool)) => ((impl_SleepingBlocks x2.1 x2.2.1 x2.2.2.1 x2.2.2.2.1 x2.2.2.2.2 x3.1 x3.2.1 x3.2.2 (IntKind.wrap .i64 (1 + x4))).bind fun (x7 : ((List (Bool)) × Bool)) => (((if (!x5.2.2.2) = true then some true else (if (!x6.2.2.2.2) = true then some true else (if (!x7.2) = true then some true else ((laws_b10Fields x5.1 x5.2.1 x5.2.2.1 x6.1 x6.2.1 x6.2.2.1).bind fun (x9 : Bool) => some (!x9))))) : Option Bool).bind fun (x8 : Bool) => (if x8 = true then some false else ((loopF (fun (s : (Int × Int)) => laws_FnAwake.s0 x7 s.1 s.2) (0, 0)).bind fun (⟨x12, x13, x14⟩ : (Int × Int × Bool)) => (if IntKind.wrap .i64 (1 + x4) = 0 then none else (((if (x12 != x6.2.2.2.1) = true then some true else (if IntKind.wrap .i64 (1 + x4) = 0 then none else some ((x7.1.length : Int) != (IntKind.wrap .i64 ((IntKind.wrap .i64 (Int.tdiv (IntKind.wrap .i64 ((IntKind.wrap .i64 (x2.1 + (IntKind.wrap .i64 (1 + x4)))) - 1)) (IntKind.wrap .i64 (1 + x4)))) * (IntKind.wrap .i64 (Int.tdiv (IntKind.wrap .i64 ((IntKind.wrap .i64 (x2.2.1 + (IntKind.wrap .i64 (1 + x4)))) - 1)) (IntKind.wrap .i64 (1 + x4))))))))) : Option Bool).bind fun (x17 : Bool) => (if x17 = true then some false else ((loopF (fun (s : (Bool × Int)) => laws_FnAwake.s1 x2 x3 x4 x6 x7 s.1 s.2) (false, 0)).bind fun (y5 : ((Bool × Int × Bool) ⊕ Bool)) => match y5 with | .inl (x20, x21, x22) => some true | .inr r1 => some r1)))))))))))))))

set_option maxRecDepth 20000 in
theorem impl_StepAwake_ok (h0 : Heap) (a0_0 : Int) (a0_1 : Int) (a0_2 : Bool) (u0_3 : Value) (a0_3 : List (Option Nat)) (g0_3 : SL (kF .f32) h0.size h0 u0_3 a0_3) (u0_4 : Value) (a0_4 : List (Option Nat)) (g0_4 : SL (kF .f32) h0.size h0 u0_4 a0_4) (u1_0 : Value) (a1_0 : List (Option Nat)) (g1_0 : SL (kF .f32) h0.size h0 u1_0 a1_0) (u1_1 : Value) (a1_1 : List (Option Nat)) (g1_1 : SL (kF .f32) h0.size h0 u1_1 a1_1) (u1_2 : Value) (a1_2 : List (Option Nat)) (g1_2 : SL (kF .f32) h0.size h0 u1_2 a1_2) (a2 : Int) (r : ((List (Option Nat)) × (List (Option Nat)) × (List (Option Nat)) × Int × Bool)) (hp : impl_StepAwake a0_0 a0_1 a0_2 a0_3 a0_4 a1_0 a1_1 a1_2 a2 = some r) : CallsH Try.prog 32 ([(.agg (List.toArray (α := Value) [(.int .i64 a0_0), (.int .i64 a0_1), (.bool a0_2), u0_3, u0_4])), (.agg (List.toArray (α := Value) [u1_0, u1_1, u1_2])), (.int .i64 a2)].toArray ++ [].toArray) h0 (fun v h' => ∃ w0, ∃ w1, ∃ w2, v = (.tuple (List.toArray (α := Value) [(.agg (List.toArray (α := Value) [w0, w1, w2])), (.int .i64 r.2.2.2.1), (.bool r.2.2.2.2)])) ∧ Mod [] h0 h' ∧ Sep [] h0.size h' [ownO (kF .f32) 25 w0 r.1, ownO (kF .f32) 25 w1 r.2.1, ownO (kF .f32) 25 w2 r.2.2.1]) := by
 unfold impl_StepAwake at hp
 refine callsH_of_W (l := [(.agg (List.toArray (α := Value) [(.int .i64 a0_0), (.int .i64 a0_1), (.bool a0_2), u0_3, u0_4])), (.agg (List.toArray (α := Value) [u1_0, u1_1, u1_2])), (.int .i64 a2)]) (cap := []) 39 Try.func32 rfl rfl rfl ?_
 refine W.seq ?_
 refine W.region ?_
 refine RL.op _ (by decide) (opS_boxed (opv_boxA (cs := [(.int .i64 a0_0), (.int .i64 a0_1), (.bool a0_2), u0_3, u0_4]) rfl rfl)) ?_
 rintro _ hp1 ⟨bb1, rfl, MT_1, T_1⟩
 obtain ⟨X_1, S_1⟩ := Sep.turn0 (Mod.refl [] h0) (Sep.nil [] h0.size h0) MT_1 T_1
 refine RL.op _ (by decide) (opS_boxed (opv_boxA (cs := [u1_0, u1_1, u1_2]) rfl rfl)) ?_
 rintro _ hp2 ⟨bb2, rfl, MT_2, T_2⟩
 obtain ⟨X_2, S_2⟩ := Sep.turn0 X_1 S_1 MT_2 T_2
 refine RL.op _ (by decide) (opS_boxed (opv_alloc (cs := [(.slice none 0 0), (.slice none 0 0), (.slice none 0 0)]) rfl Try.zero28 rfl)) ?_
 rintro _ hp3 ⟨bb3, rfl, MT_3, T_3⟩
 obtain ⟨X_3, S_3⟩ := Sep.turn0 X_2 S_2 MT_3 T_3
 refine RL.opD (by decide) (opv_assign rfl rfl) ?_
 refine RL.opD (by decide) (opv_assign rfl rfl) ?_
 refine RL.nil ?_
 refine thnN ?_
 refine W.seq ?_
 obtain ⟨x1, hx1, hp⟩ := Option.bind_eq_some_iff.1 hp
 refine W.region ?_
 refine RL.opD (by decide) (opv_loadA (us := [(.int .i64 a0_0), (.int .i64 a0_1), (.bool a0_2), u0_3, u0_4]) rfl Try.agg31 Try.size31 rfl (Sep.at (o := boxO bb1 [(.int .i64 a0_0), (.int .i64 a0_1), (.bool a0_2), u0_3, u0_4]) S_3 2 rfl) rfl rfl) ?_
 refine RL.opD (by decide) (opv_loadA (us := [u1_0, u1_1, u1_2]) rfl Try.agg28 Try.size28 rfl (Sep.at (o := boxO bb2 [u1_0, u1_1, u1_2]) S_3 1 rfl) rfl rfl) ?_
 refine RL.opD (by decide) (opv_move rfl rfl) ?_
 refine RL.op _ (by decide) (opv_call (cap := []) (impl_SleepingBlocks_ok _ _ _ _ _ _ (SL.up (SL.mod g0_3 X_3 (Nat.le_refl _) nob) (Nat.le_trans (Nat.le_refl _) (Mod.size X_3))) _ _ (SL.up (SL.mod g0_4 X_3 (Nat.le_refl _) nob) (Nat.le_trans (Nat.le_refl _) (Mod.size X_3))) _ _ (SL.up (SL.mod g1_0 X_3 (Nat.le_refl _) nob) (Nat.le_trans (Nat.le_refl _) (Mod.size X_3))) _ _ (SL.up (SL.mod g1_1 X_3 (Nat.le_refl _) nob) (Nat.le_trans (Nat.le_refl _) (Mod.size X_3))) _ _ (SL.up (SL.mod g1_2 X_3 (Nat.le_refl _) nob) (Nat.le_trans (Nat.le_refl _) (Mod.size X_3))) _ _ hx1) rfl rfl ⟨rfl, rfl, rfl, trivial⟩ Try.func24 rfl rfl) ?_
 rintro _ hp4 ⟨v1, rfl, MT_4, T_4⟩
 obtain ⟨X_4, S_4⟩ := Sep.turn0 X_3 S_3 MT_4 T_4
 refine RL.opD (by decide) (opv_move rfl rfl) ?_
 refine RL.opD (by decide) (opv_extract rfl rfl rfl) ?_
 refine RL.opD (by decide) (opv_extract rfl rfl rfl) ?_
 refine RL.opD (by decide) (opv_assign rfl rfl) ?_
 refine RL.opD (by decide) (opv_assign rfl rfl) ?_
 refine RL.nil ?_
 refine thnN ?_
 refine W.seq ?_
 refine W.seq ?_
 refine W.region ?_
 refine RL.opD (by decide) (opv_move rfl rfl) ?_
 refine RL.opD (by decide) (opv_not rfl rfl) ?_
 refine RL.nil ?_
 refine thnN ?_
 by_cases c1 : (!x1.2) = true
 ·rw [if_pos c1] at hp
  refine W.condT rfl c1 ?_
  refine W.seq ?_
  refine W.region ?_
  refine RL.opD (by decide) (opv_build (cs := [(.slice none 0 0), (.slice none 0 0), (.slice none 0 0)]) [] [] rfl Try.bd28 trivial rfl) ?_
  refine RL.op0 _ (opS_stored (cs := [(.slice none 0 0), (.slice none 0 0), (.slice none 0 0)]) (cs' := [(.slice none 0 0), (.slice none 0 0), (.slice none 0 0)]) (opv_storeA (us := [(.slice none 0 0), (.slice none 0 0), (.slice none 0 0)]) rfl Try.size28 rfl rfl (oneAll rfl (oneAll rfl (oneAll rfl rfl))) (Sep.at (o := boxO bb3 [(.slice none 0 0), (.slice none 0 0), (.slice none 0 0)]) S_4 1 rfl) rfl rfl) (Sep.at (o := boxO bb3 [(.slice none 0 0), (.slice none 0 0), (.slice none 0 0)]) S_4 1 rfl)) ?_
  rintro _ hp5 ⟨rfl, MT_5, T_5⟩
  have S_5 : Sep [] h0.size hp4 ([boxO bb3 [(.slice none 0 0), (.slice none 0 0), (.slice none 0 0)]] ++ [ownO kB 4 v1 x1.1, boxO bb2 [u1_0, u1_1, u1_2], boxO bb1 [(.int .i64 a0_0), (.int .i64 a0_1), (.bool a0_2), u0_3, u0_4]]) := Sep.sel S_4 [1, 0, 2, 3] (by decide)
  obtain ⟨X_5, S_6⟩ := Sep.turn X_4 S_5 MT_5 T_5
  refine RL.opD (by decide) (opv_assign rfl rfl) ?_
  refine RL.opD (by decide) (opv_assign rfl rfl) ?_
  refine RL.nil ?_
  refine thnN ?_
  refine W.ret ?_
  refine thnR ?_
  have S_7 : Sep [] h0.size hp5 [ownO (kF .f32) 25 (.slice none 0 0) ([] : List (Option Nat)), boxO bb3 [(.slice none 0 0), (.slice none 0 0), (.slice none 0 0)], ownO kB 4 v1 x1.1, boxO bb2 [u1_0, u1_1, u1_2], boxO bb1 [(.int .i64 a0_0), (.int .i64 a0_1), (.bool a0_2), u0_3, u0_4]] := Sep.addNil S_6
  have S_8 : Sep [] h0.size hp5 [ownO (kF .f32) 25 (.slice none 0 0) ([] : List (Option Nat)), ownO (kF .f32) 25 (.slice none 0 0) ([] : List (Option Nat)), boxO bb3 [(.slice none 0 0), (.slice none 0 0), (.slice none 0 0)], ownO kB 4 v1 x1.1, boxO bb2 [u1_0, u1_1, u1_2], boxO bb1 [(.int .i64 a0_0), (.int .i64 a0_1), (.bool a0_2), u0_3, u0_4]] := Sep.addNil S_7
  have S_9 : Sep [] h0.size hp5 [ownO (kF .f32) 25 (.slice none 0 0) ([] : List (Option Nat)), ownO (kF .f32) 25 (.slice none 0 0) ([] : List (Option Nat)), ownO (kF .f32) 25 (.slice none 0 0) ([] : List (Option Nat)), boxO bb3 [(.slice none 0 0), (.slice none 0 0), (.slice none 0 0)], ownO kB 4 v1 x1.1, boxO bb2 [u1_0, u1_1, u1_2], boxO bb1 [(.int .i64 a0_0), (.int .i64 a0_1), (.bool a0_2), u0_3, u0_4]] := Sep.addNil S_8
  have er := Option.some.inj hp
  subst er
  exact Rt.cellB rfl rfl rfl rfl Try.agg28 Try.size28 (Sep.at (o := boxO bb3 [(.slice none 0 0), (.slice none 0 0), (.slice none 0 0)]) S_9 3 rfl) rfl ⟨(.slice none 0 0), (.slice none 0 0), (.slice none 0 0), rfl, X_5, (Sep.sel S_9 [2, 1, 0] (by decide))⟩
 ·rw [if_neg c1] at hp
  have c1 := eq_false_of_ne_true c1
  refine W.condF rfl c1 ?_
  refine W.skip ?_
  refine thnN ?_
  refine W.seq ?_
  refine W.region ?_
  refine RL.opD (by decide) (opv_assign rfl rfl) ?_
  refine RL.nil ?_
  refine thnN ?_
  refine W.seq ?_
  refine W.seq ?_
  refine W.region ?_
  refine RL.opD (by decide) (opv_move rfl rfl) ?_
  refine RL.opD (by decide) (opv_len rfl Try.underlying40 rfl (ownO.read (Sep.at (o := ownO kB 4 v1 x1.1) S_4 0 rfl))) ?_
  refine RL.opD (by decide) (opv_move rfl rfl) ?_
  refine RL.nil ?_
  refine thnN ?_
  obtain ⟨y1, hy1, hp⟩ := Option.bind_eq_some_iff.1 hp
  refine W.cut (fun φ' h' => ∃ x4, ∃ x5, ∃ x6, y1 = (x4, x5, x6) ∧ Fr.sub [(0, (.agg (List.toArray (α := Value) [(.int .i64 a0_0), (.int .i64 a0_1), (.bool a0_2), u0_3, u0_4]))), (1, (.agg (List.toArray (α := Value) [u1_0, u1_1, u1_2]))), (2, (.int .i64 a2)), (3, (.pointer (some ⟨bb1, 0, none⟩))), (4, (.pointer (some ⟨bb2, 0, none⟩))), (6, (.pointer (some ⟨bb3, 0, none⟩))), (7, (.int .i64 0)), (8, (.bool false)), (9, v1), (10, (.bool x1.2)), (22, (.bool (!x1.2))), (24, v1), (25, (.int .i64 (x1.1.length : Int))), (11, (.int .i64 x4)), (26, (.int .i64 x5)), (27, (.bool x6))] φ' ∧ hp4 = h') ?_ ?_
  ·refine W.block ?_
   refine W.loopS (fun (s : (Int × Int)) φ' h' => Fr.sub [(0, (.agg (List.toArray (α := Value) [(.int .i64 a0_0), (.int .i64 a0_1), (.bool a0_2), u0_3, u0_4]))), (1, (.agg (List.toArray (α := Value) [u1_0, u1_1, u1_2]))), (2, (.int .i64 a2)), (3, (.pointer (some ⟨bb1, 0, none⟩))), (4, (.pointer (some ⟨bb2, 0, none⟩))), (6, (.pointer (some ⟨bb3, 0, none⟩))), (7, (.int .i64 0)), (8, (.bool false)), (9, v1), (10, (.bool x1.2)), (22, (.bool (!x1.2))), (24, v1), (25, (.int .i64 (x1.1.length : Int))), (11, (.int .i64 s.1)), (26, (.int .i64 s.2))] φ' ∧ hp4 = h') hy1 ⟨⟨rfl, rfl, rfl, rfl, rfl, rfl, rfl, rfl, rfl, rfl, rfl, rfl, rfl, rfl, rfl, trivial⟩, rfl⟩ ?_
   rintro ⟨x2, x3⟩ φ' _ o1 ⟨hs1, rfl⟩ ho1 hy1
   have hs1 : Fr.sub [(0, (.agg (List.toArray (α := Value) [(.int .i64 a0_0), (.int .i64 a0_1), (.bool a0_2), u0_3, u0_4]))), (1, (.agg (List.toArray (α := Value) [u1_0, u1_1, u1_2]))), (2, (.int .i64 a2)), (3, (.pointer (some ⟨bb1, 0, none⟩))), (4, (.pointer (some ⟨bb2, 0, none⟩))), (6, (.pointer (some ⟨bb3, 0, none⟩))), (7, (.int .i64 0)), (8, (.bool false)), (9, v1), (10, (.bool x1.2)), (22, (.bool (!x1.2))), (24, v1), (25, (.int .i64 (x1.1.length : Int))), (11, (.int .i64 x2)), (26, (.int .i64 x3))] φ' := hs1
   have ho1 : impl_StepAwake.s0 x1 x2 x3 = some o1 := ho1
   unfold impl_StepAwake.s0 at ho1
   refine W.sub hs1 ?_
   refine W.seq ?_
   refine W.region ?_
   refine RL.opD (by decide) (opv_icmp rfl rfl rfl rfl) ?_
   refine RL.nil ?_
   refine thnN ?_
   refine W.seq ?_
   by_cases c2 : (decide (x3 < (x1.1.length : Int))) = true
   ·rw [if_pos c2] at ho1
    refine W.condT rfl c2 ?_
    refine W.skip ?_
    refine thnN ?_
    refine W.seq ?_
    refine W.block ?_
    refine W.seq ?_
    obtain ⟨x7, hx7, ho1⟩ := Option.bind_eq_some_iff.1 ho1
    refine W.region ?_
    refine RL.op _ (by decide) (opv_index rfl Try.underlying40 (by rw [Try.size4]; rfl) rfl rfl (ownO.read (Sep.at (o := ownO kB 4 v1 x1.1) S_4 0 rfl)) hx7) ?_
    rintro v2 _ ⟨fv2, rfl⟩
    refine RL.opD (by decide) (opv_loadBl rfl Try.one4 rfl fv2 (ownO.read (Sep.at (o := ownO kB 4 v1 x1.1) S_4 0 rfl)) hx7) ?_
    refine RL.opD (by decide) (opv_assign rfl rfl) ?_
    refine RL.nil ?_
    refine thnN ?_
    refine W.seq ?_
    refine W.region ?_
    refine RL.opD (by decide) (opv_move rfl rfl) ?_
    refine RL.opD (by decide) (opv_not rfl rfl) ?_
    refine RL.nil ?_
    refine thnN ?_
    obtain ⟨x8, hy2, ho1⟩ := Option.bind_eq_some_iff.1 ho1
    refine W.cut (fun φ' h' => Fr.sub [(0, (.agg (List.toArray (α := Value) [(.int .i64 a0_0), (.int .i64 a0_1), (.bool a0_2), u0_3, u0_4]))), (1, (.agg (List.toArray (α := Value) [u1_0, u1_1, u1_2]))), (2, (.int .i64 a2)), (3, (.pointer (some ⟨bb1, 0, none⟩))), (4, (.pointer (some ⟨bb2, 0, none⟩))), (6, (.pointer (some ⟨bb3, 0, none⟩))), (7, (.int .i64 0)), (8, (.bool false)), (9, v1), (10, (.bool x1.2)), (22, (.bool (!x1.2))), (24, v1), (25, (.int .i64 (x1.1.length : Int))), (26, (.int .i64 x3)), (27, (.bool (decide (x3 < (x1.1.length : Int))))), (13, (.bool x7)), (31, (.bool (!x7))), (11, (.int .i64 x8))] φ' ∧ hp4 = h') ?_ ?_
    ·by_cases c3 : (!x7) = true
     ·rw [if_pos c3] at hy2
      refine W.condT rfl c3 ?_
      refine W.region ?_
      refine RL.opD (by decide) (opv_move rfl rfl) ?_
      refine RL.opD (by decide) (opv_add rfl rfl rfl) ?_
      refine RL.opD (by decide) (opv_assign rfl rfl) ?_
      refine RL.nil ?_
      have ey2 := Option.some.inj hy2
      subst ey2
      refine onlyN ?_
      exact ⟨⟨rfl, rfl, rfl, rfl, rfl, rfl, rfl, rfl, rfl, rfl, rfl, rfl, rfl, rfl, rfl, rfl, rfl, rfl, trivial⟩, rfl⟩
     ·rw [if_neg c3] at hy2
      have c3 := eq_false_of_ne_true c3
      refine W.condF rfl c3 ?_
      refine W.skip ?_
      have ey2 := Option.some.inj hy2
      subst ey2
      refine onlyN ?_
      exact ⟨⟨rfl, rfl, rfl, rfl, rfl, rfl, rfl, rfl, rfl, rfl, rfl, rfl, rfl, rfl, rfl, rfl, rfl, rfl, trivial⟩, rfl⟩
    rintro φ' _ ⟨hs3, rfl⟩
    refine blkN ?_
    refine thnN ?_
    refine W.sub hs3 ?_
    refine W.region ?_
    refine RL.opD (by decide) (opv_add rfl rfl rfl) ?_
    refine RL.opD (by decide) (opv_move rfl rfl) ?_
    refine RL.nil ?_
    have eo1 := Option.some.inj ho1
    subst eo1
    refine rndN (s' := (x8, IntKind.wrap .i64 (x3 + 1))) rfl ?_
    exact ⟨⟨rfl, rfl, rfl, rfl, rfl, rfl, rfl, rfl, rfl, rfl, rfl, rfl, rfl, rfl, rfl, trivial⟩, rfl⟩
   ·rw [if_neg c2] at ho1
    have c2 := eq_false_of_ne_true c2
    refine W.condF rfl c2 ?_
    refine W.exit ?_
    refine thnX ?_
    refine rndX ?_
    refine blkI ?_
    have eo1 := Option.some.inj ho1
    subst eo1
    have ey1 := hy1 _ rfl
    subst ey1
    refine onlyN ?_
    exact ⟨x2, x3, decide (x3 < (x1.1.length : Int)), rfl, ⟨rfl, rfl, rfl, rfl, rfl, rfl, rfl, rfl, rfl, rfl, rfl, rfl, rfl, rfl, rfl, rfl, trivial⟩, rfl⟩
  rintro φ' _ ⟨x4, x5, x6, rfl, hs2, rfl⟩
  try dsimp only at hp
  refine thnN ?_
  refine W.sub hs2 ?_
  refine W.seq ?_
  obtain ⟨x9, hx9, hp⟩ := Option.bind_eq_some_iff.1 hp
  refine W.region ?_
  refine RL.opD (by decide) (opv_loadA (us := [(.int .i64 a0_0), (.int .i64 a0_1), (.bool a0_2), u0_3, u0_4]) rfl Try.agg31 Try.size31 rfl (Sep.at (o := boxO bb1 [(.int .i64 a0_0), (.int .i64 a0_1), (.bool a0_2), u0_3, u0_4]) S_4 3 rfl) rfl rfl) ?_
  refine RL.opD (by decide) (opv_loadA (us := [u1_0, u1_1, u1_2]) rfl Try.agg28 Try.size28 rfl (Sep.at (o := boxO bb2 [u1_0, u1_1, u1_2]) S_4 2 rfl) rfl rfl) ?_
  refine RL.op _ (by decide) (opv_call (cap := []) (impl_stepped_ok _ _ _ _ _ _ (SL.up (SL.mod g0_3 X_4 (Nat.le_refl _) nob) (Nat.le_trans (Nat.le_refl _) (Mod.size X_4))) _ _ (SL.up (SL.mod g0_4 X_4 (Nat.le_refl _) nob) (Nat.le_trans (Nat.le_refl _) (Mod.size X_4))) _ _ (SL.up (SL.mod g1_0 X_4 (Nat.le_refl _) nob) (Nat.le_trans (Nat.le_refl _) (Mod.size X_4))) _ _ (SL.up (SL.mod g1_1 X_4 (Nat.le_refl _) nob) (Nat.le_trans (Nat.le_refl _) (Mod.size X_4))) _ _ (SL.up (SL.mod g1_2 X_4 (Nat.le_refl _) nob) (Nat.le_trans (Nat.le_refl _) (Mod.size X_4))) _ hx9) rfl rfl ⟨rfl, rfl, trivial⟩ Try.func87 rfl rfl) ?_
  rintro _ hp6 ⟨v3, v4, v5, rfl, MT_6, T_6⟩
  obtain ⟨X_6, S_10⟩ := Sep.turn0 X_4 S_4 MT_6 T_6
  refine RL.opD (by decide) (opv_move rfl rfl) ?_
  refine RL.op0 _ (opS_stored (cs := [(.slice none 0 0), (.slice none 0 0), (.slice none 0 0)]) (cs' := [v3, v4, v5]) (opv_storeA (us := [v3, v4, v5]) rfl Try.size28 rfl rfl (oneAll (ownO.one (Sep.at (o := ownO (kF .f32) 25 v3 x9.1) S_10 0 rfl)) (oneAll (ownO.one (Sep.at (o := ownO (kF .f32) 25 v4 x9.2.1) S_10 1 rfl)) (oneAll (ownO.one (Sep.at (o := ownO (kF .f32) 25 v5 x9.2.2) S_10 2 rfl)) rfl))) (Sep.at (o := boxO bb3 [(.slice none 0 0), (.slice none 0 0), (.slice none 0 0)]) S_10 4 rfl) rfl rfl) (Sep.at (o := boxO bb3 [(.slice none 0 0), (.slice none 0 0), (.slice none 0 0)]) S_10 4 rfl)) ?_
  rintro _ hp7 ⟨rfl, MT_7, T_7⟩
  have S_11 : Sep [] h0.size hp6 ([boxO bb3 [(.slice none 0 0), (.slice none 0 0), (.slice none 0 0)]] ++ [ownO (kF .f32) 25 v3 x9.1, ownO (kF .f32) 25 v4 x9.2.1, ownO (kF .f32) 25 v5 x9.2.2, ownO kB 4 v1 x1.1, boxO bb2 [u1_0, u1_1, u1_2], boxO bb1 [(.int .i64 a0_0), (.int .i64 a0_1), (.bool a0_2), u0_3, u0_4]]) := Sep.sel S_10 [4, 0, 1, 2, 3, 5, 6] (by decide)
  obtain ⟨X_7, S_12⟩ := Sep.turn X_6 S_11 MT_7 T_7
  refine RL.opD (by decide) (opv_assign rfl rfl) ?_
  refine RL.opD (by decide) (opv_assign rfl rfl) ?_
  refine RL.nil ?_
  refine thnN ?_
  refine W.ret ?_
  have er := Option.some.inj hp
  subst er
  exact Rt.cellB rfl rfl rfl rfl Try.agg28 Try.size28 (Sep.at (o := boxO bb3 [v3, v4, v5]) S_12 0 rfl) rfl ⟨v3, v4, v5, rfl, X_7, (Sep.sel S_12 [1, 2, 3] (by decide))⟩

set_option maxRecDepth 20000 in
theorem laws_b10Long_ok (h0 : Heap) (u0 : Value) (a0 : List (Int)) (g0 : SL (kI .u8) h0.size h0 u0 a0) (u1 : Value) (a1 : List (Int)) (g1 : SL (kI .u8) h0.size h0 u1 a1) (r : Bool) (hp : laws_b10Long a0 a1 = some r) : CallsH Try.prog 51 ([u0, u1].toArray ++ [].toArray) h0 (fun v h' => v = (.bool r) ∧ h0 = h') := by
 unfold laws_b10Long at hp
 refine callsH_of_W (l := [u0, u1]) (cap := []) 13 Try.func51 rfl rfl rfl ?_
 refine W.seq ?_
 refine W.region ?_
 refine RL.opD (by decide) (opv_assign rfl rfl) ?_
 refine RL.nil ?_
 refine thnN ?_
 refine W.seq ?_
 obtain ⟨x1, hy1, hp⟩ := Option.bind_eq_some_iff.1 hp
 refine W.cut (fun φ' h' => Fr.sub [(0, u0), (1, u1), (4, (.bool x1))] φ' ∧ h0 = h') ?_ ?_
 ·by_cases c1 : (decide ((a0.length : Int) > 1048576)) = true
  ·rw [if_pos c1] at hy1
   refine W.region ?_
   refine RL.opD (by decide) (opv_move rfl rfl) ?_
   refine RL.opD (by decide) (opv_len rfl Try.underlying76 rfl g0) ?_
   refine RL.opD (by decide) (opv_icmp rfl rfl rfl rfl) ?_
   refine RL.opD (by decide) (opv_move rfl rfl) ?_
   refine RL.noT rfl rfl c1 (by decide) ?_
   refine RL.noT rfl rfl c1 (by decide) ?_
   refine RL.noT rfl rfl c1 (by decide) ?_
   refine RL.opD (by decide) (opv_pick rfl rfl (fun _ => rfl) (fun e => absurd (Eq.trans (Eq.symm e) c1) (by decide)) rfl) ?_
   refine RL.opD (by decide) (opv_assign rfl rfl) ?_
   refine RL.nil ?_
   have ey1 := Option.some.inj hy1
   subst ey1
   refine onlyN ?_
   exact ⟨⟨rfl, rfl, rfl, trivial⟩, rfl⟩
  ·rw [if_neg c1] at hy1
   have c1 := eq_false_of_ne_true c1
   refine W.region ?_
   refine RL.opD (by decide) (opv_move rfl rfl) ?_
   refine RL.opD (by decide) (opv_len rfl Try.underlying76 rfl g0) ?_
   refine RL.opD (by decide) (opv_icmp rfl rfl rfl rfl) ?_
   refine RL.opD (by decide) (opv_move rfl rfl) ?_
   refine RL.yesD rfl rfl c1 (by decide) (opv_move rfl rfl) ?_
   refine RL.yesD rfl rfl c1 (by decide) (opv_len rfl Try.underlying76 rfl g1) ?_
   refine RL.yesD rfl rfl c1 (by decide) (opv_icmp rfl rfl rfl rfl) ?_
   refine RL.opD (by decide) (opv_pick rfl rfl (fun e => absurd (Eq.trans (Eq.symm e) c1) (by decide)) (fun _ => rfl) rfl) ?_
   refine RL.opD (by decide) (opv_assign rfl rfl) ?_
   refine RL.nil ?_
   have ey1 := Option.some.inj hy1
   subst ey1
   refine onlyN ?_
   exact ⟨⟨rfl, rfl, rfl, trivial⟩, rfl⟩
 rintro φ' _ ⟨hs1, rfl⟩
 refine thnN ?_
 refine W.sub hs1 ?_
 refine W.ret ?_
 have er := Option.some.inj hp
 subst er
 exact Rt.one rfl rfl ⟨rfl, rfl⟩

set_option maxRecDepth 20000 in
theorem laws_b10At_ok (h0 : Heap) (u0 : Value) (a0 : List (Int)) (g0 : SL (kI .u8) h0.size h0 u0 a0) (a1 : Int) (a2 : Int) (r : Int) (hp : laws_b10At a0 a1 a2 = some r) : CallsH Try.prog 54 ([u0, (.int .i64 a1), (.int .i64 a2)].toArray ++ [].toArray) h0 (fun v h' => v = (.int .i64 r) ∧ h0 = h') := by
 unfold laws_b10At at hp
 refine callsH_of_W (l := [u0, (.int .i64 a1), (.int .i64 a2)]) (cap := []) 25 Try.func54 rfl rfl rfl ?_
 refine W.seq ?_
 refine W.region ?_
 refine RL.opD (by decide) (opv_assign rfl rfl) ?_
 refine RL.nil ?_
 refine thnN ?_
 refine W.seq ?_
 refine W.seq ?_
 refine W.region ?_
 refine RL.opD (by decide) (opv_move rfl rfl) ?_
 refine RL.opD (by decide) (opv_icmp rfl rfl rfl rfl) ?_
 refine RL.nil ?_
 refine thnN ?_
 by_cases c1 : (decide (a2 ≤ 1)) = true
 ·rw [if_pos c1] at hp
  refine W.condT rfl c1 ?_
  refine W.seq ?_
  refine W.region ?_
  refine RL.opD (by decide) (opv_assign rfl rfl) ?_
  refine RL.nil ?_
  refine thnN ?_
  refine W.ret ?_
  refine thnR ?_
  have er := Option.some.inj hp
  subst er
  exact Rt.one rfl rfl ⟨rfl, rfl⟩
 ·rw [if_neg c1] at hp
  have c1 := eq_false_of_ne_true c1
  refine W.condF rfl c1 ?_
  refine W.skip ?_
  refine thnN ?_
  refine W.seq ?_
  refine W.seq ?_
  refine W.region ?_
  refine RL.opD (by decide) (opv_move rfl rfl) ?_
  refine RL.opD (by decide) (opv_move rfl rfl) ?_
  refine RL.opD (by decide) (opv_len rfl Try.underlying76 rfl g0) ?_
  refine RL.opD (by decide) (opv_icmp rfl rfl rfl rfl) ?_
  refine RL.nil ?_
  refine thnN ?_
  by_cases c2 : (decide (a1 < (a0.length : Int))) = true
  ·rw [if_pos c2] at hp
   refine W.condT rfl c2 ?_
   refine W.seq ?_
   obtain ⟨x1, hx1, hp⟩ := Option.bind_eq_some_iff.1 hp
   by_cases nc3 : a2 = 0
   ·rw [if_pos nc3] at hp; cases hp
   rw [if_neg nc3] at hp
   have c3 : a2 ≠ 0 := nc3
   refine W.region ?_
   refine RL.opD (by decide) (opv_move rfl rfl) ?_
   refine RL.opD (by decide) (opv_move rfl rfl) ?_
   refine RL.op _ (by decide) (opv_index rfl Try.underlying76 (by rw [Try.size5]; rfl) rfl rfl g0 hx1) ?_
   rintro v1 _ ⟨fv1, rfl⟩
   refine RL.opD (by decide) (opv_loadI rfl Try.one5 rfl fv1 g0 hx1) ?_
   refine RL.opD (by decide) (opv_i2i rfl (by rw [Try.underlying5]; rfl) Try.underlying2 rfl) ?_
   refine RL.opD (by decide) (opv_move rfl rfl) ?_
   refine RL.opD (by decide) (opv_rem rfl c3 rfl rfl) ?_
   refine RL.opD (by decide) (opv_assign rfl rfl) ?_
   refine RL.nil ?_
   refine thnN ?_
   refine W.ret ?_
   refine thnR ?_
   have er := Option.some.inj hp
   subst er
   exact Rt.one rfl rfl ⟨rfl, rfl⟩
  ·rw [if_neg c2] at hp
   have c2 := eq_false_of_ne_true c2
   refine W.condF rfl c2 ?_
   refine W.skip ?_
   refine thnN ?_
   refine W.seq ?_
   by_cases nc4 : a2 = 0
   ·rw [if_pos nc4] at hp; cases hp
   rw [if_neg nc4] at hp
   have c4 : a2 ≠ 0 := nc4
   refine W.region ?_
   refine RL.opD (by decide) (opv_move rfl rfl) ?_
   refine RL.opD (by decide) (opv_mul rfl rfl rfl) ?_
   refine RL.opD (by decide) (opv_add rfl rfl rfl) ?_
   refine RL.opD (by decide) (opv_move rfl rfl) ?_
   refine RL.opD (by decide) (opv_rem rfl c4 rfl rfl) ?_
   refine RL.opD (by decide) (opv_assign rfl rfl) ?_
   refine RL.nil ?_
   refine thnN ?_
   refine W.ret ?_
   have er := Option.some.inj hp
   subst er
   exact Rt.one rfl rfl ⟨rfl, rfl⟩

set_option maxRecDepth 20000 in
theorem spec_l01Bits_ok (h0 : Heap) (u0 : Value) (a0 : Option Nat) (g0 : IsF .f32 u0 a0) (r : Int) (hp : spec_l01Bits a0 = some r) : CallsH Try.prog 173 ([u0].toArray ++ [].toArray) h0 (fun v h' => v = (.int .i64 r) ∧ h0 = h') := by
 unfold spec_l01Bits at hp
 refine callsH_of_W (l := [u0]) (cap := []) 9 Try.func173 rfl rfl rfl ?_
 refine W.seq ?_
 refine W.region ?_
 refine RL.opD (by decide) (opv_assign rfl rfl) ?_
 refine RL.nil ?_
 refine thnN ?_
 refine W.seq ?_
 refine W.seq ?_
 refine W.region ?_
 refine RL.opD (by decide) (opv_move rfl rfl) ?_
 refine RL.opD (by decide) (opv_move rfl rfl) ?_
 refine RL.opD (by decide) (opv_fcmp rfl rfl rfl rfl g0 g0) ?_
 refine RL.nil ?_
 refine thnN ?_
 by_cases c1 : (fcmp .neq .f32 a0 a0) = true
 ·rw [if_pos c1] at hp
  refine W.condT rfl c1 ?_
  refine W.seq ?_
  refine W.region ?_
  refine RL.opD (by decide) (opv_assign rfl rfl) ?_
  refine RL.nil ?_
  refine thnN ?_
  refine W.ret ?_
  refine thnR ?_
  have er := Option.some.inj hp
  subst er
  exact Rt.one rfl rfl ⟨rfl, rfl⟩
 ·rw [if_neg c1] at hp
  have c1 := eq_false_of_ne_true c1
  refine W.condF rfl c1 ?_
  refine W.skip ?_
  refine thnN ?_
  refine W.seq ?_
  obtain ⟨x1, hx1, hp⟩ := Option.bind_eq_some_iff.1 hp
  refine W.region ?_
  refine RL.opD (by decide) (opv_move rfl rfl) ?_
  refine RL.opD (by decide) (opv_ext (vs := [u0]) rfl rfl ⟨rfl, trivial⟩ Try.func198 rfl rfl rfl rfl (fun w => bits32_run g0 hx1 w)) ?_
  refine RL.opD (by decide) (opv_i2i rfl (by rw [Try.underlying184]; rfl) Try.underlying2 rfl) ?_
  refine RL.opD (by decide) (opv_assign rfl rfl) ?_
  refine RL.nil ?_
  refine thnN ?_
  refine W.ret ?_
  have er := Option.some.inj hp
  subst er
  exact Rt.one rfl rfl ⟨rfl, rfl⟩

set_option maxRecDepth 20000 in
theorem spec_l01Same_ok (h0 : Heap) (u0 : Value) (a0 : Option Nat) (g0 : IsF .f32 u0 a0) (u1 : Value) (a1 : Option Nat) (g1 : IsF .f32 u1 a1) (r : Bool) (hp : spec_l01Same a0 a1 = some r) : CallsH Try.prog 123 ([u0, u1].toArray ++ [].toArray) h0 (fun v h' => v = (.bool r) ∧ h0 = h') := by
 unfold spec_l01Same at hp
 refine callsH_of_W (l := [u0, u1]) (cap := []) 10 Try.func123 rfl rfl rfl ?_
 refine W.seq ?_
 refine W.region ?_
 refine RL.opD (by decide) (opv_assign rfl rfl) ?_
 refine RL.nil ?_
 refine thnN ?_
 refine W.seq ?_
 obtain ⟨x1, hx1, hp⟩ := Option.bind_eq_some_iff.1 hp
 obtain ⟨x2, hx2, hp⟩ := Option.bind_eq_some_iff.1 hp
 refine W.region ?_
 refine RL.opD (by decide) (opv_move rfl rfl) ?_
 refine RL.op _ (by decide) (opv_call (cap := []) (spec_l01Bits_ok _ _ _ g0 _ hx1) rfl rfl ⟨rfl, trivial⟩ Try.func173 rfl rfl) ?_
 rintro _ _ ⟨rfl, rfl⟩
 refine RL.opD (by decide) (opv_move rfl rfl) ?_
 refine RL.op _ (by decide) (opv_call (cap := []) (spec_l01Bits_ok _ _ _ g1 _ hx2) rfl rfl ⟨rfl, trivial⟩ Try.func173 rfl rfl) ?_
 rintro _ _ ⟨rfl, rfl⟩
 refine RL.opD (by decide) (opv_icmp rfl rfl rfl rfl) ?_
 refine RL.opD (by decide) (opv_assign rfl rfl) ?_
 refine RL.nil ?_
 refine thnN ?_
 refine W.ret ?_
 have er := Option.some.inj hp
 subst er
 exact Rt.one rfl rfl ⟨rfl, rfl⟩

set_option maxRecDepth 20000 in
theorem spec_SameNumber_ok (h0 : Heap) (u0 : Value) (a0 : Option Nat) (g0 : IsF .f32 u0 a0) (u1 : Value) (a1 : Option Nat) (g1 : IsF .f32 u1 a1) (r : Bool) (hp : spec_SameNumber a0 a1 = some r) : CallsH Try.prog 63 ([u0, u1].toArray ++ [].toArray) h0 (fun v h' => v = (.bool r) ∧ h0 = h') := by
 unfold spec_SameNumber at hp
 refine callsH_of_W (l := [u0, u1]) (cap := []) 8 Try.func63 rfl rfl rfl ?_
 refine W.seq ?_
 refine W.region ?_
 refine RL.opD (by decide) (opv_assign rfl rfl) ?_
 refine RL.nil ?_
 refine thnN ?_
 refine W.seq ?_
 obtain ⟨x1, hx1, hp⟩ := Option.bind_eq_some_iff.1 hp
 refine W.region ?_
 refine RL.opD (by decide) (opv_move rfl rfl) ?_
 refine RL.opD (by decide) (opv_move rfl rfl) ?_
 refine RL.op _ (by decide) (opv_call (cap := []) (spec_l01Same_ok _ _ _ g0 _ _ g1 _ hx1) rfl rfl ⟨rfl, rfl, trivial⟩ Try.func123 rfl rfl) ?_
 rintro _ _ ⟨rfl, rfl⟩
 refine RL.opD (by decide) (opv_assign rfl rfl) ?_
 refine RL.nil ?_
 refine thnN ?_
 refine W.ret ?_
 have er := Option.some.inj hp
 subst er
 exact Rt.one rfl rfl ⟨rfl, rfl⟩

set_option maxRecDepth 20000 in
theorem impl_RunField_1_ok (h0 : Heap) (u0_0 : Value) (a0_0 : List (Option Nat)) (g0_0 : SL (kF .f32) h0.size h0 u0_0 a0_0) (u0_1 : Value) (a0_1 : List (Option Nat)) (g0_1 : SL (kF .f32) h0.size h0 u0_1 a0_1) (u0_2 : Value) (a0_2 : List (Option Nat)) (g0_2 : SL (kF .f32) h0.size h0 u0_2 a0_2) (r : Unit) (hp : impl_RunField_1 a0_0 a0_1 a0_2 = some r) : CallsH Try.prog 175 ([(.agg (List.toArray (α := Value) [u0_0, u0_1, u0_2]))].toArray ++ [].toArray) h0 (fun v h' => v = (.tuple (List.toArray (α := Value) [])) ∧ Mod [] h0 h' ∧ Sep [] h0.size h' []) := by
 unfold impl_RunField_1 at hp
 refine callsH_of_W (l := [(.agg (List.toArray (α := Value) [u0_0, u0_1, u0_2]))]) (cap := []) 2 Try.func175 rfl rfl rfl ?_
 refine W.region ?_
 refine RL.op _ (by decide) (opS_boxed (opv_boxA (cs := [u0_0, u0_1, u0_2]) rfl rfl)) ?_
 rintro _ hp1 ⟨bb1, rfl, MT_1, T_1⟩
 obtain ⟨X_1, S_1⟩ := Sep.turn0 (Mod.refl [] h0) (Sep.nil [] h0.size h0) MT_1 T_1
 refine RL.nil ?_
 have er := Option.some.inj hp
 subst er
 exact Rt.none' rfl ⟨rfl, X_1, (Sep.nil _ _ _)⟩

set_option maxRecDepth 20000 in
theorem impl_run__impl_RunField_1_ok (h0 : Heap) (a0_0 : Int) (a0_1 : Int) (a0_2 : Bool) (u0_3 : Value) (a0_3 : List (Option Nat)) (g0_3 : SL (kF .f32) h0.size h0 u0_3 a0_3) (u0_4 : Value) (a0_4 : List (Option Nat)) (g0_4 : SL (kF .f32) h0.size h0 u0_4 a0_4) (u1_0 : Value) (a1_0 : List (Option Nat)) (g1_0 : SL (kF .f32) h0.size h0 u1_0 a1_0) (u1_1 : Value) (a1_1 : List (Option Nat)) (g1_1 : SL (kF .f32) h0.size h0 u1_1 a1_1) (u1_2 : Value) (a1_2 : List (Option Nat)) (g1_2 : SL (kF .f32) h0.size h0 u1_2 a1_2) (a2 : Int) (r : ((List (Option Nat)) × (List (Option Nat)) × (List (Option Nat)) × Bool)) (hp : impl_run__impl_RunField_1 a0_0 a0_1 a0_2 a0_3 a0_4 a1_0 a1_1 a1_2 a2 = some r) : CallsH Try.prog 174 ([(.agg (List.toArray (α := Value) [(.int .i64 a0_0), (.int .i64 a0_1), (.bool a0_2), u0_3, u0_4])), (.agg (List.toArray (α := Value) [u1_0, u1_1, u1_2])), (.int .i64 a2), (.func (.func 175) #[] [].toArray)].toArray ++ [].toArray) h0 (fun v h' => ∃ w0, ∃ w1, ∃ w2, v = (.tuple (List.toArray (α := Value) [(.agg (List.toArray (α := Value) [w0, w1, w2])), (.bool r.2.2.2)])) ∧ Mod [] h0 h' ∧ Sep [] h0.size h' [ownO (kF .f32) 25 w0 r.1, ownO (kF .f32) 25 w1 r.2.1, ownO (kF .f32) 25 w2 r.2.2.1]) := by
 unfold impl_run__impl_RunField_1 at hp
 refine callsH_of_W (l := [(.agg (List.toArray (α := Value) [(.int .i64 a0_0), (.int .i64 a0_1), (.bool a0_2), u0_3, u0_4])), (.agg (List.toArray (α := Value) [u1_0, u1_1, u1_2])), (.int .i64 a2), (.func (.func 175) #[] [].toArray)]) (cap := []) 34 Try.func174 rfl rfl rfl ?_
 refine W.seq ?_
 refine W.region ?_
 refine RL.op _ (by decide) (opS_boxed (opv_boxA (cs := [(.int .i64 a0_0), (.int .i64 a0_1), (.bool a0_2), u0_3, u0_4]) rfl rfl)) ?_
 rintro _ hp1 ⟨bb1, rfl, MT_1, T_1⟩
 obtain ⟨X_1, S_1⟩ := Sep.turn0 (Mod.refl [] h0) (Sep.nil [] h0.size h0) MT_1 T_1
 refine RL.op _ (by decide) (opS_boxed (opv_boxA (cs := [u1_0, u1_1, u1_2]) rfl rfl)) ?_
 rintro _ hp2 ⟨bb2, rfl, MT_2, T_2⟩
 obtain ⟨X_2, S_2⟩ := Sep.turn0 X_1 S_1 MT_2 T_2
 refine RL.op _ (by decide) (opS_boxed (opv_alloc (cs := [(.slice none 0 0), (.slice none 0 0), (.slice none 0 0)]) rfl Try.zero28 rfl)) ?_
 rintro _ hp3 ⟨bb3, rfl, MT_3, T_3⟩
 obtain ⟨X_3, S_3⟩ := Sep.turn0 X_2 S_2 MT_3 T_3
 refine RL.opD (by decide) (opv_assign rfl rfl) ?_
 refine RL.nil ?_
 refine thnN ?_
 refine W.seq ?_
 refine W.seq ?_
 obtain ⟨x1, hy1, hp⟩ := Option.bind_eq_some_iff.1 hp
 refine W.cut (fun φ' h' => Fr.sub [(0, (.agg (List.toArray (α := Value) [(.int .i64 a0_0), (.int .i64 a0_1), (.bool a0_2), u0_3, u0_4]))), (1, (.agg (List.toArray (α := Value) [u1_0, u1_1, u1_2]))), (2, (.int .i64 a2)), (3, (.func (.func 175) #[] [].toArray)), (4, (.pointer (some ⟨bb1, 0, none⟩))), (5, (.pointer (some ⟨bb2, 0, none⟩))), (8, (.pointer (some ⟨bb3, 0, none⟩))), (9, (.bool false)), (19, (.bool x1))] φ' ∧ Mod [] h0 h' ∧ Sep [] h0.size h' [boxO bb3 [(.slice none 0 0), (.slice none 0 0), (.slice none 0 0)], boxO bb2 [u1_0, u1_1, u1_2], boxO bb1 [(.int .i64 a0_0), (.int .i64 a0_1), (.bool a0_2), u0_3, u0_4]]) ?_ ?_
 ·obtain ⟨x2, hx2, hy1⟩ := Option.bind_eq_some_iff.1 hy1
  by_cases c1 : (!x2) = true
  ·rw [if_pos c1] at hy1
   refine W.region ?_
   refine RL.opD (by decide) (opv_loadA (us := [(.int .i64 a0_0), (.int .i64 a0_1), (.bool a0_2), u0_3, u0_4]) rfl Try.agg31 Try.size31 rfl (Sep.at (o := boxO bb1 [(.int .i64 a0_0), (.int .i64 a0_1), (.bool a0_2), u0_3, u0_4]) S_3 2 rfl) rfl rfl) ?_
   refine RL.opD (by decide) (opv_loadA (us := [u1_0, u1_1, u1_2]) rfl Try.agg28 Try.size28 rfl (Sep.at (o := boxO bb2 [u1_0, u1_1, u1_2]) S_3 1 rfl) rfl rfl) ?_
   refine RL.op _ (by decide) (opv_call (cap := []) (impl_IsField_ok _ _ _ _ _ _ (SL.up (SL.mod g0_3 X_3 (Nat.le_refl _) nob) (Nat.le_trans (Nat.le_refl _) (Mod.size X_3))) _ _ (SL.up (SL.mod g0_4 X_3 (Nat.le_refl _) nob) (Nat.le_trans (Nat.le_refl _) (Mod.size X_3))) _ _ (SL.up (SL.mod g1_0 X_3 (Nat.le_refl _) nob) (Nat.le_trans (Nat.le_refl _) (Mod.size X_3))) _ _ (SL.up (SL.mod g1_1 X_3 (Nat.le_refl _) nob) (Nat.le_trans (Nat.le_refl _) (Mod.size X_3))) _ _ (SL.up (SL.mod g1_2 X_3 (Nat.le_refl _) nob) (Nat.le_trans (Nat.le_refl _) (Mod.size X_3))) _ hx2) rfl rfl ⟨rfl, rfl, trivial⟩ Try.func61 rfl rfl) ?_
   rintro _ hp4 ⟨rfl, MT_4, T_4⟩
   obtain ⟨X_4, S_4⟩ := Sep.turn0 X_3 S_3 MT_4 T_4
   refine RL.opD (by decide) (opv_not rfl rfl) ?_
   refine RL.opD (by decide) (opv_move rfl rfl) ?_
   refine RL.noT rfl rfl c1 (by decide) ?_
   refine RL.noT rfl rfl c1 (by decide) ?_
   refine RL.noT rfl rfl c1 (by decide) ?_
   refine RL.opD (by decide) (opv_pick rfl rfl (fun _ => rfl) (fun e => absurd (Eq.trans (Eq.symm e) c1) (by decide)) rfl) ?_
   refine RL.nil ?_
   have ey1 := Option.some.inj hy1
   subst ey1
   refine onlyN ?_
   exact ⟨⟨rfl, rfl, rfl, rfl, rfl, rfl, rfl, rfl, rfl, trivial⟩, X_4, (Sep.sel S_4 [0, 1, 2] (by decide))⟩
  ·rw [if_neg c1] at hy1
   have c1 := eq_false_of_ne_true c1
   obtain ⟨x3, hx3, hy1⟩ := Option.bind_eq_some_iff.1 hy1
   refine W.region ?_
   refine RL.opD (by decide) (opv_loadA (us := [(.int .i64 a0_0), (.int .i64 a0_1), (.bool a0_2), u0_3, u0_4]) rfl Try.agg31 Try.size31 rfl (Sep.at (o := boxO bb1 [(.int .i64 a0_0), (.int .i64 a0_1), (.bool a0_2), u0_3, u0_4]) S_3 2 rfl) rfl rfl) ?_
   refine RL.opD (by decide) (opv_loadA (us := [u1_0, u1_1, u1_2]) rfl Try.agg28 Try.size28 rfl (Sep.at (o := boxO bb2 [u1_0, u1_1, u1_2]) S_3 1 rfl) rfl rfl) ?_
   refine RL.op _ (by decide) (opv_call (cap := []) (impl_IsField_ok _ _ _ _ _ _ (SL.up (SL.mod g0_3 X_3 (Nat.le_refl _) nob) (Nat.le_trans (Nat.le_refl _) (Mod.size X_3))) _ _ (SL.up (SL.mod g0_4 X_3 (Nat.le_refl _) nob) (Nat.le_trans (Nat.le_refl _) (Mod.size X_3))) _ _ (SL.up (SL.mod g1_0 X_3 (Nat.le_refl _) nob) (Nat.le_trans (Nat.le_refl _) (Mod.size X_3))) _ _ (SL.up (SL.mod g1_1 X_3 (Nat.le_refl _) nob) (Nat.le_trans (Nat.le_refl _) (Mod.size X_3))) _ _ (SL.up (SL.mod g1_2 X_3 (Nat.le_refl _) nob) (Nat.le_trans (Nat.le_refl _) (Mod.size X_3))) _ hx2) rfl rfl ⟨rfl, rfl, trivial⟩ Try.func61 rfl rfl) ?_
   rintro _ hp4 ⟨rfl, MT_4, T_4⟩
   obtain ⟨X_4, S_4⟩ := Sep.turn0 X_3 S_3 MT_4 T_4
   refine RL.opD (by decide) (opv_not rfl rfl) ?_
   refine RL.opD (by decide) (opv_move rfl rfl) ?_
   refine RL.yesD rfl rfl c1 (by decide) (opv_move rfl rfl) ?_
   refine RL.yes _ rfl rfl c1 (by decide) (opv_call (cap := []) (impl_within_ok _ _ _ _ _ hx3) rfl rfl ⟨rfl, rfl, rfl, trivial⟩ Try.func78 rfl rfl) ?_
   rintro _ _ ⟨rfl, rfl⟩
   refine RL.yesD rfl rfl c1 (by decide) (opv_not rfl rfl) ?_
   refine RL.opD (by decide) (opv_pick rfl rfl (fun e => absurd (Eq.trans (Eq.symm e) c1) (by decide)) (fun _ => rfl) rfl) ?_
   refine RL.nil ?_
   have ey1 := Option.some.inj hy1
   subst ey1
   refine onlyN ?_
   exact ⟨⟨rfl, rfl, rfl, rfl, rfl, rfl, rfl, rfl, rfl, trivial⟩, X_4, (Sep.sel S_4 [0, 1, 2] (by decide))⟩
 rintro φ' hp5 ⟨hs1, X_5, S_5⟩
 refine thnN ?_
 refine W.sub hs1 ?_
 by_cases c2 : x1 = true
 ·rw [if_pos c2] at hp
  refine W.condT rfl c2 ?_
  refine W.seq ?_
  refine W.region ?_
  refine RL.opD (by decide) (opv_build (cs := [(.slice none 0 0), (.slice none 0 0), (.slice none 0 0)]) [] [] rfl Try.bd28 trivial rfl) ?_
  refine RL.op0 _ (opS_stored (cs := [(.slice none 0 0), (.slice none 0 0), (.slice none 0 0)]) (cs' := [(.slice none 0 0), (.slice none 0 0), (.slice none 0 0)]) (opv_storeA (us := [(.slice none 0 0), (.slice none 0 0), (.slice none 0 0)]) rfl Try.size28 rfl rfl (oneAll rfl (oneAll rfl (oneAll rfl rfl))) (Sep.at (o := boxO bb3 [(.slice none 0 0), (.slice none 0 0), (.slice none 0 0)]) S_5 0 rfl) rfl rfl) (Sep.at (o := boxO bb3 [(.slice none 0 0), (.slice none 0 0), (.slice none 0 0)]) S_5 0 rfl)) ?_
  rintro _ hp6 ⟨rfl, MT_5, T_5⟩
  have S_6 : Sep [] h0.size hp5 ([boxO bb3 [(.slice none 0 0), (.slice none 0 0), (.slice none 0 0)]] ++ [boxO bb2 [u1_0, u1_1, u1_2], boxO bb1 [(.int .i64 a0_0), (.int .i64 a0_1), (.bool a0_2), u0_3, u0_4]]) := Sep.sel S_5 [0, 1, 2] (by decide)
  obtain ⟨X_6, S_7⟩ := Sep.turn X_5 S_6 MT_5 T_5
  refine RL.opD (by decide) (opv_assign rfl rfl) ?_
  refine RL.nil ?_
  refine thnN ?_
  refine W.ret ?_
  refine thnR ?_
  have S_8 : Sep [] h0.size hp6 [ownO (kF .f32) 25 (.slice none 0 0) ([] : List (Option Nat)), boxO bb3 [(.slice none 0 0), (.slice none 0 0), (.slice none 0 0)], boxO bb2 [u1_0, u1_1, u1_2], boxO bb1 [(.int .i64 a0_0), (.int .i64 a0_1), (.bool a0_2), u0_3, u0_4]] := Sep.addNil S_7
  have S_9 : Sep [] h0.size hp6 [ownO (kF .f32) 25 (.slice none 0 0) ([] : List (Option Nat)), ownO (kF .f32) 25 (.slice none 0 0) ([] : List (Option Nat)), boxO bb3 [(.slice none 0 0), (.slice none 0 0), (.slice none 0 0)], boxO bb2 [u1_0, u1_1, u1_2], boxO bb1 [(.int .i64 a0_0), (.int .i64 a0_1), (.bool a0_2), u0_3, u0_4]] := Sep.addNil S_8
  have S_10 : Sep [] h0.size hp6 [ownO (kF .f32) 25 (.slice none 0 0) ([] : List (Option Nat)), ownO (kF .f32) 25 (.slice none 0 0) ([] : List (Option Nat)), ownO (kF .f32) 25 (.slice none 0 0) ([] : List (Option Nat)), boxO bb3 [(.slice none 0 0), (.slice none 0 0), (.slice none 0 0)], boxO bb2 [u1_0, u1_1, u1_2], boxO bb1 [(.int .i64 a0_0), (.int .i64 a0_1), (.bool a0_2), u0_3, u0_4]] := Sep.addNil S_9
  have er := Option.some.inj hp
  subst er
  exact Rt.cellA rfl rfl rfl Try.agg28 Try.size28 (Sep.at (o := boxO bb3 [(.slice none 0 0), (.slice none 0 0), (.slice none 0 0)]) S_10 3 rfl) rfl ⟨(.slice none 0 0), (.slice none 0 0), (.slice none 0 0), rfl, X_6, (Sep.sel S_10 [2, 1, 0] (by decide))⟩
 ·rw [if_neg c2] at hp
  have c2 := eq_false_of_ne_true c2
  refine W.condF rfl c2 ?_
  refine W.skip ?_
  refine thnN ?_
  refine W.seq ?_
  obtain ⟨x4, hx4, hp⟩ := Option.bind_eq_some_iff.1 hp
  refine W.region ?_
  refine RL.opD (by decide) (opv_loadA (us := [u1_0, u1_1, u1_2]) rfl Try.agg28 Try.size28 rfl (Sep.at (o := boxO bb2 [u1_0, u1_1, u1_2]) S_5 1 rfl) rfl rfl) ?_
  refine RL.op _ (by decide) (opv_call (cap := []) (impl_copyField_ok _ _ _ (SL.up (SL.mod g1_0 X_5 (Nat.le_refl _) nob) (Nat.le_trans (Nat.le_refl _) (Mod.size X_5))) _ _ (SL.up (SL.mod g1_1 X_5 (Nat.le_refl _) nob) (Nat.le_trans (Nat.le_refl _) (Mod.size X_5))) _ _ (SL.up (SL.mod g1_2 X_5 (Nat.le_refl _) nob) (Nat.le_trans (Nat.le_refl _) (Mod.size X_5))) _ hx4) rfl rfl ⟨rfl, trivial⟩ Try.func112 rfl rfl) ?_
  rintro _ hp7 ⟨v1, v2, v3, rfl, MT_6, T_6⟩
  obtain ⟨X_7, S_11⟩ := Sep.turn0 X_5 S_5 MT_6 T_6
  refine RL.op _ (by decide) (opS_boxed (opv_alloc (cs := [(.slice none 0 0), (.slice none 0 0), (.slice none 0 0)]) rfl Try.zero28 rfl)) ?_
  rintro _ hp8 ⟨bb4, rfl, MT_7, T_7⟩
  obtain ⟨X_8, S_12⟩ := Sep.turn0 X_7 S_11 MT_7 T_7
  refine RL.op0 _ (opS_stored (cs := [(.slice none 0 0), (.slice none 0 0), (.slice none 0 0)]) (cs' := [v1, v2, v3]) (opv_storeA (us := [v1, v2, v3]) rfl Try.size28 rfl rfl (oneAll (ownO.one (Sep.at (o := ownO (kF .f32) 25 v1 x4.1) S_12 1 rfl)) (oneAll (ownO.one (Sep.at (o := ownO (kF .f32) 25 v2 x4.2.1) S_12 2 rfl)) (oneAll (ownO.one (Sep.at (o := ownO (kF .f32) 25 v3 x4.2.2) S_12 3 rfl)) rfl))) (Sep.at (o := boxO bb4 [(.slice none 0 0), (.slice none 0 0), (.slice none 0 0)]) S_12 0 rfl) rfl rfl) (Sep.at (o := boxO bb4 [(.slice none 0 0), (.slice none 0 0), (.slice none 0 0)]) S_12 0 rfl)) ?_
  rintro _ hp9 ⟨rfl, MT_8, T_8⟩
  have S_13 : Sep [] h0.size hp8 ([boxO bb4 [(.slice none 0 0), (.slice none 0 0), (.slice none 0 0)]] ++ [ownO (kF .f32) 25 v1 x4.1, ownO (kF .f32) 25 v2 x4.2.1, ownO (kF .f32) 25 v3 x4.2.2, boxO bb3 [(.slice none 0 0), (.slice none 0 0), (.slice none 0 0)], boxO bb2 [u1_0, u1_1, u1_2], boxO bb1 [(.int .i64 a0_0), (.int .i64 a0_1), (.bool a0_2), u0_3, u0_4]]) := Sep.sel S_12 [0, 1, 2, 3, 4, 5, 6] (by decide)
  obtain ⟨X_9, S_14⟩ := Sep.turn X_8 S_13 MT_8 T_8
  refine RL.nil ?_
  refine thnN ?_
  refine W.seq ?_
  refine W.seq ?_
  refine W.region ?_
  refine RL.opD (by decide) (opv_move rfl rfl) ?_
  refine RL.opD (by decide) (opv_move rfl rfl) ?_
  refine RL.nil ?_
  refine thnN ?_
  obtain ⟨y2, hy2, hp⟩ := Option.bind_eq_some_iff.1 hp
  refine W.cut (fun φ' h' => ∃ x9, ∃ x10, ∃ x11, ∃ x12, ∃ x13, ∃ v7, ∃ v8, ∃ v9, y2 = (x9, x10, x11, x12, x13) ∧ Fr.sub [(0, (.agg (List.toArray (α := Value) [(.int .i64 a0_0), (.int .i64 a0_1), (.bool a0_2), u0_3, u0_4]))), (1, (.agg (List.toArray (α := Value) [u1_0, u1_1, u1_2]))), (2, (.int .i64 a2)), (3, (.func (.func 175) #[] [].toArray)), (4, (.pointer (some ⟨bb1, 0, none⟩))), (5, (.pointer (some ⟨bb2, 0, none⟩))), (8, (.pointer (some ⟨bb3, 0, none⟩))), (9, (.bool false)), (19, (.bool x1)), (10, (.pointer (some ⟨bb4, 0, none⟩))), (23, (.int .i64 a2)), (24, (.int .i64 x9)), (25, (.bool x10))] φ' ∧ Mod [] h0 h' ∧ Sep [] h0.size h' [boxO bb4 [v7, v8, v9], boxO bb3 [(.slice none 0 0), (.slice none 0 0), (.slice none 0 0)], boxO bb2 [u1_0, u1_1, u1_2], boxO bb1 [(.int .i64 a0_0), (.int .i64 a0_1), (.bool a0_2), u0_3, u0_4], ownO (kF .f32) 25 v7 x11, ownO (kF .f32) 25 v8 x12, ownO (kF .f32) 25 v9 x13]) ?_ ?_
  ·refine W.block ?_
   refine W.loopS (fun (s : (Int × (List (Option Nat)) × (List (Option Nat)) × (List (Option Nat)))) φ' h' => ∃ v4, ∃ v5, ∃ v6, Fr.sub [(0, (.agg (List.toArray (α := Value) [(.int .i64 a0_0), (.int .i64 a0_1), (.bool a0_2), u0_3, u0_4]))), (1, (.agg (List.toArray (α := Value) [u1_0, u1_1, u1_2]))), (2, (.int .i64 a2)), (3, (.func (.func 175) #[] [].toArray)), (4, (.pointer (some ⟨bb1, 0, none⟩))), (5, (.pointer (some ⟨bb2, 0, none⟩))), (8, (.pointer (some ⟨bb3, 0, none⟩))), (9, (.bool false)), (19, (.bool x1)), (10, (.pointer (some ⟨bb4, 0, none⟩))), (23, (.int .i64 a2)), (24, (.int .i64 s.1))] φ' ∧ Mod [] h0 h' ∧ Sep [] h0.size h' [boxO bb4 [v4, v5, v6], ownO (kF .f32) 25 v4 s.2.1, ownO (kF .f32) 25 v5 s.2.2.1, ownO (kF .f32) 25 v6 s.2.2.2, boxO bb3 [(.slice none 0 0), (.slice none 0 0), (.slice none 0 0)], boxO bb2 [u1_0, u1_1, u1_2], boxO bb1 [(.int .i64 a0_0), (.int .i64 a0_1), (.bool a0_2), u0_3, u0_4]]) hy2 ⟨v1, v2, v3, ⟨rfl, rfl, rfl, rfl, rfl, rfl, rfl, rfl, rfl, rfl, rfl, rfl, trivial⟩, X_9, (Sep.sel S_14 [0, 1, 2, 3, 4, 5, 6] (by decide))⟩ ?_
   rintro ⟨x5, x6, x7, x8⟩ φ' hp10 o1 ⟨v4, v5, v6, hs2, X_10, S_15⟩ ho1 hy1
   have hs2 : Fr.sub [(0, (.agg (List.toArray (α := Value) [(.int .i64 a0_0), (.int .i64 a0_1), (.bool a0_2), u0_3, u0_4]))), (1, (.agg (List.toArray (α := Value) [u1_0, u1_1, u1_2]))), (2, (.int .i64 a2)), (3, (.func (.func 175) #[] [].toArray)), (4, (.pointer (some ⟨bb1, 0, none⟩))), (5, (.pointer (some ⟨bb2, 0, none⟩))), (8, (.pointer (some ⟨bb3, 0, none⟩))), (9, (.bool false)), (19, (.bool x1)), (10, (.pointer (some ⟨bb4, 0, none⟩))), (23, (.int .i64 a2)), (24, (.int .i64 x5))] φ' := hs2
   have S_15 : Sep [] h0.size hp10 [boxO bb4 [v4, v5, v6], ownO (kF .f32) 25 v4 x6, ownO (kF .f32) 25 v5 x7, ownO (kF .f32) 25 v6 x8, boxO bb3 [(.slice none 0 0), (.slice none 0 0), (.slice none 0 0)], boxO bb2 [u1_0, u1_1, u1_2], boxO bb1 [(.int .i64 a0_0), (.int .i64 a0_1), (.bool a0_2), u0_3, u0_4]] := S_15
   have ho1 : impl_run__impl_RunField_1.s0 a0_0 a0_1 a0_2 a0_3 a0_4 a2 x5 x6 x7 x8 = some o1 := ho1
   unfold impl_run__impl_RunField_1.s0 at ho1
   refine W.sub hs2 ?_
   refine W.seq ?_
   refine W.region ?_
   refine RL.opD (by decide) (opv_icmp rfl rfl rfl rfl) ?_
   refine RL.nil ?_
   refine thnN ?_
   refine W.seq ?_
   by_cases c3 : (decide (x5 < a2)) = true
   ·rw [if_pos c3] at ho1
    refine W.condT rfl c3 ?_
    refine W.skip ?_
    refine thnN ?_
    refine W.seq ?_
    refine W.block ?_
    refine W.seq ?_
    obtain ⟨x14, hx14, ho1⟩ := Option.bind_eq_some_iff.1 ho1
    refine W.region ?_
    refine RL.opD (by decide) (opv_loadA (us := [(.int .i64 a0_0), (.int .i64 a0_1), (.bool a0_2), u0_3, u0_4]) rfl Try.agg31 Try.size31 rfl (Sep.at (o := boxO bb1 [(.int .i64 a0_0), (.int .i64 a0_1), (.bool a0_2), u0_3, u0_4]) S_15 6 rfl) rfl rfl) ?_
    refine RL.opD (by decide) (opv_loadA (us := [v4, v5, v6]) rfl Try.agg28 Try.size28 rfl (Sep.at (o := boxO bb4 [v4, v5, v6]) S_15 0 rfl) rfl rfl) ?_
    refine RL.op _ (by decide) (opv_call (cap := []) (impl_stepped_ok _ _ _ _ _ _ (SL.up (SL.mod g0_3 X_10 (Nat.le_refl _) nob) (Nat.le_trans (Nat.le_refl _) (Mod.size X_10))) _ _ (SL.up (SL.mod g0_4 X_10 (Nat.le_refl _) nob) (Nat.le_trans (Nat.le_refl _) (Mod.size X_10))) _ _ (ownO.read (Sep.at (o := ownO (kF .f32) 25 v4 x6) S_15 1 rfl)) _ _ (ownO.read (Sep.at (o := ownO (kF .f32) 25 v5 x7) S_15 2 rfl)) _ _ (ownO.read (Sep.at (o := ownO (kF .f32) 25 v6 x8) S_15 3 rfl)) _ hx14) rfl rfl ⟨rfl, rfl, trivial⟩ Try.func87 rfl rfl) ?_
    rintro _ hp11 ⟨v10, v11, v12, rfl, MT_9, T_9⟩
    obtain ⟨X_11, S_16⟩ := Sep.turn0 X_10 S_15 MT_9 T_9
    refine RL.op0 _ (opS_stored (cs := [v4, v5, v6]) (cs' := [v10, v11, v12]) (opv_storeA (us := [v10, v11, v12]) rfl Try.size28 rfl rfl (oneAll (ownO.one (Sep.at (o := ownO (kF .f32) 25 v10 x14.1) S_16 0 rfl)) (oneAll (ownO.one (Sep.at (o := ownO (kF .f32) 25 v11 x14.2.1) S_16 1 rfl)) (oneAll (ownO.one (Sep.at (o := ownO (kF .f32) 25 v12 x14.2.2) S_16 2 rfl)) rfl))) (Sep.at (o := boxO bb4 [v4, v5, v6]) S_16 3 rfl) rfl rfl) (Sep.at (o := boxO bb4 [v4, v5, v6]) S_16 3 rfl)) ?_
    rintro _ hp12 ⟨rfl, MT_10, T_10⟩
    have S_17 : Sep [] h0.size hp11 ([boxO bb4 [v4, v5, v6]] ++ [ownO (kF .f32) 25 v10 x14.1, ownO (kF .f32) 25 v11 x14.2.1, ownO (kF .f32) 25 v12 x14.2.2, ownO (kF .f32) 25 v4 x6, ownO (kF .f32) 25 v5 x7, ownO (kF .f32) 25 v6 x8, boxO bb3 [(.slice none 0 0), (.slice none 0 0), (.slice none 0 0)], boxO bb2 [u1_0, u1_1, u1_2], boxO bb1 [(.int .i64 a0_0), (.int .i64 a0_1), (.bool a0_2), u0_3, u0_4]]) := Sep.sel S_16 [3, 0, 1, 2, 4, 5, 6, 7, 8, 9] (by decide)
    obtain ⟨X_12, S_18⟩ := Sep.turn X_11 S_17 MT_10 T_10
    refine RL.nil ?_
    refine thnN ?_
    obtain ⟨x15, hx15, ho1⟩ := Option.bind_eq_some_iff.1 ho1
    refine W.region ?_
    refine RL.opD (by decide) (opv_move rfl rfl) ?_
    refine RL.opD (by decide) (opv_loadA (us := [v10, v11, v12]) rfl Try.agg28 Try.size28 rfl (Sep.at (o := boxO bb4 [v10, v11, v12]) S_18 0 rfl) rfl rfl) ?_
    refine RL.op _ (by decide) (opv_call (cap := []) (impl_RunField_1_ok _ _ _ (ownO.read (Sep.at (o := ownO (kF .f32) 25 v10 x14.1) S_18 1 rfl)) _ _ (ownO.read (Sep.at (o := ownO (kF .f32) 25 v11 x14.2.1) S_18 2 rfl)) _ _ (ownO.read (Sep.at (o := ownO (kF .f32) 25 v12 x14.2.2) S_18 3 rfl)) _ hx15) rfl rfl ⟨rfl, trivial⟩ Try.func175 rfl rfl) ?_
    rintro _ hp13 ⟨rfl, MT_11, T_11⟩
    obtain ⟨X_13, S_19⟩ := Sep.turn0 X_12 S_18 MT_11 T_11
    refine RL.nil ?_
    refine blkN ?_
    refine thnN ?_
    refine W.region ?_
    refine RL.opD (by decide) (opv_add rfl rfl rfl) ?_
    refine RL.opD (by decide) (opv_move rfl rfl) ?_
    refine RL.nil ?_
    have eo1 := Option.some.inj ho1
    subst eo1
    refine rndN (s' := (IntKind.wrap .i64 (x5 + 1), x14.1, x14.2.1, x14.2.2)) rfl ?_
    exact ⟨v10, v11, v12, ⟨rfl, rfl, rfl, rfl, rfl, rfl, rfl, rfl, rfl, rfl, rfl, rfl, trivial⟩, X_13, (Sep.sel S_19 [0, 1, 2, 3, 7, 8, 9] (by decide))⟩
   ·rw [if_neg c3] at ho1
    have c3 := eq_false_of_ne_true c3
    refine W.condF rfl c3 ?_
    refine W.exit ?_
    refine thnX ?_
    refine rndX ?_
    refine blkI ?_
    have eo1 := Option.some.inj ho1
    subst eo1
    have ey2 := hy1 _ rfl
    subst ey2
    refine onlyN ?_
    exact ⟨x5, decide (x5 < a2), x6, x7, x8, v4, v5, v6, rfl, ⟨rfl, rfl, rfl, rfl, rfl, rfl, rfl, rfl, rfl, rfl, rfl, rfl, rfl, trivial⟩, X_10, (Sep.sel S_15 [0, 4, 5, 6, 1, 2, 3] (by decide))⟩
  rintro φ' hp14 ⟨x9, x10, x11, x12, x13, v7, v8, v9, rfl, hs3, X_14, S_20⟩
  try dsimp only at hp
  refine thnN ?_
  refine W.sub hs3 ?_
  refine W.seq ?_
  refine W.region ?_
  refine RL.opD (by decide) (opv_loadA (us := [v7, v8, v9]) rfl Try.agg28 Try.size28 rfl (Sep.at (o := boxO bb4 [v7, v8, v9]) S_20 0 rfl) rfl rfl) ?_
  refine RL.op0 _ (opS_stored (cs := [(.slice none 0 0), (.slice none 0 0), (.slice none 0 0)]) (cs' := [v7, v8, v9]) (opv_storeA (us := [v7, v8, v9]) rfl Try.size28 rfl rfl (oneAll (ownO.one (Sep.at (o := ownO (kF .f32) 25 v7 x11) S_20 4 rfl)) (oneAll (ownO.one (Sep.at (o := ownO (kF .f32) 25 v8 x12) S_20 5 rfl)) (oneAll (ownO.one (Sep.at (o := ownO (kF .f32) 25 v9 x13) S_20 6 rfl)) rfl))) (Sep.at (o := boxO bb3 [(.slice none 0 0), (.slice none 0 0), (.slice none 0 0)]) S_20 1 rfl) rfl rfl) (Sep.at (o := boxO bb3 [(.slice none 0 0), (.slice none 0 0), (.slice none 0 0)]) S_20 1 rfl)) ?_
  rintro _ hp15 ⟨rfl, MT_12, T_12⟩
  have S_21 : Sep [] h0.size hp14 ([boxO bb3 [(.slice none 0 0), (.slice none 0 0), (.slice none 0 0)]] ++ [boxO bb4 [v7, v8, v9], boxO bb2 [u1_0, u1_1, u1_2], boxO bb1 [(.int .i64 a0_0), (.int .i64 a0_1), (.bool a0_2), u0_3, u0_4], ownO (kF .f32) 25 v7 x11, ownO (kF .f32) 25 v8 x12, ownO (kF .f32) 25 v9 x13]) := Sep.sel S_20 [1, 0, 2, 3, 4, 5, 6] (by decide)
  obtain ⟨X_15, S_22⟩ := Sep.turn X_14 S_21 MT_12 T_12
  refine RL.opD (by decide) (opv_assign rfl rfl) ?_
  refine RL.nil ?_
  refine thnN ?_
  refine W.ret ?_
  have er := Option.some.inj hp
  subst er
  exact Rt.cellA rfl rfl rfl Try.agg28 Try.size28 (Sep.at (o := boxO bb3 [v7, v8, v9]) S_22 0 rfl) rfl ⟨v7, v8, v9, rfl, X_15, (Sep.sel S_22 [4, 5, 6] (by decide))⟩

set_option maxRecDepth 20000 in
theorem impl_RunField_ok (h0 : Heap) (a0_0 : Int) (a0_1 : Int) (a0_2 : Bool) (u0_3 : Value) (a0_3 : List (Option Nat)) (g0_3 : SL (kF .f32) h0.size h0 u0_3 a0_3) (u0_4 : Value) (a0_4 : List (Option Nat)) (g0_4 : SL (kF .f32) h0.size h0 u0_4 a0_4) (u1_0 : Value) (a1_0 : List (Option Nat)) (g1_0 : SL (kF .f32) h0.size h0 u1_0 a1_0) (u1_1 : Value) (a1_1 : List (Option Nat)) (g1_1 : SL (kF .f32) h0.size h0 u1_1 a1_1) (u1_2 : Value) (a1_2 : List (Option Nat)) (g1_2 : SL (kF .f32) h0.size h0 u1_2 a1_2) (a2 : Int) (r : ((List (Option Nat)) × (List (Option Nat)) × (List (Option Nat)) × Bool)) (hp : impl_RunField a0_0 a0_1 a0_2 a0_3 a0_4 a1_0 a1_1 a1_2 a2 = some r) : CallsH Try.prog 124 ([(.agg (List.toArray (α := Value) [(.int .i64 a0_0), (.int .i64 a0_1), (.bool a0_2), u0_3, u0_4])), (.agg (List.toArray (α := Value) [u1_0, u1_1, u1_2])), (.int .i64 a2)].toArray ++ [].toArray) h0 (fun v h' => ∃ w0, ∃ w1, ∃ w2, v = (.tuple (List.toArray (α := Value) [(.agg (List.toArray (α := Value) [w0, w1, w2])), (.bool r.2.2.2)])) ∧ Mod [] h0 h' ∧ Sep [] h0.size h' [ownO (kF .f32) 25 w0 r.1, ownO (kF .f32) 25 w1 r.2.1, ownO (kF .f32) 25 w2 r.2.2.1]) := by
 unfold impl_RunField at hp
 refine callsH_of_W (l := [(.agg (List.toArray (α := Value) [(.int .i64 a0_0), (.int .i64 a0_1), (.bool a0_2), u0_3, u0_4])), (.agg (List.toArray (α := Value) [u1_0, u1_1, u1_2])), (.int .i64 a2)]) (cap := []) 14 Try.func124 rfl rfl rfl ?_
 refine W.seq ?_
 refine W.region ?_
 refine RL.op _ (by decide) (opS_boxed (opv_boxA (cs := [(.int .i64 a0_0), (.int .i64 a0_1), (.bool a0_2), u0_3, u0_4]) rfl rfl)) ?_
 rintro _ hp1 ⟨bb1, rfl, MT_1, T_1⟩
 obtain ⟨X_1, S_1⟩ := Sep.turn0 (Mod.refl [] h0) (Sep.nil [] h0.size h0) MT_1 T_1
 refine RL.op _ (by decide) (opS_boxed (opv_boxA (cs := [u1_0, u1_1, u1_2]) rfl rfl)) ?_
 rintro _ hp2 ⟨bb2, rfl, MT_2, T_2⟩
 obtain ⟨X_2, S_2⟩ := Sep.turn0 X_1 S_1 MT_2 T_2
 refine RL.op _ (by decide) (opS_boxed (opv_alloc (cs := [(.slice none 0 0), (.slice none 0 0), (.slice none 0 0)]) rfl Try.zero28 rfl)) ?_
 rintro _ hp3 ⟨bb3, rfl, MT_3, T_3⟩
 obtain ⟨X_3, S_3⟩ := Sep.turn0 X_2 S_2 MT_3 T_3
 refine RL.opD (by decide) (opv_assign rfl rfl) ?_
 refine RL.nil ?_
 refine thnN ?_
 refine W.seq ?_
 obtain ⟨x1, hx1, hp⟩ := Option.bind_eq_some_iff.1 hp
 refine W.region ?_
 refine RL.opD (by decide) (opv_loadA (us := [(.int .i64 a0_0), (.int .i64 a0_1), (.bool a0_2), u0_3, u0_4]) rfl Try.agg31 Try.size31 rfl (Sep.at (o := boxO bb1 [(.int .i64 a0_0), (.int .i64 a0_1), (.bool a0_2), u0_3, u0_4]) S_3 2 rfl) rfl rfl) ?_
 refine RL.opD (by decide) (opv_loadA (us := [u1_0, u1_1, u1_2]) rfl Try.agg28 Try.size28 rfl (Sep.at (o := boxO bb2 [u1_0, u1_1, u1_2]) S_3 1 rfl) rfl rfl) ?_
 refine RL.opD (by decide) (opv_move rfl rfl) ?_
 refine RL.op _ (by decide) (opv_call (cap := []) (impl_run__impl_RunField_1_ok _ _ _ _ _ _ (SL.up (SL.mod g0_3 X_3 (Nat.le_refl _) nob) (Nat.le_trans (Nat.le_refl _) (Mod.size X_3))) _ _ (SL.up (SL.mod g0_4 X_3 (Nat.le_refl _) nob) (Nat.le_trans (Nat.le_refl _) (Mod.size X_3))) _ _ (SL.up (SL.mod g1_0 X_3 (Nat.le_refl _) nob) (Nat.le_trans (Nat.le_refl _) (Mod.size X_3))) _ _ (SL.up (SL.mod g1_1 X_3 (Nat.le_refl _) nob) (Nat.le_trans (Nat.le_refl _) (Mod.size X_3))) _ _ (SL.up (SL.mod g1_2 X_3 (Nat.le_refl _) nob) (Nat.le_trans (Nat.le_refl _) (Mod.size X_3))) _ _ hx1) rfl rfl ⟨rfl, rfl, rfl, rfl, trivial⟩ Try.func174 rfl rfl) ?_
 rintro _ hp4 ⟨v1, v2, v3, rfl, MT_4, T_4⟩
 obtain ⟨X_4, S_4⟩ := Sep.turn0 X_3 S_3 MT_4 T_4
 refine RL.opD (by decide) (opv_extract rfl rfl rfl) ?_
 refine RL.opD (by decide) (opv_extract rfl rfl rfl) ?_
 refine RL.op0 _ (opS_stored (cs := [(.slice none 0 0), (.slice none 0 0), (.slice none 0 0)]) (cs' := [v1, v2, v3]) (opv_storeA (us := [v1, v2, v3]) rfl Try.size28 rfl rfl (oneAll (ownO.one (Sep.at (o := ownO (kF .f32) 25 v1 x1.1) S_4 0 rfl)) (oneAll (ownO.one (Sep.at (o := ownO (kF .f32) 25 v2 x1.2.1) S_4 1 rfl)) (oneAll (ownO.one (Sep.at (o := ownO (kF .f32) 25 v3 x1.2.2.1) S_4 2 rfl)) rfl))) (Sep.at (o := boxO bb3 [(.slice none 0 0), (.slice none 0 0), (.slice none 0 0)]) S_4 3 rfl) rfl rfl) (Sep.at (o := boxO bb3 [(.slice none 0 0), (.slice none 0 0), (.slice none 0 0)]) S_4 3 rfl)) ?_
 rintro _ hp5 ⟨rfl, MT_5, T_5⟩
 have S_5 : Sep [] h0.size hp4 ([boxO bb3 [(.slice none 0 0), (.slice none 0 0), (.slice none 0 0)]] ++ [ownO (kF .f32) 25 v1 x1.1, ownO (kF .f32) 25 v2 x1.2.1, ownO (kF .f32) 25 v3 x1.2.2.1, boxO bb2 [u1_0, u1_1, u1_2], boxO bb1 [(.int .i64 a0_0), (.int .i64 a0_1), (.bool a0_2), u0_3, u0_4]]) := Sep.sel S_4 [3, 0, 1, 2, 4, 5] (by decide)
 obtain ⟨X_5, S_6⟩ := Sep.turn X_4 S_5 MT_5 T_5
 refine RL.opD (by decide) (opv_assign rfl rfl) ?_
 refine RL.nil ?_
 refine thnN ?_
 refine W.ret ?_
 have er := Option.some.inj hp
 subst er
 exact Rt.cellA rfl rfl rfl Try.agg28 Try.size28 (Sep.at (o := boxO bb3 [v1, v2, v3]) S_6 0 rfl) rfl ⟨v1, v2, v3, rfl, X_5, (Sep.sel S_6 [1, 2, 3] (by decide))⟩

set_option maxRecDepth 20000 in
theorem impl_StepField_ok (h0 : Heap) (a0_0 : Int) (a0_1 : Int) (a0_2 : Bool) (u0_3 : Value) (a0_3 : List (Option Nat)) (g0_3 : SL (kF .f32) h0.size h0 u0_3 a0_3) (u0_4 : Value) (a0_4 : List (Option Nat)) (g0_4 : SL (kF .f32) h0.size h0 u0_4 a0_4) (u1_0 : Value) (a1_0 : List (Option Nat)) (g1_0 : SL (kF .f32) h0.size h0 u1_0 a1_0) (u1_1 : Value) (a1_1 : List (Option Nat)) (g1_1 : SL (kF .f32) h0.size h0 u1_1 a1_1) (u1_2 : Value) (a1_2 : List (Option Nat)) (g1_2 : SL (kF .f32) h0.size h0 u1_2 a1_2) (r : ((List (Option Nat)) × (List (Option Nat)) × (List (Option Nat)) × Bool)) (hp : impl_StepField a0_0 a0_1 a0_2 a0_3 a0_4 a1_0 a1_1 a1_2 = some r) : CallsH Try.prog 64 ([(.agg (List.toArray (α := Value) [(.int .i64 a0_0), (.int .i64 a0_1), (.bool a0_2), u0_3, u0_4])), (.agg (List.toArray (α := Value) [u1_0, u1_1, u1_2]))].toArray ++ [].toArray) h0 (fun v h' => ∃ w0, ∃ w1, ∃ w2, v = (.tuple (List.toArray (α := Value) [(.agg (List.toArray (α := Value) [w0, w1, w2])), (.bool r.2.2.2)])) ∧ Mod [] h0 h' ∧ Sep [] h0.size h' [ownO (kF .f32) 25 w0 r.1, ownO (kF .f32) 25 w1 r.2.1, ownO (kF .f32) 25 w2 r.2.2.1]) := by
 unfold impl_StepField at hp
 refine callsH_of_W (l := [(.agg (List.toArray (α := Value) [(.int .i64 a0_0), (.int .i64 a0_1), (.bool a0_2), u0_3, u0_4])), (.agg (List.toArray (α := Value) [u1_0, u1_1, u1_2]))]) (cap := []) 11 Try.func64 rfl rfl rfl ?_
 refine W.seq ?_
 refine W.region ?_
 refine RL.op _ (by decide) (opS_boxed (opv_boxA (cs := [(.int .i64 a0_0), (.int .i64 a0_1), (.bool a0_2), u0_3, u0_4]) rfl rfl)) ?_
 rintro _ hp1 ⟨bb1, rfl, MT_1, T_1⟩
 obtain ⟨X_1, S_1⟩ := Sep.turn0 (Mod.refl [] h0) (Sep.nil [] h0.size h0) MT_1 T_1
 refine RL.op _ (by decide) (opS_boxed (opv_boxA (cs := [u1_0, u1_1, u1_2]) rfl rfl)) ?_
 rintro _ hp2 ⟨bb2, rfl, MT_2, T_2⟩
 obtain ⟨X_2, S_2⟩ := Sep.turn0 X_1 S_1 MT_2 T_2
 refine RL.op _ (by decide) (opS_boxed (opv_alloc (cs := [(.slice none 0 0), (.slice none 0 0), (.slice none 0 0)]) rfl Try.zero28 rfl)) ?_
 rintro _ hp3 ⟨bb3, rfl, MT_3, T_3⟩
 obtain ⟨X_3, S_3⟩ := Sep.turn0 X_2 S_2 MT_3 T_3
 refine RL.opD (by decide) (opv_assign rfl rfl) ?_
 refine RL.nil ?_
 refine thnN ?_
 refine W.seq ?_
 obtain ⟨x1, hx1, hp⟩ := Option.bind_eq_some_iff.1 hp
 refine W.region ?_
 refine RL.opD (by decide) (opv_loadA (us := [(.int .i64 a0_0), (.int .i64 a0_1), (.bool a0_2), u0_3, u0_4]) rfl Try.agg31 Try.size31 rfl (Sep.at (o := boxO bb1 [(.int .i64 a0_0), (.int .i64 a0_1), (.bool a0_2), u0_3, u0_4]) S_3 2 rfl) rfl rfl) ?_
 refine RL.opD (by decide) (opv_loadA (us := [u1_0, u1_1, u1_2]) rfl Try.agg28 Try.size28 rfl (Sep.at (o := boxO bb2 [u1_0, u1_1, u1_2]) S_3 1 rfl) rfl rfl) ?_
 refine RL.op _ (by decide) (opv_call (cap := []) (impl_RunField_ok _ _ _ _ _ _ (SL.up (SL.mod g0_3 X_3 (Nat.le_refl _) nob) (Nat.le_trans (Nat.le_refl _) (Mod.size X_3))) _ _ (SL.up (SL.mod g0_4 X_3 (Nat.le_refl _) nob) (Nat.le_trans (Nat.le_refl _) (Mod.size X_3))) _ _ (SL.up (SL.mod g1_0 X_3 (Nat.le_refl _) nob) (Nat.le_trans (Nat.le_refl _) (Mod.size X_3))) _ _ (SL.up (SL.mod g1_1 X_3 (Nat.le_refl _) nob) (Nat.le_trans (Nat.le_refl _) (Mod.size X_3))) _ _ (SL.up (SL.mod g1_2 X_3 (Nat.le_refl _) nob) (Nat.le_trans (Nat.le_refl _) (Mod.size X_3))) _ _ hx1) rfl rfl ⟨rfl, rfl, rfl, trivial⟩ Try.func124 rfl rfl) ?_
 rintro _ hp4 ⟨v1, v2, v3, rfl, MT_4, T_4⟩
 obtain ⟨X_4, S_4⟩ := Sep.turn0 X_3 S_3 MT_4 T_4
 refine RL.opD (by decide) (opv_extract rfl rfl rfl) ?_
 refine RL.opD (by decide) (opv_extract rfl rfl rfl) ?_
 refine RL.op0 _ (opS_stored (cs := [(.slice none 0 0), (.slice none 0 0), (.slice none 0 0)]) (cs' := [v1, v2, v3]) (opv_storeA (us := [v1, v2, v3]) rfl Try.size28 rfl rfl (oneAll (ownO.one (Sep.at (o := ownO (kF .f32) 25 v1 x1.1) S_4 0 rfl)) (oneAll (ownO.one (Sep.at (o := ownO (kF .f32) 25 v2 x1.2.1) S_4 1 rfl)) (oneAll (ownO.one (Sep.at (o := ownO (kF .f32) 25 v3 x1.2.2.1) S_4 2 rfl)) rfl))) (Sep.at (o := boxO bb3 [(.slice none 0 0), (.slice none 0 0), (.slice none 0 0)]) S_4 3 rfl) rfl rfl) (Sep.at (o := boxO bb3 [(.slice none 0 0), (.slice none 0 0), (.slice none 0 0)]) S_4 3 rfl)) ?_
 rintro _ hp5 ⟨rfl, MT_5, T_5⟩
 have S_5 : Sep [] h0.size hp4 ([boxO bb3 [(.slice none 0 0), (.slice none 0 0), (.slice none 0 0)]] ++ [ownO (kF .f32) 25 v1 x1.1, ownO (kF .f32) 25 v2 x1.2.1, ownO (kF .f32) 25 v3 x1.2.2.1, boxO bb2 [u1_0, u1_1, u1_2], boxO bb1 [(.int .i64 a0_0), (.int .i64 a0_1), (.bool a0_2), u0_3, u0_4]]) := Sep.sel S_4 [3, 0, 1, 2, 4, 5] (by decide)
 obtain ⟨X_5, S_6⟩ := Sep.turn X_4 S_5 MT_5 T_5
 refine RL.opD (by decide) (opv_assign rfl rfl) ?_
 refine RL.nil ?_
 refine thnN ?_
 refine W.ret ?_
 have er := Option.some.inj hp
 subst er
 exact Rt.cellA rfl rfl rfl Try.agg28 Try.size28 (Sep.at (o := boxO bb3 [v1, v2, v3]) S_6 0 rfl) rfl ⟨v1, v2, v3, rfl, X_5, (Sep.sel S_6 [1, 2, 3] (by decide))⟩

set_option maxRecDepth 20000 in
theorem spec_l01SameAll_ok (h0 : Heap) (u0 : Value) (a0 : List (Option Nat)) (g0 : SL (kF .f32) h0.size h0 u0 a0) (u1 : Value) (a1 : List (Option Nat)) (g1 : SL (kF .f32) h0.size h0 u1 a1) (r : Bool) (hp : spec_l01SameAll a0 a1 = some r) : CallsH Try.prog 199 ([u0, u1].toArray ++ [].toArray) h0 (fun v h' => v = (.bool r) ∧ h0 = h') := by
 unfold spec_l01SameAll at hp
 refine callsH_of_W (l := [u0, u1]) (cap := []) 27 Try.func199 rfl rfl rfl ?_
 refine W.seq ?_
 refine W.region ?_
 refine RL.opD (by decide) (opv_assign rfl rfl) ?_
 refine RL.nil ?_
 refine thnN ?_
 refine W.seq ?_
 refine W.seq ?_
 refine W.region ?_
 refine RL.opD (by decide) (opv_move rfl rfl) ?_
 refine RL.opD (by decide) (opv_len rfl Try.underlying22 rfl g0) ?_
 refine RL.opD (by decide) (opv_move rfl rfl) ?_
 refine RL.opD (by decide) (opv_len rfl Try.underlying22 rfl g1) ?_
 refine RL.opD (by decide) (opv_icmp rfl rfl rfl rfl) ?_
 refine RL.nil ?_
 refine thnN ?_
 by_cases c1 : ((a0.length : Int) != (a1.length : Int)) = true
 ·rw [if_pos c1] at hp
  refine W.condT rfl c1 ?_
  refine W.seq ?_
  refine W.region ?_
  refine RL.opD (by decide) (opv_assign rfl rfl) ?_
  refine RL.nil ?_
  refine thnN ?_
  refine W.ret ?_
  refine thnR ?_
  have er := Option.some.inj hp
  subst er
  exact Rt.one rfl rfl ⟨rfl, rfl⟩
 ·rw [if_neg c1] at hp
  have c1 := eq_false_of_ne_true c1
  refine W.condF rfl c1 ?_
  refine W.skip ?_
  refine thnN ?_
  refine W.seq ?_
  refine W.seq ?_
  refine W.region ?_
  refine RL.opD (by decide) (opv_assign rfl rfl) ?_
  refine RL.nil ?_
  refine thnN ?_
  obtain ⟨y1, hy1, hp⟩ := Option.bind_eq_some_iff.1 hp
  refine W.cut (fun φ' h' => ∃ x3, ∃ x4, ∃ x5, y1 = .inl (x3, x4, x5) ∧ Fr.sub [(0, u0), (1, u1), (10, (.bool ((a0.length : Int) != (a1.length : Int)))), (4, (.bool x3)), (5, (.int .i64 x4)), (14, (.bool x5))] φ' ∧ h0 = h') ?_ ?_
  ·refine W.block ?_
   refine W.loopS (fun (s : (Bool × Int)) φ' h' => Fr.sub [(0, u0), (1, u1), (10, (.bool ((a0.length : Int) != (a1.length : Int)))), (4, (.bool s.1)), (5, (.int .i64 s.2))] φ' ∧ h0 = h') hy1 ⟨⟨rfl, rfl, rfl, rfl, rfl, trivial⟩, rfl⟩ ?_
   rintro ⟨x1, x2⟩ φ' _ o1 ⟨hs1, rfl⟩ ho1 hy1
   have hs1 : Fr.sub [(0, u0), (1, u1), (10, (.bool ((a0.length : Int) != (a1.length : Int)))), (4, (.bool x1)), (5, (.int .i64 x2))] φ' := hs1
   have ho1 : spec_l01SameAll.s0 a0 a1 x1 x2 = some o1 := ho1
   unfold spec_l01SameAll.s0 at ho1
   refine W.sub hs1 ?_
   refine W.seq ?_
   refine W.seq ?_
   refine W.region ?_
   refine RL.opD (by decide) (opv_move rfl rfl) ?_
   refine RL.opD (by decide) (opv_move rfl rfl) ?_
   refine RL.opD (by decide) (opv_len rfl Try.underlying22 rfl g0) ?_
   refine RL.opD (by decide) (opv_icmp rfl rfl rfl rfl) ?_
   refine RL.nil ?_
   refine thnN ?_
   by_cases c2 : (decide (x2 < (a0.length : Int))) = true
   ·rw [if_pos c2] at ho1
    refine W.condT rfl c2 ?_
    refine W.skip ?_
    refine thnN ?_
    refine W.seq ?_
    refine W.block ?_
    refine W.seq ?_
    obtain ⟨x6, hx6, ho1⟩ := Option.bind_eq_some_iff.1 ho1
    obtain ⟨x7, hx7, ho1⟩ := Option.bind_eq_some_iff.1 ho1
    obtain ⟨x8, hx8, ho1⟩ := Option.bind_eq_some_iff.1 ho1
    refine W.sub (ψ := [(0, u0), (1, u1), (10, (.bool ((a0.length : Int) != (a1.length : Int)))), (4, (.bool x1)), (5, (.int .i64 x2)), (14, (.bool (decide (x2 < (a0.length : Int)))))]) ⟨rfl, rfl, rfl, rfl, rfl, rfl, trivial⟩ ?_
    refine W.regionP [fun v _ => @Eq Value u0 v, fun v _ => @Eq Value (.int .i64 x2) v, fun v _ => PtI 1 v u0 (Int.toNat x2), fun v _ => IsF .f32 v x6, fun v _ => @Eq Value u1 v, fun v _ => @Eq Value (.int .i64 x2) v, fun v _ => PtI 1 v u1 (Int.toNat x2), fun v _ => IsF .f32 v x7, fun v _ => @Eq Value (.bool x8) v, fun v _ => @Eq Value (.bool (!x8)) v] [[], [], [0, 1], [2], [], [], [4, 5], [6], [3, 7], [8]] [9] Try.mixed (by decide +kernel) (by decide +kernel) rfl rfl rfl ?_ ?_
    ·refine ⟨⟨rfl, ?_⟩, ⟨rfl, ?_⟩, ⟨rfl, ?_⟩, ⟨rfl, ?_⟩, ⟨rfl, ?_⟩, ⟨rfl, ?_⟩, ⟨rfl, ?_⟩, ⟨rfl, ?_⟩, ⟨rfl, ?_⟩, ⟨rfl, ?_⟩, trivial⟩
     ·rintro _ rfl
      refine Dep.nil ?_
      refine GuardOK.none rfl ?_
      exact OpV.toD (opv_move rfl rfl) rfl
     ·rintro _ rfl
      refine Dep.nil ?_
      refine GuardOK.none rfl ?_
      exact OpV.toD (opv_move rfl rfl) rfl
     ·rintro _ rfl _ rfl _ rfl
      refine Dep.nil ?_
      refine GuardOK.none rfl ?_
      exact OpV.toS (opv_index rfl Try.underlying22 (by rw [Try.size25]; rfl) rfl rfl g0 hx6) (fun _ h => h)
     ·rintro _ rfl v1 fv1
      refine Dep.nil ?_
      refine GuardOK.none rfl ?_
      exact OpV.toS (opv_loadF rfl Try.one25 rfl fv1 g0 hx6) (fun _ h => h)
     ·rintro _ rfl
      refine Dep.nil ?_
      refine GuardOK.none rfl ?_
      exact OpV.toD (opv_move rfl rfl) rfl
     ·rintro _ rfl
      refine Dep.nil ?_
      refine GuardOK.none rfl ?_
      exact OpV.toD (opv_move rfl rfl) rfl
     ·rintro _ rfl _ rfl _ rfl
      refine Dep.nil ?_
      refine GuardOK.none rfl ?_
      exact OpV.toS (opv_index rfl Try.underlying22 (by rw [Try.size25]; rfl) rfl rfl g1 hx7) (fun _ h => h)
     ·rintro _ rfl v3 fv3
      refine Dep.nil ?_
      refine GuardOK.none rfl ?_
      exact OpV.toS (opv_loadF rfl Try.one25 rfl fv3 g1 hx7) (fun _ h => h)
     ·rintro _ rfl v2 fv2 v4 fv4
      refine Dep.nil ?_
      refine GuardOK.none rfl ?_
      exact OpV.mono (opv_call (cap := []) (spec_l01Same_ok _ _ _ fv2 _ _ fv4 _ hx8) rfl rfl ⟨rfl, rfl, trivial⟩ Try.func123 rfl rfl) (by rintro _ _ ⟨rfl, rfl⟩; exact ⟨rfl, rfl⟩)
     ·rintro _ rfl _ rfl
      refine Dep.nil ?_
      refine GuardOK.none rfl ?_
      exact OpV.toD (opv_not rfl rfl) rfl
    rintro _ rfl
    refine Dep.nil ?_
    show RL _ _ _ _ [] _ _
    refine RL.nil ?_
    refine thnN ?_
    by_cases c3 : (!x8) = true
    ·rw [if_pos c3] at ho1
     refine W.condT rfl c3 ?_
     refine W.seq ?_
     refine W.region ?_
     refine RL.opD (by decide) (opv_assign rfl rfl) ?_
     refine RL.nil ?_
     refine thnN ?_
     refine W.ret ?_
     refine blkR ?_
     refine thnR ?_
     have eo1 := Option.some.inj ho1
     subst eo1
     have ey1 := hy1 _ rfl
     subst ey1
     try dsimp only at hp
     refine rndR ?_
     refine blkR ?_
     refine onlyR ?_
     refine thnR ?_
     have er := Option.some.inj hp
     subst er
     exact Rt.one rfl rfl ⟨rfl, rfl⟩
    ·rw [if_neg c3] at ho1
     have c3 := eq_false_of_ne_true c3
     refine W.condF rfl c3 ?_
     refine W.skip ?_
     refine blkN ?_
     refine thnN ?_
     refine W.region ?_
     refine RL.opD (by decide) (opv_move rfl rfl) ?_
     refine RL.opD (by decide) (opv_add rfl rfl rfl) ?_
     refine RL.opD (by decide) (opv_assign rfl rfl) ?_
     refine RL.nil ?_
     have eo1 := Option.some.inj ho1
     subst eo1
     refine rndN (s' := (x1, IntKind.wrap .i64 (x2 + 1))) rfl ?_
     exact ⟨⟨rfl, rfl, rfl, rfl, rfl, trivial⟩, rfl⟩
   ·rw [if_neg c2] at ho1
    have c2 := eq_false_of_ne_true c2
    refine W.condF rfl c2 ?_
    refine W.exit ?_
    refine thnX ?_
    refine rndX ?_
    refine blkI ?_
    have eo1 := Option.some.inj ho1
    subst eo1
    have ey1 := hy1 _ rfl
    subst ey1
    refine onlyN ?_
    exact ⟨x1, x2, decide (x2 < (a0.length : Int)), rfl, ⟨rfl, rfl, rfl, rfl, rfl, rfl, trivial⟩, rfl⟩
  rintro φ' _ ⟨x3, x4, x5, rfl, hs2, rfl⟩
  try dsimp only at hp
  refine thnN ?_
  refine W.sub hs2 ?_
  refine W.seq ?_
  refine W.region ?_
  refine RL.opD (by decide) (opv_assign rfl rfl) ?_
  refine RL.nil ?_
  refine thnN ?_
  refine W.ret ?_
  have er := Option.some.inj hp
  subst er
  exact Rt.one rfl rfl ⟨rfl, rfl⟩

set_option maxRecDepth 20000 in
theorem spec_l02Same_ok (h0 : Heap) (b0 : Nat) (u0_0 : Value) (a0_0 : List (Option Nat)) (g0_0 : SL (kF .f32) h0.size h0 u0_0 a0_0) (u0_1 : Value) (a0_1 : List (Option Nat)) (g0_1 : SL (kF .f32) h0.size h0 u0_1 a0_1) (u0_2 : Value) (a0_2 : List (Option Nat)) (g0_2 : SL (kF .f32) h0.size h0 u0_2 a0_2) (G0 : Bx h0 b0 [u0_0, u0_1, u0_2]) (b1 : Nat) (u1_0 : Value) (a1_0 : List (Option Nat)) (g1_0 : SL (kF .f32) h0.size h0 u1_0 a1_0) (u1_1 : Value) (a1_1 : List (Option Nat)) (g1_1 : SL (kF .f32) h0.size h0 u1_1 a1_1) (u1_2 : Value) (a1_2 : List (Option Nat)) (g1_2 : SL (kF .f32) h0.size h0 u1_2 a1_2) (G1 : Bx h0 b1 [u1_0, u1_1, u1_2]) (r : Bool) (hp : spec_l02Same a0_0 a0_1 a0_2 a1_0 a1_1 a1_2 = some r) : CallsH Try.prog 176 ([(.pointer (some ⟨b0, 0, none⟩)), (.pointer (some ⟨b1, 0, none⟩))].toArray ++ [].toArray) h0 (fun v h' => v = (.bool r) ∧ h0 = h') := by
 unfold spec_l02Same at hp
 refine callsH_of_W (l := [(.pointer (some ⟨b0, 0, none⟩)), (.pointer (some ⟨b1, 0, none⟩))]) (cap := []) 36 Try.func176 rfl rfl rfl ?_
 refine W.seq ?_
 refine W.region ?_
 refine RL.opD (by decide) (opv_assign rfl rfl) ?_
 refine RL.nil ?_
 refine thnN ?_
 refine W.seq ?_
 obtain ⟨x1, hy1, hp⟩ := Option.bind_eq_some_iff.1 hp
 refine W.cut (fun φ' h' => Fr.sub [(0, (.pointer (some ⟨b0, 0, none⟩))), (1, (.pointer (some ⟨b1, 0, none⟩))), (4, (.bool x1))] φ' ∧ h0 = h') ?_ ?_
 ·obtain ⟨x2, hx2, hy1⟩ := Option.bind_eq_some_iff.1 hy1
  by_cases c1 : x2 = true
  ·rw [if_pos c1] at hy1
   obtain ⟨x3, hx3, hy1⟩ := Option.bind_eq_some_iff.1 hy1
   by_cases c2 : x3 = true
   ·rw [if_pos c2] at hy1
    obtain ⟨x4, hx4, hy1⟩ := Option.bind_eq_some_iff.1 hy1
    refine W.sub (ψ := [(0, (.pointer (some ⟨b0, 0, none⟩))), (1, (.pointer (some ⟨b1, 0, none⟩)))]) ⟨rfl, rfl, trivial⟩ ?_
    refine W.regionP [fun v _ => @Eq Value (.pointer (some ⟨b0, 0, none⟩)) v, fun v _ => @Eq Value (.pointer (some ⟨b0, 0, none⟩)) v, fun v _ => @Eq Value (.pointer (some ⟨b0, 0, none⟩)) v, fun v _ => @Eq Value u0_0 v, fun v _ => @Eq Value (.pointer (some ⟨b1, 0, none⟩)) v, fun v _ => @Eq Value (.pointer (some ⟨b1, 0, none⟩)) v, fun v _ => @Eq Value (.pointer (some ⟨b1, 0, none⟩)) v, fun v _ => @Eq Value u1_0 v, fun v _ => @Eq Value (.bool x2) v, fun v _ => @Eq Value (.bool x2) v, fun v _ => @Eq Value (.pointer (some ⟨b0, 0, none⟩)) v, fun v _ => @Eq Value (.pointer (some ⟨b0, 0, none⟩)) v, fun v _ => @Eq Value (.pointer (some ⟨b0, 1, none⟩)) v, fun v _ => @Eq Value u0_1 v, fun v _ => @Eq Value (.pointer (some ⟨b1, 0, none⟩)) v, fun v _ => @Eq Value (.pointer (some ⟨b1, 0, none⟩)) v, fun v _ => @Eq Value (.pointer (some ⟨b1, 1, none⟩)) v, fun v _ => @Eq Value u1_1 v, fun v _ => @Eq Value (.bool x3) v, fun v _ => @Eq Value (.bool x3) v, fun v _ => @Eq Value (.bool x3) v, fun v _ => @Eq Value (.pointer (some ⟨b0, 0, none⟩)) v, fun v _ => @Eq Value (.pointer (some ⟨b0, 0, none⟩)) v, fun v _ => @Eq Value (.pointer (some ⟨b0, 2, none⟩)) v, fun v _ => @Eq Value u0_2 v, fun v _ => @Eq Value (.pointer (some ⟨b1, 0, none⟩)) v, fun v _ => @Eq Value (.pointer (some ⟨b1, 0, none⟩)) v, fun v _ => @Eq Value (.pointer (some ⟨b1, 2, none⟩)) v, fun v _ => @Eq Value u1_2 v, fun v _ => @Eq Value (.bool x4) v, fun v _ => @Eq Value (.bool x4) v, fun v _ => @Eq Value (.bool x4) v] [[], [0], [1], [2], [], [4], [5], [6], [3, 7], [8], [9], [10, 9], [11, 9], [12, 9], [9], [14, 9], [15, 9], [16, 9], [13, 17, 9], [9, 18], [19], [20], [21, 20], [22, 20], [23, 20], [20], [25, 20], [26, 20], [27, 20], [24, 28, 20], [20, 29], [30]] [31] Try.mixed (by decide +kernel) (by decide +kernel) rfl rfl rfl ?_ ?_
    ·refine ⟨⟨rfl, ?_⟩, ⟨rfl, ?_⟩, ⟨rfl, ?_⟩, ⟨rfl, ?_⟩, ⟨rfl, ?_⟩, ⟨rfl, ?_⟩, ⟨rfl, ?_⟩, ⟨rfl, ?_⟩, ⟨rfl, ?_⟩, ⟨rfl, ?_⟩, ⟨rfl, ?_⟩, ⟨rfl, ?_⟩, ⟨rfl, ?_⟩, ⟨rfl, ?_⟩, ⟨rfl, ?_⟩, ⟨rfl, ?_⟩, ⟨rfl, ?_⟩, ⟨rfl, ?_⟩, ⟨rfl, ?_⟩, ⟨rfl, ?_⟩, ⟨rfl, ?_⟩, ⟨rfl, ?_⟩, ⟨rfl, ?_⟩, ⟨rfl, ?_⟩, ⟨rfl, ?_⟩, ⟨rfl, ?_⟩, ⟨rfl, ?_⟩, ⟨rfl, ?_⟩, ⟨rfl, ?_⟩, ⟨rfl, ?_⟩, ⟨rfl, ?_⟩, ⟨rfl, ?_⟩, trivial⟩
     ·rintro _ rfl
      refine Dep.nil ?_
      refine GuardOK.none rfl ?_
      exact OpV.toD (opv_move rfl rfl) rfl
     ·rintro _ rfl _ rfl
      refine Dep.nil ?_
      refine GuardOK.none rfl ?_
      exact OpV.toD (opv_nilCheck rfl rfl) rfl
     ·rintro _ rfl _ rfl
      refine Dep.nil ?_
      refine GuardOK.none rfl ?_
      exact OpV.toD (opv_fieldAddr rfl Try.fo28_0 rfl) rfl
     ·rintro _ rfl _ rfl
      refine Dep.nil ?_
      refine GuardOK.none rfl ?_
      exact OpV.toD (opv_loadB rfl Try.one22 rfl G0 rfl) rfl
     ·rintro _ rfl
      refine Dep.nil ?_
      refine GuardOK.none rfl ?_
      exact OpV.toD (opv_move rfl rfl) rfl
     ·rintro _ rfl _ rfl
      refine Dep.nil ?_
      refine GuardOK.none rfl ?_
      exact OpV.toD (opv_nilCheck rfl rfl) rfl
     ·rintro _ rfl _ rfl
      refine Dep.nil ?_
      refine GuardOK.none rfl ?_
      exact OpV.toD (opv_fieldAddr rfl Try.fo28_0 rfl) rfl
     ·rintro _ rfl _ rfl
      refine Dep.nil ?_
      refine GuardOK.none rfl ?_
      exact OpV.toD (opv_loadB rfl Try.one22 rfl G1 rfl) rfl
     ·rintro _ rfl _ rfl _ rfl
      refine Dep.nil ?_
      refine GuardOK.none rfl ?_
      exact OpV.mono (opv_call (cap := []) (spec_l01SameAll_ok _ _ _ g0_0 _ _ g1_0 _ hx2) rfl rfl ⟨rfl, rfl, trivial⟩ Try.func199 rfl rfl) (by rintro _ _ ⟨rfl, rfl⟩; exact ⟨rfl, rfl⟩)
     ·rintro _ rfl _ rfl
      refine Dep.nil ?_
      refine GuardOK.none rfl ?_
      exact OpV.toD (opv_move rfl rfl) rfl
     ·rintro _ rfl _ rfl
      refine Dep.nil ?_
      refine GuardOK.some rfl rfl rfl c1 ?_
      exact OpV.toD (opv_move rfl rfl) rfl
     ·rintro _ rfl _ rfl _ rfl
      refine Dep.nil ?_
      refine GuardOK.some rfl rfl rfl c1 ?_
      exact OpV.toD (opv_nilCheck rfl rfl) rfl
     ·rintro _ rfl _ rfl _ rfl
      refine Dep.nil ?_
      refine GuardOK.some rfl rfl rfl c1 ?_
      exact OpV.toD (opv_fieldAddr rfl Try.fo28_1 rfl) rfl
     ·rintro _ rfl _ rfl _ rfl
      refine Dep.nil ?_
      refine GuardOK.some rfl rfl rfl c1 ?_
      exact OpV.toD (opv_loadB rfl Try.one22 rfl G0 rfl) rfl
     ·rintro _ rfl _ rfl
      refine Dep.nil ?_
      refine GuardOK.some rfl rfl rfl c1 ?_
      exact OpV.toD (opv_move rfl rfl) rfl
     ·rintro _ rfl _ rfl _ rfl
      refine Dep.nil ?_
      refine GuardOK.some rfl rfl rfl c1 ?_
      exact OpV.toD (opv_nilCheck rfl rfl) rfl
     ·rintro _ rfl _ rfl _ rfl
      refine Dep.nil ?_
      refine GuardOK.some rfl rfl rfl c1 ?_
      exact OpV.toD (opv_fieldAddr rfl Try.fo28_1 rfl) rfl
     ·rintro _ rfl _ rfl _ rfl
      refine Dep.nil ?_
      refine GuardOK.some rfl rfl rfl c1 ?_
      exact OpV.toD (opv_loadB rfl Try.one22 rfl G1 rfl) rfl
     ·rintro _ rfl _ rfl _ rfl _ rfl
      refine Dep.nil ?_
      refine GuardOK.some rfl rfl rfl c1 ?_
      exact OpV.mono (opv_call (cap := []) (spec_l01SameAll_ok _ _ _ g0_1 _ _ g1_1 _ hx3) rfl rfl ⟨rfl, rfl, trivial⟩ Try.func199 rfl rfl) (by rintro _ _ ⟨rfl, rfl⟩; exact ⟨rfl, rfl⟩)
     ·rintro _ rfl _ rfl _ rfl
      refine Dep.nil ?_
      refine GuardOK.none rfl ?_
      exact OpV.toD (opv_pick rfl rfl (fun _ => rfl) (fun e => absurd (Eq.trans (Eq.symm e) c1) (by decide)) rfl) rfl
     ·rintro _ rfl _ rfl
      refine Dep.nil ?_
      refine GuardOK.none rfl ?_
      exact OpV.toD (opv_move rfl rfl) rfl
     ·rintro _ rfl _ rfl
      refine Dep.nil ?_
      refine GuardOK.some rfl rfl rfl c2 ?_
      exact OpV.toD (opv_move rfl rfl) rfl
     ·rintro _ rfl _ rfl _ rfl
      refine Dep.nil ?_
      refine GuardOK.some rfl rfl rfl c2 ?_
      exact OpV.toD (opv_nilCheck rfl rfl) rfl
     ·rintro _ rfl _ rfl _ rfl
      refine Dep.nil ?_
      refine GuardOK.some rfl rfl rfl c2 ?_
      exact OpV.toD (opv_fieldAddr rfl Try.fo28_2 rfl) rfl
     ·rintro _ rfl _ rfl _ rfl
      refine Dep.nil ?_
      refine GuardOK.some rfl rfl rfl c2 ?_
      exact OpV.toD (opv_loadB rfl Try.one22 rfl G0 rfl) rfl
     ·rintro _ rfl _ rfl
      refine Dep.nil ?_
      refine GuardOK.some rfl rfl rfl c2 ?_
      exact OpV.toD (opv_move rfl rfl) rfl
     ·rintro _ rfl _ rfl _ rfl
      refine Dep.nil ?_
      refine GuardOK.some rfl rfl rfl c2 ?_
      exact OpV.toD (opv_nilCheck rfl rfl) rfl
     ·rintro _ rfl _ rfl _ rfl
      refine Dep.nil ?_
      refine GuardOK.some rfl rfl rfl c2 ?_
      exact OpV.toD (opv_fieldAddr rfl Try.fo28_2 rfl) rfl
     ·rintro _ rfl _ rfl _ rfl
      refine Dep.nil ?_
      refine GuardOK.some rfl rfl rfl c2 ?_
      exact OpV.toD (opv_loadB rfl Try.one22 rfl G1 rfl) rfl
     ·rintro _ rfl _ rfl _ rfl _ rfl
      refine Dep.nil ?_
      refine GuardOK.some rfl rfl rfl c2 ?_
      exact OpV.mono (opv_call (cap := []) (spec_l01SameAll_ok _ _ _ g0_2 _ _ g1_2 _ hx4) rfl rfl ⟨rfl, rfl, trivial⟩ Try.func199 rfl rfl) (by rintro _ _ ⟨rfl, rfl⟩; exact ⟨rfl, rfl⟩)
     ·rintro _ rfl _ rfl _ rfl
      refine Dep.nil ?_
      refine GuardOK.none rfl ?_
      exact OpV.toD (opv_pick rfl rfl (fun _ => rfl) (fun e => absurd (Eq.trans (Eq.symm e) c2) (by decide)) rfl) rfl
     ·rintro _ rfl _ rfl
      refine Dep.nil ?_
      refine GuardOK.none rfl ?_
      exact OpV.toD (opv_assign rfl rfl) rfl
    rintro _ rfl
    refine Dep.nil ?_
    show RL _ _ _ _ [] _ _
    refine RL.nil ?_
    have ey1 := Option.some.inj hy1
    subst ey1
    refine onlyN ?_
    exact ⟨⟨rfl, rfl, rfl, trivial⟩, rfl⟩
   ·rw [if_neg c2] at hy1
    have c2 := eq_false_of_ne_true c2
    refine W.sub (ψ := [(0, (.pointer (some ⟨b0, 0, none⟩))), (1, (.pointer (some ⟨b1, 0, none⟩)))]) ⟨rfl, rfl, trivial⟩ ?_
    refine W.regionP [fun v _ => @Eq Value (.pointer (some ⟨b0, 0, none⟩)) v, fun v _ => @Eq Value (.pointer (some ⟨b0, 0, none⟩)) v, fun v _ => @Eq Value (.pointer (some ⟨b0, 0, none⟩)) v, fun v _ => @Eq Value u0_0 v, fun v _ => @Eq Value (.pointer (some ⟨b1, 0, none⟩)) v, fun v _ => @Eq Value (.pointer (some ⟨b1, 0, none⟩)) v, fun v _ => @Eq Value (.pointer (some ⟨b1, 0, none⟩)) v, fun v _ => @Eq Value u1_0 v, fun v _ => @Eq Value (.bool x2) v, fun v _ => @Eq Value (.bool x2) v, fun v _ => @Eq Value (.pointer (some ⟨b0, 0, none⟩)) v, fun v _ => @Eq Value (.pointer (some ⟨b0, 0, none⟩)) v, fun v _ => @Eq Value (.pointer (some ⟨b0, 1, none⟩)) v, fun v _ => @Eq Value u0_1 v, fun v _ => @Eq Value (.pointer (some ⟨b1, 0, none⟩)) v, fun v _ => @Eq Value (.pointer (some ⟨b1, 0, none⟩)) v, fun v _ => @Eq Value (.pointer (some ⟨b1, 1, none⟩)) v, fun v _ => @Eq Value u1_1 v, fun v _ => @Eq Value (.bool x3) v, fun v _ => @Eq Value (.bool x3) v, fun v _ => @Eq Value (.bool x3) v, fun v _ => @Eq Value undef v, fun v _ => @Eq Value undef v, fun v _ => @Eq Value undef v, fun v _ => @Eq Value undef v, fun v _ => @Eq Value undef v, fun v _ => @Eq Value undef v, fun v _ => @Eq Value undef v, fun v _ => @Eq Value undef v, fun v _ => @Eq Value undef v, fun v _ => @Eq Value (.bool false) v, fun v _ => @Eq Value (.bool false) v] [[], [0], [1], [2], [], [4], [5], [6], [3, 7], [8], [9], [10, 9], [11, 9], [12, 9], [9], [14, 9], [15, 9], [16, 9], [13, 17, 9], [9, 18], [19], [20], [20], [20], [20], [20], [20], [20], [20], [20], [20], [30]] [31] Try.mixed (by decide +kernel) (by decide +kernel) rfl rfl rfl ?_ ?_
    ·refine ⟨⟨rfl, ?_⟩, ⟨rfl, ?_⟩, ⟨rfl, ?_⟩, ⟨rfl, ?_⟩, ⟨rfl, ?_⟩, ⟨rfl, ?_⟩, ⟨rfl, ?_⟩, ⟨rfl, ?_⟩, ⟨rfl, ?_⟩, ⟨rfl, ?_⟩, ⟨rfl, ?_⟩, ⟨rfl, ?_⟩, ⟨rfl, ?_⟩, ⟨rfl, ?_⟩, ⟨rfl, ?_⟩, ⟨rfl, ?_⟩, ⟨rfl, ?_⟩, ⟨rfl, ?_⟩, ⟨rfl, ?_⟩, ⟨rfl, ?_⟩, ⟨rfl, ?_⟩, ⟨rfl, ?_⟩, ⟨rfl, ?_⟩, ⟨rfl, ?_⟩, ⟨rfl, ?_⟩, ⟨rfl, ?_⟩, ⟨rfl, ?_⟩, ⟨rfl, ?_⟩, ⟨rfl, ?_⟩, ⟨rfl, ?_⟩, ⟨rfl, ?_⟩, ⟨rfl, ?_⟩, trivial⟩
     ·rintro _ rfl
      refine Dep.nil ?_
      refine GuardOK.none rfl ?_
      exact OpV.toD (opv_move rfl rfl) rfl
     ·rintro _ rfl _ rfl
      refine Dep.nil ?_
      refine GuardOK.none rfl ?_
      exact OpV.toD (opv_nilCheck rfl rfl) rfl
     ·rintro _ rfl _ rfl
      refine Dep.nil ?_
      refine GuardOK.none rfl ?_
      exact OpV.toD (opv_fieldAddr rfl Try.fo28_0 rfl) rfl
     ·rintro _ rfl _ rfl
      refine Dep.nil ?_
      refine GuardOK.none rfl ?_
      exact OpV.toD (opv_loadB rfl Try.one22 rfl G0 rfl) rfl
     ·rintro _ rfl
      refine Dep.nil ?_
      refine GuardOK.none rfl ?_
      exact OpV.toD (opv_move rfl rfl) rfl
     ·rintro _ rfl _ rfl
      refine Dep.nil ?_
      refine GuardOK.none rfl ?_
      exact OpV.toD (opv_nilCheck rfl rfl) rfl
     ·rintro _ rfl _ rfl
      refine Dep.nil ?_
      refine GuardOK.none rfl ?_
      exact OpV.toD (opv_fieldAddr rfl Try.fo28_0 rfl) rfl
     ·rintro _ rfl _ rfl
      refine Dep.nil ?_
      refine GuardOK.none rfl ?_
      exact OpV.toD (opv_loadB rfl Try.one22 rfl G1 rfl) rfl
     ·rintro _ rfl _ rfl _ rfl
      refine Dep.nil ?_
      refine GuardOK.none rfl ?_
      exact OpV.mono (opv_call (cap := []) (spec_l01SameAll_ok _ _ _ g0_0 _ _ g1_0 _ hx2) rfl rfl ⟨rfl, rfl, trivial⟩ Try.func199 rfl rfl) (by rintro _ _ ⟨rfl, rfl⟩; exact ⟨rfl, rfl⟩)
     ·rintro _ rfl _ rfl
      refine Dep.nil ?_
      refine GuardOK.none rfl ?_
      exact OpV.toD (opv_move rfl rfl) rfl
     ·rintro _ rfl _ rfl
      refine Dep.nil ?_
      refine GuardOK.some rfl rfl rfl c1 ?_
      exact OpV.toD (opv_move rfl rfl) rfl
     ·rintro _ rfl _ rfl _ rfl
      refine Dep.nil ?_
      refine GuardOK.some rfl rfl rfl c1 ?_
      exact OpV.toD (opv_nilCheck rfl rfl) rfl
     ·rintro _ rfl _ rfl _ rfl
      refine Dep.nil ?_
      refine GuardOK.some rfl rfl rfl c1 ?_
      exact OpV.toD (opv_fieldAddr rfl Try.fo28_1 rfl) rfl
     ·rintro _ rfl _ rfl _ rfl
      refine Dep.nil ?_
      refine GuardOK.some rfl rfl rfl c1 ?_
      exact OpV.toD (opv_loadB rfl Try.one22 rfl G0 rfl) rfl
     ·rintro _ rfl _ rfl
      refine Dep.nil ?_
      refine GuardOK.some rfl rfl rfl c1 ?_
      exact OpV.toD (opv_move rfl rfl) rfl
     ·rintro _ rfl _ rfl _ rfl
      refine Dep.nil ?_
      refine GuardOK.some rfl rfl rfl c1 ?_
      exact OpV.toD (opv_nilCheck rfl rfl) rfl
     ·rintro _ rfl _ rfl _ rfl
      refine Dep.nil ?_
      refine GuardOK.some rfl rfl rfl c1 ?_
      exact OpV.toD (opv_fieldAddr rfl Try.fo28_1 rfl) rfl
     ·rintro _ rfl _ rfl _ rfl
      refine Dep.nil ?_
      refine GuardOK.some rfl rfl rfl c1 ?_
      exact OpV.toD (opv_loadB rfl Try.one22 rfl G1 rfl) rfl
     ·rintro _ rfl _ rfl _ rfl _ rfl
      refine Dep.nil ?_
      refine GuardOK.some rfl rfl rfl c1 ?_
      exact OpV.mono (opv_call (cap := []) (spec_l01SameAll_ok _ _ _ g0_1 _ _ g1_1 _ hx3) rfl rfl ⟨rfl, rfl, trivial⟩ Try.func199 rfl rfl) (by rintro _ _ ⟨rfl, rfl⟩; exact ⟨rfl, rfl⟩)
     ·rintro _ rfl _ rfl _ rfl
      refine Dep.nil ?_
      refine GuardOK.none rfl ?_
      exact OpV.toD (opv_pick rfl rfl (fun _ => rfl) (fun e => absurd (Eq.trans (Eq.symm e) c1) (by decide)) rfl) rfl
     ·rintro _ rfl _ rfl
      refine Dep.nil ?_
      refine GuardOK.none rfl ?_
      exact OpV.toD (opv_move rfl rfl) rfl
     ·rintro _ rfl _ rfl
      refine Dep.nil ?_
      refine GuardOK.pass rfl rfl rfl (Eq.trans c2 (by decide)) ⟨rfl, rfl⟩
     ·rintro _ rfl _ rfl
      refine Dep.nil ?_
      refine GuardOK.pass rfl rfl rfl (Eq.trans c2 (by decide)) ⟨rfl, rfl⟩
     ·rintro _ rfl _ rfl
      refine Dep.nil ?_
      refine GuardOK.pass rfl rfl rfl (Eq.trans c2 (by decide)) ⟨rfl, rfl⟩
     ·rintro _ rfl _ rfl
      refine Dep.nil ?_
      refine GuardOK.pass rfl rfl rfl (Eq.trans c2 (by decide)) ⟨rfl, rfl⟩
     ·rintro _ rfl _ rfl
      refine Dep.nil ?_
      refine GuardOK.pass rfl rfl rfl (Eq.trans c2 (by decide)) ⟨rfl, rfl⟩
     ·rintro _ rfl _ rfl
      refine Dep.nil ?_
      refine GuardOK.pass rfl rfl rfl (Eq.trans c2 (by decide)) ⟨rfl, rfl⟩
     ·rintro _ rfl _ rfl
      refine Dep.nil ?_
      refine GuardOK.pass rfl rfl rfl (Eq.trans c2 (by decide)) ⟨rfl, rfl⟩
     ·rintro _ rfl _ rfl
      refine Dep.nil ?_
      refine GuardOK.pass rfl rfl rfl (Eq.trans c2 (by decide)) ⟨rfl, rfl⟩
     ·rintro _ rfl _ rfl
      refine Dep.nil ?_
      refine GuardOK.pass rfl rfl rfl (Eq.trans c2 (by decide)) ⟨rfl, rfl⟩
     ·rintro _ rfl _ rfl
      refine Dep.nil ?_
      refine GuardOK.none rfl ?_
      exact OpV.toD (opv_pick rfl rfl (fun e => absurd (Eq.trans (Eq.symm e) c2) (by decide)) (fun _ => rfl) rfl) rfl
     ·rintro _ rfl _ rfl
      refine Dep.nil ?_
      refine GuardOK.none rfl ?_
      exact OpV.toD (opv_assign rfl rfl) rfl
    rintro _ rfl
    refine Dep.nil ?_
    show RL _ _ _ _ [] _ _
    refine RL.nil ?_
    have ey1 := Option.some.inj hy1
    subst ey1
    refine onlyN ?_
    exact ⟨⟨rfl, rfl, rfl, trivial⟩, rfl⟩
  ·rw [if_neg c1] at hy1
   have c1 := eq_false_of_ne_true c1
   refine W.sub (ψ := [(0, (.pointer (some ⟨b0, 0, none⟩))), (1, (.pointer (some ⟨b1, 0, none⟩)))]) ⟨rfl, rfl, trivial⟩ ?_
   refine W.regionP [fun v _ => @Eq Value (.pointer (some ⟨b0, 0, none⟩)) v, fun v _ => @Eq Value (.pointer (some ⟨b0, 0, none⟩)) v, fun v _ => @Eq Value (.pointer (some ⟨b0, 0, none⟩)) v, fun v _ => @Eq Value u0_0 v, fun v _ => @Eq Value (.pointer (some ⟨b1, 0, none⟩)) v, fun v _ => @Eq Value (.pointer (some ⟨b1, 0, none⟩)) v, fun v _ => @Eq Value (.pointer (some ⟨b1, 0, none⟩)) v, fun v _ => @Eq Value u1_0 v, fun v _ => @Eq Value (.bool x2) v, fun v _ => @Eq Value (.bool x2) v, fun v _ => @Eq Value undef v, fun v _ => @Eq Value undef v, fun v _ => @Eq Value undef v, fun v _ => @Eq Value undef v, fun v _ => @Eq Value undef v, fun v _ => @Eq Value undef v, fun v _ => @Eq Value undef v, fun v _ => @Eq Value undef v, fun v _ => @Eq Value undef v, fun v _ => @Eq Value (.bool false) v, fun v _ => @Eq Value (.bool false) v, fun v _ => @Eq Value undef v, fun v _ => @Eq Value undef v, fun v _ => @Eq Value undef v, fun v _ => @Eq Value undef v, fun v _ => @Eq Value undef v, fun v _ => @Eq Value undef v, fun v _ => @Eq Value undef v, fun v _ => @Eq Value undef v, fun v _ => @Eq Value undef v, fun v _ => @Eq Value (.bool false) v, fun v _ => @Eq Value (.bool false) v] [[], [0], [1], [2], [], [4], [5], [6], [3, 7], [8], [9], [9], [9], [9], [9], [9], [9], [9], [9], [9], [19], [20], [20], [20], [20], [20], [20], [20], [20], [20], [20], [30]] [31] Try.mixed (by decide +kernel) (by decide +kernel) rfl rfl rfl ?_ ?_
   ·refine ⟨⟨rfl, ?_⟩, ⟨rfl, ?_⟩, ⟨rfl, ?_⟩, ⟨rfl, ?_⟩, ⟨rfl, ?_⟩, ⟨rfl, ?_⟩, ⟨rfl, ?_⟩, ⟨rfl, ?_⟩, ⟨rfl, ?_⟩, ⟨rfl, ?_⟩, ⟨rfl, ?_⟩, ⟨rfl, ?_⟩, ⟨rfl, ?_⟩, ⟨rfl, ?_⟩, ⟨rfl, ?_⟩, ⟨rfl, ?_⟩, ⟨rfl, ?_⟩, ⟨rfl, ?_⟩, ⟨rfl, ?_⟩, ⟨rfl, ?_⟩, ⟨rfl, ?_⟩, ⟨rfl, ?_⟩, ⟨rfl, ?_⟩, ⟨rfl, ?_⟩, ⟨rfl, ?_⟩, ⟨rfl, ?_⟩, ⟨rfl, ?_⟩, ⟨rfl, ?_⟩, ⟨rfl, ?_⟩, ⟨rfl, ?_⟩, ⟨rfl, ?_⟩, ⟨rfl, ?_⟩, trivial⟩
    ·rintro _ rfl
     refine Dep.nil ?_
     refine GuardOK.none rfl ?_
     exact OpV.toD (opv_move rfl rfl) rfl
    ·rintro _ rfl _ rfl
     refine Dep.nil ?_
     refine GuardOK.none rfl ?_
     exact OpV.toD (opv_nilCheck rfl rfl) rfl
    ·rintro _ rfl _ rfl
     refine Dep.nil ?_
     refine GuardOK.none rfl ?_
     exact OpV.toD (opv_fieldAddr rfl Try.fo28_0 rfl) rfl
    ·rintro _ rfl _ rfl
     refine Dep.nil ?_
     refine GuardOK.none rfl ?_
     exact OpV.toD (opv_loadB rfl Try.one22 rfl G0 rfl) rfl
    ·rintro _ rfl
     refine Dep.nil ?_
     refine GuardOK.none rfl ?_
     exact OpV.toD (opv_move rfl rfl) rfl
    ·rintro _ rfl _ rfl
     refine Dep.nil ?_
     refine GuardOK.none rfl ?_
     exact OpV.toD (opv_nilCheck rfl rfl) rfl
    ·rintro _ rfl _ rfl
     refine Dep.nil ?_
     refine GuardOK.none rfl ?_
     exact OpV.toD (opv_fieldAddr rfl Try.fo28_0 rfl) rfl
    ·rintro _ rfl _ rfl
     refine Dep.nil ?_
     refine GuardOK.none rfl ?_
     exact OpV.toD (opv_loadB rfl Try.one22 rfl G1 rfl) rfl
    ·rintro _ rfl _ rfl _ rfl
     refine Dep.nil ?_
     refine GuardOK.none rfl ?_
     exact OpV.mono (opv_call (cap := []) (spec_l01SameAll_ok _ _ _ g0_0 _ _ g1_0 _ hx2) rfl rfl ⟨rfl, rfl, trivial⟩ Try.func199 rfl rfl) (by rintro _ _ ⟨rfl, rfl⟩; exact ⟨rfl, rfl⟩)
    ·rintro _ rfl _ rfl
     refine Dep.nil ?_
     refine GuardOK.none rfl ?_
     exact OpV.toD (opv_move rfl rfl) rfl
    ·rintro _ rfl _ rfl
     refine Dep.nil ?_
     refine GuardOK.pass rfl rfl rfl (Eq.trans c1 (by decide)) ⟨rfl, rfl⟩
    ·rintro _ rfl _ rfl
     refine Dep.nil ?_
     refine GuardOK.pass rfl rfl rfl (Eq.trans c1 (by decide)) ⟨rfl, rfl⟩
    ·rintro _ rfl _ rfl
     refine Dep.nil ?_
     refine GuardOK.pass rfl rfl rfl (Eq.trans c1 (by decide)) ⟨rfl, rfl⟩
    ·rintro _ rfl _ rfl
     refine Dep.nil ?_
     refine GuardOK.pass rfl rfl rfl (Eq.trans c1 (by decide)) ⟨rfl, rfl⟩
    ·rintro _ rfl _ rfl
     refine Dep.nil ?_
     refine GuardOK.pass rfl rfl rfl (Eq.trans c1 (by decide)) ⟨rfl, rfl⟩
    ·rintro _ rfl _ rfl
     refine Dep.nil ?_
     refine GuardOK.pass rfl rfl rfl (Eq.trans c1 (by decide)) ⟨rfl, rfl⟩
    ·rintro _ rfl _ rfl
     refine Dep.nil ?_
     refine GuardOK.pass rfl rfl rfl (Eq.trans c1 (by decide)) ⟨rfl, rfl⟩
    ·rintro _ rfl _ rfl
     refine Dep.nil ?_
     refine GuardOK.pass rfl rfl rfl (Eq.trans c1 (by decide)) ⟨rfl, rfl⟩
    ·rintro _ rfl _ rfl
     refine Dep.nil ?_
     refine GuardOK.pass rfl rfl rfl (Eq.trans c1 (by decide)) ⟨rfl, rfl⟩
    ·rintro _ rfl _ rfl
     refine Dep.nil ?_
     refine GuardOK.none rfl ?_
     exact OpV.toD (opv_pick rfl rfl (fun e => absurd (Eq.trans (Eq.symm e) c1) (by decide)) (fun _ => rfl) rfl) rfl
    ·rintro _ rfl _ rfl
     refine Dep.nil ?_
     refine GuardOK.none rfl ?_
     exact OpV.toD (opv_move rfl rfl) rfl
    ·rintro _ rfl _ rfl
     refine Dep.nil ?_
     refine GuardOK.pass rfl rfl rfl (Eq.trans rfl (by decide)) ⟨rfl, rfl⟩
    ·rintro _ rfl _ rfl
     refine Dep.nil ?_
     refine GuardOK.pass rfl rfl rfl (Eq.trans rfl (by decide)) ⟨rfl, rfl⟩
    ·rintro _ rfl _ rfl
     refine Dep.nil ?_
     refine GuardOK.pass rfl rfl rfl (Eq.trans rfl (by decide)) ⟨rfl, rfl⟩
    ·rintro _ rfl _ rfl
     refine Dep.nil ?_
     refine GuardOK.pass rfl rfl rfl (Eq.trans rfl (by decide)) ⟨rfl, rfl⟩
    ·rintro _ rfl _ rfl
     refine Dep.nil ?_
     refine GuardOK.pass rfl rfl rfl (Eq.trans rfl (by decide)) ⟨rfl, rfl⟩
    ·rintro _ rfl _ rfl
     refine Dep.nil ?_
     refine GuardOK.pass rfl rfl rfl (Eq.trans rfl (by decide)) ⟨rfl, rfl⟩
    ·rintro _ rfl _ rfl
     refine Dep.nil ?_
     refine GuardOK.pass rfl rfl rfl (Eq.trans rfl (by decide)) ⟨rfl, rfl⟩
    ·rintro _ rfl _ rfl
     refine Dep.nil ?_
     refine GuardOK.pass rfl rfl rfl (Eq.trans rfl (by decide)) ⟨rfl, rfl⟩
    ·rintro _ rfl _ rfl
     refine Dep.nil ?_
     refine GuardOK.pass rfl rfl rfl (Eq.trans rfl (by decide)) ⟨rfl, rfl⟩
    ·rintro _ rfl _ rfl
     refine Dep.nil ?_
     refine GuardOK.none rfl ?_
     exact OpV.toD (opv_pick rfl rfl (fun e => absurd (Eq.trans (Eq.symm e) rfl) (by decide)) (fun _ => rfl) rfl) rfl
    ·rintro _ rfl _ rfl
     refine Dep.nil ?_
     refine GuardOK.none rfl ?_
     exact OpV.toD (opv_assign rfl rfl) rfl
   rintro _ rfl
   refine Dep.nil ?_
   show RL _ _ _ _ [] _ _
   refine RL.nil ?_
   have ey1 := Option.some.inj hy1
   subst ey1
   refine onlyN ?_
   exact ⟨⟨rfl, rfl, rfl, trivial⟩, rfl⟩
 rintro φ' _ ⟨hs1, rfl⟩
 refine thnN ?_
 refine W.sub hs1 ?_
 refine W.ret ?_
 have er := Option.some.inj hp
 subst er
 exact Rt.one rfl rfl ⟨rfl, rfl⟩

set_option maxRecDepth 20000 in
theorem spec_SameField_ok (h0 : Heap) (u0_0 : Value) (a0_0 : List (Option Nat)) (g0_0 : SL (kF .f32) h0.size h0 u0_0 a0_0) (u0_1 : Value) (a0_1 : List (Option Nat)) (g0_1 : SL (kF .f32) h0.size h0 u0_1 a0_1) (u0_2 : Value) (a0_2 : List (Option Nat)) (g0_2 : SL (kF .f32) h0.size h0 u0_2 a0_2) (u1_0 : Value) (a1_0 : List (Option Nat)) (g1_0 : SL (kF .f32) h0.size h0 u1_0 a1_0) (u1_1 : Value) (a1_1 : List (Option Nat)) (g1_1 : SL (kF .f32) h0.size h0 u1_1 a1_1) (u1_2 : Value) (a1_2 : List (Option Nat)) (g1_2 : SL (kF .f32) h0.size h0 u1_2 a1_2) (r : Bool) (hp : spec_SameField a0_0 a0_1 a0_2 a1_0 a1_1 a1_2 = some r) : CallsH Try.prog 125 ([(.agg (List.toArray (α := Value) [u0_0, u0_1, u0_2])), (.agg (List.toArray (α := Value) [u1_0, u1_1, u1_2]))].toArray ++ [].toArray) h0 (fun v h' => v = (.bool r) ∧ Mod [] h0 h' ∧ Sep [] h0.size h' []) := by
 unfold spec_SameField at hp
 refine callsH_of_W (l := [(.agg (List.toArray (α := Value) [u0_0, u0_1, u0_2])), (.agg (List.toArray (α := Value) [u1_0, u1_1, u1_2]))]) (cap := []) 6 Try.func125 rfl rfl rfl ?_
 refine W.seq ?_
 refine W.region ?_
 refine RL.op _ (by decide) (opS_boxed (opv_boxA (cs := [u0_0, u0_1, u0_2]) rfl rfl)) ?_
 rintro _ hp1 ⟨bb1, rfl, MT_1, T_1⟩
 obtain ⟨X_1, S_1⟩ := Sep.turn0 (Mod.refl [] h0) (Sep.nil [] h0.size h0) MT_1 T_1
 refine RL.op _ (by decide) (opS_boxed (opv_boxA (cs := [u1_0, u1_1, u1_2]) rfl rfl)) ?_
 rintro _ hp2 ⟨bb2, rfl, MT_2, T_2⟩
 obtain ⟨X_2, S_2⟩ := Sep.turn0 X_1 S_1 MT_2 T_2
 refine RL.opD (by decide) (opv_assign rfl rfl) ?_
 refine RL.nil ?_
 refine thnN ?_
 refine W.seq ?_
 obtain ⟨x1, hx1, hp⟩ := Option.bind_eq_some_iff.1 hp
 refine W.region ?_
 refine RL.op _ (by decide) (opv_call (cap := []) (spec_l02Same_ok _ _ _ _ (SL.up (SL.mod g0_0 X_2 (Nat.le_refl _) nob) (Nat.le_trans (Nat.le_refl _) (Mod.size X_2))) _ _ (SL.up (SL.mod g0_1 X_2 (Nat.le_refl _) nob) (Nat.le_trans (Nat.le_refl _) (Mod.size X_2))) _ _ (SL.up (SL.mod g0_2 X_2 (Nat.le_refl _) nob) (Nat.le_trans (Nat.le_refl _) (Mod.size X_2))) (Sep.at (o := boxO bb1 [u0_0, u0_1, u0_2]) S_2 1 rfl) _ _ _ (SL.up (SL.mod g1_0 X_2 (Nat.le_refl _) nob) (Nat.le_trans (Nat.le_refl _) (Mod.size X_2))) _ _ (SL.up (SL.mod g1_1 X_2 (Nat.le_refl _) nob) (Nat.le_trans (Nat.le_refl _) (Mod.size X_2))) _ _ (SL.up (SL.mod g1_2 X_2 (Nat.le_refl _) nob) (Nat.le_trans (Nat.le_refl _) (Mod.size X_2))) (Sep.at (o := boxO bb2 [u1_0, u1_1, u1_2]) S_2 0 rfl) _ hx1) rfl rfl ⟨rfl, rfl, trivial⟩ Try.func176 rfl rfl) ?_
 rintro _ _ ⟨rfl, rfl⟩
 refine RL.opD (by decide) (opv_assign rfl rfl) ?_
 refine RL.nil ?_
 refine thnN ?_
 refine W.ret ?_
 have er := Option.some.inj hp
 subst er
 exact Rt.one rfl rfl ⟨rfl, X_2, (Sep.nil _ _ _)⟩

set_option maxRecDepth 20000 in
theorem laws_b10Fields_ok (h0 : Heap) (u0_0 : Value) (a0_0 : List (Option Nat)) (g0_0 : SL (kF .f32) h0.size h0 u0_0 a0_0) (u0_1 : Value) (a0_1 : List (Option Nat)) (g0_1 : SL (kF .f32) h0.size h0 u0_1 a0_1) (u0_2 : Value) (a0_2 : List (Option Nat)) (g0_2 : SL (kF .f32) h0.size h0 u0_2 a0_2) (u1_0 : Value) (a1_0 : List (Option Nat)) (g1_0 : SL (kF .f32) h0.size h0 u1_0 a1_0) (u1_1 : Value) (a1_1 : List (Option Nat)) (g1_1 : SL (kF .f32) h0.size h0 u1_1 a1_1) (u1_2 : Value) (a1_2 : List (Option Nat)) (g1_2 : SL (kF .f32) h0.size h0 u1_2 a1_2) (r : Bool) (hp : laws_b10Fields a0_0 a0_1 a0_2 a1_0 a1_1 a1_2 = some r) : CallsH Try.prog 65 ([(.agg (List.toArray (α := Value) [u0_0, u0_1, u0_2])), (.agg (List.toArray (α := Value) [u1_0, u1_1, u1_2]))].toArray ++ [].toArray) h0 (fun v h' => v = (.bool r) ∧ Mod [] h0 h' ∧ Sep [] h0.size h' []) := by
 unfold laws_b10Fields at hp
 refine callsH_of_W (l := [(.agg (List.toArray (α := Value) [u0_0, u0_1, u0_2])), (.agg (List.toArray (α := Value) [u1_0, u1_1, u1_2]))]) (cap := []) 8 Try.func65 rfl rfl rfl ?_
 refine W.seq ?_
 refine W.region ?_
 refine RL.op _ (by decide) (opS_boxed (opv_boxA (cs := [u0_0, u0_1, u0_2]) rfl rfl)) ?_
 rintro _ hp1 ⟨bb1, rfl, MT_1, T_1⟩
 obtain ⟨X_1, S_1⟩ := Sep.turn0 (Mod.refl [] h0) (Sep.nil [] h0.size h0) MT_1 T_1
 refine RL.op _ (by decide) (opS_boxed (opv_boxA (cs := [u1_0, u1_1, u1_2]) rfl rfl)) ?_
 rintro _ hp2 ⟨bb2, rfl, MT_2, T_2⟩
 obtain ⟨X_2, S_2⟩ := Sep.turn0 X_1 S_1 MT_2 T_2
 refine RL.opD (by decide) (opv_assign rfl rfl) ?_
 refine RL.nil ?_
 refine thnN ?_
 refine W.seq ?_
 obtain ⟨x1, hx1, hp⟩ := Option.bind_eq_some_iff.1 hp
 refine W.region ?_
 refine RL.opD (by decide) (opv_loadA (us := [u0_0, u0_1, u0_2]) rfl Try.agg28 Try.size28 rfl (Sep.at (o := boxO bb1 [u0_0, u0_1, u0_2]) S_2 1 rfl) rfl rfl) ?_
 refine RL.opD (by decide) (opv_loadA (us := [u1_0, u1_1, u1_2]) rfl Try.agg28 Try.size28 rfl (Sep.at (o := boxO bb2 [u1_0, u1_1, u1_2]) S_2 0 rfl) rfl rfl) ?_
 refine RL.op _ (by decide) (opv_call (cap := []) (spec_SameField_ok _ _ _ (SL.up (SL.mod g0_0 X_2 (Nat.le_refl _) nob) (Nat.le_trans (Nat.le_refl _) (Mod.size X_2))) _ _ (SL.up (SL.mod g0_1 X_2 (Nat.le_refl _) nob) (Nat.le_trans (Nat.le_refl _) (Mod.size X_2))) _ _ (SL.up (SL.mod g0_2 X_2 (Nat.le_refl _) nob) (Nat.le_trans (Nat.le_refl _) (Mod.size X_2))) _ _ (SL.up (SL.mod g1_0 X_2 (Nat.le_refl _) nob) (Nat.le_trans (Nat.le_refl _) (Mod.size X_2))) _ _ (SL.up (SL.mod g1_1 X_2 (Nat.le_refl _) nob) (Nat.le_trans (Nat.le_refl _) (Mod.size X_2))) _ _ (SL.up (SL.mod g1_2 X_2 (Nat.le_refl _) nob) (Nat.le_trans (Nat.le_refl _) (Mod.size X_2))) _ hx1) rfl rfl ⟨rfl, rfl, trivial⟩ Try.func125 rfl rfl) ?_
 rintro _ hp3 ⟨rfl, MT_3, T_3⟩
 obtain ⟨X_3, S_3⟩ := Sep.turn0 X_2 S_2 MT_3 T_3
 refine RL.opD (by decide) (opv_assign rfl rfl) ?_
 refine RL.nil ?_
 refine thnN ?_
 refine W.ret ?_
 have er := Option.some.inj hp
 subst er
 exact Rt.one rfl rfl ⟨rfl, X_3, (Sep.nil _ _ _)⟩

set_option maxRecDepth 20000 in
theorem laws_FnAwake_ok (h0 : Heap) (u0 : Value) (a0 : List (Int)) (g0 : SL (kI .u8) h0.size h0 u0 a0) (u1 : Value) (a1 : List (Int)) (g1 : SL (kI .u8) h0.size h0 u1 a1) (r : Bool) (hp : laws_FnAwake a0 a1 = some r) : CallsH Try.prog 11 ([u0, u1].toArray ++ [].toArray) h0 (fun v h' => v = (.bool r) ∧ Mod [] h0 h' ∧ Sep [] h0.size h' []) := by
 unfold laws_FnAwake at hp
 refine callsH_of_W (l := [u0, u1]) (cap := []) 158 Try.func11 rfl rfl rfl ?_
 refine W.seq ?_
 refine W.region ?_
 refine RL.opD (by decide) (opv_assign rfl rfl) ?_
 refine RL.nil ?_
 refine thnN ?_
 refine W.seq ?_
 refine W.seq ?_
 obtain ⟨x1, hx1, hp⟩ := Option.bind_eq_some_iff.1 hp
 refine W.region ?_
 refine RL.opD (by decide) (opv_move rfl rfl) ?_
 refine RL.opD (by decide) (opv_move rfl rfl) ?_
 refine RL.op _ (by decide) (opv_call (cap := []) (laws_b10Long_ok _ _ _ g0 _ _ g1 _ hx1) rfl rfl ⟨rfl, rfl, trivial⟩ Try.func51 rfl rfl) ?_
 rintro _ _ ⟨rfl, rfl⟩
 refine RL.nil ?_
 refine thnN ?_
 by_cases c1 : x1 = true
 ·rw [if_pos c1] at hp
  refine W.condT rfl c1 ?_
  refine W.seq ?_
  refine W.region ?_
  refine RL.opD (by decide) (opv_assign rfl rfl) ?_
  refine RL.nil ?_
  refine thnN ?_
  refine W.ret ?_
  refine thnR ?_
  have er := Option.some.inj hp
  subst er
  exact Rt.one rfl rfl ⟨rfl, (Mod.refl [] h0), (Sep.nil _ _ _)⟩
 ·rw [if_neg c1] at hp
  have c1 := eq_false_of_ne_true c1
  refine W.condF rfl c1 ?_
  refine W.skip ?_
  refine thnN ?_
  refine W.seq ?_
  obtain ⟨x2, hx2, hp⟩ := Option.bind_eq_some_iff.1 hp
  refine W.region ?_
  refine RL.opD (by decide) (opv_move rfl rfl) ?_
  refine RL.op _ (by decide) (opv_call (cap := []) (spec_B10Sheet_ok _ _ _ g0 _ hx2) rfl rfl ⟨rfl, trivial⟩ Try.func52 rfl rfl) ?_
  rintro _ hp1 ⟨v1, v2, rfl, MT_1, T_1⟩
  obtain ⟨X_1, S_1⟩ := Sep.turn0 (Mod.refl [] h0) (Sep.nil [] h0.size h0) MT_1 T_1
  refine RL.op _ (by decide) (opS_boxed (opv_alloc (cs := [(.int .i64 0), (.int .i64 0), (.bool false), (.slice none 0 0), (.slice none 0 0)]) rfl Try.zero31 rfl)) ?_
  rintro _ hp2 ⟨bb1, rfl, MT_2, T_2⟩
  obtain ⟨X_2, S_2⟩ := Sep.turn0 X_1 S_1 MT_2 T_2
  refine RL.op0 _ (opS_stored (cs := [(.int .i64 0), (.int .i64 0), (.bool false), (.slice none 0 0), (.slice none 0 0)]) (cs' := [(.int .i64 x2.1), (.int .i64 x2.2.1), (.bool x2.2.2.1), v1, v2]) (opv_storeA (us := [(.int .i64 x2.1), (.int .i64 x2.2.1), (.bool x2.2.2.1), v1, v2]) rfl Try.size31 rfl rfl (oneAll rfl (oneAll rfl (oneAll rfl (oneAll (ownO.one (Sep.at (o := ownO (kF .f32) 25 v1 x2.2.2.2.1) S_2 1 rfl)) (oneAll (ownO.one (Sep.at (o := ownO (kF .f32) 25 v2 x2.2.2.2.2) S_2 2 rfl)) rfl))))) (Sep.at (o := boxO bb1 [(.int .i64 0), (.int .i64 0), (.bool false), (.slice none 0 0), (.slice none 0 0)]) S_2 0 rfl) rfl rfl) (Sep.at (o := boxO bb1 [(.int .i64 0), (.int .i64 0), (.bool false), (.slice none 0 0), (.slice none 0 0)]) S_2 0 rfl)) ?_
  rintro _ hp3 ⟨rfl, MT_3, T_3⟩
  have S_3 : Sep [] h0.size hp2 ([boxO bb1 [(.int .i64 0), (.int .i64 0), (.bool false), (.slice none 0 0), (.slice none 0 0)]] ++ [ownO (kF .f32) 25 v1 x2.2.2.2.1, ownO (kF .f32) 25 v2 x2.2.2.2.2]) := Sep.sel S_2 [0, 1, 2] (by decide)
  obtain ⟨X_3, S_4⟩ := Sep.turn X_2 S_3 MT_3 T_3
  refine RL.nil ?_
  refine thnN ?_
  refine W.seq ?_
  obtain ⟨x3, hx3, hp⟩ := Option.bind_eq_some_iff.1 hp
  refine W.region ?_
  refine RL.opD (by decide) (opv_move rfl rfl) ?_
  refine RL.opD (by decide) (opv_loadA (us := [(.int .i64 x2.1), (.int .i64 x2.2.1), (.bool x2.2.2.1), v1, v2]) rfl Try.agg31 Try.size31 rfl (Sep.at (o := boxO bb1 [(.int .i64 x2.1), (.int .i64 x2.2.1), (.bool x2.2.2.1), v1, v2]) S_4 0 rfl) rfl rfl) ?_
  refine RL.op _ (by decide) (opv_call (cap := []) (spec_B10Field_ok _ _ _ (SL.up (SL.mod g1 X_3 (Nat.le_refl _) nob) (Nat.le_trans (Nat.le_refl _) (Mod.size X_3))) _ _ _ _ _ (ownO.read (Sep.at (o := ownO (kF .f32) 25 v1 x2.2.2.2.1) S_4 1 rfl)) _ _ (ownO.read (Sep.at (o := ownO (kF .f32) 25 v2 x2.2.2.2.2) S_4 2 rfl)) _ hx3) rfl rfl ⟨rfl, rfl, trivial⟩ Try.func53 rfl rfl) ?_
  rintro _ hp4 ⟨v3, v4, v5, rfl, MT_4, T_4⟩
  obtain ⟨X_4, S_5⟩ := Sep.turn0 X_3 S_4 MT_4 T_4
  refine RL.op _ (by decide) (opS_boxed (opv_alloc (cs := [(.slice none 0 0), (.slice none 0 0), (.slice none 0 0)]) rfl Try.zero28 rfl)) ?_
  rintro _ hp5 ⟨bb2, rfl, MT_5, T_5⟩
  obtain ⟨X_5, S_6⟩ := Sep.turn0 X_4 S_5 MT_5 T_5
  refine RL.op0 _ (opS_stored (cs := [(.slice none 0 0), (.slice none 0 0), (.slice none 0 0)]) (cs' := [v3, v4, v5]) (opv_storeA (us := [v3, v4, v5]) rfl Try.size28 rfl rfl (oneAll (ownO.one (Sep.at (o := ownO (kF .f32) 25 v3 x3.1) S_6 1 rfl)) (oneAll (ownO.one (Sep.at (o := ownO (kF .f32) 25 v4 x3.2.1) S_6 2 rfl)) (oneAll (ownO.one (Sep.at (o := ownO (kF .f32) 25 v5 x3.2.2) S_6 3 rfl)) rfl))) (Sep.at (o := boxO bb2 [(.slice none 0 0), (.slice none 0 0), (.slice none 0 0)]) S_6 0 rfl) rfl rfl) (Sep.at (o := boxO bb2 [(.slice none 0 0), (.slice none 0 0), (.slice none 0 0)]) S_6 0 rfl)) ?_
  rintro _ hp6 ⟨rfl, MT_6, T_6⟩
  have S_7 : Sep [] h0.size hp5 ([boxO bb2 [(.slice none 0 0), (.slice none 0 0), (.slice none 0 0)]] ++ [ownO (kF .f32) 25 v3 x3.1, ownO (kF .f32) 25 v4 x3.2.1, ownO (kF .f32) 25 v5 x3.2.2, boxO bb1 [(.int .i64 x2.1), (.int .i64 x2.2.1), (.bool x2.2.2.1), v1, v2], ownO (kF .f32) 25 v1 x2.2.2.2.1, ownO (kF .f32) 25 v2 x2.2.2.2.2]) := Sep.sel S_6 [0, 1, 2, 3, 4, 5, 6] (by decide)
  obtain ⟨X_6, S_8⟩ := Sep.turn X_5 S_7 MT_6 T_6
  refine RL.nil ?_
  refine thnN ?_
  refine W.seq ?_
  obtain ⟨x4, hx4, hp⟩ := Option.bind_eq_some_iff.1 hp
  refine W.region ?_
  refine RL.opD (by decide) (opv_move rfl rfl) ?_
  refine RL.op _ (by decide) (opv_call (cap := []) (laws_b10At_ok _ _ _ (SL.up (SL.mod g1 X_6 (Nat.le_refl _) nob) (Nat.le_trans (Nat.le_refl _) (Mod.size X_6))) _ _ _ hx4) rfl rfl ⟨rfl, rfl, rfl, trivial⟩ Try.func54 rfl rfl) ?_
  rintro _ _ ⟨rfl, rfl⟩
  refine RL.opD (by decide) (opv_add rfl rfl rfl) ?_
  refine RL.opD (by decide) (opv_assign rfl rfl) ?_
  refine RL.nil ?_
  refine thnN ?_
  refine W.seq ?_
  obtain ⟨x5, hx5, hp⟩ := Option.bind_eq_some_iff.1 hp
  refine W.region ?_
  refine RL.opD (by decide) (opv_loadA (us := [(.int .i64 x2.1), (.int .i64 x2.2.1), (.bool x2.2.2.1), v1, v2]) rfl Try.agg31 Try.size31 rfl (Sep.at (o := boxO bb1 [(.int .i64 x2.1), (.int .i64 x2.2.1), (.bool x2.2.2.1), v1, v2]) S_8 4 rfl) rfl rfl) ?_
  refine RL.opD (by decide) (opv_loadA (us := [v3, v4, v5]) rfl Try.agg28 Try.size28 rfl (Sep.at (o := boxO bb2 [v3, v4, v5]) S_8 0 rfl) rfl rfl) ?_
  refine RL.op _ (by decide) (opv_call (cap := []) (impl_StepField_ok _ _ _ _ _ _ (ownO.read (Sep.at (o := ownO (kF .f32) 25 v1 x2.2.2.2.1) S_8 5 rfl)) _ _ (ownO.read (Sep.at (o := ownO (kF .f32) 25 v2 x2.2.2.2.2) S_8 6 rfl)) _ _ (ownO.read (Sep.at (o := ownO (kF .f32) 25 v3 x3.1) S_8 1 rfl)) _ _ (ownO.read (Sep.at (o := ownO (kF .f32) 25 v4 x3.2.1) S_8 2 rfl)) _ _ (ownO.read (Sep.at (o := ownO (kF .f32) 25 v5 x3.2.2) S_8 3 rfl)) _ hx5) rfl rfl ⟨rfl, rfl, trivial⟩ Try.func64 rfl rfl) ?_
  rintro _ hp7 ⟨v6, v7, v8, rfl, MT_7, T_7⟩
  obtain ⟨X_7, S_9⟩ := Sep.turn0 X_6 S_8 MT_7 T_7
  refine RL.opD (by decide) (opv_move rfl rfl) ?_
  refine RL.opD (by decide) (opv_extract rfl rfl rfl) ?_
  refine RL.opD (by decide) (opv_extract rfl rfl rfl) ?_
  refine RL.op _ (by decide) (opS_boxed (opv_alloc (cs := [(.slice none 0 0), (.slice none 0 0), (.slice none 0 0)]) rfl Try.zero28 rfl)) ?_
  rintro _ hp8 ⟨bb3, rfl, MT_8, T_8⟩
  obtain ⟨X_8, S_10⟩ := Sep.turn0 X_7 S_9 MT_8 T_8
  refine RL.op0 _ (opS_stored (cs := [(.slice none 0 0), (.slice none 0 0), (.slice none 0 0)]) (cs' := [v6, v7, v8]) (opv_storeA (us := [v6, v7, v8]) rfl Try.size28 rfl rfl (oneAll (ownO.one (Sep.at (o := ownO (kF .f32) 25 v6 x5.1) S_10 1 rfl)) (oneAll (ownO.one (Sep.at (o := ownO (kF .f32) 25 v7 x5.2.1) S_10 2 rfl)) (oneAll (ownO.one (Sep.at (o := ownO (kF .f32) 25 v8 x5.2.2.1) S_10 3 rfl)) rfl))) (Sep.at (o := boxO bb3 [(.slice none 0 0), (.slice none 0 0), (.slice none 0 0)]) S_10 0 rfl) rfl rfl) (Sep.at (o := boxO bb3 [(.slice none 0 0), (.slice none 0 0), (.slice none 0 0)]) S_10 0 rfl)) ?_
  rintro _ hp9 ⟨rfl, MT_9, T_9⟩
  have S_11 : Sep [] h0.size hp8 ([boxO bb3 [(.slice none 0 0), (.slice none 0 0), (.slice none 0 0)]] ++ [ownO (kF .f32) 25 v6 x5.1, ownO (kF .f32) 25 v7 x5.2.1, ownO (kF .f32) 25 v8 x5.2.2.1, boxO bb2 [v3, v4, v5], ownO (kF .f32) 25 v3 x3.1, ownO (kF .f32) 25 v4 x3.2.1, ownO (kF .f32) 25 v5 x3.2.2, boxO bb1 [(.int .i64 x2.1), (.int .i64 x2.2.1), (.bool x2.2.2.1), v1, v2], ownO (kF .f32) 25 v1 x2.2.2.2.1, ownO (kF .f32) 25 v2 x2.2.2.2.2]) := Sep.sel S_10 [0, 1, 2, 3, 4, 5, 6, 7, 8, 9, 10] (by decide)
  obtain ⟨X_9, S_12⟩ := Sep.turn X_8 S_11 MT_9 T_9
  refine RL.opD (by decide) (opv_assign rfl rfl) ?_
  refine RL.nil ?_
  refine thnN ?_
  refine W.seq ?_
  obtain ⟨x6, hx6, hp⟩ := Option.bind_eq_some_iff.1 hp
  refine W.region ?_
  refine RL.opD (by decide) (opv_loadA (us := [(.int .i64 x2.1), (.int .i64 x2.2.1), (.bool x2.2.2.1), v1, v2]) rfl Try.agg31 Try.size31 rfl (Sep.at (o := boxO bb1 [(.int .i64 x2.1), (.int .i64 x2.2.1), (.bool x2.2.2.1), v1, v2]) S_12 8 rfl) rfl rfl) ?_
  refine RL.opD (by decide) (opv_loadA (us := [v3, v4, v5]) rfl Try.agg28 Try.size28 rfl (Sep.at (o := boxO bb2 [v3, v4, v5]) S_12 4 rfl) rfl rfl) ?_
  refine RL.opD (by decide) (opv_move rfl rfl) ?_
  refine RL.op _ (by decide) (opv_call (cap := []) (impl_StepAwake_ok _ _ _ _ _ _ (ownO.read (Sep.at (o := ownO (kF .f32) 25 v1 x2.2.2.2.1) S_12 9 rfl)) _ _ (ownO.read (Sep.at (o := ownO (kF .f32) 25 v2 x2.2.2.2.2) S_12 10 rfl)) _ _ (ownO.read (Sep.at (o := ownO (kF .f32) 25 v3 x3.1) S_12 5 rfl)) _ _ (ownO.read (Sep.at (o := ownO (kF .f32) 25 v4 x3.2.1) S_12 6 rfl)) _ _ (ownO.read (Sep.at (o := ownO (kF .f32) 25 v5 x3.2.2) S_12 7 rfl)) _ _ hx6) rfl rfl ⟨rfl, rfl, rfl, trivial⟩ Try.func32 rfl rfl) ?_
  rintro _ hp10 ⟨v9, v10, v11, rfl, MT_10, T_10⟩
  obtain ⟨X_10, S_13⟩ := Sep.turn0 X_9 S_12 MT_10 T_10
  refine RL.opD (by decide) (opv_move rfl rfl) ?_
  refine RL.opD (by decide) (opv_extract rfl rfl rfl) ?_
  refine RL.opD (by decide) (opv_extract rfl rfl rfl) ?_
  refine RL.opD (by decide) (opv_extract rfl rfl rfl) ?_
  refine RL.op _ (by decide) (opS_boxed (opv_alloc (cs := [(.slice none 0 0), (.slice none 0 0), (.slice none 0 0)]) rfl Try.zero28 rfl)) ?_
  rintro _ hp11 ⟨bb4, rfl, MT_11, T_11⟩
  obtain ⟨X_11, S_14⟩ := Sep.turn0 X_10 S_13 MT_11 T_11
  refine RL.op0 _ (opS_stored (cs := [(.slice none 0 0), (.slice none 0 0), (.slice none 0 0)]) (cs' := [v9, v10, v11]) (opv_storeA (us := [v9, v10, v11]) rfl Try.size28 rfl rfl (oneAll (ownO.one (Sep.at (o := ownO (kF .f32) 25 v9 x6.1) S_14 1 rfl)) (oneAll (ownO.one (Sep.at (o := ownO (kF .f32) 25 v10 x6.2.1) S_14 2 rfl)) (oneAll (ownO.one (Sep.at (o := ownO (kF .f32) 25 v11 x6.2.2.1) S_14 3 rfl)) rfl))) (Sep.at (o := boxO bb4 [(.slice none 0 0), (.slice none 0 0), (.slice none 0 0)]) S_14 0 rfl) rfl rfl) (Sep.at (o := boxO bb4 [(.slice none 0 0), (.slice none 0 0), (.slice none 0 0)]) S_14 0 rfl)) ?_
  rintro _ hp12 ⟨rfl, MT_12, T_12⟩
  have S_15 : Sep [] h0.size hp11 ([boxO bb4 [(.slice none 0 0), (.slice none 0 0), (.slice none 0 0)]] ++ [ownO (kF .f32) 25 v9 x6.1, ownO (kF .f32) 25 v10 x6.2.1, ownO (kF .f32) 25 v11 x6.2.2.1, boxO bb3 [v6, v7, v8], ownO (kF .f32) 25 v6 x5.1, ownO (kF .f32) 25 v7 x5.2.1, ownO (kF .f32) 25 v8 x5.2.2.1, boxO bb2 [v3, v4, v5], ownO (kF .f32) 25 v3 x3.1, ownO (kF .f32) 25 v4 x3.2.1, ownO (kF .f32) 25 v5 x3.2.2, boxO bb1 [(.int .i64 x2.1), (.int .i64 x2.2.1), (.bool x2.2.2.1), v1, v2], ownO (kF .f32) 25 v1 x2.2.2.2.1, ownO (kF .f32) 25 v2 x2.2.2.2.2]) := Sep.sel S_14 [0, 1, 2, 3, 4, 5, 6, 7, 8, 9, 10, 11, 12, 13, 14] (by decide)
  obtain ⟨X_12, S_16⟩ := Sep.turn X_11 S_15 MT_12 T_12
  refine RL.opD (by decide) (opv_assign rfl rfl) ?_
  refine RL.opD (by decide) (opv_assign rfl rfl) ?_
  refine RL.nil ?_
  refine thnN ?_
  refine W.seq ?_
  obtain ⟨x7, hx7, hp⟩ := Option.bind_eq_some_iff.1 hp
  refine W.region ?_
  refine RL.opD (by decide) (opv_loadA (us := [(.int .i64 x2.1), (.int .i64 x2.2.1), (.bool x2.2.2.1), v1, v2]) rfl Try.agg31 Try.size31 rfl (Sep.at (o := boxO bb1 [(.int .i64 x2.1), (.int .i64 x2.2.1), (.bool x2.2.2.1), v1, v2]) S_16 12 rfl) rfl rfl) ?_
  refine RL.opD (by decide) (opv_loadA (us := [v3, v4, v5]) rfl Try.agg28 Try.size28 rfl (Sep.at (o := boxO bb2 [v3, v4, v5]) S_16 8 rfl) rfl rfl) ?_
  refine RL.opD (by decide) (opv_move rfl rfl) ?_
  refine RL.op _ (by decide) (opv_call (cap := []) (impl_SleepingBlocks_ok _ _ _ _ _ _ (ownO.read (Sep.at (o := ownO (kF .f32) 25 v1 x2.2.2.2.1) S_16 13 rfl)) _ _ (ownO.read (Sep.at (o := ownO (kF .f32) 25 v2 x2.2.2.2.2) S_16 14 rfl)) _ _ (ownO.read (Sep.at (o := ownO (kF .f32) 25 v3 x3.1) S_16 9 rfl)) _ _ (ownO.read (Sep.at (o := ownO (kF .f32) 25 v4 x3.2.1) S_16 10 rfl)) _ _ (ownO.read (Sep.at (o := ownO (kF .f32) 25 v5 x3.2.2) S_16 11 rfl)) _ _ hx7) rfl rfl ⟨rfl, rfl, rfl, trivial⟩ Try.func24 rfl rfl) ?_
  rintro _ hp13 ⟨v12, rfl, MT_13, T_13⟩
  obtain ⟨X_13, S_17⟩ := Sep.turn0 X_12 S_16 MT_13 T_13
  refine RL.opD (by decide) (opv_move rfl rfl) ?_
  refine RL.opD (by decide) (opv_extract rfl rfl rfl) ?_
  refine RL.opD (by decide) (opv_extract rfl rfl rfl) ?_
  refine RL.opD (by decide) (opv_assign rfl rfl) ?_
  refine RL.opD (by decide) (opv_assign rfl rfl) ?_
  refine RL.nil ?_
  refine thnN ?_
  refine W.seq ?_
  refine W.seq ?_
  obtain ⟨x8, hy1, hp⟩ := Option.bind_eq_some_iff.1 hp
  refine W.cut (fun φ' h' => Fr.sub [(0, u0), (1, u1), (4, (.bool false)), (22, (.bool x1)), (5, (.pointer (some ⟨bb1, 0, none⟩))), (6, (.pointer (some ⟨bb2, 0, none⟩))), (7, (.int .i64 (IntKind.wrap .i64 (1 + x4)))), (8, (.pointer (some ⟨bb3, 0, none⟩))), (9, (.bool x5.2.2.2)), (10, (.pointer (some ⟨bb4, 0, none⟩))), (11, (.int .i64 x6.2.2.2.1)), (12, (.bool x6.2.2.2.2)), (13, v12), (14, (.bool x7.2)), (67, (.bool x8))] φ' ∧ Mod [] h0 h' ∧ Sep [] h0.size h' [ownO kB 4 v12 x7.1, boxO bb4 [v9, v10, v11], ownO (kF .f32) 25 v9 x6.1, ownO (kF .f32) 25 v10 x6.2.1, ownO (kF .f32) 25 v11 x6.2.2.1, boxO bb3 [v6, v7, v8], ownO (kF .f32) 25 v6 x5.1, ownO (kF .f32) 25 v7 x5.2.1, ownO (kF .f32) 25 v8 x5.2.2.1, boxO bb2 [v3, v4, v5], ownO (kF .f32) 25 v3 x3.1, ownO (kF .f32) 25 v4 x3.2.1, ownO (kF .f32) 25 v5 x3.2.2, boxO bb1 [(.int .i64 x2.1), (.int .i64 x2.2.1), (.bool x2.2.2.1), v1, v2], ownO (kF .f32) 25 v1 x2.2.2.2.1, ownO (kF .f32) 25 v2 x2.2.2.2.2]) ?_ ?_
  ·by_cases c2 : (!x5.2.2.2) = true
   ·rw [if_pos c2] at hy1
    refine W.region ?_
    refine RL.opD (by decide) (opv_move rfl rfl) ?_
    refine RL.opD (by decide) (opv_not rfl rfl) ?_
    refine RL.opD (by decide) (opv_move rfl rfl) ?_
    refine RL.noT rfl rfl c2 (by decide) ?_
    refine RL.noT rfl rfl c2 (by decide) ?_
    refine RL.opD (by decide) (opv_pick rfl rfl (fun _ => rfl) (fun e => absurd (Eq.trans (Eq.symm e) c2) (by decide)) rfl) ?_
    refine RL.opD (by decide) (opv_move rfl rfl) ?_
    refine RL.noT rfl rfl rfl (by decide) ?_
    refine RL.noT rfl rfl rfl (by decide) ?_
    refine RL.opD (by decide) (opv_pick rfl rfl (fun _ => rfl) (fun e => absurd (Eq.trans (Eq.symm e) rfl) (by decide)) rfl) ?_
    refine RL.opD (by decide) (opv_move rfl rfl) ?_
    refine RL.noT rfl rfl rfl (by decide) ?_
    refine RL.noT rfl rfl rfl (by decide) ?_
    refine RL.noT rfl rfl rfl (by decide) ?_
    refine RL.noT rfl rfl rfl (by decide) ?_
    refine RL.opD (by decide) (opv_pick rfl rfl (fun _ => rfl) (fun e => absurd (Eq.trans (Eq.symm e) rfl) (by decide)) rfl) ?_
    refine RL.nil ?_
    have ey1 := Option.some.inj hy1
    subst ey1
    refine onlyN ?_
    exact ⟨⟨rfl, rfl, rfl, rfl, rfl, rfl, rfl, rfl, rfl, rfl, rfl, rfl, rfl, rfl, rfl, trivial⟩, X_13, (Sep.sel S_17 [0, 1, 2, 3, 4, 5, 6, 7, 8, 9, 10, 11, 12, 13, 14, 15] (by decide))⟩
   ·rw [if_neg c2] at hy1
    have c2 := eq_false_of_ne_true c2
    by_cases c3 : (!x6.2.2.2.2) = true
    ·rw [if_pos c3] at hy1
     refine W.region ?_
     refine RL.opD (by decide) (opv_move rfl rfl) ?_
     refine RL.opD (by decide) (opv_not rfl rfl) ?_
     refine RL.opD (by decide) (opv_move rfl rfl) ?_
     refine RL.yesD rfl rfl c2 (by decide) (opv_move rfl rfl) ?_
     refine RL.yesD rfl rfl c2 (by decide) (opv_not rfl rfl) ?_
     refine RL.opD (by decide) (opv_pick rfl rfl (fun e => absurd (Eq.trans (Eq.symm e) c2) (by decide)) (fun _ => rfl) rfl) ?_
     refine RL.opD (by decide) (opv_move rfl rfl) ?_
     refine RL.noT rfl rfl c3 (by decide) ?_
     refine RL.noT rfl rfl c3 (by decide) ?_
     refine RL.opD (by decide) (opv_pick rfl rfl (fun _ => rfl) (fun e => absurd (Eq.trans (Eq.symm e) c3) (by decide)) rfl) ?_
     refine RL.opD (by decide) (opv_move rfl rfl) ?_
     refine RL.noT rfl rfl rfl (by decide) ?_
     refine RL.noT rfl rfl rfl (by decide) ?_
     refine RL.noT rfl rfl rfl (by decide) ?_
     refine RL.noT rfl rfl rfl (by decide) ?_
     refine RL.opD (by decide) (opv_pick rfl rfl (fun _ => rfl) (fun e => absurd (Eq.trans (Eq.symm e) rfl) (by decide)) rfl) ?_
     refine RL.nil ?_
     have ey1 := Option.some.inj hy1
     subst ey1
     refine onlyN ?_
     exact ⟨⟨rfl, rfl, rfl, rfl, rfl, rfl, rfl, rfl, rfl, rfl, rfl, rfl, rfl, rfl, rfl, trivial⟩, X_13, (Sep.sel S_17 [0, 1, 2, 3, 4, 5, 6, 7, 8, 9, 10, 11, 12, 13, 14, 15] (by decide))⟩
    ·rw [if_neg c3] at hy1
     have c3 := eq_false_of_ne_true c3
     by_cases c4 : (!x7.2) = true
     ·rw [if_pos c4] at hy1
      refine W.region ?_
      refine RL.opD (by decide) (opv_move rfl rfl) ?_
      refine RL.opD (by decide) (opv_not rfl rfl) ?_
      refine RL.opD (by decide) (opv_move rfl rfl) ?_
      refine RL.yesD rfl rfl c2 (by decide) (opv_move rfl rfl) ?_
      refine RL.yesD rfl rfl c2 (by decide) (opv_not rfl rfl) ?_
      refine RL.opD (by decide) (opv_pick rfl rfl (fun e => absurd (Eq.trans (Eq.symm e) c2) (by decide)) (fun _ => rfl) rfl) ?_
      refine RL.opD (by decide) (opv_move rfl rfl) ?_
      refine RL.yesD rfl rfl c3 (by decide) (opv_move rfl rfl) ?_
      refine RL.yesD rfl rfl c3 (by decide) (opv_not rfl rfl) ?_
      refine RL.opD (by decide) (opv_pick rfl rfl (fun e => absurd (Eq.trans (Eq.symm e) c3) (by decide)) (fun _ => rfl) rfl) ?_
      refine RL.opD (by decide) (opv_move rfl rfl) ?_
      refine RL.noT rfl rfl c4 (by decide) ?_
      refine RL.noT rfl rfl c4 (by decide) ?_
      refine RL.noT rfl rfl c4 (by decide) ?_
      refine RL.noT rfl rfl c4 (by decide) ?_
      refine RL.opD (by decide) (opv_pick rfl rfl (fun _ => rfl) (fun e => absurd (Eq.trans (Eq.symm e) c4) (by decide)) rfl) ?_
      refine RL.nil ?_
      have ey1 := Option.some.inj hy1
      subst ey1
      refine onlyN ?_
      exact ⟨⟨rfl, rfl, rfl, rfl, rfl, rfl, rfl, rfl, rfl, rfl, rfl, rfl, rfl, rfl, rfl, trivial⟩, X_13, (Sep.sel S_17 [0, 1, 2, 3, 4, 5, 6, 7, 8, 9, 10, 11, 12, 13, 14, 15] (by decide))⟩
     ·rw [if_neg c4] at hy1
      have c4 := eq_false_of_ne_true c4
      obtain ⟨x9, hx9, hy1⟩ := Option.bind_eq_some_iff.1 hy1
      refine W.region ?_
      refine RL.opD (by decide) (opv_move rfl rfl) ?_
      refine RL.opD (by decide) (opv_not rfl rfl) ?_
      refine RL.opD (by decide) (opv_move rfl rfl) ?_
      refine RL.yesD rfl rfl c2 (by decide) (opv_move rfl rfl) ?_
      refine RL.yesD rfl rfl c2 (by decide) (opv_not rfl rfl) ?_
      refine RL.opD (by decide) (opv_pick rfl rfl (fun e => absurd (Eq.trans (Eq.symm e) c2) (by decide)) (fun _ => rfl) rfl) ?_
      refine RL.opD (by decide) (opv_move rfl rfl) ?_
      refine RL.yesD rfl rfl c3 (by decide) (opv_move rfl rfl) ?_
      refine RL.yesD rfl rfl c3 (by decide) (opv_not rfl rfl) ?_
      refine RL.opD (by decide) (opv_pick rfl rfl (fun e => absurd (Eq.trans (Eq.symm e) c3) (by decide)) (fun _ => rfl) rfl) ?_
      refine RL.opD (by decide) (opv_move rfl rfl) ?_
      refine RL.yesD rfl rfl c4 (by decide) (opv_loadA (us := [v6, v7, v8]) rfl Try.agg28 Try.size28 rfl (Sep.at (o := boxO bb3 [v6, v7, v8]) S_17 5 rfl) rfl rfl) ?_
      refine RL.yesD rfl rfl c4 (by decide) (opv_loadA (us := [v9, v10, v11]) rfl Try.agg28 Try.size28 rfl (Sep.at (o := boxO bb4 [v9, v10, v11]) S_17 1 rfl) rfl rfl) ?_
      refine RL.yes _ rfl rfl c4 (by decide) (opv_call (cap := []) (laws_b10Fields_ok _ _ _ (ownO.read (Sep.at (o := ownO (kF .f32) 25 v6 x5.1) S_17 6 rfl)) _ _ (ownO.read (Sep.at (o := ownO (kF .f32) 25 v7 x5.2.1) S_17 7 rfl)) _ _ (ownO.read (Sep.at (o := ownO (kF .f32) 25 v8 x5.2.2.1) S_17 8 rfl)) _ _ (ownO.read (Sep.at (o := ownO (kF .f32) 25 v9 x6.1) S_17 2 rfl)) _ _ (ownO.read (Sep.at (o := ownO (kF .f32) 25 v10 x6.2.1) S_17 3 rfl)) _ _ (ownO.read (Sep.at (o := ownO (kF .f32) 25 v11 x6.2.2.1) S_17 4 rfl)) _ hx9) rfl rfl ⟨rfl, rfl, trivial⟩ Try.func65 rfl rfl) ?_
      rintro _ hp14 ⟨rfl, MT_14, T_14⟩
      obtain ⟨X_14, S_18⟩ := Sep.turn0 X_13 S_17 MT_14 T_14
      refine RL.yesD rfl rfl c4 (by decide) (opv_not rfl rfl) ?_
      refine RL.opD (by decide) (opv_pick rfl rfl (fun e => absurd (Eq.trans (Eq.symm e) c4) (by decide)) (fun _ => rfl) rfl) ?_
      refine RL.nil ?_
      have ey1 := Option.some.inj hy1
      subst ey1
      refine onlyN ?_
      exact ⟨⟨rfl, rfl, rfl, rfl, rfl, rfl, rfl, rfl, rfl, rfl, rfl, rfl, rfl, rfl, rfl, trivial⟩, X_14, (Sep.sel S_18 [0, 1, 2, 3, 4, 5, 6, 7, 8, 9, 10, 11, 12, 13, 14, 15] (by decide))⟩
  rintro φ' hp15 ⟨hs1, X_15, S_19⟩
  refine thnN ?_
  refine W.sub hs1 ?_
  by_cases c5 : x8 = true
  ·rw [if_pos c5] at hp
   refine W.condT rfl c5 ?_
   refine W.seq ?_
   refine W.region ?_
   refine RL.opD (by decide) (opv_assign rfl rfl) ?_
   refine RL.nil ?_
   refine thnN ?_
   refine W.ret ?_
   refine thnR ?_
   have er := Option.some.inj hp
   subst er
   exact Rt.one rfl rfl ⟨rfl, X_15, (Sep.nil _ _ _)⟩
  ·rw [if_neg c5] at hp
   have c5 := eq_false_of_ne_true c5
   refine W.condF rfl c5 ?_
   refine W.skip ?_
   refine thnN ?_
   refine W.seq ?_
   refine W.region ?_
   refine RL.opD (by decide) (opv_assign rfl rfl) ?_
   refine RL.nil ?_
   refine thnN ?_
   refine W.seq ?_
   refine W.seq ?_
   refine W.region ?_
   refine RL.opD (by decide) (opv_move rfl rfl) ?_
   refine RL.opD (by decide) (opv_len rfl Try.underlying40 rfl (ownO.read (Sep.at (o := ownO kB 4 v12 x7.1) S_19 0 rfl))) ?_
   refine RL.opD (by decide) (opv_move rfl rfl) ?_
   refine RL.nil ?_
   refine thnN ?_
   obtain ⟨y2, hy2, hp⟩ := Option.bind_eq_some_iff.1 hp
   refine W.cut (fun φ' h' => ∃ x12, ∃ x13, ∃ x14, y2 = (x12, x13, x14) ∧ Fr.sub [(0, u0), (1, u1), (4, (.bool false)), (22, (.bool x1)), (5, (.pointer (some ⟨bb1, 0, none⟩))), (6, (.pointer (some ⟨bb2, 0, none⟩))), (7, (.int .i64 (IntKind.wrap .i64 (1 + x4)))), (8, (.pointer (some ⟨bb3, 0, none⟩))), (9, (.bool x5.2.2.2)), (10, (.pointer (some ⟨bb4, 0, none⟩))), (11, (.int .i64 x6.2.2.2.1)), (12, (.bool x6.2.2.2.2)), (13, v12), (14, (.bool x7.2)), (67, (.bool x8)), (69, (.int .i64 (x7.1.length : Int))), (15, (.int .i64 x12)), (70, (.int .i64 x13)), (71, (.bool x14))] φ' ∧ hp15 = h') ?_ ?_
   ·refine W.block ?_
    refine W.loopS (fun (s : (Int × Int)) φ' h' => Fr.sub [(0, u0), (1, u1), (4, (.bool false)), (22, (.bool x1)), (5, (.pointer (some ⟨bb1, 0, none⟩))), (6, (.pointer (some ⟨bb2, 0, none⟩))), (7, (.int .i64 (IntKind.wrap .i64 (1 + x4)))), (8, (.pointer (some ⟨bb3, 0, none⟩))), (9, (.bool x5.2.2.2)), (10, (.pointer (some ⟨bb4, 0, none⟩))), (11, (.int .i64 x6.2.2.2.1)), (12, (.bool x6.2.2.2.2)), (13, v12), (14, (.bool x7.2)), (67, (.bool x8)), (69, (.int .i64 (x7.1.length : Int))), (15, (.int .i64 s.1)), (70, (.int .i64 s.2))] φ' ∧ hp15 = h') hy2 ⟨⟨rfl, rfl, rfl, rfl, rfl, rfl, rfl, rfl, rfl, rfl, rfl, rfl, rfl, rfl, rfl, rfl, rfl, rfl, trivial⟩, rfl⟩ ?_
    rintro ⟨x10, x11⟩ φ' _ o1 ⟨hs2, rfl⟩ ho1 hy1
    have hs2 : Fr.sub [(0, u0), (1, u1), (4, (.bool false)), (22, (.bool x1)), (5, (.pointer (some ⟨bb1, 0, none⟩))), (6, (.pointer (some ⟨bb2, 0, none⟩))), (7, (.int .i64 (IntKind.wrap .i64 (1 + x4)))), (8, (.pointer (some ⟨bb3, 0, none⟩))), (9, (.bool x5.2.2.2)), (10, (.pointer (some ⟨bb4, 0, none⟩))), (11, (.int .i64 x6.2.2.2.1)), (12, (.bool x6.2.2.2.2)), (13, v12), (14, (.bool x7.2)), (67, (.bool x8)), (69, (.int .i64 (x7.1.length : Int))), (15, (.int .i64 x10)), (70, (.int .i64 x11))] φ' := hs2
    have ho1 : laws_FnAwake.s0 x7 x10 x11 = some o1 := ho1
    unfold laws_FnAwake.s0 at ho1
    refine W.sub hs2 ?_
    refine W.seq ?_
    refine W.region ?_
    refine RL.opD (by decide) (opv_icmp rfl rfl rfl rfl) ?_
    refine RL.nil ?_
    refine thnN ?_
    refine W.seq ?_
    by_cases c6 : (decide (x11 < (x7.1.length : Int))) = true
    ·rw [if_pos c6] at ho1
     refine W.condT rfl c6 ?_
     refine W.skip ?_
     refine thnN ?_
     refine W.seq ?_
     refine W.block ?_
     refine W.seq ?_
     refine W.region ?_
     refine RL.opD (by decide) (opv_move rfl rfl) ?_
     refine RL.opD (by decide) (opv_assign rfl rfl) ?_
     refine RL.nil ?_
     refine thnN ?_
     refine W.seq ?_
     obtain ⟨x15, hx15, ho1⟩ := Option.bind_eq_some_iff.1 ho1
     refine W.region ?_
     refine RL.opD (by decide) (opv_move rfl rfl) ?_
     refine RL.opD (by decide) (opv_move rfl rfl) ?_
     refine RL.op _ (by decide) (opv_index rfl Try.underlying40 (by rw [Try.size4]; rfl) rfl rfl (ownO.read (Sep.at (o := ownO kB 4 v12 x7.1) S_19 0 rfl)) hx15) ?_
     rintro v13 _ ⟨fv13, rfl⟩
     refine RL.opD (by decide) (opv_loadBl rfl Try.one4 rfl fv13 (ownO.read (Sep.at (o := ownO kB 4 v12 x7.1) S_19 0 rfl)) hx15) ?_
     refine RL.opD (by decide) (opv_not rfl rfl) ?_
     refine RL.nil ?_
     refine thnN ?_
     obtain ⟨x16, hy3, ho1⟩ := Option.bind_eq_some_iff.1 ho1
     refine W.cut (fun φ' h' => Fr.sub [(0, u0), (1, u1), (4, (.bool false)), (22, (.bool x1)), (5, (.pointer (some ⟨bb1, 0, none⟩))), (6, (.pointer (some ⟨bb2, 0, none⟩))), (7, (.int .i64 (IntKind.wrap .i64 (1 + x4)))), (8, (.pointer (some ⟨bb3, 0, none⟩))), (9, (.bool x5.2.2.2)), (10, (.pointer (some ⟨bb4, 0, none⟩))), (11, (.int .i64 x6.2.2.2.1)), (12, (.bool x6.2.2.2.2)), (13, v12), (14, (.bool x7.2)), (67, (.bool x8)), (69, (.int .i64 (x7.1.length : Int))), (70, (.int .i64 x11)), (71, (.bool (decide (x11 < (x7.1.length : Int))))), (16, (.int .i64 x11)), (77, (.bool (!x15))), (15, (.int .i64 x16))] φ' ∧ hp15 = h') ?_ ?_
     ·by_cases c7 : (!x15) = true
      ·rw [if_pos c7] at hy3
       refine W.condT rfl c7 ?_
       refine W.region ?_
       refine RL.opD (by decide) (opv_move rfl rfl) ?_
       refine RL.opD (by decide) (opv_add rfl rfl rfl) ?_
       refine RL.opD (by decide) (opv_assign rfl rfl) ?_
       refine RL.nil ?_
       have ey3 := Option.some.inj hy3
       subst ey3
       refine onlyN ?_
       exact ⟨⟨rfl, rfl, rfl, rfl, rfl, rfl, rfl, rfl, rfl, rfl, rfl, rfl, rfl, rfl, rfl, rfl, rfl, rfl, rfl, rfl, rfl, trivial⟩, rfl⟩
      ·rw [if_neg c7] at hy3
       have c7 := eq_false_of_ne_true c7
       refine W.condF rfl c7 ?_
       refine W.skip ?_
       have ey3 := Option.some.inj hy3
       subst ey3
       refine onlyN ?_
       exact ⟨⟨rfl, rfl, rfl, rfl, rfl, rfl, rfl, rfl, rfl, rfl, rfl, rfl, rfl, rfl, rfl, rfl, rfl, rfl, rfl, rfl, rfl, trivial⟩, rfl⟩
     rintro φ' _ ⟨hs4, rfl⟩
     refine blkN ?_
     refine thnN ?_
     refine W.sub hs4 ?_
     refine W.region ?_
     refine RL.opD (by decide) (opv_add rfl rfl rfl) ?_
     refine RL.opD (by decide) (opv_move rfl rfl) ?_
     refine RL.nil ?_
     have eo1 := Option.some.inj ho1
     subst eo1
     refine rndN (s' := (x16, IntKind.wrap .i64 (x11 + 1))) rfl ?_
     exact ⟨⟨rfl, rfl, rfl, rfl, rfl, rfl, rfl, rfl, rfl, rfl, rfl, rfl, rfl, rfl, rfl, rfl, rfl, rfl, trivial⟩, rfl⟩
    ·rw [if_neg c6] at ho1
     have c6 := eq_false_of_ne_true c6
     refine W.condF rfl c6 ?_
     refine W.exit ?_
     refine thnX ?_
     refine rndX ?_
     refine blkI ?_
     have eo1 := Option.some.inj ho1
     subst eo1
     have ey2 := hy1 _ rfl
     subst ey2
     refine onlyN ?_
     exact ⟨x10, x11, decide (x11 < (x7.1.length : Int)), rfl, ⟨rfl, rfl, rfl, rfl, rfl, rfl, rfl, rfl, rfl, rfl, rfl, rfl, rfl, rfl, rfl, rfl, rfl, rfl, rfl, trivial⟩, rfl⟩
   rintro φ' _ ⟨x12, x13, x14, rfl, hs3, rfl⟩
   try dsimp only at hp
   refine thnN ?_
   refine W.sub hs3 ?_
   refine W.seq ?_
   by_cases nc8 : IntKind.wrap .i64 (1 + x4) = 0
   ·rw [if_pos nc8] at hp; cases hp
   rw [if_neg nc8] at hp
   have c8 : IntKind.wrap .i64 (1 + x4) ≠ 0 := nc8
   refine W.region ?_
   refine RL.opD (by decide) (opv_fieldAddr rfl Try.fo31_0 rfl) ?_
   refine RL.opD (by decide) (opv_loadB rfl Try.one2 rfl (Sep.at (o := boxO bb1 [(.int .i64 x2.1), (.int .i64 x2.2.1), (.bool x2.2.2.1), v1, v2]) S_19 13 rfl) rfl) ?_
   refine RL.opD (by decide) (opv_move rfl rfl) ?_
   refine RL.opD (by decide) (opv_add rfl rfl rfl) ?_
   refine RL.opD (by decide) (opv_sub rfl rfl rfl) ?_
   refine RL.opD (by decide) (opv_move rfl rfl) ?_
   refine RL.opD (by decide) (opv_quo rfl c8 rfl rfl) ?_
   refine RL.opD (by decide) (opv_assign rfl rfl) ?_
   refine RL.nil ?_
   refine thnN ?_
   refine W.seq ?_
   refine W.seq ?_
   obtain ⟨x17, hy4, hp⟩ := Option.bind_eq_some_iff.1 hp
   refine W.cut (fun φ' h' => Fr.sub [(0, u0), (1, u1), (4, (.bool false)), (22, (.bool x1)), (5, (.pointer (some ⟨bb1, 0, none⟩))), (6, (.pointer (some ⟨bb2, 0, none⟩))), (7, (.int .i64 (IntKind.wrap .i64 (1 + x4)))), (8, (.pointer (some ⟨bb3, 0, none⟩))), (9, (.bool x5.2.2.2)), (10, (.pointer (some ⟨bb4, 0, none⟩))), (11, (.int .i64 x6.2.2.2.1)), (12, (.bool x6.2.2.2.2)), (13, v12), (14, (.bool x7.2)), (67, (.bool x8)), (69, (.int .i64 (x7.1.length : Int))), (15, (.int .i64 x12)), (70, (.int .i64 x13)), (71, (.bool x14)), (17, (.int .i64 (IntKind.wrap .i64 (Int.tdiv (IntKind.wrap .i64 ((IntKind.wrap .i64 (x2.1 + (IntKind.wrap .i64 (1 + x4)))) - 1)) (IntKind.wrap .i64 (1 + x4)))))), (104, (.bool x17))] φ' ∧ hp15 = h') ?_ ?_
   ·by_cases c9 : (x12 != x6.2.2.2.1) = true
    ·rw [if_pos c9] at hy4
     refine W.region ?_
     refine RL.opD (by decide) (opv_move rfl rfl) ?_
     refine RL.opD (by decide) (opv_move rfl rfl) ?_
     refine RL.opD (by decide) (opv_icmp rfl rfl rfl rfl) ?_
     refine RL.opD (by decide) (opv_move rfl rfl) ?_
     refine RL.noT rfl rfl c9 (by decide) ?_
     refine RL.noT rfl rfl c9 (by decide) ?_
     refine RL.noT rfl rfl c9 (by decide) ?_
     refine RL.noT rfl rfl c9 (by decide) ?_
     refine RL.noT rfl rfl c9 (by decide) ?_
     refine RL.noT rfl rfl c9 (by decide) ?_
     refine RL.noT rfl rfl c9 (by decide) ?_
     refine RL.noT rfl rfl c9 (by decide) ?_
     refine RL.noT rfl rfl c9 (by decide) ?_
     refine RL.noT rfl rfl c9 (by decide) ?_
     refine RL.noT rfl rfl c9 (by decide) ?_
     refine RL.noT rfl rfl c9 (by decide) ?_
     refine RL.opD (by decide) (opv_pick rfl rfl (fun _ => rfl) (fun e => absurd (Eq.trans (Eq.symm e) c9) (by decide)) rfl) ?_
     refine RL.nil ?_
     have ey4 := Option.some.inj hy4
     subst ey4
     refine onlyN ?_
     exact ⟨⟨rfl, rfl, rfl, rfl, rfl, rfl, rfl, rfl, rfl, rfl, rfl, rfl, rfl, rfl, rfl, rfl, rfl, rfl, rfl, rfl, rfl, trivial⟩, rfl⟩
    ·rw [if_neg c9] at hy4
     have c9 := eq_false_of_ne_true c9
     by_cases nc10 : IntKind.wrap .i64 (1 + x4) = 0
     ·rw [if_pos nc10] at hy4; cases hy4
     rw [if_neg nc10] at hy4
     have c10 : IntKind.wrap .i64 (1 + x4) ≠ 0 := nc10
     refine W.region ?_
     refine RL.opD (by decide) (opv_move rfl rfl) ?_
     refine RL.opD (by decide) (opv_move rfl rfl) ?_
     refine RL.opD (by decide) (opv_icmp rfl rfl rfl rfl) ?_
     refine RL.opD (by decide) (opv_move rfl rfl) ?_
     refine RL.yesD rfl rfl c9 (by decide) (opv_move rfl rfl) ?_
     refine RL.yesD rfl rfl c9 (by decide) (opv_len rfl Try.underlying40 rfl (ownO.read (Sep.at (o := ownO kB 4 v12 x7.1) S_19 0 rfl))) ?_
     refine RL.yesD rfl rfl c9 (by decide) (opv_move rfl rfl) ?_
     refine RL.yesD rfl rfl c9 (by decide) (opv_fieldAddr rfl Try.fo31_1 rfl) ?_
     refine RL.yesD rfl rfl c9 (by decide) (opv_loadB rfl Try.one2 rfl (Sep.at (o := boxO bb1 [(.int .i64 x2.1), (.int .i64 x2.2.1), (.bool x2.2.2.1), v1, v2]) S_19 13 rfl) rfl) ?_
     refine RL.yesD rfl rfl c9 (by decide) (opv_move rfl rfl) ?_
     refine RL.yesD rfl rfl c9 (by decide) (opv_add rfl rfl rfl) ?_
     refine RL.yesD rfl rfl c9 (by decide) (opv_sub rfl rfl rfl) ?_
     refine RL.yesD rfl rfl c9 (by decide) (opv_move rfl rfl) ?_
     refine RL.yesD rfl rfl c9 (by decide) (opv_quo rfl c10 rfl rfl) ?_
     refine RL.yesD rfl rfl c9 (by decide) (opv_mul rfl rfl rfl) ?_
     refine RL.yesD rfl rfl c9 (by decide) (opv_icmp rfl rfl rfl rfl) ?_
     refine RL.opD (by decide) (opv_pick rfl rfl (fun e => absurd (Eq.trans (Eq.symm e) c9) (by decide)) (fun _ => rfl) rfl) ?_
     refine RL.nil ?_
     have ey4 := Option.some.inj hy4
     subst ey4
     refine onlyN ?_
     exact ⟨⟨rfl, rfl, rfl, rfl, rfl, rfl, rfl, rfl, rfl, rfl, rfl, rfl, rfl, rfl, rfl, rfl, rfl, rfl, rfl, rfl, rfl, trivial⟩, rfl⟩
   rintro φ' _ ⟨hs5, rfl⟩
   refine thnN ?_
   refine W.sub hs5 ?_
   by_cases c11 : x17 = true
   ·rw [if_pos c11] at hp
    refine W.condT rfl c11 ?_
    refine W.seq ?_
    refine W.region ?_
    refine RL.opD (by decide) (opv_assign rfl rfl) ?_
    refine RL.nil ?_
    refine thnN ?_
    refine W.ret ?_
    refine thnR ?_
    have er := Option.some.inj hp
    subst er
    exact Rt.one rfl rfl ⟨rfl, X_15, (Sep.nil _ _ _)⟩
   ·rw [if_neg c11] at hp
    have c11 := eq_false_of_ne_true c11
    refine W.condF rfl c11 ?_
    refine W.skip ?_
    refine thnN ?_
    refine W.seq ?_
    refine W.seq ?_
    refine W.region ?_
    refine RL.opD (by decide) (opv_fieldAddr rfl Try.fo28_0 rfl) ?_
    refine RL.opD (by decide) (opv_loadB rfl Try.one22 rfl (Sep.at (o := boxO bb2 [v3, v4, v5]) S_19 9 rfl) rfl) ?_
    refine RL.opD (by decide) (opv_len rfl Try.underlying22 rfl (ownO.read (Sep.at (o := ownO (kF .f32) 25 v3 x3.1) S_19 10 rfl))) ?_
    refine RL.opD (by decide) (opv_move rfl rfl) ?_
    refine RL.nil ?_
    refine thnN ?_
    obtain ⟨y5, hy5, hp⟩ := Option.bind_eq_some_iff.1 hp
    refine W.cut (fun φ' h' => ∃ x20, ∃ x21, ∃ x22, y5 = .inl (x20, x21, x22) ∧ Fr.sub [(0, u0), (1, u1), (22, (.bool x1)), (5, (.pointer (some ⟨bb1, 0, none⟩))), (6, (.pointer (some ⟨bb2, 0, none⟩))), (7, (.int .i64 (IntKind.wrap .i64 (1 + x4)))), (8, (.pointer (some ⟨bb3, 0, none⟩))), (9, (.bool x5.2.2.2)), (10, (.pointer (some ⟨bb4, 0, none⟩))), (11, (.int .i64 x6.2.2.2.1)), (12, (.bool x6.2.2.2.2)), (13, v12), (14, (.bool x7.2)), (67, (.bool x8)), (69, (.int .i64 (x7.1.length : Int))), (15, (.int .i64 x12)), (70, (.int .i64 x13)), (71, (.bool x14)), (17, (.int .i64 (IntKind.wrap .i64 (Int.tdiv (IntKind.wrap .i64 ((IntKind.wrap .i64 (x2.1 + (IntKind.wrap .i64 (1 + x4)))) - 1)) (IntKind.wrap .i64 (1 + x4)))))), (104, (.bool x17)), (107, (.int .i64 (x3.1.length : Int))), (4, (.bool x20)), (108, (.int .i64 x21)), (109, (.bool x22))] φ' ∧ hp15 = h') ?_ ?_
    ·refine W.block ?_
     refine W.loopS (fun (s : (Bool × Int)) φ' h' => Fr.sub [(0, u0), (1, u1), (22, (.bool x1)), (5, (.pointer (some ⟨bb1, 0, none⟩))), (6, (.pointer (some ⟨bb2, 0, none⟩))), (7, (.int .i64 (IntKind.wrap .i64 (1 + x4)))), (8, (.pointer (some ⟨bb3, 0, none⟩))), (9, (.bool x5.2.2.2)), (10, (.pointer (some ⟨bb4, 0, none⟩))), (11, (.int .i64 x6.2.2.2.1)), (12, (.bool x6.2.2.2.2)), (13, v12), (14, (.bool x7.2)), (67, (.bool x8)), (69, (.int .i64 (x7.1.length : Int))), (15, (.int .i64 x12)), (70, (.int .i64 x13)), (71, (.bool x14)), (17, (.int .i64 (IntKind.wrap .i64 (Int.tdiv (IntKind.wrap .i64 ((IntKind.wrap .i64 (x2.1 + (IntKind.wrap .i64 (1 + x4)))) - 1)) (IntKind.wrap .i64 (1 + x4)))))), (104, (.bool x17)), (107, (.int .i64 (x3.1.length : Int))), (4, (.bool s.1)), (108, (.int .i64 s.2))] φ' ∧ hp15 = h') hy5 ⟨⟨rfl, rfl, rfl, rfl, rfl, rfl, rfl, rfl, rfl, rfl, rfl, rfl, rfl, rfl, rfl, rfl, rfl, rfl, rfl, rfl, rfl, rfl, rfl, trivial⟩, rfl⟩ ?_
     rintro ⟨x18, x19⟩ φ' _ o2 ⟨hs6, rfl⟩ ho2 hy2
     have hs6 : Fr.sub [(0, u0), (1, u1), (22, (.bool x1)), (5, (.pointer (some ⟨bb1, 0, none⟩))), (6, (.pointer (some ⟨bb2, 0, none⟩))), (7, (.int .i64 (IntKind.wrap .i64 (1 + x4)))), (8, (.pointer (some ⟨bb3, 0, none⟩))), (9, (.bool x5.2.2.2)), (10, (.pointer (some ⟨bb4, 0, none⟩))), (11, (.int .i64 x6.2.2.2.1)), (12, (.bool x6.2.2.2.2)), (13, v12), (14, (.bool x7.2)), (67, (.bool x8)), (69, (.int .i64 (x7.1.length : Int))), (15, (.int .i64 x12)), (70, (.int .i64 x13)), (71, (.bool x14)), (17, (.int .i64 (IntKind.wrap .i64 (Int.tdiv (IntKind.wrap .i64 ((IntKind.wrap .i64 (x2.1 + (IntKind.wrap .i64 (1 + x4)))) - 1)) (IntKind.wrap .i64 (1 + x4)))))), (104, (.bool x17)), (107, (.int .i64 (x3.1.length : Int))), (4, (.bool x18)), (108, (.int .i64 x19))] φ' := hs6
     have ho2 : laws_FnAwake.s1 x2 x3 x4 x6 x7 x18 x19 = some o2 := ho2
     unfold laws_FnAwake.s1 at ho2
     refine W.sub hs6 ?_
     refine W.seq ?_
     refine W.region ?_
     refine RL.opD (by decide) (opv_icmp rfl rfl rfl rfl) ?_
     refine RL.nil ?_
     refine thnN ?_
     refine W.seq ?_
     by_cases c12 : (decide (x19 < (x3.1.length : Int))) = true
     ·rw [if_pos c12] at ho2
      refine W.condT rfl c12 ?_
      refine W.skip ?_
      refine thnN ?_
      refine W.seq ?_
      refine W.block ?_
      refine W.seq ?_
      refine W.region ?_
      refine RL.opD (by decide) (opv_move rfl rfl) ?_
      refine RL.opD (by decide) (opv_assign rfl rfl) ?_
      refine RL.nil ?_
      refine thnN ?_
      refine W.seq ?_
      by_cases nc13 : x2.1 = 0
      ·rw [if_pos nc13] at ho2; cases ho2
      rw [if_neg nc13] at ho2
      have c13 : x2.1 ≠ 0 := nc13
      by_cases nc14 : IntKind.wrap .i64 (1 + x4) = 0
      ·rw [if_pos nc14] at ho2; cases ho2
      rw [if_neg nc14] at ho2
      have c14 : IntKind.wrap .i64 (1 + x4) ≠ 0 := nc14
      by_cases nc15 : x2.1 = 0
      ·rw [if_pos nc15] at ho2; cases ho2
      rw [if_neg nc15] at ho2
      have c15 : x2.1 ≠ 0 := nc15
      by_cases nc16 : IntKind.wrap .i64 (1 + x4) = 0
      ·rw [if_pos nc16] at ho2; cases ho2
      rw [if_neg nc16] at ho2
      have c16 : IntKind.wrap .i64 (1 + x4) ≠ 0 := nc16
      refine W.sub (ψ := [(0, u0), (1, u1), (22, (.bool x1)), (5, (.pointer (some ⟨bb1, 0, none⟩))), (6, (.pointer (some ⟨bb2, 0, none⟩))), (7, (.int .i64 (IntKind.wrap .i64 (1 + x4)))), (8, (.pointer (some ⟨bb3, 0, none⟩))), (9, (.bool x5.2.2.2)), (10, (.pointer (some ⟨bb4, 0, none⟩))), (11, (.int .i64 x6.2.2.2.1)), (12, (.bool x6.2.2.2.2)), (13, v12), (14, (.bool x7.2)), (67, (.bool x8)), (69, (.int .i64 (x7.1.length : Int))), (15, (.int .i64 x12)), (70, (.int .i64 x13)), (71, (.bool x14)), (17, (.int .i64 (IntKind.wrap .i64 (Int.tdiv (IntKind.wrap .i64 ((IntKind.wrap .i64 (x2.1 + (IntKind.wrap .i64 (1 + x4)))) - 1)) (IntKind.wrap .i64 (1 + x4)))))), (104, (.bool x17)), (107, (.int .i64 (x3.1.length : Int))), (4, (.bool x18)), (108, (.int .i64 x19)), (109, (.bool (decide (x19 < (x3.1.length : Int))))), (18, (.int .i64 x19))]) ⟨rfl, rfl, rfl, rfl, rfl, rfl, rfl, rfl, rfl, rfl, rfl, rfl, rfl, rfl, rfl, rfl, rfl, rfl, rfl, rfl, rfl, rfl, rfl, rfl, rfl, trivial⟩ ?_
      refine W.regionP [fun v _ => @Eq Value (.int .i64 x19) v, fun v _ => @Eq Value (.pointer (some ⟨bb1, 0, none⟩)) v, fun v _ => @Eq Value (.int .i64 x2.1) v, fun v _ => @Eq Value (.int .i64 (Int.tmod x19 x2.1)) v, fun v _ => @Eq Value (.int .i64 (IntKind.wrap .i64 (1 + x4))) v, fun v _ => @Eq Value (.int .i64 (IntKind.wrap .i64 (Int.tdiv (Int.tmod x19 x2.1) (IntKind.wrap .i64 (1 + x4))))) v, fun v _ => @Eq Value (.int .i64 (IntKind.wrap .i64 (Int.tdiv (IntKind.wrap .i64 ((IntKind.wrap .i64 (x2.1 + (IntKind.wrap .i64 (1 + x4)))) - 1)) (IntKind.wrap .i64 (1 + x4))))) v, fun v _ => @Eq Value (.int .i64 x19) v, fun v _ => @Eq Value (.pointer (some ⟨bb1, 0, none⟩)) v, fun v _ => @Eq Value (.int .i64 x2.1) v, fun v _ => @Eq Value (.int .i64 (IntKind.wrap .i64 (Int.tdiv x19 x2.1))) v, fun v _ => @Eq Value (.int .i64 (IntKind.wrap .i64 (1 + x4))) v, fun v _ => @Eq Value (.int .i64 (IntKind.wrap .i64 (Int.tdiv (IntKind.wrap .i64 (Int.tdiv x19 x2.1)) (IntKind.wrap .i64 (1 + x4))))) v, fun v _ => @Eq Value (.int .i64 (IntKind.wrap .i64 ((IntKind.wrap .i64 (Int.tdiv (IntKind.wrap .i64 ((IntKind.wrap .i64 (x2.1 + (IntKind.wrap .i64 (1 + x4)))) - 1)) (IntKind.wrap .i64 (1 + x4)))) * (IntKind.wrap .i64 (Int.tdiv (IntKind.wrap .i64 (Int.tdiv x19 x2.1)) (IntKind.wrap .i64 (1 + x4))))))) v, fun v _ => @Eq Value (.int .i64 (IntKind.wrap .i64 ((IntKind.wrap .i64 (Int.tdiv (Int.tmod x19 x2.1) (IntKind.wrap .i64 (1 + x4)))) + (IntKind.wrap .i64 ((IntKind.wrap .i64 (Int.tdiv (IntKind.wrap .i64 ((IntKind.wrap .i64 (x2.1 + (IntKind.wrap .i64 (1 + x4)))) - 1)) (IntKind.wrap .i64 (1 + x4)))) * (IntKind.wrap .i64 (Int.tdiv (IntKind.wrap .i64 (Int.tdiv x19 x2.1)) (IntKind.wrap .i64 (1 + x4))))))))) v, fun v _ => @Eq Value (.int .i64 (IntKind.wrap .i64 ((IntKind.wrap .i64 (Int.tdiv (Int.tmod x19 x2.1) (IntKind.wrap .i64 (1 + x4)))) + (IntKind.wrap .i64 ((IntKind.wrap .i64 (Int.tdiv (IntKind.wrap .i64 ((IntKind.wrap .i64 (x2.1 + (IntKind.wrap .i64 (1 + x4)))) - 1)) (IntKind.wrap .i64 (1 + x4)))) * (IntKind.wrap .i64 (Int.tdiv (IntKind.wrap .i64 (Int.tdiv x19 x2.1)) (IntKind.wrap .i64 (1 + x4))))))))) v] [[], [], [1], [0, 2], [], [3, 4], [], [], [], [8], [7, 9], [], [10, 11], [6, 12], [5, 13], [14]] [15] Try.mixed (by decide +kernel) (by decide +kernel) rfl rfl rfl ?_ ?_
      ·refine ⟨⟨rfl, ?_⟩, ⟨rfl, ?_⟩, ⟨rfl, ?_⟩, ⟨rfl, ?_⟩, ⟨rfl, ?_⟩, ⟨rfl, ?_⟩, ⟨rfl, ?_⟩, ⟨rfl, ?_⟩, ⟨rfl, ?_⟩, ⟨rfl, ?_⟩, ⟨rfl, ?_⟩, ⟨rfl, ?_⟩, ⟨rfl, ?_⟩, ⟨rfl, ?_⟩, ⟨rfl, ?_⟩, ⟨rfl, ?_⟩, trivial⟩
       ·rintro _ rfl
        refine Dep.nil ?_
        refine GuardOK.none rfl ?_
        exact OpV.toD (opv_move rfl rfl) rfl
       ·rintro _ rfl
        refine Dep.nil ?_
        refine GuardOK.none rfl ?_
        exact OpV.toD (opv_fieldAddr rfl Try.fo31_0 rfl) rfl
       ·rintro _ rfl _ rfl
        refine Dep.nil ?_
        refine GuardOK.none rfl ?_
        exact OpV.toD (opv_loadB rfl Try.one2 rfl (Sep.at (o := boxO bb1 [(.int .i64 x2.1), (.int .i64 x2.2.1), (.bool x2.2.2.1), v1, v2]) S_19 13 rfl) rfl) rfl
       ·rintro _ rfl _ rfl _ rfl
        refine Dep.nil ?_
        refine GuardOK.none rfl ?_
        exact OpV.toD (opv_rem rfl c13 rfl rfl) rfl
       ·rintro _ rfl
        refine Dep.nil ?_
        refine GuardOK.none rfl ?_
        exact OpV.toD (opv_move rfl rfl) rfl
       ·rintro _ rfl _ rfl _ rfl
        refine Dep.nil ?_
        refine GuardOK.none rfl ?_
        exact OpV.toD (opv_quo rfl c14 rfl rfl) rfl
       ·rintro _ rfl
        refine Dep.nil ?_
        refine GuardOK.none rfl ?_
        exact OpV.toD (opv_move rfl rfl) rfl
       ·rintro _ rfl
        refine Dep.nil ?_
        refine GuardOK.none rfl ?_
        exact OpV.toD (opv_move rfl rfl) rfl
       ·rintro _ rfl
        refine Dep.nil ?_
        refine GuardOK.none rfl ?_
        exact OpV.toD (opv_fieldAddr rfl Try.fo31_0 rfl) rfl
       ·rintro _ rfl _ rfl
        refine Dep.nil ?_
        refine GuardOK.none rfl ?_
        exact OpV.toD (opv_loadB rfl Try.one2 rfl (Sep.at (o := boxO bb1 [(.int .i64 x2.1), (.int .i64 x2.2.1), (.bool x2.2.2.1), v1, v2]) S_19 13 rfl) rfl) rfl
       ·rintro _ rfl _ rfl _ rfl
        refine Dep.nil ?_
        refine GuardOK.none rfl ?_
        exact OpV.toD (opv_quo rfl c15 rfl rfl) rfl
       ·rintro _ rfl
        refine Dep.nil ?_
        refine GuardOK.none rfl ?_
        exact OpV.toD (opv_move rfl rfl) rfl
       ·rintro _ rfl _ rfl _ rfl
        refine Dep.nil ?_
        refine GuardOK.none rfl ?_
        exact OpV.toD (opv_quo rfl c16 rfl rfl) rfl
       ·rintro _ rfl _ rfl _ rfl
        refine Dep.nil ?_
        refine GuardOK.none rfl ?_
        exact OpV.toD (opv_mul rfl rfl rfl) rfl
       ·rintro _ rfl _ rfl _ rfl
        refine Dep.nil ?_
        refine GuardOK.none rfl ?_
        exact OpV.toD (opv_add rfl rfl rfl) rfl
       ·rintro _ rfl _ rfl
        refine Dep.nil ?_
        refine GuardOK.none rfl ?_
        exact OpV.toD (opv_assign rfl rfl) rfl
      rintro _ rfl
      refine Dep.nil ?_
      show RL _ _ _ _ [] _ _
      refine RL.nil ?_
      refine thnN ?_
      refine W.seq ?_
      obtain ⟨x23, hy6, ho2⟩ := Option.bind_eq_some_iff.1 ho2
      refine W.cut (fun φ' h' => Fr.sub [(0, u0), (1, u1), (22, (.bool x1)), (5, (.pointer (some ⟨bb1, 0, none⟩))), (6, (.pointer (some ⟨bb2, 0, none⟩))), (7, (.int .i64 (IntKind.wrap .i64 (1 + x4)))), (8, (.pointer (some ⟨bb3, 0, none⟩))), (9, (.bool x5.2.2.2)), (10, (.pointer (some ⟨bb4, 0, none⟩))), (11, (.int .i64 x6.2.2.2.1)), (12, (.bool x6.2.2.2.2)), (13, v12), (14, (.bool x7.2)), (67, (.bool x8)), (69, (.int .i64 (x7.1.length : Int))), (15, (.int .i64 x12)), (70, (.int .i64 x13)), (71, (.bool x14)), (17, (.int .i64 (IntKind.wrap .i64 (Int.tdiv (IntKind.wrap .i64 ((IntKind.wrap .i64 (x2.1 + (IntKind.wrap .i64 (1 + x4)))) - 1)) (IntKind.wrap .i64 (1 + x4)))))), (104, (.bool x17)), (107, (.int .i64 (x3.1.length : Int))), (4, (.bool x18)), (108, (.int .i64 x19)), (109, (.bool (decide (x19 < (x3.1.length : Int))))), (18, (.int .i64 x19)), (19, (.int .i64 (IntKind.wrap .i64 ((IntKind.wrap .i64 (Int.tdiv (Int.tmod x19 x2.1) (IntKind.wrap .i64 (1 + x4)))) + (IntKind.wrap .i64 ((IntKind.wrap .i64 (Int.tdiv (IntKind.wrap .i64 ((IntKind.wrap .i64 (x2.1 + (IntKind.wrap .i64 (1 + x4)))) - 1)) (IntKind.wrap .i64 (1 + x4)))) * (IntKind.wrap .i64 (Int.tdiv (IntKind.wrap .i64 (Int.tdiv x19 x2.1)) (IntKind.wrap .i64 (1 + x4)))))))))), (156, (.bool x23))] φ' ∧ hp15 = h') ?_ ?_
      ·obtain ⟨x24, hx24, hy6⟩ := Option.bind_eq_some_iff.1 hy6
       by_cases c17 : x24 = true
       ·rw [if_pos c17] at hy6
        obtain ⟨x25, hx25, hy6⟩ := Option.bind_eq_some_iff.1 hy6
        obtain ⟨x26, hx26, hy6⟩ := Option.bind_eq_some_iff.1 hy6
        by_cases c18 : (!x26) = true
        ·rw [if_pos c18] at hy6
         refine W.region ?_
         refine RL.opD (by decide) (opv_move rfl rfl) ?_
         refine RL.opD (by decide) (opv_move rfl rfl) ?_
         refine RL.op _ (by decide) (opv_index rfl Try.underlying40 (by rw [Try.size4]; rfl) rfl rfl (ownO.read (Sep.at (o := ownO kB 4 v12 x7.1) S_19 0 rfl)) hx24) ?_
         rintro v14 _ ⟨fv14, rfl⟩
         refine RL.opD (by decide) (opv_loadBl rfl Try.one4 rfl fv14 (ownO.read (Sep.at (o := ownO kB 4 v12 x7.1) S_19 0 rfl)) hx24) ?_
         refine RL.opD (by decide) (opv_move rfl rfl) ?_
         refine RL.yesD rfl rfl c17 (by decide) (opv_fieldAddr rfl Try.fo28_0 rfl) ?_
         refine RL.yesD rfl rfl c17 (by decide) (opv_loadB rfl Try.one22 rfl (Sep.at (o := boxO bb4 [v9, v10, v11]) S_19 1 rfl) rfl) ?_
         refine RL.yesD rfl rfl c17 (by decide) (opv_move rfl rfl) ?_
         refine RL.yes _ rfl rfl c17 (by decide) (opv_index rfl Try.underlying22 (by rw [Try.size25]; rfl) rfl rfl (ownO.read (Sep.at (o := ownO (kF .f32) 25 v9 x6.1) S_19 2 rfl)) hx25) ?_
         rintro v15 _ ⟨fv15, rfl⟩
         refine RL.yes _ rfl rfl c17 (by decide) (opv_loadF rfl Try.one25 rfl fv15 (ownO.read (Sep.at (o := ownO (kF .f32) 25 v9 x6.1) S_19 2 rfl)) hx25) ?_
         rintro v16 _ ⟨fv16, rfl⟩
         refine RL.yes _ rfl rfl c17 (by decide) (opv_call (cap := []) (spec_SameNumber_ok _ _ _ fv16 _ _ (isF_lit .f32 0 (by decide) (by decide)) _ hx26) rfl rfl ⟨rfl, rfl, trivial⟩ Try.func63 rfl rfl) ?_
         rintro _ _ ⟨rfl, rfl⟩
         refine RL.yesD rfl rfl c17 (by decide) (opv_not rfl rfl) ?_
         refine RL.yesD rfl rfl c17 (by decide) (opv_move rfl rfl) ?_
         refine RL.noT rfl rfl c18 (by decide) ?_
         refine RL.noT rfl rfl c18 (by decide) ?_
         refine RL.noT rfl rfl c18 (by decide) ?_
         refine RL.noT rfl rfl c18 (by decide) ?_
         refine RL.noT rfl rfl c18 (by decide) ?_
         refine RL.noT rfl rfl c18 (by decide) ?_
         refine RL.noT rfl rfl c18 (by decide) ?_
         refine RL.yesD rfl rfl c17 (by decide) (opv_pick rfl rfl (fun _ => rfl) (fun e => absurd (Eq.trans (Eq.symm e) c18) (by decide)) rfl) ?_
         refine RL.yesD rfl rfl c17 (by decide) (opv_move rfl rfl) ?_
         refine RL.noT rfl rfl rfl (by decide) ?_
         refine RL.noT rfl rfl rfl (by decide) ?_
         refine RL.noT rfl rfl rfl (by decide) ?_
         refine RL.noT rfl rfl rfl (by decide) ?_
         refine RL.noT rfl rfl rfl (by decide) ?_
         refine RL.noT rfl rfl rfl (by decide) ?_
         refine RL.noT rfl rfl rfl (by decide) ?_
         refine RL.yesD rfl rfl c17 (by decide) (opv_pick rfl rfl (fun _ => rfl) (fun e => absurd (Eq.trans (Eq.symm e) rfl) (by decide)) rfl) ?_
         refine RL.opD (by decide) (opv_pick rfl rfl (fun _ => rfl) (fun e => absurd (Eq.trans (Eq.symm e) c17) (by decide)) rfl) ?_
         refine RL.nil ?_
         have ey6 := Option.some.inj hy6
         subst ey6
         refine onlyN ?_
         exact ⟨⟨rfl, rfl, rfl, rfl, rfl, rfl, rfl, rfl, rfl, rfl, rfl, rfl, rfl, rfl, rfl, rfl, rfl, rfl, rfl, rfl, rfl, rfl, rfl, rfl, rfl, rfl, rfl, trivial⟩, rfl⟩
        ·rw [if_neg c18] at hy6
         have c18 := eq_false_of_ne_true c18
         obtain ⟨x27, hx27, hy6⟩ := Option.bind_eq_some_iff.1 hy6
         obtain ⟨x28, hx28, hy6⟩ := Option.bind_eq_some_iff.1 hy6
         by_cases c19 : (!x28) = true
         ·rw [if_pos c19] at hy6
          refine W.region ?_
          refine RL.opD (by decide) (opv_move rfl rfl) ?_
          refine RL.opD (by decide) (opv_move rfl rfl) ?_
          refine RL.op _ (by decide) (opv_index rfl Try.underlying40 (by rw [Try.size4]; rfl) rfl rfl (ownO.read (Sep.at (o := ownO kB 4 v12 x7.1) S_19 0 rfl)) hx24) ?_
          rintro v14 _ ⟨fv14, rfl⟩
          refine RL.opD (by decide) (opv_loadBl rfl Try.one4 rfl fv14 (ownO.read (Sep.at (o := ownO kB 4 v12 x7.1) S_19 0 rfl)) hx24) ?_
          refine RL.opD (by decide) (opv_move rfl rfl) ?_
          refine RL.yesD rfl rfl c17 (by decide) (opv_fieldAddr rfl Try.fo28_0 rfl) ?_
          refine RL.yesD rfl rfl c17 (by decide) (opv_loadB rfl Try.one22 rfl (Sep.at (o := boxO bb4 [v9, v10, v11]) S_19 1 rfl) rfl) ?_
          refine RL.yesD rfl rfl c17 (by decide) (opv_move rfl rfl) ?_
          refine RL.yes _ rfl rfl c17 (by decide) (opv_index rfl Try.underlying22 (by rw [Try.size25]; rfl) rfl rfl (ownO.read (Sep.at (o := ownO (kF .f32) 25 v9 x6.1) S_19 2 rfl)) hx25) ?_
          rintro v15 _ ⟨fv15, rfl⟩
          refine RL.yes _ rfl rfl c17 (by decide) (opv_loadF rfl Try.one25 rfl fv15 (ownO.read (Sep.at (o := ownO (kF .f32) 25 v9 x6.1) S_19 2 rfl)) hx25) ?_
          rintro v16 _ ⟨fv16, rfl⟩
          refine RL.yes _ rfl rfl c17 (by decide) (opv_call (cap := []) (spec_SameNumber_ok _ _ _ fv16 _ _ (isF_lit .f32 0 (by decide) (by decide)) _ hx26) rfl rfl ⟨rfl, rfl, trivial⟩ Try.func63 rfl rfl) ?_
          rintro _ _ ⟨rfl, rfl⟩
          refine RL.yesD rfl rfl c17 (by decide) (opv_not rfl rfl) ?_
          refine RL.yesD rfl rfl c17 (by decide) (opv_move rfl rfl) ?_
          refine RL.yesD rfl rfl c18 (by decide) (opv_fieldAddr rfl Try.fo28_1 rfl) ?_
          refine RL.yesD rfl rfl c18 (by decide) (opv_loadB rfl Try.one22 rfl (Sep.at (o := boxO bb4 [v9, v10, v11]) S_19 1 rfl) rfl) ?_
          refine RL.yesD rfl rfl c18 (by decide) (opv_move rfl rfl) ?_
          refine RL.yes _ rfl rfl c18 (by decide) (opv_index rfl Try.underlying22 (by rw [Try.size25]; rfl) rfl rfl (ownO.read (Sep.at (o := ownO (kF .f32) 25 v10 x6.2.1) S_19 3 rfl)) hx27) ?_
          rintro v17 _ ⟨fv17, rfl⟩
          refine RL.yes _ rfl rfl c18 (by decide) (opv_loadF rfl Try.one25 rfl fv17 (ownO.read (Sep.at (o := ownO (kF .f32) 25 v10 x6.2.1) S_19 3 rfl)) hx27) ?_
          rintro v18 _ ⟨fv18, rfl⟩
          refine RL.yes _ rfl rfl c18 (by decide) (opv_call (cap := []) (spec_SameNumber_ok _ _ _ fv18 _ _ (isF_lit .f32 0 (by decide) (by decide)) _ hx28) rfl rfl ⟨rfl, rfl, trivial⟩ Try.func63 rfl rfl) ?_
          rintro _ _ ⟨rfl, rfl⟩
          refine RL.yesD rfl rfl c18 (by decide) (opv_not rfl rfl) ?_
          refine RL.yesD rfl rfl c17 (by decide) (opv_pick rfl rfl (fun e => absurd (Eq.trans (Eq.symm e) c18) (by decide)) (fun _ => rfl) rfl) ?_
          refine RL.yesD rfl rfl c17 (by decide) (opv_move rfl rfl) ?_
          refine RL.noT rfl rfl c19 (by decide) ?_
          refine RL.noT rfl rfl c19 (by decide) ?_
          refine RL.noT rfl rfl c19 (by decide) ?_
          refine RL.noT rfl rfl c19 (by decide) ?_
          refine RL.noT rfl rfl c19 (by decide) ?_
          refine RL.noT rfl rfl c19 (by decide) ?_
          refine RL.noT rfl rfl c19 (by decide) ?_
          refine RL.yesD rfl rfl c17 (by decide) (opv_pick rfl rfl (fun _ => rfl) (fun e => absurd (Eq.trans (Eq.symm e) c19) (by decide)) rfl) ?_
          refine RL.opD (by decide) (opv_pick rfl rfl (fun _ => rfl) (fun e => absurd (Eq.trans (Eq.symm e) c17) (by decide)) rfl) ?_
          refine RL.nil ?_
          have ey6 := Option.some.inj hy6
          subst ey6
          refine onlyN ?_
          exact ⟨⟨rfl, rfl, rfl, rfl, rfl, rfl, rfl, rfl, rfl, rfl, rfl, rfl, rfl, rfl, rfl, rfl, rfl, rfl, rfl, rfl, rfl, rfl, rfl, rfl, rfl, rfl, rfl, trivial⟩, rfl⟩
         ·rw [if_neg c19] at hy6
          have c19 := eq_false_of_ne_true c19
          obtain ⟨x29, hx29, hy6⟩ := Option.bind_eq_some_iff.1 hy6
          obtain ⟨x30, hx30, hy6⟩ := Option.bind_eq_some_iff.1 hy6
          refine W.region ?_
          refine RL.opD (by decide) (opv_move rfl rfl) ?_
          refine RL.opD (by decide) (opv_move rfl rfl) ?_
          refine RL.op _ (by decide) (opv_index rfl Try.underlying40 (by rw [Try.size4]; rfl) rfl rfl (ownO.read (Sep.at (o := ownO kB 4 v12 x7.1) S_19 0 rfl)) hx24) ?_
          rintro v14 _ ⟨fv14, rfl⟩
          refine RL.opD (by decide) (opv_loadBl rfl Try.one4 rfl fv14 (ownO.read (Sep.at (o := ownO kB 4 v12 x7.1) S_19 0 rfl)) hx24) ?_
          refine RL.opD (by decide) (opv_move rfl rfl) ?_
          refine RL.yesD rfl rfl c17 (by decide) (opv_fieldAddr rfl Try.fo28_0 rfl) ?_
          refine RL.yesD rfl rfl c17 (by decide) (opv_loadB rfl Try.one22 rfl (Sep.at (o := boxO bb4 [v9, v10, v11]) S_19 1 rfl) rfl) ?_
          refine RL.yesD rfl rfl c17 (by decide) (opv_move rfl rfl) ?_
          refine RL.yes _ rfl rfl c17 (by decide) (opv_index rfl Try.underlying22 (by rw [Try.size25]; rfl) rfl rfl (ownO.read (Sep.at (o := ownO (kF .f32) 25 v9 x6.1) S_19 2 rfl)) hx25) ?_
          rintro v15 _ ⟨fv15, rfl⟩
          refine RL.yes _ rfl rfl c17 (by decide) (opv_loadF rfl Try.one25 rfl fv15 (ownO.read (Sep.at (o := ownO (kF .f32) 25 v9 x6.1) S_19 2 rfl)) hx25) ?_
          rintro v16 _ ⟨fv16, rfl⟩
          refine RL.yes _ rfl rfl c17 (by decide) (opv_call (cap := []) (spec_SameNumber_ok _ _ _ fv16 _ _ (isF_lit .f32 0 (by decide) (by decide)) _ hx26) rfl rfl ⟨rfl, rfl, trivial⟩ Try.func63 rfl rfl) ?_
          rintro _ _ ⟨rfl, rfl⟩
          refine RL.yesD rfl rfl c17 (by decide) (opv_not rfl rfl) ?_
          refine RL.yesD rfl rfl c17 (by decide) (opv_move rfl rfl) ?_
          refine RL.yesD rfl rfl c18 (by decide) (opv_fieldAddr rfl Try.fo28_1 rfl) ?_
          refine RL.yesD rfl rfl c18 (by decide) (opv_loadB rfl Try.one22 rfl (Sep.at (o := boxO bb4 [v9, v10, v11]) S_19 1 rfl) rfl) ?_
          refine RL.yesD rfl rfl c18 (by decide) (opv_move rfl rfl) ?_
          refine RL.yes _ rfl rfl c18 (by decide) (opv_index rfl Try.underlying22 (by rw [Try.size25]; rfl) rfl rfl (ownO.read (Sep.at (o := ownO (kF .f32) 25 v10 x6.2.1) S_19 3 rfl)) hx27) ?_
          rintro v17 _ ⟨fv17, rfl⟩
          refine RL.yes _ rfl rfl c18 (by decide) (opv_loadF rfl Try.one25 rfl fv17 (ownO.read (Sep.at (o := ownO (kF .f32) 25 v10 x6.2.1) S_19 3 rfl)) hx27) ?_
          rintro v18 _ ⟨fv18, rfl⟩
          refine RL.yes _ rfl rfl c18 (by decide) (opv_call (cap := []) (spec_SameNumber_ok _ _ _ fv18 _ _ (isF_lit .f32 0 (by decide) (by decide)) _ hx28) rfl rfl ⟨rfl, rfl, trivial⟩ Try.func63 rfl rfl) ?_
          rintro _ _ ⟨rfl, rfl⟩
          refine RL.yesD rfl rfl c18 (by decide) (opv_not rfl rfl) ?_
          refine RL.yesD rfl rfl c17 (by decide) (opv_pick rfl rfl (fun e => absurd (Eq.trans (Eq.symm e) c18) (by decide)) (fun _ => rfl) rfl) ?_
          refine RL.yesD rfl rfl c17 (by decide) (opv_move rfl rfl) ?_
          refine RL.yesD rfl rfl c19 (by decide) (opv_fieldAddr rfl Try.fo28_2 rfl) ?_
          refine RL.yesD rfl rfl c19 (by decide) (opv_loadB rfl Try.one22 rfl (Sep.at (o := boxO bb4 [v9, v10, v11]) S_19 1 rfl) rfl) ?_
          refine RL.yesD rfl rfl c19 (by decide) (opv_move rfl rfl) ?_
          refine RL.yes _ rfl rfl c19 (by decide) (opv_index rfl Try.underlying22 (by rw [Try.size25]; rfl) rfl rfl (ownO.read (Sep.at (o := ownO (kF .f32) 25 v11 x6.2.2.1) S_19 4 rfl)) hx29) ?_
          rintro v19 _ ⟨fv19, rfl⟩
          refine RL.yes _ rfl rfl c19 (by decide) (opv_loadF rfl Try.one25 rfl fv19 (ownO.read (Sep.at (o := ownO (kF .f32) 25 v11 x6.2.2.1) S_19 4 rfl)) hx29) ?_
          rintro v20 _ ⟨fv20, rfl⟩
          refine RL.yes _ rfl rfl c19 (by decide) (opv_call (cap := []) (spec_SameNumber_ok _ _ _ fv20 _ _ (isF_lit .f32 0 (by decide) (by decide)) _ hx30) rfl rfl ⟨rfl, rfl, trivial⟩ Try.func63 rfl rfl) ?_
          rintro _ _ ⟨rfl, rfl⟩
          refine RL.yesD rfl rfl c19 (by decide) (opv_not rfl rfl) ?_
          refine RL.yesD rfl rfl c17 (by decide) (opv_pick rfl rfl (fun e => absurd (Eq.trans (Eq.symm e) c19) (by decide)) (fun _ => rfl) rfl) ?_
          refine RL.opD (by decide) (opv_pick rfl rfl (fun _ => rfl) (fun e => absurd (Eq.trans (Eq.symm e) c17) (by decide)) rfl) ?_
          refine RL.nil ?_
          have ey6 := Option.some.inj hy6
          subst ey6
          refine onlyN ?_
          exact ⟨⟨rfl, rfl, rfl, rfl, rfl, rfl, rfl, rfl, rfl, rfl, rfl, rfl, rfl, rfl, rfl, rfl, rfl, rfl, rfl, rfl, rfl, rfl, rfl, rfl, rfl, rfl, rfl, trivial⟩, rfl⟩
       ·rw [if_neg c17] at hy6
        have c17 := eq_false_of_ne_true c17
        refine W.region ?_
        refine RL.opD (by decide) (opv_move rfl rfl) ?_
        refine RL.opD (by decide) (opv_move rfl rfl) ?_
        refine RL.op _ (by decide) (opv_index rfl Try.underlying40 (by rw [Try.size4]; rfl) rfl rfl (ownO.read (Sep.at (o := ownO kB 4 v12 x7.1) S_19 0 rfl)) hx24) ?_
        rintro v14 _ ⟨fv14, rfl⟩
        refine RL.opD (by decide) (opv_loadBl rfl Try.one4 rfl fv14 (ownO.read (Sep.at (o := ownO kB 4 v12 x7.1) S_19 0 rfl)) hx24) ?_
        refine RL.opD (by decide) (opv_move rfl rfl) ?_
        refine RL.noF rfl rfl c17 (by decide) ?_
        refine RL.noF rfl rfl c17 (by decide) ?_
        refine RL.noF rfl rfl c17 (by decide) ?_
        refine RL.noF rfl rfl c17 (by decide) ?_
        refine RL.noF rfl rfl c17 (by decide) ?_
        refine RL.noF rfl rfl c17 (by decide) ?_
        refine RL.noF rfl rfl c17 (by decide) ?_
        refine RL.noF rfl rfl c17 (by decide) ?_
        refine RL.noU rfl rfl (by decide) ?_
        refine RL.noU rfl rfl (by decide) ?_
        refine RL.noU rfl rfl (by decide) ?_
        refine RL.noU rfl rfl (by decide) ?_
        refine RL.noU rfl rfl (by decide) ?_
        refine RL.noU rfl rfl (by decide) ?_
        refine RL.noU rfl rfl (by decide) ?_
        refine RL.noF rfl rfl c17 (by decide) ?_
        refine RL.noF rfl rfl c17 (by decide) ?_
        refine RL.noU rfl rfl (by decide) ?_
        refine RL.noU rfl rfl (by decide) ?_
        refine RL.noU rfl rfl (by decide) ?_
        refine RL.noU rfl rfl (by decide) ?_
        refine RL.noU rfl rfl (by decide) ?_
        refine RL.noU rfl rfl (by decide) ?_
        refine RL.noU rfl rfl (by decide) ?_
        refine RL.noF rfl rfl c17 (by decide) ?_
        refine RL.opD (by decide) (opv_pick rfl rfl (fun e => absurd (Eq.trans (Eq.symm e) c17) (by decide)) (fun _ => rfl) rfl) ?_
        refine RL.nil ?_
        have ey6 := Option.some.inj hy6
        subst ey6
        refine onlyN ?_
        exact ⟨⟨rfl, rfl, rfl, rfl, rfl, rfl, rfl, rfl, rfl, rfl, rfl, rfl, rfl, rfl, rfl, rfl, rfl, rfl, rfl, rfl, rfl, rfl, rfl, rfl, rfl, rfl, rfl, trivial⟩, rfl⟩
      rintro φ' _ ⟨hs8, rfl⟩
      refine thnN ?_
      refine W.sub hs8 ?_
      by_cases c20 : x23 = true
      ·rw [if_pos c20] at ho2
       refine W.condT rfl c20 ?_
       refine W.seq ?_
       refine W.region ?_
       refine RL.opD (by decide) (opv_assign rfl rfl) ?_
       refine RL.nil ?_
       refine thnN ?_
       refine W.ret ?_
       refine blkR ?_
       refine thnR ?_
       have eo2 := Option.some.inj ho2
       subst eo2
       have ey5 := hy2 _ rfl
       subst ey5
       try dsimp only at hp
       refine rndR ?_
       refine blkR ?_
       refine onlyR ?_
       refine thnR ?_
       have er := Option.some.inj hp
       subst er
       exact Rt.one rfl rfl ⟨rfl, X_15, (Sep.nil _ _ _)⟩
      ·rw [if_neg c20] at ho2
       have c20 := eq_false_of_ne_true c20
       refine W.condF rfl c20 ?_
       refine W.skip ?_
       refine blkN ?_
       refine thnN ?_
       refine W.region ?_
       refine RL.opD (by decide) (opv_add rfl rfl rfl) ?_
       refine RL.opD (by decide) (opv_move rfl rfl) ?_
       refine RL.nil ?_
       have eo2 := Option.some.inj ho2
       subst eo2
       refine rndN (s' := (x18, IntKind.wrap .i64 (x19 + 1))) rfl ?_
       exact ⟨⟨rfl, rfl, rfl, rfl, rfl, rfl, rfl, rfl, rfl, rfl, rfl, rfl, rfl, rfl, rfl, rfl, rfl, rfl, rfl, rfl, rfl, rfl, rfl, trivial⟩, rfl⟩
     ·rw [if_neg c12] at ho2
      have c12 := eq_false_of_ne_true c12
      refine W.condF rfl c12 ?_
      refine W.exit ?_
      refine thnX ?_
      refine rndX ?_
      refine blkI ?_
      have eo2 := Option.some.inj ho2
      subst eo2
      have ey5 := hy2 _ rfl
      subst ey5
      refine onlyN ?_
      exact ⟨x18, x19, decide (x19 < (x3.1.length : Int)), rfl, ⟨rfl, rfl, rfl, rfl, rfl, rfl, rfl, rfl, rfl, rfl, rfl, rfl, rfl, rfl, rfl, rfl, rfl, rfl, rfl, rfl, rfl, rfl, rfl, rfl, trivial⟩, rfl⟩
    rintro φ' _ ⟨x20, x21, x22, rfl, hs7, rfl⟩
    try dsimp only at hp
    refine thnN ?_
    refine W.sub hs7 ?_
    refine W.seq ?_
    refine W.region ?_
    refine RL.opD (by decide) (opv_assign rfl rfl) ?_
    refine RL.nil ?_
    refine thnN ?_
    refine W.ret ?_
    have er := Option.some.inj hp
    subst er
    exact Rt.one rfl rfl ⟨rfl, X_15, (Sep.nil _ _ _)⟩

end Go.H
