/- Functions of the program: what each computes, as a plain function, and that the call comes to it. Written by a program (wip/gen). -/
import Derived.Test.YthccgmjanoeohaaGSleep
import Derived.Test.YthccgmjanoeohaaGStep1
import Derived.Test.YthccgmjanoeohaaGStep2
import Derived.Test.YthccgmjanoeohaaGBase
import Derived.Test.YthccgmjanoeohaaGCopy
import Derived.Test.YthccgmjanoeohaaGSheet
import Derived.Test.YthccgmjanoeohaaGField
import Derived.Test.YthccgmjanoeohaaBase22
import Derived.Test.YthccgmjanoeohaaProg
import Derived.KernelRfl
set_option linter.unusedVariables false
namespace Go.H
open Go Go.Proofs



noncomputable def spec_StepAwake.s0 (x4 : List (Bool)) (x5 : Int) (x6 : Int) : Option ((Int × Int) ⊕ (Int × Int × Bool)) :=
 (if (decide (x6 < (x4.length : Int))) = true then ((idx x4 x6).bind fun (x10 : Bool) => (((if (!x10) = true then some (IntKind.wrap .i64 (x5 + 1)) else some x5) : Option Int).bind fun (x11 : Int) => some (.inl (x11, IntKind.wrap .i64 (x6 + 1))))) else some (.inr (x5, x6, decide (x6 < (x4.length : Int)))))

noncomputable def spec_StepAwake (a0_0 : Int) (a0_1 : Int) (a0_2 : Bool) (a0_3 : List (Option Nat)) (a0_4 : List (Option Nat)) (a1_0 : List (Option Nat)) (a1_1 : List (Option Nat)) (a1_2 : List (Option Nat)) (a2 : Int) : Option ((List (Option Nat)) × (List (Option Nat)) × (List (Option Nat)) × Int × Bool) :=
 ((((spec_l03Both a0_0 a0_1 a0_2 a0_3 a0_4 a1_0 a1_1 a1_2).bind fun (x2 : Bool) => (if (!x2) = true then some true else ((spec_l00In a2 1 16).bind fun (x3 : Bool) => some (!x3)))) : Option Bool).bind fun (x1 : Bool) => (if x1 = true then some (([] : List (Option Nat)), ([] : List (Option Nat)), ([] : List (Option Nat)), 0, false) else ((spec_l07Sleep a0_0 a0_1 a0_2 a0_3 a0_4 a1_0 a1_1 a1_2 a2).bind fun (x4 : List (Bool)) => ((loopF (fun (s : (Int × Int)) => spec_StepAwake.s0 x4 s.1 s.2) (0, 0)).bind fun (⟨x7, x8, x9⟩ : (Int × Int × Bool)) => ((spec_l03Step a0_0 a0_1 a0_2 a0_3 a0_4 a1_0 a1_1 a1_2).bind fun (x12 : ((List (Option Nat)) × (List (Option Nat)) × (List (Option Nat)))) => some (x12.1, x12.2.1, x12.2.2, x7, true))))))

noncomputable def impl_StepAwake.s0 (x1 : ((List (Bool)) × Bool)) (x2 : Int) (x3 : Int) : Option ((Int × Int) ⊕ (Int × Int × Bool)) :=
 (if (decide (x3 < (x1.1.length : Int))) = true then ((idx x1.1 x3).bind fun (x7 : Bool) => (((if (!x7) = true then some (IntKind.wrap .i64 (x2 + 1)) else some x2) : Option Int).bind fun (x8 : Int) => some (.inl (x8, IntKind.wrap .i64 (x3 + 1))))) else some (.inr (x2, x3, decide (x3 < (x1.1.length : Int)))))

noncomputable def impl_StepAwake (a0_0 : Int) (a0_1 : Int) (a0_2 : Bool) (a0_3 : List (Option Nat)) (a0_4 : List (Option Nat)) (a1_0 : List (Option Nat)) (a1_1 : List (Option Nat)) (a1_2 : List (Option Nat)) (a2 : Int) : Option ((List (Option Nat)) × (List (Option Nat)) × (List (Option Nat)) × Int × Bool) :=
 ((impl_SleepingBlocks a0_0 a0_1 a0_2 a0_3 a0_4 a1_0 a1_1 a1_2 a2).bind fun (x1 : ((List (Bool)) × Bool)) => (if (!x1.2) = true then some (([] : List (Option Nat)), ([] : List (Option Nat)), ([] : List (Option Nat)), 0, false) else ((loopF (fun (s : (Int × Int)) => impl_StepAwake.s0 x1 s.1 s.2) (0, 0)).bind fun (⟨x4, x5, x6⟩ : (Int × Int × Bool)) => ((impl_stepped a0_0 a0_1 a0_2 a0_3 a0_4 a1_0 a1_1 a1_2).bind fun (x9 : ((List (Option Nat)) × (List (Option Nat)) × (List (Option Nat)))) => some (x9.1, x9.2.1, x9.2.2, x4, true)))))

noncomputable def laws_FnExactStepAwake (a0_0 : Int) (a0_1 : Int) (a0_2 : Bool) (a0_3 : List (Option Nat)) (a0_4 : List (Option Nat)) (a1_0 : List (Option Nat)) (a1_1 : List (Option Nat)) (a1_2 : List (Option Nat)) (a2 : Int) : Option Bool :=
 ((laws_szSheet a0_0 a0_1 a0_2 a0_3 a0_4 1048576).bind fun (x1 : Int) => (if (decide (x1 < 0)) = true then some true else ((laws_szField a1_0 a1_1 a1_2 x1).bind fun (x2 : Int) => (if (decide (x2 < 0)) = true then some true else ((laws_toSheet a0_0 a0_1 a0_2 a0_3 a0_4).bind fun (x3 : (Int × Int × Bool × (List (Option Nat)) × (List (Option Nat)))) => ((laws_toField a1_0 a1_1 a1_2).bind fun (x4 : ((List (Option Nat)) × (List (Option Nat)) × (List (Option Nat)))) => ((spec_StepAwake x3.1 x3.2.1 x3.2.2.1 x3.2.2.2.1 x3.2.2.2.2 x4.1 x4.2.1 x4.2.2 a2).bind fun (x5 : ((List (Option Nat)) × (List (Option Nat)) × (List (Option Nat)) × Int × Bool)) => ((laws_toSheet a0_0 a0_1 a0_2 a0_3 a0_4).bind fun (x6 : (Int × Int × Bool × (List (Option Nat)) × (List (Option Nat)))) => ((laws_toField a1_0 a1_1 a1_2).bind fun (x7 : ((List (Option Nat)) × (List (Option Nat)) × (List (Option Nat)))) => ((impl_StepAwake x6.1 x6.2.1 x6.2.2.1 x6.2.2.2.1 x6.2.2.2.2 x7.1 x7.2.1 x7.2.2 a2).bind fun (x8 : ((List (Option Nat)) × (List (Option Nat)) × (List (Option Nat)) × Int × Bool)) => ((((laws_eqField x8.1 x8.2.1 x8.2.2.1 x5.1 x5.2.1 x5.2.2.1).bind fun (x10 : Bool) => (if (!x10) = true then some true else (if (x8.2.2.2.1 != x5.2.2.2.1) = true then some true else some (x8.2.2.2.2 != x5.2.2.2.2)))) : Option Bool).bind fun (x9 : Bool) => (if x9 = true then some false else ((laws_toSheet a0_0 a0_1 a0_2 a0_3 a0_4).bind fun (x11 : (Int × Int × Bool × (List (Option Nat)) × (List (Option Nat)))) => ((laws_eqSheet x6.1 x6.2.1 x6.2.2.1 x6.2.2.2.1 x6.2.2.2.2 x11.1 x11.2.1 x11.2.2.1 x11.2.2.2.1 x11.2.2.2.2).bind fun (x12 : Bool) => (if (!x12) = true then some false else ((laws_toField a1_0 a1_1 a1_2).bind fun (x13 : ((List (Option Nat)) × (List (Option Nat)) × (List (Option Nat)))) => ((laws_eqField x7.1 x7.2.1 x7.2.2 x13.1 x13.2.1 x13.2.2).bind fun (x14 : Bool) => (if (!x14) = true then some false else ((laws_markSheet x6.1 x6.2.1 x6.2.2.1 x6.2.2.2.1 x6.2.2.2.2 1).bind fun (x15 : (Int × (List (Option Nat)) × (List (Option Nat)))) => ((laws_markField x7.1 x7.2.1 x7.2.2 x15.1).bind fun (x16 : (Int × (List (Option Nat)) × (List (Option Nat)) × (List (Option Nat)))) => (((if (decide (x16.1 < 0)) = true then some true else ((laws_eqField x8.1 x8.2.1 x8.2.2.1 x5.1 x5.2.1 x5.2.2.1).bind fun (x18 : Bool) => (if (!x18) = true then some true else (if (x8.2.2.2.1 != x5.2.2.2.1) = true then some true else some (x8.2.2.2.2 != x5.2.2.2.2))))) : Option Bool).bind fun (x17 : Bool) => (if x17 = true then some false else ((laws_markField x8.1 x8.2.1 x8.2.2.1 1).bind fun (x19 : (Int × (List (Option Nat)) × (List (Option Nat)) × (List (Option Nat)))) => ((laws_heldField x19.2.1 x19.2.2.1 x19.2.2.2 1).bind fun (x20 : Int) => (if (decide (x20 < 0)) = true then some false else (if (x20 != x19.1) = true then some false else ((laws_toSheet a0_0 a0_1 a0_2 a0_3 a0_4).bind fun (x21 : (Int × Int × Bool × (List (Option Nat)) × (List (Option Nat)))) => ((laws_toField a1_0 a1_1 a1_2).bind fun (x22 : ((List (Option Nat)) × (List (Option Nat)) × (List (Option Nat)))) => ((impl_StepAwake x21.1 x21.2.1 x21.2.2.1 x21.2.2.2.1 x21.2.2.2.2 x22.1 x22.2.1 x22.2.2 a2).bind fun (x23 : ((List (Option Nat)) × (List (Option Nat)) × (List (Option Nat)) × Int × Bool)) => ((((laws_eqField x23.1 x23.2.1 x23.2.2.1 x5.1 x5.2.1 x5.2.2.1).bind fun (x25 : Bool) => (if (!x25) = true then some true else (if (x23.2.2.2.1 != x5.2.2.2.1) = true then some true else some (x23.2.2.2.2 != x5.2.2.2.2)))) : Option Bool).bind fun (x24 : Bool) => (if x24 = true then some false else ((laws_heldField x19.2.1 x19.2.2.1 x19.2.2.2 1).bind fun (x26 : Int) => (if (decide (x26 < 0)) = true then some false else (if (x26 != x19.1) = true then some false else some true))))))))))))))))))))))))))))))))))

set_option maxRecDepth 20000 in
theorem spec_StepAwake_ok (h0 : Heap) (a0_0 : Int) (a0_1 : Int) (a0_2 : Bool) (u0_3 : Value) (a0_3 : List (Option Nat)) (g0_3 : SL (kF .f32) h0.size h0 u0_3 a0_3) (u0_4 : Value) (a0_4 : List (Option Nat)) (g0_4 : SL (kF .f32) h0.size h0 u0_4 a0_4) (u1_0 : Value) (a1_0 : List (Option Nat)) (g1_0 : SL (kF .f32) h0.size h0 u1_0 a1_0) (u1_1 : Value) (a1_1 : List (Option Nat)) (g1_1 : SL (kF .f32) h0.size h0 u1_1 a1_1) (u1_2 : Value) (a1_2 : List (Option Nat)) (g1_2 : SL (kF .f32) h0.size h0 u1_2 a1_2) (a2 : Int) (r : ((List (Option Nat)) × (List (Option Nat)) × (List (Option Nat)) × Int × Bool)) (hp : spec_StepAwake a0_0 a0_1 a0_2 a0_3 a0_4 a1_0 a1_1 a1_2 a2 = some r) : CallsH Try.prog 31 ([(.agg (List.toArray (α := Value) [(.int .i64 a0_0), (.int .i64 a0_1), (.bool a0_2), u0_3, u0_4])), (.agg (List.toArray (α := Value) [u1_0, u1_1, u1_2])), (.int .i64 a2)].toArray ++ [].toArray) h0 (fun v h' => ∃ w0, ∃ w1, ∃ w2, v = (.tuple (List.toArray (α := Value) [(.agg (List.toArray (α := Value) [w0, w1, w2])), (.int .i64 r.2.2.2.1), (.bool r.2.2.2.2)])) ∧ Mod [] h0 h' ∧ Sep [] h0.size h' [ownO (kF .f32) 25 w0 r.1, ownO (kF .f32) 25 w1 r.2.1, ownO (kF .f32) 25 w2 r.2.2.1]) := by
 unfold spec_StepAwake at hp
 refine callsH_of_W (l := [(.agg (List.toArray (α := Value) [(.int .i64 a0_0), (.int .i64 a0_1), (.bool a0_2), u0_3, u0_4])), (.agg (List.toArray (α := Value) [u1_0, u1_1, u1_2])), (.int .i64 a2)]) (cap := []) 37 Try.func31 rfl rfl rfl ?_
 refine W.seq ?_
 refine W.region ?_
 refine RL.op _ (by decide) (opS_boxed (opv_boxA (cs := [(.int .i64 a0_0), (.int .i64 a0_1), (.bool a0_2), u0_3, u0_4]) rfl rfl)) ?_
 rintro _ hp1 ⟨bb1, rfl, MT_1, T_1⟩
 obtain ⟨X_1, S_1⟩ := Sep.turn0 (Mod.refl [] h0) (Sep.nil [] h0.size h0) MT_1 T_1
 refine RL.op _ (by decide) (opS_boxed (opv_boxA (cs := [u1_0, u1_1, u1_2]) rfl rfl)) ?_
 rintro _ hp2 ⟨bb2, rfl, MT_2, T_2⟩
 obtain ⟨X_2, S_2⟩ := Sep.turn0 X_1 S_1 MT_2 T_2
 refine RL.op _ (by decide) (opS_boxed (opv_alloc (cs := [(.slice none 0 0), (.slice none 0 0), (.slice none 0 0)]) rfl Try.zero28 rfl)) ?_
 rintro _ hp3 ⟨bb3, rfl, MT_3, T_3⟩
 obtain ⟨X_3, S_3⟩ := Sep.turn0 X_2 S_2 MT_3 T_3
 refine RL.opD (by decide) (opv_assign rfl rfl) ?_
 refine RL.opD (by decide) (opv_assign rfl rfl) ?_
 refine RL.nil ?_
 refine thnN ?_
 refine W.seq ?_
 refine W.seq ?_
 obtain ⟨x1, hy1, hp⟩ := Option.bind_eq_some_iff.1 hp
 refine W.cut (fun φ' h' => Fr.sub [(0, (.agg (List.toArray (α := Value) [(.int .i64 a0_0), (.int .i64 a0_1), (.bool a0_2), u0_3, u0_4]))), (1, (.agg (List.toArray (α := Value) [u1_0, u1_1, u1_2]))), (2, (.int .i64 a2)), (3, (.pointer (some ⟨bb1, 0, none⟩))), (4, (.pointer (some ⟨bb2, 0, none⟩))), (6, (.pointer (some ⟨bb3, 0, none⟩))), (7, (.int .i64 0)), (8, (.bool false)), (18, (.bool x1))] φ' ∧ hp3 = h') ?_ ?_
 ·obtain ⟨x2, hx2, hy1⟩ := Option.bind_eq_some_iff.1 hy1
  by_cases c1 : (!x2) = true
  ·rw [if_pos c1] at hy1
   refine W.region ?_
   refine RL.op _ (by decide) (opv_call (cap := []) (spec_l03Both_ok _ _ _ _ _ _ _ (SL.up (SL.mod g0_3 X_3 (Nat.le_refl _) nob) (Nat.le_trans (Nat.le_refl _) (Mod.size X_3))) _ _ (SL.up (SL.mod g0_4 X_3 (Nat.le_refl _) nob) (Nat.le_trans (Nat.le_refl _) (Mod.size X_3))) (Sep.at (o := boxO bb1 [(.int .i64 a0_0), (.int .i64 a0_1), (.bool a0_2), u0_3, u0_4]) S_3 2 rfl) _ _ _ (SL.up (SL.mod g1_0 X_3 (Nat.le_refl _) nob) (Nat.le_trans (Nat.le_refl _) (Mod.size X_3))) _ _ (SL.up (SL.mod g1_1 X_3 (Nat.le_refl _) nob) (Nat.le_trans (Nat.le_refl _) (Mod.size X_3))) _ _ (SL.up (SL.mod g1_2 X_3 (Nat.le_refl _) nob) (Nat.le_trans (Nat.le_refl _) (Mod.size X_3))) (Sep.at (o := boxO bb2 [u1_0, u1_1, u1_2]) S_3 1 rfl) _ hx2) rfl rfl ⟨rfl, rfl, trivial⟩ Try.func75 rfl rfl) ?_
   rintro _ _ ⟨rfl, rfl⟩
   refine RL.opD (by decide) (opv_not rfl rfl) ?_
   refine RL.opD (by decide) (opv_move rfl rfl) ?_
   refine RL.noT rfl rfl c1 (by decide) ?_
   refine RL.noT rfl rfl c1 (by decide) ?_
   refine RL.noT rfl rfl c1 (by decide) ?_
   refine RL.opD (by decide) (opv_pick rfl rfl (fun _ => rfl) (fun e => absurd (Eq.trans (Eq.symm e) c1) (by decide)) rfl) ?_
   refine RL.nil ?_
   have ey1 := Option.some.inj hy1
   subst ey1
   refine onlyN ?_
   exact ⟨⟨rfl, rfl, rfl, rfl, rfl, rfl, rfl, rfl, rfl, trivial⟩, rfl⟩
  ·rw [if_neg c1] at hy1
   have c1 := eq_false_of_ne_true c1
   obtain ⟨x3, hx3, hy1⟩ := Option.bind_eq_some_iff.1 hy1
   refine W.region ?_
   refine RL.op _ (by decide) (opv_call (cap := []) (spec_l03Both_ok _ _ _ _ _ _ _ (SL.up (SL.mod g0_3 X_3 (Nat.le_refl _) nob) (Nat.le_trans (Nat.le_refl _) (Mod.size X_3))) _ _ (SL.up (SL.mod g0_4 X_3 (Nat.le_refl _) nob) (Nat.le_trans (Nat.le_refl _) (Mod.size X_3))) (Sep.at (o := boxO bb1 [(.int .i64 a0_0), (.int .i64 a0_1), (.bool a0_2), u0_3, u0_4]) S_3 2 rfl) _ _ _ (SL.up (SL.mod g1_0 X_3 (Nat.le_refl _) nob) (Nat.le_trans (Nat.le_refl _) (Mod.size X_3))) _ _ (SL.up (SL.mod g1_1 X_3 (Nat.le_refl _) nob) (Nat.le_trans (Nat.le_refl _) (Mod.size X_3))) _ _ (SL.up (SL.mod g1_2 X_3 (Nat.le_refl _) nob) (Nat.le_trans (Nat.le_refl _) (Mod.size X_3))) (Sep.at (o := boxO bb2 [u1_0, u1_1, u1_2]) S_3 1 rfl) _ hx2) rfl rfl ⟨rfl, rfl, trivial⟩ Try.func75 rfl rfl) ?_
   rintro _ _ ⟨rfl, rfl⟩
   refine RL.opD (by decide) (opv_not rfl rfl) ?_
   refine RL.opD (by decide) (opv_move rfl rfl) ?_
   refine RL.yesD rfl rfl c1 (by decide) (opv_move rfl rfl) ?_
   refine RL.yes _ rfl rfl c1 (by decide) (opv_call (cap := []) (spec_l00In_ok _ _ _ _ _ hx3) rfl rfl ⟨rfl, rfl, rfl, trivial⟩ Try.func76 rfl rfl) ?_
   rintro _ _ ⟨rfl, rfl⟩
   refine RL.yesD rfl rfl c1 (by decide) (opv_not rfl rfl) ?_
   refine RL.opD (by decide) (opv_pick rfl rfl (fun e => absurd (Eq.trans (Eq.symm e) c1) (by decide)) (fun _ => rfl) rfl) ?_
   refine RL.nil ?_
   have ey1 := Option.some.inj hy1
   subst ey1
   refine onlyN ?_
   exact ⟨⟨rfl, rfl, rfl, rfl, rfl, rfl, rfl, rfl, rfl, trivial⟩, rfl⟩
 rintro φ' _ ⟨hs1, rfl⟩
 refine thnN ?_
 refine W.sub hs1 ?_
 by_cases c2 : x1 = true
 ·rw [if_pos c2] at hp
  refine W.condT rfl c2 ?_
  refine W.seq ?_
  refine W.region ?_
  refine RL.opD (by decide) (opv_build (cs := [(.slice none 0 0), (.slice none 0 0), (.slice none 0 0)]) [] [] rfl Try.bd28 trivial rfl) ?_
  refine RL.op0 _ (opS_stored (cs := [(.slice none 0 0), (.slice none 0 0), (.slice none 0 0)]) (cs' := [(.slice none 0 0), (.slice none 0 0), (.slice none 0 0)]) (opv_storeA (us := [(.slice none 0 0), (.slice none 0 0), (.slice none 0 0)]) rfl Try.size28 rfl rfl (oneAll rfl (oneAll rfl (oneAll rfl rfl))) (Sep.at (o := boxO bb3 [(.slice none 0 0), (.slice none 0 0), (.slice none 0 0)]) S_3 0 rfl) rfl rfl) (Sep.at (o := boxO bb3 [(.slice none 0 0), (.slice none 0 0), (.slice none 0 0)]) S_3 0 rfl)) ?_
  rintro _ hp4 ⟨rfl, MT_4, T_4⟩
  have S_4 : Sep [] h0.size hp3 ([boxO bb3 [(.slice none 0 0), (.slice none 0 0), (.slice none 0 0)]] ++ [boxO bb2 [u1_0, u1_1, u1_2], boxO bb1 [(.int .i64 a0_0), (.int .i64 a0_1), (.bool a0_2), u0_3, u0_4]]) := Sep.sel S_3 [0, 1, 2] (by decide)
  obtain ⟨X_4, S_5⟩ := Sep.turn X_3 S_4 MT_4 T_4
  refine RL.opD (by decide) (opv_assign rfl rfl) ?_
  refine RL.opD (by decide) (opv_assign rfl rfl) ?_
  refine RL.nil ?_
  refine thnN ?_
  refine W.ret ?_
  refine thnR ?_
  have S_6 : Sep [] h0.size hp4 [ownO (kF .f32) 25 (.slice none 0 0) ([] : List (Option Nat)), boxO bb3 [(.slice none 0 0), (.slice none 0 0), (.slice none 0 0)], boxO bb2 [u1_0, u1_1, u1_2], boxO bb1 [(.int .i64 a0_0), (.int .i64 a0_1), (.bool a0_2), u0_3, u0_4]] := Sep.addNil S_5
  have S_7 : Sep [] h0.size hp4 [ownO (kF .f32) 25 (.slice none 0 0) ([] : List (Option Nat)), ownO (kF .f32) 25 (.slice none 0 0) ([] : List (Option Nat)), boxO bb3 [(.slice none 0 0), (.slice none 0 0), (.slice none 0 0)], boxO bb2 [u1_0, u1_1, u1_2], boxO bb1 [(.int .i64 a0_0), (.int .i64 a0_1), (.bool a0_2), u0_3, u0_4]] := Sep.addNil S_6
  have S_8 : Sep [] h0.size hp4 [ownO (kF .f32) 25 (.slice none 0 0) ([] : List (Option Nat)), ownO (kF .f32) 25 (.slice none 0 0) ([] : List (Option Nat)), ownO (kF .f32) 25 (.slice none 0 0) ([] : List (Option Nat)), boxO bb3 [(.slice none 0 0), (.slice none 0 0), (.slice none 0 0)], boxO bb2 [u1_0, u1_1, u1_2], boxO bb1 [(.int .i64 a0_0), (.int .i64 a0_1), (.bool a0_2), u0_3, u0_4]] := Sep.addNil S_7
  have er := Option.some.inj hp
  subst er
  exact Rt.cellB rfl rfl rfl rfl Try.agg28 Try.size28 (Sep.at (o := boxO bb3 [(.slice none 0 0), (.slice none 0 0), (.slice none 0 0)]) S_8 3 rfl) rfl ⟨(.slice none 0 0), (.slice none 0 0), (.slice none 0 0), rfl, X_4, (Sep.sel S_8 [2, 1, 0] (by decide))⟩
 ·rw [if_neg c2] at hp
  have c2 := eq_false_of_ne_true c2
  refine W.condF rfl c2 ?_
  refine W.skip ?_
  refine thnN ?_
  refine W.seq ?_
  obtain ⟨x4, hx4, hp⟩ := Option.bind_eq_some_iff.1 hp
  refine W.region ?_
  refine RL.opD (by decide) (opv_move rfl rfl) ?_
  refine RL.op _ (by decide) (opv_call (cap := []) (spec_l07Sleep_ok _ _ _ _ _ _ _ (SL.up (SL.mod g0_3 X_3 (Nat.le_refl _) nob) (Nat.le_trans (Nat.le_refl _) (Mod.size X_3))) _ _ (SL.up (SL.mod g0_4 X_3 (Nat.le_refl _) nob) (Nat.le_trans (Nat.le_refl _) (Mod.size X_3))) (Sep.at (o := boxO bb1 [(.int .i64 a0_0), (.int .i64 a0_1), (.bool a0_2), u0_3, u0_4]) S_3 2 rfl) _ _ _ (SL.up (SL.mod g1_0 X_3 (Nat.le_refl _) nob) (Nat.le_trans (Nat.le_refl _) (Mod.size X_3))) _ _ (SL.up (SL.mod g1_1 X_3 (Nat.le_refl _) nob) (Nat.le_trans (Nat.le_refl _) (Mod.size X_3))) _ _ (SL.up (SL.mod g1_2 X_3 (Nat.le_refl _) nob) (Nat.le_trans (Nat.le_refl _) (Mod.size X_3))) (Sep.at (o := boxO bb2 [u1_0, u1_1, u1_2]) S_3 1 rfl) _ _ hx4) rfl rfl ⟨rfl, rfl, rfl, trivial⟩ Try.func77 rfl rfl) ?_
  rintro v1 hp5 ⟨MT_5, T_5⟩
  obtain ⟨X_5, S_9⟩ := Sep.turn0 X_3 S_3 MT_5 T_5
  refine RL.opD (by decide) (opv_assign rfl rfl) ?_
  refine RL.nil ?_
  refine thnN ?_
  refine W.seq ?_
  refine W.region ?_
  refine RL.opD (by decide) (opv_assign rfl rfl) ?_
  refine RL.nil ?_
  refine thnN ?_
  refine W.seq ?_
  refine W.seq ?_
  refine W.region ?_
  refine RL.opD (by decide) (opv_move rfl rfl) ?_
  refine RL.opD (by decide) (opv_len rfl Try.underlying40 rfl (ownO.read (Sep.at (o := ownO kB 4 v1 x4) S_9 0 rfl))) ?_
  refine RL.opD (by decide) (opv_move rfl rfl) ?_
  refine RL.nil ?_
  refine thnN ?_
  obtain ⟨y2, hy2, hp⟩ := Option.bind_eq_some_iff.1 hp
  refine W.cut (fun φ' h' => ∃ x7, ∃ x8, ∃ x9, y2 = (x7, x8, x9) ∧ Fr.sub [(0, (.agg (List.toArray (α := Value) [(.int .i64 a0_0), (.int .i64 a0_1), (.bool a0_2), u0_3, u0_4]))), (1, (.agg (List.toArray (α := Value) [u1_0, u1_1, u1_2]))), (2, (.int .i64 a2)), (3, (.pointer (some ⟨bb1, 0, none⟩))), (4, (.pointer (some ⟨bb2, 0, none⟩))), (6, (.pointer (some ⟨bb3, 0, none⟩))), (7, (.int .i64 0)), (8, (.bool false)), (18, (.bool x1)), (9, v1), (23, (.int .i64 (x4.length : Int))), (10, (.int .i64 x7)), (24, (.int .i64 x8)), (25, (.bool x9))] φ' ∧ hp5 = h') ?_ ?_
  ·refine W.block ?_
   refine W.loopS (fun (s : (Int × Int)) φ' h' => Fr.sub [(0, (.agg (List.toArray (α := Value) [(.int .i64 a0_0), (.int .i64 a0_1), (.bool a0_2), u0_3, u0_4]))), (1, (.agg (List.toArray (α := Value) [u1_0, u1_1, u1_2]))), (2, (.int .i64 a2)), (3, (.pointer (some ⟨bb1, 0, none⟩))), (4, (.pointer (some ⟨bb2, 0, none⟩))), (6, (.pointer (some ⟨bb3, 0, none⟩))), (7, (.int .i64 0)), (8, (.bool false)), (18, (.bool x1)), (9, v1), (23, (.int .i64 (x4.length : Int))), (10, (.int .i64 s.1)), (24, (.int .i64 s.2))] φ' ∧ hp5 = h') hy2 ⟨⟨rfl, rfl, rfl, rfl, rfl, rfl, rfl, rfl, rfl, rfl, rfl, rfl, rfl, trivial⟩, rfl⟩ ?_
   rintro ⟨x5, x6⟩ φ' _ o1 ⟨hs2, rfl⟩ ho1 hy1
   have hs2 : Fr.sub [(0, (.agg (List.toArray (α := Value) [(.int .i64 a0_0), (.int .i64 a0_1), (.bool a0_2), u0_3, u0_4]))), (1, (.agg (List.toArray (α := Value) [u1_0, u1_1, u1_2]))), (2, (.int .i64 a2)), (3, (.pointer (some ⟨bb1, 0, none⟩))), (4, (.pointer (some ⟨bb2, 0, none⟩))), (6, (.pointer (some ⟨bb3, 0, none⟩))), (7, (.int .i64 0)), (8, (.bool false)), (18, (.bool x1)), (9, v1), (23, (.int .i64 (x4.length : Int))), (10, (.int .i64 x5)), (24, (.int .i64 x6))] φ' := hs2
   have ho1 : spec_StepAwake.s0 x4 x5 x6 = some o1 := ho1
   unfold spec_StepAwake.s0 at ho1
   refine W.sub hs2 ?_
   refine W.seq ?_
   refine W.region ?_
   refine RL.opD (by decide) (opv_icmp rfl rfl rfl rfl) ?_
   refine RL.nil ?_
   refine thnN ?_
   refine W.seq ?_
   by_cases c3 : (decide (x6 < (x4.length : Int))) = true
   ·rw [if_pos c3] at ho1
    refine W.condT rfl c3 ?_
    refine W.skip ?_
    refine thnN ?_
    refine W.seq ?_
    refine W.block ?_
    refine W.seq ?_
    refine W.region ?_
    refine RL.opD (by decide) (opv_move rfl rfl) ?_
    refine RL.opD (by decide) (opv_assign rfl rfl) ?_
    refine RL.nil ?_
    refine thnN ?_
    refine W.seq ?_
    obtain ⟨x10, hx10, ho1⟩ := Option.bind_eq_some_iff.1 ho1
    refine W.region ?_
    refine RL.opD (by decide) (opv_move rfl rfl) ?_
    refine RL.opD (by decide) (opv_move rfl rfl) ?_
    refine RL.op _ (by decide) (opv_index rfl Try.underlying40 (by rw [Try.size4]; rfl) rfl rfl (ownO.read (Sep.at (o := ownO kB 4 v1 x4) S_9 0 rfl)) hx10) ?_
    rintro v2 _ ⟨fv2, rfl⟩
    refine RL.opD (by decide) (opv_loadBl rfl Try.one4 rfl fv2 (ownO.read (Sep.at (o := ownO kB 4 v1 x4) S_9 0 rfl)) hx10) ?_
    refine RL.opD (by decide) (opv_not rfl rfl) ?_
    refine RL.nil ?_
    refine thnN ?_
    obtain ⟨x11, hy3, ho1⟩ := Option.bind_eq_some_iff.1 ho1
    refine W.cut (fun φ' h' => Fr.sub [(0, (.agg (List.toArray (α := Value) [(.int .i64 a0_0), (.int .i64 a0_1), (.bool a0_2), u0_3, u0_4]))), (1, (.agg (List.toArray (α := Value) [u1_0, u1_1, u1_2]))), (2, (.int .i64 a2)), (3, (.pointer (some ⟨bb1, 0, none⟩))), (4, (.pointer (some ⟨bb2, 0, none⟩))), (6, (.pointer (some ⟨bb3, 0, none⟩))), (7, (.int .i64 0)), (8, (.bool false)), (18, (.bool x1)), (9, v1), (23, (.int .i64 (x4.length : Int))), (24, (.int .i64 x6)), (25, (.bool (decide (x6 < (x4.length : Int))))), (11, (.int .i64 x6)), (31, (.bool (!x10))), (10, (.int .i64 x11))] φ' ∧ hp5 = h') ?_ ?_
    ·by_cases c4 : (!x10) = true
     ·rw [if_pos c4] at hy3
      refine W.condT rfl c4 ?_
      refine W.region ?_
      refine RL.opD (by decide) (opv_move rfl rfl) ?_
      refine RL.opD (by decide) (opv_add rfl rfl rfl) ?_
      refine RL.opD (by decide) (opv_assign rfl rfl) ?_
      refine RL.nil ?_
      have ey3 := Option.some.inj hy3
      subst ey3
      refine onlyN ?_
      exact ⟨⟨rfl, rfl, rfl, rfl, rfl, rfl, rfl, rfl, rfl, rfl, rfl, rfl, rfl, rfl, rfl, rfl, trivial⟩, rfl⟩
     ·rw [if_neg c4] at hy3
      have c4 := eq_false_of_ne_true c4
      refine W.condF rfl c4 ?_
      refine W.skip ?_
      have ey3 := Option.some.inj hy3
      subst ey3
      refine onlyN ?_
      exact ⟨⟨rfl, rfl, rfl, rfl, rfl, rfl, rfl, rfl, rfl, rfl, rfl, rfl, rfl, rfl, rfl, rfl, trivial⟩, rfl⟩
    rintro φ' _ ⟨hs4, rfl⟩
    refine blkN ?_
    refine thnN ?_
    refine W.sub hs4 ?_
    refine W.region ?_
    refine RL.opD (by decide) (opv_add rfl rfl rfl) ?_
    refine RL.opD (by decide) (opv_move rfl rfl) ?_
    refine RL.nil ?_
    have eo1 := Option.some.inj ho1
    subst eo1
    refine rndN (s' := (x11, IntKind.wrap .i64 (x6 + 1))) rfl ?_
    exact ⟨⟨rfl, rfl, rfl, rfl, rfl, rfl, rfl, rfl, rfl, rfl, rfl, rfl, rfl, trivial⟩, rfl⟩
   ·rw [if_neg c3] at ho1
    have c3 := eq_false_of_ne_true c3
    refine W.condF rfl c3 ?_
    refine W.exit ?_
    refine thnX ?_
    refine rndX ?_
    refine blkI ?_
    have eo1 := Option.some.inj ho1
    subst eo1
    have ey2 := hy1 _ rfl
    subst ey2
    refine onlyN ?_
    exact ⟨x5, x6, decide (x6 < (x4.length : Int)), rfl, ⟨rfl, rfl, rfl, rfl, rfl, rfl, rfl, rfl, rfl, rfl, rfl, rfl, rfl, rfl, trivial⟩, rfl⟩
  rintro φ' _ ⟨x7, x8, x9, rfl, hs3, rfl⟩
  try dsimp only at hp
  refine thnN ?_
  refine W.sub hs3 ?_
  refine W.seq ?_
  obtain ⟨x12, hx12, hp⟩ := Option.bind_eq_some_iff.1 hp
  refine W.region ?_
  refine RL.op _ (by decide) (opv_call (cap := []) (spec_l03Step_ok _ _ _ _ _ _ _ (SL.up (SL.mod g0_3 X_5 (Nat.le_refl _) nob) (Nat.le_trans (Nat.le_refl _) (Mod.size X_5))) _ _ (SL.up (SL.mod g0_4 X_5 (Nat.le_refl _) nob) (Nat.le_trans (Nat.le_refl _) (Mod.size X_5))) (Sep.at (o := boxO bb1 [(.int .i64 a0_0), (.int .i64 a0_1), (.bool a0_2), u0_3, u0_4]) S_9 3 rfl) _ _ _ (SL.up (SL.mod g1_0 X_5 (Nat.le_refl _) nob) (Nat.le_trans (Nat.le_refl _) (Mod.size X_5))) _ _ (SL.up (SL.mod g1_1 X_5 (Nat.le_refl _) nob) (Nat.le_trans (Nat.le_refl _) (Mod.size X_5))) _ _ (SL.up (SL.mod g1_2 X_5 (Nat.le_refl _) nob) (Nat.le_trans (Nat.le_refl _) (Mod.size X_5))) (Sep.at (o := boxO bb2 [u1_0, u1_1, u1_2]) S_9 2 rfl) _ hx12) rfl rfl ⟨rfl, rfl, trivial⟩ Try.func83 rfl rfl) ?_
  rintro _ hp6 ⟨v3, v4, v5, rfl, MT_6, T_6⟩
  obtain ⟨X_6, S_10⟩ := Sep.turn0 X_5 S_9 MT_6 T_6
  refine RL.opD (by decide) (opv_move rfl rfl) ?_
  refine RL.op0 _ (opS_stored (cs := [(.slice none 0 0), (.slice none 0 0), (.slice none 0 0)]) (cs' := [v3, v4, v5]) (opv_storeA (us := [v3, v4, v5]) rfl Try.size28 rfl rfl (oneAll (ownO.one (Sep.at (o := ownO (kF .f32) 25 v3 x12.1) S_10 0 rfl)) (oneAll (ownO.one (Sep.at (o := ownO (kF .f32) 25 v4 x12.2.1) S_10 1 rfl)) (oneAll (ownO.one (Sep.at (o := ownO (kF .f32) 25 v5 x12.2.2) S_10 2 rfl)) rfl))) (Sep.at (o := boxO bb3 [(.slice none 0 0), (.slice none 0 0), (.slice none 0 0)]) S_10 4 rfl) rfl rfl) (Sep.at (o := boxO bb3 [(.slice none 0 0), (.slice none 0 0), (.slice none 0 0)]) S_10 4 rfl)) ?_
  rintro _ hp7 ⟨rfl, MT_7, T_7⟩
  have S_11 : Sep [] h0.size hp6 ([boxO bb3 [(.slice none 0 0), (.slice none 0 0), (.slice none 0 0)]] ++ [ownO (kF .f32) 25 v3 x12.1, ownO (kF .f32) 25 v4 x12.2.1, ownO (kF .f32) 25 v5 x12.2.2, ownO kB 4 v1 x4, boxO bb2 [u1_0, u1_1, u1_2], boxO bb1 [(.int .i64 a0_0), (.int .i64 a0_1), (.bool a0_2), u0_3, u0_4]]) := Sep.sel S_10 [4, 0, 1, 2, 3, 5, 6] (by decide)
  obtain ⟨X_7, S_12⟩ := Sep.turn X_6 S_11 MT_7 T_7
  refine RL.opD (by decide) (opv_assign rfl rfl) ?_
  refine RL.opD (by decide) (opv_assign rfl rfl) ?_
  refine RL.nil ?_
  refine thnN ?_
  refine W.ret ?_
  have er := Option.some.inj hp
  subst er
  exact Rt.cellB rfl rfl rfl rfl Try.agg28 Try.size28 (Sep.at (o := boxO bb3 [v3, v4, v5]) S_12 0 rfl) rfl ⟨v3, v4, v5, rfl, X_7, (Sep.sel S_12 [1, 2, 3] (by decide))⟩

set_option maxRecDepth 20000 in
theorem impl_StepAwake_ok (h0 : Heap) (a0_0 : Int) (a0_1 : Int) (a0_2 : Bool) (u0_3 : Value) (a0_3 : List (Option Nat)) (g0_3 : SL (kF .f32) h0.size h0 u0_3 a0_3) (u0_4 : Value) (a0_4 : List (Option Nat)) (g0_4 : SL (kF .f32) h0.size h0 u0_4 a0_4) (u1_0 : Value) (a1_0 : List (Option Nat)) (g1_0 : SL (kF .f32) h0.size h0 u1_0 a1_0) (u1_1 : Value) (a1_1 : List (Option Nat)) (g1_1 : SL (kF .f32) h0.size h0 u1_1 a1_1) (u1_2 : Value) (a1_2 : List (Option Nat)) (g1_2 : SL (kF .f32) h0.size h0 u1_2 a1_2) (a2 : Int) (r : ((List (Option Nat)) × (List (Option Nat)) × (List (Option Nat)) × Int × Bool)) (hp : impl_StepAwake a0_0 a0_1 a0_2 a0_3 a0_4 a1_0 a1_1 a1_2 a2 = some r) : CallsH Try.prog 32 ([(.agg (List.toArray (α := Value) [(.int .i64 a0_0), (.int .i64 a0_1), (.bool a0_2), u0_3, u0_4])), (.agg (List.toArray (α := Value) [u1_0, u1_1, u1_2])), (.int .i64 a2)].toArray ++ [].toArray) h0 (fun v h' => ∃ w0, ∃ w1, ∃ w2, v = (.tuple (List.toArray (α := Value) [(.agg (List.toArray (α := Value) [w0, w1, w2])), (.int .i64 r.2.2.2.1), (.bool r.2.2.2.2)])) ∧ Mod [] h0 h' ∧ Sep [] h0.size h' [ownO (kF .f32) 25 w0 r.1, ownO (kF .f32) 25 w1 r.2.1, ownO (kF .f32) 25 w2 r.2.2.1]) := by
 unfold impl_StepAwake at hp
 refine callsH_of_W (l := [(.agg (List.toArray (α := Value) [(.int .i64 a0_0), (.int .i64 a0_1), (.bool a0_2), u0_3, u0_4])), (.agg (List.toArray (α := Value) [u1_0, u1_1, u1_2])), (.int .i64 a2)]) (cap := []) 39 Try.func32 rfl rfl rfl ?_
 refine W.seq ?_
 refine W.region ?_
 refine RL.op _ (by decide) (opS_boxed (opv_boxA (cs := [(.int .i64 a0_0), (.int .i64 a0_1), (.bool a0_2), u0_3, u0_4]) rfl rfl)) ?_
 rintro _ hp1 ⟨bb1, rfl, MT_1, T_1⟩
 obtain ⟨X_1, S_1⟩ := Sep.turn0 (Mod.refl [] h0) (Sep.nil [] h0.size h0) MT_1 T_1
 refine RL.op _ (by decide) (opS_boxed (opv_boxA (cs := [u1_0, u1_1, u1_2]) rfl rfl)) ?_
 rintro _ hp2 ⟨bb2, rfl, MT_2, T_2⟩
 obtain ⟨X_2, S_2⟩ := Sep.turn0 X_1 S_1 MT_2 T_2
 refine RL.op _ (by decide) (opS_boxed (opv_alloc (cs := [(.slice none 0 0), (.slice none 0 0), (.slice none 0 0)]) rfl Try.zero28 rfl)) ?_
 rintro _ hp3 ⟨bb3, rfl, MT_3, T_3⟩
 obtain ⟨X_3, S_3⟩ := Sep.turn0 X_2 S_2 MT_3 T_3
 refine RL.opD (by decide) (opv_assign rfl rfl) ?_
 refine RL.opD (by decide) (opv_assign rfl rfl) ?_
 refine RL.nil ?_
 refine thnN ?_
 refine W.seq ?_
 obtain ⟨x1, hx1, hp⟩ := Option.bind_eq_some_iff.1 hp
 refine W.region ?_
 refine RL.opD (by decide) (opv_loadA (us := [(.int .i64 a0_0), (.int .i64 a0_1), (.bool a0_2), u0_3, u0_4]) rfl Try.agg31 Try.size31 rfl (Sep.at (o := boxO bb1 [(.int .i64 a0_0), (.int .i64 a0_1), (.bool a0_2), u0_3, u0_4]) S_3 2 rfl) rfl rfl) ?_
 refine RL.opD (by decide) (opv_loadA (us := [u1_0, u1_1, u1_2]) rfl Try.agg28 Try.size28 rfl (Sep.at (o := boxO bb2 [u1_0, u1_1, u1_2]) S_3 1 rfl) rfl rfl) ?_
 refine RL.opD (by decide) (opv_move rfl rfl) ?_
 refine RL.op _ (by decide) (opv_call (cap := []) (impl_SleepingBlocks_ok _ _ _ _ _ _ (SL.up (SL.mod g0_3 X_3 (Nat.le_refl _) nob) (Nat.le_trans (Nat.le_refl _) (Mod.size X_3))) _ _ (SL.up (SL.mod g0_4 X_3 (Nat.le_refl _) nob) (Nat.le_trans (Nat.le_refl _) (Mod.size X_3))) _ _ (SL.up (SL.mod g1_0 X_3 (Nat.le_refl _) nob) (Nat.le_trans (Nat.le_refl _) (Mod.size X_3))) _ _ (SL.up (SL.mod g1_1 X_3 (Nat.le_refl _) nob) (Nat.le_trans (Nat.le_refl _) (Mod.size X_3))) _ _ (SL.up (SL.mod g1_2 X_3 (Nat.le_refl _) nob) (Nat.le_trans (Nat.le_refl _) (Mod.size X_3))) _ _ hx1) rfl rfl ⟨rfl, rfl, rfl, trivial⟩ Try.func24 rfl rfl) ?_
 rintro _ hp4 ⟨v1, rfl, MT_4, T_4⟩
 obtain ⟨X_4, S_4⟩ := Sep.turn0 X_3 S_3 MT_4 T_4
 refine RL.opD (by decide) (opv_move rfl rfl) ?_
 refine RL.opD (by decide) (opv_extract rfl rfl rfl) ?_
 refine RL.opD (by decide) (opv_extract rfl rfl rfl) ?_
 refine RL.opD (by decide) (opv_assign rfl rfl) ?_
 refine RL.opD (by decide) (opv_assign rfl rfl) ?_
 refine RL.nil ?_
 refine thnN ?_
 refine W.seq ?_
 refine W.seq ?_
 refine W.region ?_
 refine RL.opD (by decide) (opv_move rfl rfl) ?_
 refine RL.opD (by decide) (opv_not rfl rfl) ?_
 refine RL.nil ?_
 refine thnN ?_
 by_cases c1 : (!x1.2) = true
 ·rw [if_pos c1] at hp
  refine W.condT rfl c1 ?_
  refine W.seq ?_
  refine W.region ?_
  refine RL.opD (by decide) (opv_build (cs := [(.slice none 0 0), (.slice none 0 0), (.slice none 0 0)]) [] [] rfl Try.bd28 trivial rfl) ?_
  refine RL.op0 _ (opS_stored (cs := [(.slice none 0 0), (.slice none 0 0), (.slice none 0 0)]) (cs' := [(.slice none 0 0), (.slice none 0 0), (.slice none 0 0)]) (opv_storeA (us := [(.slice none 0 0), (.slice none 0 0), (.slice none 0 0)]) rfl Try.size28 rfl rfl (oneAll rfl (oneAll rfl (oneAll rfl rfl))) (Sep.at (o := boxO bb3 [(.slice none 0 0), (.slice none 0 0), (.slice none 0 0)]) S_4 1 rfl) rfl rfl) (Sep.at (o := boxO bb3 [(.slice none 0 0), (.slice none 0 0), (.slice none 0 0)]) S_4 1 rfl)) ?_
  rintro _ hp5 ⟨rfl, MT_5, T_5⟩
  have S_5 : Sep [] h0.size hp4 ([boxO bb3 [(.slice none 0 0), (.slice none 0 0), (.slice none 0 0)]] ++ [ownO kB 4 v1 x1.1, boxO bb2 [u1_0, u1_1, u1_2], boxO bb1 [(.int .i64 a0_0), (.int .i64 a0_1), (.bool a0_2), u0_3, u0_4]]) := Sep.sel S_4 [1, 0, 2, 3] (by decide)
  obtain ⟨X_5, S_6⟩ := Sep.turn X_4 S_5 MT_5 T_5
  refine RL.opD (by decide) (opv_assign rfl rfl) ?_
  refine RL.opD (by decide) (opv_assign rfl rfl) ?_
  refine RL.nil ?_
  refine thnN ?_
  refine W.ret ?_
  refine thnR ?_
  have S_7 : Sep [] h0.size hp5 [ownO (kF .f32) 25 (.slice none 0 0) ([] : List (Option Nat)), boxO bb3 [(.slice none 0 0), (.slice none 0 0), (.slice none 0 0)], ownO kB 4 v1 x1.1, boxO bb2 [u1_0, u1_1, u1_2], boxO bb1 [(.int .i64 a0_0), (.int .i64 a0_1), (.bool a0_2), u0_3, u0_4]] := Sep.addNil S_6
  have S_8 : Sep [] h0.size hp5 [ownO (kF .f32) 25 (.slice none 0 0) ([] : List (Option Nat)), ownO (kF .f32) 25 (.slice none 0 0) ([] : List (Option Nat)), boxO bb3 [(.slice none 0 0), (.slice none 0 0), (.slice none 0 0)], ownO kB 4 v1 x1.1, boxO bb2 [u1_0, u1_1, u1_2], boxO bb1 [(.int .i64 a0_0), (.int .i64 a0_1), (.bool a0_2), u0_3, u0_4]] := Sep.addNil S_7
  have S_9 : Sep [] h0.size hp5 [ownO (kF .f32) 25 (.slice none 0 0) ([] : List (Option Nat)), ownO (kF .f32) 25 (.slice none 0 0) ([] : List (Option Nat)), ownO (kF .f32) 25 (.slice none 0 0) ([] : List (Option Nat)), boxO bb3 [(.slice none 0 0), (.slice none 0 0), (.slice none 0 0)], ownO kB 4 v1 x1.1, boxO bb2 [u1_0, u1_1, u1_2], boxO bb1 [(.int .i64 a0_0), (.int .i64 a0_1), (.bool a0_2), u0_3, u0_4]] := Sep.addNil S_8
  have er := Option.some.inj hp
  subst er
  exact Rt.cellB rfl rfl rfl rfl Try.agg28 Try.size28 (Sep.at (o := boxO bb3 [(.slice none 0 0), (.slice none 0 0), (.slice none 0 0)]) S_9 3 rfl) rfl ⟨(.slice none 0 0), (.slice none 0 0), (.slice none 0 0), rfl, X_5, (Sep.sel S_9 [2, 1, 0] (by decide))⟩
 ·rw [if_neg c1] at hp
  have c1 := eq_false_of_ne_true c1
  refine W.condF rfl c1 ?_
  refine W.skip ?_
  refine thnN ?_
  refine W.seq ?_
  refine W.region ?_
  refine RL.opD (by decide) (opv_assign rfl rfl) ?_
  refine RL.nil ?_
  refine thnN ?_
  refine W.seq ?_
  refine W.seq ?_
  refine W.region ?_
  refine RL.opD (by decide) (opv_move rfl rfl) ?_
  refine RL.opD (by decide) (opv_len rfl Try.underlying40 rfl (ownO.read (Sep.at (o := ownO kB 4 v1 x1.1) S_4 0 rfl))) ?_
  refine RL.opD (by decide) (opv_move rfl rfl) ?_
  refine RL.nil ?_
  refine thnN ?_
  obtain ⟨y1, hy1, hp⟩ := Option.bind_eq_some_iff.1 hp
  refine W.cut (fun φ' h' => ∃ x4, ∃ x5, ∃ x6, y1 = (x4, x5, x6) ∧ Fr.sub [(0, (.agg (List.toArray (α := Value) [(.int .i64 a0_0), (.int .i64 a0_1), (.bool a0_2), u0_3, u0_4]))), (1, (.agg (List.toArray (α := Value) [u1_0, u1_1, u1_2]))), (2, (.int .i64 a2)), (3, (.pointer (some ⟨bb1, 0, none⟩))), (4, (.pointer (some ⟨bb2, 0, none⟩))), (6, (.pointer (some ⟨bb3, 0, none⟩))), (7, (.int .i64 0)), (8, (.bool false)), (9, v1), (10, (.bool x1.2)), (22, (.bool (!x1.2))), (24, v1), (25, (.int .i64 (x1.1.length : Int))), (11, (.int .i64 x4)), (26, (.int .i64 x5)), (27, (.bool x6))] φ' ∧ hp4 = h') ?_ ?_
  ·refine W.block ?_
   refine W.loopS (fun (s : (Int × Int)) φ' h' => Fr.sub [(0, (.agg (List.toArray (α := Value) [(.int .i64 a0_0), (.int .i64 a0_1), (.bool a0_2), u0_3, u0_4]))), (1, (.agg (List.toArray (α := Value) [u1_0, u1_1, u1_2]))), (2, (.int .i64 a2)), (3, (.pointer (some ⟨bb1, 0, none⟩))), (4, (.pointer (some ⟨bb2, 0, none⟩))), (6, (.pointer (some ⟨bb3, 0, none⟩))), (7, (.int .i64 0)), (8, (.bool false)), (9, v1), (10, (.bool x1.2)), (22, (.bool (!x1.2))), (24, v1), (25, (.int .i64 (x1.1.length : Int))), (11, (.int .i64 s.1)), (26, (.int .i64 s.2))] φ' ∧ hp4 = h') hy1 ⟨⟨rfl, rfl, rfl, rfl, rfl, rfl, rfl, rfl, rfl, rfl, rfl, rfl, rfl, rfl, rfl, trivial⟩, rfl⟩ ?_
   rintro ⟨x2, x3⟩ φ' _ o1 ⟨hs1, rfl⟩ ho1 hy1
   have hs1 : Fr.sub [(0, (.agg (List.toArray (α := Value) [(.int .i64 a0_0), (.int .i64 a0_1), (.bool a0_2), u0_3, u0_4]))), (1, (.agg (List.toArray (α := Value) [u1_0, u1_1, u1_2]))), (2, (.int .i64 a2)), (3, (.pointer (some ⟨bb1, 0, none⟩))), (4, (.pointer (some ⟨bb2, 0, none⟩))), (6, (.pointer (some ⟨bb3, 0, none⟩))), (7, (.int .i64 0)), (8, (.bool false)), (9, v1), (10, (.bool x1.2)), (22, (.bool (!x1.2))), (24, v1), (25, (.int .i64 (x1.1.length : Int))), (11, (.int .i64 x2)), (26, (.int .i64 x3))] φ' := hs1
   have ho1 : impl_StepAwake.s0 x1 x2 x3 = some o1 := ho1
   unfold impl_StepAwake.s0 at ho1
   refine W.sub hs1 ?_
   refine W.seq ?_
   refine W.region ?_
   refine RL.opD (by decide) (opv_icmp rfl rfl rfl rfl) ?_
   refine RL.nil ?_
   refine thnN ?_
   refine W.seq ?_
   by_cases c2 : (decide (x3 < (x1.1.length : Int))) = true
   ·rw [if_pos c2] at ho1
    refine W.condT rfl c2 ?_
    refine W.skip ?_
    refine thnN ?_
    refine W.seq ?_
    refine W.block ?_
    refine W.seq ?_
    obtain ⟨x7, hx7, ho1⟩ := Option.bind_eq_some_iff.1 ho1
    refine W.region ?_
    refine RL.op _ (by decide) (opv_index rfl Try.underlying40 (by rw [Try.size4]; rfl) rfl rfl (ownO.read (Sep.at (o := ownO kB 4 v1 x1.1) S_4 0 rfl)) hx7) ?_
    rintro v2 _ ⟨fv2, rfl⟩
    refine RL.opD (by decide) (opv_loadBl rfl Try.one4 rfl fv2 (ownO.read (Sep.at (o := ownO kB 4 v1 x1.1) S_4 0 rfl)) hx7) ?_
    refine RL.opD (by decide) (opv_assign rfl rfl) ?_
    refine RL.nil ?_
    refine thnN ?_
    refine W.seq ?_
    refine W.region ?_
    refine RL.opD (by decide) (opv_move rfl rfl) ?_
    refine RL.opD (by decide) (opv_not rfl rfl) ?_
    refine RL.nil ?_
    refine thnN ?_
    obtain ⟨x8, hy2, ho1⟩ := Option.bind_eq_some_iff.1 ho1
    refine W.cut (fun φ' h' => Fr.sub [(0, (.agg (List.toArray (α := Value) [(.int .i64 a0_0), (.int .i64 a0_1), (.bool a0_2), u0_3, u0_4]))), (1, (.agg (List.toArray (α := Value) [u1_0, u1_1, u1_2]))), (2, (.int .i64 a2)), (3, (.pointer (some ⟨bb1, 0, none⟩))), (4, (.pointer (some ⟨bb2, 0, none⟩))), (6, (.pointer (some ⟨bb3, 0, none⟩))), (7, (.int .i64 0)), (8, (.bool false)), (9, v1), (10, (.bool x1.2)), (22, (.bool (!x1.2))), (24, v1), (25, (.int .i64 (x1.1.length : Int))), (26, (.int .i64 x3)), (27, (.bool (decide (x3 < (x1.1.length : Int))))), (13, (.bool x7)), (31, (.bool (!x7))), (11, (.int .i64 x8))] φ' ∧ hp4 = h') ?_ ?_
    ·by_cases c3 : (!x7) = true
     ·rw [if_pos c3] at hy2
      refine W.condT rfl c3 ?_
      refine W.region ?_
      refine RL.opD (by decide) (opv_move rfl rfl) ?_
      refine RL.opD (by decide) (opv_add rfl rfl rfl) ?_
      refine RL.opD (by decide) (opv_assign rfl rfl) ?_
      refine RL.nil ?_
      have ey2 := Option.some.inj hy2
      subst ey2
      refine onlyN ?_
      exact ⟨⟨rfl, rfl, rfl, rfl, rfl, rfl, rfl, rfl, rfl, rfl, rfl, rfl, rfl, rfl, rfl, rfl, rfl, rfl, trivial⟩, rfl⟩
     ·rw [if_neg c3] at hy2
      have c3 := eq_false_of_ne_true c3
      refine W.condF rfl c3 ?_
      refine W.skip ?_
      have ey2 := Option.some.inj hy2
      subst ey2
      refine onlyN ?_
      exact ⟨⟨rfl, rfl, rfl, rfl, rfl, rfl, rfl, rfl, rfl, rfl, rfl, rfl, rfl, rfl, rfl, rfl, rfl, rfl, trivial⟩, rfl⟩
    rintro φ' _ ⟨hs3, rfl⟩
    refine blkN ?_
    refine thnN ?_
    refine W.sub hs3 ?_
    refine W.region ?_
    refine RL.opD (by decide) (opv_add rfl rfl rfl) ?_
    refine RL.opD (by decide) (opv_move rfl rfl) ?_
    refine RL.nil ?_
    have eo1 := Option.some.inj ho1
    subst eo1
    refine rndN (s' := (x8, IntKind.wrap .i64 (x3 + 1))) rfl ?_
    exact ⟨⟨rfl, rfl, rfl, rfl, rfl, rfl, rfl, rfl, rfl, rfl, rfl, rfl, rfl, rfl, rfl, trivial⟩, rfl⟩
   ·rw [if_neg c2] at ho1
    have c2 := eq_false_of_ne_true c2
    refine W.condF rfl c2 ?_
    refine W.exit ?_
    refine thnX ?_
    refine rndX ?_
    refine blkI ?_
    have eo1 := Option.some.inj ho1
    subst eo1
    have ey1 := hy1 _ rfl
    subst ey1
    refine onlyN ?_
    exact ⟨x2, x3, decide (x3 < (x1.1.length : Int)), rfl, ⟨rfl, rfl, rfl, rfl, rfl, rfl, rfl, rfl, rfl, rfl, rfl, rfl, rfl, rfl, rfl, rfl, trivial⟩, rfl⟩
  rintro φ' _ ⟨x4, x5, x6, rfl, hs2, rfl⟩
  try dsimp only at hp
  refine thnN ?_
  refine W.sub hs2 ?_
  refine W.seq ?_
  obtain ⟨x9, hx9, hp⟩ := Option.bind_eq_some_iff.1 hp
  refine W.region ?_
  refine RL.opD (by decide) (opv_loadA (us := [(.int .i64 a0_0), (.int .i64 a0_1), (.bool a0_2), u0_3, u0_4]) rfl Try.agg31 Try.size31 rfl (Sep.at (o := boxO bb1 [(.int .i64 a0_0), (.int .i64 a0_1), (.bool a0_2), u0_3, u0_4]) S_4 3 rfl) rfl rfl) ?_
  refine RL.opD (by decide) (opv_loadA (us := [u1_0, u1_1, u1_2]) rfl Try.agg28 Try.size28 rfl (Sep.at (o := boxO bb2 [u1_0, u1_1, u1_2]) S_4 2 rfl) rfl rfl) ?_
  refine RL.op _ (by decide) (opv_call (cap := []) (impl_stepped_ok _ _ _ _ _ _ (SL.up (SL.mod g0_3 X_4 (Nat.le_refl _) nob) (Nat.le_trans (Nat.le_refl _) (Mod.size X_4))) _ _ (SL.up (SL.mod g0_4 X_4 (Nat.le_refl _) nob) (Nat.le_trans (Nat.le_refl _) (Mod.size X_4))) _ _ (SL.up (SL.mod g1_0 X_4 (Nat.le_refl _) nob) (Nat.le_trans (Nat.le_refl _) (Mod.size X_4))) _ _ (SL.up (SL.mod g1_1 X_4 (Nat.le_refl _) nob) (Nat.le_trans (Nat.le_refl _) (Mod.size X_4))) _ _ (SL.up (SL.mod g1_2 X_4 (Nat.le_refl _) nob) (Nat.le_trans (Nat.le_refl _) (Mod.size X_4))) _ hx9) rfl rfl ⟨rfl, rfl, trivial⟩ Try.func87 rfl rfl) ?_
  rintro _ hp6 ⟨v3, v4, v5, rfl, MT_6, T_6⟩
  obtain ⟨X_6, S_10⟩ := Sep.turn0 X_4 S_4 MT_6 T_6
  refine RL.opD (by decide) (opv_move rfl rfl) ?_
  refine RL.op0 _ (opS_stored (cs := [(.slice none 0 0), (.slice none 0 0), (.slice none 0 0)]) (cs' := [v3, v4, v5]) (opv_storeA (us := [v3, v4, v5]) rfl Try.size28 rfl rfl (oneAll (ownO.one (Sep.at (o := ownO (kF .f32) 25 v3 x9.1) S_10 0 rfl)) (oneAll (ownO.one (Sep.at (o := ownO (kF .f32) 25 v4 x9.2.1) S_10 1 rfl)) (oneAll (ownO.one (Sep.at (o := ownO (kF .f32) 25 v5 x9.2.2) S_10 2 rfl)) rfl))) (Sep.at (o := boxO bb3 [(.slice none 0 0), (.slice none 0 0), (.slice none 0 0)]) S_10 4 rfl) rfl rfl) (Sep.at (o := boxO bb3 [(.slice none 0 0), (.slice none 0 0), (.slice none 0 0)]) S_10 4 rfl)) ?_
  rintro _ hp7 ⟨rfl, MT_7, T_7⟩
  have S_11 : Sep [] h0.size hp6 ([boxO bb3 [(.slice none 0 0), (.slice none 0 0), (.slice none 0 0)]] ++ [ownO (kF .f32) 25 v3 x9.1, ownO (kF .f32) 25 v4 x9.2.1, ownO (kF .f32) 25 v5 x9.2.2, ownO kB 4 v1 x1.1, boxO bb2 [u1_0, u1_1, u1_2], boxO bb1 [(.int .i64 a0_0), (.int .i64 a0_1), (.bool a0_2), u0_3, u0_4]]) := Sep.sel S_10 [4, 0, 1, 2, 3, 5, 6] (by decide)
  obtain ⟨X_7, S_12⟩ := Sep.turn X_6 S_11 MT_7 T_7
  refine RL.opD (by decide) (opv_assign rfl rfl) ?_
  refine RL.opD (by decide) (opv_assign rfl rfl) ?_
  refine RL.nil ?_
  refine thnN ?_
  refine W.ret ?_
  have er := Option.some.inj hp
  subst er
  exact Rt.cellB rfl rfl rfl rfl Try.agg28 Try.size28 (Sep.at (o := boxO bb3 [v3, v4, v5]) S_12 0 rfl) rfl ⟨v3, v4, v5, rfl, X_7, (Sep.sel S_12 [1, 2, 3] (by decide))⟩

set_option maxRecDepth 20000 in
theorem laws_FnExactStepAwake_ok (h0 : Heap) (a0_0 : Int) (a0_1 : Int) (a0_2 : Bool) (u0_3 : Value) (a0_3 : List (Option Nat)) (g0_3 : SL (kF .f32) h0.size h0 u0_3 a0_3) (u0_4 : Value) (a0_4 : List (Option Nat)) (g0_4 : SL (kF .f32) h0.size h0 u0_4 a0_4) (u1_0 : Value) (a1_0 : List (Option Nat)) (g1_0 : SL (kF .f32) h0.size h0 u1_0 a1_0) (u1_1 : Value) (a1_1 : List (Option Nat)) (g1_1 : SL (kF .f32) h0.size h0 u1_1 a1_1) (u1_2 : Value) (a1_2 : List (Option Nat)) (g1_2 : SL (kF .f32) h0.size h0 u1_2 a1_2) (a2 : Int) (r : Bool) (hp : laws_FnExactStepAwake a0_0 a0_1 a0_2 a0_3 a0_4 a1_0 a1_1 a1_2 a2 = some r) : CallsH Try.prog 6 ([(.agg (List.toArray (α := Value) [(.int .i64 a0_0), (.int .i64 a0_1), (.bool a0_2), u0_3, u0_4])), (.agg (List.toArray (α := Value) [u1_0, u1_1, u1_2])), (.int .i64 a2)].toArray ++ [].toArray) h0 (fun v h' => v = (.bool r) ∧ Mod [] h0 h' ∧ Sep [] h0.size h' []) := by
 unfold laws_FnExactStepAwake at hp
 refine callsH_of_W (l := [(.agg (List.toArray (α := Value) [(.int .i64 a0_0), (.int .i64 a0_1), (.bool a0_2), u0_3, u0_4])), (.agg (List.toArray (α := Value) [u1_0, u1_1, u1_2])), (.int .i64 a2)]) (cap := []) 145 Try.func6 rfl rfl rfl ?_
 refine W.seq ?_
 refine W.region ?_
 refine RL.op _ (by decide) (opS_boxed (opv_boxA (cs := [(.int .i64 a0_0), (.int .i64 a0_1), (.bool a0_2), u0_3, u0_4]) rfl rfl)) ?_
 rintro _ hp1 ⟨bb1, rfl, MT_1, T_1⟩
 obtain ⟨X_1, S_1⟩ := Sep.turn0 (Mod.refl [] h0) (Sep.nil [] h0.size h0) MT_1 T_1
 refine RL.op _ (by decide) (opS_boxed (opv_boxA (cs := [u1_0, u1_1, u1_2]) rfl rfl)) ?_
 rintro _ hp2 ⟨bb2, rfl, MT_2, T_2⟩
 obtain ⟨X_2, S_2⟩ := Sep.turn0 X_1 S_1 MT_2 T_2
 refine RL.opD (by decide) (opv_assign rfl rfl) ?_
 refine RL.nil ?_
 refine thnN ?_
 refine W.seq ?_
 refine W.region ?_
 refine RL.opD (by decide) (opv_assign rfl rfl) ?_
 refine RL.nil ?_
 refine thnN ?_
 refine W.seq ?_
 obtain ⟨x1, hx1, hp⟩ := Option.bind_eq_some_iff.1 hp
 refine W.region ?_
 refine RL.opD (by decide) (opv_loadA (us := [(.int .i64 a0_0), (.int .i64 a0_1), (.bool a0_2), u0_3, u0_4]) rfl Try.agg24 Try.size24 rfl (Sep.at (o := boxO bb1 [(.int .i64 a0_0), (.int .i64 a0_1), (.bool a0_2), u0_3, u0_4]) S_2 1 rfl) rfl rfl) ?_
 refine RL.opD (by decide) (opv_move rfl rfl) ?_
 refine RL.op _ (by decide) (opv_call (cap := []) (laws_szSheet_ok _ _ _ _ _ _ (SL.up (SL.mod g0_3 X_2 (Nat.le_refl _) nob) (Nat.le_trans (Nat.le_refl _) (Mod.size X_2))) _ _ (SL.up (SL.mod g0_4 X_2 (Nat.le_refl _) nob) (Nat.le_trans (Nat.le_refl _) (Mod.size X_2))) _ _ hx1) rfl rfl ⟨rfl, rfl, trivial⟩ Try.func12 rfl rfl) ?_
 rintro _ hp3 ⟨rfl, MT_3, T_3⟩
 obtain ⟨X_3, S_3⟩ := Sep.turn0 X_2 S_2 MT_3 T_3
 refine RL.opD (by decide) (opv_assign rfl rfl) ?_
 refine RL.nil ?_
 refine thnN ?_
 refine W.seq ?_
 refine W.seq ?_
 refine W.region ?_
 refine RL.opD (by decide) (opv_move rfl rfl) ?_
 refine RL.opD (by decide) (opv_icmp rfl rfl rfl rfl) ?_
 refine RL.nil ?_
 refine thnN ?_
 by_cases c1 : (decide (x1 < 0)) = true
 ·rw [if_pos c1] at hp
  refine W.condT rfl c1 ?_
  refine W.seq ?_
  refine W.region ?_
  refine RL.opD (by decide) (opv_assign rfl rfl) ?_
  refine RL.nil ?_
  refine thnN ?_
  refine W.ret ?_
  refine thnR ?_
  have er := Option.some.inj hp
  subst er
  exact Rt.one rfl rfl ⟨rfl, X_3, (Sep.nil _ _ _)⟩
 ·rw [if_neg c1] at hp
  have c1 := eq_false_of_ne_true c1
  refine W.condF rfl c1 ?_
  refine W.skip ?_
  refine thnN ?_
  refine W.seq ?_
  obtain ⟨x2, hx2, hp⟩ := Option.bind_eq_some_iff.1 hp
  refine W.region ?_
  refine RL.opD (by decide) (opv_loadA (us := [u1_0, u1_1, u1_2]) rfl Try.agg38 Try.size38 rfl (Sep.at (o := boxO bb2 [u1_0, u1_1, u1_2]) S_3 0 rfl) rfl rfl) ?_
  refine RL.opD (by decide) (opv_move rfl rfl) ?_
  refine RL.op _ (by decide) (opv_call (cap := []) (laws_szField_ok _ _ _ (SL.up (SL.mod g1_0 X_3 (Nat.le_refl _) nob) (Nat.le_trans (Nat.le_refl _) (Mod.size X_3))) _ _ (SL.up (SL.mod g1_1 X_3 (Nat.le_refl _) nob) (Nat.le_trans (Nat.le_refl _) (Mod.size X_3))) _ _ (SL.up (SL.mod g1_2 X_3 (Nat.le_refl _) nob) (Nat.le_trans (Nat.le_refl _) (Mod.size X_3))) _ _ hx2) rfl rfl ⟨rfl, rfl, trivial⟩ Try.func21 rfl rfl) ?_
  rintro _ hp4 ⟨rfl, MT_4, T_4⟩
  obtain ⟨X_4, S_4⟩ := Sep.turn0 X_3 S_3 MT_4 T_4
  refine RL.opD (by decide) (opv_assign rfl rfl) ?_
  refine RL.nil ?_
  refine thnN ?_
  refine W.seq ?_
  refine W.seq ?_
  refine W.region ?_
  refine RL.opD (by decide) (opv_move rfl rfl) ?_
  refine RL.opD (by decide) (opv_icmp rfl rfl rfl rfl) ?_
  refine RL.nil ?_
  refine thnN ?_
  by_cases c2 : (decide (x2 < 0)) = true
  ·rw [if_pos c2] at hp
   refine W.condT rfl c2 ?_
   refine W.seq ?_
   refine W.region ?_
   refine RL.opD (by decide) (opv_assign rfl rfl) ?_
   refine RL.nil ?_
   refine thnN ?_
   refine W.ret ?_
   refine thnR ?_
   have er := Option.some.inj hp
   subst er
   exact Rt.one rfl rfl ⟨rfl, X_4, (Sep.nil _ _ _)⟩
  ·rw [if_neg c2] at hp
   have c2 := eq_false_of_ne_true c2
   refine W.condF rfl c2 ?_
   refine W.skip ?_
   refine thnN ?_
   refine W.seq ?_
   obtain ⟨x3, hx3, hp⟩ := Option.bind_eq_some_iff.1 hp
   obtain ⟨x4, hx4, hp⟩ := Option.bind_eq_some_iff.1 hp
   obtain ⟨x5, hx5, hp⟩ := Option.bind_eq_some_iff.1 hp
   refine W.sub (ψ := [(0, (.agg (List.toArray (α := Value) [(.int .i64 a0_0), (.int .i64 a0_1), (.bool a0_2), u0_3, u0_4]))), (1, (.agg (List.toArray (α := Value) [u1_0, u1_1, u1_2]))), (2, (.int .i64 a2)), (3, (.pointer (some ⟨bb1, 0, none⟩))), (4, (.pointer (some ⟨bb2, 0, none⟩))), (6, (.bool false)), (7, (.int .i64 x2)), (26, (.bool (decide (x1 < 0)))), (31, (.bool (decide (x2 < 0))))]) ⟨rfl, rfl, rfl, rfl, rfl, rfl, rfl, rfl, rfl, trivial⟩ ?_
   refine W.regionL [fun v _ => @Eq Value (.agg (List.toArray (α := Value) [(.int .i64 a0_0), (.int .i64 a0_1), (.bool a0_2), u0_3, u0_4])) v, fun v h => ∃ v1, ∃ v2, @Eq Value v (.agg (List.toArray (α := Value) [(.int .i64 x3.1), (.int .i64 x3.2.1), (.bool x3.2.2.1), v1, v2])) ∧ Sep [] hp4.size h [ownO (kF .f32) 25 v1 x3.2.2.2.1, ownO (kF .f32) 25 v2 x3.2.2.2.2], fun v _ => @Eq Value (.agg (List.toArray (α := Value) [u1_0, u1_1, u1_2])) v, fun v h => ∃ v3, ∃ v4, ∃ v5, @Eq Value v (.agg (List.toArray (α := Value) [v3, v4, v5])) ∧ Sep [] hp4.size h [ownO (kF .f32) 25 v3 x4.1, ownO (kF .f32) 25 v4 x4.2.1, ownO (kF .f32) 25 v5 x4.2.2], fun v _ => @Eq Value (.int .i64 a2) v, fun v h => ∃ v6, ∃ v7, ∃ v8, @Eq Value v (.tuple (List.toArray (α := Value) [(.agg (List.toArray (α := Value) [v6, v7, v8])), (.int .i64 x5.2.2.2.1), (.bool x5.2.2.2.2)])) ∧ Sep [] hp4.size h [ownO (kF .f32) 25 v6 x5.1, ownO (kF .f32) 25 v7 x5.2.1, ownO (kF .f32) 25 v8 x5.2.2.1], fun v h => ∃ v6, ∃ v7, ∃ v8, @Eq Value v (.tuple (List.toArray (α := Value) [(.agg (List.toArray (α := Value) [v6, v7, v8])), (.int .i64 x5.2.2.2.1), (.bool x5.2.2.2.2)])) ∧ Sep [] hp4.size h [ownO (kF .f32) 25 v6 x5.1, ownO (kF .f32) 25 v7 x5.2.1, ownO (kF .f32) 25 v8 x5.2.2.1], fun v h => ∃ v6, ∃ v7, ∃ v8, @Eq Value v (.agg (List.toArray (α := Value) [v6, v7, v8])) ∧ Sep [] hp4.size h [ownO (kF .f32) 25 v6 x5.1, ownO (kF .f32) 25 v7 x5.2.1, ownO (kF .f32) 25 v8 x5.2.2.1], fun v _ => @Eq Value (.int .i64 x5.2.2.2.1) v, fun v _ => @Eq Value (.bool x5.2.2.2.2) v, fun v h => ∃ b, @Eq Value v (.pointer (some ⟨b, 0, none⟩)) ∧ Sep [] hp4.size h [boxO b [(.slice none 0 0), (.slice none 0 0), (.slice none 0 0)]]] [none, some (fun u => [Value.ownBlock (vget u 3), Value.ownBlock (vget u 4)]), none, some (fun u => [Value.ownBlock (vget u 0), Value.ownBlock (vget u 1), Value.ownBlock (vget u 2)]), none, some (fun u => [Value.ownBlock (vget (vget u 0) 0), Value.ownBlock (vget (vget u 0) 1), Value.ownBlock (vget (vget u 0) 2)]), none, none, none, none, some (fun u => [ptrB u])] [none, none, none, none, none, none, some (38, fun u => u), some (32, fun u => vget u 0)] [8, 9] [[], [0], [], [2], [], [1, 3, 4], [5], [6], [6], [6], []] [5, 6, 7, 8, 9, 10] Try.mixed (by decide +kernel) (by decide +kernel) (fun _ _ _ h => h) rfl rfl rfl (by decide +kernel) rfl ⟨fun _ _ _ h _ => h, fun _ _ _ ⟨u0_, u1_, e, h⟩ x => ⟨u0_, u1_, e, h.ext x⟩, fun _ _ _ h _ => h, fun _ _ _ ⟨u0_, u1_, u2_, e, h⟩ x => ⟨u0_, u1_, u2_, e, h.ext x⟩, fun _ _ _ h _ => h, fun _ _ _ ⟨u0_, u1_, u2_, e, h⟩ x => ⟨u0_, u1_, u2_, e, h.ext x⟩, fun _ _ _ ⟨u0_, u1_, u2_, e, h⟩ x => ⟨u0_, u1_, u2_, e, h.ext x⟩, fun _ _ _ ⟨u0_, u1_, u2_, e, h⟩ x => ⟨u0_, u1_, u2_, e, h.ext x⟩, fun _ _ _ h _ => h, fun _ _ _ h _ => h, fun _ _ _ ⟨b, e, h⟩ x => ⟨b, e, h.ext x⟩, trivial⟩ ?_ (.cons ?_ (.cons ?_ (.nil))) ?_
   ·refine ⟨⟨rfl, ?_⟩, ⟨rfl, ?_⟩, ⟨rfl, ?_⟩, ⟨rfl, ?_⟩, ⟨rfl, ?_⟩, ⟨rfl, ?_⟩, ⟨rfl, ?_⟩, ⟨rfl, ?_⟩, ⟨rfl, ?_⟩, ⟨rfl, ?_⟩, ⟨rfl, ?_⟩, trivial⟩
    ·rintro hp10 E_1
     refine Dep.nil ?_
     refine GuardOK.none rfl ?_
     exact OpV.toDx (opv_loadA (us := [(.int .i64 a0_0), (.int .i64 a0_1), (.bool a0_2), u0_3, u0_4]) rfl Try.agg24 Try.size24 rfl (Sep.at (o := boxO bb1 [(.int .i64 a0_0), (.int .i64 a0_1), (.bool a0_2), u0_3, u0_4]) (Sep.ext S_4 E_1) 1 rfl) rfl rfl) rfl
    ·rintro hp11 E_2 _ rfl
     refine Dep.nil ?_
     refine GuardOK.none rfl ?_
     exact OpV.mono (opv_call (cap := []) (laws_toSheet_ok _ _ _ _ _ _ (SL.up (SL.mod g0_3 (Mod.lift X_4 E_2) (Nat.le_refl _) nob) (Nat.le_trans (Nat.le_refl _) (Mod.size (Mod.lift X_4 E_2)))) _ _ (SL.up (SL.mod g0_4 (Mod.lift X_4 E_2) (Nat.le_refl _) nob) (Nat.le_trans (Nat.le_refl _) (Mod.size (Mod.lift X_4 E_2)))) _ hx3) rfl rfl ⟨rfl, trivial⟩ Try.func14 rfl rfl) (by rintro _ _ ⟨v1, v2, rfl, M_, T_⟩; exact ⟨Mod.ext M_, ⟨v1, v2, rfl, Sep.weak T_ (Ext.size E_2)⟩, Sep.fresh T_⟩)
    ·rintro hp12 E_3
     refine Dep.nil ?_
     refine GuardOK.none rfl ?_
     exact OpV.toDx (opv_loadA (us := [u1_0, u1_1, u1_2]) rfl Try.agg38 Try.size38 rfl (Sep.at (o := boxO bb2 [u1_0, u1_1, u1_2]) (Sep.ext S_4 E_3) 0 rfl) rfl rfl) rfl
    ·rintro hp13 E_4 _ rfl
     refine Dep.nil ?_
     refine GuardOK.none rfl ?_
     exact OpV.mono (opv_call (cap := []) (laws_toField_ok _ _ _ (SL.up (SL.mod g1_0 (Mod.lift X_4 E_4) (Nat.le_refl _) nob) (Nat.le_trans (Nat.le_refl _) (Mod.size (Mod.lift X_4 E_4)))) _ _ (SL.up (SL.mod g1_1 (Mod.lift X_4 E_4) (Nat.le_refl _) nob) (Nat.le_trans (Nat.le_refl _) (Mod.size (Mod.lift X_4 E_4)))) _ _ (SL.up (SL.mod g1_2 (Mod.lift X_4 E_4) (Nat.le_refl _) nob) (Nat.le_trans (Nat.le_refl _) (Mod.size (Mod.lift X_4 E_4)))) _ hx4) rfl rfl ⟨rfl, trivial⟩ Try.func23 rfl rfl) (by rintro _ _ ⟨v3, v4, v5, rfl, M_, T_⟩; exact ⟨Mod.ext M_, ⟨v3, v4, v5, rfl, Sep.weak T_ (Ext.size E_4)⟩, Sep.fresh T_⟩)
    ·rintro hp14 E_5
     refine Dep.nil ?_
     refine GuardOK.none rfl ?_
     exact OpV.toDx (opv_move rfl rfl) rfl
    ·rintro hp15 E_6 _ ⟨v1, v2, rfl, T_5⟩ _ ⟨v3, v4, v5, rfl, T_6⟩ _ rfl
     refine Dep.nil ?_
     refine GuardOK.none rfl ?_
     exact OpV.mono (opv_call (cap := []) (spec_StepAwake_ok _ _ _ _ _ _ (ownO.read (Sep.at (o := ownO (kF .f32) 25 v1 x3.2.2.2.1) T_5 0 rfl)) _ _ (ownO.read (Sep.at (o := ownO (kF .f32) 25 v2 x3.2.2.2.2) T_5 1 rfl)) _ _ (ownO.read (Sep.at (o := ownO (kF .f32) 25 v3 x4.1) T_6 0 rfl)) _ _ (ownO.read (Sep.at (o := ownO (kF .f32) 25 v4 x4.2.1) T_6 1 rfl)) _ _ (ownO.read (Sep.at (o := ownO (kF .f32) 25 v5 x4.2.2) T_6 2 rfl)) _ _ hx5) rfl rfl ⟨rfl, rfl, rfl, trivial⟩ Try.func31 rfl rfl) (by rintro _ _ ⟨v6, v7, v8, rfl, M_, T_⟩; exact ⟨Mod.ext M_, ⟨v6, v7, v8, rfl, Sep.weak T_ (Ext.size E_6)⟩, Sep.fresh T_⟩)
    ·rintro hp16 E_7 _ ⟨v6, v7, v8, rfl, T_7⟩
     refine Dep.nil ?_
     refine GuardOK.none rfl ?_
     exact OpV.mono (opv_move rfl rfl) (by rintro _ _ ⟨rfl, rfl⟩; exact ⟨⟨Ext.refl _, v6, v7, v8, rfl, T_7⟩, _, rfl, rfl⟩)
    ·rintro hp17 E_8 _ ⟨v6, v7, v8, rfl, T_7⟩
     refine Dep.nil ?_
     refine GuardOK.none rfl ?_
     exact OpV.mono (opv_extract rfl rfl rfl) (by rintro _ _ ⟨rfl, rfl⟩; exact ⟨⟨Ext.refl _, v6, v7, v8, rfl, T_7⟩, _, rfl, rfl⟩)
    ·rintro hp18 E_9 _ ⟨v6, v7, v8, rfl, T_7⟩
     refine Dep.nil ?_
     refine GuardOK.none rfl ?_
     exact OpV.toDx (opv_extract rfl rfl rfl) rfl
    ·rintro hp19 E_10 _ ⟨v6, v7, v8, rfl, T_7⟩
     refine Dep.nil ?_
     refine GuardOK.none rfl ?_
     exact OpV.toDx (opv_extract rfl rfl rfl) rfl
    ·rintro hp20 E_11
     refine Dep.nil ?_
     refine GuardOK.none rfl ?_
     exact OpV.mono (opS_boxed (opv_alloc (cs := [(.slice none 0 0), (.slice none 0 0), (.slice none 0 0)]) rfl Try.zero28 rfl)) (by rintro _ _ ⟨b_, rfl, M_, T_⟩; exact ⟨Mod.ext M_, ⟨b_, rfl, Sep.weak T_ (Ext.size E_11)⟩, Sep.fresh T_⟩)
   ·refine ⟨[6], _, rfl, rfl, rfl, rfl, ?_⟩
    rintro hp21 E_12 _ ⟨v6, v7, v8, rfl, T_7⟩
    refine Dep.nil ?_
    exact ⟨_, opy_extract rfl rfl rfl, ⟨Ext.refl _, rfl⟩⟩
   ·refine ⟨[6], _, rfl, rfl, rfl, rfl, ?_⟩
    rintro hp22 E_13 _ ⟨v6, v7, v8, rfl, T_7⟩
    refine Dep.nil ?_
    exact ⟨_, opy_extract rfl rfl rfl, ⟨Ext.refl _, rfl⟩⟩
   rintro hp23 E_14 _ ⟨v6, v7, v8, rfl, T_7⟩ z6_ _ z7_ _ _ rfl _ rfl _ ⟨bb3, rfl, T_8⟩
   refine DepM.nil ?_
   intro PW_1 LK_
   have ez6_ : z6_ = (.tuple (List.toArray (α := Value) [(.agg (List.toArray (α := Value) [v6, v7, v8])), (.int .i64 x5.2.2.2.1), (.bool x5.2.2.2.2)])) := LK_ 6 _ _ _ _ _ (by decide) rfl rfl rfl rfl
   subst z6_
   have ez7_ : z7_ = (.agg (List.toArray (α := Value) [v6, v7, v8])) := LK_ 7 _ _ _ _ _ (by decide) rfl rfl rfl rfl
   subst z7_
   have X_10 := Mod.lift X_4 E_14
   have S_11 := Sep.join S_4 (Mod.size X_4) (Ext.mod E_14 []) (Sep.both T_7 T_8 (Apt.symm (Apt.of PW_1 0 5 rfl rfl (by decide))))
   show RL _ _ _ _ (_ :: _) _ _
   refine RL.op0 _ (opS_stored (cs := [(.slice none 0 0), (.slice none 0 0), (.slice none 0 0)]) (cs' := [v6, v7, v8]) (opv_storeA (us := [v6, v7, v8]) rfl Try.size28 rfl rfl (oneAll (ownO.one (Sep.at (o := ownO (kF .f32) 25 v6 x5.1) S_11 0 rfl)) (oneAll (ownO.one (Sep.at (o := ownO (kF .f32) 25 v7 x5.2.1) S_11 1 rfl)) (oneAll (ownO.one (Sep.at (o := ownO (kF .f32) 25 v8 x5.2.2.1) S_11 2 rfl)) rfl))) (Sep.at (o := boxO bb3 [(.slice none 0 0), (.slice none 0 0), (.slice none 0 0)]) S_11 3 rfl) rfl rfl) (Sep.at (o := boxO bb3 [(.slice none 0 0), (.slice none 0 0), (.slice none 0 0)]) S_11 3 rfl)) ?_
   rintro _ hp24 ⟨rfl, MT_10, T_10⟩
   have S_12 : Sep [] h0.size hp23 ([boxO bb3 [(.slice none 0 0), (.slice none 0 0), (.slice none 0 0)]] ++ [ownO (kF .f32) 25 v6 x5.1, ownO (kF .f32) 25 v7 x5.2.1, ownO (kF .f32) 25 v8 x5.2.2.1, boxO bb2 [u1_0, u1_1, u1_2], boxO bb1 [(.int .i64 a0_0), (.int .i64 a0_1), (.bool a0_2), u0_3, u0_4]]) := Sep.sel S_11 [3, 0, 1, 2, 4, 5] (by decide)
   obtain ⟨X_11, S_13⟩ := Sep.turn X_10 S_12 MT_10 T_10
   refine RL.opD (by decide) (opv_assign rfl rfl) ?_
   refine RL.opD (by decide) (opv_assign rfl rfl) ?_
   refine RL.nil ?_
   refine thnN ?_
   refine W.seq ?_
   obtain ⟨x6, hx6, hp⟩ := Option.bind_eq_some_iff.1 hp
   refine W.region ?_
   refine RL.opD (by decide) (opv_loadA (us := [(.int .i64 a0_0), (.int .i64 a0_1), (.bool a0_2), u0_3, u0_4]) rfl Try.agg24 Try.size24 rfl (Sep.at (o := boxO bb1 [(.int .i64 a0_0), (.int .i64 a0_1), (.bool a0_2), u0_3, u0_4]) S_13 5 rfl) rfl rfl) ?_
   refine RL.op _ (by decide) (opv_call (cap := []) (laws_toSheet_ok _ _ _ _ _ _ (SL.up (SL.mod g0_3 X_11 (Nat.le_refl _) nob) (Nat.le_trans (Nat.le_refl _) (Mod.size X_11))) _ _ (SL.up (SL.mod g0_4 X_11 (Nat.le_refl _) nob) (Nat.le_trans (Nat.le_refl _) (Mod.size X_11))) _ hx6) rfl rfl ⟨rfl, trivial⟩ Try.func14 rfl rfl) ?_
   rintro _ hp25 ⟨v17, v18, rfl, MT_11, T_11⟩
   obtain ⟨X_12, S_14⟩ := Sep.turn0 X_11 S_13 MT_11 T_11
   refine RL.op _ (by decide) (opS_boxed (opv_alloc (cs := [(.int .i64 0), (.int .i64 0), (.bool false), (.slice none 0 0), (.slice none 0 0)]) rfl Try.zero31 rfl)) ?_
   rintro _ hp26 ⟨bb4, rfl, MT_12, T_12⟩
   obtain ⟨X_13, S_15⟩ := Sep.turn0 X_12 S_14 MT_12 T_12
   refine RL.op0 _ (opS_stored (cs := [(.int .i64 0), (.int .i64 0), (.bool false), (.slice none 0 0), (.slice none 0 0)]) (cs' := [(.int .i64 x6.1), (.int .i64 x6.2.1), (.bool x6.2.2.1), v17, v18]) (opv_storeA (us := [(.int .i64 x6.1), (.int .i64 x6.2.1), (.bool x6.2.2.1), v17, v18]) rfl Try.size31 rfl rfl (oneAll rfl (oneAll rfl (oneAll rfl (oneAll (ownO.one (Sep.at (o := ownO (kF .f32) 25 v17 x6.2.2.2.1) S_15 1 rfl)) (oneAll (ownO.one (Sep.at (o := ownO (kF .f32) 25 v18 x6.2.2.2.2) S_15 2 rfl)) rfl))))) (Sep.at (o := boxO bb4 [(.int .i64 0), (.int .i64 0), (.bool false), (.slice none 0 0), (.slice none 0 0)]) S_15 0 rfl) rfl rfl) (Sep.at (o := boxO bb4 [(.int .i64 0), (.int .i64 0), (.bool false), (.slice none 0 0), (.slice none 0 0)]) S_15 0 rfl)) ?_
   rintro _ hp27 ⟨rfl, MT_13, T_13⟩
   have S_16 : Sep [] h0.size hp26 ([boxO bb4 [(.int .i64 0), (.int .i64 0), (.bool false), (.slice none 0 0), (.slice none 0 0)]] ++ [ownO (kF .f32) 25 v17 x6.2.2.2.1, ownO (kF .f32) 25 v18 x6.2.2.2.2, boxO bb3 [v6, v7, v8], ownO (kF .f32) 25 v6 x5.1, ownO (kF .f32) 25 v7 x5.2.1, ownO (kF .f32) 25 v8 x5.2.2.1, boxO bb2 [u1_0, u1_1, u1_2], boxO bb1 [(.int .i64 a0_0), (.int .i64 a0_1), (.bool a0_2), u0_3, u0_4]]) := Sep.sel S_15 [0, 1, 2, 3, 4, 5, 6, 7, 8] (by decide)
   obtain ⟨X_14, S_17⟩ := Sep.turn X_13 S_16 MT_13 T_13
   refine RL.nil ?_
   refine thnN ?_
   refine W.seq ?_
   obtain ⟨x7, hx7, hp⟩ := Option.bind_eq_some_iff.1 hp
   refine W.region ?_
   refine RL.opD (by decide) (opv_loadA (us := [u1_0, u1_1, u1_2]) rfl Try.agg38 Try.size38 rfl (Sep.at (o := boxO bb2 [u1_0, u1_1, u1_2]) S_17 7 rfl) rfl rfl) ?_
   refine RL.op _ (by decide) (opv_call (cap := []) (laws_toField_ok _ _ _ (SL.up (SL.mod g1_0 X_14 (Nat.le_refl _) nob) (Nat.le_trans (Nat.le_refl _) (Mod.size X_14))) _ _ (SL.up (SL.mod g1_1 X_14 (Nat.le_refl _) nob) (Nat.le_trans (Nat.le_refl _) (Mod.size X_14))) _ _ (SL.up (SL.mod g1_2 X_14 (Nat.le_refl _) nob) (Nat.le_trans (Nat.le_refl _) (Mod.size X_14))) _ hx7) rfl rfl ⟨rfl, trivial⟩ Try.func23 rfl rfl) ?_
   rintro _ hp28 ⟨v19, v20, v21, rfl, MT_14, T_14⟩
   obtain ⟨X_15, S_18⟩ := Sep.turn0 X_14 S_17 MT_14 T_14
   refine RL.op _ (by decide) (opS_boxed (opv_alloc (cs := [(.slice none 0 0), (.slice none 0 0), (.slice none 0 0)]) rfl Try.zero28 rfl)) ?_
   rintro _ hp29 ⟨bb5, rfl, MT_15, T_15⟩
   obtain ⟨X_16, S_19⟩ := Sep.turn0 X_15 S_18 MT_15 T_15
   refine RL.op0 _ (opS_stored (cs := [(.slice none 0 0), (.slice none 0 0), (.slice none 0 0)]) (cs' := [v19, v20, v21]) (opv_storeA (us := [v19, v20, v21]) rfl Try.size28 rfl rfl (oneAll (ownO.one (Sep.at (o := ownO (kF .f32) 25 v19 x7.1) S_19 1 rfl)) (oneAll (ownO.one (Sep.at (o := ownO (kF .f32) 25 v20 x7.2.1) S_19 2 rfl)) (oneAll (ownO.one (Sep.at (o := ownO (kF .f32) 25 v21 x7.2.2) S_19 3 rfl)) rfl))) (Sep.at (o := boxO bb5 [(.slice none 0 0), (.slice none 0 0), (.slice none 0 0)]) S_19 0 rfl) rfl rfl) (Sep.at (o := boxO bb5 [(.slice none 0 0), (.slice none 0 0), (.slice none 0 0)]) S_19 0 rfl)) ?_
   rintro _ hp30 ⟨rfl, MT_16, T_16⟩
   have S_20 : Sep [] h0.size hp29 ([boxO bb5 [(.slice none 0 0), (.slice none 0 0), (.slice none 0 0)]] ++ [ownO (kF .f32) 25 v19 x7.1, ownO (kF .f32) 25 v20 x7.2.1, ownO (kF .f32) 25 v21 x7.2.2, boxO bb4 [(.int .i64 x6.1), (.int .i64 x6.2.1), (.bool x6.2.2.1), v17, v18], ownO (kF .f32) 25 v17 x6.2.2.2.1, ownO (kF .f32) 25 v18 x6.2.2.2.2, boxO bb3 [v6, v7, v8], ownO (kF .f32) 25 v6 x5.1, ownO (kF .f32) 25 v7 x5.2.1, ownO (kF .f32) 25 v8 x5.2.2.1, boxO bb2 [u1_0, u1_1, u1_2], boxO bb1 [(.int .i64 a0_0), (.int .i64 a0_1), (.bool a0_2), u0_3, u0_4]]) := Sep.sel S_19 [0, 1, 2, 3, 4, 5, 6, 7, 8, 9, 10, 11, 12] (by decide)
   obtain ⟨X_17, S_21⟩ := Sep.turn X_16 S_20 MT_16 T_16
   refine RL.nil ?_
   refine thnN ?_
   refine W.seq ?_
   obtain ⟨x8, hx8, hp⟩ := Option.bind_eq_some_iff.1 hp
   refine W.region ?_
   refine RL.opD (by decide) (opv_loadA (us := [(.int .i64 x6.1), (.int .i64 x6.2.1), (.bool x6.2.2.1), v17, v18]) rfl Try.agg31 Try.size31 rfl (Sep.at (o := boxO bb4 [(.int .i64 x6.1), (.int .i64 x6.2.1), (.bool x6.2.2.1), v17, v18]) S_21 4 rfl) rfl rfl) ?_
   refine RL.opD (by decide) (opv_loadA (us := [v19, v20, v21]) rfl Try.agg28 Try.size28 rfl (Sep.at (o := boxO bb5 [v19, v20, v21]) S_21 0 rfl) rfl rfl) ?_
   refine RL.opD (by decide) (opv_move rfl rfl) ?_
   refine RL.op _ (by decide) (opv_call (cap := []) (impl_StepAwake_ok _ _ _ _ _ _ (ownO.read (Sep.at (o := ownO (kF .f32) 25 v17 x6.2.2.2.1) S_21 5 rfl)) _ _ (ownO.read (Sep.at (o := ownO (kF .f32) 25 v18 x6.2.2.2.2) S_21 6 rfl)) _ _ (ownO.read (Sep.at (o := ownO (kF .f32) 25 v19 x7.1) S_21 1 rfl)) _ _ (ownO.read (Sep.at (o := ownO (kF .f32) 25 v20 x7.2.1) S_21 2 rfl)) _ _ (ownO.read (Sep.at (o := ownO (kF .f32) 25 v21 x7.2.2) S_21 3 rfl)) _ _ hx8) rfl rfl ⟨rfl, rfl, rfl, trivial⟩ Try.func32 rfl rfl) ?_
   rintro _ hp31 ⟨v22, v23, v24, rfl, MT_17, T_17⟩
   obtain ⟨X_18, S_22⟩ := Sep.turn0 X_17 S_21 MT_17 T_17
   refine RL.opD (by decide) (opv_move rfl rfl) ?_
   refine RL.opD (by decide) (opv_extract rfl rfl rfl) ?_
   refine RL.opD (by decide) (opv_extract rfl rfl rfl) ?_
   refine RL.opD (by decide) (opv_extract rfl rfl rfl) ?_
   refine RL.op _ (by decide) (opS_boxed (opv_alloc (cs := [(.slice none 0 0), (.slice none 0 0), (.slice none 0 0)]) rfl Try.zero28 rfl)) ?_
   rintro _ hp32 ⟨bb6, rfl, MT_18, T_18⟩
   obtain ⟨X_19, S_23⟩ := Sep.turn0 X_18 S_22 MT_18 T_18
   refine RL.op0 _ (opS_stored (cs := [(.slice none 0 0), (.slice none 0 0), (.slice none 0 0)]) (cs' := [v22, v23, v24]) (opv_storeA (us := [v22, v23, v24]) rfl Try.size28 rfl rfl (oneAll (ownO.one (Sep.at (o := ownO (kF .f32) 25 v22 x8.1) S_23 1 rfl)) (oneAll (ownO.one (Sep.at (o := ownO (kF .f32) 25 v23 x8.2.1) S_23 2 rfl)) (oneAll (ownO.one (Sep.at (o := ownO (kF .f32) 25 v24 x8.2.2.1) S_23 3 rfl)) rfl))) (Sep.at (o := boxO bb6 [(.slice none 0 0), (.slice none 0 0), (.slice none 0 0)]) S_23 0 rfl) rfl rfl) (Sep.at (o := boxO bb6 [(.slice none 0 0), (.slice none 0 0), (.slice none 0 0)]) S_23 0 rfl)) ?_
   rintro _ hp33 ⟨rfl, MT_19, T_19⟩
   have S_24 : Sep [] h0.size hp32 ([boxO bb6 [(.slice none 0 0), (.slice none 0 0), (.slice none 0 0)]] ++ [ownO (kF .f32) 25 v22 x8.1, ownO (kF .f32) 25 v23 x8.2.1, ownO (kF .f32) 25 v24 x8.2.2.1, boxO bb5 [v19, v20, v21], ownO (kF .f32) 25 v19 x7.1, ownO (kF .f32) 25 v20 x7.2.1, ownO (kF .f32) 25 v21 x7.2.2, boxO bb4 [(.int .i64 x6.1), (.int .i64 x6.2.1), (.bool x6.2.2.1), v17, v18], ownO (kF .f32) 25 v17 x6.2.2.2.1, ownO (kF .f32) 25 v18 x6.2.2.2.2, boxO bb3 [v6, v7, v8], ownO (kF .f32) 25 v6 x5.1, ownO (kF .f32) 25 v7 x5.2.1, ownO (kF .f32) 25 v8 x5.2.2.1, boxO bb2 [u1_0, u1_1, u1_2], boxO bb1 [(.int .i64 a0_0), (.int .i64 a0_1), (.bool a0_2), u0_3, u0_4]]) := Sep.sel S_23 [0, 1, 2, 3, 4, 5, 6, 7, 8, 9, 10, 11, 12, 13, 14, 15, 16] (by decide)
   obtain ⟨X_20, S_25⟩ := Sep.turn X_19 S_24 MT_19 T_19
   refine RL.opD (by decide) (opv_assign rfl rfl) ?_
   refine RL.opD (by decide) (opv_assign rfl rfl) ?_
   refine RL.nil ?_
   refine thnN ?_
   refine W.seq ?_
   refine W.seq ?_
   obtain ⟨x9, hy1, hp⟩ := Option.bind_eq_some_iff.1 hp
   refine W.cut (fun φ' h' => Fr.sub [(0, (.agg (List.toArray (α := Value) [(.int .i64 a0_0), (.int .i64 a0_1), (.bool a0_2), u0_3, u0_4]))), (1, (.agg (List.toArray (α := Value) [u1_0, u1_1, u1_2]))), (2, (.int .i64 a2)), (3, (.pointer (some ⟨bb1, 0, none⟩))), (4, (.pointer (some ⟨bb2, 0, none⟩))), (6, (.bool false)), (7, (.int .i64 x2)), (26, (.bool (decide (x1 < 0)))), (31, (.bool (decide (x2 < 0)))), (8, (.pointer (some ⟨bb3, 0, none⟩))), (9, (.int .i64 x5.2.2.2.1)), (10, (.bool x5.2.2.2.2)), (11, (.pointer (some ⟨bb4, 0, none⟩))), (12, (.pointer (some ⟨bb5, 0, none⟩))), (13, (.pointer (some ⟨bb6, 0, none⟩))), (14, (.int .i64 x8.2.2.2.1)), (15, (.bool x8.2.2.2.2)), (67, (.bool x9))] φ' ∧ Mod [] h0 h' ∧ Sep [] h0.size h' [boxO bb6 [v22, v23, v24], ownO (kF .f32) 25 v22 x8.1, ownO (kF .f32) 25 v23 x8.2.1, ownO (kF .f32) 25 v24 x8.2.2.1, boxO bb5 [v19, v20, v21], ownO (kF .f32) 25 v19 x7.1, ownO (kF .f32) 25 v20 x7.2.1, ownO (kF .f32) 25 v21 x7.2.2, boxO bb4 [(.int .i64 x6.1), (.int .i64 x6.2.1), (.bool x6.2.2.1), v17, v18], ownO (kF .f32) 25 v17 x6.2.2.2.1, ownO (kF .f32) 25 v18 x6.2.2.2.2, boxO bb3 [v6, v7, v8], ownO (kF .f32) 25 v6 x5.1, ownO (kF .f32) 25 v7 x5.2.1, ownO (kF .f32) 25 v8 x5.2.2.1, boxO bb2 [u1_0, u1_1, u1_2], boxO bb1 [(.int .i64 a0_0), (.int .i64 a0_1), (.bool a0_2), u0_3, u0_4]]) ?_ ?_
   ·obtain ⟨x10, hx10, hy1⟩ := Option.bind_eq_some_iff.1 hy1
    by_cases c3 : (!x10) = true
    ·rw [if_pos c3] at hy1
     refine W.region ?_
     refine RL.opD (by decide) (opv_loadA (us := [v22, v23, v24]) rfl Try.agg28 Try.size28 rfl (Sep.at (o := boxO bb6 [v22, v23, v24]) S_25 0 rfl) rfl rfl) ?_
     refine RL.opD (by decide) (opv_loadA (us := [v6, v7, v8]) rfl Try.agg28 Try.size28 rfl (Sep.at (o := boxO bb3 [v6, v7, v8]) S_25 11 rfl) rfl rfl) ?_
     refine RL.op _ (by decide) (opv_call (cap := []) (laws_eqField_ok _ _ _ (ownO.read (Sep.at (o := ownO (kF .f32) 25 v22 x8.1) S_25 1 rfl)) _ _ (ownO.read (Sep.at (o := ownO (kF .f32) 25 v23 x8.2.1) S_25 2 rfl)) _ _ (ownO.read (Sep.at (o := ownO (kF .f32) 25 v24 x8.2.2.1) S_25 3 rfl)) _ _ (ownO.read (Sep.at (o := ownO (kF .f32) 25 v6 x5.1) S_25 12 rfl)) _ _ (ownO.read (Sep.at (o := ownO (kF .f32) 25 v7 x5.2.1) S_25 13 rfl)) _ _ (ownO.read (Sep.at (o := ownO (kF .f32) 25 v8 x5.2.2.1) S_25 14 rfl)) _ hx10) rfl rfl ⟨rfl, rfl, trivial⟩ Try.func16 rfl rfl) ?_
     rintro _ hp34 ⟨rfl, MT_20, T_20⟩
     obtain ⟨X_21, S_26⟩ := Sep.turn0 X_20 S_25 MT_20 T_20
     refine RL.opD (by decide) (opv_not rfl rfl) ?_
     refine RL.opD (by decide) (opv_move rfl rfl) ?_
     refine RL.noT rfl rfl c3 (by decide) ?_
     refine RL.noT rfl rfl c3 (by decide) ?_
     refine RL.noT rfl rfl c3 (by decide) ?_
     refine RL.opD (by decide) (opv_pick rfl rfl (fun _ => rfl) (fun e => absurd (Eq.trans (Eq.symm e) c3) (by decide)) rfl) ?_
     refine RL.opD (by decide) (opv_move rfl rfl) ?_
     refine RL.noT rfl rfl rfl (by decide) ?_
     refine RL.noT rfl rfl rfl (by decide) ?_
     refine RL.noT rfl rfl rfl (by decide) ?_
     refine RL.opD (by decide) (opv_pick rfl rfl (fun _ => rfl) (fun e => absurd (Eq.trans (Eq.symm e) rfl) (by decide)) rfl) ?_
     refine RL.nil ?_
     have ey1 := Option.some.inj hy1
     subst ey1
     refine onlyN ?_
     exact ⟨⟨rfl, rfl, rfl, rfl, rfl, rfl, rfl, rfl, rfl, rfl, rfl, rfl, rfl, rfl, rfl, rfl, rfl, rfl, trivial⟩, X_21, (Sep.sel S_26 [0, 1, 2, 3, 4, 5, 6, 7, 8, 9, 10, 11, 12, 13, 14, 15, 16] (by decide))⟩
    ·rw [if_neg c3] at hy1
     have c3 := eq_false_of_ne_true c3
     by_cases c4 : (x8.2.2.2.1 != x5.2.2.2.1) = true
     ·rw [if_pos c4] at hy1
      refine W.region ?_
      refine RL.opD (by decide) (opv_loadA (us := [v22, v23, v24]) rfl Try.agg28 Try.size28 rfl (Sep.at (o := boxO bb6 [v22, v23, v24]) S_25 0 rfl) rfl rfl) ?_
      refine RL.opD (by decide) (opv_loadA (us := [v6, v7, v8]) rfl Try.agg28 Try.size28 rfl (Sep.at (o := boxO bb3 [v6, v7, v8]) S_25 11 rfl) rfl rfl) ?_
      refine RL.op _ (by decide) (opv_call (cap := []) (laws_eqField_ok _ _ _ (ownO.read (Sep.at (o := ownO (kF .f32) 25 v22 x8.1) S_25 1 rfl)) _ _ (ownO.read (Sep.at (o := ownO (kF .f32) 25 v23 x8.2.1) S_25 2 rfl)) _ _ (ownO.read (Sep.at (o := ownO (kF .f32) 25 v24 x8.2.2.1) S_25 3 rfl)) _ _ (ownO.read (Sep.at (o := ownO (kF .f32) 25 v6 x5.1) S_25 12 rfl)) _ _ (ownO.read (Sep.at (o := ownO (kF .f32) 25 v7 x5.2.1) S_25 13 rfl)) _ _ (ownO.read (Sep.at (o := ownO (kF .f32) 25 v8 x5.2.2.1) S_25 14 rfl)) _ hx10) rfl rfl ⟨rfl, rfl, trivial⟩ Try.func16 rfl rfl) ?_
      rintro _ hp34 ⟨rfl, MT_20, T_20⟩
      obtain ⟨X_21, S_26⟩ := Sep.turn0 X_20 S_25 MT_20 T_20
      refine RL.opD (by decide) (opv_not rfl rfl) ?_
      refine RL.opD (by decide) (opv_move rfl rfl) ?_
      refine RL.yesD rfl rfl c3 (by decide) (opv_move rfl rfl) ?_
      refine RL.yesD rfl rfl c3 (by decide) (opv_move rfl rfl) ?_
      refine RL.yesD rfl rfl c3 (by decide) (opv_icmp rfl rfl rfl rfl) ?_
      refine RL.opD (by decide) (opv_pick rfl rfl (fun e => absurd (Eq.trans (Eq.symm e) c3) (by decide)) (fun _ => rfl) rfl) ?_
      refine RL.opD (by decide) (opv_move rfl rfl) ?_
      refine RL.noT rfl rfl c4 (by decide) ?_
      refine RL.noT rfl rfl c4 (by decide) ?_
      refine RL.noT rfl rfl c4 (by decide) ?_
      refine RL.opD (by decide) (opv_pick rfl rfl (fun _ => rfl) (fun e => absurd (Eq.trans (Eq.symm e) c4) (by decide)) rfl) ?_
      refine RL.nil ?_
      have ey1 := Option.some.inj hy1
      subst ey1
      refine onlyN ?_
      exact ⟨⟨rfl, rfl, rfl, rfl, rfl, rfl, rfl, rfl, rfl, rfl, rfl, rfl, rfl, rfl, rfl, rfl, rfl, rfl, trivial⟩, X_21, (Sep.sel S_26 [0, 1, 2, 3, 4, 5, 6, 7, 8, 9, 10, 11, 12, 13, 14, 15, 16] (by decide))⟩
     ·rw [if_neg c4] at hy1
      have c4 := eq_false_of_ne_true c4
      refine W.region ?_
      refine RL.opD (by decide) (opv_loadA (us := [v22, v23, v24]) rfl Try.agg28 Try.size28 rfl (Sep.at (o := boxO bb6 [v22, v23, v24]) S_25 0 rfl) rfl rfl) ?_
      refine RL.opD (by decide) (opv_loadA (us := [v6, v7, v8]) rfl Try.agg28 Try.size28 rfl (Sep.at (o := boxO bb3 [v6, v7, v8]) S_25 11 rfl) rfl rfl) ?_
      refine RL.op _ (by decide) (opv_call (cap := []) (laws_eqField_ok _ _ _ (ownO.read (Sep.at (o := ownO (kF .f32) 25 v22 x8.1) S_25 1 rfl)) _ _ (ownO.read (Sep.at (o := ownO (kF .f32) 25 v23 x8.2.1) S_25 2 rfl)) _ _ (ownO.read (Sep.at (o := ownO (kF .f32) 25 v24 x8.2.2.1) S_25 3 rfl)) _ _ (ownO.read (Sep.at (o := ownO (kF .f32) 25 v6 x5.1) S_25 12 rfl)) _ _ (ownO.read (Sep.at (o := ownO (kF .f32) 25 v7 x5.2.1) S_25 13 rfl)) _ _ (ownO.read (Sep.at (o := ownO (kF .f32) 25 v8 x5.2.2.1) S_25 14 rfl)) _ hx10) rfl rfl ⟨rfl, rfl, trivial⟩ Try.func16 rfl rfl) ?_
      rintro _ hp34 ⟨rfl, MT_20, T_20⟩
      obtain ⟨X_21, S_26⟩ := Sep.turn0 X_20 S_25 MT_20 T_20
      refine RL.opD (by decide) (opv_not rfl rfl) ?_
      refine RL.opD (by decide) (opv_move rfl rfl) ?_
      refine RL.yesD rfl rfl c3 (by decide) (opv_move rfl rfl) ?_
      refine RL.yesD rfl rfl c3 (by decide) (opv_move rfl rfl) ?_
      refine RL.yesD rfl rfl c3 (by decide) (opv_icmp rfl rfl rfl rfl) ?_
      refine RL.opD (by decide) (opv_pick rfl rfl (fun e => absurd (Eq.trans (Eq.symm e) c3) (by decide)) (fun _ => rfl) rfl) ?_
      refine RL.opD (by decide) (opv_move rfl rfl) ?_
      refine RL.yesD rfl rfl c4 (by decide) (opv_move rfl rfl) ?_
      refine RL.yesD rfl rfl c4 (by decide) (opv_move rfl rfl) ?_
      refine RL.yesD rfl rfl c4 (by decide) (opv_bcmp rfl rfl Try.underlying4 rfl rfl) ?_
      refine RL.opD (by decide) (opv_pick rfl rfl (fun e => absurd (Eq.trans (Eq.symm e) c4) (by decide)) (fun _ => rfl) rfl) ?_
      refine RL.nil ?_
      have ey1 := Option.some.inj hy1
      subst ey1
      refine onlyN ?_
      exact ⟨⟨rfl, rfl, rfl, rfl, rfl, rfl, rfl, rfl, rfl, rfl, rfl, rfl, rfl, rfl, rfl, rfl, rfl, rfl, trivial⟩, X_21, (Sep.sel S_26 [0, 1, 2, 3, 4, 5, 6, 7, 8, 9, 10, 11, 12, 13, 14, 15, 16] (by decide))⟩
   rintro φ' hp35 ⟨hs1, X_22, S_27⟩
   refine thnN ?_
   refine W.sub hs1 ?_
   by_cases c5 : x9 = true
   ·rw [if_pos c5] at hp
    refine W.condT rfl c5 ?_
    refine W.seq ?_
    refine W.region ?_
    refine RL.opD (by decide) (opv_assign rfl rfl) ?_
    refine RL.nil ?_
    refine thnN ?_
    refine W.ret ?_
    refine thnR ?_
    have er := Option.some.inj hp
    subst er
    exact Rt.one rfl rfl ⟨rfl, X_22, (Sep.nil _ _ _)⟩
   ·rw [if_neg c5] at hp
    have c5 := eq_false_of_ne_true c5
    refine W.condF rfl c5 ?_
    refine W.skip ?_
    refine thnN ?_
    refine W.seq ?_
    refine W.seq ?_
    obtain ⟨x11, hx11, hp⟩ := Option.bind_eq_some_iff.1 hp
    obtain ⟨x12, hx12, hp⟩ := Option.bind_eq_some_iff.1 hp
    refine W.sub (ψ := [(0, (.agg (List.toArray (α := Value) [(.int .i64 a0_0), (.int .i64 a0_1), (.bool a0_2), u0_3, u0_4]))), (1, (.agg (List.toArray (α := Value) [u1_0, u1_1, u1_2]))), (2, (.int .i64 a2)), (3, (.pointer (some ⟨bb1, 0, none⟩))), (4, (.pointer (some ⟨bb2, 0, none⟩))), (6, (.bool false)), (7, (.int .i64 x2)), (26, (.bool (decide (x1 < 0)))), (31, (.bool (decide (x2 < 0)))), (8, (.pointer (some ⟨bb3, 0, none⟩))), (9, (.int .i64 x5.2.2.2.1)), (10, (.bool x5.2.2.2.2)), (11, (.pointer (some ⟨bb4, 0, none⟩))), (12, (.pointer (some ⟨bb5, 0, none⟩))), (13, (.pointer (some ⟨bb6, 0, none⟩))), (14, (.int .i64 x8.2.2.2.1)), (15, (.bool x8.2.2.2.2)), (67, (.bool x9))]) ⟨rfl, rfl, rfl, rfl, rfl, rfl, rfl, rfl, rfl, rfl, rfl, rfl, rfl, rfl, rfl, rfl, rfl, rfl, trivial⟩ ?_
    refine W.regionM [fun v _ => @Eq Value (.agg (List.toArray (α := Value) [(.int .i64 x6.1), (.int .i64 x6.2.1), (.bool x6.2.2.1), v17, v18])) v, fun v _ => @Eq Value (.agg (List.toArray (α := Value) [(.int .i64 a0_0), (.int .i64 a0_1), (.bool a0_2), u0_3, u0_4])) v, fun v h => ∃ v25, ∃ v26, @Eq Value v (.agg (List.toArray (α := Value) [(.int .i64 x11.1), (.int .i64 x11.2.1), (.bool x11.2.2.1), v25, v26])) ∧ Sep [] hp35.size h [ownO (kF .f32) 25 v25 x11.2.2.2.1, ownO (kF .f32) 25 v26 x11.2.2.2.2], fun v h => @Eq Value v (.bool x12) ∧ Sep [] hp35.size h [], fun v _ => @Eq Value (.bool (!x12)) v] [none, none, some (fun u => [Value.ownBlock (vget u 3), Value.ownBlock (vget u 4)]), some (fun u => []), none] [] [[], [], [1], [0, 2], [3]] [4] Try.mixed (by decide +kernel) (by decide +kernel) rfl rfl rfl (by decide +kernel) rfl ⟨fun _ _ _ h _ => h, fun _ _ _ h _ => h, fun _ _ _ ⟨u0_, u1_, e, h⟩ x => ⟨u0_, u1_, e, h.ext x⟩, fun _ _ _ ⟨e, h⟩ x => ⟨e, h.ext x⟩, fun _ _ _ h _ => h, trivial⟩ ?_ ?_
    ·refine ⟨⟨rfl, ?_⟩, ⟨rfl, ?_⟩, ⟨rfl, ?_⟩, ⟨rfl, ?_⟩, ⟨rfl, ?_⟩, trivial⟩
     ·rintro hp38 E_15
      refine Dep.nil ?_
      refine GuardOK.none rfl ?_
      exact OpV.toDx (opv_loadA (us := [(.int .i64 x6.1), (.int .i64 x6.2.1), (.bool x6.2.2.1), v17, v18]) rfl Try.agg31 Try.size31 rfl (Sep.at (o := boxO bb4 [(.int .i64 x6.1), (.int .i64 x6.2.1), (.bool x6.2.2.1), v17, v18]) (Sep.ext S_27 E_15) 8 rfl) rfl rfl) rfl
     ·rintro hp39 E_16
      refine Dep.nil ?_
      refine GuardOK.none rfl ?_
      exact OpV.toDx (opv_loadA (us := [(.int .i64 a0_0), (.int .i64 a0_1), (.bool a0_2), u0_3, u0_4]) rfl Try.agg24 Try.size24 rfl (Sep.at (o := boxO bb1 [(.int .i64 a0_0), (.int .i64 a0_1), (.bool a0_2), u0_3, u0_4]) (Sep.ext S_27 E_16) 16 rfl) rfl rfl) rfl
     ·rintro hp40 E_17 _ rfl
      refine Dep.nil ?_
      refine GuardOK.none rfl ?_
      exact OpV.mono (opv_call (cap := []) (laws_toSheet_ok _ _ _ _ _ _ (SL.up (SL.mod g0_3 (Mod.lift X_22 E_17) (Nat.le_refl _) nob) (Nat.le_trans (Nat.le_refl _) (Mod.size (Mod.lift X_22 E_17)))) _ _ (SL.up (SL.mod g0_4 (Mod.lift X_22 E_17) (Nat.le_refl _) nob) (Nat.le_trans (Nat.le_refl _) (Mod.size (Mod.lift X_22 E_17)))) _ hx11) rfl rfl ⟨rfl, trivial⟩ Try.func14 rfl rfl) (by rintro _ _ ⟨v25, v26, rfl, M_, T_⟩; exact ⟨Mod.ext M_, ⟨v25, v26, rfl, Sep.weak T_ (Ext.size E_17)⟩, Sep.fresh T_⟩)
     ·rintro hp41 E_18 _ rfl _ ⟨v25, v26, rfl, T_21⟩
      refine Dep.nil ?_
      refine GuardOK.none rfl ?_
      exact OpV.mono (opv_call (cap := []) (laws_eqSheet_ok _ _ _ _ _ _ (ownO.read (Sep.at (o := ownO (kF .f32) 25 v17 x6.2.2.2.1) (Sep.ext S_27 E_18) 9 rfl)) _ _ (ownO.read (Sep.at (o := ownO (kF .f32) 25 v18 x6.2.2.2.2) (Sep.ext S_27 E_18) 10 rfl)) _ _ _ _ _ (ownO.read (Sep.at (o := ownO (kF .f32) 25 v25 x11.2.2.2.1) T_21 0 rfl)) _ _ (ownO.read (Sep.at (o := ownO (kF .f32) 25 v26 x11.2.2.2.2) T_21 1 rfl)) _ hx12) rfl rfl ⟨rfl, rfl, trivial⟩ Try.func17 rfl rfl) (by rintro _ _ ⟨rfl, M_, T_⟩; exact ⟨Mod.ext M_, ⟨rfl, Sep.weak T_ (Ext.size E_18)⟩, Sep.fresh T_⟩)
     ·rintro hp42 E_19 _ ⟨rfl, T_22⟩
      refine Dep.nil ?_
      refine GuardOK.none rfl ?_
      exact OpV.toDx (opv_not rfl rfl) rfl
    rintro hp43 E_20 _ rfl
    refine DepM.nil ?_
    intro _ LK_
    have X_25 := Mod.lift X_22 E_20
    have S_30 := Sep.ext S_27 E_20
    show RL _ _ _ _ [] _ _
    refine RL.nil ?_
    refine thnN ?_
    by_cases c6 : (!x12) = true
    ·rw [if_pos c6] at hp
     refine W.condT rfl c6 ?_
     refine W.seq ?_
     refine W.region ?_
     refine RL.opD (by decide) (opv_assign rfl rfl) ?_
     refine RL.nil ?_
     refine thnN ?_
     refine W.ret ?_
     refine thnR ?_
     have er := Option.some.inj hp
     subst er
     exact Rt.one rfl rfl ⟨rfl, X_25, (Sep.nil _ _ _)⟩
    ·rw [if_neg c6] at hp
     have c6 := eq_false_of_ne_true c6
     refine W.condF rfl c6 ?_
     refine W.skip ?_
     refine thnN ?_
     refine W.seq ?_
     refine W.seq ?_
     obtain ⟨x13, hx13, hp⟩ := Option.bind_eq_some_iff.1 hp
     obtain ⟨x14, hx14, hp⟩ := Option.bind_eq_some_iff.1 hp
     refine W.sub (ψ := [(0, (.agg (List.toArray (α := Value) [(.int .i64 a0_0), (.int .i64 a0_1), (.bool a0_2), u0_3, u0_4]))), (1, (.agg (List.toArray (α := Value) [u1_0, u1_1, u1_2]))), (2, (.int .i64 a2)), (3, (.pointer (some ⟨bb1, 0, none⟩))), (4, (.pointer (some ⟨bb2, 0, none⟩))), (6, (.bool false)), (7, (.int .i64 x2)), (26, (.bool (decide (x1 < 0)))), (31, (.bool (decide (x2 < 0)))), (8, (.pointer (some ⟨bb3, 0, none⟩))), (9, (.int .i64 x5.2.2.2.1)), (10, (.bool x5.2.2.2.2)), (11, (.pointer (some ⟨bb4, 0, none⟩))), (12, (.pointer (some ⟨bb5, 0, none⟩))), (13, (.pointer (some ⟨bb6, 0, none⟩))), (14, (.int .i64 x8.2.2.2.1)), (15, (.bool x8.2.2.2.2)), (67, (.bool x9)), (72, (.bool (!x12)))]) ⟨rfl, rfl, rfl, rfl, rfl, rfl, rfl, rfl, rfl, rfl, rfl, rfl, rfl, rfl, rfl, rfl, rfl, rfl, rfl, trivial⟩ ?_
     refine W.regionM [fun v _ => @Eq Value (.agg (List.toArray (α := Value) [v19, v20, v21])) v, fun v _ => @Eq Value (.agg (List.toArray (α := Value) [u1_0, u1_1, u1_2])) v, fun v h => ∃ v29, ∃ v30, ∃ v31, @Eq Value v (.agg (List.toArray (α := Value) [v29, v30, v31])) ∧ Sep [] hp43.size h [ownO (kF .f32) 25 v29 x13.1, ownO (kF .f32) 25 v30 x13.2.1, ownO (kF .f32) 25 v31 x13.2.2], fun v h => @Eq Value v (.bool x14) ∧ Sep [] hp43.size h [], fun v _ => @Eq Value (.bool (!x14)) v] [none, none, some (fun u => [Value.ownBlock (vget u 0), Value.ownBlock (vget u 1), Value.ownBlock (vget u 2)]), some (fun u => []), none] [] [[], [], [1], [0, 2], [3]] [4] Try.mixed (by decide +kernel) (by decide +kernel) rfl rfl rfl (by decide +kernel) rfl ⟨fun _ _ _ h _ => h, fun _ _ _ h _ => h, fun _ _ _ ⟨u0_, u1_, u2_, e, h⟩ x => ⟨u0_, u1_, u2_, e, h.ext x⟩, fun _ _ _ ⟨e, h⟩ x => ⟨e, h.ext x⟩, fun _ _ _ h _ => h, trivial⟩ ?_ ?_
     ·refine ⟨⟨rfl, ?_⟩, ⟨rfl, ?_⟩, ⟨rfl, ?_⟩, ⟨rfl, ?_⟩, ⟨rfl, ?_⟩, trivial⟩
      ·rintro hp46 E_21
       refine Dep.nil ?_
       refine GuardOK.none rfl ?_
       exact OpV.toDx (opv_loadA (us := [v19, v20, v21]) rfl Try.agg28 Try.size28 rfl (Sep.at (o := boxO bb5 [v19, v20, v21]) (Sep.ext S_30 E_21) 4 rfl) rfl rfl) rfl
      ·rintro hp47 E_22
       refine Dep.nil ?_
       refine GuardOK.none rfl ?_
       exact OpV.toDx (opv_loadA (us := [u1_0, u1_1, u1_2]) rfl Try.agg38 Try.size38 rfl (Sep.at (o := boxO bb2 [u1_0, u1_1, u1_2]) (Sep.ext S_30 E_22) 15 rfl) rfl rfl) rfl
      ·rintro hp48 E_23 _ rfl
       refine Dep.nil ?_
       refine GuardOK.none rfl ?_
       exact OpV.mono (opv_call (cap := []) (laws_toField_ok _ _ _ (SL.up (SL.mod g1_0 (Mod.lift X_25 E_23) (Nat.le_refl _) nob) (Nat.le_trans (Nat.le_refl _) (Mod.size (Mod.lift X_25 E_23)))) _ _ (SL.up (SL.mod g1_1 (Mod.lift X_25 E_23) (Nat.le_refl _) nob) (Nat.le_trans (Nat.le_refl _) (Mod.size (Mod.lift X_25 E_23)))) _ _ (SL.up (SL.mod g1_2 (Mod.lift X_25 E_23) (Nat.le_refl _) nob) (Nat.le_trans (Nat.le_refl _) (Mod.size (Mod.lift X_25 E_23)))) _ hx13) rfl rfl ⟨rfl, trivial⟩ Try.func23 rfl rfl) (by rintro _ _ ⟨v29, v30, v31, rfl, M_, T_⟩; exact ⟨Mod.ext M_, ⟨v29, v30, v31, rfl, Sep.weak T_ (Ext.size E_23)⟩, Sep.fresh T_⟩)
      ·rintro hp49 E_24 _ rfl _ ⟨v29, v30, v31, rfl, T_23⟩
       refine Dep.nil ?_
       refine GuardOK.none rfl ?_
       exact OpV.mono (opv_call (cap := []) (laws_eqField_ok _ _ _ (ownO.read (Sep.at (o := ownO (kF .f32) 25 v19 x7.1) (Sep.ext S_30 E_24) 5 rfl)) _ _ (ownO.read (Sep.at (o := ownO (kF .f32) 25 v20 x7.2.1) (Sep.ext S_30 E_24) 6 rfl)) _ _ (ownO.read (Sep.at (o := ownO (kF .f32) 25 v21 x7.2.2) (Sep.ext S_30 E_24) 7 rfl)) _ _ (ownO.read (Sep.at (o := ownO (kF .f32) 25 v29 x13.1) T_23 0 rfl)) _ _ (ownO.read (Sep.at (o := ownO (kF .f32) 25 v30 x13.2.1) T_23 1 rfl)) _ _ (ownO.read (Sep.at (o := ownO (kF .f32) 25 v31 x13.2.2) T_23 2 rfl)) _ hx14) rfl rfl ⟨rfl, rfl, trivial⟩ Try.func16 rfl rfl) (by rintro _ _ ⟨rfl, M_, T_⟩; exact ⟨Mod.ext M_, ⟨rfl, Sep.weak T_ (Ext.size E_24)⟩, Sep.fresh T_⟩)
      ·rintro hp50 E_25 _ ⟨rfl, T_24⟩
       refine Dep.nil ?_
       refine GuardOK.none rfl ?_
       exact OpV.toDx (opv_not rfl rfl) rfl
     rintro hp51 E_26 _ rfl
     refine DepM.nil ?_
     intro _ LK_
     have X_28 := Mod.lift X_25 E_26
     have S_33 := Sep.ext S_30 E_26
     show RL _ _ _ _ [] _ _
     refine RL.nil ?_
     refine thnN ?_
     by_cases c7 : (!x14) = true
     ·rw [if_pos c7] at hp
      refine W.condT rfl c7 ?_
      refine W.seq ?_
      refine W.region ?_
      refine RL.opD (by decide) (opv_assign rfl rfl) ?_
      refine RL.nil ?_
      refine thnN ?_
      refine W.ret ?_
      refine thnR ?_
      have er := Option.some.inj hp
      subst er
      exact Rt.one rfl rfl ⟨rfl, X_28, (Sep.nil _ _ _)⟩
     ·rw [if_neg c7] at hp
      have c7 := eq_false_of_ne_true c7
      refine W.condF rfl c7 ?_
      refine W.skip ?_
      refine thnN ?_
      refine W.seq ?_
      refine W.region ?_
      refine RL.opD (by decide) (opv_assign rfl rfl) ?_
      refine RL.nil ?_
      refine thnN ?_
      refine W.seq ?_
      obtain ⟨x15, hx15, hp⟩ := Option.bind_eq_some_iff.1 hp
      refine W.region ?_
      refine RL.opD (by decide) (opv_loadA (us := [(.int .i64 x6.1), (.int .i64 x6.2.1), (.bool x6.2.2.1), v17, v18]) rfl Try.agg31 Try.size31 rfl (Sep.at (o := boxO bb4 [(.int .i64 x6.1), (.int .i64 x6.2.1), (.bool x6.2.2.1), v17, v18]) S_33 8 rfl) rfl rfl) ?_
      refine RL.opD (by decide) (opv_move rfl rfl) ?_
      have S_35 : Sep [] h0.size hp51 [ownO (kF .f32) 25 v17 x6.2.2.2.1, ownO (kF .f32) 25 v18 x6.2.2.2.2] := Sep.sel S_33 [9, 10] (by decide)
      have S_34 : Sep [v17.ownBlock, v18.ownBlock] hp51.size hp51 [ownO (kF .f32) 25 v17 x6.2.2.2.1, ownO (kF .f32) 25 v18 x6.2.2.2.2] := Sep.own S_35 _
      refine RL.op _ (by decide) (opv_call (cap := []) (laws_markSheet_ok _ h0.size (Nat.le_trans (Nat.le_refl _) (Mod.size X_28)) _ _ _ _ _ _ _ _ S_34 (Sep.ge (L := [ownO (kF .f32) 25 v17 x6.2.2.2.1, ownO (kF .f32) 25 v18 x6.2.2.2.2]) S_35 (Nat.le_refl _) nob) _ hx15) rfl rfl ⟨rfl, rfl, trivial⟩ Try.func18 rfl rfl) ?_
      rintro _ hp52 ⟨rfl, MT_25, T_25⟩
      have S_36 : Sep [] h0.size hp51 ([ownO (kF .f32) 25 v17 x6.2.2.2.1, ownO (kF .f32) 25 v18 x6.2.2.2.2] ++ [boxO bb6 [v22, v23, v24], ownO (kF .f32) 25 v22 x8.1, ownO (kF .f32) 25 v23 x8.2.1, ownO (kF .f32) 25 v24 x8.2.2.1, boxO bb5 [v19, v20, v21], ownO (kF .f32) 25 v19 x7.1, ownO (kF .f32) 25 v20 x7.2.1, ownO (kF .f32) 25 v21 x7.2.2, boxO bb4 [(.int .i64 x6.1), (.int .i64 x6.2.1), (.bool x6.2.2.1), v17, v18], boxO bb3 [v6, v7, v8], ownO (kF .f32) 25 v6 x5.1, ownO (kF .f32) 25 v7 x5.2.1, ownO (kF .f32) 25 v8 x5.2.2.1, boxO bb2 [u1_0, u1_1, u1_2], boxO bb1 [(.int .i64 a0_0), (.int .i64 a0_1), (.bool a0_2), u0_3, u0_4]]) := Sep.sel S_33 [9, 10, 0, 1, 2, 3, 4, 5, 6, 7, 8, 11, 12, 13, 14, 15, 16] (by decide)
      obtain ⟨X_29, S_37⟩ := Sep.turn X_28 S_36 MT_25 T_25
      refine RL.opD (by decide) (opv_assign rfl rfl) ?_
      refine RL.nil ?_
      refine thnN ?_
      refine W.seq ?_
      obtain ⟨x16, hx16, hp⟩ := Option.bind_eq_some_iff.1 hp
      refine W.region ?_
      refine RL.opD (by decide) (opv_loadA (us := [v19, v20, v21]) rfl Try.agg28 Try.size28 rfl (Sep.at (o := boxO bb5 [v19, v20, v21]) S_37 6 rfl) rfl rfl) ?_
      refine RL.opD (by decide) (opv_move rfl rfl) ?_
      have S_39 : Sep [] h0.size hp52 [ownO (kF .f32) 25 v19 x7.1, ownO (kF .f32) 25 v20 x7.2.1, ownO (kF .f32) 25 v21 x7.2.2] := Sep.sel S_37 [7, 8, 9] (by decide)
      have S_38 : Sep [v19.ownBlock, v20.ownBlock, v21.ownBlock] hp52.size hp52 [ownO (kF .f32) 25 v19 x7.1, ownO (kF .f32) 25 v20 x7.2.1, ownO (kF .f32) 25 v21 x7.2.2] := Sep.own S_39 _
      refine RL.op _ (by decide) (opv_call (cap := []) (laws_markField_ok _ h0.size (Nat.le_trans (Nat.le_refl _) (Mod.size X_29)) _ _ _ _ _ _ _ S_38 (Sep.ge (L := [ownO (kF .f32) 25 v19 x7.1, ownO (kF .f32) 25 v20 x7.2.1, ownO (kF .f32) 25 v21 x7.2.2]) S_39 (Nat.le_refl _) nob) _ hx16) rfl rfl ⟨rfl, rfl, trivial⟩ Try.func19 rfl rfl) ?_
      rintro _ hp53 ⟨rfl, MT_26, T_26⟩
      have S_40 : Sep [] h0.size hp52 ([ownO (kF .f32) 25 v19 x7.1, ownO (kF .f32) 25 v20 x7.2.1, ownO (kF .f32) 25 v21 x7.2.2] ++ [ownO (kF .f32) 25 v17 x15.2.1, ownO (kF .f32) 25 v18 x15.2.2, boxO bb6 [v22, v23, v24], ownO (kF .f32) 25 v22 x8.1, ownO (kF .f32) 25 v23 x8.2.1, ownO (kF .f32) 25 v24 x8.2.2.1, boxO bb5 [v19, v20, v21], boxO bb4 [(.int .i64 x6.1), (.int .i64 x6.2.1), (.bool x6.2.2.1), v17, v18], boxO bb3 [v6, v7, v8], ownO (kF .f32) 25 v6 x5.1, ownO (kF .f32) 25 v7 x5.2.1, ownO (kF .f32) 25 v8 x5.2.2.1, boxO bb2 [u1_0, u1_1, u1_2], boxO bb1 [(.int .i64 a0_0), (.int .i64 a0_1), (.bool a0_2), u0_3, u0_4]]) := Sep.sel S_37 [7, 8, 9, 0, 1, 2, 3, 4, 5, 6, 10, 11, 12, 13, 14, 15, 16] (by decide)
      obtain ⟨X_30, S_41⟩ := Sep.turn X_29 S_40 MT_26 T_26
      refine RL.opD (by decide) (opv_assign rfl rfl) ?_
      refine RL.nil ?_
      refine thnN ?_
      refine W.seq ?_
      refine W.seq ?_
      obtain ⟨x17, hy2, hp⟩ := Option.bind_eq_some_iff.1 hp
      refine W.cut (fun φ' h' => Fr.sub [(0, (.agg (List.toArray (α := Value) [(.int .i64 a0_0), (.int .i64 a0_1), (.bool a0_2), u0_3, u0_4]))), (1, (.agg (List.toArray (α := Value) [u1_0, u1_1, u1_2]))), (2, (.int .i64 a2)), (3, (.pointer (some ⟨bb1, 0, none⟩))), (4, (.pointer (some ⟨bb2, 0, none⟩))), (6, (.bool false)), (7, (.int .i64 x2)), (26, (.bool (decide (x1 < 0)))), (31, (.bool (decide (x2 < 0)))), (8, (.pointer (some ⟨bb3, 0, none⟩))), (9, (.int .i64 x5.2.2.2.1)), (10, (.bool x5.2.2.2.2)), (11, (.pointer (some ⟨bb4, 0, none⟩))), (12, (.pointer (some ⟨bb5, 0, none⟩))), (13, (.pointer (some ⟨bb6, 0, none⟩))), (14, (.int .i64 x8.2.2.2.1)), (15, (.bool x8.2.2.2.2)), (67, (.bool x9)), (72, (.bool (!x12))), (77, (.bool (!x14))), (16, (.int .i64 x16.1)), (101, (.bool x17))] φ' ∧ Mod [] h0 h' ∧ Sep [] h0.size h' [ownO (kF .f32) 25 v19 x16.2.1, ownO (kF .f32) 25 v20 x16.2.2.1, ownO (kF .f32) 25 v21 x16.2.2.2, ownO (kF .f32) 25 v17 x15.2.1, ownO (kF .f32) 25 v18 x15.2.2, boxO bb6 [v22, v23, v24], ownO (kF .f32) 25 v22 x8.1, ownO (kF .f32) 25 v23 x8.2.1, ownO (kF .f32) 25 v24 x8.2.2.1, boxO bb5 [v19, v20, v21], boxO bb4 [(.int .i64 x6.1), (.int .i64 x6.2.1), (.bool x6.2.2.1), v17, v18], boxO bb3 [v6, v7, v8], ownO (kF .f32) 25 v6 x5.1, ownO (kF .f32) 25 v7 x5.2.1, ownO (kF .f32) 25 v8 x5.2.2.1, boxO bb2 [u1_0, u1_1, u1_2], boxO bb1 [(.int .i64 a0_0), (.int .i64 a0_1), (.bool a0_2), u0_3, u0_4]]) ?_ ?_
      ·by_cases c8 : (decide (x16.1 < 0)) = true
       ·rw [if_pos c8] at hy2
        refine W.region ?_
        refine RL.opD (by decide) (opv_move rfl rfl) ?_
        refine RL.opD (by decide) (opv_icmp rfl rfl rfl rfl) ?_
        refine RL.opD (by decide) (opv_move rfl rfl) ?_
        refine RL.noT rfl rfl c8 (by decide) ?_
        refine RL.noT rfl rfl c8 (by decide) ?_
        refine RL.noT rfl rfl c8 (by decide) ?_
        refine RL.noT rfl rfl c8 (by decide) ?_
        refine RL.opD (by decide) (opv_pick rfl rfl (fun _ => rfl) (fun e => absurd (Eq.trans (Eq.symm e) c8) (by decide)) rfl) ?_
        refine RL.opD (by decide) (opv_move rfl rfl) ?_
        refine RL.noT rfl rfl rfl (by decide) ?_
        refine RL.noT rfl rfl rfl (by decide) ?_
        refine RL.noT rfl rfl rfl (by decide) ?_
        refine RL.opD (by decide) (opv_pick rfl rfl (fun _ => rfl) (fun e => absurd (Eq.trans (Eq.symm e) rfl) (by decide)) rfl) ?_
        refine RL.opD (by decide) (opv_move rfl rfl) ?_
        refine RL.noT rfl rfl rfl (by decide) ?_
        refine RL.noT rfl rfl rfl (by decide) ?_
        refine RL.noT rfl rfl rfl (by decide) ?_
        refine RL.opD (by decide) (opv_pick rfl rfl (fun _ => rfl) (fun e => absurd (Eq.trans (Eq.symm e) rfl) (by decide)) rfl) ?_
        refine RL.nil ?_
        have ey2 := Option.some.inj hy2
        subst ey2
        refine onlyN ?_
        exact ⟨⟨rfl, rfl, rfl, rfl, rfl, rfl, rfl, rfl, rfl, rfl, rfl, rfl, rfl, rfl, rfl, rfl, rfl, rfl, rfl, rfl, rfl, rfl, trivial⟩, X_30, (Sep.sel S_41 [0, 1, 2, 3, 4, 5, 6, 7, 8, 9, 10, 11, 12, 13, 14, 15, 16] (by decide))⟩
       ·rw [if_neg c8] at hy2
        have c8 := eq_false_of_ne_true c8
        obtain ⟨x18, hx18, hy2⟩ := Option.bind_eq_some_iff.1 hy2
        by_cases c9 : (!x18) = true
        ·rw [if_pos c9] at hy2
         refine W.region ?_
         refine RL.opD (by decide) (opv_move rfl rfl) ?_
         refine RL.opD (by decide) (opv_icmp rfl rfl rfl rfl) ?_
         refine RL.opD (by decide) (opv_move rfl rfl) ?_
         refine RL.yesD rfl rfl c8 (by decide) (opv_loadA (us := [v22, v23, v24]) rfl Try.agg28 Try.size28 rfl (Sep.at (o := boxO bb6 [v22, v23, v24]) S_41 5 rfl) rfl rfl) ?_
         refine RL.yesD rfl rfl c8 (by decide) (opv_loadA (us := [v6, v7, v8]) rfl Try.agg28 Try.size28 rfl (Sep.at (o := boxO bb3 [v6, v7, v8]) S_41 11 rfl) rfl rfl) ?_
         refine RL.yes _ rfl rfl c8 (by decide) (opv_call (cap := []) (laws_eqField_ok _ _ _ (ownO.read (Sep.at (o := ownO (kF .f32) 25 v22 x8.1) S_41 6 rfl)) _ _ (ownO.read (Sep.at (o := ownO (kF .f32) 25 v23 x8.2.1) S_41 7 rfl)) _ _ (ownO.read (Sep.at (o := ownO (kF .f32) 25 v24 x8.2.2.1) S_41 8 rfl)) _ _ (ownO.read (Sep.at (o := ownO (kF .f32) 25 v6 x5.1) S_41 12 rfl)) _ _ (ownO.read (Sep.at (o := ownO (kF .f32) 25 v7 x5.2.1) S_41 13 rfl)) _ _ (ownO.read (Sep.at (o := ownO (kF .f32) 25 v8 x5.2.2.1) S_41 14 rfl)) _ hx18) rfl rfl ⟨rfl, rfl, trivial⟩ Try.func16 rfl rfl) ?_
         rintro _ hp54 ⟨rfl, MT_27, T_27⟩
         obtain ⟨X_31, S_42⟩ := Sep.turn0 X_30 S_41 MT_27 T_27
         refine RL.yesD rfl rfl c8 (by decide) (opv_not rfl rfl) ?_
         refine RL.opD (by decide) (opv_pick rfl rfl (fun e => absurd (Eq.trans (Eq.symm e) c8) (by decide)) (fun _ => rfl) rfl) ?_
         refine RL.opD (by decide) (opv_move rfl rfl) ?_
         refine RL.noT rfl rfl c9 (by decide) ?_
         refine RL.noT rfl rfl c9 (by decide) ?_
         refine RL.noT rfl rfl c9 (by decide) ?_
         refine RL.opD (by decide) (opv_pick rfl rfl (fun _ => rfl) (fun e => absurd (Eq.trans (Eq.symm e) c9) (by decide)) rfl) ?_
         refine RL.opD (by decide) (opv_move rfl rfl) ?_
         refine RL.noT rfl rfl rfl (by decide) ?_
         refine RL.noT rfl rfl rfl (by decide) ?_
         refine RL.noT rfl rfl rfl (by decide) ?_
         refine RL.opD (by decide) (opv_pick rfl rfl (fun _ => rfl) (fun e => absurd (Eq.trans (Eq.symm e) rfl) (by decide)) rfl) ?_
         refine RL.nil ?_
         have ey2 := Option.some.inj hy2
         subst ey2
         refine onlyN ?_
         exact ⟨⟨rfl, rfl, rfl, rfl, rfl, rfl, rfl, rfl, rfl, rfl, rfl, rfl, rfl, rfl, rfl, rfl, rfl, rfl, rfl, rfl, rfl, rfl, trivial⟩, X_31, (Sep.sel S_42 [0, 1, 2, 3, 4, 5, 6, 7, 8, 9, 10, 11, 12, 13, 14, 15, 16] (by decide))⟩
        ·rw [if_neg c9] at hy2
         have c9 := eq_false_of_ne_true c9
         by_cases c10 : (x8.2.2.2.1 != x5.2.2.2.1) = true
         ·rw [if_pos c10] at hy2
          refine W.region ?_
          refine RL.opD (by decide) (opv_move rfl rfl) ?_
          refine RL.opD (by decide) (opv_icmp rfl rfl rfl rfl) ?_
          refine RL.opD (by decide) (opv_move rfl rfl) ?_
          refine RL.yesD rfl rfl c8 (by decide) (opv_loadA (us := [v22, v23, v24]) rfl Try.agg28 Try.size28 rfl (Sep.at (o := boxO bb6 [v22, v23, v24]) S_41 5 rfl) rfl rfl) ?_
          refine RL.yesD rfl rfl c8 (by decide) (opv_loadA (us := [v6, v7, v8]) rfl Try.agg28 Try.size28 rfl (Sep.at (o := boxO bb3 [v6, v7, v8]) S_41 11 rfl) rfl rfl) ?_
          refine RL.yes _ rfl rfl c8 (by decide) (opv_call (cap := []) (laws_eqField_ok _ _ _ (ownO.read (Sep.at (o := ownO (kF .f32) 25 v22 x8.1) S_41 6 rfl)) _ _ (ownO.read (Sep.at (o := ownO (kF .f32) 25 v23 x8.2.1) S_41 7 rfl)) _ _ (ownO.read (Sep.at (o := ownO (kF .f32) 25 v24 x8.2.2.1) S_41 8 rfl)) _ _ (ownO.read (Sep.at (o := ownO (kF .f32) 25 v6 x5.1) S_41 12 rfl)) _ _ (ownO.read (Sep.at (o := ownO (kF .f32) 25 v7 x5.2.1) S_41 13 rfl)) _ _ (ownO.read (Sep.at (o := ownO (kF .f32) 25 v8 x5.2.2.1) S_41 14 rfl)) _ hx18) rfl rfl ⟨rfl, rfl, trivial⟩ Try.func16 rfl rfl) ?_
          rintro _ hp54 ⟨rfl, MT_27, T_27⟩
          obtain ⟨X_31, S_42⟩ := Sep.turn0 X_30 S_41 MT_27 T_27
          refine RL.yesD rfl rfl c8 (by decide) (opv_not rfl rfl) ?_
          refine RL.opD (by decide) (opv_pick rfl rfl (fun e => absurd (Eq.trans (Eq.symm e) c8) (by decide)) (fun _ => rfl) rfl) ?_
          refine RL.opD (by decide) (opv_move rfl rfl) ?_
          refine RL.yesD rfl rfl c9 (by decide) (opv_move rfl rfl) ?_
          refine RL.yesD rfl rfl c9 (by decide) (opv_move rfl rfl) ?_
          refine RL.yesD rfl rfl c9 (by decide) (opv_icmp rfl rfl rfl rfl) ?_
          refine RL.opD (by decide) (opv_pick rfl rfl (fun e => absurd (Eq.trans (Eq.symm e) c9) (by decide)) (fun _ => rfl) rfl) ?_
          refine RL.opD (by decide) (opv_move rfl rfl) ?_
          refine RL.noT rfl rfl c10 (by decide) ?_
          refine RL.noT rfl rfl c10 (by decide) ?_
          refine RL.noT rfl rfl c10 (by decide) ?_
          refine RL.opD (by decide) (opv_pick rfl rfl (fun _ => rfl) (fun e => absurd (Eq.trans (Eq.symm e) c10) (by decide)) rfl) ?_
          refine RL.nil ?_
          have ey2 := Option.some.inj hy2
          subst ey2
          refine onlyN ?_
          exact ⟨⟨rfl, rfl, rfl, rfl, rfl, rfl, rfl, rfl, rfl, rfl, rfl, rfl, rfl, rfl, rfl, rfl, rfl, rfl, rfl, rfl, rfl, rfl, trivial⟩, X_31, (Sep.sel S_42 [0, 1, 2, 3, 4, 5, 6, 7, 8, 9, 10, 11, 12, 13, 14, 15, 16] (by decide))⟩
         ·rw [if_neg c10] at hy2
          have c10 := eq_false_of_ne_true c10
          refine W.region ?_
          refine RL.opD (by decide) (opv_move rfl rfl) ?_
          refine RL.opD (by decide) (opv_icmp rfl rfl rfl rfl) ?_
          refine RL.opD (by decide) (opv_move rfl rfl) ?_
          refine RL.yesD rfl rfl c8 (by decide) (opv_loadA (us := [v22, v23, v24]) rfl Try.agg28 Try.size28 rfl (Sep.at (o := boxO bb6 [v22, v23, v24]) S_41 5 rfl) rfl rfl) ?_
          refine RL.yesD rfl rfl c8 (by decide) (opv_loadA (us := [v6, v7, v8]) rfl Try.agg28 Try.size28 rfl (Sep.at (o := boxO bb3 [v6, v7, v8]) S_41 11 rfl) rfl rfl) ?_
          refine RL.yes _ rfl rfl c8 (by decide) (opv_call (cap := []) (laws_eqField_ok _ _ _ (ownO.read (Sep.at (o := ownO (kF .f32) 25 v22 x8.1) S_41 6 rfl)) _ _ (ownO.read (Sep.at (o := ownO (kF .f32) 25 v23 x8.2.1) S_41 7 rfl)) _ _ (ownO.read (Sep.at (o := ownO (kF .f32) 25 v24 x8.2.2.1) S_41 8 rfl)) _ _ (ownO.read (Sep.at (o := ownO (kF .f32) 25 v6 x5.1) S_41 12 rfl)) _ _ (ownO.read (Sep.at (o := ownO (kF .f32) 25 v7 x5.2.1) S_41 13 rfl)) _ _ (ownO.read (Sep.at (o := ownO (kF .f32) 25 v8 x5.2.2.1) S_41 14 rfl)) _ hx18) rfl rfl ⟨rfl, rfl, trivial⟩ Try.func16 rfl rfl) ?_
          rintro _ hp54 ⟨rfl, MT_27, T_27⟩
          obtain ⟨X_31, S_42⟩ := Sep.turn0 X_30 S_41 MT_27 T_27
          refine RL.yesD rfl rfl c8 (by decide) (opv_not rfl rfl) ?_
          refine RL.opD (by decide) (opv_pick rfl rfl (fun e => absurd (Eq.trans (Eq.symm e) c8) (by decide)) (fun _ => rfl) rfl) ?_
          refine RL.opD (by decide) (opv_move rfl rfl) ?_
          refine RL.yesD rfl rfl c9 (by decide) (opv_move rfl rfl) ?_
          refine RL.yesD rfl rfl c9 (by decide) (opv_move rfl rfl) ?_
          refine RL.yesD rfl rfl c9 (by decide) (opv_icmp rfl rfl rfl rfl) ?_
          refine RL.opD (by decide) (opv_pick rfl rfl (fun e => absurd (Eq.trans (Eq.symm e) c9) (by decide)) (fun _ => rfl) rfl) ?_
          refine RL.opD (by decide) (opv_move rfl rfl) ?_
          refine RL.yesD rfl rfl c10 (by decide) (opv_move rfl rfl) ?_
          refine RL.yesD rfl rfl c10 (by decide) (opv_move rfl rfl) ?_
          refine RL.yesD rfl rfl c10 (by decide) (opv_bcmp rfl rfl Try.underlying4 rfl rfl) ?_
          refine RL.opD (by decide) (opv_pick rfl rfl (fun e => absurd (Eq.trans (Eq.symm e) c10) (by decide)) (fun _ => rfl) rfl) ?_
          refine RL.nil ?_
          have ey2 := Option.some.inj hy2
          subst ey2
          refine onlyN ?_
          exact ⟨⟨rfl, rfl, rfl, rfl, rfl, rfl, rfl, rfl, rfl, rfl, rfl, rfl, rfl, rfl, rfl, rfl, rfl, rfl, rfl, rfl, rfl, rfl, trivial⟩, X_31, (Sep.sel S_42 [0, 1, 2, 3, 4, 5, 6, 7, 8, 9, 10, 11, 12, 13, 14, 15, 16] (by decide))⟩
      rintro φ' hp55 ⟨hs2, X_32, S_43⟩
      refine thnN ?_
      refine W.sub hs2 ?_
      by_cases c11 : x17 = true
      ·rw [if_pos c11] at hp
       refine W.condT rfl c11 ?_
       refine W.seq ?_
       refine W.region ?_
       refine RL.opD (by decide) (opv_assign rfl rfl) ?_
       refine RL.nil ?_
       refine thnN ?_
       refine W.ret ?_
       refine thnR ?_
       have er := Option.some.inj hp
       subst er
       exact Rt.one rfl rfl ⟨rfl, X_32, (Sep.nil _ _ _)⟩
      ·rw [if_neg c11] at hp
       have c11 := eq_false_of_ne_true c11
       refine W.condF rfl c11 ?_
       refine W.skip ?_
       refine thnN ?_
       refine W.seq ?_
       refine W.region ?_
       refine RL.opD (by decide) (opv_assign rfl rfl) ?_
       refine RL.nil ?_
       refine thnN ?_
       refine W.seq ?_
       obtain ⟨x19, hx19, hp⟩ := Option.bind_eq_some_iff.1 hp
       refine W.region ?_
       refine RL.opD (by decide) (opv_loadA (us := [v22, v23, v24]) rfl Try.agg28 Try.size28 rfl (Sep.at (o := boxO bb6 [v22, v23, v24]) S_43 5 rfl) rfl rfl) ?_
       refine RL.opD (by decide) (opv_move rfl rfl) ?_
       have S_45 : Sep [] h0.size hp55 [ownO (kF .f32) 25 v22 x8.1, ownO (kF .f32) 25 v23 x8.2.1, ownO (kF .f32) 25 v24 x8.2.2.1] := Sep.sel S_43 [6, 7, 8] (by decide)
       have S_44 : Sep [v22.ownBlock, v23.ownBlock, v24.ownBlock] hp55.size hp55 [ownO (kF .f32) 25 v22 x8.1, ownO (kF .f32) 25 v23 x8.2.1, ownO (kF .f32) 25 v24 x8.2.2.1] := Sep.own S_45 _
       refine RL.op _ (by decide) (opv_call (cap := []) (laws_markField_ok _ h0.size (Nat.le_trans (Nat.le_refl _) (Mod.size X_32)) _ _ _ _ _ _ _ S_44 (Sep.ge (L := [ownO (kF .f32) 25 v22 x8.1, ownO (kF .f32) 25 v23 x8.2.1, ownO (kF .f32) 25 v24 x8.2.2.1]) S_45 (Nat.le_refl _) nob) _ hx19) rfl rfl ⟨rfl, rfl, trivial⟩ Try.func19 rfl rfl) ?_
       rintro _ hp56 ⟨rfl, MT_28, T_28⟩
       have S_46 : Sep [] h0.size hp55 ([ownO (kF .f32) 25 v22 x8.1, ownO (kF .f32) 25 v23 x8.2.1, ownO (kF .f32) 25 v24 x8.2.2.1] ++ [ownO (kF .f32) 25 v19 x16.2.1, ownO (kF .f32) 25 v20 x16.2.2.1, ownO (kF .f32) 25 v21 x16.2.2.2, ownO (kF .f32) 25 v17 x15.2.1, ownO (kF .f32) 25 v18 x15.2.2, boxO bb6 [v22, v23, v24], boxO bb5 [v19, v20, v21], boxO bb4 [(.int .i64 x6.1), (.int .i64 x6.2.1), (.bool x6.2.2.1), v17, v18], boxO bb3 [v6, v7, v8], ownO (kF .f32) 25 v6 x5.1, ownO (kF .f32) 25 v7 x5.2.1, ownO (kF .f32) 25 v8 x5.2.2.1, boxO bb2 [u1_0, u1_1, u1_2], boxO bb1 [(.int .i64 a0_0), (.int .i64 a0_1), (.bool a0_2), u0_3, u0_4]]) := Sep.sel S_43 [6, 7, 8, 0, 1, 2, 3, 4, 5, 9, 10, 11, 12, 13, 14, 15, 16] (by decide)
       obtain ⟨X_33, S_47⟩ := Sep.turn X_32 S_46 MT_28 T_28
       refine RL.opD (by decide) (opv_assign rfl rfl) ?_
       refine RL.nil ?_
       refine thnN ?_
       refine W.seq ?_
       refine W.region ?_
       refine RL.opD (by decide) (opv_assign rfl rfl) ?_
       refine RL.nil ?_
       refine thnN ?_
       refine W.seq ?_
       obtain ⟨x20, hx20, hp⟩ := Option.bind_eq_some_iff.1 hp
       refine W.region ?_
       refine RL.opD (by decide) (opv_loadA (us := [v22, v23, v24]) rfl Try.agg28 Try.size28 rfl (Sep.at (o := boxO bb6 [v22, v23, v24]) S_47 8 rfl) rfl rfl) ?_
       refine RL.opD (by decide) (opv_move rfl rfl) ?_
       refine RL.op _ (by decide) (opv_call (cap := []) (laws_heldField_ok _ _ _ (ownO.read (Sep.at (o := ownO (kF .f32) 25 v22 x19.2.1) S_47 0 rfl)) _ _ (ownO.read (Sep.at (o := ownO (kF .f32) 25 v23 x19.2.2.1) S_47 1 rfl)) _ _ (ownO.read (Sep.at (o := ownO (kF .f32) 25 v24 x19.2.2.2) S_47 2 rfl)) _ _ hx20) rfl rfl ⟨rfl, rfl, trivial⟩ Try.func20 rfl rfl) ?_
       rintro _ hp57 ⟨rfl, MT_29, T_29⟩
       obtain ⟨X_34, S_48⟩ := Sep.turn0 X_33 S_47 MT_29 T_29
       refine RL.opD (by decide) (opv_assign rfl rfl) ?_
       refine RL.nil ?_
       refine thnN ?_
       refine W.seq ?_
       refine W.seq ?_
       refine W.region ?_
       refine RL.opD (by decide) (opv_move rfl rfl) ?_
       refine RL.opD (by decide) (opv_icmp rfl rfl rfl rfl) ?_
       refine RL.nil ?_
       refine thnN ?_
       by_cases c12 : (decide (x20 < 0)) = true
       ·rw [if_pos c12] at hp
        refine W.condT rfl c12 ?_
        refine W.seq ?_
        refine W.region ?_
        refine RL.opD (by decide) (opv_assign rfl rfl) ?_
        refine RL.nil ?_
        refine thnN ?_
        refine W.ret ?_
        refine thnR ?_
        have er := Option.some.inj hp
        subst er
        exact Rt.one rfl rfl ⟨rfl, X_34, (Sep.nil _ _ _)⟩
       ·rw [if_neg c12] at hp
        have c12 := eq_false_of_ne_true c12
        refine W.condF rfl c12 ?_
        refine W.skip ?_
        refine thnN ?_
        refine W.seq ?_
        refine W.seq ?_
        refine W.region ?_
        refine RL.opD (by decide) (opv_move rfl rfl) ?_
        refine RL.opD (by decide) (opv_move rfl rfl) ?_
        refine RL.opD (by decide) (opv_icmp rfl rfl rfl rfl) ?_
        refine RL.nil ?_
        refine thnN ?_
        by_cases c13 : (x20 != x19.1) = true
        ·rw [if_pos c13] at hp
         refine W.condT rfl c13 ?_
         refine W.seq ?_
         refine W.region ?_
         refine RL.opD (by decide) (opv_assign rfl rfl) ?_
         refine RL.nil ?_
         refine thnN ?_
         refine W.ret ?_
         refine thnR ?_
         have er := Option.some.inj hp
         subst er
         exact Rt.one rfl rfl ⟨rfl, X_34, (Sep.nil _ _ _)⟩
        ·rw [if_neg c13] at hp
         have c13 := eq_false_of_ne_true c13
         refine W.condF rfl c13 ?_
         refine W.skip ?_
         refine thnN ?_
         refine W.seq ?_
         obtain ⟨x21, hx21, hp⟩ := Option.bind_eq_some_iff.1 hp
         obtain ⟨x22, hx22, hp⟩ := Option.bind_eq_some_iff.1 hp
         obtain ⟨x23, hx23, hp⟩ := Option.bind_eq_some_iff.1 hp
         refine W.sub (ψ := [(0, (.agg (List.toArray (α := Value) [(.int .i64 a0_0), (.int .i64 a0_1), (.bool a0_2), u0_3, u0_4]))), (1, (.agg (List.toArray (α := Value) [u1_0, u1_1, u1_2]))), (2, (.int .i64 a2)), (3, (.pointer (some ⟨bb1, 0, none⟩))), (4, (.pointer (some ⟨bb2, 0, none⟩))), (6, (.bool false)), (7, (.int .i64 x2)), (26, (.bool (decide (x1 < 0)))), (31, (.bool (decide (x2 < 0)))), (8, (.pointer (some ⟨bb3, 0, none⟩))), (9, (.int .i64 x5.2.2.2.1)), (10, (.bool x5.2.2.2.2)), (11, (.pointer (some ⟨bb4, 0, none⟩))), (12, (.pointer (some ⟨bb5, 0, none⟩))), (13, (.pointer (some ⟨bb6, 0, none⟩))), (14, (.int .i64 x8.2.2.2.1)), (15, (.bool x8.2.2.2.2)), (67, (.bool x9)), (72, (.bool (!x12))), (77, (.bool (!x14))), (16, (.int .i64 x16.1)), (101, (.bool x17)), (17, (.int .i64 x19.1)), (18, (.int .i64 x20)), (109, (.bool (decide (x20 < 0)))), (112, (.bool (x20 != x19.1)))]) ⟨rfl, rfl, rfl, rfl, rfl, rfl, rfl, rfl, rfl, rfl, rfl, rfl, rfl, rfl, rfl, rfl, rfl, rfl, rfl, rfl, rfl, rfl, rfl, rfl, rfl, rfl, trivial⟩ ?_
         refine W.regionL [fun v _ => @Eq Value (.agg (List.toArray (α := Value) [(.int .i64 a0_0), (.int .i64 a0_1), (.bool a0_2), u0_3, u0_4])) v, fun v h => ∃ v35, ∃ v36, @Eq Value v (.agg (List.toArray (α := Value) [(.int .i64 x21.1), (.int .i64 x21.2.1), (.bool x21.2.2.1), v35, v36])) ∧ Sep [] hp57.size h [ownO (kF .f32) 25 v35 x21.2.2.2.1, ownO (kF .f32) 25 v36 x21.2.2.2.2], fun v _ => @Eq Value (.agg (List.toArray (α := Value) [u1_0, u1_1, u1_2])) v, fun v h => ∃ v37, ∃ v38, ∃ v39, @Eq Value v (.agg (List.toArray (α := Value) [v37, v38, v39])) ∧ Sep [] hp57.size h [ownO (kF .f32) 25 v37 x22.1, ownO (kF .f32) 25 v38 x22.2.1, ownO (kF .f32) 25 v39 x22.2.2], fun v _ => @Eq Value (.int .i64 a2) v, fun v h => ∃ v40, ∃ v41, ∃ v42, @Eq Value v (.tuple (List.toArray (α := Value) [(.agg (List.toArray (α := Value) [v40, v41, v42])), (.int .i64 x23.2.2.2.1), (.bool x23.2.2.2.2)])) ∧ Sep [] hp57.size h [ownO (kF .f32) 25 v40 x23.1, ownO (kF .f32) 25 v41 x23.2.1, ownO (kF .f32) 25 v42 x23.2.2.1], fun v h => ∃ v40, ∃ v41, ∃ v42, @Eq Value v (.tuple (List.toArray (α := Value) [(.agg (List.toArray (α := Value) [v40, v41, v42])), (.int .i64 x23.2.2.2.1), (.bool x23.2.2.2.2)])) ∧ Sep [] hp57.size h [ownO (kF .f32) 25 v40 x23.1, ownO (kF .f32) 25 v41 x23.2.1, ownO (kF .f32) 25 v42 x23.2.2.1], fun v h => ∃ v40, ∃ v41, ∃ v42, @Eq Value v (.agg (List.toArray (α := Value) [v40, v41, v42])) ∧ Sep [] hp57.size h [ownO (kF .f32) 25 v40 x23.1, ownO (kF .f32) 25 v41 x23.2.1, ownO (kF .f32) 25 v42 x23.2.2.1], fun v _ => @Eq Value (.int .i64 x23.2.2.2.1) v, fun v _ => @Eq Value (.bool x23.2.2.2.2) v, fun v h => ∃ b, @Eq Value v (.pointer (some ⟨b, 0, none⟩)) ∧ Sep [] hp57.size h [boxO b [(.slice none 0 0), (.slice none 0 0), (.slice none 0 0)]]] [none, some (fun u => [Value.ownBlock (vget u 3), Value.ownBlock (vget u 4)]), none, some (fun u => [Value.ownBlock (vget u 0), Value.ownBlock (vget u 1), Value.ownBlock (vget u 2)]), none, some (fun u => [Value.ownBlock (vget (vget u 0) 0), Value.ownBlock (vget (vget u 0) 1), Value.ownBlock (vget (vget u 0) 2)]), none, none, none, none, some (fun u => [ptrB u])] [none, none, none, none, none, none, some (119, fun u => u), some (113, fun u => vget u 0)] [8, 9] [[], [0], [], [2], [], [1, 3, 4], [5], [6], [6], [6], []] [5, 6, 7, 8, 9, 10] Try.mixed (by decide +kernel) (by decide +kernel) (fun _ _ _ h => h) rfl rfl rfl (by decide +kernel) rfl ⟨fun _ _ _ h _ => h, fun _ _ _ ⟨u0_, u1_, e, h⟩ x => ⟨u0_, u1_, e, h.ext x⟩, fun _ _ _ h _ => h, fun _ _ _ ⟨u0_, u1_, u2_, e, h⟩ x => ⟨u0_, u1_, u2_, e, h.ext x⟩, fun _ _ _ h _ => h, fun _ _ _ ⟨u0_, u1_, u2_, e, h⟩ x => ⟨u0_, u1_, u2_, e, h.ext x⟩, fun _ _ _ ⟨u0_, u1_, u2_, e, h⟩ x => ⟨u0_, u1_, u2_, e, h.ext x⟩, fun _ _ _ ⟨u0_, u1_, u2_, e, h⟩ x => ⟨u0_, u1_, u2_, e, h.ext x⟩, fun _ _ _ h _ => h, fun _ _ _ h _ => h, fun _ _ _ ⟨b, e, h⟩ x => ⟨b, e, h.ext x⟩, trivial⟩ ?_ (.cons ?_ (.cons ?_ (.nil))) ?_
         ·refine ⟨⟨rfl, ?_⟩, ⟨rfl, ?_⟩, ⟨rfl, ?_⟩, ⟨rfl, ?_⟩, ⟨rfl, ?_⟩, ⟨rfl, ?_⟩, ⟨rfl, ?_⟩, ⟨rfl, ?_⟩, ⟨rfl, ?_⟩, ⟨rfl, ?_⟩, ⟨rfl, ?_⟩, trivial⟩
          ·rintro hp63 E_27
           refine Dep.nil ?_
           refine GuardOK.none rfl ?_
           exact OpV.toDx (opv_loadA (us := [(.int .i64 a0_0), (.int .i64 a0_1), (.bool a0_2), u0_3, u0_4]) rfl Try.agg24 Try.size24 rfl (Sep.at (o := boxO bb1 [(.int .i64 a0_0), (.int .i64 a0_1), (.bool a0_2), u0_3, u0_4]) (Sep.ext S_48 E_27) 16 rfl) rfl rfl) rfl
          ·rintro hp64 E_28 _ rfl
           refine Dep.nil ?_
           refine GuardOK.none rfl ?_
           exact OpV.mono (opv_call (cap := []) (laws_toSheet_ok _ _ _ _ _ _ (SL.up (SL.mod g0_3 (Mod.lift X_34 E_28) (Nat.le_refl _) nob) (Nat.le_trans (Nat.le_refl _) (Mod.size (Mod.lift X_34 E_28)))) _ _ (SL.up (SL.mod g0_4 (Mod.lift X_34 E_28) (Nat.le_refl _) nob) (Nat.le_trans (Nat.le_refl _) (Mod.size (Mod.lift X_34 E_28)))) _ hx21) rfl rfl ⟨rfl, trivial⟩ Try.func14 rfl rfl) (by rintro _ _ ⟨v35, v36, rfl, M_, T_⟩; exact ⟨Mod.ext M_, ⟨v35, v36, rfl, Sep.weak T_ (Ext.size E_28)⟩, Sep.fresh T_⟩)
          ·rintro hp65 E_29
           refine Dep.nil ?_
           refine GuardOK.none rfl ?_
           exact OpV.toDx (opv_loadA (us := [u1_0, u1_1, u1_2]) rfl Try.agg38 Try.size38 rfl (Sep.at (o := boxO bb2 [u1_0, u1_1, u1_2]) (Sep.ext S_48 E_29) 15 rfl) rfl rfl) rfl
          ·rintro hp66 E_30 _ rfl
           refine Dep.nil ?_
           refine GuardOK.none rfl ?_
           exact OpV.mono (opv_call (cap := []) (laws_toField_ok _ _ _ (SL.up (SL.mod g1_0 (Mod.lift X_34 E_30) (Nat.le_refl _) nob) (Nat.le_trans (Nat.le_refl _) (Mod.size (Mod.lift X_34 E_30)))) _ _ (SL.up (SL.mod g1_1 (Mod.lift X_34 E_30) (Nat.le_refl _) nob) (Nat.le_trans (Nat.le_refl _) (Mod.size (Mod.lift X_34 E_30)))) _ _ (SL.up (SL.mod g1_2 (Mod.lift X_34 E_30) (Nat.le_refl _) nob) (Nat.le_trans (Nat.le_refl _) (Mod.size (Mod.lift X_34 E_30)))) _ hx22) rfl rfl ⟨rfl, trivial⟩ Try.func23 rfl rfl) (by rintro _ _ ⟨v37, v38, v39, rfl, M_, T_⟩; exact ⟨Mod.ext M_, ⟨v37, v38, v39, rfl, Sep.weak T_ (Ext.size E_30)⟩, Sep.fresh T_⟩)
          ·rintro hp67 E_31
           refine Dep.nil ?_
           refine GuardOK.none rfl ?_
           exact OpV.toDx (opv_move rfl rfl) rfl
          ·rintro hp68 E_32 _ ⟨v35, v36, rfl, T_30⟩ _ ⟨v37, v38, v39, rfl, T_31⟩ _ rfl
           refine Dep.nil ?_
           refine GuardOK.none rfl ?_
           exact OpV.mono (opv_call (cap := []) (impl_StepAwake_ok _ _ _ _ _ _ (ownO.read (Sep.at (o := ownO (kF .f32) 25 v35 x21.2.2.2.1) T_30 0 rfl)) _ _ (ownO.read (Sep.at (o := ownO (kF .f32) 25 v36 x21.2.2.2.2) T_30 1 rfl)) _ _ (ownO.read (Sep.at (o := ownO (kF .f32) 25 v37 x22.1) T_31 0 rfl)) _ _ (ownO.read (Sep.at (o := ownO (kF .f32) 25 v38 x22.2.1) T_31 1 rfl)) _ _ (ownO.read (Sep.at (o := ownO (kF .f32) 25 v39 x22.2.2) T_31 2 rfl)) _ _ hx23) rfl rfl ⟨rfl, rfl, rfl, trivial⟩ Try.func32 rfl rfl) (by rintro _ _ ⟨v40, v41, v42, rfl, M_, T_⟩; exact ⟨Mod.ext M_, ⟨v40, v41, v42, rfl, Sep.weak T_ (Ext.size E_32)⟩, Sep.fresh T_⟩)
          ·rintro hp69 E_33 _ ⟨v40, v41, v42, rfl, T_32⟩
           refine Dep.nil ?_
           refine GuardOK.none rfl ?_
           exact OpV.mono (opv_move rfl rfl) (by rintro _ _ ⟨rfl, rfl⟩; exact ⟨⟨Ext.refl _, v40, v41, v42, rfl, T_32⟩, _, rfl, rfl⟩)
          ·rintro hp70 E_34 _ ⟨v40, v41, v42, rfl, T_32⟩
           refine Dep.nil ?_
           refine GuardOK.none rfl ?_
           exact OpV.mono (opv_extract rfl rfl rfl) (by rintro _ _ ⟨rfl, rfl⟩; exact ⟨⟨Ext.refl _, v40, v41, v42, rfl, T_32⟩, _, rfl, rfl⟩)
          ·rintro hp71 E_35 _ ⟨v40, v41, v42, rfl, T_32⟩
           refine Dep.nil ?_
           refine GuardOK.none rfl ?_
           exact OpV.toDx (opv_extract rfl rfl rfl) rfl
          ·rintro hp72 E_36 _ ⟨v40, v41, v42, rfl, T_32⟩
           refine Dep.nil ?_
           refine GuardOK.none rfl ?_
           exact OpV.toDx (opv_extract rfl rfl rfl) rfl
          ·rintro hp73 E_37
           refine Dep.nil ?_
           refine GuardOK.none rfl ?_
           exact OpV.mono (opS_boxed (opv_alloc (cs := [(.slice none 0 0), (.slice none 0 0), (.slice none 0 0)]) rfl Try.zero28 rfl)) (by rintro _ _ ⟨b_, rfl, M_, T_⟩; exact ⟨Mod.ext M_, ⟨b_, rfl, Sep.weak T_ (Ext.size E_37)⟩, Sep.fresh T_⟩)
         ·refine ⟨[6], _, rfl, rfl, rfl, rfl, ?_⟩
          rintro hp74 E_38 _ ⟨v40, v41, v42, rfl, T_32⟩
          refine Dep.nil ?_
          exact ⟨_, opy_extract rfl rfl rfl, ⟨Ext.refl _, rfl⟩⟩
         ·refine ⟨[6], _, rfl, rfl, rfl, rfl, ?_⟩
          rintro hp75 E_39 _ ⟨v40, v41, v42, rfl, T_32⟩
          refine Dep.nil ?_
          exact ⟨_, opy_extract rfl rfl rfl, ⟨Ext.refl _, rfl⟩⟩
         rintro hp76 E_40 _ ⟨v40, v41, v42, rfl, T_32⟩ z6_ _ z7_ _ _ rfl _ rfl _ ⟨bb7, rfl, T_33⟩
         refine DepM.nil ?_
         intro PW_2 LK_
         have ez6_ : z6_ = (.tuple (List.toArray (α := Value) [(.agg (List.toArray (α := Value) [v40, v41, v42])), (.int .i64 x23.2.2.2.1), (.bool x23.2.2.2.2)])) := LK_ 6 _ _ _ _ _ (by decide) rfl rfl rfl rfl
         subst z6_
         have ez7_ : z7_ = (.agg (List.toArray (α := Value) [v40, v41, v42])) := LK_ 7 _ _ _ _ _ (by decide) rfl rfl rfl rfl
         subst z7_
         have X_40 := Mod.lift X_34 E_40
         have S_55 := Sep.join S_48 (Mod.size X_34) (Ext.mod E_40 []) (Sep.both T_32 T_33 (Apt.symm (Apt.of PW_2 0 5 rfl rfl (by decide))))
         show RL _ _ _ _ (_ :: _) _ _
         refine RL.op0 _ (opS_stored (cs := [(.slice none 0 0), (.slice none 0 0), (.slice none 0 0)]) (cs' := [v40, v41, v42]) (opv_storeA (us := [v40, v41, v42]) rfl Try.size28 rfl rfl (oneAll (ownO.one (Sep.at (o := ownO (kF .f32) 25 v40 x23.1) S_55 0 rfl)) (oneAll (ownO.one (Sep.at (o := ownO (kF .f32) 25 v41 x23.2.1) S_55 1 rfl)) (oneAll (ownO.one (Sep.at (o := ownO (kF .f32) 25 v42 x23.2.2.1) S_55 2 rfl)) rfl))) (Sep.at (o := boxO bb7 [(.slice none 0 0), (.slice none 0 0), (.slice none 0 0)]) S_55 3 rfl) rfl rfl) (Sep.at (o := boxO bb7 [(.slice none 0 0), (.slice none 0 0), (.slice none 0 0)]) S_55 3 rfl)) ?_
         rintro _ hp77 ⟨rfl, MT_35, T_35⟩
         have S_56 : Sep [] h0.size hp76 ([boxO bb7 [(.slice none 0 0), (.slice none 0 0), (.slice none 0 0)]] ++ [ownO (kF .f32) 25 v40 x23.1, ownO (kF .f32) 25 v41 x23.2.1, ownO (kF .f32) 25 v42 x23.2.2.1, ownO (kF .f32) 25 v22 x19.2.1, ownO (kF .f32) 25 v23 x19.2.2.1, ownO (kF .f32) 25 v24 x19.2.2.2, ownO (kF .f32) 25 v19 x16.2.1, ownO (kF .f32) 25 v20 x16.2.2.1, ownO (kF .f32) 25 v21 x16.2.2.2, ownO (kF .f32) 25 v17 x15.2.1, ownO (kF .f32) 25 v18 x15.2.2, boxO bb6 [v22, v23, v24], boxO bb5 [v19, v20, v21], boxO bb4 [(.int .i64 x6.1), (.int .i64 x6.2.1), (.bool x6.2.2.1), v17, v18], boxO bb3 [v6, v7, v8], ownO (kF .f32) 25 v6 x5.1, ownO (kF .f32) 25 v7 x5.2.1, ownO (kF .f32) 25 v8 x5.2.2.1, boxO bb2 [u1_0, u1_1, u1_2], boxO bb1 [(.int .i64 a0_0), (.int .i64 a0_1), (.bool a0_2), u0_3, u0_4]]) := Sep.sel S_55 [3, 0, 1, 2, 4, 5, 6, 7, 8, 9, 10, 11, 12, 13, 14, 15, 16, 17, 18, 19, 20] (by decide)
         obtain ⟨X_41, S_57⟩ := Sep.turn X_40 S_56 MT_35 T_35
         refine RL.opD (by decide) (opv_assign rfl rfl) ?_
         refine RL.opD (by decide) (opv_assign rfl rfl) ?_
         refine RL.nil ?_
         refine thnN ?_
         refine W.seq ?_
         refine W.seq ?_
         obtain ⟨x24, hy3, hp⟩ := Option.bind_eq_some_iff.1 hp
         refine W.cut (fun φ' h' => Fr.sub [(0, (.agg (List.toArray (α := Value) [(.int .i64 a0_0), (.int .i64 a0_1), (.bool a0_2), u0_3, u0_4]))), (1, (.agg (List.toArray (α := Value) [u1_0, u1_1, u1_2]))), (2, (.int .i64 a2)), (3, (.pointer (some ⟨bb1, 0, none⟩))), (4, (.pointer (some ⟨bb2, 0, none⟩))), (6, (.bool false)), (7, (.int .i64 x2)), (26, (.bool (decide (x1 < 0)))), (31, (.bool (decide (x2 < 0)))), (8, (.pointer (some ⟨bb3, 0, none⟩))), (9, (.int .i64 x5.2.2.2.1)), (10, (.bool x5.2.2.2.2)), (11, (.pointer (some ⟨bb4, 0, none⟩))), (12, (.pointer (some ⟨bb5, 0, none⟩))), (13, (.pointer (some ⟨bb6, 0, none⟩))), (14, (.int .i64 x8.2.2.2.1)), (15, (.bool x8.2.2.2.2)), (67, (.bool x9)), (72, (.bool (!x12))), (77, (.bool (!x14))), (16, (.int .i64 x16.1)), (101, (.bool x17)), (17, (.int .i64 x19.1)), (18, (.int .i64 x20)), (109, (.bool (decide (x20 < 0)))), (112, (.bool (x20 != x19.1))), (19, (.pointer (some ⟨bb7, 0, none⟩))), (20, (.int .i64 x23.2.2.2.1)), (21, (.bool x23.2.2.2.2)), (136, (.bool x24))] φ' ∧ Mod [] h0 h' ∧ Sep [] h0.size h' [boxO bb7 [v40, v41, v42], ownO (kF .f32) 25 v40 x23.1, ownO (kF .f32) 25 v41 x23.2.1, ownO (kF .f32) 25 v42 x23.2.2.1, ownO (kF .f32) 25 v22 x19.2.1, ownO (kF .f32) 25 v23 x19.2.2.1, ownO (kF .f32) 25 v24 x19.2.2.2, ownO (kF .f32) 25 v19 x16.2.1, ownO (kF .f32) 25 v20 x16.2.2.1, ownO (kF .f32) 25 v21 x16.2.2.2, ownO (kF .f32) 25 v17 x15.2.1, ownO (kF .f32) 25 v18 x15.2.2, boxO bb6 [v22, v23, v24], boxO bb5 [v19, v20, v21], boxO bb4 [(.int .i64 x6.1), (.int .i64 x6.2.1), (.bool x6.2.2.1), v17, v18], boxO bb3 [v6, v7, v8], ownO (kF .f32) 25 v6 x5.1, ownO (kF .f32) 25 v7 x5.2.1, ownO (kF .f32) 25 v8 x5.2.2.1, boxO bb2 [u1_0, u1_1, u1_2], boxO bb1 [(.int .i64 a0_0), (.int .i64 a0_1), (.bool a0_2), u0_3, u0_4]]) ?_ ?_
         ·obtain ⟨x25, hx25, hy3⟩ := Option.bind_eq_some_iff.1 hy3
          by_cases c14 : (!x25) = true
          ·rw [if_pos c14] at hy3
           refine W.region ?_
           refine RL.opD (by decide) (opv_loadA (us := [v40, v41, v42]) rfl Try.agg28 Try.size28 rfl (Sep.at (o := boxO bb7 [v40, v41, v42]) S_57 0 rfl) rfl rfl) ?_
           refine RL.opD (by decide) (opv_loadA (us := [v6, v7, v8]) rfl Try.agg28 Try.size28 rfl (Sep.at (o := boxO bb3 [v6, v7, v8]) S_57 15 rfl) rfl rfl) ?_
           refine RL.op _ (by decide) (opv_call (cap := []) (laws_eqField_ok _ _ _ (ownO.read (Sep.at (o := ownO (kF .f32) 25 v40 x23.1) S_57 1 rfl)) _ _ (ownO.read (Sep.at (o := ownO (kF .f32) 25 v41 x23.2.1) S_57 2 rfl)) _ _ (ownO.read (Sep.at (o := ownO (kF .f32) 25 v42 x23.2.2.1) S_57 3 rfl)) _ _ (ownO.read (Sep.at (o := ownO (kF .f32) 25 v6 x5.1) S_57 16 rfl)) _ _ (ownO.read (Sep.at (o := ownO (kF .f32) 25 v7 x5.2.1) S_57 17 rfl)) _ _ (ownO.read (Sep.at (o := ownO (kF .f32) 25 v8 x5.2.2.1) S_57 18 rfl)) _ hx25) rfl rfl ⟨rfl, rfl, trivial⟩ Try.func16 rfl rfl) ?_
           rintro _ hp78 ⟨rfl, MT_36, T_36⟩
           obtain ⟨X_42, S_58⟩ := Sep.turn0 X_41 S_57 MT_36 T_36
           refine RL.opD (by decide) (opv_not rfl rfl) ?_
           refine RL.opD (by decide) (opv_move rfl rfl) ?_
           refine RL.noT rfl rfl c14 (by decide) ?_
           refine RL.noT rfl rfl c14 (by decide) ?_
           refine RL.noT rfl rfl c14 (by decide) ?_
           refine RL.opD (by decide) (opv_pick rfl rfl (fun _ => rfl) (fun e => absurd (Eq.trans (Eq.symm e) c14) (by decide)) rfl) ?_
           refine RL.opD (by decide) (opv_move rfl rfl) ?_
           refine RL.noT rfl rfl rfl (by decide) ?_
           refine RL.noT rfl rfl rfl (by decide) ?_
           refine RL.noT rfl rfl rfl (by decide) ?_
           refine RL.opD (by decide) (opv_pick rfl rfl (fun _ => rfl) (fun e => absurd (Eq.trans (Eq.symm e) rfl) (by decide)) rfl) ?_
           refine RL.nil ?_
           have ey3 := Option.some.inj hy3
           subst ey3
           refine onlyN ?_
           exact ⟨⟨rfl, rfl, rfl, rfl, rfl, rfl, rfl, rfl, rfl, rfl, rfl, rfl, rfl, rfl, rfl, rfl, rfl, rfl, rfl, rfl, rfl, rfl, rfl, rfl, rfl, rfl, rfl, rfl, rfl, rfl, trivial⟩, X_42, (Sep.sel S_58 [0, 1, 2, 3, 4, 5, 6, 7, 8, 9, 10, 11, 12, 13, 14, 15, 16, 17, 18, 19, 20] (by decide))⟩
          ·rw [if_neg c14] at hy3
           have c14 := eq_false_of_ne_true c14
           by_cases c15 : (x23.2.2.2.1 != x5.2.2.2.1) = true
           ·rw [if_pos c15] at hy3
            refine W.region ?_
            refine RL.opD (by decide) (opv_loadA (us := [v40, v41, v42]) rfl Try.agg28 Try.size28 rfl (Sep.at (o := boxO bb7 [v40, v41, v42]) S_57 0 rfl) rfl rfl) ?_
            refine RL.opD (by decide) (opv_loadA (us := [v6, v7, v8]) rfl Try.agg28 Try.size28 rfl (Sep.at (o := boxO bb3 [v6, v7, v8]) S_57 15 rfl) rfl rfl) ?_
            refine RL.op _ (by decide) (opv_call (cap := []) (laws_eqField_ok _ _ _ (ownO.read (Sep.at (o := ownO (kF .f32) 25 v40 x23.1) S_57 1 rfl)) _ _ (ownO.read (Sep.at (o := ownO (kF .f32) 25 v41 x23.2.1) S_57 2 rfl)) _ _ (ownO.read (Sep.at (o := ownO (kF .f32) 25 v42 x23.2.2.1) S_57 3 rfl)) _ _ (ownO.read (Sep.at (o := ownO (kF .f32) 25 v6 x5.1) S_57 16 rfl)) _ _ (ownO.read (Sep.at (o := ownO (kF .f32) 25 v7 x5.2.1) S_57 17 rfl)) _ _ (ownO.read (Sep.at (o := ownO (kF .f32) 25 v8 x5.2.2.1) S_57 18 rfl)) _ hx25) rfl rfl ⟨rfl, rfl, trivial⟩ Try.func16 rfl rfl) ?_
            rintro _ hp78 ⟨rfl, MT_36, T_36⟩
            obtain ⟨X_42, S_58⟩ := Sep.turn0 X_41 S_57 MT_36 T_36
            refine RL.opD (by decide) (opv_not rfl rfl) ?_
            refine RL.opD (by decide) (opv_move rfl rfl) ?_
            refine RL.yesD rfl rfl c14 (by decide) (opv_move rfl rfl) ?_
            refine RL.yesD rfl rfl c14 (by decide) (opv_move rfl rfl) ?_
            refine RL.yesD rfl rfl c14 (by decide) (opv_icmp rfl rfl rfl rfl) ?_
            refine RL.opD (by decide) (opv_pick rfl rfl (fun e => absurd (Eq.trans (Eq.symm e) c14) (by decide)) (fun _ => rfl) rfl) ?_
            refine RL.opD (by decide) (opv_move rfl rfl) ?_
            refine RL.noT rfl rfl c15 (by decide) ?_
            refine RL.noT rfl rfl c15 (by decide) ?_
            refine RL.noT rfl rfl c15 (by decide) ?_
            refine RL.opD (by decide) (opv_pick rfl rfl (fun _ => rfl) (fun e => absurd (Eq.trans (Eq.symm e) c15) (by decide)) rfl) ?_
            refine RL.nil ?_
            have ey3 := Option.some.inj hy3
            subst ey3
            refine onlyN ?_
            exact ⟨⟨rfl, rfl, rfl, rfl, rfl, rfl, rfl, rfl, rfl, rfl, rfl, rfl, rfl, rfl, rfl, rfl, rfl, rfl, rfl, rfl, rfl, rfl, rfl, rfl, rfl, rfl, rfl, rfl, rfl, rfl, trivial⟩, X_42, (Sep.sel S_58 [0, 1, 2, 3, 4, 5, 6, 7, 8, 9, 10, 11, 12, 13, 14, 15, 16, 17, 18, 19, 20] (by decide))⟩
           ·rw [if_neg c15] at hy3
            have c15 := eq_false_of_ne_true c15
            refine W.region ?_
            refine RL.opD (by decide) (opv_loadA (us := [v40, v41, v42]) rfl Try.agg28 Try.size28 rfl (Sep.at (o := boxO bb7 [v40, v41, v42]) S_57 0 rfl) rfl rfl) ?_
            refine RL.opD (by decide) (opv_loadA (us := [v6, v7, v8]) rfl Try.agg28 Try.size28 rfl (Sep.at (o := boxO bb3 [v6, v7, v8]) S_57 15 rfl) rfl rfl) ?_
            refine RL.op _ (by decide) (opv_call (cap := []) (laws_eqField_ok _ _ _ (ownO.read (Sep.at (o := ownO (kF .f32) 25 v40 x23.1) S_57 1 rfl)) _ _ (ownO.read (Sep.at (o := ownO (kF .f32) 25 v41 x23.2.1) S_57 2 rfl)) _ _ (ownO.read (Sep.at (o := ownO (kF .f32) 25 v42 x23.2.2.1) S_57 3 rfl)) _ _ (ownO.read (Sep.at (o := ownO (kF .f32) 25 v6 x5.1) S_57 16 rfl)) _ _ (ownO.read (Sep.at (o := ownO (kF .f32) 25 v7 x5.2.1) S_57 17 rfl)) _ _ (ownO.read (Sep.at (o := ownO (kF .f32) 25 v8 x5.2.2.1) S_57 18 rfl)) _ hx25) rfl rfl ⟨rfl, rfl, trivial⟩ Try.func16 rfl rfl) ?_
            rintro _ hp78 ⟨rfl, MT_36, T_36⟩
            obtain ⟨X_42, S_58⟩ := Sep.turn0 X_41 S_57 MT_36 T_36
            refine RL.opD (by decide) (opv_not rfl rfl) ?_
            refine RL.opD (by decide) (opv_move rfl rfl) ?_
            refine RL.yesD rfl rfl c14 (by decide) (opv_move rfl rfl) ?_
            refine RL.yesD rfl rfl c14 (by decide) (opv_move rfl rfl) ?_
            refine RL.yesD rfl rfl c14 (by decide) (opv_icmp rfl rfl rfl rfl) ?_
            refine RL.opD (by decide) (opv_pick rfl rfl (fun e => absurd (Eq.trans (Eq.symm e) c14) (by decide)) (fun _ => rfl) rfl) ?_
            refine RL.opD (by decide) (opv_move rfl rfl) ?_
            refine RL.yesD rfl rfl c15 (by decide) (opv_move rfl rfl) ?_
            refine RL.yesD rfl rfl c15 (by decide) (opv_move rfl rfl) ?_
            refine RL.yesD rfl rfl c15 (by decide) (opv_bcmp rfl rfl Try.underlying4 rfl rfl) ?_
            refine RL.opD (by decide) (opv_pick rfl rfl (fun e => absurd (Eq.trans (Eq.symm e) c15) (by decide)) (fun _ => rfl) rfl) ?_
            refine RL.nil ?_
            have ey3 := Option.some.inj hy3
            subst ey3
            refine onlyN ?_
            exact ⟨⟨rfl, rfl, rfl, rfl, rfl, rfl, rfl, rfl, rfl, rfl, rfl, rfl, rfl, rfl, rfl, rfl, rfl, rfl, rfl, rfl, rfl, rfl, rfl, rfl, rfl, rfl, rfl, rfl, rfl, rfl, trivial⟩, X_42, (Sep.sel S_58 [0, 1, 2, 3, 4, 5, 6, 7, 8, 9, 10, 11, 12, 13, 14, 15, 16, 17, 18, 19, 20] (by decide))⟩
         rintro φ' hp79 ⟨hs3, X_43, S_59⟩
         refine thnN ?_
         refine W.sub hs3 ?_
         by_cases c16 : x24 = true
         ·rw [if_pos c16] at hp
          refine W.condT rfl c16 ?_
          refine W.seq ?_
          refine W.region ?_
          refine RL.opD (by decide) (opv_assign rfl rfl) ?_
          refine RL.nil ?_
          refine thnN ?_
          refine W.ret ?_
          refine thnR ?_
          have er := Option.some.inj hp
          subst er
          exact Rt.one rfl rfl ⟨rfl, X_43, (Sep.nil _ _ _)⟩
         ·rw [if_neg c16] at hp
          have c16 := eq_false_of_ne_true c16
          refine W.condF rfl c16 ?_
          refine W.skip ?_
          refine thnN ?_
          refine W.seq ?_
          refine W.region ?_
          refine RL.opD (by decide) (opv_assign rfl rfl) ?_
          refine RL.nil ?_
          refine thnN ?_
          refine W.seq ?_
          obtain ⟨x26, hx26, hp⟩ := Option.bind_eq_some_iff.1 hp
          refine W.region ?_
          refine RL.opD (by decide) (opv_loadA (us := [v22, v23, v24]) rfl Try.agg28 Try.size28 rfl (Sep.at (o := boxO bb6 [v22, v23, v24]) S_59 12 rfl) rfl rfl) ?_
          refine RL.opD (by decide) (opv_move rfl rfl) ?_
          refine RL.op _ (by decide) (opv_call (cap := []) (laws_heldField_ok _ _ _ (ownO.read (Sep.at (o := ownO (kF .f32) 25 v22 x19.2.1) S_59 4 rfl)) _ _ (ownO.read (Sep.at (o := ownO (kF .f32) 25 v23 x19.2.2.1) S_59 5 rfl)) _ _ (ownO.read (Sep.at (o := ownO (kF .f32) 25 v24 x19.2.2.2) S_59 6 rfl)) _ _ hx26) rfl rfl ⟨rfl, rfl, trivial⟩ Try.func20 rfl rfl) ?_
          rintro _ hp80 ⟨rfl, MT_37, T_37⟩
          obtain ⟨X_44, S_60⟩ := Sep.turn0 X_43 S_59 MT_37 T_37
          refine RL.opD (by decide) (opv_assign rfl rfl) ?_
          refine RL.nil ?_
          refine thnN ?_
          refine W.seq ?_
          refine W.seq ?_
          refine W.region ?_
          refine RL.opD (by decide) (opv_move rfl rfl) ?_
          refine RL.opD (by decide) (opv_icmp rfl rfl rfl rfl) ?_
          refine RL.nil ?_
          refine thnN ?_
          by_cases c17 : (decide (x26 < 0)) = true
          ·rw [if_pos c17] at hp
           refine W.condT rfl c17 ?_
           refine W.seq ?_
           refine W.region ?_
           refine RL.opD (by decide) (opv_assign rfl rfl) ?_
           refine RL.nil ?_
           refine thnN ?_
           refine W.ret ?_
           refine thnR ?_
           have er := Option.some.inj hp
           subst er
           exact Rt.one rfl rfl ⟨rfl, X_44, (Sep.nil _ _ _)⟩
          ·rw [if_neg c17] at hp
           have c17 := eq_false_of_ne_true c17
           refine W.condF rfl c17 ?_
           refine W.skip ?_
           refine thnN ?_
           refine W.seq ?_
           refine W.seq ?_
           refine W.region ?_
           refine RL.opD (by decide) (opv_move rfl rfl) ?_
           refine RL.opD (by decide) (opv_move rfl rfl) ?_
           refine RL.opD (by decide) (opv_icmp rfl rfl rfl rfl) ?_
           refine RL.nil ?_
           refine thnN ?_
           by_cases c18 : (x26 != x19.1) = true
           ·rw [if_pos c18] at hp
            refine W.condT rfl c18 ?_
            refine W.seq ?_
            refine W.region ?_
            refine RL.opD (by decide) (opv_assign rfl rfl) ?_
            refine RL.nil ?_
            refine thnN ?_
            refine W.ret ?_
            refine thnR ?_
            have er := Option.some.inj hp
            subst er
            exact Rt.one rfl rfl ⟨rfl, X_44, (Sep.nil _ _ _)⟩
           ·rw [if_neg c18] at hp
            have c18 := eq_false_of_ne_true c18
            refine W.condF rfl c18 ?_
            refine W.skip ?_
            refine thnN ?_
            refine W.seq ?_
            refine W.region ?_
            refine RL.opD (by decide) (opv_assign rfl rfl) ?_
            refine RL.nil ?_
            refine thnN ?_
            refine W.ret ?_
            have er := Option.some.inj hp
            subst er
            exact Rt.one rfl rfl ⟨rfl, X_44, (Sep.nil _ _ _)⟩

end Go.H
