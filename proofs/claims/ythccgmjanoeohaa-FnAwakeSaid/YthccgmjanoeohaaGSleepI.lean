/- Functions of the program: what each computes, as a plain function, and that the call comes to it. Written by a program (wip/gen). -/
import Derived.Test.YthccgmjanoeohaaGMax
import Derived.Test.YthccgmjanoeohaaGBase
import Derived.Test.YthccgmjanoeohaaGSheet
import Derived.Test.YthccgmjanoeohaaGField
import Derived.Test.YthccgmjanoeohaaBase23
import Derived.Test.YthccgmjanoeohaaProg
import Derived.KernelRfl
set_option linter.unusedVariables false
namespace Go.H
open Go Go.Proofs

theorem _root_.Go.Proofs.Try.agg151 : aggT Try.prog 151 = true := by kernel_rfl
theorem _root_.Go.Proofs.Try.arr151 : arrLen Try.prog 151 = some (2, 2) := by kernel_rfl
theorem _root_.Go.Proofs.Try.arr152 : arrLen Try.prog 152 = some (5, 151) := by kernel_rfl
theorem _root_.Go.Proofs.Try.bd151 : bldArr Try.prog 151 = some ([(.int .i64 0), (.int .i64 0)], [(0, 1), (1, 1)]) := by kernel_rfl
theorem _root_.Go.Proofs.Try.bd152 : bldArr Try.prog 152 = some ([(.int .i64 0), (.int .i64 0), (.int .i64 0), (.int .i64 0), (.int .i64 0), (.int .i64 0), (.int .i64 0), (.int .i64 0), (.int .i64 0), (.int .i64 0)], [(0, 2), (2, 2), (4, 2), (6, 2), (8, 2)]) := by kernel_rfl
theorem _root_.Go.Proofs.Try.isinfo4 : (Try.prog.info? 4).isSome = true := by kernel_rfl
theorem _root_.Go.Proofs.Try.one40 : oneCellT Try.prog 40 = true := by kernel_rfl
theorem _root_.Go.Proofs.Try.size151 : (Try.prog.info? 151).map (·.size) = some 2 := by kernel_rfl
theorem _root_.Go.Proofs.Try.size40 : (Try.prog.info? 40).map (·.size) = some 1 := by kernel_rfl
theorem _root_.Go.Proofs.Try.zero151 : (Try.prog.info? 151).bind (·.zero) = some (.agg [(.int .i64 0), (.int .i64 0)].toArray) := by kernel_rfl
theorem _root_.Go.Proofs.Try.zero40 : (Try.prog.info? 40).bind (·.zero) = some (.slice none 0 0) := by kernel_rfl

noncomputable def impl_BitsOf (a0 : Option Nat) : Option Int :=
 (if (fcmp .neq .f32 a0 a0) = true then some 2143289344 else ((fbits a0).bind fun (x1 : Int) => some (IntKind.wrap .i64 x1)))

noncomputable def impl_isNothing (a0_0 : List (Option Nat)) (a0_1 : List (Option Nat)) (a0_2 : List (Option Nat)) (a1 : Int) : Option Bool :=
 ((((idx a0_0 a1).bind fun (x2 : Option Nat) => ((impl_BitsOf x2).bind fun (x3 : Int) => (if (x3 == 0) = true then ((idx a0_1 a1).bind fun (x4 : Option Nat) => ((impl_BitsOf x4).bind fun (x5 : Int) => (if (x5 == 0) = true then ((idx a0_2 a1).bind fun (x6 : Option Nat) => ((impl_BitsOf x6).bind fun (x7 : Int) => some (x7 == 0))) else some false))) else some false))) : Option Bool).bind fun (x1 : Bool) => some x1)

noncomputable def impl_isQuiet.s0 (a0_0 : Int) (a0_1 : Int) (a0_2 : Bool) (a0_3 : List (Option Nat)) (a0_4 : List (Option Nat)) (a1_0 : List (Option Nat)) (a1_1 : List (Option Nat)) (a1_2 : List (Option Nat)) (a2 : Int) (a3 : Int) (x1 : Bool) (x2 : Int) : Option ((Bool × Int) ⊕ ((Bool × Int × Bool) ⊕ Bool)) :=
 (if (decide (x2 < 5)) = true then ((idx [(0, 0), (1, 0), ((-1), 0), (0, 1), (0, (-1))] x2).bind fun (x6 : (Int × Int)) => (((if a0_2 = true then ((impl_Sheet_at a0_0 a0_1 a0_2 a0_3 a0_4 (IntKind.wrap .i64 (a2 + x6.1)) (IntKind.wrap .i64 (a3 + x6.2))).bind fun (x8 : Int) => ((impl_isNothing a1_0 a1_1 a1_2 x8).bind fun (x9 : Bool) => some (!x9))) else ((impl_Sheet_isCell a0_0 a0_1 a0_2 a0_3 a0_4 (IntKind.wrap .i64 (a2 + x6.1)) (IntKind.wrap .i64 (a3 + x6.2))).bind fun (x10 : Bool) => (if x10 = true then ((impl_Sheet_at a0_0 a0_1 a0_2 a0_3 a0_4 (IntKind.wrap .i64 (a2 + x6.1)) (IntKind.wrap .i64 (a3 + x6.2))).bind fun (x11 : Int) => ((impl_isNothing a1_0 a1_1 a1_2 x11).bind fun (x12 : Bool) => some (!x12))) else some false))) : Option Bool).bind fun (x7 : Bool) => (if x7 = true then some (.inr (.inr false)) else some (.inl (x1, IntKind.wrap .i64 (x2 + 1)))))) else some (.inr (.inl (x1, x2, decide (x2 < 5)))))

noncomputable def impl_isQuiet (a0_0 : Int) (a0_1 : Int) (a0_2 : Bool) (a0_3 : List (Option Nat)) (a0_4 : List (Option Nat)) (a1_0 : List (Option Nat)) (a1_1 : List (Option Nat)) (a1_2 : List (Option Nat)) (a2 : Int) (a3 : Int) : Option Bool :=
 ((loopF (fun (s : (Bool × Int)) => impl_isQuiet.s0 a0_0 a0_1 a0_2 a0_3 a0_4 a1_0 a1_1 a1_2 a2 a3 s.1 s.2) (false, 0)).bind fun (y1 : ((Bool × Int × Bool) ⊕ Bool)) => match y1 with | .inl (x3, x4, x5) => some true | .inr r1 => some r1)

noncomputable def impl_SleepingBlocks_1_2 (a0 : Int) (a1 : Int) (a2 : Int) (ae0_0 : Int) (ae0_1 : Int) (ae0_2 : Bool) (ae0_3 : List (Option Nat)) (ae0_4 : List (Option Nat)) (ae1_0 : List (Option Nat)) (ae1_1 : List (Option Nat)) (ae1_2 : List (Option Nat)) (ae2_0 : List (Bool)) (ae3_0 : Int) (ae4_0 : Int) : Option (Int × Int × Bool × (List (Bool)) × Int × Int) :=
 ((impl_isQuiet ae0_0 ae0_1 ae0_2 ae0_3 ae0_4 ae1_0 ae1_1 ae1_2 a0 a1).bind fun (x1 : Bool) => (((if (!x1) = true then (if ae3_0 = 0 then none else (if ae3_0 = 0 then none else ((idx ae2_0 (IntKind.wrap .i64 ((IntKind.wrap .i64 (Int.tdiv a0 ae3_0)) + (IntKind.wrap .i64 (ae4_0 * (IntKind.wrap .i64 (Int.tdiv a1 ae3_0))))))).bind fun (x3 : Bool) => ((setF ae2_0 (IntKind.wrap .i64 ((IntKind.wrap .i64 (Int.tdiv a0 ae3_0)) + (IntKind.wrap .i64 (ae4_0 * (IntKind.wrap .i64 (Int.tdiv a1 ae3_0)))))) false).bind fun (x4 : List (Bool)) => some x4)))) else some ae2_0) : Option (List (Bool))).bind fun (x2 : List (Bool)) => some (ae0_0, ae0_1, ae0_2, x2, ae3_0, ae4_0)))

noncomputable def impl_Sheet_each__impl_SleepingBlocks_1.s1 (a0_0 : Int) (a0_1 : Int) (a0_2 : Bool) (a0_3 : List (Option Nat)) (a0_4 : List (Option Nat)) (ae0_3 : List (Option Nat)) (ae0_4 : List (Option Nat)) (ae1_0 : List (Option Nat)) (ae1_1 : List (Option Nat)) (ae1_2 : List (Option Nat)) (x1 : Int) (x16 : Int) (x17 : Int) (x18 : Int) (x19 : Bool) (x20 : List (Bool)) (x21 : Int) (x22 : Int) : Option ((Int × Int × Int × Bool × (List (Bool)) × Int × Int) ⊕ (Int × Bool × Int × Int × Bool × (List (Bool)) × Int × Int)) :=
 (if (decide (x16 < a0_0)) = true then ((impl_Sheet_at a0_0 a0_1 a0_2 a0_3 a0_4 x16 x1).bind fun (x31 : Int) => ((impl_SleepingBlocks_1_2 x16 x1 x31 x17 x18 x19 ae0_3 ae0_4 ae1_0 ae1_1 ae1_2 x20 x21 x22).bind fun (x32 : (Int × Int × Bool × (List (Bool)) × Int × Int)) => some (.inl (IntKind.wrap .i64 (x16 + 1), x32.1, x32.2.1, x32.2.2.1, x32.2.2.2.1, x32.2.2.2.2.1, x32.2.2.2.2.2)))) else some (.inr (x16, decide (x16 < a0_0), x17, x18, x19, x20, x21, x22)))

noncomputable def impl_Sheet_each__impl_SleepingBlocks_1.s0 (a0_0 : Int) (a0_1 : Int) (a0_2 : Bool) (a0_3 : List (Option Nat)) (a0_4 : List (Option Nat)) (ae0_3 : List (Option Nat)) (ae0_4 : List (Option Nat)) (ae1_0 : List (Option Nat)) (ae1_1 : List (Option Nat)) (ae1_2 : List (Option Nat)) (x1 : Int) (x2 : Int) (x3 : Int) (x4 : Bool) (x5 : List (Bool)) (x6 : Int) (x7 : Int) : Option ((Int × Int × Int × Bool × (List (Bool)) × Int × Int) ⊕ (Int × Bool × Int × Int × Bool × (List (Bool)) × Int × Int)) :=
 (if (decide (x1 < a0_1)) = true then ((loopF (fun (s : (Int × Int × Int × Bool × (List (Bool)) × Int × Int)) => impl_Sheet_each__impl_SleepingBlocks_1.s1 a0_0 a0_1 a0_2 a0_3 a0_4 ae0_3 ae0_4 ae1_0 ae1_1 ae1_2 x1 s.1 s.2.1 s.2.2.1 s.2.2.2.1 s.2.2.2.2.1 s.2.2.2.2.2.1 s.2.2.2.2.2.2) (0, x2, x3, x4, x5, x6, x7)).bind fun (⟨x23, x24, x25, x26, x27, x28, x29, x30⟩ : (Int × Bool × Int × Int × Bool × (List (Bool)) × Int × Int)) => some (.inl (IntKind.wrap .i64 (x1 + 1), x25, x26, x27, x28, x29, x30))) else some (.inr (x1, decide (x1 < a0_1), x2, x3, x4, x5, x6, x7)))

noncomputable def impl_Sheet_each__impl_SleepingBlocks_1 (a0_0 : Int) (a0_1 : Int) (a0_2 : Bool) (a0_3 : List (Option Nat)) (a0_4 : List (Option Nat)) (ae0_0 : Int) (ae0_1 : Int) (ae0_2 : Bool) (ae0_3 : List (Option Nat)) (ae0_4 : List (Option Nat)) (ae1_0 : List (Option Nat)) (ae1_1 : List (Option Nat)) (ae1_2 : List (Option Nat)) (ae2_0 : List (Bool)) (ae3_0 : Int) (ae4_0 : Int) : Option (Int × Int × Bool × (List (Bool)) × Int × Int) :=
 ((loopF (fun (s : (Int × Int × Int × Bool × (List (Bool)) × Int × Int)) => impl_Sheet_each__impl_SleepingBlocks_1.s0 a0_0 a0_1 a0_2 a0_3 a0_4 ae0_3 ae0_4 ae1_0 ae1_1 ae1_2 s.1 s.2.1 s.2.2.1 s.2.2.2.1 s.2.2.2.2.1 s.2.2.2.2.2.1 s.2.2.2.2.2.2) (0, ae0_0, ae0_1, ae0_2, ae2_0, ae3_0, ae4_0)).bind fun (⟨x8, x9, x10, x11, x12, x13, x14, x15⟩ : (Int × Bool × Int × Int × Bool × (List (Bool)) × Int × Int)) => some (x10, x11, x12, x13, x14, x15))

noncomputable def impl_SleepingBlocks.s0 (a0_0 : Int) (a0_1 : Int) (a2 : Int) (x4 : Int) (x5 : List (Bool)) : Option ((Int × (List (Bool))) ⊕ (Int × Bool × (List (Bool)))) :=
 (if (decide (x4 < (IntKind.wrap .i64 ((IntKind.wrap .i64 (Int.tdiv (IntKind.wrap .i64 ((IntKind.wrap .i64 (a0_0 + a2)) - 1)) a2)) * (IntKind.wrap .i64 (Int.tdiv (IntKind.wrap .i64 ((IntKind.wrap .i64 (a0_1 + a2)) - 1)) a2)))))) = true then (if x5.length + [true].length ≤ 1000000000 then some (.inl (IntKind.wrap .i64 (x4 + 1), x5 ++ [true])) else none) else some (.inr (x4, decide (x4 < (IntKind.wrap .i64 ((IntKind.wrap .i64 (Int.tdiv (IntKind.wrap .i64 ((IntKind.wrap .i64 (a0_0 + a2)) - 1)) a2)) * (IntKind.wrap .i64 (Int.tdiv (IntKind.wrap .i64 ((IntKind.wrap .i64 (a0_1 + a2)) - 1)) a2))))), x5)))

noncomputable def impl_SleepingBlocks (a0_0 : Int) (a0_1 : Int) (a0_2 : Bool) (a0_3 : List (Option Nat)) (a0_4 : List (Option Nat)) (a1_0 : List (Option Nat)) (a1_1 : List (Option Nat)) (a1_2 : List (Option Nat)) (a2 : Int) : Option ((List (Bool)) × Bool) :=
 ((((impl_IsField a0_0 a0_1 a0_2 a0_3 a0_4 a1_0 a1_1 a1_2).bind fun (x2 : Bool) => (if (!x2) = true then some true else ((impl_within a2 1 16).bind fun (x3 : Bool) => some (!x3)))) : Option Bool).bind fun (x1 : Bool) => (if x1 = true then some (([] : List (Bool)), false) else (if a2 = 0 then none else (if a2 = 0 then none else ((loopF (fun (s : (Int × (List (Bool)))) => impl_SleepingBlocks.s0 a0_0 a0_1 a2 s.1 s.2) (0, ([] : List (Bool)))).bind fun (⟨x6, x7, x8⟩ : (Int × Bool × (List (Bool)))) => ((impl_Sheet_each__impl_SleepingBlocks_1 a0_0 a0_1 a0_2 a0_3 a0_4 a0_0 a0_1 a0_2 a0_3 a0_4 a1_0 a1_1 a1_2 x8 a2 (IntKind.wrap .i64 (Int.tdiv (IntKind.wrap .i64 ((IntKind.wrap .i64 (a0_0 + a2)) - 1)) a2))).bind fun (x9 : (Int × Int × Bool × (List (Bool)) × Int × Int)) => some (x9.2.2.2.1, true)))))))

set_option maxRecDepth 20000 in
theorem impl_BitsOf_ok (h0 : Heap) (u0 : Value) (a0 : Option Nat) (g0 : IsF .f32 u0 a0) (r : Int) (hp : impl_BitsOf a0 = some r) : CallsH Try.prog 178 ([u0].toArray ++ [].toArray) h0 (fun v h' => v = (.int .i64 r) ∧ h0 = h') := by
 unfold impl_BitsOf at hp
 refine callsH_of_W (l := [u0]) (cap := []) 9 Try.func178 rfl rfl rfl ?_
 refine W.seq ?_
 refine W.region ?_
 refine RL.opD (by decide) (opv_assign rfl rfl) ?_
 refine RL.nil ?_
 refine thnN ?_
 refine W.seq ?_
 refine W.seq ?_
 refine W.region ?_
 refine RL.opD (by decide) (opv_move rfl rfl) ?_
 refine RL.opD (by decide) (opv_move rfl rfl) ?_
 refine RL.opD (by decide) (opv_fcmp rfl rfl rfl rfl g0 g0) ?_
 refine RL.nil ?_
 refine thnN ?_
 by_cases c1 : (fcmp .neq .f32 a0 a0) = true
 ·rw [if_pos c1] at hp
  refine W.condT rfl c1 ?_
  refine W.seq ?_
  refine W.region ?_
  refine RL.opD (by decide) (opv_assign rfl rfl) ?_
  refine RL.nil ?_
  refine thnN ?_
  refine W.ret ?_
  refine thnR ?_
  have er := Option.some.inj hp
  subst er
  exact Rt.one rfl rfl ⟨rfl, rfl⟩
 ·rw [if_neg c1] at hp
  have c1 := eq_false_of_ne_true c1
  refine W.condF rfl c1 ?_
  refine W.skip ?_
  refine thnN ?_
  refine W.seq ?_
  obtain ⟨x1, hx1, hp⟩ := Option.bind_eq_some_iff.1 hp
  refine W.region ?_
  refine RL.opD (by decide) (opv_move rfl rfl) ?_
  refine RL.opD (by decide) (opv_ext (vs := [u0]) rfl rfl ⟨rfl, trivial⟩ Try.func198 rfl rfl rfl rfl (fun w => bits32_run g0 hx1 w)) ?_
  refine RL.opD (by decide) (opv_i2i rfl (by rw [Try.underlying184]; rfl) Try.underlying2 rfl) ?_
  refine RL.opD (by decide) (opv_assign rfl rfl) ?_
  refine RL.nil ?_
  refine thnN ?_
  refine W.ret ?_
  have er := Option.some.inj hp
  subst er
  exact Rt.one rfl rfl ⟨rfl, rfl⟩

set_option maxRecDepth 20000 in
theorem impl_isNothing_ok (h0 : Heap) (u0_0 : Value) (a0_0 : List (Option Nat)) (g0_0 : SL (kF .f32) h0.size h0 u0_0 a0_0) (u0_1 : Value) (a0_1 : List (Option Nat)) (g0_1 : SL (kF .f32) h0.size h0 u0_1 a0_1) (u0_2 : Value) (a0_2 : List (Option Nat)) (g0_2 : SL (kF .f32) h0.size h0 u0_2 a0_2) (a1 : Int) (r : Bool) (hp : impl_isNothing a0_0 a0_1 a0_2 a1 = some r) : CallsH Try.prog 140 ([(.agg (List.toArray (α := Value) [u0_0, u0_1, u0_2])), (.int .i64 a1)].toArray ++ [].toArray) h0 (fun v h' => v = (.bool r) ∧ Mod [] h0 h' ∧ Sep [] h0.size h' []) := by
 unfold impl_isNothing at hp
 refine callsH_of_W (l := [(.agg (List.toArray (α := Value) [u0_0, u0_1, u0_2])), (.int .i64 a1)]) (cap := []) 30 Try.func140 rfl rfl rfl ?_
 refine W.seq ?_
 refine W.region ?_
 refine RL.op _ (by decide) (opS_boxed (opv_boxA (cs := [u0_0, u0_1, u0_2]) rfl rfl)) ?_
 rintro _ hp1 ⟨bb1, rfl, MT_1, T_1⟩
 obtain ⟨X_1, S_1⟩ := Sep.turn0 (Mod.refl [] h0) (Sep.nil [] h0.size h0) MT_1 T_1
 refine RL.opD (by decide) (opv_assign rfl rfl) ?_
 refine RL.nil ?_
 refine thnN ?_
 refine W.seq ?_
 obtain ⟨x1, hy1, hp⟩ := Option.bind_eq_some_iff.1 hp
 refine W.cut (fun φ' h' => Fr.sub [(0, (.agg (List.toArray (α := Value) [u0_0, u0_1, u0_2]))), (1, (.int .i64 a1)), (2, (.pointer (some ⟨bb1, 0, none⟩))), (4, (.bool x1))] φ' ∧ hp1 = h') ?_ ?_
 ·obtain ⟨x2, hx2, hy1⟩ := Option.bind_eq_some_iff.1 hy1
  obtain ⟨x3, hx3, hy1⟩ := Option.bind_eq_some_iff.1 hy1
  by_cases c1 : (x3 == 0) = true
  ·rw [if_pos c1] at hy1
   obtain ⟨x4, hx4, hy1⟩ := Option.bind_eq_some_iff.1 hy1
   obtain ⟨x5, hx5, hy1⟩ := Option.bind_eq_some_iff.1 hy1
   by_cases c2 : (x5 == 0) = true
   ·rw [if_pos c2] at hy1
    obtain ⟨x6, hx6, hy1⟩ := Option.bind_eq_some_iff.1 hy1
    obtain ⟨x7, hx7, hy1⟩ := Option.bind_eq_some_iff.1 hy1
    refine W.region ?_
    refine RL.opD (by decide) (opv_fieldAddr rfl Try.fo28_0 rfl) ?_
    refine RL.opD (by decide) (opv_loadB rfl Try.one22 rfl (Sep.at (o := boxO bb1 [u0_0, u0_1, u0_2]) S_1 0 rfl) rfl) ?_
    refine RL.opD (by decide) (opv_move rfl rfl) ?_
    refine RL.op _ (by decide) (opv_index rfl Try.underlying22 (by rw [Try.size25]; rfl) rfl rfl (SL.mod g0_0 X_1 (Nat.le_refl _) nob) hx2) ?_
    rintro v1 _ ⟨fv1, rfl⟩
    refine RL.opF (by decide) (opv_loadF rfl Try.one25 rfl fv1 (SL.mod g0_0 X_1 (Nat.le_refl _) nob) hx2) ?_
    intro v2 fv2
    refine RL.op _ (by decide) (opv_call (cap := []) (impl_BitsOf_ok _ _ _ fv2 _ hx3) rfl rfl ⟨rfl, trivial⟩ Try.func178 rfl rfl) ?_
    rintro _ _ ⟨rfl, rfl⟩
    refine RL.opD (by decide) (opv_icmp rfl rfl rfl rfl) ?_
    refine RL.opD (by decide) (opv_move rfl rfl) ?_
    refine RL.yesD rfl rfl c1 (by decide) (opv_fieldAddr rfl Try.fo28_1 rfl) ?_
    refine RL.yesD rfl rfl c1 (by decide) (opv_loadB rfl Try.one22 rfl (Sep.at (o := boxO bb1 [u0_0, u0_1, u0_2]) S_1 0 rfl) rfl) ?_
    refine RL.yesD rfl rfl c1 (by decide) (opv_move rfl rfl) ?_
    refine RL.yes _ rfl rfl c1 (by decide) (opv_index rfl Try.underlying22 (by rw [Try.size25]; rfl) rfl rfl (SL.mod g0_1 X_1 (Nat.le_refl _) nob) hx4) ?_
    rintro v3 _ ⟨fv3, rfl⟩
    refine RL.yes _ rfl rfl c1 (by decide) (opv_loadF rfl Try.one25 rfl fv3 (SL.mod g0_1 X_1 (Nat.le_refl _) nob) hx4) ?_
    rintro v4 _ ⟨fv4, rfl⟩
    refine RL.yes _ rfl rfl c1 (by decide) (opv_call (cap := []) (impl_BitsOf_ok _ _ _ fv4 _ hx5) rfl rfl ⟨rfl, trivial⟩ Try.func178 rfl rfl) ?_
    rintro _ _ ⟨rfl, rfl⟩
    refine RL.yesD rfl rfl c1 (by decide) (opv_icmp rfl rfl rfl rfl) ?_
    refine RL.opD (by decide) (opv_pick rfl rfl (fun _ => rfl) (fun e => absurd (Eq.trans (Eq.symm e) c1) (by decide)) rfl) ?_
    refine RL.opD (by decide) (opv_move rfl rfl) ?_
    refine RL.yesD rfl rfl c2 (by decide) (opv_fieldAddr rfl Try.fo28_2 rfl) ?_
    refine RL.yesD rfl rfl c2 (by decide) (opv_loadB rfl Try.one22 rfl (Sep.at (o := boxO bb1 [u0_0, u0_1, u0_2]) S_1 0 rfl) rfl) ?_
    refine RL.yesD rfl rfl c2 (by decide) (opv_move rfl rfl) ?_
    refine RL.yes _ rfl rfl c2 (by decide) (opv_index rfl Try.underlying22 (by rw [Try.size25]; rfl) rfl rfl (SL.mod g0_2 X_1 (Nat.le_refl _) nob) hx6) ?_
    rintro v5 _ ⟨fv5, rfl⟩
    refine RL.yes _ rfl rfl c2 (by decide) (opv_loadF rfl Try.one25 rfl fv5 (SL.mod g0_2 X_1 (Nat.le_refl _) nob) hx6) ?_
    rintro v6 _ ⟨fv6, rfl⟩
    refine RL.yes _ rfl rfl c2 (by decide) (opv_call (cap := []) (impl_BitsOf_ok _ _ _ fv6 _ hx7) rfl rfl ⟨rfl, trivial⟩ Try.func178 rfl rfl) ?_
    rintro _ _ ⟨rfl, rfl⟩
    refine RL.yesD rfl rfl c2 (by decide) (opv_icmp rfl rfl rfl rfl) ?_
    refine RL.opD (by decide) (opv_pick rfl rfl (fun _ => rfl) (fun e => absurd (Eq.trans (Eq.symm e) c2) (by decide)) rfl) ?_
    refine RL.opD (by decide) (opv_assign rfl rfl) ?_
    refine RL.nil ?_
    have ey1 := Option.some.inj hy1
    subst ey1
    refine onlyN ?_
    exact ⟨⟨rfl, rfl, rfl, rfl, trivial⟩, rfl⟩
   ·rw [if_neg c2] at hy1
    have c2 := eq_false_of_ne_true c2
    refine W.region ?_
    refine RL.opD (by decide) (opv_fieldAddr rfl Try.fo28_0 rfl) ?_
    refine RL.opD (by decide) (opv_loadB rfl Try.one22 rfl (Sep.at (o := boxO bb1 [u0_0, u0_1, u0_2]) S_1 0 rfl) rfl) ?_
    refine RL.opD (by decide) (opv_move rfl rfl) ?_
    refine RL.op _ (by decide) (opv_index rfl Try.underlying22 (by rw [Try.size25]; rfl) rfl rfl (SL.mod g0_0 X_1 (Nat.le_refl _) nob) hx2) ?_
    rintro v1 _ ⟨fv1, rfl⟩
    refine RL.opF (by decide) (opv_loadF rfl Try.one25 rfl fv1 (SL.mod g0_0 X_1 (Nat.le_refl _) nob) hx2) ?_
    intro v2 fv2
    refine RL.op _ (by decide) (opv_call (cap := []) (impl_BitsOf_ok _ _ _ fv2 _ hx3) rfl rfl ⟨rfl, trivial⟩ Try.func178 rfl rfl) ?_
    rintro _ _ ⟨rfl, rfl⟩
    refine RL.opD (by decide) (opv_icmp rfl rfl rfl rfl) ?_
    refine RL.opD (by decide) (opv_move rfl rfl) ?_
    refine RL.yesD rfl rfl c1 (by decide) (opv_fieldAddr rfl Try.fo28_1 rfl) ?_
    refine RL.yesD rfl rfl c1 (by decide) (opv_loadB rfl Try.one22 rfl (Sep.at (o := boxO bb1 [u0_0, u0_1, u0_2]) S_1 0 rfl) rfl) ?_
    refine RL.yesD rfl rfl c1 (by decide) (opv_move rfl rfl) ?_
    refine RL.yes _ rfl rfl c1 (by decide) (opv_index rfl Try.underlying22 (by rw [Try.size25]; rfl) rfl rfl (SL.mod g0_1 X_1 (Nat.le_refl _) nob) hx4) ?_
    rintro v3 _ ⟨fv3, rfl⟩
    refine RL.yes _ rfl rfl c1 (by decide) (opv_loadF rfl Try.one25 rfl fv3 (SL.mod g0_1 X_1 (Nat.le_refl _) nob) hx4) ?_
    rintro v4 _ ⟨fv4, rfl⟩
    refine RL.yes _ rfl rfl c1 (by decide) (opv_call (cap := []) (impl_BitsOf_ok _ _ _ fv4 _ hx5) rfl rfl ⟨rfl, trivial⟩ Try.func178 rfl rfl) ?_
    rintro _ _ ⟨rfl, rfl⟩
    refine RL.yesD rfl rfl c1 (by decide) (opv_icmp rfl rfl rfl rfl) ?_
    refine RL.opD (by decide) (opv_pick rfl rfl (fun _ => rfl) (fun e => absurd (Eq.trans (Eq.symm e) c1) (by decide)) rfl) ?_
    refine RL.opD (by decide) (opv_move rfl rfl) ?_
    refine RL.noF rfl rfl c2 (by decide) ?_
    refine RL.noF rfl rfl c2 (by decide) ?_
    refine RL.noF rfl rfl c2 (by decide) ?_
    refine RL.noF rfl rfl c2 (by decide) ?_
    refine RL.noF rfl rfl c2 (by decide) ?_
    refine RL.noF rfl rfl c2 (by decide) ?_
    refine RL.noF rfl rfl c2 (by decide) ?_
    refine RL.opD (by decide) (opv_pick rfl rfl (fun e => absurd (Eq.trans (Eq.symm e) c2) (by decide)) (fun _ => rfl) rfl) ?_
    refine RL.opD (by decide) (opv_assign rfl rfl) ?_
    refine RL.nil ?_
    have ey1 := Option.some.inj hy1
    subst ey1
    refine onlyN ?_
    exact ⟨⟨rfl, rfl, rfl, rfl, trivial⟩, rfl⟩
  ·rw [if_neg c1] at hy1
   have c1 := eq_false_of_ne_true c1
   refine W.region ?_
   refine RL.opD (by decide) (opv_fieldAddr rfl Try.fo28_0 rfl) ?_
   refine RL.opD (by decide) (opv_loadB rfl Try.one22 rfl (Sep.at (o := boxO bb1 [u0_0, u0_1, u0_2]) S_1 0 rfl) rfl) ?_
   refine RL.opD (by decide) (opv_move rfl rfl) ?_
   refine RL.op _ (by decide) (opv_index rfl Try.underlying22 (by rw [Try.size25]; rfl) rfl rfl (SL.mod g0_0 X_1 (Nat.le_refl _) nob) hx2) ?_
   rintro v1 _ ⟨fv1, rfl⟩
   refine RL.opF (by decide) (opv_loadF rfl Try.one25 rfl fv1 (SL.mod g0_0 X_1 (Nat.le_refl _) nob) hx2) ?_
   intro v2 fv2
   refine RL.op _ (by decide) (opv_call (cap := []) (impl_BitsOf_ok _ _ _ fv2 _ hx3) rfl rfl ⟨rfl, trivial⟩ Try.func178 rfl rfl) ?_
   rintro _ _ ⟨rfl, rfl⟩
   refine RL.opD (by decide) (opv_icmp rfl rfl rfl rfl) ?_
   refine RL.opD (by decide) (opv_move rfl rfl) ?_
   refine RL.noF rfl rfl c1 (by decide) ?_
   refine RL.noF rfl rfl c1 (by decide) ?_
   refine RL.noF rfl rfl c1 (by decide) ?_
   refine RL.noF rfl rfl c1 (by decide) ?_
   refine RL.noF rfl rfl c1 (by decide) ?_
   refine RL.noF rfl rfl c1 (by decide) ?_
   refine RL.noF rfl rfl c1 (by decide) ?_
   refine RL.opD (by decide) (opv_pick rfl rfl (fun e => absurd (Eq.trans (Eq.symm e) c1) (by decide)) (fun _ => rfl) rfl) ?_
   refine RL.opD (by decide) (opv_move rfl rfl) ?_
   refine RL.noF rfl rfl rfl (by decide) ?_
   refine RL.noF rfl rfl rfl (by decide) ?_
   refine RL.noF rfl rfl rfl (by decide) ?_
   refine RL.noF rfl rfl rfl (by decide) ?_
   refine RL.noF rfl rfl rfl (by decide) ?_
   refine RL.noF rfl rfl rfl (by decide) ?_
   refine RL.noF rfl rfl rfl (by decide) ?_
   refine RL.opD (by decide) (opv_pick rfl rfl (fun e => absurd (Eq.trans (Eq.symm e) rfl) (by decide)) (fun _ => rfl) rfl) ?_
   refine RL.opD (by decide) (opv_assign rfl rfl) ?_
   refine RL.nil ?_
   have ey1 := Option.some.inj hy1
   subst ey1
   refine onlyN ?_
   exact ⟨⟨rfl, rfl, rfl, rfl, trivial⟩, rfl⟩
 rintro φ' _ ⟨hs1, rfl⟩
 refine thnN ?_
 refine W.sub hs1 ?_
 refine W.ret ?_
 have er := Option.some.inj hp
 subst er
 exact Rt.one rfl rfl ⟨rfl, X_1, (Sep.nil _ _ _)⟩

set_option maxRecDepth 20000 in
theorem impl_isQuiet_ok (h0 : Heap) (a0_0 : Int) (a0_1 : Int) (a0_2 : Bool) (u0_3 : Value) (a0_3 : List (Option Nat)) (g0_3 : SL (kF .f32) h0.size h0 u0_3 a0_3) (u0_4 : Value) (a0_4 : List (Option Nat)) (g0_4 : SL (kF .f32) h0.size h0 u0_4 a0_4) (u1_0 : Value) (a1_0 : List (Option Nat)) (g1_0 : SL (kF .f32) h0.size h0 u1_0 a1_0) (u1_1 : Value) (a1_1 : List (Option Nat)) (g1_1 : SL (kF .f32) h0.size h0 u1_1 a1_1) (u1_2 : Value) (a1_2 : List (Option Nat)) (g1_2 : SL (kF .f32) h0.size h0 u1_2 a1_2) (a2 : Int) (a3 : Int) (r : Bool) (hp : impl_isQuiet a0_0 a0_1 a0_2 a0_3 a0_4 a1_0 a1_1 a1_2 a2 a3 = some r) : CallsH Try.prog 81 ([(.agg (List.toArray (α := Value) [(.int .i64 a0_0), (.int .i64 a0_1), (.bool a0_2), u0_3, u0_4])), (.agg (List.toArray (α := Value) [u1_0, u1_1, u1_2])), (.int .i64 a2), (.int .i64 a3)].toArray ++ [].toArray) h0 (fun v h' => v = (.bool r) ∧ Mod [] h0 h' ∧ Sep [] h0.size h' []) := by
 unfold impl_isQuiet at hp
 refine callsH_of_W (l := [(.agg (List.toArray (α := Value) [(.int .i64 a0_0), (.int .i64 a0_1), (.bool a0_2), u0_3, u0_4])), (.agg (List.toArray (α := Value) [u1_0, u1_1, u1_2])), (.int .i64 a2), (.int .i64 a3)]) (cap := []) 48 Try.func81 rfl rfl rfl ?_
 refine W.seq ?_
 refine W.region ?_
 refine RL.op _ (by decide) (opS_boxed (opv_boxA (cs := [(.int .i64 a0_0), (.int .i64 a0_1), (.bool a0_2), u0_3, u0_4]) rfl rfl)) ?_
 rintro _ hp1 ⟨bb1, rfl, MT_1, T_1⟩
 obtain ⟨X_1, S_1⟩ := Sep.turn0 (Mod.refl [] h0) (Sep.nil [] h0.size h0) MT_1 T_1
 refine RL.op _ (by decide) (opS_boxed (opv_boxA (cs := [u1_0, u1_1, u1_2]) rfl rfl)) ?_
 rintro _ hp2 ⟨bb2, rfl, MT_2, T_2⟩
 obtain ⟨X_2, S_2⟩ := Sep.turn0 X_1 S_1 MT_2 T_2
 refine RL.opD (by decide) (opv_assign rfl rfl) ?_
 refine RL.nil ?_
 refine thnN ?_
 refine W.seq ?_
 refine W.seq ?_
 refine W.region ?_
 refine RL.opD (by decide) (opv_buildArr (cs := [(.int .i64 0), (.int .i64 0)]) [(0, [(.int .i64 0)]), (1, [(.int .i64 0)])] [(0, (.int .i64 0)), (1, (.int .i64 0))] rfl Try.bd151 ⟨⟨rfl, rfl, rfl, cells1 rfl⟩, ⟨rfl, rfl, rfl, cells1 rfl⟩, trivial⟩ rfl) ?_
 refine RL.opD (by decide) (opv_buildArr (cs := [(.int .i64 1), (.int .i64 0)]) [(0, [(.int .i64 1)]), (1, [(.int .i64 0)])] [(0, (.int .i64 1)), (1, (.int .i64 0))] rfl Try.bd151 ⟨⟨rfl, rfl, rfl, cells1 rfl⟩, ⟨rfl, rfl, rfl, cells1 rfl⟩, trivial⟩ rfl) ?_
 refine RL.opD (by decide) (opv_buildArr (cs := [(.int .i64 (-1)), (.int .i64 0)]) [(0, [(.int .i64 (-1))]), (1, [(.int .i64 0)])] [(0, (.int .i64 (-1))), (1, (.int .i64 0))] rfl Try.bd151 ⟨⟨rfl, rfl, rfl, cells1 rfl⟩, ⟨rfl, rfl, rfl, cells1 rfl⟩, trivial⟩ rfl) ?_
 refine RL.opD (by decide) (opv_buildArr (cs := [(.int .i64 0), (.int .i64 1)]) [(0, [(.int .i64 0)]), (1, [(.int .i64 1)])] [(0, (.int .i64 0)), (1, (.int .i64 1))] rfl Try.bd151 ⟨⟨rfl, rfl, rfl, cells1 rfl⟩, ⟨rfl, rfl, rfl, cells1 rfl⟩, trivial⟩ rfl) ?_
 refine RL.opD (by decide) (opv_buildArr (cs := [(.int .i64 0), (.int .i64 (-1))]) [(0, [(.int .i64 0)]), (1, [(.int .i64 (-1))])] [(0, (.int .i64 0)), (1, (.int .i64 (-1)))] rfl Try.bd151 ⟨⟨rfl, rfl, rfl, cells1 rfl⟩, ⟨rfl, rfl, rfl, cells1 rfl⟩, trivial⟩ rfl) ?_
 refine RL.opD (by decide) (opv_buildArr (cs := [(.int .i64 0), (.int .i64 0), (.int .i64 1), (.int .i64 0), (.int .i64 (-1)), (.int .i64 0), (.int .i64 0), (.int .i64 1), (.int .i64 0), (.int .i64 (-1))]) [(0, [(.int .i64 0), (.int .i64 0)]), (1, [(.int .i64 1), (.int .i64 0)]), (2, [(.int .i64 (-1)), (.int .i64 0)]), (3, [(.int .i64 0), (.int .i64 1)]), (4, [(.int .i64 0), (.int .i64 (-1))])] [(0, (.agg (List.toArray (α := Value) [(.int .i64 0), (.int .i64 0)]))), (1, (.agg (List.toArray (α := Value) [(.int .i64 1), (.int .i64 0)]))), (2, (.agg (List.toArray (α := Value) [(.int .i64 (-1)), (.int .i64 0)]))), (3, (.agg (List.toArray (α := Value) [(.int .i64 0), (.int .i64 1)]))), (4, (.agg (List.toArray (α := Value) [(.int .i64 0), (.int .i64 (-1))])))] rfl Try.bd152 ⟨⟨rfl, rfl, rfl, rfl⟩, ⟨rfl, rfl, rfl, rfl⟩, ⟨rfl, rfl, rfl, rfl⟩, ⟨rfl, rfl, rfl, rfl⟩, ⟨rfl, rfl, rfl, rfl⟩, trivial⟩ rfl) ?_
 refine RL.opD (by decide) (opv_move rfl rfl) ?_
 refine RL.nil ?_
 refine thnN ?_
 obtain ⟨y1, hy1, hp⟩ := Option.bind_eq_some_iff.1 hp
 refine W.cut (fun φ' h' => ∃ x3, ∃ x4, ∃ x5, y1 = .inl (x3, x4, x5) ∧ Fr.sub [(0, (.agg (List.toArray (α := Value) [(.int .i64 a0_0), (.int .i64 a0_1), (.bool a0_2), u0_3, u0_4]))), (1, (.agg (List.toArray (α := Value) [u1_0, u1_1, u1_2]))), (2, (.int .i64 a2)), (3, (.int .i64 a3)), (4, (.pointer (some ⟨bb1, 0, none⟩))), (5, (.pointer (some ⟨bb2, 0, none⟩))), (18, (.agg (List.toArray (α := Value) [(.int .i64 0), (.int .i64 0), (.int .i64 1), (.int .i64 0), (.int .i64 (-1)), (.int .i64 0), (.int .i64 0), (.int .i64 1), (.int .i64 0), (.int .i64 (-1))]))), (8, (.bool x3)), (19, (.int .i64 x4)), (20, (.bool x5))] φ' ∧ Mod [] h0 h' ∧ Sep [] h0.size h' [boxO bb2 [u1_0, u1_1, u1_2], boxO bb1 [(.int .i64 a0_0), (.int .i64 a0_1), (.bool a0_2), u0_3, u0_4]]) ?_ ?_
 ·refine W.block ?_
  refine W.loopS (fun (s : (Bool × Int)) φ' h' => Fr.sub [(0, (.agg (List.toArray (α := Value) [(.int .i64 a0_0), (.int .i64 a0_1), (.bool a0_2), u0_3, u0_4]))), (1, (.agg (List.toArray (α := Value) [u1_0, u1_1, u1_2]))), (2, (.int .i64 a2)), (3, (.int .i64 a3)), (4, (.pointer (some ⟨bb1, 0, none⟩))), (5, (.pointer (some ⟨bb2, 0, none⟩))), (18, (.agg (List.toArray (α := Value) [(.int .i64 0), (.int .i64 0), (.int .i64 1), (.int .i64 0), (.int .i64 (-1)), (.int .i64 0), (.int .i64 0), (.int .i64 1), (.int .i64 0), (.int .i64 (-1))]))), (8, (.bool s.1)), (19, (.int .i64 s.2))] φ' ∧ Mod [] h0 h' ∧ Sep [] h0.size h' [boxO bb2 [u1_0, u1_1, u1_2], boxO bb1 [(.int .i64 a0_0), (.int .i64 a0_1), (.bool a0_2), u0_3, u0_4]]) hy1 ⟨⟨rfl, rfl, rfl, rfl, rfl, rfl, rfl, rfl, rfl, trivial⟩, X_2, (Sep.sel S_2 [0, 1] (by decide))⟩ ?_
  rintro ⟨x1, x2⟩ φ' hp3 o1 ⟨hs1, X_3, S_3⟩ ho1 hy1
  have hs1 : Fr.sub [(0, (.agg (List.toArray (α := Value) [(.int .i64 a0_0), (.int .i64 a0_1), (.bool a0_2), u0_3, u0_4]))), (1, (.agg (List.toArray (α := Value) [u1_0, u1_1, u1_2]))), (2, (.int .i64 a2)), (3, (.int .i64 a3)), (4, (.pointer (some ⟨bb1, 0, none⟩))), (5, (.pointer (some ⟨bb2, 0, none⟩))), (18, (.agg (List.toArray (α := Value) [(.int .i64 0), (.int .i64 0), (.int .i64 1), (.int .i64 0), (.int .i64 (-1)), (.int .i64 0), (.int .i64 0), (.int .i64 1), (.int .i64 0), (.int .i64 (-1))]))), (8, (.bool x1)), (19, (.int .i64 x2))] φ' := hs1
  have S_3 : Sep [] h0.size hp3 [boxO bb2 [u1_0, u1_1, u1_2], boxO bb1 [(.int .i64 a0_0), (.int .i64 a0_1), (.bool a0_2), u0_3, u0_4]] := S_3
  have ho1 : impl_isQuiet.s0 a0_0 a0_1 a0_2 a0_3 a0_4 a1_0 a1_1 a1_2 a2 a3 x1 x2 = some o1 := ho1
  unfold impl_isQuiet.s0 at ho1
  refine W.sub hs1 ?_
  refine W.seq ?_
  refine W.region ?_
  refine RL.opD (by decide) (opv_icmp rfl rfl rfl rfl) ?_
  refine RL.nil ?_
  refine thnN ?_
  refine W.seq ?_
  by_cases c1 : (decide (x2 < 5)) = true
  ·rw [if_pos c1] at ho1
   refine W.condT rfl c1 ?_
   refine W.skip ?_
   refine thnN ?_
   refine W.seq ?_
   refine W.block ?_
   refine W.seq ?_
   obtain ⟨x6, hx6, ho1⟩ := Option.bind_eq_some_iff.1 ho1
   refine W.region ?_
   refine RL.opD (by decide) (opv_indexII (L := [(0, 0), (1, 0), ((-1), 0), (0, 1), (0, (-1))]) rfl Try.arr152 Try.agg151 Try.size151 rfl rfl rfl rfl hx6) ?_
   refine RL.op _ (by decide) (opS_boxed (opv_alloc (cs := [(.int .i64 0), (.int .i64 0)]) rfl Try.zero151 rfl)) ?_
   rintro _ hp4 ⟨bb3, rfl, MT_3, T_3⟩
   obtain ⟨X_4, S_4⟩ := Sep.turn0 X_3 S_3 MT_3 T_3
   refine RL.op0 _ (opS_stored (cs := [(.int .i64 0), (.int .i64 0)]) (cs' := [(.int .i64 x6.1), (.int .i64 x6.2)]) (opv_storeA (us := [(.int .i64 x6.1), (.int .i64 x6.2)]) rfl Try.size151 rfl rfl (oneAll rfl (oneAll rfl rfl)) (Sep.at (o := boxO bb3 [(.int .i64 0), (.int .i64 0)]) S_4 0 rfl) rfl rfl) (Sep.at (o := boxO bb3 [(.int .i64 0), (.int .i64 0)]) S_4 0 rfl)) ?_
   rintro _ hp5 ⟨rfl, MT_4, T_4⟩
   have S_5 : Sep [] h0.size hp4 ([boxO bb3 [(.int .i64 0), (.int .i64 0)]] ++ [boxO bb2 [u1_0, u1_1, u1_2], boxO bb1 [(.int .i64 a0_0), (.int .i64 a0_1), (.bool a0_2), u0_3, u0_4]]) := Sep.sel S_4 [0, 1, 2] (by decide)
   obtain ⟨X_5, S_6⟩ := Sep.turn X_4 S_5 MT_4 T_4
   refine RL.nil ?_
   refine thnN ?_
   refine W.seq ?_
   refine W.sub (ψ := [(0, (.agg (List.toArray (α := Value) [(.int .i64 a0_0), (.int .i64 a0_1), (.bool a0_2), u0_3, u0_4]))), (1, (.agg (List.toArray (α := Value) [u1_0, u1_1, u1_2]))), (2, (.int .i64 a2)), (3, (.int .i64 a3)), (4, (.pointer (some ⟨bb1, 0, none⟩))), (5, (.pointer (some ⟨bb2, 0, none⟩))), (18, (.agg (List.toArray (α := Value) [(.int .i64 0), (.int .i64 0), (.int .i64 1), (.int .i64 0), (.int .i64 (-1)), (.int .i64 0), (.int .i64 0), (.int .i64 1), (.int .i64 0), (.int .i64 (-1))]))), (8, (.bool x1)), (19, (.int .i64 x2)), (20, (.bool (decide (x2 < 5)))), (10, (.pointer (some ⟨bb3, 0, none⟩)))]) ⟨rfl, rfl, rfl, rfl, rfl, rfl, rfl, rfl, rfl, rfl, rfl, trivial⟩ ?_
   refine W.regionP [fun v _ => @Eq Value (.int .i64 a2) v, fun v _ => @Eq Value (.pointer (some ⟨bb3, 0, none⟩)) v, fun v _ => @Eq Value (.int .i64 x6.1) v, fun v _ => @Eq Value (.int .i64 (IntKind.wrap .i64 (a2 + x6.1))) v, fun v _ => @Eq Value (.int .i64 a3) v, fun v _ => @Eq Value (.pointer (some ⟨bb3, 1, none⟩)) v, fun v _ => @Eq Value (.int .i64 x6.2) v, fun v _ => @Eq Value (.int .i64 (IntKind.wrap .i64 (a3 + x6.2))) v, fun v _ => @Eq Value (.int .i64 (IntKind.wrap .i64 (a2 + x6.1))) v, fun v _ => @Eq Value (.int .i64 (IntKind.wrap .i64 (a3 + x6.2))) v] [[], [], [1], [0, 2], [], [], [5], [4, 6], [3], [7]] [8, 9] Try.mixed (by decide +kernel) (by decide +kernel) rfl rfl rfl ?_ ?_
   ·refine ⟨⟨rfl, ?_⟩, ⟨rfl, ?_⟩, ⟨rfl, ?_⟩, ⟨rfl, ?_⟩, ⟨rfl, ?_⟩, ⟨rfl, ?_⟩, ⟨rfl, ?_⟩, ⟨rfl, ?_⟩, ⟨rfl, ?_⟩, ⟨rfl, ?_⟩, trivial⟩
    ·rintro _ rfl
     refine Dep.nil ?_
     refine GuardOK.none rfl ?_
     exact OpV.toD (opv_move rfl rfl) rfl
    ·rintro _ rfl
     refine Dep.nil ?_
     refine GuardOK.none rfl ?_
     exact OpV.toD (opv_indexArr (n := 0) rfl Try.arr151 Try.size2 rfl rfl rfl) rfl
    ·rintro _ rfl _ rfl
     refine Dep.nil ?_
     refine GuardOK.none rfl ?_
     exact OpV.toD (opv_loadB rfl Try.one2 rfl (Sep.at (o := boxO bb3 [(.int .i64 x6.1), (.int .i64 x6.2)]) S_6 0 rfl) rfl) rfl
    ·rintro _ rfl _ rfl _ rfl
     refine Dep.nil ?_
     refine GuardOK.none rfl ?_
     exact OpV.toD (opv_add rfl rfl rfl) rfl
    ·rintro _ rfl
     refine Dep.nil ?_
     refine GuardOK.none rfl ?_
     exact OpV.toD (opv_move rfl rfl) rfl
    ·rintro _ rfl
     refine Dep.nil ?_
     refine GuardOK.none rfl ?_
     exact OpV.toD (opv_indexArr (n := 1) rfl Try.arr151 Try.size2 rfl rfl rfl) rfl
    ·rintro _ rfl _ rfl
     refine Dep.nil ?_
     refine GuardOK.none rfl ?_
     exact OpV.toD (opv_loadB rfl Try.one2 rfl (Sep.at (o := boxO bb3 [(.int .i64 x6.1), (.int .i64 x6.2)]) S_6 0 rfl) rfl) rfl
    ·rintro _ rfl _ rfl _ rfl
     refine Dep.nil ?_
     refine GuardOK.none rfl ?_
     exact OpV.toD (opv_add rfl rfl rfl) rfl
    ·rintro _ rfl _ rfl
     refine Dep.nil ?_
     refine GuardOK.none rfl ?_
     exact OpV.toD (opv_assign rfl rfl) rfl
    ·rintro _ rfl _ rfl
     refine Dep.nil ?_
     refine GuardOK.none rfl ?_
     exact OpV.toD (opv_assign rfl rfl) rfl
   rintro _ rfl _ rfl
   refine Dep.nil ?_
   show RL _ _ _ _ [] _ _
   refine RL.nil ?_
   refine thnN ?_
   refine W.seq ?_
   obtain ⟨x7, hy2, ho1⟩ := Option.bind_eq_some_iff.1 ho1
   refine W.cut (fun φ' h' => Fr.sub [(0, (.agg (List.toArray (α := Value) [(.int .i64 a0_0), (.int .i64 a0_1), (.bool a0_2), u0_3, u0_4]))), (1, (.agg (List.toArray (α := Value) [u1_0, u1_1, u1_2]))), (2, (.int .i64 a2)), (3, (.int .i64 a3)), (4, (.pointer (some ⟨bb1, 0, none⟩))), (5, (.pointer (some ⟨bb2, 0, none⟩))), (18, (.agg (List.toArray (α := Value) [(.int .i64 0), (.int .i64 0), (.int .i64 1), (.int .i64 0), (.int .i64 (-1)), (.int .i64 0), (.int .i64 0), (.int .i64 1), (.int .i64 0), (.int .i64 (-1))]))), (8, (.bool x1)), (19, (.int .i64 x2)), (20, (.bool (decide (x2 < 5)))), (10, (.pointer (some ⟨bb3, 0, none⟩))), (11, (.int .i64 (IntKind.wrap .i64 (a2 + x6.1)))), (12, (.int .i64 (IntKind.wrap .i64 (a3 + x6.2)))), (46, (.bool x7))] φ' ∧ Mod [] h0 h' ∧ Sep [] h0.size h' [boxO bb3 [(.int .i64 x6.1), (.int .i64 x6.2)], boxO bb2 [u1_0, u1_1, u1_2], boxO bb1 [(.int .i64 a0_0), (.int .i64 a0_1), (.bool a0_2), u0_3, u0_4]]) ?_ ?_
   ·by_cases c2 : a0_2 = true
    ·rw [if_pos c2] at hy2
     obtain ⟨x8, hx8, hy2⟩ := Option.bind_eq_some_iff.1 hy2
     obtain ⟨x9, hx9, hy2⟩ := Option.bind_eq_some_iff.1 hy2
     refine W.sub (ψ := [(0, (.agg (List.toArray (α := Value) [(.int .i64 a0_0), (.int .i64 a0_1), (.bool a0_2), u0_3, u0_4]))), (1, (.agg (List.toArray (α := Value) [u1_0, u1_1, u1_2]))), (2, (.int .i64 a2)), (3, (.int .i64 a3)), (4, (.pointer (some ⟨bb1, 0, none⟩))), (5, (.pointer (some ⟨bb2, 0, none⟩))), (18, (.agg (List.toArray (α := Value) [(.int .i64 0), (.int .i64 0), (.int .i64 1), (.int .i64 0), (.int .i64 (-1)), (.int .i64 0), (.int .i64 0), (.int .i64 1), (.int .i64 0), (.int .i64 (-1))]))), (8, (.bool x1)), (19, (.int .i64 x2)), (20, (.bool (decide (x2 < 5)))), (10, (.pointer (some ⟨bb3, 0, none⟩))), (11, (.int .i64 (IntKind.wrap .i64 (a2 + x6.1)))), (12, (.int .i64 (IntKind.wrap .i64 (a3 + x6.2))))]) ⟨rfl, rfl, rfl, rfl, rfl, rfl, rfl, rfl, rfl, rfl, rfl, rfl, rfl, trivial⟩ ?_
     refine W.regionM [fun v _ => @Eq Value (.pointer (some ⟨bb1, 2, none⟩)) v, fun v _ => @Eq Value (.bool a0_2) v, fun v _ => @Eq Value (.bool a0_2) v, fun v _ => @Eq Value undef v, fun v _ => @Eq Value undef v, fun v _ => @Eq Value undef v, fun v _ => @Eq Value undef v, fun v _ => @Eq Value (.bool true) v, fun v _ => @Eq Value (.bool true) v, fun v _ => @Eq Value (.agg (List.toArray (α := Value) [u1_0, u1_1, u1_2])) v, fun v _ => @Eq Value (.agg (List.toArray (α := Value) [(.int .i64 a0_0), (.int .i64 a0_1), (.bool a0_2), u0_3, u0_4])) v, fun v _ => @Eq Value (.int .i64 (IntKind.wrap .i64 (a2 + x6.1))) v, fun v _ => @Eq Value (.int .i64 (IntKind.wrap .i64 (a3 + x6.2))) v, fun v h => @Eq Value v (.int .i64 x8) ∧ Sep [] hp5.size h [], fun v h => @Eq Value v (.bool x9) ∧ Sep [] hp5.size h [], fun v _ => @Eq Value (.bool (!x9)) v, fun v _ => @Eq Value (.bool (!x9)) v] [none, none, none, none, none, none, none, none, none, none, none, none, none, some (fun u => []), some (fun u => []), none, none] [] [[], [0], [1], [2], [2], [2], [2], [2], [7], [8], [8], [8], [8], [10, 11, 12, 8], [9, 13, 8], [14, 8], [8, 15]] [16] Try.mixed (by decide +kernel) (by decide +kernel) rfl rfl rfl (by decide +kernel) rfl ⟨fun _ _ _ h _ => h, fun _ _ _ h _ => h, fun _ _ _ h _ => h, fun _ _ _ h _ => h, fun _ _ _ h _ => h, fun _ _ _ h _ => h, fun _ _ _ h _ => h, fun _ _ _ h _ => h, fun _ _ _ h _ => h, fun _ _ _ h _ => h, fun _ _ _ h _ => h, fun _ _ _ h _ => h, fun _ _ _ h _ => h, fun _ _ _ ⟨e, h⟩ x => ⟨e, h.ext x⟩, fun _ _ _ ⟨e, h⟩ x => ⟨e, h.ext x⟩, fun _ _ _ h _ => h, fun _ _ _ h _ => h, trivial⟩ ?_ ?_
     ·refine ⟨⟨rfl, ?_⟩, ⟨rfl, ?_⟩, ⟨rfl, ?_⟩, ⟨rfl, ?_⟩, ⟨rfl, ?_⟩, ⟨rfl, ?_⟩, ⟨rfl, ?_⟩, ⟨rfl, ?_⟩, ⟨rfl, ?_⟩, ⟨rfl, ?_⟩, ⟨rfl, ?_⟩, ⟨rfl, ?_⟩, ⟨rfl, ?_⟩, ⟨rfl, ?_⟩, ⟨rfl, ?_⟩, ⟨rfl, ?_⟩, ⟨rfl, ?_⟩, trivial⟩
      ·rintro hp8 E_1
       refine Dep.nil ?_
       refine GuardOK.none rfl ?_
       exact OpV.toDx (opv_fieldAddr rfl Try.fo31_2 rfl) rfl
      ·rintro hp9 E_2 _ rfl
       refine Dep.nil ?_
       refine GuardOK.none rfl ?_
       exact OpV.toDx (opv_loadB rfl Try.one4 rfl (Sep.at (o := boxO bb1 [(.int .i64 a0_0), (.int .i64 a0_1), (.bool a0_2), u0_3, u0_4]) (Sep.ext S_6 E_2) 2 rfl) rfl) rfl
      ·rintro hp10 E_3 _ rfl
       refine Dep.nil ?_
       refine GuardOK.none rfl ?_
       exact OpV.toDx (opv_move rfl rfl) rfl
      ·rintro hp11 E_4 _ rfl
       refine Dep.nil ?_
       refine GuardOK.pass rfl rfl rfl (Eq.trans c2 (by decide)) ⟨Ext.refl _, rfl⟩
      ·rintro hp12 E_5 _ rfl
       refine Dep.nil ?_
       refine GuardOK.pass rfl rfl rfl (Eq.trans c2 (by decide)) ⟨Ext.refl _, rfl⟩
      ·rintro hp13 E_6 _ rfl
       refine Dep.nil ?_
       refine GuardOK.pass rfl rfl rfl (Eq.trans c2 (by decide)) ⟨Ext.refl _, rfl⟩
      ·rintro hp14 E_7 _ rfl
       refine Dep.nil ?_
       refine GuardOK.pass rfl rfl rfl (Eq.trans c2 (by decide)) ⟨Ext.refl _, rfl⟩
      ·rintro hp15 E_8 _ rfl
       refine Dep.nil ?_
       refine GuardOK.none rfl ?_
       exact OpV.toDx (opv_pick rfl rfl (fun _ => rfl) (fun e => absurd (Eq.trans (Eq.symm e) c2) (by decide)) rfl) rfl
      ·rintro hp16 E_9 _ rfl
       refine Dep.nil ?_
       refine GuardOK.none rfl ?_
       exact OpV.toDx (opv_move rfl rfl) rfl
      ·rintro hp17 E_10 _ rfl
       refine Dep.nil ?_
       refine GuardOK.some rfl rfl rfl rfl ?_
       exact OpV.toDx (opv_loadA (us := [u1_0, u1_1, u1_2]) rfl Try.agg28 Try.size28 rfl (Sep.at (o := boxO bb2 [u1_0, u1_1, u1_2]) (Sep.ext S_6 E_10) 1 rfl) rfl rfl) rfl
      ·rintro hp18 E_11 _ rfl
       refine Dep.nil ?_
       refine GuardOK.some rfl rfl rfl rfl ?_
       exact OpV.toDx (opv_loadA (us := [(.int .i64 a0_0), (.int .i64 a0_1), (.bool a0_2), u0_3, u0_4]) rfl Try.agg31 Try.size31 rfl (Sep.at (o := boxO bb1 [(.int .i64 a0_0), (.int .i64 a0_1), (.bool a0_2), u0_3, u0_4]) (Sep.ext S_6 E_11) 2 rfl) rfl rfl) rfl
      ·rintro hp19 E_12 _ rfl
       refine Dep.nil ?_
       refine GuardOK.some rfl rfl rfl rfl ?_
       exact OpV.toDx (opv_move rfl rfl) rfl
      ·rintro hp20 E_13 _ rfl
       refine Dep.nil ?_
       refine GuardOK.some rfl rfl rfl rfl ?_
       exact OpV.toDx (opv_move rfl rfl) rfl
      ·rintro hp21 E_14 _ rfl _ rfl _ rfl _ rfl
       refine Dep.nil ?_
       refine GuardOK.some rfl rfl rfl rfl ?_
       exact OpV.mono (opv_call (cap := []) (impl_Sheet_at_ok _ _ _ _ _ _ (SL.up (SL.mod g0_3 (Mod.lift X_5 E_14) (Nat.le_refl _) nob) (Nat.le_trans (Nat.le_refl _) (Mod.size (Mod.lift X_5 E_14)))) _ _ (SL.up (SL.mod g0_4 (Mod.lift X_5 E_14) (Nat.le_refl _) nob) (Nat.le_trans (Nat.le_refl _) (Mod.size (Mod.lift X_5 E_14)))) _ _ _ hx8) rfl rfl ⟨rfl, rfl, rfl, trivial⟩ Try.func118 rfl rfl) (by rintro _ _ ⟨rfl, M_, T_⟩; exact ⟨Mod.ext M_, ⟨rfl, Sep.weak T_ (Ext.size E_14)⟩, Sep.fresh T_⟩)
      ·rintro hp22 E_15 _ rfl _ ⟨rfl, T_5⟩ _ rfl
       refine Dep.nil ?_
       refine GuardOK.some rfl rfl rfl rfl ?_
       exact OpV.mono (opv_call (cap := []) (impl_isNothing_ok _ _ _ (SL.up (SL.mod g1_0 (Mod.lift X_5 E_15) (Nat.le_refl _) nob) (Nat.le_trans (Nat.le_refl _) (Mod.size (Mod.lift X_5 E_15)))) _ _ (SL.up (SL.mod g1_1 (Mod.lift X_5 E_15) (Nat.le_refl _) nob) (Nat.le_trans (Nat.le_refl _) (Mod.size (Mod.lift X_5 E_15)))) _ _ (SL.up (SL.mod g1_2 (Mod.lift X_5 E_15) (Nat.le_refl _) nob) (Nat.le_trans (Nat.le_refl _) (Mod.size (Mod.lift X_5 E_15)))) _ _ hx9) rfl rfl ⟨rfl, rfl, trivial⟩ Try.func140 rfl rfl) (by rintro _ _ ⟨rfl, M_, T_⟩; exact ⟨Mod.ext M_, ⟨rfl, Sep.weak T_ (Ext.size E_15)⟩, Sep.fresh T_⟩)
      ·rintro hp23 E_16 _ ⟨rfl, T_6⟩ _ rfl
       refine Dep.nil ?_
       refine GuardOK.some rfl rfl rfl rfl ?_
       exact OpV.toDx (opv_not rfl rfl) rfl
      ·rintro hp24 E_17 _ rfl _ rfl
       refine Dep.nil ?_
       refine GuardOK.none rfl ?_
       exact OpV.toDx (opv_pick rfl rfl (fun _ => rfl) (fun e => absurd (Eq.trans (Eq.symm e) rfl) (by decide)) rfl) rfl
     rintro hp25 E_18 _ rfl
     refine DepM.nil ?_
     intro _ LK_
     have X_8 := Mod.lift X_5 E_18
     have S_9 := Sep.ext S_6 E_18
     show RL _ _ _ _ [] _ _
     refine RL.nil ?_
     have ey2 := Option.some.inj hy2
     subst ey2
     refine onlyN ?_
     exact ⟨⟨rfl, rfl, rfl, rfl, rfl, rfl, rfl, rfl, rfl, rfl, rfl, rfl, rfl, rfl, trivial⟩, X_8, (Sep.sel S_9 [0, 1, 2] (by decide))⟩
    ·rw [if_neg c2] at hy2
     have c2 := eq_false_of_ne_true c2
     obtain ⟨x10, hx10, hy2⟩ := Option.bind_eq_some_iff.1 hy2
     by_cases c3 : x10 = true
     ·rw [if_pos c3] at hy2
      obtain ⟨x11, hx11, hy2⟩ := Option.bind_eq_some_iff.1 hy2
      obtain ⟨x12, hx12, hy2⟩ := Option.bind_eq_some_iff.1 hy2
      refine W.sub (ψ := [(0, (.agg (List.toArray (α := Value) [(.int .i64 a0_0), (.int .i64 a0_1), (.bool a0_2), u0_3, u0_4]))), (1, (.agg (List.toArray (α := Value) [u1_0, u1_1, u1_2]))), (2, (.int .i64 a2)), (3, (.int .i64 a3)), (4, (.pointer (some ⟨bb1, 0, none⟩))), (5, (.pointer (some ⟨bb2, 0, none⟩))), (18, (.agg (List.toArray (α := Value) [(.int .i64 0), (.int .i64 0), (.int .i64 1), (.int .i64 0), (.int .i64 (-1)), (.int .i64 0), (.int .i64 0), (.int .i64 1), (.int .i64 0), (.int .i64 (-1))]))), (8, (.bool x1)), (19, (.int .i64 x2)), (20, (.bool (decide (x2 < 5)))), (10, (.pointer (some ⟨bb3, 0, none⟩))), (11, (.int .i64 (IntKind.wrap .i64 (a2 + x6.1)))), (12, (.int .i64 (IntKind.wrap .i64 (a3 + x6.2))))]) ⟨rfl, rfl, rfl, rfl, rfl, rfl, rfl, rfl, rfl, rfl, rfl, rfl, rfl, trivial⟩ ?_
      refine W.regionM [fun v _ => @Eq Value (.pointer (some ⟨bb1, 2, none⟩)) v, fun v _ => @Eq Value (.bool a0_2) v, fun v _ => @Eq Value (.bool a0_2) v, fun v _ => @Eq Value (.agg (List.toArray (α := Value) [(.int .i64 a0_0), (.int .i64 a0_1), (.bool a0_2), u0_3, u0_4])) v, fun v _ => @Eq Value (.int .i64 (IntKind.wrap .i64 (a2 + x6.1))) v, fun v _ => @Eq Value (.int .i64 (IntKind.wrap .i64 (a3 + x6.2))) v, fun v h => @Eq Value v (.bool x10) ∧ Sep [] hp5.size h [], fun v _ => @Eq Value (.bool x10) v, fun v _ => @Eq Value (.bool x10) v, fun v _ => @Eq Value (.agg (List.toArray (α := Value) [u1_0, u1_1, u1_2])) v, fun v _ => @Eq Value (.agg (List.toArray (α := Value) [(.int .i64 a0_0), (.int .i64 a0_1), (.bool a0_2), u0_3, u0_4])) v, fun v _ => @Eq Value (.int .i64 (IntKind.wrap .i64 (a2 + x6.1))) v, fun v _ => @Eq Value (.int .i64 (IntKind.wrap .i64 (a3 + x6.2))) v, fun v h => @Eq Value v (.int .i64 x11) ∧ Sep [] hp5.size h [], fun v h => @Eq Value v (.bool x12) ∧ Sep [] hp5.size h [], fun v _ => @Eq Value (.bool (!x12)) v, fun v _ => @Eq Value (.bool (!x12)) v] [none, none, none, none, none, none, some (fun u => []), none, none, none, none, none, none, some (fun u => []), some (fun u => []), none, none] [] [[], [0], [1], [2], [2], [2], [3, 4, 5, 2], [2, 6], [7], [8], [8], [8], [8], [10, 11, 12, 8], [9, 13, 8], [14, 8], [8, 15]] [16] Try.mixed (by decide +kernel) (by decide +kernel) rfl rfl rfl (by decide +kernel) rfl ⟨fun _ _ _ h _ => h, fun _ _ _ h _ => h, fun _ _ _ h _ => h, fun _ _ _ h _ => h, fun _ _ _ h _ => h, fun _ _ _ h _ => h, fun _ _ _ ⟨e, h⟩ x => ⟨e, h.ext x⟩, fun _ _ _ h _ => h, fun _ _ _ h _ => h, fun _ _ _ h _ => h, fun _ _ _ h _ => h, fun _ _ _ h _ => h, fun _ _ _ h _ => h, fun _ _ _ ⟨e, h⟩ x => ⟨e, h.ext x⟩, fun _ _ _ ⟨e, h⟩ x => ⟨e, h.ext x⟩, fun _ _ _ h _ => h, fun _ _ _ h _ => h, trivial⟩ ?_ ?_
      ·refine ⟨⟨rfl, ?_⟩, ⟨rfl, ?_⟩, ⟨rfl, ?_⟩, ⟨rfl, ?_⟩, ⟨rfl, ?_⟩, ⟨rfl, ?_⟩, ⟨rfl, ?_⟩, ⟨rfl, ?_⟩, ⟨rfl, ?_⟩, ⟨rfl, ?_⟩, ⟨rfl, ?_⟩, ⟨rfl, ?_⟩, ⟨rfl, ?_⟩, ⟨rfl, ?_⟩, ⟨rfl, ?_⟩, ⟨rfl, ?_⟩, ⟨rfl, ?_⟩, trivial⟩
       ·rintro hp29 E_19
        refine Dep.nil ?_
        refine GuardOK.none rfl ?_
        exact OpV.toDx (opv_fieldAddr rfl Try.fo31_2 rfl) rfl
       ·rintro hp30 E_20 _ rfl
        refine Dep.nil ?_
        refine GuardOK.none rfl ?_
        exact OpV.toDx (opv_loadB rfl Try.one4 rfl (Sep.at (o := boxO bb1 [(.int .i64 a0_0), (.int .i64 a0_1), (.bool a0_2), u0_3, u0_4]) (Sep.ext S_6 E_20) 2 rfl) rfl) rfl
       ·rintro hp31 E_21 _ rfl
        refine Dep.nil ?_
        refine GuardOK.none rfl ?_
        exact OpV.toDx (opv_move rfl rfl) rfl
       ·rintro hp32 E_22 _ rfl
        refine Dep.nil ?_
        refine GuardOK.some rfl rfl rfl c2 ?_
        exact OpV.toDx (opv_loadA (us := [(.int .i64 a0_0), (.int .i64 a0_1), (.bool a0_2), u0_3, u0_4]) rfl Try.agg31 Try.size31 rfl (Sep.at (o := boxO bb1 [(.int .i64 a0_0), (.int .i64 a0_1), (.bool a0_2), u0_3, u0_4]) (Sep.ext S_6 E_22) 2 rfl) rfl rfl) rfl
       ·rintro hp33 E_23 _ rfl
        refine Dep.nil ?_
        refine GuardOK.some rfl rfl rfl c2 ?_
        exact OpV.toDx (opv_move rfl rfl) rfl
       ·rintro hp34 E_24 _ rfl
        refine Dep.nil ?_
        refine GuardOK.some rfl rfl rfl c2 ?_
        exact OpV.toDx (opv_move rfl rfl) rfl
       ·rintro hp35 E_25 _ rfl _ rfl _ rfl _ rfl
        refine Dep.nil ?_
        refine GuardOK.some rfl rfl rfl c2 ?_
        exact OpV.mono (opv_call (cap := []) (impl_Sheet_isCell_ok _ _ _ _ _ _ (SL.up (SL.mod g0_3 (Mod.lift X_5 E_25) (Nat.le_refl _) nob) (Nat.le_trans (Nat.le_refl _) (Mod.size (Mod.lift X_5 E_25)))) _ _ (SL.up (SL.mod g0_4 (Mod.lift X_5 E_25) (Nat.le_refl _) nob) (Nat.le_trans (Nat.le_refl _) (Mod.size (Mod.lift X_5 E_25)))) _ _ _ hx10) rfl rfl ⟨rfl, rfl, rfl, trivial⟩ Try.func139 rfl rfl) (by rintro _ _ ⟨rfl, M_, T_⟩; exact ⟨Mod.ext M_, ⟨rfl, Sep.weak T_ (Ext.size E_25)⟩, Sep.fresh T_⟩)
       ·rintro hp36 E_26 _ rfl _ ⟨rfl, T_7⟩
        refine Dep.nil ?_
        refine GuardOK.none rfl ?_
        exact OpV.toDx (opv_pick rfl rfl (fun e => absurd (Eq.trans (Eq.symm e) c2) (by decide)) (fun _ => rfl) rfl) rfl
       ·rintro hp37 E_27 _ rfl
        refine Dep.nil ?_
        refine GuardOK.none rfl ?_
        exact OpV.toDx (opv_move rfl rfl) rfl
       ·rintro hp38 E_28 _ rfl
        refine Dep.nil ?_
        refine GuardOK.some rfl rfl rfl c3 ?_
        exact OpV.toDx (opv_loadA (us := [u1_0, u1_1, u1_2]) rfl Try.agg28 Try.size28 rfl (Sep.at (o := boxO bb2 [u1_0, u1_1, u1_2]) (Sep.ext S_6 E_28) 1 rfl) rfl rfl) rfl
       ·rintro hp39 E_29 _ rfl
        refine Dep.nil ?_
        refine GuardOK.some rfl rfl rfl c3 ?_
        exact OpV.toDx (opv_loadA (us := [(.int .i64 a0_0), (.int .i64 a0_1), (.bool a0_2), u0_3, u0_4]) rfl Try.agg31 Try.size31 rfl (Sep.at (o := boxO bb1 [(.int .i64 a0_0), (.int .i64 a0_1), (.bool a0_2), u0_3, u0_4]) (Sep.ext S_6 E_29) 2 rfl) rfl rfl) rfl
       ·rintro hp40 E_30 _ rfl
        refine Dep.nil ?_
        refine GuardOK.some rfl rfl rfl c3 ?_
        exact OpV.toDx (opv_move rfl rfl) rfl
       ·rintro hp41 E_31 _ rfl
        refine Dep.nil ?_
        refine GuardOK.some rfl rfl rfl c3 ?_
        exact OpV.toDx (opv_move rfl rfl) rfl
       ·rintro hp42 E_32 _ rfl _ rfl _ rfl _ rfl
        refine Dep.nil ?_
        refine GuardOK.some rfl rfl rfl c3 ?_
        exact OpV.mono (opv_call (cap := []) (impl_Sheet_at_ok _ _ _ _ _ _ (SL.up (SL.mod g0_3 (Mod.lift X_5 E_32) (Nat.le_refl _) nob) (Nat.le_trans (Nat.le_refl _) (Mod.size (Mod.lift X_5 E_32)))) _ _ (SL.up (SL.mod g0_4 (Mod.lift X_5 E_32) (Nat.le_refl _) nob) (Nat.le_trans (Nat.le_refl _) (Mod.size (Mod.lift X_5 E_32)))) _ _ _ hx11) rfl rfl ⟨rfl, rfl, rfl, trivial⟩ Try.func118 rfl rfl) (by rintro _ _ ⟨rfl, M_, T_⟩; exact ⟨Mod.ext M_, ⟨rfl, Sep.weak T_ (Ext.size E_32)⟩, Sep.fresh T_⟩)
       ·rintro hp43 E_33 _ rfl _ ⟨rfl, T_8⟩ _ rfl
        refine Dep.nil ?_
        refine GuardOK.some rfl rfl rfl c3 ?_
        exact OpV.mono (opv_call (cap := []) (impl_isNothing_ok _ _ _ (SL.up (SL.mod g1_0 (Mod.lift X_5 E_33) (Nat.le_refl _) nob) (Nat.le_trans (Nat.le_refl _) (Mod.size (Mod.lift X_5 E_33)))) _ _ (SL.up (SL.mod g1_1 (Mod.lift X_5 E_33) (Nat.le_refl _) nob) (Nat.le_trans (Nat.le_refl _) (Mod.size (Mod.lift X_5 E_33)))) _ _ (SL.up (SL.mod g1_2 (Mod.lift X_5 E_33) (Nat.le_refl _) nob) (Nat.le_trans (Nat.le_refl _) (Mod.size (Mod.lift X_5 E_33)))) _ _ hx12) rfl rfl ⟨rfl, rfl, trivial⟩ Try.func140 rfl rfl) (by rintro _ _ ⟨rfl, M_, T_⟩; exact ⟨Mod.ext M_, ⟨rfl, Sep.weak T_ (Ext.size E_33)⟩, Sep.fresh T_⟩)
       ·rintro hp44 E_34 _ ⟨rfl, T_9⟩ _ rfl
        refine Dep.nil ?_
        refine GuardOK.some rfl rfl rfl c3 ?_
        exact OpV.toDx (opv_not rfl rfl) rfl
       ·rintro hp45 E_35 _ rfl _ rfl
        refine Dep.nil ?_
        refine GuardOK.none rfl ?_
        exact OpV.toDx (opv_pick rfl rfl (fun _ => rfl) (fun e => absurd (Eq.trans (Eq.symm e) c3) (by decide)) rfl) rfl
      rintro hp46 E_36 _ rfl
      refine DepM.nil ?_
      intro _ LK_
      have X_12 := Mod.lift X_5 E_36
      have S_13 := Sep.ext S_6 E_36
      show RL _ _ _ _ [] _ _
      refine RL.nil ?_
      have ey2 := Option.some.inj hy2
      subst ey2
      refine onlyN ?_
      exact ⟨⟨rfl, rfl, rfl, rfl, rfl, rfl, rfl, rfl, rfl, rfl, rfl, rfl, rfl, rfl, trivial⟩, X_12, (Sep.sel S_13 [0, 1, 2] (by decide))⟩
     ·rw [if_neg c3] at hy2
      have c3 := eq_false_of_ne_true c3
      refine W.sub (ψ := [(0, (.agg (List.toArray (α := Value) [(.int .i64 a0_0), (.int .i64 a0_1), (.bool a0_2), u0_3, u0_4]))), (1, (.agg (List.toArray (α := Value) [u1_0, u1_1, u1_2]))), (2, (.int .i64 a2)), (3, (.int .i64 a3)), (4, (.pointer (some ⟨bb1, 0, none⟩))), (5, (.pointer (some ⟨bb2, 0, none⟩))), (18, (.agg (List.toArray (α := Value) [(.int .i64 0), (.int .i64 0), (.int .i64 1), (.int .i64 0), (.int .i64 (-1)), (.int .i64 0), (.int .i64 0), (.int .i64 1), (.int .i64 0), (.int .i64 (-1))]))), (8, (.bool x1)), (19, (.int .i64 x2)), (20, (.bool (decide (x2 < 5)))), (10, (.pointer (some ⟨bb3, 0, none⟩))), (11, (.int .i64 (IntKind.wrap .i64 (a2 + x6.1)))), (12, (.int .i64 (IntKind.wrap .i64 (a3 + x6.2))))]) ⟨rfl, rfl, rfl, rfl, rfl, rfl, rfl, rfl, rfl, rfl, rfl, rfl, rfl, trivial⟩ ?_
      refine W.regionS [fun v _ => @Eq Value (.pointer (some ⟨bb1, 2, none⟩)) v, fun v _ => @Eq Value (.bool a0_2) v, fun v _ => @Eq Value (.bool a0_2) v, fun v _ => @Eq Value (.agg (List.toArray (α := Value) [(.int .i64 a0_0), (.int .i64 a0_1), (.bool a0_2), u0_3, u0_4])) v, fun v _ => @Eq Value (.int .i64 (IntKind.wrap .i64 (a2 + x6.1))) v, fun v _ => @Eq Value (.int .i64 (IntKind.wrap .i64 (a3 + x6.2))) v, fun v h => @Eq Value v (.bool x10) ∧ Sep [] hp5.size h [], fun v _ => @Eq Value (.bool x10) v, fun v _ => @Eq Value (.bool x10) v, fun v _ => @Eq Value undef v, fun v _ => @Eq Value undef v, fun v _ => @Eq Value undef v, fun v _ => @Eq Value undef v, fun v _ => @Eq Value undef v, fun v _ => @Eq Value undef v, fun v _ => @Eq Value undef v, fun v _ => @Eq Value (.bool false) v] [[], [0], [1], [2], [2], [2], [3, 4, 5, 2], [2, 6], [7], [8], [8], [8], [8], [8], [8], [8], [8]] [16] Try.mixed (by decide +kernel) (by decide +kernel) rfl rfl rfl ⟨fun _ _ _ h _ => h, fun _ _ _ h _ => h, fun _ _ _ h _ => h, fun _ _ _ h _ => h, fun _ _ _ h _ => h, fun _ _ _ h _ => h, fun _ _ _ ⟨e, h⟩ x => ⟨e, h.ext x⟩, fun _ _ _ h _ => h, fun _ _ _ h _ => h, fun _ _ _ h _ => h, fun _ _ _ h _ => h, fun _ _ _ h _ => h, fun _ _ _ h _ => h, fun _ _ _ h _ => h, fun _ _ _ h _ => h, fun _ _ _ h _ => h, fun _ _ _ h _ => h, trivial⟩ ?_ ?_
      ·refine ⟨⟨rfl, ?_⟩, ⟨rfl, ?_⟩, ⟨rfl, ?_⟩, ⟨rfl, ?_⟩, ⟨rfl, ?_⟩, ⟨rfl, ?_⟩, ⟨rfl, ?_⟩, ⟨rfl, ?_⟩, ⟨rfl, ?_⟩, ⟨rfl, ?_⟩, ⟨rfl, ?_⟩, ⟨rfl, ?_⟩, ⟨rfl, ?_⟩, ⟨rfl, ?_⟩, ⟨rfl, ?_⟩, ⟨rfl, ?_⟩, ⟨rfl, ?_⟩, trivial⟩
       ·rintro hp47 E_37
        refine Dep.nil ?_
        refine GuardOK.none rfl ?_
        exact OpV.toDx (opv_fieldAddr rfl Try.fo31_2 rfl) rfl
       ·rintro hp48 E_38 _ rfl
        refine Dep.nil ?_
        refine GuardOK.none rfl ?_
        exact OpV.toDx (opv_loadB rfl Try.one4 rfl (Sep.at (o := boxO bb1 [(.int .i64 a0_0), (.int .i64 a0_1), (.bool a0_2), u0_3, u0_4]) (Sep.ext S_6 E_38) 2 rfl) rfl) rfl
       ·rintro hp49 E_39 _ rfl
        refine Dep.nil ?_
        refine GuardOK.none rfl ?_
        exact OpV.toDx (opv_move rfl rfl) rfl
       ·rintro hp50 E_40 _ rfl
        refine Dep.nil ?_
        refine GuardOK.some rfl rfl rfl c2 ?_
        exact OpV.toDx (opv_loadA (us := [(.int .i64 a0_0), (.int .i64 a0_1), (.bool a0_2), u0_3, u0_4]) rfl Try.agg31 Try.size31 rfl (Sep.at (o := boxO bb1 [(.int .i64 a0_0), (.int .i64 a0_1), (.bool a0_2), u0_3, u0_4]) (Sep.ext S_6 E_40) 2 rfl) rfl rfl) rfl
       ·rintro hp51 E_41 _ rfl
        refine Dep.nil ?_
        refine GuardOK.some rfl rfl rfl c2 ?_
        exact OpV.toDx (opv_move rfl rfl) rfl
       ·rintro hp52 E_42 _ rfl
        refine Dep.nil ?_
        refine GuardOK.some rfl rfl rfl c2 ?_
        exact OpV.toDx (opv_move rfl rfl) rfl
       ·rintro hp53 E_43 _ rfl _ rfl _ rfl _ rfl
        refine Dep.nil ?_
        refine GuardOK.some rfl rfl rfl c2 ?_
        exact OpV.mono (opv_call (cap := []) (impl_Sheet_isCell_ok _ _ _ _ _ _ (SL.up (SL.mod g0_3 (Mod.lift X_5 E_43) (Nat.le_refl _) nob) (Nat.le_trans (Nat.le_refl _) (Mod.size (Mod.lift X_5 E_43)))) _ _ (SL.up (SL.mod g0_4 (Mod.lift X_5 E_43) (Nat.le_refl _) nob) (Nat.le_trans (Nat.le_refl _) (Mod.size (Mod.lift X_5 E_43)))) _ _ _ hx10) rfl rfl ⟨rfl, rfl, rfl, trivial⟩ Try.func139 rfl rfl) (by rintro _ _ ⟨rfl, M_, T_⟩; exact ⟨Mod.ext M_, rfl, Sep.weak T_ (Ext.size E_43)⟩)
       ·rintro hp54 E_44 _ rfl _ ⟨rfl, T_7⟩
        refine Dep.nil ?_
        refine GuardOK.none rfl ?_
        exact OpV.toDx (opv_pick rfl rfl (fun e => absurd (Eq.trans (Eq.symm e) c2) (by decide)) (fun _ => rfl) rfl) rfl
       ·rintro hp55 E_45 _ rfl
        refine Dep.nil ?_
        refine GuardOK.none rfl ?_
        exact OpV.toDx (opv_move rfl rfl) rfl
       ·rintro hp56 E_46 _ rfl
        refine Dep.nil ?_
        refine GuardOK.pass rfl rfl rfl (Eq.trans c3 (by decide)) ⟨Ext.refl _, rfl⟩
       ·rintro hp57 E_47 _ rfl
        refine Dep.nil ?_
        refine GuardOK.pass rfl rfl rfl (Eq.trans c3 (by decide)) ⟨Ext.refl _, rfl⟩
       ·rintro hp58 E_48 _ rfl
        refine Dep.nil ?_
        refine GuardOK.pass rfl rfl rfl (Eq.trans c3 (by decide)) ⟨Ext.refl _, rfl⟩
       ·rintro hp59 E_49 _ rfl
        refine Dep.nil ?_
        refine GuardOK.pass rfl rfl rfl (Eq.trans c3 (by decide)) ⟨Ext.refl _, rfl⟩
       ·rintro hp60 E_50 _ rfl
        refine Dep.nil ?_
        refine GuardOK.pass rfl rfl rfl (Eq.trans c3 (by decide)) ⟨Ext.refl _, rfl⟩
       ·rintro hp61 E_51 _ rfl
        refine Dep.nil ?_
        refine GuardOK.pass rfl rfl rfl (Eq.trans c3 (by decide)) ⟨Ext.refl _, rfl⟩
       ·rintro hp62 E_52 _ rfl
        refine Dep.nil ?_
        refine GuardOK.pass rfl rfl rfl (Eq.trans c3 (by decide)) ⟨Ext.refl _, rfl⟩
       ·rintro hp63 E_53 _ rfl
        refine Dep.nil ?_
        refine GuardOK.none rfl ?_
        exact OpV.toDx (opv_pick rfl rfl (fun e => absurd (Eq.trans (Eq.symm e) c3) (by decide)) (fun _ => rfl) rfl) rfl
      rintro hp64 E_54 _ rfl
      have X_13 := Mod.lift X_5 E_54
      have S_14 := Sep.ext S_6 E_54
      refine Dep.nil ?_
      show RL _ _ _ _ [] _ _
      refine RL.nil ?_
      have ey2 := Option.some.inj hy2
      subst ey2
      refine onlyN ?_
      exact ⟨⟨rfl, rfl, rfl, rfl, rfl, rfl, rfl, rfl, rfl, rfl, rfl, rfl, rfl, rfl, trivial⟩, X_13, (Sep.sel S_14 [0, 1, 2] (by decide))⟩
   rintro φ' hp65 ⟨hs3, X_14, S_15⟩
   refine thnN ?_
   refine W.sub hs3 ?_
   by_cases c4 : x7 = true
   ·rw [if_pos c4] at ho1
    refine W.condT rfl c4 ?_
    refine W.seq ?_
    refine W.region ?_
    refine RL.opD (by decide) (opv_assign rfl rfl) ?_
    refine RL.nil ?_
    refine thnN ?_
    refine W.ret ?_
    refine blkR ?_
    refine thnR ?_
    have eo1 := Option.some.inj ho1
    subst eo1
    have ey1 := hy1 _ rfl
    subst ey1
    try dsimp only at hp
    refine rndR ?_
    refine blkR ?_
    refine onlyR ?_
    refine thnR ?_
    have er := Option.some.inj hp
    subst er
    exact Rt.one rfl rfl ⟨rfl, X_14, (Sep.nil _ _ _)⟩
   ·rw [if_neg c4] at ho1
    have c4 := eq_false_of_ne_true c4
    refine W.condF rfl c4 ?_
    refine W.skip ?_
    refine blkN ?_
    refine thnN ?_
    refine W.region ?_
    refine RL.opD (by decide) (opv_add rfl rfl rfl) ?_
    refine RL.opD (by decide) (opv_move rfl rfl) ?_
    refine RL.nil ?_
    have eo1 := Option.some.inj ho1
    subst eo1
    refine rndN (s' := (x1, IntKind.wrap .i64 (x2 + 1))) rfl ?_
    exact ⟨⟨rfl, rfl, rfl, rfl, rfl, rfl, rfl, rfl, rfl, trivial⟩, X_14, (Sep.sel S_15 [1, 2] (by decide))⟩
  ·rw [if_neg c1] at ho1
   have c1 := eq_false_of_ne_true c1
   refine W.condF rfl c1 ?_
   refine W.exit ?_
   refine thnX ?_
   refine rndX ?_
   refine blkI ?_
   have eo1 := Option.some.inj ho1
   subst eo1
   have ey1 := hy1 _ rfl
   subst ey1
   refine onlyN ?_
   exact ⟨x1, x2, decide (x2 < 5), rfl, ⟨rfl, rfl, rfl, rfl, rfl, rfl, rfl, rfl, rfl, rfl, trivial⟩, X_3, (Sep.sel S_3 [0, 1] (by decide))⟩
 rintro φ' hp66 ⟨x3, x4, x5, rfl, hs2, X_15, S_16⟩
 try dsimp only at hp
 refine thnN ?_
 refine W.sub hs2 ?_
 refine W.seq ?_
 refine W.region ?_
 refine RL.opD (by decide) (opv_assign rfl rfl) ?_
 refine RL.nil ?_
 refine thnN ?_
 refine W.ret ?_
 have er := Option.some.inj hp
 subst er
 exact Rt.one rfl rfl ⟨rfl, X_15, (Sep.nil _ _ _)⟩

set_option maxRecDepth 20000 in
theorem impl_SleepingBlocks_1_2_ok (h0 : Heap) (lo : Nat) (hlo : lo ≤ h0.size) (a0 : Int) (a1 : Int) (a2 : Int) (be0 : Nat) (ae0_0 : Int) (ae0_1 : Int) (ae0_2 : Bool) (ue0_3 : Value) (ae0_3 : List (Option Nat)) (ge0_3 : SL (kF .f32) lo h0 ue0_3 ae0_3) (ue0_4 : Value) (ae0_4 : List (Option Nat)) (ge0_4 : SL (kF .f32) lo h0 ue0_4 ae0_4) (be1 : Nat) (ue1_0 : Value) (ae1_0 : List (Option Nat)) (ge1_0 : SL (kF .f32) lo h0 ue1_0 ae1_0) (ue1_1 : Value) (ae1_1 : List (Option Nat)) (ge1_1 : SL (kF .f32) lo h0 ue1_1 ae1_1) (ue1_2 : Value) (ae1_2 : List (Option Nat)) (ge1_2 : SL (kF .f32) lo h0 ue1_2 ae1_2) (be2 : Nat) (ue2_0 : Value) (ae2_0 : List (Bool)) (be3 : Nat) (ae3_0 : Int) (be4 : Nat) (ae4_0 : Int) (S0 : Sep [some be0, some be1, some be2, ue2_0.ownBlock, some be3, some be4] h0.size h0 [boxO be0 [(.int .i64 ae0_0), (.int .i64 ae0_1), (.bool ae0_2), ue0_3, ue0_4], boxO be1 [ue1_0, ue1_1, ue1_2], boxO be2 [ue2_0], ownO kB 4 ue2_0 ae2_0, boxO be3 [(.int .i64 ae3_0)], boxO be4 [(.int .i64 ae4_0)]]) (hB : ∀ b, some b ∈ [some be0, some be1, some be2, ue2_0.ownBlock, some be3, some be4] → lo ≤ b) (r : (Int × Int × Bool × (List (Bool)) × Int × Int)) (hp : impl_SleepingBlocks_1_2 a0 a1 a2 ae0_0 ae0_1 ae0_2 ae0_3 ae0_4 ae1_0 ae1_1 ae1_2 ae2_0 ae3_0 ae4_0 = some r) : CallsH Try.prog 80 ([(.int .i64 a0), (.int .i64 a1), (.int .i64 a2)].toArray ++ [(.pointer (some ⟨be0, 0, none⟩)), (.pointer (some ⟨be1, 0, none⟩)), (.pointer (some ⟨be2, 0, none⟩)), (.pointer (some ⟨be3, 0, none⟩)), (.pointer (some ⟨be4, 0, none⟩))].toArray) h0 (fun v h' => v = (.tuple (List.toArray (α := Value) [])) ∧ Mod [some be0, some be1, some be2, ue2_0.ownBlock, some be3, some be4] h0 h' ∧ Sep [some be0, some be1, some be2, ue2_0.ownBlock, some be3, some be4] h0.size h' [boxO be0 [(.int .i64 r.1), (.int .i64 r.2.1), (.bool r.2.2.1), ue0_3, ue0_4], boxO be1 [ue1_0, ue1_1, ue1_2], boxO be2 [ue2_0], ownO kB 4 ue2_0 r.2.2.2.1, boxO be3 [(.int .i64 r.2.2.2.2.1)], boxO be4 [(.int .i64 r.2.2.2.2.2)]]) := by
 unfold impl_SleepingBlocks_1_2 at hp
 refine callsH_of_W (l := [(.int .i64 a0), (.int .i64 a1), (.int .i64 a2)]) (cap := [(.pointer (some ⟨be0, 0, none⟩)), (.pointer (some ⟨be1, 0, none⟩)), (.pointer (some ⟨be2, 0, none⟩)), (.pointer (some ⟨be3, 0, none⟩)), (.pointer (some ⟨be4, 0, none⟩))]) 28 Try.func80 rfl rfl rfl ?_
 refine W.seq ?_
 obtain ⟨x1, hx1, hp⟩ := Option.bind_eq_some_iff.1 hp
 refine W.region ?_
 refine RL.opD (by decide) (opv_loadA (us := [(.int .i64 ae0_0), (.int .i64 ae0_1), (.bool ae0_2), ue0_3, ue0_4]) rfl Try.agg31 Try.size31 rfl (Sep.at (o := boxO be0 [(.int .i64 ae0_0), (.int .i64 ae0_1), (.bool ae0_2), ue0_3, ue0_4]) S0 0 rfl) rfl rfl) ?_
 refine RL.opD (by decide) (opv_loadA (us := [ue1_0, ue1_1, ue1_2]) rfl Try.agg28 Try.size28 rfl (Sep.at (o := boxO be1 [ue1_0, ue1_1, ue1_2]) S0 1 rfl) rfl rfl) ?_
 refine RL.opD (by decide) (opv_move rfl rfl) ?_
 refine RL.opD (by decide) (opv_move rfl rfl) ?_
 refine RL.op _ (by decide) (opv_call (cap := []) (impl_isQuiet_ok _ _ _ _ _ _ (SL.up ge0_3 hlo) _ _ (SL.up ge0_4 hlo) _ _ (SL.up ge1_0 hlo) _ _ (SL.up ge1_1 hlo) _ _ (SL.up ge1_2 hlo) _ _ _ hx1) rfl rfl ⟨rfl, rfl, rfl, rfl, trivial⟩ Try.func81 rfl rfl) ?_
 rintro _ hp1 ⟨rfl, MT_1, T_1⟩
 obtain ⟨X_1, S_1⟩ := Sep.turn0 (Mod.refl [some be0, some be1, some be2, ue2_0.ownBlock, some be3, some be4] h0) S0 MT_1 T_1
 refine RL.opD (by decide) (opv_not rfl rfl) ?_
 refine RL.nil ?_
 refine thnN ?_
 obtain ⟨x2, hy1, hp⟩ := Option.bind_eq_some_iff.1 hp
 refine W.cut (fun φ' h' => Fr.sub [(0, (.int .i64 a0)), (1, (.int .i64 a1)), (2, (.int .i64 a2)), (3, (.pointer (some ⟨be0, 0, none⟩))), (4, (.pointer (some ⟨be1, 0, none⟩))), (5, (.pointer (some ⟨be2, 0, none⟩))), (6, (.pointer (some ⟨be3, 0, none⟩))), (7, (.pointer (some ⟨be4, 0, none⟩))), (16, (.bool (!x1)))] φ' ∧ Mod [some be0, some be1, some be2, ue2_0.ownBlock, some be3, some be4] h0 h' ∧ Sep [some be0, some be1, some be2, ue2_0.ownBlock, some be3, some be4] h0.size h' [boxO be0 [(.int .i64 ae0_0), (.int .i64 ae0_1), (.bool ae0_2), ue0_3, ue0_4], boxO be1 [ue1_0, ue1_1, ue1_2], boxO be2 [ue2_0], ownO kB 4 ue2_0 x2, boxO be3 [(.int .i64 ae3_0)], boxO be4 [(.int .i64 ae4_0)]]) ?_ ?_
 ·by_cases c1 : (!x1) = true
  ·rw [if_pos c1] at hy1
   refine W.condT rfl c1 ?_
   by_cases nc2 : ae3_0 = 0
   ·rw [if_pos nc2] at hy1; cases hy1
   rw [if_neg nc2] at hy1
   have c2 : ae3_0 ≠ 0 := nc2
   by_cases nc3 : ae3_0 = 0
   ·rw [if_pos nc3] at hy1; cases hy1
   rw [if_neg nc3] at hy1
   have c3 : ae3_0 ≠ 0 := nc3
   obtain ⟨x3, hx3, hy1⟩ := Option.bind_eq_some_iff.1 hy1
   obtain ⟨x4, hx4, hy1⟩ := Option.bind_eq_some_iff.1 hy1
   refine W.sub (ψ := [(0, (.int .i64 a0)), (1, (.int .i64 a1)), (2, (.int .i64 a2)), (3, (.pointer (some ⟨be0, 0, none⟩))), (4, (.pointer (some ⟨be1, 0, none⟩))), (5, (.pointer (some ⟨be2, 0, none⟩))), (6, (.pointer (some ⟨be3, 0, none⟩))), (7, (.pointer (some ⟨be4, 0, none⟩))), (16, (.bool (!x1)))]) ⟨rfl, rfl, rfl, rfl, rfl, rfl, rfl, rfl, rfl, trivial⟩ ?_
   refine W.regionP [fun v _ => @Eq Value ue2_0 v, fun v _ => @Eq Value (.int .i64 a0) v, fun v _ => @Eq Value (.int .i64 ae3_0) v, fun v _ => @Eq Value (.int .i64 (IntKind.wrap .i64 (Int.tdiv a0 ae3_0))) v, fun v _ => @Eq Value (.int .i64 ae4_0) v, fun v _ => @Eq Value (.int .i64 a1) v, fun v _ => @Eq Value (.int .i64 ae3_0) v, fun v _ => @Eq Value (.int .i64 (IntKind.wrap .i64 (Int.tdiv a1 ae3_0))) v, fun v _ => @Eq Value (.int .i64 (IntKind.wrap .i64 (ae4_0 * (IntKind.wrap .i64 (Int.tdiv a1 ae3_0))))) v, fun v _ => @Eq Value (.int .i64 (IntKind.wrap .i64 ((IntKind.wrap .i64 (Int.tdiv a0 ae3_0)) + (IntKind.wrap .i64 (ae4_0 * (IntKind.wrap .i64 (Int.tdiv a1 ae3_0))))))) v, fun v _ => PtI 1 v ue2_0 (Int.toNat (IntKind.wrap .i64 ((IntKind.wrap .i64 (Int.tdiv a0 ae3_0)) + (IntKind.wrap .i64 (ae4_0 * (IntKind.wrap .i64 (Int.tdiv a1 ae3_0)))))))] [[], [], [], [1, 2], [], [], [], [5, 6], [4, 7], [3, 8], [0, 9]] [10] Try.mixed (by decide +kernel) (by decide +kernel) rfl rfl rfl ?_ ?_
   ·refine ⟨⟨rfl, ?_⟩, ⟨rfl, ?_⟩, ⟨rfl, ?_⟩, ⟨rfl, ?_⟩, ⟨rfl, ?_⟩, ⟨rfl, ?_⟩, ⟨rfl, ?_⟩, ⟨rfl, ?_⟩, ⟨rfl, ?_⟩, ⟨rfl, ?_⟩, ⟨rfl, ?_⟩, trivial⟩
    ·rintro _ rfl
     refine Dep.nil ?_
     refine GuardOK.none rfl ?_
     exact OpV.toD (opv_loadB rfl Try.one40 rfl (Sep.at (o := boxO be2 [ue2_0]) S_1 2 rfl) rfl) rfl
    ·rintro _ rfl
     refine Dep.nil ?_
     refine GuardOK.none rfl ?_
     exact OpV.toD (opv_move rfl rfl) rfl
    ·rintro _ rfl
     refine Dep.nil ?_
     refine GuardOK.none rfl ?_
     exact OpV.toD (opv_loadB rfl Try.one2 rfl (Sep.at (o := boxO be3 [(.int .i64 ae3_0)]) S_1 4 rfl) rfl) rfl
    ·rintro _ rfl _ rfl _ rfl
     refine Dep.nil ?_
     refine GuardOK.none rfl ?_
     exact OpV.toD (opv_quo rfl c2 rfl rfl) rfl
    ·rintro _ rfl
     refine Dep.nil ?_
     refine GuardOK.none rfl ?_
     exact OpV.toD (opv_loadB rfl Try.one2 rfl (Sep.at (o := boxO be4 [(.int .i64 ae4_0)]) S_1 5 rfl) rfl) rfl
    ·rintro _ rfl
     refine Dep.nil ?_
     refine GuardOK.none rfl ?_
     exact OpV.toD (opv_move rfl rfl) rfl
    ·rintro _ rfl
     refine Dep.nil ?_
     refine GuardOK.none rfl ?_
     exact OpV.toD (opv_loadB rfl Try.one2 rfl (Sep.at (o := boxO be3 [(.int .i64 ae3_0)]) S_1 4 rfl) rfl) rfl
    ·rintro _ rfl _ rfl _ rfl
     refine Dep.nil ?_
     refine GuardOK.none rfl ?_
     exact OpV.toD (opv_quo rfl c3 rfl rfl) rfl
    ·rintro _ rfl _ rfl _ rfl
     refine Dep.nil ?_
     refine GuardOK.none rfl ?_
     exact OpV.toD (opv_mul rfl rfl rfl) rfl
    ·rintro _ rfl _ rfl _ rfl
     refine Dep.nil ?_
     refine GuardOK.none rfl ?_
     exact OpV.toD (opv_add rfl rfl rfl) rfl
    ·rintro _ rfl _ rfl _ rfl
     refine Dep.nil ?_
     refine GuardOK.none rfl ?_
     exact OpV.toS (opv_index rfl Try.underlying40 (by rw [Try.size4]; rfl) rfl rfl (ownO.read (Sep.at (o := ownO kB 4 ue2_0 ae2_0) S_1 3 rfl)) hx3) (fun _ h => h)
   rintro v1 fv1
   refine Dep.nil ?_
   show RL _ _ _ _ (_ :: _) _ _
   refine RL.op0 _ (opS_storeE (K := kB) rfl Try.size4 rfl rfl fv1 rfl rfl hx4 (Sep.at (o := ownO kB 4 ue2_0 ae2_0) S_1 3 rfl)) ?_
   rintro _ hp3 ⟨rfl, MT_3, T_3⟩
   have S_4 : Sep [some be0, some be1, some be2, ue2_0.ownBlock, some be3, some be4] h0.size hp1 ([ownO kB 4 ue2_0 ae2_0] ++ [boxO be0 [(.int .i64 ae0_0), (.int .i64 ae0_1), (.bool ae0_2), ue0_3, ue0_4], boxO be1 [ue1_0, ue1_1, ue1_2], boxO be2 [ue2_0], boxO be3 [(.int .i64 ae3_0)], boxO be4 [(.int .i64 ae4_0)]]) := Sep.sel S_1 [3, 0, 1, 2, 4, 5] (by decide)
   obtain ⟨X_3, S_5⟩ := Sep.turn X_1 S_4 MT_3 T_3
   refine RL.nil ?_
   have ey1 := Option.some.inj hy1
   subst ey1
   refine onlyN ?_
   exact ⟨⟨rfl, rfl, rfl, rfl, rfl, rfl, rfl, rfl, rfl, trivial⟩, X_3, (Sep.sel S_5 [1, 2, 3, 0, 4, 5] (by decide))⟩
  ·rw [if_neg c1] at hy1
   have c1 := eq_false_of_ne_true c1
   refine W.condF rfl c1 ?_
   refine W.skip ?_
   have ey1 := Option.some.inj hy1
   subst ey1
   refine onlyN ?_
   exact ⟨⟨rfl, rfl, rfl, rfl, rfl, rfl, rfl, rfl, rfl, trivial⟩, X_1, (Sep.sel S_1 [0, 1, 2, 3, 4, 5] (by decide))⟩
 rintro φ' hp4 ⟨hs1, X_4, S_6⟩
 have er := Option.some.inj hp
 subst er
 exact Rt.none' rfl ⟨rfl, X_4, (Sep.sel S_6 [0, 1, 2, 3, 4, 5] (by decide))⟩

set_option maxRecDepth 20000 in
theorem impl_Sheet_each__impl_SleepingBlocks_1_ok (h0 : Heap) (lo : Nat) (hlo : lo ≤ h0.size) (a0_0 : Int) (a0_1 : Int) (a0_2 : Bool) (u0_3 : Value) (a0_3 : List (Option Nat)) (g0_3 : SL (kF .f32) lo h0 u0_3 a0_3) (u0_4 : Value) (a0_4 : List (Option Nat)) (g0_4 : SL (kF .f32) lo h0 u0_4 a0_4) (be0 : Nat) (ae0_0 : Int) (ae0_1 : Int) (ae0_2 : Bool) (ue0_3 : Value) (ae0_3 : List (Option Nat)) (ge0_3 : SL (kF .f32) lo h0 ue0_3 ae0_3) (ue0_4 : Value) (ae0_4 : List (Option Nat)) (ge0_4 : SL (kF .f32) lo h0 ue0_4 ae0_4) (be1 : Nat) (ue1_0 : Value) (ae1_0 : List (Option Nat)) (ge1_0 : SL (kF .f32) lo h0 ue1_0 ae1_0) (ue1_1 : Value) (ae1_1 : List (Option Nat)) (ge1_1 : SL (kF .f32) lo h0 ue1_1 ae1_1) (ue1_2 : Value) (ae1_2 : List (Option Nat)) (ge1_2 : SL (kF .f32) lo h0 ue1_2 ae1_2) (be2 : Nat) (ue2_0 : Value) (ae2_0 : List (Bool)) (be3 : Nat) (ae3_0 : Int) (be4 : Nat) (ae4_0 : Int) (S0 : Sep [some be0, some be1, some be2, ue2_0.ownBlock, some be3, some be4] h0.size h0 [boxO be0 [(.int .i64 ae0_0), (.int .i64 ae0_1), (.bool ae0_2), ue0_3, ue0_4], boxO be1 [ue1_0, ue1_1, ue1_2], boxO be2 [ue2_0], ownO kB 4 ue2_0 ae2_0, boxO be3 [(.int .i64 ae3_0)], boxO be4 [(.int .i64 ae4_0)]]) (hB : ∀ b, some b ∈ [some be0, some be1, some be2, ue2_0.ownBlock, some be3, some be4] → lo ≤ b) (r : (Int × Int × Bool × (List (Bool)) × Int × Int)) (hp : impl_Sheet_each__impl_SleepingBlocks_1 a0_0 a0_1 a0_2 a0_3 a0_4 ae0_0 ae0_1 ae0_2 ae0_3 ae0_4 ae1_0 ae1_1 ae1_2 ae2_0 ae3_0 ae4_0 = some r) : CallsH Try.prog 79 ([(.agg (List.toArray (α := Value) [(.int .i64 a0_0), (.int .i64 a0_1), (.bool a0_2), u0_3, u0_4])), (.func (.func 80) #[] [(.pointer (some ⟨be0, 0, none⟩)), (.pointer (some ⟨be1, 0, none⟩)), (.pointer (some ⟨be2, 0, none⟩)), (.pointer (some ⟨be3, 0, none⟩)), (.pointer (some ⟨be4, 0, none⟩))].toArray)].toArray ++ [].toArray) h0 (fun v h' => v = (.tuple (List.toArray (α := Value) [])) ∧ Mod [some be0, some be1, some be2, ue2_0.ownBlock, some be3, some be4] h0 h' ∧ Sep [some be0, some be1, some be2, ue2_0.ownBlock, some be3, some be4] h0.size h' [boxO be0 [(.int .i64 r.1), (.int .i64 r.2.1), (.bool r.2.2.1), ue0_3, ue0_4], boxO be1 [ue1_0, ue1_1, ue1_2], boxO be2 [ue2_0], ownO kB 4 ue2_0 r.2.2.2.1, boxO be3 [(.int .i64 r.2.2.2.2.1)], boxO be4 [(.int .i64 r.2.2.2.2.2)]]) := by
 unfold impl_Sheet_each__impl_SleepingBlocks_1 at hp
 refine callsH_of_W (l := [(.agg (List.toArray (α := Value) [(.int .i64 a0_0), (.int .i64 a0_1), (.bool a0_2), u0_3, u0_4])), (.func (.func 80) #[] [(.pointer (some ⟨be0, 0, none⟩)), (.pointer (some ⟨be1, 0, none⟩)), (.pointer (some ⟨be2, 0, none⟩)), (.pointer (some ⟨be3, 0, none⟩)), (.pointer (some ⟨be4, 0, none⟩))].toArray)]) (cap := []) 26 Try.func79 rfl rfl rfl ?_
 refine W.seq ?_
 refine W.region ?_
 refine RL.op _ (by decide) (opS_boxed (opv_boxA (cs := [(.int .i64 a0_0), (.int .i64 a0_1), (.bool a0_2), u0_3, u0_4]) rfl rfl)) ?_
 rintro _ hp1 ⟨bb1, rfl, MT_1, T_1⟩
 obtain ⟨X_1, S_1⟩ := Sep.turn0 (Mod.refl [some be0, some be1, some be2, ue2_0.ownBlock, some be3, some be4] h0) S0 MT_1 T_1
 refine RL.nil ?_
 refine thnN ?_
 refine W.seq ?_
 refine W.region ?_
 refine RL.opD (by decide) (opv_fieldAddr rfl Try.fo31_1 rfl) ?_
 refine RL.opD (by decide) (opv_loadB rfl Try.one2 rfl (Sep.at (o := boxO bb1 [(.int .i64 a0_0), (.int .i64 a0_1), (.bool a0_2), u0_3, u0_4]) S_1 0 rfl) rfl) ?_
 refine RL.opD (by decide) (opv_move rfl rfl) ?_
 refine RL.nil ?_
 refine thnN ?_
 obtain ⟨y1, hy1, hp⟩ := Option.bind_eq_some_iff.1 hp
 refine W.cut (fun φ' h' => ∃ x8, ∃ x9, ∃ x10, ∃ x11, ∃ x12, ∃ x13, ∃ x14, ∃ x15, y1 = (x8, x9, x10, x11, x12, x13, x14, x15) ∧ Fr.sub [(0, (.agg (List.toArray (α := Value) [(.int .i64 a0_0), (.int .i64 a0_1), (.bool a0_2), u0_3, u0_4]))), (1, (.func (.func 80) #[] [(.pointer (some ⟨be0, 0, none⟩)), (.pointer (some ⟨be1, 0, none⟩)), (.pointer (some ⟨be2, 0, none⟩)), (.pointer (some ⟨be3, 0, none⟩)), (.pointer (some ⟨be4, 0, none⟩))].toArray)), (2, (.pointer (some ⟨bb1, 0, none⟩))), (7, (.int .i64 a0_1)), (8, (.int .i64 x8)), (9, (.bool x9))] φ' ∧ Mod [some be0, some be1, some be2, ue2_0.ownBlock, some be3, some be4] h0 h' ∧ Sep [some be0, some be1, some be2, ue2_0.ownBlock, some be3, some be4] h0.size h' [boxO bb1 [(.int .i64 a0_0), (.int .i64 a0_1), (.bool a0_2), u0_3, u0_4], boxO be0 [(.int .i64 x10), (.int .i64 x11), (.bool x12), ue0_3, ue0_4], boxO be1 [ue1_0, ue1_1, ue1_2], boxO be2 [ue2_0], ownO kB 4 ue2_0 x13, boxO be3 [(.int .i64 x14)], boxO be4 [(.int .i64 x15)]]) ?_ ?_
 ·refine W.block ?_
  refine W.loopS (fun (s : (Int × Int × Int × Bool × (List (Bool)) × Int × Int)) φ' h' => Fr.sub [(0, (.agg (List.toArray (α := Value) [(.int .i64 a0_0), (.int .i64 a0_1), (.bool a0_2), u0_3, u0_4]))), (1, (.func (.func 80) #[] [(.pointer (some ⟨be0, 0, none⟩)), (.pointer (some ⟨be1, 0, none⟩)), (.pointer (some ⟨be2, 0, none⟩)), (.pointer (some ⟨be3, 0, none⟩)), (.pointer (some ⟨be4, 0, none⟩))].toArray)), (2, (.pointer (some ⟨bb1, 0, none⟩))), (7, (.int .i64 a0_1)), (8, (.int .i64 s.1))] φ' ∧ Mod [some be0, some be1, some be2, ue2_0.ownBlock, some be3, some be4] h0 h' ∧ Sep [some be0, some be1, some be2, ue2_0.ownBlock, some be3, some be4] h0.size h' [boxO bb1 [(.int .i64 a0_0), (.int .i64 a0_1), (.bool a0_2), u0_3, u0_4], boxO be0 [(.int .i64 s.2.1), (.int .i64 s.2.2.1), (.bool s.2.2.2.1), ue0_3, ue0_4], boxO be1 [ue1_0, ue1_1, ue1_2], boxO be2 [ue2_0], ownO kB 4 ue2_0 s.2.2.2.2.1, boxO be3 [(.int .i64 s.2.2.2.2.2.1)], boxO be4 [(.int .i64 s.2.2.2.2.2.2)]]) hy1 ⟨⟨rfl, rfl, rfl, rfl, rfl, trivial⟩, X_1, (Sep.sel S_1 [0, 1, 2, 3, 4, 5, 6] (by decide))⟩ ?_
  rintro ⟨x1, x2, x3, x4, x5, x6, x7⟩ φ' hp2 o1 ⟨hs1, X_2, S_2⟩ ho1 hy1
  have hs1 : Fr.sub [(0, (.agg (List.toArray (α := Value) [(.int .i64 a0_0), (.int .i64 a0_1), (.bool a0_2), u0_3, u0_4]))), (1, (.func (.func 80) #[] [(.pointer (some ⟨be0, 0, none⟩)), (.pointer (some ⟨be1, 0, none⟩)), (.pointer (some ⟨be2, 0, none⟩)), (.pointer (some ⟨be3, 0, none⟩)), (.pointer (some ⟨be4, 0, none⟩))].toArray)), (2, (.pointer (some ⟨bb1, 0, none⟩))), (7, (.int .i64 a0_1)), (8, (.int .i64 x1))] φ' := hs1
  have S_2 : Sep [some be0, some be1, some be2, ue2_0.ownBlock, some be3, some be4] h0.size hp2 [boxO bb1 [(.int .i64 a0_0), (.int .i64 a0_1), (.bool a0_2), u0_3, u0_4], boxO be0 [(.int .i64 x2), (.int .i64 x3), (.bool x4), ue0_3, ue0_4], boxO be1 [ue1_0, ue1_1, ue1_2], boxO be2 [ue2_0], ownO kB 4 ue2_0 x5, boxO be3 [(.int .i64 x6)], boxO be4 [(.int .i64 x7)]] := S_2
  have ho1 : impl_Sheet_each__impl_SleepingBlocks_1.s0 a0_0 a0_1 a0_2 a0_3 a0_4 ae0_3 ae0_4 ae1_0 ae1_1 ae1_2 x1 x2 x3 x4 x5 x6 x7 = some o1 := ho1
  unfold impl_Sheet_each__impl_SleepingBlocks_1.s0 at ho1
  refine W.sub hs1 ?_
  refine W.seq ?_
  refine W.region ?_
  refine RL.opD (by decide) (opv_icmp rfl rfl rfl rfl) ?_
  refine RL.nil ?_
  refine thnN ?_
  refine W.seq ?_
  by_cases c1 : (decide (x1 < a0_1)) = true
  ·rw [if_pos c1] at ho1
   refine W.condT rfl c1 ?_
   refine W.skip ?_
   refine thnN ?_
   refine W.seq ?_
   refine W.block ?_
   refine W.seq ?_
   refine W.region ?_
   refine RL.opD (by decide) (opv_move rfl rfl) ?_
   refine RL.opD (by decide) (opv_assign rfl rfl) ?_
   refine RL.nil ?_
   refine thnN ?_
   refine W.seq ?_
   refine W.region ?_
   refine RL.opD (by decide) (opv_fieldAddr rfl Try.fo31_0 rfl) ?_
   refine RL.opD (by decide) (opv_loadB rfl Try.one2 rfl (Sep.at (o := boxO bb1 [(.int .i64 a0_0), (.int .i64 a0_1), (.bool a0_2), u0_3, u0_4]) S_2 0 rfl) rfl) ?_
   refine RL.opD (by decide) (opv_move rfl rfl) ?_
   refine RL.nil ?_
   refine thnN ?_
   obtain ⟨y2, hy2, ho1⟩ := Option.bind_eq_some_iff.1 ho1
   refine W.cut (fun φ' h' => ∃ x23, ∃ x24, ∃ x25, ∃ x26, ∃ x27, ∃ x28, ∃ x29, ∃ x30, y2 = (x23, x24, x25, x26, x27, x28, x29, x30) ∧ Fr.sub [(0, (.agg (List.toArray (α := Value) [(.int .i64 a0_0), (.int .i64 a0_1), (.bool a0_2), u0_3, u0_4]))), (1, (.func (.func 80) #[] [(.pointer (some ⟨be0, 0, none⟩)), (.pointer (some ⟨be1, 0, none⟩)), (.pointer (some ⟨be2, 0, none⟩)), (.pointer (some ⟨be3, 0, none⟩)), (.pointer (some ⟨be4, 0, none⟩))].toArray)), (2, (.pointer (some ⟨bb1, 0, none⟩))), (7, (.int .i64 a0_1)), (8, (.int .i64 x1)), (9, (.bool (decide (x1 < a0_1)))), (4, (.int .i64 x1)), (12, (.int .i64 a0_0)), (13, (.int .i64 x23)), (14, (.bool x24))] φ' ∧ Mod [some be0, some be1, some be2, ue2_0.ownBlock, some be3, some be4] h0 h' ∧ Sep [some be0, some be1, some be2, ue2_0.ownBlock, some be3, some be4] h0.size h' [boxO bb1 [(.int .i64 a0_0), (.int .i64 a0_1), (.bool a0_2), u0_3, u0_4], boxO be0 [(.int .i64 x25), (.int .i64 x26), (.bool x27), ue0_3, ue0_4], boxO be1 [ue1_0, ue1_1, ue1_2], boxO be2 [ue2_0], ownO kB 4 ue2_0 x28, boxO be3 [(.int .i64 x29)], boxO be4 [(.int .i64 x30)]]) ?_ ?_
   ·refine W.block ?_
    refine W.loopS (fun (s : (Int × Int × Int × Bool × (List (Bool)) × Int × Int)) φ' h' => Fr.sub [(0, (.agg (List.toArray (α := Value) [(.int .i64 a0_0), (.int .i64 a0_1), (.bool a0_2), u0_3, u0_4]))), (1, (.func (.func 80) #[] [(.pointer (some ⟨be0, 0, none⟩)), (.pointer (some ⟨be1, 0, none⟩)), (.pointer (some ⟨be2, 0, none⟩)), (.pointer (some ⟨be3, 0, none⟩)), (.pointer (some ⟨be4, 0, none⟩))].toArray)), (2, (.pointer (some ⟨bb1, 0, none⟩))), (7, (.int .i64 a0_1)), (8, (.int .i64 x1)), (9, (.bool (decide (x1 < a0_1)))), (4, (.int .i64 x1)), (12, (.int .i64 a0_0)), (13, (.int .i64 s.1))] φ' ∧ Mod [some be0, some be1, some be2, ue2_0.ownBlock, some be3, some be4] h0 h' ∧ Sep [some be0, some be1, some be2, ue2_0.ownBlock, some be3, some be4] h0.size h' [boxO bb1 [(.int .i64 a0_0), (.int .i64 a0_1), (.bool a0_2), u0_3, u0_4], boxO be0 [(.int .i64 s.2.1), (.int .i64 s.2.2.1), (.bool s.2.2.2.1), ue0_3, ue0_4], boxO be1 [ue1_0, ue1_1, ue1_2], boxO be2 [ue2_0], ownO kB 4 ue2_0 s.2.2.2.2.1, boxO be3 [(.int .i64 s.2.2.2.2.2.1)], boxO be4 [(.int .i64 s.2.2.2.2.2.2)]]) hy2 ⟨⟨rfl, rfl, rfl, rfl, rfl, rfl, rfl, rfl, rfl, trivial⟩, X_2, (Sep.sel S_2 [0, 1, 2, 3, 4, 5, 6] (by decide))⟩ ?_
    rintro ⟨x16, x17, x18, x19, x20, x21, x22⟩ φ' hp3 o2 ⟨hs3, X_3, S_3⟩ ho2 hy2
    have hs3 : Fr.sub [(0, (.agg (List.toArray (α := Value) [(.int .i64 a0_0), (.int .i64 a0_1), (.bool a0_2), u0_3, u0_4]))), (1, (.func (.func 80) #[] [(.pointer (some ⟨be0, 0, none⟩)), (.pointer (some ⟨be1, 0, none⟩)), (.pointer (some ⟨be2, 0, none⟩)), (.pointer (some ⟨be3, 0, none⟩)), (.pointer (some ⟨be4, 0, none⟩))].toArray)), (2, (.pointer (some ⟨bb1, 0, none⟩))), (7, (.int .i64 a0_1)), (8, (.int .i64 x1)), (9, (.bool (decide (x1 < a0_1)))), (4, (.int .i64 x1)), (12, (.int .i64 a0_0)), (13, (.int .i64 x16))] φ' := hs3
    have S_3 : Sep [some be0, some be1, some be2, ue2_0.ownBlock, some be3, some be4] h0.size hp3 [boxO bb1 [(.int .i64 a0_0), (.int .i64 a0_1), (.bool a0_2), u0_3, u0_4], boxO be0 [(.int .i64 x17), (.int .i64 x18), (.bool x19), ue0_3, ue0_4], boxO be1 [ue1_0, ue1_1, ue1_2], boxO be2 [ue2_0], ownO kB 4 ue2_0 x20, boxO be3 [(.int .i64 x21)], boxO be4 [(.int .i64 x22)]] := S_3
    have ho2 : impl_Sheet_each__impl_SleepingBlocks_1.s1 a0_0 a0_1 a0_2 a0_3 a0_4 ae0_3 ae0_4 ae1_0 ae1_1 ae1_2 x1 x16 x17 x18 x19 x20 x21 x22 = some o2 := ho2
    unfold impl_Sheet_each__impl_SleepingBlocks_1.s1 at ho2
    refine W.sub hs3 ?_
    refine W.seq ?_
    refine W.region ?_
    refine RL.opD (by decide) (opv_icmp rfl rfl rfl rfl) ?_
    refine RL.nil ?_
    refine thnN ?_
    refine W.seq ?_
    by_cases c2 : (decide (x16 < a0_0)) = true
    ·rw [if_pos c2] at ho2
     refine W.condT rfl c2 ?_
     refine W.skip ?_
     refine thnN ?_
     refine W.seq ?_
     refine W.block ?_
     refine W.seq ?_
     refine W.region ?_
     refine RL.opD (by decide) (opv_move rfl rfl) ?_
     refine RL.opD (by decide) (opv_assign rfl rfl) ?_
     refine RL.nil ?_
     refine thnN ?_
     obtain ⟨x31, hx31, ho2⟩ := Option.bind_eq_some_iff.1 ho2
     obtain ⟨x32, hx32, ho2⟩ := Option.bind_eq_some_iff.1 ho2
     refine W.region ?_
     refine RL.opD (by decide) (opv_move rfl rfl) ?_
     refine RL.opD (by decide) (opv_move rfl rfl) ?_
     refine RL.opD (by decide) (opv_move rfl rfl) ?_
     refine RL.opD (by decide) (opv_loadA (us := [(.int .i64 a0_0), (.int .i64 a0_1), (.bool a0_2), u0_3, u0_4]) rfl Try.agg31 Try.size31 rfl (Sep.at (o := boxO bb1 [(.int .i64 a0_0), (.int .i64 a0_1), (.bool a0_2), u0_3, u0_4]) S_3 0 rfl) rfl rfl) ?_
     refine RL.opD (by decide) (opv_move rfl rfl) ?_
     refine RL.opD (by decide) (opv_move rfl rfl) ?_
     refine RL.op _ (by decide) (opv_call (cap := []) (impl_Sheet_at_ok _ _ _ _ _ _ (SL.up (SL.mod g0_3 X_3 hlo hB) (Nat.le_trans hlo (Mod.size X_3))) _ _ (SL.up (SL.mod g0_4 X_3 hlo hB) (Nat.le_trans hlo (Mod.size X_3))) _ _ _ hx31) rfl rfl ⟨rfl, rfl, rfl, trivial⟩ Try.func118 rfl rfl) ?_
     rintro _ hp4 ⟨rfl, MT_2, T_2⟩
     obtain ⟨X_4, S_4⟩ := Sep.turn0 X_3 S_3 MT_2 T_2
     have S_6 : Sep [some be0, some be1, some be2, ue2_0.ownBlock, some be3, some be4] h0.size hp4 [boxO be0 [(.int .i64 x17), (.int .i64 x18), (.bool x19), ue0_3, ue0_4], boxO be1 [ue1_0, ue1_1, ue1_2], boxO be2 [ue2_0], ownO kB 4 ue2_0 x20, boxO be3 [(.int .i64 x21)], boxO be4 [(.int .i64 x22)]] := Sep.sel S_4 [1, 2, 3, 4, 5, 6] (by decide)
     have S_5 : Sep [some be0, some be1, some be2, ue2_0.ownBlock, some be3, some be4] hp4.size hp4 [boxO be0 [(.int .i64 x17), (.int .i64 x18), (.bool x19), ue0_3, ue0_4], boxO be1 [ue1_0, ue1_1, ue1_2], boxO be2 [ue2_0], ownO kB 4 ue2_0 x20, boxO be3 [(.int .i64 x21)], boxO be4 [(.int .i64 x22)]] := Sep.own S_6 _
     refine RL.op _ (by decide) (opv_call (cap := [(.pointer (some ⟨be0, 0, none⟩)), (.pointer (some ⟨be1, 0, none⟩)), (.pointer (some ⟨be2, 0, none⟩)), (.pointer (some ⟨be3, 0, none⟩)), (.pointer (some ⟨be4, 0, none⟩))]) (impl_SleepingBlocks_1_2_ok _ lo (Nat.le_trans hlo (Mod.size X_4)) _ _ _ _ _ _ _ _ _ (SL.mod ge0_3 X_4 hlo hB) _ _ (SL.mod ge0_4 X_4 hlo hB) _ _ _ (SL.mod ge1_0 X_4 hlo hB) _ _ (SL.mod ge1_1 X_4 hlo hB) _ _ (SL.mod ge1_2 X_4 hlo hB) _ _ _ _ _ _ _ S_5 (Sep.ge (L := [boxO be0 [(.int .i64 x17), (.int .i64 x18), (.bool x19), ue0_3, ue0_4], boxO be1 [ue1_0, ue1_1, ue1_2], boxO be2 [ue2_0], ownO kB 4 ue2_0 x20, boxO be3 [(.int .i64 x21)], boxO be4 [(.int .i64 x22)]]) S_6 hlo hB) _ hx32) rfl rfl ⟨rfl, rfl, rfl, trivial⟩ Try.func80 rfl rfl) ?_
     rintro _ hp5 ⟨rfl, MT_3, T_3⟩
     have S_7 : Sep [some be0, some be1, some be2, ue2_0.ownBlock, some be3, some be4] h0.size hp4 ([boxO be0 [(.int .i64 x17), (.int .i64 x18), (.bool x19), ue0_3, ue0_4], boxO be1 [ue1_0, ue1_1, ue1_2], boxO be2 [ue2_0], ownO kB 4 ue2_0 x20, boxO be3 [(.int .i64 x21)], boxO be4 [(.int .i64 x22)]] ++ [boxO bb1 [(.int .i64 a0_0), (.int .i64 a0_1), (.bool a0_2), u0_3, u0_4]]) := Sep.sel S_4 [1, 2, 3, 4, 5, 6, 0] (by decide)
     obtain ⟨X_5, S_8⟩ := Sep.turn X_4 S_7 MT_3 T_3
     refine RL.nil ?_
     refine blkN ?_
     refine thnN ?_
     refine W.region ?_
     refine RL.opD (by decide) (opv_add rfl rfl rfl) ?_
     refine RL.opD (by decide) (opv_move rfl rfl) ?_
     refine RL.nil ?_
     have eo2 := Option.some.inj ho2
     subst eo2
     refine rndN (s' := (IntKind.wrap .i64 (x16 + 1), x32.1, x32.2.1, x32.2.2.1, x32.2.2.2.1, x32.2.2.2.2.1, x32.2.2.2.2.2)) rfl ?_
     exact ⟨⟨rfl, rfl, rfl, rfl, rfl, rfl, rfl, rfl, rfl, trivial⟩, X_5, (Sep.sel S_8 [6, 0, 1, 2, 3, 4, 5] (by decide))⟩
    ·rw [if_neg c2] at ho2
     have c2 := eq_false_of_ne_true c2
     refine W.condF rfl c2 ?_
     refine W.exit ?_
     refine thnX ?_
     refine rndX ?_
     refine blkI ?_
     have eo2 := Option.some.inj ho2
     subst eo2
     have ey2 := hy2 _ rfl
     subst ey2
     refine onlyN ?_
     exact ⟨x16, decide (x16 < a0_0), x17, x18, x19, x20, x21, x22, rfl, ⟨rfl, rfl, rfl, rfl, rfl, rfl, rfl, rfl, rfl, rfl, trivial⟩, X_3, (Sep.sel S_3 [0, 1, 2, 3, 4, 5, 6] (by decide))⟩
   rintro φ' hp6 ⟨x23, x24, x25, x26, x27, x28, x29, x30, rfl, hs4, X_6, S_9⟩
   try dsimp only at ho1
   refine blkN ?_
   refine thnN ?_
   refine W.sub hs4 ?_
   refine W.region ?_
   refine RL.opD (by decide) (opv_add rfl rfl rfl) ?_
   refine RL.opD (by decide) (opv_move rfl rfl) ?_
   refine RL.nil ?_
   have eo1 := Option.some.inj ho1
   subst eo1
   refine rndN (s' := (IntKind.wrap .i64 (x1 + 1), x25, x26, x27, x28, x29, x30)) rfl ?_
   exact ⟨⟨rfl, rfl, rfl, rfl, rfl, trivial⟩, X_6, (Sep.sel S_9 [0, 1, 2, 3, 4, 5, 6] (by decide))⟩
  ·rw [if_neg c1] at ho1
   have c1 := eq_false_of_ne_true c1
   refine W.condF rfl c1 ?_
   refine W.exit ?_
   refine thnX ?_
   refine rndX ?_
   refine blkI ?_
   have eo1 := Option.some.inj ho1
   subst eo1
   have ey1 := hy1 _ rfl
   subst ey1
   refine onlyN ?_
   exact ⟨x1, decide (x1 < a0_1), x2, x3, x4, x5, x6, x7, rfl, ⟨rfl, rfl, rfl, rfl, rfl, rfl, trivial⟩, X_2, (Sep.sel S_2 [0, 1, 2, 3, 4, 5, 6] (by decide))⟩
 rintro φ' hp7 ⟨x8, x9, x10, x11, x12, x13, x14, x15, rfl, hs2, X_7, S_10⟩
 try dsimp only at hp
 have er := Option.some.inj hp
 subst er
 exact Rt.none' rfl ⟨rfl, X_7, (Sep.sel S_10 [1, 2, 3, 4, 5, 6] (by decide))⟩

set_option maxRecDepth 20000 in
theorem impl_SleepingBlocks_ok (h0 : Heap) (a0_0 : Int) (a0_1 : Int) (a0_2 : Bool) (u0_3 : Value) (a0_3 : List (Option Nat)) (g0_3 : SL (kF .f32) h0.size h0 u0_3 a0_3) (u0_4 : Value) (a0_4 : List (Option Nat)) (g0_4 : SL (kF .f32) h0.size h0 u0_4 a0_4) (u1_0 : Value) (a1_0 : List (Option Nat)) (g1_0 : SL (kF .f32) h0.size h0 u1_0 a1_0) (u1_1 : Value) (a1_1 : List (Option Nat)) (g1_1 : SL (kF .f32) h0.size h0 u1_1 a1_1) (u1_2 : Value) (a1_2 : List (Option Nat)) (g1_2 : SL (kF .f32) h0.size h0 u1_2 a1_2) (a2 : Int) (r : ((List (Bool)) × Bool)) (hp : impl_SleepingBlocks a0_0 a0_1 a0_2 a0_3 a0_4 a1_0 a1_1 a1_2 a2 = some r) : CallsH Try.prog 24 ([(.agg (List.toArray (α := Value) [(.int .i64 a0_0), (.int .i64 a0_1), (.bool a0_2), u0_3, u0_4])), (.agg (List.toArray (α := Value) [u1_0, u1_1, u1_2])), (.int .i64 a2)].toArray ++ [].toArray) h0 (fun v h' => ∃ w0, v = (.tuple (List.toArray (α := Value) [w0, (.bool r.2)])) ∧ Mod [] h0 h' ∧ Sep [] h0.size h' [ownO kB 4 w0 r.1]) := by
 unfold impl_SleepingBlocks at hp
 refine callsH_of_W (l := [(.agg (List.toArray (α := Value) [(.int .i64 a0_0), (.int .i64 a0_1), (.bool a0_2), u0_3, u0_4])), (.agg (List.toArray (α := Value) [u1_0, u1_1, u1_2])), (.int .i64 a2)]) (cap := []) 48 Try.func24 rfl rfl rfl ?_
 refine W.seq ?_
 refine W.region ?_
 refine RL.op _ (by decide) (opS_boxed (opv_boxA (cs := [(.int .i64 a0_0), (.int .i64 a0_1), (.bool a0_2), u0_3, u0_4]) rfl rfl)) ?_
 rintro _ hp1 ⟨bb1, rfl, MT_1, T_1⟩
 obtain ⟨X_1, S_1⟩ := Sep.turn0 (Mod.refl [] h0) (Sep.nil [] h0.size h0) MT_1 T_1
 refine RL.op _ (by decide) (opS_boxed (opv_boxA (cs := [u1_0, u1_1, u1_2]) rfl rfl)) ?_
 rintro _ hp2 ⟨bb2, rfl, MT_2, T_2⟩
 obtain ⟨X_2, S_2⟩ := Sep.turn0 X_1 S_1 MT_2 T_2
 refine RL.op _ (by decide) (opS_boxed (opv_box1 rfl rfl rfl)) ?_
 rintro _ hp3 ⟨bb3, rfl, MT_3, T_3⟩
 obtain ⟨X_3, S_3⟩ := Sep.turn0 X_2 S_2 MT_3 T_3
 refine RL.opD (by decide) (opv_assign rfl rfl) ?_
 have S_4 : Sep [] h0.size hp3 [ownO kB 4 (.slice none 0 0) ([] : List (Bool)), boxO bb3 [(.int .i64 a2)], boxO bb2 [u1_0, u1_1, u1_2], boxO bb1 [(.int .i64 a0_0), (.int .i64 a0_1), (.bool a0_2), u0_3, u0_4]] := Sep.addNil S_3
 refine RL.opD (by decide) (opv_assign rfl rfl) ?_
 refine RL.nil ?_
 refine thnN ?_
 refine W.seq ?_
 refine W.seq ?_
 obtain ⟨x1, hy1, hp⟩ := Option.bind_eq_some_iff.1 hp
 refine W.cut (fun φ' h' => Fr.sub [(0, (.agg (List.toArray (α := Value) [(.int .i64 a0_0), (.int .i64 a0_1), (.bool a0_2), u0_3, u0_4]))), (1, (.agg (List.toArray (α := Value) [u1_0, u1_1, u1_2]))), (2, (.int .i64 a2)), (3, (.pointer (some ⟨bb1, 0, none⟩))), (4, (.pointer (some ⟨bb2, 0, none⟩))), (5, (.pointer (some ⟨bb3, 0, none⟩))), (6, (.slice none 0 0)), (7, (.bool false)), (19, (.bool x1))] φ' ∧ Mod [] h0 h' ∧ Sep [] h0.size h' [ownO kB 4 (.slice none 0 0) ([] : List (Bool)), boxO bb3 [(.int .i64 a2)], boxO bb2 [u1_0, u1_1, u1_2], boxO bb1 [(.int .i64 a0_0), (.int .i64 a0_1), (.bool a0_2), u0_3, u0_4]]) ?_ ?_
 ·obtain ⟨x2, hx2, hy1⟩ := Option.bind_eq_some_iff.1 hy1
  by_cases c1 : (!x2) = true
  ·rw [if_pos c1] at hy1
   refine W.region ?_
   refine RL.opD (by decide) (opv_loadA (us := [(.int .i64 a0_0), (.int .i64 a0_1), (.bool a0_2), u0_3, u0_4]) rfl Try.agg31 Try.size31 rfl (Sep.at (o := boxO bb1 [(.int .i64 a0_0), (.int .i64 a0_1), (.bool a0_2), u0_3, u0_4]) S_4 3 rfl) rfl rfl) ?_
   refine RL.opD (by decide) (opv_loadA (us := [u1_0, u1_1, u1_2]) rfl Try.agg28 Try.size28 rfl (Sep.at (o := boxO bb2 [u1_0, u1_1, u1_2]) S_4 2 rfl) rfl rfl) ?_
   refine RL.op _ (by decide) (opv_call (cap := []) (impl_IsField_ok _ _ _ _ _ _ (SL.up (SL.mod g0_3 X_3 (Nat.le_refl _) nob) (Nat.le_trans (Nat.le_refl _) (Mod.size X_3))) _ _ (SL.up (SL.mod g0_4 X_3 (Nat.le_refl _) nob) (Nat.le_trans (Nat.le_refl _) (Mod.size X_3))) _ _ (SL.up (SL.mod g1_0 X_3 (Nat.le_refl _) nob) (Nat.le_trans (Nat.le_refl _) (Mod.size X_3))) _ _ (SL.up (SL.mod g1_1 X_3 (Nat.le_refl _) nob) (Nat.le_trans (Nat.le_refl _) (Mod.size X_3))) _ _ (SL.up (SL.mod g1_2 X_3 (Nat.le_refl _) nob) (Nat.le_trans (Nat.le_refl _) (Mod.size X_3))) _ hx2) rfl rfl ⟨rfl, rfl, trivial⟩ Try.func61 rfl rfl) ?_
   rintro _ hp4 ⟨rfl, MT_4, T_4⟩
   obtain ⟨X_4, S_5⟩ := Sep.turn0 X_3 S_4 MT_4 T_4
   refine RL.opD (by decide) (opv_not rfl rfl) ?_
   refine RL.opD (by decide) (opv_move rfl rfl) ?_
   refine RL.noT rfl rfl c1 (by decide) ?_
   refine RL.noT rfl rfl c1 (by decide) ?_
   refine RL.noT rfl rfl c1 (by decide) ?_
   refine RL.opD (by decide) (opv_pick rfl rfl (fun _ => rfl) (fun e => absurd (Eq.trans (Eq.symm e) c1) (by decide)) rfl) ?_
   refine RL.nil ?_
   have ey1 := Option.some.inj hy1
   subst ey1
   refine onlyN ?_
   exact ⟨⟨rfl, rfl, rfl, rfl, rfl, rfl, rfl, rfl, rfl, trivial⟩, X_4, (Sep.sel S_5 [0, 1, 2, 3] (by decide))⟩
  ·rw [if_neg c1] at hy1
   have c1 := eq_false_of_ne_true c1
   obtain ⟨x3, hx3, hy1⟩ := Option.bind_eq_some_iff.1 hy1
   refine W.region ?_
   refine RL.opD (by decide) (opv_loadA (us := [(.int .i64 a0_0), (.int .i64 a0_1), (.bool a0_2), u0_3, u0_4]) rfl Try.agg31 Try.size31 rfl (Sep.at (o := boxO bb1 [(.int .i64 a0_0), (.int .i64 a0_1), (.bool a0_2), u0_3, u0_4]) S_4 3 rfl) rfl rfl) ?_
   refine RL.opD (by decide) (opv_loadA (us := [u1_0, u1_1, u1_2]) rfl Try.agg28 Try.size28 rfl (Sep.at (o := boxO bb2 [u1_0, u1_1, u1_2]) S_4 2 rfl) rfl rfl) ?_
   refine RL.op _ (by decide) (opv_call (cap := []) (impl_IsField_ok _ _ _ _ _ _ (SL.up (SL.mod g0_3 X_3 (Nat.le_refl _) nob) (Nat.le_trans (Nat.le_refl _) (Mod.size X_3))) _ _ (SL.up (SL.mod g0_4 X_3 (Nat.le_refl _) nob) (Nat.le_trans (Nat.le_refl _) (Mod.size X_3))) _ _ (SL.up (SL.mod g1_0 X_3 (Nat.le_refl _) nob) (Nat.le_trans (Nat.le_refl _) (Mod.size X_3))) _ _ (SL.up (SL.mod g1_1 X_3 (Nat.le_refl _) nob) (Nat.le_trans (Nat.le_refl _) (Mod.size X_3))) _ _ (SL.up (SL.mod g1_2 X_3 (Nat.le_refl _) nob) (Nat.le_trans (Nat.le_refl _) (Mod.size X_3))) _ hx2) rfl rfl ⟨rfl, rfl, trivial⟩ Try.func61 rfl rfl) ?_
   rintro _ hp4 ⟨rfl, MT_4, T_4⟩
   obtain ⟨X_4, S_5⟩ := Sep.turn0 X_3 S_4 MT_4 T_4
   refine RL.opD (by decide) (opv_not rfl rfl) ?_
   refine RL.opD (by decide) (opv_move rfl rfl) ?_
   refine RL.yesD rfl rfl c1 (by decide) (opv_loadB rfl Try.one2 rfl (Sep.at (o := boxO bb3 [(.int .i64 a2)]) S_5 1 rfl) rfl) ?_
   refine RL.yes _ rfl rfl c1 (by decide) (opv_call (cap := []) (impl_within_ok _ _ _ _ _ hx3) rfl rfl ⟨rfl, rfl, rfl, trivial⟩ Try.func78 rfl rfl) ?_
   rintro _ _ ⟨rfl, rfl⟩
   refine RL.yesD rfl rfl c1 (by decide) (opv_not rfl rfl) ?_
   refine RL.opD (by decide) (opv_pick rfl rfl (fun e => absurd (Eq.trans (Eq.symm e) c1) (by decide)) (fun _ => rfl) rfl) ?_
   refine RL.nil ?_
   have ey1 := Option.some.inj hy1
   subst ey1
   refine onlyN ?_
   exact ⟨⟨rfl, rfl, rfl, rfl, rfl, rfl, rfl, rfl, rfl, trivial⟩, X_4, (Sep.sel S_5 [0, 1, 2, 3] (by decide))⟩
 rintro φ' hp5 ⟨hs1, X_5, S_6⟩
 refine thnN ?_
 refine W.sub hs1 ?_
 by_cases c2 : x1 = true
 ·rw [if_pos c2] at hp
  refine W.condT rfl c2 ?_
  refine W.seq ?_
  refine W.region ?_
  refine RL.opD (by decide) (opv_assign rfl rfl) ?_
  have S_7 : Sep [] h0.size hp5 [ownO kB 4 (.slice none 0 0) ([] : List (Bool)), ownO kB 4 (.slice none 0 0) ([] : List (Bool)), boxO bb3 [(.int .i64 a2)], boxO bb2 [u1_0, u1_1, u1_2], boxO bb1 [(.int .i64 a0_0), (.int .i64 a0_1), (.bool a0_2), u0_3, u0_4]] := Sep.addNil S_6
  refine RL.opD (by decide) (opv_assign rfl rfl) ?_
  refine RL.nil ?_
  refine thnN ?_
  refine W.ret ?_
  refine thnR ?_
  have er := Option.some.inj hp
  subst er
  exact Rt.two rfl rfl rfl ⟨(.slice none 0 0), rfl, X_5, (Sep.sel S_7 [0] (by decide))⟩
 ·rw [if_neg c2] at hp
  have c2 := eq_false_of_ne_true c2
  refine W.condF rfl c2 ?_
  refine W.skip ?_
  refine thnN ?_
  refine W.seq ?_
  by_cases nc3 : a2 = 0
  ·rw [if_pos nc3] at hp; cases hp
  rw [if_neg nc3] at hp
  have c3 : a2 ≠ 0 := nc3
  by_cases nc4 : a2 = 0
  ·rw [if_pos nc4] at hp; cases hp
  rw [if_neg nc4] at hp
  have c4 : a2 ≠ 0 := nc4
  refine W.sub (ψ := [(0, (.agg (List.toArray (α := Value) [(.int .i64 a0_0), (.int .i64 a0_1), (.bool a0_2), u0_3, u0_4]))), (1, (.agg (List.toArray (α := Value) [u1_0, u1_1, u1_2]))), (2, (.int .i64 a2)), (3, (.pointer (some ⟨bb1, 0, none⟩))), (4, (.pointer (some ⟨bb2, 0, none⟩))), (5, (.pointer (some ⟨bb3, 0, none⟩))), (6, (.slice none 0 0)), (7, (.bool false)), (19, (.bool x1))]) ⟨rfl, rfl, rfl, rfl, rfl, rfl, rfl, rfl, rfl, trivial⟩ ?_
  refine W.regionT 17 (fun h' => Bx h' bb1 [(.int .i64 a0_0), (.int .i64 a0_1), (.bool a0_2), u0_3, u0_4] ∧ Bx h' bb3 [(.int .i64 a2)] ∧ True) rfl Try.mixed ⟨(Sep.at (o := boxO bb1 [(.int .i64 a0_0), (.int .i64 a0_1), (.bool a0_2), u0_3, u0_4]) S_6 3 rfl), (Sep.at (o := boxO bb3 [(.int .i64 a2)]) S_6 1 rfl), trivial⟩ ?_
  refine TK.take 0 rfl rfl rfl (by decide) (by decide +kernel) (fun _ _ _ h => h) (fun h' S_ => opx_fieldAddr rfl Try.fo31_0 rfl) ?_
  refine TK.take 1 rfl rfl rfl (by decide) (by decide +kernel) (fun _ _ _ h => h) (fun h' S_ => opx_loadB rfl Try.one2 rfl S_.1 rfl) ?_
  refine TK.take 2 rfl rfl rfl (by decide) (by decide +kernel) (fun _ _ _ h => h) (fun h' S_ => opx_loadB rfl Try.one2 rfl S_.2.1 rfl) ?_
  refine TK.take 3 rfl rfl rfl (by decide) (by decide +kernel) (fun _ _ _ h => h) (fun h' S_ => opx_add rfl rfl rfl) ?_
  refine TK.take 4 rfl rfl rfl (by decide) (by decide +kernel) (fun _ _ _ h => h) (fun h' S_ => opx_sub rfl rfl rfl) ?_
  refine TK.take 5 rfl rfl rfl (by decide) (by decide +kernel) (fun _ _ _ h => h) (fun h' S_ => opx_loadB rfl Try.one2 rfl S_.2.1 rfl) ?_
  refine TK.take 6 rfl rfl rfl (by decide) (by decide +kernel) (fun _ _ _ h => h) (fun h' S_ => opx_quo rfl c3 rfl rfl) ?_
  refine TK.take 7 rfl rfl rfl (by decide) (by decide +kernel) (fun _ _ _ h => h) (fun h' S_ => opx_fieldAddr rfl Try.fo31_1 rfl) ?_
  refine TK.take 8 rfl rfl rfl (by decide) (by decide +kernel) (fun _ _ _ h => h) (fun h' S_ => opx_loadB rfl Try.one2 rfl S_.1 rfl) ?_
  refine TK.take 9 rfl rfl rfl (by decide) (by decide +kernel) (fun _ _ _ h => h) (fun h' S_ => opx_loadB rfl Try.one2 rfl S_.2.1 rfl) ?_
  refine TK.take 10 rfl rfl rfl (by decide) (by decide +kernel) (fun _ _ _ h => h) (fun h' S_ => opx_add rfl rfl rfl) ?_
  refine TK.take 11 rfl rfl rfl (by decide) (by decide +kernel) (fun _ _ _ h => h) (fun h' S_ => opx_sub rfl rfl rfl) ?_
  refine TK.take 12 rfl rfl rfl (by decide) (by decide +kernel) (fun _ _ _ h => h) (fun h' S_ => opx_loadB rfl Try.one2 rfl S_.2.1 rfl) ?_
  refine TK.take 13 rfl rfl rfl (by decide) (by decide +kernel) (fun _ _ _ h => h) (fun h' S_ => opx_quo rfl c4 rfl rfl) ?_
  refine TK.stepD 14 _ rfl rfl rfl (by decide) (by decide +kernel) (opS_boxed (opv_alloc (cs := [(.int .i64 0)]) rfl Try.zero2 rfl)) ?_
  rintro _ hp23 ⟨bb5, rfl, MT_7, T_7⟩
  obtain ⟨X_8, S_11⟩ := Sep.turn0 X_5 S_6 MT_7 T_7
  refine ⟨⟨(Sep.at (o := boxO bb1 [(.int .i64 a0_0), (.int .i64 a0_1), (.bool a0_2), u0_3, u0_4]) S_11 4 rfl), (Sep.at (o := boxO bb3 [(.int .i64 a2)]) S_11 2 rfl), trivial⟩, ?_⟩
  refine TK.step 15 _ rfl rfl rfl (by decide +kernel) (opS_stored (cs := [(.int .i64 0)]) (cs' := [(.int .i64 (IntKind.wrap .i64 (Int.tdiv (IntKind.wrap .i64 ((IntKind.wrap .i64 (a0_0 + a2)) - 1)) a2)))]) (opv_storeB (k := 0) (cs := [(.int .i64 0)]) rfl Try.size2 rfl rfl rfl (Sep.at (o := boxO bb5 [(.int .i64 0)]) S_11 0 rfl) (Nat.le_of_ble_eq_true rfl)) (Sep.at (o := boxO bb5 [(.int .i64 0)]) S_11 0 rfl)) ?_
  rintro _ hp24 ⟨rfl, MT_8, T_8⟩
  have S_12 : Sep [] h0.size hp23 ([boxO bb5 [(.int .i64 0)]] ++ [ownO kB 4 (.slice none 0 0) ([] : List (Bool)), boxO bb3 [(.int .i64 a2)], boxO bb2 [u1_0, u1_1, u1_2], boxO bb1 [(.int .i64 a0_0), (.int .i64 a0_1), (.bool a0_2), u0_3, u0_4]]) := Sep.sel S_11 [0, 1, 2, 3, 4] (by decide)
  obtain ⟨X_9, S_13⟩ := Sep.turn X_8 S_12 MT_8 T_8
  refine ⟨⟨(Sep.at (o := boxO bb1 [(.int .i64 a0_0), (.int .i64 a0_1), (.bool a0_2), u0_3, u0_4]) S_13 4 rfl), (Sep.at (o := boxO bb3 [(.int .i64 a2)]) S_13 2 rfl), trivial⟩, ?_⟩
  refine TK.take 16 rfl rfl rfl (by decide) (by decide +kernel) (fun _ _ _ h => h) (fun h' S_ => opx_assign rfl rfl) ?_
  refine TK.done (by decide +kernel) ?_
  refine thnN ?_
  refine W.seq ?_
  refine W.region ?_
  refine RL.op _ (by decide) (opS_lit0 (K := kB) rfl Try.underlying40 Try.isinfo4) ?_
  rintro v1 hp25 ⟨MT_9, T_9⟩
  obtain ⟨X_10, S_14⟩ := Sep.turn0 X_9 S_13 MT_9 T_9
  refine RL.op _ (by decide) (opS_boxed (opv_alloc (cs := [(.slice none 0 0)]) rfl Try.zero40 rfl)) ?_
  rintro _ hp26 ⟨bb6, rfl, MT_10, T_10⟩
  obtain ⟨X_11, S_15⟩ := Sep.turn0 X_10 S_14 MT_10 T_10
  refine RL.op0 _ (opS_stored (cs := [(.slice none 0 0)]) (cs' := [v1]) (opv_storeB (k := 0) (cs := [(.slice none 0 0)]) rfl Try.size40 rfl rfl (ownO.one (Sep.at (o := ownO kB 4 v1 ([] : List (Bool))) S_15 1 rfl)) (Sep.at (o := boxO bb6 [(.slice none 0 0)]) S_15 0 rfl) (Nat.le_of_ble_eq_true rfl)) (Sep.at (o := boxO bb6 [(.slice none 0 0)]) S_15 0 rfl)) ?_
  rintro _ hp27 ⟨rfl, MT_11, T_11⟩
  have S_16 : Sep [] h0.size hp26 ([boxO bb6 [(.slice none 0 0)]] ++ [ownO kB 4 v1 ([] : List (Bool)), boxO bb5 [(.int .i64 (IntKind.wrap .i64 (Int.tdiv (IntKind.wrap .i64 ((IntKind.wrap .i64 (a0_0 + a2)) - 1)) a2)))], ownO kB 4 (.slice none 0 0) ([] : List (Bool)), boxO bb3 [(.int .i64 a2)], boxO bb2 [u1_0, u1_1, u1_2], boxO bb1 [(.int .i64 a0_0), (.int .i64 a0_1), (.bool a0_2), u0_3, u0_4]]) := Sep.sel S_15 [0, 1, 2, 3, 4, 5, 6] (by decide)
  obtain ⟨X_12, S_17⟩ := Sep.turn X_11 S_16 MT_11 T_11
  refine RL.nil ?_
  refine thnN ?_
  refine W.seq ?_
  refine W.seq ?_
  refine W.region ?_
  refine RL.opD (by decide) (opv_loadB rfl Try.one2 rfl (Sep.at (o := boxO bb5 [(.int .i64 (IntKind.wrap .i64 (Int.tdiv (IntKind.wrap .i64 ((IntKind.wrap .i64 (a0_0 + a2)) - 1)) a2)))]) S_17 2 rfl) rfl) ?_
  refine RL.opD (by decide) (opv_move rfl rfl) ?_
  refine RL.opD (by decide) (opv_mul rfl rfl rfl) ?_
  refine RL.opD (by decide) (opv_move rfl rfl) ?_
  refine RL.nil ?_
  refine thnN ?_
  obtain ⟨y2, hy2, hp⟩ := Option.bind_eq_some_iff.1 hp
  refine W.cut (fun φ' h' => ∃ x6, ∃ x7, ∃ x8, ∃ v3, y2 = (x6, x7, x8) ∧ Fr.sub [(0, (.agg (List.toArray (α := Value) [(.int .i64 a0_0), (.int .i64 a0_1), (.bool a0_2), u0_3, u0_4]))), (1, (.agg (List.toArray (α := Value) [u1_0, u1_1, u1_2]))), (2, (.int .i64 a2)), (3, (.pointer (some ⟨bb1, 0, none⟩))), (4, (.pointer (some ⟨bb2, 0, none⟩))), (5, (.pointer (some ⟨bb3, 0, none⟩))), (6, (.slice none 0 0)), (7, (.bool false)), (19, (.bool x1)), (8, (.pointer (some ⟨bb5, 0, none⟩))), (9, (.int .i64 (IntKind.wrap .i64 (Int.tdiv (IntKind.wrap .i64 ((IntKind.wrap .i64 (a0_1 + a2)) - 1)) a2)))), (10, (.pointer (some ⟨bb6, 0, none⟩))), (37, (.int .i64 (IntKind.wrap .i64 ((IntKind.wrap .i64 (Int.tdiv (IntKind.wrap .i64 ((IntKind.wrap .i64 (a0_0 + a2)) - 1)) a2)) * (IntKind.wrap .i64 (Int.tdiv (IntKind.wrap .i64 ((IntKind.wrap .i64 (a0_1 + a2)) - 1)) a2)))))), (38, (.int .i64 x6)), (39, (.bool x7))] φ' ∧ Mod [] h0 h' ∧ Sep [] h0.size h' [boxO bb6 [v3], boxO bb5 [(.int .i64 (IntKind.wrap .i64 (Int.tdiv (IntKind.wrap .i64 ((IntKind.wrap .i64 (a0_0 + a2)) - 1)) a2)))], ownO kB 4 (.slice none 0 0) ([] : List (Bool)), boxO bb3 [(.int .i64 a2)], boxO bb2 [u1_0, u1_1, u1_2], boxO bb1 [(.int .i64 a0_0), (.int .i64 a0_1), (.bool a0_2), u0_3, u0_4], ownO kB 4 v3 x8]) ?_ ?_
  ·refine W.block ?_
   refine W.loopS (fun (s : (Int × (List (Bool)))) φ' h' => ∃ v2, Fr.sub [(0, (.agg (List.toArray (α := Value) [(.int .i64 a0_0), (.int .i64 a0_1), (.bool a0_2), u0_3, u0_4]))), (1, (.agg (List.toArray (α := Value) [u1_0, u1_1, u1_2]))), (2, (.int .i64 a2)), (3, (.pointer (some ⟨bb1, 0, none⟩))), (4, (.pointer (some ⟨bb2, 0, none⟩))), (5, (.pointer (some ⟨bb3, 0, none⟩))), (6, (.slice none 0 0)), (7, (.bool false)), (19, (.bool x1)), (8, (.pointer (some ⟨bb5, 0, none⟩))), (9, (.int .i64 (IntKind.wrap .i64 (Int.tdiv (IntKind.wrap .i64 ((IntKind.wrap .i64 (a0_1 + a2)) - 1)) a2)))), (10, (.pointer (some ⟨bb6, 0, none⟩))), (37, (.int .i64 (IntKind.wrap .i64 ((IntKind.wrap .i64 (Int.tdiv (IntKind.wrap .i64 ((IntKind.wrap .i64 (a0_0 + a2)) - 1)) a2)) * (IntKind.wrap .i64 (Int.tdiv (IntKind.wrap .i64 ((IntKind.wrap .i64 (a0_1 + a2)) - 1)) a2)))))), (38, (.int .i64 s.1))] φ' ∧ Mod [] h0 h' ∧ Sep [] h0.size h' [boxO bb6 [v2], ownO kB 4 v2 s.2, boxO bb5 [(.int .i64 (IntKind.wrap .i64 (Int.tdiv (IntKind.wrap .i64 ((IntKind.wrap .i64 (a0_0 + a2)) - 1)) a2)))], ownO kB 4 (.slice none 0 0) ([] : List (Bool)), boxO bb3 [(.int .i64 a2)], boxO bb2 [u1_0, u1_1, u1_2], boxO bb1 [(.int .i64 a0_0), (.int .i64 a0_1), (.bool a0_2), u0_3, u0_4]]) hy2 ⟨v1, ⟨rfl, rfl, rfl, rfl, rfl, rfl, rfl, rfl, rfl, rfl, rfl, rfl, rfl, rfl, trivial⟩, X_12, (Sep.sel S_17 [0, 1, 2, 3, 4, 5, 6] (by decide))⟩ ?_
   rintro ⟨x4, x5⟩ φ' hp28 o1 ⟨v2, hs2, X_13, S_18⟩ ho1 hy1
   have hs2 : Fr.sub [(0, (.agg (List.toArray (α := Value) [(.int .i64 a0_0), (.int .i64 a0_1), (.bool a0_2), u0_3, u0_4]))), (1, (.agg (List.toArray (α := Value) [u1_0, u1_1, u1_2]))), (2, (.int .i64 a2)), (3, (.pointer (some ⟨bb1, 0, none⟩))), (4, (.pointer (some ⟨bb2, 0, none⟩))), (5, (.pointer (some ⟨bb3, 0, none⟩))), (6, (.slice none 0 0)), (7, (.bool false)), (19, (.bool x1)), (8, (.pointer (some ⟨bb5, 0, none⟩))), (9, (.int .i64 (IntKind.wrap .i64 (Int.tdiv (IntKind.wrap .i64 ((IntKind.wrap .i64 (a0_1 + a2)) - 1)) a2)))), (10, (.pointer (some ⟨bb6, 0, none⟩))), (37, (.int .i64 (IntKind.wrap .i64 ((IntKind.wrap .i64 (Int.tdiv (IntKind.wrap .i64 ((IntKind.wrap .i64 (a0_0 + a2)) - 1)) a2)) * (IntKind.wrap .i64 (Int.tdiv (IntKind.wrap .i64 ((IntKind.wrap .i64 (a0_1 + a2)) - 1)) a2)))))), (38, (.int .i64 x4))] φ' := hs2
   have S_18 : Sep [] h0.size hp28 [boxO bb6 [v2], ownO kB 4 v2 x5, boxO bb5 [(.int .i64 (IntKind.wrap .i64 (Int.tdiv (IntKind.wrap .i64 ((IntKind.wrap .i64 (a0_0 + a2)) - 1)) a2)))], ownO kB 4 (.slice none 0 0) ([] : List (Bool)), boxO bb3 [(.int .i64 a2)], boxO bb2 [u1_0, u1_1, u1_2], boxO bb1 [(.int .i64 a0_0), (.int .i64 a0_1), (.bool a0_2), u0_3, u0_4]] := S_18
   have ho1 : impl_SleepingBlocks.s0 a0_0 a0_1 a2 x4 x5 = some o1 := ho1
   unfold impl_SleepingBlocks.s0 at ho1
   refine W.sub hs2 ?_
   refine W.seq ?_
   refine W.region ?_
   refine RL.opD (by decide) (opv_icmp rfl rfl rfl rfl) ?_
   refine RL.nil ?_
   refine thnN ?_
   refine W.seq ?_
   by_cases c5 : (decide (x4 < (IntKind.wrap .i64 ((IntKind.wrap .i64 (Int.tdiv (IntKind.wrap .i64 ((IntKind.wrap .i64 (a0_0 + a2)) - 1)) a2)) * (IntKind.wrap .i64 (Int.tdiv (IntKind.wrap .i64 ((IntKind.wrap .i64 (a0_1 + a2)) - 1)) a2)))))) = true
   ·rw [if_pos c5] at ho1
    refine W.condT rfl c5 ?_
    refine W.skip ?_
    refine thnN ?_
    refine W.seq ?_
    refine W.block ?_
    obtain ⟨c6, ho1⟩ := of_ite ho1
    refine W.region ?_
    refine RL.opD (by decide) (opv_loadB rfl Try.one40 rfl (Sep.at (o := boxO bb6 [v2]) S_18 0 rfl) rfl) ?_
    refine RL.op _ (by decide) (opS_lit1 (K := kB) (z := true) rfl Try.underlying40 Try.einfo4 rfl rfl rfl rfl rfl) ?_
    rintro v4 hp29 ⟨MT_12, T_12⟩
    obtain ⟨X_14, S_19⟩ := Sep.turn0 X_13 S_18 MT_12 T_12
    refine RL.op _ (by decide) (opS_append (K := kB) rfl Try.underlying40 Try.einfo4 rfl rfl rfl rfl (Sep.at (o := ownO kB 4 v2 x5) S_19 2 rfl) (ownO.read (Sep.at (o := ownO kB 4 v4 [true]) S_19 0 rfl)) (by decide) (by decide) c6) ?_
    rintro v5 hp30 ⟨MT_13, T_13⟩
    have S_20 : Sep [] h0.size hp29 ([ownO kB 4 v2 x5] ++ [ownO kB 4 v4 [true], boxO bb6 [v2], boxO bb5 [(.int .i64 (IntKind.wrap .i64 (Int.tdiv (IntKind.wrap .i64 ((IntKind.wrap .i64 (a0_0 + a2)) - 1)) a2)))], ownO kB 4 (.slice none 0 0) ([] : List (Bool)), boxO bb3 [(.int .i64 a2)], boxO bb2 [u1_0, u1_1, u1_2], boxO bb1 [(.int .i64 a0_0), (.int .i64 a0_1), (.bool a0_2), u0_3, u0_4]]) := Sep.sel S_19 [2, 0, 1, 3, 4, 5, 6, 7] (by decide)
    obtain ⟨X_15, S_21⟩ := Sep.turn X_14 S_20 MT_13 T_13
    refine RL.op0 _ (opS_stored (cs := [v2]) (cs' := [v5]) (opv_storeB (k := 0) (cs := [v2]) rfl Try.size40 rfl rfl (ownO.one (Sep.at (o := ownO kB 4 v5 (x5 ++ [true])) S_21 0 rfl)) (Sep.at (o := boxO bb6 [v2]) S_21 2 rfl) (Nat.le_of_ble_eq_true rfl)) (Sep.at (o := boxO bb6 [v2]) S_21 2 rfl)) ?_
    rintro _ hp31 ⟨rfl, MT_14, T_14⟩
    have S_22 : Sep [] h0.size hp30 ([boxO bb6 [v2]] ++ [ownO kB 4 v5 (x5 ++ [true]), ownO kB 4 v4 [true], boxO bb5 [(.int .i64 (IntKind.wrap .i64 (Int.tdiv (IntKind.wrap .i64 ((IntKind.wrap .i64 (a0_0 + a2)) - 1)) a2)))], ownO kB 4 (.slice none 0 0) ([] : List (Bool)), boxO bb3 [(.int .i64 a2)], boxO bb2 [u1_0, u1_1, u1_2], boxO bb1 [(.int .i64 a0_0), (.int .i64 a0_1), (.bool a0_2), u0_3, u0_4]]) := Sep.sel S_21 [2, 0, 1, 3, 4, 5, 6, 7] (by decide)
    obtain ⟨X_16, S_23⟩ := Sep.turn X_15 S_22 MT_14 T_14
    refine RL.nil ?_
    refine blkN ?_
    refine thnN ?_
    refine W.region ?_
    refine RL.opD (by decide) (opv_add rfl rfl rfl) ?_
    refine RL.opD (by decide) (opv_move rfl rfl) ?_
    refine RL.nil ?_
    have eo1 := Option.some.inj ho1
    subst eo1
    refine rndN (s' := (IntKind.wrap .i64 (x4 + 1), x5 ++ [true])) rfl ?_
    exact ⟨v5, ⟨rfl, rfl, rfl, rfl, rfl, rfl, rfl, rfl, rfl, rfl, rfl, rfl, rfl, rfl, trivial⟩, X_16, (Sep.sel S_23 [0, 1, 3, 4, 5, 6, 7] (by decide))⟩
   ·rw [if_neg c5] at ho1
    have c5 := eq_false_of_ne_true c5
    refine W.condF rfl c5 ?_
    refine W.exit ?_
    refine thnX ?_
    refine rndX ?_
    refine blkI ?_
    have eo1 := Option.some.inj ho1
    subst eo1
    have ey2 := hy1 _ rfl
    subst ey2
    refine onlyN ?_
    exact ⟨x4, decide (x4 < (IntKind.wrap .i64 ((IntKind.wrap .i64 (Int.tdiv (IntKind.wrap .i64 ((IntKind.wrap .i64 (a0_0 + a2)) - 1)) a2)) * (IntKind.wrap .i64 (Int.tdiv (IntKind.wrap .i64 ((IntKind.wrap .i64 (a0_1 + a2)) - 1)) a2))))), x5, v2, rfl, ⟨rfl, rfl, rfl, rfl, rfl, rfl, rfl, rfl, rfl, rfl, rfl, rfl, rfl, rfl, rfl, trivial⟩, X_13, (Sep.sel S_18 [0, 2, 3, 4, 5, 6, 1] (by decide))⟩
  rintro φ' hp32 ⟨x6, x7, x8, v3, rfl, hs3, X_17, S_24⟩
  try dsimp only at hp
  refine thnN ?_
  refine W.sub hs3 ?_
  refine W.seq ?_
  obtain ⟨x9, hx9, hp⟩ := Option.bind_eq_some_iff.1 hp
  refine W.region ?_
  refine RL.opD (by decide) (opv_loadA (us := [(.int .i64 a0_0), (.int .i64 a0_1), (.bool a0_2), u0_3, u0_4]) rfl Try.agg31 Try.size31 rfl (Sep.at (o := boxO bb1 [(.int .i64 a0_0), (.int .i64 a0_1), (.bool a0_2), u0_3, u0_4]) S_24 5 rfl) rfl rfl) ?_
  refine RL.opD (by decide) (opv_makeFunc (vs := [(.pointer (some ⟨bb1, 0, none⟩)), (.pointer (some ⟨bb2, 0, none⟩)), (.pointer (some ⟨bb6, 0, none⟩)), (.pointer (some ⟨bb3, 0, none⟩)), (.pointer (some ⟨bb5, 0, none⟩))]) rfl ⟨rfl, rfl, rfl, rfl, rfl, trivial⟩) ?_
  have S_26 : Sep [] h0.size hp32 [boxO bb1 [(.int .i64 a0_0), (.int .i64 a0_1), (.bool a0_2), u0_3, u0_4], boxO bb2 [u1_0, u1_1, u1_2], boxO bb6 [v3], ownO kB 4 v3 x8, boxO bb3 [(.int .i64 a2)], boxO bb5 [(.int .i64 (IntKind.wrap .i64 (Int.tdiv (IntKind.wrap .i64 ((IntKind.wrap .i64 (a0_0 + a2)) - 1)) a2)))]] := Sep.sel S_24 [5, 4, 0, 6, 3, 1] (by decide)
  have S_25 : Sep [some bb1, some bb2, some bb6, v3.ownBlock, some bb3, some bb5] hp32.size hp32 [boxO bb1 [(.int .i64 a0_0), (.int .i64 a0_1), (.bool a0_2), u0_3, u0_4], boxO bb2 [u1_0, u1_1, u1_2], boxO bb6 [v3], ownO kB 4 v3 x8, boxO bb3 [(.int .i64 a2)], boxO bb5 [(.int .i64 (IntKind.wrap .i64 (Int.tdiv (IntKind.wrap .i64 ((IntKind.wrap .i64 (a0_0 + a2)) - 1)) a2)))]] := Sep.own S_26 _
  refine RL.op _ (by decide) (opv_call (cap := []) (impl_Sheet_each__impl_SleepingBlocks_1_ok _ h0.size (Nat.le_trans (Nat.le_refl _) (Mod.size X_17)) _ _ _ _ _ (SL.mod g0_3 X_17 (Nat.le_refl _) nob) _ _ (SL.mod g0_4 X_17 (Nat.le_refl _) nob) _ _ _ _ _ _ (SL.mod g0_3 X_17 (Nat.le_refl _) nob) _ _ (SL.mod g0_4 X_17 (Nat.le_refl _) nob) _ _ _ (SL.mod g1_0 X_17 (Nat.le_refl _) nob) _ _ (SL.mod g1_1 X_17 (Nat.le_refl _) nob) _ _ (SL.mod g1_2 X_17 (Nat.le_refl _) nob) _ _ _ _ _ _ _ S_25 (Sep.ge (L := [boxO bb1 [(.int .i64 a0_0), (.int .i64 a0_1), (.bool a0_2), u0_3, u0_4], boxO bb2 [u1_0, u1_1, u1_2], boxO bb6 [v3], ownO kB 4 v3 x8, boxO bb3 [(.int .i64 a2)], boxO bb5 [(.int .i64 (IntKind.wrap .i64 (Int.tdiv (IntKind.wrap .i64 ((IntKind.wrap .i64 (a0_0 + a2)) - 1)) a2)))]]) S_26 (Nat.le_refl _) nob) _ hx9) rfl rfl ⟨rfl, rfl, trivial⟩ Try.func79 rfl rfl) ?_
  rintro _ hp33 ⟨rfl, MT_15, T_15⟩
  have S_27 : Sep [] h0.size hp32 ([boxO bb1 [(.int .i64 a0_0), (.int .i64 a0_1), (.bool a0_2), u0_3, u0_4], boxO bb2 [u1_0, u1_1, u1_2], boxO bb6 [v3], ownO kB 4 v3 x8, boxO bb3 [(.int .i64 a2)], boxO bb5 [(.int .i64 (IntKind.wrap .i64 (Int.tdiv (IntKind.wrap .i64 ((IntKind.wrap .i64 (a0_0 + a2)) - 1)) a2)))]] ++ [ownO kB 4 (.slice none 0 0) ([] : List (Bool))]) := Sep.sel S_24 [5, 4, 0, 6, 3, 1, 2] (by decide)
  obtain ⟨X_18, S_28⟩ := Sep.turn X_17 S_27 MT_15 T_15
  refine RL.nil ?_
  refine thnN ?_
  refine W.seq ?_
  refine W.region ?_
  refine RL.opD (by decide) (opv_loadB rfl Try.one40 rfl (Sep.at (o := boxO bb6 [v3]) S_28 2 rfl) rfl) ?_
  refine RL.opD (by decide) (opv_assign rfl rfl) ?_
  refine RL.opD (by decide) (opv_assign rfl rfl) ?_
  refine RL.nil ?_
  refine thnN ?_
  refine W.ret ?_
  have er := Option.some.inj hp
  subst er
  exact Rt.two rfl rfl rfl ⟨v3, rfl, X_18, (Sep.sel S_28 [3] (by decide))⟩

end Go.H
