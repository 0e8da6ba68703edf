/- Functions of the program: what each computes, as a plain function, and that the call comes to it. Written by a program (wip/gen). -/
import Derived.Test.YtjlnfficehomhaaGreatDoorGBase
import Derived.Test.YtjlnfficehomhaaGreatDoorGSheet
import Derived.Test.YtjlnfficehomhaaGreatDoorLibB
import Derived.Test.YtjlnfficehomhaaGreatDoorProg
import Derived.KernelRfl
set_option linter.unusedVariables false
namespace Go.H
open Go Go.Proofs



noncomputable def impl_Sheet_isBorder (a0_0 : Int) (a0_1 : Int) (a0_2 : Bool) (a0_3 : List (Option Nat)) (a0_4 : List (Option Nat)) (a1 : Int) (a2 : Int) : Option Bool :=
 (((if (!a0_2) = true then (if (a1 == 0) = true then some true else (if (a1 == (IntKind.wrap .i64 (a0_0 - 1))) = true then some true else (if (a2 == 0) = true then some true else some (a2 == (IntKind.wrap .i64 (a0_1 - 1)))))) else some false) : Option Bool).bind fun (x1 : Bool) => some x1)

noncomputable def impl_IsField.s0 (a0_0 : Int) (a0_1 : Int) (a0_2 : Bool) (a0_3 : List (Option Nat)) (a0_4 : List (Option Nat)) (a1_0 : List (Option Nat)) (a1_1 : List (Option Nat)) (a1_2 : List (Option Nat)) (x3 : Bool) (x4 : Int) : Option ((Bool × Int) ⊕ ((Bool × Int × Bool) ⊕ Bool)) :=
 (if (decide (x4 < (IntKind.wrap .i64 (a0_0 * a0_1)))) = true then (if a0_0 = 0 then none else (if a0_0 = 0 then none else ((((impl_Sheet_isBorder a0_0 a0_1 a0_2 a0_3 a0_4 (Int.tmod x4 a0_0) (IntKind.wrap .i64 (Int.tdiv x4 a0_0))).bind fun (x9 : Bool) => (if x9 = true then ((idx a1_0 x4).bind fun (x10 : Option Nat) => (if (fcmp .neq .f32 x10 (some 0)) = true then some true else (if ((IntKind.wrap .i64 (Int.tdiv x4 a0_0)) == (IntKind.wrap .i64 (a0_1 - 1))) = true then ((idx a1_1 x4).bind fun (x11 : Option Nat) => (if (fcmp .neq .f32 x11 (some 0)) = true then some true else (if ((Int.tmod x4 a0_0) == (IntKind.wrap .i64 (a0_0 - 1))) = true then ((idx a1_2 x4).bind fun (x12 : Option Nat) => some (fcmp .neq .f32 x12 (some 0))) else some false))) else (if ((Int.tmod x4 a0_0) == (IntKind.wrap .i64 (a0_0 - 1))) = true then ((idx a1_2 x4).bind fun (x13 : Option Nat) => some (fcmp .neq .f32 x13 (some 0))) else some false)))) else (if ((IntKind.wrap .i64 (Int.tdiv x4 a0_0)) == (IntKind.wrap .i64 (a0_1 - 1))) = true then ((idx a1_1 x4).bind fun (x14 : Option Nat) => (if (fcmp .neq .f32 x14 (some 0)) = true then some true else (if ((Int.tmod x4 a0_0) == (IntKind.wrap .i64 (a0_0 - 1))) = true then ((idx a1_2 x4).bind fun (x15 : Option Nat) => some (fcmp .neq .f32 x15 (some 0))) else some false))) else (if ((Int.tmod x4 a0_0) == (IntKind.wrap .i64 (a0_0 - 1))) = true then ((idx a1_2 x4).bind fun (x16 : Option Nat) => some (fcmp .neq .f32 x16 (some 0))) else some false)))) : Option Bool).bind fun (x8 : Bool) => (if x8 = true then some (.inr (.inr false)) else some (.inl (x3, IntKind.wrap .i64 (x4 + 1))))))) else some (.inr (.inl (x3, x4, decide (x4 < (IntKind.wrap .i64 (a0_0 * a0_1)))))))

noncomputable def impl_IsField (a0_0 : Int) (a0_1 : Int) (a0_2 : Bool) (a0_3 : List (Option Nat)) (a0_4 : List (Option Nat)) (a1_0 : List (Option Nat)) (a1_1 : List (Option Nat)) (a1_2 : List (Option Nat)) : Option Bool :=
 ((((impl_ValidSheet a0_0 a0_1 a0_2 a0_3 a0_4).bind fun (x2 : Bool) => (if (!x2) = true then some true else (if ((a1_0.length : Int) != (IntKind.wrap .i64 (a0_0 * a0_1))) = true then some true else (if ((a1_1.length : Int) != (IntKind.wrap .i64 (a0_0 * a0_1))) = true then some true else some ((a1_2.length : Int) != (IntKind.wrap .i64 (a0_0 * a0_1))))))) : Option Bool).bind fun (x1 : Bool) => (if x1 = true then some false else (if a0_2 = true then some true else ((loopF (fun (s : (Bool × Int)) => impl_IsField.s0 a0_0 a0_1 a0_2 a0_3 a0_4 a1_0 a1_1 a1_2 s.1 s.2) (false, 0)).bind fun (y2 : ((Bool × Int × Bool) ⊕ Bool)) => match y2 with | .inl (x5, x6, x7) => some true | .inr r1 => some r1))))

noncomputable def spec_l02Border (a0_0 : Int) (a0_1 : Int) (a0_2 : Bool) (a0_3 : List (Option Nat)) (a0_4 : List (Option Nat)) (a1 : Int) (a2 : Int) : Option Bool :=
 (((if (!a0_2) = true then (if (a1 == 0) = true then some true else (if (a1 == (IntKind.wrap .i64 (a0_0 - 1))) = true then some true else (if (a2 == 0) = true then some true else some (a2 == (IntKind.wrap .i64 (a0_1 - 1)))))) else some false) : Option Bool).bind fun (x1 : Bool) => some x1)

set_option maxRecDepth 20000 in
theorem impl_Sheet_isBorder_ok (h0 : Heap) (a0_0 : Int) (a0_1 : Int) (a0_2 : Bool) (u0_3 : Value) (a0_3 : List (Option Nat)) (g0_3 : SL (kF .f32) h0.size h0 u0_3 a0_3) (u0_4 : Value) (a0_4 : List (Option Nat)) (g0_4 : SL (kF .f32) h0.size h0 u0_4 a0_4) (a1 : Int) (a2 : Int) (r : Bool) (hp : impl_Sheet_isBorder a0_0 a0_1 a0_2 a0_3 a0_4 a1 a2 = some r) : CallsH Tryz.prog 48 ([(.agg (List.toArray (α := Value) [(.int .i64 a0_0), (.int .i64 a0_1), (.bool a0_2), u0_3, u0_4])), (.int .i64 a1), (.int .i64 a2)].toArray ++ [].toArray) h0 (fun v h' => v = (.bool r) ∧ Mod [] h0 h' ∧ Sep [] h0.size h' []) := by
 unfold impl_Sheet_isBorder at hp
 refine callsH_of_W (l := [(.agg (List.toArray (α := Value) [(.int .i64 a0_0), (.int .i64 a0_1), (.bool a0_2), u0_3, u0_4])), (.int .i64 a1), (.int .i64 a2)]) (cap := []) 32 Tryz.func48 rfl rfl rfl ?_
 refine W.seq ?_
 refine W.region ?_
 refine RL.op _ (by decide) (opS_boxed (opv_boxA (cs := [(.int .i64 a0_0), (.int .i64 a0_1), (.bool a0_2), u0_3, u0_4]) rfl rfl)) ?_
 rintro _ hp1 ⟨bb1, rfl, MT_1, T_1⟩
 obtain ⟨X_1, S_1⟩ := Sep.turn0 (Mod.refl [] h0) (Sep.nil [] h0.size h0) MT_1 T_1
 refine RL.opD (by decide) (opv_assign rfl rfl) ?_
 refine RL.nil ?_
 refine thnN ?_
 refine W.seq ?_
 obtain ⟨x1, hy1, hp⟩ := Option.bind_eq_some_iff.1 hp
 refine W.cut (fun φ' h' => Fr.sub [(0, (.agg (List.toArray (α := Value) [(.int .i64 a0_0), (.int .i64 a0_1), (.bool a0_2), u0_3, u0_4]))), (1, (.int .i64 a1)), (2, (.int .i64 a2)), (3, (.pointer (some ⟨bb1, 0, none⟩))), (6, (.bool x1))] φ' ∧ hp1 = h') ?_ ?_
 ·refine W.region ?_
  refine RL.opD (by decide) (opv_fieldAddr rfl Tryz.fo26_2 rfl) ?_
  refine RL.opD (by decide) (opv_loadB rfl Tryz.one4 rfl (Sep.at (o := boxO bb1 [(.int .i64 a0_0), (.int .i64 a0_1), (.bool a0_2), u0_3, u0_4]) S_1 0 rfl) rfl) ?_
  refine RL.opD (by decide) (opv_not rfl rfl) ?_
  refine RL.opD (by decide) (opv_move rfl rfl) ?_
  by_cases c1 : (!a0_2) = true
  ·rw [if_pos c1] at hy1
   refine RL.yesD rfl rfl c1 (by decide) (opv_move rfl rfl) ?_
   refine RL.yesD rfl rfl c1 (by decide) (opv_icmp rfl rfl rfl rfl) ?_
   refine RL.yesD rfl rfl c1 (by decide) (opv_move rfl rfl) ?_
   by_cases c2 : (a1 == 0) = true
   ·rw [if_pos c2] at hy1
    refine RL.noT rfl rfl c2 (by decide) ?_
    refine RL.noT rfl rfl c2 (by decide) ?_
    refine RL.noT rfl rfl c2 (by decide) ?_
    refine RL.noT rfl rfl c2 (by decide) ?_
    refine RL.noT rfl rfl c2 (by decide) ?_
    refine RL.yesD rfl rfl c1 (by decide) (opv_pick rfl rfl (fun _ => rfl) (fun e => absurd (Eq.trans (Eq.symm e) c2) (by decide)) rfl) ?_
    refine RL.yesD rfl rfl c1 (by decide) (opv_move rfl rfl) ?_
    refine RL.noT rfl rfl rfl (by decide) ?_
    refine RL.noT rfl rfl rfl (by decide) ?_
    refine RL.yesD rfl rfl c1 (by decide) (opv_pick rfl rfl (fun _ => rfl) (fun e => absurd (Eq.trans (Eq.symm e) rfl) (by decide)) rfl) ?_
    refine RL.yesD rfl rfl c1 (by decide) (opv_move rfl rfl) ?_
    refine RL.noT rfl rfl rfl (by decide) ?_
    refine RL.noT rfl rfl rfl (by decide) ?_
    refine RL.noT rfl rfl rfl (by decide) ?_
    refine RL.noT rfl rfl rfl (by decide) ?_
    refine RL.noT rfl rfl rfl (by decide) ?_
    refine RL.yesD rfl rfl c1 (by decide) (opv_pick rfl rfl (fun _ => rfl) (fun e => absurd (Eq.trans (Eq.symm e) rfl) (by decide)) rfl) ?_
    refine RL.opD (by decide) (opv_pick rfl rfl (fun _ => rfl) (fun e => absurd (Eq.trans (Eq.symm e) c1) (by decide)) rfl) ?_
    refine RL.opD (by decide) (opv_assign rfl rfl) ?_
    refine RL.nil ?_
    have ey1 := Option.some.inj hy1
    subst ey1
    refine onlyN ?_
    exact ⟨⟨rfl, rfl, rfl, rfl, rfl, trivial⟩, rfl⟩
   ·rw [if_neg c2] at hy1
    have c2 := eq_false_of_ne_true c2
    refine RL.yesD rfl rfl c2 (by decide) (opv_move rfl rfl) ?_
    refine RL.yesD rfl rfl c2 (by decide) (opv_fieldAddr rfl Tryz.fo26_0 rfl) ?_
    refine RL.yesD rfl rfl c2 (by decide) (opv_loadB rfl Tryz.one2 rfl (Sep.at (o := boxO bb1 [(.int .i64 a0_0), (.int .i64 a0_1), (.bool a0_2), u0_3, u0_4]) S_1 0 rfl) rfl) ?_
    refine RL.yesD rfl rfl c2 (by decide) (opv_sub rfl rfl rfl) ?_
    refine RL.yesD rfl rfl c2 (by decide) (opv_icmp rfl rfl rfl rfl) ?_
    refine RL.yesD rfl rfl c1 (by decide) (opv_pick rfl rfl (fun e => absurd (Eq.trans (Eq.symm e) c2) (by decide)) (fun _ => rfl) rfl) ?_
    refine RL.yesD rfl rfl c1 (by decide) (opv_move rfl rfl) ?_
    by_cases c3 : (a1 == (IntKind.wrap .i64 (a0_0 - 1))) = true
    ·rw [if_pos c3] at hy1
     refine RL.noT rfl rfl c3 (by decide) ?_
     refine RL.noT rfl rfl c3 (by decide) ?_
     refine RL.yesD rfl rfl c1 (by decide) (opv_pick rfl rfl (fun _ => rfl) (fun e => absurd (Eq.trans (Eq.symm e) c3) (by decide)) rfl) ?_
     refine RL.yesD rfl rfl c1 (by decide) (opv_move rfl rfl) ?_
     refine RL.noT rfl rfl rfl (by decide) ?_
     refine RL.noT rfl rfl rfl (by decide) ?_
     refine RL.noT rfl rfl rfl (by decide) ?_
     refine RL.noT rfl rfl rfl (by decide) ?_
     refine RL.noT rfl rfl rfl (by decide) ?_
     refine RL.yesD rfl rfl c1 (by decide) (opv_pick rfl rfl (fun _ => rfl) (fun e => absurd (Eq.trans (Eq.symm e) rfl) (by decide)) rfl) ?_
     refine RL.opD (by decide) (opv_pick rfl rfl (fun _ => rfl) (fun e => absurd (Eq.trans (Eq.symm e) c1) (by decide)) rfl) ?_
     refine RL.opD (by decide) (opv_assign rfl rfl) ?_
     refine RL.nil ?_
     have ey1 := Option.some.inj hy1
     subst ey1
     refine onlyN ?_
     exact ⟨⟨rfl, rfl, rfl, rfl, rfl, trivial⟩, rfl⟩
    ·rw [if_neg c3] at hy1
     have c3 := eq_false_of_ne_true c3
     refine RL.yesD rfl rfl c3 (by decide) (opv_move rfl rfl) ?_
     refine RL.yesD rfl rfl c3 (by decide) (opv_icmp rfl rfl rfl rfl) ?_
     refine RL.yesD rfl rfl c1 (by decide) (opv_pick rfl rfl (fun e => absurd (Eq.trans (Eq.symm e) c3) (by decide)) (fun _ => rfl) rfl) ?_
     refine RL.yesD rfl rfl c1 (by decide) (opv_move rfl rfl) ?_
     by_cases c4 : (a2 == 0) = true
     ·rw [if_pos c4] at hy1
      refine RL.noT rfl rfl c4 (by decide) ?_
      refine RL.noT rfl rfl c4 (by decide) ?_
      refine RL.noT rfl rfl c4 (by decide) ?_
      refine RL.noT rfl rfl c4 (by decide) ?_
      refine RL.noT rfl rfl c4 (by decide) ?_
      refine RL.yesD rfl rfl c1 (by decide) (opv_pick rfl rfl (fun _ => rfl) (fun e => absurd (Eq.trans (Eq.symm e) c4) (by decide)) rfl) ?_
      refine RL.opD (by decide) (opv_pick rfl rfl (fun _ => rfl) (fun e => absurd (Eq.trans (Eq.symm e) c1) (by decide)) rfl) ?_
      refine RL.opD (by decide) (opv_assign rfl rfl) ?_
      refine RL.nil ?_
      have ey1 := Option.some.inj hy1
      subst ey1
      refine onlyN ?_
      exact ⟨⟨rfl, rfl, rfl, rfl, rfl, trivial⟩, rfl⟩
     ·rw [if_neg c4] at hy1
      have c4 := eq_false_of_ne_true c4
      refine RL.yesD rfl rfl c4 (by decide) (opv_move rfl rfl) ?_
      refine RL.yesD rfl rfl c4 (by decide) (opv_fieldAddr rfl Tryz.fo26_1 rfl) ?_
      refine RL.yesD rfl rfl c4 (by decide) (opv_loadB rfl Tryz.one2 rfl (Sep.at (o := boxO bb1 [(.int .i64 a0_0), (.int .i64 a0_1), (.bool a0_2), u0_3, u0_4]) S_1 0 rfl) rfl) ?_
      refine RL.yesD rfl rfl c4 (by decide) (opv_sub rfl rfl rfl) ?_
      refine RL.yesD rfl rfl c4 (by decide) (opv_icmp rfl rfl rfl rfl) ?_
      refine RL.yesD rfl rfl c1 (by decide) (opv_pick rfl rfl (fun e => absurd (Eq.trans (Eq.symm e) c4) (by decide)) (fun _ => rfl) rfl) ?_
      refine RL.opD (by decide) (opv_pick rfl rfl (fun _ => rfl) (fun e => absurd (Eq.trans (Eq.symm e) c1) (by decide)) rfl) ?_
      refine RL.opD (by decide) (opv_assign rfl rfl) ?_
      refine RL.nil ?_
      have ey1 := Option.some.inj hy1
      subst ey1
      refine onlyN ?_
      exact ⟨⟨rfl, rfl, rfl, rfl, rfl, trivial⟩, rfl⟩
  ·rw [if_neg c1] at hy1
   have c1 := eq_false_of_ne_true c1
   refine RL.noF rfl rfl c1 (by decide) ?_
   refine RL.noF rfl rfl c1 (by decide) ?_
   refine RL.noF rfl rfl c1 (by decide) ?_
   refine RL.noU rfl rfl (by decide) ?_
   refine RL.noU rfl rfl (by decide) ?_
   refine RL.noU rfl rfl (by decide) ?_
   refine RL.noU rfl rfl (by decide) ?_
   refine RL.noU rfl rfl (by decide) ?_
   refine RL.noF rfl rfl c1 (by decide) ?_
   refine RL.noF rfl rfl c1 (by decide) ?_
   refine RL.noU rfl rfl (by decide) ?_
   refine RL.noU rfl rfl (by decide) ?_
   refine RL.noF rfl rfl c1 (by decide) ?_
   refine RL.noF rfl rfl c1 (by decide) ?_
   refine RL.noU rfl rfl (by decide) ?_
   refine RL.noU rfl rfl (by decide) ?_
   refine RL.noU rfl rfl (by decide) ?_
   refine RL.noU rfl rfl (by decide) ?_
   refine RL.noU rfl rfl (by decide) ?_
   refine RL.noF rfl rfl c1 (by decide) ?_
   refine RL.opD (by decide) (opv_pick rfl rfl (fun e => absurd (Eq.trans (Eq.symm e) c1) (by decide)) (fun _ => rfl) rfl) ?_
   refine RL.opD (by decide) (opv_assign rfl rfl) ?_
   refine RL.nil ?_
   have ey1 := Option.some.inj hy1
   subst ey1
   refine onlyN ?_
   exact ⟨⟨rfl, rfl, rfl, rfl, rfl, trivial⟩, rfl⟩
 rintro φ' _ ⟨hs1, rfl⟩
 refine thnN ?_
 refine W.sub hs1 ?_
 refine W.ret ?_
 have er := Option.some.inj hp
 subst er
 exact Rt.one rfl rfl ⟨rfl, X_1, (Sep.nil _ _ _)⟩

set_option maxHeartbeats 4000000 in
set_option maxRecDepth 20000 in
theorem impl_IsField_ok (h0 : Heap) (a0_0 : Int) (a0_1 : Int) (a0_2 : Bool) (u0_3 : Value) (a0_3 : List (Option Nat)) (g0_3 : SL (kF .f32) h0.size h0 u0_3 a0_3) (u0_4 : Value) (a0_4 : List (Option Nat)) (g0_4 : SL (kF .f32) h0.size h0 u0_4 a0_4) (u1_0 : Value) (a1_0 : List (Option Nat)) (g1_0 : SL (kF .f32) h0.size h0 u1_0 a1_0) (u1_1 : Value) (a1_1 : List (Option Nat)) (g1_1 : SL (kF .f32) h0.size h0 u1_1 a1_1) (u1_2 : Value) (a1_2 : List (Option Nat)) (g1_2 : SL (kF .f32) h0.size h0 u1_2 a1_2) (r : Bool) (hp : impl_IsField a0_0 a0_1 a0_2 a0_3 a0_4 a1_0 a1_1 a1_2 = some r) : CallsH Tryz.prog 25 ([(.agg (List.toArray (α := Value) [(.int .i64 a0_0), (.int .i64 a0_1), (.bool a0_2), u0_3, u0_4])), (.agg (List.toArray (α := Value) [u1_0, u1_1, u1_2]))].toArray ++ [].toArray) h0 (fun v h' => v = (.bool r) ∧ Mod [] h0 h' ∧ Sep [] h0.size h' []) := by
 unfold impl_IsField at hp
 refine callsH_of_W (l := [(.agg (List.toArray (α := Value) [(.int .i64 a0_0), (.int .i64 a0_1), (.bool a0_2), u0_3, u0_4])), (.agg (List.toArray (α := Value) [u1_0, u1_1, u1_2]))]) (cap := []) 95 Tryz.func25 rfl rfl rfl ?_
 refine W.seq ?_
 refine W.region ?_
 refine RL.op _ (by decide) (opS_boxed (opv_boxA (cs := [(.int .i64 a0_0), (.int .i64 a0_1), (.bool a0_2), u0_3, u0_4]) rfl rfl)) ?_
 rintro _ hp1 ⟨bb1, rfl, MT_1, T_1⟩
 obtain ⟨X_1, S_1⟩ := Sep.turn0 (Mod.refl [] h0) (Sep.nil [] h0.size h0) MT_1 T_1
 refine RL.op _ (by decide) (opS_boxed (opv_boxA (cs := [u1_0, u1_1, u1_2]) rfl rfl)) ?_
 rintro _ hp2 ⟨bb2, rfl, MT_2, T_2⟩
 obtain ⟨X_2, S_2⟩ := Sep.turn0 X_1 S_1 MT_2 T_2
 refine RL.opD (by decide) (opv_assign rfl rfl) ?_
 refine RL.nil ?_
 refine thnN ?_
 refine W.seq ?_
 refine W.region ?_
 refine RL.opD (by decide) (opv_fieldAddr rfl Tryz.fo26_0 rfl) ?_
 refine RL.opD (by decide) (opv_loadB rfl Tryz.one2 rfl (Sep.at (o := boxO bb1 [(.int .i64 a0_0), (.int .i64 a0_1), (.bool a0_2), u0_3, u0_4]) S_2 1 rfl) rfl) ?_
 refine RL.opD (by decide) (opv_fieldAddr rfl Tryz.fo26_1 rfl) ?_
 refine RL.opD (by decide) (opv_loadB rfl Tryz.one2 rfl (Sep.at (o := boxO bb1 [(.int .i64 a0_0), (.int .i64 a0_1), (.bool a0_2), u0_3, u0_4]) S_2 1 rfl) rfl) ?_
 refine RL.opD (by decide) (opv_mul rfl rfl rfl) ?_
 refine RL.opD (by decide) (opv_assign rfl rfl) ?_
 refine RL.nil ?_
 refine thnN ?_
 refine W.seq ?_
 refine W.seq ?_
 obtain ⟨x1, hy1, hp⟩ := Option.bind_eq_some_iff.1 hp
 refine W.cut (fun φ' h' => Fr.sub [(0, (.agg (List.toArray (α := Value) [(.int .i64 a0_0), (.int .i64 a0_1), (.bool a0_2), u0_3, u0_4]))), (1, (.agg (List.toArray (α := Value) [u1_0, u1_1, u1_2]))), (2, (.pointer (some ⟨bb1, 0, none⟩))), (3, (.pointer (some ⟨bb2, 0, none⟩))), (4, (.bool false)), (5, (.int .i64 (IntKind.wrap .i64 (a0_0 * a0_1)))), (37, (.bool x1))] φ' ∧ Mod [] h0 h' ∧ Sep [] h0.size h' [boxO bb2 [u1_0, u1_1, u1_2], boxO bb1 [(.int .i64 a0_0), (.int .i64 a0_1), (.bool a0_2), u0_3, u0_4]]) ?_ ?_
 ·refine W.region ?_
  refine RL.opD (by decide) (opv_loadA (us := [(.int .i64 a0_0), (.int .i64 a0_1), (.bool a0_2), u0_3, u0_4]) rfl Tryz.agg26 Tryz.size26 rfl (Sep.at (o := boxO bb1 [(.int .i64 a0_0), (.int .i64 a0_1), (.bool a0_2), u0_3, u0_4]) S_2 1 rfl) rfl rfl) ?_
  obtain ⟨x2, hx2, hy1⟩ := Option.bind_eq_some_iff.1 hy1
  refine RL.op _ (by decide) (opv_call (cap := []) (impl_ValidSheet_ok _ _ _ _ _ _ (SL.up (SL.mod g0_3 X_2 (Nat.le_refl _) nob) (Nat.le_trans (Nat.le_refl _) (Mod.size X_2))) _ _ (SL.up (SL.mod g0_4 X_2 (Nat.le_refl _) nob) (Nat.le_trans (Nat.le_refl _) (Mod.size X_2))) _ hx2) rfl rfl ⟨rfl, trivial⟩ Tryz.func18 rfl rfl) ?_
  rintro _ hp3 ⟨rfl, MT_3, T_3⟩
  obtain ⟨X_3, S_3⟩ := Sep.turn0 X_2 S_2 MT_3 T_3
  refine RL.opD (by decide) (opv_not rfl rfl) ?_
  refine RL.opD (by decide) (opv_move rfl rfl) ?_
  by_cases c1 : (!x2) = true
  ·rw [if_pos c1] at hy1
   refine RL.noT rfl rfl c1 (by decide) ?_
   refine RL.noT rfl rfl c1 (by decide) ?_
   refine RL.noT rfl rfl c1 (by decide) ?_
   refine RL.noT rfl rfl c1 (by decide) ?_
   refine RL.noT rfl rfl c1 (by decide) ?_
   refine RL.opD (by decide) (opv_pick rfl rfl (fun _ => rfl) (fun e => absurd (Eq.trans (Eq.symm e) c1) (by decide)) rfl) ?_
   refine RL.opD (by decide) (opv_move rfl rfl) ?_
   refine RL.noT rfl rfl rfl (by decide) ?_
   refine RL.noT rfl rfl rfl (by decide) ?_
   refine RL.noT rfl rfl rfl (by decide) ?_
   refine RL.noT rfl rfl rfl (by decide) ?_
   refine RL.noT rfl rfl rfl (by decide) ?_
   refine RL.opD (by decide) (opv_pick rfl rfl (fun _ => rfl) (fun e => absurd (Eq.trans (Eq.symm e) rfl) (by decide)) rfl) ?_
   refine RL.opD (by decide) (opv_move rfl rfl) ?_
   refine RL.noT rfl rfl rfl (by decide) ?_
   refine RL.noT rfl rfl rfl (by decide) ?_
   refine RL.noT rfl rfl rfl (by decide) ?_
   refine RL.noT rfl rfl rfl (by decide) ?_
   refine RL.noT rfl rfl rfl (by decide) ?_
   refine RL.opD (by decide) (opv_pick rfl rfl (fun _ => rfl) (fun e => absurd (Eq.trans (Eq.symm e) rfl) (by decide)) rfl) ?_
   refine RL.nil ?_
   have ey1 := Option.some.inj hy1
   subst ey1
   refine onlyN ?_
   exact ⟨⟨rfl, rfl, rfl, rfl, rfl, rfl, rfl, trivial⟩, X_3, (Sep.sel S_3 [0, 1] (by decide))⟩
  ·rw [if_neg c1] at hy1
   have c1 := eq_false_of_ne_true c1
   refine RL.yesD rfl rfl c1 (by decide) (opv_fieldAddr rfl Tryz.fo29_0 rfl) ?_
   refine RL.yesD rfl rfl c1 (by decide) (opv_loadB rfl Tryz.one24 rfl (Sep.at (o := boxO bb2 [u1_0, u1_1, u1_2]) S_3 0 rfl) rfl) ?_
   refine RL.yesD rfl rfl c1 (by decide) (opv_len rfl Tryz.underlying24 rfl (SL.mod g1_0 X_3 (Nat.le_refl _) nob)) ?_
   refine RL.yesD rfl rfl c1 (by decide) (opv_move rfl rfl) ?_
   refine RL.yesD rfl rfl c1 (by decide) (opv_icmp rfl rfl rfl rfl) ?_
   refine RL.opD (by decide) (opv_pick rfl rfl (fun e => absurd (Eq.trans (Eq.symm e) c1) (by decide)) (fun _ => rfl) rfl) ?_
   refine RL.opD (by decide) (opv_move rfl rfl) ?_
   by_cases c2 : ((a1_0.length : Int) != (IntKind.wrap .i64 (a0_0 * a0_1))) = true
   ·rw [if_pos c2] at hy1
    refine RL.noT rfl rfl c2 (by decide) ?_
    refine RL.noT rfl rfl c2 (by decide) ?_
    refine RL.noT rfl rfl c2 (by decide) ?_
    refine RL.noT rfl rfl c2 (by decide) ?_
    refine RL.noT rfl rfl c2 (by decide) ?_
    refine RL.opD (by decide) (opv_pick rfl rfl (fun _ => rfl) (fun e => absurd (Eq.trans (Eq.symm e) c2) (by decide)) rfl) ?_
    refine RL.opD (by decide) (opv_move rfl rfl) ?_
    refine RL.noT rfl rfl rfl (by decide) ?_
    refine RL.noT rfl rfl rfl (by decide) ?_
    refine RL.noT rfl rfl rfl (by decide) ?_
    refine RL.noT rfl rfl rfl (by decide) ?_
    refine RL.noT rfl rfl rfl (by decide) ?_
    refine RL.opD (by decide) (opv_pick rfl rfl (fun _ => rfl) (fun e => absurd (Eq.trans (Eq.symm e) rfl) (by decide)) rfl) ?_
    refine RL.nil ?_
    have ey1 := Option.some.inj hy1
    subst ey1
    refine onlyN ?_
    exact ⟨⟨rfl, rfl, rfl, rfl, rfl, rfl, rfl, trivial⟩, X_3, (Sep.sel S_3 [0, 1] (by decide))⟩
   ·rw [if_neg c2] at hy1
    have c2 := eq_false_of_ne_true c2
    refine RL.yesD rfl rfl c2 (by decide) (opv_fieldAddr rfl Tryz.fo29_1 rfl) ?_
    refine RL.yesD rfl rfl c2 (by decide) (opv_loadB rfl Tryz.one24 rfl (Sep.at (o := boxO bb2 [u1_0, u1_1, u1_2]) S_3 0 rfl) rfl) ?_
    refine RL.yesD rfl rfl c2 (by decide) (opv_len rfl Tryz.underlying24 rfl (SL.mod g1_1 X_3 (Nat.le_refl _) nob)) ?_
    refine RL.yesD rfl rfl c2 (by decide) (opv_move rfl rfl) ?_
    refine RL.yesD rfl rfl c2 (by decide) (opv_icmp rfl rfl rfl rfl) ?_
    refine RL.opD (by decide) (opv_pick rfl rfl (fun e => absurd (Eq.trans (Eq.symm e) c2) (by decide)) (fun _ => rfl) rfl) ?_
    refine RL.opD (by decide) (opv_move rfl rfl) ?_
    by_cases c3 : ((a1_1.length : Int) != (IntKind.wrap .i64 (a0_0 * a0_1))) = true
    ·rw [if_pos c3] at hy1
     refine RL.noT rfl rfl c3 (by decide) ?_
     refine RL.noT rfl rfl c3 (by decide) ?_
     refine RL.noT rfl rfl c3 (by decide) ?_
     refine RL.noT rfl rfl c3 (by decide) ?_
     refine RL.noT rfl rfl c3 (by decide) ?_
     refine RL.opD (by decide) (opv_pick rfl rfl (fun _ => rfl) (fun e => absurd (Eq.trans (Eq.symm e) c3) (by decide)) rfl) ?_
     refine RL.nil ?_
     have ey1 := Option.some.inj hy1
     subst ey1
     refine onlyN ?_
     exact ⟨⟨rfl, rfl, rfl, rfl, rfl, rfl, rfl, trivial⟩, X_3, (Sep.sel S_3 [0, 1] (by decide))⟩
    ·rw [if_neg c3] at hy1
     have c3 := eq_false_of_ne_true c3
     refine RL.yesD rfl rfl c3 (by decide) (opv_fieldAddr rfl Tryz.fo29_2 rfl) ?_
     refine RL.yesD rfl rfl c3 (by decide) (opv_loadB rfl Tryz.one24 rfl (Sep.at (o := boxO bb2 [u1_0, u1_1, u1_2]) S_3 0 rfl) rfl) ?_
     refine RL.yesD rfl rfl c3 (by decide) (opv_len rfl Tryz.underlying24 rfl (SL.mod g1_2 X_3 (Nat.le_refl _) nob)) ?_
     refine RL.yesD rfl rfl c3 (by decide) (opv_move rfl rfl) ?_
     refine RL.yesD rfl rfl c3 (by decide) (opv_icmp rfl rfl rfl rfl) ?_
     refine RL.opD (by decide) (opv_pick rfl rfl (fun e => absurd (Eq.trans (Eq.symm e) c3) (by decide)) (fun _ => rfl) rfl) ?_
     refine RL.nil ?_
     have ey1 := Option.some.inj hy1
     subst ey1
     refine onlyN ?_
     exact ⟨⟨rfl, rfl, rfl, rfl, rfl, rfl, rfl, trivial⟩, X_3, (Sep.sel S_3 [0, 1] (by decide))⟩
 rintro φ' hp4 ⟨hs1, X_4, S_4⟩
 refine thnN ?_
 refine W.sub hs1 ?_
 by_cases c4 : x1 = true
 ·rw [if_pos c4] at hp
  refine W.condT rfl c4 ?_
  refine W.seq ?_
  refine W.region ?_
  refine RL.opD (by decide) (opv_assign rfl rfl) ?_
  refine RL.nil ?_
  refine thnN ?_
  refine W.ret ?_
  refine thnR ?_
  have er := Option.some.inj hp
  subst er
  exact Rt.one rfl rfl ⟨rfl, X_4, (Sep.nil _ _ _)⟩
 ·rw [if_neg c4] at hp
  have c4 := eq_false_of_ne_true c4
  refine W.condF rfl c4 ?_
  refine W.skip ?_
  refine thnN ?_
  refine W.seq ?_
  refine W.seq ?_
  refine W.region ?_
  refine RL.opD (by decide) (opv_fieldAddr rfl Tryz.fo26_2 rfl) ?_
  refine RL.opD (by decide) (opv_loadB rfl Tryz.one4 rfl (Sep.at (o := boxO bb1 [(.int .i64 a0_0), (.int .i64 a0_1), (.bool a0_2), u0_3, u0_4]) S_4 1 rfl) rfl) ?_
  refine RL.nil ?_
  refine thnN ?_
  by_cases c5 : a0_2 = true
  ·rw [if_pos c5] at hp
   refine W.condT rfl c5 ?_
   refine W.seq ?_
   refine W.region ?_
   refine RL.opD (by decide) (opv_assign rfl rfl) ?_
   refine RL.nil ?_
   refine thnN ?_
   refine W.ret ?_
   refine thnR ?_
   have er := Option.some.inj hp
   subst er
   exact Rt.one rfl rfl ⟨rfl, X_4, (Sep.nil _ _ _)⟩
  ·rw [if_neg c5] at hp
   have c5 := eq_false_of_ne_true c5
   refine W.condF rfl c5 ?_
   refine W.skip ?_
   refine thnN ?_
   refine W.seq ?_
   refine W.seq ?_
   refine W.region ?_
   refine RL.opD (by decide) (opv_move rfl rfl) ?_
   refine RL.opD (by decide) (opv_move rfl rfl) ?_
   refine RL.nil ?_
   refine thnN ?_
   obtain ⟨y2, hy2, hp⟩ := Option.bind_eq_some_iff.1 hp
   refine W.cut (fun φ' h' => ∃ x5, ∃ x6, ∃ x7, y2 = .inl (x5, x6, x7) ∧ Fr.sub [(0, (.agg (List.toArray (α := Value) [(.int .i64 a0_0), (.int .i64 a0_1), (.bool a0_2), u0_3, u0_4]))), (1, (.agg (List.toArray (α := Value) [u1_0, u1_1, u1_2]))), (2, (.pointer (some ⟨bb1, 0, none⟩))), (3, (.pointer (some ⟨bb2, 0, none⟩))), (5, (.int .i64 (IntKind.wrap .i64 (a0_0 * a0_1)))), (37, (.bool x1)), (39, (.bool a0_2)), (40, (.int .i64 (IntKind.wrap .i64 (a0_0 * a0_1)))), (4, (.bool x5)), (41, (.int .i64 x6)), (42, (.bool x7))] φ' ∧ Mod [] h0 h' ∧ Sep [] h0.size h' [boxO bb2 [u1_0, u1_1, u1_2], boxO bb1 [(.int .i64 a0_0), (.int .i64 a0_1), (.bool a0_2), u0_3, u0_4]]) ?_ ?_
   ·refine W.block ?_
    refine W.loopS (fun (s : (Bool × Int)) φ' h' => Fr.sub [(0, (.agg (List.toArray (α := Value) [(.int .i64 a0_0), (.int .i64 a0_1), (.bool a0_2), u0_3, u0_4]))), (1, (.agg (List.toArray (α := Value) [u1_0, u1_1, u1_2]))), (2, (.pointer (some ⟨bb1, 0, none⟩))), (3, (.pointer (some ⟨bb2, 0, none⟩))), (5, (.int .i64 (IntKind.wrap .i64 (a0_0 * a0_1)))), (37, (.bool x1)), (39, (.bool a0_2)), (40, (.int .i64 (IntKind.wrap .i64 (a0_0 * a0_1)))), (4, (.bool s.1)), (41, (.int .i64 s.2))] φ' ∧ Mod [] h0 h' ∧ Sep [] h0.size h' [boxO bb2 [u1_0, u1_1, u1_2], boxO bb1 [(.int .i64 a0_0), (.int .i64 a0_1), (.bool a0_2), u0_3, u0_4]]) hy2 ⟨⟨rfl, rfl, rfl, rfl, rfl, rfl, rfl, rfl, rfl, rfl, trivial⟩, X_4, (Sep.sel S_4 [0, 1] (by decide))⟩ ?_
    rintro ⟨x3, x4⟩ φ' hp5 o1 ⟨hs2, X_5, S_5⟩ ho1 hy1
    have hs2 : Fr.sub [(0, (.agg (List.toArray (α := Value) [(.int .i64 a0_0), (.int .i64 a0_1), (.bool a0_2), u0_3, u0_4]))), (1, (.agg (List.toArray (α := Value) [u1_0, u1_1, u1_2]))), (2, (.pointer (some ⟨bb1, 0, none⟩))), (3, (.pointer (some ⟨bb2, 0, none⟩))), (5, (.int .i64 (IntKind.wrap .i64 (a0_0 * a0_1)))), (37, (.bool x1)), (39, (.bool a0_2)), (40, (.int .i64 (IntKind.wrap .i64 (a0_0 * a0_1)))), (4, (.bool x3)), (41, (.int .i64 x4))] φ' := hs2
    have S_5 : Sep [] h0.size hp5 [boxO bb2 [u1_0, u1_1, u1_2], boxO bb1 [(.int .i64 a0_0), (.int .i64 a0_1), (.bool a0_2), u0_3, u0_4]] := S_5
    have ho1 : impl_IsField.s0 a0_0 a0_1 a0_2 a0_3 a0_4 a1_0 a1_1 a1_2 x3 x4 = some o1 := ho1
    unfold impl_IsField.s0 at ho1
    refine W.sub hs2 ?_
    refine W.seq ?_
    refine W.region ?_
    refine RL.opD (by decide) (opv_icmp rfl rfl rfl rfl) ?_
    refine RL.nil ?_
    refine thnN ?_
    refine W.seq ?_
    by_cases c6 : (decide (x4 < (IntKind.wrap .i64 (a0_0 * a0_1)))) = true
    ·rw [if_pos c6] at ho1
     refine W.condT rfl c6 ?_
     refine W.skip ?_
     refine thnN ?_
     refine W.seq ?_
     refine W.block ?_
     refine W.seq ?_
     refine W.region ?_
     refine RL.opD (by decide) (opv_move rfl rfl) ?_
     refine RL.opD (by decide) (opv_assign rfl rfl) ?_
     refine RL.nil ?_
     refine thnN ?_
     refine W.seq ?_
     refine W.regionH 10 rfl Tryz.mixed ?_
     refine HK.d 0 rfl rfl rfl (by decide) (by decide +kernel) (fun _ _ _ h => h) (opx_move rfl rfl) ?_
     refine HK.d 1 rfl rfl rfl (by decide) (by decide +kernel) (fun _ _ _ h => h) (opx_fieldAddr rfl Tryz.fo26_0 rfl) ?_
     refine HK.d 2 rfl rfl rfl (by decide) (by decide +kernel) (fun _ _ _ h => h) (opx_loadB rfl Tryz.one2 rfl (Sep.at (o := boxO bb1 [(.int .i64 a0_0), (.int .i64 a0_1), (.bool a0_2), u0_3, u0_4]) S_5 1 rfl) rfl) ?_
     by_cases nc7 : a0_0 = 0
     ·rw [if_pos nc7] at ho1; cases ho1
     rw [if_neg nc7] at ho1
     have c7 : a0_0 ≠ 0 := nc7
     refine HK.d 3 rfl rfl rfl (by decide) (by decide +kernel) (fun _ _ _ h => h) (opx_rem rfl c7 rfl rfl) ?_
     refine HK.d 4 rfl rfl rfl (by decide) (by decide +kernel) (fun _ _ _ h => h) (opx_move rfl rfl) ?_
     refine HK.d 5 rfl rfl rfl (by decide) (by decide +kernel) (fun _ _ _ h => h) (opx_fieldAddr rfl Tryz.fo26_0 rfl) ?_
     refine HK.d 6 rfl rfl rfl (by decide) (by decide +kernel) (fun _ _ _ h => h) (opx_loadB rfl Tryz.one2 rfl (Sep.at (o := boxO bb1 [(.int .i64 a0_0), (.int .i64 a0_1), (.bool a0_2), u0_3, u0_4]) S_5 1 rfl) rfl) ?_
     by_cases nc8 : a0_0 = 0
     ·rw [if_pos nc8] at ho1; cases ho1
     rw [if_neg nc8] at ho1
     have c8 : a0_0 ≠ 0 := nc8
     refine HK.d 7 rfl rfl rfl (by decide) (by decide +kernel) (fun _ _ _ h => h) (opx_quo rfl c8 rfl rfl) ?_
     refine HK.d 8 rfl rfl rfl (by decide) (by decide +kernel) (fun _ _ _ h => h) (opx_assign rfl rfl) ?_
     refine HK.d 9 rfl rfl rfl (by decide) (by decide +kernel) (fun _ _ _ h => h) (opx_assign rfl rfl) ?_
     refine HK.done (by decide +kernel) ?_
     refine thnN ?_
     refine W.seq ?_
     obtain ⟨x8, hy3, ho1⟩ := Option.bind_eq_some_iff.1 ho1
     refine W.cut (fun φ' h' => Fr.sub [(0, (.agg (List.toArray (α := Value) [(.int .i64 a0_0), (.int .i64 a0_1), (.bool a0_2), u0_3, u0_4]))), (1, (.agg (List.toArray (α := Value) [u1_0, u1_1, u1_2]))), (2, (.pointer (some ⟨bb1, 0, none⟩))), (3, (.pointer (some ⟨bb2, 0, none⟩))), (5, (.int .i64 (IntKind.wrap .i64 (a0_0 * a0_1)))), (37, (.bool x1)), (39, (.bool a0_2)), (40, (.int .i64 (IntKind.wrap .i64 (a0_0 * a0_1)))), (4, (.bool x3)), (41, (.int .i64 x4)), (42, (.bool (decide (x4 < (IntKind.wrap .i64 (a0_0 * a0_1)))))), (6, (.int .i64 x4)), (7, (.int .i64 (Int.tmod x4 a0_0))), (8, (.int .i64 (IntKind.wrap .i64 (Int.tdiv x4 a0_0)))), (93, (.bool x8))] φ' ∧ Mod [] h0 h' ∧ Sep [] h0.size h' [boxO bb2 [u1_0, u1_1, u1_2], boxO bb1 [(.int .i64 a0_0), (.int .i64 a0_1), (.bool a0_2), u0_3, u0_4]]) ?_ ?_
     ·refine W.region ?_
      refine RL.opD (by decide) (opv_loadA (us := [(.int .i64 a0_0), (.int .i64 a0_1), (.bool a0_2), u0_3, u0_4]) rfl Tryz.agg26 Tryz.size26 rfl (Sep.at (o := boxO bb1 [(.int .i64 a0_0), (.int .i64 a0_1), (.bool a0_2), u0_3, u0_4]) S_5 1 rfl) rfl rfl) ?_
      refine RL.opD (by decide) (opv_move rfl rfl) ?_
      refine RL.opD (by decide) (opv_move rfl rfl) ?_
      obtain ⟨x9, hx9, hy3⟩ := Option.bind_eq_some_iff.1 hy3
      refine RL.op _ (by decide) (opv_call (cap := []) (impl_Sheet_isBorder_ok _ _ _ _ _ _ (SL.up (SL.mod g0_3 X_5 (Nat.le_refl _) nob) (Nat.le_trans (Nat.le_refl _) (Mod.size X_5))) _ _ (SL.up (SL.mod g0_4 X_5 (Nat.le_refl _) nob) (Nat.le_trans (Nat.le_refl _) (Mod.size X_5))) _ _ _ hx9) rfl rfl ⟨rfl, rfl, rfl, trivial⟩ Tryz.func48 rfl rfl) ?_
      rintro _ hp6 ⟨rfl, MT_4, T_4⟩
      obtain ⟨X_6, S_6⟩ := Sep.turn0 X_5 S_5 MT_4 T_4
      refine RL.opD (by decide) (opv_move rfl rfl) ?_
      by_cases c9 : x9 = true
      ·rw [if_pos c9] at hy3
       refine RL.yesD rfl rfl c9 (by decide) (opv_fieldAddr rfl Tryz.fo29_0 rfl) ?_
       refine RL.yesD rfl rfl c9 (by decide) (opv_loadB rfl Tryz.one24 rfl (Sep.at (o := boxO bb2 [u1_0, u1_1, u1_2]) S_6 0 rfl) rfl) ?_
       refine RL.yesD rfl rfl c9 (by decide) (opv_move rfl rfl) ?_
       obtain ⟨x10, hx10, hy3⟩ := Option.bind_eq_some_iff.1 hy3
       refine RL.yes _ rfl rfl c9 (by decide) (opv_index rfl Tryz.underlying24 (by rw [Tryz.size66]; rfl) rfl rfl (SL.mod g1_0 X_6 (Nat.le_refl _) nob) hx10) ?_
       rintro v1 _ ⟨fv1, rfl⟩
       refine RL.yes _ rfl rfl c9 (by decide) (opv_loadF rfl Tryz.one66 rfl fv1 (SL.mod g1_0 X_6 (Nat.le_refl _) nob) hx10) ?_
       rintro v2 _ ⟨fv2, rfl⟩
       refine RL.yesD rfl rfl c9 (by decide) (opv_fcmp rfl rfl rfl rfl fv2 (isF_lit .f32 0 (by decide) (by decide))) ?_
       refine RL.opD (by decide) (opv_pick rfl rfl (fun _ => rfl) (fun e => absurd (Eq.trans (Eq.symm e) c9) (by decide)) rfl) ?_
       refine RL.opD (by decide) (opv_move rfl rfl) ?_
       by_cases c10 : (fcmp .neq .f32 x10 (some 0)) = true
       ·rw [if_pos c10] at hy3
        refine RL.noT rfl rfl c10 (by decide) ?_
        refine RL.noT rfl rfl c10 (by decide) ?_
        refine RL.noT rfl rfl c10 (by decide) ?_
        refine RL.noT rfl rfl c10 (by decide) ?_
        refine RL.noT rfl rfl c10 (by decide) ?_
        refine RL.noT rfl rfl c10 (by decide) ?_
        refine RL.noU rfl rfl (by decide) ?_
        refine RL.noU rfl rfl (by decide) ?_
        refine RL.noU rfl rfl (by decide) ?_
        refine RL.noU rfl rfl (by decide) ?_
        refine RL.noU rfl rfl (by decide) ?_
        refine RL.noU rfl rfl (by decide) ?_
        refine RL.noT rfl rfl c10 (by decide) ?_
        refine RL.opD (by decide) (opv_pick rfl rfl (fun _ => rfl) (fun e => absurd (Eq.trans (Eq.symm e) c10) (by decide)) rfl) ?_
        refine RL.opD (by decide) (opv_move rfl rfl) ?_
        refine RL.noT rfl rfl rfl (by decide) ?_
        refine RL.noT rfl rfl rfl (by decide) ?_
        refine RL.noT rfl rfl rfl (by decide) ?_
        refine RL.noT rfl rfl rfl (by decide) ?_
        refine RL.noT rfl rfl rfl (by decide) ?_
        refine RL.noT rfl rfl rfl (by decide) ?_
        refine RL.noU rfl rfl (by decide) ?_
        refine RL.noU rfl rfl (by decide) ?_
        refine RL.noU rfl rfl (by decide) ?_
        refine RL.noU rfl rfl (by decide) ?_
        refine RL.noU rfl rfl (by decide) ?_
        refine RL.noU rfl rfl (by decide) ?_
        refine RL.noT rfl rfl rfl (by decide) ?_
        refine RL.opD (by decide) (opv_pick rfl rfl (fun _ => rfl) (fun e => absurd (Eq.trans (Eq.symm e) rfl) (by decide)) rfl) ?_
        refine RL.nil ?_
        have ey3 := Option.some.inj hy3
        subst ey3
        refine onlyN ?_
        exact ⟨⟨rfl, rfl, rfl, rfl, rfl, rfl, rfl, rfl, rfl, rfl, rfl, rfl, rfl, rfl, rfl, trivial⟩, X_6, (Sep.sel S_6 [0, 1] (by decide))⟩
       ·rw [if_neg c10] at hy3
        have c10 := eq_false_of_ne_true c10
        refine RL.yesD rfl rfl c10 (by decide) (opv_move rfl rfl) ?_
        refine RL.yesD rfl rfl c10 (by decide) (opv_fieldAddr rfl Tryz.fo26_1 rfl) ?_
        refine RL.yesD rfl rfl c10 (by decide) (opv_loadB rfl Tryz.one2 rfl (Sep.at (o := boxO bb1 [(.int .i64 a0_0), (.int .i64 a0_1), (.bool a0_2), u0_3, u0_4]) S_6 1 rfl) rfl) ?_
        refine RL.yesD rfl rfl c10 (by decide) (opv_sub rfl rfl rfl) ?_
        refine RL.yesD rfl rfl c10 (by decide) (opv_icmp rfl rfl rfl rfl) ?_
        refine RL.yesD rfl rfl c10 (by decide) (opv_move rfl rfl) ?_
        by_cases c11 : ((IntKind.wrap .i64 (Int.tdiv x4 a0_0)) == (IntKind.wrap .i64 (a0_1 - 1))) = true
        ·rw [if_pos c11] at hy3
         refine RL.yesD rfl rfl c11 (by decide) (opv_fieldAddr rfl Tryz.fo29_1 rfl) ?_
         refine RL.yesD rfl rfl c11 (by decide) (opv_loadB rfl Tryz.one24 rfl (Sep.at (o := boxO bb2 [u1_0, u1_1, u1_2]) S_6 0 rfl) rfl) ?_
         refine RL.yesD rfl rfl c11 (by decide) (opv_move rfl rfl) ?_
         obtain ⟨x11, hx11, hy3⟩ := Option.bind_eq_some_iff.1 hy3
         refine RL.yes _ rfl rfl c11 (by decide) (opv_index rfl Tryz.underlying24 (by rw [Tryz.size66]; rfl) rfl rfl (SL.mod g1_1 X_6 (Nat.le_refl _) nob) hx11) ?_
         rintro v3 _ ⟨fv3, rfl⟩
         refine RL.yes _ rfl rfl c11 (by decide) (opv_loadF rfl Tryz.one66 rfl fv3 (SL.mod g1_1 X_6 (Nat.le_refl _) nob) hx11) ?_
         rintro v4 _ ⟨fv4, rfl⟩
         refine RL.yesD rfl rfl c11 (by decide) (opv_fcmp rfl rfl rfl rfl fv4 (isF_lit .f32 0 (by decide) (by decide))) ?_
         refine RL.yesD rfl rfl c10 (by decide) (opv_pick rfl rfl (fun _ => rfl) (fun e => absurd (Eq.trans (Eq.symm e) c11) (by decide)) rfl) ?_
         refine RL.opD (by decide) (opv_pick rfl rfl (fun e => absurd (Eq.trans (Eq.symm e) c10) (by decide)) (fun _ => rfl) rfl) ?_
         refine RL.opD (by decide) (opv_move rfl rfl) ?_
         by_cases c12 : (fcmp .neq .f32 x11 (some 0)) = true
         ·rw [if_pos c12] at hy3
          refine RL.noT rfl rfl c12 (by decide) ?_
          refine RL.noT rfl rfl c12 (by decide) ?_
          refine RL.noT rfl rfl c12 (by decide) ?_
          refine RL.noT rfl rfl c12 (by decide) ?_
          refine RL.noT rfl rfl c12 (by decide) ?_
          refine RL.noT rfl rfl c12 (by decide) ?_
          refine RL.noU rfl rfl (by decide) ?_
          refine RL.noU rfl rfl (by decide) ?_
          refine RL.noU rfl rfl (by decide) ?_
          refine RL.noU rfl rfl (by decide) ?_
          refine RL.noU rfl rfl (by decide) ?_
          refine RL.noU rfl rfl (by decide) ?_
          refine RL.noT rfl rfl c12 (by decide) ?_
          refine RL.opD (by decide) (opv_pick rfl rfl (fun _ => rfl) (fun e => absurd (Eq.trans (Eq.symm e) c12) (by decide)) rfl) ?_
          refine RL.nil ?_
          have ey3 := Option.some.inj hy3
          subst ey3
          refine onlyN ?_
          exact ⟨⟨rfl, rfl, rfl, rfl, rfl, rfl, rfl, rfl, rfl, rfl, rfl, rfl, rfl, rfl, rfl, trivial⟩, X_6, (Sep.sel S_6 [0, 1] (by decide))⟩
         ·rw [if_neg c12] at hy3
          have c12 := eq_false_of_ne_true c12
          refine RL.yesD rfl rfl c12 (by decide) (opv_move rfl rfl) ?_
          refine RL.yesD rfl rfl c12 (by decide) (opv_fieldAddr rfl Tryz.fo26_0 rfl) ?_
          refine RL.yesD rfl rfl c12 (by decide) (opv_loadB rfl Tryz.one2 rfl (Sep.at (o := boxO bb1 [(.int .i64 a0_0), (.int .i64 a0_1), (.bool a0_2), u0_3, u0_4]) S_6 1 rfl) rfl) ?_
          refine RL.yesD rfl rfl c12 (by decide) (opv_sub rfl rfl rfl) ?_
          refine RL.yesD rfl rfl c12 (by decide) (opv_icmp rfl rfl rfl rfl) ?_
          refine RL.yesD rfl rfl c12 (by decide) (opv_move rfl rfl) ?_
          by_cases c13 : ((Int.tmod x4 a0_0) == (IntKind.wrap .i64 (a0_0 - 1))) = true
          ·rw [if_pos c13] at hy3
           refine RL.yesD rfl rfl c13 (by decide) (opv_fieldAddr rfl Tryz.fo29_2 rfl) ?_
           refine RL.yesD rfl rfl c13 (by decide) (opv_loadB rfl Tryz.one24 rfl (Sep.at (o := boxO bb2 [u1_0, u1_1, u1_2]) S_6 0 rfl) rfl) ?_
           refine RL.yesD rfl rfl c13 (by decide) (opv_move rfl rfl) ?_
           obtain ⟨x12, hx12, hy3⟩ := Option.bind_eq_some_iff.1 hy3
           refine RL.yes _ rfl rfl c13 (by decide) (opv_index rfl Tryz.underlying24 (by rw [Tryz.size66]; rfl) rfl rfl (SL.mod g1_2 X_6 (Nat.le_refl _) nob) hx12) ?_
           rintro v5 _ ⟨fv5, rfl⟩
           refine RL.yes _ rfl rfl c13 (by decide) (opv_loadF rfl Tryz.one66 rfl fv5 (SL.mod g1_2 X_6 (Nat.le_refl _) nob) hx12) ?_
           rintro v6 _ ⟨fv6, rfl⟩
           refine RL.yesD rfl rfl c13 (by decide) (opv_fcmp rfl rfl rfl rfl fv6 (isF_lit .f32 0 (by decide) (by decide))) ?_
           refine RL.yesD rfl rfl c12 (by decide) (opv_pick rfl rfl (fun _ => rfl) (fun e => absurd (Eq.trans (Eq.symm e) c13) (by decide)) rfl) ?_
           refine RL.opD (by decide) (opv_pick rfl rfl (fun e => absurd (Eq.trans (Eq.symm e) c12) (by decide)) (fun _ => rfl) rfl) ?_
           refine RL.nil ?_
           have ey3 := Option.some.inj hy3
           subst ey3
           refine onlyN ?_
           exact ⟨⟨rfl, rfl, rfl, rfl, rfl, rfl, rfl, rfl, rfl, rfl, rfl, rfl, rfl, rfl, rfl, trivial⟩, X_6, (Sep.sel S_6 [0, 1] (by decide))⟩
          ·rw [if_neg c13] at hy3
           have c13 := eq_false_of_ne_true c13
           refine RL.noF rfl rfl c13 (by decide) ?_
           refine RL.noF rfl rfl c13 (by decide) ?_
           refine RL.noF rfl rfl c13 (by decide) ?_
           refine RL.noF rfl rfl c13 (by decide) ?_
           refine RL.noF rfl rfl c13 (by decide) ?_
           refine RL.noF rfl rfl c13 (by decide) ?_
           refine RL.yesD rfl rfl c12 (by decide) (opv_pick rfl rfl (fun e => absurd (Eq.trans (Eq.symm e) c13) (by decide)) (fun _ => rfl) rfl) ?_
           refine RL.opD (by decide) (opv_pick rfl rfl (fun e => absurd (Eq.trans (Eq.symm e) c12) (by decide)) (fun _ => rfl) rfl) ?_
           refine RL.nil ?_
           have ey3 := Option.some.inj hy3
           subst ey3
           refine onlyN ?_
           exact ⟨⟨rfl, rfl, rfl, rfl, rfl, rfl, rfl, rfl, rfl, rfl, rfl, rfl, rfl, rfl, rfl, trivial⟩, X_6, (Sep.sel S_6 [0, 1] (by decide))⟩
        ·rw [if_neg c11] at hy3
         have c11 := eq_false_of_ne_true c11
         refine RL.noF rfl rfl c11 (by decide) ?_
         refine RL.noF rfl rfl c11 (by decide) ?_
         refine RL.noF rfl rfl c11 (by decide) ?_
         refine RL.noF rfl rfl c11 (by decide) ?_
         refine RL.noF rfl rfl c11 (by decide) ?_
         refine RL.noF rfl rfl c11 (by decide) ?_
         refine RL.yesD rfl rfl c10 (by decide) (opv_pick rfl rfl (fun e => absurd (Eq.trans (Eq.symm e) c11) (by decide)) (fun _ => rfl) rfl) ?_
         refine RL.opD (by decide) (opv_pick rfl rfl (fun e => absurd (Eq.trans (Eq.symm e) c10) (by decide)) (fun _ => rfl) rfl) ?_
         refine RL.opD (by decide) (opv_move rfl rfl) ?_
         refine RL.yesD rfl rfl rfl (by decide) (opv_move rfl rfl) ?_
         refine RL.yesD rfl rfl rfl (by decide) (opv_fieldAddr rfl Tryz.fo26_0 rfl) ?_
         refine RL.yesD rfl rfl rfl (by decide) (opv_loadB rfl Tryz.one2 rfl (Sep.at (o := boxO bb1 [(.int .i64 a0_0), (.int .i64 a0_1), (.bool a0_2), u0_3, u0_4]) S_6 1 rfl) rfl) ?_
         refine RL.yesD rfl rfl rfl (by decide) (opv_sub rfl rfl rfl) ?_
         refine RL.yesD rfl rfl rfl (by decide) (opv_icmp rfl rfl rfl rfl) ?_
         refine RL.yesD rfl rfl rfl (by decide) (opv_move rfl rfl) ?_
         by_cases c14 : ((Int.tmod x4 a0_0) == (IntKind.wrap .i64 (a0_0 - 1))) = true
         ·rw [if_pos c14] at hy3
          refine RL.yesD rfl rfl c14 (by decide) (opv_fieldAddr rfl Tryz.fo29_2 rfl) ?_
          refine RL.yesD rfl rfl c14 (by decide) (opv_loadB rfl Tryz.one24 rfl (Sep.at (o := boxO bb2 [u1_0, u1_1, u1_2]) S_6 0 rfl) rfl) ?_
          refine RL.yesD rfl rfl c14 (by decide) (opv_move rfl rfl) ?_
          obtain ⟨x13, hx13, hy3⟩ := Option.bind_eq_some_iff.1 hy3
          refine RL.yes _ rfl rfl c14 (by decide) (opv_index rfl Tryz.underlying24 (by rw [Tryz.size66]; rfl) rfl rfl (SL.mod g1_2 X_6 (Nat.le_refl _) nob) hx13) ?_
          rintro v7 _ ⟨fv7, rfl⟩
          refine RL.yes _ rfl rfl c14 (by decide) (opv_loadF rfl Tryz.one66 rfl fv7 (SL.mod g1_2 X_6 (Nat.le_refl _) nob) hx13) ?_
          rintro v8 _ ⟨fv8, rfl⟩
          refine RL.yesD rfl rfl c14 (by decide) (opv_fcmp rfl rfl rfl rfl fv8 (isF_lit .f32 0 (by decide) (by decide))) ?_
          refine RL.yesD rfl rfl rfl (by decide) (opv_pick rfl rfl (fun _ => rfl) (fun e => absurd (Eq.trans (Eq.symm e) c14) (by decide)) rfl) ?_
          refine RL.opD (by decide) (opv_pick rfl rfl (fun e => absurd (Eq.trans (Eq.symm e) rfl) (by decide)) (fun _ => rfl) rfl) ?_
          refine RL.nil ?_
          have ey3 := Option.some.inj hy3
          subst ey3
          refine onlyN ?_
          exact ⟨⟨rfl, rfl, rfl, rfl, rfl, rfl, rfl, rfl, rfl, rfl, rfl, rfl, rfl, rfl, rfl, trivial⟩, X_6, (Sep.sel S_6 [0, 1] (by decide))⟩
         ·rw [if_neg c14] at hy3
          have c14 := eq_false_of_ne_true c14
          refine RL.noF rfl rfl c14 (by decide) ?_
          refine RL.noF rfl rfl c14 (by decide) ?_
          refine RL.noF rfl rfl c14 (by decide) ?_
          refine RL.noF rfl rfl c14 (by decide) ?_
          refine RL.noF rfl rfl c14 (by decide) ?_
          refine RL.noF rfl rfl c14 (by decide) ?_
          refine RL.yesD rfl rfl rfl (by decide) (opv_pick rfl rfl (fun e => absurd (Eq.trans (Eq.symm e) c14) (by decide)) (fun _ => rfl) rfl) ?_
          refine RL.opD (by decide) (opv_pick rfl rfl (fun e => absurd (Eq.trans (Eq.symm e) rfl) (by decide)) (fun _ => rfl) rfl) ?_
          refine RL.nil ?_
          have ey3 := Option.some.inj hy3
          subst ey3
          refine onlyN ?_
          exact ⟨⟨rfl, rfl, rfl, rfl, rfl, rfl, rfl, rfl, rfl, rfl, rfl, rfl, rfl, rfl, rfl, trivial⟩, X_6, (Sep.sel S_6 [0, 1] (by decide))⟩
      ·rw [if_neg c9] at hy3
       have c9 := eq_false_of_ne_true c9
       refine RL.noF rfl rfl c9 (by decide) ?_
       refine RL.noF rfl rfl c9 (by decide) ?_
       refine RL.noF rfl rfl c9 (by decide) ?_
       refine RL.noF rfl rfl c9 (by decide) ?_
       refine RL.noF rfl rfl c9 (by decide) ?_
       refine RL.noF rfl rfl c9 (by decide) ?_
       refine RL.opD (by decide) (opv_pick rfl rfl (fun e => absurd (Eq.trans (Eq.symm e) c9) (by decide)) (fun _ => rfl) rfl) ?_
       refine RL.opD (by decide) (opv_move rfl rfl) ?_
       refine RL.yesD rfl rfl rfl (by decide) (opv_move rfl rfl) ?_
       refine RL.yesD rfl rfl rfl (by decide) (opv_fieldAddr rfl Tryz.fo26_1 rfl) ?_
       refine RL.yesD rfl rfl rfl (by decide) (opv_loadB rfl Tryz.one2 rfl (Sep.at (o := boxO bb1 [(.int .i64 a0_0), (.int .i64 a0_1), (.bool a0_2), u0_3, u0_4]) S_6 1 rfl) rfl) ?_
       refine RL.yesD rfl rfl rfl (by decide) (opv_sub rfl rfl rfl) ?_
       refine RL.yesD rfl rfl rfl (by decide) (opv_icmp rfl rfl rfl rfl) ?_
       refine RL.yesD rfl rfl rfl (by decide) (opv_move rfl rfl) ?_
       by_cases c15 : ((IntKind.wrap .i64 (Int.tdiv x4 a0_0)) == (IntKind.wrap .i64 (a0_1 - 1))) = true
       ·rw [if_pos c15] at hy3
        refine RL.yesD rfl rfl c15 (by decide) (opv_fieldAddr rfl Tryz.fo29_1 rfl) ?_
        refine RL.yesD rfl rfl c15 (by decide) (opv_loadB rfl Tryz.one24 rfl (Sep.at (o := boxO bb2 [u1_0, u1_1, u1_2]) S_6 0 rfl) rfl) ?_
        refine RL.yesD rfl rfl c15 (by decide) (opv_move rfl rfl) ?_
        obtain ⟨x14, hx14, hy3⟩ := Option.bind_eq_some_iff.1 hy3
        refine RL.yes _ rfl rfl c15 (by decide) (opv_index rfl Tryz.underlying24 (by rw [Tryz.size66]; rfl) rfl rfl (SL.mod g1_1 X_6 (Nat.le_refl _) nob) hx14) ?_
        rintro v9 _ ⟨fv9, rfl⟩
        refine RL.yes _ rfl rfl c15 (by decide) (opv_loadF rfl Tryz.one66 rfl fv9 (SL.mod g1_1 X_6 (Nat.le_refl _) nob) hx14) ?_
        rintro v10 _ ⟨fv10, rfl⟩
        refine RL.yesD rfl rfl c15 (by decide) (opv_fcmp rfl rfl rfl rfl fv10 (isF_lit .f32 0 (by decide) (by decide))) ?_
        refine RL.yesD rfl rfl rfl (by decide) (opv_pick rfl rfl (fun _ => rfl) (fun e => absurd (Eq.trans (Eq.symm e) c15) (by decide)) rfl) ?_
        refine RL.opD (by decide) (opv_pick rfl rfl (fun e => absurd (Eq.trans (Eq.symm e) rfl) (by decide)) (fun _ => rfl) rfl) ?_
        refine RL.opD (by decide) (opv_move rfl rfl) ?_
        by_cases c16 : (fcmp .neq .f32 x14 (some 0)) = true
        ·rw [if_pos c16] at hy3
         refine RL.noT rfl rfl c16 (by decide) ?_
         refine RL.noT rfl rfl c16 (by decide) ?_
         refine RL.noT rfl rfl c16 (by decide) ?_
         refine RL.noT rfl rfl c16 (by decide) ?_
         refine RL.noT rfl rfl c16 (by decide) ?_
         refine RL.noT rfl rfl c16 (by decide) ?_
         refine RL.noU rfl rfl (by decide) ?_
         refine RL.noU rfl rfl (by decide) ?_
         refine RL.noU rfl rfl (by decide) ?_
         refine RL.noU rfl rfl (by decide) ?_
         refine RL.noU rfl rfl (by decide) ?_
         refine RL.noU rfl rfl (by decide) ?_
         refine RL.noT rfl rfl c16 (by decide) ?_
         refine RL.opD (by decide) (opv_pick rfl rfl (fun _ => rfl) (fun e => absurd (Eq.trans (Eq.symm e) c16) (by decide)) rfl) ?_
         refine RL.nil ?_
         have ey3 := Option.some.inj hy3
         subst ey3
         refine onlyN ?_
         exact ⟨⟨rfl, rfl, rfl, rfl, rfl, rfl, rfl, rfl, rfl, rfl, rfl, rfl, rfl, rfl, rfl, trivial⟩, X_6, (Sep.sel S_6 [0, 1] (by decide))⟩
        ·rw [if_neg c16] at hy3
         have c16 := eq_false_of_ne_true c16
         refine RL.yesD rfl rfl c16 (by decide) (opv_move rfl rfl) ?_
         refine RL.yesD rfl rfl c16 (by decide) (opv_fieldAddr rfl Tryz.fo26_0 rfl) ?_
         refine RL.yesD rfl rfl c16 (by decide) (opv_loadB rfl Tryz.one2 rfl (Sep.at (o := boxO bb1 [(.int .i64 a0_0), (.int .i64 a0_1), (.bool a0_2), u0_3, u0_4]) S_6 1 rfl) rfl) ?_
         refine RL.yesD rfl rfl c16 (by decide) (opv_sub rfl rfl rfl) ?_
         refine RL.yesD rfl rfl c16 (by decide) (opv_icmp rfl rfl rfl rfl) ?_
         refine RL.yesD rfl rfl c16 (by decide) (opv_move rfl rfl) ?_
         by_cases c17 : ((Int.tmod x4 a0_0) == (IntKind.wrap .i64 (a0_0 - 1))) = true
         ·rw [if_pos c17] at hy3
          refine RL.yesD rfl rfl c17 (by decide) (opv_fieldAddr rfl Tryz.fo29_2 rfl) ?_
          refine RL.yesD rfl rfl c17 (by decide) (opv_loadB rfl Tryz.one24 rfl (Sep.at (o := boxO bb2 [u1_0, u1_1, u1_2]) S_6 0 rfl) rfl) ?_
          refine RL.yesD rfl rfl c17 (by decide) (opv_move rfl rfl) ?_
          obtain ⟨x15, hx15, hy3⟩ := Option.bind_eq_some_iff.1 hy3
          refine RL.yes _ rfl rfl c17 (by decide) (opv_index rfl Tryz.underlying24 (by rw [Tryz.size66]; rfl) rfl rfl (SL.mod g1_2 X_6 (Nat.le_refl _) nob) hx15) ?_
          rintro v11 _ ⟨fv11, rfl⟩
          refine RL.yes _ rfl rfl c17 (by decide) (opv_loadF rfl Tryz.one66 rfl fv11 (SL.mod g1_2 X_6 (Nat.le_refl _) nob) hx15) ?_
          rintro v12 _ ⟨fv12, rfl⟩
          refine RL.yesD rfl rfl c17 (by decide) (opv_fcmp rfl rfl rfl rfl fv12 (isF_lit .f32 0 (by decide) (by decide))) ?_
          refine RL.yesD rfl rfl c16 (by decide) (opv_pick rfl rfl (fun _ => rfl) (fun e => absurd (Eq.trans (Eq.symm e) c17) (by decide)) rfl) ?_
          refine RL.opD (by decide) (opv_pick rfl rfl (fun e => absurd (Eq.trans (Eq.symm e) c16) (by decide)) (fun _ => rfl) rfl) ?_
          refine RL.nil ?_
          have ey3 := Option.some.inj hy3
          subst ey3
          refine onlyN ?_
          exact ⟨⟨rfl, rfl, rfl, rfl, rfl, rfl, rfl, rfl, rfl, rfl, rfl, rfl, rfl, rfl, rfl, trivial⟩, X_6, (Sep.sel S_6 [0, 1] (by decide))⟩
         ·rw [if_neg c17] at hy3
          have c17 := eq_false_of_ne_true c17
          refine RL.noF rfl rfl c17 (by decide) ?_
          refine RL.noF rfl rfl c17 (by decide) ?_
          refine RL.noF rfl rfl c17 (by decide) ?_
          refine RL.noF rfl rfl c17 (by decide) ?_
          refine RL.noF rfl rfl c17 (by decide) ?_
          refine RL.noF rfl rfl c17 (by decide) ?_
          refine RL.yesD rfl rfl c16 (by decide) (opv_pick rfl rfl (fun e => absurd (Eq.trans (Eq.symm e) c17) (by decide)) (fun _ => rfl) rfl) ?_
          refine RL.opD (by decide) (opv_pick rfl rfl (fun e => absurd (Eq.trans (Eq.symm e) c16) (by decide)) (fun _ => rfl) rfl) ?_
          refine RL.nil ?_
          have ey3 := Option.some.inj hy3
          subst ey3
          refine onlyN ?_
          exact ⟨⟨rfl, rfl, rfl, rfl, rfl, rfl, rfl, rfl, rfl, rfl, rfl, rfl, rfl, rfl, rfl, trivial⟩, X_6, (Sep.sel S_6 [0, 1] (by decide))⟩
       ·rw [if_neg c15] at hy3
        have c15 := eq_false_of_ne_true c15
        refine RL.noF rfl rfl c15 (by decide) ?_
        refine RL.noF rfl rfl c15 (by decide) ?_
        refine RL.noF rfl rfl c15 (by decide) ?_
        refine RL.noF rfl rfl c15 (by decide) ?_
        refine RL.noF rfl rfl c15 (by decide) ?_
        refine RL.noF rfl rfl c15 (by decide) ?_
        refine RL.yesD rfl rfl rfl (by decide) (opv_pick rfl rfl (fun e => absurd (Eq.trans (Eq.symm e) c15) (by decide)) (fun _ => rfl) rfl) ?_
        refine RL.opD (by decide) (opv_pick rfl rfl (fun e => absurd (Eq.trans (Eq.symm e) rfl) (by decide)) (fun _ => rfl) rfl) ?_
        refine RL.opD (by decide) (opv_move rfl rfl) ?_
        refine RL.yesD rfl rfl rfl (by decide) (opv_move rfl rfl) ?_
        refine RL.yesD rfl rfl rfl (by decide) (opv_fieldAddr rfl Tryz.fo26_0 rfl) ?_
        refine RL.yesD rfl rfl rfl (by decide) (opv_loadB rfl Tryz.one2 rfl (Sep.at (o := boxO bb1 [(.int .i64 a0_0), (.int .i64 a0_1), (.bool a0_2), u0_3, u0_4]) S_6 1 rfl) rfl) ?_
        refine RL.yesD rfl rfl rfl (by decide) (opv_sub rfl rfl rfl) ?_
        refine RL.yesD rfl rfl rfl (by decide) (opv_icmp rfl rfl rfl rfl) ?_
        refine RL.yesD rfl rfl rfl (by decide) (opv_move rfl rfl) ?_
        by_cases c18 : ((Int.tmod x4 a0_0) == (IntKind.wrap .i64 (a0_0 - 1))) = true
        ·rw [if_pos c18] at hy3
         refine RL.yesD rfl rfl c18 (by decide) (opv_fieldAddr rfl Tryz.fo29_2 rfl) ?_
         refine RL.yesD rfl rfl c18 (by decide) (opv_loadB rfl Tryz.one24 rfl (Sep.at (o := boxO bb2 [u1_0, u1_1, u1_2]) S_6 0 rfl) rfl) ?_
         refine RL.yesD rfl rfl c18 (by decide) (opv_move rfl rfl) ?_
         obtain ⟨x16, hx16, hy3⟩ := Option.bind_eq_some_iff.1 hy3
         refine RL.yes _ rfl rfl c18 (by decide) (opv_index rfl Tryz.underlying24 (by rw [Tryz.size66]; rfl) rfl rfl (SL.mod g1_2 X_6 (Nat.le_refl _) nob) hx16) ?_
         rintro v13 _ ⟨fv13, rfl⟩
         refine RL.yes _ rfl rfl c18 (by decide) (opv_loadF rfl Tryz.one66 rfl fv13 (SL.mod g1_2 X_6 (Nat.le_refl _) nob) hx16) ?_
         rintro v14 _ ⟨fv14, rfl⟩
         refine RL.yesD rfl rfl c18 (by decide) (opv_fcmp rfl rfl rfl rfl fv14 (isF_lit .f32 0 (by decide) (by decide))) ?_
         refine RL.yesD rfl rfl rfl (by decide) (opv_pick rfl rfl (fun _ => rfl) (fun e => absurd (Eq.trans (Eq.symm e) c18) (by decide)) rfl) ?_
         refine RL.opD (by decide) (opv_pick rfl rfl (fun e => absurd (Eq.trans (Eq.symm e) rfl) (by decide)) (fun _ => rfl) rfl) ?_
         refine RL.nil ?_
         have ey3 := Option.some.inj hy3
         subst ey3
         refine onlyN ?_
         exact ⟨⟨rfl, rfl, rfl, rfl, rfl, rfl, rfl, rfl, rfl, rfl, rfl, rfl, rfl, rfl, rfl, trivial⟩, X_6, (Sep.sel S_6 [0, 1] (by decide))⟩
        ·rw [if_neg c18] at hy3
         have c18 := eq_false_of_ne_true c18
         refine RL.noF rfl rfl c18 (by decide) ?_
         refine RL.noF rfl rfl c18 (by decide) ?_
         refine RL.noF rfl rfl c18 (by decide) ?_
         refine RL.noF rfl rfl c18 (by decide) ?_
         refine RL.noF rfl rfl c18 (by decide) ?_
         refine RL.noF rfl rfl c18 (by decide) ?_
         refine RL.yesD rfl rfl rfl (by decide) (opv_pick rfl rfl (fun e => absurd (Eq.trans (Eq.symm e) c18) (by decide)) (fun _ => rfl) rfl) ?_
         refine RL.opD (by decide) (opv_pick rfl rfl (fun e => absurd (Eq.trans (Eq.symm e) rfl) (by decide)) (fun _ => rfl) rfl) ?_
         refine RL.nil ?_
         have ey3 := Option.some.inj hy3
         subst ey3
         refine onlyN ?_
         exact ⟨⟨rfl, rfl, rfl, rfl, rfl, rfl, rfl, rfl, rfl, rfl, rfl, rfl, rfl, rfl, rfl, trivial⟩, X_6, (Sep.sel S_6 [0, 1] (by decide))⟩
     rintro φ' hp7 ⟨hs4, X_7, S_7⟩
     refine thnN ?_
     refine W.sub hs4 ?_
     by_cases c19 : x8 = true
     ·rw [if_pos c19] at ho1
      refine W.condT rfl c19 ?_
      refine W.seq ?_
      refine W.region ?_
      refine RL.opD (by decide) (opv_assign rfl rfl) ?_
      refine RL.nil ?_
      refine thnN ?_
      refine W.ret ?_
      refine blkR ?_
      refine thnR ?_
      have eo1 := Option.some.inj ho1
      subst eo1
      have ey2 := hy1 _ rfl
      subst ey2
      try dsimp only at hp
      refine rndR ?_
      refine blkR ?_
      refine onlyR ?_
      refine thnR ?_
      have er := Option.some.inj hp
      subst er
      exact Rt.one rfl rfl ⟨rfl, X_7, (Sep.nil _ _ _)⟩
     ·rw [if_neg c19] at ho1
      have c19 := eq_false_of_ne_true c19
      refine W.condF rfl c19 ?_
      refine W.skip ?_
      refine blkN ?_
      refine thnN ?_
      refine W.region ?_
      refine RL.opD (by decide) (opv_add rfl rfl rfl) ?_
      refine RL.opD (by decide) (opv_move rfl rfl) ?_
      refine RL.nil ?_
      have eo1 := Option.some.inj ho1
      subst eo1
      refine rndN (s' := (x3, IntKind.wrap .i64 (x4 + 1))) rfl ?_
      exact ⟨⟨rfl, rfl, rfl, rfl, rfl, rfl, rfl, rfl, rfl, rfl, trivial⟩, X_7, (Sep.sel S_7 [0, 1] (by decide))⟩
    ·rw [if_neg c6] at ho1
     have c6 := eq_false_of_ne_true c6
     refine W.condF rfl c6 ?_
     refine W.exit ?_
     refine thnX ?_
     refine rndX ?_
     refine blkI ?_
     have eo1 := Option.some.inj ho1
     subst eo1
     have ey2 := hy1 _ rfl
     subst ey2
     refine onlyN ?_
     exact ⟨x3, x4, decide (x4 < (IntKind.wrap .i64 (a0_0 * a0_1))), rfl, ⟨rfl, rfl, rfl, rfl, rfl, rfl, rfl, rfl, rfl, rfl, rfl, trivial⟩, X_5, (Sep.sel S_5 [0, 1] (by decide))⟩
   rintro φ' hp8 ⟨x5, x6, x7, rfl, hs3, X_8, S_8⟩
   try dsimp only at hp
   refine thnN ?_
   refine W.sub hs3 ?_
   refine W.seq ?_
   refine W.region ?_
   refine RL.opD (by decide) (opv_assign rfl rfl) ?_
   refine RL.nil ?_
   refine thnN ?_
   refine W.ret ?_
   have er := Option.some.inj hp
   subst er
   exact Rt.one rfl rfl ⟨rfl, X_8, (Sep.nil _ _ _)⟩

set_option maxRecDepth 20000 in
theorem spec_l02Border_ok (h0 : Heap) (b0 : Nat) (a0_0 : Int) (a0_1 : Int) (a0_2 : Bool) (u0_3 : Value) (a0_3 : List (Option Nat)) (g0_3 : SL (kF .f32) h0.size h0 u0_3 a0_3) (u0_4 : Value) (a0_4 : List (Option Nat)) (g0_4 : SL (kF .f32) h0.size h0 u0_4 a0_4) (G0 : Bx h0 b0 [(.int .i64 a0_0), (.int .i64 a0_1), (.bool a0_2), u0_3, u0_4]) (a1 : Int) (a2 : Int) (r : Bool) (hp : spec_l02Border a0_0 a0_1 a0_2 a0_3 a0_4 a1 a2 = some r) : CallsH Tryz.prog 41 ([(.pointer (some ⟨b0, 0, none⟩)), (.int .i64 a1), (.int .i64 a2)].toArray ++ [].toArray) h0 (fun v h' => v = (.bool r) ∧ h0 = h') := by
 unfold spec_l02Border at hp
 refine callsH_of_W (l := [(.pointer (some ⟨b0, 0, none⟩)), (.int .i64 a1), (.int .i64 a2)]) (cap := []) 38 Tryz.func41 rfl rfl rfl ?_
 refine W.seq ?_
 refine W.region ?_
 refine RL.opD (by decide) (opv_assign rfl rfl) ?_
 refine RL.nil ?_
 refine thnN ?_
 refine W.seq ?_
 obtain ⟨x1, hy1, hp⟩ := Option.bind_eq_some_iff.1 hp
 refine W.cut (fun φ' h' => Fr.sub [(0, (.pointer (some ⟨b0, 0, none⟩))), (1, (.int .i64 a1)), (2, (.int .i64 a2)), (6, (.bool x1))] φ' ∧ h0 = h') ?_ ?_
 ·refine W.region ?_
  refine RL.opD (by decide) (opv_move rfl rfl) ?_
  refine RL.opD (by decide) (opv_nilCheck rfl rfl) ?_
  refine RL.opD (by decide) (opv_fieldAddr rfl Tryz.fo26_2 rfl) ?_
  refine RL.opD (by decide) (opv_loadB rfl Tryz.one4 rfl G0 rfl) ?_
  refine RL.opD (by decide) (opv_not rfl rfl) ?_
  refine RL.opD (by decide) (opv_move rfl rfl) ?_
  by_cases c1 : (!a0_2) = true
  ·rw [if_pos c1] at hy1
   refine RL.yesD rfl rfl c1 (by decide) (opv_move rfl rfl) ?_
   refine RL.yesD rfl rfl c1 (by decide) (opv_icmp rfl rfl rfl rfl) ?_
   refine RL.yesD rfl rfl c1 (by decide) (opv_move rfl rfl) ?_
   by_cases c2 : (a1 == 0) = true
   ·rw [if_pos c2] at hy1
    refine RL.noT rfl rfl c2 (by decide) ?_
    refine RL.noT rfl rfl c2 (by decide) ?_
    refine RL.noT rfl rfl c2 (by decide) ?_
    refine RL.noT rfl rfl c2 (by decide) ?_
    refine RL.noT rfl rfl c2 (by decide) ?_
    refine RL.noT rfl rfl c2 (by decide) ?_
    refine RL.noT rfl rfl c2 (by decide) ?_
    refine RL.yesD rfl rfl c1 (by decide) (opv_pick rfl rfl (fun _ => rfl) (fun e => absurd (Eq.trans (Eq.symm e) c2) (by decide)) rfl) ?_
    refine RL.yesD rfl rfl c1 (by decide) (opv_move rfl rfl) ?_
    refine RL.noT rfl rfl rfl (by decide) ?_
    refine RL.noT rfl rfl rfl (by decide) ?_
    refine RL.yesD rfl rfl c1 (by decide) (opv_pick rfl rfl (fun _ => rfl) (fun e => absurd (Eq.trans (Eq.symm e) rfl) (by decide)) rfl) ?_
    refine RL.yesD rfl rfl c1 (by decide) (opv_move rfl rfl) ?_
    refine RL.noT rfl rfl rfl (by decide) ?_
    refine RL.noT rfl rfl rfl (by decide) ?_
    refine RL.noT rfl rfl rfl (by decide) ?_
    refine RL.noT rfl rfl rfl (by decide) ?_
    refine RL.noT rfl rfl rfl (by decide) ?_
    refine RL.noT rfl rfl rfl (by decide) ?_
    refine RL.noT rfl rfl rfl (by decide) ?_
    refine RL.yesD rfl rfl c1 (by decide) (opv_pick rfl rfl (fun _ => rfl) (fun e => absurd (Eq.trans (Eq.symm e) rfl) (by decide)) rfl) ?_
    refine RL.opD (by decide) (opv_pick rfl rfl (fun _ => rfl) (fun e => absurd (Eq.trans (Eq.symm e) c1) (by decide)) rfl) ?_
    refine RL.opD (by decide) (opv_assign rfl rfl) ?_
    refine RL.nil ?_
    have ey1 := Option.some.inj hy1
    subst ey1
    refine onlyN ?_
    exact ⟨⟨rfl, rfl, rfl, rfl, trivial⟩, rfl⟩
   ·rw [if_neg c2] at hy1
    have c2 := eq_false_of_ne_true c2
    refine RL.yesD rfl rfl c2 (by decide) (opv_move rfl rfl) ?_
    refine RL.yesD rfl rfl c2 (by decide) (opv_move rfl rfl) ?_
    refine RL.yesD rfl rfl c2 (by decide) (opv_nilCheck rfl rfl) ?_
    refine RL.yesD rfl rfl c2 (by decide) (opv_fieldAddr rfl Tryz.fo26_0 rfl) ?_
    refine RL.yesD rfl rfl c2 (by decide) (opv_loadB rfl Tryz.one2 rfl G0 rfl) ?_
    refine RL.yesD rfl rfl c2 (by decide) (opv_sub rfl rfl rfl) ?_
    refine RL.yesD rfl rfl c2 (by decide) (opv_icmp rfl rfl rfl rfl) ?_
    refine RL.yesD rfl rfl c1 (by decide) (opv_pick rfl rfl (fun e => absurd (Eq.trans (Eq.symm e) c2) (by decide)) (fun _ => rfl) rfl) ?_
    refine RL.yesD rfl rfl c1 (by decide) (opv_move rfl rfl) ?_
    by_cases c3 : (a1 == (IntKind.wrap .i64 (a0_0 - 1))) = true
    ·rw [if_pos c3] at hy1
     refine RL.noT rfl rfl c3 (by decide) ?_
     refine RL.noT rfl rfl c3 (by decide) ?_
     refine RL.yesD rfl rfl c1 (by decide) (opv_pick rfl rfl (fun _ => rfl) (fun e => absurd (Eq.trans (Eq.symm e) c3) (by decide)) rfl) ?_
     refine RL.yesD rfl rfl c1 (by decide) (opv_move rfl rfl) ?_
     refine RL.noT rfl rfl rfl (by decide) ?_
     refine RL.noT rfl rfl rfl (by decide) ?_
     refine RL.noT rfl rfl rfl (by decide) ?_
     refine RL.noT rfl rfl rfl (by decide) ?_
     refine RL.noT rfl rfl rfl (by decide) ?_
     refine RL.noT rfl rfl rfl (by decide) ?_
     refine RL.noT rfl rfl rfl (by decide) ?_
     refine RL.yesD rfl rfl c1 (by decide) (opv_pick rfl rfl (fun _ => rfl) (fun e => absurd (Eq.trans (Eq.symm e) rfl) (by decide)) rfl) ?_
     refine RL.opD (by decide) (opv_pick rfl rfl (fun _ => rfl) (fun e => absurd (Eq.trans (Eq.symm e) c1) (by decide)) rfl) ?_
     refine RL.opD (by decide) (opv_assign rfl rfl) ?_
     refine RL.nil ?_
     have ey1 := Option.some.inj hy1
     subst ey1
     refine onlyN ?_
     exact ⟨⟨rfl, rfl, rfl, rfl, trivial⟩, rfl⟩
    ·rw [if_neg c3] at hy1
     have c3 := eq_false_of_ne_true c3
     refine RL.yesD rfl rfl c3 (by decide) (opv_move rfl rfl) ?_
     refine RL.yesD rfl rfl c3 (by decide) (opv_icmp rfl rfl rfl rfl) ?_
     refine RL.yesD rfl rfl c1 (by decide) (opv_pick rfl rfl (fun e => absurd (Eq.trans (Eq.symm e) c3) (by decide)) (fun _ => rfl) rfl) ?_
     refine RL.yesD rfl rfl c1 (by decide) (opv_move rfl rfl) ?_
     by_cases c4 : (a2 == 0) = true
     ·rw [if_pos c4] at hy1
      refine RL.noT rfl rfl c4 (by decide) ?_
      refine RL.noT rfl rfl c4 (by decide) ?_
      refine RL.noT rfl rfl c4 (by decide) ?_
      refine RL.noT rfl rfl c4 (by decide) ?_
      refine RL.noT rfl rfl c4 (by decide) ?_
      refine RL.noT rfl rfl c4 (by decide) ?_
      refine RL.noT rfl rfl c4 (by decide) ?_
      refine RL.yesD rfl rfl c1 (by decide) (opv_pick rfl rfl (fun _ => rfl) (fun e => absurd (Eq.trans (Eq.symm e) c4) (by decide)) rfl) ?_
      refine RL.opD (by decide) (opv_pick rfl rfl (fun _ => rfl) (fun e => absurd (Eq.trans (Eq.symm e) c1) (by decide)) rfl) ?_
      refine RL.opD (by decide) (opv_assign rfl rfl) ?_
      refine RL.nil ?_
      have ey1 := Option.some.inj hy1
      subst ey1
      refine onlyN ?_
      exact ⟨⟨rfl, rfl, rfl, rfl, trivial⟩, rfl⟩
     ·rw [if_neg c4] at hy1
      have c4 := eq_false_of_ne_true c4
      refine RL.yesD rfl rfl c4 (by decide) (opv_move rfl rfl) ?_
      refine RL.yesD rfl rfl c4 (by decide) (opv_move rfl rfl) ?_
      refine RL.yesD rfl rfl c4 (by decide) (opv_nilCheck rfl rfl) ?_
      refine RL.yesD rfl rfl c4 (by decide) (opv_fieldAddr rfl Tryz.fo26_1 rfl) ?_
      refine RL.yesD rfl rfl c4 (by decide) (opv_loadB rfl Tryz.one2 rfl G0 rfl) ?_
      refine RL.yesD rfl rfl c4 (by decide) (opv_sub rfl rfl rfl) ?_
      refine RL.yesD rfl rfl c4 (by decide) (opv_icmp rfl rfl rfl rfl) ?_
      refine RL.yesD rfl rfl c1 (by decide) (opv_pick rfl rfl (fun e => absurd (Eq.trans (Eq.symm e) c4) (by decide)) (fun _ => rfl) rfl) ?_
      refine RL.opD (by decide) (opv_pick rfl rfl (fun _ => rfl) (fun e => absurd (Eq.trans (Eq.symm e) c1) (by decide)) rfl) ?_
      refine RL.opD (by decide) (opv_assign rfl rfl) ?_
      refine RL.nil ?_
      have ey1 := Option.some.inj hy1
      subst ey1
      refine onlyN ?_
      exact ⟨⟨rfl, rfl, rfl, rfl, trivial⟩, rfl⟩
  ·rw [if_neg c1] at hy1
   have c1 := eq_false_of_ne_true c1
   refine RL.noF rfl rfl c1 (by decide) ?_
   refine RL.noF rfl rfl c1 (by decide) ?_
   refine RL.noF rfl rfl c1 (by decide) ?_
   refine RL.noU rfl rfl (by decide) ?_
   refine RL.noU rfl rfl (by decide) ?_
   refine RL.noU rfl rfl (by decide) ?_
   refine RL.noU rfl rfl (by decide) ?_
   refine RL.noU rfl rfl (by decide) ?_
   refine RL.noU rfl rfl (by decide) ?_
   refine RL.noU rfl rfl (by decide) ?_
   refine RL.noF rfl rfl c1 (by decide) ?_
   refine RL.noF rfl rfl c1 (by decide) ?_
   refine RL.noU rfl rfl (by decide) ?_
   refine RL.noU rfl rfl (by decide) ?_
   refine RL.noF rfl rfl c1 (by decide) ?_
   refine RL.noF rfl rfl c1 (by decide) ?_
   refine RL.noU rfl rfl (by decide) ?_
   refine RL.noU rfl rfl (by decide) ?_
   refine RL.noU rfl rfl (by decide) ?_
   refine RL.noU rfl rfl (by decide) ?_
   refine RL.noU rfl rfl (by decide) ?_
   refine RL.noU rfl rfl (by decide) ?_
   refine RL.noU rfl rfl (by decide) ?_
   refine RL.noF rfl rfl c1 (by decide) ?_
   refine RL.opD (by decide) (opv_pick rfl rfl (fun e => absurd (Eq.trans (Eq.symm e) c1) (by decide)) (fun _ => rfl) rfl) ?_
   refine RL.opD (by decide) (opv_assign rfl rfl) ?_
   refine RL.nil ?_
   have ey1 := Option.some.inj hy1
   subst ey1
   refine onlyN ?_
   exact ⟨⟨rfl, rfl, rfl, rfl, trivial⟩, rfl⟩
 rintro φ' _ ⟨hs1, rfl⟩
 refine thnN ?_
 refine W.sub hs1 ?_
 refine W.ret ?_
 have er := Option.some.inj hp
 subst er
 exact Rt.one rfl rfl ⟨rfl, rfl⟩

end Go.H
