/- Functions of the program: what each computes, as a plain function, and that the call comes to it. Written by a program (wip/gen). -/
import Derived.Test.YtjlnfficehomhaaGreatDoorGMax
import Derived.Test.YtjlnfficehomhaaGreatDoorGBase
import Derived.Test.YtjlnfficehomhaaGreatDoorGSheet
import Derived.Test.YtjlnfficehomhaaGreatDoorGField
import Derived.Test.YtjlnfficehomhaaGreatDoorGSrc
import Derived.Test.YtjlnfficehomhaaGreatDoorGSrc2
import Derived.Test.YtjlnfficehomhaaGreatDoorGDraw
import Derived.Test.YtjlnfficehomhaaGreatDoorGSort
import Derived.Test.YtjlnfficehomhaaGreatDoorGHalo
import Derived.Test.YtjlnfficehomhaaGreatDoorGSortLL
import Derived.Test.YtjlnfficehomhaaGreatDoorGMs
import Derived.Test.YtjlnfficehomhaaGreatDoorGChk
import Derived.Test.YtjlnfficehomhaaGreatDoorGFmt
import Derived.Test.YtjlnfficehomhaaGreatDoorGStr
import Derived.Test.YtjlnfficehomhaaGreatDoorGStripChecks
import Derived.Test.YtjlnfficehomhaaGreatDoorLibB
import Derived.Test.YtjlnfficehomhaaGreatDoorProg
import Derived.KernelRfl
set_option linter.unusedVariables false
namespace Go.H
open Go Go.Proofs

theorem _root_.Go.Proofs.Tryz.one38 : oneCellT Tryz.prog 38 = true := by kernel_rfl
theorem _root_.Go.Proofs.Tryz.size38 : (Tryz.prog.info? 38).map (·.size) = some 1 := by kernel_rfl

noncomputable def laws_b10Long (a0 : List (Int)) (a1 : List (Int)) : Option Bool :=
 (((if (decide ((a0.length : Int) > 1048576)) = true then some true else some (decide ((a1.length : Int) > 1048576))) : Option Bool).bind fun (x1 : Bool) => some x1)

noncomputable def laws_b10At (a0 : List (Int)) (a1 : Int) (a2 : Int) : Option Int :=
 (if (decide (a2 ≤ 1)) = true then some 0 else (if (decide (a1 < (a0.length : Int))) = true then ((idx a0 a1).bind fun (x1 : Int) => (if a2 = 0 then none else some (Int.tmod (IntKind.wrap .i64 x1) a2))) else (if a2 = 0 then none else some (Int.tmod (IntKind.wrap .i64 ((IntKind.wrap .i64 (a1 * 37)) + 11)) a2))))

noncomputable def impl_RowOf (a0_0 : Int) (a0_1 : Int) (a0_2 : Bool) (a0_3 : List (Option Nat)) (a0_4 : List (Option Nat)) (a1_0 : List (Option Nat)) (a1_1 : List (Option Nat)) (a1_2 : List (Option Nat)) (a2 : Int) : Option ((List (Option Nat)) × Bool) :=
 ((((impl_IsField a0_0 a0_1 a0_2 a0_3 a0_4 a1_0 a1_1 a1_2).bind fun (x2 : Bool) => (if (!x2) = true then some true else ((impl_within a2 0 (IntKind.wrap .i64 (a0_1 - 1))).bind fun (x3 : Bool) => some (!x3)))) : Option Bool).bind fun (x1 : Bool) => (if x1 = true then some (([] : List (Option Nat)), false) else ((sub a1_0 (IntKind.wrap .i64 (a2 * a0_0)) (IntKind.wrap .i64 ((IntKind.wrap .i64 (a2 + 1)) * a0_0))).bind fun (x4 : List (Option Nat)) => ((impl_copyOf x4).bind fun (x5 : List (Option Nat)) => some (x5, true)))))

noncomputable def laws_FnMessages.s2 (x5 : ((List ((Int × Int))) × Bool)) (x6 : ((List (List (Int))) × Bool)) (x34 : Bool) (x35 : Int) : Option ((Bool × Int) ⊕ ((Bool × Int × Bool) ⊕ Bool)) :=
 (if (decide (x35 < (x6.1.length : Int))) = true then ((idx x6.1 x35).bind fun (x39 : List (Int)) => (((if ((x39.length : Int) != 3) = true then some true else ((idx x39 0).bind fun (x41 : Int) => (if (decide (x41 < 0)) = true then some true else ((idx x39 0).bind fun (x42 : Int) => (if (decide (x42 ≥ (x5.1.length : Int))) = true then some true else ((idx x39 1).bind fun (x43 : Int) => (if (decide (x43 < 0)) = true then some true else ((idx x39 1).bind fun (x44 : Int) => (if (decide (x44 ≥ (x5.1.length : Int))) = true then some true else ((idx x39 0).bind fun (x45 : Int) => ((idx x39 1).bind fun (x46 : Int) => some (x45 == x46)))))))))))) : Option Bool).bind fun (x40 : Bool) => (if x40 = true then some (.inr (.inr false)) else ((idx x39 0).bind fun (x47 : Int) => ((idx x5.1 x47).bind fun (x48 : (Int × Int)) => ((idx x39 1).bind fun (x49 : Int) => ((idx x5.1 x49).bind fun (x50 : (Int × Int)) => ((((idx x39 2).bind fun (x52 : Int) => (if (decide (x52 < x48.1)) = true then some true else ((idx x39 2).bind fun (x53 : Int) => (if (decide (x53 ≥ (IntKind.wrap .i64 (x48.1 + x48.2)))) = true then some true else ((idx x39 2).bind fun (x54 : Int) => (if (decide (x54 ≥ x50.1)) = true then ((idx x39 2).bind fun (x55 : Int) => some (decide (x55 < (IntKind.wrap .i64 (x50.1 + x50.2))))) else some false)))))) : Option Bool).bind fun (x51 : Bool) => (if x51 = true then some (.inr (.inr false)) else some (.inl (x34, IntKind.wrap .i64 (x35 + 1)))))))))))) else some (.inr (.inl (x34, x35, decide (x35 < (x6.1.length : Int))))))

noncomputable def laws_FnMessages.s1 (x2 : (Int × Int × Bool × (List (Option Nat)) × (List (Option Nat)))) (x3 : ((List (Option Nat)) × (List (Option Nat)) × (List (Option Nat)))) (x5 : ((List ((Int × Int))) × Bool)) (x11 : Int) (x20 : Bool) (x21 : Int) (x22 : Int) : Option ((Bool × Int × Int) ⊕ ((Bool × Int × Int × Bool) ⊕ Bool)) :=
 ((idx x5.1 x11).bind fun (x27 : (Int × Int)) => ((idx x5.1 x11).bind fun (x28 : (Int × Int)) => (if (decide (x22 < (IntKind.wrap .i64 (x27.1 + x28.2)))) = true then ((impl_RowOf x2.1 x2.2.1 x2.2.2.1 x2.2.2.2.1 x2.2.2.2.2 x3.1 x3.2.1 x3.2.2 x22).bind fun (x29 : ((List (Option Nat)) × Bool)) => ((impl_NumbersText x29.1).bind fun (x30 : (ByteArray × Bool)) => ((spec_CheckOf x21 x30.1).bind fun (x31 : (Int × Bool)) => (((if (!x29.2) = true then some true else (if (!x30.2) = true then some true else some (!x31.2))) : Option Bool).bind fun (x32 : Bool) => (if x32 = true then some (.inr (.inr false)) else some (.inl (x20, x31.1, IntKind.wrap .i64 (x22 + 1)))))))) else some (.inr (.inl (x20, x21, x22, decide (x22 < (IntKind.wrap .i64 (x27.1 + x28.2)))))))))

noncomputable def laws_FnMessages.s0 (x2 : (Int × Int × Bool × (List (Option Nat)) × (List (Option Nat)))) (x3 : ((List (Option Nat)) × (List (Option Nat)) × (List (Option Nat)))) (x5 : ((List ((Int × Int))) × Bool)) (x7 : ((List (Int)) × Bool)) (x9 : Bool) (x10 : Int) (x11 : Int) : Option ((Bool × Int × Int) ⊕ ((Bool × Int × Int × Bool) ⊕ Bool)) :=
 (if (decide (x11 < (x5.1.length : Int))) = true then ((idx x5.1 x11).bind fun (x16 : (Int × Int)) => ((impl_HaloRows x2.1 x2.2.1 x2.2.2.1 x2.2.2.2.1 x2.2.2.2.2 x16.1 x16.2).bind fun (x17 : ((List (Int)) × Bool)) => (if (!x17.2) = true then some (.inr (.inr false)) else ((idx x5.1 x11).bind fun (x18 : (Int × Int)) => ((idx x5.1 x11).bind fun (x19 : (Int × Int)) => ((loopF (fun (s : (Bool × Int × Int)) => laws_FnMessages.s1 x2 x3 x5 x11 s.1 s.2.1 s.2.2) (x9, 0, x19.1)).bind fun (y3 : ((Bool × Int × Int × Bool) ⊕ Bool)) => match y3 with | .inl (x23, x24, x25, x26) => ((idx x7.1 x11).bind fun (x33 : Int) => (if (x24 != x33) = true then some (.inr (.inr false)) else some (.inl (x23, IntKind.wrap .i64 (x10 + (IntKind.wrap .i64 ((x17.1.length : Int) - x18.2))), IntKind.wrap .i64 (x11 + 1))))) | .inr r1 => some (.inr (.inr r1)))))))) else some (.inr (.inl (x9, x10, x11, decide (x11 < (x5.1.length : Int))))))

noncomputable def laws_FnMessages (a0 : List (Int)) (a1 : List (Int)) : Option Bool :=
 ((laws_b10Long a0 a1).bind fun (x1 : Bool) => (if x1 = true then some true else ((spec_B10Sheet a0).bind fun (x2 : (Int × Int × Bool × (List (Option Nat)) × (List (Option Nat)))) => ((spec_B10Field a1 x2.1 x2.2.1 x2.2.2.1 x2.2.2.2.1 x2.2.2.2.2).bind fun (x3 : ((List (Option Nat)) × (List (Option Nat)) × (List (Option Nat)))) => ((laws_b10At a1 0 8).bind fun (x4 : Int) => ((impl_StripsOf x2.1 x2.2.1 x2.2.2.1 x2.2.2.2.1 x2.2.2.2.2 (IntKind.wrap .i64 (1 + x4))).bind fun (x5 : ((List ((Int × Int))) × Bool)) => ((impl_MessagesOf x2.1 x2.2.1 x2.2.2.1 x2.2.2.2.1 x2.2.2.2.2 (IntKind.wrap .i64 (1 + x4))).bind fun (x6 : ((List (List (Int))) × Bool)) => ((impl_StripChecks x2.1 x2.2.1 x2.2.2.1 x2.2.2.2.1 x2.2.2.2.2 x3.1 x3.2.1 x3.2.2 (IntKind.wrap .i64 (1 + x4))).bind fun (x7 : ((List (Int)) × Bool)) => (((if (!x5.2) = true then some true else (if (!x6.2) = true then some true else (if (!x7.2) = true then some true else (if ((x7.1.length : Int) != (x5.1.length : Int)) = true then some true else some ((x5.1.length : Int) == 0))))) : Option Bool).bind fun (x8 : Bool) => (if x8 = true then some false else ((loopF (fun (s : (Bool × Int × Int)) => laws_FnMessages.s0 x2 x3 x5 x7 s.1 s.2.1 s.2.2) (false, 0, 0)).bind fun (y2 : ((Bool × Int × Int × Bool) ⊕ Bool)) => match y2 with | .inl (x12, x13, x14, x15) => ((loopF (fun (s : (Bool × Int)) => laws_FnMessages.s2 x5 x6 s.1 s.2) (x12, 0)).bind fun (y5 : ((Bool × Int × Bool) ⊕ Bool)) => match y5 with | .inl (x36, x37, x38) => some ((x6.1.length : Int) == x13) | .inr r2 => some r2) | .inr r3 => some r3)))))))))))

set_option maxRecDepth 20000 in
theorem laws_b10Long_ok (h0 : Heap) (u0 : Value) (a0 : List (Int)) (g0 : SL (kI .u8) h0.size h0 u0 a0) (u1 : Value) (a1 : List (Int)) (g1 : SL (kI .u8) h0.size h0 u1 a1) (r : Bool) (hp : laws_b10Long a0 a1 = some r) : CallsH Tryz.prog 4 ([u0, u1].toArray ++ [].toArray) h0 (fun v h' => v = (.bool r) ∧ h0 = h') := by
 unfold laws_b10Long at hp
 refine callsH_of_W (l := [u0, u1]) (cap := []) 13 Tryz.func4 rfl rfl rfl ?_
 refine W.seq ?_
 refine W.region ?_
 refine RL.opD (by decide) (opv_assign rfl rfl) ?_
 refine RL.nil ?_
 refine thnN ?_
 refine W.seq ?_
 obtain ⟨x1, hy1, hp⟩ := Option.bind_eq_some_iff.1 hp
 refine W.cut (fun φ' h' => Fr.sub [(0, u0), (1, u1), (4, (.bool x1))] φ' ∧ h0 = h') ?_ ?_
 ·refine W.region ?_
  refine RL.opD (by decide) (opv_move rfl rfl) ?_
  refine RL.opD (by decide) (opv_len rfl Tryz.underlying22 rfl g0) ?_
  refine RL.opD (by decide) (opv_icmp rfl rfl rfl rfl) ?_
  refine RL.opD (by decide) (opv_move rfl rfl) ?_
  by_cases c1 : (decide ((a0.length : Int) > 1048576)) = true
  ·rw [if_pos c1] at hy1
   refine RL.noT rfl rfl c1 (by decide) ?_
   refine RL.noT rfl rfl c1 (by decide) ?_
   refine RL.noT rfl rfl c1 (by decide) ?_
   refine RL.opD (by decide) (opv_pick rfl rfl (fun _ => rfl) (fun e => absurd (Eq.trans (Eq.symm e) c1) (by decide)) rfl) ?_
   refine RL.opD (by decide) (opv_assign rfl rfl) ?_
   refine RL.nil ?_
   have ey1 := Option.some.inj hy1
   subst ey1
   refine onlyN ?_
   exact ⟨⟨rfl, rfl, rfl, trivial⟩, rfl⟩
  ·rw [if_neg c1] at hy1
   have c1 := eq_false_of_ne_true c1
   refine RL.yesD rfl rfl c1 (by decide) (opv_move rfl rfl) ?_
   refine RL.yesD rfl rfl c1 (by decide) (opv_len rfl Tryz.underlying22 rfl g1) ?_
   refine RL.yesD rfl rfl c1 (by decide) (opv_icmp rfl rfl rfl rfl) ?_
   refine RL.opD (by decide) (opv_pick rfl rfl (fun e => absurd (Eq.trans (Eq.symm e) c1) (by decide)) (fun _ => rfl) rfl) ?_
   refine RL.opD (by decide) (opv_assign rfl rfl) ?_
   refine RL.nil ?_
   have ey1 := Option.some.inj hy1
   subst ey1
   refine onlyN ?_
   exact ⟨⟨rfl, rfl, rfl, trivial⟩, rfl⟩
 rintro φ' _ ⟨hs1, rfl⟩
 refine thnN ?_
 refine W.sub hs1 ?_
 refine W.ret ?_
 have er := Option.some.inj hp
 subst er
 exact Rt.one rfl rfl ⟨rfl, rfl⟩

set_option maxRecDepth 20000 in
theorem laws_b10At_ok (h0 : Heap) (u0 : Value) (a0 : List (Int)) (g0 : SL (kI .u8) h0.size h0 u0 a0) (a1 : Int) (a2 : Int) (r : Int) (hp : laws_b10At a0 a1 a2 = some r) : CallsH Tryz.prog 7 ([u0, (.int .i64 a1), (.int .i64 a2)].toArray ++ [].toArray) h0 (fun v h' => v = (.int .i64 r) ∧ h0 = h') := by
 unfold laws_b10At at hp
 refine callsH_of_W (l := [u0, (.int .i64 a1), (.int .i64 a2)]) (cap := []) 25 Tryz.func7 rfl rfl rfl ?_
 refine W.seq ?_
 refine W.region ?_
 refine RL.opD (by decide) (opv_assign rfl rfl) ?_
 refine RL.nil ?_
 refine thnN ?_
 refine W.seq ?_
 refine W.seq ?_
 refine W.region ?_
 refine RL.opD (by decide) (opv_move rfl rfl) ?_
 refine RL.opD (by decide) (opv_icmp rfl rfl rfl rfl) ?_
 refine RL.nil ?_
 refine thnN ?_
 by_cases c1 : (decide (a2 ≤ 1)) = true
 ·rw [if_pos c1] at hp
  refine W.condT rfl c1 ?_
  refine W.seq ?_
  refine W.region ?_
  refine RL.opD (by decide) (opv_assign rfl rfl) ?_
  refine RL.nil ?_
  refine thnN ?_
  refine W.ret ?_
  refine thnR ?_
  have er := Option.some.inj hp
  subst er
  exact Rt.one rfl rfl ⟨rfl, rfl⟩
 ·rw [if_neg c1] at hp
  have c1 := eq_false_of_ne_true c1
  refine W.condF rfl c1 ?_
  refine W.skip ?_
  refine thnN ?_
  refine W.seq ?_
  refine W.seq ?_
  refine W.region ?_
  refine RL.opD (by decide) (opv_move rfl rfl) ?_
  refine RL.opD (by decide) (opv_move rfl rfl) ?_
  refine RL.opD (by decide) (opv_len rfl Tryz.underlying22 rfl g0) ?_
  refine RL.opD (by decide) (opv_icmp rfl rfl rfl rfl) ?_
  refine RL.nil ?_
  refine thnN ?_
  by_cases c2 : (decide (a1 < (a0.length : Int))) = true
  ·rw [if_pos c2] at hp
   refine W.condT rfl c2 ?_
   refine W.seq ?_
   refine W.region ?_
   refine RL.opD (by decide) (opv_move rfl rfl) ?_
   refine RL.opD (by decide) (opv_move rfl rfl) ?_
   obtain ⟨x1, hx1, hp⟩ := Option.bind_eq_some_iff.1 hp
   refine RL.op _ (by decide) (opv_index rfl Tryz.underlying22 (by rw [Tryz.size5]; rfl) rfl rfl g0 hx1) ?_
   rintro v1 _ ⟨fv1, rfl⟩
   refine RL.opD (by decide) (opv_loadI rfl Tryz.one5 rfl fv1 g0 hx1) ?_
   refine RL.opD (by decide) (opv_i2i rfl (by rw [Tryz.underlying5]; rfl) Tryz.underlying2 rfl) ?_
   refine RL.opD (by decide) (opv_move rfl rfl) ?_
   by_cases nc3 : a2 = 0
   ·rw [if_pos nc3] at hp; cases hp
   rw [if_neg nc3] at hp
   have c3 : a2 ≠ 0 := nc3
   refine RL.opD (by decide) (opv_rem rfl c3 rfl rfl) ?_
   refine RL.opD (by decide) (opv_assign rfl rfl) ?_
   refine RL.nil ?_
   refine thnN ?_
   refine W.ret ?_
   refine thnR ?_
   have er := Option.some.inj hp
   subst er
   exact Rt.one rfl rfl ⟨rfl, rfl⟩
  ·rw [if_neg c2] at hp
   have c2 := eq_false_of_ne_true c2
   refine W.condF rfl c2 ?_
   refine W.skip ?_
   refine thnN ?_
   refine W.seq ?_
   refine W.region ?_
   refine RL.opD (by decide) (opv_move rfl rfl) ?_
   refine RL.opD (by decide) (opv_mul rfl rfl rfl) ?_
   refine RL.opD (by decide) (opv_add rfl rfl rfl) ?_
   refine RL.opD (by decide) (opv_move rfl rfl) ?_
   by_cases nc4 : a2 = 0
   ·rw [if_pos nc4] at hp; cases hp
   rw [if_neg nc4] at hp
   have c4 : a2 ≠ 0 := nc4
   refine RL.opD (by decide) (opv_rem rfl c4 rfl rfl) ?_
   refine RL.opD (by decide) (opv_assign rfl rfl) ?_
   refine RL.nil ?_
   refine thnN ?_
   refine W.ret ?_
   have er := Option.some.inj hp
   subst er
   exact Rt.one rfl rfl ⟨rfl, rfl⟩

set_option maxRecDepth 20000 in
theorem impl_RowOf_ok (h0 : Heap) (a0_0 : Int) (a0_1 : Int) (a0_2 : Bool) (u0_3 : Value) (a0_3 : List (Option Nat)) (g0_3 : SL (kF .f32) h0.size h0 u0_3 a0_3) (u0_4 : Value) (a0_4 : List (Option Nat)) (g0_4 : SL (kF .f32) h0.size h0 u0_4 a0_4) (u1_0 : Value) (a1_0 : List (Option Nat)) (g1_0 : SL (kF .f32) h0.size h0 u1_0 a1_0) (u1_1 : Value) (a1_1 : List (Option Nat)) (g1_1 : SL (kF .f32) h0.size h0 u1_1 a1_1) (u1_2 : Value) (a1_2 : List (Option Nat)) (g1_2 : SL (kF .f32) h0.size h0 u1_2 a1_2) (a2 : Int) (r : ((List (Option Nat)) × Bool)) (hp : impl_RowOf a0_0 a0_1 a0_2 a0_3 a0_4 a1_0 a1_1 a1_2 a2 = some r) : CallsH Tryz.prog 12 ([(.agg (List.toArray (α := Value) [(.int .i64 a0_0), (.int .i64 a0_1), (.bool a0_2), u0_3, u0_4])), (.agg (List.toArray (α := Value) [u1_0, u1_1, u1_2])), (.int .i64 a2)].toArray ++ [].toArray) h0 (fun v h' => ∃ w0, v = (.tuple (List.toArray (α := Value) [w0, (.bool r.2)])) ∧ Mod [] h0 h' ∧ Sep [] h0.size h' [ownO (kF .f32) 66 w0 r.1]) := by
 unfold impl_RowOf at hp
 refine callsH_of_W (l := [(.agg (List.toArray (α := Value) [(.int .i64 a0_0), (.int .i64 a0_1), (.bool a0_2), u0_3, u0_4])), (.agg (List.toArray (α := Value) [u1_0, u1_1, u1_2])), (.int .i64 a2)]) (cap := []) 33 Tryz.func12 rfl rfl rfl ?_
 refine W.seq ?_
 refine W.region ?_
 refine RL.op _ (by decide) (opS_boxed (opv_boxA (cs := [(.int .i64 a0_0), (.int .i64 a0_1), (.bool a0_2), u0_3, u0_4]) rfl rfl)) ?_
 rintro _ hp1 ⟨bb1, rfl, MT_1, T_1⟩
 obtain ⟨X_1, S_1⟩ := Sep.turn0 (Mod.refl [] h0) (Sep.nil [] h0.size h0) MT_1 T_1
 refine RL.op _ (by decide) (opS_boxed (opv_boxA (cs := [u1_0, u1_1, u1_2]) rfl rfl)) ?_
 rintro _ hp2 ⟨bb2, rfl, MT_2, T_2⟩
 obtain ⟨X_2, S_2⟩ := Sep.turn0 X_1 S_1 MT_2 T_2
 refine RL.opD (by decide) (opv_assign rfl rfl) ?_
 have S_3 : Sep [] h0.size hp2 [ownO (kF .f32) 66 (.slice none 0 0) ([] : List (Option Nat)), boxO bb2 [u1_0, u1_1, u1_2], boxO bb1 [(.int .i64 a0_0), (.int .i64 a0_1), (.bool a0_2), u0_3, u0_4]] := Sep.addNil S_2
 refine RL.opD (by decide) (opv_assign rfl rfl) ?_
 refine RL.nil ?_
 refine thnN ?_
 refine W.seq ?_
 refine W.seq ?_
 obtain ⟨x1, hy1, hp⟩ := Option.bind_eq_some_iff.1 hp
 refine W.cut (fun φ' h' => Fr.sub [(0, (.agg (List.toArray (α := Value) [(.int .i64 a0_0), (.int .i64 a0_1), (.bool a0_2), u0_3, u0_4]))), (1, (.agg (List.toArray (α := Value) [u1_0, u1_1, u1_2]))), (2, (.int .i64 a2)), (3, (.pointer (some ⟨bb1, 0, none⟩))), (4, (.pointer (some ⟨bb2, 0, none⟩))), (6, (.slice none 0 0)), (7, (.bool false)), (19, (.bool x1))] φ' ∧ Mod [] h0 h' ∧ Sep [] h0.size h' [ownO (kF .f32) 66 (.slice none 0 0) ([] : List (Option Nat)), boxO bb2 [u1_0, u1_1, u1_2], boxO bb1 [(.int .i64 a0_0), (.int .i64 a0_1), (.bool a0_2), u0_3, u0_4]]) ?_ ?_
 ·refine W.region ?_
  refine RL.opD (by decide) (opv_loadA (us := [(.int .i64 a0_0), (.int .i64 a0_1), (.bool a0_2), u0_3, u0_4]) rfl Tryz.agg26 Tryz.size26 rfl (Sep.at (o := boxO bb1 [(.int .i64 a0_0), (.int .i64 a0_1), (.bool a0_2), u0_3, u0_4]) S_3 2 rfl) rfl rfl) ?_
  refine RL.opD (by decide) (opv_loadA (us := [u1_0, u1_1, u1_2]) rfl Tryz.agg29 Tryz.size29 rfl (Sep.at (o := boxO bb2 [u1_0, u1_1, u1_2]) S_3 1 rfl) rfl rfl) ?_
  obtain ⟨x2, hx2, hy1⟩ := Option.bind_eq_some_iff.1 hy1
  refine RL.op _ (by decide) (opv_call (cap := []) (impl_IsField_ok _ _ _ _ _ _ (SL.up (SL.mod g0_3 X_2 (Nat.le_refl _) nob) (Nat.le_trans (Nat.le_refl _) (Mod.size X_2))) _ _ (SL.up (SL.mod g0_4 X_2 (Nat.le_refl _) nob) (Nat.le_trans (Nat.le_refl _) (Mod.size X_2))) _ _ (SL.up (SL.mod g1_0 X_2 (Nat.le_refl _) nob) (Nat.le_trans (Nat.le_refl _) (Mod.size X_2))) _ _ (SL.up (SL.mod g1_1 X_2 (Nat.le_refl _) nob) (Nat.le_trans (Nat.le_refl _) (Mod.size X_2))) _ _ (SL.up (SL.mod g1_2 X_2 (Nat.le_refl _) nob) (Nat.le_trans (Nat.le_refl _) (Mod.size X_2))) _ hx2) rfl rfl ⟨rfl, rfl, trivial⟩ Tryz.func25 rfl rfl) ?_
  rintro _ hp3 ⟨rfl, MT_3, T_3⟩
  obtain ⟨X_3, S_4⟩ := Sep.turn0 X_2 S_3 MT_3 T_3
  refine RL.opD (by decide) (opv_not rfl rfl) ?_
  refine RL.opD (by decide) (opv_move rfl rfl) ?_
  by_cases c1 : (!x2) = true
  ·rw [if_pos c1] at hy1
   refine RL.noT rfl rfl c1 (by decide) ?_
   refine RL.noT rfl rfl c1 (by decide) ?_
   refine RL.noT rfl rfl c1 (by decide) ?_
   refine RL.noT rfl rfl c1 (by decide) ?_
   refine RL.noT rfl rfl c1 (by decide) ?_
   refine RL.noT rfl rfl c1 (by decide) ?_
   refine RL.opD (by decide) (opv_pick rfl rfl (fun _ => rfl) (fun e => absurd (Eq.trans (Eq.symm e) c1) (by decide)) rfl) ?_
   refine RL.nil ?_
   have ey1 := Option.some.inj hy1
   subst ey1
   refine onlyN ?_
   exact ⟨⟨rfl, rfl, rfl, rfl, rfl, rfl, rfl, rfl, trivial⟩, X_3, (Sep.sel S_4 [0, 1, 2] (by decide))⟩
  ·rw [if_neg c1] at hy1
   have c1 := eq_false_of_ne_true c1
   refine RL.yesD rfl rfl c1 (by decide) (opv_move rfl rfl) ?_
   refine RL.yesD rfl rfl c1 (by decide) (opv_fieldAddr rfl Tryz.fo26_1 rfl) ?_
   refine RL.yesD rfl rfl c1 (by decide) (opv_loadB rfl Tryz.one2 rfl (Sep.at (o := boxO bb1 [(.int .i64 a0_0), (.int .i64 a0_1), (.bool a0_2), u0_3, u0_4]) S_4 2 rfl) rfl) ?_
   refine RL.yesD rfl rfl c1 (by decide) (opv_sub rfl rfl rfl) ?_
   obtain ⟨x3, hx3, hy1⟩ := Option.bind_eq_some_iff.1 hy1
   refine RL.yes _ rfl rfl c1 (by decide) (opv_call (cap := []) (impl_within_ok _ _ _ _ _ hx3) rfl rfl ⟨rfl, rfl, rfl, trivial⟩ Tryz.func22 rfl rfl) ?_
   rintro _ _ ⟨rfl, rfl⟩
   refine RL.yesD rfl rfl c1 (by decide) (opv_not rfl rfl) ?_
   refine RL.opD (by decide) (opv_pick rfl rfl (fun e => absurd (Eq.trans (Eq.symm e) c1) (by decide)) (fun _ => rfl) rfl) ?_
   refine RL.nil ?_
   have ey1 := Option.some.inj hy1
   subst ey1
   refine onlyN ?_
   exact ⟨⟨rfl, rfl, rfl, rfl, rfl, rfl, rfl, rfl, trivial⟩, X_3, (Sep.sel S_4 [0, 1, 2] (by decide))⟩
 rintro φ' hp4 ⟨hs1, X_4, S_5⟩
 refine thnN ?_
 refine W.sub hs1 ?_
 by_cases c2 : x1 = true
 ·rw [if_pos c2] at hp
  refine W.condT rfl c2 ?_
  refine W.seq ?_
  refine W.region ?_
  refine RL.opD (by decide) (opv_assign rfl rfl) ?_
  have S_6 : Sep [] h0.size hp4 [ownO (kF .f32) 66 (.slice none 0 0) ([] : List (Option Nat)), ownO (kF .f32) 66 (.slice none 0 0) ([] : List (Option Nat)), boxO bb2 [u1_0, u1_1, u1_2], boxO bb1 [(.int .i64 a0_0), (.int .i64 a0_1), (.bool a0_2), u0_3, u0_4]] := Sep.addNil S_5
  refine RL.opD (by decide) (opv_assign rfl rfl) ?_
  refine RL.nil ?_
  refine thnN ?_
  refine W.ret ?_
  refine thnR ?_
  have er := Option.some.inj hp
  subst er
  exact Rt.two rfl rfl rfl ⟨(.slice none 0 0), rfl, X_4, (Sep.sel S_6 [0] (by decide))⟩
 ·rw [if_neg c2] at hp
  have c2 := eq_false_of_ne_true c2
  refine W.condF rfl c2 ?_
  refine W.skip ?_
  refine thnN ?_
  refine W.seq ?_
  refine W.region ?_
  refine RL.opD (by decide) (opv_fieldAddr rfl Tryz.fo29_0 rfl) ?_
  refine RL.opD (by decide) (opv_loadB rfl Tryz.one24 rfl (Sep.at (o := boxO bb2 [u1_0, u1_1, u1_2]) S_5 1 rfl) rfl) ?_
  refine RL.opD (by decide) (opv_move rfl rfl) ?_
  refine RL.opD (by decide) (opv_fieldAddr rfl Tryz.fo26_0 rfl) ?_
  refine RL.opD (by decide) (opv_loadB rfl Tryz.one2 rfl (Sep.at (o := boxO bb1 [(.int .i64 a0_0), (.int .i64 a0_1), (.bool a0_2), u0_3, u0_4]) S_5 2 rfl) rfl) ?_
  refine RL.opD (by decide) (opv_mul rfl rfl rfl) ?_
  refine RL.opD (by decide) (opv_move rfl rfl) ?_
  refine RL.opD (by decide) (opv_add rfl rfl rfl) ?_
  refine RL.opD (by decide) (opv_fieldAddr rfl Tryz.fo26_0 rfl) ?_
  refine RL.opD (by decide) (opv_loadB rfl Tryz.one2 rfl (Sep.at (o := boxO bb1 [(.int .i64 a0_0), (.int .i64 a0_1), (.bool a0_2), u0_3, u0_4]) S_5 2 rfl) rfl) ?_
  refine RL.opD (by decide) (opv_mul rfl rfl rfl) ?_
  obtain ⟨x4, hx4, hp⟩ := Option.bind_eq_some_iff.1 hp
  refine RL.op _ (by decide) (opv_cut (K := (kF .f32)) rfl Tryz.underlying24 (by rw [Tryz.size66]; rfl) rfl (.inr ⟨_, _, rfl, rfl⟩) (.inr ⟨_, _, rfl, rfl⟩) (SL.mod g1_0 X_4 (Nat.le_refl _) nob) hx4) ?_
  rintro v1 _ ⟨fv1, rfl⟩
  have fv1 := SL.back fv1 X_4 (Nat.le_refl _) nob
  obtain ⟨x5, hx5, hp⟩ := Option.bind_eq_some_iff.1 hp
  refine RL.op _ (by decide) (opv_call (cap := []) (impl_copyOf_ok _ _ _ (SL.up (SL.mod fv1 X_4 (Nat.le_refl _) nob) (Nat.le_trans (Nat.le_refl _) (Mod.size X_4))) _ hx5) rfl rfl ⟨rfl, trivial⟩ Tryz.func28 rfl rfl) ?_
  rintro v2 hp5 ⟨MT_4, T_4⟩
  obtain ⟨X_5, S_7⟩ := Sep.turn0 X_4 S_5 MT_4 T_4
  refine RL.opD (by decide) (opv_assign rfl rfl) ?_
  refine RL.opD (by decide) (opv_assign rfl rfl) ?_
  refine RL.nil ?_
  refine thnN ?_
  refine W.ret ?_
  have er := Option.some.inj hp
  subst er
  exact Rt.two rfl rfl rfl ⟨v2, rfl, X_5, (Sep.sel S_7 [0] (by decide))⟩

set_option maxHeartbeats 4000000 in
set_option maxRecDepth 20000 in
theorem laws_FnMessages_ok (h0 : Heap) (GT : TabH h0) (u0 : Value) (a0 : List (Int)) (g0 : SL (kI .u8) h0.size h0 u0 a0) (u1 : Value) (a1 : List (Int)) (g1 : SL (kI .u8) h0.size h0 u1 a1) (r : Bool) (hp : laws_FnMessages a0 a1 = some r) : CallsH Tryz.prog 3 ([u0, u1].toArray ++ [].toArray) h0 (fun v h' => v = (.bool r) ∧ Mod [] h0 h' ∧ Sep [] h0.size h' []) := by
 unfold laws_FnMessages at hp
 refine callsH_of_W (l := [u0, u1]) (cap := []) 266 Tryz.func3 rfl rfl rfl ?_
 refine W.seq ?_
 refine W.region ?_
 refine RL.opD (by decide) (opv_assign rfl rfl) ?_
 refine RL.nil ?_
 refine thnN ?_
 refine W.seq ?_
 refine W.seq ?_
 refine W.region ?_
 refine RL.opD (by decide) (opv_move rfl rfl) ?_
 refine RL.opD (by decide) (opv_move rfl rfl) ?_
 obtain ⟨x1, hx1, hp⟩ := Option.bind_eq_some_iff.1 hp
 refine RL.op _ (by decide) (opv_call (cap := []) (laws_b10Long_ok _ _ _ g0 _ _ g1 _ hx1) rfl rfl ⟨rfl, rfl, trivial⟩ Tryz.func4 rfl rfl) ?_
 rintro _ _ ⟨rfl, rfl⟩
 refine RL.nil ?_
 refine thnN ?_
 by_cases c1 : x1 = true
 ·rw [if_pos c1] at hp
  refine W.condT rfl c1 ?_
  refine W.seq ?_
  refine W.region ?_
  refine RL.opD (by decide) (opv_assign rfl rfl) ?_
  refine RL.nil ?_
  refine thnN ?_
  refine W.ret ?_
  refine thnR ?_
  have er := Option.some.inj hp
  subst er
  exact Rt.one rfl rfl ⟨rfl, (Mod.refl [] h0), (Sep.nil _ _ _)⟩
 ·rw [if_neg c1] at hp
  have c1 := eq_false_of_ne_true c1
  refine W.condF rfl c1 ?_
  refine W.skip ?_
  refine thnN ?_
  refine W.seq ?_
  refine W.region ?_
  refine RL.opD (by decide) (opv_move rfl rfl) ?_
  obtain ⟨x2, hx2, hp⟩ := Option.bind_eq_some_iff.1 hp
  refine RL.op _ (by decide) (opv_call (cap := []) (spec_B10Sheet_ok _ _ _ g0 _ hx2) rfl rfl ⟨rfl, trivial⟩ Tryz.func5 rfl rfl) ?_
  rintro _ hp1 ⟨v1, v2, rfl, MT_1, T_1⟩
  obtain ⟨X_1, S_1⟩ := Sep.turn0 (Mod.refl [] h0) (Sep.nil [] h0.size h0) MT_1 T_1
  refine RL.op _ (by decide) (opS_boxed (opv_alloc (cs := [(.int .i64 0), (.int .i64 0), (.bool false), (.slice none 0 0), (.slice none 0 0)]) rfl Tryz.zero26 rfl)) ?_
  rintro _ hp2 ⟨bb1, rfl, MT_2, T_2⟩
  obtain ⟨X_2, S_2⟩ := Sep.turn0 X_1 S_1 MT_2 T_2
  refine RL.op0 _ (opS_stored (cs := [(.int .i64 0), (.int .i64 0), (.bool false), (.slice none 0 0), (.slice none 0 0)]) (cs' := [(.int .i64 x2.1), (.int .i64 x2.2.1), (.bool x2.2.2.1), v1, v2]) (opv_storeA (us := [(.int .i64 x2.1), (.int .i64 x2.2.1), (.bool x2.2.2.1), v1, v2]) rfl Tryz.size26 rfl rfl (oneAll rfl (oneAll rfl (oneAll rfl (oneAll (ownO.one (Sep.at (o := ownO (kF .f32) 66 v1 x2.2.2.2.1) S_2 1 rfl)) (oneAll (ownO.one (Sep.at (o := ownO (kF .f32) 66 v2 x2.2.2.2.2) S_2 2 rfl)) rfl))))) (Sep.at (o := boxO bb1 [(.int .i64 0), (.int .i64 0), (.bool false), (.slice none 0 0), (.slice none 0 0)]) S_2 0 rfl) rfl rfl) (Sep.at (o := boxO bb1 [(.int .i64 0), (.int .i64 0), (.bool false), (.slice none 0 0), (.slice none 0 0)]) S_2 0 rfl)) ?_
  rintro _ hp3 ⟨rfl, MT_3, T_3⟩
  have S_3 : Sep [] h0.size hp2 ([boxO bb1 [(.int .i64 0), (.int .i64 0), (.bool false), (.slice none 0 0), (.slice none 0 0)]] ++ [ownO (kF .f32) 66 v1 x2.2.2.2.1, ownO (kF .f32) 66 v2 x2.2.2.2.2]) := Sep.sel S_2 [0, 1, 2] (by decide)
  obtain ⟨X_3, S_4⟩ := Sep.turn X_2 S_3 MT_3 T_3
  refine RL.nil ?_
  refine thnN ?_
  refine W.seq ?_
  refine W.region ?_
  refine RL.opD (by decide) (opv_move rfl rfl) ?_
  refine RL.opD (by decide) (opv_loadA (us := [(.int .i64 x2.1), (.int .i64 x2.2.1), (.bool x2.2.2.1), v1, v2]) rfl Tryz.agg26 Tryz.size26 rfl (Sep.at (o := boxO bb1 [(.int .i64 x2.1), (.int .i64 x2.2.1), (.bool x2.2.2.1), v1, v2]) S_4 0 rfl) rfl rfl) ?_
  obtain ⟨x3, hx3, hp⟩ := Option.bind_eq_some_iff.1 hp
  refine RL.op _ (by decide) (opv_call (cap := []) (spec_B10Field_ok _ _ _ (SL.up (SL.mod g1 X_3 (Nat.le_refl _) nob) (Nat.le_trans (Nat.le_refl _) (Mod.size X_3))) _ _ _ _ _ (ownO.read (Sep.at (o := ownO (kF .f32) 66 v1 x2.2.2.2.1) S_4 1 rfl)) _ _ (ownO.read (Sep.at (o := ownO (kF .f32) 66 v2 x2.2.2.2.2) S_4 2 rfl)) _ hx3) rfl rfl ⟨rfl, rfl, trivial⟩ Tryz.func6 rfl rfl) ?_
  rintro _ hp4 ⟨v3, v4, v5, rfl, MT_4, T_4⟩
  obtain ⟨X_4, S_5⟩ := Sep.turn0 X_3 S_4 MT_4 T_4
  refine RL.op _ (by decide) (opS_boxed (opv_alloc (cs := [(.slice none 0 0), (.slice none 0 0), (.slice none 0 0)]) rfl Tryz.zero29 rfl)) ?_
  rintro _ hp5 ⟨bb2, rfl, MT_5, T_5⟩
  obtain ⟨X_5, S_6⟩ := Sep.turn0 X_4 S_5 MT_5 T_5
  refine RL.op0 _ (opS_stored (cs := [(.slice none 0 0), (.slice none 0 0), (.slice none 0 0)]) (cs' := [v3, v4, v5]) (opv_storeA (us := [v3, v4, v5]) rfl Tryz.size29 rfl rfl (oneAll (ownO.one (Sep.at (o := ownO (kF .f32) 66 v3 x3.1) S_6 1 rfl)) (oneAll (ownO.one (Sep.at (o := ownO (kF .f32) 66 v4 x3.2.1) S_6 2 rfl)) (oneAll (ownO.one (Sep.at (o := ownO (kF .f32) 66 v5 x3.2.2) S_6 3 rfl)) rfl))) (Sep.at (o := boxO bb2 [(.slice none 0 0), (.slice none 0 0), (.slice none 0 0)]) S_6 0 rfl) rfl rfl) (Sep.at (o := boxO bb2 [(.slice none 0 0), (.slice none 0 0), (.slice none 0 0)]) S_6 0 rfl)) ?_
  rintro _ hp6 ⟨rfl, MT_6, T_6⟩
  have S_7 : Sep [] h0.size hp5 ([boxO bb2 [(.slice none 0 0), (.slice none 0 0), (.slice none 0 0)]] ++ [ownO (kF .f32) 66 v3 x3.1, ownO (kF .f32) 66 v4 x3.2.1, ownO (kF .f32) 66 v5 x3.2.2, boxO bb1 [(.int .i64 x2.1), (.int .i64 x2.2.1), (.bool x2.2.2.1), v1, v2], ownO (kF .f32) 66 v1 x2.2.2.2.1, ownO (kF .f32) 66 v2 x2.2.2.2.2]) := Sep.sel S_6 [0, 1, 2, 3, 4, 5, 6] (by decide)
  obtain ⟨X_6, S_8⟩ := Sep.turn X_5 S_7 MT_6 T_6
  refine RL.nil ?_
  refine thnN ?_
  refine W.seq ?_
  refine W.region ?_
  refine RL.opD (by decide) (opv_move rfl rfl) ?_
  obtain ⟨x4, hx4, hp⟩ := Option.bind_eq_some_iff.1 hp
  refine RL.op _ (by decide) (opv_call (cap := []) (laws_b10At_ok _ _ _ (SL.up (SL.mod g1 X_6 (Nat.le_refl _) nob) (Nat.le_trans (Nat.le_refl _) (Mod.size X_6))) _ _ _ hx4) rfl rfl ⟨rfl, rfl, rfl, trivial⟩ Tryz.func7 rfl rfl) ?_
  rintro _ _ ⟨rfl, rfl⟩
  refine RL.opD (by decide) (opv_add rfl rfl rfl) ?_
  refine RL.opD (by decide) (opv_assign rfl rfl) ?_
  refine RL.nil ?_
  refine thnN ?_
  refine W.seq ?_
  refine W.region ?_
  refine RL.opD (by decide) (opv_loadA (us := [(.int .i64 x2.1), (.int .i64 x2.2.1), (.bool x2.2.2.1), v1, v2]) rfl Tryz.agg26 Tryz.size26 rfl (Sep.at (o := boxO bb1 [(.int .i64 x2.1), (.int .i64 x2.2.1), (.bool x2.2.2.1), v1, v2]) S_8 4 rfl) rfl rfl) ?_
  refine RL.opD (by decide) (opv_move rfl rfl) ?_
  obtain ⟨x5, hx5, hp⟩ := Option.bind_eq_some_iff.1 hp
  refine RL.op _ (by decide) (opv_call (cap := []) (impl_StripsOf_ok _ _ _ _ _ _ (ownO.read (Sep.at (o := ownO (kF .f32) 66 v1 x2.2.2.2.1) S_8 5 rfl)) _ _ (ownO.read (Sep.at (o := ownO (kF .f32) 66 v2 x2.2.2.2.2) S_8 6 rfl)) _ _ hx5) rfl rfl ⟨rfl, rfl, trivial⟩ Tryz.func8 rfl rfl) ?_
  rintro _ hp7 ⟨v6, rfl, MT_7, T_7⟩
  obtain ⟨X_7, S_9⟩ := Sep.turn0 X_6 S_8 MT_7 T_7
  refine RL.opD (by decide) (opv_move rfl rfl) ?_
  refine RL.opD (by decide) (opv_extract rfl rfl rfl) ?_
  refine RL.opD (by decide) (opv_extract rfl rfl rfl) ?_
  refine RL.opD (by decide) (opv_assign rfl rfl) ?_
  refine RL.opD (by decide) (opv_assign rfl rfl) ?_
  refine RL.nil ?_
  refine thnN ?_
  refine W.seq ?_
  refine W.region ?_
  refine RL.opD (by decide) (opv_loadA (us := [(.int .i64 x2.1), (.int .i64 x2.2.1), (.bool x2.2.2.1), v1, v2]) rfl Tryz.agg26 Tryz.size26 rfl (Sep.at (o := boxO bb1 [(.int .i64 x2.1), (.int .i64 x2.2.1), (.bool x2.2.2.1), v1, v2]) S_9 5 rfl) rfl rfl) ?_
  refine RL.opD (by decide) (opv_move rfl rfl) ?_
  obtain ⟨x6, hx6, hp⟩ := Option.bind_eq_some_iff.1 hp
  refine RL.op _ (by decide) (opv_call (cap := []) (impl_MessagesOf_ok _ _ _ _ _ _ (ownO.read (Sep.at (o := ownO (kF .f32) 66 v1 x2.2.2.2.1) S_9 6 rfl)) _ _ (ownO.read (Sep.at (o := ownO (kF .f32) 66 v2 x2.2.2.2.2) S_9 7 rfl)) _ _ hx6) rfl rfl ⟨rfl, rfl, trivial⟩ Tryz.func9 rfl rfl) ?_
  rintro _ hp8 ⟨v7, rfl, MT_8, T_8⟩
  obtain ⟨X_8, S_10⟩ := Sep.turn0 X_7 S_9 MT_8 T_8
  refine RL.opD (by decide) (opv_move rfl rfl) ?_
  refine RL.opD (by decide) (opv_extract rfl rfl rfl) ?_
  refine RL.opD (by decide) (opv_extract rfl rfl rfl) ?_
  refine RL.opD (by decide) (opv_assign rfl rfl) ?_
  refine RL.opD (by decide) (opv_assign rfl rfl) ?_
  refine RL.nil ?_
  refine thnN ?_
  refine W.seq ?_
  refine W.region ?_
  refine RL.opD (by decide) (opv_loadA (us := [(.int .i64 x2.1), (.int .i64 x2.2.1), (.bool x2.2.2.1), v1, v2]) rfl Tryz.agg26 Tryz.size26 rfl (Sep.at (o := boxO bb1 [(.int .i64 x2.1), (.int .i64 x2.2.1), (.bool x2.2.2.1), v1, v2]) S_10 6 rfl) rfl rfl) ?_
  refine RL.opD (by decide) (opv_loadA (us := [v3, v4, v5]) rfl Tryz.agg29 Tryz.size29 rfl (Sep.at (o := boxO bb2 [v3, v4, v5]) S_10 2 rfl) rfl rfl) ?_
  refine RL.opD (by decide) (opv_move rfl rfl) ?_
  obtain ⟨x7, hx7, hp⟩ := Option.bind_eq_some_iff.1 hp
  refine RL.op _ (by decide) (opv_call (cap := []) (impl_StripChecks_ok _ (TabH.mod GT X_8) _ _ _ _ _ (ownO.read (Sep.at (o := ownO (kF .f32) 66 v1 x2.2.2.2.1) S_10 7 rfl)) _ _ (ownO.read (Sep.at (o := ownO (kF .f32) 66 v2 x2.2.2.2.2) S_10 8 rfl)) _ _ (ownO.read (Sep.at (o := ownO (kF .f32) 66 v3 x3.1) S_10 3 rfl)) _ _ (ownO.read (Sep.at (o := ownO (kF .f32) 66 v4 x3.2.1) S_10 4 rfl)) _ _ (ownO.read (Sep.at (o := ownO (kF .f32) 66 v5 x3.2.2) S_10 5 rfl)) _ _ hx7) rfl rfl ⟨rfl, rfl, rfl, trivial⟩ Tryz.func10 rfl rfl) ?_
  rintro _ hp9 ⟨v8, rfl, MT_9, T_9⟩
  obtain ⟨X_9, S_11⟩ := Sep.turn0 X_8 S_10 MT_9 T_9
  refine RL.opD (by decide) (opv_move rfl rfl) ?_
  refine RL.opD (by decide) (opv_extract rfl rfl rfl) ?_
  refine RL.opD (by decide) (opv_extract rfl rfl rfl) ?_
  refine RL.opD (by decide) (opv_assign rfl rfl) ?_
  refine RL.opD (by decide) (opv_assign rfl rfl) ?_
  refine RL.nil ?_
  refine thnN ?_
  refine W.seq ?_
  refine W.seq ?_
  obtain ⟨x8, hy1, hp⟩ := Option.bind_eq_some_iff.1 hp
  refine W.cut (fun φ' h' => Fr.sub [(0, u0), (1, u1), (4, (.bool false)), (32, (.bool x1)), (5, (.pointer (some ⟨bb1, 0, none⟩))), (6, (.pointer (some ⟨bb2, 0, none⟩))), (7, (.int .i64 (IntKind.wrap .i64 (1 + x4)))), (8, v6), (9, (.bool x5.2)), (10, (ooV v7)), (11, (.bool x6.2)), (12, v8), (13, (.bool x7.2)), (81, (.bool x8))] φ' ∧ hp9 = h') ?_ ?_
  ·refine W.region ?_
   refine RL.opD (by decide) (opv_move rfl rfl) ?_
   refine RL.opD (by decide) (opv_not rfl rfl) ?_
   refine RL.opD (by decide) (opv_move rfl rfl) ?_
   by_cases c2 : (!x5.2) = true
   ·rw [if_pos c2] at hy1
    refine RL.noT rfl rfl c2 (by decide) ?_
    refine RL.noT rfl rfl c2 (by decide) ?_
    refine RL.opD (by decide) (opv_pick rfl rfl (fun _ => rfl) (fun e => absurd (Eq.trans (Eq.symm e) c2) (by decide)) rfl) ?_
    refine RL.opD (by decide) (opv_move rfl rfl) ?_
    refine RL.noT rfl rfl rfl (by decide) ?_
    refine RL.noT rfl rfl rfl (by decide) ?_
    refine RL.opD (by decide) (opv_pick rfl rfl (fun _ => rfl) (fun e => absurd (Eq.trans (Eq.symm e) rfl) (by decide)) rfl) ?_
    refine RL.opD (by decide) (opv_move rfl rfl) ?_
    refine RL.noT rfl rfl rfl (by decide) ?_
    refine RL.noT rfl rfl rfl (by decide) ?_
    refine RL.noT rfl rfl rfl (by decide) ?_
    refine RL.noT rfl rfl rfl (by decide) ?_
    refine RL.noT rfl rfl rfl (by decide) ?_
    refine RL.opD (by decide) (opv_pick rfl rfl (fun _ => rfl) (fun e => absurd (Eq.trans (Eq.symm e) rfl) (by decide)) rfl) ?_
    refine RL.opD (by decide) (opv_move rfl rfl) ?_
    refine RL.noT rfl rfl rfl (by decide) ?_
    refine RL.noT rfl rfl rfl (by decide) ?_
    refine RL.noT rfl rfl rfl (by decide) ?_
    refine RL.opD (by decide) (opv_pick rfl rfl (fun _ => rfl) (fun e => absurd (Eq.trans (Eq.symm e) rfl) (by decide)) rfl) ?_
    refine RL.nil ?_
    have ey1 := Option.some.inj hy1
    subst ey1
    refine onlyN ?_
    exact ⟨⟨rfl, rfl, rfl, rfl, rfl, rfl, rfl, rfl, rfl, rfl, rfl, rfl, rfl, rfl, trivial⟩, rfl⟩
   ·rw [if_neg c2] at hy1
    have c2 := eq_false_of_ne_true c2
    refine RL.yesD rfl rfl c2 (by decide) (opv_move rfl rfl) ?_
    refine RL.yesD rfl rfl c2 (by decide) (opv_not rfl rfl) ?_
    refine RL.opD (by decide) (opv_pick rfl rfl (fun e => absurd (Eq.trans (Eq.symm e) c2) (by decide)) (fun _ => rfl) rfl) ?_
    refine RL.opD (by decide) (opv_move rfl rfl) ?_
    by_cases c3 : (!x6.2) = true
    ·rw [if_pos c3] at hy1
     refine RL.noT rfl rfl c3 (by decide) ?_
     refine RL.noT rfl rfl c3 (by decide) ?_
     refine RL.opD (by decide) (opv_pick rfl rfl (fun _ => rfl) (fun e => absurd (Eq.trans (Eq.symm e) c3) (by decide)) rfl) ?_
     refine RL.opD (by decide) (opv_move rfl rfl) ?_
     refine RL.noT rfl rfl rfl (by decide) ?_
     refine RL.noT rfl rfl rfl (by decide) ?_
     refine RL.noT rfl rfl rfl (by decide) ?_
     refine RL.noT rfl rfl rfl (by decide) ?_
     refine RL.noT rfl rfl rfl (by decide) ?_
     refine RL.opD (by decide) (opv_pick rfl rfl (fun _ => rfl) (fun e => absurd (Eq.trans (Eq.symm e) rfl) (by decide)) rfl) ?_
     refine RL.opD (by decide) (opv_move rfl rfl) ?_
     refine RL.noT rfl rfl rfl (by decide) ?_
     refine RL.noT rfl rfl rfl (by decide) ?_
     refine RL.noT rfl rfl rfl (by decide) ?_
     refine RL.opD (by decide) (opv_pick rfl rfl (fun _ => rfl) (fun e => absurd (Eq.trans (Eq.symm e) rfl) (by decide)) rfl) ?_
     refine RL.nil ?_
     have ey1 := Option.some.inj hy1
     subst ey1
     refine onlyN ?_
     exact ⟨⟨rfl, rfl, rfl, rfl, rfl, rfl, rfl, rfl, rfl, rfl, rfl, rfl, rfl, rfl, trivial⟩, rfl⟩
    ·rw [if_neg c3] at hy1
     have c3 := eq_false_of_ne_true c3
     refine RL.yesD rfl rfl c3 (by decide) (opv_move rfl rfl) ?_
     refine RL.yesD rfl rfl c3 (by decide) (opv_not rfl rfl) ?_
     refine RL.opD (by decide) (opv_pick rfl rfl (fun e => absurd (Eq.trans (Eq.symm e) c3) (by decide)) (fun _ => rfl) rfl) ?_
     refine RL.opD (by decide) (opv_move rfl rfl) ?_
     by_cases c4 : (!x7.2) = true
     ·rw [if_pos c4] at hy1
      refine RL.noT rfl rfl c4 (by decide) ?_
      refine RL.noT rfl rfl c4 (by decide) ?_
      refine RL.noT rfl rfl c4 (by decide) ?_
      refine RL.noT rfl rfl c4 (by decide) ?_
      refine RL.noT rfl rfl c4 (by decide) ?_
      refine RL.opD (by decide) (opv_pick rfl rfl (fun _ => rfl) (fun e => absurd (Eq.trans (Eq.symm e) c4) (by decide)) rfl) ?_
      refine RL.opD (by decide) (opv_move rfl rfl) ?_
      refine RL.noT rfl rfl rfl (by decide) ?_
      refine RL.noT rfl rfl rfl (by decide) ?_
      refine RL.noT rfl rfl rfl (by decide) ?_
      refine RL.opD (by decide) (opv_pick rfl rfl (fun _ => rfl) (fun e => absurd (Eq.trans (Eq.symm e) rfl) (by decide)) rfl) ?_
      refine RL.nil ?_
      have ey1 := Option.some.inj hy1
      subst ey1
      refine onlyN ?_
      exact ⟨⟨rfl, rfl, rfl, rfl, rfl, rfl, rfl, rfl, rfl, rfl, rfl, rfl, rfl, rfl, trivial⟩, rfl⟩
     ·rw [if_neg c4] at hy1
      have c4 := eq_false_of_ne_true c4
      refine RL.yesD rfl rfl c4 (by decide) (opv_move rfl rfl) ?_
      refine RL.yesD rfl rfl c4 (by decide) (opv_len rfl Tryz.underlying38 rfl (ownO.read (Sep.at (o := ownO (kI .i64) 2 v8 x7.1) S_11 0 rfl))) ?_
      refine RL.yesD rfl rfl c4 (by decide) (opv_move rfl rfl) ?_
      refine RL.yesD rfl rfl c4 (by decide) (opv_len rfl Tryz.underlying32 rfl (ownO.read (Sep.at (o := ownO (kII .i64) 43 v6 x5.1) S_11 2 rfl))) ?_
      refine RL.yesD rfl rfl c4 (by decide) (opv_icmp rfl rfl rfl rfl) ?_
      refine RL.opD (by decide) (opv_pick rfl rfl (fun e => absurd (Eq.trans (Eq.symm e) c4) (by decide)) (fun _ => rfl) rfl) ?_
      refine RL.opD (by decide) (opv_move rfl rfl) ?_
      by_cases c5 : ((x7.1.length : Int) != (x5.1.length : Int)) = true
      ·rw [if_pos c5] at hy1
       refine RL.noT rfl rfl c5 (by decide) ?_
       refine RL.noT rfl rfl c5 (by decide) ?_
       refine RL.noT rfl rfl c5 (by decide) ?_
       refine RL.opD (by decide) (opv_pick rfl rfl (fun _ => rfl) (fun e => absurd (Eq.trans (Eq.symm e) c5) (by decide)) rfl) ?_
       refine RL.nil ?_
       have ey1 := Option.some.inj hy1
       subst ey1
       refine onlyN ?_
       exact ⟨⟨rfl, rfl, rfl, rfl, rfl, rfl, rfl, rfl, rfl, rfl, rfl, rfl, rfl, rfl, trivial⟩, rfl⟩
      ·rw [if_neg c5] at hy1
       have c5 := eq_false_of_ne_true c5
       refine RL.yesD rfl rfl c5 (by decide) (opv_move rfl rfl) ?_
       refine RL.yesD rfl rfl c5 (by decide) (opv_len rfl Tryz.underlying32 rfl (ownO.read (Sep.at (o := ownO (kII .i64) 43 v6 x5.1) S_11 2 rfl))) ?_
       refine RL.yesD rfl rfl c5 (by decide) (opv_icmp rfl rfl rfl rfl) ?_
       refine RL.opD (by decide) (opv_pick rfl rfl (fun e => absurd (Eq.trans (Eq.symm e) c5) (by decide)) (fun _ => rfl) rfl) ?_
       refine RL.nil ?_
       have ey1 := Option.some.inj hy1
       subst ey1
       refine onlyN ?_
       exact ⟨⟨rfl, rfl, rfl, rfl, rfl, rfl, rfl, rfl, rfl, rfl, rfl, rfl, rfl, rfl, trivial⟩, rfl⟩
  rintro φ' _ ⟨hs1, rfl⟩
  refine thnN ?_
  refine W.sub hs1 ?_
  by_cases c6 : x8 = true
  ·rw [if_pos c6] at hp
   refine W.condT rfl c6 ?_
   refine W.seq ?_
   refine W.region ?_
   refine RL.opD (by decide) (opv_assign rfl rfl) ?_
   refine RL.nil ?_
   refine thnN ?_
   refine W.ret ?_
   refine thnR ?_
   have er := Option.some.inj hp
   subst er
   exact Rt.one rfl rfl ⟨rfl, X_9, (Sep.nil _ _ _)⟩
  ·rw [if_neg c6] at hp
   have c6 := eq_false_of_ne_true c6
   refine W.condF rfl c6 ?_
   refine W.skip ?_
   refine thnN ?_
   refine W.seq ?_
   refine W.region ?_
   refine RL.opD (by decide) (opv_assign rfl rfl) ?_
   refine RL.nil ?_
   refine thnN ?_
   refine W.seq ?_
   refine W.seq ?_
   refine W.region ?_
   refine RL.opD (by decide) (opv_move rfl rfl) ?_
   refine RL.opD (by decide) (opv_len rfl Tryz.underlying32 rfl (ownO.read (Sep.at (o := ownO (kII .i64) 43 v6 x5.1) S_11 2 rfl))) ?_
   refine RL.opD (by decide) (opv_move rfl rfl) ?_
   refine RL.nil ?_
   refine thnN ?_
   obtain ⟨y2, hy2, hp⟩ := Option.bind_eq_some_iff.1 hp
   refine W.cut (fun φ' h' => ∃ x12, ∃ x13, ∃ x14, ∃ x15, y2 = .inl (x12, x13, x14, x15) ∧ Fr.sub [(0, u0), (1, u1), (32, (.bool x1)), (5, (.pointer (some ⟨bb1, 0, none⟩))), (6, (.pointer (some ⟨bb2, 0, none⟩))), (7, (.int .i64 (IntKind.wrap .i64 (1 + x4)))), (8, v6), (9, (.bool x5.2)), (10, (ooV v7)), (11, (.bool x6.2)), (12, v8), (13, (.bool x7.2)), (81, (.bool x8)), (83, (.int .i64 (x5.1.length : Int))), (4, (.bool x12)), (14, (.int .i64 x13)), (84, (.int .i64 x14)), (85, (.bool x15))] φ' ∧ Mod [] h0 h' ∧ Sep [] h0.size h' [ownO (kI .i64) 2 v8 x7.1, ooW 38 2 v7 x6.1, ownO (kII .i64) 43 v6 x5.1, boxO bb2 [v3, v4, v5], ownO (kF .f32) 66 v3 x3.1, ownO (kF .f32) 66 v4 x3.2.1, ownO (kF .f32) 66 v5 x3.2.2, boxO bb1 [(.int .i64 x2.1), (.int .i64 x2.2.1), (.bool x2.2.2.1), v1, v2], ownO (kF .f32) 66 v1 x2.2.2.2.1, ownO (kF .f32) 66 v2 x2.2.2.2.2]) ?_ ?_
   ·refine W.block ?_
    refine W.loopS (fun (s : (Bool × Int × Int)) φ' h' => Fr.sub [(0, u0), (1, u1), (32, (.bool x1)), (5, (.pointer (some ⟨bb1, 0, none⟩))), (6, (.pointer (some ⟨bb2, 0, none⟩))), (7, (.int .i64 (IntKind.wrap .i64 (1 + x4)))), (8, v6), (9, (.bool x5.2)), (10, (ooV v7)), (11, (.bool x6.2)), (12, v8), (13, (.bool x7.2)), (81, (.bool x8)), (83, (.int .i64 (x5.1.length : Int))), (4, (.bool s.1)), (14, (.int .i64 s.2.1)), (84, (.int .i64 s.2.2))] φ' ∧ Mod [] h0 h' ∧ Sep [] h0.size h' [ownO (kI .i64) 2 v8 x7.1, ooW 38 2 v7 x6.1, ownO (kII .i64) 43 v6 x5.1, boxO bb2 [v3, v4, v5], ownO (kF .f32) 66 v3 x3.1, ownO (kF .f32) 66 v4 x3.2.1, ownO (kF .f32) 66 v5 x3.2.2, boxO bb1 [(.int .i64 x2.1), (.int .i64 x2.2.1), (.bool x2.2.2.1), v1, v2], ownO (kF .f32) 66 v1 x2.2.2.2.1, ownO (kF .f32) 66 v2 x2.2.2.2.2]) hy2 ⟨⟨rfl, rfl, rfl, rfl, rfl, rfl, rfl, rfl, rfl, rfl, rfl, rfl, rfl, rfl, rfl, rfl, rfl, trivial⟩, X_9, (Sep.sel S_11 [0, 1, 2, 3, 4, 5, 6, 7, 8, 9] (by decide))⟩ ?_
    rintro ⟨x9, x10, x11⟩ φ' hp10 o1 ⟨hs2, X_10, S_12⟩ ho1 hy1
    have hs2 : Fr.sub [(0, u0), (1, u1), (32, (.bool x1)), (5, (.pointer (some ⟨bb1, 0, none⟩))), (6, (.pointer (some ⟨bb2, 0, none⟩))), (7, (.int .i64 (IntKind.wrap .i64 (1 + x4)))), (8, v6), (9, (.bool x5.2)), (10, (ooV v7)), (11, (.bool x6.2)), (12, v8), (13, (.bool x7.2)), (81, (.bool x8)), (83, (.int .i64 (x5.1.length : Int))), (4, (.bool x9)), (14, (.int .i64 x10)), (84, (.int .i64 x11))] φ' := hs2
    have S_12 : Sep [] h0.size hp10 [ownO (kI .i64) 2 v8 x7.1, ooW 38 2 v7 x6.1, ownO (kII .i64) 43 v6 x5.1, boxO bb2 [v3, v4, v5], ownO (kF .f32) 66 v3 x3.1, ownO (kF .f32) 66 v4 x3.2.1, ownO (kF .f32) 66 v5 x3.2.2, boxO bb1 [(.int .i64 x2.1), (.int .i64 x2.2.1), (.bool x2.2.2.1), v1, v2], ownO (kF .f32) 66 v1 x2.2.2.2.1, ownO (kF .f32) 66 v2 x2.2.2.2.2] := S_12
    have ho1 : laws_FnMessages.s0 x2 x3 x5 x7 x9 x10 x11 = some o1 := ho1
    unfold laws_FnMessages.s0 at ho1
    refine W.sub hs2 ?_
    refine W.seq ?_
    refine W.region ?_
    refine RL.opD (by decide) (opv_icmp rfl rfl rfl rfl) ?_
    refine RL.nil ?_
    refine thnN ?_
    refine W.seq ?_
    by_cases c7 : (decide (x11 < (x5.1.length : Int))) = true
    ·rw [if_pos c7] at ho1
     refine W.condT rfl c7 ?_
     refine W.skip ?_
     refine thnN ?_
     refine W.seq ?_
     refine W.block ?_
     refine W.seq ?_
     refine W.region ?_
     refine RL.opD (by decide) (opv_move rfl rfl) ?_
     refine RL.opD (by decide) (opv_assign rfl rfl) ?_
     refine RL.nil ?_
     refine thnN ?_
     refine W.seq ?_
     obtain ⟨x16, hx16, ho1⟩ := Option.bind_eq_some_iff.1 ho1
     obtain ⟨x17, hx17, ho1⟩ := Option.bind_eq_some_iff.1 ho1
     refine W.sub (ψ := [(0, u0), (1, u1), (32, (.bool x1)), (5, (.pointer (some ⟨bb1, 0, none⟩))), (6, (.pointer (some ⟨bb2, 0, none⟩))), (7, (.int .i64 (IntKind.wrap .i64 (1 + x4)))), (8, v6), (9, (.bool x5.2)), (10, (ooV v7)), (11, (.bool x6.2)), (12, v8), (13, (.bool x7.2)), (81, (.bool x8)), (83, (.int .i64 (x5.1.length : Int))), (4, (.bool x9)), (14, (.int .i64 x10)), (84, (.int .i64 x11)), (85, (.bool (decide (x11 < (x5.1.length : Int))))), (15, (.int .i64 x11))]) ⟨rfl, rfl, rfl, rfl, rfl, rfl, rfl, rfl, rfl, rfl, rfl, rfl, rfl, rfl, rfl, rfl, rfl, rfl, rfl, trivial⟩ ?_
     refine W.regionM [fun v _ => @Eq Value (.agg (List.toArray (α := Value) [(.int .i64 x2.1), (.int .i64 x2.2.1), (.bool x2.2.2.1), v1, v2])) v, fun v _ => @Eq Value v6 v, fun v _ => @Eq Value (.int .i64 x11) v, fun v _ => PtI 2 v v6 (Int.toNat x11), fun v _ => @Eq Value (.agg (List.toArray (α := Value) [(.int .i64 x16.1), (.int .i64 x16.2)])) v, fun v h => ∃ v10, @Eq Value v (.tuple (List.toArray (α := Value) [v10, (.bool x17.2)])) ∧ Sep [] hp10.size h [ownO (kI .i64) 2 v10 x17.1], fun v h => ∃ v10, @Eq Value v (.tuple (List.toArray (α := Value) [v10, (.bool x17.2)])) ∧ Sep [] hp10.size h [ownO (kI .i64) 2 v10 x17.1], fun v h => ∃ v10, @Eq Value v v10 ∧ Sep [] hp10.size h [ownO (kI .i64) 2 v10 x17.1], fun v _ => @Eq Value (.bool x17.2) v, fun v h => ∃ v10, @Eq Value v v10 ∧ Sep [] hp10.size h [ownO (kI .i64) 2 v10 x17.1], fun v _ => @Eq Value (.bool x17.2) v] [none, none, none, none, none, some (fun u => [Value.ownBlock (vget u 0)]), none, none, none, none, none] [none, none, none, none, none, none, some (93, fun u => u), some (87, fun u => vget u 0), none, some (94, fun u => u)] [[], [], [], [1, 2], [3], [0, 4], [5], [6], [6], [7], [8]] [5, 6, 7, 9, 10] Tryz.mixed (by decide +kernel) (by decide +kernel) rfl rfl rfl (by decide +kernel) rfl ⟨fun _ _ _ h _ => h, fun _ _ _ h _ => h, fun _ _ _ h _ => h, fun _ _ _ h _ => h, fun _ _ _ h _ => h, fun _ _ _ ⟨u0_, e, h⟩ x => ⟨u0_, e, h.ext x⟩, fun _ _ _ ⟨u0_, e, h⟩ x => ⟨u0_, e, h.ext x⟩, fun _ _ _ ⟨u0_, e, h⟩ x => ⟨u0_, e, h.ext x⟩, fun _ _ _ h _ => h, fun _ _ _ ⟨u0_, e, h⟩ x => ⟨u0_, e, h.ext x⟩, fun _ _ _ h _ => h, trivial⟩ ?_ ?_
     ·refine ⟨⟨rfl, ?_⟩, ⟨rfl, ?_⟩, ⟨rfl, ?_⟩, ⟨rfl, ?_⟩, ⟨rfl, ?_⟩, ⟨rfl, ?_⟩, ⟨rfl, ?_⟩, ⟨rfl, ?_⟩, ⟨rfl, ?_⟩, ⟨rfl, ?_⟩, ⟨rfl, ?_⟩, trivial⟩
      ·rintro hp12 E_1
       refine Dep.nil ?_
       refine GuardOK.none rfl ?_
       exact OpV.toDx (opv_loadA (us := [(.int .i64 x2.1), (.int .i64 x2.2.1), (.bool x2.2.2.1), v1, v2]) rfl Tryz.agg26 Tryz.size26 rfl (Sep.at (o := boxO bb1 [(.int .i64 x2.1), (.int .i64 x2.2.1), (.bool x2.2.2.1), v1, v2]) (Sep.ext S_12 E_1) 7 rfl) rfl rfl) rfl
      ·rintro hp13 E_2
       refine Dep.nil ?_
       refine GuardOK.none rfl ?_
       exact OpV.toDx (opv_move rfl rfl) rfl
      ·rintro hp14 E_3
       refine Dep.nil ?_
       refine GuardOK.none rfl ?_
       exact OpV.toDx (opv_move rfl rfl) rfl
      ·rintro hp15 E_4 _ rfl _ rfl
       refine Dep.nil ?_
       refine GuardOK.none rfl ?_
       exact OpV.toSx (opv_index rfl Tryz.underlying32 (by rw [Tryz.size43]; rfl) rfl rfl (ownO.read (Sep.at (o := ownO (kII .i64) 43 v6 x5.1) (Sep.ext S_12 E_4) 2 rfl)) hx16) (fun _ h => h)
      ·rintro hp16 E_5 v9 fv9
       refine Dep.nil ?_
       refine GuardOK.none rfl ?_
       exact OpV.toDx (opv_loadWhole (K := (kII .i64)) rfl Tryz.agg43 (by rw [Tryz.size43]; rfl) rfl fv9 (ownO.read (Sep.at (o := ownO (kII .i64) 43 v6 x5.1) (Sep.ext S_12 E_5) 2 rfl)) (idx_some hx16).2.2 kII_all) rfl
      ·rintro hp17 E_6 _ rfl _ rfl
       refine Dep.nil ?_
       refine GuardOK.none rfl ?_
       exact OpV.mono (opv_call (cap := []) (impl_HaloRows_ok _ _ _ _ _ _ (ownO.read (Sep.at (o := ownO (kF .f32) 66 v1 x2.2.2.2.1) (Sep.ext S_12 E_6) 8 rfl)) _ _ (ownO.read (Sep.at (o := ownO (kF .f32) 66 v2 x2.2.2.2.2) (Sep.ext S_12 E_6) 9 rfl)) _ _ _ hx17) rfl rfl ⟨rfl, rfl, trivial⟩ Tryz.func11 rfl rfl) (by rintro _ _ ⟨v10, rfl, M_, T_⟩; exact ⟨Mod.ext M_, ⟨v10, rfl, Sep.weak T_ (Ext.size E_6)⟩, Sep.fresh T_⟩)
      ·rintro hp18 E_7 _ ⟨v10, rfl, T_10⟩
       refine Dep.nil ?_
       refine GuardOK.none rfl ?_
       exact OpV.mono (opv_move rfl rfl) (by rintro _ _ ⟨rfl, rfl⟩; exact ⟨⟨Ext.refl _, v10, rfl, T_10⟩, _, rfl, rfl⟩)
      ·rintro hp19 E_8 _ ⟨v10, rfl, T_10⟩
       refine Dep.nil ?_
       refine GuardOK.none rfl ?_
       exact OpV.mono (opv_extract rfl rfl rfl) (by rintro _ _ ⟨rfl, rfl⟩; exact ⟨⟨Ext.refl _, v10, rfl, T_10⟩, _, rfl, rfl⟩)
      ·rintro hp20 E_9 _ ⟨v10, rfl, T_10⟩
       refine Dep.nil ?_
       refine GuardOK.none rfl ?_
       exact OpV.toDx (opv_extract rfl rfl rfl) rfl
      ·rintro hp21 E_10 v10 ⟨_, rfl, T_10⟩
       refine Dep.nil ?_
       refine GuardOK.none rfl ?_
       exact OpV.mono (opv_assign rfl rfl) (by rintro _ _ ⟨rfl, rfl⟩; exact ⟨⟨Ext.refl _, v10, rfl, T_10⟩, _, rfl, rfl⟩)
      ·rintro hp22 E_11 _ rfl
       refine Dep.nil ?_
       refine GuardOK.none rfl ?_
       exact OpV.toDx (opv_assign rfl rfl) rfl
     rintro hp23 E_12 _ ⟨v10, rfl, T_10⟩ z6_ _ z7_ _ z9_ _ _ rfl
     refine DepM.nil ?_
     intro PW_1 LK_
     have ez6_ : z6_ = (.tuple (List.toArray (α := Value) [v10, (.bool x17.2)])) := LK_ 6 _ _ _ _ _ (by decide) rfl rfl rfl rfl
     subst z6_
     have ez7_ : z7_ = v10 := LK_ 7 _ _ _ _ _ (by decide) rfl rfl rfl rfl
     subst z7_
     have ez9_ : z9_ = v10 := LK_ 9 _ _ _ _ _ (by decide) rfl rfl rfl rfl
     subst z9_
     have X_12 := Mod.lift X_10 E_12
     have S_14 := Sep.join S_12 (Mod.size X_10) (Ext.mod E_12 []) T_10
     show RL _ _ _ _ [] _ _
     refine RL.nil ?_
     refine thnN ?_
     refine W.seq ?_
     refine W.seq ?_
     refine W.region ?_
     refine RL.opD (by decide) (opv_move rfl rfl) ?_
     refine RL.opD (by decide) (opv_not rfl rfl) ?_
     refine RL.nil ?_
     refine thnN ?_
     by_cases c8 : (!x17.2) = true
     ·rw [if_pos c8] at ho1
      refine W.condT rfl c8 ?_
      refine W.seq ?_
      refine W.region ?_
      refine RL.opD (by decide) (opv_assign rfl rfl) ?_
      refine RL.nil ?_
      refine thnN ?_
      refine W.ret ?_
      refine thnR ?_
      refine blkR ?_
      refine thnR ?_
      have eo1 := Option.some.inj ho1
      subst eo1
      have ey2 := hy1 _ rfl
      subst ey2
      try dsimp only at hp
      refine rndR ?_
      refine blkR ?_
      refine onlyR ?_
      refine thnR ?_
      have er := Option.some.inj hp
      subst er
      exact Rt.one rfl rfl ⟨rfl, X_12, (Sep.nil _ _ _)⟩
     ·rw [if_neg c8] at ho1
      have c8 := eq_false_of_ne_true c8
      refine W.condF rfl c8 ?_
      refine W.skip ?_
      refine thnN ?_
      refine W.seq ?_
      refine W.region ?_
      refine RL.opD (by decide) (opv_move rfl rfl) ?_
      refine RL.opD (by decide) (opv_move rfl rfl) ?_
      refine RL.opD (by decide) (opv_len rfl Tryz.underlying38 rfl (ownO.read (Sep.at (o := ownO (kI .i64) 2 v10 x17.1) S_14 0 rfl))) ?_
      refine RL.opD (by decide) (opv_move rfl rfl) ?_
      refine RL.opD (by decide) (opv_move rfl rfl) ?_
      obtain ⟨x18, hx18, ho1⟩ := Option.bind_eq_some_iff.1 ho1
      refine RL.op _ (by decide) (opv_index rfl Tryz.underlying32 (by rw [Tryz.size43]; rfl) rfl rfl (ownO.read (Sep.at (o := ownO (kII .i64) 43 v6 x5.1) S_14 3 rfl)) hx18) ?_
      rintro v12 _ ⟨fv12, rfl⟩
      refine RL.op _ (by decide) (opv_fieldE (K := (kII .i64)) rfl Tryz.fo43_1 rfl fv12 (ownO.read (Sep.at (o := ownO (kII .i64) 43 v6 x5.1) S_14 3 rfl)) (idx_some hx18).2.1) ?_
      rintro v13 _ ⟨fv13, rfl⟩
      refine RL.opD (by decide) (opv_loadPart (K := (kII .i64)) (off := 1) rfl Tryz.one2 rfl fv13 (ownO.read (Sep.at (o := ownO (kII .i64) 43 v6 x5.1) S_14 3 rfl)) (idx_some hx18).2.2 kII_get1) ?_
      refine RL.opD (by decide) (opv_sub rfl rfl rfl) ?_
      refine RL.opD (by decide) (opv_add rfl rfl rfl) ?_
      refine RL.opD (by decide) (opv_assign rfl rfl) ?_
      refine RL.nil ?_
      refine thnN ?_
      refine W.seq ?_
      refine W.region ?_
      refine RL.opD (by decide) (opv_assign rfl rfl) ?_
      refine RL.nil ?_
      refine thnN ?_
      refine W.seq ?_
      refine W.seq ?_
      refine W.region ?_
      refine RL.opD (by decide) (opv_move rfl rfl) ?_
      refine RL.opD (by decide) (opv_move rfl rfl) ?_
      obtain ⟨x19, hx19, ho1⟩ := Option.bind_eq_some_iff.1 ho1
      refine RL.op _ (by decide) (opv_index rfl Tryz.underlying32 (by rw [Tryz.size43]; rfl) rfl rfl (ownO.read (Sep.at (o := ownO (kII .i64) 43 v6 x5.1) S_14 3 rfl)) hx19) ?_
      rintro v14 _ ⟨fv14, rfl⟩
      refine RL.op _ (by decide) (opv_fieldE (K := (kII .i64)) rfl Tryz.fo43_0 rfl fv14 (ownO.read (Sep.at (o := ownO (kII .i64) 43 v6 x5.1) S_14 3 rfl)) (idx_some hx19).2.1) ?_
      rintro v15 _ ⟨fv15, rfl⟩
      refine RL.opD (by decide) (opv_loadPart (K := (kII .i64)) (off := 0) rfl Tryz.one2 rfl fv15 (ownO.read (Sep.at (o := ownO (kII .i64) 43 v6 x5.1) S_14 3 rfl)) (idx_some hx19).2.2 kII_get0) ?_
      refine RL.opD (by decide) (opv_assign rfl rfl) ?_
      refine RL.nil ?_
      refine thnN ?_
      obtain ⟨y3, hy3, ho1⟩ := Option.bind_eq_some_iff.1 ho1
      refine W.cut (fun φ' h' => ∃ x23, ∃ x24, ∃ x25, ∃ x26, y3 = .inl (x23, x24, x25, x26) ∧ Fr.sub [(0, u0), (1, u1), (32, (.bool x1)), (5, (.pointer (some ⟨bb1, 0, none⟩))), (6, (.pointer (some ⟨bb2, 0, none⟩))), (7, (.int .i64 (IntKind.wrap .i64 (1 + x4)))), (8, v6), (9, (.bool x5.2)), (10, (ooV v7)), (11, (.bool x6.2)), (12, v8), (13, (.bool x7.2)), (81, (.bool x8)), (83, (.int .i64 (x5.1.length : Int))), (14, (.int .i64 (IntKind.wrap .i64 (x10 + (IntKind.wrap .i64 ((x17.1.length : Int) - x18.2)))))), (84, (.int .i64 x11)), (85, (.bool (decide (x11 < (x5.1.length : Int))))), (15, (.int .i64 x11)), (16, v10), (17, (.bool x17.2)), (97, (.bool (!x17.2))), (4, (.bool x23)), (18, (.int .i64 x24)), (19, (.int .i64 x25)), (125, (.bool x26))] φ' ∧ Mod [] h0 h' ∧ Sep [] h0.size h' [ownO (kI .i64) 2 v10 x17.1, ownO (kI .i64) 2 v8 x7.1, ooW 38 2 v7 x6.1, ownO (kII .i64) 43 v6 x5.1, boxO bb2 [v3, v4, v5], ownO (kF .f32) 66 v3 x3.1, ownO (kF .f32) 66 v4 x3.2.1, ownO (kF .f32) 66 v5 x3.2.2, boxO bb1 [(.int .i64 x2.1), (.int .i64 x2.2.1), (.bool x2.2.2.1), v1, v2], ownO (kF .f32) 66 v1 x2.2.2.2.1, ownO (kF .f32) 66 v2 x2.2.2.2.2]) ?_ ?_
      ·refine W.block ?_
       refine W.loopS (fun (s : (Bool × Int × Int)) φ' h' => Fr.sub [(0, u0), (1, u1), (32, (.bool x1)), (5, (.pointer (some ⟨bb1, 0, none⟩))), (6, (.pointer (some ⟨bb2, 0, none⟩))), (7, (.int .i64 (IntKind.wrap .i64 (1 + x4)))), (8, v6), (9, (.bool x5.2)), (10, (ooV v7)), (11, (.bool x6.2)), (12, v8), (13, (.bool x7.2)), (81, (.bool x8)), (83, (.int .i64 (x5.1.length : Int))), (14, (.int .i64 (IntKind.wrap .i64 (x10 + (IntKind.wrap .i64 ((x17.1.length : Int) - x18.2)))))), (84, (.int .i64 x11)), (85, (.bool (decide (x11 < (x5.1.length : Int))))), (15, (.int .i64 x11)), (16, v10), (17, (.bool x17.2)), (97, (.bool (!x17.2))), (4, (.bool s.1)), (18, (.int .i64 s.2.1)), (19, (.int .i64 s.2.2))] φ' ∧ Mod [] h0 h' ∧ Sep [] h0.size h' [ownO (kI .i64) 2 v10 x17.1, ownO (kI .i64) 2 v8 x7.1, ooW 38 2 v7 x6.1, ownO (kII .i64) 43 v6 x5.1, boxO bb2 [v3, v4, v5], ownO (kF .f32) 66 v3 x3.1, ownO (kF .f32) 66 v4 x3.2.1, ownO (kF .f32) 66 v5 x3.2.2, boxO bb1 [(.int .i64 x2.1), (.int .i64 x2.2.1), (.bool x2.2.2.1), v1, v2], ownO (kF .f32) 66 v1 x2.2.2.2.1, ownO (kF .f32) 66 v2 x2.2.2.2.2]) hy3 ⟨⟨rfl, rfl, rfl, rfl, rfl, rfl, rfl, rfl, rfl, rfl, rfl, rfl, rfl, rfl, rfl, rfl, rfl, rfl, rfl, rfl, rfl, rfl, rfl, rfl, trivial⟩, X_12, (Sep.sel S_14 [0, 1, 2, 3, 4, 5, 6, 7, 8, 9, 10] (by decide))⟩ ?_
       rintro ⟨x20, x21, x22⟩ φ' hp24 o2 ⟨hs4, X_13, S_15⟩ ho2 hy2
       have hs4 : Fr.sub [(0, u0), (1, u1), (32, (.bool x1)), (5, (.pointer (some ⟨bb1, 0, none⟩))), (6, (.pointer (some ⟨bb2, 0, none⟩))), (7, (.int .i64 (IntKind.wrap .i64 (1 + x4)))), (8, v6), (9, (.bool x5.2)), (10, (ooV v7)), (11, (.bool x6.2)), (12, v8), (13, (.bool x7.2)), (81, (.bool x8)), (83, (.int .i64 (x5.1.length : Int))), (14, (.int .i64 (IntKind.wrap .i64 (x10 + (IntKind.wrap .i64 ((x17.1.length : Int) - x18.2)))))), (84, (.int .i64 x11)), (85, (.bool (decide (x11 < (x5.1.length : Int))))), (15, (.int .i64 x11)), (16, v10), (17, (.bool x17.2)), (97, (.bool (!x17.2))), (4, (.bool x20)), (18, (.int .i64 x21)), (19, (.int .i64 x22))] φ' := hs4
       have S_15 : Sep [] h0.size hp24 [ownO (kI .i64) 2 v10 x17.1, ownO (kI .i64) 2 v8 x7.1, ooW 38 2 v7 x6.1, ownO (kII .i64) 43 v6 x5.1, boxO bb2 [v3, v4, v5], ownO (kF .f32) 66 v3 x3.1, ownO (kF .f32) 66 v4 x3.2.1, ownO (kF .f32) 66 v5 x3.2.2, boxO bb1 [(.int .i64 x2.1), (.int .i64 x2.2.1), (.bool x2.2.2.1), v1, v2], ownO (kF .f32) 66 v1 x2.2.2.2.1, ownO (kF .f32) 66 v2 x2.2.2.2.2] := S_15
       have ho2 : laws_FnMessages.s1 x2 x3 x5 x11 x20 x21 x22 = some o2 := ho2
       unfold laws_FnMessages.s1 at ho2
       refine W.sub hs4 ?_
       refine W.seq ?_
       refine W.seq ?_
       refine W.regionH 13 rfl Tryz.mixed ?_
       refine HK.d 0 rfl rfl rfl (by decide) (by decide +kernel) (fun _ _ _ h => h) (opx_move rfl rfl) ?_
       refine HK.d 1 rfl rfl rfl (by decide) (by decide +kernel) (fun _ _ _ h => h) (opx_move rfl rfl) ?_
       refine HK.d 2 rfl rfl rfl (by decide) (by decide +kernel) (fun _ _ _ h => h) (opx_move rfl rfl) ?_
       obtain ⟨x27, hx27, ho2⟩ := Option.bind_eq_some_iff.1 ho2
       refine HK.f 3 rfl rfl rfl (by decide) (by decide +kernel) (fun _ _ _ h => h) (opx_indexP rfl Tryz.underlying32 (by rw [Tryz.size43]; rfl) rfl rfl (ownO.read (Sep.at (o := ownO (kII .i64) 43 v6 x5.1) S_15 3 rfl)) hx27) ?_
       intro v16 fv16
       refine HK.f 4 rfl rfl rfl (by decide) (by decide +kernel) (fun _ _ _ h => h) (opx_fieldE (K := (kII .i64)) rfl Tryz.fo43_0 rfl fv16 (ownO.read (Sep.at (o := ownO (kII .i64) 43 v6 x5.1) S_15 3 rfl)) (idx_some hx27).2.1) ?_
       intro v17 fv17
       refine HK.d 5 rfl rfl rfl (by decide) (by decide +kernel) (fun _ _ _ h => h) (opx_loadPart (K := (kII .i64)) (off := 0) rfl Tryz.one2 rfl fv17 (ownO.read (Sep.at (o := ownO (kII .i64) 43 v6 x5.1) S_15 3 rfl)) (idx_some hx27).2.2 kII_get0) ?_
       refine HK.d 6 rfl rfl rfl (by decide) (by decide +kernel) (fun _ _ _ h => h) (opx_move rfl rfl) ?_
       refine HK.d 7 rfl rfl rfl (by decide) (by decide +kernel) (fun _ _ _ h => h) (opx_move rfl rfl) ?_
       obtain ⟨x28, hx28, ho2⟩ := Option.bind_eq_some_iff.1 ho2
       refine HK.f 8 rfl rfl rfl (by decide) (by decide +kernel) (fun _ _ _ h => h) (opx_indexP rfl Tryz.underlying32 (by rw [Tryz.size43]; rfl) rfl rfl (ownO.read (Sep.at (o := ownO (kII .i64) 43 v6 x5.1) S_15 3 rfl)) hx28) ?_
       intro v18 fv18
       refine HK.f 9 rfl rfl rfl (by decide) (by decide +kernel) (fun _ _ _ h => h) (opx_fieldE (K := (kII .i64)) rfl Tryz.fo43_1 rfl fv18 (ownO.read (Sep.at (o := ownO (kII .i64) 43 v6 x5.1) S_15 3 rfl)) (idx_some hx28).2.1) ?_
       intro v19 fv19
       refine HK.d 10 rfl rfl rfl (by decide) (by decide +kernel) (fun _ _ _ h => h) (opx_loadPart (K := (kII .i64)) (off := 1) rfl Tryz.one2 rfl fv19 (ownO.read (Sep.at (o := ownO (kII .i64) 43 v6 x5.1) S_15 3 rfl)) (idx_some hx28).2.2 kII_get1) ?_
       refine HK.d 11 rfl rfl rfl (by decide) (by decide +kernel) (fun _ _ _ h => h) (opx_add rfl rfl rfl) ?_
       refine HK.d 12 rfl rfl rfl (by decide) (by decide +kernel) (fun _ _ _ h => h) (opx_icmp rfl rfl rfl rfl) ?_
       refine HK.done (by decide +kernel) ?_
       refine thnN ?_
       by_cases c9 : (decide (x22 < (IntKind.wrap .i64 (x27.1 + x28.2)))) = true
       ·rw [if_pos c9] at ho2
        refine W.condT rfl c9 ?_
        refine W.skip ?_
        refine thnN ?_
        refine W.seq ?_
        refine W.block ?_
        refine W.seq ?_
        refine W.region ?_
        refine RL.opD (by decide) (opv_loadA (us := [(.int .i64 x2.1), (.int .i64 x2.2.1), (.bool x2.2.2.1), v1, v2]) rfl Tryz.agg26 Tryz.size26 rfl (Sep.at (o := boxO bb1 [(.int .i64 x2.1), (.int .i64 x2.2.1), (.bool x2.2.2.1), v1, v2]) S_15 8 rfl) rfl rfl) ?_
        refine RL.opD (by decide) (opv_loadA (us := [v3, v4, v5]) rfl Tryz.agg29 Tryz.size29 rfl (Sep.at (o := boxO bb2 [v3, v4, v5]) S_15 4 rfl) rfl rfl) ?_
        refine RL.opD (by decide) (opv_move rfl rfl) ?_
        obtain ⟨x29, hx29, ho2⟩ := Option.bind_eq_some_iff.1 ho2
        refine RL.op _ (by decide) (opv_call (cap := []) (impl_RowOf_ok _ _ _ _ _ _ (ownO.read (Sep.at (o := ownO (kF .f32) 66 v1 x2.2.2.2.1) S_15 9 rfl)) _ _ (ownO.read (Sep.at (o := ownO (kF .f32) 66 v2 x2.2.2.2.2) S_15 10 rfl)) _ _ (ownO.read (Sep.at (o := ownO (kF .f32) 66 v3 x3.1) S_15 5 rfl)) _ _ (ownO.read (Sep.at (o := ownO (kF .f32) 66 v4 x3.2.1) S_15 6 rfl)) _ _ (ownO.read (Sep.at (o := ownO (kF .f32) 66 v5 x3.2.2) S_15 7 rfl)) _ _ hx29) rfl rfl ⟨rfl, rfl, rfl, trivial⟩ Tryz.func12 rfl rfl) ?_
        rintro _ hp25 ⟨v20, rfl, MT_11, T_11⟩
        obtain ⟨X_14, S_16⟩ := Sep.turn0 X_13 S_15 MT_11 T_11
        refine RL.opD (by decide) (opv_move rfl rfl) ?_
        refine RL.opD (by decide) (opv_extract rfl rfl rfl) ?_
        refine RL.opD (by decide) (opv_extract rfl rfl rfl) ?_
        refine RL.opD (by decide) (opv_assign rfl rfl) ?_
        refine RL.opD (by decide) (opv_assign rfl rfl) ?_
        refine RL.nil ?_
        refine thnN ?_
        refine W.seq ?_
        refine W.region ?_
        refine RL.opD (by decide) (opv_move rfl rfl) ?_
        obtain ⟨x30, hx30, ho2⟩ := Option.bind_eq_some_iff.1 ho2
        refine RL.op _ (by decide) (opv_call (cap := []) (impl_NumbersText_ok _ (TabH.mod GT X_14) _ _ (ownO.read (Sep.at (o := ownO (kF .f32) 66 v20 x29.1) S_16 0 rfl)) _ hx30) rfl rfl ⟨rfl, trivial⟩ Tryz.func13 rfl rfl) ?_
        rintro _ hp26 ⟨rfl, MT_12, T_12⟩
        obtain ⟨X_15, S_17⟩ := Sep.turn0 X_14 S_16 MT_12 T_12
        refine RL.opD (by decide) (opv_move rfl rfl) ?_
        refine RL.opD (by decide) (opv_extract rfl rfl rfl) ?_
        refine RL.opD (by decide) (opv_extract rfl rfl rfl) ?_
        refine RL.opD (by decide) (opv_assign rfl rfl) ?_
        refine RL.opD (by decide) (opv_assign rfl rfl) ?_
        refine RL.nil ?_
        refine thnN ?_
        refine W.seq ?_
        refine W.region ?_
        refine RL.opD (by decide) (opv_move rfl rfl) ?_
        refine RL.opD (by decide) (opv_move rfl rfl) ?_
        obtain ⟨x31, hx31, ho2⟩ := Option.bind_eq_some_iff.1 ho2
        refine RL.op _ (by decide) (opv_call (cap := []) (spec_CheckOf_ok _ _ _ _ hx31) rfl rfl ⟨rfl, rfl, trivial⟩ Tryz.func14 rfl rfl) ?_
        rintro _ _ ⟨rfl, rfl⟩
        refine RL.opD (by decide) (opv_move rfl rfl) ?_
        refine RL.opD (by decide) (opv_extract rfl rfl rfl) ?_
        refine RL.opD (by decide) (opv_extract rfl rfl rfl) ?_
        refine RL.opD (by decide) (opv_assign rfl rfl) ?_
        refine RL.opD (by decide) (opv_assign rfl rfl) ?_
        refine RL.nil ?_
        refine thnN ?_
        refine W.seq ?_
        refine W.seq ?_
        obtain ⟨x32, hy4, ho2⟩ := Option.bind_eq_some_iff.1 ho2
        refine W.cut (fun φ' h' => Fr.sub [(0, u0), (1, u1), (32, (.bool x1)), (5, (.pointer (some ⟨bb1, 0, none⟩))), (6, (.pointer (some ⟨bb2, 0, none⟩))), (7, (.int .i64 (IntKind.wrap .i64 (1 + x4)))), (8, v6), (9, (.bool x5.2)), (10, (ooV v7)), (11, (.bool x6.2)), (12, v8), (13, (.bool x7.2)), (81, (.bool x8)), (83, (.int .i64 (x5.1.length : Int))), (14, (.int .i64 (IntKind.wrap .i64 (x10 + (IntKind.wrap .i64 ((x17.1.length : Int) - x18.2)))))), (84, (.int .i64 x11)), (85, (.bool (decide (x11 < (x5.1.length : Int))))), (15, (.int .i64 x11)), (16, v10), (17, (.bool x17.2)), (97, (.bool (!x17.2))), (4, (.bool x20)), (18, (.int .i64 x21)), (19, (.int .i64 x22)), (125, (.bool (decide (x22 < (IntKind.wrap .i64 (x27.1 + x28.2)))))), (20, v20), (21, (.bool x29.2)), (22, (.string x30.1)), (23, (.bool x30.2)), (24, (.int .i64 x31.1)), (25, (.bool x31.2)), (155, (.bool x32))] φ' ∧ hp26 = h') ?_ ?_
        ·refine W.region ?_
         refine RL.opD (by decide) (opv_move rfl rfl) ?_
         refine RL.opD (by decide) (opv_not rfl rfl) ?_
         refine RL.opD (by decide) (opv_move rfl rfl) ?_
         by_cases c10 : (!x29.2) = true
         ·rw [if_pos c10] at hy4
          refine RL.noT rfl rfl c10 (by decide) ?_
          refine RL.noT rfl rfl c10 (by decide) ?_
          refine RL.opD (by decide) (opv_pick rfl rfl (fun _ => rfl) (fun e => absurd (Eq.trans (Eq.symm e) c10) (by decide)) rfl) ?_
          refine RL.opD (by decide) (opv_move rfl rfl) ?_
          refine RL.noT rfl rfl rfl (by decide) ?_
          refine RL.noT rfl rfl rfl (by decide) ?_
          refine RL.opD (by decide) (opv_pick rfl rfl (fun _ => rfl) (fun e => absurd (Eq.trans (Eq.symm e) rfl) (by decide)) rfl) ?_
          refine RL.nil ?_
          have ey4 := Option.some.inj hy4
          subst ey4
          refine onlyN ?_
          exact ⟨⟨rfl, rfl, rfl, rfl, rfl, rfl, rfl, rfl, rfl, rfl, rfl, rfl, rfl, rfl, rfl, rfl, rfl, rfl, rfl, rfl, rfl, rfl, rfl, rfl, rfl, rfl, rfl, rfl, rfl, rfl, rfl, rfl, trivial⟩, rfl⟩
         ·rw [if_neg c10] at hy4
          have c10 := eq_false_of_ne_true c10
          refine RL.yesD rfl rfl c10 (by decide) (opv_move rfl rfl) ?_
          refine RL.yesD rfl rfl c10 (by decide) (opv_not rfl rfl) ?_
          refine RL.opD (by decide) (opv_pick rfl rfl (fun e => absurd (Eq.trans (Eq.symm e) c10) (by decide)) (fun _ => rfl) rfl) ?_
          refine RL.opD (by decide) (opv_move rfl rfl) ?_
          by_cases c11 : (!x30.2) = true
          ·rw [if_pos c11] at hy4
           refine RL.noT rfl rfl c11 (by decide) ?_
           refine RL.noT rfl rfl c11 (by decide) ?_
           refine RL.opD (by decide) (opv_pick rfl rfl (fun _ => rfl) (fun e => absurd (Eq.trans (Eq.symm e) c11) (by decide)) rfl) ?_
           refine RL.nil ?_
           have ey4 := Option.some.inj hy4
           subst ey4
           refine onlyN ?_
           exact ⟨⟨rfl, rfl, rfl, rfl, rfl, rfl, rfl, rfl, rfl, rfl, rfl, rfl, rfl, rfl, rfl, rfl, rfl, rfl, rfl, rfl, rfl, rfl, rfl, rfl, rfl, rfl, rfl, rfl, rfl, rfl, rfl, rfl, trivial⟩, rfl⟩
          ·rw [if_neg c11] at hy4
           have c11 := eq_false_of_ne_true c11
           refine RL.yesD rfl rfl c11 (by decide) (opv_move rfl rfl) ?_
           refine RL.yesD rfl rfl c11 (by decide) (opv_not rfl rfl) ?_
           refine RL.opD (by decide) (opv_pick rfl rfl (fun e => absurd (Eq.trans (Eq.symm e) c11) (by decide)) (fun _ => rfl) rfl) ?_
           refine RL.nil ?_
           have ey4 := Option.some.inj hy4
           subst ey4
           refine onlyN ?_
           exact ⟨⟨rfl, rfl, rfl, rfl, rfl, rfl, rfl, rfl, rfl, rfl, rfl, rfl, rfl, rfl, rfl, rfl, rfl, rfl, rfl, rfl, rfl, rfl, rfl, rfl, rfl, rfl, rfl, rfl, rfl, rfl, rfl, rfl, trivial⟩, rfl⟩
        rintro φ' _ ⟨hs6, rfl⟩
        refine thnN ?_
        refine W.sub hs6 ?_
        by_cases c12 : x32 = true
        ·rw [if_pos c12] at ho2
         refine W.condT rfl c12 ?_
         refine W.seq ?_
         refine W.region ?_
         refine RL.opD (by decide) (opv_assign rfl rfl) ?_
         refine RL.nil ?_
         refine thnN ?_
         refine W.ret ?_
         refine thnR ?_
         refine blkR ?_
         refine thnR ?_
         have eo2 := Option.some.inj ho2
         subst eo2
         have ey3 := hy2 _ rfl
         subst ey3
         try dsimp only at ho1
         refine rndR ?_
         refine blkR ?_
         refine onlyR ?_
         refine thnR ?_
         refine blkR ?_
         refine thnR ?_
         have eo1 := Option.some.inj ho1
         subst eo1
         have ey2 := hy1 _ rfl
         subst ey2
         try dsimp only at hp
         refine rndR ?_
         refine blkR ?_
         refine onlyR ?_
         refine thnR ?_
         have er := Option.some.inj hp
         subst er
         exact Rt.one rfl rfl ⟨rfl, X_15, (Sep.nil _ _ _)⟩
        ·rw [if_neg c12] at ho2
         have c12 := eq_false_of_ne_true c12
         refine W.condF rfl c12 ?_
         refine W.skip ?_
         refine thnN ?_
         refine W.region ?_
         refine RL.opD (by decide) (opv_move rfl rfl) ?_
         refine RL.opD (by decide) (opv_assign rfl rfl) ?_
         refine RL.nil ?_
         refine blkN ?_
         refine thnN ?_
         refine W.region ?_
         refine RL.opD (by decide) (opv_move rfl rfl) ?_
         refine RL.opD (by decide) (opv_add rfl rfl rfl) ?_
         refine RL.opD (by decide) (opv_assign rfl rfl) ?_
         refine RL.nil ?_
         have eo2 := Option.some.inj ho2
         subst eo2
         refine rndN (s' := (x20, x31.1, IntKind.wrap .i64 (x22 + 1))) rfl ?_
         exact ⟨⟨rfl, rfl, rfl, rfl, rfl, rfl, rfl, rfl, rfl, rfl, rfl, rfl, rfl, rfl, rfl, rfl, rfl, rfl, rfl, rfl, rfl, rfl, rfl, rfl, trivial⟩, X_15, (Sep.sel S_17 [1, 2, 3, 4, 5, 6, 7, 8, 9, 10, 11] (by decide))⟩
       ·rw [if_neg c9] at ho2
        have c9 := eq_false_of_ne_true c9
        refine W.condF rfl c9 ?_
        refine W.exit ?_
        refine thnX ?_
        refine rndX ?_
        refine blkI ?_
        have eo2 := Option.some.inj ho2
        subst eo2
        have ey3 := hy2 _ rfl
        subst ey3
        refine onlyN ?_
        exact ⟨x20, x21, x22, decide (x22 < (IntKind.wrap .i64 (x27.1 + x28.2))), rfl, ⟨rfl, rfl, rfl, rfl, rfl, rfl, rfl, rfl, rfl, rfl, rfl, rfl, rfl, rfl, rfl, rfl, rfl, rfl, rfl, rfl, rfl, rfl, rfl, rfl, rfl, trivial⟩, X_13, (Sep.sel S_15 [0, 1, 2, 3, 4, 5, 6, 7, 8, 9, 10] (by decide))⟩
      rintro φ' hp27 ⟨x23, x24, x25, x26, rfl, hs5, X_16, S_18⟩
      try dsimp only at ho1
      refine thnN ?_
      refine W.sub hs5 ?_
      refine W.seq ?_
      refine W.region ?_
      refine RL.opD (by decide) (opv_move rfl rfl) ?_
      refine RL.opD (by decide) (opv_move rfl rfl) ?_
      refine RL.opD (by decide) (opv_move rfl rfl) ?_
      obtain ⟨x33, hx33, ho1⟩ := Option.bind_eq_some_iff.1 ho1
      refine RL.op _ (by decide) (opv_index rfl Tryz.underlying38 (by rw [Tryz.size2]; rfl) rfl rfl (ownO.read (Sep.at (o := ownO (kI .i64) 2 v8 x7.1) S_18 1 rfl)) hx33) ?_
      rintro v21 _ ⟨fv21, rfl⟩
      refine RL.opD (by decide) (opv_loadI rfl Tryz.one2 rfl fv21 (ownO.read (Sep.at (o := ownO (kI .i64) 2 v8 x7.1) S_18 1 rfl)) hx33) ?_
      refine RL.opD (by decide) (opv_icmp rfl rfl rfl rfl) ?_
      refine RL.nil ?_
      refine thnN ?_
      by_cases c13 : (x24 != x33) = true
      ·rw [if_pos c13] at ho1
       refine W.condT rfl c13 ?_
       refine W.seq ?_
       refine W.region ?_
       refine RL.opD (by decide) (opv_assign rfl rfl) ?_
       refine RL.nil ?_
       refine thnN ?_
       refine W.ret ?_
       refine blkR ?_
       refine thnR ?_
       have eo1 := Option.some.inj ho1
       subst eo1
       have ey2 := hy1 _ rfl
       subst ey2
       try dsimp only at hp
       refine rndR ?_
       refine blkR ?_
       refine onlyR ?_
       refine thnR ?_
       have er := Option.some.inj hp
       subst er
       exact Rt.one rfl rfl ⟨rfl, X_16, (Sep.nil _ _ _)⟩
      ·rw [if_neg c13] at ho1
       have c13 := eq_false_of_ne_true c13
       refine W.condF rfl c13 ?_
       refine W.skip ?_
       refine blkN ?_
       refine thnN ?_
       refine W.region ?_
       refine RL.opD (by decide) (opv_add rfl rfl rfl) ?_
       refine RL.opD (by decide) (opv_move rfl rfl) ?_
       refine RL.nil ?_
       have eo1 := Option.some.inj ho1
       subst eo1
       refine rndN (s' := (x23, IntKind.wrap .i64 (x10 + (IntKind.wrap .i64 ((x17.1.length : Int) - x18.2))), IntKind.wrap .i64 (x11 + 1))) rfl ?_
       exact ⟨⟨rfl, rfl, rfl, rfl, rfl, rfl, rfl, rfl, rfl, rfl, rfl, rfl, rfl, rfl, rfl, rfl, rfl, trivial⟩, X_16, (Sep.sel S_18 [1, 2, 3, 4, 5, 6, 7, 8, 9, 10] (by decide))⟩
    ·rw [if_neg c7] at ho1
     have c7 := eq_false_of_ne_true c7
     refine W.condF rfl c7 ?_
     refine W.exit ?_
     refine thnX ?_
     refine rndX ?_
     refine blkI ?_
     have eo1 := Option.some.inj ho1
     subst eo1
     have ey2 := hy1 _ rfl
     subst ey2
     refine onlyN ?_
     exact ⟨x9, x10, x11, decide (x11 < (x5.1.length : Int)), rfl, ⟨rfl, rfl, rfl, rfl, rfl, rfl, rfl, rfl, rfl, rfl, rfl, rfl, rfl, rfl, rfl, rfl, rfl, rfl, trivial⟩, X_10, (Sep.sel S_12 [0, 1, 2, 3, 4, 5, 6, 7, 8, 9] (by decide))⟩
   rintro φ' hp28 ⟨x12, x13, x14, x15, rfl, hs3, X_17, S_19⟩
   try dsimp only at hp
   refine thnN ?_
   refine W.sub hs3 ?_
   refine W.seq ?_
   refine W.seq ?_
   refine W.region ?_
   refine RL.opD (by decide) (opv_move rfl rfl) ?_
   refine RL.opD (by decide) (opv_lenOO rfl Tryz.underlying35 rfl (ooO.read (Sep.at (o := ooW 38 2 v7 x6.1) S_19 1 rfl))) ?_
   refine RL.opD (by decide) (opv_move rfl rfl) ?_
   refine RL.nil ?_
   refine thnN ?_
   obtain ⟨y5, hy5, hp⟩ := Option.bind_eq_some_iff.1 hp
   refine W.cut (fun φ' h' => ∃ x36, ∃ x37, ∃ x38, y5 = .inl (x36, x37, x38) ∧ Fr.sub [(0, u0), (1, u1), (32, (.bool x1)), (5, (.pointer (some ⟨bb1, 0, none⟩))), (6, (.pointer (some ⟨bb2, 0, none⟩))), (7, (.int .i64 (IntKind.wrap .i64 (1 + x4)))), (8, v6), (9, (.bool x5.2)), (10, (ooV v7)), (11, (.bool x6.2)), (12, v8), (13, (.bool x7.2)), (81, (.bool x8)), (83, (.int .i64 (x5.1.length : Int))), (14, (.int .i64 x13)), (84, (.int .i64 x14)), (85, (.bool x15)), (165, (.int .i64 (x6.1.length : Int))), (4, (.bool x36)), (166, (.int .i64 x37)), (167, (.bool x38))] φ' ∧ Mod [] h0 h' ∧ Sep [] h0.size h' [ownO (kI .i64) 2 v8 x7.1, ooW 38 2 v7 x6.1, ownO (kII .i64) 43 v6 x5.1, boxO bb2 [v3, v4, v5], ownO (kF .f32) 66 v3 x3.1, ownO (kF .f32) 66 v4 x3.2.1, ownO (kF .f32) 66 v5 x3.2.2, boxO bb1 [(.int .i64 x2.1), (.int .i64 x2.2.1), (.bool x2.2.2.1), v1, v2], ownO (kF .f32) 66 v1 x2.2.2.2.1, ownO (kF .f32) 66 v2 x2.2.2.2.2]) ?_ ?_
   ·refine W.block ?_
    refine W.loopS (fun (s : (Bool × Int)) φ' h' => Fr.sub [(0, u0), (1, u1), (32, (.bool x1)), (5, (.pointer (some ⟨bb1, 0, none⟩))), (6, (.pointer (some ⟨bb2, 0, none⟩))), (7, (.int .i64 (IntKind.wrap .i64 (1 + x4)))), (8, v6), (9, (.bool x5.2)), (10, (ooV v7)), (11, (.bool x6.2)), (12, v8), (13, (.bool x7.2)), (81, (.bool x8)), (83, (.int .i64 (x5.1.length : Int))), (14, (.int .i64 x13)), (84, (.int .i64 x14)), (85, (.bool x15)), (165, (.int .i64 (x6.1.length : Int))), (4, (.bool s.1)), (166, (.int .i64 s.2))] φ' ∧ Mod [] h0 h' ∧ Sep [] h0.size h' [ownO (kI .i64) 2 v8 x7.1, ooW 38 2 v7 x6.1, ownO (kII .i64) 43 v6 x5.1, boxO bb2 [v3, v4, v5], ownO (kF .f32) 66 v3 x3.1, ownO (kF .f32) 66 v4 x3.2.1, ownO (kF .f32) 66 v5 x3.2.2, boxO bb1 [(.int .i64 x2.1), (.int .i64 x2.2.1), (.bool x2.2.2.1), v1, v2], ownO (kF .f32) 66 v1 x2.2.2.2.1, ownO (kF .f32) 66 v2 x2.2.2.2.2]) hy5 ⟨⟨rfl, rfl, rfl, rfl, rfl, rfl, rfl, rfl, rfl, rfl, rfl, rfl, rfl, rfl, rfl, rfl, rfl, rfl, rfl, rfl, trivial⟩, X_17, (Sep.sel S_19 [0, 1, 2, 3, 4, 5, 6, 7, 8, 9] (by decide))⟩ ?_
    rintro ⟨x34, x35⟩ φ' hp29 o3 ⟨hs7, X_18, S_20⟩ ho3 hy3
    have hs7 : Fr.sub [(0, u0), (1, u1), (32, (.bool x1)), (5, (.pointer (some ⟨bb1, 0, none⟩))), (6, (.pointer (some ⟨bb2, 0, none⟩))), (7, (.int .i64 (IntKind.wrap .i64 (1 + x4)))), (8, v6), (9, (.bool x5.2)), (10, (ooV v7)), (11, (.bool x6.2)), (12, v8), (13, (.bool x7.2)), (81, (.bool x8)), (83, (.int .i64 (x5.1.length : Int))), (14, (.int .i64 x13)), (84, (.int .i64 x14)), (85, (.bool x15)), (165, (.int .i64 (x6.1.length : Int))), (4, (.bool x34)), (166, (.int .i64 x35))] φ' := hs7
    have S_20 : Sep [] h0.size hp29 [ownO (kI .i64) 2 v8 x7.1, ooW 38 2 v7 x6.1, ownO (kII .i64) 43 v6 x5.1, boxO bb2 [v3, v4, v5], ownO (kF .f32) 66 v3 x3.1, ownO (kF .f32) 66 v4 x3.2.1, ownO (kF .f32) 66 v5 x3.2.2, boxO bb1 [(.int .i64 x2.1), (.int .i64 x2.2.1), (.bool x2.2.2.1), v1, v2], ownO (kF .f32) 66 v1 x2.2.2.2.1, ownO (kF .f32) 66 v2 x2.2.2.2.2] := S_20
    have ho3 : laws_FnMessages.s2 x5 x6 x34 x35 = some o3 := ho3
    unfold laws_FnMessages.s2 at ho3
    refine W.sub hs7 ?_
    refine W.seq ?_
    refine W.region ?_
    refine RL.opD (by decide) (opv_icmp rfl rfl rfl rfl) ?_
    refine RL.nil ?_
    refine thnN ?_
    refine W.seq ?_
    by_cases c14 : (decide (x35 < (x6.1.length : Int))) = true
    ·rw [if_pos c14] at ho3
     refine W.condT rfl c14 ?_
     refine W.skip ?_
     refine thnN ?_
     refine W.seq ?_
     refine W.block ?_
     refine W.seq ?_
     refine W.region ?_
     refine RL.opD (by decide) (opv_move rfl rfl) ?_
     refine RL.opD (by decide) (opv_assign rfl rfl) ?_
     refine RL.nil ?_
     refine thnN ?_
     refine W.seq ?_
     refine W.region ?_
     refine RL.opD (by decide) (opv_move rfl rfl) ?_
     refine RL.opD (by decide) (opv_move rfl rfl) ?_
     obtain ⟨x39, hx39, ho3⟩ := Option.bind_eq_some_iff.1 ho3
     refine RL.op _ (by decide) (opv_indexOO rfl Tryz.underlying35 (by rw [Tryz.size38]; rfl) rfl rfl (ooO.read (Sep.at (o := ooW 38 2 v7 x6.1) S_20 1 rfl)) hx39) ?_
     rintro v22 _ ⟨fv22, rfl⟩
     refine RL.op _ (by decide) (opv_loadOO rfl Tryz.one38 rfl fv22 (ooO.read (Sep.at (o := ooW 38 2 v7 x6.1) S_20 1 rfl)) hx39) ?_
     rintro v23 _ ⟨fv23, rfl⟩
     refine RL.opD (by decide) (opv_assign rfl rfl) ?_
     refine RL.nil ?_
     refine thnN ?_
     refine W.seq ?_
     refine W.seq ?_
     obtain ⟨x40, hy6, ho3⟩ := Option.bind_eq_some_iff.1 ho3
     refine W.cut (fun φ' h' => Fr.sub [(0, u0), (1, u1), (32, (.bool x1)), (5, (.pointer (some ⟨bb1, 0, none⟩))), (6, (.pointer (some ⟨bb2, 0, none⟩))), (7, (.int .i64 (IntKind.wrap .i64 (1 + x4)))), (8, v6), (9, (.bool x5.2)), (10, (ooV v7)), (11, (.bool x6.2)), (12, v8), (13, (.bool x7.2)), (81, (.bool x8)), (83, (.int .i64 (x5.1.length : Int))), (14, (.int .i64 x13)), (84, (.int .i64 x14)), (85, (.bool x15)), (165, (.int .i64 (x6.1.length : Int))), (4, (.bool x34)), (166, (.int .i64 x35)), (167, (.bool (decide (x35 < (x6.1.length : Int))))), (26, (.int .i64 x35)), (27, v23), (212, (.bool x40))] φ' ∧ hp29 = h') ?_ ?_
     ·refine W.regionH 40 rfl Tryz.mixed ?_
      refine HK.d 0 rfl rfl rfl (by decide) (by decide +kernel) (fun _ _ _ h => h) (opx_move rfl rfl) ?_
      refine HK.d 1 rfl rfl rfl (by decide) (by decide +kernel) (fun _ _ _ h => h) (opx_len rfl Tryz.underlying38 rfl fv23.1) ?_
      refine HK.d 2 rfl rfl rfl (by decide) (by decide +kernel) (fun _ _ _ h => h) (opx_icmp rfl rfl rfl rfl) ?_
      refine HK.d 3 rfl rfl rfl (by decide) (by decide +kernel) (fun _ _ _ h => h) (opx_move rfl rfl) ?_
      by_cases c15 : ((x39.length : Int) != 3) = true
      ·rw [if_pos c15] at hy6
       refine HK.n 4 rfl rfl rfl rfl rfl c15 (by decide) (by decide +kernel) (fun _ _ _ h => h) ?_
       refine HK.n 5 rfl rfl rfl rfl rfl c15 (by decide) (by decide +kernel) (fun _ _ _ h => h) ?_
       refine HK.n 6 rfl rfl rfl rfl rfl c15 (by decide) (by decide +kernel) (fun _ _ _ h => h) ?_
       refine HK.n 7 rfl rfl rfl rfl rfl c15 (by decide) (by decide +kernel) (fun _ _ _ h => h) ?_
       refine HK.d 8 rfl rfl rfl (by decide) (by decide +kernel) (fun _ _ _ h => h) (opx_pick rfl rfl (fun _ => rfl) (fun e => absurd (Eq.trans (Eq.symm e) c15) (by decide)) rfl) ?_
       refine HK.d 9 rfl rfl rfl (by decide) (by decide +kernel) (fun _ _ _ h => h) (opx_move rfl rfl) ?_
       refine HK.n 10 rfl rfl rfl rfl rfl rfl (by decide) (by decide +kernel) (fun _ _ _ h => h) ?_
       refine HK.n 11 rfl rfl rfl rfl rfl rfl (by decide) (by decide +kernel) (fun _ _ _ h => h) ?_
       refine HK.n 12 rfl rfl rfl rfl rfl rfl (by decide) (by decide +kernel) (fun _ _ _ h => h) ?_
       refine HK.n 13 rfl rfl rfl rfl rfl rfl (by decide) (by decide +kernel) (fun _ _ _ h => h) ?_
       refine HK.n 14 rfl rfl rfl rfl rfl rfl (by decide) (by decide +kernel) (fun _ _ _ h => h) ?_
       refine HK.n 15 rfl rfl rfl rfl rfl rfl (by decide) (by decide +kernel) (fun _ _ _ h => h) ?_
       refine HK.d 16 rfl rfl rfl (by decide) (by decide +kernel) (fun _ _ _ h => h) (opx_pick rfl rfl (fun _ => rfl) (fun e => absurd (Eq.trans (Eq.symm e) rfl) (by decide)) rfl) ?_
       refine HK.d 17 rfl rfl rfl (by decide) (by decide +kernel) (fun _ _ _ h => h) (opx_move rfl rfl) ?_
       refine HK.n 18 rfl rfl rfl rfl rfl rfl (by decide) (by decide +kernel) (fun _ _ _ h => h) ?_
       refine HK.n 19 rfl rfl rfl rfl rfl rfl (by decide) (by decide +kernel) (fun _ _ _ h => h) ?_
       refine HK.n 20 rfl rfl rfl rfl rfl rfl (by decide) (by decide +kernel) (fun _ _ _ h => h) ?_
       refine HK.n 21 rfl rfl rfl rfl rfl rfl (by decide) (by decide +kernel) (fun _ _ _ h => h) ?_
       refine HK.d 22 rfl rfl rfl (by decide) (by decide +kernel) (fun _ _ _ h => h) (opx_pick rfl rfl (fun _ => rfl) (fun e => absurd (Eq.trans (Eq.symm e) rfl) (by decide)) rfl) ?_
       refine HK.d 23 rfl rfl rfl (by decide) (by decide +kernel) (fun _ _ _ h => h) (opx_move rfl rfl) ?_
       refine HK.n 24 rfl rfl rfl rfl rfl rfl (by decide) (by decide +kernel) (fun _ _ _ h => h) ?_
       refine HK.n 25 rfl rfl rfl rfl rfl rfl (by decide) (by decide +kernel) (fun _ _ _ h => h) ?_
       refine HK.n 26 rfl rfl rfl rfl rfl rfl (by decide) (by decide +kernel) (fun _ _ _ h => h) ?_
       refine HK.n 27 rfl rfl rfl rfl rfl rfl (by decide) (by decide +kernel) (fun _ _ _ h => h) ?_
       refine HK.n 28 rfl rfl rfl rfl rfl rfl (by decide) (by decide +kernel) (fun _ _ _ h => h) ?_
       refine HK.n 29 rfl rfl rfl rfl rfl rfl (by decide) (by decide +kernel) (fun _ _ _ h => h) ?_
       refine HK.d 30 rfl rfl rfl (by decide) (by decide +kernel) (fun _ _ _ h => h) (opx_pick rfl rfl (fun _ => rfl) (fun e => absurd (Eq.trans (Eq.symm e) rfl) (by decide)) rfl) ?_
       refine HK.d 31 rfl rfl rfl (by decide) (by decide +kernel) (fun _ _ _ h => h) (opx_move rfl rfl) ?_
       refine HK.n 32 rfl rfl rfl rfl rfl rfl (by decide) (by decide +kernel) (fun _ _ _ h => h) ?_
       refine HK.n 33 rfl rfl rfl rfl rfl rfl (by decide) (by decide +kernel) (fun _ _ _ h => h) ?_
       refine HK.n 34 rfl rfl rfl rfl rfl rfl (by decide) (by decide +kernel) (fun _ _ _ h => h) ?_
       refine HK.n 35 rfl rfl rfl rfl rfl rfl (by decide) (by decide +kernel) (fun _ _ _ h => h) ?_
       refine HK.n 36 rfl rfl rfl rfl rfl rfl (by decide) (by decide +kernel) (fun _ _ _ h => h) ?_
       refine HK.n 37 rfl rfl rfl rfl rfl rfl (by decide) (by decide +kernel) (fun _ _ _ h => h) ?_
       refine HK.n 38 rfl rfl rfl rfl rfl rfl (by decide) (by decide +kernel) (fun _ _ _ h => h) ?_
       refine HK.d 39 rfl rfl rfl (by decide) (by decide +kernel) (fun _ _ _ h => h) (opx_pick rfl rfl (fun _ => rfl) (fun e => absurd (Eq.trans (Eq.symm e) rfl) (by decide)) rfl) ?_
       refine HK.done (by decide +kernel) ?_
       have ey6 := Option.some.inj hy6
       subst ey6
       refine onlyN ?_
       exact ⟨⟨rfl, rfl, rfl, rfl, rfl, rfl, rfl, rfl, rfl, rfl, rfl, rfl, rfl, rfl, rfl, rfl, rfl, rfl, rfl, rfl, rfl, rfl, rfl, rfl, trivial⟩, rfl⟩
      ·rw [if_neg c15] at hy6
       have c15 := eq_false_of_ne_true c15
       refine HK.y 4 rfl rfl rfl rfl rfl c15 (by decide) (by decide +kernel) (fun _ _ _ h => h) (opx_move rfl rfl) ?_
       obtain ⟨x41, hx41, hy6⟩ := Option.bind_eq_some_iff.1 hy6
       refine HK.yf 5 rfl rfl rfl rfl rfl c15 (by decide) (by decide +kernel) (fun _ _ _ h => h) (opx_indexP rfl Tryz.underlying38 (by rw [Tryz.size2]; rfl) rfl rfl fv23.1 hx41) ?_
       intro v24 fv24
       refine HK.y 6 rfl rfl rfl rfl rfl c15 (by decide) (by decide +kernel) (fun _ _ _ h => h) (opx_loadI rfl Tryz.one2 rfl fv24 fv23.1 hx41) ?_
       refine HK.y 7 rfl rfl rfl rfl rfl c15 (by decide) (by decide +kernel) (fun _ _ _ h => h) (opx_icmp rfl rfl rfl rfl) ?_
       refine HK.d 8 rfl rfl rfl (by decide) (by decide +kernel) (fun _ _ _ h => h) (opx_pick rfl rfl (fun e => absurd (Eq.trans (Eq.symm e) c15) (by decide)) (fun _ => rfl) rfl) ?_
       refine HK.d 9 rfl rfl rfl (by decide) (by decide +kernel) (fun _ _ _ h => h) (opx_move rfl rfl) ?_
       by_cases c16 : (decide (x41 < 0)) = true
       ·rw [if_pos c16] at hy6
        refine HK.n 10 rfl rfl rfl rfl rfl c16 (by decide) (by decide +kernel) (fun _ _ _ h => h) ?_
        refine HK.n 11 rfl rfl rfl rfl rfl c16 (by decide) (by decide +kernel) (fun _ _ _ h => h) ?_
        refine HK.n 12 rfl rfl rfl rfl rfl c16 (by decide) (by decide +kernel) (fun _ _ _ h => h) ?_
        refine HK.n 13 rfl rfl rfl rfl rfl c16 (by decide) (by decide +kernel) (fun _ _ _ h => h) ?_
        refine HK.n 14 rfl rfl rfl rfl rfl c16 (by decide) (by decide +kernel) (fun _ _ _ h => h) ?_
        refine HK.n 15 rfl rfl rfl rfl rfl c16 (by decide) (by decide +kernel) (fun _ _ _ h => h) ?_
        refine HK.d 16 rfl rfl rfl (by decide) (by decide +kernel) (fun _ _ _ h => h) (opx_pick rfl rfl (fun _ => rfl) (fun e => absurd (Eq.trans (Eq.symm e) c16) (by decide)) rfl) ?_
        refine HK.d 17 rfl rfl rfl (by decide) (by decide +kernel) (fun _ _ _ h => h) (opx_move rfl rfl) ?_
        refine HK.n 18 rfl rfl rfl rfl rfl rfl (by decide) (by decide +kernel) (fun _ _ _ h => h) ?_
        refine HK.n 19 rfl rfl rfl rfl rfl rfl (by decide) (by decide +kernel) (fun _ _ _ h => h) ?_
        refine HK.n 20 rfl rfl rfl rfl rfl rfl (by decide) (by decide +kernel) (fun _ _ _ h => h) ?_
        refine HK.n 21 rfl rfl rfl rfl rfl rfl (by decide) (by decide +kernel) (fun _ _ _ h => h) ?_
        refine HK.d 22 rfl rfl rfl (by decide) (by decide +kernel) (fun _ _ _ h => h) (opx_pick rfl rfl (fun _ => rfl) (fun e => absurd (Eq.trans (Eq.symm e) rfl) (by decide)) rfl) ?_
        refine HK.d 23 rfl rfl rfl (by decide) (by decide +kernel) (fun _ _ _ h => h) (opx_move rfl rfl) ?_
        refine HK.n 24 rfl rfl rfl rfl rfl rfl (by decide) (by decide +kernel) (fun _ _ _ h => h) ?_
        refine HK.n 25 rfl rfl rfl rfl rfl rfl (by decide) (by decide +kernel) (fun _ _ _ h => h) ?_
        refine HK.n 26 rfl rfl rfl rfl rfl rfl (by decide) (by decide +kernel) (fun _ _ _ h => h) ?_
        refine HK.n 27 rfl rfl rfl rfl rfl rfl (by decide) (by decide +kernel) (fun _ _ _ h => h) ?_
        refine HK.n 28 rfl rfl rfl rfl rfl rfl (by decide) (by decide +kernel) (fun _ _ _ h => h) ?_
        refine HK.n 29 rfl rfl rfl rfl rfl rfl (by decide) (by decide +kernel) (fun _ _ _ h => h) ?_
        refine HK.d 30 rfl rfl rfl (by decide) (by decide +kernel) (fun _ _ _ h => h) (opx_pick rfl rfl (fun _ => rfl) (fun e => absurd (Eq.trans (Eq.symm e) rfl) (by decide)) rfl) ?_
        refine HK.d 31 rfl rfl rfl (by decide) (by decide +kernel) (fun _ _ _ h => h) (opx_move rfl rfl) ?_
        refine HK.n 32 rfl rfl rfl rfl rfl rfl (by decide) (by decide +kernel) (fun _ _ _ h => h) ?_
        refine HK.n 33 rfl rfl rfl rfl rfl rfl (by decide) (by decide +kernel) (fun _ _ _ h => h) ?_
        refine HK.n 34 rfl rfl rfl rfl rfl rfl (by decide) (by decide +kernel) (fun _ _ _ h => h) ?_
        refine HK.n 35 rfl rfl rfl rfl rfl rfl (by decide) (by decide +kernel) (fun _ _ _ h => h) ?_
        refine HK.n 36 rfl rfl rfl rfl rfl rfl (by decide) (by decide +kernel) (fun _ _ _ h => h) ?_
        refine HK.n 37 rfl rfl rfl rfl rfl rfl (by decide) (by decide +kernel) (fun _ _ _ h => h) ?_
        refine HK.n 38 rfl rfl rfl rfl rfl rfl (by decide) (by decide +kernel) (fun _ _ _ h => h) ?_
        refine HK.d 39 rfl rfl rfl (by decide) (by decide +kernel) (fun _ _ _ h => h) (opx_pick rfl rfl (fun _ => rfl) (fun e => absurd (Eq.trans (Eq.symm e) rfl) (by decide)) rfl) ?_
        refine HK.done (by decide +kernel) ?_
        have ey6 := Option.some.inj hy6
        subst ey6
        refine onlyN ?_
        exact ⟨⟨rfl, rfl, rfl, rfl, rfl, rfl, rfl, rfl, rfl, rfl, rfl, rfl, rfl, rfl, rfl, rfl, rfl, rfl, rfl, rfl, rfl, rfl, rfl, rfl, trivial⟩, rfl⟩
       ·rw [if_neg c16] at hy6
        have c16 := eq_false_of_ne_true c16
        refine HK.y 10 rfl rfl rfl rfl rfl c16 (by decide) (by decide +kernel) (fun _ _ _ h => h) (opx_move rfl rfl) ?_
        obtain ⟨x42, hx42, hy6⟩ := Option.bind_eq_some_iff.1 hy6
        refine HK.yf 11 rfl rfl rfl rfl rfl c16 (by decide) (by decide +kernel) (fun _ _ _ h => h) (opx_indexP rfl Tryz.underlying38 (by rw [Tryz.size2]; rfl) rfl rfl fv23.1 hx42) ?_
        intro v25 fv25
        refine HK.y 12 rfl rfl rfl rfl rfl c16 (by decide) (by decide +kernel) (fun _ _ _ h => h) (opx_loadI rfl Tryz.one2 rfl fv25 fv23.1 hx42) ?_
        refine HK.y 13 rfl rfl rfl rfl rfl c16 (by decide) (by decide +kernel) (fun _ _ _ h => h) (opx_move rfl rfl) ?_
        refine HK.y 14 rfl rfl rfl rfl rfl c16 (by decide) (by decide +kernel) (fun _ _ _ h => h) (opx_len rfl Tryz.underlying32 rfl (ownO.read (Sep.at (o := ownO (kII .i64) 43 v6 x5.1) S_20 2 rfl))) ?_
        refine HK.y 15 rfl rfl rfl rfl rfl c16 (by decide) (by decide +kernel) (fun _ _ _ h => h) (opx_icmp rfl rfl rfl rfl) ?_
        refine HK.d 16 rfl rfl rfl (by decide) (by decide +kernel) (fun _ _ _ h => h) (opx_pick rfl rfl (fun e => absurd (Eq.trans (Eq.symm e) c16) (by decide)) (fun _ => rfl) rfl) ?_
        refine HK.d 17 rfl rfl rfl (by decide) (by decide +kernel) (fun _ _ _ h => h) (opx_move rfl rfl) ?_
        by_cases c17 : (decide (x42 ≥ (x5.1.length : Int))) = true
        ·rw [if_pos c17] at hy6
         refine HK.n 18 rfl rfl rfl rfl rfl c17 (by decide) (by decide +kernel) (fun _ _ _ h => h) ?_
         refine HK.n 19 rfl rfl rfl rfl rfl c17 (by decide) (by decide +kernel) (fun _ _ _ h => h) ?_
         refine HK.n 20 rfl rfl rfl rfl rfl c17 (by decide) (by decide +kernel) (fun _ _ _ h => h) ?_
         refine HK.n 21 rfl rfl rfl rfl rfl c17 (by decide) (by decide +kernel) (fun _ _ _ h => h) ?_
         refine HK.d 22 rfl rfl rfl (by decide) (by decide +kernel) (fun _ _ _ h => h) (opx_pick rfl rfl (fun _ => rfl) (fun e => absurd (Eq.trans (Eq.symm e) c17) (by decide)) rfl) ?_
         refine HK.d 23 rfl rfl rfl (by decide) (by decide +kernel) (fun _ _ _ h => h) (opx_move rfl rfl) ?_
         refine HK.n 24 rfl rfl rfl rfl rfl rfl (by decide) (by decide +kernel) (fun _ _ _ h => h) ?_
         refine HK.n 25 rfl rfl rfl rfl rfl rfl (by decide) (by decide +kernel) (fun _ _ _ h => h) ?_
         refine HK.n 26 rfl rfl rfl rfl rfl rfl (by decide) (by decide +kernel) (fun _ _ _ h => h) ?_
         refine HK.n 27 rfl rfl rfl rfl rfl rfl (by decide) (by decide +kernel) (fun _ _ _ h => h) ?_
         refine HK.n 28 rfl rfl rfl rfl rfl rfl (by decide) (by decide +kernel) (fun _ _ _ h => h) ?_
         refine HK.n 29 rfl rfl rfl rfl rfl rfl (by decide) (by decide +kernel) (fun _ _ _ h => h) ?_
         refine HK.d 30 rfl rfl rfl (by decide) (by decide +kernel) (fun _ _ _ h => h) (opx_pick rfl rfl (fun _ => rfl) (fun e => absurd (Eq.trans (Eq.symm e) rfl) (by decide)) rfl) ?_
         refine HK.d 31 rfl rfl rfl (by decide) (by decide +kernel) (fun _ _ _ h => h) (opx_move rfl rfl) ?_
         refine HK.n 32 rfl rfl rfl rfl rfl rfl (by decide) (by decide +kernel) (fun _ _ _ h => h) ?_
         refine HK.n 33 rfl rfl rfl rfl rfl rfl (by decide) (by decide +kernel) (fun _ _ _ h => h) ?_
         refine HK.n 34 rfl rfl rfl rfl rfl rfl (by decide) (by decide +kernel) (fun _ _ _ h => h) ?_
         refine HK.n 35 rfl rfl rfl rfl rfl rfl (by decide) (by decide +kernel) (fun _ _ _ h => h) ?_
         refine HK.n 36 rfl rfl rfl rfl rfl rfl (by decide) (by decide +kernel) (fun _ _ _ h => h) ?_
         refine HK.n 37 rfl rfl rfl rfl rfl rfl (by decide) (by decide +kernel) (fun _ _ _ h => h) ?_
         refine HK.n 38 rfl rfl rfl rfl rfl rfl (by decide) (by decide +kernel) (fun _ _ _ h => h) ?_
         refine HK.d 39 rfl rfl rfl (by decide) (by decide +kernel) (fun _ _ _ h => h) (opx_pick rfl rfl (fun _ => rfl) (fun e => absurd (Eq.trans (Eq.symm e) rfl) (by decide)) rfl) ?_
         refine HK.done (by decide +kernel) ?_
         have ey6 := Option.some.inj hy6
         subst ey6
         refine onlyN ?_
         exact ⟨⟨rfl, rfl, rfl, rfl, rfl, rfl, rfl, rfl, rfl, rfl, rfl, rfl, rfl, rfl, rfl, rfl, rfl, rfl, rfl, rfl, rfl, rfl, rfl, rfl, trivial⟩, rfl⟩
        ·rw [if_neg c17] at hy6
         have c17 := eq_false_of_ne_true c17
         refine HK.y 18 rfl rfl rfl rfl rfl c17 (by decide) (by decide +kernel) (fun _ _ _ h => h) (opx_move rfl rfl) ?_
         obtain ⟨x43, hx43, hy6⟩ := Option.bind_eq_some_iff.1 hy6
         refine HK.yf 19 rfl rfl rfl rfl rfl c17 (by decide) (by decide +kernel) (fun _ _ _ h => h) (opx_indexP rfl Tryz.underlying38 (by rw [Tryz.size2]; rfl) rfl rfl fv23.1 hx43) ?_
         intro v26 fv26
         refine HK.y 20 rfl rfl rfl rfl rfl c17 (by decide) (by decide +kernel) (fun _ _ _ h => h) (opx_loadI rfl Tryz.one2 rfl fv26 fv23.1 hx43) ?_
         refine HK.y 21 rfl rfl rfl rfl rfl c17 (by decide) (by decide +kernel) (fun _ _ _ h => h) (opx_icmp rfl rfl rfl rfl) ?_
         refine HK.d 22 rfl rfl rfl (by decide) (by decide +kernel) (fun _ _ _ h => h) (opx_pick rfl rfl (fun e => absurd (Eq.trans (Eq.symm e) c17) (by decide)) (fun _ => rfl) rfl) ?_
         refine HK.d 23 rfl rfl rfl (by decide) (by decide +kernel) (fun _ _ _ h => h) (opx_move rfl rfl) ?_
         by_cases c18 : (decide (x43 < 0)) = true
         ·rw [if_pos c18] at hy6
          refine HK.n 24 rfl rfl rfl rfl rfl c18 (by decide) (by decide +kernel) (fun _ _ _ h => h) ?_
          refine HK.n 25 rfl rfl rfl rfl rfl c18 (by decide) (by decide +kernel) (fun _ _ _ h => h) ?_
          refine HK.n 26 rfl rfl rfl rfl rfl c18 (by decide) (by decide +kernel) (fun _ _ _ h => h) ?_
          refine HK.n 27 rfl rfl rfl rfl rfl c18 (by decide) (by decide +kernel) (fun _ _ _ h => h) ?_
          refine HK.n 28 rfl rfl rfl rfl rfl c18 (by decide) (by decide +kernel) (fun _ _ _ h => h) ?_
          refine HK.n 29 rfl rfl rfl rfl rfl c18 (by decide) (by decide +kernel) (fun _ _ _ h => h) ?_
          refine HK.d 30 rfl rfl rfl (by decide) (by decide +kernel) (fun _ _ _ h => h) (opx_pick rfl rfl (fun _ => rfl) (fun e => absurd (Eq.trans (Eq.symm e) c18) (by decide)) rfl) ?_
          refine HK.d 31 rfl rfl rfl (by decide) (by decide +kernel) (fun _ _ _ h => h) (opx_move rfl rfl) ?_
          refine HK.n 32 rfl rfl rfl rfl rfl rfl (by decide) (by decide +kernel) (fun _ _ _ h => h) ?_
          refine HK.n 33 rfl rfl rfl rfl rfl rfl (by decide) (by decide +kernel) (fun _ _ _ h => h) ?_
          refine HK.n 34 rfl rfl rfl rfl rfl rfl (by decide) (by decide +kernel) (fun _ _ _ h => h) ?_
          refine HK.n 35 rfl rfl rfl rfl rfl rfl (by decide) (by decide +kernel) (fun _ _ _ h => h) ?_
          refine HK.n 36 rfl rfl rfl rfl rfl rfl (by decide) (by decide +kernel) (fun _ _ _ h => h) ?_
          refine HK.n 37 rfl rfl rfl rfl rfl rfl (by decide) (by decide +kernel) (fun _ _ _ h => h) ?_
          refine HK.n 38 rfl rfl rfl rfl rfl rfl (by decide) (by decide +kernel) (fun _ _ _ h => h) ?_
          refine HK.d 39 rfl rfl rfl (by decide) (by decide +kernel) (fun _ _ _ h => h) (opx_pick rfl rfl (fun _ => rfl) (fun e => absurd (Eq.trans (Eq.symm e) rfl) (by decide)) rfl) ?_
          refine HK.done (by decide +kernel) ?_
          have ey6 := Option.some.inj hy6
          subst ey6
          refine onlyN ?_
          exact ⟨⟨rfl, rfl, rfl, rfl, rfl, rfl, rfl, rfl, rfl, rfl, rfl, rfl, rfl, rfl, rfl, rfl, rfl, rfl, rfl, rfl, rfl, rfl, rfl, rfl, trivial⟩, rfl⟩
         ·rw [if_neg c18] at hy6
          have c18 := eq_false_of_ne_true c18
          refine HK.y 24 rfl rfl rfl rfl rfl c18 (by decide) (by decide +kernel) (fun _ _ _ h => h) (opx_move rfl rfl) ?_
          obtain ⟨x44, hx44, hy6⟩ := Option.bind_eq_some_iff.1 hy6
          refine HK.yf 25 rfl rfl rfl rfl rfl c18 (by decide) (by decide +kernel) (fun _ _ _ h => h) (opx_indexP rfl Tryz.underlying38 (by rw [Tryz.size2]; rfl) rfl rfl fv23.1 hx44) ?_
          intro v27 fv27
          refine HK.y 26 rfl rfl rfl rfl rfl c18 (by decide) (by decide +kernel) (fun _ _ _ h => h) (opx_loadI rfl Tryz.one2 rfl fv27 fv23.1 hx44) ?_
          refine HK.y 27 rfl rfl rfl rfl rfl c18 (by decide) (by decide +kernel) (fun _ _ _ h => h) (opx_move rfl rfl) ?_
          refine HK.y 28 rfl rfl rfl rfl rfl c18 (by decide) (by decide +kernel) (fun _ _ _ h => h) (opx_len rfl Tryz.underlying32 rfl (ownO.read (Sep.at (o := ownO (kII .i64) 43 v6 x5.1) S_20 2 rfl))) ?_
          refine HK.y 29 rfl rfl rfl rfl rfl c18 (by decide) (by decide +kernel) (fun _ _ _ h => h) (opx_icmp rfl rfl rfl rfl) ?_
          refine HK.d 30 rfl rfl rfl (by decide) (by decide +kernel) (fun _ _ _ h => h) (opx_pick rfl rfl (fun e => absurd (Eq.trans (Eq.symm e) c18) (by decide)) (fun _ => rfl) rfl) ?_
          refine HK.d 31 rfl rfl rfl (by decide) (by decide +kernel) (fun _ _ _ h => h) (opx_move rfl rfl) ?_
          by_cases c19 : (decide (x44 ≥ (x5.1.length : Int))) = true
          ·rw [if_pos c19] at hy6
           refine HK.n 32 rfl rfl rfl rfl rfl c19 (by decide) (by decide +kernel) (fun _ _ _ h => h) ?_
           refine HK.n 33 rfl rfl rfl rfl rfl c19 (by decide) (by decide +kernel) (fun _ _ _ h => h) ?_
           refine HK.n 34 rfl rfl rfl rfl rfl c19 (by decide) (by decide +kernel) (fun _ _ _ h => h) ?_
           refine HK.n 35 rfl rfl rfl rfl rfl c19 (by decide) (by decide +kernel) (fun _ _ _ h => h) ?_
           refine HK.n 36 rfl rfl rfl rfl rfl c19 (by decide) (by decide +kernel) (fun _ _ _ h => h) ?_
           refine HK.n 37 rfl rfl rfl rfl rfl c19 (by decide) (by decide +kernel) (fun _ _ _ h => h) ?_
           refine HK.n 38 rfl rfl rfl rfl rfl c19 (by decide) (by decide +kernel) (fun _ _ _ h => h) ?_
           refine HK.d 39 rfl rfl rfl (by decide) (by decide +kernel) (fun _ _ _ h => h) (opx_pick rfl rfl (fun _ => rfl) (fun e => absurd (Eq.trans (Eq.symm e) c19) (by decide)) rfl) ?_
           refine HK.done (by decide +kernel) ?_
           have ey6 := Option.some.inj hy6
           subst ey6
           refine onlyN ?_
           exact ⟨⟨rfl, rfl, rfl, rfl, rfl, rfl, rfl, rfl, rfl, rfl, rfl, rfl, rfl, rfl, rfl, rfl, rfl, rfl, rfl, rfl, rfl, rfl, rfl, rfl, trivial⟩, rfl⟩
          ·rw [if_neg c19] at hy6
           have c19 := eq_false_of_ne_true c19
           refine HK.y 32 rfl rfl rfl rfl rfl c19 (by decide) (by decide +kernel) (fun _ _ _ h => h) (opx_move rfl rfl) ?_
           obtain ⟨x45, hx45, hy6⟩ := Option.bind_eq_some_iff.1 hy6
           refine HK.yf 33 rfl rfl rfl rfl rfl c19 (by decide) (by decide +kernel) (fun _ _ _ h => h) (opx_indexP rfl Tryz.underlying38 (by rw [Tryz.size2]; rfl) rfl rfl fv23.1 hx45) ?_
           intro v28 fv28
           refine HK.y 34 rfl rfl rfl rfl rfl c19 (by decide) (by decide +kernel) (fun _ _ _ h => h) (opx_loadI rfl Tryz.one2 rfl fv28 fv23.1 hx45) ?_
           refine HK.y 35 rfl rfl rfl rfl rfl c19 (by decide) (by decide +kernel) (fun _ _ _ h => h) (opx_move rfl rfl) ?_
           obtain ⟨x46, hx46, hy6⟩ := Option.bind_eq_some_iff.1 hy6
           refine HK.yf 36 rfl rfl rfl rfl rfl c19 (by decide) (by decide +kernel) (fun _ _ _ h => h) (opx_indexP rfl Tryz.underlying38 (by rw [Tryz.size2]; rfl) rfl rfl fv23.1 hx46) ?_
           intro v29 fv29
           refine HK.y 37 rfl rfl rfl rfl rfl c19 (by decide) (by decide +kernel) (fun _ _ _ h => h) (opx_loadI rfl Tryz.one2 rfl fv29 fv23.1 hx46) ?_
           refine HK.y 38 rfl rfl rfl rfl rfl c19 (by decide) (by decide +kernel) (fun _ _ _ h => h) (opx_icmp rfl rfl rfl rfl) ?_
           refine HK.d 39 rfl rfl rfl (by decide) (by decide +kernel) (fun _ _ _ h => h) (opx_pick rfl rfl (fun e => absurd (Eq.trans (Eq.symm e) c19) (by decide)) (fun _ => rfl) rfl) ?_
           refine HK.done (by decide +kernel) ?_
           have ey6 := Option.some.inj hy6
           subst ey6
           refine onlyN ?_
           exact ⟨⟨rfl, rfl, rfl, rfl, rfl, rfl, rfl, rfl, rfl, rfl, rfl, rfl, rfl, rfl, rfl, rfl, rfl, rfl, rfl, rfl, rfl, rfl, rfl, rfl, trivial⟩, rfl⟩
     rintro φ' _ ⟨hs9, rfl⟩
     refine thnN ?_
     refine W.sub hs9 ?_
     by_cases c20 : x40 = true
     ·rw [if_pos c20] at ho3
      refine W.condT rfl c20 ?_
      refine W.seq ?_
      refine W.region ?_
      refine RL.opD (by decide) (opv_assign rfl rfl) ?_
      refine RL.nil ?_
      refine thnN ?_
      refine W.ret ?_
      refine thnR ?_
      refine blkR ?_
      refine thnR ?_
      have eo3 := Option.some.inj ho3
      subst eo3
      have ey5 := hy3 _ rfl
      subst ey5
      try dsimp only at hp
      refine rndR ?_
      refine blkR ?_
      refine onlyR ?_
      refine thnR ?_
      have er := Option.some.inj hp
      subst er
      exact Rt.one rfl rfl ⟨rfl, X_18, (Sep.nil _ _ _)⟩
     ·rw [if_neg c20] at ho3
      have c20 := eq_false_of_ne_true c20
      refine W.condF rfl c20 ?_
      refine W.skip ?_
      refine thnN ?_
      refine W.seq ?_
      refine W.region ?_
      refine RL.opD (by decide) (opv_move rfl rfl) ?_
      refine RL.opD (by decide) (opv_move rfl rfl) ?_
      obtain ⟨x47, hx47, ho3⟩ := Option.bind_eq_some_iff.1 ho3
      refine RL.op _ (by decide) (opv_index rfl Tryz.underlying38 (by rw [Tryz.size2]; rfl) rfl rfl fv23.1 hx47) ?_
      rintro v30 _ ⟨fv30, rfl⟩
      refine RL.opD (by decide) (opv_loadI rfl Tryz.one2 rfl fv30 fv23.1 hx47) ?_
      obtain ⟨x48, hx48, ho3⟩ := Option.bind_eq_some_iff.1 ho3
      refine RL.op _ (by decide) (opv_index rfl Tryz.underlying32 (by rw [Tryz.size43]; rfl) rfl rfl (ownO.read (Sep.at (o := ownO (kII .i64) 43 v6 x5.1) S_20 2 rfl)) hx48) ?_
      rintro v31 _ ⟨fv31, rfl⟩
      refine RL.opD (by decide) (opv_loadWhole (K := (kII .i64)) rfl Tryz.agg43 (by rw [Tryz.size43]; rfl) rfl fv31 (ownO.read (Sep.at (o := ownO (kII .i64) 43 v6 x5.1) S_20 2 rfl)) (idx_some hx48).2.2 kII_all) ?_
      refine RL.op _ (by decide) (opS_boxed (opv_alloc (cs := [(.int .i64 0), (.int .i64 0)]) rfl Tryz.zero43 rfl)) ?_
      rintro _ hp30 ⟨bb3, rfl, MT_13, T_13⟩
      obtain ⟨X_19, S_21⟩ := Sep.turn0 X_18 S_20 MT_13 T_13
      refine RL.op0 _ (opS_stored (cs := [(.int .i64 0), (.int .i64 0)]) (cs' := [(.int .i64 x48.1), (.int .i64 x48.2)]) (opv_storeA (us := [(.int .i64 x48.1), (.int .i64 x48.2)]) rfl Tryz.size43 rfl rfl (oneAll rfl (oneAll rfl rfl)) (Sep.at (o := boxO bb3 [(.int .i64 0), (.int .i64 0)]) S_21 0 rfl) rfl rfl) (Sep.at (o := boxO bb3 [(.int .i64 0), (.int .i64 0)]) S_21 0 rfl)) ?_
      rintro _ hp31 ⟨rfl, MT_14, T_14⟩
      have S_22 : Sep [] h0.size hp30 ([boxO bb3 [(.int .i64 0), (.int .i64 0)]] ++ [ownO (kI .i64) 2 v8 x7.1, ooW 38 2 v7 x6.1, ownO (kII .i64) 43 v6 x5.1, boxO bb2 [v3, v4, v5], ownO (kF .f32) 66 v3 x3.1, ownO (kF .f32) 66 v4 x3.2.1, ownO (kF .f32) 66 v5 x3.2.2, boxO bb1 [(.int .i64 x2.1), (.int .i64 x2.2.1), (.bool x2.2.2.1), v1, v2], ownO (kF .f32) 66 v1 x2.2.2.2.1, ownO (kF .f32) 66 v2 x2.2.2.2.2]) := Sep.sel S_21 [0, 1, 2, 3, 4, 5, 6, 7, 8, 9, 10] (by decide)
      obtain ⟨X_20, S_23⟩ := Sep.turn X_19 S_22 MT_14 T_14
      refine RL.nil ?_
      refine thnN ?_
      refine W.seq ?_
      refine W.region ?_
      refine RL.opD (by decide) (opv_move rfl rfl) ?_
      refine RL.opD (by decide) (opv_move rfl rfl) ?_
      obtain ⟨x49, hx49, ho3⟩ := Option.bind_eq_some_iff.1 ho3
      refine RL.op _ (by decide) (opv_index rfl Tryz.underlying38 (by rw [Tryz.size2]; rfl) rfl rfl (ooO.innerRead (Sep.at (o := ooW 38 2 v7 x6.1) S_23 2 rfl) fv23.2 hx39) hx49) ?_
      rintro v32 _ ⟨fv32, rfl⟩
      refine RL.opD (by decide) (opv_loadI rfl Tryz.one2 rfl fv32 (ooO.innerRead (Sep.at (o := ooW 38 2 v7 x6.1) S_23 2 rfl) fv23.2 hx39) hx49) ?_
      obtain ⟨x50, hx50, ho3⟩ := Option.bind_eq_some_iff.1 ho3
      refine RL.op _ (by decide) (opv_index rfl Tryz.underlying32 (by rw [Tryz.size43]; rfl) rfl rfl (ownO.read (Sep.at (o := ownO (kII .i64) 43 v6 x5.1) S_23 3 rfl)) hx50) ?_
      rintro v33 _ ⟨fv33, rfl⟩
      refine RL.opD (by decide) (opv_loadWhole (K := (kII .i64)) rfl Tryz.agg43 (by rw [Tryz.size43]; rfl) rfl fv33 (ownO.read (Sep.at (o := ownO (kII .i64) 43 v6 x5.1) S_23 3 rfl)) (idx_some hx50).2.2 kII_all) ?_
      refine RL.op _ (by decide) (opS_boxed (opv_alloc (cs := [(.int .i64 0), (.int .i64 0)]) rfl Tryz.zero43 rfl)) ?_
      rintro _ hp32 ⟨bb4, rfl, MT_15, T_15⟩
      obtain ⟨X_21, S_24⟩ := Sep.turn0 X_20 S_23 MT_15 T_15
      refine RL.op0 _ (opS_stored (cs := [(.int .i64 0), (.int .i64 0)]) (cs' := [(.int .i64 x50.1), (.int .i64 x50.2)]) (opv_storeA (us := [(.int .i64 x50.1), (.int .i64 x50.2)]) rfl Tryz.size43 rfl rfl (oneAll rfl (oneAll rfl rfl)) (Sep.at (o := boxO bb4 [(.int .i64 0), (.int .i64 0)]) S_24 0 rfl) rfl rfl) (Sep.at (o := boxO bb4 [(.int .i64 0), (.int .i64 0)]) S_24 0 rfl)) ?_
      rintro _ hp33 ⟨rfl, MT_16, T_16⟩
      have S_25 : Sep [] h0.size hp32 ([boxO bb4 [(.int .i64 0), (.int .i64 0)]] ++ [boxO bb3 [(.int .i64 x48.1), (.int .i64 x48.2)], ownO (kI .i64) 2 v8 x7.1, ooW 38 2 v7 x6.1, ownO (kII .i64) 43 v6 x5.1, boxO bb2 [v3, v4, v5], ownO (kF .f32) 66 v3 x3.1, ownO (kF .f32) 66 v4 x3.2.1, ownO (kF .f32) 66 v5 x3.2.2, boxO bb1 [(.int .i64 x2.1), (.int .i64 x2.2.1), (.bool x2.2.2.1), v1, v2], ownO (kF .f32) 66 v1 x2.2.2.2.1, ownO (kF .f32) 66 v2 x2.2.2.2.2]) := Sep.sel S_24 [0, 1, 2, 3, 4, 5, 6, 7, 8, 9, 10, 11] (by decide)
      obtain ⟨X_22, S_26⟩ := Sep.turn X_21 S_25 MT_16 T_16
      refine RL.nil ?_
      refine thnN ?_
      refine W.seq ?_
      obtain ⟨x51, hy7, ho3⟩ := Option.bind_eq_some_iff.1 ho3
      refine W.cut (fun φ' h' => Fr.sub [(0, u0), (1, u1), (32, (.bool x1)), (5, (.pointer (some ⟨bb1, 0, none⟩))), (6, (.pointer (some ⟨bb2, 0, none⟩))), (7, (.int .i64 (IntKind.wrap .i64 (1 + x4)))), (8, v6), (9, (.bool x5.2)), (10, (ooV v7)), (11, (.bool x6.2)), (12, v8), (13, (.bool x7.2)), (81, (.bool x8)), (83, (.int .i64 (x5.1.length : Int))), (14, (.int .i64 x13)), (84, (.int .i64 x14)), (85, (.bool x15)), (165, (.int .i64 (x6.1.length : Int))), (4, (.bool x34)), (166, (.int .i64 x35)), (167, (.bool (decide (x35 < (x6.1.length : Int))))), (26, (.int .i64 x35)), (212, (.bool x40)), (28, (.pointer (some ⟨bb3, 0, none⟩))), (29, (.pointer (some ⟨bb4, 0, none⟩))), (260, (.bool x51))] φ' ∧ hp33 = h') ?_ ?_
      ·refine W.regionH 36 rfl Tryz.mixed ?_
       refine HK.d 0 rfl rfl rfl (by decide) (by decide +kernel) (fun _ _ _ h => h) (opx_move rfl rfl) ?_
       obtain ⟨x52, hx52, hy7⟩ := Option.bind_eq_some_iff.1 hy7
       refine HK.f 1 rfl rfl rfl (by decide) (by decide +kernel) (fun _ _ _ h => h) (opx_indexP rfl Tryz.underlying38 (by rw [Tryz.size2]; rfl) rfl rfl (ooO.innerRead (Sep.at (o := ooW 38 2 v7 x6.1) S_26 3 rfl) fv23.2 hx39) hx52) ?_
       intro v34 fv34
       refine HK.d 2 rfl rfl rfl (by decide) (by decide +kernel) (fun _ _ _ h => h) (opx_loadI rfl Tryz.one2 rfl fv34 (ooO.innerRead (Sep.at (o := ooW 38 2 v7 x6.1) S_26 3 rfl) fv23.2 hx39) hx52) ?_
       refine HK.d 3 rfl rfl rfl (by decide) (by decide +kernel) (fun _ _ _ h => h) (opx_fieldAddr rfl Tryz.fo43_0 rfl) ?_
       refine HK.d 4 rfl rfl rfl (by decide) (by decide +kernel) (fun _ _ _ h => h) (opx_loadB rfl Tryz.one2 rfl (Sep.at (o := boxO bb3 [(.int .i64 x48.1), (.int .i64 x48.2)]) S_26 1 rfl) rfl) ?_
       refine HK.d 5 rfl rfl rfl (by decide) (by decide +kernel) (fun _ _ _ h => h) (opx_icmp rfl rfl rfl rfl) ?_
       refine HK.d 6 rfl rfl rfl (by decide) (by decide +kernel) (fun _ _ _ h => h) (opx_move rfl rfl) ?_
       by_cases c21 : (decide (x52 < x48.1)) = true
       ·rw [if_pos c21] at hy7
        refine HK.n 7 rfl rfl rfl rfl rfl c21 (by decide) (by decide +kernel) (fun _ _ _ h => h) ?_
        refine HK.n 8 rfl rfl rfl rfl rfl c21 (by decide) (by decide +kernel) (fun _ _ _ h => h) ?_
        refine HK.n 9 rfl rfl rfl rfl rfl c21 (by decide) (by decide +kernel) (fun _ _ _ h => h) ?_
        refine HK.n 10 rfl rfl rfl rfl rfl c21 (by decide) (by decide +kernel) (fun _ _ _ h => h) ?_
        refine HK.n 11 rfl rfl rfl rfl rfl c21 (by decide) (by decide +kernel) (fun _ _ _ h => h) ?_
        refine HK.n 12 rfl rfl rfl rfl rfl c21 (by decide) (by decide +kernel) (fun _ _ _ h => h) ?_
        refine HK.n 13 rfl rfl rfl rfl rfl c21 (by decide) (by decide +kernel) (fun _ _ _ h => h) ?_
        refine HK.n 14 rfl rfl rfl rfl rfl c21 (by decide) (by decide +kernel) (fun _ _ _ h => h) ?_
        refine HK.n 15 rfl rfl rfl rfl rfl c21 (by decide) (by decide +kernel) (fun _ _ _ h => h) ?_
        refine HK.d 16 rfl rfl rfl (by decide) (by decide +kernel) (fun _ _ _ h => h) (opx_pick rfl rfl (fun _ => rfl) (fun e => absurd (Eq.trans (Eq.symm e) c21) (by decide)) rfl) ?_
        refine HK.d 17 rfl rfl rfl (by decide) (by decide +kernel) (fun _ _ _ h => h) (opx_move rfl rfl) ?_
        refine HK.n 18 rfl rfl rfl rfl rfl rfl (by decide) (by decide +kernel) (fun _ _ _ h => h) ?_
        refine HK.n 19 rfl rfl rfl rfl rfl rfl (by decide) (by decide +kernel) (fun _ _ _ h => h) ?_
        refine HK.n 20 rfl rfl rfl rfl rfl rfl (by decide) (by decide +kernel) (fun _ _ _ h => h) ?_
        refine HK.n 21 rfl rfl rfl rfl rfl rfl (by decide) (by decide +kernel) (fun _ _ _ h => h) ?_
        refine HK.n 22 rfl rfl rfl rfl rfl rfl (by decide) (by decide +kernel) (fun _ _ _ h => h) ?_
        refine HK.n 23 rfl rfl rfl rfl rfl rfl (by decide) (by decide +kernel) (fun _ _ _ h => h) ?_
        refine HK.n 24 rfl rfl rfl rfl rfl rfl (by decide) (by decide +kernel) (fun _ _ _ h => h) ?_
        refine HK.u 25 rfl rfl rfl rfl rfl (by decide) (by decide +kernel) (fun _ _ _ h => h) ?_
        refine HK.u 26 rfl rfl rfl rfl rfl (by decide) (by decide +kernel) (fun _ _ _ h => h) ?_
        refine HK.u 27 rfl rfl rfl rfl rfl (by decide) (by decide +kernel) (fun _ _ _ h => h) ?_
        refine HK.u 28 rfl rfl rfl rfl rfl (by decide) (by decide +kernel) (fun _ _ _ h => h) ?_
        refine HK.u 29 rfl rfl rfl rfl rfl (by decide) (by decide +kernel) (fun _ _ _ h => h) ?_
        refine HK.u 30 rfl rfl rfl rfl rfl (by decide) (by decide +kernel) (fun _ _ _ h => h) ?_
        refine HK.u 31 rfl rfl rfl rfl rfl (by decide) (by decide +kernel) (fun _ _ _ h => h) ?_
        refine HK.u 32 rfl rfl rfl rfl rfl (by decide) (by decide +kernel) (fun _ _ _ h => h) ?_
        refine HK.u 33 rfl rfl rfl rfl rfl (by decide) (by decide +kernel) (fun _ _ _ h => h) ?_
        refine HK.n 34 rfl rfl rfl rfl rfl rfl (by decide) (by decide +kernel) (fun _ _ _ h => h) ?_
        refine HK.d 35 rfl rfl rfl (by decide) (by decide +kernel) (fun _ _ _ h => h) (opx_pick rfl rfl (fun _ => rfl) (fun e => absurd (Eq.trans (Eq.symm e) rfl) (by decide)) rfl) ?_
        refine HK.done (by decide +kernel) ?_
        have ey7 := Option.some.inj hy7
        subst ey7
        refine onlyN ?_
        exact ⟨⟨rfl, rfl, rfl, rfl, rfl, rfl, rfl, rfl, rfl, rfl, rfl, rfl, rfl, rfl, rfl, rfl, rfl, rfl, rfl, rfl, rfl, rfl, rfl, rfl, rfl, rfl, trivial⟩, rfl⟩
       ·rw [if_neg c21] at hy7
        have c21 := eq_false_of_ne_true c21
        refine HK.y 7 rfl rfl rfl rfl rfl c21 (by decide) (by decide +kernel) (fun _ _ _ h => h) (opx_move rfl rfl) ?_
        obtain ⟨x53, hx53, hy7⟩ := Option.bind_eq_some_iff.1 hy7
        refine HK.yf 8 rfl rfl rfl rfl rfl c21 (by decide) (by decide +kernel) (fun _ _ _ h => h) (opx_indexP rfl Tryz.underlying38 (by rw [Tryz.size2]; rfl) rfl rfl (ooO.innerRead (Sep.at (o := ooW 38 2 v7 x6.1) S_26 3 rfl) fv23.2 hx39) hx53) ?_
        intro v35 fv35
        refine HK.y 9 rfl rfl rfl rfl rfl c21 (by decide) (by decide +kernel) (fun _ _ _ h => h) (opx_loadI rfl Tryz.one2 rfl fv35 (ooO.innerRead (Sep.at (o := ooW 38 2 v7 x6.1) S_26 3 rfl) fv23.2 hx39) hx53) ?_
        refine HK.y 10 rfl rfl rfl rfl rfl c21 (by decide) (by decide +kernel) (fun _ _ _ h => h) (opx_fieldAddr rfl Tryz.fo43_0 rfl) ?_
        refine HK.y 11 rfl rfl rfl rfl rfl c21 (by decide) (by decide +kernel) (fun _ _ _ h => h) (opx_loadB rfl Tryz.one2 rfl (Sep.at (o := boxO bb3 [(.int .i64 x48.1), (.int .i64 x48.2)]) S_26 1 rfl) rfl) ?_
        refine HK.y 12 rfl rfl rfl rfl rfl c21 (by decide) (by decide +kernel) (fun _ _ _ h => h) (opx_fieldAddr rfl Tryz.fo43_1 rfl) ?_
        refine HK.y 13 rfl rfl rfl rfl rfl c21 (by decide) (by decide +kernel) (fun _ _ _ h => h) (opx_loadB rfl Tryz.one2 rfl (Sep.at (o := boxO bb3 [(.int .i64 x48.1), (.int .i64 x48.2)]) S_26 1 rfl) rfl) ?_
        refine HK.y 14 rfl rfl rfl rfl rfl c21 (by decide) (by decide +kernel) (fun _ _ _ h => h) (opx_add rfl rfl rfl) ?_
        refine HK.y 15 rfl rfl rfl rfl rfl c21 (by decide) (by decide +kernel) (fun _ _ _ h => h) (opx_icmp rfl rfl rfl rfl) ?_
        refine HK.d 16 rfl rfl rfl (by decide) (by decide +kernel) (fun _ _ _ h => h) (opx_pick rfl rfl (fun e => absurd (Eq.trans (Eq.symm e) c21) (by decide)) (fun _ => rfl) rfl) ?_
        refine HK.d 17 rfl rfl rfl (by decide) (by decide +kernel) (fun _ _ _ h => h) (opx_move rfl rfl) ?_
        by_cases c22 : (decide (x53 ≥ (IntKind.wrap .i64 (x48.1 + x48.2)))) = true
        ·rw [if_pos c22] at hy7
         refine HK.n 18 rfl rfl rfl rfl rfl c22 (by decide) (by decide +kernel) (fun _ _ _ h => h) ?_
         refine HK.n 19 rfl rfl rfl rfl rfl c22 (by decide) (by decide +kernel) (fun _ _ _ h => h) ?_
         refine HK.n 20 rfl rfl rfl rfl rfl c22 (by decide) (by decide +kernel) (fun _ _ _ h => h) ?_
         refine HK.n 21 rfl rfl rfl rfl rfl c22 (by decide) (by decide +kernel) (fun _ _ _ h => h) ?_
         refine HK.n 22 rfl rfl rfl rfl rfl c22 (by decide) (by decide +kernel) (fun _ _ _ h => h) ?_
         refine HK.n 23 rfl rfl rfl rfl rfl c22 (by decide) (by decide +kernel) (fun _ _ _ h => h) ?_
         refine HK.n 24 rfl rfl rfl rfl rfl c22 (by decide) (by decide +kernel) (fun _ _ _ h => h) ?_
         refine HK.u 25 rfl rfl rfl rfl rfl (by decide) (by decide +kernel) (fun _ _ _ h => h) ?_
         refine HK.u 26 rfl rfl rfl rfl rfl (by decide) (by decide +kernel) (fun _ _ _ h => h) ?_
         refine HK.u 27 rfl rfl rfl rfl rfl (by decide) (by decide +kernel) (fun _ _ _ h => h) ?_
         refine HK.u 28 rfl rfl rfl rfl rfl (by decide) (by decide +kernel) (fun _ _ _ h => h) ?_
         refine HK.u 29 rfl rfl rfl rfl rfl (by decide) (by decide +kernel) (fun _ _ _ h => h) ?_
         refine HK.u 30 rfl rfl rfl rfl rfl (by decide) (by decide +kernel) (fun _ _ _ h => h) ?_
         refine HK.u 31 rfl rfl rfl rfl rfl (by decide) (by decide +kernel) (fun _ _ _ h => h) ?_
         refine HK.u 32 rfl rfl rfl rfl rfl (by decide) (by decide +kernel) (fun _ _ _ h => h) ?_
         refine HK.u 33 rfl rfl rfl rfl rfl (by decide) (by decide +kernel) (fun _ _ _ h => h) ?_
         refine HK.n 34 rfl rfl rfl rfl rfl c22 (by decide) (by decide +kernel) (fun _ _ _ h => h) ?_
         refine HK.d 35 rfl rfl rfl (by decide) (by decide +kernel) (fun _ _ _ h => h) (opx_pick rfl rfl (fun _ => rfl) (fun e => absurd (Eq.trans (Eq.symm e) c22) (by decide)) rfl) ?_
         refine HK.done (by decide +kernel) ?_
         have ey7 := Option.some.inj hy7
         subst ey7
         refine onlyN ?_
         exact ⟨⟨rfl, rfl, rfl, rfl, rfl, rfl, rfl, rfl, rfl, rfl, rfl, rfl, rfl, rfl, rfl, rfl, rfl, rfl, rfl, rfl, rfl, rfl, rfl, rfl, rfl, rfl, trivial⟩, rfl⟩
        ·rw [if_neg c22] at hy7
         have c22 := eq_false_of_ne_true c22
         refine HK.y 18 rfl rfl rfl rfl rfl c22 (by decide) (by decide +kernel) (fun _ _ _ h => h) (opx_move rfl rfl) ?_
         obtain ⟨x54, hx54, hy7⟩ := Option.bind_eq_some_iff.1 hy7
         refine HK.yf 19 rfl rfl rfl rfl rfl c22 (by decide) (by decide +kernel) (fun _ _ _ h => h) (opx_indexP rfl Tryz.underlying38 (by rw [Tryz.size2]; rfl) rfl rfl (ooO.innerRead (Sep.at (o := ooW 38 2 v7 x6.1) S_26 3 rfl) fv23.2 hx39) hx54) ?_
         intro v36 fv36
         refine HK.y 20 rfl rfl rfl rfl rfl c22 (by decide) (by decide +kernel) (fun _ _ _ h => h) (opx_loadI rfl Tryz.one2 rfl fv36 (ooO.innerRead (Sep.at (o := ooW 38 2 v7 x6.1) S_26 3 rfl) fv23.2 hx39) hx54) ?_
         refine HK.y 21 rfl rfl rfl rfl rfl c22 (by decide) (by decide +kernel) (fun _ _ _ h => h) (opx_fieldAddr rfl Tryz.fo43_0 rfl) ?_
         refine HK.y 22 rfl rfl rfl rfl rfl c22 (by decide) (by decide +kernel) (fun _ _ _ h => h) (opx_loadB rfl Tryz.one2 rfl (Sep.at (o := boxO bb4 [(.int .i64 x50.1), (.int .i64 x50.2)]) S_26 0 rfl) rfl) ?_
         refine HK.y 23 rfl rfl rfl rfl rfl c22 (by decide) (by decide +kernel) (fun _ _ _ h => h) (opx_icmp rfl rfl rfl rfl) ?_
         refine HK.y 24 rfl rfl rfl rfl rfl c22 (by decide) (by decide +kernel) (fun _ _ _ h => h) (opx_move rfl rfl) ?_
         by_cases c23 : (decide (x54 ≥ x50.1)) = true
         ·rw [if_pos c23] at hy7
          refine HK.y 25 rfl rfl rfl rfl rfl c23 (by decide) (by decide +kernel) (fun _ _ _ h => h) (opx_move rfl rfl) ?_
          obtain ⟨x55, hx55, hy7⟩ := Option.bind_eq_some_iff.1 hy7
          refine HK.yf 26 rfl rfl rfl rfl rfl c23 (by decide) (by decide +kernel) (fun _ _ _ h => h) (opx_indexP rfl Tryz.underlying38 (by rw [Tryz.size2]; rfl) rfl rfl (ooO.innerRead (Sep.at (o := ooW 38 2 v7 x6.1) S_26 3 rfl) fv23.2 hx39) hx55) ?_
          intro v37 fv37
          refine HK.y 27 rfl rfl rfl rfl rfl c23 (by decide) (by decide +kernel) (fun _ _ _ h => h) (opx_loadI rfl Tryz.one2 rfl fv37 (ooO.innerRead (Sep.at (o := ooW 38 2 v7 x6.1) S_26 3 rfl) fv23.2 hx39) hx55) ?_
          refine HK.y 28 rfl rfl rfl rfl rfl c23 (by decide) (by decide +kernel) (fun _ _ _ h => h) (opx_fieldAddr rfl Tryz.fo43_0 rfl) ?_
          refine HK.y 29 rfl rfl rfl rfl rfl c23 (by decide) (by decide +kernel) (fun _ _ _ h => h) (opx_loadB rfl Tryz.one2 rfl (Sep.at (o := boxO bb4 [(.int .i64 x50.1), (.int .i64 x50.2)]) S_26 0 rfl) rfl) ?_
          refine HK.y 30 rfl rfl rfl rfl rfl c23 (by decide) (by decide +kernel) (fun _ _ _ h => h) (opx_fieldAddr rfl Tryz.fo43_1 rfl) ?_
          refine HK.y 31 rfl rfl rfl rfl rfl c23 (by decide) (by decide +kernel) (fun _ _ _ h => h) (opx_loadB rfl Tryz.one2 rfl (Sep.at (o := boxO bb4 [(.int .i64 x50.1), (.int .i64 x50.2)]) S_26 0 rfl) rfl) ?_
          refine HK.y 32 rfl rfl rfl rfl rfl c23 (by decide) (by decide +kernel) (fun _ _ _ h => h) (opx_add rfl rfl rfl) ?_
          refine HK.y 33 rfl rfl rfl rfl rfl c23 (by decide) (by decide +kernel) (fun _ _ _ h => h) (opx_icmp rfl rfl rfl rfl) ?_
          refine HK.y 34 rfl rfl rfl rfl rfl c22 (by decide) (by decide +kernel) (fun _ _ _ h => h) (opx_pick rfl rfl (fun _ => rfl) (fun e => absurd (Eq.trans (Eq.symm e) c23) (by decide)) rfl) ?_
          refine HK.d 35 rfl rfl rfl (by decide) (by decide +kernel) (fun _ _ _ h => h) (opx_pick rfl rfl (fun e => absurd (Eq.trans (Eq.symm e) c22) (by decide)) (fun _ => rfl) rfl) ?_
          refine HK.done (by decide +kernel) ?_
          have ey7 := Option.some.inj hy7
          subst ey7
          refine onlyN ?_
          exact ⟨⟨rfl, rfl, rfl, rfl, rfl, rfl, rfl, rfl, rfl, rfl, rfl, rfl, rfl, rfl, rfl, rfl, rfl, rfl, rfl, rfl, rfl, rfl, rfl, rfl, rfl, rfl, trivial⟩, rfl⟩
         ·rw [if_neg c23] at hy7
          have c23 := eq_false_of_ne_true c23
          refine HK.n 25 rfl rfl rfl rfl rfl c23 (by decide) (by decide +kernel) (fun _ _ _ h => h) ?_
          refine HK.n 26 rfl rfl rfl rfl rfl c23 (by decide) (by decide +kernel) (fun _ _ _ h => h) ?_
          refine HK.n 27 rfl rfl rfl rfl rfl c23 (by decide) (by decide +kernel) (fun _ _ _ h => h) ?_
          refine HK.n 28 rfl rfl rfl rfl rfl c23 (by decide) (by decide +kernel) (fun _ _ _ h => h) ?_
          refine HK.n 29 rfl rfl rfl rfl rfl c23 (by decide) (by decide +kernel) (fun _ _ _ h => h) ?_
          refine HK.n 30 rfl rfl rfl rfl rfl c23 (by decide) (by decide +kernel) (fun _ _ _ h => h) ?_
          refine HK.n 31 rfl rfl rfl rfl rfl c23 (by decide) (by decide +kernel) (fun _ _ _ h => h) ?_
          refine HK.n 32 rfl rfl rfl rfl rfl c23 (by decide) (by decide +kernel) (fun _ _ _ h => h) ?_
          refine HK.n 33 rfl rfl rfl rfl rfl c23 (by decide) (by decide +kernel) (fun _ _ _ h => h) ?_
          refine HK.y 34 rfl rfl rfl rfl rfl c22 (by decide) (by decide +kernel) (fun _ _ _ h => h) (opx_pick rfl rfl (fun e => absurd (Eq.trans (Eq.symm e) c23) (by decide)) (fun _ => rfl) rfl) ?_
          refine HK.d 35 rfl rfl rfl (by decide) (by decide +kernel) (fun _ _ _ h => h) (opx_pick rfl rfl (fun e => absurd (Eq.trans (Eq.symm e) c22) (by decide)) (fun _ => rfl) rfl) ?_
          refine HK.done (by decide +kernel) ?_
          have ey7 := Option.some.inj hy7
          subst ey7
          refine onlyN ?_
          exact ⟨⟨rfl, rfl, rfl, rfl, rfl, rfl, rfl, rfl, rfl, rfl, rfl, rfl, rfl, rfl, rfl, rfl, rfl, rfl, rfl, rfl, rfl, rfl, rfl, rfl, rfl, rfl, trivial⟩, rfl⟩
      rintro φ' _ ⟨hs10, rfl⟩
      refine thnN ?_
      refine W.sub hs10 ?_
      by_cases c24 : x51 = true
      ·rw [if_pos c24] at ho3
       refine W.condT rfl c24 ?_
       refine W.seq ?_
       refine W.region ?_
       refine RL.opD (by decide) (opv_assign rfl rfl) ?_
       refine RL.nil ?_
       refine thnN ?_
       refine W.ret ?_
       refine blkR ?_
       refine thnR ?_
       have eo3 := Option.some.inj ho3
       subst eo3
       have ey5 := hy3 _ rfl
       subst ey5
       try dsimp only at hp
       refine rndR ?_
       refine blkR ?_
       refine onlyR ?_
       refine thnR ?_
       have er := Option.some.inj hp
       subst er
       exact Rt.one rfl rfl ⟨rfl, X_22, (Sep.nil _ _ _)⟩
      ·rw [if_neg c24] at ho3
       have c24 := eq_false_of_ne_true c24
       refine W.condF rfl c24 ?_
       refine W.skip ?_
       refine blkN ?_
       refine thnN ?_
       refine W.region ?_
       refine RL.opD (by decide) (opv_add rfl rfl rfl) ?_
       refine RL.opD (by decide) (opv_move rfl rfl) ?_
       refine RL.nil ?_
       have eo3 := Option.some.inj ho3
       subst eo3
       refine rndN (s' := (x34, IntKind.wrap .i64 (x35 + 1))) rfl ?_
       exact ⟨⟨rfl, rfl, rfl, rfl, rfl, rfl, rfl, rfl, rfl, rfl, rfl, rfl, rfl, rfl, rfl, rfl, rfl, rfl, rfl, rfl, trivial⟩, X_22, (Sep.sel S_26 [2, 3, 4, 5, 6, 7, 8, 9, 10, 11] (by decide))⟩
    ·rw [if_neg c14] at ho3
     have c14 := eq_false_of_ne_true c14
     refine W.condF rfl c14 ?_
     refine W.exit ?_
     refine thnX ?_
     refine rndX ?_
     refine blkI ?_
     have eo3 := Option.some.inj ho3
     subst eo3
     have ey5 := hy3 _ rfl
     subst ey5
     refine onlyN ?_
     exact ⟨x34, x35, decide (x35 < (x6.1.length : Int)), rfl, ⟨rfl, rfl, rfl, rfl, rfl, rfl, rfl, rfl, rfl, rfl, rfl, rfl, rfl, rfl, rfl, rfl, rfl, rfl, rfl, rfl, rfl, trivial⟩, X_18, (Sep.sel S_20 [0, 1, 2, 3, 4, 5, 6, 7, 8, 9] (by decide))⟩
   rintro φ' hp34 ⟨x36, x37, x38, rfl, hs8, X_23, S_27⟩
   try dsimp only at hp
   refine thnN ?_
   refine W.sub hs8 ?_
   refine W.seq ?_
   refine W.region ?_
   refine RL.opD (by decide) (opv_move rfl rfl) ?_
   refine RL.opD (by decide) (opv_lenOO rfl Tryz.underlying35 rfl (ooO.read (Sep.at (o := ooW 38 2 v7 x6.1) S_27 1 rfl))) ?_
   refine RL.opD (by decide) (opv_move rfl rfl) ?_
   refine RL.opD (by decide) (opv_icmp rfl rfl rfl rfl) ?_
   refine RL.opD (by decide) (opv_assign rfl rfl) ?_
   refine RL.nil ?_
   refine thnN ?_
   refine W.ret ?_
   have er := Option.some.inj hp
   subst er
   exact Rt.one rfl rfl ⟨rfl, X_23, (Sep.nil _ _ _)⟩

end Go.H
