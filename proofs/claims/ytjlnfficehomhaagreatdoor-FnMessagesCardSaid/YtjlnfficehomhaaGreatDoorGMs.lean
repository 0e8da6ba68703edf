/- Functions of the program: what each computes, as a plain function, and that the call comes to it. Written by a program (wip/gen). -/
import Derived.Test.YtjlnfficehomhaaGreatDoorGBase
import Derived.Test.YtjlnfficehomhaaGreatDoorGSheet
import Derived.Test.YtjlnfficehomhaaGreatDoorGSort
import Derived.Test.YtjlnfficehomhaaGreatDoorGHalo
import Derived.Test.YtjlnfficehomhaaGreatDoorGSortLL
import Derived.Test.YtjlnfficehomhaaGreatDoorLibB
import Derived.Test.YtjlnfficehomhaaGreatDoorProg
import Derived.KernelRfl
set_option linter.unusedVariables false
namespace Go.H
open Go Go.Proofs

theorem _root_.Go.Proofs.Tryz.einfo38 : elemInfo Tryz.prog 38 = some ((.slice none 0 0), 1, 24) := by kernel_rfl

noncomputable def impl_areWorkers (a0 : Int) : Option Bool :=
 ((impl_within a0 1 8).bind fun (x1 : Bool) => some x1)

noncomputable def impl_stripsOf.s0 (a0_1 : Int) (a1 : Int) (x1 : List ((Int × Int))) (x2 : Int) (x3 : Int) : Option (((List ((Int × Int))) × Int × Int) ⊕ (Int × Int × Bool × (List ((Int × Int))))) :=
 (if (decide (x3 < a1)) = true then (if a1 = 0 then none else (if a1 = 0 then none else (((if (decide (x3 < (Int.tmod a0_1 a1))) = true then some (IntKind.wrap .i64 ((IntKind.wrap .i64 (Int.tdiv a0_1 a1)) + 1)) else some (IntKind.wrap .i64 (Int.tdiv a0_1 a1))) : Option Int).bind fun (x8 : Int) => (((if (decide (x8 > 0)) = true then (if x1.length + [(x2, x8)].length ≤ 1000000000 then some (x1 ++ [(x2, x8)]) else none) else some x1) : Option (List ((Int × Int)))).bind fun (x9 : List ((Int × Int))) => some (.inl (x9, IntKind.wrap .i64 (x2 + x8), IntKind.wrap .i64 (x3 + 1))))))) else some (.inr (x2, x3, decide (x3 < a1), x1)))

noncomputable def impl_stripsOf (a0_0 : Int) (a0_1 : Int) (a0_2 : Bool) (a0_3 : List (Option Nat)) (a0_4 : List (Option Nat)) (a1 : Int) : Option (List ((Int × Int))) :=
 ((loopF (fun (s : ((List ((Int × Int))) × Int × Int)) => impl_stripsOf.s0 a0_1 a1 s.1 s.2.1 s.2.2) (([] : List ((Int × Int))), 0, 0)).bind fun (⟨x4, x5, x6, x7⟩ : (Int × Int × Bool × (List ((Int × Int))))) => some x7)

noncomputable def impl_StripsOf (a0_0 : Int) (a0_1 : Int) (a0_2 : Bool) (a0_3 : List (Option Nat)) (a0_4 : List (Option Nat)) (a1 : Int) : Option ((List ((Int × Int))) × Bool) :=
 ((((impl_ValidSheet a0_0 a0_1 a0_2 a0_3 a0_4).bind fun (x2 : Bool) => (if (!x2) = true then some true else ((impl_areWorkers a1).bind fun (x3 : Bool) => some (!x3)))) : Option Bool).bind fun (x1 : Bool) => (if x1 = true then some (([] : List ((Int × Int))), false) else ((impl_stripsOf a0_0 a0_1 a0_2 a0_3 a0_4 a1).bind fun (x4 : List ((Int × Int))) => some (x4, true))))

noncomputable def impl_MessagesOf.s2 (x1 : ((List ((Int × Int))) × Bool)) (x3 : Int) (x14 : Int) (x15 : List (List (Int))) (x16 : Int) : Option (((List (List (Int))) × Int) ⊕ (Int × Bool × (List (List (Int))))) :=
 (if (decide (x16 < (x1.1.length : Int))) = true then ((idx x1.1 x16).bind fun (x20 : (Int × Int)) => (((if (x16 != x3) = true then ((impl_within x14 x20.1 (IntKind.wrap .i64 ((IntKind.wrap .i64 (x20.1 + x20.2)) - 1))).bind fun (x22 : Bool) => some x22) else some false) : Option Bool).bind fun (x21 : Bool) => (((if x21 = true then (if x15.length + [[x16, x3, x14]].length ≤ 1000000000 then some (x15 ++ [[x16, x3, x14]]) else none) else some x15) : Option (List (List (Int)))).bind fun (x23 : List (List (Int))) => some (.inl (x23, IntKind.wrap .i64 (x16 + 1)))))) else some (.inr (x16, decide (x16 < (x1.1.length : Int)), x15)))

noncomputable def impl_MessagesOf.s1 (x1 : ((List ((Int × Int))) × Bool)) (x3 : Int) (x8 : List (Int)) (x9 : List (List (Int))) (x10 : Int) : Option (((List (List (Int))) × Int) ⊕ (Int × Bool × (List (List (Int))))) :=
 (if (decide (x10 < (x8.length : Int))) = true then ((idx x8 x10).bind fun (x14 : Int) => ((loopF (fun (s : ((List (List (Int))) × Int)) => impl_MessagesOf.s2 x1 x3 x14 s.1 s.2) (x9, 0)).bind fun (⟨x17, x18, x19⟩ : (Int × Bool × (List (List (Int))))) => some (.inl (x19, IntKind.wrap .i64 (x10 + 1))))) else some (.inr (x10, decide (x10 < (x8.length : Int)), x9)))

noncomputable def impl_MessagesOf.s0 (a0_0 : Int) (a0_1 : Int) (a0_2 : Bool) (a0_3 : List (Option Nat)) (a0_4 : List (Option Nat)) (x1 : ((List ((Int × Int))) × Bool)) (x2 : List (List (Int))) (x3 : Int) : Option (((List (List (Int))) × Int) ⊕ (Int × Bool × (List (List (Int))))) :=
 (if (decide (x3 < (x1.1.length : Int))) = true then ((idx x1.1 x3).bind fun (x7 : (Int × Int)) => ((impl_haloRows a0_0 a0_1 a0_2 a0_3 a0_4 x7.1 x7.2).bind fun (x8 : List (Int)) => ((loopF (fun (s : ((List (List (Int))) × Int)) => impl_MessagesOf.s1 x1 x3 x8 s.1 s.2) (x2, 0)).bind fun (⟨x11, x12, x13⟩ : (Int × Bool × (List (List (Int))))) => some (.inl (x13, IntKind.wrap .i64 (x3 + 1)))))) else some (.inr (x3, decide (x3 < (x1.1.length : Int)), x2)))

noncomputable def impl_MessagesOf (a0_0 : Int) (a0_1 : Int) (a0_2 : Bool) (a0_3 : List (Option Nat)) (a0_4 : List (Option Nat)) (a1 : Int) : Option ((List (List (Int))) × Bool) :=
 ((impl_StripsOf a0_0 a0_1 a0_2 a0_3 a0_4 a1).bind fun (x1 : ((List ((Int × Int))) × Bool)) => (if (!x1.2) = true then some (([] : List (List (Int))), false) else ((loopF (fun (s : ((List (List (Int))) × Int)) => impl_MessagesOf.s0 a0_0 a0_1 a0_2 a0_3 a0_4 x1 s.1 s.2) (([] : List (List (Int))), 0)).bind fun (⟨x4, x5, x6⟩ : (Int × Bool × (List (List (Int))))) => ((slices_SortFunc_LL x6).bind fun (x24 : List (List (Int))) => some (x24, true)))))

set_option maxRecDepth 20000 in
theorem impl_areWorkers_ok (h0 : Heap) (a0 : Int) (r : Bool) (hp : impl_areWorkers a0 = some r) : CallsH Tryz.prog 19 ([(.int .i64 a0)].toArray ++ [].toArray) h0 (fun v h' => v = (.bool r) ∧ h0 = h') := by
 unfold impl_areWorkers at hp
 refine callsH_of_W (l := [(.int .i64 a0)]) (cap := []) 5 Tryz.func19 rfl rfl rfl ?_
 refine W.seq ?_
 refine W.region ?_
 refine RL.opD (by decide) (opv_assign rfl rfl) ?_
 refine RL.nil ?_
 refine thnN ?_
 refine W.seq ?_
 refine W.region ?_
 refine RL.opD (by decide) (opv_move rfl rfl) ?_
 obtain ⟨x1, hx1, hp⟩ := Option.bind_eq_some_iff.1 hp
 refine RL.op _ (by decide) (opv_call (cap := []) (impl_within_ok _ _ _ _ _ hx1) rfl rfl ⟨rfl, rfl, rfl, trivial⟩ Tryz.func22 rfl rfl) ?_
 rintro _ _ ⟨rfl, rfl⟩
 refine RL.opD (by decide) (opv_assign rfl rfl) ?_
 refine RL.nil ?_
 refine thnN ?_
 refine W.ret ?_
 have er := Option.some.inj hp
 subst er
 exact Rt.one rfl rfl ⟨rfl, rfl⟩

set_option maxRecDepth 20000 in
theorem impl_stripsOf_ok (h0 : Heap) (a0_0 : Int) (a0_1 : Int) (a0_2 : Bool) (u0_3 : Value) (a0_3 : List (Option Nat)) (g0_3 : SL (kF .f32) h0.size h0 u0_3 a0_3) (u0_4 : Value) (a0_4 : List (Option Nat)) (g0_4 : SL (kF .f32) h0.size h0 u0_4 a0_4) (a1 : Int) (r : List ((Int × Int))) (hp : impl_stripsOf a0_0 a0_1 a0_2 a0_3 a0_4 a1 = some r) : CallsH Tryz.prog 20 ([(.agg (List.toArray (α := Value) [(.int .i64 a0_0), (.int .i64 a0_1), (.bool a0_2), u0_3, u0_4])), (.int .i64 a1)].toArray ++ [].toArray) h0 (fun v h' => Mod [] h0 h' ∧ Sep [] h0.size h' [ownO (kII .i64) 43 v r]) := by
 unfold impl_stripsOf at hp
 refine callsH_of_W (l := [(.agg (List.toArray (α := Value) [(.int .i64 a0_0), (.int .i64 a0_1), (.bool a0_2), u0_3, u0_4])), (.int .i64 a1)]) (cap := []) 39 Tryz.func20 rfl rfl rfl ?_
 refine W.seq ?_
 refine W.region ?_
 refine RL.op _ (by decide) (opS_boxed (opv_boxA (cs := [(.int .i64 a0_0), (.int .i64 a0_1), (.bool a0_2), u0_3, u0_4]) rfl rfl)) ?_
 rintro _ hp1 ⟨bb1, rfl, MT_1, T_1⟩
 obtain ⟨X_1, S_1⟩ := Sep.turn0 (Mod.refl [] h0) (Sep.nil [] h0.size h0) MT_1 T_1
 refine RL.opD (by decide) (opv_assign rfl rfl) ?_
 have S_2 : Sep [] h0.size hp1 [ownO (kII .i64) 43 (.slice none 0 0) ([] : List ((Int × Int))), boxO bb1 [(.int .i64 a0_0), (.int .i64 a0_1), (.bool a0_2), u0_3, u0_4]] := Sep.addNil S_1
 refine RL.nil ?_
 refine thnN ?_
 refine W.seq ?_
 refine W.region ?_
 refine RL.op _ (by decide) (opS_lit0 (K := (kII .i64)) rfl Tryz.underlying32 Tryz.isinfo43) ?_
 rintro v1 hp2 ⟨MT_2, T_2⟩
 obtain ⟨X_2, S_3⟩ := Sep.turn0 X_1 S_2 MT_2 T_2
 refine RL.opD (by decide) (opv_assign rfl rfl) ?_
 refine RL.opD (by decide) (opv_assign rfl rfl) ?_
 refine RL.nil ?_
 refine thnN ?_
 refine W.seq ?_
 refine W.seq ?_
 refine W.region ?_
 refine RL.opD (by decide) (opv_move rfl rfl) ?_
 refine RL.opD (by decide) (opv_move rfl rfl) ?_
 refine RL.nil ?_
 refine thnN ?_
 obtain ⟨y1, hy1, hp⟩ := Option.bind_eq_some_iff.1 hp
 refine W.cut (fun φ' h' => ∃ x4, ∃ x5, ∃ x6, ∃ x7, ∃ v3, y1 = (x4, x5, x6, x7) ∧ Fr.sub [(0, (.agg (List.toArray (α := Value) [(.int .i64 a0_0), (.int .i64 a0_1), (.bool a0_2), u0_3, u0_4]))), (1, (.int .i64 a1)), (2, (.pointer (some ⟨bb1, 0, none⟩))), (4, (.slice none 0 0)), (10, (.int .i64 a1)), (6, (.int .i64 x4)), (11, (.int .i64 x5)), (12, (.bool x6)), (5, v3)] φ' ∧ Mod [] h0 h' ∧ Sep [] h0.size h' [ownO (kII .i64) 43 (.slice none 0 0) ([] : List ((Int × Int))), boxO bb1 [(.int .i64 a0_0), (.int .i64 a0_1), (.bool a0_2), u0_3, u0_4], ownO (kII .i64) 43 v3 x7]) ?_ ?_
 ·refine W.block ?_
  refine W.loopS (fun (s : ((List ((Int × Int))) × Int × Int)) φ' h' => ∃ v2, Fr.sub [(0, (.agg (List.toArray (α := Value) [(.int .i64 a0_0), (.int .i64 a0_1), (.bool a0_2), u0_3, u0_4]))), (1, (.int .i64 a1)), (2, (.pointer (some ⟨bb1, 0, none⟩))), (4, (.slice none 0 0)), (10, (.int .i64 a1)), (5, v2), (6, (.int .i64 s.2.1)), (11, (.int .i64 s.2.2))] φ' ∧ Mod [] h0 h' ∧ Sep [] h0.size h' [ownO (kII .i64) 43 v2 s.1, ownO (kII .i64) 43 (.slice none 0 0) ([] : List ((Int × Int))), boxO bb1 [(.int .i64 a0_0), (.int .i64 a0_1), (.bool a0_2), u0_3, u0_4]]) hy1 ⟨v1, ⟨rfl, rfl, rfl, rfl, rfl, rfl, rfl, rfl, trivial⟩, X_2, (Sep.sel S_3 [0, 1, 2] (by decide))⟩ ?_
  rintro ⟨x1, x2, x3⟩ φ' hp3 o1 ⟨v2, hs1, X_3, S_4⟩ ho1 hy1
  have hs1 : Fr.sub [(0, (.agg (List.toArray (α := Value) [(.int .i64 a0_0), (.int .i64 a0_1), (.bool a0_2), u0_3, u0_4]))), (1, (.int .i64 a1)), (2, (.pointer (some ⟨bb1, 0, none⟩))), (4, (.slice none 0 0)), (10, (.int .i64 a1)), (5, v2), (6, (.int .i64 x2)), (11, (.int .i64 x3))] φ' := hs1
  have S_4 : Sep [] h0.size hp3 [ownO (kII .i64) 43 v2 x1, ownO (kII .i64) 43 (.slice none 0 0) ([] : List ((Int × Int))), boxO bb1 [(.int .i64 a0_0), (.int .i64 a0_1), (.bool a0_2), u0_3, u0_4]] := S_4
  have ho1 : impl_stripsOf.s0 a0_1 a1 x1 x2 x3 = some o1 := ho1
  unfold impl_stripsOf.s0 at ho1
  refine W.sub hs1 ?_
  refine W.seq ?_
  refine W.region ?_
  refine RL.opD (by decide) (opv_icmp rfl rfl rfl rfl) ?_
  refine RL.nil ?_
  refine thnN ?_
  refine W.seq ?_
  by_cases c1 : (decide (x3 < a1)) = true
  ·rw [if_pos c1] at ho1
   refine W.condT rfl c1 ?_
   refine W.skip ?_
   refine thnN ?_
   refine W.seq ?_
   refine W.block ?_
   refine W.seq ?_
   refine W.region ?_
   refine RL.opD (by decide) (opv_move rfl rfl) ?_
   refine RL.opD (by decide) (opv_assign rfl rfl) ?_
   refine RL.nil ?_
   refine thnN ?_
   refine W.seq ?_
   refine W.region ?_
   refine RL.opD (by decide) (opv_fieldAddr rfl Tryz.fo26_1 rfl) ?_
   refine RL.opD (by decide) (opv_loadB rfl Tryz.one2 rfl (Sep.at (o := boxO bb1 [(.int .i64 a0_0), (.int .i64 a0_1), (.bool a0_2), u0_3, u0_4]) S_4 2 rfl) rfl) ?_
   refine RL.opD (by decide) (opv_move rfl rfl) ?_
   by_cases nc2 : a1 = 0
   ·rw [if_pos nc2] at ho1; cases ho1
   rw [if_neg nc2] at ho1
   have c2 : a1 ≠ 0 := nc2
   refine RL.opD (by decide) (opv_quo rfl c2 rfl rfl) ?_
   refine RL.opD (by decide) (opv_assign rfl rfl) ?_
   refine RL.nil ?_
   refine thnN ?_
   refine W.seq ?_
   refine W.seq ?_
   refine W.region ?_
   refine RL.opD (by decide) (opv_move rfl rfl) ?_
   refine RL.opD (by decide) (opv_fieldAddr rfl Tryz.fo26_1 rfl) ?_
   refine RL.opD (by decide) (opv_loadB rfl Tryz.one2 rfl (Sep.at (o := boxO bb1 [(.int .i64 a0_0), (.int .i64 a0_1), (.bool a0_2), u0_3, u0_4]) S_4 2 rfl) rfl) ?_
   refine RL.opD (by decide) (opv_move rfl rfl) ?_
   by_cases nc3 : a1 = 0
   ·rw [if_pos nc3] at ho1; cases ho1
   rw [if_neg nc3] at ho1
   have c3 : a1 ≠ 0 := nc3
   refine RL.opD (by decide) (opv_rem rfl c3 rfl rfl) ?_
   refine RL.opD (by decide) (opv_icmp rfl rfl rfl rfl) ?_
   refine RL.nil ?_
   refine thnN ?_
   obtain ⟨x8, hy2, ho1⟩ := Option.bind_eq_some_iff.1 ho1
   refine W.cut (fun φ' h' => Fr.sub [(0, (.agg (List.toArray (α := Value) [(.int .i64 a0_0), (.int .i64 a0_1), (.bool a0_2), u0_3, u0_4]))), (1, (.int .i64 a1)), (2, (.pointer (some ⟨bb1, 0, none⟩))), (4, (.slice none 0 0)), (10, (.int .i64 a1)), (5, v2), (6, (.int .i64 x2)), (11, (.int .i64 x3)), (12, (.bool (decide (x3 < a1)))), (7, (.int .i64 x3)), (23, (.bool (decide (x3 < (Int.tmod a0_1 a1))))), (8, (.int .i64 x8))] φ' ∧ hp3 = h') ?_ ?_
   ·by_cases c4 : (decide (x3 < (Int.tmod a0_1 a1))) = true
    ·rw [if_pos c4] at hy2
     refine W.condT rfl c4 ?_
     refine W.region ?_
     refine RL.opD (by decide) (opv_move rfl rfl) ?_
     refine RL.opD (by decide) (opv_add rfl rfl rfl) ?_
     refine RL.opD (by decide) (opv_assign rfl rfl) ?_
     refine RL.nil ?_
     have ey2 := Option.some.inj hy2
     subst ey2
     refine onlyN ?_
     exact ⟨⟨rfl, rfl, rfl, rfl, rfl, rfl, rfl, rfl, rfl, rfl, rfl, rfl, trivial⟩, rfl⟩
    ·rw [if_neg c4] at hy2
     have c4 := eq_false_of_ne_true c4
     refine W.condF rfl c4 ?_
     refine W.skip ?_
     have ey2 := Option.some.inj hy2
     subst ey2
     refine onlyN ?_
     exact ⟨⟨rfl, rfl, rfl, rfl, rfl, rfl, rfl, rfl, rfl, rfl, rfl, rfl, trivial⟩, rfl⟩
   rintro φ' _ ⟨hs3, rfl⟩
   refine thnN ?_
   refine W.sub hs3 ?_
   refine W.seq ?_
   refine W.seq ?_
   refine W.region ?_
   refine RL.opD (by decide) (opv_move rfl rfl) ?_
   refine RL.opD (by decide) (opv_icmp rfl rfl rfl rfl) ?_
   refine RL.nil ?_
   refine thnN ?_
   obtain ⟨x9, hy3, ho1⟩ := Option.bind_eq_some_iff.1 ho1
   refine W.cut (fun φ' h' => ∃ v4, Fr.sub [(0, (.agg (List.toArray (α := Value) [(.int .i64 a0_0), (.int .i64 a0_1), (.bool a0_2), u0_3, u0_4]))), (1, (.int .i64 a1)), (2, (.pointer (some ⟨bb1, 0, none⟩))), (4, (.slice none 0 0)), (10, (.int .i64 a1)), (6, (.int .i64 x2)), (11, (.int .i64 x3)), (12, (.bool (decide (x3 < a1)))), (7, (.int .i64 x3)), (23, (.bool (decide (x3 < (Int.tmod a0_1 a1))))), (8, (.int .i64 x8)), (27, (.bool (decide (x8 > 0)))), (5, v4)] φ' ∧ Mod [] h0 h' ∧ Sep [] h0.size h' [ownO (kII .i64) 43 (.slice none 0 0) ([] : List ((Int × Int))), boxO bb1 [(.int .i64 a0_0), (.int .i64 a0_1), (.bool a0_2), u0_3, u0_4], ownO (kII .i64) 43 v4 x9]) ?_ ?_
   ·by_cases c5 : (decide (x8 > 0)) = true
    ·rw [if_pos c5] at hy3
     refine W.condT rfl c5 ?_
     refine W.region ?_
     refine RL.opD (by decide) (opv_move rfl rfl) ?_
     refine RL.opD (by decide) (opv_move rfl rfl) ?_
     refine RL.opD (by decide) (opv_move rfl rfl) ?_
     refine RL.opD (by decide) (opv_build (cs := [(.int .i64 x2), (.int .i64 x8)]) [(0, [(.int .i64 x2)]), (1, [(.int .i64 x8)])] [(0, (.int .i64 x2)), (1, (.int .i64 x8))] rfl Tryz.bd43 ⟨⟨rfl, rfl, rfl, cells1 rfl⟩, ⟨rfl, rfl, rfl, cells1 rfl⟩, trivial⟩ rfl) ?_
     refine RL.op _ (by decide) (opS_litW (K := (kII .i64)) (us := [(.int .i64 x2), (.int .i64 x8)]) (z := (x2, x8)) rfl Tryz.underlying32 Tryz.einfo43 rfl rfl rfl rfl rfl rfl) ?_
     rintro v5 hp4 ⟨MT_3, T_3⟩
     obtain ⟨X_4, S_5⟩ := Sep.turn0 X_3 S_4 MT_3 T_3
     obtain ⟨c6, hy3⟩ := of_ite hy3
     refine RL.op _ (by decide) (opS_append (K := (kII .i64)) rfl Tryz.underlying32 Tryz.einfo43 rfl rfl rfl rfl (Sep.at (o := ownO (kII .i64) 43 v2 x1) S_5 1 rfl) (ownO.read (Sep.at (o := ownO (kII .i64) 43 v5 [(x2, x8)]) S_5 0 rfl)) (by decide) (by decide) c6) ?_
     rintro v6 hp5 ⟨MT_4, T_4⟩
     have S_6 : Sep [] h0.size hp4 ([ownO (kII .i64) 43 v2 x1] ++ [ownO (kII .i64) 43 v5 [(x2, x8)], ownO (kII .i64) 43 (.slice none 0 0) ([] : List ((Int × Int))), boxO bb1 [(.int .i64 a0_0), (.int .i64 a0_1), (.bool a0_2), u0_3, u0_4]]) := Sep.sel S_5 [1, 0, 2, 3] (by decide)
     obtain ⟨X_5, S_7⟩ := Sep.turn X_4 S_6 MT_4 T_4
     refine RL.opD (by decide) (opv_assign rfl rfl) ?_
     refine RL.nil ?_
     have ey3 := Option.some.inj hy3
     subst ey3
     refine onlyN ?_
     exact ⟨v6, ⟨rfl, rfl, rfl, rfl, rfl, rfl, rfl, rfl, rfl, rfl, rfl, rfl, rfl, trivial⟩, X_5, (Sep.sel S_7 [2, 3, 0] (by decide))⟩
    ·rw [if_neg c5] at hy3
     have c5 := eq_false_of_ne_true c5
     refine W.condF rfl c5 ?_
     refine W.skip ?_
     have ey3 := Option.some.inj hy3
     subst ey3
     refine onlyN ?_
     exact ⟨v2, ⟨rfl, rfl, rfl, rfl, rfl, rfl, rfl, rfl, rfl, rfl, rfl, rfl, rfl, trivial⟩, X_3, (Sep.sel S_4 [1, 2, 0] (by decide))⟩
   rintro φ' hp6 ⟨v4, hs4, X_6, S_8⟩
   refine thnN ?_
   refine W.sub hs4 ?_
   refine W.region ?_
   refine RL.opD (by decide) (opv_move rfl rfl) ?_
   refine RL.opD (by decide) (opv_move rfl rfl) ?_
   refine RL.opD (by decide) (opv_add rfl rfl rfl) ?_
   refine RL.opD (by decide) (opv_assign rfl rfl) ?_
   refine RL.nil ?_
   refine blkN ?_
   refine thnN ?_
   refine W.region ?_
   refine RL.opD (by decide) (opv_add rfl rfl rfl) ?_
   refine RL.opD (by decide) (opv_move rfl rfl) ?_
   refine RL.nil ?_
   have eo1 := Option.some.inj ho1
   subst eo1
   refine rndN (s' := (x9, IntKind.wrap .i64 (x2 + x8), IntKind.wrap .i64 (x3 + 1))) rfl ?_
   exact ⟨v4, ⟨rfl, rfl, rfl, rfl, rfl, rfl, rfl, rfl, trivial⟩, X_6, (Sep.sel S_8 [2, 0, 1] (by decide))⟩
  ·rw [if_neg c1] at ho1
   have c1 := eq_false_of_ne_true c1
   refine W.condF rfl c1 ?_
   refine W.exit ?_
   refine thnX ?_
   refine rndX ?_
   refine blkI ?_
   have eo1 := Option.some.inj ho1
   subst eo1
   have ey1 := hy1 _ rfl
   subst ey1
   refine onlyN ?_
   exact ⟨x2, x3, decide (x3 < a1), x1, v2, rfl, ⟨rfl, rfl, rfl, rfl, rfl, rfl, rfl, rfl, rfl, trivial⟩, X_3, (Sep.sel S_4 [1, 2, 0] (by decide))⟩
 rintro φ' hp7 ⟨x4, x5, x6, x7, v3, rfl, hs2, X_7, S_9⟩
 try dsimp only at hp
 refine thnN ?_
 refine W.sub hs2 ?_
 refine W.seq ?_
 refine W.region ?_
 refine RL.opD (by decide) (opv_move rfl rfl) ?_
 refine RL.opD (by decide) (opv_assign rfl rfl) ?_
 refine RL.nil ?_
 refine thnN ?_
 refine W.ret ?_
 have er := Option.some.inj hp
 subst er
 exact Rt.one rfl rfl ⟨X_7, (Sep.sel S_9 [2] (by decide))⟩

set_option maxRecDepth 20000 in
theorem impl_StripsOf_ok (h0 : Heap) (a0_0 : Int) (a0_1 : Int) (a0_2 : Bool) (u0_3 : Value) (a0_3 : List (Option Nat)) (g0_3 : SL (kF .f32) h0.size h0 u0_3 a0_3) (u0_4 : Value) (a0_4 : List (Option Nat)) (g0_4 : SL (kF .f32) h0.size h0 u0_4 a0_4) (a1 : Int) (r : ((List ((Int × Int))) × Bool)) (hp : impl_StripsOf a0_0 a0_1 a0_2 a0_3 a0_4 a1 = some r) : CallsH Tryz.prog 8 ([(.agg (List.toArray (α := Value) [(.int .i64 a0_0), (.int .i64 a0_1), (.bool a0_2), u0_3, u0_4])), (.int .i64 a1)].toArray ++ [].toArray) h0 (fun v h' => ∃ w0, v = (.tuple (List.toArray (α := Value) [w0, (.bool r.2)])) ∧ Mod [] h0 h' ∧ Sep [] h0.size h' [ownO (kII .i64) 43 w0 r.1]) := by
 unfold impl_StripsOf at hp
 refine callsH_of_W (l := [(.agg (List.toArray (α := Value) [(.int .i64 a0_0), (.int .i64 a0_1), (.bool a0_2), u0_3, u0_4])), (.int .i64 a1)]) (cap := []) 17 Tryz.func8 rfl rfl rfl ?_
 refine W.seq ?_
 refine W.region ?_
 refine RL.op _ (by decide) (opS_boxed (opv_boxA (cs := [(.int .i64 a0_0), (.int .i64 a0_1), (.bool a0_2), u0_3, u0_4]) rfl rfl)) ?_
 rintro _ hp1 ⟨bb1, rfl, MT_1, T_1⟩
 obtain ⟨X_1, S_1⟩ := Sep.turn0 (Mod.refl [] h0) (Sep.nil [] h0.size h0) MT_1 T_1
 refine RL.opD (by decide) (opv_assign rfl rfl) ?_
 have S_2 : Sep [] h0.size hp1 [ownO (kII .i64) 43 (.slice none 0 0) ([] : List ((Int × Int))), boxO bb1 [(.int .i64 a0_0), (.int .i64 a0_1), (.bool a0_2), u0_3, u0_4]] := Sep.addNil S_1
 refine RL.opD (by decide) (opv_assign rfl rfl) ?_
 refine RL.nil ?_
 refine thnN ?_
 refine W.seq ?_
 refine W.seq ?_
 obtain ⟨x1, hy1, hp⟩ := Option.bind_eq_some_iff.1 hp
 refine W.cut (fun φ' h' => Fr.sub [(0, (.agg (List.toArray (α := Value) [(.int .i64 a0_0), (.int .i64 a0_1), (.bool a0_2), u0_3, u0_4]))), (1, (.int .i64 a1)), (2, (.pointer (some ⟨bb1, 0, none⟩))), (4, (.slice none 0 0)), (5, (.bool false)), (13, (.bool x1))] φ' ∧ Mod [] h0 h' ∧ Sep [] h0.size h' [ownO (kII .i64) 43 (.slice none 0 0) ([] : List ((Int × Int))), boxO bb1 [(.int .i64 a0_0), (.int .i64 a0_1), (.bool a0_2), u0_3, u0_4]]) ?_ ?_
 ·refine W.region ?_
  refine RL.opD (by decide) (opv_loadA (us := [(.int .i64 a0_0), (.int .i64 a0_1), (.bool a0_2), u0_3, u0_4]) rfl Tryz.agg26 Tryz.size26 rfl (Sep.at (o := boxO bb1 [(.int .i64 a0_0), (.int .i64 a0_1), (.bool a0_2), u0_3, u0_4]) S_2 1 rfl) rfl rfl) ?_
  obtain ⟨x2, hx2, hy1⟩ := Option.bind_eq_some_iff.1 hy1
  refine RL.op _ (by decide) (opv_call (cap := []) (impl_ValidSheet_ok _ _ _ _ _ _ (SL.up (SL.mod g0_3 X_1 (Nat.le_refl _) nob) (Nat.le_trans (Nat.le_refl _) (Mod.size X_1))) _ _ (SL.up (SL.mod g0_4 X_1 (Nat.le_refl _) nob) (Nat.le_trans (Nat.le_refl _) (Mod.size X_1))) _ hx2) rfl rfl ⟨rfl, trivial⟩ Tryz.func18 rfl rfl) ?_
  rintro _ hp2 ⟨rfl, MT_2, T_2⟩
  obtain ⟨X_2, S_3⟩ := Sep.turn0 X_1 S_2 MT_2 T_2
  refine RL.opD (by decide) (opv_not rfl rfl) ?_
  refine RL.opD (by decide) (opv_move rfl rfl) ?_
  by_cases c1 : (!x2) = true
  ·rw [if_pos c1] at hy1
   refine RL.noT rfl rfl c1 (by decide) ?_
   refine RL.noT rfl rfl c1 (by decide) ?_
   refine RL.noT rfl rfl c1 (by decide) ?_
   refine RL.opD (by decide) (opv_pick rfl rfl (fun _ => rfl) (fun e => absurd (Eq.trans (Eq.symm e) c1) (by decide)) rfl) ?_
   refine RL.nil ?_
   have ey1 := Option.some.inj hy1
   subst ey1
   refine onlyN ?_
   exact ⟨⟨rfl, rfl, rfl, rfl, rfl, rfl, trivial⟩, X_2, (Sep.sel S_3 [0, 1] (by decide))⟩
  ·rw [if_neg c1] at hy1
   have c1 := eq_false_of_ne_true c1
   refine RL.yesD rfl rfl c1 (by decide) (opv_move rfl rfl) ?_
   obtain ⟨x3, hx3, hy1⟩ := Option.bind_eq_some_iff.1 hy1
   refine RL.yes _ rfl rfl c1 (by decide) (opv_call (cap := []) (impl_areWorkers_ok _ _ _ hx3) rfl rfl ⟨rfl, trivial⟩ Tryz.func19 rfl rfl) ?_
   rintro _ _ ⟨rfl, rfl⟩
   refine RL.yesD rfl rfl c1 (by decide) (opv_not rfl rfl) ?_
   refine RL.opD (by decide) (opv_pick rfl rfl (fun e => absurd (Eq.trans (Eq.symm e) c1) (by decide)) (fun _ => rfl) rfl) ?_
   refine RL.nil ?_
   have ey1 := Option.some.inj hy1
   subst ey1
   refine onlyN ?_
   exact ⟨⟨rfl, rfl, rfl, rfl, rfl, rfl, trivial⟩, X_2, (Sep.sel S_3 [0, 1] (by decide))⟩
 rintro φ' hp3 ⟨hs1, X_3, S_4⟩
 refine thnN ?_
 refine W.sub hs1 ?_
 by_cases c2 : x1 = true
 ·rw [if_pos c2] at hp
  refine W.condT rfl c2 ?_
  refine W.seq ?_
  refine W.region ?_
  refine RL.opD (by decide) (opv_assign rfl rfl) ?_
  have S_5 : Sep [] h0.size hp3 [ownO (kII .i64) 43 (.slice none 0 0) ([] : List ((Int × Int))), ownO (kII .i64) 43 (.slice none 0 0) ([] : List ((Int × Int))), boxO bb1 [(.int .i64 a0_0), (.int .i64 a0_1), (.bool a0_2), u0_3, u0_4]] := Sep.addNil S_4
  refine RL.opD (by decide) (opv_assign rfl rfl) ?_
  refine RL.nil ?_
  refine thnN ?_
  refine W.ret ?_
  refine thnR ?_
  have er := Option.some.inj hp
  subst er
  exact Rt.two rfl rfl rfl ⟨(.slice none 0 0), rfl, X_3, (Sep.sel S_5 [0] (by decide))⟩
 ·rw [if_neg c2] at hp
  have c2 := eq_false_of_ne_true c2
  refine W.condF rfl c2 ?_
  refine W.skip ?_
  refine thnN ?_
  refine W.seq ?_
  refine W.region ?_
  refine RL.opD (by decide) (opv_loadA (us := [(.int .i64 a0_0), (.int .i64 a0_1), (.bool a0_2), u0_3, u0_4]) rfl Tryz.agg26 Tryz.size26 rfl (Sep.at (o := boxO bb1 [(.int .i64 a0_0), (.int .i64 a0_1), (.bool a0_2), u0_3, u0_4]) S_4 1 rfl) rfl rfl) ?_
  refine RL.opD (by decide) (opv_move rfl rfl) ?_
  obtain ⟨x4, hx4, hp⟩ := Option.bind_eq_some_iff.1 hp
  refine RL.op _ (by decide) (opv_call (cap := []) (impl_stripsOf_ok _ _ _ _ _ _ (SL.up (SL.mod g0_3 X_3 (Nat.le_refl _) nob) (Nat.le_trans (Nat.le_refl _) (Mod.size X_3))) _ _ (SL.up (SL.mod g0_4 X_3 (Nat.le_refl _) nob) (Nat.le_trans (Nat.le_refl _) (Mod.size X_3))) _ _ hx4) rfl rfl ⟨rfl, rfl, trivial⟩ Tryz.func20 rfl rfl) ?_
  rintro v1 hp4 ⟨MT_3, T_3⟩
  obtain ⟨X_4, S_6⟩ := Sep.turn0 X_3 S_4 MT_3 T_3
  refine RL.opD (by decide) (opv_assign rfl rfl) ?_
  refine RL.opD (by decide) (opv_assign rfl rfl) ?_
  refine RL.nil ?_
  refine thnN ?_
  refine W.ret ?_
  have er := Option.some.inj hp
  subst er
  exact Rt.two rfl rfl rfl ⟨v1, rfl, X_4, (Sep.sel S_6 [0] (by decide))⟩

set_option maxHeartbeats 4000000 in
set_option maxRecDepth 20000 in
theorem impl_MessagesOf_ok (h0 : Heap) (a0_0 : Int) (a0_1 : Int) (a0_2 : Bool) (u0_3 : Value) (a0_3 : List (Option Nat)) (g0_3 : SL (kF .f32) h0.size h0 u0_3 a0_3) (u0_4 : Value) (a0_4 : List (Option Nat)) (g0_4 : SL (kF .f32) h0.size h0 u0_4 a0_4) (a1 : Int) (r : ((List (List (Int))) × Bool)) (hp : impl_MessagesOf a0_0 a0_1 a0_2 a0_3 a0_4 a1 = some r) : CallsH Tryz.prog 9 ([(.agg (List.toArray (α := Value) [(.int .i64 a0_0), (.int .i64 a0_1), (.bool a0_2), u0_3, u0_4])), (.int .i64 a1)].toArray ++ [].toArray) h0 (fun v h' => ∃ w0, v = (.tuple (List.toArray (α := Value) [(ooV w0), (.bool r.2)])) ∧ Mod [] h0 h' ∧ Sep [] h0.size h' [ooW 38 2 w0 r.1]) := by
 unfold impl_MessagesOf at hp
 refine callsH_of_W (l := [(.agg (List.toArray (α := Value) [(.int .i64 a0_0), (.int .i64 a0_1), (.bool a0_2), u0_3, u0_4])), (.int .i64 a1)]) (cap := []) 74 Tryz.func9 rfl rfl rfl ?_
 refine W.seq ?_
 refine W.region ?_
 refine RL.op _ (by decide) (opS_boxed (opv_boxA (cs := [(.int .i64 a0_0), (.int .i64 a0_1), (.bool a0_2), u0_3, u0_4]) rfl rfl)) ?_
 rintro _ hp1 ⟨bb1, rfl, MT_1, T_1⟩
 obtain ⟨X_1, S_1⟩ := Sep.turn0 (Mod.refl [] h0) (Sep.nil [] h0.size h0) MT_1 T_1
 refine RL.opD (by decide) (opv_assign rfl rfl) ?_
 have S_2 : Sep [] h0.size hp1 [ooW 38 2 ooNil ([] : List (List (Int))), boxO bb1 [(.int .i64 a0_0), (.int .i64 a0_1), (.bool a0_2), u0_3, u0_4]] := Sep.addNilOO S_1
 refine RL.opD (by decide) (opv_assign rfl rfl) ?_
 refine RL.nil ?_
 refine thnN ?_
 refine W.seq ?_
 refine W.region ?_
 refine RL.opD (by decide) (opv_loadA (us := [(.int .i64 a0_0), (.int .i64 a0_1), (.bool a0_2), u0_3, u0_4]) rfl Tryz.agg26 Tryz.size26 rfl (Sep.at (o := boxO bb1 [(.int .i64 a0_0), (.int .i64 a0_1), (.bool a0_2), u0_3, u0_4]) S_2 1 rfl) rfl rfl) ?_
 refine RL.opD (by decide) (opv_move rfl rfl) ?_
 obtain ⟨x1, hx1, hp⟩ := Option.bind_eq_some_iff.1 hp
 refine RL.op _ (by decide) (opv_call (cap := []) (impl_StripsOf_ok _ _ _ _ _ _ (SL.up (SL.mod g0_3 X_1 (Nat.le_refl _) nob) (Nat.le_trans (Nat.le_refl _) (Mod.size X_1))) _ _ (SL.up (SL.mod g0_4 X_1 (Nat.le_refl _) nob) (Nat.le_trans (Nat.le_refl _) (Mod.size X_1))) _ _ hx1) rfl rfl ⟨rfl, rfl, trivial⟩ Tryz.func8 rfl rfl) ?_
 rintro _ hp2 ⟨v1, rfl, MT_2, T_2⟩
 obtain ⟨X_2, S_3⟩ := Sep.turn0 X_1 S_2 MT_2 T_2
 refine RL.opD (by decide) (opv_move rfl rfl) ?_
 refine RL.opD (by decide) (opv_extract rfl rfl rfl) ?_
 refine RL.opD (by decide) (opv_extract rfl rfl rfl) ?_
 refine RL.opD (by decide) (opv_assign rfl rfl) ?_
 refine RL.opD (by decide) (opv_assign rfl rfl) ?_
 refine RL.nil ?_
 refine thnN ?_
 refine W.seq ?_
 refine W.seq ?_
 refine W.region ?_
 refine RL.opD (by decide) (opv_move rfl rfl) ?_
 refine RL.opD (by decide) (opv_not rfl rfl) ?_
 refine RL.nil ?_
 refine thnN ?_
 by_cases c1 : (!x1.2) = true
 ·rw [if_pos c1] at hp
  refine W.condT rfl c1 ?_
  refine W.seq ?_
  refine W.region ?_
  refine RL.opD (by decide) (opv_assign rfl rfl) ?_
  have S_4 : Sep [] h0.size hp2 [ooW 38 2 ooNil ([] : List (List (Int))), ownO (kII .i64) 43 v1 x1.1, ooW 38 2 ooNil ([] : List (List (Int))), boxO bb1 [(.int .i64 a0_0), (.int .i64 a0_1), (.bool a0_2), u0_3, u0_4]] := Sep.addNilOO S_3
  refine RL.opD (by decide) (opv_assign rfl rfl) ?_
  refine RL.nil ?_
  refine thnN ?_
  refine W.ret ?_
  refine thnR ?_
  have er := Option.some.inj hp
  subst er
  exact Rt.two rfl rfl rfl ⟨ooNil, rfl, X_2, (Sep.sel S_4 [0] (by decide))⟩
 ·rw [if_neg c1] at hp
  have c1 := eq_false_of_ne_true c1
  refine W.condF rfl c1 ?_
  refine W.skip ?_
  refine thnN ?_
  refine W.seq ?_
  refine W.region ?_
  refine RL.op _ (by decide) (opS_litOO0 (E2 := 2) rfl Tryz.underlying35 Tryz.isinfo38) ?_
  rintro v2 hp3 ⟨MT_3, T_3⟩
  obtain ⟨X_3, S_5⟩ := Sep.turn0 X_2 S_3 MT_3 T_3
  refine RL.opD (by decide) (opv_assign rfl rfl) ?_
  refine RL.nil ?_
  refine thnN ?_
  refine W.seq ?_
  refine W.seq ?_
  refine W.region ?_
  refine RL.opD (by decide) (opv_move rfl rfl) ?_
  refine RL.opD (by decide) (opv_len rfl Tryz.underlying32 rfl (ownO.read (Sep.at (o := ownO (kII .i64) 43 v1 x1.1) S_5 1 rfl))) ?_
  refine RL.opD (by decide) (opv_move rfl rfl) ?_
  refine RL.nil ?_
  refine thnN ?_
  obtain ⟨y1, hy1, hp⟩ := Option.bind_eq_some_iff.1 hp
  refine W.cut (fun φ' h' => ∃ x4, ∃ x5, ∃ x6, ∃ v4, y1 = (x4, x5, x6) ∧ Fr.sub [(0, (.agg (List.toArray (α := Value) [(.int .i64 a0_0), (.int .i64 a0_1), (.bool a0_2), u0_3, u0_4]))), (1, (.int .i64 a1)), (2, (.pointer (some ⟨bb1, 0, none⟩))), (4, (.slice none 0 0)), (5, (.bool false)), (6, v1), (7, (.bool x1.2)), (22, (.bool (!x1.2))), (24, v1), (25, (.int .i64 (x1.1.length : Int))), (26, (.int .i64 x4)), (27, (.bool x5)), (8, (ooV v4))] φ' ∧ Mod [] h0 h' ∧ Sep [] h0.size h' [ownO (kII .i64) 43 v1 x1.1, ooW 38 2 ooNil ([] : List (List (Int))), boxO bb1 [(.int .i64 a0_0), (.int .i64 a0_1), (.bool a0_2), u0_3, u0_4], ooW 38 2 v4 x6]) ?_ ?_
  ·refine W.block ?_
   refine W.loopS (fun (s : ((List (List (Int))) × Int)) φ' h' => ∃ v3, Fr.sub [(0, (.agg (List.toArray (α := Value) [(.int .i64 a0_0), (.int .i64 a0_1), (.bool a0_2), u0_3, u0_4]))), (1, (.int .i64 a1)), (2, (.pointer (some ⟨bb1, 0, none⟩))), (4, (.slice none 0 0)), (5, (.bool false)), (6, v1), (7, (.bool x1.2)), (22, (.bool (!x1.2))), (24, v1), (25, (.int .i64 (x1.1.length : Int))), (8, (ooV v3)), (26, (.int .i64 s.2))] φ' ∧ Mod [] h0 h' ∧ Sep [] h0.size h' [ooW 38 2 v3 s.1, ownO (kII .i64) 43 v1 x1.1, ooW 38 2 ooNil ([] : List (List (Int))), boxO bb1 [(.int .i64 a0_0), (.int .i64 a0_1), (.bool a0_2), u0_3, u0_4]]) hy1 ⟨(OO.mk v2 []), ⟨rfl, rfl, rfl, rfl, rfl, rfl, rfl, rfl, rfl, rfl, rfl, rfl, trivial⟩, X_3, (Sep.sel S_5 [0, 1, 2, 3] (by decide))⟩ ?_
   rintro ⟨x2, x3⟩ φ' hp4 o1 ⟨v3, hs1, X_4, S_6⟩ ho1 hy1
   have hs1 : Fr.sub [(0, (.agg (List.toArray (α := Value) [(.int .i64 a0_0), (.int .i64 a0_1), (.bool a0_2), u0_3, u0_4]))), (1, (.int .i64 a1)), (2, (.pointer (some ⟨bb1, 0, none⟩))), (4, (.slice none 0 0)), (5, (.bool false)), (6, v1), (7, (.bool x1.2)), (22, (.bool (!x1.2))), (24, v1), (25, (.int .i64 (x1.1.length : Int))), (8, (ooV v3)), (26, (.int .i64 x3))] φ' := hs1
   have S_6 : Sep [] h0.size hp4 [ooW 38 2 v3 x2, ownO (kII .i64) 43 v1 x1.1, ooW 38 2 ooNil ([] : List (List (Int))), boxO bb1 [(.int .i64 a0_0), (.int .i64 a0_1), (.bool a0_2), u0_3, u0_4]] := S_6
   have ho1 : impl_MessagesOf.s0 a0_0 a0_1 a0_2 a0_3 a0_4 x1 x2 x3 = some o1 := ho1
   unfold impl_MessagesOf.s0 at ho1
   refine W.sub hs1 ?_
   refine W.seq ?_
   refine W.region ?_
   refine RL.opD (by decide) (opv_icmp rfl rfl rfl rfl) ?_
   refine RL.nil ?_
   refine thnN ?_
   refine W.seq ?_
   by_cases c2 : (decide (x3 < (x1.1.length : Int))) = true
   ·rw [if_pos c2] at ho1
    refine W.condT rfl c2 ?_
    refine W.skip ?_
    refine thnN ?_
    refine W.seq ?_
    refine W.block ?_
    refine W.seq ?_
    refine W.region ?_
    refine RL.opD (by decide) (opv_move rfl rfl) ?_
    obtain ⟨x7, hx7, ho1⟩ := Option.bind_eq_some_iff.1 ho1
    refine RL.op _ (by decide) (opv_index rfl Tryz.underlying32 (by rw [Tryz.size43]; rfl) rfl rfl (ownO.read (Sep.at (o := ownO (kII .i64) 43 v1 x1.1) S_6 1 rfl)) hx7) ?_
    rintro v5 _ ⟨fv5, rfl⟩
    refine RL.opD (by decide) (opv_loadWhole (K := (kII .i64)) rfl Tryz.agg43 (by rw [Tryz.size43]; rfl) rfl fv5 (ownO.read (Sep.at (o := ownO (kII .i64) 43 v1 x1.1) S_6 1 rfl)) (idx_some hx7).2.2 kII_all) ?_
    refine RL.op _ (by decide) (opS_boxed (opv_alloc (cs := [(.int .i64 0), (.int .i64 0)]) rfl Tryz.zero43 rfl)) ?_
    rintro _ hp5 ⟨bb2, rfl, MT_4, T_4⟩
    obtain ⟨X_5, S_7⟩ := Sep.turn0 X_4 S_6 MT_4 T_4
    refine RL.opD (by decide) (opv_assign rfl rfl) ?_
    refine RL.op0 _ (opS_stored (cs := [(.int .i64 0), (.int .i64 0)]) (cs' := [(.int .i64 x7.1), (.int .i64 x7.2)]) (opv_storeA (us := [(.int .i64 x7.1), (.int .i64 x7.2)]) rfl Tryz.size43 rfl rfl (oneAll rfl (oneAll rfl rfl)) (Sep.at (o := boxO bb2 [(.int .i64 0), (.int .i64 0)]) S_7 0 rfl) rfl rfl) (Sep.at (o := boxO bb2 [(.int .i64 0), (.int .i64 0)]) S_7 0 rfl)) ?_
    rintro _ hp6 ⟨rfl, MT_5, T_5⟩
    have S_8 : Sep [] h0.size hp5 ([boxO bb2 [(.int .i64 0), (.int .i64 0)]] ++ [ooW 38 2 v3 x2, ownO (kII .i64) 43 v1 x1.1, ooW 38 2 ooNil ([] : List (List (Int))), boxO bb1 [(.int .i64 a0_0), (.int .i64 a0_1), (.bool a0_2), u0_3, u0_4]]) := Sep.sel S_7 [0, 1, 2, 3, 4] (by decide)
    obtain ⟨X_6, S_9⟩ := Sep.turn X_5 S_8 MT_5 T_5
    refine RL.nil ?_
    refine thnN ?_
    refine W.seq ?_
    refine W.region ?_
    refine RL.opD (by decide) (opv_loadA (us := [(.int .i64 a0_0), (.int .i64 a0_1), (.bool a0_2), u0_3, u0_4]) rfl Tryz.agg26 Tryz.size26 rfl (Sep.at (o := boxO bb1 [(.int .i64 a0_0), (.int .i64 a0_1), (.bool a0_2), u0_3, u0_4]) S_9 4 rfl) rfl rfl) ?_
    refine RL.opD (by decide) (opv_loadA (us := [(.int .i64 x7.1), (.int .i64 x7.2)]) rfl Tryz.agg43 Tryz.size43 rfl (Sep.at (o := boxO bb2 [(.int .i64 x7.1), (.int .i64 x7.2)]) S_9 0 rfl) rfl rfl) ?_
    obtain ⟨x8, hx8, ho1⟩ := Option.bind_eq_some_iff.1 ho1
    refine RL.op _ (by decide) (opv_call (cap := []) (impl_haloRows_ok _ _ _ _ _ _ (SL.up (SL.mod g0_3 X_6 (Nat.le_refl _) nob) (Nat.le_trans (Nat.le_refl _) (Mod.size X_6))) _ _ (SL.up (SL.mod g0_4 X_6 (Nat.le_refl _) nob) (Nat.le_trans (Nat.le_refl _) (Mod.size X_6))) _ _ _ hx8) rfl rfl ⟨rfl, rfl, trivial⟩ Tryz.func21 rfl rfl) ?_
    rintro v6 hp7 ⟨MT_6, T_6⟩
    obtain ⟨X_7, S_10⟩ := Sep.turn0 X_6 S_9 MT_6 T_6
    refine RL.opD (by decide) (opv_len rfl Tryz.underlying38 rfl (ownO.read (Sep.at (o := ownO (kI .i64) 2 v6 x8) S_10 0 rfl))) ?_
    refine RL.opD (by decide) (opv_move rfl rfl) ?_
    refine RL.nil ?_
    refine thnN ?_
    obtain ⟨y2, hy2, ho1⟩ := Option.bind_eq_some_iff.1 ho1
    refine W.cut (fun φ' h' => ∃ x11, ∃ x12, ∃ x13, ∃ v8, y2 = (x11, x12, x13) ∧ Fr.sub [(0, (.agg (List.toArray (α := Value) [(.int .i64 a0_0), (.int .i64 a0_1), (.bool a0_2), u0_3, u0_4]))), (1, (.int .i64 a1)), (2, (.pointer (some ⟨bb1, 0, none⟩))), (4, (.slice none 0 0)), (5, (.bool false)), (6, v1), (7, (.bool x1.2)), (22, (.bool (!x1.2))), (24, v1), (25, (.int .i64 (x1.1.length : Int))), (26, (.int .i64 x3)), (27, (.bool (decide (x3 < (x1.1.length : Int))))), (10, (.pointer (some ⟨bb2, 0, none⟩))), (9, (.int .i64 x3)), (33, v6), (34, (.int .i64 (x8.length : Int))), (35, (.int .i64 x11)), (36, (.bool x12)), (8, (ooV v8))] φ' ∧ Mod [] h0 h' ∧ Sep [] h0.size h' [ownO (kI .i64) 2 v6 x8, boxO bb2 [(.int .i64 x7.1), (.int .i64 x7.2)], ownO (kII .i64) 43 v1 x1.1, ooW 38 2 ooNil ([] : List (List (Int))), boxO bb1 [(.int .i64 a0_0), (.int .i64 a0_1), (.bool a0_2), u0_3, u0_4], ooW 38 2 v8 x13]) ?_ ?_
    ·refine W.block ?_
     refine W.loopS (fun (s : ((List (List (Int))) × Int)) φ' h' => ∃ v7, Fr.sub [(0, (.agg (List.toArray (α := Value) [(.int .i64 a0_0), (.int .i64 a0_1), (.bool a0_2), u0_3, u0_4]))), (1, (.int .i64 a1)), (2, (.pointer (some ⟨bb1, 0, none⟩))), (4, (.slice none 0 0)), (5, (.bool false)), (6, v1), (7, (.bool x1.2)), (22, (.bool (!x1.2))), (24, v1), (25, (.int .i64 (x1.1.length : Int))), (26, (.int .i64 x3)), (27, (.bool (decide (x3 < (x1.1.length : Int))))), (10, (.pointer (some ⟨bb2, 0, none⟩))), (9, (.int .i64 x3)), (33, v6), (34, (.int .i64 (x8.length : Int))), (8, (ooV v7)), (35, (.int .i64 s.2))] φ' ∧ Mod [] h0 h' ∧ Sep [] h0.size h' [ownO (kI .i64) 2 v6 x8, boxO bb2 [(.int .i64 x7.1), (.int .i64 x7.2)], ooW 38 2 v7 s.1, ownO (kII .i64) 43 v1 x1.1, ooW 38 2 ooNil ([] : List (List (Int))), boxO bb1 [(.int .i64 a0_0), (.int .i64 a0_1), (.bool a0_2), u0_3, u0_4]]) hy2 ⟨v3, ⟨rfl, rfl, rfl, rfl, rfl, rfl, rfl, rfl, rfl, rfl, rfl, rfl, rfl, rfl, rfl, rfl, rfl, rfl, trivial⟩, X_7, (Sep.sel S_10 [0, 1, 2, 3, 4, 5] (by decide))⟩ ?_
     rintro ⟨x9, x10⟩ φ' hp8 o2 ⟨v7, hs3, X_8, S_11⟩ ho2 hy2
     have hs3 : Fr.sub [(0, (.agg (List.toArray (α := Value) [(.int .i64 a0_0), (.int .i64 a0_1), (.bool a0_2), u0_3, u0_4]))), (1, (.int .i64 a1)), (2, (.pointer (some ⟨bb1, 0, none⟩))), (4, (.slice none 0 0)), (5, (.bool false)), (6, v1), (7, (.bool x1.2)), (22, (.bool (!x1.2))), (24, v1), (25, (.int .i64 (x1.1.length : Int))), (26, (.int .i64 x3)), (27, (.bool (decide (x3 < (x1.1.length : Int))))), (10, (.pointer (some ⟨bb2, 0, none⟩))), (9, (.int .i64 x3)), (33, v6), (34, (.int .i64 (x8.length : Int))), (8, (ooV v7)), (35, (.int .i64 x10))] φ' := hs3
     have S_11 : Sep [] h0.size hp8 [ownO (kI .i64) 2 v6 x8, boxO bb2 [(.int .i64 x7.1), (.int .i64 x7.2)], ooW 38 2 v7 x9, ownO (kII .i64) 43 v1 x1.1, ooW 38 2 ooNil ([] : List (List (Int))), boxO bb1 [(.int .i64 a0_0), (.int .i64 a0_1), (.bool a0_2), u0_3, u0_4]] := S_11
     have ho2 : impl_MessagesOf.s1 x1 x3 x8 x9 x10 = some o2 := ho2
     unfold impl_MessagesOf.s1 at ho2
     refine W.sub hs3 ?_
     refine W.seq ?_
     refine W.region ?_
     refine RL.opD (by decide) (opv_icmp rfl rfl rfl rfl) ?_
     refine RL.nil ?_
     refine thnN ?_
     refine W.seq ?_
     by_cases c3 : (decide (x10 < (x8.length : Int))) = true
     ·rw [if_pos c3] at ho2
      refine W.condT rfl c3 ?_
      refine W.skip ?_
      refine thnN ?_
      refine W.seq ?_
      refine W.block ?_
      refine W.seq ?_
      refine W.region ?_
      obtain ⟨x14, hx14, ho2⟩ := Option.bind_eq_some_iff.1 ho2
      refine RL.op _ (by decide) (opv_index rfl Tryz.underlying38 (by rw [Tryz.size2]; rfl) rfl rfl (ownO.read (Sep.at (o := ownO (kI .i64) 2 v6 x8) S_11 0 rfl)) hx14) ?_
      rintro v9 _ ⟨fv9, rfl⟩
      refine RL.opD (by decide) (opv_loadI rfl Tryz.one2 rfl fv9 (ownO.read (Sep.at (o := ownO (kI .i64) 2 v6 x8) S_11 0 rfl)) hx14) ?_
      refine RL.opD (by decide) (opv_assign rfl rfl) ?_
      refine RL.nil ?_
      refine thnN ?_
      refine W.seq ?_
      refine W.region ?_
      refine RL.opD (by decide) (opv_move rfl rfl) ?_
      refine RL.opD (by decide) (opv_len rfl Tryz.underlying32 rfl (ownO.read (Sep.at (o := ownO (kII .i64) 43 v1 x1.1) S_11 3 rfl))) ?_
      refine RL.opD (by decide) (opv_move rfl rfl) ?_
      refine RL.nil ?_
      refine thnN ?_
      obtain ⟨y3, hy3, ho2⟩ := Option.bind_eq_some_iff.1 ho2
      refine W.cut (fun φ' h' => ∃ x17, ∃ x18, ∃ x19, ∃ v11, y3 = (x17, x18, x19) ∧ Fr.sub [(0, (.agg (List.toArray (α := Value) [(.int .i64 a0_0), (.int .i64 a0_1), (.bool a0_2), u0_3, u0_4]))), (1, (.int .i64 a1)), (2, (.pointer (some ⟨bb1, 0, none⟩))), (4, (.slice none 0 0)), (5, (.bool false)), (6, v1), (7, (.bool x1.2)), (22, (.bool (!x1.2))), (24, v1), (25, (.int .i64 (x1.1.length : Int))), (26, (.int .i64 x3)), (27, (.bool (decide (x3 < (x1.1.length : Int))))), (10, (.pointer (some ⟨bb2, 0, none⟩))), (9, (.int .i64 x3)), (33, v6), (34, (.int .i64 (x8.length : Int))), (35, (.int .i64 x10)), (36, (.bool (decide (x10 < (x8.length : Int))))), (12, (.int .i64 x14)), (39, v1), (40, (.int .i64 (x1.1.length : Int))), (41, (.int .i64 x17)), (42, (.bool x18)), (8, (ooV v11))] φ' ∧ Mod [] h0 h' ∧ Sep [] h0.size h' [ownO (kI .i64) 2 v6 x8, boxO bb2 [(.int .i64 x7.1), (.int .i64 x7.2)], ownO (kII .i64) 43 v1 x1.1, ooW 38 2 ooNil ([] : List (List (Int))), boxO bb1 [(.int .i64 a0_0), (.int .i64 a0_1), (.bool a0_2), u0_3, u0_4], ooW 38 2 v11 x19]) ?_ ?_
      ·refine W.block ?_
       refine W.loopS (fun (s : ((List (List (Int))) × Int)) φ' h' => ∃ v10, Fr.sub [(0, (.agg (List.toArray (α := Value) [(.int .i64 a0_0), (.int .i64 a0_1), (.bool a0_2), u0_3, u0_4]))), (1, (.int .i64 a1)), (2, (.pointer (some ⟨bb1, 0, none⟩))), (4, (.slice none 0 0)), (5, (.bool false)), (6, v1), (7, (.bool x1.2)), (22, (.bool (!x1.2))), (24, v1), (25, (.int .i64 (x1.1.length : Int))), (26, (.int .i64 x3)), (27, (.bool (decide (x3 < (x1.1.length : Int))))), (10, (.pointer (some ⟨bb2, 0, none⟩))), (9, (.int .i64 x3)), (33, v6), (34, (.int .i64 (x8.length : Int))), (35, (.int .i64 x10)), (36, (.bool (decide (x10 < (x8.length : Int))))), (12, (.int .i64 x14)), (39, v1), (40, (.int .i64 (x1.1.length : Int))), (8, (ooV v10)), (41, (.int .i64 s.2))] φ' ∧ Mod [] h0 h' ∧ Sep [] h0.size h' [ownO (kI .i64) 2 v6 x8, boxO bb2 [(.int .i64 x7.1), (.int .i64 x7.2)], ooW 38 2 v10 s.1, ownO (kII .i64) 43 v1 x1.1, ooW 38 2 ooNil ([] : List (List (Int))), boxO bb1 [(.int .i64 a0_0), (.int .i64 a0_1), (.bool a0_2), u0_3, u0_4]]) hy3 ⟨v7, ⟨rfl, rfl, rfl, rfl, rfl, rfl, rfl, rfl, rfl, rfl, rfl, rfl, rfl, rfl, rfl, rfl, rfl, rfl, rfl, rfl, rfl, rfl, rfl, trivial⟩, X_8, (Sep.sel S_11 [0, 1, 2, 3, 4, 5] (by decide))⟩ ?_
       rintro ⟨x15, x16⟩ φ' hp9 o3 ⟨v10, hs5, X_9, S_12⟩ ho3 hy3
       have hs5 : Fr.sub [(0, (.agg (List.toArray (α := Value) [(.int .i64 a0_0), (.int .i64 a0_1), (.bool a0_2), u0_3, u0_4]))), (1, (.int .i64 a1)), (2, (.pointer (some ⟨bb1, 0, none⟩))), (4, (.slice none 0 0)), (5, (.bool false)), (6, v1), (7, (.bool x1.2)), (22, (.bool (!x1.2))), (24, v1), (25, (.int .i64 (x1.1.length : Int))), (26, (.int .i64 x3)), (27, (.bool (decide (x3 < (x1.1.length : Int))))), (10, (.pointer (some ⟨bb2, 0, none⟩))), (9, (.int .i64 x3)), (33, v6), (34, (.int .i64 (x8.length : Int))), (35, (.int .i64 x10)), (36, (.bool (decide (x10 < (x8.length : Int))))), (12, (.int .i64 x14)), (39, v1), (40, (.int .i64 (x1.1.length : Int))), (8, (ooV v10)), (41, (.int .i64 x16))] φ' := hs5
       have S_12 : Sep [] h0.size hp9 [ownO (kI .i64) 2 v6 x8, boxO bb2 [(.int .i64 x7.1), (.int .i64 x7.2)], ooW 38 2 v10 x15, ownO (kII .i64) 43 v1 x1.1, ooW 38 2 ooNil ([] : List (List (Int))), boxO bb1 [(.int .i64 a0_0), (.int .i64 a0_1), (.bool a0_2), u0_3, u0_4]] := S_12
       have ho3 : impl_MessagesOf.s2 x1 x3 x14 x15 x16 = some o3 := ho3
       unfold impl_MessagesOf.s2 at ho3
       refine W.sub hs5 ?_
       refine W.seq ?_
       refine W.region ?_
       refine RL.opD (by decide) (opv_icmp rfl rfl rfl rfl) ?_
       refine RL.nil ?_
       refine thnN ?_
       refine W.seq ?_
       by_cases c4 : (decide (x16 < (x1.1.length : Int))) = true
       ·rw [if_pos c4] at ho3
        refine W.condT rfl c4 ?_
        refine W.skip ?_
        refine thnN ?_
        refine W.seq ?_
        refine W.block ?_
        refine W.seq ?_
        refine W.region ?_
        refine RL.opD (by decide) (opv_move rfl rfl) ?_
        obtain ⟨x20, hx20, ho3⟩ := Option.bind_eq_some_iff.1 ho3
        refine RL.op _ (by decide) (opv_index rfl Tryz.underlying32 (by rw [Tryz.size43]; rfl) rfl rfl (ownO.read (Sep.at (o := ownO (kII .i64) 43 v1 x1.1) S_12 3 rfl)) hx20) ?_
        rintro v12 _ ⟨fv12, rfl⟩
        refine RL.opD (by decide) (opv_loadWhole (K := (kII .i64)) rfl Tryz.agg43 (by rw [Tryz.size43]; rfl) rfl fv12 (ownO.read (Sep.at (o := ownO (kII .i64) 43 v1 x1.1) S_12 3 rfl)) (idx_some hx20).2.2 kII_all) ?_
        refine RL.op _ (by decide) (opS_boxed (opv_alloc (cs := [(.int .i64 0), (.int .i64 0)]) rfl Tryz.zero43 rfl)) ?_
        rintro _ hp10 ⟨bb3, rfl, MT_7, T_7⟩
        obtain ⟨X_10, S_13⟩ := Sep.turn0 X_9 S_12 MT_7 T_7
        refine RL.opD (by decide) (opv_assign rfl rfl) ?_
        refine RL.op0 _ (opS_stored (cs := [(.int .i64 0), (.int .i64 0)]) (cs' := [(.int .i64 x20.1), (.int .i64 x20.2)]) (opv_storeA (us := [(.int .i64 x20.1), (.int .i64 x20.2)]) rfl Tryz.size43 rfl rfl (oneAll rfl (oneAll rfl rfl)) (Sep.at (o := boxO bb3 [(.int .i64 0), (.int .i64 0)]) S_13 0 rfl) rfl rfl) (Sep.at (o := boxO bb3 [(.int .i64 0), (.int .i64 0)]) S_13 0 rfl)) ?_
        rintro _ hp11 ⟨rfl, MT_8, T_8⟩
        have S_14 : Sep [] h0.size hp10 ([boxO bb3 [(.int .i64 0), (.int .i64 0)]] ++ [ownO (kI .i64) 2 v6 x8, boxO bb2 [(.int .i64 x7.1), (.int .i64 x7.2)], ooW 38 2 v10 x15, ownO (kII .i64) 43 v1 x1.1, ooW 38 2 ooNil ([] : List (List (Int))), boxO bb1 [(.int .i64 a0_0), (.int .i64 a0_1), (.bool a0_2), u0_3, u0_4]]) := Sep.sel S_13 [0, 1, 2, 3, 4, 5, 6] (by decide)
        obtain ⟨X_11, S_15⟩ := Sep.turn X_10 S_14 MT_8 T_8
        refine RL.nil ?_
        refine thnN ?_
        refine W.seq ?_
        obtain ⟨x21, hy4, ho3⟩ := Option.bind_eq_some_iff.1 ho3
        refine W.cut (fun φ' h' => Fr.sub [(0, (.agg (List.toArray (α := Value) [(.int .i64 a0_0), (.int .i64 a0_1), (.bool a0_2), u0_3, u0_4]))), (1, (.int .i64 a1)), (2, (.pointer (some ⟨bb1, 0, none⟩))), (4, (.slice none 0 0)), (5, (.bool false)), (6, v1), (7, (.bool x1.2)), (22, (.bool (!x1.2))), (24, v1), (25, (.int .i64 (x1.1.length : Int))), (26, (.int .i64 x3)), (27, (.bool (decide (x3 < (x1.1.length : Int))))), (10, (.pointer (some ⟨bb2, 0, none⟩))), (9, (.int .i64 x3)), (33, v6), (34, (.int .i64 (x8.length : Int))), (35, (.int .i64 x10)), (36, (.bool (decide (x10 < (x8.length : Int))))), (12, (.int .i64 x14)), (39, v1), (40, (.int .i64 (x1.1.length : Int))), (8, (ooV v10)), (41, (.int .i64 x16)), (42, (.bool (decide (x16 < (x1.1.length : Int))))), (14, (.pointer (some ⟨bb3, 0, none⟩))), (13, (.int .i64 x16)), (60, (.bool x21))] φ' ∧ hp11 = h') ?_ ?_
        ·refine W.region ?_
         refine RL.opD (by decide) (opv_move rfl rfl) ?_
         refine RL.opD (by decide) (opv_move rfl rfl) ?_
         refine RL.opD (by decide) (opv_icmp rfl rfl rfl rfl) ?_
         refine RL.opD (by decide) (opv_move rfl rfl) ?_
         by_cases c5 : (x16 != x3) = true
         ·rw [if_pos c5] at hy4
          refine RL.yesD rfl rfl c5 (by decide) (opv_move rfl rfl) ?_
          refine RL.yesD rfl rfl c5 (by decide) (opv_fieldAddr rfl Tryz.fo43_0 rfl) ?_
          refine RL.yesD rfl rfl c5 (by decide) (opv_loadB rfl Tryz.one2 rfl (Sep.at (o := boxO bb3 [(.int .i64 x20.1), (.int .i64 x20.2)]) S_15 0 rfl) rfl) ?_
          refine RL.yesD rfl rfl c5 (by decide) (opv_fieldAddr rfl Tryz.fo43_0 rfl) ?_
          refine RL.yesD rfl rfl c5 (by decide) (opv_loadB rfl Tryz.one2 rfl (Sep.at (o := boxO bb3 [(.int .i64 x20.1), (.int .i64 x20.2)]) S_15 0 rfl) rfl) ?_
          refine RL.yesD rfl rfl c5 (by decide) (opv_fieldAddr rfl Tryz.fo43_1 rfl) ?_
          refine RL.yesD rfl rfl c5 (by decide) (opv_loadB rfl Tryz.one2 rfl (Sep.at (o := boxO bb3 [(.int .i64 x20.1), (.int .i64 x20.2)]) S_15 0 rfl) rfl) ?_
          refine RL.yesD rfl rfl c5 (by decide) (opv_add rfl rfl rfl) ?_
          refine RL.yesD rfl rfl c5 (by decide) (opv_sub rfl rfl rfl) ?_
          obtain ⟨x22, hx22, hy4⟩ := Option.bind_eq_some_iff.1 hy4
          refine RL.yes _ rfl rfl c5 (by decide) (opv_call (cap := []) (impl_within_ok _ _ _ _ _ hx22) rfl rfl ⟨rfl, rfl, rfl, trivial⟩ Tryz.func22 rfl rfl) ?_
          rintro _ _ ⟨rfl, rfl⟩
          refine RL.opD (by decide) (opv_pick rfl rfl (fun _ => rfl) (fun e => absurd (Eq.trans (Eq.symm e) c5) (by decide)) rfl) ?_
          refine RL.nil ?_
          have ey4 := Option.some.inj hy4
          subst ey4
          refine onlyN ?_
          exact ⟨⟨rfl, rfl, rfl, rfl, rfl, rfl, rfl, rfl, rfl, rfl, rfl, rfl, rfl, rfl, rfl, rfl, rfl, rfl, rfl, rfl, rfl, rfl, rfl, rfl, rfl, rfl, rfl, trivial⟩, rfl⟩
         ·rw [if_neg c5] at hy4
          have c5 := eq_false_of_ne_true c5
          refine RL.noF rfl rfl c5 (by decide) ?_
          refine RL.noF rfl rfl c5 (by decide) ?_
          refine RL.noF rfl rfl c5 (by decide) ?_
          refine RL.noF rfl rfl c5 (by decide) ?_
          refine RL.noF rfl rfl c5 (by decide) ?_
          refine RL.noF rfl rfl c5 (by decide) ?_
          refine RL.noF rfl rfl c5 (by decide) ?_
          refine RL.noF rfl rfl c5 (by decide) ?_
          refine RL.noF rfl rfl c5 (by decide) ?_
          refine RL.noF rfl rfl c5 (by decide) ?_
          refine RL.opD (by decide) (opv_pick rfl rfl (fun e => absurd (Eq.trans (Eq.symm e) c5) (by decide)) (fun _ => rfl) rfl) ?_
          refine RL.nil ?_
          have ey4 := Option.some.inj hy4
          subst ey4
          refine onlyN ?_
          exact ⟨⟨rfl, rfl, rfl, rfl, rfl, rfl, rfl, rfl, rfl, rfl, rfl, rfl, rfl, rfl, rfl, rfl, rfl, rfl, rfl, rfl, rfl, rfl, rfl, rfl, rfl, rfl, rfl, trivial⟩, rfl⟩
        rintro φ' _ ⟨hs7, rfl⟩
        refine thnN ?_
        refine W.sub hs7 ?_
        obtain ⟨x23, hy5, ho3⟩ := Option.bind_eq_some_iff.1 ho3
        refine W.cut (fun φ' h' => ∃ v13, Fr.sub [(0, (.agg (List.toArray (α := Value) [(.int .i64 a0_0), (.int .i64 a0_1), (.bool a0_2), u0_3, u0_4]))), (1, (.int .i64 a1)), (2, (.pointer (some ⟨bb1, 0, none⟩))), (4, (.slice none 0 0)), (5, (.bool false)), (6, v1), (7, (.bool x1.2)), (22, (.bool (!x1.2))), (24, v1), (25, (.int .i64 (x1.1.length : Int))), (26, (.int .i64 x3)), (27, (.bool (decide (x3 < (x1.1.length : Int))))), (10, (.pointer (some ⟨bb2, 0, none⟩))), (9, (.int .i64 x3)), (33, v6), (34, (.int .i64 (x8.length : Int))), (35, (.int .i64 x10)), (36, (.bool (decide (x10 < (x8.length : Int))))), (12, (.int .i64 x14)), (39, v1), (40, (.int .i64 (x1.1.length : Int))), (41, (.int .i64 x16)), (42, (.bool (decide (x16 < (x1.1.length : Int))))), (14, (.pointer (some ⟨bb3, 0, none⟩))), (13, (.int .i64 x16)), (60, (.bool x21)), (8, (ooV v13))] φ' ∧ Mod [] h0 h' ∧ Sep [] h0.size h' [boxO bb3 [(.int .i64 x20.1), (.int .i64 x20.2)], ownO (kI .i64) 2 v6 x8, boxO bb2 [(.int .i64 x7.1), (.int .i64 x7.2)], ownO (kII .i64) 43 v1 x1.1, ooW 38 2 ooNil ([] : List (List (Int))), boxO bb1 [(.int .i64 a0_0), (.int .i64 a0_1), (.bool a0_2), u0_3, u0_4], ooW 38 2 v13 x23]) ?_ ?_
        ·by_cases c6 : x21 = true
         ·rw [if_pos c6] at hy5
          refine W.condT rfl c6 ?_
          refine W.region ?_
          refine RL.opD (by decide) (opv_move rfl rfl) ?_
          refine RL.opD (by decide) (opv_move rfl rfl) ?_
          refine RL.opD (by decide) (opv_move rfl rfl) ?_
          refine RL.opD (by decide) (opv_move rfl rfl) ?_
          refine RL.op _ (by decide) (opS_litN (K := (kI .i64)) (us := [(.int .i64 x16), (.int .i64 x3), (.int .i64 x14)]) (zs := [x16, x3, x14]) [(0, [(.int .i64 x16)]), (1, [(.int .i64 x3)]), (2, [(.int .i64 x14)])] [(0, (.int .i64 x16)), (1, (.int .i64 x3)), (2, (.int .i64 x14))] rfl Tryz.underlying38 Tryz.einfo2 rfl rfl ⟨⟨rfl, rfl, rfl, rfl⟩, ⟨rfl, rfl, rfl, rfl⟩, ⟨rfl, rfl, rfl, rfl⟩, trivial⟩ rfl rfl (RelL.ints (k := .i64) _) rfl rfl) ?_
          rintro v14 hp12 ⟨MT_9, T_9⟩
          obtain ⟨X_12, S_16⟩ := Sep.turn0 X_11 S_15 MT_9 T_9
          refine RL.op _ (by decide) (opS_litOO1 (B := []) (m := 0) (L := []) rfl Tryz.underlying35 Tryz.einfo38 rfl rfl rfl (Sep.at (o := ownO (kI .i64) 2 v14 [x16, x3, x14]) S_16 0 rfl)) ?_
          rintro v15 hp13 ⟨MT_10, T_10⟩
          have S_17 : Sep [] h0.size hp12 ([ownO (kI .i64) 2 v14 [x16, x3, x14]] ++ [boxO bb3 [(.int .i64 x20.1), (.int .i64 x20.2)], ownO (kI .i64) 2 v6 x8, boxO bb2 [(.int .i64 x7.1), (.int .i64 x7.2)], ooW 38 2 v10 x15, ownO (kII .i64) 43 v1 x1.1, ooW 38 2 ooNil ([] : List (List (Int))), boxO bb1 [(.int .i64 a0_0), (.int .i64 a0_1), (.bool a0_2), u0_3, u0_4]]) := Sep.sel S_16 [0, 1, 2, 3, 4, 5, 6, 7] (by decide)
          obtain ⟨X_13, S_18⟩ := Sep.turn X_12 S_17 MT_10 T_10
          obtain ⟨c7, hy5⟩ := of_ite hy5
          have S_19 : Sep [] h0.size hp13 [ooW 38 2 v10 x15, ooW 38 2 (OO.mk v15 [v14]) [[x16, x3, x14]], boxO bb3 [(.int .i64 x20.1), (.int .i64 x20.2)], ownO (kI .i64) 2 v6 x8, boxO bb2 [(.int .i64 x7.1), (.int .i64 x7.2)], ownO (kII .i64) 43 v1 x1.1, ooW 38 2 ooNil ([] : List (List (Int))), boxO bb1 [(.int .i64 a0_0), (.int .i64 a0_1), (.bool a0_2), u0_3, u0_4]] := Sep.sel S_18 [4, 0, 1, 2, 3, 5, 6, 7] (by decide)
          refine RL.op _ (by decide) (opS_appendOO rfl Tryz.underlying35 Tryz.einfo38 rfl rfl rfl rfl S_19 (by decide) (by decide) c7) ?_
          rintro v16 hp14 ⟨MT_11, T_11⟩
          have S_20 : Sep [] h0.size hp13 ([ooW 38 2 v10 x15, ooW 38 2 (OO.mk v15 [v14]) [[x16, x3, x14]]] ++ [boxO bb3 [(.int .i64 x20.1), (.int .i64 x20.2)], ownO (kI .i64) 2 v6 x8, boxO bb2 [(.int .i64 x7.1), (.int .i64 x7.2)], ownO (kII .i64) 43 v1 x1.1, ooW 38 2 ooNil ([] : List (List (Int))), boxO bb1 [(.int .i64 a0_0), (.int .i64 a0_1), (.bool a0_2), u0_3, u0_4]]) := Sep.sel S_18 [4, 0, 1, 2, 3, 5, 6, 7] (by decide)
          obtain ⟨X_14, S_21⟩ := Sep.turn X_13 S_20 MT_11 T_11
          refine RL.opD (by decide) (opv_assign rfl rfl) ?_
          refine RL.nil ?_
          have ey5 := Option.some.inj hy5
          subst ey5
          refine onlyN ?_
          exact ⟨(OO.mk v16 (OO.vs v10 ++ OO.vs (OO.mk v15 [v14]))), ⟨rfl, rfl, rfl, rfl, rfl, rfl, rfl, rfl, rfl, rfl, rfl, rfl, rfl, rfl, rfl, rfl, rfl, rfl, rfl, rfl, rfl, rfl, rfl, rfl, rfl, rfl, rfl, trivial⟩, X_14, (Sep.sel S_21 [1, 2, 3, 4, 5, 6, 0] (by decide))⟩
         ·rw [if_neg c6] at hy5
          have c6 := eq_false_of_ne_true c6
          refine W.condF rfl c6 ?_
          refine W.skip ?_
          have ey5 := Option.some.inj hy5
          subst ey5
          refine onlyN ?_
          exact ⟨v10, ⟨rfl, rfl, rfl, rfl, rfl, rfl, rfl, rfl, rfl, rfl, rfl, rfl, rfl, rfl, rfl, rfl, rfl, rfl, rfl, rfl, rfl, rfl, rfl, rfl, rfl, rfl, rfl, trivial⟩, X_11, (Sep.sel S_15 [0, 1, 2, 4, 5, 6, 3] (by decide))⟩
        rintro φ' hp15 ⟨v13, hs8, X_15, S_22⟩
        refine blkN ?_
        refine thnN ?_
        refine W.sub hs8 ?_
        refine W.region ?_
        refine RL.opD (by decide) (opv_add rfl rfl rfl) ?_
        refine RL.opD (by decide) (opv_move rfl rfl) ?_
        refine RL.nil ?_
        have eo3 := Option.some.inj ho3
        subst eo3
        refine rndN (s' := (x23, IntKind.wrap .i64 (x16 + 1))) rfl ?_
        exact ⟨v13, ⟨rfl, rfl, rfl, rfl, rfl, rfl, rfl, rfl, rfl, rfl, rfl, rfl, rfl, rfl, rfl, rfl, rfl, rfl, rfl, rfl, rfl, rfl, rfl, trivial⟩, X_15, (Sep.sel S_22 [1, 2, 6, 3, 4, 5] (by decide))⟩
       ·rw [if_neg c4] at ho3
        have c4 := eq_false_of_ne_true c4
        refine W.condF rfl c4 ?_
        refine W.exit ?_
        refine thnX ?_
        refine rndX ?_
        refine blkI ?_
        have eo3 := Option.some.inj ho3
        subst eo3
        have ey3 := hy3 _ rfl
        subst ey3
        refine onlyN ?_
        exact ⟨x16, decide (x16 < (x1.1.length : Int)), x15, v10, rfl, ⟨rfl, rfl, rfl, rfl, rfl, rfl, rfl, rfl, rfl, rfl, rfl, rfl, rfl, rfl, rfl, rfl, rfl, rfl, rfl, rfl, rfl, rfl, rfl, rfl, trivial⟩, X_9, (Sep.sel S_12 [0, 1, 3, 4, 5, 2] (by decide))⟩
      rintro φ' hp16 ⟨x17, x18, x19, v11, rfl, hs6, X_16, S_23⟩
      try dsimp only at ho2
      refine blkN ?_
      refine thnN ?_
      refine W.sub hs6 ?_
      refine W.region ?_
      refine RL.opD (by decide) (opv_add rfl rfl rfl) ?_
      refine RL.opD (by decide) (opv_move rfl rfl) ?_
      refine RL.nil ?_
      have eo2 := Option.some.inj ho2
      subst eo2
      refine rndN (s' := (x19, IntKind.wrap .i64 (x10 + 1))) rfl ?_
      exact ⟨v11, ⟨rfl, rfl, rfl, rfl, rfl, rfl, rfl, rfl, rfl, rfl, rfl, rfl, rfl, rfl, rfl, rfl, rfl, rfl, trivial⟩, X_16, (Sep.sel S_23 [0, 1, 5, 2, 3, 4] (by decide))⟩
     ·rw [if_neg c3] at ho2
      have c3 := eq_false_of_ne_true c3
      refine W.condF rfl c3 ?_
      refine W.exit ?_
      refine thnX ?_
      refine rndX ?_
      refine blkI ?_
      have eo2 := Option.some.inj ho2
      subst eo2
      have ey2 := hy2 _ rfl
      subst ey2
      refine onlyN ?_
      exact ⟨x10, decide (x10 < (x8.length : Int)), x9, v7, rfl, ⟨rfl, rfl, rfl, rfl, rfl, rfl, rfl, rfl, rfl, rfl, rfl, rfl, rfl, rfl, rfl, rfl, rfl, rfl, rfl, trivial⟩, X_8, (Sep.sel S_11 [0, 1, 3, 4, 5, 2] (by decide))⟩
    rintro φ' hp17 ⟨x11, x12, x13, v8, rfl, hs4, X_17, S_24⟩
    try dsimp only at ho1
    refine blkN ?_
    refine thnN ?_
    refine W.sub hs4 ?_
    refine W.region ?_
    refine RL.opD (by decide) (opv_add rfl rfl rfl) ?_
    refine RL.opD (by decide) (opv_move rfl rfl) ?_
    refine RL.nil ?_
    have eo1 := Option.some.inj ho1
    subst eo1
    refine rndN (s' := (x13, IntKind.wrap .i64 (x3 + 1))) rfl ?_
    exact ⟨v8, ⟨rfl, rfl, rfl, rfl, rfl, rfl, rfl, rfl, rfl, rfl, rfl, rfl, trivial⟩, X_17, (Sep.sel S_24 [5, 2, 3, 4] (by decide))⟩
   ·rw [if_neg c2] at ho1
    have c2 := eq_false_of_ne_true c2
    refine W.condF rfl c2 ?_
    refine W.exit ?_
    refine thnX ?_
    refine rndX ?_
    refine blkI ?_
    have eo1 := Option.some.inj ho1
    subst eo1
    have ey1 := hy1 _ rfl
    subst ey1
    refine onlyN ?_
    exact ⟨x3, decide (x3 < (x1.1.length : Int)), x2, v3, rfl, ⟨rfl, rfl, rfl, rfl, rfl, rfl, rfl, rfl, rfl, rfl, rfl, rfl, rfl, trivial⟩, X_4, (Sep.sel S_6 [1, 2, 3, 0] (by decide))⟩
  rintro φ' hp18 ⟨x4, x5, x6, v4, rfl, hs2, X_18, S_25⟩
  try dsimp only at hp
  refine thnN ?_
  refine W.sub hs2 ?_
  refine W.seq ?_
  refine W.region ?_
  refine RL.opD (by decide) (opv_move rfl rfl) ?_
  obtain ⟨x24, hx24, hp⟩ := Option.bind_eq_some_iff.1 hp
  have S_27 : Sep [] h0.size hp18 [ooW 38 2 v4 x6] := Sep.sel S_25 [3] (by decide)
  have S_26 : Sep (List.flatMap (fun o : Thing => o.blks) [ooW 38 2 v4 x6]) hp18.size hp18 [ooW 38 2 v4 x6] := Sep.own S_27 _
  refine RL.op _ (by decide) (opv_call (cap := []) (slices_SortFunc_LL_ok _ v4 _ S_26 _ hx24) rfl rfl ⟨rfl, rfl, trivial⟩ Tryz.func23 rfl rfl) ?_
  rintro _ hp19 ⟨v17, rfl, MT_12, T_12⟩
  have S_28 : Sep [] h0.size hp18 ([ooW 38 2 v4 x6] ++ [ownO (kII .i64) 43 v1 x1.1, ooW 38 2 ooNil ([] : List (List (Int))), boxO bb1 [(.int .i64 a0_0), (.int .i64 a0_1), (.bool a0_2), u0_3, u0_4]]) := Sep.sel S_25 [3, 0, 1, 2] (by decide)
  obtain ⟨X_19, S_29⟩ := Sep.turn X_18 S_28 MT_12 T_12
  refine RL.nil ?_
  refine thnN ?_
  refine W.seq ?_
  refine W.region ?_
  refine RL.opD (by decide) (opv_move rfl rfl) ?_
  refine RL.opD (by decide) (opv_assign rfl rfl) ?_
  refine RL.opD (by decide) (opv_assign rfl rfl) ?_
  refine RL.nil ?_
  refine thnN ?_
  refine W.ret ?_
  have er := Option.some.inj hp
  subst er
  exact Rt.two rfl rfl rfl ⟨(OO.mk (ooV v4) v17), rfl, X_19, (Sep.sel S_29 [0] (by decide))⟩

end Go.H
