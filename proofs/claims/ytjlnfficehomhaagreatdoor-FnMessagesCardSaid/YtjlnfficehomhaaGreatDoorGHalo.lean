/- Functions of the program: what each computes, as a plain function, and that the call comes to it. Written by a program (wip/gen). -/
import Derived.Test.YtjlnfficehomhaaGreatDoorGBase
import Derived.Test.YtjlnfficehomhaaGreatDoorGSheet
import Derived.Test.YtjlnfficehomhaaGreatDoorGSort
import Derived.Test.YtjlnfficehomhaaGreatDoorLibB
import Derived.Test.YtjlnfficehomhaaGreatDoorProg
import Derived.KernelRfl
set_option linter.unusedVariables false
namespace Go.H
open Go Go.Proofs



noncomputable def impl_haloRows.s0 (a0_1 : Int) (a0_2 : Bool) (a1_0 : Int) (a1_1 : Int) (x1 : List (Int)) (x2 : Int) : Option (((List (Int)) × Int) ⊕ (Int × Bool × (List (Int)))) :=
 (if (decide (x2 ≤ (IntKind.wrap .i64 (a1_0 + a1_1)))) = true then ((impl_within x2 0 (IntKind.wrap .i64 (a0_1 - 1))).bind fun (x6 : Bool) => (((if x6 = true then (if x1.length + [x2].length ≤ 1000000000 then some (x1 ++ [x2]) else none) else (((if a0_2 = true then (if a0_1 = 0 then none else (if x1.length + [Int.tmod (IntKind.wrap .i64 (x2 + a0_1)) a0_1].length ≤ 1000000000 then some (x1 ++ [Int.tmod (IntKind.wrap .i64 (x2 + a0_1)) a0_1]) else none)) else some x1) : Option (List (Int))).bind fun (x8 : List (Int)) => some x8)) : Option (List (Int))).bind fun (x7 : List (Int)) => some (.inl (x7, IntKind.wrap .i64 (x2 + 1))))) else some (.inr (x2, decide (x2 ≤ (IntKind.wrap .i64 (a1_0 + a1_1))), x1)))

noncomputable def impl_haloRows (a0_0 : Int) (a0_1 : Int) (a0_2 : Bool) (a0_3 : List (Option Nat)) (a0_4 : List (Option Nat)) (a1_0 : Int) (a1_1 : Int) : Option (List (Int)) :=
 ((loopF (fun (s : ((List (Int)) × Int)) => impl_haloRows.s0 a0_1 a0_2 a1_0 a1_1 s.1 s.2) (([] : List (Int)), IntKind.wrap .i64 (a1_0 - 1))).bind fun (⟨x3, x4, x5⟩ : (Int × Bool × (List (Int)))) => ((slices_Sort_I x5).bind fun (x9 : List (Int)) => ((slices_Compact_I x9).bind fun (x10 : List (Int)) => some x10)))

noncomputable def impl_IsStrip (a0_0 : Int) (a0_1 : Int) (a0_2 : Bool) (a0_3 : List (Option Nat)) (a0_4 : List (Option Nat)) (a1_0 : Int) (a1_1 : Int) : Option Bool :=
 ((((impl_ValidSheet a0_0 a0_1 a0_2 a0_3 a0_4).bind fun (x2 : Bool) => (if x2 = true then ((impl_within a1_0 0 (IntKind.wrap .i64 (a0_1 - 1))).bind fun (x3 : Bool) => (if x3 = true then ((impl_within a1_1 1 (IntKind.wrap .i64 (a0_1 - a1_0))).bind fun (x4 : Bool) => some x4) else some false)) else some false)) : Option Bool).bind fun (x1 : Bool) => some x1)

noncomputable def impl_HaloRows (a0_0 : Int) (a0_1 : Int) (a0_2 : Bool) (a0_3 : List (Option Nat)) (a0_4 : List (Option Nat)) (a1_0 : Int) (a1_1 : Int) : Option ((List (Int)) × Bool) :=
 ((impl_IsStrip a0_0 a0_1 a0_2 a0_3 a0_4 a1_0 a1_1).bind fun (x1 : Bool) => (if (!x1) = true then some (([] : List (Int)), false) else ((impl_haloRows a0_0 a0_1 a0_2 a0_3 a0_4 a1_0 a1_1).bind fun (x2 : List (Int)) => some (x2, true))))

set_option maxRecDepth 20000 in
theorem impl_haloRows_ok (h0 : Heap) (a0_0 : Int) (a0_1 : Int) (a0_2 : Bool) (u0_3 : Value) (a0_3 : List (Option Nat)) (g0_3 : SL (kF .f32) h0.size h0 u0_3 a0_3) (u0_4 : Value) (a0_4 : List (Option Nat)) (g0_4 : SL (kF .f32) h0.size h0 u0_4 a0_4) (a1_0 : Int) (a1_1 : Int) (r : List (Int)) (hp : impl_haloRows a0_0 a0_1 a0_2 a0_3 a0_4 a1_0 a1_1 = some r) : CallsH Tryz.prog 21 ([(.agg (List.toArray (α := Value) [(.int .i64 a0_0), (.int .i64 a0_1), (.bool a0_2), u0_3, u0_4])), (.agg (List.toArray (α := Value) [(.int .i64 a1_0), (.int .i64 a1_1)]))].toArray ++ [].toArray) h0 (fun v h' => Mod [] h0 h' ∧ Sep [] h0.size h' [ownO (kI .i64) 2 v r]) := by
 unfold impl_haloRows at hp
 refine callsH_of_W (l := [(.agg (List.toArray (α := Value) [(.int .i64 a0_0), (.int .i64 a0_1), (.bool a0_2), u0_3, u0_4])), (.agg (List.toArray (α := Value) [(.int .i64 a1_0), (.int .i64 a1_1)]))]) (cap := []) 47 Tryz.func21 rfl rfl rfl ?_
 refine W.seq ?_
 refine W.region ?_
 refine RL.op _ (by decide) (opS_boxed (opv_boxA (cs := [(.int .i64 a0_0), (.int .i64 a0_1), (.bool a0_2), u0_3, u0_4]) rfl rfl)) ?_
 rintro _ hp1 ⟨bb1, rfl, MT_1, T_1⟩
 obtain ⟨X_1, S_1⟩ := Sep.turn0 (Mod.refl [] h0) (Sep.nil [] h0.size h0) MT_1 T_1
 refine RL.op _ (by decide) (opS_boxed (opv_boxA (cs := [(.int .i64 a1_0), (.int .i64 a1_1)]) rfl rfl)) ?_
 rintro _ hp2 ⟨bb2, rfl, MT_2, T_2⟩
 obtain ⟨X_2, S_2⟩ := Sep.turn0 X_1 S_1 MT_2 T_2
 refine RL.opD (by decide) (opv_assign rfl rfl) ?_
 have S_3 : Sep [] h0.size hp2 [ownO (kI .i64) 2 (.slice none 0 0) ([] : List (Int)), boxO bb2 [(.int .i64 a1_0), (.int .i64 a1_1)], boxO bb1 [(.int .i64 a0_0), (.int .i64 a0_1), (.bool a0_2), u0_3, u0_4]] := Sep.addNil S_2
 refine RL.nil ?_
 refine thnN ?_
 refine W.seq ?_
 refine W.region ?_
 refine RL.op _ (by decide) (opS_lit0 (K := (kI .i64)) rfl Tryz.underlying38 Tryz.isinfo2) ?_
 rintro v1 hp3 ⟨MT_3, T_3⟩
 obtain ⟨X_3, S_4⟩ := Sep.turn0 X_2 S_3 MT_3 T_3
 refine RL.opD (by decide) (opv_assign rfl rfl) ?_
 refine RL.nil ?_
 refine thnN ?_
 refine W.seq ?_
 refine W.seq ?_
 refine W.region ?_
 refine RL.opD (by decide) (opv_fieldAddr rfl Tryz.fo43_0 rfl) ?_
 refine RL.opD (by decide) (opv_loadB rfl Tryz.one2 rfl (Sep.at (o := boxO bb2 [(.int .i64 a1_0), (.int .i64 a1_1)]) S_4 2 rfl) rfl) ?_
 refine RL.opD (by decide) (opv_sub rfl rfl rfl) ?_
 refine RL.opD (by decide) (opv_assign rfl rfl) ?_
 refine RL.nil ?_
 refine thnN ?_
 obtain ⟨y1, hy1, hp⟩ := Option.bind_eq_some_iff.1 hp
 refine W.cut (fun φ' h' => ∃ x3, ∃ x4, ∃ x5, ∃ v3, y1 = (x3, x4, x5) ∧ Fr.sub [(0, (.agg (List.toArray (α := Value) [(.int .i64 a0_0), (.int .i64 a0_1), (.bool a0_2), u0_3, u0_4]))), (1, (.agg (List.toArray (α := Value) [(.int .i64 a1_0), (.int .i64 a1_1)]))), (2, (.pointer (some ⟨bb1, 0, none⟩))), (3, (.pointer (some ⟨bb2, 0, none⟩))), (4, (.slice none 0 0)), (6, (.int .i64 x3)), (17, (.bool x4)), (5, v3)] φ' ∧ Mod [] h0 h' ∧ Sep [] h0.size h' [ownO (kI .i64) 2 (.slice none 0 0) ([] : List (Int)), boxO bb2 [(.int .i64 a1_0), (.int .i64 a1_1)], boxO bb1 [(.int .i64 a0_0), (.int .i64 a0_1), (.bool a0_2), u0_3, u0_4], ownO (kI .i64) 2 v3 x5]) ?_ ?_
 ·refine W.block ?_
  refine W.loopS (fun (s : ((List (Int)) × Int)) φ' h' => ∃ v2, Fr.sub [(0, (.agg (List.toArray (α := Value) [(.int .i64 a0_0), (.int .i64 a0_1), (.bool a0_2), u0_3, u0_4]))), (1, (.agg (List.toArray (α := Value) [(.int .i64 a1_0), (.int .i64 a1_1)]))), (2, (.pointer (some ⟨bb1, 0, none⟩))), (3, (.pointer (some ⟨bb2, 0, none⟩))), (4, (.slice none 0 0)), (5, v2), (6, (.int .i64 s.2))] φ' ∧ Mod [] h0 h' ∧ Sep [] h0.size h' [ownO (kI .i64) 2 v2 s.1, ownO (kI .i64) 2 (.slice none 0 0) ([] : List (Int)), boxO bb2 [(.int .i64 a1_0), (.int .i64 a1_1)], boxO bb1 [(.int .i64 a0_0), (.int .i64 a0_1), (.bool a0_2), u0_3, u0_4]]) hy1 ⟨v1, ⟨rfl, rfl, rfl, rfl, rfl, rfl, rfl, trivial⟩, X_3, (Sep.sel S_4 [0, 1, 2, 3] (by decide))⟩ ?_
  rintro ⟨x1, x2⟩ φ' hp4 o1 ⟨v2, hs1, X_4, S_5⟩ ho1 hy1
  have hs1 : Fr.sub [(0, (.agg (List.toArray (α := Value) [(.int .i64 a0_0), (.int .i64 a0_1), (.bool a0_2), u0_3, u0_4]))), (1, (.agg (List.toArray (α := Value) [(.int .i64 a1_0), (.int .i64 a1_1)]))), (2, (.pointer (some ⟨bb1, 0, none⟩))), (3, (.pointer (some ⟨bb2, 0, none⟩))), (4, (.slice none 0 0)), (5, v2), (6, (.int .i64 x2))] φ' := hs1
  have S_5 : Sep [] h0.size hp4 [ownO (kI .i64) 2 v2 x1, ownO (kI .i64) 2 (.slice none 0 0) ([] : List (Int)), boxO bb2 [(.int .i64 a1_0), (.int .i64 a1_1)], boxO bb1 [(.int .i64 a0_0), (.int .i64 a0_1), (.bool a0_2), u0_3, u0_4]] := S_5
  have ho1 : impl_haloRows.s0 a0_1 a0_2 a1_0 a1_1 x1 x2 = some o1 := ho1
  unfold impl_haloRows.s0 at ho1
  refine W.sub hs1 ?_
  refine W.seq ?_
  refine W.seq ?_
  refine W.region ?_
  refine RL.opD (by decide) (opv_move rfl rfl) ?_
  refine RL.opD (by decide) (opv_fieldAddr rfl Tryz.fo43_0 rfl) ?_
  refine RL.opD (by decide) (opv_loadB rfl Tryz.one2 rfl (Sep.at (o := boxO bb2 [(.int .i64 a1_0), (.int .i64 a1_1)]) S_5 2 rfl) rfl) ?_
  refine RL.opD (by decide) (opv_fieldAddr rfl Tryz.fo43_1 rfl) ?_
  refine RL.opD (by decide) (opv_loadB rfl Tryz.one2 rfl (Sep.at (o := boxO bb2 [(.int .i64 a1_0), (.int .i64 a1_1)]) S_5 2 rfl) rfl) ?_
  refine RL.opD (by decide) (opv_add rfl rfl rfl) ?_
  refine RL.opD (by decide) (opv_icmp rfl rfl rfl rfl) ?_
  refine RL.nil ?_
  refine thnN ?_
  by_cases c1 : (decide (x2 ≤ (IntKind.wrap .i64 (a1_0 + a1_1)))) = true
  ·rw [if_pos c1] at ho1
   refine W.condT rfl c1 ?_
   refine W.skip ?_
   refine thnN ?_
   refine W.seq ?_
   refine W.block ?_
   refine W.block ?_
   refine W.seq ?_
   refine W.region ?_
   refine RL.opD (by decide) (opv_move rfl rfl) ?_
   refine RL.opD (by decide) (opv_fieldAddr rfl Tryz.fo26_1 rfl) ?_
   refine RL.opD (by decide) (opv_loadB rfl Tryz.one2 rfl (Sep.at (o := boxO bb1 [(.int .i64 a0_0), (.int .i64 a0_1), (.bool a0_2), u0_3, u0_4]) S_5 3 rfl) rfl) ?_
   refine RL.opD (by decide) (opv_sub rfl rfl rfl) ?_
   obtain ⟨x6, hx6, ho1⟩ := Option.bind_eq_some_iff.1 ho1
   refine RL.op _ (by decide) (opv_call (cap := []) (impl_within_ok _ _ _ _ _ hx6) rfl rfl ⟨rfl, rfl, rfl, trivial⟩ Tryz.func22 rfl rfl) ?_
   rintro _ _ ⟨rfl, rfl⟩
   refine RL.opD (by decide) (opv_assign rfl rfl) ?_
   refine RL.nil ?_
   refine thnN ?_
   obtain ⟨x7, hy2, ho1⟩ := Option.bind_eq_some_iff.1 ho1
   refine W.cut (fun φ' h' => ∃ v4, Fr.sub [(0, (.agg (List.toArray (α := Value) [(.int .i64 a0_0), (.int .i64 a0_1), (.bool a0_2), u0_3, u0_4]))), (1, (.agg (List.toArray (α := Value) [(.int .i64 a1_0), (.int .i64 a1_1)]))), (2, (.pointer (some ⟨bb1, 0, none⟩))), (3, (.pointer (some ⟨bb2, 0, none⟩))), (4, (.slice none 0 0)), (6, (.int .i64 x2)), (17, (.bool (decide (x2 ≤ (IntKind.wrap .i64 (a1_0 + a1_1)))))), (20, (.bool x6)), (5, v4)] φ' ∧ Mod [] h0 h' ∧ Sep [] h0.size h' [ownO (kI .i64) 2 (.slice none 0 0) ([] : List (Int)), boxO bb2 [(.int .i64 a1_0), (.int .i64 a1_1)], boxO bb1 [(.int .i64 a0_0), (.int .i64 a0_1), (.bool a0_2), u0_3, u0_4], ownO (kI .i64) 2 v4 x7]) ?_ ?_
   ·by_cases c2 : x6 = true
    ·rw [if_pos c2] at hy2
     refine W.condT rfl c2 ?_
     refine W.region ?_
     refine RL.opD (by decide) (opv_move rfl rfl) ?_
     refine RL.opD (by decide) (opv_move rfl rfl) ?_
     refine RL.op _ (by decide) (opS_lit1 (K := (kI .i64)) (z := x2) rfl Tryz.underlying38 Tryz.einfo2 rfl rfl rfl rfl rfl) ?_
     rintro v5 hp5 ⟨MT_4, T_4⟩
     obtain ⟨X_5, S_6⟩ := Sep.turn0 X_4 S_5 MT_4 T_4
     obtain ⟨c3, hy2⟩ := of_ite hy2
     refine RL.op _ (by decide) (opS_append (K := (kI .i64)) rfl Tryz.underlying38 Tryz.einfo2 rfl rfl rfl rfl (Sep.at (o := ownO (kI .i64) 2 v2 x1) S_6 1 rfl) (ownO.read (Sep.at (o := ownO (kI .i64) 2 v5 [x2]) S_6 0 rfl)) (by decide) (by decide) c3) ?_
     rintro v6 hp6 ⟨MT_5, T_5⟩
     have S_7 : Sep [] h0.size hp5 ([ownO (kI .i64) 2 v2 x1] ++ [ownO (kI .i64) 2 v5 [x2], ownO (kI .i64) 2 (.slice none 0 0) ([] : List (Int)), boxO bb2 [(.int .i64 a1_0), (.int .i64 a1_1)], boxO bb1 [(.int .i64 a0_0), (.int .i64 a0_1), (.bool a0_2), u0_3, u0_4]]) := Sep.sel S_6 [1, 0, 2, 3, 4] (by decide)
     obtain ⟨X_6, S_8⟩ := Sep.turn X_5 S_7 MT_5 T_5
     refine RL.opD (by decide) (opv_assign rfl rfl) ?_
     refine RL.nil ?_
     have ey2 := Option.some.inj hy2
     subst ey2
     refine onlyN ?_
     exact ⟨v6, ⟨rfl, rfl, rfl, rfl, rfl, rfl, rfl, rfl, rfl, trivial⟩, X_6, (Sep.sel S_8 [2, 3, 4, 0] (by decide))⟩
    ·rw [if_neg c2] at hy2
     have c2 := eq_false_of_ne_true c2
     refine W.condF rfl c2 ?_
     refine W.seq ?_
     refine W.region ?_
     refine RL.opD (by decide) (opv_fieldAddr rfl Tryz.fo26_2 rfl) ?_
     refine RL.opD (by decide) (opv_loadB rfl Tryz.one4 rfl (Sep.at (o := boxO bb1 [(.int .i64 a0_0), (.int .i64 a0_1), (.bool a0_2), u0_3, u0_4]) S_5 3 rfl) rfl) ?_
     refine RL.opD (by decide) (opv_assign rfl rfl) ?_
     refine RL.nil ?_
     refine thnN ?_
     obtain ⟨x8, hy3, hy2⟩ := Option.bind_eq_some_iff.1 hy2
     refine W.cut (fun φ' h' => ∃ v7, Fr.sub [(0, (.agg (List.toArray (α := Value) [(.int .i64 a0_0), (.int .i64 a0_1), (.bool a0_2), u0_3, u0_4]))), (1, (.agg (List.toArray (α := Value) [(.int .i64 a1_0), (.int .i64 a1_1)]))), (2, (.pointer (some ⟨bb1, 0, none⟩))), (3, (.pointer (some ⟨bb2, 0, none⟩))), (4, (.slice none 0 0)), (6, (.int .i64 x2)), (17, (.bool (decide (x2 ≤ (IntKind.wrap .i64 (a1_0 + a1_1)))))), (20, (.bool x6)), (30, (.bool a0_2)), (5, v7)] φ' ∧ Mod [] h0 h' ∧ Sep [] h0.size h' [ownO (kI .i64) 2 (.slice none 0 0) ([] : List (Int)), boxO bb2 [(.int .i64 a1_0), (.int .i64 a1_1)], boxO bb1 [(.int .i64 a0_0), (.int .i64 a0_1), (.bool a0_2), u0_3, u0_4], ownO (kI .i64) 2 v7 x8]) ?_ ?_
     ·by_cases c4 : a0_2 = true
      ·rw [if_pos c4] at hy3
       refine W.condT rfl c4 ?_
       refine W.region ?_
       refine RL.opD (by decide) (opv_move rfl rfl) ?_
       refine RL.opD (by decide) (opv_move rfl rfl) ?_
       refine RL.opD (by decide) (opv_fieldAddr rfl Tryz.fo26_1 rfl) ?_
       refine RL.opD (by decide) (opv_loadB rfl Tryz.one2 rfl (Sep.at (o := boxO bb1 [(.int .i64 a0_0), (.int .i64 a0_1), (.bool a0_2), u0_3, u0_4]) S_5 3 rfl) rfl) ?_
       refine RL.opD (by decide) (opv_add rfl rfl rfl) ?_
       refine RL.opD (by decide) (opv_fieldAddr rfl Tryz.fo26_1 rfl) ?_
       refine RL.opD (by decide) (opv_loadB rfl Tryz.one2 rfl (Sep.at (o := boxO bb1 [(.int .i64 a0_0), (.int .i64 a0_1), (.bool a0_2), u0_3, u0_4]) S_5 3 rfl) rfl) ?_
       by_cases nc5 : a0_1 = 0
       ·rw [if_pos nc5] at hy3; cases hy3
       rw [if_neg nc5] at hy3
       have c5 : a0_1 ≠ 0 := nc5
       refine RL.opD (by decide) (opv_rem rfl c5 rfl rfl) ?_
       refine RL.op _ (by decide) (opS_lit1 (K := (kI .i64)) (z := (Int.tmod (IntKind.wrap .i64 (x2 + a0_1)) a0_1)) rfl Tryz.underlying38 Tryz.einfo2 rfl rfl rfl rfl rfl) ?_
       rintro v8 hp7 ⟨MT_6, T_6⟩
       obtain ⟨X_7, S_9⟩ := Sep.turn0 X_4 S_5 MT_6 T_6
       obtain ⟨c6, hy3⟩ := of_ite hy3
       refine RL.op _ (by decide) (opS_append (K := (kI .i64)) rfl Tryz.underlying38 Tryz.einfo2 rfl rfl rfl rfl (Sep.at (o := ownO (kI .i64) 2 v2 x1) S_9 1 rfl) (ownO.read (Sep.at (o := ownO (kI .i64) 2 v8 [Int.tmod (IntKind.wrap .i64 (x2 + a0_1)) a0_1]) S_9 0 rfl)) (by decide) (by decide) c6) ?_
       rintro v9 hp8 ⟨MT_7, T_7⟩
       have S_10 : Sep [] h0.size hp7 ([ownO (kI .i64) 2 v2 x1] ++ [ownO (kI .i64) 2 v8 [Int.tmod (IntKind.wrap .i64 (x2 + a0_1)) a0_1], ownO (kI .i64) 2 (.slice none 0 0) ([] : List (Int)), boxO bb2 [(.int .i64 a1_0), (.int .i64 a1_1)], boxO bb1 [(.int .i64 a0_0), (.int .i64 a0_1), (.bool a0_2), u0_3, u0_4]]) := Sep.sel S_9 [1, 0, 2, 3, 4] (by decide)
       obtain ⟨X_8, S_11⟩ := Sep.turn X_7 S_10 MT_7 T_7
       refine RL.opD (by decide) (opv_assign rfl rfl) ?_
       refine RL.nil ?_
       have ey3 := Option.some.inj hy3
       subst ey3
       refine onlyN ?_
       exact ⟨v9, ⟨rfl, rfl, rfl, rfl, rfl, rfl, rfl, rfl, rfl, rfl, trivial⟩, X_8, (Sep.sel S_11 [2, 3, 4, 0] (by decide))⟩
      ·rw [if_neg c4] at hy3
       have c4 := eq_false_of_ne_true c4
       refine W.condF rfl c4 ?_
       refine W.skip ?_
       have ey3 := Option.some.inj hy3
       subst ey3
       refine onlyN ?_
       exact ⟨v2, ⟨rfl, rfl, rfl, rfl, rfl, rfl, rfl, rfl, rfl, rfl, trivial⟩, X_4, (Sep.sel S_5 [1, 2, 3, 0] (by decide))⟩
     rintro φ' hp9 ⟨v7, hs4, X_9, S_12⟩
     have ey2 := Option.some.inj hy2
     subst ey2
     refine onlyN ?_
     exact ⟨v7, (Fr.sub_trans ⟨rfl, rfl, rfl, rfl, rfl, rfl, rfl, rfl, rfl, trivial⟩ hs4), X_9, (Sep.sel S_12 [0, 1, 2, 3] (by decide))⟩
   rintro φ' hp10 ⟨v4, hs3, X_10, S_13⟩
   refine blkN ?_
   refine blkN ?_
   refine thnN ?_
   refine W.sub hs3 ?_
   refine W.region ?_
   refine RL.opD (by decide) (opv_move rfl rfl) ?_
   refine RL.opD (by decide) (opv_add rfl rfl rfl) ?_
   refine RL.opD (by decide) (opv_assign rfl rfl) ?_
   refine RL.nil ?_
   have eo1 := Option.some.inj ho1
   subst eo1
   refine rndN (s' := (x7, IntKind.wrap .i64 (x2 + 1))) rfl ?_
   exact ⟨v4, ⟨rfl, rfl, rfl, rfl, rfl, rfl, rfl, trivial⟩, X_10, (Sep.sel S_13 [3, 0, 1, 2] (by decide))⟩
  ·rw [if_neg c1] at ho1
   have c1 := eq_false_of_ne_true c1
   refine W.condF rfl c1 ?_
   refine W.exit ?_
   refine thnX ?_
   refine rndX ?_
   refine blkI ?_
   have eo1 := Option.some.inj ho1
   subst eo1
   have ey1 := hy1 _ rfl
   subst ey1
   refine onlyN ?_
   exact ⟨x2, decide (x2 ≤ (IntKind.wrap .i64 (a1_0 + a1_1))), x1, v2, rfl, ⟨rfl, rfl, rfl, rfl, rfl, rfl, rfl, rfl, trivial⟩, X_4, (Sep.sel S_5 [1, 2, 3, 0] (by decide))⟩
 rintro φ' hp11 ⟨x3, x4, x5, v3, rfl, hs2, X_11, S_14⟩
 try dsimp only at hp
 refine thnN ?_
 refine W.sub hs2 ?_
 refine W.seq ?_
 refine W.region ?_
 refine RL.opD (by decide) (opv_move rfl rfl) ?_
 obtain ⟨x9, hx9, hp⟩ := Option.bind_eq_some_iff.1 hp
 have S_16 : Sep [] h0.size hp11 [ownO (kI .i64) 2 v3 x5] := Sep.sel S_14 [3] (by decide)
 have S_15 : Sep [v3.ownBlock] hp11.size hp11 [ownO (kI .i64) 2 v3 x5] := Sep.own S_16 _
 refine RL.op _ (by decide) (opv_call (cap := []) (slices_Sort_I_ok _ h0.size (Nat.le_trans (Nat.le_refl _) (Mod.size X_11)) _ _ S_15 (Sep.ge (L := [ownO (kI .i64) 2 v3 x5]) S_16 (Nat.le_refl _) nob) _ hx9) rfl rfl ⟨rfl, trivial⟩ Tryz.func43 rfl rfl) ?_
 rintro _ hp12 ⟨rfl, MT_8, T_8⟩
 have S_17 : Sep [] h0.size hp11 ([ownO (kI .i64) 2 v3 x5] ++ [ownO (kI .i64) 2 (.slice none 0 0) ([] : List (Int)), boxO bb2 [(.int .i64 a1_0), (.int .i64 a1_1)], boxO bb1 [(.int .i64 a0_0), (.int .i64 a0_1), (.bool a0_2), u0_3, u0_4]]) := Sep.sel S_14 [3, 0, 1, 2] (by decide)
 obtain ⟨X_12, S_18⟩ := Sep.turn X_11 S_17 MT_8 T_8
 refine RL.nil ?_
 refine thnN ?_
 refine W.seq ?_
 refine W.region ?_
 refine RL.opD (by decide) (opv_move rfl rfl) ?_
 obtain ⟨x10, hx10, hp⟩ := Option.bind_eq_some_iff.1 hp
 have S_20 : Sep [] h0.size hp12 [ownO (kI .i64) 2 v3 x9] := Sep.sel S_18 [0] (by decide)
 have S_19 : Sep [v3.ownBlock] hp12.size hp12 [ownO (kI .i64) 2 v3 x9] := Sep.own S_20 _
 refine RL.op _ (by decide) (opv_call (cap := []) (slices_Compact_I_ok _ h0.size (Nat.le_trans (Nat.le_refl _) (Mod.size X_12)) _ _ S_19 (Sep.ge (L := [ownO (kI .i64) 2 v3 x9]) S_20 (Nat.le_refl _) nob) _ hx10) rfl rfl ⟨rfl, trivial⟩ Tryz.func44 rfl rfl) ?_
 rintro v10 hp13 ⟨MT_9, T_9⟩
 have S_21 : Sep [] h0.size hp12 ([ownO (kI .i64) 2 v3 x9] ++ [ownO (kI .i64) 2 (.slice none 0 0) ([] : List (Int)), boxO bb2 [(.int .i64 a1_0), (.int .i64 a1_1)], boxO bb1 [(.int .i64 a0_0), (.int .i64 a0_1), (.bool a0_2), u0_3, u0_4]]) := Sep.sel S_18 [0, 1, 2, 3] (by decide)
 obtain ⟨X_13, S_22⟩ := Sep.turn X_12 S_21 MT_9 T_9
 refine RL.opD (by decide) (opv_assign rfl rfl) ?_
 refine RL.nil ?_
 refine thnN ?_
 refine W.ret ?_
 have er := Option.some.inj hp
 subst er
 exact Rt.one rfl rfl ⟨X_13, (Sep.sel S_22 [0] (by decide))⟩

set_option maxRecDepth 20000 in
theorem impl_IsStrip_ok (h0 : Heap) (a0_0 : Int) (a0_1 : Int) (a0_2 : Bool) (u0_3 : Value) (a0_3 : List (Option Nat)) (g0_3 : SL (kF .f32) h0.size h0 u0_3 a0_3) (u0_4 : Value) (a0_4 : List (Option Nat)) (g0_4 : SL (kF .f32) h0.size h0 u0_4 a0_4) (a1_0 : Int) (a1_1 : Int) (r : Bool) (hp : impl_IsStrip a0_0 a0_1 a0_2 a0_3 a0_4 a1_0 a1_1 = some r) : CallsH Tryz.prog 27 ([(.agg (List.toArray (α := Value) [(.int .i64 a0_0), (.int .i64 a0_1), (.bool a0_2), u0_3, u0_4])), (.agg (List.toArray (α := Value) [(.int .i64 a1_0), (.int .i64 a1_1)]))].toArray ++ [].toArray) h0 (fun v h' => v = (.bool r) ∧ Mod [] h0 h' ∧ Sep [] h0.size h' []) := by
 unfold impl_IsStrip at hp
 refine callsH_of_W (l := [(.agg (List.toArray (α := Value) [(.int .i64 a0_0), (.int .i64 a0_1), (.bool a0_2), u0_3, u0_4])), (.agg (List.toArray (α := Value) [(.int .i64 a1_0), (.int .i64 a1_1)]))]) (cap := []) 25 Tryz.func27 rfl rfl rfl ?_
 refine W.seq ?_
 refine W.region ?_
 refine RL.op _ (by decide) (opS_boxed (opv_boxA (cs := [(.int .i64 a0_0), (.int .i64 a0_1), (.bool a0_2), u0_3, u0_4]) rfl rfl)) ?_
 rintro _ hp1 ⟨bb1, rfl, MT_1, T_1⟩
 obtain ⟨X_1, S_1⟩ := Sep.turn0 (Mod.refl [] h0) (Sep.nil [] h0.size h0) MT_1 T_1
 refine RL.op _ (by decide) (opS_boxed (opv_boxA (cs := [(.int .i64 a1_0), (.int .i64 a1_1)]) rfl rfl)) ?_
 rintro _ hp2 ⟨bb2, rfl, MT_2, T_2⟩
 obtain ⟨X_2, S_2⟩ := Sep.turn0 X_1 S_1 MT_2 T_2
 refine RL.opD (by decide) (opv_assign rfl rfl) ?_
 refine RL.nil ?_
 refine thnN ?_
 refine W.seq ?_
 obtain ⟨x1, hy1, hp⟩ := Option.bind_eq_some_iff.1 hp
 refine W.cut (fun φ' h' => Fr.sub [(0, (.agg (List.toArray (α := Value) [(.int .i64 a0_0), (.int .i64 a0_1), (.bool a0_2), u0_3, u0_4]))), (1, (.agg (List.toArray (α := Value) [(.int .i64 a1_0), (.int .i64 a1_1)]))), (2, (.pointer (some ⟨bb1, 0, none⟩))), (3, (.pointer (some ⟨bb2, 0, none⟩))), (4, (.bool x1))] φ' ∧ Mod [] h0 h' ∧ Sep [] h0.size h' [boxO bb2 [(.int .i64 a1_0), (.int .i64 a1_1)], boxO bb1 [(.int .i64 a0_0), (.int .i64 a0_1), (.bool a0_2), u0_3, u0_4]]) ?_ ?_
 ·refine W.region ?_
  refine RL.opD (by decide) (opv_loadA (us := [(.int .i64 a0_0), (.int .i64 a0_1), (.bool a0_2), u0_3, u0_4]) rfl Tryz.agg26 Tryz.size26 rfl (Sep.at (o := boxO bb1 [(.int .i64 a0_0), (.int .i64 a0_1), (.bool a0_2), u0_3, u0_4]) S_2 1 rfl) rfl rfl) ?_
  obtain ⟨x2, hx2, hy1⟩ := Option.bind_eq_some_iff.1 hy1
  refine RL.op _ (by decide) (opv_call (cap := []) (impl_ValidSheet_ok _ _ _ _ _ _ (SL.up (SL.mod g0_3 X_2 (Nat.le_refl _) nob) (Nat.le_trans (Nat.le_refl _) (Mod.size X_2))) _ _ (SL.up (SL.mod g0_4 X_2 (Nat.le_refl _) nob) (Nat.le_trans (Nat.le_refl _) (Mod.size X_2))) _ hx2) rfl rfl ⟨rfl, trivial⟩ Tryz.func18 rfl rfl) ?_
  rintro _ hp3 ⟨rfl, MT_3, T_3⟩
  obtain ⟨X_3, S_3⟩ := Sep.turn0 X_2 S_2 MT_3 T_3
  refine RL.opD (by decide) (opv_move rfl rfl) ?_
  by_cases c1 : x2 = true
  ·rw [if_pos c1] at hy1
   refine RL.yesD rfl rfl c1 (by decide) (opv_fieldAddr rfl Tryz.fo43_0 rfl) ?_
   refine RL.yesD rfl rfl c1 (by decide) (opv_loadB rfl Tryz.one2 rfl (Sep.at (o := boxO bb2 [(.int .i64 a1_0), (.int .i64 a1_1)]) S_3 0 rfl) rfl) ?_
   refine RL.yesD rfl rfl c1 (by decide) (opv_fieldAddr rfl Tryz.fo26_1 rfl) ?_
   refine RL.yesD rfl rfl c1 (by decide) (opv_loadB rfl Tryz.one2 rfl (Sep.at (o := boxO bb1 [(.int .i64 a0_0), (.int .i64 a0_1), (.bool a0_2), u0_3, u0_4]) S_3 1 rfl) rfl) ?_
   refine RL.yesD rfl rfl c1 (by decide) (opv_sub rfl rfl rfl) ?_
   obtain ⟨x3, hx3, hy1⟩ := Option.bind_eq_some_iff.1 hy1
   refine RL.yes _ rfl rfl c1 (by decide) (opv_call (cap := []) (impl_within_ok _ _ _ _ _ hx3) rfl rfl ⟨rfl, rfl, rfl, trivial⟩ Tryz.func22 rfl rfl) ?_
   rintro _ _ ⟨rfl, rfl⟩
   refine RL.opD (by decide) (opv_pick rfl rfl (fun _ => rfl) (fun e => absurd (Eq.trans (Eq.symm e) c1) (by decide)) rfl) ?_
   refine RL.opD (by decide) (opv_move rfl rfl) ?_
   by_cases c2 : x3 = true
   ·rw [if_pos c2] at hy1
    refine RL.yesD rfl rfl c2 (by decide) (opv_fieldAddr rfl Tryz.fo43_1 rfl) ?_
    refine RL.yesD rfl rfl c2 (by decide) (opv_loadB rfl Tryz.one2 rfl (Sep.at (o := boxO bb2 [(.int .i64 a1_0), (.int .i64 a1_1)]) S_3 0 rfl) rfl) ?_
    refine RL.yesD rfl rfl c2 (by decide) (opv_fieldAddr rfl Tryz.fo26_1 rfl) ?_
    refine RL.yesD rfl rfl c2 (by decide) (opv_loadB rfl Tryz.one2 rfl (Sep.at (o := boxO bb1 [(.int .i64 a0_0), (.int .i64 a0_1), (.bool a0_2), u0_3, u0_4]) S_3 1 rfl) rfl) ?_
    refine RL.yesD rfl rfl c2 (by decide) (opv_fieldAddr rfl Tryz.fo43_0 rfl) ?_
    refine RL.yesD rfl rfl c2 (by decide) (opv_loadB rfl Tryz.one2 rfl (Sep.at (o := boxO bb2 [(.int .i64 a1_0), (.int .i64 a1_1)]) S_3 0 rfl) rfl) ?_
    refine RL.yesD rfl rfl c2 (by decide) (opv_sub rfl rfl rfl) ?_
    obtain ⟨x4, hx4, hy1⟩ := Option.bind_eq_some_iff.1 hy1
    refine RL.yes _ rfl rfl c2 (by decide) (opv_call (cap := []) (impl_within_ok _ _ _ _ _ hx4) rfl rfl ⟨rfl, rfl, rfl, trivial⟩ Tryz.func22 rfl rfl) ?_
    rintro _ _ ⟨rfl, rfl⟩
    refine RL.opD (by decide) (opv_pick rfl rfl (fun _ => rfl) (fun e => absurd (Eq.trans (Eq.symm e) c2) (by decide)) rfl) ?_
    refine RL.opD (by decide) (opv_assign rfl rfl) ?_
    refine RL.nil ?_
    have ey1 := Option.some.inj hy1
    subst ey1
    refine onlyN ?_
    exact ⟨⟨rfl, rfl, rfl, rfl, rfl, trivial⟩, X_3, (Sep.sel S_3 [0, 1] (by decide))⟩
   ·rw [if_neg c2] at hy1
    have c2 := eq_false_of_ne_true c2
    refine RL.noF rfl rfl c2 (by decide) ?_
    refine RL.noF rfl rfl c2 (by decide) ?_
    refine RL.noF rfl rfl c2 (by decide) ?_
    refine RL.noF rfl rfl c2 (by decide) ?_
    refine RL.noF rfl rfl c2 (by decide) ?_
    refine RL.noF rfl rfl c2 (by decide) ?_
    refine RL.noF rfl rfl c2 (by decide) ?_
    refine RL.noF rfl rfl c2 (by decide) ?_
    refine RL.opD (by decide) (opv_pick rfl rfl (fun e => absurd (Eq.trans (Eq.symm e) c2) (by decide)) (fun _ => rfl) rfl) ?_
    refine RL.opD (by decide) (opv_assign rfl rfl) ?_
    refine RL.nil ?_
    have ey1 := Option.some.inj hy1
    subst ey1
    refine onlyN ?_
    exact ⟨⟨rfl, rfl, rfl, rfl, rfl, trivial⟩, X_3, (Sep.sel S_3 [0, 1] (by decide))⟩
  ·rw [if_neg c1] at hy1
   have c1 := eq_false_of_ne_true c1
   refine RL.noF rfl rfl c1 (by decide) ?_
   refine RL.noF rfl rfl c1 (by decide) ?_
   refine RL.noF rfl rfl c1 (by decide) ?_
   refine RL.noF rfl rfl c1 (by decide) ?_
   refine RL.noF rfl rfl c1 (by decide) ?_
   refine RL.noF rfl rfl c1 (by decide) ?_
   refine RL.opD (by decide) (opv_pick rfl rfl (fun e => absurd (Eq.trans (Eq.symm e) c1) (by decide)) (fun _ => rfl) rfl) ?_
   refine RL.opD (by decide) (opv_move rfl rfl) ?_
   refine RL.noF rfl rfl rfl (by decide) ?_
   refine RL.noF rfl rfl rfl (by decide) ?_
   refine RL.noF rfl rfl rfl (by decide) ?_
   refine RL.noF rfl rfl rfl (by decide) ?_
   refine RL.noF rfl rfl rfl (by decide) ?_
   refine RL.noF rfl rfl rfl (by decide) ?_
   refine RL.noF rfl rfl rfl (by decide) ?_
   refine RL.noF rfl rfl rfl (by decide) ?_
   refine RL.opD (by decide) (opv_pick rfl rfl (fun e => absurd (Eq.trans (Eq.symm e) rfl) (by decide)) (fun _ => rfl) rfl) ?_
   refine RL.opD (by decide) (opv_assign rfl rfl) ?_
   refine RL.nil ?_
   have ey1 := Option.some.inj hy1
   subst ey1
   refine onlyN ?_
   exact ⟨⟨rfl, rfl, rfl, rfl, rfl, trivial⟩, X_3, (Sep.sel S_3 [0, 1] (by decide))⟩
 rintro φ' hp4 ⟨hs1, X_4, S_4⟩
 refine thnN ?_
 refine W.sub hs1 ?_
 refine W.ret ?_
 have er := Option.some.inj hp
 subst er
 exact Rt.one rfl rfl ⟨rfl, X_4, (Sep.nil _ _ _)⟩

set_option maxRecDepth 20000 in
theorem impl_HaloRows_ok (h0 : Heap) (a0_0 : Int) (a0_1 : Int) (a0_2 : Bool) (u0_3 : Value) (a0_3 : List (Option Nat)) (g0_3 : SL (kF .f32) h0.size h0 u0_3 a0_3) (u0_4 : Value) (a0_4 : List (Option Nat)) (g0_4 : SL (kF .f32) h0.size h0 u0_4 a0_4) (a1_0 : Int) (a1_1 : Int) (r : ((List (Int)) × Bool)) (hp : impl_HaloRows a0_0 a0_1 a0_2 a0_3 a0_4 a1_0 a1_1 = some r) : CallsH Tryz.prog 11 ([(.agg (List.toArray (α := Value) [(.int .i64 a0_0), (.int .i64 a0_1), (.bool a0_2), u0_3, u0_4])), (.agg (List.toArray (α := Value) [(.int .i64 a1_0), (.int .i64 a1_1)]))].toArray ++ [].toArray) h0 (fun v h' => ∃ w0, v = (.tuple (List.toArray (α := Value) [w0, (.bool r.2)])) ∧ Mod [] h0 h' ∧ Sep [] h0.size h' [ownO (kI .i64) 2 w0 r.1]) := by
 unfold impl_HaloRows at hp
 refine callsH_of_W (l := [(.agg (List.toArray (α := Value) [(.int .i64 a0_0), (.int .i64 a0_1), (.bool a0_2), u0_3, u0_4])), (.agg (List.toArray (α := Value) [(.int .i64 a1_0), (.int .i64 a1_1)]))]) (cap := []) 13 Tryz.func11 rfl rfl rfl ?_
 refine W.seq ?_
 refine W.region ?_
 refine RL.op _ (by decide) (opS_boxed (opv_boxA (cs := [(.int .i64 a0_0), (.int .i64 a0_1), (.bool a0_2), u0_3, u0_4]) rfl rfl)) ?_
 rintro _ hp1 ⟨bb1, rfl, MT_1, T_1⟩
 obtain ⟨X_1, S_1⟩ := Sep.turn0 (Mod.refl [] h0) (Sep.nil [] h0.size h0) MT_1 T_1
 refine RL.op _ (by decide) (opS_boxed (opv_boxA (cs := [(.int .i64 a1_0), (.int .i64 a1_1)]) rfl rfl)) ?_
 rintro _ hp2 ⟨bb2, rfl, MT_2, T_2⟩
 obtain ⟨X_2, S_2⟩ := Sep.turn0 X_1 S_1 MT_2 T_2
 refine RL.opD (by decide) (opv_assign rfl rfl) ?_
 have S_3 : Sep [] h0.size hp2 [ownO (kI .i64) 2 (.slice none 0 0) ([] : List (Int)), boxO bb2 [(.int .i64 a1_0), (.int .i64 a1_1)], boxO bb1 [(.int .i64 a0_0), (.int .i64 a0_1), (.bool a0_2), u0_3, u0_4]] := Sep.addNil S_2
 refine RL.opD (by decide) (opv_assign rfl rfl) ?_
 refine RL.nil ?_
 refine thnN ?_
 refine W.seq ?_
 refine W.seq ?_
 refine W.region ?_
 refine RL.opD (by decide) (opv_loadA (us := [(.int .i64 a0_0), (.int .i64 a0_1), (.bool a0_2), u0_3, u0_4]) rfl Tryz.agg26 Tryz.size26 rfl (Sep.at (o := boxO bb1 [(.int .i64 a0_0), (.int .i64 a0_1), (.bool a0_2), u0_3, u0_4]) S_3 2 rfl) rfl rfl) ?_
 refine RL.opD (by decide) (opv_loadA (us := [(.int .i64 a1_0), (.int .i64 a1_1)]) rfl Tryz.agg43 Tryz.size43 rfl (Sep.at (o := boxO bb2 [(.int .i64 a1_0), (.int .i64 a1_1)]) S_3 1 rfl) rfl rfl) ?_
 obtain ⟨x1, hx1, hp⟩ := Option.bind_eq_some_iff.1 hp
 refine RL.op _ (by decide) (opv_call (cap := []) (impl_IsStrip_ok _ _ _ _ _ _ (SL.up (SL.mod g0_3 X_2 (Nat.le_refl _) nob) (Nat.le_trans (Nat.le_refl _) (Mod.size X_2))) _ _ (SL.up (SL.mod g0_4 X_2 (Nat.le_refl _) nob) (Nat.le_trans (Nat.le_refl _) (Mod.size X_2))) _ _ _ hx1) rfl rfl ⟨rfl, rfl, trivial⟩ Tryz.func27 rfl rfl) ?_
 rintro _ hp3 ⟨rfl, MT_3, T_3⟩
 obtain ⟨X_3, S_4⟩ := Sep.turn0 X_2 S_3 MT_3 T_3
 refine RL.opD (by decide) (opv_not rfl rfl) ?_
 refine RL.nil ?_
 refine thnN ?_
 by_cases c1 : (!x1) = true
 ·rw [if_pos c1] at hp
  refine W.condT rfl c1 ?_
  refine W.seq ?_
  refine W.region ?_
  refine RL.opD (by decide) (opv_assign rfl rfl) ?_
  have S_5 : Sep [] h0.size hp3 [ownO (kI .i64) 2 (.slice none 0 0) ([] : List (Int)), ownO (kI .i64) 2 (.slice none 0 0) ([] : List (Int)), boxO bb2 [(.int .i64 a1_0), (.int .i64 a1_1)], boxO bb1 [(.int .i64 a0_0), (.int .i64 a0_1), (.bool a0_2), u0_3, u0_4]] := Sep.addNil S_4
  refine RL.opD (by decide) (opv_assign rfl rfl) ?_
  refine RL.nil ?_
  refine thnN ?_
  refine W.ret ?_
  refine thnR ?_
  have er := Option.some.inj hp
  subst er
  exact Rt.two rfl rfl rfl ⟨(.slice none 0 0), rfl, X_3, (Sep.sel S_5 [0] (by decide))⟩
 ·rw [if_neg c1] at hp
  have c1 := eq_false_of_ne_true c1
  refine W.condF rfl c1 ?_
  refine W.skip ?_
  refine thnN ?_
  refine W.seq ?_
  refine W.region ?_
  refine RL.opD (by decide) (opv_loadA (us := [(.int .i64 a0_0), (.int .i64 a0_1), (.bool a0_2), u0_3, u0_4]) rfl Tryz.agg26 Tryz.size26 rfl (Sep.at (o := boxO bb1 [(.int .i64 a0_0), (.int .i64 a0_1), (.bool a0_2), u0_3, u0_4]) S_4 2 rfl) rfl rfl) ?_
  refine RL.opD (by decide) (opv_loadA (us := [(.int .i64 a1_0), (.int .i64 a1_1)]) rfl Tryz.agg43 Tryz.size43 rfl (Sep.at (o := boxO bb2 [(.int .i64 a1_0), (.int .i64 a1_1)]) S_4 1 rfl) rfl rfl) ?_
  obtain ⟨x2, hx2, hp⟩ := Option.bind_eq_some_iff.1 hp
  refine RL.op _ (by decide) (opv_call (cap := []) (impl_haloRows_ok _ _ _ _ _ _ (SL.up (SL.mod g0_3 X_3 (Nat.le_refl _) nob) (Nat.le_trans (Nat.le_refl _) (Mod.size X_3))) _ _ (SL.up (SL.mod g0_4 X_3 (Nat.le_refl _) nob) (Nat.le_trans (Nat.le_refl _) (Mod.size X_3))) _ _ _ hx2) rfl rfl ⟨rfl, rfl, trivial⟩ Tryz.func21 rfl rfl) ?_
  rintro v1 hp4 ⟨MT_4, T_4⟩
  obtain ⟨X_4, S_6⟩ := Sep.turn0 X_3 S_4 MT_4 T_4
  refine RL.opD (by decide) (opv_assign rfl rfl) ?_
  refine RL.opD (by decide) (opv_assign rfl rfl) ?_
  refine RL.nil ?_
  refine thnN ?_
  refine W.ret ?_
  have er := Option.some.inj hp
  subst er
  exact Rt.two rfl rfl rfl ⟨v1, rfl, X_4, (Sep.sel S_6 [0] (by decide))⟩

end Go.H
