/- Functions of the program: what each computes, as a plain function, and that the call comes to it. Written by a program (wip/gen). -/
import Derived.Test.YtmgoblppedmdhaaGMax
import Derived.Test.YtmgoblppedmdhaaGBase
import Derived.Test.YtmgoblppedmdhaaGSheet
import Derived.Test.YtmgoblppedmdhaaGField
import Derived.Test.YtmgoblppedmdhaaGRect
import Derived.Test.YtmgoblppedmdhaaLib2
import Derived.Test.YtmgoblppedmdhaaProg
import Derived.KernelRfl
set_option linter.unusedVariables false
namespace Go.H
open Go Go.Proofs



noncomputable def impl_StillCells_1 (a0 : Int) (a1 : Int) (ae0_0 : Int) (ae0_1 : Int) (ae0_2 : Bool) (ae0_3 : List (Option Nat)) (ae0_4 : List (Option Nat)) : Option Bool :=
 ((impl_Sheet_at ae0_0 ae0_1 ae0_2 ae0_3 ae0_4 a0 a1).bind fun (x1 : Int) => ((idx ae0_3 x1).bind fun (x2 : Option Nat) => some (fcmp .eql .f32 x2 (some 0))))

noncomputable def impl_cellsBy__impl_StillCells_1.s1 (a0_0 : Int) (a0_1 : Int) (a0_2 : Bool) (a0_3 : List (Option Nat)) (a0_4 : List (Option Nat)) (ae0_0 : Int) (ae0_1 : Int) (ae0_2 : Bool) (ae0_3 : List (Option Nat)) (ae0_4 : List (Option Nat)) (x2 : Int) (x6 : List (Int)) (x7 : Int) : Option (((List (Int)) × Int) ⊕ (Int × Bool × (List (Int)))) :=
 (if (decide (x7 < a0_0)) = true then ((impl_StillCells_1 x7 x2 ae0_0 ae0_1 ae0_2 ae0_3 ae0_4).bind fun (x11 : Bool) => (((if x11 = true then ((impl_Sheet_at a0_0 a0_1 a0_2 a0_3 a0_4 x7 x2).bind fun (x13 : Int) => (if x6.length + [x13].length ≤ 1000000000 then some (x6 ++ [x13]) else none)) else some x6) : Option (List (Int))).bind fun (x12 : List (Int)) => some (.inl (x12, IntKind.wrap .i64 (x7 + 1))))) else some (.inr (x7, decide (x7 < a0_0), x6)))

noncomputable def impl_cellsBy__impl_StillCells_1.s0 (a0_0 : Int) (a0_1 : Int) (a0_2 : Bool) (a0_3 : List (Option Nat)) (a0_4 : List (Option Nat)) (ae0_0 : Int) (ae0_1 : Int) (ae0_2 : Bool) (ae0_3 : List (Option Nat)) (ae0_4 : List (Option Nat)) (x1 : List (Int)) (x2 : Int) : Option (((List (Int)) × Int) ⊕ (Int × Bool × (List (Int)))) :=
 (if (decide (x2 < a0_1)) = true then ((loopF (fun (s : ((List (Int)) × Int)) => impl_cellsBy__impl_StillCells_1.s1 a0_0 a0_1 a0_2 a0_3 a0_4 ae0_0 ae0_1 ae0_2 ae0_3 ae0_4 x2 s.1 s.2) (x1, 0)).bind fun (⟨x8, x9, x10⟩ : (Int × Bool × (List (Int)))) => some (.inl (x10, IntKind.wrap .i64 (x2 + 1)))) else some (.inr (x2, decide (x2 < a0_1), x1)))

noncomputable def impl_cellsBy__impl_StillCells_1 (a0_0 : Int) (a0_1 : Int) (a0_2 : Bool) (a0_3 : List (Option Nat)) (a0_4 : List (Option Nat)) (ae0_0 : Int) (ae0_1 : Int) (ae0_2 : Bool) (ae0_3 : List (Option Nat)) (ae0_4 : List (Option Nat)) : Option (List (Int)) :=
 ((loopF (fun (s : ((List (Int)) × Int)) => impl_cellsBy__impl_StillCells_1.s0 a0_0 a0_1 a0_2 a0_3 a0_4 ae0_0 ae0_1 ae0_2 ae0_3 ae0_4 s.1 s.2) (([] : List (Int)), 0)).bind fun (⟨x3, x4, x5⟩ : (Int × Bool × (List (Int)))) => some x5)

noncomputable def impl_StillCells (a0_0 : Int) (a0_1 : Int) (a0_2 : Bool) (a0_3 : List (Option Nat)) (a0_4 : List (Option Nat)) : Option ((List (Int)) × Bool) :=
 ((impl_ValidSheet a0_0 a0_1 a0_2 a0_3 a0_4).bind fun (x1 : Bool) => (if (!x1) = true then some (([] : List (Int)), false) else ((impl_cellsBy__impl_StillCells_1 a0_0 a0_1 a0_2 a0_3 a0_4 a0_0 a0_1 a0_2 a0_3 a0_4).bind fun (x2 : List (Int)) => some (x2, true))))

set_option maxRecDepth 20000 in
theorem impl_StillCells_1_ok (h0 : Heap) (a0 : Int) (a1 : Int) (be0 : Nat) (ae0_0 : Int) (ae0_1 : Int) (ae0_2 : Bool) (ue0_3 : Value) (ae0_3 : List (Option Nat)) (ge0_3 : SL (kF .f32) h0.size h0 ue0_3 ae0_3) (ue0_4 : Value) (ae0_4 : List (Option Nat)) (ge0_4 : SL (kF .f32) h0.size h0 ue0_4 ae0_4) (Ge0 : Bx h0 be0 [(.int .i64 ae0_0), (.int .i64 ae0_1), (.bool ae0_2), ue0_3, ue0_4]) (r : Bool) (hp : impl_StillCells_1 a0 a1 ae0_0 ae0_1 ae0_2 ae0_3 ae0_4 = some r) : CallsH Try.prog 107 ([(.int .i64 a0), (.int .i64 a1)].toArray ++ [(.pointer (some ⟨be0, 0, none⟩))].toArray) h0 (fun v h' => v = (.bool r) ∧ Mod [] h0 h' ∧ Sep [] h0.size h' []) := by
 unfold impl_StillCells_1 at hp
 refine callsH_of_W (l := [(.int .i64 a0), (.int .i64 a1)]) (cap := [(.pointer (some ⟨be0, 0, none⟩))]) 15 Try.func107 rfl rfl rfl ?_
 refine W.seq ?_
 refine W.region ?_
 refine RL.opD (by decide) (opv_assign rfl rfl) ?_
 refine RL.nil ?_
 refine thnN ?_
 refine W.seq ?_
 obtain ⟨x1, hx1, hp⟩ := Option.bind_eq_some_iff.1 hp
 obtain ⟨x2, hx2, hp⟩ := Option.bind_eq_some_iff.1 hp
 refine W.sub (ψ := [(0, (.int .i64 a0)), (1, (.int .i64 a1)), (2, (.pointer (some ⟨be0, 0, none⟩)))]) ⟨rfl, rfl, rfl, trivial⟩ ?_
 refine W.regionS [fun v _ => @Eq Value (.pointer (some ⟨be0, 3, none⟩)) v, fun v _ => @Eq Value ue0_3 v, fun v _ => @Eq Value (.agg (List.toArray (α := Value) [(.int .i64 ae0_0), (.int .i64 ae0_1), (.bool ae0_2), ue0_3, ue0_4])) v, fun v _ => @Eq Value (.int .i64 a0) v, fun v _ => @Eq Value (.int .i64 a1) v, fun v h => @Eq Value v (.int .i64 x1) ∧ Sep [] h0.size h [], fun v _ => PtI 1 v ue0_3 (Int.toNat x1), fun v _ => IsF .f32 v x2, fun v _ => @Eq Value (.bool (fcmp .eql .f32 x2 (some 0))) v, fun v _ => @Eq Value (.bool (fcmp .eql .f32 x2 (some 0))) v] [[], [0], [], [], [], [2, 3, 4], [1, 5], [6], [7], [8]] [9] Try.mixed (by decide +kernel) (by decide +kernel) rfl rfl rfl ⟨fun _ _ _ h _ => h, fun _ _ _ h _ => h, fun _ _ _ h _ => h, fun _ _ _ h _ => h, fun _ _ _ h _ => h, fun _ _ _ ⟨e, h⟩ x => ⟨e, h.ext x⟩, fun _ _ _ h _ => h, fun _ _ _ h _ => h, fun _ _ _ h _ => h, fun _ _ _ h _ => h, trivial⟩ ?_ ?_
 ·refine ⟨⟨rfl, ?_⟩, ⟨rfl, ?_⟩, ⟨rfl, ?_⟩, ⟨rfl, ?_⟩, ⟨rfl, ?_⟩, ⟨rfl, ?_⟩, ⟨rfl, ?_⟩, ⟨rfl, ?_⟩, ⟨rfl, ?_⟩, ⟨rfl, ?_⟩, trivial⟩
  ·rintro hp2 E_1
   refine Dep.nil ?_
   refine GuardOK.none rfl ?_
   exact OpV.toDx (opv_fieldAddr rfl Try.fo33_3 rfl) rfl
  ·rintro hp3 E_2 _ rfl
   refine Dep.nil ?_
   refine GuardOK.none rfl ?_
   exact OpV.toDx (opv_loadB rfl Try.one25 rfl (Bx.mod Ge0 (Mod.lift (Mod.refl [] h0) E_2) nobB) rfl) rfl
  ·rintro hp4 E_3
   refine Dep.nil ?_
   refine GuardOK.none rfl ?_
   exact OpV.toDx (opv_loadA (us := [(.int .i64 ae0_0), (.int .i64 ae0_1), (.bool ae0_2), ue0_3, ue0_4]) rfl Try.agg33 Try.size33 rfl (Bx.mod Ge0 (Mod.lift (Mod.refl [] h0) E_3) nobB) rfl rfl) rfl
  ·rintro hp5 E_4
   refine Dep.nil ?_
   refine GuardOK.none rfl ?_
   exact OpV.toDx (opv_move rfl rfl) rfl
  ·rintro hp6 E_5
   refine Dep.nil ?_
   refine GuardOK.none rfl ?_
   exact OpV.toDx (opv_move rfl rfl) rfl
  ·rintro hp7 E_6 _ rfl _ rfl _ rfl
   refine Dep.nil ?_
   refine GuardOK.none rfl ?_
   exact OpV.mono (opv_call (cap := []) (impl_Sheet_at_ok _ _ _ _ _ _ (SL.up (SL.mod ge0_3 (Mod.lift (Mod.refl [] h0) E_6) (Nat.le_refl _) nob) (Nat.le_trans (Nat.le_refl _) (Mod.size (Mod.lift (Mod.refl [] h0) E_6)))) _ _ (SL.up (SL.mod ge0_4 (Mod.lift (Mod.refl [] h0) E_6) (Nat.le_refl _) nob) (Nat.le_trans (Nat.le_refl _) (Mod.size (Mod.lift (Mod.refl [] h0) E_6)))) _ _ _ hx1) rfl rfl ⟨rfl, rfl, rfl, trivial⟩ Try.func108 rfl rfl) (by rintro _ _ ⟨rfl, M_, T_⟩; exact ⟨Mod.ext M_, rfl, Sep.weak T_ (Ext.size E_6)⟩)
  ·rintro hp8 E_7 _ rfl _ ⟨rfl, T_1⟩
   refine Dep.nil ?_
   refine GuardOK.none rfl ?_
   exact OpV.toSx (opv_index rfl Try.underlying25 (by rw [Try.size29]; rfl) rfl rfl (SL.mod ge0_3 (Mod.lift (Mod.refl [] h0) E_7) (Nat.le_refl _) nob) hx2) (fun _ h => h)
  ·rintro hp9 E_8 v1 fv1
   refine Dep.nil ?_
   refine GuardOK.none rfl ?_
   exact OpV.toSx (opv_loadF rfl Try.one29 rfl fv1 (SL.mod ge0_3 (Mod.lift (Mod.refl [] h0) E_8) (Nat.le_refl _) nob) hx2) (fun _ h => h)
  ·rintro hp10 E_9 v2 fv2
   refine Dep.nil ?_
   refine GuardOK.none rfl ?_
   exact OpV.toDx (opv_fcmp rfl rfl rfl rfl fv2 (isF_lit .f32 0 (by decide) (by decide))) rfl
  ·rintro hp11 E_10 _ rfl
   refine Dep.nil ?_
   refine GuardOK.none rfl ?_
   exact OpV.toDx (opv_assign rfl rfl) rfl
 rintro hp12 E_11 _ rfl
 have X_2 := Mod.lift (Mod.refl [] h0) E_11
 have S_2 := Sep.ext (Sep.nil [] h0.size h0) E_11
 refine Dep.nil ?_
 show RL _ _ _ _ [] _ _
 refine RL.nil ?_
 refine thnN ?_
 refine W.ret ?_
 have er := Option.some.inj hp
 subst er
 exact Rt.one rfl rfl ⟨rfl, X_2, (Sep.nil _ _ _)⟩

set_option maxRecDepth 20000 in
theorem impl_cellsBy__impl_StillCells_1_ok (h0 : Heap) (a0_0 : Int) (a0_1 : Int) (a0_2 : Bool) (u0_3 : Value) (a0_3 : List (Option Nat)) (g0_3 : SL (kF .f32) h0.size h0 u0_3 a0_3) (u0_4 : Value) (a0_4 : List (Option Nat)) (g0_4 : SL (kF .f32) h0.size h0 u0_4 a0_4) (be0 : Nat) (ae0_0 : Int) (ae0_1 : Int) (ae0_2 : Bool) (ue0_3 : Value) (ae0_3 : List (Option Nat)) (ge0_3 : SL (kF .f32) h0.size h0 ue0_3 ae0_3) (ue0_4 : Value) (ae0_4 : List (Option Nat)) (ge0_4 : SL (kF .f32) h0.size h0 ue0_4 ae0_4) (Ge0 : Bx h0 be0 [(.int .i64 ae0_0), (.int .i64 ae0_1), (.bool ae0_2), ue0_3, ue0_4]) (r : List (Int)) (hp : impl_cellsBy__impl_StillCells_1 a0_0 a0_1 a0_2 a0_3 a0_4 ae0_0 ae0_1 ae0_2 ae0_3 ae0_4 = some r) : CallsH Try.prog 106 ([(.agg (List.toArray (α := Value) [(.int .i64 a0_0), (.int .i64 a0_1), (.bool a0_2), u0_3, u0_4])), (.func (.func 107) #[] (List.toArray (α := Value) [(.pointer (some ⟨be0, 0, none⟩))]))].toArray ++ [].toArray) h0 (fun v h' => Mod [] h0 h' ∧ Sep [] h0.size h' [ownO (kI .i64) 2 v r]) := by
 unfold impl_cellsBy__impl_StillCells_1 at hp
 refine callsH_of_W (l := [(.agg (List.toArray (α := Value) [(.int .i64 a0_0), (.int .i64 a0_1), (.bool a0_2), u0_3, u0_4])), (.func (.func 107) #[] (List.toArray (α := Value) [(.pointer (some ⟨be0, 0, none⟩))]))]) (cap := []) 33 Try.func106 rfl rfl rfl ?_
 refine W.seq ?_
 refine W.region ?_
 refine RL.op _ (by decide) (opS_boxed (opv_boxA (cs := [(.int .i64 a0_0), (.int .i64 a0_1), (.bool a0_2), u0_3, u0_4]) rfl rfl)) ?_
 rintro _ hp1 ⟨bb1, rfl, MT_1, T_1⟩
 obtain ⟨X_1, S_1⟩ := Sep.turn0 (Mod.refl [] h0) (Sep.nil [] h0.size h0) MT_1 T_1
 refine RL.opD (by decide) (opv_assign rfl rfl) ?_
 have S_2 : Sep [] h0.size hp1 [ownO (kI .i64) 2 (.slice none 0 0) ([] : List (Int)), boxO bb1 [(.int .i64 a0_0), (.int .i64 a0_1), (.bool a0_2), u0_3, u0_4]] := Sep.addNil S_1
 refine RL.nil ?_
 refine thnN ?_
 refine W.seq ?_
 refine W.region ?_
 refine RL.op _ (by decide) (opS_lit0 (K := (kI .i64)) rfl Try.underlying71 Try.isinfo2) ?_
 rintro v1 hp2 ⟨MT_2, T_2⟩
 obtain ⟨X_2, S_3⟩ := Sep.turn0 X_1 S_2 MT_2 T_2
 refine RL.opD (by decide) (opv_assign rfl rfl) ?_
 refine RL.nil ?_
 refine thnN ?_
 refine W.seq ?_
 refine W.seq ?_
 refine W.region ?_
 refine RL.opD (by decide) (opv_fieldAddr rfl Try.fo33_1 rfl) ?_
 refine RL.opD (by decide) (opv_loadB rfl Try.one2 rfl (Sep.at (o := boxO bb1 [(.int .i64 a0_0), (.int .i64 a0_1), (.bool a0_2), u0_3, u0_4]) S_3 2 rfl) rfl) ?_
 refine RL.opD (by decide) (opv_move rfl rfl) ?_
 refine RL.nil ?_
 refine thnN ?_
 obtain ⟨y1, hy1, hp⟩ := Option.bind_eq_some_iff.1 hp
 refine W.cut (fun φ' h' => ∃ x3, ∃ x4, ∃ x5, ∃ v3, y1 = (x3, x4, x5) ∧ Fr.sub [(0, (.agg (List.toArray (α := Value) [(.int .i64 a0_0), (.int .i64 a0_1), (.bool a0_2), u0_3, u0_4]))), (1, (.func (.func 107) #[] (List.toArray (α := Value) [(.pointer (some ⟨be0, 0, none⟩))]))), (2, (.pointer (some ⟨bb1, 0, none⟩))), (4, (.slice none 0 0)), (10, (.int .i64 a0_1)), (11, (.int .i64 x3)), (12, (.bool x4)), (5, v3)] φ' ∧ Mod [] h0 h' ∧ Sep [] h0.size h' [ownO (kI .i64) 2 (.slice none 0 0) ([] : List (Int)), boxO bb1 [(.int .i64 a0_0), (.int .i64 a0_1), (.bool a0_2), u0_3, u0_4], ownO (kI .i64) 2 v3 x5]) ?_ ?_
 ·refine W.block ?_
  refine W.loopS (fun (s : ((List (Int)) × Int)) φ' h' => ∃ v2, Fr.sub [(0, (.agg (List.toArray (α := Value) [(.int .i64 a0_0), (.int .i64 a0_1), (.bool a0_2), u0_3, u0_4]))), (1, (.func (.func 107) #[] (List.toArray (α := Value) [(.pointer (some ⟨be0, 0, none⟩))]))), (2, (.pointer (some ⟨bb1, 0, none⟩))), (4, (.slice none 0 0)), (10, (.int .i64 a0_1)), (5, v2), (11, (.int .i64 s.2))] φ' ∧ Mod [] h0 h' ∧ Sep [] h0.size h' [ownO (kI .i64) 2 v2 s.1, ownO (kI .i64) 2 (.slice none 0 0) ([] : List (Int)), boxO bb1 [(.int .i64 a0_0), (.int .i64 a0_1), (.bool a0_2), u0_3, u0_4]]) hy1 ⟨v1, ⟨rfl, rfl, rfl, rfl, rfl, rfl, rfl, trivial⟩, X_2, (Sep.sel S_3 [0, 1, 2] (by decide))⟩ ?_
  rintro ⟨x1, x2⟩ φ' hp3 o1 ⟨v2, hs1, X_3, S_4⟩ ho1 hy1
  have hs1 : Fr.sub [(0, (.agg (List.toArray (α := Value) [(.int .i64 a0_0), (.int .i64 a0_1), (.bool a0_2), u0_3, u0_4]))), (1, (.func (.func 107) #[] (List.toArray (α := Value) [(.pointer (some ⟨be0, 0, none⟩))]))), (2, (.pointer (some ⟨bb1, 0, none⟩))), (4, (.slice none 0 0)), (10, (.int .i64 a0_1)), (5, v2), (11, (.int .i64 x2))] φ' := hs1
  have S_4 : Sep [] h0.size hp3 [ownO (kI .i64) 2 v2 x1, ownO (kI .i64) 2 (.slice none 0 0) ([] : List (Int)), boxO bb1 [(.int .i64 a0_0), (.int .i64 a0_1), (.bool a0_2), u0_3, u0_4]] := S_4
  have ho1 : impl_cellsBy__impl_StillCells_1.s0 a0_0 a0_1 a0_2 a0_3 a0_4 ae0_0 ae0_1 ae0_2 ae0_3 ae0_4 x1 x2 = some o1 := ho1
  unfold impl_cellsBy__impl_StillCells_1.s0 at ho1
  refine W.sub hs1 ?_
  refine W.seq ?_
  refine W.region ?_
  refine RL.opD (by decide) (opv_icmp rfl rfl rfl rfl) ?_
  refine RL.nil ?_
  refine thnN ?_
  refine W.seq ?_
  by_cases c1 : (decide (x2 < a0_1)) = true
  ·rw [if_pos c1] at ho1
   refine W.condT rfl c1 ?_
   refine W.skip ?_
   refine thnN ?_
   refine W.seq ?_
   refine W.block ?_
   refine W.seq ?_
   refine W.region ?_
   refine RL.opD (by decide) (opv_move rfl rfl) ?_
   refine RL.opD (by decide) (opv_assign rfl rfl) ?_
   refine RL.nil ?_
   refine thnN ?_
   refine W.seq ?_
   refine W.region ?_
   refine RL.opD (by decide) (opv_fieldAddr rfl Try.fo33_0 rfl) ?_
   refine RL.opD (by decide) (opv_loadB rfl Try.one2 rfl (Sep.at (o := boxO bb1 [(.int .i64 a0_0), (.int .i64 a0_1), (.bool a0_2), u0_3, u0_4]) S_4 2 rfl) rfl) ?_
   refine RL.opD (by decide) (opv_move rfl rfl) ?_
   refine RL.nil ?_
   refine thnN ?_
   obtain ⟨y2, hy2, ho1⟩ := Option.bind_eq_some_iff.1 ho1
   refine W.cut (fun φ' h' => ∃ x8, ∃ x9, ∃ x10, ∃ v5, y2 = (x8, x9, x10) ∧ Fr.sub [(0, (.agg (List.toArray (α := Value) [(.int .i64 a0_0), (.int .i64 a0_1), (.bool a0_2), u0_3, u0_4]))), (1, (.func (.func 107) #[] (List.toArray (α := Value) [(.pointer (some ⟨be0, 0, none⟩))]))), (2, (.pointer (some ⟨bb1, 0, none⟩))), (4, (.slice none 0 0)), (10, (.int .i64 a0_1)), (11, (.int .i64 x2)), (12, (.bool (decide (x2 < a0_1)))), (6, (.int .i64 x2)), (15, (.int .i64 a0_0)), (16, (.int .i64 x8)), (17, (.bool x9)), (5, v5)] φ' ∧ Mod [] h0 h' ∧ Sep [] h0.size h' [ownO (kI .i64) 2 (.slice none 0 0) ([] : List (Int)), boxO bb1 [(.int .i64 a0_0), (.int .i64 a0_1), (.bool a0_2), u0_3, u0_4], ownO (kI .i64) 2 v5 x10]) ?_ ?_
   ·refine W.block ?_
    refine W.loopS (fun (s : ((List (Int)) × Int)) φ' h' => ∃ v4, Fr.sub [(0, (.agg (List.toArray (α := Value) [(.int .i64 a0_0), (.int .i64 a0_1), (.bool a0_2), u0_3, u0_4]))), (1, (.func (.func 107) #[] (List.toArray (α := Value) [(.pointer (some ⟨be0, 0, none⟩))]))), (2, (.pointer (some ⟨bb1, 0, none⟩))), (4, (.slice none 0 0)), (10, (.int .i64 a0_1)), (11, (.int .i64 x2)), (12, (.bool (decide (x2 < a0_1)))), (6, (.int .i64 x2)), (15, (.int .i64 a0_0)), (5, v4), (16, (.int .i64 s.2))] φ' ∧ Mod [] h0 h' ∧ Sep [] h0.size h' [ownO (kI .i64) 2 v4 s.1, ownO (kI .i64) 2 (.slice none 0 0) ([] : List (Int)), boxO bb1 [(.int .i64 a0_0), (.int .i64 a0_1), (.bool a0_2), u0_3, u0_4]]) hy2 ⟨v2, ⟨rfl, rfl, rfl, rfl, rfl, rfl, rfl, rfl, rfl, rfl, rfl, trivial⟩, X_3, (Sep.sel S_4 [0, 1, 2] (by decide))⟩ ?_
    rintro ⟨x6, x7⟩ φ' hp4 o2 ⟨v4, hs3, X_4, S_5⟩ ho2 hy2
    have hs3 : Fr.sub [(0, (.agg (List.toArray (α := Value) [(.int .i64 a0_0), (.int .i64 a0_1), (.bool a0_2), u0_3, u0_4]))), (1, (.func (.func 107) #[] (List.toArray (α := Value) [(.pointer (some ⟨be0, 0, none⟩))]))), (2, (.pointer (some ⟨bb1, 0, none⟩))), (4, (.slice none 0 0)), (10, (.int .i64 a0_1)), (11, (.int .i64 x2)), (12, (.bool (decide (x2 < a0_1)))), (6, (.int .i64 x2)), (15, (.int .i64 a0_0)), (5, v4), (16, (.int .i64 x7))] φ' := hs3
    have S_5 : Sep [] h0.size hp4 [ownO (kI .i64) 2 v4 x6, ownO (kI .i64) 2 (.slice none 0 0) ([] : List (Int)), boxO bb1 [(.int .i64 a0_0), (.int .i64 a0_1), (.bool a0_2), u0_3, u0_4]] := S_5
    have ho2 : impl_cellsBy__impl_StillCells_1.s1 a0_0 a0_1 a0_2 a0_3 a0_4 ae0_0 ae0_1 ae0_2 ae0_3 ae0_4 x2 x6 x7 = some o2 := ho2
    unfold impl_cellsBy__impl_StillCells_1.s1 at ho2
    refine W.sub hs3 ?_
    refine W.seq ?_
    refine W.region ?_
    refine RL.opD (by decide) (opv_icmp rfl rfl rfl rfl) ?_
    refine RL.nil ?_
    refine thnN ?_
    refine W.seq ?_
    by_cases c2 : (decide (x7 < a0_0)) = true
    ·rw [if_pos c2] at ho2
     refine W.condT rfl c2 ?_
     refine W.skip ?_
     refine thnN ?_
     refine W.seq ?_
     refine W.block ?_
     refine W.seq ?_
     refine W.region ?_
     refine RL.opD (by decide) (opv_move rfl rfl) ?_
     refine RL.opD (by decide) (opv_assign rfl rfl) ?_
     refine RL.nil ?_
     refine thnN ?_
     refine W.seq ?_
     refine W.region ?_
     refine RL.opD (by decide) (opv_move rfl rfl) ?_
     refine RL.opD (by decide) (opv_move rfl rfl) ?_
     refine RL.opD (by decide) (opv_move rfl rfl) ?_
     obtain ⟨x11, hx11, ho2⟩ := Option.bind_eq_some_iff.1 ho2
     refine RL.op _ (by decide) (opv_call (cap := [(.pointer (some ⟨be0, 0, none⟩))]) (impl_StillCells_1_ok _ _ _ _ _ _ _ _ _ (SL.up (SL.mod ge0_3 X_4 (Nat.le_refl _) nob) (Nat.le_trans (Nat.le_refl _) (Mod.size X_4))) _ _ (SL.up (SL.mod ge0_4 X_4 (Nat.le_refl _) nob) (Nat.le_trans (Nat.le_refl _) (Mod.size X_4))) (Bx.mod Ge0 X_4 nobB) _ hx11) rfl rfl ⟨rfl, rfl, trivial⟩ Try.func107 rfl rfl) ?_
     rintro _ hp5 ⟨rfl, MT_3, T_3⟩
     obtain ⟨X_5, S_6⟩ := Sep.turn0 X_4 S_5 MT_3 T_3
     refine RL.nil ?_
     refine thnN ?_
     obtain ⟨x12, hy3, ho2⟩ := Option.bind_eq_some_iff.1 ho2
     refine W.cut (fun φ' h' => ∃ v6, Fr.sub [(0, (.agg (List.toArray (α := Value) [(.int .i64 a0_0), (.int .i64 a0_1), (.bool a0_2), u0_3, u0_4]))), (1, (.func (.func 107) #[] (List.toArray (α := Value) [(.pointer (some ⟨be0, 0, none⟩))]))), (2, (.pointer (some ⟨bb1, 0, none⟩))), (4, (.slice none 0 0)), (10, (.int .i64 a0_1)), (11, (.int .i64 x2)), (12, (.bool (decide (x2 < a0_1)))), (6, (.int .i64 x2)), (15, (.int .i64 a0_0)), (16, (.int .i64 x7)), (17, (.bool (decide (x7 < a0_0)))), (7, (.int .i64 x7)), (22, (.bool x11)), (5, v6)] φ' ∧ Mod [] h0 h' ∧ Sep [] h0.size h' [ownO (kI .i64) 2 (.slice none 0 0) ([] : List (Int)), boxO bb1 [(.int .i64 a0_0), (.int .i64 a0_1), (.bool a0_2), u0_3, u0_4], ownO (kI .i64) 2 v6 x12]) ?_ ?_
     ·by_cases c3 : x11 = true
      ·rw [if_pos c3] at hy3
       refine W.condT rfl c3 ?_
       refine W.region ?_
       refine RL.opD (by decide) (opv_move rfl rfl) ?_
       refine RL.opD (by decide) (opv_loadA (us := [(.int .i64 a0_0), (.int .i64 a0_1), (.bool a0_2), u0_3, u0_4]) rfl Try.agg33 Try.size33 rfl (Sep.at (o := boxO bb1 [(.int .i64 a0_0), (.int .i64 a0_1), (.bool a0_2), u0_3, u0_4]) S_6 2 rfl) rfl rfl) ?_
       refine RL.opD (by decide) (opv_move rfl rfl) ?_
       refine RL.opD (by decide) (opv_move rfl rfl) ?_
       obtain ⟨x13, hx13, hy3⟩ := Option.bind_eq_some_iff.1 hy3
       refine RL.op _ (by decide) (opv_call (cap := []) (impl_Sheet_at_ok _ _ _ _ _ _ (SL.up (SL.mod g0_3 X_5 (Nat.le_refl _) nob) (Nat.le_trans (Nat.le_refl _) (Mod.size X_5))) _ _ (SL.up (SL.mod g0_4 X_5 (Nat.le_refl _) nob) (Nat.le_trans (Nat.le_refl _) (Mod.size X_5))) _ _ _ hx13) rfl rfl ⟨rfl, rfl, rfl, trivial⟩ Try.func108 rfl rfl) ?_
       rintro _ hp6 ⟨rfl, MT_4, T_4⟩
       obtain ⟨X_6, S_7⟩ := Sep.turn0 X_5 S_6 MT_4 T_4
       refine RL.op _ (by decide) (opS_lit1 (K := (kI .i64)) (z := x13) rfl Try.underlying71 Try.einfo2 rfl rfl rfl rfl rfl) ?_
       rintro v7 hp7 ⟨MT_5, T_5⟩
       obtain ⟨X_7, S_8⟩ := Sep.turn0 X_6 S_7 MT_5 T_5
       obtain ⟨c4, hy3⟩ := of_ite hy3
       refine RL.op _ (by decide) (opS_append (K := (kI .i64)) rfl Try.underlying71 Try.einfo2 rfl rfl rfl rfl (Sep.at (o := ownO (kI .i64) 2 v4 x6) S_8 1 rfl) (ownO.read (Sep.at (o := ownO (kI .i64) 2 v7 [x13]) S_8 0 rfl)) (by decide) (by decide) c4) ?_
       rintro v8 hp8 ⟨MT_6, T_6⟩
       have S_9 : Sep [] h0.size hp7 ([ownO (kI .i64) 2 v4 x6] ++ [ownO (kI .i64) 2 v7 [x13], ownO (kI .i64) 2 (.slice none 0 0) ([] : List (Int)), boxO bb1 [(.int .i64 a0_0), (.int .i64 a0_1), (.bool a0_2), u0_3, u0_4]]) := Sep.sel S_8 [1, 0, 2, 3] (by decide)
       obtain ⟨X_8, S_10⟩ := Sep.turn X_7 S_9 MT_6 T_6
       refine RL.opD (by decide) (opv_assign rfl rfl) ?_
       refine RL.nil ?_
       have ey3 := Option.some.inj hy3
       subst ey3
       refine onlyN ?_
       exact ⟨v8, ⟨rfl, rfl, rfl, rfl, rfl, rfl, rfl, rfl, rfl, rfl, rfl, rfl, rfl, rfl, trivial⟩, X_8, (Sep.sel S_10 [2, 3, 0] (by decide))⟩
      ·rw [if_neg c3] at hy3
       have c3 := eq_false_of_ne_true c3
       refine W.condF rfl c3 ?_
       refine W.skip ?_
       have ey3 := Option.some.inj hy3
       subst ey3
       refine onlyN ?_
       exact ⟨v4, ⟨rfl, rfl, rfl, rfl, rfl, rfl, rfl, rfl, rfl, rfl, rfl, rfl, rfl, rfl, trivial⟩, X_5, (Sep.sel S_6 [1, 2, 0] (by decide))⟩
     rintro φ' hp9 ⟨v6, hs5, X_9, S_11⟩
     refine blkN ?_
     refine thnN ?_
     refine W.sub hs5 ?_
     refine W.region ?_
     refine RL.opD (by decide) (opv_add rfl rfl rfl) ?_
     refine RL.opD (by decide) (opv_move rfl rfl) ?_
     refine RL.nil ?_
     have eo2 := Option.some.inj ho2
     subst eo2
     refine rndN (s' := (x12, IntKind.wrap .i64 (x7 + 1))) rfl ?_
     exact ⟨v6, ⟨rfl, rfl, rfl, rfl, rfl, rfl, rfl, rfl, rfl, rfl, rfl, trivial⟩, X_9, (Sep.sel S_11 [2, 0, 1] (by decide))⟩
    ·rw [if_neg c2] at ho2
     have c2 := eq_false_of_ne_true c2
     refine W.condF rfl c2 ?_
     refine W.exit ?_
     refine thnX ?_
     refine rndX ?_
     refine blkI ?_
     have eo2 := Option.some.inj ho2
     subst eo2
     have ey2 := hy2 _ rfl
     subst ey2
     refine onlyN ?_
     exact ⟨x7, decide (x7 < a0_0), x6, v4, rfl, ⟨rfl, rfl, rfl, rfl, rfl, rfl, rfl, rfl, rfl, rfl, rfl, rfl, trivial⟩, X_4, (Sep.sel S_5 [1, 2, 0] (by decide))⟩
   rintro φ' hp10 ⟨x8, x9, x10, v5, rfl, hs4, X_10, S_12⟩
   try dsimp only at ho1
   refine blkN ?_
   refine thnN ?_
   refine W.sub hs4 ?_
   refine W.region ?_
   refine RL.opD (by decide) (opv_add rfl rfl rfl) ?_
   refine RL.opD (by decide) (opv_move rfl rfl) ?_
   refine RL.nil ?_
   have eo1 := Option.some.inj ho1
   subst eo1
   refine rndN (s' := (x10, IntKind.wrap .i64 (x2 + 1))) rfl ?_
   exact ⟨v5, ⟨rfl, rfl, rfl, rfl, rfl, rfl, rfl, trivial⟩, X_10, (Sep.sel S_12 [2, 0, 1] (by decide))⟩
  ·rw [if_neg c1] at ho1
   have c1 := eq_false_of_ne_true c1
   refine W.condF rfl c1 ?_
   refine W.exit ?_
   refine thnX ?_
   refine rndX ?_
   refine blkI ?_
   have eo1 := Option.some.inj ho1
   subst eo1
   have ey1 := hy1 _ rfl
   subst ey1
   refine onlyN ?_
   exact ⟨x2, decide (x2 < a0_1), x1, v2, rfl, ⟨rfl, rfl, rfl, rfl, rfl, rfl, rfl, rfl, trivial⟩, X_3, (Sep.sel S_4 [1, 2, 0] (by decide))⟩
 rintro φ' hp11 ⟨x3, x4, x5, v3, rfl, hs2, X_11, S_13⟩
 try dsimp only at hp
 refine thnN ?_
 refine W.sub hs2 ?_
 refine W.seq ?_
 refine W.region ?_
 refine RL.opD (by decide) (opv_move rfl rfl) ?_
 refine RL.opD (by decide) (opv_assign rfl rfl) ?_
 refine RL.nil ?_
 refine thnN ?_
 refine W.ret ?_
 have er := Option.some.inj hp
 subst er
 exact Rt.one rfl rfl ⟨X_11, (Sep.sel S_13 [2] (by decide))⟩

set_option maxRecDepth 20000 in
theorem impl_StillCells_ok (h0 : Heap) (a0_0 : Int) (a0_1 : Int) (a0_2 : Bool) (u0_3 : Value) (a0_3 : List (Option Nat)) (g0_3 : SL (kF .f32) h0.size h0 u0_3 a0_3) (u0_4 : Value) (a0_4 : List (Option Nat)) (g0_4 : SL (kF .f32) h0.size h0 u0_4 a0_4) (r : ((List (Int)) × Bool)) (hp : impl_StillCells a0_0 a0_1 a0_2 a0_3 a0_4 = some r) : CallsH Try.prog 43 ([(.agg (List.toArray (α := Value) [(.int .i64 a0_0), (.int .i64 a0_1), (.bool a0_2), u0_3, u0_4]))].toArray ++ [].toArray) h0 (fun v h' => ∃ w0, v = (.tuple (List.toArray (α := Value) [w0, (.bool r.2)])) ∧ Mod [] h0 h' ∧ Sep [] h0.size h' [ownO (kI .i64) 2 w0 r.1]) := by
 unfold impl_StillCells at hp
 refine callsH_of_W (l := [(.agg (List.toArray (α := Value) [(.int .i64 a0_0), (.int .i64 a0_1), (.bool a0_2), u0_3, u0_4]))]) (cap := []) 10 Try.func43 rfl rfl rfl ?_
 refine W.seq ?_
 refine W.region ?_
 refine RL.op _ (by decide) (opS_boxed (opv_boxA (cs := [(.int .i64 a0_0), (.int .i64 a0_1), (.bool a0_2), u0_3, u0_4]) rfl rfl)) ?_
 rintro _ hp1 ⟨bb1, rfl, MT_1, T_1⟩
 obtain ⟨X_1, S_1⟩ := Sep.turn0 (Mod.refl [] h0) (Sep.nil [] h0.size h0) MT_1 T_1
 refine RL.opD (by decide) (opv_assign rfl rfl) ?_
 have S_2 : Sep [] h0.size hp1 [ownO (kI .i64) 2 (.slice none 0 0) ([] : List (Int)), boxO bb1 [(.int .i64 a0_0), (.int .i64 a0_1), (.bool a0_2), u0_3, u0_4]] := Sep.addNil S_1
 refine RL.opD (by decide) (opv_assign rfl rfl) ?_
 refine RL.nil ?_
 refine thnN ?_
 refine W.seq ?_
 refine W.seq ?_
 refine W.region ?_
 refine RL.opD (by decide) (opv_loadA (us := [(.int .i64 a0_0), (.int .i64 a0_1), (.bool a0_2), u0_3, u0_4]) rfl Try.agg33 Try.size33 rfl (Sep.at (o := boxO bb1 [(.int .i64 a0_0), (.int .i64 a0_1), (.bool a0_2), u0_3, u0_4]) S_2 1 rfl) rfl rfl) ?_
 obtain ⟨x1, hx1, hp⟩ := Option.bind_eq_some_iff.1 hp
 refine RL.op _ (by decide) (opv_call (cap := []) (impl_ValidSheet_ok _ _ _ _ _ _ (SL.up (SL.mod g0_3 X_1 (Nat.le_refl _) nob) (Nat.le_trans (Nat.le_refl _) (Mod.size X_1))) _ _ (SL.up (SL.mod g0_4 X_1 (Nat.le_refl _) nob) (Nat.le_trans (Nat.le_refl _) (Mod.size X_1))) _ hx1) rfl rfl ⟨rfl, trivial⟩ Try.func45 rfl rfl) ?_
 rintro _ hp2 ⟨rfl, MT_2, T_2⟩
 obtain ⟨X_2, S_3⟩ := Sep.turn0 X_1 S_2 MT_2 T_2
 refine RL.opD (by decide) (opv_not rfl rfl) ?_
 refine RL.nil ?_
 refine thnN ?_
 by_cases c1 : (!x1) = true
 ·rw [if_pos c1] at hp
  refine W.condT rfl c1 ?_
  refine W.seq ?_
  refine W.region ?_
  refine RL.opD (by decide) (opv_assign rfl rfl) ?_
  have S_4 : Sep [] h0.size hp2 [ownO (kI .i64) 2 (.slice none 0 0) ([] : List (Int)), ownO (kI .i64) 2 (.slice none 0 0) ([] : List (Int)), boxO bb1 [(.int .i64 a0_0), (.int .i64 a0_1), (.bool a0_2), u0_3, u0_4]] := Sep.addNil S_3
  refine RL.opD (by decide) (opv_assign rfl rfl) ?_
  refine RL.nil ?_
  refine thnN ?_
  refine W.ret ?_
  refine thnR ?_
  have er := Option.some.inj hp
  subst er
  exact Rt.two rfl rfl rfl ⟨(.slice none 0 0), rfl, X_2, (Sep.sel S_4 [0] (by decide))⟩
 ·rw [if_neg c1] at hp
  have c1 := eq_false_of_ne_true c1
  refine W.condF rfl c1 ?_
  refine W.skip ?_
  refine thnN ?_
  refine W.seq ?_
  refine W.region ?_
  refine RL.opD (by decide) (opv_loadA (us := [(.int .i64 a0_0), (.int .i64 a0_1), (.bool a0_2), u0_3, u0_4]) rfl Try.agg33 Try.size33 rfl (Sep.at (o := boxO bb1 [(.int .i64 a0_0), (.int .i64 a0_1), (.bool a0_2), u0_3, u0_4]) S_3 1 rfl) rfl rfl) ?_
  refine RL.opD (by decide) (opv_makeFunc (vs := [(.pointer (some ⟨bb1, 0, none⟩))]) rfl ⟨rfl, trivial⟩) ?_
  obtain ⟨x2, hx2, hp⟩ := Option.bind_eq_some_iff.1 hp
  refine RL.op _ (by decide) (opv_call (cap := []) (impl_cellsBy__impl_StillCells_1_ok _ _ _ _ _ _ (SL.up (SL.mod g0_3 X_2 (Nat.le_refl _) nob) (Nat.le_trans (Nat.le_refl _) (Mod.size X_2))) _ _ (SL.up (SL.mod g0_4 X_2 (Nat.le_refl _) nob) (Nat.le_trans (Nat.le_refl _) (Mod.size X_2))) _ _ _ _ _ _ (SL.up (SL.mod g0_3 X_2 (Nat.le_refl _) nob) (Nat.le_trans (Nat.le_refl _) (Mod.size X_2))) _ _ (SL.up (SL.mod g0_4 X_2 (Nat.le_refl _) nob) (Nat.le_trans (Nat.le_refl _) (Mod.size X_2))) (Sep.at (o := boxO bb1 [(.int .i64 a0_0), (.int .i64 a0_1), (.bool a0_2), u0_3, u0_4]) S_3 1 rfl) _ hx2) rfl rfl ⟨rfl, rfl, trivial⟩ Try.func106 rfl rfl) ?_
  rintro v1 hp3 ⟨MT_3, T_3⟩
  obtain ⟨X_3, S_5⟩ := Sep.turn0 X_2 S_3 MT_3 T_3
  refine RL.opD (by decide) (opv_assign rfl rfl) ?_
  refine RL.opD (by decide) (opv_assign rfl rfl) ?_
  refine RL.nil ?_
  refine thnN ?_
  refine W.ret ?_
  have er := Option.some.inj hp
  subst er
  exact Rt.two rfl rfl rfl ⟨v1, rfl, X_3, (Sep.sel S_5 [0] (by decide))⟩

end Go.H
