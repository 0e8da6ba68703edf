/- Functions of the program: what each computes, as a plain function, and that the call comes to it. Written by a program (wip/gen). -/
import Derived.Test.YtohfgnjmgipehaaPGrid
import Derived.Test.YtohfgnjmgipehaaProg
import Derived.KernelRfl
set_option linter.unusedVariables false
namespace Go.H
open Go Go.Proofs



noncomputable def spec_StillCells.s0 (a0_3 : List (Option Nat)) (x2 : List (Int)) (x3 : Int) : Option (((List (Int)) × Int) ⊕ (Int × Bool × (List (Int)))) :=
  (if (decide (x3 < (a0_3.length : Int))) = true then ((idx a0_3 x3).bind fun (x7 : Option Nat) => (((if (fcmp .eql .f32 x7 (some 0)) = true then (if x2.length + [x3].length ≤ 1000000000 then some (x2 ++ [x3]) else none) else some x2) : Option (List (Int))).bind fun (x8 : List (Int)) => some (.inl (x8, IntKind.wrap .i64 (x3 + 1))))) else some (.inr (x3, decide (x3 < (a0_3.length : Int)), x2)))

noncomputable def spec_StillCells (a0_0 : Int) (a0_1 : Int) (a0_2 : Bool) (a0_3 : List (Option Nat)) (a0_4 : List (Option Nat)) : Option ((List (Int)) × Bool) :=
  ((spec_l02Is a0_0 a0_1 a0_2 a0_3 a0_4).bind fun (x1 : Bool) => (if (!x1) = true then some (([] : List (Int)), false) else ((loopF (fun (s : ((List (Int)) × Int)) => spec_StillCells.s0 a0_3 s.1 s.2) (([] : List (Int)), 0)).bind fun (⟨x4, x5, x6⟩ : (Int × Bool × (List (Int)))) => some (x6, true))))

noncomputable def impl_StillCells_1 (a0 : Int) (a1 : Int) (ae0_0 : Int) (ae0_1 : Int) (ae0_2 : Bool) (ae0_3 : List (Option Nat)) (ae0_4 : List (Option Nat)) : Option Bool :=
  ((impl_Sheet_at ae0_0 ae0_1 ae0_2 ae0_3 ae0_4 a0 a1).bind fun (x1 : Int) => ((idx ae0_3 x1).bind fun (x2 : Option Nat) => some (fcmp .eql .f32 x2 (some 0))))

noncomputable def impl_cellsBy__impl_StillCells_1.s1 (a0_0 : Int) (a0_1 : Int) (a0_2 : Bool) (a0_3 : List (Option Nat)) (a0_4 : List (Option Nat)) (ae0_0 : Int) (ae0_1 : Int) (ae0_2 : Bool) (ae0_3 : List (Option Nat)) (ae0_4 : List (Option Nat)) (x2 : Int) (x6 : List (Int)) (x7 : Int) : Option (((List (Int)) × Int) ⊕ (Int × Bool × (List (Int)))) :=
  (if (decide (x7 < a0_0)) = true then ((impl_StillCells_1 x7 x2 ae0_0 ae0_1 ae0_2 ae0_3 ae0_4).bind fun (x11 : Bool) => (((if x11 = true then ((impl_Sheet_at a0_0 a0_1 a0_2 a0_3 a0_4 x7 x2).bind fun (x13 : Int) => (if x6.length + [x13].length ≤ 1000000000 then some (x6 ++ [x13]) else none)) else some x6) : Option (List (Int))).bind fun (x12 : List (Int)) => some (.inl (x12, IntKind.wrap .i64 (x7 + 1))))) else some (.inr (x7, decide (x7 < a0_0), x6)))

noncomputable def impl_cellsBy__impl_StillCells_1.s0 (a0_0 : Int) (a0_1 : Int) (a0_2 : Bool) (a0_3 : List (Option Nat)) (a0_4 : List (Option Nat)) (ae0_0 : Int) (ae0_1 : Int) (ae0_2 : Bool) (ae0_3 : List (Option Nat)) (ae0_4 : List (Option Nat)) (x1 : List (Int)) (x2 : Int) : Option (((List (Int)) × Int) ⊕ (Int × Bool × (List (Int)))) :=
  (if (decide (x2 < a0_1)) = true then ((loopF (fun (s : ((List (Int)) × Int)) => impl_cellsBy__impl_StillCells_1.s1 a0_0 a0_1 a0_2 a0_3 a0_4 ae0_0 ae0_1 ae0_2 ae0_3 ae0_4 x2 s.1 s.2) (x1, 0)).bind fun (⟨x8, x9, x10⟩ : (Int × Bool × (List (Int)))) => some (.inl (x10, IntKind.wrap .i64 (x2 + 1)))) else some (.inr (x2, decide (x2 < a0_1), x1)))

noncomputable def impl_cellsBy__impl_StillCells_1 (a0_0 : Int) (a0_1 : Int) (a0_2 : Bool) (a0_3 : List (Option Nat)) (a0_4 : List (Option Nat)) (ae0_0 : Int) (ae0_1 : Int) (ae0_2 : Bool) (ae0_3 : List (Option Nat)) (ae0_4 : List (Option Nat)) : Option (List (Int)) :=
  ((loopF (fun (s : ((List (Int)) × Int)) => impl_cellsBy__impl_StillCells_1.s0 a0_0 a0_1 a0_2 a0_3 a0_4 ae0_0 ae0_1 ae0_2 ae0_3 ae0_4 s.1 s.2) (([] : List (Int)), 0)).bind fun (⟨x3, x4, x5⟩ : (Int × Bool × (List (Int)))) => some x5)

noncomputable def impl_StillCells (a0_0 : Int) (a0_1 : Int) (a0_2 : Bool) (a0_3 : List (Option Nat)) (a0_4 : List (Option Nat)) : Option ((List (Int)) × Bool) :=
  ((impl_ValidSheet a0_0 a0_1 a0_2 a0_3 a0_4).bind fun (x1 : Bool) => (if (!x1) = true then some (([] : List (Int)), false) else ((impl_cellsBy__impl_StillCells_1 a0_0 a0_1 a0_2 a0_3 a0_4 a0_0 a0_1 a0_2 a0_3 a0_4).bind fun (x2 : List (Int)) => some (x2, true))))

noncomputable def laws_FnExactStillCells (a0_0 : Int) (a0_1 : Int) (a0_2 : Bool) (a0_3 : List (Option Nat)) (a0_4 : List (Option Nat)) : Option Bool :=
  ((laws_szSheet a0_0 a0_1 a0_2 a0_3 a0_4 1048576).bind fun (x1 : Int) => (if (decide (x1 < 0)) = true then some true else ((laws_toSheet a0_0 a0_1 a0_2 a0_3 a0_4).bind fun (x2 : (Int × Int × Bool × (List (Option Nat)) × (List (Option Nat)))) => ((spec_StillCells x2.1 x2.2.1 x2.2.2.1 x2.2.2.2.1 x2.2.2.2.2).bind fun (x3 : ((List (Int)) × Bool)) => ((laws_toSheet a0_0 a0_1 a0_2 a0_3 a0_4).bind fun (x4 : (Int × Int × Bool × (List (Option Nat)) × (List (Option Nat)))) => ((impl_StillCells x4.1 x4.2.1 x4.2.2.1 x4.2.2.2.1 x4.2.2.2.2).bind fun (x5 : ((List (Int)) × Bool)) => ((((laws_eqInt64S x5.1 x3.1).bind fun (x7 : Bool) => (if (!x7) = true then some true else some (x5.2 != x3.2))) : Option Bool).bind fun (x6 : Bool) => (if x6 = true then some false else ((laws_toSheet a0_0 a0_1 a0_2 a0_3 a0_4).bind fun (x8 : (Int × Int × Bool × (List (Option Nat)) × (List (Option Nat)))) => ((laws_eqSheet x4.1 x4.2.1 x4.2.2.1 x4.2.2.2.1 x4.2.2.2.2 x8.1 x8.2.1 x8.2.2.1 x8.2.2.2.1 x8.2.2.2.2).bind fun (x9 : Bool) => (if (!x9) = true then some false else ((laws_markSheet x4.1 x4.2.1 x4.2.2.1 x4.2.2.2.1 x4.2.2.2.2 1).bind fun (x10 : (Int × (List (Option Nat)) × (List (Option Nat)))) => (((if (decide (x10.1 < 0)) = true then some true else ((laws_eqInt64S x5.1 x3.1).bind fun (x12 : Bool) => (if (!x12) = true then some true else some (x5.2 != x3.2)))) : Option Bool).bind fun (x11 : Bool) => (if x11 = true then some false else ((laws_markInt64S x5.1 1).bind fun (x13 : (Int × (List (Int)))) => ((laws_heldInt64S x13.2 1).bind fun (x14 : Int) => (if (decide (x14 < 0)) = true then some false else (if (x14 != x13.1) = true then some false else ((laws_toSheet a0_0 a0_1 a0_2 a0_3 a0_4).bind fun (x15 : (Int × Int × Bool × (List (Option Nat)) × (List (Option Nat)))) => ((impl_StillCells x15.1 x15.2.1 x15.2.2.1 x15.2.2.2.1 x15.2.2.2.2).bind fun (x16 : ((List (Int)) × Bool)) => ((((laws_eqInt64S x16.1 x3.1).bind fun (x18 : Bool) => (if (!x18) = true then some true else some (x16.2 != x3.2))) : Option Bool).bind fun (x17 : Bool) => (if x17 = true then some false else ((laws_heldInt64S x13.2 1).bind fun (x19 : Int) => (if (decide (x19 < 0)) = true then some false else (if (x19 != x13.1) = true then some false else some true)))))))))))))))))))))))))

set_option maxRecDepth 20000 in
theorem spec_StillCells_ok (h0 : Heap) (a0_0 : Int) (a0_1 : Int) (a0_2 : Bool) (u0_3 : Value) (a0_3 : List (Option Nat)) (g0_3 : SL (kF .f32) h0.size h0 u0_3 a0_3) (u0_4 : Value) (a0_4 : List (Option Nat)) (g0_4 : SL (kF .f32) h0.size h0 u0_4 a0_4) (r : ((List (Int)) × Bool)) (hp : spec_StillCells a0_0 a0_1 a0_2 a0_3 a0_4 = some r) : CallsH Try.prog 41 ([(.agg (List.toArray (α := Value) [(.int .i64 a0_0), (.int .i64 a0_1), (.bool a0_2), u0_3, u0_4]))].toArray ++ [].toArray) h0 (fun v h' => ∃ w0, v = (.tuple (List.toArray (α := Value) [w0, (.bool r.2)])) ∧ Mod [] h0 h' ∧ Sep [] h0.size h' [ownO (kI .i64) 2 w0 r.1]) := by
  unfold spec_StillCells at hp
  refine callsH_of_W (l := [(.agg (List.toArray (α := Value) [(.int .i64 a0_0), (.int .i64 a0_1), (.bool a0_2), u0_3, u0_4]))]) (cap := []) 27 Try.func41 rfl rfl rfl ?_
  refine W.seq ?_
  refine W.region ?_
  refine RL.op _ (by decide) (opS_boxed (opv_boxA (cs := [(.int .i64 a0_0), (.int .i64 a0_1), (.bool a0_2), u0_3, u0_4]) rfl rfl)) ?_
  rintro _ hp1 ⟨bb1, rfl, MT_1, T_1⟩
  have X_1 : Mod [] h0 hp1 := Mod.step (A := []) (L := []) (Mod.refl [] h0) (Sep.nil [] h0.size h0) MT_1
  have S_1 : Sep [] h0.size hp1 [boxO bb1 [(.int .i64 a0_0), (.int .i64 a0_1), (.bool a0_2), u0_3, u0_4]] := Sep.step (A := []) (L := []) (Sep.nil [] h0.size h0) (Mod.size (Mod.refl [] h0)) MT_1 T_1
  refine RL.opD (by decide) (opv_assign rfl rfl) ?_
  have S_2 : Sep [] h0.size hp1 [ownO (kI .i64) 2 (.slice none 0 0) ([] : List (Int)), boxO bb1 [(.int .i64 a0_0), (.int .i64 a0_1), (.bool a0_2), u0_3, u0_4]] := Sep.addNil S_1
  refine RL.opD (by decide) (opv_assign rfl rfl) ?_
  refine RL.nil ?_
  refine thnN ?_
  refine W.seq ?_
  refine W.seq ?_
  obtain ⟨x1, hx1, hp⟩ := Option.bind_eq_some_iff.1 hp
  refine W.region ?_
  refine RL.op _ (by decide) (opv_call (cap := []) (spec_l02Is_ok _ _ _ _ _ _ _ (SL.up (SL.mod g0_3 X_1 (Nat.le_refl _) nob) (Nat.le_trans (Nat.le_refl _) (Mod.size X_1))) _ _ (SL.up (SL.mod g0_4 X_1 (Nat.le_refl _) nob) (Nat.le_trans (Nat.le_refl _) (Mod.size X_1))) (Sep.at (o := boxO bb1 [(.int .i64 a0_0), (.int .i64 a0_1), (.bool a0_2), u0_3, u0_4]) S_2 1 rfl) _ hx1) rfl rfl ⟨rfl, trivial⟩ Try.func74 rfl rfl) ?_
  rintro _ _ ⟨rfl, rfl⟩
  refine RL.opD (by decide) (opv_not rfl rfl) ?_
  refine RL.nil ?_
  refine thnN ?_
  by_cases c1 : (!x1) = true
  · rw [if_pos c1] at hp
    refine W.condT rfl c1 ?_
    refine W.seq ?_
    refine W.region ?_
    refine RL.opD (by decide) (opv_assign rfl rfl) ?_
    have S_3 : Sep [] h0.size hp1 [ownO (kI .i64) 2 (.slice none 0 0) ([] : List (Int)), ownO (kI .i64) 2 (.slice none 0 0) ([] : List (Int)), boxO bb1 [(.int .i64 a0_0), (.int .i64 a0_1), (.bool a0_2), u0_3, u0_4]] := Sep.addNil S_2
    refine RL.opD (by decide) (opv_assign rfl rfl) ?_
    refine RL.nil ?_
    refine thnN ?_
    refine W.ret ?_
    refine thnR ?_
    have er := Option.some.inj hp
    subst er
    exact Rt.two rfl rfl rfl ⟨(.slice none 0 0), rfl, X_1, (Sep.sel S_3 [0] (by decide))⟩
  · rw [if_neg c1] at hp
    have c1 := eq_false_of_ne_true c1
    refine W.condF rfl c1 ?_
    refine W.skip ?_
    refine thnN ?_
    refine W.seq ?_
    refine W.region ?_
    refine RL.op _ (by decide) (opS_lit0 (K := (kI .i64)) rfl Try.underlying60 Try.isinfo2) ?_
    rintro v1 hp2 ⟨MT_2, T_2⟩
    have X_2 : Mod [] h0 hp2 := Mod.step (A := []) (L := [ownO (kI .i64) 2 (.slice none 0 0) ([] : List (Int)), boxO bb1 [(.int .i64 a0_0), (.int .i64 a0_1), (.bool a0_2), u0_3, u0_4]]) X_1 S_2 MT_2
    have S_4 : Sep [] h0.size hp2 [ownO (kI .i64) 2 v1 ([] : List (Int)), ownO (kI .i64) 2 (.slice none 0 0) ([] : List (Int)), boxO bb1 [(.int .i64 a0_0), (.int .i64 a0_1), (.bool a0_2), u0_3, u0_4]] := Sep.step (A := []) (L := [ownO (kI .i64) 2 (.slice none 0 0) ([] : List (Int)), boxO bb1 [(.int .i64 a0_0), (.int .i64 a0_1), (.bool a0_2), u0_3, u0_4]]) S_2 (Mod.size X_1) MT_2 T_2
    refine RL.opD (by decide) (opv_assign rfl rfl) ?_
    refine RL.nil ?_
    refine thnN ?_
    refine W.seq ?_
    refine W.seq ?_
    refine W.region ?_
    refine RL.opD (by decide) (opv_fieldAddr rfl Try.fo29_3 rfl) ?_
    refine RL.opD (by decide) (opv_loadB rfl Try.one22 rfl (Sep.at (o := boxO bb1 [(.int .i64 a0_0), (.int .i64 a0_1), (.bool a0_2), u0_3, u0_4]) S_4 2 rfl) rfl) ?_
    refine RL.opD (by decide) (opv_len rfl Try.underlying22 rfl (SL.mod g0_3 X_2 (Nat.le_refl _) nob)) ?_
    refine RL.opD (by decide) (opv_move rfl rfl) ?_
    refine RL.nil ?_
    refine thnN ?_
    obtain ⟨y1, hy1, hp⟩ := Option.bind_eq_some_iff.1 hp
    refine W.cut (fun φ' h' => ∃ x4, ∃ x5, ∃ x6, ∃ v3, y1 = (x4, x5, x6) ∧ Fr.sub [(0, (.agg (List.toArray (α := Value) [(.int .i64 a0_0), (.int .i64 a0_1), (.bool a0_2), u0_3, u0_4]))), (1, (.pointer (some ⟨bb1, 0, none⟩))), (2, (.slice none 0 0)), (3, (.bool false)), (7, (.bool (!x1))), (11, (.int .i64 (a0_3.length : Int))), (12, (.int .i64 x4)), (13, (.bool x5)), (4, v3)] φ' ∧ Mod [] h0 h' ∧ Sep [] h0.size h' [ownO (kI .i64) 2 (.slice none 0 0) ([] : List (Int)), boxO bb1 [(.int .i64 a0_0), (.int .i64 a0_1), (.bool a0_2), u0_3, u0_4], ownO (kI .i64) 2 v3 x6]) ?_ ?_
    · refine W.block ?_
      refine W.loopS (fun (s : ((List (Int)) × Int)) φ' h' => ∃ v2, Fr.sub [(0, (.agg (List.toArray (α := Value) [(.int .i64 a0_0), (.int .i64 a0_1), (.bool a0_2), u0_3, u0_4]))), (1, (.pointer (some ⟨bb1, 0, none⟩))), (2, (.slice none 0 0)), (3, (.bool false)), (7, (.bool (!x1))), (11, (.int .i64 (a0_3.length : Int))), (4, v2), (12, (.int .i64 s.2))] φ' ∧ Mod [] h0 h' ∧ Sep [] h0.size h' [ownO (kI .i64) 2 v2 s.1, ownO (kI .i64) 2 (.slice none 0 0) ([] : List (Int)), boxO bb1 [(.int .i64 a0_0), (.int .i64 a0_1), (.bool a0_2), u0_3, u0_4]]) hy1 ⟨v1, ⟨rfl, rfl, rfl, rfl, rfl, rfl, rfl, rfl, trivial⟩, X_2, (Sep.sel S_4 [0, 1, 2] (by decide))⟩ ?_
      rintro ⟨x2, x3⟩ φ' hp3 o1 ⟨v2, hs1, X_3, S_5⟩ ho1 hy1
      have hs1 : Fr.sub [(0, (.agg (List.toArray (α := Value) [(.int .i64 a0_0), (.int .i64 a0_1), (.bool a0_2), u0_3, u0_4]))), (1, (.pointer (some ⟨bb1, 0, none⟩))), (2, (.slice none 0 0)), (3, (.bool false)), (7, (.bool (!x1))), (11, (.int .i64 (a0_3.length : Int))), (4, v2), (12, (.int .i64 x3))] φ' := hs1
      have S_5 : Sep [] h0.size hp3 [ownO (kI .i64) 2 v2 x2, ownO (kI .i64) 2 (.slice none 0 0) ([] : List (Int)), boxO bb1 [(.int .i64 a0_0), (.int .i64 a0_1), (.bool a0_2), u0_3, u0_4]] := S_5
      have ho1 : spec_StillCells.s0 a0_3 x2 x3 = some o1 := ho1
      unfold spec_StillCells.s0 at ho1
      refine W.sub hs1 ?_
      refine W.seq ?_
      refine W.region ?_
      refine RL.opD (by decide) (opv_icmp rfl rfl rfl rfl) ?_
      refine RL.nil ?_
      refine thnN ?_
      refine W.seq ?_
      by_cases c2 : (decide (x3 < (a0_3.length : Int))) = true
      · rw [if_pos c2] at ho1
        refine W.condT rfl c2 ?_
        refine W.skip ?_
        refine thnN ?_
        refine W.seq ?_
        refine W.block ?_
        refine W.seq ?_
        refine W.region ?_
        refine RL.opD (by decide) (opv_move rfl rfl) ?_
        refine RL.opD (by decide) (opv_assign rfl rfl) ?_
        refine RL.nil ?_
        refine thnN ?_
        refine W.seq ?_
        obtain ⟨x7, hx7, ho1⟩ := Option.bind_eq_some_iff.1 ho1
        refine W.region ?_
        refine RL.opD (by decide) (opv_fieldAddr rfl Try.fo29_3 rfl) ?_
        refine RL.opD (by decide) (opv_loadB rfl Try.one22 rfl (Sep.at (o := boxO bb1 [(.int .i64 a0_0), (.int .i64 a0_1), (.bool a0_2), u0_3, u0_4]) S_5 2 rfl) rfl) ?_
        refine RL.opD (by decide) (opv_move rfl rfl) ?_
        refine RL.op _ (by decide) (opv_index rfl Try.underlying22 (by rw [Try.size40]; rfl) rfl rfl (SL.mod g0_3 X_3 (Nat.le_refl _) nob) hx7) ?_
        rintro v4 _ ⟨fv4, rfl⟩
        refine RL.opF (by decide) (opv_loadF rfl Try.one40 rfl fv4 (SL.mod g0_3 X_3 (Nat.le_refl _) nob) hx7) ?_
        intro v5 fv5
        refine RL.opD (by decide) (opv_fcmp rfl rfl rfl rfl fv5 (isF_lit .f32 0 (by decide) (by decide))) ?_
        refine RL.nil ?_
        refine thnN ?_
        obtain ⟨x8, hy2, ho1⟩ := Option.bind_eq_some_iff.1 ho1
        refine W.cut (fun φ' h' => ∃ v6, Fr.sub [(0, (.agg (List.toArray (α := Value) [(.int .i64 a0_0), (.int .i64 a0_1), (.bool a0_2), u0_3, u0_4]))), (1, (.pointer (some ⟨bb1, 0, none⟩))), (2, (.slice none 0 0)), (3, (.bool false)), (7, (.bool (!x1))), (11, (.int .i64 (a0_3.length : Int))), (12, (.int .i64 x3)), (13, (.bool (decide (x3 < (a0_3.length : Int))))), (5, (.int .i64 x3)), (20, (.bool (fcmp .eql .f32 x7 (some 0)))), (4, v6)] φ' ∧ Mod [] h0 h' ∧ Sep [] h0.size h' [ownO (kI .i64) 2 (.slice none 0 0) ([] : List (Int)), boxO bb1 [(.int .i64 a0_0), (.int .i64 a0_1), (.bool a0_2), u0_3, u0_4], ownO (kI .i64) 2 v6 x8]) ?_ ?_
        · by_cases c3 : (fcmp .eql .f32 x7 (some 0)) = true
          · rw [if_pos c3] at hy2
            refine W.condT rfl c3 ?_
            obtain ⟨c4, hy2⟩ := of_ite hy2
            refine W.region ?_
            refine RL.opD (by decide) (opv_move rfl rfl) ?_
            refine RL.opD (by decide) (opv_move rfl rfl) ?_
            refine RL.op _ (by decide) (opS_lit1 (K := (kI .i64)) (z := x3) rfl Try.underlying60 Try.einfo2 rfl rfl rfl rfl rfl) ?_
            rintro v7 hp4 ⟨MT_3, T_3⟩
            have X_4 : Mod [] h0 hp4 := Mod.step (A := []) (L := [ownO (kI .i64) 2 v2 x2, ownO (kI .i64) 2 (.slice none 0 0) ([] : List (Int)), boxO bb1 [(.int .i64 a0_0), (.int .i64 a0_1), (.bool a0_2), u0_3, u0_4]]) X_3 S_5 MT_3
            have S_6 : Sep [] h0.size hp4 [ownO (kI .i64) 2 v7 [x3], ownO (kI .i64) 2 v2 x2, ownO (kI .i64) 2 (.slice none 0 0) ([] : List (Int)), boxO bb1 [(.int .i64 a0_0), (.int .i64 a0_1), (.bool a0_2), u0_3, u0_4]] := Sep.step (A := []) (L := [ownO (kI .i64) 2 v2 x2, ownO (kI .i64) 2 (.slice none 0 0) ([] : List (Int)), boxO bb1 [(.int .i64 a0_0), (.int .i64 a0_1), (.bool a0_2), u0_3, u0_4]]) S_5 (Mod.size X_3) MT_3 T_3
            refine RL.op _ (by decide) (opS_append (K := (kI .i64)) rfl Try.underlying60 Try.einfo2 rfl rfl rfl rfl (Sep.at (o := ownO (kI .i64) 2 v2 x2) S_6 1 rfl) (ownO.read (Sep.at (o := ownO (kI .i64) 2 v7 [x3]) S_6 0 rfl)) (by decide) (by decide) c4) ?_
            rintro v8 hp5 ⟨MT_4, T_4⟩
            have S_7 : Sep [] h0.size hp4 ([ownO (kI .i64) 2 v2 x2] ++ [ownO (kI .i64) 2 v7 [x3], ownO (kI .i64) 2 (.slice none 0 0) ([] : List (Int)), boxO bb1 [(.int .i64 a0_0), (.int .i64 a0_1), (.bool a0_2), u0_3, u0_4]]) := Sep.sel S_6 [1, 0, 2, 3] (by decide)
            have X_5 : Mod [] h0 hp5 := Mod.step (A := [ownO (kI .i64) 2 v2 x2]) (L := [ownO (kI .i64) 2 v7 [x3], ownO (kI .i64) 2 (.slice none 0 0) ([] : List (Int)), boxO bb1 [(.int .i64 a0_0), (.int .i64 a0_1), (.bool a0_2), u0_3, u0_4]]) X_4 S_7 MT_4
            have S_8 : Sep [] h0.size hp5 [ownO (kI .i64) 2 v8 (x2 ++ [x3]), ownO (kI .i64) 2 v7 [x3], ownO (kI .i64) 2 (.slice none 0 0) ([] : List (Int)), boxO bb1 [(.int .i64 a0_0), (.int .i64 a0_1), (.bool a0_2), u0_3, u0_4]] := Sep.step (A := [ownO (kI .i64) 2 v2 x2]) (L := [ownO (kI .i64) 2 v7 [x3], ownO (kI .i64) 2 (.slice none 0 0) ([] : List (Int)), boxO bb1 [(.int .i64 a0_0), (.int .i64 a0_1), (.bool a0_2), u0_3, u0_4]]) S_7 (Mod.size X_4) MT_4 T_4
            refine RL.opD (by decide) (opv_assign rfl rfl) ?_
            refine RL.nil ?_
            have ey2 := Option.some.inj hy2
            subst ey2
            refine onlyN ?_
            exact ⟨v8, ⟨rfl, rfl, rfl, rfl, rfl, rfl, rfl, rfl, rfl, rfl, rfl, trivial⟩, X_5, (Sep.sel S_8 [2, 3, 0] (by decide))⟩
          · rw [if_neg c3] at hy2
            have c3 := eq_false_of_ne_true c3
            refine W.condF rfl c3 ?_
            refine W.skip ?_
            have ey2 := Option.some.inj hy2
            subst ey2
            refine onlyN ?_
            exact ⟨v2, ⟨rfl, rfl, rfl, rfl, rfl, rfl, rfl, rfl, rfl, rfl, rfl, trivial⟩, X_3, (Sep.sel S_5 [1, 2, 0] (by decide))⟩
        rintro φ' hp6 ⟨v6, hs3, X_6, S_9⟩
        refine blkN ?_
        refine thnN ?_
        refine W.sub hs3 ?_
        refine W.region ?_
        refine RL.opD (by decide) (opv_add rfl rfl rfl) ?_
        refine RL.opD (by decide) (opv_move rfl rfl) ?_
        refine RL.nil ?_
        have eo1 := Option.some.inj ho1
        subst eo1
        refine rndN (s' := (x8, IntKind.wrap .i64 (x3 + 1))) rfl ?_
        exact ⟨v6, ⟨rfl, rfl, rfl, rfl, rfl, rfl, rfl, rfl, trivial⟩, X_6, (Sep.sel S_9 [2, 0, 1] (by decide))⟩
      · rw [if_neg c2] at ho1
        have c2 := eq_false_of_ne_true c2
        refine W.condF rfl c2 ?_
        refine W.exit ?_
        refine thnX ?_
        refine rndX ?_
        refine blkI ?_
        have eo1 := Option.some.inj ho1
        subst eo1
        have ey1 := hy1 _ rfl
        subst ey1
        refine onlyN ?_
        exact ⟨x3, decide (x3 < (a0_3.length : Int)), x2, v2, rfl, ⟨rfl, rfl, rfl, rfl, rfl, rfl, rfl, rfl, rfl, trivial⟩, X_3, (Sep.sel S_5 [1, 2, 0] (by decide))⟩
    rintro φ' hp7 ⟨x4, x5, x6, v3, rfl, hs2, X_7, S_10⟩
    try dsimp only at hp
    refine thnN ?_
    refine W.sub hs2 ?_
    refine W.seq ?_
    refine W.region ?_
    refine RL.opD (by decide) (opv_move rfl rfl) ?_
    refine RL.opD (by decide) (opv_assign rfl rfl) ?_
    refine RL.opD (by decide) (opv_assign rfl rfl) ?_
    refine RL.nil ?_
    refine thnN ?_
    refine W.ret ?_
    have er := Option.some.inj hp
    subst er
    exact Rt.two rfl rfl rfl ⟨v3, rfl, X_7, (Sep.sel S_10 [2] (by decide))⟩

set_option maxRecDepth 20000 in
theorem impl_StillCells_1_ok (h0 : Heap) (a0 : Int) (a1 : Int) (be0 : Nat) (ae0_0 : Int) (ae0_1 : Int) (ae0_2 : Bool) (ue0_3 : Value) (ae0_3 : List (Option Nat)) (ge0_3 : SL (kF .f32) h0.size h0 ue0_3 ae0_3) (ue0_4 : Value) (ae0_4 : List (Option Nat)) (ge0_4 : SL (kF .f32) h0.size h0 ue0_4 ae0_4) (Ge0 : Bx h0 be0 [(.int .i64 ae0_0), (.int .i64 ae0_1), (.bool ae0_2), ue0_3, ue0_4]) (r : Bool) (hp : impl_StillCells_1 a0 a1 ae0_0 ae0_1 ae0_2 ae0_3 ae0_4 = some r) : CallsH Try.prog 96 ([(.int .i64 a0), (.int .i64 a1)].toArray ++ [(.pointer (some ⟨be0, 0, none⟩))].toArray) h0 (fun v h' => v = (.bool r) ∧ Mod [] h0 h' ∧ Sep [] h0.size h' []) := by
  unfold impl_StillCells_1 at hp
  refine callsH_of_W (l := [(.int .i64 a0), (.int .i64 a1)]) (cap := [(.pointer (some ⟨be0, 0, none⟩))]) 15 Try.func96 rfl rfl rfl ?_
  refine W.seq ?_
  refine W.region ?_
  refine RL.opD (by decide) (opv_assign rfl rfl) ?_
  refine RL.nil ?_
  refine thnN ?_
  refine W.seq ?_
  obtain ⟨x1, hx1, hp⟩ := Option.bind_eq_some_iff.1 hp
  obtain ⟨x2, hx2, hp⟩ := Option.bind_eq_some_iff.1 hp
  refine W.sub (ψ := [(0, (.int .i64 a0)), (1, (.int .i64 a1)), (2, (.pointer (some ⟨be0, 0, none⟩)))]) ⟨rfl, rfl, rfl, trivial⟩ ?_
  refine W.regionS [fun v _ => @Eq Value (.pointer (some ⟨be0, 3, none⟩)) v, fun v _ => @Eq Value ue0_3 v, fun v _ => @Eq Value (.agg (List.toArray (α := Value) [(.int .i64 ae0_0), (.int .i64 ae0_1), (.bool ae0_2), ue0_3, ue0_4])) v, fun v _ => @Eq Value (.int .i64 a0) v, fun v _ => @Eq Value (.int .i64 a1) v, fun v h => @Eq Value v (.int .i64 x1) ∧ Sep [] h0.size h [], fun v _ => PtI 1 v ue0_3 (Int.toNat x1), fun v _ => IsF .f32 v x2, fun v _ => @Eq Value (.bool (fcmp .eql .f32 x2 (some 0))) v, fun v _ => @Eq Value (.bool (fcmp .eql .f32 x2 (some 0))) v] [[], [0], [], [], [], [2, 3, 4], [1, 5], [6], [7], [8]] [9] Try.mixed (by decide +kernel) (by decide +kernel) rfl rfl rfl ⟨fun _ _ _ h _ => h, fun _ _ _ h _ => h, fun _ _ _ h _ => h, fun _ _ _ h _ => h, fun _ _ _ h _ => h, fun _ _ _ ⟨e, h⟩ x => ⟨e, h.ext x⟩, fun _ _ _ h _ => h, fun _ _ _ h _ => h, fun _ _ _ h _ => h, fun _ _ _ h _ => h, trivial⟩ ?_ ?_
  · refine ⟨⟨rfl, ?_⟩, ⟨rfl, ?_⟩, ⟨rfl, ?_⟩, ⟨rfl, ?_⟩, ⟨rfl, ?_⟩, ⟨rfl, ?_⟩, ⟨rfl, ?_⟩, ⟨rfl, ?_⟩, ⟨rfl, ?_⟩, ⟨rfl, ?_⟩, trivial⟩
    · rintro hp2 E_1
      refine Dep.nil ?_
      refine GuardOK.none rfl ?_
      exact OpV.toDx (opv_fieldAddr rfl Try.fo29_3 rfl) rfl
    · rintro hp3 E_2 _ rfl
      refine Dep.nil ?_
      refine GuardOK.none rfl ?_
      exact OpV.toDx (opv_loadB rfl Try.one22 rfl (Bx.mod Ge0 (Mod.lift (Mod.refl [] h0) E_2) nobB) rfl) rfl
    · rintro hp4 E_3
      refine Dep.nil ?_
      refine GuardOK.none rfl ?_
      exact OpV.toDx (opv_loadA (us := [(.int .i64 ae0_0), (.int .i64 ae0_1), (.bool ae0_2), ue0_3, ue0_4]) rfl Try.agg29 Try.size29 rfl (Bx.mod Ge0 (Mod.lift (Mod.refl [] h0) E_3) nobB) rfl rfl) rfl
    · rintro hp5 E_4
      refine Dep.nil ?_
      refine GuardOK.none rfl ?_
      exact OpV.toDx (opv_move rfl rfl) rfl
    · rintro hp6 E_5
      refine Dep.nil ?_
      refine GuardOK.none rfl ?_
      exact OpV.toDx (opv_move rfl rfl) rfl
    · rintro hp7 E_6 _ rfl _ rfl _ rfl
      refine Dep.nil ?_
      refine GuardOK.none rfl ?_
      exact OpV.mono (opv_call (cap := []) (impl_Sheet_at_ok _ _ _ _ _ _ (SL.up (SL.mod ge0_3 (Mod.lift (Mod.refl [] h0) E_6) (Nat.le_refl _) nob) (Nat.le_trans (Nat.le_refl _) (Mod.size (Mod.lift (Mod.refl [] h0) E_6)))) _ _ (SL.up (SL.mod ge0_4 (Mod.lift (Mod.refl [] h0) E_6) (Nat.le_refl _) nob) (Nat.le_trans (Nat.le_refl _) (Mod.size (Mod.lift (Mod.refl [] h0) E_6)))) _ _ _ hx1) rfl rfl ⟨rfl, rfl, rfl, trivial⟩ Try.func92 rfl rfl) (by rintro _ _ ⟨rfl, M_, T_⟩; exact ⟨Mod.ext M_, rfl, Sep.weak T_ (Ext.size E_6)⟩)
    · rintro hp8 E_7 _ rfl _ ⟨rfl, T_1⟩
      refine Dep.nil ?_
      refine GuardOK.none rfl ?_
      exact OpV.toSx (opv_index rfl Try.underlying22 (by rw [Try.size40]; rfl) rfl rfl (SL.mod ge0_3 (Mod.lift (Mod.refl [] h0) E_7) (Nat.le_refl _) nob) hx2) (fun _ h => h)
    · rintro hp9 E_8 v1 fv1
      refine Dep.nil ?_
      refine GuardOK.none rfl ?_
      exact OpV.toSx (opv_loadF rfl Try.one40 rfl fv1 (SL.mod ge0_3 (Mod.lift (Mod.refl [] h0) E_8) (Nat.le_refl _) nob) hx2) (fun _ h => h)
    · rintro hp10 E_9 v2 fv2
      refine Dep.nil ?_
      refine GuardOK.none rfl ?_
      exact OpV.toDx (opv_fcmp rfl rfl rfl rfl fv2 (isF_lit .f32 0 (by decide) (by decide))) rfl
    · rintro hp11 E_10 _ rfl
      refine Dep.nil ?_
      refine GuardOK.none rfl ?_
      exact OpV.toDx (opv_assign rfl rfl) rfl
  rintro hp12 E_11 _ rfl
  have X_2 : Mod [] h0 hp12 := Mod.lift (Mod.refl [] h0) E_11
  have S_2 : Sep [] h0.size hp12 [] := Sep.ext (Sep.nil [] h0.size h0) E_11
  refine Dep.nil ?_
  show RL _ _ _ _ [] _ _
  refine RL.nil ?_
  refine thnN ?_
  refine W.ret ?_
  have er := Option.some.inj hp
  subst er
  exact Rt.one rfl rfl ⟨rfl, X_2, (Sep.nil _ _ _)⟩

set_option maxRecDepth 20000 in
theorem impl_cellsBy__impl_StillCells_1_ok (h0 : Heap) (a0_0 : Int) (a0_1 : Int) (a0_2 : Bool) (u0_3 : Value) (a0_3 : List (Option Nat)) (g0_3 : SL (kF .f32) h0.size h0 u0_3 a0_3) (u0_4 : Value) (a0_4 : List (Option Nat)) (g0_4 : SL (kF .f32) h0.size h0 u0_4 a0_4) (be0 : Nat) (ae0_0 : Int) (ae0_1 : Int) (ae0_2 : Bool) (ue0_3 : Value) (ae0_3 : List (Option Nat)) (ge0_3 : SL (kF .f32) h0.size h0 ue0_3 ae0_3) (ue0_4 : Value) (ae0_4 : List (Option Nat)) (ge0_4 : SL (kF .f32) h0.size h0 ue0_4 ae0_4) (Ge0 : Bx h0 be0 [(.int .i64 ae0_0), (.int .i64 ae0_1), (.bool ae0_2), ue0_3, ue0_4]) (r : List (Int)) (hp : impl_cellsBy__impl_StillCells_1 a0_0 a0_1 a0_2 a0_3 a0_4 ae0_0 ae0_1 ae0_2 ae0_3 ae0_4 = some r) : CallsH Try.prog 95 ([(.agg (List.toArray (α := Value) [(.int .i64 a0_0), (.int .i64 a0_1), (.bool a0_2), u0_3, u0_4])), (.func (.func 96) #[] [(.pointer (some ⟨be0, 0, none⟩))].toArray)].toArray ++ [].toArray) h0 (fun v h' => Mod [] h0 h' ∧ Sep [] h0.size h' [ownO (kI .i64) 2 v r]) := by
  unfold impl_cellsBy__impl_StillCells_1 at hp
  refine callsH_of_W (l := [(.agg (List.toArray (α := Value) [(.int .i64 a0_0), (.int .i64 a0_1), (.bool a0_2), u0_3, u0_4])), (.func (.func 96) #[] [(.pointer (some ⟨be0, 0, none⟩))].toArray)]) (cap := []) 33 Try.func95 rfl rfl rfl ?_
  refine W.seq ?_
  refine W.region ?_
  refine RL.op _ (by decide) (opS_boxed (opv_boxA (cs := [(.int .i64 a0_0), (.int .i64 a0_1), (.bool a0_2), u0_3, u0_4]) rfl rfl)) ?_
  rintro _ hp1 ⟨bb1, rfl, MT_1, T_1⟩
  have X_1 : Mod [] h0 hp1 := Mod.step (A := []) (L := []) (Mod.refl [] h0) (Sep.nil [] h0.size h0) MT_1
  have S_1 : Sep [] h0.size hp1 [boxO bb1 [(.int .i64 a0_0), (.int .i64 a0_1), (.bool a0_2), u0_3, u0_4]] := Sep.step (A := []) (L := []) (Sep.nil [] h0.size h0) (Mod.size (Mod.refl [] h0)) MT_1 T_1
  refine RL.opD (by decide) (opv_assign rfl rfl) ?_
  have S_2 : Sep [] h0.size hp1 [ownO (kI .i64) 2 (.slice none 0 0) ([] : List (Int)), boxO bb1 [(.int .i64 a0_0), (.int .i64 a0_1), (.bool a0_2), u0_3, u0_4]] := Sep.addNil S_1
  refine RL.nil ?_
  refine thnN ?_
  refine W.seq ?_
  refine W.region ?_
  refine RL.op _ (by decide) (opS_lit0 (K := (kI .i64)) rfl Try.underlying60 Try.isinfo2) ?_
  rintro v1 hp2 ⟨MT_2, T_2⟩
  have X_2 : Mod [] h0 hp2 := Mod.step (A := []) (L := [ownO (kI .i64) 2 (.slice none 0 0) ([] : List (Int)), boxO bb1 [(.int .i64 a0_0), (.int .i64 a0_1), (.bool a0_2), u0_3, u0_4]]) X_1 S_2 MT_2
  have S_3 : Sep [] h0.size hp2 [ownO (kI .i64) 2 v1 ([] : List (Int)), ownO (kI .i64) 2 (.slice none 0 0) ([] : List (Int)), boxO bb1 [(.int .i64 a0_0), (.int .i64 a0_1), (.bool a0_2), u0_3, u0_4]] := Sep.step (A := []) (L := [ownO (kI .i64) 2 (.slice none 0 0) ([] : List (Int)), boxO bb1 [(.int .i64 a0_0), (.int .i64 a0_1), (.bool a0_2), u0_3, u0_4]]) S_2 (Mod.size X_1) MT_2 T_2
  refine RL.opD (by decide) (opv_assign rfl rfl) ?_
  refine RL.nil ?_
  refine thnN ?_
  refine W.seq ?_
  refine W.seq ?_
  refine W.region ?_
  refine RL.opD (by decide) (opv_fieldAddr rfl Try.fo29_1 rfl) ?_
  refine RL.opD (by decide) (opv_loadB rfl Try.one2 rfl (Sep.at (o := boxO bb1 [(.int .i64 a0_0), (.int .i64 a0_1), (.bool a0_2), u0_3, u0_4]) S_3 2 rfl) rfl) ?_
  refine RL.opD (by decide) (opv_move rfl rfl) ?_
  refine RL.nil ?_
  refine thnN ?_
  obtain ⟨y1, hy1, hp⟩ := Option.bind_eq_some_iff.1 hp
  refine W.cut (fun φ' h' => ∃ x3, ∃ x4, ∃ x5, ∃ v3, y1 = (x3, x4, x5) ∧ Fr.sub [(0, (.agg (List.toArray (α := Value) [(.int .i64 a0_0), (.int .i64 a0_1), (.bool a0_2), u0_3, u0_4]))), (1, (.func (.func 96) #[] [(.pointer (some ⟨be0, 0, none⟩))].toArray)), (2, (.pointer (some ⟨bb1, 0, none⟩))), (4, (.slice none 0 0)), (10, (.int .i64 a0_1)), (11, (.int .i64 x3)), (12, (.bool x4)), (5, v3)] φ' ∧ Mod [] h0 h' ∧ Sep [] h0.size h' [ownO (kI .i64) 2 (.slice none 0 0) ([] : List (Int)), boxO bb1 [(.int .i64 a0_0), (.int .i64 a0_1), (.bool a0_2), u0_3, u0_4], ownO (kI .i64) 2 v3 x5]) ?_ ?_
  · refine W.block ?_
    refine W.loopS (fun (s : ((List (Int)) × Int)) φ' h' => ∃ v2, Fr.sub [(0, (.agg (List.toArray (α := Value) [(.int .i64 a0_0), (.int .i64 a0_1), (.bool a0_2), u0_3, u0_4]))), (1, (.func (.func 96) #[] [(.pointer (some ⟨be0, 0, none⟩))].toArray)), (2, (.pointer (some ⟨bb1, 0, none⟩))), (4, (.slice none 0 0)), (10, (.int .i64 a0_1)), (5, v2), (11, (.int .i64 s.2))] φ' ∧ Mod [] h0 h' ∧ Sep [] h0.size h' [ownO (kI .i64) 2 v2 s.1, ownO (kI .i64) 2 (.slice none 0 0) ([] : List (Int)), boxO bb1 [(.int .i64 a0_0), (.int .i64 a0_1), (.bool a0_2), u0_3, u0_4]]) hy1 ⟨v1, ⟨rfl, rfl, rfl, rfl, rfl, rfl, rfl, trivial⟩, X_2, (Sep.sel S_3 [0, 1, 2] (by decide))⟩ ?_
    rintro ⟨x1, x2⟩ φ' hp3 o1 ⟨v2, hs1, X_3, S_4⟩ ho1 hy1
    have hs1 : Fr.sub [(0, (.agg (List.toArray (α := Value) [(.int .i64 a0_0), (.int .i64 a0_1), (.bool a0_2), u0_3, u0_4]))), (1, (.func (.func 96) #[] [(.pointer (some ⟨be0, 0, none⟩))].toArray)), (2, (.pointer (some ⟨bb1, 0, none⟩))), (4, (.slice none 0 0)), (10, (.int .i64 a0_1)), (5, v2), (11, (.int .i64 x2))] φ' := hs1
    have S_4 : Sep [] h0.size hp3 [ownO (kI .i64) 2 v2 x1, ownO (kI .i64) 2 (.slice none 0 0) ([] : List (Int)), boxO bb1 [(.int .i64 a0_0), (.int .i64 a0_1), (.bool a0_2), u0_3, u0_4]] := S_4
    have ho1 : impl_cellsBy__impl_StillCells_1.s0 a0_0 a0_1 a0_2 a0_3 a0_4 ae0_0 ae0_1 ae0_2 ae0_3 ae0_4 x1 x2 = some o1 := ho1
    unfold impl_cellsBy__impl_StillCells_1.s0 at ho1
    refine W.sub hs1 ?_
    refine W.seq ?_
    refine W.region ?_
    refine RL.opD (by decide) (opv_icmp rfl rfl rfl rfl) ?_
    refine RL.nil ?_
    refine thnN ?_
    refine W.seq ?_
    by_cases c1 : (decide (x2 < a0_1)) = true
    · rw [if_pos c1] at ho1
      refine W.condT rfl c1 ?_
      refine W.skip ?_
      refine thnN ?_
      refine W.seq ?_
      refine W.block ?_
      refine W.seq ?_
      refine W.region ?_
      refine RL.opD (by decide) (opv_move rfl rfl) ?_
      refine RL.opD (by decide) (opv_assign rfl rfl) ?_
      refine RL.nil ?_
      refine thnN ?_
      refine W.seq ?_
      refine W.region ?_
      refine RL.opD (by decide) (opv_fieldAddr rfl Try.fo29_0 rfl) ?_
      refine RL.opD (by decide) (opv_loadB rfl Try.one2 rfl (Sep.at (o := boxO bb1 [(.int .i64 a0_0), (.int .i64 a0_1), (.bool a0_2), u0_3, u0_4]) S_4 2 rfl) rfl) ?_
      refine RL.opD (by decide) (opv_move rfl rfl) ?_
      refine RL.nil ?_
      refine thnN ?_
      obtain ⟨y2, hy2, ho1⟩ := Option.bind_eq_some_iff.1 ho1
      refine W.cut (fun φ' h' => ∃ x8, ∃ x9, ∃ x10, ∃ v5, y2 = (x8, x9, x10) ∧ Fr.sub [(0, (.agg (List.toArray (α := Value) [(.int .i64 a0_0), (.int .i64 a0_1), (.bool a0_2), u0_3, u0_4]))), (1, (.func (.func 96) #[] [(.pointer (some ⟨be0, 0, none⟩))].toArray)), (2, (.pointer (some ⟨bb1, 0, none⟩))), (4, (.slice none 0 0)), (10, (.int .i64 a0_1)), (11, (.int .i64 x2)), (12, (.bool (decide (x2 < a0_1)))), (6, (.int .i64 x2)), (15, (.int .i64 a0_0)), (16, (.int .i64 x8)), (17, (.bool x9)), (5, v5)] φ' ∧ Mod [] h0 h' ∧ Sep [] h0.size h' [ownO (kI .i64) 2 (.slice none 0 0) ([] : List (Int)), boxO bb1 [(.int .i64 a0_0), (.int .i64 a0_1), (.bool a0_2), u0_3, u0_4], ownO (kI .i64) 2 v5 x10]) ?_ ?_
      · refine W.block ?_
        refine W.loopS (fun (s : ((List (Int)) × Int)) φ' h' => ∃ v4, Fr.sub [(0, (.agg (List.toArray (α := Value) [(.int .i64 a0_0), (.int .i64 a0_1), (.bool a0_2), u0_3, u0_4]))), (1, (.func (.func 96) #[] [(.pointer (some ⟨be0, 0, none⟩))].toArray)), (2, (.pointer (some ⟨bb1, 0, none⟩))), (4, (.slice none 0 0)), (10, (.int .i64 a0_1)), (11, (.int .i64 x2)), (12, (.bool (decide (x2 < a0_1)))), (6, (.int .i64 x2)), (15, (.int .i64 a0_0)), (5, v4), (16, (.int .i64 s.2))] φ' ∧ Mod [] h0 h' ∧ Sep [] h0.size h' [ownO (kI .i64) 2 v4 s.1, ownO (kI .i64) 2 (.slice none 0 0) ([] : List (Int)), boxO bb1 [(.int .i64 a0_0), (.int .i64 a0_1), (.bool a0_2), u0_3, u0_4]]) hy2 ⟨v2, ⟨rfl, rfl, rfl, rfl, rfl, rfl, rfl, rfl, rfl, rfl, rfl, trivial⟩, X_3, (Sep.sel S_4 [0, 1, 2] (by decide))⟩ ?_
        rintro ⟨x6, x7⟩ φ' hp4 o2 ⟨v4, hs3, X_4, S_5⟩ ho2 hy2
        have hs3 : Fr.sub [(0, (.agg (List.toArray (α := Value) [(.int .i64 a0_0), (.int .i64 a0_1), (.bool a0_2), u0_3, u0_4]))), (1, (.func (.func 96) #[] [(.pointer (some ⟨be0, 0, none⟩))].toArray)), (2, (.pointer (some ⟨bb1, 0, none⟩))), (4, (.slice none 0 0)), (10, (.int .i64 a0_1)), (11, (.int .i64 x2)), (12, (.bool (decide (x2 < a0_1)))), (6, (.int .i64 x2)), (15, (.int .i64 a0_0)), (5, v4), (16, (.int .i64 x7))] φ' := hs3
        have S_5 : Sep [] h0.size hp4 [ownO (kI .i64) 2 v4 x6, ownO (kI .i64) 2 (.slice none 0 0) ([] : List (Int)), boxO bb1 [(.int .i64 a0_0), (.int .i64 a0_1), (.bool a0_2), u0_3, u0_4]] := S_5
        have ho2 : impl_cellsBy__impl_StillCells_1.s1 a0_0 a0_1 a0_2 a0_3 a0_4 ae0_0 ae0_1 ae0_2 ae0_3 ae0_4 x2 x6 x7 = some o2 := ho2
        unfold impl_cellsBy__impl_StillCells_1.s1 at ho2
        refine W.sub hs3 ?_
        refine W.seq ?_
        refine W.region ?_
        refine RL.opD (by decide) (opv_icmp rfl rfl rfl rfl) ?_
        refine RL.nil ?_
        refine thnN ?_
        refine W.seq ?_
        by_cases c2 : (decide (x7 < a0_0)) = true
        · rw [if_pos c2] at ho2
          refine W.condT rfl c2 ?_
          refine W.skip ?_
          refine thnN ?_
          refine W.seq ?_
          refine W.block ?_
          refine W.seq ?_
          refine W.region ?_
          refine RL.opD (by decide) (opv_move rfl rfl) ?_
          refine RL.opD (by decide) (opv_assign rfl rfl) ?_
          refine RL.nil ?_
          refine thnN ?_
          refine W.seq ?_
          obtain ⟨x11, hx11, ho2⟩ := Option.bind_eq_some_iff.1 ho2
          refine W.region ?_
          refine RL.opD (by decide) (opv_move rfl rfl) ?_
          refine RL.opD (by decide) (opv_move rfl rfl) ?_
          refine RL.opD (by decide) (opv_move rfl rfl) ?_
          refine RL.op _ (by decide) (opv_call (cap := [(.pointer (some ⟨be0, 0, none⟩))]) (impl_StillCells_1_ok _ _ _ _ _ _ _ _ _ (SL.up (SL.mod ge0_3 X_4 (Nat.le_refl _) nob) (Nat.le_trans (Nat.le_refl _) (Mod.size X_4))) _ _ (SL.up (SL.mod ge0_4 X_4 (Nat.le_refl _) nob) (Nat.le_trans (Nat.le_refl _) (Mod.size X_4))) (Bx.mod Ge0 X_4 nobB) _ hx11) rfl rfl ⟨rfl, rfl, trivial⟩ Try.func96 rfl rfl) ?_
          rintro _ hp5 ⟨rfl, MT_3, T_3⟩
          have X_5 : Mod [] h0 hp5 := Mod.step (A := []) (L := [ownO (kI .i64) 2 v4 x6, ownO (kI .i64) 2 (.slice none 0 0) ([] : List (Int)), boxO bb1 [(.int .i64 a0_0), (.int .i64 a0_1), (.bool a0_2), u0_3, u0_4]]) X_4 S_5 MT_3
          have S_6 : Sep [] h0.size hp5 [ownO (kI .i64) 2 v4 x6, ownO (kI .i64) 2 (.slice none 0 0) ([] : List (Int)), boxO bb1 [(.int .i64 a0_0), (.int .i64 a0_1), (.bool a0_2), u0_3, u0_4]] := Sep.step (A := []) (L := [ownO (kI .i64) 2 v4 x6, ownO (kI .i64) 2 (.slice none 0 0) ([] : List (Int)), boxO bb1 [(.int .i64 a0_0), (.int .i64 a0_1), (.bool a0_2), u0_3, u0_4]]) S_5 (Mod.size X_4) MT_3 T_3
          refine RL.nil ?_
          refine thnN ?_
          obtain ⟨x12, hy3, ho2⟩ := Option.bind_eq_some_iff.1 ho2
          refine W.cut (fun φ' h' => ∃ v6, Fr.sub [(0, (.agg (List.toArray (α := Value) [(.int .i64 a0_0), (.int .i64 a0_1), (.bool a0_2), u0_3, u0_4]))), (1, (.func (.func 96) #[] [(.pointer (some ⟨be0, 0, none⟩))].toArray)), (2, (.pointer (some ⟨bb1, 0, none⟩))), (4, (.slice none 0 0)), (10, (.int .i64 a0_1)), (11, (.int .i64 x2)), (12, (.bool (decide (x2 < a0_1)))), (6, (.int .i64 x2)), (15, (.int .i64 a0_0)), (16, (.int .i64 x7)), (17, (.bool (decide (x7 < a0_0)))), (7, (.int .i64 x7)), (22, (.bool x11)), (5, v6)] φ' ∧ Mod [] h0 h' ∧ Sep [] h0.size h' [ownO (kI .i64) 2 (.slice none 0 0) ([] : List (Int)), boxO bb1 [(.int .i64 a0_0), (.int .i64 a0_1), (.bool a0_2), u0_3, u0_4], ownO (kI .i64) 2 v6 x12]) ?_ ?_
          · by_cases c3 : x11 = true
            · rw [if_pos c3] at hy3
              refine W.condT rfl c3 ?_
              obtain ⟨x13, hx13, hy3⟩ := Option.bind_eq_some_iff.1 hy3
              obtain ⟨c4, hy3⟩ := of_ite hy3
              refine W.region ?_
              refine RL.opD (by decide) (opv_move rfl rfl) ?_
              refine RL.opD (by decide) (opv_loadA (us := [(.int .i64 a0_0), (.int .i64 a0_1), (.bool a0_2), u0_3, u0_4]) rfl Try.agg29 Try.size29 rfl (Sep.at (o := boxO bb1 [(.int .i64 a0_0), (.int .i64 a0_1), (.bool a0_2), u0_3, u0_4]) S_6 2 rfl) rfl rfl) ?_
              refine RL.opD (by decide) (opv_move rfl rfl) ?_
              refine RL.opD (by decide) (opv_move rfl rfl) ?_
              refine RL.op _ (by decide) (opv_call (cap := []) (impl_Sheet_at_ok _ _ _ _ _ _ (SL.up (SL.mod g0_3 X_5 (Nat.le_refl _) nob) (Nat.le_trans (Nat.le_refl _) (Mod.size X_5))) _ _ (SL.up (SL.mod g0_4 X_5 (Nat.le_refl _) nob) (Nat.le_trans (Nat.le_refl _) (Mod.size X_5))) _ _ _ hx13) rfl rfl ⟨rfl, rfl, rfl, trivial⟩ Try.func92 rfl rfl) ?_
              rintro _ hp6 ⟨rfl, MT_4, T_4⟩
              have X_6 : Mod [] h0 hp6 := Mod.step (A := []) (L := [ownO (kI .i64) 2 v4 x6, ownO (kI .i64) 2 (.slice none 0 0) ([] : List (Int)), boxO bb1 [(.int .i64 a0_0), (.int .i64 a0_1), (.bool a0_2), u0_3, u0_4]]) X_5 S_6 MT_4
              have S_7 : Sep [] h0.size hp6 [ownO (kI .i64) 2 v4 x6, ownO (kI .i64) 2 (.slice none 0 0) ([] : List (Int)), boxO bb1 [(.int .i64 a0_0), (.int .i64 a0_1), (.bool a0_2), u0_3, u0_4]] := Sep.step (A := []) (L := [ownO (kI .i64) 2 v4 x6, ownO (kI .i64) 2 (.slice none 0 0) ([] : List (Int)), boxO bb1 [(.int .i64 a0_0), (.int .i64 a0_1), (.bool a0_2), u0_3, u0_4]]) S_6 (Mod.size X_5) MT_4 T_4
              refine RL.op _ (by decide) (opS_lit1 (K := (kI .i64)) (z := x13) rfl Try.underlying60 Try.einfo2 rfl rfl rfl rfl rfl) ?_
              rintro v7 hp7 ⟨MT_5, T_5⟩
              have X_7 : Mod [] h0 hp7 := Mod.step (A := []) (L := [ownO (kI .i64) 2 v4 x6, ownO (kI .i64) 2 (.slice none 0 0) ([] : List (Int)), boxO bb1 [(.int .i64 a0_0), (.int .i64 a0_1), (.bool a0_2), u0_3, u0_4]]) X_6 S_7 MT_5
              have S_8 : Sep [] h0.size hp7 [ownO (kI .i64) 2 v7 [x13], ownO (kI .i64) 2 v4 x6, ownO (kI .i64) 2 (.slice none 0 0) ([] : List (Int)), boxO bb1 [(.int .i64 a0_0), (.int .i64 a0_1), (.bool a0_2), u0_3, u0_4]] := Sep.step (A := []) (L := [ownO (kI .i64) 2 v4 x6, ownO (kI .i64) 2 (.slice none 0 0) ([] : List (Int)), boxO bb1 [(.int .i64 a0_0), (.int .i64 a0_1), (.bool a0_2), u0_3, u0_4]]) S_7 (Mod.size X_6) MT_5 T_5
              refine RL.op _ (by decide) (opS_append (K := (kI .i64)) rfl Try.underlying60 Try.einfo2 rfl rfl rfl rfl (Sep.at (o := ownO (kI .i64) 2 v4 x6) S_8 1 rfl) (ownO.read (Sep.at (o := ownO (kI .i64) 2 v7 [x13]) S_8 0 rfl)) (by decide) (by decide) c4) ?_
              rintro v8 hp8 ⟨MT_6, T_6⟩
              have S_9 : Sep [] h0.size hp7 ([ownO (kI .i64) 2 v4 x6] ++ [ownO (kI .i64) 2 v7 [x13], ownO (kI .i64) 2 (.slice none 0 0) ([] : List (Int)), boxO bb1 [(.int .i64 a0_0), (.int .i64 a0_1), (.bool a0_2), u0_3, u0_4]]) := Sep.sel S_8 [1, 0, 2, 3] (by decide)
              have X_8 : Mod [] h0 hp8 := Mod.step (A := [ownO (kI .i64) 2 v4 x6]) (L := [ownO (kI .i64) 2 v7 [x13], ownO (kI .i64) 2 (.slice none 0 0) ([] : List (Int)), boxO bb1 [(.int .i64 a0_0), (.int .i64 a0_1), (.bool a0_2), u0_3, u0_4]]) X_7 S_9 MT_6
              have S_10 : Sep [] h0.size hp8 [ownO (kI .i64) 2 v8 (x6 ++ [x13]), ownO (kI .i64) 2 v7 [x13], ownO (kI .i64) 2 (.slice none 0 0) ([] : List (Int)), boxO bb1 [(.int .i64 a0_0), (.int .i64 a0_1), (.bool a0_2), u0_3, u0_4]] := Sep.step (A := [ownO (kI .i64) 2 v4 x6]) (L := [ownO (kI .i64) 2 v7 [x13], ownO (kI .i64) 2 (.slice none 0 0) ([] : List (Int)), boxO bb1 [(.int .i64 a0_0), (.int .i64 a0_1), (.bool a0_2), u0_3, u0_4]]) S_9 (Mod.size X_7) MT_6 T_6
              refine RL.opD (by decide) (opv_assign rfl rfl) ?_
              refine RL.nil ?_
              have ey3 := Option.some.inj hy3
              subst ey3
              refine onlyN ?_
              exact ⟨v8, ⟨rfl, rfl, rfl, rfl, rfl, rfl, rfl, rfl, rfl, rfl, rfl, rfl, rfl, rfl, trivial⟩, X_8, (Sep.sel S_10 [2, 3, 0] (by decide))⟩
            · rw [if_neg c3] at hy3
              have c3 := eq_false_of_ne_true c3
              refine W.condF rfl c3 ?_
              refine W.skip ?_
              have ey3 := Option.some.inj hy3
              subst ey3
              refine onlyN ?_
              exact ⟨v4, ⟨rfl, rfl, rfl, rfl, rfl, rfl, rfl, rfl, rfl, rfl, rfl, rfl, rfl, rfl, trivial⟩, X_5, (Sep.sel S_6 [1, 2, 0] (by decide))⟩
          rintro φ' hp9 ⟨v6, hs5, X_9, S_11⟩
          refine blkN ?_
          refine thnN ?_
          refine W.sub hs5 ?_
          refine W.region ?_
          refine RL.opD (by decide) (opv_add rfl rfl rfl) ?_
          refine RL.opD (by decide) (opv_move rfl rfl) ?_
          refine RL.nil ?_
          have eo2 := Option.some.inj ho2
          subst eo2
          refine rndN (s' := (x12, IntKind.wrap .i64 (x7 + 1))) rfl ?_
          exact ⟨v6, ⟨rfl, rfl, rfl, rfl, rfl, rfl, rfl, rfl, rfl, rfl, rfl, trivial⟩, X_9, (Sep.sel S_11 [2, 0, 1] (by decide))⟩
        · rw [if_neg c2] at ho2
          have c2 := eq_false_of_ne_true c2
          refine W.condF rfl c2 ?_
          refine W.exit ?_
          refine thnX ?_
          refine rndX ?_
          refine blkI ?_
          have eo2 := Option.some.inj ho2
          subst eo2
          have ey2 := hy2 _ rfl
          subst ey2
          refine onlyN ?_
          exact ⟨x7, decide (x7 < a0_0), x6, v4, rfl, ⟨rfl, rfl, rfl, rfl, rfl, rfl, rfl, rfl, rfl, rfl, rfl, rfl, trivial⟩, X_4, (Sep.sel S_5 [1, 2, 0] (by decide))⟩
      rintro φ' hp10 ⟨x8, x9, x10, v5, rfl, hs4, X_10, S_12⟩
      try dsimp only at ho1
      refine blkN ?_
      refine thnN ?_
      refine W.sub hs4 ?_
      refine W.region ?_
      refine RL.opD (by decide) (opv_add rfl rfl rfl) ?_
      refine RL.opD (by decide) (opv_move rfl rfl) ?_
      refine RL.nil ?_
      have eo1 := Option.some.inj ho1
      subst eo1
      refine rndN (s' := (x10, IntKind.wrap .i64 (x2 + 1))) rfl ?_
      exact ⟨v5, ⟨rfl, rfl, rfl, rfl, rfl, rfl, rfl, trivial⟩, X_10, (Sep.sel S_12 [2, 0, 1] (by decide))⟩
    · rw [if_neg c1] at ho1
      have c1 := eq_false_of_ne_true c1
      refine W.condF rfl c1 ?_
      refine W.exit ?_
      refine thnX ?_
      refine rndX ?_
      refine blkI ?_
      have eo1 := Option.some.inj ho1
      subst eo1
      have ey1 := hy1 _ rfl
      subst ey1
      refine onlyN ?_
      exact ⟨x2, decide (x2 < a0_1), x1, v2, rfl, ⟨rfl, rfl, rfl, rfl, rfl, rfl, rfl, rfl, trivial⟩, X_3, (Sep.sel S_4 [1, 2, 0] (by decide))⟩
  rintro φ' hp11 ⟨x3, x4, x5, v3, rfl, hs2, X_11, S_13⟩
  try dsimp only at hp
  refine thnN ?_
  refine W.sub hs2 ?_
  refine W.seq ?_
  refine W.region ?_
  refine RL.opD (by decide) (opv_move rfl rfl) ?_
  refine RL.opD (by decide) (opv_assign rfl rfl) ?_
  refine RL.nil ?_
  refine thnN ?_
  refine W.ret ?_
  have er := Option.some.inj hp
  subst er
  exact Rt.one rfl rfl ⟨X_11, (Sep.sel S_13 [2] (by decide))⟩

set_option maxRecDepth 20000 in
theorem impl_StillCells_ok (h0 : Heap) (a0_0 : Int) (a0_1 : Int) (a0_2 : Bool) (u0_3 : Value) (a0_3 : List (Option Nat)) (g0_3 : SL (kF .f32) h0.size h0 u0_3 a0_3) (u0_4 : Value) (a0_4 : List (Option Nat)) (g0_4 : SL (kF .f32) h0.size h0 u0_4 a0_4) (r : ((List (Int)) × Bool)) (hp : impl_StillCells a0_0 a0_1 a0_2 a0_3 a0_4 = some r) : CallsH Try.prog 42 ([(.agg (List.toArray (α := Value) [(.int .i64 a0_0), (.int .i64 a0_1), (.bool a0_2), u0_3, u0_4]))].toArray ++ [].toArray) h0 (fun v h' => ∃ w0, v = (.tuple (List.toArray (α := Value) [w0, (.bool r.2)])) ∧ Mod [] h0 h' ∧ Sep [] h0.size h' [ownO (kI .i64) 2 w0 r.1]) := by
  unfold impl_StillCells at hp
  refine callsH_of_W (l := [(.agg (List.toArray (α := Value) [(.int .i64 a0_0), (.int .i64 a0_1), (.bool a0_2), u0_3, u0_4]))]) (cap := []) 10 Try.func42 rfl rfl rfl ?_
  refine W.seq ?_
  refine W.region ?_
  refine RL.op _ (by decide) (opS_boxed (opv_boxA (cs := [(.int .i64 a0_0), (.int .i64 a0_1), (.bool a0_2), u0_3, u0_4]) rfl rfl)) ?_
  rintro _ hp1 ⟨bb1, rfl, MT_1, T_1⟩
  have X_1 : Mod [] h0 hp1 := Mod.step (A := []) (L := []) (Mod.refl [] h0) (Sep.nil [] h0.size h0) MT_1
  have S_1 : Sep [] h0.size hp1 [boxO bb1 [(.int .i64 a0_0), (.int .i64 a0_1), (.bool a0_2), u0_3, u0_4]] := Sep.step (A := []) (L := []) (Sep.nil [] h0.size h0) (Mod.size (Mod.refl [] h0)) MT_1 T_1
  refine RL.opD (by decide) (opv_assign rfl rfl) ?_
  have S_2 : Sep [] h0.size hp1 [ownO (kI .i64) 2 (.slice none 0 0) ([] : List (Int)), boxO bb1 [(.int .i64 a0_0), (.int .i64 a0_1), (.bool a0_2), u0_3, u0_4]] := Sep.addNil S_1
  refine RL.opD (by decide) (opv_assign rfl rfl) ?_
  refine RL.nil ?_
  refine thnN ?_
  refine W.seq ?_
  refine W.seq ?_
  obtain ⟨x1, hx1, hp⟩ := Option.bind_eq_some_iff.1 hp
  refine W.region ?_
  refine RL.opD (by decide) (opv_loadA (us := [(.int .i64 a0_0), (.int .i64 a0_1), (.bool a0_2), u0_3, u0_4]) rfl Try.agg29 Try.size29 rfl (Sep.at (o := boxO bb1 [(.int .i64 a0_0), (.int .i64 a0_1), (.bool a0_2), u0_3, u0_4]) S_2 1 rfl) rfl rfl) ?_
  refine RL.op _ (by decide) (opv_call (cap := []) (impl_ValidSheet_ok _ _ _ _ _ _ (SL.up (SL.mod g0_3 X_1 (Nat.le_refl _) nob) (Nat.le_trans (Nat.le_refl _) (Mod.size X_1))) _ _ (SL.up (SL.mod g0_4 X_1 (Nat.le_refl _) nob) (Nat.le_trans (Nat.le_refl _) (Mod.size X_1))) _ hx1) rfl rfl ⟨rfl, trivial⟩ Try.func76 rfl rfl) ?_
  rintro _ hp2 ⟨rfl, MT_2, T_2⟩
  have X_2 : Mod [] h0 hp2 := Mod.step (A := []) (L := [ownO (kI .i64) 2 (.slice none 0 0) ([] : List (Int)), boxO bb1 [(.int .i64 a0_0), (.int .i64 a0_1), (.bool a0_2), u0_3, u0_4]]) X_1 S_2 MT_2
  have S_3 : Sep [] h0.size hp2 [ownO (kI .i64) 2 (.slice none 0 0) ([] : List (Int)), boxO bb1 [(.int .i64 a0_0), (.int .i64 a0_1), (.bool a0_2), u0_3, u0_4]] := Sep.step (A := []) (L := [ownO (kI .i64) 2 (.slice none 0 0) ([] : List (Int)), boxO bb1 [(.int .i64 a0_0), (.int .i64 a0_1), (.bool a0_2), u0_3, u0_4]]) S_2 (Mod.size X_1) MT_2 T_2
  refine RL.opD (by decide) (opv_not rfl rfl) ?_
  refine RL.nil ?_
  refine thnN ?_
  by_cases c1 : (!x1) = true
  · rw [if_pos c1] at hp
    refine W.condT rfl c1 ?_
    refine W.seq ?_
    refine W.region ?_
    refine RL.opD (by decide) (opv_assign rfl rfl) ?_
    have S_4 : Sep [] h0.size hp2 [ownO (kI .i64) 2 (.slice none 0 0) ([] : List (Int)), ownO (kI .i64) 2 (.slice none 0 0) ([] : List (Int)), boxO bb1 [(.int .i64 a0_0), (.int .i64 a0_1), (.bool a0_2), u0_3, u0_4]] := Sep.addNil S_3
    refine RL.opD (by decide) (opv_assign rfl rfl) ?_
    refine RL.nil ?_
    refine thnN ?_
    refine W.ret ?_
    refine thnR ?_
    have er := Option.some.inj hp
    subst er
    exact Rt.two rfl rfl rfl ⟨(.slice none 0 0), rfl, X_2, (Sep.sel S_4 [0] (by decide))⟩
  · rw [if_neg c1] at hp
    have c1 := eq_false_of_ne_true c1
    refine W.condF rfl c1 ?_
    refine W.skip ?_
    refine thnN ?_
    refine W.seq ?_
    obtain ⟨x2, hx2, hp⟩ := Option.bind_eq_some_iff.1 hp
    refine W.region ?_
    refine RL.opD (by decide) (opv_loadA (us := [(.int .i64 a0_0), (.int .i64 a0_1), (.bool a0_2), u0_3, u0_4]) rfl Try.agg29 Try.size29 rfl (Sep.at (o := boxO bb1 [(.int .i64 a0_0), (.int .i64 a0_1), (.bool a0_2), u0_3, u0_4]) S_3 1 rfl) rfl rfl) ?_
    refine RL.opD (by decide) (opv_makeFunc (vs := [(.pointer (some ⟨bb1, 0, none⟩))]) rfl ⟨rfl, trivial⟩) ?_
    refine RL.op _ (by decide) (opv_call (cap := []) (impl_cellsBy__impl_StillCells_1_ok _ _ _ _ _ _ (SL.up (SL.mod g0_3 X_2 (Nat.le_refl _) nob) (Nat.le_trans (Nat.le_refl _) (Mod.size X_2))) _ _ (SL.up (SL.mod g0_4 X_2 (Nat.le_refl _) nob) (Nat.le_trans (Nat.le_refl _) (Mod.size X_2))) _ _ _ _ _ _ (SL.up (SL.mod g0_3 X_2 (Nat.le_refl _) nob) (Nat.le_trans (Nat.le_refl _) (Mod.size X_2))) _ _ (SL.up (SL.mod g0_4 X_2 (Nat.le_refl _) nob) (Nat.le_trans (Nat.le_refl _) (Mod.size X_2))) (Sep.at (o := boxO bb1 [(.int .i64 a0_0), (.int .i64 a0_1), (.bool a0_2), u0_3, u0_4]) S_3 1 rfl) _ hx2) rfl rfl ⟨rfl, rfl, trivial⟩ Try.func95 rfl rfl) ?_
    rintro v1 hp3 ⟨MT_3, T_3⟩
    have X_3 : Mod [] h0 hp3 := Mod.step (A := []) (L := [ownO (kI .i64) 2 (.slice none 0 0) ([] : List (Int)), boxO bb1 [(.int .i64 a0_0), (.int .i64 a0_1), (.bool a0_2), u0_3, u0_4]]) X_2 S_3 MT_3
    have S_5 : Sep [] h0.size hp3 [ownO (kI .i64) 2 v1 x2, ownO (kI .i64) 2 (.slice none 0 0) ([] : List (Int)), boxO bb1 [(.int .i64 a0_0), (.int .i64 a0_1), (.bool a0_2), u0_3, u0_4]] := Sep.step (A := []) (L := [ownO (kI .i64) 2 (.slice none 0 0) ([] : List (Int)), boxO bb1 [(.int .i64 a0_0), (.int .i64 a0_1), (.bool a0_2), u0_3, u0_4]]) S_3 (Mod.size X_2) MT_3 T_3
    refine RL.opD (by decide) (opv_assign rfl rfl) ?_
    refine RL.opD (by decide) (opv_assign rfl rfl) ?_
    refine RL.nil ?_
    refine thnN ?_
    refine W.ret ?_
    have er := Option.some.inj hp
    subst er
    exact Rt.two rfl rfl rfl ⟨v1, rfl, X_3, (Sep.sel S_5 [0] (by decide))⟩

set_option maxRecDepth 20000 in
theorem laws_FnExactStillCells_ok (h0 : Heap) (a0_0 : Int) (a0_1 : Int) (a0_2 : Bool) (u0_3 : Value) (a0_3 : List (Option Nat)) (g0_3 : SL (kF .f32) h0.size h0 u0_3 a0_3) (u0_4 : Value) (a0_4 : List (Option Nat)) (g0_4 : SL (kF .f32) h0.size h0 u0_4 a0_4) (r : Bool) (hp : laws_FnExactStillCells a0_0 a0_1 a0_2 a0_3 a0_4 = some r) : CallsH Try.prog 8 ([(.agg (List.toArray (α := Value) [(.int .i64 a0_0), (.int .i64 a0_1), (.bool a0_2), u0_3, u0_4]))].toArray ++ [].toArray) h0 (fun v h' => v = (.bool r) ∧ Mod [] h0 h' ∧ Sep [] h0.size h' []) := by
  unfold laws_FnExactStillCells at hp
  refine callsH_of_W (l := [(.agg (List.toArray (α := Value) [(.int .i64 a0_0), (.int .i64 a0_1), (.bool a0_2), u0_3, u0_4]))]) (cap := []) 96 Try.func8 rfl rfl rfl ?_
  refine W.seq ?_
  refine W.region ?_
  refine RL.op _ (by decide) (opS_boxed (opv_boxA (cs := [(.int .i64 a0_0), (.int .i64 a0_1), (.bool a0_2), u0_3, u0_4]) rfl rfl)) ?_
  rintro _ hp1 ⟨bb1, rfl, MT_1, T_1⟩
  have X_1 : Mod [] h0 hp1 := Mod.step (A := []) (L := []) (Mod.refl [] h0) (Sep.nil [] h0.size h0) MT_1
  have S_1 : Sep [] h0.size hp1 [boxO bb1 [(.int .i64 a0_0), (.int .i64 a0_1), (.bool a0_2), u0_3, u0_4]] := Sep.step (A := []) (L := []) (Sep.nil [] h0.size h0) (Mod.size (Mod.refl [] h0)) MT_1 T_1
  refine RL.opD (by decide) (opv_assign rfl rfl) ?_
  refine RL.nil ?_
  refine thnN ?_
  refine W.seq ?_
  refine W.region ?_
  refine RL.opD (by decide) (opv_assign rfl rfl) ?_
  refine RL.nil ?_
  refine thnN ?_
  refine W.seq ?_
  obtain ⟨x1, hx1, hp⟩ := Option.bind_eq_some_iff.1 hp
  refine W.region ?_
  refine RL.opD (by decide) (opv_loadA (us := [(.int .i64 a0_0), (.int .i64 a0_1), (.bool a0_2), u0_3, u0_4]) rfl Try.agg24 Try.size24 rfl (Sep.at (o := boxO bb1 [(.int .i64 a0_0), (.int .i64 a0_1), (.bool a0_2), u0_3, u0_4]) S_1 0 rfl) rfl rfl) ?_
  refine RL.opD (by decide) (opv_move rfl rfl) ?_
  refine RL.op _ (by decide) (opv_call (cap := []) (laws_szSheet_ok _ _ _ _ _ _ (SL.up (SL.mod g0_3 X_1 (Nat.le_refl _) nob) (Nat.le_trans (Nat.le_refl _) (Mod.size X_1))) _ _ (SL.up (SL.mod g0_4 X_1 (Nat.le_refl _) nob) (Nat.le_trans (Nat.le_refl _) (Mod.size X_1))) _ _ hx1) rfl rfl ⟨rfl, rfl, trivial⟩ Try.func18 rfl rfl) ?_
  rintro _ hp2 ⟨rfl, MT_2, T_2⟩
  have X_2 : Mod [] h0 hp2 := Mod.step (A := []) (L := [boxO bb1 [(.int .i64 a0_0), (.int .i64 a0_1), (.bool a0_2), u0_3, u0_4]]) X_1 S_1 MT_2
  have S_2 : Sep [] h0.size hp2 [boxO bb1 [(.int .i64 a0_0), (.int .i64 a0_1), (.bool a0_2), u0_3, u0_4]] := Sep.step (A := []) (L := [boxO bb1 [(.int .i64 a0_0), (.int .i64 a0_1), (.bool a0_2), u0_3, u0_4]]) S_1 (Mod.size X_1) MT_2 T_2
  refine RL.opD (by decide) (opv_assign rfl rfl) ?_
  refine RL.nil ?_
  refine thnN ?_
  refine W.seq ?_
  refine W.seq ?_
  refine W.region ?_
  refine RL.opD (by decide) (opv_move rfl rfl) ?_
  refine RL.opD (by decide) (opv_icmp rfl rfl rfl rfl) ?_
  refine RL.nil ?_
  refine thnN ?_
  by_cases c1 : (decide (x1 < 0)) = true
  · rw [if_pos c1] at hp
    refine W.condT rfl c1 ?_
    refine W.seq ?_
    refine W.region ?_
    refine RL.opD (by decide) (opv_assign rfl rfl) ?_
    refine RL.nil ?_
    refine thnN ?_
    refine W.ret ?_
    refine thnR ?_
    have er := Option.some.inj hp
    subst er
    exact Rt.one rfl rfl ⟨rfl, X_2, (Sep.nil _ _ _)⟩
  · rw [if_neg c1] at hp
    have c1 := eq_false_of_ne_true c1
    refine W.condF rfl c1 ?_
    refine W.skip ?_
    refine thnN ?_
    refine W.seq ?_
    obtain ⟨x2, hx2, hp⟩ := Option.bind_eq_some_iff.1 hp
    obtain ⟨x3, hx3, hp⟩ := Option.bind_eq_some_iff.1 hp
    refine W.region ?_
    refine RL.opD (by decide) (opv_loadA (us := [(.int .i64 a0_0), (.int .i64 a0_1), (.bool a0_2), u0_3, u0_4]) rfl Try.agg24 Try.size24 rfl (Sep.at (o := boxO bb1 [(.int .i64 a0_0), (.int .i64 a0_1), (.bool a0_2), u0_3, u0_4]) S_2 0 rfl) rfl rfl) ?_
    refine RL.op _ (by decide) (opv_call (cap := []) (laws_toSheet_ok _ _ _ _ _ _ (SL.up (SL.mod g0_3 X_2 (Nat.le_refl _) nob) (Nat.le_trans (Nat.le_refl _) (Mod.size X_2))) _ _ (SL.up (SL.mod g0_4 X_2 (Nat.le_refl _) nob) (Nat.le_trans (Nat.le_refl _) (Mod.size X_2))) _ hx2) rfl rfl ⟨rfl, trivial⟩ Try.func20 rfl rfl) ?_
    rintro _ hp3 ⟨v1, v2, rfl, MT_3, T_3⟩
    have X_3 : Mod [] h0 hp3 := Mod.step (A := []) (L := [boxO bb1 [(.int .i64 a0_0), (.int .i64 a0_1), (.bool a0_2), u0_3, u0_4]]) X_2 S_2 MT_3
    have S_3 : Sep [] h0.size hp3 [ownO (kF .f32) 40 v1 x2.2.2.2.1, ownO (kF .f32) 40 v2 x2.2.2.2.2, boxO bb1 [(.int .i64 a0_0), (.int .i64 a0_1), (.bool a0_2), u0_3, u0_4]] := Sep.step (A := []) (L := [boxO bb1 [(.int .i64 a0_0), (.int .i64 a0_1), (.bool a0_2), u0_3, u0_4]]) S_2 (Mod.size X_2) MT_3 T_3
    refine RL.op _ (by decide) (opv_call (cap := []) (spec_StillCells_ok _ _ _ _ _ _ (ownO.read (Sep.at (o := ownO (kF .f32) 40 v1 x2.2.2.2.1) S_3 0 rfl)) _ _ (ownO.read (Sep.at (o := ownO (kF .f32) 40 v2 x2.2.2.2.2) S_3 1 rfl)) _ hx3) rfl rfl ⟨rfl, trivial⟩ Try.func41 rfl rfl) ?_
    rintro _ hp4 ⟨v3, rfl, MT_4, T_4⟩
    have X_4 : Mod [] h0 hp4 := Mod.step (A := []) (L := [ownO (kF .f32) 40 v1 x2.2.2.2.1, ownO (kF .f32) 40 v2 x2.2.2.2.2, boxO bb1 [(.int .i64 a0_0), (.int .i64 a0_1), (.bool a0_2), u0_3, u0_4]]) X_3 S_3 MT_4
    have S_4 : Sep [] h0.size hp4 [ownO (kI .i64) 2 v3 x3.1, ownO (kF .f32) 40 v1 x2.2.2.2.1, ownO (kF .f32) 40 v2 x2.2.2.2.2, boxO bb1 [(.int .i64 a0_0), (.int .i64 a0_1), (.bool a0_2), u0_3, u0_4]] := Sep.step (A := []) (L := [ownO (kF .f32) 40 v1 x2.2.2.2.1, ownO (kF .f32) 40 v2 x2.2.2.2.2, boxO bb1 [(.int .i64 a0_0), (.int .i64 a0_1), (.bool a0_2), u0_3, u0_4]]) S_3 (Mod.size X_3) MT_4 T_4
    refine RL.opD (by decide) (opv_move rfl rfl) ?_
    refine RL.opD (by decide) (opv_extract rfl rfl rfl) ?_
    refine RL.opD (by decide) (opv_extract rfl rfl rfl) ?_
    refine RL.opD (by decide) (opv_assign rfl rfl) ?_
    refine RL.opD (by decide) (opv_assign rfl rfl) ?_
    refine RL.nil ?_
    refine thnN ?_
    refine W.seq ?_
    obtain ⟨x4, hx4, hp⟩ := Option.bind_eq_some_iff.1 hp
    refine W.region ?_
    refine RL.opD (by decide) (opv_loadA (us := [(.int .i64 a0_0), (.int .i64 a0_1), (.bool a0_2), u0_3, u0_4]) rfl Try.agg24 Try.size24 rfl (Sep.at (o := boxO bb1 [(.int .i64 a0_0), (.int .i64 a0_1), (.bool a0_2), u0_3, u0_4]) S_4 3 rfl) rfl rfl) ?_
    refine RL.op _ (by decide) (opv_call (cap := []) (laws_toSheet_ok _ _ _ _ _ _ (SL.up (SL.mod g0_3 X_4 (Nat.le_refl _) nob) (Nat.le_trans (Nat.le_refl _) (Mod.size X_4))) _ _ (SL.up (SL.mod g0_4 X_4 (Nat.le_refl _) nob) (Nat.le_trans (Nat.le_refl _) (Mod.size X_4))) _ hx4) rfl rfl ⟨rfl, trivial⟩ Try.func20 rfl rfl) ?_
    rintro _ hp5 ⟨v4, v5, rfl, MT_5, T_5⟩
    have X_5 : Mod [] h0 hp5 := Mod.step (A := []) (L := [ownO (kI .i64) 2 v3 x3.1, ownO (kF .f32) 40 v1 x2.2.2.2.1, ownO (kF .f32) 40 v2 x2.2.2.2.2, boxO bb1 [(.int .i64 a0_0), (.int .i64 a0_1), (.bool a0_2), u0_3, u0_4]]) X_4 S_4 MT_5
    have S_5 : Sep [] h0.size hp5 [ownO (kF .f32) 40 v4 x4.2.2.2.1, ownO (kF .f32) 40 v5 x4.2.2.2.2, ownO (kI .i64) 2 v3 x3.1, ownO (kF .f32) 40 v1 x2.2.2.2.1, ownO (kF .f32) 40 v2 x2.2.2.2.2, boxO bb1 [(.int .i64 a0_0), (.int .i64 a0_1), (.bool a0_2), u0_3, u0_4]] := Sep.step (A := []) (L := [ownO (kI .i64) 2 v3 x3.1, ownO (kF .f32) 40 v1 x2.2.2.2.1, ownO (kF .f32) 40 v2 x2.2.2.2.2, boxO bb1 [(.int .i64 a0_0), (.int .i64 a0_1), (.bool a0_2), u0_3, u0_4]]) S_4 (Mod.size X_4) MT_5 T_5
    refine RL.op _ (by decide) (opS_boxed (opv_alloc (cs := [(.int .i64 0), (.int .i64 0), (.bool false), (.slice none 0 0), (.slice none 0 0)]) rfl Try.zero29 rfl)) ?_
    rintro _ hp6 ⟨bb2, rfl, MT_6, T_6⟩
    have X_6 : Mod [] h0 hp6 := Mod.step (A := []) (L := [ownO (kF .f32) 40 v4 x4.2.2.2.1, ownO (kF .f32) 40 v5 x4.2.2.2.2, ownO (kI .i64) 2 v3 x3.1, ownO (kF .f32) 40 v1 x2.2.2.2.1, ownO (kF .f32) 40 v2 x2.2.2.2.2, boxO bb1 [(.int .i64 a0_0), (.int .i64 a0_1), (.bool a0_2), u0_3, u0_4]]) X_5 S_5 MT_6
    have S_6 : Sep [] h0.size hp6 [boxO bb2 [(.int .i64 0), (.int .i64 0), (.bool false), (.slice none 0 0), (.slice none 0 0)], ownO (kF .f32) 40 v4 x4.2.2.2.1, ownO (kF .f32) 40 v5 x4.2.2.2.2, ownO (kI .i64) 2 v3 x3.1, ownO (kF .f32) 40 v1 x2.2.2.2.1, ownO (kF .f32) 40 v2 x2.2.2.2.2, boxO bb1 [(.int .i64 a0_0), (.int .i64 a0_1), (.bool a0_2), u0_3, u0_4]] := Sep.step (A := []) (L := [ownO (kF .f32) 40 v4 x4.2.2.2.1, ownO (kF .f32) 40 v5 x4.2.2.2.2, ownO (kI .i64) 2 v3 x3.1, ownO (kF .f32) 40 v1 x2.2.2.2.1, ownO (kF .f32) 40 v2 x2.2.2.2.2, boxO bb1 [(.int .i64 a0_0), (.int .i64 a0_1), (.bool a0_2), u0_3, u0_4]]) S_5 (Mod.size X_5) MT_6 T_6
    refine RL.op0 _ (opS_stored (cs := [(.int .i64 0), (.int .i64 0), (.bool false), (.slice none 0 0), (.slice none 0 0)]) (cs' := [(.int .i64 x4.1), (.int .i64 x4.2.1), (.bool x4.2.2.1), v4, v5]) (opv_storeA (us := [(.int .i64 x4.1), (.int .i64 x4.2.1), (.bool x4.2.2.1), v4, v5]) rfl Try.size29 rfl rfl (oneAll rfl (oneAll rfl (oneAll rfl (oneAll (ownO.one (Sep.at (o := ownO (kF .f32) 40 v4 x4.2.2.2.1) S_6 1 rfl)) (oneAll (ownO.one (Sep.at (o := ownO (kF .f32) 40 v5 x4.2.2.2.2) S_6 2 rfl)) rfl))))) (Sep.at (o := boxO bb2 [(.int .i64 0), (.int .i64 0), (.bool false), (.slice none 0 0), (.slice none 0 0)]) S_6 0 rfl) rfl rfl) (Sep.at (o := boxO bb2 [(.int .i64 0), (.int .i64 0), (.bool false), (.slice none 0 0), (.slice none 0 0)]) S_6 0 rfl)) ?_
    rintro _ hp7 ⟨rfl, MT_7, T_7⟩
    have S_7 : Sep [] h0.size hp6 ([boxO bb2 [(.int .i64 0), (.int .i64 0), (.bool false), (.slice none 0 0), (.slice none 0 0)]] ++ [ownO (kF .f32) 40 v4 x4.2.2.2.1, ownO (kF .f32) 40 v5 x4.2.2.2.2, ownO (kI .i64) 2 v3 x3.1, ownO (kF .f32) 40 v1 x2.2.2.2.1, ownO (kF .f32) 40 v2 x2.2.2.2.2, boxO bb1 [(.int .i64 a0_0), (.int .i64 a0_1), (.bool a0_2), u0_3, u0_4]]) := Sep.sel S_6 [0, 1, 2, 3, 4, 5, 6] (by decide)
    have X_7 : Mod [] h0 hp7 := Mod.step (A := [boxO bb2 [(.int .i64 0), (.int .i64 0), (.bool false), (.slice none 0 0), (.slice none 0 0)]]) (L := [ownO (kF .f32) 40 v4 x4.2.2.2.1, ownO (kF .f32) 40 v5 x4.2.2.2.2, ownO (kI .i64) 2 v3 x3.1, ownO (kF .f32) 40 v1 x2.2.2.2.1, ownO (kF .f32) 40 v2 x2.2.2.2.2, boxO bb1 [(.int .i64 a0_0), (.int .i64 a0_1), (.bool a0_2), u0_3, u0_4]]) X_6 S_7 MT_7
    have S_8 : Sep [] h0.size hp7 [boxO bb2 [(.int .i64 x4.1), (.int .i64 x4.2.1), (.bool x4.2.2.1), v4, v5], ownO (kF .f32) 40 v4 x4.2.2.2.1, ownO (kF .f32) 40 v5 x4.2.2.2.2, ownO (kI .i64) 2 v3 x3.1, ownO (kF .f32) 40 v1 x2.2.2.2.1, ownO (kF .f32) 40 v2 x2.2.2.2.2, boxO bb1 [(.int .i64 a0_0), (.int .i64 a0_1), (.bool a0_2), u0_3, u0_4]] := Sep.step (A := [boxO bb2 [(.int .i64 0), (.int .i64 0), (.bool false), (.slice none 0 0), (.slice none 0 0)]]) (L := [ownO (kF .f32) 40 v4 x4.2.2.2.1, ownO (kF .f32) 40 v5 x4.2.2.2.2, ownO (kI .i64) 2 v3 x3.1, ownO (kF .f32) 40 v1 x2.2.2.2.1, ownO (kF .f32) 40 v2 x2.2.2.2.2, boxO bb1 [(.int .i64 a0_0), (.int .i64 a0_1), (.bool a0_2), u0_3, u0_4]]) S_7 (Mod.size X_6) MT_7 T_7
    refine RL.nil ?_
    refine thnN ?_
    refine W.seq ?_
    obtain ⟨x5, hx5, hp⟩ := Option.bind_eq_some_iff.1 hp
    refine W.region ?_
    refine RL.opD (by decide) (opv_loadA (us := [(.int .i64 x4.1), (.int .i64 x4.2.1), (.bool x4.2.2.1), v4, v5]) rfl Try.agg29 Try.size29 rfl (Sep.at (o := boxO bb2 [(.int .i64 x4.1), (.int .i64 x4.2.1), (.bool x4.2.2.1), v4, v5]) S_8 0 rfl) rfl rfl) ?_
    refine RL.op _ (by decide) (opv_call (cap := []) (impl_StillCells_ok _ _ _ _ _ _ (ownO.read (Sep.at (o := ownO (kF .f32) 40 v4 x4.2.2.2.1) S_8 1 rfl)) _ _ (ownO.read (Sep.at (o := ownO (kF .f32) 40 v5 x4.2.2.2.2) S_8 2 rfl)) _ hx5) rfl rfl ⟨rfl, trivial⟩ Try.func42 rfl rfl) ?_
    rintro _ hp8 ⟨v6, rfl, MT_8, T_8⟩
    have X_8 : Mod [] h0 hp8 := Mod.step (A := []) (L := [boxO bb2 [(.int .i64 x4.1), (.int .i64 x4.2.1), (.bool x4.2.2.1), v4, v5], ownO (kF .f32) 40 v4 x4.2.2.2.1, ownO (kF .f32) 40 v5 x4.2.2.2.2, ownO (kI .i64) 2 v3 x3.1, ownO (kF .f32) 40 v1 x2.2.2.2.1, ownO (kF .f32) 40 v2 x2.2.2.2.2, boxO bb1 [(.int .i64 a0_0), (.int .i64 a0_1), (.bool a0_2), u0_3, u0_4]]) X_7 S_8 MT_8
    have S_9 : Sep [] h0.size hp8 [ownO (kI .i64) 2 v6 x5.1, boxO bb2 [(.int .i64 x4.1), (.int .i64 x4.2.1), (.bool x4.2.2.1), v4, v5], ownO (kF .f32) 40 v4 x4.2.2.2.1, ownO (kF .f32) 40 v5 x4.2.2.2.2, ownO (kI .i64) 2 v3 x3.1, ownO (kF .f32) 40 v1 x2.2.2.2.1, ownO (kF .f32) 40 v2 x2.2.2.2.2, boxO bb1 [(.int .i64 a0_0), (.int .i64 a0_1), (.bool a0_2), u0_3, u0_4]] := Sep.step (A := []) (L := [boxO bb2 [(.int .i64 x4.1), (.int .i64 x4.2.1), (.bool x4.2.2.1), v4, v5], ownO (kF .f32) 40 v4 x4.2.2.2.1, ownO (kF .f32) 40 v5 x4.2.2.2.2, ownO (kI .i64) 2 v3 x3.1, ownO (kF .f32) 40 v1 x2.2.2.2.1, ownO (kF .f32) 40 v2 x2.2.2.2.2, boxO bb1 [(.int .i64 a0_0), (.int .i64 a0_1), (.bool a0_2), u0_3, u0_4]]) S_8 (Mod.size X_7) MT_8 T_8
    refine RL.opD (by decide) (opv_move rfl rfl) ?_
    refine RL.opD (by decide) (opv_extract rfl rfl rfl) ?_
    refine RL.opD (by decide) (opv_extract rfl rfl rfl) ?_
    refine RL.opD (by decide) (opv_assign rfl rfl) ?_
    refine RL.opD (by decide) (opv_assign rfl rfl) ?_
    refine RL.nil ?_
    refine thnN ?_
    refine W.seq ?_
    refine W.seq ?_
    obtain ⟨x6, hy1, hp⟩ := Option.bind_eq_some_iff.1 hp
    refine W.cut (fun φ' h' => Fr.sub [(0, (.agg (List.toArray (α := Value) [(.int .i64 a0_0), (.int .i64 a0_1), (.bool a0_2), u0_3, u0_4]))), (1, (.pointer (some ⟨bb1, 0, none⟩))), (2, (.bool false)), (3, (.int .i64 x1)), (18, (.bool (decide (x1 < 0)))), (4, v3), (5, (.bool x3.2)), (6, (.pointer (some ⟨bb2, 0, none⟩))), (7, v6), (8, (.bool x5.2)), (40, (.bool x6))] φ' ∧ hp8 = h') ?_ ?_
    · obtain ⟨x7, hx7, hy1⟩ := Option.bind_eq_some_iff.1 hy1
      by_cases c2 : (!x7) = true
      · rw [if_pos c2] at hy1
        refine W.region ?_
        refine RL.opD (by decide) (opv_move rfl rfl) ?_
        refine RL.opD (by decide) (opv_move rfl rfl) ?_
        refine RL.op _ (by decide) (opv_call (cap := []) (laws_eqInt64S_ok _ _ _ (ownO.read (Sep.at (o := ownO (kI .i64) 2 v6 x5.1) S_9 0 rfl)) _ _ (ownO.read (Sep.at (o := ownO (kI .i64) 2 v3 x3.1) S_9 4 rfl)) _ hx7) rfl rfl ⟨rfl, rfl, trivial⟩ Try.func43 rfl rfl) ?_
        rintro _ _ ⟨rfl, rfl⟩
        refine RL.opD (by decide) (opv_not rfl rfl) ?_
        refine RL.opD (by decide) (opv_move rfl rfl) ?_
        refine RL.no rfl rfl (Eq.trans c2 (by decide)) (by decide) ?_
        refine RL.no rfl rfl (Eq.trans c2 (by decide)) (by decide) ?_
        refine RL.no rfl rfl (Eq.trans c2 (by decide)) (by decide) ?_
        refine RL.opD (by decide) (opv_pick rfl rfl (fun _ => rfl) (fun e => absurd (Eq.trans (Eq.symm e) c2) (by decide)) rfl) ?_
        refine RL.nil ?_
        have ey1 := Option.some.inj hy1
        subst ey1
        refine onlyN ?_
        exact ⟨⟨rfl, rfl, rfl, rfl, rfl, rfl, rfl, rfl, rfl, rfl, rfl, trivial⟩, rfl⟩
      · rw [if_neg c2] at hy1
        have c2 := eq_false_of_ne_true c2
        refine W.region ?_
        refine RL.opD (by decide) (opv_move rfl rfl) ?_
        refine RL.opD (by decide) (opv_move rfl rfl) ?_
        refine RL.op _ (by decide) (opv_call (cap := []) (laws_eqInt64S_ok _ _ _ (ownO.read (Sep.at (o := ownO (kI .i64) 2 v6 x5.1) S_9 0 rfl)) _ _ (ownO.read (Sep.at (o := ownO (kI .i64) 2 v3 x3.1) S_9 4 rfl)) _ hx7) rfl rfl ⟨rfl, rfl, trivial⟩ Try.func43 rfl rfl) ?_
        rintro _ _ ⟨rfl, rfl⟩
        refine RL.opD (by decide) (opv_not rfl rfl) ?_
        refine RL.opD (by decide) (opv_move rfl rfl) ?_
        refine RL.yes _ rfl rfl c2 (by decide) (opv_move rfl rfl) ?_
        rintro _ _ ⟨rfl, rfl⟩
        refine RL.yes _ rfl rfl c2 (by decide) (opv_move rfl rfl) ?_
        rintro _ _ ⟨rfl, rfl⟩
        refine RL.yes _ rfl rfl c2 (by decide) (opv_bcmp rfl rfl Try.underlying4 rfl rfl) ?_
        rintro _ _ ⟨rfl, rfl⟩
        refine RL.opD (by decide) (opv_pick rfl rfl (fun e => absurd (Eq.trans (Eq.symm e) c2) (by decide)) (fun _ => rfl) rfl) ?_
        refine RL.nil ?_
        have ey1 := Option.some.inj hy1
        subst ey1
        refine onlyN ?_
        exact ⟨⟨rfl, rfl, rfl, rfl, rfl, rfl, rfl, rfl, rfl, rfl, rfl, trivial⟩, rfl⟩
    rintro φ' _ ⟨hs1, rfl⟩
    refine thnN ?_
    refine W.sub hs1 ?_
    by_cases c3 : x6 = true
    · rw [if_pos c3] at hp
      refine W.condT rfl c3 ?_
      refine W.seq ?_
      refine W.region ?_
      refine RL.opD (by decide) (opv_assign rfl rfl) ?_
      refine RL.nil ?_
      refine thnN ?_
      refine W.ret ?_
      refine thnR ?_
      have er := Option.some.inj hp
      subst er
      exact Rt.one rfl rfl ⟨rfl, X_8, (Sep.nil _ _ _)⟩
    · rw [if_neg c3] at hp
      have c3 := eq_false_of_ne_true c3
      refine W.condF rfl c3 ?_
      refine W.skip ?_
      refine thnN ?_
      refine W.seq ?_
      refine W.seq ?_
      obtain ⟨x8, hx8, hp⟩ := Option.bind_eq_some_iff.1 hp
      obtain ⟨x9, hx9, hp⟩ := Option.bind_eq_some_iff.1 hp
      refine W.sub (ψ := [(0, (.agg (List.toArray (α := Value) [(.int .i64 a0_0), (.int .i64 a0_1), (.bool a0_2), u0_3, u0_4]))), (1, (.pointer (some ⟨bb1, 0, none⟩))), (2, (.bool false)), (3, (.int .i64 x1)), (18, (.bool (decide (x1 < 0)))), (4, v3), (5, (.bool x3.2)), (6, (.pointer (some ⟨bb2, 0, none⟩))), (7, v6), (8, (.bool x5.2)), (40, (.bool x6))]) ⟨rfl, rfl, rfl, rfl, rfl, rfl, rfl, rfl, rfl, rfl, rfl, trivial⟩ ?_
      refine W.regionM [fun v _ => @Eq Value (.agg (List.toArray (α := Value) [(.int .i64 x4.1), (.int .i64 x4.2.1), (.bool x4.2.2.1), v4, v5])) v, fun v _ => @Eq Value (.agg (List.toArray (α := Value) [(.int .i64 a0_0), (.int .i64 a0_1), (.bool a0_2), u0_3, u0_4])) v, fun v h => ∃ v7, ∃ v8, @Eq Value v (.agg (List.toArray (α := Value) [(.int .i64 x8.1), (.int .i64 x8.2.1), (.bool x8.2.2.1), v7, v8])) ∧ Sep [] hp8.size h [ownO (kF .f32) 40 v7 x8.2.2.2.1, ownO (kF .f32) 40 v8 x8.2.2.2.2], fun v h => @Eq Value v (.bool x9) ∧ Sep [] hp8.size h [], fun v _ => @Eq Value (.bool (!x9)) v] [none, none, some (fun u => [Value.ownBlock (vget u 3), Value.ownBlock (vget u 4)]), some (fun u => []), none] [] [[], [], [1], [0, 2], [3]] [4] Try.mixed (by decide +kernel) (by decide +kernel) rfl rfl rfl (by decide +kernel) rfl ⟨fun _ _ _ h _ => h, fun _ _ _ h _ => h, fun _ _ _ ⟨u0_, u1_, e, h⟩ x => ⟨u0_, u1_, e, h.ext x⟩, fun _ _ _ ⟨e, h⟩ x => ⟨e, h.ext x⟩, fun _ _ _ h _ => h, trivial⟩ ?_ ?_
      · refine ⟨⟨rfl, ?_⟩, ⟨rfl, ?_⟩, ⟨rfl, ?_⟩, ⟨rfl, ?_⟩, ⟨rfl, ?_⟩, trivial⟩
        · rintro hp11 E_1
          refine Dep.nil ?_
          refine GuardOK.none rfl ?_
          exact OpV.toDx (opv_loadA (us := [(.int .i64 x4.1), (.int .i64 x4.2.1), (.bool x4.2.2.1), v4, v5]) rfl Try.agg29 Try.size29 rfl (Sep.at (o := boxO bb2 [(.int .i64 x4.1), (.int .i64 x4.2.1), (.bool x4.2.2.1), v4, v5]) (Sep.ext S_9 E_1) 1 rfl) rfl rfl) rfl
        · rintro hp12 E_2
          refine Dep.nil ?_
          refine GuardOK.none rfl ?_
          exact OpV.toDx (opv_loadA (us := [(.int .i64 a0_0), (.int .i64 a0_1), (.bool a0_2), u0_3, u0_4]) rfl Try.agg24 Try.size24 rfl (Sep.at (o := boxO bb1 [(.int .i64 a0_0), (.int .i64 a0_1), (.bool a0_2), u0_3, u0_4]) (Sep.ext S_9 E_2) 7 rfl) rfl rfl) rfl
        · rintro hp13 E_3 _ rfl
          refine Dep.nil ?_
          refine GuardOK.none rfl ?_
          exact OpV.mono (opv_call (cap := []) (laws_toSheet_ok _ _ _ _ _ _ (SL.up (SL.mod g0_3 (Mod.lift X_8 E_3) (Nat.le_refl _) nob) (Nat.le_trans (Nat.le_refl _) (Mod.size (Mod.lift X_8 E_3)))) _ _ (SL.up (SL.mod g0_4 (Mod.lift X_8 E_3) (Nat.le_refl _) nob) (Nat.le_trans (Nat.le_refl _) (Mod.size (Mod.lift X_8 E_3)))) _ hx8) rfl rfl ⟨rfl, trivial⟩ Try.func20 rfl rfl) (by rintro _ _ ⟨v7, v8, rfl, M_, T_⟩; exact ⟨Mod.ext M_, ⟨v7, v8, rfl, Sep.weak T_ (Ext.size E_3)⟩, Sep.fresh T_⟩)
        · rintro hp14 E_4 _ rfl _ ⟨v7, v8, rfl, T_9⟩
          refine Dep.nil ?_
          refine GuardOK.none rfl ?_
          exact OpV.mono (opv_call (cap := []) (laws_eqSheet_ok _ _ _ _ _ _ (ownO.read (Sep.at (o := ownO (kF .f32) 40 v4 x4.2.2.2.1) (Sep.ext S_9 E_4) 2 rfl)) _ _ (ownO.read (Sep.at (o := ownO (kF .f32) 40 v5 x4.2.2.2.2) (Sep.ext S_9 E_4) 3 rfl)) _ _ _ _ _ (ownO.read (Sep.at (o := ownO (kF .f32) 40 v7 x8.2.2.2.1) T_9 0 rfl)) _ _ (ownO.read (Sep.at (o := ownO (kF .f32) 40 v8 x8.2.2.2.2) T_9 1 rfl)) _ hx9) rfl rfl ⟨rfl, rfl, trivial⟩ Try.func23 rfl rfl) (by rintro _ _ ⟨rfl, M_, T_⟩; exact ⟨Mod.ext M_, ⟨rfl, Sep.weak T_ (Ext.size E_4)⟩, Sep.fresh T_⟩)
        · rintro hp15 E_5 _ ⟨rfl, T_10⟩
          refine Dep.nil ?_
          refine GuardOK.none rfl ?_
          exact OpV.toDx (opv_not rfl rfl) rfl
      rintro hp16 E_6 _ rfl
      refine DepM.nil ?_
      intro _ LK_
      have X_11 : Mod [] h0 hp16 := Mod.lift X_8 E_6
      have S_12 : Sep [] h0.size hp16 [ownO (kI .i64) 2 v6 x5.1, boxO bb2 [(.int .i64 x4.1), (.int .i64 x4.2.1), (.bool x4.2.2.1), v4, v5], ownO (kF .f32) 40 v4 x4.2.2.2.1, ownO (kF .f32) 40 v5 x4.2.2.2.2, ownO (kI .i64) 2 v3 x3.1, ownO (kF .f32) 40 v1 x2.2.2.2.1, ownO (kF .f32) 40 v2 x2.2.2.2.2, boxO bb1 [(.int .i64 a0_0), (.int .i64 a0_1), (.bool a0_2), u0_3, u0_4]] := Sep.ext S_9 E_6
      show RL _ _ _ _ [] _ _
      refine RL.nil ?_
      refine thnN ?_
      by_cases c4 : (!x9) = true
      · rw [if_pos c4] at hp
        refine W.condT rfl c4 ?_
        refine W.seq ?_
        refine W.region ?_
        refine RL.opD (by decide) (opv_assign rfl rfl) ?_
        refine RL.nil ?_
        refine thnN ?_
        refine W.ret ?_
        refine thnR ?_
        have er := Option.some.inj hp
        subst er
        exact Rt.one rfl rfl ⟨rfl, X_11, (Sep.nil _ _ _)⟩
      · rw [if_neg c4] at hp
        have c4 := eq_false_of_ne_true c4
        refine W.condF rfl c4 ?_
        refine W.skip ?_
        refine thnN ?_
        refine W.seq ?_
        refine W.region ?_
        refine RL.opD (by decide) (opv_assign rfl rfl) ?_
        refine RL.nil ?_
        refine thnN ?_
        refine W.seq ?_
        obtain ⟨x10, hx10, hp⟩ := Option.bind_eq_some_iff.1 hp
        refine W.region ?_
        refine RL.opD (by decide) (opv_loadA (us := [(.int .i64 x4.1), (.int .i64 x4.2.1), (.bool x4.2.2.1), v4, v5]) rfl Try.agg29 Try.size29 rfl (Sep.at (o := boxO bb2 [(.int .i64 x4.1), (.int .i64 x4.2.1), (.bool x4.2.2.1), v4, v5]) S_12 1 rfl) rfl rfl) ?_
        refine RL.opD (by decide) (opv_move rfl rfl) ?_
        have S_14 : Sep [] h0.size hp16 [ownO (kF .f32) 40 v4 x4.2.2.2.1, ownO (kF .f32) 40 v5 x4.2.2.2.2] := Sep.sel S_12 [2, 3] (by decide)
        have S_13 : Sep [v4.ownBlock, v5.ownBlock] hp16.size hp16 [ownO (kF .f32) 40 v4 x4.2.2.2.1, ownO (kF .f32) 40 v5 x4.2.2.2.2] := Sep.own S_14 _
        refine RL.op _ (by decide) (opv_call (cap := []) (laws_markSheet_ok _ h0.size (Nat.le_trans (Nat.le_refl _) (Mod.size X_11)) _ _ _ _ _ _ _ _ S_13 (Sep.ge (L := [ownO (kF .f32) 40 v4 x4.2.2.2.1, ownO (kF .f32) 40 v5 x4.2.2.2.2]) S_14 (Nat.le_refl _) nob) _ hx10) rfl rfl ⟨rfl, rfl, trivial⟩ Try.func44 rfl rfl) ?_
        rintro _ hp17 ⟨rfl, MT_11, T_11⟩
        have S_15 : Sep [] h0.size hp16 ([ownO (kF .f32) 40 v4 x4.2.2.2.1, ownO (kF .f32) 40 v5 x4.2.2.2.2] ++ [ownO (kI .i64) 2 v6 x5.1, boxO bb2 [(.int .i64 x4.1), (.int .i64 x4.2.1), (.bool x4.2.2.1), v4, v5], ownO (kI .i64) 2 v3 x3.1, ownO (kF .f32) 40 v1 x2.2.2.2.1, ownO (kF .f32) 40 v2 x2.2.2.2.2, boxO bb1 [(.int .i64 a0_0), (.int .i64 a0_1), (.bool a0_2), u0_3, u0_4]]) := Sep.sel S_12 [2, 3, 0, 1, 4, 5, 6, 7] (by decide)
        have X_12 : Mod [] h0 hp17 := Mod.step (A := [ownO (kF .f32) 40 v4 x4.2.2.2.1, ownO (kF .f32) 40 v5 x4.2.2.2.2]) (L := [ownO (kI .i64) 2 v6 x5.1, boxO bb2 [(.int .i64 x4.1), (.int .i64 x4.2.1), (.bool x4.2.2.1), v4, v5], ownO (kI .i64) 2 v3 x3.1, ownO (kF .f32) 40 v1 x2.2.2.2.1, ownO (kF .f32) 40 v2 x2.2.2.2.2, boxO bb1 [(.int .i64 a0_0), (.int .i64 a0_1), (.bool a0_2), u0_3, u0_4]]) X_11 S_15 MT_11
        have S_16 : Sep [] h0.size hp17 [ownO (kF .f32) 40 v4 x10.2.1, ownO (kF .f32) 40 v5 x10.2.2, ownO (kI .i64) 2 v6 x5.1, boxO bb2 [(.int .i64 x4.1), (.int .i64 x4.2.1), (.bool x4.2.2.1), v4, v5], ownO (kI .i64) 2 v3 x3.1, ownO (kF .f32) 40 v1 x2.2.2.2.1, ownO (kF .f32) 40 v2 x2.2.2.2.2, boxO bb1 [(.int .i64 a0_0), (.int .i64 a0_1), (.bool a0_2), u0_3, u0_4]] := Sep.step (A := [ownO (kF .f32) 40 v4 x4.2.2.2.1, ownO (kF .f32) 40 v5 x4.2.2.2.2]) (L := [ownO (kI .i64) 2 v6 x5.1, boxO bb2 [(.int .i64 x4.1), (.int .i64 x4.2.1), (.bool x4.2.2.1), v4, v5], ownO (kI .i64) 2 v3 x3.1, ownO (kF .f32) 40 v1 x2.2.2.2.1, ownO (kF .f32) 40 v2 x2.2.2.2.2, boxO bb1 [(.int .i64 a0_0), (.int .i64 a0_1), (.bool a0_2), u0_3, u0_4]]) S_15 (Mod.size X_11) MT_11 T_11
        refine RL.opD (by decide) (opv_assign rfl rfl) ?_
        refine RL.nil ?_
        refine thnN ?_
        refine W.seq ?_
        refine W.seq ?_
        obtain ⟨x11, hy2, hp⟩ := Option.bind_eq_some_iff.1 hp
        refine W.cut (fun φ' h' => Fr.sub [(0, (.agg (List.toArray (α := Value) [(.int .i64 a0_0), (.int .i64 a0_1), (.bool a0_2), u0_3, u0_4]))), (1, (.pointer (some ⟨bb1, 0, none⟩))), (2, (.bool false)), (3, (.int .i64 x1)), (18, (.bool (decide (x1 < 0)))), (4, v3), (5, (.bool x3.2)), (6, (.pointer (some ⟨bb2, 0, none⟩))), (7, v6), (8, (.bool x5.2)), (40, (.bool x6)), (45, (.bool (!x9))), (9, (.int .i64 x10.1)), (61, (.bool x11))] φ' ∧ hp17 = h') ?_ ?_
        · by_cases c5 : (decide (x10.1 < 0)) = true
          · rw [if_pos c5] at hy2
            refine W.region ?_
            refine RL.opD (by decide) (opv_move rfl rfl) ?_
            refine RL.opD (by decide) (opv_icmp rfl rfl rfl rfl) ?_
            refine RL.opD (by decide) (opv_move rfl rfl) ?_
            refine RL.no rfl rfl (Eq.trans c5 (by decide)) (by decide) ?_
            refine RL.no rfl rfl (Eq.trans c5 (by decide)) (by decide) ?_
            refine RL.no rfl rfl (Eq.trans c5 (by decide)) (by decide) ?_
            refine RL.no rfl rfl (Eq.trans c5 (by decide)) (by decide) ?_
            refine RL.opD (by decide) (opv_pick rfl rfl (fun _ => rfl) (fun e => absurd (Eq.trans (Eq.symm e) c5) (by decide)) rfl) ?_
            refine RL.opD (by decide) (opv_move rfl rfl) ?_
            refine RL.no rfl rfl (Eq.trans rfl (by decide)) (by decide) ?_
            refine RL.no rfl rfl (Eq.trans rfl (by decide)) (by decide) ?_
            refine RL.no rfl rfl (Eq.trans rfl (by decide)) (by decide) ?_
            refine RL.opD (by decide) (opv_pick rfl rfl (fun _ => rfl) (fun e => absurd (Eq.trans (Eq.symm e) rfl) (by decide)) rfl) ?_
            refine RL.nil ?_
            have ey2 := Option.some.inj hy2
            subst ey2
            refine onlyN ?_
            exact ⟨⟨rfl, rfl, rfl, rfl, rfl, rfl, rfl, rfl, rfl, rfl, rfl, rfl, rfl, rfl, trivial⟩, rfl⟩
          · rw [if_neg c5] at hy2
            have c5 := eq_false_of_ne_true c5
            obtain ⟨x12, hx12, hy2⟩ := Option.bind_eq_some_iff.1 hy2
            by_cases c6 : (!x12) = true
            · rw [if_pos c6] at hy2
              refine W.region ?_
              refine RL.opD (by decide) (opv_move rfl rfl) ?_
              refine RL.opD (by decide) (opv_icmp rfl rfl rfl rfl) ?_
              refine RL.opD (by decide) (opv_move rfl rfl) ?_
              refine RL.yes _ rfl rfl c5 (by decide) (opv_move rfl rfl) ?_
              rintro _ _ ⟨rfl, rfl⟩
              refine RL.yes _ rfl rfl c5 (by decide) (opv_move rfl rfl) ?_
              rintro _ _ ⟨rfl, rfl⟩
              refine RL.yes _ rfl rfl c5 (by decide) (opv_call (cap := []) (laws_eqInt64S_ok _ _ _ (ownO.read (Sep.at (o := ownO (kI .i64) 2 v6 x5.1) S_16 2 rfl)) _ _ (ownO.read (Sep.at (o := ownO (kI .i64) 2 v3 x3.1) S_16 4 rfl)) _ hx12) rfl rfl ⟨rfl, rfl, trivial⟩ Try.func43 rfl rfl) ?_
              rintro _ _ ⟨rfl, rfl⟩
              refine RL.yes _ rfl rfl c5 (by decide) (opv_not rfl rfl) ?_
              rintro _ _ ⟨rfl, rfl⟩
              refine RL.opD (by decide) (opv_pick rfl rfl (fun e => absurd (Eq.trans (Eq.symm e) c5) (by decide)) (fun _ => rfl) rfl) ?_
              refine RL.opD (by decide) (opv_move rfl rfl) ?_
              refine RL.no rfl rfl (Eq.trans c6 (by decide)) (by decide) ?_
              refine RL.no rfl rfl (Eq.trans c6 (by decide)) (by decide) ?_
              refine RL.no rfl rfl (Eq.trans c6 (by decide)) (by decide) ?_
              refine RL.opD (by decide) (opv_pick rfl rfl (fun _ => rfl) (fun e => absurd (Eq.trans (Eq.symm e) c6) (by decide)) rfl) ?_
              refine RL.nil ?_
              have ey2 := Option.some.inj hy2
              subst ey2
              refine onlyN ?_
              exact ⟨⟨rfl, rfl, rfl, rfl, rfl, rfl, rfl, rfl, rfl, rfl, rfl, rfl, rfl, rfl, trivial⟩, rfl⟩
            · rw [if_neg c6] at hy2
              have c6 := eq_false_of_ne_true c6
              refine W.region ?_
              refine RL.opD (by decide) (opv_move rfl rfl) ?_
              refine RL.opD (by decide) (opv_icmp rfl rfl rfl rfl) ?_
              refine RL.opD (by decide) (opv_move rfl rfl) ?_
              refine RL.yes _ rfl rfl c5 (by decide) (opv_move rfl rfl) ?_
              rintro _ _ ⟨rfl, rfl⟩
              refine RL.yes _ rfl rfl c5 (by decide) (opv_move rfl rfl) ?_
              rintro _ _ ⟨rfl, rfl⟩
              refine RL.yes _ rfl rfl c5 (by decide) (opv_call (cap := []) (laws_eqInt64S_ok _ _ _ (ownO.read (Sep.at (o := ownO (kI .i64) 2 v6 x5.1) S_16 2 rfl)) _ _ (ownO.read (Sep.at (o := ownO (kI .i64) 2 v3 x3.1) S_16 4 rfl)) _ hx12) rfl rfl ⟨rfl, rfl, trivial⟩ Try.func43 rfl rfl) ?_
              rintro _ _ ⟨rfl, rfl⟩
              refine RL.yes _ rfl rfl c5 (by decide) (opv_not rfl rfl) ?_
              rintro _ _ ⟨rfl, rfl⟩
              refine RL.opD (by decide) (opv_pick rfl rfl (fun e => absurd (Eq.trans (Eq.symm e) c5) (by decide)) (fun _ => rfl) rfl) ?_
              refine RL.opD (by decide) (opv_move rfl rfl) ?_
              refine RL.yes _ rfl rfl c6 (by decide) (opv_move rfl rfl) ?_
              rintro _ _ ⟨rfl, rfl⟩
              refine RL.yes _ rfl rfl c6 (by decide) (opv_move rfl rfl) ?_
              rintro _ _ ⟨rfl, rfl⟩
              refine RL.yes _ rfl rfl c6 (by decide) (opv_bcmp rfl rfl Try.underlying4 rfl rfl) ?_
              rintro _ _ ⟨rfl, rfl⟩
              refine RL.opD (by decide) (opv_pick rfl rfl (fun e => absurd (Eq.trans (Eq.symm e) c6) (by decide)) (fun _ => rfl) rfl) ?_
              refine RL.nil ?_
              have ey2 := Option.some.inj hy2
              subst ey2
              refine onlyN ?_
              exact ⟨⟨rfl, rfl, rfl, rfl, rfl, rfl, rfl, rfl, rfl, rfl, rfl, rfl, rfl, rfl, trivial⟩, rfl⟩
        rintro φ' _ ⟨hs2, rfl⟩
        refine thnN ?_
        refine W.sub hs2 ?_
        by_cases c7 : x11 = true
        · rw [if_pos c7] at hp
          refine W.condT rfl c7 ?_
          refine W.seq ?_
          refine W.region ?_
          refine RL.opD (by decide) (opv_assign rfl rfl) ?_
          refine RL.nil ?_
          refine thnN ?_
          refine W.ret ?_
          refine thnR ?_
          have er := Option.some.inj hp
          subst er
          exact Rt.one rfl rfl ⟨rfl, X_12, (Sep.nil _ _ _)⟩
        · rw [if_neg c7] at hp
          have c7 := eq_false_of_ne_true c7
          refine W.condF rfl c7 ?_
          refine W.skip ?_
          refine thnN ?_
          refine W.seq ?_
          refine W.region ?_
          refine RL.opD (by decide) (opv_assign rfl rfl) ?_
          refine RL.nil ?_
          refine thnN ?_
          refine W.seq ?_
          obtain ⟨x13, hx13, hp⟩ := Option.bind_eq_some_iff.1 hp
          refine W.region ?_
          refine RL.opD (by decide) (opv_move rfl rfl) ?_
          refine RL.opD (by decide) (opv_move rfl rfl) ?_
          have S_18 : Sep [] h0.size hp17 [ownO (kI .i64) 2 v6 x5.1] := Sep.sel S_16 [2] (by decide)
          have S_17 : Sep [v6.ownBlock] hp17.size hp17 [ownO (kI .i64) 2 v6 x5.1] := Sep.own S_18 _
          refine RL.op _ (by decide) (opv_call (cap := []) (laws_markInt64S_ok _ h0.size (Nat.le_trans (Nat.le_refl _) (Mod.size X_12)) _ _ _ S_17 (Sep.ge (L := [ownO (kI .i64) 2 v6 x5.1]) S_18 (Nat.le_refl _) nob) _ hx13) rfl rfl ⟨rfl, rfl, trivial⟩ Try.func45 rfl rfl) ?_
          rintro _ hp18 ⟨rfl, MT_12, T_12⟩
          have S_19 : Sep [] h0.size hp17 ([ownO (kI .i64) 2 v6 x5.1] ++ [ownO (kF .f32) 40 v4 x10.2.1, ownO (kF .f32) 40 v5 x10.2.2, boxO bb2 [(.int .i64 x4.1), (.int .i64 x4.2.1), (.bool x4.2.2.1), v4, v5], ownO (kI .i64) 2 v3 x3.1, ownO (kF .f32) 40 v1 x2.2.2.2.1, ownO (kF .f32) 40 v2 x2.2.2.2.2, boxO bb1 [(.int .i64 a0_0), (.int .i64 a0_1), (.bool a0_2), u0_3, u0_4]]) := Sep.sel S_16 [2, 0, 1, 3, 4, 5, 6, 7] (by decide)
          have X_13 : Mod [] h0 hp18 := Mod.step (A := [ownO (kI .i64) 2 v6 x5.1]) (L := [ownO (kF .f32) 40 v4 x10.2.1, ownO (kF .f32) 40 v5 x10.2.2, boxO bb2 [(.int .i64 x4.1), (.int .i64 x4.2.1), (.bool x4.2.2.1), v4, v5], ownO (kI .i64) 2 v3 x3.1, ownO (kF .f32) 40 v1 x2.2.2.2.1, ownO (kF .f32) 40 v2 x2.2.2.2.2, boxO bb1 [(.int .i64 a0_0), (.int .i64 a0_1), (.bool a0_2), u0_3, u0_4]]) X_12 S_19 MT_12
          have S_20 : Sep [] h0.size hp18 [ownO (kI .i64) 2 v6 x13.2, ownO (kF .f32) 40 v4 x10.2.1, ownO (kF .f32) 40 v5 x10.2.2, boxO bb2 [(.int .i64 x4.1), (.int .i64 x4.2.1), (.bool x4.2.2.1), v4, v5], ownO (kI .i64) 2 v3 x3.1, ownO (kF .f32) 40 v1 x2.2.2.2.1, ownO (kF .f32) 40 v2 x2.2.2.2.2, boxO bb1 [(.int .i64 a0_0), (.int .i64 a0_1), (.bool a0_2), u0_3, u0_4]] := Sep.step (A := [ownO (kI .i64) 2 v6 x5.1]) (L := [ownO (kF .f32) 40 v4 x10.2.1, ownO (kF .f32) 40 v5 x10.2.2, boxO bb2 [(.int .i64 x4.1), (.int .i64 x4.2.1), (.bool x4.2.2.1), v4, v5], ownO (kI .i64) 2 v3 x3.1, ownO (kF .f32) 40 v1 x2.2.2.2.1, ownO (kF .f32) 40 v2 x2.2.2.2.2, boxO bb1 [(.int .i64 a0_0), (.int .i64 a0_1), (.bool a0_2), u0_3, u0_4]]) S_19 (Mod.size X_12) MT_12 T_12
          refine RL.opD (by decide) (opv_assign rfl rfl) ?_
          refine RL.nil ?_
          refine thnN ?_
          refine W.seq ?_
          refine W.region ?_
          refine RL.opD (by decide) (opv_assign rfl rfl) ?_
          refine RL.nil ?_
          refine thnN ?_
          refine W.seq ?_
          obtain ⟨x14, hx14, hp⟩ := Option.bind_eq_some_iff.1 hp
          refine W.region ?_
          refine RL.opD (by decide) (opv_move rfl rfl) ?_
          refine RL.opD (by decide) (opv_move rfl rfl) ?_
          refine RL.op _ (by decide) (opv_call (cap := []) (laws_heldInt64S_ok _ _ _ (ownO.read (Sep.at (o := ownO (kI .i64) 2 v6 x13.2) S_20 0 rfl)) _ _ hx14) rfl rfl ⟨rfl, rfl, trivial⟩ Try.func46 rfl rfl) ?_
          rintro _ _ ⟨rfl, rfl⟩
          refine RL.opD (by decide) (opv_assign rfl rfl) ?_
          refine RL.nil ?_
          refine thnN ?_
          refine W.seq ?_
          refine W.seq ?_
          refine W.region ?_
          refine RL.opD (by decide) (opv_move rfl rfl) ?_
          refine RL.opD (by decide) (opv_icmp rfl rfl rfl rfl) ?_
          refine RL.nil ?_
          refine thnN ?_
          by_cases c8 : (decide (x14 < 0)) = true
          · rw [if_pos c8] at hp
            refine W.condT rfl c8 ?_
            refine W.seq ?_
            refine W.region ?_
            refine RL.opD (by decide) (opv_assign rfl rfl) ?_
            refine RL.nil ?_
            refine thnN ?_
            refine W.ret ?_
            refine thnR ?_
            have er := Option.some.inj hp
            subst er
            exact Rt.one rfl rfl ⟨rfl, X_13, (Sep.nil _ _ _)⟩
          · rw [if_neg c8] at hp
            have c8 := eq_false_of_ne_true c8
            refine W.condF rfl c8 ?_
            refine W.skip ?_
            refine thnN ?_
            refine W.seq ?_
            refine W.seq ?_
            refine W.region ?_
            refine RL.opD (by decide) (opv_move rfl rfl) ?_
            refine RL.opD (by decide) (opv_move rfl rfl) ?_
            refine RL.opD (by decide) (opv_icmp rfl rfl rfl rfl) ?_
            refine RL.nil ?_
            refine thnN ?_
            by_cases c9 : (x14 != x13.1) = true
            · rw [if_pos c9] at hp
              refine W.condT rfl c9 ?_
              refine W.seq ?_
              refine W.region ?_
              refine RL.opD (by decide) (opv_assign rfl rfl) ?_
              refine RL.nil ?_
              refine thnN ?_
              refine W.ret ?_
              refine thnR ?_
              have er := Option.some.inj hp
              subst er
              exact Rt.one rfl rfl ⟨rfl, X_13, (Sep.nil _ _ _)⟩
            · rw [if_neg c9] at hp
              have c9 := eq_false_of_ne_true c9
              refine W.condF rfl c9 ?_
              refine W.skip ?_
              refine thnN ?_
              refine W.seq ?_
              obtain ⟨x15, hx15, hp⟩ := Option.bind_eq_some_iff.1 hp
              obtain ⟨x16, hx16, hp⟩ := Option.bind_eq_some_iff.1 hp
              refine W.region ?_
              refine RL.opD (by decide) (opv_loadA (us := [(.int .i64 a0_0), (.int .i64 a0_1), (.bool a0_2), u0_3, u0_4]) rfl Try.agg24 Try.size24 rfl (Sep.at (o := boxO bb1 [(.int .i64 a0_0), (.int .i64 a0_1), (.bool a0_2), u0_3, u0_4]) S_20 7 rfl) rfl rfl) ?_
              refine RL.op _ (by decide) (opv_call (cap := []) (laws_toSheet_ok _ _ _ _ _ _ (SL.up (SL.mod g0_3 X_13 (Nat.le_refl _) nob) (Nat.le_trans (Nat.le_refl _) (Mod.size X_13))) _ _ (SL.up (SL.mod g0_4 X_13 (Nat.le_refl _) nob) (Nat.le_trans (Nat.le_refl _) (Mod.size X_13))) _ hx15) rfl rfl ⟨rfl, trivial⟩ Try.func20 rfl rfl) ?_
              rintro _ hp19 ⟨v11, v12, rfl, MT_13, T_13⟩
              have X_14 : Mod [] h0 hp19 := Mod.step (A := []) (L := [ownO (kI .i64) 2 v6 x13.2, ownO (kF .f32) 40 v4 x10.2.1, ownO (kF .f32) 40 v5 x10.2.2, boxO bb2 [(.int .i64 x4.1), (.int .i64 x4.2.1), (.bool x4.2.2.1), v4, v5], ownO (kI .i64) 2 v3 x3.1, ownO (kF .f32) 40 v1 x2.2.2.2.1, ownO (kF .f32) 40 v2 x2.2.2.2.2, boxO bb1 [(.int .i64 a0_0), (.int .i64 a0_1), (.bool a0_2), u0_3, u0_4]]) X_13 S_20 MT_13
              have S_21 : Sep [] h0.size hp19 [ownO (kF .f32) 40 v11 x15.2.2.2.1, ownO (kF .f32) 40 v12 x15.2.2.2.2, ownO (kI .i64) 2 v6 x13.2, ownO (kF .f32) 40 v4 x10.2.1, ownO (kF .f32) 40 v5 x10.2.2, boxO bb2 [(.int .i64 x4.1), (.int .i64 x4.2.1), (.bool x4.2.2.1), v4, v5], ownO (kI .i64) 2 v3 x3.1, ownO (kF .f32) 40 v1 x2.2.2.2.1, ownO (kF .f32) 40 v2 x2.2.2.2.2, boxO bb1 [(.int .i64 a0_0), (.int .i64 a0_1), (.bool a0_2), u0_3, u0_4]] := Sep.step (A := []) (L := [ownO (kI .i64) 2 v6 x13.2, ownO (kF .f32) 40 v4 x10.2.1, ownO (kF .f32) 40 v5 x10.2.2, boxO bb2 [(.int .i64 x4.1), (.int .i64 x4.2.1), (.bool x4.2.2.1), v4, v5], ownO (kI .i64) 2 v3 x3.1, ownO (kF .f32) 40 v1 x2.2.2.2.1, ownO (kF .f32) 40 v2 x2.2.2.2.2, boxO bb1 [(.int .i64 a0_0), (.int .i64 a0_1), (.bool a0_2), u0_3, u0_4]]) S_20 (Mod.size X_13) MT_13 T_13
              refine RL.op _ (by decide) (opv_call (cap := []) (impl_StillCells_ok _ _ _ _ _ _ (ownO.read (Sep.at (o := ownO (kF .f32) 40 v11 x15.2.2.2.1) S_21 0 rfl)) _ _ (ownO.read (Sep.at (o := ownO (kF .f32) 40 v12 x15.2.2.2.2) S_21 1 rfl)) _ hx16) rfl rfl ⟨rfl, trivial⟩ Try.func42 rfl rfl) ?_
              rintro _ hp20 ⟨v13, rfl, MT_14, T_14⟩
              have X_15 : Mod [] h0 hp20 := Mod.step (A := []) (L := [ownO (kF .f32) 40 v11 x15.2.2.2.1, ownO (kF .f32) 40 v12 x15.2.2.2.2, ownO (kI .i64) 2 v6 x13.2, ownO (kF .f32) 40 v4 x10.2.1, ownO (kF .f32) 40 v5 x10.2.2, boxO bb2 [(.int .i64 x4.1), (.int .i64 x4.2.1), (.bool x4.2.2.1), v4, v5], ownO (kI .i64) 2 v3 x3.1, ownO (kF .f32) 40 v1 x2.2.2.2.1, ownO (kF .f32) 40 v2 x2.2.2.2.2, boxO bb1 [(.int .i64 a0_0), (.int .i64 a0_1), (.bool a0_2), u0_3, u0_4]]) X_14 S_21 MT_14
              have S_22 : Sep [] h0.size hp20 [ownO (kI .i64) 2 v13 x16.1, ownO (kF .f32) 40 v11 x15.2.2.2.1, ownO (kF .f32) 40 v12 x15.2.2.2.2, ownO (kI .i64) 2 v6 x13.2, ownO (kF .f32) 40 v4 x10.2.1, ownO (kF .f32) 40 v5 x10.2.2, boxO bb2 [(.int .i64 x4.1), (.int .i64 x4.2.1), (.bool x4.2.2.1), v4, v5], ownO (kI .i64) 2 v3 x3.1, ownO (kF .f32) 40 v1 x2.2.2.2.1, ownO (kF .f32) 40 v2 x2.2.2.2.2, boxO bb1 [(.int .i64 a0_0), (.int .i64 a0_1), (.bool a0_2), u0_3, u0_4]] := Sep.step (A := []) (L := [ownO (kF .f32) 40 v11 x15.2.2.2.1, ownO (kF .f32) 40 v12 x15.2.2.2.2, ownO (kI .i64) 2 v6 x13.2, ownO (kF .f32) 40 v4 x10.2.1, ownO (kF .f32) 40 v5 x10.2.2, boxO bb2 [(.int .i64 x4.1), (.int .i64 x4.2.1), (.bool x4.2.2.1), v4, v5], ownO (kI .i64) 2 v3 x3.1, ownO (kF .f32) 40 v1 x2.2.2.2.1, ownO (kF .f32) 40 v2 x2.2.2.2.2, boxO bb1 [(.int .i64 a0_0), (.int .i64 a0_1), (.bool a0_2), u0_3, u0_4]]) S_21 (Mod.size X_14) MT_14 T_14
              refine RL.opD (by decide) (opv_move rfl rfl) ?_
              refine RL.opD (by decide) (opv_extract rfl rfl rfl) ?_
              refine RL.opD (by decide) (opv_extract rfl rfl rfl) ?_
              refine RL.opD (by decide) (opv_assign rfl rfl) ?_
              refine RL.opD (by decide) (opv_assign rfl rfl) ?_
              refine RL.nil ?_
              refine thnN ?_
              refine W.seq ?_
              refine W.seq ?_
              obtain ⟨x17, hy3, hp⟩ := Option.bind_eq_some_iff.1 hp
              refine W.cut (fun φ' h' => Fr.sub [(0, (.agg (List.toArray (α := Value) [(.int .i64 a0_0), (.int .i64 a0_1), (.bool a0_2), u0_3, u0_4]))), (1, (.pointer (some ⟨bb1, 0, none⟩))), (2, (.bool false)), (3, (.int .i64 x1)), (18, (.bool (decide (x1 < 0)))), (4, v3), (5, (.bool x3.2)), (6, (.pointer (some ⟨bb2, 0, none⟩))), (7, v6), (8, (.bool x5.2)), (40, (.bool x6)), (45, (.bool (!x9))), (9, (.int .i64 x10.1)), (61, (.bool x11)), (10, (.int .i64 x13.1)), (11, (.int .i64 x14)), (69, (.bool (decide (x14 < 0)))), (72, (.bool (x14 != x13.1))), (12, v13), (13, (.bool x16.2)), (87, (.bool x17))] φ' ∧ hp20 = h') ?_ ?_
              · obtain ⟨x18, hx18, hy3⟩ := Option.bind_eq_some_iff.1 hy3
                by_cases c10 : (!x18) = true
                · rw [if_pos c10] at hy3
                  refine W.region ?_
                  refine RL.opD (by decide) (opv_move rfl rfl) ?_
                  refine RL.opD (by decide) (opv_move rfl rfl) ?_
                  refine RL.op _ (by decide) (opv_call (cap := []) (laws_eqInt64S_ok _ _ _ (ownO.read (Sep.at (o := ownO (kI .i64) 2 v13 x16.1) S_22 0 rfl)) _ _ (ownO.read (Sep.at (o := ownO (kI .i64) 2 v3 x3.1) S_22 7 rfl)) _ hx18) rfl rfl ⟨rfl, rfl, trivial⟩ Try.func43 rfl rfl) ?_
                  rintro _ _ ⟨rfl, rfl⟩
                  refine RL.opD (by decide) (opv_not rfl rfl) ?_
                  refine RL.opD (by decide) (opv_move rfl rfl) ?_
                  refine RL.no rfl rfl (Eq.trans c10 (by decide)) (by decide) ?_
                  refine RL.no rfl rfl (Eq.trans c10 (by decide)) (by decide) ?_
                  refine RL.no rfl rfl (Eq.trans c10 (by decide)) (by decide) ?_
                  refine RL.opD (by decide) (opv_pick rfl rfl (fun _ => rfl) (fun e => absurd (Eq.trans (Eq.symm e) c10) (by decide)) rfl) ?_
                  refine RL.nil ?_
                  have ey3 := Option.some.inj hy3
                  subst ey3
                  refine onlyN ?_
                  exact ⟨⟨rfl, rfl, rfl, rfl, rfl, rfl, rfl, rfl, rfl, rfl, rfl, rfl, rfl, rfl, rfl, rfl, rfl, rfl, rfl, rfl, rfl, trivial⟩, rfl⟩
                · rw [if_neg c10] at hy3
                  have c10 := eq_false_of_ne_true c10
                  refine W.region ?_
                  refine RL.opD (by decide) (opv_move rfl rfl) ?_
                  refine RL.opD (by decide) (opv_move rfl rfl) ?_
                  refine RL.op _ (by decide) (opv_call (cap := []) (laws_eqInt64S_ok _ _ _ (ownO.read (Sep.at (o := ownO (kI .i64) 2 v13 x16.1) S_22 0 rfl)) _ _ (ownO.read (Sep.at (o := ownO (kI .i64) 2 v3 x3.1) S_22 7 rfl)) _ hx18) rfl rfl ⟨rfl, rfl, trivial⟩ Try.func43 rfl rfl) ?_
                  rintro _ _ ⟨rfl, rfl⟩
                  refine RL.opD (by decide) (opv_not rfl rfl) ?_
                  refine RL.opD (by decide) (opv_move rfl rfl) ?_
                  refine RL.yes _ rfl rfl c10 (by decide) (opv_move rfl rfl) ?_
                  rintro _ _ ⟨rfl, rfl⟩
                  refine RL.yes _ rfl rfl c10 (by decide) (opv_move rfl rfl) ?_
                  rintro _ _ ⟨rfl, rfl⟩
                  refine RL.yes _ rfl rfl c10 (by decide) (opv_bcmp rfl rfl Try.underlying4 rfl rfl) ?_
                  rintro _ _ ⟨rfl, rfl⟩
                  refine RL.opD (by decide) (opv_pick rfl rfl (fun e => absurd (Eq.trans (Eq.symm e) c10) (by decide)) (fun _ => rfl) rfl) ?_
                  refine RL.nil ?_
                  have ey3 := Option.some.inj hy3
                  subst ey3
                  refine onlyN ?_
                  exact ⟨⟨rfl, rfl, rfl, rfl, rfl, rfl, rfl, rfl, rfl, rfl, rfl, rfl, rfl, rfl, rfl, rfl, rfl, rfl, rfl, rfl, rfl, trivial⟩, rfl⟩
              rintro φ' _ ⟨hs3, rfl⟩
              refine thnN ?_
              refine W.sub hs3 ?_
              by_cases c11 : x17 = true
              · rw [if_pos c11] at hp
                refine W.condT rfl c11 ?_
                refine W.seq ?_
                refine W.region ?_
                refine RL.opD (by decide) (opv_assign rfl rfl) ?_
                refine RL.nil ?_
                refine thnN ?_
                refine W.ret ?_
                refine thnR ?_
                have er := Option.some.inj hp
                subst er
                exact Rt.one rfl rfl ⟨rfl, X_15, (Sep.nil _ _ _)⟩
              · rw [if_neg c11] at hp
                have c11 := eq_false_of_ne_true c11
                refine W.condF rfl c11 ?_
                refine W.skip ?_
                refine thnN ?_
                refine W.seq ?_
                refine W.region ?_
                refine RL.opD (by decide) (opv_assign rfl rfl) ?_
                refine RL.nil ?_
                refine thnN ?_
                refine W.seq ?_
                obtain ⟨x19, hx19, hp⟩ := Option.bind_eq_some_iff.1 hp
                refine W.region ?_
                refine RL.opD (by decide) (opv_move rfl rfl) ?_
                refine RL.opD (by decide) (opv_move rfl rfl) ?_
                refine RL.op _ (by decide) (opv_call (cap := []) (laws_heldInt64S_ok _ _ _ (ownO.read (Sep.at (o := ownO (kI .i64) 2 v6 x13.2) S_22 3 rfl)) _ _ hx19) rfl rfl ⟨rfl, rfl, trivial⟩ Try.func46 rfl rfl) ?_
                rintro _ _ ⟨rfl, rfl⟩
                refine RL.opD (by decide) (opv_assign rfl rfl) ?_
                refine RL.nil ?_
                refine thnN ?_
                refine W.seq ?_
                refine W.seq ?_
                refine W.region ?_
                refine RL.opD (by decide) (opv_move rfl rfl) ?_
                refine RL.opD (by decide) (opv_icmp rfl rfl rfl rfl) ?_
                refine RL.nil ?_
                refine thnN ?_
                by_cases c12 : (decide (x19 < 0)) = true
                · rw [if_pos c12] at hp
                  refine W.condT rfl c12 ?_
                  refine W.seq ?_
                  refine W.region ?_
                  refine RL.opD (by decide) (opv_assign rfl rfl) ?_
                  refine RL.nil ?_
                  refine thnN ?_
                  refine W.ret ?_
                  refine thnR ?_
                  have er := Option.some.inj hp
                  subst er
                  exact Rt.one rfl rfl ⟨rfl, X_15, (Sep.nil _ _ _)⟩
                · rw [if_neg c12] at hp
                  have c12 := eq_false_of_ne_true c12
                  refine W.condF rfl c12 ?_
                  refine W.skip ?_
                  refine thnN ?_
                  refine W.seq ?_
                  refine W.seq ?_
                  refine W.region ?_
                  refine RL.opD (by decide) (opv_move rfl rfl) ?_
                  refine RL.opD (by decide) (opv_move rfl rfl) ?_
                  refine RL.opD (by decide) (opv_icmp rfl rfl rfl rfl) ?_
                  refine RL.nil ?_
                  refine thnN ?_
                  by_cases c13 : (x19 != x13.1) = true
                  · rw [if_pos c13] at hp
                    refine W.condT rfl c13 ?_
                    refine W.seq ?_
                    refine W.region ?_
                    refine RL.opD (by decide) (opv_assign rfl rfl) ?_
                    refine RL.nil ?_
                    refine thnN ?_
                    refine W.ret ?_
                    refine thnR ?_
                    have er := Option.some.inj hp
                    subst er
                    exact Rt.one rfl rfl ⟨rfl, X_15, (Sep.nil _ _ _)⟩
                  · rw [if_neg c13] at hp
                    have c13 := eq_false_of_ne_true c13
                    refine W.condF rfl c13 ?_
                    refine W.skip ?_
                    refine thnN ?_
                    refine W.seq ?_
                    refine W.region ?_
                    refine RL.opD (by decide) (opv_assign rfl rfl) ?_
                    refine RL.nil ?_
                    refine thnN ?_
                    refine W.ret ?_
                    have er := Option.some.inj hp
                    subst er
                    exact Rt.one rfl rfl ⟨rfl, X_15, (Sep.nil _ _ _)⟩

end Go.H
