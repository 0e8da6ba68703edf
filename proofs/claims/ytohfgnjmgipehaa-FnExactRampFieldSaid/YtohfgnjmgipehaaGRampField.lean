/- Functions of the program: what each computes, as a plain function, and that the call comes to it. Written by a program (wip/gen). -/
import Derived.Test.YtohfgnjmgipehaaPField
import Derived.Test.YtohfgnjmgipehaaPRect
import Derived.Test.YtohfgnjmgipehaaBase17
import Derived.Test.YtohfgnjmgipehaaProg
import Derived.KernelRfl
set_option linter.unusedVariables false
namespace Go.H
open Go Go.Proofs



noncomputable def spec_RampField.s0 (a0_0 : Int) (a0_1 : Int) (a0_2 : Bool) (a0_3 : List (Option Nat)) (a0_4 : List (Option Nat)) (a2 : Int) (x4 : ((List (Option Nat)) × (List (Option Nat)) × (List (Option Nat)))) (x5 : Int) (x6 : List (Option Nat)) : Option ((Int × (List (Option Nat))) ⊕ (Int × Bool × (List (Option Nat)))) :=
  (if (decide (x5 < (x4.1.length : Int))) = true then ((spec_l05Depth a0_0 a0_1 a0_2 a0_3 a0_4 x5).bind fun (x10 : Int) => (((if (decide (x10 < a2)) = true then ((idx x6 x5).bind fun (x12 : Option Nat) => ((idx x6 x5).bind fun (x13 : Option Nat) => ((setF x6 x5 (fop .mul .f32 x12 (fop .quo .f32 (fofi .f32 x10) (fofi .f32 a2)))).bind fun (x14 : List (Option Nat)) => some x14))) else some x6) : Option (List (Option Nat))).bind fun (x11 : List (Option Nat)) => some (.inl (IntKind.wrap .i64 (x5 + 1), x11)))) else some (.inr (x5, decide (x5 < (x4.1.length : Int)), x6)))

noncomputable def spec_RampField (a0_0 : Int) (a0_1 : Int) (a0_2 : Bool) (a0_3 : List (Option Nat)) (a0_4 : List (Option Nat)) (a1_0 : List (Option Nat)) (a1_1 : List (Option Nat)) (a1_2 : List (Option Nat)) (a2 : Int) : Option ((List (Option Nat)) × (List (Option Nat)) × (List (Option Nat)) × Bool) :=
  ((((spec_l03Both a0_0 a0_1 a0_2 a0_3 a0_4 a1_0 a1_1 a1_2).bind fun (x2 : Bool) => (if (!x2) = true then some true else ((spec_l00In a2 1 16).bind fun (x3 : Bool) => some (!x3)))) : Option Bool).bind fun (x1 : Bool) => (if x1 = true then some (([] : List (Option Nat)), ([] : List (Option Nat)), ([] : List (Option Nat)), false) else ((spec_l02Own a1_0 a1_1 a1_2).bind fun (x4 : ((List (Option Nat)) × (List (Option Nat)) × (List (Option Nat)))) => ((loopF (fun (s : (Int × (List (Option Nat)))) => spec_RampField.s0 a0_0 a0_1 a0_2 a0_3 a0_4 a2 x4 s.1 s.2) (0, x4.1)).bind fun (⟨x7, x8, x9⟩ : (Int × Bool × (List (Option Nat)))) => ((spec_l02Fits a0_0 a0_1 a0_2 a0_3 a0_4 x9 x4.2.1 x4.2.2).bind fun (x15 : Bool) => (if (!x15) = true then some (([] : List (Option Nat)), ([] : List (Option Nat)), ([] : List (Option Nat)), false) else some (x9, x4.2.1, x4.2.2, true)))))))

noncomputable def impl_RampField_1_2 (a0 : Int) (a1 : Int) (a2 : Int) (ae0_0 : Int) (ae0_1 : Int) (ae0_2 : Bool) (ae0_3 : List (Option Nat)) (ae0_4 : List (Option Nat)) (ae1_0 : Int) (ae2_0 : List (Option Nat)) (ae2_1 : List (Option Nat)) (ae2_2 : List (Option Nat)) : Option (Int × Int × Bool × Int × (List (Option Nat)) × (List (Option Nat)) × (List (Option Nat))) :=
  ((impl_Sheet_depth ae0_0 ae0_1 ae0_2 ae0_3 ae0_4 a0 a1).bind fun (x1 : Int) => (((if (decide (x1 < ae1_0)) = true then ((idx ae2_0 a2).bind fun (x3 : Option Nat) => ((idx ae2_0 a2).bind fun (x4 : Option Nat) => ((setF ae2_0 a2 (fop .mul .f32 x3 (fop .quo .f32 (fofi .f32 x1) (fofi .f32 ae1_0)))).bind fun (x5 : List (Option Nat)) => some x5))) else some ae2_0) : Option (List (Option Nat))).bind fun (x2 : List (Option Nat)) => some (ae0_0, ae0_1, ae0_2, ae1_0, x2, ae2_1, ae2_2)))

noncomputable def impl_Sheet_each__impl_RampField_1.s1 (a0_0 : Int) (a0_1 : Int) (a0_2 : Bool) (a0_3 : List (Option Nat)) (a0_4 : List (Option Nat)) (ae0_3 : List (Option Nat)) (ae0_4 : List (Option Nat)) (x1 : Int) (x18 : Int) (x19 : Int) (x20 : Int) (x21 : Bool) (x22 : Int) (x23 : List (Option Nat)) (x24 : List (Option Nat)) (x25 : List (Option Nat)) : Option ((Int × Int × Int × Bool × Int × (List (Option Nat)) × (List (Option Nat)) × (List (Option Nat))) ⊕ (Int × Bool × Int × Int × Bool × Int × (List (Option Nat)) × (List (Option Nat)) × (List (Option Nat)))) :=
  (if (decide (x18 < a0_0)) = true then ((impl_Sheet_at a0_0 a0_1 a0_2 a0_3 a0_4 x18 x1).bind fun (x35 : Int) => ((impl_RampField_1_2 x18 x1 x35 x19 x20 x21 ae0_3 ae0_4 x22 x23 x24 x25).bind fun (x36 : (Int × Int × Bool × Int × (List (Option Nat)) × (List (Option Nat)) × (List (Option Nat)))) => some (.inl (IntKind.wrap .i64 (x18 + 1), x36.1, x36.2.1, x36.2.2.1, x36.2.2.2.1, x36.2.2.2.2.1, x36.2.2.2.2.2.1, x36.2.2.2.2.2.2)))) else some (.inr (x18, decide (x18 < a0_0), x19, x20, x21, x22, x23, x24, x25)))

noncomputable def impl_Sheet_each__impl_RampField_1.s0 (a0_0 : Int) (a0_1 : Int) (a0_2 : Bool) (a0_3 : List (Option Nat)) (a0_4 : List (Option Nat)) (ae0_3 : List (Option Nat)) (ae0_4 : List (Option Nat)) (x1 : Int) (x2 : Int) (x3 : Int) (x4 : Bool) (x5 : Int) (x6 : List (Option Nat)) (x7 : List (Option Nat)) (x8 : List (Option Nat)) : Option ((Int × Int × Int × Bool × Int × (List (Option Nat)) × (List (Option Nat)) × (List (Option Nat))) ⊕ (Int × Bool × Int × Int × Bool × Int × (List (Option Nat)) × (List (Option Nat)) × (List (Option Nat)))) :=
  (if (decide (x1 < a0_1)) = true then ((loopF (fun (s : (Int × Int × Int × Bool × Int × (List (Option Nat)) × (List (Option Nat)) × (List (Option Nat)))) => impl_Sheet_each__impl_RampField_1.s1 a0_0 a0_1 a0_2 a0_3 a0_4 ae0_3 ae0_4 x1 s.1 s.2.1 s.2.2.1 s.2.2.2.1 s.2.2.2.2.1 s.2.2.2.2.2.1 s.2.2.2.2.2.2.1 s.2.2.2.2.2.2.2) (0, x2, x3, x4, x5, x6, x7, x8)).bind fun (⟨x26, x27, x28, x29, x30, x31, x32, x33, x34⟩ : (Int × Bool × Int × Int × Bool × Int × (List (Option Nat)) × (List (Option Nat)) × (List (Option Nat)))) => some (.inl (IntKind.wrap .i64 (x1 + 1), x28, x29, x30, x31, x32, x33, x34))) else some (.inr (x1, decide (x1 < a0_1), x2, x3, x4, x5, x6, x7, x8)))

noncomputable def impl_Sheet_each__impl_RampField_1 (a0_0 : Int) (a0_1 : Int) (a0_2 : Bool) (a0_3 : List (Option Nat)) (a0_4 : List (Option Nat)) (ae0_0 : Int) (ae0_1 : Int) (ae0_2 : Bool) (ae0_3 : List (Option Nat)) (ae0_4 : List (Option Nat)) (ae1_0 : Int) (ae2_0 : List (Option Nat)) (ae2_1 : List (Option Nat)) (ae2_2 : List (Option Nat)) : Option (Int × Int × Bool × Int × (List (Option Nat)) × (List (Option Nat)) × (List (Option Nat))) :=
  ((loopF (fun (s : (Int × Int × Int × Bool × Int × (List (Option Nat)) × (List (Option Nat)) × (List (Option Nat)))) => impl_Sheet_each__impl_RampField_1.s0 a0_0 a0_1 a0_2 a0_3 a0_4 ae0_3 ae0_4 s.1 s.2.1 s.2.2.1 s.2.2.2.1 s.2.2.2.2.1 s.2.2.2.2.2.1 s.2.2.2.2.2.2.1 s.2.2.2.2.2.2.2) (0, ae0_0, ae0_1, ae0_2, ae1_0, ae2_0, ae2_1, ae2_2)).bind fun (⟨x9, x10, x11, x12, x13, x14, x15, x16, x17⟩ : (Int × Bool × Int × Int × Bool × Int × (List (Option Nat)) × (List (Option Nat)) × (List (Option Nat)))) => some (x11, x12, x13, x14, x15, x16, x17))

noncomputable def impl_RampField (a0_0 : Int) (a0_1 : Int) (a0_2 : Bool) (a0_3 : List (Option Nat)) (a0_4 : List (Option Nat)) (a1_0 : List (Option Nat)) (a1_1 : List (Option Nat)) (a1_2 : List (Option Nat)) (a2 : Int) : Option ((List (Option Nat)) × (List (Option Nat)) × (List (Option Nat)) × Bool) :=
  ((((impl_IsField a0_0 a0_1 a0_2 a0_3 a0_4 a1_0 a1_1 a1_2).bind fun (x2 : Bool) => (if (!x2) = true then some true else ((impl_isWidth a2).bind fun (x3 : Bool) => some (!x3)))) : Option Bool).bind fun (x1 : Bool) => (if x1 = true then some (([] : List (Option Nat)), ([] : List (Option Nat)), ([] : List (Option Nat)), false) else ((impl_copyField a1_0 a1_1 a1_2).bind fun (x4 : ((List (Option Nat)) × (List (Option Nat)) × (List (Option Nat)))) => ((impl_Sheet_each__impl_RampField_1 a0_0 a0_1 a0_2 a0_3 a0_4 a0_0 a0_1 a0_2 a0_3 a0_4 a2 x4.1 x4.2.1 x4.2.2).bind fun (x5 : (Int × Int × Bool × Int × (List (Option Nat)) × (List (Option Nat)) × (List (Option Nat)))) => ((impl_validField x5.1 x5.2.1 x5.2.2.1 a0_3 a0_4 x5.2.2.2.2.1 x5.2.2.2.2.2.1 x5.2.2.2.2.2.2).bind fun (x6 : ((List (Option Nat)) × (List (Option Nat)) × (List (Option Nat)) × Bool)) => some (x6.1, x6.2.1, x6.2.2.1, x6.2.2.2))))))

noncomputable def laws_FnExactRampField (a0_0 : Int) (a0_1 : Int) (a0_2 : Bool) (a0_3 : List (Option Nat)) (a0_4 : List (Option Nat)) (a1_0 : List (Option Nat)) (a1_1 : List (Option Nat)) (a1_2 : List (Option Nat)) (a2 : Int) : Option Bool :=
  ((laws_szSheet a0_0 a0_1 a0_2 a0_3 a0_4 1048576).bind fun (x1 : Int) => (if (decide (x1 < 0)) = true then some true else ((laws_szField a1_0 a1_1 a1_2 x1).bind fun (x2 : Int) => (if (decide (x2 < 0)) = true then some true else ((laws_toSheet a0_0 a0_1 a0_2 a0_3 a0_4).bind fun (x3 : (Int × Int × Bool × (List (Option Nat)) × (List (Option Nat)))) => ((laws_toField a1_0 a1_1 a1_2).bind fun (x4 : ((List (Option Nat)) × (List (Option Nat)) × (List (Option Nat)))) => ((spec_RampField x3.1 x3.2.1 x3.2.2.1 x3.2.2.2.1 x3.2.2.2.2 x4.1 x4.2.1 x4.2.2 a2).bind fun (x5 : ((List (Option Nat)) × (List (Option Nat)) × (List (Option Nat)) × Bool)) => ((laws_toSheet a0_0 a0_1 a0_2 a0_3 a0_4).bind fun (x6 : (Int × Int × Bool × (List (Option Nat)) × (List (Option Nat)))) => ((laws_toField a1_0 a1_1 a1_2).bind fun (x7 : ((List (Option Nat)) × (List (Option Nat)) × (List (Option Nat)))) => ((impl_RampField x6.1 x6.2.1 x6.2.2.1 x6.2.2.2.1 x6.2.2.2.2 x7.1 x7.2.1 x7.2.2 a2).bind fun (x8 : ((List (Option Nat)) × (List (Option Nat)) × (List (Option Nat)) × Bool)) => ((((laws_eqField x8.1 x8.2.1 x8.2.2.1 x5.1 x5.2.1 x5.2.2.1).bind fun (x10 : Bool) => (if (!x10) = true then some true else some (x8.2.2.2 != x5.2.2.2))) : Option Bool).bind fun (x9 : Bool) => (if x9 = true then some false else ((laws_toSheet a0_0 a0_1 a0_2 a0_3 a0_4).bind fun (x11 : (Int × Int × Bool × (List (Option Nat)) × (List (Option Nat)))) => ((laws_eqSheet x6.1 x6.2.1 x6.2.2.1 x6.2.2.2.1 x6.2.2.2.2 x11.1 x11.2.1 x11.2.2.1 x11.2.2.2.1 x11.2.2.2.2).bind fun (x12 : Bool) => (if (!x12) = true then some false else ((laws_toField a1_0 a1_1 a1_2).bind fun (x13 : ((List (Option Nat)) × (List (Option Nat)) × (List (Option Nat)))) => ((laws_eqField x7.1 x7.2.1 x7.2.2 x13.1 x13.2.1 x13.2.2).bind fun (x14 : Bool) => (if (!x14) = true then some false else ((laws_markSheet x6.1 x6.2.1 x6.2.2.1 x6.2.2.2.1 x6.2.2.2.2 1).bind fun (x15 : (Int × (List (Option Nat)) × (List (Option Nat)))) => ((laws_markField x7.1 x7.2.1 x7.2.2 x15.1).bind fun (x16 : (Int × (List (Option Nat)) × (List (Option Nat)) × (List (Option Nat)))) => (((if (decide (x16.1 < 0)) = true then some true else ((laws_eqField x8.1 x8.2.1 x8.2.2.1 x5.1 x5.2.1 x5.2.2.1).bind fun (x18 : Bool) => (if (!x18) = true then some true else some (x8.2.2.2 != x5.2.2.2)))) : Option Bool).bind fun (x17 : Bool) => (if x17 = true then some false else ((laws_markField x8.1 x8.2.1 x8.2.2.1 1).bind fun (x19 : (Int × (List (Option Nat)) × (List (Option Nat)) × (List (Option Nat)))) => ((laws_heldField x19.2.1 x19.2.2.1 x19.2.2.2 1).bind fun (x20 : Int) => (if (decide (x20 < 0)) = true then some false else (if (x20 != x19.1) = true then some false else ((laws_toSheet a0_0 a0_1 a0_2 a0_3 a0_4).bind fun (x21 : (Int × Int × Bool × (List (Option Nat)) × (List (Option Nat)))) => ((laws_toField a1_0 a1_1 a1_2).bind fun (x22 : ((List (Option Nat)) × (List (Option Nat)) × (List (Option Nat)))) => ((impl_RampField x21.1 x21.2.1 x21.2.2.1 x21.2.2.2.1 x21.2.2.2.2 x22.1 x22.2.1 x22.2.2 a2).bind fun (x23 : ((List (Option Nat)) × (List (Option Nat)) × (List (Option Nat)) × Bool)) => ((((laws_eqField x23.1 x23.2.1 x23.2.2.1 x5.1 x5.2.1 x5.2.2.1).bind fun (x25 : Bool) => (if (!x25) = true then some true else some (x23.2.2.2 != x5.2.2.2))) : Option Bool).bind fun (x24 : Bool) => (if x24 = true then some false else ((laws_heldField x19.2.1 x19.2.2.1 x19.2.2.2 1).bind fun (x26 : Int) => (if (decide (x26 < 0)) = true then some false else (if (x26 != x19.1) = true then some false else some true))))))))))))))))))))))))))))))))))

set_option maxRecDepth 20000 in
theorem spec_RampField_ok (h0 : Heap) (a0_0 : Int) (a0_1 : Int) (a0_2 : Bool) (u0_3 : Value) (a0_3 : List (Option Nat)) (g0_3 : SL (kF .f32) h0.size h0 u0_3 a0_3) (u0_4 : Value) (a0_4 : List (Option Nat)) (g0_4 : SL (kF .f32) h0.size h0 u0_4 a0_4) (u1_0 : Value) (a1_0 : List (Option Nat)) (g1_0 : SL (kF .f32) h0.size h0 u1_0 a1_0) (u1_1 : Value) (a1_1 : List (Option Nat)) (g1_1 : SL (kF .f32) h0.size h0 u1_1 a1_1) (u1_2 : Value) (a1_2 : List (Option Nat)) (g1_2 : SL (kF .f32) h0.size h0 u1_2 a1_2) (a2 : Int) (r : ((List (Option Nat)) × (List (Option Nat)) × (List (Option Nat)) × Bool)) (hp : spec_RampField a0_0 a0_1 a0_2 a0_3 a0_4 a1_0 a1_1 a1_2 a2 = some r) : CallsH Try.prog 69 ([(.agg (List.toArray (α := Value) [(.int .i64 a0_0), (.int .i64 a0_1), (.bool a0_2), u0_3, u0_4])), (.agg (List.toArray (α := Value) [u1_0, u1_1, u1_2])), (.int .i64 a2)].toArray ++ [].toArray) h0 (fun v h' => ∃ w0, ∃ w1, ∃ w2, v = (.tuple (List.toArray (α := Value) [(.agg (List.toArray (α := Value) [w0, w1, w2])), (.bool r.2.2.2)])) ∧ Mod [] h0 h' ∧ Sep [] h0.size h' [ownO (kF .f32) 40 w0 r.1, ownO (kF .f32) 40 w1 r.2.1, ownO (kF .f32) 40 w2 r.2.2.1]) := by
  unfold spec_RampField at hp
  refine callsH_of_W (l := [(.agg (List.toArray (α := Value) [(.int .i64 a0_0), (.int .i64 a0_1), (.bool a0_2), u0_3, u0_4])), (.agg (List.toArray (α := Value) [u1_0, u1_1, u1_2])), (.int .i64 a2)]) (cap := []) 51 Try.func69 rfl rfl rfl ?_
  refine W.seq ?_
  refine W.region ?_
  refine RL.op _ (by decide) (opS_boxed (opv_boxA (cs := [(.int .i64 a0_0), (.int .i64 a0_1), (.bool a0_2), u0_3, u0_4]) rfl rfl)) ?_
  rintro _ hp1 ⟨bb1, rfl, MT_1, T_1⟩
  have X_1 : Mod [] h0 hp1 := Mod.step (A := []) (L := []) (Mod.refl [] h0) (Sep.nil [] h0.size h0) MT_1
  have S_1 : Sep [] h0.size hp1 [boxO bb1 [(.int .i64 a0_0), (.int .i64 a0_1), (.bool a0_2), u0_3, u0_4]] := Sep.step (A := []) (L := []) (Sep.nil [] h0.size h0) (Mod.size (Mod.refl [] h0)) MT_1 T_1
  refine RL.op _ (by decide) (opS_boxed (opv_boxA (cs := [u1_0, u1_1, u1_2]) rfl rfl)) ?_
  rintro _ hp2 ⟨bb2, rfl, MT_2, T_2⟩
  have X_2 : Mod [] h0 hp2 := Mod.step (A := []) (L := [boxO bb1 [(.int .i64 a0_0), (.int .i64 a0_1), (.bool a0_2), u0_3, u0_4]]) X_1 S_1 MT_2
  have S_2 : Sep [] h0.size hp2 [boxO bb2 [u1_0, u1_1, u1_2], boxO bb1 [(.int .i64 a0_0), (.int .i64 a0_1), (.bool a0_2), u0_3, u0_4]] := Sep.step (A := []) (L := [boxO bb1 [(.int .i64 a0_0), (.int .i64 a0_1), (.bool a0_2), u0_3, u0_4]]) S_1 (Mod.size X_1) MT_2 T_2
  refine RL.op _ (by decide) (opS_boxed (opv_alloc (cs := [(.slice none 0 0), (.slice none 0 0), (.slice none 0 0)]) rfl Try.zero53 rfl)) ?_
  rintro _ hp3 ⟨bb3, rfl, MT_3, T_3⟩
  have X_3 : Mod [] h0 hp3 := Mod.step (A := []) (L := [boxO bb2 [u1_0, u1_1, u1_2], boxO bb1 [(.int .i64 a0_0), (.int .i64 a0_1), (.bool a0_2), u0_3, u0_4]]) X_2 S_2 MT_3
  have S_3 : Sep [] h0.size hp3 [boxO bb3 [(.slice none 0 0), (.slice none 0 0), (.slice none 0 0)], boxO bb2 [u1_0, u1_1, u1_2], boxO bb1 [(.int .i64 a0_0), (.int .i64 a0_1), (.bool a0_2), u0_3, u0_4]] := Sep.step (A := []) (L := [boxO bb2 [u1_0, u1_1, u1_2], boxO bb1 [(.int .i64 a0_0), (.int .i64 a0_1), (.bool a0_2), u0_3, u0_4]]) S_2 (Mod.size X_2) MT_3 T_3
  refine RL.opD (by decide) (opv_assign rfl rfl) ?_
  refine RL.nil ?_
  refine thnN ?_
  refine W.seq ?_
  refine W.seq ?_
  obtain ⟨x1, hy1, hp⟩ := Option.bind_eq_some_iff.1 hp
  refine W.cut (fun φ' h' => Fr.sub [(0, (.agg (List.toArray (α := Value) [(.int .i64 a0_0), (.int .i64 a0_1), (.bool a0_2), u0_3, u0_4]))), (1, (.agg (List.toArray (α := Value) [u1_0, u1_1, u1_2]))), (2, (.int .i64 a2)), (3, (.pointer (some ⟨bb1, 0, none⟩))), (4, (.pointer (some ⟨bb2, 0, none⟩))), (6, (.pointer (some ⟨bb3, 0, none⟩))), (7, (.bool false)), (17, (.bool x1))] φ' ∧ hp3 = h') ?_ ?_
  · obtain ⟨x2, hx2, hy1⟩ := Option.bind_eq_some_iff.1 hy1
    by_cases c1 : (!x2) = true
    · rw [if_pos c1] at hy1
      refine W.region ?_
      refine RL.op _ (by decide) (opv_call (cap := []) (spec_l03Both_ok _ _ _ _ _ _ _ (SL.up (SL.mod g0_3 X_3 (Nat.le_refl _) nob) (Nat.le_trans (Nat.le_refl _) (Mod.size X_3))) _ _ (SL.up (SL.mod g0_4 X_3 (Nat.le_refl _) nob) (Nat.le_trans (Nat.le_refl _) (Mod.size X_3))) (Sep.at (o := boxO bb1 [(.int .i64 a0_0), (.int .i64 a0_1), (.bool a0_2), u0_3, u0_4]) S_3 2 rfl) _ _ _ (SL.up (SL.mod g1_0 X_3 (Nat.le_refl _) nob) (Nat.le_trans (Nat.le_refl _) (Mod.size X_3))) _ _ (SL.up (SL.mod g1_1 X_3 (Nat.le_refl _) nob) (Nat.le_trans (Nat.le_refl _) (Mod.size X_3))) _ _ (SL.up (SL.mod g1_2 X_3 (Nat.le_refl _) nob) (Nat.le_trans (Nat.le_refl _) (Mod.size X_3))) (Sep.at (o := boxO bb2 [u1_0, u1_1, u1_2]) S_3 1 rfl) _ hx2) rfl rfl ⟨rfl, rfl, trivial⟩ Try.func90 rfl rfl) ?_
      rintro _ _ ⟨rfl, rfl⟩
      refine RL.opD (by decide) (opv_not rfl rfl) ?_
      refine RL.opD (by decide) (opv_move rfl rfl) ?_
      refine RL.no rfl rfl (Eq.trans c1 (by decide)) (by decide) ?_
      refine RL.no rfl rfl (Eq.trans c1 (by decide)) (by decide) ?_
      refine RL.no rfl rfl (Eq.trans c1 (by decide)) (by decide) ?_
      refine RL.opD (by decide) (opv_pick rfl rfl (fun _ => rfl) (fun e => absurd (Eq.trans (Eq.symm e) c1) (by decide)) rfl) ?_
      refine RL.nil ?_
      have ey1 := Option.some.inj hy1
      subst ey1
      refine onlyN ?_
      exact ⟨⟨rfl, rfl, rfl, rfl, rfl, rfl, rfl, rfl, trivial⟩, rfl⟩
    · rw [if_neg c1] at hy1
      have c1 := eq_false_of_ne_true c1
      obtain ⟨x3, hx3, hy1⟩ := Option.bind_eq_some_iff.1 hy1
      refine W.region ?_
      refine RL.op _ (by decide) (opv_call (cap := []) (spec_l03Both_ok _ _ _ _ _ _ _ (SL.up (SL.mod g0_3 X_3 (Nat.le_refl _) nob) (Nat.le_trans (Nat.le_refl _) (Mod.size X_3))) _ _ (SL.up (SL.mod g0_4 X_3 (Nat.le_refl _) nob) (Nat.le_trans (Nat.le_refl _) (Mod.size X_3))) (Sep.at (o := boxO bb1 [(.int .i64 a0_0), (.int .i64 a0_1), (.bool a0_2), u0_3, u0_4]) S_3 2 rfl) _ _ _ (SL.up (SL.mod g1_0 X_3 (Nat.le_refl _) nob) (Nat.le_trans (Nat.le_refl _) (Mod.size X_3))) _ _ (SL.up (SL.mod g1_1 X_3 (Nat.le_refl _) nob) (Nat.le_trans (Nat.le_refl _) (Mod.size X_3))) _ _ (SL.up (SL.mod g1_2 X_3 (Nat.le_refl _) nob) (Nat.le_trans (Nat.le_refl _) (Mod.size X_3))) (Sep.at (o := boxO bb2 [u1_0, u1_1, u1_2]) S_3 1 rfl) _ hx2) rfl rfl ⟨rfl, rfl, trivial⟩ Try.func90 rfl rfl) ?_
      rintro _ _ ⟨rfl, rfl⟩
      refine RL.opD (by decide) (opv_not rfl rfl) ?_
      refine RL.opD (by decide) (opv_move rfl rfl) ?_
      refine RL.yes _ rfl rfl c1 (by decide) (opv_move rfl rfl) ?_
      rintro _ _ ⟨rfl, rfl⟩
      refine RL.yes _ rfl rfl c1 (by decide) (opv_call (cap := []) (spec_l00In_ok _ _ _ _ _ hx3) rfl rfl ⟨rfl, rfl, rfl, trivial⟩ Try.func78 rfl rfl) ?_
      rintro _ _ ⟨rfl, rfl⟩
      refine RL.yes _ rfl rfl c1 (by decide) (opv_not rfl rfl) ?_
      rintro _ _ ⟨rfl, rfl⟩
      refine RL.opD (by decide) (opv_pick rfl rfl (fun e => absurd (Eq.trans (Eq.symm e) c1) (by decide)) (fun _ => rfl) rfl) ?_
      refine RL.nil ?_
      have ey1 := Option.some.inj hy1
      subst ey1
      refine onlyN ?_
      exact ⟨⟨rfl, rfl, rfl, rfl, rfl, rfl, rfl, rfl, trivial⟩, rfl⟩
  rintro φ' _ ⟨hs1, rfl⟩
  refine thnN ?_
  refine W.sub hs1 ?_
  by_cases c2 : x1 = true
  · rw [if_pos c2] at hp
    refine W.condT rfl c2 ?_
    refine W.seq ?_
    refine W.region ?_
    refine RL.opD (by decide) (opv_build (cs := [(.slice none 0 0), (.slice none 0 0), (.slice none 0 0)]) [] [] rfl Try.bd53 trivial rfl) ?_
    refine RL.op0 _ (opS_stored (cs := [(.slice none 0 0), (.slice none 0 0), (.slice none 0 0)]) (cs' := [(.slice none 0 0), (.slice none 0 0), (.slice none 0 0)]) (opv_storeA (us := [(.slice none 0 0), (.slice none 0 0), (.slice none 0 0)]) rfl Try.size53 rfl rfl (oneAll rfl (oneAll rfl (oneAll rfl rfl))) (Sep.at (o := boxO bb3 [(.slice none 0 0), (.slice none 0 0), (.slice none 0 0)]) S_3 0 rfl) rfl rfl) (Sep.at (o := boxO bb3 [(.slice none 0 0), (.slice none 0 0), (.slice none 0 0)]) S_3 0 rfl)) ?_
    rintro _ hp4 ⟨rfl, MT_4, T_4⟩
    have S_4 : Sep [] h0.size hp3 ([boxO bb3 [(.slice none 0 0), (.slice none 0 0), (.slice none 0 0)]] ++ [boxO bb2 [u1_0, u1_1, u1_2], boxO bb1 [(.int .i64 a0_0), (.int .i64 a0_1), (.bool a0_2), u0_3, u0_4]]) := Sep.sel S_3 [0, 1, 2] (by decide)
    have X_4 : Mod [] h0 hp4 := Mod.step (A := [boxO bb3 [(.slice none 0 0), (.slice none 0 0), (.slice none 0 0)]]) (L := [boxO bb2 [u1_0, u1_1, u1_2], boxO bb1 [(.int .i64 a0_0), (.int .i64 a0_1), (.bool a0_2), u0_3, u0_4]]) X_3 S_4 MT_4
    have S_5 : Sep [] h0.size hp4 [boxO bb3 [(.slice none 0 0), (.slice none 0 0), (.slice none 0 0)], boxO bb2 [u1_0, u1_1, u1_2], boxO bb1 [(.int .i64 a0_0), (.int .i64 a0_1), (.bool a0_2), u0_3, u0_4]] := Sep.step (A := [boxO bb3 [(.slice none 0 0), (.slice none 0 0), (.slice none 0 0)]]) (L := [boxO bb2 [u1_0, u1_1, u1_2], boxO bb1 [(.int .i64 a0_0), (.int .i64 a0_1), (.bool a0_2), u0_3, u0_4]]) S_4 (Mod.size X_3) MT_4 T_4
    refine RL.opD (by decide) (opv_assign rfl rfl) ?_
    refine RL.nil ?_
    refine thnN ?_
    refine W.ret ?_
    refine thnR ?_
    have S_6 : Sep [] h0.size hp4 [ownO (kF .f32) 40 (.slice none 0 0) ([] : List (Option Nat)), boxO bb3 [(.slice none 0 0), (.slice none 0 0), (.slice none 0 0)], boxO bb2 [u1_0, u1_1, u1_2], boxO bb1 [(.int .i64 a0_0), (.int .i64 a0_1), (.bool a0_2), u0_3, u0_4]] := Sep.addNil S_5
    have S_7 : Sep [] h0.size hp4 [ownO (kF .f32) 40 (.slice none 0 0) ([] : List (Option Nat)), ownO (kF .f32) 40 (.slice none 0 0) ([] : List (Option Nat)), boxO bb3 [(.slice none 0 0), (.slice none 0 0), (.slice none 0 0)], boxO bb2 [u1_0, u1_1, u1_2], boxO bb1 [(.int .i64 a0_0), (.int .i64 a0_1), (.bool a0_2), u0_3, u0_4]] := Sep.addNil S_6
    have S_8 : Sep [] h0.size hp4 [ownO (kF .f32) 40 (.slice none 0 0) ([] : List (Option Nat)), ownO (kF .f32) 40 (.slice none 0 0) ([] : List (Option Nat)), ownO (kF .f32) 40 (.slice none 0 0) ([] : List (Option Nat)), boxO bb3 [(.slice none 0 0), (.slice none 0 0), (.slice none 0 0)], boxO bb2 [u1_0, u1_1, u1_2], boxO bb1 [(.int .i64 a0_0), (.int .i64 a0_1), (.bool a0_2), u0_3, u0_4]] := Sep.addNil S_7
    have er := Option.some.inj hp
    subst er
    exact Rt.cellA rfl rfl rfl Try.agg53 Try.size53 (Sep.at (o := boxO bb3 [(.slice none 0 0), (.slice none 0 0), (.slice none 0 0)]) S_8 3 rfl) rfl ⟨(.slice none 0 0), (.slice none 0 0), (.slice none 0 0), rfl, X_4, (Sep.sel S_8 [2, 1, 0] (by decide))⟩
  · rw [if_neg c2] at hp
    have c2 := eq_false_of_ne_true c2
    refine W.condF rfl c2 ?_
    refine W.skip ?_
    refine thnN ?_
    refine W.seq ?_
    obtain ⟨x4, hx4, hp⟩ := Option.bind_eq_some_iff.1 hp
    refine W.region ?_
    refine RL.op _ (by decide) (opv_call (cap := []) (spec_l02Own_ok _ _ _ _ (SL.up (SL.mod g1_0 X_3 (Nat.le_refl _) nob) (Nat.le_trans (Nat.le_refl _) (Mod.size X_3))) _ _ (SL.up (SL.mod g1_1 X_3 (Nat.le_refl _) nob) (Nat.le_trans (Nat.le_refl _) (Mod.size X_3))) _ _ (SL.up (SL.mod g1_2 X_3 (Nat.le_refl _) nob) (Nat.le_trans (Nat.le_refl _) (Mod.size X_3))) (Sep.at (o := boxO bb2 [u1_0, u1_1, u1_2]) S_3 1 rfl) _ hx4) rfl rfl ⟨rfl, trivial⟩ Try.func131 rfl rfl) ?_
    rintro _ hp5 ⟨v1, v2, v3, rfl, MT_5, T_5⟩
    have X_5 : Mod [] h0 hp5 := Mod.step (A := []) (L := [boxO bb3 [(.slice none 0 0), (.slice none 0 0), (.slice none 0 0)], boxO bb2 [u1_0, u1_1, u1_2], boxO bb1 [(.int .i64 a0_0), (.int .i64 a0_1), (.bool a0_2), u0_3, u0_4]]) X_3 S_3 MT_5
    have S_9 : Sep [] h0.size hp5 [ownO (kF .f32) 40 v1 x4.1, ownO (kF .f32) 40 v2 x4.2.1, ownO (kF .f32) 40 v3 x4.2.2, boxO bb3 [(.slice none 0 0), (.slice none 0 0), (.slice none 0 0)], boxO bb2 [u1_0, u1_1, u1_2], boxO bb1 [(.int .i64 a0_0), (.int .i64 a0_1), (.bool a0_2), u0_3, u0_4]] := Sep.step (A := []) (L := [boxO bb3 [(.slice none 0 0), (.slice none 0 0), (.slice none 0 0)], boxO bb2 [u1_0, u1_1, u1_2], boxO bb1 [(.int .i64 a0_0), (.int .i64 a0_1), (.bool a0_2), u0_3, u0_4]]) S_3 (Mod.size X_3) MT_5 T_5
    refine RL.op _ (by decide) (opS_boxed (opv_alloc (cs := [(.slice none 0 0), (.slice none 0 0), (.slice none 0 0)]) rfl Try.zero53 rfl)) ?_
    rintro _ hp6 ⟨bb4, rfl, MT_6, T_6⟩
    have X_6 : Mod [] h0 hp6 := Mod.step (A := []) (L := [ownO (kF .f32) 40 v1 x4.1, ownO (kF .f32) 40 v2 x4.2.1, ownO (kF .f32) 40 v3 x4.2.2, boxO bb3 [(.slice none 0 0), (.slice none 0 0), (.slice none 0 0)], boxO bb2 [u1_0, u1_1, u1_2], boxO bb1 [(.int .i64 a0_0), (.int .i64 a0_1), (.bool a0_2), u0_3, u0_4]]) X_5 S_9 MT_6
    have S_10 : Sep [] h0.size hp6 [boxO bb4 [(.slice none 0 0), (.slice none 0 0), (.slice none 0 0)], ownO (kF .f32) 40 v1 x4.1, ownO (kF .f32) 40 v2 x4.2.1, ownO (kF .f32) 40 v3 x4.2.2, boxO bb3 [(.slice none 0 0), (.slice none 0 0), (.slice none 0 0)], boxO bb2 [u1_0, u1_1, u1_2], boxO bb1 [(.int .i64 a0_0), (.int .i64 a0_1), (.bool a0_2), u0_3, u0_4]] := Sep.step (A := []) (L := [ownO (kF .f32) 40 v1 x4.1, ownO (kF .f32) 40 v2 x4.2.1, ownO (kF .f32) 40 v3 x4.2.2, boxO bb3 [(.slice none 0 0), (.slice none 0 0), (.slice none 0 0)], boxO bb2 [u1_0, u1_1, u1_2], boxO bb1 [(.int .i64 a0_0), (.int .i64 a0_1), (.bool a0_2), u0_3, u0_4]]) S_9 (Mod.size X_5) MT_6 T_6
    refine RL.op0 _ (opS_stored (cs := [(.slice none 0 0), (.slice none 0 0), (.slice none 0 0)]) (cs' := [v1, v2, v3]) (opv_storeA (us := [v1, v2, v3]) rfl Try.size53 rfl rfl (oneAll (ownO.one (Sep.at (o := ownO (kF .f32) 40 v1 x4.1) S_10 1 rfl)) (oneAll (ownO.one (Sep.at (o := ownO (kF .f32) 40 v2 x4.2.1) S_10 2 rfl)) (oneAll (ownO.one (Sep.at (o := ownO (kF .f32) 40 v3 x4.2.2) S_10 3 rfl)) rfl))) (Sep.at (o := boxO bb4 [(.slice none 0 0), (.slice none 0 0), (.slice none 0 0)]) S_10 0 rfl) rfl rfl) (Sep.at (o := boxO bb4 [(.slice none 0 0), (.slice none 0 0), (.slice none 0 0)]) S_10 0 rfl)) ?_
    rintro _ hp7 ⟨rfl, MT_7, T_7⟩
    have S_11 : Sep [] h0.size hp6 ([boxO bb4 [(.slice none 0 0), (.slice none 0 0), (.slice none 0 0)]] ++ [ownO (kF .f32) 40 v1 x4.1, ownO (kF .f32) 40 v2 x4.2.1, ownO (kF .f32) 40 v3 x4.2.2, boxO bb3 [(.slice none 0 0), (.slice none 0 0), (.slice none 0 0)], boxO bb2 [u1_0, u1_1, u1_2], boxO bb1 [(.int .i64 a0_0), (.int .i64 a0_1), (.bool a0_2), u0_3, u0_4]]) := Sep.sel S_10 [0, 1, 2, 3, 4, 5, 6] (by decide)
    have X_7 : Mod [] h0 hp7 := Mod.step (A := [boxO bb4 [(.slice none 0 0), (.slice none 0 0), (.slice none 0 0)]]) (L := [ownO (kF .f32) 40 v1 x4.1, ownO (kF .f32) 40 v2 x4.2.1, ownO (kF .f32) 40 v3 x4.2.2, boxO bb3 [(.slice none 0 0), (.slice none 0 0), (.slice none 0 0)], boxO bb2 [u1_0, u1_1, u1_2], boxO bb1 [(.int .i64 a0_0), (.int .i64 a0_1), (.bool a0_2), u0_3, u0_4]]) X_6 S_11 MT_7
    have S_12 : Sep [] h0.size hp7 [boxO bb4 [v1, v2, v3], ownO (kF .f32) 40 v1 x4.1, ownO (kF .f32) 40 v2 x4.2.1, ownO (kF .f32) 40 v3 x4.2.2, boxO bb3 [(.slice none 0 0), (.slice none 0 0), (.slice none 0 0)], boxO bb2 [u1_0, u1_1, u1_2], boxO bb1 [(.int .i64 a0_0), (.int .i64 a0_1), (.bool a0_2), u0_3, u0_4]] := Sep.step (A := [boxO bb4 [(.slice none 0 0), (.slice none 0 0), (.slice none 0 0)]]) (L := [ownO (kF .f32) 40 v1 x4.1, ownO (kF .f32) 40 v2 x4.2.1, ownO (kF .f32) 40 v3 x4.2.2, boxO bb3 [(.slice none 0 0), (.slice none 0 0), (.slice none 0 0)], boxO bb2 [u1_0, u1_1, u1_2], boxO bb1 [(.int .i64 a0_0), (.int .i64 a0_1), (.bool a0_2), u0_3, u0_4]]) S_11 (Mod.size X_6) MT_7 T_7
    refine RL.nil ?_
    refine thnN ?_
    refine W.seq ?_
    refine W.seq ?_
    refine W.region ?_
    refine RL.opD (by decide) (opv_fieldAddr rfl Try.fo53_0 rfl) ?_
    refine RL.opD (by decide) (opv_loadB rfl Try.one22 rfl (Sep.at (o := boxO bb4 [v1, v2, v3]) S_12 0 rfl) rfl) ?_
    refine RL.opD (by decide) (opv_len rfl Try.underlying22 rfl (ownO.read (Sep.at (o := ownO (kF .f32) 40 v1 x4.1) S_12 1 rfl))) ?_
    refine RL.opD (by decide) (opv_move rfl rfl) ?_
    refine RL.nil ?_
    refine thnN ?_
    obtain ⟨y2, hy2, hp⟩ := Option.bind_eq_some_iff.1 hp
    refine W.cut (fun φ' h' => ∃ x7, ∃ x8, ∃ x9, y2 = (x7, x8, x9) ∧ Fr.sub [(0, (.agg (List.toArray (α := Value) [(.int .i64 a0_0), (.int .i64 a0_1), (.bool a0_2), u0_3, u0_4]))), (1, (.agg (List.toArray (α := Value) [u1_0, u1_1, u1_2]))), (2, (.int .i64 a2)), (3, (.pointer (some ⟨bb1, 0, none⟩))), (4, (.pointer (some ⟨bb2, 0, none⟩))), (6, (.pointer (some ⟨bb3, 0, none⟩))), (7, (.bool false)), (17, (.bool x1)), (8, (.pointer (some ⟨bb4, 0, none⟩))), (22, (.int .i64 (x4.1.length : Int))), (23, (.int .i64 x7)), (24, (.bool x8))] φ' ∧ Mod [] h0 h' ∧ Sep [] h0.size h' [boxO bb4 [v1, v2, v3], ownO (kF .f32) 40 v1 x9, ownO (kF .f32) 40 v2 x4.2.1, ownO (kF .f32) 40 v3 x4.2.2, boxO bb3 [(.slice none 0 0), (.slice none 0 0), (.slice none 0 0)], boxO bb2 [u1_0, u1_1, u1_2], boxO bb1 [(.int .i64 a0_0), (.int .i64 a0_1), (.bool a0_2), u0_3, u0_4]]) ?_ ?_
    · refine W.block ?_
      refine W.loopS (fun (s : (Int × (List (Option Nat)))) φ' h' => Fr.sub [(0, (.agg (List.toArray (α := Value) [(.int .i64 a0_0), (.int .i64 a0_1), (.bool a0_2), u0_3, u0_4]))), (1, (.agg (List.toArray (α := Value) [u1_0, u1_1, u1_2]))), (2, (.int .i64 a2)), (3, (.pointer (some ⟨bb1, 0, none⟩))), (4, (.pointer (some ⟨bb2, 0, none⟩))), (6, (.pointer (some ⟨bb3, 0, none⟩))), (7, (.bool false)), (17, (.bool x1)), (8, (.pointer (some ⟨bb4, 0, none⟩))), (22, (.int .i64 (x4.1.length : Int))), (23, (.int .i64 s.1))] φ' ∧ Mod [] h0 h' ∧ Sep [] h0.size h' [boxO bb4 [v1, v2, v3], ownO (kF .f32) 40 v1 s.2, ownO (kF .f32) 40 v2 x4.2.1, ownO (kF .f32) 40 v3 x4.2.2, boxO bb3 [(.slice none 0 0), (.slice none 0 0), (.slice none 0 0)], boxO bb2 [u1_0, u1_1, u1_2], boxO bb1 [(.int .i64 a0_0), (.int .i64 a0_1), (.bool a0_2), u0_3, u0_4]]) hy2 ⟨⟨rfl, rfl, rfl, rfl, rfl, rfl, rfl, rfl, rfl, rfl, rfl, trivial⟩, X_7, (Sep.sel S_12 [0, 1, 2, 3, 4, 5, 6] (by decide))⟩ ?_
      rintro ⟨x5, x6⟩ φ' hp8 o1 ⟨hs2, X_8, S_13⟩ ho1 hy1
      have hs2 : Fr.sub [(0, (.agg (List.toArray (α := Value) [(.int .i64 a0_0), (.int .i64 a0_1), (.bool a0_2), u0_3, u0_4]))), (1, (.agg (List.toArray (α := Value) [u1_0, u1_1, u1_2]))), (2, (.int .i64 a2)), (3, (.pointer (some ⟨bb1, 0, none⟩))), (4, (.pointer (some ⟨bb2, 0, none⟩))), (6, (.pointer (some ⟨bb3, 0, none⟩))), (7, (.bool false)), (17, (.bool x1)), (8, (.pointer (some ⟨bb4, 0, none⟩))), (22, (.int .i64 (x4.1.length : Int))), (23, (.int .i64 x5))] φ' := hs2
      have S_13 : Sep [] h0.size hp8 [boxO bb4 [v1, v2, v3], ownO (kF .f32) 40 v1 x6, ownO (kF .f32) 40 v2 x4.2.1, ownO (kF .f32) 40 v3 x4.2.2, boxO bb3 [(.slice none 0 0), (.slice none 0 0), (.slice none 0 0)], boxO bb2 [u1_0, u1_1, u1_2], boxO bb1 [(.int .i64 a0_0), (.int .i64 a0_1), (.bool a0_2), u0_3, u0_4]] := S_13
      have ho1 : spec_RampField.s0 a0_0 a0_1 a0_2 a0_3 a0_4 a2 x4 x5 x6 = some o1 := ho1
      unfold spec_RampField.s0 at ho1
      refine W.sub hs2 ?_
      refine W.seq ?_
      refine W.region ?_
      refine RL.opD (by decide) (opv_icmp rfl rfl rfl rfl) ?_
      refine RL.nil ?_
      refine thnN ?_
      refine W.seq ?_
      by_cases c3 : (decide (x5 < (x4.1.length : Int))) = true
      · rw [if_pos c3] at ho1
        refine W.condT rfl c3 ?_
        refine W.skip ?_
        refine thnN ?_
        refine W.seq ?_
        refine W.block ?_
        refine W.seq ?_
        refine W.region ?_
        refine RL.opD (by decide) (opv_move rfl rfl) ?_
        refine RL.opD (by decide) (opv_assign rfl rfl) ?_
        refine RL.nil ?_
        refine thnN ?_
        refine W.seq ?_
        obtain ⟨x10, hx10, ho1⟩ := Option.bind_eq_some_iff.1 ho1
        refine W.region ?_
        refine RL.opD (by decide) (opv_move rfl rfl) ?_
        refine RL.op _ (by decide) (opv_call (cap := []) (spec_l05Depth_ok _ _ _ _ _ _ _ (SL.up (SL.mod g0_3 X_8 (Nat.le_refl _) nob) (Nat.le_trans (Nat.le_refl _) (Mod.size X_8))) _ _ (SL.up (SL.mod g0_4 X_8 (Nat.le_refl _) nob) (Nat.le_trans (Nat.le_refl _) (Mod.size X_8))) (Sep.at (o := boxO bb1 [(.int .i64 a0_0), (.int .i64 a0_1), (.bool a0_2), u0_3, u0_4]) S_13 6 rfl) _ _ hx10) rfl rfl ⟨rfl, rfl, trivial⟩ Try.func112 rfl rfl) ?_
        rintro _ _ ⟨rfl, rfl⟩
        refine RL.opD (by decide) (opv_assign rfl rfl) ?_
        refine RL.nil ?_
        refine thnN ?_
        refine W.seq ?_
        refine W.region ?_
        refine RL.opD (by decide) (opv_move rfl rfl) ?_
        refine RL.opD (by decide) (opv_move rfl rfl) ?_
        refine RL.opD (by decide) (opv_icmp rfl rfl rfl rfl) ?_
        refine RL.nil ?_
        refine thnN ?_
        obtain ⟨x11, hy3, ho1⟩ := Option.bind_eq_some_iff.1 ho1
        refine W.cut (fun φ' h' => Fr.sub [(0, (.agg (List.toArray (α := Value) [(.int .i64 a0_0), (.int .i64 a0_1), (.bool a0_2), u0_3, u0_4]))), (1, (.agg (List.toArray (α := Value) [u1_0, u1_1, u1_2]))), (2, (.int .i64 a2)), (3, (.pointer (some ⟨bb1, 0, none⟩))), (4, (.pointer (some ⟨bb2, 0, none⟩))), (6, (.pointer (some ⟨bb3, 0, none⟩))), (7, (.bool false)), (17, (.bool x1)), (8, (.pointer (some ⟨bb4, 0, none⟩))), (22, (.int .i64 (x4.1.length : Int))), (23, (.int .i64 x5)), (24, (.bool (decide (x5 < (x4.1.length : Int))))), (9, (.int .i64 x5)), (10, (.int .i64 x10)), (30, (.bool (decide (x10 < a2))))] φ' ∧ Mod [] h0 h' ∧ Sep [] h0.size h' [boxO bb4 [v1, v2, v3], ownO (kF .f32) 40 v1 x11, ownO (kF .f32) 40 v2 x4.2.1, ownO (kF .f32) 40 v3 x4.2.2, boxO bb3 [(.slice none 0 0), (.slice none 0 0), (.slice none 0 0)], boxO bb2 [u1_0, u1_1, u1_2], boxO bb1 [(.int .i64 a0_0), (.int .i64 a0_1), (.bool a0_2), u0_3, u0_4]]) ?_ ?_
        · by_cases c4 : (decide (x10 < a2)) = true
          · rw [if_pos c4] at hy3
            refine W.condT rfl c4 ?_
            obtain ⟨x12, hx12, hy3⟩ := Option.bind_eq_some_iff.1 hy3
            obtain ⟨x13, hx13, hy3⟩ := Option.bind_eq_some_iff.1 hy3
            obtain ⟨x14, hx14, hy3⟩ := Option.bind_eq_some_iff.1 hy3
            refine W.sub (ψ := [(0, (.agg (List.toArray (α := Value) [(.int .i64 a0_0), (.int .i64 a0_1), (.bool a0_2), u0_3, u0_4]))), (1, (.agg (List.toArray (α := Value) [u1_0, u1_1, u1_2]))), (2, (.int .i64 a2)), (3, (.pointer (some ⟨bb1, 0, none⟩))), (4, (.pointer (some ⟨bb2, 0, none⟩))), (6, (.pointer (some ⟨bb3, 0, none⟩))), (7, (.bool false)), (17, (.bool x1)), (8, (.pointer (some ⟨bb4, 0, none⟩))), (22, (.int .i64 (x4.1.length : Int))), (23, (.int .i64 x5)), (24, (.bool (decide (x5 < (x4.1.length : Int))))), (9, (.int .i64 x5)), (10, (.int .i64 x10)), (30, (.bool (decide (x10 < a2))))]) ⟨rfl, rfl, rfl, rfl, rfl, rfl, rfl, rfl, rfl, rfl, rfl, rfl, rfl, rfl, rfl, trivial⟩ ?_
            refine W.regionP [fun v _ => @Eq Value (.pointer (some ⟨bb4, 0, none⟩)) v, fun v _ => @Eq Value v1 v, fun v _ => @Eq Value (.int .i64 x5) v, fun v _ => @Eq Value (.pointer (some ⟨bb4, 0, none⟩)) v, fun v _ => @Eq Value v1 v, fun v _ => @Eq Value (.int .i64 x5) v, fun v _ => PtI 1 v v1 (Int.toNat x5), fun v _ => IsF .f32 v x12, fun v _ => @Eq Value (.int .i64 x10) v, fun v _ => IsF .f32 v (fofi .f32 x10), fun v _ => @Eq Value (.int .i64 a2) v, fun v _ => IsF .f32 v (fofi .f32 a2), fun v _ => IsF .f32 v (fop .quo .f32 (fofi .f32 x10) (fofi .f32 a2)), fun v _ => IsF .f32 v (fop .mul .f32 x12 (fop .quo .f32 (fofi .f32 x10) (fofi .f32 a2))), fun v _ => PtI 1 v v1 (Int.toNat x5)] [[], [0], [], [], [3], [], [4, 5], [6], [], [8], [], [10], [9, 11], [7, 12], [1, 2]] [13, 14] Try.mixed (by decide +kernel) (by decide +kernel) rfl rfl rfl ?_ ?_
            · refine ⟨⟨rfl, ?_⟩, ⟨rfl, ?_⟩, ⟨rfl, ?_⟩, ⟨rfl, ?_⟩, ⟨rfl, ?_⟩, ⟨rfl, ?_⟩, ⟨rfl, ?_⟩, ⟨rfl, ?_⟩, ⟨rfl, ?_⟩, ⟨rfl, ?_⟩, ⟨rfl, ?_⟩, ⟨rfl, ?_⟩, ⟨rfl, ?_⟩, ⟨rfl, ?_⟩, ⟨rfl, ?_⟩, trivial⟩
              · rintro _ rfl
                refine Dep.nil ?_
                refine GuardOK.none rfl ?_
                exact OpV.toD (opv_fieldAddr rfl Try.fo53_0 rfl) rfl
              · rintro _ rfl _ rfl
                refine Dep.nil ?_
                refine GuardOK.none rfl ?_
                exact OpV.toD (opv_loadB rfl Try.one22 rfl (Sep.at (o := boxO bb4 [v1, v2, v3]) S_13 0 rfl) rfl) rfl
              · rintro _ rfl
                refine Dep.nil ?_
                refine GuardOK.none rfl ?_
                exact OpV.toD (opv_move rfl rfl) rfl
              · rintro _ rfl
                refine Dep.nil ?_
                refine GuardOK.none rfl ?_
                exact OpV.toD (opv_fieldAddr rfl Try.fo53_0 rfl) rfl
              · rintro _ rfl _ rfl
                refine Dep.nil ?_
                refine GuardOK.none rfl ?_
                exact OpV.toD (opv_loadB rfl Try.one22 rfl (Sep.at (o := boxO bb4 [v1, v2, v3]) S_13 0 rfl) rfl) rfl
              · rintro _ rfl
                refine Dep.nil ?_
                refine GuardOK.none rfl ?_
                exact OpV.toD (opv_move rfl rfl) rfl
              · rintro _ rfl _ rfl _ rfl
                refine Dep.nil ?_
                refine GuardOK.none rfl ?_
                exact OpV.toS (opv_index rfl Try.underlying22 (by rw [Try.size40]; rfl) rfl rfl (ownO.read (Sep.at (o := ownO (kF .f32) 40 v1 x6) S_13 1 rfl)) hx12) (fun _ h => h)
              · rintro _ rfl v4 fv4
                refine Dep.nil ?_
                refine GuardOK.none rfl ?_
                exact OpV.toS (opv_loadF rfl Try.one40 rfl fv4 (ownO.read (Sep.at (o := ownO (kF .f32) 40 v1 x6) S_13 1 rfl)) hx12) (fun _ h => h)
              · rintro _ rfl
                refine Dep.nil ?_
                refine GuardOK.none rfl ?_
                exact OpV.toD (opv_move rfl rfl) rfl
              · rintro _ rfl _ rfl
                refine Dep.nil ?_
                refine GuardOK.none rfl ?_
                exact OpV.toS (opv_i2f rfl (by rw [Try.underlying2]; rfl) Try.underlying40 rfl) (fun _ h => h)
              · rintro _ rfl
                refine Dep.nil ?_
                refine GuardOK.none rfl ?_
                exact OpV.toD (opv_move rfl rfl) rfl
              · rintro _ rfl _ rfl
                refine Dep.nil ?_
                refine GuardOK.none rfl ?_
                exact OpV.toS (opv_i2f rfl (by rw [Try.underlying2]; rfl) Try.underlying40 rfl) (fun _ h => h)
              · rintro _ rfl v6 fv6 v7 fv7
                refine Dep.nil ?_
                refine GuardOK.none rfl ?_
                exact OpV.toS (opv_fop rfl rfl rfl rfl fv6 fv7) (fun _ h => h)
              · rintro _ rfl v5 fv5 v8 fv8
                refine Dep.nil ?_
                refine GuardOK.none rfl ?_
                exact OpV.toS (opv_fop rfl rfl rfl rfl fv5 fv8) (fun _ h => h)
              · rintro _ rfl _ rfl _ rfl
                refine Dep.nil ?_
                refine GuardOK.none rfl ?_
                exact OpV.toS (opv_index rfl Try.underlying22 (by rw [Try.size40]; rfl) rfl rfl (ownO.read (Sep.at (o := ownO (kF .f32) 40 v1 x6) S_13 1 rfl)) hx13) (fun _ h => h)
            rintro v9 fv9 v10 fv10
            refine Dep.nil ?_
            show RL _ _ _ _ (_ :: _) _ _
            refine RL.op0 _ (opS_storeE (K := (kF .f32)) rfl Try.size40 rfl rfl fv10 rfl ⟨_, rfl, fv9⟩ hx14 (Sep.at (o := ownO (kF .f32) 40 v1 x6) S_13 1 rfl)) ?_
            rintro _ hp10 ⟨rfl, MT_9, T_9⟩
            have S_16 : Sep [] h0.size hp8 ([ownO (kF .f32) 40 v1 x6] ++ [boxO bb4 [v1, v2, v3], ownO (kF .f32) 40 v2 x4.2.1, ownO (kF .f32) 40 v3 x4.2.2, boxO bb3 [(.slice none 0 0), (.slice none 0 0), (.slice none 0 0)], boxO bb2 [u1_0, u1_1, u1_2], boxO bb1 [(.int .i64 a0_0), (.int .i64 a0_1), (.bool a0_2), u0_3, u0_4]]) := Sep.sel S_13 [1, 0, 2, 3, 4, 5, 6] (by decide)
            have X_10 : Mod [] h0 hp10 := Mod.step (A := [ownO (kF .f32) 40 v1 x6]) (L := [boxO bb4 [v1, v2, v3], ownO (kF .f32) 40 v2 x4.2.1, ownO (kF .f32) 40 v3 x4.2.2, boxO bb3 [(.slice none 0 0), (.slice none 0 0), (.slice none 0 0)], boxO bb2 [u1_0, u1_1, u1_2], boxO bb1 [(.int .i64 a0_0), (.int .i64 a0_1), (.bool a0_2), u0_3, u0_4]]) X_8 S_16 MT_9
            have S_17 : Sep [] h0.size hp10 [ownO (kF .f32) 40 v1 x14, boxO bb4 [v1, v2, v3], ownO (kF .f32) 40 v2 x4.2.1, ownO (kF .f32) 40 v3 x4.2.2, boxO bb3 [(.slice none 0 0), (.slice none 0 0), (.slice none 0 0)], boxO bb2 [u1_0, u1_1, u1_2], boxO bb1 [(.int .i64 a0_0), (.int .i64 a0_1), (.bool a0_2), u0_3, u0_4]] := Sep.step (A := [ownO (kF .f32) 40 v1 x6]) (L := [boxO bb4 [v1, v2, v3], ownO (kF .f32) 40 v2 x4.2.1, ownO (kF .f32) 40 v3 x4.2.2, boxO bb3 [(.slice none 0 0), (.slice none 0 0), (.slice none 0 0)], boxO bb2 [u1_0, u1_1, u1_2], boxO bb1 [(.int .i64 a0_0), (.int .i64 a0_1), (.bool a0_2), u0_3, u0_4]]) S_16 (Mod.size X_8) MT_9 T_9
            refine RL.nil ?_
            have ey3 := Option.some.inj hy3
            subst ey3
            refine onlyN ?_
            exact ⟨⟨rfl, rfl, rfl, rfl, rfl, rfl, rfl, rfl, rfl, rfl, rfl, rfl, rfl, rfl, rfl, trivial⟩, X_10, (Sep.sel S_17 [1, 0, 2, 3, 4, 5, 6] (by decide))⟩
          · rw [if_neg c4] at hy3
            have c4 := eq_false_of_ne_true c4
            refine W.condF rfl c4 ?_
            refine W.skip ?_
            have ey3 := Option.some.inj hy3
            subst ey3
            refine onlyN ?_
            exact ⟨⟨rfl, rfl, rfl, rfl, rfl, rfl, rfl, rfl, rfl, rfl, rfl, rfl, rfl, rfl, rfl, trivial⟩, X_8, (Sep.sel S_13 [0, 1, 2, 3, 4, 5, 6] (by decide))⟩
        rintro φ' hp11 ⟨hs4, X_11, S_18⟩
        refine blkN ?_
        refine thnN ?_
        refine W.sub hs4 ?_
        refine W.region ?_
        refine RL.opD (by decide) (opv_add rfl rfl rfl) ?_
        refine RL.opD (by decide) (opv_move rfl rfl) ?_
        refine RL.nil ?_
        have eo1 := Option.some.inj ho1
        subst eo1
        refine rndN (s' := (IntKind.wrap .i64 (x5 + 1), x11)) rfl ?_
        exact ⟨⟨rfl, rfl, rfl, rfl, rfl, rfl, rfl, rfl, rfl, rfl, rfl, trivial⟩, X_11, (Sep.sel S_18 [0, 1, 2, 3, 4, 5, 6] (by decide))⟩
      · rw [if_neg c3] at ho1
        have c3 := eq_false_of_ne_true c3
        refine W.condF rfl c3 ?_
        refine W.exit ?_
        refine thnX ?_
        refine rndX ?_
        refine blkI ?_
        have eo1 := Option.some.inj ho1
        subst eo1
        have ey2 := hy1 _ rfl
        subst ey2
        refine onlyN ?_
        exact ⟨x5, decide (x5 < (x4.1.length : Int)), x6, rfl, ⟨rfl, rfl, rfl, rfl, rfl, rfl, rfl, rfl, rfl, rfl, rfl, rfl, trivial⟩, X_8, (Sep.sel S_13 [0, 1, 2, 3, 4, 5, 6] (by decide))⟩
    rintro φ' hp12 ⟨x7, x8, x9, rfl, hs3, X_12, S_19⟩
    try dsimp only at hp
    refine thnN ?_
    refine W.sub hs3 ?_
    refine W.seq ?_
    refine W.seq ?_
    obtain ⟨x15, hx15, hp⟩ := Option.bind_eq_some_iff.1 hp
    refine W.region ?_
    refine RL.op _ (by decide) (opv_call (cap := []) (spec_l02Fits_ok _ _ _ _ _ _ _ (SL.up (SL.mod g0_3 X_12 (Nat.le_refl _) nob) (Nat.le_trans (Nat.le_refl _) (Mod.size X_12))) _ _ (SL.up (SL.mod g0_4 X_12 (Nat.le_refl _) nob) (Nat.le_trans (Nat.le_refl _) (Mod.size X_12))) (Sep.at (o := boxO bb1 [(.int .i64 a0_0), (.int .i64 a0_1), (.bool a0_2), u0_3, u0_4]) S_19 6 rfl) _ _ _ (ownO.read (Sep.at (o := ownO (kF .f32) 40 v1 x9) S_19 1 rfl)) _ _ (ownO.read (Sep.at (o := ownO (kF .f32) 40 v2 x4.2.1) S_19 2 rfl)) _ _ (ownO.read (Sep.at (o := ownO (kF .f32) 40 v3 x4.2.2) S_19 3 rfl)) (Sep.at (o := boxO bb4 [v1, v2, v3]) S_19 0 rfl) _ hx15) rfl rfl ⟨rfl, rfl, trivial⟩ Try.func122 rfl rfl) ?_
    rintro _ _ ⟨rfl, rfl⟩
    refine RL.opD (by decide) (opv_not rfl rfl) ?_
    refine RL.nil ?_
    refine thnN ?_
    by_cases c5 : (!x15) = true
    · rw [if_pos c5] at hp
      refine W.condT rfl c5 ?_
      refine W.seq ?_
      refine W.region ?_
      refine RL.opD (by decide) (opv_build (cs := [(.slice none 0 0), (.slice none 0 0), (.slice none 0 0)]) [] [] rfl Try.bd53 trivial rfl) ?_
      refine RL.op0 _ (opS_stored (cs := [(.slice none 0 0), (.slice none 0 0), (.slice none 0 0)]) (cs' := [(.slice none 0 0), (.slice none 0 0), (.slice none 0 0)]) (opv_storeA (us := [(.slice none 0 0), (.slice none 0 0), (.slice none 0 0)]) rfl Try.size53 rfl rfl (oneAll rfl (oneAll rfl (oneAll rfl rfl))) (Sep.at (o := boxO bb3 [(.slice none 0 0), (.slice none 0 0), (.slice none 0 0)]) S_19 4 rfl) rfl rfl) (Sep.at (o := boxO bb3 [(.slice none 0 0), (.slice none 0 0), (.slice none 0 0)]) S_19 4 rfl)) ?_
      rintro _ hp13 ⟨rfl, MT_10, T_10⟩
      have S_20 : Sep [] h0.size hp12 ([boxO bb3 [(.slice none 0 0), (.slice none 0 0), (.slice none 0 0)]] ++ [boxO bb4 [v1, v2, v3], ownO (kF .f32) 40 v1 x9, ownO (kF .f32) 40 v2 x4.2.1, ownO (kF .f32) 40 v3 x4.2.2, boxO bb2 [u1_0, u1_1, u1_2], boxO bb1 [(.int .i64 a0_0), (.int .i64 a0_1), (.bool a0_2), u0_3, u0_4]]) := Sep.sel S_19 [4, 0, 1, 2, 3, 5, 6] (by decide)
      have X_13 : Mod [] h0 hp13 := Mod.step (A := [boxO bb3 [(.slice none 0 0), (.slice none 0 0), (.slice none 0 0)]]) (L := [boxO bb4 [v1, v2, v3], ownO (kF .f32) 40 v1 x9, ownO (kF .f32) 40 v2 x4.2.1, ownO (kF .f32) 40 v3 x4.2.2, boxO bb2 [u1_0, u1_1, u1_2], boxO bb1 [(.int .i64 a0_0), (.int .i64 a0_1), (.bool a0_2), u0_3, u0_4]]) X_12 S_20 MT_10
      have S_21 : Sep [] h0.size hp13 [boxO bb3 [(.slice none 0 0), (.slice none 0 0), (.slice none 0 0)], boxO bb4 [v1, v2, v3], ownO (kF .f32) 40 v1 x9, ownO (kF .f32) 40 v2 x4.2.1, ownO (kF .f32) 40 v3 x4.2.2, boxO bb2 [u1_0, u1_1, u1_2], boxO bb1 [(.int .i64 a0_0), (.int .i64 a0_1), (.bool a0_2), u0_3, u0_4]] := Sep.step (A := [boxO bb3 [(.slice none 0 0), (.slice none 0 0), (.slice none 0 0)]]) (L := [boxO bb4 [v1, v2, v3], ownO (kF .f32) 40 v1 x9, ownO (kF .f32) 40 v2 x4.2.1, ownO (kF .f32) 40 v3 x4.2.2, boxO bb2 [u1_0, u1_1, u1_2], boxO bb1 [(.int .i64 a0_0), (.int .i64 a0_1), (.bool a0_2), u0_3, u0_4]]) S_20 (Mod.size X_12) MT_10 T_10
      refine RL.opD (by decide) (opv_assign rfl rfl) ?_
      refine RL.nil ?_
      refine thnN ?_
      refine W.ret ?_
      refine thnR ?_
      have S_22 : Sep [] h0.size hp13 [ownO (kF .f32) 40 (.slice none 0 0) ([] : List (Option Nat)), boxO bb3 [(.slice none 0 0), (.slice none 0 0), (.slice none 0 0)], boxO bb4 [v1, v2, v3], ownO (kF .f32) 40 v1 x9, ownO (kF .f32) 40 v2 x4.2.1, ownO (kF .f32) 40 v3 x4.2.2, boxO bb2 [u1_0, u1_1, u1_2], boxO bb1 [(.int .i64 a0_0), (.int .i64 a0_1), (.bool a0_2), u0_3, u0_4]] := Sep.addNil S_21
      have S_23 : Sep [] h0.size hp13 [ownO (kF .f32) 40 (.slice none 0 0) ([] : List (Option Nat)), ownO (kF .f32) 40 (.slice none 0 0) ([] : List (Option Nat)), boxO bb3 [(.slice none 0 0), (.slice none 0 0), (.slice none 0 0)], boxO bb4 [v1, v2, v3], ownO (kF .f32) 40 v1 x9, ownO (kF .f32) 40 v2 x4.2.1, ownO (kF .f32) 40 v3 x4.2.2, boxO bb2 [u1_0, u1_1, u1_2], boxO bb1 [(.int .i64 a0_0), (.int .i64 a0_1), (.bool a0_2), u0_3, u0_4]] := Sep.addNil S_22
      have S_24 : Sep [] h0.size hp13 [ownO (kF .f32) 40 (.slice none 0 0) ([] : List (Option Nat)), ownO (kF .f32) 40 (.slice none 0 0) ([] : List (Option Nat)), ownO (kF .f32) 40 (.slice none 0 0) ([] : List (Option Nat)), boxO bb3 [(.slice none 0 0), (.slice none 0 0), (.slice none 0 0)], boxO bb4 [v1, v2, v3], ownO (kF .f32) 40 v1 x9, ownO (kF .f32) 40 v2 x4.2.1, ownO (kF .f32) 40 v3 x4.2.2, boxO bb2 [u1_0, u1_1, u1_2], boxO bb1 [(.int .i64 a0_0), (.int .i64 a0_1), (.bool a0_2), u0_3, u0_4]] := Sep.addNil S_23
      have er := Option.some.inj hp
      subst er
      exact Rt.cellA rfl rfl rfl Try.agg53 Try.size53 (Sep.at (o := boxO bb3 [(.slice none 0 0), (.slice none 0 0), (.slice none 0 0)]) S_24 3 rfl) rfl ⟨(.slice none 0 0), (.slice none 0 0), (.slice none 0 0), rfl, X_13, (Sep.sel S_24 [2, 1, 0] (by decide))⟩
    · rw [if_neg c5] at hp
      have c5 := eq_false_of_ne_true c5
      refine W.condF rfl c5 ?_
      refine W.skip ?_
      refine thnN ?_
      refine W.seq ?_
      refine W.region ?_
      refine RL.opD (by decide) (opv_loadA (us := [v1, v2, v3]) rfl Try.agg53 Try.size53 rfl (Sep.at (o := boxO bb4 [v1, v2, v3]) S_19 0 rfl) rfl rfl) ?_
      refine RL.op0 _ (opS_stored (cs := [(.slice none 0 0), (.slice none 0 0), (.slice none 0 0)]) (cs' := [v1, v2, v3]) (opv_storeA (us := [v1, v2, v3]) rfl Try.size53 rfl rfl (oneAll (ownO.one (Sep.at (o := ownO (kF .f32) 40 v1 x9) S_19 1 rfl)) (oneAll (ownO.one (Sep.at (o := ownO (kF .f32) 40 v2 x4.2.1) S_19 2 rfl)) (oneAll (ownO.one (Sep.at (o := ownO (kF .f32) 40 v3 x4.2.2) S_19 3 rfl)) rfl))) (Sep.at (o := boxO bb3 [(.slice none 0 0), (.slice none 0 0), (.slice none 0 0)]) S_19 4 rfl) rfl rfl) (Sep.at (o := boxO bb3 [(.slice none 0 0), (.slice none 0 0), (.slice none 0 0)]) S_19 4 rfl)) ?_
      rintro _ hp14 ⟨rfl, MT_11, T_11⟩
      have S_25 : Sep [] h0.size hp12 ([boxO bb3 [(.slice none 0 0), (.slice none 0 0), (.slice none 0 0)]] ++ [boxO bb4 [v1, v2, v3], ownO (kF .f32) 40 v1 x9, ownO (kF .f32) 40 v2 x4.2.1, ownO (kF .f32) 40 v3 x4.2.2, boxO bb2 [u1_0, u1_1, u1_2], boxO bb1 [(.int .i64 a0_0), (.int .i64 a0_1), (.bool a0_2), u0_3, u0_4]]) := Sep.sel S_19 [4, 0, 1, 2, 3, 5, 6] (by decide)
      have X_14 : Mod [] h0 hp14 := Mod.step (A := [boxO bb3 [(.slice none 0 0), (.slice none 0 0), (.slice none 0 0)]]) (L := [boxO bb4 [v1, v2, v3], ownO (kF .f32) 40 v1 x9, ownO (kF .f32) 40 v2 x4.2.1, ownO (kF .f32) 40 v3 x4.2.2, boxO bb2 [u1_0, u1_1, u1_2], boxO bb1 [(.int .i64 a0_0), (.int .i64 a0_1), (.bool a0_2), u0_3, u0_4]]) X_12 S_25 MT_11
      have S_26 : Sep [] h0.size hp14 [boxO bb3 [v1, v2, v3], boxO bb4 [v1, v2, v3], ownO (kF .f32) 40 v1 x9, ownO (kF .f32) 40 v2 x4.2.1, ownO (kF .f32) 40 v3 x4.2.2, boxO bb2 [u1_0, u1_1, u1_2], boxO bb1 [(.int .i64 a0_0), (.int .i64 a0_1), (.bool a0_2), u0_3, u0_4]] := Sep.step (A := [boxO bb3 [(.slice none 0 0), (.slice none 0 0), (.slice none 0 0)]]) (L := [boxO bb4 [v1, v2, v3], ownO (kF .f32) 40 v1 x9, ownO (kF .f32) 40 v2 x4.2.1, ownO (kF .f32) 40 v3 x4.2.2, boxO bb2 [u1_0, u1_1, u1_2], boxO bb1 [(.int .i64 a0_0), (.int .i64 a0_1), (.bool a0_2), u0_3, u0_4]]) S_25 (Mod.size X_12) MT_11 T_11
      refine RL.opD (by decide) (opv_assign rfl rfl) ?_
      refine RL.nil ?_
      refine thnN ?_
      refine W.ret ?_
      have er := Option.some.inj hp
      subst er
      exact Rt.cellA rfl rfl rfl Try.agg53 Try.size53 (Sep.at (o := boxO bb3 [v1, v2, v3]) S_26 0 rfl) rfl ⟨v1, v2, v3, rfl, X_14, (Sep.sel S_26 [2, 3, 4] (by decide))⟩

set_option maxRecDepth 20000 in
theorem impl_RampField_1_2_ok (h0 : Heap) (lo : Nat) (hlo : lo ≤ h0.size) (a0 : Int) (a1 : Int) (a2 : Int) (be0 : Nat) (ae0_0 : Int) (ae0_1 : Int) (ae0_2 : Bool) (ue0_3 : Value) (ae0_3 : List (Option Nat)) (ge0_3 : SL (kF .f32) lo h0 ue0_3 ae0_3) (ue0_4 : Value) (ae0_4 : List (Option Nat)) (ge0_4 : SL (kF .f32) lo h0 ue0_4 ae0_4) (be1 : Nat) (ae1_0 : Int) (be2 : Nat) (ue2_0 : Value) (ae2_0 : List (Option Nat)) (ue2_1 : Value) (ae2_1 : List (Option Nat)) (ue2_2 : Value) (ae2_2 : List (Option Nat)) (S0 : Sep [some be0, some be1, some be2, ue2_0.ownBlock, ue2_1.ownBlock, ue2_2.ownBlock] h0.size h0 [boxO be0 [(.int .i64 ae0_0), (.int .i64 ae0_1), (.bool ae0_2), ue0_3, ue0_4], boxO be1 [(.int .i64 ae1_0)], boxO be2 [ue2_0, ue2_1, ue2_2], ownO (kF .f32) 40 ue2_0 ae2_0, ownO (kF .f32) 40 ue2_1 ae2_1, ownO (kF .f32) 40 ue2_2 ae2_2]) (hB : ∀ b, some b ∈ [some be0, some be1, some be2, ue2_0.ownBlock, ue2_1.ownBlock, ue2_2.ownBlock] → lo ≤ b) (r : (Int × Int × Bool × Int × (List (Option Nat)) × (List (Option Nat)) × (List (Option Nat)))) (hp : impl_RampField_1_2 a0 a1 a2 ae0_0 ae0_1 ae0_2 ae0_3 ae0_4 ae1_0 ae2_0 ae2_1 ae2_2 = some r) : CallsH Try.prog 133 ([(.int .i64 a0), (.int .i64 a1), (.int .i64 a2)].toArray ++ [(.pointer (some ⟨be0, 0, none⟩)), (.pointer (some ⟨be1, 0, none⟩)), (.pointer (some ⟨be2, 0, none⟩))].toArray) h0 (fun v h' => v = (.tuple (List.toArray (α := Value) [])) ∧ Mod [some be0, some be1, some be2, ue2_0.ownBlock, ue2_1.ownBlock, ue2_2.ownBlock] h0 h' ∧ Sep [some be0, some be1, some be2, ue2_0.ownBlock, ue2_1.ownBlock, ue2_2.ownBlock] h0.size h' [boxO be0 [(.int .i64 r.1), (.int .i64 r.2.1), (.bool r.2.2.1), ue0_3, ue0_4], boxO be1 [(.int .i64 r.2.2.2.1)], boxO be2 [ue2_0, ue2_1, ue2_2], ownO (kF .f32) 40 ue2_0 r.2.2.2.2.1, ownO (kF .f32) 40 ue2_1 r.2.2.2.2.2.1, ownO (kF .f32) 40 ue2_2 r.2.2.2.2.2.2]) := by
  unfold impl_RampField_1_2 at hp
  refine callsH_of_W (l := [(.int .i64 a0), (.int .i64 a1), (.int .i64 a2)]) (cap := [(.pointer (some ⟨be0, 0, none⟩)), (.pointer (some ⟨be1, 0, none⟩)), (.pointer (some ⟨be2, 0, none⟩))]) 29 Try.func133 rfl rfl rfl ?_
  refine W.seq ?_
  obtain ⟨x1, hx1, hp⟩ := Option.bind_eq_some_iff.1 hp
  refine W.region ?_
  refine RL.opD (by decide) (opv_loadA (us := [(.int .i64 ae0_0), (.int .i64 ae0_1), (.bool ae0_2), ue0_3, ue0_4]) rfl Try.agg29 Try.size29 rfl (Sep.at (o := boxO be0 [(.int .i64 ae0_0), (.int .i64 ae0_1), (.bool ae0_2), ue0_3, ue0_4]) S0 0 rfl) rfl rfl) ?_
  refine RL.opD (by decide) (opv_move rfl rfl) ?_
  refine RL.opD (by decide) (opv_move rfl rfl) ?_
  refine RL.op _ (by decide) (opv_call (cap := []) (impl_Sheet_depth_ok _ _ _ _ _ _ (SL.up ge0_3 hlo) _ _ (SL.up ge0_4 hlo) _ _ _ hx1) rfl rfl ⟨rfl, rfl, rfl, trivial⟩ Try.func115 rfl rfl) ?_
  rintro _ hp1 ⟨rfl, MT_1, T_1⟩
  have X_1 : Mod [some be0, some be1, some be2, ue2_0.ownBlock, ue2_1.ownBlock, ue2_2.ownBlock] h0 hp1 := Mod.step (A := []) (L := [boxO be0 [(.int .i64 ae0_0), (.int .i64 ae0_1), (.bool ae0_2), ue0_3, ue0_4], boxO be1 [(.int .i64 ae1_0)], boxO be2 [ue2_0, ue2_1, ue2_2], ownO (kF .f32) 40 ue2_0 ae2_0, ownO (kF .f32) 40 ue2_1 ae2_1, ownO (kF .f32) 40 ue2_2 ae2_2]) (Mod.refl [some be0, some be1, some be2, ue2_0.ownBlock, ue2_1.ownBlock, ue2_2.ownBlock] h0) S0 MT_1
  have S_1 : Sep [some be0, some be1, some be2, ue2_0.ownBlock, ue2_1.ownBlock, ue2_2.ownBlock] h0.size hp1 [boxO be0 [(.int .i64 ae0_0), (.int .i64 ae0_1), (.bool ae0_2), ue0_3, ue0_4], boxO be1 [(.int .i64 ae1_0)], boxO be2 [ue2_0, ue2_1, ue2_2], ownO (kF .f32) 40 ue2_0 ae2_0, ownO (kF .f32) 40 ue2_1 ae2_1, ownO (kF .f32) 40 ue2_2 ae2_2] := Sep.step (A := []) (L := [boxO be0 [(.int .i64 ae0_0), (.int .i64 ae0_1), (.bool ae0_2), ue0_3, ue0_4], boxO be1 [(.int .i64 ae1_0)], boxO be2 [ue2_0, ue2_1, ue2_2], ownO (kF .f32) 40 ue2_0 ae2_0, ownO (kF .f32) 40 ue2_1 ae2_1, ownO (kF .f32) 40 ue2_2 ae2_2]) S0 (Mod.size (Mod.refl [some be0, some be1, some be2, ue2_0.ownBlock, ue2_1.ownBlock, ue2_2.ownBlock] h0)) MT_1 T_1
  refine RL.opD (by decide) (opv_assign rfl rfl) ?_
  refine RL.nil ?_
  refine thnN ?_
  refine W.seq ?_
  refine W.region ?_
  refine RL.opD (by decide) (opv_move rfl rfl) ?_
  refine RL.opD (by decide) (opv_loadB rfl Try.one2 rfl (Sep.at (o := boxO be1 [(.int .i64 ae1_0)]) S_1 1 rfl) rfl) ?_
  refine RL.opD (by decide) (opv_icmp rfl rfl rfl rfl) ?_
  refine RL.nil ?_
  refine thnN ?_
  obtain ⟨x2, hy1, hp⟩ := Option.bind_eq_some_iff.1 hp
  refine W.cut (fun φ' h' => Fr.sub [(0, (.int .i64 a0)), (1, (.int .i64 a1)), (2, (.int .i64 a2)), (3, (.pointer (some ⟨be0, 0, none⟩))), (4, (.pointer (some ⟨be1, 0, none⟩))), (5, (.pointer (some ⟨be2, 0, none⟩))), (9, (.int .i64 x1)), (16, (.bool (decide (x1 < ae1_0))))] φ' ∧ Mod [some be0, some be1, some be2, ue2_0.ownBlock, ue2_1.ownBlock, ue2_2.ownBlock] h0 h' ∧ Sep [some be0, some be1, some be2, ue2_0.ownBlock, ue2_1.ownBlock, ue2_2.ownBlock] h0.size h' [boxO be0 [(.int .i64 ae0_0), (.int .i64 ae0_1), (.bool ae0_2), ue0_3, ue0_4], boxO be1 [(.int .i64 ae1_0)], boxO be2 [ue2_0, ue2_1, ue2_2], ownO (kF .f32) 40 ue2_0 x2, ownO (kF .f32) 40 ue2_1 ae2_1, ownO (kF .f32) 40 ue2_2 ae2_2]) ?_ ?_
  · by_cases c1 : (decide (x1 < ae1_0)) = true
    · rw [if_pos c1] at hy1
      refine W.condT rfl c1 ?_
      obtain ⟨x3, hx3, hy1⟩ := Option.bind_eq_some_iff.1 hy1
      obtain ⟨x4, hx4, hy1⟩ := Option.bind_eq_some_iff.1 hy1
      obtain ⟨x5, hx5, hy1⟩ := Option.bind_eq_some_iff.1 hy1
      refine W.sub (ψ := [(0, (.int .i64 a0)), (1, (.int .i64 a1)), (2, (.int .i64 a2)), (3, (.pointer (some ⟨be0, 0, none⟩))), (4, (.pointer (some ⟨be1, 0, none⟩))), (5, (.pointer (some ⟨be2, 0, none⟩))), (9, (.int .i64 x1)), (16, (.bool (decide (x1 < ae1_0))))]) ⟨rfl, rfl, rfl, rfl, rfl, rfl, rfl, rfl, trivial⟩ ?_
      refine W.regionP [fun v _ => @Eq Value (.pointer (some ⟨be2, 0, none⟩)) v, fun v _ => @Eq Value ue2_0 v, fun v _ => @Eq Value (.int .i64 a2) v, fun v _ => PtI 1 v ue2_0 (Int.toNat a2), fun v _ => IsF .f32 v x3, fun v _ => @Eq Value (.int .i64 x1) v, fun v _ => IsF .f32 v (fofi .f32 x1), fun v _ => @Eq Value (.int .i64 ae1_0) v, fun v _ => IsF .f32 v (fofi .f32 ae1_0), fun v _ => IsF .f32 v (fop .quo .f32 (fofi .f32 x1) (fofi .f32 ae1_0)), fun v _ => IsF .f32 v (fop .mul .f32 x3 (fop .quo .f32 (fofi .f32 x1) (fofi .f32 ae1_0))), fun v _ => PtI 1 v ue2_0 (Int.toNat a2)] [[], [0], [], [1, 2], [3], [], [5], [], [7], [6, 8], [4, 9], [1, 2]] [10, 11] Try.mixed (by decide +kernel) (by decide +kernel) rfl rfl rfl ?_ ?_
      · refine ⟨⟨rfl, ?_⟩, ⟨rfl, ?_⟩, ⟨rfl, ?_⟩, ⟨rfl, ?_⟩, ⟨rfl, ?_⟩, ⟨rfl, ?_⟩, ⟨rfl, ?_⟩, ⟨rfl, ?_⟩, ⟨rfl, ?_⟩, ⟨rfl, ?_⟩, ⟨rfl, ?_⟩, ⟨rfl, ?_⟩, trivial⟩
        · rintro _ rfl
          refine Dep.nil ?_
          refine GuardOK.none rfl ?_
          exact OpV.toD (opv_fieldAddr rfl Try.fo53_0 rfl) rfl
        · rintro _ rfl _ rfl
          refine Dep.nil ?_
          refine GuardOK.none rfl ?_
          exact OpV.toD (opv_loadB rfl Try.one22 rfl (Sep.at (o := boxO be2 [ue2_0, ue2_1, ue2_2]) S_1 2 rfl) rfl) rfl
        · rintro _ rfl
          refine Dep.nil ?_
          refine GuardOK.none rfl ?_
          exact OpV.toD (opv_move rfl rfl) rfl
        · rintro _ rfl _ rfl _ rfl
          refine Dep.nil ?_
          refine GuardOK.none rfl ?_
          exact OpV.toS (opv_index rfl Try.underlying22 (by rw [Try.size40]; rfl) rfl rfl (ownO.read (Sep.at (o := ownO (kF .f32) 40 ue2_0 ae2_0) S_1 3 rfl)) hx3) (fun _ h => h)
        · rintro _ rfl v1 fv1
          refine Dep.nil ?_
          refine GuardOK.none rfl ?_
          exact OpV.toS (opv_loadF rfl Try.one40 rfl fv1 (ownO.read (Sep.at (o := ownO (kF .f32) 40 ue2_0 ae2_0) S_1 3 rfl)) hx3) (fun _ h => h)
        · rintro _ rfl
          refine Dep.nil ?_
          refine GuardOK.none rfl ?_
          exact OpV.toD (opv_move rfl rfl) rfl
        · rintro _ rfl _ rfl
          refine Dep.nil ?_
          refine GuardOK.none rfl ?_
          exact OpV.toS (opv_i2f rfl (by rw [Try.underlying2]; rfl) Try.underlying40 rfl) (fun _ h => h)
        · rintro _ rfl
          refine Dep.nil ?_
          refine GuardOK.none rfl ?_
          exact OpV.toD (opv_loadB rfl Try.one2 rfl (Sep.at (o := boxO be1 [(.int .i64 ae1_0)]) S_1 1 rfl) rfl) rfl
        · rintro _ rfl _ rfl
          refine Dep.nil ?_
          refine GuardOK.none rfl ?_
          exact OpV.toS (opv_i2f rfl (by rw [Try.underlying2]; rfl) Try.underlying40 rfl) (fun _ h => h)
        · rintro _ rfl v3 fv3 v4 fv4
          refine Dep.nil ?_
          refine GuardOK.none rfl ?_
          exact OpV.toS (opv_fop rfl rfl rfl rfl fv3 fv4) (fun _ h => h)
        · rintro _ rfl v2 fv2 v5 fv5
          refine Dep.nil ?_
          refine GuardOK.none rfl ?_
          exact OpV.toS (opv_fop rfl rfl rfl rfl fv2 fv5) (fun _ h => h)
        · rintro _ rfl _ rfl _ rfl
          refine Dep.nil ?_
          refine GuardOK.none rfl ?_
          exact OpV.toS (opv_index rfl Try.underlying22 (by rw [Try.size40]; rfl) rfl rfl (ownO.read (Sep.at (o := ownO (kF .f32) 40 ue2_0 ae2_0) S_1 3 rfl)) hx4) (fun _ h => h)
      rintro v6 fv6 v7 fv7
      refine Dep.nil ?_
      show RL _ _ _ _ (_ :: _) _ _
      refine RL.op0 _ (opS_storeE (K := (kF .f32)) rfl Try.size40 rfl rfl fv7 rfl ⟨_, rfl, fv6⟩ hx5 (Sep.at (o := ownO (kF .f32) 40 ue2_0 ae2_0) S_1 3 rfl)) ?_
      rintro _ hp3 ⟨rfl, MT_3, T_3⟩
      have S_4 : Sep [some be0, some be1, some be2, ue2_0.ownBlock, ue2_1.ownBlock, ue2_2.ownBlock] h0.size hp1 ([ownO (kF .f32) 40 ue2_0 ae2_0] ++ [boxO be0 [(.int .i64 ae0_0), (.int .i64 ae0_1), (.bool ae0_2), ue0_3, ue0_4], boxO be1 [(.int .i64 ae1_0)], boxO be2 [ue2_0, ue2_1, ue2_2], ownO (kF .f32) 40 ue2_1 ae2_1, ownO (kF .f32) 40 ue2_2 ae2_2]) := Sep.sel S_1 [3, 0, 1, 2, 4, 5] (by decide)
      have X_3 : Mod [some be0, some be1, some be2, ue2_0.ownBlock, ue2_1.ownBlock, ue2_2.ownBlock] h0 hp3 := Mod.step (A := [ownO (kF .f32) 40 ue2_0 ae2_0]) (L := [boxO be0 [(.int .i64 ae0_0), (.int .i64 ae0_1), (.bool ae0_2), ue0_3, ue0_4], boxO be1 [(.int .i64 ae1_0)], boxO be2 [ue2_0, ue2_1, ue2_2], ownO (kF .f32) 40 ue2_1 ae2_1, ownO (kF .f32) 40 ue2_2 ae2_2]) X_1 S_4 MT_3
      have S_5 : Sep [some be0, some be1, some be2, ue2_0.ownBlock, ue2_1.ownBlock, ue2_2.ownBlock] h0.size hp3 [ownO (kF .f32) 40 ue2_0 x5, boxO be0 [(.int .i64 ae0_0), (.int .i64 ae0_1), (.bool ae0_2), ue0_3, ue0_4], boxO be1 [(.int .i64 ae1_0)], boxO be2 [ue2_0, ue2_1, ue2_2], ownO (kF .f32) 40 ue2_1 ae2_1, ownO (kF .f32) 40 ue2_2 ae2_2] := Sep.step (A := [ownO (kF .f32) 40 ue2_0 ae2_0]) (L := [boxO be0 [(.int .i64 ae0_0), (.int .i64 ae0_1), (.bool ae0_2), ue0_3, ue0_4], boxO be1 [(.int .i64 ae1_0)], boxO be2 [ue2_0, ue2_1, ue2_2], ownO (kF .f32) 40 ue2_1 ae2_1, ownO (kF .f32) 40 ue2_2 ae2_2]) S_4 (Mod.size X_1) MT_3 T_3
      refine RL.nil ?_
      have ey1 := Option.some.inj hy1
      subst ey1
      refine onlyN ?_
      exact ⟨⟨rfl, rfl, rfl, rfl, rfl, rfl, rfl, rfl, trivial⟩, X_3, (Sep.sel S_5 [1, 2, 3, 0, 4, 5] (by decide))⟩
    · rw [if_neg c1] at hy1
      have c1 := eq_false_of_ne_true c1
      refine W.condF rfl c1 ?_
      refine W.skip ?_
      have ey1 := Option.some.inj hy1
      subst ey1
      refine onlyN ?_
      exact ⟨⟨rfl, rfl, rfl, rfl, rfl, rfl, rfl, rfl, trivial⟩, X_1, (Sep.sel S_1 [0, 1, 2, 3, 4, 5] (by decide))⟩
  rintro φ' hp4 ⟨hs1, X_4, S_6⟩
  have er := Option.some.inj hp
  subst er
  exact Rt.none' rfl ⟨rfl, X_4, (Sep.sel S_6 [0, 1, 2, 3, 4, 5] (by decide))⟩

set_option maxRecDepth 20000 in
theorem impl_Sheet_each__impl_RampField_1_ok (h0 : Heap) (lo : Nat) (hlo : lo ≤ h0.size) (a0_0 : Int) (a0_1 : Int) (a0_2 : Bool) (u0_3 : Value) (a0_3 : List (Option Nat)) (g0_3 : SL (kF .f32) lo h0 u0_3 a0_3) (u0_4 : Value) (a0_4 : List (Option Nat)) (g0_4 : SL (kF .f32) lo h0 u0_4 a0_4) (be0 : Nat) (ae0_0 : Int) (ae0_1 : Int) (ae0_2 : Bool) (ue0_3 : Value) (ae0_3 : List (Option Nat)) (ge0_3 : SL (kF .f32) lo h0 ue0_3 ae0_3) (ue0_4 : Value) (ae0_4 : List (Option Nat)) (ge0_4 : SL (kF .f32) lo h0 ue0_4 ae0_4) (be1 : Nat) (ae1_0 : Int) (be2 : Nat) (ue2_0 : Value) (ae2_0 : List (Option Nat)) (ue2_1 : Value) (ae2_1 : List (Option Nat)) (ue2_2 : Value) (ae2_2 : List (Option Nat)) (S0 : Sep [some be0, some be1, some be2, ue2_0.ownBlock, ue2_1.ownBlock, ue2_2.ownBlock] h0.size h0 [boxO be0 [(.int .i64 ae0_0), (.int .i64 ae0_1), (.bool ae0_2), ue0_3, ue0_4], boxO be1 [(.int .i64 ae1_0)], boxO be2 [ue2_0, ue2_1, ue2_2], ownO (kF .f32) 40 ue2_0 ae2_0, ownO (kF .f32) 40 ue2_1 ae2_1, ownO (kF .f32) 40 ue2_2 ae2_2]) (hB : ∀ b, some b ∈ [some be0, some be1, some be2, ue2_0.ownBlock, ue2_1.ownBlock, ue2_2.ownBlock] → lo ≤ b) (r : (Int × Int × Bool × Int × (List (Option Nat)) × (List (Option Nat)) × (List (Option Nat)))) (hp : impl_Sheet_each__impl_RampField_1 a0_0 a0_1 a0_2 a0_3 a0_4 ae0_0 ae0_1 ae0_2 ae0_3 ae0_4 ae1_0 ae2_0 ae2_1 ae2_2 = some r) : CallsH Try.prog 99 ([(.agg (List.toArray (α := Value) [(.int .i64 a0_0), (.int .i64 a0_1), (.bool a0_2), u0_3, u0_4])), (.func (.func 133) #[] [(.pointer (some ⟨be0, 0, none⟩)), (.pointer (some ⟨be1, 0, none⟩)), (.pointer (some ⟨be2, 0, none⟩))].toArray)].toArray ++ [].toArray) h0 (fun v h' => v = (.tuple (List.toArray (α := Value) [])) ∧ Mod [some be0, some be1, some be2, ue2_0.ownBlock, ue2_1.ownBlock, ue2_2.ownBlock] h0 h' ∧ Sep [some be0, some be1, some be2, ue2_0.ownBlock, ue2_1.ownBlock, ue2_2.ownBlock] h0.size h' [boxO be0 [(.int .i64 r.1), (.int .i64 r.2.1), (.bool r.2.2.1), ue0_3, ue0_4], boxO be1 [(.int .i64 r.2.2.2.1)], boxO be2 [ue2_0, ue2_1, ue2_2], ownO (kF .f32) 40 ue2_0 r.2.2.2.2.1, ownO (kF .f32) 40 ue2_1 r.2.2.2.2.2.1, ownO (kF .f32) 40 ue2_2 r.2.2.2.2.2.2]) := by
  unfold impl_Sheet_each__impl_RampField_1 at hp
  refine callsH_of_W (l := [(.agg (List.toArray (α := Value) [(.int .i64 a0_0), (.int .i64 a0_1), (.bool a0_2), u0_3, u0_4])), (.func (.func 133) #[] [(.pointer (some ⟨be0, 0, none⟩)), (.pointer (some ⟨be1, 0, none⟩)), (.pointer (some ⟨be2, 0, none⟩))].toArray)]) (cap := []) 26 Try.func99 rfl rfl rfl ?_
  refine W.seq ?_
  refine W.region ?_
  refine RL.op _ (by decide) (opS_boxed (opv_boxA (cs := [(.int .i64 a0_0), (.int .i64 a0_1), (.bool a0_2), u0_3, u0_4]) rfl rfl)) ?_
  rintro _ hp1 ⟨bb1, rfl, MT_1, T_1⟩
  have X_1 : Mod [some be0, some be1, some be2, ue2_0.ownBlock, ue2_1.ownBlock, ue2_2.ownBlock] h0 hp1 := Mod.step (A := []) (L := [boxO be0 [(.int .i64 ae0_0), (.int .i64 ae0_1), (.bool ae0_2), ue0_3, ue0_4], boxO be1 [(.int .i64 ae1_0)], boxO be2 [ue2_0, ue2_1, ue2_2], ownO (kF .f32) 40 ue2_0 ae2_0, ownO (kF .f32) 40 ue2_1 ae2_1, ownO (kF .f32) 40 ue2_2 ae2_2]) (Mod.refl [some be0, some be1, some be2, ue2_0.ownBlock, ue2_1.ownBlock, ue2_2.ownBlock] h0) S0 MT_1
  have S_1 : Sep [some be0, some be1, some be2, ue2_0.ownBlock, ue2_1.ownBlock, ue2_2.ownBlock] h0.size hp1 [boxO bb1 [(.int .i64 a0_0), (.int .i64 a0_1), (.bool a0_2), u0_3, u0_4], boxO be0 [(.int .i64 ae0_0), (.int .i64 ae0_1), (.bool ae0_2), ue0_3, ue0_4], boxO be1 [(.int .i64 ae1_0)], boxO be2 [ue2_0, ue2_1, ue2_2], ownO (kF .f32) 40 ue2_0 ae2_0, ownO (kF .f32) 40 ue2_1 ae2_1, ownO (kF .f32) 40 ue2_2 ae2_2] := Sep.step (A := []) (L := [boxO be0 [(.int .i64 ae0_0), (.int .i64 ae0_1), (.bool ae0_2), ue0_3, ue0_4], boxO be1 [(.int .i64 ae1_0)], boxO be2 [ue2_0, ue2_1, ue2_2], ownO (kF .f32) 40 ue2_0 ae2_0, ownO (kF .f32) 40 ue2_1 ae2_1, ownO (kF .f32) 40 ue2_2 ae2_2]) S0 (Mod.size (Mod.refl [some be0, some be1, some be2, ue2_0.ownBlock, ue2_1.ownBlock, ue2_2.ownBlock] h0)) MT_1 T_1
  refine RL.nil ?_
  refine thnN ?_
  refine W.seq ?_
  refine W.region ?_
  refine RL.opD (by decide) (opv_fieldAddr rfl Try.fo29_1 rfl) ?_
  refine RL.opD (by decide) (opv_loadB rfl Try.one2 rfl (Sep.at (o := boxO bb1 [(.int .i64 a0_0), (.int .i64 a0_1), (.bool a0_2), u0_3, u0_4]) S_1 0 rfl) rfl) ?_
  refine RL.opD (by decide) (opv_move rfl rfl) ?_
  refine RL.nil ?_
  refine thnN ?_
  obtain ⟨y1, hy1, hp⟩ := Option.bind_eq_some_iff.1 hp
  refine W.cut (fun φ' h' => ∃ x9, ∃ x10, ∃ x11, ∃ x12, ∃ x13, ∃ x14, ∃ x15, ∃ x16, ∃ x17, y1 = (x9, x10, x11, x12, x13, x14, x15, x16, x17) ∧ Fr.sub [(0, (.agg (List.toArray (α := Value) [(.int .i64 a0_0), (.int .i64 a0_1), (.bool a0_2), u0_3, u0_4]))), (1, (.func (.func 133) #[] [(.pointer (some ⟨be0, 0, none⟩)), (.pointer (some ⟨be1, 0, none⟩)), (.pointer (some ⟨be2, 0, none⟩))].toArray)), (2, (.pointer (some ⟨bb1, 0, none⟩))), (7, (.int .i64 a0_1)), (8, (.int .i64 x9)), (9, (.bool x10))] φ' ∧ Mod [some be0, some be1, some be2, ue2_0.ownBlock, ue2_1.ownBlock, ue2_2.ownBlock] h0 h' ∧ Sep [some be0, some be1, some be2, ue2_0.ownBlock, ue2_1.ownBlock, ue2_2.ownBlock] h0.size h' [boxO bb1 [(.int .i64 a0_0), (.int .i64 a0_1), (.bool a0_2), u0_3, u0_4], boxO be0 [(.int .i64 x11), (.int .i64 x12), (.bool x13), ue0_3, ue0_4], boxO be1 [(.int .i64 x14)], boxO be2 [ue2_0, ue2_1, ue2_2], ownO (kF .f32) 40 ue2_0 x15, ownO (kF .f32) 40 ue2_1 x16, ownO (kF .f32) 40 ue2_2 x17]) ?_ ?_
  · refine W.block ?_
    refine W.loopS (fun (s : (Int × Int × Int × Bool × Int × (List (Option Nat)) × (List (Option Nat)) × (List (Option Nat)))) φ' h' => Fr.sub [(0, (.agg (List.toArray (α := Value) [(.int .i64 a0_0), (.int .i64 a0_1), (.bool a0_2), u0_3, u0_4]))), (1, (.func (.func 133) #[] [(.pointer (some ⟨be0, 0, none⟩)), (.pointer (some ⟨be1, 0, none⟩)), (.pointer (some ⟨be2, 0, none⟩))].toArray)), (2, (.pointer (some ⟨bb1, 0, none⟩))), (7, (.int .i64 a0_1)), (8, (.int .i64 s.1))] φ' ∧ Mod [some be0, some be1, some be2, ue2_0.ownBlock, ue2_1.ownBlock, ue2_2.ownBlock] h0 h' ∧ Sep [some be0, some be1, some be2, ue2_0.ownBlock, ue2_1.ownBlock, ue2_2.ownBlock] h0.size h' [boxO bb1 [(.int .i64 a0_0), (.int .i64 a0_1), (.bool a0_2), u0_3, u0_4], boxO be0 [(.int .i64 s.2.1), (.int .i64 s.2.2.1), (.bool s.2.2.2.1), ue0_3, ue0_4], boxO be1 [(.int .i64 s.2.2.2.2.1)], boxO be2 [ue2_0, ue2_1, ue2_2], ownO (kF .f32) 40 ue2_0 s.2.2.2.2.2.1, ownO (kF .f32) 40 ue2_1 s.2.2.2.2.2.2.1, ownO (kF .f32) 40 ue2_2 s.2.2.2.2.2.2.2]) hy1 ⟨⟨rfl, rfl, rfl, rfl, rfl, trivial⟩, X_1, (Sep.sel S_1 [0, 1, 2, 3, 4, 5, 6] (by decide))⟩ ?_
    rintro ⟨x1, x2, x3, x4, x5, x6, x7, x8⟩ φ' hp2 o1 ⟨hs1, X_2, S_2⟩ ho1 hy1
    have hs1 : Fr.sub [(0, (.agg (List.toArray (α := Value) [(.int .i64 a0_0), (.int .i64 a0_1), (.bool a0_2), u0_3, u0_4]))), (1, (.func (.func 133) #[] [(.pointer (some ⟨be0, 0, none⟩)), (.pointer (some ⟨be1, 0, none⟩)), (.pointer (some ⟨be2, 0, none⟩))].toArray)), (2, (.pointer (some ⟨bb1, 0, none⟩))), (7, (.int .i64 a0_1)), (8, (.int .i64 x1))] φ' := hs1
    have S_2 : Sep [some be0, some be1, some be2, ue2_0.ownBlock, ue2_1.ownBlock, ue2_2.ownBlock] h0.size hp2 [boxO bb1 [(.int .i64 a0_0), (.int .i64 a0_1), (.bool a0_2), u0_3, u0_4], boxO be0 [(.int .i64 x2), (.int .i64 x3), (.bool x4), ue0_3, ue0_4], boxO be1 [(.int .i64 x5)], boxO be2 [ue2_0, ue2_1, ue2_2], ownO (kF .f32) 40 ue2_0 x6, ownO (kF .f32) 40 ue2_1 x7, ownO (kF .f32) 40 ue2_2 x8] := S_2
    have ho1 : impl_Sheet_each__impl_RampField_1.s0 a0_0 a0_1 a0_2 a0_3 a0_4 ae0_3 ae0_4 x1 x2 x3 x4 x5 x6 x7 x8 = some o1 := ho1
    unfold impl_Sheet_each__impl_RampField_1.s0 at ho1
    refine W.sub hs1 ?_
    refine W.seq ?_
    refine W.region ?_
    refine RL.opD (by decide) (opv_icmp rfl rfl rfl rfl) ?_
    refine RL.nil ?_
    refine thnN ?_
    refine W.seq ?_
    by_cases c1 : (decide (x1 < a0_1)) = true
    · rw [if_pos c1] at ho1
      refine W.condT rfl c1 ?_
      refine W.skip ?_
      refine thnN ?_
      refine W.seq ?_
      refine W.block ?_
      refine W.seq ?_
      refine W.region ?_
      refine RL.opD (by decide) (opv_move rfl rfl) ?_
      refine RL.opD (by decide) (opv_assign rfl rfl) ?_
      refine RL.nil ?_
      refine thnN ?_
      refine W.seq ?_
      refine W.region ?_
      refine RL.opD (by decide) (opv_fieldAddr rfl Try.fo29_0 rfl) ?_
      refine RL.opD (by decide) (opv_loadB rfl Try.one2 rfl (Sep.at (o := boxO bb1 [(.int .i64 a0_0), (.int .i64 a0_1), (.bool a0_2), u0_3, u0_4]) S_2 0 rfl) rfl) ?_
      refine RL.opD (by decide) (opv_move rfl rfl) ?_
      refine RL.nil ?_
      refine thnN ?_
      obtain ⟨y2, hy2, ho1⟩ := Option.bind_eq_some_iff.1 ho1
      refine W.cut (fun φ' h' => ∃ x26, ∃ x27, ∃ x28, ∃ x29, ∃ x30, ∃ x31, ∃ x32, ∃ x33, ∃ x34, y2 = (x26, x27, x28, x29, x30, x31, x32, x33, x34) ∧ Fr.sub [(0, (.agg (List.toArray (α := Value) [(.int .i64 a0_0), (.int .i64 a0_1), (.bool a0_2), u0_3, u0_4]))), (1, (.func (.func 133) #[] [(.pointer (some ⟨be0, 0, none⟩)), (.pointer (some ⟨be1, 0, none⟩)), (.pointer (some ⟨be2, 0, none⟩))].toArray)), (2, (.pointer (some ⟨bb1, 0, none⟩))), (7, (.int .i64 a0_1)), (8, (.int .i64 x1)), (9, (.bool (decide (x1 < a0_1)))), (4, (.int .i64 x1)), (12, (.int .i64 a0_0)), (13, (.int .i64 x26)), (14, (.bool x27))] φ' ∧ Mod [some be0, some be1, some be2, ue2_0.ownBlock, ue2_1.ownBlock, ue2_2.ownBlock] h0 h' ∧ Sep [some be0, some be1, some be2, ue2_0.ownBlock, ue2_1.ownBlock, ue2_2.ownBlock] h0.size h' [boxO bb1 [(.int .i64 a0_0), (.int .i64 a0_1), (.bool a0_2), u0_3, u0_4], boxO be0 [(.int .i64 x28), (.int .i64 x29), (.bool x30), ue0_3, ue0_4], boxO be1 [(.int .i64 x31)], boxO be2 [ue2_0, ue2_1, ue2_2], ownO (kF .f32) 40 ue2_0 x32, ownO (kF .f32) 40 ue2_1 x33, ownO (kF .f32) 40 ue2_2 x34]) ?_ ?_
      · refine W.block ?_
        refine W.loopS (fun (s : (Int × Int × Int × Bool × Int × (List (Option Nat)) × (List (Option Nat)) × (List (Option Nat)))) φ' h' => Fr.sub [(0, (.agg (List.toArray (α := Value) [(.int .i64 a0_0), (.int .i64 a0_1), (.bool a0_2), u0_3, u0_4]))), (1, (.func (.func 133) #[] [(.pointer (some ⟨be0, 0, none⟩)), (.pointer (some ⟨be1, 0, none⟩)), (.pointer (some ⟨be2, 0, none⟩))].toArray)), (2, (.pointer (some ⟨bb1, 0, none⟩))), (7, (.int .i64 a0_1)), (8, (.int .i64 x1)), (9, (.bool (decide (x1 < a0_1)))), (4, (.int .i64 x1)), (12, (.int .i64 a0_0)), (13, (.int .i64 s.1))] φ' ∧ Mod [some be0, some be1, some be2, ue2_0.ownBlock, ue2_1.ownBlock, ue2_2.ownBlock] h0 h' ∧ Sep [some be0, some be1, some be2, ue2_0.ownBlock, ue2_1.ownBlock, ue2_2.ownBlock] h0.size h' [boxO bb1 [(.int .i64 a0_0), (.int .i64 a0_1), (.bool a0_2), u0_3, u0_4], boxO be0 [(.int .i64 s.2.1), (.int .i64 s.2.2.1), (.bool s.2.2.2.1), ue0_3, ue0_4], boxO be1 [(.int .i64 s.2.2.2.2.1)], boxO be2 [ue2_0, ue2_1, ue2_2], ownO (kF .f32) 40 ue2_0 s.2.2.2.2.2.1, ownO (kF .f32) 40 ue2_1 s.2.2.2.2.2.2.1, ownO (kF .f32) 40 ue2_2 s.2.2.2.2.2.2.2]) hy2 ⟨⟨rfl, rfl, rfl, rfl, rfl, rfl, rfl, rfl, rfl, trivial⟩, X_2, (Sep.sel S_2 [0, 1, 2, 3, 4, 5, 6] (by decide))⟩ ?_
        rintro ⟨x18, x19, x20, x21, x22, x23, x24, x25⟩ φ' hp3 o2 ⟨hs3, X_3, S_3⟩ ho2 hy2
        have hs3 : Fr.sub [(0, (.agg (List.toArray (α := Value) [(.int .i64 a0_0), (.int .i64 a0_1), (.bool a0_2), u0_3, u0_4]))), (1, (.func (.func 133) #[] [(.pointer (some ⟨be0, 0, none⟩)), (.pointer (some ⟨be1, 0, none⟩)), (.pointer (some ⟨be2, 0, none⟩))].toArray)), (2, (.pointer (some ⟨bb1, 0, none⟩))), (7, (.int .i64 a0_1)), (8, (.int .i64 x1)), (9, (.bool (decide (x1 < a0_1)))), (4, (.int .i64 x1)), (12, (.int .i64 a0_0)), (13, (.int .i64 x18))] φ' := hs3
        have S_3 : Sep [some be0, some be1, some be2, ue2_0.ownBlock, ue2_1.ownBlock, ue2_2.ownBlock] h0.size hp3 [boxO bb1 [(.int .i64 a0_0), (.int .i64 a0_1), (.bool a0_2), u0_3, u0_4], boxO be0 [(.int .i64 x19), (.int .i64 x20), (.bool x21), ue0_3, ue0_4], boxO be1 [(.int .i64 x22)], boxO be2 [ue2_0, ue2_1, ue2_2], ownO (kF .f32) 40 ue2_0 x23, ownO (kF .f32) 40 ue2_1 x24, ownO (kF .f32) 40 ue2_2 x25] := S_3
        have ho2 : impl_Sheet_each__impl_RampField_1.s1 a0_0 a0_1 a0_2 a0_3 a0_4 ae0_3 ae0_4 x1 x18 x19 x20 x21 x22 x23 x24 x25 = some o2 := ho2
        unfold impl_Sheet_each__impl_RampField_1.s1 at ho2
        refine W.sub hs3 ?_
        refine W.seq ?_
        refine W.region ?_
        refine RL.opD (by decide) (opv_icmp rfl rfl rfl rfl) ?_
        refine RL.nil ?_
        refine thnN ?_
        refine W.seq ?_
        by_cases c2 : (decide (x18 < a0_0)) = true
        · rw [if_pos c2] at ho2
          refine W.condT rfl c2 ?_
          refine W.skip ?_
          refine thnN ?_
          refine W.seq ?_
          refine W.block ?_
          refine W.seq ?_
          refine W.region ?_
          refine RL.opD (by decide) (opv_move rfl rfl) ?_
          refine RL.opD (by decide) (opv_assign rfl rfl) ?_
          refine RL.nil ?_
          refine thnN ?_
          obtain ⟨x35, hx35, ho2⟩ := Option.bind_eq_some_iff.1 ho2
          obtain ⟨x36, hx36, ho2⟩ := Option.bind_eq_some_iff.1 ho2
          refine W.region ?_
          refine RL.opD (by decide) (opv_move rfl rfl) ?_
          refine RL.opD (by decide) (opv_move rfl rfl) ?_
          refine RL.opD (by decide) (opv_move rfl rfl) ?_
          refine RL.opD (by decide) (opv_loadA (us := [(.int .i64 a0_0), (.int .i64 a0_1), (.bool a0_2), u0_3, u0_4]) rfl Try.agg29 Try.size29 rfl (Sep.at (o := boxO bb1 [(.int .i64 a0_0), (.int .i64 a0_1), (.bool a0_2), u0_3, u0_4]) S_3 0 rfl) rfl rfl) ?_
          refine RL.opD (by decide) (opv_move rfl rfl) ?_
          refine RL.opD (by decide) (opv_move rfl rfl) ?_
          refine RL.op _ (by decide) (opv_call (cap := []) (impl_Sheet_at_ok _ _ _ _ _ _ (SL.up (SL.mod g0_3 X_3 hlo hB) (Nat.le_trans hlo (Mod.size X_3))) _ _ (SL.up (SL.mod g0_4 X_3 hlo hB) (Nat.le_trans hlo (Mod.size X_3))) _ _ _ hx35) rfl rfl ⟨rfl, rfl, rfl, trivial⟩ Try.func92 rfl rfl) ?_
          rintro _ hp4 ⟨rfl, MT_2, T_2⟩
          have X_4 : Mod [some be0, some be1, some be2, ue2_0.ownBlock, ue2_1.ownBlock, ue2_2.ownBlock] h0 hp4 := Mod.step (A := []) (L := [boxO bb1 [(.int .i64 a0_0), (.int .i64 a0_1), (.bool a0_2), u0_3, u0_4], boxO be0 [(.int .i64 x19), (.int .i64 x20), (.bool x21), ue0_3, ue0_4], boxO be1 [(.int .i64 x22)], boxO be2 [ue2_0, ue2_1, ue2_2], ownO (kF .f32) 40 ue2_0 x23, ownO (kF .f32) 40 ue2_1 x24, ownO (kF .f32) 40 ue2_2 x25]) X_3 S_3 MT_2
          have S_4 : Sep [some be0, some be1, some be2, ue2_0.ownBlock, ue2_1.ownBlock, ue2_2.ownBlock] h0.size hp4 [boxO bb1 [(.int .i64 a0_0), (.int .i64 a0_1), (.bool a0_2), u0_3, u0_4], boxO be0 [(.int .i64 x19), (.int .i64 x20), (.bool x21), ue0_3, ue0_4], boxO be1 [(.int .i64 x22)], boxO be2 [ue2_0, ue2_1, ue2_2], ownO (kF .f32) 40 ue2_0 x23, ownO (kF .f32) 40 ue2_1 x24, ownO (kF .f32) 40 ue2_2 x25] := Sep.step (A := []) (L := [boxO bb1 [(.int .i64 a0_0), (.int .i64 a0_1), (.bool a0_2), u0_3, u0_4], boxO be0 [(.int .i64 x19), (.int .i64 x20), (.bool x21), ue0_3, ue0_4], boxO be1 [(.int .i64 x22)], boxO be2 [ue2_0, ue2_1, ue2_2], ownO (kF .f32) 40 ue2_0 x23, ownO (kF .f32) 40 ue2_1 x24, ownO (kF .f32) 40 ue2_2 x25]) S_3 (Mod.size X_3) MT_2 T_2
          have S_6 : Sep [some be0, some be1, some be2, ue2_0.ownBlock, ue2_1.ownBlock, ue2_2.ownBlock] h0.size hp4 [boxO be0 [(.int .i64 x19), (.int .i64 x20), (.bool x21), ue0_3, ue0_4], boxO be1 [(.int .i64 x22)], boxO be2 [ue2_0, ue2_1, ue2_2], ownO (kF .f32) 40 ue2_0 x23, ownO (kF .f32) 40 ue2_1 x24, ownO (kF .f32) 40 ue2_2 x25] := Sep.sel S_4 [1, 2, 3, 4, 5, 6] (by decide)
          have S_5 : Sep [some be0, some be1, some be2, ue2_0.ownBlock, ue2_1.ownBlock, ue2_2.ownBlock] hp4.size hp4 [boxO be0 [(.int .i64 x19), (.int .i64 x20), (.bool x21), ue0_3, ue0_4], boxO be1 [(.int .i64 x22)], boxO be2 [ue2_0, ue2_1, ue2_2], ownO (kF .f32) 40 ue2_0 x23, ownO (kF .f32) 40 ue2_1 x24, ownO (kF .f32) 40 ue2_2 x25] := Sep.own S_6 _
          refine RL.op _ (by decide) (opv_call (cap := [(.pointer (some ⟨be0, 0, none⟩)), (.pointer (some ⟨be1, 0, none⟩)), (.pointer (some ⟨be2, 0, none⟩))]) (impl_RampField_1_2_ok _ lo (Nat.le_trans hlo (Mod.size X_4)) _ _ _ _ _ _ _ _ _ (SL.mod ge0_3 X_4 hlo hB) _ _ (SL.mod ge0_4 X_4 hlo hB) _ _ _ _ _ _ _ _ _ S_5 (Sep.ge (L := [boxO be0 [(.int .i64 x19), (.int .i64 x20), (.bool x21), ue0_3, ue0_4], boxO be1 [(.int .i64 x22)], boxO be2 [ue2_0, ue2_1, ue2_2], ownO (kF .f32) 40 ue2_0 x23, ownO (kF .f32) 40 ue2_1 x24, ownO (kF .f32) 40 ue2_2 x25]) S_6 hlo hB) _ hx36) rfl rfl ⟨rfl, rfl, rfl, trivial⟩ Try.func133 rfl rfl) ?_
          rintro _ hp5 ⟨rfl, MT_3, T_3⟩
          have S_7 : Sep [some be0, some be1, some be2, ue2_0.ownBlock, ue2_1.ownBlock, ue2_2.ownBlock] h0.size hp4 ([boxO be0 [(.int .i64 x19), (.int .i64 x20), (.bool x21), ue0_3, ue0_4], boxO be1 [(.int .i64 x22)], boxO be2 [ue2_0, ue2_1, ue2_2], ownO (kF .f32) 40 ue2_0 x23, ownO (kF .f32) 40 ue2_1 x24, ownO (kF .f32) 40 ue2_2 x25] ++ [boxO bb1 [(.int .i64 a0_0), (.int .i64 a0_1), (.bool a0_2), u0_3, u0_4]]) := Sep.sel S_4 [1, 2, 3, 4, 5, 6, 0] (by decide)
          have X_5 : Mod [some be0, some be1, some be2, ue2_0.ownBlock, ue2_1.ownBlock, ue2_2.ownBlock] h0 hp5 := Mod.step (A := [boxO be0 [(.int .i64 x19), (.int .i64 x20), (.bool x21), ue0_3, ue0_4], boxO be1 [(.int .i64 x22)], boxO be2 [ue2_0, ue2_1, ue2_2], ownO (kF .f32) 40 ue2_0 x23, ownO (kF .f32) 40 ue2_1 x24, ownO (kF .f32) 40 ue2_2 x25]) (L := [boxO bb1 [(.int .i64 a0_0), (.int .i64 a0_1), (.bool a0_2), u0_3, u0_4]]) X_4 S_7 MT_3
          have S_8 : Sep [some be0, some be1, some be2, ue2_0.ownBlock, ue2_1.ownBlock, ue2_2.ownBlock] h0.size hp5 [boxO be0 [(.int .i64 x36.1), (.int .i64 x36.2.1), (.bool x36.2.2.1), ue0_3, ue0_4], boxO be1 [(.int .i64 x36.2.2.2.1)], boxO be2 [ue2_0, ue2_1, ue2_2], ownO (kF .f32) 40 ue2_0 x36.2.2.2.2.1, ownO (kF .f32) 40 ue2_1 x36.2.2.2.2.2.1, ownO (kF .f32) 40 ue2_2 x36.2.2.2.2.2.2, boxO bb1 [(.int .i64 a0_0), (.int .i64 a0_1), (.bool a0_2), u0_3, u0_4]] := Sep.step (A := [boxO be0 [(.int .i64 x19), (.int .i64 x20), (.bool x21), ue0_3, ue0_4], boxO be1 [(.int .i64 x22)], boxO be2 [ue2_0, ue2_1, ue2_2], ownO (kF .f32) 40 ue2_0 x23, ownO (kF .f32) 40 ue2_1 x24, ownO (kF .f32) 40 ue2_2 x25]) (L := [boxO bb1 [(.int .i64 a0_0), (.int .i64 a0_1), (.bool a0_2), u0_3, u0_4]]) S_7 (Mod.size X_4) MT_3 T_3
          refine RL.nil ?_
          refine blkN ?_
          refine thnN ?_
          refine W.region ?_
          refine RL.opD (by decide) (opv_add rfl rfl rfl) ?_
          refine RL.opD (by decide) (opv_move rfl rfl) ?_
          refine RL.nil ?_
          have eo2 := Option.some.inj ho2
          subst eo2
          refine rndN (s' := (IntKind.wrap .i64 (x18 + 1), x36.1, x36.2.1, x36.2.2.1, x36.2.2.2.1, x36.2.2.2.2.1, x36.2.2.2.2.2.1, x36.2.2.2.2.2.2)) rfl ?_
          exact ⟨⟨rfl, rfl, rfl, rfl, rfl, rfl, rfl, rfl, rfl, trivial⟩, X_5, (Sep.sel S_8 [6, 0, 1, 2, 3, 4, 5] (by decide))⟩
        · rw [if_neg c2] at ho2
          have c2 := eq_false_of_ne_true c2
          refine W.condF rfl c2 ?_
          refine W.exit ?_
          refine thnX ?_
          refine rndX ?_
          refine blkI ?_
          have eo2 := Option.some.inj ho2
          subst eo2
          have ey2 := hy2 _ rfl
          subst ey2
          refine onlyN ?_
          exact ⟨x18, decide (x18 < a0_0), x19, x20, x21, x22, x23, x24, x25, rfl, ⟨rfl, rfl, rfl, rfl, rfl, rfl, rfl, rfl, rfl, rfl, trivial⟩, X_3, (Sep.sel S_3 [0, 1, 2, 3, 4, 5, 6] (by decide))⟩
      rintro φ' hp6 ⟨x26, x27, x28, x29, x30, x31, x32, x33, x34, rfl, hs4, X_6, S_9⟩
      try dsimp only at ho1
      refine blkN ?_
      refine thnN ?_
      refine W.sub hs4 ?_
      refine W.region ?_
      refine RL.opD (by decide) (opv_add rfl rfl rfl) ?_
      refine RL.opD (by decide) (opv_move rfl rfl) ?_
      refine RL.nil ?_
      have eo1 := Option.some.inj ho1
      subst eo1
      refine rndN (s' := (IntKind.wrap .i64 (x1 + 1), x28, x29, x30, x31, x32, x33, x34)) rfl ?_
      exact ⟨⟨rfl, rfl, rfl, rfl, rfl, trivial⟩, X_6, (Sep.sel S_9 [0, 1, 2, 3, 4, 5, 6] (by decide))⟩
    · rw [if_neg c1] at ho1
      have c1 := eq_false_of_ne_true c1
      refine W.condF rfl c1 ?_
      refine W.exit ?_
      refine thnX ?_
      refine rndX ?_
      refine blkI ?_
      have eo1 := Option.some.inj ho1
      subst eo1
      have ey1 := hy1 _ rfl
      subst ey1
      refine onlyN ?_
      exact ⟨x1, decide (x1 < a0_1), x2, x3, x4, x5, x6, x7, x8, rfl, ⟨rfl, rfl, rfl, rfl, rfl, rfl, trivial⟩, X_2, (Sep.sel S_2 [0, 1, 2, 3, 4, 5, 6] (by decide))⟩
  rintro φ' hp7 ⟨x9, x10, x11, x12, x13, x14, x15, x16, x17, rfl, hs2, X_7, S_10⟩
  try dsimp only at hp
  have er := Option.some.inj hp
  subst er
  exact Rt.none' rfl ⟨rfl, X_7, (Sep.sel S_10 [1, 2, 3, 4, 5, 6] (by decide))⟩

set_option maxRecDepth 20000 in
theorem impl_RampField_ok (h0 : Heap) (a0_0 : Int) (a0_1 : Int) (a0_2 : Bool) (u0_3 : Value) (a0_3 : List (Option Nat)) (g0_3 : SL (kF .f32) h0.size h0 u0_3 a0_3) (u0_4 : Value) (a0_4 : List (Option Nat)) (g0_4 : SL (kF .f32) h0.size h0 u0_4 a0_4) (u1_0 : Value) (a1_0 : List (Option Nat)) (g1_0 : SL (kF .f32) h0.size h0 u1_0 a1_0) (u1_1 : Value) (a1_1 : List (Option Nat)) (g1_1 : SL (kF .f32) h0.size h0 u1_1 a1_1) (u1_2 : Value) (a1_2 : List (Option Nat)) (g1_2 : SL (kF .f32) h0.size h0 u1_2 a1_2) (a2 : Int) (r : ((List (Option Nat)) × (List (Option Nat)) × (List (Option Nat)) × Bool)) (hp : impl_RampField a0_0 a0_1 a0_2 a0_3 a0_4 a1_0 a1_1 a1_2 a2 = some r) : CallsH Try.prog 70 ([(.agg (List.toArray (α := Value) [(.int .i64 a0_0), (.int .i64 a0_1), (.bool a0_2), u0_3, u0_4])), (.agg (List.toArray (α := Value) [u1_0, u1_1, u1_2])), (.int .i64 a2)].toArray ++ [].toArray) h0 (fun v h' => ∃ w0, ∃ w1, ∃ w2, v = (.tuple (List.toArray (α := Value) [(.agg (List.toArray (α := Value) [w0, w1, w2])), (.bool r.2.2.2)])) ∧ Mod [] h0 h' ∧ Sep [] h0.size h' [ownO (kF .f32) 40 w0 r.1, ownO (kF .f32) 40 w1 r.2.1, ownO (kF .f32) 40 w2 r.2.2.1]) := by
  unfold impl_RampField at hp
  refine callsH_of_W (l := [(.agg (List.toArray (α := Value) [(.int .i64 a0_0), (.int .i64 a0_1), (.bool a0_2), u0_3, u0_4])), (.agg (List.toArray (α := Value) [u1_0, u1_1, u1_2])), (.int .i64 a2)]) (cap := []) 29 Try.func70 rfl rfl rfl ?_
  refine W.seq ?_
  refine W.region ?_
  refine RL.op _ (by decide) (opS_boxed (opv_boxA (cs := [(.int .i64 a0_0), (.int .i64 a0_1), (.bool a0_2), u0_3, u0_4]) rfl rfl)) ?_
  rintro _ hp1 ⟨bb1, rfl, MT_1, T_1⟩
  have X_1 : Mod [] h0 hp1 := Mod.step (A := []) (L := []) (Mod.refl [] h0) (Sep.nil [] h0.size h0) MT_1
  have S_1 : Sep [] h0.size hp1 [boxO bb1 [(.int .i64 a0_0), (.int .i64 a0_1), (.bool a0_2), u0_3, u0_4]] := Sep.step (A := []) (L := []) (Sep.nil [] h0.size h0) (Mod.size (Mod.refl [] h0)) MT_1 T_1
  refine RL.op _ (by decide) (opS_boxed (opv_boxA (cs := [u1_0, u1_1, u1_2]) rfl rfl)) ?_
  rintro _ hp2 ⟨bb2, rfl, MT_2, T_2⟩
  have X_2 : Mod [] h0 hp2 := Mod.step (A := []) (L := [boxO bb1 [(.int .i64 a0_0), (.int .i64 a0_1), (.bool a0_2), u0_3, u0_4]]) X_1 S_1 MT_2
  have S_2 : Sep [] h0.size hp2 [boxO bb2 [u1_0, u1_1, u1_2], boxO bb1 [(.int .i64 a0_0), (.int .i64 a0_1), (.bool a0_2), u0_3, u0_4]] := Sep.step (A := []) (L := [boxO bb1 [(.int .i64 a0_0), (.int .i64 a0_1), (.bool a0_2), u0_3, u0_4]]) S_1 (Mod.size X_1) MT_2 T_2
  refine RL.op _ (by decide) (opS_boxed (opv_box1 rfl rfl rfl)) ?_
  rintro _ hp3 ⟨bb3, rfl, MT_3, T_3⟩
  have X_3 : Mod [] h0 hp3 := Mod.step (A := []) (L := [boxO bb2 [u1_0, u1_1, u1_2], boxO bb1 [(.int .i64 a0_0), (.int .i64 a0_1), (.bool a0_2), u0_3, u0_4]]) X_2 S_2 MT_3
  have S_3 : Sep [] h0.size hp3 [boxO bb3 [(.int .i64 a2)], boxO bb2 [u1_0, u1_1, u1_2], boxO bb1 [(.int .i64 a0_0), (.int .i64 a0_1), (.bool a0_2), u0_3, u0_4]] := Sep.step (A := []) (L := [boxO bb2 [u1_0, u1_1, u1_2], boxO bb1 [(.int .i64 a0_0), (.int .i64 a0_1), (.bool a0_2), u0_3, u0_4]]) S_2 (Mod.size X_2) MT_3 T_3
  refine RL.op _ (by decide) (opS_boxed (opv_alloc (cs := [(.slice none 0 0), (.slice none 0 0), (.slice none 0 0)]) rfl Try.zero53 rfl)) ?_
  rintro _ hp4 ⟨bb4, rfl, MT_4, T_4⟩
  have X_4 : Mod [] h0 hp4 := Mod.step (A := []) (L := [boxO bb3 [(.int .i64 a2)], boxO bb2 [u1_0, u1_1, u1_2], boxO bb1 [(.int .i64 a0_0), (.int .i64 a0_1), (.bool a0_2), u0_3, u0_4]]) X_3 S_3 MT_4
  have S_4 : Sep [] h0.size hp4 [boxO bb4 [(.slice none 0 0), (.slice none 0 0), (.slice none 0 0)], boxO bb3 [(.int .i64 a2)], boxO bb2 [u1_0, u1_1, u1_2], boxO bb1 [(.int .i64 a0_0), (.int .i64 a0_1), (.bool a0_2), u0_3, u0_4]] := Sep.step (A := []) (L := [boxO bb3 [(.int .i64 a2)], boxO bb2 [u1_0, u1_1, u1_2], boxO bb1 [(.int .i64 a0_0), (.int .i64 a0_1), (.bool a0_2), u0_3, u0_4]]) S_3 (Mod.size X_3) MT_4 T_4
  refine RL.opD (by decide) (opv_assign rfl rfl) ?_
  refine RL.nil ?_
  refine thnN ?_
  refine W.seq ?_
  refine W.seq ?_
  obtain ⟨x1, hy1, hp⟩ := Option.bind_eq_some_iff.1 hp
  refine W.cut (fun φ' h' => Fr.sub [(0, (.agg (List.toArray (α := Value) [(.int .i64 a0_0), (.int .i64 a0_1), (.bool a0_2), u0_3, u0_4]))), (1, (.agg (List.toArray (α := Value) [u1_0, u1_1, u1_2]))), (2, (.int .i64 a2)), (3, (.pointer (some ⟨bb1, 0, none⟩))), (4, (.pointer (some ⟨bb2, 0, none⟩))), (5, (.pointer (some ⟨bb3, 0, none⟩))), (6, (.pointer (some ⟨bb4, 0, none⟩))), (7, (.bool false)), (17, (.bool x1))] φ' ∧ Mod [] h0 h' ∧ Sep [] h0.size h' [boxO bb4 [(.slice none 0 0), (.slice none 0 0), (.slice none 0 0)], boxO bb3 [(.int .i64 a2)], boxO bb2 [u1_0, u1_1, u1_2], boxO bb1 [(.int .i64 a0_0), (.int .i64 a0_1), (.bool a0_2), u0_3, u0_4]]) ?_ ?_
  · obtain ⟨x2, hx2, hy1⟩ := Option.bind_eq_some_iff.1 hy1
    by_cases c1 : (!x2) = true
    · rw [if_pos c1] at hy1
      refine W.region ?_
      refine RL.opD (by decide) (opv_loadA (us := [(.int .i64 a0_0), (.int .i64 a0_1), (.bool a0_2), u0_3, u0_4]) rfl Try.agg29 Try.size29 rfl (Sep.at (o := boxO bb1 [(.int .i64 a0_0), (.int .i64 a0_1), (.bool a0_2), u0_3, u0_4]) S_4 3 rfl) rfl rfl) ?_
      refine RL.opD (by decide) (opv_loadA (us := [u1_0, u1_1, u1_2]) rfl Try.agg53 Try.size53 rfl (Sep.at (o := boxO bb2 [u1_0, u1_1, u1_2]) S_4 2 rfl) rfl rfl) ?_
      refine RL.op _ (by decide) (opv_call (cap := []) (impl_IsField_ok _ _ _ _ _ _ (SL.up (SL.mod g0_3 X_4 (Nat.le_refl _) nob) (Nat.le_trans (Nat.le_refl _) (Mod.size X_4))) _ _ (SL.up (SL.mod g0_4 X_4 (Nat.le_refl _) nob) (Nat.le_trans (Nat.le_refl _) (Mod.size X_4))) _ _ (SL.up (SL.mod g1_0 X_4 (Nat.le_refl _) nob) (Nat.le_trans (Nat.le_refl _) (Mod.size X_4))) _ _ (SL.up (SL.mod g1_1 X_4 (Nat.le_refl _) nob) (Nat.le_trans (Nat.le_refl _) (Mod.size X_4))) _ _ (SL.up (SL.mod g1_2 X_4 (Nat.le_refl _) nob) (Nat.le_trans (Nat.le_refl _) (Mod.size X_4))) _ hx2) rfl rfl ⟨rfl, rfl, trivial⟩ Try.func91 rfl rfl) ?_
      rintro _ hp5 ⟨rfl, MT_5, T_5⟩
      have X_5 : Mod [] h0 hp5 := Mod.step (A := []) (L := [boxO bb4 [(.slice none 0 0), (.slice none 0 0), (.slice none 0 0)], boxO bb3 [(.int .i64 a2)], boxO bb2 [u1_0, u1_1, u1_2], boxO bb1 [(.int .i64 a0_0), (.int .i64 a0_1), (.bool a0_2), u0_3, u0_4]]) X_4 S_4 MT_5
      have S_5 : Sep [] h0.size hp5 [boxO bb4 [(.slice none 0 0), (.slice none 0 0), (.slice none 0 0)], boxO bb3 [(.int .i64 a2)], boxO bb2 [u1_0, u1_1, u1_2], boxO bb1 [(.int .i64 a0_0), (.int .i64 a0_1), (.bool a0_2), u0_3, u0_4]] := Sep.step (A := []) (L := [boxO bb4 [(.slice none 0 0), (.slice none 0 0), (.slice none 0 0)], boxO bb3 [(.int .i64 a2)], boxO bb2 [u1_0, u1_1, u1_2], boxO bb1 [(.int .i64 a0_0), (.int .i64 a0_1), (.bool a0_2), u0_3, u0_4]]) S_4 (Mod.size X_4) MT_5 T_5
      refine RL.opD (by decide) (opv_not rfl rfl) ?_
      refine RL.opD (by decide) (opv_move rfl rfl) ?_
      refine RL.no rfl rfl (Eq.trans c1 (by decide)) (by decide) ?_
      refine RL.no rfl rfl (Eq.trans c1 (by decide)) (by decide) ?_
      refine RL.no rfl rfl (Eq.trans c1 (by decide)) (by decide) ?_
      refine RL.opD (by decide) (opv_pick rfl rfl (fun _ => rfl) (fun e => absurd (Eq.trans (Eq.symm e) c1) (by decide)) rfl) ?_
      refine RL.nil ?_
      have ey1 := Option.some.inj hy1
      subst ey1
      refine onlyN ?_
      exact ⟨⟨rfl, rfl, rfl, rfl, rfl, rfl, rfl, rfl, rfl, trivial⟩, X_5, (Sep.sel S_5 [0, 1, 2, 3] (by decide))⟩
    · rw [if_neg c1] at hy1
      have c1 := eq_false_of_ne_true c1
      obtain ⟨x3, hx3, hy1⟩ := Option.bind_eq_some_iff.1 hy1
      refine W.region ?_
      refine RL.opD (by decide) (opv_loadA (us := [(.int .i64 a0_0), (.int .i64 a0_1), (.bool a0_2), u0_3, u0_4]) rfl Try.agg29 Try.size29 rfl (Sep.at (o := boxO bb1 [(.int .i64 a0_0), (.int .i64 a0_1), (.bool a0_2), u0_3, u0_4]) S_4 3 rfl) rfl rfl) ?_
      refine RL.opD (by decide) (opv_loadA (us := [u1_0, u1_1, u1_2]) rfl Try.agg53 Try.size53 rfl (Sep.at (o := boxO bb2 [u1_0, u1_1, u1_2]) S_4 2 rfl) rfl rfl) ?_
      refine RL.op _ (by decide) (opv_call (cap := []) (impl_IsField_ok _ _ _ _ _ _ (SL.up (SL.mod g0_3 X_4 (Nat.le_refl _) nob) (Nat.le_trans (Nat.le_refl _) (Mod.size X_4))) _ _ (SL.up (SL.mod g0_4 X_4 (Nat.le_refl _) nob) (Nat.le_trans (Nat.le_refl _) (Mod.size X_4))) _ _ (SL.up (SL.mod g1_0 X_4 (Nat.le_refl _) nob) (Nat.le_trans (Nat.le_refl _) (Mod.size X_4))) _ _ (SL.up (SL.mod g1_1 X_4 (Nat.le_refl _) nob) (Nat.le_trans (Nat.le_refl _) (Mod.size X_4))) _ _ (SL.up (SL.mod g1_2 X_4 (Nat.le_refl _) nob) (Nat.le_trans (Nat.le_refl _) (Mod.size X_4))) _ hx2) rfl rfl ⟨rfl, rfl, trivial⟩ Try.func91 rfl rfl) ?_
      rintro _ hp5 ⟨rfl, MT_5, T_5⟩
      have X_5 : Mod [] h0 hp5 := Mod.step (A := []) (L := [boxO bb4 [(.slice none 0 0), (.slice none 0 0), (.slice none 0 0)], boxO bb3 [(.int .i64 a2)], boxO bb2 [u1_0, u1_1, u1_2], boxO bb1 [(.int .i64 a0_0), (.int .i64 a0_1), (.bool a0_2), u0_3, u0_4]]) X_4 S_4 MT_5
      have S_5 : Sep [] h0.size hp5 [boxO bb4 [(.slice none 0 0), (.slice none 0 0), (.slice none 0 0)], boxO bb3 [(.int .i64 a2)], boxO bb2 [u1_0, u1_1, u1_2], boxO bb1 [(.int .i64 a0_0), (.int .i64 a0_1), (.bool a0_2), u0_3, u0_4]] := Sep.step (A := []) (L := [boxO bb4 [(.slice none 0 0), (.slice none 0 0), (.slice none 0 0)], boxO bb3 [(.int .i64 a2)], boxO bb2 [u1_0, u1_1, u1_2], boxO bb1 [(.int .i64 a0_0), (.int .i64 a0_1), (.bool a0_2), u0_3, u0_4]]) S_4 (Mod.size X_4) MT_5 T_5
      refine RL.opD (by decide) (opv_not rfl rfl) ?_
      refine RL.opD (by decide) (opv_move rfl rfl) ?_
      refine RL.yes _ rfl rfl c1 (by decide) (opv_loadB rfl Try.one2 rfl (Sep.at (o := boxO bb3 [(.int .i64 a2)]) S_5 1 rfl) rfl) ?_
      rintro _ _ ⟨rfl, rfl⟩
      refine RL.yes _ rfl rfl c1 (by decide) (opv_call (cap := []) (impl_isWidth_ok _ _ _ hx3) rfl rfl ⟨rfl, trivial⟩ Try.func113 rfl rfl) ?_
      rintro _ _ ⟨rfl, rfl⟩
      refine RL.yes _ rfl rfl c1 (by decide) (opv_not rfl rfl) ?_
      rintro _ _ ⟨rfl, rfl⟩
      refine RL.opD (by decide) (opv_pick rfl rfl (fun e => absurd (Eq.trans (Eq.symm e) c1) (by decide)) (fun _ => rfl) rfl) ?_
      refine RL.nil ?_
      have ey1 := Option.some.inj hy1
      subst ey1
      refine onlyN ?_
      exact ⟨⟨rfl, rfl, rfl, rfl, rfl, rfl, rfl, rfl, rfl, trivial⟩, X_5, (Sep.sel S_5 [0, 1, 2, 3] (by decide))⟩
  rintro φ' hp6 ⟨hs1, X_6, S_6⟩
  refine thnN ?_
  refine W.sub hs1 ?_
  by_cases c2 : x1 = true
  · rw [if_pos c2] at hp
    refine W.condT rfl c2 ?_
    refine W.seq ?_
    refine W.region ?_
    refine RL.opD (by decide) (opv_build (cs := [(.slice none 0 0), (.slice none 0 0), (.slice none 0 0)]) [] [] rfl Try.bd53 trivial rfl) ?_
    refine RL.op0 _ (opS_stored (cs := [(.slice none 0 0), (.slice none 0 0), (.slice none 0 0)]) (cs' := [(.slice none 0 0), (.slice none 0 0), (.slice none 0 0)]) (opv_storeA (us := [(.slice none 0 0), (.slice none 0 0), (.slice none 0 0)]) rfl Try.size53 rfl rfl (oneAll rfl (oneAll rfl (oneAll rfl rfl))) (Sep.at (o := boxO bb4 [(.slice none 0 0), (.slice none 0 0), (.slice none 0 0)]) S_6 0 rfl) rfl rfl) (Sep.at (o := boxO bb4 [(.slice none 0 0), (.slice none 0 0), (.slice none 0 0)]) S_6 0 rfl)) ?_
    rintro _ hp7 ⟨rfl, MT_6, T_6⟩
    have S_7 : Sep [] h0.size hp6 ([boxO bb4 [(.slice none 0 0), (.slice none 0 0), (.slice none 0 0)]] ++ [boxO bb3 [(.int .i64 a2)], boxO bb2 [u1_0, u1_1, u1_2], boxO bb1 [(.int .i64 a0_0), (.int .i64 a0_1), (.bool a0_2), u0_3, u0_4]]) := Sep.sel S_6 [0, 1, 2, 3] (by decide)
    have X_7 : Mod [] h0 hp7 := Mod.step (A := [boxO bb4 [(.slice none 0 0), (.slice none 0 0), (.slice none 0 0)]]) (L := [boxO bb3 [(.int .i64 a2)], boxO bb2 [u1_0, u1_1, u1_2], boxO bb1 [(.int .i64 a0_0), (.int .i64 a0_1), (.bool a0_2), u0_3, u0_4]]) X_6 S_7 MT_6
    have S_8 : Sep [] h0.size hp7 [boxO bb4 [(.slice none 0 0), (.slice none 0 0), (.slice none 0 0)], boxO bb3 [(.int .i64 a2)], boxO bb2 [u1_0, u1_1, u1_2], boxO bb1 [(.int .i64 a0_0), (.int .i64 a0_1), (.bool a0_2), u0_3, u0_4]] := Sep.step (A := [boxO bb4 [(.slice none 0 0), (.slice none 0 0), (.slice none 0 0)]]) (L := [boxO bb3 [(.int .i64 a2)], boxO bb2 [u1_0, u1_1, u1_2], boxO bb1 [(.int .i64 a0_0), (.int .i64 a0_1), (.bool a0_2), u0_3, u0_4]]) S_7 (Mod.size X_6) MT_6 T_6
    refine RL.opD (by decide) (opv_assign rfl rfl) ?_
    refine RL.nil ?_
    refine thnN ?_
    refine W.ret ?_
    refine thnR ?_
    have S_9 : Sep [] h0.size hp7 [ownO (kF .f32) 40 (.slice none 0 0) ([] : List (Option Nat)), boxO bb4 [(.slice none 0 0), (.slice none 0 0), (.slice none 0 0)], boxO bb3 [(.int .i64 a2)], boxO bb2 [u1_0, u1_1, u1_2], boxO bb1 [(.int .i64 a0_0), (.int .i64 a0_1), (.bool a0_2), u0_3, u0_4]] := Sep.addNil S_8
    have S_10 : Sep [] h0.size hp7 [ownO (kF .f32) 40 (.slice none 0 0) ([] : List (Option Nat)), ownO (kF .f32) 40 (.slice none 0 0) ([] : List (Option Nat)), boxO bb4 [(.slice none 0 0), (.slice none 0 0), (.slice none 0 0)], boxO bb3 [(.int .i64 a2)], boxO bb2 [u1_0, u1_1, u1_2], boxO bb1 [(.int .i64 a0_0), (.int .i64 a0_1), (.bool a0_2), u0_3, u0_4]] := Sep.addNil S_9
    have S_11 : Sep [] h0.size hp7 [ownO (kF .f32) 40 (.slice none 0 0) ([] : List (Option Nat)), ownO (kF .f32) 40 (.slice none 0 0) ([] : List (Option Nat)), ownO (kF .f32) 40 (.slice none 0 0) ([] : List (Option Nat)), boxO bb4 [(.slice none 0 0), (.slice none 0 0), (.slice none 0 0)], boxO bb3 [(.int .i64 a2)], boxO bb2 [u1_0, u1_1, u1_2], boxO bb1 [(.int .i64 a0_0), (.int .i64 a0_1), (.bool a0_2), u0_3, u0_4]] := Sep.addNil S_10
    have er := Option.some.inj hp
    subst er
    exact Rt.cellA rfl rfl rfl Try.agg53 Try.size53 (Sep.at (o := boxO bb4 [(.slice none 0 0), (.slice none 0 0), (.slice none 0 0)]) S_11 3 rfl) rfl ⟨(.slice none 0 0), (.slice none 0 0), (.slice none 0 0), rfl, X_7, (Sep.sel S_11 [2, 1, 0] (by decide))⟩
  · rw [if_neg c2] at hp
    have c2 := eq_false_of_ne_true c2
    refine W.condF rfl c2 ?_
    refine W.skip ?_
    refine thnN ?_
    refine W.seq ?_
    obtain ⟨x4, hx4, hp⟩ := Option.bind_eq_some_iff.1 hp
    refine W.region ?_
    refine RL.opD (by decide) (opv_loadA (us := [u1_0, u1_1, u1_2]) rfl Try.agg53 Try.size53 rfl (Sep.at (o := boxO bb2 [u1_0, u1_1, u1_2]) S_6 2 rfl) rfl rfl) ?_
    refine RL.op _ (by decide) (opv_call (cap := []) (impl_copyField_ok _ _ _ (SL.up (SL.mod g1_0 X_6 (Nat.le_refl _) nob) (Nat.le_trans (Nat.le_refl _) (Mod.size X_6))) _ _ (SL.up (SL.mod g1_1 X_6 (Nat.le_refl _) nob) (Nat.le_trans (Nat.le_refl _) (Mod.size X_6))) _ _ (SL.up (SL.mod g1_2 X_6 (Nat.le_refl _) nob) (Nat.le_trans (Nat.le_refl _) (Mod.size X_6))) _ hx4) rfl rfl ⟨rfl, trivial⟩ Try.func132 rfl rfl) ?_
    rintro _ hp8 ⟨v1, v2, v3, rfl, MT_7, T_7⟩
    have X_8 : Mod [] h0 hp8 := Mod.step (A := []) (L := [boxO bb4 [(.slice none 0 0), (.slice none 0 0), (.slice none 0 0)], boxO bb3 [(.int .i64 a2)], boxO bb2 [u1_0, u1_1, u1_2], boxO bb1 [(.int .i64 a0_0), (.int .i64 a0_1), (.bool a0_2), u0_3, u0_4]]) X_6 S_6 MT_7
    have S_12 : Sep [] h0.size hp8 [ownO (kF .f32) 40 v1 x4.1, ownO (kF .f32) 40 v2 x4.2.1, ownO (kF .f32) 40 v3 x4.2.2, boxO bb4 [(.slice none 0 0), (.slice none 0 0), (.slice none 0 0)], boxO bb3 [(.int .i64 a2)], boxO bb2 [u1_0, u1_1, u1_2], boxO bb1 [(.int .i64 a0_0), (.int .i64 a0_1), (.bool a0_2), u0_3, u0_4]] := Sep.step (A := []) (L := [boxO bb4 [(.slice none 0 0), (.slice none 0 0), (.slice none 0 0)], boxO bb3 [(.int .i64 a2)], boxO bb2 [u1_0, u1_1, u1_2], boxO bb1 [(.int .i64 a0_0), (.int .i64 a0_1), (.bool a0_2), u0_3, u0_4]]) S_6 (Mod.size X_6) MT_7 T_7
    refine RL.op _ (by decide) (opS_boxed (opv_alloc (cs := [(.slice none 0 0), (.slice none 0 0), (.slice none 0 0)]) rfl Try.zero53 rfl)) ?_
    rintro _ hp9 ⟨bb5, rfl, MT_8, T_8⟩
    have X_9 : Mod [] h0 hp9 := Mod.step (A := []) (L := [ownO (kF .f32) 40 v1 x4.1, ownO (kF .f32) 40 v2 x4.2.1, ownO (kF .f32) 40 v3 x4.2.2, boxO bb4 [(.slice none 0 0), (.slice none 0 0), (.slice none 0 0)], boxO bb3 [(.int .i64 a2)], boxO bb2 [u1_0, u1_1, u1_2], boxO bb1 [(.int .i64 a0_0), (.int .i64 a0_1), (.bool a0_2), u0_3, u0_4]]) X_8 S_12 MT_8
    have S_13 : Sep [] h0.size hp9 [boxO bb5 [(.slice none 0 0), (.slice none 0 0), (.slice none 0 0)], ownO (kF .f32) 40 v1 x4.1, ownO (kF .f32) 40 v2 x4.2.1, ownO (kF .f32) 40 v3 x4.2.2, boxO bb4 [(.slice none 0 0), (.slice none 0 0), (.slice none 0 0)], boxO bb3 [(.int .i64 a2)], boxO bb2 [u1_0, u1_1, u1_2], boxO bb1 [(.int .i64 a0_0), (.int .i64 a0_1), (.bool a0_2), u0_3, u0_4]] := Sep.step (A := []) (L := [ownO (kF .f32) 40 v1 x4.1, ownO (kF .f32) 40 v2 x4.2.1, ownO (kF .f32) 40 v3 x4.2.2, boxO bb4 [(.slice none 0 0), (.slice none 0 0), (.slice none 0 0)], boxO bb3 [(.int .i64 a2)], boxO bb2 [u1_0, u1_1, u1_2], boxO bb1 [(.int .i64 a0_0), (.int .i64 a0_1), (.bool a0_2), u0_3, u0_4]]) S_12 (Mod.size X_8) MT_8 T_8
    refine RL.op0 _ (opS_stored (cs := [(.slice none 0 0), (.slice none 0 0), (.slice none 0 0)]) (cs' := [v1, v2, v3]) (opv_storeA (us := [v1, v2, v3]) rfl Try.size53 rfl rfl (oneAll (ownO.one (Sep.at (o := ownO (kF .f32) 40 v1 x4.1) S_13 1 rfl)) (oneAll (ownO.one (Sep.at (o := ownO (kF .f32) 40 v2 x4.2.1) S_13 2 rfl)) (oneAll (ownO.one (Sep.at (o := ownO (kF .f32) 40 v3 x4.2.2) S_13 3 rfl)) rfl))) (Sep.at (o := boxO bb5 [(.slice none 0 0), (.slice none 0 0), (.slice none 0 0)]) S_13 0 rfl) rfl rfl) (Sep.at (o := boxO bb5 [(.slice none 0 0), (.slice none 0 0), (.slice none 0 0)]) S_13 0 rfl)) ?_
    rintro _ hp10 ⟨rfl, MT_9, T_9⟩
    have S_14 : Sep [] h0.size hp9 ([boxO bb5 [(.slice none 0 0), (.slice none 0 0), (.slice none 0 0)]] ++ [ownO (kF .f32) 40 v1 x4.1, ownO (kF .f32) 40 v2 x4.2.1, ownO (kF .f32) 40 v3 x4.2.2, boxO bb4 [(.slice none 0 0), (.slice none 0 0), (.slice none 0 0)], boxO bb3 [(.int .i64 a2)], boxO bb2 [u1_0, u1_1, u1_2], boxO bb1 [(.int .i64 a0_0), (.int .i64 a0_1), (.bool a0_2), u0_3, u0_4]]) := Sep.sel S_13 [0, 1, 2, 3, 4, 5, 6, 7] (by decide)
    have X_10 : Mod [] h0 hp10 := Mod.step (A := [boxO bb5 [(.slice none 0 0), (.slice none 0 0), (.slice none 0 0)]]) (L := [ownO (kF .f32) 40 v1 x4.1, ownO (kF .f32) 40 v2 x4.2.1, ownO (kF .f32) 40 v3 x4.2.2, boxO bb4 [(.slice none 0 0), (.slice none 0 0), (.slice none 0 0)], boxO bb3 [(.int .i64 a2)], boxO bb2 [u1_0, u1_1, u1_2], boxO bb1 [(.int .i64 a0_0), (.int .i64 a0_1), (.bool a0_2), u0_3, u0_4]]) X_9 S_14 MT_9
    have S_15 : Sep [] h0.size hp10 [boxO bb5 [v1, v2, v3], ownO (kF .f32) 40 v1 x4.1, ownO (kF .f32) 40 v2 x4.2.1, ownO (kF .f32) 40 v3 x4.2.2, boxO bb4 [(.slice none 0 0), (.slice none 0 0), (.slice none 0 0)], boxO bb3 [(.int .i64 a2)], boxO bb2 [u1_0, u1_1, u1_2], boxO bb1 [(.int .i64 a0_0), (.int .i64 a0_1), (.bool a0_2), u0_3, u0_4]] := Sep.step (A := [boxO bb5 [(.slice none 0 0), (.slice none 0 0), (.slice none 0 0)]]) (L := [ownO (kF .f32) 40 v1 x4.1, ownO (kF .f32) 40 v2 x4.2.1, ownO (kF .f32) 40 v3 x4.2.2, boxO bb4 [(.slice none 0 0), (.slice none 0 0), (.slice none 0 0)], boxO bb3 [(.int .i64 a2)], boxO bb2 [u1_0, u1_1, u1_2], boxO bb1 [(.int .i64 a0_0), (.int .i64 a0_1), (.bool a0_2), u0_3, u0_4]]) S_14 (Mod.size X_9) MT_9 T_9
    refine RL.nil ?_
    refine thnN ?_
    refine W.seq ?_
    obtain ⟨x5, hx5, hp⟩ := Option.bind_eq_some_iff.1 hp
    refine W.region ?_
    refine RL.opD (by decide) (opv_loadA (us := [(.int .i64 a0_0), (.int .i64 a0_1), (.bool a0_2), u0_3, u0_4]) rfl Try.agg29 Try.size29 rfl (Sep.at (o := boxO bb1 [(.int .i64 a0_0), (.int .i64 a0_1), (.bool a0_2), u0_3, u0_4]) S_15 7 rfl) rfl rfl) ?_
    refine RL.opD (by decide) (opv_makeFunc (vs := [(.pointer (some ⟨bb1, 0, none⟩)), (.pointer (some ⟨bb3, 0, none⟩)), (.pointer (some ⟨bb5, 0, none⟩))]) rfl ⟨rfl, rfl, rfl, trivial⟩) ?_
    have S_17 : Sep [] h0.size hp10 [boxO bb1 [(.int .i64 a0_0), (.int .i64 a0_1), (.bool a0_2), u0_3, u0_4], boxO bb3 [(.int .i64 a2)], boxO bb5 [v1, v2, v3], ownO (kF .f32) 40 v1 x4.1, ownO (kF .f32) 40 v2 x4.2.1, ownO (kF .f32) 40 v3 x4.2.2] := Sep.sel S_15 [7, 5, 0, 1, 2, 3] (by decide)
    have S_16 : Sep [some bb1, some bb3, some bb5, v1.ownBlock, v2.ownBlock, v3.ownBlock] hp10.size hp10 [boxO bb1 [(.int .i64 a0_0), (.int .i64 a0_1), (.bool a0_2), u0_3, u0_4], boxO bb3 [(.int .i64 a2)], boxO bb5 [v1, v2, v3], ownO (kF .f32) 40 v1 x4.1, ownO (kF .f32) 40 v2 x4.2.1, ownO (kF .f32) 40 v3 x4.2.2] := Sep.own S_17 _
    refine RL.op _ (by decide) (opv_call (cap := []) (impl_Sheet_each__impl_RampField_1_ok _ h0.size (Nat.le_trans (Nat.le_refl _) (Mod.size X_10)) _ _ _ _ _ (SL.mod g0_3 X_10 (Nat.le_refl _) nob) _ _ (SL.mod g0_4 X_10 (Nat.le_refl _) nob) _ _ _ _ _ _ (SL.mod g0_3 X_10 (Nat.le_refl _) nob) _ _ (SL.mod g0_4 X_10 (Nat.le_refl _) nob) _ _ _ _ _ _ _ _ _ S_16 (Sep.ge (L := [boxO bb1 [(.int .i64 a0_0), (.int .i64 a0_1), (.bool a0_2), u0_3, u0_4], boxO bb3 [(.int .i64 a2)], boxO bb5 [v1, v2, v3], ownO (kF .f32) 40 v1 x4.1, ownO (kF .f32) 40 v2 x4.2.1, ownO (kF .f32) 40 v3 x4.2.2]) S_17 (Nat.le_refl _) nob) _ hx5) rfl rfl ⟨rfl, rfl, trivial⟩ Try.func99 rfl rfl) ?_
    rintro _ hp11 ⟨rfl, MT_10, T_10⟩
    have S_18 : Sep [] h0.size hp10 ([boxO bb1 [(.int .i64 a0_0), (.int .i64 a0_1), (.bool a0_2), u0_3, u0_4], boxO bb3 [(.int .i64 a2)], boxO bb5 [v1, v2, v3], ownO (kF .f32) 40 v1 x4.1, ownO (kF .f32) 40 v2 x4.2.1, ownO (kF .f32) 40 v3 x4.2.2] ++ [boxO bb4 [(.slice none 0 0), (.slice none 0 0), (.slice none 0 0)], boxO bb2 [u1_0, u1_1, u1_2]]) := Sep.sel S_15 [7, 5, 0, 1, 2, 3, 4, 6] (by decide)
    have X_11 : Mod [] h0 hp11 := Mod.step (A := [boxO bb1 [(.int .i64 a0_0), (.int .i64 a0_1), (.bool a0_2), u0_3, u0_4], boxO bb3 [(.int .i64 a2)], boxO bb5 [v1, v2, v3], ownO (kF .f32) 40 v1 x4.1, ownO (kF .f32) 40 v2 x4.2.1, ownO (kF .f32) 40 v3 x4.2.2]) (L := [boxO bb4 [(.slice none 0 0), (.slice none 0 0), (.slice none 0 0)], boxO bb2 [u1_0, u1_1, u1_2]]) X_10 S_18 MT_10
    have S_19 : Sep [] h0.size hp11 [boxO bb1 [(.int .i64 x5.1), (.int .i64 x5.2.1), (.bool x5.2.2.1), u0_3, u0_4], boxO bb3 [(.int .i64 x5.2.2.2.1)], boxO bb5 [v1, v2, v3], ownO (kF .f32) 40 v1 x5.2.2.2.2.1, ownO (kF .f32) 40 v2 x5.2.2.2.2.2.1, ownO (kF .f32) 40 v3 x5.2.2.2.2.2.2, boxO bb4 [(.slice none 0 0), (.slice none 0 0), (.slice none 0 0)], boxO bb2 [u1_0, u1_1, u1_2]] := Sep.step (A := [boxO bb1 [(.int .i64 a0_0), (.int .i64 a0_1), (.bool a0_2), u0_3, u0_4], boxO bb3 [(.int .i64 a2)], boxO bb5 [v1, v2, v3], ownO (kF .f32) 40 v1 x4.1, ownO (kF .f32) 40 v2 x4.2.1, ownO (kF .f32) 40 v3 x4.2.2]) (L := [boxO bb4 [(.slice none 0 0), (.slice none 0 0), (.slice none 0 0)], boxO bb2 [u1_0, u1_1, u1_2]]) S_18 (Mod.size X_10) MT_10 T_10
    refine RL.nil ?_
    refine thnN ?_
    refine W.seq ?_
    obtain ⟨x6, hx6, hp⟩ := Option.bind_eq_some_iff.1 hp
    refine W.region ?_
    refine RL.opD (by decide) (opv_loadA (us := [(.int .i64 x5.1), (.int .i64 x5.2.1), (.bool x5.2.2.1), u0_3, u0_4]) rfl Try.agg29 Try.size29 rfl (Sep.at (o := boxO bb1 [(.int .i64 x5.1), (.int .i64 x5.2.1), (.bool x5.2.2.1), u0_3, u0_4]) S_19 0 rfl) rfl rfl) ?_
    refine RL.opD (by decide) (opv_loadA (us := [v1, v2, v3]) rfl Try.agg53 Try.size53 rfl (Sep.at (o := boxO bb5 [v1, v2, v3]) S_19 2 rfl) rfl rfl) ?_
    have S_21 : Sep [] h0.size hp11 [ownO (kF .f32) 40 v1 x5.2.2.2.2.1, ownO (kF .f32) 40 v2 x5.2.2.2.2.2.1, ownO (kF .f32) 40 v3 x5.2.2.2.2.2.2] := Sep.sel S_19 [3, 4, 5] (by decide)
    have S_20 : Sep [v1.ownBlock, v2.ownBlock, v3.ownBlock] hp11.size hp11 [ownO (kF .f32) 40 v1 x5.2.2.2.2.1, ownO (kF .f32) 40 v2 x5.2.2.2.2.2.1, ownO (kF .f32) 40 v3 x5.2.2.2.2.2.2] := Sep.own S_21 _
    refine RL.op _ (by decide) (opv_call (cap := []) (impl_validField_ok _ h0.size (Nat.le_trans (Nat.le_refl _) (Mod.size X_11)) _ _ _ _ _ (SL.mod g0_3 X_11 (Nat.le_refl _) nob) _ _ (SL.mod g0_4 X_11 (Nat.le_refl _) nob) _ _ _ _ _ _ S_20 (Sep.ge (L := [ownO (kF .f32) 40 v1 x5.2.2.2.2.1, ownO (kF .f32) 40 v2 x5.2.2.2.2.2.1, ownO (kF .f32) 40 v3 x5.2.2.2.2.2.2]) S_21 (Nat.le_refl _) nob) _ hx6) rfl rfl ⟨rfl, rfl, trivial⟩ Try.func134 rfl rfl) ?_
    rintro _ hp12 ⟨v4, v5, v6, rfl, MT_11, T_11⟩
    have S_22 : Sep [] h0.size hp11 ([ownO (kF .f32) 40 v1 x5.2.2.2.2.1, ownO (kF .f32) 40 v2 x5.2.2.2.2.2.1, ownO (kF .f32) 40 v3 x5.2.2.2.2.2.2] ++ [boxO bb1 [(.int .i64 x5.1), (.int .i64 x5.2.1), (.bool x5.2.2.1), u0_3, u0_4], boxO bb3 [(.int .i64 x5.2.2.2.1)], boxO bb5 [v1, v2, v3], boxO bb4 [(.slice none 0 0), (.slice none 0 0), (.slice none 0 0)], boxO bb2 [u1_0, u1_1, u1_2]]) := Sep.sel S_19 [3, 4, 5, 0, 1, 2, 6, 7] (by decide)
    have X_12 : Mod [] h0 hp12 := Mod.step (A := [ownO (kF .f32) 40 v1 x5.2.2.2.2.1, ownO (kF .f32) 40 v2 x5.2.2.2.2.2.1, ownO (kF .f32) 40 v3 x5.2.2.2.2.2.2]) (L := [boxO bb1 [(.int .i64 x5.1), (.int .i64 x5.2.1), (.bool x5.2.2.1), u0_3, u0_4], boxO bb3 [(.int .i64 x5.2.2.2.1)], boxO bb5 [v1, v2, v3], boxO bb4 [(.slice none 0 0), (.slice none 0 0), (.slice none 0 0)], boxO bb2 [u1_0, u1_1, u1_2]]) X_11 S_22 MT_11
    have S_23 : Sep [] h0.size hp12 [ownO (kF .f32) 40 v4 x6.1, ownO (kF .f32) 40 v5 x6.2.1, ownO (kF .f32) 40 v6 x6.2.2.1, boxO bb1 [(.int .i64 x5.1), (.int .i64 x5.2.1), (.bool x5.2.2.1), u0_3, u0_4], boxO bb3 [(.int .i64 x5.2.2.2.1)], boxO bb5 [v1, v2, v3], boxO bb4 [(.slice none 0 0), (.slice none 0 0), (.slice none 0 0)], boxO bb2 [u1_0, u1_1, u1_2]] := Sep.step (A := [ownO (kF .f32) 40 v1 x5.2.2.2.2.1, ownO (kF .f32) 40 v2 x5.2.2.2.2.2.1, ownO (kF .f32) 40 v3 x5.2.2.2.2.2.2]) (L := [boxO bb1 [(.int .i64 x5.1), (.int .i64 x5.2.1), (.bool x5.2.2.1), u0_3, u0_4], boxO bb3 [(.int .i64 x5.2.2.2.1)], boxO bb5 [v1, v2, v3], boxO bb4 [(.slice none 0 0), (.slice none 0 0), (.slice none 0 0)], boxO bb2 [u1_0, u1_1, u1_2]]) S_22 (Mod.size X_11) MT_11 T_11
    refine RL.opD (by decide) (opv_extract rfl rfl rfl) ?_
    refine RL.opD (by decide) (opv_extract rfl rfl rfl) ?_
    refine RL.op0 _ (opS_stored (cs := [(.slice none 0 0), (.slice none 0 0), (.slice none 0 0)]) (cs' := [v4, v5, v6]) (opv_storeA (us := [v4, v5, v6]) rfl Try.size53 rfl rfl (oneAll (ownO.one (Sep.at (o := ownO (kF .f32) 40 v4 x6.1) S_23 0 rfl)) (oneAll (ownO.one (Sep.at (o := ownO (kF .f32) 40 v5 x6.2.1) S_23 1 rfl)) (oneAll (ownO.one (Sep.at (o := ownO (kF .f32) 40 v6 x6.2.2.1) S_23 2 rfl)) rfl))) (Sep.at (o := boxO bb4 [(.slice none 0 0), (.slice none 0 0), (.slice none 0 0)]) S_23 6 rfl) rfl rfl) (Sep.at (o := boxO bb4 [(.slice none 0 0), (.slice none 0 0), (.slice none 0 0)]) S_23 6 rfl)) ?_
    rintro _ hp13 ⟨rfl, MT_12, T_12⟩
    have S_24 : Sep [] h0.size hp12 ([boxO bb4 [(.slice none 0 0), (.slice none 0 0), (.slice none 0 0)]] ++ [ownO (kF .f32) 40 v4 x6.1, ownO (kF .f32) 40 v5 x6.2.1, ownO (kF .f32) 40 v6 x6.2.2.1, boxO bb1 [(.int .i64 x5.1), (.int .i64 x5.2.1), (.bool x5.2.2.1), u0_3, u0_4], boxO bb3 [(.int .i64 x5.2.2.2.1)], boxO bb5 [v1, v2, v3], boxO bb2 [u1_0, u1_1, u1_2]]) := Sep.sel S_23 [6, 0, 1, 2, 3, 4, 5, 7] (by decide)
    have X_13 : Mod [] h0 hp13 := Mod.step (A := [boxO bb4 [(.slice none 0 0), (.slice none 0 0), (.slice none 0 0)]]) (L := [ownO (kF .f32) 40 v4 x6.1, ownO (kF .f32) 40 v5 x6.2.1, ownO (kF .f32) 40 v6 x6.2.2.1, boxO bb1 [(.int .i64 x5.1), (.int .i64 x5.2.1), (.bool x5.2.2.1), u0_3, u0_4], boxO bb3 [(.int .i64 x5.2.2.2.1)], boxO bb5 [v1, v2, v3], boxO bb2 [u1_0, u1_1, u1_2]]) X_12 S_24 MT_12
    have S_25 : Sep [] h0.size hp13 [boxO bb4 [v4, v5, v6], ownO (kF .f32) 40 v4 x6.1, ownO (kF .f32) 40 v5 x6.2.1, ownO (kF .f32) 40 v6 x6.2.2.1, boxO bb1 [(.int .i64 x5.1), (.int .i64 x5.2.1), (.bool x5.2.2.1), u0_3, u0_4], boxO bb3 [(.int .i64 x5.2.2.2.1)], boxO bb5 [v1, v2, v3], boxO bb2 [u1_0, u1_1, u1_2]] := Sep.step (A := [boxO bb4 [(.slice none 0 0), (.slice none 0 0), (.slice none 0 0)]]) (L := [ownO (kF .f32) 40 v4 x6.1, ownO (kF .f32) 40 v5 x6.2.1, ownO (kF .f32) 40 v6 x6.2.2.1, boxO bb1 [(.int .i64 x5.1), (.int .i64 x5.2.1), (.bool x5.2.2.1), u0_3, u0_4], boxO bb3 [(.int .i64 x5.2.2.2.1)], boxO bb5 [v1, v2, v3], boxO bb2 [u1_0, u1_1, u1_2]]) S_24 (Mod.size X_12) MT_12 T_12
    refine RL.opD (by decide) (opv_assign rfl rfl) ?_
    refine RL.nil ?_
    refine thnN ?_
    refine W.ret ?_
    have er := Option.some.inj hp
    subst er
    exact Rt.cellA rfl rfl rfl Try.agg53 Try.size53 (Sep.at (o := boxO bb4 [v4, v5, v6]) S_25 0 rfl) rfl ⟨v4, v5, v6, rfl, X_13, (Sep.sel S_25 [1, 2, 3] (by decide))⟩

set_option maxRecDepth 20000 in
theorem laws_FnExactRampField_ok (h0 : Heap) (a0_0 : Int) (a0_1 : Int) (a0_2 : Bool) (u0_3 : Value) (a0_3 : List (Option Nat)) (g0_3 : SL (kF .f32) h0.size h0 u0_3 a0_3) (u0_4 : Value) (a0_4 : List (Option Nat)) (g0_4 : SL (kF .f32) h0.size h0 u0_4 a0_4) (u1_0 : Value) (a1_0 : List (Option Nat)) (g1_0 : SL (kF .f32) h0.size h0 u1_0 a1_0) (u1_1 : Value) (a1_1 : List (Option Nat)) (g1_1 : SL (kF .f32) h0.size h0 u1_1 a1_1) (u1_2 : Value) (a1_2 : List (Option Nat)) (g1_2 : SL (kF .f32) h0.size h0 u1_2 a1_2) (a2 : Int) (r : Bool) (hp : laws_FnExactRampField a0_0 a0_1 a0_2 a0_3 a0_4 a1_0 a1_1 a1_2 a2 = some r) : CallsH Try.prog 16 ([(.agg (List.toArray (α := Value) [(.int .i64 a0_0), (.int .i64 a0_1), (.bool a0_2), u0_3, u0_4])), (.agg (List.toArray (α := Value) [u1_0, u1_1, u1_2])), (.int .i64 a2)].toArray ++ [].toArray) h0 (fun v h' => v = (.bool r) ∧ Mod [] h0 h' ∧ Sep [] h0.size h' []) := by
  unfold laws_FnExactRampField at hp
  refine callsH_of_W (l := [(.agg (List.toArray (α := Value) [(.int .i64 a0_0), (.int .i64 a0_1), (.bool a0_2), u0_3, u0_4])), (.agg (List.toArray (α := Value) [u1_0, u1_1, u1_2])), (.int .i64 a2)]) (cap := []) 124 Try.func16 rfl rfl rfl ?_
  refine W.seq ?_
  refine W.region ?_
  refine RL.op _ (by decide) (opS_boxed (opv_boxA (cs := [(.int .i64 a0_0), (.int .i64 a0_1), (.bool a0_2), u0_3, u0_4]) rfl rfl)) ?_
  rintro _ hp1 ⟨bb1, rfl, MT_1, T_1⟩
  have X_1 : Mod [] h0 hp1 := Mod.step (A := []) (L := []) (Mod.refl [] h0) (Sep.nil [] h0.size h0) MT_1
  have S_1 : Sep [] h0.size hp1 [boxO bb1 [(.int .i64 a0_0), (.int .i64 a0_1), (.bool a0_2), u0_3, u0_4]] := Sep.step (A := []) (L := []) (Sep.nil [] h0.size h0) (Mod.size (Mod.refl [] h0)) MT_1 T_1
  refine RL.op _ (by decide) (opS_boxed (opv_boxA (cs := [u1_0, u1_1, u1_2]) rfl rfl)) ?_
  rintro _ hp2 ⟨bb2, rfl, MT_2, T_2⟩
  have X_2 : Mod [] h0 hp2 := Mod.step (A := []) (L := [boxO bb1 [(.int .i64 a0_0), (.int .i64 a0_1), (.bool a0_2), u0_3, u0_4]]) X_1 S_1 MT_2
  have S_2 : Sep [] h0.size hp2 [boxO bb2 [u1_0, u1_1, u1_2], boxO bb1 [(.int .i64 a0_0), (.int .i64 a0_1), (.bool a0_2), u0_3, u0_4]] := Sep.step (A := []) (L := [boxO bb1 [(.int .i64 a0_0), (.int .i64 a0_1), (.bool a0_2), u0_3, u0_4]]) S_1 (Mod.size X_1) MT_2 T_2
  refine RL.opD (by decide) (opv_assign rfl rfl) ?_
  refine RL.nil ?_
  refine thnN ?_
  refine W.seq ?_
  refine W.region ?_
  refine RL.opD (by decide) (opv_assign rfl rfl) ?_
  refine RL.nil ?_
  refine thnN ?_
  refine W.seq ?_
  obtain ⟨x1, hx1, hp⟩ := Option.bind_eq_some_iff.1 hp
  refine W.region ?_
  refine RL.opD (by decide) (opv_loadA (us := [(.int .i64 a0_0), (.int .i64 a0_1), (.bool a0_2), u0_3, u0_4]) rfl Try.agg24 Try.size24 rfl (Sep.at (o := boxO bb1 [(.int .i64 a0_0), (.int .i64 a0_1), (.bool a0_2), u0_3, u0_4]) S_2 1 rfl) rfl rfl) ?_
  refine RL.opD (by decide) (opv_move rfl rfl) ?_
  refine RL.op _ (by decide) (opv_call (cap := []) (laws_szSheet_ok _ _ _ _ _ _ (SL.up (SL.mod g0_3 X_2 (Nat.le_refl _) nob) (Nat.le_trans (Nat.le_refl _) (Mod.size X_2))) _ _ (SL.up (SL.mod g0_4 X_2 (Nat.le_refl _) nob) (Nat.le_trans (Nat.le_refl _) (Mod.size X_2))) _ _ hx1) rfl rfl ⟨rfl, rfl, trivial⟩ Try.func18 rfl rfl) ?_
  rintro _ hp3 ⟨rfl, MT_3, T_3⟩
  have X_3 : Mod [] h0 hp3 := Mod.step (A := []) (L := [boxO bb2 [u1_0, u1_1, u1_2], boxO bb1 [(.int .i64 a0_0), (.int .i64 a0_1), (.bool a0_2), u0_3, u0_4]]) X_2 S_2 MT_3
  have S_3 : Sep [] h0.size hp3 [boxO bb2 [u1_0, u1_1, u1_2], boxO bb1 [(.int .i64 a0_0), (.int .i64 a0_1), (.bool a0_2), u0_3, u0_4]] := Sep.step (A := []) (L := [boxO bb2 [u1_0, u1_1, u1_2], boxO bb1 [(.int .i64 a0_0), (.int .i64 a0_1), (.bool a0_2), u0_3, u0_4]]) S_2 (Mod.size X_2) MT_3 T_3
  refine RL.opD (by decide) (opv_assign rfl rfl) ?_
  refine RL.nil ?_
  refine thnN ?_
  refine W.seq ?_
  refine W.seq ?_
  refine W.region ?_
  refine RL.opD (by decide) (opv_move rfl rfl) ?_
  refine RL.opD (by decide) (opv_icmp rfl rfl rfl rfl) ?_
  refine RL.nil ?_
  refine thnN ?_
  by_cases c1 : (decide (x1 < 0)) = true
  · rw [if_pos c1] at hp
    refine W.condT rfl c1 ?_
    refine W.seq ?_
    refine W.region ?_
    refine RL.opD (by decide) (opv_assign rfl rfl) ?_
    refine RL.nil ?_
    refine thnN ?_
    refine W.ret ?_
    refine thnR ?_
    have er := Option.some.inj hp
    subst er
    exact Rt.one rfl rfl ⟨rfl, X_3, (Sep.nil _ _ _)⟩
  · rw [if_neg c1] at hp
    have c1 := eq_false_of_ne_true c1
    refine W.condF rfl c1 ?_
    refine W.skip ?_
    refine thnN ?_
    refine W.seq ?_
    obtain ⟨x2, hx2, hp⟩ := Option.bind_eq_some_iff.1 hp
    refine W.region ?_
    refine RL.opD (by decide) (opv_loadA (us := [u1_0, u1_1, u1_2]) rfl Try.agg49 Try.size49 rfl (Sep.at (o := boxO bb2 [u1_0, u1_1, u1_2]) S_3 0 rfl) rfl rfl) ?_
    refine RL.opD (by decide) (opv_move rfl rfl) ?_
    refine RL.op _ (by decide) (opv_call (cap := []) (laws_szField_ok _ _ _ (SL.up (SL.mod g1_0 X_3 (Nat.le_refl _) nob) (Nat.le_trans (Nat.le_refl _) (Mod.size X_3))) _ _ (SL.up (SL.mod g1_1 X_3 (Nat.le_refl _) nob) (Nat.le_trans (Nat.le_refl _) (Mod.size X_3))) _ _ (SL.up (SL.mod g1_2 X_3 (Nat.le_refl _) nob) (Nat.le_trans (Nat.le_refl _) (Mod.size X_3))) _ _ hx2) rfl rfl ⟨rfl, rfl, trivial⟩ Try.func33 rfl rfl) ?_
    rintro _ hp4 ⟨rfl, MT_4, T_4⟩
    have X_4 : Mod [] h0 hp4 := Mod.step (A := []) (L := [boxO bb2 [u1_0, u1_1, u1_2], boxO bb1 [(.int .i64 a0_0), (.int .i64 a0_1), (.bool a0_2), u0_3, u0_4]]) X_3 S_3 MT_4
    have S_4 : Sep [] h0.size hp4 [boxO bb2 [u1_0, u1_1, u1_2], boxO bb1 [(.int .i64 a0_0), (.int .i64 a0_1), (.bool a0_2), u0_3, u0_4]] := Sep.step (A := []) (L := [boxO bb2 [u1_0, u1_1, u1_2], boxO bb1 [(.int .i64 a0_0), (.int .i64 a0_1), (.bool a0_2), u0_3, u0_4]]) S_3 (Mod.size X_3) MT_4 T_4
    refine RL.opD (by decide) (opv_assign rfl rfl) ?_
    refine RL.nil ?_
    refine thnN ?_
    refine W.seq ?_
    refine W.seq ?_
    refine W.region ?_
    refine RL.opD (by decide) (opv_move rfl rfl) ?_
    refine RL.opD (by decide) (opv_icmp rfl rfl rfl rfl) ?_
    refine RL.nil ?_
    refine thnN ?_
    by_cases c2 : (decide (x2 < 0)) = true
    · rw [if_pos c2] at hp
      refine W.condT rfl c2 ?_
      refine W.seq ?_
      refine W.region ?_
      refine RL.opD (by decide) (opv_assign rfl rfl) ?_
      refine RL.nil ?_
      refine thnN ?_
      refine W.ret ?_
      refine thnR ?_
      have er := Option.some.inj hp
      subst er
      exact Rt.one rfl rfl ⟨rfl, X_4, (Sep.nil _ _ _)⟩
    · rw [if_neg c2] at hp
      have c2 := eq_false_of_ne_true c2
      refine W.condF rfl c2 ?_
      refine W.skip ?_
      refine thnN ?_
      refine W.seq ?_
      obtain ⟨x3, hx3, hp⟩ := Option.bind_eq_some_iff.1 hp
      obtain ⟨x4, hx4, hp⟩ := Option.bind_eq_some_iff.1 hp
      obtain ⟨x5, hx5, hp⟩ := Option.bind_eq_some_iff.1 hp
      refine W.sub (ψ := [(0, (.agg (List.toArray (α := Value) [(.int .i64 a0_0), (.int .i64 a0_1), (.bool a0_2), u0_3, u0_4]))), (1, (.agg (List.toArray (α := Value) [u1_0, u1_1, u1_2]))), (2, (.int .i64 a2)), (3, (.pointer (some ⟨bb1, 0, none⟩))), (4, (.pointer (some ⟨bb2, 0, none⟩))), (6, (.bool false)), (7, (.int .i64 x2)), (23, (.bool (decide (x1 < 0)))), (28, (.bool (decide (x2 < 0))))]) ⟨rfl, rfl, rfl, rfl, rfl, rfl, rfl, rfl, rfl, trivial⟩ ?_
      refine W.regionL [fun v _ => @Eq Value (.agg (List.toArray (α := Value) [(.int .i64 a0_0), (.int .i64 a0_1), (.bool a0_2), u0_3, u0_4])) v, fun v h => ∃ v1, ∃ v2, @Eq Value v (.agg (List.toArray (α := Value) [(.int .i64 x3.1), (.int .i64 x3.2.1), (.bool x3.2.2.1), v1, v2])) ∧ Sep [] hp4.size h [ownO (kF .f32) 40 v1 x3.2.2.2.1, ownO (kF .f32) 40 v2 x3.2.2.2.2], fun v _ => @Eq Value (.agg (List.toArray (α := Value) [u1_0, u1_1, u1_2])) v, fun v h => ∃ v3, ∃ v4, ∃ v5, @Eq Value v (.agg (List.toArray (α := Value) [v3, v4, v5])) ∧ Sep [] hp4.size h [ownO (kF .f32) 40 v3 x4.1, ownO (kF .f32) 40 v4 x4.2.1, ownO (kF .f32) 40 v5 x4.2.2], fun v _ => @Eq Value (.int .i64 a2) v, fun v h => ∃ v6, ∃ v7, ∃ v8, @Eq Value v (.tuple (List.toArray (α := Value) [(.agg (List.toArray (α := Value) [v6, v7, v8])), (.bool x5.2.2.2)])) ∧ Sep [] hp4.size h [ownO (kF .f32) 40 v6 x5.1, ownO (kF .f32) 40 v7 x5.2.1, ownO (kF .f32) 40 v8 x5.2.2.1], fun v h => ∃ v6, ∃ v7, ∃ v8, @Eq Value v (.tuple (List.toArray (α := Value) [(.agg (List.toArray (α := Value) [v6, v7, v8])), (.bool x5.2.2.2)])) ∧ Sep [] hp4.size h [ownO (kF .f32) 40 v6 x5.1, ownO (kF .f32) 40 v7 x5.2.1, ownO (kF .f32) 40 v8 x5.2.2.1], fun v h => ∃ v6, ∃ v7, ∃ v8, @Eq Value v (.agg (List.toArray (α := Value) [v6, v7, v8])) ∧ Sep [] hp4.size h [ownO (kF .f32) 40 v6 x5.1, ownO (kF .f32) 40 v7 x5.2.1, ownO (kF .f32) 40 v8 x5.2.2.1], fun v _ => @Eq Value (.bool x5.2.2.2) v, fun v h => ∃ b, @Eq Value v (.pointer (some ⟨b, 0, none⟩)) ∧ Sep [] hp4.size h [boxO b [(.slice none 0 0), (.slice none 0 0), (.slice none 0 0)]]] [none, some (fun u => [Value.ownBlock (vget u 3), Value.ownBlock (vget u 4)]), none, some (fun u => [Value.ownBlock (vget u 0), Value.ownBlock (vget u 1), Value.ownBlock (vget u 2)]), none, some (fun u => [Value.ownBlock (vget (vget u 0) 0), Value.ownBlock (vget (vget u 0) 1), Value.ownBlock (vget (vget u 0) 2)]), none, none, none, some (fun u => [ptrB u])] [none, none, none, none, none, none, some (35, fun u => u), some (29, fun u => vget u 0)] [8] [[], [0], [], [2], [], [1, 3, 4], [5], [6], [6], []] [5, 6, 7, 8, 9] Try.mixed (by decide +kernel) (by decide +kernel) (fun _ _ _ h => h) rfl rfl rfl (by decide +kernel) rfl ⟨fun _ _ _ h _ => h, fun _ _ _ ⟨u0_, u1_, e, h⟩ x => ⟨u0_, u1_, e, h.ext x⟩, fun _ _ _ h _ => h, fun _ _ _ ⟨u0_, u1_, u2_, e, h⟩ x => ⟨u0_, u1_, u2_, e, h.ext x⟩, fun _ _ _ h _ => h, fun _ _ _ ⟨u0_, u1_, u2_, e, h⟩ x => ⟨u0_, u1_, u2_, e, h.ext x⟩, fun _ _ _ ⟨u0_, u1_, u2_, e, h⟩ x => ⟨u0_, u1_, u2_, e, h.ext x⟩, fun _ _ _ ⟨u0_, u1_, u2_, e, h⟩ x => ⟨u0_, u1_, u2_, e, h.ext x⟩, fun _ _ _ h _ => h, fun _ _ _ ⟨b, e, h⟩ x => ⟨b, e, h.ext x⟩, trivial⟩ ?_ (.cons ?_ (.nil)) ?_
      · refine ⟨⟨rfl, ?_⟩, ⟨rfl, ?_⟩, ⟨rfl, ?_⟩, ⟨rfl, ?_⟩, ⟨rfl, ?_⟩, ⟨rfl, ?_⟩, ⟨rfl, ?_⟩, ⟨rfl, ?_⟩, ⟨rfl, ?_⟩, ⟨rfl, ?_⟩, trivial⟩
        · rintro hp10 E_1
          refine Dep.nil ?_
          refine GuardOK.none rfl ?_
          exact OpV.toDx (opv_loadA (us := [(.int .i64 a0_0), (.int .i64 a0_1), (.bool a0_2), u0_3, u0_4]) rfl Try.agg24 Try.size24 rfl (Sep.at (o := boxO bb1 [(.int .i64 a0_0), (.int .i64 a0_1), (.bool a0_2), u0_3, u0_4]) (Sep.ext S_4 E_1) 1 rfl) rfl rfl) rfl
        · rintro hp11 E_2 _ rfl
          refine Dep.nil ?_
          refine GuardOK.none rfl ?_
          exact OpV.mono (opv_call (cap := []) (laws_toSheet_ok _ _ _ _ _ _ (SL.up (SL.mod g0_3 (Mod.lift X_4 E_2) (Nat.le_refl _) nob) (Nat.le_trans (Nat.le_refl _) (Mod.size (Mod.lift X_4 E_2)))) _ _ (SL.up (SL.mod g0_4 (Mod.lift X_4 E_2) (Nat.le_refl _) nob) (Nat.le_trans (Nat.le_refl _) (Mod.size (Mod.lift X_4 E_2)))) _ hx3) rfl rfl ⟨rfl, trivial⟩ Try.func20 rfl rfl) (by rintro _ _ ⟨v1, v2, rfl, M_, T_⟩; exact ⟨Mod.ext M_, ⟨v1, v2, rfl, Sep.weak T_ (Ext.size E_2)⟩, Sep.fresh T_⟩)
        · rintro hp12 E_3
          refine Dep.nil ?_
          refine GuardOK.none rfl ?_
          exact OpV.toDx (opv_loadA (us := [u1_0, u1_1, u1_2]) rfl Try.agg49 Try.size49 rfl (Sep.at (o := boxO bb2 [u1_0, u1_1, u1_2]) (Sep.ext S_4 E_3) 0 rfl) rfl rfl) rfl
        · rintro hp13 E_4 _ rfl
          refine Dep.nil ?_
          refine GuardOK.none rfl ?_
          exact OpV.mono (opv_call (cap := []) (laws_toField_ok _ _ _ (SL.up (SL.mod g1_0 (Mod.lift X_4 E_4) (Nat.le_refl _) nob) (Nat.le_trans (Nat.le_refl _) (Mod.size (Mod.lift X_4 E_4)))) _ _ (SL.up (SL.mod g1_1 (Mod.lift X_4 E_4) (Nat.le_refl _) nob) (Nat.le_trans (Nat.le_refl _) (Mod.size (Mod.lift X_4 E_4)))) _ _ (SL.up (SL.mod g1_2 (Mod.lift X_4 E_4) (Nat.le_refl _) nob) (Nat.le_trans (Nat.le_refl _) (Mod.size (Mod.lift X_4 E_4)))) _ hx4) rfl rfl ⟨rfl, trivial⟩ Try.func35 rfl rfl) (by rintro _ _ ⟨v3, v4, v5, rfl, M_, T_⟩; exact ⟨Mod.ext M_, ⟨v3, v4, v5, rfl, Sep.weak T_ (Ext.size E_4)⟩, Sep.fresh T_⟩)
        · rintro hp14 E_5
          refine Dep.nil ?_
          refine GuardOK.none rfl ?_
          exact OpV.toDx (opv_move rfl rfl) rfl
        · rintro hp15 E_6 _ ⟨v1, v2, rfl, T_5⟩ _ ⟨v3, v4, v5, rfl, T_6⟩ _ rfl
          refine Dep.nil ?_
          refine GuardOK.none rfl ?_
          exact OpV.mono (opv_call (cap := []) (spec_RampField_ok _ _ _ _ _ _ (ownO.read (Sep.at (o := ownO (kF .f32) 40 v1 x3.2.2.2.1) T_5 0 rfl)) _ _ (ownO.read (Sep.at (o := ownO (kF .f32) 40 v2 x3.2.2.2.2) T_5 1 rfl)) _ _ (ownO.read (Sep.at (o := ownO (kF .f32) 40 v3 x4.1) T_6 0 rfl)) _ _ (ownO.read (Sep.at (o := ownO (kF .f32) 40 v4 x4.2.1) T_6 1 rfl)) _ _ (ownO.read (Sep.at (o := ownO (kF .f32) 40 v5 x4.2.2) T_6 2 rfl)) _ _ hx5) rfl rfl ⟨rfl, rfl, rfl, trivial⟩ Try.func69 rfl rfl) (by rintro _ _ ⟨v6, v7, v8, rfl, M_, T_⟩; exact ⟨Mod.ext M_, ⟨v6, v7, v8, rfl, Sep.weak T_ (Ext.size E_6)⟩, Sep.fresh T_⟩)
        · rintro hp16 E_7 _ ⟨v6, v7, v8, rfl, T_7⟩
          refine Dep.nil ?_
          refine GuardOK.none rfl ?_
          exact OpV.mono (opv_move rfl rfl) (by rintro _ _ ⟨rfl, rfl⟩; exact ⟨⟨Ext.refl _, v6, v7, v8, rfl, T_7⟩, _, rfl, rfl⟩)
        · rintro hp17 E_8 _ ⟨v6, v7, v8, rfl, T_7⟩
          refine Dep.nil ?_
          refine GuardOK.none rfl ?_
          exact OpV.mono (opv_extract rfl rfl rfl) (by rintro _ _ ⟨rfl, rfl⟩; exact ⟨⟨Ext.refl _, v6, v7, v8, rfl, T_7⟩, _, rfl, rfl⟩)
        · rintro hp18 E_9 _ ⟨v6, v7, v8, rfl, T_7⟩
          refine Dep.nil ?_
          refine GuardOK.none rfl ?_
          exact OpV.toDx (opv_extract rfl rfl rfl) rfl
        · rintro hp19 E_10
          refine Dep.nil ?_
          refine GuardOK.none rfl ?_
          exact OpV.mono (opS_boxed (opv_alloc (cs := [(.slice none 0 0), (.slice none 0 0), (.slice none 0 0)]) rfl Try.zero53 rfl)) (by rintro _ _ ⟨b_, rfl, M_, T_⟩; exact ⟨Mod.ext M_, ⟨b_, rfl, Sep.weak T_ (Ext.size E_10)⟩, Sep.fresh T_⟩)
      · refine ⟨[6], _, rfl, rfl, rfl, rfl, ?_⟩
        rintro hp20 E_11 _ ⟨v6, v7, v8, rfl, T_7⟩
        refine Dep.nil ?_
        exact ⟨_, opy_extract rfl rfl rfl, ⟨Ext.refl _, rfl⟩⟩
      rintro hp21 E_12 _ ⟨v6, v7, v8, rfl, T_7⟩ z6_ _ z7_ _ _ rfl _ ⟨bb3, rfl, T_8⟩
      refine DepM.nil ?_
      intro PW_1 LK_
      have ez6_ : z6_ = (.tuple (List.toArray (α := Value) [(.agg (List.toArray (α := Value) [v6, v7, v8])), (.bool x5.2.2.2)])) := LK_ 6 _ _ _ _ _ (by decide) rfl rfl rfl rfl
      subst z6_
      have ez7_ : z7_ = (.agg (List.toArray (α := Value) [v6, v7, v8])) := LK_ 7 _ _ _ _ _ (by decide) rfl rfl rfl rfl
      subst z7_
      have X_10 : Mod [] h0 hp21 := Mod.lift X_4 E_12
      have S_11 : Sep [] h0.size hp21 [ownO (kF .f32) 40 v6 x5.1, ownO (kF .f32) 40 v7 x5.2.1, ownO (kF .f32) 40 v8 x5.2.2.1, boxO bb3 [(.slice none 0 0), (.slice none 0 0), (.slice none 0 0)], boxO bb2 [u1_0, u1_1, u1_2], boxO bb1 [(.int .i64 a0_0), (.int .i64 a0_1), (.bool a0_2), u0_3, u0_4]] := Sep.join S_4 (Mod.size X_4) (Ext.mod E_12 []) (Sep.both T_7 T_8 (Apt.symm (Apt.of PW_1 0 4 rfl rfl (by decide))))
      show RL _ _ _ _ (_ :: _) _ _
      refine RL.op0 _ (opS_stored (cs := [(.slice none 0 0), (.slice none 0 0), (.slice none 0 0)]) (cs' := [v6, v7, v8]) (opv_storeA (us := [v6, v7, v8]) rfl Try.size53 rfl rfl (oneAll (ownO.one (Sep.at (o := ownO (kF .f32) 40 v6 x5.1) S_11 0 rfl)) (oneAll (ownO.one (Sep.at (o := ownO (kF .f32) 40 v7 x5.2.1) S_11 1 rfl)) (oneAll (ownO.one (Sep.at (o := ownO (kF .f32) 40 v8 x5.2.2.1) S_11 2 rfl)) rfl))) (Sep.at (o := boxO bb3 [(.slice none 0 0), (.slice none 0 0), (.slice none 0 0)]) S_11 3 rfl) rfl rfl) (Sep.at (o := boxO bb3 [(.slice none 0 0), (.slice none 0 0), (.slice none 0 0)]) S_11 3 rfl)) ?_
      rintro _ hp22 ⟨rfl, MT_10, T_10⟩
      have S_12 : Sep [] h0.size hp21 ([boxO bb3 [(.slice none 0 0), (.slice none 0 0), (.slice none 0 0)]] ++ [ownO (kF .f32) 40 v6 x5.1, ownO (kF .f32) 40 v7 x5.2.1, ownO (kF .f32) 40 v8 x5.2.2.1, boxO bb2 [u1_0, u1_1, u1_2], boxO bb1 [(.int .i64 a0_0), (.int .i64 a0_1), (.bool a0_2), u0_3, u0_4]]) := Sep.sel S_11 [3, 0, 1, 2, 4, 5] (by decide)
      have X_11 : Mod [] h0 hp22 := Mod.step (A := [boxO bb3 [(.slice none 0 0), (.slice none 0 0), (.slice none 0 0)]]) (L := [ownO (kF .f32) 40 v6 x5.1, ownO (kF .f32) 40 v7 x5.2.1, ownO (kF .f32) 40 v8 x5.2.2.1, boxO bb2 [u1_0, u1_1, u1_2], boxO bb1 [(.int .i64 a0_0), (.int .i64 a0_1), (.bool a0_2), u0_3, u0_4]]) X_10 S_12 MT_10
      have S_13 : Sep [] h0.size hp22 [boxO bb3 [v6, v7, v8], ownO (kF .f32) 40 v6 x5.1, ownO (kF .f32) 40 v7 x5.2.1, ownO (kF .f32) 40 v8 x5.2.2.1, boxO bb2 [u1_0, u1_1, u1_2], boxO bb1 [(.int .i64 a0_0), (.int .i64 a0_1), (.bool a0_2), u0_3, u0_4]] := Sep.step (A := [boxO bb3 [(.slice none 0 0), (.slice none 0 0), (.slice none 0 0)]]) (L := [ownO (kF .f32) 40 v6 x5.1, ownO (kF .f32) 40 v7 x5.2.1, ownO (kF .f32) 40 v8 x5.2.2.1, boxO bb2 [u1_0, u1_1, u1_2], boxO bb1 [(.int .i64 a0_0), (.int .i64 a0_1), (.bool a0_2), u0_3, u0_4]]) S_12 (Mod.size X_10) MT_10 T_10
      refine RL.opD (by decide) (opv_assign rfl rfl) ?_
      refine RL.nil ?_
      refine thnN ?_
      refine W.seq ?_
      obtain ⟨x6, hx6, hp⟩ := Option.bind_eq_some_iff.1 hp
      refine W.region ?_
      refine RL.opD (by decide) (opv_loadA (us := [(.int .i64 a0_0), (.int .i64 a0_1), (.bool a0_2), u0_3, u0_4]) rfl Try.agg24 Try.size24 rfl (Sep.at (o := boxO bb1 [(.int .i64 a0_0), (.int .i64 a0_1), (.bool a0_2), u0_3, u0_4]) S_13 5 rfl) rfl rfl) ?_
      refine RL.op _ (by decide) (opv_call (cap := []) (laws_toSheet_ok _ _ _ _ _ _ (SL.up (SL.mod g0_3 X_11 (Nat.le_refl _) nob) (Nat.le_trans (Nat.le_refl _) (Mod.size X_11))) _ _ (SL.up (SL.mod g0_4 X_11 (Nat.le_refl _) nob) (Nat.le_trans (Nat.le_refl _) (Mod.size X_11))) _ hx6) rfl rfl ⟨rfl, trivial⟩ Try.func20 rfl rfl) ?_
      rintro _ hp23 ⟨v17, v18, rfl, MT_11, T_11⟩
      have X_12 : Mod [] h0 hp23 := Mod.step (A := []) (L := [boxO bb3 [v6, v7, v8], ownO (kF .f32) 40 v6 x5.1, ownO (kF .f32) 40 v7 x5.2.1, ownO (kF .f32) 40 v8 x5.2.2.1, boxO bb2 [u1_0, u1_1, u1_2], boxO bb1 [(.int .i64 a0_0), (.int .i64 a0_1), (.bool a0_2), u0_3, u0_4]]) X_11 S_13 MT_11
      have S_14 : Sep [] h0.size hp23 [ownO (kF .f32) 40 v17 x6.2.2.2.1, ownO (kF .f32) 40 v18 x6.2.2.2.2, boxO bb3 [v6, v7, v8], ownO (kF .f32) 40 v6 x5.1, ownO (kF .f32) 40 v7 x5.2.1, ownO (kF .f32) 40 v8 x5.2.2.1, boxO bb2 [u1_0, u1_1, u1_2], boxO bb1 [(.int .i64 a0_0), (.int .i64 a0_1), (.bool a0_2), u0_3, u0_4]] := Sep.step (A := []) (L := [boxO bb3 [v6, v7, v8], ownO (kF .f32) 40 v6 x5.1, ownO (kF .f32) 40 v7 x5.2.1, ownO (kF .f32) 40 v8 x5.2.2.1, boxO bb2 [u1_0, u1_1, u1_2], boxO bb1 [(.int .i64 a0_0), (.int .i64 a0_1), (.bool a0_2), u0_3, u0_4]]) S_13 (Mod.size X_11) MT_11 T_11
      refine RL.op _ (by decide) (opS_boxed (opv_alloc (cs := [(.int .i64 0), (.int .i64 0), (.bool false), (.slice none 0 0), (.slice none 0 0)]) rfl Try.zero29 rfl)) ?_
      rintro _ hp24 ⟨bb4, rfl, MT_12, T_12⟩
      have X_13 : Mod [] h0 hp24 := Mod.step (A := []) (L := [ownO (kF .f32) 40 v17 x6.2.2.2.1, ownO (kF .f32) 40 v18 x6.2.2.2.2, boxO bb3 [v6, v7, v8], ownO (kF .f32) 40 v6 x5.1, ownO (kF .f32) 40 v7 x5.2.1, ownO (kF .f32) 40 v8 x5.2.2.1, boxO bb2 [u1_0, u1_1, u1_2], boxO bb1 [(.int .i64 a0_0), (.int .i64 a0_1), (.bool a0_2), u0_3, u0_4]]) X_12 S_14 MT_12
      have S_15 : Sep [] h0.size hp24 [boxO bb4 [(.int .i64 0), (.int .i64 0), (.bool false), (.slice none 0 0), (.slice none 0 0)], ownO (kF .f32) 40 v17 x6.2.2.2.1, ownO (kF .f32) 40 v18 x6.2.2.2.2, boxO bb3 [v6, v7, v8], ownO (kF .f32) 40 v6 x5.1, ownO (kF .f32) 40 v7 x5.2.1, ownO (kF .f32) 40 v8 x5.2.2.1, boxO bb2 [u1_0, u1_1, u1_2], boxO bb1 [(.int .i64 a0_0), (.int .i64 a0_1), (.bool a0_2), u0_3, u0_4]] := Sep.step (A := []) (L := [ownO (kF .f32) 40 v17 x6.2.2.2.1, ownO (kF .f32) 40 v18 x6.2.2.2.2, boxO bb3 [v6, v7, v8], ownO (kF .f32) 40 v6 x5.1, ownO (kF .f32) 40 v7 x5.2.1, ownO (kF .f32) 40 v8 x5.2.2.1, boxO bb2 [u1_0, u1_1, u1_2], boxO bb1 [(.int .i64 a0_0), (.int .i64 a0_1), (.bool a0_2), u0_3, u0_4]]) S_14 (Mod.size X_12) MT_12 T_12
      refine RL.op0 _ (opS_stored (cs := [(.int .i64 0), (.int .i64 0), (.bool false), (.slice none 0 0), (.slice none 0 0)]) (cs' := [(.int .i64 x6.1), (.int .i64 x6.2.1), (.bool x6.2.2.1), v17, v18]) (opv_storeA (us := [(.int .i64 x6.1), (.int .i64 x6.2.1), (.bool x6.2.2.1), v17, v18]) rfl Try.size29 rfl rfl (oneAll rfl (oneAll rfl (oneAll rfl (oneAll (ownO.one (Sep.at (o := ownO (kF .f32) 40 v17 x6.2.2.2.1) S_15 1 rfl)) (oneAll (ownO.one (Sep.at (o := ownO (kF .f32) 40 v18 x6.2.2.2.2) S_15 2 rfl)) rfl))))) (Sep.at (o := boxO bb4 [(.int .i64 0), (.int .i64 0), (.bool false), (.slice none 0 0), (.slice none 0 0)]) S_15 0 rfl) rfl rfl) (Sep.at (o := boxO bb4 [(.int .i64 0), (.int .i64 0), (.bool false), (.slice none 0 0), (.slice none 0 0)]) S_15 0 rfl)) ?_
      rintro _ hp25 ⟨rfl, MT_13, T_13⟩
      have S_16 : Sep [] h0.size hp24 ([boxO bb4 [(.int .i64 0), (.int .i64 0), (.bool false), (.slice none 0 0), (.slice none 0 0)]] ++ [ownO (kF .f32) 40 v17 x6.2.2.2.1, ownO (kF .f32) 40 v18 x6.2.2.2.2, boxO bb3 [v6, v7, v8], ownO (kF .f32) 40 v6 x5.1, ownO (kF .f32) 40 v7 x5.2.1, ownO (kF .f32) 40 v8 x5.2.2.1, boxO bb2 [u1_0, u1_1, u1_2], boxO bb1 [(.int .i64 a0_0), (.int .i64 a0_1), (.bool a0_2), u0_3, u0_4]]) := Sep.sel S_15 [0, 1, 2, 3, 4, 5, 6, 7, 8] (by decide)
      have X_14 : Mod [] h0 hp25 := Mod.step (A := [boxO bb4 [(.int .i64 0), (.int .i64 0), (.bool false), (.slice none 0 0), (.slice none 0 0)]]) (L := [ownO (kF .f32) 40 v17 x6.2.2.2.1, ownO (kF .f32) 40 v18 x6.2.2.2.2, boxO bb3 [v6, v7, v8], ownO (kF .f32) 40 v6 x5.1, ownO (kF .f32) 40 v7 x5.2.1, ownO (kF .f32) 40 v8 x5.2.2.1, boxO bb2 [u1_0, u1_1, u1_2], boxO bb1 [(.int .i64 a0_0), (.int .i64 a0_1), (.bool a0_2), u0_3, u0_4]]) X_13 S_16 MT_13
      have S_17 : Sep [] h0.size hp25 [boxO bb4 [(.int .i64 x6.1), (.int .i64 x6.2.1), (.bool x6.2.2.1), v17, v18], ownO (kF .f32) 40 v17 x6.2.2.2.1, ownO (kF .f32) 40 v18 x6.2.2.2.2, boxO bb3 [v6, v7, v8], ownO (kF .f32) 40 v6 x5.1, ownO (kF .f32) 40 v7 x5.2.1, ownO (kF .f32) 40 v8 x5.2.2.1, boxO bb2 [u1_0, u1_1, u1_2], boxO bb1 [(.int .i64 a0_0), (.int .i64 a0_1), (.bool a0_2), u0_3, u0_4]] := Sep.step (A := [boxO bb4 [(.int .i64 0), (.int .i64 0), (.bool false), (.slice none 0 0), (.slice none 0 0)]]) (L := [ownO (kF .f32) 40 v17 x6.2.2.2.1, ownO (kF .f32) 40 v18 x6.2.2.2.2, boxO bb3 [v6, v7, v8], ownO (kF .f32) 40 v6 x5.1, ownO (kF .f32) 40 v7 x5.2.1, ownO (kF .f32) 40 v8 x5.2.2.1, boxO bb2 [u1_0, u1_1, u1_2], boxO bb1 [(.int .i64 a0_0), (.int .i64 a0_1), (.bool a0_2), u0_3, u0_4]]) S_16 (Mod.size X_13) MT_13 T_13
      refine RL.nil ?_
      refine thnN ?_
      refine W.seq ?_
      obtain ⟨x7, hx7, hp⟩ := Option.bind_eq_some_iff.1 hp
      refine W.region ?_
      refine RL.opD (by decide) (opv_loadA (us := [u1_0, u1_1, u1_2]) rfl Try.agg49 Try.size49 rfl (Sep.at (o := boxO bb2 [u1_0, u1_1, u1_2]) S_17 7 rfl) rfl rfl) ?_
      refine RL.op _ (by decide) (opv_call (cap := []) (laws_toField_ok _ _ _ (SL.up (SL.mod g1_0 X_14 (Nat.le_refl _) nob) (Nat.le_trans (Nat.le_refl _) (Mod.size X_14))) _ _ (SL.up (SL.mod g1_1 X_14 (Nat.le_refl _) nob) (Nat.le_trans (Nat.le_refl _) (Mod.size X_14))) _ _ (SL.up (SL.mod g1_2 X_14 (Nat.le_refl _) nob) (Nat.le_trans (Nat.le_refl _) (Mod.size X_14))) _ hx7) rfl rfl ⟨rfl, trivial⟩ Try.func35 rfl rfl) ?_
      rintro _ hp26 ⟨v19, v20, v21, rfl, MT_14, T_14⟩
      have X_15 : Mod [] h0 hp26 := Mod.step (A := []) (L := [boxO bb4 [(.int .i64 x6.1), (.int .i64 x6.2.1), (.bool x6.2.2.1), v17, v18], ownO (kF .f32) 40 v17 x6.2.2.2.1, ownO (kF .f32) 40 v18 x6.2.2.2.2, boxO bb3 [v6, v7, v8], ownO (kF .f32) 40 v6 x5.1, ownO (kF .f32) 40 v7 x5.2.1, ownO (kF .f32) 40 v8 x5.2.2.1, boxO bb2 [u1_0, u1_1, u1_2], boxO bb1 [(.int .i64 a0_0), (.int .i64 a0_1), (.bool a0_2), u0_3, u0_4]]) X_14 S_17 MT_14
      have S_18 : Sep [] h0.size hp26 [ownO (kF .f32) 40 v19 x7.1, ownO (kF .f32) 40 v20 x7.2.1, ownO (kF .f32) 40 v21 x7.2.2, boxO bb4 [(.int .i64 x6.1), (.int .i64 x6.2.1), (.bool x6.2.2.1), v17, v18], ownO (kF .f32) 40 v17 x6.2.2.2.1, ownO (kF .f32) 40 v18 x6.2.2.2.2, boxO bb3 [v6, v7, v8], ownO (kF .f32) 40 v6 x5.1, ownO (kF .f32) 40 v7 x5.2.1, ownO (kF .f32) 40 v8 x5.2.2.1, boxO bb2 [u1_0, u1_1, u1_2], boxO bb1 [(.int .i64 a0_0), (.int .i64 a0_1), (.bool a0_2), u0_3, u0_4]] := Sep.step (A := []) (L := [boxO bb4 [(.int .i64 x6.1), (.int .i64 x6.2.1), (.bool x6.2.2.1), v17, v18], ownO (kF .f32) 40 v17 x6.2.2.2.1, ownO (kF .f32) 40 v18 x6.2.2.2.2, boxO bb3 [v6, v7, v8], ownO (kF .f32) 40 v6 x5.1, ownO (kF .f32) 40 v7 x5.2.1, ownO (kF .f32) 40 v8 x5.2.2.1, boxO bb2 [u1_0, u1_1, u1_2], boxO bb1 [(.int .i64 a0_0), (.int .i64 a0_1), (.bool a0_2), u0_3, u0_4]]) S_17 (Mod.size X_14) MT_14 T_14
      refine RL.op _ (by decide) (opS_boxed (opv_alloc (cs := [(.slice none 0 0), (.slice none 0 0), (.slice none 0 0)]) rfl Try.zero53 rfl)) ?_
      rintro _ hp27 ⟨bb5, rfl, MT_15, T_15⟩
      have X_16 : Mod [] h0 hp27 := Mod.step (A := []) (L := [ownO (kF .f32) 40 v19 x7.1, ownO (kF .f32) 40 v20 x7.2.1, ownO (kF .f32) 40 v21 x7.2.2, boxO bb4 [(.int .i64 x6.1), (.int .i64 x6.2.1), (.bool x6.2.2.1), v17, v18], ownO (kF .f32) 40 v17 x6.2.2.2.1, ownO (kF .f32) 40 v18 x6.2.2.2.2, boxO bb3 [v6, v7, v8], ownO (kF .f32) 40 v6 x5.1, ownO (kF .f32) 40 v7 x5.2.1, ownO (kF .f32) 40 v8 x5.2.2.1, boxO bb2 [u1_0, u1_1, u1_2], boxO bb1 [(.int .i64 a0_0), (.int .i64 a0_1), (.bool a0_2), u0_3, u0_4]]) X_15 S_18 MT_15
      have S_19 : Sep [] h0.size hp27 [boxO bb5 [(.slice none 0 0), (.slice none 0 0), (.slice none 0 0)], ownO (kF .f32) 40 v19 x7.1, ownO (kF .f32) 40 v20 x7.2.1, ownO (kF .f32) 40 v21 x7.2.2, boxO bb4 [(.int .i64 x6.1), (.int .i64 x6.2.1), (.bool x6.2.2.1), v17, v18], ownO (kF .f32) 40 v17 x6.2.2.2.1, ownO (kF .f32) 40 v18 x6.2.2.2.2, boxO bb3 [v6, v7, v8], ownO (kF .f32) 40 v6 x5.1, ownO (kF .f32) 40 v7 x5.2.1, ownO (kF .f32) 40 v8 x5.2.2.1, boxO bb2 [u1_0, u1_1, u1_2], boxO bb1 [(.int .i64 a0_0), (.int .i64 a0_1), (.bool a0_2), u0_3, u0_4]] := Sep.step (A := []) (L := [ownO (kF .f32) 40 v19 x7.1, ownO (kF .f32) 40 v20 x7.2.1, ownO (kF .f32) 40 v21 x7.2.2, boxO bb4 [(.int .i64 x6.1), (.int .i64 x6.2.1), (.bool x6.2.2.1), v17, v18], ownO (kF .f32) 40 v17 x6.2.2.2.1, ownO (kF .f32) 40 v18 x6.2.2.2.2, boxO bb3 [v6, v7, v8], ownO (kF .f32) 40 v6 x5.1, ownO (kF .f32) 40 v7 x5.2.1, ownO (kF .f32) 40 v8 x5.2.2.1, boxO bb2 [u1_0, u1_1, u1_2], boxO bb1 [(.int .i64 a0_0), (.int .i64 a0_1), (.bool a0_2), u0_3, u0_4]]) S_18 (Mod.size X_15) MT_15 T_15
      refine RL.op0 _ (opS_stored (cs := [(.slice none 0 0), (.slice none 0 0), (.slice none 0 0)]) (cs' := [v19, v20, v21]) (opv_storeA (us := [v19, v20, v21]) rfl Try.size53 rfl rfl (oneAll (ownO.one (Sep.at (o := ownO (kF .f32) 40 v19 x7.1) S_19 1 rfl)) (oneAll (ownO.one (Sep.at (o := ownO (kF .f32) 40 v20 x7.2.1) S_19 2 rfl)) (oneAll (ownO.one (Sep.at (o := ownO (kF .f32) 40 v21 x7.2.2) S_19 3 rfl)) rfl))) (Sep.at (o := boxO bb5 [(.slice none 0 0), (.slice none 0 0), (.slice none 0 0)]) S_19 0 rfl) rfl rfl) (Sep.at (o := boxO bb5 [(.slice none 0 0), (.slice none 0 0), (.slice none 0 0)]) S_19 0 rfl)) ?_
      rintro _ hp28 ⟨rfl, MT_16, T_16⟩
      have S_20 : Sep [] h0.size hp27 ([boxO bb5 [(.slice none 0 0), (.slice none 0 0), (.slice none 0 0)]] ++ [ownO (kF .f32) 40 v19 x7.1, ownO (kF .f32) 40 v20 x7.2.1, ownO (kF .f32) 40 v21 x7.2.2, boxO bb4 [(.int .i64 x6.1), (.int .i64 x6.2.1), (.bool x6.2.2.1), v17, v18], ownO (kF .f32) 40 v17 x6.2.2.2.1, ownO (kF .f32) 40 v18 x6.2.2.2.2, boxO bb3 [v6, v7, v8], ownO (kF .f32) 40 v6 x5.1, ownO (kF .f32) 40 v7 x5.2.1, ownO (kF .f32) 40 v8 x5.2.2.1, boxO bb2 [u1_0, u1_1, u1_2], boxO bb1 [(.int .i64 a0_0), (.int .i64 a0_1), (.bool a0_2), u0_3, u0_4]]) := Sep.sel S_19 [0, 1, 2, 3, 4, 5, 6, 7, 8, 9, 10, 11, 12] (by decide)
      have X_17 : Mod [] h0 hp28 := Mod.step (A := [boxO bb5 [(.slice none 0 0), (.slice none 0 0), (.slice none 0 0)]]) (L := [ownO (kF .f32) 40 v19 x7.1, ownO (kF .f32) 40 v20 x7.2.1, ownO (kF .f32) 40 v21 x7.2.2, boxO bb4 [(.int .i64 x6.1), (.int .i64 x6.2.1), (.bool x6.2.2.1), v17, v18], ownO (kF .f32) 40 v17 x6.2.2.2.1, ownO (kF .f32) 40 v18 x6.2.2.2.2, boxO bb3 [v6, v7, v8], ownO (kF .f32) 40 v6 x5.1, ownO (kF .f32) 40 v7 x5.2.1, ownO (kF .f32) 40 v8 x5.2.2.1, boxO bb2 [u1_0, u1_1, u1_2], boxO bb1 [(.int .i64 a0_0), (.int .i64 a0_1), (.bool a0_2), u0_3, u0_4]]) X_16 S_20 MT_16
      have S_21 : Sep [] h0.size hp28 [boxO bb5 [v19, v20, v21], ownO (kF .f32) 40 v19 x7.1, ownO (kF .f32) 40 v20 x7.2.1, ownO (kF .f32) 40 v21 x7.2.2, boxO bb4 [(.int .i64 x6.1), (.int .i64 x6.2.1), (.bool x6.2.2.1), v17, v18], ownO (kF .f32) 40 v17 x6.2.2.2.1, ownO (kF .f32) 40 v18 x6.2.2.2.2, boxO bb3 [v6, v7, v8], ownO (kF .f32) 40 v6 x5.1, ownO (kF .f32) 40 v7 x5.2.1, ownO (kF .f32) 40 v8 x5.2.2.1, boxO bb2 [u1_0, u1_1, u1_2], boxO bb1 [(.int .i64 a0_0), (.int .i64 a0_1), (.bool a0_2), u0_3, u0_4]] := Sep.step (A := [boxO bb5 [(.slice none 0 0), (.slice none 0 0), (.slice none 0 0)]]) (L := [ownO (kF .f32) 40 v19 x7.1, ownO (kF .f32) 40 v20 x7.2.1, ownO (kF .f32) 40 v21 x7.2.2, boxO bb4 [(.int .i64 x6.1), (.int .i64 x6.2.1), (.bool x6.2.2.1), v17, v18], ownO (kF .f32) 40 v17 x6.2.2.2.1, ownO (kF .f32) 40 v18 x6.2.2.2.2, boxO bb3 [v6, v7, v8], ownO (kF .f32) 40 v6 x5.1, ownO (kF .f32) 40 v7 x5.2.1, ownO (kF .f32) 40 v8 x5.2.2.1, boxO bb2 [u1_0, u1_1, u1_2], boxO bb1 [(.int .i64 a0_0), (.int .i64 a0_1), (.bool a0_2), u0_3, u0_4]]) S_20 (Mod.size X_16) MT_16 T_16
      refine RL.nil ?_
      refine thnN ?_
      refine W.seq ?_
      obtain ⟨x8, hx8, hp⟩ := Option.bind_eq_some_iff.1 hp
      refine W.region ?_
      refine RL.opD (by decide) (opv_loadA (us := [(.int .i64 x6.1), (.int .i64 x6.2.1), (.bool x6.2.2.1), v17, v18]) rfl Try.agg29 Try.size29 rfl (Sep.at (o := boxO bb4 [(.int .i64 x6.1), (.int .i64 x6.2.1), (.bool x6.2.2.1), v17, v18]) S_21 4 rfl) rfl rfl) ?_
      refine RL.opD (by decide) (opv_loadA (us := [v19, v20, v21]) rfl Try.agg53 Try.size53 rfl (Sep.at (o := boxO bb5 [v19, v20, v21]) S_21 0 rfl) rfl rfl) ?_
      refine RL.opD (by decide) (opv_move rfl rfl) ?_
      refine RL.op _ (by decide) (opv_call (cap := []) (impl_RampField_ok _ _ _ _ _ _ (ownO.read (Sep.at (o := ownO (kF .f32) 40 v17 x6.2.2.2.1) S_21 5 rfl)) _ _ (ownO.read (Sep.at (o := ownO (kF .f32) 40 v18 x6.2.2.2.2) S_21 6 rfl)) _ _ (ownO.read (Sep.at (o := ownO (kF .f32) 40 v19 x7.1) S_21 1 rfl)) _ _ (ownO.read (Sep.at (o := ownO (kF .f32) 40 v20 x7.2.1) S_21 2 rfl)) _ _ (ownO.read (Sep.at (o := ownO (kF .f32) 40 v21 x7.2.2) S_21 3 rfl)) _ _ hx8) rfl rfl ⟨rfl, rfl, rfl, trivial⟩ Try.func70 rfl rfl) ?_
      rintro _ hp29 ⟨v22, v23, v24, rfl, MT_17, T_17⟩
      have X_18 : Mod [] h0 hp29 := Mod.step (A := []) (L := [boxO bb5 [v19, v20, v21], ownO (kF .f32) 40 v19 x7.1, ownO (kF .f32) 40 v20 x7.2.1, ownO (kF .f32) 40 v21 x7.2.2, boxO bb4 [(.int .i64 x6.1), (.int .i64 x6.2.1), (.bool x6.2.2.1), v17, v18], ownO (kF .f32) 40 v17 x6.2.2.2.1, ownO (kF .f32) 40 v18 x6.2.2.2.2, boxO bb3 [v6, v7, v8], ownO (kF .f32) 40 v6 x5.1, ownO (kF .f32) 40 v7 x5.2.1, ownO (kF .f32) 40 v8 x5.2.2.1, boxO bb2 [u1_0, u1_1, u1_2], boxO bb1 [(.int .i64 a0_0), (.int .i64 a0_1), (.bool a0_2), u0_3, u0_4]]) X_17 S_21 MT_17
      have S_22 : Sep [] h0.size hp29 [ownO (kF .f32) 40 v22 x8.1, ownO (kF .f32) 40 v23 x8.2.1, ownO (kF .f32) 40 v24 x8.2.2.1, boxO bb5 [v19, v20, v21], ownO (kF .f32) 40 v19 x7.1, ownO (kF .f32) 40 v20 x7.2.1, ownO (kF .f32) 40 v21 x7.2.2, boxO bb4 [(.int .i64 x6.1), (.int .i64 x6.2.1), (.bool x6.2.2.1), v17, v18], ownO (kF .f32) 40 v17 x6.2.2.2.1, ownO (kF .f32) 40 v18 x6.2.2.2.2, boxO bb3 [v6, v7, v8], ownO (kF .f32) 40 v6 x5.1, ownO (kF .f32) 40 v7 x5.2.1, ownO (kF .f32) 40 v8 x5.2.2.1, boxO bb2 [u1_0, u1_1, u1_2], boxO bb1 [(.int .i64 a0_0), (.int .i64 a0_1), (.bool a0_2), u0_3, u0_4]] := Sep.step (A := []) (L := [boxO bb5 [v19, v20, v21], ownO (kF .f32) 40 v19 x7.1, ownO (kF .f32) 40 v20 x7.2.1, ownO (kF .f32) 40 v21 x7.2.2, boxO bb4 [(.int .i64 x6.1), (.int .i64 x6.2.1), (.bool x6.2.2.1), v17, v18], ownO (kF .f32) 40 v17 x6.2.2.2.1, ownO (kF .f32) 40 v18 x6.2.2.2.2, boxO bb3 [v6, v7, v8], ownO (kF .f32) 40 v6 x5.1, ownO (kF .f32) 40 v7 x5.2.1, ownO (kF .f32) 40 v8 x5.2.2.1, boxO bb2 [u1_0, u1_1, u1_2], boxO bb1 [(.int .i64 a0_0), (.int .i64 a0_1), (.bool a0_2), u0_3, u0_4]]) S_21 (Mod.size X_17) MT_17 T_17
      refine RL.opD (by decide) (opv_move rfl rfl) ?_
      refine RL.opD (by decide) (opv_extract rfl rfl rfl) ?_
      refine RL.opD (by decide) (opv_extract rfl rfl rfl) ?_
      refine RL.op _ (by decide) (opS_boxed (opv_alloc (cs := [(.slice none 0 0), (.slice none 0 0), (.slice none 0 0)]) rfl Try.zero53 rfl)) ?_
      rintro _ hp30 ⟨bb6, rfl, MT_18, T_18⟩
      have X_19 : Mod [] h0 hp30 := Mod.step (A := []) (L := [ownO (kF .f32) 40 v22 x8.1, ownO (kF .f32) 40 v23 x8.2.1, ownO (kF .f32) 40 v24 x8.2.2.1, boxO bb5 [v19, v20, v21], ownO (kF .f32) 40 v19 x7.1, ownO (kF .f32) 40 v20 x7.2.1, ownO (kF .f32) 40 v21 x7.2.2, boxO bb4 [(.int .i64 x6.1), (.int .i64 x6.2.1), (.bool x6.2.2.1), v17, v18], ownO (kF .f32) 40 v17 x6.2.2.2.1, ownO (kF .f32) 40 v18 x6.2.2.2.2, boxO bb3 [v6, v7, v8], ownO (kF .f32) 40 v6 x5.1, ownO (kF .f32) 40 v7 x5.2.1, ownO (kF .f32) 40 v8 x5.2.2.1, boxO bb2 [u1_0, u1_1, u1_2], boxO bb1 [(.int .i64 a0_0), (.int .i64 a0_1), (.bool a0_2), u0_3, u0_4]]) X_18 S_22 MT_18
      have S_23 : Sep [] h0.size hp30 [boxO bb6 [(.slice none 0 0), (.slice none 0 0), (.slice none 0 0)], ownO (kF .f32) 40 v22 x8.1, ownO (kF .f32) 40 v23 x8.2.1, ownO (kF .f32) 40 v24 x8.2.2.1, boxO bb5 [v19, v20, v21], ownO (kF .f32) 40 v19 x7.1, ownO (kF .f32) 40 v20 x7.2.1, ownO (kF .f32) 40 v21 x7.2.2, boxO bb4 [(.int .i64 x6.1), (.int .i64 x6.2.1), (.bool x6.2.2.1), v17, v18], ownO (kF .f32) 40 v17 x6.2.2.2.1, ownO (kF .f32) 40 v18 x6.2.2.2.2, boxO bb3 [v6, v7, v8], ownO (kF .f32) 40 v6 x5.1, ownO (kF .f32) 40 v7 x5.2.1, ownO (kF .f32) 40 v8 x5.2.2.1, boxO bb2 [u1_0, u1_1, u1_2], boxO bb1 [(.int .i64 a0_0), (.int .i64 a0_1), (.bool a0_2), u0_3, u0_4]] := Sep.step (A := []) (L := [ownO (kF .f32) 40 v22 x8.1, ownO (kF .f32) 40 v23 x8.2.1, ownO (kF .f32) 40 v24 x8.2.2.1, boxO bb5 [v19, v20, v21], ownO (kF .f32) 40 v19 x7.1, ownO (kF .f32) 40 v20 x7.2.1, ownO (kF .f32) 40 v21 x7.2.2, boxO bb4 [(.int .i64 x6.1), (.int .i64 x6.2.1), (.bool x6.2.2.1), v17, v18], ownO (kF .f32) 40 v17 x6.2.2.2.1, ownO (kF .f32) 40 v18 x6.2.2.2.2, boxO bb3 [v6, v7, v8], ownO (kF .f32) 40 v6 x5.1, ownO (kF .f32) 40 v7 x5.2.1, ownO (kF .f32) 40 v8 x5.2.2.1, boxO bb2 [u1_0, u1_1, u1_2], boxO bb1 [(.int .i64 a0_0), (.int .i64 a0_1), (.bool a0_2), u0_3, u0_4]]) S_22 (Mod.size X_18) MT_18 T_18
      refine RL.op0 _ (opS_stored (cs := [(.slice none 0 0), (.slice none 0 0), (.slice none 0 0)]) (cs' := [v22, v23, v24]) (opv_storeA (us := [v22, v23, v24]) rfl Try.size53 rfl rfl (oneAll (ownO.one (Sep.at (o := ownO (kF .f32) 40 v22 x8.1) S_23 1 rfl)) (oneAll (ownO.one (Sep.at (o := ownO (kF .f32) 40 v23 x8.2.1) S_23 2 rfl)) (oneAll (ownO.one (Sep.at (o := ownO (kF .f32) 40 v24 x8.2.2.1) S_23 3 rfl)) rfl))) (Sep.at (o := boxO bb6 [(.slice none 0 0), (.slice none 0 0), (.slice none 0 0)]) S_23 0 rfl) rfl rfl) (Sep.at (o := boxO bb6 [(.slice none 0 0), (.slice none 0 0), (.slice none 0 0)]) S_23 0 rfl)) ?_
      rintro _ hp31 ⟨rfl, MT_19, T_19⟩
      have S_24 : Sep [] h0.size hp30 ([boxO bb6 [(.slice none 0 0), (.slice none 0 0), (.slice none 0 0)]] ++ [ownO (kF .f32) 40 v22 x8.1, ownO (kF .f32) 40 v23 x8.2.1, ownO (kF .f32) 40 v24 x8.2.2.1, boxO bb5 [v19, v20, v21], ownO (kF .f32) 40 v19 x7.1, ownO (kF .f32) 40 v20 x7.2.1, ownO (kF .f32) 40 v21 x7.2.2, boxO bb4 [(.int .i64 x6.1), (.int .i64 x6.2.1), (.bool x6.2.2.1), v17, v18], ownO (kF .f32) 40 v17 x6.2.2.2.1, ownO (kF .f32) 40 v18 x6.2.2.2.2, boxO bb3 [v6, v7, v8], ownO (kF .f32) 40 v6 x5.1, ownO (kF .f32) 40 v7 x5.2.1, ownO (kF .f32) 40 v8 x5.2.2.1, boxO bb2 [u1_0, u1_1, u1_2], boxO bb1 [(.int .i64 a0_0), (.int .i64 a0_1), (.bool a0_2), u0_3, u0_4]]) := Sep.sel S_23 [0, 1, 2, 3, 4, 5, 6, 7, 8, 9, 10, 11, 12, 13, 14, 15, 16] (by decide)
      have X_20 : Mod [] h0 hp31 := Mod.step (A := [boxO bb6 [(.slice none 0 0), (.slice none 0 0), (.slice none 0 0)]]) (L := [ownO (kF .f32) 40 v22 x8.1, ownO (kF .f32) 40 v23 x8.2.1, ownO (kF .f32) 40 v24 x8.2.2.1, boxO bb5 [v19, v20, v21], ownO (kF .f32) 40 v19 x7.1, ownO (kF .f32) 40 v20 x7.2.1, ownO (kF .f32) 40 v21 x7.2.2, boxO bb4 [(.int .i64 x6.1), (.int .i64 x6.2.1), (.bool x6.2.2.1), v17, v18], ownO (kF .f32) 40 v17 x6.2.2.2.1, ownO (kF .f32) 40 v18 x6.2.2.2.2, boxO bb3 [v6, v7, v8], ownO (kF .f32) 40 v6 x5.1, ownO (kF .f32) 40 v7 x5.2.1, ownO (kF .f32) 40 v8 x5.2.2.1, boxO bb2 [u1_0, u1_1, u1_2], boxO bb1 [(.int .i64 a0_0), (.int .i64 a0_1), (.bool a0_2), u0_3, u0_4]]) X_19 S_24 MT_19
      have S_25 : Sep [] h0.size hp31 [boxO bb6 [v22, v23, v24], ownO (kF .f32) 40 v22 x8.1, ownO (kF .f32) 40 v23 x8.2.1, ownO (kF .f32) 40 v24 x8.2.2.1, boxO bb5 [v19, v20, v21], ownO (kF .f32) 40 v19 x7.1, ownO (kF .f32) 40 v20 x7.2.1, ownO (kF .f32) 40 v21 x7.2.2, boxO bb4 [(.int .i64 x6.1), (.int .i64 x6.2.1), (.bool x6.2.2.1), v17, v18], ownO (kF .f32) 40 v17 x6.2.2.2.1, ownO (kF .f32) 40 v18 x6.2.2.2.2, boxO bb3 [v6, v7, v8], ownO (kF .f32) 40 v6 x5.1, ownO (kF .f32) 40 v7 x5.2.1, ownO (kF .f32) 40 v8 x5.2.2.1, boxO bb2 [u1_0, u1_1, u1_2], boxO bb1 [(.int .i64 a0_0), (.int .i64 a0_1), (.bool a0_2), u0_3, u0_4]] := Sep.step (A := [boxO bb6 [(.slice none 0 0), (.slice none 0 0), (.slice none 0 0)]]) (L := [ownO (kF .f32) 40 v22 x8.1, ownO (kF .f32) 40 v23 x8.2.1, ownO (kF .f32) 40 v24 x8.2.2.1, boxO bb5 [v19, v20, v21], ownO (kF .f32) 40 v19 x7.1, ownO (kF .f32) 40 v20 x7.2.1, ownO (kF .f32) 40 v21 x7.2.2, boxO bb4 [(.int .i64 x6.1), (.int .i64 x6.2.1), (.bool x6.2.2.1), v17, v18], ownO (kF .f32) 40 v17 x6.2.2.2.1, ownO (kF .f32) 40 v18 x6.2.2.2.2, boxO bb3 [v6, v7, v8], ownO (kF .f32) 40 v6 x5.1, ownO (kF .f32) 40 v7 x5.2.1, ownO (kF .f32) 40 v8 x5.2.2.1, boxO bb2 [u1_0, u1_1, u1_2], boxO bb1 [(.int .i64 a0_0), (.int .i64 a0_1), (.bool a0_2), u0_3, u0_4]]) S_24 (Mod.size X_19) MT_19 T_19
      refine RL.opD (by decide) (opv_assign rfl rfl) ?_
      refine RL.nil ?_
      refine thnN ?_
      refine W.seq ?_
      refine W.seq ?_
      obtain ⟨x9, hy1, hp⟩ := Option.bind_eq_some_iff.1 hp
      refine W.cut (fun φ' h' => Fr.sub [(0, (.agg (List.toArray (α := Value) [(.int .i64 a0_0), (.int .i64 a0_1), (.bool a0_2), u0_3, u0_4]))), (1, (.agg (List.toArray (α := Value) [u1_0, u1_1, u1_2]))), (2, (.int .i64 a2)), (3, (.pointer (some ⟨bb1, 0, none⟩))), (4, (.pointer (some ⟨bb2, 0, none⟩))), (6, (.bool false)), (7, (.int .i64 x2)), (23, (.bool (decide (x1 < 0)))), (28, (.bool (decide (x2 < 0)))), (8, (.pointer (some ⟨bb3, 0, none⟩))), (9, (.bool x5.2.2.2)), (10, (.pointer (some ⟨bb4, 0, none⟩))), (11, (.pointer (some ⟨bb5, 0, none⟩))), (12, (.pointer (some ⟨bb6, 0, none⟩))), (13, (.bool x8.2.2.2)), (57, (.bool x9))] φ' ∧ Mod [] h0 h' ∧ Sep [] h0.size h' [boxO bb6 [v22, v23, v24], ownO (kF .f32) 40 v22 x8.1, ownO (kF .f32) 40 v23 x8.2.1, ownO (kF .f32) 40 v24 x8.2.2.1, boxO bb5 [v19, v20, v21], ownO (kF .f32) 40 v19 x7.1, ownO (kF .f32) 40 v20 x7.2.1, ownO (kF .f32) 40 v21 x7.2.2, boxO bb4 [(.int .i64 x6.1), (.int .i64 x6.2.1), (.bool x6.2.2.1), v17, v18], ownO (kF .f32) 40 v17 x6.2.2.2.1, ownO (kF .f32) 40 v18 x6.2.2.2.2, boxO bb3 [v6, v7, v8], ownO (kF .f32) 40 v6 x5.1, ownO (kF .f32) 40 v7 x5.2.1, ownO (kF .f32) 40 v8 x5.2.2.1, boxO bb2 [u1_0, u1_1, u1_2], boxO bb1 [(.int .i64 a0_0), (.int .i64 a0_1), (.bool a0_2), u0_3, u0_4]]) ?_ ?_
      · obtain ⟨x10, hx10, hy1⟩ := Option.bind_eq_some_iff.1 hy1
        by_cases c3 : (!x10) = true
        · rw [if_pos c3] at hy1
          refine W.region ?_
          refine RL.opD (by decide) (opv_loadA (us := [v22, v23, v24]) rfl Try.agg53 Try.size53 rfl (Sep.at (o := boxO bb6 [v22, v23, v24]) S_25 0 rfl) rfl rfl) ?_
          refine RL.opD (by decide) (opv_loadA (us := [v6, v7, v8]) rfl Try.agg53 Try.size53 rfl (Sep.at (o := boxO bb3 [v6, v7, v8]) S_25 11 rfl) rfl rfl) ?_
          refine RL.op _ (by decide) (opv_call (cap := []) (laws_eqField_ok _ _ _ (ownO.read (Sep.at (o := ownO (kF .f32) 40 v22 x8.1) S_25 1 rfl)) _ _ (ownO.read (Sep.at (o := ownO (kF .f32) 40 v23 x8.2.1) S_25 2 rfl)) _ _ (ownO.read (Sep.at (o := ownO (kF .f32) 40 v24 x8.2.2.1) S_25 3 rfl)) _ _ (ownO.read (Sep.at (o := ownO (kF .f32) 40 v6 x5.1) S_25 12 rfl)) _ _ (ownO.read (Sep.at (o := ownO (kF .f32) 40 v7 x5.2.1) S_25 13 rfl)) _ _ (ownO.read (Sep.at (o := ownO (kF .f32) 40 v8 x5.2.2.1) S_25 14 rfl)) _ hx10) rfl rfl ⟨rfl, rfl, trivial⟩ Try.func38 rfl rfl) ?_
          rintro _ hp32 ⟨rfl, MT_20, T_20⟩
          have X_21 : Mod [] h0 hp32 := Mod.step (A := []) (L := [boxO bb6 [v22, v23, v24], ownO (kF .f32) 40 v22 x8.1, ownO (kF .f32) 40 v23 x8.2.1, ownO (kF .f32) 40 v24 x8.2.2.1, boxO bb5 [v19, v20, v21], ownO (kF .f32) 40 v19 x7.1, ownO (kF .f32) 40 v20 x7.2.1, ownO (kF .f32) 40 v21 x7.2.2, boxO bb4 [(.int .i64 x6.1), (.int .i64 x6.2.1), (.bool x6.2.2.1), v17, v18], ownO (kF .f32) 40 v17 x6.2.2.2.1, ownO (kF .f32) 40 v18 x6.2.2.2.2, boxO bb3 [v6, v7, v8], ownO (kF .f32) 40 v6 x5.1, ownO (kF .f32) 40 v7 x5.2.1, ownO (kF .f32) 40 v8 x5.2.2.1, boxO bb2 [u1_0, u1_1, u1_2], boxO bb1 [(.int .i64 a0_0), (.int .i64 a0_1), (.bool a0_2), u0_3, u0_4]]) X_20 S_25 MT_20
          have S_26 : Sep [] h0.size hp32 [boxO bb6 [v22, v23, v24], ownO (kF .f32) 40 v22 x8.1, ownO (kF .f32) 40 v23 x8.2.1, ownO (kF .f32) 40 v24 x8.2.2.1, boxO bb5 [v19, v20, v21], ownO (kF .f32) 40 v19 x7.1, ownO (kF .f32) 40 v20 x7.2.1, ownO (kF .f32) 40 v21 x7.2.2, boxO bb4 [(.int .i64 x6.1), (.int .i64 x6.2.1), (.bool x6.2.2.1), v17, v18], ownO (kF .f32) 40 v17 x6.2.2.2.1, ownO (kF .f32) 40 v18 x6.2.2.2.2, boxO bb3 [v6, v7, v8], ownO (kF .f32) 40 v6 x5.1, ownO (kF .f32) 40 v7 x5.2.1, ownO (kF .f32) 40 v8 x5.2.2.1, boxO bb2 [u1_0, u1_1, u1_2], boxO bb1 [(.int .i64 a0_0), (.int .i64 a0_1), (.bool a0_2), u0_3, u0_4]] := Sep.step (A := []) (L := [boxO bb6 [v22, v23, v24], ownO (kF .f32) 40 v22 x8.1, ownO (kF .f32) 40 v23 x8.2.1, ownO (kF .f32) 40 v24 x8.2.2.1, boxO bb5 [v19, v20, v21], ownO (kF .f32) 40 v19 x7.1, ownO (kF .f32) 40 v20 x7.2.1, ownO (kF .f32) 40 v21 x7.2.2, boxO bb4 [(.int .i64 x6.1), (.int .i64 x6.2.1), (.bool x6.2.2.1), v17, v18], ownO (kF .f32) 40 v17 x6.2.2.2.1, ownO (kF .f32) 40 v18 x6.2.2.2.2, boxO bb3 [v6, v7, v8], ownO (kF .f32) 40 v6 x5.1, ownO (kF .f32) 40 v7 x5.2.1, ownO (kF .f32) 40 v8 x5.2.2.1, boxO bb2 [u1_0, u1_1, u1_2], boxO bb1 [(.int .i64 a0_0), (.int .i64 a0_1), (.bool a0_2), u0_3, u0_4]]) S_25 (Mod.size X_20) MT_20 T_20
          refine RL.opD (by decide) (opv_not rfl rfl) ?_
          refine RL.opD (by decide) (opv_move rfl rfl) ?_
          refine RL.no rfl rfl (Eq.trans c3 (by decide)) (by decide) ?_
          refine RL.no rfl rfl (Eq.trans c3 (by decide)) (by decide) ?_
          refine RL.no rfl rfl (Eq.trans c3 (by decide)) (by decide) ?_
          refine RL.opD (by decide) (opv_pick rfl rfl (fun _ => rfl) (fun e => absurd (Eq.trans (Eq.symm e) c3) (by decide)) rfl) ?_
          refine RL.nil ?_
          have ey1 := Option.some.inj hy1
          subst ey1
          refine onlyN ?_
          exact ⟨⟨rfl, rfl, rfl, rfl, rfl, rfl, rfl, rfl, rfl, rfl, rfl, rfl, rfl, rfl, rfl, rfl, trivial⟩, X_21, (Sep.sel S_26 [0, 1, 2, 3, 4, 5, 6, 7, 8, 9, 10, 11, 12, 13, 14, 15, 16] (by decide))⟩
        · rw [if_neg c3] at hy1
          have c3 := eq_false_of_ne_true c3
          refine W.region ?_
          refine RL.opD (by decide) (opv_loadA (us := [v22, v23, v24]) rfl Try.agg53 Try.size53 rfl (Sep.at (o := boxO bb6 [v22, v23, v24]) S_25 0 rfl) rfl rfl) ?_
          refine RL.opD (by decide) (opv_loadA (us := [v6, v7, v8]) rfl Try.agg53 Try.size53 rfl (Sep.at (o := boxO bb3 [v6, v7, v8]) S_25 11 rfl) rfl rfl) ?_
          refine RL.op _ (by decide) (opv_call (cap := []) (laws_eqField_ok _ _ _ (ownO.read (Sep.at (o := ownO (kF .f32) 40 v22 x8.1) S_25 1 rfl)) _ _ (ownO.read (Sep.at (o := ownO (kF .f32) 40 v23 x8.2.1) S_25 2 rfl)) _ _ (ownO.read (Sep.at (o := ownO (kF .f32) 40 v24 x8.2.2.1) S_25 3 rfl)) _ _ (ownO.read (Sep.at (o := ownO (kF .f32) 40 v6 x5.1) S_25 12 rfl)) _ _ (ownO.read (Sep.at (o := ownO (kF .f32) 40 v7 x5.2.1) S_25 13 rfl)) _ _ (ownO.read (Sep.at (o := ownO (kF .f32) 40 v8 x5.2.2.1) S_25 14 rfl)) _ hx10) rfl rfl ⟨rfl, rfl, trivial⟩ Try.func38 rfl rfl) ?_
          rintro _ hp32 ⟨rfl, MT_20, T_20⟩
          have X_21 : Mod [] h0 hp32 := Mod.step (A := []) (L := [boxO bb6 [v22, v23, v24], ownO (kF .f32) 40 v22 x8.1, ownO (kF .f32) 40 v23 x8.2.1, ownO (kF .f32) 40 v24 x8.2.2.1, boxO bb5 [v19, v20, v21], ownO (kF .f32) 40 v19 x7.1, ownO (kF .f32) 40 v20 x7.2.1, ownO (kF .f32) 40 v21 x7.2.2, boxO bb4 [(.int .i64 x6.1), (.int .i64 x6.2.1), (.bool x6.2.2.1), v17, v18], ownO (kF .f32) 40 v17 x6.2.2.2.1, ownO (kF .f32) 40 v18 x6.2.2.2.2, boxO bb3 [v6, v7, v8], ownO (kF .f32) 40 v6 x5.1, ownO (kF .f32) 40 v7 x5.2.1, ownO (kF .f32) 40 v8 x5.2.2.1, boxO bb2 [u1_0, u1_1, u1_2], boxO bb1 [(.int .i64 a0_0), (.int .i64 a0_1), (.bool a0_2), u0_3, u0_4]]) X_20 S_25 MT_20
          have S_26 : Sep [] h0.size hp32 [boxO bb6 [v22, v23, v24], ownO (kF .f32) 40 v22 x8.1, ownO (kF .f32) 40 v23 x8.2.1, ownO (kF .f32) 40 v24 x8.2.2.1, boxO bb5 [v19, v20, v21], ownO (kF .f32) 40 v19 x7.1, ownO (kF .f32) 40 v20 x7.2.1, ownO (kF .f32) 40 v21 x7.2.2, boxO bb4 [(.int .i64 x6.1), (.int .i64 x6.2.1), (.bool x6.2.2.1), v17, v18], ownO (kF .f32) 40 v17 x6.2.2.2.1, ownO (kF .f32) 40 v18 x6.2.2.2.2, boxO bb3 [v6, v7, v8], ownO (kF .f32) 40 v6 x5.1, ownO (kF .f32) 40 v7 x5.2.1, ownO (kF .f32) 40 v8 x5.2.2.1, boxO bb2 [u1_0, u1_1, u1_2], boxO bb1 [(.int .i64 a0_0), (.int .i64 a0_1), (.bool a0_2), u0_3, u0_4]] := Sep.step (A := []) (L := [boxO bb6 [v22, v23, v24], ownO (kF .f32) 40 v22 x8.1, ownO (kF .f32) 40 v23 x8.2.1, ownO (kF .f32) 40 v24 x8.2.2.1, boxO bb5 [v19, v20, v21], ownO (kF .f32) 40 v19 x7.1, ownO (kF .f32) 40 v20 x7.2.1, ownO (kF .f32) 40 v21 x7.2.2, boxO bb4 [(.int .i64 x6.1), (.int .i64 x6.2.1), (.bool x6.2.2.1), v17, v18], ownO (kF .f32) 40 v17 x6.2.2.2.1, ownO (kF .f32) 40 v18 x6.2.2.2.2, boxO bb3 [v6, v7, v8], ownO (kF .f32) 40 v6 x5.1, ownO (kF .f32) 40 v7 x5.2.1, ownO (kF .f32) 40 v8 x5.2.2.1, boxO bb2 [u1_0, u1_1, u1_2], boxO bb1 [(.int .i64 a0_0), (.int .i64 a0_1), (.bool a0_2), u0_3, u0_4]]) S_25 (Mod.size X_20) MT_20 T_20
          refine RL.opD (by decide) (opv_not rfl rfl) ?_
          refine RL.opD (by decide) (opv_move rfl rfl) ?_
          refine RL.yes _ rfl rfl c3 (by decide) (opv_move rfl rfl) ?_
          rintro _ _ ⟨rfl, rfl⟩
          refine RL.yes _ rfl rfl c3 (by decide) (opv_move rfl rfl) ?_
          rintro _ _ ⟨rfl, rfl⟩
          refine RL.yes _ rfl rfl c3 (by decide) (opv_bcmp rfl rfl Try.underlying4 rfl rfl) ?_
          rintro _ _ ⟨rfl, rfl⟩
          refine RL.opD (by decide) (opv_pick rfl rfl (fun e => absurd (Eq.trans (Eq.symm e) c3) (by decide)) (fun _ => rfl) rfl) ?_
          refine RL.nil ?_
          have ey1 := Option.some.inj hy1
          subst ey1
          refine onlyN ?_
          exact ⟨⟨rfl, rfl, rfl, rfl, rfl, rfl, rfl, rfl, rfl, rfl, rfl, rfl, rfl, rfl, rfl, rfl, trivial⟩, X_21, (Sep.sel S_26 [0, 1, 2, 3, 4, 5, 6, 7, 8, 9, 10, 11, 12, 13, 14, 15, 16] (by decide))⟩
      rintro φ' hp33 ⟨hs1, X_22, S_27⟩
      refine thnN ?_
      refine W.sub hs1 ?_
      by_cases c4 : x9 = true
      · rw [if_pos c4] at hp
        refine W.condT rfl c4 ?_
        refine W.seq ?_
        refine W.region ?_
        refine RL.opD (by decide) (opv_assign rfl rfl) ?_
        refine RL.nil ?_
        refine thnN ?_
        refine W.ret ?_
        refine thnR ?_
        have er := Option.some.inj hp
        subst er
        exact Rt.one rfl rfl ⟨rfl, X_22, (Sep.nil _ _ _)⟩
      · rw [if_neg c4] at hp
        have c4 := eq_false_of_ne_true c4
        refine W.condF rfl c4 ?_
        refine W.skip ?_
        refine thnN ?_
        refine W.seq ?_
        refine W.seq ?_
        obtain ⟨x11, hx11, hp⟩ := Option.bind_eq_some_iff.1 hp
        obtain ⟨x12, hx12, hp⟩ := Option.bind_eq_some_iff.1 hp
        refine W.sub (ψ := [(0, (.agg (List.toArray (α := Value) [(.int .i64 a0_0), (.int .i64 a0_1), (.bool a0_2), u0_3, u0_4]))), (1, (.agg (List.toArray (α := Value) [u1_0, u1_1, u1_2]))), (2, (.int .i64 a2)), (3, (.pointer (some ⟨bb1, 0, none⟩))), (4, (.pointer (some ⟨bb2, 0, none⟩))), (6, (.bool false)), (7, (.int .i64 x2)), (23, (.bool (decide (x1 < 0)))), (28, (.bool (decide (x2 < 0)))), (8, (.pointer (some ⟨bb3, 0, none⟩))), (9, (.bool x5.2.2.2)), (10, (.pointer (some ⟨bb4, 0, none⟩))), (11, (.pointer (some ⟨bb5, 0, none⟩))), (12, (.pointer (some ⟨bb6, 0, none⟩))), (13, (.bool x8.2.2.2)), (57, (.bool x9))]) ⟨rfl, rfl, rfl, rfl, rfl, rfl, rfl, rfl, rfl, rfl, rfl, rfl, rfl, rfl, rfl, rfl, trivial⟩ ?_
        refine W.regionM [fun v _ => @Eq Value (.agg (List.toArray (α := Value) [(.int .i64 x6.1), (.int .i64 x6.2.1), (.bool x6.2.2.1), v17, v18])) v, fun v _ => @Eq Value (.agg (List.toArray (α := Value) [(.int .i64 a0_0), (.int .i64 a0_1), (.bool a0_2), u0_3, u0_4])) v, fun v h => ∃ v25, ∃ v26, @Eq Value v (.agg (List.toArray (α := Value) [(.int .i64 x11.1), (.int .i64 x11.2.1), (.bool x11.2.2.1), v25, v26])) ∧ Sep [] hp33.size h [ownO (kF .f32) 40 v25 x11.2.2.2.1, ownO (kF .f32) 40 v26 x11.2.2.2.2], fun v h => @Eq Value v (.bool x12) ∧ Sep [] hp33.size h [], fun v _ => @Eq Value (.bool (!x12)) v] [none, none, some (fun u => [Value.ownBlock (vget u 3), Value.ownBlock (vget u 4)]), some (fun u => []), none] [] [[], [], [1], [0, 2], [3]] [4] Try.mixed (by decide +kernel) (by decide +kernel) rfl rfl rfl (by decide +kernel) rfl ⟨fun _ _ _ h _ => h, fun _ _ _ h _ => h, fun _ _ _ ⟨u0_, u1_, e, h⟩ x => ⟨u0_, u1_, e, h.ext x⟩, fun _ _ _ ⟨e, h⟩ x => ⟨e, h.ext x⟩, fun _ _ _ h _ => h, trivial⟩ ?_ ?_
        · refine ⟨⟨rfl, ?_⟩, ⟨rfl, ?_⟩, ⟨rfl, ?_⟩, ⟨rfl, ?_⟩, ⟨rfl, ?_⟩, trivial⟩
          · rintro hp36 E_13
            refine Dep.nil ?_
            refine GuardOK.none rfl ?_
            exact OpV.toDx (opv_loadA (us := [(.int .i64 x6.1), (.int .i64 x6.2.1), (.bool x6.2.2.1), v17, v18]) rfl Try.agg29 Try.size29 rfl (Sep.at (o := boxO bb4 [(.int .i64 x6.1), (.int .i64 x6.2.1), (.bool x6.2.2.1), v17, v18]) (Sep.ext S_27 E_13) 8 rfl) rfl rfl) rfl
          · rintro hp37 E_14
            refine Dep.nil ?_
            refine GuardOK.none rfl ?_
            exact OpV.toDx (opv_loadA (us := [(.int .i64 a0_0), (.int .i64 a0_1), (.bool a0_2), u0_3, u0_4]) rfl Try.agg24 Try.size24 rfl (Sep.at (o := boxO bb1 [(.int .i64 a0_0), (.int .i64 a0_1), (.bool a0_2), u0_3, u0_4]) (Sep.ext S_27 E_14) 16 rfl) rfl rfl) rfl
          · rintro hp38 E_15 _ rfl
            refine Dep.nil ?_
            refine GuardOK.none rfl ?_
            exact OpV.mono (opv_call (cap := []) (laws_toSheet_ok _ _ _ _ _ _ (SL.up (SL.mod g0_3 (Mod.lift X_22 E_15) (Nat.le_refl _) nob) (Nat.le_trans (Nat.le_refl _) (Mod.size (Mod.lift X_22 E_15)))) _ _ (SL.up (SL.mod g0_4 (Mod.lift X_22 E_15) (Nat.le_refl _) nob) (Nat.le_trans (Nat.le_refl _) (Mod.size (Mod.lift X_22 E_15)))) _ hx11) rfl rfl ⟨rfl, trivial⟩ Try.func20 rfl rfl) (by rintro _ _ ⟨v25, v26, rfl, M_, T_⟩; exact ⟨Mod.ext M_, ⟨v25, v26, rfl, Sep.weak T_ (Ext.size E_15)⟩, Sep.fresh T_⟩)
          · rintro hp39 E_16 _ rfl _ ⟨v25, v26, rfl, T_21⟩
            refine Dep.nil ?_
            refine GuardOK.none rfl ?_
            exact OpV.mono (opv_call (cap := []) (laws_eqSheet_ok _ _ _ _ _ _ (ownO.read (Sep.at (o := ownO (kF .f32) 40 v17 x6.2.2.2.1) (Sep.ext S_27 E_16) 9 rfl)) _ _ (ownO.read (Sep.at (o := ownO (kF .f32) 40 v18 x6.2.2.2.2) (Sep.ext S_27 E_16) 10 rfl)) _ _ _ _ _ (ownO.read (Sep.at (o := ownO (kF .f32) 40 v25 x11.2.2.2.1) T_21 0 rfl)) _ _ (ownO.read (Sep.at (o := ownO (kF .f32) 40 v26 x11.2.2.2.2) T_21 1 rfl)) _ hx12) rfl rfl ⟨rfl, rfl, trivial⟩ Try.func23 rfl rfl) (by rintro _ _ ⟨rfl, M_, T_⟩; exact ⟨Mod.ext M_, ⟨rfl, Sep.weak T_ (Ext.size E_16)⟩, Sep.fresh T_⟩)
          · rintro hp40 E_17 _ ⟨rfl, T_22⟩
            refine Dep.nil ?_
            refine GuardOK.none rfl ?_
            exact OpV.toDx (opv_not rfl rfl) rfl
        rintro hp41 E_18 _ rfl
        refine DepM.nil ?_
        intro _ LK_
        have X_25 : Mod [] h0 hp41 := Mod.lift X_22 E_18
        have S_30 : Sep [] h0.size hp41 [boxO bb6 [v22, v23, v24], ownO (kF .f32) 40 v22 x8.1, ownO (kF .f32) 40 v23 x8.2.1, ownO (kF .f32) 40 v24 x8.2.2.1, boxO bb5 [v19, v20, v21], ownO (kF .f32) 40 v19 x7.1, ownO (kF .f32) 40 v20 x7.2.1, ownO (kF .f32) 40 v21 x7.2.2, boxO bb4 [(.int .i64 x6.1), (.int .i64 x6.2.1), (.bool x6.2.2.1), v17, v18], ownO (kF .f32) 40 v17 x6.2.2.2.1, ownO (kF .f32) 40 v18 x6.2.2.2.2, boxO bb3 [v6, v7, v8], ownO (kF .f32) 40 v6 x5.1, ownO (kF .f32) 40 v7 x5.2.1, ownO (kF .f32) 40 v8 x5.2.2.1, boxO bb2 [u1_0, u1_1, u1_2], boxO bb1 [(.int .i64 a0_0), (.int .i64 a0_1), (.bool a0_2), u0_3, u0_4]] := Sep.ext S_27 E_18
        show RL _ _ _ _ [] _ _
        refine RL.nil ?_
        refine thnN ?_
        by_cases c5 : (!x12) = true
        · rw [if_pos c5] at hp
          refine W.condT rfl c5 ?_
          refine W.seq ?_
          refine W.region ?_
          refine RL.opD (by decide) (opv_assign rfl rfl) ?_
          refine RL.nil ?_
          refine thnN ?_
          refine W.ret ?_
          refine thnR ?_
          have er := Option.some.inj hp
          subst er
          exact Rt.one rfl rfl ⟨rfl, X_25, (Sep.nil _ _ _)⟩
        · rw [if_neg c5] at hp
          have c5 := eq_false_of_ne_true c5
          refine W.condF rfl c5 ?_
          refine W.skip ?_
          refine thnN ?_
          refine W.seq ?_
          refine W.seq ?_
          obtain ⟨x13, hx13, hp⟩ := Option.bind_eq_some_iff.1 hp
          obtain ⟨x14, hx14, hp⟩ := Option.bind_eq_some_iff.1 hp
          refine W.sub (ψ := [(0, (.agg (List.toArray (α := Value) [(.int .i64 a0_0), (.int .i64 a0_1), (.bool a0_2), u0_3, u0_4]))), (1, (.agg (List.toArray (α := Value) [u1_0, u1_1, u1_2]))), (2, (.int .i64 a2)), (3, (.pointer (some ⟨bb1, 0, none⟩))), (4, (.pointer (some ⟨bb2, 0, none⟩))), (6, (.bool false)), (7, (.int .i64 x2)), (23, (.bool (decide (x1 < 0)))), (28, (.bool (decide (x2 < 0)))), (8, (.pointer (some ⟨bb3, 0, none⟩))), (9, (.bool x5.2.2.2)), (10, (.pointer (some ⟨bb4, 0, none⟩))), (11, (.pointer (some ⟨bb5, 0, none⟩))), (12, (.pointer (some ⟨bb6, 0, none⟩))), (13, (.bool x8.2.2.2)), (57, (.bool x9)), (62, (.bool (!x12)))]) ⟨rfl, rfl, rfl, rfl, rfl, rfl, rfl, rfl, rfl, rfl, rfl, rfl, rfl, rfl, rfl, rfl, rfl, trivial⟩ ?_
          refine W.regionM [fun v _ => @Eq Value (.agg (List.toArray (α := Value) [v19, v20, v21])) v, fun v _ => @Eq Value (.agg (List.toArray (α := Value) [u1_0, u1_1, u1_2])) v, fun v h => ∃ v29, ∃ v30, ∃ v31, @Eq Value v (.agg (List.toArray (α := Value) [v29, v30, v31])) ∧ Sep [] hp41.size h [ownO (kF .f32) 40 v29 x13.1, ownO (kF .f32) 40 v30 x13.2.1, ownO (kF .f32) 40 v31 x13.2.2], fun v h => @Eq Value v (.bool x14) ∧ Sep [] hp41.size h [], fun v _ => @Eq Value (.bool (!x14)) v] [none, none, some (fun u => [Value.ownBlock (vget u 0), Value.ownBlock (vget u 1), Value.ownBlock (vget u 2)]), some (fun u => []), none] [] [[], [], [1], [0, 2], [3]] [4] Try.mixed (by decide +kernel) (by decide +kernel) rfl rfl rfl (by decide +kernel) rfl ⟨fun _ _ _ h _ => h, fun _ _ _ h _ => h, fun _ _ _ ⟨u0_, u1_, u2_, e, h⟩ x => ⟨u0_, u1_, u2_, e, h.ext x⟩, fun _ _ _ ⟨e, h⟩ x => ⟨e, h.ext x⟩, fun _ _ _ h _ => h, trivial⟩ ?_ ?_
          · refine ⟨⟨rfl, ?_⟩, ⟨rfl, ?_⟩, ⟨rfl, ?_⟩, ⟨rfl, ?_⟩, ⟨rfl, ?_⟩, trivial⟩
            · rintro hp44 E_19
              refine Dep.nil ?_
              refine GuardOK.none rfl ?_
              exact OpV.toDx (opv_loadA (us := [v19, v20, v21]) rfl Try.agg53 Try.size53 rfl (Sep.at (o := boxO bb5 [v19, v20, v21]) (Sep.ext S_30 E_19) 4 rfl) rfl rfl) rfl
            · rintro hp45 E_20
              refine Dep.nil ?_
              refine GuardOK.none rfl ?_
              exact OpV.toDx (opv_loadA (us := [u1_0, u1_1, u1_2]) rfl Try.agg49 Try.size49 rfl (Sep.at (o := boxO bb2 [u1_0, u1_1, u1_2]) (Sep.ext S_30 E_20) 15 rfl) rfl rfl) rfl
            · rintro hp46 E_21 _ rfl
              refine Dep.nil ?_
              refine GuardOK.none rfl ?_
              exact OpV.mono (opv_call (cap := []) (laws_toField_ok _ _ _ (SL.up (SL.mod g1_0 (Mod.lift X_25 E_21) (Nat.le_refl _) nob) (Nat.le_trans (Nat.le_refl _) (Mod.size (Mod.lift X_25 E_21)))) _ _ (SL.up (SL.mod g1_1 (Mod.lift X_25 E_21) (Nat.le_refl _) nob) (Nat.le_trans (Nat.le_refl _) (Mod.size (Mod.lift X_25 E_21)))) _ _ (SL.up (SL.mod g1_2 (Mod.lift X_25 E_21) (Nat.le_refl _) nob) (Nat.le_trans (Nat.le_refl _) (Mod.size (Mod.lift X_25 E_21)))) _ hx13) rfl rfl ⟨rfl, trivial⟩ Try.func35 rfl rfl) (by rintro _ _ ⟨v29, v30, v31, rfl, M_, T_⟩; exact ⟨Mod.ext M_, ⟨v29, v30, v31, rfl, Sep.weak T_ (Ext.size E_21)⟩, Sep.fresh T_⟩)
            · rintro hp47 E_22 _ rfl _ ⟨v29, v30, v31, rfl, T_23⟩
              refine Dep.nil ?_
              refine GuardOK.none rfl ?_
              exact OpV.mono (opv_call (cap := []) (laws_eqField_ok _ _ _ (ownO.read (Sep.at (o := ownO (kF .f32) 40 v19 x7.1) (Sep.ext S_30 E_22) 5 rfl)) _ _ (ownO.read (Sep.at (o := ownO (kF .f32) 40 v20 x7.2.1) (Sep.ext S_30 E_22) 6 rfl)) _ _ (ownO.read (Sep.at (o := ownO (kF .f32) 40 v21 x7.2.2) (Sep.ext S_30 E_22) 7 rfl)) _ _ (ownO.read (Sep.at (o := ownO (kF .f32) 40 v29 x13.1) T_23 0 rfl)) _ _ (ownO.read (Sep.at (o := ownO (kF .f32) 40 v30 x13.2.1) T_23 1 rfl)) _ _ (ownO.read (Sep.at (o := ownO (kF .f32) 40 v31 x13.2.2) T_23 2 rfl)) _ hx14) rfl rfl ⟨rfl, rfl, trivial⟩ Try.func38 rfl rfl) (by rintro _ _ ⟨rfl, M_, T_⟩; exact ⟨Mod.ext M_, ⟨rfl, Sep.weak T_ (Ext.size E_22)⟩, Sep.fresh T_⟩)
            · rintro hp48 E_23 _ ⟨rfl, T_24⟩
              refine Dep.nil ?_
              refine GuardOK.none rfl ?_
              exact OpV.toDx (opv_not rfl rfl) rfl
          rintro hp49 E_24 _ rfl
          refine DepM.nil ?_
          intro _ LK_
          have X_28 : Mod [] h0 hp49 := Mod.lift X_25 E_24
          have S_33 : Sep [] h0.size hp49 [boxO bb6 [v22, v23, v24], ownO (kF .f32) 40 v22 x8.1, ownO (kF .f32) 40 v23 x8.2.1, ownO (kF .f32) 40 v24 x8.2.2.1, boxO bb5 [v19, v20, v21], ownO (kF .f32) 40 v19 x7.1, ownO (kF .f32) 40 v20 x7.2.1, ownO (kF .f32) 40 v21 x7.2.2, boxO bb4 [(.int .i64 x6.1), (.int .i64 x6.2.1), (.bool x6.2.2.1), v17, v18], ownO (kF .f32) 40 v17 x6.2.2.2.1, ownO (kF .f32) 40 v18 x6.2.2.2.2, boxO bb3 [v6, v7, v8], ownO (kF .f32) 40 v6 x5.1, ownO (kF .f32) 40 v7 x5.2.1, ownO (kF .f32) 40 v8 x5.2.2.1, boxO bb2 [u1_0, u1_1, u1_2], boxO bb1 [(.int .i64 a0_0), (.int .i64 a0_1), (.bool a0_2), u0_3, u0_4]] := Sep.ext S_30 E_24
          show RL _ _ _ _ [] _ _
          refine RL.nil ?_
          refine thnN ?_
          by_cases c6 : (!x14) = true
          · rw [if_pos c6] at hp
            refine W.condT rfl c6 ?_
            refine W.seq ?_
            refine W.region ?_
            refine RL.opD (by decide) (opv_assign rfl rfl) ?_
            refine RL.nil ?_
            refine thnN ?_
            refine W.ret ?_
            refine thnR ?_
            have er := Option.some.inj hp
            subst er
            exact Rt.one rfl rfl ⟨rfl, X_28, (Sep.nil _ _ _)⟩
          · rw [if_neg c6] at hp
            have c6 := eq_false_of_ne_true c6
            refine W.condF rfl c6 ?_
            refine W.skip ?_
            refine thnN ?_
            refine W.seq ?_
            refine W.region ?_
            refine RL.opD (by decide) (opv_assign rfl rfl) ?_
            refine RL.nil ?_
            refine thnN ?_
            refine W.seq ?_
            obtain ⟨x15, hx15, hp⟩ := Option.bind_eq_some_iff.1 hp
            refine W.region ?_
            refine RL.opD (by decide) (opv_loadA (us := [(.int .i64 x6.1), (.int .i64 x6.2.1), (.bool x6.2.2.1), v17, v18]) rfl Try.agg29 Try.size29 rfl (Sep.at (o := boxO bb4 [(.int .i64 x6.1), (.int .i64 x6.2.1), (.bool x6.2.2.1), v17, v18]) S_33 8 rfl) rfl rfl) ?_
            refine RL.opD (by decide) (opv_move rfl rfl) ?_
            have S_35 : Sep [] h0.size hp49 [ownO (kF .f32) 40 v17 x6.2.2.2.1, ownO (kF .f32) 40 v18 x6.2.2.2.2] := Sep.sel S_33 [9, 10] (by decide)
            have S_34 : Sep [v17.ownBlock, v18.ownBlock] hp49.size hp49 [ownO (kF .f32) 40 v17 x6.2.2.2.1, ownO (kF .f32) 40 v18 x6.2.2.2.2] := Sep.own S_35 _
            refine RL.op _ (by decide) (opv_call (cap := []) (laws_markSheet_ok _ h0.size (Nat.le_trans (Nat.le_refl _) (Mod.size X_28)) _ _ _ _ _ _ _ _ S_34 (Sep.ge (L := [ownO (kF .f32) 40 v17 x6.2.2.2.1, ownO (kF .f32) 40 v18 x6.2.2.2.2]) S_35 (Nat.le_refl _) nob) _ hx15) rfl rfl ⟨rfl, rfl, trivial⟩ Try.func44 rfl rfl) ?_
            rintro _ hp50 ⟨rfl, MT_25, T_25⟩
            have S_36 : Sep [] h0.size hp49 ([ownO (kF .f32) 40 v17 x6.2.2.2.1, ownO (kF .f32) 40 v18 x6.2.2.2.2] ++ [boxO bb6 [v22, v23, v24], ownO (kF .f32) 40 v22 x8.1, ownO (kF .f32) 40 v23 x8.2.1, ownO (kF .f32) 40 v24 x8.2.2.1, boxO bb5 [v19, v20, v21], ownO (kF .f32) 40 v19 x7.1, ownO (kF .f32) 40 v20 x7.2.1, ownO (kF .f32) 40 v21 x7.2.2, boxO bb4 [(.int .i64 x6.1), (.int .i64 x6.2.1), (.bool x6.2.2.1), v17, v18], boxO bb3 [v6, v7, v8], ownO (kF .f32) 40 v6 x5.1, ownO (kF .f32) 40 v7 x5.2.1, ownO (kF .f32) 40 v8 x5.2.2.1, boxO bb2 [u1_0, u1_1, u1_2], boxO bb1 [(.int .i64 a0_0), (.int .i64 a0_1), (.bool a0_2), u0_3, u0_4]]) := Sep.sel S_33 [9, 10, 0, 1, 2, 3, 4, 5, 6, 7, 8, 11, 12, 13, 14, 15, 16] (by decide)
            have X_29 : Mod [] h0 hp50 := Mod.step (A := [ownO (kF .f32) 40 v17 x6.2.2.2.1, ownO (kF .f32) 40 v18 x6.2.2.2.2]) (L := [boxO bb6 [v22, v23, v24], ownO (kF .f32) 40 v22 x8.1, ownO (kF .f32) 40 v23 x8.2.1, ownO (kF .f32) 40 v24 x8.2.2.1, boxO bb5 [v19, v20, v21], ownO (kF .f32) 40 v19 x7.1, ownO (kF .f32) 40 v20 x7.2.1, ownO (kF .f32) 40 v21 x7.2.2, boxO bb4 [(.int .i64 x6.1), (.int .i64 x6.2.1), (.bool x6.2.2.1), v17, v18], boxO bb3 [v6, v7, v8], ownO (kF .f32) 40 v6 x5.1, ownO (kF .f32) 40 v7 x5.2.1, ownO (kF .f32) 40 v8 x5.2.2.1, boxO bb2 [u1_0, u1_1, u1_2], boxO bb1 [(.int .i64 a0_0), (.int .i64 a0_1), (.bool a0_2), u0_3, u0_4]]) X_28 S_36 MT_25
            have S_37 : Sep [] h0.size hp50 [ownO (kF .f32) 40 v17 x15.2.1, ownO (kF .f32) 40 v18 x15.2.2, boxO bb6 [v22, v23, v24], ownO (kF .f32) 40 v22 x8.1, ownO (kF .f32) 40 v23 x8.2.1, ownO (kF .f32) 40 v24 x8.2.2.1, boxO bb5 [v19, v20, v21], ownO (kF .f32) 40 v19 x7.1, ownO (kF .f32) 40 v20 x7.2.1, ownO (kF .f32) 40 v21 x7.2.2, boxO bb4 [(.int .i64 x6.1), (.int .i64 x6.2.1), (.bool x6.2.2.1), v17, v18], boxO bb3 [v6, v7, v8], ownO (kF .f32) 40 v6 x5.1, ownO (kF .f32) 40 v7 x5.2.1, ownO (kF .f32) 40 v8 x5.2.2.1, boxO bb2 [u1_0, u1_1, u1_2], boxO bb1 [(.int .i64 a0_0), (.int .i64 a0_1), (.bool a0_2), u0_3, u0_4]] := Sep.step (A := [ownO (kF .f32) 40 v17 x6.2.2.2.1, ownO (kF .f32) 40 v18 x6.2.2.2.2]) (L := [boxO bb6 [v22, v23, v24], ownO (kF .f32) 40 v22 x8.1, ownO (kF .f32) 40 v23 x8.2.1, ownO (kF .f32) 40 v24 x8.2.2.1, boxO bb5 [v19, v20, v21], ownO (kF .f32) 40 v19 x7.1, ownO (kF .f32) 40 v20 x7.2.1, ownO (kF .f32) 40 v21 x7.2.2, boxO bb4 [(.int .i64 x6.1), (.int .i64 x6.2.1), (.bool x6.2.2.1), v17, v18], boxO bb3 [v6, v7, v8], ownO (kF .f32) 40 v6 x5.1, ownO (kF .f32) 40 v7 x5.2.1, ownO (kF .f32) 40 v8 x5.2.2.1, boxO bb2 [u1_0, u1_1, u1_2], boxO bb1 [(.int .i64 a0_0), (.int .i64 a0_1), (.bool a0_2), u0_3, u0_4]]) S_36 (Mod.size X_28) MT_25 T_25
            refine RL.opD (by decide) (opv_assign rfl rfl) ?_
            refine RL.nil ?_
            refine thnN ?_
            refine W.seq ?_
            obtain ⟨x16, hx16, hp⟩ := Option.bind_eq_some_iff.1 hp
            refine W.region ?_
            refine RL.opD (by decide) (opv_loadA (us := [v19, v20, v21]) rfl Try.agg53 Try.size53 rfl (Sep.at (o := boxO bb5 [v19, v20, v21]) S_37 6 rfl) rfl rfl) ?_
            refine RL.opD (by decide) (opv_move rfl rfl) ?_
            have S_39 : Sep [] h0.size hp50 [ownO (kF .f32) 40 v19 x7.1, ownO (kF .f32) 40 v20 x7.2.1, ownO (kF .f32) 40 v21 x7.2.2] := Sep.sel S_37 [7, 8, 9] (by decide)
            have S_38 : Sep [v19.ownBlock, v20.ownBlock, v21.ownBlock] hp50.size hp50 [ownO (kF .f32) 40 v19 x7.1, ownO (kF .f32) 40 v20 x7.2.1, ownO (kF .f32) 40 v21 x7.2.2] := Sep.own S_39 _
            refine RL.op _ (by decide) (opv_call (cap := []) (laws_markField_ok _ h0.size (Nat.le_trans (Nat.le_refl _) (Mod.size X_29)) _ _ _ _ _ _ _ S_38 (Sep.ge (L := [ownO (kF .f32) 40 v19 x7.1, ownO (kF .f32) 40 v20 x7.2.1, ownO (kF .f32) 40 v21 x7.2.2]) S_39 (Nat.le_refl _) nob) _ hx16) rfl rfl ⟨rfl, rfl, trivial⟩ Try.func65 rfl rfl) ?_
            rintro _ hp51 ⟨rfl, MT_26, T_26⟩
            have S_40 : Sep [] h0.size hp50 ([ownO (kF .f32) 40 v19 x7.1, ownO (kF .f32) 40 v20 x7.2.1, ownO (kF .f32) 40 v21 x7.2.2] ++ [ownO (kF .f32) 40 v17 x15.2.1, ownO (kF .f32) 40 v18 x15.2.2, boxO bb6 [v22, v23, v24], ownO (kF .f32) 40 v22 x8.1, ownO (kF .f32) 40 v23 x8.2.1, ownO (kF .f32) 40 v24 x8.2.2.1, boxO bb5 [v19, v20, v21], boxO bb4 [(.int .i64 x6.1), (.int .i64 x6.2.1), (.bool x6.2.2.1), v17, v18], boxO bb3 [v6, v7, v8], ownO (kF .f32) 40 v6 x5.1, ownO (kF .f32) 40 v7 x5.2.1, ownO (kF .f32) 40 v8 x5.2.2.1, boxO bb2 [u1_0, u1_1, u1_2], boxO bb1 [(.int .i64 a0_0), (.int .i64 a0_1), (.bool a0_2), u0_3, u0_4]]) := Sep.sel S_37 [7, 8, 9, 0, 1, 2, 3, 4, 5, 6, 10, 11, 12, 13, 14, 15, 16] (by decide)
            have X_30 : Mod [] h0 hp51 := Mod.step (A := [ownO (kF .f32) 40 v19 x7.1, ownO (kF .f32) 40 v20 x7.2.1, ownO (kF .f32) 40 v21 x7.2.2]) (L := [ownO (kF .f32) 40 v17 x15.2.1, ownO (kF .f32) 40 v18 x15.2.2, boxO bb6 [v22, v23, v24], ownO (kF .f32) 40 v22 x8.1, ownO (kF .f32) 40 v23 x8.2.1, ownO (kF .f32) 40 v24 x8.2.2.1, boxO bb5 [v19, v20, v21], boxO bb4 [(.int .i64 x6.1), (.int .i64 x6.2.1), (.bool x6.2.2.1), v17, v18], boxO bb3 [v6, v7, v8], ownO (kF .f32) 40 v6 x5.1, ownO (kF .f32) 40 v7 x5.2.1, ownO (kF .f32) 40 v8 x5.2.2.1, boxO bb2 [u1_0, u1_1, u1_2], boxO bb1 [(.int .i64 a0_0), (.int .i64 a0_1), (.bool a0_2), u0_3, u0_4]]) X_29 S_40 MT_26
            have S_41 : Sep [] h0.size hp51 [ownO (kF .f32) 40 v19 x16.2.1, ownO (kF .f32) 40 v20 x16.2.2.1, ownO (kF .f32) 40 v21 x16.2.2.2, ownO (kF .f32) 40 v17 x15.2.1, ownO (kF .f32) 40 v18 x15.2.2, boxO bb6 [v22, v23, v24], ownO (kF .f32) 40 v22 x8.1, ownO (kF .f32) 40 v23 x8.2.1, ownO (kF .f32) 40 v24 x8.2.2.1, boxO bb5 [v19, v20, v21], boxO bb4 [(.int .i64 x6.1), (.int .i64 x6.2.1), (.bool x6.2.2.1), v17, v18], boxO bb3 [v6, v7, v8], ownO (kF .f32) 40 v6 x5.1, ownO (kF .f32) 40 v7 x5.2.1, ownO (kF .f32) 40 v8 x5.2.2.1, boxO bb2 [u1_0, u1_1, u1_2], boxO bb1 [(.int .i64 a0_0), (.int .i64 a0_1), (.bool a0_2), u0_3, u0_4]] := Sep.step (A := [ownO (kF .f32) 40 v19 x7.1, ownO (kF .f32) 40 v20 x7.2.1, ownO (kF .f32) 40 v21 x7.2.2]) (L := [ownO (kF .f32) 40 v17 x15.2.1, ownO (kF .f32) 40 v18 x15.2.2, boxO bb6 [v22, v23, v24], ownO (kF .f32) 40 v22 x8.1, ownO (kF .f32) 40 v23 x8.2.1, ownO (kF .f32) 40 v24 x8.2.2.1, boxO bb5 [v19, v20, v21], boxO bb4 [(.int .i64 x6.1), (.int .i64 x6.2.1), (.bool x6.2.2.1), v17, v18], boxO bb3 [v6, v7, v8], ownO (kF .f32) 40 v6 x5.1, ownO (kF .f32) 40 v7 x5.2.1, ownO (kF .f32) 40 v8 x5.2.2.1, boxO bb2 [u1_0, u1_1, u1_2], boxO bb1 [(.int .i64 a0_0), (.int .i64 a0_1), (.bool a0_2), u0_3, u0_4]]) S_40 (Mod.size X_29) MT_26 T_26
            refine RL.opD (by decide) (opv_assign rfl rfl) ?_
            refine RL.nil ?_
            refine thnN ?_
            refine W.seq ?_
            refine W.seq ?_
            obtain ⟨x17, hy2, hp⟩ := Option.bind_eq_some_iff.1 hp
            refine W.cut (fun φ' h' => Fr.sub [(0, (.agg (List.toArray (α := Value) [(.int .i64 a0_0), (.int .i64 a0_1), (.bool a0_2), u0_3, u0_4]))), (1, (.agg (List.toArray (α := Value) [u1_0, u1_1, u1_2]))), (2, (.int .i64 a2)), (3, (.pointer (some ⟨bb1, 0, none⟩))), (4, (.pointer (some ⟨bb2, 0, none⟩))), (6, (.bool false)), (7, (.int .i64 x2)), (23, (.bool (decide (x1 < 0)))), (28, (.bool (decide (x2 < 0)))), (8, (.pointer (some ⟨bb3, 0, none⟩))), (9, (.bool x5.2.2.2)), (10, (.pointer (some ⟨bb4, 0, none⟩))), (11, (.pointer (some ⟨bb5, 0, none⟩))), (12, (.pointer (some ⟨bb6, 0, none⟩))), (13, (.bool x8.2.2.2)), (57, (.bool x9)), (62, (.bool (!x12))), (67, (.bool (!x14))), (14, (.int .i64 x16.1)), (86, (.bool x17))] φ' ∧ Mod [] h0 h' ∧ Sep [] h0.size h' [ownO (kF .f32) 40 v19 x16.2.1, ownO (kF .f32) 40 v20 x16.2.2.1, ownO (kF .f32) 40 v21 x16.2.2.2, ownO (kF .f32) 40 v17 x15.2.1, ownO (kF .f32) 40 v18 x15.2.2, boxO bb6 [v22, v23, v24], ownO (kF .f32) 40 v22 x8.1, ownO (kF .f32) 40 v23 x8.2.1, ownO (kF .f32) 40 v24 x8.2.2.1, boxO bb5 [v19, v20, v21], boxO bb4 [(.int .i64 x6.1), (.int .i64 x6.2.1), (.bool x6.2.2.1), v17, v18], boxO bb3 [v6, v7, v8], ownO (kF .f32) 40 v6 x5.1, ownO (kF .f32) 40 v7 x5.2.1, ownO (kF .f32) 40 v8 x5.2.2.1, boxO bb2 [u1_0, u1_1, u1_2], boxO bb1 [(.int .i64 a0_0), (.int .i64 a0_1), (.bool a0_2), u0_3, u0_4]]) ?_ ?_
            · by_cases c7 : (decide (x16.1 < 0)) = true
              · rw [if_pos c7] at hy2
                refine W.region ?_
                refine RL.opD (by decide) (opv_move rfl rfl) ?_
                refine RL.opD (by decide) (opv_icmp rfl rfl rfl rfl) ?_
                refine RL.opD (by decide) (opv_move rfl rfl) ?_
                refine RL.no rfl rfl (Eq.trans c7 (by decide)) (by decide) ?_
                refine RL.no rfl rfl (Eq.trans c7 (by decide)) (by decide) ?_
                refine RL.no rfl rfl (Eq.trans c7 (by decide)) (by decide) ?_
                refine RL.no rfl rfl (Eq.trans c7 (by decide)) (by decide) ?_
                refine RL.opD (by decide) (opv_pick rfl rfl (fun _ => rfl) (fun e => absurd (Eq.trans (Eq.symm e) c7) (by decide)) rfl) ?_
                refine RL.opD (by decide) (opv_move rfl rfl) ?_
                refine RL.no rfl rfl (Eq.trans rfl (by decide)) (by decide) ?_
                refine RL.no rfl rfl (Eq.trans rfl (by decide)) (by decide) ?_
                refine RL.no rfl rfl (Eq.trans rfl (by decide)) (by decide) ?_
                refine RL.opD (by decide) (opv_pick rfl rfl (fun _ => rfl) (fun e => absurd (Eq.trans (Eq.symm e) rfl) (by decide)) rfl) ?_
                refine RL.nil ?_
                have ey2 := Option.some.inj hy2
                subst ey2
                refine onlyN ?_
                exact ⟨⟨rfl, rfl, rfl, rfl, rfl, rfl, rfl, rfl, rfl, rfl, rfl, rfl, rfl, rfl, rfl, rfl, rfl, rfl, rfl, rfl, trivial⟩, X_30, (Sep.sel S_41 [0, 1, 2, 3, 4, 5, 6, 7, 8, 9, 10, 11, 12, 13, 14, 15, 16] (by decide))⟩
              · rw [if_neg c7] at hy2
                have c7 := eq_false_of_ne_true c7
                obtain ⟨x18, hx18, hy2⟩ := Option.bind_eq_some_iff.1 hy2
                by_cases c8 : (!x18) = true
                · rw [if_pos c8] at hy2
                  refine W.region ?_
                  refine RL.opD (by decide) (opv_move rfl rfl) ?_
                  refine RL.opD (by decide) (opv_icmp rfl rfl rfl rfl) ?_
                  refine RL.opD (by decide) (opv_move rfl rfl) ?_
                  refine RL.yes _ rfl rfl c7 (by decide) (opv_loadA (us := [v22, v23, v24]) rfl Try.agg53 Try.size53 rfl (Sep.at (o := boxO bb6 [v22, v23, v24]) S_41 5 rfl) rfl rfl) ?_
                  rintro _ _ ⟨rfl, rfl⟩
                  refine RL.yes _ rfl rfl c7 (by decide) (opv_loadA (us := [v6, v7, v8]) rfl Try.agg53 Try.size53 rfl (Sep.at (o := boxO bb3 [v6, v7, v8]) S_41 11 rfl) rfl rfl) ?_
                  rintro _ _ ⟨rfl, rfl⟩
                  refine RL.yes _ rfl rfl c7 (by decide) (opv_call (cap := []) (laws_eqField_ok _ _ _ (ownO.read (Sep.at (o := ownO (kF .f32) 40 v22 x8.1) S_41 6 rfl)) _ _ (ownO.read (Sep.at (o := ownO (kF .f32) 40 v23 x8.2.1) S_41 7 rfl)) _ _ (ownO.read (Sep.at (o := ownO (kF .f32) 40 v24 x8.2.2.1) S_41 8 rfl)) _ _ (ownO.read (Sep.at (o := ownO (kF .f32) 40 v6 x5.1) S_41 12 rfl)) _ _ (ownO.read (Sep.at (o := ownO (kF .f32) 40 v7 x5.2.1) S_41 13 rfl)) _ _ (ownO.read (Sep.at (o := ownO (kF .f32) 40 v8 x5.2.2.1) S_41 14 rfl)) _ hx18) rfl rfl ⟨rfl, rfl, trivial⟩ Try.func38 rfl rfl) ?_
                  rintro _ hp52 ⟨rfl, MT_27, T_27⟩
                  have X_31 : Mod [] h0 hp52 := Mod.step (A := []) (L := [ownO (kF .f32) 40 v19 x16.2.1, ownO (kF .f32) 40 v20 x16.2.2.1, ownO (kF .f32) 40 v21 x16.2.2.2, ownO (kF .f32) 40 v17 x15.2.1, ownO (kF .f32) 40 v18 x15.2.2, boxO bb6 [v22, v23, v24], ownO (kF .f32) 40 v22 x8.1, ownO (kF .f32) 40 v23 x8.2.1, ownO (kF .f32) 40 v24 x8.2.2.1, boxO bb5 [v19, v20, v21], boxO bb4 [(.int .i64 x6.1), (.int .i64 x6.2.1), (.bool x6.2.2.1), v17, v18], boxO bb3 [v6, v7, v8], ownO (kF .f32) 40 v6 x5.1, ownO (kF .f32) 40 v7 x5.2.1, ownO (kF .f32) 40 v8 x5.2.2.1, boxO bb2 [u1_0, u1_1, u1_2], boxO bb1 [(.int .i64 a0_0), (.int .i64 a0_1), (.bool a0_2), u0_3, u0_4]]) X_30 S_41 MT_27
                  have S_42 : Sep [] h0.size hp52 [ownO (kF .f32) 40 v19 x16.2.1, ownO (kF .f32) 40 v20 x16.2.2.1, ownO (kF .f32) 40 v21 x16.2.2.2, ownO (kF .f32) 40 v17 x15.2.1, ownO (kF .f32) 40 v18 x15.2.2, boxO bb6 [v22, v23, v24], ownO (kF .f32) 40 v22 x8.1, ownO (kF .f32) 40 v23 x8.2.1, ownO (kF .f32) 40 v24 x8.2.2.1, boxO bb5 [v19, v20, v21], boxO bb4 [(.int .i64 x6.1), (.int .i64 x6.2.1), (.bool x6.2.2.1), v17, v18], boxO bb3 [v6, v7, v8], ownO (kF .f32) 40 v6 x5.1, ownO (kF .f32) 40 v7 x5.2.1, ownO (kF .f32) 40 v8 x5.2.2.1, boxO bb2 [u1_0, u1_1, u1_2], boxO bb1 [(.int .i64 a0_0), (.int .i64 a0_1), (.bool a0_2), u0_3, u0_4]] := Sep.step (A := []) (L := [ownO (kF .f32) 40 v19 x16.2.1, ownO (kF .f32) 40 v20 x16.2.2.1, ownO (kF .f32) 40 v21 x16.2.2.2, ownO (kF .f32) 40 v17 x15.2.1, ownO (kF .f32) 40 v18 x15.2.2, boxO bb6 [v22, v23, v24], ownO (kF .f32) 40 v22 x8.1, ownO (kF .f32) 40 v23 x8.2.1, ownO (kF .f32) 40 v24 x8.2.2.1, boxO bb5 [v19, v20, v21], boxO bb4 [(.int .i64 x6.1), (.int .i64 x6.2.1), (.bool x6.2.2.1), v17, v18], boxO bb3 [v6, v7, v8], ownO (kF .f32) 40 v6 x5.1, ownO (kF .f32) 40 v7 x5.2.1, ownO (kF .f32) 40 v8 x5.2.2.1, boxO bb2 [u1_0, u1_1, u1_2], boxO bb1 [(.int .i64 a0_0), (.int .i64 a0_1), (.bool a0_2), u0_3, u0_4]]) S_41 (Mod.size X_30) MT_27 T_27
                  refine RL.yes _ rfl rfl c7 (by decide) (opv_not rfl rfl) ?_
                  rintro _ _ ⟨rfl, rfl⟩
                  refine RL.opD (by decide) (opv_pick rfl rfl (fun e => absurd (Eq.trans (Eq.symm e) c7) (by decide)) (fun _ => rfl) rfl) ?_
                  refine RL.opD (by decide) (opv_move rfl rfl) ?_
                  refine RL.no rfl rfl (Eq.trans c8 (by decide)) (by decide) ?_
                  refine RL.no rfl rfl (Eq.trans c8 (by decide)) (by decide) ?_
                  refine RL.no rfl rfl (Eq.trans c8 (by decide)) (by decide) ?_
                  refine RL.opD (by decide) (opv_pick rfl rfl (fun _ => rfl) (fun e => absurd (Eq.trans (Eq.symm e) c8) (by decide)) rfl) ?_
                  refine RL.nil ?_
                  have ey2 := Option.some.inj hy2
                  subst ey2
                  refine onlyN ?_
                  exact ⟨⟨rfl, rfl, rfl, rfl, rfl, rfl, rfl, rfl, rfl, rfl, rfl, rfl, rfl, rfl, rfl, rfl, rfl, rfl, rfl, rfl, trivial⟩, X_31, (Sep.sel S_42 [0, 1, 2, 3, 4, 5, 6, 7, 8, 9, 10, 11, 12, 13, 14, 15, 16] (by decide))⟩
                · rw [if_neg c8] at hy2
                  have c8 := eq_false_of_ne_true c8
                  refine W.region ?_
                  refine RL.opD (by decide) (opv_move rfl rfl) ?_
                  refine RL.opD (by decide) (opv_icmp rfl rfl rfl rfl) ?_
                  refine RL.opD (by decide) (opv_move rfl rfl) ?_
                  refine RL.yes _ rfl rfl c7 (by decide) (opv_loadA (us := [v22, v23, v24]) rfl Try.agg53 Try.size53 rfl (Sep.at (o := boxO bb6 [v22, v23, v24]) S_41 5 rfl) rfl rfl) ?_
                  rintro _ _ ⟨rfl, rfl⟩
                  refine RL.yes _ rfl rfl c7 (by decide) (opv_loadA (us := [v6, v7, v8]) rfl Try.agg53 Try.size53 rfl (Sep.at (o := boxO bb3 [v6, v7, v8]) S_41 11 rfl) rfl rfl) ?_
                  rintro _ _ ⟨rfl, rfl⟩
                  refine RL.yes _ rfl rfl c7 (by decide) (opv_call (cap := []) (laws_eqField_ok _ _ _ (ownO.read (Sep.at (o := ownO (kF .f32) 40 v22 x8.1) S_41 6 rfl)) _ _ (ownO.read (Sep.at (o := ownO (kF .f32) 40 v23 x8.2.1) S_41 7 rfl)) _ _ (ownO.read (Sep.at (o := ownO (kF .f32) 40 v24 x8.2.2.1) S_41 8 rfl)) _ _ (ownO.read (Sep.at (o := ownO (kF .f32) 40 v6 x5.1) S_41 12 rfl)) _ _ (ownO.read (Sep.at (o := ownO (kF .f32) 40 v7 x5.2.1) S_41 13 rfl)) _ _ (ownO.read (Sep.at (o := ownO (kF .f32) 40 v8 x5.2.2.1) S_41 14 rfl)) _ hx18) rfl rfl ⟨rfl, rfl, trivial⟩ Try.func38 rfl rfl) ?_
                  rintro _ hp52 ⟨rfl, MT_27, T_27⟩
                  have X_31 : Mod [] h0 hp52 := Mod.step (A := []) (L := [ownO (kF .f32) 40 v19 x16.2.1, ownO (kF .f32) 40 v20 x16.2.2.1, ownO (kF .f32) 40 v21 x16.2.2.2, ownO (kF .f32) 40 v17 x15.2.1, ownO (kF .f32) 40 v18 x15.2.2, boxO bb6 [v22, v23, v24], ownO (kF .f32) 40 v22 x8.1, ownO (kF .f32) 40 v23 x8.2.1, ownO (kF .f32) 40 v24 x8.2.2.1, boxO bb5 [v19, v20, v21], boxO bb4 [(.int .i64 x6.1), (.int .i64 x6.2.1), (.bool x6.2.2.1), v17, v18], boxO bb3 [v6, v7, v8], ownO (kF .f32) 40 v6 x5.1, ownO (kF .f32) 40 v7 x5.2.1, ownO (kF .f32) 40 v8 x5.2.2.1, boxO bb2 [u1_0, u1_1, u1_2], boxO bb1 [(.int .i64 a0_0), (.int .i64 a0_1), (.bool a0_2), u0_3, u0_4]]) X_30 S_41 MT_27
                  have S_42 : Sep [] h0.size hp52 [ownO (kF .f32) 40 v19 x16.2.1, ownO (kF .f32) 40 v20 x16.2.2.1, ownO (kF .f32) 40 v21 x16.2.2.2, ownO (kF .f32) 40 v17 x15.2.1, ownO (kF .f32) 40 v18 x15.2.2, boxO bb6 [v22, v23, v24], ownO (kF .f32) 40 v22 x8.1, ownO (kF .f32) 40 v23 x8.2.1, ownO (kF .f32) 40 v24 x8.2.2.1, boxO bb5 [v19, v20, v21], boxO bb4 [(.int .i64 x6.1), (.int .i64 x6.2.1), (.bool x6.2.2.1), v17, v18], boxO bb3 [v6, v7, v8], ownO (kF .f32) 40 v6 x5.1, ownO (kF .f32) 40 v7 x5.2.1, ownO (kF .f32) 40 v8 x5.2.2.1, boxO bb2 [u1_0, u1_1, u1_2], boxO bb1 [(.int .i64 a0_0), (.int .i64 a0_1), (.bool a0_2), u0_3, u0_4]] := Sep.step (A := []) (L := [ownO (kF .f32) 40 v19 x16.2.1, ownO (kF .f32) 40 v20 x16.2.2.1, ownO (kF .f32) 40 v21 x16.2.2.2, ownO (kF .f32) 40 v17 x15.2.1, ownO (kF .f32) 40 v18 x15.2.2, boxO bb6 [v22, v23, v24], ownO (kF .f32) 40 v22 x8.1, ownO (kF .f32) 40 v23 x8.2.1, ownO (kF .f32) 40 v24 x8.2.2.1, boxO bb5 [v19, v20, v21], boxO bb4 [(.int .i64 x6.1), (.int .i64 x6.2.1), (.bool x6.2.2.1), v17, v18], boxO bb3 [v6, v7, v8], ownO (kF .f32) 40 v6 x5.1, ownO (kF .f32) 40 v7 x5.2.1, ownO (kF .f32) 40 v8 x5.2.2.1, boxO bb2 [u1_0, u1_1, u1_2], boxO bb1 [(.int .i64 a0_0), (.int .i64 a0_1), (.bool a0_2), u0_3, u0_4]]) S_41 (Mod.size X_30) MT_27 T_27
                  refine RL.yes _ rfl rfl c7 (by decide) (opv_not rfl rfl) ?_
                  rintro _ _ ⟨rfl, rfl⟩
                  refine RL.opD (by decide) (opv_pick rfl rfl (fun e => absurd (Eq.trans (Eq.symm e) c7) (by decide)) (fun _ => rfl) rfl) ?_
                  refine RL.opD (by decide) (opv_move rfl rfl) ?_
                  refine RL.yes _ rfl rfl c8 (by decide) (opv_move rfl rfl) ?_
                  rintro _ _ ⟨rfl, rfl⟩
                  refine RL.yes _ rfl rfl c8 (by decide) (opv_move rfl rfl) ?_
                  rintro _ _ ⟨rfl, rfl⟩
                  refine RL.yes _ rfl rfl c8 (by decide) (opv_bcmp rfl rfl Try.underlying4 rfl rfl) ?_
                  rintro _ _ ⟨rfl, rfl⟩
                  refine RL.opD (by decide) (opv_pick rfl rfl (fun e => absurd (Eq.trans (Eq.symm e) c8) (by decide)) (fun _ => rfl) rfl) ?_
                  refine RL.nil ?_
                  have ey2 := Option.some.inj hy2
                  subst ey2
                  refine onlyN ?_
                  exact ⟨⟨rfl, rfl, rfl, rfl, rfl, rfl, rfl, rfl, rfl, rfl, rfl, rfl, rfl, rfl, rfl, rfl, rfl, rfl, rfl, rfl, trivial⟩, X_31, (Sep.sel S_42 [0, 1, 2, 3, 4, 5, 6, 7, 8, 9, 10, 11, 12, 13, 14, 15, 16] (by decide))⟩
            rintro φ' hp53 ⟨hs2, X_32, S_43⟩
            refine thnN ?_
            refine W.sub hs2 ?_
            by_cases c9 : x17 = true
            · rw [if_pos c9] at hp
              refine W.condT rfl c9 ?_
              refine W.seq ?_
              refine W.region ?_
              refine RL.opD (by decide) (opv_assign rfl rfl) ?_
              refine RL.nil ?_
              refine thnN ?_
              refine W.ret ?_
              refine thnR ?_
              have er := Option.some.inj hp
              subst er
              exact Rt.one rfl rfl ⟨rfl, X_32, (Sep.nil _ _ _)⟩
            · rw [if_neg c9] at hp
              have c9 := eq_false_of_ne_true c9
              refine W.condF rfl c9 ?_
              refine W.skip ?_
              refine thnN ?_
              refine W.seq ?_
              refine W.region ?_
              refine RL.opD (by decide) (opv_assign rfl rfl) ?_
              refine RL.nil ?_
              refine thnN ?_
              refine W.seq ?_
              obtain ⟨x19, hx19, hp⟩ := Option.bind_eq_some_iff.1 hp
              refine W.region ?_
              refine RL.opD (by decide) (opv_loadA (us := [v22, v23, v24]) rfl Try.agg53 Try.size53 rfl (Sep.at (o := boxO bb6 [v22, v23, v24]) S_43 5 rfl) rfl rfl) ?_
              refine RL.opD (by decide) (opv_move rfl rfl) ?_
              have S_45 : Sep [] h0.size hp53 [ownO (kF .f32) 40 v22 x8.1, ownO (kF .f32) 40 v23 x8.2.1, ownO (kF .f32) 40 v24 x8.2.2.1] := Sep.sel S_43 [6, 7, 8] (by decide)
              have S_44 : Sep [v22.ownBlock, v23.ownBlock, v24.ownBlock] hp53.size hp53 [ownO (kF .f32) 40 v22 x8.1, ownO (kF .f32) 40 v23 x8.2.1, ownO (kF .f32) 40 v24 x8.2.2.1] := Sep.own S_45 _
              refine RL.op _ (by decide) (opv_call (cap := []) (laws_markField_ok _ h0.size (Nat.le_trans (Nat.le_refl _) (Mod.size X_32)) _ _ _ _ _ _ _ S_44 (Sep.ge (L := [ownO (kF .f32) 40 v22 x8.1, ownO (kF .f32) 40 v23 x8.2.1, ownO (kF .f32) 40 v24 x8.2.2.1]) S_45 (Nat.le_refl _) nob) _ hx19) rfl rfl ⟨rfl, rfl, trivial⟩ Try.func65 rfl rfl) ?_
              rintro _ hp54 ⟨rfl, MT_28, T_28⟩
              have S_46 : Sep [] h0.size hp53 ([ownO (kF .f32) 40 v22 x8.1, ownO (kF .f32) 40 v23 x8.2.1, ownO (kF .f32) 40 v24 x8.2.2.1] ++ [ownO (kF .f32) 40 v19 x16.2.1, ownO (kF .f32) 40 v20 x16.2.2.1, ownO (kF .f32) 40 v21 x16.2.2.2, ownO (kF .f32) 40 v17 x15.2.1, ownO (kF .f32) 40 v18 x15.2.2, boxO bb6 [v22, v23, v24], boxO bb5 [v19, v20, v21], boxO bb4 [(.int .i64 x6.1), (.int .i64 x6.2.1), (.bool x6.2.2.1), v17, v18], boxO bb3 [v6, v7, v8], ownO (kF .f32) 40 v6 x5.1, ownO (kF .f32) 40 v7 x5.2.1, ownO (kF .f32) 40 v8 x5.2.2.1, boxO bb2 [u1_0, u1_1, u1_2], boxO bb1 [(.int .i64 a0_0), (.int .i64 a0_1), (.bool a0_2), u0_3, u0_4]]) := Sep.sel S_43 [6, 7, 8, 0, 1, 2, 3, 4, 5, 9, 10, 11, 12, 13, 14, 15, 16] (by decide)
              have X_33 : Mod [] h0 hp54 := Mod.step (A := [ownO (kF .f32) 40 v22 x8.1, ownO (kF .f32) 40 v23 x8.2.1, ownO (kF .f32) 40 v24 x8.2.2.1]) (L := [ownO (kF .f32) 40 v19 x16.2.1, ownO (kF .f32) 40 v20 x16.2.2.1, ownO (kF .f32) 40 v21 x16.2.2.2, ownO (kF .f32) 40 v17 x15.2.1, ownO (kF .f32) 40 v18 x15.2.2, boxO bb6 [v22, v23, v24], boxO bb5 [v19, v20, v21], boxO bb4 [(.int .i64 x6.1), (.int .i64 x6.2.1), (.bool x6.2.2.1), v17, v18], boxO bb3 [v6, v7, v8], ownO (kF .f32) 40 v6 x5.1, ownO (kF .f32) 40 v7 x5.2.1, ownO (kF .f32) 40 v8 x5.2.2.1, boxO bb2 [u1_0, u1_1, u1_2], boxO bb1 [(.int .i64 a0_0), (.int .i64 a0_1), (.bool a0_2), u0_3, u0_4]]) X_32 S_46 MT_28
              have S_47 : Sep [] h0.size hp54 [ownO (kF .f32) 40 v22 x19.2.1, ownO (kF .f32) 40 v23 x19.2.2.1, ownO (kF .f32) 40 v24 x19.2.2.2, ownO (kF .f32) 40 v19 x16.2.1, ownO (kF .f32) 40 v20 x16.2.2.1, ownO (kF .f32) 40 v21 x16.2.2.2, ownO (kF .f32) 40 v17 x15.2.1, ownO (kF .f32) 40 v18 x15.2.2, boxO bb6 [v22, v23, v24], boxO bb5 [v19, v20, v21], boxO bb4 [(.int .i64 x6.1), (.int .i64 x6.2.1), (.bool x6.2.2.1), v17, v18], boxO bb3 [v6, v7, v8], ownO (kF .f32) 40 v6 x5.1, ownO (kF .f32) 40 v7 x5.2.1, ownO (kF .f32) 40 v8 x5.2.2.1, boxO bb2 [u1_0, u1_1, u1_2], boxO bb1 [(.int .i64 a0_0), (.int .i64 a0_1), (.bool a0_2), u0_3, u0_4]] := Sep.step (A := [ownO (kF .f32) 40 v22 x8.1, ownO (kF .f32) 40 v23 x8.2.1, ownO (kF .f32) 40 v24 x8.2.2.1]) (L := [ownO (kF .f32) 40 v19 x16.2.1, ownO (kF .f32) 40 v20 x16.2.2.1, ownO (kF .f32) 40 v21 x16.2.2.2, ownO (kF .f32) 40 v17 x15.2.1, ownO (kF .f32) 40 v18 x15.2.2, boxO bb6 [v22, v23, v24], boxO bb5 [v19, v20, v21], boxO bb4 [(.int .i64 x6.1), (.int .i64 x6.2.1), (.bool x6.2.2.1), v17, v18], boxO bb3 [v6, v7, v8], ownO (kF .f32) 40 v6 x5.1, ownO (kF .f32) 40 v7 x5.2.1, ownO (kF .f32) 40 v8 x5.2.2.1, boxO bb2 [u1_0, u1_1, u1_2], boxO bb1 [(.int .i64 a0_0), (.int .i64 a0_1), (.bool a0_2), u0_3, u0_4]]) S_46 (Mod.size X_32) MT_28 T_28
              refine RL.opD (by decide) (opv_assign rfl rfl) ?_
              refine RL.nil ?_
              refine thnN ?_
              refine W.seq ?_
              refine W.region ?_
              refine RL.opD (by decide) (opv_assign rfl rfl) ?_
              refine RL.nil ?_
              refine thnN ?_
              refine W.seq ?_
              obtain ⟨x20, hx20, hp⟩ := Option.bind_eq_some_iff.1 hp
              refine W.region ?_
              refine RL.opD (by decide) (opv_loadA (us := [v22, v23, v24]) rfl Try.agg53 Try.size53 rfl (Sep.at (o := boxO bb6 [v22, v23, v24]) S_47 8 rfl) rfl rfl) ?_
              refine RL.opD (by decide) (opv_move rfl rfl) ?_
              refine RL.op _ (by decide) (opv_call (cap := []) (laws_heldField_ok _ _ _ (ownO.read (Sep.at (o := ownO (kF .f32) 40 v22 x19.2.1) S_47 0 rfl)) _ _ (ownO.read (Sep.at (o := ownO (kF .f32) 40 v23 x19.2.2.1) S_47 1 rfl)) _ _ (ownO.read (Sep.at (o := ownO (kF .f32) 40 v24 x19.2.2.2) S_47 2 rfl)) _ _ hx20) rfl rfl ⟨rfl, rfl, trivial⟩ Try.func66 rfl rfl) ?_
              rintro _ hp55 ⟨rfl, MT_29, T_29⟩
              have X_34 : Mod [] h0 hp55 := Mod.step (A := []) (L := [ownO (kF .f32) 40 v22 x19.2.1, ownO (kF .f32) 40 v23 x19.2.2.1, ownO (kF .f32) 40 v24 x19.2.2.2, ownO (kF .f32) 40 v19 x16.2.1, ownO (kF .f32) 40 v20 x16.2.2.1, ownO (kF .f32) 40 v21 x16.2.2.2, ownO (kF .f32) 40 v17 x15.2.1, ownO (kF .f32) 40 v18 x15.2.2, boxO bb6 [v22, v23, v24], boxO bb5 [v19, v20, v21], boxO bb4 [(.int .i64 x6.1), (.int .i64 x6.2.1), (.bool x6.2.2.1), v17, v18], boxO bb3 [v6, v7, v8], ownO (kF .f32) 40 v6 x5.1, ownO (kF .f32) 40 v7 x5.2.1, ownO (kF .f32) 40 v8 x5.2.2.1, boxO bb2 [u1_0, u1_1, u1_2], boxO bb1 [(.int .i64 a0_0), (.int .i64 a0_1), (.bool a0_2), u0_3, u0_4]]) X_33 S_47 MT_29
              have S_48 : Sep [] h0.size hp55 [ownO (kF .f32) 40 v22 x19.2.1, ownO (kF .f32) 40 v23 x19.2.2.1, ownO (kF .f32) 40 v24 x19.2.2.2, ownO (kF .f32) 40 v19 x16.2.1, ownO (kF .f32) 40 v20 x16.2.2.1, ownO (kF .f32) 40 v21 x16.2.2.2, ownO (kF .f32) 40 v17 x15.2.1, ownO (kF .f32) 40 v18 x15.2.2, boxO bb6 [v22, v23, v24], boxO bb5 [v19, v20, v21], boxO bb4 [(.int .i64 x6.1), (.int .i64 x6.2.1), (.bool x6.2.2.1), v17, v18], boxO bb3 [v6, v7, v8], ownO (kF .f32) 40 v6 x5.1, ownO (kF .f32) 40 v7 x5.2.1, ownO (kF .f32) 40 v8 x5.2.2.1, boxO bb2 [u1_0, u1_1, u1_2], boxO bb1 [(.int .i64 a0_0), (.int .i64 a0_1), (.bool a0_2), u0_3, u0_4]] := Sep.step (A := []) (L := [ownO (kF .f32) 40 v22 x19.2.1, ownO (kF .f32) 40 v23 x19.2.2.1, ownO (kF .f32) 40 v24 x19.2.2.2, ownO (kF .f32) 40 v19 x16.2.1, ownO (kF .f32) 40 v20 x16.2.2.1, ownO (kF .f32) 40 v21 x16.2.2.2, ownO (kF .f32) 40 v17 x15.2.1, ownO (kF .f32) 40 v18 x15.2.2, boxO bb6 [v22, v23, v24], boxO bb5 [v19, v20, v21], boxO bb4 [(.int .i64 x6.1), (.int .i64 x6.2.1), (.bool x6.2.2.1), v17, v18], boxO bb3 [v6, v7, v8], ownO (kF .f32) 40 v6 x5.1, ownO (kF .f32) 40 v7 x5.2.1, ownO (kF .f32) 40 v8 x5.2.2.1, boxO bb2 [u1_0, u1_1, u1_2], boxO bb1 [(.int .i64 a0_0), (.int .i64 a0_1), (.bool a0_2), u0_3, u0_4]]) S_47 (Mod.size X_33) MT_29 T_29
              refine RL.opD (by decide) (opv_assign rfl rfl) ?_
              refine RL.nil ?_
              refine thnN ?_
              refine W.seq ?_
              refine W.seq ?_
              refine W.region ?_
              refine RL.opD (by decide) (opv_move rfl rfl) ?_
              refine RL.opD (by decide) (opv_icmp rfl rfl rfl rfl) ?_
              refine RL.nil ?_
              refine thnN ?_
              by_cases c10 : (decide (x20 < 0)) = true
              · rw [if_pos c10] at hp
                refine W.condT rfl c10 ?_
                refine W.seq ?_
                refine W.region ?_
                refine RL.opD (by decide) (opv_assign rfl rfl) ?_
                refine RL.nil ?_
                refine thnN ?_
                refine W.ret ?_
                refine thnR ?_
                have er := Option.some.inj hp
                subst er
                exact Rt.one rfl rfl ⟨rfl, X_34, (Sep.nil _ _ _)⟩
              · rw [if_neg c10] at hp
                have c10 := eq_false_of_ne_true c10
                refine W.condF rfl c10 ?_
                refine W.skip ?_
                refine thnN ?_
                refine W.seq ?_
                refine W.seq ?_
                refine W.region ?_
                refine RL.opD (by decide) (opv_move rfl rfl) ?_
                refine RL.opD (by decide) (opv_move rfl rfl) ?_
                refine RL.opD (by decide) (opv_icmp rfl rfl rfl rfl) ?_
                refine RL.nil ?_
                refine thnN ?_
                by_cases c11 : (x20 != x19.1) = true
                · rw [if_pos c11] at hp
                  refine W.condT rfl c11 ?_
                  refine W.seq ?_
                  refine W.region ?_
                  refine RL.opD (by decide) (opv_assign rfl rfl) ?_
                  refine RL.nil ?_
                  refine thnN ?_
                  refine W.ret ?_
                  refine thnR ?_
                  have er := Option.some.inj hp
                  subst er
                  exact Rt.one rfl rfl ⟨rfl, X_34, (Sep.nil _ _ _)⟩
                · rw [if_neg c11] at hp
                  have c11 := eq_false_of_ne_true c11
                  refine W.condF rfl c11 ?_
                  refine W.skip ?_
                  refine thnN ?_
                  refine W.seq ?_
                  obtain ⟨x21, hx21, hp⟩ := Option.bind_eq_some_iff.1 hp
                  obtain ⟨x22, hx22, hp⟩ := Option.bind_eq_some_iff.1 hp
                  obtain ⟨x23, hx23, hp⟩ := Option.bind_eq_some_iff.1 hp
                  refine W.sub (ψ := [(0, (.agg (List.toArray (α := Value) [(.int .i64 a0_0), (.int .i64 a0_1), (.bool a0_2), u0_3, u0_4]))), (1, (.agg (List.toArray (α := Value) [u1_0, u1_1, u1_2]))), (2, (.int .i64 a2)), (3, (.pointer (some ⟨bb1, 0, none⟩))), (4, (.pointer (some ⟨bb2, 0, none⟩))), (6, (.bool false)), (7, (.int .i64 x2)), (23, (.bool (decide (x1 < 0)))), (28, (.bool (decide (x2 < 0)))), (8, (.pointer (some ⟨bb3, 0, none⟩))), (9, (.bool x5.2.2.2)), (10, (.pointer (some ⟨bb4, 0, none⟩))), (11, (.pointer (some ⟨bb5, 0, none⟩))), (12, (.pointer (some ⟨bb6, 0, none⟩))), (13, (.bool x8.2.2.2)), (57, (.bool x9)), (62, (.bool (!x12))), (67, (.bool (!x14))), (14, (.int .i64 x16.1)), (86, (.bool x17)), (15, (.int .i64 x19.1)), (16, (.int .i64 x20)), (94, (.bool (decide (x20 < 0)))), (97, (.bool (x20 != x19.1)))]) ⟨rfl, rfl, rfl, rfl, rfl, rfl, rfl, rfl, rfl, rfl, rfl, rfl, rfl, rfl, rfl, rfl, rfl, rfl, rfl, rfl, rfl, rfl, rfl, rfl, trivial⟩ ?_
                  refine W.regionL [fun v _ => @Eq Value (.agg (List.toArray (α := Value) [(.int .i64 a0_0), (.int .i64 a0_1), (.bool a0_2), u0_3, u0_4])) v, fun v h => ∃ v35, ∃ v36, @Eq Value v (.agg (List.toArray (α := Value) [(.int .i64 x21.1), (.int .i64 x21.2.1), (.bool x21.2.2.1), v35, v36])) ∧ Sep [] hp55.size h [ownO (kF .f32) 40 v35 x21.2.2.2.1, ownO (kF .f32) 40 v36 x21.2.2.2.2], fun v _ => @Eq Value (.agg (List.toArray (α := Value) [u1_0, u1_1, u1_2])) v, fun v h => ∃ v37, ∃ v38, ∃ v39, @Eq Value v (.agg (List.toArray (α := Value) [v37, v38, v39])) ∧ Sep [] hp55.size h [ownO (kF .f32) 40 v37 x22.1, ownO (kF .f32) 40 v38 x22.2.1, ownO (kF .f32) 40 v39 x22.2.2], fun v _ => @Eq Value (.int .i64 a2) v, fun v h => ∃ v40, ∃ v41, ∃ v42, @Eq Value v (.tuple (List.toArray (α := Value) [(.agg (List.toArray (α := Value) [v40, v41, v42])), (.bool x23.2.2.2)])) ∧ Sep [] hp55.size h [ownO (kF .f32) 40 v40 x23.1, ownO (kF .f32) 40 v41 x23.2.1, ownO (kF .f32) 40 v42 x23.2.2.1], fun v h => ∃ v40, ∃ v41, ∃ v42, @Eq Value v (.tuple (List.toArray (α := Value) [(.agg (List.toArray (α := Value) [v40, v41, v42])), (.bool x23.2.2.2)])) ∧ Sep [] hp55.size h [ownO (kF .f32) 40 v40 x23.1, ownO (kF .f32) 40 v41 x23.2.1, ownO (kF .f32) 40 v42 x23.2.2.1], fun v h => ∃ v40, ∃ v41, ∃ v42, @Eq Value v (.agg (List.toArray (α := Value) [v40, v41, v42])) ∧ Sep [] hp55.size h [ownO (kF .f32) 40 v40 x23.1, ownO (kF .f32) 40 v41 x23.2.1, ownO (kF .f32) 40 v42 x23.2.2.1], fun v _ => @Eq Value (.bool x23.2.2.2) v, fun v h => ∃ b, @Eq Value v (.pointer (some ⟨b, 0, none⟩)) ∧ Sep [] hp55.size h [boxO b [(.slice none 0 0), (.slice none 0 0), (.slice none 0 0)]]] [none, some (fun u => [Value.ownBlock (vget u 3), Value.ownBlock (vget u 4)]), none, some (fun u => [Value.ownBlock (vget u 0), Value.ownBlock (vget u 1), Value.ownBlock (vget u 2)]), none, some (fun u => [Value.ownBlock (vget (vget u 0) 0), Value.ownBlock (vget (vget u 0) 1), Value.ownBlock (vget (vget u 0) 2)]), none, none, none, some (fun u => [ptrB u])] [none, none, none, none, none, none, some (104, fun u => u), some (98, fun u => vget u 0)] [8] [[], [0], [], [2], [], [1, 3, 4], [5], [6], [6], []] [5, 6, 7, 8, 9] Try.mixed (by decide +kernel) (by decide +kernel) (fun _ _ _ h => h) rfl rfl rfl (by decide +kernel) rfl ⟨fun _ _ _ h _ => h, fun _ _ _ ⟨u0_, u1_, e, h⟩ x => ⟨u0_, u1_, e, h.ext x⟩, fun _ _ _ h _ => h, fun _ _ _ ⟨u0_, u1_, u2_, e, h⟩ x => ⟨u0_, u1_, u2_, e, h.ext x⟩, fun _ _ _ h _ => h, fun _ _ _ ⟨u0_, u1_, u2_, e, h⟩ x => ⟨u0_, u1_, u2_, e, h.ext x⟩, fun _ _ _ ⟨u0_, u1_, u2_, e, h⟩ x => ⟨u0_, u1_, u2_, e, h.ext x⟩, fun _ _ _ ⟨u0_, u1_, u2_, e, h⟩ x => ⟨u0_, u1_, u2_, e, h.ext x⟩, fun _ _ _ h _ => h, fun _ _ _ ⟨b, e, h⟩ x => ⟨b, e, h.ext x⟩, trivial⟩ ?_ (.cons ?_ (.nil)) ?_
                  · refine ⟨⟨rfl, ?_⟩, ⟨rfl, ?_⟩, ⟨rfl, ?_⟩, ⟨rfl, ?_⟩, ⟨rfl, ?_⟩, ⟨rfl, ?_⟩, ⟨rfl, ?_⟩, ⟨rfl, ?_⟩, ⟨rfl, ?_⟩, ⟨rfl, ?_⟩, trivial⟩
                    · rintro hp61 E_25
                      refine Dep.nil ?_
                      refine GuardOK.none rfl ?_
                      exact OpV.toDx (opv_loadA (us := [(.int .i64 a0_0), (.int .i64 a0_1), (.bool a0_2), u0_3, u0_4]) rfl Try.agg24 Try.size24 rfl (Sep.at (o := boxO bb1 [(.int .i64 a0_0), (.int .i64 a0_1), (.bool a0_2), u0_3, u0_4]) (Sep.ext S_48 E_25) 16 rfl) rfl rfl) rfl
                    · rintro hp62 E_26 _ rfl
                      refine Dep.nil ?_
                      refine GuardOK.none rfl ?_
                      exact OpV.mono (opv_call (cap := []) (laws_toSheet_ok _ _ _ _ _ _ (SL.up (SL.mod g0_3 (Mod.lift X_34 E_26) (Nat.le_refl _) nob) (Nat.le_trans (Nat.le_refl _) (Mod.size (Mod.lift X_34 E_26)))) _ _ (SL.up (SL.mod g0_4 (Mod.lift X_34 E_26) (Nat.le_refl _) nob) (Nat.le_trans (Nat.le_refl _) (Mod.size (Mod.lift X_34 E_26)))) _ hx21) rfl rfl ⟨rfl, trivial⟩ Try.func20 rfl rfl) (by rintro _ _ ⟨v35, v36, rfl, M_, T_⟩; exact ⟨Mod.ext M_, ⟨v35, v36, rfl, Sep.weak T_ (Ext.size E_26)⟩, Sep.fresh T_⟩)
                    · rintro hp63 E_27
                      refine Dep.nil ?_
                      refine GuardOK.none rfl ?_
                      exact OpV.toDx (opv_loadA (us := [u1_0, u1_1, u1_2]) rfl Try.agg49 Try.size49 rfl (Sep.at (o := boxO bb2 [u1_0, u1_1, u1_2]) (Sep.ext S_48 E_27) 15 rfl) rfl rfl) rfl
                    · rintro hp64 E_28 _ rfl
                      refine Dep.nil ?_
                      refine GuardOK.none rfl ?_
                      exact OpV.mono (opv_call (cap := []) (laws_toField_ok _ _ _ (SL.up (SL.mod g1_0 (Mod.lift X_34 E_28) (Nat.le_refl _) nob) (Nat.le_trans (Nat.le_refl _) (Mod.size (Mod.lift X_34 E_28)))) _ _ (SL.up (SL.mod g1_1 (Mod.lift X_34 E_28) (Nat.le_refl _) nob) (Nat.le_trans (Nat.le_refl _) (Mod.size (Mod.lift X_34 E_28)))) _ _ (SL.up (SL.mod g1_2 (Mod.lift X_34 E_28) (Nat.le_refl _) nob) (Nat.le_trans (Nat.le_refl _) (Mod.size (Mod.lift X_34 E_28)))) _ hx22) rfl rfl ⟨rfl, trivial⟩ Try.func35 rfl rfl) (by rintro _ _ ⟨v37, v38, v39, rfl, M_, T_⟩; exact ⟨Mod.ext M_, ⟨v37, v38, v39, rfl, Sep.weak T_ (Ext.size E_28)⟩, Sep.fresh T_⟩)
                    · rintro hp65 E_29
                      refine Dep.nil ?_
                      refine GuardOK.none rfl ?_
                      exact OpV.toDx (opv_move rfl rfl) rfl
                    · rintro hp66 E_30 _ ⟨v35, v36, rfl, T_30⟩ _ ⟨v37, v38, v39, rfl, T_31⟩ _ rfl
                      refine Dep.nil ?_
                      refine GuardOK.none rfl ?_
                      exact OpV.mono (opv_call (cap := []) (impl_RampField_ok _ _ _ _ _ _ (ownO.read (Sep.at (o := ownO (kF .f32) 40 v35 x21.2.2.2.1) T_30 0 rfl)) _ _ (ownO.read (Sep.at (o := ownO (kF .f32) 40 v36 x21.2.2.2.2) T_30 1 rfl)) _ _ (ownO.read (Sep.at (o := ownO (kF .f32) 40 v37 x22.1) T_31 0 rfl)) _ _ (ownO.read (Sep.at (o := ownO (kF .f32) 40 v38 x22.2.1) T_31 1 rfl)) _ _ (ownO.read (Sep.at (o := ownO (kF .f32) 40 v39 x22.2.2) T_31 2 rfl)) _ _ hx23) rfl rfl ⟨rfl, rfl, rfl, trivial⟩ Try.func70 rfl rfl) (by rintro _ _ ⟨v40, v41, v42, rfl, M_, T_⟩; exact ⟨Mod.ext M_, ⟨v40, v41, v42, rfl, Sep.weak T_ (Ext.size E_30)⟩, Sep.fresh T_⟩)
                    · rintro hp67 E_31 _ ⟨v40, v41, v42, rfl, T_32⟩
                      refine Dep.nil ?_
                      refine GuardOK.none rfl ?_
                      exact OpV.mono (opv_move rfl rfl) (by rintro _ _ ⟨rfl, rfl⟩; exact ⟨⟨Ext.refl _, v40, v41, v42, rfl, T_32⟩, _, rfl, rfl⟩)
                    · rintro hp68 E_32 _ ⟨v40, v41, v42, rfl, T_32⟩
                      refine Dep.nil ?_
                      refine GuardOK.none rfl ?_
                      exact OpV.mono (opv_extract rfl rfl rfl) (by rintro _ _ ⟨rfl, rfl⟩; exact ⟨⟨Ext.refl _, v40, v41, v42, rfl, T_32⟩, _, rfl, rfl⟩)
                    · rintro hp69 E_33 _ ⟨v40, v41, v42, rfl, T_32⟩
                      refine Dep.nil ?_
                      refine GuardOK.none rfl ?_
                      exact OpV.toDx (opv_extract rfl rfl rfl) rfl
                    · rintro hp70 E_34
                      refine Dep.nil ?_
                      refine GuardOK.none rfl ?_
                      exact OpV.mono (opS_boxed (opv_alloc (cs := [(.slice none 0 0), (.slice none 0 0), (.slice none 0 0)]) rfl Try.zero53 rfl)) (by rintro _ _ ⟨b_, rfl, M_, T_⟩; exact ⟨Mod.ext M_, ⟨b_, rfl, Sep.weak T_ (Ext.size E_34)⟩, Sep.fresh T_⟩)
                  · refine ⟨[6], _, rfl, rfl, rfl, rfl, ?_⟩
                    rintro hp71 E_35 _ ⟨v40, v41, v42, rfl, T_32⟩
                    refine Dep.nil ?_
                    exact ⟨_, opy_extract rfl rfl rfl, ⟨Ext.refl _, rfl⟩⟩
                  rintro hp72 E_36 _ ⟨v40, v41, v42, rfl, T_32⟩ z6_ _ z7_ _ _ rfl _ ⟨bb7, rfl, T_33⟩
                  refine DepM.nil ?_
                  intro PW_2 LK_
                  have ez6_ : z6_ = (.tuple (List.toArray (α := Value) [(.agg (List.toArray (α := Value) [v40, v41, v42])), (.bool x23.2.2.2)])) := LK_ 6 _ _ _ _ _ (by decide) rfl rfl rfl rfl
                  subst z6_
                  have ez7_ : z7_ = (.agg (List.toArray (α := Value) [v40, v41, v42])) := LK_ 7 _ _ _ _ _ (by decide) rfl rfl rfl rfl
                  subst z7_
                  have X_40 : Mod [] h0 hp72 := Mod.lift X_34 E_36
                  have S_55 : Sep [] h0.size hp72 [ownO (kF .f32) 40 v40 x23.1, ownO (kF .f32) 40 v41 x23.2.1, ownO (kF .f32) 40 v42 x23.2.2.1, boxO bb7 [(.slice none 0 0), (.slice none 0 0), (.slice none 0 0)], ownO (kF .f32) 40 v22 x19.2.1, ownO (kF .f32) 40 v23 x19.2.2.1, ownO (kF .f32) 40 v24 x19.2.2.2, ownO (kF .f32) 40 v19 x16.2.1, ownO (kF .f32) 40 v20 x16.2.2.1, ownO (kF .f32) 40 v21 x16.2.2.2, ownO (kF .f32) 40 v17 x15.2.1, ownO (kF .f32) 40 v18 x15.2.2, boxO bb6 [v22, v23, v24], boxO bb5 [v19, v20, v21], boxO bb4 [(.int .i64 x6.1), (.int .i64 x6.2.1), (.bool x6.2.2.1), v17, v18], boxO bb3 [v6, v7, v8], ownO (kF .f32) 40 v6 x5.1, ownO (kF .f32) 40 v7 x5.2.1, ownO (kF .f32) 40 v8 x5.2.2.1, boxO bb2 [u1_0, u1_1, u1_2], boxO bb1 [(.int .i64 a0_0), (.int .i64 a0_1), (.bool a0_2), u0_3, u0_4]] := Sep.join S_48 (Mod.size X_34) (Ext.mod E_36 []) (Sep.both T_32 T_33 (Apt.symm (Apt.of PW_2 0 4 rfl rfl (by decide))))
                  show RL _ _ _ _ (_ :: _) _ _
                  refine RL.op0 _ (opS_stored (cs := [(.slice none 0 0), (.slice none 0 0), (.slice none 0 0)]) (cs' := [v40, v41, v42]) (opv_storeA (us := [v40, v41, v42]) rfl Try.size53 rfl rfl (oneAll (ownO.one (Sep.at (o := ownO (kF .f32) 40 v40 x23.1) S_55 0 rfl)) (oneAll (ownO.one (Sep.at (o := ownO (kF .f32) 40 v41 x23.2.1) S_55 1 rfl)) (oneAll (ownO.one (Sep.at (o := ownO (kF .f32) 40 v42 x23.2.2.1) S_55 2 rfl)) rfl))) (Sep.at (o := boxO bb7 [(.slice none 0 0), (.slice none 0 0), (.slice none 0 0)]) S_55 3 rfl) rfl rfl) (Sep.at (o := boxO bb7 [(.slice none 0 0), (.slice none 0 0), (.slice none 0 0)]) S_55 3 rfl)) ?_
                  rintro _ hp73 ⟨rfl, MT_35, T_35⟩
                  have S_56 : Sep [] h0.size hp72 ([boxO bb7 [(.slice none 0 0), (.slice none 0 0), (.slice none 0 0)]] ++ [ownO (kF .f32) 40 v40 x23.1, ownO (kF .f32) 40 v41 x23.2.1, ownO (kF .f32) 40 v42 x23.2.2.1, ownO (kF .f32) 40 v22 x19.2.1, ownO (kF .f32) 40 v23 x19.2.2.1, ownO (kF .f32) 40 v24 x19.2.2.2, ownO (kF .f32) 40 v19 x16.2.1, ownO (kF .f32) 40 v20 x16.2.2.1, ownO (kF .f32) 40 v21 x16.2.2.2, ownO (kF .f32) 40 v17 x15.2.1, ownO (kF .f32) 40 v18 x15.2.2, boxO bb6 [v22, v23, v24], boxO bb5 [v19, v20, v21], boxO bb4 [(.int .i64 x6.1), (.int .i64 x6.2.1), (.bool x6.2.2.1), v17, v18], boxO bb3 [v6, v7, v8], ownO (kF .f32) 40 v6 x5.1, ownO (kF .f32) 40 v7 x5.2.1, ownO (kF .f32) 40 v8 x5.2.2.1, boxO bb2 [u1_0, u1_1, u1_2], boxO bb1 [(.int .i64 a0_0), (.int .i64 a0_1), (.bool a0_2), u0_3, u0_4]]) := Sep.sel S_55 [3, 0, 1, 2, 4, 5, 6, 7, 8, 9, 10, 11, 12, 13, 14, 15, 16, 17, 18, 19, 20] (by decide)
                  have X_41 : Mod [] h0 hp73 := Mod.step (A := [boxO bb7 [(.slice none 0 0), (.slice none 0 0), (.slice none 0 0)]]) (L := [ownO (kF .f32) 40 v40 x23.1, ownO (kF .f32) 40 v41 x23.2.1, ownO (kF .f32) 40 v42 x23.2.2.1, ownO (kF .f32) 40 v22 x19.2.1, ownO (kF .f32) 40 v23 x19.2.2.1, ownO (kF .f32) 40 v24 x19.2.2.2, ownO (kF .f32) 40 v19 x16.2.1, ownO (kF .f32) 40 v20 x16.2.2.1, ownO (kF .f32) 40 v21 x16.2.2.2, ownO (kF .f32) 40 v17 x15.2.1, ownO (kF .f32) 40 v18 x15.2.2, boxO bb6 [v22, v23, v24], boxO bb5 [v19, v20, v21], boxO bb4 [(.int .i64 x6.1), (.int .i64 x6.2.1), (.bool x6.2.2.1), v17, v18], boxO bb3 [v6, v7, v8], ownO (kF .f32) 40 v6 x5.1, ownO (kF .f32) 40 v7 x5.2.1, ownO (kF .f32) 40 v8 x5.2.2.1, boxO bb2 [u1_0, u1_1, u1_2], boxO bb1 [(.int .i64 a0_0), (.int .i64 a0_1), (.bool a0_2), u0_3, u0_4]]) X_40 S_56 MT_35
                  have S_57 : Sep [] h0.size hp73 [boxO bb7 [v40, v41, v42], ownO (kF .f32) 40 v40 x23.1, ownO (kF .f32) 40 v41 x23.2.1, ownO (kF .f32) 40 v42 x23.2.2.1, ownO (kF .f32) 40 v22 x19.2.1, ownO (kF .f32) 40 v23 x19.2.2.1, ownO (kF .f32) 40 v24 x19.2.2.2, ownO (kF .f32) 40 v19 x16.2.1, ownO (kF .f32) 40 v20 x16.2.2.1, ownO (kF .f32) 40 v21 x16.2.2.2, ownO (kF .f32) 40 v17 x15.2.1, ownO (kF .f32) 40 v18 x15.2.2, boxO bb6 [v22, v23, v24], boxO bb5 [v19, v20, v21], boxO bb4 [(.int .i64 x6.1), (.int .i64 x6.2.1), (.bool x6.2.2.1), v17, v18], boxO bb3 [v6, v7, v8], ownO (kF .f32) 40 v6 x5.1, ownO (kF .f32) 40 v7 x5.2.1, ownO (kF .f32) 40 v8 x5.2.2.1, boxO bb2 [u1_0, u1_1, u1_2], boxO bb1 [(.int .i64 a0_0), (.int .i64 a0_1), (.bool a0_2), u0_3, u0_4]] := Sep.step (A := [boxO bb7 [(.slice none 0 0), (.slice none 0 0), (.slice none 0 0)]]) (L := [ownO (kF .f32) 40 v40 x23.1, ownO (kF .f32) 40 v41 x23.2.1, ownO (kF .f32) 40 v42 x23.2.2.1, ownO (kF .f32) 40 v22 x19.2.1, ownO (kF .f32) 40 v23 x19.2.2.1, ownO (kF .f32) 40 v24 x19.2.2.2, ownO (kF .f32) 40 v19 x16.2.1, ownO (kF .f32) 40 v20 x16.2.2.1, ownO (kF .f32) 40 v21 x16.2.2.2, ownO (kF .f32) 40 v17 x15.2.1, ownO (kF .f32) 40 v18 x15.2.2, boxO bb6 [v22, v23, v24], boxO bb5 [v19, v20, v21], boxO bb4 [(.int .i64 x6.1), (.int .i64 x6.2.1), (.bool x6.2.2.1), v17, v18], boxO bb3 [v6, v7, v8], ownO (kF .f32) 40 v6 x5.1, ownO (kF .f32) 40 v7 x5.2.1, ownO (kF .f32) 40 v8 x5.2.2.1, boxO bb2 [u1_0, u1_1, u1_2], boxO bb1 [(.int .i64 a0_0), (.int .i64 a0_1), (.bool a0_2), u0_3, u0_4]]) S_56 (Mod.size X_40) MT_35 T_35
                  refine RL.opD (by decide) (opv_assign rfl rfl) ?_
                  refine RL.nil ?_
                  refine thnN ?_
                  refine W.seq ?_
                  refine W.seq ?_
                  obtain ⟨x24, hy3, hp⟩ := Option.bind_eq_some_iff.1 hp
                  refine W.cut (fun φ' h' => Fr.sub [(0, (.agg (List.toArray (α := Value) [(.int .i64 a0_0), (.int .i64 a0_1), (.bool a0_2), u0_3, u0_4]))), (1, (.agg (List.toArray (α := Value) [u1_0, u1_1, u1_2]))), (2, (.int .i64 a2)), (3, (.pointer (some ⟨bb1, 0, none⟩))), (4, (.pointer (some ⟨bb2, 0, none⟩))), (6, (.bool false)), (7, (.int .i64 x2)), (23, (.bool (decide (x1 < 0)))), (28, (.bool (decide (x2 < 0)))), (8, (.pointer (some ⟨bb3, 0, none⟩))), (9, (.bool x5.2.2.2)), (10, (.pointer (some ⟨bb4, 0, none⟩))), (11, (.pointer (some ⟨bb5, 0, none⟩))), (12, (.pointer (some ⟨bb6, 0, none⟩))), (13, (.bool x8.2.2.2)), (57, (.bool x9)), (62, (.bool (!x12))), (67, (.bool (!x14))), (14, (.int .i64 x16.1)), (86, (.bool x17)), (15, (.int .i64 x19.1)), (16, (.int .i64 x20)), (94, (.bool (decide (x20 < 0)))), (97, (.bool (x20 != x19.1))), (17, (.pointer (some ⟨bb7, 0, none⟩))), (18, (.bool x23.2.2.2)), (115, (.bool x24))] φ' ∧ Mod [] h0 h' ∧ Sep [] h0.size h' [boxO bb7 [v40, v41, v42], ownO (kF .f32) 40 v40 x23.1, ownO (kF .f32) 40 v41 x23.2.1, ownO (kF .f32) 40 v42 x23.2.2.1, ownO (kF .f32) 40 v22 x19.2.1, ownO (kF .f32) 40 v23 x19.2.2.1, ownO (kF .f32) 40 v24 x19.2.2.2, ownO (kF .f32) 40 v19 x16.2.1, ownO (kF .f32) 40 v20 x16.2.2.1, ownO (kF .f32) 40 v21 x16.2.2.2, ownO (kF .f32) 40 v17 x15.2.1, ownO (kF .f32) 40 v18 x15.2.2, boxO bb6 [v22, v23, v24], boxO bb5 [v19, v20, v21], boxO bb4 [(.int .i64 x6.1), (.int .i64 x6.2.1), (.bool x6.2.2.1), v17, v18], boxO bb3 [v6, v7, v8], ownO (kF .f32) 40 v6 x5.1, ownO (kF .f32) 40 v7 x5.2.1, ownO (kF .f32) 40 v8 x5.2.2.1, boxO bb2 [u1_0, u1_1, u1_2], boxO bb1 [(.int .i64 a0_0), (.int .i64 a0_1), (.bool a0_2), u0_3, u0_4]]) ?_ ?_
                  · obtain ⟨x25, hx25, hy3⟩ := Option.bind_eq_some_iff.1 hy3
                    by_cases c12 : (!x25) = true
                    · rw [if_pos c12] at hy3
                      refine W.region ?_
                      refine RL.opD (by decide) (opv_loadA (us := [v40, v41, v42]) rfl Try.agg53 Try.size53 rfl (Sep.at (o := boxO bb7 [v40, v41, v42]) S_57 0 rfl) rfl rfl) ?_
                      refine RL.opD (by decide) (opv_loadA (us := [v6, v7, v8]) rfl Try.agg53 Try.size53 rfl (Sep.at (o := boxO bb3 [v6, v7, v8]) S_57 15 rfl) rfl rfl) ?_
                      refine RL.op _ (by decide) (opv_call (cap := []) (laws_eqField_ok _ _ _ (ownO.read (Sep.at (o := ownO (kF .f32) 40 v40 x23.1) S_57 1 rfl)) _ _ (ownO.read (Sep.at (o := ownO (kF .f32) 40 v41 x23.2.1) S_57 2 rfl)) _ _ (ownO.read (Sep.at (o := ownO (kF .f32) 40 v42 x23.2.2.1) S_57 3 rfl)) _ _ (ownO.read (Sep.at (o := ownO (kF .f32) 40 v6 x5.1) S_57 16 rfl)) _ _ (ownO.read (Sep.at (o := ownO (kF .f32) 40 v7 x5.2.1) S_57 17 rfl)) _ _ (ownO.read (Sep.at (o := ownO (kF .f32) 40 v8 x5.2.2.1) S_57 18 rfl)) _ hx25) rfl rfl ⟨rfl, rfl, trivial⟩ Try.func38 rfl rfl) ?_
                      rintro _ hp74 ⟨rfl, MT_36, T_36⟩
                      have X_42 : Mod [] h0 hp74 := Mod.step (A := []) (L := [boxO bb7 [v40, v41, v42], ownO (kF .f32) 40 v40 x23.1, ownO (kF .f32) 40 v41 x23.2.1, ownO (kF .f32) 40 v42 x23.2.2.1, ownO (kF .f32) 40 v22 x19.2.1, ownO (kF .f32) 40 v23 x19.2.2.1, ownO (kF .f32) 40 v24 x19.2.2.2, ownO (kF .f32) 40 v19 x16.2.1, ownO (kF .f32) 40 v20 x16.2.2.1, ownO (kF .f32) 40 v21 x16.2.2.2, ownO (kF .f32) 40 v17 x15.2.1, ownO (kF .f32) 40 v18 x15.2.2, boxO bb6 [v22, v23, v24], boxO bb5 [v19, v20, v21], boxO bb4 [(.int .i64 x6.1), (.int .i64 x6.2.1), (.bool x6.2.2.1), v17, v18], boxO bb3 [v6, v7, v8], ownO (kF .f32) 40 v6 x5.1, ownO (kF .f32) 40 v7 x5.2.1, ownO (kF .f32) 40 v8 x5.2.2.1, boxO bb2 [u1_0, u1_1, u1_2], boxO bb1 [(.int .i64 a0_0), (.int .i64 a0_1), (.bool a0_2), u0_3, u0_4]]) X_41 S_57 MT_36
                      have S_58 : Sep [] h0.size hp74 [boxO bb7 [v40, v41, v42], ownO (kF .f32) 40 v40 x23.1, ownO (kF .f32) 40 v41 x23.2.1, ownO (kF .f32) 40 v42 x23.2.2.1, ownO (kF .f32) 40 v22 x19.2.1, ownO (kF .f32) 40 v23 x19.2.2.1, ownO (kF .f32) 40 v24 x19.2.2.2, ownO (kF .f32) 40 v19 x16.2.1, ownO (kF .f32) 40 v20 x16.2.2.1, ownO (kF .f32) 40 v21 x16.2.2.2, ownO (kF .f32) 40 v17 x15.2.1, ownO (kF .f32) 40 v18 x15.2.2, boxO bb6 [v22, v23, v24], boxO bb5 [v19, v20, v21], boxO bb4 [(.int .i64 x6.1), (.int .i64 x6.2.1), (.bool x6.2.2.1), v17, v18], boxO bb3 [v6, v7, v8], ownO (kF .f32) 40 v6 x5.1, ownO (kF .f32) 40 v7 x5.2.1, ownO (kF .f32) 40 v8 x5.2.2.1, boxO bb2 [u1_0, u1_1, u1_2], boxO bb1 [(.int .i64 a0_0), (.int .i64 a0_1), (.bool a0_2), u0_3, u0_4]] := Sep.step (A := []) (L := [boxO bb7 [v40, v41, v42], ownO (kF .f32) 40 v40 x23.1, ownO (kF .f32) 40 v41 x23.2.1, ownO (kF .f32) 40 v42 x23.2.2.1, ownO (kF .f32) 40 v22 x19.2.1, ownO (kF .f32) 40 v23 x19.2.2.1, ownO (kF .f32) 40 v24 x19.2.2.2, ownO (kF .f32) 40 v19 x16.2.1, ownO (kF .f32) 40 v20 x16.2.2.1, ownO (kF .f32) 40 v21 x16.2.2.2, ownO (kF .f32) 40 v17 x15.2.1, ownO (kF .f32) 40 v18 x15.2.2, boxO bb6 [v22, v23, v24], boxO bb5 [v19, v20, v21], boxO bb4 [(.int .i64 x6.1), (.int .i64 x6.2.1), (.bool x6.2.2.1), v17, v18], boxO bb3 [v6, v7, v8], ownO (kF .f32) 40 v6 x5.1, ownO (kF .f32) 40 v7 x5.2.1, ownO (kF .f32) 40 v8 x5.2.2.1, boxO bb2 [u1_0, u1_1, u1_2], boxO bb1 [(.int .i64 a0_0), (.int .i64 a0_1), (.bool a0_2), u0_3, u0_4]]) S_57 (Mod.size X_41) MT_36 T_36
                      refine RL.opD (by decide) (opv_not rfl rfl) ?_
                      refine RL.opD (by decide) (opv_move rfl rfl) ?_
                      refine RL.no rfl rfl (Eq.trans c12 (by decide)) (by decide) ?_
                      refine RL.no rfl rfl (Eq.trans c12 (by decide)) (by decide) ?_
                      refine RL.no rfl rfl (Eq.trans c12 (by decide)) (by decide) ?_
                      refine RL.opD (by decide) (opv_pick rfl rfl (fun _ => rfl) (fun e => absurd (Eq.trans (Eq.symm e) c12) (by decide)) rfl) ?_
                      refine RL.nil ?_
                      have ey3 := Option.some.inj hy3
                      subst ey3
                      refine onlyN ?_
                      exact ⟨⟨rfl, rfl, rfl, rfl, rfl, rfl, rfl, rfl, rfl, rfl, rfl, rfl, rfl, rfl, rfl, rfl, rfl, rfl, rfl, rfl, rfl, rfl, rfl, rfl, rfl, rfl, rfl, trivial⟩, X_42, (Sep.sel S_58 [0, 1, 2, 3, 4, 5, 6, 7, 8, 9, 10, 11, 12, 13, 14, 15, 16, 17, 18, 19, 20] (by decide))⟩
                    · rw [if_neg c12] at hy3
                      have c12 := eq_false_of_ne_true c12
                      refine W.region ?_
                      refine RL.opD (by decide) (opv_loadA (us := [v40, v41, v42]) rfl Try.agg53 Try.size53 rfl (Sep.at (o := boxO bb7 [v40, v41, v42]) S_57 0 rfl) rfl rfl) ?_
                      refine RL.opD (by decide) (opv_loadA (us := [v6, v7, v8]) rfl Try.agg53 Try.size53 rfl (Sep.at (o := boxO bb3 [v6, v7, v8]) S_57 15 rfl) rfl rfl) ?_
                      refine RL.op _ (by decide) (opv_call (cap := []) (laws_eqField_ok _ _ _ (ownO.read (Sep.at (o := ownO (kF .f32) 40 v40 x23.1) S_57 1 rfl)) _ _ (ownO.read (Sep.at (o := ownO (kF .f32) 40 v41 x23.2.1) S_57 2 rfl)) _ _ (ownO.read (Sep.at (o := ownO (kF .f32) 40 v42 x23.2.2.1) S_57 3 rfl)) _ _ (ownO.read (Sep.at (o := ownO (kF .f32) 40 v6 x5.1) S_57 16 rfl)) _ _ (ownO.read (Sep.at (o := ownO (kF .f32) 40 v7 x5.2.1) S_57 17 rfl)) _ _ (ownO.read (Sep.at (o := ownO (kF .f32) 40 v8 x5.2.2.1) S_57 18 rfl)) _ hx25) rfl rfl ⟨rfl, rfl, trivial⟩ Try.func38 rfl rfl) ?_
                      rintro _ hp74 ⟨rfl, MT_36, T_36⟩
                      have X_42 : Mod [] h0 hp74 := Mod.step (A := []) (L := [boxO bb7 [v40, v41, v42], ownO (kF .f32) 40 v40 x23.1, ownO (kF .f32) 40 v41 x23.2.1, ownO (kF .f32) 40 v42 x23.2.2.1, ownO (kF .f32) 40 v22 x19.2.1, ownO (kF .f32) 40 v23 x19.2.2.1, ownO (kF .f32) 40 v24 x19.2.2.2, ownO (kF .f32) 40 v19 x16.2.1, ownO (kF .f32) 40 v20 x16.2.2.1, ownO (kF .f32) 40 v21 x16.2.2.2, ownO (kF .f32) 40 v17 x15.2.1, ownO (kF .f32) 40 v18 x15.2.2, boxO bb6 [v22, v23, v24], boxO bb5 [v19, v20, v21], boxO bb4 [(.int .i64 x6.1), (.int .i64 x6.2.1), (.bool x6.2.2.1), v17, v18], boxO bb3 [v6, v7, v8], ownO (kF .f32) 40 v6 x5.1, ownO (kF .f32) 40 v7 x5.2.1, ownO (kF .f32) 40 v8 x5.2.2.1, boxO bb2 [u1_0, u1_1, u1_2], boxO bb1 [(.int .i64 a0_0), (.int .i64 a0_1), (.bool a0_2), u0_3, u0_4]]) X_41 S_57 MT_36
                      have S_58 : Sep [] h0.size hp74 [boxO bb7 [v40, v41, v42], ownO (kF .f32) 40 v40 x23.1, ownO (kF .f32) 40 v41 x23.2.1, ownO (kF .f32) 40 v42 x23.2.2.1, ownO (kF .f32) 40 v22 x19.2.1, ownO (kF .f32) 40 v23 x19.2.2.1, ownO (kF .f32) 40 v24 x19.2.2.2, ownO (kF .f32) 40 v19 x16.2.1, ownO (kF .f32) 40 v20 x16.2.2.1, ownO (kF .f32) 40 v21 x16.2.2.2, ownO (kF .f32) 40 v17 x15.2.1, ownO (kF .f32) 40 v18 x15.2.2, boxO bb6 [v22, v23, v24], boxO bb5 [v19, v20, v21], boxO bb4 [(.int .i64 x6.1), (.int .i64 x6.2.1), (.bool x6.2.2.1), v17, v18], boxO bb3 [v6, v7, v8], ownO (kF .f32) 40 v6 x5.1, ownO (kF .f32) 40 v7 x5.2.1, ownO (kF .f32) 40 v8 x5.2.2.1, boxO bb2 [u1_0, u1_1, u1_2], boxO bb1 [(.int .i64 a0_0), (.int .i64 a0_1), (.bool a0_2), u0_3, u0_4]] := Sep.step (A := []) (L := [boxO bb7 [v40, v41, v42], ownO (kF .f32) 40 v40 x23.1, ownO (kF .f32) 40 v41 x23.2.1, ownO (kF .f32) 40 v42 x23.2.2.1, ownO (kF .f32) 40 v22 x19.2.1, ownO (kF .f32) 40 v23 x19.2.2.1, ownO (kF .f32) 40 v24 x19.2.2.2, ownO (kF .f32) 40 v19 x16.2.1, ownO (kF .f32) 40 v20 x16.2.2.1, ownO (kF .f32) 40 v21 x16.2.2.2, ownO (kF .f32) 40 v17 x15.2.1, ownO (kF .f32) 40 v18 x15.2.2, boxO bb6 [v22, v23, v24], boxO bb5 [v19, v20, v21], boxO bb4 [(.int .i64 x6.1), (.int .i64 x6.2.1), (.bool x6.2.2.1), v17, v18], boxO bb3 [v6, v7, v8], ownO (kF .f32) 40 v6 x5.1, ownO (kF .f32) 40 v7 x5.2.1, ownO (kF .f32) 40 v8 x5.2.2.1, boxO bb2 [u1_0, u1_1, u1_2], boxO bb1 [(.int .i64 a0_0), (.int .i64 a0_1), (.bool a0_2), u0_3, u0_4]]) S_57 (Mod.size X_41) MT_36 T_36
                      refine RL.opD (by decide) (opv_not rfl rfl) ?_
                      refine RL.opD (by decide) (opv_move rfl rfl) ?_
                      refine RL.yes _ rfl rfl c12 (by decide) (opv_move rfl rfl) ?_
                      rintro _ _ ⟨rfl, rfl⟩
                      refine RL.yes _ rfl rfl c12 (by decide) (opv_move rfl rfl) ?_
                      rintro _ _ ⟨rfl, rfl⟩
                      refine RL.yes _ rfl rfl c12 (by decide) (opv_bcmp rfl rfl Try.underlying4 rfl rfl) ?_
                      rintro _ _ ⟨rfl, rfl⟩
                      refine RL.opD (by decide) (opv_pick rfl rfl (fun e => absurd (Eq.trans (Eq.symm e) c12) (by decide)) (fun _ => rfl) rfl) ?_
                      refine RL.nil ?_
                      have ey3 := Option.some.inj hy3
                      subst ey3
                      refine onlyN ?_
                      exact ⟨⟨rfl, rfl, rfl, rfl, rfl, rfl, rfl, rfl, rfl, rfl, rfl, rfl, rfl, rfl, rfl, rfl, rfl, rfl, rfl, rfl, rfl, rfl, rfl, rfl, rfl, rfl, rfl, trivial⟩, X_42, (Sep.sel S_58 [0, 1, 2, 3, 4, 5, 6, 7, 8, 9, 10, 11, 12, 13, 14, 15, 16, 17, 18, 19, 20] (by decide))⟩
                  rintro φ' hp75 ⟨hs3, X_43, S_59⟩
                  refine thnN ?_
                  refine W.sub hs3 ?_
                  by_cases c13 : x24 = true
                  · rw [if_pos c13] at hp
                    refine W.condT rfl c13 ?_
                    refine W.seq ?_
                    refine W.region ?_
                    refine RL.opD (by decide) (opv_assign rfl rfl) ?_
                    refine RL.nil ?_
                    refine thnN ?_
                    refine W.ret ?_
                    refine thnR ?_
                    have er := Option.some.inj hp
                    subst er
                    exact Rt.one rfl rfl ⟨rfl, X_43, (Sep.nil _ _ _)⟩
                  · rw [if_neg c13] at hp
                    have c13 := eq_false_of_ne_true c13
                    refine W.condF rfl c13 ?_
                    refine W.skip ?_
                    refine thnN ?_
                    refine W.seq ?_
                    refine W.region ?_
                    refine RL.opD (by decide) (opv_assign rfl rfl) ?_
                    refine RL.nil ?_
                    refine thnN ?_
                    refine W.seq ?_
                    obtain ⟨x26, hx26, hp⟩ := Option.bind_eq_some_iff.1 hp
                    refine W.region ?_
                    refine RL.opD (by decide) (opv_loadA (us := [v22, v23, v24]) rfl Try.agg53 Try.size53 rfl (Sep.at (o := boxO bb6 [v22, v23, v24]) S_59 12 rfl) rfl rfl) ?_
                    refine RL.opD (by decide) (opv_move rfl rfl) ?_
                    refine RL.op _ (by decide) (opv_call (cap := []) (laws_heldField_ok _ _ _ (ownO.read (Sep.at (o := ownO (kF .f32) 40 v22 x19.2.1) S_59 4 rfl)) _ _ (ownO.read (Sep.at (o := ownO (kF .f32) 40 v23 x19.2.2.1) S_59 5 rfl)) _ _ (ownO.read (Sep.at (o := ownO (kF .f32) 40 v24 x19.2.2.2) S_59 6 rfl)) _ _ hx26) rfl rfl ⟨rfl, rfl, trivial⟩ Try.func66 rfl rfl) ?_
                    rintro _ hp76 ⟨rfl, MT_37, T_37⟩
                    have X_44 : Mod [] h0 hp76 := Mod.step (A := []) (L := [boxO bb7 [v40, v41, v42], ownO (kF .f32) 40 v40 x23.1, ownO (kF .f32) 40 v41 x23.2.1, ownO (kF .f32) 40 v42 x23.2.2.1, ownO (kF .f32) 40 v22 x19.2.1, ownO (kF .f32) 40 v23 x19.2.2.1, ownO (kF .f32) 40 v24 x19.2.2.2, ownO (kF .f32) 40 v19 x16.2.1, ownO (kF .f32) 40 v20 x16.2.2.1, ownO (kF .f32) 40 v21 x16.2.2.2, ownO (kF .f32) 40 v17 x15.2.1, ownO (kF .f32) 40 v18 x15.2.2, boxO bb6 [v22, v23, v24], boxO bb5 [v19, v20, v21], boxO bb4 [(.int .i64 x6.1), (.int .i64 x6.2.1), (.bool x6.2.2.1), v17, v18], boxO bb3 [v6, v7, v8], ownO (kF .f32) 40 v6 x5.1, ownO (kF .f32) 40 v7 x5.2.1, ownO (kF .f32) 40 v8 x5.2.2.1, boxO bb2 [u1_0, u1_1, u1_2], boxO bb1 [(.int .i64 a0_0), (.int .i64 a0_1), (.bool a0_2), u0_3, u0_4]]) X_43 S_59 MT_37
                    have S_60 : Sep [] h0.size hp76 [boxO bb7 [v40, v41, v42], ownO (kF .f32) 40 v40 x23.1, ownO (kF .f32) 40 v41 x23.2.1, ownO (kF .f32) 40 v42 x23.2.2.1, ownO (kF .f32) 40 v22 x19.2.1, ownO (kF .f32) 40 v23 x19.2.2.1, ownO (kF .f32) 40 v24 x19.2.2.2, ownO (kF .f32) 40 v19 x16.2.1, ownO (kF .f32) 40 v20 x16.2.2.1, ownO (kF .f32) 40 v21 x16.2.2.2, ownO (kF .f32) 40 v17 x15.2.1, ownO (kF .f32) 40 v18 x15.2.2, boxO bb6 [v22, v23, v24], boxO bb5 [v19, v20, v21], boxO bb4 [(.int .i64 x6.1), (.int .i64 x6.2.1), (.bool x6.2.2.1), v17, v18], boxO bb3 [v6, v7, v8], ownO (kF .f32) 40 v6 x5.1, ownO (kF .f32) 40 v7 x5.2.1, ownO (kF .f32) 40 v8 x5.2.2.1, boxO bb2 [u1_0, u1_1, u1_2], boxO bb1 [(.int .i64 a0_0), (.int .i64 a0_1), (.bool a0_2), u0_3, u0_4]] := Sep.step (A := []) (L := [boxO bb7 [v40, v41, v42], ownO (kF .f32) 40 v40 x23.1, ownO (kF .f32) 40 v41 x23.2.1, ownO (kF .f32) 40 v42 x23.2.2.1, ownO (kF .f32) 40 v22 x19.2.1, ownO (kF .f32) 40 v23 x19.2.2.1, ownO (kF .f32) 40 v24 x19.2.2.2, ownO (kF .f32) 40 v19 x16.2.1, ownO (kF .f32) 40 v20 x16.2.2.1, ownO (kF .f32) 40 v21 x16.2.2.2, ownO (kF .f32) 40 v17 x15.2.1, ownO (kF .f32) 40 v18 x15.2.2, boxO bb6 [v22, v23, v24], boxO bb5 [v19, v20, v21], boxO bb4 [(.int .i64 x6.1), (.int .i64 x6.2.1), (.bool x6.2.2.1), v17, v18], boxO bb3 [v6, v7, v8], ownO (kF .f32) 40 v6 x5.1, ownO (kF .f32) 40 v7 x5.2.1, ownO (kF .f32) 40 v8 x5.2.2.1, boxO bb2 [u1_0, u1_1, u1_2], boxO bb1 [(.int .i64 a0_0), (.int .i64 a0_1), (.bool a0_2), u0_3, u0_4]]) S_59 (Mod.size X_43) MT_37 T_37
                    refine RL.opD (by decide) (opv_assign rfl rfl) ?_
                    refine RL.nil ?_
                    refine thnN ?_
                    refine W.seq ?_
                    refine W.seq ?_
                    refine W.region ?_
                    refine RL.opD (by decide) (opv_move rfl rfl) ?_
                    refine RL.opD (by decide) (opv_icmp rfl rfl rfl rfl) ?_
                    refine RL.nil ?_
                    refine thnN ?_
                    by_cases c14 : (decide (x26 < 0)) = true
                    · rw [if_pos c14] at hp
                      refine W.condT rfl c14 ?_
                      refine W.seq ?_
                      refine W.region ?_
                      refine RL.opD (by decide) (opv_assign rfl rfl) ?_
                      refine RL.nil ?_
                      refine thnN ?_
                      refine W.ret ?_
                      refine thnR ?_
                      have er := Option.some.inj hp
                      subst er
                      exact Rt.one rfl rfl ⟨rfl, X_44, (Sep.nil _ _ _)⟩
                    · rw [if_neg c14] at hp
                      have c14 := eq_false_of_ne_true c14
                      refine W.condF rfl c14 ?_
                      refine W.skip ?_
                      refine thnN ?_
                      refine W.seq ?_
                      refine W.seq ?_
                      refine W.region ?_
                      refine RL.opD (by decide) (opv_move rfl rfl) ?_
                      refine RL.opD (by decide) (opv_move rfl rfl) ?_
                      refine RL.opD (by decide) (opv_icmp rfl rfl rfl rfl) ?_
                      refine RL.nil ?_
                      refine thnN ?_
                      by_cases c15 : (x26 != x19.1) = true
                      · rw [if_pos c15] at hp
                        refine W.condT rfl c15 ?_
                        refine W.seq ?_
                        refine W.region ?_
                        refine RL.opD (by decide) (opv_assign rfl rfl) ?_
                        refine RL.nil ?_
                        refine thnN ?_
                        refine W.ret ?_
                        refine thnR ?_
                        have er := Option.some.inj hp
                        subst er
                        exact Rt.one rfl rfl ⟨rfl, X_44, (Sep.nil _ _ _)⟩
                      · rw [if_neg c15] at hp
                        have c15 := eq_false_of_ne_true c15
                        refine W.condF rfl c15 ?_
                        refine W.skip ?_
                        refine thnN ?_
                        refine W.seq ?_
                        refine W.region ?_
                        refine RL.opD (by decide) (opv_assign rfl rfl) ?_
                        refine RL.nil ?_
                        refine thnN ?_
                        refine W.ret ?_
                        have er := Option.some.inj hp
                        subst er
                        exact Rt.one rfl rfl ⟨rfl, X_44, (Sep.nil _ _ _)⟩

end Go.H
