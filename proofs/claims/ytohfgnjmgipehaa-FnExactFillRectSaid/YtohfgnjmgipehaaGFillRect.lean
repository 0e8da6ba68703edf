/- Functions of the program: what each computes, as a plain function, and that the call comes to it. Written by a program (wip/gen). -/
import Derived.Test.YtohfgnjmgipehaaPRect
import Derived.Test.YtohfgnjmgipehaaBase18
import Derived.Test.YtohfgnjmgipehaaProg
import Derived.KernelRfl
set_option linter.unusedVariables false
namespace Go.H
open Go Go.Proofs



noncomputable def spec_FillRect.s0 (a0_0 : Int) (a1_0 : Int) (a1_1 : Int) (a1_2 : Int) (a1_3 : Int) (a2 : Option Nat) (a3 : Option Nat) (x6 : (Int × Int × Bool × (List (Option Nat)) × (List (Option Nat)))) (x7 : Int) (x8 : List (Option Nat)) (x9 : List (Option Nat)) : Option ((Int × (List (Option Nat)) × (List (Option Nat))) ⊕ (Int × Bool × (List (Option Nat)) × (List (Option Nat)))) :=
  (if (decide (x7 < (x6.2.2.2.1.length : Int))) = true then (if a0_0 = 0 then none else (if a0_0 = 0 then none else ((spec_l05In a1_0 a1_1 a1_2 a1_3 (Int.tmod x7 a0_0) (IntKind.wrap .i64 (Int.tdiv x7 a0_0))).bind fun (x14 : Bool) => (((if x14 = true then ((idx x8 x7).bind fun (x17 : Option Nat) => ((setF x8 x7 a2).bind fun (x18 : List (Option Nat)) => ((idx x9 x7).bind fun (x19 : Option Nat) => ((setF x9 x7 a3).bind fun (x20 : List (Option Nat)) => some (x20, x18))))) else some (x9, x8)) : Option ((List (Option Nat)) × (List (Option Nat)))).bind fun (⟨x15, x16⟩ : ((List (Option Nat)) × (List (Option Nat)))) => some (.inl (IntKind.wrap .i64 (x7 + 1), x16, x15)))))) else some (.inr (x7, decide (x7 < (x6.2.2.2.1.length : Int)), x8, x9)))

noncomputable def spec_FillRect (a0_0 : Int) (a0_1 : Int) (a0_2 : Bool) (a0_3 : List (Option Nat)) (a0_4 : List (Option Nat)) (a1_0 : Int) (a1_1 : Int) (a1_2 : Int) (a1_3 : Int) (a2 : Option Nat) (a3 : Option Nat) : Option (Int × Int × Bool × (List (Option Nat)) × (List (Option Nat)) × Bool) :=
  ((((spec_l02Is a0_0 a0_1 a0_2 a0_3 a0_4).bind fun (x2 : Bool) => (if (!x2) = true then some true else ((spec_l05Rect a0_0 a0_1 a0_2 a0_3 a0_4 a1_0 a1_1 a1_2 a1_3).bind fun (x3 : Bool) => (if (!x3) = true then some true else ((spec_l05Share a2 (some 1056964608)).bind fun (x4 : Bool) => (if (!x4) = true then some true else ((spec_l05Share a3 (some 1065353216)).bind fun (x5 : Bool) => some (!x5)))))))) : Option Bool).bind fun (x1 : Bool) => (if x1 = true then some (0, 0, false, ([] : List (Option Nat)), ([] : List (Option Nat)), false) else ((spec_l05Own a0_0 a0_1 a0_2 a0_3 a0_4).bind fun (x6 : (Int × Int × Bool × (List (Option Nat)) × (List (Option Nat)))) => ((loopF (fun (s : (Int × (List (Option Nat)) × (List (Option Nat)))) => spec_FillRect.s0 a0_0 a1_0 a1_1 a1_2 a1_3 a2 a3 x6 s.1 s.2.1 s.2.2) (0, x6.2.2.2.1, x6.2.2.2.2)).bind fun (⟨x10, x11, x12, x13⟩ : (Int × Bool × (List (Option Nat)) × (List (Option Nat)))) => some (x6.1, x6.2.1, x6.2.2.1, x12, x13, true)))))

noncomputable def impl_FillRect_1_2 (a0 : Int) (a1 : Int) (a2 : Int) (ae0_0 : Int) (ae0_1 : Int) (ae0_2 : Int) (ae0_3 : Int) (ae1_0 : Option Nat) (ae2_0 : Option Nat) (ae3_0 : Int) (ae3_1 : Int) (ae3_2 : Bool) (ae3_3 : List (Option Nat)) (ae3_4 : List (Option Nat)) : Option (Int × Int × Int × Int × (Option Nat) × (Option Nat) × Int × Int × Bool × (List (Option Nat)) × (List (Option Nat))) :=
  ((impl_Rect_has ae0_0 ae0_1 ae0_2 ae0_3 a0 a1).bind fun (x1 : Bool) => (((if x1 = true then ((idx ae3_3 a2).bind fun (x4 : Option Nat) => ((setF ae3_3 a2 ae1_0).bind fun (x5 : List (Option Nat)) => ((idx ae3_4 a2).bind fun (x6 : Option Nat) => ((setF ae3_4 a2 ae2_0).bind fun (x7 : List (Option Nat)) => some (x7, x5))))) else some (ae3_4, ae3_3)) : Option ((List (Option Nat)) × (List (Option Nat)))).bind fun (⟨x2, x3⟩ : ((List (Option Nat)) × (List (Option Nat)))) => some (ae0_0, ae0_1, ae0_2, ae0_3, ae1_0, ae2_0, ae3_0, ae3_1, ae3_2, x3, x2)))

noncomputable def impl_Sheet_each__impl_FillRect_1.s1 (a0_0 : Int) (a0_1 : Int) (a0_2 : Bool) (a0_3 : List (Option Nat)) (a0_4 : List (Option Nat)) (x1 : Int) (x26 : Int) (x27 : Int) (x28 : Int) (x29 : Int) (x30 : Int) (x31 : Option Nat) (x32 : Option Nat) (x33 : Int) (x34 : Int) (x35 : Bool) (x36 : List (Option Nat)) (x37 : List (Option Nat)) : Option ((Int × Int × Int × Int × Int × (Option Nat) × (Option Nat) × Int × Int × Bool × (List (Option Nat)) × (List (Option Nat))) ⊕ (Int × Bool × Int × Int × Int × Int × (Option Nat) × (Option Nat) × Int × Int × Bool × (List (Option Nat)) × (List (Option Nat)))) :=
  (if (decide (x26 < a0_0)) = true then ((impl_Sheet_at a0_0 a0_1 a0_2 a0_3 a0_4 x26 x1).bind fun (x51 : Int) => ((impl_FillRect_1_2 x26 x1 x51 x27 x28 x29 x30 x31 x32 x33 x34 x35 x36 x37).bind fun (x52 : (Int × Int × Int × Int × (Option Nat) × (Option Nat) × Int × Int × Bool × (List (Option Nat)) × (List (Option Nat)))) => some (.inl (IntKind.wrap .i64 (x26 + 1), x52.1, x52.2.1, x52.2.2.1, x52.2.2.2.1, x52.2.2.2.2.1, x52.2.2.2.2.2.1, x52.2.2.2.2.2.2.1, x52.2.2.2.2.2.2.2.1, x52.2.2.2.2.2.2.2.2.1, x52.2.2.2.2.2.2.2.2.2.1, x52.2.2.2.2.2.2.2.2.2.2)))) else some (.inr (x26, decide (x26 < a0_0), x27, x28, x29, x30, x31, x32, x33, x34, x35, x36, x37)))

noncomputable def impl_Sheet_each__impl_FillRect_1.s0 (a0_0 : Int) (a0_1 : Int) (a0_2 : Bool) (a0_3 : List (Option Nat)) (a0_4 : List (Option Nat)) (x1 : Int) (x2 : Int) (x3 : Int) (x4 : Int) (x5 : Int) (x6 : Option Nat) (x7 : Option Nat) (x8 : Int) (x9 : Int) (x10 : Bool) (x11 : List (Option Nat)) (x12 : List (Option Nat)) : Option ((Int × Int × Int × Int × Int × (Option Nat) × (Option Nat) × Int × Int × Bool × (List (Option Nat)) × (List (Option Nat))) ⊕ (Int × Bool × Int × Int × Int × Int × (Option Nat) × (Option Nat) × Int × Int × Bool × (List (Option Nat)) × (List (Option Nat)))) :=
  (if (decide (x1 < a0_1)) = true then ((loopF (fun (s : (Int × Int × Int × Int × Int × (Option Nat) × (Option Nat) × Int × Int × Bool × (List (Option Nat)) × (List (Option Nat)))) => impl_Sheet_each__impl_FillRect_1.s1 a0_0 a0_1 a0_2 a0_3 a0_4 x1 s.1 s.2.1 s.2.2.1 s.2.2.2.1 s.2.2.2.2.1 s.2.2.2.2.2.1 s.2.2.2.2.2.2.1 s.2.2.2.2.2.2.2.1 s.2.2.2.2.2.2.2.2.1 s.2.2.2.2.2.2.2.2.2.1 s.2.2.2.2.2.2.2.2.2.2.1 s.2.2.2.2.2.2.2.2.2.2.2) (0, x2, x3, x4, x5, x6, x7, x8, x9, x10, x11, x12)).bind fun (⟨x38, x39, x40, x41, x42, x43, x44, x45, x46, x47, x48, x49, x50⟩ : (Int × Bool × Int × Int × Int × Int × (Option Nat) × (Option Nat) × Int × Int × Bool × (List (Option Nat)) × (List (Option Nat)))) => some (.inl (IntKind.wrap .i64 (x1 + 1), x40, x41, x42, x43, x44, x45, x46, x47, x48, x49, x50))) else some (.inr (x1, decide (x1 < a0_1), x2, x3, x4, x5, x6, x7, x8, x9, x10, x11, x12)))

noncomputable def impl_Sheet_each__impl_FillRect_1 (a0_0 : Int) (a0_1 : Int) (a0_2 : Bool) (a0_3 : List (Option Nat)) (a0_4 : List (Option Nat)) (ae0_0 : Int) (ae0_1 : Int) (ae0_2 : Int) (ae0_3 : Int) (ae1_0 : Option Nat) (ae2_0 : Option Nat) (ae3_0 : Int) (ae3_1 : Int) (ae3_2 : Bool) (ae3_3 : List (Option Nat)) (ae3_4 : List (Option Nat)) : Option (Int × Int × Int × Int × (Option Nat) × (Option Nat) × Int × Int × Bool × (List (Option Nat)) × (List (Option Nat))) :=
  ((loopF (fun (s : (Int × Int × Int × Int × Int × (Option Nat) × (Option Nat) × Int × Int × Bool × (List (Option Nat)) × (List (Option Nat)))) => impl_Sheet_each__impl_FillRect_1.s0 a0_0 a0_1 a0_2 a0_3 a0_4 s.1 s.2.1 s.2.2.1 s.2.2.2.1 s.2.2.2.2.1 s.2.2.2.2.2.1 s.2.2.2.2.2.2.1 s.2.2.2.2.2.2.2.1 s.2.2.2.2.2.2.2.2.1 s.2.2.2.2.2.2.2.2.2.1 s.2.2.2.2.2.2.2.2.2.2.1 s.2.2.2.2.2.2.2.2.2.2.2) (0, ae0_0, ae0_1, ae0_2, ae0_3, ae1_0, ae2_0, ae3_0, ae3_1, ae3_2, ae3_3, ae3_4)).bind fun (⟨x13, x14, x15, x16, x17, x18, x19, x20, x21, x22, x23, x24, x25⟩ : (Int × Bool × Int × Int × Int × Int × (Option Nat) × (Option Nat) × Int × Int × Bool × (List (Option Nat)) × (List (Option Nat)))) => some (x15, x16, x17, x18, x19, x20, x21, x22, x23, x24, x25))

noncomputable def impl_FillRect (a0_0 : Int) (a0_1 : Int) (a0_2 : Bool) (a0_3 : List (Option Nat)) (a0_4 : List (Option Nat)) (a1_0 : Int) (a1_1 : Int) (a1_2 : Int) (a1_3 : Int) (a2 : Option Nat) (a3 : Option Nat) : Option (Int × Int × Bool × (List (Option Nat)) × (List (Option Nat)) × Bool) :=
  ((((impl_IsRect a0_0 a0_1 a0_2 a0_3 a0_4 a1_0 a1_1 a1_2 a1_3).bind fun (x2 : Bool) => (if (!x2) = true then some true else (if (fcmp .geq .f32 a2 (some 0)) = true then (if (!(fcmp .leq .f32 a2 (some 1056964608))) = true then some true else ((impl_isShare a3).bind fun (x3 : Bool) => some (!x3))) else (if (!false) = true then some true else ((impl_isShare a3).bind fun (x4 : Bool) => some (!x4)))))) : Option Bool).bind fun (x1 : Bool) => (if x1 = true then some (0, 0, false, ([] : List (Option Nat)), ([] : List (Option Nat)), false) else ((impl_copySheet a0_0 a0_1 a0_2 a0_3 a0_4).bind fun (x5 : (Int × Int × Bool × (List (Option Nat)) × (List (Option Nat)))) => ((impl_Sheet_each__impl_FillRect_1 a0_0 a0_1 a0_2 a0_3 a0_4 a1_0 a1_1 a1_2 a1_3 a2 a3 x5.1 x5.2.1 x5.2.2.1 x5.2.2.2.1 x5.2.2.2.2).bind fun (x6 : (Int × Int × Int × Int × (Option Nat) × (Option Nat) × Int × Int × Bool × (List (Option Nat)) × (List (Option Nat)))) => some (x6.2.2.2.2.2.2.1, x6.2.2.2.2.2.2.2.1, x6.2.2.2.2.2.2.2.2.1, x6.2.2.2.2.2.2.2.2.2.1, x6.2.2.2.2.2.2.2.2.2.2, true)))))

noncomputable def laws_FnExactFillRect (a0_0 : Int) (a0_1 : Int) (a0_2 : Bool) (a0_3 : List (Option Nat)) (a0_4 : List (Option Nat)) (a1_0 : Int) (a1_1 : Int) (a1_2 : Int) (a1_3 : Int) (a2 : Option Nat) (a3 : Option Nat) : Option Bool :=
  ((laws_szSheet a0_0 a0_1 a0_2 a0_3 a0_4 1048576).bind fun (x1 : Int) => (if (decide (x1 < 0)) = true then some true else ((laws_toSheet a0_0 a0_1 a0_2 a0_3 a0_4).bind fun (x2 : (Int × Int × Bool × (List (Option Nat)) × (List (Option Nat)))) => ((laws_toRect a1_0 a1_1 a1_2 a1_3).bind fun (x3 : (Int × Int × Int × Int)) => ((spec_FillRect x2.1 x2.2.1 x2.2.2.1 x2.2.2.2.1 x2.2.2.2.2 x3.1 x3.2.1 x3.2.2.1 x3.2.2.2 a2 a3).bind fun (x4 : (Int × Int × Bool × (List (Option Nat)) × (List (Option Nat)) × Bool)) => ((laws_toSheet a0_0 a0_1 a0_2 a0_3 a0_4).bind fun (x5 : (Int × Int × Bool × (List (Option Nat)) × (List (Option Nat)))) => ((laws_toRect a1_0 a1_1 a1_2 a1_3).bind fun (x6 : (Int × Int × Int × Int)) => ((impl_FillRect x5.1 x5.2.1 x5.2.2.1 x5.2.2.2.1 x5.2.2.2.2 x6.1 x6.2.1 x6.2.2.1 x6.2.2.2 a2 a3).bind fun (x7 : (Int × Int × Bool × (List (Option Nat)) × (List (Option Nat)) × Bool)) => ((((laws_eqSheet x7.1 x7.2.1 x7.2.2.1 x7.2.2.2.1 x7.2.2.2.2.1 x4.1 x4.2.1 x4.2.2.1 x4.2.2.2.1 x4.2.2.2.2.1).bind fun (x9 : Bool) => (if (!x9) = true then some true else some (x7.2.2.2.2.2 != x4.2.2.2.2.2))) : Option Bool).bind fun (x8 : Bool) => (if x8 = true then some false else ((laws_toSheet a0_0 a0_1 a0_2 a0_3 a0_4).bind fun (x10 : (Int × Int × Bool × (List (Option Nat)) × (List (Option Nat)))) => ((laws_eqSheet x5.1 x5.2.1 x5.2.2.1 x5.2.2.2.1 x5.2.2.2.2 x10.1 x10.2.1 x10.2.2.1 x10.2.2.2.1 x10.2.2.2.2).bind fun (x11 : Bool) => (if (!x11) = true then some false else ((laws_markSheet x5.1 x5.2.1 x5.2.2.1 x5.2.2.2.1 x5.2.2.2.2 1).bind fun (x12 : (Int × (List (Option Nat)) × (List (Option Nat)))) => (((if (decide (x12.1 < 0)) = true then some true else ((laws_eqSheet x7.1 x7.2.1 x7.2.2.1 x7.2.2.2.1 x7.2.2.2.2.1 x4.1 x4.2.1 x4.2.2.1 x4.2.2.2.1 x4.2.2.2.2.1).bind fun (x14 : Bool) => (if (!x14) = true then some true else some (x7.2.2.2.2.2 != x4.2.2.2.2.2)))) : Option Bool).bind fun (x13 : Bool) => (if x13 = true then some false else ((laws_markSheet x7.1 x7.2.1 x7.2.2.1 x7.2.2.2.1 x7.2.2.2.2.1 1).bind fun (x15 : (Int × (List (Option Nat)) × (List (Option Nat)))) => ((laws_heldSheet x7.1 x7.2.1 x7.2.2.1 x15.2.1 x15.2.2 1).bind fun (x16 : Int) => (if (decide (x16 < 0)) = true then some false else (if (x16 != x15.1) = true then some false else ((laws_toSheet a0_0 a0_1 a0_2 a0_3 a0_4).bind fun (x17 : (Int × Int × Bool × (List (Option Nat)) × (List (Option Nat)))) => ((laws_toRect a1_0 a1_1 a1_2 a1_3).bind fun (x18 : (Int × Int × Int × Int)) => ((impl_FillRect x17.1 x17.2.1 x17.2.2.1 x17.2.2.2.1 x17.2.2.2.2 x18.1 x18.2.1 x18.2.2.1 x18.2.2.2 a2 a3).bind fun (x19 : (Int × Int × Bool × (List (Option Nat)) × (List (Option Nat)) × Bool)) => ((((laws_eqSheet x19.1 x19.2.1 x19.2.2.1 x19.2.2.2.1 x19.2.2.2.2.1 x4.1 x4.2.1 x4.2.2.1 x4.2.2.2.1 x4.2.2.2.2.1).bind fun (x21 : Bool) => (if (!x21) = true then some true else some (x19.2.2.2.2.2 != x4.2.2.2.2.2))) : Option Bool).bind fun (x20 : Bool) => (if x20 = true then some false else ((laws_heldSheet x7.1 x7.2.1 x7.2.2.1 x15.2.1 x15.2.2 1).bind fun (x22 : Int) => (if (decide (x22 < 0)) = true then some false else (if (x22 != x15.1) = true then some false else some true))))))))))))))))))))))))))))

set_option maxRecDepth 20000 in
theorem spec_FillRect_ok (h0 : Heap) (a0_0 : Int) (a0_1 : Int) (a0_2 : Bool) (u0_3 : Value) (a0_3 : List (Option Nat)) (g0_3 : SL (kF .f32) h0.size h0 u0_3 a0_3) (u0_4 : Value) (a0_4 : List (Option Nat)) (g0_4 : SL (kF .f32) h0.size h0 u0_4 a0_4) (a1_0 : Int) (a1_1 : Int) (a1_2 : Int) (a1_3 : Int) (u2 : Value) (a2 : Option Nat) (g2 : IsF .f32 u2 a2) (u3 : Value) (a3 : Option Nat) (g3 : IsF .f32 u3 a3) (r : (Int × Int × Bool × (List (Option Nat)) × (List (Option Nat)) × Bool)) (hp : spec_FillRect a0_0 a0_1 a0_2 a0_3 a0_4 a1_0 a1_1 a1_2 a1_3 a2 a3 = some r) : CallsH Try.prog 55 ([(.agg (List.toArray (α := Value) [(.int .i64 a0_0), (.int .i64 a0_1), (.bool a0_2), u0_3, u0_4])), (.agg (List.toArray (α := Value) [(.int .i64 a1_0), (.int .i64 a1_1), (.int .i64 a1_2), (.int .i64 a1_3)])), u2, u3].toArray ++ [].toArray) h0 (fun v h' => ∃ w3, ∃ w4, v = (.tuple (List.toArray (α := Value) [(.agg (List.toArray (α := Value) [(.int .i64 r.1), (.int .i64 r.2.1), (.bool r.2.2.1), w3, w4])), (.bool r.2.2.2.2.2)])) ∧ Mod [] h0 h' ∧ Sep [] h0.size h' [ownO (kF .f32) 40 w3 r.2.2.2.1, ownO (kF .f32) 40 w4 r.2.2.2.2.1]) := by
  unfold spec_FillRect at hp
  refine callsH_of_W (l := [(.agg (List.toArray (α := Value) [(.int .i64 a0_0), (.int .i64 a0_1), (.bool a0_2), u0_3, u0_4])), (.agg (List.toArray (α := Value) [(.int .i64 a1_0), (.int .i64 a1_1), (.int .i64 a1_2), (.int .i64 a1_3)])), u2, u3]) (cap := []) 57 Try.func55 rfl rfl rfl ?_
  refine W.seq ?_
  refine W.region ?_
  refine RL.op _ (by decide) (opS_boxed (opv_boxA (cs := [(.int .i64 a0_0), (.int .i64 a0_1), (.bool a0_2), u0_3, u0_4]) rfl rfl)) ?_
  rintro _ hp1 ⟨bb1, rfl, MT_1, T_1⟩
  have X_1 : Mod [] h0 hp1 := Mod.step (A := []) (L := []) (Mod.refl [] h0) (Sep.nil [] h0.size h0) MT_1
  have S_1 : Sep [] h0.size hp1 [boxO bb1 [(.int .i64 a0_0), (.int .i64 a0_1), (.bool a0_2), u0_3, u0_4]] := Sep.step (A := []) (L := []) (Sep.nil [] h0.size h0) (Mod.size (Mod.refl [] h0)) MT_1 T_1
  refine RL.op _ (by decide) (opS_boxed (opv_boxA (cs := [(.int .i64 a1_0), (.int .i64 a1_1), (.int .i64 a1_2), (.int .i64 a1_3)]) rfl rfl)) ?_
  rintro _ hp2 ⟨bb2, rfl, MT_2, T_2⟩
  have X_2 : Mod [] h0 hp2 := Mod.step (A := []) (L := [boxO bb1 [(.int .i64 a0_0), (.int .i64 a0_1), (.bool a0_2), u0_3, u0_4]]) X_1 S_1 MT_2
  have S_2 : Sep [] h0.size hp2 [boxO bb2 [(.int .i64 a1_0), (.int .i64 a1_1), (.int .i64 a1_2), (.int .i64 a1_3)], boxO bb1 [(.int .i64 a0_0), (.int .i64 a0_1), (.bool a0_2), u0_3, u0_4]] := Sep.step (A := []) (L := [boxO bb1 [(.int .i64 a0_0), (.int .i64 a0_1), (.bool a0_2), u0_3, u0_4]]) S_1 (Mod.size X_1) MT_2 T_2
  refine RL.op _ (by decide) (opS_boxed (opv_alloc (cs := [(.int .i64 0), (.int .i64 0), (.bool false), (.slice none 0 0), (.slice none 0 0)]) rfl Try.zero29 rfl)) ?_
  rintro _ hp3 ⟨bb3, rfl, MT_3, T_3⟩
  have X_3 : Mod [] h0 hp3 := Mod.step (A := []) (L := [boxO bb2 [(.int .i64 a1_0), (.int .i64 a1_1), (.int .i64 a1_2), (.int .i64 a1_3)], boxO bb1 [(.int .i64 a0_0), (.int .i64 a0_1), (.bool a0_2), u0_3, u0_4]]) X_2 S_2 MT_3
  have S_3 : Sep [] h0.size hp3 [boxO bb3 [(.int .i64 0), (.int .i64 0), (.bool false), (.slice none 0 0), (.slice none 0 0)], boxO bb2 [(.int .i64 a1_0), (.int .i64 a1_1), (.int .i64 a1_2), (.int .i64 a1_3)], boxO bb1 [(.int .i64 a0_0), (.int .i64 a0_1), (.bool a0_2), u0_3, u0_4]] := Sep.step (A := []) (L := [boxO bb2 [(.int .i64 a1_0), (.int .i64 a1_1), (.int .i64 a1_2), (.int .i64 a1_3)], boxO bb1 [(.int .i64 a0_0), (.int .i64 a0_1), (.bool a0_2), u0_3, u0_4]]) S_2 (Mod.size X_2) MT_3 T_3
  refine RL.opD (by decide) (opv_assign rfl rfl) ?_
  refine RL.nil ?_
  refine thnN ?_
  refine W.seq ?_
  refine W.seq ?_
  obtain ⟨x1, hy1, hp⟩ := Option.bind_eq_some_iff.1 hp
  refine W.cut (fun φ' h' => Fr.sub [(0, (.agg (List.toArray (α := Value) [(.int .i64 a0_0), (.int .i64 a0_1), (.bool a0_2), u0_3, u0_4]))), (1, (.agg (List.toArray (α := Value) [(.int .i64 a1_0), (.int .i64 a1_1), (.int .i64 a1_2), (.int .i64 a1_3)]))), (2, u2), (3, u3), (4, (.pointer (some ⟨bb1, 0, none⟩))), (5, (.pointer (some ⟨bb2, 0, none⟩))), (8, (.pointer (some ⟨bb3, 0, none⟩))), (9, (.bool false)), (27, (.bool x1))] φ' ∧ hp3 = h') ?_ ?_
  · obtain ⟨x2, hx2, hy1⟩ := Option.bind_eq_some_iff.1 hy1
    by_cases c1 : (!x2) = true
    · rw [if_pos c1] at hy1
      refine W.region ?_
      refine RL.op _ (by decide) (opv_call (cap := []) (spec_l02Is_ok _ _ _ _ _ _ _ (SL.up (SL.mod g0_3 X_3 (Nat.le_refl _) nob) (Nat.le_trans (Nat.le_refl _) (Mod.size X_3))) _ _ (SL.up (SL.mod g0_4 X_3 (Nat.le_refl _) nob) (Nat.le_trans (Nat.le_refl _) (Mod.size X_3))) (Sep.at (o := boxO bb1 [(.int .i64 a0_0), (.int .i64 a0_1), (.bool a0_2), u0_3, u0_4]) S_3 2 rfl) _ hx2) rfl rfl ⟨rfl, trivial⟩ Try.func74 rfl rfl) ?_
      rintro _ _ ⟨rfl, rfl⟩
      refine RL.opD (by decide) (opv_not rfl rfl) ?_
      refine RL.opD (by decide) (opv_move rfl rfl) ?_
      refine RL.no rfl rfl (Eq.trans c1 (by decide)) (by decide) ?_
      refine RL.no rfl rfl (Eq.trans c1 (by decide)) (by decide) ?_
      refine RL.opD (by decide) (opv_pick rfl rfl (fun _ => rfl) (fun e => absurd (Eq.trans (Eq.symm e) c1) (by decide)) rfl) ?_
      refine RL.opD (by decide) (opv_move rfl rfl) ?_
      refine RL.no rfl rfl (Eq.trans rfl (by decide)) (by decide) ?_
      refine RL.no rfl rfl (Eq.trans rfl (by decide)) (by decide) ?_
      refine RL.no rfl rfl (Eq.trans rfl (by decide)) (by decide) ?_
      refine RL.opD (by decide) (opv_pick rfl rfl (fun _ => rfl) (fun e => absurd (Eq.trans (Eq.symm e) rfl) (by decide)) rfl) ?_
      refine RL.opD (by decide) (opv_move rfl rfl) ?_
      refine RL.no rfl rfl (Eq.trans rfl (by decide)) (by decide) ?_
      refine RL.no rfl rfl (Eq.trans rfl (by decide)) (by decide) ?_
      refine RL.no rfl rfl (Eq.trans rfl (by decide)) (by decide) ?_
      refine RL.opD (by decide) (opv_pick rfl rfl (fun _ => rfl) (fun e => absurd (Eq.trans (Eq.symm e) rfl) (by decide)) rfl) ?_
      refine RL.nil ?_
      have ey1 := Option.some.inj hy1
      subst ey1
      refine onlyN ?_
      exact ⟨⟨rfl, rfl, rfl, rfl, rfl, rfl, rfl, rfl, rfl, trivial⟩, rfl⟩
    · rw [if_neg c1] at hy1
      have c1 := eq_false_of_ne_true c1
      obtain ⟨x3, hx3, hy1⟩ := Option.bind_eq_some_iff.1 hy1
      by_cases c2 : (!x3) = true
      · rw [if_pos c2] at hy1
        refine W.region ?_
        refine RL.op _ (by decide) (opv_call (cap := []) (spec_l02Is_ok _ _ _ _ _ _ _ (SL.up (SL.mod g0_3 X_3 (Nat.le_refl _) nob) (Nat.le_trans (Nat.le_refl _) (Mod.size X_3))) _ _ (SL.up (SL.mod g0_4 X_3 (Nat.le_refl _) nob) (Nat.le_trans (Nat.le_refl _) (Mod.size X_3))) (Sep.at (o := boxO bb1 [(.int .i64 a0_0), (.int .i64 a0_1), (.bool a0_2), u0_3, u0_4]) S_3 2 rfl) _ hx2) rfl rfl ⟨rfl, trivial⟩ Try.func74 rfl rfl) ?_
        rintro _ _ ⟨rfl, rfl⟩
        refine RL.opD (by decide) (opv_not rfl rfl) ?_
        refine RL.opD (by decide) (opv_move rfl rfl) ?_
        refine RL.yes _ rfl rfl c1 (by decide) (opv_call (cap := []) (spec_l05Rect_ok _ _ _ _ _ _ _ (SL.up (SL.mod g0_3 X_3 (Nat.le_refl _) nob) (Nat.le_trans (Nat.le_refl _) (Mod.size X_3))) _ _ (SL.up (SL.mod g0_4 X_3 (Nat.le_refl _) nob) (Nat.le_trans (Nat.le_refl _) (Mod.size X_3))) (Sep.at (o := boxO bb1 [(.int .i64 a0_0), (.int .i64 a0_1), (.bool a0_2), u0_3, u0_4]) S_3 2 rfl) _ _ _ _ _ (Sep.at (o := boxO bb2 [(.int .i64 a1_0), (.int .i64 a1_1), (.int .i64 a1_2), (.int .i64 a1_3)]) S_3 1 rfl) _ hx3) rfl rfl ⟨rfl, rfl, trivial⟩ Try.func105 rfl rfl) ?_
        rintro _ _ ⟨rfl, rfl⟩
        refine RL.yes _ rfl rfl c1 (by decide) (opv_not rfl rfl) ?_
        rintro _ _ ⟨rfl, rfl⟩
        refine RL.opD (by decide) (opv_pick rfl rfl (fun e => absurd (Eq.trans (Eq.symm e) c1) (by decide)) (fun _ => rfl) rfl) ?_
        refine RL.opD (by decide) (opv_move rfl rfl) ?_
        refine RL.no rfl rfl (Eq.trans c2 (by decide)) (by decide) ?_
        refine RL.no rfl rfl (Eq.trans c2 (by decide)) (by decide) ?_
        refine RL.no rfl rfl (Eq.trans c2 (by decide)) (by decide) ?_
        refine RL.opD (by decide) (opv_pick rfl rfl (fun _ => rfl) (fun e => absurd (Eq.trans (Eq.symm e) c2) (by decide)) rfl) ?_
        refine RL.opD (by decide) (opv_move rfl rfl) ?_
        refine RL.no rfl rfl (Eq.trans rfl (by decide)) (by decide) ?_
        refine RL.no rfl rfl (Eq.trans rfl (by decide)) (by decide) ?_
        refine RL.no rfl rfl (Eq.trans rfl (by decide)) (by decide) ?_
        refine RL.opD (by decide) (opv_pick rfl rfl (fun _ => rfl) (fun e => absurd (Eq.trans (Eq.symm e) rfl) (by decide)) rfl) ?_
        refine RL.nil ?_
        have ey1 := Option.some.inj hy1
        subst ey1
        refine onlyN ?_
        exact ⟨⟨rfl, rfl, rfl, rfl, rfl, rfl, rfl, rfl, rfl, trivial⟩, rfl⟩
      · rw [if_neg c2] at hy1
        have c2 := eq_false_of_ne_true c2
        obtain ⟨x4, hx4, hy1⟩ := Option.bind_eq_some_iff.1 hy1
        by_cases c3 : (!x4) = true
        · rw [if_pos c3] at hy1
          refine W.region ?_
          refine RL.op _ (by decide) (opv_call (cap := []) (spec_l02Is_ok _ _ _ _ _ _ _ (SL.up (SL.mod g0_3 X_3 (Nat.le_refl _) nob) (Nat.le_trans (Nat.le_refl _) (Mod.size X_3))) _ _ (SL.up (SL.mod g0_4 X_3 (Nat.le_refl _) nob) (Nat.le_trans (Nat.le_refl _) (Mod.size X_3))) (Sep.at (o := boxO bb1 [(.int .i64 a0_0), (.int .i64 a0_1), (.bool a0_2), u0_3, u0_4]) S_3 2 rfl) _ hx2) rfl rfl ⟨rfl, trivial⟩ Try.func74 rfl rfl) ?_
          rintro _ _ ⟨rfl, rfl⟩
          refine RL.opD (by decide) (opv_not rfl rfl) ?_
          refine RL.opD (by decide) (opv_move rfl rfl) ?_
          refine RL.yes _ rfl rfl c1 (by decide) (opv_call (cap := []) (spec_l05Rect_ok _ _ _ _ _ _ _ (SL.up (SL.mod g0_3 X_3 (Nat.le_refl _) nob) (Nat.le_trans (Nat.le_refl _) (Mod.size X_3))) _ _ (SL.up (SL.mod g0_4 X_3 (Nat.le_refl _) nob) (Nat.le_trans (Nat.le_refl _) (Mod.size X_3))) (Sep.at (o := boxO bb1 [(.int .i64 a0_0), (.int .i64 a0_1), (.bool a0_2), u0_3, u0_4]) S_3 2 rfl) _ _ _ _ _ (Sep.at (o := boxO bb2 [(.int .i64 a1_0), (.int .i64 a1_1), (.int .i64 a1_2), (.int .i64 a1_3)]) S_3 1 rfl) _ hx3) rfl rfl ⟨rfl, rfl, trivial⟩ Try.func105 rfl rfl) ?_
          rintro _ _ ⟨rfl, rfl⟩
          refine RL.yes _ rfl rfl c1 (by decide) (opv_not rfl rfl) ?_
          rintro _ _ ⟨rfl, rfl⟩
          refine RL.opD (by decide) (opv_pick rfl rfl (fun e => absurd (Eq.trans (Eq.symm e) c1) (by decide)) (fun _ => rfl) rfl) ?_
          refine RL.opD (by decide) (opv_move rfl rfl) ?_
          refine RL.yes _ rfl rfl c2 (by decide) (opv_move rfl rfl) ?_
          rintro _ _ ⟨rfl, rfl⟩
          refine RL.yes _ rfl rfl c2 (by decide) (opv_call (cap := []) (spec_l05Share_ok _ _ _ g2 _ _ (isF_lit .f32 1056964608 (by decide) (by decide)) _ hx4) rfl rfl ⟨rfl, rfl, trivial⟩ Try.func106 rfl rfl) ?_
          rintro _ _ ⟨rfl, rfl⟩
          refine RL.yes _ rfl rfl c2 (by decide) (opv_not rfl rfl) ?_
          rintro _ _ ⟨rfl, rfl⟩
          refine RL.opD (by decide) (opv_pick rfl rfl (fun e => absurd (Eq.trans (Eq.symm e) c2) (by decide)) (fun _ => rfl) rfl) ?_
          refine RL.opD (by decide) (opv_move rfl rfl) ?_
          refine RL.no rfl rfl (Eq.trans c3 (by decide)) (by decide) ?_
          refine RL.no rfl rfl (Eq.trans c3 (by decide)) (by decide) ?_
          refine RL.no rfl rfl (Eq.trans c3 (by decide)) (by decide) ?_
          refine RL.opD (by decide) (opv_pick rfl rfl (fun _ => rfl) (fun e => absurd (Eq.trans (Eq.symm e) c3) (by decide)) rfl) ?_
          refine RL.nil ?_
          have ey1 := Option.some.inj hy1
          subst ey1
          refine onlyN ?_
          exact ⟨⟨rfl, rfl, rfl, rfl, rfl, rfl, rfl, rfl, rfl, trivial⟩, rfl⟩
        · rw [if_neg c3] at hy1
          have c3 := eq_false_of_ne_true c3
          obtain ⟨x5, hx5, hy1⟩ := Option.bind_eq_some_iff.1 hy1
          refine W.region ?_
          refine RL.op _ (by decide) (opv_call (cap := []) (spec_l02Is_ok _ _ _ _ _ _ _ (SL.up (SL.mod g0_3 X_3 (Nat.le_refl _) nob) (Nat.le_trans (Nat.le_refl _) (Mod.size X_3))) _ _ (SL.up (SL.mod g0_4 X_3 (Nat.le_refl _) nob) (Nat.le_trans (Nat.le_refl _) (Mod.size X_3))) (Sep.at (o := boxO bb1 [(.int .i64 a0_0), (.int .i64 a0_1), (.bool a0_2), u0_3, u0_4]) S_3 2 rfl) _ hx2) rfl rfl ⟨rfl, trivial⟩ Try.func74 rfl rfl) ?_
          rintro _ _ ⟨rfl, rfl⟩
          refine RL.opD (by decide) (opv_not rfl rfl) ?_
          refine RL.opD (by decide) (opv_move rfl rfl) ?_
          refine RL.yes _ rfl rfl c1 (by decide) (opv_call (cap := []) (spec_l05Rect_ok _ _ _ _ _ _ _ (SL.up (SL.mod g0_3 X_3 (Nat.le_refl _) nob) (Nat.le_trans (Nat.le_refl _) (Mod.size X_3))) _ _ (SL.up (SL.mod g0_4 X_3 (Nat.le_refl _) nob) (Nat.le_trans (Nat.le_refl _) (Mod.size X_3))) (Sep.at (o := boxO bb1 [(.int .i64 a0_0), (.int .i64 a0_1), (.bool a0_2), u0_3, u0_4]) S_3 2 rfl) _ _ _ _ _ (Sep.at (o := boxO bb2 [(.int .i64 a1_0), (.int .i64 a1_1), (.int .i64 a1_2), (.int .i64 a1_3)]) S_3 1 rfl) _ hx3) rfl rfl ⟨rfl, rfl, trivial⟩ Try.func105 rfl rfl) ?_
          rintro _ _ ⟨rfl, rfl⟩
          refine RL.yes _ rfl rfl c1 (by decide) (opv_not rfl rfl) ?_
          rintro _ _ ⟨rfl, rfl⟩
          refine RL.opD (by decide) (opv_pick rfl rfl (fun e => absurd (Eq.trans (Eq.symm e) c1) (by decide)) (fun _ => rfl) rfl) ?_
          refine RL.opD (by decide) (opv_move rfl rfl) ?_
          refine RL.yes _ rfl rfl c2 (by decide) (opv_move rfl rfl) ?_
          rintro _ _ ⟨rfl, rfl⟩
          refine RL.yes _ rfl rfl c2 (by decide) (opv_call (cap := []) (spec_l05Share_ok _ _ _ g2 _ _ (isF_lit .f32 1056964608 (by decide) (by decide)) _ hx4) rfl rfl ⟨rfl, rfl, trivial⟩ Try.func106 rfl rfl) ?_
          rintro _ _ ⟨rfl, rfl⟩
          refine RL.yes _ rfl rfl c2 (by decide) (opv_not rfl rfl) ?_
          rintro _ _ ⟨rfl, rfl⟩
          refine RL.opD (by decide) (opv_pick rfl rfl (fun e => absurd (Eq.trans (Eq.symm e) c2) (by decide)) (fun _ => rfl) rfl) ?_
          refine RL.opD (by decide) (opv_move rfl rfl) ?_
          refine RL.yes _ rfl rfl c3 (by decide) (opv_move rfl rfl) ?_
          rintro _ _ ⟨rfl, rfl⟩
          refine RL.yes _ rfl rfl c3 (by decide) (opv_call (cap := []) (spec_l05Share_ok _ _ _ g3 _ _ (isF_lit .f32 1065353216 (by decide) (by decide)) _ hx5) rfl rfl ⟨rfl, rfl, trivial⟩ Try.func106 rfl rfl) ?_
          rintro _ _ ⟨rfl, rfl⟩
          refine RL.yes _ rfl rfl c3 (by decide) (opv_not rfl rfl) ?_
          rintro _ _ ⟨rfl, rfl⟩
          refine RL.opD (by decide) (opv_pick rfl rfl (fun e => absurd (Eq.trans (Eq.symm e) c3) (by decide)) (fun _ => rfl) rfl) ?_
          refine RL.nil ?_
          have ey1 := Option.some.inj hy1
          subst ey1
          refine onlyN ?_
          exact ⟨⟨rfl, rfl, rfl, rfl, rfl, rfl, rfl, rfl, rfl, trivial⟩, rfl⟩
  rintro φ' _ ⟨hs1, rfl⟩
  refine thnN ?_
  refine W.sub hs1 ?_
  by_cases c4 : x1 = true
  · rw [if_pos c4] at hp
    refine W.condT rfl c4 ?_
    refine W.seq ?_
    refine W.region ?_
    refine RL.opD (by decide) (opv_build (cs := [(.int .i64 0), (.int .i64 0), (.bool false), (.slice none 0 0), (.slice none 0 0)]) [] [] rfl Try.bd29 trivial rfl) ?_
    refine RL.op0 _ (opS_stored (cs := [(.int .i64 0), (.int .i64 0), (.bool false), (.slice none 0 0), (.slice none 0 0)]) (cs' := [(.int .i64 0), (.int .i64 0), (.bool false), (.slice none 0 0), (.slice none 0 0)]) (opv_storeA (us := [(.int .i64 0), (.int .i64 0), (.bool false), (.slice none 0 0), (.slice none 0 0)]) rfl Try.size29 rfl rfl (oneAll rfl (oneAll rfl (oneAll rfl (oneAll rfl (oneAll rfl rfl))))) (Sep.at (o := boxO bb3 [(.int .i64 0), (.int .i64 0), (.bool false), (.slice none 0 0), (.slice none 0 0)]) S_3 0 rfl) rfl rfl) (Sep.at (o := boxO bb3 [(.int .i64 0), (.int .i64 0), (.bool false), (.slice none 0 0), (.slice none 0 0)]) S_3 0 rfl)) ?_
    rintro _ hp4 ⟨rfl, MT_4, T_4⟩
    have S_4 : Sep [] h0.size hp3 ([boxO bb3 [(.int .i64 0), (.int .i64 0), (.bool false), (.slice none 0 0), (.slice none 0 0)]] ++ [boxO bb2 [(.int .i64 a1_0), (.int .i64 a1_1), (.int .i64 a1_2), (.int .i64 a1_3)], boxO bb1 [(.int .i64 a0_0), (.int .i64 a0_1), (.bool a0_2), u0_3, u0_4]]) := Sep.sel S_3 [0, 1, 2] (by decide)
    have X_4 : Mod [] h0 hp4 := Mod.step (A := [boxO bb3 [(.int .i64 0), (.int .i64 0), (.bool false), (.slice none 0 0), (.slice none 0 0)]]) (L := [boxO bb2 [(.int .i64 a1_0), (.int .i64 a1_1), (.int .i64 a1_2), (.int .i64 a1_3)], boxO bb1 [(.int .i64 a0_0), (.int .i64 a0_1), (.bool a0_2), u0_3, u0_4]]) X_3 S_4 MT_4
    have S_5 : Sep [] h0.size hp4 [boxO bb3 [(.int .i64 0), (.int .i64 0), (.bool false), (.slice none 0 0), (.slice none 0 0)], boxO bb2 [(.int .i64 a1_0), (.int .i64 a1_1), (.int .i64 a1_2), (.int .i64 a1_3)], boxO bb1 [(.int .i64 a0_0), (.int .i64 a0_1), (.bool a0_2), u0_3, u0_4]] := Sep.step (A := [boxO bb3 [(.int .i64 0), (.int .i64 0), (.bool false), (.slice none 0 0), (.slice none 0 0)]]) (L := [boxO bb2 [(.int .i64 a1_0), (.int .i64 a1_1), (.int .i64 a1_2), (.int .i64 a1_3)], boxO bb1 [(.int .i64 a0_0), (.int .i64 a0_1), (.bool a0_2), u0_3, u0_4]]) S_4 (Mod.size X_3) MT_4 T_4
    refine RL.opD (by decide) (opv_assign rfl rfl) ?_
    refine RL.nil ?_
    refine thnN ?_
    refine W.ret ?_
    refine thnR ?_
    have S_6 : Sep [] h0.size hp4 [ownO (kF .f32) 40 (.slice none 0 0) ([] : List (Option Nat)), boxO bb3 [(.int .i64 0), (.int .i64 0), (.bool false), (.slice none 0 0), (.slice none 0 0)], boxO bb2 [(.int .i64 a1_0), (.int .i64 a1_1), (.int .i64 a1_2), (.int .i64 a1_3)], boxO bb1 [(.int .i64 a0_0), (.int .i64 a0_1), (.bool a0_2), u0_3, u0_4]] := Sep.addNil S_5
    have S_7 : Sep [] h0.size hp4 [ownO (kF .f32) 40 (.slice none 0 0) ([] : List (Option Nat)), ownO (kF .f32) 40 (.slice none 0 0) ([] : List (Option Nat)), boxO bb3 [(.int .i64 0), (.int .i64 0), (.bool false), (.slice none 0 0), (.slice none 0 0)], boxO bb2 [(.int .i64 a1_0), (.int .i64 a1_1), (.int .i64 a1_2), (.int .i64 a1_3)], boxO bb1 [(.int .i64 a0_0), (.int .i64 a0_1), (.bool a0_2), u0_3, u0_4]] := Sep.addNil S_6
    have er := Option.some.inj hp
    subst er
    exact Rt.cellA rfl rfl rfl Try.agg29 Try.size29 (Sep.at (o := boxO bb3 [(.int .i64 0), (.int .i64 0), (.bool false), (.slice none 0 0), (.slice none 0 0)]) S_7 2 rfl) rfl ⟨(.slice none 0 0), (.slice none 0 0), rfl, X_4, (Sep.sel S_7 [1, 0] (by decide))⟩
  · rw [if_neg c4] at hp
    have c4 := eq_false_of_ne_true c4
    refine W.condF rfl c4 ?_
    refine W.skip ?_
    refine thnN ?_
    refine W.seq ?_
    obtain ⟨x6, hx6, hp⟩ := Option.bind_eq_some_iff.1 hp
    refine W.region ?_
    refine RL.op _ (by decide) (opv_call (cap := []) (spec_l05Own_ok _ _ _ _ _ _ _ (SL.up (SL.mod g0_3 X_3 (Nat.le_refl _) nob) (Nat.le_trans (Nat.le_refl _) (Mod.size X_3))) _ _ (SL.up (SL.mod g0_4 X_3 (Nat.le_refl _) nob) (Nat.le_trans (Nat.le_refl _) (Mod.size X_3))) (Sep.at (o := boxO bb1 [(.int .i64 a0_0), (.int .i64 a0_1), (.bool a0_2), u0_3, u0_4]) S_3 2 rfl) _ hx6) rfl rfl ⟨rfl, trivial⟩ Try.func97 rfl rfl) ?_
    rintro _ hp5 ⟨v1, v2, rfl, MT_5, T_5⟩
    have X_5 : Mod [] h0 hp5 := Mod.step (A := []) (L := [boxO bb3 [(.int .i64 0), (.int .i64 0), (.bool false), (.slice none 0 0), (.slice none 0 0)], boxO bb2 [(.int .i64 a1_0), (.int .i64 a1_1), (.int .i64 a1_2), (.int .i64 a1_3)], boxO bb1 [(.int .i64 a0_0), (.int .i64 a0_1), (.bool a0_2), u0_3, u0_4]]) X_3 S_3 MT_5
    have S_8 : Sep [] h0.size hp5 [ownO (kF .f32) 40 v1 x6.2.2.2.1, ownO (kF .f32) 40 v2 x6.2.2.2.2, boxO bb3 [(.int .i64 0), (.int .i64 0), (.bool false), (.slice none 0 0), (.slice none 0 0)], boxO bb2 [(.int .i64 a1_0), (.int .i64 a1_1), (.int .i64 a1_2), (.int .i64 a1_3)], boxO bb1 [(.int .i64 a0_0), (.int .i64 a0_1), (.bool a0_2), u0_3, u0_4]] := Sep.step (A := []) (L := [boxO bb3 [(.int .i64 0), (.int .i64 0), (.bool false), (.slice none 0 0), (.slice none 0 0)], boxO bb2 [(.int .i64 a1_0), (.int .i64 a1_1), (.int .i64 a1_2), (.int .i64 a1_3)], boxO bb1 [(.int .i64 a0_0), (.int .i64 a0_1), (.bool a0_2), u0_3, u0_4]]) S_3 (Mod.size X_3) MT_5 T_5
    refine RL.op _ (by decide) (opS_boxed (opv_alloc (cs := [(.int .i64 0), (.int .i64 0), (.bool false), (.slice none 0 0), (.slice none 0 0)]) rfl Try.zero29 rfl)) ?_
    rintro _ hp6 ⟨bb4, rfl, MT_6, T_6⟩
    have X_6 : Mod [] h0 hp6 := Mod.step (A := []) (L := [ownO (kF .f32) 40 v1 x6.2.2.2.1, ownO (kF .f32) 40 v2 x6.2.2.2.2, boxO bb3 [(.int .i64 0), (.int .i64 0), (.bool false), (.slice none 0 0), (.slice none 0 0)], boxO bb2 [(.int .i64 a1_0), (.int .i64 a1_1), (.int .i64 a1_2), (.int .i64 a1_3)], boxO bb1 [(.int .i64 a0_0), (.int .i64 a0_1), (.bool a0_2), u0_3, u0_4]]) X_5 S_8 MT_6
    have S_9 : Sep [] h0.size hp6 [boxO bb4 [(.int .i64 0), (.int .i64 0), (.bool false), (.slice none 0 0), (.slice none 0 0)], ownO (kF .f32) 40 v1 x6.2.2.2.1, ownO (kF .f32) 40 v2 x6.2.2.2.2, boxO bb3 [(.int .i64 0), (.int .i64 0), (.bool false), (.slice none 0 0), (.slice none 0 0)], boxO bb2 [(.int .i64 a1_0), (.int .i64 a1_1), (.int .i64 a1_2), (.int .i64 a1_3)], boxO bb1 [(.int .i64 a0_0), (.int .i64 a0_1), (.bool a0_2), u0_3, u0_4]] := Sep.step (A := []) (L := [ownO (kF .f32) 40 v1 x6.2.2.2.1, ownO (kF .f32) 40 v2 x6.2.2.2.2, boxO bb3 [(.int .i64 0), (.int .i64 0), (.bool false), (.slice none 0 0), (.slice none 0 0)], boxO bb2 [(.int .i64 a1_0), (.int .i64 a1_1), (.int .i64 a1_2), (.int .i64 a1_3)], boxO bb1 [(.int .i64 a0_0), (.int .i64 a0_1), (.bool a0_2), u0_3, u0_4]]) S_8 (Mod.size X_5) MT_6 T_6
    refine RL.op0 _ (opS_stored (cs := [(.int .i64 0), (.int .i64 0), (.bool false), (.slice none 0 0), (.slice none 0 0)]) (cs' := [(.int .i64 x6.1), (.int .i64 x6.2.1), (.bool x6.2.2.1), v1, v2]) (opv_storeA (us := [(.int .i64 x6.1), (.int .i64 x6.2.1), (.bool x6.2.2.1), v1, v2]) rfl Try.size29 rfl rfl (oneAll rfl (oneAll rfl (oneAll rfl (oneAll (ownO.one (Sep.at (o := ownO (kF .f32) 40 v1 x6.2.2.2.1) S_9 1 rfl)) (oneAll (ownO.one (Sep.at (o := ownO (kF .f32) 40 v2 x6.2.2.2.2) S_9 2 rfl)) rfl))))) (Sep.at (o := boxO bb4 [(.int .i64 0), (.int .i64 0), (.bool false), (.slice none 0 0), (.slice none 0 0)]) S_9 0 rfl) rfl rfl) (Sep.at (o := boxO bb4 [(.int .i64 0), (.int .i64 0), (.bool false), (.slice none 0 0), (.slice none 0 0)]) S_9 0 rfl)) ?_
    rintro _ hp7 ⟨rfl, MT_7, T_7⟩
    have S_10 : Sep [] h0.size hp6 ([boxO bb4 [(.int .i64 0), (.int .i64 0), (.bool false), (.slice none 0 0), (.slice none 0 0)]] ++ [ownO (kF .f32) 40 v1 x6.2.2.2.1, ownO (kF .f32) 40 v2 x6.2.2.2.2, boxO bb3 [(.int .i64 0), (.int .i64 0), (.bool false), (.slice none 0 0), (.slice none 0 0)], boxO bb2 [(.int .i64 a1_0), (.int .i64 a1_1), (.int .i64 a1_2), (.int .i64 a1_3)], boxO bb1 [(.int .i64 a0_0), (.int .i64 a0_1), (.bool a0_2), u0_3, u0_4]]) := Sep.sel S_9 [0, 1, 2, 3, 4, 5] (by decide)
    have X_7 : Mod [] h0 hp7 := Mod.step (A := [boxO bb4 [(.int .i64 0), (.int .i64 0), (.bool false), (.slice none 0 0), (.slice none 0 0)]]) (L := [ownO (kF .f32) 40 v1 x6.2.2.2.1, ownO (kF .f32) 40 v2 x6.2.2.2.2, boxO bb3 [(.int .i64 0), (.int .i64 0), (.bool false), (.slice none 0 0), (.slice none 0 0)], boxO bb2 [(.int .i64 a1_0), (.int .i64 a1_1), (.int .i64 a1_2), (.int .i64 a1_3)], boxO bb1 [(.int .i64 a0_0), (.int .i64 a0_1), (.bool a0_2), u0_3, u0_4]]) X_6 S_10 MT_7
    have S_11 : Sep [] h0.size hp7 [boxO bb4 [(.int .i64 x6.1), (.int .i64 x6.2.1), (.bool x6.2.2.1), v1, v2], ownO (kF .f32) 40 v1 x6.2.2.2.1, ownO (kF .f32) 40 v2 x6.2.2.2.2, boxO bb3 [(.int .i64 0), (.int .i64 0), (.bool false), (.slice none 0 0), (.slice none 0 0)], boxO bb2 [(.int .i64 a1_0), (.int .i64 a1_1), (.int .i64 a1_2), (.int .i64 a1_3)], boxO bb1 [(.int .i64 a0_0), (.int .i64 a0_1), (.bool a0_2), u0_3, u0_4]] := Sep.step (A := [boxO bb4 [(.int .i64 0), (.int .i64 0), (.bool false), (.slice none 0 0), (.slice none 0 0)]]) (L := [ownO (kF .f32) 40 v1 x6.2.2.2.1, ownO (kF .f32) 40 v2 x6.2.2.2.2, boxO bb3 [(.int .i64 0), (.int .i64 0), (.bool false), (.slice none 0 0), (.slice none 0 0)], boxO bb2 [(.int .i64 a1_0), (.int .i64 a1_1), (.int .i64 a1_2), (.int .i64 a1_3)], boxO bb1 [(.int .i64 a0_0), (.int .i64 a0_1), (.bool a0_2), u0_3, u0_4]]) S_10 (Mod.size X_6) MT_7 T_7
    refine RL.nil ?_
    refine thnN ?_
    refine W.seq ?_
    refine W.seq ?_
    refine W.region ?_
    refine RL.opD (by decide) (opv_fieldAddr rfl Try.fo29_3 rfl) ?_
    refine RL.opD (by decide) (opv_loadB rfl Try.one22 rfl (Sep.at (o := boxO bb4 [(.int .i64 x6.1), (.int .i64 x6.2.1), (.bool x6.2.2.1), v1, v2]) S_11 0 rfl) rfl) ?_
    refine RL.opD (by decide) (opv_len rfl Try.underlying22 rfl (ownO.read (Sep.at (o := ownO (kF .f32) 40 v1 x6.2.2.2.1) S_11 1 rfl))) ?_
    refine RL.opD (by decide) (opv_move rfl rfl) ?_
    refine RL.nil ?_
    refine thnN ?_
    obtain ⟨y2, hy2, hp⟩ := Option.bind_eq_some_iff.1 hp
    refine W.cut (fun φ' h' => ∃ x10, ∃ x11, ∃ x12, ∃ x13, y2 = (x10, x11, x12, x13) ∧ Fr.sub [(0, (.agg (List.toArray (α := Value) [(.int .i64 a0_0), (.int .i64 a0_1), (.bool a0_2), u0_3, u0_4]))), (1, (.agg (List.toArray (α := Value) [(.int .i64 a1_0), (.int .i64 a1_1), (.int .i64 a1_2), (.int .i64 a1_3)]))), (2, u2), (3, u3), (4, (.pointer (some ⟨bb1, 0, none⟩))), (5, (.pointer (some ⟨bb2, 0, none⟩))), (8, (.pointer (some ⟨bb3, 0, none⟩))), (9, (.bool false)), (27, (.bool x1)), (10, (.pointer (some ⟨bb4, 0, none⟩))), (32, (.int .i64 (x6.2.2.2.1.length : Int))), (33, (.int .i64 x10)), (34, (.bool x11))] φ' ∧ Mod [] h0 h' ∧ Sep [] h0.size h' [boxO bb4 [(.int .i64 x6.1), (.int .i64 x6.2.1), (.bool x6.2.2.1), v1, v2], ownO (kF .f32) 40 v1 x12, ownO (kF .f32) 40 v2 x13, boxO bb3 [(.int .i64 0), (.int .i64 0), (.bool false), (.slice none 0 0), (.slice none 0 0)], boxO bb2 [(.int .i64 a1_0), (.int .i64 a1_1), (.int .i64 a1_2), (.int .i64 a1_3)], boxO bb1 [(.int .i64 a0_0), (.int .i64 a0_1), (.bool a0_2), u0_3, u0_4]]) ?_ ?_
    · refine W.block ?_
      refine W.loopS (fun (s : (Int × (List (Option Nat)) × (List (Option Nat)))) φ' h' => Fr.sub [(0, (.agg (List.toArray (α := Value) [(.int .i64 a0_0), (.int .i64 a0_1), (.bool a0_2), u0_3, u0_4]))), (1, (.agg (List.toArray (α := Value) [(.int .i64 a1_0), (.int .i64 a1_1), (.int .i64 a1_2), (.int .i64 a1_3)]))), (2, u2), (3, u3), (4, (.pointer (some ⟨bb1, 0, none⟩))), (5, (.pointer (some ⟨bb2, 0, none⟩))), (8, (.pointer (some ⟨bb3, 0, none⟩))), (9, (.bool false)), (27, (.bool x1)), (10, (.pointer (some ⟨bb4, 0, none⟩))), (32, (.int .i64 (x6.2.2.2.1.length : Int))), (33, (.int .i64 s.1))] φ' ∧ Mod [] h0 h' ∧ Sep [] h0.size h' [boxO bb4 [(.int .i64 x6.1), (.int .i64 x6.2.1), (.bool x6.2.2.1), v1, v2], ownO (kF .f32) 40 v1 s.2.1, ownO (kF .f32) 40 v2 s.2.2, boxO bb3 [(.int .i64 0), (.int .i64 0), (.bool false), (.slice none 0 0), (.slice none 0 0)], boxO bb2 [(.int .i64 a1_0), (.int .i64 a1_1), (.int .i64 a1_2), (.int .i64 a1_3)], boxO bb1 [(.int .i64 a0_0), (.int .i64 a0_1), (.bool a0_2), u0_3, u0_4]]) hy2 ⟨⟨rfl, rfl, rfl, rfl, rfl, rfl, rfl, rfl, rfl, rfl, rfl, rfl, trivial⟩, X_7, (Sep.sel S_11 [0, 1, 2, 3, 4, 5] (by decide))⟩ ?_
      rintro ⟨x7, x8, x9⟩ φ' hp8 o1 ⟨hs2, X_8, S_12⟩ ho1 hy1
      have hs2 : Fr.sub [(0, (.agg (List.toArray (α := Value) [(.int .i64 a0_0), (.int .i64 a0_1), (.bool a0_2), u0_3, u0_4]))), (1, (.agg (List.toArray (α := Value) [(.int .i64 a1_0), (.int .i64 a1_1), (.int .i64 a1_2), (.int .i64 a1_3)]))), (2, u2), (3, u3), (4, (.pointer (some ⟨bb1, 0, none⟩))), (5, (.pointer (some ⟨bb2, 0, none⟩))), (8, (.pointer (some ⟨bb3, 0, none⟩))), (9, (.bool false)), (27, (.bool x1)), (10, (.pointer (some ⟨bb4, 0, none⟩))), (32, (.int .i64 (x6.2.2.2.1.length : Int))), (33, (.int .i64 x7))] φ' := hs2
      have S_12 : Sep [] h0.size hp8 [boxO bb4 [(.int .i64 x6.1), (.int .i64 x6.2.1), (.bool x6.2.2.1), v1, v2], ownO (kF .f32) 40 v1 x8, ownO (kF .f32) 40 v2 x9, boxO bb3 [(.int .i64 0), (.int .i64 0), (.bool false), (.slice none 0 0), (.slice none 0 0)], boxO bb2 [(.int .i64 a1_0), (.int .i64 a1_1), (.int .i64 a1_2), (.int .i64 a1_3)], boxO bb1 [(.int .i64 a0_0), (.int .i64 a0_1), (.bool a0_2), u0_3, u0_4]] := S_12
      have ho1 : spec_FillRect.s0 a0_0 a1_0 a1_1 a1_2 a1_3 a2 a3 x6 x7 x8 x9 = some o1 := ho1
      unfold spec_FillRect.s0 at ho1
      refine W.sub hs2 ?_
      refine W.seq ?_
      refine W.region ?_
      refine RL.opD (by decide) (opv_icmp rfl rfl rfl rfl) ?_
      refine RL.nil ?_
      refine thnN ?_
      refine W.seq ?_
      by_cases c5 : (decide (x7 < (x6.2.2.2.1.length : Int))) = true
      · rw [if_pos c5] at ho1
        refine W.condT rfl c5 ?_
        refine W.skip ?_
        refine thnN ?_
        refine W.seq ?_
        refine W.block ?_
        refine W.seq ?_
        refine W.region ?_
        refine RL.opD (by decide) (opv_move rfl rfl) ?_
        refine RL.opD (by decide) (opv_assign rfl rfl) ?_
        refine RL.nil ?_
        refine thnN ?_
        refine W.seq ?_
        by_cases nc6 : a0_0 = 0
        · rw [if_pos nc6] at ho1; cases ho1
        rw [if_neg nc6] at ho1
        have c6 : a0_0 ≠ 0 := nc6
        by_cases nc7 : a0_0 = 0
        · rw [if_pos nc7] at ho1; cases ho1
        rw [if_neg nc7] at ho1
        have c7 : a0_0 ≠ 0 := nc7
        obtain ⟨x14, hx14, ho1⟩ := Option.bind_eq_some_iff.1 ho1
        refine W.sub (ψ := [(0, (.agg (List.toArray (α := Value) [(.int .i64 a0_0), (.int .i64 a0_1), (.bool a0_2), u0_3, u0_4]))), (1, (.agg (List.toArray (α := Value) [(.int .i64 a1_0), (.int .i64 a1_1), (.int .i64 a1_2), (.int .i64 a1_3)]))), (2, u2), (3, u3), (4, (.pointer (some ⟨bb1, 0, none⟩))), (5, (.pointer (some ⟨bb2, 0, none⟩))), (8, (.pointer (some ⟨bb3, 0, none⟩))), (9, (.bool false)), (27, (.bool x1)), (10, (.pointer (some ⟨bb4, 0, none⟩))), (32, (.int .i64 (x6.2.2.2.1.length : Int))), (33, (.int .i64 x7)), (34, (.bool (decide (x7 < (x6.2.2.2.1.length : Int))))), (11, (.int .i64 x7))]) ⟨rfl, rfl, rfl, rfl, rfl, rfl, rfl, rfl, rfl, rfl, rfl, rfl, rfl, rfl, trivial⟩ ?_
        refine W.regionP [fun v _ => @Eq Value (.int .i64 x7) v, fun v _ => @Eq Value (.pointer (some ⟨bb1, 0, none⟩)) v, fun v _ => @Eq Value (.int .i64 a0_0) v, fun v _ => @Eq Value (.int .i64 (Int.tmod x7 a0_0)) v, fun v _ => @Eq Value (.int .i64 x7) v, fun v _ => @Eq Value (.pointer (some ⟨bb1, 0, none⟩)) v, fun v _ => @Eq Value (.int .i64 a0_0) v, fun v _ => @Eq Value (.int .i64 (IntKind.wrap .i64 (Int.tdiv x7 a0_0))) v, fun v _ => @Eq Value (.bool x14) v] [[], [], [1], [0, 2], [], [], [5], [4, 6], [3, 7]] [8] Try.mixed (by decide +kernel) (by decide +kernel) rfl rfl rfl ?_ ?_
        · refine ⟨⟨rfl, ?_⟩, ⟨rfl, ?_⟩, ⟨rfl, ?_⟩, ⟨rfl, ?_⟩, ⟨rfl, ?_⟩, ⟨rfl, ?_⟩, ⟨rfl, ?_⟩, ⟨rfl, ?_⟩, ⟨rfl, ?_⟩, trivial⟩
          · rintro _ rfl
            refine Dep.nil ?_
            refine GuardOK.none rfl ?_
            exact OpV.toD (opv_move rfl rfl) rfl
          · rintro _ rfl
            refine Dep.nil ?_
            refine GuardOK.none rfl ?_
            exact OpV.toD (opv_fieldAddr rfl Try.fo29_0 rfl) rfl
          · rintro _ rfl _ rfl
            refine Dep.nil ?_
            refine GuardOK.none rfl ?_
            exact OpV.toD (opv_loadB rfl Try.one2 rfl (Sep.at (o := boxO bb1 [(.int .i64 a0_0), (.int .i64 a0_1), (.bool a0_2), u0_3, u0_4]) S_12 5 rfl) rfl) rfl
          · rintro _ rfl _ rfl _ rfl
            refine Dep.nil ?_
            refine GuardOK.none rfl ?_
            exact OpV.toD (opv_rem rfl c6 rfl rfl) rfl
          · rintro _ rfl
            refine Dep.nil ?_
            refine GuardOK.none rfl ?_
            exact OpV.toD (opv_move rfl rfl) rfl
          · rintro _ rfl
            refine Dep.nil ?_
            refine GuardOK.none rfl ?_
            exact OpV.toD (opv_fieldAddr rfl Try.fo29_0 rfl) rfl
          · rintro _ rfl _ rfl
            refine Dep.nil ?_
            refine GuardOK.none rfl ?_
            exact OpV.toD (opv_loadB rfl Try.one2 rfl (Sep.at (o := boxO bb1 [(.int .i64 a0_0), (.int .i64 a0_1), (.bool a0_2), u0_3, u0_4]) S_12 5 rfl) rfl) rfl
          · rintro _ rfl _ rfl _ rfl
            refine Dep.nil ?_
            refine GuardOK.none rfl ?_
            exact OpV.toD (opv_quo rfl c7 rfl rfl) rfl
          · rintro _ rfl _ rfl _ rfl
            refine Dep.nil ?_
            refine GuardOK.none rfl ?_
            exact OpV.mono (opv_call (cap := []) (spec_l05In_ok _ _ _ _ _ _ (Sep.at (o := boxO bb2 [(.int .i64 a1_0), (.int .i64 a1_1), (.int .i64 a1_2), (.int .i64 a1_3)]) S_12 4 rfl) _ _ _ hx14) rfl rfl ⟨rfl, rfl, rfl, trivial⟩ Try.func107 rfl rfl) (by rintro _ _ ⟨rfl, rfl⟩; exact ⟨rfl, rfl⟩)
        rintro _ rfl
        refine Dep.nil ?_
        show RL _ _ _ _ [] _ _
        refine RL.nil ?_
        refine thnN ?_
        obtain ⟨⟨x15, x16⟩, hy3, ho1⟩ := Option.bind_eq_some_iff.1 ho1
        try dsimp only at ho1
        refine W.cut (fun φ' h' => Fr.sub [(0, (.agg (List.toArray (α := Value) [(.int .i64 a0_0), (.int .i64 a0_1), (.bool a0_2), u0_3, u0_4]))), (1, (.agg (List.toArray (α := Value) [(.int .i64 a1_0), (.int .i64 a1_1), (.int .i64 a1_2), (.int .i64 a1_3)]))), (2, u2), (3, u3), (4, (.pointer (some ⟨bb1, 0, none⟩))), (5, (.pointer (some ⟨bb2, 0, none⟩))), (8, (.pointer (some ⟨bb3, 0, none⟩))), (9, (.bool false)), (27, (.bool x1)), (10, (.pointer (some ⟨bb4, 0, none⟩))), (32, (.int .i64 (x6.2.2.2.1.length : Int))), (33, (.int .i64 x7)), (34, (.bool (decide (x7 < (x6.2.2.2.1.length : Int))))), (11, (.int .i64 x7)), (44, (.bool x14))] φ' ∧ Mod [] h0 h' ∧ Sep [] h0.size h' [boxO bb4 [(.int .i64 x6.1), (.int .i64 x6.2.1), (.bool x6.2.2.1), v1, v2], ownO (kF .f32) 40 v1 x16, ownO (kF .f32) 40 v2 x15, boxO bb3 [(.int .i64 0), (.int .i64 0), (.bool false), (.slice none 0 0), (.slice none 0 0)], boxO bb2 [(.int .i64 a1_0), (.int .i64 a1_1), (.int .i64 a1_2), (.int .i64 a1_3)], boxO bb1 [(.int .i64 a0_0), (.int .i64 a0_1), (.bool a0_2), u0_3, u0_4]]) ?_ ?_
        · by_cases c8 : x14 = true
          · rw [if_pos c8] at hy3
            refine W.condT rfl c8 ?_
            refine W.seq ?_
            obtain ⟨x17, hx17, hy3⟩ := Option.bind_eq_some_iff.1 hy3
            obtain ⟨x18, hx18, hy3⟩ := Option.bind_eq_some_iff.1 hy3
            refine W.region ?_
            refine RL.opD (by decide) (opv_fieldAddr rfl Try.fo29_3 rfl) ?_
            refine RL.opD (by decide) (opv_loadB rfl Try.one22 rfl (Sep.at (o := boxO bb4 [(.int .i64 x6.1), (.int .i64 x6.2.1), (.bool x6.2.2.1), v1, v2]) S_12 0 rfl) rfl) ?_
            refine RL.opD (by decide) (opv_move rfl rfl) ?_
            refine RL.opD (by decide) (opv_move rfl rfl) ?_
            refine RL.op _ (by decide) (opv_index rfl Try.underlying22 (by rw [Try.size40]; rfl) rfl rfl (ownO.read (Sep.at (o := ownO (kF .f32) 40 v1 x8) S_12 1 rfl)) hx17) ?_
            rintro v3 _ ⟨fv3, rfl⟩
            refine RL.op0 _ (opS_storeE (K := (kF .f32)) rfl Try.size40 rfl rfl fv3 rfl ⟨_, rfl, g2⟩ hx18 (Sep.at (o := ownO (kF .f32) 40 v1 x8) S_12 1 rfl)) ?_
            rintro _ hp9 ⟨rfl, MT_8, T_8⟩
            have S_13 : Sep [] h0.size hp8 ([ownO (kF .f32) 40 v1 x8] ++ [boxO bb4 [(.int .i64 x6.1), (.int .i64 x6.2.1), (.bool x6.2.2.1), v1, v2], ownO (kF .f32) 40 v2 x9, boxO bb3 [(.int .i64 0), (.int .i64 0), (.bool false), (.slice none 0 0), (.slice none 0 0)], boxO bb2 [(.int .i64 a1_0), (.int .i64 a1_1), (.int .i64 a1_2), (.int .i64 a1_3)], boxO bb1 [(.int .i64 a0_0), (.int .i64 a0_1), (.bool a0_2), u0_3, u0_4]]) := Sep.sel S_12 [1, 0, 2, 3, 4, 5] (by decide)
            have X_9 : Mod [] h0 hp9 := Mod.step (A := [ownO (kF .f32) 40 v1 x8]) (L := [boxO bb4 [(.int .i64 x6.1), (.int .i64 x6.2.1), (.bool x6.2.2.1), v1, v2], ownO (kF .f32) 40 v2 x9, boxO bb3 [(.int .i64 0), (.int .i64 0), (.bool false), (.slice none 0 0), (.slice none 0 0)], boxO bb2 [(.int .i64 a1_0), (.int .i64 a1_1), (.int .i64 a1_2), (.int .i64 a1_3)], boxO bb1 [(.int .i64 a0_0), (.int .i64 a0_1), (.bool a0_2), u0_3, u0_4]]) X_8 S_13 MT_8
            have S_14 : Sep [] h0.size hp9 [ownO (kF .f32) 40 v1 x18, boxO bb4 [(.int .i64 x6.1), (.int .i64 x6.2.1), (.bool x6.2.2.1), v1, v2], ownO (kF .f32) 40 v2 x9, boxO bb3 [(.int .i64 0), (.int .i64 0), (.bool false), (.slice none 0 0), (.slice none 0 0)], boxO bb2 [(.int .i64 a1_0), (.int .i64 a1_1), (.int .i64 a1_2), (.int .i64 a1_3)], boxO bb1 [(.int .i64 a0_0), (.int .i64 a0_1), (.bool a0_2), u0_3, u0_4]] := Sep.step (A := [ownO (kF .f32) 40 v1 x8]) (L := [boxO bb4 [(.int .i64 x6.1), (.int .i64 x6.2.1), (.bool x6.2.2.1), v1, v2], ownO (kF .f32) 40 v2 x9, boxO bb3 [(.int .i64 0), (.int .i64 0), (.bool false), (.slice none 0 0), (.slice none 0 0)], boxO bb2 [(.int .i64 a1_0), (.int .i64 a1_1), (.int .i64 a1_2), (.int .i64 a1_3)], boxO bb1 [(.int .i64 a0_0), (.int .i64 a0_1), (.bool a0_2), u0_3, u0_4]]) S_13 (Mod.size X_8) MT_8 T_8
            refine RL.nil ?_
            refine thnN ?_
            obtain ⟨x19, hx19, hy3⟩ := Option.bind_eq_some_iff.1 hy3
            obtain ⟨x20, hx20, hy3⟩ := Option.bind_eq_some_iff.1 hy3
            refine W.region ?_
            refine RL.opD (by decide) (opv_fieldAddr rfl Try.fo29_4 rfl) ?_
            refine RL.opD (by decide) (opv_loadB rfl Try.one22 rfl (Sep.at (o := boxO bb4 [(.int .i64 x6.1), (.int .i64 x6.2.1), (.bool x6.2.2.1), v1, v2]) S_14 1 rfl) rfl) ?_
            refine RL.opD (by decide) (opv_move rfl rfl) ?_
            refine RL.opD (by decide) (opv_move rfl rfl) ?_
            refine RL.op _ (by decide) (opv_index rfl Try.underlying22 (by rw [Try.size40]; rfl) rfl rfl (ownO.read (Sep.at (o := ownO (kF .f32) 40 v2 x9) S_14 2 rfl)) hx19) ?_
            rintro v4 _ ⟨fv4, rfl⟩
            refine RL.op0 _ (opS_storeE (K := (kF .f32)) rfl Try.size40 rfl rfl fv4 rfl ⟨_, rfl, g3⟩ hx20 (Sep.at (o := ownO (kF .f32) 40 v2 x9) S_14 2 rfl)) ?_
            rintro _ hp10 ⟨rfl, MT_9, T_9⟩
            have S_15 : Sep [] h0.size hp9 ([ownO (kF .f32) 40 v2 x9] ++ [ownO (kF .f32) 40 v1 x18, boxO bb4 [(.int .i64 x6.1), (.int .i64 x6.2.1), (.bool x6.2.2.1), v1, v2], boxO bb3 [(.int .i64 0), (.int .i64 0), (.bool false), (.slice none 0 0), (.slice none 0 0)], boxO bb2 [(.int .i64 a1_0), (.int .i64 a1_1), (.int .i64 a1_2), (.int .i64 a1_3)], boxO bb1 [(.int .i64 a0_0), (.int .i64 a0_1), (.bool a0_2), u0_3, u0_4]]) := Sep.sel S_14 [2, 0, 1, 3, 4, 5] (by decide)
            have X_10 : Mod [] h0 hp10 := Mod.step (A := [ownO (kF .f32) 40 v2 x9]) (L := [ownO (kF .f32) 40 v1 x18, boxO bb4 [(.int .i64 x6.1), (.int .i64 x6.2.1), (.bool x6.2.2.1), v1, v2], boxO bb3 [(.int .i64 0), (.int .i64 0), (.bool false), (.slice none 0 0), (.slice none 0 0)], boxO bb2 [(.int .i64 a1_0), (.int .i64 a1_1), (.int .i64 a1_2), (.int .i64 a1_3)], boxO bb1 [(.int .i64 a0_0), (.int .i64 a0_1), (.bool a0_2), u0_3, u0_4]]) X_9 S_15 MT_9
            have S_16 : Sep [] h0.size hp10 [ownO (kF .f32) 40 v2 x20, ownO (kF .f32) 40 v1 x18, boxO bb4 [(.int .i64 x6.1), (.int .i64 x6.2.1), (.bool x6.2.2.1), v1, v2], boxO bb3 [(.int .i64 0), (.int .i64 0), (.bool false), (.slice none 0 0), (.slice none 0 0)], boxO bb2 [(.int .i64 a1_0), (.int .i64 a1_1), (.int .i64 a1_2), (.int .i64 a1_3)], boxO bb1 [(.int .i64 a0_0), (.int .i64 a0_1), (.bool a0_2), u0_3, u0_4]] := Sep.step (A := [ownO (kF .f32) 40 v2 x9]) (L := [ownO (kF .f32) 40 v1 x18, boxO bb4 [(.int .i64 x6.1), (.int .i64 x6.2.1), (.bool x6.2.2.1), v1, v2], boxO bb3 [(.int .i64 0), (.int .i64 0), (.bool false), (.slice none 0 0), (.slice none 0 0)], boxO bb2 [(.int .i64 a1_0), (.int .i64 a1_1), (.int .i64 a1_2), (.int .i64 a1_3)], boxO bb1 [(.int .i64 a0_0), (.int .i64 a0_1), (.bool a0_2), u0_3, u0_4]]) S_15 (Mod.size X_9) MT_9 T_9
            refine RL.nil ?_
            have ey3 := Option.some.inj hy3
            simp only [Prod.mk.injEq] at ey3
            obtain ⟨rfl, rfl⟩ := ey3
            refine onlyN ?_
            exact ⟨⟨rfl, rfl, rfl, rfl, rfl, rfl, rfl, rfl, rfl, rfl, rfl, rfl, rfl, rfl, rfl, trivial⟩, X_10, (Sep.sel S_16 [2, 1, 0, 3, 4, 5] (by decide))⟩
          · rw [if_neg c8] at hy3
            have c8 := eq_false_of_ne_true c8
            refine W.condF rfl c8 ?_
            refine W.skip ?_
            have ey3 := Option.some.inj hy3
            simp only [Prod.mk.injEq] at ey3
            obtain ⟨rfl, rfl⟩ := ey3
            refine onlyN ?_
            exact ⟨⟨rfl, rfl, rfl, rfl, rfl, rfl, rfl, rfl, rfl, rfl, rfl, rfl, rfl, rfl, rfl, trivial⟩, X_8, (Sep.sel S_12 [0, 1, 2, 3, 4, 5] (by decide))⟩
        rintro φ' hp11 ⟨hs4, X_11, S_17⟩
        refine blkN ?_
        refine thnN ?_
        refine W.sub hs4 ?_
        refine W.region ?_
        refine RL.opD (by decide) (opv_add rfl rfl rfl) ?_
        refine RL.opD (by decide) (opv_move rfl rfl) ?_
        refine RL.nil ?_
        have eo1 := Option.some.inj ho1
        subst eo1
        refine rndN (s' := (IntKind.wrap .i64 (x7 + 1), x16, x15)) rfl ?_
        exact ⟨⟨rfl, rfl, rfl, rfl, rfl, rfl, rfl, rfl, rfl, rfl, rfl, rfl, trivial⟩, X_11, (Sep.sel S_17 [0, 1, 2, 3, 4, 5] (by decide))⟩
      · rw [if_neg c5] at ho1
        have c5 := eq_false_of_ne_true c5
        refine W.condF rfl c5 ?_
        refine W.exit ?_
        refine thnX ?_
        refine rndX ?_
        refine blkI ?_
        have eo1 := Option.some.inj ho1
        subst eo1
        have ey2 := hy1 _ rfl
        subst ey2
        refine onlyN ?_
        exact ⟨x7, decide (x7 < (x6.2.2.2.1.length : Int)), x8, x9, rfl, ⟨rfl, rfl, rfl, rfl, rfl, rfl, rfl, rfl, rfl, rfl, rfl, rfl, rfl, trivial⟩, X_8, (Sep.sel S_12 [0, 1, 2, 3, 4, 5] (by decide))⟩
    rintro φ' hp12 ⟨x10, x11, x12, x13, rfl, hs3, X_12, S_18⟩
    try dsimp only at hp
    refine thnN ?_
    refine W.sub hs3 ?_
    refine W.seq ?_
    refine W.region ?_
    refine RL.opD (by decide) (opv_loadA (us := [(.int .i64 x6.1), (.int .i64 x6.2.1), (.bool x6.2.2.1), v1, v2]) rfl Try.agg29 Try.size29 rfl (Sep.at (o := boxO bb4 [(.int .i64 x6.1), (.int .i64 x6.2.1), (.bool x6.2.2.1), v1, v2]) S_18 0 rfl) rfl rfl) ?_
    refine RL.op0 _ (opS_stored (cs := [(.int .i64 0), (.int .i64 0), (.bool false), (.slice none 0 0), (.slice none 0 0)]) (cs' := [(.int .i64 x6.1), (.int .i64 x6.2.1), (.bool x6.2.2.1), v1, v2]) (opv_storeA (us := [(.int .i64 x6.1), (.int .i64 x6.2.1), (.bool x6.2.2.1), v1, v2]) rfl Try.size29 rfl rfl (oneAll rfl (oneAll rfl (oneAll rfl (oneAll (ownO.one (Sep.at (o := ownO (kF .f32) 40 v1 x12) S_18 1 rfl)) (oneAll (ownO.one (Sep.at (o := ownO (kF .f32) 40 v2 x13) S_18 2 rfl)) rfl))))) (Sep.at (o := boxO bb3 [(.int .i64 0), (.int .i64 0), (.bool false), (.slice none 0 0), (.slice none 0 0)]) S_18 3 rfl) rfl rfl) (Sep.at (o := boxO bb3 [(.int .i64 0), (.int .i64 0), (.bool false), (.slice none 0 0), (.slice none 0 0)]) S_18 3 rfl)) ?_
    rintro _ hp13 ⟨rfl, MT_10, T_10⟩
    have S_19 : Sep [] h0.size hp12 ([boxO bb3 [(.int .i64 0), (.int .i64 0), (.bool false), (.slice none 0 0), (.slice none 0 0)]] ++ [boxO bb4 [(.int .i64 x6.1), (.int .i64 x6.2.1), (.bool x6.2.2.1), v1, v2], ownO (kF .f32) 40 v1 x12, ownO (kF .f32) 40 v2 x13, boxO bb2 [(.int .i64 a1_0), (.int .i64 a1_1), (.int .i64 a1_2), (.int .i64 a1_3)], boxO bb1 [(.int .i64 a0_0), (.int .i64 a0_1), (.bool a0_2), u0_3, u0_4]]) := Sep.sel S_18 [3, 0, 1, 2, 4, 5] (by decide)
    have X_13 : Mod [] h0 hp13 := Mod.step (A := [boxO bb3 [(.int .i64 0), (.int .i64 0), (.bool false), (.slice none 0 0), (.slice none 0 0)]]) (L := [boxO bb4 [(.int .i64 x6.1), (.int .i64 x6.2.1), (.bool x6.2.2.1), v1, v2], ownO (kF .f32) 40 v1 x12, ownO (kF .f32) 40 v2 x13, boxO bb2 [(.int .i64 a1_0), (.int .i64 a1_1), (.int .i64 a1_2), (.int .i64 a1_3)], boxO bb1 [(.int .i64 a0_0), (.int .i64 a0_1), (.bool a0_2), u0_3, u0_4]]) X_12 S_19 MT_10
    have S_20 : Sep [] h0.size hp13 [boxO bb3 [(.int .i64 x6.1), (.int .i64 x6.2.1), (.bool x6.2.2.1), v1, v2], boxO bb4 [(.int .i64 x6.1), (.int .i64 x6.2.1), (.bool x6.2.2.1), v1, v2], ownO (kF .f32) 40 v1 x12, ownO (kF .f32) 40 v2 x13, boxO bb2 [(.int .i64 a1_0), (.int .i64 a1_1), (.int .i64 a1_2), (.int .i64 a1_3)], boxO bb1 [(.int .i64 a0_0), (.int .i64 a0_1), (.bool a0_2), u0_3, u0_4]] := Sep.step (A := [boxO bb3 [(.int .i64 0), (.int .i64 0), (.bool false), (.slice none 0 0), (.slice none 0 0)]]) (L := [boxO bb4 [(.int .i64 x6.1), (.int .i64 x6.2.1), (.bool x6.2.2.1), v1, v2], ownO (kF .f32) 40 v1 x12, ownO (kF .f32) 40 v2 x13, boxO bb2 [(.int .i64 a1_0), (.int .i64 a1_1), (.int .i64 a1_2), (.int .i64 a1_3)], boxO bb1 [(.int .i64 a0_0), (.int .i64 a0_1), (.bool a0_2), u0_3, u0_4]]) S_19 (Mod.size X_12) MT_10 T_10
    refine RL.opD (by decide) (opv_assign rfl rfl) ?_
    refine RL.nil ?_
    refine thnN ?_
    refine W.ret ?_
    have er := Option.some.inj hp
    subst er
    exact Rt.cellA rfl rfl rfl Try.agg29 Try.size29 (Sep.at (o := boxO bb3 [(.int .i64 x6.1), (.int .i64 x6.2.1), (.bool x6.2.2.1), v1, v2]) S_20 0 rfl) rfl ⟨v1, v2, rfl, X_13, (Sep.sel S_20 [2, 3] (by decide))⟩

set_option maxRecDepth 20000 in
theorem impl_FillRect_1_2_ok (h0 : Heap) (lo : Nat) (hlo : lo ≤ h0.size) (a0 : Int) (a1 : Int) (a2 : Int) (be0 : Nat) (ae0_0 : Int) (ae0_1 : Int) (ae0_2 : Int) (ae0_3 : Int) (be1 : Nat) (ue1_0 : Value) (ae1_0 : Option Nat) (ge1_0 : IsF .f32 ue1_0 ae1_0) (be2 : Nat) (ue2_0 : Value) (ae2_0 : Option Nat) (ge2_0 : IsF .f32 ue2_0 ae2_0) (be3 : Nat) (ae3_0 : Int) (ae3_1 : Int) (ae3_2 : Bool) (ue3_3 : Value) (ae3_3 : List (Option Nat)) (ue3_4 : Value) (ae3_4 : List (Option Nat)) (S0 : Sep [some be0, some be1, some be2, some be3, ue3_3.ownBlock, ue3_4.ownBlock] h0.size h0 [boxO be0 [(.int .i64 ae0_0), (.int .i64 ae0_1), (.int .i64 ae0_2), (.int .i64 ae0_3)], boxO be1 [ue1_0], boxO be2 [ue2_0], boxO be3 [(.int .i64 ae3_0), (.int .i64 ae3_1), (.bool ae3_2), ue3_3, ue3_4], ownO (kF .f32) 40 ue3_3 ae3_3, ownO (kF .f32) 40 ue3_4 ae3_4]) (hB : ∀ b, some b ∈ [some be0, some be1, some be2, some be3, ue3_3.ownBlock, ue3_4.ownBlock] → lo ≤ b) (r : (Int × Int × Int × Int × (Option Nat) × (Option Nat) × Int × Int × Bool × (List (Option Nat)) × (List (Option Nat)))) (hp : impl_FillRect_1_2 a0 a1 a2 ae0_0 ae0_1 ae0_2 ae0_3 ae1_0 ae2_0 ae3_0 ae3_1 ae3_2 ae3_3 ae3_4 = some r) : CallsH Try.prog 110 ([(.int .i64 a0), (.int .i64 a1), (.int .i64 a2)].toArray ++ [(.pointer (some ⟨be0, 0, none⟩)), (.pointer (some ⟨be1, 0, none⟩)), (.pointer (some ⟨be2, 0, none⟩)), (.pointer (some ⟨be3, 0, none⟩))].toArray) h0 (fun v h' => ∃ w4, ∃ w5, v = (.tuple (List.toArray (α := Value) [])) ∧ IsF .f32 w4 r.2.2.2.2.1 ∧ IsF .f32 w5 r.2.2.2.2.2.1 ∧ Mod [some be0, some be1, some be2, some be3, ue3_3.ownBlock, ue3_4.ownBlock] h0 h' ∧ Sep [some be0, some be1, some be2, some be3, ue3_3.ownBlock, ue3_4.ownBlock] h0.size h' [boxO be0 [(.int .i64 r.1), (.int .i64 r.2.1), (.int .i64 r.2.2.1), (.int .i64 r.2.2.2.1)], boxO be1 [w4], boxO be2 [w5], boxO be3 [(.int .i64 r.2.2.2.2.2.2.1), (.int .i64 r.2.2.2.2.2.2.2.1), (.bool r.2.2.2.2.2.2.2.2.1), ue3_3, ue3_4], ownO (kF .f32) 40 ue3_3 r.2.2.2.2.2.2.2.2.2.1, ownO (kF .f32) 40 ue3_4 r.2.2.2.2.2.2.2.2.2.2]) := by
  unfold impl_FillRect_1_2 at hp
  refine callsH_of_W (l := [(.int .i64 a0), (.int .i64 a1), (.int .i64 a2)]) (cap := [(.pointer (some ⟨be0, 0, none⟩)), (.pointer (some ⟨be1, 0, none⟩)), (.pointer (some ⟨be2, 0, none⟩)), (.pointer (some ⟨be3, 0, none⟩))]) 24 Try.func110 rfl rfl rfl ?_
  refine W.seq ?_
  obtain ⟨x1, hx1, hp⟩ := Option.bind_eq_some_iff.1 hp
  refine W.region ?_
  refine RL.opD (by decide) (opv_loadA (us := [(.int .i64 ae0_0), (.int .i64 ae0_1), (.int .i64 ae0_2), (.int .i64 ae0_3)]) rfl Try.agg79 Try.size79 rfl (Sep.at (o := boxO be0 [(.int .i64 ae0_0), (.int .i64 ae0_1), (.int .i64 ae0_2), (.int .i64 ae0_3)]) S0 0 rfl) rfl rfl) ?_
  refine RL.opD (by decide) (opv_move rfl rfl) ?_
  refine RL.opD (by decide) (opv_move rfl rfl) ?_
  refine RL.op _ (by decide) (opv_call (cap := []) (impl_Rect_has_ok _ _ _ _ _ _ _ _ hx1) rfl rfl ⟨rfl, rfl, rfl, trivial⟩ Try.func111 rfl rfl) ?_
  rintro _ hp1 ⟨rfl, MT_1, T_1⟩
  have X_1 : Mod [some be0, some be1, some be2, some be3, ue3_3.ownBlock, ue3_4.ownBlock] h0 hp1 := Mod.step (A := []) (L := [boxO be0 [(.int .i64 ae0_0), (.int .i64 ae0_1), (.int .i64 ae0_2), (.int .i64 ae0_3)], boxO be1 [ue1_0], boxO be2 [ue2_0], boxO be3 [(.int .i64 ae3_0), (.int .i64 ae3_1), (.bool ae3_2), ue3_3, ue3_4], ownO (kF .f32) 40 ue3_3 ae3_3, ownO (kF .f32) 40 ue3_4 ae3_4]) (Mod.refl [some be0, some be1, some be2, some be3, ue3_3.ownBlock, ue3_4.ownBlock] h0) S0 MT_1
  have S_1 : Sep [some be0, some be1, some be2, some be3, ue3_3.ownBlock, ue3_4.ownBlock] h0.size hp1 [boxO be0 [(.int .i64 ae0_0), (.int .i64 ae0_1), (.int .i64 ae0_2), (.int .i64 ae0_3)], boxO be1 [ue1_0], boxO be2 [ue2_0], boxO be3 [(.int .i64 ae3_0), (.int .i64 ae3_1), (.bool ae3_2), ue3_3, ue3_4], ownO (kF .f32) 40 ue3_3 ae3_3, ownO (kF .f32) 40 ue3_4 ae3_4] := Sep.step (A := []) (L := [boxO be0 [(.int .i64 ae0_0), (.int .i64 ae0_1), (.int .i64 ae0_2), (.int .i64 ae0_3)], boxO be1 [ue1_0], boxO be2 [ue2_0], boxO be3 [(.int .i64 ae3_0), (.int .i64 ae3_1), (.bool ae3_2), ue3_3, ue3_4], ownO (kF .f32) 40 ue3_3 ae3_3, ownO (kF .f32) 40 ue3_4 ae3_4]) S0 (Mod.size (Mod.refl [some be0, some be1, some be2, some be3, ue3_3.ownBlock, ue3_4.ownBlock] h0)) MT_1 T_1
  refine RL.nil ?_
  refine thnN ?_
  obtain ⟨⟨x2, x3⟩, hy1, hp⟩ := Option.bind_eq_some_iff.1 hp
  try dsimp only at hp
  refine W.cut (fun φ' h' => Fr.sub [(0, (.int .i64 a0)), (1, (.int .i64 a1)), (2, (.int .i64 a2)), (3, (.pointer (some ⟨be0, 0, none⟩))), (4, (.pointer (some ⟨be1, 0, none⟩))), (5, (.pointer (some ⟨be2, 0, none⟩))), (6, (.pointer (some ⟨be3, 0, none⟩))), (13, (.bool x1))] φ' ∧ Mod [some be0, some be1, some be2, some be3, ue3_3.ownBlock, ue3_4.ownBlock] h0 h' ∧ Sep [some be0, some be1, some be2, some be3, ue3_3.ownBlock, ue3_4.ownBlock] h0.size h' [boxO be0 [(.int .i64 ae0_0), (.int .i64 ae0_1), (.int .i64 ae0_2), (.int .i64 ae0_3)], boxO be1 [ue1_0], boxO be2 [ue2_0], boxO be3 [(.int .i64 ae3_0), (.int .i64 ae3_1), (.bool ae3_2), ue3_3, ue3_4], ownO (kF .f32) 40 ue3_3 x3, ownO (kF .f32) 40 ue3_4 x2]) ?_ ?_
  · by_cases c1 : x1 = true
    · rw [if_pos c1] at hy1
      refine W.condT rfl c1 ?_
      obtain ⟨x4, hx4, hy1⟩ := Option.bind_eq_some_iff.1 hy1
      obtain ⟨x5, hx5, hy1⟩ := Option.bind_eq_some_iff.1 hy1
      obtain ⟨x6, hx6, hy1⟩ := Option.bind_eq_some_iff.1 hy1
      obtain ⟨x7, hx7, hy1⟩ := Option.bind_eq_some_iff.1 hy1
      refine W.sub (ψ := [(0, (.int .i64 a0)), (1, (.int .i64 a1)), (2, (.int .i64 a2)), (3, (.pointer (some ⟨be0, 0, none⟩))), (4, (.pointer (some ⟨be1, 0, none⟩))), (5, (.pointer (some ⟨be2, 0, none⟩))), (6, (.pointer (some ⟨be3, 0, none⟩))), (13, (.bool x1))]) ⟨rfl, rfl, rfl, rfl, rfl, rfl, rfl, rfl, trivial⟩ ?_
      refine W.regionT 12 (fun h' => Bx h' be3 [(.int .i64 ae3_0), (.int .i64 ae3_1), (.bool ae3_2), ue3_3, ue3_4] ∧ Bx h' be1 [ue1_0] ∧ Bx h' be2 [ue2_0] ∧ True) rfl Try.mixed ⟨(Sep.at (o := boxO be3 [(.int .i64 ae3_0), (.int .i64 ae3_1), (.bool ae3_2), ue3_3, ue3_4]) S_1 3 rfl), (Sep.at (o := boxO be1 [ue1_0]) S_1 1 rfl), (Sep.at (o := boxO be2 [ue2_0]) S_1 2 rfl), trivial⟩ ?_
      refine TK.take 0 rfl rfl rfl (by decide) (by decide +kernel) (fun _ _ _ h => h) (fun h' S_ => opx_fieldAddr rfl Try.fo29_3 rfl) ?_
      refine TK.take 1 rfl rfl rfl (by decide) (by decide +kernel) (fun _ _ _ h => h) (fun h' S_ => opx_loadB rfl Try.one22 rfl S_.1 rfl) ?_
      refine TK.take 2 rfl rfl rfl (by decide) (by decide +kernel) (fun _ _ _ h => h) (fun h' S_ => opx_move rfl rfl) ?_
      refine TK.take 3 rfl rfl rfl (by decide) (by decide +kernel) (fun _ _ _ h => h) (fun h' S_ => opx_fieldAddr rfl Try.fo29_4 rfl) ?_
      refine TK.take 4 rfl rfl rfl (by decide) (by decide +kernel) (fun _ _ _ h => h) (fun h' S_ => opx_loadB rfl Try.one22 rfl S_.1 rfl) ?_
      refine TK.take 5 rfl rfl rfl (by decide) (by decide +kernel) (fun _ _ _ h => h) (fun h' S_ => opx_move rfl rfl) ?_
      refine TK.take 6 rfl rfl rfl (by decide) (by decide +kernel) (fun _ _ _ h => h) (fun h' S_ => opx_loadB rfl Try.one40 rfl S_.2.1 rfl) ?_
      refine TK.take 7 rfl rfl rfl (by decide) (by decide +kernel) (fun _ _ _ h => h) (fun h' S_ => opx_loadB rfl Try.one40 rfl S_.2.2.1 rfl) ?_
      refine TK.index 8 rfl rfl rfl (by decide) (by decide +kernel) (fun _ _ _ h => h) rfl Try.underlying22 (by rw [Try.size40]; rfl) rfl rfl (ownO.read (Sep.at (o := ownO (kF .f32) 40 ue3_3 ae3_3) S_1 4 rfl)) hx4 ?_
      intro v5 fv5
      refine TK.step 9 _ rfl rfl rfl (by decide +kernel) (opS_storeE (K := (kF .f32)) rfl Try.size40 rfl rfl fv5 rfl ⟨_, rfl, ge1_0⟩ hx5 (Sep.at (o := ownO (kF .f32) 40 ue3_3 ae3_3) S_1 4 rfl)) ?_
      rintro _ hp4 ⟨rfl, MT_4, T_4⟩
      have S_6 : Sep [some be0, some be1, some be2, some be3, ue3_3.ownBlock, ue3_4.ownBlock] h0.size hp1 ([ownO (kF .f32) 40 ue3_3 ae3_3] ++ [boxO be0 [(.int .i64 ae0_0), (.int .i64 ae0_1), (.int .i64 ae0_2), (.int .i64 ae0_3)], boxO be1 [ue1_0], boxO be2 [ue2_0], boxO be3 [(.int .i64 ae3_0), (.int .i64 ae3_1), (.bool ae3_2), ue3_3, ue3_4], ownO (kF .f32) 40 ue3_4 ae3_4]) := Sep.sel S_1 [4, 0, 1, 2, 3, 5] (by decide)
      have X_4 : Mod [some be0, some be1, some be2, some be3, ue3_3.ownBlock, ue3_4.ownBlock] h0 hp4 := Mod.step (A := [ownO (kF .f32) 40 ue3_3 ae3_3]) (L := [boxO be0 [(.int .i64 ae0_0), (.int .i64 ae0_1), (.int .i64 ae0_2), (.int .i64 ae0_3)], boxO be1 [ue1_0], boxO be2 [ue2_0], boxO be3 [(.int .i64 ae3_0), (.int .i64 ae3_1), (.bool ae3_2), ue3_3, ue3_4], ownO (kF .f32) 40 ue3_4 ae3_4]) X_1 S_6 MT_4
      have S_7 : Sep [some be0, some be1, some be2, some be3, ue3_3.ownBlock, ue3_4.ownBlock] h0.size hp4 [ownO (kF .f32) 40 ue3_3 x5, boxO be0 [(.int .i64 ae0_0), (.int .i64 ae0_1), (.int .i64 ae0_2), (.int .i64 ae0_3)], boxO be1 [ue1_0], boxO be2 [ue2_0], boxO be3 [(.int .i64 ae3_0), (.int .i64 ae3_1), (.bool ae3_2), ue3_3, ue3_4], ownO (kF .f32) 40 ue3_4 ae3_4] := Sep.step (A := [ownO (kF .f32) 40 ue3_3 ae3_3]) (L := [boxO be0 [(.int .i64 ae0_0), (.int .i64 ae0_1), (.int .i64 ae0_2), (.int .i64 ae0_3)], boxO be1 [ue1_0], boxO be2 [ue2_0], boxO be3 [(.int .i64 ae3_0), (.int .i64 ae3_1), (.bool ae3_2), ue3_3, ue3_4], ownO (kF .f32) 40 ue3_4 ae3_4]) S_6 (Mod.size X_1) MT_4 T_4
      refine ⟨⟨(Sep.at (o := boxO be3 [(.int .i64 ae3_0), (.int .i64 ae3_1), (.bool ae3_2), ue3_3, ue3_4]) S_7 4 rfl), (Sep.at (o := boxO be1 [ue1_0]) S_7 2 rfl), (Sep.at (o := boxO be2 [ue2_0]) S_7 3 rfl), trivial⟩, ?_⟩
      refine TK.index 10 rfl rfl rfl (by decide) (by decide +kernel) (fun _ _ _ h => h) rfl Try.underlying22 (by rw [Try.size40]; rfl) rfl rfl (ownO.read (Sep.at (o := ownO (kF .f32) 40 ue3_4 ae3_4) S_7 5 rfl)) hx6 ?_
      intro v6 fv6
      refine TK.step 11 _ rfl rfl rfl (by decide +kernel) (opS_storeE (K := (kF .f32)) rfl Try.size40 rfl rfl fv6 rfl ⟨_, rfl, ge2_0⟩ hx7 (Sep.at (o := ownO (kF .f32) 40 ue3_4 ae3_4) S_7 5 rfl)) ?_
      rintro _ hp5 ⟨rfl, MT_5, T_5⟩
      have S_8 : Sep [some be0, some be1, some be2, some be3, ue3_3.ownBlock, ue3_4.ownBlock] h0.size hp4 ([ownO (kF .f32) 40 ue3_4 ae3_4] ++ [ownO (kF .f32) 40 ue3_3 x5, boxO be0 [(.int .i64 ae0_0), (.int .i64 ae0_1), (.int .i64 ae0_2), (.int .i64 ae0_3)], boxO be1 [ue1_0], boxO be2 [ue2_0], boxO be3 [(.int .i64 ae3_0), (.int .i64 ae3_1), (.bool ae3_2), ue3_3, ue3_4]]) := Sep.sel S_7 [5, 0, 1, 2, 3, 4] (by decide)
      have X_5 : Mod [some be0, some be1, some be2, some be3, ue3_3.ownBlock, ue3_4.ownBlock] h0 hp5 := Mod.step (A := [ownO (kF .f32) 40 ue3_4 ae3_4]) (L := [ownO (kF .f32) 40 ue3_3 x5, boxO be0 [(.int .i64 ae0_0), (.int .i64 ae0_1), (.int .i64 ae0_2), (.int .i64 ae0_3)], boxO be1 [ue1_0], boxO be2 [ue2_0], boxO be3 [(.int .i64 ae3_0), (.int .i64 ae3_1), (.bool ae3_2), ue3_3, ue3_4]]) X_4 S_8 MT_5
      have S_9 : Sep [some be0, some be1, some be2, some be3, ue3_3.ownBlock, ue3_4.ownBlock] h0.size hp5 [ownO (kF .f32) 40 ue3_4 x7, ownO (kF .f32) 40 ue3_3 x5, boxO be0 [(.int .i64 ae0_0), (.int .i64 ae0_1), (.int .i64 ae0_2), (.int .i64 ae0_3)], boxO be1 [ue1_0], boxO be2 [ue2_0], boxO be3 [(.int .i64 ae3_0), (.int .i64 ae3_1), (.bool ae3_2), ue3_3, ue3_4]] := Sep.step (A := [ownO (kF .f32) 40 ue3_4 ae3_4]) (L := [ownO (kF .f32) 40 ue3_3 x5, boxO be0 [(.int .i64 ae0_0), (.int .i64 ae0_1), (.int .i64 ae0_2), (.int .i64 ae0_3)], boxO be1 [ue1_0], boxO be2 [ue2_0], boxO be3 [(.int .i64 ae3_0), (.int .i64 ae3_1), (.bool ae3_2), ue3_3, ue3_4]]) S_8 (Mod.size X_4) MT_5 T_5
      refine ⟨⟨(Sep.at (o := boxO be3 [(.int .i64 ae3_0), (.int .i64 ae3_1), (.bool ae3_2), ue3_3, ue3_4]) S_9 5 rfl), (Sep.at (o := boxO be1 [ue1_0]) S_9 3 rfl), (Sep.at (o := boxO be2 [ue2_0]) S_9 4 rfl), trivial⟩, ?_⟩
      refine TK.done (by decide +kernel) ?_
      have ey1 := Option.some.inj hy1
      simp only [Prod.mk.injEq] at ey1
      obtain ⟨rfl, rfl⟩ := ey1
      refine onlyN ?_
      exact ⟨⟨rfl, rfl, rfl, rfl, rfl, rfl, rfl, rfl, trivial⟩, X_5, (Sep.sel S_9 [2, 3, 4, 5, 1, 0] (by decide))⟩
    · rw [if_neg c1] at hy1
      have c1 := eq_false_of_ne_true c1
      refine W.condF rfl c1 ?_
      refine W.skip ?_
      have ey1 := Option.some.inj hy1
      simp only [Prod.mk.injEq] at ey1
      obtain ⟨rfl, rfl⟩ := ey1
      refine onlyN ?_
      exact ⟨⟨rfl, rfl, rfl, rfl, rfl, rfl, rfl, rfl, trivial⟩, X_1, (Sep.sel S_1 [0, 1, 2, 3, 4, 5] (by decide))⟩
  rintro φ' hp6 ⟨hs1, X_6, S_10⟩
  have er := Option.some.inj hp
  subst er
  exact Rt.none' rfl ⟨ue1_0, ue2_0, rfl, ge1_0, ge2_0, X_6, (Sep.sel S_10 [0, 1, 2, 3, 4, 5] (by decide))⟩

set_option maxRecDepth 20000 in
theorem impl_Sheet_each__impl_FillRect_1_ok (h0 : Heap) (lo : Nat) (hlo : lo ≤ h0.size) (a0_0 : Int) (a0_1 : Int) (a0_2 : Bool) (u0_3 : Value) (a0_3 : List (Option Nat)) (g0_3 : SL (kF .f32) lo h0 u0_3 a0_3) (u0_4 : Value) (a0_4 : List (Option Nat)) (g0_4 : SL (kF .f32) lo h0 u0_4 a0_4) (be0 : Nat) (ae0_0 : Int) (ae0_1 : Int) (ae0_2 : Int) (ae0_3 : Int) (be1 : Nat) (ue1_0 : Value) (ae1_0 : Option Nat) (ge1_0 : IsF .f32 ue1_0 ae1_0) (be2 : Nat) (ue2_0 : Value) (ae2_0 : Option Nat) (ge2_0 : IsF .f32 ue2_0 ae2_0) (be3 : Nat) (ae3_0 : Int) (ae3_1 : Int) (ae3_2 : Bool) (ue3_3 : Value) (ae3_3 : List (Option Nat)) (ue3_4 : Value) (ae3_4 : List (Option Nat)) (S0 : Sep [some be0, some be1, some be2, some be3, ue3_3.ownBlock, ue3_4.ownBlock] h0.size h0 [boxO be0 [(.int .i64 ae0_0), (.int .i64 ae0_1), (.int .i64 ae0_2), (.int .i64 ae0_3)], boxO be1 [ue1_0], boxO be2 [ue2_0], boxO be3 [(.int .i64 ae3_0), (.int .i64 ae3_1), (.bool ae3_2), ue3_3, ue3_4], ownO (kF .f32) 40 ue3_3 ae3_3, ownO (kF .f32) 40 ue3_4 ae3_4]) (hB : ∀ b, some b ∈ [some be0, some be1, some be2, some be3, ue3_3.ownBlock, ue3_4.ownBlock] → lo ≤ b) (r : (Int × Int × Int × Int × (Option Nat) × (Option Nat) × Int × Int × Bool × (List (Option Nat)) × (List (Option Nat)))) (hp : impl_Sheet_each__impl_FillRect_1 a0_0 a0_1 a0_2 a0_3 a0_4 ae0_0 ae0_1 ae0_2 ae0_3 ae1_0 ae2_0 ae3_0 ae3_1 ae3_2 ae3_3 ae3_4 = some r) : CallsH Try.prog 99 ([(.agg (List.toArray (α := Value) [(.int .i64 a0_0), (.int .i64 a0_1), (.bool a0_2), u0_3, u0_4])), (.func (.func 110) #[] [(.pointer (some ⟨be0, 0, none⟩)), (.pointer (some ⟨be1, 0, none⟩)), (.pointer (some ⟨be2, 0, none⟩)), (.pointer (some ⟨be3, 0, none⟩))].toArray)].toArray ++ [].toArray) h0 (fun v h' => ∃ w4, ∃ w5, v = (.tuple (List.toArray (α := Value) [])) ∧ IsF .f32 w4 r.2.2.2.2.1 ∧ IsF .f32 w5 r.2.2.2.2.2.1 ∧ Mod [some be0, some be1, some be2, some be3, ue3_3.ownBlock, ue3_4.ownBlock] h0 h' ∧ Sep [some be0, some be1, some be2, some be3, ue3_3.ownBlock, ue3_4.ownBlock] h0.size h' [boxO be0 [(.int .i64 r.1), (.int .i64 r.2.1), (.int .i64 r.2.2.1), (.int .i64 r.2.2.2.1)], boxO be1 [w4], boxO be2 [w5], boxO be3 [(.int .i64 r.2.2.2.2.2.2.1), (.int .i64 r.2.2.2.2.2.2.2.1), (.bool r.2.2.2.2.2.2.2.2.1), ue3_3, ue3_4], ownO (kF .f32) 40 ue3_3 r.2.2.2.2.2.2.2.2.2.1, ownO (kF .f32) 40 ue3_4 r.2.2.2.2.2.2.2.2.2.2]) := by
  unfold impl_Sheet_each__impl_FillRect_1 at hp
  refine callsH_of_W (l := [(.agg (List.toArray (α := Value) [(.int .i64 a0_0), (.int .i64 a0_1), (.bool a0_2), u0_3, u0_4])), (.func (.func 110) #[] [(.pointer (some ⟨be0, 0, none⟩)), (.pointer (some ⟨be1, 0, none⟩)), (.pointer (some ⟨be2, 0, none⟩)), (.pointer (some ⟨be3, 0, none⟩))].toArray)]) (cap := []) 26 Try.func99 rfl rfl rfl ?_
  refine W.seq ?_
  refine W.region ?_
  refine RL.op _ (by decide) (opS_boxed (opv_boxA (cs := [(.int .i64 a0_0), (.int .i64 a0_1), (.bool a0_2), u0_3, u0_4]) rfl rfl)) ?_
  rintro _ hp1 ⟨bb1, rfl, MT_1, T_1⟩
  have X_1 : Mod [some be0, some be1, some be2, some be3, ue3_3.ownBlock, ue3_4.ownBlock] h0 hp1 := Mod.step (A := []) (L := [boxO be0 [(.int .i64 ae0_0), (.int .i64 ae0_1), (.int .i64 ae0_2), (.int .i64 ae0_3)], boxO be1 [ue1_0], boxO be2 [ue2_0], boxO be3 [(.int .i64 ae3_0), (.int .i64 ae3_1), (.bool ae3_2), ue3_3, ue3_4], ownO (kF .f32) 40 ue3_3 ae3_3, ownO (kF .f32) 40 ue3_4 ae3_4]) (Mod.refl [some be0, some be1, some be2, some be3, ue3_3.ownBlock, ue3_4.ownBlock] h0) S0 MT_1
  have S_1 : Sep [some be0, some be1, some be2, some be3, ue3_3.ownBlock, ue3_4.ownBlock] h0.size hp1 [boxO bb1 [(.int .i64 a0_0), (.int .i64 a0_1), (.bool a0_2), u0_3, u0_4], boxO be0 [(.int .i64 ae0_0), (.int .i64 ae0_1), (.int .i64 ae0_2), (.int .i64 ae0_3)], boxO be1 [ue1_0], boxO be2 [ue2_0], boxO be3 [(.int .i64 ae3_0), (.int .i64 ae3_1), (.bool ae3_2), ue3_3, ue3_4], ownO (kF .f32) 40 ue3_3 ae3_3, ownO (kF .f32) 40 ue3_4 ae3_4] := Sep.step (A := []) (L := [boxO be0 [(.int .i64 ae0_0), (.int .i64 ae0_1), (.int .i64 ae0_2), (.int .i64 ae0_3)], boxO be1 [ue1_0], boxO be2 [ue2_0], boxO be3 [(.int .i64 ae3_0), (.int .i64 ae3_1), (.bool ae3_2), ue3_3, ue3_4], ownO (kF .f32) 40 ue3_3 ae3_3, ownO (kF .f32) 40 ue3_4 ae3_4]) S0 (Mod.size (Mod.refl [some be0, some be1, some be2, some be3, ue3_3.ownBlock, ue3_4.ownBlock] h0)) MT_1 T_1
  refine RL.nil ?_
  refine thnN ?_
  refine W.seq ?_
  refine W.region ?_
  refine RL.opD (by decide) (opv_fieldAddr rfl Try.fo29_1 rfl) ?_
  refine RL.opD (by decide) (opv_loadB rfl Try.one2 rfl (Sep.at (o := boxO bb1 [(.int .i64 a0_0), (.int .i64 a0_1), (.bool a0_2), u0_3, u0_4]) S_1 0 rfl) rfl) ?_
  refine RL.opD (by decide) (opv_move rfl rfl) ?_
  refine RL.nil ?_
  refine thnN ?_
  obtain ⟨y1, hy1, hp⟩ := Option.bind_eq_some_iff.1 hp
  refine W.cut (fun φ' h' => ∃ x13, ∃ x14, ∃ x15, ∃ x16, ∃ x17, ∃ x18, ∃ x19, ∃ x20, ∃ x21, ∃ x22, ∃ x23, ∃ x24, ∃ x25, ∃ v3, ∃ v4, y1 = (x13, x14, x15, x16, x17, x18, x19, x20, x21, x22, x23, x24, x25) ∧ Fr.sub [(0, (.agg (List.toArray (α := Value) [(.int .i64 a0_0), (.int .i64 a0_1), (.bool a0_2), u0_3, u0_4]))), (1, (.func (.func 110) #[] [(.pointer (some ⟨be0, 0, none⟩)), (.pointer (some ⟨be1, 0, none⟩)), (.pointer (some ⟨be2, 0, none⟩)), (.pointer (some ⟨be3, 0, none⟩))].toArray)), (2, (.pointer (some ⟨bb1, 0, none⟩))), (7, (.int .i64 a0_1)), (8, (.int .i64 x13)), (9, (.bool x14))] φ' ∧ IsF .f32 v3 x19 ∧ IsF .f32 v4 x20 ∧ Mod [some be0, some be1, some be2, some be3, ue3_3.ownBlock, ue3_4.ownBlock] h0 h' ∧ Sep [some be0, some be1, some be2, some be3, ue3_3.ownBlock, ue3_4.ownBlock] h0.size h' [boxO bb1 [(.int .i64 a0_0), (.int .i64 a0_1), (.bool a0_2), u0_3, u0_4], boxO be0 [(.int .i64 x15), (.int .i64 x16), (.int .i64 x17), (.int .i64 x18)], boxO be1 [v3], boxO be2 [v4], boxO be3 [(.int .i64 x21), (.int .i64 x22), (.bool x23), ue3_3, ue3_4], ownO (kF .f32) 40 ue3_3 x24, ownO (kF .f32) 40 ue3_4 x25]) ?_ ?_
  · refine W.block ?_
    refine W.loopS (fun (s : (Int × Int × Int × Int × Int × (Option Nat) × (Option Nat) × Int × Int × Bool × (List (Option Nat)) × (List (Option Nat)))) φ' h' => ∃ v1, ∃ v2, Fr.sub [(0, (.agg (List.toArray (α := Value) [(.int .i64 a0_0), (.int .i64 a0_1), (.bool a0_2), u0_3, u0_4]))), (1, (.func (.func 110) #[] [(.pointer (some ⟨be0, 0, none⟩)), (.pointer (some ⟨be1, 0, none⟩)), (.pointer (some ⟨be2, 0, none⟩)), (.pointer (some ⟨be3, 0, none⟩))].toArray)), (2, (.pointer (some ⟨bb1, 0, none⟩))), (7, (.int .i64 a0_1)), (8, (.int .i64 s.1))] φ' ∧ IsF .f32 v1 s.2.2.2.2.2.1 ∧ IsF .f32 v2 s.2.2.2.2.2.2.1 ∧ Mod [some be0, some be1, some be2, some be3, ue3_3.ownBlock, ue3_4.ownBlock] h0 h' ∧ Sep [some be0, some be1, some be2, some be3, ue3_3.ownBlock, ue3_4.ownBlock] h0.size h' [boxO bb1 [(.int .i64 a0_0), (.int .i64 a0_1), (.bool a0_2), u0_3, u0_4], boxO be0 [(.int .i64 s.2.1), (.int .i64 s.2.2.1), (.int .i64 s.2.2.2.1), (.int .i64 s.2.2.2.2.1)], boxO be1 [v1], boxO be2 [v2], boxO be3 [(.int .i64 s.2.2.2.2.2.2.2.1), (.int .i64 s.2.2.2.2.2.2.2.2.1), (.bool s.2.2.2.2.2.2.2.2.2.1), ue3_3, ue3_4], ownO (kF .f32) 40 ue3_3 s.2.2.2.2.2.2.2.2.2.2.1, ownO (kF .f32) 40 ue3_4 s.2.2.2.2.2.2.2.2.2.2.2]) hy1 ⟨ue1_0, ue2_0, ⟨rfl, rfl, rfl, rfl, rfl, trivial⟩, ge1_0, ge2_0, X_1, (Sep.sel S_1 [0, 1, 2, 3, 4, 5, 6] (by decide))⟩ ?_
    rintro ⟨x1, x2, x3, x4, x5, x6, x7, x8, x9, x10, x11, x12⟩ φ' hp2 o1 ⟨v1, v2, hs1, fv1, fv2, X_2, S_2⟩ ho1 hy1
    have hs1 : Fr.sub [(0, (.agg (List.toArray (α := Value) [(.int .i64 a0_0), (.int .i64 a0_1), (.bool a0_2), u0_3, u0_4]))), (1, (.func (.func 110) #[] [(.pointer (some ⟨be0, 0, none⟩)), (.pointer (some ⟨be1, 0, none⟩)), (.pointer (some ⟨be2, 0, none⟩)), (.pointer (some ⟨be3, 0, none⟩))].toArray)), (2, (.pointer (some ⟨bb1, 0, none⟩))), (7, (.int .i64 a0_1)), (8, (.int .i64 x1))] φ' := hs1
    have fv1 : IsF .f32 v1 x6 := fv1
    have fv2 : IsF .f32 v2 x7 := fv2
    have S_2 : Sep [some be0, some be1, some be2, some be3, ue3_3.ownBlock, ue3_4.ownBlock] h0.size hp2 [boxO bb1 [(.int .i64 a0_0), (.int .i64 a0_1), (.bool a0_2), u0_3, u0_4], boxO be0 [(.int .i64 x2), (.int .i64 x3), (.int .i64 x4), (.int .i64 x5)], boxO be1 [v1], boxO be2 [v2], boxO be3 [(.int .i64 x8), (.int .i64 x9), (.bool x10), ue3_3, ue3_4], ownO (kF .f32) 40 ue3_3 x11, ownO (kF .f32) 40 ue3_4 x12] := S_2
    have ho1 : impl_Sheet_each__impl_FillRect_1.s0 a0_0 a0_1 a0_2 a0_3 a0_4 x1 x2 x3 x4 x5 x6 x7 x8 x9 x10 x11 x12 = some o1 := ho1
    unfold impl_Sheet_each__impl_FillRect_1.s0 at ho1
    refine W.sub hs1 ?_
    refine W.seq ?_
    refine W.region ?_
    refine RL.opD (by decide) (opv_icmp rfl rfl rfl rfl) ?_
    refine RL.nil ?_
    refine thnN ?_
    refine W.seq ?_
    by_cases c1 : (decide (x1 < a0_1)) = true
    · rw [if_pos c1] at ho1
      refine W.condT rfl c1 ?_
      refine W.skip ?_
      refine thnN ?_
      refine W.seq ?_
      refine W.block ?_
      refine W.seq ?_
      refine W.region ?_
      refine RL.opD (by decide) (opv_move rfl rfl) ?_
      refine RL.opD (by decide) (opv_assign rfl rfl) ?_
      refine RL.nil ?_
      refine thnN ?_
      refine W.seq ?_
      refine W.region ?_
      refine RL.opD (by decide) (opv_fieldAddr rfl Try.fo29_0 rfl) ?_
      refine RL.opD (by decide) (opv_loadB rfl Try.one2 rfl (Sep.at (o := boxO bb1 [(.int .i64 a0_0), (.int .i64 a0_1), (.bool a0_2), u0_3, u0_4]) S_2 0 rfl) rfl) ?_
      refine RL.opD (by decide) (opv_move rfl rfl) ?_
      refine RL.nil ?_
      refine thnN ?_
      obtain ⟨y2, hy2, ho1⟩ := Option.bind_eq_some_iff.1 ho1
      refine W.cut (fun φ' h' => ∃ x38, ∃ x39, ∃ x40, ∃ x41, ∃ x42, ∃ x43, ∃ x44, ∃ x45, ∃ x46, ∃ x47, ∃ x48, ∃ x49, ∃ x50, ∃ v7, ∃ v8, y2 = (x38, x39, x40, x41, x42, x43, x44, x45, x46, x47, x48, x49, x50) ∧ Fr.sub [(0, (.agg (List.toArray (α := Value) [(.int .i64 a0_0), (.int .i64 a0_1), (.bool a0_2), u0_3, u0_4]))), (1, (.func (.func 110) #[] [(.pointer (some ⟨be0, 0, none⟩)), (.pointer (some ⟨be1, 0, none⟩)), (.pointer (some ⟨be2, 0, none⟩)), (.pointer (some ⟨be3, 0, none⟩))].toArray)), (2, (.pointer (some ⟨bb1, 0, none⟩))), (7, (.int .i64 a0_1)), (8, (.int .i64 x1)), (9, (.bool (decide (x1 < a0_1)))), (4, (.int .i64 x1)), (12, (.int .i64 a0_0)), (13, (.int .i64 x38)), (14, (.bool x39))] φ' ∧ IsF .f32 v7 x44 ∧ IsF .f32 v8 x45 ∧ Mod [some be0, some be1, some be2, some be3, ue3_3.ownBlock, ue3_4.ownBlock] h0 h' ∧ Sep [some be0, some be1, some be2, some be3, ue3_3.ownBlock, ue3_4.ownBlock] h0.size h' [boxO bb1 [(.int .i64 a0_0), (.int .i64 a0_1), (.bool a0_2), u0_3, u0_4], boxO be0 [(.int .i64 x40), (.int .i64 x41), (.int .i64 x42), (.int .i64 x43)], boxO be1 [v7], boxO be2 [v8], boxO be3 [(.int .i64 x46), (.int .i64 x47), (.bool x48), ue3_3, ue3_4], ownO (kF .f32) 40 ue3_3 x49, ownO (kF .f32) 40 ue3_4 x50]) ?_ ?_
      · refine W.block ?_
        refine W.loopS (fun (s : (Int × Int × Int × Int × Int × (Option Nat) × (Option Nat) × Int × Int × Bool × (List (Option Nat)) × (List (Option Nat)))) φ' h' => ∃ v5, ∃ v6, Fr.sub [(0, (.agg (List.toArray (α := Value) [(.int .i64 a0_0), (.int .i64 a0_1), (.bool a0_2), u0_3, u0_4]))), (1, (.func (.func 110) #[] [(.pointer (some ⟨be0, 0, none⟩)), (.pointer (some ⟨be1, 0, none⟩)), (.pointer (some ⟨be2, 0, none⟩)), (.pointer (some ⟨be3, 0, none⟩))].toArray)), (2, (.pointer (some ⟨bb1, 0, none⟩))), (7, (.int .i64 a0_1)), (8, (.int .i64 x1)), (9, (.bool (decide (x1 < a0_1)))), (4, (.int .i64 x1)), (12, (.int .i64 a0_0)), (13, (.int .i64 s.1))] φ' ∧ IsF .f32 v5 s.2.2.2.2.2.1 ∧ IsF .f32 v6 s.2.2.2.2.2.2.1 ∧ Mod [some be0, some be1, some be2, some be3, ue3_3.ownBlock, ue3_4.ownBlock] h0 h' ∧ Sep [some be0, some be1, some be2, some be3, ue3_3.ownBlock, ue3_4.ownBlock] h0.size h' [boxO bb1 [(.int .i64 a0_0), (.int .i64 a0_1), (.bool a0_2), u0_3, u0_4], boxO be0 [(.int .i64 s.2.1), (.int .i64 s.2.2.1), (.int .i64 s.2.2.2.1), (.int .i64 s.2.2.2.2.1)], boxO be1 [v5], boxO be2 [v6], boxO be3 [(.int .i64 s.2.2.2.2.2.2.2.1), (.int .i64 s.2.2.2.2.2.2.2.2.1), (.bool s.2.2.2.2.2.2.2.2.2.1), ue3_3, ue3_4], ownO (kF .f32) 40 ue3_3 s.2.2.2.2.2.2.2.2.2.2.1, ownO (kF .f32) 40 ue3_4 s.2.2.2.2.2.2.2.2.2.2.2]) hy2 ⟨v1, v2, ⟨rfl, rfl, rfl, rfl, rfl, rfl, rfl, rfl, rfl, trivial⟩, fv1, fv2, X_2, (Sep.sel S_2 [0, 1, 2, 3, 4, 5, 6] (by decide))⟩ ?_
        rintro ⟨x26, x27, x28, x29, x30, x31, x32, x33, x34, x35, x36, x37⟩ φ' hp3 o2 ⟨v5, v6, hs3, fv5, fv6, X_3, S_3⟩ ho2 hy2
        have hs3 : Fr.sub [(0, (.agg (List.toArray (α := Value) [(.int .i64 a0_0), (.int .i64 a0_1), (.bool a0_2), u0_3, u0_4]))), (1, (.func (.func 110) #[] [(.pointer (some ⟨be0, 0, none⟩)), (.pointer (some ⟨be1, 0, none⟩)), (.pointer (some ⟨be2, 0, none⟩)), (.pointer (some ⟨be3, 0, none⟩))].toArray)), (2, (.pointer (some ⟨bb1, 0, none⟩))), (7, (.int .i64 a0_1)), (8, (.int .i64 x1)), (9, (.bool (decide (x1 < a0_1)))), (4, (.int .i64 x1)), (12, (.int .i64 a0_0)), (13, (.int .i64 x26))] φ' := hs3
        have fv5 : IsF .f32 v5 x31 := fv5
        have fv6 : IsF .f32 v6 x32 := fv6
        have S_3 : Sep [some be0, some be1, some be2, some be3, ue3_3.ownBlock, ue3_4.ownBlock] h0.size hp3 [boxO bb1 [(.int .i64 a0_0), (.int .i64 a0_1), (.bool a0_2), u0_3, u0_4], boxO be0 [(.int .i64 x27), (.int .i64 x28), (.int .i64 x29), (.int .i64 x30)], boxO be1 [v5], boxO be2 [v6], boxO be3 [(.int .i64 x33), (.int .i64 x34), (.bool x35), ue3_3, ue3_4], ownO (kF .f32) 40 ue3_3 x36, ownO (kF .f32) 40 ue3_4 x37] := S_3
        have ho2 : impl_Sheet_each__impl_FillRect_1.s1 a0_0 a0_1 a0_2 a0_3 a0_4 x1 x26 x27 x28 x29 x30 x31 x32 x33 x34 x35 x36 x37 = some o2 := ho2
        unfold impl_Sheet_each__impl_FillRect_1.s1 at ho2
        refine W.sub hs3 ?_
        refine W.seq ?_
        refine W.region ?_
        refine RL.opD (by decide) (opv_icmp rfl rfl rfl rfl) ?_
        refine RL.nil ?_
        refine thnN ?_
        refine W.seq ?_
        by_cases c2 : (decide (x26 < a0_0)) = true
        · rw [if_pos c2] at ho2
          refine W.condT rfl c2 ?_
          refine W.skip ?_
          refine thnN ?_
          refine W.seq ?_
          refine W.block ?_
          refine W.seq ?_
          refine W.region ?_
          refine RL.opD (by decide) (opv_move rfl rfl) ?_
          refine RL.opD (by decide) (opv_assign rfl rfl) ?_
          refine RL.nil ?_
          refine thnN ?_
          obtain ⟨x51, hx51, ho2⟩ := Option.bind_eq_some_iff.1 ho2
          obtain ⟨x52, hx52, ho2⟩ := Option.bind_eq_some_iff.1 ho2
          refine W.region ?_
          refine RL.opD (by decide) (opv_move rfl rfl) ?_
          refine RL.opD (by decide) (opv_move rfl rfl) ?_
          refine RL.opD (by decide) (opv_move rfl rfl) ?_
          refine RL.opD (by decide) (opv_loadA (us := [(.int .i64 a0_0), (.int .i64 a0_1), (.bool a0_2), u0_3, u0_4]) rfl Try.agg29 Try.size29 rfl (Sep.at (o := boxO bb1 [(.int .i64 a0_0), (.int .i64 a0_1), (.bool a0_2), u0_3, u0_4]) S_3 0 rfl) rfl rfl) ?_
          refine RL.opD (by decide) (opv_move rfl rfl) ?_
          refine RL.opD (by decide) (opv_move rfl rfl) ?_
          refine RL.op _ (by decide) (opv_call (cap := []) (impl_Sheet_at_ok _ _ _ _ _ _ (SL.up (SL.mod g0_3 X_3 hlo hB) (Nat.le_trans hlo (Mod.size X_3))) _ _ (SL.up (SL.mod g0_4 X_3 hlo hB) (Nat.le_trans hlo (Mod.size X_3))) _ _ _ hx51) rfl rfl ⟨rfl, rfl, rfl, trivial⟩ Try.func92 rfl rfl) ?_
          rintro _ hp4 ⟨rfl, MT_2, T_2⟩
          have X_4 : Mod [some be0, some be1, some be2, some be3, ue3_3.ownBlock, ue3_4.ownBlock] h0 hp4 := Mod.step (A := []) (L := [boxO bb1 [(.int .i64 a0_0), (.int .i64 a0_1), (.bool a0_2), u0_3, u0_4], boxO be0 [(.int .i64 x27), (.int .i64 x28), (.int .i64 x29), (.int .i64 x30)], boxO be1 [v5], boxO be2 [v6], boxO be3 [(.int .i64 x33), (.int .i64 x34), (.bool x35), ue3_3, ue3_4], ownO (kF .f32) 40 ue3_3 x36, ownO (kF .f32) 40 ue3_4 x37]) X_3 S_3 MT_2
          have S_4 : Sep [some be0, some be1, some be2, some be3, ue3_3.ownBlock, ue3_4.ownBlock] h0.size hp4 [boxO bb1 [(.int .i64 a0_0), (.int .i64 a0_1), (.bool a0_2), u0_3, u0_4], boxO be0 [(.int .i64 x27), (.int .i64 x28), (.int .i64 x29), (.int .i64 x30)], boxO be1 [v5], boxO be2 [v6], boxO be3 [(.int .i64 x33), (.int .i64 x34), (.bool x35), ue3_3, ue3_4], ownO (kF .f32) 40 ue3_3 x36, ownO (kF .f32) 40 ue3_4 x37] := Sep.step (A := []) (L := [boxO bb1 [(.int .i64 a0_0), (.int .i64 a0_1), (.bool a0_2), u0_3, u0_4], boxO be0 [(.int .i64 x27), (.int .i64 x28), (.int .i64 x29), (.int .i64 x30)], boxO be1 [v5], boxO be2 [v6], boxO be3 [(.int .i64 x33), (.int .i64 x34), (.bool x35), ue3_3, ue3_4], ownO (kF .f32) 40 ue3_3 x36, ownO (kF .f32) 40 ue3_4 x37]) S_3 (Mod.size X_3) MT_2 T_2
          have S_6 : Sep [some be0, some be1, some be2, some be3, ue3_3.ownBlock, ue3_4.ownBlock] h0.size hp4 [boxO be0 [(.int .i64 x27), (.int .i64 x28), (.int .i64 x29), (.int .i64 x30)], boxO be1 [v5], boxO be2 [v6], boxO be3 [(.int .i64 x33), (.int .i64 x34), (.bool x35), ue3_3, ue3_4], ownO (kF .f32) 40 ue3_3 x36, ownO (kF .f32) 40 ue3_4 x37] := Sep.sel S_4 [1, 2, 3, 4, 5, 6] (by decide)
          have S_5 : Sep [some be0, some be1, some be2, some be3, ue3_3.ownBlock, ue3_4.ownBlock] hp4.size hp4 [boxO be0 [(.int .i64 x27), (.int .i64 x28), (.int .i64 x29), (.int .i64 x30)], boxO be1 [v5], boxO be2 [v6], boxO be3 [(.int .i64 x33), (.int .i64 x34), (.bool x35), ue3_3, ue3_4], ownO (kF .f32) 40 ue3_3 x36, ownO (kF .f32) 40 ue3_4 x37] := Sep.own S_6 _
          refine RL.op _ (by decide) (opv_call (cap := [(.pointer (some ⟨be0, 0, none⟩)), (.pointer (some ⟨be1, 0, none⟩)), (.pointer (some ⟨be2, 0, none⟩)), (.pointer (some ⟨be3, 0, none⟩))]) (impl_FillRect_1_2_ok _ lo (Nat.le_trans hlo (Mod.size X_4)) _ _ _ _ _ _ _ _ _ _ _ fv5 _ _ _ fv6 _ _ _ _ _ _ _ _ S_5 (Sep.ge (L := [boxO be0 [(.int .i64 x27), (.int .i64 x28), (.int .i64 x29), (.int .i64 x30)], boxO be1 [v5], boxO be2 [v6], boxO be3 [(.int .i64 x33), (.int .i64 x34), (.bool x35), ue3_3, ue3_4], ownO (kF .f32) 40 ue3_3 x36, ownO (kF .f32) 40 ue3_4 x37]) S_6 hlo hB) _ hx52) rfl rfl ⟨rfl, rfl, rfl, trivial⟩ Try.func110 rfl rfl) ?_
          rintro _ hp5 ⟨v9, v10, rfl, fv9, fv10, MT_3, T_3⟩
          have S_7 : Sep [some be0, some be1, some be2, some be3, ue3_3.ownBlock, ue3_4.ownBlock] h0.size hp4 ([boxO be0 [(.int .i64 x27), (.int .i64 x28), (.int .i64 x29), (.int .i64 x30)], boxO be1 [v5], boxO be2 [v6], boxO be3 [(.int .i64 x33), (.int .i64 x34), (.bool x35), ue3_3, ue3_4], ownO (kF .f32) 40 ue3_3 x36, ownO (kF .f32) 40 ue3_4 x37] ++ [boxO bb1 [(.int .i64 a0_0), (.int .i64 a0_1), (.bool a0_2), u0_3, u0_4]]) := Sep.sel S_4 [1, 2, 3, 4, 5, 6, 0] (by decide)
          have X_5 : Mod [some be0, some be1, some be2, some be3, ue3_3.ownBlock, ue3_4.ownBlock] h0 hp5 := Mod.step (A := [boxO be0 [(.int .i64 x27), (.int .i64 x28), (.int .i64 x29), (.int .i64 x30)], boxO be1 [v5], boxO be2 [v6], boxO be3 [(.int .i64 x33), (.int .i64 x34), (.bool x35), ue3_3, ue3_4], ownO (kF .f32) 40 ue3_3 x36, ownO (kF .f32) 40 ue3_4 x37]) (L := [boxO bb1 [(.int .i64 a0_0), (.int .i64 a0_1), (.bool a0_2), u0_3, u0_4]]) X_4 S_7 MT_3
          have S_8 : Sep [some be0, some be1, some be2, some be3, ue3_3.ownBlock, ue3_4.ownBlock] h0.size hp5 [boxO be0 [(.int .i64 x52.1), (.int .i64 x52.2.1), (.int .i64 x52.2.2.1), (.int .i64 x52.2.2.2.1)], boxO be1 [v9], boxO be2 [v10], boxO be3 [(.int .i64 x52.2.2.2.2.2.2.1), (.int .i64 x52.2.2.2.2.2.2.2.1), (.bool x52.2.2.2.2.2.2.2.2.1), ue3_3, ue3_4], ownO (kF .f32) 40 ue3_3 x52.2.2.2.2.2.2.2.2.2.1, ownO (kF .f32) 40 ue3_4 x52.2.2.2.2.2.2.2.2.2.2, boxO bb1 [(.int .i64 a0_0), (.int .i64 a0_1), (.bool a0_2), u0_3, u0_4]] := Sep.step (A := [boxO be0 [(.int .i64 x27), (.int .i64 x28), (.int .i64 x29), (.int .i64 x30)], boxO be1 [v5], boxO be2 [v6], boxO be3 [(.int .i64 x33), (.int .i64 x34), (.bool x35), ue3_3, ue3_4], ownO (kF .f32) 40 ue3_3 x36, ownO (kF .f32) 40 ue3_4 x37]) (L := [boxO bb1 [(.int .i64 a0_0), (.int .i64 a0_1), (.bool a0_2), u0_3, u0_4]]) S_7 (Mod.size X_4) MT_3 T_3
          refine RL.nil ?_
          refine blkN ?_
          refine thnN ?_
          refine W.region ?_
          refine RL.opD (by decide) (opv_add rfl rfl rfl) ?_
          refine RL.opD (by decide) (opv_move rfl rfl) ?_
          refine RL.nil ?_
          have eo2 := Option.some.inj ho2
          subst eo2
          refine rndN (s' := (IntKind.wrap .i64 (x26 + 1), x52.1, x52.2.1, x52.2.2.1, x52.2.2.2.1, x52.2.2.2.2.1, x52.2.2.2.2.2.1, x52.2.2.2.2.2.2.1, x52.2.2.2.2.2.2.2.1, x52.2.2.2.2.2.2.2.2.1, x52.2.2.2.2.2.2.2.2.2.1, x52.2.2.2.2.2.2.2.2.2.2)) rfl ?_
          exact ⟨v9, v10, ⟨rfl, rfl, rfl, rfl, rfl, rfl, rfl, rfl, rfl, trivial⟩, fv9, fv10, X_5, (Sep.sel S_8 [6, 0, 1, 2, 3, 4, 5] (by decide))⟩
        · rw [if_neg c2] at ho2
          have c2 := eq_false_of_ne_true c2
          refine W.condF rfl c2 ?_
          refine W.exit ?_
          refine thnX ?_
          refine rndX ?_
          refine blkI ?_
          have eo2 := Option.some.inj ho2
          subst eo2
          have ey2 := hy2 _ rfl
          subst ey2
          refine onlyN ?_
          exact ⟨x26, decide (x26 < a0_0), x27, x28, x29, x30, x31, x32, x33, x34, x35, x36, x37, v5, v6, rfl, ⟨rfl, rfl, rfl, rfl, rfl, rfl, rfl, rfl, rfl, rfl, trivial⟩, fv5, fv6, X_3, (Sep.sel S_3 [0, 1, 2, 3, 4, 5, 6] (by decide))⟩
      rintro φ' hp6 ⟨x38, x39, x40, x41, x42, x43, x44, x45, x46, x47, x48, x49, x50, v7, v8, rfl, hs4, fv7, fv8, X_6, S_9⟩
      try dsimp only at ho1
      refine blkN ?_
      refine thnN ?_
      refine W.sub hs4 ?_
      refine W.region ?_
      refine RL.opD (by decide) (opv_add rfl rfl rfl) ?_
      refine RL.opD (by decide) (opv_move rfl rfl) ?_
      refine RL.nil ?_
      have eo1 := Option.some.inj ho1
      subst eo1
      refine rndN (s' := (IntKind.wrap .i64 (x1 + 1), x40, x41, x42, x43, x44, x45, x46, x47, x48, x49, x50)) rfl ?_
      exact ⟨v7, v8, ⟨rfl, rfl, rfl, rfl, rfl, trivial⟩, fv7, fv8, X_6, (Sep.sel S_9 [0, 1, 2, 3, 4, 5, 6] (by decide))⟩
    · rw [if_neg c1] at ho1
      have c1 := eq_false_of_ne_true c1
      refine W.condF rfl c1 ?_
      refine W.exit ?_
      refine thnX ?_
      refine rndX ?_
      refine blkI ?_
      have eo1 := Option.some.inj ho1
      subst eo1
      have ey1 := hy1 _ rfl
      subst ey1
      refine onlyN ?_
      exact ⟨x1, decide (x1 < a0_1), x2, x3, x4, x5, x6, x7, x8, x9, x10, x11, x12, v1, v2, rfl, ⟨rfl, rfl, rfl, rfl, rfl, rfl, trivial⟩, fv1, fv2, X_2, (Sep.sel S_2 [0, 1, 2, 3, 4, 5, 6] (by decide))⟩
  rintro φ' hp7 ⟨x13, x14, x15, x16, x17, x18, x19, x20, x21, x22, x23, x24, x25, v3, v4, rfl, hs2, fv3, fv4, X_7, S_10⟩
  try dsimp only at hp
  have er := Option.some.inj hp
  subst er
  exact Rt.none' rfl ⟨v3, v4, rfl, fv3, fv4, X_7, (Sep.sel S_10 [1, 2, 3, 4, 5, 6] (by decide))⟩

set_option maxRecDepth 20000 in
theorem impl_FillRect_ok (h0 : Heap) (a0_0 : Int) (a0_1 : Int) (a0_2 : Bool) (u0_3 : Value) (a0_3 : List (Option Nat)) (g0_3 : SL (kF .f32) h0.size h0 u0_3 a0_3) (u0_4 : Value) (a0_4 : List (Option Nat)) (g0_4 : SL (kF .f32) h0.size h0 u0_4 a0_4) (a1_0 : Int) (a1_1 : Int) (a1_2 : Int) (a1_3 : Int) (u2 : Value) (a2 : Option Nat) (g2 : IsF .f32 u2 a2) (u3 : Value) (a3 : Option Nat) (g3 : IsF .f32 u3 a3) (r : (Int × Int × Bool × (List (Option Nat)) × (List (Option Nat)) × Bool)) (hp : impl_FillRect a0_0 a0_1 a0_2 a0_3 a0_4 a1_0 a1_1 a1_2 a1_3 a2 a3 = some r) : CallsH Try.prog 57 ([(.agg (List.toArray (α := Value) [(.int .i64 a0_0), (.int .i64 a0_1), (.bool a0_2), u0_3, u0_4])), (.agg (List.toArray (α := Value) [(.int .i64 a1_0), (.int .i64 a1_1), (.int .i64 a1_2), (.int .i64 a1_3)])), u2, u3].toArray ++ [].toArray) h0 (fun v h' => ∃ w3, ∃ w4, v = (.tuple (List.toArray (α := Value) [(.agg (List.toArray (α := Value) [(.int .i64 r.1), (.int .i64 r.2.1), (.bool r.2.2.1), w3, w4])), (.bool r.2.2.2.2.2)])) ∧ Mod [] h0 h' ∧ Sep [] h0.size h' [ownO (kF .f32) 40 w3 r.2.2.2.1, ownO (kF .f32) 40 w4 r.2.2.2.2.1]) := by
  unfold impl_FillRect at hp
  refine callsH_of_W (l := [(.agg (List.toArray (α := Value) [(.int .i64 a0_0), (.int .i64 a0_1), (.bool a0_2), u0_3, u0_4])), (.agg (List.toArray (α := Value) [(.int .i64 a1_0), (.int .i64 a1_1), (.int .i64 a1_2), (.int .i64 a1_3)])), u2, u3]) (cap := []) 36 Try.func57 rfl rfl rfl ?_
  refine W.seq ?_
  refine W.region ?_
  refine RL.op _ (by decide) (opS_boxed (opv_boxA (cs := [(.int .i64 a0_0), (.int .i64 a0_1), (.bool a0_2), u0_3, u0_4]) rfl rfl)) ?_
  rintro _ hp1 ⟨bb1, rfl, MT_1, T_1⟩
  have X_1 : Mod [] h0 hp1 := Mod.step (A := []) (L := []) (Mod.refl [] h0) (Sep.nil [] h0.size h0) MT_1
  have S_1 : Sep [] h0.size hp1 [boxO bb1 [(.int .i64 a0_0), (.int .i64 a0_1), (.bool a0_2), u0_3, u0_4]] := Sep.step (A := []) (L := []) (Sep.nil [] h0.size h0) (Mod.size (Mod.refl [] h0)) MT_1 T_1
  refine RL.op _ (by decide) (opS_boxed (opv_boxA (cs := [(.int .i64 a1_0), (.int .i64 a1_1), (.int .i64 a1_2), (.int .i64 a1_3)]) rfl rfl)) ?_
  rintro _ hp2 ⟨bb2, rfl, MT_2, T_2⟩
  have X_2 : Mod [] h0 hp2 := Mod.step (A := []) (L := [boxO bb1 [(.int .i64 a0_0), (.int .i64 a0_1), (.bool a0_2), u0_3, u0_4]]) X_1 S_1 MT_2
  have S_2 : Sep [] h0.size hp2 [boxO bb2 [(.int .i64 a1_0), (.int .i64 a1_1), (.int .i64 a1_2), (.int .i64 a1_3)], boxO bb1 [(.int .i64 a0_0), (.int .i64 a0_1), (.bool a0_2), u0_3, u0_4]] := Sep.step (A := []) (L := [boxO bb1 [(.int .i64 a0_0), (.int .i64 a0_1), (.bool a0_2), u0_3, u0_4]]) S_1 (Mod.size X_1) MT_2 T_2
  refine RL.op _ (by decide) (opS_boxed (opv_box1 rfl rfl (IsF.one g2))) ?_
  rintro _ hp3 ⟨bb3, rfl, MT_3, T_3⟩
  have X_3 : Mod [] h0 hp3 := Mod.step (A := []) (L := [boxO bb2 [(.int .i64 a1_0), (.int .i64 a1_1), (.int .i64 a1_2), (.int .i64 a1_3)], boxO bb1 [(.int .i64 a0_0), (.int .i64 a0_1), (.bool a0_2), u0_3, u0_4]]) X_2 S_2 MT_3
  have S_3 : Sep [] h0.size hp3 [boxO bb3 [u2], boxO bb2 [(.int .i64 a1_0), (.int .i64 a1_1), (.int .i64 a1_2), (.int .i64 a1_3)], boxO bb1 [(.int .i64 a0_0), (.int .i64 a0_1), (.bool a0_2), u0_3, u0_4]] := Sep.step (A := []) (L := [boxO bb2 [(.int .i64 a1_0), (.int .i64 a1_1), (.int .i64 a1_2), (.int .i64 a1_3)], boxO bb1 [(.int .i64 a0_0), (.int .i64 a0_1), (.bool a0_2), u0_3, u0_4]]) S_2 (Mod.size X_2) MT_3 T_3
  refine RL.op _ (by decide) (opS_boxed (opv_box1 rfl rfl (IsF.one g3))) ?_
  rintro _ hp4 ⟨bb4, rfl, MT_4, T_4⟩
  have X_4 : Mod [] h0 hp4 := Mod.step (A := []) (L := [boxO bb3 [u2], boxO bb2 [(.int .i64 a1_0), (.int .i64 a1_1), (.int .i64 a1_2), (.int .i64 a1_3)], boxO bb1 [(.int .i64 a0_0), (.int .i64 a0_1), (.bool a0_2), u0_3, u0_4]]) X_3 S_3 MT_4
  have S_4 : Sep [] h0.size hp4 [boxO bb4 [u3], boxO bb3 [u2], boxO bb2 [(.int .i64 a1_0), (.int .i64 a1_1), (.int .i64 a1_2), (.int .i64 a1_3)], boxO bb1 [(.int .i64 a0_0), (.int .i64 a0_1), (.bool a0_2), u0_3, u0_4]] := Sep.step (A := []) (L := [boxO bb3 [u2], boxO bb2 [(.int .i64 a1_0), (.int .i64 a1_1), (.int .i64 a1_2), (.int .i64 a1_3)], boxO bb1 [(.int .i64 a0_0), (.int .i64 a0_1), (.bool a0_2), u0_3, u0_4]]) S_3 (Mod.size X_3) MT_4 T_4
  refine RL.op _ (by decide) (opS_boxed (opv_alloc (cs := [(.int .i64 0), (.int .i64 0), (.bool false), (.slice none 0 0), (.slice none 0 0)]) rfl Try.zero29 rfl)) ?_
  rintro _ hp5 ⟨bb5, rfl, MT_5, T_5⟩
  have X_5 : Mod [] h0 hp5 := Mod.step (A := []) (L := [boxO bb4 [u3], boxO bb3 [u2], boxO bb2 [(.int .i64 a1_0), (.int .i64 a1_1), (.int .i64 a1_2), (.int .i64 a1_3)], boxO bb1 [(.int .i64 a0_0), (.int .i64 a0_1), (.bool a0_2), u0_3, u0_4]]) X_4 S_4 MT_5
  have S_5 : Sep [] h0.size hp5 [boxO bb5 [(.int .i64 0), (.int .i64 0), (.bool false), (.slice none 0 0), (.slice none 0 0)], boxO bb4 [u3], boxO bb3 [u2], boxO bb2 [(.int .i64 a1_0), (.int .i64 a1_1), (.int .i64 a1_2), (.int .i64 a1_3)], boxO bb1 [(.int .i64 a0_0), (.int .i64 a0_1), (.bool a0_2), u0_3, u0_4]] := Sep.step (A := []) (L := [boxO bb4 [u3], boxO bb3 [u2], boxO bb2 [(.int .i64 a1_0), (.int .i64 a1_1), (.int .i64 a1_2), (.int .i64 a1_3)], boxO bb1 [(.int .i64 a0_0), (.int .i64 a0_1), (.bool a0_2), u0_3, u0_4]]) S_4 (Mod.size X_4) MT_5 T_5
  refine RL.opD (by decide) (opv_assign rfl rfl) ?_
  refine RL.nil ?_
  refine thnN ?_
  refine W.seq ?_
  refine W.seq ?_
  obtain ⟨x1, hy1, hp⟩ := Option.bind_eq_some_iff.1 hp
  refine W.cut (fun φ' h' => Fr.sub [(0, (.agg (List.toArray (α := Value) [(.int .i64 a0_0), (.int .i64 a0_1), (.bool a0_2), u0_3, u0_4]))), (1, (.agg (List.toArray (α := Value) [(.int .i64 a1_0), (.int .i64 a1_1), (.int .i64 a1_2), (.int .i64 a1_3)]))), (2, u2), (3, u3), (4, (.pointer (some ⟨bb1, 0, none⟩))), (5, (.pointer (some ⟨bb2, 0, none⟩))), (6, (.pointer (some ⟨bb3, 0, none⟩))), (7, (.pointer (some ⟨bb4, 0, none⟩))), (8, (.pointer (some ⟨bb5, 0, none⟩))), (9, (.bool false)), (28, (.bool x1))] φ' ∧ Mod [] h0 h' ∧ Sep [] h0.size h' [boxO bb5 [(.int .i64 0), (.int .i64 0), (.bool false), (.slice none 0 0), (.slice none 0 0)], boxO bb4 [u3], boxO bb3 [u2], boxO bb2 [(.int .i64 a1_0), (.int .i64 a1_1), (.int .i64 a1_2), (.int .i64 a1_3)], boxO bb1 [(.int .i64 a0_0), (.int .i64 a0_1), (.bool a0_2), u0_3, u0_4]]) ?_ ?_
  · obtain ⟨x2, hx2, hy1⟩ := Option.bind_eq_some_iff.1 hy1
    by_cases c1 : (!x2) = true
    · rw [if_pos c1] at hy1
      refine W.region ?_
      refine RL.opD (by decide) (opv_loadA (us := [(.int .i64 a0_0), (.int .i64 a0_1), (.bool a0_2), u0_3, u0_4]) rfl Try.agg29 Try.size29 rfl (Sep.at (o := boxO bb1 [(.int .i64 a0_0), (.int .i64 a0_1), (.bool a0_2), u0_3, u0_4]) S_5 4 rfl) rfl rfl) ?_
      refine RL.opD (by decide) (opv_loadA (us := [(.int .i64 a1_0), (.int .i64 a1_1), (.int .i64 a1_2), (.int .i64 a1_3)]) rfl Try.agg79 Try.size79 rfl (Sep.at (o := boxO bb2 [(.int .i64 a1_0), (.int .i64 a1_1), (.int .i64 a1_2), (.int .i64 a1_3)]) S_5 3 rfl) rfl rfl) ?_
      refine RL.op _ (by decide) (opv_call (cap := []) (impl_IsRect_ok _ _ _ _ _ _ (SL.up (SL.mod g0_3 X_5 (Nat.le_refl _) nob) (Nat.le_trans (Nat.le_refl _) (Mod.size X_5))) _ _ (SL.up (SL.mod g0_4 X_5 (Nat.le_refl _) nob) (Nat.le_trans (Nat.le_refl _) (Mod.size X_5))) _ _ _ _ _ hx2) rfl rfl ⟨rfl, rfl, trivial⟩ Try.func108 rfl rfl) ?_
      rintro _ hp6 ⟨rfl, MT_6, T_6⟩
      have X_6 : Mod [] h0 hp6 := Mod.step (A := []) (L := [boxO bb5 [(.int .i64 0), (.int .i64 0), (.bool false), (.slice none 0 0), (.slice none 0 0)], boxO bb4 [u3], boxO bb3 [u2], boxO bb2 [(.int .i64 a1_0), (.int .i64 a1_1), (.int .i64 a1_2), (.int .i64 a1_3)], boxO bb1 [(.int .i64 a0_0), (.int .i64 a0_1), (.bool a0_2), u0_3, u0_4]]) X_5 S_5 MT_6
      have S_6 : Sep [] h0.size hp6 [boxO bb5 [(.int .i64 0), (.int .i64 0), (.bool false), (.slice none 0 0), (.slice none 0 0)], boxO bb4 [u3], boxO bb3 [u2], boxO bb2 [(.int .i64 a1_0), (.int .i64 a1_1), (.int .i64 a1_2), (.int .i64 a1_3)], boxO bb1 [(.int .i64 a0_0), (.int .i64 a0_1), (.bool a0_2), u0_3, u0_4]] := Sep.step (A := []) (L := [boxO bb5 [(.int .i64 0), (.int .i64 0), (.bool false), (.slice none 0 0), (.slice none 0 0)], boxO bb4 [u3], boxO bb3 [u2], boxO bb2 [(.int .i64 a1_0), (.int .i64 a1_1), (.int .i64 a1_2), (.int .i64 a1_3)], boxO bb1 [(.int .i64 a0_0), (.int .i64 a0_1), (.bool a0_2), u0_3, u0_4]]) S_5 (Mod.size X_5) MT_6 T_6
      refine RL.opD (by decide) (opv_not rfl rfl) ?_
      refine RL.opD (by decide) (opv_move rfl rfl) ?_
      refine RL.no rfl rfl (Eq.trans c1 (by decide)) (by decide) ?_
      refine RL.no rfl rfl (Eq.trans c1 (by decide)) (by decide) ?_
      refine RL.no rfl rfl (Eq.trans c1 (by decide)) (by decide) ?_
      refine RL.noU rfl rfl (by decide) ?_
      refine RL.noU rfl rfl (by decide) ?_
      refine RL.no rfl rfl (Eq.trans c1 (by decide)) (by decide) ?_
      refine RL.no rfl rfl (Eq.trans c1 (by decide)) (by decide) ?_
      refine RL.opD (by decide) (opv_pick rfl rfl (fun _ => rfl) (fun e => absurd (Eq.trans (Eq.symm e) c1) (by decide)) rfl) ?_
      refine RL.opD (by decide) (opv_move rfl rfl) ?_
      refine RL.no rfl rfl (Eq.trans rfl (by decide)) (by decide) ?_
      refine RL.no rfl rfl (Eq.trans rfl (by decide)) (by decide) ?_
      refine RL.no rfl rfl (Eq.trans rfl (by decide)) (by decide) ?_
      refine RL.opD (by decide) (opv_pick rfl rfl (fun _ => rfl) (fun e => absurd (Eq.trans (Eq.symm e) rfl) (by decide)) rfl) ?_
      refine RL.nil ?_
      have ey1 := Option.some.inj hy1
      subst ey1
      refine onlyN ?_
      exact ⟨⟨rfl, rfl, rfl, rfl, rfl, rfl, rfl, rfl, rfl, rfl, rfl, trivial⟩, X_6, (Sep.sel S_6 [0, 1, 2, 3, 4] (by decide))⟩
    · rw [if_neg c1] at hy1
      have c1 := eq_false_of_ne_true c1
      by_cases c2 : (fcmp .geq .f32 a2 (some 0)) = true
      · rw [if_pos c2] at hy1
        by_cases c3 : (!(fcmp .leq .f32 a2 (some 1056964608))) = true
        · rw [if_pos c3] at hy1
          refine W.region ?_
          refine RL.opD (by decide) (opv_loadA (us := [(.int .i64 a0_0), (.int .i64 a0_1), (.bool a0_2), u0_3, u0_4]) rfl Try.agg29 Try.size29 rfl (Sep.at (o := boxO bb1 [(.int .i64 a0_0), (.int .i64 a0_1), (.bool a0_2), u0_3, u0_4]) S_5 4 rfl) rfl rfl) ?_
          refine RL.opD (by decide) (opv_loadA (us := [(.int .i64 a1_0), (.int .i64 a1_1), (.int .i64 a1_2), (.int .i64 a1_3)]) rfl Try.agg79 Try.size79 rfl (Sep.at (o := boxO bb2 [(.int .i64 a1_0), (.int .i64 a1_1), (.int .i64 a1_2), (.int .i64 a1_3)]) S_5 3 rfl) rfl rfl) ?_
          refine RL.op _ (by decide) (opv_call (cap := []) (impl_IsRect_ok _ _ _ _ _ _ (SL.up (SL.mod g0_3 X_5 (Nat.le_refl _) nob) (Nat.le_trans (Nat.le_refl _) (Mod.size X_5))) _ _ (SL.up (SL.mod g0_4 X_5 (Nat.le_refl _) nob) (Nat.le_trans (Nat.le_refl _) (Mod.size X_5))) _ _ _ _ _ hx2) rfl rfl ⟨rfl, rfl, trivial⟩ Try.func108 rfl rfl) ?_
          rintro _ hp6 ⟨rfl, MT_6, T_6⟩
          have X_6 : Mod [] h0 hp6 := Mod.step (A := []) (L := [boxO bb5 [(.int .i64 0), (.int .i64 0), (.bool false), (.slice none 0 0), (.slice none 0 0)], boxO bb4 [u3], boxO bb3 [u2], boxO bb2 [(.int .i64 a1_0), (.int .i64 a1_1), (.int .i64 a1_2), (.int .i64 a1_3)], boxO bb1 [(.int .i64 a0_0), (.int .i64 a0_1), (.bool a0_2), u0_3, u0_4]]) X_5 S_5 MT_6
          have S_6 : Sep [] h0.size hp6 [boxO bb5 [(.int .i64 0), (.int .i64 0), (.bool false), (.slice none 0 0), (.slice none 0 0)], boxO bb4 [u3], boxO bb3 [u2], boxO bb2 [(.int .i64 a1_0), (.int .i64 a1_1), (.int .i64 a1_2), (.int .i64 a1_3)], boxO bb1 [(.int .i64 a0_0), (.int .i64 a0_1), (.bool a0_2), u0_3, u0_4]] := Sep.step (A := []) (L := [boxO bb5 [(.int .i64 0), (.int .i64 0), (.bool false), (.slice none 0 0), (.slice none 0 0)], boxO bb4 [u3], boxO bb3 [u2], boxO bb2 [(.int .i64 a1_0), (.int .i64 a1_1), (.int .i64 a1_2), (.int .i64 a1_3)], boxO bb1 [(.int .i64 a0_0), (.int .i64 a0_1), (.bool a0_2), u0_3, u0_4]]) S_5 (Mod.size X_5) MT_6 T_6
          refine RL.opD (by decide) (opv_not rfl rfl) ?_
          refine RL.opD (by decide) (opv_move rfl rfl) ?_
          refine RL.yes _ rfl rfl c1 (by decide) (opv_loadB rfl Try.one40 rfl (Sep.at (o := boxO bb3 [u2]) S_6 2 rfl) rfl) ?_
          rintro _ _ ⟨rfl, rfl⟩
          refine RL.yes _ rfl rfl c1 (by decide) (opv_fcmp rfl rfl rfl rfl g2 (isF_lit .f32 0 (by decide) (by decide))) ?_
          rintro _ _ ⟨rfl, rfl⟩
          refine RL.yes _ rfl rfl c1 (by decide) (opv_move rfl rfl) ?_
          rintro _ _ ⟨rfl, rfl⟩
          refine RL.yes _ rfl rfl c2 (by decide) (opv_loadB rfl Try.one40 rfl (Sep.at (o := boxO bb3 [u2]) S_6 2 rfl) rfl) ?_
          rintro _ _ ⟨rfl, rfl⟩
          refine RL.yes _ rfl rfl c2 (by decide) (opv_fcmp rfl rfl rfl rfl g2 (isF_lit .f32 1056964608 (by decide) (by decide))) ?_
          rintro _ _ ⟨rfl, rfl⟩
          refine RL.yes _ rfl rfl c1 (by decide) (opv_pick rfl rfl (fun _ => rfl) (fun e => absurd (Eq.trans (Eq.symm e) c2) (by decide)) rfl) ?_
          rintro _ _ ⟨rfl, rfl⟩
          refine RL.yes _ rfl rfl c1 (by decide) (opv_not rfl rfl) ?_
          rintro _ _ ⟨rfl, rfl⟩
          refine RL.opD (by decide) (opv_pick rfl rfl (fun e => absurd (Eq.trans (Eq.symm e) c1) (by decide)) (fun _ => rfl) rfl) ?_
          refine RL.opD (by decide) (opv_move rfl rfl) ?_
          refine RL.no rfl rfl (Eq.trans c3 (by decide)) (by decide) ?_
          refine RL.no rfl rfl (Eq.trans c3 (by decide)) (by decide) ?_
          refine RL.no rfl rfl (Eq.trans c3 (by decide)) (by decide) ?_
          refine RL.opD (by decide) (opv_pick rfl rfl (fun _ => rfl) (fun e => absurd (Eq.trans (Eq.symm e) c3) (by decide)) rfl) ?_
          refine RL.nil ?_
          have ey1 := Option.some.inj hy1
          subst ey1
          refine onlyN ?_
          exact ⟨⟨rfl, rfl, rfl, rfl, rfl, rfl, rfl, rfl, rfl, rfl, rfl, trivial⟩, X_6, (Sep.sel S_6 [0, 1, 2, 3, 4] (by decide))⟩
        · rw [if_neg c3] at hy1
          have c3 := eq_false_of_ne_true c3
          obtain ⟨x3, hx3, hy1⟩ := Option.bind_eq_some_iff.1 hy1
          refine W.region ?_
          refine RL.opD (by decide) (opv_loadA (us := [(.int .i64 a0_0), (.int .i64 a0_1), (.bool a0_2), u0_3, u0_4]) rfl Try.agg29 Try.size29 rfl (Sep.at (o := boxO bb1 [(.int .i64 a0_0), (.int .i64 a0_1), (.bool a0_2), u0_3, u0_4]) S_5 4 rfl) rfl rfl) ?_
          refine RL.opD (by decide) (opv_loadA (us := [(.int .i64 a1_0), (.int .i64 a1_1), (.int .i64 a1_2), (.int .i64 a1_3)]) rfl Try.agg79 Try.size79 rfl (Sep.at (o := boxO bb2 [(.int .i64 a1_0), (.int .i64 a1_1), (.int .i64 a1_2), (.int .i64 a1_3)]) S_5 3 rfl) rfl rfl) ?_
          refine RL.op _ (by decide) (opv_call (cap := []) (impl_IsRect_ok _ _ _ _ _ _ (SL.up (SL.mod g0_3 X_5 (Nat.le_refl _) nob) (Nat.le_trans (Nat.le_refl _) (Mod.size X_5))) _ _ (SL.up (SL.mod g0_4 X_5 (Nat.le_refl _) nob) (Nat.le_trans (Nat.le_refl _) (Mod.size X_5))) _ _ _ _ _ hx2) rfl rfl ⟨rfl, rfl, trivial⟩ Try.func108 rfl rfl) ?_
          rintro _ hp6 ⟨rfl, MT_6, T_6⟩
          have X_6 : Mod [] h0 hp6 := Mod.step (A := []) (L := [boxO bb5 [(.int .i64 0), (.int .i64 0), (.bool false), (.slice none 0 0), (.slice none 0 0)], boxO bb4 [u3], boxO bb3 [u2], boxO bb2 [(.int .i64 a1_0), (.int .i64 a1_1), (.int .i64 a1_2), (.int .i64 a1_3)], boxO bb1 [(.int .i64 a0_0), (.int .i64 a0_1), (.bool a0_2), u0_3, u0_4]]) X_5 S_5 MT_6
          have S_6 : Sep [] h0.size hp6 [boxO bb5 [(.int .i64 0), (.int .i64 0), (.bool false), (.slice none 0 0), (.slice none 0 0)], boxO bb4 [u3], boxO bb3 [u2], boxO bb2 [(.int .i64 a1_0), (.int .i64 a1_1), (.int .i64 a1_2), (.int .i64 a1_3)], boxO bb1 [(.int .i64 a0_0), (.int .i64 a0_1), (.bool a0_2), u0_3, u0_4]] := Sep.step (A := []) (L := [boxO bb5 [(.int .i64 0), (.int .i64 0), (.bool false), (.slice none 0 0), (.slice none 0 0)], boxO bb4 [u3], boxO bb3 [u2], boxO bb2 [(.int .i64 a1_0), (.int .i64 a1_1), (.int .i64 a1_2), (.int .i64 a1_3)], boxO bb1 [(.int .i64 a0_0), (.int .i64 a0_1), (.bool a0_2), u0_3, u0_4]]) S_5 (Mod.size X_5) MT_6 T_6
          refine RL.opD (by decide) (opv_not rfl rfl) ?_
          refine RL.opD (by decide) (opv_move rfl rfl) ?_
          refine RL.yes _ rfl rfl c1 (by decide) (opv_loadB rfl Try.one40 rfl (Sep.at (o := boxO bb3 [u2]) S_6 2 rfl) rfl) ?_
          rintro _ _ ⟨rfl, rfl⟩
          refine RL.yes _ rfl rfl c1 (by decide) (opv_fcmp rfl rfl rfl rfl g2 (isF_lit .f32 0 (by decide) (by decide))) ?_
          rintro _ _ ⟨rfl, rfl⟩
          refine RL.yes _ rfl rfl c1 (by decide) (opv_move rfl rfl) ?_
          rintro _ _ ⟨rfl, rfl⟩
          refine RL.yes _ rfl rfl c2 (by decide) (opv_loadB rfl Try.one40 rfl (Sep.at (o := boxO bb3 [u2]) S_6 2 rfl) rfl) ?_
          rintro _ _ ⟨rfl, rfl⟩
          refine RL.yes _ rfl rfl c2 (by decide) (opv_fcmp rfl rfl rfl rfl g2 (isF_lit .f32 1056964608 (by decide) (by decide))) ?_
          rintro _ _ ⟨rfl, rfl⟩
          refine RL.yes _ rfl rfl c1 (by decide) (opv_pick rfl rfl (fun _ => rfl) (fun e => absurd (Eq.trans (Eq.symm e) c2) (by decide)) rfl) ?_
          rintro _ _ ⟨rfl, rfl⟩
          refine RL.yes _ rfl rfl c1 (by decide) (opv_not rfl rfl) ?_
          rintro _ _ ⟨rfl, rfl⟩
          refine RL.opD (by decide) (opv_pick rfl rfl (fun e => absurd (Eq.trans (Eq.symm e) c1) (by decide)) (fun _ => rfl) rfl) ?_
          refine RL.opD (by decide) (opv_move rfl rfl) ?_
          refine RL.yes _ rfl rfl c3 (by decide) (opv_loadB rfl Try.one40 rfl (Sep.at (o := boxO bb4 [u3]) S_6 1 rfl) rfl) ?_
          rintro _ _ ⟨rfl, rfl⟩
          refine RL.yes _ rfl rfl c3 (by decide) (opv_call (cap := []) (impl_isShare_ok _ _ _ g3 _ hx3) rfl rfl ⟨rfl, trivial⟩ Try.func109 rfl rfl) ?_
          rintro _ _ ⟨rfl, rfl⟩
          refine RL.yes _ rfl rfl c3 (by decide) (opv_not rfl rfl) ?_
          rintro _ _ ⟨rfl, rfl⟩
          refine RL.opD (by decide) (opv_pick rfl rfl (fun e => absurd (Eq.trans (Eq.symm e) c3) (by decide)) (fun _ => rfl) rfl) ?_
          refine RL.nil ?_
          have ey1 := Option.some.inj hy1
          subst ey1
          refine onlyN ?_
          exact ⟨⟨rfl, rfl, rfl, rfl, rfl, rfl, rfl, rfl, rfl, rfl, rfl, trivial⟩, X_6, (Sep.sel S_6 [0, 1, 2, 3, 4] (by decide))⟩
      · rw [if_neg c2] at hy1
        have c2 := eq_false_of_ne_true c2
        by_cases c4 : (!false) = true
        · rw [if_pos c4] at hy1
          refine W.region ?_
          refine RL.opD (by decide) (opv_loadA (us := [(.int .i64 a0_0), (.int .i64 a0_1), (.bool a0_2), u0_3, u0_4]) rfl Try.agg29 Try.size29 rfl (Sep.at (o := boxO bb1 [(.int .i64 a0_0), (.int .i64 a0_1), (.bool a0_2), u0_3, u0_4]) S_5 4 rfl) rfl rfl) ?_
          refine RL.opD (by decide) (opv_loadA (us := [(.int .i64 a1_0), (.int .i64 a1_1), (.int .i64 a1_2), (.int .i64 a1_3)]) rfl Try.agg79 Try.size79 rfl (Sep.at (o := boxO bb2 [(.int .i64 a1_0), (.int .i64 a1_1), (.int .i64 a1_2), (.int .i64 a1_3)]) S_5 3 rfl) rfl rfl) ?_
          refine RL.op _ (by decide) (opv_call (cap := []) (impl_IsRect_ok _ _ _ _ _ _ (SL.up (SL.mod g0_3 X_5 (Nat.le_refl _) nob) (Nat.le_trans (Nat.le_refl _) (Mod.size X_5))) _ _ (SL.up (SL.mod g0_4 X_5 (Nat.le_refl _) nob) (Nat.le_trans (Nat.le_refl _) (Mod.size X_5))) _ _ _ _ _ hx2) rfl rfl ⟨rfl, rfl, trivial⟩ Try.func108 rfl rfl) ?_
          rintro _ hp6 ⟨rfl, MT_6, T_6⟩
          have X_6 : Mod [] h0 hp6 := Mod.step (A := []) (L := [boxO bb5 [(.int .i64 0), (.int .i64 0), (.bool false), (.slice none 0 0), (.slice none 0 0)], boxO bb4 [u3], boxO bb3 [u2], boxO bb2 [(.int .i64 a1_0), (.int .i64 a1_1), (.int .i64 a1_2), (.int .i64 a1_3)], boxO bb1 [(.int .i64 a0_0), (.int .i64 a0_1), (.bool a0_2), u0_3, u0_4]]) X_5 S_5 MT_6
          have S_6 : Sep [] h0.size hp6 [boxO bb5 [(.int .i64 0), (.int .i64 0), (.bool false), (.slice none 0 0), (.slice none 0 0)], boxO bb4 [u3], boxO bb3 [u2], boxO bb2 [(.int .i64 a1_0), (.int .i64 a1_1), (.int .i64 a1_2), (.int .i64 a1_3)], boxO bb1 [(.int .i64 a0_0), (.int .i64 a0_1), (.bool a0_2), u0_3, u0_4]] := Sep.step (A := []) (L := [boxO bb5 [(.int .i64 0), (.int .i64 0), (.bool false), (.slice none 0 0), (.slice none 0 0)], boxO bb4 [u3], boxO bb3 [u2], boxO bb2 [(.int .i64 a1_0), (.int .i64 a1_1), (.int .i64 a1_2), (.int .i64 a1_3)], boxO bb1 [(.int .i64 a0_0), (.int .i64 a0_1), (.bool a0_2), u0_3, u0_4]]) S_5 (Mod.size X_5) MT_6 T_6
          refine RL.opD (by decide) (opv_not rfl rfl) ?_
          refine RL.opD (by decide) (opv_move rfl rfl) ?_
          refine RL.yes _ rfl rfl c1 (by decide) (opv_loadB rfl Try.one40 rfl (Sep.at (o := boxO bb3 [u2]) S_6 2 rfl) rfl) ?_
          rintro _ _ ⟨rfl, rfl⟩
          refine RL.yes _ rfl rfl c1 (by decide) (opv_fcmp rfl rfl rfl rfl g2 (isF_lit .f32 0 (by decide) (by decide))) ?_
          rintro _ _ ⟨rfl, rfl⟩
          refine RL.yes _ rfl rfl c1 (by decide) (opv_move rfl rfl) ?_
          rintro _ _ ⟨rfl, rfl⟩
          refine RL.no rfl rfl (Eq.trans c2 (by decide)) (by decide) ?_
          refine RL.no rfl rfl (Eq.trans c2 (by decide)) (by decide) ?_
          refine RL.yes _ rfl rfl c1 (by decide) (opv_pick rfl rfl (fun e => absurd (Eq.trans (Eq.symm e) c2) (by decide)) (fun _ => rfl) rfl) ?_
          rintro _ _ ⟨rfl, rfl⟩
          refine RL.yes _ rfl rfl c1 (by decide) (opv_not rfl rfl) ?_
          rintro _ _ ⟨rfl, rfl⟩
          refine RL.opD (by decide) (opv_pick rfl rfl (fun e => absurd (Eq.trans (Eq.symm e) c1) (by decide)) (fun _ => rfl) rfl) ?_
          refine RL.opD (by decide) (opv_move rfl rfl) ?_
          refine RL.no rfl rfl (Eq.trans c4 (by decide)) (by decide) ?_
          refine RL.no rfl rfl (Eq.trans c4 (by decide)) (by decide) ?_
          refine RL.no rfl rfl (Eq.trans c4 (by decide)) (by decide) ?_
          refine RL.opD (by decide) (opv_pick rfl rfl (fun _ => rfl) (fun e => absurd (Eq.trans (Eq.symm e) c4) (by decide)) rfl) ?_
          refine RL.nil ?_
          have ey1 := Option.some.inj hy1
          subst ey1
          refine onlyN ?_
          exact ⟨⟨rfl, rfl, rfl, rfl, rfl, rfl, rfl, rfl, rfl, rfl, rfl, trivial⟩, X_6, (Sep.sel S_6 [0, 1, 2, 3, 4] (by decide))⟩
        · rw [if_neg c4] at hy1
          have c4 := eq_false_of_ne_true c4
          obtain ⟨x4, hx4, hy1⟩ := Option.bind_eq_some_iff.1 hy1
          refine W.region ?_
          refine RL.opD (by decide) (opv_loadA (us := [(.int .i64 a0_0), (.int .i64 a0_1), (.bool a0_2), u0_3, u0_4]) rfl Try.agg29 Try.size29 rfl (Sep.at (o := boxO bb1 [(.int .i64 a0_0), (.int .i64 a0_1), (.bool a0_2), u0_3, u0_4]) S_5 4 rfl) rfl rfl) ?_
          refine RL.opD (by decide) (opv_loadA (us := [(.int .i64 a1_0), (.int .i64 a1_1), (.int .i64 a1_2), (.int .i64 a1_3)]) rfl Try.agg79 Try.size79 rfl (Sep.at (o := boxO bb2 [(.int .i64 a1_0), (.int .i64 a1_1), (.int .i64 a1_2), (.int .i64 a1_3)]) S_5 3 rfl) rfl rfl) ?_
          refine RL.op _ (by decide) (opv_call (cap := []) (impl_IsRect_ok _ _ _ _ _ _ (SL.up (SL.mod g0_3 X_5 (Nat.le_refl _) nob) (Nat.le_trans (Nat.le_refl _) (Mod.size X_5))) _ _ (SL.up (SL.mod g0_4 X_5 (Nat.le_refl _) nob) (Nat.le_trans (Nat.le_refl _) (Mod.size X_5))) _ _ _ _ _ hx2) rfl rfl ⟨rfl, rfl, trivial⟩ Try.func108 rfl rfl) ?_
          rintro _ hp6 ⟨rfl, MT_6, T_6⟩
          have X_6 : Mod [] h0 hp6 := Mod.step (A := []) (L := [boxO bb5 [(.int .i64 0), (.int .i64 0), (.bool false), (.slice none 0 0), (.slice none 0 0)], boxO bb4 [u3], boxO bb3 [u2], boxO bb2 [(.int .i64 a1_0), (.int .i64 a1_1), (.int .i64 a1_2), (.int .i64 a1_3)], boxO bb1 [(.int .i64 a0_0), (.int .i64 a0_1), (.bool a0_2), u0_3, u0_4]]) X_5 S_5 MT_6
          have S_6 : Sep [] h0.size hp6 [boxO bb5 [(.int .i64 0), (.int .i64 0), (.bool false), (.slice none 0 0), (.slice none 0 0)], boxO bb4 [u3], boxO bb3 [u2], boxO bb2 [(.int .i64 a1_0), (.int .i64 a1_1), (.int .i64 a1_2), (.int .i64 a1_3)], boxO bb1 [(.int .i64 a0_0), (.int .i64 a0_1), (.bool a0_2), u0_3, u0_4]] := Sep.step (A := []) (L := [boxO bb5 [(.int .i64 0), (.int .i64 0), (.bool false), (.slice none 0 0), (.slice none 0 0)], boxO bb4 [u3], boxO bb3 [u2], boxO bb2 [(.int .i64 a1_0), (.int .i64 a1_1), (.int .i64 a1_2), (.int .i64 a1_3)], boxO bb1 [(.int .i64 a0_0), (.int .i64 a0_1), (.bool a0_2), u0_3, u0_4]]) S_5 (Mod.size X_5) MT_6 T_6
          refine RL.opD (by decide) (opv_not rfl rfl) ?_
          refine RL.opD (by decide) (opv_move rfl rfl) ?_
          refine RL.yes _ rfl rfl c1 (by decide) (opv_loadB rfl Try.one40 rfl (Sep.at (o := boxO bb3 [u2]) S_6 2 rfl) rfl) ?_
          rintro _ _ ⟨rfl, rfl⟩
          refine RL.yes _ rfl rfl c1 (by decide) (opv_fcmp rfl rfl rfl rfl g2 (isF_lit .f32 0 (by decide) (by decide))) ?_
          rintro _ _ ⟨rfl, rfl⟩
          refine RL.yes _ rfl rfl c1 (by decide) (opv_move rfl rfl) ?_
          rintro _ _ ⟨rfl, rfl⟩
          refine RL.no rfl rfl (Eq.trans c2 (by decide)) (by decide) ?_
          refine RL.no rfl rfl (Eq.trans c2 (by decide)) (by decide) ?_
          refine RL.yes _ rfl rfl c1 (by decide) (opv_pick rfl rfl (fun e => absurd (Eq.trans (Eq.symm e) c2) (by decide)) (fun _ => rfl) rfl) ?_
          rintro _ _ ⟨rfl, rfl⟩
          refine RL.yes _ rfl rfl c1 (by decide) (opv_not rfl rfl) ?_
          rintro _ _ ⟨rfl, rfl⟩
          refine RL.opD (by decide) (opv_pick rfl rfl (fun e => absurd (Eq.trans (Eq.symm e) c1) (by decide)) (fun _ => rfl) rfl) ?_
          refine RL.opD (by decide) (opv_move rfl rfl) ?_
          refine RL.yes _ rfl rfl c4 (by decide) (opv_loadB rfl Try.one40 rfl (Sep.at (o := boxO bb4 [u3]) S_6 1 rfl) rfl) ?_
          rintro _ _ ⟨rfl, rfl⟩
          refine RL.yes _ rfl rfl c4 (by decide) (opv_call (cap := []) (impl_isShare_ok _ _ _ g3 _ hx4) rfl rfl ⟨rfl, trivial⟩ Try.func109 rfl rfl) ?_
          rintro _ _ ⟨rfl, rfl⟩
          refine RL.yes _ rfl rfl c4 (by decide) (opv_not rfl rfl) ?_
          rintro _ _ ⟨rfl, rfl⟩
          refine RL.opD (by decide) (opv_pick rfl rfl (fun e => absurd (Eq.trans (Eq.symm e) c4) (by decide)) (fun _ => rfl) rfl) ?_
          refine RL.nil ?_
          have ey1 := Option.some.inj hy1
          subst ey1
          refine onlyN ?_
          exact ⟨⟨rfl, rfl, rfl, rfl, rfl, rfl, rfl, rfl, rfl, rfl, rfl, trivial⟩, X_6, (Sep.sel S_6 [0, 1, 2, 3, 4] (by decide))⟩
  rintro φ' hp7 ⟨hs1, X_7, S_7⟩
  refine thnN ?_
  refine W.sub hs1 ?_
  by_cases c5 : x1 = true
  · rw [if_pos c5] at hp
    refine W.condT rfl c5 ?_
    refine W.seq ?_
    refine W.region ?_
    refine RL.opD (by decide) (opv_build (cs := [(.int .i64 0), (.int .i64 0), (.bool false), (.slice none 0 0), (.slice none 0 0)]) [] [] rfl Try.bd29 trivial rfl) ?_
    refine RL.op0 _ (opS_stored (cs := [(.int .i64 0), (.int .i64 0), (.bool false), (.slice none 0 0), (.slice none 0 0)]) (cs' := [(.int .i64 0), (.int .i64 0), (.bool false), (.slice none 0 0), (.slice none 0 0)]) (opv_storeA (us := [(.int .i64 0), (.int .i64 0), (.bool false), (.slice none 0 0), (.slice none 0 0)]) rfl Try.size29 rfl rfl (oneAll rfl (oneAll rfl (oneAll rfl (oneAll rfl (oneAll rfl rfl))))) (Sep.at (o := boxO bb5 [(.int .i64 0), (.int .i64 0), (.bool false), (.slice none 0 0), (.slice none 0 0)]) S_7 0 rfl) rfl rfl) (Sep.at (o := boxO bb5 [(.int .i64 0), (.int .i64 0), (.bool false), (.slice none 0 0), (.slice none 0 0)]) S_7 0 rfl)) ?_
    rintro _ hp8 ⟨rfl, MT_7, T_7⟩
    have S_8 : Sep [] h0.size hp7 ([boxO bb5 [(.int .i64 0), (.int .i64 0), (.bool false), (.slice none 0 0), (.slice none 0 0)]] ++ [boxO bb4 [u3], boxO bb3 [u2], boxO bb2 [(.int .i64 a1_0), (.int .i64 a1_1), (.int .i64 a1_2), (.int .i64 a1_3)], boxO bb1 [(.int .i64 a0_0), (.int .i64 a0_1), (.bool a0_2), u0_3, u0_4]]) := Sep.sel S_7 [0, 1, 2, 3, 4] (by decide)
    have X_8 : Mod [] h0 hp8 := Mod.step (A := [boxO bb5 [(.int .i64 0), (.int .i64 0), (.bool false), (.slice none 0 0), (.slice none 0 0)]]) (L := [boxO bb4 [u3], boxO bb3 [u2], boxO bb2 [(.int .i64 a1_0), (.int .i64 a1_1), (.int .i64 a1_2), (.int .i64 a1_3)], boxO bb1 [(.int .i64 a0_0), (.int .i64 a0_1), (.bool a0_2), u0_3, u0_4]]) X_7 S_8 MT_7
    have S_9 : Sep [] h0.size hp8 [boxO bb5 [(.int .i64 0), (.int .i64 0), (.bool false), (.slice none 0 0), (.slice none 0 0)], boxO bb4 [u3], boxO bb3 [u2], boxO bb2 [(.int .i64 a1_0), (.int .i64 a1_1), (.int .i64 a1_2), (.int .i64 a1_3)], boxO bb1 [(.int .i64 a0_0), (.int .i64 a0_1), (.bool a0_2), u0_3, u0_4]] := Sep.step (A := [boxO bb5 [(.int .i64 0), (.int .i64 0), (.bool false), (.slice none 0 0), (.slice none 0 0)]]) (L := [boxO bb4 [u3], boxO bb3 [u2], boxO bb2 [(.int .i64 a1_0), (.int .i64 a1_1), (.int .i64 a1_2), (.int .i64 a1_3)], boxO bb1 [(.int .i64 a0_0), (.int .i64 a0_1), (.bool a0_2), u0_3, u0_4]]) S_8 (Mod.size X_7) MT_7 T_7
    refine RL.opD (by decide) (opv_assign rfl rfl) ?_
    refine RL.nil ?_
    refine thnN ?_
    refine W.ret ?_
    refine thnR ?_
    have S_10 : Sep [] h0.size hp8 [ownO (kF .f32) 40 (.slice none 0 0) ([] : List (Option Nat)), boxO bb5 [(.int .i64 0), (.int .i64 0), (.bool false), (.slice none 0 0), (.slice none 0 0)], boxO bb4 [u3], boxO bb3 [u2], boxO bb2 [(.int .i64 a1_0), (.int .i64 a1_1), (.int .i64 a1_2), (.int .i64 a1_3)], boxO bb1 [(.int .i64 a0_0), (.int .i64 a0_1), (.bool a0_2), u0_3, u0_4]] := Sep.addNil S_9
    have S_11 : Sep [] h0.size hp8 [ownO (kF .f32) 40 (.slice none 0 0) ([] : List (Option Nat)), ownO (kF .f32) 40 (.slice none 0 0) ([] : List (Option Nat)), boxO bb5 [(.int .i64 0), (.int .i64 0), (.bool false), (.slice none 0 0), (.slice none 0 0)], boxO bb4 [u3], boxO bb3 [u2], boxO bb2 [(.int .i64 a1_0), (.int .i64 a1_1), (.int .i64 a1_2), (.int .i64 a1_3)], boxO bb1 [(.int .i64 a0_0), (.int .i64 a0_1), (.bool a0_2), u0_3, u0_4]] := Sep.addNil S_10
    have er := Option.some.inj hp
    subst er
    exact Rt.cellA rfl rfl rfl Try.agg29 Try.size29 (Sep.at (o := boxO bb5 [(.int .i64 0), (.int .i64 0), (.bool false), (.slice none 0 0), (.slice none 0 0)]) S_11 2 rfl) rfl ⟨(.slice none 0 0), (.slice none 0 0), rfl, X_8, (Sep.sel S_11 [1, 0] (by decide))⟩
  · rw [if_neg c5] at hp
    have c5 := eq_false_of_ne_true c5
    refine W.condF rfl c5 ?_
    refine W.skip ?_
    refine thnN ?_
    refine W.seq ?_
    obtain ⟨x5, hx5, hp⟩ := Option.bind_eq_some_iff.1 hp
    refine W.region ?_
    refine RL.opD (by decide) (opv_loadA (us := [(.int .i64 a0_0), (.int .i64 a0_1), (.bool a0_2), u0_3, u0_4]) rfl Try.agg29 Try.size29 rfl (Sep.at (o := boxO bb1 [(.int .i64 a0_0), (.int .i64 a0_1), (.bool a0_2), u0_3, u0_4]) S_7 4 rfl) rfl rfl) ?_
    refine RL.op _ (by decide) (opv_call (cap := []) (impl_copySheet_ok _ _ _ _ _ _ (SL.up (SL.mod g0_3 X_7 (Nat.le_refl _) nob) (Nat.le_trans (Nat.le_refl _) (Mod.size X_7))) _ _ (SL.up (SL.mod g0_4 X_7 (Nat.le_refl _) nob) (Nat.le_trans (Nat.le_refl _) (Mod.size X_7))) _ hx5) rfl rfl ⟨rfl, trivial⟩ Try.func98 rfl rfl) ?_
    rintro _ hp9 ⟨v1, v2, rfl, MT_8, T_8⟩
    have X_9 : Mod [] h0 hp9 := Mod.step (A := []) (L := [boxO bb5 [(.int .i64 0), (.int .i64 0), (.bool false), (.slice none 0 0), (.slice none 0 0)], boxO bb4 [u3], boxO bb3 [u2], boxO bb2 [(.int .i64 a1_0), (.int .i64 a1_1), (.int .i64 a1_2), (.int .i64 a1_3)], boxO bb1 [(.int .i64 a0_0), (.int .i64 a0_1), (.bool a0_2), u0_3, u0_4]]) X_7 S_7 MT_8
    have S_12 : Sep [] h0.size hp9 [ownO (kF .f32) 40 v1 x5.2.2.2.1, ownO (kF .f32) 40 v2 x5.2.2.2.2, boxO bb5 [(.int .i64 0), (.int .i64 0), (.bool false), (.slice none 0 0), (.slice none 0 0)], boxO bb4 [u3], boxO bb3 [u2], boxO bb2 [(.int .i64 a1_0), (.int .i64 a1_1), (.int .i64 a1_2), (.int .i64 a1_3)], boxO bb1 [(.int .i64 a0_0), (.int .i64 a0_1), (.bool a0_2), u0_3, u0_4]] := Sep.step (A := []) (L := [boxO bb5 [(.int .i64 0), (.int .i64 0), (.bool false), (.slice none 0 0), (.slice none 0 0)], boxO bb4 [u3], boxO bb3 [u2], boxO bb2 [(.int .i64 a1_0), (.int .i64 a1_1), (.int .i64 a1_2), (.int .i64 a1_3)], boxO bb1 [(.int .i64 a0_0), (.int .i64 a0_1), (.bool a0_2), u0_3, u0_4]]) S_7 (Mod.size X_7) MT_8 T_8
    refine RL.op _ (by decide) (opS_boxed (opv_alloc (cs := [(.int .i64 0), (.int .i64 0), (.bool false), (.slice none 0 0), (.slice none 0 0)]) rfl Try.zero29 rfl)) ?_
    rintro _ hp10 ⟨bb6, rfl, MT_9, T_9⟩
    have X_10 : Mod [] h0 hp10 := Mod.step (A := []) (L := [ownO (kF .f32) 40 v1 x5.2.2.2.1, ownO (kF .f32) 40 v2 x5.2.2.2.2, boxO bb5 [(.int .i64 0), (.int .i64 0), (.bool false), (.slice none 0 0), (.slice none 0 0)], boxO bb4 [u3], boxO bb3 [u2], boxO bb2 [(.int .i64 a1_0), (.int .i64 a1_1), (.int .i64 a1_2), (.int .i64 a1_3)], boxO bb1 [(.int .i64 a0_0), (.int .i64 a0_1), (.bool a0_2), u0_3, u0_4]]) X_9 S_12 MT_9
    have S_13 : Sep [] h0.size hp10 [boxO bb6 [(.int .i64 0), (.int .i64 0), (.bool false), (.slice none 0 0), (.slice none 0 0)], ownO (kF .f32) 40 v1 x5.2.2.2.1, ownO (kF .f32) 40 v2 x5.2.2.2.2, boxO bb5 [(.int .i64 0), (.int .i64 0), (.bool false), (.slice none 0 0), (.slice none 0 0)], boxO bb4 [u3], boxO bb3 [u2], boxO bb2 [(.int .i64 a1_0), (.int .i64 a1_1), (.int .i64 a1_2), (.int .i64 a1_3)], boxO bb1 [(.int .i64 a0_0), (.int .i64 a0_1), (.bool a0_2), u0_3, u0_4]] := Sep.step (A := []) (L := [ownO (kF .f32) 40 v1 x5.2.2.2.1, ownO (kF .f32) 40 v2 x5.2.2.2.2, boxO bb5 [(.int .i64 0), (.int .i64 0), (.bool false), (.slice none 0 0), (.slice none 0 0)], boxO bb4 [u3], boxO bb3 [u2], boxO bb2 [(.int .i64 a1_0), (.int .i64 a1_1), (.int .i64 a1_2), (.int .i64 a1_3)], boxO bb1 [(.int .i64 a0_0), (.int .i64 a0_1), (.bool a0_2), u0_3, u0_4]]) S_12 (Mod.size X_9) MT_9 T_9
    refine RL.op0 _ (opS_stored (cs := [(.int .i64 0), (.int .i64 0), (.bool false), (.slice none 0 0), (.slice none 0 0)]) (cs' := [(.int .i64 x5.1), (.int .i64 x5.2.1), (.bool x5.2.2.1), v1, v2]) (opv_storeA (us := [(.int .i64 x5.1), (.int .i64 x5.2.1), (.bool x5.2.2.1), v1, v2]) rfl Try.size29 rfl rfl (oneAll rfl (oneAll rfl (oneAll rfl (oneAll (ownO.one (Sep.at (o := ownO (kF .f32) 40 v1 x5.2.2.2.1) S_13 1 rfl)) (oneAll (ownO.one (Sep.at (o := ownO (kF .f32) 40 v2 x5.2.2.2.2) S_13 2 rfl)) rfl))))) (Sep.at (o := boxO bb6 [(.int .i64 0), (.int .i64 0), (.bool false), (.slice none 0 0), (.slice none 0 0)]) S_13 0 rfl) rfl rfl) (Sep.at (o := boxO bb6 [(.int .i64 0), (.int .i64 0), (.bool false), (.slice none 0 0), (.slice none 0 0)]) S_13 0 rfl)) ?_
    rintro _ hp11 ⟨rfl, MT_10, T_10⟩
    have S_14 : Sep [] h0.size hp10 ([boxO bb6 [(.int .i64 0), (.int .i64 0), (.bool false), (.slice none 0 0), (.slice none 0 0)]] ++ [ownO (kF .f32) 40 v1 x5.2.2.2.1, ownO (kF .f32) 40 v2 x5.2.2.2.2, boxO bb5 [(.int .i64 0), (.int .i64 0), (.bool false), (.slice none 0 0), (.slice none 0 0)], boxO bb4 [u3], boxO bb3 [u2], boxO bb2 [(.int .i64 a1_0), (.int .i64 a1_1), (.int .i64 a1_2), (.int .i64 a1_3)], boxO bb1 [(.int .i64 a0_0), (.int .i64 a0_1), (.bool a0_2), u0_3, u0_4]]) := Sep.sel S_13 [0, 1, 2, 3, 4, 5, 6, 7] (by decide)
    have X_11 : Mod [] h0 hp11 := Mod.step (A := [boxO bb6 [(.int .i64 0), (.int .i64 0), (.bool false), (.slice none 0 0), (.slice none 0 0)]]) (L := [ownO (kF .f32) 40 v1 x5.2.2.2.1, ownO (kF .f32) 40 v2 x5.2.2.2.2, boxO bb5 [(.int .i64 0), (.int .i64 0), (.bool false), (.slice none 0 0), (.slice none 0 0)], boxO bb4 [u3], boxO bb3 [u2], boxO bb2 [(.int .i64 a1_0), (.int .i64 a1_1), (.int .i64 a1_2), (.int .i64 a1_3)], boxO bb1 [(.int .i64 a0_0), (.int .i64 a0_1), (.bool a0_2), u0_3, u0_4]]) X_10 S_14 MT_10
    have S_15 : Sep [] h0.size hp11 [boxO bb6 [(.int .i64 x5.1), (.int .i64 x5.2.1), (.bool x5.2.2.1), v1, v2], ownO (kF .f32) 40 v1 x5.2.2.2.1, ownO (kF .f32) 40 v2 x5.2.2.2.2, boxO bb5 [(.int .i64 0), (.int .i64 0), (.bool false), (.slice none 0 0), (.slice none 0 0)], boxO bb4 [u3], boxO bb3 [u2], boxO bb2 [(.int .i64 a1_0), (.int .i64 a1_1), (.int .i64 a1_2), (.int .i64 a1_3)], boxO bb1 [(.int .i64 a0_0), (.int .i64 a0_1), (.bool a0_2), u0_3, u0_4]] := Sep.step (A := [boxO bb6 [(.int .i64 0), (.int .i64 0), (.bool false), (.slice none 0 0), (.slice none 0 0)]]) (L := [ownO (kF .f32) 40 v1 x5.2.2.2.1, ownO (kF .f32) 40 v2 x5.2.2.2.2, boxO bb5 [(.int .i64 0), (.int .i64 0), (.bool false), (.slice none 0 0), (.slice none 0 0)], boxO bb4 [u3], boxO bb3 [u2], boxO bb2 [(.int .i64 a1_0), (.int .i64 a1_1), (.int .i64 a1_2), (.int .i64 a1_3)], boxO bb1 [(.int .i64 a0_0), (.int .i64 a0_1), (.bool a0_2), u0_3, u0_4]]) S_14 (Mod.size X_10) MT_10 T_10
    refine RL.nil ?_
    refine thnN ?_
    refine W.seq ?_
    obtain ⟨x6, hx6, hp⟩ := Option.bind_eq_some_iff.1 hp
    refine W.region ?_
    refine RL.opD (by decide) (opv_loadA (us := [(.int .i64 a0_0), (.int .i64 a0_1), (.bool a0_2), u0_3, u0_4]) rfl Try.agg29 Try.size29 rfl (Sep.at (o := boxO bb1 [(.int .i64 a0_0), (.int .i64 a0_1), (.bool a0_2), u0_3, u0_4]) S_15 7 rfl) rfl rfl) ?_
    refine RL.opD (by decide) (opv_makeFunc (vs := [(.pointer (some ⟨bb2, 0, none⟩)), (.pointer (some ⟨bb3, 0, none⟩)), (.pointer (some ⟨bb4, 0, none⟩)), (.pointer (some ⟨bb6, 0, none⟩))]) rfl ⟨rfl, rfl, rfl, rfl, trivial⟩) ?_
    have S_17 : Sep [] h0.size hp11 [boxO bb2 [(.int .i64 a1_0), (.int .i64 a1_1), (.int .i64 a1_2), (.int .i64 a1_3)], boxO bb3 [u2], boxO bb4 [u3], boxO bb6 [(.int .i64 x5.1), (.int .i64 x5.2.1), (.bool x5.2.2.1), v1, v2], ownO (kF .f32) 40 v1 x5.2.2.2.1, ownO (kF .f32) 40 v2 x5.2.2.2.2] := Sep.sel S_15 [6, 5, 4, 0, 1, 2] (by decide)
    have S_16 : Sep [some bb2, some bb3, some bb4, some bb6, v1.ownBlock, v2.ownBlock] hp11.size hp11 [boxO bb2 [(.int .i64 a1_0), (.int .i64 a1_1), (.int .i64 a1_2), (.int .i64 a1_3)], boxO bb3 [u2], boxO bb4 [u3], boxO bb6 [(.int .i64 x5.1), (.int .i64 x5.2.1), (.bool x5.2.2.1), v1, v2], ownO (kF .f32) 40 v1 x5.2.2.2.1, ownO (kF .f32) 40 v2 x5.2.2.2.2] := Sep.own S_17 _
    refine RL.op _ (by decide) (opv_call (cap := []) (impl_Sheet_each__impl_FillRect_1_ok _ h0.size (Nat.le_trans (Nat.le_refl _) (Mod.size X_11)) _ _ _ _ _ (SL.mod g0_3 X_11 (Nat.le_refl _) nob) _ _ (SL.mod g0_4 X_11 (Nat.le_refl _) nob) _ _ _ _ _ _ _ _ g2 _ _ _ g3 _ _ _ _ _ _ _ _ S_16 (Sep.ge (L := [boxO bb2 [(.int .i64 a1_0), (.int .i64 a1_1), (.int .i64 a1_2), (.int .i64 a1_3)], boxO bb3 [u2], boxO bb4 [u3], boxO bb6 [(.int .i64 x5.1), (.int .i64 x5.2.1), (.bool x5.2.2.1), v1, v2], ownO (kF .f32) 40 v1 x5.2.2.2.1, ownO (kF .f32) 40 v2 x5.2.2.2.2]) S_17 (Nat.le_refl _) nob) _ hx6) rfl rfl ⟨rfl, rfl, trivial⟩ Try.func99 rfl rfl) ?_
    rintro _ hp12 ⟨v3, v4, rfl, fv3, fv4, MT_11, T_11⟩
    have S_18 : Sep [] h0.size hp11 ([boxO bb2 [(.int .i64 a1_0), (.int .i64 a1_1), (.int .i64 a1_2), (.int .i64 a1_3)], boxO bb3 [u2], boxO bb4 [u3], boxO bb6 [(.int .i64 x5.1), (.int .i64 x5.2.1), (.bool x5.2.2.1), v1, v2], ownO (kF .f32) 40 v1 x5.2.2.2.1, ownO (kF .f32) 40 v2 x5.2.2.2.2] ++ [boxO bb5 [(.int .i64 0), (.int .i64 0), (.bool false), (.slice none 0 0), (.slice none 0 0)], boxO bb1 [(.int .i64 a0_0), (.int .i64 a0_1), (.bool a0_2), u0_3, u0_4]]) := Sep.sel S_15 [6, 5, 4, 0, 1, 2, 3, 7] (by decide)
    have X_12 : Mod [] h0 hp12 := Mod.step (A := [boxO bb2 [(.int .i64 a1_0), (.int .i64 a1_1), (.int .i64 a1_2), (.int .i64 a1_3)], boxO bb3 [u2], boxO bb4 [u3], boxO bb6 [(.int .i64 x5.1), (.int .i64 x5.2.1), (.bool x5.2.2.1), v1, v2], ownO (kF .f32) 40 v1 x5.2.2.2.1, ownO (kF .f32) 40 v2 x5.2.2.2.2]) (L := [boxO bb5 [(.int .i64 0), (.int .i64 0), (.bool false), (.slice none 0 0), (.slice none 0 0)], boxO bb1 [(.int .i64 a0_0), (.int .i64 a0_1), (.bool a0_2), u0_3, u0_4]]) X_11 S_18 MT_11
    have S_19 : Sep [] h0.size hp12 [boxO bb2 [(.int .i64 x6.1), (.int .i64 x6.2.1), (.int .i64 x6.2.2.1), (.int .i64 x6.2.2.2.1)], boxO bb3 [v3], boxO bb4 [v4], boxO bb6 [(.int .i64 x6.2.2.2.2.2.2.1), (.int .i64 x6.2.2.2.2.2.2.2.1), (.bool x6.2.2.2.2.2.2.2.2.1), v1, v2], ownO (kF .f32) 40 v1 x6.2.2.2.2.2.2.2.2.2.1, ownO (kF .f32) 40 v2 x6.2.2.2.2.2.2.2.2.2.2, boxO bb5 [(.int .i64 0), (.int .i64 0), (.bool false), (.slice none 0 0), (.slice none 0 0)], boxO bb1 [(.int .i64 a0_0), (.int .i64 a0_1), (.bool a0_2), u0_3, u0_4]] := Sep.step (A := [boxO bb2 [(.int .i64 a1_0), (.int .i64 a1_1), (.int .i64 a1_2), (.int .i64 a1_3)], boxO bb3 [u2], boxO bb4 [u3], boxO bb6 [(.int .i64 x5.1), (.int .i64 x5.2.1), (.bool x5.2.2.1), v1, v2], ownO (kF .f32) 40 v1 x5.2.2.2.1, ownO (kF .f32) 40 v2 x5.2.2.2.2]) (L := [boxO bb5 [(.int .i64 0), (.int .i64 0), (.bool false), (.slice none 0 0), (.slice none 0 0)], boxO bb1 [(.int .i64 a0_0), (.int .i64 a0_1), (.bool a0_2), u0_3, u0_4]]) S_18 (Mod.size X_11) MT_11 T_11
    refine RL.nil ?_
    refine thnN ?_
    refine W.seq ?_
    refine W.region ?_
    refine RL.opD (by decide) (opv_loadA (us := [(.int .i64 x6.2.2.2.2.2.2.1), (.int .i64 x6.2.2.2.2.2.2.2.1), (.bool x6.2.2.2.2.2.2.2.2.1), v1, v2]) rfl Try.agg29 Try.size29 rfl (Sep.at (o := boxO bb6 [(.int .i64 x6.2.2.2.2.2.2.1), (.int .i64 x6.2.2.2.2.2.2.2.1), (.bool x6.2.2.2.2.2.2.2.2.1), v1, v2]) S_19 3 rfl) rfl rfl) ?_
    refine RL.op0 _ (opS_stored (cs := [(.int .i64 0), (.int .i64 0), (.bool false), (.slice none 0 0), (.slice none 0 0)]) (cs' := [(.int .i64 x6.2.2.2.2.2.2.1), (.int .i64 x6.2.2.2.2.2.2.2.1), (.bool x6.2.2.2.2.2.2.2.2.1), v1, v2]) (opv_storeA (us := [(.int .i64 x6.2.2.2.2.2.2.1), (.int .i64 x6.2.2.2.2.2.2.2.1), (.bool x6.2.2.2.2.2.2.2.2.1), v1, v2]) rfl Try.size29 rfl rfl (oneAll rfl (oneAll rfl (oneAll rfl (oneAll (ownO.one (Sep.at (o := ownO (kF .f32) 40 v1 x6.2.2.2.2.2.2.2.2.2.1) S_19 4 rfl)) (oneAll (ownO.one (Sep.at (o := ownO (kF .f32) 40 v2 x6.2.2.2.2.2.2.2.2.2.2) S_19 5 rfl)) rfl))))) (Sep.at (o := boxO bb5 [(.int .i64 0), (.int .i64 0), (.bool false), (.slice none 0 0), (.slice none 0 0)]) S_19 6 rfl) rfl rfl) (Sep.at (o := boxO bb5 [(.int .i64 0), (.int .i64 0), (.bool false), (.slice none 0 0), (.slice none 0 0)]) S_19 6 rfl)) ?_
    rintro _ hp13 ⟨rfl, MT_12, T_12⟩
    have S_20 : Sep [] h0.size hp12 ([boxO bb5 [(.int .i64 0), (.int .i64 0), (.bool false), (.slice none 0 0), (.slice none 0 0)]] ++ [boxO bb2 [(.int .i64 x6.1), (.int .i64 x6.2.1), (.int .i64 x6.2.2.1), (.int .i64 x6.2.2.2.1)], boxO bb3 [v3], boxO bb4 [v4], boxO bb6 [(.int .i64 x6.2.2.2.2.2.2.1), (.int .i64 x6.2.2.2.2.2.2.2.1), (.bool x6.2.2.2.2.2.2.2.2.1), v1, v2], ownO (kF .f32) 40 v1 x6.2.2.2.2.2.2.2.2.2.1, ownO (kF .f32) 40 v2 x6.2.2.2.2.2.2.2.2.2.2, boxO bb1 [(.int .i64 a0_0), (.int .i64 a0_1), (.bool a0_2), u0_3, u0_4]]) := Sep.sel S_19 [6, 0, 1, 2, 3, 4, 5, 7] (by decide)
    have X_13 : Mod [] h0 hp13 := Mod.step (A := [boxO bb5 [(.int .i64 0), (.int .i64 0), (.bool false), (.slice none 0 0), (.slice none 0 0)]]) (L := [boxO bb2 [(.int .i64 x6.1), (.int .i64 x6.2.1), (.int .i64 x6.2.2.1), (.int .i64 x6.2.2.2.1)], boxO bb3 [v3], boxO bb4 [v4], boxO bb6 [(.int .i64 x6.2.2.2.2.2.2.1), (.int .i64 x6.2.2.2.2.2.2.2.1), (.bool x6.2.2.2.2.2.2.2.2.1), v1, v2], ownO (kF .f32) 40 v1 x6.2.2.2.2.2.2.2.2.2.1, ownO (kF .f32) 40 v2 x6.2.2.2.2.2.2.2.2.2.2, boxO bb1 [(.int .i64 a0_0), (.int .i64 a0_1), (.bool a0_2), u0_3, u0_4]]) X_12 S_20 MT_12
    have S_21 : Sep [] h0.size hp13 [boxO bb5 [(.int .i64 x6.2.2.2.2.2.2.1), (.int .i64 x6.2.2.2.2.2.2.2.1), (.bool x6.2.2.2.2.2.2.2.2.1), v1, v2], boxO bb2 [(.int .i64 x6.1), (.int .i64 x6.2.1), (.int .i64 x6.2.2.1), (.int .i64 x6.2.2.2.1)], boxO bb3 [v3], boxO bb4 [v4], boxO bb6 [(.int .i64 x6.2.2.2.2.2.2.1), (.int .i64 x6.2.2.2.2.2.2.2.1), (.bool x6.2.2.2.2.2.2.2.2.1), v1, v2], ownO (kF .f32) 40 v1 x6.2.2.2.2.2.2.2.2.2.1, ownO (kF .f32) 40 v2 x6.2.2.2.2.2.2.2.2.2.2, boxO bb1 [(.int .i64 a0_0), (.int .i64 a0_1), (.bool a0_2), u0_3, u0_4]] := Sep.step (A := [boxO bb5 [(.int .i64 0), (.int .i64 0), (.bool false), (.slice none 0 0), (.slice none 0 0)]]) (L := [boxO bb2 [(.int .i64 x6.1), (.int .i64 x6.2.1), (.int .i64 x6.2.2.1), (.int .i64 x6.2.2.2.1)], boxO bb3 [v3], boxO bb4 [v4], boxO bb6 [(.int .i64 x6.2.2.2.2.2.2.1), (.int .i64 x6.2.2.2.2.2.2.2.1), (.bool x6.2.2.2.2.2.2.2.2.1), v1, v2], ownO (kF .f32) 40 v1 x6.2.2.2.2.2.2.2.2.2.1, ownO (kF .f32) 40 v2 x6.2.2.2.2.2.2.2.2.2.2, boxO bb1 [(.int .i64 a0_0), (.int .i64 a0_1), (.bool a0_2), u0_3, u0_4]]) S_20 (Mod.size X_12) MT_12 T_12
    refine RL.opD (by decide) (opv_assign rfl rfl) ?_
    refine RL.nil ?_
    refine thnN ?_
    refine W.ret ?_
    have er := Option.some.inj hp
    subst er
    exact Rt.cellA rfl rfl rfl Try.agg29 Try.size29 (Sep.at (o := boxO bb5 [(.int .i64 x6.2.2.2.2.2.2.1), (.int .i64 x6.2.2.2.2.2.2.2.1), (.bool x6.2.2.2.2.2.2.2.2.1), v1, v2]) S_21 0 rfl) rfl ⟨v1, v2, rfl, X_13, (Sep.sel S_21 [5, 6] (by decide))⟩

set_option maxRecDepth 20000 in
theorem laws_FnExactFillRect_ok (h0 : Heap) (a0_0 : Int) (a0_1 : Int) (a0_2 : Bool) (u0_3 : Value) (a0_3 : List (Option Nat)) (g0_3 : SL (kF .f32) h0.size h0 u0_3 a0_3) (u0_4 : Value) (a0_4 : List (Option Nat)) (g0_4 : SL (kF .f32) h0.size h0 u0_4 a0_4) (a1_0 : Int) (a1_1 : Int) (a1_2 : Int) (a1_3 : Int) (u2 : Value) (a2 : Option Nat) (g2 : IsF .f32 u2 a2) (u3 : Value) (a3 : Option Nat) (g3 : IsF .f32 u3 a3) (r : Bool) (hp : laws_FnExactFillRect a0_0 a0_1 a0_2 a0_3 a0_4 a1_0 a1_1 a1_2 a1_3 a2 a3 = some r) : CallsH Try.prog 11 ([(.agg (List.toArray (α := Value) [(.int .i64 a0_0), (.int .i64 a0_1), (.bool a0_2), u0_3, u0_4])), (.agg (List.toArray (α := Value) [(.int .i64 a1_0), (.int .i64 a1_1), (.int .i64 a1_2), (.int .i64 a1_3)])), u2, u3].toArray ++ [].toArray) h0 (fun v h' => v = (.bool r) ∧ Mod [] h0 h' ∧ Sep [] h0.size h' []) := by
  unfold laws_FnExactFillRect at hp
  refine callsH_of_W (l := [(.agg (List.toArray (α := Value) [(.int .i64 a0_0), (.int .i64 a0_1), (.bool a0_2), u0_3, u0_4])), (.agg (List.toArray (α := Value) [(.int .i64 a1_0), (.int .i64 a1_1), (.int .i64 a1_2), (.int .i64 a1_3)])), u2, u3]) (cap := []) 114 Try.func11 rfl rfl rfl ?_
  refine W.seq ?_
  refine W.region ?_
  refine RL.op _ (by decide) (opS_boxed (opv_boxA (cs := [(.int .i64 a0_0), (.int .i64 a0_1), (.bool a0_2), u0_3, u0_4]) rfl rfl)) ?_
  rintro _ hp1 ⟨bb1, rfl, MT_1, T_1⟩
  have X_1 : Mod [] h0 hp1 := Mod.step (A := []) (L := []) (Mod.refl [] h0) (Sep.nil [] h0.size h0) MT_1
  have S_1 : Sep [] h0.size hp1 [boxO bb1 [(.int .i64 a0_0), (.int .i64 a0_1), (.bool a0_2), u0_3, u0_4]] := Sep.step (A := []) (L := []) (Sep.nil [] h0.size h0) (Mod.size (Mod.refl [] h0)) MT_1 T_1
  refine RL.op _ (by decide) (opS_boxed (opv_boxA (cs := [(.int .i64 a1_0), (.int .i64 a1_1), (.int .i64 a1_2), (.int .i64 a1_3)]) rfl rfl)) ?_
  rintro _ hp2 ⟨bb2, rfl, MT_2, T_2⟩
  have X_2 : Mod [] h0 hp2 := Mod.step (A := []) (L := [boxO bb1 [(.int .i64 a0_0), (.int .i64 a0_1), (.bool a0_2), u0_3, u0_4]]) X_1 S_1 MT_2
  have S_2 : Sep [] h0.size hp2 [boxO bb2 [(.int .i64 a1_0), (.int .i64 a1_1), (.int .i64 a1_2), (.int .i64 a1_3)], boxO bb1 [(.int .i64 a0_0), (.int .i64 a0_1), (.bool a0_2), u0_3, u0_4]] := Sep.step (A := []) (L := [boxO bb1 [(.int .i64 a0_0), (.int .i64 a0_1), (.bool a0_2), u0_3, u0_4]]) S_1 (Mod.size X_1) MT_2 T_2
  refine RL.opD (by decide) (opv_assign rfl rfl) ?_
  refine RL.nil ?_
  refine thnN ?_
  refine W.seq ?_
  refine W.region ?_
  refine RL.opD (by decide) (opv_assign rfl rfl) ?_
  refine RL.nil ?_
  refine thnN ?_
  refine W.seq ?_
  obtain ⟨x1, hx1, hp⟩ := Option.bind_eq_some_iff.1 hp
  refine W.region ?_
  refine RL.opD (by decide) (opv_loadA (us := [(.int .i64 a0_0), (.int .i64 a0_1), (.bool a0_2), u0_3, u0_4]) rfl Try.agg24 Try.size24 rfl (Sep.at (o := boxO bb1 [(.int .i64 a0_0), (.int .i64 a0_1), (.bool a0_2), u0_3, u0_4]) S_2 1 rfl) rfl rfl) ?_
  refine RL.opD (by decide) (opv_move rfl rfl) ?_
  refine RL.op _ (by decide) (opv_call (cap := []) (laws_szSheet_ok _ _ _ _ _ _ (SL.up (SL.mod g0_3 X_2 (Nat.le_refl _) nob) (Nat.le_trans (Nat.le_refl _) (Mod.size X_2))) _ _ (SL.up (SL.mod g0_4 X_2 (Nat.le_refl _) nob) (Nat.le_trans (Nat.le_refl _) (Mod.size X_2))) _ _ hx1) rfl rfl ⟨rfl, rfl, trivial⟩ Try.func18 rfl rfl) ?_
  rintro _ hp3 ⟨rfl, MT_3, T_3⟩
  have X_3 : Mod [] h0 hp3 := Mod.step (A := []) (L := [boxO bb2 [(.int .i64 a1_0), (.int .i64 a1_1), (.int .i64 a1_2), (.int .i64 a1_3)], boxO bb1 [(.int .i64 a0_0), (.int .i64 a0_1), (.bool a0_2), u0_3, u0_4]]) X_2 S_2 MT_3
  have S_3 : Sep [] h0.size hp3 [boxO bb2 [(.int .i64 a1_0), (.int .i64 a1_1), (.int .i64 a1_2), (.int .i64 a1_3)], boxO bb1 [(.int .i64 a0_0), (.int .i64 a0_1), (.bool a0_2), u0_3, u0_4]] := Sep.step (A := []) (L := [boxO bb2 [(.int .i64 a1_0), (.int .i64 a1_1), (.int .i64 a1_2), (.int .i64 a1_3)], boxO bb1 [(.int .i64 a0_0), (.int .i64 a0_1), (.bool a0_2), u0_3, u0_4]]) S_2 (Mod.size X_2) MT_3 T_3
  refine RL.opD (by decide) (opv_assign rfl rfl) ?_
  refine RL.nil ?_
  refine thnN ?_
  refine W.seq ?_
  refine W.seq ?_
  refine W.region ?_
  refine RL.opD (by decide) (opv_move rfl rfl) ?_
  refine RL.opD (by decide) (opv_icmp rfl rfl rfl rfl) ?_
  refine RL.nil ?_
  refine thnN ?_
  by_cases c1 : (decide (x1 < 0)) = true
  · rw [if_pos c1] at hp
    refine W.condT rfl c1 ?_
    refine W.seq ?_
    refine W.region ?_
    refine RL.opD (by decide) (opv_assign rfl rfl) ?_
    refine RL.nil ?_
    refine thnN ?_
    refine W.ret ?_
    refine thnR ?_
    have er := Option.some.inj hp
    subst er
    exact Rt.one rfl rfl ⟨rfl, X_3, (Sep.nil _ _ _)⟩
  · rw [if_neg c1] at hp
    have c1 := eq_false_of_ne_true c1
    refine W.condF rfl c1 ?_
    refine W.skip ?_
    refine thnN ?_
    refine W.seq ?_
    obtain ⟨x2, hx2, hp⟩ := Option.bind_eq_some_iff.1 hp
    obtain ⟨x3, hx3, hp⟩ := Option.bind_eq_some_iff.1 hp
    obtain ⟨x4, hx4, hp⟩ := Option.bind_eq_some_iff.1 hp
    refine W.sub (ψ := [(0, (.agg (List.toArray (α := Value) [(.int .i64 a0_0), (.int .i64 a0_1), (.bool a0_2), u0_3, u0_4]))), (1, (.agg (List.toArray (α := Value) [(.int .i64 a1_0), (.int .i64 a1_1), (.int .i64 a1_2), (.int .i64 a1_3)]))), (2, u2), (3, u3), (4, (.pointer (some ⟨bb1, 0, none⟩))), (5, (.pointer (some ⟨bb2, 0, none⟩))), (8, (.bool false)), (9, (.int .i64 x1)), (24, (.bool (decide (x1 < 0))))]) ⟨rfl, rfl, rfl, rfl, rfl, rfl, rfl, rfl, rfl, trivial⟩ ?_
    refine W.regionL [fun v _ => @Eq Value (.agg (List.toArray (α := Value) [(.int .i64 a0_0), (.int .i64 a0_1), (.bool a0_2), u0_3, u0_4])) v, fun v h => ∃ v1, ∃ v2, @Eq Value v (.agg (List.toArray (α := Value) [(.int .i64 x2.1), (.int .i64 x2.2.1), (.bool x2.2.2.1), v1, v2])) ∧ Sep [] hp3.size h [ownO (kF .f32) 40 v1 x2.2.2.2.1, ownO (kF .f32) 40 v2 x2.2.2.2.2], fun v _ => @Eq Value (.agg (List.toArray (α := Value) [(.int .i64 a1_0), (.int .i64 a1_1), (.int .i64 a1_2), (.int .i64 a1_3)])) v, fun v h => @Eq Value v (.agg (List.toArray (α := Value) [(.int .i64 x3.1), (.int .i64 x3.2.1), (.int .i64 x3.2.2.1), (.int .i64 x3.2.2.2)])) ∧ Sep [] hp3.size h [], fun v _ => IsF .f32 v a2, fun v _ => IsF .f32 v a3, fun v h => ∃ v5, ∃ v6, @Eq Value v (.tuple (List.toArray (α := Value) [(.agg (List.toArray (α := Value) [(.int .i64 x4.1), (.int .i64 x4.2.1), (.bool x4.2.2.1), v5, v6])), (.bool x4.2.2.2.2.2)])) ∧ Sep [] hp3.size h [ownO (kF .f32) 40 v5 x4.2.2.2.1, ownO (kF .f32) 40 v6 x4.2.2.2.2.1], fun v h => ∃ v5, ∃ v6, @Eq Value v (.tuple (List.toArray (α := Value) [(.agg (List.toArray (α := Value) [(.int .i64 x4.1), (.int .i64 x4.2.1), (.bool x4.2.2.1), v5, v6])), (.bool x4.2.2.2.2.2)])) ∧ Sep [] hp3.size h [ownO (kF .f32) 40 v5 x4.2.2.2.1, ownO (kF .f32) 40 v6 x4.2.2.2.2.1], fun v h => ∃ v5, ∃ v6, @Eq Value v (.agg (List.toArray (α := Value) [(.int .i64 x4.1), (.int .i64 x4.2.1), (.bool x4.2.2.1), v5, v6])) ∧ Sep [] hp3.size h [ownO (kF .f32) 40 v5 x4.2.2.2.1, ownO (kF .f32) 40 v6 x4.2.2.2.2.1], fun v _ => @Eq Value (.bool x4.2.2.2.2.2) v, fun v h => ∃ b, @Eq Value v (.pointer (some ⟨b, 0, none⟩)) ∧ Sep [] hp3.size h [boxO b [(.int .i64 0), (.int .i64 0), (.bool false), (.slice none 0 0), (.slice none 0 0)]]] [none, some (fun u => [Value.ownBlock (vget u 3), Value.ownBlock (vget u 4)]), none, some (fun u => []), none, none, some (fun u => [Value.ownBlock (vget (vget u 0) 3), Value.ownBlock (vget (vget u 0) 4)]), none, none, none, some (fun u => [ptrB u])] [none, none, none, none, none, none, none, some (32, fun u => u), some (25, fun u => vget u 0)] [9] [[], [0], [], [2], [], [], [1, 3, 4, 5], [6], [7], [7], []] [6, 7, 8, 9, 10] Try.mixed (by decide +kernel) (by decide +kernel) (fun _ _ _ h => h) rfl rfl rfl (by decide +kernel) rfl ⟨fun _ _ _ h _ => h, fun _ _ _ ⟨u0_, u1_, e, h⟩ x => ⟨u0_, u1_, e, h.ext x⟩, fun _ _ _ h _ => h, fun _ _ _ ⟨e, h⟩ x => ⟨e, h.ext x⟩, fun _ _ _ h _ => h, fun _ _ _ h _ => h, fun _ _ _ ⟨u0_, u1_, e, h⟩ x => ⟨u0_, u1_, e, h.ext x⟩, fun _ _ _ ⟨u0_, u1_, e, h⟩ x => ⟨u0_, u1_, e, h.ext x⟩, fun _ _ _ ⟨u0_, u1_, e, h⟩ x => ⟨u0_, u1_, e, h.ext x⟩, fun _ _ _ h _ => h, fun _ _ _ ⟨b, e, h⟩ x => ⟨b, e, h.ext x⟩, trivial⟩ ?_ (.cons ?_ (.nil)) ?_
    · refine ⟨⟨rfl, ?_⟩, ⟨rfl, ?_⟩, ⟨rfl, ?_⟩, ⟨rfl, ?_⟩, ⟨rfl, ?_⟩, ⟨rfl, ?_⟩, ⟨rfl, ?_⟩, ⟨rfl, ?_⟩, ⟨rfl, ?_⟩, ⟨rfl, ?_⟩, ⟨rfl, ?_⟩, trivial⟩
      · rintro hp9 E_1
        refine Dep.nil ?_
        refine GuardOK.none rfl ?_
        exact OpV.toDx (opv_loadA (us := [(.int .i64 a0_0), (.int .i64 a0_1), (.bool a0_2), u0_3, u0_4]) rfl Try.agg24 Try.size24 rfl (Sep.at (o := boxO bb1 [(.int .i64 a0_0), (.int .i64 a0_1), (.bool a0_2), u0_3, u0_4]) (Sep.ext S_3 E_1) 1 rfl) rfl rfl) rfl
      · rintro hp10 E_2 _ rfl
        refine Dep.nil ?_
        refine GuardOK.none rfl ?_
        exact OpV.mono (opv_call (cap := []) (laws_toSheet_ok _ _ _ _ _ _ (SL.up (SL.mod g0_3 (Mod.lift X_3 E_2) (Nat.le_refl _) nob) (Nat.le_trans (Nat.le_refl _) (Mod.size (Mod.lift X_3 E_2)))) _ _ (SL.up (SL.mod g0_4 (Mod.lift X_3 E_2) (Nat.le_refl _) nob) (Nat.le_trans (Nat.le_refl _) (Mod.size (Mod.lift X_3 E_2)))) _ hx2) rfl rfl ⟨rfl, trivial⟩ Try.func20 rfl rfl) (by rintro _ _ ⟨v1, v2, rfl, M_, T_⟩; exact ⟨Mod.ext M_, ⟨v1, v2, rfl, Sep.weak T_ (Ext.size E_2)⟩, Sep.fresh T_⟩)
      · rintro hp11 E_3
        refine Dep.nil ?_
        refine GuardOK.none rfl ?_
        exact OpV.toDx (opv_loadA (us := [(.int .i64 a1_0), (.int .i64 a1_1), (.int .i64 a1_2), (.int .i64 a1_3)]) rfl Try.agg77 Try.size77 rfl (Sep.at (o := boxO bb2 [(.int .i64 a1_0), (.int .i64 a1_1), (.int .i64 a1_2), (.int .i64 a1_3)]) (Sep.ext S_3 E_3) 0 rfl) rfl rfl) rfl
      · rintro hp12 E_4 _ rfl
        refine Dep.nil ?_
        refine GuardOK.none rfl ?_
        exact OpV.mono (opv_call (cap := []) (laws_toRect_ok _ _ _ _ _ _ hx3) rfl rfl ⟨rfl, trivial⟩ Try.func56 rfl rfl) (by rintro _ _ ⟨rfl, M_, T_⟩; exact ⟨Mod.ext M_, ⟨rfl, Sep.weak T_ (Ext.size E_4)⟩, Sep.fresh T_⟩)
      · rintro hp13 E_5
        refine Dep.nil ?_
        refine GuardOK.none rfl ?_
        exact OpV.toDx (opv_move rfl rfl) g2
      · rintro hp14 E_6
        refine Dep.nil ?_
        refine GuardOK.none rfl ?_
        exact OpV.toDx (opv_move rfl rfl) g3
      · rintro hp15 E_7 _ ⟨v1, v2, rfl, T_4⟩ _ ⟨rfl, T_5⟩ v3 fv3 v4 fv4
        refine Dep.nil ?_
        refine GuardOK.none rfl ?_
        exact OpV.mono (opv_call (cap := []) (spec_FillRect_ok _ _ _ _ _ _ (ownO.read (Sep.at (o := ownO (kF .f32) 40 v1 x2.2.2.2.1) T_4 0 rfl)) _ _ (ownO.read (Sep.at (o := ownO (kF .f32) 40 v2 x2.2.2.2.2) T_4 1 rfl)) _ _ _ _ _ _ fv3 _ _ fv4 _ hx4) rfl rfl ⟨rfl, rfl, rfl, rfl, trivial⟩ Try.func55 rfl rfl) (by rintro _ _ ⟨v5, v6, rfl, M_, T_⟩; exact ⟨Mod.ext M_, ⟨v5, v6, rfl, Sep.weak T_ (Ext.size E_7)⟩, Sep.fresh T_⟩)
      · rintro hp16 E_8 _ ⟨v5, v6, rfl, T_6⟩
        refine Dep.nil ?_
        refine GuardOK.none rfl ?_
        exact OpV.mono (opv_move rfl rfl) (by rintro _ _ ⟨rfl, rfl⟩; exact ⟨⟨Ext.refl _, v5, v6, rfl, T_6⟩, _, rfl, rfl⟩)
      · rintro hp17 E_9 _ ⟨v5, v6, rfl, T_6⟩
        refine Dep.nil ?_
        refine GuardOK.none rfl ?_
        exact OpV.mono (opv_extract rfl rfl rfl) (by rintro _ _ ⟨rfl, rfl⟩; exact ⟨⟨Ext.refl _, v5, v6, rfl, T_6⟩, _, rfl, rfl⟩)
      · rintro hp18 E_10 _ ⟨v5, v6, rfl, T_6⟩
        refine Dep.nil ?_
        refine GuardOK.none rfl ?_
        exact OpV.toDx (opv_extract rfl rfl rfl) rfl
      · rintro hp19 E_11
        refine Dep.nil ?_
        refine GuardOK.none rfl ?_
        exact OpV.mono (opS_boxed (opv_alloc (cs := [(.int .i64 0), (.int .i64 0), (.bool false), (.slice none 0 0), (.slice none 0 0)]) rfl Try.zero29 rfl)) (by rintro _ _ ⟨b_, rfl, M_, T_⟩; exact ⟨Mod.ext M_, ⟨b_, rfl, Sep.weak T_ (Ext.size E_11)⟩, Sep.fresh T_⟩)
    · refine ⟨[7], _, rfl, rfl, rfl, rfl, ?_⟩
      rintro hp20 E_12 _ ⟨v5, v6, rfl, T_6⟩
      refine Dep.nil ?_
      exact ⟨_, opy_extract rfl rfl rfl, ⟨Ext.refl _, rfl⟩⟩
    rintro hp21 E_13 _ ⟨v5, v6, rfl, T_6⟩ z7_ _ z8_ _ _ rfl _ ⟨bb3, rfl, T_7⟩
    refine DepM.nil ?_
    intro PW_1 LK_
    have ez7_ : z7_ = (.tuple (List.toArray (α := Value) [(.agg (List.toArray (α := Value) [(.int .i64 x4.1), (.int .i64 x4.2.1), (.bool x4.2.2.1), v5, v6])), (.bool x4.2.2.2.2.2)])) := LK_ 7 _ _ _ _ _ (by decide) rfl rfl rfl rfl
    subst z7_
    have ez8_ : z8_ = (.agg (List.toArray (α := Value) [(.int .i64 x4.1), (.int .i64 x4.2.1), (.bool x4.2.2.1), v5, v6])) := LK_ 8 _ _ _ _ _ (by decide) rfl rfl rfl rfl
    subst z8_
    have X_9 : Mod [] h0 hp21 := Mod.lift X_3 E_13
    have S_10 : Sep [] h0.size hp21 [ownO (kF .f32) 40 v5 x4.2.2.2.1, ownO (kF .f32) 40 v6 x4.2.2.2.2.1, boxO bb3 [(.int .i64 0), (.int .i64 0), (.bool false), (.slice none 0 0), (.slice none 0 0)], boxO bb2 [(.int .i64 a1_0), (.int .i64 a1_1), (.int .i64 a1_2), (.int .i64 a1_3)], boxO bb1 [(.int .i64 a0_0), (.int .i64 a0_1), (.bool a0_2), u0_3, u0_4]] := Sep.join S_3 (Mod.size X_3) (Ext.mod E_13 []) (Sep.both T_6 T_7 (Apt.symm (Apt.of PW_1 0 4 rfl rfl (by decide))))
    show RL _ _ _ _ (_ :: _) _ _
    refine RL.op0 _ (opS_stored (cs := [(.int .i64 0), (.int .i64 0), (.bool false), (.slice none 0 0), (.slice none 0 0)]) (cs' := [(.int .i64 x4.1), (.int .i64 x4.2.1), (.bool x4.2.2.1), v5, v6]) (opv_storeA (us := [(.int .i64 x4.1), (.int .i64 x4.2.1), (.bool x4.2.2.1), v5, v6]) rfl Try.size29 rfl rfl (oneAll rfl (oneAll rfl (oneAll rfl (oneAll (ownO.one (Sep.at (o := ownO (kF .f32) 40 v5 x4.2.2.2.1) S_10 0 rfl)) (oneAll (ownO.one (Sep.at (o := ownO (kF .f32) 40 v6 x4.2.2.2.2.1) S_10 1 rfl)) rfl))))) (Sep.at (o := boxO bb3 [(.int .i64 0), (.int .i64 0), (.bool false), (.slice none 0 0), (.slice none 0 0)]) S_10 2 rfl) rfl rfl) (Sep.at (o := boxO bb3 [(.int .i64 0), (.int .i64 0), (.bool false), (.slice none 0 0), (.slice none 0 0)]) S_10 2 rfl)) ?_
    rintro _ hp22 ⟨rfl, MT_9, T_9⟩
    have S_11 : Sep [] h0.size hp21 ([boxO bb3 [(.int .i64 0), (.int .i64 0), (.bool false), (.slice none 0 0), (.slice none 0 0)]] ++ [ownO (kF .f32) 40 v5 x4.2.2.2.1, ownO (kF .f32) 40 v6 x4.2.2.2.2.1, boxO bb2 [(.int .i64 a1_0), (.int .i64 a1_1), (.int .i64 a1_2), (.int .i64 a1_3)], boxO bb1 [(.int .i64 a0_0), (.int .i64 a0_1), (.bool a0_2), u0_3, u0_4]]) := Sep.sel S_10 [2, 0, 1, 3, 4] (by decide)
    have X_10 : Mod [] h0 hp22 := Mod.step (A := [boxO bb3 [(.int .i64 0), (.int .i64 0), (.bool false), (.slice none 0 0), (.slice none 0 0)]]) (L := [ownO (kF .f32) 40 v5 x4.2.2.2.1, ownO (kF .f32) 40 v6 x4.2.2.2.2.1, boxO bb2 [(.int .i64 a1_0), (.int .i64 a1_1), (.int .i64 a1_2), (.int .i64 a1_3)], boxO bb1 [(.int .i64 a0_0), (.int .i64 a0_1), (.bool a0_2), u0_3, u0_4]]) X_9 S_11 MT_9
    have S_12 : Sep [] h0.size hp22 [boxO bb3 [(.int .i64 x4.1), (.int .i64 x4.2.1), (.bool x4.2.2.1), v5, v6], ownO (kF .f32) 40 v5 x4.2.2.2.1, ownO (kF .f32) 40 v6 x4.2.2.2.2.1, boxO bb2 [(.int .i64 a1_0), (.int .i64 a1_1), (.int .i64 a1_2), (.int .i64 a1_3)], boxO bb1 [(.int .i64 a0_0), (.int .i64 a0_1), (.bool a0_2), u0_3, u0_4]] := Sep.step (A := [boxO bb3 [(.int .i64 0), (.int .i64 0), (.bool false), (.slice none 0 0), (.slice none 0 0)]]) (L := [ownO (kF .f32) 40 v5 x4.2.2.2.1, ownO (kF .f32) 40 v6 x4.2.2.2.2.1, boxO bb2 [(.int .i64 a1_0), (.int .i64 a1_1), (.int .i64 a1_2), (.int .i64 a1_3)], boxO bb1 [(.int .i64 a0_0), (.int .i64 a0_1), (.bool a0_2), u0_3, u0_4]]) S_11 (Mod.size X_9) MT_9 T_9
    refine RL.opD (by decide) (opv_assign rfl rfl) ?_
    refine RL.nil ?_
    refine thnN ?_
    refine W.seq ?_
    obtain ⟨x5, hx5, hp⟩ := Option.bind_eq_some_iff.1 hp
    refine W.region ?_
    refine RL.opD (by decide) (opv_loadA (us := [(.int .i64 a0_0), (.int .i64 a0_1), (.bool a0_2), u0_3, u0_4]) rfl Try.agg24 Try.size24 rfl (Sep.at (o := boxO bb1 [(.int .i64 a0_0), (.int .i64 a0_1), (.bool a0_2), u0_3, u0_4]) S_12 4 rfl) rfl rfl) ?_
    refine RL.op _ (by decide) (opv_call (cap := []) (laws_toSheet_ok _ _ _ _ _ _ (SL.up (SL.mod g0_3 X_10 (Nat.le_refl _) nob) (Nat.le_trans (Nat.le_refl _) (Mod.size X_10))) _ _ (SL.up (SL.mod g0_4 X_10 (Nat.le_refl _) nob) (Nat.le_trans (Nat.le_refl _) (Mod.size X_10))) _ hx5) rfl rfl ⟨rfl, trivial⟩ Try.func20 rfl rfl) ?_
    rintro _ hp23 ⟨v11, v12, rfl, MT_10, T_10⟩
    have X_11 : Mod [] h0 hp23 := Mod.step (A := []) (L := [boxO bb3 [(.int .i64 x4.1), (.int .i64 x4.2.1), (.bool x4.2.2.1), v5, v6], ownO (kF .f32) 40 v5 x4.2.2.2.1, ownO (kF .f32) 40 v6 x4.2.2.2.2.1, boxO bb2 [(.int .i64 a1_0), (.int .i64 a1_1), (.int .i64 a1_2), (.int .i64 a1_3)], boxO bb1 [(.int .i64 a0_0), (.int .i64 a0_1), (.bool a0_2), u0_3, u0_4]]) X_10 S_12 MT_10
    have S_13 : Sep [] h0.size hp23 [ownO (kF .f32) 40 v11 x5.2.2.2.1, ownO (kF .f32) 40 v12 x5.2.2.2.2, boxO bb3 [(.int .i64 x4.1), (.int .i64 x4.2.1), (.bool x4.2.2.1), v5, v6], ownO (kF .f32) 40 v5 x4.2.2.2.1, ownO (kF .f32) 40 v6 x4.2.2.2.2.1, boxO bb2 [(.int .i64 a1_0), (.int .i64 a1_1), (.int .i64 a1_2), (.int .i64 a1_3)], boxO bb1 [(.int .i64 a0_0), (.int .i64 a0_1), (.bool a0_2), u0_3, u0_4]] := Sep.step (A := []) (L := [boxO bb3 [(.int .i64 x4.1), (.int .i64 x4.2.1), (.bool x4.2.2.1), v5, v6], ownO (kF .f32) 40 v5 x4.2.2.2.1, ownO (kF .f32) 40 v6 x4.2.2.2.2.1, boxO bb2 [(.int .i64 a1_0), (.int .i64 a1_1), (.int .i64 a1_2), (.int .i64 a1_3)], boxO bb1 [(.int .i64 a0_0), (.int .i64 a0_1), (.bool a0_2), u0_3, u0_4]]) S_12 (Mod.size X_10) MT_10 T_10
    refine RL.op _ (by decide) (opS_boxed (opv_alloc (cs := [(.int .i64 0), (.int .i64 0), (.bool false), (.slice none 0 0), (.slice none 0 0)]) rfl Try.zero29 rfl)) ?_
    rintro _ hp24 ⟨bb4, rfl, MT_11, T_11⟩
    have X_12 : Mod [] h0 hp24 := Mod.step (A := []) (L := [ownO (kF .f32) 40 v11 x5.2.2.2.1, ownO (kF .f32) 40 v12 x5.2.2.2.2, boxO bb3 [(.int .i64 x4.1), (.int .i64 x4.2.1), (.bool x4.2.2.1), v5, v6], ownO (kF .f32) 40 v5 x4.2.2.2.1, ownO (kF .f32) 40 v6 x4.2.2.2.2.1, boxO bb2 [(.int .i64 a1_0), (.int .i64 a1_1), (.int .i64 a1_2), (.int .i64 a1_3)], boxO bb1 [(.int .i64 a0_0), (.int .i64 a0_1), (.bool a0_2), u0_3, u0_4]]) X_11 S_13 MT_11
    have S_14 : Sep [] h0.size hp24 [boxO bb4 [(.int .i64 0), (.int .i64 0), (.bool false), (.slice none 0 0), (.slice none 0 0)], ownO (kF .f32) 40 v11 x5.2.2.2.1, ownO (kF .f32) 40 v12 x5.2.2.2.2, boxO bb3 [(.int .i64 x4.1), (.int .i64 x4.2.1), (.bool x4.2.2.1), v5, v6], ownO (kF .f32) 40 v5 x4.2.2.2.1, ownO (kF .f32) 40 v6 x4.2.2.2.2.1, boxO bb2 [(.int .i64 a1_0), (.int .i64 a1_1), (.int .i64 a1_2), (.int .i64 a1_3)], boxO bb1 [(.int .i64 a0_0), (.int .i64 a0_1), (.bool a0_2), u0_3, u0_4]] := Sep.step (A := []) (L := [ownO (kF .f32) 40 v11 x5.2.2.2.1, ownO (kF .f32) 40 v12 x5.2.2.2.2, boxO bb3 [(.int .i64 x4.1), (.int .i64 x4.2.1), (.bool x4.2.2.1), v5, v6], ownO (kF .f32) 40 v5 x4.2.2.2.1, ownO (kF .f32) 40 v6 x4.2.2.2.2.1, boxO bb2 [(.int .i64 a1_0), (.int .i64 a1_1), (.int .i64 a1_2), (.int .i64 a1_3)], boxO bb1 [(.int .i64 a0_0), (.int .i64 a0_1), (.bool a0_2), u0_3, u0_4]]) S_13 (Mod.size X_11) MT_11 T_11
    refine RL.op0 _ (opS_stored (cs := [(.int .i64 0), (.int .i64 0), (.bool false), (.slice none 0 0), (.slice none 0 0)]) (cs' := [(.int .i64 x5.1), (.int .i64 x5.2.1), (.bool x5.2.2.1), v11, v12]) (opv_storeA (us := [(.int .i64 x5.1), (.int .i64 x5.2.1), (.bool x5.2.2.1), v11, v12]) rfl Try.size29 rfl rfl (oneAll rfl (oneAll rfl (oneAll rfl (oneAll (ownO.one (Sep.at (o := ownO (kF .f32) 40 v11 x5.2.2.2.1) S_14 1 rfl)) (oneAll (ownO.one (Sep.at (o := ownO (kF .f32) 40 v12 x5.2.2.2.2) S_14 2 rfl)) rfl))))) (Sep.at (o := boxO bb4 [(.int .i64 0), (.int .i64 0), (.bool false), (.slice none 0 0), (.slice none 0 0)]) S_14 0 rfl) rfl rfl) (Sep.at (o := boxO bb4 [(.int .i64 0), (.int .i64 0), (.bool false), (.slice none 0 0), (.slice none 0 0)]) S_14 0 rfl)) ?_
    rintro _ hp25 ⟨rfl, MT_12, T_12⟩
    have S_15 : Sep [] h0.size hp24 ([boxO bb4 [(.int .i64 0), (.int .i64 0), (.bool false), (.slice none 0 0), (.slice none 0 0)]] ++ [ownO (kF .f32) 40 v11 x5.2.2.2.1, ownO (kF .f32) 40 v12 x5.2.2.2.2, boxO bb3 [(.int .i64 x4.1), (.int .i64 x4.2.1), (.bool x4.2.2.1), v5, v6], ownO (kF .f32) 40 v5 x4.2.2.2.1, ownO (kF .f32) 40 v6 x4.2.2.2.2.1, boxO bb2 [(.int .i64 a1_0), (.int .i64 a1_1), (.int .i64 a1_2), (.int .i64 a1_3)], boxO bb1 [(.int .i64 a0_0), (.int .i64 a0_1), (.bool a0_2), u0_3, u0_4]]) := Sep.sel S_14 [0, 1, 2, 3, 4, 5, 6, 7] (by decide)
    have X_13 : Mod [] h0 hp25 := Mod.step (A := [boxO bb4 [(.int .i64 0), (.int .i64 0), (.bool false), (.slice none 0 0), (.slice none 0 0)]]) (L := [ownO (kF .f32) 40 v11 x5.2.2.2.1, ownO (kF .f32) 40 v12 x5.2.2.2.2, boxO bb3 [(.int .i64 x4.1), (.int .i64 x4.2.1), (.bool x4.2.2.1), v5, v6], ownO (kF .f32) 40 v5 x4.2.2.2.1, ownO (kF .f32) 40 v6 x4.2.2.2.2.1, boxO bb2 [(.int .i64 a1_0), (.int .i64 a1_1), (.int .i64 a1_2), (.int .i64 a1_3)], boxO bb1 [(.int .i64 a0_0), (.int .i64 a0_1), (.bool a0_2), u0_3, u0_4]]) X_12 S_15 MT_12
    have S_16 : Sep [] h0.size hp25 [boxO bb4 [(.int .i64 x5.1), (.int .i64 x5.2.1), (.bool x5.2.2.1), v11, v12], ownO (kF .f32) 40 v11 x5.2.2.2.1, ownO (kF .f32) 40 v12 x5.2.2.2.2, boxO bb3 [(.int .i64 x4.1), (.int .i64 x4.2.1), (.bool x4.2.2.1), v5, v6], ownO (kF .f32) 40 v5 x4.2.2.2.1, ownO (kF .f32) 40 v6 x4.2.2.2.2.1, boxO bb2 [(.int .i64 a1_0), (.int .i64 a1_1), (.int .i64 a1_2), (.int .i64 a1_3)], boxO bb1 [(.int .i64 a0_0), (.int .i64 a0_1), (.bool a0_2), u0_3, u0_4]] := Sep.step (A := [boxO bb4 [(.int .i64 0), (.int .i64 0), (.bool false), (.slice none 0 0), (.slice none 0 0)]]) (L := [ownO (kF .f32) 40 v11 x5.2.2.2.1, ownO (kF .f32) 40 v12 x5.2.2.2.2, boxO bb3 [(.int .i64 x4.1), (.int .i64 x4.2.1), (.bool x4.2.2.1), v5, v6], ownO (kF .f32) 40 v5 x4.2.2.2.1, ownO (kF .f32) 40 v6 x4.2.2.2.2.1, boxO bb2 [(.int .i64 a1_0), (.int .i64 a1_1), (.int .i64 a1_2), (.int .i64 a1_3)], boxO bb1 [(.int .i64 a0_0), (.int .i64 a0_1), (.bool a0_2), u0_3, u0_4]]) S_15 (Mod.size X_12) MT_12 T_12
    refine RL.nil ?_
    refine thnN ?_
    refine W.seq ?_
    obtain ⟨x6, hx6, hp⟩ := Option.bind_eq_some_iff.1 hp
    obtain ⟨x7, hx7, hp⟩ := Option.bind_eq_some_iff.1 hp
    refine W.sub (ψ := [(0, (.agg (List.toArray (α := Value) [(.int .i64 a0_0), (.int .i64 a0_1), (.bool a0_2), u0_3, u0_4]))), (1, (.agg (List.toArray (α := Value) [(.int .i64 a1_0), (.int .i64 a1_1), (.int .i64 a1_2), (.int .i64 a1_3)]))), (2, u2), (3, u3), (4, (.pointer (some ⟨bb1, 0, none⟩))), (5, (.pointer (some ⟨bb2, 0, none⟩))), (8, (.bool false)), (9, (.int .i64 x1)), (24, (.bool (decide (x1 < 0)))), (10, (.pointer (some ⟨bb3, 0, none⟩))), (11, (.bool x4.2.2.2.2.2)), (12, (.pointer (some ⟨bb4, 0, none⟩)))]) ⟨rfl, rfl, rfl, rfl, rfl, rfl, rfl, rfl, rfl, rfl, rfl, rfl, trivial⟩ ?_
    refine W.regionL [fun v _ => @Eq Value (.agg (List.toArray (α := Value) [(.int .i64 x5.1), (.int .i64 x5.2.1), (.bool x5.2.2.1), v11, v12])) v, fun v _ => @Eq Value (.agg (List.toArray (α := Value) [(.int .i64 a1_0), (.int .i64 a1_1), (.int .i64 a1_2), (.int .i64 a1_3)])) v, fun v h => @Eq Value v (.agg (List.toArray (α := Value) [(.int .i64 x6.1), (.int .i64 x6.2.1), (.int .i64 x6.2.2.1), (.int .i64 x6.2.2.2)])) ∧ Sep [] hp25.size h [], fun v _ => IsF .f32 v a2, fun v _ => IsF .f32 v a3, fun v h => ∃ v15, ∃ v16, @Eq Value v (.tuple (List.toArray (α := Value) [(.agg (List.toArray (α := Value) [(.int .i64 x7.1), (.int .i64 x7.2.1), (.bool x7.2.2.1), v15, v16])), (.bool x7.2.2.2.2.2)])) ∧ Sep [] hp25.size h [ownO (kF .f32) 40 v15 x7.2.2.2.1, ownO (kF .f32) 40 v16 x7.2.2.2.2.1], fun v h => ∃ v15, ∃ v16, @Eq Value v (.tuple (List.toArray (α := Value) [(.agg (List.toArray (α := Value) [(.int .i64 x7.1), (.int .i64 x7.2.1), (.bool x7.2.2.1), v15, v16])), (.bool x7.2.2.2.2.2)])) ∧ Sep [] hp25.size h [ownO (kF .f32) 40 v15 x7.2.2.2.1, ownO (kF .f32) 40 v16 x7.2.2.2.2.1], fun v h => ∃ v15, ∃ v16, @Eq Value v (.agg (List.toArray (α := Value) [(.int .i64 x7.1), (.int .i64 x7.2.1), (.bool x7.2.2.1), v15, v16])) ∧ Sep [] hp25.size h [ownO (kF .f32) 40 v15 x7.2.2.2.1, ownO (kF .f32) 40 v16 x7.2.2.2.2.1], fun v _ => @Eq Value (.bool x7.2.2.2.2.2) v, fun v h => ∃ b, @Eq Value v (.pointer (some ⟨b, 0, none⟩)) ∧ Sep [] hp25.size h [boxO b [(.int .i64 0), (.int .i64 0), (.bool false), (.slice none 0 0), (.slice none 0 0)]]] [none, none, some (fun u => []), none, none, some (fun u => [Value.ownBlock (vget (vget u 0) 3), Value.ownBlock (vget (vget u 0) 4)]), none, none, none, some (fun u => [ptrB u])] [none, none, none, none, none, none, some (43, fun u => u), some (37, fun u => vget u 0)] [8] [[], [], [1], [], [], [0, 2, 3, 4], [5], [6], [6], []] [5, 6, 7, 8, 9] Try.mixed (by decide +kernel) (by decide +kernel) (fun _ _ _ h => h) rfl rfl rfl (by decide +kernel) rfl ⟨fun _ _ _ h _ => h, fun _ _ _ h _ => h, fun _ _ _ ⟨e, h⟩ x => ⟨e, h.ext x⟩, fun _ _ _ h _ => h, fun _ _ _ h _ => h, fun _ _ _ ⟨u0_, u1_, e, h⟩ x => ⟨u0_, u1_, e, h.ext x⟩, fun _ _ _ ⟨u0_, u1_, e, h⟩ x => ⟨u0_, u1_, e, h.ext x⟩, fun _ _ _ ⟨u0_, u1_, e, h⟩ x => ⟨u0_, u1_, e, h.ext x⟩, fun _ _ _ h _ => h, fun _ _ _ ⟨b, e, h⟩ x => ⟨b, e, h.ext x⟩, trivial⟩ ?_ (.cons ?_ (.nil)) ?_
    · refine ⟨⟨rfl, ?_⟩, ⟨rfl, ?_⟩, ⟨rfl, ?_⟩, ⟨rfl, ?_⟩, ⟨rfl, ?_⟩, ⟨rfl, ?_⟩, ⟨rfl, ?_⟩, ⟨rfl, ?_⟩, ⟨rfl, ?_⟩, ⟨rfl, ?_⟩, trivial⟩
      · rintro hp30 E_14
        refine Dep.nil ?_
        refine GuardOK.none rfl ?_
        exact OpV.toDx (opv_loadA (us := [(.int .i64 x5.1), (.int .i64 x5.2.1), (.bool x5.2.2.1), v11, v12]) rfl Try.agg29 Try.size29 rfl (Sep.at (o := boxO bb4 [(.int .i64 x5.1), (.int .i64 x5.2.1), (.bool x5.2.2.1), v11, v12]) (Sep.ext S_16 E_14) 0 rfl) rfl rfl) rfl
      · rintro hp31 E_15
        refine Dep.nil ?_
        refine GuardOK.none rfl ?_
        exact OpV.toDx (opv_loadA (us := [(.int .i64 a1_0), (.int .i64 a1_1), (.int .i64 a1_2), (.int .i64 a1_3)]) rfl Try.agg77 Try.size77 rfl (Sep.at (o := boxO bb2 [(.int .i64 a1_0), (.int .i64 a1_1), (.int .i64 a1_2), (.int .i64 a1_3)]) (Sep.ext S_16 E_15) 6 rfl) rfl rfl) rfl
      · rintro hp32 E_16 _ rfl
        refine Dep.nil ?_
        refine GuardOK.none rfl ?_
        exact OpV.mono (opv_call (cap := []) (laws_toRect_ok _ _ _ _ _ _ hx6) rfl rfl ⟨rfl, trivial⟩ Try.func56 rfl rfl) (by rintro _ _ ⟨rfl, M_, T_⟩; exact ⟨Mod.ext M_, ⟨rfl, Sep.weak T_ (Ext.size E_16)⟩, Sep.fresh T_⟩)
      · rintro hp33 E_17
        refine Dep.nil ?_
        refine GuardOK.none rfl ?_
        exact OpV.toDx (opv_move rfl rfl) g2
      · rintro hp34 E_18
        refine Dep.nil ?_
        refine GuardOK.none rfl ?_
        exact OpV.toDx (opv_move rfl rfl) g3
      · rintro hp35 E_19 _ rfl _ ⟨rfl, T_13⟩ v13 fv13 v14 fv14
        refine Dep.nil ?_
        refine GuardOK.none rfl ?_
        exact OpV.mono (opv_call (cap := []) (impl_FillRect_ok _ _ _ _ _ _ (ownO.read (Sep.at (o := ownO (kF .f32) 40 v11 x5.2.2.2.1) (Sep.ext S_16 E_19) 1 rfl)) _ _ (ownO.read (Sep.at (o := ownO (kF .f32) 40 v12 x5.2.2.2.2) (Sep.ext S_16 E_19) 2 rfl)) _ _ _ _ _ _ fv13 _ _ fv14 _ hx7) rfl rfl ⟨rfl, rfl, rfl, rfl, trivial⟩ Try.func57 rfl rfl) (by rintro _ _ ⟨v15, v16, rfl, M_, T_⟩; exact ⟨Mod.ext M_, ⟨v15, v16, rfl, Sep.weak T_ (Ext.size E_19)⟩, Sep.fresh T_⟩)
      · rintro hp36 E_20 _ ⟨v15, v16, rfl, T_14⟩
        refine Dep.nil ?_
        refine GuardOK.none rfl ?_
        exact OpV.mono (opv_move rfl rfl) (by rintro _ _ ⟨rfl, rfl⟩; exact ⟨⟨Ext.refl _, v15, v16, rfl, T_14⟩, _, rfl, rfl⟩)
      · rintro hp37 E_21 _ ⟨v15, v16, rfl, T_14⟩
        refine Dep.nil ?_
        refine GuardOK.none rfl ?_
        exact OpV.mono (opv_extract rfl rfl rfl) (by rintro _ _ ⟨rfl, rfl⟩; exact ⟨⟨Ext.refl _, v15, v16, rfl, T_14⟩, _, rfl, rfl⟩)
      · rintro hp38 E_22 _ ⟨v15, v16, rfl, T_14⟩
        refine Dep.nil ?_
        refine GuardOK.none rfl ?_
        exact OpV.toDx (opv_extract rfl rfl rfl) rfl
      · rintro hp39 E_23
        refine Dep.nil ?_
        refine GuardOK.none rfl ?_
        exact OpV.mono (opS_boxed (opv_alloc (cs := [(.int .i64 0), (.int .i64 0), (.bool false), (.slice none 0 0), (.slice none 0 0)]) rfl Try.zero29 rfl)) (by rintro _ _ ⟨b_, rfl, M_, T_⟩; exact ⟨Mod.ext M_, ⟨b_, rfl, Sep.weak T_ (Ext.size E_23)⟩, Sep.fresh T_⟩)
    · refine ⟨[6], _, rfl, rfl, rfl, rfl, ?_⟩
      rintro hp40 E_24 _ ⟨v15, v16, rfl, T_14⟩
      refine Dep.nil ?_
      exact ⟨_, opy_extract rfl rfl rfl, ⟨Ext.refl _, rfl⟩⟩
    rintro hp41 E_25 _ ⟨v15, v16, rfl, T_14⟩ z6_ _ z7_ _ _ rfl _ ⟨bb5, rfl, T_15⟩
    refine DepM.nil ?_
    intro PW_2 LK_
    have ez6_ : z6_ = (.tuple (List.toArray (α := Value) [(.agg (List.toArray (α := Value) [(.int .i64 x7.1), (.int .i64 x7.2.1), (.bool x7.2.2.1), v15, v16])), (.bool x7.2.2.2.2.2)])) := LK_ 6 _ _ _ _ _ (by decide) rfl rfl rfl rfl
    subst z6_
    have ez7_ : z7_ = (.agg (List.toArray (α := Value) [(.int .i64 x7.1), (.int .i64 x7.2.1), (.bool x7.2.2.1), v15, v16])) := LK_ 7 _ _ _ _ _ (by decide) rfl rfl rfl rfl
    subst z7_
    have X_18 : Mod [] h0 hp41 := Mod.lift X_13 E_25
    have S_22 : Sep [] h0.size hp41 [ownO (kF .f32) 40 v15 x7.2.2.2.1, ownO (kF .f32) 40 v16 x7.2.2.2.2.1, boxO bb5 [(.int .i64 0), (.int .i64 0), (.bool false), (.slice none 0 0), (.slice none 0 0)], boxO bb4 [(.int .i64 x5.1), (.int .i64 x5.2.1), (.bool x5.2.2.1), v11, v12], ownO (kF .f32) 40 v11 x5.2.2.2.1, ownO (kF .f32) 40 v12 x5.2.2.2.2, boxO bb3 [(.int .i64 x4.1), (.int .i64 x4.2.1), (.bool x4.2.2.1), v5, v6], ownO (kF .f32) 40 v5 x4.2.2.2.1, ownO (kF .f32) 40 v6 x4.2.2.2.2.1, boxO bb2 [(.int .i64 a1_0), (.int .i64 a1_1), (.int .i64 a1_2), (.int .i64 a1_3)], boxO bb1 [(.int .i64 a0_0), (.int .i64 a0_1), (.bool a0_2), u0_3, u0_4]] := Sep.join S_16 (Mod.size X_13) (Ext.mod E_25 []) (Sep.both T_14 T_15 (Apt.symm (Apt.of PW_2 0 4 rfl rfl (by decide))))
    show RL _ _ _ _ (_ :: _) _ _
    refine RL.op0 _ (opS_stored (cs := [(.int .i64 0), (.int .i64 0), (.bool false), (.slice none 0 0), (.slice none 0 0)]) (cs' := [(.int .i64 x7.1), (.int .i64 x7.2.1), (.bool x7.2.2.1), v15, v16]) (opv_storeA (us := [(.int .i64 x7.1), (.int .i64 x7.2.1), (.bool x7.2.2.1), v15, v16]) rfl Try.size29 rfl rfl (oneAll rfl (oneAll rfl (oneAll rfl (oneAll (ownO.one (Sep.at (o := ownO (kF .f32) 40 v15 x7.2.2.2.1) S_22 0 rfl)) (oneAll (ownO.one (Sep.at (o := ownO (kF .f32) 40 v16 x7.2.2.2.2.1) S_22 1 rfl)) rfl))))) (Sep.at (o := boxO bb5 [(.int .i64 0), (.int .i64 0), (.bool false), (.slice none 0 0), (.slice none 0 0)]) S_22 2 rfl) rfl rfl) (Sep.at (o := boxO bb5 [(.int .i64 0), (.int .i64 0), (.bool false), (.slice none 0 0), (.slice none 0 0)]) S_22 2 rfl)) ?_
    rintro _ hp42 ⟨rfl, MT_17, T_17⟩
    have S_23 : Sep [] h0.size hp41 ([boxO bb5 [(.int .i64 0), (.int .i64 0), (.bool false), (.slice none 0 0), (.slice none 0 0)]] ++ [ownO (kF .f32) 40 v15 x7.2.2.2.1, ownO (kF .f32) 40 v16 x7.2.2.2.2.1, boxO bb4 [(.int .i64 x5.1), (.int .i64 x5.2.1), (.bool x5.2.2.1), v11, v12], ownO (kF .f32) 40 v11 x5.2.2.2.1, ownO (kF .f32) 40 v12 x5.2.2.2.2, boxO bb3 [(.int .i64 x4.1), (.int .i64 x4.2.1), (.bool x4.2.2.1), v5, v6], ownO (kF .f32) 40 v5 x4.2.2.2.1, ownO (kF .f32) 40 v6 x4.2.2.2.2.1, boxO bb2 [(.int .i64 a1_0), (.int .i64 a1_1), (.int .i64 a1_2), (.int .i64 a1_3)], boxO bb1 [(.int .i64 a0_0), (.int .i64 a0_1), (.bool a0_2), u0_3, u0_4]]) := Sep.sel S_22 [2, 0, 1, 3, 4, 5, 6, 7, 8, 9, 10] (by decide)
    have X_19 : Mod [] h0 hp42 := Mod.step (A := [boxO bb5 [(.int .i64 0), (.int .i64 0), (.bool false), (.slice none 0 0), (.slice none 0 0)]]) (L := [ownO (kF .f32) 40 v15 x7.2.2.2.1, ownO (kF .f32) 40 v16 x7.2.2.2.2.1, boxO bb4 [(.int .i64 x5.1), (.int .i64 x5.2.1), (.bool x5.2.2.1), v11, v12], ownO (kF .f32) 40 v11 x5.2.2.2.1, ownO (kF .f32) 40 v12 x5.2.2.2.2, boxO bb3 [(.int .i64 x4.1), (.int .i64 x4.2.1), (.bool x4.2.2.1), v5, v6], ownO (kF .f32) 40 v5 x4.2.2.2.1, ownO (kF .f32) 40 v6 x4.2.2.2.2.1, boxO bb2 [(.int .i64 a1_0), (.int .i64 a1_1), (.int .i64 a1_2), (.int .i64 a1_3)], boxO bb1 [(.int .i64 a0_0), (.int .i64 a0_1), (.bool a0_2), u0_3, u0_4]]) X_18 S_23 MT_17
    have S_24 : Sep [] h0.size hp42 [boxO bb5 [(.int .i64 x7.1), (.int .i64 x7.2.1), (.bool x7.2.2.1), v15, v16], ownO (kF .f32) 40 v15 x7.2.2.2.1, ownO (kF .f32) 40 v16 x7.2.2.2.2.1, boxO bb4 [(.int .i64 x5.1), (.int .i64 x5.2.1), (.bool x5.2.2.1), v11, v12], ownO (kF .f32) 40 v11 x5.2.2.2.1, ownO (kF .f32) 40 v12 x5.2.2.2.2, boxO bb3 [(.int .i64 x4.1), (.int .i64 x4.2.1), (.bool x4.2.2.1), v5, v6], ownO (kF .f32) 40 v5 x4.2.2.2.1, ownO (kF .f32) 40 v6 x4.2.2.2.2.1, boxO bb2 [(.int .i64 a1_0), (.int .i64 a1_1), (.int .i64 a1_2), (.int .i64 a1_3)], boxO bb1 [(.int .i64 a0_0), (.int .i64 a0_1), (.bool a0_2), u0_3, u0_4]] := Sep.step (A := [boxO bb5 [(.int .i64 0), (.int .i64 0), (.bool false), (.slice none 0 0), (.slice none 0 0)]]) (L := [ownO (kF .f32) 40 v15 x7.2.2.2.1, ownO (kF .f32) 40 v16 x7.2.2.2.2.1, boxO bb4 [(.int .i64 x5.1), (.int .i64 x5.2.1), (.bool x5.2.2.1), v11, v12], ownO (kF .f32) 40 v11 x5.2.2.2.1, ownO (kF .f32) 40 v12 x5.2.2.2.2, boxO bb3 [(.int .i64 x4.1), (.int .i64 x4.2.1), (.bool x4.2.2.1), v5, v6], ownO (kF .f32) 40 v5 x4.2.2.2.1, ownO (kF .f32) 40 v6 x4.2.2.2.2.1, boxO bb2 [(.int .i64 a1_0), (.int .i64 a1_1), (.int .i64 a1_2), (.int .i64 a1_3)], boxO bb1 [(.int .i64 a0_0), (.int .i64 a0_1), (.bool a0_2), u0_3, u0_4]]) S_23 (Mod.size X_18) MT_17 T_17
    refine RL.opD (by decide) (opv_assign rfl rfl) ?_
    refine RL.nil ?_
    refine thnN ?_
    refine W.seq ?_
    refine W.seq ?_
    obtain ⟨x8, hy1, hp⟩ := Option.bind_eq_some_iff.1 hp
    refine W.cut (fun φ' h' => Fr.sub [(0, (.agg (List.toArray (α := Value) [(.int .i64 a0_0), (.int .i64 a0_1), (.bool a0_2), u0_3, u0_4]))), (1, (.agg (List.toArray (α := Value) [(.int .i64 a1_0), (.int .i64 a1_1), (.int .i64 a1_2), (.int .i64 a1_3)]))), (2, u2), (3, u3), (4, (.pointer (some ⟨bb1, 0, none⟩))), (5, (.pointer (some ⟨bb2, 0, none⟩))), (8, (.bool false)), (9, (.int .i64 x1)), (24, (.bool (decide (x1 < 0)))), (10, (.pointer (some ⟨bb3, 0, none⟩))), (11, (.bool x4.2.2.2.2.2)), (12, (.pointer (some ⟨bb4, 0, none⟩))), (13, (.pointer (some ⟨bb5, 0, none⟩))), (14, (.bool x7.2.2.2.2.2)), (54, (.bool x8))] φ' ∧ Mod [] h0 h' ∧ Sep [] h0.size h' [boxO bb5 [(.int .i64 x7.1), (.int .i64 x7.2.1), (.bool x7.2.2.1), v15, v16], ownO (kF .f32) 40 v15 x7.2.2.2.1, ownO (kF .f32) 40 v16 x7.2.2.2.2.1, boxO bb4 [(.int .i64 x5.1), (.int .i64 x5.2.1), (.bool x5.2.2.1), v11, v12], ownO (kF .f32) 40 v11 x5.2.2.2.1, ownO (kF .f32) 40 v12 x5.2.2.2.2, boxO bb3 [(.int .i64 x4.1), (.int .i64 x4.2.1), (.bool x4.2.2.1), v5, v6], ownO (kF .f32) 40 v5 x4.2.2.2.1, ownO (kF .f32) 40 v6 x4.2.2.2.2.1, boxO bb2 [(.int .i64 a1_0), (.int .i64 a1_1), (.int .i64 a1_2), (.int .i64 a1_3)], boxO bb1 [(.int .i64 a0_0), (.int .i64 a0_1), (.bool a0_2), u0_3, u0_4]]) ?_ ?_
    · obtain ⟨x9, hx9, hy1⟩ := Option.bind_eq_some_iff.1 hy1
      by_cases c2 : (!x9) = true
      · rw [if_pos c2] at hy1
        refine W.region ?_
        refine RL.opD (by decide) (opv_loadA (us := [(.int .i64 x7.1), (.int .i64 x7.2.1), (.bool x7.2.2.1), v15, v16]) rfl Try.agg29 Try.size29 rfl (Sep.at (o := boxO bb5 [(.int .i64 x7.1), (.int .i64 x7.2.1), (.bool x7.2.2.1), v15, v16]) S_24 0 rfl) rfl rfl) ?_
        refine RL.opD (by decide) (opv_loadA (us := [(.int .i64 x4.1), (.int .i64 x4.2.1), (.bool x4.2.2.1), v5, v6]) rfl Try.agg29 Try.size29 rfl (Sep.at (o := boxO bb3 [(.int .i64 x4.1), (.int .i64 x4.2.1), (.bool x4.2.2.1), v5, v6]) S_24 6 rfl) rfl rfl) ?_
        refine RL.op _ (by decide) (opv_call (cap := []) (laws_eqSheet_ok _ _ _ _ _ _ (ownO.read (Sep.at (o := ownO (kF .f32) 40 v15 x7.2.2.2.1) S_24 1 rfl)) _ _ (ownO.read (Sep.at (o := ownO (kF .f32) 40 v16 x7.2.2.2.2.1) S_24 2 rfl)) _ _ _ _ _ (ownO.read (Sep.at (o := ownO (kF .f32) 40 v5 x4.2.2.2.1) S_24 7 rfl)) _ _ (ownO.read (Sep.at (o := ownO (kF .f32) 40 v6 x4.2.2.2.2.1) S_24 8 rfl)) _ hx9) rfl rfl ⟨rfl, rfl, trivial⟩ Try.func23 rfl rfl) ?_
        rintro _ hp43 ⟨rfl, MT_18, T_18⟩
        have X_20 : Mod [] h0 hp43 := Mod.step (A := []) (L := [boxO bb5 [(.int .i64 x7.1), (.int .i64 x7.2.1), (.bool x7.2.2.1), v15, v16], ownO (kF .f32) 40 v15 x7.2.2.2.1, ownO (kF .f32) 40 v16 x7.2.2.2.2.1, boxO bb4 [(.int .i64 x5.1), (.int .i64 x5.2.1), (.bool x5.2.2.1), v11, v12], ownO (kF .f32) 40 v11 x5.2.2.2.1, ownO (kF .f32) 40 v12 x5.2.2.2.2, boxO bb3 [(.int .i64 x4.1), (.int .i64 x4.2.1), (.bool x4.2.2.1), v5, v6], ownO (kF .f32) 40 v5 x4.2.2.2.1, ownO (kF .f32) 40 v6 x4.2.2.2.2.1, boxO bb2 [(.int .i64 a1_0), (.int .i64 a1_1), (.int .i64 a1_2), (.int .i64 a1_3)], boxO bb1 [(.int .i64 a0_0), (.int .i64 a0_1), (.bool a0_2), u0_3, u0_4]]) X_19 S_24 MT_18
        have S_25 : Sep [] h0.size hp43 [boxO bb5 [(.int .i64 x7.1), (.int .i64 x7.2.1), (.bool x7.2.2.1), v15, v16], ownO (kF .f32) 40 v15 x7.2.2.2.1, ownO (kF .f32) 40 v16 x7.2.2.2.2.1, boxO bb4 [(.int .i64 x5.1), (.int .i64 x5.2.1), (.bool x5.2.2.1), v11, v12], ownO (kF .f32) 40 v11 x5.2.2.2.1, ownO (kF .f32) 40 v12 x5.2.2.2.2, boxO bb3 [(.int .i64 x4.1), (.int .i64 x4.2.1), (.bool x4.2.2.1), v5, v6], ownO (kF .f32) 40 v5 x4.2.2.2.1, ownO (kF .f32) 40 v6 x4.2.2.2.2.1, boxO bb2 [(.int .i64 a1_0), (.int .i64 a1_1), (.int .i64 a1_2), (.int .i64 a1_3)], boxO bb1 [(.int .i64 a0_0), (.int .i64 a0_1), (.bool a0_2), u0_3, u0_4]] := Sep.step (A := []) (L := [boxO bb5 [(.int .i64 x7.1), (.int .i64 x7.2.1), (.bool x7.2.2.1), v15, v16], ownO (kF .f32) 40 v15 x7.2.2.2.1, ownO (kF .f32) 40 v16 x7.2.2.2.2.1, boxO bb4 [(.int .i64 x5.1), (.int .i64 x5.2.1), (.bool x5.2.2.1), v11, v12], ownO (kF .f32) 40 v11 x5.2.2.2.1, ownO (kF .f32) 40 v12 x5.2.2.2.2, boxO bb3 [(.int .i64 x4.1), (.int .i64 x4.2.1), (.bool x4.2.2.1), v5, v6], ownO (kF .f32) 40 v5 x4.2.2.2.1, ownO (kF .f32) 40 v6 x4.2.2.2.2.1, boxO bb2 [(.int .i64 a1_0), (.int .i64 a1_1), (.int .i64 a1_2), (.int .i64 a1_3)], boxO bb1 [(.int .i64 a0_0), (.int .i64 a0_1), (.bool a0_2), u0_3, u0_4]]) S_24 (Mod.size X_19) MT_18 T_18
        refine RL.opD (by decide) (opv_not rfl rfl) ?_
        refine RL.opD (by decide) (opv_move rfl rfl) ?_
        refine RL.no rfl rfl (Eq.trans c2 (by decide)) (by decide) ?_
        refine RL.no rfl rfl (Eq.trans c2 (by decide)) (by decide) ?_
        refine RL.no rfl rfl (Eq.trans c2 (by decide)) (by decide) ?_
        refine RL.opD (by decide) (opv_pick rfl rfl (fun _ => rfl) (fun e => absurd (Eq.trans (Eq.symm e) c2) (by decide)) rfl) ?_
        refine RL.nil ?_
        have ey1 := Option.some.inj hy1
        subst ey1
        refine onlyN ?_
        exact ⟨⟨rfl, rfl, rfl, rfl, rfl, rfl, rfl, rfl, rfl, rfl, rfl, rfl, rfl, rfl, rfl, trivial⟩, X_20, (Sep.sel S_25 [0, 1, 2, 3, 4, 5, 6, 7, 8, 9, 10] (by decide))⟩
      · rw [if_neg c2] at hy1
        have c2 := eq_false_of_ne_true c2
        refine W.region ?_
        refine RL.opD (by decide) (opv_loadA (us := [(.int .i64 x7.1), (.int .i64 x7.2.1), (.bool x7.2.2.1), v15, v16]) rfl Try.agg29 Try.size29 rfl (Sep.at (o := boxO bb5 [(.int .i64 x7.1), (.int .i64 x7.2.1), (.bool x7.2.2.1), v15, v16]) S_24 0 rfl) rfl rfl) ?_
        refine RL.opD (by decide) (opv_loadA (us := [(.int .i64 x4.1), (.int .i64 x4.2.1), (.bool x4.2.2.1), v5, v6]) rfl Try.agg29 Try.size29 rfl (Sep.at (o := boxO bb3 [(.int .i64 x4.1), (.int .i64 x4.2.1), (.bool x4.2.2.1), v5, v6]) S_24 6 rfl) rfl rfl) ?_
        refine RL.op _ (by decide) (opv_call (cap := []) (laws_eqSheet_ok _ _ _ _ _ _ (ownO.read (Sep.at (o := ownO (kF .f32) 40 v15 x7.2.2.2.1) S_24 1 rfl)) _ _ (ownO.read (Sep.at (o := ownO (kF .f32) 40 v16 x7.2.2.2.2.1) S_24 2 rfl)) _ _ _ _ _ (ownO.read (Sep.at (o := ownO (kF .f32) 40 v5 x4.2.2.2.1) S_24 7 rfl)) _ _ (ownO.read (Sep.at (o := ownO (kF .f32) 40 v6 x4.2.2.2.2.1) S_24 8 rfl)) _ hx9) rfl rfl ⟨rfl, rfl, trivial⟩ Try.func23 rfl rfl) ?_
        rintro _ hp43 ⟨rfl, MT_18, T_18⟩
        have X_20 : Mod [] h0 hp43 := Mod.step (A := []) (L := [boxO bb5 [(.int .i64 x7.1), (.int .i64 x7.2.1), (.bool x7.2.2.1), v15, v16], ownO (kF .f32) 40 v15 x7.2.2.2.1, ownO (kF .f32) 40 v16 x7.2.2.2.2.1, boxO bb4 [(.int .i64 x5.1), (.int .i64 x5.2.1), (.bool x5.2.2.1), v11, v12], ownO (kF .f32) 40 v11 x5.2.2.2.1, ownO (kF .f32) 40 v12 x5.2.2.2.2, boxO bb3 [(.int .i64 x4.1), (.int .i64 x4.2.1), (.bool x4.2.2.1), v5, v6], ownO (kF .f32) 40 v5 x4.2.2.2.1, ownO (kF .f32) 40 v6 x4.2.2.2.2.1, boxO bb2 [(.int .i64 a1_0), (.int .i64 a1_1), (.int .i64 a1_2), (.int .i64 a1_3)], boxO bb1 [(.int .i64 a0_0), (.int .i64 a0_1), (.bool a0_2), u0_3, u0_4]]) X_19 S_24 MT_18
        have S_25 : Sep [] h0.size hp43 [boxO bb5 [(.int .i64 x7.1), (.int .i64 x7.2.1), (.bool x7.2.2.1), v15, v16], ownO (kF .f32) 40 v15 x7.2.2.2.1, ownO (kF .f32) 40 v16 x7.2.2.2.2.1, boxO bb4 [(.int .i64 x5.1), (.int .i64 x5.2.1), (.bool x5.2.2.1), v11, v12], ownO (kF .f32) 40 v11 x5.2.2.2.1, ownO (kF .f32) 40 v12 x5.2.2.2.2, boxO bb3 [(.int .i64 x4.1), (.int .i64 x4.2.1), (.bool x4.2.2.1), v5, v6], ownO (kF .f32) 40 v5 x4.2.2.2.1, ownO (kF .f32) 40 v6 x4.2.2.2.2.1, boxO bb2 [(.int .i64 a1_0), (.int .i64 a1_1), (.int .i64 a1_2), (.int .i64 a1_3)], boxO bb1 [(.int .i64 a0_0), (.int .i64 a0_1), (.bool a0_2), u0_3, u0_4]] := Sep.step (A := []) (L := [boxO bb5 [(.int .i64 x7.1), (.int .i64 x7.2.1), (.bool x7.2.2.1), v15, v16], ownO (kF .f32) 40 v15 x7.2.2.2.1, ownO (kF .f32) 40 v16 x7.2.2.2.2.1, boxO bb4 [(.int .i64 x5.1), (.int .i64 x5.2.1), (.bool x5.2.2.1), v11, v12], ownO (kF .f32) 40 v11 x5.2.2.2.1, ownO (kF .f32) 40 v12 x5.2.2.2.2, boxO bb3 [(.int .i64 x4.1), (.int .i64 x4.2.1), (.bool x4.2.2.1), v5, v6], ownO (kF .f32) 40 v5 x4.2.2.2.1, ownO (kF .f32) 40 v6 x4.2.2.2.2.1, boxO bb2 [(.int .i64 a1_0), (.int .i64 a1_1), (.int .i64 a1_2), (.int .i64 a1_3)], boxO bb1 [(.int .i64 a0_0), (.int .i64 a0_1), (.bool a0_2), u0_3, u0_4]]) S_24 (Mod.size X_19) MT_18 T_18
        refine RL.opD (by decide) (opv_not rfl rfl) ?_
        refine RL.opD (by decide) (opv_move rfl rfl) ?_
        refine RL.yes _ rfl rfl c2 (by decide) (opv_move rfl rfl) ?_
        rintro _ _ ⟨rfl, rfl⟩
        refine RL.yes _ rfl rfl c2 (by decide) (opv_move rfl rfl) ?_
        rintro _ _ ⟨rfl, rfl⟩
        refine RL.yes _ rfl rfl c2 (by decide) (opv_bcmp rfl rfl Try.underlying4 rfl rfl) ?_
        rintro _ _ ⟨rfl, rfl⟩
        refine RL.opD (by decide) (opv_pick rfl rfl (fun e => absurd (Eq.trans (Eq.symm e) c2) (by decide)) (fun _ => rfl) rfl) ?_
        refine RL.nil ?_
        have ey1 := Option.some.inj hy1
        subst ey1
        refine onlyN ?_
        exact ⟨⟨rfl, rfl, rfl, rfl, rfl, rfl, rfl, rfl, rfl, rfl, rfl, rfl, rfl, rfl, rfl, trivial⟩, X_20, (Sep.sel S_25 [0, 1, 2, 3, 4, 5, 6, 7, 8, 9, 10] (by decide))⟩
    rintro φ' hp44 ⟨hs1, X_21, S_26⟩
    refine thnN ?_
    refine W.sub hs1 ?_
    by_cases c3 : x8 = true
    · rw [if_pos c3] at hp
      refine W.condT rfl c3 ?_
      refine W.seq ?_
      refine W.region ?_
      refine RL.opD (by decide) (opv_assign rfl rfl) ?_
      refine RL.nil ?_
      refine thnN ?_
      refine W.ret ?_
      refine thnR ?_
      have er := Option.some.inj hp
      subst er
      exact Rt.one rfl rfl ⟨rfl, X_21, (Sep.nil _ _ _)⟩
    · rw [if_neg c3] at hp
      have c3 := eq_false_of_ne_true c3
      refine W.condF rfl c3 ?_
      refine W.skip ?_
      refine thnN ?_
      refine W.seq ?_
      refine W.seq ?_
      obtain ⟨x10, hx10, hp⟩ := Option.bind_eq_some_iff.1 hp
      obtain ⟨x11, hx11, hp⟩ := Option.bind_eq_some_iff.1 hp
      refine W.sub (ψ := [(0, (.agg (List.toArray (α := Value) [(.int .i64 a0_0), (.int .i64 a0_1), (.bool a0_2), u0_3, u0_4]))), (1, (.agg (List.toArray (α := Value) [(.int .i64 a1_0), (.int .i64 a1_1), (.int .i64 a1_2), (.int .i64 a1_3)]))), (2, u2), (3, u3), (4, (.pointer (some ⟨bb1, 0, none⟩))), (5, (.pointer (some ⟨bb2, 0, none⟩))), (8, (.bool false)), (9, (.int .i64 x1)), (24, (.bool (decide (x1 < 0)))), (10, (.pointer (some ⟨bb3, 0, none⟩))), (11, (.bool x4.2.2.2.2.2)), (12, (.pointer (some ⟨bb4, 0, none⟩))), (13, (.pointer (some ⟨bb5, 0, none⟩))), (14, (.bool x7.2.2.2.2.2)), (54, (.bool x8))]) ⟨rfl, rfl, rfl, rfl, rfl, rfl, rfl, rfl, rfl, rfl, rfl, rfl, rfl, rfl, rfl, trivial⟩ ?_
      refine W.regionM [fun v _ => @Eq Value (.agg (List.toArray (α := Value) [(.int .i64 x5.1), (.int .i64 x5.2.1), (.bool x5.2.2.1), v11, v12])) v, fun v _ => @Eq Value (.agg (List.toArray (α := Value) [(.int .i64 a0_0), (.int .i64 a0_1), (.bool a0_2), u0_3, u0_4])) v, fun v h => ∃ v19, ∃ v20, @Eq Value v (.agg (List.toArray (α := Value) [(.int .i64 x10.1), (.int .i64 x10.2.1), (.bool x10.2.2.1), v19, v20])) ∧ Sep [] hp44.size h [ownO (kF .f32) 40 v19 x10.2.2.2.1, ownO (kF .f32) 40 v20 x10.2.2.2.2], fun v h => @Eq Value v (.bool x11) ∧ Sep [] hp44.size h [], fun v _ => @Eq Value (.bool (!x11)) v] [none, none, some (fun u => [Value.ownBlock (vget u 3), Value.ownBlock (vget u 4)]), some (fun u => []), none] [] [[], [], [1], [0, 2], [3]] [4] Try.mixed (by decide +kernel) (by decide +kernel) rfl rfl rfl (by decide +kernel) rfl ⟨fun _ _ _ h _ => h, fun _ _ _ h _ => h, fun _ _ _ ⟨u0_, u1_, e, h⟩ x => ⟨u0_, u1_, e, h.ext x⟩, fun _ _ _ ⟨e, h⟩ x => ⟨e, h.ext x⟩, fun _ _ _ h _ => h, trivial⟩ ?_ ?_
      · refine ⟨⟨rfl, ?_⟩, ⟨rfl, ?_⟩, ⟨rfl, ?_⟩, ⟨rfl, ?_⟩, ⟨rfl, ?_⟩, trivial⟩
        · rintro hp47 E_26
          refine Dep.nil ?_
          refine GuardOK.none rfl ?_
          exact OpV.toDx (opv_loadA (us := [(.int .i64 x5.1), (.int .i64 x5.2.1), (.bool x5.2.2.1), v11, v12]) rfl Try.agg29 Try.size29 rfl (Sep.at (o := boxO bb4 [(.int .i64 x5.1), (.int .i64 x5.2.1), (.bool x5.2.2.1), v11, v12]) (Sep.ext S_26 E_26) 3 rfl) rfl rfl) rfl
        · rintro hp48 E_27
          refine Dep.nil ?_
          refine GuardOK.none rfl ?_
          exact OpV.toDx (opv_loadA (us := [(.int .i64 a0_0), (.int .i64 a0_1), (.bool a0_2), u0_3, u0_4]) rfl Try.agg24 Try.size24 rfl (Sep.at (o := boxO bb1 [(.int .i64 a0_0), (.int .i64 a0_1), (.bool a0_2), u0_3, u0_4]) (Sep.ext S_26 E_27) 10 rfl) rfl rfl) rfl
        · rintro hp49 E_28 _ rfl
          refine Dep.nil ?_
          refine GuardOK.none rfl ?_
          exact OpV.mono (opv_call (cap := []) (laws_toSheet_ok _ _ _ _ _ _ (SL.up (SL.mod g0_3 (Mod.lift X_21 E_28) (Nat.le_refl _) nob) (Nat.le_trans (Nat.le_refl _) (Mod.size (Mod.lift X_21 E_28)))) _ _ (SL.up (SL.mod g0_4 (Mod.lift X_21 E_28) (Nat.le_refl _) nob) (Nat.le_trans (Nat.le_refl _) (Mod.size (Mod.lift X_21 E_28)))) _ hx10) rfl rfl ⟨rfl, trivial⟩ Try.func20 rfl rfl) (by rintro _ _ ⟨v19, v20, rfl, M_, T_⟩; exact ⟨Mod.ext M_, ⟨v19, v20, rfl, Sep.weak T_ (Ext.size E_28)⟩, Sep.fresh T_⟩)
        · rintro hp50 E_29 _ rfl _ ⟨v19, v20, rfl, T_19⟩
          refine Dep.nil ?_
          refine GuardOK.none rfl ?_
          exact OpV.mono (opv_call (cap := []) (laws_eqSheet_ok _ _ _ _ _ _ (ownO.read (Sep.at (o := ownO (kF .f32) 40 v11 x5.2.2.2.1) (Sep.ext S_26 E_29) 4 rfl)) _ _ (ownO.read (Sep.at (o := ownO (kF .f32) 40 v12 x5.2.2.2.2) (Sep.ext S_26 E_29) 5 rfl)) _ _ _ _ _ (ownO.read (Sep.at (o := ownO (kF .f32) 40 v19 x10.2.2.2.1) T_19 0 rfl)) _ _ (ownO.read (Sep.at (o := ownO (kF .f32) 40 v20 x10.2.2.2.2) T_19 1 rfl)) _ hx11) rfl rfl ⟨rfl, rfl, trivial⟩ Try.func23 rfl rfl) (by rintro _ _ ⟨rfl, M_, T_⟩; exact ⟨Mod.ext M_, ⟨rfl, Sep.weak T_ (Ext.size E_29)⟩, Sep.fresh T_⟩)
        · rintro hp51 E_30 _ ⟨rfl, T_20⟩
          refine Dep.nil ?_
          refine GuardOK.none rfl ?_
          exact OpV.toDx (opv_not rfl rfl) rfl
      rintro hp52 E_31 _ rfl
      refine DepM.nil ?_
      intro _ LK_
      have X_24 : Mod [] h0 hp52 := Mod.lift X_21 E_31
      have S_29 : Sep [] h0.size hp52 [boxO bb5 [(.int .i64 x7.1), (.int .i64 x7.2.1), (.bool x7.2.2.1), v15, v16], ownO (kF .f32) 40 v15 x7.2.2.2.1, ownO (kF .f32) 40 v16 x7.2.2.2.2.1, boxO bb4 [(.int .i64 x5.1), (.int .i64 x5.2.1), (.bool x5.2.2.1), v11, v12], ownO (kF .f32) 40 v11 x5.2.2.2.1, ownO (kF .f32) 40 v12 x5.2.2.2.2, boxO bb3 [(.int .i64 x4.1), (.int .i64 x4.2.1), (.bool x4.2.2.1), v5, v6], ownO (kF .f32) 40 v5 x4.2.2.2.1, ownO (kF .f32) 40 v6 x4.2.2.2.2.1, boxO bb2 [(.int .i64 a1_0), (.int .i64 a1_1), (.int .i64 a1_2), (.int .i64 a1_3)], boxO bb1 [(.int .i64 a0_0), (.int .i64 a0_1), (.bool a0_2), u0_3, u0_4]] := Sep.ext S_26 E_31
      show RL _ _ _ _ [] _ _
      refine RL.nil ?_
      refine thnN ?_
      by_cases c4 : (!x11) = true
      · rw [if_pos c4] at hp
        refine W.condT rfl c4 ?_
        refine W.seq ?_
        refine W.region ?_
        refine RL.opD (by decide) (opv_assign rfl rfl) ?_
        refine RL.nil ?_
        refine thnN ?_
        refine W.ret ?_
        refine thnR ?_
        have er := Option.some.inj hp
        subst er
        exact Rt.one rfl rfl ⟨rfl, X_24, (Sep.nil _ _ _)⟩
      · rw [if_neg c4] at hp
        have c4 := eq_false_of_ne_true c4
        refine W.condF rfl c4 ?_
        refine W.skip ?_
        refine thnN ?_
        refine W.seq ?_
        refine W.region ?_
        refine RL.opD (by decide) (opv_assign rfl rfl) ?_
        refine RL.nil ?_
        refine thnN ?_
        refine W.seq ?_
        obtain ⟨x12, hx12, hp⟩ := Option.bind_eq_some_iff.1 hp
        refine W.region ?_
        refine RL.opD (by decide) (opv_loadA (us := [(.int .i64 x5.1), (.int .i64 x5.2.1), (.bool x5.2.2.1), v11, v12]) rfl Try.agg29 Try.size29 rfl (Sep.at (o := boxO bb4 [(.int .i64 x5.1), (.int .i64 x5.2.1), (.bool x5.2.2.1), v11, v12]) S_29 3 rfl) rfl rfl) ?_
        refine RL.opD (by decide) (opv_move rfl rfl) ?_
        have S_31 : Sep [] h0.size hp52 [ownO (kF .f32) 40 v11 x5.2.2.2.1, ownO (kF .f32) 40 v12 x5.2.2.2.2] := Sep.sel S_29 [4, 5] (by decide)
        have S_30 : Sep [v11.ownBlock, v12.ownBlock] hp52.size hp52 [ownO (kF .f32) 40 v11 x5.2.2.2.1, ownO (kF .f32) 40 v12 x5.2.2.2.2] := Sep.own S_31 _
        refine RL.op _ (by decide) (opv_call (cap := []) (laws_markSheet_ok _ h0.size (Nat.le_trans (Nat.le_refl _) (Mod.size X_24)) _ _ _ _ _ _ _ _ S_30 (Sep.ge (L := [ownO (kF .f32) 40 v11 x5.2.2.2.1, ownO (kF .f32) 40 v12 x5.2.2.2.2]) S_31 (Nat.le_refl _) nob) _ hx12) rfl rfl ⟨rfl, rfl, trivial⟩ Try.func44 rfl rfl) ?_
        rintro _ hp53 ⟨rfl, MT_21, T_21⟩
        have S_32 : Sep [] h0.size hp52 ([ownO (kF .f32) 40 v11 x5.2.2.2.1, ownO (kF .f32) 40 v12 x5.2.2.2.2] ++ [boxO bb5 [(.int .i64 x7.1), (.int .i64 x7.2.1), (.bool x7.2.2.1), v15, v16], ownO (kF .f32) 40 v15 x7.2.2.2.1, ownO (kF .f32) 40 v16 x7.2.2.2.2.1, boxO bb4 [(.int .i64 x5.1), (.int .i64 x5.2.1), (.bool x5.2.2.1), v11, v12], boxO bb3 [(.int .i64 x4.1), (.int .i64 x4.2.1), (.bool x4.2.2.1), v5, v6], ownO (kF .f32) 40 v5 x4.2.2.2.1, ownO (kF .f32) 40 v6 x4.2.2.2.2.1, boxO bb2 [(.int .i64 a1_0), (.int .i64 a1_1), (.int .i64 a1_2), (.int .i64 a1_3)], boxO bb1 [(.int .i64 a0_0), (.int .i64 a0_1), (.bool a0_2), u0_3, u0_4]]) := Sep.sel S_29 [4, 5, 0, 1, 2, 3, 6, 7, 8, 9, 10] (by decide)
        have X_25 : Mod [] h0 hp53 := Mod.step (A := [ownO (kF .f32) 40 v11 x5.2.2.2.1, ownO (kF .f32) 40 v12 x5.2.2.2.2]) (L := [boxO bb5 [(.int .i64 x7.1), (.int .i64 x7.2.1), (.bool x7.2.2.1), v15, v16], ownO (kF .f32) 40 v15 x7.2.2.2.1, ownO (kF .f32) 40 v16 x7.2.2.2.2.1, boxO bb4 [(.int .i64 x5.1), (.int .i64 x5.2.1), (.bool x5.2.2.1), v11, v12], boxO bb3 [(.int .i64 x4.1), (.int .i64 x4.2.1), (.bool x4.2.2.1), v5, v6], ownO (kF .f32) 40 v5 x4.2.2.2.1, ownO (kF .f32) 40 v6 x4.2.2.2.2.1, boxO bb2 [(.int .i64 a1_0), (.int .i64 a1_1), (.int .i64 a1_2), (.int .i64 a1_3)], boxO bb1 [(.int .i64 a0_0), (.int .i64 a0_1), (.bool a0_2), u0_3, u0_4]]) X_24 S_32 MT_21
        have S_33 : Sep [] h0.size hp53 [ownO (kF .f32) 40 v11 x12.2.1, ownO (kF .f32) 40 v12 x12.2.2, boxO bb5 [(.int .i64 x7.1), (.int .i64 x7.2.1), (.bool x7.2.2.1), v15, v16], ownO (kF .f32) 40 v15 x7.2.2.2.1, ownO (kF .f32) 40 v16 x7.2.2.2.2.1, boxO bb4 [(.int .i64 x5.1), (.int .i64 x5.2.1), (.bool x5.2.2.1), v11, v12], boxO bb3 [(.int .i64 x4.1), (.int .i64 x4.2.1), (.bool x4.2.2.1), v5, v6], ownO (kF .f32) 40 v5 x4.2.2.2.1, ownO (kF .f32) 40 v6 x4.2.2.2.2.1, boxO bb2 [(.int .i64 a1_0), (.int .i64 a1_1), (.int .i64 a1_2), (.int .i64 a1_3)], boxO bb1 [(.int .i64 a0_0), (.int .i64 a0_1), (.bool a0_2), u0_3, u0_4]] := Sep.step (A := [ownO (kF .f32) 40 v11 x5.2.2.2.1, ownO (kF .f32) 40 v12 x5.2.2.2.2]) (L := [boxO bb5 [(.int .i64 x7.1), (.int .i64 x7.2.1), (.bool x7.2.2.1), v15, v16], ownO (kF .f32) 40 v15 x7.2.2.2.1, ownO (kF .f32) 40 v16 x7.2.2.2.2.1, boxO bb4 [(.int .i64 x5.1), (.int .i64 x5.2.1), (.bool x5.2.2.1), v11, v12], boxO bb3 [(.int .i64 x4.1), (.int .i64 x4.2.1), (.bool x4.2.2.1), v5, v6], ownO (kF .f32) 40 v5 x4.2.2.2.1, ownO (kF .f32) 40 v6 x4.2.2.2.2.1, boxO bb2 [(.int .i64 a1_0), (.int .i64 a1_1), (.int .i64 a1_2), (.int .i64 a1_3)], boxO bb1 [(.int .i64 a0_0), (.int .i64 a0_1), (.bool a0_2), u0_3, u0_4]]) S_32 (Mod.size X_24) MT_21 T_21
        refine RL.opD (by decide) (opv_assign rfl rfl) ?_
        refine RL.nil ?_
        refine thnN ?_
        refine W.seq ?_
        refine W.seq ?_
        obtain ⟨x13, hy2, hp⟩ := Option.bind_eq_some_iff.1 hp
        refine W.cut (fun φ' h' => Fr.sub [(0, (.agg (List.toArray (α := Value) [(.int .i64 a0_0), (.int .i64 a0_1), (.bool a0_2), u0_3, u0_4]))), (1, (.agg (List.toArray (α := Value) [(.int .i64 a1_0), (.int .i64 a1_1), (.int .i64 a1_2), (.int .i64 a1_3)]))), (2, u2), (3, u3), (4, (.pointer (some ⟨bb1, 0, none⟩))), (5, (.pointer (some ⟨bb2, 0, none⟩))), (8, (.bool false)), (9, (.int .i64 x1)), (24, (.bool (decide (x1 < 0)))), (10, (.pointer (some ⟨bb3, 0, none⟩))), (11, (.bool x4.2.2.2.2.2)), (12, (.pointer (some ⟨bb4, 0, none⟩))), (13, (.pointer (some ⟨bb5, 0, none⟩))), (14, (.bool x7.2.2.2.2.2)), (54, (.bool x8)), (59, (.bool (!x11))), (15, (.int .i64 x12.1)), (75, (.bool x13))] φ' ∧ Mod [] h0 h' ∧ Sep [] h0.size h' [ownO (kF .f32) 40 v11 x12.2.1, ownO (kF .f32) 40 v12 x12.2.2, boxO bb5 [(.int .i64 x7.1), (.int .i64 x7.2.1), (.bool x7.2.2.1), v15, v16], ownO (kF .f32) 40 v15 x7.2.2.2.1, ownO (kF .f32) 40 v16 x7.2.2.2.2.1, boxO bb4 [(.int .i64 x5.1), (.int .i64 x5.2.1), (.bool x5.2.2.1), v11, v12], boxO bb3 [(.int .i64 x4.1), (.int .i64 x4.2.1), (.bool x4.2.2.1), v5, v6], ownO (kF .f32) 40 v5 x4.2.2.2.1, ownO (kF .f32) 40 v6 x4.2.2.2.2.1, boxO bb2 [(.int .i64 a1_0), (.int .i64 a1_1), (.int .i64 a1_2), (.int .i64 a1_3)], boxO bb1 [(.int .i64 a0_0), (.int .i64 a0_1), (.bool a0_2), u0_3, u0_4]]) ?_ ?_
        · by_cases c5 : (decide (x12.1 < 0)) = true
          · rw [if_pos c5] at hy2
            refine W.region ?_
            refine RL.opD (by decide) (opv_move rfl rfl) ?_
            refine RL.opD (by decide) (opv_icmp rfl rfl rfl rfl) ?_
            refine RL.opD (by decide) (opv_move rfl rfl) ?_
            refine RL.no rfl rfl (Eq.trans c5 (by decide)) (by decide) ?_
            refine RL.no rfl rfl (Eq.trans c5 (by decide)) (by decide) ?_
            refine RL.no rfl rfl (Eq.trans c5 (by decide)) (by decide) ?_
            refine RL.no rfl rfl (Eq.trans c5 (by decide)) (by decide) ?_
            refine RL.opD (by decide) (opv_pick rfl rfl (fun _ => rfl) (fun e => absurd (Eq.trans (Eq.symm e) c5) (by decide)) rfl) ?_
            refine RL.opD (by decide) (opv_move rfl rfl) ?_
            refine RL.no rfl rfl (Eq.trans rfl (by decide)) (by decide) ?_
            refine RL.no rfl rfl (Eq.trans rfl (by decide)) (by decide) ?_
            refine RL.no rfl rfl (Eq.trans rfl (by decide)) (by decide) ?_
            refine RL.opD (by decide) (opv_pick rfl rfl (fun _ => rfl) (fun e => absurd (Eq.trans (Eq.symm e) rfl) (by decide)) rfl) ?_
            refine RL.nil ?_
            have ey2 := Option.some.inj hy2
            subst ey2
            refine onlyN ?_
            exact ⟨⟨rfl, rfl, rfl, rfl, rfl, rfl, rfl, rfl, rfl, rfl, rfl, rfl, rfl, rfl, rfl, rfl, rfl, rfl, trivial⟩, X_25, (Sep.sel S_33 [0, 1, 2, 3, 4, 5, 6, 7, 8, 9, 10] (by decide))⟩
          · rw [if_neg c5] at hy2
            have c5 := eq_false_of_ne_true c5
            obtain ⟨x14, hx14, hy2⟩ := Option.bind_eq_some_iff.1 hy2
            by_cases c6 : (!x14) = true
            · rw [if_pos c6] at hy2
              refine W.region ?_
              refine RL.opD (by decide) (opv_move rfl rfl) ?_
              refine RL.opD (by decide) (opv_icmp rfl rfl rfl rfl) ?_
              refine RL.opD (by decide) (opv_move rfl rfl) ?_
              refine RL.yes _ rfl rfl c5 (by decide) (opv_loadA (us := [(.int .i64 x7.1), (.int .i64 x7.2.1), (.bool x7.2.2.1), v15, v16]) rfl Try.agg29 Try.size29 rfl (Sep.at (o := boxO bb5 [(.int .i64 x7.1), (.int .i64 x7.2.1), (.bool x7.2.2.1), v15, v16]) S_33 2 rfl) rfl rfl) ?_
              rintro _ _ ⟨rfl, rfl⟩
              refine RL.yes _ rfl rfl c5 (by decide) (opv_loadA (us := [(.int .i64 x4.1), (.int .i64 x4.2.1), (.bool x4.2.2.1), v5, v6]) rfl Try.agg29 Try.size29 rfl (Sep.at (o := boxO bb3 [(.int .i64 x4.1), (.int .i64 x4.2.1), (.bool x4.2.2.1), v5, v6]) S_33 6 rfl) rfl rfl) ?_
              rintro _ _ ⟨rfl, rfl⟩
              refine RL.yes _ rfl rfl c5 (by decide) (opv_call (cap := []) (laws_eqSheet_ok _ _ _ _ _ _ (ownO.read (Sep.at (o := ownO (kF .f32) 40 v15 x7.2.2.2.1) S_33 3 rfl)) _ _ (ownO.read (Sep.at (o := ownO (kF .f32) 40 v16 x7.2.2.2.2.1) S_33 4 rfl)) _ _ _ _ _ (ownO.read (Sep.at (o := ownO (kF .f32) 40 v5 x4.2.2.2.1) S_33 7 rfl)) _ _ (ownO.read (Sep.at (o := ownO (kF .f32) 40 v6 x4.2.2.2.2.1) S_33 8 rfl)) _ hx14) rfl rfl ⟨rfl, rfl, trivial⟩ Try.func23 rfl rfl) ?_
              rintro _ hp54 ⟨rfl, MT_22, T_22⟩
              have X_26 : Mod [] h0 hp54 := Mod.step (A := []) (L := [ownO (kF .f32) 40 v11 x12.2.1, ownO (kF .f32) 40 v12 x12.2.2, boxO bb5 [(.int .i64 x7.1), (.int .i64 x7.2.1), (.bool x7.2.2.1), v15, v16], ownO (kF .f32) 40 v15 x7.2.2.2.1, ownO (kF .f32) 40 v16 x7.2.2.2.2.1, boxO bb4 [(.int .i64 x5.1), (.int .i64 x5.2.1), (.bool x5.2.2.1), v11, v12], boxO bb3 [(.int .i64 x4.1), (.int .i64 x4.2.1), (.bool x4.2.2.1), v5, v6], ownO (kF .f32) 40 v5 x4.2.2.2.1, ownO (kF .f32) 40 v6 x4.2.2.2.2.1, boxO bb2 [(.int .i64 a1_0), (.int .i64 a1_1), (.int .i64 a1_2), (.int .i64 a1_3)], boxO bb1 [(.int .i64 a0_0), (.int .i64 a0_1), (.bool a0_2), u0_3, u0_4]]) X_25 S_33 MT_22
              have S_34 : Sep [] h0.size hp54 [ownO (kF .f32) 40 v11 x12.2.1, ownO (kF .f32) 40 v12 x12.2.2, boxO bb5 [(.int .i64 x7.1), (.int .i64 x7.2.1), (.bool x7.2.2.1), v15, v16], ownO (kF .f32) 40 v15 x7.2.2.2.1, ownO (kF .f32) 40 v16 x7.2.2.2.2.1, boxO bb4 [(.int .i64 x5.1), (.int .i64 x5.2.1), (.bool x5.2.2.1), v11, v12], boxO bb3 [(.int .i64 x4.1), (.int .i64 x4.2.1), (.bool x4.2.2.1), v5, v6], ownO (kF .f32) 40 v5 x4.2.2.2.1, ownO (kF .f32) 40 v6 x4.2.2.2.2.1, boxO bb2 [(.int .i64 a1_0), (.int .i64 a1_1), (.int .i64 a1_2), (.int .i64 a1_3)], boxO bb1 [(.int .i64 a0_0), (.int .i64 a0_1), (.bool a0_2), u0_3, u0_4]] := Sep.step (A := []) (L := [ownO (kF .f32) 40 v11 x12.2.1, ownO (kF .f32) 40 v12 x12.2.2, boxO bb5 [(.int .i64 x7.1), (.int .i64 x7.2.1), (.bool x7.2.2.1), v15, v16], ownO (kF .f32) 40 v15 x7.2.2.2.1, ownO (kF .f32) 40 v16 x7.2.2.2.2.1, boxO bb4 [(.int .i64 x5.1), (.int .i64 x5.2.1), (.bool x5.2.2.1), v11, v12], boxO bb3 [(.int .i64 x4.1), (.int .i64 x4.2.1), (.bool x4.2.2.1), v5, v6], ownO (kF .f32) 40 v5 x4.2.2.2.1, ownO (kF .f32) 40 v6 x4.2.2.2.2.1, boxO bb2 [(.int .i64 a1_0), (.int .i64 a1_1), (.int .i64 a1_2), (.int .i64 a1_3)], boxO bb1 [(.int .i64 a0_0), (.int .i64 a0_1), (.bool a0_2), u0_3, u0_4]]) S_33 (Mod.size X_25) MT_22 T_22
              refine RL.yes _ rfl rfl c5 (by decide) (opv_not rfl rfl) ?_
              rintro _ _ ⟨rfl, rfl⟩
              refine RL.opD (by decide) (opv_pick rfl rfl (fun e => absurd (Eq.trans (Eq.symm e) c5) (by decide)) (fun _ => rfl) rfl) ?_
              refine RL.opD (by decide) (opv_move rfl rfl) ?_
              refine RL.no rfl rfl (Eq.trans c6 (by decide)) (by decide) ?_
              refine RL.no rfl rfl (Eq.trans c6 (by decide)) (by decide) ?_
              refine RL.no rfl rfl (Eq.trans c6 (by decide)) (by decide) ?_
              refine RL.opD (by decide) (opv_pick rfl rfl (fun _ => rfl) (fun e => absurd (Eq.trans (Eq.symm e) c6) (by decide)) rfl) ?_
              refine RL.nil ?_
              have ey2 := Option.some.inj hy2
              subst ey2
              refine onlyN ?_
              exact ⟨⟨rfl, rfl, rfl, rfl, rfl, rfl, rfl, rfl, rfl, rfl, rfl, rfl, rfl, rfl, rfl, rfl, rfl, rfl, trivial⟩, X_26, (Sep.sel S_34 [0, 1, 2, 3, 4, 5, 6, 7, 8, 9, 10] (by decide))⟩
            · rw [if_neg c6] at hy2
              have c6 := eq_false_of_ne_true c6
              refine W.region ?_
              refine RL.opD (by decide) (opv_move rfl rfl) ?_
              refine RL.opD (by decide) (opv_icmp rfl rfl rfl rfl) ?_
              refine RL.opD (by decide) (opv_move rfl rfl) ?_
              refine RL.yes _ rfl rfl c5 (by decide) (opv_loadA (us := [(.int .i64 x7.1), (.int .i64 x7.2.1), (.bool x7.2.2.1), v15, v16]) rfl Try.agg29 Try.size29 rfl (Sep.at (o := boxO bb5 [(.int .i64 x7.1), (.int .i64 x7.2.1), (.bool x7.2.2.1), v15, v16]) S_33 2 rfl) rfl rfl) ?_
              rintro _ _ ⟨rfl, rfl⟩
              refine RL.yes _ rfl rfl c5 (by decide) (opv_loadA (us := [(.int .i64 x4.1), (.int .i64 x4.2.1), (.bool x4.2.2.1), v5, v6]) rfl Try.agg29 Try.size29 rfl (Sep.at (o := boxO bb3 [(.int .i64 x4.1), (.int .i64 x4.2.1), (.bool x4.2.2.1), v5, v6]) S_33 6 rfl) rfl rfl) ?_
              rintro _ _ ⟨rfl, rfl⟩
              refine RL.yes _ rfl rfl c5 (by decide) (opv_call (cap := []) (laws_eqSheet_ok _ _ _ _ _ _ (ownO.read (Sep.at (o := ownO (kF .f32) 40 v15 x7.2.2.2.1) S_33 3 rfl)) _ _ (ownO.read (Sep.at (o := ownO (kF .f32) 40 v16 x7.2.2.2.2.1) S_33 4 rfl)) _ _ _ _ _ (ownO.read (Sep.at (o := ownO (kF .f32) 40 v5 x4.2.2.2.1) S_33 7 rfl)) _ _ (ownO.read (Sep.at (o := ownO (kF .f32) 40 v6 x4.2.2.2.2.1) S_33 8 rfl)) _ hx14) rfl rfl ⟨rfl, rfl, trivial⟩ Try.func23 rfl rfl) ?_
              rintro _ hp54 ⟨rfl, MT_22, T_22⟩
              have X_26 : Mod [] h0 hp54 := Mod.step (A := []) (L := [ownO (kF .f32) 40 v11 x12.2.1, ownO (kF .f32) 40 v12 x12.2.2, boxO bb5 [(.int .i64 x7.1), (.int .i64 x7.2.1), (.bool x7.2.2.1), v15, v16], ownO (kF .f32) 40 v15 x7.2.2.2.1, ownO (kF .f32) 40 v16 x7.2.2.2.2.1, boxO bb4 [(.int .i64 x5.1), (.int .i64 x5.2.1), (.bool x5.2.2.1), v11, v12], boxO bb3 [(.int .i64 x4.1), (.int .i64 x4.2.1), (.bool x4.2.2.1), v5, v6], ownO (kF .f32) 40 v5 x4.2.2.2.1, ownO (kF .f32) 40 v6 x4.2.2.2.2.1, boxO bb2 [(.int .i64 a1_0), (.int .i64 a1_1), (.int .i64 a1_2), (.int .i64 a1_3)], boxO bb1 [(.int .i64 a0_0), (.int .i64 a0_1), (.bool a0_2), u0_3, u0_4]]) X_25 S_33 MT_22
              have S_34 : Sep [] h0.size hp54 [ownO (kF .f32) 40 v11 x12.2.1, ownO (kF .f32) 40 v12 x12.2.2, boxO bb5 [(.int .i64 x7.1), (.int .i64 x7.2.1), (.bool x7.2.2.1), v15, v16], ownO (kF .f32) 40 v15 x7.2.2.2.1, ownO (kF .f32) 40 v16 x7.2.2.2.2.1, boxO bb4 [(.int .i64 x5.1), (.int .i64 x5.2.1), (.bool x5.2.2.1), v11, v12], boxO bb3 [(.int .i64 x4.1), (.int .i64 x4.2.1), (.bool x4.2.2.1), v5, v6], ownO (kF .f32) 40 v5 x4.2.2.2.1, ownO (kF .f32) 40 v6 x4.2.2.2.2.1, boxO bb2 [(.int .i64 a1_0), (.int .i64 a1_1), (.int .i64 a1_2), (.int .i64 a1_3)], boxO bb1 [(.int .i64 a0_0), (.int .i64 a0_1), (.bool a0_2), u0_3, u0_4]] := Sep.step (A := []) (L := [ownO (kF .f32) 40 v11 x12.2.1, ownO (kF .f32) 40 v12 x12.2.2, boxO bb5 [(.int .i64 x7.1), (.int .i64 x7.2.1), (.bool x7.2.2.1), v15, v16], ownO (kF .f32) 40 v15 x7.2.2.2.1, ownO (kF .f32) 40 v16 x7.2.2.2.2.1, boxO bb4 [(.int .i64 x5.1), (.int .i64 x5.2.1), (.bool x5.2.2.1), v11, v12], boxO bb3 [(.int .i64 x4.1), (.int .i64 x4.2.1), (.bool x4.2.2.1), v5, v6], ownO (kF .f32) 40 v5 x4.2.2.2.1, ownO (kF .f32) 40 v6 x4.2.2.2.2.1, boxO bb2 [(.int .i64 a1_0), (.int .i64 a1_1), (.int .i64 a1_2), (.int .i64 a1_3)], boxO bb1 [(.int .i64 a0_0), (.int .i64 a0_1), (.bool a0_2), u0_3, u0_4]]) S_33 (Mod.size X_25) MT_22 T_22
              refine RL.yes _ rfl rfl c5 (by decide) (opv_not rfl rfl) ?_
              rintro _ _ ⟨rfl, rfl⟩
              refine RL.opD (by decide) (opv_pick rfl rfl (fun e => absurd (Eq.trans (Eq.symm e) c5) (by decide)) (fun _ => rfl) rfl) ?_
              refine RL.opD (by decide) (opv_move rfl rfl) ?_
              refine RL.yes _ rfl rfl c6 (by decide) (opv_move rfl rfl) ?_
              rintro _ _ ⟨rfl, rfl⟩
              refine RL.yes _ rfl rfl c6 (by decide) (opv_move rfl rfl) ?_
              rintro _ _ ⟨rfl, rfl⟩
              refine RL.yes _ rfl rfl c6 (by decide) (opv_bcmp rfl rfl Try.underlying4 rfl rfl) ?_
              rintro _ _ ⟨rfl, rfl⟩
              refine RL.opD (by decide) (opv_pick rfl rfl (fun e => absurd (Eq.trans (Eq.symm e) c6) (by decide)) (fun _ => rfl) rfl) ?_
              refine RL.nil ?_
              have ey2 := Option.some.inj hy2
              subst ey2
              refine onlyN ?_
              exact ⟨⟨rfl, rfl, rfl, rfl, rfl, rfl, rfl, rfl, rfl, rfl, rfl, rfl, rfl, rfl, rfl, rfl, rfl, rfl, trivial⟩, X_26, (Sep.sel S_34 [0, 1, 2, 3, 4, 5, 6, 7, 8, 9, 10] (by decide))⟩
        rintro φ' hp55 ⟨hs2, X_27, S_35⟩
        refine thnN ?_
        refine W.sub hs2 ?_
        by_cases c7 : x13 = true
        · rw [if_pos c7] at hp
          refine W.condT rfl c7 ?_
          refine W.seq ?_
          refine W.region ?_
          refine RL.opD (by decide) (opv_assign rfl rfl) ?_
          refine RL.nil ?_
          refine thnN ?_
          refine W.ret ?_
          refine thnR ?_
          have er := Option.some.inj hp
          subst er
          exact Rt.one rfl rfl ⟨rfl, X_27, (Sep.nil _ _ _)⟩
        · rw [if_neg c7] at hp
          have c7 := eq_false_of_ne_true c7
          refine W.condF rfl c7 ?_
          refine W.skip ?_
          refine thnN ?_
          refine W.seq ?_
          refine W.region ?_
          refine RL.opD (by decide) (opv_assign rfl rfl) ?_
          refine RL.nil ?_
          refine thnN ?_
          refine W.seq ?_
          obtain ⟨x15, hx15, hp⟩ := Option.bind_eq_some_iff.1 hp
          refine W.region ?_
          refine RL.opD (by decide) (opv_loadA (us := [(.int .i64 x7.1), (.int .i64 x7.2.1), (.bool x7.2.2.1), v15, v16]) rfl Try.agg29 Try.size29 rfl (Sep.at (o := boxO bb5 [(.int .i64 x7.1), (.int .i64 x7.2.1), (.bool x7.2.2.1), v15, v16]) S_35 2 rfl) rfl rfl) ?_
          refine RL.opD (by decide) (opv_move rfl rfl) ?_
          have S_37 : Sep [] h0.size hp55 [ownO (kF .f32) 40 v15 x7.2.2.2.1, ownO (kF .f32) 40 v16 x7.2.2.2.2.1] := Sep.sel S_35 [3, 4] (by decide)
          have S_36 : Sep [v15.ownBlock, v16.ownBlock] hp55.size hp55 [ownO (kF .f32) 40 v15 x7.2.2.2.1, ownO (kF .f32) 40 v16 x7.2.2.2.2.1] := Sep.own S_37 _
          refine RL.op _ (by decide) (opv_call (cap := []) (laws_markSheet_ok _ h0.size (Nat.le_trans (Nat.le_refl _) (Mod.size X_27)) _ _ _ _ _ _ _ _ S_36 (Sep.ge (L := [ownO (kF .f32) 40 v15 x7.2.2.2.1, ownO (kF .f32) 40 v16 x7.2.2.2.2.1]) S_37 (Nat.le_refl _) nob) _ hx15) rfl rfl ⟨rfl, rfl, trivial⟩ Try.func44 rfl rfl) ?_
          rintro _ hp56 ⟨rfl, MT_23, T_23⟩
          have S_38 : Sep [] h0.size hp55 ([ownO (kF .f32) 40 v15 x7.2.2.2.1, ownO (kF .f32) 40 v16 x7.2.2.2.2.1] ++ [ownO (kF .f32) 40 v11 x12.2.1, ownO (kF .f32) 40 v12 x12.2.2, boxO bb5 [(.int .i64 x7.1), (.int .i64 x7.2.1), (.bool x7.2.2.1), v15, v16], boxO bb4 [(.int .i64 x5.1), (.int .i64 x5.2.1), (.bool x5.2.2.1), v11, v12], boxO bb3 [(.int .i64 x4.1), (.int .i64 x4.2.1), (.bool x4.2.2.1), v5, v6], ownO (kF .f32) 40 v5 x4.2.2.2.1, ownO (kF .f32) 40 v6 x4.2.2.2.2.1, boxO bb2 [(.int .i64 a1_0), (.int .i64 a1_1), (.int .i64 a1_2), (.int .i64 a1_3)], boxO bb1 [(.int .i64 a0_0), (.int .i64 a0_1), (.bool a0_2), u0_3, u0_4]]) := Sep.sel S_35 [3, 4, 0, 1, 2, 5, 6, 7, 8, 9, 10] (by decide)
          have X_28 : Mod [] h0 hp56 := Mod.step (A := [ownO (kF .f32) 40 v15 x7.2.2.2.1, ownO (kF .f32) 40 v16 x7.2.2.2.2.1]) (L := [ownO (kF .f32) 40 v11 x12.2.1, ownO (kF .f32) 40 v12 x12.2.2, boxO bb5 [(.int .i64 x7.1), (.int .i64 x7.2.1), (.bool x7.2.2.1), v15, v16], boxO bb4 [(.int .i64 x5.1), (.int .i64 x5.2.1), (.bool x5.2.2.1), v11, v12], boxO bb3 [(.int .i64 x4.1), (.int .i64 x4.2.1), (.bool x4.2.2.1), v5, v6], ownO (kF .f32) 40 v5 x4.2.2.2.1, ownO (kF .f32) 40 v6 x4.2.2.2.2.1, boxO bb2 [(.int .i64 a1_0), (.int .i64 a1_1), (.int .i64 a1_2), (.int .i64 a1_3)], boxO bb1 [(.int .i64 a0_0), (.int .i64 a0_1), (.bool a0_2), u0_3, u0_4]]) X_27 S_38 MT_23
          have S_39 : Sep [] h0.size hp56 [ownO (kF .f32) 40 v15 x15.2.1, ownO (kF .f32) 40 v16 x15.2.2, ownO (kF .f32) 40 v11 x12.2.1, ownO (kF .f32) 40 v12 x12.2.2, boxO bb5 [(.int .i64 x7.1), (.int .i64 x7.2.1), (.bool x7.2.2.1), v15, v16], boxO bb4 [(.int .i64 x5.1), (.int .i64 x5.2.1), (.bool x5.2.2.1), v11, v12], boxO bb3 [(.int .i64 x4.1), (.int .i64 x4.2.1), (.bool x4.2.2.1), v5, v6], ownO (kF .f32) 40 v5 x4.2.2.2.1, ownO (kF .f32) 40 v6 x4.2.2.2.2.1, boxO bb2 [(.int .i64 a1_0), (.int .i64 a1_1), (.int .i64 a1_2), (.int .i64 a1_3)], boxO bb1 [(.int .i64 a0_0), (.int .i64 a0_1), (.bool a0_2), u0_3, u0_4]] := Sep.step (A := [ownO (kF .f32) 40 v15 x7.2.2.2.1, ownO (kF .f32) 40 v16 x7.2.2.2.2.1]) (L := [ownO (kF .f32) 40 v11 x12.2.1, ownO (kF .f32) 40 v12 x12.2.2, boxO bb5 [(.int .i64 x7.1), (.int .i64 x7.2.1), (.bool x7.2.2.1), v15, v16], boxO bb4 [(.int .i64 x5.1), (.int .i64 x5.2.1), (.bool x5.2.2.1), v11, v12], boxO bb3 [(.int .i64 x4.1), (.int .i64 x4.2.1), (.bool x4.2.2.1), v5, v6], ownO (kF .f32) 40 v5 x4.2.2.2.1, ownO (kF .f32) 40 v6 x4.2.2.2.2.1, boxO bb2 [(.int .i64 a1_0), (.int .i64 a1_1), (.int .i64 a1_2), (.int .i64 a1_3)], boxO bb1 [(.int .i64 a0_0), (.int .i64 a0_1), (.bool a0_2), u0_3, u0_4]]) S_38 (Mod.size X_27) MT_23 T_23
          refine RL.opD (by decide) (opv_assign rfl rfl) ?_
          refine RL.nil ?_
          refine thnN ?_
          refine W.seq ?_
          refine W.region ?_
          refine RL.opD (by decide) (opv_assign rfl rfl) ?_
          refine RL.nil ?_
          refine thnN ?_
          refine W.seq ?_
          obtain ⟨x16, hx16, hp⟩ := Option.bind_eq_some_iff.1 hp
          refine W.region ?_
          refine RL.opD (by decide) (opv_loadA (us := [(.int .i64 x7.1), (.int .i64 x7.2.1), (.bool x7.2.2.1), v15, v16]) rfl Try.agg29 Try.size29 rfl (Sep.at (o := boxO bb5 [(.int .i64 x7.1), (.int .i64 x7.2.1), (.bool x7.2.2.1), v15, v16]) S_39 4 rfl) rfl rfl) ?_
          refine RL.opD (by decide) (opv_move rfl rfl) ?_
          refine RL.op _ (by decide) (opv_call (cap := []) (laws_heldSheet_ok _ _ _ _ _ _ (ownO.read (Sep.at (o := ownO (kF .f32) 40 v15 x15.2.1) S_39 0 rfl)) _ _ (ownO.read (Sep.at (o := ownO (kF .f32) 40 v16 x15.2.2) S_39 1 rfl)) _ _ hx16) rfl rfl ⟨rfl, rfl, trivial⟩ Try.func49 rfl rfl) ?_
          rintro _ hp57 ⟨rfl, MT_24, T_24⟩
          have X_29 : Mod [] h0 hp57 := Mod.step (A := []) (L := [ownO (kF .f32) 40 v15 x15.2.1, ownO (kF .f32) 40 v16 x15.2.2, ownO (kF .f32) 40 v11 x12.2.1, ownO (kF .f32) 40 v12 x12.2.2, boxO bb5 [(.int .i64 x7.1), (.int .i64 x7.2.1), (.bool x7.2.2.1), v15, v16], boxO bb4 [(.int .i64 x5.1), (.int .i64 x5.2.1), (.bool x5.2.2.1), v11, v12], boxO bb3 [(.int .i64 x4.1), (.int .i64 x4.2.1), (.bool x4.2.2.1), v5, v6], ownO (kF .f32) 40 v5 x4.2.2.2.1, ownO (kF .f32) 40 v6 x4.2.2.2.2.1, boxO bb2 [(.int .i64 a1_0), (.int .i64 a1_1), (.int .i64 a1_2), (.int .i64 a1_3)], boxO bb1 [(.int .i64 a0_0), (.int .i64 a0_1), (.bool a0_2), u0_3, u0_4]]) X_28 S_39 MT_24
          have S_40 : Sep [] h0.size hp57 [ownO (kF .f32) 40 v15 x15.2.1, ownO (kF .f32) 40 v16 x15.2.2, ownO (kF .f32) 40 v11 x12.2.1, ownO (kF .f32) 40 v12 x12.2.2, boxO bb5 [(.int .i64 x7.1), (.int .i64 x7.2.1), (.bool x7.2.2.1), v15, v16], boxO bb4 [(.int .i64 x5.1), (.int .i64 x5.2.1), (.bool x5.2.2.1), v11, v12], boxO bb3 [(.int .i64 x4.1), (.int .i64 x4.2.1), (.bool x4.2.2.1), v5, v6], ownO (kF .f32) 40 v5 x4.2.2.2.1, ownO (kF .f32) 40 v6 x4.2.2.2.2.1, boxO bb2 [(.int .i64 a1_0), (.int .i64 a1_1), (.int .i64 a1_2), (.int .i64 a1_3)], boxO bb1 [(.int .i64 a0_0), (.int .i64 a0_1), (.bool a0_2), u0_3, u0_4]] := Sep.step (A := []) (L := [ownO (kF .f32) 40 v15 x15.2.1, ownO (kF .f32) 40 v16 x15.2.2, ownO (kF .f32) 40 v11 x12.2.1, ownO (kF .f32) 40 v12 x12.2.2, boxO bb5 [(.int .i64 x7.1), (.int .i64 x7.2.1), (.bool x7.2.2.1), v15, v16], boxO bb4 [(.int .i64 x5.1), (.int .i64 x5.2.1), (.bool x5.2.2.1), v11, v12], boxO bb3 [(.int .i64 x4.1), (.int .i64 x4.2.1), (.bool x4.2.2.1), v5, v6], ownO (kF .f32) 40 v5 x4.2.2.2.1, ownO (kF .f32) 40 v6 x4.2.2.2.2.1, boxO bb2 [(.int .i64 a1_0), (.int .i64 a1_1), (.int .i64 a1_2), (.int .i64 a1_3)], boxO bb1 [(.int .i64 a0_0), (.int .i64 a0_1), (.bool a0_2), u0_3, u0_4]]) S_39 (Mod.size X_28) MT_24 T_24
          refine RL.opD (by decide) (opv_assign rfl rfl) ?_
          refine RL.nil ?_
          refine thnN ?_
          refine W.seq ?_
          refine W.seq ?_
          refine W.region ?_
          refine RL.opD (by decide) (opv_move rfl rfl) ?_
          refine RL.opD (by decide) (opv_icmp rfl rfl rfl rfl) ?_
          refine RL.nil ?_
          refine thnN ?_
          by_cases c8 : (decide (x16 < 0)) = true
          · rw [if_pos c8] at hp
            refine W.condT rfl c8 ?_
            refine W.seq ?_
            refine W.region ?_
            refine RL.opD (by decide) (opv_assign rfl rfl) ?_
            refine RL.nil ?_
            refine thnN ?_
            refine W.ret ?_
            refine thnR ?_
            have er := Option.some.inj hp
            subst er
            exact Rt.one rfl rfl ⟨rfl, X_29, (Sep.nil _ _ _)⟩
          · rw [if_neg c8] at hp
            have c8 := eq_false_of_ne_true c8
            refine W.condF rfl c8 ?_
            refine W.skip ?_
            refine thnN ?_
            refine W.seq ?_
            refine W.seq ?_
            refine W.region ?_
            refine RL.opD (by decide) (opv_move rfl rfl) ?_
            refine RL.opD (by decide) (opv_move rfl rfl) ?_
            refine RL.opD (by decide) (opv_icmp rfl rfl rfl rfl) ?_
            refine RL.nil ?_
            refine thnN ?_
            by_cases c9 : (x16 != x15.1) = true
            · rw [if_pos c9] at hp
              refine W.condT rfl c9 ?_
              refine W.seq ?_
              refine W.region ?_
              refine RL.opD (by decide) (opv_assign rfl rfl) ?_
              refine RL.nil ?_
              refine thnN ?_
              refine W.ret ?_
              refine thnR ?_
              have er := Option.some.inj hp
              subst er
              exact Rt.one rfl rfl ⟨rfl, X_29, (Sep.nil _ _ _)⟩
            · rw [if_neg c9] at hp
              have c9 := eq_false_of_ne_true c9
              refine W.condF rfl c9 ?_
              refine W.skip ?_
              refine thnN ?_
              refine W.seq ?_
              obtain ⟨x17, hx17, hp⟩ := Option.bind_eq_some_iff.1 hp
              obtain ⟨x18, hx18, hp⟩ := Option.bind_eq_some_iff.1 hp
              obtain ⟨x19, hx19, hp⟩ := Option.bind_eq_some_iff.1 hp
              refine W.sub (ψ := [(0, (.agg (List.toArray (α := Value) [(.int .i64 a0_0), (.int .i64 a0_1), (.bool a0_2), u0_3, u0_4]))), (1, (.agg (List.toArray (α := Value) [(.int .i64 a1_0), (.int .i64 a1_1), (.int .i64 a1_2), (.int .i64 a1_3)]))), (2, u2), (3, u3), (4, (.pointer (some ⟨bb1, 0, none⟩))), (5, (.pointer (some ⟨bb2, 0, none⟩))), (8, (.bool false)), (9, (.int .i64 x1)), (24, (.bool (decide (x1 < 0)))), (10, (.pointer (some ⟨bb3, 0, none⟩))), (11, (.bool x4.2.2.2.2.2)), (12, (.pointer (some ⟨bb4, 0, none⟩))), (13, (.pointer (some ⟨bb5, 0, none⟩))), (14, (.bool x7.2.2.2.2.2)), (54, (.bool x8)), (59, (.bool (!x11))), (15, (.int .i64 x12.1)), (75, (.bool x13)), (16, (.int .i64 x15.1)), (17, (.int .i64 x16)), (83, (.bool (decide (x16 < 0)))), (86, (.bool (x16 != x15.1)))]) ⟨rfl, rfl, rfl, rfl, rfl, rfl, rfl, rfl, rfl, rfl, rfl, rfl, rfl, rfl, rfl, rfl, rfl, rfl, rfl, rfl, rfl, rfl, trivial⟩ ?_
              refine W.regionL [fun v _ => @Eq Value (.agg (List.toArray (α := Value) [(.int .i64 a0_0), (.int .i64 a0_1), (.bool a0_2), u0_3, u0_4])) v, fun v h => ∃ v23, ∃ v24, @Eq Value v (.agg (List.toArray (α := Value) [(.int .i64 x17.1), (.int .i64 x17.2.1), (.bool x17.2.2.1), v23, v24])) ∧ Sep [] hp57.size h [ownO (kF .f32) 40 v23 x17.2.2.2.1, ownO (kF .f32) 40 v24 x17.2.2.2.2], fun v _ => @Eq Value (.agg (List.toArray (α := Value) [(.int .i64 a1_0), (.int .i64 a1_1), (.int .i64 a1_2), (.int .i64 a1_3)])) v, fun v h => @Eq Value v (.agg (List.toArray (α := Value) [(.int .i64 x18.1), (.int .i64 x18.2.1), (.int .i64 x18.2.2.1), (.int .i64 x18.2.2.2)])) ∧ Sep [] hp57.size h [], fun v _ => IsF .f32 v a2, fun v _ => IsF .f32 v a3, fun v h => ∃ v27, ∃ v28, @Eq Value v (.tuple (List.toArray (α := Value) [(.agg (List.toArray (α := Value) [(.int .i64 x19.1), (.int .i64 x19.2.1), (.bool x19.2.2.1), v27, v28])), (.bool x19.2.2.2.2.2)])) ∧ Sep [] hp57.size h [ownO (kF .f32) 40 v27 x19.2.2.2.1, ownO (kF .f32) 40 v28 x19.2.2.2.2.1], fun v h => ∃ v27, ∃ v28, @Eq Value v (.tuple (List.toArray (α := Value) [(.agg (List.toArray (α := Value) [(.int .i64 x19.1), (.int .i64 x19.2.1), (.bool x19.2.2.1), v27, v28])), (.bool x19.2.2.2.2.2)])) ∧ Sep [] hp57.size h [ownO (kF .f32) 40 v27 x19.2.2.2.1, ownO (kF .f32) 40 v28 x19.2.2.2.2.1], fun v h => ∃ v27, ∃ v28, @Eq Value v (.agg (List.toArray (α := Value) [(.int .i64 x19.1), (.int .i64 x19.2.1), (.bool x19.2.2.1), v27, v28])) ∧ Sep [] hp57.size h [ownO (kF .f32) 40 v27 x19.2.2.2.1, ownO (kF .f32) 40 v28 x19.2.2.2.2.1], fun v _ => @Eq Value (.bool x19.2.2.2.2.2) v, fun v h => ∃ b, @Eq Value v (.pointer (some ⟨b, 0, none⟩)) ∧ Sep [] hp57.size h [boxO b [(.int .i64 0), (.int .i64 0), (.bool false), (.slice none 0 0), (.slice none 0 0)]]] [none, some (fun u => [Value.ownBlock (vget u 3), Value.ownBlock (vget u 4)]), none, some (fun u => []), none, none, some (fun u => [Value.ownBlock (vget (vget u 0) 3), Value.ownBlock (vget (vget u 0) 4)]), none, none, none, some (fun u => [ptrB u])] [none, none, none, none, none, none, none, some (94, fun u => u), some (87, fun u => vget u 0)] [9] [[], [0], [], [2], [], [], [1, 3, 4, 5], [6], [7], [7], []] [6, 7, 8, 9, 10] Try.mixed (by decide +kernel) (by decide +kernel) (fun _ _ _ h => h) rfl rfl rfl (by decide +kernel) rfl ⟨fun _ _ _ h _ => h, fun _ _ _ ⟨u0_, u1_, e, h⟩ x => ⟨u0_, u1_, e, h.ext x⟩, fun _ _ _ h _ => h, fun _ _ _ ⟨e, h⟩ x => ⟨e, h.ext x⟩, fun _ _ _ h _ => h, fun _ _ _ h _ => h, fun _ _ _ ⟨u0_, u1_, e, h⟩ x => ⟨u0_, u1_, e, h.ext x⟩, fun _ _ _ ⟨u0_, u1_, e, h⟩ x => ⟨u0_, u1_, e, h.ext x⟩, fun _ _ _ ⟨u0_, u1_, e, h⟩ x => ⟨u0_, u1_, e, h.ext x⟩, fun _ _ _ h _ => h, fun _ _ _ ⟨b, e, h⟩ x => ⟨b, e, h.ext x⟩, trivial⟩ ?_ (.cons ?_ (.nil)) ?_
              · refine ⟨⟨rfl, ?_⟩, ⟨rfl, ?_⟩, ⟨rfl, ?_⟩, ⟨rfl, ?_⟩, ⟨rfl, ?_⟩, ⟨rfl, ?_⟩, ⟨rfl, ?_⟩, ⟨rfl, ?_⟩, ⟨rfl, ?_⟩, ⟨rfl, ?_⟩, ⟨rfl, ?_⟩, trivial⟩
                · rintro hp63 E_32
                  refine Dep.nil ?_
                  refine GuardOK.none rfl ?_
                  exact OpV.toDx (opv_loadA (us := [(.int .i64 a0_0), (.int .i64 a0_1), (.bool a0_2), u0_3, u0_4]) rfl Try.agg24 Try.size24 rfl (Sep.at (o := boxO bb1 [(.int .i64 a0_0), (.int .i64 a0_1), (.bool a0_2), u0_3, u0_4]) (Sep.ext S_40 E_32) 10 rfl) rfl rfl) rfl
                · rintro hp64 E_33 _ rfl
                  refine Dep.nil ?_
                  refine GuardOK.none rfl ?_
                  exact OpV.mono (opv_call (cap := []) (laws_toSheet_ok _ _ _ _ _ _ (SL.up (SL.mod g0_3 (Mod.lift X_29 E_33) (Nat.le_refl _) nob) (Nat.le_trans (Nat.le_refl _) (Mod.size (Mod.lift X_29 E_33)))) _ _ (SL.up (SL.mod g0_4 (Mod.lift X_29 E_33) (Nat.le_refl _) nob) (Nat.le_trans (Nat.le_refl _) (Mod.size (Mod.lift X_29 E_33)))) _ hx17) rfl rfl ⟨rfl, trivial⟩ Try.func20 rfl rfl) (by rintro _ _ ⟨v23, v24, rfl, M_, T_⟩; exact ⟨Mod.ext M_, ⟨v23, v24, rfl, Sep.weak T_ (Ext.size E_33)⟩, Sep.fresh T_⟩)
                · rintro hp65 E_34
                  refine Dep.nil ?_
                  refine GuardOK.none rfl ?_
                  exact OpV.toDx (opv_loadA (us := [(.int .i64 a1_0), (.int .i64 a1_1), (.int .i64 a1_2), (.int .i64 a1_3)]) rfl Try.agg77 Try.size77 rfl (Sep.at (o := boxO bb2 [(.int .i64 a1_0), (.int .i64 a1_1), (.int .i64 a1_2), (.int .i64 a1_3)]) (Sep.ext S_40 E_34) 9 rfl) rfl rfl) rfl
                · rintro hp66 E_35 _ rfl
                  refine Dep.nil ?_
                  refine GuardOK.none rfl ?_
                  exact OpV.mono (opv_call (cap := []) (laws_toRect_ok _ _ _ _ _ _ hx18) rfl rfl ⟨rfl, trivial⟩ Try.func56 rfl rfl) (by rintro _ _ ⟨rfl, M_, T_⟩; exact ⟨Mod.ext M_, ⟨rfl, Sep.weak T_ (Ext.size E_35)⟩, Sep.fresh T_⟩)
                · rintro hp67 E_36
                  refine Dep.nil ?_
                  refine GuardOK.none rfl ?_
                  exact OpV.toDx (opv_move rfl rfl) g2
                · rintro hp68 E_37
                  refine Dep.nil ?_
                  refine GuardOK.none rfl ?_
                  exact OpV.toDx (opv_move rfl rfl) g3
                · rintro hp69 E_38 _ ⟨v23, v24, rfl, T_25⟩ _ ⟨rfl, T_26⟩ v25 fv25 v26 fv26
                  refine Dep.nil ?_
                  refine GuardOK.none rfl ?_
                  exact OpV.mono (opv_call (cap := []) (impl_FillRect_ok _ _ _ _ _ _ (ownO.read (Sep.at (o := ownO (kF .f32) 40 v23 x17.2.2.2.1) T_25 0 rfl)) _ _ (ownO.read (Sep.at (o := ownO (kF .f32) 40 v24 x17.2.2.2.2) T_25 1 rfl)) _ _ _ _ _ _ fv25 _ _ fv26 _ hx19) rfl rfl ⟨rfl, rfl, rfl, rfl, trivial⟩ Try.func57 rfl rfl) (by rintro _ _ ⟨v27, v28, rfl, M_, T_⟩; exact ⟨Mod.ext M_, ⟨v27, v28, rfl, Sep.weak T_ (Ext.size E_38)⟩, Sep.fresh T_⟩)
                · rintro hp70 E_39 _ ⟨v27, v28, rfl, T_27⟩
                  refine Dep.nil ?_
                  refine GuardOK.none rfl ?_
                  exact OpV.mono (opv_move rfl rfl) (by rintro _ _ ⟨rfl, rfl⟩; exact ⟨⟨Ext.refl _, v27, v28, rfl, T_27⟩, _, rfl, rfl⟩)
                · rintro hp71 E_40 _ ⟨v27, v28, rfl, T_27⟩
                  refine Dep.nil ?_
                  refine GuardOK.none rfl ?_
                  exact OpV.mono (opv_extract rfl rfl rfl) (by rintro _ _ ⟨rfl, rfl⟩; exact ⟨⟨Ext.refl _, v27, v28, rfl, T_27⟩, _, rfl, rfl⟩)
                · rintro hp72 E_41 _ ⟨v27, v28, rfl, T_27⟩
                  refine Dep.nil ?_
                  refine GuardOK.none rfl ?_
                  exact OpV.toDx (opv_extract rfl rfl rfl) rfl
                · rintro hp73 E_42
                  refine Dep.nil ?_
                  refine GuardOK.none rfl ?_
                  exact OpV.mono (opS_boxed (opv_alloc (cs := [(.int .i64 0), (.int .i64 0), (.bool false), (.slice none 0 0), (.slice none 0 0)]) rfl Try.zero29 rfl)) (by rintro _ _ ⟨b_, rfl, M_, T_⟩; exact ⟨Mod.ext M_, ⟨b_, rfl, Sep.weak T_ (Ext.size E_42)⟩, Sep.fresh T_⟩)
              · refine ⟨[7], _, rfl, rfl, rfl, rfl, ?_⟩
                rintro hp74 E_43 _ ⟨v27, v28, rfl, T_27⟩
                refine Dep.nil ?_
                exact ⟨_, opy_extract rfl rfl rfl, ⟨Ext.refl _, rfl⟩⟩
              rintro hp75 E_44 _ ⟨v27, v28, rfl, T_27⟩ z7_ _ z8_ _ _ rfl _ ⟨bb6, rfl, T_28⟩
              refine DepM.nil ?_
              intro PW_3 LK_
              have ez7_ : z7_ = (.tuple (List.toArray (α := Value) [(.agg (List.toArray (α := Value) [(.int .i64 x19.1), (.int .i64 x19.2.1), (.bool x19.2.2.1), v27, v28])), (.bool x19.2.2.2.2.2)])) := LK_ 7 _ _ _ _ _ (by decide) rfl rfl rfl rfl
              subst z7_
              have ez8_ : z8_ = (.agg (List.toArray (α := Value) [(.int .i64 x19.1), (.int .i64 x19.2.1), (.bool x19.2.2.1), v27, v28])) := LK_ 8 _ _ _ _ _ (by decide) rfl rfl rfl rfl
              subst z8_
              have X_35 : Mod [] h0 hp75 := Mod.lift X_29 E_44
              have S_47 : Sep [] h0.size hp75 [ownO (kF .f32) 40 v27 x19.2.2.2.1, ownO (kF .f32) 40 v28 x19.2.2.2.2.1, boxO bb6 [(.int .i64 0), (.int .i64 0), (.bool false), (.slice none 0 0), (.slice none 0 0)], ownO (kF .f32) 40 v15 x15.2.1, ownO (kF .f32) 40 v16 x15.2.2, ownO (kF .f32) 40 v11 x12.2.1, ownO (kF .f32) 40 v12 x12.2.2, boxO bb5 [(.int .i64 x7.1), (.int .i64 x7.2.1), (.bool x7.2.2.1), v15, v16], boxO bb4 [(.int .i64 x5.1), (.int .i64 x5.2.1), (.bool x5.2.2.1), v11, v12], boxO bb3 [(.int .i64 x4.1), (.int .i64 x4.2.1), (.bool x4.2.2.1), v5, v6], ownO (kF .f32) 40 v5 x4.2.2.2.1, ownO (kF .f32) 40 v6 x4.2.2.2.2.1, boxO bb2 [(.int .i64 a1_0), (.int .i64 a1_1), (.int .i64 a1_2), (.int .i64 a1_3)], boxO bb1 [(.int .i64 a0_0), (.int .i64 a0_1), (.bool a0_2), u0_3, u0_4]] := Sep.join S_40 (Mod.size X_29) (Ext.mod E_44 []) (Sep.both T_27 T_28 (Apt.symm (Apt.of PW_3 0 4 rfl rfl (by decide))))
              show RL _ _ _ _ (_ :: _) _ _
              refine RL.op0 _ (opS_stored (cs := [(.int .i64 0), (.int .i64 0), (.bool false), (.slice none 0 0), (.slice none 0 0)]) (cs' := [(.int .i64 x19.1), (.int .i64 x19.2.1), (.bool x19.2.2.1), v27, v28]) (opv_storeA (us := [(.int .i64 x19.1), (.int .i64 x19.2.1), (.bool x19.2.2.1), v27, v28]) rfl Try.size29 rfl rfl (oneAll rfl (oneAll rfl (oneAll rfl (oneAll (ownO.one (Sep.at (o := ownO (kF .f32) 40 v27 x19.2.2.2.1) S_47 0 rfl)) (oneAll (ownO.one (Sep.at (o := ownO (kF .f32) 40 v28 x19.2.2.2.2.1) S_47 1 rfl)) rfl))))) (Sep.at (o := boxO bb6 [(.int .i64 0), (.int .i64 0), (.bool false), (.slice none 0 0), (.slice none 0 0)]) S_47 2 rfl) rfl rfl) (Sep.at (o := boxO bb6 [(.int .i64 0), (.int .i64 0), (.bool false), (.slice none 0 0), (.slice none 0 0)]) S_47 2 rfl)) ?_
              rintro _ hp76 ⟨rfl, MT_30, T_30⟩
              have S_48 : Sep [] h0.size hp75 ([boxO bb6 [(.int .i64 0), (.int .i64 0), (.bool false), (.slice none 0 0), (.slice none 0 0)]] ++ [ownO (kF .f32) 40 v27 x19.2.2.2.1, ownO (kF .f32) 40 v28 x19.2.2.2.2.1, ownO (kF .f32) 40 v15 x15.2.1, ownO (kF .f32) 40 v16 x15.2.2, ownO (kF .f32) 40 v11 x12.2.1, ownO (kF .f32) 40 v12 x12.2.2, boxO bb5 [(.int .i64 x7.1), (.int .i64 x7.2.1), (.bool x7.2.2.1), v15, v16], boxO bb4 [(.int .i64 x5.1), (.int .i64 x5.2.1), (.bool x5.2.2.1), v11, v12], boxO bb3 [(.int .i64 x4.1), (.int .i64 x4.2.1), (.bool x4.2.2.1), v5, v6], ownO (kF .f32) 40 v5 x4.2.2.2.1, ownO (kF .f32) 40 v6 x4.2.2.2.2.1, boxO bb2 [(.int .i64 a1_0), (.int .i64 a1_1), (.int .i64 a1_2), (.int .i64 a1_3)], boxO bb1 [(.int .i64 a0_0), (.int .i64 a0_1), (.bool a0_2), u0_3, u0_4]]) := Sep.sel S_47 [2, 0, 1, 3, 4, 5, 6, 7, 8, 9, 10, 11, 12, 13] (by decide)
              have X_36 : Mod [] h0 hp76 := Mod.step (A := [boxO bb6 [(.int .i64 0), (.int .i64 0), (.bool false), (.slice none 0 0), (.slice none 0 0)]]) (L := [ownO (kF .f32) 40 v27 x19.2.2.2.1, ownO (kF .f32) 40 v28 x19.2.2.2.2.1, ownO (kF .f32) 40 v15 x15.2.1, ownO (kF .f32) 40 v16 x15.2.2, ownO (kF .f32) 40 v11 x12.2.1, ownO (kF .f32) 40 v12 x12.2.2, boxO bb5 [(.int .i64 x7.1), (.int .i64 x7.2.1), (.bool x7.2.2.1), v15, v16], boxO bb4 [(.int .i64 x5.1), (.int .i64 x5.2.1), (.bool x5.2.2.1), v11, v12], boxO bb3 [(.int .i64 x4.1), (.int .i64 x4.2.1), (.bool x4.2.2.1), v5, v6], ownO (kF .f32) 40 v5 x4.2.2.2.1, ownO (kF .f32) 40 v6 x4.2.2.2.2.1, boxO bb2 [(.int .i64 a1_0), (.int .i64 a1_1), (.int .i64 a1_2), (.int .i64 a1_3)], boxO bb1 [(.int .i64 a0_0), (.int .i64 a0_1), (.bool a0_2), u0_3, u0_4]]) X_35 S_48 MT_30
              have S_49 : Sep [] h0.size hp76 [boxO bb6 [(.int .i64 x19.1), (.int .i64 x19.2.1), (.bool x19.2.2.1), v27, v28], ownO (kF .f32) 40 v27 x19.2.2.2.1, ownO (kF .f32) 40 v28 x19.2.2.2.2.1, ownO (kF .f32) 40 v15 x15.2.1, ownO (kF .f32) 40 v16 x15.2.2, ownO (kF .f32) 40 v11 x12.2.1, ownO (kF .f32) 40 v12 x12.2.2, boxO bb5 [(.int .i64 x7.1), (.int .i64 x7.2.1), (.bool x7.2.2.1), v15, v16], boxO bb4 [(.int .i64 x5.1), (.int .i64 x5.2.1), (.bool x5.2.2.1), v11, v12], boxO bb3 [(.int .i64 x4.1), (.int .i64 x4.2.1), (.bool x4.2.2.1), v5, v6], ownO (kF .f32) 40 v5 x4.2.2.2.1, ownO (kF .f32) 40 v6 x4.2.2.2.2.1, boxO bb2 [(.int .i64 a1_0), (.int .i64 a1_1), (.int .i64 a1_2), (.int .i64 a1_3)], boxO bb1 [(.int .i64 a0_0), (.int .i64 a0_1), (.bool a0_2), u0_3, u0_4]] := Sep.step (A := [boxO bb6 [(.int .i64 0), (.int .i64 0), (.bool false), (.slice none 0 0), (.slice none 0 0)]]) (L := [ownO (kF .f32) 40 v27 x19.2.2.2.1, ownO (kF .f32) 40 v28 x19.2.2.2.2.1, ownO (kF .f32) 40 v15 x15.2.1, ownO (kF .f32) 40 v16 x15.2.2, ownO (kF .f32) 40 v11 x12.2.1, ownO (kF .f32) 40 v12 x12.2.2, boxO bb5 [(.int .i64 x7.1), (.int .i64 x7.2.1), (.bool x7.2.2.1), v15, v16], boxO bb4 [(.int .i64 x5.1), (.int .i64 x5.2.1), (.bool x5.2.2.1), v11, v12], boxO bb3 [(.int .i64 x4.1), (.int .i64 x4.2.1), (.bool x4.2.2.1), v5, v6], ownO (kF .f32) 40 v5 x4.2.2.2.1, ownO (kF .f32) 40 v6 x4.2.2.2.2.1, boxO bb2 [(.int .i64 a1_0), (.int .i64 a1_1), (.int .i64 a1_2), (.int .i64 a1_3)], boxO bb1 [(.int .i64 a0_0), (.int .i64 a0_1), (.bool a0_2), u0_3, u0_4]]) S_48 (Mod.size X_35) MT_30 T_30
              refine RL.opD (by decide) (opv_assign rfl rfl) ?_
              refine RL.nil ?_
              refine thnN ?_
              refine W.seq ?_
              refine W.seq ?_
              obtain ⟨x20, hy3, hp⟩ := Option.bind_eq_some_iff.1 hp
              refine W.cut (fun φ' h' => Fr.sub [(0, (.agg (List.toArray (α := Value) [(.int .i64 a0_0), (.int .i64 a0_1), (.bool a0_2), u0_3, u0_4]))), (1, (.agg (List.toArray (α := Value) [(.int .i64 a1_0), (.int .i64 a1_1), (.int .i64 a1_2), (.int .i64 a1_3)]))), (2, u2), (3, u3), (4, (.pointer (some ⟨bb1, 0, none⟩))), (5, (.pointer (some ⟨bb2, 0, none⟩))), (8, (.bool false)), (9, (.int .i64 x1)), (24, (.bool (decide (x1 < 0)))), (10, (.pointer (some ⟨bb3, 0, none⟩))), (11, (.bool x4.2.2.2.2.2)), (12, (.pointer (some ⟨bb4, 0, none⟩))), (13, (.pointer (some ⟨bb5, 0, none⟩))), (14, (.bool x7.2.2.2.2.2)), (54, (.bool x8)), (59, (.bool (!x11))), (15, (.int .i64 x12.1)), (75, (.bool x13)), (16, (.int .i64 x15.1)), (17, (.int .i64 x16)), (83, (.bool (decide (x16 < 0)))), (86, (.bool (x16 != x15.1))), (18, (.pointer (some ⟨bb6, 0, none⟩))), (19, (.bool x19.2.2.2.2.2)), (105, (.bool x20))] φ' ∧ Mod [] h0 h' ∧ Sep [] h0.size h' [boxO bb6 [(.int .i64 x19.1), (.int .i64 x19.2.1), (.bool x19.2.2.1), v27, v28], ownO (kF .f32) 40 v27 x19.2.2.2.1, ownO (kF .f32) 40 v28 x19.2.2.2.2.1, ownO (kF .f32) 40 v15 x15.2.1, ownO (kF .f32) 40 v16 x15.2.2, ownO (kF .f32) 40 v11 x12.2.1, ownO (kF .f32) 40 v12 x12.2.2, boxO bb5 [(.int .i64 x7.1), (.int .i64 x7.2.1), (.bool x7.2.2.1), v15, v16], boxO bb4 [(.int .i64 x5.1), (.int .i64 x5.2.1), (.bool x5.2.2.1), v11, v12], boxO bb3 [(.int .i64 x4.1), (.int .i64 x4.2.1), (.bool x4.2.2.1), v5, v6], ownO (kF .f32) 40 v5 x4.2.2.2.1, ownO (kF .f32) 40 v6 x4.2.2.2.2.1, boxO bb2 [(.int .i64 a1_0), (.int .i64 a1_1), (.int .i64 a1_2), (.int .i64 a1_3)], boxO bb1 [(.int .i64 a0_0), (.int .i64 a0_1), (.bool a0_2), u0_3, u0_4]]) ?_ ?_
              · obtain ⟨x21, hx21, hy3⟩ := Option.bind_eq_some_iff.1 hy3
                by_cases c10 : (!x21) = true
                · rw [if_pos c10] at hy3
                  refine W.region ?_
                  refine RL.opD (by decide) (opv_loadA (us := [(.int .i64 x19.1), (.int .i64 x19.2.1), (.bool x19.2.2.1), v27, v28]) rfl Try.agg29 Try.size29 rfl (Sep.at (o := boxO bb6 [(.int .i64 x19.1), (.int .i64 x19.2.1), (.bool x19.2.2.1), v27, v28]) S_49 0 rfl) rfl rfl) ?_
                  refine RL.opD (by decide) (opv_loadA (us := [(.int .i64 x4.1), (.int .i64 x4.2.1), (.bool x4.2.2.1), v5, v6]) rfl Try.agg29 Try.size29 rfl (Sep.at (o := boxO bb3 [(.int .i64 x4.1), (.int .i64 x4.2.1), (.bool x4.2.2.1), v5, v6]) S_49 9 rfl) rfl rfl) ?_
                  refine RL.op _ (by decide) (opv_call (cap := []) (laws_eqSheet_ok _ _ _ _ _ _ (ownO.read (Sep.at (o := ownO (kF .f32) 40 v27 x19.2.2.2.1) S_49 1 rfl)) _ _ (ownO.read (Sep.at (o := ownO (kF .f32) 40 v28 x19.2.2.2.2.1) S_49 2 rfl)) _ _ _ _ _ (ownO.read (Sep.at (o := ownO (kF .f32) 40 v5 x4.2.2.2.1) S_49 10 rfl)) _ _ (ownO.read (Sep.at (o := ownO (kF .f32) 40 v6 x4.2.2.2.2.1) S_49 11 rfl)) _ hx21) rfl rfl ⟨rfl, rfl, trivial⟩ Try.func23 rfl rfl) ?_
                  rintro _ hp77 ⟨rfl, MT_31, T_31⟩
                  have X_37 : Mod [] h0 hp77 := Mod.step (A := []) (L := [boxO bb6 [(.int .i64 x19.1), (.int .i64 x19.2.1), (.bool x19.2.2.1), v27, v28], ownO (kF .f32) 40 v27 x19.2.2.2.1, ownO (kF .f32) 40 v28 x19.2.2.2.2.1, ownO (kF .f32) 40 v15 x15.2.1, ownO (kF .f32) 40 v16 x15.2.2, ownO (kF .f32) 40 v11 x12.2.1, ownO (kF .f32) 40 v12 x12.2.2, boxO bb5 [(.int .i64 x7.1), (.int .i64 x7.2.1), (.bool x7.2.2.1), v15, v16], boxO bb4 [(.int .i64 x5.1), (.int .i64 x5.2.1), (.bool x5.2.2.1), v11, v12], boxO bb3 [(.int .i64 x4.1), (.int .i64 x4.2.1), (.bool x4.2.2.1), v5, v6], ownO (kF .f32) 40 v5 x4.2.2.2.1, ownO (kF .f32) 40 v6 x4.2.2.2.2.1, boxO bb2 [(.int .i64 a1_0), (.int .i64 a1_1), (.int .i64 a1_2), (.int .i64 a1_3)], boxO bb1 [(.int .i64 a0_0), (.int .i64 a0_1), (.bool a0_2), u0_3, u0_4]]) X_36 S_49 MT_31
                  have S_50 : Sep [] h0.size hp77 [boxO bb6 [(.int .i64 x19.1), (.int .i64 x19.2.1), (.bool x19.2.2.1), v27, v28], ownO (kF .f32) 40 v27 x19.2.2.2.1, ownO (kF .f32) 40 v28 x19.2.2.2.2.1, ownO (kF .f32) 40 v15 x15.2.1, ownO (kF .f32) 40 v16 x15.2.2, ownO (kF .f32) 40 v11 x12.2.1, ownO (kF .f32) 40 v12 x12.2.2, boxO bb5 [(.int .i64 x7.1), (.int .i64 x7.2.1), (.bool x7.2.2.1), v15, v16], boxO bb4 [(.int .i64 x5.1), (.int .i64 x5.2.1), (.bool x5.2.2.1), v11, v12], boxO bb3 [(.int .i64 x4.1), (.int .i64 x4.2.1), (.bool x4.2.2.1), v5, v6], ownO (kF .f32) 40 v5 x4.2.2.2.1, ownO (kF .f32) 40 v6 x4.2.2.2.2.1, boxO bb2 [(.int .i64 a1_0), (.int .i64 a1_1), (.int .i64 a1_2), (.int .i64 a1_3)], boxO bb1 [(.int .i64 a0_0), (.int .i64 a0_1), (.bool a0_2), u0_3, u0_4]] := Sep.step (A := []) (L := [boxO bb6 [(.int .i64 x19.1), (.int .i64 x19.2.1), (.bool x19.2.2.1), v27, v28], ownO (kF .f32) 40 v27 x19.2.2.2.1, ownO (kF .f32) 40 v28 x19.2.2.2.2.1, ownO (kF .f32) 40 v15 x15.2.1, ownO (kF .f32) 40 v16 x15.2.2, ownO (kF .f32) 40 v11 x12.2.1, ownO (kF .f32) 40 v12 x12.2.2, boxO bb5 [(.int .i64 x7.1), (.int .i64 x7.2.1), (.bool x7.2.2.1), v15, v16], boxO bb4 [(.int .i64 x5.1), (.int .i64 x5.2.1), (.bool x5.2.2.1), v11, v12], boxO bb3 [(.int .i64 x4.1), (.int .i64 x4.2.1), (.bool x4.2.2.1), v5, v6], ownO (kF .f32) 40 v5 x4.2.2.2.1, ownO (kF .f32) 40 v6 x4.2.2.2.2.1, boxO bb2 [(.int .i64 a1_0), (.int .i64 a1_1), (.int .i64 a1_2), (.int .i64 a1_3)], boxO bb1 [(.int .i64 a0_0), (.int .i64 a0_1), (.bool a0_2), u0_3, u0_4]]) S_49 (Mod.size X_36) MT_31 T_31
                  refine RL.opD (by decide) (opv_not rfl rfl) ?_
                  refine RL.opD (by decide) (opv_move rfl rfl) ?_
                  refine RL.no rfl rfl (Eq.trans c10 (by decide)) (by decide) ?_
                  refine RL.no rfl rfl (Eq.trans c10 (by decide)) (by decide) ?_
                  refine RL.no rfl rfl (Eq.trans c10 (by decide)) (by decide) ?_
                  refine RL.opD (by decide) (opv_pick rfl rfl (fun _ => rfl) (fun e => absurd (Eq.trans (Eq.symm e) c10) (by decide)) rfl) ?_
                  refine RL.nil ?_
                  have ey3 := Option.some.inj hy3
                  subst ey3
                  refine onlyN ?_
                  exact ⟨⟨rfl, rfl, rfl, rfl, rfl, rfl, rfl, rfl, rfl, rfl, rfl, rfl, rfl, rfl, rfl, rfl, rfl, rfl, rfl, rfl, rfl, rfl, rfl, rfl, rfl, trivial⟩, X_37, (Sep.sel S_50 [0, 1, 2, 3, 4, 5, 6, 7, 8, 9, 10, 11, 12, 13] (by decide))⟩
                · rw [if_neg c10] at hy3
                  have c10 := eq_false_of_ne_true c10
                  refine W.region ?_
                  refine RL.opD (by decide) (opv_loadA (us := [(.int .i64 x19.1), (.int .i64 x19.2.1), (.bool x19.2.2.1), v27, v28]) rfl Try.agg29 Try.size29 rfl (Sep.at (o := boxO bb6 [(.int .i64 x19.1), (.int .i64 x19.2.1), (.bool x19.2.2.1), v27, v28]) S_49 0 rfl) rfl rfl) ?_
                  refine RL.opD (by decide) (opv_loadA (us := [(.int .i64 x4.1), (.int .i64 x4.2.1), (.bool x4.2.2.1), v5, v6]) rfl Try.agg29 Try.size29 rfl (Sep.at (o := boxO bb3 [(.int .i64 x4.1), (.int .i64 x4.2.1), (.bool x4.2.2.1), v5, v6]) S_49 9 rfl) rfl rfl) ?_
                  refine RL.op _ (by decide) (opv_call (cap := []) (laws_eqSheet_ok _ _ _ _ _ _ (ownO.read (Sep.at (o := ownO (kF .f32) 40 v27 x19.2.2.2.1) S_49 1 rfl)) _ _ (ownO.read (Sep.at (o := ownO (kF .f32) 40 v28 x19.2.2.2.2.1) S_49 2 rfl)) _ _ _ _ _ (ownO.read (Sep.at (o := ownO (kF .f32) 40 v5 x4.2.2.2.1) S_49 10 rfl)) _ _ (ownO.read (Sep.at (o := ownO (kF .f32) 40 v6 x4.2.2.2.2.1) S_49 11 rfl)) _ hx21) rfl rfl ⟨rfl, rfl, trivial⟩ Try.func23 rfl rfl) ?_
                  rintro _ hp77 ⟨rfl, MT_31, T_31⟩
                  have X_37 : Mod [] h0 hp77 := Mod.step (A := []) (L := [boxO bb6 [(.int .i64 x19.1), (.int .i64 x19.2.1), (.bool x19.2.2.1), v27, v28], ownO (kF .f32) 40 v27 x19.2.2.2.1, ownO (kF .f32) 40 v28 x19.2.2.2.2.1, ownO (kF .f32) 40 v15 x15.2.1, ownO (kF .f32) 40 v16 x15.2.2, ownO (kF .f32) 40 v11 x12.2.1, ownO (kF .f32) 40 v12 x12.2.2, boxO bb5 [(.int .i64 x7.1), (.int .i64 x7.2.1), (.bool x7.2.2.1), v15, v16], boxO bb4 [(.int .i64 x5.1), (.int .i64 x5.2.1), (.bool x5.2.2.1), v11, v12], boxO bb3 [(.int .i64 x4.1), (.int .i64 x4.2.1), (.bool x4.2.2.1), v5, v6], ownO (kF .f32) 40 v5 x4.2.2.2.1, ownO (kF .f32) 40 v6 x4.2.2.2.2.1, boxO bb2 [(.int .i64 a1_0), (.int .i64 a1_1), (.int .i64 a1_2), (.int .i64 a1_3)], boxO bb1 [(.int .i64 a0_0), (.int .i64 a0_1), (.bool a0_2), u0_3, u0_4]]) X_36 S_49 MT_31
                  have S_50 : Sep [] h0.size hp77 [boxO bb6 [(.int .i64 x19.1), (.int .i64 x19.2.1), (.bool x19.2.2.1), v27, v28], ownO (kF .f32) 40 v27 x19.2.2.2.1, ownO (kF .f32) 40 v28 x19.2.2.2.2.1, ownO (kF .f32) 40 v15 x15.2.1, ownO (kF .f32) 40 v16 x15.2.2, ownO (kF .f32) 40 v11 x12.2.1, ownO (kF .f32) 40 v12 x12.2.2, boxO bb5 [(.int .i64 x7.1), (.int .i64 x7.2.1), (.bool x7.2.2.1), v15, v16], boxO bb4 [(.int .i64 x5.1), (.int .i64 x5.2.1), (.bool x5.2.2.1), v11, v12], boxO bb3 [(.int .i64 x4.1), (.int .i64 x4.2.1), (.bool x4.2.2.1), v5, v6], ownO (kF .f32) 40 v5 x4.2.2.2.1, ownO (kF .f32) 40 v6 x4.2.2.2.2.1, boxO bb2 [(.int .i64 a1_0), (.int .i64 a1_1), (.int .i64 a1_2), (.int .i64 a1_3)], boxO bb1 [(.int .i64 a0_0), (.int .i64 a0_1), (.bool a0_2), u0_3, u0_4]] := Sep.step (A := []) (L := [boxO bb6 [(.int .i64 x19.1), (.int .i64 x19.2.1), (.bool x19.2.2.1), v27, v28], ownO (kF .f32) 40 v27 x19.2.2.2.1, ownO (kF .f32) 40 v28 x19.2.2.2.2.1, ownO (kF .f32) 40 v15 x15.2.1, ownO (kF .f32) 40 v16 x15.2.2, ownO (kF .f32) 40 v11 x12.2.1, ownO (kF .f32) 40 v12 x12.2.2, boxO bb5 [(.int .i64 x7.1), (.int .i64 x7.2.1), (.bool x7.2.2.1), v15, v16], boxO bb4 [(.int .i64 x5.1), (.int .i64 x5.2.1), (.bool x5.2.2.1), v11, v12], boxO bb3 [(.int .i64 x4.1), (.int .i64 x4.2.1), (.bool x4.2.2.1), v5, v6], ownO (kF .f32) 40 v5 x4.2.2.2.1, ownO (kF .f32) 40 v6 x4.2.2.2.2.1, boxO bb2 [(.int .i64 a1_0), (.int .i64 a1_1), (.int .i64 a1_2), (.int .i64 a1_3)], boxO bb1 [(.int .i64 a0_0), (.int .i64 a0_1), (.bool a0_2), u0_3, u0_4]]) S_49 (Mod.size X_36) MT_31 T_31
                  refine RL.opD (by decide) (opv_not rfl rfl) ?_
                  refine RL.opD (by decide) (opv_move rfl rfl) ?_
                  refine RL.yes _ rfl rfl c10 (by decide) (opv_move rfl rfl) ?_
                  rintro _ _ ⟨rfl, rfl⟩
                  refine RL.yes _ rfl rfl c10 (by decide) (opv_move rfl rfl) ?_
                  rintro _ _ ⟨rfl, rfl⟩
                  refine RL.yes _ rfl rfl c10 (by decide) (opv_bcmp rfl rfl Try.underlying4 rfl rfl) ?_
                  rintro _ _ ⟨rfl, rfl⟩
                  refine RL.opD (by decide) (opv_pick rfl rfl (fun e => absurd (Eq.trans (Eq.symm e) c10) (by decide)) (fun _ => rfl) rfl) ?_
                  refine RL.nil ?_
                  have ey3 := Option.some.inj hy3
                  subst ey3
                  refine onlyN ?_
                  exact ⟨⟨rfl, rfl, rfl, rfl, rfl, rfl, rfl, rfl, rfl, rfl, rfl, rfl, rfl, rfl, rfl, rfl, rfl, rfl, rfl, rfl, rfl, rfl, rfl, rfl, rfl, trivial⟩, X_37, (Sep.sel S_50 [0, 1, 2, 3, 4, 5, 6, 7, 8, 9, 10, 11, 12, 13] (by decide))⟩
              rintro φ' hp78 ⟨hs3, X_38, S_51⟩
              refine thnN ?_
              refine W.sub hs3 ?_
              by_cases c11 : x20 = true
              · rw [if_pos c11] at hp
                refine W.condT rfl c11 ?_
                refine W.seq ?_
                refine W.region ?_
                refine RL.opD (by decide) (opv_assign rfl rfl) ?_
                refine RL.nil ?_
                refine thnN ?_
                refine W.ret ?_
                refine thnR ?_
                have er := Option.some.inj hp
                subst er
                exact Rt.one rfl rfl ⟨rfl, X_38, (Sep.nil _ _ _)⟩
              · rw [if_neg c11] at hp
                have c11 := eq_false_of_ne_true c11
                refine W.condF rfl c11 ?_
                refine W.skip ?_
                refine thnN ?_
                refine W.seq ?_
                refine W.region ?_
                refine RL.opD (by decide) (opv_assign rfl rfl) ?_
                refine RL.nil ?_
                refine thnN ?_
                refine W.seq ?_
                obtain ⟨x22, hx22, hp⟩ := Option.bind_eq_some_iff.1 hp
                refine W.region ?_
                refine RL.opD (by decide) (opv_loadA (us := [(.int .i64 x7.1), (.int .i64 x7.2.1), (.bool x7.2.2.1), v15, v16]) rfl Try.agg29 Try.size29 rfl (Sep.at (o := boxO bb5 [(.int .i64 x7.1), (.int .i64 x7.2.1), (.bool x7.2.2.1), v15, v16]) S_51 7 rfl) rfl rfl) ?_
                refine RL.opD (by decide) (opv_move rfl rfl) ?_
                refine RL.op _ (by decide) (opv_call (cap := []) (laws_heldSheet_ok _ _ _ _ _ _ (ownO.read (Sep.at (o := ownO (kF .f32) 40 v15 x15.2.1) S_51 3 rfl)) _ _ (ownO.read (Sep.at (o := ownO (kF .f32) 40 v16 x15.2.2) S_51 4 rfl)) _ _ hx22) rfl rfl ⟨rfl, rfl, trivial⟩ Try.func49 rfl rfl) ?_
                rintro _ hp79 ⟨rfl, MT_32, T_32⟩
                have X_39 : Mod [] h0 hp79 := Mod.step (A := []) (L := [boxO bb6 [(.int .i64 x19.1), (.int .i64 x19.2.1), (.bool x19.2.2.1), v27, v28], ownO (kF .f32) 40 v27 x19.2.2.2.1, ownO (kF .f32) 40 v28 x19.2.2.2.2.1, ownO (kF .f32) 40 v15 x15.2.1, ownO (kF .f32) 40 v16 x15.2.2, ownO (kF .f32) 40 v11 x12.2.1, ownO (kF .f32) 40 v12 x12.2.2, boxO bb5 [(.int .i64 x7.1), (.int .i64 x7.2.1), (.bool x7.2.2.1), v15, v16], boxO bb4 [(.int .i64 x5.1), (.int .i64 x5.2.1), (.bool x5.2.2.1), v11, v12], boxO bb3 [(.int .i64 x4.1), (.int .i64 x4.2.1), (.bool x4.2.2.1), v5, v6], ownO (kF .f32) 40 v5 x4.2.2.2.1, ownO (kF .f32) 40 v6 x4.2.2.2.2.1, boxO bb2 [(.int .i64 a1_0), (.int .i64 a1_1), (.int .i64 a1_2), (.int .i64 a1_3)], boxO bb1 [(.int .i64 a0_0), (.int .i64 a0_1), (.bool a0_2), u0_3, u0_4]]) X_38 S_51 MT_32
                have S_52 : Sep [] h0.size hp79 [boxO bb6 [(.int .i64 x19.1), (.int .i64 x19.2.1), (.bool x19.2.2.1), v27, v28], ownO (kF .f32) 40 v27 x19.2.2.2.1, ownO (kF .f32) 40 v28 x19.2.2.2.2.1, ownO (kF .f32) 40 v15 x15.2.1, ownO (kF .f32) 40 v16 x15.2.2, ownO (kF .f32) 40 v11 x12.2.1, ownO (kF .f32) 40 v12 x12.2.2, boxO bb5 [(.int .i64 x7.1), (.int .i64 x7.2.1), (.bool x7.2.2.1), v15, v16], boxO bb4 [(.int .i64 x5.1), (.int .i64 x5.2.1), (.bool x5.2.2.1), v11, v12], boxO bb3 [(.int .i64 x4.1), (.int .i64 x4.2.1), (.bool x4.2.2.1), v5, v6], ownO (kF .f32) 40 v5 x4.2.2.2.1, ownO (kF .f32) 40 v6 x4.2.2.2.2.1, boxO bb2 [(.int .i64 a1_0), (.int .i64 a1_1), (.int .i64 a1_2), (.int .i64 a1_3)], boxO bb1 [(.int .i64 a0_0), (.int .i64 a0_1), (.bool a0_2), u0_3, u0_4]] := Sep.step (A := []) (L := [boxO bb6 [(.int .i64 x19.1), (.int .i64 x19.2.1), (.bool x19.2.2.1), v27, v28], ownO (kF .f32) 40 v27 x19.2.2.2.1, ownO (kF .f32) 40 v28 x19.2.2.2.2.1, ownO (kF .f32) 40 v15 x15.2.1, ownO (kF .f32) 40 v16 x15.2.2, ownO (kF .f32) 40 v11 x12.2.1, ownO (kF .f32) 40 v12 x12.2.2, boxO bb5 [(.int .i64 x7.1), (.int .i64 x7.2.1), (.bool x7.2.2.1), v15, v16], boxO bb4 [(.int .i64 x5.1), (.int .i64 x5.2.1), (.bool x5.2.2.1), v11, v12], boxO bb3 [(.int .i64 x4.1), (.int .i64 x4.2.1), (.bool x4.2.2.1), v5, v6], ownO (kF .f32) 40 v5 x4.2.2.2.1, ownO (kF .f32) 40 v6 x4.2.2.2.2.1, boxO bb2 [(.int .i64 a1_0), (.int .i64 a1_1), (.int .i64 a1_2), (.int .i64 a1_3)], boxO bb1 [(.int .i64 a0_0), (.int .i64 a0_1), (.bool a0_2), u0_3, u0_4]]) S_51 (Mod.size X_38) MT_32 T_32
                refine RL.opD (by decide) (opv_assign rfl rfl) ?_
                refine RL.nil ?_
                refine thnN ?_
                refine W.seq ?_
                refine W.seq ?_
                refine W.region ?_
                refine RL.opD (by decide) (opv_move rfl rfl) ?_
                refine RL.opD (by decide) (opv_icmp rfl rfl rfl rfl) ?_
                refine RL.nil ?_
                refine thnN ?_
                by_cases c12 : (decide (x22 < 0)) = true
                · rw [if_pos c12] at hp
                  refine W.condT rfl c12 ?_
                  refine W.seq ?_
                  refine W.region ?_
                  refine RL.opD (by decide) (opv_assign rfl rfl) ?_
                  refine RL.nil ?_
                  refine thnN ?_
                  refine W.ret ?_
                  refine thnR ?_
                  have er := Option.some.inj hp
                  subst er
                  exact Rt.one rfl rfl ⟨rfl, X_39, (Sep.nil _ _ _)⟩
                · rw [if_neg c12] at hp
                  have c12 := eq_false_of_ne_true c12
                  refine W.condF rfl c12 ?_
                  refine W.skip ?_
                  refine thnN ?_
                  refine W.seq ?_
                  refine W.seq ?_
                  refine W.region ?_
                  refine RL.opD (by decide) (opv_move rfl rfl) ?_
                  refine RL.opD (by decide) (opv_move rfl rfl) ?_
                  refine RL.opD (by decide) (opv_icmp rfl rfl rfl rfl) ?_
                  refine RL.nil ?_
                  refine thnN ?_
                  by_cases c13 : (x22 != x15.1) = true
                  · rw [if_pos c13] at hp
                    refine W.condT rfl c13 ?_
                    refine W.seq ?_
                    refine W.region ?_
                    refine RL.opD (by decide) (opv_assign rfl rfl) ?_
                    refine RL.nil ?_
                    refine thnN ?_
                    refine W.ret ?_
                    refine thnR ?_
                    have er := Option.some.inj hp
                    subst er
                    exact Rt.one rfl rfl ⟨rfl, X_39, (Sep.nil _ _ _)⟩
                  · rw [if_neg c13] at hp
                    have c13 := eq_false_of_ne_true c13
                    refine W.condF rfl c13 ?_
                    refine W.skip ?_
                    refine thnN ?_
                    refine W.seq ?_
                    refine W.region ?_
                    refine RL.opD (by decide) (opv_assign rfl rfl) ?_
                    refine RL.nil ?_
                    refine thnN ?_
                    refine W.ret ?_
                    have er := Option.some.inj hp
                    subst er
                    exact Rt.one rfl rfl ⟨rfl, X_39, (Sep.nil _ _ _)⟩

end Go.H
