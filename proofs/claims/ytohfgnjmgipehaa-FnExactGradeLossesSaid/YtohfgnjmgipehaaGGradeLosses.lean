/- Functions of the program: what each computes, as a plain function, and that the call comes to it. Written by a program (wip/gen). -/
import Derived.Test.YtohfgnjmgipehaaPRect
import Derived.Test.YtohfgnjmgipehaaBase17
import Derived.Test.YtohfgnjmgipehaaProg
import Derived.KernelRfl
set_option linter.unusedVariables false
namespace Go.H
open Go Go.Proofs



noncomputable def spec_GradeLosses.s0 (a0_0 : Int) (a0_1 : Int) (a0_2 : Bool) (a0_3 : List (Option Nat)) (a0_4 : List (Option Nat)) (a1 : Int) (a2 : Option Nat) (x5 : (Int × Int × Bool × (List (Option Nat)) × (List (Option Nat)))) (x6 : Int) (x7 : List (Option Nat)) : Option ((Int × (List (Option Nat))) ⊕ (Int × Bool × (List (Option Nat)))) :=
  (if (decide (x6 < (x5.2.2.2.2.length : Int))) = true then ((((spec_l05Depth a0_0 a0_1 a0_2 a0_3 a0_4 x6).bind fun (x15 : Int) => (if (decide (x15 ≥ a1)) = true then some (x6, x15, decide (x15 ≥ a1), x7) else ((idx x7 x6).bind fun (x16 : Option Nat) => (((if (fcmp .gtr .f32 (fop .add .f32 x16 (fop .mul .f32 a2 (fop .mul .f32 (fop .quo .f32 (fofi .f32 (IntKind.wrap .i64 (a1 - x15))) (fofi .f32 a1)) (fop .quo .f32 (fofi .f32 (IntKind.wrap .i64 (a1 - x15))) (fofi .f32 a1))))) (some 1065353216)) = true then some (some 1065353216) else some (fop .add .f32 x16 (fop .mul .f32 a2 (fop .mul .f32 (fop .quo .f32 (fofi .f32 (IntKind.wrap .i64 (a1 - x15))) (fofi .f32 a1)) (fop .quo .f32 (fofi .f32 (IntKind.wrap .i64 (a1 - x15))) (fofi .f32 a1)))))) : Option (Option Nat)).bind fun (x17 : Option Nat) => ((idx x7 x6).bind fun (x18 : Option Nat) => ((setF x7 x6 x17).bind fun (x19 : List (Option Nat)) => some (x6, x15, decide (x15 ≥ a1), x19))))))) : Option (Int × Int × Bool × (List (Option Nat)))).bind fun (⟨x11, x12, x13, x14⟩ : (Int × Int × Bool × (List (Option Nat)))) => some (.inl (IntKind.wrap .i64 (x6 + 1), x14))) else some (.inr (x6, decide (x6 < (x5.2.2.2.2.length : Int)), x7)))

noncomputable def spec_GradeLosses (a0_0 : Int) (a0_1 : Int) (a0_2 : Bool) (a0_3 : List (Option Nat)) (a0_4 : List (Option Nat)) (a1 : Int) (a2 : Option Nat) : Option (Int × Int × Bool × (List (Option Nat)) × (List (Option Nat)) × Bool) :=
  ((((spec_l02Is a0_0 a0_1 a0_2 a0_3 a0_4).bind fun (x2 : Bool) => (if (!x2) = true then some true else ((spec_l00In a1 1 16).bind fun (x3 : Bool) => (if (!x3) = true then some true else ((spec_l05Share a2 (some 1065353216)).bind fun (x4 : Bool) => some (!x4)))))) : Option Bool).bind fun (x1 : Bool) => (if x1 = true then some (0, 0, false, ([] : List (Option Nat)), ([] : List (Option Nat)), false) else ((spec_l05Own a0_0 a0_1 a0_2 a0_3 a0_4).bind fun (x5 : (Int × Int × Bool × (List (Option Nat)) × (List (Option Nat)))) => ((loopF (fun (s : (Int × (List (Option Nat)))) => spec_GradeLosses.s0 a0_0 a0_1 a0_2 a0_3 a0_4 a1 a2 x5 s.1 s.2) (0, x5.2.2.2.2)).bind fun (⟨x8, x9, x10⟩ : (Int × Bool × (List (Option Nat)))) => some (x5.1, x5.2.1, x5.2.2.1, x5.2.2.2.1, x10, true)))))

noncomputable def impl_GradeLosses_1_2 (a0 : Int) (a1 : Int) (a2 : Int) (ae0_0 : Int) (ae0_1 : Int) (ae0_2 : Bool) (ae0_3 : List (Option Nat)) (ae0_4 : List (Option Nat)) (ae1_0 : Int) (ae2_0 : Int) (ae2_1 : Int) (ae2_2 : Bool) (ae2_3 : List (Option Nat)) (ae2_4 : List (Option Nat)) (ae3_0 : Option Nat) : Option (Int × Int × Bool × Int × Int × Int × Bool × (List (Option Nat)) × (List (Option Nat)) × (Option Nat)) :=
  ((impl_Sheet_depth ae0_0 ae0_1 ae0_2 ae0_3 ae0_4 a0 a1).bind fun (x1 : Int) => (((if (decide (x1 < ae1_0)) = true then ((idx ae2_4 a2).bind fun (x3 : Option Nat) => (((if (fcmp .gtr .f32 (fop .add .f32 x3 (fop .mul .f32 ae3_0 (fop .mul .f32 (fop .quo .f32 (fofi .f32 (IntKind.wrap .i64 (ae1_0 - x1))) (fofi .f32 ae1_0)) (fop .quo .f32 (fofi .f32 (IntKind.wrap .i64 (ae1_0 - x1))) (fofi .f32 ae1_0))))) (some 1065353216)) = true then some (some 1065353216) else some (fop .add .f32 x3 (fop .mul .f32 ae3_0 (fop .mul .f32 (fop .quo .f32 (fofi .f32 (IntKind.wrap .i64 (ae1_0 - x1))) (fofi .f32 ae1_0)) (fop .quo .f32 (fofi .f32 (IntKind.wrap .i64 (ae1_0 - x1))) (fofi .f32 ae1_0)))))) : Option (Option Nat)).bind fun (x4 : Option Nat) => ((idx ae2_4 a2).bind fun (x5 : Option Nat) => ((setF ae2_4 a2 x4).bind fun (x6 : List (Option Nat)) => some x6)))) else some ae2_4) : Option (List (Option Nat))).bind fun (x2 : List (Option Nat)) => some (ae0_0, ae0_1, ae0_2, ae1_0, ae2_0, ae2_1, ae2_2, ae2_3, x2, ae3_0)))

noncomputable def impl_Sheet_each__impl_GradeLosses_1.s1 (a0_0 : Int) (a0_1 : Int) (a0_2 : Bool) (a0_3 : List (Option Nat)) (a0_4 : List (Option Nat)) (ae0_3 : List (Option Nat)) (ae0_4 : List (Option Nat)) (x1 : Int) (x24 : Int) (x25 : Int) (x26 : Int) (x27 : Bool) (x28 : Int) (x29 : Int) (x30 : Int) (x31 : Bool) (x32 : List (Option Nat)) (x33 : List (Option Nat)) (x34 : Option Nat) : Option ((Int × Int × Int × Bool × Int × Int × Int × Bool × (List (Option Nat)) × (List (Option Nat)) × (Option Nat)) ⊕ (Int × Bool × Int × Int × Bool × Int × Int × Int × Bool × (List (Option Nat)) × (List (Option Nat)) × (Option Nat))) :=
  (if (decide (x24 < a0_0)) = true then ((impl_Sheet_at a0_0 a0_1 a0_2 a0_3 a0_4 x24 x1).bind fun (x47 : Int) => ((impl_GradeLosses_1_2 x24 x1 x47 x25 x26 x27 ae0_3 ae0_4 x28 x29 x30 x31 x32 x33 x34).bind fun (x48 : (Int × Int × Bool × Int × Int × Int × Bool × (List (Option Nat)) × (List (Option Nat)) × (Option Nat))) => some (.inl (IntKind.wrap .i64 (x24 + 1), x48.1, x48.2.1, x48.2.2.1, x48.2.2.2.1, x48.2.2.2.2.1, x48.2.2.2.2.2.1, x48.2.2.2.2.2.2.1, x48.2.2.2.2.2.2.2.1, x48.2.2.2.2.2.2.2.2.1, x48.2.2.2.2.2.2.2.2.2)))) else some (.inr (x24, decide (x24 < a0_0), x25, x26, x27, x28, x29, x30, x31, x32, x33, x34)))

noncomputable def impl_Sheet_each__impl_GradeLosses_1.s0 (a0_0 : Int) (a0_1 : Int) (a0_2 : Bool) (a0_3 : List (Option Nat)) (a0_4 : List (Option Nat)) (ae0_3 : List (Option Nat)) (ae0_4 : List (Option Nat)) (x1 : Int) (x2 : Int) (x3 : Int) (x4 : Bool) (x5 : Int) (x6 : Int) (x7 : Int) (x8 : Bool) (x9 : List (Option Nat)) (x10 : List (Option Nat)) (x11 : Option Nat) : Option ((Int × Int × Int × Bool × Int × Int × Int × Bool × (List (Option Nat)) × (List (Option Nat)) × (Option Nat)) ⊕ (Int × Bool × Int × Int × Bool × Int × Int × Int × Bool × (List (Option Nat)) × (List (Option Nat)) × (Option Nat))) :=
  (if (decide (x1 < a0_1)) = true then ((loopF (fun (s : (Int × Int × Int × Bool × Int × Int × Int × Bool × (List (Option Nat)) × (List (Option Nat)) × (Option Nat))) => impl_Sheet_each__impl_GradeLosses_1.s1 a0_0 a0_1 a0_2 a0_3 a0_4 ae0_3 ae0_4 x1 s.1 s.2.1 s.2.2.1 s.2.2.2.1 s.2.2.2.2.1 s.2.2.2.2.2.1 s.2.2.2.2.2.2.1 s.2.2.2.2.2.2.2.1 s.2.2.2.2.2.2.2.2.1 s.2.2.2.2.2.2.2.2.2.1 s.2.2.2.2.2.2.2.2.2.2) (0, x2, x3, x4, x5, x6, x7, x8, x9, x10, x11)).bind fun (⟨x35, x36, x37, x38, x39, x40, x41, x42, x43, x44, x45, x46⟩ : (Int × Bool × Int × Int × Bool × Int × Int × Int × Bool × (List (Option Nat)) × (List (Option Nat)) × (Option Nat))) => some (.inl (IntKind.wrap .i64 (x1 + 1), x37, x38, x39, x40, x41, x42, x43, x44, x45, x46))) else some (.inr (x1, decide (x1 < a0_1), x2, x3, x4, x5, x6, x7, x8, x9, x10, x11)))

noncomputable def impl_Sheet_each__impl_GradeLosses_1 (a0_0 : Int) (a0_1 : Int) (a0_2 : Bool) (a0_3 : List (Option Nat)) (a0_4 : List (Option Nat)) (ae0_0 : Int) (ae0_1 : Int) (ae0_2 : Bool) (ae0_3 : List (Option Nat)) (ae0_4 : List (Option Nat)) (ae1_0 : Int) (ae2_0 : Int) (ae2_1 : Int) (ae2_2 : Bool) (ae2_3 : List (Option Nat)) (ae2_4 : List (Option Nat)) (ae3_0 : Option Nat) : Option (Int × Int × Bool × Int × Int × Int × Bool × (List (Option Nat)) × (List (Option Nat)) × (Option Nat)) :=
  ((loopF (fun (s : (Int × Int × Int × Bool × Int × Int × Int × Bool × (List (Option Nat)) × (List (Option Nat)) × (Option Nat))) => impl_Sheet_each__impl_GradeLosses_1.s0 a0_0 a0_1 a0_2 a0_3 a0_4 ae0_3 ae0_4 s.1 s.2.1 s.2.2.1 s.2.2.2.1 s.2.2.2.2.1 s.2.2.2.2.2.1 s.2.2.2.2.2.2.1 s.2.2.2.2.2.2.2.1 s.2.2.2.2.2.2.2.2.1 s.2.2.2.2.2.2.2.2.2.1 s.2.2.2.2.2.2.2.2.2.2) (0, ae0_0, ae0_1, ae0_2, ae1_0, ae2_0, ae2_1, ae2_2, ae2_3, ae2_4, ae3_0)).bind fun (⟨x12, x13, x14, x15, x16, x17, x18, x19, x20, x21, x22, x23⟩ : (Int × Bool × Int × Int × Bool × Int × Int × Int × Bool × (List (Option Nat)) × (List (Option Nat)) × (Option Nat))) => some (x14, x15, x16, x17, x18, x19, x20, x21, x22, x23))

noncomputable def impl_GradeLosses (a0_0 : Int) (a0_1 : Int) (a0_2 : Bool) (a0_3 : List (Option Nat)) (a0_4 : List (Option Nat)) (a1 : Int) (a2 : Option Nat) : Option (Int × Int × Bool × (List (Option Nat)) × (List (Option Nat)) × Bool) :=
  ((((impl_ValidSheet a0_0 a0_1 a0_2 a0_3 a0_4).bind fun (x2 : Bool) => (if (!x2) = true then some true else ((impl_isWidth a1).bind fun (x3 : Bool) => (if (!x3) = true then some true else ((impl_isShare a2).bind fun (x4 : Bool) => some (!x4)))))) : Option Bool).bind fun (x1 : Bool) => (if x1 = true then some (0, 0, false, ([] : List (Option Nat)), ([] : List (Option Nat)), false) else ((impl_copySheet a0_0 a0_1 a0_2 a0_3 a0_4).bind fun (x5 : (Int × Int × Bool × (List (Option Nat)) × (List (Option Nat)))) => ((impl_Sheet_each__impl_GradeLosses_1 a0_0 a0_1 a0_2 a0_3 a0_4 a0_0 a0_1 a0_2 a0_3 a0_4 a1 x5.1 x5.2.1 x5.2.2.1 x5.2.2.2.1 x5.2.2.2.2 a2).bind fun (x6 : (Int × Int × Bool × Int × Int × Int × Bool × (List (Option Nat)) × (List (Option Nat)) × (Option Nat))) => some (x6.2.2.2.2.1, x6.2.2.2.2.2.1, x6.2.2.2.2.2.2.1, x6.2.2.2.2.2.2.2.1, x6.2.2.2.2.2.2.2.2.1, true)))))

noncomputable def laws_FnExactGradeLosses (a0_0 : Int) (a0_1 : Int) (a0_2 : Bool) (a0_3 : List (Option Nat)) (a0_4 : List (Option Nat)) (a1 : Int) (a2 : Option Nat) : Option Bool :=
  ((laws_szSheet a0_0 a0_1 a0_2 a0_3 a0_4 1048576).bind fun (x1 : Int) => (if (decide (x1 < 0)) = true then some true else ((laws_toSheet a0_0 a0_1 a0_2 a0_3 a0_4).bind fun (x2 : (Int × Int × Bool × (List (Option Nat)) × (List (Option Nat)))) => ((spec_GradeLosses x2.1 x2.2.1 x2.2.2.1 x2.2.2.2.1 x2.2.2.2.2 a1 a2).bind fun (x3 : (Int × Int × Bool × (List (Option Nat)) × (List (Option Nat)) × Bool)) => ((laws_toSheet a0_0 a0_1 a0_2 a0_3 a0_4).bind fun (x4 : (Int × Int × Bool × (List (Option Nat)) × (List (Option Nat)))) => ((impl_GradeLosses x4.1 x4.2.1 x4.2.2.1 x4.2.2.2.1 x4.2.2.2.2 a1 a2).bind fun (x5 : (Int × Int × Bool × (List (Option Nat)) × (List (Option Nat)) × Bool)) => ((((laws_eqSheet x5.1 x5.2.1 x5.2.2.1 x5.2.2.2.1 x5.2.2.2.2.1 x3.1 x3.2.1 x3.2.2.1 x3.2.2.2.1 x3.2.2.2.2.1).bind fun (x7 : Bool) => (if (!x7) = true then some true else some (x5.2.2.2.2.2 != x3.2.2.2.2.2))) : Option Bool).bind fun (x6 : Bool) => (if x6 = true then some false else ((laws_toSheet a0_0 a0_1 a0_2 a0_3 a0_4).bind fun (x8 : (Int × Int × Bool × (List (Option Nat)) × (List (Option Nat)))) => ((laws_eqSheet x4.1 x4.2.1 x4.2.2.1 x4.2.2.2.1 x4.2.2.2.2 x8.1 x8.2.1 x8.2.2.1 x8.2.2.2.1 x8.2.2.2.2).bind fun (x9 : Bool) => (if (!x9) = true then some false else ((laws_markSheet x4.1 x4.2.1 x4.2.2.1 x4.2.2.2.1 x4.2.2.2.2 1).bind fun (x10 : (Int × (List (Option Nat)) × (List (Option Nat)))) => (((if (decide (x10.1 < 0)) = true then some true else ((laws_eqSheet x5.1 x5.2.1 x5.2.2.1 x5.2.2.2.1 x5.2.2.2.2.1 x3.1 x3.2.1 x3.2.2.1 x3.2.2.2.1 x3.2.2.2.2.1).bind fun (x12 : Bool) => (if (!x12) = true then some true else some (x5.2.2.2.2.2 != x3.2.2.2.2.2)))) : Option Bool).bind fun (x11 : Bool) => (if x11 = true then some false else ((laws_markSheet x5.1 x5.2.1 x5.2.2.1 x5.2.2.2.1 x5.2.2.2.2.1 1).bind fun (x13 : (Int × (List (Option Nat)) × (List (Option Nat)))) => ((laws_heldSheet x5.1 x5.2.1 x5.2.2.1 x13.2.1 x13.2.2 1).bind fun (x14 : Int) => (if (decide (x14 < 0)) = true then some false else (if (x14 != x13.1) = true then some false else ((laws_toSheet a0_0 a0_1 a0_2 a0_3 a0_4).bind fun (x15 : (Int × Int × Bool × (List (Option Nat)) × (List (Option Nat)))) => ((impl_GradeLosses x15.1 x15.2.1 x15.2.2.1 x15.2.2.2.1 x15.2.2.2.2 a1 a2).bind fun (x16 : (Int × Int × Bool × (List (Option Nat)) × (List (Option Nat)) × Bool)) => ((((laws_eqSheet x16.1 x16.2.1 x16.2.2.1 x16.2.2.2.1 x16.2.2.2.2.1 x3.1 x3.2.1 x3.2.2.1 x3.2.2.2.1 x3.2.2.2.2.1).bind fun (x18 : Bool) => (if (!x18) = true then some true else some (x16.2.2.2.2.2 != x3.2.2.2.2.2))) : Option Bool).bind fun (x17 : Bool) => (if x17 = true then some false else ((laws_heldSheet x5.1 x5.2.1 x5.2.2.1 x13.2.1 x13.2.2 1).bind fun (x19 : Int) => (if (decide (x19 < 0)) = true then some false else (if (x19 != x13.1) = true then some false else some true)))))))))))))))))))))))))

set_option maxRecDepth 20000 in
theorem spec_GradeLosses_ok (h0 : Heap) (a0_0 : Int) (a0_1 : Int) (a0_2 : Bool) (u0_3 : Value) (a0_3 : List (Option Nat)) (g0_3 : SL (kF .f32) h0.size h0 u0_3 a0_3) (u0_4 : Value) (a0_4 : List (Option Nat)) (g0_4 : SL (kF .f32) h0.size h0 u0_4 a0_4) (a1 : Int) (u2 : Value) (a2 : Option Nat) (g2 : IsF .f32 u2 a2) (r : (Int × Int × Bool × (List (Option Nat)) × (List (Option Nat)) × Bool)) (hp : spec_GradeLosses a0_0 a0_1 a0_2 a0_3 a0_4 a1 a2 = some r) : CallsH Try.prog 58 ([(.agg (List.toArray (α := Value) [(.int .i64 a0_0), (.int .i64 a0_1), (.bool a0_2), u0_3, u0_4])), (.int .i64 a1), u2].toArray ++ [].toArray) h0 (fun v h' => ∃ w3, ∃ w4, v = (.tuple (List.toArray (α := Value) [(.agg (List.toArray (α := Value) [(.int .i64 r.1), (.int .i64 r.2.1), (.bool r.2.2.1), w3, w4])), (.bool r.2.2.2.2.2)])) ∧ Mod [] h0 h' ∧ Sep [] h0.size h' [ownO (kF .f32) 40 w3 r.2.2.2.1, ownO (kF .f32) 40 w4 r.2.2.2.2.1]) := by
  unfold spec_GradeLosses at hp
  refine callsH_of_W (l := [(.agg (List.toArray (α := Value) [(.int .i64 a0_0), (.int .i64 a0_1), (.bool a0_2), u0_3, u0_4])), (.int .i64 a1), u2]) (cap := []) 65 Try.func58 rfl rfl rfl ?_
  refine W.seq ?_
  refine W.region ?_
  refine RL.op _ (by decide) (opS_boxed (opv_boxA (cs := [(.int .i64 a0_0), (.int .i64 a0_1), (.bool a0_2), u0_3, u0_4]) rfl rfl)) ?_
  rintro _ hp1 ⟨bb1, rfl, MT_1, T_1⟩
  have X_1 : Mod [] h0 hp1 := Mod.step (A := []) (L := []) (Mod.refl [] h0) (Sep.nil [] h0.size h0) MT_1
  have S_1 : Sep [] h0.size hp1 [boxO bb1 [(.int .i64 a0_0), (.int .i64 a0_1), (.bool a0_2), u0_3, u0_4]] := Sep.step (A := []) (L := []) (Sep.nil [] h0.size h0) (Mod.size (Mod.refl [] h0)) MT_1 T_1
  refine RL.op _ (by decide) (opS_boxed (opv_alloc (cs := [(.int .i64 0), (.int .i64 0), (.bool false), (.slice none 0 0), (.slice none 0 0)]) rfl Try.zero29 rfl)) ?_
  rintro _ hp2 ⟨bb2, rfl, MT_2, T_2⟩
  have X_2 : Mod [] h0 hp2 := Mod.step (A := []) (L := [boxO bb1 [(.int .i64 a0_0), (.int .i64 a0_1), (.bool a0_2), u0_3, u0_4]]) X_1 S_1 MT_2
  have S_2 : Sep [] h0.size hp2 [boxO bb2 [(.int .i64 0), (.int .i64 0), (.bool false), (.slice none 0 0), (.slice none 0 0)], boxO bb1 [(.int .i64 a0_0), (.int .i64 a0_1), (.bool a0_2), u0_3, u0_4]] := Sep.step (A := []) (L := [boxO bb1 [(.int .i64 a0_0), (.int .i64 a0_1), (.bool a0_2), u0_3, u0_4]]) S_1 (Mod.size X_1) MT_2 T_2
  refine RL.opD (by decide) (opv_assign rfl rfl) ?_
  refine RL.nil ?_
  refine thnN ?_
  refine W.seq ?_
  refine W.seq ?_
  obtain ⟨x1, hy1, hp⟩ := Option.bind_eq_some_iff.1 hp
  refine W.cut (fun φ' h' => Fr.sub [(0, (.agg (List.toArray (α := Value) [(.int .i64 a0_0), (.int .i64 a0_1), (.bool a0_2), u0_3, u0_4]))), (1, (.int .i64 a1)), (2, u2), (3, (.pointer (some ⟨bb1, 0, none⟩))), (6, (.pointer (some ⟨bb2, 0, none⟩))), (7, (.bool false)), (24, (.bool x1))] φ' ∧ hp2 = h') ?_ ?_
  · obtain ⟨x2, hx2, hy1⟩ := Option.bind_eq_some_iff.1 hy1
    by_cases c1 : (!x2) = true
    · rw [if_pos c1] at hy1
      refine W.region ?_
      refine RL.op _ (by decide) (opv_call (cap := []) (spec_l02Is_ok _ _ _ _ _ _ _ (SL.up (SL.mod g0_3 X_2 (Nat.le_refl _) nob) (Nat.le_trans (Nat.le_refl _) (Mod.size X_2))) _ _ (SL.up (SL.mod g0_4 X_2 (Nat.le_refl _) nob) (Nat.le_trans (Nat.le_refl _) (Mod.size X_2))) (Sep.at (o := boxO bb1 [(.int .i64 a0_0), (.int .i64 a0_1), (.bool a0_2), u0_3, u0_4]) S_2 1 rfl) _ hx2) rfl rfl ⟨rfl, trivial⟩ Try.func74 rfl rfl) ?_
      rintro _ _ ⟨rfl, rfl⟩
      refine RL.opD (by decide) (opv_not rfl rfl) ?_
      refine RL.opD (by decide) (opv_move rfl rfl) ?_
      refine RL.no rfl rfl (Eq.trans c1 (by decide)) (by decide) ?_
      refine RL.no rfl rfl (Eq.trans c1 (by decide)) (by decide) ?_
      refine RL.no rfl rfl (Eq.trans c1 (by decide)) (by decide) ?_
      refine RL.opD (by decide) (opv_pick rfl rfl (fun _ => rfl) (fun e => absurd (Eq.trans (Eq.symm e) c1) (by decide)) rfl) ?_
      refine RL.opD (by decide) (opv_move rfl rfl) ?_
      refine RL.no rfl rfl (Eq.trans rfl (by decide)) (by decide) ?_
      refine RL.no rfl rfl (Eq.trans rfl (by decide)) (by decide) ?_
      refine RL.no rfl rfl (Eq.trans rfl (by decide)) (by decide) ?_
      refine RL.opD (by decide) (opv_pick rfl rfl (fun _ => rfl) (fun e => absurd (Eq.trans (Eq.symm e) rfl) (by decide)) rfl) ?_
      refine RL.nil ?_
      have ey1 := Option.some.inj hy1
      subst ey1
      refine onlyN ?_
      exact ⟨⟨rfl, rfl, rfl, rfl, rfl, rfl, rfl, trivial⟩, rfl⟩
    · rw [if_neg c1] at hy1
      have c1 := eq_false_of_ne_true c1
      obtain ⟨x3, hx3, hy1⟩ := Option.bind_eq_some_iff.1 hy1
      by_cases c2 : (!x3) = true
      · rw [if_pos c2] at hy1
        refine W.region ?_
        refine RL.op _ (by decide) (opv_call (cap := []) (spec_l02Is_ok _ _ _ _ _ _ _ (SL.up (SL.mod g0_3 X_2 (Nat.le_refl _) nob) (Nat.le_trans (Nat.le_refl _) (Mod.size X_2))) _ _ (SL.up (SL.mod g0_4 X_2 (Nat.le_refl _) nob) (Nat.le_trans (Nat.le_refl _) (Mod.size X_2))) (Sep.at (o := boxO bb1 [(.int .i64 a0_0), (.int .i64 a0_1), (.bool a0_2), u0_3, u0_4]) S_2 1 rfl) _ hx2) rfl rfl ⟨rfl, trivial⟩ Try.func74 rfl rfl) ?_
        rintro _ _ ⟨rfl, rfl⟩
        refine RL.opD (by decide) (opv_not rfl rfl) ?_
        refine RL.opD (by decide) (opv_move rfl rfl) ?_
        refine RL.yes _ rfl rfl c1 (by decide) (opv_move rfl rfl) ?_
        rintro _ _ ⟨rfl, rfl⟩
        refine RL.yes _ rfl rfl c1 (by decide) (opv_call (cap := []) (spec_l00In_ok _ _ _ _ _ hx3) rfl rfl ⟨rfl, rfl, rfl, trivial⟩ Try.func78 rfl rfl) ?_
        rintro _ _ ⟨rfl, rfl⟩
        refine RL.yes _ rfl rfl c1 (by decide) (opv_not rfl rfl) ?_
        rintro _ _ ⟨rfl, rfl⟩
        refine RL.opD (by decide) (opv_pick rfl rfl (fun e => absurd (Eq.trans (Eq.symm e) c1) (by decide)) (fun _ => rfl) rfl) ?_
        refine RL.opD (by decide) (opv_move rfl rfl) ?_
        refine RL.no rfl rfl (Eq.trans c2 (by decide)) (by decide) ?_
        refine RL.no rfl rfl (Eq.trans c2 (by decide)) (by decide) ?_
        refine RL.no rfl rfl (Eq.trans c2 (by decide)) (by decide) ?_
        refine RL.opD (by decide) (opv_pick rfl rfl (fun _ => rfl) (fun e => absurd (Eq.trans (Eq.symm e) c2) (by decide)) rfl) ?_
        refine RL.nil ?_
        have ey1 := Option.some.inj hy1
        subst ey1
        refine onlyN ?_
        exact ⟨⟨rfl, rfl, rfl, rfl, rfl, rfl, rfl, trivial⟩, rfl⟩
      · rw [if_neg c2] at hy1
        have c2 := eq_false_of_ne_true c2
        obtain ⟨x4, hx4, hy1⟩ := Option.bind_eq_some_iff.1 hy1
        refine W.region ?_
        refine RL.op _ (by decide) (opv_call (cap := []) (spec_l02Is_ok _ _ _ _ _ _ _ (SL.up (SL.mod g0_3 X_2 (Nat.le_refl _) nob) (Nat.le_trans (Nat.le_refl _) (Mod.size X_2))) _ _ (SL.up (SL.mod g0_4 X_2 (Nat.le_refl _) nob) (Nat.le_trans (Nat.le_refl _) (Mod.size X_2))) (Sep.at (o := boxO bb1 [(.int .i64 a0_0), (.int .i64 a0_1), (.bool a0_2), u0_3, u0_4]) S_2 1 rfl) _ hx2) rfl rfl ⟨rfl, trivial⟩ Try.func74 rfl rfl) ?_
        rintro _ _ ⟨rfl, rfl⟩
        refine RL.opD (by decide) (opv_not rfl rfl) ?_
        refine RL.opD (by decide) (opv_move rfl rfl) ?_
        refine RL.yes _ rfl rfl c1 (by decide) (opv_move rfl rfl) ?_
        rintro _ _ ⟨rfl, rfl⟩
        refine RL.yes _ rfl rfl c1 (by decide) (opv_call (cap := []) (spec_l00In_ok _ _ _ _ _ hx3) rfl rfl ⟨rfl, rfl, rfl, trivial⟩ Try.func78 rfl rfl) ?_
        rintro _ _ ⟨rfl, rfl⟩
        refine RL.yes _ rfl rfl c1 (by decide) (opv_not rfl rfl) ?_
        rintro _ _ ⟨rfl, rfl⟩
        refine RL.opD (by decide) (opv_pick rfl rfl (fun e => absurd (Eq.trans (Eq.symm e) c1) (by decide)) (fun _ => rfl) rfl) ?_
        refine RL.opD (by decide) (opv_move rfl rfl) ?_
        refine RL.yes _ rfl rfl c2 (by decide) (opv_move rfl rfl) ?_
        rintro _ _ ⟨rfl, rfl⟩
        refine RL.yes _ rfl rfl c2 (by decide) (opv_call (cap := []) (spec_l05Share_ok _ _ _ g2 _ _ (isF_lit .f32 1065353216 (by decide) (by decide)) _ hx4) rfl rfl ⟨rfl, rfl, trivial⟩ Try.func106 rfl rfl) ?_
        rintro _ _ ⟨rfl, rfl⟩
        refine RL.yes _ rfl rfl c2 (by decide) (opv_not rfl rfl) ?_
        rintro _ _ ⟨rfl, rfl⟩
        refine RL.opD (by decide) (opv_pick rfl rfl (fun e => absurd (Eq.trans (Eq.symm e) c2) (by decide)) (fun _ => rfl) rfl) ?_
        refine RL.nil ?_
        have ey1 := Option.some.inj hy1
        subst ey1
        refine onlyN ?_
        exact ⟨⟨rfl, rfl, rfl, rfl, rfl, rfl, rfl, trivial⟩, rfl⟩
  rintro φ' _ ⟨hs1, rfl⟩
  refine thnN ?_
  refine W.sub hs1 ?_
  by_cases c3 : x1 = true
  · rw [if_pos c3] at hp
    refine W.condT rfl c3 ?_
    refine W.seq ?_
    refine W.region ?_
    refine RL.opD (by decide) (opv_build (cs := [(.int .i64 0), (.int .i64 0), (.bool false), (.slice none 0 0), (.slice none 0 0)]) [] [] rfl Try.bd29 trivial rfl) ?_
    refine RL.op0 _ (opS_stored (cs := [(.int .i64 0), (.int .i64 0), (.bool false), (.slice none 0 0), (.slice none 0 0)]) (cs' := [(.int .i64 0), (.int .i64 0), (.bool false), (.slice none 0 0), (.slice none 0 0)]) (opv_storeA (us := [(.int .i64 0), (.int .i64 0), (.bool false), (.slice none 0 0), (.slice none 0 0)]) rfl Try.size29 rfl rfl (oneAll rfl (oneAll rfl (oneAll rfl (oneAll rfl (oneAll rfl rfl))))) (Sep.at (o := boxO bb2 [(.int .i64 0), (.int .i64 0), (.bool false), (.slice none 0 0), (.slice none 0 0)]) S_2 0 rfl) rfl rfl) (Sep.at (o := boxO bb2 [(.int .i64 0), (.int .i64 0), (.bool false), (.slice none 0 0), (.slice none 0 0)]) S_2 0 rfl)) ?_
    rintro _ hp3 ⟨rfl, MT_3, T_3⟩
    have S_3 : Sep [] h0.size hp2 ([boxO bb2 [(.int .i64 0), (.int .i64 0), (.bool false), (.slice none 0 0), (.slice none 0 0)]] ++ [boxO bb1 [(.int .i64 a0_0), (.int .i64 a0_1), (.bool a0_2), u0_3, u0_4]]) := Sep.sel S_2 [0, 1] (by decide)
    have X_3 : Mod [] h0 hp3 := Mod.step (A := [boxO bb2 [(.int .i64 0), (.int .i64 0), (.bool false), (.slice none 0 0), (.slice none 0 0)]]) (L := [boxO bb1 [(.int .i64 a0_0), (.int .i64 a0_1), (.bool a0_2), u0_3, u0_4]]) X_2 S_3 MT_3
    have S_4 : Sep [] h0.size hp3 [boxO bb2 [(.int .i64 0), (.int .i64 0), (.bool false), (.slice none 0 0), (.slice none 0 0)], boxO bb1 [(.int .i64 a0_0), (.int .i64 a0_1), (.bool a0_2), u0_3, u0_4]] := Sep.step (A := [boxO bb2 [(.int .i64 0), (.int .i64 0), (.bool false), (.slice none 0 0), (.slice none 0 0)]]) (L := [boxO bb1 [(.int .i64 a0_0), (.int .i64 a0_1), (.bool a0_2), u0_3, u0_4]]) S_3 (Mod.size X_2) MT_3 T_3
    refine RL.opD (by decide) (opv_assign rfl rfl) ?_
    refine RL.nil ?_
    refine thnN ?_
    refine W.ret ?_
    refine thnR ?_
    have S_5 : Sep [] h0.size hp3 [ownO (kF .f32) 40 (.slice none 0 0) ([] : List (Option Nat)), boxO bb2 [(.int .i64 0), (.int .i64 0), (.bool false), (.slice none 0 0), (.slice none 0 0)], boxO bb1 [(.int .i64 a0_0), (.int .i64 a0_1), (.bool a0_2), u0_3, u0_4]] := Sep.addNil S_4
    have S_6 : Sep [] h0.size hp3 [ownO (kF .f32) 40 (.slice none 0 0) ([] : List (Option Nat)), ownO (kF .f32) 40 (.slice none 0 0) ([] : List (Option Nat)), boxO bb2 [(.int .i64 0), (.int .i64 0), (.bool false), (.slice none 0 0), (.slice none 0 0)], boxO bb1 [(.int .i64 a0_0), (.int .i64 a0_1), (.bool a0_2), u0_3, u0_4]] := Sep.addNil S_5
    have er := Option.some.inj hp
    subst er
    exact Rt.cellA rfl rfl rfl Try.agg29 Try.size29 (Sep.at (o := boxO bb2 [(.int .i64 0), (.int .i64 0), (.bool false), (.slice none 0 0), (.slice none 0 0)]) S_6 2 rfl) rfl ⟨(.slice none 0 0), (.slice none 0 0), rfl, X_3, (Sep.sel S_6 [1, 0] (by decide))⟩
  · rw [if_neg c3] at hp
    have c3 := eq_false_of_ne_true c3
    refine W.condF rfl c3 ?_
    refine W.skip ?_
    refine thnN ?_
    refine W.seq ?_
    obtain ⟨x5, hx5, hp⟩ := Option.bind_eq_some_iff.1 hp
    refine W.region ?_
    refine RL.op _ (by decide) (opv_call (cap := []) (spec_l05Own_ok _ _ _ _ _ _ _ (SL.up (SL.mod g0_3 X_2 (Nat.le_refl _) nob) (Nat.le_trans (Nat.le_refl _) (Mod.size X_2))) _ _ (SL.up (SL.mod g0_4 X_2 (Nat.le_refl _) nob) (Nat.le_trans (Nat.le_refl _) (Mod.size X_2))) (Sep.at (o := boxO bb1 [(.int .i64 a0_0), (.int .i64 a0_1), (.bool a0_2), u0_3, u0_4]) S_2 1 rfl) _ hx5) rfl rfl ⟨rfl, trivial⟩ Try.func97 rfl rfl) ?_
    rintro _ hp4 ⟨v1, v2, rfl, MT_4, T_4⟩
    have X_4 : Mod [] h0 hp4 := Mod.step (A := []) (L := [boxO bb2 [(.int .i64 0), (.int .i64 0), (.bool false), (.slice none 0 0), (.slice none 0 0)], boxO bb1 [(.int .i64 a0_0), (.int .i64 a0_1), (.bool a0_2), u0_3, u0_4]]) X_2 S_2 MT_4
    have S_7 : Sep [] h0.size hp4 [ownO (kF .f32) 40 v1 x5.2.2.2.1, ownO (kF .f32) 40 v2 x5.2.2.2.2, boxO bb2 [(.int .i64 0), (.int .i64 0), (.bool false), (.slice none 0 0), (.slice none 0 0)], boxO bb1 [(.int .i64 a0_0), (.int .i64 a0_1), (.bool a0_2), u0_3, u0_4]] := Sep.step (A := []) (L := [boxO bb2 [(.int .i64 0), (.int .i64 0), (.bool false), (.slice none 0 0), (.slice none 0 0)], boxO bb1 [(.int .i64 a0_0), (.int .i64 a0_1), (.bool a0_2), u0_3, u0_4]]) S_2 (Mod.size X_2) MT_4 T_4
    refine RL.op _ (by decide) (opS_boxed (opv_alloc (cs := [(.int .i64 0), (.int .i64 0), (.bool false), (.slice none 0 0), (.slice none 0 0)]) rfl Try.zero29 rfl)) ?_
    rintro _ hp5 ⟨bb3, rfl, MT_5, T_5⟩
    have X_5 : Mod [] h0 hp5 := Mod.step (A := []) (L := [ownO (kF .f32) 40 v1 x5.2.2.2.1, ownO (kF .f32) 40 v2 x5.2.2.2.2, boxO bb2 [(.int .i64 0), (.int .i64 0), (.bool false), (.slice none 0 0), (.slice none 0 0)], boxO bb1 [(.int .i64 a0_0), (.int .i64 a0_1), (.bool a0_2), u0_3, u0_4]]) X_4 S_7 MT_5
    have S_8 : Sep [] h0.size hp5 [boxO bb3 [(.int .i64 0), (.int .i64 0), (.bool false), (.slice none 0 0), (.slice none 0 0)], ownO (kF .f32) 40 v1 x5.2.2.2.1, ownO (kF .f32) 40 v2 x5.2.2.2.2, boxO bb2 [(.int .i64 0), (.int .i64 0), (.bool false), (.slice none 0 0), (.slice none 0 0)], boxO bb1 [(.int .i64 a0_0), (.int .i64 a0_1), (.bool a0_2), u0_3, u0_4]] := Sep.step (A := []) (L := [ownO (kF .f32) 40 v1 x5.2.2.2.1, ownO (kF .f32) 40 v2 x5.2.2.2.2, boxO bb2 [(.int .i64 0), (.int .i64 0), (.bool false), (.slice none 0 0), (.slice none 0 0)], boxO bb1 [(.int .i64 a0_0), (.int .i64 a0_1), (.bool a0_2), u0_3, u0_4]]) S_7 (Mod.size X_4) MT_5 T_5
    refine RL.op0 _ (opS_stored (cs := [(.int .i64 0), (.int .i64 0), (.bool false), (.slice none 0 0), (.slice none 0 0)]) (cs' := [(.int .i64 x5.1), (.int .i64 x5.2.1), (.bool x5.2.2.1), v1, v2]) (opv_storeA (us := [(.int .i64 x5.1), (.int .i64 x5.2.1), (.bool x5.2.2.1), v1, v2]) rfl Try.size29 rfl rfl (oneAll rfl (oneAll rfl (oneAll rfl (oneAll (ownO.one (Sep.at (o := ownO (kF .f32) 40 v1 x5.2.2.2.1) S_8 1 rfl)) (oneAll (ownO.one (Sep.at (o := ownO (kF .f32) 40 v2 x5.2.2.2.2) S_8 2 rfl)) rfl))))) (Sep.at (o := boxO bb3 [(.int .i64 0), (.int .i64 0), (.bool false), (.slice none 0 0), (.slice none 0 0)]) S_8 0 rfl) rfl rfl) (Sep.at (o := boxO bb3 [(.int .i64 0), (.int .i64 0), (.bool false), (.slice none 0 0), (.slice none 0 0)]) S_8 0 rfl)) ?_
    rintro _ hp6 ⟨rfl, MT_6, T_6⟩
    have S_9 : Sep [] h0.size hp5 ([boxO bb3 [(.int .i64 0), (.int .i64 0), (.bool false), (.slice none 0 0), (.slice none 0 0)]] ++ [ownO (kF .f32) 40 v1 x5.2.2.2.1, ownO (kF .f32) 40 v2 x5.2.2.2.2, boxO bb2 [(.int .i64 0), (.int .i64 0), (.bool false), (.slice none 0 0), (.slice none 0 0)], boxO bb1 [(.int .i64 a0_0), (.int .i64 a0_1), (.bool a0_2), u0_3, u0_4]]) := Sep.sel S_8 [0, 1, 2, 3, 4] (by decide)
    have X_6 : Mod [] h0 hp6 := Mod.step (A := [boxO bb3 [(.int .i64 0), (.int .i64 0), (.bool false), (.slice none 0 0), (.slice none 0 0)]]) (L := [ownO (kF .f32) 40 v1 x5.2.2.2.1, ownO (kF .f32) 40 v2 x5.2.2.2.2, boxO bb2 [(.int .i64 0), (.int .i64 0), (.bool false), (.slice none 0 0), (.slice none 0 0)], boxO bb1 [(.int .i64 a0_0), (.int .i64 a0_1), (.bool a0_2), u0_3, u0_4]]) X_5 S_9 MT_6
    have S_10 : Sep [] h0.size hp6 [boxO bb3 [(.int .i64 x5.1), (.int .i64 x5.2.1), (.bool x5.2.2.1), v1, v2], ownO (kF .f32) 40 v1 x5.2.2.2.1, ownO (kF .f32) 40 v2 x5.2.2.2.2, boxO bb2 [(.int .i64 0), (.int .i64 0), (.bool false), (.slice none 0 0), (.slice none 0 0)], boxO bb1 [(.int .i64 a0_0), (.int .i64 a0_1), (.bool a0_2), u0_3, u0_4]] := Sep.step (A := [boxO bb3 [(.int .i64 0), (.int .i64 0), (.bool false), (.slice none 0 0), (.slice none 0 0)]]) (L := [ownO (kF .f32) 40 v1 x5.2.2.2.1, ownO (kF .f32) 40 v2 x5.2.2.2.2, boxO bb2 [(.int .i64 0), (.int .i64 0), (.bool false), (.slice none 0 0), (.slice none 0 0)], boxO bb1 [(.int .i64 a0_0), (.int .i64 a0_1), (.bool a0_2), u0_3, u0_4]]) S_9 (Mod.size X_5) MT_6 T_6
    refine RL.nil ?_
    refine thnN ?_
    refine W.seq ?_
    refine W.seq ?_
    refine W.region ?_
    refine RL.opD (by decide) (opv_fieldAddr rfl Try.fo29_4 rfl) ?_
    refine RL.opD (by decide) (opv_loadB rfl Try.one22 rfl (Sep.at (o := boxO bb3 [(.int .i64 x5.1), (.int .i64 x5.2.1), (.bool x5.2.2.1), v1, v2]) S_10 0 rfl) rfl) ?_
    refine RL.opD (by decide) (opv_len rfl Try.underlying22 rfl (ownO.read (Sep.at (o := ownO (kF .f32) 40 v2 x5.2.2.2.2) S_10 2 rfl))) ?_
    refine RL.opD (by decide) (opv_move rfl rfl) ?_
    refine RL.nil ?_
    refine thnN ?_
    obtain ⟨y2, hy2, hp⟩ := Option.bind_eq_some_iff.1 hp
    refine W.cut (fun φ' h' => ∃ x8, ∃ x9, ∃ x10, y2 = (x8, x9, x10) ∧ Fr.sub [(0, (.agg (List.toArray (α := Value) [(.int .i64 a0_0), (.int .i64 a0_1), (.bool a0_2), u0_3, u0_4]))), (1, (.int .i64 a1)), (2, u2), (3, (.pointer (some ⟨bb1, 0, none⟩))), (6, (.pointer (some ⟨bb2, 0, none⟩))), (7, (.bool false)), (24, (.bool x1)), (8, (.pointer (some ⟨bb3, 0, none⟩))), (29, (.int .i64 (x5.2.2.2.2.length : Int))), (30, (.int .i64 x8)), (31, (.bool x9))] φ' ∧ Mod [] h0 h' ∧ Sep [] h0.size h' [boxO bb3 [(.int .i64 x5.1), (.int .i64 x5.2.1), (.bool x5.2.2.1), v1, v2], ownO (kF .f32) 40 v1 x5.2.2.2.1, ownO (kF .f32) 40 v2 x10, boxO bb2 [(.int .i64 0), (.int .i64 0), (.bool false), (.slice none 0 0), (.slice none 0 0)], boxO bb1 [(.int .i64 a0_0), (.int .i64 a0_1), (.bool a0_2), u0_3, u0_4]]) ?_ ?_
    · refine W.block ?_
      refine W.loopS (fun (s : (Int × (List (Option Nat)))) φ' h' => Fr.sub [(0, (.agg (List.toArray (α := Value) [(.int .i64 a0_0), (.int .i64 a0_1), (.bool a0_2), u0_3, u0_4]))), (1, (.int .i64 a1)), (2, u2), (3, (.pointer (some ⟨bb1, 0, none⟩))), (6, (.pointer (some ⟨bb2, 0, none⟩))), (7, (.bool false)), (24, (.bool x1)), (8, (.pointer (some ⟨bb3, 0, none⟩))), (29, (.int .i64 (x5.2.2.2.2.length : Int))), (30, (.int .i64 s.1))] φ' ∧ Mod [] h0 h' ∧ Sep [] h0.size h' [boxO bb3 [(.int .i64 x5.1), (.int .i64 x5.2.1), (.bool x5.2.2.1), v1, v2], ownO (kF .f32) 40 v1 x5.2.2.2.1, ownO (kF .f32) 40 v2 s.2, boxO bb2 [(.int .i64 0), (.int .i64 0), (.bool false), (.slice none 0 0), (.slice none 0 0)], boxO bb1 [(.int .i64 a0_0), (.int .i64 a0_1), (.bool a0_2), u0_3, u0_4]]) hy2 ⟨⟨rfl, rfl, rfl, rfl, rfl, rfl, rfl, rfl, rfl, rfl, trivial⟩, X_6, (Sep.sel S_10 [0, 1, 2, 3, 4] (by decide))⟩ ?_
      rintro ⟨x6, x7⟩ φ' hp7 o1 ⟨hs2, X_7, S_11⟩ ho1 hy1
      have hs2 : Fr.sub [(0, (.agg (List.toArray (α := Value) [(.int .i64 a0_0), (.int .i64 a0_1), (.bool a0_2), u0_3, u0_4]))), (1, (.int .i64 a1)), (2, u2), (3, (.pointer (some ⟨bb1, 0, none⟩))), (6, (.pointer (some ⟨bb2, 0, none⟩))), (7, (.bool false)), (24, (.bool x1)), (8, (.pointer (some ⟨bb3, 0, none⟩))), (29, (.int .i64 (x5.2.2.2.2.length : Int))), (30, (.int .i64 x6))] φ' := hs2
      have S_11 : Sep [] h0.size hp7 [boxO bb3 [(.int .i64 x5.1), (.int .i64 x5.2.1), (.bool x5.2.2.1), v1, v2], ownO (kF .f32) 40 v1 x5.2.2.2.1, ownO (kF .f32) 40 v2 x7, boxO bb2 [(.int .i64 0), (.int .i64 0), (.bool false), (.slice none 0 0), (.slice none 0 0)], boxO bb1 [(.int .i64 a0_0), (.int .i64 a0_1), (.bool a0_2), u0_3, u0_4]] := S_11
      have ho1 : spec_GradeLosses.s0 a0_0 a0_1 a0_2 a0_3 a0_4 a1 a2 x5 x6 x7 = some o1 := ho1
      unfold spec_GradeLosses.s0 at ho1
      refine W.sub hs2 ?_
      refine W.seq ?_
      refine W.region ?_
      refine RL.opD (by decide) (opv_icmp rfl rfl rfl rfl) ?_
      refine RL.nil ?_
      refine thnN ?_
      refine W.seq ?_
      by_cases c4 : (decide (x6 < (x5.2.2.2.2.length : Int))) = true
      · rw [if_pos c4] at ho1
        refine W.condT rfl c4 ?_
        refine W.skip ?_
        refine thnN ?_
        refine W.seq ?_
        obtain ⟨⟨x11, x12, x13, x14⟩, hy3, ho1⟩ := Option.bind_eq_some_iff.1 ho1
        try dsimp only at ho1
        refine W.cut (fun φ' h' => Fr.sub [(0, (.agg (List.toArray (α := Value) [(.int .i64 a0_0), (.int .i64 a0_1), (.bool a0_2), u0_3, u0_4]))), (1, (.int .i64 a1)), (2, u2), (3, (.pointer (some ⟨bb1, 0, none⟩))), (6, (.pointer (some ⟨bb2, 0, none⟩))), (7, (.bool false)), (24, (.bool x1)), (8, (.pointer (some ⟨bb3, 0, none⟩))), (29, (.int .i64 (x5.2.2.2.2.length : Int))), (30, (.int .i64 x6)), (31, (.bool (decide (x6 < (x5.2.2.2.2.length : Int))))), (9, (.int .i64 x11)), (10, (.int .i64 x12)), (37, (.bool x13))] φ' ∧ Mod [] h0 h' ∧ Sep [] h0.size h' [boxO bb3 [(.int .i64 x5.1), (.int .i64 x5.2.1), (.bool x5.2.2.1), v1, v2], ownO (kF .f32) 40 v1 x5.2.2.2.1, ownO (kF .f32) 40 v2 x14, boxO bb2 [(.int .i64 0), (.int .i64 0), (.bool false), (.slice none 0 0), (.slice none 0 0)], boxO bb1 [(.int .i64 a0_0), (.int .i64 a0_1), (.bool a0_2), u0_3, u0_4]]) ?_ ?_
        · refine W.block ?_
          refine W.seq ?_
          refine W.region ?_
          refine RL.opD (by decide) (opv_move rfl rfl) ?_
          refine RL.opD (by decide) (opv_assign rfl rfl) ?_
          refine RL.nil ?_
          refine thnN ?_
          refine W.seq ?_
          obtain ⟨x15, hx15, hy3⟩ := Option.bind_eq_some_iff.1 hy3
          refine W.region ?_
          refine RL.opD (by decide) (opv_move rfl rfl) ?_
          refine RL.op _ (by decide) (opv_call (cap := []) (spec_l05Depth_ok _ _ _ _ _ _ _ (SL.up (SL.mod g0_3 X_7 (Nat.le_refl _) nob) (Nat.le_trans (Nat.le_refl _) (Mod.size X_7))) _ _ (SL.up (SL.mod g0_4 X_7 (Nat.le_refl _) nob) (Nat.le_trans (Nat.le_refl _) (Mod.size X_7))) (Sep.at (o := boxO bb1 [(.int .i64 a0_0), (.int .i64 a0_1), (.bool a0_2), u0_3, u0_4]) S_11 4 rfl) _ _ hx15) rfl rfl ⟨rfl, rfl, trivial⟩ Try.func112 rfl rfl) ?_
          rintro _ _ ⟨rfl, rfl⟩
          refine RL.opD (by decide) (opv_assign rfl rfl) ?_
          refine RL.nil ?_
          refine thnN ?_
          refine W.seq ?_
          refine W.seq ?_
          refine W.region ?_
          refine RL.opD (by decide) (opv_move rfl rfl) ?_
          refine RL.opD (by decide) (opv_move rfl rfl) ?_
          refine RL.opD (by decide) (opv_icmp rfl rfl rfl rfl) ?_
          refine RL.nil ?_
          refine thnN ?_
          by_cases c5 : (decide (x15 ≥ a1)) = true
          · rw [if_pos c5] at hy3
            refine W.condT rfl c5 ?_
            refine W.exit ?_
            refine thnX ?_
            refine blkI ?_
            have ey3 := Option.some.inj hy3
            simp only [Prod.mk.injEq] at ey3
            obtain ⟨rfl, rfl, rfl, rfl⟩ := ey3
            refine onlyN ?_
            exact ⟨⟨rfl, rfl, rfl, rfl, rfl, rfl, rfl, rfl, rfl, rfl, rfl, rfl, rfl, rfl, trivial⟩, X_7, (Sep.sel S_11 [0, 1, 2, 3, 4] (by decide))⟩
          · rw [if_neg c5] at hy3
            have c5 := eq_false_of_ne_true c5
            refine W.condF rfl c5 ?_
            refine W.skip ?_
            refine thnN ?_
            refine W.seq ?_
            refine W.region ?_
            refine RL.opD (by decide) (opv_move rfl rfl) ?_
            refine RL.opD (by decide) (opv_move rfl rfl) ?_
            refine RL.opD (by decide) (opv_sub rfl rfl rfl) ?_
            refine RL.opF (by decide) (opv_i2f rfl (by rw [Try.underlying2]; rfl) Try.underlying40 rfl) ?_
            intro v3 fv3
            refine RL.opD (by decide) (opv_move rfl rfl) ?_
            refine RL.opF (by decide) (opv_i2f rfl (by rw [Try.underlying2]; rfl) Try.underlying40 rfl) ?_
            intro v4 fv4
            refine RL.opF (by decide) (opv_fop rfl rfl rfl rfl fv3 fv4) ?_
            intro v5 fv5
            refine RL.opD (by decide) (opv_assign rfl rfl) ?_
            refine RL.nil ?_
            refine thnN ?_
            refine W.seq ?_
            obtain ⟨x16, hx16, hy3⟩ := Option.bind_eq_some_iff.1 hy3
            refine W.region ?_
            refine RL.opD (by decide) (opv_fieldAddr rfl Try.fo29_4 rfl) ?_
            refine RL.opD (by decide) (opv_loadB rfl Try.one22 rfl (Sep.at (o := boxO bb3 [(.int .i64 x5.1), (.int .i64 x5.2.1), (.bool x5.2.2.1), v1, v2]) S_11 0 rfl) rfl) ?_
            refine RL.opD (by decide) (opv_move rfl rfl) ?_
            refine RL.op _ (by decide) (opv_index rfl Try.underlying22 (by rw [Try.size40]; rfl) rfl rfl (ownO.read (Sep.at (o := ownO (kF .f32) 40 v2 x7) S_11 2 rfl)) hx16) ?_
            rintro v6 _ ⟨fv6, rfl⟩
            refine RL.opF (by decide) (opv_loadF rfl Try.one40 rfl fv6 (ownO.read (Sep.at (o := ownO (kF .f32) 40 v2 x7) S_11 2 rfl)) hx16) ?_
            intro v7 fv7
            refine RL.opD (by decide) (opv_move rfl rfl) ?_
            refine RL.opD (by decide) (opv_move rfl rfl) ?_
            refine RL.opD (by decide) (opv_move rfl rfl) ?_
            refine RL.opF (by decide) (opv_fop rfl rfl rfl rfl fv5 fv5) ?_
            intro v8 fv8
            refine RL.opF (by decide) (opv_fop rfl rfl rfl rfl g2 fv8) ?_
            intro v9 fv9
            refine RL.opF (by decide) (opv_fop rfl rfl rfl rfl fv7 fv9) ?_
            intro v10 fv10
            refine RL.opD (by decide) (opv_assign rfl rfl) ?_
            refine RL.nil ?_
            refine thnN ?_
            refine W.seq ?_
            refine W.seq ?_
            refine W.region ?_
            refine RL.opD (by decide) (opv_move rfl rfl) ?_
            refine RL.opD (by decide) (opv_fcmp rfl rfl rfl rfl fv10 (isF_lit .f32 1065353216 (by decide) (by decide))) ?_
            refine RL.nil ?_
            refine thnN ?_
            obtain ⟨x17, hy4, hy3⟩ := Option.bind_eq_some_iff.1 hy3
            refine W.cut (fun φ' h' => ∃ v11, Fr.sub [(0, (.agg (List.toArray (α := Value) [(.int .i64 a0_0), (.int .i64 a0_1), (.bool a0_2), u0_3, u0_4]))), (1, (.int .i64 a1)), (2, u2), (3, (.pointer (some ⟨bb1, 0, none⟩))), (6, (.pointer (some ⟨bb2, 0, none⟩))), (7, (.bool false)), (24, (.bool x1)), (8, (.pointer (some ⟨bb3, 0, none⟩))), (29, (.int .i64 (x5.2.2.2.2.length : Int))), (30, (.int .i64 x6)), (31, (.bool (decide (x6 < (x5.2.2.2.2.length : Int))))), (9, (.int .i64 x6)), (10, (.int .i64 x15)), (37, (.bool (decide (x15 ≥ a1)))), (11, v5), (57, (.bool (fcmp .gtr .f32 (fop .add .f32 x16 (fop .mul .f32 a2 (fop .mul .f32 (fop .quo .f32 (fofi .f32 (IntKind.wrap .i64 (a1 - x15))) (fofi .f32 a1)) (fop .quo .f32 (fofi .f32 (IntKind.wrap .i64 (a1 - x15))) (fofi .f32 a1))))) (some 1065353216)))), (12, v11)] φ' ∧ IsF .f32 v11 x17 ∧ hp7 = h') ?_ ?_
            · by_cases c6 : (fcmp .gtr .f32 (fop .add .f32 x16 (fop .mul .f32 a2 (fop .mul .f32 (fop .quo .f32 (fofi .f32 (IntKind.wrap .i64 (a1 - x15))) (fofi .f32 a1)) (fop .quo .f32 (fofi .f32 (IntKind.wrap .i64 (a1 - x15))) (fofi .f32 a1))))) (some 1065353216)) = true
              · rw [if_pos c6] at hy4
                refine W.condT rfl c6 ?_
                refine W.region ?_
                refine RL.opD (by decide) (opv_assign rfl rfl) ?_
                refine RL.nil ?_
                have ey4 := Option.some.inj hy4
                subst ey4
                refine onlyN ?_
                exact ⟨(.float .f32 1065353216), ⟨rfl, rfl, rfl, rfl, rfl, rfl, rfl, rfl, rfl, rfl, rfl, rfl, rfl, rfl, rfl, rfl, rfl, trivial⟩, (isF_lit .f32 1065353216 (by decide) (by decide)), rfl⟩
              · rw [if_neg c6] at hy4
                have c6 := eq_false_of_ne_true c6
                refine W.condF rfl c6 ?_
                refine W.skip ?_
                have ey4 := Option.some.inj hy4
                subst ey4
                refine onlyN ?_
                exact ⟨v10, ⟨rfl, rfl, rfl, rfl, rfl, rfl, rfl, rfl, rfl, rfl, rfl, rfl, rfl, rfl, rfl, rfl, rfl, trivial⟩, fv10, rfl⟩
            rintro φ' _ ⟨v11, hs5, fv11, rfl⟩
            refine thnN ?_
            refine W.sub hs5 ?_
            obtain ⟨x18, hx18, hy3⟩ := Option.bind_eq_some_iff.1 hy3
            obtain ⟨x19, hx19, hy3⟩ := Option.bind_eq_some_iff.1 hy3
            refine W.region ?_
            refine RL.opD (by decide) (opv_fieldAddr rfl Try.fo29_4 rfl) ?_
            refine RL.opD (by decide) (opv_loadB rfl Try.one22 rfl (Sep.at (o := boxO bb3 [(.int .i64 x5.1), (.int .i64 x5.2.1), (.bool x5.2.2.1), v1, v2]) S_11 0 rfl) rfl) ?_
            refine RL.opD (by decide) (opv_move rfl rfl) ?_
            refine RL.opD (by decide) (opv_move rfl rfl) ?_
            refine RL.op _ (by decide) (opv_index rfl Try.underlying22 (by rw [Try.size40]; rfl) rfl rfl (ownO.read (Sep.at (o := ownO (kF .f32) 40 v2 x7) S_11 2 rfl)) hx18) ?_
            rintro v12 _ ⟨fv12, rfl⟩
            refine RL.op0 _ (opS_storeE (K := (kF .f32)) rfl Try.size40 rfl rfl fv12 rfl ⟨_, rfl, fv11⟩ hx19 (Sep.at (o := ownO (kF .f32) 40 v2 x7) S_11 2 rfl)) ?_
            rintro _ hp8 ⟨rfl, MT_7, T_7⟩
            have S_12 : Sep [] h0.size hp7 ([ownO (kF .f32) 40 v2 x7] ++ [boxO bb3 [(.int .i64 x5.1), (.int .i64 x5.2.1), (.bool x5.2.2.1), v1, v2], ownO (kF .f32) 40 v1 x5.2.2.2.1, boxO bb2 [(.int .i64 0), (.int .i64 0), (.bool false), (.slice none 0 0), (.slice none 0 0)], boxO bb1 [(.int .i64 a0_0), (.int .i64 a0_1), (.bool a0_2), u0_3, u0_4]]) := Sep.sel S_11 [2, 0, 1, 3, 4] (by decide)
            have X_8 : Mod [] h0 hp8 := Mod.step (A := [ownO (kF .f32) 40 v2 x7]) (L := [boxO bb3 [(.int .i64 x5.1), (.int .i64 x5.2.1), (.bool x5.2.2.1), v1, v2], ownO (kF .f32) 40 v1 x5.2.2.2.1, boxO bb2 [(.int .i64 0), (.int .i64 0), (.bool false), (.slice none 0 0), (.slice none 0 0)], boxO bb1 [(.int .i64 a0_0), (.int .i64 a0_1), (.bool a0_2), u0_3, u0_4]]) X_7 S_12 MT_7
            have S_13 : Sep [] h0.size hp8 [ownO (kF .f32) 40 v2 x19, boxO bb3 [(.int .i64 x5.1), (.int .i64 x5.2.1), (.bool x5.2.2.1), v1, v2], ownO (kF .f32) 40 v1 x5.2.2.2.1, boxO bb2 [(.int .i64 0), (.int .i64 0), (.bool false), (.slice none 0 0), (.slice none 0 0)], boxO bb1 [(.int .i64 a0_0), (.int .i64 a0_1), (.bool a0_2), u0_3, u0_4]] := Sep.step (A := [ownO (kF .f32) 40 v2 x7]) (L := [boxO bb3 [(.int .i64 x5.1), (.int .i64 x5.2.1), (.bool x5.2.2.1), v1, v2], ownO (kF .f32) 40 v1 x5.2.2.2.1, boxO bb2 [(.int .i64 0), (.int .i64 0), (.bool false), (.slice none 0 0), (.slice none 0 0)], boxO bb1 [(.int .i64 a0_0), (.int .i64 a0_1), (.bool a0_2), u0_3, u0_4]]) S_12 (Mod.size X_7) MT_7 T_7
            refine RL.nil ?_
            refine blkN ?_
            have ey3 := Option.some.inj hy3
            simp only [Prod.mk.injEq] at ey3
            obtain ⟨rfl, rfl, rfl, rfl⟩ := ey3
            refine onlyN ?_
            exact ⟨⟨rfl, rfl, rfl, rfl, rfl, rfl, rfl, rfl, rfl, rfl, rfl, rfl, rfl, rfl, trivial⟩, X_8, (Sep.sel S_13 [1, 2, 0, 3, 4] (by decide))⟩
        rintro φ' hp9 ⟨hs4, X_9, S_14⟩
        refine thnN ?_
        refine W.sub hs4 ?_
        refine W.region ?_
        refine RL.opD (by decide) (opv_add rfl rfl rfl) ?_
        refine RL.opD (by decide) (opv_move rfl rfl) ?_
        refine RL.nil ?_
        have eo1 := Option.some.inj ho1
        subst eo1
        refine rndN (s' := (IntKind.wrap .i64 (x6 + 1), x14)) rfl ?_
        exact ⟨⟨rfl, rfl, rfl, rfl, rfl, rfl, rfl, rfl, rfl, rfl, trivial⟩, X_9, (Sep.sel S_14 [0, 1, 2, 3, 4] (by decide))⟩
      · rw [if_neg c4] at ho1
        have c4 := eq_false_of_ne_true c4
        refine W.condF rfl c4 ?_
        refine W.exit ?_
        refine thnX ?_
        refine rndX ?_
        refine blkI ?_
        have eo1 := Option.some.inj ho1
        subst eo1
        have ey2 := hy1 _ rfl
        subst ey2
        refine onlyN ?_
        exact ⟨x6, decide (x6 < (x5.2.2.2.2.length : Int)), x7, rfl, ⟨rfl, rfl, rfl, rfl, rfl, rfl, rfl, rfl, rfl, rfl, rfl, trivial⟩, X_7, (Sep.sel S_11 [0, 1, 2, 3, 4] (by decide))⟩
    rintro φ' hp10 ⟨x8, x9, x10, rfl, hs3, X_10, S_15⟩
    try dsimp only at hp
    refine thnN ?_
    refine W.sub hs3 ?_
    refine W.seq ?_
    refine W.region ?_
    refine RL.opD (by decide) (opv_loadA (us := [(.int .i64 x5.1), (.int .i64 x5.2.1), (.bool x5.2.2.1), v1, v2]) rfl Try.agg29 Try.size29 rfl (Sep.at (o := boxO bb3 [(.int .i64 x5.1), (.int .i64 x5.2.1), (.bool x5.2.2.1), v1, v2]) S_15 0 rfl) rfl rfl) ?_
    refine RL.op0 _ (opS_stored (cs := [(.int .i64 0), (.int .i64 0), (.bool false), (.slice none 0 0), (.slice none 0 0)]) (cs' := [(.int .i64 x5.1), (.int .i64 x5.2.1), (.bool x5.2.2.1), v1, v2]) (opv_storeA (us := [(.int .i64 x5.1), (.int .i64 x5.2.1), (.bool x5.2.2.1), v1, v2]) rfl Try.size29 rfl rfl (oneAll rfl (oneAll rfl (oneAll rfl (oneAll (ownO.one (Sep.at (o := ownO (kF .f32) 40 v1 x5.2.2.2.1) S_15 1 rfl)) (oneAll (ownO.one (Sep.at (o := ownO (kF .f32) 40 v2 x10) S_15 2 rfl)) rfl))))) (Sep.at (o := boxO bb2 [(.int .i64 0), (.int .i64 0), (.bool false), (.slice none 0 0), (.slice none 0 0)]) S_15 3 rfl) rfl rfl) (Sep.at (o := boxO bb2 [(.int .i64 0), (.int .i64 0), (.bool false), (.slice none 0 0), (.slice none 0 0)]) S_15 3 rfl)) ?_
    rintro _ hp11 ⟨rfl, MT_8, T_8⟩
    have S_16 : Sep [] h0.size hp10 ([boxO bb2 [(.int .i64 0), (.int .i64 0), (.bool false), (.slice none 0 0), (.slice none 0 0)]] ++ [boxO bb3 [(.int .i64 x5.1), (.int .i64 x5.2.1), (.bool x5.2.2.1), v1, v2], ownO (kF .f32) 40 v1 x5.2.2.2.1, ownO (kF .f32) 40 v2 x10, boxO bb1 [(.int .i64 a0_0), (.int .i64 a0_1), (.bool a0_2), u0_3, u0_4]]) := Sep.sel S_15 [3, 0, 1, 2, 4] (by decide)
    have X_11 : Mod [] h0 hp11 := Mod.step (A := [boxO bb2 [(.int .i64 0), (.int .i64 0), (.bool false), (.slice none 0 0), (.slice none 0 0)]]) (L := [boxO bb3 [(.int .i64 x5.1), (.int .i64 x5.2.1), (.bool x5.2.2.1), v1, v2], ownO (kF .f32) 40 v1 x5.2.2.2.1, ownO (kF .f32) 40 v2 x10, boxO bb1 [(.int .i64 a0_0), (.int .i64 a0_1), (.bool a0_2), u0_3, u0_4]]) X_10 S_16 MT_8
    have S_17 : Sep [] h0.size hp11 [boxO bb2 [(.int .i64 x5.1), (.int .i64 x5.2.1), (.bool x5.2.2.1), v1, v2], boxO bb3 [(.int .i64 x5.1), (.int .i64 x5.2.1), (.bool x5.2.2.1), v1, v2], ownO (kF .f32) 40 v1 x5.2.2.2.1, ownO (kF .f32) 40 v2 x10, boxO bb1 [(.int .i64 a0_0), (.int .i64 a0_1), (.bool a0_2), u0_3, u0_4]] := Sep.step (A := [boxO bb2 [(.int .i64 0), (.int .i64 0), (.bool false), (.slice none 0 0), (.slice none 0 0)]]) (L := [boxO bb3 [(.int .i64 x5.1), (.int .i64 x5.2.1), (.bool x5.2.2.1), v1, v2], ownO (kF .f32) 40 v1 x5.2.2.2.1, ownO (kF .f32) 40 v2 x10, boxO bb1 [(.int .i64 a0_0), (.int .i64 a0_1), (.bool a0_2), u0_3, u0_4]]) S_16 (Mod.size X_10) MT_8 T_8
    refine RL.opD (by decide) (opv_assign rfl rfl) ?_
    refine RL.nil ?_
    refine thnN ?_
    refine W.ret ?_
    have er := Option.some.inj hp
    subst er
    exact Rt.cellA rfl rfl rfl Try.agg29 Try.size29 (Sep.at (o := boxO bb2 [(.int .i64 x5.1), (.int .i64 x5.2.1), (.bool x5.2.2.1), v1, v2]) S_17 0 rfl) rfl ⟨v1, v2, rfl, X_11, (Sep.sel S_17 [2, 3] (by decide))⟩

set_option maxRecDepth 20000 in
theorem impl_GradeLosses_1_2_ok (h0 : Heap) (lo : Nat) (hlo : lo ≤ h0.size) (a0 : Int) (a1 : Int) (a2 : Int) (be0 : Nat) (ae0_0 : Int) (ae0_1 : Int) (ae0_2 : Bool) (ue0_3 : Value) (ae0_3 : List (Option Nat)) (ge0_3 : SL (kF .f32) lo h0 ue0_3 ae0_3) (ue0_4 : Value) (ae0_4 : List (Option Nat)) (ge0_4 : SL (kF .f32) lo h0 ue0_4 ae0_4) (be1 : Nat) (ae1_0 : Int) (be2 : Nat) (ae2_0 : Int) (ae2_1 : Int) (ae2_2 : Bool) (ue2_3 : Value) (ae2_3 : List (Option Nat)) (ue2_4 : Value) (ae2_4 : List (Option Nat)) (be3 : Nat) (ue3_0 : Value) (ae3_0 : Option Nat) (ge3_0 : IsF .f32 ue3_0 ae3_0) (S0 : Sep [some be0, some be1, some be2, ue2_3.ownBlock, ue2_4.ownBlock, some be3] h0.size h0 [boxO be0 [(.int .i64 ae0_0), (.int .i64 ae0_1), (.bool ae0_2), ue0_3, ue0_4], boxO be1 [(.int .i64 ae1_0)], boxO be2 [(.int .i64 ae2_0), (.int .i64 ae2_1), (.bool ae2_2), ue2_3, ue2_4], ownO (kF .f32) 40 ue2_3 ae2_3, ownO (kF .f32) 40 ue2_4 ae2_4, boxO be3 [ue3_0]]) (hB : ∀ b, some b ∈ [some be0, some be1, some be2, ue2_3.ownBlock, ue2_4.ownBlock, some be3] → lo ≤ b) (r : (Int × Int × Bool × Int × Int × Int × Bool × (List (Option Nat)) × (List (Option Nat)) × (Option Nat))) (hp : impl_GradeLosses_1_2 a0 a1 a2 ae0_0 ae0_1 ae0_2 ae0_3 ae0_4 ae1_0 ae2_0 ae2_1 ae2_2 ae2_3 ae2_4 ae3_0 = some r) : CallsH Try.prog 114 ([(.int .i64 a0), (.int .i64 a1), (.int .i64 a2)].toArray ++ [(.pointer (some ⟨be0, 0, none⟩)), (.pointer (some ⟨be1, 0, none⟩)), (.pointer (some ⟨be2, 0, none⟩)), (.pointer (some ⟨be3, 0, none⟩))].toArray) h0 (fun v h' => ∃ w9, v = (.tuple (List.toArray (α := Value) [])) ∧ IsF .f32 w9 r.2.2.2.2.2.2.2.2.2 ∧ Mod [some be0, some be1, some be2, ue2_3.ownBlock, ue2_4.ownBlock, some be3] h0 h' ∧ Sep [some be0, some be1, some be2, ue2_3.ownBlock, ue2_4.ownBlock, some be3] h0.size h' [boxO be0 [(.int .i64 r.1), (.int .i64 r.2.1), (.bool r.2.2.1), ue0_3, ue0_4], boxO be1 [(.int .i64 r.2.2.2.1)], boxO be2 [(.int .i64 r.2.2.2.2.1), (.int .i64 r.2.2.2.2.2.1), (.bool r.2.2.2.2.2.2.1), ue2_3, ue2_4], ownO (kF .f32) 40 ue2_3 r.2.2.2.2.2.2.2.1, ownO (kF .f32) 40 ue2_4 r.2.2.2.2.2.2.2.2.1, boxO be3 [w9]]) := by
  unfold impl_GradeLosses_1_2 at hp
  refine callsH_of_W (l := [(.int .i64 a0), (.int .i64 a1), (.int .i64 a2)]) (cap := [(.pointer (some ⟨be0, 0, none⟩)), (.pointer (some ⟨be1, 0, none⟩)), (.pointer (some ⟨be2, 0, none⟩)), (.pointer (some ⟨be3, 0, none⟩))]) 45 Try.func114 rfl rfl rfl ?_
  refine W.seq ?_
  obtain ⟨x1, hx1, hp⟩ := Option.bind_eq_some_iff.1 hp
  refine W.region ?_
  refine RL.opD (by decide) (opv_loadA (us := [(.int .i64 ae0_0), (.int .i64 ae0_1), (.bool ae0_2), ue0_3, ue0_4]) rfl Try.agg29 Try.size29 rfl (Sep.at (o := boxO be0 [(.int .i64 ae0_0), (.int .i64 ae0_1), (.bool ae0_2), ue0_3, ue0_4]) S0 0 rfl) rfl rfl) ?_
  refine RL.opD (by decide) (opv_move rfl rfl) ?_
  refine RL.opD (by decide) (opv_move rfl rfl) ?_
  refine RL.op _ (by decide) (opv_call (cap := []) (impl_Sheet_depth_ok _ _ _ _ _ _ (SL.up ge0_3 hlo) _ _ (SL.up ge0_4 hlo) _ _ _ hx1) rfl rfl ⟨rfl, rfl, rfl, trivial⟩ Try.func115 rfl rfl) ?_
  rintro _ hp1 ⟨rfl, MT_1, T_1⟩
  have X_1 : Mod [some be0, some be1, some be2, ue2_3.ownBlock, ue2_4.ownBlock, some be3] h0 hp1 := Mod.step (A := []) (L := [boxO be0 [(.int .i64 ae0_0), (.int .i64 ae0_1), (.bool ae0_2), ue0_3, ue0_4], boxO be1 [(.int .i64 ae1_0)], boxO be2 [(.int .i64 ae2_0), (.int .i64 ae2_1), (.bool ae2_2), ue2_3, ue2_4], ownO (kF .f32) 40 ue2_3 ae2_3, ownO (kF .f32) 40 ue2_4 ae2_4, boxO be3 [ue3_0]]) (Mod.refl [some be0, some be1, some be2, ue2_3.ownBlock, ue2_4.ownBlock, some be3] h0) S0 MT_1
  have S_1 : Sep [some be0, some be1, some be2, ue2_3.ownBlock, ue2_4.ownBlock, some be3] h0.size hp1 [boxO be0 [(.int .i64 ae0_0), (.int .i64 ae0_1), (.bool ae0_2), ue0_3, ue0_4], boxO be1 [(.int .i64 ae1_0)], boxO be2 [(.int .i64 ae2_0), (.int .i64 ae2_1), (.bool ae2_2), ue2_3, ue2_4], ownO (kF .f32) 40 ue2_3 ae2_3, ownO (kF .f32) 40 ue2_4 ae2_4, boxO be3 [ue3_0]] := Sep.step (A := []) (L := [boxO be0 [(.int .i64 ae0_0), (.int .i64 ae0_1), (.bool ae0_2), ue0_3, ue0_4], boxO be1 [(.int .i64 ae1_0)], boxO be2 [(.int .i64 ae2_0), (.int .i64 ae2_1), (.bool ae2_2), ue2_3, ue2_4], ownO (kF .f32) 40 ue2_3 ae2_3, ownO (kF .f32) 40 ue2_4 ae2_4, boxO be3 [ue3_0]]) S0 (Mod.size (Mod.refl [some be0, some be1, some be2, ue2_3.ownBlock, ue2_4.ownBlock, some be3] h0)) MT_1 T_1
  refine RL.opD (by decide) (opv_assign rfl rfl) ?_
  refine RL.nil ?_
  refine thnN ?_
  refine W.seq ?_
  refine W.region ?_
  refine RL.opD (by decide) (opv_move rfl rfl) ?_
  refine RL.opD (by decide) (opv_loadB rfl Try.one2 rfl (Sep.at (o := boxO be1 [(.int .i64 ae1_0)]) S_1 1 rfl) rfl) ?_
  refine RL.opD (by decide) (opv_icmp rfl rfl rfl rfl) ?_
  refine RL.nil ?_
  refine thnN ?_
  obtain ⟨x2, hy1, hp⟩ := Option.bind_eq_some_iff.1 hp
  refine W.cut (fun φ' h' => Fr.sub [(0, (.int .i64 a0)), (1, (.int .i64 a1)), (2, (.int .i64 a2)), (3, (.pointer (some ⟨be0, 0, none⟩))), (4, (.pointer (some ⟨be1, 0, none⟩))), (5, (.pointer (some ⟨be2, 0, none⟩))), (6, (.pointer (some ⟨be3, 0, none⟩))), (10, (.int .i64 x1)), (19, (.bool (decide (x1 < ae1_0))))] φ' ∧ Mod [some be0, some be1, some be2, ue2_3.ownBlock, ue2_4.ownBlock, some be3] h0 h' ∧ Sep [some be0, some be1, some be2, ue2_3.ownBlock, ue2_4.ownBlock, some be3] h0.size h' [boxO be0 [(.int .i64 ae0_0), (.int .i64 ae0_1), (.bool ae0_2), ue0_3, ue0_4], boxO be1 [(.int .i64 ae1_0)], boxO be2 [(.int .i64 ae2_0), (.int .i64 ae2_1), (.bool ae2_2), ue2_3, ue2_4], ownO (kF .f32) 40 ue2_3 ae2_3, ownO (kF .f32) 40 ue2_4 x2, boxO be3 [ue3_0]]) ?_ ?_
  · by_cases c1 : (decide (x1 < ae1_0)) = true
    · rw [if_pos c1] at hy1
      refine W.condT rfl c1 ?_
      refine W.seq ?_
      refine W.region ?_
      refine RL.opD (by decide) (opv_loadB rfl Try.one2 rfl (Sep.at (o := boxO be1 [(.int .i64 ae1_0)]) S_1 1 rfl) rfl) ?_
      refine RL.opD (by decide) (opv_move rfl rfl) ?_
      refine RL.opD (by decide) (opv_sub rfl rfl rfl) ?_
      refine RL.opF (by decide) (opv_i2f rfl (by rw [Try.underlying2]; rfl) Try.underlying40 rfl) ?_
      intro v1 fv1
      refine RL.opD (by decide) (opv_loadB rfl Try.one2 rfl (Sep.at (o := boxO be1 [(.int .i64 ae1_0)]) S_1 1 rfl) rfl) ?_
      refine RL.opF (by decide) (opv_i2f rfl (by rw [Try.underlying2]; rfl) Try.underlying40 rfl) ?_
      intro v2 fv2
      refine RL.opF (by decide) (opv_fop rfl rfl rfl rfl fv1 fv2) ?_
      intro v3 fv3
      refine RL.opD (by decide) (opv_assign rfl rfl) ?_
      refine RL.nil ?_
      refine thnN ?_
      refine W.seq ?_
      obtain ⟨x3, hx3, hy1⟩ := Option.bind_eq_some_iff.1 hy1
      refine W.sub (ψ := [(0, (.int .i64 a0)), (1, (.int .i64 a1)), (2, (.int .i64 a2)), (3, (.pointer (some ⟨be0, 0, none⟩))), (4, (.pointer (some ⟨be1, 0, none⟩))), (5, (.pointer (some ⟨be2, 0, none⟩))), (6, (.pointer (some ⟨be3, 0, none⟩))), (10, (.int .i64 x1)), (19, (.bool (decide (x1 < ae1_0)))), (11, v3)]) ⟨rfl, rfl, rfl, rfl, rfl, rfl, rfl, rfl, rfl, rfl, trivial⟩ ?_
      refine W.regionP [fun v _ => @Eq Value (.pointer (some ⟨be2, 4, none⟩)) v, fun v _ => @Eq Value ue2_4 v, fun v _ => @Eq Value (.int .i64 a2) v, fun v _ => PtI 1 v ue2_4 (Int.toNat a2), fun v _ => IsF .f32 v x3, fun v _ => IsF .f32 v ae3_0, fun v _ => IsF .f32 v (fop .quo .f32 (fofi .f32 (IntKind.wrap .i64 (ae1_0 - x1))) (fofi .f32 ae1_0)), fun v _ => IsF .f32 v (fop .quo .f32 (fofi .f32 (IntKind.wrap .i64 (ae1_0 - x1))) (fofi .f32 ae1_0)), fun v _ => IsF .f32 v (fop .mul .f32 (fop .quo .f32 (fofi .f32 (IntKind.wrap .i64 (ae1_0 - x1))) (fofi .f32 ae1_0)) (fop .quo .f32 (fofi .f32 (IntKind.wrap .i64 (ae1_0 - x1))) (fofi .f32 ae1_0))), fun v _ => IsF .f32 v (fop .mul .f32 ae3_0 (fop .mul .f32 (fop .quo .f32 (fofi .f32 (IntKind.wrap .i64 (ae1_0 - x1))) (fofi .f32 ae1_0)) (fop .quo .f32 (fofi .f32 (IntKind.wrap .i64 (ae1_0 - x1))) (fofi .f32 ae1_0)))), fun v _ => IsF .f32 v (fop .add .f32 x3 (fop .mul .f32 ae3_0 (fop .mul .f32 (fop .quo .f32 (fofi .f32 (IntKind.wrap .i64 (ae1_0 - x1))) (fofi .f32 ae1_0)) (fop .quo .f32 (fofi .f32 (IntKind.wrap .i64 (ae1_0 - x1))) (fofi .f32 ae1_0))))), fun v _ => IsF .f32 v (fop .add .f32 x3 (fop .mul .f32 ae3_0 (fop .mul .f32 (fop .quo .f32 (fofi .f32 (IntKind.wrap .i64 (ae1_0 - x1))) (fofi .f32 ae1_0)) (fop .quo .f32 (fofi .f32 (IntKind.wrap .i64 (ae1_0 - x1))) (fofi .f32 ae1_0)))))] [[], [0], [], [1, 2], [3], [], [], [], [6, 7], [5, 8], [4, 9], [10]] [11] Try.mixed (by decide +kernel) (by decide +kernel) rfl rfl rfl ?_ ?_
      · refine ⟨⟨rfl, ?_⟩, ⟨rfl, ?_⟩, ⟨rfl, ?_⟩, ⟨rfl, ?_⟩, ⟨rfl, ?_⟩, ⟨rfl, ?_⟩, ⟨rfl, ?_⟩, ⟨rfl, ?_⟩, ⟨rfl, ?_⟩, ⟨rfl, ?_⟩, ⟨rfl, ?_⟩, ⟨rfl, ?_⟩, trivial⟩
        · rintro _ rfl
          refine Dep.nil ?_
          refine GuardOK.none rfl ?_
          exact OpV.toD (opv_fieldAddr rfl Try.fo29_4 rfl) rfl
        · rintro _ rfl _ rfl
          refine Dep.nil ?_
          refine GuardOK.none rfl ?_
          exact OpV.toD (opv_loadB rfl Try.one22 rfl (Sep.at (o := boxO be2 [(.int .i64 ae2_0), (.int .i64 ae2_1), (.bool ae2_2), ue2_3, ue2_4]) S_1 2 rfl) rfl) rfl
        · rintro _ rfl
          refine Dep.nil ?_
          refine GuardOK.none rfl ?_
          exact OpV.toD (opv_move rfl rfl) rfl
        · rintro _ rfl _ rfl _ rfl
          refine Dep.nil ?_
          refine GuardOK.none rfl ?_
          exact OpV.toS (opv_index rfl Try.underlying22 (by rw [Try.size40]; rfl) rfl rfl (ownO.read (Sep.at (o := ownO (kF .f32) 40 ue2_4 ae2_4) S_1 4 rfl)) hx3) (fun _ h => h)
        · rintro _ rfl v4 fv4
          refine Dep.nil ?_
          refine GuardOK.none rfl ?_
          exact OpV.toS (opv_loadF rfl Try.one40 rfl fv4 (ownO.read (Sep.at (o := ownO (kF .f32) 40 ue2_4 ae2_4) S_1 4 rfl)) hx3) (fun _ h => h)
        · rintro _ rfl
          refine Dep.nil ?_
          refine GuardOK.none rfl ?_
          exact OpV.toD (opv_loadB rfl Try.one40 rfl (Sep.at (o := boxO be3 [ue3_0]) S_1 5 rfl) rfl) ge3_0
        · rintro _ rfl
          refine Dep.nil ?_
          refine GuardOK.none rfl ?_
          exact OpV.toD (opv_move rfl rfl) fv3
        · rintro _ rfl
          refine Dep.nil ?_
          refine GuardOK.none rfl ?_
          exact OpV.toD (opv_move rfl rfl) fv3
        · rintro _ rfl v7 fv7 v8 fv8
          refine Dep.nil ?_
          refine GuardOK.none rfl ?_
          exact OpV.toS (opv_fop rfl rfl rfl rfl fv7 fv8) (fun _ h => h)
        · rintro _ rfl v6 fv6 v9 fv9
          refine Dep.nil ?_
          refine GuardOK.none rfl ?_
          exact OpV.toS (opv_fop rfl rfl rfl rfl fv6 fv9) (fun _ h => h)
        · rintro _ rfl v5 fv5 v10 fv10
          refine Dep.nil ?_
          refine GuardOK.none rfl ?_
          exact OpV.toS (opv_fop rfl rfl rfl rfl fv5 fv10) (fun _ h => h)
        · rintro _ rfl v11 fv11
          refine Dep.nil ?_
          refine GuardOK.none rfl ?_
          exact OpV.toD (opv_assign rfl rfl) fv11
      rintro v12 fv12
      refine Dep.nil ?_
      show RL _ _ _ _ [] _ _
      refine RL.nil ?_
      refine thnN ?_
      refine W.seq ?_
      refine W.seq ?_
      refine W.region ?_
      refine RL.opD (by decide) (opv_move rfl rfl) ?_
      refine RL.opD (by decide) (opv_fcmp rfl rfl rfl rfl fv12 (isF_lit .f32 1065353216 (by decide) (by decide))) ?_
      refine RL.nil ?_
      refine thnN ?_
      obtain ⟨x4, hy2, hy1⟩ := Option.bind_eq_some_iff.1 hy1
      refine W.cut (fun φ' h' => ∃ v13, Fr.sub [(0, (.int .i64 a0)), (1, (.int .i64 a1)), (2, (.int .i64 a2)), (3, (.pointer (some ⟨be0, 0, none⟩))), (4, (.pointer (some ⟨be1, 0, none⟩))), (5, (.pointer (some ⟨be2, 0, none⟩))), (6, (.pointer (some ⟨be3, 0, none⟩))), (10, (.int .i64 x1)), (19, (.bool (decide (x1 < ae1_0)))), (11, v3), (39, (.bool (fcmp .gtr .f32 (fop .add .f32 x3 (fop .mul .f32 ae3_0 (fop .mul .f32 (fop .quo .f32 (fofi .f32 (IntKind.wrap .i64 (ae1_0 - x1))) (fofi .f32 ae1_0)) (fop .quo .f32 (fofi .f32 (IntKind.wrap .i64 (ae1_0 - x1))) (fofi .f32 ae1_0))))) (some 1065353216)))), (12, v13)] φ' ∧ IsF .f32 v13 x4 ∧ hp1 = h') ?_ ?_
      · by_cases c2 : (fcmp .gtr .f32 (fop .add .f32 x3 (fop .mul .f32 ae3_0 (fop .mul .f32 (fop .quo .f32 (fofi .f32 (IntKind.wrap .i64 (ae1_0 - x1))) (fofi .f32 ae1_0)) (fop .quo .f32 (fofi .f32 (IntKind.wrap .i64 (ae1_0 - x1))) (fofi .f32 ae1_0))))) (some 1065353216)) = true
        · rw [if_pos c2] at hy2
          refine W.condT rfl c2 ?_
          refine W.region ?_
          refine RL.opD (by decide) (opv_assign rfl rfl) ?_
          refine RL.nil ?_
          have ey2 := Option.some.inj hy2
          subst ey2
          refine onlyN ?_
          exact ⟨(.float .f32 1065353216), ⟨rfl, rfl, rfl, rfl, rfl, rfl, rfl, rfl, rfl, rfl, rfl, rfl, trivial⟩, (isF_lit .f32 1065353216 (by decide) (by decide)), rfl⟩
        · rw [if_neg c2] at hy2
          have c2 := eq_false_of_ne_true c2
          refine W.condF rfl c2 ?_
          refine W.skip ?_
          have ey2 := Option.some.inj hy2
          subst ey2
          refine onlyN ?_
          exact ⟨v12, ⟨rfl, rfl, rfl, rfl, rfl, rfl, rfl, rfl, rfl, rfl, rfl, rfl, trivial⟩, fv12, rfl⟩
      rintro φ' _ ⟨v13, hs2, fv13, rfl⟩
      refine thnN ?_
      refine W.sub hs2 ?_
      obtain ⟨x5, hx5, hy1⟩ := Option.bind_eq_some_iff.1 hy1
      obtain ⟨x6, hx6, hy1⟩ := Option.bind_eq_some_iff.1 hy1
      refine W.region ?_
      refine RL.opD (by decide) (opv_fieldAddr rfl Try.fo29_4 rfl) ?_
      refine RL.opD (by decide) (opv_loadB rfl Try.one22 rfl (Sep.at (o := boxO be2 [(.int .i64 ae2_0), (.int .i64 ae2_1), (.bool ae2_2), ue2_3, ue2_4]) S_1 2 rfl) rfl) ?_
      refine RL.opD (by decide) (opv_move rfl rfl) ?_
      refine RL.opD (by decide) (opv_move rfl rfl) ?_
      refine RL.op _ (by decide) (opv_index rfl Try.underlying22 (by rw [Try.size40]; rfl) rfl rfl (ownO.read (Sep.at (o := ownO (kF .f32) 40 ue2_4 ae2_4) S_1 4 rfl)) hx5) ?_
      rintro v14 _ ⟨fv14, rfl⟩
      refine RL.op0 _ (opS_storeE (K := (kF .f32)) rfl Try.size40 rfl rfl fv14 rfl ⟨_, rfl, fv13⟩ hx6 (Sep.at (o := ownO (kF .f32) 40 ue2_4 ae2_4) S_1 4 rfl)) ?_
      rintro _ hp2 ⟨rfl, MT_2, T_2⟩
      have S_2 : Sep [some be0, some be1, some be2, ue2_3.ownBlock, ue2_4.ownBlock, some be3] h0.size hp1 ([ownO (kF .f32) 40 ue2_4 ae2_4] ++ [boxO be0 [(.int .i64 ae0_0), (.int .i64 ae0_1), (.bool ae0_2), ue0_3, ue0_4], boxO be1 [(.int .i64 ae1_0)], boxO be2 [(.int .i64 ae2_0), (.int .i64 ae2_1), (.bool ae2_2), ue2_3, ue2_4], ownO (kF .f32) 40 ue2_3 ae2_3, boxO be3 [ue3_0]]) := Sep.sel S_1 [4, 0, 1, 2, 3, 5] (by decide)
      have X_2 : Mod [some be0, some be1, some be2, ue2_3.ownBlock, ue2_4.ownBlock, some be3] h0 hp2 := Mod.step (A := [ownO (kF .f32) 40 ue2_4 ae2_4]) (L := [boxO be0 [(.int .i64 ae0_0), (.int .i64 ae0_1), (.bool ae0_2), ue0_3, ue0_4], boxO be1 [(.int .i64 ae1_0)], boxO be2 [(.int .i64 ae2_0), (.int .i64 ae2_1), (.bool ae2_2), ue2_3, ue2_4], ownO (kF .f32) 40 ue2_3 ae2_3, boxO be3 [ue3_0]]) X_1 S_2 MT_2
      have S_3 : Sep [some be0, some be1, some be2, ue2_3.ownBlock, ue2_4.ownBlock, some be3] h0.size hp2 [ownO (kF .f32) 40 ue2_4 x6, boxO be0 [(.int .i64 ae0_0), (.int .i64 ae0_1), (.bool ae0_2), ue0_3, ue0_4], boxO be1 [(.int .i64 ae1_0)], boxO be2 [(.int .i64 ae2_0), (.int .i64 ae2_1), (.bool ae2_2), ue2_3, ue2_4], ownO (kF .f32) 40 ue2_3 ae2_3, boxO be3 [ue3_0]] := Sep.step (A := [ownO (kF .f32) 40 ue2_4 ae2_4]) (L := [boxO be0 [(.int .i64 ae0_0), (.int .i64 ae0_1), (.bool ae0_2), ue0_3, ue0_4], boxO be1 [(.int .i64 ae1_0)], boxO be2 [(.int .i64 ae2_0), (.int .i64 ae2_1), (.bool ae2_2), ue2_3, ue2_4], ownO (kF .f32) 40 ue2_3 ae2_3, boxO be3 [ue3_0]]) S_2 (Mod.size X_1) MT_2 T_2
      refine RL.nil ?_
      have ey1 := Option.some.inj hy1
      subst ey1
      refine onlyN ?_
      exact ⟨⟨rfl, rfl, rfl, rfl, rfl, rfl, rfl, rfl, rfl, trivial⟩, X_2, (Sep.sel S_3 [1, 2, 3, 4, 0, 5] (by decide))⟩
    · rw [if_neg c1] at hy1
      have c1 := eq_false_of_ne_true c1
      refine W.condF rfl c1 ?_
      refine W.skip ?_
      have ey1 := Option.some.inj hy1
      subst ey1
      refine onlyN ?_
      exact ⟨⟨rfl, rfl, rfl, rfl, rfl, rfl, rfl, rfl, rfl, trivial⟩, X_1, (Sep.sel S_1 [0, 1, 2, 3, 4, 5] (by decide))⟩
  rintro φ' hp3 ⟨hs1, X_3, S_4⟩
  have er := Option.some.inj hp
  subst er
  exact Rt.none' rfl ⟨ue3_0, rfl, ge3_0, X_3, (Sep.sel S_4 [0, 1, 2, 3, 4, 5] (by decide))⟩

set_option maxRecDepth 20000 in
theorem impl_Sheet_each__impl_GradeLosses_1_ok (h0 : Heap) (lo : Nat) (hlo : lo ≤ h0.size) (a0_0 : Int) (a0_1 : Int) (a0_2 : Bool) (u0_3 : Value) (a0_3 : List (Option Nat)) (g0_3 : SL (kF .f32) lo h0 u0_3 a0_3) (u0_4 : Value) (a0_4 : List (Option Nat)) (g0_4 : SL (kF .f32) lo h0 u0_4 a0_4) (be0 : Nat) (ae0_0 : Int) (ae0_1 : Int) (ae0_2 : Bool) (ue0_3 : Value) (ae0_3 : List (Option Nat)) (ge0_3 : SL (kF .f32) lo h0 ue0_3 ae0_3) (ue0_4 : Value) (ae0_4 : List (Option Nat)) (ge0_4 : SL (kF .f32) lo h0 ue0_4 ae0_4) (be1 : Nat) (ae1_0 : Int) (be2 : Nat) (ae2_0 : Int) (ae2_1 : Int) (ae2_2 : Bool) (ue2_3 : Value) (ae2_3 : List (Option Nat)) (ue2_4 : Value) (ae2_4 : List (Option Nat)) (be3 : Nat) (ue3_0 : Value) (ae3_0 : Option Nat) (ge3_0 : IsF .f32 ue3_0 ae3_0) (S0 : Sep [some be0, some be1, some be2, ue2_3.ownBlock, ue2_4.ownBlock, some be3] h0.size h0 [boxO be0 [(.int .i64 ae0_0), (.int .i64 ae0_1), (.bool ae0_2), ue0_3, ue0_4], boxO be1 [(.int .i64 ae1_0)], boxO be2 [(.int .i64 ae2_0), (.int .i64 ae2_1), (.bool ae2_2), ue2_3, ue2_4], ownO (kF .f32) 40 ue2_3 ae2_3, ownO (kF .f32) 40 ue2_4 ae2_4, boxO be3 [ue3_0]]) (hB : ∀ b, some b ∈ [some be0, some be1, some be2, ue2_3.ownBlock, ue2_4.ownBlock, some be3] → lo ≤ b) (r : (Int × Int × Bool × Int × Int × Int × Bool × (List (Option Nat)) × (List (Option Nat)) × (Option Nat))) (hp : impl_Sheet_each__impl_GradeLosses_1 a0_0 a0_1 a0_2 a0_3 a0_4 ae0_0 ae0_1 ae0_2 ae0_3 ae0_4 ae1_0 ae2_0 ae2_1 ae2_2 ae2_3 ae2_4 ae3_0 = some r) : CallsH Try.prog 99 ([(.agg (List.toArray (α := Value) [(.int .i64 a0_0), (.int .i64 a0_1), (.bool a0_2), u0_3, u0_4])), (.func (.func 114) #[] [(.pointer (some ⟨be0, 0, none⟩)), (.pointer (some ⟨be1, 0, none⟩)), (.pointer (some ⟨be2, 0, none⟩)), (.pointer (some ⟨be3, 0, none⟩))].toArray)].toArray ++ [].toArray) h0 (fun v h' => ∃ w9, v = (.tuple (List.toArray (α := Value) [])) ∧ IsF .f32 w9 r.2.2.2.2.2.2.2.2.2 ∧ Mod [some be0, some be1, some be2, ue2_3.ownBlock, ue2_4.ownBlock, some be3] h0 h' ∧ Sep [some be0, some be1, some be2, ue2_3.ownBlock, ue2_4.ownBlock, some be3] h0.size h' [boxO be0 [(.int .i64 r.1), (.int .i64 r.2.1), (.bool r.2.2.1), ue0_3, ue0_4], boxO be1 [(.int .i64 r.2.2.2.1)], boxO be2 [(.int .i64 r.2.2.2.2.1), (.int .i64 r.2.2.2.2.2.1), (.bool r.2.2.2.2.2.2.1), ue2_3, ue2_4], ownO (kF .f32) 40 ue2_3 r.2.2.2.2.2.2.2.1, ownO (kF .f32) 40 ue2_4 r.2.2.2.2.2.2.2.2.1, boxO be3 [w9]]) := by
  unfold impl_Sheet_each__impl_GradeLosses_1 at hp
  refine callsH_of_W (l := [(.agg (List.toArray (α := Value) [(.int .i64 a0_0), (.int .i64 a0_1), (.bool a0_2), u0_3, u0_4])), (.func (.func 114) #[] [(.pointer (some ⟨be0, 0, none⟩)), (.pointer (some ⟨be1, 0, none⟩)), (.pointer (some ⟨be2, 0, none⟩)), (.pointer (some ⟨be3, 0, none⟩))].toArray)]) (cap := []) 26 Try.func99 rfl rfl rfl ?_
  refine W.seq ?_
  refine W.region ?_
  refine RL.op _ (by decide) (opS_boxed (opv_boxA (cs := [(.int .i64 a0_0), (.int .i64 a0_1), (.bool a0_2), u0_3, u0_4]) rfl rfl)) ?_
  rintro _ hp1 ⟨bb1, rfl, MT_1, T_1⟩
  have X_1 : Mod [some be0, some be1, some be2, ue2_3.ownBlock, ue2_4.ownBlock, some be3] h0 hp1 := Mod.step (A := []) (L := [boxO be0 [(.int .i64 ae0_0), (.int .i64 ae0_1), (.bool ae0_2), ue0_3, ue0_4], boxO be1 [(.int .i64 ae1_0)], boxO be2 [(.int .i64 ae2_0), (.int .i64 ae2_1), (.bool ae2_2), ue2_3, ue2_4], ownO (kF .f32) 40 ue2_3 ae2_3, ownO (kF .f32) 40 ue2_4 ae2_4, boxO be3 [ue3_0]]) (Mod.refl [some be0, some be1, some be2, ue2_3.ownBlock, ue2_4.ownBlock, some be3] h0) S0 MT_1
  have S_1 : Sep [some be0, some be1, some be2, ue2_3.ownBlock, ue2_4.ownBlock, some be3] h0.size hp1 [boxO bb1 [(.int .i64 a0_0), (.int .i64 a0_1), (.bool a0_2), u0_3, u0_4], boxO be0 [(.int .i64 ae0_0), (.int .i64 ae0_1), (.bool ae0_2), ue0_3, ue0_4], boxO be1 [(.int .i64 ae1_0)], boxO be2 [(.int .i64 ae2_0), (.int .i64 ae2_1), (.bool ae2_2), ue2_3, ue2_4], ownO (kF .f32) 40 ue2_3 ae2_3, ownO (kF .f32) 40 ue2_4 ae2_4, boxO be3 [ue3_0]] := Sep.step (A := []) (L := [boxO be0 [(.int .i64 ae0_0), (.int .i64 ae0_1), (.bool ae0_2), ue0_3, ue0_4], boxO be1 [(.int .i64 ae1_0)], boxO be2 [(.int .i64 ae2_0), (.int .i64 ae2_1), (.bool ae2_2), ue2_3, ue2_4], ownO (kF .f32) 40 ue2_3 ae2_3, ownO (kF .f32) 40 ue2_4 ae2_4, boxO be3 [ue3_0]]) S0 (Mod.size (Mod.refl [some be0, some be1, some be2, ue2_3.ownBlock, ue2_4.ownBlock, some be3] h0)) MT_1 T_1
  refine RL.nil ?_
  refine thnN ?_
  refine W.seq ?_
  refine W.region ?_
  refine RL.opD (by decide) (opv_fieldAddr rfl Try.fo29_1 rfl) ?_
  refine RL.opD (by decide) (opv_loadB rfl Try.one2 rfl (Sep.at (o := boxO bb1 [(.int .i64 a0_0), (.int .i64 a0_1), (.bool a0_2), u0_3, u0_4]) S_1 0 rfl) rfl) ?_
  refine RL.opD (by decide) (opv_move rfl rfl) ?_
  refine RL.nil ?_
  refine thnN ?_
  obtain ⟨y1, hy1, hp⟩ := Option.bind_eq_some_iff.1 hp
  refine W.cut (fun φ' h' => ∃ x12, ∃ x13, ∃ x14, ∃ x15, ∃ x16, ∃ x17, ∃ x18, ∃ x19, ∃ x20, ∃ x21, ∃ x22, ∃ x23, ∃ v2, y1 = (x12, x13, x14, x15, x16, x17, x18, x19, x20, x21, x22, x23) ∧ Fr.sub [(0, (.agg (List.toArray (α := Value) [(.int .i64 a0_0), (.int .i64 a0_1), (.bool a0_2), u0_3, u0_4]))), (1, (.func (.func 114) #[] [(.pointer (some ⟨be0, 0, none⟩)), (.pointer (some ⟨be1, 0, none⟩)), (.pointer (some ⟨be2, 0, none⟩)), (.pointer (some ⟨be3, 0, none⟩))].toArray)), (2, (.pointer (some ⟨bb1, 0, none⟩))), (7, (.int .i64 a0_1)), (8, (.int .i64 x12)), (9, (.bool x13))] φ' ∧ IsF .f32 v2 x23 ∧ Mod [some be0, some be1, some be2, ue2_3.ownBlock, ue2_4.ownBlock, some be3] h0 h' ∧ Sep [some be0, some be1, some be2, ue2_3.ownBlock, ue2_4.ownBlock, some be3] h0.size h' [boxO bb1 [(.int .i64 a0_0), (.int .i64 a0_1), (.bool a0_2), u0_3, u0_4], boxO be0 [(.int .i64 x14), (.int .i64 x15), (.bool x16), ue0_3, ue0_4], boxO be1 [(.int .i64 x17)], boxO be2 [(.int .i64 x18), (.int .i64 x19), (.bool x20), ue2_3, ue2_4], ownO (kF .f32) 40 ue2_3 x21, ownO (kF .f32) 40 ue2_4 x22, boxO be3 [v2]]) ?_ ?_
  · refine W.block ?_
    refine W.loopS (fun (s : (Int × Int × Int × Bool × Int × Int × Int × Bool × (List (Option Nat)) × (List (Option Nat)) × (Option Nat))) φ' h' => ∃ v1, Fr.sub [(0, (.agg (List.toArray (α := Value) [(.int .i64 a0_0), (.int .i64 a0_1), (.bool a0_2), u0_3, u0_4]))), (1, (.func (.func 114) #[] [(.pointer (some ⟨be0, 0, none⟩)), (.pointer (some ⟨be1, 0, none⟩)), (.pointer (some ⟨be2, 0, none⟩)), (.pointer (some ⟨be3, 0, none⟩))].toArray)), (2, (.pointer (some ⟨bb1, 0, none⟩))), (7, (.int .i64 a0_1)), (8, (.int .i64 s.1))] φ' ∧ IsF .f32 v1 s.2.2.2.2.2.2.2.2.2.2 ∧ Mod [some be0, some be1, some be2, ue2_3.ownBlock, ue2_4.ownBlock, some be3] h0 h' ∧ Sep [some be0, some be1, some be2, ue2_3.ownBlock, ue2_4.ownBlock, some be3] h0.size h' [boxO bb1 [(.int .i64 a0_0), (.int .i64 a0_1), (.bool a0_2), u0_3, u0_4], boxO be0 [(.int .i64 s.2.1), (.int .i64 s.2.2.1), (.bool s.2.2.2.1), ue0_3, ue0_4], boxO be1 [(.int .i64 s.2.2.2.2.1)], boxO be2 [(.int .i64 s.2.2.2.2.2.1), (.int .i64 s.2.2.2.2.2.2.1), (.bool s.2.2.2.2.2.2.2.1), ue2_3, ue2_4], ownO (kF .f32) 40 ue2_3 s.2.2.2.2.2.2.2.2.1, ownO (kF .f32) 40 ue2_4 s.2.2.2.2.2.2.2.2.2.1, boxO be3 [v1]]) hy1 ⟨ue3_0, ⟨rfl, rfl, rfl, rfl, rfl, trivial⟩, ge3_0, X_1, (Sep.sel S_1 [0, 1, 2, 3, 4, 5, 6] (by decide))⟩ ?_
    rintro ⟨x1, x2, x3, x4, x5, x6, x7, x8, x9, x10, x11⟩ φ' hp2 o1 ⟨v1, hs1, fv1, X_2, S_2⟩ ho1 hy1
    have hs1 : Fr.sub [(0, (.agg (List.toArray (α := Value) [(.int .i64 a0_0), (.int .i64 a0_1), (.bool a0_2), u0_3, u0_4]))), (1, (.func (.func 114) #[] [(.pointer (some ⟨be0, 0, none⟩)), (.pointer (some ⟨be1, 0, none⟩)), (.pointer (some ⟨be2, 0, none⟩)), (.pointer (some ⟨be3, 0, none⟩))].toArray)), (2, (.pointer (some ⟨bb1, 0, none⟩))), (7, (.int .i64 a0_1)), (8, (.int .i64 x1))] φ' := hs1
    have fv1 : IsF .f32 v1 x11 := fv1
    have S_2 : Sep [some be0, some be1, some be2, ue2_3.ownBlock, ue2_4.ownBlock, some be3] h0.size hp2 [boxO bb1 [(.int .i64 a0_0), (.int .i64 a0_1), (.bool a0_2), u0_3, u0_4], boxO be0 [(.int .i64 x2), (.int .i64 x3), (.bool x4), ue0_3, ue0_4], boxO be1 [(.int .i64 x5)], boxO be2 [(.int .i64 x6), (.int .i64 x7), (.bool x8), ue2_3, ue2_4], ownO (kF .f32) 40 ue2_3 x9, ownO (kF .f32) 40 ue2_4 x10, boxO be3 [v1]] := S_2
    have ho1 : impl_Sheet_each__impl_GradeLosses_1.s0 a0_0 a0_1 a0_2 a0_3 a0_4 ae0_3 ae0_4 x1 x2 x3 x4 x5 x6 x7 x8 x9 x10 x11 = some o1 := ho1
    unfold impl_Sheet_each__impl_GradeLosses_1.s0 at ho1
    refine W.sub hs1 ?_
    refine W.seq ?_
    refine W.region ?_
    refine RL.opD (by decide) (opv_icmp rfl rfl rfl rfl) ?_
    refine RL.nil ?_
    refine thnN ?_
    refine W.seq ?_
    by_cases c1 : (decide (x1 < a0_1)) = true
    · rw [if_pos c1] at ho1
      refine W.condT rfl c1 ?_
      refine W.skip ?_
      refine thnN ?_
      refine W.seq ?_
      refine W.block ?_
      refine W.seq ?_
      refine W.region ?_
      refine RL.opD (by decide) (opv_move rfl rfl) ?_
      refine RL.opD (by decide) (opv_assign rfl rfl) ?_
      refine RL.nil ?_
      refine thnN ?_
      refine W.seq ?_
      refine W.region ?_
      refine RL.opD (by decide) (opv_fieldAddr rfl Try.fo29_0 rfl) ?_
      refine RL.opD (by decide) (opv_loadB rfl Try.one2 rfl (Sep.at (o := boxO bb1 [(.int .i64 a0_0), (.int .i64 a0_1), (.bool a0_2), u0_3, u0_4]) S_2 0 rfl) rfl) ?_
      refine RL.opD (by decide) (opv_move rfl rfl) ?_
      refine RL.nil ?_
      refine thnN ?_
      obtain ⟨y2, hy2, ho1⟩ := Option.bind_eq_some_iff.1 ho1
      refine W.cut (fun φ' h' => ∃ x35, ∃ x36, ∃ x37, ∃ x38, ∃ x39, ∃ x40, ∃ x41, ∃ x42, ∃ x43, ∃ x44, ∃ x45, ∃ x46, ∃ v4, y2 = (x35, x36, x37, x38, x39, x40, x41, x42, x43, x44, x45, x46) ∧ Fr.sub [(0, (.agg (List.toArray (α := Value) [(.int .i64 a0_0), (.int .i64 a0_1), (.bool a0_2), u0_3, u0_4]))), (1, (.func (.func 114) #[] [(.pointer (some ⟨be0, 0, none⟩)), (.pointer (some ⟨be1, 0, none⟩)), (.pointer (some ⟨be2, 0, none⟩)), (.pointer (some ⟨be3, 0, none⟩))].toArray)), (2, (.pointer (some ⟨bb1, 0, none⟩))), (7, (.int .i64 a0_1)), (8, (.int .i64 x1)), (9, (.bool (decide (x1 < a0_1)))), (4, (.int .i64 x1)), (12, (.int .i64 a0_0)), (13, (.int .i64 x35)), (14, (.bool x36))] φ' ∧ IsF .f32 v4 x46 ∧ Mod [some be0, some be1, some be2, ue2_3.ownBlock, ue2_4.ownBlock, some be3] h0 h' ∧ Sep [some be0, some be1, some be2, ue2_3.ownBlock, ue2_4.ownBlock, some be3] h0.size h' [boxO bb1 [(.int .i64 a0_0), (.int .i64 a0_1), (.bool a0_2), u0_3, u0_4], boxO be0 [(.int .i64 x37), (.int .i64 x38), (.bool x39), ue0_3, ue0_4], boxO be1 [(.int .i64 x40)], boxO be2 [(.int .i64 x41), (.int .i64 x42), (.bool x43), ue2_3, ue2_4], ownO (kF .f32) 40 ue2_3 x44, ownO (kF .f32) 40 ue2_4 x45, boxO be3 [v4]]) ?_ ?_
      · refine W.block ?_
        refine W.loopS (fun (s : (Int × Int × Int × Bool × Int × Int × Int × Bool × (List (Option Nat)) × (List (Option Nat)) × (Option Nat))) φ' h' => ∃ v3, Fr.sub [(0, (.agg (List.toArray (α := Value) [(.int .i64 a0_0), (.int .i64 a0_1), (.bool a0_2), u0_3, u0_4]))), (1, (.func (.func 114) #[] [(.pointer (some ⟨be0, 0, none⟩)), (.pointer (some ⟨be1, 0, none⟩)), (.pointer (some ⟨be2, 0, none⟩)), (.pointer (some ⟨be3, 0, none⟩))].toArray)), (2, (.pointer (some ⟨bb1, 0, none⟩))), (7, (.int .i64 a0_1)), (8, (.int .i64 x1)), (9, (.bool (decide (x1 < a0_1)))), (4, (.int .i64 x1)), (12, (.int .i64 a0_0)), (13, (.int .i64 s.1))] φ' ∧ IsF .f32 v3 s.2.2.2.2.2.2.2.2.2.2 ∧ Mod [some be0, some be1, some be2, ue2_3.ownBlock, ue2_4.ownBlock, some be3] h0 h' ∧ Sep [some be0, some be1, some be2, ue2_3.ownBlock, ue2_4.ownBlock, some be3] h0.size h' [boxO bb1 [(.int .i64 a0_0), (.int .i64 a0_1), (.bool a0_2), u0_3, u0_4], boxO be0 [(.int .i64 s.2.1), (.int .i64 s.2.2.1), (.bool s.2.2.2.1), ue0_3, ue0_4], boxO be1 [(.int .i64 s.2.2.2.2.1)], boxO be2 [(.int .i64 s.2.2.2.2.2.1), (.int .i64 s.2.2.2.2.2.2.1), (.bool s.2.2.2.2.2.2.2.1), ue2_3, ue2_4], ownO (kF .f32) 40 ue2_3 s.2.2.2.2.2.2.2.2.1, ownO (kF .f32) 40 ue2_4 s.2.2.2.2.2.2.2.2.2.1, boxO be3 [v3]]) hy2 ⟨v1, ⟨rfl, rfl, rfl, rfl, rfl, rfl, rfl, rfl, rfl, trivial⟩, fv1, X_2, (Sep.sel S_2 [0, 1, 2, 3, 4, 5, 6] (by decide))⟩ ?_
        rintro ⟨x24, x25, x26, x27, x28, x29, x30, x31, x32, x33, x34⟩ φ' hp3 o2 ⟨v3, hs3, fv3, X_3, S_3⟩ ho2 hy2
        have hs3 : Fr.sub [(0, (.agg (List.toArray (α := Value) [(.int .i64 a0_0), (.int .i64 a0_1), (.bool a0_2), u0_3, u0_4]))), (1, (.func (.func 114) #[] [(.pointer (some ⟨be0, 0, none⟩)), (.pointer (some ⟨be1, 0, none⟩)), (.pointer (some ⟨be2, 0, none⟩)), (.pointer (some ⟨be3, 0, none⟩))].toArray)), (2, (.pointer (some ⟨bb1, 0, none⟩))), (7, (.int .i64 a0_1)), (8, (.int .i64 x1)), (9, (.bool (decide (x1 < a0_1)))), (4, (.int .i64 x1)), (12, (.int .i64 a0_0)), (13, (.int .i64 x24))] φ' := hs3
        have fv3 : IsF .f32 v3 x34 := fv3
        have S_3 : Sep [some be0, some be1, some be2, ue2_3.ownBlock, ue2_4.ownBlock, some be3] h0.size hp3 [boxO bb1 [(.int .i64 a0_0), (.int .i64 a0_1), (.bool a0_2), u0_3, u0_4], boxO be0 [(.int .i64 x25), (.int .i64 x26), (.bool x27), ue0_3, ue0_4], boxO be1 [(.int .i64 x28)], boxO be2 [(.int .i64 x29), (.int .i64 x30), (.bool x31), ue2_3, ue2_4], ownO (kF .f32) 40 ue2_3 x32, ownO (kF .f32) 40 ue2_4 x33, boxO be3 [v3]] := S_3
        have ho2 : impl_Sheet_each__impl_GradeLosses_1.s1 a0_0 a0_1 a0_2 a0_3 a0_4 ae0_3 ae0_4 x1 x24 x25 x26 x27 x28 x29 x30 x31 x32 x33 x34 = some o2 := ho2
        unfold impl_Sheet_each__impl_GradeLosses_1.s1 at ho2
        refine W.sub hs3 ?_
        refine W.seq ?_
        refine W.region ?_
        refine RL.opD (by decide) (opv_icmp rfl rfl rfl rfl) ?_
        refine RL.nil ?_
        refine thnN ?_
        refine W.seq ?_
        by_cases c2 : (decide (x24 < a0_0)) = true
        · rw [if_pos c2] at ho2
          refine W.condT rfl c2 ?_
          refine W.skip ?_
          refine thnN ?_
          refine W.seq ?_
          refine W.block ?_
          refine W.seq ?_
          refine W.region ?_
          refine RL.opD (by decide) (opv_move rfl rfl) ?_
          refine RL.opD (by decide) (opv_assign rfl rfl) ?_
          refine RL.nil ?_
          refine thnN ?_
          obtain ⟨x47, hx47, ho2⟩ := Option.bind_eq_some_iff.1 ho2
          obtain ⟨x48, hx48, ho2⟩ := Option.bind_eq_some_iff.1 ho2
          refine W.region ?_
          refine RL.opD (by decide) (opv_move rfl rfl) ?_
          refine RL.opD (by decide) (opv_move rfl rfl) ?_
          refine RL.opD (by decide) (opv_move rfl rfl) ?_
          refine RL.opD (by decide) (opv_loadA (us := [(.int .i64 a0_0), (.int .i64 a0_1), (.bool a0_2), u0_3, u0_4]) rfl Try.agg29 Try.size29 rfl (Sep.at (o := boxO bb1 [(.int .i64 a0_0), (.int .i64 a0_1), (.bool a0_2), u0_3, u0_4]) S_3 0 rfl) rfl rfl) ?_
          refine RL.opD (by decide) (opv_move rfl rfl) ?_
          refine RL.opD (by decide) (opv_move rfl rfl) ?_
          refine RL.op _ (by decide) (opv_call (cap := []) (impl_Sheet_at_ok _ _ _ _ _ _ (SL.up (SL.mod g0_3 X_3 hlo hB) (Nat.le_trans hlo (Mod.size X_3))) _ _ (SL.up (SL.mod g0_4 X_3 hlo hB) (Nat.le_trans hlo (Mod.size X_3))) _ _ _ hx47) rfl rfl ⟨rfl, rfl, rfl, trivial⟩ Try.func92 rfl rfl) ?_
          rintro _ hp4 ⟨rfl, MT_2, T_2⟩
          have X_4 : Mod [some be0, some be1, some be2, ue2_3.ownBlock, ue2_4.ownBlock, some be3] h0 hp4 := Mod.step (A := []) (L := [boxO bb1 [(.int .i64 a0_0), (.int .i64 a0_1), (.bool a0_2), u0_3, u0_4], boxO be0 [(.int .i64 x25), (.int .i64 x26), (.bool x27), ue0_3, ue0_4], boxO be1 [(.int .i64 x28)], boxO be2 [(.int .i64 x29), (.int .i64 x30), (.bool x31), ue2_3, ue2_4], ownO (kF .f32) 40 ue2_3 x32, ownO (kF .f32) 40 ue2_4 x33, boxO be3 [v3]]) X_3 S_3 MT_2
          have S_4 : Sep [some be0, some be1, some be2, ue2_3.ownBlock, ue2_4.ownBlock, some be3] h0.size hp4 [boxO bb1 [(.int .i64 a0_0), (.int .i64 a0_1), (.bool a0_2), u0_3, u0_4], boxO be0 [(.int .i64 x25), (.int .i64 x26), (.bool x27), ue0_3, ue0_4], boxO be1 [(.int .i64 x28)], boxO be2 [(.int .i64 x29), (.int .i64 x30), (.bool x31), ue2_3, ue2_4], ownO (kF .f32) 40 ue2_3 x32, ownO (kF .f32) 40 ue2_4 x33, boxO be3 [v3]] := Sep.step (A := []) (L := [boxO bb1 [(.int .i64 a0_0), (.int .i64 a0_1), (.bool a0_2), u0_3, u0_4], boxO be0 [(.int .i64 x25), (.int .i64 x26), (.bool x27), ue0_3, ue0_4], boxO be1 [(.int .i64 x28)], boxO be2 [(.int .i64 x29), (.int .i64 x30), (.bool x31), ue2_3, ue2_4], ownO (kF .f32) 40 ue2_3 x32, ownO (kF .f32) 40 ue2_4 x33, boxO be3 [v3]]) S_3 (Mod.size X_3) MT_2 T_2
          have S_6 : Sep [some be0, some be1, some be2, ue2_3.ownBlock, ue2_4.ownBlock, some be3] h0.size hp4 [boxO be0 [(.int .i64 x25), (.int .i64 x26), (.bool x27), ue0_3, ue0_4], boxO be1 [(.int .i64 x28)], boxO be2 [(.int .i64 x29), (.int .i64 x30), (.bool x31), ue2_3, ue2_4], ownO (kF .f32) 40 ue2_3 x32, ownO (kF .f32) 40 ue2_4 x33, boxO be3 [v3]] := Sep.sel S_4 [1, 2, 3, 4, 5, 6] (by decide)
          have S_5 : Sep [some be0, some be1, some be2, ue2_3.ownBlock, ue2_4.ownBlock, some be3] hp4.size hp4 [boxO be0 [(.int .i64 x25), (.int .i64 x26), (.bool x27), ue0_3, ue0_4], boxO be1 [(.int .i64 x28)], boxO be2 [(.int .i64 x29), (.int .i64 x30), (.bool x31), ue2_3, ue2_4], ownO (kF .f32) 40 ue2_3 x32, ownO (kF .f32) 40 ue2_4 x33, boxO be3 [v3]] := Sep.own S_6 _
          refine RL.op _ (by decide) (opv_call (cap := [(.pointer (some ⟨be0, 0, none⟩)), (.pointer (some ⟨be1, 0, none⟩)), (.pointer (some ⟨be2, 0, none⟩)), (.pointer (some ⟨be3, 0, none⟩))]) (impl_GradeLosses_1_2_ok _ lo (Nat.le_trans hlo (Mod.size X_4)) _ _ _ _ _ _ _ _ _ (SL.mod ge0_3 X_4 hlo hB) _ _ (SL.mod ge0_4 X_4 hlo hB) _ _ _ _ _ _ _ _ _ _ _ _ _ fv3 S_5 (Sep.ge (L := [boxO be0 [(.int .i64 x25), (.int .i64 x26), (.bool x27), ue0_3, ue0_4], boxO be1 [(.int .i64 x28)], boxO be2 [(.int .i64 x29), (.int .i64 x30), (.bool x31), ue2_3, ue2_4], ownO (kF .f32) 40 ue2_3 x32, ownO (kF .f32) 40 ue2_4 x33, boxO be3 [v3]]) S_6 hlo hB) _ hx48) rfl rfl ⟨rfl, rfl, rfl, trivial⟩ Try.func114 rfl rfl) ?_
          rintro _ hp5 ⟨v5, rfl, fv5, MT_3, T_3⟩
          have S_7 : Sep [some be0, some be1, some be2, ue2_3.ownBlock, ue2_4.ownBlock, some be3] h0.size hp4 ([boxO be0 [(.int .i64 x25), (.int .i64 x26), (.bool x27), ue0_3, ue0_4], boxO be1 [(.int .i64 x28)], boxO be2 [(.int .i64 x29), (.int .i64 x30), (.bool x31), ue2_3, ue2_4], ownO (kF .f32) 40 ue2_3 x32, ownO (kF .f32) 40 ue2_4 x33, boxO be3 [v3]] ++ [boxO bb1 [(.int .i64 a0_0), (.int .i64 a0_1), (.bool a0_2), u0_3, u0_4]]) := Sep.sel S_4 [1, 2, 3, 4, 5, 6, 0] (by decide)
          have X_5 : Mod [some be0, some be1, some be2, ue2_3.ownBlock, ue2_4.ownBlock, some be3] h0 hp5 := Mod.step (A := [boxO be0 [(.int .i64 x25), (.int .i64 x26), (.bool x27), ue0_3, ue0_4], boxO be1 [(.int .i64 x28)], boxO be2 [(.int .i64 x29), (.int .i64 x30), (.bool x31), ue2_3, ue2_4], ownO (kF .f32) 40 ue2_3 x32, ownO (kF .f32) 40 ue2_4 x33, boxO be3 [v3]]) (L := [boxO bb1 [(.int .i64 a0_0), (.int .i64 a0_1), (.bool a0_2), u0_3, u0_4]]) X_4 S_7 MT_3
          have S_8 : Sep [some be0, some be1, some be2, ue2_3.ownBlock, ue2_4.ownBlock, some be3] h0.size hp5 [boxO be0 [(.int .i64 x48.1), (.int .i64 x48.2.1), (.bool x48.2.2.1), ue0_3, ue0_4], boxO be1 [(.int .i64 x48.2.2.2.1)], boxO be2 [(.int .i64 x48.2.2.2.2.1), (.int .i64 x48.2.2.2.2.2.1), (.bool x48.2.2.2.2.2.2.1), ue2_3, ue2_4], ownO (kF .f32) 40 ue2_3 x48.2.2.2.2.2.2.2.1, ownO (kF .f32) 40 ue2_4 x48.2.2.2.2.2.2.2.2.1, boxO be3 [v5], boxO bb1 [(.int .i64 a0_0), (.int .i64 a0_1), (.bool a0_2), u0_3, u0_4]] := Sep.step (A := [boxO be0 [(.int .i64 x25), (.int .i64 x26), (.bool x27), ue0_3, ue0_4], boxO be1 [(.int .i64 x28)], boxO be2 [(.int .i64 x29), (.int .i64 x30), (.bool x31), ue2_3, ue2_4], ownO (kF .f32) 40 ue2_3 x32, ownO (kF .f32) 40 ue2_4 x33, boxO be3 [v3]]) (L := [boxO bb1 [(.int .i64 a0_0), (.int .i64 a0_1), (.bool a0_2), u0_3, u0_4]]) S_7 (Mod.size X_4) MT_3 T_3
          refine RL.nil ?_
          refine blkN ?_
          refine thnN ?_
          refine W.region ?_
          refine RL.opD (by decide) (opv_add rfl rfl rfl) ?_
          refine RL.opD (by decide) (opv_move rfl rfl) ?_
          refine RL.nil ?_
          have eo2 := Option.some.inj ho2
          subst eo2
          refine rndN (s' := (IntKind.wrap .i64 (x24 + 1), x48.1, x48.2.1, x48.2.2.1, x48.2.2.2.1, x48.2.2.2.2.1, x48.2.2.2.2.2.1, x48.2.2.2.2.2.2.1, x48.2.2.2.2.2.2.2.1, x48.2.2.2.2.2.2.2.2.1, x48.2.2.2.2.2.2.2.2.2)) rfl ?_
          exact ⟨v5, ⟨rfl, rfl, rfl, rfl, rfl, rfl, rfl, rfl, rfl, trivial⟩, fv5, X_5, (Sep.sel S_8 [6, 0, 1, 2, 3, 4, 5] (by decide))⟩
        · rw [if_neg c2] at ho2
          have c2 := eq_false_of_ne_true c2
          refine W.condF rfl c2 ?_
          refine W.exit ?_
          refine thnX ?_
          refine rndX ?_
          refine blkI ?_
          have eo2 := Option.some.inj ho2
          subst eo2
          have ey2 := hy2 _ rfl
          subst ey2
          refine onlyN ?_
          exact ⟨x24, decide (x24 < a0_0), x25, x26, x27, x28, x29, x30, x31, x32, x33, x34, v3, rfl, ⟨rfl, rfl, rfl, rfl, rfl, rfl, rfl, rfl, rfl, rfl, trivial⟩, fv3, X_3, (Sep.sel S_3 [0, 1, 2, 3, 4, 5, 6] (by decide))⟩
      rintro φ' hp6 ⟨x35, x36, x37, x38, x39, x40, x41, x42, x43, x44, x45, x46, v4, rfl, hs4, fv4, X_6, S_9⟩
      try dsimp only at ho1
      refine blkN ?_
      refine thnN ?_
      refine W.sub hs4 ?_
      refine W.region ?_
      refine RL.opD (by decide) (opv_add rfl rfl rfl) ?_
      refine RL.opD (by decide) (opv_move rfl rfl) ?_
      refine RL.nil ?_
      have eo1 := Option.some.inj ho1
      subst eo1
      refine rndN (s' := (IntKind.wrap .i64 (x1 + 1), x37, x38, x39, x40, x41, x42, x43, x44, x45, x46)) rfl ?_
      exact ⟨v4, ⟨rfl, rfl, rfl, rfl, rfl, trivial⟩, fv4, X_6, (Sep.sel S_9 [0, 1, 2, 3, 4, 5, 6] (by decide))⟩
    · rw [if_neg c1] at ho1
      have c1 := eq_false_of_ne_true c1
      refine W.condF rfl c1 ?_
      refine W.exit ?_
      refine thnX ?_
      refine rndX ?_
      refine blkI ?_
      have eo1 := Option.some.inj ho1
      subst eo1
      have ey1 := hy1 _ rfl
      subst ey1
      refine onlyN ?_
      exact ⟨x1, decide (x1 < a0_1), x2, x3, x4, x5, x6, x7, x8, x9, x10, x11, v1, rfl, ⟨rfl, rfl, rfl, rfl, rfl, rfl, trivial⟩, fv1, X_2, (Sep.sel S_2 [0, 1, 2, 3, 4, 5, 6] (by decide))⟩
  rintro φ' hp7 ⟨x12, x13, x14, x15, x16, x17, x18, x19, x20, x21, x22, x23, v2, rfl, hs2, fv2, X_7, S_10⟩
  try dsimp only at hp
  have er := Option.some.inj hp
  subst er
  exact Rt.none' rfl ⟨v2, rfl, fv2, X_7, (Sep.sel S_10 [1, 2, 3, 4, 5, 6] (by decide))⟩

set_option maxRecDepth 20000 in
theorem impl_GradeLosses_ok (h0 : Heap) (a0_0 : Int) (a0_1 : Int) (a0_2 : Bool) (u0_3 : Value) (a0_3 : List (Option Nat)) (g0_3 : SL (kF .f32) h0.size h0 u0_3 a0_3) (u0_4 : Value) (a0_4 : List (Option Nat)) (g0_4 : SL (kF .f32) h0.size h0 u0_4 a0_4) (a1 : Int) (u2 : Value) (a2 : Option Nat) (g2 : IsF .f32 u2 a2) (r : (Int × Int × Bool × (List (Option Nat)) × (List (Option Nat)) × Bool)) (hp : impl_GradeLosses a0_0 a0_1 a0_2 a0_3 a0_4 a1 a2 = some r) : CallsH Try.prog 59 ([(.agg (List.toArray (α := Value) [(.int .i64 a0_0), (.int .i64 a0_1), (.bool a0_2), u0_3, u0_4])), (.int .i64 a1), u2].toArray ++ [].toArray) h0 (fun v h' => ∃ w3, ∃ w4, v = (.tuple (List.toArray (α := Value) [(.agg (List.toArray (α := Value) [(.int .i64 r.1), (.int .i64 r.2.1), (.bool r.2.2.1), w3, w4])), (.bool r.2.2.2.2.2)])) ∧ Mod [] h0 h' ∧ Sep [] h0.size h' [ownO (kF .f32) 40 w3 r.2.2.2.1, ownO (kF .f32) 40 w4 r.2.2.2.2.1]) := by
  unfold impl_GradeLosses at hp
  refine callsH_of_W (l := [(.agg (List.toArray (α := Value) [(.int .i64 a0_0), (.int .i64 a0_1), (.bool a0_2), u0_3, u0_4])), (.int .i64 a1), u2]) (cap := []) 29 Try.func59 rfl rfl rfl ?_
  refine W.seq ?_
  refine W.region ?_
  refine RL.op _ (by decide) (opS_boxed (opv_boxA (cs := [(.int .i64 a0_0), (.int .i64 a0_1), (.bool a0_2), u0_3, u0_4]) rfl rfl)) ?_
  rintro _ hp1 ⟨bb1, rfl, MT_1, T_1⟩
  have X_1 : Mod [] h0 hp1 := Mod.step (A := []) (L := []) (Mod.refl [] h0) (Sep.nil [] h0.size h0) MT_1
  have S_1 : Sep [] h0.size hp1 [boxO bb1 [(.int .i64 a0_0), (.int .i64 a0_1), (.bool a0_2), u0_3, u0_4]] := Sep.step (A := []) (L := []) (Sep.nil [] h0.size h0) (Mod.size (Mod.refl [] h0)) MT_1 T_1
  refine RL.op _ (by decide) (opS_boxed (opv_box1 rfl rfl rfl)) ?_
  rintro _ hp2 ⟨bb2, rfl, MT_2, T_2⟩
  have X_2 : Mod [] h0 hp2 := Mod.step (A := []) (L := [boxO bb1 [(.int .i64 a0_0), (.int .i64 a0_1), (.bool a0_2), u0_3, u0_4]]) X_1 S_1 MT_2
  have S_2 : Sep [] h0.size hp2 [boxO bb2 [(.int .i64 a1)], boxO bb1 [(.int .i64 a0_0), (.int .i64 a0_1), (.bool a0_2), u0_3, u0_4]] := Sep.step (A := []) (L := [boxO bb1 [(.int .i64 a0_0), (.int .i64 a0_1), (.bool a0_2), u0_3, u0_4]]) S_1 (Mod.size X_1) MT_2 T_2
  refine RL.op _ (by decide) (opS_boxed (opv_box1 rfl rfl (IsF.one g2))) ?_
  rintro _ hp3 ⟨bb3, rfl, MT_3, T_3⟩
  have X_3 : Mod [] h0 hp3 := Mod.step (A := []) (L := [boxO bb2 [(.int .i64 a1)], boxO bb1 [(.int .i64 a0_0), (.int .i64 a0_1), (.bool a0_2), u0_3, u0_4]]) X_2 S_2 MT_3
  have S_3 : Sep [] h0.size hp3 [boxO bb3 [u2], boxO bb2 [(.int .i64 a1)], boxO bb1 [(.int .i64 a0_0), (.int .i64 a0_1), (.bool a0_2), u0_3, u0_4]] := Sep.step (A := []) (L := [boxO bb2 [(.int .i64 a1)], boxO bb1 [(.int .i64 a0_0), (.int .i64 a0_1), (.bool a0_2), u0_3, u0_4]]) S_2 (Mod.size X_2) MT_3 T_3
  refine RL.op _ (by decide) (opS_boxed (opv_alloc (cs := [(.int .i64 0), (.int .i64 0), (.bool false), (.slice none 0 0), (.slice none 0 0)]) rfl Try.zero29 rfl)) ?_
  rintro _ hp4 ⟨bb4, rfl, MT_4, T_4⟩
  have X_4 : Mod [] h0 hp4 := Mod.step (A := []) (L := [boxO bb3 [u2], boxO bb2 [(.int .i64 a1)], boxO bb1 [(.int .i64 a0_0), (.int .i64 a0_1), (.bool a0_2), u0_3, u0_4]]) X_3 S_3 MT_4
  have S_4 : Sep [] h0.size hp4 [boxO bb4 [(.int .i64 0), (.int .i64 0), (.bool false), (.slice none 0 0), (.slice none 0 0)], boxO bb3 [u2], boxO bb2 [(.int .i64 a1)], boxO bb1 [(.int .i64 a0_0), (.int .i64 a0_1), (.bool a0_2), u0_3, u0_4]] := Sep.step (A := []) (L := [boxO bb3 [u2], boxO bb2 [(.int .i64 a1)], boxO bb1 [(.int .i64 a0_0), (.int .i64 a0_1), (.bool a0_2), u0_3, u0_4]]) S_3 (Mod.size X_3) MT_4 T_4
  refine RL.opD (by decide) (opv_assign rfl rfl) ?_
  refine RL.nil ?_
  refine thnN ?_
  refine W.seq ?_
  refine W.seq ?_
  obtain ⟨x1, hy1, hp⟩ := Option.bind_eq_some_iff.1 hp
  refine W.cut (fun φ' h' => Fr.sub [(0, (.agg (List.toArray (α := Value) [(.int .i64 a0_0), (.int .i64 a0_1), (.bool a0_2), u0_3, u0_4]))), (1, (.int .i64 a1)), (2, u2), (3, (.pointer (some ⟨bb1, 0, none⟩))), (4, (.pointer (some ⟨bb2, 0, none⟩))), (5, (.pointer (some ⟨bb3, 0, none⟩))), (6, (.pointer (some ⟨bb4, 0, none⟩))), (7, (.bool false)), (21, (.bool x1))] φ' ∧ Mod [] h0 h' ∧ Sep [] h0.size h' [boxO bb4 [(.int .i64 0), (.int .i64 0), (.bool false), (.slice none 0 0), (.slice none 0 0)], boxO bb3 [u2], boxO bb2 [(.int .i64 a1)], boxO bb1 [(.int .i64 a0_0), (.int .i64 a0_1), (.bool a0_2), u0_3, u0_4]]) ?_ ?_
  · obtain ⟨x2, hx2, hy1⟩ := Option.bind_eq_some_iff.1 hy1
    by_cases c1 : (!x2) = true
    · rw [if_pos c1] at hy1
      refine W.region ?_
      refine RL.opD (by decide) (opv_loadA (us := [(.int .i64 a0_0), (.int .i64 a0_1), (.bool a0_2), u0_3, u0_4]) rfl Try.agg29 Try.size29 rfl (Sep.at (o := boxO bb1 [(.int .i64 a0_0), (.int .i64 a0_1), (.bool a0_2), u0_3, u0_4]) S_4 3 rfl) rfl rfl) ?_
      refine RL.op _ (by decide) (opv_call (cap := []) (impl_ValidSheet_ok _ _ _ _ _ _ (SL.up (SL.mod g0_3 X_4 (Nat.le_refl _) nob) (Nat.le_trans (Nat.le_refl _) (Mod.size X_4))) _ _ (SL.up (SL.mod g0_4 X_4 (Nat.le_refl _) nob) (Nat.le_trans (Nat.le_refl _) (Mod.size X_4))) _ hx2) rfl rfl ⟨rfl, trivial⟩ Try.func76 rfl rfl) ?_
      rintro _ hp5 ⟨rfl, MT_5, T_5⟩
      have X_5 : Mod [] h0 hp5 := Mod.step (A := []) (L := [boxO bb4 [(.int .i64 0), (.int .i64 0), (.bool false), (.slice none 0 0), (.slice none 0 0)], boxO bb3 [u2], boxO bb2 [(.int .i64 a1)], boxO bb1 [(.int .i64 a0_0), (.int .i64 a0_1), (.bool a0_2), u0_3, u0_4]]) X_4 S_4 MT_5
      have S_5 : Sep [] h0.size hp5 [boxO bb4 [(.int .i64 0), (.int .i64 0), (.bool false), (.slice none 0 0), (.slice none 0 0)], boxO bb3 [u2], boxO bb2 [(.int .i64 a1)], boxO bb1 [(.int .i64 a0_0), (.int .i64 a0_1), (.bool a0_2), u0_3, u0_4]] := Sep.step (A := []) (L := [boxO bb4 [(.int .i64 0), (.int .i64 0), (.bool false), (.slice none 0 0), (.slice none 0 0)], boxO bb3 [u2], boxO bb2 [(.int .i64 a1)], boxO bb1 [(.int .i64 a0_0), (.int .i64 a0_1), (.bool a0_2), u0_3, u0_4]]) S_4 (Mod.size X_4) MT_5 T_5
      refine RL.opD (by decide) (opv_not rfl rfl) ?_
      refine RL.opD (by decide) (opv_move rfl rfl) ?_
      refine RL.no rfl rfl (Eq.trans c1 (by decide)) (by decide) ?_
      refine RL.no rfl rfl (Eq.trans c1 (by decide)) (by decide) ?_
      refine RL.no rfl rfl (Eq.trans c1 (by decide)) (by decide) ?_
      refine RL.opD (by decide) (opv_pick rfl rfl (fun _ => rfl) (fun e => absurd (Eq.trans (Eq.symm e) c1) (by decide)) rfl) ?_
      refine RL.opD (by decide) (opv_move rfl rfl) ?_
      refine RL.no rfl rfl (Eq.trans rfl (by decide)) (by decide) ?_
      refine RL.no rfl rfl (Eq.trans rfl (by decide)) (by decide) ?_
      refine RL.no rfl rfl (Eq.trans rfl (by decide)) (by decide) ?_
      refine RL.opD (by decide) (opv_pick rfl rfl (fun _ => rfl) (fun e => absurd (Eq.trans (Eq.symm e) rfl) (by decide)) rfl) ?_
      refine RL.nil ?_
      have ey1 := Option.some.inj hy1
      subst ey1
      refine onlyN ?_
      exact ⟨⟨rfl, rfl, rfl, rfl, rfl, rfl, rfl, rfl, rfl, trivial⟩, X_5, (Sep.sel S_5 [0, 1, 2, 3] (by decide))⟩
    · rw [if_neg c1] at hy1
      have c1 := eq_false_of_ne_true c1
      obtain ⟨x3, hx3, hy1⟩ := Option.bind_eq_some_iff.1 hy1
      by_cases c2 : (!x3) = true
      · rw [if_pos c2] at hy1
        refine W.region ?_
        refine RL.opD (by decide) (opv_loadA (us := [(.int .i64 a0_0), (.int .i64 a0_1), (.bool a0_2), u0_3, u0_4]) rfl Try.agg29 Try.size29 rfl (Sep.at (o := boxO bb1 [(.int .i64 a0_0), (.int .i64 a0_1), (.bool a0_2), u0_3, u0_4]) S_4 3 rfl) rfl rfl) ?_
        refine RL.op _ (by decide) (opv_call (cap := []) (impl_ValidSheet_ok _ _ _ _ _ _ (SL.up (SL.mod g0_3 X_4 (Nat.le_refl _) nob) (Nat.le_trans (Nat.le_refl _) (Mod.size X_4))) _ _ (SL.up (SL.mod g0_4 X_4 (Nat.le_refl _) nob) (Nat.le_trans (Nat.le_refl _) (Mod.size X_4))) _ hx2) rfl rfl ⟨rfl, trivial⟩ Try.func76 rfl rfl) ?_
        rintro _ hp5 ⟨rfl, MT_5, T_5⟩
        have X_5 : Mod [] h0 hp5 := Mod.step (A := []) (L := [boxO bb4 [(.int .i64 0), (.int .i64 0), (.bool false), (.slice none 0 0), (.slice none 0 0)], boxO bb3 [u2], boxO bb2 [(.int .i64 a1)], boxO bb1 [(.int .i64 a0_0), (.int .i64 a0_1), (.bool a0_2), u0_3, u0_4]]) X_4 S_4 MT_5
        have S_5 : Sep [] h0.size hp5 [boxO bb4 [(.int .i64 0), (.int .i64 0), (.bool false), (.slice none 0 0), (.slice none 0 0)], boxO bb3 [u2], boxO bb2 [(.int .i64 a1)], boxO bb1 [(.int .i64 a0_0), (.int .i64 a0_1), (.bool a0_2), u0_3, u0_4]] := Sep.step (A := []) (L := [boxO bb4 [(.int .i64 0), (.int .i64 0), (.bool false), (.slice none 0 0), (.slice none 0 0)], boxO bb3 [u2], boxO bb2 [(.int .i64 a1)], boxO bb1 [(.int .i64 a0_0), (.int .i64 a0_1), (.bool a0_2), u0_3, u0_4]]) S_4 (Mod.size X_4) MT_5 T_5
        refine RL.opD (by decide) (opv_not rfl rfl) ?_
        refine RL.opD (by decide) (opv_move rfl rfl) ?_
        refine RL.yes _ rfl rfl c1 (by decide) (opv_loadB rfl Try.one2 rfl (Sep.at (o := boxO bb2 [(.int .i64 a1)]) S_5 2 rfl) rfl) ?_
        rintro _ _ ⟨rfl, rfl⟩
        refine RL.yes _ rfl rfl c1 (by decide) (opv_call (cap := []) (impl_isWidth_ok _ _ _ hx3) rfl rfl ⟨rfl, trivial⟩ Try.func113 rfl rfl) ?_
        rintro _ _ ⟨rfl, rfl⟩
        refine RL.yes _ rfl rfl c1 (by decide) (opv_not rfl rfl) ?_
        rintro _ _ ⟨rfl, rfl⟩
        refine RL.opD (by decide) (opv_pick rfl rfl (fun e => absurd (Eq.trans (Eq.symm e) c1) (by decide)) (fun _ => rfl) rfl) ?_
        refine RL.opD (by decide) (opv_move rfl rfl) ?_
        refine RL.no rfl rfl (Eq.trans c2 (by decide)) (by decide) ?_
        refine RL.no rfl rfl (Eq.trans c2 (by decide)) (by decide) ?_
        refine RL.no rfl rfl (Eq.trans c2 (by decide)) (by decide) ?_
        refine RL.opD (by decide) (opv_pick rfl rfl (fun _ => rfl) (fun e => absurd (Eq.trans (Eq.symm e) c2) (by decide)) rfl) ?_
        refine RL.nil ?_
        have ey1 := Option.some.inj hy1
        subst ey1
        refine onlyN ?_
        exact ⟨⟨rfl, rfl, rfl, rfl, rfl, rfl, rfl, rfl, rfl, trivial⟩, X_5, (Sep.sel S_5 [0, 1, 2, 3] (by decide))⟩
      · rw [if_neg c2] at hy1
        have c2 := eq_false_of_ne_true c2
        obtain ⟨x4, hx4, hy1⟩ := Option.bind_eq_some_iff.1 hy1
        refine W.region ?_
        refine RL.opD (by decide) (opv_loadA (us := [(.int .i64 a0_0), (.int .i64 a0_1), (.bool a0_2), u0_3, u0_4]) rfl Try.agg29 Try.size29 rfl (Sep.at (o := boxO bb1 [(.int .i64 a0_0), (.int .i64 a0_1), (.bool a0_2), u0_3, u0_4]) S_4 3 rfl) rfl rfl) ?_
        refine RL.op _ (by decide) (opv_call (cap := []) (impl_ValidSheet_ok _ _ _ _ _ _ (SL.up (SL.mod g0_3 X_4 (Nat.le_refl _) nob) (Nat.le_trans (Nat.le_refl _) (Mod.size X_4))) _ _ (SL.up (SL.mod g0_4 X_4 (Nat.le_refl _) nob) (Nat.le_trans (Nat.le_refl _) (Mod.size X_4))) _ hx2) rfl rfl ⟨rfl, trivial⟩ Try.func76 rfl rfl) ?_
        rintro _ hp5 ⟨rfl, MT_5, T_5⟩
        have X_5 : Mod [] h0 hp5 := Mod.step (A := []) (L := [boxO bb4 [(.int .i64 0), (.int .i64 0), (.bool false), (.slice none 0 0), (.slice none 0 0)], boxO bb3 [u2], boxO bb2 [(.int .i64 a1)], boxO bb1 [(.int .i64 a0_0), (.int .i64 a0_1), (.bool a0_2), u0_3, u0_4]]) X_4 S_4 MT_5
        have S_5 : Sep [] h0.size hp5 [boxO bb4 [(.int .i64 0), (.int .i64 0), (.bool false), (.slice none 0 0), (.slice none 0 0)], boxO bb3 [u2], boxO bb2 [(.int .i64 a1)], boxO bb1 [(.int .i64 a0_0), (.int .i64 a0_1), (.bool a0_2), u0_3, u0_4]] := Sep.step (A := []) (L := [boxO bb4 [(.int .i64 0), (.int .i64 0), (.bool false), (.slice none 0 0), (.slice none 0 0)], boxO bb3 [u2], boxO bb2 [(.int .i64 a1)], boxO bb1 [(.int .i64 a0_0), (.int .i64 a0_1), (.bool a0_2), u0_3, u0_4]]) S_4 (Mod.size X_4) MT_5 T_5
        refine RL.opD (by decide) (opv_not rfl rfl) ?_
        refine RL.opD (by decide) (opv_move rfl rfl) ?_
        refine RL.yes _ rfl rfl c1 (by decide) (opv_loadB rfl Try.one2 rfl (Sep.at (o := boxO bb2 [(.int .i64 a1)]) S_5 2 rfl) rfl) ?_
        rintro _ _ ⟨rfl, rfl⟩
        refine RL.yes _ rfl rfl c1 (by decide) (opv_call (cap := []) (impl_isWidth_ok _ _ _ hx3) rfl rfl ⟨rfl, trivial⟩ Try.func113 rfl rfl) ?_
        rintro _ _ ⟨rfl, rfl⟩
        refine RL.yes _ rfl rfl c1 (by decide) (opv_not rfl rfl) ?_
        rintro _ _ ⟨rfl, rfl⟩
        refine RL.opD (by decide) (opv_pick rfl rfl (fun e => absurd (Eq.trans (Eq.symm e) c1) (by decide)) (fun _ => rfl) rfl) ?_
        refine RL.opD (by decide) (opv_move rfl rfl) ?_
        refine RL.yes _ rfl rfl c2 (by decide) (opv_loadB rfl Try.one40 rfl (Sep.at (o := boxO bb3 [u2]) S_5 1 rfl) rfl) ?_
        rintro _ _ ⟨rfl, rfl⟩
        refine RL.yes _ rfl rfl c2 (by decide) (opv_call (cap := []) (impl_isShare_ok _ _ _ g2 _ hx4) rfl rfl ⟨rfl, trivial⟩ Try.func109 rfl rfl) ?_
        rintro _ _ ⟨rfl, rfl⟩
        refine RL.yes _ rfl rfl c2 (by decide) (opv_not rfl rfl) ?_
        rintro _ _ ⟨rfl, rfl⟩
        refine RL.opD (by decide) (opv_pick rfl rfl (fun e => absurd (Eq.trans (Eq.symm e) c2) (by decide)) (fun _ => rfl) rfl) ?_
        refine RL.nil ?_
        have ey1 := Option.some.inj hy1
        subst ey1
        refine onlyN ?_
        exact ⟨⟨rfl, rfl, rfl, rfl, rfl, rfl, rfl, rfl, rfl, trivial⟩, X_5, (Sep.sel S_5 [0, 1, 2, 3] (by decide))⟩
  rintro φ' hp6 ⟨hs1, X_6, S_6⟩
  refine thnN ?_
  refine W.sub hs1 ?_
  by_cases c3 : x1 = true
  · rw [if_pos c3] at hp
    refine W.condT rfl c3 ?_
    refine W.seq ?_
    refine W.region ?_
    refine RL.opD (by decide) (opv_build (cs := [(.int .i64 0), (.int .i64 0), (.bool false), (.slice none 0 0), (.slice none 0 0)]) [] [] rfl Try.bd29 trivial rfl) ?_
    refine RL.op0 _ (opS_stored (cs := [(.int .i64 0), (.int .i64 0), (.bool false), (.slice none 0 0), (.slice none 0 0)]) (cs' := [(.int .i64 0), (.int .i64 0), (.bool false), (.slice none 0 0), (.slice none 0 0)]) (opv_storeA (us := [(.int .i64 0), (.int .i64 0), (.bool false), (.slice none 0 0), (.slice none 0 0)]) rfl Try.size29 rfl rfl (oneAll rfl (oneAll rfl (oneAll rfl (oneAll rfl (oneAll rfl rfl))))) (Sep.at (o := boxO bb4 [(.int .i64 0), (.int .i64 0), (.bool false), (.slice none 0 0), (.slice none 0 0)]) S_6 0 rfl) rfl rfl) (Sep.at (o := boxO bb4 [(.int .i64 0), (.int .i64 0), (.bool false), (.slice none 0 0), (.slice none 0 0)]) S_6 0 rfl)) ?_
    rintro _ hp7 ⟨rfl, MT_6, T_6⟩
    have S_7 : Sep [] h0.size hp6 ([boxO bb4 [(.int .i64 0), (.int .i64 0), (.bool false), (.slice none 0 0), (.slice none 0 0)]] ++ [boxO bb3 [u2], boxO bb2 [(.int .i64 a1)], boxO bb1 [(.int .i64 a0_0), (.int .i64 a0_1), (.bool a0_2), u0_3, u0_4]]) := Sep.sel S_6 [0, 1, 2, 3] (by decide)
    have X_7 : Mod [] h0 hp7 := Mod.step (A := [boxO bb4 [(.int .i64 0), (.int .i64 0), (.bool false), (.slice none 0 0), (.slice none 0 0)]]) (L := [boxO bb3 [u2], boxO bb2 [(.int .i64 a1)], boxO bb1 [(.int .i64 a0_0), (.int .i64 a0_1), (.bool a0_2), u0_3, u0_4]]) X_6 S_7 MT_6
    have S_8 : Sep [] h0.size hp7 [boxO bb4 [(.int .i64 0), (.int .i64 0), (.bool false), (.slice none 0 0), (.slice none 0 0)], boxO bb3 [u2], boxO bb2 [(.int .i64 a1)], boxO bb1 [(.int .i64 a0_0), (.int .i64 a0_1), (.bool a0_2), u0_3, u0_4]] := Sep.step (A := [boxO bb4 [(.int .i64 0), (.int .i64 0), (.bool false), (.slice none 0 0), (.slice none 0 0)]]) (L := [boxO bb3 [u2], boxO bb2 [(.int .i64 a1)], boxO bb1 [(.int .i64 a0_0), (.int .i64 a0_1), (.bool a0_2), u0_3, u0_4]]) S_7 (Mod.size X_6) MT_6 T_6
    refine RL.opD (by decide) (opv_assign rfl rfl) ?_
    refine RL.nil ?_
    refine thnN ?_
    refine W.ret ?_
    refine thnR ?_
    have S_9 : Sep [] h0.size hp7 [ownO (kF .f32) 40 (.slice none 0 0) ([] : List (Option Nat)), boxO bb4 [(.int .i64 0), (.int .i64 0), (.bool false), (.slice none 0 0), (.slice none 0 0)], boxO bb3 [u2], boxO bb2 [(.int .i64 a1)], boxO bb1 [(.int .i64 a0_0), (.int .i64 a0_1), (.bool a0_2), u0_3, u0_4]] := Sep.addNil S_8
    have S_10 : Sep [] h0.size hp7 [ownO (kF .f32) 40 (.slice none 0 0) ([] : List (Option Nat)), ownO (kF .f32) 40 (.slice none 0 0) ([] : List (Option Nat)), boxO bb4 [(.int .i64 0), (.int .i64 0), (.bool false), (.slice none 0 0), (.slice none 0 0)], boxO bb3 [u2], boxO bb2 [(.int .i64 a1)], boxO bb1 [(.int .i64 a0_0), (.int .i64 a0_1), (.bool a0_2), u0_3, u0_4]] := Sep.addNil S_9
    have er := Option.some.inj hp
    subst er
    exact Rt.cellA rfl rfl rfl Try.agg29 Try.size29 (Sep.at (o := boxO bb4 [(.int .i64 0), (.int .i64 0), (.bool false), (.slice none 0 0), (.slice none 0 0)]) S_10 2 rfl) rfl ⟨(.slice none 0 0), (.slice none 0 0), rfl, X_7, (Sep.sel S_10 [1, 0] (by decide))⟩
  · rw [if_neg c3] at hp
    have c3 := eq_false_of_ne_true c3
    refine W.condF rfl c3 ?_
    refine W.skip ?_
    refine thnN ?_
    refine W.seq ?_
    obtain ⟨x5, hx5, hp⟩ := Option.bind_eq_some_iff.1 hp
    refine W.region ?_
    refine RL.opD (by decide) (opv_loadA (us := [(.int .i64 a0_0), (.int .i64 a0_1), (.bool a0_2), u0_3, u0_4]) rfl Try.agg29 Try.size29 rfl (Sep.at (o := boxO bb1 [(.int .i64 a0_0), (.int .i64 a0_1), (.bool a0_2), u0_3, u0_4]) S_6 3 rfl) rfl rfl) ?_
    refine RL.op _ (by decide) (opv_call (cap := []) (impl_copySheet_ok _ _ _ _ _ _ (SL.up (SL.mod g0_3 X_6 (Nat.le_refl _) nob) (Nat.le_trans (Nat.le_refl _) (Mod.size X_6))) _ _ (SL.up (SL.mod g0_4 X_6 (Nat.le_refl _) nob) (Nat.le_trans (Nat.le_refl _) (Mod.size X_6))) _ hx5) rfl rfl ⟨rfl, trivial⟩ Try.func98 rfl rfl) ?_
    rintro _ hp8 ⟨v1, v2, rfl, MT_7, T_7⟩
    have X_8 : Mod [] h0 hp8 := Mod.step (A := []) (L := [boxO bb4 [(.int .i64 0), (.int .i64 0), (.bool false), (.slice none 0 0), (.slice none 0 0)], boxO bb3 [u2], boxO bb2 [(.int .i64 a1)], boxO bb1 [(.int .i64 a0_0), (.int .i64 a0_1), (.bool a0_2), u0_3, u0_4]]) X_6 S_6 MT_7
    have S_11 : Sep [] h0.size hp8 [ownO (kF .f32) 40 v1 x5.2.2.2.1, ownO (kF .f32) 40 v2 x5.2.2.2.2, boxO bb4 [(.int .i64 0), (.int .i64 0), (.bool false), (.slice none 0 0), (.slice none 0 0)], boxO bb3 [u2], boxO bb2 [(.int .i64 a1)], boxO bb1 [(.int .i64 a0_0), (.int .i64 a0_1), (.bool a0_2), u0_3, u0_4]] := Sep.step (A := []) (L := [boxO bb4 [(.int .i64 0), (.int .i64 0), (.bool false), (.slice none 0 0), (.slice none 0 0)], boxO bb3 [u2], boxO bb2 [(.int .i64 a1)], boxO bb1 [(.int .i64 a0_0), (.int .i64 a0_1), (.bool a0_2), u0_3, u0_4]]) S_6 (Mod.size X_6) MT_7 T_7
    refine RL.op _ (by decide) (opS_boxed (opv_alloc (cs := [(.int .i64 0), (.int .i64 0), (.bool false), (.slice none 0 0), (.slice none 0 0)]) rfl Try.zero29 rfl)) ?_
    rintro _ hp9 ⟨bb5, rfl, MT_8, T_8⟩
    have X_9 : Mod [] h0 hp9 := Mod.step (A := []) (L := [ownO (kF .f32) 40 v1 x5.2.2.2.1, ownO (kF .f32) 40 v2 x5.2.2.2.2, boxO bb4 [(.int .i64 0), (.int .i64 0), (.bool false), (.slice none 0 0), (.slice none 0 0)], boxO bb3 [u2], boxO bb2 [(.int .i64 a1)], boxO bb1 [(.int .i64 a0_0), (.int .i64 a0_1), (.bool a0_2), u0_3, u0_4]]) X_8 S_11 MT_8
    have S_12 : Sep [] h0.size hp9 [boxO bb5 [(.int .i64 0), (.int .i64 0), (.bool false), (.slice none 0 0), (.slice none 0 0)], ownO (kF .f32) 40 v1 x5.2.2.2.1, ownO (kF .f32) 40 v2 x5.2.2.2.2, boxO bb4 [(.int .i64 0), (.int .i64 0), (.bool false), (.slice none 0 0), (.slice none 0 0)], boxO bb3 [u2], boxO bb2 [(.int .i64 a1)], boxO bb1 [(.int .i64 a0_0), (.int .i64 a0_1), (.bool a0_2), u0_3, u0_4]] := Sep.step (A := []) (L := [ownO (kF .f32) 40 v1 x5.2.2.2.1, ownO (kF .f32) 40 v2 x5.2.2.2.2, boxO bb4 [(.int .i64 0), (.int .i64 0), (.bool false), (.slice none 0 0), (.slice none 0 0)], boxO bb3 [u2], boxO bb2 [(.int .i64 a1)], boxO bb1 [(.int .i64 a0_0), (.int .i64 a0_1), (.bool a0_2), u0_3, u0_4]]) S_11 (Mod.size X_8) MT_8 T_8
    refine RL.op0 _ (opS_stored (cs := [(.int .i64 0), (.int .i64 0), (.bool false), (.slice none 0 0), (.slice none 0 0)]) (cs' := [(.int .i64 x5.1), (.int .i64 x5.2.1), (.bool x5.2.2.1), v1, v2]) (opv_storeA (us := [(.int .i64 x5.1), (.int .i64 x5.2.1), (.bool x5.2.2.1), v1, v2]) rfl Try.size29 rfl rfl (oneAll rfl (oneAll rfl (oneAll rfl (oneAll (ownO.one (Sep.at (o := ownO (kF .f32) 40 v1 x5.2.2.2.1) S_12 1 rfl)) (oneAll (ownO.one (Sep.at (o := ownO (kF .f32) 40 v2 x5.2.2.2.2) S_12 2 rfl)) rfl))))) (Sep.at (o := boxO bb5 [(.int .i64 0), (.int .i64 0), (.bool false), (.slice none 0 0), (.slice none 0 0)]) S_12 0 rfl) rfl rfl) (Sep.at (o := boxO bb5 [(.int .i64 0), (.int .i64 0), (.bool false), (.slice none 0 0), (.slice none 0 0)]) S_12 0 rfl)) ?_
    rintro _ hp10 ⟨rfl, MT_9, T_9⟩
    have S_13 : Sep [] h0.size hp9 ([boxO bb5 [(.int .i64 0), (.int .i64 0), (.bool false), (.slice none 0 0), (.slice none 0 0)]] ++ [ownO (kF .f32) 40 v1 x5.2.2.2.1, ownO (kF .f32) 40 v2 x5.2.2.2.2, boxO bb4 [(.int .i64 0), (.int .i64 0), (.bool false), (.slice none 0 0), (.slice none 0 0)], boxO bb3 [u2], boxO bb2 [(.int .i64 a1)], boxO bb1 [(.int .i64 a0_0), (.int .i64 a0_1), (.bool a0_2), u0_3, u0_4]]) := Sep.sel S_12 [0, 1, 2, 3, 4, 5, 6] (by decide)
    have X_10 : Mod [] h0 hp10 := Mod.step (A := [boxO bb5 [(.int .i64 0), (.int .i64 0), (.bool false), (.slice none 0 0), (.slice none 0 0)]]) (L := [ownO (kF .f32) 40 v1 x5.2.2.2.1, ownO (kF .f32) 40 v2 x5.2.2.2.2, boxO bb4 [(.int .i64 0), (.int .i64 0), (.bool false), (.slice none 0 0), (.slice none 0 0)], boxO bb3 [u2], boxO bb2 [(.int .i64 a1)], boxO bb1 [(.int .i64 a0_0), (.int .i64 a0_1), (.bool a0_2), u0_3, u0_4]]) X_9 S_13 MT_9
    have S_14 : Sep [] h0.size hp10 [boxO bb5 [(.int .i64 x5.1), (.int .i64 x5.2.1), (.bool x5.2.2.1), v1, v2], ownO (kF .f32) 40 v1 x5.2.2.2.1, ownO (kF .f32) 40 v2 x5.2.2.2.2, boxO bb4 [(.int .i64 0), (.int .i64 0), (.bool false), (.slice none 0 0), (.slice none 0 0)], boxO bb3 [u2], boxO bb2 [(.int .i64 a1)], boxO bb1 [(.int .i64 a0_0), (.int .i64 a0_1), (.bool a0_2), u0_3, u0_4]] := Sep.step (A := [boxO bb5 [(.int .i64 0), (.int .i64 0), (.bool false), (.slice none 0 0), (.slice none 0 0)]]) (L := [ownO (kF .f32) 40 v1 x5.2.2.2.1, ownO (kF .f32) 40 v2 x5.2.2.2.2, boxO bb4 [(.int .i64 0), (.int .i64 0), (.bool false), (.slice none 0 0), (.slice none 0 0)], boxO bb3 [u2], boxO bb2 [(.int .i64 a1)], boxO bb1 [(.int .i64 a0_0), (.int .i64 a0_1), (.bool a0_2), u0_3, u0_4]]) S_13 (Mod.size X_9) MT_9 T_9
    refine RL.nil ?_
    refine thnN ?_
    refine W.seq ?_
    obtain ⟨x6, hx6, hp⟩ := Option.bind_eq_some_iff.1 hp
    refine W.region ?_
    refine RL.opD (by decide) (opv_loadA (us := [(.int .i64 a0_0), (.int .i64 a0_1), (.bool a0_2), u0_3, u0_4]) rfl Try.agg29 Try.size29 rfl (Sep.at (o := boxO bb1 [(.int .i64 a0_0), (.int .i64 a0_1), (.bool a0_2), u0_3, u0_4]) S_14 6 rfl) rfl rfl) ?_
    refine RL.opD (by decide) (opv_makeFunc (vs := [(.pointer (some ⟨bb1, 0, none⟩)), (.pointer (some ⟨bb2, 0, none⟩)), (.pointer (some ⟨bb5, 0, none⟩)), (.pointer (some ⟨bb3, 0, none⟩))]) rfl ⟨rfl, rfl, rfl, rfl, trivial⟩) ?_
    have S_16 : Sep [] h0.size hp10 [boxO bb1 [(.int .i64 a0_0), (.int .i64 a0_1), (.bool a0_2), u0_3, u0_4], boxO bb2 [(.int .i64 a1)], boxO bb5 [(.int .i64 x5.1), (.int .i64 x5.2.1), (.bool x5.2.2.1), v1, v2], ownO (kF .f32) 40 v1 x5.2.2.2.1, ownO (kF .f32) 40 v2 x5.2.2.2.2, boxO bb3 [u2]] := Sep.sel S_14 [6, 5, 0, 1, 2, 4] (by decide)
    have S_15 : Sep [some bb1, some bb2, some bb5, v1.ownBlock, v2.ownBlock, some bb3] hp10.size hp10 [boxO bb1 [(.int .i64 a0_0), (.int .i64 a0_1), (.bool a0_2), u0_3, u0_4], boxO bb2 [(.int .i64 a1)], boxO bb5 [(.int .i64 x5.1), (.int .i64 x5.2.1), (.bool x5.2.2.1), v1, v2], ownO (kF .f32) 40 v1 x5.2.2.2.1, ownO (kF .f32) 40 v2 x5.2.2.2.2, boxO bb3 [u2]] := Sep.own S_16 _
    refine RL.op _ (by decide) (opv_call (cap := []) (impl_Sheet_each__impl_GradeLosses_1_ok _ h0.size (Nat.le_trans (Nat.le_refl _) (Mod.size X_10)) _ _ _ _ _ (SL.mod g0_3 X_10 (Nat.le_refl _) nob) _ _ (SL.mod g0_4 X_10 (Nat.le_refl _) nob) _ _ _ _ _ _ (SL.mod g0_3 X_10 (Nat.le_refl _) nob) _ _ (SL.mod g0_4 X_10 (Nat.le_refl _) nob) _ _ _ _ _ _ _ _ _ _ _ _ _ g2 S_15 (Sep.ge (L := [boxO bb1 [(.int .i64 a0_0), (.int .i64 a0_1), (.bool a0_2), u0_3, u0_4], boxO bb2 [(.int .i64 a1)], boxO bb5 [(.int .i64 x5.1), (.int .i64 x5.2.1), (.bool x5.2.2.1), v1, v2], ownO (kF .f32) 40 v1 x5.2.2.2.1, ownO (kF .f32) 40 v2 x5.2.2.2.2, boxO bb3 [u2]]) S_16 (Nat.le_refl _) nob) _ hx6) rfl rfl ⟨rfl, rfl, trivial⟩ Try.func99 rfl rfl) ?_
    rintro _ hp11 ⟨v3, rfl, fv3, MT_10, T_10⟩
    have S_17 : Sep [] h0.size hp10 ([boxO bb1 [(.int .i64 a0_0), (.int .i64 a0_1), (.bool a0_2), u0_3, u0_4], boxO bb2 [(.int .i64 a1)], boxO bb5 [(.int .i64 x5.1), (.int .i64 x5.2.1), (.bool x5.2.2.1), v1, v2], ownO (kF .f32) 40 v1 x5.2.2.2.1, ownO (kF .f32) 40 v2 x5.2.2.2.2, boxO bb3 [u2]] ++ [boxO bb4 [(.int .i64 0), (.int .i64 0), (.bool false), (.slice none 0 0), (.slice none 0 0)]]) := Sep.sel S_14 [6, 5, 0, 1, 2, 4, 3] (by decide)
    have X_11 : Mod [] h0 hp11 := Mod.step (A := [boxO bb1 [(.int .i64 a0_0), (.int .i64 a0_1), (.bool a0_2), u0_3, u0_4], boxO bb2 [(.int .i64 a1)], boxO bb5 [(.int .i64 x5.1), (.int .i64 x5.2.1), (.bool x5.2.2.1), v1, v2], ownO (kF .f32) 40 v1 x5.2.2.2.1, ownO (kF .f32) 40 v2 x5.2.2.2.2, boxO bb3 [u2]]) (L := [boxO bb4 [(.int .i64 0), (.int .i64 0), (.bool false), (.slice none 0 0), (.slice none 0 0)]]) X_10 S_17 MT_10
    have S_18 : Sep [] h0.size hp11 [boxO bb1 [(.int .i64 x6.1), (.int .i64 x6.2.1), (.bool x6.2.2.1), u0_3, u0_4], boxO bb2 [(.int .i64 x6.2.2.2.1)], boxO bb5 [(.int .i64 x6.2.2.2.2.1), (.int .i64 x6.2.2.2.2.2.1), (.bool x6.2.2.2.2.2.2.1), v1, v2], ownO (kF .f32) 40 v1 x6.2.2.2.2.2.2.2.1, ownO (kF .f32) 40 v2 x6.2.2.2.2.2.2.2.2.1, boxO bb3 [v3], boxO bb4 [(.int .i64 0), (.int .i64 0), (.bool false), (.slice none 0 0), (.slice none 0 0)]] := Sep.step (A := [boxO bb1 [(.int .i64 a0_0), (.int .i64 a0_1), (.bool a0_2), u0_3, u0_4], boxO bb2 [(.int .i64 a1)], boxO bb5 [(.int .i64 x5.1), (.int .i64 x5.2.1), (.bool x5.2.2.1), v1, v2], ownO (kF .f32) 40 v1 x5.2.2.2.1, ownO (kF .f32) 40 v2 x5.2.2.2.2, boxO bb3 [u2]]) (L := [boxO bb4 [(.int .i64 0), (.int .i64 0), (.bool false), (.slice none 0 0), (.slice none 0 0)]]) S_17 (Mod.size X_10) MT_10 T_10
    refine RL.nil ?_
    refine thnN ?_
    refine W.seq ?_
    refine W.region ?_
    refine RL.opD (by decide) (opv_loadA (us := [(.int .i64 x6.2.2.2.2.1), (.int .i64 x6.2.2.2.2.2.1), (.bool x6.2.2.2.2.2.2.1), v1, v2]) rfl Try.agg29 Try.size29 rfl (Sep.at (o := boxO bb5 [(.int .i64 x6.2.2.2.2.1), (.int .i64 x6.2.2.2.2.2.1), (.bool x6.2.2.2.2.2.2.1), v1, v2]) S_18 2 rfl) rfl rfl) ?_
    refine RL.op0 _ (opS_stored (cs := [(.int .i64 0), (.int .i64 0), (.bool false), (.slice none 0 0), (.slice none 0 0)]) (cs' := [(.int .i64 x6.2.2.2.2.1), (.int .i64 x6.2.2.2.2.2.1), (.bool x6.2.2.2.2.2.2.1), v1, v2]) (opv_storeA (us := [(.int .i64 x6.2.2.2.2.1), (.int .i64 x6.2.2.2.2.2.1), (.bool x6.2.2.2.2.2.2.1), v1, v2]) rfl Try.size29 rfl rfl (oneAll rfl (oneAll rfl (oneAll rfl (oneAll (ownO.one (Sep.at (o := ownO (kF .f32) 40 v1 x6.2.2.2.2.2.2.2.1) S_18 3 rfl)) (oneAll (ownO.one (Sep.at (o := ownO (kF .f32) 40 v2 x6.2.2.2.2.2.2.2.2.1) S_18 4 rfl)) rfl))))) (Sep.at (o := boxO bb4 [(.int .i64 0), (.int .i64 0), (.bool false), (.slice none 0 0), (.slice none 0 0)]) S_18 6 rfl) rfl rfl) (Sep.at (o := boxO bb4 [(.int .i64 0), (.int .i64 0), (.bool false), (.slice none 0 0), (.slice none 0 0)]) S_18 6 rfl)) ?_
    rintro _ hp12 ⟨rfl, MT_11, T_11⟩
    have S_19 : Sep [] h0.size hp11 ([boxO bb4 [(.int .i64 0), (.int .i64 0), (.bool false), (.slice none 0 0), (.slice none 0 0)]] ++ [boxO bb1 [(.int .i64 x6.1), (.int .i64 x6.2.1), (.bool x6.2.2.1), u0_3, u0_4], boxO bb2 [(.int .i64 x6.2.2.2.1)], boxO bb5 [(.int .i64 x6.2.2.2.2.1), (.int .i64 x6.2.2.2.2.2.1), (.bool x6.2.2.2.2.2.2.1), v1, v2], ownO (kF .f32) 40 v1 x6.2.2.2.2.2.2.2.1, ownO (kF .f32) 40 v2 x6.2.2.2.2.2.2.2.2.1, boxO bb3 [v3]]) := Sep.sel S_18 [6, 0, 1, 2, 3, 4, 5] (by decide)
    have X_12 : Mod [] h0 hp12 := Mod.step (A := [boxO bb4 [(.int .i64 0), (.int .i64 0), (.bool false), (.slice none 0 0), (.slice none 0 0)]]) (L := [boxO bb1 [(.int .i64 x6.1), (.int .i64 x6.2.1), (.bool x6.2.2.1), u0_3, u0_4], boxO bb2 [(.int .i64 x6.2.2.2.1)], boxO bb5 [(.int .i64 x6.2.2.2.2.1), (.int .i64 x6.2.2.2.2.2.1), (.bool x6.2.2.2.2.2.2.1), v1, v2], ownO (kF .f32) 40 v1 x6.2.2.2.2.2.2.2.1, ownO (kF .f32) 40 v2 x6.2.2.2.2.2.2.2.2.1, boxO bb3 [v3]]) X_11 S_19 MT_11
    have S_20 : Sep [] h0.size hp12 [boxO bb4 [(.int .i64 x6.2.2.2.2.1), (.int .i64 x6.2.2.2.2.2.1), (.bool x6.2.2.2.2.2.2.1), v1, v2], boxO bb1 [(.int .i64 x6.1), (.int .i64 x6.2.1), (.bool x6.2.2.1), u0_3, u0_4], boxO bb2 [(.int .i64 x6.2.2.2.1)], boxO bb5 [(.int .i64 x6.2.2.2.2.1), (.int .i64 x6.2.2.2.2.2.1), (.bool x6.2.2.2.2.2.2.1), v1, v2], ownO (kF .f32) 40 v1 x6.2.2.2.2.2.2.2.1, ownO (kF .f32) 40 v2 x6.2.2.2.2.2.2.2.2.1, boxO bb3 [v3]] := Sep.step (A := [boxO bb4 [(.int .i64 0), (.int .i64 0), (.bool false), (.slice none 0 0), (.slice none 0 0)]]) (L := [boxO bb1 [(.int .i64 x6.1), (.int .i64 x6.2.1), (.bool x6.2.2.1), u0_3, u0_4], boxO bb2 [(.int .i64 x6.2.2.2.1)], boxO bb5 [(.int .i64 x6.2.2.2.2.1), (.int .i64 x6.2.2.2.2.2.1), (.bool x6.2.2.2.2.2.2.1), v1, v2], ownO (kF .f32) 40 v1 x6.2.2.2.2.2.2.2.1, ownO (kF .f32) 40 v2 x6.2.2.2.2.2.2.2.2.1, boxO bb3 [v3]]) S_19 (Mod.size X_11) MT_11 T_11
    refine RL.opD (by decide) (opv_assign rfl rfl) ?_
    refine RL.nil ?_
    refine thnN ?_
    refine W.ret ?_
    have er := Option.some.inj hp
    subst er
    exact Rt.cellA rfl rfl rfl Try.agg29 Try.size29 (Sep.at (o := boxO bb4 [(.int .i64 x6.2.2.2.2.1), (.int .i64 x6.2.2.2.2.2.1), (.bool x6.2.2.2.2.2.2.1), v1, v2]) S_20 0 rfl) rfl ⟨v1, v2, rfl, X_12, (Sep.sel S_20 [4, 5] (by decide))⟩

set_option maxRecDepth 20000 in
theorem laws_FnExactGradeLosses_ok (h0 : Heap) (a0_0 : Int) (a0_1 : Int) (a0_2 : Bool) (u0_3 : Value) (a0_3 : List (Option Nat)) (g0_3 : SL (kF .f32) h0.size h0 u0_3 a0_3) (u0_4 : Value) (a0_4 : List (Option Nat)) (g0_4 : SL (kF .f32) h0.size h0 u0_4 a0_4) (a1 : Int) (u2 : Value) (a2 : Option Nat) (g2 : IsF .f32 u2 a2) (r : Bool) (hp : laws_FnExactGradeLosses a0_0 a0_1 a0_2 a0_3 a0_4 a1 a2 = some r) : CallsH Try.prog 12 ([(.agg (List.toArray (α := Value) [(.int .i64 a0_0), (.int .i64 a0_1), (.bool a0_2), u0_3, u0_4])), (.int .i64 a1), u2].toArray ++ [].toArray) h0 (fun v h' => v = (.bool r) ∧ Mod [] h0 h' ∧ Sep [] h0.size h' []) := by
  unfold laws_FnExactGradeLosses at hp
  refine callsH_of_W (l := [(.agg (List.toArray (α := Value) [(.int .i64 a0_0), (.int .i64 a0_1), (.bool a0_2), u0_3, u0_4])), (.int .i64 a1), u2]) (cap := []) 106 Try.func12 rfl rfl rfl ?_
  refine W.seq ?_
  refine W.region ?_
  refine RL.op _ (by decide) (opS_boxed (opv_boxA (cs := [(.int .i64 a0_0), (.int .i64 a0_1), (.bool a0_2), u0_3, u0_4]) rfl rfl)) ?_
  rintro _ hp1 ⟨bb1, rfl, MT_1, T_1⟩
  have X_1 : Mod [] h0 hp1 := Mod.step (A := []) (L := []) (Mod.refl [] h0) (Sep.nil [] h0.size h0) MT_1
  have S_1 : Sep [] h0.size hp1 [boxO bb1 [(.int .i64 a0_0), (.int .i64 a0_1), (.bool a0_2), u0_3, u0_4]] := Sep.step (A := []) (L := []) (Sep.nil [] h0.size h0) (Mod.size (Mod.refl [] h0)) MT_1 T_1
  refine RL.opD (by decide) (opv_assign rfl rfl) ?_
  refine RL.nil ?_
  refine thnN ?_
  refine W.seq ?_
  refine W.region ?_
  refine RL.opD (by decide) (opv_assign rfl rfl) ?_
  refine RL.nil ?_
  refine thnN ?_
  refine W.seq ?_
  obtain ⟨x1, hx1, hp⟩ := Option.bind_eq_some_iff.1 hp
  refine W.region ?_
  refine RL.opD (by decide) (opv_loadA (us := [(.int .i64 a0_0), (.int .i64 a0_1), (.bool a0_2), u0_3, u0_4]) rfl Try.agg24 Try.size24 rfl (Sep.at (o := boxO bb1 [(.int .i64 a0_0), (.int .i64 a0_1), (.bool a0_2), u0_3, u0_4]) S_1 0 rfl) rfl rfl) ?_
  refine RL.opD (by decide) (opv_move rfl rfl) ?_
  refine RL.op _ (by decide) (opv_call (cap := []) (laws_szSheet_ok _ _ _ _ _ _ (SL.up (SL.mod g0_3 X_1 (Nat.le_refl _) nob) (Nat.le_trans (Nat.le_refl _) (Mod.size X_1))) _ _ (SL.up (SL.mod g0_4 X_1 (Nat.le_refl _) nob) (Nat.le_trans (Nat.le_refl _) (Mod.size X_1))) _ _ hx1) rfl rfl ⟨rfl, rfl, trivial⟩ Try.func18 rfl rfl) ?_
  rintro _ hp2 ⟨rfl, MT_2, T_2⟩
  have X_2 : Mod [] h0 hp2 := Mod.step (A := []) (L := [boxO bb1 [(.int .i64 a0_0), (.int .i64 a0_1), (.bool a0_2), u0_3, u0_4]]) X_1 S_1 MT_2
  have S_2 : Sep [] h0.size hp2 [boxO bb1 [(.int .i64 a0_0), (.int .i64 a0_1), (.bool a0_2), u0_3, u0_4]] := Sep.step (A := []) (L := [boxO bb1 [(.int .i64 a0_0), (.int .i64 a0_1), (.bool a0_2), u0_3, u0_4]]) S_1 (Mod.size X_1) MT_2 T_2
  refine RL.opD (by decide) (opv_assign rfl rfl) ?_
  refine RL.nil ?_
  refine thnN ?_
  refine W.seq ?_
  refine W.seq ?_
  refine W.region ?_
  refine RL.opD (by decide) (opv_move rfl rfl) ?_
  refine RL.opD (by decide) (opv_icmp rfl rfl rfl rfl) ?_
  refine RL.nil ?_
  refine thnN ?_
  by_cases c1 : (decide (x1 < 0)) = true
  · rw [if_pos c1] at hp
    refine W.condT rfl c1 ?_
    refine W.seq ?_
    refine W.region ?_
    refine RL.opD (by decide) (opv_assign rfl rfl) ?_
    refine RL.nil ?_
    refine thnN ?_
    refine W.ret ?_
    refine thnR ?_
    have er := Option.some.inj hp
    subst er
    exact Rt.one rfl rfl ⟨rfl, X_2, (Sep.nil _ _ _)⟩
  · rw [if_neg c1] at hp
    have c1 := eq_false_of_ne_true c1
    refine W.condF rfl c1 ?_
    refine W.skip ?_
    refine thnN ?_
    refine W.seq ?_
    obtain ⟨x2, hx2, hp⟩ := Option.bind_eq_some_iff.1 hp
    obtain ⟨x3, hx3, hp⟩ := Option.bind_eq_some_iff.1 hp
    refine W.region ?_
    refine RL.opD (by decide) (opv_loadA (us := [(.int .i64 a0_0), (.int .i64 a0_1), (.bool a0_2), u0_3, u0_4]) rfl Try.agg24 Try.size24 rfl (Sep.at (o := boxO bb1 [(.int .i64 a0_0), (.int .i64 a0_1), (.bool a0_2), u0_3, u0_4]) S_2 0 rfl) rfl rfl) ?_
    refine RL.op _ (by decide) (opv_call (cap := []) (laws_toSheet_ok _ _ _ _ _ _ (SL.up (SL.mod g0_3 X_2 (Nat.le_refl _) nob) (Nat.le_trans (Nat.le_refl _) (Mod.size X_2))) _ _ (SL.up (SL.mod g0_4 X_2 (Nat.le_refl _) nob) (Nat.le_trans (Nat.le_refl _) (Mod.size X_2))) _ hx2) rfl rfl ⟨rfl, trivial⟩ Try.func20 rfl rfl) ?_
    rintro _ hp3 ⟨v1, v2, rfl, MT_3, T_3⟩
    have X_3 : Mod [] h0 hp3 := Mod.step (A := []) (L := [boxO bb1 [(.int .i64 a0_0), (.int .i64 a0_1), (.bool a0_2), u0_3, u0_4]]) X_2 S_2 MT_3
    have S_3 : Sep [] h0.size hp3 [ownO (kF .f32) 40 v1 x2.2.2.2.1, ownO (kF .f32) 40 v2 x2.2.2.2.2, boxO bb1 [(.int .i64 a0_0), (.int .i64 a0_1), (.bool a0_2), u0_3, u0_4]] := Sep.step (A := []) (L := [boxO bb1 [(.int .i64 a0_0), (.int .i64 a0_1), (.bool a0_2), u0_3, u0_4]]) S_2 (Mod.size X_2) MT_3 T_3
    refine RL.opD (by decide) (opv_move rfl rfl) ?_
    refine RL.opD (by decide) (opv_move rfl rfl) ?_
    refine RL.op _ (by decide) (opv_call (cap := []) (spec_GradeLosses_ok _ _ _ _ _ _ (ownO.read (Sep.at (o := ownO (kF .f32) 40 v1 x2.2.2.2.1) S_3 0 rfl)) _ _ (ownO.read (Sep.at (o := ownO (kF .f32) 40 v2 x2.2.2.2.2) S_3 1 rfl)) _ _ _ g2 _ hx3) rfl rfl ⟨rfl, rfl, rfl, trivial⟩ Try.func58 rfl rfl) ?_
    rintro _ hp4 ⟨v3, v4, rfl, MT_4, T_4⟩
    have X_4 : Mod [] h0 hp4 := Mod.step (A := []) (L := [ownO (kF .f32) 40 v1 x2.2.2.2.1, ownO (kF .f32) 40 v2 x2.2.2.2.2, boxO bb1 [(.int .i64 a0_0), (.int .i64 a0_1), (.bool a0_2), u0_3, u0_4]]) X_3 S_3 MT_4
    have S_4 : Sep [] h0.size hp4 [ownO (kF .f32) 40 v3 x3.2.2.2.1, ownO (kF .f32) 40 v4 x3.2.2.2.2.1, ownO (kF .f32) 40 v1 x2.2.2.2.1, ownO (kF .f32) 40 v2 x2.2.2.2.2, boxO bb1 [(.int .i64 a0_0), (.int .i64 a0_1), (.bool a0_2), u0_3, u0_4]] := Sep.step (A := []) (L := [ownO (kF .f32) 40 v1 x2.2.2.2.1, ownO (kF .f32) 40 v2 x2.2.2.2.2, boxO bb1 [(.int .i64 a0_0), (.int .i64 a0_1), (.bool a0_2), u0_3, u0_4]]) S_3 (Mod.size X_3) MT_4 T_4
    refine RL.opD (by decide) (opv_move rfl rfl) ?_
    refine RL.opD (by decide) (opv_extract rfl rfl rfl) ?_
    refine RL.opD (by decide) (opv_extract rfl rfl rfl) ?_
    refine RL.op _ (by decide) (opS_boxed (opv_alloc (cs := [(.int .i64 0), (.int .i64 0), (.bool false), (.slice none 0 0), (.slice none 0 0)]) rfl Try.zero29 rfl)) ?_
    rintro _ hp5 ⟨bb2, rfl, MT_5, T_5⟩
    have X_5 : Mod [] h0 hp5 := Mod.step (A := []) (L := [ownO (kF .f32) 40 v3 x3.2.2.2.1, ownO (kF .f32) 40 v4 x3.2.2.2.2.1, ownO (kF .f32) 40 v1 x2.2.2.2.1, ownO (kF .f32) 40 v2 x2.2.2.2.2, boxO bb1 [(.int .i64 a0_0), (.int .i64 a0_1), (.bool a0_2), u0_3, u0_4]]) X_4 S_4 MT_5
    have S_5 : Sep [] h0.size hp5 [boxO bb2 [(.int .i64 0), (.int .i64 0), (.bool false), (.slice none 0 0), (.slice none 0 0)], ownO (kF .f32) 40 v3 x3.2.2.2.1, ownO (kF .f32) 40 v4 x3.2.2.2.2.1, ownO (kF .f32) 40 v1 x2.2.2.2.1, ownO (kF .f32) 40 v2 x2.2.2.2.2, boxO bb1 [(.int .i64 a0_0), (.int .i64 a0_1), (.bool a0_2), u0_3, u0_4]] := Sep.step (A := []) (L := [ownO (kF .f32) 40 v3 x3.2.2.2.1, ownO (kF .f32) 40 v4 x3.2.2.2.2.1, ownO (kF .f32) 40 v1 x2.2.2.2.1, ownO (kF .f32) 40 v2 x2.2.2.2.2, boxO bb1 [(.int .i64 a0_0), (.int .i64 a0_1), (.bool a0_2), u0_3, u0_4]]) S_4 (Mod.size X_4) MT_5 T_5
    refine RL.op0 _ (opS_stored (cs := [(.int .i64 0), (.int .i64 0), (.bool false), (.slice none 0 0), (.slice none 0 0)]) (cs' := [(.int .i64 x3.1), (.int .i64 x3.2.1), (.bool x3.2.2.1), v3, v4]) (opv_storeA (us := [(.int .i64 x3.1), (.int .i64 x3.2.1), (.bool x3.2.2.1), v3, v4]) rfl Try.size29 rfl rfl (oneAll rfl (oneAll rfl (oneAll rfl (oneAll (ownO.one (Sep.at (o := ownO (kF .f32) 40 v3 x3.2.2.2.1) S_5 1 rfl)) (oneAll (ownO.one (Sep.at (o := ownO (kF .f32) 40 v4 x3.2.2.2.2.1) S_5 2 rfl)) rfl))))) (Sep.at (o := boxO bb2 [(.int .i64 0), (.int .i64 0), (.bool false), (.slice none 0 0), (.slice none 0 0)]) S_5 0 rfl) rfl rfl) (Sep.at (o := boxO bb2 [(.int .i64 0), (.int .i64 0), (.bool false), (.slice none 0 0), (.slice none 0 0)]) S_5 0 rfl)) ?_
    rintro _ hp6 ⟨rfl, MT_6, T_6⟩
    have S_6 : Sep [] h0.size hp5 ([boxO bb2 [(.int .i64 0), (.int .i64 0), (.bool false), (.slice none 0 0), (.slice none 0 0)]] ++ [ownO (kF .f32) 40 v3 x3.2.2.2.1, ownO (kF .f32) 40 v4 x3.2.2.2.2.1, ownO (kF .f32) 40 v1 x2.2.2.2.1, ownO (kF .f32) 40 v2 x2.2.2.2.2, boxO bb1 [(.int .i64 a0_0), (.int .i64 a0_1), (.bool a0_2), u0_3, u0_4]]) := Sep.sel S_5 [0, 1, 2, 3, 4, 5] (by decide)
    have X_6 : Mod [] h0 hp6 := Mod.step (A := [boxO bb2 [(.int .i64 0), (.int .i64 0), (.bool false), (.slice none 0 0), (.slice none 0 0)]]) (L := [ownO (kF .f32) 40 v3 x3.2.2.2.1, ownO (kF .f32) 40 v4 x3.2.2.2.2.1, ownO (kF .f32) 40 v1 x2.2.2.2.1, ownO (kF .f32) 40 v2 x2.2.2.2.2, boxO bb1 [(.int .i64 a0_0), (.int .i64 a0_1), (.bool a0_2), u0_3, u0_4]]) X_5 S_6 MT_6
    have S_7 : Sep [] h0.size hp6 [boxO bb2 [(.int .i64 x3.1), (.int .i64 x3.2.1), (.bool x3.2.2.1), v3, v4], ownO (kF .f32) 40 v3 x3.2.2.2.1, ownO (kF .f32) 40 v4 x3.2.2.2.2.1, ownO (kF .f32) 40 v1 x2.2.2.2.1, ownO (kF .f32) 40 v2 x2.2.2.2.2, boxO bb1 [(.int .i64 a0_0), (.int .i64 a0_1), (.bool a0_2), u0_3, u0_4]] := Sep.step (A := [boxO bb2 [(.int .i64 0), (.int .i64 0), (.bool false), (.slice none 0 0), (.slice none 0 0)]]) (L := [ownO (kF .f32) 40 v3 x3.2.2.2.1, ownO (kF .f32) 40 v4 x3.2.2.2.2.1, ownO (kF .f32) 40 v1 x2.2.2.2.1, ownO (kF .f32) 40 v2 x2.2.2.2.2, boxO bb1 [(.int .i64 a0_0), (.int .i64 a0_1), (.bool a0_2), u0_3, u0_4]]) S_6 (Mod.size X_5) MT_6 T_6
    refine RL.opD (by decide) (opv_assign rfl rfl) ?_
    refine RL.nil ?_
    refine thnN ?_
    refine W.seq ?_
    obtain ⟨x4, hx4, hp⟩ := Option.bind_eq_some_iff.1 hp
    refine W.region ?_
    refine RL.opD (by decide) (opv_loadA (us := [(.int .i64 a0_0), (.int .i64 a0_1), (.bool a0_2), u0_3, u0_4]) rfl Try.agg24 Try.size24 rfl (Sep.at (o := boxO bb1 [(.int .i64 a0_0), (.int .i64 a0_1), (.bool a0_2), u0_3, u0_4]) S_7 5 rfl) rfl rfl) ?_
    refine RL.op _ (by decide) (opv_call (cap := []) (laws_toSheet_ok _ _ _ _ _ _ (SL.up (SL.mod g0_3 X_6 (Nat.le_refl _) nob) (Nat.le_trans (Nat.le_refl _) (Mod.size X_6))) _ _ (SL.up (SL.mod g0_4 X_6 (Nat.le_refl _) nob) (Nat.le_trans (Nat.le_refl _) (Mod.size X_6))) _ hx4) rfl rfl ⟨rfl, trivial⟩ Try.func20 rfl rfl) ?_
    rintro _ hp7 ⟨v5, v6, rfl, MT_7, T_7⟩
    have X_7 : Mod [] h0 hp7 := Mod.step (A := []) (L := [boxO bb2 [(.int .i64 x3.1), (.int .i64 x3.2.1), (.bool x3.2.2.1), v3, v4], ownO (kF .f32) 40 v3 x3.2.2.2.1, ownO (kF .f32) 40 v4 x3.2.2.2.2.1, ownO (kF .f32) 40 v1 x2.2.2.2.1, ownO (kF .f32) 40 v2 x2.2.2.2.2, boxO bb1 [(.int .i64 a0_0), (.int .i64 a0_1), (.bool a0_2), u0_3, u0_4]]) X_6 S_7 MT_7
    have S_8 : Sep [] h0.size hp7 [ownO (kF .f32) 40 v5 x4.2.2.2.1, ownO (kF .f32) 40 v6 x4.2.2.2.2, boxO bb2 [(.int .i64 x3.1), (.int .i64 x3.2.1), (.bool x3.2.2.1), v3, v4], ownO (kF .f32) 40 v3 x3.2.2.2.1, ownO (kF .f32) 40 v4 x3.2.2.2.2.1, ownO (kF .f32) 40 v1 x2.2.2.2.1, ownO (kF .f32) 40 v2 x2.2.2.2.2, boxO bb1 [(.int .i64 a0_0), (.int .i64 a0_1), (.bool a0_2), u0_3, u0_4]] := Sep.step (A := []) (L := [boxO bb2 [(.int .i64 x3.1), (.int .i64 x3.2.1), (.bool x3.2.2.1), v3, v4], ownO (kF .f32) 40 v3 x3.2.2.2.1, ownO (kF .f32) 40 v4 x3.2.2.2.2.1, ownO (kF .f32) 40 v1 x2.2.2.2.1, ownO (kF .f32) 40 v2 x2.2.2.2.2, boxO bb1 [(.int .i64 a0_0), (.int .i64 a0_1), (.bool a0_2), u0_3, u0_4]]) S_7 (Mod.size X_6) MT_7 T_7
    refine RL.op _ (by decide) (opS_boxed (opv_alloc (cs := [(.int .i64 0), (.int .i64 0), (.bool false), (.slice none 0 0), (.slice none 0 0)]) rfl Try.zero29 rfl)) ?_
    rintro _ hp8 ⟨bb3, rfl, MT_8, T_8⟩
    have X_8 : Mod [] h0 hp8 := Mod.step (A := []) (L := [ownO (kF .f32) 40 v5 x4.2.2.2.1, ownO (kF .f32) 40 v6 x4.2.2.2.2, boxO bb2 [(.int .i64 x3.1), (.int .i64 x3.2.1), (.bool x3.2.2.1), v3, v4], ownO (kF .f32) 40 v3 x3.2.2.2.1, ownO (kF .f32) 40 v4 x3.2.2.2.2.1, ownO (kF .f32) 40 v1 x2.2.2.2.1, ownO (kF .f32) 40 v2 x2.2.2.2.2, boxO bb1 [(.int .i64 a0_0), (.int .i64 a0_1), (.bool a0_2), u0_3, u0_4]]) X_7 S_8 MT_8
    have S_9 : Sep [] h0.size hp8 [boxO bb3 [(.int .i64 0), (.int .i64 0), (.bool false), (.slice none 0 0), (.slice none 0 0)], ownO (kF .f32) 40 v5 x4.2.2.2.1, ownO (kF .f32) 40 v6 x4.2.2.2.2, boxO bb2 [(.int .i64 x3.1), (.int .i64 x3.2.1), (.bool x3.2.2.1), v3, v4], ownO (kF .f32) 40 v3 x3.2.2.2.1, ownO (kF .f32) 40 v4 x3.2.2.2.2.1, ownO (kF .f32) 40 v1 x2.2.2.2.1, ownO (kF .f32) 40 v2 x2.2.2.2.2, boxO bb1 [(.int .i64 a0_0), (.int .i64 a0_1), (.bool a0_2), u0_3, u0_4]] := Sep.step (A := []) (L := [ownO (kF .f32) 40 v5 x4.2.2.2.1, ownO (kF .f32) 40 v6 x4.2.2.2.2, boxO bb2 [(.int .i64 x3.1), (.int .i64 x3.2.1), (.bool x3.2.2.1), v3, v4], ownO (kF .f32) 40 v3 x3.2.2.2.1, ownO (kF .f32) 40 v4 x3.2.2.2.2.1, ownO (kF .f32) 40 v1 x2.2.2.2.1, ownO (kF .f32) 40 v2 x2.2.2.2.2, boxO bb1 [(.int .i64 a0_0), (.int .i64 a0_1), (.bool a0_2), u0_3, u0_4]]) S_8 (Mod.size X_7) MT_8 T_8
    refine RL.op0 _ (opS_stored (cs := [(.int .i64 0), (.int .i64 0), (.bool false), (.slice none 0 0), (.slice none 0 0)]) (cs' := [(.int .i64 x4.1), (.int .i64 x4.2.1), (.bool x4.2.2.1), v5, v6]) (opv_storeA (us := [(.int .i64 x4.1), (.int .i64 x4.2.1), (.bool x4.2.2.1), v5, v6]) rfl Try.size29 rfl rfl (oneAll rfl (oneAll rfl (oneAll rfl (oneAll (ownO.one (Sep.at (o := ownO (kF .f32) 40 v5 x4.2.2.2.1) S_9 1 rfl)) (oneAll (ownO.one (Sep.at (o := ownO (kF .f32) 40 v6 x4.2.2.2.2) S_9 2 rfl)) rfl))))) (Sep.at (o := boxO bb3 [(.int .i64 0), (.int .i64 0), (.bool false), (.slice none 0 0), (.slice none 0 0)]) S_9 0 rfl) rfl rfl) (Sep.at (o := boxO bb3 [(.int .i64 0), (.int .i64 0), (.bool false), (.slice none 0 0), (.slice none 0 0)]) S_9 0 rfl)) ?_
    rintro _ hp9 ⟨rfl, MT_9, T_9⟩
    have S_10 : Sep [] h0.size hp8 ([boxO bb3 [(.int .i64 0), (.int .i64 0), (.bool false), (.slice none 0 0), (.slice none 0 0)]] ++ [ownO (kF .f32) 40 v5 x4.2.2.2.1, ownO (kF .f32) 40 v6 x4.2.2.2.2, boxO bb2 [(.int .i64 x3.1), (.int .i64 x3.2.1), (.bool x3.2.2.1), v3, v4], ownO (kF .f32) 40 v3 x3.2.2.2.1, ownO (kF .f32) 40 v4 x3.2.2.2.2.1, ownO (kF .f32) 40 v1 x2.2.2.2.1, ownO (kF .f32) 40 v2 x2.2.2.2.2, boxO bb1 [(.int .i64 a0_0), (.int .i64 a0_1), (.bool a0_2), u0_3, u0_4]]) := Sep.sel S_9 [0, 1, 2, 3, 4, 5, 6, 7, 8] (by decide)
    have X_9 : Mod [] h0 hp9 := Mod.step (A := [boxO bb3 [(.int .i64 0), (.int .i64 0), (.bool false), (.slice none 0 0), (.slice none 0 0)]]) (L := [ownO (kF .f32) 40 v5 x4.2.2.2.1, ownO (kF .f32) 40 v6 x4.2.2.2.2, boxO bb2 [(.int .i64 x3.1), (.int .i64 x3.2.1), (.bool x3.2.2.1), v3, v4], ownO (kF .f32) 40 v3 x3.2.2.2.1, ownO (kF .f32) 40 v4 x3.2.2.2.2.1, ownO (kF .f32) 40 v1 x2.2.2.2.1, ownO (kF .f32) 40 v2 x2.2.2.2.2, boxO bb1 [(.int .i64 a0_0), (.int .i64 a0_1), (.bool a0_2), u0_3, u0_4]]) X_8 S_10 MT_9
    have S_11 : Sep [] h0.size hp9 [boxO bb3 [(.int .i64 x4.1), (.int .i64 x4.2.1), (.bool x4.2.2.1), v5, v6], ownO (kF .f32) 40 v5 x4.2.2.2.1, ownO (kF .f32) 40 v6 x4.2.2.2.2, boxO bb2 [(.int .i64 x3.1), (.int .i64 x3.2.1), (.bool x3.2.2.1), v3, v4], ownO (kF .f32) 40 v3 x3.2.2.2.1, ownO (kF .f32) 40 v4 x3.2.2.2.2.1, ownO (kF .f32) 40 v1 x2.2.2.2.1, ownO (kF .f32) 40 v2 x2.2.2.2.2, boxO bb1 [(.int .i64 a0_0), (.int .i64 a0_1), (.bool a0_2), u0_3, u0_4]] := Sep.step (A := [boxO bb3 [(.int .i64 0), (.int .i64 0), (.bool false), (.slice none 0 0), (.slice none 0 0)]]) (L := [ownO (kF .f32) 40 v5 x4.2.2.2.1, ownO (kF .f32) 40 v6 x4.2.2.2.2, boxO bb2 [(.int .i64 x3.1), (.int .i64 x3.2.1), (.bool x3.2.2.1), v3, v4], ownO (kF .f32) 40 v3 x3.2.2.2.1, ownO (kF .f32) 40 v4 x3.2.2.2.2.1, ownO (kF .f32) 40 v1 x2.2.2.2.1, ownO (kF .f32) 40 v2 x2.2.2.2.2, boxO bb1 [(.int .i64 a0_0), (.int .i64 a0_1), (.bool a0_2), u0_3, u0_4]]) S_10 (Mod.size X_8) MT_9 T_9
    refine RL.nil ?_
    refine thnN ?_
    refine W.seq ?_
    obtain ⟨x5, hx5, hp⟩ := Option.bind_eq_some_iff.1 hp
    refine W.region ?_
    refine RL.opD (by decide) (opv_loadA (us := [(.int .i64 x4.1), (.int .i64 x4.2.1), (.bool x4.2.2.1), v5, v6]) rfl Try.agg29 Try.size29 rfl (Sep.at (o := boxO bb3 [(.int .i64 x4.1), (.int .i64 x4.2.1), (.bool x4.2.2.1), v5, v6]) S_11 0 rfl) rfl rfl) ?_
    refine RL.opD (by decide) (opv_move rfl rfl) ?_
    refine RL.opD (by decide) (opv_move rfl rfl) ?_
    refine RL.op _ (by decide) (opv_call (cap := []) (impl_GradeLosses_ok _ _ _ _ _ _ (ownO.read (Sep.at (o := ownO (kF .f32) 40 v5 x4.2.2.2.1) S_11 1 rfl)) _ _ (ownO.read (Sep.at (o := ownO (kF .f32) 40 v6 x4.2.2.2.2) S_11 2 rfl)) _ _ _ g2 _ hx5) rfl rfl ⟨rfl, rfl, rfl, trivial⟩ Try.func59 rfl rfl) ?_
    rintro _ hp10 ⟨v7, v8, rfl, MT_10, T_10⟩
    have X_10 : Mod [] h0 hp10 := Mod.step (A := []) (L := [boxO bb3 [(.int .i64 x4.1), (.int .i64 x4.2.1), (.bool x4.2.2.1), v5, v6], ownO (kF .f32) 40 v5 x4.2.2.2.1, ownO (kF .f32) 40 v6 x4.2.2.2.2, boxO bb2 [(.int .i64 x3.1), (.int .i64 x3.2.1), (.bool x3.2.2.1), v3, v4], ownO (kF .f32) 40 v3 x3.2.2.2.1, ownO (kF .f32) 40 v4 x3.2.2.2.2.1, ownO (kF .f32) 40 v1 x2.2.2.2.1, ownO (kF .f32) 40 v2 x2.2.2.2.2, boxO bb1 [(.int .i64 a0_0), (.int .i64 a0_1), (.bool a0_2), u0_3, u0_4]]) X_9 S_11 MT_10
    have S_12 : Sep [] h0.size hp10 [ownO (kF .f32) 40 v7 x5.2.2.2.1, ownO (kF .f32) 40 v8 x5.2.2.2.2.1, boxO bb3 [(.int .i64 x4.1), (.int .i64 x4.2.1), (.bool x4.2.2.1), v5, v6], ownO (kF .f32) 40 v5 x4.2.2.2.1, ownO (kF .f32) 40 v6 x4.2.2.2.2, boxO bb2 [(.int .i64 x3.1), (.int .i64 x3.2.1), (.bool x3.2.2.1), v3, v4], ownO (kF .f32) 40 v3 x3.2.2.2.1, ownO (kF .f32) 40 v4 x3.2.2.2.2.1, ownO (kF .f32) 40 v1 x2.2.2.2.1, ownO (kF .f32) 40 v2 x2.2.2.2.2, boxO bb1 [(.int .i64 a0_0), (.int .i64 a0_1), (.bool a0_2), u0_3, u0_4]] := Sep.step (A := []) (L := [boxO bb3 [(.int .i64 x4.1), (.int .i64 x4.2.1), (.bool x4.2.2.1), v5, v6], ownO (kF .f32) 40 v5 x4.2.2.2.1, ownO (kF .f32) 40 v6 x4.2.2.2.2, boxO bb2 [(.int .i64 x3.1), (.int .i64 x3.2.1), (.bool x3.2.2.1), v3, v4], ownO (kF .f32) 40 v3 x3.2.2.2.1, ownO (kF .f32) 40 v4 x3.2.2.2.2.1, ownO (kF .f32) 40 v1 x2.2.2.2.1, ownO (kF .f32) 40 v2 x2.2.2.2.2, boxO bb1 [(.int .i64 a0_0), (.int .i64 a0_1), (.bool a0_2), u0_3, u0_4]]) S_11 (Mod.size X_9) MT_10 T_10
    refine RL.opD (by decide) (opv_move rfl rfl) ?_
    refine RL.opD (by decide) (opv_extract rfl rfl rfl) ?_
    refine RL.opD (by decide) (opv_extract rfl rfl rfl) ?_
    refine RL.op _ (by decide) (opS_boxed (opv_alloc (cs := [(.int .i64 0), (.int .i64 0), (.bool false), (.slice none 0 0), (.slice none 0 0)]) rfl Try.zero29 rfl)) ?_
    rintro _ hp11 ⟨bb4, rfl, MT_11, T_11⟩
    have X_11 : Mod [] h0 hp11 := Mod.step (A := []) (L := [ownO (kF .f32) 40 v7 x5.2.2.2.1, ownO (kF .f32) 40 v8 x5.2.2.2.2.1, boxO bb3 [(.int .i64 x4.1), (.int .i64 x4.2.1), (.bool x4.2.2.1), v5, v6], ownO (kF .f32) 40 v5 x4.2.2.2.1, ownO (kF .f32) 40 v6 x4.2.2.2.2, boxO bb2 [(.int .i64 x3.1), (.int .i64 x3.2.1), (.bool x3.2.2.1), v3, v4], ownO (kF .f32) 40 v3 x3.2.2.2.1, ownO (kF .f32) 40 v4 x3.2.2.2.2.1, ownO (kF .f32) 40 v1 x2.2.2.2.1, ownO (kF .f32) 40 v2 x2.2.2.2.2, boxO bb1 [(.int .i64 a0_0), (.int .i64 a0_1), (.bool a0_2), u0_3, u0_4]]) X_10 S_12 MT_11
    have S_13 : Sep [] h0.size hp11 [boxO bb4 [(.int .i64 0), (.int .i64 0), (.bool false), (.slice none 0 0), (.slice none 0 0)], ownO (kF .f32) 40 v7 x5.2.2.2.1, ownO (kF .f32) 40 v8 x5.2.2.2.2.1, boxO bb3 [(.int .i64 x4.1), (.int .i64 x4.2.1), (.bool x4.2.2.1), v5, v6], ownO (kF .f32) 40 v5 x4.2.2.2.1, ownO (kF .f32) 40 v6 x4.2.2.2.2, boxO bb2 [(.int .i64 x3.1), (.int .i64 x3.2.1), (.bool x3.2.2.1), v3, v4], ownO (kF .f32) 40 v3 x3.2.2.2.1, ownO (kF .f32) 40 v4 x3.2.2.2.2.1, ownO (kF .f32) 40 v1 x2.2.2.2.1, ownO (kF .f32) 40 v2 x2.2.2.2.2, boxO bb1 [(.int .i64 a0_0), (.int .i64 a0_1), (.bool a0_2), u0_3, u0_4]] := Sep.step (A := []) (L := [ownO (kF .f32) 40 v7 x5.2.2.2.1, ownO (kF .f32) 40 v8 x5.2.2.2.2.1, boxO bb3 [(.int .i64 x4.1), (.int .i64 x4.2.1), (.bool x4.2.2.1), v5, v6], ownO (kF .f32) 40 v5 x4.2.2.2.1, ownO (kF .f32) 40 v6 x4.2.2.2.2, boxO bb2 [(.int .i64 x3.1), (.int .i64 x3.2.1), (.bool x3.2.2.1), v3, v4], ownO (kF .f32) 40 v3 x3.2.2.2.1, ownO (kF .f32) 40 v4 x3.2.2.2.2.1, ownO (kF .f32) 40 v1 x2.2.2.2.1, ownO (kF .f32) 40 v2 x2.2.2.2.2, boxO bb1 [(.int .i64 a0_0), (.int .i64 a0_1), (.bool a0_2), u0_3, u0_4]]) S_12 (Mod.size X_10) MT_11 T_11
    refine RL.op0 _ (opS_stored (cs := [(.int .i64 0), (.int .i64 0), (.bool false), (.slice none 0 0), (.slice none 0 0)]) (cs' := [(.int .i64 x5.1), (.int .i64 x5.2.1), (.bool x5.2.2.1), v7, v8]) (opv_storeA (us := [(.int .i64 x5.1), (.int .i64 x5.2.1), (.bool x5.2.2.1), v7, v8]) rfl Try.size29 rfl rfl (oneAll rfl (oneAll rfl (oneAll rfl (oneAll (ownO.one (Sep.at (o := ownO (kF .f32) 40 v7 x5.2.2.2.1) S_13 1 rfl)) (oneAll (ownO.one (Sep.at (o := ownO (kF .f32) 40 v8 x5.2.2.2.2.1) S_13 2 rfl)) rfl))))) (Sep.at (o := boxO bb4 [(.int .i64 0), (.int .i64 0), (.bool false), (.slice none 0 0), (.slice none 0 0)]) S_13 0 rfl) rfl rfl) (Sep.at (o := boxO bb4 [(.int .i64 0), (.int .i64 0), (.bool false), (.slice none 0 0), (.slice none 0 0)]) S_13 0 rfl)) ?_
    rintro _ hp12 ⟨rfl, MT_12, T_12⟩
    have S_14 : Sep [] h0.size hp11 ([boxO bb4 [(.int .i64 0), (.int .i64 0), (.bool false), (.slice none 0 0), (.slice none 0 0)]] ++ [ownO (kF .f32) 40 v7 x5.2.2.2.1, ownO (kF .f32) 40 v8 x5.2.2.2.2.1, boxO bb3 [(.int .i64 x4.1), (.int .i64 x4.2.1), (.bool x4.2.2.1), v5, v6], ownO (kF .f32) 40 v5 x4.2.2.2.1, ownO (kF .f32) 40 v6 x4.2.2.2.2, boxO bb2 [(.int .i64 x3.1), (.int .i64 x3.2.1), (.bool x3.2.2.1), v3, v4], ownO (kF .f32) 40 v3 x3.2.2.2.1, ownO (kF .f32) 40 v4 x3.2.2.2.2.1, ownO (kF .f32) 40 v1 x2.2.2.2.1, ownO (kF .f32) 40 v2 x2.2.2.2.2, boxO bb1 [(.int .i64 a0_0), (.int .i64 a0_1), (.bool a0_2), u0_3, u0_4]]) := Sep.sel S_13 [0, 1, 2, 3, 4, 5, 6, 7, 8, 9, 10, 11] (by decide)
    have X_12 : Mod [] h0 hp12 := Mod.step (A := [boxO bb4 [(.int .i64 0), (.int .i64 0), (.bool false), (.slice none 0 0), (.slice none 0 0)]]) (L := [ownO (kF .f32) 40 v7 x5.2.2.2.1, ownO (kF .f32) 40 v8 x5.2.2.2.2.1, boxO bb3 [(.int .i64 x4.1), (.int .i64 x4.2.1), (.bool x4.2.2.1), v5, v6], ownO (kF .f32) 40 v5 x4.2.2.2.1, ownO (kF .f32) 40 v6 x4.2.2.2.2, boxO bb2 [(.int .i64 x3.1), (.int .i64 x3.2.1), (.bool x3.2.2.1), v3, v4], ownO (kF .f32) 40 v3 x3.2.2.2.1, ownO (kF .f32) 40 v4 x3.2.2.2.2.1, ownO (kF .f32) 40 v1 x2.2.2.2.1, ownO (kF .f32) 40 v2 x2.2.2.2.2, boxO bb1 [(.int .i64 a0_0), (.int .i64 a0_1), (.bool a0_2), u0_3, u0_4]]) X_11 S_14 MT_12
    have S_15 : Sep [] h0.size hp12 [boxO bb4 [(.int .i64 x5.1), (.int .i64 x5.2.1), (.bool x5.2.2.1), v7, v8], ownO (kF .f32) 40 v7 x5.2.2.2.1, ownO (kF .f32) 40 v8 x5.2.2.2.2.1, boxO bb3 [(.int .i64 x4.1), (.int .i64 x4.2.1), (.bool x4.2.2.1), v5, v6], ownO (kF .f32) 40 v5 x4.2.2.2.1, ownO (kF .f32) 40 v6 x4.2.2.2.2, boxO bb2 [(.int .i64 x3.1), (.int .i64 x3.2.1), (.bool x3.2.2.1), v3, v4], ownO (kF .f32) 40 v3 x3.2.2.2.1, ownO (kF .f32) 40 v4 x3.2.2.2.2.1, ownO (kF .f32) 40 v1 x2.2.2.2.1, ownO (kF .f32) 40 v2 x2.2.2.2.2, boxO bb1 [(.int .i64 a0_0), (.int .i64 a0_1), (.bool a0_2), u0_3, u0_4]] := Sep.step (A := [boxO bb4 [(.int .i64 0), (.int .i64 0), (.bool false), (.slice none 0 0), (.slice none 0 0)]]) (L := [ownO (kF .f32) 40 v7 x5.2.2.2.1, ownO (kF .f32) 40 v8 x5.2.2.2.2.1, boxO bb3 [(.int .i64 x4.1), (.int .i64 x4.2.1), (.bool x4.2.2.1), v5, v6], ownO (kF .f32) 40 v5 x4.2.2.2.1, ownO (kF .f32) 40 v6 x4.2.2.2.2, boxO bb2 [(.int .i64 x3.1), (.int .i64 x3.2.1), (.bool x3.2.2.1), v3, v4], ownO (kF .f32) 40 v3 x3.2.2.2.1, ownO (kF .f32) 40 v4 x3.2.2.2.2.1, ownO (kF .f32) 40 v1 x2.2.2.2.1, ownO (kF .f32) 40 v2 x2.2.2.2.2, boxO bb1 [(.int .i64 a0_0), (.int .i64 a0_1), (.bool a0_2), u0_3, u0_4]]) S_14 (Mod.size X_11) MT_12 T_12
    refine RL.opD (by decide) (opv_assign rfl rfl) ?_
    refine RL.nil ?_
    refine thnN ?_
    refine W.seq ?_
    refine W.seq ?_
    obtain ⟨x6, hy1, hp⟩ := Option.bind_eq_some_iff.1 hp
    refine W.cut (fun φ' h' => Fr.sub [(0, (.agg (List.toArray (α := Value) [(.int .i64 a0_0), (.int .i64 a0_1), (.bool a0_2), u0_3, u0_4]))), (1, (.int .i64 a1)), (2, u2), (3, (.pointer (some ⟨bb1, 0, none⟩))), (6, (.bool false)), (7, (.int .i64 x1)), (22, (.bool (decide (x1 < 0)))), (8, (.pointer (some ⟨bb2, 0, none⟩))), (9, (.bool x3.2.2.2.2.2)), (10, (.pointer (some ⟨bb3, 0, none⟩))), (11, (.pointer (some ⟨bb4, 0, none⟩))), (12, (.bool x5.2.2.2.2.2)), (48, (.bool x6))] φ' ∧ Mod [] h0 h' ∧ Sep [] h0.size h' [boxO bb4 [(.int .i64 x5.1), (.int .i64 x5.2.1), (.bool x5.2.2.1), v7, v8], ownO (kF .f32) 40 v7 x5.2.2.2.1, ownO (kF .f32) 40 v8 x5.2.2.2.2.1, boxO bb3 [(.int .i64 x4.1), (.int .i64 x4.2.1), (.bool x4.2.2.1), v5, v6], ownO (kF .f32) 40 v5 x4.2.2.2.1, ownO (kF .f32) 40 v6 x4.2.2.2.2, boxO bb2 [(.int .i64 x3.1), (.int .i64 x3.2.1), (.bool x3.2.2.1), v3, v4], ownO (kF .f32) 40 v3 x3.2.2.2.1, ownO (kF .f32) 40 v4 x3.2.2.2.2.1, ownO (kF .f32) 40 v1 x2.2.2.2.1, ownO (kF .f32) 40 v2 x2.2.2.2.2, boxO bb1 [(.int .i64 a0_0), (.int .i64 a0_1), (.bool a0_2), u0_3, u0_4]]) ?_ ?_
    · obtain ⟨x7, hx7, hy1⟩ := Option.bind_eq_some_iff.1 hy1
      by_cases c2 : (!x7) = true
      · rw [if_pos c2] at hy1
        refine W.region ?_
        refine RL.opD (by decide) (opv_loadA (us := [(.int .i64 x5.1), (.int .i64 x5.2.1), (.bool x5.2.2.1), v7, v8]) rfl Try.agg29 Try.size29 rfl (Sep.at (o := boxO bb4 [(.int .i64 x5.1), (.int .i64 x5.2.1), (.bool x5.2.2.1), v7, v8]) S_15 0 rfl) rfl rfl) ?_
        refine RL.opD (by decide) (opv_loadA (us := [(.int .i64 x3.1), (.int .i64 x3.2.1), (.bool x3.2.2.1), v3, v4]) rfl Try.agg29 Try.size29 rfl (Sep.at (o := boxO bb2 [(.int .i64 x3.1), (.int .i64 x3.2.1), (.bool x3.2.2.1), v3, v4]) S_15 6 rfl) rfl rfl) ?_
        refine RL.op _ (by decide) (opv_call (cap := []) (laws_eqSheet_ok _ _ _ _ _ _ (ownO.read (Sep.at (o := ownO (kF .f32) 40 v7 x5.2.2.2.1) S_15 1 rfl)) _ _ (ownO.read (Sep.at (o := ownO (kF .f32) 40 v8 x5.2.2.2.2.1) S_15 2 rfl)) _ _ _ _ _ (ownO.read (Sep.at (o := ownO (kF .f32) 40 v3 x3.2.2.2.1) S_15 7 rfl)) _ _ (ownO.read (Sep.at (o := ownO (kF .f32) 40 v4 x3.2.2.2.2.1) S_15 8 rfl)) _ hx7) rfl rfl ⟨rfl, rfl, trivial⟩ Try.func23 rfl rfl) ?_
        rintro _ hp13 ⟨rfl, MT_13, T_13⟩
        have X_13 : Mod [] h0 hp13 := Mod.step (A := []) (L := [boxO bb4 [(.int .i64 x5.1), (.int .i64 x5.2.1), (.bool x5.2.2.1), v7, v8], ownO (kF .f32) 40 v7 x5.2.2.2.1, ownO (kF .f32) 40 v8 x5.2.2.2.2.1, boxO bb3 [(.int .i64 x4.1), (.int .i64 x4.2.1), (.bool x4.2.2.1), v5, v6], ownO (kF .f32) 40 v5 x4.2.2.2.1, ownO (kF .f32) 40 v6 x4.2.2.2.2, boxO bb2 [(.int .i64 x3.1), (.int .i64 x3.2.1), (.bool x3.2.2.1), v3, v4], ownO (kF .f32) 40 v3 x3.2.2.2.1, ownO (kF .f32) 40 v4 x3.2.2.2.2.1, ownO (kF .f32) 40 v1 x2.2.2.2.1, ownO (kF .f32) 40 v2 x2.2.2.2.2, boxO bb1 [(.int .i64 a0_0), (.int .i64 a0_1), (.bool a0_2), u0_3, u0_4]]) X_12 S_15 MT_13
        have S_16 : Sep [] h0.size hp13 [boxO bb4 [(.int .i64 x5.1), (.int .i64 x5.2.1), (.bool x5.2.2.1), v7, v8], ownO (kF .f32) 40 v7 x5.2.2.2.1, ownO (kF .f32) 40 v8 x5.2.2.2.2.1, boxO bb3 [(.int .i64 x4.1), (.int .i64 x4.2.1), (.bool x4.2.2.1), v5, v6], ownO (kF .f32) 40 v5 x4.2.2.2.1, ownO (kF .f32) 40 v6 x4.2.2.2.2, boxO bb2 [(.int .i64 x3.1), (.int .i64 x3.2.1), (.bool x3.2.2.1), v3, v4], ownO (kF .f32) 40 v3 x3.2.2.2.1, ownO (kF .f32) 40 v4 x3.2.2.2.2.1, ownO (kF .f32) 40 v1 x2.2.2.2.1, ownO (kF .f32) 40 v2 x2.2.2.2.2, boxO bb1 [(.int .i64 a0_0), (.int .i64 a0_1), (.bool a0_2), u0_3, u0_4]] := Sep.step (A := []) (L := [boxO bb4 [(.int .i64 x5.1), (.int .i64 x5.2.1), (.bool x5.2.2.1), v7, v8], ownO (kF .f32) 40 v7 x5.2.2.2.1, ownO (kF .f32) 40 v8 x5.2.2.2.2.1, boxO bb3 [(.int .i64 x4.1), (.int .i64 x4.2.1), (.bool x4.2.2.1), v5, v6], ownO (kF .f32) 40 v5 x4.2.2.2.1, ownO (kF .f32) 40 v6 x4.2.2.2.2, boxO bb2 [(.int .i64 x3.1), (.int .i64 x3.2.1), (.bool x3.2.2.1), v3, v4], ownO (kF .f32) 40 v3 x3.2.2.2.1, ownO (kF .f32) 40 v4 x3.2.2.2.2.1, ownO (kF .f32) 40 v1 x2.2.2.2.1, ownO (kF .f32) 40 v2 x2.2.2.2.2, boxO bb1 [(.int .i64 a0_0), (.int .i64 a0_1), (.bool a0_2), u0_3, u0_4]]) S_15 (Mod.size X_12) MT_13 T_13
        refine RL.opD (by decide) (opv_not rfl rfl) ?_
        refine RL.opD (by decide) (opv_move rfl rfl) ?_
        refine RL.no rfl rfl (Eq.trans c2 (by decide)) (by decide) ?_
        refine RL.no rfl rfl (Eq.trans c2 (by decide)) (by decide) ?_
        refine RL.no rfl rfl (Eq.trans c2 (by decide)) (by decide) ?_
        refine RL.opD (by decide) (opv_pick rfl rfl (fun _ => rfl) (fun e => absurd (Eq.trans (Eq.symm e) c2) (by decide)) rfl) ?_
        refine RL.nil ?_
        have ey1 := Option.some.inj hy1
        subst ey1
        refine onlyN ?_
        exact ⟨⟨rfl, rfl, rfl, rfl, rfl, rfl, rfl, rfl, rfl, rfl, rfl, rfl, rfl, trivial⟩, X_13, (Sep.sel S_16 [0, 1, 2, 3, 4, 5, 6, 7, 8, 9, 10, 11] (by decide))⟩
      · rw [if_neg c2] at hy1
        have c2 := eq_false_of_ne_true c2
        refine W.region ?_
        refine RL.opD (by decide) (opv_loadA (us := [(.int .i64 x5.1), (.int .i64 x5.2.1), (.bool x5.2.2.1), v7, v8]) rfl Try.agg29 Try.size29 rfl (Sep.at (o := boxO bb4 [(.int .i64 x5.1), (.int .i64 x5.2.1), (.bool x5.2.2.1), v7, v8]) S_15 0 rfl) rfl rfl) ?_
        refine RL.opD (by decide) (opv_loadA (us := [(.int .i64 x3.1), (.int .i64 x3.2.1), (.bool x3.2.2.1), v3, v4]) rfl Try.agg29 Try.size29 rfl (Sep.at (o := boxO bb2 [(.int .i64 x3.1), (.int .i64 x3.2.1), (.bool x3.2.2.1), v3, v4]) S_15 6 rfl) rfl rfl) ?_
        refine RL.op _ (by decide) (opv_call (cap := []) (laws_eqSheet_ok _ _ _ _ _ _ (ownO.read (Sep.at (o := ownO (kF .f32) 40 v7 x5.2.2.2.1) S_15 1 rfl)) _ _ (ownO.read (Sep.at (o := ownO (kF .f32) 40 v8 x5.2.2.2.2.1) S_15 2 rfl)) _ _ _ _ _ (ownO.read (Sep.at (o := ownO (kF .f32) 40 v3 x3.2.2.2.1) S_15 7 rfl)) _ _ (ownO.read (Sep.at (o := ownO (kF .f32) 40 v4 x3.2.2.2.2.1) S_15 8 rfl)) _ hx7) rfl rfl ⟨rfl, rfl, trivial⟩ Try.func23 rfl rfl) ?_
        rintro _ hp13 ⟨rfl, MT_13, T_13⟩
        have X_13 : Mod [] h0 hp13 := Mod.step (A := []) (L := [boxO bb4 [(.int .i64 x5.1), (.int .i64 x5.2.1), (.bool x5.2.2.1), v7, v8], ownO (kF .f32) 40 v7 x5.2.2.2.1, ownO (kF .f32) 40 v8 x5.2.2.2.2.1, boxO bb3 [(.int .i64 x4.1), (.int .i64 x4.2.1), (.bool x4.2.2.1), v5, v6], ownO (kF .f32) 40 v5 x4.2.2.2.1, ownO (kF .f32) 40 v6 x4.2.2.2.2, boxO bb2 [(.int .i64 x3.1), (.int .i64 x3.2.1), (.bool x3.2.2.1), v3, v4], ownO (kF .f32) 40 v3 x3.2.2.2.1, ownO (kF .f32) 40 v4 x3.2.2.2.2.1, ownO (kF .f32) 40 v1 x2.2.2.2.1, ownO (kF .f32) 40 v2 x2.2.2.2.2, boxO bb1 [(.int .i64 a0_0), (.int .i64 a0_1), (.bool a0_2), u0_3, u0_4]]) X_12 S_15 MT_13
        have S_16 : Sep [] h0.size hp13 [boxO bb4 [(.int .i64 x5.1), (.int .i64 x5.2.1), (.bool x5.2.2.1), v7, v8], ownO (kF .f32) 40 v7 x5.2.2.2.1, ownO (kF .f32) 40 v8 x5.2.2.2.2.1, boxO bb3 [(.int .i64 x4.1), (.int .i64 x4.2.1), (.bool x4.2.2.1), v5, v6], ownO (kF .f32) 40 v5 x4.2.2.2.1, ownO (kF .f32) 40 v6 x4.2.2.2.2, boxO bb2 [(.int .i64 x3.1), (.int .i64 x3.2.1), (.bool x3.2.2.1), v3, v4], ownO (kF .f32) 40 v3 x3.2.2.2.1, ownO (kF .f32) 40 v4 x3.2.2.2.2.1, ownO (kF .f32) 40 v1 x2.2.2.2.1, ownO (kF .f32) 40 v2 x2.2.2.2.2, boxO bb1 [(.int .i64 a0_0), (.int .i64 a0_1), (.bool a0_2), u0_3, u0_4]] := Sep.step (A := []) (L := [boxO bb4 [(.int .i64 x5.1), (.int .i64 x5.2.1), (.bool x5.2.2.1), v7, v8], ownO (kF .f32) 40 v7 x5.2.2.2.1, ownO (kF .f32) 40 v8 x5.2.2.2.2.1, boxO bb3 [(.int .i64 x4.1), (.int .i64 x4.2.1), (.bool x4.2.2.1), v5, v6], ownO (kF .f32) 40 v5 x4.2.2.2.1, ownO (kF .f32) 40 v6 x4.2.2.2.2, boxO bb2 [(.int .i64 x3.1), (.int .i64 x3.2.1), (.bool x3.2.2.1), v3, v4], ownO (kF .f32) 40 v3 x3.2.2.2.1, ownO (kF .f32) 40 v4 x3.2.2.2.2.1, ownO (kF .f32) 40 v1 x2.2.2.2.1, ownO (kF .f32) 40 v2 x2.2.2.2.2, boxO bb1 [(.int .i64 a0_0), (.int .i64 a0_1), (.bool a0_2), u0_3, u0_4]]) S_15 (Mod.size X_12) MT_13 T_13
        refine RL.opD (by decide) (opv_not rfl rfl) ?_
        refine RL.opD (by decide) (opv_move rfl rfl) ?_
        refine RL.yes _ rfl rfl c2 (by decide) (opv_move rfl rfl) ?_
        rintro _ _ ⟨rfl, rfl⟩
        refine RL.yes _ rfl rfl c2 (by decide) (opv_move rfl rfl) ?_
        rintro _ _ ⟨rfl, rfl⟩
        refine RL.yes _ rfl rfl c2 (by decide) (opv_bcmp rfl rfl Try.underlying4 rfl rfl) ?_
        rintro _ _ ⟨rfl, rfl⟩
        refine RL.opD (by decide) (opv_pick rfl rfl (fun e => absurd (Eq.trans (Eq.symm e) c2) (by decide)) (fun _ => rfl) rfl) ?_
        refine RL.nil ?_
        have ey1 := Option.some.inj hy1
        subst ey1
        refine onlyN ?_
        exact ⟨⟨rfl, rfl, rfl, rfl, rfl, rfl, rfl, rfl, rfl, rfl, rfl, rfl, rfl, trivial⟩, X_13, (Sep.sel S_16 [0, 1, 2, 3, 4, 5, 6, 7, 8, 9, 10, 11] (by decide))⟩
    rintro φ' hp14 ⟨hs1, X_14, S_17⟩
    refine thnN ?_
    refine W.sub hs1 ?_
    by_cases c3 : x6 = true
    · rw [if_pos c3] at hp
      refine W.condT rfl c3 ?_
      refine W.seq ?_
      refine W.region ?_
      refine RL.opD (by decide) (opv_assign rfl rfl) ?_
      refine RL.nil ?_
      refine thnN ?_
      refine W.ret ?_
      refine thnR ?_
      have er := Option.some.inj hp
      subst er
      exact Rt.one rfl rfl ⟨rfl, X_14, (Sep.nil _ _ _)⟩
    · rw [if_neg c3] at hp
      have c3 := eq_false_of_ne_true c3
      refine W.condF rfl c3 ?_
      refine W.skip ?_
      refine thnN ?_
      refine W.seq ?_
      refine W.seq ?_
      obtain ⟨x8, hx8, hp⟩ := Option.bind_eq_some_iff.1 hp
      obtain ⟨x9, hx9, hp⟩ := Option.bind_eq_some_iff.1 hp
      refine W.sub (ψ := [(0, (.agg (List.toArray (α := Value) [(.int .i64 a0_0), (.int .i64 a0_1), (.bool a0_2), u0_3, u0_4]))), (1, (.int .i64 a1)), (2, u2), (3, (.pointer (some ⟨bb1, 0, none⟩))), (6, (.bool false)), (7, (.int .i64 x1)), (22, (.bool (decide (x1 < 0)))), (8, (.pointer (some ⟨bb2, 0, none⟩))), (9, (.bool x3.2.2.2.2.2)), (10, (.pointer (some ⟨bb3, 0, none⟩))), (11, (.pointer (some ⟨bb4, 0, none⟩))), (12, (.bool x5.2.2.2.2.2)), (48, (.bool x6))]) ⟨rfl, rfl, rfl, rfl, rfl, rfl, rfl, rfl, rfl, rfl, rfl, rfl, rfl, trivial⟩ ?_
      refine W.regionM [fun v _ => @Eq Value (.agg (List.toArray (α := Value) [(.int .i64 x4.1), (.int .i64 x4.2.1), (.bool x4.2.2.1), v5, v6])) v, fun v _ => @Eq Value (.agg (List.toArray (α := Value) [(.int .i64 a0_0), (.int .i64 a0_1), (.bool a0_2), u0_3, u0_4])) v, fun v h => ∃ v9, ∃ v10, @Eq Value v (.agg (List.toArray (α := Value) [(.int .i64 x8.1), (.int .i64 x8.2.1), (.bool x8.2.2.1), v9, v10])) ∧ Sep [] hp14.size h [ownO (kF .f32) 40 v9 x8.2.2.2.1, ownO (kF .f32) 40 v10 x8.2.2.2.2], fun v h => @Eq Value v (.bool x9) ∧ Sep [] hp14.size h [], fun v _ => @Eq Value (.bool (!x9)) v] [none, none, some (fun u => [Value.ownBlock (vget u 3), Value.ownBlock (vget u 4)]), some (fun u => []), none] [] [[], [], [1], [0, 2], [3]] [4] Try.mixed (by decide +kernel) (by decide +kernel) rfl rfl rfl (by decide +kernel) rfl ⟨fun _ _ _ h _ => h, fun _ _ _ h _ => h, fun _ _ _ ⟨u0_, u1_, e, h⟩ x => ⟨u0_, u1_, e, h.ext x⟩, fun _ _ _ ⟨e, h⟩ x => ⟨e, h.ext x⟩, fun _ _ _ h _ => h, trivial⟩ ?_ ?_
      · refine ⟨⟨rfl, ?_⟩, ⟨rfl, ?_⟩, ⟨rfl, ?_⟩, ⟨rfl, ?_⟩, ⟨rfl, ?_⟩, trivial⟩
        · rintro hp17 E_1
          refine Dep.nil ?_
          refine GuardOK.none rfl ?_
          exact OpV.toDx (opv_loadA (us := [(.int .i64 x4.1), (.int .i64 x4.2.1), (.bool x4.2.2.1), v5, v6]) rfl Try.agg29 Try.size29 rfl (Sep.at (o := boxO bb3 [(.int .i64 x4.1), (.int .i64 x4.2.1), (.bool x4.2.2.1), v5, v6]) (Sep.ext S_17 E_1) 3 rfl) rfl rfl) rfl
        · rintro hp18 E_2
          refine Dep.nil ?_
          refine GuardOK.none rfl ?_
          exact OpV.toDx (opv_loadA (us := [(.int .i64 a0_0), (.int .i64 a0_1), (.bool a0_2), u0_3, u0_4]) rfl Try.agg24 Try.size24 rfl (Sep.at (o := boxO bb1 [(.int .i64 a0_0), (.int .i64 a0_1), (.bool a0_2), u0_3, u0_4]) (Sep.ext S_17 E_2) 11 rfl) rfl rfl) rfl
        · rintro hp19 E_3 _ rfl
          refine Dep.nil ?_
          refine GuardOK.none rfl ?_
          exact OpV.mono (opv_call (cap := []) (laws_toSheet_ok _ _ _ _ _ _ (SL.up (SL.mod g0_3 (Mod.lift X_14 E_3) (Nat.le_refl _) nob) (Nat.le_trans (Nat.le_refl _) (Mod.size (Mod.lift X_14 E_3)))) _ _ (SL.up (SL.mod g0_4 (Mod.lift X_14 E_3) (Nat.le_refl _) nob) (Nat.le_trans (Nat.le_refl _) (Mod.size (Mod.lift X_14 E_3)))) _ hx8) rfl rfl ⟨rfl, trivial⟩ Try.func20 rfl rfl) (by rintro _ _ ⟨v9, v10, rfl, M_, T_⟩; exact ⟨Mod.ext M_, ⟨v9, v10, rfl, Sep.weak T_ (Ext.size E_3)⟩, Sep.fresh T_⟩)
        · rintro hp20 E_4 _ rfl _ ⟨v9, v10, rfl, T_14⟩
          refine Dep.nil ?_
          refine GuardOK.none rfl ?_
          exact OpV.mono (opv_call (cap := []) (laws_eqSheet_ok _ _ _ _ _ _ (ownO.read (Sep.at (o := ownO (kF .f32) 40 v5 x4.2.2.2.1) (Sep.ext S_17 E_4) 4 rfl)) _ _ (ownO.read (Sep.at (o := ownO (kF .f32) 40 v6 x4.2.2.2.2) (Sep.ext S_17 E_4) 5 rfl)) _ _ _ _ _ (ownO.read (Sep.at (o := ownO (kF .f32) 40 v9 x8.2.2.2.1) T_14 0 rfl)) _ _ (ownO.read (Sep.at (o := ownO (kF .f32) 40 v10 x8.2.2.2.2) T_14 1 rfl)) _ hx9) rfl rfl ⟨rfl, rfl, trivial⟩ Try.func23 rfl rfl) (by rintro _ _ ⟨rfl, M_, T_⟩; exact ⟨Mod.ext M_, ⟨rfl, Sep.weak T_ (Ext.size E_4)⟩, Sep.fresh T_⟩)
        · rintro hp21 E_5 _ ⟨rfl, T_15⟩
          refine Dep.nil ?_
          refine GuardOK.none rfl ?_
          exact OpV.toDx (opv_not rfl rfl) rfl
      rintro hp22 E_6 _ rfl
      refine DepM.nil ?_
      intro _ LK_
      have X_17 : Mod [] h0 hp22 := Mod.lift X_14 E_6
      have S_20 : Sep [] h0.size hp22 [boxO bb4 [(.int .i64 x5.1), (.int .i64 x5.2.1), (.bool x5.2.2.1), v7, v8], ownO (kF .f32) 40 v7 x5.2.2.2.1, ownO (kF .f32) 40 v8 x5.2.2.2.2.1, boxO bb3 [(.int .i64 x4.1), (.int .i64 x4.2.1), (.bool x4.2.2.1), v5, v6], ownO (kF .f32) 40 v5 x4.2.2.2.1, ownO (kF .f32) 40 v6 x4.2.2.2.2, boxO bb2 [(.int .i64 x3.1), (.int .i64 x3.2.1), (.bool x3.2.2.1), v3, v4], ownO (kF .f32) 40 v3 x3.2.2.2.1, ownO (kF .f32) 40 v4 x3.2.2.2.2.1, ownO (kF .f32) 40 v1 x2.2.2.2.1, ownO (kF .f32) 40 v2 x2.2.2.2.2, boxO bb1 [(.int .i64 a0_0), (.int .i64 a0_1), (.bool a0_2), u0_3, u0_4]] := Sep.ext S_17 E_6
      show RL _ _ _ _ [] _ _
      refine RL.nil ?_
      refine thnN ?_
      by_cases c4 : (!x9) = true
      · rw [if_pos c4] at hp
        refine W.condT rfl c4 ?_
        refine W.seq ?_
        refine W.region ?_
        refine RL.opD (by decide) (opv_assign rfl rfl) ?_
        refine RL.nil ?_
        refine thnN ?_
        refine W.ret ?_
        refine thnR ?_
        have er := Option.some.inj hp
        subst er
        exact Rt.one rfl rfl ⟨rfl, X_17, (Sep.nil _ _ _)⟩
      · rw [if_neg c4] at hp
        have c4 := eq_false_of_ne_true c4
        refine W.condF rfl c4 ?_
        refine W.skip ?_
        refine thnN ?_
        refine W.seq ?_
        refine W.region ?_
        refine RL.opD (by decide) (opv_assign rfl rfl) ?_
        refine RL.nil ?_
        refine thnN ?_
        refine W.seq ?_
        obtain ⟨x10, hx10, hp⟩ := Option.bind_eq_some_iff.1 hp
        refine W.region ?_
        refine RL.opD (by decide) (opv_loadA (us := [(.int .i64 x4.1), (.int .i64 x4.2.1), (.bool x4.2.2.1), v5, v6]) rfl Try.agg29 Try.size29 rfl (Sep.at (o := boxO bb3 [(.int .i64 x4.1), (.int .i64 x4.2.1), (.bool x4.2.2.1), v5, v6]) S_20 3 rfl) rfl rfl) ?_
        refine RL.opD (by decide) (opv_move rfl rfl) ?_
        have S_22 : Sep [] h0.size hp22 [ownO (kF .f32) 40 v5 x4.2.2.2.1, ownO (kF .f32) 40 v6 x4.2.2.2.2] := Sep.sel S_20 [4, 5] (by decide)
        have S_21 : Sep [v5.ownBlock, v6.ownBlock] hp22.size hp22 [ownO (kF .f32) 40 v5 x4.2.2.2.1, ownO (kF .f32) 40 v6 x4.2.2.2.2] := Sep.own S_22 _
        refine RL.op _ (by decide) (opv_call (cap := []) (laws_markSheet_ok _ h0.size (Nat.le_trans (Nat.le_refl _) (Mod.size X_17)) _ _ _ _ _ _ _ _ S_21 (Sep.ge (L := [ownO (kF .f32) 40 v5 x4.2.2.2.1, ownO (kF .f32) 40 v6 x4.2.2.2.2]) S_22 (Nat.le_refl _) nob) _ hx10) rfl rfl ⟨rfl, rfl, trivial⟩ Try.func44 rfl rfl) ?_
        rintro _ hp23 ⟨rfl, MT_16, T_16⟩
        have S_23 : Sep [] h0.size hp22 ([ownO (kF .f32) 40 v5 x4.2.2.2.1, ownO (kF .f32) 40 v6 x4.2.2.2.2] ++ [boxO bb4 [(.int .i64 x5.1), (.int .i64 x5.2.1), (.bool x5.2.2.1), v7, v8], ownO (kF .f32) 40 v7 x5.2.2.2.1, ownO (kF .f32) 40 v8 x5.2.2.2.2.1, boxO bb3 [(.int .i64 x4.1), (.int .i64 x4.2.1), (.bool x4.2.2.1), v5, v6], boxO bb2 [(.int .i64 x3.1), (.int .i64 x3.2.1), (.bool x3.2.2.1), v3, v4], ownO (kF .f32) 40 v3 x3.2.2.2.1, ownO (kF .f32) 40 v4 x3.2.2.2.2.1, ownO (kF .f32) 40 v1 x2.2.2.2.1, ownO (kF .f32) 40 v2 x2.2.2.2.2, boxO bb1 [(.int .i64 a0_0), (.int .i64 a0_1), (.bool a0_2), u0_3, u0_4]]) := Sep.sel S_20 [4, 5, 0, 1, 2, 3, 6, 7, 8, 9, 10, 11] (by decide)
        have X_18 : Mod [] h0 hp23 := Mod.step (A := [ownO (kF .f32) 40 v5 x4.2.2.2.1, ownO (kF .f32) 40 v6 x4.2.2.2.2]) (L := [boxO bb4 [(.int .i64 x5.1), (.int .i64 x5.2.1), (.bool x5.2.2.1), v7, v8], ownO (kF .f32) 40 v7 x5.2.2.2.1, ownO (kF .f32) 40 v8 x5.2.2.2.2.1, boxO bb3 [(.int .i64 x4.1), (.int .i64 x4.2.1), (.bool x4.2.2.1), v5, v6], boxO bb2 [(.int .i64 x3.1), (.int .i64 x3.2.1), (.bool x3.2.2.1), v3, v4], ownO (kF .f32) 40 v3 x3.2.2.2.1, ownO (kF .f32) 40 v4 x3.2.2.2.2.1, ownO (kF .f32) 40 v1 x2.2.2.2.1, ownO (kF .f32) 40 v2 x2.2.2.2.2, boxO bb1 [(.int .i64 a0_0), (.int .i64 a0_1), (.bool a0_2), u0_3, u0_4]]) X_17 S_23 MT_16
        have S_24 : Sep [] h0.size hp23 [ownO (kF .f32) 40 v5 x10.2.1, ownO (kF .f32) 40 v6 x10.2.2, boxO bb4 [(.int .i64 x5.1), (.int .i64 x5.2.1), (.bool x5.2.2.1), v7, v8], ownO (kF .f32) 40 v7 x5.2.2.2.1, ownO (kF .f32) 40 v8 x5.2.2.2.2.1, boxO bb3 [(.int .i64 x4.1), (.int .i64 x4.2.1), (.bool x4.2.2.1), v5, v6], boxO bb2 [(.int .i64 x3.1), (.int .i64 x3.2.1), (.bool x3.2.2.1), v3, v4], ownO (kF .f32) 40 v3 x3.2.2.2.1, ownO (kF .f32) 40 v4 x3.2.2.2.2.1, ownO (kF .f32) 40 v1 x2.2.2.2.1, ownO (kF .f32) 40 v2 x2.2.2.2.2, boxO bb1 [(.int .i64 a0_0), (.int .i64 a0_1), (.bool a0_2), u0_3, u0_4]] := Sep.step (A := [ownO (kF .f32) 40 v5 x4.2.2.2.1, ownO (kF .f32) 40 v6 x4.2.2.2.2]) (L := [boxO bb4 [(.int .i64 x5.1), (.int .i64 x5.2.1), (.bool x5.2.2.1), v7, v8], ownO (kF .f32) 40 v7 x5.2.2.2.1, ownO (kF .f32) 40 v8 x5.2.2.2.2.1, boxO bb3 [(.int .i64 x4.1), (.int .i64 x4.2.1), (.bool x4.2.2.1), v5, v6], boxO bb2 [(.int .i64 x3.1), (.int .i64 x3.2.1), (.bool x3.2.2.1), v3, v4], ownO (kF .f32) 40 v3 x3.2.2.2.1, ownO (kF .f32) 40 v4 x3.2.2.2.2.1, ownO (kF .f32) 40 v1 x2.2.2.2.1, ownO (kF .f32) 40 v2 x2.2.2.2.2, boxO bb1 [(.int .i64 a0_0), (.int .i64 a0_1), (.bool a0_2), u0_3, u0_4]]) S_23 (Mod.size X_17) MT_16 T_16
        refine RL.opD (by decide) (opv_assign rfl rfl) ?_
        refine RL.nil ?_
        refine thnN ?_
        refine W.seq ?_
        refine W.seq ?_
        obtain ⟨x11, hy2, hp⟩ := Option.bind_eq_some_iff.1 hp
        refine W.cut (fun φ' h' => Fr.sub [(0, (.agg (List.toArray (α := Value) [(.int .i64 a0_0), (.int .i64 a0_1), (.bool a0_2), u0_3, u0_4]))), (1, (.int .i64 a1)), (2, u2), (3, (.pointer (some ⟨bb1, 0, none⟩))), (6, (.bool false)), (7, (.int .i64 x1)), (22, (.bool (decide (x1 < 0)))), (8, (.pointer (some ⟨bb2, 0, none⟩))), (9, (.bool x3.2.2.2.2.2)), (10, (.pointer (some ⟨bb3, 0, none⟩))), (11, (.pointer (some ⟨bb4, 0, none⟩))), (12, (.bool x5.2.2.2.2.2)), (48, (.bool x6)), (53, (.bool (!x9))), (13, (.int .i64 x10.1)), (69, (.bool x11))] φ' ∧ Mod [] h0 h' ∧ Sep [] h0.size h' [ownO (kF .f32) 40 v5 x10.2.1, ownO (kF .f32) 40 v6 x10.2.2, boxO bb4 [(.int .i64 x5.1), (.int .i64 x5.2.1), (.bool x5.2.2.1), v7, v8], ownO (kF .f32) 40 v7 x5.2.2.2.1, ownO (kF .f32) 40 v8 x5.2.2.2.2.1, boxO bb3 [(.int .i64 x4.1), (.int .i64 x4.2.1), (.bool x4.2.2.1), v5, v6], boxO bb2 [(.int .i64 x3.1), (.int .i64 x3.2.1), (.bool x3.2.2.1), v3, v4], ownO (kF .f32) 40 v3 x3.2.2.2.1, ownO (kF .f32) 40 v4 x3.2.2.2.2.1, ownO (kF .f32) 40 v1 x2.2.2.2.1, ownO (kF .f32) 40 v2 x2.2.2.2.2, boxO bb1 [(.int .i64 a0_0), (.int .i64 a0_1), (.bool a0_2), u0_3, u0_4]]) ?_ ?_
        · by_cases c5 : (decide (x10.1 < 0)) = true
          · rw [if_pos c5] at hy2
            refine W.region ?_
            refine RL.opD (by decide) (opv_move rfl rfl) ?_
            refine RL.opD (by decide) (opv_icmp rfl rfl rfl rfl) ?_
            refine RL.opD (by decide) (opv_move rfl rfl) ?_
            refine RL.no rfl rfl (Eq.trans c5 (by decide)) (by decide) ?_
            refine RL.no rfl rfl (Eq.trans c5 (by decide)) (by decide) ?_
            refine RL.no rfl rfl (Eq.trans c5 (by decide)) (by decide) ?_
            refine RL.no rfl rfl (Eq.trans c5 (by decide)) (by decide) ?_
            refine RL.opD (by decide) (opv_pick rfl rfl (fun _ => rfl) (fun e => absurd (Eq.trans (Eq.symm e) c5) (by decide)) rfl) ?_
            refine RL.opD (by decide) (opv_move rfl rfl) ?_
            refine RL.no rfl rfl (Eq.trans rfl (by decide)) (by decide) ?_
            refine RL.no rfl rfl (Eq.trans rfl (by decide)) (by decide) ?_
            refine RL.no rfl rfl (Eq.trans rfl (by decide)) (by decide) ?_
            refine RL.opD (by decide) (opv_pick rfl rfl (fun _ => rfl) (fun e => absurd (Eq.trans (Eq.symm e) rfl) (by decide)) rfl) ?_
            refine RL.nil ?_
            have ey2 := Option.some.inj hy2
            subst ey2
            refine onlyN ?_
            exact ⟨⟨rfl, rfl, rfl, rfl, rfl, rfl, rfl, rfl, rfl, rfl, rfl, rfl, rfl, rfl, rfl, rfl, trivial⟩, X_18, (Sep.sel S_24 [0, 1, 2, 3, 4, 5, 6, 7, 8, 9, 10, 11] (by decide))⟩
          · rw [if_neg c5] at hy2
            have c5 := eq_false_of_ne_true c5
            obtain ⟨x12, hx12, hy2⟩ := Option.bind_eq_some_iff.1 hy2
            by_cases c6 : (!x12) = true
            · rw [if_pos c6] at hy2
              refine W.region ?_
              refine RL.opD (by decide) (opv_move rfl rfl) ?_
              refine RL.opD (by decide) (opv_icmp rfl rfl rfl rfl) ?_
              refine RL.opD (by decide) (opv_move rfl rfl) ?_
              refine RL.yes _ rfl rfl c5 (by decide) (opv_loadA (us := [(.int .i64 x5.1), (.int .i64 x5.2.1), (.bool x5.2.2.1), v7, v8]) rfl Try.agg29 Try.size29 rfl (Sep.at (o := boxO bb4 [(.int .i64 x5.1), (.int .i64 x5.2.1), (.bool x5.2.2.1), v7, v8]) S_24 2 rfl) rfl rfl) ?_
              rintro _ _ ⟨rfl, rfl⟩
              refine RL.yes _ rfl rfl c5 (by decide) (opv_loadA (us := [(.int .i64 x3.1), (.int .i64 x3.2.1), (.bool x3.2.2.1), v3, v4]) rfl Try.agg29 Try.size29 rfl (Sep.at (o := boxO bb2 [(.int .i64 x3.1), (.int .i64 x3.2.1), (.bool x3.2.2.1), v3, v4]) S_24 6 rfl) rfl rfl) ?_
              rintro _ _ ⟨rfl, rfl⟩
              refine RL.yes _ rfl rfl c5 (by decide) (opv_call (cap := []) (laws_eqSheet_ok _ _ _ _ _ _ (ownO.read (Sep.at (o := ownO (kF .f32) 40 v7 x5.2.2.2.1) S_24 3 rfl)) _ _ (ownO.read (Sep.at (o := ownO (kF .f32) 40 v8 x5.2.2.2.2.1) S_24 4 rfl)) _ _ _ _ _ (ownO.read (Sep.at (o := ownO (kF .f32) 40 v3 x3.2.2.2.1) S_24 7 rfl)) _ _ (ownO.read (Sep.at (o := ownO (kF .f32) 40 v4 x3.2.2.2.2.1) S_24 8 rfl)) _ hx12) rfl rfl ⟨rfl, rfl, trivial⟩ Try.func23 rfl rfl) ?_
              rintro _ hp24 ⟨rfl, MT_17, T_17⟩
              have X_19 : Mod [] h0 hp24 := Mod.step (A := []) (L := [ownO (kF .f32) 40 v5 x10.2.1, ownO (kF .f32) 40 v6 x10.2.2, boxO bb4 [(.int .i64 x5.1), (.int .i64 x5.2.1), (.bool x5.2.2.1), v7, v8], ownO (kF .f32) 40 v7 x5.2.2.2.1, ownO (kF .f32) 40 v8 x5.2.2.2.2.1, boxO bb3 [(.int .i64 x4.1), (.int .i64 x4.2.1), (.bool x4.2.2.1), v5, v6], boxO bb2 [(.int .i64 x3.1), (.int .i64 x3.2.1), (.bool x3.2.2.1), v3, v4], ownO (kF .f32) 40 v3 x3.2.2.2.1, ownO (kF .f32) 40 v4 x3.2.2.2.2.1, ownO (kF .f32) 40 v1 x2.2.2.2.1, ownO (kF .f32) 40 v2 x2.2.2.2.2, boxO bb1 [(.int .i64 a0_0), (.int .i64 a0_1), (.bool a0_2), u0_3, u0_4]]) X_18 S_24 MT_17
              have S_25 : Sep [] h0.size hp24 [ownO (kF .f32) 40 v5 x10.2.1, ownO (kF .f32) 40 v6 x10.2.2, boxO bb4 [(.int .i64 x5.1), (.int .i64 x5.2.1), (.bool x5.2.2.1), v7, v8], ownO (kF .f32) 40 v7 x5.2.2.2.1, ownO (kF .f32) 40 v8 x5.2.2.2.2.1, boxO bb3 [(.int .i64 x4.1), (.int .i64 x4.2.1), (.bool x4.2.2.1), v5, v6], boxO bb2 [(.int .i64 x3.1), (.int .i64 x3.2.1), (.bool x3.2.2.1), v3, v4], ownO (kF .f32) 40 v3 x3.2.2.2.1, ownO (kF .f32) 40 v4 x3.2.2.2.2.1, ownO (kF .f32) 40 v1 x2.2.2.2.1, ownO (kF .f32) 40 v2 x2.2.2.2.2, boxO bb1 [(.int .i64 a0_0), (.int .i64 a0_1), (.bool a0_2), u0_3, u0_4]] := Sep.step (A := []) (L := [ownO (kF .f32) 40 v5 x10.2.1, ownO (kF .f32) 40 v6 x10.2.2, boxO bb4 [(.int .i64 x5.1), (.int .i64 x5.2.1), (.bool x5.2.2.1), v7, v8], ownO (kF .f32) 40 v7 x5.2.2.2.1, ownO (kF .f32) 40 v8 x5.2.2.2.2.1, boxO bb3 [(.int .i64 x4.1), (.int .i64 x4.2.1), (.bool x4.2.2.1), v5, v6], boxO bb2 [(.int .i64 x3.1), (.int .i64 x3.2.1), (.bool x3.2.2.1), v3, v4], ownO (kF .f32) 40 v3 x3.2.2.2.1, ownO (kF .f32) 40 v4 x3.2.2.2.2.1, ownO (kF .f32) 40 v1 x2.2.2.2.1, ownO (kF .f32) 40 v2 x2.2.2.2.2, boxO bb1 [(.int .i64 a0_0), (.int .i64 a0_1), (.bool a0_2), u0_3, u0_4]]) S_24 (Mod.size X_18) MT_17 T_17
              refine RL.yes _ rfl rfl c5 (by decide) (opv_not rfl rfl) ?_
              rintro _ _ ⟨rfl, rfl⟩
              refine RL.opD (by decide) (opv_pick rfl rfl (fun e => absurd (Eq.trans (Eq.symm e) c5) (by decide)) (fun _ => rfl) rfl) ?_
              refine RL.opD (by decide) (opv_move rfl rfl) ?_
              refine RL.no rfl rfl (Eq.trans c6 (by decide)) (by decide) ?_
              refine RL.no rfl rfl (Eq.trans c6 (by decide)) (by decide) ?_
              refine RL.no rfl rfl (Eq.trans c6 (by decide)) (by decide) ?_
              refine RL.opD (by decide) (opv_pick rfl rfl (fun _ => rfl) (fun e => absurd (Eq.trans (Eq.symm e) c6) (by decide)) rfl) ?_
              refine RL.nil ?_
              have ey2 := Option.some.inj hy2
              subst ey2
              refine onlyN ?_
              exact ⟨⟨rfl, rfl, rfl, rfl, rfl, rfl, rfl, rfl, rfl, rfl, rfl, rfl, rfl, rfl, rfl, rfl, trivial⟩, X_19, (Sep.sel S_25 [0, 1, 2, 3, 4, 5, 6, 7, 8, 9, 10, 11] (by decide))⟩
            · rw [if_neg c6] at hy2
              have c6 := eq_false_of_ne_true c6
              refine W.region ?_
              refine RL.opD (by decide) (opv_move rfl rfl) ?_
              refine RL.opD (by decide) (opv_icmp rfl rfl rfl rfl) ?_
              refine RL.opD (by decide) (opv_move rfl rfl) ?_
              refine RL.yes _ rfl rfl c5 (by decide) (opv_loadA (us := [(.int .i64 x5.1), (.int .i64 x5.2.1), (.bool x5.2.2.1), v7, v8]) rfl Try.agg29 Try.size29 rfl (Sep.at (o := boxO bb4 [(.int .i64 x5.1), (.int .i64 x5.2.1), (.bool x5.2.2.1), v7, v8]) S_24 2 rfl) rfl rfl) ?_
              rintro _ _ ⟨rfl, rfl⟩
              refine RL.yes _ rfl rfl c5 (by decide) (opv_loadA (us := [(.int .i64 x3.1), (.int .i64 x3.2.1), (.bool x3.2.2.1), v3, v4]) rfl Try.agg29 Try.size29 rfl (Sep.at (o := boxO bb2 [(.int .i64 x3.1), (.int .i64 x3.2.1), (.bool x3.2.2.1), v3, v4]) S_24 6 rfl) rfl rfl) ?_
              rintro _ _ ⟨rfl, rfl⟩
              refine RL.yes _ rfl rfl c5 (by decide) (opv_call (cap := []) (laws_eqSheet_ok _ _ _ _ _ _ (ownO.read (Sep.at (o := ownO (kF .f32) 40 v7 x5.2.2.2.1) S_24 3 rfl)) _ _ (ownO.read (Sep.at (o := ownO (kF .f32) 40 v8 x5.2.2.2.2.1) S_24 4 rfl)) _ _ _ _ _ (ownO.read (Sep.at (o := ownO (kF .f32) 40 v3 x3.2.2.2.1) S_24 7 rfl)) _ _ (ownO.read (Sep.at (o := ownO (kF .f32) 40 v4 x3.2.2.2.2.1) S_24 8 rfl)) _ hx12) rfl rfl ⟨rfl, rfl, trivial⟩ Try.func23 rfl rfl) ?_
              rintro _ hp24 ⟨rfl, MT_17, T_17⟩
              have X_19 : Mod [] h0 hp24 := Mod.step (A := []) (L := [ownO (kF .f32) 40 v5 x10.2.1, ownO (kF .f32) 40 v6 x10.2.2, boxO bb4 [(.int .i64 x5.1), (.int .i64 x5.2.1), (.bool x5.2.2.1), v7, v8], ownO (kF .f32) 40 v7 x5.2.2.2.1, ownO (kF .f32) 40 v8 x5.2.2.2.2.1, boxO bb3 [(.int .i64 x4.1), (.int .i64 x4.2.1), (.bool x4.2.2.1), v5, v6], boxO bb2 [(.int .i64 x3.1), (.int .i64 x3.2.1), (.bool x3.2.2.1), v3, v4], ownO (kF .f32) 40 v3 x3.2.2.2.1, ownO (kF .f32) 40 v4 x3.2.2.2.2.1, ownO (kF .f32) 40 v1 x2.2.2.2.1, ownO (kF .f32) 40 v2 x2.2.2.2.2, boxO bb1 [(.int .i64 a0_0), (.int .i64 a0_1), (.bool a0_2), u0_3, u0_4]]) X_18 S_24 MT_17
              have S_25 : Sep [] h0.size hp24 [ownO (kF .f32) 40 v5 x10.2.1, ownO (kF .f32) 40 v6 x10.2.2, boxO bb4 [(.int .i64 x5.1), (.int .i64 x5.2.1), (.bool x5.2.2.1), v7, v8], ownO (kF .f32) 40 v7 x5.2.2.2.1, ownO (kF .f32) 40 v8 x5.2.2.2.2.1, boxO bb3 [(.int .i64 x4.1), (.int .i64 x4.2.1), (.bool x4.2.2.1), v5, v6], boxO bb2 [(.int .i64 x3.1), (.int .i64 x3.2.1), (.bool x3.2.2.1), v3, v4], ownO (kF .f32) 40 v3 x3.2.2.2.1, ownO (kF .f32) 40 v4 x3.2.2.2.2.1, ownO (kF .f32) 40 v1 x2.2.2.2.1, ownO (kF .f32) 40 v2 x2.2.2.2.2, boxO bb1 [(.int .i64 a0_0), (.int .i64 a0_1), (.bool a0_2), u0_3, u0_4]] := Sep.step (A := []) (L := [ownO (kF .f32) 40 v5 x10.2.1, ownO (kF .f32) 40 v6 x10.2.2, boxO bb4 [(.int .i64 x5.1), (.int .i64 x5.2.1), (.bool x5.2.2.1), v7, v8], ownO (kF .f32) 40 v7 x5.2.2.2.1, ownO (kF .f32) 40 v8 x5.2.2.2.2.1, boxO bb3 [(.int .i64 x4.1), (.int .i64 x4.2.1), (.bool x4.2.2.1), v5, v6], boxO bb2 [(.int .i64 x3.1), (.int .i64 x3.2.1), (.bool x3.2.2.1), v3, v4], ownO (kF .f32) 40 v3 x3.2.2.2.1, ownO (kF .f32) 40 v4 x3.2.2.2.2.1, ownO (kF .f32) 40 v1 x2.2.2.2.1, ownO (kF .f32) 40 v2 x2.2.2.2.2, boxO bb1 [(.int .i64 a0_0), (.int .i64 a0_1), (.bool a0_2), u0_3, u0_4]]) S_24 (Mod.size X_18) MT_17 T_17
              refine RL.yes _ rfl rfl c5 (by decide) (opv_not rfl rfl) ?_
              rintro _ _ ⟨rfl, rfl⟩
              refine RL.opD (by decide) (opv_pick rfl rfl (fun e => absurd (Eq.trans (Eq.symm e) c5) (by decide)) (fun _ => rfl) rfl) ?_
              refine RL.opD (by decide) (opv_move rfl rfl) ?_
              refine RL.yes _ rfl rfl c6 (by decide) (opv_move rfl rfl) ?_
              rintro _ _ ⟨rfl, rfl⟩
              refine RL.yes _ rfl rfl c6 (by decide) (opv_move rfl rfl) ?_
              rintro _ _ ⟨rfl, rfl⟩
              refine RL.yes _ rfl rfl c6 (by decide) (opv_bcmp rfl rfl Try.underlying4 rfl rfl) ?_
              rintro _ _ ⟨rfl, rfl⟩
              refine RL.opD (by decide) (opv_pick rfl rfl (fun e => absurd (Eq.trans (Eq.symm e) c6) (by decide)) (fun _ => rfl) rfl) ?_
              refine RL.nil ?_
              have ey2 := Option.some.inj hy2
              subst ey2
              refine onlyN ?_
              exact ⟨⟨rfl, rfl, rfl, rfl, rfl, rfl, rfl, rfl, rfl, rfl, rfl, rfl, rfl, rfl, rfl, rfl, trivial⟩, X_19, (Sep.sel S_25 [0, 1, 2, 3, 4, 5, 6, 7, 8, 9, 10, 11] (by decide))⟩
        rintro φ' hp25 ⟨hs2, X_20, S_26⟩
        refine thnN ?_
        refine W.sub hs2 ?_
        by_cases c7 : x11 = true
        · rw [if_pos c7] at hp
          refine W.condT rfl c7 ?_
          refine W.seq ?_
          refine W.region ?_
          refine RL.opD (by decide) (opv_assign rfl rfl) ?_
          refine RL.nil ?_
          refine thnN ?_
          refine W.ret ?_
          refine thnR ?_
          have er := Option.some.inj hp
          subst er
          exact Rt.one rfl rfl ⟨rfl, X_20, (Sep.nil _ _ _)⟩
        · rw [if_neg c7] at hp
          have c7 := eq_false_of_ne_true c7
          refine W.condF rfl c7 ?_
          refine W.skip ?_
          refine thnN ?_
          refine W.seq ?_
          refine W.region ?_
          refine RL.opD (by decide) (opv_assign rfl rfl) ?_
          refine RL.nil ?_
          refine thnN ?_
          refine W.seq ?_
          obtain ⟨x13, hx13, hp⟩ := Option.bind_eq_some_iff.1 hp
          refine W.region ?_
          refine RL.opD (by decide) (opv_loadA (us := [(.int .i64 x5.1), (.int .i64 x5.2.1), (.bool x5.2.2.1), v7, v8]) rfl Try.agg29 Try.size29 rfl (Sep.at (o := boxO bb4 [(.int .i64 x5.1), (.int .i64 x5.2.1), (.bool x5.2.2.1), v7, v8]) S_26 2 rfl) rfl rfl) ?_
          refine RL.opD (by decide) (opv_move rfl rfl) ?_
          have S_28 : Sep [] h0.size hp25 [ownO (kF .f32) 40 v7 x5.2.2.2.1, ownO (kF .f32) 40 v8 x5.2.2.2.2.1] := Sep.sel S_26 [3, 4] (by decide)
          have S_27 : Sep [v7.ownBlock, v8.ownBlock] hp25.size hp25 [ownO (kF .f32) 40 v7 x5.2.2.2.1, ownO (kF .f32) 40 v8 x5.2.2.2.2.1] := Sep.own S_28 _
          refine RL.op _ (by decide) (opv_call (cap := []) (laws_markSheet_ok _ h0.size (Nat.le_trans (Nat.le_refl _) (Mod.size X_20)) _ _ _ _ _ _ _ _ S_27 (Sep.ge (L := [ownO (kF .f32) 40 v7 x5.2.2.2.1, ownO (kF .f32) 40 v8 x5.2.2.2.2.1]) S_28 (Nat.le_refl _) nob) _ hx13) rfl rfl ⟨rfl, rfl, trivial⟩ Try.func44 rfl rfl) ?_
          rintro _ hp26 ⟨rfl, MT_18, T_18⟩
          have S_29 : Sep [] h0.size hp25 ([ownO (kF .f32) 40 v7 x5.2.2.2.1, ownO (kF .f32) 40 v8 x5.2.2.2.2.1] ++ [ownO (kF .f32) 40 v5 x10.2.1, ownO (kF .f32) 40 v6 x10.2.2, boxO bb4 [(.int .i64 x5.1), (.int .i64 x5.2.1), (.bool x5.2.2.1), v7, v8], boxO bb3 [(.int .i64 x4.1), (.int .i64 x4.2.1), (.bool x4.2.2.1), v5, v6], boxO bb2 [(.int .i64 x3.1), (.int .i64 x3.2.1), (.bool x3.2.2.1), v3, v4], ownO (kF .f32) 40 v3 x3.2.2.2.1, ownO (kF .f32) 40 v4 x3.2.2.2.2.1, ownO (kF .f32) 40 v1 x2.2.2.2.1, ownO (kF .f32) 40 v2 x2.2.2.2.2, boxO bb1 [(.int .i64 a0_0), (.int .i64 a0_1), (.bool a0_2), u0_3, u0_4]]) := Sep.sel S_26 [3, 4, 0, 1, 2, 5, 6, 7, 8, 9, 10, 11] (by decide)
          have X_21 : Mod [] h0 hp26 := Mod.step (A := [ownO (kF .f32) 40 v7 x5.2.2.2.1, ownO (kF .f32) 40 v8 x5.2.2.2.2.1]) (L := [ownO (kF .f32) 40 v5 x10.2.1, ownO (kF .f32) 40 v6 x10.2.2, boxO bb4 [(.int .i64 x5.1), (.int .i64 x5.2.1), (.bool x5.2.2.1), v7, v8], boxO bb3 [(.int .i64 x4.1), (.int .i64 x4.2.1), (.bool x4.2.2.1), v5, v6], boxO bb2 [(.int .i64 x3.1), (.int .i64 x3.2.1), (.bool x3.2.2.1), v3, v4], ownO (kF .f32) 40 v3 x3.2.2.2.1, ownO (kF .f32) 40 v4 x3.2.2.2.2.1, ownO (kF .f32) 40 v1 x2.2.2.2.1, ownO (kF .f32) 40 v2 x2.2.2.2.2, boxO bb1 [(.int .i64 a0_0), (.int .i64 a0_1), (.bool a0_2), u0_3, u0_4]]) X_20 S_29 MT_18
          have S_30 : Sep [] h0.size hp26 [ownO (kF .f32) 40 v7 x13.2.1, ownO (kF .f32) 40 v8 x13.2.2, ownO (kF .f32) 40 v5 x10.2.1, ownO (kF .f32) 40 v6 x10.2.2, boxO bb4 [(.int .i64 x5.1), (.int .i64 x5.2.1), (.bool x5.2.2.1), v7, v8], boxO bb3 [(.int .i64 x4.1), (.int .i64 x4.2.1), (.bool x4.2.2.1), v5, v6], boxO bb2 [(.int .i64 x3.1), (.int .i64 x3.2.1), (.bool x3.2.2.1), v3, v4], ownO (kF .f32) 40 v3 x3.2.2.2.1, ownO (kF .f32) 40 v4 x3.2.2.2.2.1, ownO (kF .f32) 40 v1 x2.2.2.2.1, ownO (kF .f32) 40 v2 x2.2.2.2.2, boxO bb1 [(.int .i64 a0_0), (.int .i64 a0_1), (.bool a0_2), u0_3, u0_4]] := Sep.step (A := [ownO (kF .f32) 40 v7 x5.2.2.2.1, ownO (kF .f32) 40 v8 x5.2.2.2.2.1]) (L := [ownO (kF .f32) 40 v5 x10.2.1, ownO (kF .f32) 40 v6 x10.2.2, boxO bb4 [(.int .i64 x5.1), (.int .i64 x5.2.1), (.bool x5.2.2.1), v7, v8], boxO bb3 [(.int .i64 x4.1), (.int .i64 x4.2.1), (.bool x4.2.2.1), v5, v6], boxO bb2 [(.int .i64 x3.1), (.int .i64 x3.2.1), (.bool x3.2.2.1), v3, v4], ownO (kF .f32) 40 v3 x3.2.2.2.1, ownO (kF .f32) 40 v4 x3.2.2.2.2.1, ownO (kF .f32) 40 v1 x2.2.2.2.1, ownO (kF .f32) 40 v2 x2.2.2.2.2, boxO bb1 [(.int .i64 a0_0), (.int .i64 a0_1), (.bool a0_2), u0_3, u0_4]]) S_29 (Mod.size X_20) MT_18 T_18
          refine RL.opD (by decide) (opv_assign rfl rfl) ?_
          refine RL.nil ?_
          refine thnN ?_
          refine W.seq ?_
          refine W.region ?_
          refine RL.opD (by decide) (opv_assign rfl rfl) ?_
          refine RL.nil ?_
          refine thnN ?_
          refine W.seq ?_
          obtain ⟨x14, hx14, hp⟩ := Option.bind_eq_some_iff.1 hp
          refine W.region ?_
          refine RL.opD (by decide) (opv_loadA (us := [(.int .i64 x5.1), (.int .i64 x5.2.1), (.bool x5.2.2.1), v7, v8]) rfl Try.agg29 Try.size29 rfl (Sep.at (o := boxO bb4 [(.int .i64 x5.1), (.int .i64 x5.2.1), (.bool x5.2.2.1), v7, v8]) S_30 4 rfl) rfl rfl) ?_
          refine RL.opD (by decide) (opv_move rfl rfl) ?_
          refine RL.op _ (by decide) (opv_call (cap := []) (laws_heldSheet_ok _ _ _ _ _ _ (ownO.read (Sep.at (o := ownO (kF .f32) 40 v7 x13.2.1) S_30 0 rfl)) _ _ (ownO.read (Sep.at (o := ownO (kF .f32) 40 v8 x13.2.2) S_30 1 rfl)) _ _ hx14) rfl rfl ⟨rfl, rfl, trivial⟩ Try.func49 rfl rfl) ?_
          rintro _ hp27 ⟨rfl, MT_19, T_19⟩
          have X_22 : Mod [] h0 hp27 := Mod.step (A := []) (L := [ownO (kF .f32) 40 v7 x13.2.1, ownO (kF .f32) 40 v8 x13.2.2, ownO (kF .f32) 40 v5 x10.2.1, ownO (kF .f32) 40 v6 x10.2.2, boxO bb4 [(.int .i64 x5.1), (.int .i64 x5.2.1), (.bool x5.2.2.1), v7, v8], boxO bb3 [(.int .i64 x4.1), (.int .i64 x4.2.1), (.bool x4.2.2.1), v5, v6], boxO bb2 [(.int .i64 x3.1), (.int .i64 x3.2.1), (.bool x3.2.2.1), v3, v4], ownO (kF .f32) 40 v3 x3.2.2.2.1, ownO (kF .f32) 40 v4 x3.2.2.2.2.1, ownO (kF .f32) 40 v1 x2.2.2.2.1, ownO (kF .f32) 40 v2 x2.2.2.2.2, boxO bb1 [(.int .i64 a0_0), (.int .i64 a0_1), (.bool a0_2), u0_3, u0_4]]) X_21 S_30 MT_19
          have S_31 : Sep [] h0.size hp27 [ownO (kF .f32) 40 v7 x13.2.1, ownO (kF .f32) 40 v8 x13.2.2, ownO (kF .f32) 40 v5 x10.2.1, ownO (kF .f32) 40 v6 x10.2.2, boxO bb4 [(.int .i64 x5.1), (.int .i64 x5.2.1), (.bool x5.2.2.1), v7, v8], boxO bb3 [(.int .i64 x4.1), (.int .i64 x4.2.1), (.bool x4.2.2.1), v5, v6], boxO bb2 [(.int .i64 x3.1), (.int .i64 x3.2.1), (.bool x3.2.2.1), v3, v4], ownO (kF .f32) 40 v3 x3.2.2.2.1, ownO (kF .f32) 40 v4 x3.2.2.2.2.1, ownO (kF .f32) 40 v1 x2.2.2.2.1, ownO (kF .f32) 40 v2 x2.2.2.2.2, boxO bb1 [(.int .i64 a0_0), (.int .i64 a0_1), (.bool a0_2), u0_3, u0_4]] := Sep.step (A := []) (L := [ownO (kF .f32) 40 v7 x13.2.1, ownO (kF .f32) 40 v8 x13.2.2, ownO (kF .f32) 40 v5 x10.2.1, ownO (kF .f32) 40 v6 x10.2.2, boxO bb4 [(.int .i64 x5.1), (.int .i64 x5.2.1), (.bool x5.2.2.1), v7, v8], boxO bb3 [(.int .i64 x4.1), (.int .i64 x4.2.1), (.bool x4.2.2.1), v5, v6], boxO bb2 [(.int .i64 x3.1), (.int .i64 x3.2.1), (.bool x3.2.2.1), v3, v4], ownO (kF .f32) 40 v3 x3.2.2.2.1, ownO (kF .f32) 40 v4 x3.2.2.2.2.1, ownO (kF .f32) 40 v1 x2.2.2.2.1, ownO (kF .f32) 40 v2 x2.2.2.2.2, boxO bb1 [(.int .i64 a0_0), (.int .i64 a0_1), (.bool a0_2), u0_3, u0_4]]) S_30 (Mod.size X_21) MT_19 T_19
          refine RL.opD (by decide) (opv_assign rfl rfl) ?_
          refine RL.nil ?_
          refine thnN ?_
          refine W.seq ?_
          refine W.seq ?_
          refine W.region ?_
          refine RL.opD (by decide) (opv_move rfl rfl) ?_
          refine RL.opD (by decide) (opv_icmp rfl rfl rfl rfl) ?_
          refine RL.nil ?_
          refine thnN ?_
          by_cases c8 : (decide (x14 < 0)) = true
          · rw [if_pos c8] at hp
            refine W.condT rfl c8 ?_
            refine W.seq ?_
            refine W.region ?_
            refine RL.opD (by decide) (opv_assign rfl rfl) ?_
            refine RL.nil ?_
            refine thnN ?_
            refine W.ret ?_
            refine thnR ?_
            have er := Option.some.inj hp
            subst er
            exact Rt.one rfl rfl ⟨rfl, X_22, (Sep.nil _ _ _)⟩
          · rw [if_neg c8] at hp
            have c8 := eq_false_of_ne_true c8
            refine W.condF rfl c8 ?_
            refine W.skip ?_
            refine thnN ?_
            refine W.seq ?_
            refine W.seq ?_
            refine W.region ?_
            refine RL.opD (by decide) (opv_move rfl rfl) ?_
            refine RL.opD (by decide) (opv_move rfl rfl) ?_
            refine RL.opD (by decide) (opv_icmp rfl rfl rfl rfl) ?_
            refine RL.nil ?_
            refine thnN ?_
            by_cases c9 : (x14 != x13.1) = true
            · rw [if_pos c9] at hp
              refine W.condT rfl c9 ?_
              refine W.seq ?_
              refine W.region ?_
              refine RL.opD (by decide) (opv_assign rfl rfl) ?_
              refine RL.nil ?_
              refine thnN ?_
              refine W.ret ?_
              refine thnR ?_
              have er := Option.some.inj hp
              subst er
              exact Rt.one rfl rfl ⟨rfl, X_22, (Sep.nil _ _ _)⟩
            · rw [if_neg c9] at hp
              have c9 := eq_false_of_ne_true c9
              refine W.condF rfl c9 ?_
              refine W.skip ?_
              refine thnN ?_
              refine W.seq ?_
              obtain ⟨x15, hx15, hp⟩ := Option.bind_eq_some_iff.1 hp
              obtain ⟨x16, hx16, hp⟩ := Option.bind_eq_some_iff.1 hp
              refine W.region ?_
              refine RL.opD (by decide) (opv_loadA (us := [(.int .i64 a0_0), (.int .i64 a0_1), (.bool a0_2), u0_3, u0_4]) rfl Try.agg24 Try.size24 rfl (Sep.at (o := boxO bb1 [(.int .i64 a0_0), (.int .i64 a0_1), (.bool a0_2), u0_3, u0_4]) S_31 11 rfl) rfl rfl) ?_
              refine RL.op _ (by decide) (opv_call (cap := []) (laws_toSheet_ok _ _ _ _ _ _ (SL.up (SL.mod g0_3 X_22 (Nat.le_refl _) nob) (Nat.le_trans (Nat.le_refl _) (Mod.size X_22))) _ _ (SL.up (SL.mod g0_4 X_22 (Nat.le_refl _) nob) (Nat.le_trans (Nat.le_refl _) (Mod.size X_22))) _ hx15) rfl rfl ⟨rfl, trivial⟩ Try.func20 rfl rfl) ?_
              rintro _ hp28 ⟨v13, v14, rfl, MT_20, T_20⟩
              have X_23 : Mod [] h0 hp28 := Mod.step (A := []) (L := [ownO (kF .f32) 40 v7 x13.2.1, ownO (kF .f32) 40 v8 x13.2.2, ownO (kF .f32) 40 v5 x10.2.1, ownO (kF .f32) 40 v6 x10.2.2, boxO bb4 [(.int .i64 x5.1), (.int .i64 x5.2.1), (.bool x5.2.2.1), v7, v8], boxO bb3 [(.int .i64 x4.1), (.int .i64 x4.2.1), (.bool x4.2.2.1), v5, v6], boxO bb2 [(.int .i64 x3.1), (.int .i64 x3.2.1), (.bool x3.2.2.1), v3, v4], ownO (kF .f32) 40 v3 x3.2.2.2.1, ownO (kF .f32) 40 v4 x3.2.2.2.2.1, ownO (kF .f32) 40 v1 x2.2.2.2.1, ownO (kF .f32) 40 v2 x2.2.2.2.2, boxO bb1 [(.int .i64 a0_0), (.int .i64 a0_1), (.bool a0_2), u0_3, u0_4]]) X_22 S_31 MT_20
              have S_32 : Sep [] h0.size hp28 [ownO (kF .f32) 40 v13 x15.2.2.2.1, ownO (kF .f32) 40 v14 x15.2.2.2.2, ownO (kF .f32) 40 v7 x13.2.1, ownO (kF .f32) 40 v8 x13.2.2, ownO (kF .f32) 40 v5 x10.2.1, ownO (kF .f32) 40 v6 x10.2.2, boxO bb4 [(.int .i64 x5.1), (.int .i64 x5.2.1), (.bool x5.2.2.1), v7, v8], boxO bb3 [(.int .i64 x4.1), (.int .i64 x4.2.1), (.bool x4.2.2.1), v5, v6], boxO bb2 [(.int .i64 x3.1), (.int .i64 x3.2.1), (.bool x3.2.2.1), v3, v4], ownO (kF .f32) 40 v3 x3.2.2.2.1, ownO (kF .f32) 40 v4 x3.2.2.2.2.1, ownO (kF .f32) 40 v1 x2.2.2.2.1, ownO (kF .f32) 40 v2 x2.2.2.2.2, boxO bb1 [(.int .i64 a0_0), (.int .i64 a0_1), (.bool a0_2), u0_3, u0_4]] := Sep.step (A := []) (L := [ownO (kF .f32) 40 v7 x13.2.1, ownO (kF .f32) 40 v8 x13.2.2, ownO (kF .f32) 40 v5 x10.2.1, ownO (kF .f32) 40 v6 x10.2.2, boxO bb4 [(.int .i64 x5.1), (.int .i64 x5.2.1), (.bool x5.2.2.1), v7, v8], boxO bb3 [(.int .i64 x4.1), (.int .i64 x4.2.1), (.bool x4.2.2.1), v5, v6], boxO bb2 [(.int .i64 x3.1), (.int .i64 x3.2.1), (.bool x3.2.2.1), v3, v4], ownO (kF .f32) 40 v3 x3.2.2.2.1, ownO (kF .f32) 40 v4 x3.2.2.2.2.1, ownO (kF .f32) 40 v1 x2.2.2.2.1, ownO (kF .f32) 40 v2 x2.2.2.2.2, boxO bb1 [(.int .i64 a0_0), (.int .i64 a0_1), (.bool a0_2), u0_3, u0_4]]) S_31 (Mod.size X_22) MT_20 T_20
              refine RL.opD (by decide) (opv_move rfl rfl) ?_
              refine RL.opD (by decide) (opv_move rfl rfl) ?_
              refine RL.op _ (by decide) (opv_call (cap := []) (impl_GradeLosses_ok _ _ _ _ _ _ (ownO.read (Sep.at (o := ownO (kF .f32) 40 v13 x15.2.2.2.1) S_32 0 rfl)) _ _ (ownO.read (Sep.at (o := ownO (kF .f32) 40 v14 x15.2.2.2.2) S_32 1 rfl)) _ _ _ g2 _ hx16) rfl rfl ⟨rfl, rfl, rfl, trivial⟩ Try.func59 rfl rfl) ?_
              rintro _ hp29 ⟨v15, v16, rfl, MT_21, T_21⟩
              have X_24 : Mod [] h0 hp29 := Mod.step (A := []) (L := [ownO (kF .f32) 40 v13 x15.2.2.2.1, ownO (kF .f32) 40 v14 x15.2.2.2.2, ownO (kF .f32) 40 v7 x13.2.1, ownO (kF .f32) 40 v8 x13.2.2, ownO (kF .f32) 40 v5 x10.2.1, ownO (kF .f32) 40 v6 x10.2.2, boxO bb4 [(.int .i64 x5.1), (.int .i64 x5.2.1), (.bool x5.2.2.1), v7, v8], boxO bb3 [(.int .i64 x4.1), (.int .i64 x4.2.1), (.bool x4.2.2.1), v5, v6], boxO bb2 [(.int .i64 x3.1), (.int .i64 x3.2.1), (.bool x3.2.2.1), v3, v4], ownO (kF .f32) 40 v3 x3.2.2.2.1, ownO (kF .f32) 40 v4 x3.2.2.2.2.1, ownO (kF .f32) 40 v1 x2.2.2.2.1, ownO (kF .f32) 40 v2 x2.2.2.2.2, boxO bb1 [(.int .i64 a0_0), (.int .i64 a0_1), (.bool a0_2), u0_3, u0_4]]) X_23 S_32 MT_21
              have S_33 : Sep [] h0.size hp29 [ownO (kF .f32) 40 v15 x16.2.2.2.1, ownO (kF .f32) 40 v16 x16.2.2.2.2.1, ownO (kF .f32) 40 v13 x15.2.2.2.1, ownO (kF .f32) 40 v14 x15.2.2.2.2, ownO (kF .f32) 40 v7 x13.2.1, ownO (kF .f32) 40 v8 x13.2.2, ownO (kF .f32) 40 v5 x10.2.1, ownO (kF .f32) 40 v6 x10.2.2, boxO bb4 [(.int .i64 x5.1), (.int .i64 x5.2.1), (.bool x5.2.2.1), v7, v8], boxO bb3 [(.int .i64 x4.1), (.int .i64 x4.2.1), (.bool x4.2.2.1), v5, v6], boxO bb2 [(.int .i64 x3.1), (.int .i64 x3.2.1), (.bool x3.2.2.1), v3, v4], ownO (kF .f32) 40 v3 x3.2.2.2.1, ownO (kF .f32) 40 v4 x3.2.2.2.2.1, ownO (kF .f32) 40 v1 x2.2.2.2.1, ownO (kF .f32) 40 v2 x2.2.2.2.2, boxO bb1 [(.int .i64 a0_0), (.int .i64 a0_1), (.bool a0_2), u0_3, u0_4]] := Sep.step (A := []) (L := [ownO (kF .f32) 40 v13 x15.2.2.2.1, ownO (kF .f32) 40 v14 x15.2.2.2.2, ownO (kF .f32) 40 v7 x13.2.1, ownO (kF .f32) 40 v8 x13.2.2, ownO (kF .f32) 40 v5 x10.2.1, ownO (kF .f32) 40 v6 x10.2.2, boxO bb4 [(.int .i64 x5.1), (.int .i64 x5.2.1), (.bool x5.2.2.1), v7, v8], boxO bb3 [(.int .i64 x4.1), (.int .i64 x4.2.1), (.bool x4.2.2.1), v5, v6], boxO bb2 [(.int .i64 x3.1), (.int .i64 x3.2.1), (.bool x3.2.2.1), v3, v4], ownO (kF .f32) 40 v3 x3.2.2.2.1, ownO (kF .f32) 40 v4 x3.2.2.2.2.1, ownO (kF .f32) 40 v1 x2.2.2.2.1, ownO (kF .f32) 40 v2 x2.2.2.2.2, boxO bb1 [(.int .i64 a0_0), (.int .i64 a0_1), (.bool a0_2), u0_3, u0_4]]) S_32 (Mod.size X_23) MT_21 T_21
              refine RL.opD (by decide) (opv_move rfl rfl) ?_
              refine RL.opD (by decide) (opv_extract rfl rfl rfl) ?_
              refine RL.opD (by decide) (opv_extract rfl rfl rfl) ?_
              refine RL.op _ (by decide) (opS_boxed (opv_alloc (cs := [(.int .i64 0), (.int .i64 0), (.bool false), (.slice none 0 0), (.slice none 0 0)]) rfl Try.zero29 rfl)) ?_
              rintro _ hp30 ⟨bb5, rfl, MT_22, T_22⟩
              have X_25 : Mod [] h0 hp30 := Mod.step (A := []) (L := [ownO (kF .f32) 40 v15 x16.2.2.2.1, ownO (kF .f32) 40 v16 x16.2.2.2.2.1, ownO (kF .f32) 40 v13 x15.2.2.2.1, ownO (kF .f32) 40 v14 x15.2.2.2.2, ownO (kF .f32) 40 v7 x13.2.1, ownO (kF .f32) 40 v8 x13.2.2, ownO (kF .f32) 40 v5 x10.2.1, ownO (kF .f32) 40 v6 x10.2.2, boxO bb4 [(.int .i64 x5.1), (.int .i64 x5.2.1), (.bool x5.2.2.1), v7, v8], boxO bb3 [(.int .i64 x4.1), (.int .i64 x4.2.1), (.bool x4.2.2.1), v5, v6], boxO bb2 [(.int .i64 x3.1), (.int .i64 x3.2.1), (.bool x3.2.2.1), v3, v4], ownO (kF .f32) 40 v3 x3.2.2.2.1, ownO (kF .f32) 40 v4 x3.2.2.2.2.1, ownO (kF .f32) 40 v1 x2.2.2.2.1, ownO (kF .f32) 40 v2 x2.2.2.2.2, boxO bb1 [(.int .i64 a0_0), (.int .i64 a0_1), (.bool a0_2), u0_3, u0_4]]) X_24 S_33 MT_22
              have S_34 : Sep [] h0.size hp30 [boxO bb5 [(.int .i64 0), (.int .i64 0), (.bool false), (.slice none 0 0), (.slice none 0 0)], ownO (kF .f32) 40 v15 x16.2.2.2.1, ownO (kF .f32) 40 v16 x16.2.2.2.2.1, ownO (kF .f32) 40 v13 x15.2.2.2.1, ownO (kF .f32) 40 v14 x15.2.2.2.2, ownO (kF .f32) 40 v7 x13.2.1, ownO (kF .f32) 40 v8 x13.2.2, ownO (kF .f32) 40 v5 x10.2.1, ownO (kF .f32) 40 v6 x10.2.2, boxO bb4 [(.int .i64 x5.1), (.int .i64 x5.2.1), (.bool x5.2.2.1), v7, v8], boxO bb3 [(.int .i64 x4.1), (.int .i64 x4.2.1), (.bool x4.2.2.1), v5, v6], boxO bb2 [(.int .i64 x3.1), (.int .i64 x3.2.1), (.bool x3.2.2.1), v3, v4], ownO (kF .f32) 40 v3 x3.2.2.2.1, ownO (kF .f32) 40 v4 x3.2.2.2.2.1, ownO (kF .f32) 40 v1 x2.2.2.2.1, ownO (kF .f32) 40 v2 x2.2.2.2.2, boxO bb1 [(.int .i64 a0_0), (.int .i64 a0_1), (.bool a0_2), u0_3, u0_4]] := Sep.step (A := []) (L := [ownO (kF .f32) 40 v15 x16.2.2.2.1, ownO (kF .f32) 40 v16 x16.2.2.2.2.1, ownO (kF .f32) 40 v13 x15.2.2.2.1, ownO (kF .f32) 40 v14 x15.2.2.2.2, ownO (kF .f32) 40 v7 x13.2.1, ownO (kF .f32) 40 v8 x13.2.2, ownO (kF .f32) 40 v5 x10.2.1, ownO (kF .f32) 40 v6 x10.2.2, boxO bb4 [(.int .i64 x5.1), (.int .i64 x5.2.1), (.bool x5.2.2.1), v7, v8], boxO bb3 [(.int .i64 x4.1), (.int .i64 x4.2.1), (.bool x4.2.2.1), v5, v6], boxO bb2 [(.int .i64 x3.1), (.int .i64 x3.2.1), (.bool x3.2.2.1), v3, v4], ownO (kF .f32) 40 v3 x3.2.2.2.1, ownO (kF .f32) 40 v4 x3.2.2.2.2.1, ownO (kF .f32) 40 v1 x2.2.2.2.1, ownO (kF .f32) 40 v2 x2.2.2.2.2, boxO bb1 [(.int .i64 a0_0), (.int .i64 a0_1), (.bool a0_2), u0_3, u0_4]]) S_33 (Mod.size X_24) MT_22 T_22
              refine RL.op0 _ (opS_stored (cs := [(.int .i64 0), (.int .i64 0), (.bool false), (.slice none 0 0), (.slice none 0 0)]) (cs' := [(.int .i64 x16.1), (.int .i64 x16.2.1), (.bool x16.2.2.1), v15, v16]) (opv_storeA (us := [(.int .i64 x16.1), (.int .i64 x16.2.1), (.bool x16.2.2.1), v15, v16]) rfl Try.size29 rfl rfl (oneAll rfl (oneAll rfl (oneAll rfl (oneAll (ownO.one (Sep.at (o := ownO (kF .f32) 40 v15 x16.2.2.2.1) S_34 1 rfl)) (oneAll (ownO.one (Sep.at (o := ownO (kF .f32) 40 v16 x16.2.2.2.2.1) S_34 2 rfl)) rfl))))) (Sep.at (o := boxO bb5 [(.int .i64 0), (.int .i64 0), (.bool false), (.slice none 0 0), (.slice none 0 0)]) S_34 0 rfl) rfl rfl) (Sep.at (o := boxO bb5 [(.int .i64 0), (.int .i64 0), (.bool false), (.slice none 0 0), (.slice none 0 0)]) S_34 0 rfl)) ?_
              rintro _ hp31 ⟨rfl, MT_23, T_23⟩
              have S_35 : Sep [] h0.size hp30 ([boxO bb5 [(.int .i64 0), (.int .i64 0), (.bool false), (.slice none 0 0), (.slice none 0 0)]] ++ [ownO (kF .f32) 40 v15 x16.2.2.2.1, ownO (kF .f32) 40 v16 x16.2.2.2.2.1, ownO (kF .f32) 40 v13 x15.2.2.2.1, ownO (kF .f32) 40 v14 x15.2.2.2.2, ownO (kF .f32) 40 v7 x13.2.1, ownO (kF .f32) 40 v8 x13.2.2, ownO (kF .f32) 40 v5 x10.2.1, ownO (kF .f32) 40 v6 x10.2.2, boxO bb4 [(.int .i64 x5.1), (.int .i64 x5.2.1), (.bool x5.2.2.1), v7, v8], boxO bb3 [(.int .i64 x4.1), (.int .i64 x4.2.1), (.bool x4.2.2.1), v5, v6], boxO bb2 [(.int .i64 x3.1), (.int .i64 x3.2.1), (.bool x3.2.2.1), v3, v4], ownO (kF .f32) 40 v3 x3.2.2.2.1, ownO (kF .f32) 40 v4 x3.2.2.2.2.1, ownO (kF .f32) 40 v1 x2.2.2.2.1, ownO (kF .f32) 40 v2 x2.2.2.2.2, boxO bb1 [(.int .i64 a0_0), (.int .i64 a0_1), (.bool a0_2), u0_3, u0_4]]) := Sep.sel S_34 [0, 1, 2, 3, 4, 5, 6, 7, 8, 9, 10, 11, 12, 13, 14, 15, 16] (by decide)
              have X_26 : Mod [] h0 hp31 := Mod.step (A := [boxO bb5 [(.int .i64 0), (.int .i64 0), (.bool false), (.slice none 0 0), (.slice none 0 0)]]) (L := [ownO (kF .f32) 40 v15 x16.2.2.2.1, ownO (kF .f32) 40 v16 x16.2.2.2.2.1, ownO (kF .f32) 40 v13 x15.2.2.2.1, ownO (kF .f32) 40 v14 x15.2.2.2.2, ownO (kF .f32) 40 v7 x13.2.1, ownO (kF .f32) 40 v8 x13.2.2, ownO (kF .f32) 40 v5 x10.2.1, ownO (kF .f32) 40 v6 x10.2.2, boxO bb4 [(.int .i64 x5.1), (.int .i64 x5.2.1), (.bool x5.2.2.1), v7, v8], boxO bb3 [(.int .i64 x4.1), (.int .i64 x4.2.1), (.bool x4.2.2.1), v5, v6], boxO bb2 [(.int .i64 x3.1), (.int .i64 x3.2.1), (.bool x3.2.2.1), v3, v4], ownO (kF .f32) 40 v3 x3.2.2.2.1, ownO (kF .f32) 40 v4 x3.2.2.2.2.1, ownO (kF .f32) 40 v1 x2.2.2.2.1, ownO (kF .f32) 40 v2 x2.2.2.2.2, boxO bb1 [(.int .i64 a0_0), (.int .i64 a0_1), (.bool a0_2), u0_3, u0_4]]) X_25 S_35 MT_23
              have S_36 : Sep [] h0.size hp31 [boxO bb5 [(.int .i64 x16.1), (.int .i64 x16.2.1), (.bool x16.2.2.1), v15, v16], ownO (kF .f32) 40 v15 x16.2.2.2.1, ownO (kF .f32) 40 v16 x16.2.2.2.2.1, ownO (kF .f32) 40 v13 x15.2.2.2.1, ownO (kF .f32) 40 v14 x15.2.2.2.2, ownO (kF .f32) 40 v7 x13.2.1, ownO (kF .f32) 40 v8 x13.2.2, ownO (kF .f32) 40 v5 x10.2.1, ownO (kF .f32) 40 v6 x10.2.2, boxO bb4 [(.int .i64 x5.1), (.int .i64 x5.2.1), (.bool x5.2.2.1), v7, v8], boxO bb3 [(.int .i64 x4.1), (.int .i64 x4.2.1), (.bool x4.2.2.1), v5, v6], boxO bb2 [(.int .i64 x3.1), (.int .i64 x3.2.1), (.bool x3.2.2.1), v3, v4], ownO (kF .f32) 40 v3 x3.2.2.2.1, ownO (kF .f32) 40 v4 x3.2.2.2.2.1, ownO (kF .f32) 40 v1 x2.2.2.2.1, ownO (kF .f32) 40 v2 x2.2.2.2.2, boxO bb1 [(.int .i64 a0_0), (.int .i64 a0_1), (.bool a0_2), u0_3, u0_4]] := Sep.step (A := [boxO bb5 [(.int .i64 0), (.int .i64 0), (.bool false), (.slice none 0 0), (.slice none 0 0)]]) (L := [ownO (kF .f32) 40 v15 x16.2.2.2.1, ownO (kF .f32) 40 v16 x16.2.2.2.2.1, ownO (kF .f32) 40 v13 x15.2.2.2.1, ownO (kF .f32) 40 v14 x15.2.2.2.2, ownO (kF .f32) 40 v7 x13.2.1, ownO (kF .f32) 40 v8 x13.2.2, ownO (kF .f32) 40 v5 x10.2.1, ownO (kF .f32) 40 v6 x10.2.2, boxO bb4 [(.int .i64 x5.1), (.int .i64 x5.2.1), (.bool x5.2.2.1), v7, v8], boxO bb3 [(.int .i64 x4.1), (.int .i64 x4.2.1), (.bool x4.2.2.1), v5, v6], boxO bb2 [(.int .i64 x3.1), (.int .i64 x3.2.1), (.bool x3.2.2.1), v3, v4], ownO (kF .f32) 40 v3 x3.2.2.2.1, ownO (kF .f32) 40 v4 x3.2.2.2.2.1, ownO (kF .f32) 40 v1 x2.2.2.2.1, ownO (kF .f32) 40 v2 x2.2.2.2.2, boxO bb1 [(.int .i64 a0_0), (.int .i64 a0_1), (.bool a0_2), u0_3, u0_4]]) S_35 (Mod.size X_25) MT_23 T_23
              refine RL.opD (by decide) (opv_assign rfl rfl) ?_
              refine RL.nil ?_
              refine thnN ?_
              refine W.seq ?_
              refine W.seq ?_
              obtain ⟨x17, hy3, hp⟩ := Option.bind_eq_some_iff.1 hp
              refine W.cut (fun φ' h' => Fr.sub [(0, (.agg (List.toArray (α := Value) [(.int .i64 a0_0), (.int .i64 a0_1), (.bool a0_2), u0_3, u0_4]))), (1, (.int .i64 a1)), (2, u2), (3, (.pointer (some ⟨bb1, 0, none⟩))), (6, (.bool false)), (7, (.int .i64 x1)), (22, (.bool (decide (x1 < 0)))), (8, (.pointer (some ⟨bb2, 0, none⟩))), (9, (.bool x3.2.2.2.2.2)), (10, (.pointer (some ⟨bb3, 0, none⟩))), (11, (.pointer (some ⟨bb4, 0, none⟩))), (12, (.bool x5.2.2.2.2.2)), (48, (.bool x6)), (53, (.bool (!x9))), (13, (.int .i64 x10.1)), (69, (.bool x11)), (14, (.int .i64 x13.1)), (15, (.int .i64 x14)), (77, (.bool (decide (x14 < 0)))), (80, (.bool (x14 != x13.1))), (16, (.pointer (some ⟨bb5, 0, none⟩))), (17, (.bool x16.2.2.2.2.2)), (97, (.bool x17))] φ' ∧ Mod [] h0 h' ∧ Sep [] h0.size h' [boxO bb5 [(.int .i64 x16.1), (.int .i64 x16.2.1), (.bool x16.2.2.1), v15, v16], ownO (kF .f32) 40 v15 x16.2.2.2.1, ownO (kF .f32) 40 v16 x16.2.2.2.2.1, ownO (kF .f32) 40 v13 x15.2.2.2.1, ownO (kF .f32) 40 v14 x15.2.2.2.2, ownO (kF .f32) 40 v7 x13.2.1, ownO (kF .f32) 40 v8 x13.2.2, ownO (kF .f32) 40 v5 x10.2.1, ownO (kF .f32) 40 v6 x10.2.2, boxO bb4 [(.int .i64 x5.1), (.int .i64 x5.2.1), (.bool x5.2.2.1), v7, v8], boxO bb3 [(.int .i64 x4.1), (.int .i64 x4.2.1), (.bool x4.2.2.1), v5, v6], boxO bb2 [(.int .i64 x3.1), (.int .i64 x3.2.1), (.bool x3.2.2.1), v3, v4], ownO (kF .f32) 40 v3 x3.2.2.2.1, ownO (kF .f32) 40 v4 x3.2.2.2.2.1, ownO (kF .f32) 40 v1 x2.2.2.2.1, ownO (kF .f32) 40 v2 x2.2.2.2.2, boxO bb1 [(.int .i64 a0_0), (.int .i64 a0_1), (.bool a0_2), u0_3, u0_4]]) ?_ ?_
              · obtain ⟨x18, hx18, hy3⟩ := Option.bind_eq_some_iff.1 hy3
                by_cases c10 : (!x18) = true
                · rw [if_pos c10] at hy3
                  refine W.region ?_
                  refine RL.opD (by decide) (opv_loadA (us := [(.int .i64 x16.1), (.int .i64 x16.2.1), (.bool x16.2.2.1), v15, v16]) rfl Try.agg29 Try.size29 rfl (Sep.at (o := boxO bb5 [(.int .i64 x16.1), (.int .i64 x16.2.1), (.bool x16.2.2.1), v15, v16]) S_36 0 rfl) rfl rfl) ?_
                  refine RL.opD (by decide) (opv_loadA (us := [(.int .i64 x3.1), (.int .i64 x3.2.1), (.bool x3.2.2.1), v3, v4]) rfl Try.agg29 Try.size29 rfl (Sep.at (o := boxO bb2 [(.int .i64 x3.1), (.int .i64 x3.2.1), (.bool x3.2.2.1), v3, v4]) S_36 11 rfl) rfl rfl) ?_
                  refine RL.op _ (by decide) (opv_call (cap := []) (laws_eqSheet_ok _ _ _ _ _ _ (ownO.read (Sep.at (o := ownO (kF .f32) 40 v15 x16.2.2.2.1) S_36 1 rfl)) _ _ (ownO.read (Sep.at (o := ownO (kF .f32) 40 v16 x16.2.2.2.2.1) S_36 2 rfl)) _ _ _ _ _ (ownO.read (Sep.at (o := ownO (kF .f32) 40 v3 x3.2.2.2.1) S_36 12 rfl)) _ _ (ownO.read (Sep.at (o := ownO (kF .f32) 40 v4 x3.2.2.2.2.1) S_36 13 rfl)) _ hx18) rfl rfl ⟨rfl, rfl, trivial⟩ Try.func23 rfl rfl) ?_
                  rintro _ hp32 ⟨rfl, MT_24, T_24⟩
                  have X_27 : Mod [] h0 hp32 := Mod.step (A := []) (L := [boxO bb5 [(.int .i64 x16.1), (.int .i64 x16.2.1), (.bool x16.2.2.1), v15, v16], ownO (kF .f32) 40 v15 x16.2.2.2.1, ownO (kF .f32) 40 v16 x16.2.2.2.2.1, ownO (kF .f32) 40 v13 x15.2.2.2.1, ownO (kF .f32) 40 v14 x15.2.2.2.2, ownO (kF .f32) 40 v7 x13.2.1, ownO (kF .f32) 40 v8 x13.2.2, ownO (kF .f32) 40 v5 x10.2.1, ownO (kF .f32) 40 v6 x10.2.2, boxO bb4 [(.int .i64 x5.1), (.int .i64 x5.2.1), (.bool x5.2.2.1), v7, v8], boxO bb3 [(.int .i64 x4.1), (.int .i64 x4.2.1), (.bool x4.2.2.1), v5, v6], boxO bb2 [(.int .i64 x3.1), (.int .i64 x3.2.1), (.bool x3.2.2.1), v3, v4], ownO (kF .f32) 40 v3 x3.2.2.2.1, ownO (kF .f32) 40 v4 x3.2.2.2.2.1, ownO (kF .f32) 40 v1 x2.2.2.2.1, ownO (kF .f32) 40 v2 x2.2.2.2.2, boxO bb1 [(.int .i64 a0_0), (.int .i64 a0_1), (.bool a0_2), u0_3, u0_4]]) X_26 S_36 MT_24
                  have S_37 : Sep [] h0.size hp32 [boxO bb5 [(.int .i64 x16.1), (.int .i64 x16.2.1), (.bool x16.2.2.1), v15, v16], ownO (kF .f32) 40 v15 x16.2.2.2.1, ownO (kF .f32) 40 v16 x16.2.2.2.2.1, ownO (kF .f32) 40 v13 x15.2.2.2.1, ownO (kF .f32) 40 v14 x15.2.2.2.2, ownO (kF .f32) 40 v7 x13.2.1, ownO (kF .f32) 40 v8 x13.2.2, ownO (kF .f32) 40 v5 x10.2.1, ownO (kF .f32) 40 v6 x10.2.2, boxO bb4 [(.int .i64 x5.1), (.int .i64 x5.2.1), (.bool x5.2.2.1), v7, v8], boxO bb3 [(.int .i64 x4.1), (.int .i64 x4.2.1), (.bool x4.2.2.1), v5, v6], boxO bb2 [(.int .i64 x3.1), (.int .i64 x3.2.1), (.bool x3.2.2.1), v3, v4], ownO (kF .f32) 40 v3 x3.2.2.2.1, ownO (kF .f32) 40 v4 x3.2.2.2.2.1, ownO (kF .f32) 40 v1 x2.2.2.2.1, ownO (kF .f32) 40 v2 x2.2.2.2.2, boxO bb1 [(.int .i64 a0_0), (.int .i64 a0_1), (.bool a0_2), u0_3, u0_4]] := Sep.step (A := []) (L := [boxO bb5 [(.int .i64 x16.1), (.int .i64 x16.2.1), (.bool x16.2.2.1), v15, v16], ownO (kF .f32) 40 v15 x16.2.2.2.1, ownO (kF .f32) 40 v16 x16.2.2.2.2.1, ownO (kF .f32) 40 v13 x15.2.2.2.1, ownO (kF .f32) 40 v14 x15.2.2.2.2, ownO (kF .f32) 40 v7 x13.2.1, ownO (kF .f32) 40 v8 x13.2.2, ownO (kF .f32) 40 v5 x10.2.1, ownO (kF .f32) 40 v6 x10.2.2, boxO bb4 [(.int .i64 x5.1), (.int .i64 x5.2.1), (.bool x5.2.2.1), v7, v8], boxO bb3 [(.int .i64 x4.1), (.int .i64 x4.2.1), (.bool x4.2.2.1), v5, v6], boxO bb2 [(.int .i64 x3.1), (.int .i64 x3.2.1), (.bool x3.2.2.1), v3, v4], ownO (kF .f32) 40 v3 x3.2.2.2.1, ownO (kF .f32) 40 v4 x3.2.2.2.2.1, ownO (kF .f32) 40 v1 x2.2.2.2.1, ownO (kF .f32) 40 v2 x2.2.2.2.2, boxO bb1 [(.int .i64 a0_0), (.int .i64 a0_1), (.bool a0_2), u0_3, u0_4]]) S_36 (Mod.size X_26) MT_24 T_24
                  refine RL.opD (by decide) (opv_not rfl rfl) ?_
                  refine RL.opD (by decide) (opv_move rfl rfl) ?_
                  refine RL.no rfl rfl (Eq.trans c10 (by decide)) (by decide) ?_
                  refine RL.no rfl rfl (Eq.trans c10 (by decide)) (by decide) ?_
                  refine RL.no rfl rfl (Eq.trans c10 (by decide)) (by decide) ?_
                  refine RL.opD (by decide) (opv_pick rfl rfl (fun _ => rfl) (fun e => absurd (Eq.trans (Eq.symm e) c10) (by decide)) rfl) ?_
                  refine RL.nil ?_
                  have ey3 := Option.some.inj hy3
                  subst ey3
                  refine onlyN ?_
                  exact ⟨⟨rfl, rfl, rfl, rfl, rfl, rfl, rfl, rfl, rfl, rfl, rfl, rfl, rfl, rfl, rfl, rfl, rfl, rfl, rfl, rfl, rfl, rfl, rfl, trivial⟩, X_27, (Sep.sel S_37 [0, 1, 2, 3, 4, 5, 6, 7, 8, 9, 10, 11, 12, 13, 14, 15, 16] (by decide))⟩
                · rw [if_neg c10] at hy3
                  have c10 := eq_false_of_ne_true c10
                  refine W.region ?_
                  refine RL.opD (by decide) (opv_loadA (us := [(.int .i64 x16.1), (.int .i64 x16.2.1), (.bool x16.2.2.1), v15, v16]) rfl Try.agg29 Try.size29 rfl (Sep.at (o := boxO bb5 [(.int .i64 x16.1), (.int .i64 x16.2.1), (.bool x16.2.2.1), v15, v16]) S_36 0 rfl) rfl rfl) ?_
                  refine RL.opD (by decide) (opv_loadA (us := [(.int .i64 x3.1), (.int .i64 x3.2.1), (.bool x3.2.2.1), v3, v4]) rfl Try.agg29 Try.size29 rfl (Sep.at (o := boxO bb2 [(.int .i64 x3.1), (.int .i64 x3.2.1), (.bool x3.2.2.1), v3, v4]) S_36 11 rfl) rfl rfl) ?_
                  refine RL.op _ (by decide) (opv_call (cap := []) (laws_eqSheet_ok _ _ _ _ _ _ (ownO.read (Sep.at (o := ownO (kF .f32) 40 v15 x16.2.2.2.1) S_36 1 rfl)) _ _ (ownO.read (Sep.at (o := ownO (kF .f32) 40 v16 x16.2.2.2.2.1) S_36 2 rfl)) _ _ _ _ _ (ownO.read (Sep.at (o := ownO (kF .f32) 40 v3 x3.2.2.2.1) S_36 12 rfl)) _ _ (ownO.read (Sep.at (o := ownO (kF .f32) 40 v4 x3.2.2.2.2.1) S_36 13 rfl)) _ hx18) rfl rfl ⟨rfl, rfl, trivial⟩ Try.func23 rfl rfl) ?_
                  rintro _ hp32 ⟨rfl, MT_24, T_24⟩
                  have X_27 : Mod [] h0 hp32 := Mod.step (A := []) (L := [boxO bb5 [(.int .i64 x16.1), (.int .i64 x16.2.1), (.bool x16.2.2.1), v15, v16], ownO (kF .f32) 40 v15 x16.2.2.2.1, ownO (kF .f32) 40 v16 x16.2.2.2.2.1, ownO (kF .f32) 40 v13 x15.2.2.2.1, ownO (kF .f32) 40 v14 x15.2.2.2.2, ownO (kF .f32) 40 v7 x13.2.1, ownO (kF .f32) 40 v8 x13.2.2, ownO (kF .f32) 40 v5 x10.2.1, ownO (kF .f32) 40 v6 x10.2.2, boxO bb4 [(.int .i64 x5.1), (.int .i64 x5.2.1), (.bool x5.2.2.1), v7, v8], boxO bb3 [(.int .i64 x4.1), (.int .i64 x4.2.1), (.bool x4.2.2.1), v5, v6], boxO bb2 [(.int .i64 x3.1), (.int .i64 x3.2.1), (.bool x3.2.2.1), v3, v4], ownO (kF .f32) 40 v3 x3.2.2.2.1, ownO (kF .f32) 40 v4 x3.2.2.2.2.1, ownO (kF .f32) 40 v1 x2.2.2.2.1, ownO (kF .f32) 40 v2 x2.2.2.2.2, boxO bb1 [(.int .i64 a0_0), (.int .i64 a0_1), (.bool a0_2), u0_3, u0_4]]) X_26 S_36 MT_24
                  have S_37 : Sep [] h0.size hp32 [boxO bb5 [(.int .i64 x16.1), (.int .i64 x16.2.1), (.bool x16.2.2.1), v15, v16], ownO (kF .f32) 40 v15 x16.2.2.2.1, ownO (kF .f32) 40 v16 x16.2.2.2.2.1, ownO (kF .f32) 40 v13 x15.2.2.2.1, ownO (kF .f32) 40 v14 x15.2.2.2.2, ownO (kF .f32) 40 v7 x13.2.1, ownO (kF .f32) 40 v8 x13.2.2, ownO (kF .f32) 40 v5 x10.2.1, ownO (kF .f32) 40 v6 x10.2.2, boxO bb4 [(.int .i64 x5.1), (.int .i64 x5.2.1), (.bool x5.2.2.1), v7, v8], boxO bb3 [(.int .i64 x4.1), (.int .i64 x4.2.1), (.bool x4.2.2.1), v5, v6], boxO bb2 [(.int .i64 x3.1), (.int .i64 x3.2.1), (.bool x3.2.2.1), v3, v4], ownO (kF .f32) 40 v3 x3.2.2.2.1, ownO (kF .f32) 40 v4 x3.2.2.2.2.1, ownO (kF .f32) 40 v1 x2.2.2.2.1, ownO (kF .f32) 40 v2 x2.2.2.2.2, boxO bb1 [(.int .i64 a0_0), (.int .i64 a0_1), (.bool a0_2), u0_3, u0_4]] := Sep.step (A := []) (L := [boxO bb5 [(.int .i64 x16.1), (.int .i64 x16.2.1), (.bool x16.2.2.1), v15, v16], ownO (kF .f32) 40 v15 x16.2.2.2.1, ownO (kF .f32) 40 v16 x16.2.2.2.2.1, ownO (kF .f32) 40 v13 x15.2.2.2.1, ownO (kF .f32) 40 v14 x15.2.2.2.2, ownO (kF .f32) 40 v7 x13.2.1, ownO (kF .f32) 40 v8 x13.2.2, ownO (kF .f32) 40 v5 x10.2.1, ownO (kF .f32) 40 v6 x10.2.2, boxO bb4 [(.int .i64 x5.1), (.int .i64 x5.2.1), (.bool x5.2.2.1), v7, v8], boxO bb3 [(.int .i64 x4.1), (.int .i64 x4.2.1), (.bool x4.2.2.1), v5, v6], boxO bb2 [(.int .i64 x3.1), (.int .i64 x3.2.1), (.bool x3.2.2.1), v3, v4], ownO (kF .f32) 40 v3 x3.2.2.2.1, ownO (kF .f32) 40 v4 x3.2.2.2.2.1, ownO (kF .f32) 40 v1 x2.2.2.2.1, ownO (kF .f32) 40 v2 x2.2.2.2.2, boxO bb1 [(.int .i64 a0_0), (.int .i64 a0_1), (.bool a0_2), u0_3, u0_4]]) S_36 (Mod.size X_26) MT_24 T_24
                  refine RL.opD (by decide) (opv_not rfl rfl) ?_
                  refine RL.opD (by decide) (opv_move rfl rfl) ?_
                  refine RL.yes _ rfl rfl c10 (by decide) (opv_move rfl rfl) ?_
                  rintro _ _ ⟨rfl, rfl⟩
                  refine RL.yes _ rfl rfl c10 (by decide) (opv_move rfl rfl) ?_
                  rintro _ _ ⟨rfl, rfl⟩
                  refine RL.yes _ rfl rfl c10 (by decide) (opv_bcmp rfl rfl Try.underlying4 rfl rfl) ?_
                  rintro _ _ ⟨rfl, rfl⟩
                  refine RL.opD (by decide) (opv_pick rfl rfl (fun e => absurd (Eq.trans (Eq.symm e) c10) (by decide)) (fun _ => rfl) rfl) ?_
                  refine RL.nil ?_
                  have ey3 := Option.some.inj hy3
                  subst ey3
                  refine onlyN ?_
                  exact ⟨⟨rfl, rfl, rfl, rfl, rfl, rfl, rfl, rfl, rfl, rfl, rfl, rfl, rfl, rfl, rfl, rfl, rfl, rfl, rfl, rfl, rfl, rfl, rfl, trivial⟩, X_27, (Sep.sel S_37 [0, 1, 2, 3, 4, 5, 6, 7, 8, 9, 10, 11, 12, 13, 14, 15, 16] (by decide))⟩
              rintro φ' hp33 ⟨hs3, X_28, S_38⟩
              refine thnN ?_
              refine W.sub hs3 ?_
              by_cases c11 : x17 = true
              · rw [if_pos c11] at hp
                refine W.condT rfl c11 ?_
                refine W.seq ?_
                refine W.region ?_
                refine RL.opD (by decide) (opv_assign rfl rfl) ?_
                refine RL.nil ?_
                refine thnN ?_
                refine W.ret ?_
                refine thnR ?_
                have er := Option.some.inj hp
                subst er
                exact Rt.one rfl rfl ⟨rfl, X_28, (Sep.nil _ _ _)⟩
              · rw [if_neg c11] at hp
                have c11 := eq_false_of_ne_true c11
                refine W.condF rfl c11 ?_
                refine W.skip ?_
                refine thnN ?_
                refine W.seq ?_
                refine W.region ?_
                refine RL.opD (by decide) (opv_assign rfl rfl) ?_
                refine RL.nil ?_
                refine thnN ?_
                refine W.seq ?_
                obtain ⟨x19, hx19, hp⟩ := Option.bind_eq_some_iff.1 hp
                refine W.region ?_
                refine RL.opD (by decide) (opv_loadA (us := [(.int .i64 x5.1), (.int .i64 x5.2.1), (.bool x5.2.2.1), v7, v8]) rfl Try.agg29 Try.size29 rfl (Sep.at (o := boxO bb4 [(.int .i64 x5.1), (.int .i64 x5.2.1), (.bool x5.2.2.1), v7, v8]) S_38 9 rfl) rfl rfl) ?_
                refine RL.opD (by decide) (opv_move rfl rfl) ?_
                refine RL.op _ (by decide) (opv_call (cap := []) (laws_heldSheet_ok _ _ _ _ _ _ (ownO.read (Sep.at (o := ownO (kF .f32) 40 v7 x13.2.1) S_38 5 rfl)) _ _ (ownO.read (Sep.at (o := ownO (kF .f32) 40 v8 x13.2.2) S_38 6 rfl)) _ _ hx19) rfl rfl ⟨rfl, rfl, trivial⟩ Try.func49 rfl rfl) ?_
                rintro _ hp34 ⟨rfl, MT_25, T_25⟩
                have X_29 : Mod [] h0 hp34 := Mod.step (A := []) (L := [boxO bb5 [(.int .i64 x16.1), (.int .i64 x16.2.1), (.bool x16.2.2.1), v15, v16], ownO (kF .f32) 40 v15 x16.2.2.2.1, ownO (kF .f32) 40 v16 x16.2.2.2.2.1, ownO (kF .f32) 40 v13 x15.2.2.2.1, ownO (kF .f32) 40 v14 x15.2.2.2.2, ownO (kF .f32) 40 v7 x13.2.1, ownO (kF .f32) 40 v8 x13.2.2, ownO (kF .f32) 40 v5 x10.2.1, ownO (kF .f32) 40 v6 x10.2.2, boxO bb4 [(.int .i64 x5.1), (.int .i64 x5.2.1), (.bool x5.2.2.1), v7, v8], boxO bb3 [(.int .i64 x4.1), (.int .i64 x4.2.1), (.bool x4.2.2.1), v5, v6], boxO bb2 [(.int .i64 x3.1), (.int .i64 x3.2.1), (.bool x3.2.2.1), v3, v4], ownO (kF .f32) 40 v3 x3.2.2.2.1, ownO (kF .f32) 40 v4 x3.2.2.2.2.1, ownO (kF .f32) 40 v1 x2.2.2.2.1, ownO (kF .f32) 40 v2 x2.2.2.2.2, boxO bb1 [(.int .i64 a0_0), (.int .i64 a0_1), (.bool a0_2), u0_3, u0_4]]) X_28 S_38 MT_25
                have S_39 : Sep [] h0.size hp34 [boxO bb5 [(.int .i64 x16.1), (.int .i64 x16.2.1), (.bool x16.2.2.1), v15, v16], ownO (kF .f32) 40 v15 x16.2.2.2.1, ownO (kF .f32) 40 v16 x16.2.2.2.2.1, ownO (kF .f32) 40 v13 x15.2.2.2.1, ownO (kF .f32) 40 v14 x15.2.2.2.2, ownO (kF .f32) 40 v7 x13.2.1, ownO (kF .f32) 40 v8 x13.2.2, ownO (kF .f32) 40 v5 x10.2.1, ownO (kF .f32) 40 v6 x10.2.2, boxO bb4 [(.int .i64 x5.1), (.int .i64 x5.2.1), (.bool x5.2.2.1), v7, v8], boxO bb3 [(.int .i64 x4.1), (.int .i64 x4.2.1), (.bool x4.2.2.1), v5, v6], boxO bb2 [(.int .i64 x3.1), (.int .i64 x3.2.1), (.bool x3.2.2.1), v3, v4], ownO (kF .f32) 40 v3 x3.2.2.2.1, ownO (kF .f32) 40 v4 x3.2.2.2.2.1, ownO (kF .f32) 40 v1 x2.2.2.2.1, ownO (kF .f32) 40 v2 x2.2.2.2.2, boxO bb1 [(.int .i64 a0_0), (.int .i64 a0_1), (.bool a0_2), u0_3, u0_4]] := Sep.step (A := []) (L := [boxO bb5 [(.int .i64 x16.1), (.int .i64 x16.2.1), (.bool x16.2.2.1), v15, v16], ownO (kF .f32) 40 v15 x16.2.2.2.1, ownO (kF .f32) 40 v16 x16.2.2.2.2.1, ownO (kF .f32) 40 v13 x15.2.2.2.1, ownO (kF .f32) 40 v14 x15.2.2.2.2, ownO (kF .f32) 40 v7 x13.2.1, ownO (kF .f32) 40 v8 x13.2.2, ownO (kF .f32) 40 v5 x10.2.1, ownO (kF .f32) 40 v6 x10.2.2, boxO bb4 [(.int .i64 x5.1), (.int .i64 x5.2.1), (.bool x5.2.2.1), v7, v8], boxO bb3 [(.int .i64 x4.1), (.int .i64 x4.2.1), (.bool x4.2.2.1), v5, v6], boxO bb2 [(.int .i64 x3.1), (.int .i64 x3.2.1), (.bool x3.2.2.1), v3, v4], ownO (kF .f32) 40 v3 x3.2.2.2.1, ownO (kF .f32) 40 v4 x3.2.2.2.2.1, ownO (kF .f32) 40 v1 x2.2.2.2.1, ownO (kF .f32) 40 v2 x2.2.2.2.2, boxO bb1 [(.int .i64 a0_0), (.int .i64 a0_1), (.bool a0_2), u0_3, u0_4]]) S_38 (Mod.size X_28) MT_25 T_25
                refine RL.opD (by decide) (opv_assign rfl rfl) ?_
                refine RL.nil ?_
                refine thnN ?_
                refine W.seq ?_
                refine W.seq ?_
                refine W.region ?_
                refine RL.opD (by decide) (opv_move rfl rfl) ?_
                refine RL.opD (by decide) (opv_icmp rfl rfl rfl rfl) ?_
                refine RL.nil ?_
                refine thnN ?_
                by_cases c12 : (decide (x19 < 0)) = true
                · rw [if_pos c12] at hp
                  refine W.condT rfl c12 ?_
                  refine W.seq ?_
                  refine W.region ?_
                  refine RL.opD (by decide) (opv_assign rfl rfl) ?_
                  refine RL.nil ?_
                  refine thnN ?_
                  refine W.ret ?_
                  refine thnR ?_
                  have er := Option.some.inj hp
                  subst er
                  exact Rt.one rfl rfl ⟨rfl, X_29, (Sep.nil _ _ _)⟩
                · rw [if_neg c12] at hp
                  have c12 := eq_false_of_ne_true c12
                  refine W.condF rfl c12 ?_
                  refine W.skip ?_
                  refine thnN ?_
                  refine W.seq ?_
                  refine W.seq ?_
                  refine W.region ?_
                  refine RL.opD (by decide) (opv_move rfl rfl) ?_
                  refine RL.opD (by decide) (opv_move rfl rfl) ?_
                  refine RL.opD (by decide) (opv_icmp rfl rfl rfl rfl) ?_
                  refine RL.nil ?_
                  refine thnN ?_
                  by_cases c13 : (x19 != x13.1) = true
                  · rw [if_pos c13] at hp
                    refine W.condT rfl c13 ?_
                    refine W.seq ?_
                    refine W.region ?_
                    refine RL.opD (by decide) (opv_assign rfl rfl) ?_
                    refine RL.nil ?_
                    refine thnN ?_
                    refine W.ret ?_
                    refine thnR ?_
                    have er := Option.some.inj hp
                    subst er
                    exact Rt.one rfl rfl ⟨rfl, X_29, (Sep.nil _ _ _)⟩
                  · rw [if_neg c13] at hp
                    have c13 := eq_false_of_ne_true c13
                    refine W.condF rfl c13 ?_
                    refine W.skip ?_
                    refine thnN ?_
                    refine W.seq ?_
                    refine W.region ?_
                    refine RL.opD (by decide) (opv_assign rfl rfl) ?_
                    refine RL.nil ?_
                    refine thnN ?_
                    refine W.ret ?_
                    have er := Option.some.inj hp
                    subst er
                    exact Rt.one rfl rfl ⟨rfl, X_29, (Sep.nil _ _ _)⟩

end Go.H
