/- Functions of the program: what each computes, as a plain function, and that the call comes to it. Written by a program (wip/gen). -/
import Derived.Test.YthccgmjanoeohaaGBase
import Derived.Test.YthccgmjanoeohaaGCopy
import Derived.Test.YthccgmjanoeohaaGSheet
import Derived.Test.YthccgmjanoeohaaGField
import Derived.Test.YthccgmjanoeohaaBase22
import Derived.Test.YthccgmjanoeohaaProg
import Derived.KernelRfl
set_option linter.unusedVariables false
namespace Go.H
open Go Go.Proofs



noncomputable def spec_l03At (a0_0 : Int) (a0_1 : Int) (a0_2 : Bool) (a0_3 : List (Option Nat)) (a0_4 : List (Option Nat)) (a1 : Int) (a2 : Int) : Option Int :=
 (if a0_0 = 0 then none else (if a0_1 = 0 then none else some (IntKind.wrap .i64 ((Int.tmod (IntKind.wrap .i64 (a1 + a0_0)) a0_0) + (IntKind.wrap .i64 (a0_0 * (Int.tmod (IntKind.wrap .i64 (a2 + a0_1)) a0_1)))))))

noncomputable def spec_l03HalfX (a0_0 : Int) (a0_1 : Int) (a0_2 : Bool) (a0_3 : List (Option Nat)) (a0_4 : List (Option Nat)) (a1_0 : List (Option Nat)) (a1_1 : List (Option Nat)) (a1_2 : List (Option Nat)) (a2 : Int) (a3 : Int) : Option (Option Nat) :=
 ((spec_l03At a0_0 a0_1 a0_2 a0_3 a0_4 a2 a3).bind fun (x1 : Int) => (((if (!a0_2) = true then some (a3 == (IntKind.wrap .i64 (a0_1 - 1))) else some false) : Option Bool).bind fun (x2 : Bool) => (if x2 = true then ((idx a1_1 x1).bind fun (x3 : Option Nat) => some x3) else ((idx a1_1 x1).bind fun (x4 : Option Nat) => ((spec_l03At a0_0 a0_1 a0_2 a0_3 a0_4 a2 (IntKind.wrap .i64 (a3 + 1))).bind fun (x5 : Int) => ((idx a1_0 x5).bind fun (x6 : Option Nat) => ((idx a1_0 x1).bind fun (x7 : Option Nat) => some (fop .sub .f32 x4 (fop .mul .f32 (some 1056964608) (fop .sub .f32 x6 x7))))))))))

noncomputable def spec_l03HalfY (a0_0 : Int) (a0_1 : Int) (a0_2 : Bool) (a0_3 : List (Option Nat)) (a0_4 : List (Option Nat)) (a1_0 : List (Option Nat)) (a1_1 : List (Option Nat)) (a1_2 : List (Option Nat)) (a2 : Int) (a3 : Int) : Option (Option Nat) :=
 ((spec_l03At a0_0 a0_1 a0_2 a0_3 a0_4 a2 a3).bind fun (x1 : Int) => (((if (!a0_2) = true then some (a2 == (IntKind.wrap .i64 (a0_0 - 1))) else some false) : Option Bool).bind fun (x2 : Bool) => (if x2 = true then ((idx a1_2 x1).bind fun (x3 : Option Nat) => some x3) else ((idx a1_2 x1).bind fun (x4 : Option Nat) => ((spec_l03At a0_0 a0_1 a0_2 a0_3 a0_4 (IntKind.wrap .i64 (a2 + 1)) a3).bind fun (x5 : Int) => ((idx a1_0 x5).bind fun (x6 : Option Nat) => ((idx a1_0 x1).bind fun (x7 : Option Nat) => some (fop .add .f32 x4 (fop .mul .f32 (some 1056964608) (fop .sub .f32 x6 x7))))))))))

noncomputable def spec_l03Half.s1 (a0_0 : Int) (a0_1 : Int) (a0_2 : Bool) (a0_3 : List (Option Nat)) (a0_4 : List (Option Nat)) (a1_0 : List (Option Nat)) (a1_1 : List (Option Nat)) (a1_2 : List (Option Nat)) (x2 : Int) (x9 : Int) (x10 : List (Option Nat)) (x11 : List (Option Nat)) : Option ((Int × (List (Option Nat)) × (List (Option Nat))) ⊕ (Int × Bool × (List (Option Nat)) × (List (Option Nat)))) :=
 (if (decide (x9 < a0_0)) = true then ((spec_l03At a0_0 a0_1 a0_2 a0_3 a0_4 x9 x2).bind fun (x16 : Int) => ((spec_l03HalfX a0_0 a0_1 a0_2 a0_3 a0_4 a1_0 a1_1 a1_2 x9 x2).bind fun (x17 : Option Nat) => ((idx x10 x16).bind fun (x18 : Option Nat) => ((setF x10 x16 x17).bind fun (x19 : List (Option Nat)) => ((spec_l03HalfY a0_0 a0_1 a0_2 a0_3 a0_4 a1_0 a1_1 a1_2 x9 x2).bind fun (x20 : Option Nat) => ((idx x11 x16).bind fun (x21 : Option Nat) => ((setF x11 x16 x20).bind fun (x22 : List (Option Nat)) => some (.inl (IntKind.wrap .i64 (x9 + 1), x19, x22))))))))) else some (.inr (x9, decide (x9 < a0_0), x10, x11)))

noncomputable def spec_l03Half.s0 (a0_0 : Int) (a0_1 : Int) (a0_2 : Bool) (a0_3 : List (Option Nat)) (a0_4 : List (Option Nat)) (a1_0 : List (Option Nat)) (a1_1 : List (Option Nat)) (a1_2 : List (Option Nat)) (x2 : Int) (x3 : List (Option Nat)) (x4 : List (Option Nat)) : Option ((Int × (List (Option Nat)) × (List (Option Nat))) ⊕ (Int × Bool × (List (Option Nat)) × (List (Option Nat)))) :=
 (if (decide (x2 < a0_1)) = true then ((loopF (fun (s : (Int × (List (Option Nat)) × (List (Option Nat)))) => spec_l03Half.s1 a0_0 a0_1 a0_2 a0_3 a0_4 a1_0 a1_1 a1_2 x2 s.1 s.2.1 s.2.2) (0, x3, x4)).bind fun (⟨x12, x13, x14, x15⟩ : (Int × Bool × (List (Option Nat)) × (List (Option Nat)))) => some (.inl (IntKind.wrap .i64 (x2 + 1), x14, x15))) else some (.inr (x2, decide (x2 < a0_1), x3, x4)))

noncomputable def spec_l03Half (a0_0 : Int) (a0_1 : Int) (a0_2 : Bool) (a0_3 : List (Option Nat)) (a0_4 : List (Option Nat)) (a1_0 : List (Option Nat)) (a1_1 : List (Option Nat)) (a1_2 : List (Option Nat)) : Option ((List (Option Nat)) × (List (Option Nat)) × (List (Option Nat))) :=
 ((spec_l02Own a1_0 a1_1 a1_2).bind fun (x1 : ((List (Option Nat)) × (List (Option Nat)) × (List (Option Nat)))) => ((loopF (fun (s : (Int × (List (Option Nat)) × (List (Option Nat)))) => spec_l03Half.s0 a0_0 a0_1 a0_2 a0_3 a0_4 a1_0 a1_1 a1_2 s.1 s.2.1 s.2.2) (0, x1.2.1, x1.2.2)).bind fun (⟨x5, x6, x7, x8⟩ : (Int × Bool × (List (Option Nat)) × (List (Option Nat)))) => some (x1.1, x7, x8)))

noncomputable def spec_l03Rest (a0_0 : Int) (a0_1 : Int) (a0_2 : Bool) (a0_3 : List (Option Nat)) (a0_4 : List (Option Nat)) (a1_0 : List (Option Nat)) (a1_1 : List (Option Nat)) (a1_2 : List (Option Nat)) (a2 : Int) (a3 : Int) : Option (Option Nat) :=
 ((spec_l03At a0_0 a0_1 a0_2 a0_3 a0_4 a2 a3).bind fun (x1 : Int) => (((if (!a0_2) = true then ((spec_l02Border a0_0 a0_1 a0_2 a0_3 a0_4 a2 a3).bind fun (x3 : Bool) => some x3) else some false) : Option Bool).bind fun (x2 : Bool) => (if x2 = true then ((idx a1_0 x1).bind fun (x4 : Option Nat) => some x4) else ((idx a1_2 x1).bind fun (x5 : Option Nat) => ((spec_l03At a0_0 a0_1 a0_2 a0_3 a0_4 (IntKind.wrap .i64 (a2 - 1)) a3).bind fun (x6 : Int) => ((idx a1_2 x6).bind fun (x7 : Option Nat) => ((idx a1_1 x1).bind fun (x8 : Option Nat) => ((spec_l03At a0_0 a0_1 a0_2 a0_3 a0_4 a2 (IntKind.wrap .i64 (a3 - 1))).bind fun (x9 : Int) => ((idx a1_1 x9).bind fun (x10 : Option Nat) => ((idx a1_0 x1).bind fun (x11 : Option Nat) => ((idx a0_4 x1).bind fun (x12 : Option Nat) => ((idx a0_3 x1).bind fun (x13 : Option Nat) => some (fop .add .f32 (fop .mul .f32 x11 (fop .sub .f32 (some 1065353216) x12)) (fop .mul .f32 x13 (fop .sub .f32 (fop .sub .f32 x5 x7) (fop .sub .f32 x8 x10))))))))))))))))

noncomputable def spec_l03Step.s1 (a0_0 : Int) (a0_1 : Int) (a0_2 : Bool) (a0_3 : List (Option Nat)) (a0_4 : List (Option Nat)) (x1 : ((List (Option Nat)) × (List (Option Nat)) × (List (Option Nat)))) (x3 : Int) (x8 : Int) (x9 : List (Option Nat)) : Option ((Int × (List (Option Nat))) ⊕ (Int × Bool × (List (Option Nat)))) :=
 (if (decide (x8 < a0_0)) = true then ((spec_l03At a0_0 a0_1 a0_2 a0_3 a0_4 x8 x3).bind fun (x13 : Int) => ((spec_l03Rest a0_0 a0_1 a0_2 a0_3 a0_4 x1.1 x1.2.1 x1.2.2 x8 x3).bind fun (x14 : Option Nat) => ((idx x9 x13).bind fun (x15 : Option Nat) => ((setF x9 x13 x14).bind fun (x16 : List (Option Nat)) => some (.inl (IntKind.wrap .i64 (x8 + 1), x16)))))) else some (.inr (x8, decide (x8 < a0_0), x9)))

noncomputable def spec_l03Step.s0 (a0_0 : Int) (a0_1 : Int) (a0_2 : Bool) (a0_3 : List (Option Nat)) (a0_4 : List (Option Nat)) (x1 : ((List (Option Nat)) × (List (Option Nat)) × (List (Option Nat)))) (x3 : Int) (x4 : List (Option Nat)) : Option ((Int × (List (Option Nat))) ⊕ (Int × Bool × (List (Option Nat)))) :=
 (if (decide (x3 < a0_1)) = true then ((loopF (fun (s : (Int × (List (Option Nat)))) => spec_l03Step.s1 a0_0 a0_1 a0_2 a0_3 a0_4 x1 x3 s.1 s.2) (0, x4)).bind fun (⟨x10, x11, x12⟩ : (Int × Bool × (List (Option Nat)))) => some (.inl (IntKind.wrap .i64 (x3 + 1), x12))) else some (.inr (x3, decide (x3 < a0_1), x4)))

noncomputable def spec_l03Step (a0_0 : Int) (a0_1 : Int) (a0_2 : Bool) (a0_3 : List (Option Nat)) (a0_4 : List (Option Nat)) (a1_0 : List (Option Nat)) (a1_1 : List (Option Nat)) (a1_2 : List (Option Nat)) : Option ((List (Option Nat)) × (List (Option Nat)) × (List (Option Nat))) :=
 ((spec_l03Half a0_0 a0_1 a0_2 a0_3 a0_4 a1_0 a1_1 a1_2).bind fun (x1 : ((List (Option Nat)) × (List (Option Nat)) × (List (Option Nat)))) => ((spec_l02Own x1.1 x1.2.1 x1.2.2).bind fun (x2 : ((List (Option Nat)) × (List (Option Nat)) × (List (Option Nat)))) => ((loopF (fun (s : (Int × (List (Option Nat)))) => spec_l03Step.s0 a0_0 a0_1 a0_2 a0_3 a0_4 x1 s.1 s.2) (0, x2.1)).bind fun (⟨x5, x6, x7⟩ : (Int × Bool × (List (Option Nat)))) => some (x7, x2.2.1, x2.2.2))))

set_option maxRecDepth 20000 in
theorem spec_l03At_ok (h0 : Heap) (b0 : Nat) (a0_0 : Int) (a0_1 : Int) (a0_2 : Bool) (u0_3 : Value) (a0_3 : List (Option Nat)) (g0_3 : SL (kF .f32) h0.size h0 u0_3 a0_3) (u0_4 : Value) (a0_4 : List (Option Nat)) (g0_4 : SL (kF .f32) h0.size h0 u0_4 a0_4) (G0 : Bx h0 b0 [(.int .i64 a0_0), (.int .i64 a0_1), (.bool a0_2), u0_3, u0_4]) (a1 : Int) (a2 : Int) (r : Int) (hp : spec_l03At a0_0 a0_1 a0_2 a0_3 a0_4 a1 a2 = some r) : CallsH Try.prog 144 ([(.pointer (some ⟨b0, 0, none⟩)), (.int .i64 a1), (.int .i64 a2)].toArray ++ [].toArray) h0 (fun v h' => v = (.int .i64 r) ∧ h0 = h') := by
 unfold spec_l03At at hp
 refine callsH_of_W (l := [(.pointer (some ⟨b0, 0, none⟩)), (.int .i64 a1), (.int .i64 a2)]) (cap := []) 35 Try.func144 rfl rfl rfl ?_
 refine W.seq ?_
 refine W.region ?_
 refine RL.opD (by decide) (opv_assign rfl rfl) ?_
 refine RL.nil ?_
 refine thnN ?_
 refine W.seq ?_
 by_cases nc1 : a0_0 = 0
 ·rw [if_pos nc1] at hp; cases hp
 rw [if_neg nc1] at hp
 have c1 : a0_0 ≠ 0 := nc1
 by_cases nc2 : a0_1 = 0
 ·rw [if_pos nc2] at hp; cases hp
 rw [if_neg nc2] at hp
 have c2 : a0_1 ≠ 0 := nc2
 refine W.sub (ψ := [(0, (.pointer (some ⟨b0, 0, none⟩))), (1, (.int .i64 a1)), (2, (.int .i64 a2))]) ⟨rfl, rfl, rfl, trivial⟩ ?_
 refine W.regionP [fun v _ => @Eq Value (.int .i64 a1) v, fun v _ => @Eq Value (.pointer (some ⟨b0, 0, none⟩)) v, fun v _ => @Eq Value (.pointer (some ⟨b0, 0, none⟩)) v, fun v _ => @Eq Value (.pointer (some ⟨b0, 0, none⟩)) v, fun v _ => @Eq Value (.int .i64 a0_0) v, fun v _ => @Eq Value (.int .i64 (IntKind.wrap .i64 (a1 + a0_0))) v, fun v _ => @Eq Value (.pointer (some ⟨b0, 0, none⟩)) v, fun v _ => @Eq Value (.pointer (some ⟨b0, 0, none⟩)) v, fun v _ => @Eq Value (.pointer (some ⟨b0, 0, none⟩)) v, fun v _ => @Eq Value (.int .i64 a0_0) v, fun v _ => @Eq Value (.int .i64 (Int.tmod (IntKind.wrap .i64 (a1 + a0_0)) a0_0)) v, fun v _ => @Eq Value (.pointer (some ⟨b0, 0, none⟩)) v, fun v _ => @Eq Value (.pointer (some ⟨b0, 0, none⟩)) v, fun v _ => @Eq Value (.pointer (some ⟨b0, 0, none⟩)) v, fun v _ => @Eq Value (.int .i64 a0_0) v, fun v _ => @Eq Value (.int .i64 a2) v, fun v _ => @Eq Value (.pointer (some ⟨b0, 0, none⟩)) v, fun v _ => @Eq Value (.pointer (some ⟨b0, 0, none⟩)) v, fun v _ => @Eq Value (.pointer (some ⟨b0, 1, none⟩)) v, fun v _ => @Eq Value (.int .i64 a0_1) v, fun v _ => @Eq Value (.int .i64 (IntKind.wrap .i64 (a2 + a0_1))) v, fun v _ => @Eq Value (.pointer (some ⟨b0, 0, none⟩)) v, fun v _ => @Eq Value (.pointer (some ⟨b0, 0, none⟩)) v, fun v _ => @Eq Value (.pointer (some ⟨b0, 1, none⟩)) v, fun v _ => @Eq Value (.int .i64 a0_1) v, fun v _ => @Eq Value (.int .i64 (Int.tmod (IntKind.wrap .i64 (a2 + a0_1)) a0_1)) v, fun v _ => @Eq Value (.int .i64 (IntKind.wrap .i64 (a0_0 * (Int.tmod (IntKind.wrap .i64 (a2 + a0_1)) a0_1)))) v, fun v _ => @Eq Value (.int .i64 (IntKind.wrap .i64 ((Int.tmod (IntKind.wrap .i64 (a1 + a0_0)) a0_0) + (IntKind.wrap .i64 (a0_0 * (Int.tmod (IntKind.wrap .i64 (a2 + a0_1)) a0_1)))))) v, fun v _ => @Eq Value (.int .i64 (IntKind.wrap .i64 ((Int.tmod (IntKind.wrap .i64 (a1 + a0_0)) a0_0) + (IntKind.wrap .i64 (a0_0 * (Int.tmod (IntKind.wrap .i64 (a2 + a0_1)) a0_1)))))) v] [[], [], [1], [2], [3], [0, 4], [], [6], [7], [8], [5, 9], [], [11], [12], [13], [], [], [16], [17], [18], [15, 19], [], [21], [22], [23], [20, 24], [14, 25], [10, 26], [27]] [28] Try.mixed (by decide +kernel) (by decide +kernel) rfl rfl rfl ?_ ?_
 ·refine ⟨⟨rfl, ?_⟩, ⟨rfl, ?_⟩, ⟨rfl, ?_⟩, ⟨rfl, ?_⟩, ⟨rfl, ?_⟩, ⟨rfl, ?_⟩, ⟨rfl, ?_⟩, ⟨rfl, ?_⟩, ⟨rfl, ?_⟩, ⟨rfl, ?_⟩, ⟨rfl, ?_⟩, ⟨rfl, ?_⟩, ⟨rfl, ?_⟩, ⟨rfl, ?_⟩, ⟨rfl, ?_⟩, ⟨rfl, ?_⟩, ⟨rfl, ?_⟩, ⟨rfl, ?_⟩, ⟨rfl, ?_⟩, ⟨rfl, ?_⟩, ⟨rfl, ?_⟩, ⟨rfl, ?_⟩, ⟨rfl, ?_⟩, ⟨rfl, ?_⟩, ⟨rfl, ?_⟩, ⟨rfl, ?_⟩, ⟨rfl, ?_⟩, ⟨rfl, ?_⟩, ⟨rfl, ?_⟩, trivial⟩
  ·rintro _ rfl
   refine Dep.nil ?_
   refine GuardOK.none rfl ?_
   exact OpV.toD (opv_move rfl rfl) rfl
  ·rintro _ rfl
   refine Dep.nil ?_
   refine GuardOK.none rfl ?_
   exact OpV.toD (opv_move rfl rfl) rfl
  ·rintro _ rfl _ rfl
   refine Dep.nil ?_
   refine GuardOK.none rfl ?_
   exact OpV.toD (opv_nilCheck rfl rfl) rfl
  ·rintro _ rfl _ rfl
   refine Dep.nil ?_
   refine GuardOK.none rfl ?_
   exact OpV.toD (opv_fieldAddr rfl Try.fo31_0 rfl) rfl
  ·rintro _ rfl _ rfl
   refine Dep.nil ?_
   refine GuardOK.none rfl ?_
   exact OpV.toD (opv_loadB rfl Try.one2 rfl G0 rfl) rfl
  ·rintro _ rfl _ rfl _ rfl
   refine Dep.nil ?_
   refine GuardOK.none rfl ?_
   exact OpV.toD (opv_add rfl rfl rfl) rfl
  ·rintro _ rfl
   refine Dep.nil ?_
   refine GuardOK.none rfl ?_
   exact OpV.toD (opv_move rfl rfl) rfl
  ·rintro _ rfl _ rfl
   refine Dep.nil ?_
   refine GuardOK.none rfl ?_
   exact OpV.toD (opv_nilCheck rfl rfl) rfl
  ·rintro _ rfl _ rfl
   refine Dep.nil ?_
   refine GuardOK.none rfl ?_
   exact OpV.toD (opv_fieldAddr rfl Try.fo31_0 rfl) rfl
  ·rintro _ rfl _ rfl
   refine Dep.nil ?_
   refine GuardOK.none rfl ?_
   exact OpV.toD (opv_loadB rfl Try.one2 rfl G0 rfl) rfl
  ·rintro _ rfl _ rfl _ rfl
   refine Dep.nil ?_
   refine GuardOK.none rfl ?_
   exact OpV.toD (opv_rem rfl c1 rfl rfl) rfl
  ·rintro _ rfl
   refine Dep.nil ?_
   refine GuardOK.none rfl ?_
   exact OpV.toD (opv_move rfl rfl) rfl
  ·rintro _ rfl _ rfl
   refine Dep.nil ?_
   refine GuardOK.none rfl ?_
   exact OpV.toD (opv_nilCheck rfl rfl) rfl
  ·rintro _ rfl _ rfl
   refine Dep.nil ?_
   refine GuardOK.none rfl ?_
   exact OpV.toD (opv_fieldAddr rfl Try.fo31_0 rfl) rfl
  ·rintro _ rfl _ rfl
   refine Dep.nil ?_
   refine GuardOK.none rfl ?_
   exact OpV.toD (opv_loadB rfl Try.one2 rfl G0 rfl) rfl
  ·rintro _ rfl
   refine Dep.nil ?_
   refine GuardOK.none rfl ?_
   exact OpV.toD (opv_move rfl rfl) rfl
  ·rintro _ rfl
   refine Dep.nil ?_
   refine GuardOK.none rfl ?_
   exact OpV.toD (opv_move rfl rfl) rfl
  ·rintro _ rfl _ rfl
   refine Dep.nil ?_
   refine GuardOK.none rfl ?_
   exact OpV.toD (opv_nilCheck rfl rfl) rfl
  ·rintro _ rfl _ rfl
   refine Dep.nil ?_
   refine GuardOK.none rfl ?_
   exact OpV.toD (opv_fieldAddr rfl Try.fo31_1 rfl) rfl
  ·rintro _ rfl _ rfl
   refine Dep.nil ?_
   refine GuardOK.none rfl ?_
   exact OpV.toD (opv_loadB rfl Try.one2 rfl G0 rfl) rfl
  ·rintro _ rfl _ rfl _ rfl
   refine Dep.nil ?_
   refine GuardOK.none rfl ?_
   exact OpV.toD (opv_add rfl rfl rfl) rfl
  ·rintro _ rfl
   refine Dep.nil ?_
   refine GuardOK.none rfl ?_
   exact OpV.toD (opv_move rfl rfl) rfl
  ·rintro _ rfl _ rfl
   refine Dep.nil ?_
   refine GuardOK.none rfl ?_
   exact OpV.toD (opv_nilCheck rfl rfl) rfl
  ·rintro _ rfl _ rfl
   refine Dep.nil ?_
   refine GuardOK.none rfl ?_
   exact OpV.toD (opv_fieldAddr rfl Try.fo31_1 rfl) rfl
  ·rintro _ rfl _ rfl
   refine Dep.nil ?_
   refine GuardOK.none rfl ?_
   exact OpV.toD (opv_loadB rfl Try.one2 rfl G0 rfl) rfl
  ·rintro _ rfl _ rfl _ rfl
   refine Dep.nil ?_
   refine GuardOK.none rfl ?_
   exact OpV.toD (opv_rem rfl c2 rfl rfl) rfl
  ·rintro _ rfl _ rfl _ rfl
   refine Dep.nil ?_
   refine GuardOK.none rfl ?_
   exact OpV.toD (opv_mul rfl rfl rfl) rfl
  ·rintro _ rfl _ rfl _ rfl
   refine Dep.nil ?_
   refine GuardOK.none rfl ?_
   exact OpV.toD (opv_add rfl rfl rfl) rfl
  ·rintro _ rfl _ rfl
   refine Dep.nil ?_
   refine GuardOK.none rfl ?_
   exact OpV.toD (opv_assign rfl rfl) rfl
 rintro _ rfl
 refine Dep.nil ?_
 show RL _ _ _ _ [] _ _
 refine RL.nil ?_
 refine thnN ?_
 refine W.ret ?_
 have er := Option.some.inj hp
 subst er
 exact Rt.one rfl rfl ⟨rfl, rfl⟩

set_option maxRecDepth 20000 in
theorem spec_l03HalfX_ok (h0 : Heap) (b0 : Nat) (a0_0 : Int) (a0_1 : Int) (a0_2 : Bool) (u0_3 : Value) (a0_3 : List (Option Nat)) (g0_3 : SL (kF .f32) h0.size h0 u0_3 a0_3) (u0_4 : Value) (a0_4 : List (Option Nat)) (g0_4 : SL (kF .f32) h0.size h0 u0_4 a0_4) (G0 : Bx h0 b0 [(.int .i64 a0_0), (.int .i64 a0_1), (.bool a0_2), u0_3, u0_4]) (b1 : Nat) (u1_0 : Value) (a1_0 : List (Option Nat)) (g1_0 : SL (kF .f32) h0.size h0 u1_0 a1_0) (u1_1 : Value) (a1_1 : List (Option Nat)) (g1_1 : SL (kF .f32) h0.size h0 u1_1 a1_1) (u1_2 : Value) (a1_2 : List (Option Nat)) (g1_2 : SL (kF .f32) h0.size h0 u1_2 a1_2) (G1 : Bx h0 b1 [u1_0, u1_1, u1_2]) (a2 : Int) (a3 : Int) (r : Option Nat) (hp : spec_l03HalfX a0_0 a0_1 a0_2 a0_3 a0_4 a1_0 a1_1 a1_2 a2 a3 = some r) : CallsH Try.prog 179 ([(.pointer (some ⟨b0, 0, none⟩)), (.pointer (some ⟨b1, 0, none⟩)), (.int .i64 a2), (.int .i64 a3)].toArray ++ [].toArray) h0 (fun v h' => IsF .f32 v r ∧ h0 = h') := by
 unfold spec_l03HalfX at hp
 refine callsH_of_W (l := [(.pointer (some ⟨b0, 0, none⟩)), (.pointer (some ⟨b1, 0, none⟩)), (.int .i64 a2), (.int .i64 a3)]) (cap := []) 63 Try.func179 rfl rfl rfl ?_
 refine W.seq ?_
 refine W.region ?_
 refine RL.opD (by decide) (opv_assign rfl rfl) ?_
 refine RL.nil ?_
 refine thnN ?_
 refine W.seq ?_
 obtain ⟨x1, hx1, hp⟩ := Option.bind_eq_some_iff.1 hp
 refine W.region ?_
 refine RL.opD (by decide) (opv_move rfl rfl) ?_
 refine RL.opD (by decide) (opv_move rfl rfl) ?_
 refine RL.opD (by decide) (opv_move rfl rfl) ?_
 refine RL.op _ (by decide) (opv_call (cap := []) (spec_l03At_ok _ _ _ _ _ _ _ g0_3 _ _ g0_4 G0 _ _ _ hx1) rfl rfl ⟨rfl, rfl, rfl, trivial⟩ Try.func144 rfl rfl) ?_
 rintro _ _ ⟨rfl, rfl⟩
 refine RL.opD (by decide) (opv_assign rfl rfl) ?_
 refine RL.nil ?_
 refine thnN ?_
 refine W.seq ?_
 refine W.seq ?_
 obtain ⟨x2, hy1, hp⟩ := Option.bind_eq_some_iff.1 hp
 refine W.cut (fun φ' h' => Fr.sub [(0, (.pointer (some ⟨b0, 0, none⟩))), (1, (.pointer (some ⟨b1, 0, none⟩))), (2, (.int .i64 a2)), (3, (.int .i64 a3)), (8, (.float .f32 0)), (9, (.int .i64 x1)), (27, (.bool x2))] φ' ∧ h0 = h') ?_ ?_
 ·by_cases c1 : (!a0_2) = true
  ·rw [if_pos c1] at hy1
   refine W.region ?_
   refine RL.opD (by decide) (opv_move rfl rfl) ?_
   refine RL.opD (by decide) (opv_nilCheck rfl rfl) ?_
   refine RL.opD (by decide) (opv_fieldAddr rfl Try.fo31_2 rfl) ?_
   refine RL.opD (by decide) (opv_loadB rfl Try.one4 rfl G0 rfl) ?_
   refine RL.opD (by decide) (opv_not rfl rfl) ?_
   refine RL.opD (by decide) (opv_move rfl rfl) ?_
   refine RL.yesD rfl rfl c1 (by decide) (opv_move rfl rfl) ?_
   refine RL.yesD rfl rfl c1 (by decide) (opv_move rfl rfl) ?_
   refine RL.yesD rfl rfl c1 (by decide) (opv_nilCheck rfl rfl) ?_
   refine RL.yesD rfl rfl c1 (by decide) (opv_fieldAddr rfl Try.fo31_1 rfl) ?_
   refine RL.yesD rfl rfl c1 (by decide) (opv_loadB rfl Try.one2 rfl G0 rfl) ?_
   refine RL.yesD rfl rfl c1 (by decide) (opv_sub rfl rfl rfl) ?_
   refine RL.yesD rfl rfl c1 (by decide) (opv_icmp rfl rfl rfl rfl) ?_
   refine RL.opD (by decide) (opv_pick rfl rfl (fun _ => rfl) (fun e => absurd (Eq.trans (Eq.symm e) c1) (by decide)) rfl) ?_
   refine RL.nil ?_
   have ey1 := Option.some.inj hy1
   subst ey1
   refine onlyN ?_
   exact ⟨⟨rfl, rfl, rfl, rfl, rfl, rfl, rfl, trivial⟩, rfl⟩
  ·rw [if_neg c1] at hy1
   have c1 := eq_false_of_ne_true c1
   refine W.region ?_
   refine RL.opD (by decide) (opv_move rfl rfl) ?_
   refine RL.opD (by decide) (opv_nilCheck rfl rfl) ?_
   refine RL.opD (by decide) (opv_fieldAddr rfl Try.fo31_2 rfl) ?_
   refine RL.opD (by decide) (opv_loadB rfl Try.one4 rfl G0 rfl) ?_
   refine RL.opD (by decide) (opv_not rfl rfl) ?_
   refine RL.opD (by decide) (opv_move rfl rfl) ?_
   refine RL.noF rfl rfl c1 (by decide) ?_
   refine RL.noF rfl rfl c1 (by decide) ?_
   refine RL.noF rfl rfl c1 (by decide) ?_
   refine RL.noF rfl rfl c1 (by decide) ?_
   refine RL.noF rfl rfl c1 (by decide) ?_
   refine RL.noF rfl rfl c1 (by decide) ?_
   refine RL.noF rfl rfl c1 (by decide) ?_
   refine RL.opD (by decide) (opv_pick rfl rfl (fun e => absurd (Eq.trans (Eq.symm e) c1) (by decide)) (fun _ => rfl) rfl) ?_
   refine RL.nil ?_
   have ey1 := Option.some.inj hy1
   subst ey1
   refine onlyN ?_
   exact ⟨⟨rfl, rfl, rfl, rfl, rfl, rfl, rfl, trivial⟩, rfl⟩
 rintro φ' _ ⟨hs1, rfl⟩
 refine thnN ?_
 refine W.sub hs1 ?_
 by_cases c2 : x2 = true
 ·rw [if_pos c2] at hp
  refine W.condT rfl c2 ?_
  refine W.seq ?_
  obtain ⟨x3, hx3, hp⟩ := Option.bind_eq_some_iff.1 hp
  refine W.region ?_
  refine RL.opD (by decide) (opv_move rfl rfl) ?_
  refine RL.opD (by decide) (opv_nilCheck rfl rfl) ?_
  refine RL.opD (by decide) (opv_fieldAddr rfl Try.fo28_1 rfl) ?_
  refine RL.opD (by decide) (opv_loadB rfl Try.one22 rfl G1 rfl) ?_
  refine RL.opD (by decide) (opv_move rfl rfl) ?_
  refine RL.op _ (by decide) (opv_index rfl Try.underlying22 (by rw [Try.size25]; rfl) rfl rfl g1_1 hx3) ?_
  rintro v1 _ ⟨fv1, rfl⟩
  refine RL.opF (by decide) (opv_loadF rfl Try.one25 rfl fv1 g1_1 hx3) ?_
  intro v2 fv2
  refine RL.opD (by decide) (opv_assign rfl rfl) ?_
  refine RL.nil ?_
  refine thnN ?_
  refine W.ret ?_
  refine thnR ?_
  have er := Option.some.inj hp
  subst er
  exact Rt.one rfl rfl ⟨fv2, rfl⟩
 ·rw [if_neg c2] at hp
  have c2 := eq_false_of_ne_true c2
  refine W.condF rfl c2 ?_
  refine W.skip ?_
  refine thnN ?_
  refine W.seq ?_
  obtain ⟨x4, hx4, hp⟩ := Option.bind_eq_some_iff.1 hp
  obtain ⟨x5, hx5, hp⟩ := Option.bind_eq_some_iff.1 hp
  obtain ⟨x6, hx6, hp⟩ := Option.bind_eq_some_iff.1 hp
  obtain ⟨x7, hx7, hp⟩ := Option.bind_eq_some_iff.1 hp
  refine W.sub (ψ := [(0, (.pointer (some ⟨b0, 0, none⟩))), (1, (.pointer (some ⟨b1, 0, none⟩))), (2, (.int .i64 a2)), (3, (.int .i64 a3)), (9, (.int .i64 x1)), (27, (.bool x2))]) ⟨rfl, rfl, rfl, rfl, rfl, rfl, trivial⟩ ?_
  refine W.regionP [fun v _ => @Eq Value (.pointer (some ⟨b1, 0, none⟩)) v, fun v _ => @Eq Value (.pointer (some ⟨b1, 0, none⟩)) v, fun v _ => @Eq Value (.pointer (some ⟨b1, 1, none⟩)) v, fun v _ => @Eq Value u1_1 v, fun v _ => @Eq Value (.int .i64 x1) v, fun v _ => PtI 1 v u1_1 (Int.toNat x1), fun v _ => IsF .f32 v x4, fun v _ => @Eq Value (.pointer (some ⟨b1, 0, none⟩)) v, fun v _ => @Eq Value (.pointer (some ⟨b1, 0, none⟩)) v, fun v _ => @Eq Value (.pointer (some ⟨b1, 0, none⟩)) v, fun v _ => @Eq Value u1_0 v, fun v _ => @Eq Value (.pointer (some ⟨b0, 0, none⟩)) v, fun v _ => @Eq Value (.int .i64 a2) v, fun v _ => @Eq Value (.int .i64 a3) v, fun v _ => @Eq Value (.int .i64 (IntKind.wrap .i64 (a3 + 1))) v, fun v _ => @Eq Value (.int .i64 x5) v, fun v _ => PtI 1 v u1_0 (Int.toNat x5), fun v _ => IsF .f32 v x6, fun v _ => @Eq Value (.pointer (some ⟨b1, 0, none⟩)) v, fun v _ => @Eq Value (.pointer (some ⟨b1, 0, none⟩)) v, fun v _ => @Eq Value (.pointer (some ⟨b1, 0, none⟩)) v, fun v _ => @Eq Value u1_0 v, fun v _ => @Eq Value (.int .i64 x1) v, fun v _ => PtI 1 v u1_0 (Int.toNat x1), fun v _ => IsF .f32 v x7, fun v _ => IsF .f32 v (fop .sub .f32 x6 x7), fun v _ => IsF .f32 v (fop .mul .f32 (some 1056964608) (fop .sub .f32 x6 x7)), fun v _ => IsF .f32 v (fop .sub .f32 x4 (fop .mul .f32 (some 1056964608) (fop .sub .f32 x6 x7))), fun v _ => IsF .f32 v (fop .sub .f32 x4 (fop .mul .f32 (some 1056964608) (fop .sub .f32 x6 x7)))] [[], [0], [1], [2], [], [3, 4], [5], [], [7], [8], [9], [], [], [], [13], [11, 12, 14], [10, 15], [16], [], [18], [19], [20], [], [21, 22], [23], [17, 24], [25], [6, 26], [27]] [28] Try.mixed (by decide +kernel) (by decide +kernel) rfl rfl rfl ?_ ?_
  ·refine ⟨⟨rfl, ?_⟩, ⟨rfl, ?_⟩, ⟨rfl, ?_⟩, ⟨rfl, ?_⟩, ⟨rfl, ?_⟩, ⟨rfl, ?_⟩, ⟨rfl, ?_⟩, ⟨rfl, ?_⟩, ⟨rfl, ?_⟩, ⟨rfl, ?_⟩, ⟨rfl, ?_⟩, ⟨rfl, ?_⟩, ⟨rfl, ?_⟩, ⟨rfl, ?_⟩, ⟨rfl, ?_⟩, ⟨rfl, ?_⟩, ⟨rfl, ?_⟩, ⟨rfl, ?_⟩, ⟨rfl, ?_⟩, ⟨rfl, ?_⟩, ⟨rfl, ?_⟩, ⟨rfl, ?_⟩, ⟨rfl, ?_⟩, ⟨rfl, ?_⟩, ⟨rfl, ?_⟩, ⟨rfl, ?_⟩, ⟨rfl, ?_⟩, ⟨rfl, ?_⟩, ⟨rfl, ?_⟩, trivial⟩
   ·rintro _ rfl
    refine Dep.nil ?_
    refine GuardOK.none rfl ?_
    exact OpV.toD (opv_move rfl rfl) rfl
   ·rintro _ rfl _ rfl
    refine Dep.nil ?_
    refine GuardOK.none rfl ?_
    exact OpV.toD (opv_nilCheck rfl rfl) rfl
   ·rintro _ rfl _ rfl
    refine Dep.nil ?_
    refine GuardOK.none rfl ?_
    exact OpV.toD (opv_fieldAddr rfl Try.fo28_1 rfl) rfl
   ·rintro _ rfl _ rfl
    refine Dep.nil ?_
    refine GuardOK.none rfl ?_
    exact OpV.toD (opv_loadB rfl Try.one22 rfl G1 rfl) rfl
   ·rintro _ rfl
    refine Dep.nil ?_
    refine GuardOK.none rfl ?_
    exact OpV.toD (opv_move rfl rfl) rfl
   ·rintro _ rfl _ rfl _ rfl
    refine Dep.nil ?_
    refine GuardOK.none rfl ?_
    exact OpV.toS (opv_index rfl Try.underlying22 (by rw [Try.size25]; rfl) rfl rfl g1_1 hx4) (fun _ h => h)
   ·rintro _ rfl v3 fv3
    refine Dep.nil ?_
    refine GuardOK.none rfl ?_
    exact OpV.toS (opv_loadF rfl Try.one25 rfl fv3 g1_1 hx4) (fun _ h => h)
   ·rintro _ rfl
    refine Dep.nil ?_
    refine GuardOK.none rfl ?_
    exact OpV.toD (opv_move rfl rfl) rfl
   ·rintro _ rfl _ rfl
    refine Dep.nil ?_
    refine GuardOK.none rfl ?_
    exact OpV.toD (opv_nilCheck rfl rfl) rfl
   ·rintro _ rfl _ rfl
    refine Dep.nil ?_
    refine GuardOK.none rfl ?_
    exact OpV.toD (opv_fieldAddr rfl Try.fo28_0 rfl) rfl
   ·rintro _ rfl _ rfl
    refine Dep.nil ?_
    refine GuardOK.none rfl ?_
    exact OpV.toD (opv_loadB rfl Try.one22 rfl G1 rfl) rfl
   ·rintro _ rfl
    refine Dep.nil ?_
    refine GuardOK.none rfl ?_
    exact OpV.toD (opv_move rfl rfl) rfl
   ·rintro _ rfl
    refine Dep.nil ?_
    refine GuardOK.none rfl ?_
    exact OpV.toD (opv_move rfl rfl) rfl
   ·rintro _ rfl
    refine Dep.nil ?_
    refine GuardOK.none rfl ?_
    exact OpV.toD (opv_move rfl rfl) rfl
   ·rintro _ rfl _ rfl
    refine Dep.nil ?_
    refine GuardOK.none rfl ?_
    exact OpV.toD (opv_add rfl rfl rfl) rfl
   ·rintro _ rfl _ rfl _ rfl _ rfl
    refine Dep.nil ?_
    refine GuardOK.none rfl ?_
    exact OpV.mono (opv_call (cap := []) (spec_l03At_ok _ _ _ _ _ _ _ g0_3 _ _ g0_4 G0 _ _ _ hx5) rfl rfl ⟨rfl, rfl, rfl, trivial⟩ Try.func144 rfl rfl) (by rintro _ _ ⟨rfl, rfl⟩; exact ⟨rfl, rfl⟩)
   ·rintro _ rfl _ rfl _ rfl
    refine Dep.nil ?_
    refine GuardOK.none rfl ?_
    exact OpV.toS (opv_index rfl Try.underlying22 (by rw [Try.size25]; rfl) rfl rfl g1_0 hx6) (fun _ h => h)
   ·rintro _ rfl v5 fv5
    refine Dep.nil ?_
    refine GuardOK.none rfl ?_
    exact OpV.toS (opv_loadF rfl Try.one25 rfl fv5 g1_0 hx6) (fun _ h => h)
   ·rintro _ rfl
    refine Dep.nil ?_
    refine GuardOK.none rfl ?_
    exact OpV.toD (opv_move rfl rfl) rfl
   ·rintro _ rfl _ rfl
    refine Dep.nil ?_
    refine GuardOK.none rfl ?_
    exact OpV.toD (opv_nilCheck rfl rfl) rfl
   ·rintro _ rfl _ rfl
    refine Dep.nil ?_
    refine GuardOK.none rfl ?_
    exact OpV.toD (opv_fieldAddr rfl Try.fo28_0 rfl) rfl
   ·rintro _ rfl _ rfl
    refine Dep.nil ?_
    refine GuardOK.none rfl ?_
    exact OpV.toD (opv_loadB rfl Try.one22 rfl G1 rfl) rfl
   ·rintro _ rfl
    refine Dep.nil ?_
    refine GuardOK.none rfl ?_
    exact OpV.toD (opv_move rfl rfl) rfl
   ·rintro _ rfl _ rfl _ rfl
    refine Dep.nil ?_
    refine GuardOK.none rfl ?_
    exact OpV.toS (opv_index rfl Try.underlying22 (by rw [Try.size25]; rfl) rfl rfl g1_0 hx7) (fun _ h => h)
   ·rintro _ rfl v7 fv7
    refine Dep.nil ?_
    refine GuardOK.none rfl ?_
    exact OpV.toS (opv_loadF rfl Try.one25 rfl fv7 g1_0 hx7) (fun _ h => h)
   ·rintro _ rfl v6 fv6 v8 fv8
    refine Dep.nil ?_
    refine GuardOK.none rfl ?_
    exact OpV.toS (opv_fop rfl rfl rfl rfl fv6 fv8) (fun _ h => h)
   ·rintro _ rfl v9 fv9
    refine Dep.nil ?_
    refine GuardOK.none rfl ?_
    exact OpV.toS (opv_fop rfl rfl rfl rfl (isF_lit .f32 1056964608 (by decide) (by decide)) fv9) (fun _ h => h)
   ·rintro _ rfl v4 fv4 v10 fv10
    refine Dep.nil ?_
    refine GuardOK.none rfl ?_
    exact OpV.toS (opv_fop rfl rfl rfl rfl fv4 fv10) (fun _ h => h)
   ·rintro _ rfl v11 fv11
    refine Dep.nil ?_
    refine GuardOK.none rfl ?_
    exact OpV.toD (opv_assign rfl rfl) fv11
  rintro v12 fv12
  refine Dep.nil ?_
  show RL _ _ _ _ [] _ _
  refine RL.nil ?_
  refine thnN ?_
  refine W.ret ?_
  have er := Option.some.inj hp
  subst er
  exact Rt.one rfl rfl ⟨fv12, rfl⟩

set_option maxRecDepth 20000 in
theorem spec_l03HalfY_ok (h0 : Heap) (b0 : Nat) (a0_0 : Int) (a0_1 : Int) (a0_2 : Bool) (u0_3 : Value) (a0_3 : List (Option Nat)) (g0_3 : SL (kF .f32) h0.size h0 u0_3 a0_3) (u0_4 : Value) (a0_4 : List (Option Nat)) (g0_4 : SL (kF .f32) h0.size h0 u0_4 a0_4) (G0 : Bx h0 b0 [(.int .i64 a0_0), (.int .i64 a0_1), (.bool a0_2), u0_3, u0_4]) (b1 : Nat) (u1_0 : Value) (a1_0 : List (Option Nat)) (g1_0 : SL (kF .f32) h0.size h0 u1_0 a1_0) (u1_1 : Value) (a1_1 : List (Option Nat)) (g1_1 : SL (kF .f32) h0.size h0 u1_1 a1_1) (u1_2 : Value) (a1_2 : List (Option Nat)) (g1_2 : SL (kF .f32) h0.size h0 u1_2 a1_2) (G1 : Bx h0 b1 [u1_0, u1_1, u1_2]) (a2 : Int) (a3 : Int) (r : Option Nat) (hp : spec_l03HalfY a0_0 a0_1 a0_2 a0_3 a0_4 a1_0 a1_1 a1_2 a2 a3 = some r) : CallsH Try.prog 180 ([(.pointer (some ⟨b0, 0, none⟩)), (.pointer (some ⟨b1, 0, none⟩)), (.int .i64 a2), (.int .i64 a3)].toArray ++ [].toArray) h0 (fun v h' => IsF .f32 v r ∧ h0 = h') := by
 unfold spec_l03HalfY at hp
 refine callsH_of_W (l := [(.pointer (some ⟨b0, 0, none⟩)), (.pointer (some ⟨b1, 0, none⟩)), (.int .i64 a2), (.int .i64 a3)]) (cap := []) 63 Try.func180 rfl rfl rfl ?_
 refine W.seq ?_
 refine W.region ?_
 refine RL.opD (by decide) (opv_assign rfl rfl) ?_
 refine RL.nil ?_
 refine thnN ?_
 refine W.seq ?_
 obtain ⟨x1, hx1, hp⟩ := Option.bind_eq_some_iff.1 hp
 refine W.region ?_
 refine RL.opD (by decide) (opv_move rfl rfl) ?_
 refine RL.opD (by decide) (opv_move rfl rfl) ?_
 refine RL.opD (by decide) (opv_move rfl rfl) ?_
 refine RL.op _ (by decide) (opv_call (cap := []) (spec_l03At_ok _ _ _ _ _ _ _ g0_3 _ _ g0_4 G0 _ _ _ hx1) rfl rfl ⟨rfl, rfl, rfl, trivial⟩ Try.func144 rfl rfl) ?_
 rintro _ _ ⟨rfl, rfl⟩
 refine RL.opD (by decide) (opv_assign rfl rfl) ?_
 refine RL.nil ?_
 refine thnN ?_
 refine W.seq ?_
 refine W.seq ?_
 obtain ⟨x2, hy1, hp⟩ := Option.bind_eq_some_iff.1 hp
 refine W.cut (fun φ' h' => Fr.sub [(0, (.pointer (some ⟨b0, 0, none⟩))), (1, (.pointer (some ⟨b1, 0, none⟩))), (2, (.int .i64 a2)), (3, (.int .i64 a3)), (8, (.float .f32 0)), (9, (.int .i64 x1)), (27, (.bool x2))] φ' ∧ h0 = h') ?_ ?_
 ·by_cases c1 : (!a0_2) = true
  ·rw [if_pos c1] at hy1
   refine W.region ?_
   refine RL.opD (by decide) (opv_move rfl rfl) ?_
   refine RL.opD (by decide) (opv_nilCheck rfl rfl) ?_
   refine RL.opD (by decide) (opv_fieldAddr rfl Try.fo31_2 rfl) ?_
   refine RL.opD (by decide) (opv_loadB rfl Try.one4 rfl G0 rfl) ?_
   refine RL.opD (by decide) (opv_not rfl rfl) ?_
   refine RL.opD (by decide) (opv_move rfl rfl) ?_
   refine RL.yesD rfl rfl c1 (by decide) (opv_move rfl rfl) ?_
   refine RL.yesD rfl rfl c1 (by decide) (opv_move rfl rfl) ?_
   refine RL.yesD rfl rfl c1 (by decide) (opv_nilCheck rfl rfl) ?_
   refine RL.yesD rfl rfl c1 (by decide) (opv_fieldAddr rfl Try.fo31_0 rfl) ?_
   refine RL.yesD rfl rfl c1 (by decide) (opv_loadB rfl Try.one2 rfl G0 rfl) ?_
   refine RL.yesD rfl rfl c1 (by decide) (opv_sub rfl rfl rfl) ?_
   refine RL.yesD rfl rfl c1 (by decide) (opv_icmp rfl rfl rfl rfl) ?_
   refine RL.opD (by decide) (opv_pick rfl rfl (fun _ => rfl) (fun e => absurd (Eq.trans (Eq.symm e) c1) (by decide)) rfl) ?_
   refine RL.nil ?_
   have ey1 := Option.some.inj hy1
   subst ey1
   refine onlyN ?_
   exact ⟨⟨rfl, rfl, rfl, rfl, rfl, rfl, rfl, trivial⟩, rfl⟩
  ·rw [if_neg c1] at hy1
   have c1 := eq_false_of_ne_true c1
   refine W.region ?_
   refine RL.opD (by decide) (opv_move rfl rfl) ?_
   refine RL.opD (by decide) (opv_nilCheck rfl rfl) ?_
   refine RL.opD (by decide) (opv_fieldAddr rfl Try.fo31_2 rfl) ?_
   refine RL.opD (by decide) (opv_loadB rfl Try.one4 rfl G0 rfl) ?_
   refine RL.opD (by decide) (opv_not rfl rfl) ?_
   refine RL.opD (by decide) (opv_move rfl rfl) ?_
   refine RL.noF rfl rfl c1 (by decide) ?_
   refine RL.noF rfl rfl c1 (by decide) ?_
   refine RL.noF rfl rfl c1 (by decide) ?_
   refine RL.noF rfl rfl c1 (by decide) ?_
   refine RL.noF rfl rfl c1 (by decide) ?_
   refine RL.noF rfl rfl c1 (by decide) ?_
   refine RL.noF rfl rfl c1 (by decide) ?_
   refine RL.opD (by decide) (opv_pick rfl rfl (fun e => absurd (Eq.trans (Eq.symm e) c1) (by decide)) (fun _ => rfl) rfl) ?_
   refine RL.nil ?_
   have ey1 := Option.some.inj hy1
   subst ey1
   refine onlyN ?_
   exact ⟨⟨rfl, rfl, rfl, rfl, rfl, rfl, rfl, trivial⟩, rfl⟩
 rintro φ' _ ⟨hs1, rfl⟩
 refine thnN ?_
 refine W.sub hs1 ?_
 by_cases c2 : x2 = true
 ·rw [if_pos c2] at hp
  refine W.condT rfl c2 ?_
  refine W.seq ?_
  obtain ⟨x3, hx3, hp⟩ := Option.bind_eq_some_iff.1 hp
  refine W.region ?_
  refine RL.opD (by decide) (opv_move rfl rfl) ?_
  refine RL.opD (by decide) (opv_nilCheck rfl rfl) ?_
  refine RL.opD (by decide) (opv_fieldAddr rfl Try.fo28_2 rfl) ?_
  refine RL.opD (by decide) (opv_loadB rfl Try.one22 rfl G1 rfl) ?_
  refine RL.opD (by decide) (opv_move rfl rfl) ?_
  refine RL.op _ (by decide) (opv_index rfl Try.underlying22 (by rw [Try.size25]; rfl) rfl rfl g1_2 hx3) ?_
  rintro v1 _ ⟨fv1, rfl⟩
  refine RL.opF (by decide) (opv_loadF rfl Try.one25 rfl fv1 g1_2 hx3) ?_
  intro v2 fv2
  refine RL.opD (by decide) (opv_assign rfl rfl) ?_
  refine RL.nil ?_
  refine thnN ?_
  refine W.ret ?_
  refine thnR ?_
  have er := Option.some.inj hp
  subst er
  exact Rt.one rfl rfl ⟨fv2, rfl⟩
 ·rw [if_neg c2] at hp
  have c2 := eq_false_of_ne_true c2
  refine W.condF rfl c2 ?_
  refine W.skip ?_
  refine thnN ?_
  refine W.seq ?_
  obtain ⟨x4, hx4, hp⟩ := Option.bind_eq_some_iff.1 hp
  obtain ⟨x5, hx5, hp⟩ := Option.bind_eq_some_iff.1 hp
  obtain ⟨x6, hx6, hp⟩ := Option.bind_eq_some_iff.1 hp
  obtain ⟨x7, hx7, hp⟩ := Option.bind_eq_some_iff.1 hp
  refine W.sub (ψ := [(0, (.pointer (some ⟨b0, 0, none⟩))), (1, (.pointer (some ⟨b1, 0, none⟩))), (2, (.int .i64 a2)), (3, (.int .i64 a3)), (9, (.int .i64 x1)), (27, (.bool x2))]) ⟨rfl, rfl, rfl, rfl, rfl, rfl, trivial⟩ ?_
  refine W.regionP [fun v _ => @Eq Value (.pointer (some ⟨b1, 0, none⟩)) v, fun v _ => @Eq Value (.pointer (some ⟨b1, 0, none⟩)) v, fun v _ => @Eq Value (.pointer (some ⟨b1, 2, none⟩)) v, fun v _ => @Eq Value u1_2 v, fun v _ => @Eq Value (.int .i64 x1) v, fun v _ => PtI 1 v u1_2 (Int.toNat x1), fun v _ => IsF .f32 v x4, fun v _ => @Eq Value (.pointer (some ⟨b1, 0, none⟩)) v, fun v _ => @Eq Value (.pointer (some ⟨b1, 0, none⟩)) v, fun v _ => @Eq Value (.pointer (some ⟨b1, 0, none⟩)) v, fun v _ => @Eq Value u1_0 v, fun v _ => @Eq Value (.pointer (some ⟨b0, 0, none⟩)) v, fun v _ => @Eq Value (.int .i64 a2) v, fun v _ => @Eq Value (.int .i64 (IntKind.wrap .i64 (a2 + 1))) v, fun v _ => @Eq Value (.int .i64 a3) v, fun v _ => @Eq Value (.int .i64 x5) v, fun v _ => PtI 1 v u1_0 (Int.toNat x5), fun v _ => IsF .f32 v x6, fun v _ => @Eq Value (.pointer (some ⟨b1, 0, none⟩)) v, fun v _ => @Eq Value (.pointer (some ⟨b1, 0, none⟩)) v, fun v _ => @Eq Value (.pointer (some ⟨b1, 0, none⟩)) v, fun v _ => @Eq Value u1_0 v, fun v _ => @Eq Value (.int .i64 x1) v, fun v _ => PtI 1 v u1_0 (Int.toNat x1), fun v _ => IsF .f32 v x7, fun v _ => IsF .f32 v (fop .sub .f32 x6 x7), fun v _ => IsF .f32 v (fop .mul .f32 (some 1056964608) (fop .sub .f32 x6 x7)), fun v _ => IsF .f32 v (fop .add .f32 x4 (fop .mul .f32 (some 1056964608) (fop .sub .f32 x6 x7))), fun v _ => IsF .f32 v (fop .add .f32 x4 (fop .mul .f32 (some 1056964608) (fop .sub .f32 x6 x7)))] [[], [0], [1], [2], [], [3, 4], [5], [], [7], [8], [9], [], [], [12], [], [11, 13, 14], [10, 15], [16], [], [18], [19], [20], [], [21, 22], [23], [17, 24], [25], [6, 26], [27]] [28] Try.mixed (by decide +kernel) (by decide +kernel) rfl rfl rfl ?_ ?_
  ·refine ⟨⟨rfl, ?_⟩, ⟨rfl, ?_⟩, ⟨rfl, ?_⟩, ⟨rfl, ?_⟩, ⟨rfl, ?_⟩, ⟨rfl, ?_⟩, ⟨rfl, ?_⟩, ⟨rfl, ?_⟩, ⟨rfl, ?_⟩, ⟨rfl, ?_⟩, ⟨rfl, ?_⟩, ⟨rfl, ?_⟩, ⟨rfl, ?_⟩, ⟨rfl, ?_⟩, ⟨rfl, ?_⟩, ⟨rfl, ?_⟩, ⟨rfl, ?_⟩, ⟨rfl, ?_⟩, ⟨rfl, ?_⟩, ⟨rfl, ?_⟩, ⟨rfl, ?_⟩, ⟨rfl, ?_⟩, ⟨rfl, ?_⟩, ⟨rfl, ?_⟩, ⟨rfl, ?_⟩, ⟨rfl, ?_⟩, ⟨rfl, ?_⟩, ⟨rfl, ?_⟩, ⟨rfl, ?_⟩, trivial⟩
   ·rintro _ rfl
    refine Dep.nil ?_
    refine GuardOK.none rfl ?_
    exact OpV.toD (opv_move rfl rfl) rfl
   ·rintro _ rfl _ rfl
    refine Dep.nil ?_
    refine GuardOK.none rfl ?_
    exact OpV.toD (opv_nilCheck rfl rfl) rfl
   ·rintro _ rfl _ rfl
    refine Dep.nil ?_
    refine GuardOK.none rfl ?_
    exact OpV.toD (opv_fieldAddr rfl Try.fo28_2 rfl) rfl
   ·rintro _ rfl _ rfl
    refine Dep.nil ?_
    refine GuardOK.none rfl ?_
    exact OpV.toD (opv_loadB rfl Try.one22 rfl G1 rfl) rfl
   ·rintro _ rfl
    refine Dep.nil ?_
    refine GuardOK.none rfl ?_
    exact OpV.toD (opv_move rfl rfl) rfl
   ·rintro _ rfl _ rfl _ rfl
    refine Dep.nil ?_
    refine GuardOK.none rfl ?_
    exact OpV.toS (opv_index rfl Try.underlying22 (by rw [Try.size25]; rfl) rfl rfl g1_2 hx4) (fun _ h => h)
   ·rintro _ rfl v3 fv3
    refine Dep.nil ?_
    refine GuardOK.none rfl ?_
    exact OpV.toS (opv_loadF rfl Try.one25 rfl fv3 g1_2 hx4) (fun _ h => h)
   ·rintro _ rfl
    refine Dep.nil ?_
    refine GuardOK.none rfl ?_
    exact OpV.toD (opv_move rfl rfl) rfl
   ·rintro _ rfl _ rfl
    refine Dep.nil ?_
    refine GuardOK.none rfl ?_
    exact OpV.toD (opv_nilCheck rfl rfl) rfl
   ·rintro _ rfl _ rfl
    refine Dep.nil ?_
    refine GuardOK.none rfl ?_
    exact OpV.toD (opv_fieldAddr rfl Try.fo28_0 rfl) rfl
   ·rintro _ rfl _ rfl
    refine Dep.nil ?_
    refine GuardOK.none rfl ?_
    exact OpV.toD (opv_loadB rfl Try.one22 rfl G1 rfl) rfl
   ·rintro _ rfl
    refine Dep.nil ?_
    refine GuardOK.none rfl ?_
    exact OpV.toD (opv_move rfl rfl) rfl
   ·rintro _ rfl
    refine Dep.nil ?_
    refine GuardOK.none rfl ?_
    exact OpV.toD (opv_move rfl rfl) rfl
   ·rintro _ rfl _ rfl
    refine Dep.nil ?_
    refine GuardOK.none rfl ?_
    exact OpV.toD (opv_add rfl rfl rfl) rfl
   ·rintro _ rfl
    refine Dep.nil ?_
    refine GuardOK.none rfl ?_
    exact OpV.toD (opv_move rfl rfl) rfl
   ·rintro _ rfl _ rfl _ rfl _ rfl
    refine Dep.nil ?_
    refine GuardOK.none rfl ?_
    exact OpV.mono (opv_call (cap := []) (spec_l03At_ok _ _ _ _ _ _ _ g0_3 _ _ g0_4 G0 _ _ _ hx5) rfl rfl ⟨rfl, rfl, rfl, trivial⟩ Try.func144 rfl rfl) (by rintro _ _ ⟨rfl, rfl⟩; exact ⟨rfl, rfl⟩)
   ·rintro _ rfl _ rfl _ rfl
    refine Dep.nil ?_
    refine GuardOK.none rfl ?_
    exact OpV.toS (opv_index rfl Try.underlying22 (by rw [Try.size25]; rfl) rfl rfl g1_0 hx6) (fun _ h => h)
   ·rintro _ rfl v5 fv5
    refine Dep.nil ?_
    refine GuardOK.none rfl ?_
    exact OpV.toS (opv_loadF rfl Try.one25 rfl fv5 g1_0 hx6) (fun _ h => h)
   ·rintro _ rfl
    refine Dep.nil ?_
    refine GuardOK.none rfl ?_
    exact OpV.toD (opv_move rfl rfl) rfl
   ·rintro _ rfl _ rfl
    refine Dep.nil ?_
    refine GuardOK.none rfl ?_
    exact OpV.toD (opv_nilCheck rfl rfl) rfl
   ·rintro _ rfl _ rfl
    refine Dep.nil ?_
    refine GuardOK.none rfl ?_
    exact OpV.toD (opv_fieldAddr rfl Try.fo28_0 rfl) rfl
   ·rintro _ rfl _ rfl
    refine Dep.nil ?_
    refine GuardOK.none rfl ?_
    exact OpV.toD (opv_loadB rfl Try.one22 rfl G1 rfl) rfl
   ·rintro _ rfl
    refine Dep.nil ?_
    refine GuardOK.none rfl ?_
    exact OpV.toD (opv_move rfl rfl) rfl
   ·rintro _ rfl _ rfl _ rfl
    refine Dep.nil ?_
    refine GuardOK.none rfl ?_
    exact OpV.toS (opv_index rfl Try.underlying22 (by rw [Try.size25]; rfl) rfl rfl g1_0 hx7) (fun _ h => h)
   ·rintro _ rfl v7 fv7
    refine Dep.nil ?_
    refine GuardOK.none rfl ?_
    exact OpV.toS (opv_loadF rfl Try.one25 rfl fv7 g1_0 hx7) (fun _ h => h)
   ·rintro _ rfl v6 fv6 v8 fv8
    refine Dep.nil ?_
    refine GuardOK.none rfl ?_
    exact OpV.toS (opv_fop rfl rfl rfl rfl fv6 fv8) (fun _ h => h)
   ·rintro _ rfl v9 fv9
    refine Dep.nil ?_
    refine GuardOK.none rfl ?_
    exact OpV.toS (opv_fop rfl rfl rfl rfl (isF_lit .f32 1056964608 (by decide) (by decide)) fv9) (fun _ h => h)
   ·rintro _ rfl v4 fv4 v10 fv10
    refine Dep.nil ?_
    refine GuardOK.none rfl ?_
    exact OpV.toS (opv_fop rfl rfl rfl rfl fv4 fv10) (fun _ h => h)
   ·rintro _ rfl v11 fv11
    refine Dep.nil ?_
    refine GuardOK.none rfl ?_
    exact OpV.toD (opv_assign rfl rfl) fv11
  rintro v12 fv12
  refine Dep.nil ?_
  show RL _ _ _ _ [] _ _
  refine RL.nil ?_
  refine thnN ?_
  refine W.ret ?_
  have er := Option.some.inj hp
  subst er
  exact Rt.one rfl rfl ⟨fv12, rfl⟩

set_option maxRecDepth 20000 in
theorem spec_l03Half_ok (h0 : Heap) (b0 : Nat) (a0_0 : Int) (a0_1 : Int) (a0_2 : Bool) (u0_3 : Value) (a0_3 : List (Option Nat)) (g0_3 : SL (kF .f32) h0.size h0 u0_3 a0_3) (u0_4 : Value) (a0_4 : List (Option Nat)) (g0_4 : SL (kF .f32) h0.size h0 u0_4 a0_4) (G0 : Bx h0 b0 [(.int .i64 a0_0), (.int .i64 a0_1), (.bool a0_2), u0_3, u0_4]) (b1 : Nat) (u1_0 : Value) (a1_0 : List (Option Nat)) (g1_0 : SL (kF .f32) h0.size h0 u1_0 a1_0) (u1_1 : Value) (a1_1 : List (Option Nat)) (g1_1 : SL (kF .f32) h0.size h0 u1_1 a1_1) (u1_2 : Value) (a1_2 : List (Option Nat)) (g1_2 : SL (kF .f32) h0.size h0 u1_2 a1_2) (G1 : Bx h0 b1 [u1_0, u1_1, u1_2]) (r : ((List (Option Nat)) × (List (Option Nat)) × (List (Option Nat)))) (hp : spec_l03Half a0_0 a0_1 a0_2 a0_3 a0_4 a1_0 a1_1 a1_2 = some r) : CallsH Try.prog 141 ([(.pointer (some ⟨b0, 0, none⟩)), (.pointer (some ⟨b1, 0, none⟩))].toArray ++ [].toArray) h0 (fun v h' => ∃ w0, ∃ w1, ∃ w2, v = (.agg (List.toArray (α := Value) [w0, w1, w2])) ∧ Mod [] h0 h' ∧ Sep [] h0.size h' [ownO (kF .f32) 25 w0 r.1, ownO (kF .f32) 25 w1 r.2.1, ownO (kF .f32) 25 w2 r.2.2]) := by
 unfold spec_l03Half at hp
 refine callsH_of_W (l := [(.pointer (some ⟨b0, 0, none⟩)), (.pointer (some ⟨b1, 0, none⟩))]) (cap := []) 50 Try.func141 rfl rfl rfl ?_
 refine W.seq ?_
 refine W.region ?_
 refine RL.op _ (by decide) (opS_boxed (opv_alloc (cs := [(.slice none 0 0), (.slice none 0 0), (.slice none 0 0)]) rfl Try.zero28 rfl)) ?_
 rintro _ hp1 ⟨bb1, rfl, MT_1, T_1⟩
 obtain ⟨X_1, S_1⟩ := Sep.turn0 (Mod.refl [] h0) (Sep.nil [] h0.size h0) MT_1 T_1
 refine RL.nil ?_
 refine thnN ?_
 refine W.seq ?_
 obtain ⟨x1, hx1, hp⟩ := Option.bind_eq_some_iff.1 hp
 refine W.region ?_
 refine RL.opD (by decide) (opv_move rfl rfl) ?_
 refine RL.op _ (by decide) (opv_call (cap := []) (spec_l02Own_ok _ _ _ _ (SL.up (SL.mod g1_0 X_1 (Nat.le_refl _) nob) (Nat.le_trans (Nat.le_refl _) (Mod.size X_1))) _ _ (SL.up (SL.mod g1_1 X_1 (Nat.le_refl _) nob) (Nat.le_trans (Nat.le_refl _) (Mod.size X_1))) _ _ (SL.up (SL.mod g1_2 X_1 (Nat.le_refl _) nob) (Nat.le_trans (Nat.le_refl _) (Mod.size X_1))) (Bx.mod G1 X_1 nobB) _ hx1) rfl rfl ⟨rfl, trivial⟩ Try.func142 rfl rfl) ?_
 rintro _ hp2 ⟨v1, v2, v3, rfl, MT_2, T_2⟩
 obtain ⟨X_2, S_2⟩ := Sep.turn0 X_1 S_1 MT_2 T_2
 refine RL.op _ (by decide) (opS_boxed (opv_alloc (cs := [(.slice none 0 0), (.slice none 0 0), (.slice none 0 0)]) rfl Try.zero28 rfl)) ?_
 rintro _ hp3 ⟨bb2, rfl, MT_3, T_3⟩
 obtain ⟨X_3, S_3⟩ := Sep.turn0 X_2 S_2 MT_3 T_3
 refine RL.op0 _ (opS_stored (cs := [(.slice none 0 0), (.slice none 0 0), (.slice none 0 0)]) (cs' := [v1, v2, v3]) (opv_storeA (us := [v1, v2, v3]) rfl Try.size28 rfl rfl (oneAll (ownO.one (Sep.at (o := ownO (kF .f32) 25 v1 x1.1) S_3 1 rfl)) (oneAll (ownO.one (Sep.at (o := ownO (kF .f32) 25 v2 x1.2.1) S_3 2 rfl)) (oneAll (ownO.one (Sep.at (o := ownO (kF .f32) 25 v3 x1.2.2) S_3 3 rfl)) rfl))) (Sep.at (o := boxO bb2 [(.slice none 0 0), (.slice none 0 0), (.slice none 0 0)]) S_3 0 rfl) rfl rfl) (Sep.at (o := boxO bb2 [(.slice none 0 0), (.slice none 0 0), (.slice none 0 0)]) S_3 0 rfl)) ?_
 rintro _ hp4 ⟨rfl, MT_4, T_4⟩
 have S_4 : Sep [] h0.size hp3 ([boxO bb2 [(.slice none 0 0), (.slice none 0 0), (.slice none 0 0)]] ++ [ownO (kF .f32) 25 v1 x1.1, ownO (kF .f32) 25 v2 x1.2.1, ownO (kF .f32) 25 v3 x1.2.2, boxO bb1 [(.slice none 0 0), (.slice none 0 0), (.slice none 0 0)]]) := Sep.sel S_3 [0, 1, 2, 3, 4] (by decide)
 obtain ⟨X_4, S_5⟩ := Sep.turn X_3 S_4 MT_4 T_4
 refine RL.nil ?_
 refine thnN ?_
 refine W.seq ?_
 refine W.seq ?_
 refine W.region ?_
 refine RL.opD (by decide) (opv_assign rfl rfl) ?_
 refine RL.nil ?_
 refine thnN ?_
 obtain ⟨y1, hy1, hp⟩ := Option.bind_eq_some_iff.1 hp
 refine W.cut (fun φ' h' => ∃ x5, ∃ x6, ∃ x7, ∃ x8, y1 = (x5, x6, x7, x8) ∧ Fr.sub [(0, (.pointer (some ⟨b0, 0, none⟩))), (1, (.pointer (some ⟨b1, 0, none⟩))), (4, (.pointer (some ⟨bb1, 0, none⟩))), (5, (.pointer (some ⟨bb2, 0, none⟩))), (6, (.int .i64 x5)), (16, (.bool x6))] φ' ∧ Mod [] h0 h' ∧ Sep [] h0.size h' [boxO bb2 [v1, v2, v3], ownO (kF .f32) 25 v1 x1.1, ownO (kF .f32) 25 v2 x7, ownO (kF .f32) 25 v3 x8, boxO bb1 [(.slice none 0 0), (.slice none 0 0), (.slice none 0 0)]]) ?_ ?_
 ·refine W.block ?_
  refine W.loopS (fun (s : (Int × (List (Option Nat)) × (List (Option Nat)))) φ' h' => Fr.sub [(0, (.pointer (some ⟨b0, 0, none⟩))), (1, (.pointer (some ⟨b1, 0, none⟩))), (4, (.pointer (some ⟨bb1, 0, none⟩))), (5, (.pointer (some ⟨bb2, 0, none⟩))), (6, (.int .i64 s.1))] φ' ∧ Mod [] h0 h' ∧ Sep [] h0.size h' [boxO bb2 [v1, v2, v3], ownO (kF .f32) 25 v1 x1.1, ownO (kF .f32) 25 v2 s.2.1, ownO (kF .f32) 25 v3 s.2.2, boxO bb1 [(.slice none 0 0), (.slice none 0 0), (.slice none 0 0)]]) hy1 ⟨⟨rfl, rfl, rfl, rfl, rfl, trivial⟩, X_4, (Sep.sel S_5 [0, 1, 2, 3, 4] (by decide))⟩ ?_
  rintro ⟨x2, x3, x4⟩ φ' hp5 o1 ⟨hs1, X_5, S_6⟩ ho1 hy1
  have hs1 : Fr.sub [(0, (.pointer (some ⟨b0, 0, none⟩))), (1, (.pointer (some ⟨b1, 0, none⟩))), (4, (.pointer (some ⟨bb1, 0, none⟩))), (5, (.pointer (some ⟨bb2, 0, none⟩))), (6, (.int .i64 x2))] φ' := hs1
  have S_6 : Sep [] h0.size hp5 [boxO bb2 [v1, v2, v3], ownO (kF .f32) 25 v1 x1.1, ownO (kF .f32) 25 v2 x3, ownO (kF .f32) 25 v3 x4, boxO bb1 [(.slice none 0 0), (.slice none 0 0), (.slice none 0 0)]] := S_6
  have ho1 : spec_l03Half.s0 a0_0 a0_1 a0_2 a0_3 a0_4 a1_0 a1_1 a1_2 x2 x3 x4 = some o1 := ho1
  unfold spec_l03Half.s0 at ho1
  refine W.sub hs1 ?_
  refine W.seq ?_
  refine W.seq ?_
  refine W.region ?_
  refine RL.opD (by decide) (opv_move rfl rfl) ?_
  refine RL.opD (by decide) (opv_move rfl rfl) ?_
  refine RL.opD (by decide) (opv_nilCheck rfl rfl) ?_
  refine RL.opD (by decide) (opv_fieldAddr rfl Try.fo31_1 rfl) ?_
  refine RL.opD (by decide) (opv_loadB rfl Try.one2 rfl (Bx.mod G0 X_5 nobB) rfl) ?_
  refine RL.opD (by decide) (opv_icmp rfl rfl rfl rfl) ?_
  refine RL.nil ?_
  refine thnN ?_
  by_cases c1 : (decide (x2 < a0_1)) = true
  ·rw [if_pos c1] at ho1
   refine W.condT rfl c1 ?_
   refine W.skip ?_
   refine thnN ?_
   refine W.seq ?_
   refine W.block ?_
   refine W.seq ?_
   refine W.region ?_
   refine RL.opD (by decide) (opv_assign rfl rfl) ?_
   refine RL.nil ?_
   refine thnN ?_
   obtain ⟨y2, hy2, ho1⟩ := Option.bind_eq_some_iff.1 ho1
   refine W.cut (fun φ' h' => ∃ x12, ∃ x13, ∃ x14, ∃ x15, y2 = (x12, x13, x14, x15) ∧ Fr.sub [(0, (.pointer (some ⟨b0, 0, none⟩))), (1, (.pointer (some ⟨b1, 0, none⟩))), (4, (.pointer (some ⟨bb1, 0, none⟩))), (5, (.pointer (some ⟨bb2, 0, none⟩))), (6, (.int .i64 x2)), (16, (.bool (decide (x2 < a0_1)))), (7, (.int .i64 x12)), (24, (.bool x13))] φ' ∧ Mod [] h0 h' ∧ Sep [] h0.size h' [boxO bb2 [v1, v2, v3], ownO (kF .f32) 25 v1 x1.1, ownO (kF .f32) 25 v2 x14, ownO (kF .f32) 25 v3 x15, boxO bb1 [(.slice none 0 0), (.slice none 0 0), (.slice none 0 0)]]) ?_ ?_
   ·refine W.block ?_
    refine W.loopS (fun (s : (Int × (List (Option Nat)) × (List (Option Nat)))) φ' h' => Fr.sub [(0, (.pointer (some ⟨b0, 0, none⟩))), (1, (.pointer (some ⟨b1, 0, none⟩))), (4, (.pointer (some ⟨bb1, 0, none⟩))), (5, (.pointer (some ⟨bb2, 0, none⟩))), (6, (.int .i64 x2)), (16, (.bool (decide (x2 < a0_1)))), (7, (.int .i64 s.1))] φ' ∧ Mod [] h0 h' ∧ Sep [] h0.size h' [boxO bb2 [v1, v2, v3], ownO (kF .f32) 25 v1 x1.1, ownO (kF .f32) 25 v2 s.2.1, ownO (kF .f32) 25 v3 s.2.2, boxO bb1 [(.slice none 0 0), (.slice none 0 0), (.slice none 0 0)]]) hy2 ⟨⟨rfl, rfl, rfl, rfl, rfl, rfl, rfl, trivial⟩, X_5, (Sep.sel S_6 [0, 1, 2, 3, 4] (by decide))⟩ ?_
    rintro ⟨x9, x10, x11⟩ φ' hp6 o2 ⟨hs3, X_6, S_7⟩ ho2 hy2
    have hs3 : Fr.sub [(0, (.pointer (some ⟨b0, 0, none⟩))), (1, (.pointer (some ⟨b1, 0, none⟩))), (4, (.pointer (some ⟨bb1, 0, none⟩))), (5, (.pointer (some ⟨bb2, 0, none⟩))), (6, (.int .i64 x2)), (16, (.bool (decide (x2 < a0_1)))), (7, (.int .i64 x9))] φ' := hs3
    have S_7 : Sep [] h0.size hp6 [boxO bb2 [v1, v2, v3], ownO (kF .f32) 25 v1 x1.1, ownO (kF .f32) 25 v2 x10, ownO (kF .f32) 25 v3 x11, boxO bb1 [(.slice none 0 0), (.slice none 0 0), (.slice none 0 0)]] := S_7
    have ho2 : spec_l03Half.s1 a0_0 a0_1 a0_2 a0_3 a0_4 a1_0 a1_1 a1_2 x2 x9 x10 x11 = some o2 := ho2
    unfold spec_l03Half.s1 at ho2
    refine W.sub hs3 ?_
    refine W.seq ?_
    refine W.seq ?_
    refine W.region ?_
    refine RL.opD (by decide) (opv_move rfl rfl) ?_
    refine RL.opD (by decide) (opv_move rfl rfl) ?_
    refine RL.opD (by decide) (opv_nilCheck rfl rfl) ?_
    refine RL.opD (by decide) (opv_fieldAddr rfl Try.fo31_0 rfl) ?_
    refine RL.opD (by decide) (opv_loadB rfl Try.one2 rfl (Bx.mod G0 X_6 nobB) rfl) ?_
    refine RL.opD (by decide) (opv_icmp rfl rfl rfl rfl) ?_
    refine RL.nil ?_
    refine thnN ?_
    by_cases c2 : (decide (x9 < a0_0)) = true
    ·rw [if_pos c2] at ho2
     refine W.condT rfl c2 ?_
     refine W.skip ?_
     refine thnN ?_
     refine W.seq ?_
     refine W.block ?_
     refine W.seq ?_
     obtain ⟨x16, hx16, ho2⟩ := Option.bind_eq_some_iff.1 ho2
     refine W.region ?_
     refine RL.opD (by decide) (opv_move rfl rfl) ?_
     refine RL.opD (by decide) (opv_move rfl rfl) ?_
     refine RL.opD (by decide) (opv_move rfl rfl) ?_
     refine RL.op _ (by decide) (opv_call (cap := []) (spec_l03At_ok _ _ _ _ _ _ _ (SL.up (SL.mod g0_3 X_6 (Nat.le_refl _) nob) (Nat.le_trans (Nat.le_refl _) (Mod.size X_6))) _ _ (SL.up (SL.mod g0_4 X_6 (Nat.le_refl _) nob) (Nat.le_trans (Nat.le_refl _) (Mod.size X_6))) (Bx.mod G0 X_6 nobB) _ _ _ hx16) rfl rfl ⟨rfl, rfl, rfl, trivial⟩ Try.func144 rfl rfl) ?_
     rintro _ _ ⟨rfl, rfl⟩
     refine RL.opD (by decide) (opv_assign rfl rfl) ?_
     refine RL.nil ?_
     refine thnN ?_
     refine W.seq ?_
     obtain ⟨x17, hx17, ho2⟩ := Option.bind_eq_some_iff.1 ho2
     obtain ⟨x18, hx18, ho2⟩ := Option.bind_eq_some_iff.1 ho2
     obtain ⟨x19, hx19, ho2⟩ := Option.bind_eq_some_iff.1 ho2
     refine W.sub (ψ := [(0, (.pointer (some ⟨b0, 0, none⟩))), (1, (.pointer (some ⟨b1, 0, none⟩))), (4, (.pointer (some ⟨bb1, 0, none⟩))), (5, (.pointer (some ⟨bb2, 0, none⟩))), (6, (.int .i64 x2)), (16, (.bool (decide (x2 < a0_1)))), (7, (.int .i64 x9)), (24, (.bool (decide (x9 < a0_0)))), (8, (.int .i64 x16))]) ⟨rfl, rfl, rfl, rfl, rfl, rfl, rfl, rfl, rfl, trivial⟩ ?_
     refine W.regionP [fun v _ => @Eq Value (.pointer (some ⟨bb2, 1, none⟩)) v, fun v _ => @Eq Value v2 v, fun v _ => @Eq Value (.int .i64 x16) v, fun v _ => @Eq Value (.pointer (some ⟨b0, 0, none⟩)) v, fun v _ => @Eq Value (.pointer (some ⟨b1, 0, none⟩)) v, fun v _ => @Eq Value (.int .i64 x9) v, fun v _ => @Eq Value (.int .i64 x2) v, fun v _ => IsF .f32 v x17, fun v _ => PtI 1 v v2 (Int.toNat x16)] [[], [0], [], [], [], [], [], [3, 4, 5, 6], [1, 2]] [7, 8] Try.mixed (by decide +kernel) (by decide +kernel) rfl rfl rfl ?_ ?_
     ·refine ⟨⟨rfl, ?_⟩, ⟨rfl, ?_⟩, ⟨rfl, ?_⟩, ⟨rfl, ?_⟩, ⟨rfl, ?_⟩, ⟨rfl, ?_⟩, ⟨rfl, ?_⟩, ⟨rfl, ?_⟩, ⟨rfl, ?_⟩, trivial⟩
      ·rintro _ rfl
       refine Dep.nil ?_
       refine GuardOK.none rfl ?_
       exact OpV.toD (opv_fieldAddr rfl Try.fo28_1 rfl) rfl
      ·rintro _ rfl _ rfl
       refine Dep.nil ?_
       refine GuardOK.none rfl ?_
       exact OpV.toD (opv_loadB rfl Try.one22 rfl (Sep.at (o := boxO bb2 [v1, v2, v3]) S_7 0 rfl) rfl) rfl
      ·rintro _ rfl
       refine Dep.nil ?_
       refine GuardOK.none rfl ?_
       exact OpV.toD (opv_move rfl rfl) rfl
      ·rintro _ rfl
       refine Dep.nil ?_
       refine GuardOK.none rfl ?_
       exact OpV.toD (opv_move rfl rfl) rfl
      ·rintro _ rfl
       refine Dep.nil ?_
       refine GuardOK.none rfl ?_
       exact OpV.toD (opv_move rfl rfl) rfl
      ·rintro _ rfl
       refine Dep.nil ?_
       refine GuardOK.none rfl ?_
       exact OpV.toD (opv_move rfl rfl) rfl
      ·rintro _ rfl
       refine Dep.nil ?_
       refine GuardOK.none rfl ?_
       exact OpV.toD (opv_move rfl rfl) rfl
      ·rintro _ rfl _ rfl _ rfl _ rfl _ rfl
       refine Dep.nil ?_
       refine GuardOK.none rfl ?_
       exact OpV.mono (opv_call (cap := []) (spec_l03HalfX_ok _ _ _ _ _ _ _ (SL.up (SL.mod g0_3 X_6 (Nat.le_refl _) nob) (Nat.le_trans (Nat.le_refl _) (Mod.size X_6))) _ _ (SL.up (SL.mod g0_4 X_6 (Nat.le_refl _) nob) (Nat.le_trans (Nat.le_refl _) (Mod.size X_6))) (Bx.mod G0 X_6 nobB) _ _ _ (SL.up (SL.mod g1_0 X_6 (Nat.le_refl _) nob) (Nat.le_trans (Nat.le_refl _) (Mod.size X_6))) _ _ (SL.up (SL.mod g1_1 X_6 (Nat.le_refl _) nob) (Nat.le_trans (Nat.le_refl _) (Mod.size X_6))) _ _ (SL.up (SL.mod g1_2 X_6 (Nat.le_refl _) nob) (Nat.le_trans (Nat.le_refl _) (Mod.size X_6))) (Bx.mod G1 X_6 nobB) _ _ _ hx17) rfl rfl ⟨rfl, rfl, rfl, rfl, trivial⟩ Try.func179 rfl rfl) (by rintro v4 _ ⟨fv4, rfl⟩; exact ⟨rfl, fv4⟩)
      ·rintro _ rfl _ rfl _ rfl
       refine Dep.nil ?_
       refine GuardOK.none rfl ?_
       exact OpV.toS (opv_index rfl Try.underlying22 (by rw [Try.size25]; rfl) rfl rfl (ownO.read (Sep.at (o := ownO (kF .f32) 25 v2 x10) S_7 2 rfl)) hx18) (fun _ h => h)
     rintro v4 fv4 v5 fv5
     refine Dep.nil ?_
     show RL _ _ _ _ (_ :: _) _ _
     refine RL.op0 _ (opS_storeE (K := (kF .f32)) rfl Try.size25 rfl rfl fv5 rfl ⟨_, rfl, fv4⟩ hx19 (Sep.at (o := ownO (kF .f32) 25 v2 x10) S_7 2 rfl)) ?_
     rintro _ hp8 ⟨rfl, MT_6, T_6⟩
     have S_10 : Sep [] h0.size hp6 ([ownO (kF .f32) 25 v2 x10] ++ [boxO bb2 [v1, v2, v3], ownO (kF .f32) 25 v1 x1.1, ownO (kF .f32) 25 v3 x11, boxO bb1 [(.slice none 0 0), (.slice none 0 0), (.slice none 0 0)]]) := Sep.sel S_7 [2, 0, 1, 3, 4] (by decide)
     obtain ⟨X_8, S_11⟩ := Sep.turn X_6 S_10 MT_6 T_6
     refine RL.nil ?_
     refine thnN ?_
     obtain ⟨x20, hx20, ho2⟩ := Option.bind_eq_some_iff.1 ho2
     obtain ⟨x21, hx21, ho2⟩ := Option.bind_eq_some_iff.1 ho2
     obtain ⟨x22, hx22, ho2⟩ := Option.bind_eq_some_iff.1 ho2
     refine W.sub (ψ := [(0, (.pointer (some ⟨b0, 0, none⟩))), (1, (.pointer (some ⟨b1, 0, none⟩))), (4, (.pointer (some ⟨bb1, 0, none⟩))), (5, (.pointer (some ⟨bb2, 0, none⟩))), (6, (.int .i64 x2)), (16, (.bool (decide (x2 < a0_1)))), (7, (.int .i64 x9)), (24, (.bool (decide (x9 < a0_0)))), (8, (.int .i64 x16))]) ⟨rfl, rfl, rfl, rfl, rfl, rfl, rfl, rfl, rfl, trivial⟩ ?_
     refine W.regionP [fun v _ => @Eq Value (.pointer (some ⟨bb2, 2, none⟩)) v, fun v _ => @Eq Value v3 v, fun v _ => @Eq Value (.int .i64 x16) v, fun v _ => @Eq Value (.pointer (some ⟨b0, 0, none⟩)) v, fun v _ => @Eq Value (.pointer (some ⟨b1, 0, none⟩)) v, fun v _ => @Eq Value (.int .i64 x9) v, fun v _ => @Eq Value (.int .i64 x2) v, fun v _ => IsF .f32 v x20, fun v _ => PtI 1 v v3 (Int.toNat x16)] [[], [0], [], [], [], [], [], [3, 4, 5, 6], [1, 2]] [7, 8] Try.mixed (by decide +kernel) (by decide +kernel) rfl rfl rfl ?_ ?_
     ·refine ⟨⟨rfl, ?_⟩, ⟨rfl, ?_⟩, ⟨rfl, ?_⟩, ⟨rfl, ?_⟩, ⟨rfl, ?_⟩, ⟨rfl, ?_⟩, ⟨rfl, ?_⟩, ⟨rfl, ?_⟩, ⟨rfl, ?_⟩, trivial⟩
      ·rintro _ rfl
       refine Dep.nil ?_
       refine GuardOK.none rfl ?_
       exact OpV.toD (opv_fieldAddr rfl Try.fo28_2 rfl) rfl
      ·rintro _ rfl _ rfl
       refine Dep.nil ?_
       refine GuardOK.none rfl ?_
       exact OpV.toD (opv_loadB rfl Try.one22 rfl (Sep.at (o := boxO bb2 [v1, v2, v3]) S_11 1 rfl) rfl) rfl
      ·rintro _ rfl
       refine Dep.nil ?_
       refine GuardOK.none rfl ?_
       exact OpV.toD (opv_move rfl rfl) rfl
      ·rintro _ rfl
       refine Dep.nil ?_
       refine GuardOK.none rfl ?_
       exact OpV.toD (opv_move rfl rfl) rfl
      ·rintro _ rfl
       refine Dep.nil ?_
       refine GuardOK.none rfl ?_
       exact OpV.toD (opv_move rfl rfl) rfl
      ·rintro _ rfl
       refine Dep.nil ?_
       refine GuardOK.none rfl ?_
       exact OpV.toD (opv_move rfl rfl) rfl
      ·rintro _ rfl
       refine Dep.nil ?_
       refine GuardOK.none rfl ?_
       exact OpV.toD (opv_move rfl rfl) rfl
      ·rintro _ rfl _ rfl _ rfl _ rfl _ rfl
       refine Dep.nil ?_
       refine GuardOK.none rfl ?_
       exact OpV.mono (opv_call (cap := []) (spec_l03HalfY_ok _ _ _ _ _ _ _ (SL.up (SL.mod g0_3 X_8 (Nat.le_refl _) nob) (Nat.le_trans (Nat.le_refl _) (Mod.size X_8))) _ _ (SL.up (SL.mod g0_4 X_8 (Nat.le_refl _) nob) (Nat.le_trans (Nat.le_refl _) (Mod.size X_8))) (Bx.mod G0 X_8 nobB) _ _ _ (SL.up (SL.mod g1_0 X_8 (Nat.le_refl _) nob) (Nat.le_trans (Nat.le_refl _) (Mod.size X_8))) _ _ (SL.up (SL.mod g1_1 X_8 (Nat.le_refl _) nob) (Nat.le_trans (Nat.le_refl _) (Mod.size X_8))) _ _ (SL.up (SL.mod g1_2 X_8 (Nat.le_refl _) nob) (Nat.le_trans (Nat.le_refl _) (Mod.size X_8))) (Bx.mod G1 X_8 nobB) _ _ _ hx20) rfl rfl ⟨rfl, rfl, rfl, rfl, trivial⟩ Try.func180 rfl rfl) (by rintro v6 _ ⟨fv6, rfl⟩; exact ⟨rfl, fv6⟩)
      ·rintro _ rfl _ rfl _ rfl
       refine Dep.nil ?_
       refine GuardOK.none rfl ?_
       exact OpV.toS (opv_index rfl Try.underlying22 (by rw [Try.size25]; rfl) rfl rfl (ownO.read (Sep.at (o := ownO (kF .f32) 25 v3 x11) S_11 3 rfl)) hx21) (fun _ h => h)
     rintro v6 fv6 v7 fv7
     refine Dep.nil ?_
     show RL _ _ _ _ (_ :: _) _ _
     refine RL.op0 _ (opS_storeE (K := (kF .f32)) rfl Try.size25 rfl rfl fv7 rfl ⟨_, rfl, fv6⟩ hx22 (Sep.at (o := ownO (kF .f32) 25 v3 x11) S_11 3 rfl)) ?_
     rintro _ hp10 ⟨rfl, MT_8, T_8⟩
     have S_14 : Sep [] h0.size hp8 ([ownO (kF .f32) 25 v3 x11] ++ [ownO (kF .f32) 25 v2 x19, boxO bb2 [v1, v2, v3], ownO (kF .f32) 25 v1 x1.1, boxO bb1 [(.slice none 0 0), (.slice none 0 0), (.slice none 0 0)]]) := Sep.sel S_11 [3, 0, 1, 2, 4] (by decide)
     obtain ⟨X_10, S_15⟩ := Sep.turn X_8 S_14 MT_8 T_8
     refine RL.nil ?_
     refine blkN ?_
     refine thnN ?_
     refine W.region ?_
     refine RL.opD (by decide) (opv_move rfl rfl) ?_
     refine RL.opD (by decide) (opv_add rfl rfl rfl) ?_
     refine RL.opD (by decide) (opv_assign rfl rfl) ?_
     refine RL.nil ?_
     have eo2 := Option.some.inj ho2
     subst eo2
     refine rndN (s' := (IntKind.wrap .i64 (x9 + 1), x19, x22)) rfl ?_
     exact ⟨⟨rfl, rfl, rfl, rfl, rfl, rfl, rfl, trivial⟩, X_10, (Sep.sel S_15 [2, 3, 1, 0, 4] (by decide))⟩
    ·rw [if_neg c2] at ho2
     have c2 := eq_false_of_ne_true c2
     refine W.condF rfl c2 ?_
     refine W.exit ?_
     refine thnX ?_
     refine rndX ?_
     refine blkI ?_
     have eo2 := Option.some.inj ho2
     subst eo2
     have ey2 := hy2 _ rfl
     subst ey2
     refine onlyN ?_
     exact ⟨x9, decide (x9 < a0_0), x10, x11, rfl, ⟨rfl, rfl, rfl, rfl, rfl, rfl, rfl, rfl, trivial⟩, X_6, (Sep.sel S_7 [0, 1, 2, 3, 4] (by decide))⟩
   rintro φ' hp11 ⟨x12, x13, x14, x15, rfl, hs4, X_11, S_16⟩
   try dsimp only at ho1
   refine blkN ?_
   refine thnN ?_
   refine W.sub hs4 ?_
   refine W.region ?_
   refine RL.opD (by decide) (opv_move rfl rfl) ?_
   refine RL.opD (by decide) (opv_add rfl rfl rfl) ?_
   refine RL.opD (by decide) (opv_assign rfl rfl) ?_
   refine RL.nil ?_
   have eo1 := Option.some.inj ho1
   subst eo1
   refine rndN (s' := (IntKind.wrap .i64 (x2 + 1), x14, x15)) rfl ?_
   exact ⟨⟨rfl, rfl, rfl, rfl, rfl, trivial⟩, X_11, (Sep.sel S_16 [0, 1, 2, 3, 4] (by decide))⟩
  ·rw [if_neg c1] at ho1
   have c1 := eq_false_of_ne_true c1
   refine W.condF rfl c1 ?_
   refine W.exit ?_
   refine thnX ?_
   refine rndX ?_
   refine blkI ?_
   have eo1 := Option.some.inj ho1
   subst eo1
   have ey1 := hy1 _ rfl
   subst ey1
   refine onlyN ?_
   exact ⟨x2, decide (x2 < a0_1), x3, x4, rfl, ⟨rfl, rfl, rfl, rfl, rfl, rfl, trivial⟩, X_5, (Sep.sel S_6 [0, 1, 2, 3, 4] (by decide))⟩
 rintro φ' hp12 ⟨x5, x6, x7, x8, rfl, hs2, X_12, S_17⟩
 try dsimp only at hp
 refine thnN ?_
 refine W.sub hs2 ?_
 refine W.seq ?_
 refine W.region ?_
 refine RL.opD (by decide) (opv_loadA (us := [v1, v2, v3]) rfl Try.agg28 Try.size28 rfl (Sep.at (o := boxO bb2 [v1, v2, v3]) S_17 0 rfl) rfl rfl) ?_
 refine RL.op0 _ (opS_stored (cs := [(.slice none 0 0), (.slice none 0 0), (.slice none 0 0)]) (cs' := [v1, v2, v3]) (opv_storeA (us := [v1, v2, v3]) rfl Try.size28 rfl rfl (oneAll (ownO.one (Sep.at (o := ownO (kF .f32) 25 v1 x1.1) S_17 1 rfl)) (oneAll (ownO.one (Sep.at (o := ownO (kF .f32) 25 v2 x7) S_17 2 rfl)) (oneAll (ownO.one (Sep.at (o := ownO (kF .f32) 25 v3 x8) S_17 3 rfl)) rfl))) (Sep.at (o := boxO bb1 [(.slice none 0 0), (.slice none 0 0), (.slice none 0 0)]) S_17 4 rfl) rfl rfl) (Sep.at (o := boxO bb1 [(.slice none 0 0), (.slice none 0 0), (.slice none 0 0)]) S_17 4 rfl)) ?_
 rintro _ hp13 ⟨rfl, MT_9, T_9⟩
 have S_18 : Sep [] h0.size hp12 ([boxO bb1 [(.slice none 0 0), (.slice none 0 0), (.slice none 0 0)]] ++ [boxO bb2 [v1, v2, v3], ownO (kF .f32) 25 v1 x1.1, ownO (kF .f32) 25 v2 x7, ownO (kF .f32) 25 v3 x8]) := Sep.sel S_17 [4, 0, 1, 2, 3] (by decide)
 obtain ⟨X_13, S_19⟩ := Sep.turn X_12 S_18 MT_9 T_9
 refine RL.nil ?_
 refine thnN ?_
 refine W.ret ?_
 have er := Option.some.inj hp
 subst er
 exact Rt.cell1 rfl rfl Try.agg28 Try.size28 (Sep.at (o := boxO bb1 [v1, v2, v3]) S_19 0 rfl) rfl ⟨v1, v2, v3, rfl, X_13, (Sep.sel S_19 [2, 3, 4] (by decide))⟩

set_option maxRecDepth 20000 in
theorem spec_l03Rest_ok (h0 : Heap) (b0 : Nat) (a0_0 : Int) (a0_1 : Int) (a0_2 : Bool) (u0_3 : Value) (a0_3 : List (Option Nat)) (g0_3 : SL (kF .f32) h0.size h0 u0_3 a0_3) (u0_4 : Value) (a0_4 : List (Option Nat)) (g0_4 : SL (kF .f32) h0.size h0 u0_4 a0_4) (G0 : Bx h0 b0 [(.int .i64 a0_0), (.int .i64 a0_1), (.bool a0_2), u0_3, u0_4]) (b1 : Nat) (u1_0 : Value) (a1_0 : List (Option Nat)) (g1_0 : SL (kF .f32) h0.size h0 u1_0 a1_0) (u1_1 : Value) (a1_1 : List (Option Nat)) (g1_1 : SL (kF .f32) h0.size h0 u1_1 a1_1) (u1_2 : Value) (a1_2 : List (Option Nat)) (g1_2 : SL (kF .f32) h0.size h0 u1_2 a1_2) (G1 : Bx h0 b1 [u1_0, u1_1, u1_2]) (a2 : Int) (a3 : Int) (r : Option Nat) (hp : spec_l03Rest a0_0 a0_1 a0_2 a0_3 a0_4 a1_0 a1_1 a1_2 a2 a3 = some r) : CallsH Try.prog 143 ([(.pointer (some ⟨b0, 0, none⟩)), (.pointer (some ⟨b1, 0, none⟩)), (.int .i64 a2), (.int .i64 a3)].toArray ++ [].toArray) h0 (fun v h' => IsF .f32 v r ∧ h0 = h') := by
 unfold spec_l03Rest at hp
 refine callsH_of_W (l := [(.pointer (some ⟨b0, 0, none⟩)), (.pointer (some ⟨b1, 0, none⟩)), (.int .i64 a2), (.int .i64 a3)]) (cap := []) 102 Try.func143 rfl rfl rfl ?_
 refine W.seq ?_
 refine W.region ?_
 refine RL.opD (by decide) (opv_assign rfl rfl) ?_
 refine RL.nil ?_
 refine thnN ?_
 refine W.seq ?_
 obtain ⟨x1, hx1, hp⟩ := Option.bind_eq_some_iff.1 hp
 refine W.region ?_
 refine RL.opD (by decide) (opv_move rfl rfl) ?_
 refine RL.opD (by decide) (opv_move rfl rfl) ?_
 refine RL.opD (by decide) (opv_move rfl rfl) ?_
 refine RL.op _ (by decide) (opv_call (cap := []) (spec_l03At_ok _ _ _ _ _ _ _ g0_3 _ _ g0_4 G0 _ _ _ hx1) rfl rfl ⟨rfl, rfl, rfl, trivial⟩ Try.func144 rfl rfl) ?_
 rintro _ _ ⟨rfl, rfl⟩
 refine RL.opD (by decide) (opv_assign rfl rfl) ?_
 refine RL.nil ?_
 refine thnN ?_
 refine W.seq ?_
 refine W.seq ?_
 obtain ⟨x2, hy1, hp⟩ := Option.bind_eq_some_iff.1 hp
 refine W.cut (fun φ' h' => Fr.sub [(0, (.pointer (some ⟨b0, 0, none⟩))), (1, (.pointer (some ⟨b1, 0, none⟩))), (2, (.int .i64 a2)), (3, (.int .i64 a3)), (8, (.float .f32 0)), (9, (.int .i64 x1)), (27, (.bool x2))] φ' ∧ h0 = h') ?_ ?_
 ·by_cases c1 : (!a0_2) = true
  ·rw [if_pos c1] at hy1
   obtain ⟨x3, hx3, hy1⟩ := Option.bind_eq_some_iff.1 hy1
   refine W.region ?_
   refine RL.opD (by decide) (opv_move rfl rfl) ?_
   refine RL.opD (by decide) (opv_nilCheck rfl rfl) ?_
   refine RL.opD (by decide) (opv_fieldAddr rfl Try.fo31_2 rfl) ?_
   refine RL.opD (by decide) (opv_loadB rfl Try.one4 rfl G0 rfl) ?_
   refine RL.opD (by decide) (opv_not rfl rfl) ?_
   refine RL.opD (by decide) (opv_move rfl rfl) ?_
   refine RL.yesD rfl rfl c1 (by decide) (opv_move rfl rfl) ?_
   refine RL.yesD rfl rfl c1 (by decide) (opv_move rfl rfl) ?_
   refine RL.yesD rfl rfl c1 (by decide) (opv_move rfl rfl) ?_
   refine RL.yes _ rfl rfl c1 (by decide) (opv_call (cap := []) (spec_l02Border_ok _ _ _ _ _ _ _ g0_3 _ _ g0_4 G0 _ _ _ hx3) rfl rfl ⟨rfl, rfl, rfl, trivial⟩ Try.func171 rfl rfl) ?_
   rintro _ _ ⟨rfl, rfl⟩
   refine RL.opD (by decide) (opv_pick rfl rfl (fun _ => rfl) (fun e => absurd (Eq.trans (Eq.symm e) c1) (by decide)) rfl) ?_
   refine RL.nil ?_
   have ey1 := Option.some.inj hy1
   subst ey1
   refine onlyN ?_
   exact ⟨⟨rfl, rfl, rfl, rfl, rfl, rfl, rfl, trivial⟩, rfl⟩
  ·rw [if_neg c1] at hy1
   have c1 := eq_false_of_ne_true c1
   refine W.region ?_
   refine RL.opD (by decide) (opv_move rfl rfl) ?_
   refine RL.opD (by decide) (opv_nilCheck rfl rfl) ?_
   refine RL.opD (by decide) (opv_fieldAddr rfl Try.fo31_2 rfl) ?_
   refine RL.opD (by decide) (opv_loadB rfl Try.one4 rfl G0 rfl) ?_
   refine RL.opD (by decide) (opv_not rfl rfl) ?_
   refine RL.opD (by decide) (opv_move rfl rfl) ?_
   refine RL.noF rfl rfl c1 (by decide) ?_
   refine RL.noF rfl rfl c1 (by decide) ?_
   refine RL.noF rfl rfl c1 (by decide) ?_
   refine RL.noF rfl rfl c1 (by decide) ?_
   refine RL.opD (by decide) (opv_pick rfl rfl (fun e => absurd (Eq.trans (Eq.symm e) c1) (by decide)) (fun _ => rfl) rfl) ?_
   refine RL.nil ?_
   have ey1 := Option.some.inj hy1
   subst ey1
   refine onlyN ?_
   exact ⟨⟨rfl, rfl, rfl, rfl, rfl, rfl, rfl, trivial⟩, rfl⟩
 rintro φ' _ ⟨hs1, rfl⟩
 refine thnN ?_
 refine W.sub hs1 ?_
 by_cases c2 : x2 = true
 ·rw [if_pos c2] at hp
  refine W.condT rfl c2 ?_
  refine W.seq ?_
  obtain ⟨x4, hx4, hp⟩ := Option.bind_eq_some_iff.1 hp
  refine W.region ?_
  refine RL.opD (by decide) (opv_move rfl rfl) ?_
  refine RL.opD (by decide) (opv_nilCheck rfl rfl) ?_
  refine RL.opD (by decide) (opv_fieldAddr rfl Try.fo28_0 rfl) ?_
  refine RL.opD (by decide) (opv_loadB rfl Try.one22 rfl G1 rfl) ?_
  refine RL.opD (by decide) (opv_move rfl rfl) ?_
  refine RL.op _ (by decide) (opv_index rfl Try.underlying22 (by rw [Try.size25]; rfl) rfl rfl g1_0 hx4) ?_
  rintro v1 _ ⟨fv1, rfl⟩
  refine RL.opF (by decide) (opv_loadF rfl Try.one25 rfl fv1 g1_0 hx4) ?_
  intro v2 fv2
  refine RL.opD (by decide) (opv_assign rfl rfl) ?_
  refine RL.nil ?_
  refine thnN ?_
  refine W.ret ?_
  refine thnR ?_
  have er := Option.some.inj hp
  subst er
  exact Rt.one rfl rfl ⟨fv2, rfl⟩
 ·rw [if_neg c2] at hp
  have c2 := eq_false_of_ne_true c2
  refine W.condF rfl c2 ?_
  refine W.skip ?_
  refine thnN ?_
  refine W.seq ?_
  obtain ⟨x5, hx5, hp⟩ := Option.bind_eq_some_iff.1 hp
  obtain ⟨x6, hx6, hp⟩ := Option.bind_eq_some_iff.1 hp
  obtain ⟨x7, hx7, hp⟩ := Option.bind_eq_some_iff.1 hp
  refine W.sub (ψ := [(0, (.pointer (some ⟨b0, 0, none⟩))), (1, (.pointer (some ⟨b1, 0, none⟩))), (2, (.int .i64 a2)), (3, (.int .i64 a3)), (8, (.float .f32 0)), (9, (.int .i64 x1)), (27, (.bool x2))]) ⟨rfl, rfl, rfl, rfl, rfl, rfl, rfl, trivial⟩ ?_
  refine W.regionP [fun v _ => @Eq Value (.pointer (some ⟨b1, 0, none⟩)) v, fun v _ => @Eq Value (.pointer (some ⟨b1, 0, none⟩)) v, fun v _ => @Eq Value (.pointer (some ⟨b1, 2, none⟩)) v, fun v _ => @Eq Value u1_2 v, fun v _ => @Eq Value (.int .i64 x1) v, fun v _ => PtI 1 v u1_2 (Int.toNat x1), fun v _ => IsF .f32 v x5, fun v _ => @Eq Value (.pointer (some ⟨b1, 0, none⟩)) v, fun v _ => @Eq Value (.pointer (some ⟨b1, 0, none⟩)) v, fun v _ => @Eq Value (.pointer (some ⟨b1, 2, none⟩)) v, fun v _ => @Eq Value u1_2 v, fun v _ => @Eq Value (.pointer (some ⟨b0, 0, none⟩)) v, fun v _ => @Eq Value (.int .i64 a2) v, fun v _ => @Eq Value (.int .i64 (IntKind.wrap .i64 (a2 - 1))) v, fun v _ => @Eq Value (.int .i64 a3) v, fun v _ => @Eq Value (.int .i64 x6) v, fun v _ => PtI 1 v u1_2 (Int.toNat x6), fun v _ => IsF .f32 v x7, fun v _ => IsF .f32 v (fop .sub .f32 x5 x7), fun v _ => IsF .f32 v (fop .sub .f32 x5 x7)] [[], [0], [1], [2], [], [3, 4], [5], [], [7], [8], [9], [], [], [12], [], [11, 13, 14], [10, 15], [16], [6, 17], [18]] [19] Try.mixed (by decide +kernel) (by decide +kernel) rfl rfl rfl ?_ ?_
  ·refine ⟨⟨rfl, ?_⟩, ⟨rfl, ?_⟩, ⟨rfl, ?_⟩, ⟨rfl, ?_⟩, ⟨rfl, ?_⟩, ⟨rfl, ?_⟩, ⟨rfl, ?_⟩, ⟨rfl, ?_⟩, ⟨rfl, ?_⟩, ⟨rfl, ?_⟩, ⟨rfl, ?_⟩, ⟨rfl, ?_⟩, ⟨rfl, ?_⟩, ⟨rfl, ?_⟩, ⟨rfl, ?_⟩, ⟨rfl, ?_⟩, ⟨rfl, ?_⟩, ⟨rfl, ?_⟩, ⟨rfl, ?_⟩, ⟨rfl, ?_⟩, trivial⟩
   ·rintro _ rfl
    refine Dep.nil ?_
    refine GuardOK.none rfl ?_
    exact OpV.toD (opv_move rfl rfl) rfl
   ·rintro _ rfl _ rfl
    refine Dep.nil ?_
    refine GuardOK.none rfl ?_
    exact OpV.toD (opv_nilCheck rfl rfl) rfl
   ·rintro _ rfl _ rfl
    refine Dep.nil ?_
    refine GuardOK.none rfl ?_
    exact OpV.toD (opv_fieldAddr rfl Try.fo28_2 rfl) rfl
   ·rintro _ rfl _ rfl
    refine Dep.nil ?_
    refine GuardOK.none rfl ?_
    exact OpV.toD (opv_loadB rfl Try.one22 rfl G1 rfl) rfl
   ·rintro _ rfl
    refine Dep.nil ?_
    refine GuardOK.none rfl ?_
    exact OpV.toD (opv_move rfl rfl) rfl
   ·rintro _ rfl _ rfl _ rfl
    refine Dep.nil ?_
    refine GuardOK.none rfl ?_
    exact OpV.toS (opv_index rfl Try.underlying22 (by rw [Try.size25]; rfl) rfl rfl g1_2 hx5) (fun _ h => h)
   ·rintro _ rfl v3 fv3
    refine Dep.nil ?_
    refine GuardOK.none rfl ?_
    exact OpV.toS (opv_loadF rfl Try.one25 rfl fv3 g1_2 hx5) (fun _ h => h)
   ·rintro _ rfl
    refine Dep.nil ?_
    refine GuardOK.none rfl ?_
    exact OpV.toD (opv_move rfl rfl) rfl
   ·rintro _ rfl _ rfl
    refine Dep.nil ?_
    refine GuardOK.none rfl ?_
    exact OpV.toD (opv_nilCheck rfl rfl) rfl
   ·rintro _ rfl _ rfl
    refine Dep.nil ?_
    refine GuardOK.none rfl ?_
    exact OpV.toD (opv_fieldAddr rfl Try.fo28_2 rfl) rfl
   ·rintro _ rfl _ rfl
    refine Dep.nil ?_
    refine GuardOK.none rfl ?_
    exact OpV.toD (opv_loadB rfl Try.one22 rfl G1 rfl) rfl
   ·rintro _ rfl
    refine Dep.nil ?_
    refine GuardOK.none rfl ?_
    exact OpV.toD (opv_move rfl rfl) rfl
   ·rintro _ rfl
    refine Dep.nil ?_
    refine GuardOK.none rfl ?_
    exact OpV.toD (opv_move rfl rfl) rfl
   ·rintro _ rfl _ rfl
    refine Dep.nil ?_
    refine GuardOK.none rfl ?_
    exact OpV.toD (opv_sub rfl rfl rfl) rfl
   ·rintro _ rfl
    refine Dep.nil ?_
    refine GuardOK.none rfl ?_
    exact OpV.toD (opv_move rfl rfl) rfl
   ·rintro _ rfl _ rfl _ rfl _ rfl
    refine Dep.nil ?_
    refine GuardOK.none rfl ?_
    exact OpV.mono (opv_call (cap := []) (spec_l03At_ok _ _ _ _ _ _ _ g0_3 _ _ g0_4 G0 _ _ _ hx6) rfl rfl ⟨rfl, rfl, rfl, trivial⟩ Try.func144 rfl rfl) (by rintro _ _ ⟨rfl, rfl⟩; exact ⟨rfl, rfl⟩)
   ·rintro _ rfl _ rfl _ rfl
    refine Dep.nil ?_
    refine GuardOK.none rfl ?_
    exact OpV.toS (opv_index rfl Try.underlying22 (by rw [Try.size25]; rfl) rfl rfl g1_2 hx7) (fun _ h => h)
   ·rintro _ rfl v5 fv5
    refine Dep.nil ?_
    refine GuardOK.none rfl ?_
    exact OpV.toS (opv_loadF rfl Try.one25 rfl fv5 g1_2 hx7) (fun _ h => h)
   ·rintro _ rfl v4 fv4 v6 fv6
    refine Dep.nil ?_
    refine GuardOK.none rfl ?_
    exact OpV.toS (opv_fop rfl rfl rfl rfl fv4 fv6) (fun _ h => h)
   ·rintro _ rfl v7 fv7
    refine Dep.nil ?_
    refine GuardOK.none rfl ?_
    exact OpV.toD (opv_assign rfl rfl) fv7
  rintro v8 fv8
  refine Dep.nil ?_
  show RL _ _ _ _ [] _ _
  refine RL.nil ?_
  refine thnN ?_
  refine W.seq ?_
  obtain ⟨x8, hx8, hp⟩ := Option.bind_eq_some_iff.1 hp
  obtain ⟨x9, hx9, hp⟩ := Option.bind_eq_some_iff.1 hp
  obtain ⟨x10, hx10, hp⟩ := Option.bind_eq_some_iff.1 hp
  refine W.sub (ψ := [(0, (.pointer (some ⟨b0, 0, none⟩))), (1, (.pointer (some ⟨b1, 0, none⟩))), (2, (.int .i64 a2)), (3, (.int .i64 a3)), (8, (.float .f32 0)), (9, (.int .i64 x1)), (27, (.bool x2)), (10, v8)]) ⟨rfl, rfl, rfl, rfl, rfl, rfl, rfl, rfl, trivial⟩ ?_
  refine W.regionP [fun v _ => @Eq Value (.pointer (some ⟨b1, 0, none⟩)) v, fun v _ => @Eq Value (.pointer (some ⟨b1, 0, none⟩)) v, fun v _ => @Eq Value (.pointer (some ⟨b1, 1, none⟩)) v, fun v _ => @Eq Value u1_1 v, fun v _ => @Eq Value (.int .i64 x1) v, fun v _ => PtI 1 v u1_1 (Int.toNat x1), fun v _ => IsF .f32 v x8, fun v _ => @Eq Value (.pointer (some ⟨b1, 0, none⟩)) v, fun v _ => @Eq Value (.pointer (some ⟨b1, 0, none⟩)) v, fun v _ => @Eq Value (.pointer (some ⟨b1, 1, none⟩)) v, fun v _ => @Eq Value u1_1 v, fun v _ => @Eq Value (.pointer (some ⟨b0, 0, none⟩)) v, fun v _ => @Eq Value (.int .i64 a2) v, fun v _ => @Eq Value (.int .i64 a3) v, fun v _ => @Eq Value (.int .i64 (IntKind.wrap .i64 (a3 - 1))) v, fun v _ => @Eq Value (.int .i64 x9) v, fun v _ => PtI 1 v u1_1 (Int.toNat x9), fun v _ => IsF .f32 v x10, fun v _ => IsF .f32 v (fop .sub .f32 x8 x10), fun v _ => IsF .f32 v (fop .sub .f32 x8 x10)] [[], [0], [1], [2], [], [3, 4], [5], [], [7], [8], [9], [], [], [], [13], [11, 12, 14], [10, 15], [16], [6, 17], [18]] [19] Try.mixed (by decide +kernel) (by decide +kernel) rfl rfl rfl ?_ ?_
  ·refine ⟨⟨rfl, ?_⟩, ⟨rfl, ?_⟩, ⟨rfl, ?_⟩, ⟨rfl, ?_⟩, ⟨rfl, ?_⟩, ⟨rfl, ?_⟩, ⟨rfl, ?_⟩, ⟨rfl, ?_⟩, ⟨rfl, ?_⟩, ⟨rfl, ?_⟩, ⟨rfl, ?_⟩, ⟨rfl, ?_⟩, ⟨rfl, ?_⟩, ⟨rfl, ?_⟩, ⟨rfl, ?_⟩, ⟨rfl, ?_⟩, ⟨rfl, ?_⟩, ⟨rfl, ?_⟩, ⟨rfl, ?_⟩, ⟨rfl, ?_⟩, trivial⟩
   ·rintro _ rfl
    refine Dep.nil ?_
    refine GuardOK.none rfl ?_
    exact OpV.toD (opv_move rfl rfl) rfl
   ·rintro _ rfl _ rfl
    refine Dep.nil ?_
    refine GuardOK.none rfl ?_
    exact OpV.toD (opv_nilCheck rfl rfl) rfl
   ·rintro _ rfl _ rfl
    refine Dep.nil ?_
    refine GuardOK.none rfl ?_
    exact OpV.toD (opv_fieldAddr rfl Try.fo28_1 rfl) rfl
   ·rintro _ rfl _ rfl
    refine Dep.nil ?_
    refine GuardOK.none rfl ?_
    exact OpV.toD (opv_loadB rfl Try.one22 rfl G1 rfl) rfl
   ·rintro _ rfl
    refine Dep.nil ?_
    refine GuardOK.none rfl ?_
    exact OpV.toD (opv_move rfl rfl) rfl
   ·rintro _ rfl _ rfl _ rfl
    refine Dep.nil ?_
    refine GuardOK.none rfl ?_
    exact OpV.toS (opv_index rfl Try.underlying22 (by rw [Try.size25]; rfl) rfl rfl g1_1 hx8) (fun _ h => h)
   ·rintro _ rfl v9 fv9
    refine Dep.nil ?_
    refine GuardOK.none rfl ?_
    exact OpV.toS (opv_loadF rfl Try.one25 rfl fv9 g1_1 hx8) (fun _ h => h)
   ·rintro _ rfl
    refine Dep.nil ?_
    refine GuardOK.none rfl ?_
    exact OpV.toD (opv_move rfl rfl) rfl
   ·rintro _ rfl _ rfl
    refine Dep.nil ?_
    refine GuardOK.none rfl ?_
    exact OpV.toD (opv_nilCheck rfl rfl) rfl
   ·rintro _ rfl _ rfl
    refine Dep.nil ?_
    refine GuardOK.none rfl ?_
    exact OpV.toD (opv_fieldAddr rfl Try.fo28_1 rfl) rfl
   ·rintro _ rfl _ rfl
    refine Dep.nil ?_
    refine GuardOK.none rfl ?_
    exact OpV.toD (opv_loadB rfl Try.one22 rfl G1 rfl) rfl
   ·rintro _ rfl
    refine Dep.nil ?_
    refine GuardOK.none rfl ?_
    exact OpV.toD (opv_move rfl rfl) rfl
   ·rintro _ rfl
    refine Dep.nil ?_
    refine GuardOK.none rfl ?_
    exact OpV.toD (opv_move rfl rfl) rfl
   ·rintro _ rfl
    refine Dep.nil ?_
    refine GuardOK.none rfl ?_
    exact OpV.toD (opv_move rfl rfl) rfl
   ·rintro _ rfl _ rfl
    refine Dep.nil ?_
    refine GuardOK.none rfl ?_
    exact OpV.toD (opv_sub rfl rfl rfl) rfl
   ·rintro _ rfl _ rfl _ rfl _ rfl
    refine Dep.nil ?_
    refine GuardOK.none rfl ?_
    exact OpV.mono (opv_call (cap := []) (spec_l03At_ok _ _ _ _ _ _ _ g0_3 _ _ g0_4 G0 _ _ _ hx9) rfl rfl ⟨rfl, rfl, rfl, trivial⟩ Try.func144 rfl rfl) (by rintro _ _ ⟨rfl, rfl⟩; exact ⟨rfl, rfl⟩)
   ·rintro _ rfl _ rfl _ rfl
    refine Dep.nil ?_
    refine GuardOK.none rfl ?_
    exact OpV.toS (opv_index rfl Try.underlying22 (by rw [Try.size25]; rfl) rfl rfl g1_1 hx10) (fun _ h => h)
   ·rintro _ rfl v11 fv11
    refine Dep.nil ?_
    refine GuardOK.none rfl ?_
    exact OpV.toS (opv_loadF rfl Try.one25 rfl fv11 g1_1 hx10) (fun _ h => h)
   ·rintro _ rfl v10 fv10 v12 fv12
    refine Dep.nil ?_
    refine GuardOK.none rfl ?_
    exact OpV.toS (opv_fop rfl rfl rfl rfl fv10 fv12) (fun _ h => h)
   ·rintro _ rfl v13 fv13
    refine Dep.nil ?_
    refine GuardOK.none rfl ?_
    exact OpV.toD (opv_assign rfl rfl) fv13
  rintro v14 fv14
  refine Dep.nil ?_
  show RL _ _ _ _ [] _ _
  refine RL.nil ?_
  refine thnN ?_
  refine W.seq ?_
  obtain ⟨x11, hx11, hp⟩ := Option.bind_eq_some_iff.1 hp
  obtain ⟨x12, hx12, hp⟩ := Option.bind_eq_some_iff.1 hp
  refine W.sub (ψ := [(0, (.pointer (some ⟨b0, 0, none⟩))), (1, (.pointer (some ⟨b1, 0, none⟩))), (2, (.int .i64 a2)), (3, (.int .i64 a3)), (8, (.float .f32 0)), (9, (.int .i64 x1)), (27, (.bool x2)), (10, v8), (11, v14)]) ⟨rfl, rfl, rfl, rfl, rfl, rfl, rfl, rfl, rfl, trivial⟩ ?_
  refine W.regionP [fun v _ => @Eq Value (.pointer (some ⟨b1, 0, none⟩)) v, fun v _ => @Eq Value (.pointer (some ⟨b1, 0, none⟩)) v, fun v _ => @Eq Value (.pointer (some ⟨b1, 0, none⟩)) v, fun v _ => @Eq Value u1_0 v, fun v _ => @Eq Value (.int .i64 x1) v, fun v _ => PtI 1 v u1_0 (Int.toNat x1), fun v _ => IsF .f32 v x11, fun v _ => @Eq Value (.pointer (some ⟨b0, 0, none⟩)) v, fun v _ => @Eq Value (.pointer (some ⟨b0, 0, none⟩)) v, fun v _ => @Eq Value (.pointer (some ⟨b0, 4, none⟩)) v, fun v _ => @Eq Value u0_4 v, fun v _ => @Eq Value (.int .i64 x1) v, fun v _ => PtI 1 v u0_4 (Int.toNat x1), fun v _ => IsF .f32 v x12, fun v _ => IsF .f32 v (fop .sub .f32 (some 1065353216) x12), fun v _ => IsF .f32 v (fop .mul .f32 x11 (fop .sub .f32 (some 1065353216) x12)), fun v _ => IsF .f32 v (fop .mul .f32 x11 (fop .sub .f32 (some 1065353216) x12))] [[], [0], [1], [2], [], [3, 4], [5], [], [7], [8], [9], [], [10, 11], [12], [13], [6, 14], [15]] [16] Try.mixed (by decide +kernel) (by decide +kernel) rfl rfl rfl ?_ ?_
  ·refine ⟨⟨rfl, ?_⟩, ⟨rfl, ?_⟩, ⟨rfl, ?_⟩, ⟨rfl, ?_⟩, ⟨rfl, ?_⟩, ⟨rfl, ?_⟩, ⟨rfl, ?_⟩, ⟨rfl, ?_⟩, ⟨rfl, ?_⟩, ⟨rfl, ?_⟩, ⟨rfl, ?_⟩, ⟨rfl, ?_⟩, ⟨rfl, ?_⟩, ⟨rfl, ?_⟩, ⟨rfl, ?_⟩, ⟨rfl, ?_⟩, ⟨rfl, ?_⟩, trivial⟩
   ·rintro _ rfl
    refine Dep.nil ?_
    refine GuardOK.none rfl ?_
    exact OpV.toD (opv_move rfl rfl) rfl
   ·rintro _ rfl _ rfl
    refine Dep.nil ?_
    refine GuardOK.none rfl ?_
    exact OpV.toD (opv_nilCheck rfl rfl) rfl
   ·rintro _ rfl _ rfl
    refine Dep.nil ?_
    refine GuardOK.none rfl ?_
    exact OpV.toD (opv_fieldAddr rfl Try.fo28_0 rfl) rfl
   ·rintro _ rfl _ rfl
    refine Dep.nil ?_
    refine GuardOK.none rfl ?_
    exact OpV.toD (opv_loadB rfl Try.one22 rfl G1 rfl) rfl
   ·rintro _ rfl
    refine Dep.nil ?_
    refine GuardOK.none rfl ?_
    exact OpV.toD (opv_move rfl rfl) rfl
   ·rintro _ rfl _ rfl _ rfl
    refine Dep.nil ?_
    refine GuardOK.none rfl ?_
    exact OpV.toS (opv_index rfl Try.underlying22 (by rw [Try.size25]; rfl) rfl rfl g1_0 hx11) (fun _ h => h)
   ·rintro _ rfl v15 fv15
    refine Dep.nil ?_
    refine GuardOK.none rfl ?_
    exact OpV.toS (opv_loadF rfl Try.one25 rfl fv15 g1_0 hx11) (fun _ h => h)
   ·rintro _ rfl
    refine Dep.nil ?_
    refine GuardOK.none rfl ?_
    exact OpV.toD (opv_move rfl rfl) rfl
   ·rintro _ rfl _ rfl
    refine Dep.nil ?_
    refine GuardOK.none rfl ?_
    exact OpV.toD (opv_nilCheck rfl rfl) rfl
   ·rintro _ rfl _ rfl
    refine Dep.nil ?_
    refine GuardOK.none rfl ?_
    exact OpV.toD (opv_fieldAddr rfl Try.fo31_4 rfl) rfl
   ·rintro _ rfl _ rfl
    refine Dep.nil ?_
    refine GuardOK.none rfl ?_
    exact OpV.toD (opv_loadB rfl Try.one22 rfl G0 rfl) rfl
   ·rintro _ rfl
    refine Dep.nil ?_
    refine GuardOK.none rfl ?_
    exact OpV.toD (opv_move rfl rfl) rfl
   ·rintro _ rfl _ rfl _ rfl
    refine Dep.nil ?_
    refine GuardOK.none rfl ?_
    exact OpV.toS (opv_index rfl Try.underlying22 (by rw [Try.size25]; rfl) rfl rfl g0_4 hx12) (fun _ h => h)
   ·rintro _ rfl v17 fv17
    refine Dep.nil ?_
    refine GuardOK.none rfl ?_
    exact OpV.toS (opv_loadF rfl Try.one25 rfl fv17 g0_4 hx12) (fun _ h => h)
   ·rintro _ rfl v18 fv18
    refine Dep.nil ?_
    refine GuardOK.none rfl ?_
    exact OpV.toS (opv_fop rfl rfl rfl rfl (isF_lit .f32 1065353216 (by decide) (by decide)) fv18) (fun _ h => h)
   ·rintro _ rfl v16 fv16 v19 fv19
    refine Dep.nil ?_
    refine GuardOK.none rfl ?_
    exact OpV.toS (opv_fop rfl rfl rfl rfl fv16 fv19) (fun _ h => h)
   ·rintro _ rfl v20 fv20
    refine Dep.nil ?_
    refine GuardOK.none rfl ?_
    exact OpV.toD (opv_assign rfl rfl) fv20
  rintro v21 fv21
  refine Dep.nil ?_
  show RL _ _ _ _ [] _ _
  refine RL.nil ?_
  refine thnN ?_
  refine W.seq ?_
  obtain ⟨x13, hx13, hp⟩ := Option.bind_eq_some_iff.1 hp
  refine W.region ?_
  refine RL.opD (by decide) (opv_move rfl rfl) ?_
  refine RL.opD (by decide) (opv_move rfl rfl) ?_
  refine RL.opD (by decide) (opv_nilCheck rfl rfl) ?_
  refine RL.opD (by decide) (opv_fieldAddr rfl Try.fo31_3 rfl) ?_
  refine RL.opD (by decide) (opv_loadB rfl Try.one22 rfl G0 rfl) ?_
  refine RL.opD (by decide) (opv_move rfl rfl) ?_
  refine RL.op _ (by decide) (opv_index rfl Try.underlying22 (by rw [Try.size25]; rfl) rfl rfl g0_3 hx13) ?_
  rintro v22 _ ⟨fv22, rfl⟩
  refine RL.opF (by decide) (opv_loadF rfl Try.one25 rfl fv22 g0_3 hx13) ?_
  intro v23 fv23
  refine RL.opD (by decide) (opv_move rfl rfl) ?_
  refine RL.opD (by decide) (opv_move rfl rfl) ?_
  refine RL.opF (by decide) (opv_fop rfl rfl rfl rfl fv8 fv14) ?_
  intro v24 fv24
  refine RL.opF (by decide) (opv_fop rfl rfl rfl rfl fv23 fv24) ?_
  intro v25 fv25
  refine RL.opF (by decide) (opv_fop rfl rfl rfl rfl fv21 fv25) ?_
  intro v26 fv26
  refine RL.opD (by decide) (opv_assign rfl rfl) ?_
  refine RL.nil ?_
  refine thnN ?_
  refine W.ret ?_
  have er := Option.some.inj hp
  subst er
  exact Rt.one rfl rfl ⟨fv26, rfl⟩

set_option maxRecDepth 20000 in
theorem spec_l03Step_ok (h0 : Heap) (b0 : Nat) (a0_0 : Int) (a0_1 : Int) (a0_2 : Bool) (u0_3 : Value) (a0_3 : List (Option Nat)) (g0_3 : SL (kF .f32) h0.size h0 u0_3 a0_3) (u0_4 : Value) (a0_4 : List (Option Nat)) (g0_4 : SL (kF .f32) h0.size h0 u0_4 a0_4) (G0 : Bx h0 b0 [(.int .i64 a0_0), (.int .i64 a0_1), (.bool a0_2), u0_3, u0_4]) (b1 : Nat) (u1_0 : Value) (a1_0 : List (Option Nat)) (g1_0 : SL (kF .f32) h0.size h0 u1_0 a1_0) (u1_1 : Value) (a1_1 : List (Option Nat)) (g1_1 : SL (kF .f32) h0.size h0 u1_1 a1_1) (u1_2 : Value) (a1_2 : List (Option Nat)) (g1_2 : SL (kF .f32) h0.size h0 u1_2 a1_2) (G1 : Bx h0 b1 [u1_0, u1_1, u1_2]) (r : ((List (Option Nat)) × (List (Option Nat)) × (List (Option Nat)))) (hp : spec_l03Step a0_0 a0_1 a0_2 a0_3 a0_4 a1_0 a1_1 a1_2 = some r) : CallsH Try.prog 83 ([(.pointer (some ⟨b0, 0, none⟩)), (.pointer (some ⟨b1, 0, none⟩))].toArray ++ [].toArray) h0 (fun v h' => ∃ w0, ∃ w1, ∃ w2, v = (.agg (List.toArray (α := Value) [w0, w1, w2])) ∧ Mod [] h0 h' ∧ Sep [] h0.size h' [ownO (kF .f32) 25 w0 r.1, ownO (kF .f32) 25 w1 r.2.1, ownO (kF .f32) 25 w2 r.2.2]) := by
 unfold spec_l03Step at hp
 refine callsH_of_W (l := [(.pointer (some ⟨b0, 0, none⟩)), (.pointer (some ⟨b1, 0, none⟩))]) (cap := []) 41 Try.func83 rfl rfl rfl ?_
 refine W.seq ?_
 refine W.region ?_
 refine RL.op _ (by decide) (opS_boxed (opv_alloc (cs := [(.slice none 0 0), (.slice none 0 0), (.slice none 0 0)]) rfl Try.zero28 rfl)) ?_
 rintro _ hp1 ⟨bb1, rfl, MT_1, T_1⟩
 obtain ⟨X_1, S_1⟩ := Sep.turn0 (Mod.refl [] h0) (Sep.nil [] h0.size h0) MT_1 T_1
 refine RL.nil ?_
 refine thnN ?_
 refine W.seq ?_
 obtain ⟨x1, hx1, hp⟩ := Option.bind_eq_some_iff.1 hp
 refine W.region ?_
 refine RL.opD (by decide) (opv_move rfl rfl) ?_
 refine RL.opD (by decide) (opv_move rfl rfl) ?_
 refine RL.op _ (by decide) (opv_call (cap := []) (spec_l03Half_ok _ _ _ _ _ _ _ (SL.up (SL.mod g0_3 X_1 (Nat.le_refl _) nob) (Nat.le_trans (Nat.le_refl _) (Mod.size X_1))) _ _ (SL.up (SL.mod g0_4 X_1 (Nat.le_refl _) nob) (Nat.le_trans (Nat.le_refl _) (Mod.size X_1))) (Bx.mod G0 X_1 nobB) _ _ _ (SL.up (SL.mod g1_0 X_1 (Nat.le_refl _) nob) (Nat.le_trans (Nat.le_refl _) (Mod.size X_1))) _ _ (SL.up (SL.mod g1_1 X_1 (Nat.le_refl _) nob) (Nat.le_trans (Nat.le_refl _) (Mod.size X_1))) _ _ (SL.up (SL.mod g1_2 X_1 (Nat.le_refl _) nob) (Nat.le_trans (Nat.le_refl _) (Mod.size X_1))) (Bx.mod G1 X_1 nobB) _ hx1) rfl rfl ⟨rfl, rfl, trivial⟩ Try.func141 rfl rfl) ?_
 rintro _ hp2 ⟨v1, v2, v3, rfl, MT_2, T_2⟩
 obtain ⟨X_2, S_2⟩ := Sep.turn0 X_1 S_1 MT_2 T_2
 refine RL.op _ (by decide) (opS_boxed (opv_alloc (cs := [(.slice none 0 0), (.slice none 0 0), (.slice none 0 0)]) rfl Try.zero28 rfl)) ?_
 rintro _ hp3 ⟨bb2, rfl, MT_3, T_3⟩
 obtain ⟨X_3, S_3⟩ := Sep.turn0 X_2 S_2 MT_3 T_3
 refine RL.op0 _ (opS_stored (cs := [(.slice none 0 0), (.slice none 0 0), (.slice none 0 0)]) (cs' := [v1, v2, v3]) (opv_storeA (us := [v1, v2, v3]) rfl Try.size28 rfl rfl (oneAll (ownO.one (Sep.at (o := ownO (kF .f32) 25 v1 x1.1) S_3 1 rfl)) (oneAll (ownO.one (Sep.at (o := ownO (kF .f32) 25 v2 x1.2.1) S_3 2 rfl)) (oneAll (ownO.one (Sep.at (o := ownO (kF .f32) 25 v3 x1.2.2) S_3 3 rfl)) rfl))) (Sep.at (o := boxO bb2 [(.slice none 0 0), (.slice none 0 0), (.slice none 0 0)]) S_3 0 rfl) rfl rfl) (Sep.at (o := boxO bb2 [(.slice none 0 0), (.slice none 0 0), (.slice none 0 0)]) S_3 0 rfl)) ?_
 rintro _ hp4 ⟨rfl, MT_4, T_4⟩
 have S_4 : Sep [] h0.size hp3 ([boxO bb2 [(.slice none 0 0), (.slice none 0 0), (.slice none 0 0)]] ++ [ownO (kF .f32) 25 v1 x1.1, ownO (kF .f32) 25 v2 x1.2.1, ownO (kF .f32) 25 v3 x1.2.2, boxO bb1 [(.slice none 0 0), (.slice none 0 0), (.slice none 0 0)]]) := Sep.sel S_3 [0, 1, 2, 3, 4] (by decide)
 obtain ⟨X_4, S_5⟩ := Sep.turn X_3 S_4 MT_4 T_4
 refine RL.nil ?_
 refine thnN ?_
 refine W.seq ?_
 obtain ⟨x2, hx2, hp⟩ := Option.bind_eq_some_iff.1 hp
 refine W.region ?_
 refine RL.op _ (by decide) (opv_call (cap := []) (spec_l02Own_ok _ _ _ _ (ownO.read (Sep.at (o := ownO (kF .f32) 25 v1 x1.1) S_5 1 rfl)) _ _ (ownO.read (Sep.at (o := ownO (kF .f32) 25 v2 x1.2.1) S_5 2 rfl)) _ _ (ownO.read (Sep.at (o := ownO (kF .f32) 25 v3 x1.2.2) S_5 3 rfl)) (Sep.at (o := boxO bb2 [v1, v2, v3]) S_5 0 rfl) _ hx2) rfl rfl ⟨rfl, trivial⟩ Try.func142 rfl rfl) ?_
 rintro _ hp5 ⟨v4, v5, v6, rfl, MT_5, T_5⟩
 obtain ⟨X_5, S_6⟩ := Sep.turn0 X_4 S_5 MT_5 T_5
 refine RL.op _ (by decide) (opS_boxed (opv_alloc (cs := [(.slice none 0 0), (.slice none 0 0), (.slice none 0 0)]) rfl Try.zero28 rfl)) ?_
 rintro _ hp6 ⟨bb3, rfl, MT_6, T_6⟩
 obtain ⟨X_6, S_7⟩ := Sep.turn0 X_5 S_6 MT_6 T_6
 refine RL.op0 _ (opS_stored (cs := [(.slice none 0 0), (.slice none 0 0), (.slice none 0 0)]) (cs' := [v4, v5, v6]) (opv_storeA (us := [v4, v5, v6]) rfl Try.size28 rfl rfl (oneAll (ownO.one (Sep.at (o := ownO (kF .f32) 25 v4 x2.1) S_7 1 rfl)) (oneAll (ownO.one (Sep.at (o := ownO (kF .f32) 25 v5 x2.2.1) S_7 2 rfl)) (oneAll (ownO.one (Sep.at (o := ownO (kF .f32) 25 v6 x2.2.2) S_7 3 rfl)) rfl))) (Sep.at (o := boxO bb3 [(.slice none 0 0), (.slice none 0 0), (.slice none 0 0)]) S_7 0 rfl) rfl rfl) (Sep.at (o := boxO bb3 [(.slice none 0 0), (.slice none 0 0), (.slice none 0 0)]) S_7 0 rfl)) ?_
 rintro _ hp7 ⟨rfl, MT_7, T_7⟩
 have S_8 : Sep [] h0.size hp6 ([boxO bb3 [(.slice none 0 0), (.slice none 0 0), (.slice none 0 0)]] ++ [ownO (kF .f32) 25 v4 x2.1, ownO (kF .f32) 25 v5 x2.2.1, ownO (kF .f32) 25 v6 x2.2.2, boxO bb2 [v1, v2, v3], ownO (kF .f32) 25 v1 x1.1, ownO (kF .f32) 25 v2 x1.2.1, ownO (kF .f32) 25 v3 x1.2.2, boxO bb1 [(.slice none 0 0), (.slice none 0 0), (.slice none 0 0)]]) := Sep.sel S_7 [0, 1, 2, 3, 4, 5, 6, 7, 8] (by decide)
 obtain ⟨X_7, S_9⟩ := Sep.turn X_6 S_8 MT_7 T_7
 refine RL.nil ?_
 refine thnN ?_
 refine W.seq ?_
 refine W.seq ?_
 refine W.region ?_
 refine RL.opD (by decide) (opv_assign rfl rfl) ?_
 refine RL.nil ?_
 refine thnN ?_
 obtain ⟨y1, hy1, hp⟩ := Option.bind_eq_some_iff.1 hp
 refine W.cut (fun φ' h' => ∃ x5, ∃ x6, ∃ x7, y1 = (x5, x6, x7) ∧ Fr.sub [(0, (.pointer (some ⟨b0, 0, none⟩))), (1, (.pointer (some ⟨b1, 0, none⟩))), (4, (.pointer (some ⟨bb1, 0, none⟩))), (5, (.pointer (some ⟨bb2, 0, none⟩))), (6, (.pointer (some ⟨bb3, 0, none⟩))), (7, (.int .i64 x5)), (18, (.bool x6))] φ' ∧ Mod [] h0 h' ∧ Sep [] h0.size h' [boxO bb3 [v4, v5, v6], ownO (kF .f32) 25 v4 x7, ownO (kF .f32) 25 v5 x2.2.1, ownO (kF .f32) 25 v6 x2.2.2, boxO bb2 [v1, v2, v3], ownO (kF .f32) 25 v1 x1.1, ownO (kF .f32) 25 v2 x1.2.1, ownO (kF .f32) 25 v3 x1.2.2, boxO bb1 [(.slice none 0 0), (.slice none 0 0), (.slice none 0 0)]]) ?_ ?_
 ·refine W.block ?_
  refine W.loopS (fun (s : (Int × (List (Option Nat)))) φ' h' => Fr.sub [(0, (.pointer (some ⟨b0, 0, none⟩))), (1, (.pointer (some ⟨b1, 0, none⟩))), (4, (.pointer (some ⟨bb1, 0, none⟩))), (5, (.pointer (some ⟨bb2, 0, none⟩))), (6, (.pointer (some ⟨bb3, 0, none⟩))), (7, (.int .i64 s.1))] φ' ∧ Mod [] h0 h' ∧ Sep [] h0.size h' [boxO bb3 [v4, v5, v6], ownO (kF .f32) 25 v4 s.2, ownO (kF .f32) 25 v5 x2.2.1, ownO (kF .f32) 25 v6 x2.2.2, boxO bb2 [v1, v2, v3], ownO (kF .f32) 25 v1 x1.1, ownO (kF .f32) 25 v2 x1.2.1, ownO (kF .f32) 25 v3 x1.2.2, boxO bb1 [(.slice none 0 0), (.slice none 0 0), (.slice none 0 0)]]) hy1 ⟨⟨rfl, rfl, rfl, rfl, rfl, rfl, trivial⟩, X_7, (Sep.sel S_9 [0, 1, 2, 3, 4, 5, 6, 7, 8] (by decide))⟩ ?_
  rintro ⟨x3, x4⟩ φ' hp8 o1 ⟨hs1, X_8, S_10⟩ ho1 hy1
  have hs1 : Fr.sub [(0, (.pointer (some ⟨b0, 0, none⟩))), (1, (.pointer (some ⟨b1, 0, none⟩))), (4, (.pointer (some ⟨bb1, 0, none⟩))), (5, (.pointer (some ⟨bb2, 0, none⟩))), (6, (.pointer (some ⟨bb3, 0, none⟩))), (7, (.int .i64 x3))] φ' := hs1
  have S_10 : Sep [] h0.size hp8 [boxO bb3 [v4, v5, v6], ownO (kF .f32) 25 v4 x4, ownO (kF .f32) 25 v5 x2.2.1, ownO (kF .f32) 25 v6 x2.2.2, boxO bb2 [v1, v2, v3], ownO (kF .f32) 25 v1 x1.1, ownO (kF .f32) 25 v2 x1.2.1, ownO (kF .f32) 25 v3 x1.2.2, boxO bb1 [(.slice none 0 0), (.slice none 0 0), (.slice none 0 0)]] := S_10
  have ho1 : spec_l03Step.s0 a0_0 a0_1 a0_2 a0_3 a0_4 x1 x3 x4 = some o1 := ho1
  unfold spec_l03Step.s0 at ho1
  refine W.sub hs1 ?_
  refine W.seq ?_
  refine W.seq ?_
  refine W.region ?_
  refine RL.opD (by decide) (opv_move rfl rfl) ?_
  refine RL.opD (by decide) (opv_move rfl rfl) ?_
  refine RL.opD (by decide) (opv_nilCheck rfl rfl) ?_
  refine RL.opD (by decide) (opv_fieldAddr rfl Try.fo31_1 rfl) ?_
  refine RL.opD (by decide) (opv_loadB rfl Try.one2 rfl (Bx.mod G0 X_8 nobB) rfl) ?_
  refine RL.opD (by decide) (opv_icmp rfl rfl rfl rfl) ?_
  refine RL.nil ?_
  refine thnN ?_
  by_cases c1 : (decide (x3 < a0_1)) = true
  ·rw [if_pos c1] at ho1
   refine W.condT rfl c1 ?_
   refine W.skip ?_
   refine thnN ?_
   refine W.seq ?_
   refine W.block ?_
   refine W.seq ?_
   refine W.region ?_
   refine RL.opD (by decide) (opv_assign rfl rfl) ?_
   refine RL.nil ?_
   refine thnN ?_
   obtain ⟨y2, hy2, ho1⟩ := Option.bind_eq_some_iff.1 ho1
   refine W.cut (fun φ' h' => ∃ x10, ∃ x11, ∃ x12, y2 = (x10, x11, x12) ∧ Fr.sub [(0, (.pointer (some ⟨b0, 0, none⟩))), (1, (.pointer (some ⟨b1, 0, none⟩))), (4, (.pointer (some ⟨bb1, 0, none⟩))), (5, (.pointer (some ⟨bb2, 0, none⟩))), (6, (.pointer (some ⟨bb3, 0, none⟩))), (7, (.int .i64 x3)), (18, (.bool (decide (x3 < a0_1)))), (8, (.int .i64 x10)), (26, (.bool x11))] φ' ∧ Mod [] h0 h' ∧ Sep [] h0.size h' [boxO bb3 [v4, v5, v6], ownO (kF .f32) 25 v4 x12, ownO (kF .f32) 25 v5 x2.2.1, ownO (kF .f32) 25 v6 x2.2.2, boxO bb2 [v1, v2, v3], ownO (kF .f32) 25 v1 x1.1, ownO (kF .f32) 25 v2 x1.2.1, ownO (kF .f32) 25 v3 x1.2.2, boxO bb1 [(.slice none 0 0), (.slice none 0 0), (.slice none 0 0)]]) ?_ ?_
   ·refine W.block ?_
    refine W.loopS (fun (s : (Int × (List (Option Nat)))) φ' h' => Fr.sub [(0, (.pointer (some ⟨b0, 0, none⟩))), (1, (.pointer (some ⟨b1, 0, none⟩))), (4, (.pointer (some ⟨bb1, 0, none⟩))), (5, (.pointer (some ⟨bb2, 0, none⟩))), (6, (.pointer (some ⟨bb3, 0, none⟩))), (7, (.int .i64 x3)), (18, (.bool (decide (x3 < a0_1)))), (8, (.int .i64 s.1))] φ' ∧ Mod [] h0 h' ∧ Sep [] h0.size h' [boxO bb3 [v4, v5, v6], ownO (kF .f32) 25 v4 s.2, ownO (kF .f32) 25 v5 x2.2.1, ownO (kF .f32) 25 v6 x2.2.2, boxO bb2 [v1, v2, v3], ownO (kF .f32) 25 v1 x1.1, ownO (kF .f32) 25 v2 x1.2.1, ownO (kF .f32) 25 v3 x1.2.2, boxO bb1 [(.slice none 0 0), (.slice none 0 0), (.slice none 0 0)]]) hy2 ⟨⟨rfl, rfl, rfl, rfl, rfl, rfl, rfl, rfl, trivial⟩, X_8, (Sep.sel S_10 [0, 1, 2, 3, 4, 5, 6, 7, 8] (by decide))⟩ ?_
    rintro ⟨x8, x9⟩ φ' hp9 o2 ⟨hs3, X_9, S_11⟩ ho2 hy2
    have hs3 : Fr.sub [(0, (.pointer (some ⟨b0, 0, none⟩))), (1, (.pointer (some ⟨b1, 0, none⟩))), (4, (.pointer (some ⟨bb1, 0, none⟩))), (5, (.pointer (some ⟨bb2, 0, none⟩))), (6, (.pointer (some ⟨bb3, 0, none⟩))), (7, (.int .i64 x3)), (18, (.bool (decide (x3 < a0_1)))), (8, (.int .i64 x8))] φ' := hs3
    have S_11 : Sep [] h0.size hp9 [boxO bb3 [v4, v5, v6], ownO (kF .f32) 25 v4 x9, ownO (kF .f32) 25 v5 x2.2.1, ownO (kF .f32) 25 v6 x2.2.2, boxO bb2 [v1, v2, v3], ownO (kF .f32) 25 v1 x1.1, ownO (kF .f32) 25 v2 x1.2.1, ownO (kF .f32) 25 v3 x1.2.2, boxO bb1 [(.slice none 0 0), (.slice none 0 0), (.slice none 0 0)]] := S_11
    have ho2 : spec_l03Step.s1 a0_0 a0_1 a0_2 a0_3 a0_4 x1 x3 x8 x9 = some o2 := ho2
    unfold spec_l03Step.s1 at ho2
    refine W.sub hs3 ?_
    refine W.seq ?_
    refine W.seq ?_
    refine W.region ?_
    refine RL.opD (by decide) (opv_move rfl rfl) ?_
    refine RL.opD (by decide) (opv_move rfl rfl) ?_
    refine RL.opD (by decide) (opv_nilCheck rfl rfl) ?_
    refine RL.opD (by decide) (opv_fieldAddr rfl Try.fo31_0 rfl) ?_
    refine RL.opD (by decide) (opv_loadB rfl Try.one2 rfl (Bx.mod G0 X_9 nobB) rfl) ?_
    refine RL.opD (by decide) (opv_icmp rfl rfl rfl rfl) ?_
    refine RL.nil ?_
    refine thnN ?_
    by_cases c2 : (decide (x8 < a0_0)) = true
    ·rw [if_pos c2] at ho2
     refine W.condT rfl c2 ?_
     refine W.skip ?_
     refine thnN ?_
     refine W.seq ?_
     refine W.block ?_
     obtain ⟨x13, hx13, ho2⟩ := Option.bind_eq_some_iff.1 ho2
     obtain ⟨x14, hx14, ho2⟩ := Option.bind_eq_some_iff.1 ho2
     obtain ⟨x15, hx15, ho2⟩ := Option.bind_eq_some_iff.1 ho2
     obtain ⟨x16, hx16, ho2⟩ := Option.bind_eq_some_iff.1 ho2
     refine W.sub (ψ := [(0, (.pointer (some ⟨b0, 0, none⟩))), (1, (.pointer (some ⟨b1, 0, none⟩))), (4, (.pointer (some ⟨bb1, 0, none⟩))), (5, (.pointer (some ⟨bb2, 0, none⟩))), (6, (.pointer (some ⟨bb3, 0, none⟩))), (7, (.int .i64 x3)), (18, (.bool (decide (x3 < a0_1)))), (8, (.int .i64 x8)), (26, (.bool (decide (x8 < a0_0))))]) ⟨rfl, rfl, rfl, rfl, rfl, rfl, rfl, rfl, rfl, trivial⟩ ?_
     refine W.regionP [fun v _ => @Eq Value (.pointer (some ⟨bb3, 0, none⟩)) v, fun v _ => @Eq Value v4 v, fun v _ => @Eq Value (.pointer (some ⟨b0, 0, none⟩)) v, fun v _ => @Eq Value (.int .i64 x8) v, fun v _ => @Eq Value (.int .i64 x3) v, fun v _ => @Eq Value (.int .i64 x13) v, fun v _ => @Eq Value (.pointer (some ⟨b0, 0, none⟩)) v, fun v _ => @Eq Value (.int .i64 x8) v, fun v _ => @Eq Value (.int .i64 x3) v, fun v _ => IsF .f32 v x14, fun v _ => PtI 1 v v4 (Int.toNat x13)] [[], [0], [], [], [], [2, 3, 4], [], [], [], [6, 7, 8], [1, 5]] [9, 10] Try.mixed (by decide +kernel) (by decide +kernel) rfl rfl rfl ?_ ?_
     ·refine ⟨⟨rfl, ?_⟩, ⟨rfl, ?_⟩, ⟨rfl, ?_⟩, ⟨rfl, ?_⟩, ⟨rfl, ?_⟩, ⟨rfl, ?_⟩, ⟨rfl, ?_⟩, ⟨rfl, ?_⟩, ⟨rfl, ?_⟩, ⟨rfl, ?_⟩, ⟨rfl, ?_⟩, trivial⟩
      ·rintro _ rfl
       refine Dep.nil ?_
       refine GuardOK.none rfl ?_
       exact OpV.toD (opv_fieldAddr rfl Try.fo28_0 rfl) rfl
      ·rintro _ rfl _ rfl
       refine Dep.nil ?_
       refine GuardOK.none rfl ?_
       exact OpV.toD (opv_loadB rfl Try.one22 rfl (Sep.at (o := boxO bb3 [v4, v5, v6]) S_11 0 rfl) rfl) rfl
      ·rintro _ rfl
       refine Dep.nil ?_
       refine GuardOK.none rfl ?_
       exact OpV.toD (opv_move rfl rfl) rfl
      ·rintro _ rfl
       refine Dep.nil ?_
       refine GuardOK.none rfl ?_
       exact OpV.toD (opv_move rfl rfl) rfl
      ·rintro _ rfl
       refine Dep.nil ?_
       refine GuardOK.none rfl ?_
       exact OpV.toD (opv_move rfl rfl) rfl
      ·rintro _ rfl _ rfl _ rfl _ rfl
       refine Dep.nil ?_
       refine GuardOK.none rfl ?_
       exact OpV.mono (opv_call (cap := []) (spec_l03At_ok _ _ _ _ _ _ _ (SL.up (SL.mod g0_3 X_9 (Nat.le_refl _) nob) (Nat.le_trans (Nat.le_refl _) (Mod.size X_9))) _ _ (SL.up (SL.mod g0_4 X_9 (Nat.le_refl _) nob) (Nat.le_trans (Nat.le_refl _) (Mod.size X_9))) (Bx.mod G0 X_9 nobB) _ _ _ hx13) rfl rfl ⟨rfl, rfl, rfl, trivial⟩ Try.func144 rfl rfl) (by rintro _ _ ⟨rfl, rfl⟩; exact ⟨rfl, rfl⟩)
      ·rintro _ rfl
       refine Dep.nil ?_
       refine GuardOK.none rfl ?_
       exact OpV.toD (opv_move rfl rfl) rfl
      ·rintro _ rfl
       refine Dep.nil ?_
       refine GuardOK.none rfl ?_
       exact OpV.toD (opv_move rfl rfl) rfl
      ·rintro _ rfl
       refine Dep.nil ?_
       refine GuardOK.none rfl ?_
       exact OpV.toD (opv_move rfl rfl) rfl
      ·rintro _ rfl _ rfl _ rfl _ rfl
       refine Dep.nil ?_
       refine GuardOK.none rfl ?_
       exact OpV.mono (opv_call (cap := []) (spec_l03Rest_ok _ _ _ _ _ _ _ (SL.up (SL.mod g0_3 X_9 (Nat.le_refl _) nob) (Nat.le_trans (Nat.le_refl _) (Mod.size X_9))) _ _ (SL.up (SL.mod g0_4 X_9 (Nat.le_refl _) nob) (Nat.le_trans (Nat.le_refl _) (Mod.size X_9))) (Bx.mod G0 X_9 nobB) _ _ _ (ownO.read (Sep.at (o := ownO (kF .f32) 25 v1 x1.1) S_11 5 rfl)) _ _ (ownO.read (Sep.at (o := ownO (kF .f32) 25 v2 x1.2.1) S_11 6 rfl)) _ _ (ownO.read (Sep.at (o := ownO (kF .f32) 25 v3 x1.2.2) S_11 7 rfl)) (Sep.at (o := boxO bb2 [v1, v2, v3]) S_11 4 rfl) _ _ _ hx14) rfl rfl ⟨rfl, rfl, rfl, rfl, trivial⟩ Try.func143 rfl rfl) (by rintro v7 _ ⟨fv7, rfl⟩; exact ⟨rfl, fv7⟩)
      ·rintro _ rfl _ rfl _ rfl
       refine Dep.nil ?_
       refine GuardOK.none rfl ?_
       exact OpV.toS (opv_index rfl Try.underlying22 (by rw [Try.size25]; rfl) rfl rfl (ownO.read (Sep.at (o := ownO (kF .f32) 25 v4 x9) S_11 1 rfl)) hx15) (fun _ h => h)
     rintro v7 fv7 v8 fv8
     refine Dep.nil ?_
     show RL _ _ _ _ (_ :: _) _ _
     refine RL.op0 _ (opS_storeE (K := (kF .f32)) rfl Try.size25 rfl rfl fv8 rfl ⟨_, rfl, fv7⟩ hx16 (Sep.at (o := ownO (kF .f32) 25 v4 x9) S_11 1 rfl)) ?_
     rintro _ hp11 ⟨rfl, MT_9, T_9⟩
     have S_14 : Sep [] h0.size hp9 ([ownO (kF .f32) 25 v4 x9] ++ [boxO bb3 [v4, v5, v6], ownO (kF .f32) 25 v5 x2.2.1, ownO (kF .f32) 25 v6 x2.2.2, boxO bb2 [v1, v2, v3], ownO (kF .f32) 25 v1 x1.1, ownO (kF .f32) 25 v2 x1.2.1, ownO (kF .f32) 25 v3 x1.2.2, boxO bb1 [(.slice none 0 0), (.slice none 0 0), (.slice none 0 0)]]) := Sep.sel S_11 [1, 0, 2, 3, 4, 5, 6, 7, 8] (by decide)
     obtain ⟨X_11, S_15⟩ := Sep.turn X_9 S_14 MT_9 T_9
     refine RL.nil ?_
     refine blkN ?_
     refine thnN ?_
     refine W.region ?_
     refine RL.opD (by decide) (opv_move rfl rfl) ?_
     refine RL.opD (by decide) (opv_add rfl rfl rfl) ?_
     refine RL.opD (by decide) (opv_assign rfl rfl) ?_
     refine RL.nil ?_
     have eo2 := Option.some.inj ho2
     subst eo2
     refine rndN (s' := (IntKind.wrap .i64 (x8 + 1), x16)) rfl ?_
     exact ⟨⟨rfl, rfl, rfl, rfl, rfl, rfl, rfl, rfl, trivial⟩, X_11, (Sep.sel S_15 [1, 0, 2, 3, 4, 5, 6, 7, 8] (by decide))⟩
    ·rw [if_neg c2] at ho2
     have c2 := eq_false_of_ne_true c2
     refine W.condF rfl c2 ?_
     refine W.exit ?_
     refine thnX ?_
     refine rndX ?_
     refine blkI ?_
     have eo2 := Option.some.inj ho2
     subst eo2
     have ey2 := hy2 _ rfl
     subst ey2
     refine onlyN ?_
     exact ⟨x8, decide (x8 < a0_0), x9, rfl, ⟨rfl, rfl, rfl, rfl, rfl, rfl, rfl, rfl, rfl, trivial⟩, X_9, (Sep.sel S_11 [0, 1, 2, 3, 4, 5, 6, 7, 8] (by decide))⟩
   rintro φ' hp12 ⟨x10, x11, x12, rfl, hs4, X_12, S_16⟩
   try dsimp only at ho1
   refine blkN ?_
   refine thnN ?_
   refine W.sub hs4 ?_
   refine W.region ?_
   refine RL.opD (by decide) (opv_move rfl rfl) ?_
   refine RL.opD (by decide) (opv_add rfl rfl rfl) ?_
   refine RL.opD (by decide) (opv_assign rfl rfl) ?_
   refine RL.nil ?_
   have eo1 := Option.some.inj ho1
   subst eo1
   refine rndN (s' := (IntKind.wrap .i64 (x3 + 1), x12)) rfl ?_
   exact ⟨⟨rfl, rfl, rfl, rfl, rfl, rfl, trivial⟩, X_12, (Sep.sel S_16 [0, 1, 2, 3, 4, 5, 6, 7, 8] (by decide))⟩
  ·rw [if_neg c1] at ho1
   have c1 := eq_false_of_ne_true c1
   refine W.condF rfl c1 ?_
   refine W.exit ?_
   refine thnX ?_
   refine rndX ?_
   refine blkI ?_
   have eo1 := Option.some.inj ho1
   subst eo1
   have ey1 := hy1 _ rfl
   subst ey1
   refine onlyN ?_
   exact ⟨x3, decide (x3 < a0_1), x4, rfl, ⟨rfl, rfl, rfl, rfl, rfl, rfl, rfl, trivial⟩, X_8, (Sep.sel S_10 [0, 1, 2, 3, 4, 5, 6, 7, 8] (by decide))⟩
 rintro φ' hp13 ⟨x5, x6, x7, rfl, hs2, X_13, S_17⟩
 try dsimp only at hp
 refine thnN ?_
 refine W.sub hs2 ?_
 refine W.seq ?_
 refine W.region ?_
 refine RL.opD (by decide) (opv_loadA (us := [v4, v5, v6]) rfl Try.agg28 Try.size28 rfl (Sep.at (o := boxO bb3 [v4, v5, v6]) S_17 0 rfl) rfl rfl) ?_
 refine RL.op0 _ (opS_stored (cs := [(.slice none 0 0), (.slice none 0 0), (.slice none 0 0)]) (cs' := [v4, v5, v6]) (opv_storeA (us := [v4, v5, v6]) rfl Try.size28 rfl rfl (oneAll (ownO.one (Sep.at (o := ownO (kF .f32) 25 v4 x7) S_17 1 rfl)) (oneAll (ownO.one (Sep.at (o := ownO (kF .f32) 25 v5 x2.2.1) S_17 2 rfl)) (oneAll (ownO.one (Sep.at (o := ownO (kF .f32) 25 v6 x2.2.2) S_17 3 rfl)) rfl))) (Sep.at (o := boxO bb1 [(.slice none 0 0), (.slice none 0 0), (.slice none 0 0)]) S_17 8 rfl) rfl rfl) (Sep.at (o := boxO bb1 [(.slice none 0 0), (.slice none 0 0), (.slice none 0 0)]) S_17 8 rfl)) ?_
 rintro _ hp14 ⟨rfl, MT_10, T_10⟩
 have S_18 : Sep [] h0.size hp13 ([boxO bb1 [(.slice none 0 0), (.slice none 0 0), (.slice none 0 0)]] ++ [boxO bb3 [v4, v5, v6], ownO (kF .f32) 25 v4 x7, ownO (kF .f32) 25 v5 x2.2.1, ownO (kF .f32) 25 v6 x2.2.2, boxO bb2 [v1, v2, v3], ownO (kF .f32) 25 v1 x1.1, ownO (kF .f32) 25 v2 x1.2.1, ownO (kF .f32) 25 v3 x1.2.2]) := Sep.sel S_17 [8, 0, 1, 2, 3, 4, 5, 6, 7] (by decide)
 obtain ⟨X_14, S_19⟩ := Sep.turn X_13 S_18 MT_10 T_10
 refine RL.nil ?_
 refine thnN ?_
 refine W.ret ?_
 have er := Option.some.inj hp
 subst er
 exact Rt.cell1 rfl rfl Try.agg28 Try.size28 (Sep.at (o := boxO bb1 [v4, v5, v6]) S_19 0 rfl) rfl ⟨v4, v5, v6, rfl, X_14, (Sep.sel S_19 [2, 3, 4] (by decide))⟩

end Go.H
