/- Functions of the program: what each computes, as a plain function, and that the call comes to it. Written by a program (wip/gen). -/
import Derived.Test.YthccgmjanoeohaaGStep1
import Derived.Test.YthccgmjanoeohaaGStep2
import Derived.Test.YthccgmjanoeohaaGBase
import Derived.Test.YthccgmjanoeohaaGCopy
import Derived.Test.YthccgmjanoeohaaGSheet
import Derived.Test.YthccgmjanoeohaaGField
import Derived.Test.YthccgmjanoeohaaBase22
import Derived.Test.YthccgmjanoeohaaProg
import Derived.KernelRfl
set_option linter.unusedVariables false
namespace Go.H
open Go Go.Proofs



noncomputable def spec_l07Is (a0_0 : Int) (a0_1 : Int) (a0_2 : Bool) (a0_3 : List (Option Nat)) (a0_4 : List (Option Nat)) (a1_0 : Int) (a1_1 : Int) : Option Bool :=
  ((((spec_l00In a1_0 0 (IntKind.wrap .i64 (a0_1 - 1))).bind fun (x2 : Bool) => (if x2 = true then ((spec_l00In a1_1 1 (IntKind.wrap .i64 (a0_1 - a1_0))).bind fun (x3 : Bool) => some x3) else some false)) : Option Bool).bind fun (x1 : Bool) => some x1)

noncomputable def spec_l07Cut (a0_0 : Int) (a0_1 : Int) (a0_2 : Bool) (a0_3 : List (Option Nat)) (a0_4 : List (Option Nat)) (a1_0 : List (Option Nat)) (a1_1 : List (Option Nat)) (a1_2 : List (Option Nat)) (a2_0 : Int) (a2_1 : Int) : Option ((List (Option Nat)) × (List (Option Nat)) × (List (Option Nat))) :=
  ((sub a1_0 (IntKind.wrap .i64 (a0_0 * a2_0)) (IntKind.wrap .i64 (a0_0 * (IntKind.wrap .i64 (a2_0 + a2_1))))).bind fun (x1 : List (Option Nat)) => (if 0 < x1.length ∧ x1.length ≤ 1000000000 then ((sub a1_1 (IntKind.wrap .i64 (a0_0 * a2_0)) (IntKind.wrap .i64 (a0_0 * (IntKind.wrap .i64 (a2_0 + a2_1))))).bind fun (x2 : List (Option Nat)) => (if 0 < x2.length ∧ x2.length ≤ 1000000000 then ((sub a1_2 (IntKind.wrap .i64 (a0_0 * a2_0)) (IntKind.wrap .i64 (a0_0 * (IntKind.wrap .i64 (a2_0 + a2_1))))).bind fun (x3 : List (Option Nat)) => (if 0 < x3.length ∧ x3.length ≤ 1000000000 then some (x1, x2, x3) else none)) else none)) else none))

noncomputable def spec_StepStrip (a0_0 : Int) (a0_1 : Int) (a0_2 : Bool) (a0_3 : List (Option Nat)) (a0_4 : List (Option Nat)) (a1_0 : List (Option Nat)) (a1_1 : List (Option Nat)) (a1_2 : List (Option Nat)) (a2_0 : Int) (a2_1 : Int) : Option ((List (Option Nat)) × (List (Option Nat)) × (List (Option Nat)) × Bool) :=
  ((((spec_l03Both a0_0 a0_1 a0_2 a0_3 a0_4 a1_0 a1_1 a1_2).bind fun (x2 : Bool) => (if (!x2) = true then some true else ((spec_l07Is a0_0 a0_1 a0_2 a0_3 a0_4 a2_0 a2_1).bind fun (x3 : Bool) => some (!x3)))) : Option Bool).bind fun (x1 : Bool) => (if x1 = true then some (([] : List (Option Nat)), ([] : List (Option Nat)), ([] : List (Option Nat)), false) else ((spec_l03Step a0_0 a0_1 a0_2 a0_3 a0_4 a1_0 a1_1 a1_2).bind fun (x4 : ((List (Option Nat)) × (List (Option Nat)) × (List (Option Nat)))) => ((spec_l07Cut a0_0 a0_1 a0_2 a0_3 a0_4 x4.1 x4.2.1 x4.2.2 a2_0 a2_1).bind fun (x5 : ((List (Option Nat)) × (List (Option Nat)) × (List (Option Nat)))) => some (x5.1, x5.2.1, x5.2.2, true)))))

noncomputable def impl_IsStrip (a0_0 : Int) (a0_1 : Int) (a0_2 : Bool) (a0_3 : List (Option Nat)) (a0_4 : List (Option Nat)) (a1_0 : Int) (a1_1 : Int) : Option Bool :=
  ((((impl_ValidSheet a0_0 a0_1 a0_2 a0_3 a0_4).bind fun (x2 : Bool) => (if x2 = true then ((impl_within a1_0 0 (IntKind.wrap .i64 (a0_1 - 1))).bind fun (x3 : Bool) => (if x3 = true then ((impl_within a1_1 1 (IntKind.wrap .i64 (a0_1 - a1_0))).bind fun (x4 : Bool) => some x4) else some false)) else some false)) : Option Bool).bind fun (x1 : Bool) => some x1)

noncomputable def impl_cut (a0_0 : Int) (a0_1 : Int) (a0_2 : Bool) (a0_3 : List (Option Nat)) (a0_4 : List (Option Nat)) (a1 : List (Option Nat)) (a2_0 : Int) (a2_1 : Int) : Option (List (Option Nat)) :=
  ((sub a1 (IntKind.wrap .i64 (a2_0 * a0_0)) (IntKind.wrap .i64 ((IntKind.wrap .i64 (a2_0 + a2_1)) * a0_0))).bind fun (x1 : List (Option Nat)) => ((impl_copyOf x1).bind fun (x2 : List (Option Nat)) => some x2))

noncomputable def impl_cutStrip (a0_0 : Int) (a0_1 : Int) (a0_2 : Bool) (a0_3 : List (Option Nat)) (a0_4 : List (Option Nat)) (a1_0 : List (Option Nat)) (a1_1 : List (Option Nat)) (a1_2 : List (Option Nat)) (a2_0 : Int) (a2_1 : Int) : Option ((List (Option Nat)) × (List (Option Nat)) × (List (Option Nat))) :=
  ((impl_cut a0_0 a0_1 a0_2 a0_3 a0_4 a1_0 a2_0 a2_1).bind fun (x1 : List (Option Nat)) => ((impl_cut a0_0 a0_1 a0_2 a0_3 a0_4 a1_1 a2_0 a2_1).bind fun (x2 : List (Option Nat)) => ((impl_cut a0_0 a0_1 a0_2 a0_3 a0_4 a1_2 a2_0 a2_1).bind fun (x3 : List (Option Nat)) => some (x1, x2, x3))))

noncomputable def impl_StepStrip (a0_0 : Int) (a0_1 : Int) (a0_2 : Bool) (a0_3 : List (Option Nat)) (a0_4 : List (Option Nat)) (a1_0 : List (Option Nat)) (a1_1 : List (Option Nat)) (a1_2 : List (Option Nat)) (a2_0 : Int) (a2_1 : Int) : Option ((List (Option Nat)) × (List (Option Nat)) × (List (Option Nat)) × Bool) :=
  ((((impl_IsField a0_0 a0_1 a0_2 a0_3 a0_4 a1_0 a1_1 a1_2).bind fun (x2 : Bool) => (if (!x2) = true then some true else ((impl_IsStrip a0_0 a0_1 a0_2 a0_3 a0_4 a2_0 a2_1).bind fun (x3 : Bool) => some (!x3)))) : Option Bool).bind fun (x1 : Bool) => (if x1 = true then some (([] : List (Option Nat)), ([] : List (Option Nat)), ([] : List (Option Nat)), false) else ((impl_stepped a0_0 a0_1 a0_2 a0_3 a0_4 a1_0 a1_1 a1_2).bind fun (x4 : ((List (Option Nat)) × (List (Option Nat)) × (List (Option Nat)))) => ((impl_cutStrip a0_0 a0_1 a0_2 a0_3 a0_4 x4.1 x4.2.1 x4.2.2 a2_0 a2_1).bind fun (x5 : ((List (Option Nat)) × (List (Option Nat)) × (List (Option Nat)))) => some (x5.1, x5.2.1, x5.2.2, true)))))

noncomputable def laws_FnExactStepStrip (a0_0 : Int) (a0_1 : Int) (a0_2 : Bool) (a0_3 : List (Option Nat)) (a0_4 : List (Option Nat)) (a1_0 : List (Option Nat)) (a1_1 : List (Option Nat)) (a1_2 : List (Option Nat)) (a2_0 : Int) (a2_1 : Int) : Option Bool :=
  ((laws_szSheet a0_0 a0_1 a0_2 a0_3 a0_4 1048576).bind fun (x1 : Int) => (if (decide (x1 < 0)) = true then some true else ((laws_szField a1_0 a1_1 a1_2 x1).bind fun (x2 : Int) => (if (decide (x2 < 0)) = true then some true else ((laws_toSheet a0_0 a0_1 a0_2 a0_3 a0_4).bind fun (x3 : (Int × Int × Bool × (List (Option Nat)) × (List (Option Nat)))) => ((laws_toField a1_0 a1_1 a1_2).bind fun (x4 : ((List (Option Nat)) × (List (Option Nat)) × (List (Option Nat)))) => ((laws_toStrip a2_0 a2_1).bind fun (x5 : (Int × Int)) => ((spec_StepStrip x3.1 x3.2.1 x3.2.2.1 x3.2.2.2.1 x3.2.2.2.2 x4.1 x4.2.1 x4.2.2 x5.1 x5.2).bind fun (x6 : ((List (Option Nat)) × (List (Option Nat)) × (List (Option Nat)) × Bool)) => ((laws_toSheet a0_0 a0_1 a0_2 a0_3 a0_4).bind fun (x7 : (Int × Int × Bool × (List (Option Nat)) × (List (Option Nat)))) => ((laws_toField a1_0 a1_1 a1_2).bind fun (x8 : ((List (Option Nat)) × (List (Option Nat)) × (List (Option Nat)))) => ((laws_toStrip a2_0 a2_1).bind fun (x9 : (Int × Int)) => ((impl_StepStrip x7.1 x7.2.1 x7.2.2.1 x7.2.2.2.1 x7.2.2.2.2 x8.1 x8.2.1 x8.2.2 x9.1 x9.2).bind fun (x10 : ((List (Option Nat)) × (List (Option Nat)) × (List (Option Nat)) × Bool)) => ((((laws_eqField x10.1 x10.2.1 x10.2.2.1 x6.1 x6.2.1 x6.2.2.1).bind fun (x12 : Bool) => (if (!x12) = true then some true else some (x10.2.2.2 != x6.2.2.2))) : Option Bool).bind fun (x11 : Bool) => (if x11 = true then some false else ((laws_toSheet a0_0 a0_1 a0_2 a0_3 a0_4).bind fun (x13 : (Int × Int × Bool × (List (Option Nat)) × (List (Option Nat)))) => ((laws_eqSheet x7.1 x7.2.1 x7.2.2.1 x7.2.2.2.1 x7.2.2.2.2 x13.1 x13.2.1 x13.2.2.1 x13.2.2.2.1 x13.2.2.2.2).bind fun (x14 : Bool) => (if (!x14) = true then some false else ((laws_toField a1_0 a1_1 a1_2).bind fun (x15 : ((List (Option Nat)) × (List (Option Nat)) × (List (Option Nat)))) => ((laws_eqField x8.1 x8.2.1 x8.2.2 x15.1 x15.2.1 x15.2.2).bind fun (x16 : Bool) => (if (!x16) = true then some false else ((laws_markSheet x7.1 x7.2.1 x7.2.2.1 x7.2.2.2.1 x7.2.2.2.2 1).bind fun (x17 : (Int × (List (Option Nat)) × (List (Option Nat)))) => ((laws_markField x8.1 x8.2.1 x8.2.2 x17.1).bind fun (x18 : (Int × (List (Option Nat)) × (List (Option Nat)) × (List (Option Nat)))) => (((if (decide (x18.1 < 0)) = true then some true else ((laws_eqField x10.1 x10.2.1 x10.2.2.1 x6.1 x6.2.1 x6.2.2.1).bind fun (x20 : Bool) => (if (!x20) = true then some true else some (x10.2.2.2 != x6.2.2.2)))) : Option Bool).bind fun (x19 : Bool) => (if x19 = true then some false else ((laws_markField x10.1 x10.2.1 x10.2.2.1 1).bind fun (x21 : (Int × (List (Option Nat)) × (List (Option Nat)) × (List (Option Nat)))) => ((laws_heldField x21.2.1 x21.2.2.1 x21.2.2.2 1).bind fun (x22 : Int) => (if (decide (x22 < 0)) = true then some false else (if (x22 != x21.1) = true then some false else ((laws_toSheet a0_0 a0_1 a0_2 a0_3 a0_4).bind fun (x23 : (Int × Int × Bool × (List (Option Nat)) × (List (Option Nat)))) => ((laws_toField a1_0 a1_1 a1_2).bind fun (x24 : ((List (Option Nat)) × (List (Option Nat)) × (List (Option Nat)))) => ((laws_toStrip a2_0 a2_1).bind fun (x25 : (Int × Int)) => ((impl_StepStrip x23.1 x23.2.1 x23.2.2.1 x23.2.2.2.1 x23.2.2.2.2 x24.1 x24.2.1 x24.2.2 x25.1 x25.2).bind fun (x26 : ((List (Option Nat)) × (List (Option Nat)) × (List (Option Nat)) × Bool)) => ((((laws_eqField x26.1 x26.2.1 x26.2.2.1 x6.1 x6.2.1 x6.2.2.1).bind fun (x28 : Bool) => (if (!x28) = true then some true else some (x26.2.2.2 != x6.2.2.2))) : Option Bool).bind fun (x27 : Bool) => (if x27 = true then some false else ((laws_heldField x21.2.1 x21.2.2.1 x21.2.2.2 1).bind fun (x29 : Int) => (if (decide (x29 < 0)) = true then some false else (if (x29 != x21.1) = true then some false else some true)))))))))))))))))))))))))))))))))))))

set_option maxRecDepth 20000 in
theorem spec_l07Is_ok (h0 : Heap) (b0 : Nat) (a0_0 : Int) (a0_1 : Int) (a0_2 : Bool) (u0_3 : Value) (a0_3 : List (Option Nat)) (g0_3 : SL (kF .f32) h0.size h0 u0_3 a0_3) (u0_4 : Value) (a0_4 : List (Option Nat)) (g0_4 : SL (kF .f32) h0.size h0 u0_4 a0_4) (G0 : Bx h0 b0 [(.int .i64 a0_0), (.int .i64 a0_1), (.bool a0_2), u0_3, u0_4]) (b1 : Nat) (a1_0 : Int) (a1_1 : Int) (G1 : Bx h0 b1 [(.int .i64 a1_0), (.int .i64 a1_1)]) (r : Bool) (hp : spec_l07Is a0_0 a0_1 a0_2 a0_3 a0_4 a1_0 a1_1 = some r) : CallsH Try.prog 82 ([(.pointer (some ⟨b0, 0, none⟩)), (.pointer (some ⟨b1, 0, none⟩))].toArray ++ [].toArray) h0 (fun v h' => v = (.bool r) ∧ h0 = h') := by
  unfold spec_l07Is at hp
  refine callsH_of_W (l := [(.pointer (some ⟨b0, 0, none⟩)), (.pointer (some ⟨b1, 0, none⟩))]) (cap := []) 31 Try.func82 rfl rfl rfl ?_
  refine W.seq ?_
  refine W.region ?_
  refine RL.opD (by decide) (opv_assign rfl rfl) ?_
  refine RL.nil ?_
  refine thnN ?_
  refine W.seq ?_
  obtain ⟨x1, hy1, hp⟩ := Option.bind_eq_some_iff.1 hp
  refine W.cut (fun φ' h' => Fr.sub [(0, (.pointer (some ⟨b0, 0, none⟩))), (1, (.pointer (some ⟨b1, 0, none⟩))), (4, (.bool x1))] φ' ∧ h0 = h') ?_ ?_
  · obtain ⟨x2, hx2, hy1⟩ := Option.bind_eq_some_iff.1 hy1
    by_cases c1 : x2 = true
    · rw [if_pos c1] at hy1
      obtain ⟨x3, hx3, hy1⟩ := Option.bind_eq_some_iff.1 hy1
      refine W.sub (ψ := [(0, (.pointer (some ⟨b0, 0, none⟩))), (1, (.pointer (some ⟨b1, 0, none⟩)))]) ⟨rfl, rfl, trivial⟩ ?_
      refine W.regionP [fun v _ => @Eq Value (.pointer (some ⟨b1, 0, none⟩)) v, fun v _ => @Eq Value (.pointer (some ⟨b1, 0, none⟩)) v, fun v _ => @Eq Value (.pointer (some ⟨b1, 0, none⟩)) v, fun v _ => @Eq Value (.int .i64 a1_0) v, fun v _ => @Eq Value (.pointer (some ⟨b0, 0, none⟩)) v, fun v _ => @Eq Value (.pointer (some ⟨b0, 0, none⟩)) v, fun v _ => @Eq Value (.pointer (some ⟨b0, 1, none⟩)) v, fun v _ => @Eq Value (.int .i64 a0_1) v, fun v _ => @Eq Value (.int .i64 (IntKind.wrap .i64 (a0_1 - 1))) v, fun v _ => @Eq Value (.bool x2) v, fun v _ => @Eq Value (.bool x2) v, fun v _ => @Eq Value (.pointer (some ⟨b1, 0, none⟩)) v, fun v _ => @Eq Value (.pointer (some ⟨b1, 0, none⟩)) v, fun v _ => @Eq Value (.pointer (some ⟨b1, 1, none⟩)) v, fun v _ => @Eq Value (.int .i64 a1_1) v, fun v _ => @Eq Value (.pointer (some ⟨b0, 0, none⟩)) v, fun v _ => @Eq Value (.pointer (some ⟨b0, 0, none⟩)) v, fun v _ => @Eq Value (.pointer (some ⟨b0, 1, none⟩)) v, fun v _ => @Eq Value (.int .i64 a0_1) v, fun v _ => @Eq Value (.pointer (some ⟨b1, 0, none⟩)) v, fun v _ => @Eq Value (.pointer (some ⟨b1, 0, none⟩)) v, fun v _ => @Eq Value (.pointer (some ⟨b1, 0, none⟩)) v, fun v _ => @Eq Value (.int .i64 a1_0) v, fun v _ => @Eq Value (.int .i64 (IntKind.wrap .i64 (a0_1 - a1_0))) v, fun v _ => @Eq Value (.bool x3) v, fun v _ => @Eq Value (.bool x3) v, fun v _ => @Eq Value (.bool x3) v] [[], [0], [1], [2], [], [4], [5], [6], [7], [3, 8], [9], [10], [11, 10], [12, 10], [13, 10], [10], [15, 10], [16, 10], [17, 10], [10], [19, 10], [20, 10], [21, 10], [18, 22, 10], [14, 23, 10], [10, 24], [25]] [26] Try.mixed (by decide +kernel) (by decide +kernel) rfl rfl rfl ?_ ?_
      · refine ⟨⟨rfl, ?_⟩, ⟨rfl, ?_⟩, ⟨rfl, ?_⟩, ⟨rfl, ?_⟩, ⟨rfl, ?_⟩, ⟨rfl, ?_⟩, ⟨rfl, ?_⟩, ⟨rfl, ?_⟩, ⟨rfl, ?_⟩, ⟨rfl, ?_⟩, ⟨rfl, ?_⟩, ⟨rfl, ?_⟩, ⟨rfl, ?_⟩, ⟨rfl, ?_⟩, ⟨rfl, ?_⟩, ⟨rfl, ?_⟩, ⟨rfl, ?_⟩, ⟨rfl, ?_⟩, ⟨rfl, ?_⟩, ⟨rfl, ?_⟩, ⟨rfl, ?_⟩, ⟨rfl, ?_⟩, ⟨rfl, ?_⟩, ⟨rfl, ?_⟩, ⟨rfl, ?_⟩, ⟨rfl, ?_⟩, ⟨rfl, ?_⟩, trivial⟩
        · rintro _ rfl
          refine Dep.nil ?_
          refine GuardOK.none rfl ?_
          exact OpV.toD (opv_move rfl rfl) rfl
        · rintro _ rfl _ rfl
          refine Dep.nil ?_
          refine GuardOK.none rfl ?_
          exact OpV.toD (opv_nilCheck rfl rfl) rfl
        · rintro _ rfl _ rfl
          refine Dep.nil ?_
          refine GuardOK.none rfl ?_
          exact OpV.toD (opv_fieldAddr rfl Try.fo50_0 rfl) rfl
        · rintro _ rfl _ rfl
          refine Dep.nil ?_
          refine GuardOK.none rfl ?_
          exact OpV.toD (opv_loadB rfl Try.one2 rfl G1 rfl) rfl
        · rintro _ rfl
          refine Dep.nil ?_
          refine GuardOK.none rfl ?_
          exact OpV.toD (opv_move rfl rfl) rfl
        · rintro _ rfl _ rfl
          refine Dep.nil ?_
          refine GuardOK.none rfl ?_
          exact OpV.toD (opv_nilCheck rfl rfl) rfl
        · rintro _ rfl _ rfl
          refine Dep.nil ?_
          refine GuardOK.none rfl ?_
          exact OpV.toD (opv_fieldAddr rfl Try.fo31_1 rfl) rfl
        · rintro _ rfl _ rfl
          refine Dep.nil ?_
          refine GuardOK.none rfl ?_
          exact OpV.toD (opv_loadB rfl Try.one2 rfl G0 rfl) rfl
        · rintro _ rfl _ rfl
          refine Dep.nil ?_
          refine GuardOK.none rfl ?_
          exact OpV.toD (opv_sub rfl rfl rfl) rfl
        · rintro _ rfl _ rfl _ rfl
          refine Dep.nil ?_
          refine GuardOK.none rfl ?_
          exact OpV.mono (opv_call (cap := []) (spec_l00In_ok _ _ _ _ _ hx2) rfl rfl ⟨rfl, rfl, rfl, trivial⟩ Try.func76 rfl rfl) (by rintro _ _ ⟨rfl, rfl⟩; exact ⟨rfl, rfl⟩)
        · rintro _ rfl _ rfl
          refine Dep.nil ?_
          refine GuardOK.none rfl ?_
          exact OpV.toD (opv_move rfl rfl) rfl
        · rintro _ rfl _ rfl
          refine Dep.nil ?_
          refine GuardOK.some rfl rfl rfl c1 ?_
          exact OpV.toD (opv_move rfl rfl) rfl
        · rintro _ rfl _ rfl _ rfl
          refine Dep.nil ?_
          refine GuardOK.some rfl rfl rfl c1 ?_
          exact OpV.toD (opv_nilCheck rfl rfl) rfl
        · rintro _ rfl _ rfl _ rfl
          refine Dep.nil ?_
          refine GuardOK.some rfl rfl rfl c1 ?_
          exact OpV.toD (opv_fieldAddr rfl Try.fo50_1 rfl) rfl
        · rintro _ rfl _ rfl _ rfl
          refine Dep.nil ?_
          refine GuardOK.some rfl rfl rfl c1 ?_
          exact OpV.toD (opv_loadB rfl Try.one2 rfl G1 rfl) rfl
        · rintro _ rfl _ rfl
          refine Dep.nil ?_
          refine GuardOK.some rfl rfl rfl c1 ?_
          exact OpV.toD (opv_move rfl rfl) rfl
        · rintro _ rfl _ rfl _ rfl
          refine Dep.nil ?_
          refine GuardOK.some rfl rfl rfl c1 ?_
          exact OpV.toD (opv_nilCheck rfl rfl) rfl
        · rintro _ rfl _ rfl _ rfl
          refine Dep.nil ?_
          refine GuardOK.some rfl rfl rfl c1 ?_
          exact OpV.toD (opv_fieldAddr rfl Try.fo31_1 rfl) rfl
        · rintro _ rfl _ rfl _ rfl
          refine Dep.nil ?_
          refine GuardOK.some rfl rfl rfl c1 ?_
          exact OpV.toD (opv_loadB rfl Try.one2 rfl G0 rfl) rfl
        · rintro _ rfl _ rfl
          refine Dep.nil ?_
          refine GuardOK.some rfl rfl rfl c1 ?_
          exact OpV.toD (opv_move rfl rfl) rfl
        · rintro _ rfl _ rfl _ rfl
          refine Dep.nil ?_
          refine GuardOK.some rfl rfl rfl c1 ?_
          exact OpV.toD (opv_nilCheck rfl rfl) rfl
        · rintro _ rfl _ rfl _ rfl
          refine Dep.nil ?_
          refine GuardOK.some rfl rfl rfl c1 ?_
          exact OpV.toD (opv_fieldAddr rfl Try.fo50_0 rfl) rfl
        · rintro _ rfl _ rfl _ rfl
          refine Dep.nil ?_
          refine GuardOK.some rfl rfl rfl c1 ?_
          exact OpV.toD (opv_loadB rfl Try.one2 rfl G1 rfl) rfl
        · rintro _ rfl _ rfl _ rfl _ rfl
          refine Dep.nil ?_
          refine GuardOK.some rfl rfl rfl c1 ?_
          exact OpV.toD (opv_sub rfl rfl rfl) rfl
        · rintro _ rfl _ rfl _ rfl _ rfl
          refine Dep.nil ?_
          refine GuardOK.some rfl rfl rfl c1 ?_
          exact OpV.mono (opv_call (cap := []) (spec_l00In_ok _ _ _ _ _ hx3) rfl rfl ⟨rfl, rfl, rfl, trivial⟩ Try.func76 rfl rfl) (by rintro _ _ ⟨rfl, rfl⟩; exact ⟨rfl, rfl⟩)
        · rintro _ rfl _ rfl _ rfl
          refine Dep.nil ?_
          refine GuardOK.none rfl ?_
          exact OpV.toD (opv_pick rfl rfl (fun _ => rfl) (fun e => absurd (Eq.trans (Eq.symm e) c1) (by decide)) rfl) rfl
        · rintro _ rfl _ rfl
          refine Dep.nil ?_
          refine GuardOK.none rfl ?_
          exact OpV.toD (opv_assign rfl rfl) rfl
      rintro _ rfl
      refine Dep.nil ?_
      show RL _ _ _ _ [] _ _
      refine RL.nil ?_
      have ey1 := Option.some.inj hy1
      subst ey1
      refine onlyN ?_
      exact ⟨⟨rfl, rfl, rfl, trivial⟩, rfl⟩
    · rw [if_neg c1] at hy1
      have c1 := eq_false_of_ne_true c1
      refine W.sub (ψ := [(0, (.pointer (some ⟨b0, 0, none⟩))), (1, (.pointer (some ⟨b1, 0, none⟩)))]) ⟨rfl, rfl, trivial⟩ ?_
      refine W.regionP [fun v _ => @Eq Value (.pointer (some ⟨b1, 0, none⟩)) v, fun v _ => @Eq Value (.pointer (some ⟨b1, 0, none⟩)) v, fun v _ => @Eq Value (.pointer (some ⟨b1, 0, none⟩)) v, fun v _ => @Eq Value (.int .i64 a1_0) v, fun v _ => @Eq Value (.pointer (some ⟨b0, 0, none⟩)) v, fun v _ => @Eq Value (.pointer (some ⟨b0, 0, none⟩)) v, fun v _ => @Eq Value (.pointer (some ⟨b0, 1, none⟩)) v, fun v _ => @Eq Value (.int .i64 a0_1) v, fun v _ => @Eq Value (.int .i64 (IntKind.wrap .i64 (a0_1 - 1))) v, fun v _ => @Eq Value (.bool x2) v, fun v _ => @Eq Value (.bool x2) v, fun v _ => @Eq Value undef v, fun v _ => @Eq Value undef v, fun v _ => @Eq Value undef v, fun v _ => @Eq Value undef v, fun v _ => @Eq Value undef v, fun v _ => @Eq Value undef v, fun v _ => @Eq Value undef v, fun v _ => @Eq Value undef v, fun v _ => @Eq Value undef v, fun v _ => @Eq Value undef v, fun v _ => @Eq Value undef v, fun v _ => @Eq Value undef v, fun v _ => @Eq Value undef v, fun v _ => @Eq Value undef v, fun v _ => @Eq Value (.bool false) v, fun v _ => @Eq Value (.bool false) v] [[], [0], [1], [2], [], [4], [5], [6], [7], [3, 8], [9], [10], [10], [10], [10], [10], [10], [10], [10], [10], [10], [10], [10], [10], [10], [10], [25]] [26] Try.mixed (by decide +kernel) (by decide +kernel) rfl rfl rfl ?_ ?_
      · refine ⟨⟨rfl, ?_⟩, ⟨rfl, ?_⟩, ⟨rfl, ?_⟩, ⟨rfl, ?_⟩, ⟨rfl, ?_⟩, ⟨rfl, ?_⟩, ⟨rfl, ?_⟩, ⟨rfl, ?_⟩, ⟨rfl, ?_⟩, ⟨rfl, ?_⟩, ⟨rfl, ?_⟩, ⟨rfl, ?_⟩, ⟨rfl, ?_⟩, ⟨rfl, ?_⟩, ⟨rfl, ?_⟩, ⟨rfl, ?_⟩, ⟨rfl, ?_⟩, ⟨rfl, ?_⟩, ⟨rfl, ?_⟩, ⟨rfl, ?_⟩, ⟨rfl, ?_⟩, ⟨rfl, ?_⟩, ⟨rfl, ?_⟩, ⟨rfl, ?_⟩, ⟨rfl, ?_⟩, ⟨rfl, ?_⟩, ⟨rfl, ?_⟩, trivial⟩
        · rintro _ rfl
          refine Dep.nil ?_
          refine GuardOK.none rfl ?_
          exact OpV.toD (opv_move rfl rfl) rfl
        · rintro _ rfl _ rfl
          refine Dep.nil ?_
          refine GuardOK.none rfl ?_
          exact OpV.toD (opv_nilCheck rfl rfl) rfl
        · rintro _ rfl _ rfl
          refine Dep.nil ?_
          refine GuardOK.none rfl ?_
          exact OpV.toD (opv_fieldAddr rfl Try.fo50_0 rfl) rfl
        · rintro _ rfl _ rfl
          refine Dep.nil ?_
          refine GuardOK.none rfl ?_
          exact OpV.toD (opv_loadB rfl Try.one2 rfl G1 rfl) rfl
        · rintro _ rfl
          refine Dep.nil ?_
          refine GuardOK.none rfl ?_
          exact OpV.toD (opv_move rfl rfl) rfl
        · rintro _ rfl _ rfl
          refine Dep.nil ?_
          refine GuardOK.none rfl ?_
          exact OpV.toD (opv_nilCheck rfl rfl) rfl
        · rintro _ rfl _ rfl
          refine Dep.nil ?_
          refine GuardOK.none rfl ?_
          exact OpV.toD (opv_fieldAddr rfl Try.fo31_1 rfl) rfl
        · rintro _ rfl _ rfl
          refine Dep.nil ?_
          refine GuardOK.none rfl ?_
          exact OpV.toD (opv_loadB rfl Try.one2 rfl G0 rfl) rfl
        · rintro _ rfl _ rfl
          refine Dep.nil ?_
          refine GuardOK.none rfl ?_
          exact OpV.toD (opv_sub rfl rfl rfl) rfl
        · rintro _ rfl _ rfl _ rfl
          refine Dep.nil ?_
          refine GuardOK.none rfl ?_
          exact OpV.mono (opv_call (cap := []) (spec_l00In_ok _ _ _ _ _ hx2) rfl rfl ⟨rfl, rfl, rfl, trivial⟩ Try.func76 rfl rfl) (by rintro _ _ ⟨rfl, rfl⟩; exact ⟨rfl, rfl⟩)
        · rintro _ rfl _ rfl
          refine Dep.nil ?_
          refine GuardOK.none rfl ?_
          exact OpV.toD (opv_move rfl rfl) rfl
        · rintro _ rfl _ rfl
          refine Dep.nil ?_
          refine GuardOK.pass rfl rfl rfl (Eq.trans c1 (by decide)) ⟨rfl, rfl⟩
        · rintro _ rfl _ rfl
          refine Dep.nil ?_
          refine GuardOK.pass rfl rfl rfl (Eq.trans c1 (by decide)) ⟨rfl, rfl⟩
        · rintro _ rfl _ rfl
          refine Dep.nil ?_
          refine GuardOK.pass rfl rfl rfl (Eq.trans c1 (by decide)) ⟨rfl, rfl⟩
        · rintro _ rfl _ rfl
          refine Dep.nil ?_
          refine GuardOK.pass rfl rfl rfl (Eq.trans c1 (by decide)) ⟨rfl, rfl⟩
        · rintro _ rfl _ rfl
          refine Dep.nil ?_
          refine GuardOK.pass rfl rfl rfl (Eq.trans c1 (by decide)) ⟨rfl, rfl⟩
        · rintro _ rfl _ rfl
          refine Dep.nil ?_
          refine GuardOK.pass rfl rfl rfl (Eq.trans c1 (by decide)) ⟨rfl, rfl⟩
        · rintro _ rfl _ rfl
          refine Dep.nil ?_
          refine GuardOK.pass rfl rfl rfl (Eq.trans c1 (by decide)) ⟨rfl, rfl⟩
        · rintro _ rfl _ rfl
          refine Dep.nil ?_
          refine GuardOK.pass rfl rfl rfl (Eq.trans c1 (by decide)) ⟨rfl, rfl⟩
        · rintro _ rfl _ rfl
          refine Dep.nil ?_
          refine GuardOK.pass rfl rfl rfl (Eq.trans c1 (by decide)) ⟨rfl, rfl⟩
        · rintro _ rfl _ rfl
          refine Dep.nil ?_
          refine GuardOK.pass rfl rfl rfl (Eq.trans c1 (by decide)) ⟨rfl, rfl⟩
        · rintro _ rfl _ rfl
          refine Dep.nil ?_
          refine GuardOK.pass rfl rfl rfl (Eq.trans c1 (by decide)) ⟨rfl, rfl⟩
        · rintro _ rfl _ rfl
          refine Dep.nil ?_
          refine GuardOK.pass rfl rfl rfl (Eq.trans c1 (by decide)) ⟨rfl, rfl⟩
        · rintro _ rfl _ rfl
          refine Dep.nil ?_
          refine GuardOK.pass rfl rfl rfl (Eq.trans c1 (by decide)) ⟨rfl, rfl⟩
        · rintro _ rfl _ rfl
          refine Dep.nil ?_
          refine GuardOK.pass rfl rfl rfl (Eq.trans c1 (by decide)) ⟨rfl, rfl⟩
        · rintro _ rfl _ rfl
          refine Dep.nil ?_
          refine GuardOK.none rfl ?_
          exact OpV.toD (opv_pick rfl rfl (fun e => absurd (Eq.trans (Eq.symm e) c1) (by decide)) (fun _ => rfl) rfl) rfl
        · rintro _ rfl _ rfl
          refine Dep.nil ?_
          refine GuardOK.none rfl ?_
          exact OpV.toD (opv_assign rfl rfl) rfl
      rintro _ rfl
      refine Dep.nil ?_
      show RL _ _ _ _ [] _ _
      refine RL.nil ?_
      have ey1 := Option.some.inj hy1
      subst ey1
      refine onlyN ?_
      exact ⟨⟨rfl, rfl, rfl, trivial⟩, rfl⟩
  rintro φ' _ ⟨hs1, rfl⟩
  refine thnN ?_
  refine W.sub hs1 ?_
  refine W.ret ?_
  have er := Option.some.inj hp
  subst er
  exact Rt.one rfl rfl ⟨rfl, rfl⟩

set_option maxRecDepth 20000 in
theorem spec_l07Cut_ok (h0 : Heap) (b0 : Nat) (a0_0 : Int) (a0_1 : Int) (a0_2 : Bool) (u0_3 : Value) (a0_3 : List (Option Nat)) (g0_3 : SL (kF .f32) h0.size h0 u0_3 a0_3) (u0_4 : Value) (a0_4 : List (Option Nat)) (g0_4 : SL (kF .f32) h0.size h0 u0_4 a0_4) (G0 : Bx h0 b0 [(.int .i64 a0_0), (.int .i64 a0_1), (.bool a0_2), u0_3, u0_4]) (b1 : Nat) (u1_0 : Value) (a1_0 : List (Option Nat)) (g1_0 : SL (kF .f32) h0.size h0 u1_0 a1_0) (u1_1 : Value) (a1_1 : List (Option Nat)) (g1_1 : SL (kF .f32) h0.size h0 u1_1 a1_1) (u1_2 : Value) (a1_2 : List (Option Nat)) (g1_2 : SL (kF .f32) h0.size h0 u1_2 a1_2) (G1 : Bx h0 b1 [u1_0, u1_1, u1_2]) (b2 : Nat) (a2_0 : Int) (a2_1 : Int) (G2 : Bx h0 b2 [(.int .i64 a2_0), (.int .i64 a2_1)]) (r : ((List (Option Nat)) × (List (Option Nat)) × (List (Option Nat)))) (hp : spec_l07Cut a0_0 a0_1 a0_2 a0_3 a0_4 a1_0 a1_1 a1_2 a2_0 a2_1 = some r) : CallsH Try.prog 84 ([(.pointer (some ⟨b0, 0, none⟩)), (.pointer (some ⟨b1, 0, none⟩)), (.pointer (some ⟨b2, 0, none⟩))].toArray ++ [].toArray) h0 (fun v h' => ∃ w0, ∃ w1, ∃ w2, v = (.agg (List.toArray (α := Value) [w0, w1, w2])) ∧ Mod [] h0 h' ∧ Sep [] h0.size h' [ownO (kF .f32) 25 w0 r.1, ownO (kF .f32) 25 w1 r.2.1, ownO (kF .f32) 25 w2 r.2.2]) := by
  unfold spec_l07Cut at hp
  refine callsH_of_W (l := [(.pointer (some ⟨b0, 0, none⟩)), (.pointer (some ⟨b1, 0, none⟩)), (.pointer (some ⟨b2, 0, none⟩))]) (cap := []) 60 Try.func84 rfl rfl rfl ?_
  refine W.seq ?_
  refine W.region ?_
  refine RL.op _ (by decide) (opS_boxed (opv_alloc (cs := [(.slice none 0 0), (.slice none 0 0), (.slice none 0 0)]) rfl Try.zero28 rfl)) ?_
  rintro _ hp1 ⟨bb1, rfl, MT_1, T_1⟩
  obtain ⟨X_1, S_1⟩ := Sep.turn0 (Mod.refl [] h0) (Sep.nil [] h0.size h0) MT_1 T_1
  refine RL.nil ?_
  refine thnN ?_
  refine W.seq ?_
  refine W.sub (ψ := [(0, (.pointer (some ⟨b0, 0, none⟩))), (1, (.pointer (some ⟨b1, 0, none⟩))), (2, (.pointer (some ⟨b2, 0, none⟩))), (6, (.pointer (some ⟨bb1, 0, none⟩)))]) ⟨rfl, rfl, rfl, rfl, trivial⟩ ?_
  refine W.regionP [fun v _ => @Eq Value (.pointer (some ⟨b0, 0, none⟩)) v, fun v _ => @Eq Value (.pointer (some ⟨b0, 0, none⟩)) v, fun v _ => @Eq Value (.pointer (some ⟨b0, 0, none⟩)) v, fun v _ => @Eq Value (.int .i64 a0_0) v, fun v _ => @Eq Value (.pointer (some ⟨b2, 0, none⟩)) v, fun v _ => @Eq Value (.pointer (some ⟨b2, 0, none⟩)) v, fun v _ => @Eq Value (.pointer (some ⟨b2, 0, none⟩)) v, fun v _ => @Eq Value (.int .i64 a2_0) v, fun v _ => @Eq Value (.int .i64 (IntKind.wrap .i64 (a0_0 * a2_0))) v, fun v _ => @Eq Value (.int .i64 (IntKind.wrap .i64 (a0_0 * a2_0))) v] [[], [0], [1], [2], [], [4], [5], [6], [3, 7], [8]] [9] Try.mixed (by decide +kernel) (by decide +kernel) rfl rfl rfl ?_ ?_
  · refine ⟨⟨rfl, ?_⟩, ⟨rfl, ?_⟩, ⟨rfl, ?_⟩, ⟨rfl, ?_⟩, ⟨rfl, ?_⟩, ⟨rfl, ?_⟩, ⟨rfl, ?_⟩, ⟨rfl, ?_⟩, ⟨rfl, ?_⟩, ⟨rfl, ?_⟩, trivial⟩
    · rintro _ rfl
      refine Dep.nil ?_
      refine GuardOK.none rfl ?_
      exact OpV.toD (opv_move rfl rfl) rfl
    · rintro _ rfl _ rfl
      refine Dep.nil ?_
      refine GuardOK.none rfl ?_
      exact OpV.toD (opv_nilCheck rfl rfl) rfl
    · rintro _ rfl _ rfl
      refine Dep.nil ?_
      refine GuardOK.none rfl ?_
      exact OpV.toD (opv_fieldAddr rfl Try.fo31_0 rfl) rfl
    · rintro _ rfl _ rfl
      refine Dep.nil ?_
      refine GuardOK.none rfl ?_
      exact OpV.toD (opv_loadB rfl Try.one2 rfl (Bx.mod G0 X_1 nobB) rfl) rfl
    · rintro _ rfl
      refine Dep.nil ?_
      refine GuardOK.none rfl ?_
      exact OpV.toD (opv_move rfl rfl) rfl
    · rintro _ rfl _ rfl
      refine Dep.nil ?_
      refine GuardOK.none rfl ?_
      exact OpV.toD (opv_nilCheck rfl rfl) rfl
    · rintro _ rfl _ rfl
      refine Dep.nil ?_
      refine GuardOK.none rfl ?_
      exact OpV.toD (opv_fieldAddr rfl Try.fo50_0 rfl) rfl
    · rintro _ rfl _ rfl
      refine Dep.nil ?_
      refine GuardOK.none rfl ?_
      exact OpV.toD (opv_loadB rfl Try.one2 rfl (Bx.mod G2 X_1 nobB) rfl) rfl
    · rintro _ rfl _ rfl _ rfl
      refine Dep.nil ?_
      refine GuardOK.none rfl ?_
      exact OpV.toD (opv_mul rfl rfl rfl) rfl
    · rintro _ rfl _ rfl
      refine Dep.nil ?_
      refine GuardOK.none rfl ?_
      exact OpV.toD (opv_assign rfl rfl) rfl
  rintro _ rfl
  refine Dep.nil ?_
  show RL _ _ _ _ [] _ _
  refine RL.nil ?_
  refine thnN ?_
  refine W.seq ?_
  refine W.sub (ψ := [(0, (.pointer (some ⟨b0, 0, none⟩))), (1, (.pointer (some ⟨b1, 0, none⟩))), (2, (.pointer (some ⟨b2, 0, none⟩))), (6, (.pointer (some ⟨bb1, 0, none⟩))), (7, (.int .i64 (IntKind.wrap .i64 (a0_0 * a2_0))))]) ⟨rfl, rfl, rfl, rfl, rfl, trivial⟩ ?_
  refine W.regionP [fun v _ => @Eq Value (.pointer (some ⟨b0, 0, none⟩)) v, fun v _ => @Eq Value (.pointer (some ⟨b0, 0, none⟩)) v, fun v _ => @Eq Value (.pointer (some ⟨b0, 0, none⟩)) v, fun v _ => @Eq Value (.int .i64 a0_0) v, fun v _ => @Eq Value (.pointer (some ⟨b2, 0, none⟩)) v, fun v _ => @Eq Value (.pointer (some ⟨b2, 0, none⟩)) v, fun v _ => @Eq Value (.pointer (some ⟨b2, 0, none⟩)) v, fun v _ => @Eq Value (.int .i64 a2_0) v, fun v _ => @Eq Value (.pointer (some ⟨b2, 0, none⟩)) v, fun v _ => @Eq Value (.pointer (some ⟨b2, 0, none⟩)) v, fun v _ => @Eq Value (.pointer (some ⟨b2, 1, none⟩)) v, fun v _ => @Eq Value (.int .i64 a2_1) v, fun v _ => @Eq Value (.int .i64 (IntKind.wrap .i64 (a2_0 + a2_1))) v, fun v _ => @Eq Value (.int .i64 (IntKind.wrap .i64 (a0_0 * (IntKind.wrap .i64 (a2_0 + a2_1))))) v, fun v _ => @Eq Value (.int .i64 (IntKind.wrap .i64 (a0_0 * (IntKind.wrap .i64 (a2_0 + a2_1))))) v] [[], [0], [1], [2], [], [4], [5], [6], [], [8], [9], [10], [7, 11], [3, 12], [13]] [14] Try.mixed (by decide +kernel) (by decide +kernel) rfl rfl rfl ?_ ?_
  · refine ⟨⟨rfl, ?_⟩, ⟨rfl, ?_⟩, ⟨rfl, ?_⟩, ⟨rfl, ?_⟩, ⟨rfl, ?_⟩, ⟨rfl, ?_⟩, ⟨rfl, ?_⟩, ⟨rfl, ?_⟩, ⟨rfl, ?_⟩, ⟨rfl, ?_⟩, ⟨rfl, ?_⟩, ⟨rfl, ?_⟩, ⟨rfl, ?_⟩, ⟨rfl, ?_⟩, ⟨rfl, ?_⟩, trivial⟩
    · rintro _ rfl
      refine Dep.nil ?_
      refine GuardOK.none rfl ?_
      exact OpV.toD (opv_move rfl rfl) rfl
    · rintro _ rfl _ rfl
      refine Dep.nil ?_
      refine GuardOK.none rfl ?_
      exact OpV.toD (opv_nilCheck rfl rfl) rfl
    · rintro _ rfl _ rfl
      refine Dep.nil ?_
      refine GuardOK.none rfl ?_
      exact OpV.toD (opv_fieldAddr rfl Try.fo31_0 rfl) rfl
    · rintro _ rfl _ rfl
      refine Dep.nil ?_
      refine GuardOK.none rfl ?_
      exact OpV.toD (opv_loadB rfl Try.one2 rfl (Bx.mod G0 X_1 nobB) rfl) rfl
    · rintro _ rfl
      refine Dep.nil ?_
      refine GuardOK.none rfl ?_
      exact OpV.toD (opv_move rfl rfl) rfl
    · rintro _ rfl _ rfl
      refine Dep.nil ?_
      refine GuardOK.none rfl ?_
      exact OpV.toD (opv_nilCheck rfl rfl) rfl
    · rintro _ rfl _ rfl
      refine Dep.nil ?_
      refine GuardOK.none rfl ?_
      exact OpV.toD (opv_fieldAddr rfl Try.fo50_0 rfl) rfl
    · rintro _ rfl _ rfl
      refine Dep.nil ?_
      refine GuardOK.none rfl ?_
      exact OpV.toD (opv_loadB rfl Try.one2 rfl (Bx.mod G2 X_1 nobB) rfl) rfl
    · rintro _ rfl
      refine Dep.nil ?_
      refine GuardOK.none rfl ?_
      exact OpV.toD (opv_move rfl rfl) rfl
    · rintro _ rfl _ rfl
      refine Dep.nil ?_
      refine GuardOK.none rfl ?_
      exact OpV.toD (opv_nilCheck rfl rfl) rfl
    · rintro _ rfl _ rfl
      refine Dep.nil ?_
      refine GuardOK.none rfl ?_
      exact OpV.toD (opv_fieldAddr rfl Try.fo50_1 rfl) rfl
    · rintro _ rfl _ rfl
      refine Dep.nil ?_
      refine GuardOK.none rfl ?_
      exact OpV.toD (opv_loadB rfl Try.one2 rfl (Bx.mod G2 X_1 nobB) rfl) rfl
    · rintro _ rfl _ rfl _ rfl
      refine Dep.nil ?_
      refine GuardOK.none rfl ?_
      exact OpV.toD (opv_add rfl rfl rfl) rfl
    · rintro _ rfl _ rfl _ rfl
      refine Dep.nil ?_
      refine GuardOK.none rfl ?_
      exact OpV.toD (opv_mul rfl rfl rfl) rfl
    · rintro _ rfl _ rfl
      refine Dep.nil ?_
      refine GuardOK.none rfl ?_
      exact OpV.toD (opv_assign rfl rfl) rfl
  rintro _ rfl
  refine Dep.nil ?_
  show RL _ _ _ _ [] _ _
  refine RL.nil ?_
  refine thnN ?_
  refine W.seq ?_
  obtain ⟨x1, hx1, hp⟩ := Option.bind_eq_some_iff.1 hp
  obtain ⟨c1, hp⟩ := of_ite hp
  obtain ⟨x2, hx2, hp⟩ := Option.bind_eq_some_iff.1 hp
  obtain ⟨c2, hp⟩ := of_ite hp
  obtain ⟨x3, hx3, hp⟩ := Option.bind_eq_some_iff.1 hp
  obtain ⟨c3, hp⟩ := of_ite hp
  refine W.sub (ψ := [(0, (.pointer (some ⟨b0, 0, none⟩))), (1, (.pointer (some ⟨b1, 0, none⟩))), (2, (.pointer (some ⟨b2, 0, none⟩))), (6, (.pointer (some ⟨bb1, 0, none⟩))), (7, (.int .i64 (IntKind.wrap .i64 (a0_0 * a2_0)))), (8, (.int .i64 (IntKind.wrap .i64 (a0_0 * (IntKind.wrap .i64 (a2_0 + a2_1))))))]) ⟨rfl, rfl, rfl, rfl, rfl, rfl, trivial⟩ ?_
  refine W.regionM [fun v h => ∃ g_1, @Eq Value v (.slice (some ⟨g_1, 0, none⟩) 0 0) ∧ Sep [] hp1.size h [ownO (kF .f32) 25 (.slice (some ⟨g_1, 0, none⟩) 0 0) ([] : List (Option Nat))], fun v _ => @Eq Value (.pointer (some ⟨b1, 0, none⟩)) v, fun v _ => @Eq Value (.pointer (some ⟨b1, 0, none⟩)) v, fun v _ => @Eq Value (.pointer (some ⟨b1, 0, none⟩)) v, fun v _ => @Eq Value u1_0 v, fun v _ => @Eq Value (.int .i64 (IntKind.wrap .i64 (a0_0 * a2_0))) v, fun v _ => @Eq Value (.int .i64 (IntKind.wrap .i64 (a0_0 * (IntKind.wrap .i64 (a2_0 + a2_1))))) v, fun v _ => SL (kF .f32) h0.size h0 v x1, fun v h => Sep [] hp1.size h [ownO (kF .f32) 25 v x1], fun v h => ∃ g_2, @Eq Value v (.slice (some ⟨g_2, 0, none⟩) 0 0) ∧ Sep [] hp1.size h [ownO (kF .f32) 25 (.slice (some ⟨g_2, 0, none⟩) 0 0) ([] : List (Option Nat))], fun v _ => @Eq Value (.pointer (some ⟨b1, 0, none⟩)) v, fun v _ => @Eq Value (.pointer (some ⟨b1, 0, none⟩)) v, fun v _ => @Eq Value (.pointer (some ⟨b1, 1, none⟩)) v, fun v _ => @Eq Value u1_1 v, fun v _ => @Eq Value (.int .i64 (IntKind.wrap .i64 (a0_0 * a2_0))) v, fun v _ => @Eq Value (.int .i64 (IntKind.wrap .i64 (a0_0 * (IntKind.wrap .i64 (a2_0 + a2_1))))) v, fun v _ => SL (kF .f32) h0.size h0 v x2, fun v h => Sep [] hp1.size h [ownO (kF .f32) 25 v x2], fun v h => ∃ g_3, @Eq Value v (.slice (some ⟨g_3, 0, none⟩) 0 0) ∧ Sep [] hp1.size h [ownO (kF .f32) 25 (.slice (some ⟨g_3, 0, none⟩) 0 0) ([] : List (Option Nat))], fun v _ => @Eq Value (.pointer (some ⟨b1, 0, none⟩)) v, fun v _ => @Eq Value (.pointer (some ⟨b1, 0, none⟩)) v, fun v _ => @Eq Value (.pointer (some ⟨b1, 2, none⟩)) v, fun v _ => @Eq Value u1_2 v, fun v _ => @Eq Value (.int .i64 (IntKind.wrap .i64 (a0_0 * a2_0))) v, fun v _ => @Eq Value (.int .i64 (IntKind.wrap .i64 (a0_0 * (IntKind.wrap .i64 (a2_0 + a2_1))))) v, fun v _ => SL (kF .f32) h0.size h0 v x3, fun v h => Sep [] hp1.size h [ownO (kF .f32) 25 v x3]] [some (fun u => [u.ownBlock]), none, none, none, none, none, none, none, some (fun u => [u.ownBlock]), some (fun u => [u.ownBlock]), none, none, none, none, none, none, none, some (fun u => [u.ownBlock]), some (fun u => [u.ownBlock]), none, none, none, none, none, none, none, some (fun u => [u.ownBlock])] [] [[], [], [1], [2], [3], [], [], [4, 5, 6], [0, 7], [], [], [10], [11], [12], [], [], [13, 14, 15], [9, 16], [], [], [19], [20], [21], [], [], [22, 23, 24], [18, 25]] [8, 17, 26] Try.mixed (by decide +kernel) (by decide +kernel) rfl rfl rfl (by decide +kernel) rfl ⟨fun _ _ _ ⟨b, e, h⟩ x => ⟨b, e, h.ext x⟩, fun _ _ _ h _ => h, fun _ _ _ h _ => h, fun _ _ _ h _ => h, fun _ _ _ h _ => h, fun _ _ _ h _ => h, fun _ _ _ h _ => h, fun _ _ _ h _ => h, fun _ _ _ h x => h.ext x, fun _ _ _ ⟨b, e, h⟩ x => ⟨b, e, h.ext x⟩, fun _ _ _ h _ => h, fun _ _ _ h _ => h, fun _ _ _ h _ => h, fun _ _ _ h _ => h, fun _ _ _ h _ => h, fun _ _ _ h _ => h, fun _ _ _ h _ => h, fun _ _ _ h x => h.ext x, fun _ _ _ ⟨b, e, h⟩ x => ⟨b, e, h.ext x⟩, fun _ _ _ h _ => h, fun _ _ _ h _ => h, fun _ _ _ h _ => h, fun _ _ _ h _ => h, fun _ _ _ h _ => h, fun _ _ _ h _ => h, fun _ _ _ h _ => h, fun _ _ _ h x => h.ext x, trivial⟩ ?_ ?_
  · refine ⟨⟨rfl, ?_⟩, ⟨rfl, ?_⟩, ⟨rfl, ?_⟩, ⟨rfl, ?_⟩, ⟨rfl, ?_⟩, ⟨rfl, ?_⟩, ⟨rfl, ?_⟩, ⟨rfl, ?_⟩, ⟨rfl, ?_⟩, ⟨rfl, ?_⟩, ⟨rfl, ?_⟩, ⟨rfl, ?_⟩, ⟨rfl, ?_⟩, ⟨rfl, ?_⟩, ⟨rfl, ?_⟩, ⟨rfl, ?_⟩, ⟨rfl, ?_⟩, ⟨rfl, ?_⟩, ⟨rfl, ?_⟩, ⟨rfl, ?_⟩, ⟨rfl, ?_⟩, ⟨rfl, ?_⟩, ⟨rfl, ?_⟩, ⟨rfl, ?_⟩, ⟨rfl, ?_⟩, ⟨rfl, ?_⟩, ⟨rfl, ?_⟩, trivial⟩
    · rintro hp9 E_1
      refine Dep.nil ?_
      refine GuardOK.none rfl ?_
      exact OpV.mono (opS_lit00 (K := (kF .f32)) rfl Try.underlying22 Try.isinfo25) (by rintro _ _ ⟨b_, rfl, M_, T_⟩; exact ⟨Mod.ext M_, ⟨b_, rfl, Sep.weak T_ (Ext.size E_1)⟩, Sep.fresh T_⟩)
    · rintro hp10 E_2
      refine Dep.nil ?_
      refine GuardOK.none rfl ?_
      exact OpV.toDx (opv_move rfl rfl) rfl
    · rintro hp11 E_3 _ rfl
      refine Dep.nil ?_
      refine GuardOK.none rfl ?_
      exact OpV.toDx (opv_nilCheck rfl rfl) rfl
    · rintro hp12 E_4 _ rfl
      refine Dep.nil ?_
      refine GuardOK.none rfl ?_
      exact OpV.toDx (opv_fieldAddr rfl Try.fo28_0 rfl) rfl
    · rintro hp13 E_5 _ rfl
      refine Dep.nil ?_
      refine GuardOK.none rfl ?_
      exact OpV.toDx (opv_loadB rfl Try.one22 rfl (Bx.mod G1 (Mod.lift X_1 E_5) nobB) rfl) rfl
    · rintro hp14 E_6
      refine Dep.nil ?_
      refine GuardOK.none rfl ?_
      exact OpV.toDx (opv_move rfl rfl) rfl
    · rintro hp15 E_7
      refine Dep.nil ?_
      refine GuardOK.none rfl ?_
      exact OpV.toDx (opv_move rfl rfl) rfl
    · rintro hp16 E_8 _ rfl _ rfl _ rfl
      refine Dep.nil ?_
      refine GuardOK.none rfl ?_
      exact OpV.toSx (opv_cut (K := (kF .f32)) rfl Try.underlying22 (by rw [Try.size25]; rfl) rfl (.inr ⟨_, _, rfl, rfl⟩) (.inr ⟨_, _, rfl, rfl⟩) (SL.mod g1_0 (Mod.lift X_1 E_8) (Nat.le_refl _) nob) hx1) (fun _ h => SL.back h (Mod.lift X_1 E_8) (Nat.le_refl _) nob)
    · rintro hp17 E_9 _ ⟨g_1, rfl, T_2⟩ v1 fv1
      refine Dep.nil ?_
      refine GuardOK.none rfl ?_
      exact OpV.mono (opS_append0 (K := (kF .f32)) rfl Try.underlying22 Try.einfo25 rfl rfl rfl rfl (Sep.at (o := ownO (kF .f32) 25 (.slice (some ⟨g_1, 0, none⟩) 0 0) ([] : List (Option Nat))) T_2 0 rfl) (SL.mod fv1 (Mod.lift X_1 E_9) (Nat.le_refl _) nob) (by decide) (by decide) c1) (by rintro _ _ ⟨M_, T_⟩; exact ⟨Mod.ext M_, Sep.weak T_ (Ext.size E_9), Sep.fresh T_⟩)
    · rintro hp18 E_10
      refine Dep.nil ?_
      refine GuardOK.none rfl ?_
      exact OpV.mono (opS_lit00 (K := (kF .f32)) rfl Try.underlying22 Try.isinfo25) (by rintro _ _ ⟨b_, rfl, M_, T_⟩; exact ⟨Mod.ext M_, ⟨b_, rfl, Sep.weak T_ (Ext.size E_10)⟩, Sep.fresh T_⟩)
    · rintro hp19 E_11
      refine Dep.nil ?_
      refine GuardOK.none rfl ?_
      exact OpV.toDx (opv_move rfl rfl) rfl
    · rintro hp20 E_12 _ rfl
      refine Dep.nil ?_
      refine GuardOK.none rfl ?_
      exact OpV.toDx (opv_nilCheck rfl rfl) rfl
    · rintro hp21 E_13 _ rfl
      refine Dep.nil ?_
      refine GuardOK.none rfl ?_
      exact OpV.toDx (opv_fieldAddr rfl Try.fo28_1 rfl) rfl
    · rintro hp22 E_14 _ rfl
      refine Dep.nil ?_
      refine GuardOK.none rfl ?_
      exact OpV.toDx (opv_loadB rfl Try.one22 rfl (Bx.mod G1 (Mod.lift X_1 E_14) nobB) rfl) rfl
    · rintro hp23 E_15
      refine Dep.nil ?_
      refine GuardOK.none rfl ?_
      exact OpV.toDx (opv_move rfl rfl) rfl
    · rintro hp24 E_16
      refine Dep.nil ?_
      refine GuardOK.none rfl ?_
      exact OpV.toDx (opv_move rfl rfl) rfl
    · rintro hp25 E_17 _ rfl _ rfl _ rfl
      refine Dep.nil ?_
      refine GuardOK.none rfl ?_
      exact OpV.toSx (opv_cut (K := (kF .f32)) rfl Try.underlying22 (by rw [Try.size25]; rfl) rfl (.inr ⟨_, _, rfl, rfl⟩) (.inr ⟨_, _, rfl, rfl⟩) (SL.mod g1_1 (Mod.lift X_1 E_17) (Nat.le_refl _) nob) hx2) (fun _ h => SL.back h (Mod.lift X_1 E_17) (Nat.le_refl _) nob)
    · rintro hp26 E_18 _ ⟨g_2, rfl, T_4⟩ v3 fv3
      refine Dep.nil ?_
      refine GuardOK.none rfl ?_
      exact OpV.mono (opS_append0 (K := (kF .f32)) rfl Try.underlying22 Try.einfo25 rfl rfl rfl rfl (Sep.at (o := ownO (kF .f32) 25 (.slice (some ⟨g_2, 0, none⟩) 0 0) ([] : List (Option Nat))) T_4 0 rfl) (SL.mod fv3 (Mod.lift X_1 E_18) (Nat.le_refl _) nob) (by decide) (by decide) c2) (by rintro _ _ ⟨M_, T_⟩; exact ⟨Mod.ext M_, Sep.weak T_ (Ext.size E_18), Sep.fresh T_⟩)
    · rintro hp27 E_19
      refine Dep.nil ?_
      refine GuardOK.none rfl ?_
      exact OpV.mono (opS_lit00 (K := (kF .f32)) rfl Try.underlying22 Try.isinfo25) (by rintro _ _ ⟨b_, rfl, M_, T_⟩; exact ⟨Mod.ext M_, ⟨b_, rfl, Sep.weak T_ (Ext.size E_19)⟩, Sep.fresh T_⟩)
    · rintro hp28 E_20
      refine Dep.nil ?_
      refine GuardOK.none rfl ?_
      exact OpV.toDx (opv_move rfl rfl) rfl
    · rintro hp29 E_21 _ rfl
      refine Dep.nil ?_
      refine GuardOK.none rfl ?_
      exact OpV.toDx (opv_nilCheck rfl rfl) rfl
    · rintro hp30 E_22 _ rfl
      refine Dep.nil ?_
      refine GuardOK.none rfl ?_
      exact OpV.toDx (opv_fieldAddr rfl Try.fo28_2 rfl) rfl
    · rintro hp31 E_23 _ rfl
      refine Dep.nil ?_
      refine GuardOK.none rfl ?_
      exact OpV.toDx (opv_loadB rfl Try.one22 rfl (Bx.mod G1 (Mod.lift X_1 E_23) nobB) rfl) rfl
    · rintro hp32 E_24
      refine Dep.nil ?_
      refine GuardOK.none rfl ?_
      exact OpV.toDx (opv_move rfl rfl) rfl
    · rintro hp33 E_25
      refine Dep.nil ?_
      refine GuardOK.none rfl ?_
      exact OpV.toDx (opv_move rfl rfl) rfl
    · rintro hp34 E_26 _ rfl _ rfl _ rfl
      refine Dep.nil ?_
      refine GuardOK.none rfl ?_
      exact OpV.toSx (opv_cut (K := (kF .f32)) rfl Try.underlying22 (by rw [Try.size25]; rfl) rfl (.inr ⟨_, _, rfl, rfl⟩) (.inr ⟨_, _, rfl, rfl⟩) (SL.mod g1_2 (Mod.lift X_1 E_26) (Nat.le_refl _) nob) hx3) (fun _ h => SL.back h (Mod.lift X_1 E_26) (Nat.le_refl _) nob)
    · rintro hp35 E_27 _ ⟨g_3, rfl, T_6⟩ v5 fv5
      refine Dep.nil ?_
      refine GuardOK.none rfl ?_
      exact OpV.mono (opS_append0 (K := (kF .f32)) rfl Try.underlying22 Try.einfo25 rfl rfl rfl rfl (Sep.at (o := ownO (kF .f32) 25 (.slice (some ⟨g_3, 0, none⟩) 0 0) ([] : List (Option Nat))) T_6 0 rfl) (SL.mod fv5 (Mod.lift X_1 E_27) (Nat.le_refl _) nob) (by decide) (by decide) c3) (by rintro _ _ ⟨M_, T_⟩; exact ⟨Mod.ext M_, Sep.weak T_ (Ext.size E_27), Sep.fresh T_⟩)
  rintro hp36 E_28 v2 T_3 v4 T_5 v6 T_7
  refine DepM.nil ?_
  intro PW_1 LK_
  have X_9 := Mod.lift X_1 E_28
  have S_10 := Sep.join S_1 (Mod.size X_1) (Ext.mod E_28 []) (Sep.both T_3 (Sep.both T_5 T_7 (Apt.symm (Apt.of PW_1 0 1 rfl rfl (by decide)))) (Apt.cat' (Apt.symm (Apt.of PW_1 1 2 rfl rfl (by decide))) (Apt.symm (Apt.of PW_1 0 2 rfl rfl (by decide)))))
  show RL _ _ _ _ (_ :: _) _ _
  refine RL.opD (by decide) (opv_build (cs := [v2, v4, v6]) [(0, [v2]), (1, [v4]), (2, [v6])] [(0, v2), (1, v4), (2, v6)] rfl Try.bd28 ⟨⟨rfl, rfl, rfl, cells1 (ownO.one (Sep.at (o := ownO (kF .f32) 25 v2 x1) S_10 0 rfl))⟩, ⟨rfl, rfl, rfl, cells1 (ownO.one (Sep.at (o := ownO (kF .f32) 25 v4 x2) S_10 1 rfl))⟩, ⟨rfl, rfl, rfl, cells1 (ownO.one (Sep.at (o := ownO (kF .f32) 25 v6 x3) S_10 2 rfl))⟩, trivial⟩ rfl) ?_
  refine RL.op0 _ (opS_stored (cs := [(.slice none 0 0), (.slice none 0 0), (.slice none 0 0)]) (cs' := [v2, v4, v6]) (opv_storeA (us := [v2, v4, v6]) rfl Try.size28 rfl rfl (oneAll (ownO.one (Sep.at (o := ownO (kF .f32) 25 v2 x1) S_10 0 rfl)) (oneAll (ownO.one (Sep.at (o := ownO (kF .f32) 25 v4 x2) S_10 1 rfl)) (oneAll (ownO.one (Sep.at (o := ownO (kF .f32) 25 v6 x3) S_10 2 rfl)) rfl))) (Sep.at (o := boxO bb1 [(.slice none 0 0), (.slice none 0 0), (.slice none 0 0)]) S_10 3 rfl) rfl rfl) (Sep.at (o := boxO bb1 [(.slice none 0 0), (.slice none 0 0), (.slice none 0 0)]) S_10 3 rfl)) ?_
  rintro _ hp37 ⟨rfl, MT_9, T_9⟩
  have S_11 : Sep [] h0.size hp36 ([boxO bb1 [(.slice none 0 0), (.slice none 0 0), (.slice none 0 0)]] ++ [ownO (kF .f32) 25 v2 x1, ownO (kF .f32) 25 v4 x2, ownO (kF .f32) 25 v6 x3]) := Sep.sel S_10 [3, 0, 1, 2] (by decide)
  obtain ⟨X_10, S_12⟩ := Sep.turn X_9 S_11 MT_9 T_9
  refine RL.nil ?_
  refine thnN ?_
  refine W.ret ?_
  have er := Option.some.inj hp
  subst er
  exact Rt.cell1 rfl rfl Try.agg28 Try.size28 (Sep.at (o := boxO bb1 [v2, v4, v6]) S_12 0 rfl) rfl ⟨v2, v4, v6, rfl, X_10, (Sep.sel S_12 [1, 2, 3] (by decide))⟩

set_option maxRecDepth 20000 in
theorem spec_StepStrip_ok (h0 : Heap) (a0_0 : Int) (a0_1 : Int) (a0_2 : Bool) (u0_3 : Value) (a0_3 : List (Option Nat)) (g0_3 : SL (kF .f32) h0.size h0 u0_3 a0_3) (u0_4 : Value) (a0_4 : List (Option Nat)) (g0_4 : SL (kF .f32) h0.size h0 u0_4 a0_4) (u1_0 : Value) (a1_0 : List (Option Nat)) (g1_0 : SL (kF .f32) h0.size h0 u1_0 a1_0) (u1_1 : Value) (a1_1 : List (Option Nat)) (g1_1 : SL (kF .f32) h0.size h0 u1_1 a1_1) (u1_2 : Value) (a1_2 : List (Option Nat)) (g1_2 : SL (kF .f32) h0.size h0 u1_2 a1_2) (a2_0 : Int) (a2_1 : Int) (r : ((List (Option Nat)) × (List (Option Nat)) × (List (Option Nat)) × Bool)) (hp : spec_StepStrip a0_0 a0_1 a0_2 a0_3 a0_4 a1_0 a1_1 a1_2 a2_0 a2_1 = some r) : CallsH Try.prog 28 ([(.agg (List.toArray (α := Value) [(.int .i64 a0_0), (.int .i64 a0_1), (.bool a0_2), u0_3, u0_4])), (.agg (List.toArray (α := Value) [u1_0, u1_1, u1_2])), (.agg (List.toArray (α := Value) [(.int .i64 a2_0), (.int .i64 a2_1)]))].toArray ++ [].toArray) h0 (fun v h' => ∃ w0, ∃ w1, ∃ w2, v = (.tuple (List.toArray (α := Value) [(.agg (List.toArray (α := Value) [w0, w1, w2])), (.bool r.2.2.2)])) ∧ Mod [] h0 h' ∧ Sep [] h0.size h' [ownO (kF .f32) 25 w0 r.1, ownO (kF .f32) 25 w1 r.2.1, ownO (kF .f32) 25 w2 r.2.2.1]) := by
  unfold spec_StepStrip at hp
  refine callsH_of_W (l := [(.agg (List.toArray (α := Value) [(.int .i64 a0_0), (.int .i64 a0_1), (.bool a0_2), u0_3, u0_4])), (.agg (List.toArray (α := Value) [u1_0, u1_1, u1_2])), (.agg (List.toArray (α := Value) [(.int .i64 a2_0), (.int .i64 a2_1)]))]) (cap := []) 18 Try.func28 rfl rfl rfl ?_
  refine W.seq ?_
  refine W.region ?_
  refine RL.op _ (by decide) (opS_boxed (opv_boxA (cs := [(.int .i64 a0_0), (.int .i64 a0_1), (.bool a0_2), u0_3, u0_4]) rfl rfl)) ?_
  rintro _ hp1 ⟨bb1, rfl, MT_1, T_1⟩
  obtain ⟨X_1, S_1⟩ := Sep.turn0 (Mod.refl [] h0) (Sep.nil [] h0.size h0) MT_1 T_1
  refine RL.op _ (by decide) (opS_boxed (opv_boxA (cs := [u1_0, u1_1, u1_2]) rfl rfl)) ?_
  rintro _ hp2 ⟨bb2, rfl, MT_2, T_2⟩
  obtain ⟨X_2, S_2⟩ := Sep.turn0 X_1 S_1 MT_2 T_2
  refine RL.op _ (by decide) (opS_boxed (opv_boxA (cs := [(.int .i64 a2_0), (.int .i64 a2_1)]) rfl rfl)) ?_
  rintro _ hp3 ⟨bb3, rfl, MT_3, T_3⟩
  obtain ⟨X_3, S_3⟩ := Sep.turn0 X_2 S_2 MT_3 T_3
  refine RL.op _ (by decide) (opS_boxed (opv_alloc (cs := [(.slice none 0 0), (.slice none 0 0), (.slice none 0 0)]) rfl Try.zero28 rfl)) ?_
  rintro _ hp4 ⟨bb4, rfl, MT_4, T_4⟩
  obtain ⟨X_4, S_4⟩ := Sep.turn0 X_3 S_3 MT_4 T_4
  refine RL.opD (by decide) (opv_assign rfl rfl) ?_
  refine RL.nil ?_
  refine thnN ?_
  refine W.seq ?_
  refine W.seq ?_
  obtain ⟨x1, hy1, hp⟩ := Option.bind_eq_some_iff.1 hp
  refine W.cut (fun φ' h' => Fr.sub [(0, (.agg (List.toArray (α := Value) [(.int .i64 a0_0), (.int .i64 a0_1), (.bool a0_2), u0_3, u0_4]))), (1, (.agg (List.toArray (α := Value) [u1_0, u1_1, u1_2]))), (2, (.agg (List.toArray (α := Value) [(.int .i64 a2_0), (.int .i64 a2_1)]))), (3, (.pointer (some ⟨bb1, 0, none⟩))), (4, (.pointer (some ⟨bb2, 0, none⟩))), (5, (.pointer (some ⟨bb3, 0, none⟩))), (6, (.pointer (some ⟨bb4, 0, none⟩))), (7, (.bool false)), (14, (.bool x1))] φ' ∧ hp4 = h') ?_ ?_
  · obtain ⟨x2, hx2, hy1⟩ := Option.bind_eq_some_iff.1 hy1
    by_cases c1 : (!x2) = true
    · rw [if_pos c1] at hy1
      refine W.region ?_
      refine RL.op _ (by decide) (opv_call (cap := []) (spec_l03Both_ok _ _ _ _ _ _ _ (SL.up (SL.mod g0_3 X_4 (Nat.le_refl _) nob) (Nat.le_trans (Nat.le_refl _) (Mod.size X_4))) _ _ (SL.up (SL.mod g0_4 X_4 (Nat.le_refl _) nob) (Nat.le_trans (Nat.le_refl _) (Mod.size X_4))) (Sep.at (o := boxO bb1 [(.int .i64 a0_0), (.int .i64 a0_1), (.bool a0_2), u0_3, u0_4]) S_4 3 rfl) _ _ _ (SL.up (SL.mod g1_0 X_4 (Nat.le_refl _) nob) (Nat.le_trans (Nat.le_refl _) (Mod.size X_4))) _ _ (SL.up (SL.mod g1_1 X_4 (Nat.le_refl _) nob) (Nat.le_trans (Nat.le_refl _) (Mod.size X_4))) _ _ (SL.up (SL.mod g1_2 X_4 (Nat.le_refl _) nob) (Nat.le_trans (Nat.le_refl _) (Mod.size X_4))) (Sep.at (o := boxO bb2 [u1_0, u1_1, u1_2]) S_4 2 rfl) _ hx2) rfl rfl ⟨rfl, rfl, trivial⟩ Try.func75 rfl rfl) ?_
      rintro _ _ ⟨rfl, rfl⟩
      refine RL.opD (by decide) (opv_not rfl rfl) ?_
      refine RL.opD (by decide) (opv_move rfl rfl) ?_
      refine RL.noT rfl rfl c1 (by decide) ?_
      refine RL.noT rfl rfl c1 (by decide) ?_
      refine RL.opD (by decide) (opv_pick rfl rfl (fun _ => rfl) (fun e => absurd (Eq.trans (Eq.symm e) c1) (by decide)) rfl) ?_
      refine RL.nil ?_
      have ey1 := Option.some.inj hy1
      subst ey1
      refine onlyN ?_
      exact ⟨⟨rfl, rfl, rfl, rfl, rfl, rfl, rfl, rfl, rfl, trivial⟩, rfl⟩
    · rw [if_neg c1] at hy1
      have c1 := eq_false_of_ne_true c1
      obtain ⟨x3, hx3, hy1⟩ := Option.bind_eq_some_iff.1 hy1
      refine W.region ?_
      refine RL.op _ (by decide) (opv_call (cap := []) (spec_l03Both_ok _ _ _ _ _ _ _ (SL.up (SL.mod g0_3 X_4 (Nat.le_refl _) nob) (Nat.le_trans (Nat.le_refl _) (Mod.size X_4))) _ _ (SL.up (SL.mod g0_4 X_4 (Nat.le_refl _) nob) (Nat.le_trans (Nat.le_refl _) (Mod.size X_4))) (Sep.at (o := boxO bb1 [(.int .i64 a0_0), (.int .i64 a0_1), (.bool a0_2), u0_3, u0_4]) S_4 3 rfl) _ _ _ (SL.up (SL.mod g1_0 X_4 (Nat.le_refl _) nob) (Nat.le_trans (Nat.le_refl _) (Mod.size X_4))) _ _ (SL.up (SL.mod g1_1 X_4 (Nat.le_refl _) nob) (Nat.le_trans (Nat.le_refl _) (Mod.size X_4))) _ _ (SL.up (SL.mod g1_2 X_4 (Nat.le_refl _) nob) (Nat.le_trans (Nat.le_refl _) (Mod.size X_4))) (Sep.at (o := boxO bb2 [u1_0, u1_1, u1_2]) S_4 2 rfl) _ hx2) rfl rfl ⟨rfl, rfl, trivial⟩ Try.func75 rfl rfl) ?_
      rintro _ _ ⟨rfl, rfl⟩
      refine RL.opD (by decide) (opv_not rfl rfl) ?_
      refine RL.opD (by decide) (opv_move rfl rfl) ?_
      refine RL.yes _ rfl rfl c1 (by decide) (opv_call (cap := []) (spec_l07Is_ok _ _ _ _ _ _ _ (SL.up (SL.mod g0_3 X_4 (Nat.le_refl _) nob) (Nat.le_trans (Nat.le_refl _) (Mod.size X_4))) _ _ (SL.up (SL.mod g0_4 X_4 (Nat.le_refl _) nob) (Nat.le_trans (Nat.le_refl _) (Mod.size X_4))) (Sep.at (o := boxO bb1 [(.int .i64 a0_0), (.int .i64 a0_1), (.bool a0_2), u0_3, u0_4]) S_4 3 rfl) _ _ _ (Sep.at (o := boxO bb3 [(.int .i64 a2_0), (.int .i64 a2_1)]) S_4 1 rfl) _ hx3) rfl rfl ⟨rfl, rfl, trivial⟩ Try.func82 rfl rfl) ?_
      rintro _ _ ⟨rfl, rfl⟩
      refine RL.yesD rfl rfl c1 (by decide) (opv_not rfl rfl) ?_
      refine RL.opD (by decide) (opv_pick rfl rfl (fun e => absurd (Eq.trans (Eq.symm e) c1) (by decide)) (fun _ => rfl) rfl) ?_
      refine RL.nil ?_
      have ey1 := Option.some.inj hy1
      subst ey1
      refine onlyN ?_
      exact ⟨⟨rfl, rfl, rfl, rfl, rfl, rfl, rfl, rfl, rfl, trivial⟩, rfl⟩
  rintro φ' _ ⟨hs1, rfl⟩
  refine thnN ?_
  refine W.sub hs1 ?_
  by_cases c2 : x1 = true
  · rw [if_pos c2] at hp
    refine W.condT rfl c2 ?_
    refine W.seq ?_
    refine W.region ?_
    refine RL.opD (by decide) (opv_build (cs := [(.slice none 0 0), (.slice none 0 0), (.slice none 0 0)]) [] [] rfl Try.bd28 trivial rfl) ?_
    refine RL.op0 _ (opS_stored (cs := [(.slice none 0 0), (.slice none 0 0), (.slice none 0 0)]) (cs' := [(.slice none 0 0), (.slice none 0 0), (.slice none 0 0)]) (opv_storeA (us := [(.slice none 0 0), (.slice none 0 0), (.slice none 0 0)]) rfl Try.size28 rfl rfl (oneAll rfl (oneAll rfl (oneAll rfl rfl))) (Sep.at (o := boxO bb4 [(.slice none 0 0), (.slice none 0 0), (.slice none 0 0)]) S_4 0 rfl) rfl rfl) (Sep.at (o := boxO bb4 [(.slice none 0 0), (.slice none 0 0), (.slice none 0 0)]) S_4 0 rfl)) ?_
    rintro _ hp5 ⟨rfl, MT_5, T_5⟩
    have S_5 : Sep [] h0.size hp4 ([boxO bb4 [(.slice none 0 0), (.slice none 0 0), (.slice none 0 0)]] ++ [boxO bb3 [(.int .i64 a2_0), (.int .i64 a2_1)], boxO bb2 [u1_0, u1_1, u1_2], boxO bb1 [(.int .i64 a0_0), (.int .i64 a0_1), (.bool a0_2), u0_3, u0_4]]) := Sep.sel S_4 [0, 1, 2, 3] (by decide)
    obtain ⟨X_5, S_6⟩ := Sep.turn X_4 S_5 MT_5 T_5
    refine RL.opD (by decide) (opv_assign rfl rfl) ?_
    refine RL.nil ?_
    refine thnN ?_
    refine W.ret ?_
    refine thnR ?_
    have S_7 : Sep [] h0.size hp5 [ownO (kF .f32) 25 (.slice none 0 0) ([] : List (Option Nat)), boxO bb4 [(.slice none 0 0), (.slice none 0 0), (.slice none 0 0)], boxO bb3 [(.int .i64 a2_0), (.int .i64 a2_1)], boxO bb2 [u1_0, u1_1, u1_2], boxO bb1 [(.int .i64 a0_0), (.int .i64 a0_1), (.bool a0_2), u0_3, u0_4]] := Sep.addNil S_6
    have S_8 : Sep [] h0.size hp5 [ownO (kF .f32) 25 (.slice none 0 0) ([] : List (Option Nat)), ownO (kF .f32) 25 (.slice none 0 0) ([] : List (Option Nat)), boxO bb4 [(.slice none 0 0), (.slice none 0 0), (.slice none 0 0)], boxO bb3 [(.int .i64 a2_0), (.int .i64 a2_1)], boxO bb2 [u1_0, u1_1, u1_2], boxO bb1 [(.int .i64 a0_0), (.int .i64 a0_1), (.bool a0_2), u0_3, u0_4]] := Sep.addNil S_7
    have S_9 : Sep [] h0.size hp5 [ownO (kF .f32) 25 (.slice none 0 0) ([] : List (Option Nat)), ownO (kF .f32) 25 (.slice none 0 0) ([] : List (Option Nat)), ownO (kF .f32) 25 (.slice none 0 0) ([] : List (Option Nat)), boxO bb4 [(.slice none 0 0), (.slice none 0 0), (.slice none 0 0)], boxO bb3 [(.int .i64 a2_0), (.int .i64 a2_1)], boxO bb2 [u1_0, u1_1, u1_2], boxO bb1 [(.int .i64 a0_0), (.int .i64 a0_1), (.bool a0_2), u0_3, u0_4]] := Sep.addNil S_8
    have er := Option.some.inj hp
    subst er
    exact Rt.cellA rfl rfl rfl Try.agg28 Try.size28 (Sep.at (o := boxO bb4 [(.slice none 0 0), (.slice none 0 0), (.slice none 0 0)]) S_9 3 rfl) rfl ⟨(.slice none 0 0), (.slice none 0 0), (.slice none 0 0), rfl, X_5, (Sep.sel S_9 [2, 1, 0] (by decide))⟩
  · rw [if_neg c2] at hp
    have c2 := eq_false_of_ne_true c2
    refine W.condF rfl c2 ?_
    refine W.skip ?_
    refine thnN ?_
    refine W.seq ?_
    obtain ⟨x4, hx4, hp⟩ := Option.bind_eq_some_iff.1 hp
    refine W.region ?_
    refine RL.op _ (by decide) (opv_call (cap := []) (spec_l03Step_ok _ _ _ _ _ _ _ (SL.up (SL.mod g0_3 X_4 (Nat.le_refl _) nob) (Nat.le_trans (Nat.le_refl _) (Mod.size X_4))) _ _ (SL.up (SL.mod g0_4 X_4 (Nat.le_refl _) nob) (Nat.le_trans (Nat.le_refl _) (Mod.size X_4))) (Sep.at (o := boxO bb1 [(.int .i64 a0_0), (.int .i64 a0_1), (.bool a0_2), u0_3, u0_4]) S_4 3 rfl) _ _ _ (SL.up (SL.mod g1_0 X_4 (Nat.le_refl _) nob) (Nat.le_trans (Nat.le_refl _) (Mod.size X_4))) _ _ (SL.up (SL.mod g1_1 X_4 (Nat.le_refl _) nob) (Nat.le_trans (Nat.le_refl _) (Mod.size X_4))) _ _ (SL.up (SL.mod g1_2 X_4 (Nat.le_refl _) nob) (Nat.le_trans (Nat.le_refl _) (Mod.size X_4))) (Sep.at (o := boxO bb2 [u1_0, u1_1, u1_2]) S_4 2 rfl) _ hx4) rfl rfl ⟨rfl, rfl, trivial⟩ Try.func83 rfl rfl) ?_
    rintro _ hp6 ⟨v1, v2, v3, rfl, MT_6, T_6⟩
    obtain ⟨X_6, S_10⟩ := Sep.turn0 X_4 S_4 MT_6 T_6
    refine RL.op _ (by decide) (opS_boxed (opv_alloc (cs := [(.slice none 0 0), (.slice none 0 0), (.slice none 0 0)]) rfl Try.zero28 rfl)) ?_
    rintro _ hp7 ⟨bb5, rfl, MT_7, T_7⟩
    obtain ⟨X_7, S_11⟩ := Sep.turn0 X_6 S_10 MT_7 T_7
    refine RL.op0 _ (opS_stored (cs := [(.slice none 0 0), (.slice none 0 0), (.slice none 0 0)]) (cs' := [v1, v2, v3]) (opv_storeA (us := [v1, v2, v3]) rfl Try.size28 rfl rfl (oneAll (ownO.one (Sep.at (o := ownO (kF .f32) 25 v1 x4.1) S_11 1 rfl)) (oneAll (ownO.one (Sep.at (o := ownO (kF .f32) 25 v2 x4.2.1) S_11 2 rfl)) (oneAll (ownO.one (Sep.at (o := ownO (kF .f32) 25 v3 x4.2.2) S_11 3 rfl)) rfl))) (Sep.at (o := boxO bb5 [(.slice none 0 0), (.slice none 0 0), (.slice none 0 0)]) S_11 0 rfl) rfl rfl) (Sep.at (o := boxO bb5 [(.slice none 0 0), (.slice none 0 0), (.slice none 0 0)]) S_11 0 rfl)) ?_
    rintro _ hp8 ⟨rfl, MT_8, T_8⟩
    have S_12 : Sep [] h0.size hp7 ([boxO bb5 [(.slice none 0 0), (.slice none 0 0), (.slice none 0 0)]] ++ [ownO (kF .f32) 25 v1 x4.1, ownO (kF .f32) 25 v2 x4.2.1, ownO (kF .f32) 25 v3 x4.2.2, boxO bb4 [(.slice none 0 0), (.slice none 0 0), (.slice none 0 0)], boxO bb3 [(.int .i64 a2_0), (.int .i64 a2_1)], boxO bb2 [u1_0, u1_1, u1_2], boxO bb1 [(.int .i64 a0_0), (.int .i64 a0_1), (.bool a0_2), u0_3, u0_4]]) := Sep.sel S_11 [0, 1, 2, 3, 4, 5, 6, 7] (by decide)
    obtain ⟨X_8, S_13⟩ := Sep.turn X_7 S_12 MT_8 T_8
    refine RL.nil ?_
    refine thnN ?_
    refine W.seq ?_
    obtain ⟨x5, hx5, hp⟩ := Option.bind_eq_some_iff.1 hp
    refine W.region ?_
    refine RL.op _ (by decide) (opv_call (cap := []) (spec_l07Cut_ok _ _ _ _ _ _ _ (SL.up (SL.mod g0_3 X_8 (Nat.le_refl _) nob) (Nat.le_trans (Nat.le_refl _) (Mod.size X_8))) _ _ (SL.up (SL.mod g0_4 X_8 (Nat.le_refl _) nob) (Nat.le_trans (Nat.le_refl _) (Mod.size X_8))) (Sep.at (o := boxO bb1 [(.int .i64 a0_0), (.int .i64 a0_1), (.bool a0_2), u0_3, u0_4]) S_13 7 rfl) _ _ _ (ownO.read (Sep.at (o := ownO (kF .f32) 25 v1 x4.1) S_13 1 rfl)) _ _ (ownO.read (Sep.at (o := ownO (kF .f32) 25 v2 x4.2.1) S_13 2 rfl)) _ _ (ownO.read (Sep.at (o := ownO (kF .f32) 25 v3 x4.2.2) S_13 3 rfl)) (Sep.at (o := boxO bb5 [v1, v2, v3]) S_13 0 rfl) _ _ _ (Sep.at (o := boxO bb3 [(.int .i64 a2_0), (.int .i64 a2_1)]) S_13 5 rfl) _ hx5) rfl rfl ⟨rfl, rfl, rfl, trivial⟩ Try.func84 rfl rfl) ?_
    rintro _ hp9 ⟨v4, v5, v6, rfl, MT_9, T_9⟩
    obtain ⟨X_9, S_14⟩ := Sep.turn0 X_8 S_13 MT_9 T_9
    refine RL.op0 _ (opS_stored (cs := [(.slice none 0 0), (.slice none 0 0), (.slice none 0 0)]) (cs' := [v4, v5, v6]) (opv_storeA (us := [v4, v5, v6]) rfl Try.size28 rfl rfl (oneAll (ownO.one (Sep.at (o := ownO (kF .f32) 25 v4 x5.1) S_14 0 rfl)) (oneAll (ownO.one (Sep.at (o := ownO (kF .f32) 25 v5 x5.2.1) S_14 1 rfl)) (oneAll (ownO.one (Sep.at (o := ownO (kF .f32) 25 v6 x5.2.2) S_14 2 rfl)) rfl))) (Sep.at (o := boxO bb4 [(.slice none 0 0), (.slice none 0 0), (.slice none 0 0)]) S_14 7 rfl) rfl rfl) (Sep.at (o := boxO bb4 [(.slice none 0 0), (.slice none 0 0), (.slice none 0 0)]) S_14 7 rfl)) ?_
    rintro _ hp10 ⟨rfl, MT_10, T_10⟩
    have S_15 : Sep [] h0.size hp9 ([boxO bb4 [(.slice none 0 0), (.slice none 0 0), (.slice none 0 0)]] ++ [ownO (kF .f32) 25 v4 x5.1, ownO (kF .f32) 25 v5 x5.2.1, ownO (kF .f32) 25 v6 x5.2.2, boxO bb5 [v1, v2, v3], ownO (kF .f32) 25 v1 x4.1, ownO (kF .f32) 25 v2 x4.2.1, ownO (kF .f32) 25 v3 x4.2.2, boxO bb3 [(.int .i64 a2_0), (.int .i64 a2_1)], boxO bb2 [u1_0, u1_1, u1_2], boxO bb1 [(.int .i64 a0_0), (.int .i64 a0_1), (.bool a0_2), u0_3, u0_4]]) := Sep.sel S_14 [7, 0, 1, 2, 3, 4, 5, 6, 8, 9, 10] (by decide)
    obtain ⟨X_10, S_16⟩ := Sep.turn X_9 S_15 MT_10 T_10
    refine RL.opD (by decide) (opv_assign rfl rfl) ?_
    refine RL.nil ?_
    refine thnN ?_
    refine W.ret ?_
    have er := Option.some.inj hp
    subst er
    exact Rt.cellA rfl rfl rfl Try.agg28 Try.size28 (Sep.at (o := boxO bb4 [v4, v5, v6]) S_16 0 rfl) rfl ⟨v4, v5, v6, rfl, X_10, (Sep.sel S_16 [1, 2, 3] (by decide))⟩

set_option maxRecDepth 20000 in
theorem impl_IsStrip_ok (h0 : Heap) (a0_0 : Int) (a0_1 : Int) (a0_2 : Bool) (u0_3 : Value) (a0_3 : List (Option Nat)) (g0_3 : SL (kF .f32) h0.size h0 u0_3 a0_3) (u0_4 : Value) (a0_4 : List (Option Nat)) (g0_4 : SL (kF .f32) h0.size h0 u0_4 a0_4) (a1_0 : Int) (a1_1 : Int) (r : Bool) (hp : impl_IsStrip a0_0 a0_1 a0_2 a0_3 a0_4 a1_0 a1_1 = some r) : CallsH Try.prog 85 ([(.agg (List.toArray (α := Value) [(.int .i64 a0_0), (.int .i64 a0_1), (.bool a0_2), u0_3, u0_4])), (.agg (List.toArray (α := Value) [(.int .i64 a1_0), (.int .i64 a1_1)]))].toArray ++ [].toArray) h0 (fun v h' => v = (.bool r) ∧ Mod [] h0 h' ∧ Sep [] h0.size h' []) := by
  unfold impl_IsStrip at hp
  refine callsH_of_W (l := [(.agg (List.toArray (α := Value) [(.int .i64 a0_0), (.int .i64 a0_1), (.bool a0_2), u0_3, u0_4])), (.agg (List.toArray (α := Value) [(.int .i64 a1_0), (.int .i64 a1_1)]))]) (cap := []) 25 Try.func85 rfl rfl rfl ?_
  refine W.seq ?_
  refine W.region ?_
  refine RL.op _ (by decide) (opS_boxed (opv_boxA (cs := [(.int .i64 a0_0), (.int .i64 a0_1), (.bool a0_2), u0_3, u0_4]) rfl rfl)) ?_
  rintro _ hp1 ⟨bb1, rfl, MT_1, T_1⟩
  obtain ⟨X_1, S_1⟩ := Sep.turn0 (Mod.refl [] h0) (Sep.nil [] h0.size h0) MT_1 T_1
  refine RL.op _ (by decide) (opS_boxed (opv_boxA (cs := [(.int .i64 a1_0), (.int .i64 a1_1)]) rfl rfl)) ?_
  rintro _ hp2 ⟨bb2, rfl, MT_2, T_2⟩
  obtain ⟨X_2, S_2⟩ := Sep.turn0 X_1 S_1 MT_2 T_2
  refine RL.opD (by decide) (opv_assign rfl rfl) ?_
  refine RL.nil ?_
  refine thnN ?_
  refine W.seq ?_
  obtain ⟨x1, hy1, hp⟩ := Option.bind_eq_some_iff.1 hp
  refine W.cut (fun φ' h' => Fr.sub [(0, (.agg (List.toArray (α := Value) [(.int .i64 a0_0), (.int .i64 a0_1), (.bool a0_2), u0_3, u0_4]))), (1, (.agg (List.toArray (α := Value) [(.int .i64 a1_0), (.int .i64 a1_1)]))), (2, (.pointer (some ⟨bb1, 0, none⟩))), (3, (.pointer (some ⟨bb2, 0, none⟩))), (4, (.bool x1))] φ' ∧ Mod [] h0 h' ∧ Sep [] h0.size h' [boxO bb2 [(.int .i64 a1_0), (.int .i64 a1_1)], boxO bb1 [(.int .i64 a0_0), (.int .i64 a0_1), (.bool a0_2), u0_3, u0_4]]) ?_ ?_
  · obtain ⟨x2, hx2, hy1⟩ := Option.bind_eq_some_iff.1 hy1
    by_cases c1 : x2 = true
    · rw [if_pos c1] at hy1
      obtain ⟨x3, hx3, hy1⟩ := Option.bind_eq_some_iff.1 hy1
      by_cases c2 : x3 = true
      · rw [if_pos c2] at hy1
        obtain ⟨x4, hx4, hy1⟩ := Option.bind_eq_some_iff.1 hy1
        refine W.region ?_
        refine RL.opD (by decide) (opv_loadA (us := [(.int .i64 a0_0), (.int .i64 a0_1), (.bool a0_2), u0_3, u0_4]) rfl Try.agg31 Try.size31 rfl (Sep.at (o := boxO bb1 [(.int .i64 a0_0), (.int .i64 a0_1), (.bool a0_2), u0_3, u0_4]) S_2 1 rfl) rfl rfl) ?_
        refine RL.op _ (by decide) (opv_call (cap := []) (impl_ValidSheet_ok _ _ _ _ _ _ (SL.up (SL.mod g0_3 X_2 (Nat.le_refl _) nob) (Nat.le_trans (Nat.le_refl _) (Mod.size X_2))) _ _ (SL.up (SL.mod g0_4 X_2 (Nat.le_refl _) nob) (Nat.le_trans (Nat.le_refl _) (Mod.size X_2))) _ hx2) rfl rfl ⟨rfl, trivial⟩ Try.func60 rfl rfl) ?_
        rintro _ hp3 ⟨rfl, MT_3, T_3⟩
        obtain ⟨X_3, S_3⟩ := Sep.turn0 X_2 S_2 MT_3 T_3
        refine RL.opD (by decide) (opv_move rfl rfl) ?_
        refine RL.yesD rfl rfl c1 (by decide) (opv_fieldAddr rfl Try.fo50_0 rfl) ?_
        refine RL.yesD rfl rfl c1 (by decide) (opv_loadB rfl Try.one2 rfl (Sep.at (o := boxO bb2 [(.int .i64 a1_0), (.int .i64 a1_1)]) S_3 0 rfl) rfl) ?_
        refine RL.yesD rfl rfl c1 (by decide) (opv_fieldAddr rfl Try.fo31_1 rfl) ?_
        refine RL.yesD rfl rfl c1 (by decide) (opv_loadB rfl Try.one2 rfl (Sep.at (o := boxO bb1 [(.int .i64 a0_0), (.int .i64 a0_1), (.bool a0_2), u0_3, u0_4]) S_3 1 rfl) rfl) ?_
        refine RL.yesD rfl rfl c1 (by decide) (opv_sub rfl rfl rfl) ?_
        refine RL.yes _ rfl rfl c1 (by decide) (opv_call (cap := []) (impl_within_ok _ _ _ _ _ hx3) rfl rfl ⟨rfl, rfl, rfl, trivial⟩ Try.func78 rfl rfl) ?_
        rintro _ _ ⟨rfl, rfl⟩
        refine RL.opD (by decide) (opv_pick rfl rfl (fun _ => rfl) (fun e => absurd (Eq.trans (Eq.symm e) c1) (by decide)) rfl) ?_
        refine RL.opD (by decide) (opv_move rfl rfl) ?_
        refine RL.yesD rfl rfl c2 (by decide) (opv_fieldAddr rfl Try.fo50_1 rfl) ?_
        refine RL.yesD rfl rfl c2 (by decide) (opv_loadB rfl Try.one2 rfl (Sep.at (o := boxO bb2 [(.int .i64 a1_0), (.int .i64 a1_1)]) S_3 0 rfl) rfl) ?_
        refine RL.yesD rfl rfl c2 (by decide) (opv_fieldAddr rfl Try.fo31_1 rfl) ?_
        refine RL.yesD rfl rfl c2 (by decide) (opv_loadB rfl Try.one2 rfl (Sep.at (o := boxO bb1 [(.int .i64 a0_0), (.int .i64 a0_1), (.bool a0_2), u0_3, u0_4]) S_3 1 rfl) rfl) ?_
        refine RL.yesD rfl rfl c2 (by decide) (opv_fieldAddr rfl Try.fo50_0 rfl) ?_
        refine RL.yesD rfl rfl c2 (by decide) (opv_loadB rfl Try.one2 rfl (Sep.at (o := boxO bb2 [(.int .i64 a1_0), (.int .i64 a1_1)]) S_3 0 rfl) rfl) ?_
        refine RL.yesD rfl rfl c2 (by decide) (opv_sub rfl rfl rfl) ?_
        refine RL.yes _ rfl rfl c2 (by decide) (opv_call (cap := []) (impl_within_ok _ _ _ _ _ hx4) rfl rfl ⟨rfl, rfl, rfl, trivial⟩ Try.func78 rfl rfl) ?_
        rintro _ _ ⟨rfl, rfl⟩
        refine RL.opD (by decide) (opv_pick rfl rfl (fun _ => rfl) (fun e => absurd (Eq.trans (Eq.symm e) c2) (by decide)) rfl) ?_
        refine RL.opD (by decide) (opv_assign rfl rfl) ?_
        refine RL.nil ?_
        have ey1 := Option.some.inj hy1
        subst ey1
        refine onlyN ?_
        exact ⟨⟨rfl, rfl, rfl, rfl, rfl, trivial⟩, X_3, (Sep.sel S_3 [0, 1] (by decide))⟩
      · rw [if_neg c2] at hy1
        have c2 := eq_false_of_ne_true c2
        refine W.region ?_
        refine RL.opD (by decide) (opv_loadA (us := [(.int .i64 a0_0), (.int .i64 a0_1), (.bool a0_2), u0_3, u0_4]) rfl Try.agg31 Try.size31 rfl (Sep.at (o := boxO bb1 [(.int .i64 a0_0), (.int .i64 a0_1), (.bool a0_2), u0_3, u0_4]) S_2 1 rfl) rfl rfl) ?_
        refine RL.op _ (by decide) (opv_call (cap := []) (impl_ValidSheet_ok _ _ _ _ _ _ (SL.up (SL.mod g0_3 X_2 (Nat.le_refl _) nob) (Nat.le_trans (Nat.le_refl _) (Mod.size X_2))) _ _ (SL.up (SL.mod g0_4 X_2 (Nat.le_refl _) nob) (Nat.le_trans (Nat.le_refl _) (Mod.size X_2))) _ hx2) rfl rfl ⟨rfl, trivial⟩ Try.func60 rfl rfl) ?_
        rintro _ hp3 ⟨rfl, MT_3, T_3⟩
        obtain ⟨X_3, S_3⟩ := Sep.turn0 X_2 S_2 MT_3 T_3
        refine RL.opD (by decide) (opv_move rfl rfl) ?_
        refine RL.yesD rfl rfl c1 (by decide) (opv_fieldAddr rfl Try.fo50_0 rfl) ?_
        refine RL.yesD rfl rfl c1 (by decide) (opv_loadB rfl Try.one2 rfl (Sep.at (o := boxO bb2 [(.int .i64 a1_0), (.int .i64 a1_1)]) S_3 0 rfl) rfl) ?_
        refine RL.yesD rfl rfl c1 (by decide) (opv_fieldAddr rfl Try.fo31_1 rfl) ?_
        refine RL.yesD rfl rfl c1 (by decide) (opv_loadB rfl Try.one2 rfl (Sep.at (o := boxO bb1 [(.int .i64 a0_0), (.int .i64 a0_1), (.bool a0_2), u0_3, u0_4]) S_3 1 rfl) rfl) ?_
        refine RL.yesD rfl rfl c1 (by decide) (opv_sub rfl rfl rfl) ?_
        refine RL.yes _ rfl rfl c1 (by decide) (opv_call (cap := []) (impl_within_ok _ _ _ _ _ hx3) rfl rfl ⟨rfl, rfl, rfl, trivial⟩ Try.func78 rfl rfl) ?_
        rintro _ _ ⟨rfl, rfl⟩
        refine RL.opD (by decide) (opv_pick rfl rfl (fun _ => rfl) (fun e => absurd (Eq.trans (Eq.symm e) c1) (by decide)) rfl) ?_
        refine RL.opD (by decide) (opv_move rfl rfl) ?_
        refine RL.noF rfl rfl c2 (by decide) ?_
        refine RL.noF rfl rfl c2 (by decide) ?_
        refine RL.noF rfl rfl c2 (by decide) ?_
        refine RL.noF rfl rfl c2 (by decide) ?_
        refine RL.noF rfl rfl c2 (by decide) ?_
        refine RL.noF rfl rfl c2 (by decide) ?_
        refine RL.noF rfl rfl c2 (by decide) ?_
        refine RL.noF rfl rfl c2 (by decide) ?_
        refine RL.opD (by decide) (opv_pick rfl rfl (fun e => absurd (Eq.trans (Eq.symm e) c2) (by decide)) (fun _ => rfl) rfl) ?_
        refine RL.opD (by decide) (opv_assign rfl rfl) ?_
        refine RL.nil ?_
        have ey1 := Option.some.inj hy1
        subst ey1
        refine onlyN ?_
        exact ⟨⟨rfl, rfl, rfl, rfl, rfl, trivial⟩, X_3, (Sep.sel S_3 [0, 1] (by decide))⟩
    · rw [if_neg c1] at hy1
      have c1 := eq_false_of_ne_true c1
      refine W.region ?_
      refine RL.opD (by decide) (opv_loadA (us := [(.int .i64 a0_0), (.int .i64 a0_1), (.bool a0_2), u0_3, u0_4]) rfl Try.agg31 Try.size31 rfl (Sep.at (o := boxO bb1 [(.int .i64 a0_0), (.int .i64 a0_1), (.bool a0_2), u0_3, u0_4]) S_2 1 rfl) rfl rfl) ?_
      refine RL.op _ (by decide) (opv_call (cap := []) (impl_ValidSheet_ok _ _ _ _ _ _ (SL.up (SL.mod g0_3 X_2 (Nat.le_refl _) nob) (Nat.le_trans (Nat.le_refl _) (Mod.size X_2))) _ _ (SL.up (SL.mod g0_4 X_2 (Nat.le_refl _) nob) (Nat.le_trans (Nat.le_refl _) (Mod.size X_2))) _ hx2) rfl rfl ⟨rfl, trivial⟩ Try.func60 rfl rfl) ?_
      rintro _ hp3 ⟨rfl, MT_3, T_3⟩
      obtain ⟨X_3, S_3⟩ := Sep.turn0 X_2 S_2 MT_3 T_3
      refine RL.opD (by decide) (opv_move rfl rfl) ?_
      refine RL.noF rfl rfl c1 (by decide) ?_
      refine RL.noF rfl rfl c1 (by decide) ?_
      refine RL.noF rfl rfl c1 (by decide) ?_
      refine RL.noF rfl rfl c1 (by decide) ?_
      refine RL.noF rfl rfl c1 (by decide) ?_
      refine RL.noF rfl rfl c1 (by decide) ?_
      refine RL.opD (by decide) (opv_pick rfl rfl (fun e => absurd (Eq.trans (Eq.symm e) c1) (by decide)) (fun _ => rfl) rfl) ?_
      refine RL.opD (by decide) (opv_move rfl rfl) ?_
      refine RL.noF rfl rfl rfl (by decide) ?_
      refine RL.noF rfl rfl rfl (by decide) ?_
      refine RL.noF rfl rfl rfl (by decide) ?_
      refine RL.noF rfl rfl rfl (by decide) ?_
      refine RL.noF rfl rfl rfl (by decide) ?_
      refine RL.noF rfl rfl rfl (by decide) ?_
      refine RL.noF rfl rfl rfl (by decide) ?_
      refine RL.noF rfl rfl rfl (by decide) ?_
      refine RL.opD (by decide) (opv_pick rfl rfl (fun e => absurd (Eq.trans (Eq.symm e) rfl) (by decide)) (fun _ => rfl) rfl) ?_
      refine RL.opD (by decide) (opv_assign rfl rfl) ?_
      refine RL.nil ?_
      have ey1 := Option.some.inj hy1
      subst ey1
      refine onlyN ?_
      exact ⟨⟨rfl, rfl, rfl, rfl, rfl, trivial⟩, X_3, (Sep.sel S_3 [0, 1] (by decide))⟩
  rintro φ' hp4 ⟨hs1, X_4, S_4⟩
  refine thnN ?_
  refine W.sub hs1 ?_
  refine W.ret ?_
  have er := Option.some.inj hp
  subst er
  exact Rt.one rfl rfl ⟨rfl, X_4, (Sep.nil _ _ _)⟩

set_option maxRecDepth 20000 in
theorem impl_cut_ok (h0 : Heap) (a0_0 : Int) (a0_1 : Int) (a0_2 : Bool) (u0_3 : Value) (a0_3 : List (Option Nat)) (g0_3 : SL (kF .f32) h0.size h0 u0_3 a0_3) (u0_4 : Value) (a0_4 : List (Option Nat)) (g0_4 : SL (kF .f32) h0.size h0 u0_4 a0_4) (u1 : Value) (a1 : List (Option Nat)) (g1 : SL (kF .f32) h0.size h0 u1 a1) (a2_0 : Int) (a2_1 : Int) (r : List (Option Nat)) (hp : impl_cut a0_0 a0_1 a0_2 a0_3 a0_4 a1 a2_0 a2_1 = some r) : CallsH Try.prog 145 ([(.agg (List.toArray (α := Value) [(.int .i64 a0_0), (.int .i64 a0_1), (.bool a0_2), u0_3, u0_4])), u1, (.agg (List.toArray (α := Value) [(.int .i64 a2_0), (.int .i64 a2_1)]))].toArray ++ [].toArray) h0 (fun v h' => Mod [] h0 h' ∧ Sep [] h0.size h' [ownO (kF .f32) 25 v r]) := by
  unfold impl_cut at hp
  refine callsH_of_W (l := [(.agg (List.toArray (α := Value) [(.int .i64 a0_0), (.int .i64 a0_1), (.bool a0_2), u0_3, u0_4])), u1, (.agg (List.toArray (α := Value) [(.int .i64 a2_0), (.int .i64 a2_1)]))]) (cap := []) 23 Try.func145 rfl rfl rfl ?_
  refine W.seq ?_
  refine W.region ?_
  refine RL.op _ (by decide) (opS_boxed (opv_boxA (cs := [(.int .i64 a0_0), (.int .i64 a0_1), (.bool a0_2), u0_3, u0_4]) rfl rfl)) ?_
  rintro _ hp1 ⟨bb1, rfl, MT_1, T_1⟩
  obtain ⟨X_1, S_1⟩ := Sep.turn0 (Mod.refl [] h0) (Sep.nil [] h0.size h0) MT_1 T_1
  refine RL.op _ (by decide) (opS_boxed (opv_boxA (cs := [(.int .i64 a2_0), (.int .i64 a2_1)]) rfl rfl)) ?_
  rintro _ hp2 ⟨bb2, rfl, MT_2, T_2⟩
  obtain ⟨X_2, S_2⟩ := Sep.turn0 X_1 S_1 MT_2 T_2
  refine RL.opD (by decide) (opv_assign rfl rfl) ?_
  have S_3 : Sep [] h0.size hp2 [ownO (kF .f32) 25 (.slice none 0 0) ([] : List (Option Nat)), boxO bb2 [(.int .i64 a2_0), (.int .i64 a2_1)], boxO bb1 [(.int .i64 a0_0), (.int .i64 a0_1), (.bool a0_2), u0_3, u0_4]] := Sep.addNil S_2
  refine RL.nil ?_
  refine thnN ?_
  refine W.seq ?_
  obtain ⟨x1, hx1, hp⟩ := Option.bind_eq_some_iff.1 hp
  obtain ⟨x2, hx2, hp⟩ := Option.bind_eq_some_iff.1 hp
  refine W.region ?_
  refine RL.opD (by decide) (opv_move rfl rfl) ?_
  refine RL.opD (by decide) (opv_fieldAddr rfl Try.fo50_0 rfl) ?_
  refine RL.opD (by decide) (opv_loadB rfl Try.one2 rfl (Sep.at (o := boxO bb2 [(.int .i64 a2_0), (.int .i64 a2_1)]) S_3 1 rfl) rfl) ?_
  refine RL.opD (by decide) (opv_fieldAddr rfl Try.fo31_0 rfl) ?_
  refine RL.opD (by decide) (opv_loadB rfl Try.one2 rfl (Sep.at (o := boxO bb1 [(.int .i64 a0_0), (.int .i64 a0_1), (.bool a0_2), u0_3, u0_4]) S_3 2 rfl) rfl) ?_
  refine RL.opD (by decide) (opv_mul rfl rfl rfl) ?_
  refine RL.opD (by decide) (opv_fieldAddr rfl Try.fo50_0 rfl) ?_
  refine RL.opD (by decide) (opv_loadB rfl Try.one2 rfl (Sep.at (o := boxO bb2 [(.int .i64 a2_0), (.int .i64 a2_1)]) S_3 1 rfl) rfl) ?_
  refine RL.opD (by decide) (opv_fieldAddr rfl Try.fo50_1 rfl) ?_
  refine RL.opD (by decide) (opv_loadB rfl Try.one2 rfl (Sep.at (o := boxO bb2 [(.int .i64 a2_0), (.int .i64 a2_1)]) S_3 1 rfl) rfl) ?_
  refine RL.opD (by decide) (opv_add rfl rfl rfl) ?_
  refine RL.opD (by decide) (opv_fieldAddr rfl Try.fo31_0 rfl) ?_
  refine RL.opD (by decide) (opv_loadB rfl Try.one2 rfl (Sep.at (o := boxO bb1 [(.int .i64 a0_0), (.int .i64 a0_1), (.bool a0_2), u0_3, u0_4]) S_3 2 rfl) rfl) ?_
  refine RL.opD (by decide) (opv_mul rfl rfl rfl) ?_
  refine RL.op _ (by decide) (opv_cut (K := (kF .f32)) rfl Try.underlying22 (by rw [Try.size25]; rfl) rfl (.inr ⟨_, _, rfl, rfl⟩) (.inr ⟨_, _, rfl, rfl⟩) (SL.mod g1 X_2 (Nat.le_refl _) nob) hx1) ?_
  rintro v1 _ ⟨fv1, rfl⟩
  have fv1 := SL.back fv1 X_2 (Nat.le_refl _) nob
  refine RL.op _ (by decide) (opv_call (cap := []) (impl_copyOf_ok _ _ _ (SL.up (SL.mod fv1 X_2 (Nat.le_refl _) nob) (Nat.le_trans (Nat.le_refl _) (Mod.size X_2))) _ hx2) rfl rfl ⟨rfl, trivial⟩ Try.func172 rfl rfl) ?_
  rintro v2 hp3 ⟨MT_3, T_3⟩
  obtain ⟨X_3, S_4⟩ := Sep.turn0 X_2 S_3 MT_3 T_3
  refine RL.opD (by decide) (opv_assign rfl rfl) ?_
  refine RL.nil ?_
  refine thnN ?_
  refine W.ret ?_
  have er := Option.some.inj hp
  subst er
  exact Rt.one rfl rfl ⟨X_3, (Sep.sel S_4 [0] (by decide))⟩

set_option maxRecDepth 20000 in
theorem impl_cutStrip_ok (h0 : Heap) (a0_0 : Int) (a0_1 : Int) (a0_2 : Bool) (u0_3 : Value) (a0_3 : List (Option Nat)) (g0_3 : SL (kF .f32) h0.size h0 u0_3 a0_3) (u0_4 : Value) (a0_4 : List (Option Nat)) (g0_4 : SL (kF .f32) h0.size h0 u0_4 a0_4) (u1_0 : Value) (a1_0 : List (Option Nat)) (g1_0 : SL (kF .f32) h0.size h0 u1_0 a1_0) (u1_1 : Value) (a1_1 : List (Option Nat)) (g1_1 : SL (kF .f32) h0.size h0 u1_1 a1_1) (u1_2 : Value) (a1_2 : List (Option Nat)) (g1_2 : SL (kF .f32) h0.size h0 u1_2 a1_2) (a2_0 : Int) (a2_1 : Int) (r : ((List (Option Nat)) × (List (Option Nat)) × (List (Option Nat)))) (hp : impl_cutStrip a0_0 a0_1 a0_2 a0_3 a0_4 a1_0 a1_1 a1_2 a2_0 a2_1 = some r) : CallsH Try.prog 86 ([(.agg (List.toArray (α := Value) [(.int .i64 a0_0), (.int .i64 a0_1), (.bool a0_2), u0_3, u0_4])), (.agg (List.toArray (α := Value) [u1_0, u1_1, u1_2])), (.agg (List.toArray (α := Value) [(.int .i64 a2_0), (.int .i64 a2_1)]))].toArray ++ [].toArray) h0 (fun v h' => ∃ w0, ∃ w1, ∃ w2, v = (.agg (List.toArray (α := Value) [w0, w1, w2])) ∧ Mod [] h0 h' ∧ Sep [] h0.size h' [ownO (kF .f32) 25 w0 r.1, ownO (kF .f32) 25 w1 r.2.1, ownO (kF .f32) 25 w2 r.2.2]) := by
  unfold impl_cutStrip at hp
  refine callsH_of_W (l := [(.agg (List.toArray (α := Value) [(.int .i64 a0_0), (.int .i64 a0_1), (.bool a0_2), u0_3, u0_4])), (.agg (List.toArray (α := Value) [u1_0, u1_1, u1_2])), (.agg (List.toArray (α := Value) [(.int .i64 a2_0), (.int .i64 a2_1)]))]) (cap := []) 23 Try.func86 rfl rfl rfl ?_
  refine W.seq ?_
  refine W.region ?_
  refine RL.op _ (by decide) (opS_boxed (opv_boxA (cs := [(.int .i64 a0_0), (.int .i64 a0_1), (.bool a0_2), u0_3, u0_4]) rfl rfl)) ?_
  rintro _ hp1 ⟨bb1, rfl, MT_1, T_1⟩
  obtain ⟨X_1, S_1⟩ := Sep.turn0 (Mod.refl [] h0) (Sep.nil [] h0.size h0) MT_1 T_1
  refine RL.op _ (by decide) (opS_boxed (opv_boxA (cs := [u1_0, u1_1, u1_2]) rfl rfl)) ?_
  rintro _ hp2 ⟨bb2, rfl, MT_2, T_2⟩
  obtain ⟨X_2, S_2⟩ := Sep.turn0 X_1 S_1 MT_2 T_2
  refine RL.op _ (by decide) (opS_boxed (opv_boxA (cs := [(.int .i64 a2_0), (.int .i64 a2_1)]) rfl rfl)) ?_
  rintro _ hp3 ⟨bb3, rfl, MT_3, T_3⟩
  obtain ⟨X_3, S_3⟩ := Sep.turn0 X_2 S_2 MT_3 T_3
  refine RL.op _ (by decide) (opS_boxed (opv_alloc (cs := [(.slice none 0 0), (.slice none 0 0), (.slice none 0 0)]) rfl Try.zero28 rfl)) ?_
  rintro _ hp4 ⟨bb4, rfl, MT_4, T_4⟩
  obtain ⟨X_4, S_4⟩ := Sep.turn0 X_3 S_3 MT_4 T_4
  refine RL.nil ?_
  refine thnN ?_
  refine W.seq ?_
  obtain ⟨x1, hx1, hp⟩ := Option.bind_eq_some_iff.1 hp
  obtain ⟨x2, hx2, hp⟩ := Option.bind_eq_some_iff.1 hp
  obtain ⟨x3, hx3, hp⟩ := Option.bind_eq_some_iff.1 hp
  refine W.sub (ψ := [(0, (.agg (List.toArray (α := Value) [(.int .i64 a0_0), (.int .i64 a0_1), (.bool a0_2), u0_3, u0_4]))), (1, (.agg (List.toArray (α := Value) [u1_0, u1_1, u1_2]))), (2, (.agg (List.toArray (α := Value) [(.int .i64 a2_0), (.int .i64 a2_1)]))), (3, (.pointer (some ⟨bb1, 0, none⟩))), (4, (.pointer (some ⟨bb2, 0, none⟩))), (5, (.pointer (some ⟨bb3, 0, none⟩))), (6, (.pointer (some ⟨bb4, 0, none⟩)))]) ⟨rfl, rfl, rfl, rfl, rfl, rfl, rfl, trivial⟩ ?_
  refine W.regionM [fun v _ => @Eq Value (.agg (List.toArray (α := Value) [(.int .i64 a0_0), (.int .i64 a0_1), (.bool a0_2), u0_3, u0_4])) v, fun v _ => @Eq Value (.pointer (some ⟨bb2, 0, none⟩)) v, fun v _ => @Eq Value u1_0 v, fun v _ => @Eq Value (.agg (List.toArray (α := Value) [(.int .i64 a2_0), (.int .i64 a2_1)])) v, fun v1 h => Sep [] hp4.size h [ownO (kF .f32) 25 v1 x1], fun v _ => @Eq Value (.agg (List.toArray (α := Value) [(.int .i64 a0_0), (.int .i64 a0_1), (.bool a0_2), u0_3, u0_4])) v, fun v _ => @Eq Value (.pointer (some ⟨bb2, 1, none⟩)) v, fun v _ => @Eq Value u1_1 v, fun v _ => @Eq Value (.agg (List.toArray (α := Value) [(.int .i64 a2_0), (.int .i64 a2_1)])) v, fun v2 h => Sep [] hp4.size h [ownO (kF .f32) 25 v2 x2], fun v _ => @Eq Value (.agg (List.toArray (α := Value) [(.int .i64 a0_0), (.int .i64 a0_1), (.bool a0_2), u0_3, u0_4])) v, fun v _ => @Eq Value (.pointer (some ⟨bb2, 2, none⟩)) v, fun v _ => @Eq Value u1_2 v, fun v _ => @Eq Value (.agg (List.toArray (α := Value) [(.int .i64 a2_0), (.int .i64 a2_1)])) v, fun v3 h => Sep [] hp4.size h [ownO (kF .f32) 25 v3 x3]] [none, none, none, none, some (fun u => [Value.ownBlock u]), none, none, none, none, some (fun u => [Value.ownBlock u]), none, none, none, none, some (fun u => [Value.ownBlock u])] [] [[], [], [1], [], [0, 2, 3], [], [], [6], [], [5, 7, 8], [], [], [11], [], [10, 12, 13]] [4, 9, 14] Try.mixed (by decide +kernel) (by decide +kernel) rfl rfl rfl (by decide +kernel) rfl ⟨fun _ _ _ h _ => h, fun _ _ _ h _ => h, fun _ _ _ h _ => h, fun _ _ _ h _ => h, fun _ _ _ h x => h.ext x, fun _ _ _ h _ => h, fun _ _ _ h _ => h, fun _ _ _ h _ => h, fun _ _ _ h _ => h, fun _ _ _ h x => h.ext x, fun _ _ _ h _ => h, fun _ _ _ h _ => h, fun _ _ _ h _ => h, fun _ _ _ h _ => h, fun _ _ _ h x => h.ext x, trivial⟩ ?_ ?_
  · refine ⟨⟨rfl, ?_⟩, ⟨rfl, ?_⟩, ⟨rfl, ?_⟩, ⟨rfl, ?_⟩, ⟨rfl, ?_⟩, ⟨rfl, ?_⟩, ⟨rfl, ?_⟩, ⟨rfl, ?_⟩, ⟨rfl, ?_⟩, ⟨rfl, ?_⟩, ⟨rfl, ?_⟩, ⟨rfl, ?_⟩, ⟨rfl, ?_⟩, ⟨rfl, ?_⟩, ⟨rfl, ?_⟩, trivial⟩
    · rintro hp9 E_1
      refine Dep.nil ?_
      refine GuardOK.none rfl ?_
      exact OpV.toDx (opv_loadA (us := [(.int .i64 a0_0), (.int .i64 a0_1), (.bool a0_2), u0_3, u0_4]) rfl Try.agg31 Try.size31 rfl (Sep.at (o := boxO bb1 [(.int .i64 a0_0), (.int .i64 a0_1), (.bool a0_2), u0_3, u0_4]) (Sep.ext S_4 E_1) 3 rfl) rfl rfl) rfl
    · rintro hp10 E_2
      refine Dep.nil ?_
      refine GuardOK.none rfl ?_
      exact OpV.toDx (opv_fieldAddr rfl Try.fo28_0 rfl) rfl
    · rintro hp11 E_3 _ rfl
      refine Dep.nil ?_
      refine GuardOK.none rfl ?_
      exact OpV.toDx (opv_loadB rfl Try.one22 rfl (Sep.at (o := boxO bb2 [u1_0, u1_1, u1_2]) (Sep.ext S_4 E_3) 2 rfl) rfl) rfl
    · rintro hp12 E_4
      refine Dep.nil ?_
      refine GuardOK.none rfl ?_
      exact OpV.toDx (opv_loadA (us := [(.int .i64 a2_0), (.int .i64 a2_1)]) rfl Try.agg50 Try.size50 rfl (Sep.at (o := boxO bb3 [(.int .i64 a2_0), (.int .i64 a2_1)]) (Sep.ext S_4 E_4) 1 rfl) rfl rfl) rfl
    · rintro hp13 E_5 _ rfl _ rfl _ rfl
      refine Dep.nil ?_
      refine GuardOK.none rfl ?_
      exact OpV.mono (opv_call (cap := []) (impl_cut_ok _ _ _ _ _ _ (SL.up (SL.mod g0_3 (Mod.lift X_4 E_5) (Nat.le_refl _) nob) (Nat.le_trans (Nat.le_refl _) (Mod.size (Mod.lift X_4 E_5)))) _ _ (SL.up (SL.mod g0_4 (Mod.lift X_4 E_5) (Nat.le_refl _) nob) (Nat.le_trans (Nat.le_refl _) (Mod.size (Mod.lift X_4 E_5)))) _ _ (SL.up (SL.mod g1_0 (Mod.lift X_4 E_5) (Nat.le_refl _) nob) (Nat.le_trans (Nat.le_refl _) (Mod.size (Mod.lift X_4 E_5)))) _ _ _ hx1) rfl rfl ⟨rfl, rfl, rfl, trivial⟩ Try.func145 rfl rfl) (by rintro _ _ ⟨M_, T_⟩; exact ⟨Mod.ext M_, Sep.weak T_ (Ext.size E_5), Sep.fresh T_⟩)
    · rintro hp14 E_6
      refine Dep.nil ?_
      refine GuardOK.none rfl ?_
      exact OpV.toDx (opv_loadA (us := [(.int .i64 a0_0), (.int .i64 a0_1), (.bool a0_2), u0_3, u0_4]) rfl Try.agg31 Try.size31 rfl (Sep.at (o := boxO bb1 [(.int .i64 a0_0), (.int .i64 a0_1), (.bool a0_2), u0_3, u0_4]) (Sep.ext S_4 E_6) 3 rfl) rfl rfl) rfl
    · rintro hp15 E_7
      refine Dep.nil ?_
      refine GuardOK.none rfl ?_
      exact OpV.toDx (opv_fieldAddr rfl Try.fo28_1 rfl) rfl
    · rintro hp16 E_8 _ rfl
      refine Dep.nil ?_
      refine GuardOK.none rfl ?_
      exact OpV.toDx (opv_loadB rfl Try.one22 rfl (Sep.at (o := boxO bb2 [u1_0, u1_1, u1_2]) (Sep.ext S_4 E_8) 2 rfl) rfl) rfl
    · rintro hp17 E_9
      refine Dep.nil ?_
      refine GuardOK.none rfl ?_
      exact OpV.toDx (opv_loadA (us := [(.int .i64 a2_0), (.int .i64 a2_1)]) rfl Try.agg50 Try.size50 rfl (Sep.at (o := boxO bb3 [(.int .i64 a2_0), (.int .i64 a2_1)]) (Sep.ext S_4 E_9) 1 rfl) rfl rfl) rfl
    · rintro hp18 E_10 _ rfl _ rfl _ rfl
      refine Dep.nil ?_
      refine GuardOK.none rfl ?_
      exact OpV.mono (opv_call (cap := []) (impl_cut_ok _ _ _ _ _ _ (SL.up (SL.mod g0_3 (Mod.lift X_4 E_10) (Nat.le_refl _) nob) (Nat.le_trans (Nat.le_refl _) (Mod.size (Mod.lift X_4 E_10)))) _ _ (SL.up (SL.mod g0_4 (Mod.lift X_4 E_10) (Nat.le_refl _) nob) (Nat.le_trans (Nat.le_refl _) (Mod.size (Mod.lift X_4 E_10)))) _ _ (SL.up (SL.mod g1_1 (Mod.lift X_4 E_10) (Nat.le_refl _) nob) (Nat.le_trans (Nat.le_refl _) (Mod.size (Mod.lift X_4 E_10)))) _ _ _ hx2) rfl rfl ⟨rfl, rfl, rfl, trivial⟩ Try.func145 rfl rfl) (by rintro _ _ ⟨M_, T_⟩; exact ⟨Mod.ext M_, Sep.weak T_ (Ext.size E_10), Sep.fresh T_⟩)
    · rintro hp19 E_11
      refine Dep.nil ?_
      refine GuardOK.none rfl ?_
      exact OpV.toDx (opv_loadA (us := [(.int .i64 a0_0), (.int .i64 a0_1), (.bool a0_2), u0_3, u0_4]) rfl Try.agg31 Try.size31 rfl (Sep.at (o := boxO bb1 [(.int .i64 a0_0), (.int .i64 a0_1), (.bool a0_2), u0_3, u0_4]) (Sep.ext S_4 E_11) 3 rfl) rfl rfl) rfl
    · rintro hp20 E_12
      refine Dep.nil ?_
      refine GuardOK.none rfl ?_
      exact OpV.toDx (opv_fieldAddr rfl Try.fo28_2 rfl) rfl
    · rintro hp21 E_13 _ rfl
      refine Dep.nil ?_
      refine GuardOK.none rfl ?_
      exact OpV.toDx (opv_loadB rfl Try.one22 rfl (Sep.at (o := boxO bb2 [u1_0, u1_1, u1_2]) (Sep.ext S_4 E_13) 2 rfl) rfl) rfl
    · rintro hp22 E_14
      refine Dep.nil ?_
      refine GuardOK.none rfl ?_
      exact OpV.toDx (opv_loadA (us := [(.int .i64 a2_0), (.int .i64 a2_1)]) rfl Try.agg50 Try.size50 rfl (Sep.at (o := boxO bb3 [(.int .i64 a2_0), (.int .i64 a2_1)]) (Sep.ext S_4 E_14) 1 rfl) rfl rfl) rfl
    · rintro hp23 E_15 _ rfl _ rfl _ rfl
      refine Dep.nil ?_
      refine GuardOK.none rfl ?_
      exact OpV.mono (opv_call (cap := []) (impl_cut_ok _ _ _ _ _ _ (SL.up (SL.mod g0_3 (Mod.lift X_4 E_15) (Nat.le_refl _) nob) (Nat.le_trans (Nat.le_refl _) (Mod.size (Mod.lift X_4 E_15)))) _ _ (SL.up (SL.mod g0_4 (Mod.lift X_4 E_15) (Nat.le_refl _) nob) (Nat.le_trans (Nat.le_refl _) (Mod.size (Mod.lift X_4 E_15)))) _ _ (SL.up (SL.mod g1_2 (Mod.lift X_4 E_15) (Nat.le_refl _) nob) (Nat.le_trans (Nat.le_refl _) (Mod.size (Mod.lift X_4 E_15)))) _ _ _ hx3) rfl rfl ⟨rfl, rfl, rfl, trivial⟩ Try.func145 rfl rfl) (by rintro _ _ ⟨M_, T_⟩; exact ⟨Mod.ext M_, Sep.weak T_ (Ext.size E_15), Sep.fresh T_⟩)
  rintro hp24 E_16 v1 T_5 v2 T_6 v3 T_7
  refine DepM.nil ?_
  intro PW_1 LK_
  have X_9 := Mod.lift X_4 E_16
  have S_10 := Sep.join S_4 (Mod.size X_4) (Ext.mod E_16 []) (Sep.both T_5 (Sep.both T_6 T_7 (Apt.symm (Apt.of PW_1 0 1 rfl rfl (by decide)))) (Apt.cat' (Apt.symm (Apt.of PW_1 1 2 rfl rfl (by decide))) (Apt.symm (Apt.of PW_1 0 2 rfl rfl (by decide)))))
  show RL _ _ _ _ (_ :: _) _ _
  refine RL.opD (by decide) (opv_build (cs := [v1, v2, v3]) [(0, [v1]), (1, [v2]), (2, [v3])] [(0, v1), (1, v2), (2, v3)] rfl Try.bd28 ⟨⟨rfl, rfl, rfl, cells1 (ownO.one (Sep.at (o := ownO (kF .f32) 25 v1 x1) S_10 0 rfl))⟩, ⟨rfl, rfl, rfl, cells1 (ownO.one (Sep.at (o := ownO (kF .f32) 25 v2 x2) S_10 1 rfl))⟩, ⟨rfl, rfl, rfl, cells1 (ownO.one (Sep.at (o := ownO (kF .f32) 25 v3 x3) S_10 2 rfl))⟩, trivial⟩ rfl) ?_
  refine RL.op0 _ (opS_stored (cs := [(.slice none 0 0), (.slice none 0 0), (.slice none 0 0)]) (cs' := [v1, v2, v3]) (opv_storeA (us := [v1, v2, v3]) rfl Try.size28 rfl rfl (oneAll (ownO.one (Sep.at (o := ownO (kF .f32) 25 v1 x1) S_10 0 rfl)) (oneAll (ownO.one (Sep.at (o := ownO (kF .f32) 25 v2 x2) S_10 1 rfl)) (oneAll (ownO.one (Sep.at (o := ownO (kF .f32) 25 v3 x3) S_10 2 rfl)) rfl))) (Sep.at (o := boxO bb4 [(.slice none 0 0), (.slice none 0 0), (.slice none 0 0)]) S_10 3 rfl) rfl rfl) (Sep.at (o := boxO bb4 [(.slice none 0 0), (.slice none 0 0), (.slice none 0 0)]) S_10 3 rfl)) ?_
  rintro _ hp25 ⟨rfl, MT_9, T_9⟩
  have S_11 : Sep [] h0.size hp24 ([boxO bb4 [(.slice none 0 0), (.slice none 0 0), (.slice none 0 0)]] ++ [ownO (kF .f32) 25 v1 x1, ownO (kF .f32) 25 v2 x2, ownO (kF .f32) 25 v3 x3, boxO bb3 [(.int .i64 a2_0), (.int .i64 a2_1)], boxO bb2 [u1_0, u1_1, u1_2], boxO bb1 [(.int .i64 a0_0), (.int .i64 a0_1), (.bool a0_2), u0_3, u0_4]]) := Sep.sel S_10 [3, 0, 1, 2, 4, 5, 6] (by decide)
  obtain ⟨X_10, S_12⟩ := Sep.turn X_9 S_11 MT_9 T_9
  refine RL.nil ?_
  refine thnN ?_
  refine W.ret ?_
  have er := Option.some.inj hp
  subst er
  exact Rt.cell1 rfl rfl Try.agg28 Try.size28 (Sep.at (o := boxO bb4 [v1, v2, v3]) S_12 0 rfl) rfl ⟨v1, v2, v3, rfl, X_10, (Sep.sel S_12 [1, 2, 3] (by decide))⟩

set_option maxRecDepth 20000 in
theorem impl_StepStrip_ok (h0 : Heap) (a0_0 : Int) (a0_1 : Int) (a0_2 : Bool) (u0_3 : Value) (a0_3 : List (Option Nat)) (g0_3 : SL (kF .f32) h0.size h0 u0_3 a0_3) (u0_4 : Value) (a0_4 : List (Option Nat)) (g0_4 : SL (kF .f32) h0.size h0 u0_4 a0_4) (u1_0 : Value) (a1_0 : List (Option Nat)) (g1_0 : SL (kF .f32) h0.size h0 u1_0 a1_0) (u1_1 : Value) (a1_1 : List (Option Nat)) (g1_1 : SL (kF .f32) h0.size h0 u1_1 a1_1) (u1_2 : Value) (a1_2 : List (Option Nat)) (g1_2 : SL (kF .f32) h0.size h0 u1_2 a1_2) (a2_0 : Int) (a2_1 : Int) (r : ((List (Option Nat)) × (List (Option Nat)) × (List (Option Nat)) × Bool)) (hp : impl_StepStrip a0_0 a0_1 a0_2 a0_3 a0_4 a1_0 a1_1 a1_2 a2_0 a2_1 = some r) : CallsH Try.prog 30 ([(.agg (List.toArray (α := Value) [(.int .i64 a0_0), (.int .i64 a0_1), (.bool a0_2), u0_3, u0_4])), (.agg (List.toArray (α := Value) [u1_0, u1_1, u1_2])), (.agg (List.toArray (α := Value) [(.int .i64 a2_0), (.int .i64 a2_1)]))].toArray ++ [].toArray) h0 (fun v h' => ∃ w0, ∃ w1, ∃ w2, v = (.tuple (List.toArray (α := Value) [(.agg (List.toArray (α := Value) [w0, w1, w2])), (.bool r.2.2.2)])) ∧ Mod [] h0 h' ∧ Sep [] h0.size h' [ownO (kF .f32) 25 w0 r.1, ownO (kF .f32) 25 w1 r.2.1, ownO (kF .f32) 25 w2 r.2.2.1]) := by
  unfold impl_StepStrip at hp
  refine callsH_of_W (l := [(.agg (List.toArray (α := Value) [(.int .i64 a0_0), (.int .i64 a0_1), (.bool a0_2), u0_3, u0_4])), (.agg (List.toArray (α := Value) [u1_0, u1_1, u1_2])), (.agg (List.toArray (α := Value) [(.int .i64 a2_0), (.int .i64 a2_1)]))]) (cap := []) 25 Try.func30 rfl rfl rfl ?_
  refine W.seq ?_
  refine W.region ?_
  refine RL.op _ (by decide) (opS_boxed (opv_boxA (cs := [(.int .i64 a0_0), (.int .i64 a0_1), (.bool a0_2), u0_3, u0_4]) rfl rfl)) ?_
  rintro _ hp1 ⟨bb1, rfl, MT_1, T_1⟩
  obtain ⟨X_1, S_1⟩ := Sep.turn0 (Mod.refl [] h0) (Sep.nil [] h0.size h0) MT_1 T_1
  refine RL.op _ (by decide) (opS_boxed (opv_boxA (cs := [u1_0, u1_1, u1_2]) rfl rfl)) ?_
  rintro _ hp2 ⟨bb2, rfl, MT_2, T_2⟩
  obtain ⟨X_2, S_2⟩ := Sep.turn0 X_1 S_1 MT_2 T_2
  refine RL.op _ (by decide) (opS_boxed (opv_boxA (cs := [(.int .i64 a2_0), (.int .i64 a2_1)]) rfl rfl)) ?_
  rintro _ hp3 ⟨bb3, rfl, MT_3, T_3⟩
  obtain ⟨X_3, S_3⟩ := Sep.turn0 X_2 S_2 MT_3 T_3
  refine RL.op _ (by decide) (opS_boxed (opv_alloc (cs := [(.slice none 0 0), (.slice none 0 0), (.slice none 0 0)]) rfl Try.zero28 rfl)) ?_
  rintro _ hp4 ⟨bb4, rfl, MT_4, T_4⟩
  obtain ⟨X_4, S_4⟩ := Sep.turn0 X_3 S_3 MT_4 T_4
  refine RL.opD (by decide) (opv_assign rfl rfl) ?_
  refine RL.nil ?_
  refine thnN ?_
  refine W.seq ?_
  refine W.seq ?_
  obtain ⟨x1, hy1, hp⟩ := Option.bind_eq_some_iff.1 hp
  refine W.cut (fun φ' h' => Fr.sub [(0, (.agg (List.toArray (α := Value) [(.int .i64 a0_0), (.int .i64 a0_1), (.bool a0_2), u0_3, u0_4]))), (1, (.agg (List.toArray (α := Value) [u1_0, u1_1, u1_2]))), (2, (.agg (List.toArray (α := Value) [(.int .i64 a2_0), (.int .i64 a2_1)]))), (3, (.pointer (some ⟨bb1, 0, none⟩))), (4, (.pointer (some ⟨bb2, 0, none⟩))), (5, (.pointer (some ⟨bb3, 0, none⟩))), (6, (.pointer (some ⟨bb4, 0, none⟩))), (7, (.bool false)), (17, (.bool x1))] φ' ∧ Mod [] h0 h' ∧ Sep [] h0.size h' [boxO bb4 [(.slice none 0 0), (.slice none 0 0), (.slice none 0 0)], boxO bb3 [(.int .i64 a2_0), (.int .i64 a2_1)], boxO bb2 [u1_0, u1_1, u1_2], boxO bb1 [(.int .i64 a0_0), (.int .i64 a0_1), (.bool a0_2), u0_3, u0_4]]) ?_ ?_
  · obtain ⟨x2, hx2, hy1⟩ := Option.bind_eq_some_iff.1 hy1
    by_cases c1 : (!x2) = true
    · rw [if_pos c1] at hy1
      refine W.region ?_
      refine RL.opD (by decide) (opv_loadA (us := [(.int .i64 a0_0), (.int .i64 a0_1), (.bool a0_2), u0_3, u0_4]) rfl Try.agg31 Try.size31 rfl (Sep.at (o := boxO bb1 [(.int .i64 a0_0), (.int .i64 a0_1), (.bool a0_2), u0_3, u0_4]) S_4 3 rfl) rfl rfl) ?_
      refine RL.opD (by decide) (opv_loadA (us := [u1_0, u1_1, u1_2]) rfl Try.agg28 Try.size28 rfl (Sep.at (o := boxO bb2 [u1_0, u1_1, u1_2]) S_4 2 rfl) rfl rfl) ?_
      refine RL.op _ (by decide) (opv_call (cap := []) (impl_IsField_ok _ _ _ _ _ _ (SL.up (SL.mod g0_3 X_4 (Nat.le_refl _) nob) (Nat.le_trans (Nat.le_refl _) (Mod.size X_4))) _ _ (SL.up (SL.mod g0_4 X_4 (Nat.le_refl _) nob) (Nat.le_trans (Nat.le_refl _) (Mod.size X_4))) _ _ (SL.up (SL.mod g1_0 X_4 (Nat.le_refl _) nob) (Nat.le_trans (Nat.le_refl _) (Mod.size X_4))) _ _ (SL.up (SL.mod g1_1 X_4 (Nat.le_refl _) nob) (Nat.le_trans (Nat.le_refl _) (Mod.size X_4))) _ _ (SL.up (SL.mod g1_2 X_4 (Nat.le_refl _) nob) (Nat.le_trans (Nat.le_refl _) (Mod.size X_4))) _ hx2) rfl rfl ⟨rfl, rfl, trivial⟩ Try.func61 rfl rfl) ?_
      rintro _ hp5 ⟨rfl, MT_5, T_5⟩
      obtain ⟨X_5, S_5⟩ := Sep.turn0 X_4 S_4 MT_5 T_5
      refine RL.opD (by decide) (opv_not rfl rfl) ?_
      refine RL.opD (by decide) (opv_move rfl rfl) ?_
      refine RL.noT rfl rfl c1 (by decide) ?_
      refine RL.noT rfl rfl c1 (by decide) ?_
      refine RL.noT rfl rfl c1 (by decide) ?_
      refine RL.noT rfl rfl c1 (by decide) ?_
      refine RL.opD (by decide) (opv_pick rfl rfl (fun _ => rfl) (fun e => absurd (Eq.trans (Eq.symm e) c1) (by decide)) rfl) ?_
      refine RL.nil ?_
      have ey1 := Option.some.inj hy1
      subst ey1
      refine onlyN ?_
      exact ⟨⟨rfl, rfl, rfl, rfl, rfl, rfl, rfl, rfl, rfl, trivial⟩, X_5, (Sep.sel S_5 [0, 1, 2, 3] (by decide))⟩
    · rw [if_neg c1] at hy1
      have c1 := eq_false_of_ne_true c1
      obtain ⟨x3, hx3, hy1⟩ := Option.bind_eq_some_iff.1 hy1
      refine W.region ?_
      refine RL.opD (by decide) (opv_loadA (us := [(.int .i64 a0_0), (.int .i64 a0_1), (.bool a0_2), u0_3, u0_4]) rfl Try.agg31 Try.size31 rfl (Sep.at (o := boxO bb1 [(.int .i64 a0_0), (.int .i64 a0_1), (.bool a0_2), u0_3, u0_4]) S_4 3 rfl) rfl rfl) ?_
      refine RL.opD (by decide) (opv_loadA (us := [u1_0, u1_1, u1_2]) rfl Try.agg28 Try.size28 rfl (Sep.at (o := boxO bb2 [u1_0, u1_1, u1_2]) S_4 2 rfl) rfl rfl) ?_
      refine RL.op _ (by decide) (opv_call (cap := []) (impl_IsField_ok _ _ _ _ _ _ (SL.up (SL.mod g0_3 X_4 (Nat.le_refl _) nob) (Nat.le_trans (Nat.le_refl _) (Mod.size X_4))) _ _ (SL.up (SL.mod g0_4 X_4 (Nat.le_refl _) nob) (Nat.le_trans (Nat.le_refl _) (Mod.size X_4))) _ _ (SL.up (SL.mod g1_0 X_4 (Nat.le_refl _) nob) (Nat.le_trans (Nat.le_refl _) (Mod.size X_4))) _ _ (SL.up (SL.mod g1_1 X_4 (Nat.le_refl _) nob) (Nat.le_trans (Nat.le_refl _) (Mod.size X_4))) _ _ (SL.up (SL.mod g1_2 X_4 (Nat.le_refl _) nob) (Nat.le_trans (Nat.le_refl _) (Mod.size X_4))) _ hx2) rfl rfl ⟨rfl, rfl, trivial⟩ Try.func61 rfl rfl) ?_
      rintro _ hp5 ⟨rfl, MT_5, T_5⟩
      obtain ⟨X_5, S_5⟩ := Sep.turn0 X_4 S_4 MT_5 T_5
      refine RL.opD (by decide) (opv_not rfl rfl) ?_
      refine RL.opD (by decide) (opv_move rfl rfl) ?_
      refine RL.yesD rfl rfl c1 (by decide) (opv_loadA (us := [(.int .i64 a0_0), (.int .i64 a0_1), (.bool a0_2), u0_3, u0_4]) rfl Try.agg31 Try.size31 rfl (Sep.at (o := boxO bb1 [(.int .i64 a0_0), (.int .i64 a0_1), (.bool a0_2), u0_3, u0_4]) S_5 3 rfl) rfl rfl) ?_
      refine RL.yesD rfl rfl c1 (by decide) (opv_loadA (us := [(.int .i64 a2_0), (.int .i64 a2_1)]) rfl Try.agg50 Try.size50 rfl (Sep.at (o := boxO bb3 [(.int .i64 a2_0), (.int .i64 a2_1)]) S_5 1 rfl) rfl rfl) ?_
      refine RL.yes _ rfl rfl c1 (by decide) (opv_call (cap := []) (impl_IsStrip_ok _ _ _ _ _ _ (SL.up (SL.mod g0_3 X_5 (Nat.le_refl _) nob) (Nat.le_trans (Nat.le_refl _) (Mod.size X_5))) _ _ (SL.up (SL.mod g0_4 X_5 (Nat.le_refl _) nob) (Nat.le_trans (Nat.le_refl _) (Mod.size X_5))) _ _ _ hx3) rfl rfl ⟨rfl, rfl, trivial⟩ Try.func85 rfl rfl) ?_
      rintro _ hp6 ⟨rfl, MT_6, T_6⟩
      obtain ⟨X_6, S_6⟩ := Sep.turn0 X_5 S_5 MT_6 T_6
      refine RL.yesD rfl rfl c1 (by decide) (opv_not rfl rfl) ?_
      refine RL.opD (by decide) (opv_pick rfl rfl (fun e => absurd (Eq.trans (Eq.symm e) c1) (by decide)) (fun _ => rfl) rfl) ?_
      refine RL.nil ?_
      have ey1 := Option.some.inj hy1
      subst ey1
      refine onlyN ?_
      exact ⟨⟨rfl, rfl, rfl, rfl, rfl, rfl, rfl, rfl, rfl, trivial⟩, X_6, (Sep.sel S_6 [0, 1, 2, 3] (by decide))⟩
  rintro φ' hp7 ⟨hs1, X_7, S_7⟩
  refine thnN ?_
  refine W.sub hs1 ?_
  by_cases c2 : x1 = true
  · rw [if_pos c2] at hp
    refine W.condT rfl c2 ?_
    refine W.seq ?_
    refine W.region ?_
    refine RL.opD (by decide) (opv_build (cs := [(.slice none 0 0), (.slice none 0 0), (.slice none 0 0)]) [] [] rfl Try.bd28 trivial rfl) ?_
    refine RL.op0 _ (opS_stored (cs := [(.slice none 0 0), (.slice none 0 0), (.slice none 0 0)]) (cs' := [(.slice none 0 0), (.slice none 0 0), (.slice none 0 0)]) (opv_storeA (us := [(.slice none 0 0), (.slice none 0 0), (.slice none 0 0)]) rfl Try.size28 rfl rfl (oneAll rfl (oneAll rfl (oneAll rfl rfl))) (Sep.at (o := boxO bb4 [(.slice none 0 0), (.slice none 0 0), (.slice none 0 0)]) S_7 0 rfl) rfl rfl) (Sep.at (o := boxO bb4 [(.slice none 0 0), (.slice none 0 0), (.slice none 0 0)]) S_7 0 rfl)) ?_
    rintro _ hp8 ⟨rfl, MT_7, T_7⟩
    have S_8 : Sep [] h0.size hp7 ([boxO bb4 [(.slice none 0 0), (.slice none 0 0), (.slice none 0 0)]] ++ [boxO bb3 [(.int .i64 a2_0), (.int .i64 a2_1)], boxO bb2 [u1_0, u1_1, u1_2], boxO bb1 [(.int .i64 a0_0), (.int .i64 a0_1), (.bool a0_2), u0_3, u0_4]]) := Sep.sel S_7 [0, 1, 2, 3] (by decide)
    obtain ⟨X_8, S_9⟩ := Sep.turn X_7 S_8 MT_7 T_7
    refine RL.opD (by decide) (opv_assign rfl rfl) ?_
    refine RL.nil ?_
    refine thnN ?_
    refine W.ret ?_
    refine thnR ?_
    have S_10 : Sep [] h0.size hp8 [ownO (kF .f32) 25 (.slice none 0 0) ([] : List (Option Nat)), boxO bb4 [(.slice none 0 0), (.slice none 0 0), (.slice none 0 0)], boxO bb3 [(.int .i64 a2_0), (.int .i64 a2_1)], boxO bb2 [u1_0, u1_1, u1_2], boxO bb1 [(.int .i64 a0_0), (.int .i64 a0_1), (.bool a0_2), u0_3, u0_4]] := Sep.addNil S_9
    have S_11 : Sep [] h0.size hp8 [ownO (kF .f32) 25 (.slice none 0 0) ([] : List (Option Nat)), ownO (kF .f32) 25 (.slice none 0 0) ([] : List (Option Nat)), boxO bb4 [(.slice none 0 0), (.slice none 0 0), (.slice none 0 0)], boxO bb3 [(.int .i64 a2_0), (.int .i64 a2_1)], boxO bb2 [u1_0, u1_1, u1_2], boxO bb1 [(.int .i64 a0_0), (.int .i64 a0_1), (.bool a0_2), u0_3, u0_4]] := Sep.addNil S_10
    have S_12 : Sep [] h0.size hp8 [ownO (kF .f32) 25 (.slice none 0 0) ([] : List (Option Nat)), ownO (kF .f32) 25 (.slice none 0 0) ([] : List (Option Nat)), ownO (kF .f32) 25 (.slice none 0 0) ([] : List (Option Nat)), boxO bb4 [(.slice none 0 0), (.slice none 0 0), (.slice none 0 0)], boxO bb3 [(.int .i64 a2_0), (.int .i64 a2_1)], boxO bb2 [u1_0, u1_1, u1_2], boxO bb1 [(.int .i64 a0_0), (.int .i64 a0_1), (.bool a0_2), u0_3, u0_4]] := Sep.addNil S_11
    have er := Option.some.inj hp
    subst er
    exact Rt.cellA rfl rfl rfl Try.agg28 Try.size28 (Sep.at (o := boxO bb4 [(.slice none 0 0), (.slice none 0 0), (.slice none 0 0)]) S_12 3 rfl) rfl ⟨(.slice none 0 0), (.slice none 0 0), (.slice none 0 0), rfl, X_8, (Sep.sel S_12 [2, 1, 0] (by decide))⟩
  · rw [if_neg c2] at hp
    have c2 := eq_false_of_ne_true c2
    refine W.condF rfl c2 ?_
    refine W.skip ?_
    refine thnN ?_
    refine W.seq ?_
    obtain ⟨x4, hx4, hp⟩ := Option.bind_eq_some_iff.1 hp
    obtain ⟨x5, hx5, hp⟩ := Option.bind_eq_some_iff.1 hp
    refine W.sub (ψ := [(0, (.agg (List.toArray (α := Value) [(.int .i64 a0_0), (.int .i64 a0_1), (.bool a0_2), u0_3, u0_4]))), (1, (.agg (List.toArray (α := Value) [u1_0, u1_1, u1_2]))), (2, (.agg (List.toArray (α := Value) [(.int .i64 a2_0), (.int .i64 a2_1)]))), (3, (.pointer (some ⟨bb1, 0, none⟩))), (4, (.pointer (some ⟨bb2, 0, none⟩))), (5, (.pointer (some ⟨bb3, 0, none⟩))), (6, (.pointer (some ⟨bb4, 0, none⟩))), (7, (.bool false)), (17, (.bool x1))]) ⟨rfl, rfl, rfl, rfl, rfl, rfl, rfl, rfl, rfl, trivial⟩ ?_
    refine W.regionM [fun v _ => @Eq Value (.agg (List.toArray (α := Value) [(.int .i64 a0_0), (.int .i64 a0_1), (.bool a0_2), u0_3, u0_4])) v, fun v _ => @Eq Value (.agg (List.toArray (α := Value) [(.int .i64 a0_0), (.int .i64 a0_1), (.bool a0_2), u0_3, u0_4])) v, fun v _ => @Eq Value (.agg (List.toArray (α := Value) [u1_0, u1_1, u1_2])) v, fun v h => ∃ v1, ∃ v2, ∃ v3, @Eq Value v (.agg (List.toArray (α := Value) [v1, v2, v3])) ∧ Sep [] hp7.size h [ownO (kF .f32) 25 v1 x4.1, ownO (kF .f32) 25 v2 x4.2.1, ownO (kF .f32) 25 v3 x4.2.2], fun v _ => @Eq Value (.agg (List.toArray (α := Value) [(.int .i64 a2_0), (.int .i64 a2_1)])) v, fun v h => ∃ v4, ∃ v5, ∃ v6, @Eq Value v (.agg (List.toArray (α := Value) [v4, v5, v6])) ∧ Sep [] hp7.size h [ownO (kF .f32) 25 v4 x5.1, ownO (kF .f32) 25 v5 x5.2.1, ownO (kF .f32) 25 v6 x5.2.2]] [none, none, none, some (fun u => [Value.ownBlock (vget u 0), Value.ownBlock (vget u 1), Value.ownBlock (vget u 2)]), none, some (fun u => [Value.ownBlock (vget u 0), Value.ownBlock (vget u 1), Value.ownBlock (vget u 2)])] [] [[], [], [], [1, 2], [], [0, 3, 4]] [5] Try.mixed (by decide +kernel) (by decide +kernel) rfl rfl rfl (by decide +kernel) rfl ⟨fun _ _ _ h _ => h, fun _ _ _ h _ => h, fun _ _ _ h _ => h, fun _ _ _ ⟨u0_, u1_, u2_, e, h⟩ x => ⟨u0_, u1_, u2_, e, h.ext x⟩, fun _ _ _ h _ => h, fun _ _ _ ⟨u0_, u1_, u2_, e, h⟩ x => ⟨u0_, u1_, u2_, e, h.ext x⟩, trivial⟩ ?_ ?_
    · refine ⟨⟨rfl, ?_⟩, ⟨rfl, ?_⟩, ⟨rfl, ?_⟩, ⟨rfl, ?_⟩, ⟨rfl, ?_⟩, ⟨rfl, ?_⟩, trivial⟩
      · rintro hp12 E_1
        refine Dep.nil ?_
        refine GuardOK.none rfl ?_
        exact OpV.toDx (opv_loadA (us := [(.int .i64 a0_0), (.int .i64 a0_1), (.bool a0_2), u0_3, u0_4]) rfl Try.agg31 Try.size31 rfl (Sep.at (o := boxO bb1 [(.int .i64 a0_0), (.int .i64 a0_1), (.bool a0_2), u0_3, u0_4]) (Sep.ext S_7 E_1) 3 rfl) rfl rfl) rfl
      · rintro hp13 E_2
        refine Dep.nil ?_
        refine GuardOK.none rfl ?_
        exact OpV.toDx (opv_loadA (us := [(.int .i64 a0_0), (.int .i64 a0_1), (.bool a0_2), u0_3, u0_4]) rfl Try.agg31 Try.size31 rfl (Sep.at (o := boxO bb1 [(.int .i64 a0_0), (.int .i64 a0_1), (.bool a0_2), u0_3, u0_4]) (Sep.ext S_7 E_2) 3 rfl) rfl rfl) rfl
      · rintro hp14 E_3
        refine Dep.nil ?_
        refine GuardOK.none rfl ?_
        exact OpV.toDx (opv_loadA (us := [u1_0, u1_1, u1_2]) rfl Try.agg28 Try.size28 rfl (Sep.at (o := boxO bb2 [u1_0, u1_1, u1_2]) (Sep.ext S_7 E_3) 2 rfl) rfl rfl) rfl
      · rintro hp15 E_4 _ rfl _ rfl
        refine Dep.nil ?_
        refine GuardOK.none rfl ?_
        exact OpV.mono (opv_call (cap := []) (impl_stepped_ok _ _ _ _ _ _ (SL.up (SL.mod g0_3 (Mod.lift X_7 E_4) (Nat.le_refl _) nob) (Nat.le_trans (Nat.le_refl _) (Mod.size (Mod.lift X_7 E_4)))) _ _ (SL.up (SL.mod g0_4 (Mod.lift X_7 E_4) (Nat.le_refl _) nob) (Nat.le_trans (Nat.le_refl _) (Mod.size (Mod.lift X_7 E_4)))) _ _ (SL.up (SL.mod g1_0 (Mod.lift X_7 E_4) (Nat.le_refl _) nob) (Nat.le_trans (Nat.le_refl _) (Mod.size (Mod.lift X_7 E_4)))) _ _ (SL.up (SL.mod g1_1 (Mod.lift X_7 E_4) (Nat.le_refl _) nob) (Nat.le_trans (Nat.le_refl _) (Mod.size (Mod.lift X_7 E_4)))) _ _ (SL.up (SL.mod g1_2 (Mod.lift X_7 E_4) (Nat.le_refl _) nob) (Nat.le_trans (Nat.le_refl _) (Mod.size (Mod.lift X_7 E_4)))) _ hx4) rfl rfl ⟨rfl, rfl, trivial⟩ Try.func87 rfl rfl) (by rintro _ _ ⟨v1, v2, v3, rfl, M_, T_⟩; exact ⟨Mod.ext M_, ⟨v1, v2, v3, rfl, Sep.weak T_ (Ext.size E_4)⟩, Sep.fresh T_⟩)
      · rintro hp16 E_5
        refine Dep.nil ?_
        refine GuardOK.none rfl ?_
        exact OpV.toDx (opv_loadA (us := [(.int .i64 a2_0), (.int .i64 a2_1)]) rfl Try.agg50 Try.size50 rfl (Sep.at (o := boxO bb3 [(.int .i64 a2_0), (.int .i64 a2_1)]) (Sep.ext S_7 E_5) 1 rfl) rfl rfl) rfl
      · rintro hp17 E_6 _ rfl _ ⟨v1, v2, v3, rfl, T_8⟩ _ rfl
        refine Dep.nil ?_
        refine GuardOK.none rfl ?_
        exact OpV.mono (opv_call (cap := []) (impl_cutStrip_ok _ _ _ _ _ _ (SL.up (SL.mod g0_3 (Mod.lift X_7 E_6) (Nat.le_refl _) nob) (Nat.le_trans (Nat.le_refl _) (Mod.size (Mod.lift X_7 E_6)))) _ _ (SL.up (SL.mod g0_4 (Mod.lift X_7 E_6) (Nat.le_refl _) nob) (Nat.le_trans (Nat.le_refl _) (Mod.size (Mod.lift X_7 E_6)))) _ _ (ownO.read (Sep.at (o := ownO (kF .f32) 25 v1 x4.1) T_8 0 rfl)) _ _ (ownO.read (Sep.at (o := ownO (kF .f32) 25 v2 x4.2.1) T_8 1 rfl)) _ _ (ownO.read (Sep.at (o := ownO (kF .f32) 25 v3 x4.2.2) T_8 2 rfl)) _ _ _ hx5) rfl rfl ⟨rfl, rfl, rfl, trivial⟩ Try.func86 rfl rfl) (by rintro _ _ ⟨v4, v5, v6, rfl, M_, T_⟩; exact ⟨Mod.ext M_, ⟨v4, v5, v6, rfl, Sep.weak T_ (Ext.size E_6)⟩, Sep.fresh T_⟩)
    rintro hp18 E_7 _ ⟨v4, v5, v6, rfl, T_9⟩
    refine DepM.nil ?_
    intro PW_1 LK_
    have X_12 := Mod.lift X_7 E_7
    have S_17 := Sep.join S_7 (Mod.size X_7) (Ext.mod E_7 []) T_9
    show RL _ _ _ _ (_ :: _) _ _
    refine RL.op0 _ (opS_stored (cs := [(.slice none 0 0), (.slice none 0 0), (.slice none 0 0)]) (cs' := [v4, v5, v6]) (opv_storeA (us := [v4, v5, v6]) rfl Try.size28 rfl rfl (oneAll (ownO.one (Sep.at (o := ownO (kF .f32) 25 v4 x5.1) S_17 0 rfl)) (oneAll (ownO.one (Sep.at (o := ownO (kF .f32) 25 v5 x5.2.1) S_17 1 rfl)) (oneAll (ownO.one (Sep.at (o := ownO (kF .f32) 25 v6 x5.2.2) S_17 2 rfl)) rfl))) (Sep.at (o := boxO bb4 [(.slice none 0 0), (.slice none 0 0), (.slice none 0 0)]) S_17 3 rfl) rfl rfl) (Sep.at (o := boxO bb4 [(.slice none 0 0), (.slice none 0 0), (.slice none 0 0)]) S_17 3 rfl)) ?_
    rintro _ hp19 ⟨rfl, MT_11, T_11⟩
    have S_18 : Sep [] h0.size hp18 ([boxO bb4 [(.slice none 0 0), (.slice none 0 0), (.slice none 0 0)]] ++ [ownO (kF .f32) 25 v4 x5.1, ownO (kF .f32) 25 v5 x5.2.1, ownO (kF .f32) 25 v6 x5.2.2, boxO bb3 [(.int .i64 a2_0), (.int .i64 a2_1)], boxO bb2 [u1_0, u1_1, u1_2], boxO bb1 [(.int .i64 a0_0), (.int .i64 a0_1), (.bool a0_2), u0_3, u0_4]]) := Sep.sel S_17 [3, 0, 1, 2, 4, 5, 6] (by decide)
    obtain ⟨X_13, S_19⟩ := Sep.turn X_12 S_18 MT_11 T_11
    refine RL.opD (by decide) (opv_assign rfl rfl) ?_
    refine RL.nil ?_
    refine thnN ?_
    refine W.ret ?_
    have er := Option.some.inj hp
    subst er
    exact Rt.cellA rfl rfl rfl Try.agg28 Try.size28 (Sep.at (o := boxO bb4 [v4, v5, v6]) S_19 0 rfl) rfl ⟨v4, v5, v6, rfl, X_13, (Sep.sel S_19 [1, 2, 3] (by decide))⟩

set_option maxRecDepth 20000 in
theorem laws_FnExactStepStrip_ok (h0 : Heap) (a0_0 : Int) (a0_1 : Int) (a0_2 : Bool) (u0_3 : Value) (a0_3 : List (Option Nat)) (g0_3 : SL (kF .f32) h0.size h0 u0_3 a0_3) (u0_4 : Value) (a0_4 : List (Option Nat)) (g0_4 : SL (kF .f32) h0.size h0 u0_4 a0_4) (u1_0 : Value) (a1_0 : List (Option Nat)) (g1_0 : SL (kF .f32) h0.size h0 u1_0 a1_0) (u1_1 : Value) (a1_1 : List (Option Nat)) (g1_1 : SL (kF .f32) h0.size h0 u1_1 a1_1) (u1_2 : Value) (a1_2 : List (Option Nat)) (g1_2 : SL (kF .f32) h0.size h0 u1_2 a1_2) (a2_0 : Int) (a2_1 : Int) (r : Bool) (hp : laws_FnExactStepStrip a0_0 a0_1 a0_2 a0_3 a0_4 a1_0 a1_1 a1_2 a2_0 a2_1 = some r) : CallsH Try.prog 5 ([(.agg (List.toArray (α := Value) [(.int .i64 a0_0), (.int .i64 a0_1), (.bool a0_2), u0_3, u0_4])), (.agg (List.toArray (α := Value) [u1_0, u1_1, u1_2])), (.agg (List.toArray (α := Value) [(.int .i64 a2_0), (.int .i64 a2_1)]))].toArray ++ [].toArray) h0 (fun v h' => v = (.bool r) ∧ Mod [] h0 h' ∧ Sep [] h0.size h' []) := by
  unfold laws_FnExactStepStrip at hp
  refine callsH_of_W (l := [(.agg (List.toArray (α := Value) [(.int .i64 a0_0), (.int .i64 a0_1), (.bool a0_2), u0_3, u0_4])), (.agg (List.toArray (α := Value) [u1_0, u1_1, u1_2])), (.agg (List.toArray (α := Value) [(.int .i64 a2_0), (.int .i64 a2_1)]))]) (cap := []) 127 Try.func5 rfl rfl rfl ?_
  refine W.seq ?_
  refine W.region ?_
  refine RL.op _ (by decide) (opS_boxed (opv_boxA (cs := [(.int .i64 a0_0), (.int .i64 a0_1), (.bool a0_2), u0_3, u0_4]) rfl rfl)) ?_
  rintro _ hp1 ⟨bb1, rfl, MT_1, T_1⟩
  obtain ⟨X_1, S_1⟩ := Sep.turn0 (Mod.refl [] h0) (Sep.nil [] h0.size h0) MT_1 T_1
  refine RL.op _ (by decide) (opS_boxed (opv_boxA (cs := [u1_0, u1_1, u1_2]) rfl rfl)) ?_
  rintro _ hp2 ⟨bb2, rfl, MT_2, T_2⟩
  obtain ⟨X_2, S_2⟩ := Sep.turn0 X_1 S_1 MT_2 T_2
  refine RL.op _ (by decide) (opS_boxed (opv_boxA (cs := [(.int .i64 a2_0), (.int .i64 a2_1)]) rfl rfl)) ?_
  rintro _ hp3 ⟨bb3, rfl, MT_3, T_3⟩
  obtain ⟨X_3, S_3⟩ := Sep.turn0 X_2 S_2 MT_3 T_3
  refine RL.opD (by decide) (opv_assign rfl rfl) ?_
  refine RL.nil ?_
  refine thnN ?_
  refine W.seq ?_
  refine W.region ?_
  refine RL.opD (by decide) (opv_assign rfl rfl) ?_
  refine RL.nil ?_
  refine thnN ?_
  refine W.seq ?_
  obtain ⟨x1, hx1, hp⟩ := Option.bind_eq_some_iff.1 hp
  refine W.region ?_
  refine RL.opD (by decide) (opv_loadA (us := [(.int .i64 a0_0), (.int .i64 a0_1), (.bool a0_2), u0_3, u0_4]) rfl Try.agg24 Try.size24 rfl (Sep.at (o := boxO bb1 [(.int .i64 a0_0), (.int .i64 a0_1), (.bool a0_2), u0_3, u0_4]) S_3 2 rfl) rfl rfl) ?_
  refine RL.opD (by decide) (opv_move rfl rfl) ?_
  refine RL.op _ (by decide) (opv_call (cap := []) (laws_szSheet_ok _ _ _ _ _ _ (SL.up (SL.mod g0_3 X_3 (Nat.le_refl _) nob) (Nat.le_trans (Nat.le_refl _) (Mod.size X_3))) _ _ (SL.up (SL.mod g0_4 X_3 (Nat.le_refl _) nob) (Nat.le_trans (Nat.le_refl _) (Mod.size X_3))) _ _ hx1) rfl rfl ⟨rfl, rfl, trivial⟩ Try.func12 rfl rfl) ?_
  rintro _ hp4 ⟨rfl, MT_4, T_4⟩
  obtain ⟨X_4, S_4⟩ := Sep.turn0 X_3 S_3 MT_4 T_4
  refine RL.opD (by decide) (opv_assign rfl rfl) ?_
  refine RL.nil ?_
  refine thnN ?_
  refine W.seq ?_
  refine W.seq ?_
  refine W.region ?_
  refine RL.opD (by decide) (opv_move rfl rfl) ?_
  refine RL.opD (by decide) (opv_icmp rfl rfl rfl rfl) ?_
  refine RL.nil ?_
  refine thnN ?_
  by_cases c1 : (decide (x1 < 0)) = true
  · rw [if_pos c1] at hp
    refine W.condT rfl c1 ?_
    refine W.seq ?_
    refine W.region ?_
    refine RL.opD (by decide) (opv_assign rfl rfl) ?_
    refine RL.nil ?_
    refine thnN ?_
    refine W.ret ?_
    refine thnR ?_
    have er := Option.some.inj hp
    subst er
    exact Rt.one rfl rfl ⟨rfl, X_4, (Sep.nil _ _ _)⟩
  · rw [if_neg c1] at hp
    have c1 := eq_false_of_ne_true c1
    refine W.condF rfl c1 ?_
    refine W.skip ?_
    refine thnN ?_
    refine W.seq ?_
    obtain ⟨x2, hx2, hp⟩ := Option.bind_eq_some_iff.1 hp
    refine W.region ?_
    refine RL.opD (by decide) (opv_loadA (us := [u1_0, u1_1, u1_2]) rfl Try.agg38 Try.size38 rfl (Sep.at (o := boxO bb2 [u1_0, u1_1, u1_2]) S_4 1 rfl) rfl rfl) ?_
    refine RL.opD (by decide) (opv_move rfl rfl) ?_
    refine RL.op _ (by decide) (opv_call (cap := []) (laws_szField_ok _ _ _ (SL.up (SL.mod g1_0 X_4 (Nat.le_refl _) nob) (Nat.le_trans (Nat.le_refl _) (Mod.size X_4))) _ _ (SL.up (SL.mod g1_1 X_4 (Nat.le_refl _) nob) (Nat.le_trans (Nat.le_refl _) (Mod.size X_4))) _ _ (SL.up (SL.mod g1_2 X_4 (Nat.le_refl _) nob) (Nat.le_trans (Nat.le_refl _) (Mod.size X_4))) _ _ hx2) rfl rfl ⟨rfl, rfl, trivial⟩ Try.func21 rfl rfl) ?_
    rintro _ hp5 ⟨rfl, MT_5, T_5⟩
    obtain ⟨X_5, S_5⟩ := Sep.turn0 X_4 S_4 MT_5 T_5
    refine RL.opD (by decide) (opv_assign rfl rfl) ?_
    refine RL.nil ?_
    refine thnN ?_
    refine W.seq ?_
    refine W.seq ?_
    refine W.region ?_
    refine RL.opD (by decide) (opv_move rfl rfl) ?_
    refine RL.opD (by decide) (opv_icmp rfl rfl rfl rfl) ?_
    refine RL.nil ?_
    refine thnN ?_
    by_cases c2 : (decide (x2 < 0)) = true
    · rw [if_pos c2] at hp
      refine W.condT rfl c2 ?_
      refine W.seq ?_
      refine W.region ?_
      refine RL.opD (by decide) (opv_assign rfl rfl) ?_
      refine RL.nil ?_
      refine thnN ?_
      refine W.ret ?_
      refine thnR ?_
      have er := Option.some.inj hp
      subst er
      exact Rt.one rfl rfl ⟨rfl, X_5, (Sep.nil _ _ _)⟩
    · rw [if_neg c2] at hp
      have c2 := eq_false_of_ne_true c2
      refine W.condF rfl c2 ?_
      refine W.skip ?_
      refine thnN ?_
      refine W.seq ?_
      obtain ⟨x3, hx3, hp⟩ := Option.bind_eq_some_iff.1 hp
      obtain ⟨x4, hx4, hp⟩ := Option.bind_eq_some_iff.1 hp
      obtain ⟨x5, hx5, hp⟩ := Option.bind_eq_some_iff.1 hp
      obtain ⟨x6, hx6, hp⟩ := Option.bind_eq_some_iff.1 hp
      refine W.sub (ψ := [(0, (.agg (List.toArray (α := Value) [(.int .i64 a0_0), (.int .i64 a0_1), (.bool a0_2), u0_3, u0_4]))), (1, (.agg (List.toArray (α := Value) [u1_0, u1_1, u1_2]))), (2, (.agg (List.toArray (α := Value) [(.int .i64 a2_0), (.int .i64 a2_1)]))), (3, (.pointer (some ⟨bb1, 0, none⟩))), (4, (.pointer (some ⟨bb2, 0, none⟩))), (5, (.pointer (some ⟨bb3, 0, none⟩))), (6, (.bool false)), (7, (.int .i64 x2)), (23, (.bool (decide (x1 < 0)))), (28, (.bool (decide (x2 < 0))))]) ⟨rfl, rfl, rfl, rfl, rfl, rfl, rfl, rfl, rfl, rfl, trivial⟩ ?_
      refine W.regionL [fun v _ => @Eq Value (.agg (List.toArray (α := Value) [(.int .i64 a0_0), (.int .i64 a0_1), (.bool a0_2), u0_3, u0_4])) v, fun v h => ∃ v1, ∃ v2, @Eq Value v (.agg (List.toArray (α := Value) [(.int .i64 x3.1), (.int .i64 x3.2.1), (.bool x3.2.2.1), v1, v2])) ∧ Sep [] hp5.size h [ownO (kF .f32) 25 v1 x3.2.2.2.1, ownO (kF .f32) 25 v2 x3.2.2.2.2], fun v _ => @Eq Value (.agg (List.toArray (α := Value) [u1_0, u1_1, u1_2])) v, fun v h => ∃ v3, ∃ v4, ∃ v5, @Eq Value v (.agg (List.toArray (α := Value) [v3, v4, v5])) ∧ Sep [] hp5.size h [ownO (kF .f32) 25 v3 x4.1, ownO (kF .f32) 25 v4 x4.2.1, ownO (kF .f32) 25 v5 x4.2.2], fun v _ => @Eq Value (.agg (List.toArray (α := Value) [(.int .i64 a2_0), (.int .i64 a2_1)])) v, fun v h => @Eq Value v (.agg (List.toArray (α := Value) [(.int .i64 x5.1), (.int .i64 x5.2)])) ∧ Sep [] hp5.size h [], fun v h => ∃ v6, ∃ v7, ∃ v8, @Eq Value v (.tuple (List.toArray (α := Value) [(.agg (List.toArray (α := Value) [v6, v7, v8])), (.bool x6.2.2.2)])) ∧ Sep [] hp5.size h [ownO (kF .f32) 25 v6 x6.1, ownO (kF .f32) 25 v7 x6.2.1, ownO (kF .f32) 25 v8 x6.2.2.1], fun v h => ∃ v6, ∃ v7, ∃ v8, @Eq Value v (.tuple (List.toArray (α := Value) [(.agg (List.toArray (α := Value) [v6, v7, v8])), (.bool x6.2.2.2)])) ∧ Sep [] hp5.size h [ownO (kF .f32) 25 v6 x6.1, ownO (kF .f32) 25 v7 x6.2.1, ownO (kF .f32) 25 v8 x6.2.2.1], fun v h => ∃ v6, ∃ v7, ∃ v8, @Eq Value v (.agg (List.toArray (α := Value) [v6, v7, v8])) ∧ Sep [] hp5.size h [ownO (kF .f32) 25 v6 x6.1, ownO (kF .f32) 25 v7 x6.2.1, ownO (kF .f32) 25 v8 x6.2.2.1], fun v _ => @Eq Value (.bool x6.2.2.2) v, fun v h => ∃ b, @Eq Value v (.pointer (some ⟨b, 0, none⟩)) ∧ Sep [] hp5.size h [boxO b [(.slice none 0 0), (.slice none 0 0), (.slice none 0 0)]]] [none, some (fun u => [Value.ownBlock (vget u 3), Value.ownBlock (vget u 4)]), none, some (fun u => [Value.ownBlock (vget u 0), Value.ownBlock (vget u 1), Value.ownBlock (vget u 2)]), none, some (fun u => []), some (fun u => [Value.ownBlock (vget (vget u 0) 0), Value.ownBlock (vget (vget u 0) 1), Value.ownBlock (vget (vget u 0) 2)]), none, none, none, some (fun u => [ptrB u])] [none, none, none, none, none, none, none, some (36, fun u => u), some (29, fun u => vget u 0)] [9] [[], [0], [], [2], [], [4], [1, 3, 5], [6], [7], [7], []] [6, 7, 8, 9, 10] Try.mixed (by decide +kernel) (by decide +kernel) (fun _ _ _ h => h) rfl rfl rfl (by decide +kernel) rfl ⟨fun _ _ _ h _ => h, fun _ _ _ ⟨u0_, u1_, e, h⟩ x => ⟨u0_, u1_, e, h.ext x⟩, fun _ _ _ h _ => h, fun _ _ _ ⟨u0_, u1_, u2_, e, h⟩ x => ⟨u0_, u1_, u2_, e, h.ext x⟩, fun _ _ _ h _ => h, fun _ _ _ ⟨e, h⟩ x => ⟨e, h.ext x⟩, fun _ _ _ ⟨u0_, u1_, u2_, e, h⟩ x => ⟨u0_, u1_, u2_, e, h.ext x⟩, fun _ _ _ ⟨u0_, u1_, u2_, e, h⟩ x => ⟨u0_, u1_, u2_, e, h.ext x⟩, fun _ _ _ ⟨u0_, u1_, u2_, e, h⟩ x => ⟨u0_, u1_, u2_, e, h.ext x⟩, fun _ _ _ h _ => h, fun _ _ _ ⟨b, e, h⟩ x => ⟨b, e, h.ext x⟩, trivial⟩ ?_ (.cons ?_ (.nil)) ?_
      · refine ⟨⟨rfl, ?_⟩, ⟨rfl, ?_⟩, ⟨rfl, ?_⟩, ⟨rfl, ?_⟩, ⟨rfl, ?_⟩, ⟨rfl, ?_⟩, ⟨rfl, ?_⟩, ⟨rfl, ?_⟩, ⟨rfl, ?_⟩, ⟨rfl, ?_⟩, ⟨rfl, ?_⟩, trivial⟩
        · rintro hp12 E_1
          refine Dep.nil ?_
          refine GuardOK.none rfl ?_
          exact OpV.toDx (opv_loadA (us := [(.int .i64 a0_0), (.int .i64 a0_1), (.bool a0_2), u0_3, u0_4]) rfl Try.agg24 Try.size24 rfl (Sep.at (o := boxO bb1 [(.int .i64 a0_0), (.int .i64 a0_1), (.bool a0_2), u0_3, u0_4]) (Sep.ext S_5 E_1) 2 rfl) rfl rfl) rfl
        · rintro hp13 E_2 _ rfl
          refine Dep.nil ?_
          refine GuardOK.none rfl ?_
          exact OpV.mono (opv_call (cap := []) (laws_toSheet_ok _ _ _ _ _ _ (SL.up (SL.mod g0_3 (Mod.lift X_5 E_2) (Nat.le_refl _) nob) (Nat.le_trans (Nat.le_refl _) (Mod.size (Mod.lift X_5 E_2)))) _ _ (SL.up (SL.mod g0_4 (Mod.lift X_5 E_2) (Nat.le_refl _) nob) (Nat.le_trans (Nat.le_refl _) (Mod.size (Mod.lift X_5 E_2)))) _ hx3) rfl rfl ⟨rfl, trivial⟩ Try.func14 rfl rfl) (by rintro _ _ ⟨v1, v2, rfl, M_, T_⟩; exact ⟨Mod.ext M_, ⟨v1, v2, rfl, Sep.weak T_ (Ext.size E_2)⟩, Sep.fresh T_⟩)
        · rintro hp14 E_3
          refine Dep.nil ?_
          refine GuardOK.none rfl ?_
          exact OpV.toDx (opv_loadA (us := [u1_0, u1_1, u1_2]) rfl Try.agg38 Try.size38 rfl (Sep.at (o := boxO bb2 [u1_0, u1_1, u1_2]) (Sep.ext S_5 E_3) 1 rfl) rfl rfl) rfl
        · rintro hp15 E_4 _ rfl
          refine Dep.nil ?_
          refine GuardOK.none rfl ?_
          exact OpV.mono (opv_call (cap := []) (laws_toField_ok _ _ _ (SL.up (SL.mod g1_0 (Mod.lift X_5 E_4) (Nat.le_refl _) nob) (Nat.le_trans (Nat.le_refl _) (Mod.size (Mod.lift X_5 E_4)))) _ _ (SL.up (SL.mod g1_1 (Mod.lift X_5 E_4) (Nat.le_refl _) nob) (Nat.le_trans (Nat.le_refl _) (Mod.size (Mod.lift X_5 E_4)))) _ _ (SL.up (SL.mod g1_2 (Mod.lift X_5 E_4) (Nat.le_refl _) nob) (Nat.le_trans (Nat.le_refl _) (Mod.size (Mod.lift X_5 E_4)))) _ hx4) rfl rfl ⟨rfl, trivial⟩ Try.func23 rfl rfl) (by rintro _ _ ⟨v3, v4, v5, rfl, M_, T_⟩; exact ⟨Mod.ext M_, ⟨v3, v4, v5, rfl, Sep.weak T_ (Ext.size E_4)⟩, Sep.fresh T_⟩)
        · rintro hp16 E_5
          refine Dep.nil ?_
          refine GuardOK.none rfl ?_
          exact OpV.toDx (opv_loadA (us := [(.int .i64 a2_0), (.int .i64 a2_1)]) rfl Try.agg48 Try.size48 rfl (Sep.at (o := boxO bb3 [(.int .i64 a2_0), (.int .i64 a2_1)]) (Sep.ext S_5 E_5) 0 rfl) rfl rfl) rfl
        · rintro hp17 E_6 _ rfl
          refine Dep.nil ?_
          refine GuardOK.none rfl ?_
          exact OpV.mono (opv_call (cap := []) (laws_toStrip_ok _ _ _ _ hx5) rfl rfl ⟨rfl, trivial⟩ Try.func29 rfl rfl) (by rintro _ _ ⟨rfl, M_, T_⟩; exact ⟨Mod.ext M_, ⟨rfl, Sep.weak T_ (Ext.size E_6)⟩, Sep.fresh T_⟩)
        · rintro hp18 E_7 _ ⟨v1, v2, rfl, T_6⟩ _ ⟨v3, v4, v5, rfl, T_7⟩ _ ⟨rfl, T_8⟩
          refine Dep.nil ?_
          refine GuardOK.none rfl ?_
          exact OpV.mono (opv_call (cap := []) (spec_StepStrip_ok _ _ _ _ _ _ (ownO.read (Sep.at (o := ownO (kF .f32) 25 v1 x3.2.2.2.1) T_6 0 rfl)) _ _ (ownO.read (Sep.at (o := ownO (kF .f32) 25 v2 x3.2.2.2.2) T_6 1 rfl)) _ _ (ownO.read (Sep.at (o := ownO (kF .f32) 25 v3 x4.1) T_7 0 rfl)) _ _ (ownO.read (Sep.at (o := ownO (kF .f32) 25 v4 x4.2.1) T_7 1 rfl)) _ _ (ownO.read (Sep.at (o := ownO (kF .f32) 25 v5 x4.2.2) T_7 2 rfl)) _ _ _ hx6) rfl rfl ⟨rfl, rfl, rfl, trivial⟩ Try.func28 rfl rfl) (by rintro _ _ ⟨v6, v7, v8, rfl, M_, T_⟩; exact ⟨Mod.ext M_, ⟨v6, v7, v8, rfl, Sep.weak T_ (Ext.size E_7)⟩, Sep.fresh T_⟩)
        · rintro hp19 E_8 _ ⟨v6, v7, v8, rfl, T_9⟩
          refine Dep.nil ?_
          refine GuardOK.none rfl ?_
          exact OpV.mono (opv_move rfl rfl) (by rintro _ _ ⟨rfl, rfl⟩; exact ⟨⟨Ext.refl _, v6, v7, v8, rfl, T_9⟩, _, rfl, rfl⟩)
        · rintro hp20 E_9 _ ⟨v6, v7, v8, rfl, T_9⟩
          refine Dep.nil ?_
          refine GuardOK.none rfl ?_
          exact OpV.mono (opv_extract rfl rfl rfl) (by rintro _ _ ⟨rfl, rfl⟩; exact ⟨⟨Ext.refl _, v6, v7, v8, rfl, T_9⟩, _, rfl, rfl⟩)
        · rintro hp21 E_10 _ ⟨v6, v7, v8, rfl, T_9⟩
          refine Dep.nil ?_
          refine GuardOK.none rfl ?_
          exact OpV.toDx (opv_extract rfl rfl rfl) rfl
        · rintro hp22 E_11
          refine Dep.nil ?_
          refine GuardOK.none rfl ?_
          exact OpV.mono (opS_boxed (opv_alloc (cs := [(.slice none 0 0), (.slice none 0 0), (.slice none 0 0)]) rfl Try.zero28 rfl)) (by rintro _ _ ⟨b_, rfl, M_, T_⟩; exact ⟨Mod.ext M_, ⟨b_, rfl, Sep.weak T_ (Ext.size E_11)⟩, Sep.fresh T_⟩)
      · refine ⟨[7], _, rfl, rfl, rfl, rfl, ?_⟩
        rintro hp23 E_12 _ ⟨v6, v7, v8, rfl, T_9⟩
        refine Dep.nil ?_
        exact ⟨_, opy_extract rfl rfl rfl, ⟨Ext.refl _, rfl⟩⟩
      rintro hp24 E_13 _ ⟨v6, v7, v8, rfl, T_9⟩ z7_ _ z8_ _ _ rfl _ ⟨bb4, rfl, T_10⟩
      refine DepM.nil ?_
      intro PW_1 LK_
      have ez7_ : z7_ = (.tuple (List.toArray (α := Value) [(.agg (List.toArray (α := Value) [v6, v7, v8])), (.bool x6.2.2.2)])) := LK_ 7 _ _ _ _ _ (by decide) rfl rfl rfl rfl
      subst z7_
      have ez8_ : z8_ = (.agg (List.toArray (α := Value) [v6, v7, v8])) := LK_ 8 _ _ _ _ _ (by decide) rfl rfl rfl rfl
      subst z8_
      have X_12 := Mod.lift X_5 E_13
      have S_13 := Sep.join S_5 (Mod.size X_5) (Ext.mod E_13 []) (Sep.both T_9 T_10 (Apt.symm (Apt.of PW_1 0 4 rfl rfl (by decide))))
      show RL _ _ _ _ (_ :: _) _ _
      refine RL.op0 _ (opS_stored (cs := [(.slice none 0 0), (.slice none 0 0), (.slice none 0 0)]) (cs' := [v6, v7, v8]) (opv_storeA (us := [v6, v7, v8]) rfl Try.size28 rfl rfl (oneAll (ownO.one (Sep.at (o := ownO (kF .f32) 25 v6 x6.1) S_13 0 rfl)) (oneAll (ownO.one (Sep.at (o := ownO (kF .f32) 25 v7 x6.2.1) S_13 1 rfl)) (oneAll (ownO.one (Sep.at (o := ownO (kF .f32) 25 v8 x6.2.2.1) S_13 2 rfl)) rfl))) (Sep.at (o := boxO bb4 [(.slice none 0 0), (.slice none 0 0), (.slice none 0 0)]) S_13 3 rfl) rfl rfl) (Sep.at (o := boxO bb4 [(.slice none 0 0), (.slice none 0 0), (.slice none 0 0)]) S_13 3 rfl)) ?_
      rintro _ hp25 ⟨rfl, MT_12, T_12⟩
      have S_14 : Sep [] h0.size hp24 ([boxO bb4 [(.slice none 0 0), (.slice none 0 0), (.slice none 0 0)]] ++ [ownO (kF .f32) 25 v6 x6.1, ownO (kF .f32) 25 v7 x6.2.1, ownO (kF .f32) 25 v8 x6.2.2.1, boxO bb3 [(.int .i64 a2_0), (.int .i64 a2_1)], boxO bb2 [u1_0, u1_1, u1_2], boxO bb1 [(.int .i64 a0_0), (.int .i64 a0_1), (.bool a0_2), u0_3, u0_4]]) := Sep.sel S_13 [3, 0, 1, 2, 4, 5, 6] (by decide)
      obtain ⟨X_13, S_15⟩ := Sep.turn X_12 S_14 MT_12 T_12
      refine RL.opD (by decide) (opv_assign rfl rfl) ?_
      refine RL.nil ?_
      refine thnN ?_
      refine W.seq ?_
      obtain ⟨x7, hx7, hp⟩ := Option.bind_eq_some_iff.1 hp
      refine W.region ?_
      refine RL.opD (by decide) (opv_loadA (us := [(.int .i64 a0_0), (.int .i64 a0_1), (.bool a0_2), u0_3, u0_4]) rfl Try.agg24 Try.size24 rfl (Sep.at (o := boxO bb1 [(.int .i64 a0_0), (.int .i64 a0_1), (.bool a0_2), u0_3, u0_4]) S_15 6 rfl) rfl rfl) ?_
      refine RL.op _ (by decide) (opv_call (cap := []) (laws_toSheet_ok _ _ _ _ _ _ (SL.up (SL.mod g0_3 X_13 (Nat.le_refl _) nob) (Nat.le_trans (Nat.le_refl _) (Mod.size X_13))) _ _ (SL.up (SL.mod g0_4 X_13 (Nat.le_refl _) nob) (Nat.le_trans (Nat.le_refl _) (Mod.size X_13))) _ hx7) rfl rfl ⟨rfl, trivial⟩ Try.func14 rfl rfl) ?_
      rintro _ hp26 ⟨v17, v18, rfl, MT_13, T_13⟩
      obtain ⟨X_14, S_16⟩ := Sep.turn0 X_13 S_15 MT_13 T_13
      refine RL.op _ (by decide) (opS_boxed (opv_alloc (cs := [(.int .i64 0), (.int .i64 0), (.bool false), (.slice none 0 0), (.slice none 0 0)]) rfl Try.zero31 rfl)) ?_
      rintro _ hp27 ⟨bb5, rfl, MT_14, T_14⟩
      obtain ⟨X_15, S_17⟩ := Sep.turn0 X_14 S_16 MT_14 T_14
      refine RL.op0 _ (opS_stored (cs := [(.int .i64 0), (.int .i64 0), (.bool false), (.slice none 0 0), (.slice none 0 0)]) (cs' := [(.int .i64 x7.1), (.int .i64 x7.2.1), (.bool x7.2.2.1), v17, v18]) (opv_storeA (us := [(.int .i64 x7.1), (.int .i64 x7.2.1), (.bool x7.2.2.1), v17, v18]) rfl Try.size31 rfl rfl (oneAll rfl (oneAll rfl (oneAll rfl (oneAll (ownO.one (Sep.at (o := ownO (kF .f32) 25 v17 x7.2.2.2.1) S_17 1 rfl)) (oneAll (ownO.one (Sep.at (o := ownO (kF .f32) 25 v18 x7.2.2.2.2) S_17 2 rfl)) rfl))))) (Sep.at (o := boxO bb5 [(.int .i64 0), (.int .i64 0), (.bool false), (.slice none 0 0), (.slice none 0 0)]) S_17 0 rfl) rfl rfl) (Sep.at (o := boxO bb5 [(.int .i64 0), (.int .i64 0), (.bool false), (.slice none 0 0), (.slice none 0 0)]) S_17 0 rfl)) ?_
      rintro _ hp28 ⟨rfl, MT_15, T_15⟩
      have S_18 : Sep [] h0.size hp27 ([boxO bb5 [(.int .i64 0), (.int .i64 0), (.bool false), (.slice none 0 0), (.slice none 0 0)]] ++ [ownO (kF .f32) 25 v17 x7.2.2.2.1, ownO (kF .f32) 25 v18 x7.2.2.2.2, boxO bb4 [v6, v7, v8], ownO (kF .f32) 25 v6 x6.1, ownO (kF .f32) 25 v7 x6.2.1, ownO (kF .f32) 25 v8 x6.2.2.1, boxO bb3 [(.int .i64 a2_0), (.int .i64 a2_1)], boxO bb2 [u1_0, u1_1, u1_2], boxO bb1 [(.int .i64 a0_0), (.int .i64 a0_1), (.bool a0_2), u0_3, u0_4]]) := Sep.sel S_17 [0, 1, 2, 3, 4, 5, 6, 7, 8, 9] (by decide)
      obtain ⟨X_16, S_19⟩ := Sep.turn X_15 S_18 MT_15 T_15
      refine RL.nil ?_
      refine thnN ?_
      refine W.seq ?_
      obtain ⟨x8, hx8, hp⟩ := Option.bind_eq_some_iff.1 hp
      refine W.region ?_
      refine RL.opD (by decide) (opv_loadA (us := [u1_0, u1_1, u1_2]) rfl Try.agg38 Try.size38 rfl (Sep.at (o := boxO bb2 [u1_0, u1_1, u1_2]) S_19 8 rfl) rfl rfl) ?_
      refine RL.op _ (by decide) (opv_call (cap := []) (laws_toField_ok _ _ _ (SL.up (SL.mod g1_0 X_16 (Nat.le_refl _) nob) (Nat.le_trans (Nat.le_refl _) (Mod.size X_16))) _ _ (SL.up (SL.mod g1_1 X_16 (Nat.le_refl _) nob) (Nat.le_trans (Nat.le_refl _) (Mod.size X_16))) _ _ (SL.up (SL.mod g1_2 X_16 (Nat.le_refl _) nob) (Nat.le_trans (Nat.le_refl _) (Mod.size X_16))) _ hx8) rfl rfl ⟨rfl, trivial⟩ Try.func23 rfl rfl) ?_
      rintro _ hp29 ⟨v19, v20, v21, rfl, MT_16, T_16⟩
      obtain ⟨X_17, S_20⟩ := Sep.turn0 X_16 S_19 MT_16 T_16
      refine RL.op _ (by decide) (opS_boxed (opv_alloc (cs := [(.slice none 0 0), (.slice none 0 0), (.slice none 0 0)]) rfl Try.zero28 rfl)) ?_
      rintro _ hp30 ⟨bb6, rfl, MT_17, T_17⟩
      obtain ⟨X_18, S_21⟩ := Sep.turn0 X_17 S_20 MT_17 T_17
      refine RL.op0 _ (opS_stored (cs := [(.slice none 0 0), (.slice none 0 0), (.slice none 0 0)]) (cs' := [v19, v20, v21]) (opv_storeA (us := [v19, v20, v21]) rfl Try.size28 rfl rfl (oneAll (ownO.one (Sep.at (o := ownO (kF .f32) 25 v19 x8.1) S_21 1 rfl)) (oneAll (ownO.one (Sep.at (o := ownO (kF .f32) 25 v20 x8.2.1) S_21 2 rfl)) (oneAll (ownO.one (Sep.at (o := ownO (kF .f32) 25 v21 x8.2.2) S_21 3 rfl)) rfl))) (Sep.at (o := boxO bb6 [(.slice none 0 0), (.slice none 0 0), (.slice none 0 0)]) S_21 0 rfl) rfl rfl) (Sep.at (o := boxO bb6 [(.slice none 0 0), (.slice none 0 0), (.slice none 0 0)]) S_21 0 rfl)) ?_
      rintro _ hp31 ⟨rfl, MT_18, T_18⟩
      have S_22 : Sep [] h0.size hp30 ([boxO bb6 [(.slice none 0 0), (.slice none 0 0), (.slice none 0 0)]] ++ [ownO (kF .f32) 25 v19 x8.1, ownO (kF .f32) 25 v20 x8.2.1, ownO (kF .f32) 25 v21 x8.2.2, boxO bb5 [(.int .i64 x7.1), (.int .i64 x7.2.1), (.bool x7.2.2.1), v17, v18], ownO (kF .f32) 25 v17 x7.2.2.2.1, ownO (kF .f32) 25 v18 x7.2.2.2.2, boxO bb4 [v6, v7, v8], ownO (kF .f32) 25 v6 x6.1, ownO (kF .f32) 25 v7 x6.2.1, ownO (kF .f32) 25 v8 x6.2.2.1, boxO bb3 [(.int .i64 a2_0), (.int .i64 a2_1)], boxO bb2 [u1_0, u1_1, u1_2], boxO bb1 [(.int .i64 a0_0), (.int .i64 a0_1), (.bool a0_2), u0_3, u0_4]]) := Sep.sel S_21 [0, 1, 2, 3, 4, 5, 6, 7, 8, 9, 10, 11, 12, 13] (by decide)
      obtain ⟨X_19, S_23⟩ := Sep.turn X_18 S_22 MT_18 T_18
      refine RL.nil ?_
      refine thnN ?_
      refine W.seq ?_
      obtain ⟨x9, hx9, hp⟩ := Option.bind_eq_some_iff.1 hp
      obtain ⟨x10, hx10, hp⟩ := Option.bind_eq_some_iff.1 hp
      refine W.sub (ψ := [(0, (.agg (List.toArray (α := Value) [(.int .i64 a0_0), (.int .i64 a0_1), (.bool a0_2), u0_3, u0_4]))), (1, (.agg (List.toArray (α := Value) [u1_0, u1_1, u1_2]))), (2, (.agg (List.toArray (α := Value) [(.int .i64 a2_0), (.int .i64 a2_1)]))), (3, (.pointer (some ⟨bb1, 0, none⟩))), (4, (.pointer (some ⟨bb2, 0, none⟩))), (5, (.pointer (some ⟨bb3, 0, none⟩))), (6, (.bool false)), (7, (.int .i64 x2)), (23, (.bool (decide (x1 < 0)))), (28, (.bool (decide (x2 < 0)))), (8, (.pointer (some ⟨bb4, 0, none⟩))), (9, (.bool x6.2.2.2)), (10, (.pointer (some ⟨bb5, 0, none⟩))), (11, (.pointer (some ⟨bb6, 0, none⟩)))]) ⟨rfl, rfl, rfl, rfl, rfl, rfl, rfl, rfl, rfl, rfl, rfl, rfl, rfl, rfl, trivial⟩ ?_
      refine W.regionL [fun v _ => @Eq Value (.agg (List.toArray (α := Value) [(.int .i64 x7.1), (.int .i64 x7.2.1), (.bool x7.2.2.1), v17, v18])) v, fun v _ => @Eq Value (.agg (List.toArray (α := Value) [v19, v20, v21])) v, fun v _ => @Eq Value (.agg (List.toArray (α := Value) [(.int .i64 a2_0), (.int .i64 a2_1)])) v, fun v h => @Eq Value v (.agg (List.toArray (α := Value) [(.int .i64 x9.1), (.int .i64 x9.2)])) ∧ Sep [] hp31.size h [], fun v h => ∃ v22, ∃ v23, ∃ v24, @Eq Value v (.tuple (List.toArray (α := Value) [(.agg (List.toArray (α := Value) [v22, v23, v24])), (.bool x10.2.2.2)])) ∧ Sep [] hp31.size h [ownO (kF .f32) 25 v22 x10.1, ownO (kF .f32) 25 v23 x10.2.1, ownO (kF .f32) 25 v24 x10.2.2.1], fun v h => ∃ v22, ∃ v23, ∃ v24, @Eq Value v (.tuple (List.toArray (α := Value) [(.agg (List.toArray (α := Value) [v22, v23, v24])), (.bool x10.2.2.2)])) ∧ Sep [] hp31.size h [ownO (kF .f32) 25 v22 x10.1, ownO (kF .f32) 25 v23 x10.2.1, ownO (kF .f32) 25 v24 x10.2.2.1], fun v h => ∃ v22, ∃ v23, ∃ v24, @Eq Value v (.agg (List.toArray (α := Value) [v22, v23, v24])) ∧ Sep [] hp31.size h [ownO (kF .f32) 25 v22 x10.1, ownO (kF .f32) 25 v23 x10.2.1, ownO (kF .f32) 25 v24 x10.2.2.1], fun v _ => @Eq Value (.bool x10.2.2.2) v, fun v h => ∃ b, @Eq Value v (.pointer (some ⟨b, 0, none⟩)) ∧ Sep [] hp31.size h [boxO b [(.slice none 0 0), (.slice none 0 0), (.slice none 0 0)]]] [none, none, none, some (fun u => []), some (fun u => [Value.ownBlock (vget (vget u 0) 0), Value.ownBlock (vget (vget u 0) 1), Value.ownBlock (vget (vget u 0) 2)]), none, none, none, some (fun u => [ptrB u])] [none, none, none, none, none, some (48, fun u => u), some (43, fun u => vget u 0)] [7] [[], [], [], [2], [0, 1, 3], [4], [5], [5], []] [4, 5, 6, 7, 8] Try.mixed (by decide +kernel) (by decide +kernel) (fun _ _ _ h => h) rfl rfl rfl (by decide +kernel) rfl ⟨fun _ _ _ h _ => h, fun _ _ _ h _ => h, fun _ _ _ h _ => h, fun _ _ _ ⟨e, h⟩ x => ⟨e, h.ext x⟩, fun _ _ _ ⟨u0_, u1_, u2_, e, h⟩ x => ⟨u0_, u1_, u2_, e, h.ext x⟩, fun _ _ _ ⟨u0_, u1_, u2_, e, h⟩ x => ⟨u0_, u1_, u2_, e, h.ext x⟩, fun _ _ _ ⟨u0_, u1_, u2_, e, h⟩ x => ⟨u0_, u1_, u2_, e, h.ext x⟩, fun _ _ _ h _ => h, fun _ _ _ ⟨b, e, h⟩ x => ⟨b, e, h.ext x⟩, trivial⟩ ?_ (.cons ?_ (.nil)) ?_
      · refine ⟨⟨rfl, ?_⟩, ⟨rfl, ?_⟩, ⟨rfl, ?_⟩, ⟨rfl, ?_⟩, ⟨rfl, ?_⟩, ⟨rfl, ?_⟩, ⟨rfl, ?_⟩, ⟨rfl, ?_⟩, ⟨rfl, ?_⟩, trivial⟩
        · rintro hp36 E_14
          refine Dep.nil ?_
          refine GuardOK.none rfl ?_
          exact OpV.toDx (opv_loadA (us := [(.int .i64 x7.1), (.int .i64 x7.2.1), (.bool x7.2.2.1), v17, v18]) rfl Try.agg31 Try.size31 rfl (Sep.at (o := boxO bb5 [(.int .i64 x7.1), (.int .i64 x7.2.1), (.bool x7.2.2.1), v17, v18]) (Sep.ext S_23 E_14) 4 rfl) rfl rfl) rfl
        · rintro hp37 E_15
          refine Dep.nil ?_
          refine GuardOK.none rfl ?_
          exact OpV.toDx (opv_loadA (us := [v19, v20, v21]) rfl Try.agg28 Try.size28 rfl (Sep.at (o := boxO bb6 [v19, v20, v21]) (Sep.ext S_23 E_15) 0 rfl) rfl rfl) rfl
        · rintro hp38 E_16
          refine Dep.nil ?_
          refine GuardOK.none rfl ?_
          exact OpV.toDx (opv_loadA (us := [(.int .i64 a2_0), (.int .i64 a2_1)]) rfl Try.agg48 Try.size48 rfl (Sep.at (o := boxO bb3 [(.int .i64 a2_0), (.int .i64 a2_1)]) (Sep.ext S_23 E_16) 11 rfl) rfl rfl) rfl
        · rintro hp39 E_17 _ rfl
          refine Dep.nil ?_
          refine GuardOK.none rfl ?_
          exact OpV.mono (opv_call (cap := []) (laws_toStrip_ok _ _ _ _ hx9) rfl rfl ⟨rfl, trivial⟩ Try.func29 rfl rfl) (by rintro _ _ ⟨rfl, M_, T_⟩; exact ⟨Mod.ext M_, ⟨rfl, Sep.weak T_ (Ext.size E_17)⟩, Sep.fresh T_⟩)
        · rintro hp40 E_18 _ rfl _ rfl _ ⟨rfl, T_19⟩
          refine Dep.nil ?_
          refine GuardOK.none rfl ?_
          exact OpV.mono (opv_call (cap := []) (impl_StepStrip_ok _ _ _ _ _ _ (ownO.read (Sep.at (o := ownO (kF .f32) 25 v17 x7.2.2.2.1) (Sep.ext S_23 E_18) 5 rfl)) _ _ (ownO.read (Sep.at (o := ownO (kF .f32) 25 v18 x7.2.2.2.2) (Sep.ext S_23 E_18) 6 rfl)) _ _ (ownO.read (Sep.at (o := ownO (kF .f32) 25 v19 x8.1) (Sep.ext S_23 E_18) 1 rfl)) _ _ (ownO.read (Sep.at (o := ownO (kF .f32) 25 v20 x8.2.1) (Sep.ext S_23 E_18) 2 rfl)) _ _ (ownO.read (Sep.at (o := ownO (kF .f32) 25 v21 x8.2.2) (Sep.ext S_23 E_18) 3 rfl)) _ _ _ hx10) rfl rfl ⟨rfl, rfl, rfl, trivial⟩ Try.func30 rfl rfl) (by rintro _ _ ⟨v22, v23, v24, rfl, M_, T_⟩; exact ⟨Mod.ext M_, ⟨v22, v23, v24, rfl, Sep.weak T_ (Ext.size E_18)⟩, Sep.fresh T_⟩)
        · rintro hp41 E_19 _ ⟨v22, v23, v24, rfl, T_20⟩
          refine Dep.nil ?_
          refine GuardOK.none rfl ?_
          exact OpV.mono (opv_move rfl rfl) (by rintro _ _ ⟨rfl, rfl⟩; exact ⟨⟨Ext.refl _, v22, v23, v24, rfl, T_20⟩, _, rfl, rfl⟩)
        · rintro hp42 E_20 _ ⟨v22, v23, v24, rfl, T_20⟩
          refine Dep.nil ?_
          refine GuardOK.none rfl ?_
          exact OpV.mono (opv_extract rfl rfl rfl) (by rintro _ _ ⟨rfl, rfl⟩; exact ⟨⟨Ext.refl _, v22, v23, v24, rfl, T_20⟩, _, rfl, rfl⟩)
        · rintro hp43 E_21 _ ⟨v22, v23, v24, rfl, T_20⟩
          refine Dep.nil ?_
          refine GuardOK.none rfl ?_
          exact OpV.toDx (opv_extract rfl rfl rfl) rfl
        · rintro hp44 E_22
          refine Dep.nil ?_
          refine GuardOK.none rfl ?_
          exact OpV.mono (opS_boxed (opv_alloc (cs := [(.slice none 0 0), (.slice none 0 0), (.slice none 0 0)]) rfl Try.zero28 rfl)) (by rintro _ _ ⟨b_, rfl, M_, T_⟩; exact ⟨Mod.ext M_, ⟨b_, rfl, Sep.weak T_ (Ext.size E_22)⟩, Sep.fresh T_⟩)
      · refine ⟨[5], _, rfl, rfl, rfl, rfl, ?_⟩
        rintro hp45 E_23 _ ⟨v22, v23, v24, rfl, T_20⟩
        refine Dep.nil ?_
        exact ⟨_, opy_extract rfl rfl rfl, ⟨Ext.refl _, rfl⟩⟩
      rintro hp46 E_24 _ ⟨v22, v23, v24, rfl, T_20⟩ z5_ _ z6_ _ _ rfl _ ⟨bb7, rfl, T_21⟩
      refine DepM.nil ?_
      intro PW_2 LK_
      have ez5_ : z5_ = (.tuple (List.toArray (α := Value) [(.agg (List.toArray (α := Value) [v22, v23, v24])), (.bool x10.2.2.2)])) := LK_ 5 _ _ _ _ _ (by decide) rfl rfl rfl rfl
      subst z5_
      have ez6_ : z6_ = (.agg (List.toArray (α := Value) [v22, v23, v24])) := LK_ 6 _ _ _ _ _ (by decide) rfl rfl rfl rfl
      subst z6_
      have X_24 := Mod.lift X_19 E_24
      have S_29 := Sep.join S_23 (Mod.size X_19) (Ext.mod E_24 []) (Sep.both T_20 T_21 (Apt.symm (Apt.of PW_2 0 4 rfl rfl (by decide))))
      show RL _ _ _ _ (_ :: _) _ _
      refine RL.op0 _ (opS_stored (cs := [(.slice none 0 0), (.slice none 0 0), (.slice none 0 0)]) (cs' := [v22, v23, v24]) (opv_storeA (us := [v22, v23, v24]) rfl Try.size28 rfl rfl (oneAll (ownO.one (Sep.at (o := ownO (kF .f32) 25 v22 x10.1) S_29 0 rfl)) (oneAll (ownO.one (Sep.at (o := ownO (kF .f32) 25 v23 x10.2.1) S_29 1 rfl)) (oneAll (ownO.one (Sep.at (o := ownO (kF .f32) 25 v24 x10.2.2.1) S_29 2 rfl)) rfl))) (Sep.at (o := boxO bb7 [(.slice none 0 0), (.slice none 0 0), (.slice none 0 0)]) S_29 3 rfl) rfl rfl) (Sep.at (o := boxO bb7 [(.slice none 0 0), (.slice none 0 0), (.slice none 0 0)]) S_29 3 rfl)) ?_
      rintro _ hp47 ⟨rfl, MT_23, T_23⟩
      have S_30 : Sep [] h0.size hp46 ([boxO bb7 [(.slice none 0 0), (.slice none 0 0), (.slice none 0 0)]] ++ [ownO (kF .f32) 25 v22 x10.1, ownO (kF .f32) 25 v23 x10.2.1, ownO (kF .f32) 25 v24 x10.2.2.1, boxO bb6 [v19, v20, v21], ownO (kF .f32) 25 v19 x8.1, ownO (kF .f32) 25 v20 x8.2.1, ownO (kF .f32) 25 v21 x8.2.2, boxO bb5 [(.int .i64 x7.1), (.int .i64 x7.2.1), (.bool x7.2.2.1), v17, v18], ownO (kF .f32) 25 v17 x7.2.2.2.1, ownO (kF .f32) 25 v18 x7.2.2.2.2, boxO bb4 [v6, v7, v8], ownO (kF .f32) 25 v6 x6.1, ownO (kF .f32) 25 v7 x6.2.1, ownO (kF .f32) 25 v8 x6.2.2.1, boxO bb3 [(.int .i64 a2_0), (.int .i64 a2_1)], boxO bb2 [u1_0, u1_1, u1_2], boxO bb1 [(.int .i64 a0_0), (.int .i64 a0_1), (.bool a0_2), u0_3, u0_4]]) := Sep.sel S_29 [3, 0, 1, 2, 4, 5, 6, 7, 8, 9, 10, 11, 12, 13, 14, 15, 16, 17] (by decide)
      obtain ⟨X_25, S_31⟩ := Sep.turn X_24 S_30 MT_23 T_23
      refine RL.opD (by decide) (opv_assign rfl rfl) ?_
      refine RL.nil ?_
      refine thnN ?_
      refine W.seq ?_
      refine W.seq ?_
      obtain ⟨x11, hy1, hp⟩ := Option.bind_eq_some_iff.1 hp
      refine W.cut (fun φ' h' => Fr.sub [(0, (.agg (List.toArray (α := Value) [(.int .i64 a0_0), (.int .i64 a0_1), (.bool a0_2), u0_3, u0_4]))), (1, (.agg (List.toArray (α := Value) [u1_0, u1_1, u1_2]))), (2, (.agg (List.toArray (α := Value) [(.int .i64 a2_0), (.int .i64 a2_1)]))), (3, (.pointer (some ⟨bb1, 0, none⟩))), (4, (.pointer (some ⟨bb2, 0, none⟩))), (5, (.pointer (some ⟨bb3, 0, none⟩))), (6, (.bool false)), (7, (.int .i64 x2)), (23, (.bool (decide (x1 < 0)))), (28, (.bool (decide (x2 < 0)))), (8, (.pointer (some ⟨bb4, 0, none⟩))), (9, (.bool x6.2.2.2)), (10, (.pointer (some ⟨bb5, 0, none⟩))), (11, (.pointer (some ⟨bb6, 0, none⟩))), (12, (.pointer (some ⟨bb7, 0, none⟩))), (13, (.bool x10.2.2.2)), (59, (.bool x11))] φ' ∧ Mod [] h0 h' ∧ Sep [] h0.size h' [boxO bb7 [v22, v23, v24], ownO (kF .f32) 25 v22 x10.1, ownO (kF .f32) 25 v23 x10.2.1, ownO (kF .f32) 25 v24 x10.2.2.1, boxO bb6 [v19, v20, v21], ownO (kF .f32) 25 v19 x8.1, ownO (kF .f32) 25 v20 x8.2.1, ownO (kF .f32) 25 v21 x8.2.2, boxO bb5 [(.int .i64 x7.1), (.int .i64 x7.2.1), (.bool x7.2.2.1), v17, v18], ownO (kF .f32) 25 v17 x7.2.2.2.1, ownO (kF .f32) 25 v18 x7.2.2.2.2, boxO bb4 [v6, v7, v8], ownO (kF .f32) 25 v6 x6.1, ownO (kF .f32) 25 v7 x6.2.1, ownO (kF .f32) 25 v8 x6.2.2.1, boxO bb3 [(.int .i64 a2_0), (.int .i64 a2_1)], boxO bb2 [u1_0, u1_1, u1_2], boxO bb1 [(.int .i64 a0_0), (.int .i64 a0_1), (.bool a0_2), u0_3, u0_4]]) ?_ ?_
      · obtain ⟨x12, hx12, hy1⟩ := Option.bind_eq_some_iff.1 hy1
        by_cases c3 : (!x12) = true
        · rw [if_pos c3] at hy1
          refine W.region ?_
          refine RL.opD (by decide) (opv_loadA (us := [v22, v23, v24]) rfl Try.agg28 Try.size28 rfl (Sep.at (o := boxO bb7 [v22, v23, v24]) S_31 0 rfl) rfl rfl) ?_
          refine RL.opD (by decide) (opv_loadA (us := [v6, v7, v8]) rfl Try.agg28 Try.size28 rfl (Sep.at (o := boxO bb4 [v6, v7, v8]) S_31 11 rfl) rfl rfl) ?_
          refine RL.op _ (by decide) (opv_call (cap := []) (laws_eqField_ok _ _ _ (ownO.read (Sep.at (o := ownO (kF .f32) 25 v22 x10.1) S_31 1 rfl)) _ _ (ownO.read (Sep.at (o := ownO (kF .f32) 25 v23 x10.2.1) S_31 2 rfl)) _ _ (ownO.read (Sep.at (o := ownO (kF .f32) 25 v24 x10.2.2.1) S_31 3 rfl)) _ _ (ownO.read (Sep.at (o := ownO (kF .f32) 25 v6 x6.1) S_31 12 rfl)) _ _ (ownO.read (Sep.at (o := ownO (kF .f32) 25 v7 x6.2.1) S_31 13 rfl)) _ _ (ownO.read (Sep.at (o := ownO (kF .f32) 25 v8 x6.2.2.1) S_31 14 rfl)) _ hx12) rfl rfl ⟨rfl, rfl, trivial⟩ Try.func16 rfl rfl) ?_
          rintro _ hp48 ⟨rfl, MT_24, T_24⟩
          obtain ⟨X_26, S_32⟩ := Sep.turn0 X_25 S_31 MT_24 T_24
          refine RL.opD (by decide) (opv_not rfl rfl) ?_
          refine RL.opD (by decide) (opv_move rfl rfl) ?_
          refine RL.noT rfl rfl c3 (by decide) ?_
          refine RL.noT rfl rfl c3 (by decide) ?_
          refine RL.noT rfl rfl c3 (by decide) ?_
          refine RL.opD (by decide) (opv_pick rfl rfl (fun _ => rfl) (fun e => absurd (Eq.trans (Eq.symm e) c3) (by decide)) rfl) ?_
          refine RL.nil ?_
          have ey1 := Option.some.inj hy1
          subst ey1
          refine onlyN ?_
          exact ⟨⟨rfl, rfl, rfl, rfl, rfl, rfl, rfl, rfl, rfl, rfl, rfl, rfl, rfl, rfl, rfl, rfl, rfl, trivial⟩, X_26, (Sep.sel S_32 [0, 1, 2, 3, 4, 5, 6, 7, 8, 9, 10, 11, 12, 13, 14, 15, 16, 17] (by decide))⟩
        · rw [if_neg c3] at hy1
          have c3 := eq_false_of_ne_true c3
          refine W.region ?_
          refine RL.opD (by decide) (opv_loadA (us := [v22, v23, v24]) rfl Try.agg28 Try.size28 rfl (Sep.at (o := boxO bb7 [v22, v23, v24]) S_31 0 rfl) rfl rfl) ?_
          refine RL.opD (by decide) (opv_loadA (us := [v6, v7, v8]) rfl Try.agg28 Try.size28 rfl (Sep.at (o := boxO bb4 [v6, v7, v8]) S_31 11 rfl) rfl rfl) ?_
          refine RL.op _ (by decide) (opv_call (cap := []) (laws_eqField_ok _ _ _ (ownO.read (Sep.at (o := ownO (kF .f32) 25 v22 x10.1) S_31 1 rfl)) _ _ (ownO.read (Sep.at (o := ownO (kF .f32) 25 v23 x10.2.1) S_31 2 rfl)) _ _ (ownO.read (Sep.at (o := ownO (kF .f32) 25 v24 x10.2.2.1) S_31 3 rfl)) _ _ (ownO.read (Sep.at (o := ownO (kF .f32) 25 v6 x6.1) S_31 12 rfl)) _ _ (ownO.read (Sep.at (o := ownO (kF .f32) 25 v7 x6.2.1) S_31 13 rfl)) _ _ (ownO.read (Sep.at (o := ownO (kF .f32) 25 v8 x6.2.2.1) S_31 14 rfl)) _ hx12) rfl rfl ⟨rfl, rfl, trivial⟩ Try.func16 rfl rfl) ?_
          rintro _ hp48 ⟨rfl, MT_24, T_24⟩
          obtain ⟨X_26, S_32⟩ := Sep.turn0 X_25 S_31 MT_24 T_24
          refine RL.opD (by decide) (opv_not rfl rfl) ?_
          refine RL.opD (by decide) (opv_move rfl rfl) ?_
          refine RL.yesD rfl rfl c3 (by decide) (opv_move rfl rfl) ?_
          refine RL.yesD rfl rfl c3 (by decide) (opv_move rfl rfl) ?_
          refine RL.yesD rfl rfl c3 (by decide) (opv_bcmp rfl rfl Try.underlying4 rfl rfl) ?_
          refine RL.opD (by decide) (opv_pick rfl rfl (fun e => absurd (Eq.trans (Eq.symm e) c3) (by decide)) (fun _ => rfl) rfl) ?_
          refine RL.nil ?_
          have ey1 := Option.some.inj hy1
          subst ey1
          refine onlyN ?_
          exact ⟨⟨rfl, rfl, rfl, rfl, rfl, rfl, rfl, rfl, rfl, rfl, rfl, rfl, rfl, rfl, rfl, rfl, rfl, trivial⟩, X_26, (Sep.sel S_32 [0, 1, 2, 3, 4, 5, 6, 7, 8, 9, 10, 11, 12, 13, 14, 15, 16, 17] (by decide))⟩
      rintro φ' hp49 ⟨hs1, X_27, S_33⟩
      refine thnN ?_
      refine W.sub hs1 ?_
      by_cases c4 : x11 = true
      · rw [if_pos c4] at hp
        refine W.condT rfl c4 ?_
        refine W.seq ?_
        refine W.region ?_
        refine RL.opD (by decide) (opv_assign rfl rfl) ?_
        refine RL.nil ?_
        refine thnN ?_
        refine W.ret ?_
        refine thnR ?_
        have er := Option.some.inj hp
        subst er
        exact Rt.one rfl rfl ⟨rfl, X_27, (Sep.nil _ _ _)⟩
      · rw [if_neg c4] at hp
        have c4 := eq_false_of_ne_true c4
        refine W.condF rfl c4 ?_
        refine W.skip ?_
        refine thnN ?_
        refine W.seq ?_
        refine W.seq ?_
        obtain ⟨x13, hx13, hp⟩ := Option.bind_eq_some_iff.1 hp
        obtain ⟨x14, hx14, hp⟩ := Option.bind_eq_some_iff.1 hp
        refine W.sub (ψ := [(0, (.agg (List.toArray (α := Value) [(.int .i64 a0_0), (.int .i64 a0_1), (.bool a0_2), u0_3, u0_4]))), (1, (.agg (List.toArray (α := Value) [u1_0, u1_1, u1_2]))), (2, (.agg (List.toArray (α := Value) [(.int .i64 a2_0), (.int .i64 a2_1)]))), (3, (.pointer (some ⟨bb1, 0, none⟩))), (4, (.pointer (some ⟨bb2, 0, none⟩))), (5, (.pointer (some ⟨bb3, 0, none⟩))), (6, (.bool false)), (7, (.int .i64 x2)), (23, (.bool (decide (x1 < 0)))), (28, (.bool (decide (x2 < 0)))), (8, (.pointer (some ⟨bb4, 0, none⟩))), (9, (.bool x6.2.2.2)), (10, (.pointer (some ⟨bb5, 0, none⟩))), (11, (.pointer (some ⟨bb6, 0, none⟩))), (12, (.pointer (some ⟨bb7, 0, none⟩))), (13, (.bool x10.2.2.2)), (59, (.bool x11))]) ⟨rfl, rfl, rfl, rfl, rfl, rfl, rfl, rfl, rfl, rfl, rfl, rfl, rfl, rfl, rfl, rfl, rfl, trivial⟩ ?_
        refine W.regionM [fun v _ => @Eq Value (.agg (List.toArray (α := Value) [(.int .i64 x7.1), (.int .i64 x7.2.1), (.bool x7.2.2.1), v17, v18])) v, fun v _ => @Eq Value (.agg (List.toArray (α := Value) [(.int .i64 a0_0), (.int .i64 a0_1), (.bool a0_2), u0_3, u0_4])) v, fun v h => ∃ v28, ∃ v29, @Eq Value v (.agg (List.toArray (α := Value) [(.int .i64 x13.1), (.int .i64 x13.2.1), (.bool x13.2.2.1), v28, v29])) ∧ Sep [] hp49.size h [ownO (kF .f32) 25 v28 x13.2.2.2.1, ownO (kF .f32) 25 v29 x13.2.2.2.2], fun v h => @Eq Value v (.bool x14) ∧ Sep [] hp49.size h [], fun v _ => @Eq Value (.bool (!x14)) v] [none, none, some (fun u => [Value.ownBlock (vget u 3), Value.ownBlock (vget u 4)]), some (fun u => []), none] [] [[], [], [1], [0, 2], [3]] [4] Try.mixed (by decide +kernel) (by decide +kernel) rfl rfl rfl (by decide +kernel) rfl ⟨fun _ _ _ h _ => h, fun _ _ _ h _ => h, fun _ _ _ ⟨u0_, u1_, e, h⟩ x => ⟨u0_, u1_, e, h.ext x⟩, fun _ _ _ ⟨e, h⟩ x => ⟨e, h.ext x⟩, fun _ _ _ h _ => h, trivial⟩ ?_ ?_
        · refine ⟨⟨rfl, ?_⟩, ⟨rfl, ?_⟩, ⟨rfl, ?_⟩, ⟨rfl, ?_⟩, ⟨rfl, ?_⟩, trivial⟩
          · rintro hp52 E_25
            refine Dep.nil ?_
            refine GuardOK.none rfl ?_
            exact OpV.toDx (opv_loadA (us := [(.int .i64 x7.1), (.int .i64 x7.2.1), (.bool x7.2.2.1), v17, v18]) rfl Try.agg31 Try.size31 rfl (Sep.at (o := boxO bb5 [(.int .i64 x7.1), (.int .i64 x7.2.1), (.bool x7.2.2.1), v17, v18]) (Sep.ext S_33 E_25) 8 rfl) rfl rfl) rfl
          · rintro hp53 E_26
            refine Dep.nil ?_
            refine GuardOK.none rfl ?_
            exact OpV.toDx (opv_loadA (us := [(.int .i64 a0_0), (.int .i64 a0_1), (.bool a0_2), u0_3, u0_4]) rfl Try.agg24 Try.size24 rfl (Sep.at (o := boxO bb1 [(.int .i64 a0_0), (.int .i64 a0_1), (.bool a0_2), u0_3, u0_4]) (Sep.ext S_33 E_26) 17 rfl) rfl rfl) rfl
          · rintro hp54 E_27 _ rfl
            refine Dep.nil ?_
            refine GuardOK.none rfl ?_
            exact OpV.mono (opv_call (cap := []) (laws_toSheet_ok _ _ _ _ _ _ (SL.up (SL.mod g0_3 (Mod.lift X_27 E_27) (Nat.le_refl _) nob) (Nat.le_trans (Nat.le_refl _) (Mod.size (Mod.lift X_27 E_27)))) _ _ (SL.up (SL.mod g0_4 (Mod.lift X_27 E_27) (Nat.le_refl _) nob) (Nat.le_trans (Nat.le_refl _) (Mod.size (Mod.lift X_27 E_27)))) _ hx13) rfl rfl ⟨rfl, trivial⟩ Try.func14 rfl rfl) (by rintro _ _ ⟨v28, v29, rfl, M_, T_⟩; exact ⟨Mod.ext M_, ⟨v28, v29, rfl, Sep.weak T_ (Ext.size E_27)⟩, Sep.fresh T_⟩)
          · rintro hp55 E_28 _ rfl _ ⟨v28, v29, rfl, T_25⟩
            refine Dep.nil ?_
            refine GuardOK.none rfl ?_
            exact OpV.mono (opv_call (cap := []) (laws_eqSheet_ok _ _ _ _ _ _ (ownO.read (Sep.at (o := ownO (kF .f32) 25 v17 x7.2.2.2.1) (Sep.ext S_33 E_28) 9 rfl)) _ _ (ownO.read (Sep.at (o := ownO (kF .f32) 25 v18 x7.2.2.2.2) (Sep.ext S_33 E_28) 10 rfl)) _ _ _ _ _ (ownO.read (Sep.at (o := ownO (kF .f32) 25 v28 x13.2.2.2.1) T_25 0 rfl)) _ _ (ownO.read (Sep.at (o := ownO (kF .f32) 25 v29 x13.2.2.2.2) T_25 1 rfl)) _ hx14) rfl rfl ⟨rfl, rfl, trivial⟩ Try.func17 rfl rfl) (by rintro _ _ ⟨rfl, M_, T_⟩; exact ⟨Mod.ext M_, ⟨rfl, Sep.weak T_ (Ext.size E_28)⟩, Sep.fresh T_⟩)
          · rintro hp56 E_29 _ ⟨rfl, T_26⟩
            refine Dep.nil ?_
            refine GuardOK.none rfl ?_
            exact OpV.toDx (opv_not rfl rfl) rfl
        rintro hp57 E_30 _ rfl
        refine DepM.nil ?_
        intro _ LK_
        have X_30 := Mod.lift X_27 E_30
        have S_36 := Sep.ext S_33 E_30
        show RL _ _ _ _ [] _ _
        refine RL.nil ?_
        refine thnN ?_
        by_cases c5 : (!x14) = true
        · rw [if_pos c5] at hp
          refine W.condT rfl c5 ?_
          refine W.seq ?_
          refine W.region ?_
          refine RL.opD (by decide) (opv_assign rfl rfl) ?_
          refine RL.nil ?_
          refine thnN ?_
          refine W.ret ?_
          refine thnR ?_
          have er := Option.some.inj hp
          subst er
          exact Rt.one rfl rfl ⟨rfl, X_30, (Sep.nil _ _ _)⟩
        · rw [if_neg c5] at hp
          have c5 := eq_false_of_ne_true c5
          refine W.condF rfl c5 ?_
          refine W.skip ?_
          refine thnN ?_
          refine W.seq ?_
          refine W.seq ?_
          obtain ⟨x15, hx15, hp⟩ := Option.bind_eq_some_iff.1 hp
          obtain ⟨x16, hx16, hp⟩ := Option.bind_eq_some_iff.1 hp
          refine W.sub (ψ := [(0, (.agg (List.toArray (α := Value) [(.int .i64 a0_0), (.int .i64 a0_1), (.bool a0_2), u0_3, u0_4]))), (1, (.agg (List.toArray (α := Value) [u1_0, u1_1, u1_2]))), (2, (.agg (List.toArray (α := Value) [(.int .i64 a2_0), (.int .i64 a2_1)]))), (3, (.pointer (some ⟨bb1, 0, none⟩))), (4, (.pointer (some ⟨bb2, 0, none⟩))), (5, (.pointer (some ⟨bb3, 0, none⟩))), (6, (.bool false)), (7, (.int .i64 x2)), (23, (.bool (decide (x1 < 0)))), (28, (.bool (decide (x2 < 0)))), (8, (.pointer (some ⟨bb4, 0, none⟩))), (9, (.bool x6.2.2.2)), (10, (.pointer (some ⟨bb5, 0, none⟩))), (11, (.pointer (some ⟨bb6, 0, none⟩))), (12, (.pointer (some ⟨bb7, 0, none⟩))), (13, (.bool x10.2.2.2)), (59, (.bool x11)), (64, (.bool (!x14)))]) ⟨rfl, rfl, rfl, rfl, rfl, rfl, rfl, rfl, rfl, rfl, rfl, rfl, rfl, rfl, rfl, rfl, rfl, rfl, trivial⟩ ?_
          refine W.regionM [fun v _ => @Eq Value (.agg (List.toArray (α := Value) [v19, v20, v21])) v, fun v _ => @Eq Value (.agg (List.toArray (α := Value) [u1_0, u1_1, u1_2])) v, fun v h => ∃ v32, ∃ v33, ∃ v34, @Eq Value v (.agg (List.toArray (α := Value) [v32, v33, v34])) ∧ Sep [] hp57.size h [ownO (kF .f32) 25 v32 x15.1, ownO (kF .f32) 25 v33 x15.2.1, ownO (kF .f32) 25 v34 x15.2.2], fun v h => @Eq Value v (.bool x16) ∧ Sep [] hp57.size h [], fun v _ => @Eq Value (.bool (!x16)) v] [none, none, some (fun u => [Value.ownBlock (vget u 0), Value.ownBlock (vget u 1), Value.ownBlock (vget u 2)]), some (fun u => []), none] [] [[], [], [1], [0, 2], [3]] [4] Try.mixed (by decide +kernel) (by decide +kernel) rfl rfl rfl (by decide +kernel) rfl ⟨fun _ _ _ h _ => h, fun _ _ _ h _ => h, fun _ _ _ ⟨u0_, u1_, u2_, e, h⟩ x => ⟨u0_, u1_, u2_, e, h.ext x⟩, fun _ _ _ ⟨e, h⟩ x => ⟨e, h.ext x⟩, fun _ _ _ h _ => h, trivial⟩ ?_ ?_
          · refine ⟨⟨rfl, ?_⟩, ⟨rfl, ?_⟩, ⟨rfl, ?_⟩, ⟨rfl, ?_⟩, ⟨rfl, ?_⟩, trivial⟩
            · rintro hp60 E_31
              refine Dep.nil ?_
              refine GuardOK.none rfl ?_
              exact OpV.toDx (opv_loadA (us := [v19, v20, v21]) rfl Try.agg28 Try.size28 rfl (Sep.at (o := boxO bb6 [v19, v20, v21]) (Sep.ext S_36 E_31) 4 rfl) rfl rfl) rfl
            · rintro hp61 E_32
              refine Dep.nil ?_
              refine GuardOK.none rfl ?_
              exact OpV.toDx (opv_loadA (us := [u1_0, u1_1, u1_2]) rfl Try.agg38 Try.size38 rfl (Sep.at (o := boxO bb2 [u1_0, u1_1, u1_2]) (Sep.ext S_36 E_32) 16 rfl) rfl rfl) rfl
            · rintro hp62 E_33 _ rfl
              refine Dep.nil ?_
              refine GuardOK.none rfl ?_
              exact OpV.mono (opv_call (cap := []) (laws_toField_ok _ _ _ (SL.up (SL.mod g1_0 (Mod.lift X_30 E_33) (Nat.le_refl _) nob) (Nat.le_trans (Nat.le_refl _) (Mod.size (Mod.lift X_30 E_33)))) _ _ (SL.up (SL.mod g1_1 (Mod.lift X_30 E_33) (Nat.le_refl _) nob) (Nat.le_trans (Nat.le_refl _) (Mod.size (Mod.lift X_30 E_33)))) _ _ (SL.up (SL.mod g1_2 (Mod.lift X_30 E_33) (Nat.le_refl _) nob) (Nat.le_trans (Nat.le_refl _) (Mod.size (Mod.lift X_30 E_33)))) _ hx15) rfl rfl ⟨rfl, trivial⟩ Try.func23 rfl rfl) (by rintro _ _ ⟨v32, v33, v34, rfl, M_, T_⟩; exact ⟨Mod.ext M_, ⟨v32, v33, v34, rfl, Sep.weak T_ (Ext.size E_33)⟩, Sep.fresh T_⟩)
            · rintro hp63 E_34 _ rfl _ ⟨v32, v33, v34, rfl, T_27⟩
              refine Dep.nil ?_
              refine GuardOK.none rfl ?_
              exact OpV.mono (opv_call (cap := []) (laws_eqField_ok _ _ _ (ownO.read (Sep.at (o := ownO (kF .f32) 25 v19 x8.1) (Sep.ext S_36 E_34) 5 rfl)) _ _ (ownO.read (Sep.at (o := ownO (kF .f32) 25 v20 x8.2.1) (Sep.ext S_36 E_34) 6 rfl)) _ _ (ownO.read (Sep.at (o := ownO (kF .f32) 25 v21 x8.2.2) (Sep.ext S_36 E_34) 7 rfl)) _ _ (ownO.read (Sep.at (o := ownO (kF .f32) 25 v32 x15.1) T_27 0 rfl)) _ _ (ownO.read (Sep.at (o := ownO (kF .f32) 25 v33 x15.2.1) T_27 1 rfl)) _ _ (ownO.read (Sep.at (o := ownO (kF .f32) 25 v34 x15.2.2) T_27 2 rfl)) _ hx16) rfl rfl ⟨rfl, rfl, trivial⟩ Try.func16 rfl rfl) (by rintro _ _ ⟨rfl, M_, T_⟩; exact ⟨Mod.ext M_, ⟨rfl, Sep.weak T_ (Ext.size E_34)⟩, Sep.fresh T_⟩)
            · rintro hp64 E_35 _ ⟨rfl, T_28⟩
              refine Dep.nil ?_
              refine GuardOK.none rfl ?_
              exact OpV.toDx (opv_not rfl rfl) rfl
          rintro hp65 E_36 _ rfl
          refine DepM.nil ?_
          intro _ LK_
          have X_33 := Mod.lift X_30 E_36
          have S_39 := Sep.ext S_36 E_36
          show RL _ _ _ _ [] _ _
          refine RL.nil ?_
          refine thnN ?_
          by_cases c6 : (!x16) = true
          · rw [if_pos c6] at hp
            refine W.condT rfl c6 ?_
            refine W.seq ?_
            refine W.region ?_
            refine RL.opD (by decide) (opv_assign rfl rfl) ?_
            refine RL.nil ?_
            refine thnN ?_
            refine W.ret ?_
            refine thnR ?_
            have er := Option.some.inj hp
            subst er
            exact Rt.one rfl rfl ⟨rfl, X_33, (Sep.nil _ _ _)⟩
          · rw [if_neg c6] at hp
            have c6 := eq_false_of_ne_true c6
            refine W.condF rfl c6 ?_
            refine W.skip ?_
            refine thnN ?_
            refine W.seq ?_
            refine W.region ?_
            refine RL.opD (by decide) (opv_assign rfl rfl) ?_
            refine RL.nil ?_
            refine thnN ?_
            refine W.seq ?_
            obtain ⟨x17, hx17, hp⟩ := Option.bind_eq_some_iff.1 hp
            refine W.region ?_
            refine RL.opD (by decide) (opv_loadA (us := [(.int .i64 x7.1), (.int .i64 x7.2.1), (.bool x7.2.2.1), v17, v18]) rfl Try.agg31 Try.size31 rfl (Sep.at (o := boxO bb5 [(.int .i64 x7.1), (.int .i64 x7.2.1), (.bool x7.2.2.1), v17, v18]) S_39 8 rfl) rfl rfl) ?_
            refine RL.opD (by decide) (opv_move rfl rfl) ?_
            have S_41 : Sep [] h0.size hp65 [ownO (kF .f32) 25 v17 x7.2.2.2.1, ownO (kF .f32) 25 v18 x7.2.2.2.2] := Sep.sel S_39 [9, 10] (by decide)
            have S_40 : Sep [v17.ownBlock, v18.ownBlock] hp65.size hp65 [ownO (kF .f32) 25 v17 x7.2.2.2.1, ownO (kF .f32) 25 v18 x7.2.2.2.2] := Sep.own S_41 _
            refine RL.op _ (by decide) (opv_call (cap := []) (laws_markSheet_ok _ h0.size (Nat.le_trans (Nat.le_refl _) (Mod.size X_33)) _ _ _ _ _ _ _ _ S_40 (Sep.ge (L := [ownO (kF .f32) 25 v17 x7.2.2.2.1, ownO (kF .f32) 25 v18 x7.2.2.2.2]) S_41 (Nat.le_refl _) nob) _ hx17) rfl rfl ⟨rfl, rfl, trivial⟩ Try.func18 rfl rfl) ?_
            rintro _ hp66 ⟨rfl, MT_29, T_29⟩
            have S_42 : Sep [] h0.size hp65 ([ownO (kF .f32) 25 v17 x7.2.2.2.1, ownO (kF .f32) 25 v18 x7.2.2.2.2] ++ [boxO bb7 [v22, v23, v24], ownO (kF .f32) 25 v22 x10.1, ownO (kF .f32) 25 v23 x10.2.1, ownO (kF .f32) 25 v24 x10.2.2.1, boxO bb6 [v19, v20, v21], ownO (kF .f32) 25 v19 x8.1, ownO (kF .f32) 25 v20 x8.2.1, ownO (kF .f32) 25 v21 x8.2.2, boxO bb5 [(.int .i64 x7.1), (.int .i64 x7.2.1), (.bool x7.2.2.1), v17, v18], boxO bb4 [v6, v7, v8], ownO (kF .f32) 25 v6 x6.1, ownO (kF .f32) 25 v7 x6.2.1, ownO (kF .f32) 25 v8 x6.2.2.1, boxO bb3 [(.int .i64 a2_0), (.int .i64 a2_1)], boxO bb2 [u1_0, u1_1, u1_2], boxO bb1 [(.int .i64 a0_0), (.int .i64 a0_1), (.bool a0_2), u0_3, u0_4]]) := Sep.sel S_39 [9, 10, 0, 1, 2, 3, 4, 5, 6, 7, 8, 11, 12, 13, 14, 15, 16, 17] (by decide)
            obtain ⟨X_34, S_43⟩ := Sep.turn X_33 S_42 MT_29 T_29
            refine RL.opD (by decide) (opv_assign rfl rfl) ?_
            refine RL.nil ?_
            refine thnN ?_
            refine W.seq ?_
            obtain ⟨x18, hx18, hp⟩ := Option.bind_eq_some_iff.1 hp
            refine W.region ?_
            refine RL.opD (by decide) (opv_loadA (us := [v19, v20, v21]) rfl Try.agg28 Try.size28 rfl (Sep.at (o := boxO bb6 [v19, v20, v21]) S_43 6 rfl) rfl rfl) ?_
            refine RL.opD (by decide) (opv_move rfl rfl) ?_
            have S_45 : Sep [] h0.size hp66 [ownO (kF .f32) 25 v19 x8.1, ownO (kF .f32) 25 v20 x8.2.1, ownO (kF .f32) 25 v21 x8.2.2] := Sep.sel S_43 [7, 8, 9] (by decide)
            have S_44 : Sep [v19.ownBlock, v20.ownBlock, v21.ownBlock] hp66.size hp66 [ownO (kF .f32) 25 v19 x8.1, ownO (kF .f32) 25 v20 x8.2.1, ownO (kF .f32) 25 v21 x8.2.2] := Sep.own S_45 _
            refine RL.op _ (by decide) (opv_call (cap := []) (laws_markField_ok _ h0.size (Nat.le_trans (Nat.le_refl _) (Mod.size X_34)) _ _ _ _ _ _ _ S_44 (Sep.ge (L := [ownO (kF .f32) 25 v19 x8.1, ownO (kF .f32) 25 v20 x8.2.1, ownO (kF .f32) 25 v21 x8.2.2]) S_45 (Nat.le_refl _) nob) _ hx18) rfl rfl ⟨rfl, rfl, trivial⟩ Try.func19 rfl rfl) ?_
            rintro _ hp67 ⟨rfl, MT_30, T_30⟩
            have S_46 : Sep [] h0.size hp66 ([ownO (kF .f32) 25 v19 x8.1, ownO (kF .f32) 25 v20 x8.2.1, ownO (kF .f32) 25 v21 x8.2.2] ++ [ownO (kF .f32) 25 v17 x17.2.1, ownO (kF .f32) 25 v18 x17.2.2, boxO bb7 [v22, v23, v24], ownO (kF .f32) 25 v22 x10.1, ownO (kF .f32) 25 v23 x10.2.1, ownO (kF .f32) 25 v24 x10.2.2.1, boxO bb6 [v19, v20, v21], boxO bb5 [(.int .i64 x7.1), (.int .i64 x7.2.1), (.bool x7.2.2.1), v17, v18], boxO bb4 [v6, v7, v8], ownO (kF .f32) 25 v6 x6.1, ownO (kF .f32) 25 v7 x6.2.1, ownO (kF .f32) 25 v8 x6.2.2.1, boxO bb3 [(.int .i64 a2_0), (.int .i64 a2_1)], boxO bb2 [u1_0, u1_1, u1_2], boxO bb1 [(.int .i64 a0_0), (.int .i64 a0_1), (.bool a0_2), u0_3, u0_4]]) := Sep.sel S_43 [7, 8, 9, 0, 1, 2, 3, 4, 5, 6, 10, 11, 12, 13, 14, 15, 16, 17] (by decide)
            obtain ⟨X_35, S_47⟩ := Sep.turn X_34 S_46 MT_30 T_30
            refine RL.opD (by decide) (opv_assign rfl rfl) ?_
            refine RL.nil ?_
            refine thnN ?_
            refine W.seq ?_
            refine W.seq ?_
            obtain ⟨x19, hy2, hp⟩ := Option.bind_eq_some_iff.1 hp
            refine W.cut (fun φ' h' => Fr.sub [(0, (.agg (List.toArray (α := Value) [(.int .i64 a0_0), (.int .i64 a0_1), (.bool a0_2), u0_3, u0_4]))), (1, (.agg (List.toArray (α := Value) [u1_0, u1_1, u1_2]))), (2, (.agg (List.toArray (α := Value) [(.int .i64 a2_0), (.int .i64 a2_1)]))), (3, (.pointer (some ⟨bb1, 0, none⟩))), (4, (.pointer (some ⟨bb2, 0, none⟩))), (5, (.pointer (some ⟨bb3, 0, none⟩))), (6, (.bool false)), (7, (.int .i64 x2)), (23, (.bool (decide (x1 < 0)))), (28, (.bool (decide (x2 < 0)))), (8, (.pointer (some ⟨bb4, 0, none⟩))), (9, (.bool x6.2.2.2)), (10, (.pointer (some ⟨bb5, 0, none⟩))), (11, (.pointer (some ⟨bb6, 0, none⟩))), (12, (.pointer (some ⟨bb7, 0, none⟩))), (13, (.bool x10.2.2.2)), (59, (.bool x11)), (64, (.bool (!x14))), (69, (.bool (!x16))), (14, (.int .i64 x18.1)), (88, (.bool x19))] φ' ∧ Mod [] h0 h' ∧ Sep [] h0.size h' [ownO (kF .f32) 25 v19 x18.2.1, ownO (kF .f32) 25 v20 x18.2.2.1, ownO (kF .f32) 25 v21 x18.2.2.2, ownO (kF .f32) 25 v17 x17.2.1, ownO (kF .f32) 25 v18 x17.2.2, boxO bb7 [v22, v23, v24], ownO (kF .f32) 25 v22 x10.1, ownO (kF .f32) 25 v23 x10.2.1, ownO (kF .f32) 25 v24 x10.2.2.1, boxO bb6 [v19, v20, v21], boxO bb5 [(.int .i64 x7.1), (.int .i64 x7.2.1), (.bool x7.2.2.1), v17, v18], boxO bb4 [v6, v7, v8], ownO (kF .f32) 25 v6 x6.1, ownO (kF .f32) 25 v7 x6.2.1, ownO (kF .f32) 25 v8 x6.2.2.1, boxO bb3 [(.int .i64 a2_0), (.int .i64 a2_1)], boxO bb2 [u1_0, u1_1, u1_2], boxO bb1 [(.int .i64 a0_0), (.int .i64 a0_1), (.bool a0_2), u0_3, u0_4]]) ?_ ?_
            · by_cases c7 : (decide (x18.1 < 0)) = true
              · rw [if_pos c7] at hy2
                refine W.region ?_
                refine RL.opD (by decide) (opv_move rfl rfl) ?_
                refine RL.opD (by decide) (opv_icmp rfl rfl rfl rfl) ?_
                refine RL.opD (by decide) (opv_move rfl rfl) ?_
                refine RL.noT rfl rfl c7 (by decide) ?_
                refine RL.noT rfl rfl c7 (by decide) ?_
                refine RL.noT rfl rfl c7 (by decide) ?_
                refine RL.noT rfl rfl c7 (by decide) ?_
                refine RL.opD (by decide) (opv_pick rfl rfl (fun _ => rfl) (fun e => absurd (Eq.trans (Eq.symm e) c7) (by decide)) rfl) ?_
                refine RL.opD (by decide) (opv_move rfl rfl) ?_
                refine RL.noT rfl rfl rfl (by decide) ?_
                refine RL.noT rfl rfl rfl (by decide) ?_
                refine RL.noT rfl rfl rfl (by decide) ?_
                refine RL.opD (by decide) (opv_pick rfl rfl (fun _ => rfl) (fun e => absurd (Eq.trans (Eq.symm e) rfl) (by decide)) rfl) ?_
                refine RL.nil ?_
                have ey2 := Option.some.inj hy2
                subst ey2
                refine onlyN ?_
                exact ⟨⟨rfl, rfl, rfl, rfl, rfl, rfl, rfl, rfl, rfl, rfl, rfl, rfl, rfl, rfl, rfl, rfl, rfl, rfl, rfl, rfl, rfl, trivial⟩, X_35, (Sep.sel S_47 [0, 1, 2, 3, 4, 5, 6, 7, 8, 9, 10, 11, 12, 13, 14, 15, 16, 17] (by decide))⟩
              · rw [if_neg c7] at hy2
                have c7 := eq_false_of_ne_true c7
                obtain ⟨x20, hx20, hy2⟩ := Option.bind_eq_some_iff.1 hy2
                by_cases c8 : (!x20) = true
                · rw [if_pos c8] at hy2
                  refine W.region ?_
                  refine RL.opD (by decide) (opv_move rfl rfl) ?_
                  refine RL.opD (by decide) (opv_icmp rfl rfl rfl rfl) ?_
                  refine RL.opD (by decide) (opv_move rfl rfl) ?_
                  refine RL.yesD rfl rfl c7 (by decide) (opv_loadA (us := [v22, v23, v24]) rfl Try.agg28 Try.size28 rfl (Sep.at (o := boxO bb7 [v22, v23, v24]) S_47 5 rfl) rfl rfl) ?_
                  refine RL.yesD rfl rfl c7 (by decide) (opv_loadA (us := [v6, v7, v8]) rfl Try.agg28 Try.size28 rfl (Sep.at (o := boxO bb4 [v6, v7, v8]) S_47 11 rfl) rfl rfl) ?_
                  refine RL.yes _ rfl rfl c7 (by decide) (opv_call (cap := []) (laws_eqField_ok _ _ _ (ownO.read (Sep.at (o := ownO (kF .f32) 25 v22 x10.1) S_47 6 rfl)) _ _ (ownO.read (Sep.at (o := ownO (kF .f32) 25 v23 x10.2.1) S_47 7 rfl)) _ _ (ownO.read (Sep.at (o := ownO (kF .f32) 25 v24 x10.2.2.1) S_47 8 rfl)) _ _ (ownO.read (Sep.at (o := ownO (kF .f32) 25 v6 x6.1) S_47 12 rfl)) _ _ (ownO.read (Sep.at (o := ownO (kF .f32) 25 v7 x6.2.1) S_47 13 rfl)) _ _ (ownO.read (Sep.at (o := ownO (kF .f32) 25 v8 x6.2.2.1) S_47 14 rfl)) _ hx20) rfl rfl ⟨rfl, rfl, trivial⟩ Try.func16 rfl rfl) ?_
                  rintro _ hp68 ⟨rfl, MT_31, T_31⟩
                  obtain ⟨X_36, S_48⟩ := Sep.turn0 X_35 S_47 MT_31 T_31
                  refine RL.yesD rfl rfl c7 (by decide) (opv_not rfl rfl) ?_
                  refine RL.opD (by decide) (opv_pick rfl rfl (fun e => absurd (Eq.trans (Eq.symm e) c7) (by decide)) (fun _ => rfl) rfl) ?_
                  refine RL.opD (by decide) (opv_move rfl rfl) ?_
                  refine RL.noT rfl rfl c8 (by decide) ?_
                  refine RL.noT rfl rfl c8 (by decide) ?_
                  refine RL.noT rfl rfl c8 (by decide) ?_
                  refine RL.opD (by decide) (opv_pick rfl rfl (fun _ => rfl) (fun e => absurd (Eq.trans (Eq.symm e) c8) (by decide)) rfl) ?_
                  refine RL.nil ?_
                  have ey2 := Option.some.inj hy2
                  subst ey2
                  refine onlyN ?_
                  exact ⟨⟨rfl, rfl, rfl, rfl, rfl, rfl, rfl, rfl, rfl, rfl, rfl, rfl, rfl, rfl, rfl, rfl, rfl, rfl, rfl, rfl, rfl, trivial⟩, X_36, (Sep.sel S_48 [0, 1, 2, 3, 4, 5, 6, 7, 8, 9, 10, 11, 12, 13, 14, 15, 16, 17] (by decide))⟩
                · rw [if_neg c8] at hy2
                  have c8 := eq_false_of_ne_true c8
                  refine W.region ?_
                  refine RL.opD (by decide) (opv_move rfl rfl) ?_
                  refine RL.opD (by decide) (opv_icmp rfl rfl rfl rfl) ?_
                  refine RL.opD (by decide) (opv_move rfl rfl) ?_
                  refine RL.yesD rfl rfl c7 (by decide) (opv_loadA (us := [v22, v23, v24]) rfl Try.agg28 Try.size28 rfl (Sep.at (o := boxO bb7 [v22, v23, v24]) S_47 5 rfl) rfl rfl) ?_
                  refine RL.yesD rfl rfl c7 (by decide) (opv_loadA (us := [v6, v7, v8]) rfl Try.agg28 Try.size28 rfl (Sep.at (o := boxO bb4 [v6, v7, v8]) S_47 11 rfl) rfl rfl) ?_
                  refine RL.yes _ rfl rfl c7 (by decide) (opv_call (cap := []) (laws_eqField_ok _ _ _ (ownO.read (Sep.at (o := ownO (kF .f32) 25 v22 x10.1) S_47 6 rfl)) _ _ (ownO.read (Sep.at (o := ownO (kF .f32) 25 v23 x10.2.1) S_47 7 rfl)) _ _ (ownO.read (Sep.at (o := ownO (kF .f32) 25 v24 x10.2.2.1) S_47 8 rfl)) _ _ (ownO.read (Sep.at (o := ownO (kF .f32) 25 v6 x6.1) S_47 12 rfl)) _ _ (ownO.read (Sep.at (o := ownO (kF .f32) 25 v7 x6.2.1) S_47 13 rfl)) _ _ (ownO.read (Sep.at (o := ownO (kF .f32) 25 v8 x6.2.2.1) S_47 14 rfl)) _ hx20) rfl rfl ⟨rfl, rfl, trivial⟩ Try.func16 rfl rfl) ?_
                  rintro _ hp68 ⟨rfl, MT_31, T_31⟩
                  obtain ⟨X_36, S_48⟩ := Sep.turn0 X_35 S_47 MT_31 T_31
                  refine RL.yesD rfl rfl c7 (by decide) (opv_not rfl rfl) ?_
                  refine RL.opD (by decide) (opv_pick rfl rfl (fun e => absurd (Eq.trans (Eq.symm e) c7) (by decide)) (fun _ => rfl) rfl) ?_
                  refine RL.opD (by decide) (opv_move rfl rfl) ?_
                  refine RL.yesD rfl rfl c8 (by decide) (opv_move rfl rfl) ?_
                  refine RL.yesD rfl rfl c8 (by decide) (opv_move rfl rfl) ?_
                  refine RL.yesD rfl rfl c8 (by decide) (opv_bcmp rfl rfl Try.underlying4 rfl rfl) ?_
                  refine RL.opD (by decide) (opv_pick rfl rfl (fun e => absurd (Eq.trans (Eq.symm e) c8) (by decide)) (fun _ => rfl) rfl) ?_
                  refine RL.nil ?_
                  have ey2 := Option.some.inj hy2
                  subst ey2
                  refine onlyN ?_
                  exact ⟨⟨rfl, rfl, rfl, rfl, rfl, rfl, rfl, rfl, rfl, rfl, rfl, rfl, rfl, rfl, rfl, rfl, rfl, rfl, rfl, rfl, rfl, trivial⟩, X_36, (Sep.sel S_48 [0, 1, 2, 3, 4, 5, 6, 7, 8, 9, 10, 11, 12, 13, 14, 15, 16, 17] (by decide))⟩
            rintro φ' hp69 ⟨hs2, X_37, S_49⟩
            refine thnN ?_
            refine W.sub hs2 ?_
            by_cases c9 : x19 = true
            · rw [if_pos c9] at hp
              refine W.condT rfl c9 ?_
              refine W.seq ?_
              refine W.region ?_
              refine RL.opD (by decide) (opv_assign rfl rfl) ?_
              refine RL.nil ?_
              refine thnN ?_
              refine W.ret ?_
              refine thnR ?_
              have er := Option.some.inj hp
              subst er
              exact Rt.one rfl rfl ⟨rfl, X_37, (Sep.nil _ _ _)⟩
            · rw [if_neg c9] at hp
              have c9 := eq_false_of_ne_true c9
              refine W.condF rfl c9 ?_
              refine W.skip ?_
              refine thnN ?_
              refine W.seq ?_
              refine W.region ?_
              refine RL.opD (by decide) (opv_assign rfl rfl) ?_
              refine RL.nil ?_
              refine thnN ?_
              refine W.seq ?_
              obtain ⟨x21, hx21, hp⟩ := Option.bind_eq_some_iff.1 hp
              refine W.region ?_
              refine RL.opD (by decide) (opv_loadA (us := [v22, v23, v24]) rfl Try.agg28 Try.size28 rfl (Sep.at (o := boxO bb7 [v22, v23, v24]) S_49 5 rfl) rfl rfl) ?_
              refine RL.opD (by decide) (opv_move rfl rfl) ?_
              have S_51 : Sep [] h0.size hp69 [ownO (kF .f32) 25 v22 x10.1, ownO (kF .f32) 25 v23 x10.2.1, ownO (kF .f32) 25 v24 x10.2.2.1] := Sep.sel S_49 [6, 7, 8] (by decide)
              have S_50 : Sep [v22.ownBlock, v23.ownBlock, v24.ownBlock] hp69.size hp69 [ownO (kF .f32) 25 v22 x10.1, ownO (kF .f32) 25 v23 x10.2.1, ownO (kF .f32) 25 v24 x10.2.2.1] := Sep.own S_51 _
              refine RL.op _ (by decide) (opv_call (cap := []) (laws_markField_ok _ h0.size (Nat.le_trans (Nat.le_refl _) (Mod.size X_37)) _ _ _ _ _ _ _ S_50 (Sep.ge (L := [ownO (kF .f32) 25 v22 x10.1, ownO (kF .f32) 25 v23 x10.2.1, ownO (kF .f32) 25 v24 x10.2.2.1]) S_51 (Nat.le_refl _) nob) _ hx21) rfl rfl ⟨rfl, rfl, trivial⟩ Try.func19 rfl rfl) ?_
              rintro _ hp70 ⟨rfl, MT_32, T_32⟩
              have S_52 : Sep [] h0.size hp69 ([ownO (kF .f32) 25 v22 x10.1, ownO (kF .f32) 25 v23 x10.2.1, ownO (kF .f32) 25 v24 x10.2.2.1] ++ [ownO (kF .f32) 25 v19 x18.2.1, ownO (kF .f32) 25 v20 x18.2.2.1, ownO (kF .f32) 25 v21 x18.2.2.2, ownO (kF .f32) 25 v17 x17.2.1, ownO (kF .f32) 25 v18 x17.2.2, boxO bb7 [v22, v23, v24], boxO bb6 [v19, v20, v21], boxO bb5 [(.int .i64 x7.1), (.int .i64 x7.2.1), (.bool x7.2.2.1), v17, v18], boxO bb4 [v6, v7, v8], ownO (kF .f32) 25 v6 x6.1, ownO (kF .f32) 25 v7 x6.2.1, ownO (kF .f32) 25 v8 x6.2.2.1, boxO bb3 [(.int .i64 a2_0), (.int .i64 a2_1)], boxO bb2 [u1_0, u1_1, u1_2], boxO bb1 [(.int .i64 a0_0), (.int .i64 a0_1), (.bool a0_2), u0_3, u0_4]]) := Sep.sel S_49 [6, 7, 8, 0, 1, 2, 3, 4, 5, 9, 10, 11, 12, 13, 14, 15, 16, 17] (by decide)
              obtain ⟨X_38, S_53⟩ := Sep.turn X_37 S_52 MT_32 T_32
              refine RL.opD (by decide) (opv_assign rfl rfl) ?_
              refine RL.nil ?_
              refine thnN ?_
              refine W.seq ?_
              refine W.region ?_
              refine RL.opD (by decide) (opv_assign rfl rfl) ?_
              refine RL.nil ?_
              refine thnN ?_
              refine W.seq ?_
              obtain ⟨x22, hx22, hp⟩ := Option.bind_eq_some_iff.1 hp
              refine W.region ?_
              refine RL.opD (by decide) (opv_loadA (us := [v22, v23, v24]) rfl Try.agg28 Try.size28 rfl (Sep.at (o := boxO bb7 [v22, v23, v24]) S_53 8 rfl) rfl rfl) ?_
              refine RL.opD (by decide) (opv_move rfl rfl) ?_
              refine RL.op _ (by decide) (opv_call (cap := []) (laws_heldField_ok _ _ _ (ownO.read (Sep.at (o := ownO (kF .f32) 25 v22 x21.2.1) S_53 0 rfl)) _ _ (ownO.read (Sep.at (o := ownO (kF .f32) 25 v23 x21.2.2.1) S_53 1 rfl)) _ _ (ownO.read (Sep.at (o := ownO (kF .f32) 25 v24 x21.2.2.2) S_53 2 rfl)) _ _ hx22) rfl rfl ⟨rfl, rfl, trivial⟩ Try.func20 rfl rfl) ?_
              rintro _ hp71 ⟨rfl, MT_33, T_33⟩
              obtain ⟨X_39, S_54⟩ := Sep.turn0 X_38 S_53 MT_33 T_33
              refine RL.opD (by decide) (opv_assign rfl rfl) ?_
              refine RL.nil ?_
              refine thnN ?_
              refine W.seq ?_
              refine W.seq ?_
              refine W.region ?_
              refine RL.opD (by decide) (opv_move rfl rfl) ?_
              refine RL.opD (by decide) (opv_icmp rfl rfl rfl rfl) ?_
              refine RL.nil ?_
              refine thnN ?_
              by_cases c10 : (decide (x22 < 0)) = true
              · rw [if_pos c10] at hp
                refine W.condT rfl c10 ?_
                refine W.seq ?_
                refine W.region ?_
                refine RL.opD (by decide) (opv_assign rfl rfl) ?_
                refine RL.nil ?_
                refine thnN ?_
                refine W.ret ?_
                refine thnR ?_
                have er := Option.some.inj hp
                subst er
                exact Rt.one rfl rfl ⟨rfl, X_39, (Sep.nil _ _ _)⟩
              · rw [if_neg c10] at hp
                have c10 := eq_false_of_ne_true c10
                refine W.condF rfl c10 ?_
                refine W.skip ?_
                refine thnN ?_
                refine W.seq ?_
                refine W.seq ?_
                refine W.region ?_
                refine RL.opD (by decide) (opv_move rfl rfl) ?_
                refine RL.opD (by decide) (opv_move rfl rfl) ?_
                refine RL.opD (by decide) (opv_icmp rfl rfl rfl rfl) ?_
                refine RL.nil ?_
                refine thnN ?_
                by_cases c11 : (x22 != x21.1) = true
                · rw [if_pos c11] at hp
                  refine W.condT rfl c11 ?_
                  refine W.seq ?_
                  refine W.region ?_
                  refine RL.opD (by decide) (opv_assign rfl rfl) ?_
                  refine RL.nil ?_
                  refine thnN ?_
                  refine W.ret ?_
                  refine thnR ?_
                  have er := Option.some.inj hp
                  subst er
                  exact Rt.one rfl rfl ⟨rfl, X_39, (Sep.nil _ _ _)⟩
                · rw [if_neg c11] at hp
                  have c11 := eq_false_of_ne_true c11
                  refine W.condF rfl c11 ?_
                  refine W.skip ?_
                  refine thnN ?_
                  refine W.seq ?_
                  obtain ⟨x23, hx23, hp⟩ := Option.bind_eq_some_iff.1 hp
                  obtain ⟨x24, hx24, hp⟩ := Option.bind_eq_some_iff.1 hp
                  obtain ⟨x25, hx25, hp⟩ := Option.bind_eq_some_iff.1 hp
                  obtain ⟨x26, hx26, hp⟩ := Option.bind_eq_some_iff.1 hp
                  refine W.sub (ψ := [(0, (.agg (List.toArray (α := Value) [(.int .i64 a0_0), (.int .i64 a0_1), (.bool a0_2), u0_3, u0_4]))), (1, (.agg (List.toArray (α := Value) [u1_0, u1_1, u1_2]))), (2, (.agg (List.toArray (α := Value) [(.int .i64 a2_0), (.int .i64 a2_1)]))), (3, (.pointer (some ⟨bb1, 0, none⟩))), (4, (.pointer (some ⟨bb2, 0, none⟩))), (5, (.pointer (some ⟨bb3, 0, none⟩))), (6, (.bool false)), (7, (.int .i64 x2)), (23, (.bool (decide (x1 < 0)))), (28, (.bool (decide (x2 < 0)))), (8, (.pointer (some ⟨bb4, 0, none⟩))), (9, (.bool x6.2.2.2)), (10, (.pointer (some ⟨bb5, 0, none⟩))), (11, (.pointer (some ⟨bb6, 0, none⟩))), (12, (.pointer (some ⟨bb7, 0, none⟩))), (13, (.bool x10.2.2.2)), (59, (.bool x11)), (64, (.bool (!x14))), (69, (.bool (!x16))), (14, (.int .i64 x18.1)), (88, (.bool x19)), (15, (.int .i64 x21.1)), (16, (.int .i64 x22)), (96, (.bool (decide (x22 < 0)))), (99, (.bool (x22 != x21.1)))]) ⟨rfl, rfl, rfl, rfl, rfl, rfl, rfl, rfl, rfl, rfl, rfl, rfl, rfl, rfl, rfl, rfl, rfl, rfl, rfl, rfl, rfl, rfl, rfl, rfl, rfl, trivial⟩ ?_
                  refine W.regionL [fun v _ => @Eq Value (.agg (List.toArray (α := Value) [(.int .i64 a0_0), (.int .i64 a0_1), (.bool a0_2), u0_3, u0_4])) v, fun v h => ∃ v38, ∃ v39, @Eq Value v (.agg (List.toArray (α := Value) [(.int .i64 x23.1), (.int .i64 x23.2.1), (.bool x23.2.2.1), v38, v39])) ∧ Sep [] hp71.size h [ownO (kF .f32) 25 v38 x23.2.2.2.1, ownO (kF .f32) 25 v39 x23.2.2.2.2], fun v _ => @Eq Value (.agg (List.toArray (α := Value) [u1_0, u1_1, u1_2])) v, fun v h => ∃ v40, ∃ v41, ∃ v42, @Eq Value v (.agg (List.toArray (α := Value) [v40, v41, v42])) ∧ Sep [] hp71.size h [ownO (kF .f32) 25 v40 x24.1, ownO (kF .f32) 25 v41 x24.2.1, ownO (kF .f32) 25 v42 x24.2.2], fun v _ => @Eq Value (.agg (List.toArray (α := Value) [(.int .i64 a2_0), (.int .i64 a2_1)])) v, fun v h => @Eq Value v (.agg (List.toArray (α := Value) [(.int .i64 x25.1), (.int .i64 x25.2)])) ∧ Sep [] hp71.size h [], fun v h => ∃ v43, ∃ v44, ∃ v45, @Eq Value v (.tuple (List.toArray (α := Value) [(.agg (List.toArray (α := Value) [v43, v44, v45])), (.bool x26.2.2.2)])) ∧ Sep [] hp71.size h [ownO (kF .f32) 25 v43 x26.1, ownO (kF .f32) 25 v44 x26.2.1, ownO (kF .f32) 25 v45 x26.2.2.1], fun v h => ∃ v43, ∃ v44, ∃ v45, @Eq Value v (.tuple (List.toArray (α := Value) [(.agg (List.toArray (α := Value) [v43, v44, v45])), (.bool x26.2.2.2)])) ∧ Sep [] hp71.size h [ownO (kF .f32) 25 v43 x26.1, ownO (kF .f32) 25 v44 x26.2.1, ownO (kF .f32) 25 v45 x26.2.2.1], fun v h => ∃ v43, ∃ v44, ∃ v45, @Eq Value v (.agg (List.toArray (α := Value) [v43, v44, v45])) ∧ Sep [] hp71.size h [ownO (kF .f32) 25 v43 x26.1, ownO (kF .f32) 25 v44 x26.2.1, ownO (kF .f32) 25 v45 x26.2.2.1], fun v _ => @Eq Value (.bool x26.2.2.2) v, fun v h => ∃ b, @Eq Value v (.pointer (some ⟨b, 0, none⟩)) ∧ Sep [] hp71.size h [boxO b [(.slice none 0 0), (.slice none 0 0), (.slice none 0 0)]]] [none, some (fun u => [Value.ownBlock (vget u 3), Value.ownBlock (vget u 4)]), none, some (fun u => [Value.ownBlock (vget u 0), Value.ownBlock (vget u 1), Value.ownBlock (vget u 2)]), none, some (fun u => []), some (fun u => [Value.ownBlock (vget (vget u 0) 0), Value.ownBlock (vget (vget u 0) 1), Value.ownBlock (vget (vget u 0) 2)]), none, none, none, some (fun u => [ptrB u])] [none, none, none, none, none, none, none, some (107, fun u => u), some (100, fun u => vget u 0)] [9] [[], [0], [], [2], [], [4], [1, 3, 5], [6], [7], [7], []] [6, 7, 8, 9, 10] Try.mixed (by decide +kernel) (by decide +kernel) (fun _ _ _ h => h) rfl rfl rfl (by decide +kernel) rfl ⟨fun _ _ _ h _ => h, fun _ _ _ ⟨u0_, u1_, e, h⟩ x => ⟨u0_, u1_, e, h.ext x⟩, fun _ _ _ h _ => h, fun _ _ _ ⟨u0_, u1_, u2_, e, h⟩ x => ⟨u0_, u1_, u2_, e, h.ext x⟩, fun _ _ _ h _ => h, fun _ _ _ ⟨e, h⟩ x => ⟨e, h.ext x⟩, fun _ _ _ ⟨u0_, u1_, u2_, e, h⟩ x => ⟨u0_, u1_, u2_, e, h.ext x⟩, fun _ _ _ ⟨u0_, u1_, u2_, e, h⟩ x => ⟨u0_, u1_, u2_, e, h.ext x⟩, fun _ _ _ ⟨u0_, u1_, u2_, e, h⟩ x => ⟨u0_, u1_, u2_, e, h.ext x⟩, fun _ _ _ h _ => h, fun _ _ _ ⟨b, e, h⟩ x => ⟨b, e, h.ext x⟩, trivial⟩ ?_ (.cons ?_ (.nil)) ?_
                  · refine ⟨⟨rfl, ?_⟩, ⟨rfl, ?_⟩, ⟨rfl, ?_⟩, ⟨rfl, ?_⟩, ⟨rfl, ?_⟩, ⟨rfl, ?_⟩, ⟨rfl, ?_⟩, ⟨rfl, ?_⟩, ⟨rfl, ?_⟩, ⟨rfl, ?_⟩, ⟨rfl, ?_⟩, trivial⟩
                    · rintro hp78 E_37
                      refine Dep.nil ?_
                      refine GuardOK.none rfl ?_
                      exact OpV.toDx (opv_loadA (us := [(.int .i64 a0_0), (.int .i64 a0_1), (.bool a0_2), u0_3, u0_4]) rfl Try.agg24 Try.size24 rfl (Sep.at (o := boxO bb1 [(.int .i64 a0_0), (.int .i64 a0_1), (.bool a0_2), u0_3, u0_4]) (Sep.ext S_54 E_37) 17 rfl) rfl rfl) rfl
                    · rintro hp79 E_38 _ rfl
                      refine Dep.nil ?_
                      refine GuardOK.none rfl ?_
                      exact OpV.mono (opv_call (cap := []) (laws_toSheet_ok _ _ _ _ _ _ (SL.up (SL.mod g0_3 (Mod.lift X_39 E_38) (Nat.le_refl _) nob) (Nat.le_trans (Nat.le_refl _) (Mod.size (Mod.lift X_39 E_38)))) _ _ (SL.up (SL.mod g0_4 (Mod.lift X_39 E_38) (Nat.le_refl _) nob) (Nat.le_trans (Nat.le_refl _) (Mod.size (Mod.lift X_39 E_38)))) _ hx23) rfl rfl ⟨rfl, trivial⟩ Try.func14 rfl rfl) (by rintro _ _ ⟨v38, v39, rfl, M_, T_⟩; exact ⟨Mod.ext M_, ⟨v38, v39, rfl, Sep.weak T_ (Ext.size E_38)⟩, Sep.fresh T_⟩)
                    · rintro hp80 E_39
                      refine Dep.nil ?_
                      refine GuardOK.none rfl ?_
                      exact OpV.toDx (opv_loadA (us := [u1_0, u1_1, u1_2]) rfl Try.agg38 Try.size38 rfl (Sep.at (o := boxO bb2 [u1_0, u1_1, u1_2]) (Sep.ext S_54 E_39) 16 rfl) rfl rfl) rfl
                    · rintro hp81 E_40 _ rfl
                      refine Dep.nil ?_
                      refine GuardOK.none rfl ?_
                      exact OpV.mono (opv_call (cap := []) (laws_toField_ok _ _ _ (SL.up (SL.mod g1_0 (Mod.lift X_39 E_40) (Nat.le_refl _) nob) (Nat.le_trans (Nat.le_refl _) (Mod.size (Mod.lift X_39 E_40)))) _ _ (SL.up (SL.mod g1_1 (Mod.lift X_39 E_40) (Nat.le_refl _) nob) (Nat.le_trans (Nat.le_refl _) (Mod.size (Mod.lift X_39 E_40)))) _ _ (SL.up (SL.mod g1_2 (Mod.lift X_39 E_40) (Nat.le_refl _) nob) (Nat.le_trans (Nat.le_refl _) (Mod.size (Mod.lift X_39 E_40)))) _ hx24) rfl rfl ⟨rfl, trivial⟩ Try.func23 rfl rfl) (by rintro _ _ ⟨v40, v41, v42, rfl, M_, T_⟩; exact ⟨Mod.ext M_, ⟨v40, v41, v42, rfl, Sep.weak T_ (Ext.size E_40)⟩, Sep.fresh T_⟩)
                    · rintro hp82 E_41
                      refine Dep.nil ?_
                      refine GuardOK.none rfl ?_
                      exact OpV.toDx (opv_loadA (us := [(.int .i64 a2_0), (.int .i64 a2_1)]) rfl Try.agg48 Try.size48 rfl (Sep.at (o := boxO bb3 [(.int .i64 a2_0), (.int .i64 a2_1)]) (Sep.ext S_54 E_41) 15 rfl) rfl rfl) rfl
                    · rintro hp83 E_42 _ rfl
                      refine Dep.nil ?_
                      refine GuardOK.none rfl ?_
                      exact OpV.mono (opv_call (cap := []) (laws_toStrip_ok _ _ _ _ hx25) rfl rfl ⟨rfl, trivial⟩ Try.func29 rfl rfl) (by rintro _ _ ⟨rfl, M_, T_⟩; exact ⟨Mod.ext M_, ⟨rfl, Sep.weak T_ (Ext.size E_42)⟩, Sep.fresh T_⟩)
                    · rintro hp84 E_43 _ ⟨v38, v39, rfl, T_34⟩ _ ⟨v40, v41, v42, rfl, T_35⟩ _ ⟨rfl, T_36⟩
                      refine Dep.nil ?_
                      refine GuardOK.none rfl ?_
                      exact OpV.mono (opv_call (cap := []) (impl_StepStrip_ok _ _ _ _ _ _ (ownO.read (Sep.at (o := ownO (kF .f32) 25 v38 x23.2.2.2.1) T_34 0 rfl)) _ _ (ownO.read (Sep.at (o := ownO (kF .f32) 25 v39 x23.2.2.2.2) T_34 1 rfl)) _ _ (ownO.read (Sep.at (o := ownO (kF .f32) 25 v40 x24.1) T_35 0 rfl)) _ _ (ownO.read (Sep.at (o := ownO (kF .f32) 25 v41 x24.2.1) T_35 1 rfl)) _ _ (ownO.read (Sep.at (o := ownO (kF .f32) 25 v42 x24.2.2) T_35 2 rfl)) _ _ _ hx26) rfl rfl ⟨rfl, rfl, rfl, trivial⟩ Try.func30 rfl rfl) (by rintro _ _ ⟨v43, v44, v45, rfl, M_, T_⟩; exact ⟨Mod.ext M_, ⟨v43, v44, v45, rfl, Sep.weak T_ (Ext.size E_43)⟩, Sep.fresh T_⟩)
                    · rintro hp85 E_44 _ ⟨v43, v44, v45, rfl, T_37⟩
                      refine Dep.nil ?_
                      refine GuardOK.none rfl ?_
                      exact OpV.mono (opv_move rfl rfl) (by rintro _ _ ⟨rfl, rfl⟩; exact ⟨⟨Ext.refl _, v43, v44, v45, rfl, T_37⟩, _, rfl, rfl⟩)
                    · rintro hp86 E_45 _ ⟨v43, v44, v45, rfl, T_37⟩
                      refine Dep.nil ?_
                      refine GuardOK.none rfl ?_
                      exact OpV.mono (opv_extract rfl rfl rfl) (by rintro _ _ ⟨rfl, rfl⟩; exact ⟨⟨Ext.refl _, v43, v44, v45, rfl, T_37⟩, _, rfl, rfl⟩)
                    · rintro hp87 E_46 _ ⟨v43, v44, v45, rfl, T_37⟩
                      refine Dep.nil ?_
                      refine GuardOK.none rfl ?_
                      exact OpV.toDx (opv_extract rfl rfl rfl) rfl
                    · rintro hp88 E_47
                      refine Dep.nil ?_
                      refine GuardOK.none rfl ?_
                      exact OpV.mono (opS_boxed (opv_alloc (cs := [(.slice none 0 0), (.slice none 0 0), (.slice none 0 0)]) rfl Try.zero28 rfl)) (by rintro _ _ ⟨b_, rfl, M_, T_⟩; exact ⟨Mod.ext M_, ⟨b_, rfl, Sep.weak T_ (Ext.size E_47)⟩, Sep.fresh T_⟩)
                  · refine ⟨[7], _, rfl, rfl, rfl, rfl, ?_⟩
                    rintro hp89 E_48 _ ⟨v43, v44, v45, rfl, T_37⟩
                    refine Dep.nil ?_
                    exact ⟨_, opy_extract rfl rfl rfl, ⟨Ext.refl _, rfl⟩⟩
                  rintro hp90 E_49 _ ⟨v43, v44, v45, rfl, T_37⟩ z7_ _ z8_ _ _ rfl _ ⟨bb8, rfl, T_38⟩
                  refine DepM.nil ?_
                  intro PW_3 LK_
                  have ez7_ : z7_ = (.tuple (List.toArray (α := Value) [(.agg (List.toArray (α := Value) [v43, v44, v45])), (.bool x26.2.2.2)])) := LK_ 7 _ _ _ _ _ (by decide) rfl rfl rfl rfl
                  subst z7_
                  have ez8_ : z8_ = (.agg (List.toArray (α := Value) [v43, v44, v45])) := LK_ 8 _ _ _ _ _ (by decide) rfl rfl rfl rfl
                  subst z8_
                  have X_46 := Mod.lift X_39 E_49
                  have S_62 := Sep.join S_54 (Mod.size X_39) (Ext.mod E_49 []) (Sep.both T_37 T_38 (Apt.symm (Apt.of PW_3 0 4 rfl rfl (by decide))))
                  show RL _ _ _ _ (_ :: _) _ _
                  refine RL.op0 _ (opS_stored (cs := [(.slice none 0 0), (.slice none 0 0), (.slice none 0 0)]) (cs' := [v43, v44, v45]) (opv_storeA (us := [v43, v44, v45]) rfl Try.size28 rfl rfl (oneAll (ownO.one (Sep.at (o := ownO (kF .f32) 25 v43 x26.1) S_62 0 rfl)) (oneAll (ownO.one (Sep.at (o := ownO (kF .f32) 25 v44 x26.2.1) S_62 1 rfl)) (oneAll (ownO.one (Sep.at (o := ownO (kF .f32) 25 v45 x26.2.2.1) S_62 2 rfl)) rfl))) (Sep.at (o := boxO bb8 [(.slice none 0 0), (.slice none 0 0), (.slice none 0 0)]) S_62 3 rfl) rfl rfl) (Sep.at (o := boxO bb8 [(.slice none 0 0), (.slice none 0 0), (.slice none 0 0)]) S_62 3 rfl)) ?_
                  rintro _ hp91 ⟨rfl, MT_40, T_40⟩
                  have S_63 : Sep [] h0.size hp90 ([boxO bb8 [(.slice none 0 0), (.slice none 0 0), (.slice none 0 0)]] ++ [ownO (kF .f32) 25 v43 x26.1, ownO (kF .f32) 25 v44 x26.2.1, ownO (kF .f32) 25 v45 x26.2.2.1, ownO (kF .f32) 25 v22 x21.2.1, ownO (kF .f32) 25 v23 x21.2.2.1, ownO (kF .f32) 25 v24 x21.2.2.2, ownO (kF .f32) 25 v19 x18.2.1, ownO (kF .f32) 25 v20 x18.2.2.1, ownO (kF .f32) 25 v21 x18.2.2.2, ownO (kF .f32) 25 v17 x17.2.1, ownO (kF .f32) 25 v18 x17.2.2, boxO bb7 [v22, v23, v24], boxO bb6 [v19, v20, v21], boxO bb5 [(.int .i64 x7.1), (.int .i64 x7.2.1), (.bool x7.2.2.1), v17, v18], boxO bb4 [v6, v7, v8], ownO (kF .f32) 25 v6 x6.1, ownO (kF .f32) 25 v7 x6.2.1, ownO (kF .f32) 25 v8 x6.2.2.1, boxO bb3 [(.int .i64 a2_0), (.int .i64 a2_1)], boxO bb2 [u1_0, u1_1, u1_2], boxO bb1 [(.int .i64 a0_0), (.int .i64 a0_1), (.bool a0_2), u0_3, u0_4]]) := Sep.sel S_62 [3, 0, 1, 2, 4, 5, 6, 7, 8, 9, 10, 11, 12, 13, 14, 15, 16, 17, 18, 19, 20, 21] (by decide)
                  obtain ⟨X_47, S_64⟩ := Sep.turn X_46 S_63 MT_40 T_40
                  refine RL.opD (by decide) (opv_assign rfl rfl) ?_
                  refine RL.nil ?_
                  refine thnN ?_
                  refine W.seq ?_
                  refine W.seq ?_
                  obtain ⟨x27, hy3, hp⟩ := Option.bind_eq_some_iff.1 hp
                  refine W.cut (fun φ' h' => Fr.sub [(0, (.agg (List.toArray (α := Value) [(.int .i64 a0_0), (.int .i64 a0_1), (.bool a0_2), u0_3, u0_4]))), (1, (.agg (List.toArray (α := Value) [u1_0, u1_1, u1_2]))), (2, (.agg (List.toArray (α := Value) [(.int .i64 a2_0), (.int .i64 a2_1)]))), (3, (.pointer (some ⟨bb1, 0, none⟩))), (4, (.pointer (some ⟨bb2, 0, none⟩))), (5, (.pointer (some ⟨bb3, 0, none⟩))), (6, (.bool false)), (7, (.int .i64 x2)), (23, (.bool (decide (x1 < 0)))), (28, (.bool (decide (x2 < 0)))), (8, (.pointer (some ⟨bb4, 0, none⟩))), (9, (.bool x6.2.2.2)), (10, (.pointer (some ⟨bb5, 0, none⟩))), (11, (.pointer (some ⟨bb6, 0, none⟩))), (12, (.pointer (some ⟨bb7, 0, none⟩))), (13, (.bool x10.2.2.2)), (59, (.bool x11)), (64, (.bool (!x14))), (69, (.bool (!x16))), (14, (.int .i64 x18.1)), (88, (.bool x19)), (15, (.int .i64 x21.1)), (16, (.int .i64 x22)), (96, (.bool (decide (x22 < 0)))), (99, (.bool (x22 != x21.1))), (17, (.pointer (some ⟨bb8, 0, none⟩))), (18, (.bool x26.2.2.2)), (118, (.bool x27))] φ' ∧ Mod [] h0 h' ∧ Sep [] h0.size h' [boxO bb8 [v43, v44, v45], ownO (kF .f32) 25 v43 x26.1, ownO (kF .f32) 25 v44 x26.2.1, ownO (kF .f32) 25 v45 x26.2.2.1, ownO (kF .f32) 25 v22 x21.2.1, ownO (kF .f32) 25 v23 x21.2.2.1, ownO (kF .f32) 25 v24 x21.2.2.2, ownO (kF .f32) 25 v19 x18.2.1, ownO (kF .f32) 25 v20 x18.2.2.1, ownO (kF .f32) 25 v21 x18.2.2.2, ownO (kF .f32) 25 v17 x17.2.1, ownO (kF .f32) 25 v18 x17.2.2, boxO bb7 [v22, v23, v24], boxO bb6 [v19, v20, v21], boxO bb5 [(.int .i64 x7.1), (.int .i64 x7.2.1), (.bool x7.2.2.1), v17, v18], boxO bb4 [v6, v7, v8], ownO (kF .f32) 25 v6 x6.1, ownO (kF .f32) 25 v7 x6.2.1, ownO (kF .f32) 25 v8 x6.2.2.1, boxO bb3 [(.int .i64 a2_0), (.int .i64 a2_1)], boxO bb2 [u1_0, u1_1, u1_2], boxO bb1 [(.int .i64 a0_0), (.int .i64 a0_1), (.bool a0_2), u0_3, u0_4]]) ?_ ?_
                  · obtain ⟨x28, hx28, hy3⟩ := Option.bind_eq_some_iff.1 hy3
                    by_cases c12 : (!x28) = true
                    · rw [if_pos c12] at hy3
                      refine W.region ?_
                      refine RL.opD (by decide) (opv_loadA (us := [v43, v44, v45]) rfl Try.agg28 Try.size28 rfl (Sep.at (o := boxO bb8 [v43, v44, v45]) S_64 0 rfl) rfl rfl) ?_
                      refine RL.opD (by decide) (opv_loadA (us := [v6, v7, v8]) rfl Try.agg28 Try.size28 rfl (Sep.at (o := boxO bb4 [v6, v7, v8]) S_64 15 rfl) rfl rfl) ?_
                      refine RL.op _ (by decide) (opv_call (cap := []) (laws_eqField_ok _ _ _ (ownO.read (Sep.at (o := ownO (kF .f32) 25 v43 x26.1) S_64 1 rfl)) _ _ (ownO.read (Sep.at (o := ownO (kF .f32) 25 v44 x26.2.1) S_64 2 rfl)) _ _ (ownO.read (Sep.at (o := ownO (kF .f32) 25 v45 x26.2.2.1) S_64 3 rfl)) _ _ (ownO.read (Sep.at (o := ownO (kF .f32) 25 v6 x6.1) S_64 16 rfl)) _ _ (ownO.read (Sep.at (o := ownO (kF .f32) 25 v7 x6.2.1) S_64 17 rfl)) _ _ (ownO.read (Sep.at (o := ownO (kF .f32) 25 v8 x6.2.2.1) S_64 18 rfl)) _ hx28) rfl rfl ⟨rfl, rfl, trivial⟩ Try.func16 rfl rfl) ?_
                      rintro _ hp92 ⟨rfl, MT_41, T_41⟩
                      obtain ⟨X_48, S_65⟩ := Sep.turn0 X_47 S_64 MT_41 T_41
                      refine RL.opD (by decide) (opv_not rfl rfl) ?_
                      refine RL.opD (by decide) (opv_move rfl rfl) ?_
                      refine RL.noT rfl rfl c12 (by decide) ?_
                      refine RL.noT rfl rfl c12 (by decide) ?_
                      refine RL.noT rfl rfl c12 (by decide) ?_
                      refine RL.opD (by decide) (opv_pick rfl rfl (fun _ => rfl) (fun e => absurd (Eq.trans (Eq.symm e) c12) (by decide)) rfl) ?_
                      refine RL.nil ?_
                      have ey3 := Option.some.inj hy3
                      subst ey3
                      refine onlyN ?_
                      exact ⟨⟨rfl, rfl, rfl, rfl, rfl, rfl, rfl, rfl, rfl, rfl, rfl, rfl, rfl, rfl, rfl, rfl, rfl, rfl, rfl, rfl, rfl, rfl, rfl, rfl, rfl, rfl, rfl, rfl, trivial⟩, X_48, (Sep.sel S_65 [0, 1, 2, 3, 4, 5, 6, 7, 8, 9, 10, 11, 12, 13, 14, 15, 16, 17, 18, 19, 20, 21] (by decide))⟩
                    · rw [if_neg c12] at hy3
                      have c12 := eq_false_of_ne_true c12
                      refine W.region ?_
                      refine RL.opD (by decide) (opv_loadA (us := [v43, v44, v45]) rfl Try.agg28 Try.size28 rfl (Sep.at (o := boxO bb8 [v43, v44, v45]) S_64 0 rfl) rfl rfl) ?_
                      refine RL.opD (by decide) (opv_loadA (us := [v6, v7, v8]) rfl Try.agg28 Try.size28 rfl (Sep.at (o := boxO bb4 [v6, v7, v8]) S_64 15 rfl) rfl rfl) ?_
                      refine RL.op _ (by decide) (opv_call (cap := []) (laws_eqField_ok _ _ _ (ownO.read (Sep.at (o := ownO (kF .f32) 25 v43 x26.1) S_64 1 rfl)) _ _ (ownO.read (Sep.at (o := ownO (kF .f32) 25 v44 x26.2.1) S_64 2 rfl)) _ _ (ownO.read (Sep.at (o := ownO (kF .f32) 25 v45 x26.2.2.1) S_64 3 rfl)) _ _ (ownO.read (Sep.at (o := ownO (kF .f32) 25 v6 x6.1) S_64 16 rfl)) _ _ (ownO.read (Sep.at (o := ownO (kF .f32) 25 v7 x6.2.1) S_64 17 rfl)) _ _ (ownO.read (Sep.at (o := ownO (kF .f32) 25 v8 x6.2.2.1) S_64 18 rfl)) _ hx28) rfl rfl ⟨rfl, rfl, trivial⟩ Try.func16 rfl rfl) ?_
                      rintro _ hp92 ⟨rfl, MT_41, T_41⟩
                      obtain ⟨X_48, S_65⟩ := Sep.turn0 X_47 S_64 MT_41 T_41
                      refine RL.opD (by decide) (opv_not rfl rfl) ?_
                      refine RL.opD (by decide) (opv_move rfl rfl) ?_
                      refine RL.yesD rfl rfl c12 (by decide) (opv_move rfl rfl) ?_
                      refine RL.yesD rfl rfl c12 (by decide) (opv_move rfl rfl) ?_
                      refine RL.yesD rfl rfl c12 (by decide) (opv_bcmp rfl rfl Try.underlying4 rfl rfl) ?_
                      refine RL.opD (by decide) (opv_pick rfl rfl (fun e => absurd (Eq.trans (Eq.symm e) c12) (by decide)) (fun _ => rfl) rfl) ?_
                      refine RL.nil ?_
                      have ey3 := Option.some.inj hy3
                      subst ey3
                      refine onlyN ?_
                      exact ⟨⟨rfl, rfl, rfl, rfl, rfl, rfl, rfl, rfl, rfl, rfl, rfl, rfl, rfl, rfl, rfl, rfl, rfl, rfl, rfl, rfl, rfl, rfl, rfl, rfl, rfl, rfl, rfl, rfl, trivial⟩, X_48, (Sep.sel S_65 [0, 1, 2, 3, 4, 5, 6, 7, 8, 9, 10, 11, 12, 13, 14, 15, 16, 17, 18, 19, 20, 21] (by decide))⟩
                  rintro φ' hp93 ⟨hs3, X_49, S_66⟩
                  refine thnN ?_
                  refine W.sub hs3 ?_
                  by_cases c13 : x27 = true
                  · rw [if_pos c13] at hp
                    refine W.condT rfl c13 ?_
                    refine W.seq ?_
                    refine W.region ?_
                    refine RL.opD (by decide) (opv_assign rfl rfl) ?_
                    refine RL.nil ?_
                    refine thnN ?_
                    refine W.ret ?_
                    refine thnR ?_
                    have er := Option.some.inj hp
                    subst er
                    exact Rt.one rfl rfl ⟨rfl, X_49, (Sep.nil _ _ _)⟩
                  · rw [if_neg c13] at hp
                    have c13 := eq_false_of_ne_true c13
                    refine W.condF rfl c13 ?_
                    refine W.skip ?_
                    refine thnN ?_
                    refine W.seq ?_
                    refine W.region ?_
                    refine RL.opD (by decide) (opv_assign rfl rfl) ?_
                    refine RL.nil ?_
                    refine thnN ?_
                    refine W.seq ?_
                    obtain ⟨x29, hx29, hp⟩ := Option.bind_eq_some_iff.1 hp
                    refine W.region ?_
                    refine RL.opD (by decide) (opv_loadA (us := [v22, v23, v24]) rfl Try.agg28 Try.size28 rfl (Sep.at (o := boxO bb7 [v22, v23, v24]) S_66 12 rfl) rfl rfl) ?_
                    refine RL.opD (by decide) (opv_move rfl rfl) ?_
                    refine RL.op _ (by decide) (opv_call (cap := []) (laws_heldField_ok _ _ _ (ownO.read (Sep.at (o := ownO (kF .f32) 25 v22 x21.2.1) S_66 4 rfl)) _ _ (ownO.read (Sep.at (o := ownO (kF .f32) 25 v23 x21.2.2.1) S_66 5 rfl)) _ _ (ownO.read (Sep.at (o := ownO (kF .f32) 25 v24 x21.2.2.2) S_66 6 rfl)) _ _ hx29) rfl rfl ⟨rfl, rfl, trivial⟩ Try.func20 rfl rfl) ?_
                    rintro _ hp94 ⟨rfl, MT_42, T_42⟩
                    obtain ⟨X_50, S_67⟩ := Sep.turn0 X_49 S_66 MT_42 T_42
                    refine RL.opD (by decide) (opv_assign rfl rfl) ?_
                    refine RL.nil ?_
                    refine thnN ?_
                    refine W.seq ?_
                    refine W.seq ?_
                    refine W.region ?_
                    refine RL.opD (by decide) (opv_move rfl rfl) ?_
                    refine RL.opD (by decide) (opv_icmp rfl rfl rfl rfl) ?_
                    refine RL.nil ?_
                    refine thnN ?_
                    by_cases c14 : (decide (x29 < 0)) = true
                    · rw [if_pos c14] at hp
                      refine W.condT rfl c14 ?_
                      refine W.seq ?_
                      refine W.region ?_
                      refine RL.opD (by decide) (opv_assign rfl rfl) ?_
                      refine RL.nil ?_
                      refine thnN ?_
                      refine W.ret ?_
                      refine thnR ?_
                      have er := Option.some.inj hp
                      subst er
                      exact Rt.one rfl rfl ⟨rfl, X_50, (Sep.nil _ _ _)⟩
                    · rw [if_neg c14] at hp
                      have c14 := eq_false_of_ne_true c14
                      refine W.condF rfl c14 ?_
                      refine W.skip ?_
                      refine thnN ?_
                      refine W.seq ?_
                      refine W.seq ?_
                      refine W.region ?_
                      refine RL.opD (by decide) (opv_move rfl rfl) ?_
                      refine RL.opD (by decide) (opv_move rfl rfl) ?_
                      refine RL.opD (by decide) (opv_icmp rfl rfl rfl rfl) ?_
                      refine RL.nil ?_
                      refine thnN ?_
                      by_cases c15 : (x29 != x21.1) = true
                      · rw [if_pos c15] at hp
                        refine W.condT rfl c15 ?_
                        refine W.seq ?_
                        refine W.region ?_
                        refine RL.opD (by decide) (opv_assign rfl rfl) ?_
                        refine RL.nil ?_
                        refine thnN ?_
                        refine W.ret ?_
                        refine thnR ?_
                        have er := Option.some.inj hp
                        subst er
                        exact Rt.one rfl rfl ⟨rfl, X_50, (Sep.nil _ _ _)⟩
                      · rw [if_neg c15] at hp
                        have c15 := eq_false_of_ne_true c15
                        refine W.condF rfl c15 ?_
                        refine W.skip ?_
                        refine thnN ?_
                        refine W.seq ?_
                        refine W.region ?_
                        refine RL.opD (by decide) (opv_assign rfl rfl) ?_
                        refine RL.nil ?_
                        refine thnN ?_
                        refine W.ret ?_
                        have er := Option.some.inj hp
                        subst er
                        exact Rt.one rfl rfl ⟨rfl, X_50, (Sep.nil _ _ _)⟩

end Go.H
