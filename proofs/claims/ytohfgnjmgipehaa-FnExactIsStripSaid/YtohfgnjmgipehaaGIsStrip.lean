/- Functions of the program: what each computes, as a plain function, and that the call comes to it. Written by a program (wip/gen). -/
import Derived.Test.YtohfgnjmgipehaaPSheet
import Derived.Test.YtohfgnjmgipehaaBase16
import Derived.Test.YtohfgnjmgipehaaProg
import Derived.KernelRfl
set_option linter.unusedVariables false
namespace Go.H
open Go Go.Proofs

theorem _root_.Go.Proofs.Try.agg24 : aggT Try.prog 24 = true := by kernel_rfl
theorem _root_.Go.Proofs.Try.agg26 : aggT Try.prog 26 = true := by kernel_rfl
theorem _root_.Go.Proofs.Try.size24 : (Try.prog.info? 24).map (·.size) = some 5 := by kernel_rfl
theorem _root_.Go.Proofs.Try.size26 : (Try.prog.info? 26).map (·.size) = some 2 := by kernel_rfl

noncomputable def spec_l07Is (a0_0 : Int) (a0_1 : Int) (a0_2 : Bool) (a0_3 : List (Option Nat)) (a0_4 : List (Option Nat)) (a1_0 : Int) (a1_1 : Int) : Option Bool :=
  ((((spec_l00In a1_0 0 (IntKind.wrap .i64 (a0_1 - 1))).bind fun (x2 : Bool) => (if x2 = true then ((spec_l00In a1_1 1 (IntKind.wrap .i64 (a0_1 - a1_0))).bind fun (x3 : Bool) => some x3) else some false)) : Option Bool).bind fun (x1 : Bool) => some x1)

noncomputable def spec_IsStrip (a0_0 : Int) (a0_1 : Int) (a0_2 : Bool) (a0_3 : List (Option Nat)) (a0_4 : List (Option Nat)) (a1_0 : Int) (a1_1 : Int) : Option Bool :=
  ((((spec_l02Is a0_0 a0_1 a0_2 a0_3 a0_4).bind fun (x2 : Bool) => (if x2 = true then ((spec_l07Is a0_0 a0_1 a0_2 a0_3 a0_4 a1_0 a1_1).bind fun (x3 : Bool) => some x3) else some false)) : Option Bool).bind fun (x1 : Bool) => some x1)

noncomputable def impl_IsStrip (a0_0 : Int) (a0_1 : Int) (a0_2 : Bool) (a0_3 : List (Option Nat)) (a0_4 : List (Option Nat)) (a1_0 : Int) (a1_1 : Int) : Option Bool :=
  ((((impl_ValidSheet a0_0 a0_1 a0_2 a0_3 a0_4).bind fun (x2 : Bool) => (if x2 = true then ((impl_within a1_0 0 (IntKind.wrap .i64 (a0_1 - 1))).bind fun (x3 : Bool) => (if x3 = true then ((impl_within a1_1 1 (IntKind.wrap .i64 (a0_1 - a1_0))).bind fun (x4 : Bool) => some x4) else some false)) else some false)) : Option Bool).bind fun (x1 : Bool) => some x1)

noncomputable def laws_FnExactIsStrip (a0_0 : Int) (a0_1 : Int) (a0_2 : Bool) (a0_3 : List (Option Nat)) (a0_4 : List (Option Nat)) (a1_0 : Int) (a1_1 : Int) : Option Bool :=
  ((laws_szSheet a0_0 a0_1 a0_2 a0_3 a0_4 1048576).bind fun (x1 : Int) => (if (decide (x1 < 0)) = true then some true else ((laws_toSheet a0_0 a0_1 a0_2 a0_3 a0_4).bind fun (x2 : (Int × Int × Bool × (List (Option Nat)) × (List (Option Nat)))) => ((laws_toStrip a1_0 a1_1).bind fun (x3 : (Int × Int)) => ((spec_IsStrip x2.1 x2.2.1 x2.2.2.1 x2.2.2.2.1 x2.2.2.2.2 x3.1 x3.2).bind fun (x4 : Bool) => ((laws_toSheet a0_0 a0_1 a0_2 a0_3 a0_4).bind fun (x5 : (Int × Int × Bool × (List (Option Nat)) × (List (Option Nat)))) => ((laws_toStrip a1_0 a1_1).bind fun (x6 : (Int × Int)) => ((impl_IsStrip x5.1 x5.2.1 x5.2.2.1 x5.2.2.2.1 x5.2.2.2.2 x6.1 x6.2).bind fun (x7 : Bool) => (if (x7 != x4) = true then some false else ((laws_toSheet a0_0 a0_1 a0_2 a0_3 a0_4).bind fun (x8 : (Int × Int × Bool × (List (Option Nat)) × (List (Option Nat)))) => ((laws_eqSheet x5.1 x5.2.1 x5.2.2.1 x5.2.2.2.1 x5.2.2.2.2 x8.1 x8.2.1 x8.2.2.1 x8.2.2.2.1 x8.2.2.2.2).bind fun (x9 : Bool) => (if (!x9) = true then some false else some true))))))))))))

set_option maxRecDepth 20000 in
theorem spec_l07Is_ok (h0 : Heap) (b0 : Nat) (a0_0 : Int) (a0_1 : Int) (a0_2 : Bool) (u0_3 : Value) (a0_3 : List (Option Nat)) (g0_3 : SL (kF .f32) h0.size h0 u0_3 a0_3) (u0_4 : Value) (a0_4 : List (Option Nat)) (g0_4 : SL (kF .f32) h0.size h0 u0_4 a0_4) (G0 : Bx h0 b0 [(.int .i64 a0_0), (.int .i64 a0_1), (.bool a0_2), u0_3, u0_4]) (b1 : Nat) (a1_0 : Int) (a1_1 : Int) (G1 : Bx h0 b1 [(.int .i64 a1_0), (.int .i64 a1_1)]) (r : Bool) (hp : spec_l07Is a0_0 a0_1 a0_2 a0_3 a0_4 a1_0 a1_1 = some r) : CallsH Try.prog 75 ([(.pointer (some ⟨b0, 0, none⟩)), (.pointer (some ⟨b1, 0, none⟩))].toArray ++ [].toArray) h0 (fun v h' => v = (.bool r) ∧ h0 = h') := by
  unfold spec_l07Is at hp
  refine callsH_of_W (l := [(.pointer (some ⟨b0, 0, none⟩)), (.pointer (some ⟨b1, 0, none⟩))]) (cap := []) 31 Try.func75 rfl rfl rfl ?_
  refine W.seq ?_
  refine W.region ?_
  refine RL.opD (by decide) (opv_assign rfl rfl) ?_
  refine RL.nil ?_
  refine thnN ?_
  refine W.seq ?_
  obtain ⟨x1, hy1, hp⟩ := Option.bind_eq_some_iff.1 hp
  refine W.cut (fun φ' h' => Fr.sub [(0, (.pointer (some ⟨b0, 0, none⟩))), (1, (.pointer (some ⟨b1, 0, none⟩))), (4, (.bool x1))] φ' ∧ h0 = h') ?_ ?_
  · obtain ⟨x2, hx2, hy1⟩ := Option.bind_eq_some_iff.1 hy1
    by_cases c1 : x2 = true
    · rw [if_pos c1] at hy1
      obtain ⟨x3, hx3, hy1⟩ := Option.bind_eq_some_iff.1 hy1
      refine W.sub (ψ := [(0, (.pointer (some ⟨b0, 0, none⟩))), (1, (.pointer (some ⟨b1, 0, none⟩)))]) ⟨rfl, rfl, trivial⟩ ?_
      refine W.regionP [fun v _ => @Eq Value (.pointer (some ⟨b1, 0, none⟩)) v, fun v _ => @Eq Value (.pointer (some ⟨b1, 0, none⟩)) v, fun v _ => @Eq Value (.pointer (some ⟨b1, 0, none⟩)) v, fun v _ => @Eq Value (.int .i64 a1_0) v, fun v _ => @Eq Value (.pointer (some ⟨b0, 0, none⟩)) v, fun v _ => @Eq Value (.pointer (some ⟨b0, 0, none⟩)) v, fun v _ => @Eq Value (.pointer (some ⟨b0, 1, none⟩)) v, fun v _ => @Eq Value (.int .i64 a0_1) v, fun v _ => @Eq Value (.int .i64 (IntKind.wrap .i64 (a0_1 - 1))) v, fun v _ => @Eq Value (.bool x2) v, fun v _ => @Eq Value (.bool x2) v, fun v _ => @Eq Value (.pointer (some ⟨b1, 0, none⟩)) v, fun v _ => @Eq Value (.pointer (some ⟨b1, 0, none⟩)) v, fun v _ => @Eq Value (.pointer (some ⟨b1, 1, none⟩)) v, fun v _ => @Eq Value (.int .i64 a1_1) v, fun v _ => @Eq Value (.pointer (some ⟨b0, 0, none⟩)) v, fun v _ => @Eq Value (.pointer (some ⟨b0, 0, none⟩)) v, fun v _ => @Eq Value (.pointer (some ⟨b0, 1, none⟩)) v, fun v _ => @Eq Value (.int .i64 a0_1) v, fun v _ => @Eq Value (.pointer (some ⟨b1, 0, none⟩)) v, fun v _ => @Eq Value (.pointer (some ⟨b1, 0, none⟩)) v, fun v _ => @Eq Value (.pointer (some ⟨b1, 0, none⟩)) v, fun v _ => @Eq Value (.int .i64 a1_0) v, fun v _ => @Eq Value (.int .i64 (IntKind.wrap .i64 (a0_1 - a1_0))) v, fun v _ => @Eq Value (.bool x3) v, fun v _ => @Eq Value (.bool x3) v, fun v _ => @Eq Value (.bool x3) v] [[], [0], [1], [2], [], [4], [5], [6], [7], [3, 8], [9], [10], [11, 10], [12, 10], [13, 10], [10], [15, 10], [16, 10], [17, 10], [10], [19, 10], [20, 10], [21, 10], [18, 22, 10], [14, 23, 10], [10, 24], [25]] [26] Try.mixed (by decide +kernel) (by decide +kernel) rfl rfl rfl ?_ ?_
      · refine ⟨⟨rfl, ?_⟩, ⟨rfl, ?_⟩, ⟨rfl, ?_⟩, ⟨rfl, ?_⟩, ⟨rfl, ?_⟩, ⟨rfl, ?_⟩, ⟨rfl, ?_⟩, ⟨rfl, ?_⟩, ⟨rfl, ?_⟩, ⟨rfl, ?_⟩, ⟨rfl, ?_⟩, ⟨rfl, ?_⟩, ⟨rfl, ?_⟩, ⟨rfl, ?_⟩, ⟨rfl, ?_⟩, ⟨rfl, ?_⟩, ⟨rfl, ?_⟩, ⟨rfl, ?_⟩, ⟨rfl, ?_⟩, ⟨rfl, ?_⟩, ⟨rfl, ?_⟩, ⟨rfl, ?_⟩, ⟨rfl, ?_⟩, ⟨rfl, ?_⟩, ⟨rfl, ?_⟩, ⟨rfl, ?_⟩, ⟨rfl, ?_⟩, trivial⟩
        · rintro _ rfl
          refine Dep.nil ?_
          refine GuardOK.none rfl ?_
          exact OpV.toD (opv_move rfl rfl) rfl
        · rintro _ rfl _ rfl
          refine Dep.nil ?_
          refine GuardOK.none rfl ?_
          exact OpV.toD (opv_nilCheck rfl rfl) rfl
        · rintro _ rfl _ rfl
          refine Dep.nil ?_
          refine GuardOK.none rfl ?_
          exact OpV.toD (opv_fieldAddr rfl Try.fo31_0 rfl) rfl
        · rintro _ rfl _ rfl
          refine Dep.nil ?_
          refine GuardOK.none rfl ?_
          exact OpV.toD (opv_loadB rfl Try.one2 rfl G1 rfl) rfl
        · rintro _ rfl
          refine Dep.nil ?_
          refine GuardOK.none rfl ?_
          exact OpV.toD (opv_move rfl rfl) rfl
        · rintro _ rfl _ rfl
          refine Dep.nil ?_
          refine GuardOK.none rfl ?_
          exact OpV.toD (opv_nilCheck rfl rfl) rfl
        · rintro _ rfl _ rfl
          refine Dep.nil ?_
          refine GuardOK.none rfl ?_
          exact OpV.toD (opv_fieldAddr rfl Try.fo29_1 rfl) rfl
        · rintro _ rfl _ rfl
          refine Dep.nil ?_
          refine GuardOK.none rfl ?_
          exact OpV.toD (opv_loadB rfl Try.one2 rfl G0 rfl) rfl
        · rintro _ rfl _ rfl
          refine Dep.nil ?_
          refine GuardOK.none rfl ?_
          exact OpV.toD (opv_sub rfl rfl rfl) rfl
        · rintro _ rfl _ rfl _ rfl
          refine Dep.nil ?_
          refine GuardOK.none rfl ?_
          exact OpV.mono (opv_call (cap := []) (spec_l00In_ok _ _ _ _ _ hx2) rfl rfl ⟨rfl, rfl, rfl, trivial⟩ Try.func78 rfl rfl) (by rintro _ _ ⟨rfl, rfl⟩; exact ⟨rfl, rfl⟩)
        · rintro _ rfl _ rfl
          refine Dep.nil ?_
          refine GuardOK.none rfl ?_
          exact OpV.toD (opv_move rfl rfl) rfl
        · rintro _ rfl _ rfl
          refine Dep.nil ?_
          refine GuardOK.some rfl rfl rfl c1 ?_
          exact OpV.toD (opv_move rfl rfl) rfl
        · rintro _ rfl _ rfl _ rfl
          refine Dep.nil ?_
          refine GuardOK.some rfl rfl rfl c1 ?_
          exact OpV.toD (opv_nilCheck rfl rfl) rfl
        · rintro _ rfl _ rfl _ rfl
          refine Dep.nil ?_
          refine GuardOK.some rfl rfl rfl c1 ?_
          exact OpV.toD (opv_fieldAddr rfl Try.fo31_1 rfl) rfl
        · rintro _ rfl _ rfl _ rfl
          refine Dep.nil ?_
          refine GuardOK.some rfl rfl rfl c1 ?_
          exact OpV.toD (opv_loadB rfl Try.one2 rfl G1 rfl) rfl
        · rintro _ rfl _ rfl
          refine Dep.nil ?_
          refine GuardOK.some rfl rfl rfl c1 ?_
          exact OpV.toD (opv_move rfl rfl) rfl
        · rintro _ rfl _ rfl _ rfl
          refine Dep.nil ?_
          refine GuardOK.some rfl rfl rfl c1 ?_
          exact OpV.toD (opv_nilCheck rfl rfl) rfl
        · rintro _ rfl _ rfl _ rfl
          refine Dep.nil ?_
          refine GuardOK.some rfl rfl rfl c1 ?_
          exact OpV.toD (opv_fieldAddr rfl Try.fo29_1 rfl) rfl
        · rintro _ rfl _ rfl _ rfl
          refine Dep.nil ?_
          refine GuardOK.some rfl rfl rfl c1 ?_
          exact OpV.toD (opv_loadB rfl Try.one2 rfl G0 rfl) rfl
        · rintro _ rfl _ rfl
          refine Dep.nil ?_
          refine GuardOK.some rfl rfl rfl c1 ?_
          exact OpV.toD (opv_move rfl rfl) rfl
        · rintro _ rfl _ rfl _ rfl
          refine Dep.nil ?_
          refine GuardOK.some rfl rfl rfl c1 ?_
          exact OpV.toD (opv_nilCheck rfl rfl) rfl
        · rintro _ rfl _ rfl _ rfl
          refine Dep.nil ?_
          refine GuardOK.some rfl rfl rfl c1 ?_
          exact OpV.toD (opv_fieldAddr rfl Try.fo31_0 rfl) rfl
        · rintro _ rfl _ rfl _ rfl
          refine Dep.nil ?_
          refine GuardOK.some rfl rfl rfl c1 ?_
          exact OpV.toD (opv_loadB rfl Try.one2 rfl G1 rfl) rfl
        · rintro _ rfl _ rfl _ rfl _ rfl
          refine Dep.nil ?_
          refine GuardOK.some rfl rfl rfl c1 ?_
          exact OpV.toD (opv_sub rfl rfl rfl) rfl
        · rintro _ rfl _ rfl _ rfl _ rfl
          refine Dep.nil ?_
          refine GuardOK.some rfl rfl rfl c1 ?_
          exact OpV.mono (opv_call (cap := []) (spec_l00In_ok _ _ _ _ _ hx3) rfl rfl ⟨rfl, rfl, rfl, trivial⟩ Try.func78 rfl rfl) (by rintro _ _ ⟨rfl, rfl⟩; exact ⟨rfl, rfl⟩)
        · rintro _ rfl _ rfl _ rfl
          refine Dep.nil ?_
          refine GuardOK.none rfl ?_
          exact OpV.toD (opv_pick rfl rfl (fun _ => rfl) (fun e => absurd (Eq.trans (Eq.symm e) c1) (by decide)) rfl) rfl
        · rintro _ rfl _ rfl
          refine Dep.nil ?_
          refine GuardOK.none rfl ?_
          exact OpV.toD (opv_assign rfl rfl) rfl
      rintro _ rfl
      refine Dep.nil ?_
      show RL _ _ _ _ [] _ _
      refine RL.nil ?_
      have ey1 := Option.some.inj hy1
      subst ey1
      refine onlyN ?_
      exact ⟨⟨rfl, rfl, rfl, trivial⟩, rfl⟩
    · rw [if_neg c1] at hy1
      have c1 := eq_false_of_ne_true c1
      refine W.sub (ψ := [(0, (.pointer (some ⟨b0, 0, none⟩))), (1, (.pointer (some ⟨b1, 0, none⟩)))]) ⟨rfl, rfl, trivial⟩ ?_
      refine W.regionP [fun v _ => @Eq Value (.pointer (some ⟨b1, 0, none⟩)) v, fun v _ => @Eq Value (.pointer (some ⟨b1, 0, none⟩)) v, fun v _ => @Eq Value (.pointer (some ⟨b1, 0, none⟩)) v, fun v _ => @Eq Value (.int .i64 a1_0) v, fun v _ => @Eq Value (.pointer (some ⟨b0, 0, none⟩)) v, fun v _ => @Eq Value (.pointer (some ⟨b0, 0, none⟩)) v, fun v _ => @Eq Value (.pointer (some ⟨b0, 1, none⟩)) v, fun v _ => @Eq Value (.int .i64 a0_1) v, fun v _ => @Eq Value (.int .i64 (IntKind.wrap .i64 (a0_1 - 1))) v, fun v _ => @Eq Value (.bool x2) v, fun v _ => @Eq Value (.bool x2) v, fun v _ => @Eq Value undef v, fun v _ => @Eq Value undef v, fun v _ => @Eq Value undef v, fun v _ => @Eq Value undef v, fun v _ => @Eq Value undef v, fun v _ => @Eq Value undef v, fun v _ => @Eq Value undef v, fun v _ => @Eq Value undef v, fun v _ => @Eq Value undef v, fun v _ => @Eq Value undef v, fun v _ => @Eq Value undef v, fun v _ => @Eq Value undef v, fun v _ => @Eq Value undef v, fun v _ => @Eq Value undef v, fun v _ => @Eq Value (.bool false) v, fun v _ => @Eq Value (.bool false) v] [[], [0], [1], [2], [], [4], [5], [6], [7], [3, 8], [9], [10], [10], [10], [10], [10], [10], [10], [10], [10], [10], [10], [10], [10], [10], [10], [25]] [26] Try.mixed (by decide +kernel) (by decide +kernel) rfl rfl rfl ?_ ?_
      · refine ⟨⟨rfl, ?_⟩, ⟨rfl, ?_⟩, ⟨rfl, ?_⟩, ⟨rfl, ?_⟩, ⟨rfl, ?_⟩, ⟨rfl, ?_⟩, ⟨rfl, ?_⟩, ⟨rfl, ?_⟩, ⟨rfl, ?_⟩, ⟨rfl, ?_⟩, ⟨rfl, ?_⟩, ⟨rfl, ?_⟩, ⟨rfl, ?_⟩, ⟨rfl, ?_⟩, ⟨rfl, ?_⟩, ⟨rfl, ?_⟩, ⟨rfl, ?_⟩, ⟨rfl, ?_⟩, ⟨rfl, ?_⟩, ⟨rfl, ?_⟩, ⟨rfl, ?_⟩, ⟨rfl, ?_⟩, ⟨rfl, ?_⟩, ⟨rfl, ?_⟩, ⟨rfl, ?_⟩, ⟨rfl, ?_⟩, ⟨rfl, ?_⟩, trivial⟩
        · rintro _ rfl
          refine Dep.nil ?_
          refine GuardOK.none rfl ?_
          exact OpV.toD (opv_move rfl rfl) rfl
        · rintro _ rfl _ rfl
          refine Dep.nil ?_
          refine GuardOK.none rfl ?_
          exact OpV.toD (opv_nilCheck rfl rfl) rfl
        · rintro _ rfl _ rfl
          refine Dep.nil ?_
          refine GuardOK.none rfl ?_
          exact OpV.toD (opv_fieldAddr rfl Try.fo31_0 rfl) rfl
        · rintro _ rfl _ rfl
          refine Dep.nil ?_
          refine GuardOK.none rfl ?_
          exact OpV.toD (opv_loadB rfl Try.one2 rfl G1 rfl) rfl
        · rintro _ rfl
          refine Dep.nil ?_
          refine GuardOK.none rfl ?_
          exact OpV.toD (opv_move rfl rfl) rfl
        · rintro _ rfl _ rfl
          refine Dep.nil ?_
          refine GuardOK.none rfl ?_
          exact OpV.toD (opv_nilCheck rfl rfl) rfl
        · rintro _ rfl _ rfl
          refine Dep.nil ?_
          refine GuardOK.none rfl ?_
          exact OpV.toD (opv_fieldAddr rfl Try.fo29_1 rfl) rfl
        · rintro _ rfl _ rfl
          refine Dep.nil ?_
          refine GuardOK.none rfl ?_
          exact OpV.toD (opv_loadB rfl Try.one2 rfl G0 rfl) rfl
        · rintro _ rfl _ rfl
          refine Dep.nil ?_
          refine GuardOK.none rfl ?_
          exact OpV.toD (opv_sub rfl rfl rfl) rfl
        · rintro _ rfl _ rfl _ rfl
          refine Dep.nil ?_
          refine GuardOK.none rfl ?_
          exact OpV.mono (opv_call (cap := []) (spec_l00In_ok _ _ _ _ _ hx2) rfl rfl ⟨rfl, rfl, rfl, trivial⟩ Try.func78 rfl rfl) (by rintro _ _ ⟨rfl, rfl⟩; exact ⟨rfl, rfl⟩)
        · rintro _ rfl _ rfl
          refine Dep.nil ?_
          refine GuardOK.none rfl ?_
          exact OpV.toD (opv_move rfl rfl) rfl
        · rintro _ rfl _ rfl
          refine Dep.nil ?_
          refine GuardOK.pass rfl rfl rfl (Eq.trans c1 (by decide)) ⟨rfl, rfl⟩
        · rintro _ rfl _ rfl
          refine Dep.nil ?_
          refine GuardOK.pass rfl rfl rfl (Eq.trans c1 (by decide)) ⟨rfl, rfl⟩
        · rintro _ rfl _ rfl
          refine Dep.nil ?_
          refine GuardOK.pass rfl rfl rfl (Eq.trans c1 (by decide)) ⟨rfl, rfl⟩
        · rintro _ rfl _ rfl
          refine Dep.nil ?_
          refine GuardOK.pass rfl rfl rfl (Eq.trans c1 (by decide)) ⟨rfl, rfl⟩
        · rintro _ rfl _ rfl
          refine Dep.nil ?_
          refine GuardOK.pass rfl rfl rfl (Eq.trans c1 (by decide)) ⟨rfl, rfl⟩
        · rintro _ rfl _ rfl
          refine Dep.nil ?_
          refine GuardOK.pass rfl rfl rfl (Eq.trans c1 (by decide)) ⟨rfl, rfl⟩
        · rintro _ rfl _ rfl
          refine Dep.nil ?_
          refine GuardOK.pass rfl rfl rfl (Eq.trans c1 (by decide)) ⟨rfl, rfl⟩
        · rintro _ rfl _ rfl
          refine Dep.nil ?_
          refine GuardOK.pass rfl rfl rfl (Eq.trans c1 (by decide)) ⟨rfl, rfl⟩
        · rintro _ rfl _ rfl
          refine Dep.nil ?_
          refine GuardOK.pass rfl rfl rfl (Eq.trans c1 (by decide)) ⟨rfl, rfl⟩
        · rintro _ rfl _ rfl
          refine Dep.nil ?_
          refine GuardOK.pass rfl rfl rfl (Eq.trans c1 (by decide)) ⟨rfl, rfl⟩
        · rintro _ rfl _ rfl
          refine Dep.nil ?_
          refine GuardOK.pass rfl rfl rfl (Eq.trans c1 (by decide)) ⟨rfl, rfl⟩
        · rintro _ rfl _ rfl
          refine Dep.nil ?_
          refine GuardOK.pass rfl rfl rfl (Eq.trans c1 (by decide)) ⟨rfl, rfl⟩
        · rintro _ rfl _ rfl
          refine Dep.nil ?_
          refine GuardOK.pass rfl rfl rfl (Eq.trans c1 (by decide)) ⟨rfl, rfl⟩
        · rintro _ rfl _ rfl
          refine Dep.nil ?_
          refine GuardOK.pass rfl rfl rfl (Eq.trans c1 (by decide)) ⟨rfl, rfl⟩
        · rintro _ rfl _ rfl
          refine Dep.nil ?_
          refine GuardOK.none rfl ?_
          exact OpV.toD (opv_pick rfl rfl (fun e => absurd (Eq.trans (Eq.symm e) c1) (by decide)) (fun _ => rfl) rfl) rfl
        · rintro _ rfl _ rfl
          refine Dep.nil ?_
          refine GuardOK.none rfl ?_
          exact OpV.toD (opv_assign rfl rfl) rfl
      rintro _ rfl
      refine Dep.nil ?_
      show RL _ _ _ _ [] _ _
      refine RL.nil ?_
      have ey1 := Option.some.inj hy1
      subst ey1
      refine onlyN ?_
      exact ⟨⟨rfl, rfl, rfl, trivial⟩, rfl⟩
  rintro φ' _ ⟨hs1, rfl⟩
  refine thnN ?_
  refine W.sub hs1 ?_
  refine W.ret ?_
  have er := Option.some.inj hp
  subst er
  exact Rt.one rfl rfl ⟨rfl, rfl⟩

set_option maxRecDepth 20000 in
theorem spec_IsStrip_ok (h0 : Heap) (a0_0 : Int) (a0_1 : Int) (a0_2 : Bool) (u0_3 : Value) (a0_3 : List (Option Nat)) (g0_3 : SL (kF .f32) h0.size h0 u0_3 a0_3) (u0_4 : Value) (a0_4 : List (Option Nat)) (g0_4 : SL (kF .f32) h0.size h0 u0_4 a0_4) (a1_0 : Int) (a1_1 : Int) (r : Bool) (hp : spec_IsStrip a0_0 a0_1 a0_2 a0_3 a0_4 a1_0 a1_1 = some r) : CallsH Try.prog 19 ([(.agg (List.toArray (α := Value) [(.int .i64 a0_0), (.int .i64 a0_1), (.bool a0_2), u0_3, u0_4])), (.agg (List.toArray (α := Value) [(.int .i64 a1_0), (.int .i64 a1_1)]))].toArray ++ [].toArray) h0 (fun v h' => v = (.bool r) ∧ Mod [] h0 h' ∧ Sep [] h0.size h' []) := by
  unfold spec_IsStrip at hp
  refine callsH_of_W (l := [(.agg (List.toArray (α := Value) [(.int .i64 a0_0), (.int .i64 a0_1), (.bool a0_2), u0_3, u0_4])), (.agg (List.toArray (α := Value) [(.int .i64 a1_0), (.int .i64 a1_1)]))]) (cap := []) 9 Try.func19 rfl rfl rfl ?_
  refine W.seq ?_
  refine W.region ?_
  refine RL.op _ (by decide) (opS_boxed (opv_boxA (cs := [(.int .i64 a0_0), (.int .i64 a0_1), (.bool a0_2), u0_3, u0_4]) rfl rfl)) ?_
  rintro _ hp1 ⟨bb1, rfl, MT_1, T_1⟩
  have X_1 : Mod [] h0 hp1 := Mod.step (A := []) (L := []) (Mod.refl [] h0) (Sep.nil [] h0.size h0) MT_1
  have S_1 : Sep [] h0.size hp1 [boxO bb1 [(.int .i64 a0_0), (.int .i64 a0_1), (.bool a0_2), u0_3, u0_4]] := Sep.step (A := []) (L := []) (Sep.nil [] h0.size h0) (Mod.size (Mod.refl [] h0)) MT_1 T_1
  refine RL.op _ (by decide) (opS_boxed (opv_boxA (cs := [(.int .i64 a1_0), (.int .i64 a1_1)]) rfl rfl)) ?_
  rintro _ hp2 ⟨bb2, rfl, MT_2, T_2⟩
  have X_2 : Mod [] h0 hp2 := Mod.step (A := []) (L := [boxO bb1 [(.int .i64 a0_0), (.int .i64 a0_1), (.bool a0_2), u0_3, u0_4]]) X_1 S_1 MT_2
  have S_2 : Sep [] h0.size hp2 [boxO bb2 [(.int .i64 a1_0), (.int .i64 a1_1)], boxO bb1 [(.int .i64 a0_0), (.int .i64 a0_1), (.bool a0_2), u0_3, u0_4]] := Sep.step (A := []) (L := [boxO bb1 [(.int .i64 a0_0), (.int .i64 a0_1), (.bool a0_2), u0_3, u0_4]]) S_1 (Mod.size X_1) MT_2 T_2
  refine RL.opD (by decide) (opv_assign rfl rfl) ?_
  refine RL.nil ?_
  refine thnN ?_
  refine W.seq ?_
  obtain ⟨x1, hy1, hp⟩ := Option.bind_eq_some_iff.1 hp
  refine W.cut (fun φ' h' => Fr.sub [(0, (.agg (List.toArray (α := Value) [(.int .i64 a0_0), (.int .i64 a0_1), (.bool a0_2), u0_3, u0_4]))), (1, (.agg (List.toArray (α := Value) [(.int .i64 a1_0), (.int .i64 a1_1)]))), (2, (.pointer (some ⟨bb1, 0, none⟩))), (3, (.pointer (some ⟨bb2, 0, none⟩))), (4, (.bool x1))] φ' ∧ hp2 = h') ?_ ?_
  · obtain ⟨x2, hx2, hy1⟩ := Option.bind_eq_some_iff.1 hy1
    by_cases c1 : x2 = true
    · rw [if_pos c1] at hy1
      obtain ⟨x3, hx3, hy1⟩ := Option.bind_eq_some_iff.1 hy1
      refine W.region ?_
      refine RL.op _ (by decide) (opv_call (cap := []) (spec_l02Is_ok _ _ _ _ _ _ _ (SL.up (SL.mod g0_3 X_2 (Nat.le_refl _) nob) (Nat.le_trans (Nat.le_refl _) (Mod.size X_2))) _ _ (SL.up (SL.mod g0_4 X_2 (Nat.le_refl _) nob) (Nat.le_trans (Nat.le_refl _) (Mod.size X_2))) (Sep.at (o := boxO bb1 [(.int .i64 a0_0), (.int .i64 a0_1), (.bool a0_2), u0_3, u0_4]) S_2 1 rfl) _ hx2) rfl rfl ⟨rfl, trivial⟩ Try.func74 rfl rfl) ?_
      rintro _ _ ⟨rfl, rfl⟩
      refine RL.opD (by decide) (opv_move rfl rfl) ?_
      refine RL.yes _ rfl rfl c1 (by decide) (opv_call (cap := []) (spec_l07Is_ok _ _ _ _ _ _ _ (SL.up (SL.mod g0_3 X_2 (Nat.le_refl _) nob) (Nat.le_trans (Nat.le_refl _) (Mod.size X_2))) _ _ (SL.up (SL.mod g0_4 X_2 (Nat.le_refl _) nob) (Nat.le_trans (Nat.le_refl _) (Mod.size X_2))) (Sep.at (o := boxO bb1 [(.int .i64 a0_0), (.int .i64 a0_1), (.bool a0_2), u0_3, u0_4]) S_2 1 rfl) _ _ _ (Sep.at (o := boxO bb2 [(.int .i64 a1_0), (.int .i64 a1_1)]) S_2 0 rfl) _ hx3) rfl rfl ⟨rfl, rfl, trivial⟩ Try.func75 rfl rfl) ?_
      rintro _ _ ⟨rfl, rfl⟩
      refine RL.opD (by decide) (opv_pick rfl rfl (fun _ => rfl) (fun e => absurd (Eq.trans (Eq.symm e) c1) (by decide)) rfl) ?_
      refine RL.opD (by decide) (opv_assign rfl rfl) ?_
      refine RL.nil ?_
      have ey1 := Option.some.inj hy1
      subst ey1
      refine onlyN ?_
      exact ⟨⟨rfl, rfl, rfl, rfl, rfl, trivial⟩, rfl⟩
    · rw [if_neg c1] at hy1
      have c1 := eq_false_of_ne_true c1
      refine W.region ?_
      refine RL.op _ (by decide) (opv_call (cap := []) (spec_l02Is_ok _ _ _ _ _ _ _ (SL.up (SL.mod g0_3 X_2 (Nat.le_refl _) nob) (Nat.le_trans (Nat.le_refl _) (Mod.size X_2))) _ _ (SL.up (SL.mod g0_4 X_2 (Nat.le_refl _) nob) (Nat.le_trans (Nat.le_refl _) (Mod.size X_2))) (Sep.at (o := boxO bb1 [(.int .i64 a0_0), (.int .i64 a0_1), (.bool a0_2), u0_3, u0_4]) S_2 1 rfl) _ hx2) rfl rfl ⟨rfl, trivial⟩ Try.func74 rfl rfl) ?_
      rintro _ _ ⟨rfl, rfl⟩
      refine RL.opD (by decide) (opv_move rfl rfl) ?_
      refine RL.no rfl rfl (Eq.trans c1 (by decide)) (by decide) ?_
      refine RL.opD (by decide) (opv_pick rfl rfl (fun e => absurd (Eq.trans (Eq.symm e) c1) (by decide)) (fun _ => rfl) rfl) ?_
      refine RL.opD (by decide) (opv_assign rfl rfl) ?_
      refine RL.nil ?_
      have ey1 := Option.some.inj hy1
      subst ey1
      refine onlyN ?_
      exact ⟨⟨rfl, rfl, rfl, rfl, rfl, trivial⟩, rfl⟩
  rintro φ' _ ⟨hs1, rfl⟩
  refine thnN ?_
  refine W.sub hs1 ?_
  refine W.ret ?_
  have er := Option.some.inj hp
  subst er
  exact Rt.one rfl rfl ⟨rfl, X_2, (Sep.nil _ _ _)⟩

set_option maxRecDepth 20000 in
theorem impl_IsStrip_ok (h0 : Heap) (a0_0 : Int) (a0_1 : Int) (a0_2 : Bool) (u0_3 : Value) (a0_3 : List (Option Nat)) (g0_3 : SL (kF .f32) h0.size h0 u0_3 a0_3) (u0_4 : Value) (a0_4 : List (Option Nat)) (g0_4 : SL (kF .f32) h0.size h0 u0_4 a0_4) (a1_0 : Int) (a1_1 : Int) (r : Bool) (hp : impl_IsStrip a0_0 a0_1 a0_2 a0_3 a0_4 a1_0 a1_1 = some r) : CallsH Try.prog 22 ([(.agg (List.toArray (α := Value) [(.int .i64 a0_0), (.int .i64 a0_1), (.bool a0_2), u0_3, u0_4])), (.agg (List.toArray (α := Value) [(.int .i64 a1_0), (.int .i64 a1_1)]))].toArray ++ [].toArray) h0 (fun v h' => v = (.bool r) ∧ Mod [] h0 h' ∧ Sep [] h0.size h' []) := by
  unfold impl_IsStrip at hp
  refine callsH_of_W (l := [(.agg (List.toArray (α := Value) [(.int .i64 a0_0), (.int .i64 a0_1), (.bool a0_2), u0_3, u0_4])), (.agg (List.toArray (α := Value) [(.int .i64 a1_0), (.int .i64 a1_1)]))]) (cap := []) 25 Try.func22 rfl rfl rfl ?_
  refine W.seq ?_
  refine W.region ?_
  refine RL.op _ (by decide) (opS_boxed (opv_boxA (cs := [(.int .i64 a0_0), (.int .i64 a0_1), (.bool a0_2), u0_3, u0_4]) rfl rfl)) ?_
  rintro _ hp1 ⟨bb1, rfl, MT_1, T_1⟩
  have X_1 : Mod [] h0 hp1 := Mod.step (A := []) (L := []) (Mod.refl [] h0) (Sep.nil [] h0.size h0) MT_1
  have S_1 : Sep [] h0.size hp1 [boxO bb1 [(.int .i64 a0_0), (.int .i64 a0_1), (.bool a0_2), u0_3, u0_4]] := Sep.step (A := []) (L := []) (Sep.nil [] h0.size h0) (Mod.size (Mod.refl [] h0)) MT_1 T_1
  refine RL.op _ (by decide) (opS_boxed (opv_boxA (cs := [(.int .i64 a1_0), (.int .i64 a1_1)]) rfl rfl)) ?_
  rintro _ hp2 ⟨bb2, rfl, MT_2, T_2⟩
  have X_2 : Mod [] h0 hp2 := Mod.step (A := []) (L := [boxO bb1 [(.int .i64 a0_0), (.int .i64 a0_1), (.bool a0_2), u0_3, u0_4]]) X_1 S_1 MT_2
  have S_2 : Sep [] h0.size hp2 [boxO bb2 [(.int .i64 a1_0), (.int .i64 a1_1)], boxO bb1 [(.int .i64 a0_0), (.int .i64 a0_1), (.bool a0_2), u0_3, u0_4]] := Sep.step (A := []) (L := [boxO bb1 [(.int .i64 a0_0), (.int .i64 a0_1), (.bool a0_2), u0_3, u0_4]]) S_1 (Mod.size X_1) MT_2 T_2
  refine RL.opD (by decide) (opv_assign rfl rfl) ?_
  refine RL.nil ?_
  refine thnN ?_
  refine W.seq ?_
  obtain ⟨x1, hy1, hp⟩ := Option.bind_eq_some_iff.1 hp
  refine W.cut (fun φ' h' => Fr.sub [(0, (.agg (List.toArray (α := Value) [(.int .i64 a0_0), (.int .i64 a0_1), (.bool a0_2), u0_3, u0_4]))), (1, (.agg (List.toArray (α := Value) [(.int .i64 a1_0), (.int .i64 a1_1)]))), (2, (.pointer (some ⟨bb1, 0, none⟩))), (3, (.pointer (some ⟨bb2, 0, none⟩))), (4, (.bool x1))] φ' ∧ Mod [] h0 h' ∧ Sep [] h0.size h' [boxO bb2 [(.int .i64 a1_0), (.int .i64 a1_1)], boxO bb1 [(.int .i64 a0_0), (.int .i64 a0_1), (.bool a0_2), u0_3, u0_4]]) ?_ ?_
  · obtain ⟨x2, hx2, hy1⟩ := Option.bind_eq_some_iff.1 hy1
    by_cases c1 : x2 = true
    · rw [if_pos c1] at hy1
      obtain ⟨x3, hx3, hy1⟩ := Option.bind_eq_some_iff.1 hy1
      by_cases c2 : x3 = true
      · rw [if_pos c2] at hy1
        obtain ⟨x4, hx4, hy1⟩ := Option.bind_eq_some_iff.1 hy1
        refine W.region ?_
        refine RL.opD (by decide) (opv_loadA (us := [(.int .i64 a0_0), (.int .i64 a0_1), (.bool a0_2), u0_3, u0_4]) rfl Try.agg29 Try.size29 rfl (Sep.at (o := boxO bb1 [(.int .i64 a0_0), (.int .i64 a0_1), (.bool a0_2), u0_3, u0_4]) S_2 1 rfl) rfl rfl) ?_
        refine RL.op _ (by decide) (opv_call (cap := []) (impl_ValidSheet_ok _ _ _ _ _ _ (SL.up (SL.mod g0_3 X_2 (Nat.le_refl _) nob) (Nat.le_trans (Nat.le_refl _) (Mod.size X_2))) _ _ (SL.up (SL.mod g0_4 X_2 (Nat.le_refl _) nob) (Nat.le_trans (Nat.le_refl _) (Mod.size X_2))) _ hx2) rfl rfl ⟨rfl, trivial⟩ Try.func76 rfl rfl) ?_
        rintro _ hp3 ⟨rfl, MT_3, T_3⟩
        have X_3 : Mod [] h0 hp3 := Mod.step (A := []) (L := [boxO bb2 [(.int .i64 a1_0), (.int .i64 a1_1)], boxO bb1 [(.int .i64 a0_0), (.int .i64 a0_1), (.bool a0_2), u0_3, u0_4]]) X_2 S_2 MT_3
        have S_3 : Sep [] h0.size hp3 [boxO bb2 [(.int .i64 a1_0), (.int .i64 a1_1)], boxO bb1 [(.int .i64 a0_0), (.int .i64 a0_1), (.bool a0_2), u0_3, u0_4]] := Sep.step (A := []) (L := [boxO bb2 [(.int .i64 a1_0), (.int .i64 a1_1)], boxO bb1 [(.int .i64 a0_0), (.int .i64 a0_1), (.bool a0_2), u0_3, u0_4]]) S_2 (Mod.size X_2) MT_3 T_3
        refine RL.opD (by decide) (opv_move rfl rfl) ?_
        refine RL.yes _ rfl rfl c1 (by decide) (opv_fieldAddr rfl Try.fo31_0 rfl) ?_
        rintro _ _ ⟨rfl, rfl⟩
        refine RL.yes _ rfl rfl c1 (by decide) (opv_loadB rfl Try.one2 rfl (Sep.at (o := boxO bb2 [(.int .i64 a1_0), (.int .i64 a1_1)]) S_3 0 rfl) rfl) ?_
        rintro _ _ ⟨rfl, rfl⟩
        refine RL.yes _ rfl rfl c1 (by decide) (opv_fieldAddr rfl Try.fo29_1 rfl) ?_
        rintro _ _ ⟨rfl, rfl⟩
        refine RL.yes _ rfl rfl c1 (by decide) (opv_loadB rfl Try.one2 rfl (Sep.at (o := boxO bb1 [(.int .i64 a0_0), (.int .i64 a0_1), (.bool a0_2), u0_3, u0_4]) S_3 1 rfl) rfl) ?_
        rintro _ _ ⟨rfl, rfl⟩
        refine RL.yes _ rfl rfl c1 (by decide) (opv_sub rfl rfl rfl) ?_
        rintro _ _ ⟨rfl, rfl⟩
        refine RL.yes _ rfl rfl c1 (by decide) (opv_call (cap := []) (impl_within_ok _ _ _ _ _ hx3) rfl rfl ⟨rfl, rfl, rfl, trivial⟩ Try.func77 rfl rfl) ?_
        rintro _ _ ⟨rfl, rfl⟩
        refine RL.opD (by decide) (opv_pick rfl rfl (fun _ => rfl) (fun e => absurd (Eq.trans (Eq.symm e) c1) (by decide)) rfl) ?_
        refine RL.opD (by decide) (opv_move rfl rfl) ?_
        refine RL.yes _ rfl rfl c2 (by decide) (opv_fieldAddr rfl Try.fo31_1 rfl) ?_
        rintro _ _ ⟨rfl, rfl⟩
        refine RL.yes _ rfl rfl c2 (by decide) (opv_loadB rfl Try.one2 rfl (Sep.at (o := boxO bb2 [(.int .i64 a1_0), (.int .i64 a1_1)]) S_3 0 rfl) rfl) ?_
        rintro _ _ ⟨rfl, rfl⟩
        refine RL.yes _ rfl rfl c2 (by decide) (opv_fieldAddr rfl Try.fo29_1 rfl) ?_
        rintro _ _ ⟨rfl, rfl⟩
        refine RL.yes _ rfl rfl c2 (by decide) (opv_loadB rfl Try.one2 rfl (Sep.at (o := boxO bb1 [(.int .i64 a0_0), (.int .i64 a0_1), (.bool a0_2), u0_3, u0_4]) S_3 1 rfl) rfl) ?_
        rintro _ _ ⟨rfl, rfl⟩
        refine RL.yes _ rfl rfl c2 (by decide) (opv_fieldAddr rfl Try.fo31_0 rfl) ?_
        rintro _ _ ⟨rfl, rfl⟩
        refine RL.yes _ rfl rfl c2 (by decide) (opv_loadB rfl Try.one2 rfl (Sep.at (o := boxO bb2 [(.int .i64 a1_0), (.int .i64 a1_1)]) S_3 0 rfl) rfl) ?_
        rintro _ _ ⟨rfl, rfl⟩
        refine RL.yes _ rfl rfl c2 (by decide) (opv_sub rfl rfl rfl) ?_
        rintro _ _ ⟨rfl, rfl⟩
        refine RL.yes _ rfl rfl c2 (by decide) (opv_call (cap := []) (impl_within_ok _ _ _ _ _ hx4) rfl rfl ⟨rfl, rfl, rfl, trivial⟩ Try.func77 rfl rfl) ?_
        rintro _ _ ⟨rfl, rfl⟩
        refine RL.opD (by decide) (opv_pick rfl rfl (fun _ => rfl) (fun e => absurd (Eq.trans (Eq.symm e) c2) (by decide)) rfl) ?_
        refine RL.opD (by decide) (opv_assign rfl rfl) ?_
        refine RL.nil ?_
        have ey1 := Option.some.inj hy1
        subst ey1
        refine onlyN ?_
        exact ⟨⟨rfl, rfl, rfl, rfl, rfl, trivial⟩, X_3, (Sep.sel S_3 [0, 1] (by decide))⟩
      · rw [if_neg c2] at hy1
        have c2 := eq_false_of_ne_true c2
        refine W.region ?_
        refine RL.opD (by decide) (opv_loadA (us := [(.int .i64 a0_0), (.int .i64 a0_1), (.bool a0_2), u0_3, u0_4]) rfl Try.agg29 Try.size29 rfl (Sep.at (o := boxO bb1 [(.int .i64 a0_0), (.int .i64 a0_1), (.bool a0_2), u0_3, u0_4]) S_2 1 rfl) rfl rfl) ?_
        refine RL.op _ (by decide) (opv_call (cap := []) (impl_ValidSheet_ok _ _ _ _ _ _ (SL.up (SL.mod g0_3 X_2 (Nat.le_refl _) nob) (Nat.le_trans (Nat.le_refl _) (Mod.size X_2))) _ _ (SL.up (SL.mod g0_4 X_2 (Nat.le_refl _) nob) (Nat.le_trans (Nat.le_refl _) (Mod.size X_2))) _ hx2) rfl rfl ⟨rfl, trivial⟩ Try.func76 rfl rfl) ?_
        rintro _ hp3 ⟨rfl, MT_3, T_3⟩
        have X_3 : Mod [] h0 hp3 := Mod.step (A := []) (L := [boxO bb2 [(.int .i64 a1_0), (.int .i64 a1_1)], boxO bb1 [(.int .i64 a0_0), (.int .i64 a0_1), (.bool a0_2), u0_3, u0_4]]) X_2 S_2 MT_3
        have S_3 : Sep [] h0.size hp3 [boxO bb2 [(.int .i64 a1_0), (.int .i64 a1_1)], boxO bb1 [(.int .i64 a0_0), (.int .i64 a0_1), (.bool a0_2), u0_3, u0_4]] := Sep.step (A := []) (L := [boxO bb2 [(.int .i64 a1_0), (.int .i64 a1_1)], boxO bb1 [(.int .i64 a0_0), (.int .i64 a0_1), (.bool a0_2), u0_3, u0_4]]) S_2 (Mod.size X_2) MT_3 T_3
        refine RL.opD (by decide) (opv_move rfl rfl) ?_
        refine RL.yes _ rfl rfl c1 (by decide) (opv_fieldAddr rfl Try.fo31_0 rfl) ?_
        rintro _ _ ⟨rfl, rfl⟩
        refine RL.yes _ rfl rfl c1 (by decide) (opv_loadB rfl Try.one2 rfl (Sep.at (o := boxO bb2 [(.int .i64 a1_0), (.int .i64 a1_1)]) S_3 0 rfl) rfl) ?_
        rintro _ _ ⟨rfl, rfl⟩
        refine RL.yes _ rfl rfl c1 (by decide) (opv_fieldAddr rfl Try.fo29_1 rfl) ?_
        rintro _ _ ⟨rfl, rfl⟩
        refine RL.yes _ rfl rfl c1 (by decide) (opv_loadB rfl Try.one2 rfl (Sep.at (o := boxO bb1 [(.int .i64 a0_0), (.int .i64 a0_1), (.bool a0_2), u0_3, u0_4]) S_3 1 rfl) rfl) ?_
        rintro _ _ ⟨rfl, rfl⟩
        refine RL.yes _ rfl rfl c1 (by decide) (opv_sub rfl rfl rfl) ?_
        rintro _ _ ⟨rfl, rfl⟩
        refine RL.yes _ rfl rfl c1 (by decide) (opv_call (cap := []) (impl_within_ok _ _ _ _ _ hx3) rfl rfl ⟨rfl, rfl, rfl, trivial⟩ Try.func77 rfl rfl) ?_
        rintro _ _ ⟨rfl, rfl⟩
        refine RL.opD (by decide) (opv_pick rfl rfl (fun _ => rfl) (fun e => absurd (Eq.trans (Eq.symm e) c1) (by decide)) rfl) ?_
        refine RL.opD (by decide) (opv_move rfl rfl) ?_
        refine RL.no rfl rfl (Eq.trans c2 (by decide)) (by decide) ?_
        refine RL.no rfl rfl (Eq.trans c2 (by decide)) (by decide) ?_
        refine RL.no rfl rfl (Eq.trans c2 (by decide)) (by decide) ?_
        refine RL.no rfl rfl (Eq.trans c2 (by decide)) (by decide) ?_
        refine RL.no rfl rfl (Eq.trans c2 (by decide)) (by decide) ?_
        refine RL.no rfl rfl (Eq.trans c2 (by decide)) (by decide) ?_
        refine RL.no rfl rfl (Eq.trans c2 (by decide)) (by decide) ?_
        refine RL.no rfl rfl (Eq.trans c2 (by decide)) (by decide) ?_
        refine RL.opD (by decide) (opv_pick rfl rfl (fun e => absurd (Eq.trans (Eq.symm e) c2) (by decide)) (fun _ => rfl) rfl) ?_
        refine RL.opD (by decide) (opv_assign rfl rfl) ?_
        refine RL.nil ?_
        have ey1 := Option.some.inj hy1
        subst ey1
        refine onlyN ?_
        exact ⟨⟨rfl, rfl, rfl, rfl, rfl, trivial⟩, X_3, (Sep.sel S_3 [0, 1] (by decide))⟩
    · rw [if_neg c1] at hy1
      have c1 := eq_false_of_ne_true c1
      refine W.region ?_
      refine RL.opD (by decide) (opv_loadA (us := [(.int .i64 a0_0), (.int .i64 a0_1), (.bool a0_2), u0_3, u0_4]) rfl Try.agg29 Try.size29 rfl (Sep.at (o := boxO bb1 [(.int .i64 a0_0), (.int .i64 a0_1), (.bool a0_2), u0_3, u0_4]) S_2 1 rfl) rfl rfl) ?_
      refine RL.op _ (by decide) (opv_call (cap := []) (impl_ValidSheet_ok _ _ _ _ _ _ (SL.up (SL.mod g0_3 X_2 (Nat.le_refl _) nob) (Nat.le_trans (Nat.le_refl _) (Mod.size X_2))) _ _ (SL.up (SL.mod g0_4 X_2 (Nat.le_refl _) nob) (Nat.le_trans (Nat.le_refl _) (Mod.size X_2))) _ hx2) rfl rfl ⟨rfl, trivial⟩ Try.func76 rfl rfl) ?_
      rintro _ hp3 ⟨rfl, MT_3, T_3⟩
      have X_3 : Mod [] h0 hp3 := Mod.step (A := []) (L := [boxO bb2 [(.int .i64 a1_0), (.int .i64 a1_1)], boxO bb1 [(.int .i64 a0_0), (.int .i64 a0_1), (.bool a0_2), u0_3, u0_4]]) X_2 S_2 MT_3
      have S_3 : Sep [] h0.size hp3 [boxO bb2 [(.int .i64 a1_0), (.int .i64 a1_1)], boxO bb1 [(.int .i64 a0_0), (.int .i64 a0_1), (.bool a0_2), u0_3, u0_4]] := Sep.step (A := []) (L := [boxO bb2 [(.int .i64 a1_0), (.int .i64 a1_1)], boxO bb1 [(.int .i64 a0_0), (.int .i64 a0_1), (.bool a0_2), u0_3, u0_4]]) S_2 (Mod.size X_2) MT_3 T_3
      refine RL.opD (by decide) (opv_move rfl rfl) ?_
      refine RL.no rfl rfl (Eq.trans c1 (by decide)) (by decide) ?_
      refine RL.no rfl rfl (Eq.trans c1 (by decide)) (by decide) ?_
      refine RL.no rfl rfl (Eq.trans c1 (by decide)) (by decide) ?_
      refine RL.no rfl rfl (Eq.trans c1 (by decide)) (by decide) ?_
      refine RL.no rfl rfl (Eq.trans c1 (by decide)) (by decide) ?_
      refine RL.no rfl rfl (Eq.trans c1 (by decide)) (by decide) ?_
      refine RL.opD (by decide) (opv_pick rfl rfl (fun e => absurd (Eq.trans (Eq.symm e) c1) (by decide)) (fun _ => rfl) rfl) ?_
      refine RL.opD (by decide) (opv_move rfl rfl) ?_
      refine RL.no rfl rfl (Eq.trans rfl (by decide)) (by decide) ?_
      refine RL.no rfl rfl (Eq.trans rfl (by decide)) (by decide) ?_
      refine RL.no rfl rfl (Eq.trans rfl (by decide)) (by decide) ?_
      refine RL.no rfl rfl (Eq.trans rfl (by decide)) (by decide) ?_
      refine RL.no rfl rfl (Eq.trans rfl (by decide)) (by decide) ?_
      refine RL.no rfl rfl (Eq.trans rfl (by decide)) (by decide) ?_
      refine RL.no rfl rfl (Eq.trans rfl (by decide)) (by decide) ?_
      refine RL.no rfl rfl (Eq.trans rfl (by decide)) (by decide) ?_
      refine RL.opD (by decide) (opv_pick rfl rfl (fun e => absurd (Eq.trans (Eq.symm e) rfl) (by decide)) (fun _ => rfl) rfl) ?_
      refine RL.opD (by decide) (opv_assign rfl rfl) ?_
      refine RL.nil ?_
      have ey1 := Option.some.inj hy1
      subst ey1
      refine onlyN ?_
      exact ⟨⟨rfl, rfl, rfl, rfl, rfl, trivial⟩, X_3, (Sep.sel S_3 [0, 1] (by decide))⟩
  rintro φ' hp4 ⟨hs1, X_4, S_4⟩
  refine thnN ?_
  refine W.sub hs1 ?_
  refine W.ret ?_
  have er := Option.some.inj hp
  subst er
  exact Rt.one rfl rfl ⟨rfl, X_4, (Sep.nil _ _ _)⟩

set_option maxRecDepth 20000 in
theorem laws_FnExactIsStrip_ok (h0 : Heap) (a0_0 : Int) (a0_1 : Int) (a0_2 : Bool) (u0_3 : Value) (a0_3 : List (Option Nat)) (g0_3 : SL (kF .f32) h0.size h0 u0_3 a0_3) (u0_4 : Value) (a0_4 : List (Option Nat)) (g0_4 : SL (kF .f32) h0.size h0 u0_4 a0_4) (a1_0 : Int) (a1_1 : Int) (r : Bool) (hp : laws_FnExactIsStrip a0_0 a0_1 a0_2 a0_3 a0_4 a1_0 a1_1 = some r) : CallsH Try.prog 3 ([(.agg (List.toArray (α := Value) [(.int .i64 a0_0), (.int .i64 a0_1), (.bool a0_2), u0_3, u0_4])), (.agg (List.toArray (α := Value) [(.int .i64 a1_0), (.int .i64 a1_1)]))].toArray ++ [].toArray) h0 (fun v h' => v = (.bool r) ∧ Mod [] h0 h' ∧ Sep [] h0.size h' []) := by
  unfold laws_FnExactIsStrip at hp
  refine callsH_of_W (l := [(.agg (List.toArray (α := Value) [(.int .i64 a0_0), (.int .i64 a0_1), (.bool a0_2), u0_3, u0_4])), (.agg (List.toArray (α := Value) [(.int .i64 a1_0), (.int .i64 a1_1)]))]) (cap := []) 33 Try.func3 rfl rfl rfl ?_
  refine W.seq ?_
  refine W.region ?_
  refine RL.op _ (by decide) (opS_boxed (opv_boxA (cs := [(.int .i64 a0_0), (.int .i64 a0_1), (.bool a0_2), u0_3, u0_4]) rfl rfl)) ?_
  rintro _ hp1 ⟨bb1, rfl, MT_1, T_1⟩
  have X_1 : Mod [] h0 hp1 := Mod.step (A := []) (L := []) (Mod.refl [] h0) (Sep.nil [] h0.size h0) MT_1
  have S_1 : Sep [] h0.size hp1 [boxO bb1 [(.int .i64 a0_0), (.int .i64 a0_1), (.bool a0_2), u0_3, u0_4]] := Sep.step (A := []) (L := []) (Sep.nil [] h0.size h0) (Mod.size (Mod.refl [] h0)) MT_1 T_1
  refine RL.op _ (by decide) (opS_boxed (opv_boxA (cs := [(.int .i64 a1_0), (.int .i64 a1_1)]) rfl rfl)) ?_
  rintro _ hp2 ⟨bb2, rfl, MT_2, T_2⟩
  have X_2 : Mod [] h0 hp2 := Mod.step (A := []) (L := [boxO bb1 [(.int .i64 a0_0), (.int .i64 a0_1), (.bool a0_2), u0_3, u0_4]]) X_1 S_1 MT_2
  have S_2 : Sep [] h0.size hp2 [boxO bb2 [(.int .i64 a1_0), (.int .i64 a1_1)], boxO bb1 [(.int .i64 a0_0), (.int .i64 a0_1), (.bool a0_2), u0_3, u0_4]] := Sep.step (A := []) (L := [boxO bb1 [(.int .i64 a0_0), (.int .i64 a0_1), (.bool a0_2), u0_3, u0_4]]) S_1 (Mod.size X_1) MT_2 T_2
  refine RL.opD (by decide) (opv_assign rfl rfl) ?_
  refine RL.nil ?_
  refine thnN ?_
  refine W.seq ?_
  refine W.region ?_
  refine RL.opD (by decide) (opv_assign rfl rfl) ?_
  refine RL.nil ?_
  refine thnN ?_
  refine W.seq ?_
  obtain ⟨x1, hx1, hp⟩ := Option.bind_eq_some_iff.1 hp
  refine W.region ?_
  refine RL.opD (by decide) (opv_loadA (us := [(.int .i64 a0_0), (.int .i64 a0_1), (.bool a0_2), u0_3, u0_4]) rfl Try.agg24 Try.size24 rfl (Sep.at (o := boxO bb1 [(.int .i64 a0_0), (.int .i64 a0_1), (.bool a0_2), u0_3, u0_4]) S_2 1 rfl) rfl rfl) ?_
  refine RL.opD (by decide) (opv_move rfl rfl) ?_
  refine RL.op _ (by decide) (opv_call (cap := []) (laws_szSheet_ok _ _ _ _ _ _ (SL.up (SL.mod g0_3 X_2 (Nat.le_refl _) nob) (Nat.le_trans (Nat.le_refl _) (Mod.size X_2))) _ _ (SL.up (SL.mod g0_4 X_2 (Nat.le_refl _) nob) (Nat.le_trans (Nat.le_refl _) (Mod.size X_2))) _ _ hx1) rfl rfl ⟨rfl, rfl, trivial⟩ Try.func18 rfl rfl) ?_
  rintro _ hp3 ⟨rfl, MT_3, T_3⟩
  have X_3 : Mod [] h0 hp3 := Mod.step (A := []) (L := [boxO bb2 [(.int .i64 a1_0), (.int .i64 a1_1)], boxO bb1 [(.int .i64 a0_0), (.int .i64 a0_1), (.bool a0_2), u0_3, u0_4]]) X_2 S_2 MT_3
  have S_3 : Sep [] h0.size hp3 [boxO bb2 [(.int .i64 a1_0), (.int .i64 a1_1)], boxO bb1 [(.int .i64 a0_0), (.int .i64 a0_1), (.bool a0_2), u0_3, u0_4]] := Sep.step (A := []) (L := [boxO bb2 [(.int .i64 a1_0), (.int .i64 a1_1)], boxO bb1 [(.int .i64 a0_0), (.int .i64 a0_1), (.bool a0_2), u0_3, u0_4]]) S_2 (Mod.size X_2) MT_3 T_3
  refine RL.opD (by decide) (opv_assign rfl rfl) ?_
  refine RL.nil ?_
  refine thnN ?_
  refine W.seq ?_
  refine W.seq ?_
  refine W.region ?_
  refine RL.opD (by decide) (opv_move rfl rfl) ?_
  refine RL.opD (by decide) (opv_icmp rfl rfl rfl rfl) ?_
  refine RL.nil ?_
  refine thnN ?_
  by_cases c1 : (decide (x1 < 0)) = true
  · rw [if_pos c1] at hp
    refine W.condT rfl c1 ?_
    refine W.seq ?_
    refine W.region ?_
    refine RL.opD (by decide) (opv_assign rfl rfl) ?_
    refine RL.nil ?_
    refine thnN ?_
    refine W.ret ?_
    refine thnR ?_
    have er := Option.some.inj hp
    subst er
    exact Rt.one rfl rfl ⟨rfl, X_3, (Sep.nil _ _ _)⟩
  · rw [if_neg c1] at hp
    have c1 := eq_false_of_ne_true c1
    refine W.condF rfl c1 ?_
    refine W.skip ?_
    refine thnN ?_
    refine W.seq ?_
    obtain ⟨x2, hx2, hp⟩ := Option.bind_eq_some_iff.1 hp
    obtain ⟨x3, hx3, hp⟩ := Option.bind_eq_some_iff.1 hp
    obtain ⟨x4, hx4, hp⟩ := Option.bind_eq_some_iff.1 hp
    refine W.sub (ψ := [(0, (.agg (List.toArray (α := Value) [(.int .i64 a0_0), (.int .i64 a0_1), (.bool a0_2), u0_3, u0_4]))), (1, (.agg (List.toArray (α := Value) [(.int .i64 a1_0), (.int .i64 a1_1)]))), (2, (.pointer (some ⟨bb1, 0, none⟩))), (3, (.pointer (some ⟨bb2, 0, none⟩))), (4, (.bool false)), (5, (.int .i64 x1)), (13, (.bool (decide (x1 < 0))))]) ⟨rfl, rfl, rfl, rfl, rfl, rfl, rfl, trivial⟩ ?_
    refine W.regionM [fun v _ => @Eq Value (.agg (List.toArray (α := Value) [(.int .i64 a0_0), (.int .i64 a0_1), (.bool a0_2), u0_3, u0_4])) v, fun v h => ∃ v1, ∃ v2, @Eq Value v (.agg (List.toArray (α := Value) [(.int .i64 x2.1), (.int .i64 x2.2.1), (.bool x2.2.2.1), v1, v2])) ∧ Sep [] hp3.size h [ownO (kF .f32) 40 v1 x2.2.2.2.1, ownO (kF .f32) 40 v2 x2.2.2.2.2], fun v _ => @Eq Value (.agg (List.toArray (α := Value) [(.int .i64 a1_0), (.int .i64 a1_1)])) v, fun v h => @Eq Value v (.agg (List.toArray (α := Value) [(.int .i64 x3.1), (.int .i64 x3.2)])) ∧ Sep [] hp3.size h [], fun v h => @Eq Value v (.bool x4) ∧ Sep [] hp3.size h [], fun v _ => @Eq Value (.bool x4) v] [none, some (fun u => [Value.ownBlock (vget u 3), Value.ownBlock (vget u 4)]), none, some (fun u => []), some (fun u => []), none] [[], [0], [], [2], [1, 3], [4]] [5] Try.mixed (by decide +kernel) (by decide +kernel) rfl rfl rfl rfl ⟨fun _ _ _ h _ => h, fun _ _ _ ⟨u0_, u1_, e, h⟩ x => ⟨u0_, u1_, e, h.ext x⟩, fun _ _ _ h _ => h, fun _ _ _ ⟨e, h⟩ x => ⟨e, h.ext x⟩, fun _ _ _ ⟨e, h⟩ x => ⟨e, h.ext x⟩, fun _ _ _ h _ => h, trivial⟩ ?_ ?_
    · refine ⟨⟨rfl, ?_⟩, ⟨rfl, ?_⟩, ⟨rfl, ?_⟩, ⟨rfl, ?_⟩, ⟨rfl, ?_⟩, ⟨rfl, ?_⟩, trivial⟩
      · rintro hp7 E_1
        refine Dep.nil ?_
        refine GuardOK.none rfl ?_
        exact OpV.toDx (opv_loadA (us := [(.int .i64 a0_0), (.int .i64 a0_1), (.bool a0_2), u0_3, u0_4]) rfl Try.agg24 Try.size24 rfl (Sep.at (o := boxO bb1 [(.int .i64 a0_0), (.int .i64 a0_1), (.bool a0_2), u0_3, u0_4]) (Sep.ext S_3 E_1) 1 rfl) rfl rfl) rfl
      · rintro hp8 E_2 _ rfl
        refine Dep.nil ?_
        refine GuardOK.none rfl ?_
        exact OpV.mono (opv_call (cap := []) (laws_toSheet_ok _ _ _ _ _ _ (SL.up (SL.mod g0_3 (Mod.lift X_3 E_2) (Nat.le_refl _) nob) (Nat.le_trans (Nat.le_refl _) (Mod.size (Mod.lift X_3 E_2)))) _ _ (SL.up (SL.mod g0_4 (Mod.lift X_3 E_2) (Nat.le_refl _) nob) (Nat.le_trans (Nat.le_refl _) (Mod.size (Mod.lift X_3 E_2)))) _ hx2) rfl rfl ⟨rfl, trivial⟩ Try.func20 rfl rfl) (by rintro _ _ ⟨v1, v2, rfl, M_, T_⟩; exact ⟨Mod.ext M_, ⟨v1, v2, rfl, Sep.weak T_ (Ext.size E_2)⟩, Sep.fresh T_⟩)
      · rintro hp9 E_3
        refine Dep.nil ?_
        refine GuardOK.none rfl ?_
        exact OpV.toDx (opv_loadA (us := [(.int .i64 a1_0), (.int .i64 a1_1)]) rfl Try.agg26 Try.size26 rfl (Sep.at (o := boxO bb2 [(.int .i64 a1_0), (.int .i64 a1_1)]) (Sep.ext S_3 E_3) 0 rfl) rfl rfl) rfl
      · rintro hp10 E_4 _ rfl
        refine Dep.nil ?_
        refine GuardOK.none rfl ?_
        exact OpV.mono (opv_call (cap := []) (laws_toStrip_ok _ _ _ _ hx3) rfl rfl ⟨rfl, trivial⟩ Try.func21 rfl rfl) (by rintro _ _ ⟨rfl, M_, T_⟩; exact ⟨Mod.ext M_, ⟨rfl, Sep.weak T_ (Ext.size E_4)⟩, Sep.fresh T_⟩)
      · rintro hp11 E_5 _ ⟨v1, v2, rfl, T_4⟩ _ ⟨rfl, T_5⟩
        refine Dep.nil ?_
        refine GuardOK.none rfl ?_
        exact OpV.mono (opv_call (cap := []) (spec_IsStrip_ok _ _ _ _ _ _ (ownO.read (Sep.at (o := ownO (kF .f32) 40 v1 x2.2.2.2.1) T_4 0 rfl)) _ _ (ownO.read (Sep.at (o := ownO (kF .f32) 40 v2 x2.2.2.2.2) T_4 1 rfl)) _ _ _ hx4) rfl rfl ⟨rfl, rfl, trivial⟩ Try.func19 rfl rfl) (by rintro _ _ ⟨rfl, M_, T_⟩; exact ⟨Mod.ext M_, ⟨rfl, Sep.weak T_ (Ext.size E_5)⟩, Sep.fresh T_⟩)
      · rintro hp12 E_6 _ ⟨rfl, T_6⟩
        refine Dep.nil ?_
        refine GuardOK.none rfl ?_
        exact OpV.toDx (opv_assign rfl rfl) rfl
    rintro hp13 E_7 _ rfl
    refine DepM.nil ?_
    intro _
    have X_7 : Mod [] h0 hp13 := Mod.lift X_3 E_7
    have S_7 : Sep [] h0.size hp13 [boxO bb2 [(.int .i64 a1_0), (.int .i64 a1_1)], boxO bb1 [(.int .i64 a0_0), (.int .i64 a0_1), (.bool a0_2), u0_3, u0_4]] := Sep.ext S_3 E_7
    show RL _ _ _ _ [] _ _
    refine RL.nil ?_
    refine thnN ?_
    refine W.seq ?_
    obtain ⟨x5, hx5, hp⟩ := Option.bind_eq_some_iff.1 hp
    refine W.region ?_
    refine RL.opD (by decide) (opv_loadA (us := [(.int .i64 a0_0), (.int .i64 a0_1), (.bool a0_2), u0_3, u0_4]) rfl Try.agg24 Try.size24 rfl (Sep.at (o := boxO bb1 [(.int .i64 a0_0), (.int .i64 a0_1), (.bool a0_2), u0_3, u0_4]) S_7 1 rfl) rfl rfl) ?_
    refine RL.op _ (by decide) (opv_call (cap := []) (laws_toSheet_ok _ _ _ _ _ _ (SL.up (SL.mod g0_3 X_7 (Nat.le_refl _) nob) (Nat.le_trans (Nat.le_refl _) (Mod.size X_7))) _ _ (SL.up (SL.mod g0_4 X_7 (Nat.le_refl _) nob) (Nat.le_trans (Nat.le_refl _) (Mod.size X_7))) _ hx5) rfl rfl ⟨rfl, trivial⟩ Try.func20 rfl rfl) ?_
    rintro _ hp14 ⟨v5, v6, rfl, MT_7, T_7⟩
    have X_8 : Mod [] h0 hp14 := Mod.step (A := []) (L := [boxO bb2 [(.int .i64 a1_0), (.int .i64 a1_1)], boxO bb1 [(.int .i64 a0_0), (.int .i64 a0_1), (.bool a0_2), u0_3, u0_4]]) X_7 S_7 MT_7
    have S_8 : Sep [] h0.size hp14 [ownO (kF .f32) 40 v5 x5.2.2.2.1, ownO (kF .f32) 40 v6 x5.2.2.2.2, boxO bb2 [(.int .i64 a1_0), (.int .i64 a1_1)], boxO bb1 [(.int .i64 a0_0), (.int .i64 a0_1), (.bool a0_2), u0_3, u0_4]] := Sep.step (A := []) (L := [boxO bb2 [(.int .i64 a1_0), (.int .i64 a1_1)], boxO bb1 [(.int .i64 a0_0), (.int .i64 a0_1), (.bool a0_2), u0_3, u0_4]]) S_7 (Mod.size X_7) MT_7 T_7
    refine RL.op _ (by decide) (opS_boxed (opv_alloc (cs := [(.int .i64 0), (.int .i64 0), (.bool false), (.slice none 0 0), (.slice none 0 0)]) rfl Try.zero29 rfl)) ?_
    rintro _ hp15 ⟨bb3, rfl, MT_8, T_8⟩
    have X_9 : Mod [] h0 hp15 := Mod.step (A := []) (L := [ownO (kF .f32) 40 v5 x5.2.2.2.1, ownO (kF .f32) 40 v6 x5.2.2.2.2, boxO bb2 [(.int .i64 a1_0), (.int .i64 a1_1)], boxO bb1 [(.int .i64 a0_0), (.int .i64 a0_1), (.bool a0_2), u0_3, u0_4]]) X_8 S_8 MT_8
    have S_9 : Sep [] h0.size hp15 [boxO bb3 [(.int .i64 0), (.int .i64 0), (.bool false), (.slice none 0 0), (.slice none 0 0)], ownO (kF .f32) 40 v5 x5.2.2.2.1, ownO (kF .f32) 40 v6 x5.2.2.2.2, boxO bb2 [(.int .i64 a1_0), (.int .i64 a1_1)], boxO bb1 [(.int .i64 a0_0), (.int .i64 a0_1), (.bool a0_2), u0_3, u0_4]] := Sep.step (A := []) (L := [ownO (kF .f32) 40 v5 x5.2.2.2.1, ownO (kF .f32) 40 v6 x5.2.2.2.2, boxO bb2 [(.int .i64 a1_0), (.int .i64 a1_1)], boxO bb1 [(.int .i64 a0_0), (.int .i64 a0_1), (.bool a0_2), u0_3, u0_4]]) S_8 (Mod.size X_8) MT_8 T_8
    refine RL.op0 _ (opS_stored (cs := [(.int .i64 0), (.int .i64 0), (.bool false), (.slice none 0 0), (.slice none 0 0)]) (cs' := [(.int .i64 x5.1), (.int .i64 x5.2.1), (.bool x5.2.2.1), v5, v6]) (opv_storeA (us := [(.int .i64 x5.1), (.int .i64 x5.2.1), (.bool x5.2.2.1), v5, v6]) rfl Try.size29 rfl rfl (oneAll rfl (oneAll rfl (oneAll rfl (oneAll (ownO.one (Sep.at (o := ownO (kF .f32) 40 v5 x5.2.2.2.1) S_9 1 rfl)) (oneAll (ownO.one (Sep.at (o := ownO (kF .f32) 40 v6 x5.2.2.2.2) S_9 2 rfl)) rfl))))) (Sep.at (o := boxO bb3 [(.int .i64 0), (.int .i64 0), (.bool false), (.slice none 0 0), (.slice none 0 0)]) S_9 0 rfl) rfl rfl) (Sep.at (o := boxO bb3 [(.int .i64 0), (.int .i64 0), (.bool false), (.slice none 0 0), (.slice none 0 0)]) S_9 0 rfl)) ?_
    rintro _ hp16 ⟨rfl, MT_9, T_9⟩
    have S_10 : Sep [] h0.size hp15 ([boxO bb3 [(.int .i64 0), (.int .i64 0), (.bool false), (.slice none 0 0), (.slice none 0 0)]] ++ [ownO (kF .f32) 40 v5 x5.2.2.2.1, ownO (kF .f32) 40 v6 x5.2.2.2.2, boxO bb2 [(.int .i64 a1_0), (.int .i64 a1_1)], boxO bb1 [(.int .i64 a0_0), (.int .i64 a0_1), (.bool a0_2), u0_3, u0_4]]) := Sep.sel S_9 [0, 1, 2, 3, 4] (by decide)
    have X_10 : Mod [] h0 hp16 := Mod.step (A := [boxO bb3 [(.int .i64 0), (.int .i64 0), (.bool false), (.slice none 0 0), (.slice none 0 0)]]) (L := [ownO (kF .f32) 40 v5 x5.2.2.2.1, ownO (kF .f32) 40 v6 x5.2.2.2.2, boxO bb2 [(.int .i64 a1_0), (.int .i64 a1_1)], boxO bb1 [(.int .i64 a0_0), (.int .i64 a0_1), (.bool a0_2), u0_3, u0_4]]) X_9 S_10 MT_9
    have S_11 : Sep [] h0.size hp16 [boxO bb3 [(.int .i64 x5.1), (.int .i64 x5.2.1), (.bool x5.2.2.1), v5, v6], ownO (kF .f32) 40 v5 x5.2.2.2.1, ownO (kF .f32) 40 v6 x5.2.2.2.2, boxO bb2 [(.int .i64 a1_0), (.int .i64 a1_1)], boxO bb1 [(.int .i64 a0_0), (.int .i64 a0_1), (.bool a0_2), u0_3, u0_4]] := Sep.step (A := [boxO bb3 [(.int .i64 0), (.int .i64 0), (.bool false), (.slice none 0 0), (.slice none 0 0)]]) (L := [ownO (kF .f32) 40 v5 x5.2.2.2.1, ownO (kF .f32) 40 v6 x5.2.2.2.2, boxO bb2 [(.int .i64 a1_0), (.int .i64 a1_1)], boxO bb1 [(.int .i64 a0_0), (.int .i64 a0_1), (.bool a0_2), u0_3, u0_4]]) S_10 (Mod.size X_9) MT_9 T_9
    refine RL.nil ?_
    refine thnN ?_
    refine W.seq ?_
    obtain ⟨x6, hx6, hp⟩ := Option.bind_eq_some_iff.1 hp
    obtain ⟨x7, hx7, hp⟩ := Option.bind_eq_some_iff.1 hp
    refine W.sub (ψ := [(0, (.agg (List.toArray (α := Value) [(.int .i64 a0_0), (.int .i64 a0_1), (.bool a0_2), u0_3, u0_4]))), (1, (.agg (List.toArray (α := Value) [(.int .i64 a1_0), (.int .i64 a1_1)]))), (2, (.pointer (some ⟨bb1, 0, none⟩))), (3, (.pointer (some ⟨bb2, 0, none⟩))), (4, (.bool false)), (5, (.int .i64 x1)), (13, (.bool (decide (x1 < 0)))), (6, (.bool x4)), (7, (.pointer (some ⟨bb3, 0, none⟩)))]) ⟨rfl, rfl, rfl, rfl, rfl, rfl, rfl, rfl, rfl, trivial⟩ ?_
    refine W.regionM [fun v _ => @Eq Value (.agg (List.toArray (α := Value) [(.int .i64 x5.1), (.int .i64 x5.2.1), (.bool x5.2.2.1), v5, v6])) v, fun v _ => @Eq Value (.agg (List.toArray (α := Value) [(.int .i64 a1_0), (.int .i64 a1_1)])) v, fun v h => @Eq Value v (.agg (List.toArray (α := Value) [(.int .i64 x6.1), (.int .i64 x6.2)])) ∧ Sep [] hp16.size h [], fun v h => @Eq Value v (.bool x7) ∧ Sep [] hp16.size h [], fun v _ => @Eq Value (.bool x7) v] [none, none, some (fun u => []), some (fun u => []), none] [[], [], [1], [0, 2], [3]] [4] Try.mixed (by decide +kernel) (by decide +kernel) rfl rfl rfl rfl ⟨fun _ _ _ h _ => h, fun _ _ _ h _ => h, fun _ _ _ ⟨e, h⟩ x => ⟨e, h.ext x⟩, fun _ _ _ ⟨e, h⟩ x => ⟨e, h.ext x⟩, fun _ _ _ h _ => h, trivial⟩ ?_ ?_
    · refine ⟨⟨rfl, ?_⟩, ⟨rfl, ?_⟩, ⟨rfl, ?_⟩, ⟨rfl, ?_⟩, ⟨rfl, ?_⟩, trivial⟩
      · rintro hp19 E_8
        refine Dep.nil ?_
        refine GuardOK.none rfl ?_
        exact OpV.toDx (opv_loadA (us := [(.int .i64 x5.1), (.int .i64 x5.2.1), (.bool x5.2.2.1), v5, v6]) rfl Try.agg29 Try.size29 rfl (Sep.at (o := boxO bb3 [(.int .i64 x5.1), (.int .i64 x5.2.1), (.bool x5.2.2.1), v5, v6]) (Sep.ext S_11 E_8) 0 rfl) rfl rfl) rfl
      · rintro hp20 E_9
        refine Dep.nil ?_
        refine GuardOK.none rfl ?_
        exact OpV.toDx (opv_loadA (us := [(.int .i64 a1_0), (.int .i64 a1_1)]) rfl Try.agg26 Try.size26 rfl (Sep.at (o := boxO bb2 [(.int .i64 a1_0), (.int .i64 a1_1)]) (Sep.ext S_11 E_9) 3 rfl) rfl rfl) rfl
      · rintro hp21 E_10 _ rfl
        refine Dep.nil ?_
        refine GuardOK.none rfl ?_
        exact OpV.mono (opv_call (cap := []) (laws_toStrip_ok _ _ _ _ hx6) rfl rfl ⟨rfl, trivial⟩ Try.func21 rfl rfl) (by rintro _ _ ⟨rfl, M_, T_⟩; exact ⟨Mod.ext M_, ⟨rfl, Sep.weak T_ (Ext.size E_10)⟩, Sep.fresh T_⟩)
      · rintro hp22 E_11 _ rfl _ ⟨rfl, T_10⟩
        refine Dep.nil ?_
        refine GuardOK.none rfl ?_
        exact OpV.mono (opv_call (cap := []) (impl_IsStrip_ok _ _ _ _ _ _ (ownO.read (Sep.at (o := ownO (kF .f32) 40 v5 x5.2.2.2.1) (Sep.ext S_11 E_11) 1 rfl)) _ _ (ownO.read (Sep.at (o := ownO (kF .f32) 40 v6 x5.2.2.2.2) (Sep.ext S_11 E_11) 2 rfl)) _ _ _ hx7) rfl rfl ⟨rfl, rfl, trivial⟩ Try.func22 rfl rfl) (by rintro _ _ ⟨rfl, M_, T_⟩; exact ⟨Mod.ext M_, ⟨rfl, Sep.weak T_ (Ext.size E_11)⟩, Sep.fresh T_⟩)
      · rintro hp23 E_12 _ ⟨rfl, T_11⟩
        refine Dep.nil ?_
        refine GuardOK.none rfl ?_
        exact OpV.toDx (opv_assign rfl rfl) rfl
    rintro hp24 E_13 _ rfl
    refine DepM.nil ?_
    intro _
    have X_13 : Mod [] h0 hp24 := Mod.lift X_10 E_13
    have S_14 : Sep [] h0.size hp24 [boxO bb3 [(.int .i64 x5.1), (.int .i64 x5.2.1), (.bool x5.2.2.1), v5, v6], ownO (kF .f32) 40 v5 x5.2.2.2.1, ownO (kF .f32) 40 v6 x5.2.2.2.2, boxO bb2 [(.int .i64 a1_0), (.int .i64 a1_1)], boxO bb1 [(.int .i64 a0_0), (.int .i64 a0_1), (.bool a0_2), u0_3, u0_4]] := Sep.ext S_11 E_13
    show RL _ _ _ _ [] _ _
    refine RL.nil ?_
    refine thnN ?_
    refine W.seq ?_
    refine W.seq ?_
    refine W.region ?_
    refine RL.opD (by decide) (opv_move rfl rfl) ?_
    refine RL.opD (by decide) (opv_move rfl rfl) ?_
    refine RL.opD (by decide) (opv_bcmp rfl rfl Try.underlying4 rfl rfl) ?_
    refine RL.nil ?_
    refine thnN ?_
    by_cases c2 : (x7 != x4) = true
    · rw [if_pos c2] at hp
      refine W.condT rfl c2 ?_
      refine W.seq ?_
      refine W.region ?_
      refine RL.opD (by decide) (opv_assign rfl rfl) ?_
      refine RL.nil ?_
      refine thnN ?_
      refine W.ret ?_
      refine thnR ?_
      have er := Option.some.inj hp
      subst er
      exact Rt.one rfl rfl ⟨rfl, X_13, (Sep.nil _ _ _)⟩
    · rw [if_neg c2] at hp
      have c2 := eq_false_of_ne_true c2
      refine W.condF rfl c2 ?_
      refine W.skip ?_
      refine thnN ?_
      refine W.seq ?_
      refine W.seq ?_
      obtain ⟨x8, hx8, hp⟩ := Option.bind_eq_some_iff.1 hp
      obtain ⟨x9, hx9, hp⟩ := Option.bind_eq_some_iff.1 hp
      refine W.sub (ψ := [(0, (.agg (List.toArray (α := Value) [(.int .i64 a0_0), (.int .i64 a0_1), (.bool a0_2), u0_3, u0_4]))), (1, (.agg (List.toArray (α := Value) [(.int .i64 a1_0), (.int .i64 a1_1)]))), (2, (.pointer (some ⟨bb1, 0, none⟩))), (3, (.pointer (some ⟨bb2, 0, none⟩))), (4, (.bool false)), (5, (.int .i64 x1)), (13, (.bool (decide (x1 < 0)))), (6, (.bool x4)), (7, (.pointer (some ⟨bb3, 0, none⟩))), (8, (.bool x7)), (27, (.bool (x7 != x4)))]) ⟨rfl, rfl, rfl, rfl, rfl, rfl, rfl, rfl, rfl, rfl, rfl, trivial⟩ ?_
      refine W.regionM [fun v _ => @Eq Value (.agg (List.toArray (α := Value) [(.int .i64 x5.1), (.int .i64 x5.2.1), (.bool x5.2.2.1), v5, v6])) v, fun v _ => @Eq Value (.agg (List.toArray (α := Value) [(.int .i64 a0_0), (.int .i64 a0_1), (.bool a0_2), u0_3, u0_4])) v, fun v h => ∃ v7, ∃ v8, @Eq Value v (.agg (List.toArray (α := Value) [(.int .i64 x8.1), (.int .i64 x8.2.1), (.bool x8.2.2.1), v7, v8])) ∧ Sep [] hp24.size h [ownO (kF .f32) 40 v7 x8.2.2.2.1, ownO (kF .f32) 40 v8 x8.2.2.2.2], fun v h => @Eq Value v (.bool x9) ∧ Sep [] hp24.size h [], fun v _ => @Eq Value (.bool (!x9)) v] [none, none, some (fun u => [Value.ownBlock (vget u 3), Value.ownBlock (vget u 4)]), some (fun u => []), none] [[], [], [1], [0, 2], [3]] [4] Try.mixed (by decide +kernel) (by decide +kernel) rfl rfl rfl rfl ⟨fun _ _ _ h _ => h, fun _ _ _ h _ => h, fun _ _ _ ⟨u0_, u1_, e, h⟩ x => ⟨u0_, u1_, e, h.ext x⟩, fun _ _ _ ⟨e, h⟩ x => ⟨e, h.ext x⟩, fun _ _ _ h _ => h, trivial⟩ ?_ ?_
      · refine ⟨⟨rfl, ?_⟩, ⟨rfl, ?_⟩, ⟨rfl, ?_⟩, ⟨rfl, ?_⟩, ⟨rfl, ?_⟩, trivial⟩
        · rintro hp27 E_14
          refine Dep.nil ?_
          refine GuardOK.none rfl ?_
          exact OpV.toDx (opv_loadA (us := [(.int .i64 x5.1), (.int .i64 x5.2.1), (.bool x5.2.2.1), v5, v6]) rfl Try.agg29 Try.size29 rfl (Sep.at (o := boxO bb3 [(.int .i64 x5.1), (.int .i64 x5.2.1), (.bool x5.2.2.1), v5, v6]) (Sep.ext S_14 E_14) 0 rfl) rfl rfl) rfl
        · rintro hp28 E_15
          refine Dep.nil ?_
          refine GuardOK.none rfl ?_
          exact OpV.toDx (opv_loadA (us := [(.int .i64 a0_0), (.int .i64 a0_1), (.bool a0_2), u0_3, u0_4]) rfl Try.agg24 Try.size24 rfl (Sep.at (o := boxO bb1 [(.int .i64 a0_0), (.int .i64 a0_1), (.bool a0_2), u0_3, u0_4]) (Sep.ext S_14 E_15) 4 rfl) rfl rfl) rfl
        · rintro hp29 E_16 _ rfl
          refine Dep.nil ?_
          refine GuardOK.none rfl ?_
          exact OpV.mono (opv_call (cap := []) (laws_toSheet_ok _ _ _ _ _ _ (SL.up (SL.mod g0_3 (Mod.lift X_13 E_16) (Nat.le_refl _) nob) (Nat.le_trans (Nat.le_refl _) (Mod.size (Mod.lift X_13 E_16)))) _ _ (SL.up (SL.mod g0_4 (Mod.lift X_13 E_16) (Nat.le_refl _) nob) (Nat.le_trans (Nat.le_refl _) (Mod.size (Mod.lift X_13 E_16)))) _ hx8) rfl rfl ⟨rfl, trivial⟩ Try.func20 rfl rfl) (by rintro _ _ ⟨v7, v8, rfl, M_, T_⟩; exact ⟨Mod.ext M_, ⟨v7, v8, rfl, Sep.weak T_ (Ext.size E_16)⟩, Sep.fresh T_⟩)
        · rintro hp30 E_17 _ rfl _ ⟨v7, v8, rfl, T_12⟩
          refine Dep.nil ?_
          refine GuardOK.none rfl ?_
          exact OpV.mono (opv_call (cap := []) (laws_eqSheet_ok _ _ _ _ _ _ (ownO.read (Sep.at (o := ownO (kF .f32) 40 v5 x5.2.2.2.1) (Sep.ext S_14 E_17) 1 rfl)) _ _ (ownO.read (Sep.at (o := ownO (kF .f32) 40 v6 x5.2.2.2.2) (Sep.ext S_14 E_17) 2 rfl)) _ _ _ _ _ (ownO.read (Sep.at (o := ownO (kF .f32) 40 v7 x8.2.2.2.1) T_12 0 rfl)) _ _ (ownO.read (Sep.at (o := ownO (kF .f32) 40 v8 x8.2.2.2.2) T_12 1 rfl)) _ hx9) rfl rfl ⟨rfl, rfl, trivial⟩ Try.func23 rfl rfl) (by rintro _ _ ⟨rfl, M_, T_⟩; exact ⟨Mod.ext M_, ⟨rfl, Sep.weak T_ (Ext.size E_17)⟩, Sep.fresh T_⟩)
        · rintro hp31 E_18 _ ⟨rfl, T_13⟩
          refine Dep.nil ?_
          refine GuardOK.none rfl ?_
          exact OpV.toDx (opv_not rfl rfl) rfl
      rintro hp32 E_19 _ rfl
      refine DepM.nil ?_
      intro _
      have X_16 : Mod [] h0 hp32 := Mod.lift X_13 E_19
      have S_17 : Sep [] h0.size hp32 [boxO bb3 [(.int .i64 x5.1), (.int .i64 x5.2.1), (.bool x5.2.2.1), v5, v6], ownO (kF .f32) 40 v5 x5.2.2.2.1, ownO (kF .f32) 40 v6 x5.2.2.2.2, boxO bb2 [(.int .i64 a1_0), (.int .i64 a1_1)], boxO bb1 [(.int .i64 a0_0), (.int .i64 a0_1), (.bool a0_2), u0_3, u0_4]] := Sep.ext S_14 E_19
      show RL _ _ _ _ [] _ _
      refine RL.nil ?_
      refine thnN ?_
      by_cases c3 : (!x9) = true
      · rw [if_pos c3] at hp
        refine W.condT rfl c3 ?_
        refine W.seq ?_
        refine W.region ?_
        refine RL.opD (by decide) (opv_assign rfl rfl) ?_
        refine RL.nil ?_
        refine thnN ?_
        refine W.ret ?_
        refine thnR ?_
        have er := Option.some.inj hp
        subst er
        exact Rt.one rfl rfl ⟨rfl, X_16, (Sep.nil _ _ _)⟩
      · rw [if_neg c3] at hp
        have c3 := eq_false_of_ne_true c3
        refine W.condF rfl c3 ?_
        refine W.skip ?_
        refine thnN ?_
        refine W.seq ?_
        refine W.region ?_
        refine RL.opD (by decide) (opv_assign rfl rfl) ?_
        refine RL.nil ?_
        refine thnN ?_
        refine W.ret ?_
        have er := Option.some.inj hp
        subst er
        exact Rt.one rfl rfl ⟨rfl, X_16, (Sep.nil _ _ _)⟩

end Go.H
