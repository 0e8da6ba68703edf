/- Functions of the program: what each computes, as a plain function, and that the call comes to it. Written by a program (wip/gen). -/
import Derived.Test.YtinpafbadbnhhaaPSine
import Derived.Test.YtinpafbadbnhhaaProg
import Derived.KernelRfl
set_option linter.unusedVariables false
namespace Go.H
open Go Go.Proofs



noncomputable def spec_l00In (a0 : Int) (a1 : Int) (a2 : Int) : Option Bool :=
  (((if (decide (a0 ≥ a1)) = true then some (decide (a0 ≤ a2)) else some false) : Option Bool).bind fun (x1 : Bool) => some x1)

noncomputable def spec_l08Side (a0 : Int) : Option Bool :=
  ((spec_l00In a0 3 16).bind fun (x1 : Bool) => some x1)

noncomputable def spec_l08Order (a0 : Int) (a1 : Int) : Option Bool :=
  ((((spec_l00In a0 1 8).bind fun (x2 : Bool) => (if x2 = true then ((spec_l00In a1 1 8).bind fun (x3 : Bool) => some x3) else some false)) : Option Bool).bind fun (x1 : Bool) => some x1)

noncomputable def spec_l08Speed (a0 : Option Nat) : Option Bool :=
  (((if (fcmp .geq .f32 a0 (some 0)) = true then some (fcmp .leq .f32 a0 (some 1056964608)) else some false) : Option Bool).bind fun (x1 : Bool) => some x1)

noncomputable def spec_l08Share (a0 : Int) (a1 : Int) : Option (Option Nat) :=
  ((spec_l01Sine (fop .quo .f32 (fofi .f32 a0) (fofi .f32 a1))).bind fun (x1 : Option Nat) => some x1)

noncomputable def spec_l08Swing (a0 : Option Nat) (a1 : Option Nat) (a2 : Option Nat) : Option (Option Nat) :=
  ((spec_l01Sqrt (fop .mul .f32 (fop .mul .f32 (some 1056964608) a2) (fop .add .f32 (fop .mul .f32 a0 a0) (fop .mul .f32 a1 a1)))).bind fun (x1 : Option Nat) => ((spec_l01Sqrt (fop .sub .f32 (some 1065353216) (fop .mul .f32 (fop .mul .f32 (some 1056964608) a2) (fop .add .f32 (fop .mul .f32 a0 a0) (fop .mul .f32 a1 a1))))).bind fun (x2 : Option Nat) => ((spec_l01Angle x1 x2).bind fun (x3 : Option Nat) => some (fop .mul .f32 (some 1073741824) x3))))

noncomputable def spec_l08Turns (a0 : Int) (a1 : Int) (a2 : Int) (a3 : Int) (a4 : Option Nat) : Option (Option Nat) :=
  ((spec_l08Share a2 (IntKind.wrap .i64 (4 * (IntKind.wrap .i64 (a0 - 1))))).bind fun (x1 : Option Nat) => ((spec_l08Share a3 (IntKind.wrap .i64 (4 * (IntKind.wrap .i64 (a1 - 1))))).bind fun (x2 : Option Nat) => ((spec_l08Swing x1 x2 a4).bind fun (x3 : Option Nat) => some x3)))

noncomputable def spec_ModeTurns (a0 : Int) (a1 : Int) (a2 : Int) (a3 : Int) (a4 : Option Nat) : Option ((Option Nat) × Bool) :=
  ((((spec_l08Side a0).bind fun (x2 : Bool) => (if (!x2) = true then some true else ((spec_l08Side a1).bind fun (x3 : Bool) => (if (!x3) = true then some true else ((spec_l08Order a2 a3).bind fun (x4 : Bool) => (if (!x4) = true then some true else ((spec_l08Speed a4).bind fun (x5 : Bool) => some (!x5)))))))) : Option Bool).bind fun (x1 : Bool) => (if x1 = true then some ((some 0), false) else ((spec_l08Turns a0 a1 a2 a3 a4).bind fun (x6 : Option Nat) => some (x6, true))))

noncomputable def impl_within (a0 : Int) (a1 : Int) (a2 : Int) : Option Bool :=
  (((if (decide (a0 ≥ a1)) = true then some (decide (a0 ≤ a2)) else some false) : Option Bool).bind fun (x1 : Bool) => some x1)

noncomputable def impl_areSides (a0 : Int) (a1 : Int) (a2 : Option Nat) : Option Bool :=
  ((((impl_within a0 3 16).bind fun (x2 : Bool) => (if x2 = true then ((impl_within a1 3 16).bind fun (x3 : Bool) => (if x3 = true then (if (fcmp .geq .f32 a2 (some 0)) = true then some (fcmp .leq .f32 a2 (some 1056964608)) else some false) else some false)) else some false)) : Option Bool).bind fun (x1 : Bool) => some x1)

noncomputable def impl_isOrder (a0 : Int) : Option Bool :=
  ((impl_within a0 1 8).bind fun (x1 : Bool) => some x1)

noncomputable def impl_quotient (a0 : Int) (a1 : Int) : Option (Option Nat) :=
  some (fop .quo .f32 (fofi .f32 a0) (fofi .f32 a1))

noncomputable def impl_turnsBy (a0 : Option Nat) (a1 : Option Nat) (a2 : Option Nat) : Option (Option Nat) :=
  ((impl_SineTurns a0).bind fun (x1 : Option Nat) => ((impl_SineTurns a1).bind fun (x2 : Option Nat) => ((impl_RootNumber (fop .mul .f32 (fop .mul .f32 (some 1056964608) a2) (fop .add .f32 (fop .mul .f32 x1 x1) (fop .mul .f32 x2 x2)))).bind fun (x3 : Option Nat) => ((impl_RootNumber (fop .sub .f32 (some 1065353216) (fop .mul .f32 (fop .mul .f32 (some 1056964608) a2) (fop .add .f32 (fop .mul .f32 x1 x1) (fop .mul .f32 x2 x2))))).bind fun (x4 : Option Nat) => ((impl_AngleTurns x3 x4).bind fun (x5 : Option Nat) => some (fop .mul .f32 (some 1073741824) x5))))))

noncomputable def impl_modeTurns (a0 : Int) (a1 : Int) (a2 : Int) (a3 : Int) (a4 : Option Nat) : Option (Option Nat) :=
  ((impl_quotient a2 (IntKind.wrap .i64 (4 * (IntKind.wrap .i64 (a0 - 1))))).bind fun (x1 : Option Nat) => ((impl_quotient a3 (IntKind.wrap .i64 (4 * (IntKind.wrap .i64 (a1 - 1))))).bind fun (x2 : Option Nat) => ((impl_turnsBy x1 x2 a4).bind fun (x3 : Option Nat) => some x3)))

noncomputable def impl_ModeTurns (a0 : Int) (a1 : Int) (a2 : Int) (a3 : Int) (a4 : Option Nat) : Option ((Option Nat) × Bool) :=
  ((((impl_areSides a0 a1 a4).bind fun (x2 : Bool) => (if (!x2) = true then some true else ((impl_isOrder a2).bind fun (x3 : Bool) => (if (!x3) = true then some true else ((impl_isOrder a3).bind fun (x4 : Bool) => some (!x4)))))) : Option Bool).bind fun (x1 : Bool) => (if x1 = true then some ((some 0), false) else ((impl_modeTurns a0 a1 a2 a3 a4).bind fun (x5 : Option Nat) => some (x5, true))))

noncomputable def laws_FnExactModeTurns (a0 : Int) (a1 : Int) (a2 : Int) (a3 : Int) (a4 : Option Nat) : Option Bool :=
  ((spec_ModeTurns a0 a1 a2 a3 a4).bind fun (x1 : ((Option Nat) × Bool)) => ((impl_ModeTurns a0 a1 a2 a3 a4).bind fun (x2 : ((Option Nat) × Bool)) => ((((laws_sameFloat (wid x2.1) (wid x1.1)).bind fun (x4 : Bool) => (if (!x4) = true then some true else some (x2.2 != x1.2))) : Option Bool).bind fun (x3 : Bool) => (if x3 = true then some false else some true))))

noncomputable def spec_l08Travels (a0 : Int) (a1 : Int) : Option Bool :=
  ((((spec_l00In a0 (-8) 8).bind fun (x2 : Bool) => (if x2 = true then ((spec_l00In a1 (-8) 8).bind fun (x3 : Bool) => (if x3 = true then (if (a0 != 0) = true then some true else some (a1 != 0)) else some false)) else some false)) : Option Bool).bind fun (x1 : Bool) => some x1)

noncomputable def spec_l08Travel (a0 : Int) (a1 : Int) (a2 : Int) (a3 : Int) (a4 : Option Nat) : Option (Option Nat) :=
  ((spec_l08Share a2 (IntKind.wrap .i64 (2 * a0))).bind fun (x1 : Option Nat) => ((spec_l08Share a3 (IntKind.wrap .i64 (2 * a1))).bind fun (x2 : Option Nat) => ((spec_l08Swing x1 x2 a4).bind fun (x3 : Option Nat) => some x3)))

noncomputable def spec_TravelTurns (a0 : Int) (a1 : Int) (a2 : Int) (a3 : Int) (a4 : Option Nat) : Option ((Option Nat) × Bool) :=
  ((((spec_l08Side a0).bind fun (x2 : Bool) => (if (!x2) = true then some true else ((spec_l08Side a1).bind fun (x3 : Bool) => (if (!x3) = true then some true else ((spec_l08Travels a2 a3).bind fun (x4 : Bool) => (if (!x4) = true then some true else ((spec_l08Speed a4).bind fun (x5 : Bool) => some (!x5)))))))) : Option Bool).bind fun (x1 : Bool) => (if x1 = true then some ((some 0), false) else ((spec_l08Travel a0 a1 a2 a3 a4).bind fun (x6 : Option Nat) => some (x6, true))))

noncomputable def impl_areOrders (a0 : Int) (a1 : Int) : Option Bool :=
  ((((impl_within a0 (-8) 8).bind fun (x2 : Bool) => (if x2 = true then ((impl_within a1 (-8) 8).bind fun (x3 : Bool) => (if x3 = true then (if (a0 != 0) = true then some true else some (a1 != 0)) else some false)) else some false)) : Option Bool).bind fun (x1 : Bool) => some x1)

noncomputable def impl_travelTurns (a0 : Int) (a1 : Int) (a2 : Int) (a3 : Int) (a4 : Option Nat) : Option (Option Nat) :=
  ((impl_quotient a2 (IntKind.wrap .i64 (2 * a0))).bind fun (x1 : Option Nat) => ((impl_quotient a3 (IntKind.wrap .i64 (2 * a1))).bind fun (x2 : Option Nat) => ((impl_turnsBy x1 x2 a4).bind fun (x3 : Option Nat) => some x3)))

noncomputable def impl_TravelTurns (a0 : Int) (a1 : Int) (a2 : Int) (a3 : Int) (a4 : Option Nat) : Option ((Option Nat) × Bool) :=
  ((((impl_areSides a0 a1 a4).bind fun (x2 : Bool) => (if (!x2) = true then some true else ((impl_areOrders a2 a3).bind fun (x3 : Bool) => some (!x3)))) : Option Bool).bind fun (x1 : Bool) => (if x1 = true then some ((some 0), false) else ((impl_travelTurns a0 a1 a2 a3 a4).bind fun (x4 : Option Nat) => some (x4, true))))

noncomputable def laws_FnExactTravelTurns (a0 : Int) (a1 : Int) (a2 : Int) (a3 : Int) (a4 : Option Nat) : Option Bool :=
  ((spec_TravelTurns a0 a1 a2 a3 a4).bind fun (x1 : ((Option Nat) × Bool)) => ((impl_TravelTurns a0 a1 a2 a3 a4).bind fun (x2 : ((Option Nat) × Bool)) => ((((laws_sameFloat (wid x2.1) (wid x1.1)).bind fun (x4 : Bool) => (if (!x4) = true then some true else some (x2.2 != x1.2))) : Option Bool).bind fun (x3 : Bool) => (if x3 = true then some false else some true))))

set_option maxRecDepth 20000 in
theorem spec_l00In_ok (h0 : Heap) (a0 : Int) (a1 : Int) (a2 : Int) (r : Bool) (hp : spec_l00In a0 a1 a2 = some r) : CallsH Try.prog 182 ([(.int .i64 a0), (.int .i64 a1), (.int .i64 a2)].toArray ++ [].toArray) h0 (fun v h' => v = (.bool r) ∧ h0 = h') := by
  unfold spec_l00In at hp
  refine callsH_of_W (l := [(.int .i64 a0), (.int .i64 a1), (.int .i64 a2)]) (cap := []) 15 Try.func182 rfl rfl rfl ?_
  refine W.seq ?_
  refine W.region ?_
  refine RL.opD (by decide) (opv_assign rfl rfl) ?_
  refine RL.nil ?_
  refine thnN ?_
  refine W.seq ?_
  obtain ⟨x1, hy1, hp⟩ := Option.bind_eq_some_iff.1 hp
  refine W.cut (fun φ' h' => Fr.sub [(0, (.int .i64 a0)), (1, (.int .i64 a1)), (2, (.int .i64 a2)), (6, (.bool x1))] φ' ∧ h0 = h') ?_ ?_
  · by_cases c1 : (decide (a0 ≥ a1)) = true
    · rw [if_pos c1] at hy1
      refine W.region ?_
      refine RL.opD (by decide) (opv_move rfl rfl) ?_
      refine RL.opD (by decide) (opv_move rfl rfl) ?_
      refine RL.opD (by decide) (opv_icmp rfl rfl rfl rfl) ?_
      refine RL.opD (by decide) (opv_move rfl rfl) ?_
      refine RL.yes _ rfl rfl c1 (by decide) (opv_move rfl rfl) ?_
      rintro _ _ ⟨rfl, rfl⟩
      refine RL.yes _ rfl rfl c1 (by decide) (opv_move rfl rfl) ?_
      rintro _ _ ⟨rfl, rfl⟩
      refine RL.yes _ rfl rfl c1 (by decide) (opv_icmp rfl rfl rfl rfl) ?_
      rintro _ _ ⟨rfl, rfl⟩
      refine RL.opD (by decide) (opv_pick rfl rfl (fun _ => rfl) (fun e => absurd (Eq.trans (Eq.symm e) c1) (by decide)) rfl) ?_
      refine RL.opD (by decide) (opv_assign rfl rfl) ?_
      refine RL.nil ?_
      have ey1 := Option.some.inj hy1
      subst ey1
      refine onlyN ?_
      exact ⟨⟨rfl, rfl, rfl, rfl, trivial⟩, rfl⟩
    · rw [if_neg c1] at hy1
      have c1 := eq_false_of_ne_true c1
      refine W.region ?_
      refine RL.opD (by decide) (opv_move rfl rfl) ?_
      refine RL.opD (by decide) (opv_move rfl rfl) ?_
      refine RL.opD (by decide) (opv_icmp rfl rfl rfl rfl) ?_
      refine RL.opD (by decide) (opv_move rfl rfl) ?_
      refine RL.no rfl rfl (Eq.trans c1 (by decide)) (by decide) ?_
      refine RL.no rfl rfl (Eq.trans c1 (by decide)) (by decide) ?_
      refine RL.no rfl rfl (Eq.trans c1 (by decide)) (by decide) ?_
      refine RL.opD (by decide) (opv_pick rfl rfl (fun e => absurd (Eq.trans (Eq.symm e) c1) (by decide)) (fun _ => rfl) rfl) ?_
      refine RL.opD (by decide) (opv_assign rfl rfl) ?_
      refine RL.nil ?_
      have ey1 := Option.some.inj hy1
      subst ey1
      refine onlyN ?_
      exact ⟨⟨rfl, rfl, rfl, rfl, trivial⟩, rfl⟩
  rintro φ' _ ⟨hs1, rfl⟩
  refine thnN ?_
  refine W.sub hs1 ?_
  refine W.ret ?_
  have er := Option.some.inj hp
  subst er
  exact Rt.one rfl rfl ⟨rfl, rfl⟩

set_option maxRecDepth 20000 in
theorem spec_l08Side_ok (h0 : Heap) (a0 : Int) (r : Bool) (hp : spec_l08Side a0 = some r) : CallsH Try.prog 251 ([(.int .i64 a0)].toArray ++ [].toArray) h0 (fun v h' => v = (.bool r) ∧ h0 = h') := by
  unfold spec_l08Side at hp
  refine callsH_of_W (l := [(.int .i64 a0)]) (cap := []) 5 Try.func251 rfl rfl rfl ?_
  refine W.seq ?_
  refine W.region ?_
  refine RL.opD (by decide) (opv_assign rfl rfl) ?_
  refine RL.nil ?_
  refine thnN ?_
  refine W.seq ?_
  obtain ⟨x1, hx1, hp⟩ := Option.bind_eq_some_iff.1 hp
  refine W.region ?_
  refine RL.opD (by decide) (opv_move rfl rfl) ?_
  refine RL.op _ (by decide) (opv_call (spec_l00In_ok _ _ _ _ _ hx1) rfl rfl ⟨rfl, rfl, rfl, trivial⟩ Try.func182 rfl rfl) ?_
  rintro _ _ ⟨rfl, rfl⟩
  refine RL.opD (by decide) (opv_assign rfl rfl) ?_
  refine RL.nil ?_
  refine thnN ?_
  refine W.ret ?_
  have er := Option.some.inj hp
  subst er
  exact Rt.one rfl rfl ⟨rfl, rfl⟩

set_option maxRecDepth 20000 in
theorem spec_l08Order_ok (h0 : Heap) (a0 : Int) (a1 : Int) (r : Bool) (hp : spec_l08Order a0 a1 = some r) : CallsH Try.prog 252 ([(.int .i64 a0), (.int .i64 a1)].toArray ++ [].toArray) h0 (fun v h' => v = (.bool r) ∧ h0 = h') := by
  unfold spec_l08Order at hp
  refine callsH_of_W (l := [(.int .i64 a0), (.int .i64 a1)]) (cap := []) 11 Try.func252 rfl rfl rfl ?_
  refine W.seq ?_
  refine W.region ?_
  refine RL.opD (by decide) (opv_assign rfl rfl) ?_
  refine RL.nil ?_
  refine thnN ?_
  refine W.seq ?_
  obtain ⟨x1, hy1, hp⟩ := Option.bind_eq_some_iff.1 hp
  refine W.cut (fun φ' h' => Fr.sub [(0, (.int .i64 a0)), (1, (.int .i64 a1)), (4, (.bool x1))] φ' ∧ h0 = h') ?_ ?_
  · obtain ⟨x2, hx2, hy1⟩ := Option.bind_eq_some_iff.1 hy1
    by_cases c1 : x2 = true
    · rw [if_pos c1] at hy1
      obtain ⟨x3, hx3, hy1⟩ := Option.bind_eq_some_iff.1 hy1
      refine W.region ?_
      refine RL.opD (by decide) (opv_move rfl rfl) ?_
      refine RL.op _ (by decide) (opv_call (spec_l00In_ok _ _ _ _ _ hx2) rfl rfl ⟨rfl, rfl, rfl, trivial⟩ Try.func182 rfl rfl) ?_
      rintro _ _ ⟨rfl, rfl⟩
      refine RL.opD (by decide) (opv_move rfl rfl) ?_
      refine RL.yes _ rfl rfl c1 (by decide) (opv_move rfl rfl) ?_
      rintro _ _ ⟨rfl, rfl⟩
      refine RL.yes _ rfl rfl c1 (by decide) (opv_call (spec_l00In_ok _ _ _ _ _ hx3) rfl rfl ⟨rfl, rfl, rfl, trivial⟩ Try.func182 rfl rfl) ?_
      rintro _ _ ⟨rfl, rfl⟩
      refine RL.opD (by decide) (opv_pick rfl rfl (fun _ => rfl) (fun e => absurd (Eq.trans (Eq.symm e) c1) (by decide)) rfl) ?_
      refine RL.opD (by decide) (opv_assign rfl rfl) ?_
      refine RL.nil ?_
      have ey1 := Option.some.inj hy1
      subst ey1
      refine onlyN ?_
      exact ⟨⟨rfl, rfl, rfl, trivial⟩, rfl⟩
    · rw [if_neg c1] at hy1
      have c1 := eq_false_of_ne_true c1
      refine W.region ?_
      refine RL.opD (by decide) (opv_move rfl rfl) ?_
      refine RL.op _ (by decide) (opv_call (spec_l00In_ok _ _ _ _ _ hx2) rfl rfl ⟨rfl, rfl, rfl, trivial⟩ Try.func182 rfl rfl) ?_
      rintro _ _ ⟨rfl, rfl⟩
      refine RL.opD (by decide) (opv_move rfl rfl) ?_
      refine RL.no rfl rfl (Eq.trans c1 (by decide)) (by decide) ?_
      refine RL.no rfl rfl (Eq.trans c1 (by decide)) (by decide) ?_
      refine RL.opD (by decide) (opv_pick rfl rfl (fun e => absurd (Eq.trans (Eq.symm e) c1) (by decide)) (fun _ => rfl) rfl) ?_
      refine RL.opD (by decide) (opv_assign rfl rfl) ?_
      refine RL.nil ?_
      have ey1 := Option.some.inj hy1
      subst ey1
      refine onlyN ?_
      exact ⟨⟨rfl, rfl, rfl, trivial⟩, rfl⟩
  rintro φ' _ ⟨hs1, rfl⟩
  refine thnN ?_
  refine W.sub hs1 ?_
  refine W.ret ?_
  have er := Option.some.inj hp
  subst er
  exact Rt.one rfl rfl ⟨rfl, rfl⟩

set_option maxRecDepth 20000 in
theorem spec_l08Speed_ok (h0 : Heap) (u0 : Value) (a0 : Option Nat) (g0 : IsF .f32 u0 a0) (r : Bool) (hp : spec_l08Speed a0 = some r) : CallsH Try.prog 253 ([u0].toArray ++ [].toArray) h0 (fun v h' => v = (.bool r) ∧ h0 = h') := by
  unfold spec_l08Speed at hp
  refine callsH_of_W (l := [u0]) (cap := []) 9 Try.func253 rfl rfl rfl ?_
  refine W.seq ?_
  refine W.region ?_
  refine RL.opD (by decide) (opv_assign rfl rfl) ?_
  refine RL.nil ?_
  refine thnN ?_
  refine W.seq ?_
  obtain ⟨x1, hy1, hp⟩ := Option.bind_eq_some_iff.1 hp
  refine W.cut (fun φ' h' => Fr.sub [(0, u0), (2, (.bool x1))] φ' ∧ h0 = h') ?_ ?_
  · by_cases c1 : (fcmp .geq .f32 a0 (some 0)) = true
    · rw [if_pos c1] at hy1
      refine W.region ?_
      refine RL.opD (by decide) (opv_move rfl rfl) ?_
      refine RL.opD (by decide) (opv_fcmp rfl rfl rfl rfl g0 (isF_lit .f32 0 (by decide) (by decide))) ?_
      refine RL.opD (by decide) (opv_move rfl rfl) ?_
      refine RL.yes _ rfl rfl c1 (by decide) (opv_move rfl rfl) ?_
      rintro _ _ ⟨rfl, rfl⟩
      refine RL.yes _ rfl rfl c1 (by decide) (opv_fcmp rfl rfl rfl rfl g0 (isF_lit .f32 1056964608 (by decide) (by decide))) ?_
      rintro _ _ ⟨rfl, rfl⟩
      refine RL.opD (by decide) (opv_pick rfl rfl (fun _ => rfl) (fun e => absurd (Eq.trans (Eq.symm e) c1) (by decide)) rfl) ?_
      refine RL.opD (by decide) (opv_assign rfl rfl) ?_
      refine RL.nil ?_
      have ey1 := Option.some.inj hy1
      subst ey1
      refine onlyN ?_
      exact ⟨⟨rfl, rfl, trivial⟩, rfl⟩
    · rw [if_neg c1] at hy1
      have c1 := eq_false_of_ne_true c1
      refine W.region ?_
      refine RL.opD (by decide) (opv_move rfl rfl) ?_
      refine RL.opD (by decide) (opv_fcmp rfl rfl rfl rfl g0 (isF_lit .f32 0 (by decide) (by decide))) ?_
      refine RL.opD (by decide) (opv_move rfl rfl) ?_
      refine RL.no rfl rfl (Eq.trans c1 (by decide)) (by decide) ?_
      refine RL.no rfl rfl (Eq.trans c1 (by decide)) (by decide) ?_
      refine RL.opD (by decide) (opv_pick rfl rfl (fun e => absurd (Eq.trans (Eq.symm e) c1) (by decide)) (fun _ => rfl) rfl) ?_
      refine RL.opD (by decide) (opv_assign rfl rfl) ?_
      refine RL.nil ?_
      have ey1 := Option.some.inj hy1
      subst ey1
      refine onlyN ?_
      exact ⟨⟨rfl, rfl, trivial⟩, rfl⟩
  rintro φ' _ ⟨hs1, rfl⟩
  refine thnN ?_
  refine W.sub hs1 ?_
  refine W.ret ?_
  have er := Option.some.inj hp
  subst er
  exact Rt.one rfl rfl ⟨rfl, rfl⟩

set_option maxRecDepth 20000 in
theorem spec_l08Share_ok (h0 : Heap) (a0 : Int) (a1 : Int) (r : Option Nat) (hp : spec_l08Share a0 a1 = some r) : CallsH Try.prog 317 ([(.int .i64 a0), (.int .i64 a1)].toArray ++ [].toArray) h0 (fun v h' => IsF .f32 v r ∧ h0 = h') := by
  unfold spec_l08Share at hp
  refine callsH_of_W (l := [(.int .i64 a0), (.int .i64 a1)]) (cap := []) 11 Try.func317 rfl rfl rfl ?_
  refine W.seq ?_
  refine W.region ?_
  refine RL.opD (by decide) (opv_assign rfl rfl) ?_
  refine RL.nil ?_
  refine thnN ?_
  refine W.seq ?_
  obtain ⟨x1, hx1, hp⟩ := Option.bind_eq_some_iff.1 hp
  refine W.region ?_
  refine RL.opD (by decide) (opv_move rfl rfl) ?_
  refine RL.opF (by decide) (opv_i2f rfl (by rw [Try.underlying2]; rfl) Try.underlying29 rfl) ?_
  intro v1 fv1
  refine RL.opD (by decide) (opv_move rfl rfl) ?_
  refine RL.opF (by decide) (opv_i2f rfl (by rw [Try.underlying2]; rfl) Try.underlying29 rfl) ?_
  intro v2 fv2
  refine RL.opF (by decide) (opv_fop rfl rfl rfl rfl fv1 fv2) ?_
  intro v3 fv3
  refine RL.op _ (by decide) (opv_call (spec_l01Sine_ok _ _ _ fv3 _ hx1) rfl rfl ⟨rfl, trivial⟩ Try.func185 rfl rfl) ?_
  rintro v4 _ ⟨fv4, rfl⟩
  refine RL.opD (by decide) (opv_assign rfl rfl) ?_
  refine RL.nil ?_
  refine thnN ?_
  refine W.ret ?_
  have er := Option.some.inj hp
  subst er
  exact Rt.one rfl rfl ⟨fv4, rfl⟩

set_option maxRecDepth 20000 in
theorem spec_l08Swing_ok (h0 : Heap) (u0 : Value) (a0 : Option Nat) (g0 : IsF .f32 u0 a0) (u1 : Value) (a1 : Option Nat) (g1 : IsF .f32 u1 a1) (u2 : Value) (a2 : Option Nat) (g2 : IsF .f32 u2 a2) (r : Option Nat) (hp : spec_l08Swing a0 a1 a2 = some r) : CallsH Try.prog 318 ([u0, u1, u2].toArray ++ [].toArray) h0 (fun v h' => IsF .f32 v r ∧ h0 = h') := by
  unfold spec_l08Swing at hp
  refine callsH_of_W (l := [u0, u1, u2]) (cap := []) 25 Try.func318 rfl rfl rfl ?_
  refine W.seq ?_
  refine W.region ?_
  refine RL.opD (by decide) (opv_assign rfl rfl) ?_
  refine RL.nil ?_
  refine thnN ?_
  refine W.seq ?_
  refine W.region ?_
  refine RL.opD (by decide) (opv_move rfl rfl) ?_
  refine RL.opF (by decide) (opv_fop rfl rfl rfl rfl (isF_lit .f32 1056964608 (by decide) (by decide)) g2) ?_
  intro v1 fv1
  refine RL.opD (by decide) (opv_move rfl rfl) ?_
  refine RL.opD (by decide) (opv_move rfl rfl) ?_
  refine RL.opF (by decide) (opv_fop rfl rfl rfl rfl g0 g0) ?_
  intro v2 fv2
  refine RL.opD (by decide) (opv_move rfl rfl) ?_
  refine RL.opD (by decide) (opv_move rfl rfl) ?_
  refine RL.opF (by decide) (opv_fop rfl rfl rfl rfl g1 g1) ?_
  intro v3 fv3
  refine RL.opF (by decide) (opv_fop rfl rfl rfl rfl fv2 fv3) ?_
  intro v4 fv4
  refine RL.opF (by decide) (opv_fop rfl rfl rfl rfl fv1 fv4) ?_
  intro v5 fv5
  refine RL.opD (by decide) (opv_assign rfl rfl) ?_
  refine RL.nil ?_
  refine thnN ?_
  refine W.seq ?_
  obtain ⟨x1, hx1, hp⟩ := Option.bind_eq_some_iff.1 hp
  obtain ⟨x2, hx2, hp⟩ := Option.bind_eq_some_iff.1 hp
  obtain ⟨x3, hx3, hp⟩ := Option.bind_eq_some_iff.1 hp
  refine W.region ?_
  refine RL.opD (by decide) (opv_move rfl rfl) ?_
  refine RL.op _ (by decide) (opv_call (spec_l01Sqrt_ok _ _ _ fv5 _ hx1) rfl rfl ⟨rfl, trivial⟩ Try.func188 rfl rfl) ?_
  rintro v6 _ ⟨fv6, rfl⟩
  refine RL.opD (by decide) (opv_move rfl rfl) ?_
  refine RL.opF (by decide) (opv_fop rfl rfl rfl rfl (isF_lit .f32 1065353216 (by decide) (by decide)) fv5) ?_
  intro v7 fv7
  refine RL.op _ (by decide) (opv_call (spec_l01Sqrt_ok _ _ _ fv7 _ hx2) rfl rfl ⟨rfl, trivial⟩ Try.func188 rfl rfl) ?_
  rintro v8 _ ⟨fv8, rfl⟩
  refine RL.op _ (by decide) (opv_call (spec_l01Angle_ok _ _ _ fv6 _ _ fv8 _ hx3) rfl rfl ⟨rfl, rfl, trivial⟩ Try.func187 rfl rfl) ?_
  rintro v9 _ ⟨fv9, rfl⟩
  refine RL.opF (by decide) (opv_fop rfl rfl rfl rfl (isF_lit .f32 1073741824 (by decide) (by decide)) fv9) ?_
  intro v10 fv10
  refine RL.opD (by decide) (opv_assign rfl rfl) ?_
  refine RL.nil ?_
  refine thnN ?_
  refine W.ret ?_
  have er := Option.some.inj hp
  subst er
  exact Rt.one rfl rfl ⟨fv10, rfl⟩

set_option maxRecDepth 20000 in
theorem spec_l08Turns_ok (h0 : Heap) (a0 : Int) (a1 : Int) (a2 : Int) (a3 : Int) (u4 : Value) (a4 : Option Nat) (g4 : IsF .f32 u4 a4) (r : Option Nat) (hp : spec_l08Turns a0 a1 a2 a3 a4 = some r) : CallsH Try.prog 254 ([(.int .i64 a0), (.int .i64 a1), (.int .i64 a2), (.int .i64 a3), u4].toArray ++ [].toArray) h0 (fun v h' => IsF .f32 v r ∧ h0 = h') := by
  unfold spec_l08Turns at hp
  refine callsH_of_W (l := [(.int .i64 a0), (.int .i64 a1), (.int .i64 a2), (.int .i64 a3), u4]) (cap := []) 25 Try.func254 rfl rfl rfl ?_
  refine W.seq ?_
  refine W.region ?_
  refine RL.opD (by decide) (opv_assign rfl rfl) ?_
  refine RL.nil ?_
  refine thnN ?_
  refine W.seq ?_
  obtain ⟨x1, hx1, hp⟩ := Option.bind_eq_some_iff.1 hp
  refine W.region ?_
  refine RL.opD (by decide) (opv_move rfl rfl) ?_
  refine RL.opD (by decide) (opv_move rfl rfl) ?_
  refine RL.opD (by decide) (opv_sub rfl rfl rfl) ?_
  refine RL.opD (by decide) (opv_mul rfl rfl rfl) ?_
  refine RL.op _ (by decide) (opv_call (spec_l08Share_ok _ _ _ _ hx1) rfl rfl ⟨rfl, rfl, trivial⟩ Try.func317 rfl rfl) ?_
  rintro v1 _ ⟨fv1, rfl⟩
  refine RL.opD (by decide) (opv_assign rfl rfl) ?_
  refine RL.nil ?_
  refine thnN ?_
  refine W.seq ?_
  obtain ⟨x2, hx2, hp⟩ := Option.bind_eq_some_iff.1 hp
  obtain ⟨x3, hx3, hp⟩ := Option.bind_eq_some_iff.1 hp
  refine W.region ?_
  refine RL.opD (by decide) (opv_move rfl rfl) ?_
  refine RL.opD (by decide) (opv_move rfl rfl) ?_
  refine RL.opD (by decide) (opv_move rfl rfl) ?_
  refine RL.opD (by decide) (opv_sub rfl rfl rfl) ?_
  refine RL.opD (by decide) (opv_mul rfl rfl rfl) ?_
  refine RL.op _ (by decide) (opv_call (spec_l08Share_ok _ _ _ _ hx2) rfl rfl ⟨rfl, rfl, trivial⟩ Try.func317 rfl rfl) ?_
  rintro v2 _ ⟨fv2, rfl⟩
  refine RL.opD (by decide) (opv_move rfl rfl) ?_
  refine RL.op _ (by decide) (opv_call (spec_l08Swing_ok _ _ _ fv1 _ _ fv2 _ _ g4 _ hx3) rfl rfl ⟨rfl, rfl, rfl, trivial⟩ Try.func318 rfl rfl) ?_
  rintro v3 _ ⟨fv3, rfl⟩
  refine RL.opD (by decide) (opv_assign rfl rfl) ?_
  refine RL.nil ?_
  refine thnN ?_
  refine W.ret ?_
  have er := Option.some.inj hp
  subst er
  exact Rt.one rfl rfl ⟨fv3, rfl⟩

set_option maxRecDepth 20000 in
theorem spec_ModeTurns_ok (h0 : Heap) (a0 : Int) (a1 : Int) (a2 : Int) (a3 : Int) (u4 : Value) (a4 : Option Nat) (g4 : IsF .f32 u4 a4) (r : ((Option Nat) × Bool)) (hp : spec_ModeTurns a0 a1 a2 a3 a4 = some r) : CallsH Try.prog 124 ([(.int .i64 a0), (.int .i64 a1), (.int .i64 a2), (.int .i64 a3), u4].toArray ++ [].toArray) h0 (fun v h' => ∃ u0, v = .tuple [u0, (.bool r.2)].toArray ∧ IsF .f32 u0 r.1 ∧ h0 = h') := by
  unfold spec_ModeTurns at hp
  refine callsH_of_W (l := [(.int .i64 a0), (.int .i64 a1), (.int .i64 a2), (.int .i64 a3), u4]) (cap := []) 37 Try.func124 rfl rfl rfl ?_
  refine W.seq ?_
  refine W.region ?_
  refine RL.opD (by decide) (opv_assign rfl rfl) ?_
  refine RL.opD (by decide) (opv_assign rfl rfl) ?_
  refine RL.nil ?_
  refine thnN ?_
  refine W.seq ?_
  refine W.seq ?_
  obtain ⟨x1, hy1, hp⟩ := Option.bind_eq_some_iff.1 hp
  refine W.cut (fun φ' h' => Fr.sub [(0, (.int .i64 a0)), (1, (.int .i64 a1)), (2, (.int .i64 a2)), (3, (.int .i64 a3)), (4, u4), (10, (.float .f32 0)), (11, (.bool false)), (30, (.bool x1))] φ' ∧ h0 = h') ?_ ?_
  · obtain ⟨x2, hx2, hy1⟩ := Option.bind_eq_some_iff.1 hy1
    by_cases c1 : (!x2) = true
    · rw [if_pos c1] at hy1
      refine W.region ?_
      refine RL.opD (by decide) (opv_move rfl rfl) ?_
      refine RL.op _ (by decide) (opv_call (spec_l08Side_ok _ _ _ hx2) rfl rfl ⟨rfl, trivial⟩ Try.func251 rfl rfl) ?_
      rintro _ _ ⟨rfl, rfl⟩
      refine RL.opD (by decide) (opv_not rfl rfl) ?_
      refine RL.opD (by decide) (opv_move rfl rfl) ?_
      refine RL.no rfl rfl (Eq.trans c1 (by decide)) (by decide) ?_
      refine RL.no rfl rfl (Eq.trans c1 (by decide)) (by decide) ?_
      refine RL.no rfl rfl (Eq.trans c1 (by decide)) (by decide) ?_
      refine RL.opD (by decide) (opv_pick rfl rfl (fun _ => rfl) (fun e => absurd (Eq.trans (Eq.symm e) c1) (by decide)) rfl) ?_
      refine RL.opD (by decide) (opv_move rfl rfl) ?_
      refine RL.no rfl rfl (Eq.trans rfl (by decide)) (by decide) ?_
      refine RL.no rfl rfl (Eq.trans rfl (by decide)) (by decide) ?_
      refine RL.no rfl rfl (Eq.trans rfl (by decide)) (by decide) ?_
      refine RL.no rfl rfl (Eq.trans rfl (by decide)) (by decide) ?_
      refine RL.opD (by decide) (opv_pick rfl rfl (fun _ => rfl) (fun e => absurd (Eq.trans (Eq.symm e) rfl) (by decide)) rfl) ?_
      refine RL.opD (by decide) (opv_move rfl rfl) ?_
      refine RL.no rfl rfl (Eq.trans rfl (by decide)) (by decide) ?_
      refine RL.no rfl rfl (Eq.trans rfl (by decide)) (by decide) ?_
      refine RL.no rfl rfl (Eq.trans rfl (by decide)) (by decide) ?_
      refine RL.opD (by decide) (opv_pick rfl rfl (fun _ => rfl) (fun e => absurd (Eq.trans (Eq.symm e) rfl) (by decide)) rfl) ?_
      refine RL.nil ?_
      have ey1 := Option.some.inj hy1
      subst ey1
      refine onlyN ?_
      exact ⟨⟨rfl, rfl, rfl, rfl, rfl, rfl, rfl, rfl, trivial⟩, rfl⟩
    · rw [if_neg c1] at hy1
      have c1 := eq_false_of_ne_true c1
      obtain ⟨x3, hx3, hy1⟩ := Option.bind_eq_some_iff.1 hy1
      by_cases c2 : (!x3) = true
      · rw [if_pos c2] at hy1
        refine W.region ?_
        refine RL.opD (by decide) (opv_move rfl rfl) ?_
        refine RL.op _ (by decide) (opv_call (spec_l08Side_ok _ _ _ hx2) rfl rfl ⟨rfl, trivial⟩ Try.func251 rfl rfl) ?_
        rintro _ _ ⟨rfl, rfl⟩
        refine RL.opD (by decide) (opv_not rfl rfl) ?_
        refine RL.opD (by decide) (opv_move rfl rfl) ?_
        refine RL.yes _ rfl rfl c1 (by decide) (opv_move rfl rfl) ?_
        rintro _ _ ⟨rfl, rfl⟩
        refine RL.yes _ rfl rfl c1 (by decide) (opv_call (spec_l08Side_ok _ _ _ hx3) rfl rfl ⟨rfl, trivial⟩ Try.func251 rfl rfl) ?_
        rintro _ _ ⟨rfl, rfl⟩
        refine RL.yes _ rfl rfl c1 (by decide) (opv_not rfl rfl) ?_
        rintro _ _ ⟨rfl, rfl⟩
        refine RL.opD (by decide) (opv_pick rfl rfl (fun e => absurd (Eq.trans (Eq.symm e) c1) (by decide)) (fun _ => rfl) rfl) ?_
        refine RL.opD (by decide) (opv_move rfl rfl) ?_
        refine RL.no rfl rfl (Eq.trans c2 (by decide)) (by decide) ?_
        refine RL.no rfl rfl (Eq.trans c2 (by decide)) (by decide) ?_
        refine RL.no rfl rfl (Eq.trans c2 (by decide)) (by decide) ?_
        refine RL.no rfl rfl (Eq.trans c2 (by decide)) (by decide) ?_
        refine RL.opD (by decide) (opv_pick rfl rfl (fun _ => rfl) (fun e => absurd (Eq.trans (Eq.symm e) c2) (by decide)) rfl) ?_
        refine RL.opD (by decide) (opv_move rfl rfl) ?_
        refine RL.no rfl rfl (Eq.trans rfl (by decide)) (by decide) ?_
        refine RL.no rfl rfl (Eq.trans rfl (by decide)) (by decide) ?_
        refine RL.no rfl rfl (Eq.trans rfl (by decide)) (by decide) ?_
        refine RL.opD (by decide) (opv_pick rfl rfl (fun _ => rfl) (fun e => absurd (Eq.trans (Eq.symm e) rfl) (by decide)) rfl) ?_
        refine RL.nil ?_
        have ey1 := Option.some.inj hy1
        subst ey1
        refine onlyN ?_
        exact ⟨⟨rfl, rfl, rfl, rfl, rfl, rfl, rfl, rfl, trivial⟩, rfl⟩
      · rw [if_neg c2] at hy1
        have c2 := eq_false_of_ne_true c2
        obtain ⟨x4, hx4, hy1⟩ := Option.bind_eq_some_iff.1 hy1
        by_cases c3 : (!x4) = true
        · rw [if_pos c3] at hy1
          refine W.region ?_
          refine RL.opD (by decide) (opv_move rfl rfl) ?_
          refine RL.op _ (by decide) (opv_call (spec_l08Side_ok _ _ _ hx2) rfl rfl ⟨rfl, trivial⟩ Try.func251 rfl rfl) ?_
          rintro _ _ ⟨rfl, rfl⟩
          refine RL.opD (by decide) (opv_not rfl rfl) ?_
          refine RL.opD (by decide) (opv_move rfl rfl) ?_
          refine RL.yes _ rfl rfl c1 (by decide) (opv_move rfl rfl) ?_
          rintro _ _ ⟨rfl, rfl⟩
          refine RL.yes _ rfl rfl c1 (by decide) (opv_call (spec_l08Side_ok _ _ _ hx3) rfl rfl ⟨rfl, trivial⟩ Try.func251 rfl rfl) ?_
          rintro _ _ ⟨rfl, rfl⟩
          refine RL.yes _ rfl rfl c1 (by decide) (opv_not rfl rfl) ?_
          rintro _ _ ⟨rfl, rfl⟩
          refine RL.opD (by decide) (opv_pick rfl rfl (fun e => absurd (Eq.trans (Eq.symm e) c1) (by decide)) (fun _ => rfl) rfl) ?_
          refine RL.opD (by decide) (opv_move rfl rfl) ?_
          refine RL.yes _ rfl rfl c2 (by decide) (opv_move rfl rfl) ?_
          rintro _ _ ⟨rfl, rfl⟩
          refine RL.yes _ rfl rfl c2 (by decide) (opv_move rfl rfl) ?_
          rintro _ _ ⟨rfl, rfl⟩
          refine RL.yes _ rfl rfl c2 (by decide) (opv_call (spec_l08Order_ok _ _ _ _ hx4) rfl rfl ⟨rfl, rfl, trivial⟩ Try.func252 rfl rfl) ?_
          rintro _ _ ⟨rfl, rfl⟩
          refine RL.yes _ rfl rfl c2 (by decide) (opv_not rfl rfl) ?_
          rintro _ _ ⟨rfl, rfl⟩
          refine RL.opD (by decide) (opv_pick rfl rfl (fun e => absurd (Eq.trans (Eq.symm e) c2) (by decide)) (fun _ => rfl) rfl) ?_
          refine RL.opD (by decide) (opv_move rfl rfl) ?_
          refine RL.no rfl rfl (Eq.trans c3 (by decide)) (by decide) ?_
          refine RL.no rfl rfl (Eq.trans c3 (by decide)) (by decide) ?_
          refine RL.no rfl rfl (Eq.trans c3 (by decide)) (by decide) ?_
          refine RL.opD (by decide) (opv_pick rfl rfl (fun _ => rfl) (fun e => absurd (Eq.trans (Eq.symm e) c3) (by decide)) rfl) ?_
          refine RL.nil ?_
          have ey1 := Option.some.inj hy1
          subst ey1
          refine onlyN ?_
          exact ⟨⟨rfl, rfl, rfl, rfl, rfl, rfl, rfl, rfl, trivial⟩, rfl⟩
        · rw [if_neg c3] at hy1
          have c3 := eq_false_of_ne_true c3
          obtain ⟨x5, hx5, hy1⟩ := Option.bind_eq_some_iff.1 hy1
          refine W.region ?_
          refine RL.opD (by decide) (opv_move rfl rfl) ?_
          refine RL.op _ (by decide) (opv_call (spec_l08Side_ok _ _ _ hx2) rfl rfl ⟨rfl, trivial⟩ Try.func251 rfl rfl) ?_
          rintro _ _ ⟨rfl, rfl⟩
          refine RL.opD (by decide) (opv_not rfl rfl) ?_
          refine RL.opD (by decide) (opv_move rfl rfl) ?_
          refine RL.yes _ rfl rfl c1 (by decide) (opv_move rfl rfl) ?_
          rintro _ _ ⟨rfl, rfl⟩
          refine RL.yes _ rfl rfl c1 (by decide) (opv_call (spec_l08Side_ok _ _ _ hx3) rfl rfl ⟨rfl, trivial⟩ Try.func251 rfl rfl) ?_
          rintro _ _ ⟨rfl, rfl⟩
          refine RL.yes _ rfl rfl c1 (by decide) (opv_not rfl rfl) ?_
          rintro _ _ ⟨rfl, rfl⟩
          refine RL.opD (by decide) (opv_pick rfl rfl (fun e => absurd (Eq.trans (Eq.symm e) c1) (by decide)) (fun _ => rfl) rfl) ?_
          refine RL.opD (by decide) (opv_move rfl rfl) ?_
          refine RL.yes _ rfl rfl c2 (by decide) (opv_move rfl rfl) ?_
          rintro _ _ ⟨rfl, rfl⟩
          refine RL.yes _ rfl rfl c2 (by decide) (opv_move rfl rfl) ?_
          rintro _ _ ⟨rfl, rfl⟩
          refine RL.yes _ rfl rfl c2 (by decide) (opv_call (spec_l08Order_ok _ _ _ _ hx4) rfl rfl ⟨rfl, rfl, trivial⟩ Try.func252 rfl rfl) ?_
          rintro _ _ ⟨rfl, rfl⟩
          refine RL.yes _ rfl rfl c2 (by decide) (opv_not rfl rfl) ?_
          rintro _ _ ⟨rfl, rfl⟩
          refine RL.opD (by decide) (opv_pick rfl rfl (fun e => absurd (Eq.trans (Eq.symm e) c2) (by decide)) (fun _ => rfl) rfl) ?_
          refine RL.opD (by decide) (opv_move rfl rfl) ?_
          refine RL.yes _ rfl rfl c3 (by decide) (opv_move rfl rfl) ?_
          rintro _ _ ⟨rfl, rfl⟩
          refine RL.yes _ rfl rfl c3 (by decide) (opv_call (spec_l08Speed_ok _ _ _ g4 _ hx5) rfl rfl ⟨rfl, trivial⟩ Try.func253 rfl rfl) ?_
          rintro _ _ ⟨rfl, rfl⟩
          refine RL.yes _ rfl rfl c3 (by decide) (opv_not rfl rfl) ?_
          rintro _ _ ⟨rfl, rfl⟩
          refine RL.opD (by decide) (opv_pick rfl rfl (fun e => absurd (Eq.trans (Eq.symm e) c3) (by decide)) (fun _ => rfl) rfl) ?_
          refine RL.nil ?_
          have ey1 := Option.some.inj hy1
          subst ey1
          refine onlyN ?_
          exact ⟨⟨rfl, rfl, rfl, rfl, rfl, rfl, rfl, rfl, trivial⟩, rfl⟩
  rintro φ' _ ⟨hs1, rfl⟩
  refine thnN ?_
  refine W.sub hs1 ?_
  by_cases c4 : x1 = true
  · rw [if_pos c4] at hp
    refine W.condT rfl c4 ?_
    refine W.seq ?_
    refine W.region ?_
    refine RL.opD (by decide) (opv_assign rfl rfl) ?_
    refine RL.opD (by decide) (opv_assign rfl rfl) ?_
    refine RL.nil ?_
    refine thnN ?_
    refine W.ret ?_
    refine thnR ?_
    have er := Option.some.inj hp
    subst er
    exact Rt.two rfl rfl rfl ⟨(.float .f32 0), rfl, (isF_lit .f32 0 (by decide) (by decide)), rfl⟩
  · rw [if_neg c4] at hp
    have c4 := eq_false_of_ne_true c4
    refine W.condF rfl c4 ?_
    refine W.skip ?_
    refine thnN ?_
    refine W.seq ?_
    obtain ⟨x6, hx6, hp⟩ := Option.bind_eq_some_iff.1 hp
    refine W.region ?_
    refine RL.opD (by decide) (opv_move rfl rfl) ?_
    refine RL.opD (by decide) (opv_move rfl rfl) ?_
    refine RL.opD (by decide) (opv_move rfl rfl) ?_
    refine RL.opD (by decide) (opv_move rfl rfl) ?_
    refine RL.opD (by decide) (opv_move rfl rfl) ?_
    refine RL.op _ (by decide) (opv_call (spec_l08Turns_ok _ _ _ _ _ _ _ g4 _ hx6) rfl rfl ⟨rfl, rfl, rfl, rfl, rfl, trivial⟩ Try.func254 rfl rfl) ?_
    rintro v1 _ ⟨fv1, rfl⟩
    refine RL.opD (by decide) (opv_assign rfl rfl) ?_
    refine RL.opD (by decide) (opv_assign rfl rfl) ?_
    refine RL.nil ?_
    refine thnN ?_
    refine W.ret ?_
    have er := Option.some.inj hp
    subst er
    exact Rt.two rfl rfl rfl ⟨v1, rfl, fv1, rfl⟩

set_option maxRecDepth 20000 in
theorem impl_within_ok (h0 : Heap) (a0 : Int) (a1 : Int) (a2 : Int) (r : Bool) (hp : impl_within a0 a1 a2 = some r) : CallsH Try.prog 165 ([(.int .i64 a0), (.int .i64 a1), (.int .i64 a2)].toArray ++ [].toArray) h0 (fun v h' => v = (.bool r) ∧ h0 = h') := by
  unfold impl_within at hp
  refine callsH_of_W (l := [(.int .i64 a0), (.int .i64 a1), (.int .i64 a2)]) (cap := []) 15 Try.func165 rfl rfl rfl ?_
  refine W.seq ?_
  refine W.region ?_
  refine RL.opD (by decide) (opv_assign rfl rfl) ?_
  refine RL.nil ?_
  refine thnN ?_
  refine W.seq ?_
  obtain ⟨x1, hy1, hp⟩ := Option.bind_eq_some_iff.1 hp
  refine W.cut (fun φ' h' => Fr.sub [(0, (.int .i64 a0)), (1, (.int .i64 a1)), (2, (.int .i64 a2)), (6, (.bool x1))] φ' ∧ h0 = h') ?_ ?_
  · by_cases c1 : (decide (a0 ≥ a1)) = true
    · rw [if_pos c1] at hy1
      refine W.region ?_
      refine RL.opD (by decide) (opv_move rfl rfl) ?_
      refine RL.opD (by decide) (opv_move rfl rfl) ?_
      refine RL.opD (by decide) (opv_icmp rfl rfl rfl rfl) ?_
      refine RL.opD (by decide) (opv_move rfl rfl) ?_
      refine RL.yes _ rfl rfl c1 (by decide) (opv_move rfl rfl) ?_
      rintro _ _ ⟨rfl, rfl⟩
      refine RL.yes _ rfl rfl c1 (by decide) (opv_move rfl rfl) ?_
      rintro _ _ ⟨rfl, rfl⟩
      refine RL.yes _ rfl rfl c1 (by decide) (opv_icmp rfl rfl rfl rfl) ?_
      rintro _ _ ⟨rfl, rfl⟩
      refine RL.opD (by decide) (opv_pick rfl rfl (fun _ => rfl) (fun e => absurd (Eq.trans (Eq.symm e) c1) (by decide)) rfl) ?_
      refine RL.opD (by decide) (opv_assign rfl rfl) ?_
      refine RL.nil ?_
      have ey1 := Option.some.inj hy1
      subst ey1
      refine onlyN ?_
      exact ⟨⟨rfl, rfl, rfl, rfl, trivial⟩, rfl⟩
    · rw [if_neg c1] at hy1
      have c1 := eq_false_of_ne_true c1
      refine W.region ?_
      refine RL.opD (by decide) (opv_move rfl rfl) ?_
      refine RL.opD (by decide) (opv_move rfl rfl) ?_
      refine RL.opD (by decide) (opv_icmp rfl rfl rfl rfl) ?_
      refine RL.opD (by decide) (opv_move rfl rfl) ?_
      refine RL.no rfl rfl (Eq.trans c1 (by decide)) (by decide) ?_
      refine RL.no rfl rfl (Eq.trans c1 (by decide)) (by decide) ?_
      refine RL.no rfl rfl (Eq.trans c1 (by decide)) (by decide) ?_
      refine RL.opD (by decide) (opv_pick rfl rfl (fun e => absurd (Eq.trans (Eq.symm e) c1) (by decide)) (fun _ => rfl) rfl) ?_
      refine RL.opD (by decide) (opv_assign rfl rfl) ?_
      refine RL.nil ?_
      have ey1 := Option.some.inj hy1
      subst ey1
      refine onlyN ?_
      exact ⟨⟨rfl, rfl, rfl, rfl, trivial⟩, rfl⟩
  rintro φ' _ ⟨hs1, rfl⟩
  refine thnN ?_
  refine W.sub hs1 ?_
  refine W.ret ?_
  have er := Option.some.inj hp
  subst er
  exact Rt.one rfl rfl ⟨rfl, rfl⟩

set_option maxRecDepth 20000 in
theorem impl_areSides_ok (h0 : Heap) (a0 : Int) (a1 : Int) (u2 : Value) (a2 : Option Nat) (g2 : IsF .f32 u2 a2) (r : Bool) (hp : impl_areSides a0 a1 a2 = some r) : CallsH Try.prog 255 ([(.int .i64 a0), (.int .i64 a1), u2].toArray ++ [].toArray) h0 (fun v h' => v = (.bool r) ∧ h0 = h') := by
  unfold impl_areSides at hp
  refine callsH_of_W (l := [(.int .i64 a0), (.int .i64 a1), u2]) (cap := []) 21 Try.func255 rfl rfl rfl ?_
  refine W.seq ?_
  refine W.region ?_
  refine RL.opD (by decide) (opv_assign rfl rfl) ?_
  refine RL.nil ?_
  refine thnN ?_
  refine W.seq ?_
  obtain ⟨x1, hy1, hp⟩ := Option.bind_eq_some_iff.1 hp
  refine W.cut (fun φ' h' => Fr.sub [(0, (.int .i64 a0)), (1, (.int .i64 a1)), (2, u2), (6, (.bool x1))] φ' ∧ h0 = h') ?_ ?_
  · obtain ⟨x2, hx2, hy1⟩ := Option.bind_eq_some_iff.1 hy1
    by_cases c1 : x2 = true
    · rw [if_pos c1] at hy1
      obtain ⟨x3, hx3, hy1⟩ := Option.bind_eq_some_iff.1 hy1
      by_cases c2 : x3 = true
      · rw [if_pos c2] at hy1
        by_cases c3 : (fcmp .geq .f32 a2 (some 0)) = true
        · rw [if_pos c3] at hy1
          refine W.region ?_
          refine RL.opD (by decide) (opv_move rfl rfl) ?_
          refine RL.op _ (by decide) (opv_call (impl_within_ok _ _ _ _ _ hx2) rfl rfl ⟨rfl, rfl, rfl, trivial⟩ Try.func165 rfl rfl) ?_
          rintro _ _ ⟨rfl, rfl⟩
          refine RL.opD (by decide) (opv_move rfl rfl) ?_
          refine RL.yes _ rfl rfl c1 (by decide) (opv_move rfl rfl) ?_
          rintro _ _ ⟨rfl, rfl⟩
          refine RL.yes _ rfl rfl c1 (by decide) (opv_call (impl_within_ok _ _ _ _ _ hx3) rfl rfl ⟨rfl, rfl, rfl, trivial⟩ Try.func165 rfl rfl) ?_
          rintro _ _ ⟨rfl, rfl⟩
          refine RL.opD (by decide) (opv_pick rfl rfl (fun _ => rfl) (fun e => absurd (Eq.trans (Eq.symm e) c1) (by decide)) rfl) ?_
          refine RL.opD (by decide) (opv_move rfl rfl) ?_
          refine RL.yes _ rfl rfl c2 (by decide) (opv_move rfl rfl) ?_
          rintro _ _ ⟨rfl, rfl⟩
          refine RL.yes _ rfl rfl c2 (by decide) (opv_fcmp rfl rfl rfl rfl g2 (isF_lit .f32 0 (by decide) (by decide))) ?_
          rintro _ _ ⟨rfl, rfl⟩
          refine RL.opD (by decide) (opv_pick rfl rfl (fun _ => rfl) (fun e => absurd (Eq.trans (Eq.symm e) c2) (by decide)) rfl) ?_
          refine RL.opD (by decide) (opv_move rfl rfl) ?_
          refine RL.yes _ rfl rfl c3 (by decide) (opv_move rfl rfl) ?_
          rintro _ _ ⟨rfl, rfl⟩
          refine RL.yes _ rfl rfl c3 (by decide) (opv_fcmp rfl rfl rfl rfl g2 (isF_lit .f32 1056964608 (by decide) (by decide))) ?_
          rintro _ _ ⟨rfl, rfl⟩
          refine RL.opD (by decide) (opv_pick rfl rfl (fun _ => rfl) (fun e => absurd (Eq.trans (Eq.symm e) c3) (by decide)) rfl) ?_
          refine RL.opD (by decide) (opv_assign rfl rfl) ?_
          refine RL.nil ?_
          have ey1 := Option.some.inj hy1
          subst ey1
          refine onlyN ?_
          exact ⟨⟨rfl, rfl, rfl, rfl, trivial⟩, rfl⟩
        · rw [if_neg c3] at hy1
          have c3 := eq_false_of_ne_true c3
          refine W.region ?_
          refine RL.opD (by decide) (opv_move rfl rfl) ?_
          refine RL.op _ (by decide) (opv_call (impl_within_ok _ _ _ _ _ hx2) rfl rfl ⟨rfl, rfl, rfl, trivial⟩ Try.func165 rfl rfl) ?_
          rintro _ _ ⟨rfl, rfl⟩
          refine RL.opD (by decide) (opv_move rfl rfl) ?_
          refine RL.yes _ rfl rfl c1 (by decide) (opv_move rfl rfl) ?_
          rintro _ _ ⟨rfl, rfl⟩
          refine RL.yes _ rfl rfl c1 (by decide) (opv_call (impl_within_ok _ _ _ _ _ hx3) rfl rfl ⟨rfl, rfl, rfl, trivial⟩ Try.func165 rfl rfl) ?_
          rintro _ _ ⟨rfl, rfl⟩
          refine RL.opD (by decide) (opv_pick rfl rfl (fun _ => rfl) (fun e => absurd (Eq.trans (Eq.symm e) c1) (by decide)) rfl) ?_
          refine RL.opD (by decide) (opv_move rfl rfl) ?_
          refine RL.yes _ rfl rfl c2 (by decide) (opv_move rfl rfl) ?_
          rintro _ _ ⟨rfl, rfl⟩
          refine RL.yes _ rfl rfl c2 (by decide) (opv_fcmp rfl rfl rfl rfl g2 (isF_lit .f32 0 (by decide) (by decide))) ?_
          rintro _ _ ⟨rfl, rfl⟩
          refine RL.opD (by decide) (opv_pick rfl rfl (fun _ => rfl) (fun e => absurd (Eq.trans (Eq.symm e) c2) (by decide)) rfl) ?_
          refine RL.opD (by decide) (opv_move rfl rfl) ?_
          refine RL.no rfl rfl (Eq.trans c3 (by decide)) (by decide) ?_
          refine RL.no rfl rfl (Eq.trans c3 (by decide)) (by decide) ?_
          refine RL.opD (by decide) (opv_pick rfl rfl (fun e => absurd (Eq.trans (Eq.symm e) c3) (by decide)) (fun _ => rfl) rfl) ?_
          refine RL.opD (by decide) (opv_assign rfl rfl) ?_
          refine RL.nil ?_
          have ey1 := Option.some.inj hy1
          subst ey1
          refine onlyN ?_
          exact ⟨⟨rfl, rfl, rfl, rfl, trivial⟩, rfl⟩
      · rw [if_neg c2] at hy1
        have c2 := eq_false_of_ne_true c2
        refine W.region ?_
        refine RL.opD (by decide) (opv_move rfl rfl) ?_
        refine RL.op _ (by decide) (opv_call (impl_within_ok _ _ _ _ _ hx2) rfl rfl ⟨rfl, rfl, rfl, trivial⟩ Try.func165 rfl rfl) ?_
        rintro _ _ ⟨rfl, rfl⟩
        refine RL.opD (by decide) (opv_move rfl rfl) ?_
        refine RL.yes _ rfl rfl c1 (by decide) (opv_move rfl rfl) ?_
        rintro _ _ ⟨rfl, rfl⟩
        refine RL.yes _ rfl rfl c1 (by decide) (opv_call (impl_within_ok _ _ _ _ _ hx3) rfl rfl ⟨rfl, rfl, rfl, trivial⟩ Try.func165 rfl rfl) ?_
        rintro _ _ ⟨rfl, rfl⟩
        refine RL.opD (by decide) (opv_pick rfl rfl (fun _ => rfl) (fun e => absurd (Eq.trans (Eq.symm e) c1) (by decide)) rfl) ?_
        refine RL.opD (by decide) (opv_move rfl rfl) ?_
        refine RL.no rfl rfl (Eq.trans c2 (by decide)) (by decide) ?_
        refine RL.no rfl rfl (Eq.trans c2 (by decide)) (by decide) ?_
        refine RL.opD (by decide) (opv_pick rfl rfl (fun e => absurd (Eq.trans (Eq.symm e) c2) (by decide)) (fun _ => rfl) rfl) ?_
        refine RL.opD (by decide) (opv_move rfl rfl) ?_
        refine RL.no rfl rfl (Eq.trans rfl (by decide)) (by decide) ?_
        refine RL.no rfl rfl (Eq.trans rfl (by decide)) (by decide) ?_
        refine RL.opD (by decide) (opv_pick rfl rfl (fun e => absurd (Eq.trans (Eq.symm e) rfl) (by decide)) (fun _ => rfl) rfl) ?_
        refine RL.opD (by decide) (opv_assign rfl rfl) ?_
        refine RL.nil ?_
        have ey1 := Option.some.inj hy1
        subst ey1
        refine onlyN ?_
        exact ⟨⟨rfl, rfl, rfl, rfl, trivial⟩, rfl⟩
    · rw [if_neg c1] at hy1
      have c1 := eq_false_of_ne_true c1
      refine W.region ?_
      refine RL.opD (by decide) (opv_move rfl rfl) ?_
      refine RL.op _ (by decide) (opv_call (impl_within_ok _ _ _ _ _ hx2) rfl rfl ⟨rfl, rfl, rfl, trivial⟩ Try.func165 rfl rfl) ?_
      rintro _ _ ⟨rfl, rfl⟩
      refine RL.opD (by decide) (opv_move rfl rfl) ?_
      refine RL.no rfl rfl (Eq.trans c1 (by decide)) (by decide) ?_
      refine RL.no rfl rfl (Eq.trans c1 (by decide)) (by decide) ?_
      refine RL.opD (by decide) (opv_pick rfl rfl (fun e => absurd (Eq.trans (Eq.symm e) c1) (by decide)) (fun _ => rfl) rfl) ?_
      refine RL.opD (by decide) (opv_move rfl rfl) ?_
      refine RL.no rfl rfl (Eq.trans rfl (by decide)) (by decide) ?_
      refine RL.no rfl rfl (Eq.trans rfl (by decide)) (by decide) ?_
      refine RL.opD (by decide) (opv_pick rfl rfl (fun e => absurd (Eq.trans (Eq.symm e) rfl) (by decide)) (fun _ => rfl) rfl) ?_
      refine RL.opD (by decide) (opv_move rfl rfl) ?_
      refine RL.no rfl rfl (Eq.trans rfl (by decide)) (by decide) ?_
      refine RL.no rfl rfl (Eq.trans rfl (by decide)) (by decide) ?_
      refine RL.opD (by decide) (opv_pick rfl rfl (fun e => absurd (Eq.trans (Eq.symm e) rfl) (by decide)) (fun _ => rfl) rfl) ?_
      refine RL.opD (by decide) (opv_assign rfl rfl) ?_
      refine RL.nil ?_
      have ey1 := Option.some.inj hy1
      subst ey1
      refine onlyN ?_
      exact ⟨⟨rfl, rfl, rfl, rfl, trivial⟩, rfl⟩
  rintro φ' _ ⟨hs1, rfl⟩
  refine thnN ?_
  refine W.sub hs1 ?_
  refine W.ret ?_
  have er := Option.some.inj hp
  subst er
  exact Rt.one rfl rfl ⟨rfl, rfl⟩

set_option maxRecDepth 20000 in
theorem impl_isOrder_ok (h0 : Heap) (a0 : Int) (r : Bool) (hp : impl_isOrder a0 = some r) : CallsH Try.prog 256 ([(.int .i64 a0)].toArray ++ [].toArray) h0 (fun v h' => v = (.bool r) ∧ h0 = h') := by
  unfold impl_isOrder at hp
  refine callsH_of_W (l := [(.int .i64 a0)]) (cap := []) 5 Try.func256 rfl rfl rfl ?_
  refine W.seq ?_
  refine W.region ?_
  refine RL.opD (by decide) (opv_assign rfl rfl) ?_
  refine RL.nil ?_
  refine thnN ?_
  refine W.seq ?_
  obtain ⟨x1, hx1, hp⟩ := Option.bind_eq_some_iff.1 hp
  refine W.region ?_
  refine RL.opD (by decide) (opv_move rfl rfl) ?_
  refine RL.op _ (by decide) (opv_call (impl_within_ok _ _ _ _ _ hx1) rfl rfl ⟨rfl, rfl, rfl, trivial⟩ Try.func165 rfl rfl) ?_
  rintro _ _ ⟨rfl, rfl⟩
  refine RL.opD (by decide) (opv_assign rfl rfl) ?_
  refine RL.nil ?_
  refine thnN ?_
  refine W.ret ?_
  have er := Option.some.inj hp
  subst er
  exact Rt.one rfl rfl ⟨rfl, rfl⟩

set_option maxRecDepth 20000 in
theorem impl_quotient_ok (h0 : Heap) (a0 : Int) (a1 : Int) (r : Option Nat) (hp : impl_quotient a0 a1 = some r) : CallsH Try.prog 306 ([(.int .i64 a0), (.int .i64 a1)].toArray ++ [].toArray) h0 (fun v h' => IsF .f32 v r ∧ h0 = h') := by
  unfold impl_quotient at hp
  refine callsH_of_W (l := [(.int .i64 a0), (.int .i64 a1)]) (cap := []) 10 Try.func306 rfl rfl rfl ?_
  refine W.seq ?_
  refine W.region ?_
  refine RL.opD (by decide) (opv_assign rfl rfl) ?_
  refine RL.nil ?_
  refine thnN ?_
  refine W.seq ?_
  refine W.region ?_
  refine RL.opD (by decide) (opv_move rfl rfl) ?_
  refine RL.opF (by decide) (opv_i2f rfl (by rw [Try.underlying2]; rfl) Try.underlying29 rfl) ?_
  intro v1 fv1
  refine RL.opD (by decide) (opv_move rfl rfl) ?_
  refine RL.opF (by decide) (opv_i2f rfl (by rw [Try.underlying2]; rfl) Try.underlying29 rfl) ?_
  intro v2 fv2
  refine RL.opF (by decide) (opv_fop rfl rfl rfl rfl fv1 fv2) ?_
  intro v3 fv3
  refine RL.opD (by decide) (opv_assign rfl rfl) ?_
  refine RL.nil ?_
  refine thnN ?_
  refine W.ret ?_
  have er := Option.some.inj hp
  subst er
  exact Rt.one rfl rfl ⟨fv3, rfl⟩

set_option maxRecDepth 20000 in
theorem impl_turnsBy_ok (h0 : Heap) (u0 : Value) (a0 : Option Nat) (g0 : IsF .f32 u0 a0) (u1 : Value) (a1 : Option Nat) (g1 : IsF .f32 u1 a1) (u2 : Value) (a2 : Option Nat) (g2 : IsF .f32 u2 a2) (r : Option Nat) (hp : impl_turnsBy a0 a1 a2 = some r) : CallsH Try.prog 319 ([u0, u1, u2].toArray ++ [].toArray) h0 (fun v h' => IsF .f32 v r ∧ h0 = h') := by
  unfold impl_turnsBy at hp
  refine callsH_of_W (l := [u0, u1, u2]) (cap := []) 31 Try.func319 rfl rfl rfl ?_
  refine W.seq ?_
  refine W.region ?_
  refine RL.opD (by decide) (opv_assign rfl rfl) ?_
  refine RL.nil ?_
  refine thnN ?_
  refine W.seq ?_
  obtain ⟨x1, hx1, hp⟩ := Option.bind_eq_some_iff.1 hp
  obtain ⟨x2, hx2, hp⟩ := Option.bind_eq_some_iff.1 hp
  refine W.region ?_
  refine RL.opD (by decide) (opv_move rfl rfl) ?_
  refine RL.op _ (by decide) (opv_call (impl_SineTurns_ok _ _ _ g0 _ hx1) rfl rfl ⟨rfl, trivial⟩ Try.func298 rfl rfl) ?_
  rintro v1 _ ⟨fv1, rfl⟩
  refine RL.opD (by decide) (opv_move rfl rfl) ?_
  refine RL.op _ (by decide) (opv_call (impl_SineTurns_ok _ _ _ g1 _ hx2) rfl rfl ⟨rfl, trivial⟩ Try.func298 rfl rfl) ?_
  rintro v2 _ ⟨fv2, rfl⟩
  refine RL.opD (by decide) (opv_assign rfl rfl) ?_
  refine RL.opD (by decide) (opv_assign rfl rfl) ?_
  refine RL.nil ?_
  refine thnN ?_
  refine W.seq ?_
  refine W.region ?_
  refine RL.opD (by decide) (opv_move rfl rfl) ?_
  refine RL.opF (by decide) (opv_fop rfl rfl rfl rfl (isF_lit .f32 1056964608 (by decide) (by decide)) g2) ?_
  intro v3 fv3
  refine RL.opD (by decide) (opv_move rfl rfl) ?_
  refine RL.opD (by decide) (opv_move rfl rfl) ?_
  refine RL.opF (by decide) (opv_fop rfl rfl rfl rfl fv1 fv1) ?_
  intro v4 fv4
  refine RL.opD (by decide) (opv_move rfl rfl) ?_
  refine RL.opD (by decide) (opv_move rfl rfl) ?_
  refine RL.opF (by decide) (opv_fop rfl rfl rfl rfl fv2 fv2) ?_
  intro v5 fv5
  refine RL.opF (by decide) (opv_fop rfl rfl rfl rfl fv4 fv5) ?_
  intro v6 fv6
  refine RL.opF (by decide) (opv_fop rfl rfl rfl rfl fv3 fv6) ?_
  intro v7 fv7
  refine RL.opD (by decide) (opv_assign rfl rfl) ?_
  refine RL.nil ?_
  refine thnN ?_
  refine W.seq ?_
  obtain ⟨x3, hx3, hp⟩ := Option.bind_eq_some_iff.1 hp
  obtain ⟨x4, hx4, hp⟩ := Option.bind_eq_some_iff.1 hp
  obtain ⟨x5, hx5, hp⟩ := Option.bind_eq_some_iff.1 hp
  refine W.region ?_
  refine RL.opD (by decide) (opv_move rfl rfl) ?_
  refine RL.op _ (by decide) (opv_call (impl_RootNumber_ok _ _ _ fv7 _ hx3) rfl rfl ⟨rfl, trivial⟩ Try.func190 rfl rfl) ?_
  rintro v8 _ ⟨fv8, rfl⟩
  refine RL.opD (by decide) (opv_move rfl rfl) ?_
  refine RL.opF (by decide) (opv_fop rfl rfl rfl rfl (isF_lit .f32 1065353216 (by decide) (by decide)) fv7) ?_
  intro v9 fv9
  refine RL.op _ (by decide) (opv_call (impl_RootNumber_ok _ _ _ fv9 _ hx4) rfl rfl ⟨rfl, trivial⟩ Try.func190 rfl rfl) ?_
  rintro v10 _ ⟨fv10, rfl⟩
  refine RL.op _ (by decide) (opv_call (impl_AngleTurns_ok _ _ _ fv8 _ _ fv10 _ hx5) rfl rfl ⟨rfl, rfl, trivial⟩ Try.func189 rfl rfl) ?_
  rintro v11 _ ⟨fv11, rfl⟩
  refine RL.opF (by decide) (opv_fop rfl rfl rfl rfl (isF_lit .f32 1073741824 (by decide) (by decide)) fv11) ?_
  intro v12 fv12
  refine RL.opD (by decide) (opv_assign rfl rfl) ?_
  refine RL.nil ?_
  refine thnN ?_
  refine W.ret ?_
  have er := Option.some.inj hp
  subst er
  exact Rt.one rfl rfl ⟨fv12, rfl⟩

set_option maxRecDepth 20000 in
theorem impl_modeTurns_ok (h0 : Heap) (a0 : Int) (a1 : Int) (a2 : Int) (a3 : Int) (u4 : Value) (a4 : Option Nat) (g4 : IsF .f32 u4 a4) (r : Option Nat) (hp : impl_modeTurns a0 a1 a2 a3 a4 = some r) : CallsH Try.prog 257 ([(.int .i64 a0), (.int .i64 a1), (.int .i64 a2), (.int .i64 a3), u4].toArray ++ [].toArray) h0 (fun v h' => IsF .f32 v r ∧ h0 = h') := by
  unfold impl_modeTurns at hp
  refine callsH_of_W (l := [(.int .i64 a0), (.int .i64 a1), (.int .i64 a2), (.int .i64 a3), u4]) (cap := []) 23 Try.func257 rfl rfl rfl ?_
  refine W.seq ?_
  refine W.region ?_
  refine RL.opD (by decide) (opv_assign rfl rfl) ?_
  refine RL.nil ?_
  refine thnN ?_
  refine W.seq ?_
  obtain ⟨x1, hx1, hp⟩ := Option.bind_eq_some_iff.1 hp
  obtain ⟨x2, hx2, hp⟩ := Option.bind_eq_some_iff.1 hp
  obtain ⟨x3, hx3, hp⟩ := Option.bind_eq_some_iff.1 hp
  refine W.region ?_
  refine RL.opD (by decide) (opv_move rfl rfl) ?_
  refine RL.opD (by decide) (opv_move rfl rfl) ?_
  refine RL.opD (by decide) (opv_sub rfl rfl rfl) ?_
  refine RL.opD (by decide) (opv_mul rfl rfl rfl) ?_
  refine RL.op _ (by decide) (opv_call (impl_quotient_ok _ _ _ _ hx1) rfl rfl ⟨rfl, rfl, trivial⟩ Try.func306 rfl rfl) ?_
  rintro v1 _ ⟨fv1, rfl⟩
  refine RL.opD (by decide) (opv_move rfl rfl) ?_
  refine RL.opD (by decide) (opv_move rfl rfl) ?_
  refine RL.opD (by decide) (opv_sub rfl rfl rfl) ?_
  refine RL.opD (by decide) (opv_mul rfl rfl rfl) ?_
  refine RL.op _ (by decide) (opv_call (impl_quotient_ok _ _ _ _ hx2) rfl rfl ⟨rfl, rfl, trivial⟩ Try.func306 rfl rfl) ?_
  rintro v2 _ ⟨fv2, rfl⟩
  refine RL.opD (by decide) (opv_move rfl rfl) ?_
  refine RL.op _ (by decide) (opv_call (impl_turnsBy_ok _ _ _ fv1 _ _ fv2 _ _ g4 _ hx3) rfl rfl ⟨rfl, rfl, rfl, trivial⟩ Try.func319 rfl rfl) ?_
  rintro v3 _ ⟨fv3, rfl⟩
  refine RL.opD (by decide) (opv_assign rfl rfl) ?_
  refine RL.nil ?_
  refine thnN ?_
  refine W.ret ?_
  have er := Option.some.inj hp
  subst er
  exact Rt.one rfl rfl ⟨fv3, rfl⟩

set_option maxRecDepth 20000 in
theorem impl_ModeTurns_ok (h0 : Heap) (a0 : Int) (a1 : Int) (a2 : Int) (a3 : Int) (u4 : Value) (a4 : Option Nat) (g4 : IsF .f32 u4 a4) (r : ((Option Nat) × Bool)) (hp : impl_ModeTurns a0 a1 a2 a3 a4 = some r) : CallsH Try.prog 125 ([(.int .i64 a0), (.int .i64 a1), (.int .i64 a2), (.int .i64 a3), u4].toArray ++ [].toArray) h0 (fun v h' => ∃ u0, v = .tuple [u0, (.bool r.2)].toArray ∧ IsF .f32 u0 r.1 ∧ h0 = h') := by
  unfold impl_ModeTurns at hp
  refine callsH_of_W (l := [(.int .i64 a0), (.int .i64 a1), (.int .i64 a2), (.int .i64 a3), u4]) (cap := []) 33 Try.func125 rfl rfl rfl ?_
  refine W.seq ?_
  refine W.region ?_
  refine RL.opD (by decide) (opv_assign rfl rfl) ?_
  refine RL.opD (by decide) (opv_assign rfl rfl) ?_
  refine RL.nil ?_
  refine thnN ?_
  refine W.seq ?_
  refine W.seq ?_
  obtain ⟨x1, hy1, hp⟩ := Option.bind_eq_some_iff.1 hp
  refine W.cut (fun φ' h' => Fr.sub [(0, (.int .i64 a0)), (1, (.int .i64 a1)), (2, (.int .i64 a2)), (3, (.int .i64 a3)), (4, u4), (10, (.float .f32 0)), (11, (.bool false)), (26, (.bool x1))] φ' ∧ h0 = h') ?_ ?_
  · obtain ⟨x2, hx2, hy1⟩ := Option.bind_eq_some_iff.1 hy1
    by_cases c1 : (!x2) = true
    · rw [if_pos c1] at hy1
      refine W.region ?_
      refine RL.opD (by decide) (opv_move rfl rfl) ?_
      refine RL.opD (by decide) (opv_move rfl rfl) ?_
      refine RL.opD (by decide) (opv_move rfl rfl) ?_
      refine RL.op _ (by decide) (opv_call (impl_areSides_ok _ _ _ _ _ g4 _ hx2) rfl rfl ⟨rfl, rfl, rfl, trivial⟩ Try.func255 rfl rfl) ?_
      rintro _ _ ⟨rfl, rfl⟩
      refine RL.opD (by decide) (opv_not rfl rfl) ?_
      refine RL.opD (by decide) (opv_move rfl rfl) ?_
      refine RL.no rfl rfl (Eq.trans c1 (by decide)) (by decide) ?_
      refine RL.no rfl rfl (Eq.trans c1 (by decide)) (by decide) ?_
      refine RL.no rfl rfl (Eq.trans c1 (by decide)) (by decide) ?_
      refine RL.opD (by decide) (opv_pick rfl rfl (fun _ => rfl) (fun e => absurd (Eq.trans (Eq.symm e) c1) (by decide)) rfl) ?_
      refine RL.opD (by decide) (opv_move rfl rfl) ?_
      refine RL.no rfl rfl (Eq.trans rfl (by decide)) (by decide) ?_
      refine RL.no rfl rfl (Eq.trans rfl (by decide)) (by decide) ?_
      refine RL.no rfl rfl (Eq.trans rfl (by decide)) (by decide) ?_
      refine RL.opD (by decide) (opv_pick rfl rfl (fun _ => rfl) (fun e => absurd (Eq.trans (Eq.symm e) rfl) (by decide)) rfl) ?_
      refine RL.nil ?_
      have ey1 := Option.some.inj hy1
      subst ey1
      refine onlyN ?_
      exact ⟨⟨rfl, rfl, rfl, rfl, rfl, rfl, rfl, rfl, trivial⟩, rfl⟩
    · rw [if_neg c1] at hy1
      have c1 := eq_false_of_ne_true c1
      obtain ⟨x3, hx3, hy1⟩ := Option.bind_eq_some_iff.1 hy1
      by_cases c2 : (!x3) = true
      · rw [if_pos c2] at hy1
        refine W.region ?_
        refine RL.opD (by decide) (opv_move rfl rfl) ?_
        refine RL.opD (by decide) (opv_move rfl rfl) ?_
        refine RL.opD (by decide) (opv_move rfl rfl) ?_
        refine RL.op _ (by decide) (opv_call (impl_areSides_ok _ _ _ _ _ g4 _ hx2) rfl rfl ⟨rfl, rfl, rfl, trivial⟩ Try.func255 rfl rfl) ?_
        rintro _ _ ⟨rfl, rfl⟩
        refine RL.opD (by decide) (opv_not rfl rfl) ?_
        refine RL.opD (by decide) (opv_move rfl rfl) ?_
        refine RL.yes _ rfl rfl c1 (by decide) (opv_move rfl rfl) ?_
        rintro _ _ ⟨rfl, rfl⟩
        refine RL.yes _ rfl rfl c1 (by decide) (opv_call (impl_isOrder_ok _ _ _ hx3) rfl rfl ⟨rfl, trivial⟩ Try.func256 rfl rfl) ?_
        rintro _ _ ⟨rfl, rfl⟩
        refine RL.yes _ rfl rfl c1 (by decide) (opv_not rfl rfl) ?_
        rintro _ _ ⟨rfl, rfl⟩
        refine RL.opD (by decide) (opv_pick rfl rfl (fun e => absurd (Eq.trans (Eq.symm e) c1) (by decide)) (fun _ => rfl) rfl) ?_
        refine RL.opD (by decide) (opv_move rfl rfl) ?_
        refine RL.no rfl rfl (Eq.trans c2 (by decide)) (by decide) ?_
        refine RL.no rfl rfl (Eq.trans c2 (by decide)) (by decide) ?_
        refine RL.no rfl rfl (Eq.trans c2 (by decide)) (by decide) ?_
        refine RL.opD (by decide) (opv_pick rfl rfl (fun _ => rfl) (fun e => absurd (Eq.trans (Eq.symm e) c2) (by decide)) rfl) ?_
        refine RL.nil ?_
        have ey1 := Option.some.inj hy1
        subst ey1
        refine onlyN ?_
        exact ⟨⟨rfl, rfl, rfl, rfl, rfl, rfl, rfl, rfl, trivial⟩, rfl⟩
      · rw [if_neg c2] at hy1
        have c2 := eq_false_of_ne_true c2
        obtain ⟨x4, hx4, hy1⟩ := Option.bind_eq_some_iff.1 hy1
        refine W.region ?_
        refine RL.opD (by decide) (opv_move rfl rfl) ?_
        refine RL.opD (by decide) (opv_move rfl rfl) ?_
        refine RL.opD (by decide) (opv_move rfl rfl) ?_
        refine RL.op _ (by decide) (opv_call (impl_areSides_ok _ _ _ _ _ g4 _ hx2) rfl rfl ⟨rfl, rfl, rfl, trivial⟩ Try.func255 rfl rfl) ?_
        rintro _ _ ⟨rfl, rfl⟩
        refine RL.opD (by decide) (opv_not rfl rfl) ?_
        refine RL.opD (by decide) (opv_move rfl rfl) ?_
        refine RL.yes _ rfl rfl c1 (by decide) (opv_move rfl rfl) ?_
        rintro _ _ ⟨rfl, rfl⟩
        refine RL.yes _ rfl rfl c1 (by decide) (opv_call (impl_isOrder_ok _ _ _ hx3) rfl rfl ⟨rfl, trivial⟩ Try.func256 rfl rfl) ?_
        rintro _ _ ⟨rfl, rfl⟩
        refine RL.yes _ rfl rfl c1 (by decide) (opv_not rfl rfl) ?_
        rintro _ _ ⟨rfl, rfl⟩
        refine RL.opD (by decide) (opv_pick rfl rfl (fun e => absurd (Eq.trans (Eq.symm e) c1) (by decide)) (fun _ => rfl) rfl) ?_
        refine RL.opD (by decide) (opv_move rfl rfl) ?_
        refine RL.yes _ rfl rfl c2 (by decide) (opv_move rfl rfl) ?_
        rintro _ _ ⟨rfl, rfl⟩
        refine RL.yes _ rfl rfl c2 (by decide) (opv_call (impl_isOrder_ok _ _ _ hx4) rfl rfl ⟨rfl, trivial⟩ Try.func256 rfl rfl) ?_
        rintro _ _ ⟨rfl, rfl⟩
        refine RL.yes _ rfl rfl c2 (by decide) (opv_not rfl rfl) ?_
        rintro _ _ ⟨rfl, rfl⟩
        refine RL.opD (by decide) (opv_pick rfl rfl (fun e => absurd (Eq.trans (Eq.symm e) c2) (by decide)) (fun _ => rfl) rfl) ?_
        refine RL.nil ?_
        have ey1 := Option.some.inj hy1
        subst ey1
        refine onlyN ?_
        exact ⟨⟨rfl, rfl, rfl, rfl, rfl, rfl, rfl, rfl, trivial⟩, rfl⟩
  rintro φ' _ ⟨hs1, rfl⟩
  refine thnN ?_
  refine W.sub hs1 ?_
  by_cases c3 : x1 = true
  · rw [if_pos c3] at hp
    refine W.condT rfl c3 ?_
    refine W.seq ?_
    refine W.region ?_
    refine RL.opD (by decide) (opv_assign rfl rfl) ?_
    refine RL.opD (by decide) (opv_assign rfl rfl) ?_
    refine RL.nil ?_
    refine thnN ?_
    refine W.ret ?_
    refine thnR ?_
    have er := Option.some.inj hp
    subst er
    exact Rt.two rfl rfl rfl ⟨(.float .f32 0), rfl, (isF_lit .f32 0 (by decide) (by decide)), rfl⟩
  · rw [if_neg c3] at hp
    have c3 := eq_false_of_ne_true c3
    refine W.condF rfl c3 ?_
    refine W.skip ?_
    refine thnN ?_
    refine W.seq ?_
    obtain ⟨x5, hx5, hp⟩ := Option.bind_eq_some_iff.1 hp
    refine W.region ?_
    refine RL.opD (by decide) (opv_move rfl rfl) ?_
    refine RL.opD (by decide) (opv_move rfl rfl) ?_
    refine RL.opD (by decide) (opv_move rfl rfl) ?_
    refine RL.opD (by decide) (opv_move rfl rfl) ?_
    refine RL.opD (by decide) (opv_move rfl rfl) ?_
    refine RL.op _ (by decide) (opv_call (impl_modeTurns_ok _ _ _ _ _ _ _ g4 _ hx5) rfl rfl ⟨rfl, rfl, rfl, rfl, rfl, trivial⟩ Try.func257 rfl rfl) ?_
    rintro v1 _ ⟨fv1, rfl⟩
    refine RL.opD (by decide) (opv_assign rfl rfl) ?_
    refine RL.opD (by decide) (opv_assign rfl rfl) ?_
    refine RL.nil ?_
    refine thnN ?_
    refine W.ret ?_
    have er := Option.some.inj hp
    subst er
    exact Rt.two rfl rfl rfl ⟨v1, rfl, fv1, rfl⟩

set_option maxRecDepth 20000 in
theorem laws_FnExactModeTurns_ok (h0 : Heap) (a0 : Int) (a1 : Int) (a2 : Int) (a3 : Int) (u4 : Value) (a4 : Option Nat) (g4 : IsF .f32 u4 a4) (r : Bool) (hp : laws_FnExactModeTurns a0 a1 a2 a3 a4 = some r) : CallsH Try.prog 23 ([(.int .i64 a0), (.int .i64 a1), (.int .i64 a2), (.int .i64 a3), u4].toArray ++ [].toArray) h0 (fun v h' => v = (.bool r) ∧ h0 = h') := by
  unfold laws_FnExactModeTurns at hp
  refine callsH_of_W (l := [(.int .i64 a0), (.int .i64 a1), (.int .i64 a2), (.int .i64 a3), u4]) (cap := []) 44 Try.func23 rfl rfl rfl ?_
  refine W.seq ?_
  refine W.region ?_
  refine RL.opD (by decide) (opv_assign rfl rfl) ?_
  refine RL.nil ?_
  refine thnN ?_
  refine W.seq ?_
  obtain ⟨x1, hx1, hp⟩ := Option.bind_eq_some_iff.1 hp
  refine W.region ?_
  refine RL.opD (by decide) (opv_move rfl rfl) ?_
  refine RL.opD (by decide) (opv_move rfl rfl) ?_
  refine RL.opD (by decide) (opv_move rfl rfl) ?_
  refine RL.opD (by decide) (opv_move rfl rfl) ?_
  refine RL.opD (by decide) (opv_move rfl rfl) ?_
  refine RL.op _ (by decide) (opv_call (spec_ModeTurns_ok _ _ _ _ _ _ _ g4 _ hx1) rfl rfl ⟨rfl, rfl, rfl, rfl, rfl, trivial⟩ Try.func124 rfl rfl) ?_
  rintro _ _ ⟨v1, rfl, fv1, rfl⟩
  refine RL.opD (by decide) (opv_move rfl rfl) ?_
  refine RL.opD (by decide) (opv_extract rfl rfl rfl) ?_
  refine RL.opD (by decide) (opv_extract rfl rfl rfl) ?_
  refine RL.opD (by decide) (opv_assign rfl rfl) ?_
  refine RL.opD (by decide) (opv_assign rfl rfl) ?_
  refine RL.nil ?_
  refine thnN ?_
  refine W.seq ?_
  obtain ⟨x2, hx2, hp⟩ := Option.bind_eq_some_iff.1 hp
  refine W.region ?_
  refine RL.opD (by decide) (opv_move rfl rfl) ?_
  refine RL.opD (by decide) (opv_move rfl rfl) ?_
  refine RL.opD (by decide) (opv_move rfl rfl) ?_
  refine RL.opD (by decide) (opv_move rfl rfl) ?_
  refine RL.opD (by decide) (opv_move rfl rfl) ?_
  refine RL.op _ (by decide) (opv_call (impl_ModeTurns_ok _ _ _ _ _ _ _ g4 _ hx2) rfl rfl ⟨rfl, rfl, rfl, rfl, rfl, trivial⟩ Try.func125 rfl rfl) ?_
  rintro _ _ ⟨v2, rfl, fv2, rfl⟩
  refine RL.opD (by decide) (opv_move rfl rfl) ?_
  refine RL.opD (by decide) (opv_extract rfl rfl rfl) ?_
  refine RL.opD (by decide) (opv_extract rfl rfl rfl) ?_
  refine RL.opD (by decide) (opv_assign rfl rfl) ?_
  refine RL.opD (by decide) (opv_assign rfl rfl) ?_
  refine RL.nil ?_
  refine thnN ?_
  refine W.seq ?_
  refine W.seq ?_
  obtain ⟨x3, hy1, hp⟩ := Option.bind_eq_some_iff.1 hp
  refine W.cut (fun φ' h' => Fr.sub [(0, (.int .i64 a0)), (1, (.int .i64 a1)), (2, (.int .i64 a2)), (3, (.int .i64 a3)), (4, u4), (10, (.bool false)), (11, v1), (12, (.bool x1.2)), (13, v2), (14, (.bool x2.2)), (43, (.bool x3))] φ' ∧ h0 = h') ?_ ?_
  · obtain ⟨x4, hx4, hy1⟩ := Option.bind_eq_some_iff.1 hy1
    by_cases c1 : (!x4) = true
    · rw [if_pos c1] at hy1
      refine W.region ?_
      refine RL.opD (by decide) (opv_move rfl rfl) ?_
      refine RL.opF (by decide) (opv_widen rfl (by rw [Try.underlying29]; rfl) Try.underlying66 rfl fv2) ?_
      intro v3 fv3
      refine RL.opD (by decide) (opv_move rfl rfl) ?_
      refine RL.opF (by decide) (opv_widen rfl (by rw [Try.underlying29]; rfl) Try.underlying66 rfl fv1) ?_
      intro v4 fv4
      refine RL.op _ (by decide) (opv_call (laws_sameFloat_ok _ _ _ fv3 _ _ fv4 _ hx4) rfl rfl ⟨rfl, rfl, trivial⟩ Try.func66 rfl rfl) ?_
      rintro _ _ ⟨rfl, rfl⟩
      refine RL.opD (by decide) (opv_not rfl rfl) ?_
      refine RL.opD (by decide) (opv_move rfl rfl) ?_
      refine RL.no rfl rfl (Eq.trans c1 (by decide)) (by decide) ?_
      refine RL.no rfl rfl (Eq.trans c1 (by decide)) (by decide) ?_
      refine RL.no rfl rfl (Eq.trans c1 (by decide)) (by decide) ?_
      refine RL.opD (by decide) (opv_pick rfl rfl (fun _ => rfl) (fun e => absurd (Eq.trans (Eq.symm e) c1) (by decide)) rfl) ?_
      refine RL.nil ?_
      have ey1 := Option.some.inj hy1
      subst ey1
      refine onlyN ?_
      exact ⟨⟨rfl, rfl, rfl, rfl, rfl, rfl, rfl, rfl, rfl, rfl, rfl, trivial⟩, rfl⟩
    · rw [if_neg c1] at hy1
      have c1 := eq_false_of_ne_true c1
      refine W.region ?_
      refine RL.opD (by decide) (opv_move rfl rfl) ?_
      refine RL.opF (by decide) (opv_widen rfl (by rw [Try.underlying29]; rfl) Try.underlying66 rfl fv2) ?_
      intro v3 fv3
      refine RL.opD (by decide) (opv_move rfl rfl) ?_
      refine RL.opF (by decide) (opv_widen rfl (by rw [Try.underlying29]; rfl) Try.underlying66 rfl fv1) ?_
      intro v4 fv4
      refine RL.op _ (by decide) (opv_call (laws_sameFloat_ok _ _ _ fv3 _ _ fv4 _ hx4) rfl rfl ⟨rfl, rfl, trivial⟩ Try.func66 rfl rfl) ?_
      rintro _ _ ⟨rfl, rfl⟩
      refine RL.opD (by decide) (opv_not rfl rfl) ?_
      refine RL.opD (by decide) (opv_move rfl rfl) ?_
      refine RL.yes _ rfl rfl c1 (by decide) (opv_move rfl rfl) ?_
      rintro _ _ ⟨rfl, rfl⟩
      refine RL.yes _ rfl rfl c1 (by decide) (opv_move rfl rfl) ?_
      rintro _ _ ⟨rfl, rfl⟩
      refine RL.yes _ rfl rfl c1 (by decide) (opv_bcmp rfl rfl Try.underlying4 rfl rfl) ?_
      rintro _ _ ⟨rfl, rfl⟩
      refine RL.opD (by decide) (opv_pick rfl rfl (fun e => absurd (Eq.trans (Eq.symm e) c1) (by decide)) (fun _ => rfl) rfl) ?_
      refine RL.nil ?_
      have ey1 := Option.some.inj hy1
      subst ey1
      refine onlyN ?_
      exact ⟨⟨rfl, rfl, rfl, rfl, rfl, rfl, rfl, rfl, rfl, rfl, rfl, trivial⟩, rfl⟩
  rintro φ' _ ⟨hs1, rfl⟩
  refine thnN ?_
  refine W.sub hs1 ?_
  by_cases c2 : x3 = true
  · rw [if_pos c2] at hp
    refine W.condT rfl c2 ?_
    refine W.seq ?_
    refine W.region ?_
    refine RL.opD (by decide) (opv_assign rfl rfl) ?_
    refine RL.nil ?_
    refine thnN ?_
    refine W.ret ?_
    refine thnR ?_
    have er := Option.some.inj hp
    subst er
    exact Rt.one rfl rfl ⟨rfl, rfl⟩
  · rw [if_neg c2] at hp
    have c2 := eq_false_of_ne_true c2
    refine W.condF rfl c2 ?_
    refine W.skip ?_
    refine thnN ?_
    refine W.seq ?_
    refine W.region ?_
    refine RL.opD (by decide) (opv_assign rfl rfl) ?_
    refine RL.nil ?_
    refine thnN ?_
    refine W.ret ?_
    have er := Option.some.inj hp
    subst er
    exact Rt.one rfl rfl ⟨rfl, rfl⟩

set_option maxRecDepth 20000 in
theorem spec_l08Travels_ok (h0 : Heap) (a0 : Int) (a1 : Int) (r : Bool) (hp : spec_l08Travels a0 a1 = some r) : CallsH Try.prog 258 ([(.int .i64 a0), (.int .i64 a1)].toArray ++ [].toArray) h0 (fun v h' => v = (.bool r) ∧ h0 = h') := by
  unfold spec_l08Travels at hp
  refine callsH_of_W (l := [(.int .i64 a0), (.int .i64 a1)]) (cap := []) 19 Try.func258 rfl rfl rfl ?_
  refine W.seq ?_
  refine W.region ?_
  refine RL.opD (by decide) (opv_assign rfl rfl) ?_
  refine RL.nil ?_
  refine thnN ?_
  refine W.seq ?_
  obtain ⟨x1, hy1, hp⟩ := Option.bind_eq_some_iff.1 hp
  refine W.cut (fun φ' h' => Fr.sub [(0, (.int .i64 a0)), (1, (.int .i64 a1)), (4, (.bool x1))] φ' ∧ h0 = h') ?_ ?_
  · obtain ⟨x2, hx2, hy1⟩ := Option.bind_eq_some_iff.1 hy1
    by_cases c1 : x2 = true
    · rw [if_pos c1] at hy1
      obtain ⟨x3, hx3, hy1⟩ := Option.bind_eq_some_iff.1 hy1
      by_cases c2 : x3 = true
      · rw [if_pos c2] at hy1
        by_cases c3 : (a0 != 0) = true
        · rw [if_pos c3] at hy1
          refine W.region ?_
          refine RL.opD (by decide) (opv_move rfl rfl) ?_
          refine RL.op _ (by decide) (opv_call (spec_l00In_ok _ _ _ _ _ hx2) rfl rfl ⟨rfl, rfl, rfl, trivial⟩ Try.func182 rfl rfl) ?_
          rintro _ _ ⟨rfl, rfl⟩
          refine RL.opD (by decide) (opv_move rfl rfl) ?_
          refine RL.yes _ rfl rfl c1 (by decide) (opv_move rfl rfl) ?_
          rintro _ _ ⟨rfl, rfl⟩
          refine RL.yes _ rfl rfl c1 (by decide) (opv_call (spec_l00In_ok _ _ _ _ _ hx3) rfl rfl ⟨rfl, rfl, rfl, trivial⟩ Try.func182 rfl rfl) ?_
          rintro _ _ ⟨rfl, rfl⟩
          refine RL.opD (by decide) (opv_pick rfl rfl (fun _ => rfl) (fun e => absurd (Eq.trans (Eq.symm e) c1) (by decide)) rfl) ?_
          refine RL.opD (by decide) (opv_move rfl rfl) ?_
          refine RL.yes _ rfl rfl c2 (by decide) (opv_move rfl rfl) ?_
          rintro _ _ ⟨rfl, rfl⟩
          refine RL.yes _ rfl rfl c2 (by decide) (opv_icmp rfl rfl rfl rfl) ?_
          rintro _ _ ⟨rfl, rfl⟩
          refine RL.yes _ rfl rfl c2 (by decide) (opv_move rfl rfl) ?_
          rintro _ _ ⟨rfl, rfl⟩
          refine RL.no rfl rfl (Eq.trans c3 (by decide)) (by decide) ?_
          refine RL.no rfl rfl (Eq.trans c3 (by decide)) (by decide) ?_
          refine RL.yes _ rfl rfl c2 (by decide) (opv_pick rfl rfl (fun _ => rfl) (fun e => absurd (Eq.trans (Eq.symm e) c3) (by decide)) rfl) ?_
          rintro _ _ ⟨rfl, rfl⟩
          refine RL.opD (by decide) (opv_pick rfl rfl (fun _ => rfl) (fun e => absurd (Eq.trans (Eq.symm e) c2) (by decide)) rfl) ?_
          refine RL.opD (by decide) (opv_assign rfl rfl) ?_
          refine RL.nil ?_
          have ey1 := Option.some.inj hy1
          subst ey1
          refine onlyN ?_
          exact ⟨⟨rfl, rfl, rfl, trivial⟩, rfl⟩
        · rw [if_neg c3] at hy1
          have c3 := eq_false_of_ne_true c3
          refine W.region ?_
          refine RL.opD (by decide) (opv_move rfl rfl) ?_
          refine RL.op _ (by decide) (opv_call (spec_l00In_ok _ _ _ _ _ hx2) rfl rfl ⟨rfl, rfl, rfl, trivial⟩ Try.func182 rfl rfl) ?_
          rintro _ _ ⟨rfl, rfl⟩
          refine RL.opD (by decide) (opv_move rfl rfl) ?_
          refine RL.yes _ rfl rfl c1 (by decide) (opv_move rfl rfl) ?_
          rintro _ _ ⟨rfl, rfl⟩
          refine RL.yes _ rfl rfl c1 (by decide) (opv_call (spec_l00In_ok _ _ _ _ _ hx3) rfl rfl ⟨rfl, rfl, rfl, trivial⟩ Try.func182 rfl rfl) ?_
          rintro _ _ ⟨rfl, rfl⟩
          refine RL.opD (by decide) (opv_pick rfl rfl (fun _ => rfl) (fun e => absurd (Eq.trans (Eq.symm e) c1) (by decide)) rfl) ?_
          refine RL.opD (by decide) (opv_move rfl rfl) ?_
          refine RL.yes _ rfl rfl c2 (by decide) (opv_move rfl rfl) ?_
          rintro _ _ ⟨rfl, rfl⟩
          refine RL.yes _ rfl rfl c2 (by decide) (opv_icmp rfl rfl rfl rfl) ?_
          rintro _ _ ⟨rfl, rfl⟩
          refine RL.yes _ rfl rfl c2 (by decide) (opv_move rfl rfl) ?_
          rintro _ _ ⟨rfl, rfl⟩
          refine RL.yes _ rfl rfl c3 (by decide) (opv_move rfl rfl) ?_
          rintro _ _ ⟨rfl, rfl⟩
          refine RL.yes _ rfl rfl c3 (by decide) (opv_icmp rfl rfl rfl rfl) ?_
          rintro _ _ ⟨rfl, rfl⟩
          refine RL.yes _ rfl rfl c2 (by decide) (opv_pick rfl rfl (fun e => absurd (Eq.trans (Eq.symm e) c3) (by decide)) (fun _ => rfl) rfl) ?_
          rintro _ _ ⟨rfl, rfl⟩
          refine RL.opD (by decide) (opv_pick rfl rfl (fun _ => rfl) (fun e => absurd (Eq.trans (Eq.symm e) c2) (by decide)) rfl) ?_
          refine RL.opD (by decide) (opv_assign rfl rfl) ?_
          refine RL.nil ?_
          have ey1 := Option.some.inj hy1
          subst ey1
          refine onlyN ?_
          exact ⟨⟨rfl, rfl, rfl, trivial⟩, rfl⟩
      · rw [if_neg c2] at hy1
        have c2 := eq_false_of_ne_true c2
        refine W.region ?_
        refine RL.opD (by decide) (opv_move rfl rfl) ?_
        refine RL.op _ (by decide) (opv_call (spec_l00In_ok _ _ _ _ _ hx2) rfl rfl ⟨rfl, rfl, rfl, trivial⟩ Try.func182 rfl rfl) ?_
        rintro _ _ ⟨rfl, rfl⟩
        refine RL.opD (by decide) (opv_move rfl rfl) ?_
        refine RL.yes _ rfl rfl c1 (by decide) (opv_move rfl rfl) ?_
        rintro _ _ ⟨rfl, rfl⟩
        refine RL.yes _ rfl rfl c1 (by decide) (opv_call (spec_l00In_ok _ _ _ _ _ hx3) rfl rfl ⟨rfl, rfl, rfl, trivial⟩ Try.func182 rfl rfl) ?_
        rintro _ _ ⟨rfl, rfl⟩
        refine RL.opD (by decide) (opv_pick rfl rfl (fun _ => rfl) (fun e => absurd (Eq.trans (Eq.symm e) c1) (by decide)) rfl) ?_
        refine RL.opD (by decide) (opv_move rfl rfl) ?_
        refine RL.no rfl rfl (Eq.trans c2 (by decide)) (by decide) ?_
        refine RL.no rfl rfl (Eq.trans c2 (by decide)) (by decide) ?_
        refine RL.no rfl rfl (Eq.trans c2 (by decide)) (by decide) ?_
        refine RL.noU rfl rfl (by decide) ?_
        refine RL.noU rfl rfl (by decide) ?_
        refine RL.no rfl rfl (Eq.trans c2 (by decide)) (by decide) ?_
        refine RL.opD (by decide) (opv_pick rfl rfl (fun e => absurd (Eq.trans (Eq.symm e) c2) (by decide)) (fun _ => rfl) rfl) ?_
        refine RL.opD (by decide) (opv_assign rfl rfl) ?_
        refine RL.nil ?_
        have ey1 := Option.some.inj hy1
        subst ey1
        refine onlyN ?_
        exact ⟨⟨rfl, rfl, rfl, trivial⟩, rfl⟩
    · rw [if_neg c1] at hy1
      have c1 := eq_false_of_ne_true c1
      refine W.region ?_
      refine RL.opD (by decide) (opv_move rfl rfl) ?_
      refine RL.op _ (by decide) (opv_call (spec_l00In_ok _ _ _ _ _ hx2) rfl rfl ⟨rfl, rfl, rfl, trivial⟩ Try.func182 rfl rfl) ?_
      rintro _ _ ⟨rfl, rfl⟩
      refine RL.opD (by decide) (opv_move rfl rfl) ?_
      refine RL.no rfl rfl (Eq.trans c1 (by decide)) (by decide) ?_
      refine RL.no rfl rfl (Eq.trans c1 (by decide)) (by decide) ?_
      refine RL.opD (by decide) (opv_pick rfl rfl (fun e => absurd (Eq.trans (Eq.symm e) c1) (by decide)) (fun _ => rfl) rfl) ?_
      refine RL.opD (by decide) (opv_move rfl rfl) ?_
      refine RL.no rfl rfl (Eq.trans rfl (by decide)) (by decide) ?_
      refine RL.no rfl rfl (Eq.trans rfl (by decide)) (by decide) ?_
      refine RL.no rfl rfl (Eq.trans rfl (by decide)) (by decide) ?_
      refine RL.noU rfl rfl (by decide) ?_
      refine RL.noU rfl rfl (by decide) ?_
      refine RL.no rfl rfl (Eq.trans rfl (by decide)) (by decide) ?_
      refine RL.opD (by decide) (opv_pick rfl rfl (fun e => absurd (Eq.trans (Eq.symm e) rfl) (by decide)) (fun _ => rfl) rfl) ?_
      refine RL.opD (by decide) (opv_assign rfl rfl) ?_
      refine RL.nil ?_
      have ey1 := Option.some.inj hy1
      subst ey1
      refine onlyN ?_
      exact ⟨⟨rfl, rfl, rfl, trivial⟩, rfl⟩
  rintro φ' _ ⟨hs1, rfl⟩
  refine thnN ?_
  refine W.sub hs1 ?_
  refine W.ret ?_
  have er := Option.some.inj hp
  subst er
  exact Rt.one rfl rfl ⟨rfl, rfl⟩

set_option maxRecDepth 20000 in
theorem spec_l08Travel_ok (h0 : Heap) (a0 : Int) (a1 : Int) (a2 : Int) (a3 : Int) (u4 : Value) (a4 : Option Nat) (g4 : IsF .f32 u4 a4) (r : Option Nat) (hp : spec_l08Travel a0 a1 a2 a3 a4 = some r) : CallsH Try.prog 259 ([(.int .i64 a0), (.int .i64 a1), (.int .i64 a2), (.int .i64 a3), u4].toArray ++ [].toArray) h0 (fun v h' => IsF .f32 v r ∧ h0 = h') := by
  unfold spec_l08Travel at hp
  refine callsH_of_W (l := [(.int .i64 a0), (.int .i64 a1), (.int .i64 a2), (.int .i64 a3), u4]) (cap := []) 23 Try.func259 rfl rfl rfl ?_
  refine W.seq ?_
  refine W.region ?_
  refine RL.opD (by decide) (opv_assign rfl rfl) ?_
  refine RL.nil ?_
  refine thnN ?_
  refine W.seq ?_
  obtain ⟨x1, hx1, hp⟩ := Option.bind_eq_some_iff.1 hp
  refine W.region ?_
  refine RL.opD (by decide) (opv_move rfl rfl) ?_
  refine RL.opD (by decide) (opv_move rfl rfl) ?_
  refine RL.opD (by decide) (opv_mul rfl rfl rfl) ?_
  refine RL.op _ (by decide) (opv_call (spec_l08Share_ok _ _ _ _ hx1) rfl rfl ⟨rfl, rfl, trivial⟩ Try.func317 rfl rfl) ?_
  rintro v1 _ ⟨fv1, rfl⟩
  refine RL.opD (by decide) (opv_assign rfl rfl) ?_
  refine RL.nil ?_
  refine thnN ?_
  refine W.seq ?_
  obtain ⟨x2, hx2, hp⟩ := Option.bind_eq_some_iff.1 hp
  obtain ⟨x3, hx3, hp⟩ := Option.bind_eq_some_iff.1 hp
  refine W.region ?_
  refine RL.opD (by decide) (opv_move rfl rfl) ?_
  refine RL.opD (by decide) (opv_move rfl rfl) ?_
  refine RL.opD (by decide) (opv_move rfl rfl) ?_
  refine RL.opD (by decide) (opv_mul rfl rfl rfl) ?_
  refine RL.op _ (by decide) (opv_call (spec_l08Share_ok _ _ _ _ hx2) rfl rfl ⟨rfl, rfl, trivial⟩ Try.func317 rfl rfl) ?_
  rintro v2 _ ⟨fv2, rfl⟩
  refine RL.opD (by decide) (opv_move rfl rfl) ?_
  refine RL.op _ (by decide) (opv_call (spec_l08Swing_ok _ _ _ fv1 _ _ fv2 _ _ g4 _ hx3) rfl rfl ⟨rfl, rfl, rfl, trivial⟩ Try.func318 rfl rfl) ?_
  rintro v3 _ ⟨fv3, rfl⟩
  refine RL.opD (by decide) (opv_assign rfl rfl) ?_
  refine RL.nil ?_
  refine thnN ?_
  refine W.ret ?_
  have er := Option.some.inj hp
  subst er
  exact Rt.one rfl rfl ⟨fv3, rfl⟩

set_option maxRecDepth 20000 in
theorem spec_TravelTurns_ok (h0 : Heap) (a0 : Int) (a1 : Int) (a2 : Int) (a3 : Int) (u4 : Value) (a4 : Option Nat) (g4 : IsF .f32 u4 a4) (r : ((Option Nat) × Bool)) (hp : spec_TravelTurns a0 a1 a2 a3 a4 = some r) : CallsH Try.prog 126 ([(.int .i64 a0), (.int .i64 a1), (.int .i64 a2), (.int .i64 a3), u4].toArray ++ [].toArray) h0 (fun v h' => ∃ u0, v = .tuple [u0, (.bool r.2)].toArray ∧ IsF .f32 u0 r.1 ∧ h0 = h') := by
  unfold spec_TravelTurns at hp
  refine callsH_of_W (l := [(.int .i64 a0), (.int .i64 a1), (.int .i64 a2), (.int .i64 a3), u4]) (cap := []) 37 Try.func126 rfl rfl rfl ?_
  refine W.seq ?_
  refine W.region ?_
  refine RL.opD (by decide) (opv_assign rfl rfl) ?_
  refine RL.opD (by decide) (opv_assign rfl rfl) ?_
  refine RL.nil ?_
  refine thnN ?_
  refine W.seq ?_
  refine W.seq ?_
  obtain ⟨x1, hy1, hp⟩ := Option.bind_eq_some_iff.1 hp
  refine W.cut (fun φ' h' => Fr.sub [(0, (.int .i64 a0)), (1, (.int .i64 a1)), (2, (.int .i64 a2)), (3, (.int .i64 a3)), (4, u4), (10, (.float .f32 0)), (11, (.bool false)), (30, (.bool x1))] φ' ∧ h0 = h') ?_ ?_
  · obtain ⟨x2, hx2, hy1⟩ := Option.bind_eq_some_iff.1 hy1
    by_cases c1 : (!x2) = true
    · rw [if_pos c1] at hy1
      refine W.region ?_
      refine RL.opD (by decide) (opv_move rfl rfl) ?_
      refine RL.op _ (by decide) (opv_call (spec_l08Side_ok _ _ _ hx2) rfl rfl ⟨rfl, trivial⟩ Try.func251 rfl rfl) ?_
      rintro _ _ ⟨rfl, rfl⟩
      refine RL.opD (by decide) (opv_not rfl rfl) ?_
      refine RL.opD (by decide) (opv_move rfl rfl) ?_
      refine RL.no rfl rfl (Eq.trans c1 (by decide)) (by decide) ?_
      refine RL.no rfl rfl (Eq.trans c1 (by decide)) (by decide) ?_
      refine RL.no rfl rfl (Eq.trans c1 (by decide)) (by decide) ?_
      refine RL.opD (by decide) (opv_pick rfl rfl (fun _ => rfl) (fun e => absurd (Eq.trans (Eq.symm e) c1) (by decide)) rfl) ?_
      refine RL.opD (by decide) (opv_move rfl rfl) ?_
      refine RL.no rfl rfl (Eq.trans rfl (by decide)) (by decide) ?_
      refine RL.no rfl rfl (Eq.trans rfl (by decide)) (by decide) ?_
      refine RL.no rfl rfl (Eq.trans rfl (by decide)) (by decide) ?_
      refine RL.no rfl rfl (Eq.trans rfl (by decide)) (by decide) ?_
      refine RL.opD (by decide) (opv_pick rfl rfl (fun _ => rfl) (fun e => absurd (Eq.trans (Eq.symm e) rfl) (by decide)) rfl) ?_
      refine RL.opD (by decide) (opv_move rfl rfl) ?_
      refine RL.no rfl rfl (Eq.trans rfl (by decide)) (by decide) ?_
      refine RL.no rfl rfl (Eq.trans rfl (by decide)) (by decide) ?_
      refine RL.no rfl rfl (Eq.trans rfl (by decide)) (by decide) ?_
      refine RL.opD (by decide) (opv_pick rfl rfl (fun _ => rfl) (fun e => absurd (Eq.trans (Eq.symm e) rfl) (by decide)) rfl) ?_
      refine RL.nil ?_
      have ey1 := Option.some.inj hy1
      subst ey1
      refine onlyN ?_
      exact ⟨⟨rfl, rfl, rfl, rfl, rfl, rfl, rfl, rfl, trivial⟩, rfl⟩
    · rw [if_neg c1] at hy1
      have c1 := eq_false_of_ne_true c1
      obtain ⟨x3, hx3, hy1⟩ := Option.bind_eq_some_iff.1 hy1
      by_cases c2 : (!x3) = true
      · rw [if_pos c2] at hy1
        refine W.region ?_
        refine RL.opD (by decide) (opv_move rfl rfl) ?_
        refine RL.op _ (by decide) (opv_call (spec_l08Side_ok _ _ _ hx2) rfl rfl ⟨rfl, trivial⟩ Try.func251 rfl rfl) ?_
        rintro _ _ ⟨rfl, rfl⟩
        refine RL.opD (by decide) (opv_not rfl rfl) ?_
        refine RL.opD (by decide) (opv_move rfl rfl) ?_
        refine RL.yes _ rfl rfl c1 (by decide) (opv_move rfl rfl) ?_
        rintro _ _ ⟨rfl, rfl⟩
        refine RL.yes _ rfl rfl c1 (by decide) (opv_call (spec_l08Side_ok _ _ _ hx3) rfl rfl ⟨rfl, trivial⟩ Try.func251 rfl rfl) ?_
        rintro _ _ ⟨rfl, rfl⟩
        refine RL.yes _ rfl rfl c1 (by decide) (opv_not rfl rfl) ?_
        rintro _ _ ⟨rfl, rfl⟩
        refine RL.opD (by decide) (opv_pick rfl rfl (fun e => absurd (Eq.trans (Eq.symm e) c1) (by decide)) (fun _ => rfl) rfl) ?_
        refine RL.opD (by decide) (opv_move rfl rfl) ?_
        refine RL.no rfl rfl (Eq.trans c2 (by decide)) (by decide) ?_
        refine RL.no rfl rfl (Eq.trans c2 (by decide)) (by decide) ?_
        refine RL.no rfl rfl (Eq.trans c2 (by decide)) (by decide) ?_
        refine RL.no rfl rfl (Eq.trans c2 (by decide)) (by decide) ?_
        refine RL.opD (by decide) (opv_pick rfl rfl (fun _ => rfl) (fun e => absurd (Eq.trans (Eq.symm e) c2) (by decide)) rfl) ?_
        refine RL.opD (by decide) (opv_move rfl rfl) ?_
        refine RL.no rfl rfl (Eq.trans rfl (by decide)) (by decide) ?_
        refine RL.no rfl rfl (Eq.trans rfl (by decide)) (by decide) ?_
        refine RL.no rfl rfl (Eq.trans rfl (by decide)) (by decide) ?_
        refine RL.opD (by decide) (opv_pick rfl rfl (fun _ => rfl) (fun e => absurd (Eq.trans (Eq.symm e) rfl) (by decide)) rfl) ?_
        refine RL.nil ?_
        have ey1 := Option.some.inj hy1
        subst ey1
        refine onlyN ?_
        exact ⟨⟨rfl, rfl, rfl, rfl, rfl, rfl, rfl, rfl, trivial⟩, rfl⟩
      · rw [if_neg c2] at hy1
        have c2 := eq_false_of_ne_true c2
        obtain ⟨x4, hx4, hy1⟩ := Option.bind_eq_some_iff.1 hy1
        by_cases c3 : (!x4) = true
        · rw [if_pos c3] at hy1
          refine W.region ?_
          refine RL.opD (by decide) (opv_move rfl rfl) ?_
          refine RL.op _ (by decide) (opv_call (spec_l08Side_ok _ _ _ hx2) rfl rfl ⟨rfl, trivial⟩ Try.func251 rfl rfl) ?_
          rintro _ _ ⟨rfl, rfl⟩
          refine RL.opD (by decide) (opv_not rfl rfl) ?_
          refine RL.opD (by decide) (opv_move rfl rfl) ?_
          refine RL.yes _ rfl rfl c1 (by decide) (opv_move rfl rfl) ?_
          rintro _ _ ⟨rfl, rfl⟩
          refine RL.yes _ rfl rfl c1 (by decide) (opv_call (spec_l08Side_ok _ _ _ hx3) rfl rfl ⟨rfl, trivial⟩ Try.func251 rfl rfl) ?_
          rintro _ _ ⟨rfl, rfl⟩
          refine RL.yes _ rfl rfl c1 (by decide) (opv_not rfl rfl) ?_
          rintro _ _ ⟨rfl, rfl⟩
          refine RL.opD (by decide) (opv_pick rfl rfl (fun e => absurd (Eq.trans (Eq.symm e) c1) (by decide)) (fun _ => rfl) rfl) ?_
          refine RL.opD (by decide) (opv_move rfl rfl) ?_
          refine RL.yes _ rfl rfl c2 (by decide) (opv_move rfl rfl) ?_
          rintro _ _ ⟨rfl, rfl⟩
          refine RL.yes _ rfl rfl c2 (by decide) (opv_move rfl rfl) ?_
          rintro _ _ ⟨rfl, rfl⟩
          refine RL.yes _ rfl rfl c2 (by decide) (opv_call (spec_l08Travels_ok _ _ _ _ hx4) rfl rfl ⟨rfl, rfl, trivial⟩ Try.func258 rfl rfl) ?_
          rintro _ _ ⟨rfl, rfl⟩
          refine RL.yes _ rfl rfl c2 (by decide) (opv_not rfl rfl) ?_
          rintro _ _ ⟨rfl, rfl⟩
          refine RL.opD (by decide) (opv_pick rfl rfl (fun e => absurd (Eq.trans (Eq.symm e) c2) (by decide)) (fun _ => rfl) rfl) ?_
          refine RL.opD (by decide) (opv_move rfl rfl) ?_
          refine RL.no rfl rfl (Eq.trans c3 (by decide)) (by decide) ?_
          refine RL.no rfl rfl (Eq.trans c3 (by decide)) (by decide) ?_
          refine RL.no rfl rfl (Eq.trans c3 (by decide)) (by decide) ?_
          refine RL.opD (by decide) (opv_pick rfl rfl (fun _ => rfl) (fun e => absurd (Eq.trans (Eq.symm e) c3) (by decide)) rfl) ?_
          refine RL.nil ?_
          have ey1 := Option.some.inj hy1
          subst ey1
          refine onlyN ?_
          exact ⟨⟨rfl, rfl, rfl, rfl, rfl, rfl, rfl, rfl, trivial⟩, rfl⟩
        · rw [if_neg c3] at hy1
          have c3 := eq_false_of_ne_true c3
          obtain ⟨x5, hx5, hy1⟩ := Option.bind_eq_some_iff.1 hy1
          refine W.region ?_
          refine RL.opD (by decide) (opv_move rfl rfl) ?_
          refine RL.op _ (by decide) (opv_call (spec_l08Side_ok _ _ _ hx2) rfl rfl ⟨rfl, trivial⟩ Try.func251 rfl rfl) ?_
          rintro _ _ ⟨rfl, rfl⟩
          refine RL.opD (by decide) (opv_not rfl rfl) ?_
          refine RL.opD (by decide) (opv_move rfl rfl) ?_
          refine RL.yes _ rfl rfl c1 (by decide) (opv_move rfl rfl) ?_
          rintro _ _ ⟨rfl, rfl⟩
          refine RL.yes _ rfl rfl c1 (by decide) (opv_call (spec_l08Side_ok _ _ _ hx3) rfl rfl ⟨rfl, trivial⟩ Try.func251 rfl rfl) ?_
          rintro _ _ ⟨rfl, rfl⟩
          refine RL.yes _ rfl rfl c1 (by decide) (opv_not rfl rfl) ?_
          rintro _ _ ⟨rfl, rfl⟩
          refine RL.opD (by decide) (opv_pick rfl rfl (fun e => absurd (Eq.trans (Eq.symm e) c1) (by decide)) (fun _ => rfl) rfl) ?_
          refine RL.opD (by decide) (opv_move rfl rfl) ?_
          refine RL.yes _ rfl rfl c2 (by decide) (opv_move rfl rfl) ?_
          rintro _ _ ⟨rfl, rfl⟩
          refine RL.yes _ rfl rfl c2 (by decide) (opv_move rfl rfl) ?_
          rintro _ _ ⟨rfl, rfl⟩
          refine RL.yes _ rfl rfl c2 (by decide) (opv_call (spec_l08Travels_ok _ _ _ _ hx4) rfl rfl ⟨rfl, rfl, trivial⟩ Try.func258 rfl rfl) ?_
          rintro _ _ ⟨rfl, rfl⟩
          refine RL.yes _ rfl rfl c2 (by decide) (opv_not rfl rfl) ?_
          rintro _ _ ⟨rfl, rfl⟩
          refine RL.opD (by decide) (opv_pick rfl rfl (fun e => absurd (Eq.trans (Eq.symm e) c2) (by decide)) (fun _ => rfl) rfl) ?_
          refine RL.opD (by decide) (opv_move rfl rfl) ?_
          refine RL.yes _ rfl rfl c3 (by decide) (opv_move rfl rfl) ?_
          rintro _ _ ⟨rfl, rfl⟩
          refine RL.yes _ rfl rfl c3 (by decide) (opv_call (spec_l08Speed_ok _ _ _ g4 _ hx5) rfl rfl ⟨rfl, trivial⟩ Try.func253 rfl rfl) ?_
          rintro _ _ ⟨rfl, rfl⟩
          refine RL.yes _ rfl rfl c3 (by decide) (opv_not rfl rfl) ?_
          rintro _ _ ⟨rfl, rfl⟩
          refine RL.opD (by decide) (opv_pick rfl rfl (fun e => absurd (Eq.trans (Eq.symm e) c3) (by decide)) (fun _ => rfl) rfl) ?_
          refine RL.nil ?_
          have ey1 := Option.some.inj hy1
          subst ey1
          refine onlyN ?_
          exact ⟨⟨rfl, rfl, rfl, rfl, rfl, rfl, rfl, rfl, trivial⟩, rfl⟩
  rintro φ' _ ⟨hs1, rfl⟩
  refine thnN ?_
  refine W.sub hs1 ?_
  by_cases c4 : x1 = true
  · rw [if_pos c4] at hp
    refine W.condT rfl c4 ?_
    refine W.seq ?_
    refine W.region ?_
    refine RL.opD (by decide) (opv_assign rfl rfl) ?_
    refine RL.opD (by decide) (opv_assign rfl rfl) ?_
    refine RL.nil ?_
    refine thnN ?_
    refine W.ret ?_
    refine thnR ?_
    have er := Option.some.inj hp
    subst er
    exact Rt.two rfl rfl rfl ⟨(.float .f32 0), rfl, (isF_lit .f32 0 (by decide) (by decide)), rfl⟩
  · rw [if_neg c4] at hp
    have c4 := eq_false_of_ne_true c4
    refine W.condF rfl c4 ?_
    refine W.skip ?_
    refine thnN ?_
    refine W.seq ?_
    obtain ⟨x6, hx6, hp⟩ := Option.bind_eq_some_iff.1 hp
    refine W.region ?_
    refine RL.opD (by decide) (opv_move rfl rfl) ?_
    refine RL.opD (by decide) (opv_move rfl rfl) ?_
    refine RL.opD (by decide) (opv_move rfl rfl) ?_
    refine RL.opD (by decide) (opv_move rfl rfl) ?_
    refine RL.opD (by decide) (opv_move rfl rfl) ?_
    refine RL.op _ (by decide) (opv_call (spec_l08Travel_ok _ _ _ _ _ _ _ g4 _ hx6) rfl rfl ⟨rfl, rfl, rfl, rfl, rfl, trivial⟩ Try.func259 rfl rfl) ?_
    rintro v1 _ ⟨fv1, rfl⟩
    refine RL.opD (by decide) (opv_assign rfl rfl) ?_
    refine RL.opD (by decide) (opv_assign rfl rfl) ?_
    refine RL.nil ?_
    refine thnN ?_
    refine W.ret ?_
    have er := Option.some.inj hp
    subst er
    exact Rt.two rfl rfl rfl ⟨v1, rfl, fv1, rfl⟩

set_option maxRecDepth 20000 in
theorem impl_areOrders_ok (h0 : Heap) (a0 : Int) (a1 : Int) (r : Bool) (hp : impl_areOrders a0 a1 = some r) : CallsH Try.prog 260 ([(.int .i64 a0), (.int .i64 a1)].toArray ++ [].toArray) h0 (fun v h' => v = (.bool r) ∧ h0 = h') := by
  unfold impl_areOrders at hp
  refine callsH_of_W (l := [(.int .i64 a0), (.int .i64 a1)]) (cap := []) 19 Try.func260 rfl rfl rfl ?_
  refine W.seq ?_
  refine W.region ?_
  refine RL.opD (by decide) (opv_assign rfl rfl) ?_
  refine RL.nil ?_
  refine thnN ?_
  refine W.seq ?_
  obtain ⟨x1, hy1, hp⟩ := Option.bind_eq_some_iff.1 hp
  refine W.cut (fun φ' h' => Fr.sub [(0, (.int .i64 a0)), (1, (.int .i64 a1)), (4, (.bool x1))] φ' ∧ h0 = h') ?_ ?_
  · obtain ⟨x2, hx2, hy1⟩ := Option.bind_eq_some_iff.1 hy1
    by_cases c1 : x2 = true
    · rw [if_pos c1] at hy1
      obtain ⟨x3, hx3, hy1⟩ := Option.bind_eq_some_iff.1 hy1
      by_cases c2 : x3 = true
      · rw [if_pos c2] at hy1
        by_cases c3 : (a0 != 0) = true
        · rw [if_pos c3] at hy1
          refine W.region ?_
          refine RL.opD (by decide) (opv_move rfl rfl) ?_
          refine RL.op _ (by decide) (opv_call (impl_within_ok _ _ _ _ _ hx2) rfl rfl ⟨rfl, rfl, rfl, trivial⟩ Try.func165 rfl rfl) ?_
          rintro _ _ ⟨rfl, rfl⟩
          refine RL.opD (by decide) (opv_move rfl rfl) ?_
          refine RL.yes _ rfl rfl c1 (by decide) (opv_move rfl rfl) ?_
          rintro _ _ ⟨rfl, rfl⟩
          refine RL.yes _ rfl rfl c1 (by decide) (opv_call (impl_within_ok _ _ _ _ _ hx3) rfl rfl ⟨rfl, rfl, rfl, trivial⟩ Try.func165 rfl rfl) ?_
          rintro _ _ ⟨rfl, rfl⟩
          refine RL.opD (by decide) (opv_pick rfl rfl (fun _ => rfl) (fun e => absurd (Eq.trans (Eq.symm e) c1) (by decide)) rfl) ?_
          refine RL.opD (by decide) (opv_move rfl rfl) ?_
          refine RL.yes _ rfl rfl c2 (by decide) (opv_move rfl rfl) ?_
          rintro _ _ ⟨rfl, rfl⟩
          refine RL.yes _ rfl rfl c2 (by decide) (opv_icmp rfl rfl rfl rfl) ?_
          rintro _ _ ⟨rfl, rfl⟩
          refine RL.yes _ rfl rfl c2 (by decide) (opv_move rfl rfl) ?_
          rintro _ _ ⟨rfl, rfl⟩
          refine RL.no rfl rfl (Eq.trans c3 (by decide)) (by decide) ?_
          refine RL.no rfl rfl (Eq.trans c3 (by decide)) (by decide) ?_
          refine RL.yes _ rfl rfl c2 (by decide) (opv_pick rfl rfl (fun _ => rfl) (fun e => absurd (Eq.trans (Eq.symm e) c3) (by decide)) rfl) ?_
          rintro _ _ ⟨rfl, rfl⟩
          refine RL.opD (by decide) (opv_pick rfl rfl (fun _ => rfl) (fun e => absurd (Eq.trans (Eq.symm e) c2) (by decide)) rfl) ?_
          refine RL.opD (by decide) (opv_assign rfl rfl) ?_
          refine RL.nil ?_
          have ey1 := Option.some.inj hy1
          subst ey1
          refine onlyN ?_
          exact ⟨⟨rfl, rfl, rfl, trivial⟩, rfl⟩
        · rw [if_neg c3] at hy1
          have c3 := eq_false_of_ne_true c3
          refine W.region ?_
          refine RL.opD (by decide) (opv_move rfl rfl) ?_
          refine RL.op _ (by decide) (opv_call (impl_within_ok _ _ _ _ _ hx2) rfl rfl ⟨rfl, rfl, rfl, trivial⟩ Try.func165 rfl rfl) ?_
          rintro _ _ ⟨rfl, rfl⟩
          refine RL.opD (by decide) (opv_move rfl rfl) ?_
          refine RL.yes _ rfl rfl c1 (by decide) (opv_move rfl rfl) ?_
          rintro _ _ ⟨rfl, rfl⟩
          refine RL.yes _ rfl rfl c1 (by decide) (opv_call (impl_within_ok _ _ _ _ _ hx3) rfl rfl ⟨rfl, rfl, rfl, trivial⟩ Try.func165 rfl rfl) ?_
          rintro _ _ ⟨rfl, rfl⟩
          refine RL.opD (by decide) (opv_pick rfl rfl (fun _ => rfl) (fun e => absurd (Eq.trans (Eq.symm e) c1) (by decide)) rfl) ?_
          refine RL.opD (by decide) (opv_move rfl rfl) ?_
          refine RL.yes _ rfl rfl c2 (by decide) (opv_move rfl rfl) ?_
          rintro _ _ ⟨rfl, rfl⟩
          refine RL.yes _ rfl rfl c2 (by decide) (opv_icmp rfl rfl rfl rfl) ?_
          rintro _ _ ⟨rfl, rfl⟩
          refine RL.yes _ rfl rfl c2 (by decide) (opv_move rfl rfl) ?_
          rintro _ _ ⟨rfl, rfl⟩
          refine RL.yes _ rfl rfl c3 (by decide) (opv_move rfl rfl) ?_
          rintro _ _ ⟨rfl, rfl⟩
          refine RL.yes _ rfl rfl c3 (by decide) (opv_icmp rfl rfl rfl rfl) ?_
          rintro _ _ ⟨rfl, rfl⟩
          refine RL.yes _ rfl rfl c2 (by decide) (opv_pick rfl rfl (fun e => absurd (Eq.trans (Eq.symm e) c3) (by decide)) (fun _ => rfl) rfl) ?_
          rintro _ _ ⟨rfl, rfl⟩
          refine RL.opD (by decide) (opv_pick rfl rfl (fun _ => rfl) (fun e => absurd (Eq.trans (Eq.symm e) c2) (by decide)) rfl) ?_
          refine RL.opD (by decide) (opv_assign rfl rfl) ?_
          refine RL.nil ?_
          have ey1 := Option.some.inj hy1
          subst ey1
          refine onlyN ?_
          exact ⟨⟨rfl, rfl, rfl, trivial⟩, rfl⟩
      · rw [if_neg c2] at hy1
        have c2 := eq_false_of_ne_true c2
        refine W.region ?_
        refine RL.opD (by decide) (opv_move rfl rfl) ?_
        refine RL.op _ (by decide) (opv_call (impl_within_ok _ _ _ _ _ hx2) rfl rfl ⟨rfl, rfl, rfl, trivial⟩ Try.func165 rfl rfl) ?_
        rintro _ _ ⟨rfl, rfl⟩
        refine RL.opD (by decide) (opv_move rfl rfl) ?_
        refine RL.yes _ rfl rfl c1 (by decide) (opv_move rfl rfl) ?_
        rintro _ _ ⟨rfl, rfl⟩
        refine RL.yes _ rfl rfl c1 (by decide) (opv_call (impl_within_ok _ _ _ _ _ hx3) rfl rfl ⟨rfl, rfl, rfl, trivial⟩ Try.func165 rfl rfl) ?_
        rintro _ _ ⟨rfl, rfl⟩
        refine RL.opD (by decide) (opv_pick rfl rfl (fun _ => rfl) (fun e => absurd (Eq.trans (Eq.symm e) c1) (by decide)) rfl) ?_
        refine RL.opD (by decide) (opv_move rfl rfl) ?_
        refine RL.no rfl rfl (Eq.trans c2 (by decide)) (by decide) ?_
        refine RL.no rfl rfl (Eq.trans c2 (by decide)) (by decide) ?_
        refine RL.no rfl rfl (Eq.trans c2 (by decide)) (by decide) ?_
        refine RL.noU rfl rfl (by decide) ?_
        refine RL.noU rfl rfl (by decide) ?_
        refine RL.no rfl rfl (Eq.trans c2 (by decide)) (by decide) ?_
        refine RL.opD (by decide) (opv_pick rfl rfl (fun e => absurd (Eq.trans (Eq.symm e) c2) (by decide)) (fun _ => rfl) rfl) ?_
        refine RL.opD (by decide) (opv_assign rfl rfl) ?_
        refine RL.nil ?_
        have ey1 := Option.some.inj hy1
        subst ey1
        refine onlyN ?_
        exact ⟨⟨rfl, rfl, rfl, trivial⟩, rfl⟩
    · rw [if_neg c1] at hy1
      have c1 := eq_false_of_ne_true c1
      refine W.region ?_
      refine RL.opD (by decide) (opv_move rfl rfl) ?_
      refine RL.op _ (by decide) (opv_call (impl_within_ok _ _ _ _ _ hx2) rfl rfl ⟨rfl, rfl, rfl, trivial⟩ Try.func165 rfl rfl) ?_
      rintro _ _ ⟨rfl, rfl⟩
      refine RL.opD (by decide) (opv_move rfl rfl) ?_
      refine RL.no rfl rfl (Eq.trans c1 (by decide)) (by decide) ?_
      refine RL.no rfl rfl (Eq.trans c1 (by decide)) (by decide) ?_
      refine RL.opD (by decide) (opv_pick rfl rfl (fun e => absurd (Eq.trans (Eq.symm e) c1) (by decide)) (fun _ => rfl) rfl) ?_
      refine RL.opD (by decide) (opv_move rfl rfl) ?_
      refine RL.no rfl rfl (Eq.trans rfl (by decide)) (by decide) ?_
      refine RL.no rfl rfl (Eq.trans rfl (by decide)) (by decide) ?_
      refine RL.no rfl rfl (Eq.trans rfl (by decide)) (by decide) ?_
      refine RL.noU rfl rfl (by decide) ?_
      refine RL.noU rfl rfl (by decide) ?_
      refine RL.no rfl rfl (Eq.trans rfl (by decide)) (by decide) ?_
      refine RL.opD (by decide) (opv_pick rfl rfl (fun e => absurd (Eq.trans (Eq.symm e) rfl) (by decide)) (fun _ => rfl) rfl) ?_
      refine RL.opD (by decide) (opv_assign rfl rfl) ?_
      refine RL.nil ?_
      have ey1 := Option.some.inj hy1
      subst ey1
      refine onlyN ?_
      exact ⟨⟨rfl, rfl, rfl, trivial⟩, rfl⟩
  rintro φ' _ ⟨hs1, rfl⟩
  refine thnN ?_
  refine W.sub hs1 ?_
  refine W.ret ?_
  have er := Option.some.inj hp
  subst er
  exact Rt.one rfl rfl ⟨rfl, rfl⟩

set_option maxRecDepth 20000 in
theorem impl_travelTurns_ok (h0 : Heap) (a0 : Int) (a1 : Int) (a2 : Int) (a3 : Int) (u4 : Value) (a4 : Option Nat) (g4 : IsF .f32 u4 a4) (r : Option Nat) (hp : impl_travelTurns a0 a1 a2 a3 a4 = some r) : CallsH Try.prog 261 ([(.int .i64 a0), (.int .i64 a1), (.int .i64 a2), (.int .i64 a3), u4].toArray ++ [].toArray) h0 (fun v h' => IsF .f32 v r ∧ h0 = h') := by
  unfold impl_travelTurns at hp
  refine callsH_of_W (l := [(.int .i64 a0), (.int .i64 a1), (.int .i64 a2), (.int .i64 a3), u4]) (cap := []) 21 Try.func261 rfl rfl rfl ?_
  refine W.seq ?_
  refine W.region ?_
  refine RL.opD (by decide) (opv_assign rfl rfl) ?_
  refine RL.nil ?_
  refine thnN ?_
  refine W.seq ?_
  obtain ⟨x1, hx1, hp⟩ := Option.bind_eq_some_iff.1 hp
  obtain ⟨x2, hx2, hp⟩ := Option.bind_eq_some_iff.1 hp
  obtain ⟨x3, hx3, hp⟩ := Option.bind_eq_some_iff.1 hp
  refine W.region ?_
  refine RL.opD (by decide) (opv_move rfl rfl) ?_
  refine RL.opD (by decide) (opv_move rfl rfl) ?_
  refine RL.opD (by decide) (opv_mul rfl rfl rfl) ?_
  refine RL.op _ (by decide) (opv_call (impl_quotient_ok _ _ _ _ hx1) rfl rfl ⟨rfl, rfl, trivial⟩ Try.func306 rfl rfl) ?_
  rintro v1 _ ⟨fv1, rfl⟩
  refine RL.opD (by decide) (opv_move rfl rfl) ?_
  refine RL.opD (by decide) (opv_move rfl rfl) ?_
  refine RL.opD (by decide) (opv_mul rfl rfl rfl) ?_
  refine RL.op _ (by decide) (opv_call (impl_quotient_ok _ _ _ _ hx2) rfl rfl ⟨rfl, rfl, trivial⟩ Try.func306 rfl rfl) ?_
  rintro v2 _ ⟨fv2, rfl⟩
  refine RL.opD (by decide) (opv_move rfl rfl) ?_
  refine RL.op _ (by decide) (opv_call (impl_turnsBy_ok _ _ _ fv1 _ _ fv2 _ _ g4 _ hx3) rfl rfl ⟨rfl, rfl, rfl, trivial⟩ Try.func319 rfl rfl) ?_
  rintro v3 _ ⟨fv3, rfl⟩
  refine RL.opD (by decide) (opv_assign rfl rfl) ?_
  refine RL.nil ?_
  refine thnN ?_
  refine W.ret ?_
  have er := Option.some.inj hp
  subst er
  exact Rt.one rfl rfl ⟨fv3, rfl⟩

set_option maxRecDepth 20000 in
theorem impl_TravelTurns_ok (h0 : Heap) (a0 : Int) (a1 : Int) (a2 : Int) (a3 : Int) (u4 : Value) (a4 : Option Nat) (g4 : IsF .f32 u4 a4) (r : ((Option Nat) × Bool)) (hp : impl_TravelTurns a0 a1 a2 a3 a4 = some r) : CallsH Try.prog 127 ([(.int .i64 a0), (.int .i64 a1), (.int .i64 a2), (.int .i64 a3), u4].toArray ++ [].toArray) h0 (fun v h' => ∃ u0, v = .tuple [u0, (.bool r.2)].toArray ∧ IsF .f32 u0 r.1 ∧ h0 = h') := by
  unfold impl_TravelTurns at hp
  refine callsH_of_W (l := [(.int .i64 a0), (.int .i64 a1), (.int .i64 a2), (.int .i64 a3), u4]) (cap := []) 29 Try.func127 rfl rfl rfl ?_
  refine W.seq ?_
  refine W.region ?_
  refine RL.opD (by decide) (opv_assign rfl rfl) ?_
  refine RL.opD (by decide) (opv_assign rfl rfl) ?_
  refine RL.nil ?_
  refine thnN ?_
  refine W.seq ?_
  refine W.seq ?_
  obtain ⟨x1, hy1, hp⟩ := Option.bind_eq_some_iff.1 hp
  refine W.cut (fun φ' h' => Fr.sub [(0, (.int .i64 a0)), (1, (.int .i64 a1)), (2, (.int .i64 a2)), (3, (.int .i64 a3)), (4, u4), (10, (.float .f32 0)), (11, (.bool false)), (22, (.bool x1))] φ' ∧ h0 = h') ?_ ?_
  · obtain ⟨x2, hx2, hy1⟩ := Option.bind_eq_some_iff.1 hy1
    by_cases c1 : (!x2) = true
    · rw [if_pos c1] at hy1
      refine W.region ?_
      refine RL.opD (by decide) (opv_move rfl rfl) ?_
      refine RL.opD (by decide) (opv_move rfl rfl) ?_
      refine RL.opD (by decide) (opv_move rfl rfl) ?_
      refine RL.op _ (by decide) (opv_call (impl_areSides_ok _ _ _ _ _ g4 _ hx2) rfl rfl ⟨rfl, rfl, rfl, trivial⟩ Try.func255 rfl rfl) ?_
      rintro _ _ ⟨rfl, rfl⟩
      refine RL.opD (by decide) (opv_not rfl rfl) ?_
      refine RL.opD (by decide) (opv_move rfl rfl) ?_
      refine RL.no rfl rfl (Eq.trans c1 (by decide)) (by decide) ?_
      refine RL.no rfl rfl (Eq.trans c1 (by decide)) (by decide) ?_
      refine RL.no rfl rfl (Eq.trans c1 (by decide)) (by decide) ?_
      refine RL.no rfl rfl (Eq.trans c1 (by decide)) (by decide) ?_
      refine RL.opD (by decide) (opv_pick rfl rfl (fun _ => rfl) (fun e => absurd (Eq.trans (Eq.symm e) c1) (by decide)) rfl) ?_
      refine RL.nil ?_
      have ey1 := Option.some.inj hy1
      subst ey1
      refine onlyN ?_
      exact ⟨⟨rfl, rfl, rfl, rfl, rfl, rfl, rfl, rfl, trivial⟩, rfl⟩
    · rw [if_neg c1] at hy1
      have c1 := eq_false_of_ne_true c1
      obtain ⟨x3, hx3, hy1⟩ := Option.bind_eq_some_iff.1 hy1
      refine W.region ?_
      refine RL.opD (by decide) (opv_move rfl rfl) ?_
      refine RL.opD (by decide) (opv_move rfl rfl) ?_
      refine RL.opD (by decide) (opv_move rfl rfl) ?_
      refine RL.op _ (by decide) (opv_call (impl_areSides_ok _ _ _ _ _ g4 _ hx2) rfl rfl ⟨rfl, rfl, rfl, trivial⟩ Try.func255 rfl rfl) ?_
      rintro _ _ ⟨rfl, rfl⟩
      refine RL.opD (by decide) (opv_not rfl rfl) ?_
      refine RL.opD (by decide) (opv_move rfl rfl) ?_
      refine RL.yes _ rfl rfl c1 (by decide) (opv_move rfl rfl) ?_
      rintro _ _ ⟨rfl, rfl⟩
      refine RL.yes _ rfl rfl c1 (by decide) (opv_move rfl rfl) ?_
      rintro _ _ ⟨rfl, rfl⟩
      refine RL.yes _ rfl rfl c1 (by decide) (opv_call (impl_areOrders_ok _ _ _ _ hx3) rfl rfl ⟨rfl, rfl, trivial⟩ Try.func260 rfl rfl) ?_
      rintro _ _ ⟨rfl, rfl⟩
      refine RL.yes _ rfl rfl c1 (by decide) (opv_not rfl rfl) ?_
      rintro _ _ ⟨rfl, rfl⟩
      refine RL.opD (by decide) (opv_pick rfl rfl (fun e => absurd (Eq.trans (Eq.symm e) c1) (by decide)) (fun _ => rfl) rfl) ?_
      refine RL.nil ?_
      have ey1 := Option.some.inj hy1
      subst ey1
      refine onlyN ?_
      exact ⟨⟨rfl, rfl, rfl, rfl, rfl, rfl, rfl, rfl, trivial⟩, rfl⟩
  rintro φ' _ ⟨hs1, rfl⟩
  refine thnN ?_
  refine W.sub hs1 ?_
  by_cases c2 : x1 = true
  · rw [if_pos c2] at hp
    refine W.condT rfl c2 ?_
    refine W.seq ?_
    refine W.region ?_
    refine RL.opD (by decide) (opv_assign rfl rfl) ?_
    refine RL.opD (by decide) (opv_assign rfl rfl) ?_
    refine RL.nil ?_
    refine thnN ?_
    refine W.ret ?_
    refine thnR ?_
    have er := Option.some.inj hp
    subst er
    exact Rt.two rfl rfl rfl ⟨(.float .f32 0), rfl, (isF_lit .f32 0 (by decide) (by decide)), rfl⟩
  · rw [if_neg c2] at hp
    have c2 := eq_false_of_ne_true c2
    refine W.condF rfl c2 ?_
    refine W.skip ?_
    refine thnN ?_
    refine W.seq ?_
    obtain ⟨x4, hx4, hp⟩ := Option.bind_eq_some_iff.1 hp
    refine W.region ?_
    refine RL.opD (by decide) (opv_move rfl rfl) ?_
    refine RL.opD (by decide) (opv_move rfl rfl) ?_
    refine RL.opD (by decide) (opv_move rfl rfl) ?_
    refine RL.opD (by decide) (opv_move rfl rfl) ?_
    refine RL.opD (by decide) (opv_move rfl rfl) ?_
    refine RL.op _ (by decide) (opv_call (impl_travelTurns_ok _ _ _ _ _ _ _ g4 _ hx4) rfl rfl ⟨rfl, rfl, rfl, rfl, rfl, trivial⟩ Try.func261 rfl rfl) ?_
    rintro v1 _ ⟨fv1, rfl⟩
    refine RL.opD (by decide) (opv_assign rfl rfl) ?_
    refine RL.opD (by decide) (opv_assign rfl rfl) ?_
    refine RL.nil ?_
    refine thnN ?_
    refine W.ret ?_
    have er := Option.some.inj hp
    subst er
    exact Rt.two rfl rfl rfl ⟨v1, rfl, fv1, rfl⟩

set_option maxRecDepth 20000 in
theorem laws_FnExactTravelTurns_ok (h0 : Heap) (a0 : Int) (a1 : Int) (a2 : Int) (a3 : Int) (u4 : Value) (a4 : Option Nat) (g4 : IsF .f32 u4 a4) (r : Bool) (hp : laws_FnExactTravelTurns a0 a1 a2 a3 a4 = some r) : CallsH Try.prog 24 ([(.int .i64 a0), (.int .i64 a1), (.int .i64 a2), (.int .i64 a3), u4].toArray ++ [].toArray) h0 (fun v h' => v = (.bool r) ∧ h0 = h') := by
  unfold laws_FnExactTravelTurns at hp
  refine callsH_of_W (l := [(.int .i64 a0), (.int .i64 a1), (.int .i64 a2), (.int .i64 a3), u4]) (cap := []) 44 Try.func24 rfl rfl rfl ?_
  refine W.seq ?_
  refine W.region ?_
  refine RL.opD (by decide) (opv_assign rfl rfl) ?_
  refine RL.nil ?_
  refine thnN ?_
  refine W.seq ?_
  obtain ⟨x1, hx1, hp⟩ := Option.bind_eq_some_iff.1 hp
  refine W.region ?_
  refine RL.opD (by decide) (opv_move rfl rfl) ?_
  refine RL.opD (by decide) (opv_move rfl rfl) ?_
  refine RL.opD (by decide) (opv_move rfl rfl) ?_
  refine RL.opD (by decide) (opv_move rfl rfl) ?_
  refine RL.opD (by decide) (opv_move rfl rfl) ?_
  refine RL.op _ (by decide) (opv_call (spec_TravelTurns_ok _ _ _ _ _ _ _ g4 _ hx1) rfl rfl ⟨rfl, rfl, rfl, rfl, rfl, trivial⟩ Try.func126 rfl rfl) ?_
  rintro _ _ ⟨v1, rfl, fv1, rfl⟩
  refine RL.opD (by decide) (opv_move rfl rfl) ?_
  refine RL.opD (by decide) (opv_extract rfl rfl rfl) ?_
  refine RL.opD (by decide) (opv_extract rfl rfl rfl) ?_
  refine RL.opD (by decide) (opv_assign rfl rfl) ?_
  refine RL.opD (by decide) (opv_assign rfl rfl) ?_
  refine RL.nil ?_
  refine thnN ?_
  refine W.seq ?_
  obtain ⟨x2, hx2, hp⟩ := Option.bind_eq_some_iff.1 hp
  refine W.region ?_
  refine RL.opD (by decide) (opv_move rfl rfl) ?_
  refine RL.opD (by decide) (opv_move rfl rfl) ?_
  refine RL.opD (by decide) (opv_move rfl rfl) ?_
  refine RL.opD (by decide) (opv_move rfl rfl) ?_
  refine RL.opD (by decide) (opv_move rfl rfl) ?_
  refine RL.op _ (by decide) (opv_call (impl_TravelTurns_ok _ _ _ _ _ _ _ g4 _ hx2) rfl rfl ⟨rfl, rfl, rfl, rfl, rfl, trivial⟩ Try.func127 rfl rfl) ?_
  rintro _ _ ⟨v2, rfl, fv2, rfl⟩
  refine RL.opD (by decide) (opv_move rfl rfl) ?_
  refine RL.opD (by decide) (opv_extract rfl rfl rfl) ?_
  refine RL.opD (by decide) (opv_extract rfl rfl rfl) ?_
  refine RL.opD (by decide) (opv_assign rfl rfl) ?_
  refine RL.opD (by decide) (opv_assign rfl rfl) ?_
  refine RL.nil ?_
  refine thnN ?_
  refine W.seq ?_
  refine W.seq ?_
  obtain ⟨x3, hy1, hp⟩ := Option.bind_eq_some_iff.1 hp
  refine W.cut (fun φ' h' => Fr.sub [(0, (.int .i64 a0)), (1, (.int .i64 a1)), (2, (.int .i64 a2)), (3, (.int .i64 a3)), (4, u4), (10, (.bool false)), (11, v1), (12, (.bool x1.2)), (13, v2), (14, (.bool x2.2)), (43, (.bool x3))] φ' ∧ h0 = h') ?_ ?_
  · obtain ⟨x4, hx4, hy1⟩ := Option.bind_eq_some_iff.1 hy1
    by_cases c1 : (!x4) = true
    · rw [if_pos c1] at hy1
      refine W.region ?_
      refine RL.opD (by decide) (opv_move rfl rfl) ?_
      refine RL.opF (by decide) (opv_widen rfl (by rw [Try.underlying29]; rfl) Try.underlying66 rfl fv2) ?_
      intro v3 fv3
      refine RL.opD (by decide) (opv_move rfl rfl) ?_
      refine RL.opF (by decide) (opv_widen rfl (by rw [Try.underlying29]; rfl) Try.underlying66 rfl fv1) ?_
      intro v4 fv4
      refine RL.op _ (by decide) (opv_call (laws_sameFloat_ok _ _ _ fv3 _ _ fv4 _ hx4) rfl rfl ⟨rfl, rfl, trivial⟩ Try.func66 rfl rfl) ?_
      rintro _ _ ⟨rfl, rfl⟩
      refine RL.opD (by decide) (opv_not rfl rfl) ?_
      refine RL.opD (by decide) (opv_move rfl rfl) ?_
      refine RL.no rfl rfl (Eq.trans c1 (by decide)) (by decide) ?_
      refine RL.no rfl rfl (Eq.trans c1 (by decide)) (by decide) ?_
      refine RL.no rfl rfl (Eq.trans c1 (by decide)) (by decide) ?_
      refine RL.opD (by decide) (opv_pick rfl rfl (fun _ => rfl) (fun e => absurd (Eq.trans (Eq.symm e) c1) (by decide)) rfl) ?_
      refine RL.nil ?_
      have ey1 := Option.some.inj hy1
      subst ey1
      refine onlyN ?_
      exact ⟨⟨rfl, rfl, rfl, rfl, rfl, rfl, rfl, rfl, rfl, rfl, rfl, trivial⟩, rfl⟩
    · rw [if_neg c1] at hy1
      have c1 := eq_false_of_ne_true c1
      refine W.region ?_
      refine RL.opD (by decide) (opv_move rfl rfl) ?_
      refine RL.opF (by decide) (opv_widen rfl (by rw [Try.underlying29]; rfl) Try.underlying66 rfl fv2) ?_
      intro v3 fv3
      refine RL.opD (by decide) (opv_move rfl rfl) ?_
      refine RL.opF (by decide) (opv_widen rfl (by rw [Try.underlying29]; rfl) Try.underlying66 rfl fv1) ?_
      intro v4 fv4
      refine RL.op _ (by decide) (opv_call (laws_sameFloat_ok _ _ _ fv3 _ _ fv4 _ hx4) rfl rfl ⟨rfl, rfl, trivial⟩ Try.func66 rfl rfl) ?_
      rintro _ _ ⟨rfl, rfl⟩
      refine RL.opD (by decide) (opv_not rfl rfl) ?_
      refine RL.opD (by decide) (opv_move rfl rfl) ?_
      refine RL.yes _ rfl rfl c1 (by decide) (opv_move rfl rfl) ?_
      rintro _ _ ⟨rfl, rfl⟩
      refine RL.yes _ rfl rfl c1 (by decide) (opv_move rfl rfl) ?_
      rintro _ _ ⟨rfl, rfl⟩
      refine RL.yes _ rfl rfl c1 (by decide) (opv_bcmp rfl rfl Try.underlying4 rfl rfl) ?_
      rintro _ _ ⟨rfl, rfl⟩
      refine RL.opD (by decide) (opv_pick rfl rfl (fun e => absurd (Eq.trans (Eq.symm e) c1) (by decide)) (fun _ => rfl) rfl) ?_
      refine RL.nil ?_
      have ey1 := Option.some.inj hy1
      subst ey1
      refine onlyN ?_
      exact ⟨⟨rfl, rfl, rfl, rfl, rfl, rfl, rfl, rfl, rfl, rfl, rfl, trivial⟩, rfl⟩
  rintro φ' _ ⟨hs1, rfl⟩
  refine thnN ?_
  refine W.sub hs1 ?_
  by_cases c2 : x3 = true
  · rw [if_pos c2] at hp
    refine W.condT rfl c2 ?_
    refine W.seq ?_
    refine W.region ?_
    refine RL.opD (by decide) (opv_assign rfl rfl) ?_
    refine RL.nil ?_
    refine thnN ?_
    refine W.ret ?_
    refine thnR ?_
    have er := Option.some.inj hp
    subst er
    exact Rt.one rfl rfl ⟨rfl, rfl⟩
  · rw [if_neg c2] at hp
    have c2 := eq_false_of_ne_true c2
    refine W.condF rfl c2 ?_
    refine W.skip ?_
    refine thnN ?_
    refine W.seq ?_
    refine W.region ?_
    refine RL.opD (by decide) (opv_assign rfl rfl) ?_
    refine RL.nil ?_
    refine thnN ?_
    refine W.ret ?_
    have er := Option.some.inj hp
    subst er
    exact Rt.one rfl rfl ⟨rfl, rfl⟩

end Go.H
