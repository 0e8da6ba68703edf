/- Functions of the program: what each computes, as a plain function, and that the call comes to it. Written by a program (wip/gen). -/
import Derived.Test.YtinpafbadbnhhaaPTrig
import Derived.Test.YtinpafbadbnhhaaProg
import Derived.KernelRfl
set_option linter.unusedVariables false
namespace Go.H
open Go Go.Proofs



noncomputable def spec_TurnsOfRayleigh (a0 : Option Nat) : Option ((Option Nat) × Bool) :=
  (((if (!(fcmp .geq .f32 a0 (some 0))) = true then some true else some (fcmp .gtr .f32 a0 (some 1082130432))) : Option Bool).bind fun (x1 : Bool) => (if x1 = true then some ((some 0), false) else ((spec_l01Sqrt (fop .quo .f32 a0 (some 1082130432))).bind fun (x2 : Option Nat) => ((spec_l01Sqrt (fop .sub .f32 (some 1065353216) (fop .quo .f32 a0 (some 1082130432)))).bind fun (x3 : Option Nat) => ((spec_l01Angle x2 x3).bind fun (x4 : Option Nat) => some (fop .mul .f32 (some 1073741824) x4, true))))))

noncomputable def impl_TurnsOfRayleigh (a0 : Option Nat) : Option ((Option Nat) × Bool) :=
  (((if (fcmp .geq .f32 a0 (some 0)) = true then some (!(fcmp .leq .f32 a0 (some 1082130432))) else some (!false)) : Option Bool).bind fun (x1 : Bool) => (if x1 = true then some ((some 0), false) else ((impl_RootNumber (fop .quo .f32 a0 (some 1082130432))).bind fun (x2 : Option Nat) => ((impl_RootNumber (fop .sub .f32 (some 1065353216) (fop .quo .f32 a0 (some 1082130432)))).bind fun (x3 : Option Nat) => ((impl_AngleTurns x2 x3).bind fun (x4 : Option Nat) => some (fop .mul .f32 (some 1073741824) x4, true))))))

noncomputable def laws_FnExactTurnsOfRayleigh (a0 : Option Nat) : Option Bool :=
  ((spec_TurnsOfRayleigh a0).bind fun (x1 : ((Option Nat) × Bool)) => ((impl_TurnsOfRayleigh a0).bind fun (x2 : ((Option Nat) × Bool)) => ((((laws_sameFloat (wid x2.1) (wid x1.1)).bind fun (x4 : Bool) => (if (!x4) = true then some true else some (x2.2 != x1.2))) : Option Bool).bind fun (x3 : Bool) => (if x3 = true then some false else some true))))

set_option maxRecDepth 20000 in
theorem spec_TurnsOfRayleigh_ok (h0 : Heap) (u0 : Value) (a0 : Option Nat) (g0 : IsF .f32 u0 a0) (r : ((Option Nat) × Bool)) (hp : spec_TurnsOfRayleigh a0 = some r) : CallsH Try.prog 64 ([u0].toArray ++ [].toArray) h0 (fun v h' => ∃ u0, v = .tuple [u0, (.bool r.2)].toArray ∧ IsF .f32 u0 r.1 ∧ h0 = h') := by
  unfold spec_TurnsOfRayleigh at hp
  refine callsH_of_W (l := [u0]) (cap := []) 20 Try.func64 rfl rfl rfl ?_
  refine W.seq ?_
  refine W.region ?_
  refine RL.opD (by decide) (opv_assign rfl rfl) ?_
  refine RL.opD (by decide) (opv_assign rfl rfl) ?_
  refine RL.nil ?_
  refine thnN ?_
  refine W.seq ?_
  refine W.seq ?_
  obtain ⟨x1, hy1, hp⟩ := Option.bind_eq_some_iff.1 hp
  refine W.cut (fun φ' h' => Fr.sub [(0, u0), (2, (.float .f32 0)), (3, (.bool false)), (10, (.bool x1))] φ' ∧ h0 = h') ?_ ?_
  · by_cases c1 : (!(fcmp .geq .f32 a0 (some 0))) = true
    · rw [if_pos c1] at hy1
      refine W.region ?_
      refine RL.opD (by decide) (opv_move rfl rfl) ?_
      refine RL.opD (by decide) (opv_fcmp rfl rfl rfl rfl g0 (isF_lit .f32 0 (by decide) (by decide))) ?_
      refine RL.opD (by decide) (opv_not rfl rfl) ?_
      refine RL.opD (by decide) (opv_move rfl rfl) ?_
      refine RL.no rfl rfl (Eq.trans c1 (by decide)) (by decide) ?_
      refine RL.no rfl rfl (Eq.trans c1 (by decide)) (by decide) ?_
      refine RL.opD (by decide) (opv_pick rfl rfl (fun _ => rfl) (fun e => absurd (Eq.trans (Eq.symm e) c1) (by decide)) rfl) ?_
      refine RL.nil ?_
      have ey1 := Option.some.inj hy1
      subst ey1
      refine onlyN ?_
      exact ⟨⟨rfl, rfl, rfl, rfl, trivial⟩, rfl⟩
    · rw [if_neg c1] at hy1
      have c1 := eq_false_of_ne_true c1
      refine W.region ?_
      refine RL.opD (by decide) (opv_move rfl rfl) ?_
      refine RL.opD (by decide) (opv_fcmp rfl rfl rfl rfl g0 (isF_lit .f32 0 (by decide) (by decide))) ?_
      refine RL.opD (by decide) (opv_not rfl rfl) ?_
      refine RL.opD (by decide) (opv_move rfl rfl) ?_
      refine RL.yes _ rfl rfl c1 (by decide) (opv_move rfl rfl) ?_
      rintro _ _ ⟨rfl, rfl⟩
      refine RL.yes _ rfl rfl c1 (by decide) (opv_fcmp rfl rfl rfl rfl g0 (isF_lit .f32 1082130432 (by decide) (by decide))) ?_
      rintro _ _ ⟨rfl, rfl⟩
      refine RL.opD (by decide) (opv_pick rfl rfl (fun e => absurd (Eq.trans (Eq.symm e) c1) (by decide)) (fun _ => rfl) rfl) ?_
      refine RL.nil ?_
      have ey1 := Option.some.inj hy1
      subst ey1
      refine onlyN ?_
      exact ⟨⟨rfl, rfl, rfl, rfl, trivial⟩, rfl⟩
  rintro φ' _ ⟨hs1, rfl⟩
  refine thnN ?_
  refine W.sub hs1 ?_
  by_cases c2 : x1 = true
  · rw [if_pos c2] at hp
    refine W.condT rfl c2 ?_
    refine W.seq ?_
    refine W.region ?_
    refine RL.opD (by decide) (opv_assign rfl rfl) ?_
    refine RL.opD (by decide) (opv_assign rfl rfl) ?_
    refine RL.nil ?_
    refine thnN ?_
    refine W.ret ?_
    refine thnR ?_
    have er := Option.some.inj hp
    subst er
    exact Rt.two rfl rfl rfl ⟨(.float .f32 0), rfl, (isF_lit .f32 0 (by decide) (by decide)), rfl⟩
  · rw [if_neg c2] at hp
    have c2 := eq_false_of_ne_true c2
    refine W.condF rfl c2 ?_
    refine W.skip ?_
    refine thnN ?_
    refine W.seq ?_
    obtain ⟨x2, hx2, hp⟩ := Option.bind_eq_some_iff.1 hp
    obtain ⟨x3, hx3, hp⟩ := Option.bind_eq_some_iff.1 hp
    obtain ⟨x4, hx4, hp⟩ := Option.bind_eq_some_iff.1 hp
    refine W.region ?_
    refine RL.opD (by decide) (opv_move rfl rfl) ?_
    refine RL.opF (by decide) (opv_fop rfl rfl rfl rfl g0 (isF_lit .f32 1082130432 (by decide) (by decide))) ?_
    intro v1 fv1
    refine RL.op _ (by decide) (opv_call (spec_l01Sqrt_ok _ _ _ fv1 _ hx2) rfl rfl ⟨rfl, trivial⟩ Try.func188 rfl rfl) ?_
    rintro v2 _ ⟨fv2, rfl⟩
    refine RL.opD (by decide) (opv_move rfl rfl) ?_
    refine RL.opF (by decide) (opv_fop rfl rfl rfl rfl g0 (isF_lit .f32 1082130432 (by decide) (by decide))) ?_
    intro v3 fv3
    refine RL.opF (by decide) (opv_fop rfl rfl rfl rfl (isF_lit .f32 1065353216 (by decide) (by decide)) fv3) ?_
    intro v4 fv4
    refine RL.op _ (by decide) (opv_call (spec_l01Sqrt_ok _ _ _ fv4 _ hx3) rfl rfl ⟨rfl, trivial⟩ Try.func188 rfl rfl) ?_
    rintro v5 _ ⟨fv5, rfl⟩
    refine RL.op _ (by decide) (opv_call (spec_l01Angle_ok _ _ _ fv2 _ _ fv5 _ hx4) rfl rfl ⟨rfl, rfl, trivial⟩ Try.func187 rfl rfl) ?_
    rintro v6 _ ⟨fv6, rfl⟩
    refine RL.opF (by decide) (opv_fop rfl rfl rfl rfl (isF_lit .f32 1073741824 (by decide) (by decide)) fv6) ?_
    intro v7 fv7
    refine RL.opD (by decide) (opv_assign rfl rfl) ?_
    refine RL.opD (by decide) (opv_assign rfl rfl) ?_
    refine RL.nil ?_
    refine thnN ?_
    refine W.ret ?_
    have er := Option.some.inj hp
    subst er
    exact Rt.two rfl rfl rfl ⟨v7, rfl, fv7, rfl⟩

set_option maxRecDepth 20000 in
theorem impl_TurnsOfRayleigh_ok (h0 : Heap) (u0 : Value) (a0 : Option Nat) (g0 : IsF .f32 u0 a0) (r : ((Option Nat) × Bool)) (hp : impl_TurnsOfRayleigh a0 = some r) : CallsH Try.prog 65 ([u0].toArray ++ [].toArray) h0 (fun v h' => ∃ u0, v = .tuple [u0, (.bool r.2)].toArray ∧ IsF .f32 u0 r.1 ∧ h0 = h') := by
  unfold impl_TurnsOfRayleigh at hp
  refine callsH_of_W (l := [u0]) (cap := []) 20 Try.func65 rfl rfl rfl ?_
  refine W.seq ?_
  refine W.region ?_
  refine RL.opD (by decide) (opv_assign rfl rfl) ?_
  refine RL.opD (by decide) (opv_assign rfl rfl) ?_
  refine RL.nil ?_
  refine thnN ?_
  refine W.seq ?_
  refine W.seq ?_
  obtain ⟨x1, hy1, hp⟩ := Option.bind_eq_some_iff.1 hp
  refine W.cut (fun φ' h' => Fr.sub [(0, u0), (2, (.float .f32 0)), (3, (.bool false)), (10, (.bool x1))] φ' ∧ h0 = h') ?_ ?_
  · by_cases c1 : (fcmp .geq .f32 a0 (some 0)) = true
    · rw [if_pos c1] at hy1
      refine W.region ?_
      refine RL.opD (by decide) (opv_move rfl rfl) ?_
      refine RL.opD (by decide) (opv_fcmp rfl rfl rfl rfl g0 (isF_lit .f32 0 (by decide) (by decide))) ?_
      refine RL.opD (by decide) (opv_move rfl rfl) ?_
      refine RL.yes _ rfl rfl c1 (by decide) (opv_move rfl rfl) ?_
      rintro _ _ ⟨rfl, rfl⟩
      refine RL.yes _ rfl rfl c1 (by decide) (opv_fcmp rfl rfl rfl rfl g0 (isF_lit .f32 1082130432 (by decide) (by decide))) ?_
      rintro _ _ ⟨rfl, rfl⟩
      refine RL.opD (by decide) (opv_pick rfl rfl (fun _ => rfl) (fun e => absurd (Eq.trans (Eq.symm e) c1) (by decide)) rfl) ?_
      refine RL.opD (by decide) (opv_not rfl rfl) ?_
      refine RL.nil ?_
      have ey1 := Option.some.inj hy1
      subst ey1
      refine onlyN ?_
      exact ⟨⟨rfl, rfl, rfl, rfl, trivial⟩, rfl⟩
    · rw [if_neg c1] at hy1
      have c1 := eq_false_of_ne_true c1
      refine W.region ?_
      refine RL.opD (by decide) (opv_move rfl rfl) ?_
      refine RL.opD (by decide) (opv_fcmp rfl rfl rfl rfl g0 (isF_lit .f32 0 (by decide) (by decide))) ?_
      refine RL.opD (by decide) (opv_move rfl rfl) ?_
      refine RL.no rfl rfl (Eq.trans c1 (by decide)) (by decide) ?_
      refine RL.no rfl rfl (Eq.trans c1 (by decide)) (by decide) ?_
      refine RL.opD (by decide) (opv_pick rfl rfl (fun e => absurd (Eq.trans (Eq.symm e) c1) (by decide)) (fun _ => rfl) rfl) ?_
      refine RL.opD (by decide) (opv_not rfl rfl) ?_
      refine RL.nil ?_
      have ey1 := Option.some.inj hy1
      subst ey1
      refine onlyN ?_
      exact ⟨⟨rfl, rfl, rfl, rfl, trivial⟩, rfl⟩
  rintro φ' _ ⟨hs1, rfl⟩
  refine thnN ?_
  refine W.sub hs1 ?_
  by_cases c2 : x1 = true
  · rw [if_pos c2] at hp
    refine W.condT rfl c2 ?_
    refine W.seq ?_
    refine W.region ?_
    refine RL.opD (by decide) (opv_assign rfl rfl) ?_
    refine RL.opD (by decide) (opv_assign rfl rfl) ?_
    refine RL.nil ?_
    refine thnN ?_
    refine W.ret ?_
    refine thnR ?_
    have er := Option.some.inj hp
    subst er
    exact Rt.two rfl rfl rfl ⟨(.float .f32 0), rfl, (isF_lit .f32 0 (by decide) (by decide)), rfl⟩
  · rw [if_neg c2] at hp
    have c2 := eq_false_of_ne_true c2
    refine W.condF rfl c2 ?_
    refine W.skip ?_
    refine thnN ?_
    refine W.seq ?_
    obtain ⟨x2, hx2, hp⟩ := Option.bind_eq_some_iff.1 hp
    obtain ⟨x3, hx3, hp⟩ := Option.bind_eq_some_iff.1 hp
    obtain ⟨x4, hx4, hp⟩ := Option.bind_eq_some_iff.1 hp
    refine W.region ?_
    refine RL.opD (by decide) (opv_move rfl rfl) ?_
    refine RL.opF (by decide) (opv_fop rfl rfl rfl rfl g0 (isF_lit .f32 1082130432 (by decide) (by decide))) ?_
    intro v1 fv1
    refine RL.op _ (by decide) (opv_call (impl_RootNumber_ok _ _ _ fv1 _ hx2) rfl rfl ⟨rfl, trivial⟩ Try.func190 rfl rfl) ?_
    rintro v2 _ ⟨fv2, rfl⟩
    refine RL.opD (by decide) (opv_move rfl rfl) ?_
    refine RL.opF (by decide) (opv_fop rfl rfl rfl rfl g0 (isF_lit .f32 1082130432 (by decide) (by decide))) ?_
    intro v3 fv3
    refine RL.opF (by decide) (opv_fop rfl rfl rfl rfl (isF_lit .f32 1065353216 (by decide) (by decide)) fv3) ?_
    intro v4 fv4
    refine RL.op _ (by decide) (opv_call (impl_RootNumber_ok _ _ _ fv4 _ hx3) rfl rfl ⟨rfl, trivial⟩ Try.func190 rfl rfl) ?_
    rintro v5 _ ⟨fv5, rfl⟩
    refine RL.op _ (by decide) (opv_call (impl_AngleTurns_ok _ _ _ fv2 _ _ fv5 _ hx4) rfl rfl ⟨rfl, rfl, trivial⟩ Try.func189 rfl rfl) ?_
    rintro v6 _ ⟨fv6, rfl⟩
    refine RL.opF (by decide) (opv_fop rfl rfl rfl rfl (isF_lit .f32 1073741824 (by decide) (by decide)) fv6) ?_
    intro v7 fv7
    refine RL.opD (by decide) (opv_assign rfl rfl) ?_
    refine RL.opD (by decide) (opv_assign rfl rfl) ?_
    refine RL.nil ?_
    refine thnN ?_
    refine W.ret ?_
    have er := Option.some.inj hp
    subst er
    exact Rt.two rfl rfl rfl ⟨v7, rfl, fv7, rfl⟩

set_option maxRecDepth 20000 in
theorem laws_FnExactTurnsOfRayleigh_ok (h0 : Heap) (u0 : Value) (a0 : Option Nat) (g0 : IsF .f32 u0 a0) (r : Bool) (hp : laws_FnExactTurnsOfRayleigh a0 = some r) : CallsH Try.prog 8 ([u0].toArray ++ [].toArray) h0 (fun v h' => v = (.bool r) ∧ h0 = h') := by
  unfold laws_FnExactTurnsOfRayleigh at hp
  refine callsH_of_W (l := [u0]) (cap := []) 28 Try.func8 rfl rfl rfl ?_
  refine W.seq ?_
  refine W.region ?_
  refine RL.opD (by decide) (opv_assign rfl rfl) ?_
  refine RL.nil ?_
  refine thnN ?_
  refine W.seq ?_
  obtain ⟨x1, hx1, hp⟩ := Option.bind_eq_some_iff.1 hp
  refine W.region ?_
  refine RL.opD (by decide) (opv_move rfl rfl) ?_
  refine RL.op _ (by decide) (opv_call (spec_TurnsOfRayleigh_ok _ _ _ g0 _ hx1) rfl rfl ⟨rfl, trivial⟩ Try.func64 rfl rfl) ?_
  rintro _ _ ⟨v1, rfl, fv1, rfl⟩
  refine RL.opD (by decide) (opv_move rfl rfl) ?_
  refine RL.opD (by decide) (opv_extract rfl rfl rfl) ?_
  refine RL.opD (by decide) (opv_extract rfl rfl rfl) ?_
  refine RL.opD (by decide) (opv_assign rfl rfl) ?_
  refine RL.opD (by decide) (opv_assign rfl rfl) ?_
  refine RL.nil ?_
  refine thnN ?_
  refine W.seq ?_
  obtain ⟨x2, hx2, hp⟩ := Option.bind_eq_some_iff.1 hp
  refine W.region ?_
  refine RL.opD (by decide) (opv_move rfl rfl) ?_
  refine RL.op _ (by decide) (opv_call (impl_TurnsOfRayleigh_ok _ _ _ g0 _ hx2) rfl rfl ⟨rfl, trivial⟩ Try.func65 rfl rfl) ?_
  rintro _ _ ⟨v2, rfl, fv2, rfl⟩
  refine RL.opD (by decide) (opv_move rfl rfl) ?_
  refine RL.opD (by decide) (opv_extract rfl rfl rfl) ?_
  refine RL.opD (by decide) (opv_extract rfl rfl rfl) ?_
  refine RL.opD (by decide) (opv_assign rfl rfl) ?_
  refine RL.opD (by decide) (opv_assign rfl rfl) ?_
  refine RL.nil ?_
  refine thnN ?_
  refine W.seq ?_
  refine W.seq ?_
  obtain ⟨x3, hy1, hp⟩ := Option.bind_eq_some_iff.1 hp
  refine W.cut (fun φ' h' => Fr.sub [(0, u0), (2, (.bool false)), (3, v1), (4, (.bool x1.2)), (5, v2), (6, (.bool x2.2)), (27, (.bool x3))] φ' ∧ h0 = h') ?_ ?_
  · obtain ⟨x4, hx4, hy1⟩ := Option.bind_eq_some_iff.1 hy1
    by_cases c1 : (!x4) = true
    · rw [if_pos c1] at hy1
      refine W.region ?_
      refine RL.opD (by decide) (opv_move rfl rfl) ?_
      refine RL.opF (by decide) (opv_widen rfl (by rw [Try.underlying29]; rfl) Try.underlying66 rfl fv2) ?_
      intro v3 fv3
      refine RL.opD (by decide) (opv_move rfl rfl) ?_
      refine RL.opF (by decide) (opv_widen rfl (by rw [Try.underlying29]; rfl) Try.underlying66 rfl fv1) ?_
      intro v4 fv4
      refine RL.op _ (by decide) (opv_call (laws_sameFloat_ok _ _ _ fv3 _ _ fv4 _ hx4) rfl rfl ⟨rfl, rfl, trivial⟩ Try.func66 rfl rfl) ?_
      rintro _ _ ⟨rfl, rfl⟩
      refine RL.opD (by decide) (opv_not rfl rfl) ?_
      refine RL.opD (by decide) (opv_move rfl rfl) ?_
      refine RL.no rfl rfl (Eq.trans c1 (by decide)) (by decide) ?_
      refine RL.no rfl rfl (Eq.trans c1 (by decide)) (by decide) ?_
      refine RL.no rfl rfl (Eq.trans c1 (by decide)) (by decide) ?_
      refine RL.opD (by decide) (opv_pick rfl rfl (fun _ => rfl) (fun e => absurd (Eq.trans (Eq.symm e) c1) (by decide)) rfl) ?_
      refine RL.nil ?_
      have ey1 := Option.some.inj hy1
      subst ey1
      refine onlyN ?_
      exact ⟨⟨rfl, rfl, rfl, rfl, rfl, rfl, rfl, trivial⟩, rfl⟩
    · rw [if_neg c1] at hy1
      have c1 := eq_false_of_ne_true c1
      refine W.region ?_
      refine RL.opD (by decide) (opv_move rfl rfl) ?_
      refine RL.opF (by decide) (opv_widen rfl (by rw [Try.underlying29]; rfl) Try.underlying66 rfl fv2) ?_
      intro v3 fv3
      refine RL.opD (by decide) (opv_move rfl rfl) ?_
      refine RL.opF (by decide) (opv_widen rfl (by rw [Try.underlying29]; rfl) Try.underlying66 rfl fv1) ?_
      intro v4 fv4
      refine RL.op _ (by decide) (opv_call (laws_sameFloat_ok _ _ _ fv3 _ _ fv4 _ hx4) rfl rfl ⟨rfl, rfl, trivial⟩ Try.func66 rfl rfl) ?_
      rintro _ _ ⟨rfl, rfl⟩
      refine RL.opD (by decide) (opv_not rfl rfl) ?_
      refine RL.opD (by decide) (opv_move rfl rfl) ?_
      refine RL.yes _ rfl rfl c1 (by decide) (opv_move rfl rfl) ?_
      rintro _ _ ⟨rfl, rfl⟩
      refine RL.yes _ rfl rfl c1 (by decide) (opv_move rfl rfl) ?_
      rintro _ _ ⟨rfl, rfl⟩
      refine RL.yes _ rfl rfl c1 (by decide) (opv_bcmp rfl rfl Try.underlying4 rfl rfl) ?_
      rintro _ _ ⟨rfl, rfl⟩
      refine RL.opD (by decide) (opv_pick rfl rfl (fun e => absurd (Eq.trans (Eq.symm e) c1) (by decide)) (fun _ => rfl) rfl) ?_
      refine RL.nil ?_
      have ey1 := Option.some.inj hy1
      subst ey1
      refine onlyN ?_
      exact ⟨⟨rfl, rfl, rfl, rfl, rfl, rfl, rfl, trivial⟩, rfl⟩
  rintro φ' _ ⟨hs1, rfl⟩
  refine thnN ?_
  refine W.sub hs1 ?_
  by_cases c2 : x3 = true
  · rw [if_pos c2] at hp
    refine W.condT rfl c2 ?_
    refine W.seq ?_
    refine W.region ?_
    refine RL.opD (by decide) (opv_assign rfl rfl) ?_
    refine RL.nil ?_
    refine thnN ?_
    refine W.ret ?_
    refine thnR ?_
    have er := Option.some.inj hp
    subst er
    exact Rt.one rfl rfl ⟨rfl, rfl⟩
  · rw [if_neg c2] at hp
    have c2 := eq_false_of_ne_true c2
    refine W.condF rfl c2 ?_
    refine W.skip ?_
    refine thnN ?_
    refine W.seq ?_
    refine W.region ?_
    refine RL.opD (by decide) (opv_assign rfl rfl) ?_
    refine RL.nil ?_
    refine thnN ?_
    refine W.ret ?_
    have er := Option.some.inj hp
    subst er
    exact Rt.one rfl rfl ⟨rfl, rfl⟩

end Go.H
