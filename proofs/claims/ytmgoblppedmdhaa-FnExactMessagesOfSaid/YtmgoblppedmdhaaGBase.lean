/- Functions of the program: what each computes, as a plain function, and that the call comes to it. Written by a program (wip/gen). -/
import Derived.Test.YtmgoblppedmdhaaGFacts
import Derived.Test.YtmgoblppedmdhaaLibB
import Derived.Test.YtmgoblppedmdhaaProg
import Derived.KernelRfl
set_option linter.unusedVariables false
namespace Go.H
open Go Go.Proofs



noncomputable def laws_sameFloat (a0 : Option Nat) (a1 : Option Nat) : Option Bool :=
 (((if (fcmp .neq .f64 a0 a0) = true then some true else some (fcmp .neq .f64 a1 a1)) : Option Bool).bind fun (x1 : Bool) => (if x1 = true then (((if (fcmp .neq .f64 a0 a0) = true then some (fcmp .neq .f64 a1 a1) else some false) : Option Bool).bind fun (x2 : Bool) => some x2) else (((if (fcmp .eql .f64 a0 (some 0)) = true then some (fcmp .eql .f64 a1 (some 0)) else some false) : Option Bool).bind fun (x3 : Bool) => (if x3 = true then some ((fcmp .gtr .f64 (fop .quo .f64 (some 4607182418800017408) a0) (some 0)) == (fcmp .gtr .f64 (fop .quo .f64 (some 4607182418800017408) a1) (some 0))) else some (fcmp .eql .f64 a0 a1)))))

noncomputable def impl_IsFinite (a0 : Option Nat) : Option Bool :=
 some (fcmp .eql .f32 (fop .sub .f32 a0 a0) (some 0))

noncomputable def math_NaN : Option (Option Nat) :=
 ((ffrom .f64 9221120237041090561).bind fun (x1 : Option Nat) => some x1)

set_option maxRecDepth 20000 in
theorem laws_sameFloat_ok (h0 : Heap) (u0 : Value) (a0 : Option Nat) (g0 : IsF .f64 u0 a0) (u1 : Value) (a1 : Option Nat) (g1 : IsF .f64 u1 a1) (r : Bool) (hp : laws_sameFloat a0 a1 = some r) : CallsH Try.prog 161 ([u0, u1].toArray ++ [].toArray) h0 (fun v h' => v = (.bool r) ∧ h0 = h') := by
 unfold laws_sameFloat at hp
 refine callsH_of_W (l := [u0, u1]) (cap := []) 37 Try.func161 rfl rfl rfl ?_
 refine W.seq ?_
 refine W.region ?_
 refine RL.opD (by decide) (opv_assign rfl rfl) ?_
 refine RL.nil ?_
 refine thnN ?_
 refine W.seq ?_
 refine W.seq ?_
 obtain ⟨x1, hy1, hp⟩ := Option.bind_eq_some_iff.1 hp
 refine W.cut (fun φ' h' => Fr.sub [(0, u0), (1, u1), (4, (.bool false)), (12, (.bool x1))] φ' ∧ h0 = h') ?_ ?_
 ·refine W.region ?_
  refine RL.opD (by decide) (opv_move rfl rfl) ?_
  refine RL.opD (by decide) (opv_move rfl rfl) ?_
  refine RL.opD (by decide) (opv_fcmp rfl rfl rfl rfl g0 g0) ?_
  refine RL.opD (by decide) (opv_move rfl rfl) ?_
  by_cases c1 : (fcmp .neq .f64 a0 a0) = true
  ·rw [if_pos c1] at hy1
   refine RL.noT rfl rfl c1 (by decide) ?_
   refine RL.noT rfl rfl c1 (by decide) ?_
   refine RL.noT rfl rfl c1 (by decide) ?_
   refine RL.opD (by decide) (opv_pick rfl rfl (fun _ => rfl) (fun e => absurd (Eq.trans (Eq.symm e) c1) (by decide)) rfl) ?_
   refine RL.nil ?_
   have ey1 := Option.some.inj hy1
   subst ey1
   refine onlyN ?_
   exact ⟨⟨rfl, rfl, rfl, rfl, trivial⟩, rfl⟩
  ·rw [if_neg c1] at hy1
   have c1 := eq_false_of_ne_true c1
   refine RL.yesD rfl rfl c1 (by decide) (opv_move rfl rfl) ?_
   refine RL.yesD rfl rfl c1 (by decide) (opv_move rfl rfl) ?_
   refine RL.yesD rfl rfl c1 (by decide) (opv_fcmp rfl rfl rfl rfl g1 g1) ?_
   refine RL.opD (by decide) (opv_pick rfl rfl (fun e => absurd (Eq.trans (Eq.symm e) c1) (by decide)) (fun _ => rfl) rfl) ?_
   refine RL.nil ?_
   have ey1 := Option.some.inj hy1
   subst ey1
   refine onlyN ?_
   exact ⟨⟨rfl, rfl, rfl, rfl, trivial⟩, rfl⟩
 rintro φ' _ ⟨hs1, rfl⟩
 refine thnN ?_
 refine W.sub hs1 ?_
 by_cases c2 : x1 = true
 ·rw [if_pos c2] at hp
  refine W.condT rfl c2 ?_
  refine W.seq ?_
  obtain ⟨x2, hy2, hp⟩ := Option.bind_eq_some_iff.1 hp
  refine W.cut (fun φ' h' => Fr.sub [(0, u0), (1, u1), (12, (.bool x1)), (4, (.bool x2))] φ' ∧ h0 = h') ?_ ?_
  ·refine W.region ?_
   refine RL.opD (by decide) (opv_move rfl rfl) ?_
   refine RL.opD (by decide) (opv_move rfl rfl) ?_
   refine RL.opD (by decide) (opv_fcmp rfl rfl rfl rfl g0 g0) ?_
   refine RL.opD (by decide) (opv_move rfl rfl) ?_
   by_cases c3 : (fcmp .neq .f64 a0 a0) = true
   ·rw [if_pos c3] at hy2
    refine RL.yesD rfl rfl c3 (by decide) (opv_move rfl rfl) ?_
    refine RL.yesD rfl rfl c3 (by decide) (opv_move rfl rfl) ?_
    refine RL.yesD rfl rfl c3 (by decide) (opv_fcmp rfl rfl rfl rfl g1 g1) ?_
    refine RL.opD (by decide) (opv_pick rfl rfl (fun _ => rfl) (fun e => absurd (Eq.trans (Eq.symm e) c3) (by decide)) rfl) ?_
    refine RL.opD (by decide) (opv_assign rfl rfl) ?_
    refine RL.nil ?_
    have ey2 := Option.some.inj hy2
    subst ey2
    refine onlyN ?_
    exact ⟨⟨rfl, rfl, rfl, rfl, trivial⟩, rfl⟩
   ·rw [if_neg c3] at hy2
    have c3 := eq_false_of_ne_true c3
    refine RL.noF rfl rfl c3 (by decide) ?_
    refine RL.noF rfl rfl c3 (by decide) ?_
    refine RL.noF rfl rfl c3 (by decide) ?_
    refine RL.opD (by decide) (opv_pick rfl rfl (fun e => absurd (Eq.trans (Eq.symm e) c3) (by decide)) (fun _ => rfl) rfl) ?_
    refine RL.opD (by decide) (opv_assign rfl rfl) ?_
    refine RL.nil ?_
    have ey2 := Option.some.inj hy2
    subst ey2
    refine onlyN ?_
    exact ⟨⟨rfl, rfl, rfl, rfl, trivial⟩, rfl⟩
  rintro φ' _ ⟨hs2, rfl⟩
  refine thnN ?_
  refine W.sub hs2 ?_
  refine W.ret ?_
  refine thnR ?_
  have er := Option.some.inj hp
  subst er
  exact Rt.one rfl rfl ⟨rfl, rfl⟩
 ·rw [if_neg c2] at hp
  have c2 := eq_false_of_ne_true c2
  refine W.condF rfl c2 ?_
  refine W.skip ?_
  refine thnN ?_
  refine W.seq ?_
  refine W.seq ?_
  obtain ⟨x3, hy3, hp⟩ := Option.bind_eq_some_iff.1 hp
  refine W.cut (fun φ' h' => Fr.sub [(0, u0), (1, u1), (4, (.bool false)), (12, (.bool x1)), (26, (.bool x3))] φ' ∧ h0 = h') ?_ ?_
  ·refine W.region ?_
   refine RL.opD (by decide) (opv_move rfl rfl) ?_
   refine RL.opD (by decide) (opv_fcmp rfl rfl rfl rfl g0 (isF_lit .f64 0 (by decide) (by decide))) ?_
   refine RL.opD (by decide) (opv_move rfl rfl) ?_
   by_cases c4 : (fcmp .eql .f64 a0 (some 0)) = true
   ·rw [if_pos c4] at hy3
    refine RL.yesD rfl rfl c4 (by decide) (opv_move rfl rfl) ?_
    refine RL.yesD rfl rfl c4 (by decide) (opv_fcmp rfl rfl rfl rfl g1 (isF_lit .f64 0 (by decide) (by decide))) ?_
    refine RL.opD (by decide) (opv_pick rfl rfl (fun _ => rfl) (fun e => absurd (Eq.trans (Eq.symm e) c4) (by decide)) rfl) ?_
    refine RL.nil ?_
    have ey3 := Option.some.inj hy3
    subst ey3
    refine onlyN ?_
    exact ⟨⟨rfl, rfl, rfl, rfl, rfl, trivial⟩, rfl⟩
   ·rw [if_neg c4] at hy3
    have c4 := eq_false_of_ne_true c4
    refine RL.noF rfl rfl c4 (by decide) ?_
    refine RL.noF rfl rfl c4 (by decide) ?_
    refine RL.opD (by decide) (opv_pick rfl rfl (fun e => absurd (Eq.trans (Eq.symm e) c4) (by decide)) (fun _ => rfl) rfl) ?_
    refine RL.nil ?_
    have ey3 := Option.some.inj hy3
    subst ey3
    refine onlyN ?_
    exact ⟨⟨rfl, rfl, rfl, rfl, rfl, trivial⟩, rfl⟩
  rintro φ' _ ⟨hs3, rfl⟩
  refine thnN ?_
  refine W.sub hs3 ?_
  by_cases c5 : x3 = true
  ·rw [if_pos c5] at hp
   refine W.condT rfl c5 ?_
   refine W.seq ?_
   refine W.region ?_
   refine RL.opD (by decide) (opv_move rfl rfl) ?_
   refine RL.opF (by decide) (opv_fop rfl rfl rfl rfl (isF_lit .f64 4607182418800017408 (by decide) (by decide)) g0) ?_
   intro v1 fv1
   refine RL.opD (by decide) (opv_fcmp rfl rfl rfl rfl fv1 (isF_lit .f64 0 (by decide) (by decide))) ?_
   refine RL.opD (by decide) (opv_move rfl rfl) ?_
   refine RL.opF (by decide) (opv_fop rfl rfl rfl rfl (isF_lit .f64 4607182418800017408 (by decide) (by decide)) g1) ?_
   intro v2 fv2
   refine RL.opD (by decide) (opv_fcmp rfl rfl rfl rfl fv2 (isF_lit .f64 0 (by decide) (by decide))) ?_
   refine RL.opD (by decide) (opv_bcmp rfl rfl Try.underlying4 rfl rfl) ?_
   refine RL.opD (by decide) (opv_assign rfl rfl) ?_
   refine RL.nil ?_
   refine thnN ?_
   refine W.ret ?_
   refine thnR ?_
   have er := Option.some.inj hp
   subst er
   exact Rt.one rfl rfl ⟨rfl, rfl⟩
  ·rw [if_neg c5] at hp
   have c5 := eq_false_of_ne_true c5
   refine W.condF rfl c5 ?_
   refine W.skip ?_
   refine thnN ?_
   refine W.seq ?_
   refine W.region ?_
   refine RL.opD (by decide) (opv_move rfl rfl) ?_
   refine RL.opD (by decide) (opv_move rfl rfl) ?_
   refine RL.opD (by decide) (opv_fcmp rfl rfl rfl rfl g0 g1) ?_
   refine RL.opD (by decide) (opv_assign rfl rfl) ?_
   refine RL.nil ?_
   refine thnN ?_
   refine W.ret ?_
   have er := Option.some.inj hp
   subst er
   exact Rt.one rfl rfl ⟨rfl, rfl⟩

set_option maxRecDepth 20000 in
theorem impl_IsFinite_ok (h0 : Heap) (u0 : Value) (a0 : Option Nat) (g0 : IsF .f32 u0 a0) (r : Bool) (hp : impl_IsFinite a0 = some r) : CallsH Try.prog 75 ([u0].toArray ++ [].toArray) h0 (fun v h' => v = (.bool r) ∧ h0 = h') := by
 unfold impl_IsFinite at hp
 refine callsH_of_W (l := [u0]) (cap := []) 7 Try.func75 rfl rfl rfl ?_
 refine W.seq ?_
 refine W.region ?_
 refine RL.opD (by decide) (opv_assign rfl rfl) ?_
 refine RL.nil ?_
 refine thnN ?_
 refine W.seq ?_
 refine W.region ?_
 refine RL.opD (by decide) (opv_move rfl rfl) ?_
 refine RL.opD (by decide) (opv_move rfl rfl) ?_
 refine RL.opF (by decide) (opv_fop rfl rfl rfl rfl g0 g0) ?_
 intro v1 fv1
 refine RL.opD (by decide) (opv_fcmp rfl rfl rfl rfl fv1 (isF_lit .f32 0 (by decide) (by decide))) ?_
 refine RL.opD (by decide) (opv_assign rfl rfl) ?_
 refine RL.nil ?_
 refine thnN ?_
 refine W.ret ?_
 have er := Option.some.inj hp
 subst er
 exact Rt.one rfl rfl ⟨rfl, rfl⟩

set_option maxRecDepth 20000 in
theorem math_NaN_ok (h0 : Heap)  (r : Option Nat) (hp : math_NaN = some r) : CallsH Try.prog 145 ([].toArray ++ [].toArray) h0 (fun v h' => IsF .f64 v r ∧ h0 = h') := by
 unfold math_NaN at hp
 refine callsH_of_W (l := []) (cap := []) 2 Try.func145 rfl rfl rfl ?_
 refine W.seq ?_
 refine W.region ?_
 refine RL.opD (by decide) (opv_assign rfl rfl) ?_
 refine RL.nil ?_
 refine thnN ?_
 refine W.seq ?_
 refine W.region ?_
 obtain ⟨x1, hx1, hp⟩ := Option.bind_eq_some_iff.1 hp
 refine RL.opF (by decide) (opv_ext (vs := [(.int .u64 9221120237041090561)]) rfl rfl ⟨rfl, trivial⟩ Try.func171 rfl rfl rfl rfl (fun w => from64_run hx1 w)) ?_
 intro v1 fv1
 refine RL.opD (by decide) (opv_assign rfl rfl) ?_
 refine RL.nil ?_
 refine thnN ?_
 refine W.ret ?_
 have er := Option.some.inj hp
 subst er
 exact Rt.one rfl rfl ⟨fv1, rfl⟩

end Go.H
