/- Functions of the program: what each computes, as a plain function, and that the call comes to it. Written by a program (wip/gen). -/
import Derived.Test.YtjlnfficehomhaaDoorGFacts
import Derived.Test.YtjlnfficehomhaaDoorBase28
import Derived.Test.YtjlnfficehomhaaDoorProg
import Derived.KernelRfl
set_option linter.unusedVariables false
namespace Go.H
open Go Go.Proofs



noncomputable def laws_sameFloat (a0 : Option Nat) (a1 : Option Nat) : Option Bool :=
 (((if (fcmp .neq .f64 a0 a0) = true then some true else some (fcmp .neq .f64 a1 a1)) : Option Bool).bind fun (x1 : Bool) => (if x1 = true then (((if (fcmp .neq .f64 a0 a0) = true then some (fcmp .neq .f64 a1 a1) else some false) : Option Bool).bind fun (x2 : Bool) => some x2) else (((if (fcmp .eql .f64 a0 (some 0)) = true then some (fcmp .eql .f64 a1 (some 0)) else some false) : Option Bool).bind fun (x3 : Bool) => (if x3 = true then some ((fcmp .gtr .f64 (fop .quo .f64 (some 4607182418800017408) a0) (some 0)) == (fcmp .gtr .f64 (fop .quo .f64 (some 4607182418800017408) a1) (some 0))) else some (fcmp .eql .f64 a0 a1)))))

set_option maxRecDepth 20000 in
theorem laws_sameFloat_ok (h0 : Heap) (u0 : Value) (a0 : Option Nat) (g0 : IsF .f64 u0 a0) (u1 : Value) (a1 : Option Nat) (g1 : IsF .f64 u1 a1) (r : Bool) (hp : laws_sameFloat a0 a1 = some r) : CallsH Tryd.prog 39 ([u0, u1].toArray ++ [].toArray) h0 (fun v h' => v = (.bool r) ∧ h0 = h') := by
 unfold laws_sameFloat at hp
 refine callsH_of_W (l := [u0, u1]) (cap := []) 37 Tryd.func39 rfl rfl rfl ?_
 refine W.seq ?_
 refine W.region ?_
 refine RL.opD (by decide) (opv_assign rfl rfl) ?_
 refine RL.nil ?_
 refine thnN ?_
 refine W.seq ?_
 refine W.seq ?_
 obtain ⟨x1, hy1, hp⟩ := Option.bind_eq_some_iff.1 hp
 refine W.cut (fun φ' h' => Fr.sub [(0, u0), (1, u1), (4, (.bool false)), (12, (.bool x1))] φ' ∧ h0 = h') ?_ ?_
 ·refine W.region ?_
  refine RL.opD (by decide) (opv_move rfl rfl) ?_
  refine RL.opD (by decide) (opv_move rfl rfl) ?_
  refine RL.opD (by decide) (opv_fcmp rfl rfl rfl rfl g0 g0) ?_
  refine RL.opD (by decide) (opv_move rfl rfl) ?_
  by_cases c1 : (fcmp .neq .f64 a0 a0) = true
  ·rw [if_pos c1] at hy1
   refine RL.noT rfl rfl c1 (by decide) ?_
   refine RL.noT rfl rfl c1 (by decide) ?_
   refine RL.noT rfl rfl c1 (by decide) ?_
   refine RL.opD (by decide) (opv_pick rfl rfl (fun _ => rfl) (fun e => absurd (Eq.trans (Eq.symm e) c1) (by decide)) rfl) ?_
   refine RL.nil ?_
   have ey1 := Option.some.inj hy1
   subst ey1
   refine onlyN ?_
   exact ⟨⟨rfl, rfl, rfl, rfl, trivial⟩, rfl⟩
  ·rw [if_neg c1] at hy1
   have c1 := eq_false_of_ne_true c1
   refine RL.yesD rfl rfl c1 (by decide) (opv_move rfl rfl) ?_
   refine RL.yesD rfl rfl c1 (by decide) (opv_move rfl rfl) ?_
   refine RL.yesD rfl rfl c1 (by decide) (opv_fcmp rfl rfl rfl rfl g1 g1) ?_
   refine RL.opD (by decide) (opv_pick rfl rfl (fun e => absurd (Eq.trans (Eq.symm e) c1) (by decide)) (fun _ => rfl) rfl) ?_
   refine RL.nil ?_
   have ey1 := Option.some.inj hy1
   subst ey1
   refine onlyN ?_
   exact ⟨⟨rfl, rfl, rfl, rfl, trivial⟩, rfl⟩
 rintro φ' _ ⟨hs1, rfl⟩
 refine thnN ?_
 refine W.sub hs1 ?_
 by_cases c2 : x1 = true
 ·rw [if_pos c2] at hp
  refine W.condT rfl c2 ?_
  refine W.seq ?_
  obtain ⟨x2, hy2, hp⟩ := Option.bind_eq_some_iff.1 hp
  refine W.cut (fun φ' h' => Fr.sub [(0, u0), (1, u1), (12, (.bool x1)), (4, (.bool x2))] φ' ∧ h0 = h') ?_ ?_
  ·refine W.region ?_
   refine RL.opD (by decide) (opv_move rfl rfl) ?_
   refine RL.opD (by decide) (opv_move rfl rfl) ?_
   refine RL.opD (by decide) (opv_fcmp rfl rfl rfl rfl g0 g0) ?_
   refine RL.opD (by decide) (opv_move rfl rfl) ?_
   by_cases c3 : (fcmp .neq .f64 a0 a0) = true
   ·rw [if_pos c3] at hy2
    refine RL.yesD rfl rfl c3 (by decide) (opv_move rfl rfl) ?_
    refine RL.yesD rfl rfl c3 (by decide) (opv_move rfl rfl) ?_
    refine RL.yesD rfl rfl c3 (by decide) (opv_fcmp rfl rfl rfl rfl g1 g1) ?_
    refine RL.opD (by decide) (opv_pick rfl rfl (fun _ => rfl) (fun e => absurd (Eq.trans (Eq.symm e) c3) (by decide)) rfl) ?_
    refine RL.opD (by decide) (opv_assign rfl rfl) ?_
    refine RL.nil ?_
    have ey2 := Option.some.inj hy2
    subst ey2
    refine onlyN ?_
    exact ⟨⟨rfl, rfl, rfl, rfl, trivial⟩, rfl⟩
   ·rw [if_neg c3] at hy2
    have c3 := eq_false_of_ne_true c3
    refine RL.noF rfl rfl c3 (by decide) ?_
    refine RL.noF rfl rfl c3 (by decide) ?_
    refine RL.noF rfl rfl c3 (by decide) ?_
    refine RL.opD (by decide) (opv_pick rfl rfl (fun e => absurd (Eq.trans (Eq.symm e) c3) (by decide)) (fun _ => rfl) rfl) ?_
    refine RL.opD (by decide) (opv_assign rfl rfl) ?_
    refine RL.nil ?_
    have ey2 := Option.some.inj hy2
    subst ey2
    refine onlyN ?_
    exact ⟨⟨rfl, rfl, rfl, rfl, trivial⟩, rfl⟩
  rintro φ' _ ⟨hs2, rfl⟩
  refine thnN ?_
  refine W.sub hs2 ?_
  refine W.ret ?_
  refine thnR ?_
  have er := Option.some.inj hp
  subst er
  exact Rt.one rfl rfl ⟨rfl, rfl⟩
 ·rw [if_neg c2] at hp
  have c2 := eq_false_of_ne_true c2
  refine W.condF rfl c2 ?_
  refine W.skip ?_
  refine thnN ?_
  refine W.seq ?_
  refine W.seq ?_
  obtain ⟨x3, hy3, hp⟩ := Option.bind_eq_some_iff.1 hp
  refine W.cut (fun φ' h' => Fr.sub [(0, u0), (1, u1), (4, (.bool false)), (12, (.bool x1)), (26, (.bool x3))] φ' ∧ h0 = h') ?_ ?_
  ·refine W.region ?_
   refine RL.opD (by decide) (opv_move rfl rfl) ?_
   refine RL.opD (by decide) (opv_fcmp rfl rfl rfl rfl g0 (isF_lit .f64 0 (by decide) (by decide))) ?_
   refine RL.opD (by decide) (opv_move rfl rfl) ?_
   by_cases c4 : (fcmp .eql .f64 a0 (some 0)) = true
   ·rw [if_pos c4] at hy3
    refine RL.yesD rfl rfl c4 (by decide) (opv_move rfl rfl) ?_
    refine RL.yesD rfl rfl c4 (by decide) (opv_fcmp rfl rfl rfl rfl g1 (isF_lit .f64 0 (by decide) (by decide))) ?_
    refine RL.opD (by decide) (opv_pick rfl rfl (fun _ => rfl) (fun e => absurd (Eq.trans (Eq.symm e) c4) (by decide)) rfl) ?_
    refine RL.nil ?_
    have ey3 := Option.some.inj hy3
    subst ey3
    refine onlyN ?_
    exact ⟨⟨rfl, rfl, rfl, rfl, rfl, trivial⟩, rfl⟩
   ·rw [if_neg c4] at hy3
    have c4 := eq_false_of_ne_true c4
    refine RL.noF rfl rfl c4 (by decide) ?_
    refine RL.noF rfl rfl c4 (by decide) ?_
    refine RL.opD (by decide) (opv_pick rfl rfl (fun e => absurd (Eq.trans (Eq.symm e) c4) (by decide)) (fun _ => rfl) rfl) ?_
    refine RL.nil ?_
    have ey3 := Option.some.inj hy3
    subst ey3
    refine onlyN ?_
    exact ⟨⟨rfl, rfl, rfl, rfl, rfl, trivial⟩, rfl⟩
  rintro φ' _ ⟨hs3, rfl⟩
  refine thnN ?_
  refine W.sub hs3 ?_
  by_cases c5 : x3 = true
  ·rw [if_pos c5] at hp
   refine W.condT rfl c5 ?_
   refine W.seq ?_
   refine W.region ?_
   refine RL.opD (by decide) (opv_move rfl rfl) ?_
   refine RL.opF (by decide) (opv_fop rfl rfl rfl rfl (isF_lit .f64 4607182418800017408 (by decide) (by decide)) g0) ?_
   intro v1 fv1
   refine RL.opD (by decide) (opv_fcmp rfl rfl rfl rfl fv1 (isF_lit .f64 0 (by decide) (by decide))) ?_
   refine RL.opD (by decide) (opv_move rfl rfl) ?_
   refine RL.opF (by decide) (opv_fop rfl rfl rfl rfl (isF_lit .f64 4607182418800017408 (by decide) (by decide)) g1) ?_
   intro v2 fv2
   refine RL.opD (by decide) (opv_fcmp rfl rfl rfl rfl fv2 (isF_lit .f64 0 (by decide) (by decide))) ?_
   refine RL.opD (by decide) (opv_bcmp rfl rfl Tryd.underlying4 rfl rfl) ?_
   refine RL.opD (by decide) (opv_assign rfl rfl) ?_
   refine RL.nil ?_
   refine thnN ?_
   refine W.ret ?_
   refine thnR ?_
   have er := Option.some.inj hp
   subst er
   exact Rt.one rfl rfl ⟨rfl, rfl⟩
  ·rw [if_neg c5] at hp
   have c5 := eq_false_of_ne_true c5
   refine W.condF rfl c5 ?_
   refine W.skip ?_
   refine thnN ?_
   refine W.seq ?_
   refine W.region ?_
   refine RL.opD (by decide) (opv_move rfl rfl) ?_
   refine RL.opD (by decide) (opv_move rfl rfl) ?_
   refine RL.opD (by decide) (opv_fcmp rfl rfl rfl rfl g0 g1) ?_
   refine RL.opD (by decide) (opv_assign rfl rfl) ?_
   refine RL.nil ?_
   refine thnN ?_
   refine W.ret ?_
   have er := Option.some.inj hp
   subst er
   exact Rt.one rfl rfl ⟨rfl, rfl⟩

end Go.H
