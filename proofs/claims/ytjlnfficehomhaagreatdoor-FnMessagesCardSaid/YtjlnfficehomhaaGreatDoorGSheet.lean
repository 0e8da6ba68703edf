/- Functions of the program: what each computes, as a plain function, and that the call comes to it. Written by a program (wip/gen). -/
import Derived.Test.YtjlnfficehomhaaGreatDoorGBase
import Derived.Test.YtjlnfficehomhaaGreatDoorLibB
import Derived.Test.YtjlnfficehomhaaGreatDoorProg
import Derived.KernelRfl
set_option linter.unusedVariables false
namespace Go.H
open Go Go.Proofs



noncomputable def impl_within (a0 : Int) (a1 : Int) (a2 : Int) : Option Bool :=
 (((if (decide (a0 ≥ a1)) = true then some (decide (a0 ≤ a2)) else some false) : Option Bool).bind fun (x1 : Bool) => some x1)

noncomputable def impl_areBetween.s0 (a0 : List (Option Nat)) (a1 : Option Nat) (x1 : Bool) (x2 : Int) : Option ((Bool × Int) ⊕ ((Bool × Int × Bool) ⊕ Bool)) :=
 (if (decide (x2 < (a0.length : Int))) = true then ((idx a0 x2).bind fun (x6 : Option Nat) => (((if (fcmp .geq .f32 x6 (some 0)) = true then some (!(fcmp .leq .f32 x6 a1)) else some (!false)) : Option Bool).bind fun (x7 : Bool) => (if x7 = true then some (.inr (.inr false)) else some (.inl (x1, IntKind.wrap .i64 (x2 + 1)))))) else some (.inr (.inl (x1, x2, decide (x2 < (a0.length : Int))))))

noncomputable def impl_areBetween (a0 : List (Option Nat)) (a1 : Option Nat) : Option Bool :=
 ((loopF (fun (s : (Bool × Int)) => impl_areBetween.s0 a0 a1 s.1 s.2) (false, 0)).bind fun (y1 : ((Bool × Int × Bool) ⊕ Bool)) => match y1 with | .inl (x3, x4, x5) => some true | .inr r1 => some r1)

noncomputable def impl_ValidSheet (a0_0 : Int) (a0_1 : Int) (a0_2 : Bool) (a0_3 : List (Option Nat)) (a0_4 : List (Option Nat)) : Option Bool :=
 ((((impl_within a0_0 3 16).bind fun (x2 : Bool) => (if (!x2) = true then some true else ((impl_within a0_1 3 16).bind fun (x3 : Bool) => (if (!x3) = true then some true else some (decide ((IntKind.wrap .i64 (a0_0 * a0_1)) > 256)))))) : Option Bool).bind fun (x1 : Bool) => (if x1 = true then some false else (((if ((a0_3.length : Int) == (IntKind.wrap .i64 (a0_0 * a0_1))) = true then (if ((a0_4.length : Int) == (IntKind.wrap .i64 (a0_0 * a0_1))) = true then ((impl_areBetween a0_3 (some 1056964608)).bind fun (x5 : Bool) => (if x5 = true then ((impl_areBetween a0_4 (some 1065353216)).bind fun (x6 : Bool) => some x6) else some false)) else some false) else some false) : Option Bool).bind fun (x4 : Bool) => some x4)))

noncomputable def spec_l00In (a0 : Int) (a1 : Int) (a2 : Int) : Option Bool :=
 (((if (decide (a0 ≥ a1)) = true then some (decide (a0 ≤ a2)) else some false) : Option Bool).bind fun (x1 : Bool) => some x1)

noncomputable def spec_l02Sides (a0 : Int) (a1 : Int) : Option Bool :=
 ((((spec_l00In a0 3 16).bind fun (x2 : Bool) => (if x2 = true then ((spec_l00In a1 3 16).bind fun (x3 : Bool) => (if x3 = true then some (decide ((IntKind.wrap .i64 (a0 * a1)) ≤ 256)) else some false)) else some false)) : Option Bool).bind fun (x1 : Bool) => some x1)

noncomputable def spec_l02Is.s0 (a0_3 : List (Option Nat)) (a0_4 : List (Option Nat)) (x3 : Bool) (x4 : Int) : Option ((Bool × Int) ⊕ ((Bool × Int × Bool) ⊕ Bool)) :=
 (if (decide (x4 < (a0_3.length : Int))) = true then ((((idx a0_3 x4).bind fun (x9 : Option Nat) => (if (!(fcmp .geq .f32 x9 (some 0))) = true then some true else ((idx a0_3 x4).bind fun (x10 : Option Nat) => (if (fcmp .gtr .f32 x10 (some 1056964608)) = true then some true else ((idx a0_4 x4).bind fun (x11 : Option Nat) => (if (!(fcmp .geq .f32 x11 (some 0))) = true then some true else ((idx a0_4 x4).bind fun (x12 : Option Nat) => some (fcmp .gtr .f32 x12 (some 1065353216))))))))) : Option Bool).bind fun (x8 : Bool) => (if x8 = true then some (.inr (.inr false)) else some (.inl (x3, IntKind.wrap .i64 (x4 + 1))))) else some (.inr (.inl (x3, x4, decide (x4 < (a0_3.length : Int))))))

noncomputable def spec_l02Is (a0_0 : Int) (a0_1 : Int) (a0_2 : Bool) (a0_3 : List (Option Nat)) (a0_4 : List (Option Nat)) : Option Bool :=
 ((((spec_l02Sides a0_0 a0_1).bind fun (x2 : Bool) => (if (!x2) = true then some true else (if ((a0_3.length : Int) != (IntKind.wrap .i64 (a0_0 * a0_1))) = true then some true else some ((a0_4.length : Int) != (IntKind.wrap .i64 (a0_0 * a0_1)))))) : Option Bool).bind fun (x1 : Bool) => (if x1 = true then some false else ((loopF (fun (s : (Bool × Int)) => spec_l02Is.s0 a0_3 a0_4 s.1 s.2) (false, 0)).bind fun (y2 : ((Bool × Int × Bool) ⊕ Bool)) => match y2 with | .inl (x5, x6, x7) => some true | .inr r1 => some r1)))

noncomputable def spec_l00Min (a0 : Int) (a1 : Int) : Option Int :=
 (if (decide (a0 < a1)) = true then some a0 else some a1)

noncomputable def impl_copyOf (a0 : List (Option Nat)) : Option (List (Option Nat)) :=
 (if ([] : List (Option Nat)).length + a0.length ≤ 1000000000 then some (([] : List (Option Nat)) ++ a0) else none)

set_option maxRecDepth 20000 in
theorem impl_within_ok (h0 : Heap) (a0 : Int) (a1 : Int) (a2 : Int) (r : Bool) (hp : impl_within a0 a1 a2 = some r) : CallsH Tryz.prog 22 ([(.int .i64 a0), (.int .i64 a1), (.int .i64 a2)].toArray ++ [].toArray) h0 (fun v h' => v = (.bool r) ∧ h0 = h') := by
 unfold impl_within at hp
 refine callsH_of_W (l := [(.int .i64 a0), (.int .i64 a1), (.int .i64 a2)]) (cap := []) 15 Tryz.func22 rfl rfl rfl ?_
 refine W.seq ?_
 refine W.region ?_
 refine RL.opD (by decide) (opv_assign rfl rfl) ?_
 refine RL.nil ?_
 refine thnN ?_
 refine W.seq ?_
 obtain ⟨x1, hy1, hp⟩ := Option.bind_eq_some_iff.1 hp
 refine W.cut (fun φ' h' => Fr.sub [(0, (.int .i64 a0)), (1, (.int .i64 a1)), (2, (.int .i64 a2)), (6, (.bool x1))] φ' ∧ h0 = h') ?_ ?_
 ·refine W.region ?_
  refine RL.opD (by decide) (opv_move rfl rfl) ?_
  refine RL.opD (by decide) (opv_move rfl rfl) ?_
  refine RL.opD (by decide) (opv_icmp rfl rfl rfl rfl) ?_
  refine RL.opD (by decide) (opv_move rfl rfl) ?_
  by_cases c1 : (decide (a0 ≥ a1)) = true
  ·rw [if_pos c1] at hy1
   refine RL.yesD rfl rfl c1 (by decide) (opv_move rfl rfl) ?_
   refine RL.yesD rfl rfl c1 (by decide) (opv_move rfl rfl) ?_
   refine RL.yesD rfl rfl c1 (by decide) (opv_icmp rfl rfl rfl rfl) ?_
   refine RL.opD (by decide) (opv_pick rfl rfl (fun _ => rfl) (fun e => absurd (Eq.trans (Eq.symm e) c1) (by decide)) rfl) ?_
   refine RL.opD (by decide) (opv_assign rfl rfl) ?_
   refine RL.nil ?_
   have ey1 := Option.some.inj hy1
   subst ey1
   refine onlyN ?_
   exact ⟨⟨rfl, rfl, rfl, rfl, trivial⟩, rfl⟩
  ·rw [if_neg c1] at hy1
   have c1 := eq_false_of_ne_true c1
   refine RL.noF rfl rfl c1 (by decide) ?_
   refine RL.noF rfl rfl c1 (by decide) ?_
   refine RL.noF rfl rfl c1 (by decide) ?_
   refine RL.opD (by decide) (opv_pick rfl rfl (fun e => absurd (Eq.trans (Eq.symm e) c1) (by decide)) (fun _ => rfl) rfl) ?_
   refine RL.opD (by decide) (opv_assign rfl rfl) ?_
   refine RL.nil ?_
   have ey1 := Option.some.inj hy1
   subst ey1
   refine onlyN ?_
   exact ⟨⟨rfl, rfl, rfl, rfl, trivial⟩, rfl⟩
 rintro φ' _ ⟨hs1, rfl⟩
 refine thnN ?_
 refine W.sub hs1 ?_
 refine W.ret ?_
 have er := Option.some.inj hp
 subst er
 exact Rt.one rfl rfl ⟨rfl, rfl⟩

set_option maxRecDepth 20000 in
theorem impl_areBetween_ok (h0 : Heap) (u0 : Value) (a0 : List (Option Nat)) (g0 : SL (kF .f32) h0.size h0 u0 a0) (u1 : Value) (a1 : Option Nat) (g1 : IsF .f32 u1 a1) (r : Bool) (hp : impl_areBetween a0 a1 = some r) : CallsH Tryz.prog 42 ([u0, u1].toArray ++ [].toArray) h0 (fun v h' => v = (.bool r) ∧ h0 = h') := by
 unfold impl_areBetween at hp
 refine callsH_of_W (l := [u0, u1]) (cap := []) 22 Tryz.func42 rfl rfl rfl ?_
 refine W.seq ?_
 refine W.region ?_
 refine RL.opD (by decide) (opv_assign rfl rfl) ?_
 refine RL.nil ?_
 refine thnN ?_
 refine W.seq ?_
 refine W.seq ?_
 refine W.region ?_
 refine RL.opD (by decide) (opv_move rfl rfl) ?_
 refine RL.opD (by decide) (opv_len rfl Tryz.underlying24 rfl g0) ?_
 refine RL.opD (by decide) (opv_move rfl rfl) ?_
 refine RL.nil ?_
 refine thnN ?_
 obtain ⟨y1, hy1, hp⟩ := Option.bind_eq_some_iff.1 hp
 refine W.cut (fun φ' h' => ∃ x3, ∃ x4, ∃ x5, y1 = .inl (x3, x4, x5) ∧ Fr.sub [(0, u0), (1, u1), (7, u0), (8, (.int .i64 (a0.length : Int))), (4, (.bool x3)), (9, (.int .i64 x4)), (10, (.bool x5))] φ' ∧ h0 = h') ?_ ?_
 ·refine W.block ?_
  refine W.loopS (fun (s : (Bool × Int)) φ' h' => Fr.sub [(0, u0), (1, u1), (7, u0), (8, (.int .i64 (a0.length : Int))), (4, (.bool s.1)), (9, (.int .i64 s.2))] φ' ∧ h0 = h') hy1 ⟨⟨rfl, rfl, rfl, rfl, rfl, rfl, trivial⟩, rfl⟩ ?_
  rintro ⟨x1, x2⟩ φ' _ o1 ⟨hs1, rfl⟩ ho1 hy1
  have hs1 : Fr.sub [(0, u0), (1, u1), (7, u0), (8, (.int .i64 (a0.length : Int))), (4, (.bool x1)), (9, (.int .i64 x2))] φ' := hs1
  have ho1 : impl_areBetween.s0 a0 a1 x1 x2 = some o1 := ho1
  unfold impl_areBetween.s0 at ho1
  refine W.sub hs1 ?_
  refine W.seq ?_
  refine W.region ?_
  refine RL.opD (by decide) (opv_icmp rfl rfl rfl rfl) ?_
  refine RL.nil ?_
  refine thnN ?_
  refine W.seq ?_
  by_cases c1 : (decide (x2 < (a0.length : Int))) = true
  ·rw [if_pos c1] at ho1
   refine W.condT rfl c1 ?_
   refine W.skip ?_
   refine thnN ?_
   refine W.seq ?_
   refine W.block ?_
   refine W.seq ?_
   refine W.region ?_
   obtain ⟨x6, hx6, ho1⟩ := Option.bind_eq_some_iff.1 ho1
   refine RL.op _ (by decide) (opv_index rfl Tryz.underlying24 (by rw [Tryz.size66]; rfl) rfl rfl g0 hx6) ?_
   rintro v1 _ ⟨fv1, rfl⟩
   refine RL.opF (by decide) (opv_loadF rfl Tryz.one66 rfl fv1 g0 hx6) ?_
   intro v2 fv2
   refine RL.opD (by decide) (opv_assign rfl rfl) ?_
   refine RL.nil ?_
   refine thnN ?_
   refine W.seq ?_
   obtain ⟨x7, hy2, ho1⟩ := Option.bind_eq_some_iff.1 ho1
   refine W.cut (fun φ' h' => Fr.sub [(0, u0), (1, u1), (7, u0), (8, (.int .i64 (a0.length : Int))), (4, (.bool x1)), (9, (.int .i64 x2)), (10, (.bool (decide (x2 < (a0.length : Int))))), (6, v2), (20, (.bool x7))] φ' ∧ h0 = h') ?_ ?_
   ·refine W.region ?_
    refine RL.opD (by decide) (opv_move rfl rfl) ?_
    refine RL.opD (by decide) (opv_fcmp rfl rfl rfl rfl fv2 (isF_lit .f32 0 (by decide) (by decide))) ?_
    refine RL.opD (by decide) (opv_move rfl rfl) ?_
    by_cases c2 : (fcmp .geq .f32 x6 (some 0)) = true
    ·rw [if_pos c2] at hy2
     refine RL.yesD rfl rfl c2 (by decide) (opv_move rfl rfl) ?_
     refine RL.yesD rfl rfl c2 (by decide) (opv_move rfl rfl) ?_
     refine RL.yesD rfl rfl c2 (by decide) (opv_fcmp rfl rfl rfl rfl fv2 g1) ?_
     refine RL.opD (by decide) (opv_pick rfl rfl (fun _ => rfl) (fun e => absurd (Eq.trans (Eq.symm e) c2) (by decide)) rfl) ?_
     refine RL.opD (by decide) (opv_not rfl rfl) ?_
     refine RL.nil ?_
     have ey2 := Option.some.inj hy2
     subst ey2
     refine onlyN ?_
     exact ⟨⟨rfl, rfl, rfl, rfl, rfl, rfl, rfl, rfl, rfl, trivial⟩, rfl⟩
    ·rw [if_neg c2] at hy2
     have c2 := eq_false_of_ne_true c2
     refine RL.noF rfl rfl c2 (by decide) ?_
     refine RL.noF rfl rfl c2 (by decide) ?_
     refine RL.noF rfl rfl c2 (by decide) ?_
     refine RL.opD (by decide) (opv_pick rfl rfl (fun e => absurd (Eq.trans (Eq.symm e) c2) (by decide)) (fun _ => rfl) rfl) ?_
     refine RL.opD (by decide) (opv_not rfl rfl) ?_
     refine RL.nil ?_
     have ey2 := Option.some.inj hy2
     subst ey2
     refine onlyN ?_
     exact ⟨⟨rfl, rfl, rfl, rfl, rfl, rfl, rfl, rfl, rfl, trivial⟩, rfl⟩
   rintro φ' _ ⟨hs3, rfl⟩
   refine thnN ?_
   refine W.sub hs3 ?_
   by_cases c3 : x7 = true
   ·rw [if_pos c3] at ho1
    refine W.condT rfl c3 ?_
    refine W.seq ?_
    refine W.region ?_
    refine RL.opD (by decide) (opv_assign rfl rfl) ?_
    refine RL.nil ?_
    refine thnN ?_
    refine W.ret ?_
    refine blkR ?_
    refine thnR ?_
    have eo1 := Option.some.inj ho1
    subst eo1
    have ey1 := hy1 _ rfl
    subst ey1
    try dsimp only at hp
    refine rndR ?_
    refine blkR ?_
    refine onlyR ?_
    refine thnR ?_
    have er := Option.some.inj hp
    subst er
    exact Rt.one rfl rfl ⟨rfl, rfl⟩
   ·rw [if_neg c3] at ho1
    have c3 := eq_false_of_ne_true c3
    refine W.condF rfl c3 ?_
    refine W.skip ?_
    refine blkN ?_
    refine thnN ?_
    refine W.region ?_
    refine RL.opD (by decide) (opv_add rfl rfl rfl) ?_
    refine RL.opD (by decide) (opv_move rfl rfl) ?_
    refine RL.nil ?_
    have eo1 := Option.some.inj ho1
    subst eo1
    refine rndN (s' := (x1, IntKind.wrap .i64 (x2 + 1))) rfl ?_
    exact ⟨⟨rfl, rfl, rfl, rfl, rfl, rfl, trivial⟩, rfl⟩
  ·rw [if_neg c1] at ho1
   have c1 := eq_false_of_ne_true c1
   refine W.condF rfl c1 ?_
   refine W.exit ?_
   refine thnX ?_
   refine rndX ?_
   refine blkI ?_
   have eo1 := Option.some.inj ho1
   subst eo1
   have ey1 := hy1 _ rfl
   subst ey1
   refine onlyN ?_
   exact ⟨x1, x2, decide (x2 < (a0.length : Int)), rfl, ⟨rfl, rfl, rfl, rfl, rfl, rfl, rfl, trivial⟩, rfl⟩
 rintro φ' _ ⟨x3, x4, x5, rfl, hs2, rfl⟩
 try dsimp only at hp
 refine thnN ?_
 refine W.sub hs2 ?_
 refine W.seq ?_
 refine W.region ?_
 refine RL.opD (by decide) (opv_assign rfl rfl) ?_
 refine RL.nil ?_
 refine thnN ?_
 refine W.ret ?_
 have er := Option.some.inj hp
 subst er
 exact Rt.one rfl rfl ⟨rfl, rfl⟩

set_option maxRecDepth 20000 in
theorem impl_ValidSheet_ok (h0 : Heap) (a0_0 : Int) (a0_1 : Int) (a0_2 : Bool) (u0_3 : Value) (a0_3 : List (Option Nat)) (g0_3 : SL (kF .f32) h0.size h0 u0_3 a0_3) (u0_4 : Value) (a0_4 : List (Option Nat)) (g0_4 : SL (kF .f32) h0.size h0 u0_4 a0_4) (r : Bool) (hp : impl_ValidSheet a0_0 a0_1 a0_2 a0_3 a0_4 = some r) : CallsH Tryz.prog 18 ([(.agg (List.toArray (α := Value) [(.int .i64 a0_0), (.int .i64 a0_1), (.bool a0_2), u0_3, u0_4]))].toArray ++ [].toArray) h0 (fun v h' => v = (.bool r) ∧ Mod [] h0 h' ∧ Sep [] h0.size h' []) := by
 unfold impl_ValidSheet at hp
 refine callsH_of_W (l := [(.agg (List.toArray (α := Value) [(.int .i64 a0_0), (.int .i64 a0_1), (.bool a0_2), u0_3, u0_4]))]) (cap := []) 45 Tryz.func18 rfl rfl rfl ?_
 refine W.seq ?_
 refine W.region ?_
 refine RL.op _ (by decide) (opS_boxed (opv_boxA (cs := [(.int .i64 a0_0), (.int .i64 a0_1), (.bool a0_2), u0_3, u0_4]) rfl rfl)) ?_
 rintro _ hp1 ⟨bb1, rfl, MT_1, T_1⟩
 obtain ⟨X_1, S_1⟩ := Sep.turn0 (Mod.refl [] h0) (Sep.nil [] h0.size h0) MT_1 T_1
 refine RL.opD (by decide) (opv_assign rfl rfl) ?_
 refine RL.nil ?_
 refine thnN ?_
 refine W.seq ?_
 refine W.region ?_
 refine RL.opD (by decide) (opv_fieldAddr rfl Tryz.fo26_0 rfl) ?_
 refine RL.opD (by decide) (opv_loadB rfl Tryz.one2 rfl (Sep.at (o := boxO bb1 [(.int .i64 a0_0), (.int .i64 a0_1), (.bool a0_2), u0_3, u0_4]) S_1 0 rfl) rfl) ?_
 refine RL.opD (by decide) (opv_fieldAddr rfl Tryz.fo26_1 rfl) ?_
 refine RL.opD (by decide) (opv_loadB rfl Tryz.one2 rfl (Sep.at (o := boxO bb1 [(.int .i64 a0_0), (.int .i64 a0_1), (.bool a0_2), u0_3, u0_4]) S_1 0 rfl) rfl) ?_
 refine RL.opD (by decide) (opv_mul rfl rfl rfl) ?_
 refine RL.opD (by decide) (opv_assign rfl rfl) ?_
 refine RL.nil ?_
 refine thnN ?_
 refine W.seq ?_
 refine W.seq ?_
 obtain ⟨x1, hy1, hp⟩ := Option.bind_eq_some_iff.1 hp
 refine W.cut (fun φ' h' => Fr.sub [(0, (.agg (List.toArray (α := Value) [(.int .i64 a0_0), (.int .i64 a0_1), (.bool a0_2), u0_3, u0_4]))), (1, (.pointer (some ⟨bb1, 0, none⟩))), (2, (.bool false)), (3, (.int .i64 (IntKind.wrap .i64 (a0_0 * a0_1)))), (22, (.bool x1))] φ' ∧ hp1 = h') ?_ ?_
 ·refine W.region ?_
  refine RL.opD (by decide) (opv_fieldAddr rfl Tryz.fo26_0 rfl) ?_
  refine RL.opD (by decide) (opv_loadB rfl Tryz.one2 rfl (Sep.at (o := boxO bb1 [(.int .i64 a0_0), (.int .i64 a0_1), (.bool a0_2), u0_3, u0_4]) S_1 0 rfl) rfl) ?_
  obtain ⟨x2, hx2, hy1⟩ := Option.bind_eq_some_iff.1 hy1
  refine RL.op _ (by decide) (opv_call (cap := []) (impl_within_ok _ _ _ _ _ hx2) rfl rfl ⟨rfl, rfl, rfl, trivial⟩ Tryz.func22 rfl rfl) ?_
  rintro _ _ ⟨rfl, rfl⟩
  refine RL.opD (by decide) (opv_not rfl rfl) ?_
  refine RL.opD (by decide) (opv_move rfl rfl) ?_
  by_cases c1 : (!x2) = true
  ·rw [if_pos c1] at hy1
   refine RL.noT rfl rfl c1 (by decide) ?_
   refine RL.noT rfl rfl c1 (by decide) ?_
   refine RL.noT rfl rfl c1 (by decide) ?_
   refine RL.noT rfl rfl c1 (by decide) ?_
   refine RL.opD (by decide) (opv_pick rfl rfl (fun _ => rfl) (fun e => absurd (Eq.trans (Eq.symm e) c1) (by decide)) rfl) ?_
   refine RL.opD (by decide) (opv_move rfl rfl) ?_
   refine RL.noT rfl rfl rfl (by decide) ?_
   refine RL.noT rfl rfl rfl (by decide) ?_
   refine RL.opD (by decide) (opv_pick rfl rfl (fun _ => rfl) (fun e => absurd (Eq.trans (Eq.symm e) rfl) (by decide)) rfl) ?_
   refine RL.nil ?_
   have ey1 := Option.some.inj hy1
   subst ey1
   refine onlyN ?_
   exact ⟨⟨rfl, rfl, rfl, rfl, rfl, trivial⟩, rfl⟩
  ·rw [if_neg c1] at hy1
   have c1 := eq_false_of_ne_true c1
   refine RL.yesD rfl rfl c1 (by decide) (opv_fieldAddr rfl Tryz.fo26_1 rfl) ?_
   refine RL.yesD rfl rfl c1 (by decide) (opv_loadB rfl Tryz.one2 rfl (Sep.at (o := boxO bb1 [(.int .i64 a0_0), (.int .i64 a0_1), (.bool a0_2), u0_3, u0_4]) S_1 0 rfl) rfl) ?_
   obtain ⟨x3, hx3, hy1⟩ := Option.bind_eq_some_iff.1 hy1
   refine RL.yes _ rfl rfl c1 (by decide) (opv_call (cap := []) (impl_within_ok _ _ _ _ _ hx3) rfl rfl ⟨rfl, rfl, rfl, trivial⟩ Tryz.func22 rfl rfl) ?_
   rintro _ _ ⟨rfl, rfl⟩
   refine RL.yesD rfl rfl c1 (by decide) (opv_not rfl rfl) ?_
   refine RL.opD (by decide) (opv_pick rfl rfl (fun e => absurd (Eq.trans (Eq.symm e) c1) (by decide)) (fun _ => rfl) rfl) ?_
   refine RL.opD (by decide) (opv_move rfl rfl) ?_
   by_cases c2 : (!x3) = true
   ·rw [if_pos c2] at hy1
    refine RL.noT rfl rfl c2 (by decide) ?_
    refine RL.noT rfl rfl c2 (by decide) ?_
    refine RL.opD (by decide) (opv_pick rfl rfl (fun _ => rfl) (fun e => absurd (Eq.trans (Eq.symm e) c2) (by decide)) rfl) ?_
    refine RL.nil ?_
    have ey1 := Option.some.inj hy1
    subst ey1
    refine onlyN ?_
    exact ⟨⟨rfl, rfl, rfl, rfl, rfl, trivial⟩, rfl⟩
   ·rw [if_neg c2] at hy1
    have c2 := eq_false_of_ne_true c2
    refine RL.yesD rfl rfl c2 (by decide) (opv_move rfl rfl) ?_
    refine RL.yesD rfl rfl c2 (by decide) (opv_icmp rfl rfl rfl rfl) ?_
    refine RL.opD (by decide) (opv_pick rfl rfl (fun e => absurd (Eq.trans (Eq.symm e) c2) (by decide)) (fun _ => rfl) rfl) ?_
    refine RL.nil ?_
    have ey1 := Option.some.inj hy1
    subst ey1
    refine onlyN ?_
    exact ⟨⟨rfl, rfl, rfl, rfl, rfl, trivial⟩, rfl⟩
 rintro φ' _ ⟨hs1, rfl⟩
 refine thnN ?_
 refine W.sub hs1 ?_
 by_cases c3 : x1 = true
 ·rw [if_pos c3] at hp
  refine W.condT rfl c3 ?_
  refine W.seq ?_
  refine W.region ?_
  refine RL.opD (by decide) (opv_assign rfl rfl) ?_
  refine RL.nil ?_
  refine thnN ?_
  refine W.ret ?_
  refine thnR ?_
  have er := Option.some.inj hp
  subst er
  exact Rt.one rfl rfl ⟨rfl, X_1, (Sep.nil _ _ _)⟩
 ·rw [if_neg c3] at hp
  have c3 := eq_false_of_ne_true c3
  refine W.condF rfl c3 ?_
  refine W.skip ?_
  refine thnN ?_
  refine W.seq ?_
  obtain ⟨x4, hy2, hp⟩ := Option.bind_eq_some_iff.1 hp
  refine W.cut (fun φ' h' => Fr.sub [(0, (.agg (List.toArray (α := Value) [(.int .i64 a0_0), (.int .i64 a0_1), (.bool a0_2), u0_3, u0_4]))), (1, (.pointer (some ⟨bb1, 0, none⟩))), (3, (.int .i64 (IntKind.wrap .i64 (a0_0 * a0_1)))), (22, (.bool x1)), (2, (.bool x4))] φ' ∧ hp1 = h') ?_ ?_
  ·refine W.region ?_
   refine RL.opD (by decide) (opv_fieldAddr rfl Tryz.fo26_3 rfl) ?_
   refine RL.opD (by decide) (opv_loadB rfl Tryz.one24 rfl (Sep.at (o := boxO bb1 [(.int .i64 a0_0), (.int .i64 a0_1), (.bool a0_2), u0_3, u0_4]) S_1 0 rfl) rfl) ?_
   refine RL.opD (by decide) (opv_len rfl Tryz.underlying24 rfl (SL.mod g0_3 X_1 (Nat.le_refl _) nob)) ?_
   refine RL.opD (by decide) (opv_move rfl rfl) ?_
   refine RL.opD (by decide) (opv_icmp rfl rfl rfl rfl) ?_
   refine RL.opD (by decide) (opv_move rfl rfl) ?_
   by_cases c4 : ((a0_3.length : Int) == (IntKind.wrap .i64 (a0_0 * a0_1))) = true
   ·rw [if_pos c4] at hy2
    refine RL.yesD rfl rfl c4 (by decide) (opv_fieldAddr rfl Tryz.fo26_4 rfl) ?_
    refine RL.yesD rfl rfl c4 (by decide) (opv_loadB rfl Tryz.one24 rfl (Sep.at (o := boxO bb1 [(.int .i64 a0_0), (.int .i64 a0_1), (.bool a0_2), u0_3, u0_4]) S_1 0 rfl) rfl) ?_
    refine RL.yesD rfl rfl c4 (by decide) (opv_len rfl Tryz.underlying24 rfl (SL.mod g0_4 X_1 (Nat.le_refl _) nob)) ?_
    refine RL.yesD rfl rfl c4 (by decide) (opv_move rfl rfl) ?_
    refine RL.yesD rfl rfl c4 (by decide) (opv_icmp rfl rfl rfl rfl) ?_
    refine RL.opD (by decide) (opv_pick rfl rfl (fun _ => rfl) (fun e => absurd (Eq.trans (Eq.symm e) c4) (by decide)) rfl) ?_
    refine RL.opD (by decide) (opv_move rfl rfl) ?_
    by_cases c5 : ((a0_4.length : Int) == (IntKind.wrap .i64 (a0_0 * a0_1))) = true
    ·rw [if_pos c5] at hy2
     refine RL.yesD rfl rfl c5 (by decide) (opv_fieldAddr rfl Tryz.fo26_3 rfl) ?_
     refine RL.yesD rfl rfl c5 (by decide) (opv_loadB rfl Tryz.one24 rfl (Sep.at (o := boxO bb1 [(.int .i64 a0_0), (.int .i64 a0_1), (.bool a0_2), u0_3, u0_4]) S_1 0 rfl) rfl) ?_
     obtain ⟨x5, hx5, hy2⟩ := Option.bind_eq_some_iff.1 hy2
     refine RL.yes _ rfl rfl c5 (by decide) (opv_call (cap := []) (impl_areBetween_ok _ _ _ (SL.up (SL.mod g0_3 X_1 (Nat.le_refl _) nob) (Nat.le_trans (Nat.le_refl _) (Mod.size X_1))) _ _ (isF_lit .f32 1056964608 (by decide) (by decide)) _ hx5) rfl rfl ⟨rfl, rfl, trivial⟩ Tryz.func42 rfl rfl) ?_
     rintro _ _ ⟨rfl, rfl⟩
     refine RL.opD (by decide) (opv_pick rfl rfl (fun _ => rfl) (fun e => absurd (Eq.trans (Eq.symm e) c5) (by decide)) rfl) ?_
     refine RL.opD (by decide) (opv_move rfl rfl) ?_
     by_cases c6 : x5 = true
     ·rw [if_pos c6] at hy2
      refine RL.yesD rfl rfl c6 (by decide) (opv_fieldAddr rfl Tryz.fo26_4 rfl) ?_
      refine RL.yesD rfl rfl c6 (by decide) (opv_loadB rfl Tryz.one24 rfl (Sep.at (o := boxO bb1 [(.int .i64 a0_0), (.int .i64 a0_1), (.bool a0_2), u0_3, u0_4]) S_1 0 rfl) rfl) ?_
      obtain ⟨x6, hx6, hy2⟩ := Option.bind_eq_some_iff.1 hy2
      refine RL.yes _ rfl rfl c6 (by decide) (opv_call (cap := []) (impl_areBetween_ok _ _ _ (SL.up (SL.mod g0_4 X_1 (Nat.le_refl _) nob) (Nat.le_trans (Nat.le_refl _) (Mod.size X_1))) _ _ (isF_lit .f32 1065353216 (by decide) (by decide)) _ hx6) rfl rfl ⟨rfl, rfl, trivial⟩ Tryz.func42 rfl rfl) ?_
      rintro _ _ ⟨rfl, rfl⟩
      refine RL.opD (by decide) (opv_pick rfl rfl (fun _ => rfl) (fun e => absurd (Eq.trans (Eq.symm e) c6) (by decide)) rfl) ?_
      refine RL.opD (by decide) (opv_assign rfl rfl) ?_
      refine RL.nil ?_
      have ey2 := Option.some.inj hy2
      subst ey2
      refine onlyN ?_
      exact ⟨⟨rfl, rfl, rfl, rfl, rfl, trivial⟩, rfl⟩
     ·rw [if_neg c6] at hy2
      have c6 := eq_false_of_ne_true c6
      refine RL.noF rfl rfl c6 (by decide) ?_
      refine RL.noF rfl rfl c6 (by decide) ?_
      refine RL.noF rfl rfl c6 (by decide) ?_
      refine RL.opD (by decide) (opv_pick rfl rfl (fun e => absurd (Eq.trans (Eq.symm e) c6) (by decide)) (fun _ => rfl) rfl) ?_
      refine RL.opD (by decide) (opv_assign rfl rfl) ?_
      refine RL.nil ?_
      have ey2 := Option.some.inj hy2
      subst ey2
      refine onlyN ?_
      exact ⟨⟨rfl, rfl, rfl, rfl, rfl, trivial⟩, rfl⟩
    ·rw [if_neg c5] at hy2
     have c5 := eq_false_of_ne_true c5
     refine RL.noF rfl rfl c5 (by decide) ?_
     refine RL.noF rfl rfl c5 (by decide) ?_
     refine RL.noF rfl rfl c5 (by decide) ?_
     refine RL.opD (by decide) (opv_pick rfl rfl (fun e => absurd (Eq.trans (Eq.symm e) c5) (by decide)) (fun _ => rfl) rfl) ?_
     refine RL.opD (by decide) (opv_move rfl rfl) ?_
     refine RL.noF rfl rfl rfl (by decide) ?_
     refine RL.noF rfl rfl rfl (by decide) ?_
     refine RL.noF rfl rfl rfl (by decide) ?_
     refine RL.opD (by decide) (opv_pick rfl rfl (fun e => absurd (Eq.trans (Eq.symm e) rfl) (by decide)) (fun _ => rfl) rfl) ?_
     refine RL.opD (by decide) (opv_assign rfl rfl) ?_
     refine RL.nil ?_
     have ey2 := Option.some.inj hy2
     subst ey2
     refine onlyN ?_
     exact ⟨⟨rfl, rfl, rfl, rfl, rfl, trivial⟩, rfl⟩
   ·rw [if_neg c4] at hy2
    have c4 := eq_false_of_ne_true c4
    refine RL.noF rfl rfl c4 (by decide) ?_
    refine RL.noF rfl rfl c4 (by decide) ?_
    refine RL.noF rfl rfl c4 (by decide) ?_
    refine RL.noF rfl rfl c4 (by decide) ?_
    refine RL.noF rfl rfl c4 (by decide) ?_
    refine RL.opD (by decide) (opv_pick rfl rfl (fun e => absurd (Eq.trans (Eq.symm e) c4) (by decide)) (fun _ => rfl) rfl) ?_
    refine RL.opD (by decide) (opv_move rfl rfl) ?_
    refine RL.noF rfl rfl rfl (by decide) ?_
    refine RL.noF rfl rfl rfl (by decide) ?_
    refine RL.noF rfl rfl rfl (by decide) ?_
    refine RL.opD (by decide) (opv_pick rfl rfl (fun e => absurd (Eq.trans (Eq.symm e) rfl) (by decide)) (fun _ => rfl) rfl) ?_
    refine RL.opD (by decide) (opv_move rfl rfl) ?_
    refine RL.noF rfl rfl rfl (by decide) ?_
    refine RL.noF rfl rfl rfl (by decide) ?_
    refine RL.noF rfl rfl rfl (by decide) ?_
    refine RL.opD (by decide) (opv_pick rfl rfl (fun e => absurd (Eq.trans (Eq.symm e) rfl) (by decide)) (fun _ => rfl) rfl) ?_
    refine RL.opD (by decide) (opv_assign rfl rfl) ?_
    refine RL.nil ?_
    have ey2 := Option.some.inj hy2
    subst ey2
    refine onlyN ?_
    exact ⟨⟨rfl, rfl, rfl, rfl, rfl, trivial⟩, rfl⟩
  rintro φ' _ ⟨hs2, rfl⟩
  refine thnN ?_
  refine W.sub hs2 ?_
  refine W.ret ?_
  have er := Option.some.inj hp
  subst er
  exact Rt.one rfl rfl ⟨rfl, X_1, (Sep.nil _ _ _)⟩

set_option maxRecDepth 20000 in
theorem spec_l00In_ok (h0 : Heap) (a0 : Int) (a1 : Int) (a2 : Int) (r : Bool) (hp : spec_l00In a0 a1 a2 = some r) : CallsH Tryz.prog 31 ([(.int .i64 a0), (.int .i64 a1), (.int .i64 a2)].toArray ++ [].toArray) h0 (fun v h' => v = (.bool r) ∧ h0 = h') := by
 unfold spec_l00In at hp
 refine callsH_of_W (l := [(.int .i64 a0), (.int .i64 a1), (.int .i64 a2)]) (cap := []) 15 Tryz.func31 rfl rfl rfl ?_
 refine W.seq ?_
 refine W.region ?_
 refine RL.opD (by decide) (opv_assign rfl rfl) ?_
 refine RL.nil ?_
 refine thnN ?_
 refine W.seq ?_
 obtain ⟨x1, hy1, hp⟩ := Option.bind_eq_some_iff.1 hp
 refine W.cut (fun φ' h' => Fr.sub [(0, (.int .i64 a0)), (1, (.int .i64 a1)), (2, (.int .i64 a2)), (6, (.bool x1))] φ' ∧ h0 = h') ?_ ?_
 ·refine W.region ?_
  refine RL.opD (by decide) (opv_move rfl rfl) ?_
  refine RL.opD (by decide) (opv_move rfl rfl) ?_
  refine RL.opD (by decide) (opv_icmp rfl rfl rfl rfl) ?_
  refine RL.opD (by decide) (opv_move rfl rfl) ?_
  by_cases c1 : (decide (a0 ≥ a1)) = true
  ·rw [if_pos c1] at hy1
   refine RL.yesD rfl rfl c1 (by decide) (opv_move rfl rfl) ?_
   refine RL.yesD rfl rfl c1 (by decide) (opv_move rfl rfl) ?_
   refine RL.yesD rfl rfl c1 (by decide) (opv_icmp rfl rfl rfl rfl) ?_
   refine RL.opD (by decide) (opv_pick rfl rfl (fun _ => rfl) (fun e => absurd (Eq.trans (Eq.symm e) c1) (by decide)) rfl) ?_
   refine RL.opD (by decide) (opv_assign rfl rfl) ?_
   refine RL.nil ?_
   have ey1 := Option.some.inj hy1
   subst ey1
   refine onlyN ?_
   exact ⟨⟨rfl, rfl, rfl, rfl, trivial⟩, rfl⟩
  ·rw [if_neg c1] at hy1
   have c1 := eq_false_of_ne_true c1
   refine RL.noF rfl rfl c1 (by decide) ?_
   refine RL.noF rfl rfl c1 (by decide) ?_
   refine RL.noF rfl rfl c1 (by decide) ?_
   refine RL.opD (by decide) (opv_pick rfl rfl (fun e => absurd (Eq.trans (Eq.symm e) c1) (by decide)) (fun _ => rfl) rfl) ?_
   refine RL.opD (by decide) (opv_assign rfl rfl) ?_
   refine RL.nil ?_
   have ey1 := Option.some.inj hy1
   subst ey1
   refine onlyN ?_
   exact ⟨⟨rfl, rfl, rfl, rfl, trivial⟩, rfl⟩
 rintro φ' _ ⟨hs1, rfl⟩
 refine thnN ?_
 refine W.sub hs1 ?_
 refine W.ret ?_
 have er := Option.some.inj hp
 subst er
 exact Rt.one rfl rfl ⟨rfl, rfl⟩

set_option maxRecDepth 20000 in
theorem spec_l02Sides_ok (h0 : Heap) (a0 : Int) (a1 : Int) (r : Bool) (hp : spec_l02Sides a0 a1 = some r) : CallsH Tryz.prog 56 ([(.int .i64 a0), (.int .i64 a1)].toArray ++ [].toArray) h0 (fun v h' => v = (.bool r) ∧ h0 = h') := by
 unfold spec_l02Sides at hp
 refine callsH_of_W (l := [(.int .i64 a0), (.int .i64 a1)]) (cap := []) 17 Tryz.func56 rfl rfl rfl ?_
 refine W.seq ?_
 refine W.region ?_
 refine RL.opD (by decide) (opv_assign rfl rfl) ?_
 refine RL.nil ?_
 refine thnN ?_
 refine W.seq ?_
 obtain ⟨x1, hy1, hp⟩ := Option.bind_eq_some_iff.1 hp
 refine W.cut (fun φ' h' => Fr.sub [(0, (.int .i64 a0)), (1, (.int .i64 a1)), (4, (.bool x1))] φ' ∧ h0 = h') ?_ ?_
 ·refine W.region ?_
  refine RL.opD (by decide) (opv_move rfl rfl) ?_
  obtain ⟨x2, hx2, hy1⟩ := Option.bind_eq_some_iff.1 hy1
  refine RL.op _ (by decide) (opv_call (cap := []) (spec_l00In_ok _ _ _ _ _ hx2) rfl rfl ⟨rfl, rfl, rfl, trivial⟩ Tryz.func31 rfl rfl) ?_
  rintro _ _ ⟨rfl, rfl⟩
  refine RL.opD (by decide) (opv_move rfl rfl) ?_
  by_cases c1 : x2 = true
  ·rw [if_pos c1] at hy1
   refine RL.yesD rfl rfl c1 (by decide) (opv_move rfl rfl) ?_
   obtain ⟨x3, hx3, hy1⟩ := Option.bind_eq_some_iff.1 hy1
   refine RL.yes _ rfl rfl c1 (by decide) (opv_call (cap := []) (spec_l00In_ok _ _ _ _ _ hx3) rfl rfl ⟨rfl, rfl, rfl, trivial⟩ Tryz.func31 rfl rfl) ?_
   rintro _ _ ⟨rfl, rfl⟩
   refine RL.opD (by decide) (opv_pick rfl rfl (fun _ => rfl) (fun e => absurd (Eq.trans (Eq.symm e) c1) (by decide)) rfl) ?_
   refine RL.opD (by decide) (opv_move rfl rfl) ?_
   by_cases c2 : x3 = true
   ·rw [if_pos c2] at hy1
    refine RL.yesD rfl rfl c2 (by decide) (opv_move rfl rfl) ?_
    refine RL.yesD rfl rfl c2 (by decide) (opv_move rfl rfl) ?_
    refine RL.yesD rfl rfl c2 (by decide) (opv_mul rfl rfl rfl) ?_
    refine RL.yesD rfl rfl c2 (by decide) (opv_icmp rfl rfl rfl rfl) ?_
    refine RL.opD (by decide) (opv_pick rfl rfl (fun _ => rfl) (fun e => absurd (Eq.trans (Eq.symm e) c2) (by decide)) rfl) ?_
    refine RL.opD (by decide) (opv_assign rfl rfl) ?_
    refine RL.nil ?_
    have ey1 := Option.some.inj hy1
    subst ey1
    refine onlyN ?_
    exact ⟨⟨rfl, rfl, rfl, trivial⟩, rfl⟩
   ·rw [if_neg c2] at hy1
    have c2 := eq_false_of_ne_true c2
    refine RL.noF rfl rfl c2 (by decide) ?_
    refine RL.noF rfl rfl c2 (by decide) ?_
    refine RL.noF rfl rfl c2 (by decide) ?_
    refine RL.noF rfl rfl c2 (by decide) ?_
    refine RL.opD (by decide) (opv_pick rfl rfl (fun e => absurd (Eq.trans (Eq.symm e) c2) (by decide)) (fun _ => rfl) rfl) ?_
    refine RL.opD (by decide) (opv_assign rfl rfl) ?_
    refine RL.nil ?_
    have ey1 := Option.some.inj hy1
    subst ey1
    refine onlyN ?_
    exact ⟨⟨rfl, rfl, rfl, trivial⟩, rfl⟩
  ·rw [if_neg c1] at hy1
   have c1 := eq_false_of_ne_true c1
   refine RL.noF rfl rfl c1 (by decide) ?_
   refine RL.noF rfl rfl c1 (by decide) ?_
   refine RL.opD (by decide) (opv_pick rfl rfl (fun e => absurd (Eq.trans (Eq.symm e) c1) (by decide)) (fun _ => rfl) rfl) ?_
   refine RL.opD (by decide) (opv_move rfl rfl) ?_
   refine RL.noF rfl rfl rfl (by decide) ?_
   refine RL.noF rfl rfl rfl (by decide) ?_
   refine RL.noF rfl rfl rfl (by decide) ?_
   refine RL.noF rfl rfl rfl (by decide) ?_
   refine RL.opD (by decide) (opv_pick rfl rfl (fun e => absurd (Eq.trans (Eq.symm e) rfl) (by decide)) (fun _ => rfl) rfl) ?_
   refine RL.opD (by decide) (opv_assign rfl rfl) ?_
   refine RL.nil ?_
   have ey1 := Option.some.inj hy1
   subst ey1
   refine onlyN ?_
   exact ⟨⟨rfl, rfl, rfl, trivial⟩, rfl⟩
 rintro φ' _ ⟨hs1, rfl⟩
 refine thnN ?_
 refine W.sub hs1 ?_
 refine W.ret ?_
 have er := Option.some.inj hp
 subst er
 exact Rt.one rfl rfl ⟨rfl, rfl⟩

set_option maxHeartbeats 4000000 in
set_option maxRecDepth 20000 in
theorem spec_l02Is_ok (h0 : Heap) (b0 : Nat) (a0_0 : Int) (a0_1 : Int) (a0_2 : Bool) (u0_3 : Value) (a0_3 : List (Option Nat)) (g0_3 : SL (kF .f32) h0.size h0 u0_3 a0_3) (u0_4 : Value) (a0_4 : List (Option Nat)) (g0_4 : SL (kF .f32) h0.size h0 u0_4 a0_4) (G0 : Bx h0 b0 [(.int .i64 a0_0), (.int .i64 a0_1), (.bool a0_2), u0_3, u0_4]) (r : Bool) (hp : spec_l02Is a0_0 a0_1 a0_2 a0_3 a0_4 = some r) : CallsH Tryz.prog 40 ([(.pointer (some ⟨b0, 0, none⟩))].toArray ++ [].toArray) h0 (fun v h' => v = (.bool r) ∧ h0 = h') := by
 unfold spec_l02Is at hp
 refine callsH_of_W (l := [(.pointer (some ⟨b0, 0, none⟩))]) (cap := []) 97 Tryz.func40 rfl rfl rfl ?_
 refine W.seq ?_
 refine W.region ?_
 refine RL.opD (by decide) (opv_assign rfl rfl) ?_
 refine RL.nil ?_
 refine thnN ?_
 refine W.seq ?_
 refine W.seq ?_
 obtain ⟨x1, hy1, hp⟩ := Option.bind_eq_some_iff.1 hp
 refine W.cut (fun φ' h' => Fr.sub [(0, (.pointer (some ⟨b0, 0, none⟩))), (2, (.bool false)), (47, (.bool x1))] φ' ∧ h0 = h') ?_ ?_
 ·refine W.regionH 44 rfl Tryz.mixed ?_
  refine HK.d 0 rfl rfl rfl (by decide) (by decide +kernel) (fun _ _ _ h => h) (opx_move rfl rfl) ?_
  refine HK.d 1 rfl rfl rfl (by decide) (by decide +kernel) (fun _ _ _ h => h) (opx_nilCheck rfl rfl) ?_
  refine HK.d 2 rfl rfl rfl (by decide) (by decide +kernel) (fun _ _ _ h => h) (opx_fieldAddr rfl Tryz.fo26_0 rfl) ?_
  refine HK.d 3 rfl rfl rfl (by decide) (by decide +kernel) (fun _ _ _ h => h) (opx_loadB rfl Tryz.one2 rfl G0 rfl) ?_
  refine HK.d 4 rfl rfl rfl (by decide) (by decide +kernel) (fun _ _ _ h => h) (opx_move rfl rfl) ?_
  refine HK.d 5 rfl rfl rfl (by decide) (by decide +kernel) (fun _ _ _ h => h) (opx_nilCheck rfl rfl) ?_
  refine HK.d 6 rfl rfl rfl (by decide) (by decide +kernel) (fun _ _ _ h => h) (opx_fieldAddr rfl Tryz.fo26_1 rfl) ?_
  refine HK.d 7 rfl rfl rfl (by decide) (by decide +kernel) (fun _ _ _ h => h) (opx_loadB rfl Tryz.one2 rfl G0 rfl) ?_
  obtain ⟨x2, hx2, hy1⟩ := Option.bind_eq_some_iff.1 hy1
  refine HK.s 8 _ rfl rfl rfl (by decide) (by decide +kernel) (opv_call (cap := []) (spec_l02Sides_ok _ _ _ _ hx2) rfl rfl ⟨rfl, rfl, trivial⟩ Tryz.func56 rfl rfl) ?_
  rintro _ _ ⟨rfl, rfl⟩
  refine ⟨rfl, ?_⟩
  refine HK.d 9 rfl rfl rfl (by decide) (by decide +kernel) (fun _ _ _ h => h) (opx_not rfl rfl) ?_
  refine HK.d 10 rfl rfl rfl (by decide) (by decide +kernel) (fun _ _ _ h => h) (opx_move rfl rfl) ?_
  by_cases c1 : (!x2) = true
  ·rw [if_pos c1] at hy1
   refine HK.n 11 rfl rfl rfl rfl rfl c1 (by decide) (by decide +kernel) (fun _ _ _ h => h) ?_
   refine HK.n 12 rfl rfl rfl rfl rfl c1 (by decide) (by decide +kernel) (fun _ _ _ h => h) ?_
   refine HK.n 13 rfl rfl rfl rfl rfl c1 (by decide) (by decide +kernel) (fun _ _ _ h => h) ?_
   refine HK.n 14 rfl rfl rfl rfl rfl c1 (by decide) (by decide +kernel) (fun _ _ _ h => h) ?_
   refine HK.n 15 rfl rfl rfl rfl rfl c1 (by decide) (by decide +kernel) (fun _ _ _ h => h) ?_
   refine HK.n 16 rfl rfl rfl rfl rfl c1 (by decide) (by decide +kernel) (fun _ _ _ h => h) ?_
   refine HK.n 17 rfl rfl rfl rfl rfl c1 (by decide) (by decide +kernel) (fun _ _ _ h => h) ?_
   refine HK.n 18 rfl rfl rfl rfl rfl c1 (by decide) (by decide +kernel) (fun _ _ _ h => h) ?_
   refine HK.n 19 rfl rfl rfl rfl rfl c1 (by decide) (by decide +kernel) (fun _ _ _ h => h) ?_
   refine HK.n 20 rfl rfl rfl rfl rfl c1 (by decide) (by decide +kernel) (fun _ _ _ h => h) ?_
   refine HK.n 21 rfl rfl rfl rfl rfl c1 (by decide) (by decide +kernel) (fun _ _ _ h => h) ?_
   refine HK.n 22 rfl rfl rfl rfl rfl c1 (by decide) (by decide +kernel) (fun _ _ _ h => h) ?_
   refine HK.n 23 rfl rfl rfl rfl rfl c1 (by decide) (by decide +kernel) (fun _ _ _ h => h) ?_
   refine HK.n 24 rfl rfl rfl rfl rfl c1 (by decide) (by decide +kernel) (fun _ _ _ h => h) ?_
   refine HK.n 25 rfl rfl rfl rfl rfl c1 (by decide) (by decide +kernel) (fun _ _ _ h => h) ?_
   refine HK.d 26 rfl rfl rfl (by decide) (by decide +kernel) (fun _ _ _ h => h) (opx_pick rfl rfl (fun _ => rfl) (fun e => absurd (Eq.trans (Eq.symm e) c1) (by decide)) rfl) ?_
   refine HK.d 27 rfl rfl rfl (by decide) (by decide +kernel) (fun _ _ _ h => h) (opx_move rfl rfl) ?_
   refine HK.n 28 rfl rfl rfl rfl rfl rfl (by decide) (by decide +kernel) (fun _ _ _ h => h) ?_
   refine HK.n 29 rfl rfl rfl rfl rfl rfl (by decide) (by decide +kernel) (fun _ _ _ h => h) ?_
   refine HK.n 30 rfl rfl rfl rfl rfl rfl (by decide) (by decide +kernel) (fun _ _ _ h => h) ?_
   refine HK.n 31 rfl rfl rfl rfl rfl rfl (by decide) (by decide +kernel) (fun _ _ _ h => h) ?_
   refine HK.n 32 rfl rfl rfl rfl rfl rfl (by decide) (by decide +kernel) (fun _ _ _ h => h) ?_
   refine HK.n 33 rfl rfl rfl rfl rfl rfl (by decide) (by decide +kernel) (fun _ _ _ h => h) ?_
   refine HK.n 34 rfl rfl rfl rfl rfl rfl (by decide) (by decide +kernel) (fun _ _ _ h => h) ?_
   refine HK.n 35 rfl rfl rfl rfl rfl rfl (by decide) (by decide +kernel) (fun _ _ _ h => h) ?_
   refine HK.n 36 rfl rfl rfl rfl rfl rfl (by decide) (by decide +kernel) (fun _ _ _ h => h) ?_
   refine HK.n 37 rfl rfl rfl rfl rfl rfl (by decide) (by decide +kernel) (fun _ _ _ h => h) ?_
   refine HK.n 38 rfl rfl rfl rfl rfl rfl (by decide) (by decide +kernel) (fun _ _ _ h => h) ?_
   refine HK.n 39 rfl rfl rfl rfl rfl rfl (by decide) (by decide +kernel) (fun _ _ _ h => h) ?_
   refine HK.n 40 rfl rfl rfl rfl rfl rfl (by decide) (by decide +kernel) (fun _ _ _ h => h) ?_
   refine HK.n 41 rfl rfl rfl rfl rfl rfl (by decide) (by decide +kernel) (fun _ _ _ h => h) ?_
   refine HK.n 42 rfl rfl rfl rfl rfl rfl (by decide) (by decide +kernel) (fun _ _ _ h => h) ?_
   refine HK.d 43 rfl rfl rfl (by decide) (by decide +kernel) (fun _ _ _ h => h) (opx_pick rfl rfl (fun _ => rfl) (fun e => absurd (Eq.trans (Eq.symm e) rfl) (by decide)) rfl) ?_
   refine HK.done (by decide +kernel) ?_
   have ey1 := Option.some.inj hy1
   subst ey1
   refine onlyN ?_
   exact ⟨⟨rfl, rfl, rfl, trivial⟩, rfl⟩
  ·rw [if_neg c1] at hy1
   have c1 := eq_false_of_ne_true c1
   refine HK.y 11 rfl rfl rfl rfl rfl c1 (by decide) (by decide +kernel) (fun _ _ _ h => h) (opx_move rfl rfl) ?_
   refine HK.y 12 rfl rfl rfl rfl rfl c1 (by decide) (by decide +kernel) (fun _ _ _ h => h) (opx_nilCheck rfl rfl) ?_
   refine HK.y 13 rfl rfl rfl rfl rfl c1 (by decide) (by decide +kernel) (fun _ _ _ h => h) (opx_fieldAddr rfl Tryz.fo26_3 rfl) ?_
   refine HK.y 14 rfl rfl rfl rfl rfl c1 (by decide) (by decide +kernel) (fun _ _ _ h => h) (opx_loadB rfl Tryz.one24 rfl G0 rfl) ?_
   refine HK.y 15 rfl rfl rfl rfl rfl c1 (by decide) (by decide +kernel) (fun _ _ _ h => h) (opx_len rfl Tryz.underlying24 rfl g0_3) ?_
   refine HK.y 16 rfl rfl rfl rfl rfl c1 (by decide) (by decide +kernel) (fun _ _ _ h => h) (opx_move rfl rfl) ?_
   refine HK.y 17 rfl rfl rfl rfl rfl c1 (by decide) (by decide +kernel) (fun _ _ _ h => h) (opx_nilCheck rfl rfl) ?_
   refine HK.y 18 rfl rfl rfl rfl rfl c1 (by decide) (by decide +kernel) (fun _ _ _ h => h) (opx_fieldAddr rfl Tryz.fo26_0 rfl) ?_
   refine HK.y 19 rfl rfl rfl rfl rfl c1 (by decide) (by decide +kernel) (fun _ _ _ h => h) (opx_loadB rfl Tryz.one2 rfl G0 rfl) ?_
   refine HK.y 20 rfl rfl rfl rfl rfl c1 (by decide) (by decide +kernel) (fun _ _ _ h => h) (opx_move rfl rfl) ?_
   refine HK.y 21 rfl rfl rfl rfl rfl c1 (by decide) (by decide +kernel) (fun _ _ _ h => h) (opx_nilCheck rfl rfl) ?_
   refine HK.y 22 rfl rfl rfl rfl rfl c1 (by decide) (by decide +kernel) (fun _ _ _ h => h) (opx_fieldAddr rfl Tryz.fo26_1 rfl) ?_
   refine HK.y 23 rfl rfl rfl rfl rfl c1 (by decide) (by decide +kernel) (fun _ _ _ h => h) (opx_loadB rfl Tryz.one2 rfl G0 rfl) ?_
   refine HK.y 24 rfl rfl rfl rfl rfl c1 (by decide) (by decide +kernel) (fun _ _ _ h => h) (opx_mul rfl rfl rfl) ?_
   refine HK.y 25 rfl rfl rfl rfl rfl c1 (by decide) (by decide +kernel) (fun _ _ _ h => h) (opx_icmp rfl rfl rfl rfl) ?_
   refine HK.d 26 rfl rfl rfl (by decide) (by decide +kernel) (fun _ _ _ h => h) (opx_pick rfl rfl (fun e => absurd (Eq.trans (Eq.symm e) c1) (by decide)) (fun _ => rfl) rfl) ?_
   refine HK.d 27 rfl rfl rfl (by decide) (by decide +kernel) (fun _ _ _ h => h) (opx_move rfl rfl) ?_
   by_cases c2 : ((a0_3.length : Int) != (IntKind.wrap .i64 (a0_0 * a0_1))) = true
   ·rw [if_pos c2] at hy1
    refine HK.n 28 rfl rfl rfl rfl rfl c2 (by decide) (by decide +kernel) (fun _ _ _ h => h) ?_
    refine HK.n 29 rfl rfl rfl rfl rfl c2 (by decide) (by decide +kernel) (fun _ _ _ h => h) ?_
    refine HK.n 30 rfl rfl rfl rfl rfl c2 (by decide) (by decide +kernel) (fun _ _ _ h => h) ?_
    refine HK.n 31 rfl rfl rfl rfl rfl c2 (by decide) (by decide +kernel) (fun _ _ _ h => h) ?_
    refine HK.n 32 rfl rfl rfl rfl rfl c2 (by decide) (by decide +kernel) (fun _ _ _ h => h) ?_
    refine HK.n 33 rfl rfl rfl rfl rfl c2 (by decide) (by decide +kernel) (fun _ _ _ h => h) ?_
    refine HK.n 34 rfl rfl rfl rfl rfl c2 (by decide) (by decide +kernel) (fun _ _ _ h => h) ?_
    refine HK.n 35 rfl rfl rfl rfl rfl c2 (by decide) (by decide +kernel) (fun _ _ _ h => h) ?_
    refine HK.n 36 rfl rfl rfl rfl rfl c2 (by decide) (by decide +kernel) (fun _ _ _ h => h) ?_
    refine HK.n 37 rfl rfl rfl rfl rfl c2 (by decide) (by decide +kernel) (fun _ _ _ h => h) ?_
    refine HK.n 38 rfl rfl rfl rfl rfl c2 (by decide) (by decide +kernel) (fun _ _ _ h => h) ?_
    refine HK.n 39 rfl rfl rfl rfl rfl c2 (by decide) (by decide +kernel) (fun _ _ _ h => h) ?_
    refine HK.n 40 rfl rfl rfl rfl rfl c2 (by decide) (by decide +kernel) (fun _ _ _ h => h) ?_
    refine HK.n 41 rfl rfl rfl rfl rfl c2 (by decide) (by decide +kernel) (fun _ _ _ h => h) ?_
    refine HK.n 42 rfl rfl rfl rfl rfl c2 (by decide) (by decide +kernel) (fun _ _ _ h => h) ?_
    refine HK.d 43 rfl rfl rfl (by decide) (by decide +kernel) (fun _ _ _ h => h) (opx_pick rfl rfl (fun _ => rfl) (fun e => absurd (Eq.trans (Eq.symm e) c2) (by decide)) rfl) ?_
    refine HK.done (by decide +kernel) ?_
    have ey1 := Option.some.inj hy1
    subst ey1
    refine onlyN ?_
    exact ⟨⟨rfl, rfl, rfl, trivial⟩, rfl⟩
   ·rw [if_neg c2] at hy1
    have c2 := eq_false_of_ne_true c2
    refine HK.y 28 rfl rfl rfl rfl rfl c2 (by decide) (by decide +kernel) (fun _ _ _ h => h) (opx_move rfl rfl) ?_
    refine HK.y 29 rfl rfl rfl rfl rfl c2 (by decide) (by decide +kernel) (fun _ _ _ h => h) (opx_nilCheck rfl rfl) ?_
    refine HK.y 30 rfl rfl rfl rfl rfl c2 (by decide) (by decide +kernel) (fun _ _ _ h => h) (opx_fieldAddr rfl Tryz.fo26_4 rfl) ?_
    refine HK.y 31 rfl rfl rfl rfl rfl c2 (by decide) (by decide +kernel) (fun _ _ _ h => h) (opx_loadB rfl Tryz.one24 rfl G0 rfl) ?_
    refine HK.y 32 rfl rfl rfl rfl rfl c2 (by decide) (by decide +kernel) (fun _ _ _ h => h) (opx_len rfl Tryz.underlying24 rfl g0_4) ?_
    refine HK.y 33 rfl rfl rfl rfl rfl c2 (by decide) (by decide +kernel) (fun _ _ _ h => h) (opx_move rfl rfl) ?_
    refine HK.y 34 rfl rfl rfl rfl rfl c2 (by decide) (by decide +kernel) (fun _ _ _ h => h) (opx_nilCheck rfl rfl) ?_
    refine HK.y 35 rfl rfl rfl rfl rfl c2 (by decide) (by decide +kernel) (fun _ _ _ h => h) (opx_fieldAddr rfl Tryz.fo26_0 rfl) ?_
    refine HK.y 36 rfl rfl rfl rfl rfl c2 (by decide) (by decide +kernel) (fun _ _ _ h => h) (opx_loadB rfl Tryz.one2 rfl G0 rfl) ?_
    refine HK.y 37 rfl rfl rfl rfl rfl c2 (by decide) (by decide +kernel) (fun _ _ _ h => h) (opx_move rfl rfl) ?_
    refine HK.y 38 rfl rfl rfl rfl rfl c2 (by decide) (by decide +kernel) (fun _ _ _ h => h) (opx_nilCheck rfl rfl) ?_
    refine HK.y 39 rfl rfl rfl rfl rfl c2 (by decide) (by decide +kernel) (fun _ _ _ h => h) (opx_fieldAddr rfl Tryz.fo26_1 rfl) ?_
    refine HK.y 40 rfl rfl rfl rfl rfl c2 (by decide) (by decide +kernel) (fun _ _ _ h => h) (opx_loadB rfl Tryz.one2 rfl G0 rfl) ?_
    refine HK.y 41 rfl rfl rfl rfl rfl c2 (by decide) (by decide +kernel) (fun _ _ _ h => h) (opx_mul rfl rfl rfl) ?_
    refine HK.y 42 rfl rfl rfl rfl rfl c2 (by decide) (by decide +kernel) (fun _ _ _ h => h) (opx_icmp rfl rfl rfl rfl) ?_
    refine HK.d 43 rfl rfl rfl (by decide) (by decide +kernel) (fun _ _ _ h => h) (opx_pick rfl rfl (fun e => absurd (Eq.trans (Eq.symm e) c2) (by decide)) (fun _ => rfl) rfl) ?_
    refine HK.done (by decide +kernel) ?_
    have ey1 := Option.some.inj hy1
    subst ey1
    refine onlyN ?_
    exact ⟨⟨rfl, rfl, rfl, trivial⟩, rfl⟩
 rintro φ' _ ⟨hs1, rfl⟩
 refine thnN ?_
 refine W.sub hs1 ?_
 by_cases c3 : x1 = true
 ·rw [if_pos c3] at hp
  refine W.condT rfl c3 ?_
  refine W.seq ?_
  refine W.region ?_
  refine RL.opD (by decide) (opv_assign rfl rfl) ?_
  refine RL.nil ?_
  refine thnN ?_
  refine W.ret ?_
  refine thnR ?_
  have er := Option.some.inj hp
  subst er
  exact Rt.one rfl rfl ⟨rfl, rfl⟩
 ·rw [if_neg c3] at hp
  have c3 := eq_false_of_ne_true c3
  refine W.condF rfl c3 ?_
  refine W.skip ?_
  refine thnN ?_
  refine W.seq ?_
  refine W.seq ?_
  refine W.region ?_
  refine RL.opD (by decide) (opv_assign rfl rfl) ?_
  refine RL.nil ?_
  refine thnN ?_
  obtain ⟨y2, hy2, hp⟩ := Option.bind_eq_some_iff.1 hp
  refine W.cut (fun φ' h' => ∃ x5, ∃ x6, ∃ x7, y2 = .inl (x5, x6, x7) ∧ Fr.sub [(0, (.pointer (some ⟨b0, 0, none⟩))), (47, (.bool x1)), (2, (.bool x5)), (3, (.int .i64 x6)), (54, (.bool x7))] φ' ∧ h0 = h') ?_ ?_
  ·refine W.block ?_
   refine W.loopS (fun (s : (Bool × Int)) φ' h' => Fr.sub [(0, (.pointer (some ⟨b0, 0, none⟩))), (47, (.bool x1)), (2, (.bool s.1)), (3, (.int .i64 s.2))] φ' ∧ h0 = h') hy2 ⟨⟨rfl, rfl, rfl, rfl, trivial⟩, rfl⟩ ?_
   rintro ⟨x3, x4⟩ φ' _ o1 ⟨hs2, rfl⟩ ho1 hy1
   have hs2 : Fr.sub [(0, (.pointer (some ⟨b0, 0, none⟩))), (47, (.bool x1)), (2, (.bool x3)), (3, (.int .i64 x4))] φ' := hs2
   have ho1 : spec_l02Is.s0 a0_3 a0_4 x3 x4 = some o1 := ho1
   unfold spec_l02Is.s0 at ho1
   refine W.sub hs2 ?_
   refine W.seq ?_
   refine W.seq ?_
   refine W.region ?_
   refine RL.opD (by decide) (opv_move rfl rfl) ?_
   refine RL.opD (by decide) (opv_move rfl rfl) ?_
   refine RL.opD (by decide) (opv_nilCheck rfl rfl) ?_
   refine RL.opD (by decide) (opv_fieldAddr rfl Tryz.fo26_3 rfl) ?_
   refine RL.opD (by decide) (opv_loadB rfl Tryz.one24 rfl G0 rfl) ?_
   refine RL.opD (by decide) (opv_len rfl Tryz.underlying24 rfl g0_3) ?_
   refine RL.opD (by decide) (opv_icmp rfl rfl rfl rfl) ?_
   refine RL.nil ?_
   refine thnN ?_
   by_cases c4 : (decide (x4 < (a0_3.length : Int))) = true
   ·rw [if_pos c4] at ho1
    refine W.condT rfl c4 ?_
    refine W.skip ?_
    refine thnN ?_
    refine W.seq ?_
    refine W.block ?_
    refine W.seq ?_
    obtain ⟨x8, hy3, ho1⟩ := Option.bind_eq_some_iff.1 ho1
    refine W.cut (fun φ' h' => Fr.sub [(0, (.pointer (some ⟨b0, 0, none⟩))), (47, (.bool x1)), (2, (.bool x3)), (3, (.int .i64 x4)), (54, (.bool (decide (x4 < (a0_3.length : Int))))), (96, (.bool x8))] φ' ∧ h0 = h') ?_ ?_
    ·refine W.region ?_
     refine RL.opD (by decide) (opv_move rfl rfl) ?_
     refine RL.opD (by decide) (opv_nilCheck rfl rfl) ?_
     refine RL.opD (by decide) (opv_fieldAddr rfl Tryz.fo26_3 rfl) ?_
     refine RL.opD (by decide) (opv_loadB rfl Tryz.one24 rfl G0 rfl) ?_
     refine RL.opD (by decide) (opv_move rfl rfl) ?_
     obtain ⟨x9, hx9, hy3⟩ := Option.bind_eq_some_iff.1 hy3
     refine RL.op _ (by decide) (opv_index rfl Tryz.underlying24 (by rw [Tryz.size66]; rfl) rfl rfl g0_3 hx9) ?_
     rintro v1 _ ⟨fv1, rfl⟩
     refine RL.opF (by decide) (opv_loadF rfl Tryz.one66 rfl fv1 g0_3 hx9) ?_
     intro v2 fv2
     refine RL.opD (by decide) (opv_fcmp rfl rfl rfl rfl fv2 (isF_lit .f32 0 (by decide) (by decide))) ?_
     refine RL.opD (by decide) (opv_not rfl rfl) ?_
     refine RL.opD (by decide) (opv_move rfl rfl) ?_
     by_cases c5 : (!(fcmp .geq .f32 x9 (some 0))) = true
     ·rw [if_pos c5] at hy3
      refine RL.noT rfl rfl c5 (by decide) ?_
      refine RL.noT rfl rfl c5 (by decide) ?_
      refine RL.noT rfl rfl c5 (by decide) ?_
      refine RL.noT rfl rfl c5 (by decide) ?_
      refine RL.noT rfl rfl c5 (by decide) ?_
      refine RL.noT rfl rfl c5 (by decide) ?_
      refine RL.noT rfl rfl c5 (by decide) ?_
      refine RL.noT rfl rfl c5 (by decide) ?_
      refine RL.opD (by decide) (opv_pick rfl rfl (fun _ => rfl) (fun e => absurd (Eq.trans (Eq.symm e) c5) (by decide)) rfl) ?_
      refine RL.opD (by decide) (opv_move rfl rfl) ?_
      refine RL.noT rfl rfl rfl (by decide) ?_
      refine RL.noT rfl rfl rfl (by decide) ?_
      refine RL.noT rfl rfl rfl (by decide) ?_
      refine RL.noT rfl rfl rfl (by decide) ?_
      refine RL.noT rfl rfl rfl (by decide) ?_
      refine RL.noT rfl rfl rfl (by decide) ?_
      refine RL.noT rfl rfl rfl (by decide) ?_
      refine RL.noT rfl rfl rfl (by decide) ?_
      refine RL.noT rfl rfl rfl (by decide) ?_
      refine RL.opD (by decide) (opv_pick rfl rfl (fun _ => rfl) (fun e => absurd (Eq.trans (Eq.symm e) rfl) (by decide)) rfl) ?_
      refine RL.opD (by decide) (opv_move rfl rfl) ?_
      refine RL.noT rfl rfl rfl (by decide) ?_
      refine RL.noT rfl rfl rfl (by decide) ?_
      refine RL.noT rfl rfl rfl (by decide) ?_
      refine RL.noT rfl rfl rfl (by decide) ?_
      refine RL.noT rfl rfl rfl (by decide) ?_
      refine RL.noT rfl rfl rfl (by decide) ?_
      refine RL.noT rfl rfl rfl (by decide) ?_
      refine RL.noT rfl rfl rfl (by decide) ?_
      refine RL.opD (by decide) (opv_pick rfl rfl (fun _ => rfl) (fun e => absurd (Eq.trans (Eq.symm e) rfl) (by decide)) rfl) ?_
      refine RL.nil ?_
      have ey3 := Option.some.inj hy3
      subst ey3
      refine onlyN ?_
      exact ⟨⟨rfl, rfl, rfl, rfl, rfl, rfl, trivial⟩, rfl⟩
     ·rw [if_neg c5] at hy3
      have c5 := eq_false_of_ne_true c5
      refine RL.yesD rfl rfl c5 (by decide) (opv_move rfl rfl) ?_
      refine RL.yesD rfl rfl c5 (by decide) (opv_nilCheck rfl rfl) ?_
      refine RL.yesD rfl rfl c5 (by decide) (opv_fieldAddr rfl Tryz.fo26_3 rfl) ?_
      refine RL.yesD rfl rfl c5 (by decide) (opv_loadB rfl Tryz.one24 rfl G0 rfl) ?_
      refine RL.yesD rfl rfl c5 (by decide) (opv_move rfl rfl) ?_
      obtain ⟨x10, hx10, hy3⟩ := Option.bind_eq_some_iff.1 hy3
      refine RL.yes _ rfl rfl c5 (by decide) (opv_index rfl Tryz.underlying24 (by rw [Tryz.size66]; rfl) rfl rfl g0_3 hx10) ?_
      rintro v3 _ ⟨fv3, rfl⟩
      refine RL.yes _ rfl rfl c5 (by decide) (opv_loadF rfl Tryz.one66 rfl fv3 g0_3 hx10) ?_
      rintro v4 _ ⟨fv4, rfl⟩
      refine RL.yesD rfl rfl c5 (by decide) (opv_fcmp rfl rfl rfl rfl fv4 (isF_lit .f32 1056964608 (by decide) (by decide))) ?_
      refine RL.opD (by decide) (opv_pick rfl rfl (fun e => absurd (Eq.trans (Eq.symm e) c5) (by decide)) (fun _ => rfl) rfl) ?_
      refine RL.opD (by decide) (opv_move rfl rfl) ?_
      by_cases c6 : (fcmp .gtr .f32 x10 (some 1056964608)) = true
      ·rw [if_pos c6] at hy3
       refine RL.noT rfl rfl c6 (by decide) ?_
       refine RL.noT rfl rfl c6 (by decide) ?_
       refine RL.noT rfl rfl c6 (by decide) ?_
       refine RL.noT rfl rfl c6 (by decide) ?_
       refine RL.noT rfl rfl c6 (by decide) ?_
       refine RL.noT rfl rfl c6 (by decide) ?_
       refine RL.noT rfl rfl c6 (by decide) ?_
       refine RL.noT rfl rfl c6 (by decide) ?_
       refine RL.noT rfl rfl c6 (by decide) ?_
       refine RL.opD (by decide) (opv_pick rfl rfl (fun _ => rfl) (fun e => absurd (Eq.trans (Eq.symm e) c6) (by decide)) rfl) ?_
       refine RL.opD (by decide) (opv_move rfl rfl) ?_
       refine RL.noT rfl rfl rfl (by decide) ?_
       refine RL.noT rfl rfl rfl (by decide) ?_
       refine RL.noT rfl rfl rfl (by decide) ?_
       refine RL.noT rfl rfl rfl (by decide) ?_
       refine RL.noT rfl rfl rfl (by decide) ?_
       refine RL.noT rfl rfl rfl (by decide) ?_
       refine RL.noT rfl rfl rfl (by decide) ?_
       refine RL.noT rfl rfl rfl (by decide) ?_
       refine RL.opD (by decide) (opv_pick rfl rfl (fun _ => rfl) (fun e => absurd (Eq.trans (Eq.symm e) rfl) (by decide)) rfl) ?_
       refine RL.nil ?_
       have ey3 := Option.some.inj hy3
       subst ey3
       refine onlyN ?_
       exact ⟨⟨rfl, rfl, rfl, rfl, rfl, rfl, trivial⟩, rfl⟩
      ·rw [if_neg c6] at hy3
       have c6 := eq_false_of_ne_true c6
       refine RL.yesD rfl rfl c6 (by decide) (opv_move rfl rfl) ?_
       refine RL.yesD rfl rfl c6 (by decide) (opv_nilCheck rfl rfl) ?_
       refine RL.yesD rfl rfl c6 (by decide) (opv_fieldAddr rfl Tryz.fo26_4 rfl) ?_
       refine RL.yesD rfl rfl c6 (by decide) (opv_loadB rfl Tryz.one24 rfl G0 rfl) ?_
       refine RL.yesD rfl rfl c6 (by decide) (opv_move rfl rfl) ?_
       obtain ⟨x11, hx11, hy3⟩ := Option.bind_eq_some_iff.1 hy3
       refine RL.yes _ rfl rfl c6 (by decide) (opv_index rfl Tryz.underlying24 (by rw [Tryz.size66]; rfl) rfl rfl g0_4 hx11) ?_
       rintro v5 _ ⟨fv5, rfl⟩
       refine RL.yes _ rfl rfl c6 (by decide) (opv_loadF rfl Tryz.one66 rfl fv5 g0_4 hx11) ?_
       rintro v6 _ ⟨fv6, rfl⟩
       refine RL.yesD rfl rfl c6 (by decide) (opv_fcmp rfl rfl rfl rfl fv6 (isF_lit .f32 0 (by decide) (by decide))) ?_
       refine RL.yesD rfl rfl c6 (by decide) (opv_not rfl rfl) ?_
       refine RL.opD (by decide) (opv_pick rfl rfl (fun e => absurd (Eq.trans (Eq.symm e) c6) (by decide)) (fun _ => rfl) rfl) ?_
       refine RL.opD (by decide) (opv_move rfl rfl) ?_
       by_cases c7 : (!(fcmp .geq .f32 x11 (some 0))) = true
       ·rw [if_pos c7] at hy3
        refine RL.noT rfl rfl c7 (by decide) ?_
        refine RL.noT rfl rfl c7 (by decide) ?_
        refine RL.noT rfl rfl c7 (by decide) ?_
        refine RL.noT rfl rfl c7 (by decide) ?_
        refine RL.noT rfl rfl c7 (by decide) ?_
        refine RL.noT rfl rfl c7 (by decide) ?_
        refine RL.noT rfl rfl c7 (by decide) ?_
        refine RL.noT rfl rfl c7 (by decide) ?_
        refine RL.opD (by decide) (opv_pick rfl rfl (fun _ => rfl) (fun e => absurd (Eq.trans (Eq.symm e) c7) (by decide)) rfl) ?_
        refine RL.nil ?_
        have ey3 := Option.some.inj hy3
        subst ey3
        refine onlyN ?_
        exact ⟨⟨rfl, rfl, rfl, rfl, rfl, rfl, trivial⟩, rfl⟩
       ·rw [if_neg c7] at hy3
        have c7 := eq_false_of_ne_true c7
        refine RL.yesD rfl rfl c7 (by decide) (opv_move rfl rfl) ?_
        refine RL.yesD rfl rfl c7 (by decide) (opv_nilCheck rfl rfl) ?_
        refine RL.yesD rfl rfl c7 (by decide) (opv_fieldAddr rfl Tryz.fo26_4 rfl) ?_
        refine RL.yesD rfl rfl c7 (by decide) (opv_loadB rfl Tryz.one24 rfl G0 rfl) ?_
        refine RL.yesD rfl rfl c7 (by decide) (opv_move rfl rfl) ?_
        obtain ⟨x12, hx12, hy3⟩ := Option.bind_eq_some_iff.1 hy3
        refine RL.yes _ rfl rfl c7 (by decide) (opv_index rfl Tryz.underlying24 (by rw [Tryz.size66]; rfl) rfl rfl g0_4 hx12) ?_
        rintro v7 _ ⟨fv7, rfl⟩
        refine RL.yes _ rfl rfl c7 (by decide) (opv_loadF rfl Tryz.one66 rfl fv7 g0_4 hx12) ?_
        rintro v8 _ ⟨fv8, rfl⟩
        refine RL.yesD rfl rfl c7 (by decide) (opv_fcmp rfl rfl rfl rfl fv8 (isF_lit .f32 1065353216 (by decide) (by decide))) ?_
        refine RL.opD (by decide) (opv_pick rfl rfl (fun e => absurd (Eq.trans (Eq.symm e) c7) (by decide)) (fun _ => rfl) rfl) ?_
        refine RL.nil ?_
        have ey3 := Option.some.inj hy3
        subst ey3
        refine onlyN ?_
        exact ⟨⟨rfl, rfl, rfl, rfl, rfl, rfl, trivial⟩, rfl⟩
    rintro φ' _ ⟨hs4, rfl⟩
    refine thnN ?_
    refine W.sub hs4 ?_
    by_cases c8 : x8 = true
    ·rw [if_pos c8] at ho1
     refine W.condT rfl c8 ?_
     refine W.seq ?_
     refine W.region ?_
     refine RL.opD (by decide) (opv_assign rfl rfl) ?_
     refine RL.nil ?_
     refine thnN ?_
     refine W.ret ?_
     refine blkR ?_
     refine thnR ?_
     have eo1 := Option.some.inj ho1
     subst eo1
     have ey2 := hy1 _ rfl
     subst ey2
     try dsimp only at hp
     refine rndR ?_
     refine blkR ?_
     refine onlyR ?_
     refine thnR ?_
     have er := Option.some.inj hp
     subst er
     exact Rt.one rfl rfl ⟨rfl, rfl⟩
    ·rw [if_neg c8] at ho1
     have c8 := eq_false_of_ne_true c8
     refine W.condF rfl c8 ?_
     refine W.skip ?_
     refine blkN ?_
     refine thnN ?_
     refine W.region ?_
     refine RL.opD (by decide) (opv_move rfl rfl) ?_
     refine RL.opD (by decide) (opv_add rfl rfl rfl) ?_
     refine RL.opD (by decide) (opv_assign rfl rfl) ?_
     refine RL.nil ?_
     have eo1 := Option.some.inj ho1
     subst eo1
     refine rndN (s' := (x3, IntKind.wrap .i64 (x4 + 1))) rfl ?_
     exact ⟨⟨rfl, rfl, rfl, rfl, trivial⟩, rfl⟩
   ·rw [if_neg c4] at ho1
    have c4 := eq_false_of_ne_true c4
    refine W.condF rfl c4 ?_
    refine W.exit ?_
    refine thnX ?_
    refine rndX ?_
    refine blkI ?_
    have eo1 := Option.some.inj ho1
    subst eo1
    have ey2 := hy1 _ rfl
    subst ey2
    refine onlyN ?_
    exact ⟨x3, x4, decide (x4 < (a0_3.length : Int)), rfl, ⟨rfl, rfl, rfl, rfl, rfl, trivial⟩, rfl⟩
  rintro φ' _ ⟨x5, x6, x7, rfl, hs3, rfl⟩
  try dsimp only at hp
  refine thnN ?_
  refine W.sub hs3 ?_
  refine W.seq ?_
  refine W.region ?_
  refine RL.opD (by decide) (opv_assign rfl rfl) ?_
  refine RL.nil ?_
  refine thnN ?_
  refine W.ret ?_
  have er := Option.some.inj hp
  subst er
  exact Rt.one rfl rfl ⟨rfl, rfl⟩

set_option maxRecDepth 20000 in
theorem spec_l00Min_ok (h0 : Heap) (a0 : Int) (a1 : Int) (r : Int) (hp : spec_l00Min a0 a1 = some r) : CallsH Tryz.prog 36 ([(.int .i64 a0), (.int .i64 a1)].toArray ++ [].toArray) h0 (fun v h' => v = (.int .i64 r) ∧ h0 = h') := by
 unfold spec_l00Min at hp
 refine callsH_of_W (l := [(.int .i64 a0), (.int .i64 a1)]) (cap := []) 10 Tryz.func36 rfl rfl rfl ?_
 refine W.seq ?_
 refine W.region ?_
 refine RL.opD (by decide) (opv_assign rfl rfl) ?_
 refine RL.nil ?_
 refine thnN ?_
 refine W.seq ?_
 refine W.seq ?_
 refine W.region ?_
 refine RL.opD (by decide) (opv_move rfl rfl) ?_
 refine RL.opD (by decide) (opv_move rfl rfl) ?_
 refine RL.opD (by decide) (opv_icmp rfl rfl rfl rfl) ?_
 refine RL.nil ?_
 refine thnN ?_
 by_cases c1 : (decide (a0 < a1)) = true
 ·rw [if_pos c1] at hp
  refine W.condT rfl c1 ?_
  refine W.seq ?_
  refine W.region ?_
  refine RL.opD (by decide) (opv_move rfl rfl) ?_
  refine RL.opD (by decide) (opv_assign rfl rfl) ?_
  refine RL.nil ?_
  refine thnN ?_
  refine W.ret ?_
  refine thnR ?_
  have er := Option.some.inj hp
  subst er
  exact Rt.one rfl rfl ⟨rfl, rfl⟩
 ·rw [if_neg c1] at hp
  have c1 := eq_false_of_ne_true c1
  refine W.condF rfl c1 ?_
  refine W.skip ?_
  refine thnN ?_
  refine W.seq ?_
  refine W.region ?_
  refine RL.opD (by decide) (opv_move rfl rfl) ?_
  refine RL.opD (by decide) (opv_assign rfl rfl) ?_
  refine RL.nil ?_
  refine thnN ?_
  refine W.ret ?_
  have er := Option.some.inj hp
  subst er
  exact Rt.one rfl rfl ⟨rfl, rfl⟩

set_option maxRecDepth 20000 in
theorem impl_copyOf_ok (h0 : Heap) (u0 : Value) (a0 : List (Option Nat)) (g0 : SL (kF .f32) h0.size h0 u0 a0) (r : List (Option Nat)) (hp : impl_copyOf a0 = some r) : CallsH Tryz.prog 28 ([u0].toArray ++ [].toArray) h0 (fun v h' => Mod [] h0 h' ∧ Sep [] h0.size h' [ownO (kF .f32) 66 v r]) := by
 unfold impl_copyOf at hp
 refine callsH_of_W (l := [u0]) (cap := []) 6 Tryz.func28 rfl rfl rfl ?_
 refine W.seq ?_
 refine W.region ?_
 refine RL.opD (by decide) (opv_assign rfl rfl) ?_
 have S_1 : Sep [] h0.size h0 [ownO (kF .f32) 66 (.slice none 0 0) ([] : List (Option Nat))] := Sep.addNil (Sep.nil [] h0.size h0)
 refine RL.nil ?_
 refine thnN ?_
 refine W.seq ?_
 refine W.region ?_
 refine RL.op _ (by decide) (opS_lit0 (K := (kF .f32)) rfl Tryz.underlying24 Tryz.isinfo66) ?_
 rintro v1 hp1 ⟨MT_1, T_1⟩
 obtain ⟨X_1, S_2⟩ := Sep.turn0 (Mod.refl [] h0) S_1 MT_1 T_1
 refine RL.opD (by decide) (opv_move rfl rfl) ?_
 obtain ⟨c1, hp⟩ := of_ite hp
 refine RL.op _ (by decide) (opS_append (K := (kF .f32)) rfl Tryz.underlying24 Tryz.einfo66 rfl rfl rfl rfl (Sep.at (o := ownO (kF .f32) 66 v1 ([] : List (Option Nat))) S_2 0 rfl) (SL.mod g0 X_1 (Nat.le_refl _) nob) (by decide) (by decide) c1) ?_
 rintro v2 hp2 ⟨MT_2, T_2⟩
 have S_3 : Sep [] h0.size hp1 ([ownO (kF .f32) 66 v1 ([] : List (Option Nat))] ++ [ownO (kF .f32) 66 (.slice none 0 0) ([] : List (Option Nat))]) := Sep.sel S_2 [0, 1] (by decide)
 obtain ⟨X_2, S_4⟩ := Sep.turn X_1 S_3 MT_2 T_2
 refine RL.opD (by decide) (opv_assign rfl rfl) ?_
 refine RL.nil ?_
 refine thnN ?_
 refine W.ret ?_
 have er := Option.some.inj hp
 subst er
 exact Rt.one rfl rfl ⟨X_2, (Sep.sel S_4 [0] (by decide))⟩

end Go.H
