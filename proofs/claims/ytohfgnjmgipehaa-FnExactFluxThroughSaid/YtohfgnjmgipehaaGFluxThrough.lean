/- Functions of the program: what each computes, as a plain function, and that the call comes to it. Written by a program (wip/gen). -/
import Derived.Test.YtohfgnjmgipehaaPField
import Derived.Test.YtohfgnjmgipehaaBase17
import Derived.Test.YtohfgnjmgipehaaProg
import Derived.KernelRfl
set_option linter.unusedVariables false
namespace Go.H
open Go Go.Proofs



noncomputable def spec_FluxThrough.s0 (a0_0 : Int) (a0_1 : Int) (a1_0 : List (Option Nat)) (a1_2 : List (Option Nat)) (a2 : Int) (x4 : Option Nat) (x5 : Int) : Option (((Option Nat) × Int) ⊕ ((Option Nat) × Int × Bool)) :=
  (if (decide (x5 < a0_1)) = true then ((idx a1_0 (IntKind.wrap .i64 (a2 + (IntKind.wrap .i64 (a0_0 * x5))))).bind fun (x9 : Option Nat) => ((idx a1_2 (IntKind.wrap .i64 (a2 + (IntKind.wrap .i64 (a0_0 * x5))))).bind fun (x10 : Option Nat) => some (.inl (fop .add .f32 x4 (fop .mul .f32 x9 x10), IntKind.wrap .i64 (x5 + 1))))) else some (.inr (x4, x5, decide (x5 < a0_1))))

noncomputable def spec_FluxThrough (a0_0 : Int) (a0_1 : Int) (a0_2 : Bool) (a0_3 : List (Option Nat)) (a0_4 : List (Option Nat)) (a1_0 : List (Option Nat)) (a1_1 : List (Option Nat)) (a1_2 : List (Option Nat)) (a2 : Int) : Option ((Option Nat) × Bool) :=
  ((((spec_l03Both a0_0 a0_1 a0_2 a0_3 a0_4 a1_0 a1_1 a1_2).bind fun (x2 : Bool) => (if (!x2) = true then some true else ((spec_l00In a2 0 (IntKind.wrap .i64 (a0_0 - 1))).bind fun (x3 : Bool) => some (!x3)))) : Option Bool).bind fun (x1 : Bool) => (if x1 = true then some ((some 0), false) else ((loopF (fun (s : ((Option Nat) × Int)) => spec_FluxThrough.s0 a0_0 a0_1 a1_0 a1_2 a2 s.1 s.2) ((some 0), 0)).bind fun (⟨x6, x7, x8⟩ : ((Option Nat) × Int × Bool)) => some (x6, true))))

noncomputable def impl_FluxThrough.s0 (a0_0 : Int) (a0_1 : Int) (a0_2 : Bool) (a0_3 : List (Option Nat)) (a0_4 : List (Option Nat)) (a1_0 : List (Option Nat)) (a1_2 : List (Option Nat)) (a2 : Int) (x4 : Option Nat) (x5 : Int) : Option (((Option Nat) × Int) ⊕ ((Option Nat) × Int × Bool)) :=
  (if (decide (x5 < a0_1)) = true then ((impl_Sheet_at a0_0 a0_1 a0_2 a0_3 a0_4 a2 x5).bind fun (x9 : Int) => ((idx a1_0 x9).bind fun (x10 : Option Nat) => ((idx a1_2 x9).bind fun (x11 : Option Nat) => some (.inl (fop .add .f32 x4 (fop .mul .f32 x10 x11), IntKind.wrap .i64 (x5 + 1)))))) else some (.inr (x4, x5, decide (x5 < a0_1))))

noncomputable def impl_FluxThrough (a0_0 : Int) (a0_1 : Int) (a0_2 : Bool) (a0_3 : List (Option Nat)) (a0_4 : List (Option Nat)) (a1_0 : List (Option Nat)) (a1_1 : List (Option Nat)) (a1_2 : List (Option Nat)) (a2 : Int) : Option ((Option Nat) × Bool) :=
  ((((impl_IsField a0_0 a0_1 a0_2 a0_3 a0_4 a1_0 a1_1 a1_2).bind fun (x2 : Bool) => (if (!x2) = true then some true else ((impl_within a2 0 (IntKind.wrap .i64 (a0_0 - 1))).bind fun (x3 : Bool) => some (!x3)))) : Option Bool).bind fun (x1 : Bool) => (if x1 = true then some ((some 0), false) else ((loopF (fun (s : ((Option Nat) × Int)) => impl_FluxThrough.s0 a0_0 a0_1 a0_2 a0_3 a0_4 a1_0 a1_2 a2 s.1 s.2) ((some 0), 0)).bind fun (⟨x6, x7, x8⟩ : ((Option Nat) × Int × Bool)) => some (x6, true))))

noncomputable def laws_FnExactFluxThrough (a0_0 : Int) (a0_1 : Int) (a0_2 : Bool) (a0_3 : List (Option Nat)) (a0_4 : List (Option Nat)) (a1_0 : List (Option Nat)) (a1_1 : List (Option Nat)) (a1_2 : List (Option Nat)) (a2 : Int) : Option Bool :=
  ((laws_szSheet a0_0 a0_1 a0_2 a0_3 a0_4 1048576).bind fun (x1 : Int) => (if (decide (x1 < 0)) = true then some true else ((laws_szField a1_0 a1_1 a1_2 x1).bind fun (x2 : Int) => (if (decide (x2 < 0)) = true then some true else ((laws_toSheet a0_0 a0_1 a0_2 a0_3 a0_4).bind fun (x3 : (Int × Int × Bool × (List (Option Nat)) × (List (Option Nat)))) => ((laws_toField a1_0 a1_1 a1_2).bind fun (x4 : ((List (Option Nat)) × (List (Option Nat)) × (List (Option Nat)))) => ((spec_FluxThrough x3.1 x3.2.1 x3.2.2.1 x3.2.2.2.1 x3.2.2.2.2 x4.1 x4.2.1 x4.2.2 a2).bind fun (x5 : ((Option Nat) × Bool)) => ((laws_toSheet a0_0 a0_1 a0_2 a0_3 a0_4).bind fun (x6 : (Int × Int × Bool × (List (Option Nat)) × (List (Option Nat)))) => ((laws_toField a1_0 a1_1 a1_2).bind fun (x7 : ((List (Option Nat)) × (List (Option Nat)) × (List (Option Nat)))) => ((impl_FluxThrough x6.1 x6.2.1 x6.2.2.1 x6.2.2.2.1 x6.2.2.2.2 x7.1 x7.2.1 x7.2.2 a2).bind fun (x8 : ((Option Nat) × Bool)) => ((((laws_sameFloat (wid x8.1) (wid x5.1)).bind fun (x10 : Bool) => (if (!x10) = true then some true else some (x8.2 != x5.2))) : Option Bool).bind fun (x9 : Bool) => (if x9 = true then some false else ((laws_toSheet a0_0 a0_1 a0_2 a0_3 a0_4).bind fun (x11 : (Int × Int × Bool × (List (Option Nat)) × (List (Option Nat)))) => ((laws_eqSheet x6.1 x6.2.1 x6.2.2.1 x6.2.2.2.1 x6.2.2.2.2 x11.1 x11.2.1 x11.2.2.1 x11.2.2.2.1 x11.2.2.2.2).bind fun (x12 : Bool) => (if (!x12) = true then some false else ((laws_toField a1_0 a1_1 a1_2).bind fun (x13 : ((List (Option Nat)) × (List (Option Nat)) × (List (Option Nat)))) => ((laws_eqField x7.1 x7.2.1 x7.2.2 x13.1 x13.2.1 x13.2.2).bind fun (x14 : Bool) => (if (!x14) = true then some false else some true))))))))))))))))))

set_option maxRecDepth 20000 in
theorem spec_FluxThrough_ok (h0 : Heap) (a0_0 : Int) (a0_1 : Int) (a0_2 : Bool) (u0_3 : Value) (a0_3 : List (Option Nat)) (g0_3 : SL (kF .f32) h0.size h0 u0_3 a0_3) (u0_4 : Value) (a0_4 : List (Option Nat)) (g0_4 : SL (kF .f32) h0.size h0 u0_4 a0_4) (u1_0 : Value) (a1_0 : List (Option Nat)) (g1_0 : SL (kF .f32) h0.size h0 u1_0 a1_0) (u1_1 : Value) (a1_1 : List (Option Nat)) (g1_1 : SL (kF .f32) h0.size h0 u1_1 a1_1) (u1_2 : Value) (a1_2 : List (Option Nat)) (g1_2 : SL (kF .f32) h0.size h0 u1_2 a1_2) (a2 : Int) (r : ((Option Nat) × Bool)) (hp : spec_FluxThrough a0_0 a0_1 a0_2 a0_3 a0_4 a1_0 a1_1 a1_2 a2 = some r) : CallsH Try.prog 34 ([(.agg (List.toArray (α := Value) [(.int .i64 a0_0), (.int .i64 a0_1), (.bool a0_2), u0_3, u0_4])), (.agg (List.toArray (α := Value) [u1_0, u1_1, u1_2])), (.int .i64 a2)].toArray ++ [].toArray) h0 (fun v h' => ∃ w0, v = (.tuple (List.toArray (α := Value) [w0, (.bool r.2)])) ∧ IsF .f32 w0 r.1 ∧ Mod [] h0 h' ∧ Sep [] h0.size h' []) := by
  unfold spec_FluxThrough at hp
  refine callsH_of_W (l := [(.agg (List.toArray (α := Value) [(.int .i64 a0_0), (.int .i64 a0_1), (.bool a0_2), u0_3, u0_4])), (.agg (List.toArray (α := Value) [u1_0, u1_1, u1_2])), (.int .i64 a2)]) (cap := []) 47 Try.func34 rfl rfl rfl ?_
  refine W.seq ?_
  refine W.region ?_
  refine RL.op _ (by decide) (opS_boxed (opv_boxA (cs := [(.int .i64 a0_0), (.int .i64 a0_1), (.bool a0_2), u0_3, u0_4]) rfl rfl)) ?_
  rintro _ hp1 ⟨bb1, rfl, MT_1, T_1⟩
  have X_1 : Mod [] h0 hp1 := Mod.step (A := []) (L := []) (Mod.refl [] h0) (Sep.nil [] h0.size h0) MT_1
  have S_1 : Sep [] h0.size hp1 [boxO bb1 [(.int .i64 a0_0), (.int .i64 a0_1), (.bool a0_2), u0_3, u0_4]] := Sep.step (A := []) (L := []) (Sep.nil [] h0.size h0) (Mod.size (Mod.refl [] h0)) MT_1 T_1
  refine RL.op _ (by decide) (opS_boxed (opv_boxA (cs := [u1_0, u1_1, u1_2]) rfl rfl)) ?_
  rintro _ hp2 ⟨bb2, rfl, MT_2, T_2⟩
  have X_2 : Mod [] h0 hp2 := Mod.step (A := []) (L := [boxO bb1 [(.int .i64 a0_0), (.int .i64 a0_1), (.bool a0_2), u0_3, u0_4]]) X_1 S_1 MT_2
  have S_2 : Sep [] h0.size hp2 [boxO bb2 [u1_0, u1_1, u1_2], boxO bb1 [(.int .i64 a0_0), (.int .i64 a0_1), (.bool a0_2), u0_3, u0_4]] := Sep.step (A := []) (L := [boxO bb1 [(.int .i64 a0_0), (.int .i64 a0_1), (.bool a0_2), u0_3, u0_4]]) S_1 (Mod.size X_1) MT_2 T_2
  refine RL.opD (by decide) (opv_assign rfl rfl) ?_
  refine RL.opD (by decide) (opv_assign rfl rfl) ?_
  refine RL.nil ?_
  refine thnN ?_
  refine W.seq ?_
  refine W.seq ?_
  obtain ⟨x1, hy1, hp⟩ := Option.bind_eq_some_iff.1 hp
  refine W.cut (fun φ' h' => Fr.sub [(0, (.agg (List.toArray (α := Value) [(.int .i64 a0_0), (.int .i64 a0_1), (.bool a0_2), u0_3, u0_4]))), (1, (.agg (List.toArray (α := Value) [u1_0, u1_1, u1_2]))), (2, (.int .i64 a2)), (3, (.pointer (some ⟨bb1, 0, none⟩))), (4, (.pointer (some ⟨bb2, 0, none⟩))), (6, (.float .f32 0)), (7, (.bool false)), (20, (.bool x1))] φ' ∧ hp2 = h') ?_ ?_
  · obtain ⟨x2, hx2, hy1⟩ := Option.bind_eq_some_iff.1 hy1
    by_cases c1 : (!x2) = true
    · rw [if_pos c1] at hy1
      refine W.region ?_
      refine RL.op _ (by decide) (opv_call (cap := []) (spec_l03Both_ok _ _ _ _ _ _ _ (SL.up (SL.mod g0_3 X_2 (Nat.le_refl _) nob) (Nat.le_trans (Nat.le_refl _) (Mod.size X_2))) _ _ (SL.up (SL.mod g0_4 X_2 (Nat.le_refl _) nob) (Nat.le_trans (Nat.le_refl _) (Mod.size X_2))) (Sep.at (o := boxO bb1 [(.int .i64 a0_0), (.int .i64 a0_1), (.bool a0_2), u0_3, u0_4]) S_2 1 rfl) _ _ _ (SL.up (SL.mod g1_0 X_2 (Nat.le_refl _) nob) (Nat.le_trans (Nat.le_refl _) (Mod.size X_2))) _ _ (SL.up (SL.mod g1_1 X_2 (Nat.le_refl _) nob) (Nat.le_trans (Nat.le_refl _) (Mod.size X_2))) _ _ (SL.up (SL.mod g1_2 X_2 (Nat.le_refl _) nob) (Nat.le_trans (Nat.le_refl _) (Mod.size X_2))) (Sep.at (o := boxO bb2 [u1_0, u1_1, u1_2]) S_2 0 rfl) _ hx2) rfl rfl ⟨rfl, rfl, trivial⟩ Try.func90 rfl rfl) ?_
      rintro _ _ ⟨rfl, rfl⟩
      refine RL.opD (by decide) (opv_not rfl rfl) ?_
      refine RL.opD (by decide) (opv_move rfl rfl) ?_
      refine RL.no rfl rfl (Eq.trans c1 (by decide)) (by decide) ?_
      refine RL.no rfl rfl (Eq.trans c1 (by decide)) (by decide) ?_
      refine RL.no rfl rfl (Eq.trans c1 (by decide)) (by decide) ?_
      refine RL.no rfl rfl (Eq.trans c1 (by decide)) (by decide) ?_
      refine RL.no rfl rfl (Eq.trans c1 (by decide)) (by decide) ?_
      refine RL.no rfl rfl (Eq.trans c1 (by decide)) (by decide) ?_
      refine RL.opD (by decide) (opv_pick rfl rfl (fun _ => rfl) (fun e => absurd (Eq.trans (Eq.symm e) c1) (by decide)) rfl) ?_
      refine RL.nil ?_
      have ey1 := Option.some.inj hy1
      subst ey1
      refine onlyN ?_
      exact ⟨⟨rfl, rfl, rfl, rfl, rfl, rfl, rfl, rfl, trivial⟩, rfl⟩
    · rw [if_neg c1] at hy1
      have c1 := eq_false_of_ne_true c1
      obtain ⟨x3, hx3, hy1⟩ := Option.bind_eq_some_iff.1 hy1
      refine W.region ?_
      refine RL.op _ (by decide) (opv_call (cap := []) (spec_l03Both_ok _ _ _ _ _ _ _ (SL.up (SL.mod g0_3 X_2 (Nat.le_refl _) nob) (Nat.le_trans (Nat.le_refl _) (Mod.size X_2))) _ _ (SL.up (SL.mod g0_4 X_2 (Nat.le_refl _) nob) (Nat.le_trans (Nat.le_refl _) (Mod.size X_2))) (Sep.at (o := boxO bb1 [(.int .i64 a0_0), (.int .i64 a0_1), (.bool a0_2), u0_3, u0_4]) S_2 1 rfl) _ _ _ (SL.up (SL.mod g1_0 X_2 (Nat.le_refl _) nob) (Nat.le_trans (Nat.le_refl _) (Mod.size X_2))) _ _ (SL.up (SL.mod g1_1 X_2 (Nat.le_refl _) nob) (Nat.le_trans (Nat.le_refl _) (Mod.size X_2))) _ _ (SL.up (SL.mod g1_2 X_2 (Nat.le_refl _) nob) (Nat.le_trans (Nat.le_refl _) (Mod.size X_2))) (Sep.at (o := boxO bb2 [u1_0, u1_1, u1_2]) S_2 0 rfl) _ hx2) rfl rfl ⟨rfl, rfl, trivial⟩ Try.func90 rfl rfl) ?_
      rintro _ _ ⟨rfl, rfl⟩
      refine RL.opD (by decide) (opv_not rfl rfl) ?_
      refine RL.opD (by decide) (opv_move rfl rfl) ?_
      refine RL.yes _ rfl rfl c1 (by decide) (opv_move rfl rfl) ?_
      rintro _ _ ⟨rfl, rfl⟩
      refine RL.yes _ rfl rfl c1 (by decide) (opv_fieldAddr rfl Try.fo29_0 rfl) ?_
      rintro _ _ ⟨rfl, rfl⟩
      refine RL.yes _ rfl rfl c1 (by decide) (opv_loadB rfl Try.one2 rfl (Sep.at (o := boxO bb1 [(.int .i64 a0_0), (.int .i64 a0_1), (.bool a0_2), u0_3, u0_4]) S_2 1 rfl) rfl) ?_
      rintro _ _ ⟨rfl, rfl⟩
      refine RL.yes _ rfl rfl c1 (by decide) (opv_sub rfl rfl rfl) ?_
      rintro _ _ ⟨rfl, rfl⟩
      refine RL.yes _ rfl rfl c1 (by decide) (opv_call (cap := []) (spec_l00In_ok _ _ _ _ _ hx3) rfl rfl ⟨rfl, rfl, rfl, trivial⟩ Try.func78 rfl rfl) ?_
      rintro _ _ ⟨rfl, rfl⟩
      refine RL.yes _ rfl rfl c1 (by decide) (opv_not rfl rfl) ?_
      rintro _ _ ⟨rfl, rfl⟩
      refine RL.opD (by decide) (opv_pick rfl rfl (fun e => absurd (Eq.trans (Eq.symm e) c1) (by decide)) (fun _ => rfl) rfl) ?_
      refine RL.nil ?_
      have ey1 := Option.some.inj hy1
      subst ey1
      refine onlyN ?_
      exact ⟨⟨rfl, rfl, rfl, rfl, rfl, rfl, rfl, rfl, trivial⟩, rfl⟩
  rintro φ' _ ⟨hs1, rfl⟩
  refine thnN ?_
  refine W.sub hs1 ?_
  by_cases c2 : x1 = true
  · rw [if_pos c2] at hp
    refine W.condT rfl c2 ?_
    refine W.seq ?_
    refine W.region ?_
    refine RL.opD (by decide) (opv_assign rfl rfl) ?_
    refine RL.opD (by decide) (opv_assign rfl rfl) ?_
    refine RL.nil ?_
    refine thnN ?_
    refine W.ret ?_
    refine thnR ?_
    have er := Option.some.inj hp
    subst er
    exact Rt.two rfl rfl rfl ⟨(.float .f32 0), rfl, (isF_lit .f32 0 (by decide) (by decide)), X_2, (Sep.nil _ _ _)⟩
  · rw [if_neg c2] at hp
    have c2 := eq_false_of_ne_true c2
    refine W.condF rfl c2 ?_
    refine W.skip ?_
    refine thnN ?_
    refine W.seq ?_
    refine W.region ?_
    refine RL.opD (by decide) (opv_assign rfl rfl) ?_
    refine RL.nil ?_
    refine thnN ?_
    refine W.seq ?_
    refine W.seq ?_
    refine W.region ?_
    refine RL.opD (by decide) (opv_assign rfl rfl) ?_
    refine RL.nil ?_
    refine thnN ?_
    obtain ⟨y2, hy2, hp⟩ := Option.bind_eq_some_iff.1 hp
    refine W.cut (fun φ' h' => ∃ x6, ∃ x7, ∃ x8, ∃ v2, y2 = (x6, x7, x8) ∧ Fr.sub [(0, (.agg (List.toArray (α := Value) [(.int .i64 a0_0), (.int .i64 a0_1), (.bool a0_2), u0_3, u0_4]))), (1, (.agg (List.toArray (α := Value) [u1_0, u1_1, u1_2]))), (2, (.int .i64 a2)), (3, (.pointer (some ⟨bb1, 0, none⟩))), (4, (.pointer (some ⟨bb2, 0, none⟩))), (6, (.float .f32 0)), (7, (.bool false)), (20, (.bool x1)), (8, v2), (9, (.int .i64 x7)), (24, (.bool x8))] φ' ∧ IsF .f32 v2 x6 ∧ hp2 = h') ?_ ?_
    · refine W.block ?_
      refine W.loopS (fun (s : ((Option Nat) × Int)) φ' h' => ∃ v1, Fr.sub [(0, (.agg (List.toArray (α := Value) [(.int .i64 a0_0), (.int .i64 a0_1), (.bool a0_2), u0_3, u0_4]))), (1, (.agg (List.toArray (α := Value) [u1_0, u1_1, u1_2]))), (2, (.int .i64 a2)), (3, (.pointer (some ⟨bb1, 0, none⟩))), (4, (.pointer (some ⟨bb2, 0, none⟩))), (6, (.float .f32 0)), (7, (.bool false)), (20, (.bool x1)), (8, v1), (9, (.int .i64 s.2))] φ' ∧ IsF .f32 v1 s.1 ∧ hp2 = h') hy2 ⟨(.float .f32 0), ⟨rfl, rfl, rfl, rfl, rfl, rfl, rfl, rfl, rfl, rfl, trivial⟩, (isF_lit .f32 0 (by decide) (by decide)), rfl⟩ ?_
      rintro ⟨x4, x5⟩ φ' _ o1 ⟨v1, hs2, fv1, rfl⟩ ho1 hy1
      have hs2 : Fr.sub [(0, (.agg (List.toArray (α := Value) [(.int .i64 a0_0), (.int .i64 a0_1), (.bool a0_2), u0_3, u0_4]))), (1, (.agg (List.toArray (α := Value) [u1_0, u1_1, u1_2]))), (2, (.int .i64 a2)), (3, (.pointer (some ⟨bb1, 0, none⟩))), (4, (.pointer (some ⟨bb2, 0, none⟩))), (6, (.float .f32 0)), (7, (.bool false)), (20, (.bool x1)), (8, v1), (9, (.int .i64 x5))] φ' := hs2
      have fv1 : IsF .f32 v1 x4 := fv1
      have ho1 : spec_FluxThrough.s0 a0_0 a0_1 a1_0 a1_2 a2 x4 x5 = some o1 := ho1
      unfold spec_FluxThrough.s0 at ho1
      refine W.sub hs2 ?_
      refine W.seq ?_
      refine W.seq ?_
      refine W.region ?_
      refine RL.opD (by decide) (opv_move rfl rfl) ?_
      refine RL.opD (by decide) (opv_fieldAddr rfl Try.fo29_1 rfl) ?_
      refine RL.opD (by decide) (opv_loadB rfl Try.one2 rfl (Sep.at (o := boxO bb1 [(.int .i64 a0_0), (.int .i64 a0_1), (.bool a0_2), u0_3, u0_4]) S_2 1 rfl) rfl) ?_
      refine RL.opD (by decide) (opv_icmp rfl rfl rfl rfl) ?_
      refine RL.nil ?_
      refine thnN ?_
      by_cases c3 : (decide (x5 < a0_1)) = true
      · rw [if_pos c3] at ho1
        refine W.condT rfl c3 ?_
        refine W.skip ?_
        refine thnN ?_
        refine W.seq ?_
        refine W.block ?_
        refine W.seq ?_
        refine W.region ?_
        refine RL.opD (by decide) (opv_move rfl rfl) ?_
        refine RL.opD (by decide) (opv_fieldAddr rfl Try.fo29_0 rfl) ?_
        refine RL.opD (by decide) (opv_loadB rfl Try.one2 rfl (Sep.at (o := boxO bb1 [(.int .i64 a0_0), (.int .i64 a0_1), (.bool a0_2), u0_3, u0_4]) S_2 1 rfl) rfl) ?_
        refine RL.opD (by decide) (opv_move rfl rfl) ?_
        refine RL.opD (by decide) (opv_mul rfl rfl rfl) ?_
        refine RL.opD (by decide) (opv_add rfl rfl rfl) ?_
        refine RL.opD (by decide) (opv_assign rfl rfl) ?_
        refine RL.nil ?_
        refine thnN ?_
        obtain ⟨x9, hx9, ho1⟩ := Option.bind_eq_some_iff.1 ho1
        obtain ⟨x10, hx10, ho1⟩ := Option.bind_eq_some_iff.1 ho1
        refine W.sub (ψ := [(0, (.agg (List.toArray (α := Value) [(.int .i64 a0_0), (.int .i64 a0_1), (.bool a0_2), u0_3, u0_4]))), (1, (.agg (List.toArray (α := Value) [u1_0, u1_1, u1_2]))), (2, (.int .i64 a2)), (3, (.pointer (some ⟨bb1, 0, none⟩))), (4, (.pointer (some ⟨bb2, 0, none⟩))), (6, (.float .f32 0)), (7, (.bool false)), (20, (.bool x1)), (8, v1), (9, (.int .i64 x5)), (24, (.bool (decide (x5 < a0_1)))), (10, (.int .i64 (IntKind.wrap .i64 (a2 + (IntKind.wrap .i64 (a0_0 * x5))))))]) ⟨rfl, rfl, rfl, rfl, rfl, rfl, rfl, rfl, rfl, rfl, rfl, rfl, trivial⟩ ?_
        refine W.regionP [fun v _ => IsF .f32 v x4, fun v _ => @Eq Value (.pointer (some ⟨bb2, 0, none⟩)) v, fun v _ => @Eq Value u1_0 v, fun v _ => @Eq Value (.int .i64 (IntKind.wrap .i64 (a2 + (IntKind.wrap .i64 (a0_0 * x5))))) v, fun v _ => PtI 1 v u1_0 (Int.toNat (IntKind.wrap .i64 (a2 + (IntKind.wrap .i64 (a0_0 * x5))))), fun v _ => IsF .f32 v x9, fun v _ => @Eq Value (.pointer (some ⟨bb2, 2, none⟩)) v, fun v _ => @Eq Value u1_2 v, fun v _ => @Eq Value (.int .i64 (IntKind.wrap .i64 (a2 + (IntKind.wrap .i64 (a0_0 * x5))))) v, fun v _ => PtI 1 v u1_2 (Int.toNat (IntKind.wrap .i64 (a2 + (IntKind.wrap .i64 (a0_0 * x5))))), fun v _ => IsF .f32 v x10, fun v _ => IsF .f32 v (fop .mul .f32 x9 x10), fun v _ => IsF .f32 v (fop .add .f32 x4 (fop .mul .f32 x9 x10))] [[], [], [1], [], [2, 3], [4], [], [6], [], [7, 8], [9], [5, 10], [0, 11]] [12] Try.mixed (by decide +kernel) (by decide +kernel) rfl rfl rfl ?_ ?_
        · refine ⟨⟨rfl, ?_⟩, ⟨rfl, ?_⟩, ⟨rfl, ?_⟩, ⟨rfl, ?_⟩, ⟨rfl, ?_⟩, ⟨rfl, ?_⟩, ⟨rfl, ?_⟩, ⟨rfl, ?_⟩, ⟨rfl, ?_⟩, ⟨rfl, ?_⟩, ⟨rfl, ?_⟩, ⟨rfl, ?_⟩, ⟨rfl, ?_⟩, trivial⟩
          · rintro _ rfl
            refine Dep.nil ?_
            refine GuardOK.none rfl ?_
            exact OpV.toD (opv_move rfl rfl) fv1
          · rintro _ rfl
            refine Dep.nil ?_
            refine GuardOK.none rfl ?_
            exact OpV.toD (opv_fieldAddr rfl Try.fo53_0 rfl) rfl
          · rintro _ rfl _ rfl
            refine Dep.nil ?_
            refine GuardOK.none rfl ?_
            exact OpV.toD (opv_loadB rfl Try.one22 rfl (Sep.at (o := boxO bb2 [u1_0, u1_1, u1_2]) S_2 0 rfl) rfl) rfl
          · rintro _ rfl
            refine Dep.nil ?_
            refine GuardOK.none rfl ?_
            exact OpV.toD (opv_move rfl rfl) rfl
          · rintro _ rfl _ rfl _ rfl
            refine Dep.nil ?_
            refine GuardOK.none rfl ?_
            exact OpV.toS (opv_index rfl Try.underlying22 (by rw [Try.size40]; rfl) rfl rfl (SL.mod g1_0 X_2 (Nat.le_refl _) nob) hx9) (fun _ h => h)
          · rintro _ rfl v4 fv4
            refine Dep.nil ?_
            refine GuardOK.none rfl ?_
            exact OpV.toS (opv_loadF rfl Try.one40 rfl fv4 (SL.mod g1_0 X_2 (Nat.le_refl _) nob) hx9) (fun _ h => h)
          · rintro _ rfl
            refine Dep.nil ?_
            refine GuardOK.none rfl ?_
            exact OpV.toD (opv_fieldAddr rfl Try.fo53_2 rfl) rfl
          · rintro _ rfl _ rfl
            refine Dep.nil ?_
            refine GuardOK.none rfl ?_
            exact OpV.toD (opv_loadB rfl Try.one22 rfl (Sep.at (o := boxO bb2 [u1_0, u1_1, u1_2]) S_2 0 rfl) rfl) rfl
          · rintro _ rfl
            refine Dep.nil ?_
            refine GuardOK.none rfl ?_
            exact OpV.toD (opv_move rfl rfl) rfl
          · rintro _ rfl _ rfl _ rfl
            refine Dep.nil ?_
            refine GuardOK.none rfl ?_
            exact OpV.toS (opv_index rfl Try.underlying22 (by rw [Try.size40]; rfl) rfl rfl (SL.mod g1_2 X_2 (Nat.le_refl _) nob) hx10) (fun _ h => h)
          · rintro _ rfl v6 fv6
            refine Dep.nil ?_
            refine GuardOK.none rfl ?_
            exact OpV.toS (opv_loadF rfl Try.one40 rfl fv6 (SL.mod g1_2 X_2 (Nat.le_refl _) nob) hx10) (fun _ h => h)
          · rintro _ rfl v5 fv5 v7 fv7
            refine Dep.nil ?_
            refine GuardOK.none rfl ?_
            exact OpV.toS (opv_fop rfl rfl rfl rfl fv5 fv7) (fun _ h => h)
          · rintro _ rfl v3 fv3 v8 fv8
            refine Dep.nil ?_
            refine GuardOK.none rfl ?_
            exact OpV.toS (opv_fop rfl rfl rfl rfl fv3 fv8) (fun _ h => h)
        rintro v9 fv9
        refine Dep.nil ?_
        show RL _ _ _ _ (_ :: _) _ _
        refine RL.opD (by decide) (opv_assign rfl rfl) ?_
        refine RL.nil ?_
        refine blkN ?_
        refine thnN ?_
        refine W.region ?_
        refine RL.opD (by decide) (opv_move rfl rfl) ?_
        refine RL.opD (by decide) (opv_add rfl rfl rfl) ?_
        refine RL.opD (by decide) (opv_assign rfl rfl) ?_
        refine RL.nil ?_
        have eo1 := Option.some.inj ho1
        subst eo1
        refine rndN (s' := (fop .add .f32 x4 (fop .mul .f32 x9 x10), IntKind.wrap .i64 (x5 + 1))) rfl ?_
        exact ⟨v9, ⟨rfl, rfl, rfl, rfl, rfl, rfl, rfl, rfl, rfl, rfl, trivial⟩, fv9, rfl⟩
      · rw [if_neg c3] at ho1
        have c3 := eq_false_of_ne_true c3
        refine W.condF rfl c3 ?_
        refine W.exit ?_
        refine thnX ?_
        refine rndX ?_
        refine blkI ?_
        have eo1 := Option.some.inj ho1
        subst eo1
        have ey2 := hy1 _ rfl
        subst ey2
        refine onlyN ?_
        exact ⟨x4, x5, decide (x5 < a0_1), v1, rfl, ⟨rfl, rfl, rfl, rfl, rfl, rfl, rfl, rfl, rfl, rfl, rfl, trivial⟩, fv1, rfl⟩
    rintro φ' _ ⟨x6, x7, x8, v2, rfl, hs3, fv2, rfl⟩
    try dsimp only at hp
    refine thnN ?_
    refine W.sub hs3 ?_
    refine W.seq ?_
    refine W.region ?_
    refine RL.opD (by decide) (opv_move rfl rfl) ?_
    refine RL.opD (by decide) (opv_assign rfl rfl) ?_
    refine RL.opD (by decide) (opv_assign rfl rfl) ?_
    refine RL.nil ?_
    refine thnN ?_
    refine W.ret ?_
    have er := Option.some.inj hp
    subst er
    exact Rt.two rfl rfl rfl ⟨v2, rfl, fv2, X_2, (Sep.nil _ _ _)⟩

set_option maxRecDepth 20000 in
theorem impl_FluxThrough_ok (h0 : Heap) (a0_0 : Int) (a0_1 : Int) (a0_2 : Bool) (u0_3 : Value) (a0_3 : List (Option Nat)) (g0_3 : SL (kF .f32) h0.size h0 u0_3 a0_3) (u0_4 : Value) (a0_4 : List (Option Nat)) (g0_4 : SL (kF .f32) h0.size h0 u0_4 a0_4) (u1_0 : Value) (a1_0 : List (Option Nat)) (g1_0 : SL (kF .f32) h0.size h0 u1_0 a1_0) (u1_1 : Value) (a1_1 : List (Option Nat)) (g1_1 : SL (kF .f32) h0.size h0 u1_1 a1_1) (u1_2 : Value) (a1_2 : List (Option Nat)) (g1_2 : SL (kF .f32) h0.size h0 u1_2 a1_2) (a2 : Int) (r : ((Option Nat) × Bool)) (hp : impl_FluxThrough a0_0 a0_1 a0_2 a0_3 a0_4 a1_0 a1_1 a1_2 a2 = some r) : CallsH Try.prog 36 ([(.agg (List.toArray (α := Value) [(.int .i64 a0_0), (.int .i64 a0_1), (.bool a0_2), u0_3, u0_4])), (.agg (List.toArray (α := Value) [u1_0, u1_1, u1_2])), (.int .i64 a2)].toArray ++ [].toArray) h0 (fun v h' => ∃ w0, v = (.tuple (List.toArray (α := Value) [w0, (.bool r.2)])) ∧ IsF .f32 w0 r.1 ∧ Mod [] h0 h' ∧ Sep [] h0.size h' []) := by
  unfold impl_FluxThrough at hp
  refine callsH_of_W (l := [(.agg (List.toArray (α := Value) [(.int .i64 a0_0), (.int .i64 a0_1), (.bool a0_2), u0_3, u0_4])), (.agg (List.toArray (α := Value) [u1_0, u1_1, u1_2])), (.int .i64 a2)]) (cap := []) 47 Try.func36 rfl rfl rfl ?_
  refine W.seq ?_
  refine W.region ?_
  refine RL.op _ (by decide) (opS_boxed (opv_boxA (cs := [(.int .i64 a0_0), (.int .i64 a0_1), (.bool a0_2), u0_3, u0_4]) rfl rfl)) ?_
  rintro _ hp1 ⟨bb1, rfl, MT_1, T_1⟩
  have X_1 : Mod [] h0 hp1 := Mod.step (A := []) (L := []) (Mod.refl [] h0) (Sep.nil [] h0.size h0) MT_1
  have S_1 : Sep [] h0.size hp1 [boxO bb1 [(.int .i64 a0_0), (.int .i64 a0_1), (.bool a0_2), u0_3, u0_4]] := Sep.step (A := []) (L := []) (Sep.nil [] h0.size h0) (Mod.size (Mod.refl [] h0)) MT_1 T_1
  refine RL.op _ (by decide) (opS_boxed (opv_boxA (cs := [u1_0, u1_1, u1_2]) rfl rfl)) ?_
  rintro _ hp2 ⟨bb2, rfl, MT_2, T_2⟩
  have X_2 : Mod [] h0 hp2 := Mod.step (A := []) (L := [boxO bb1 [(.int .i64 a0_0), (.int .i64 a0_1), (.bool a0_2), u0_3, u0_4]]) X_1 S_1 MT_2
  have S_2 : Sep [] h0.size hp2 [boxO bb2 [u1_0, u1_1, u1_2], boxO bb1 [(.int .i64 a0_0), (.int .i64 a0_1), (.bool a0_2), u0_3, u0_4]] := Sep.step (A := []) (L := [boxO bb1 [(.int .i64 a0_0), (.int .i64 a0_1), (.bool a0_2), u0_3, u0_4]]) S_1 (Mod.size X_1) MT_2 T_2
  refine RL.opD (by decide) (opv_assign rfl rfl) ?_
  refine RL.opD (by decide) (opv_assign rfl rfl) ?_
  refine RL.nil ?_
  refine thnN ?_
  refine W.seq ?_
  refine W.seq ?_
  obtain ⟨x1, hy1, hp⟩ := Option.bind_eq_some_iff.1 hp
  refine W.cut (fun φ' h' => Fr.sub [(0, (.agg (List.toArray (α := Value) [(.int .i64 a0_0), (.int .i64 a0_1), (.bool a0_2), u0_3, u0_4]))), (1, (.agg (List.toArray (α := Value) [u1_0, u1_1, u1_2]))), (2, (.int .i64 a2)), (3, (.pointer (some ⟨bb1, 0, none⟩))), (4, (.pointer (some ⟨bb2, 0, none⟩))), (6, (.float .f32 0)), (7, (.bool false)), (22, (.bool x1))] φ' ∧ Mod [] h0 h' ∧ Sep [] h0.size h' [boxO bb2 [u1_0, u1_1, u1_2], boxO bb1 [(.int .i64 a0_0), (.int .i64 a0_1), (.bool a0_2), u0_3, u0_4]]) ?_ ?_
  · obtain ⟨x2, hx2, hy1⟩ := Option.bind_eq_some_iff.1 hy1
    by_cases c1 : (!x2) = true
    · rw [if_pos c1] at hy1
      refine W.region ?_
      refine RL.opD (by decide) (opv_loadA (us := [(.int .i64 a0_0), (.int .i64 a0_1), (.bool a0_2), u0_3, u0_4]) rfl Try.agg29 Try.size29 rfl (Sep.at (o := boxO bb1 [(.int .i64 a0_0), (.int .i64 a0_1), (.bool a0_2), u0_3, u0_4]) S_2 1 rfl) rfl rfl) ?_
      refine RL.opD (by decide) (opv_loadA (us := [u1_0, u1_1, u1_2]) rfl Try.agg53 Try.size53 rfl (Sep.at (o := boxO bb2 [u1_0, u1_1, u1_2]) S_2 0 rfl) rfl rfl) ?_
      refine RL.op _ (by decide) (opv_call (cap := []) (impl_IsField_ok _ _ _ _ _ _ (SL.up (SL.mod g0_3 X_2 (Nat.le_refl _) nob) (Nat.le_trans (Nat.le_refl _) (Mod.size X_2))) _ _ (SL.up (SL.mod g0_4 X_2 (Nat.le_refl _) nob) (Nat.le_trans (Nat.le_refl _) (Mod.size X_2))) _ _ (SL.up (SL.mod g1_0 X_2 (Nat.le_refl _) nob) (Nat.le_trans (Nat.le_refl _) (Mod.size X_2))) _ _ (SL.up (SL.mod g1_1 X_2 (Nat.le_refl _) nob) (Nat.le_trans (Nat.le_refl _) (Mod.size X_2))) _ _ (SL.up (SL.mod g1_2 X_2 (Nat.le_refl _) nob) (Nat.le_trans (Nat.le_refl _) (Mod.size X_2))) _ hx2) rfl rfl ⟨rfl, rfl, trivial⟩ Try.func91 rfl rfl) ?_
      rintro _ hp3 ⟨rfl, MT_3, T_3⟩
      have X_3 : Mod [] h0 hp3 := Mod.step (A := []) (L := [boxO bb2 [u1_0, u1_1, u1_2], boxO bb1 [(.int .i64 a0_0), (.int .i64 a0_1), (.bool a0_2), u0_3, u0_4]]) X_2 S_2 MT_3
      have S_3 : Sep [] h0.size hp3 [boxO bb2 [u1_0, u1_1, u1_2], boxO bb1 [(.int .i64 a0_0), (.int .i64 a0_1), (.bool a0_2), u0_3, u0_4]] := Sep.step (A := []) (L := [boxO bb2 [u1_0, u1_1, u1_2], boxO bb1 [(.int .i64 a0_0), (.int .i64 a0_1), (.bool a0_2), u0_3, u0_4]]) S_2 (Mod.size X_2) MT_3 T_3
      refine RL.opD (by decide) (opv_not rfl rfl) ?_
      refine RL.opD (by decide) (opv_move rfl rfl) ?_
      refine RL.no rfl rfl (Eq.trans c1 (by decide)) (by decide) ?_
      refine RL.no rfl rfl (Eq.trans c1 (by decide)) (by decide) ?_
      refine RL.no rfl rfl (Eq.trans c1 (by decide)) (by decide) ?_
      refine RL.no rfl rfl (Eq.trans c1 (by decide)) (by decide) ?_
      refine RL.no rfl rfl (Eq.trans c1 (by decide)) (by decide) ?_
      refine RL.no rfl rfl (Eq.trans c1 (by decide)) (by decide) ?_
      refine RL.opD (by decide) (opv_pick rfl rfl (fun _ => rfl) (fun e => absurd (Eq.trans (Eq.symm e) c1) (by decide)) rfl) ?_
      refine RL.nil ?_
      have ey1 := Option.some.inj hy1
      subst ey1
      refine onlyN ?_
      exact ⟨⟨rfl, rfl, rfl, rfl, rfl, rfl, rfl, rfl, trivial⟩, X_3, (Sep.sel S_3 [0, 1] (by decide))⟩
    · rw [if_neg c1] at hy1
      have c1 := eq_false_of_ne_true c1
      obtain ⟨x3, hx3, hy1⟩ := Option.bind_eq_some_iff.1 hy1
      refine W.region ?_
      refine RL.opD (by decide) (opv_loadA (us := [(.int .i64 a0_0), (.int .i64 a0_1), (.bool a0_2), u0_3, u0_4]) rfl Try.agg29 Try.size29 rfl (Sep.at (o := boxO bb1 [(.int .i64 a0_0), (.int .i64 a0_1), (.bool a0_2), u0_3, u0_4]) S_2 1 rfl) rfl rfl) ?_
      refine RL.opD (by decide) (opv_loadA (us := [u1_0, u1_1, u1_2]) rfl Try.agg53 Try.size53 rfl (Sep.at (o := boxO bb2 [u1_0, u1_1, u1_2]) S_2 0 rfl) rfl rfl) ?_
      refine RL.op _ (by decide) (opv_call (cap := []) (impl_IsField_ok _ _ _ _ _ _ (SL.up (SL.mod g0_3 X_2 (Nat.le_refl _) nob) (Nat.le_trans (Nat.le_refl _) (Mod.size X_2))) _ _ (SL.up (SL.mod g0_4 X_2 (Nat.le_refl _) nob) (Nat.le_trans (Nat.le_refl _) (Mod.size X_2))) _ _ (SL.up (SL.mod g1_0 X_2 (Nat.le_refl _) nob) (Nat.le_trans (Nat.le_refl _) (Mod.size X_2))) _ _ (SL.up (SL.mod g1_1 X_2 (Nat.le_refl _) nob) (Nat.le_trans (Nat.le_refl _) (Mod.size X_2))) _ _ (SL.up (SL.mod g1_2 X_2 (Nat.le_refl _) nob) (Nat.le_trans (Nat.le_refl _) (Mod.size X_2))) _ hx2) rfl rfl ⟨rfl, rfl, trivial⟩ Try.func91 rfl rfl) ?_
      rintro _ hp3 ⟨rfl, MT_3, T_3⟩
      have X_3 : Mod [] h0 hp3 := Mod.step (A := []) (L := [boxO bb2 [u1_0, u1_1, u1_2], boxO bb1 [(.int .i64 a0_0), (.int .i64 a0_1), (.bool a0_2), u0_3, u0_4]]) X_2 S_2 MT_3
      have S_3 : Sep [] h0.size hp3 [boxO bb2 [u1_0, u1_1, u1_2], boxO bb1 [(.int .i64 a0_0), (.int .i64 a0_1), (.bool a0_2), u0_3, u0_4]] := Sep.step (A := []) (L := [boxO bb2 [u1_0, u1_1, u1_2], boxO bb1 [(.int .i64 a0_0), (.int .i64 a0_1), (.bool a0_2), u0_3, u0_4]]) S_2 (Mod.size X_2) MT_3 T_3
      refine RL.opD (by decide) (opv_not rfl rfl) ?_
      refine RL.opD (by decide) (opv_move rfl rfl) ?_
      refine RL.yes _ rfl rfl c1 (by decide) (opv_move rfl rfl) ?_
      rintro _ _ ⟨rfl, rfl⟩
      refine RL.yes _ rfl rfl c1 (by decide) (opv_fieldAddr rfl Try.fo29_0 rfl) ?_
      rintro _ _ ⟨rfl, rfl⟩
      refine RL.yes _ rfl rfl c1 (by decide) (opv_loadB rfl Try.one2 rfl (Sep.at (o := boxO bb1 [(.int .i64 a0_0), (.int .i64 a0_1), (.bool a0_2), u0_3, u0_4]) S_3 1 rfl) rfl) ?_
      rintro _ _ ⟨rfl, rfl⟩
      refine RL.yes _ rfl rfl c1 (by decide) (opv_sub rfl rfl rfl) ?_
      rintro _ _ ⟨rfl, rfl⟩
      refine RL.yes _ rfl rfl c1 (by decide) (opv_call (cap := []) (impl_within_ok _ _ _ _ _ hx3) rfl rfl ⟨rfl, rfl, rfl, trivial⟩ Try.func77 rfl rfl) ?_
      rintro _ _ ⟨rfl, rfl⟩
      refine RL.yes _ rfl rfl c1 (by decide) (opv_not rfl rfl) ?_
      rintro _ _ ⟨rfl, rfl⟩
      refine RL.opD (by decide) (opv_pick rfl rfl (fun e => absurd (Eq.trans (Eq.symm e) c1) (by decide)) (fun _ => rfl) rfl) ?_
      refine RL.nil ?_
      have ey1 := Option.some.inj hy1
      subst ey1
      refine onlyN ?_
      exact ⟨⟨rfl, rfl, rfl, rfl, rfl, rfl, rfl, rfl, trivial⟩, X_3, (Sep.sel S_3 [0, 1] (by decide))⟩
  rintro φ' hp4 ⟨hs1, X_4, S_4⟩
  refine thnN ?_
  refine W.sub hs1 ?_
  by_cases c2 : x1 = true
  · rw [if_pos c2] at hp
    refine W.condT rfl c2 ?_
    refine W.seq ?_
    refine W.region ?_
    refine RL.opD (by decide) (opv_assign rfl rfl) ?_
    refine RL.opD (by decide) (opv_assign rfl rfl) ?_
    refine RL.nil ?_
    refine thnN ?_
    refine W.ret ?_
    refine thnR ?_
    have er := Option.some.inj hp
    subst er
    exact Rt.two rfl rfl rfl ⟨(.float .f32 0), rfl, (isF_lit .f32 0 (by decide) (by decide)), X_4, (Sep.nil _ _ _)⟩
  · rw [if_neg c2] at hp
    have c2 := eq_false_of_ne_true c2
    refine W.condF rfl c2 ?_
    refine W.skip ?_
    refine thnN ?_
    refine W.seq ?_
    refine W.region ?_
    refine RL.opD (by decide) (opv_assign rfl rfl) ?_
    refine RL.nil ?_
    refine thnN ?_
    refine W.seq ?_
    refine W.seq ?_
    refine W.region ?_
    refine RL.opD (by decide) (opv_fieldAddr rfl Try.fo29_1 rfl) ?_
    refine RL.opD (by decide) (opv_loadB rfl Try.one2 rfl (Sep.at (o := boxO bb1 [(.int .i64 a0_0), (.int .i64 a0_1), (.bool a0_2), u0_3, u0_4]) S_4 1 rfl) rfl) ?_
    refine RL.opD (by decide) (opv_move rfl rfl) ?_
    refine RL.nil ?_
    refine thnN ?_
    obtain ⟨y2, hy2, hp⟩ := Option.bind_eq_some_iff.1 hp
    refine W.cut (fun φ' h' => ∃ x6, ∃ x7, ∃ x8, ∃ v2, y2 = (x6, x7, x8) ∧ Fr.sub [(0, (.agg (List.toArray (α := Value) [(.int .i64 a0_0), (.int .i64 a0_1), (.bool a0_2), u0_3, u0_4]))), (1, (.agg (List.toArray (α := Value) [u1_0, u1_1, u1_2]))), (2, (.int .i64 a2)), (3, (.pointer (some ⟨bb1, 0, none⟩))), (4, (.pointer (some ⟨bb2, 0, none⟩))), (6, (.float .f32 0)), (7, (.bool false)), (22, (.bool x1)), (24, (.int .i64 a0_1)), (8, v2), (25, (.int .i64 x7)), (26, (.bool x8))] φ' ∧ IsF .f32 v2 x6 ∧ Mod [] h0 h' ∧ Sep [] h0.size h' [boxO bb2 [u1_0, u1_1, u1_2], boxO bb1 [(.int .i64 a0_0), (.int .i64 a0_1), (.bool a0_2), u0_3, u0_4]]) ?_ ?_
    · refine W.block ?_
      refine W.loopS (fun (s : ((Option Nat) × Int)) φ' h' => ∃ v1, Fr.sub [(0, (.agg (List.toArray (α := Value) [(.int .i64 a0_0), (.int .i64 a0_1), (.bool a0_2), u0_3, u0_4]))), (1, (.agg (List.toArray (α := Value) [u1_0, u1_1, u1_2]))), (2, (.int .i64 a2)), (3, (.pointer (some ⟨bb1, 0, none⟩))), (4, (.pointer (some ⟨bb2, 0, none⟩))), (6, (.float .f32 0)), (7, (.bool false)), (22, (.bool x1)), (24, (.int .i64 a0_1)), (8, v1), (25, (.int .i64 s.2))] φ' ∧ IsF .f32 v1 s.1 ∧ Mod [] h0 h' ∧ Sep [] h0.size h' [boxO bb2 [u1_0, u1_1, u1_2], boxO bb1 [(.int .i64 a0_0), (.int .i64 a0_1), (.bool a0_2), u0_3, u0_4]]) hy2 ⟨(.float .f32 0), ⟨rfl, rfl, rfl, rfl, rfl, rfl, rfl, rfl, rfl, rfl, rfl, trivial⟩, (isF_lit .f32 0 (by decide) (by decide)), X_4, (Sep.sel S_4 [0, 1] (by decide))⟩ ?_
      rintro ⟨x4, x5⟩ φ' hp5 o1 ⟨v1, hs2, fv1, X_5, S_5⟩ ho1 hy1
      have hs2 : Fr.sub [(0, (.agg (List.toArray (α := Value) [(.int .i64 a0_0), (.int .i64 a0_1), (.bool a0_2), u0_3, u0_4]))), (1, (.agg (List.toArray (α := Value) [u1_0, u1_1, u1_2]))), (2, (.int .i64 a2)), (3, (.pointer (some ⟨bb1, 0, none⟩))), (4, (.pointer (some ⟨bb2, 0, none⟩))), (6, (.float .f32 0)), (7, (.bool false)), (22, (.bool x1)), (24, (.int .i64 a0_1)), (8, v1), (25, (.int .i64 x5))] φ' := hs2
      have fv1 : IsF .f32 v1 x4 := fv1
      have S_5 : Sep [] h0.size hp5 [boxO bb2 [u1_0, u1_1, u1_2], boxO bb1 [(.int .i64 a0_0), (.int .i64 a0_1), (.bool a0_2), u0_3, u0_4]] := S_5
      have ho1 : impl_FluxThrough.s0 a0_0 a0_1 a0_2 a0_3 a0_4 a1_0 a1_2 a2 x4 x5 = some o1 := ho1
      unfold impl_FluxThrough.s0 at ho1
      refine W.sub hs2 ?_
      refine W.seq ?_
      refine W.region ?_
      refine RL.opD (by decide) (opv_icmp rfl rfl rfl rfl) ?_
      refine RL.nil ?_
      refine thnN ?_
      refine W.seq ?_
      by_cases c3 : (decide (x5 < a0_1)) = true
      · rw [if_pos c3] at ho1
        refine W.condT rfl c3 ?_
        refine W.skip ?_
        refine thnN ?_
        refine W.seq ?_
        refine W.block ?_
        refine W.seq ?_
        refine W.region ?_
        refine RL.opD (by decide) (opv_move rfl rfl) ?_
        refine RL.opD (by decide) (opv_assign rfl rfl) ?_
        refine RL.nil ?_
        refine thnN ?_
        refine W.seq ?_
        obtain ⟨x9, hx9, ho1⟩ := Option.bind_eq_some_iff.1 ho1
        refine W.region ?_
        refine RL.opD (by decide) (opv_loadA (us := [(.int .i64 a0_0), (.int .i64 a0_1), (.bool a0_2), u0_3, u0_4]) rfl Try.agg29 Try.size29 rfl (Sep.at (o := boxO bb1 [(.int .i64 a0_0), (.int .i64 a0_1), (.bool a0_2), u0_3, u0_4]) S_5 1 rfl) rfl rfl) ?_
        refine RL.opD (by decide) (opv_move rfl rfl) ?_
        refine RL.opD (by decide) (opv_move rfl rfl) ?_
        refine RL.op _ (by decide) (opv_call (cap := []) (impl_Sheet_at_ok _ _ _ _ _ _ (SL.up (SL.mod g0_3 X_5 (Nat.le_refl _) nob) (Nat.le_trans (Nat.le_refl _) (Mod.size X_5))) _ _ (SL.up (SL.mod g0_4 X_5 (Nat.le_refl _) nob) (Nat.le_trans (Nat.le_refl _) (Mod.size X_5))) _ _ _ hx9) rfl rfl ⟨rfl, rfl, rfl, trivial⟩ Try.func92 rfl rfl) ?_
        rintro _ hp6 ⟨rfl, MT_4, T_4⟩
        have X_6 : Mod [] h0 hp6 := Mod.step (A := []) (L := [boxO bb2 [u1_0, u1_1, u1_2], boxO bb1 [(.int .i64 a0_0), (.int .i64 a0_1), (.bool a0_2), u0_3, u0_4]]) X_5 S_5 MT_4
        have S_6 : Sep [] h0.size hp6 [boxO bb2 [u1_0, u1_1, u1_2], boxO bb1 [(.int .i64 a0_0), (.int .i64 a0_1), (.bool a0_2), u0_3, u0_4]] := Sep.step (A := []) (L := [boxO bb2 [u1_0, u1_1, u1_2], boxO bb1 [(.int .i64 a0_0), (.int .i64 a0_1), (.bool a0_2), u0_3, u0_4]]) S_5 (Mod.size X_5) MT_4 T_4
        refine RL.opD (by decide) (opv_assign rfl rfl) ?_
        refine RL.nil ?_
        refine thnN ?_
        obtain ⟨x10, hx10, ho1⟩ := Option.bind_eq_some_iff.1 ho1
        obtain ⟨x11, hx11, ho1⟩ := Option.bind_eq_some_iff.1 ho1
        refine W.sub (ψ := [(0, (.agg (List.toArray (α := Value) [(.int .i64 a0_0), (.int .i64 a0_1), (.bool a0_2), u0_3, u0_4]))), (1, (.agg (List.toArray (α := Value) [u1_0, u1_1, u1_2]))), (2, (.int .i64 a2)), (3, (.pointer (some ⟨bb1, 0, none⟩))), (4, (.pointer (some ⟨bb2, 0, none⟩))), (6, (.float .f32 0)), (7, (.bool false)), (22, (.bool x1)), (24, (.int .i64 a0_1)), (8, v1), (25, (.int .i64 x5)), (26, (.bool (decide (x5 < a0_1)))), (9, (.int .i64 x5)), (10, (.int .i64 x9))]) ⟨rfl, rfl, rfl, rfl, rfl, rfl, rfl, rfl, rfl, rfl, rfl, rfl, rfl, rfl, trivial⟩ ?_
        refine W.regionP [fun v _ => IsF .f32 v x4, fun v _ => @Eq Value (.pointer (some ⟨bb2, 0, none⟩)) v, fun v _ => @Eq Value u1_0 v, fun v _ => @Eq Value (.int .i64 x9) v, fun v _ => PtI 1 v u1_0 (Int.toNat x9), fun v _ => IsF .f32 v x10, fun v _ => @Eq Value (.pointer (some ⟨bb2, 2, none⟩)) v, fun v _ => @Eq Value u1_2 v, fun v _ => @Eq Value (.int .i64 x9) v, fun v _ => PtI 1 v u1_2 (Int.toNat x9), fun v _ => IsF .f32 v x11, fun v _ => IsF .f32 v (fop .mul .f32 x10 x11), fun v _ => IsF .f32 v (fop .add .f32 x4 (fop .mul .f32 x10 x11))] [[], [], [1], [], [2, 3], [4], [], [6], [], [7, 8], [9], [5, 10], [0, 11]] [12] Try.mixed (by decide +kernel) (by decide +kernel) rfl rfl rfl ?_ ?_
        · refine ⟨⟨rfl, ?_⟩, ⟨rfl, ?_⟩, ⟨rfl, ?_⟩, ⟨rfl, ?_⟩, ⟨rfl, ?_⟩, ⟨rfl, ?_⟩, ⟨rfl, ?_⟩, ⟨rfl, ?_⟩, ⟨rfl, ?_⟩, ⟨rfl, ?_⟩, ⟨rfl, ?_⟩, ⟨rfl, ?_⟩, ⟨rfl, ?_⟩, trivial⟩
          · rintro _ rfl
            refine Dep.nil ?_
            refine GuardOK.none rfl ?_
            exact OpV.toD (opv_move rfl rfl) fv1
          · rintro _ rfl
            refine Dep.nil ?_
            refine GuardOK.none rfl ?_
            exact OpV.toD (opv_fieldAddr rfl Try.fo53_0 rfl) rfl
          · rintro _ rfl _ rfl
            refine Dep.nil ?_
            refine GuardOK.none rfl ?_
            exact OpV.toD (opv_loadB rfl Try.one22 rfl (Sep.at (o := boxO bb2 [u1_0, u1_1, u1_2]) S_6 0 rfl) rfl) rfl
          · rintro _ rfl
            refine Dep.nil ?_
            refine GuardOK.none rfl ?_
            exact OpV.toD (opv_move rfl rfl) rfl
          · rintro _ rfl _ rfl _ rfl
            refine Dep.nil ?_
            refine GuardOK.none rfl ?_
            exact OpV.toS (opv_index rfl Try.underlying22 (by rw [Try.size40]; rfl) rfl rfl (SL.mod g1_0 X_6 (Nat.le_refl _) nob) hx10) (fun _ h => h)
          · rintro _ rfl v4 fv4
            refine Dep.nil ?_
            refine GuardOK.none rfl ?_
            exact OpV.toS (opv_loadF rfl Try.one40 rfl fv4 (SL.mod g1_0 X_6 (Nat.le_refl _) nob) hx10) (fun _ h => h)
          · rintro _ rfl
            refine Dep.nil ?_
            refine GuardOK.none rfl ?_
            exact OpV.toD (opv_fieldAddr rfl Try.fo53_2 rfl) rfl
          · rintro _ rfl _ rfl
            refine Dep.nil ?_
            refine GuardOK.none rfl ?_
            exact OpV.toD (opv_loadB rfl Try.one22 rfl (Sep.at (o := boxO bb2 [u1_0, u1_1, u1_2]) S_6 0 rfl) rfl) rfl
          · rintro _ rfl
            refine Dep.nil ?_
            refine GuardOK.none rfl ?_
            exact OpV.toD (opv_move rfl rfl) rfl
          · rintro _ rfl _ rfl _ rfl
            refine Dep.nil ?_
            refine GuardOK.none rfl ?_
            exact OpV.toS (opv_index rfl Try.underlying22 (by rw [Try.size40]; rfl) rfl rfl (SL.mod g1_2 X_6 (Nat.le_refl _) nob) hx11) (fun _ h => h)
          · rintro _ rfl v6 fv6
            refine Dep.nil ?_
            refine GuardOK.none rfl ?_
            exact OpV.toS (opv_loadF rfl Try.one40 rfl fv6 (SL.mod g1_2 X_6 (Nat.le_refl _) nob) hx11) (fun _ h => h)
          · rintro _ rfl v5 fv5 v7 fv7
            refine Dep.nil ?_
            refine GuardOK.none rfl ?_
            exact OpV.toS (opv_fop rfl rfl rfl rfl fv5 fv7) (fun _ h => h)
          · rintro _ rfl v3 fv3 v8 fv8
            refine Dep.nil ?_
            refine GuardOK.none rfl ?_
            exact OpV.toS (opv_fop rfl rfl rfl rfl fv3 fv8) (fun _ h => h)
        rintro v9 fv9
        refine Dep.nil ?_
        show RL _ _ _ _ (_ :: _) _ _
        refine RL.opD (by decide) (opv_assign rfl rfl) ?_
        refine RL.nil ?_
        refine blkN ?_
        refine thnN ?_
        refine W.region ?_
        refine RL.opD (by decide) (opv_add rfl rfl rfl) ?_
        refine RL.opD (by decide) (opv_move rfl rfl) ?_
        refine RL.nil ?_
        have eo1 := Option.some.inj ho1
        subst eo1
        refine rndN (s' := (fop .add .f32 x4 (fop .mul .f32 x10 x11), IntKind.wrap .i64 (x5 + 1))) rfl ?_
        exact ⟨v9, ⟨rfl, rfl, rfl, rfl, rfl, rfl, rfl, rfl, rfl, rfl, rfl, trivial⟩, fv9, X_6, (Sep.sel S_6 [0, 1] (by decide))⟩
      · rw [if_neg c3] at ho1
        have c3 := eq_false_of_ne_true c3
        refine W.condF rfl c3 ?_
        refine W.exit ?_
        refine thnX ?_
        refine rndX ?_
        refine blkI ?_
        have eo1 := Option.some.inj ho1
        subst eo1
        have ey2 := hy1 _ rfl
        subst ey2
        refine onlyN ?_
        exact ⟨x4, x5, decide (x5 < a0_1), v1, rfl, ⟨rfl, rfl, rfl, rfl, rfl, rfl, rfl, rfl, rfl, rfl, rfl, rfl, trivial⟩, fv1, X_5, (Sep.sel S_5 [0, 1] (by decide))⟩
    rintro φ' hp7 ⟨x6, x7, x8, v2, rfl, hs3, fv2, X_7, S_7⟩
    try dsimp only at hp
    refine thnN ?_
    refine W.sub hs3 ?_
    refine W.seq ?_
    refine W.region ?_
    refine RL.opD (by decide) (opv_move rfl rfl) ?_
    refine RL.opD (by decide) (opv_assign rfl rfl) ?_
    refine RL.opD (by decide) (opv_assign rfl rfl) ?_
    refine RL.nil ?_
    refine thnN ?_
    refine W.ret ?_
    have er := Option.some.inj hp
    subst er
    exact Rt.two rfl rfl rfl ⟨v2, rfl, fv2, X_7, (Sep.nil _ _ _)⟩

set_option maxRecDepth 20000 in
theorem laws_FnExactFluxThrough_ok (h0 : Heap) (a0_0 : Int) (a0_1 : Int) (a0_2 : Bool) (u0_3 : Value) (a0_3 : List (Option Nat)) (g0_3 : SL (kF .f32) h0.size h0 u0_3 a0_3) (u0_4 : Value) (a0_4 : List (Option Nat)) (g0_4 : SL (kF .f32) h0.size h0 u0_4 a0_4) (u1_0 : Value) (a1_0 : List (Option Nat)) (g1_0 : SL (kF .f32) h0.size h0 u1_0 a1_0) (u1_1 : Value) (a1_1 : List (Option Nat)) (g1_1 : SL (kF .f32) h0.size h0 u1_1 a1_1) (u1_2 : Value) (a1_2 : List (Option Nat)) (g1_2 : SL (kF .f32) h0.size h0 u1_2 a1_2) (a2 : Int) (r : Bool) (hp : laws_FnExactFluxThrough a0_0 a0_1 a0_2 a0_3 a0_4 a1_0 a1_1 a1_2 a2 = some r) : CallsH Try.prog 6 ([(.agg (List.toArray (α := Value) [(.int .i64 a0_0), (.int .i64 a0_1), (.bool a0_2), u0_3, u0_4])), (.agg (List.toArray (α := Value) [u1_0, u1_1, u1_2])), (.int .i64 a2)].toArray ++ [].toArray) h0 (fun v h' => v = (.bool r) ∧ Mod [] h0 h' ∧ Sep [] h0.size h' []) := by
  unfold laws_FnExactFluxThrough at hp
  refine callsH_of_W (l := [(.agg (List.toArray (α := Value) [(.int .i64 a0_0), (.int .i64 a0_1), (.bool a0_2), u0_3, u0_4])), (.agg (List.toArray (α := Value) [u1_0, u1_1, u1_2])), (.int .i64 a2)]) (cap := []) 65 Try.func6 rfl rfl rfl ?_
  refine W.seq ?_
  refine W.region ?_
  refine RL.op _ (by decide) (opS_boxed (opv_boxA (cs := [(.int .i64 a0_0), (.int .i64 a0_1), (.bool a0_2), u0_3, u0_4]) rfl rfl)) ?_
  rintro _ hp1 ⟨bb1, rfl, MT_1, T_1⟩
  have X_1 : Mod [] h0 hp1 := Mod.step (A := []) (L := []) (Mod.refl [] h0) (Sep.nil [] h0.size h0) MT_1
  have S_1 : Sep [] h0.size hp1 [boxO bb1 [(.int .i64 a0_0), (.int .i64 a0_1), (.bool a0_2), u0_3, u0_4]] := Sep.step (A := []) (L := []) (Sep.nil [] h0.size h0) (Mod.size (Mod.refl [] h0)) MT_1 T_1
  refine RL.op _ (by decide) (opS_boxed (opv_boxA (cs := [u1_0, u1_1, u1_2]) rfl rfl)) ?_
  rintro _ hp2 ⟨bb2, rfl, MT_2, T_2⟩
  have X_2 : Mod [] h0 hp2 := Mod.step (A := []) (L := [boxO bb1 [(.int .i64 a0_0), (.int .i64 a0_1), (.bool a0_2), u0_3, u0_4]]) X_1 S_1 MT_2
  have S_2 : Sep [] h0.size hp2 [boxO bb2 [u1_0, u1_1, u1_2], boxO bb1 [(.int .i64 a0_0), (.int .i64 a0_1), (.bool a0_2), u0_3, u0_4]] := Sep.step (A := []) (L := [boxO bb1 [(.int .i64 a0_0), (.int .i64 a0_1), (.bool a0_2), u0_3, u0_4]]) S_1 (Mod.size X_1) MT_2 T_2
  refine RL.opD (by decide) (opv_assign rfl rfl) ?_
  refine RL.nil ?_
  refine thnN ?_
  refine W.seq ?_
  refine W.region ?_
  refine RL.opD (by decide) (opv_assign rfl rfl) ?_
  refine RL.nil ?_
  refine thnN ?_
  refine W.seq ?_
  obtain ⟨x1, hx1, hp⟩ := Option.bind_eq_some_iff.1 hp
  refine W.region ?_
  refine RL.opD (by decide) (opv_loadA (us := [(.int .i64 a0_0), (.int .i64 a0_1), (.bool a0_2), u0_3, u0_4]) rfl Try.agg24 Try.size24 rfl (Sep.at (o := boxO bb1 [(.int .i64 a0_0), (.int .i64 a0_1), (.bool a0_2), u0_3, u0_4]) S_2 1 rfl) rfl rfl) ?_
  refine RL.opD (by decide) (opv_move rfl rfl) ?_
  refine RL.op _ (by decide) (opv_call (cap := []) (laws_szSheet_ok _ _ _ _ _ _ (SL.up (SL.mod g0_3 X_2 (Nat.le_refl _) nob) (Nat.le_trans (Nat.le_refl _) (Mod.size X_2))) _ _ (SL.up (SL.mod g0_4 X_2 (Nat.le_refl _) nob) (Nat.le_trans (Nat.le_refl _) (Mod.size X_2))) _ _ hx1) rfl rfl ⟨rfl, rfl, trivial⟩ Try.func18 rfl rfl) ?_
  rintro _ hp3 ⟨rfl, MT_3, T_3⟩
  have X_3 : Mod [] h0 hp3 := Mod.step (A := []) (L := [boxO bb2 [u1_0, u1_1, u1_2], boxO bb1 [(.int .i64 a0_0), (.int .i64 a0_1), (.bool a0_2), u0_3, u0_4]]) X_2 S_2 MT_3
  have S_3 : Sep [] h0.size hp3 [boxO bb2 [u1_0, u1_1, u1_2], boxO bb1 [(.int .i64 a0_0), (.int .i64 a0_1), (.bool a0_2), u0_3, u0_4]] := Sep.step (A := []) (L := [boxO bb2 [u1_0, u1_1, u1_2], boxO bb1 [(.int .i64 a0_0), (.int .i64 a0_1), (.bool a0_2), u0_3, u0_4]]) S_2 (Mod.size X_2) MT_3 T_3
  refine RL.opD (by decide) (opv_assign rfl rfl) ?_
  refine RL.nil ?_
  refine thnN ?_
  refine W.seq ?_
  refine W.seq ?_
  refine W.region ?_
  refine RL.opD (by decide) (opv_move rfl rfl) ?_
  refine RL.opD (by decide) (opv_icmp rfl rfl rfl rfl) ?_
  refine RL.nil ?_
  refine thnN ?_
  by_cases c1 : (decide (x1 < 0)) = true
  · rw [if_pos c1] at hp
    refine W.condT rfl c1 ?_
    refine W.seq ?_
    refine W.region ?_
    refine RL.opD (by decide) (opv_assign rfl rfl) ?_
    refine RL.nil ?_
    refine thnN ?_
    refine W.ret ?_
    refine thnR ?_
    have er := Option.some.inj hp
    subst er
    exact Rt.one rfl rfl ⟨rfl, X_3, (Sep.nil _ _ _)⟩
  · rw [if_neg c1] at hp
    have c1 := eq_false_of_ne_true c1
    refine W.condF rfl c1 ?_
    refine W.skip ?_
    refine thnN ?_
    refine W.seq ?_
    obtain ⟨x2, hx2, hp⟩ := Option.bind_eq_some_iff.1 hp
    refine W.region ?_
    refine RL.opD (by decide) (opv_loadA (us := [u1_0, u1_1, u1_2]) rfl Try.agg49 Try.size49 rfl (Sep.at (o := boxO bb2 [u1_0, u1_1, u1_2]) S_3 0 rfl) rfl rfl) ?_
    refine RL.opD (by decide) (opv_move rfl rfl) ?_
    refine RL.op _ (by decide) (opv_call (cap := []) (laws_szField_ok _ _ _ (SL.up (SL.mod g1_0 X_3 (Nat.le_refl _) nob) (Nat.le_trans (Nat.le_refl _) (Mod.size X_3))) _ _ (SL.up (SL.mod g1_1 X_3 (Nat.le_refl _) nob) (Nat.le_trans (Nat.le_refl _) (Mod.size X_3))) _ _ (SL.up (SL.mod g1_2 X_3 (Nat.le_refl _) nob) (Nat.le_trans (Nat.le_refl _) (Mod.size X_3))) _ _ hx2) rfl rfl ⟨rfl, rfl, trivial⟩ Try.func33 rfl rfl) ?_
    rintro _ hp4 ⟨rfl, MT_4, T_4⟩
    have X_4 : Mod [] h0 hp4 := Mod.step (A := []) (L := [boxO bb2 [u1_0, u1_1, u1_2], boxO bb1 [(.int .i64 a0_0), (.int .i64 a0_1), (.bool a0_2), u0_3, u0_4]]) X_3 S_3 MT_4
    have S_4 : Sep [] h0.size hp4 [boxO bb2 [u1_0, u1_1, u1_2], boxO bb1 [(.int .i64 a0_0), (.int .i64 a0_1), (.bool a0_2), u0_3, u0_4]] := Sep.step (A := []) (L := [boxO bb2 [u1_0, u1_1, u1_2], boxO bb1 [(.int .i64 a0_0), (.int .i64 a0_1), (.bool a0_2), u0_3, u0_4]]) S_3 (Mod.size X_3) MT_4 T_4
    refine RL.opD (by decide) (opv_assign rfl rfl) ?_
    refine RL.nil ?_
    refine thnN ?_
    refine W.seq ?_
    refine W.seq ?_
    refine W.region ?_
    refine RL.opD (by decide) (opv_move rfl rfl) ?_
    refine RL.opD (by decide) (opv_icmp rfl rfl rfl rfl) ?_
    refine RL.nil ?_
    refine thnN ?_
    by_cases c2 : (decide (x2 < 0)) = true
    · rw [if_pos c2] at hp
      refine W.condT rfl c2 ?_
      refine W.seq ?_
      refine W.region ?_
      refine RL.opD (by decide) (opv_assign rfl rfl) ?_
      refine RL.nil ?_
      refine thnN ?_
      refine W.ret ?_
      refine thnR ?_
      have er := Option.some.inj hp
      subst er
      exact Rt.one rfl rfl ⟨rfl, X_4, (Sep.nil _ _ _)⟩
    · rw [if_neg c2] at hp
      have c2 := eq_false_of_ne_true c2
      refine W.condF rfl c2 ?_
      refine W.skip ?_
      refine thnN ?_
      refine W.seq ?_
      obtain ⟨x3, hx3, hp⟩ := Option.bind_eq_some_iff.1 hp
      obtain ⟨x4, hx4, hp⟩ := Option.bind_eq_some_iff.1 hp
      obtain ⟨x5, hx5, hp⟩ := Option.bind_eq_some_iff.1 hp
      refine W.sub (ψ := [(0, (.agg (List.toArray (α := Value) [(.int .i64 a0_0), (.int .i64 a0_1), (.bool a0_2), u0_3, u0_4]))), (1, (.agg (List.toArray (α := Value) [u1_0, u1_1, u1_2]))), (2, (.int .i64 a2)), (3, (.pointer (some ⟨bb1, 0, none⟩))), (4, (.pointer (some ⟨bb2, 0, none⟩))), (6, (.bool false)), (7, (.int .i64 x2)), (18, (.bool (decide (x1 < 0)))), (23, (.bool (decide (x2 < 0))))]) ⟨rfl, rfl, rfl, rfl, rfl, rfl, rfl, rfl, rfl, trivial⟩ ?_
      refine W.regionM [fun v _ => @Eq Value (.agg (List.toArray (α := Value) [(.int .i64 a0_0), (.int .i64 a0_1), (.bool a0_2), u0_3, u0_4])) v, fun v h => ∃ v1, ∃ v2, @Eq Value v (.agg (List.toArray (α := Value) [(.int .i64 x3.1), (.int .i64 x3.2.1), (.bool x3.2.2.1), v1, v2])) ∧ Sep [] hp4.size h [ownO (kF .f32) 40 v1 x3.2.2.2.1, ownO (kF .f32) 40 v2 x3.2.2.2.2], fun v _ => @Eq Value (.agg (List.toArray (α := Value) [u1_0, u1_1, u1_2])) v, fun v h => ∃ v3, ∃ v4, ∃ v5, @Eq Value v (.agg (List.toArray (α := Value) [v3, v4, v5])) ∧ Sep [] hp4.size h [ownO (kF .f32) 40 v3 x4.1, ownO (kF .f32) 40 v4 x4.2.1, ownO (kF .f32) 40 v5 x4.2.2], fun v _ => @Eq Value (.int .i64 a2) v, fun v h => ∃ v6, @Eq Value v (.tuple (List.toArray (α := Value) [v6, (.bool x5.2)])) ∧ IsF .f32 v6 x5.1 ∧ Sep [] hp4.size h [], fun v h => ∃ v6, @Eq Value v (.tuple (List.toArray (α := Value) [v6, (.bool x5.2)])) ∧ IsF .f32 v6 x5.1 ∧ Sep [] hp4.size h [], fun v _ => IsF .f32 v x5.1, fun v _ => @Eq Value (.bool x5.2) v, fun v _ => IsF .f32 v x5.1, fun v _ => @Eq Value (.bool x5.2) v] [none, some (fun u => [Value.ownBlock (vget u 3), Value.ownBlock (vget u 4)]), none, some (fun u => [Value.ownBlock (vget u 0), Value.ownBlock (vget u 1), Value.ownBlock (vget u 2)]), none, some (fun u => []), none, none, none, none, none] [none, none, none, none, none, none, some (30, fun u => u)] [[], [0], [], [2], [], [1, 3, 4], [5], [6], [6], [7], [8]] [9, 10] Try.mixed (by decide +kernel) (by decide +kernel) rfl rfl rfl (by decide +kernel) rfl ⟨fun _ _ _ h _ => h, fun _ _ _ ⟨u0_, u1_, e, h⟩ x => ⟨u0_, u1_, e, h.ext x⟩, fun _ _ _ h _ => h, fun _ _ _ ⟨u0_, u1_, u2_, e, h⟩ x => ⟨u0_, u1_, u2_, e, h.ext x⟩, fun _ _ _ h _ => h, fun _ _ _ ⟨u0_, e, f0_, h⟩ x => ⟨u0_, e, f0_, h.ext x⟩, fun _ _ _ ⟨u0_, e, f0_, h⟩ x => ⟨u0_, e, f0_, h.ext x⟩, fun _ _ _ h _ => h, fun _ _ _ h _ => h, fun _ _ _ h _ => h, fun _ _ _ h _ => h, trivial⟩ ?_ ?_
      · refine ⟨⟨rfl, ?_⟩, ⟨rfl, ?_⟩, ⟨rfl, ?_⟩, ⟨rfl, ?_⟩, ⟨rfl, ?_⟩, ⟨rfl, ?_⟩, ⟨rfl, ?_⟩, ⟨rfl, ?_⟩, ⟨rfl, ?_⟩, ⟨rfl, ?_⟩, ⟨rfl, ?_⟩, trivial⟩
        · rintro hp8 E_1
          refine Dep.nil ?_
          refine GuardOK.none rfl ?_
          exact OpV.toDx (opv_loadA (us := [(.int .i64 a0_0), (.int .i64 a0_1), (.bool a0_2), u0_3, u0_4]) rfl Try.agg24 Try.size24 rfl (Sep.at (o := boxO bb1 [(.int .i64 a0_0), (.int .i64 a0_1), (.bool a0_2), u0_3, u0_4]) (Sep.ext S_4 E_1) 1 rfl) rfl rfl) rfl
        · rintro hp9 E_2 _ rfl
          refine Dep.nil ?_
          refine GuardOK.none rfl ?_
          exact OpV.mono (opv_call (cap := []) (laws_toSheet_ok _ _ _ _ _ _ (SL.up (SL.mod g0_3 (Mod.lift X_4 E_2) (Nat.le_refl _) nob) (Nat.le_trans (Nat.le_refl _) (Mod.size (Mod.lift X_4 E_2)))) _ _ (SL.up (SL.mod g0_4 (Mod.lift X_4 E_2) (Nat.le_refl _) nob) (Nat.le_trans (Nat.le_refl _) (Mod.size (Mod.lift X_4 E_2)))) _ hx3) rfl rfl ⟨rfl, trivial⟩ Try.func20 rfl rfl) (by rintro _ _ ⟨v1, v2, rfl, M_, T_⟩; exact ⟨Mod.ext M_, ⟨v1, v2, rfl, Sep.weak T_ (Ext.size E_2)⟩, Sep.fresh T_⟩)
        · rintro hp10 E_3
          refine Dep.nil ?_
          refine GuardOK.none rfl ?_
          exact OpV.toDx (opv_loadA (us := [u1_0, u1_1, u1_2]) rfl Try.agg49 Try.size49 rfl (Sep.at (o := boxO bb2 [u1_0, u1_1, u1_2]) (Sep.ext S_4 E_3) 0 rfl) rfl rfl) rfl
        · rintro hp11 E_4 _ rfl
          refine Dep.nil ?_
          refine GuardOK.none rfl ?_
          exact OpV.mono (opv_call (cap := []) (laws_toField_ok _ _ _ (SL.up (SL.mod g1_0 (Mod.lift X_4 E_4) (Nat.le_refl _) nob) (Nat.le_trans (Nat.le_refl _) (Mod.size (Mod.lift X_4 E_4)))) _ _ (SL.up (SL.mod g1_1 (Mod.lift X_4 E_4) (Nat.le_refl _) nob) (Nat.le_trans (Nat.le_refl _) (Mod.size (Mod.lift X_4 E_4)))) _ _ (SL.up (SL.mod g1_2 (Mod.lift X_4 E_4) (Nat.le_refl _) nob) (Nat.le_trans (Nat.le_refl _) (Mod.size (Mod.lift X_4 E_4)))) _ hx4) rfl rfl ⟨rfl, trivial⟩ Try.func35 rfl rfl) (by rintro _ _ ⟨v3, v4, v5, rfl, M_, T_⟩; exact ⟨Mod.ext M_, ⟨v3, v4, v5, rfl, Sep.weak T_ (Ext.size E_4)⟩, Sep.fresh T_⟩)
        · rintro hp12 E_5
          refine Dep.nil ?_
          refine GuardOK.none rfl ?_
          exact OpV.toDx (opv_move rfl rfl) rfl
        · rintro hp13 E_6 _ ⟨v1, v2, rfl, T_5⟩ _ ⟨v3, v4, v5, rfl, T_6⟩ _ rfl
          refine Dep.nil ?_
          refine GuardOK.none rfl ?_
          exact OpV.mono (opv_call (cap := []) (spec_FluxThrough_ok _ _ _ _ _ _ (ownO.read (Sep.at (o := ownO (kF .f32) 40 v1 x3.2.2.2.1) T_5 0 rfl)) _ _ (ownO.read (Sep.at (o := ownO (kF .f32) 40 v2 x3.2.2.2.2) T_5 1 rfl)) _ _ (ownO.read (Sep.at (o := ownO (kF .f32) 40 v3 x4.1) T_6 0 rfl)) _ _ (ownO.read (Sep.at (o := ownO (kF .f32) 40 v4 x4.2.1) T_6 1 rfl)) _ _ (ownO.read (Sep.at (o := ownO (kF .f32) 40 v5 x4.2.2) T_6 2 rfl)) _ _ hx5) rfl rfl ⟨rfl, rfl, rfl, trivial⟩ Try.func34 rfl rfl) (by rintro _ _ ⟨v6, rfl, fv6, M_, T_⟩; exact ⟨Mod.ext M_, ⟨v6, rfl, fv6, Sep.weak T_ (Ext.size E_6)⟩, Sep.fresh T_⟩)
        · rintro hp14 E_7 _ ⟨v6, rfl, fv6, T_7⟩
          refine Dep.nil ?_
          refine GuardOK.none rfl ?_
          exact OpV.mono (opv_move rfl rfl) (by rintro _ _ ⟨rfl, rfl⟩; exact ⟨⟨Ext.refl _, v6, rfl, fv6, T_7⟩, _, rfl, rfl⟩)
        · rintro hp15 E_8 _ ⟨v6, rfl, fv6, T_7⟩
          refine Dep.nil ?_
          refine GuardOK.none rfl ?_
          exact OpV.toDx (opv_extract rfl rfl rfl) fv6
        · rintro hp16 E_9 _ ⟨v6, rfl, fv6, T_7⟩
          refine Dep.nil ?_
          refine GuardOK.none rfl ?_
          exact OpV.toDx (opv_extract rfl rfl rfl) rfl
        · rintro hp17 E_10 v7 fv7
          refine Dep.nil ?_
          refine GuardOK.none rfl ?_
          exact OpV.toDx (opv_assign rfl rfl) fv7
        · rintro hp18 E_11 _ rfl
          refine Dep.nil ?_
          refine GuardOK.none rfl ?_
          exact OpV.toDx (opv_assign rfl rfl) rfl
      rintro hp19 E_12 v8 fv8 _ rfl
      refine DepM.nil ?_
      intro _ LK_
      have X_8 : Mod [] h0 hp19 := Mod.lift X_4 E_12
      have S_8 : Sep [] h0.size hp19 [boxO bb2 [u1_0, u1_1, u1_2], boxO bb1 [(.int .i64 a0_0), (.int .i64 a0_1), (.bool a0_2), u0_3, u0_4]] := Sep.ext S_4 E_12
      show RL _ _ _ _ [] _ _
      refine RL.nil ?_
      refine thnN ?_
      refine W.seq ?_
      obtain ⟨x6, hx6, hp⟩ := Option.bind_eq_some_iff.1 hp
      refine W.region ?_
      refine RL.opD (by decide) (opv_loadA (us := [(.int .i64 a0_0), (.int .i64 a0_1), (.bool a0_2), u0_3, u0_4]) rfl Try.agg24 Try.size24 rfl (Sep.at (o := boxO bb1 [(.int .i64 a0_0), (.int .i64 a0_1), (.bool a0_2), u0_3, u0_4]) S_8 1 rfl) rfl rfl) ?_
      refine RL.op _ (by decide) (opv_call (cap := []) (laws_toSheet_ok _ _ _ _ _ _ (SL.up (SL.mod g0_3 X_8 (Nat.le_refl _) nob) (Nat.le_trans (Nat.le_refl _) (Mod.size X_8))) _ _ (SL.up (SL.mod g0_4 X_8 (Nat.le_refl _) nob) (Nat.le_trans (Nat.le_refl _) (Mod.size X_8))) _ hx6) rfl rfl ⟨rfl, trivial⟩ Try.func20 rfl rfl) ?_
      rintro _ hp20 ⟨v15, v16, rfl, MT_8, T_8⟩
      have X_9 : Mod [] h0 hp20 := Mod.step (A := []) (L := [boxO bb2 [u1_0, u1_1, u1_2], boxO bb1 [(.int .i64 a0_0), (.int .i64 a0_1), (.bool a0_2), u0_3, u0_4]]) X_8 S_8 MT_8
      have S_9 : Sep [] h0.size hp20 [ownO (kF .f32) 40 v15 x6.2.2.2.1, ownO (kF .f32) 40 v16 x6.2.2.2.2, boxO bb2 [u1_0, u1_1, u1_2], boxO bb1 [(.int .i64 a0_0), (.int .i64 a0_1), (.bool a0_2), u0_3, u0_4]] := Sep.step (A := []) (L := [boxO bb2 [u1_0, u1_1, u1_2], boxO bb1 [(.int .i64 a0_0), (.int .i64 a0_1), (.bool a0_2), u0_3, u0_4]]) S_8 (Mod.size X_8) MT_8 T_8
      refine RL.op _ (by decide) (opS_boxed (opv_alloc (cs := [(.int .i64 0), (.int .i64 0), (.bool false), (.slice none 0 0), (.slice none 0 0)]) rfl Try.zero29 rfl)) ?_
      rintro _ hp21 ⟨bb3, rfl, MT_9, T_9⟩
      have X_10 : Mod [] h0 hp21 := Mod.step (A := []) (L := [ownO (kF .f32) 40 v15 x6.2.2.2.1, ownO (kF .f32) 40 v16 x6.2.2.2.2, boxO bb2 [u1_0, u1_1, u1_2], boxO bb1 [(.int .i64 a0_0), (.int .i64 a0_1), (.bool a0_2), u0_3, u0_4]]) X_9 S_9 MT_9
      have S_10 : Sep [] h0.size hp21 [boxO bb3 [(.int .i64 0), (.int .i64 0), (.bool false), (.slice none 0 0), (.slice none 0 0)], ownO (kF .f32) 40 v15 x6.2.2.2.1, ownO (kF .f32) 40 v16 x6.2.2.2.2, boxO bb2 [u1_0, u1_1, u1_2], boxO bb1 [(.int .i64 a0_0), (.int .i64 a0_1), (.bool a0_2), u0_3, u0_4]] := Sep.step (A := []) (L := [ownO (kF .f32) 40 v15 x6.2.2.2.1, ownO (kF .f32) 40 v16 x6.2.2.2.2, boxO bb2 [u1_0, u1_1, u1_2], boxO bb1 [(.int .i64 a0_0), (.int .i64 a0_1), (.bool a0_2), u0_3, u0_4]]) S_9 (Mod.size X_9) MT_9 T_9
      refine RL.op0 _ (opS_stored (cs := [(.int .i64 0), (.int .i64 0), (.bool false), (.slice none 0 0), (.slice none 0 0)]) (cs' := [(.int .i64 x6.1), (.int .i64 x6.2.1), (.bool x6.2.2.1), v15, v16]) (opv_storeA (us := [(.int .i64 x6.1), (.int .i64 x6.2.1), (.bool x6.2.2.1), v15, v16]) rfl Try.size29 rfl rfl (oneAll rfl (oneAll rfl (oneAll rfl (oneAll (ownO.one (Sep.at (o := ownO (kF .f32) 40 v15 x6.2.2.2.1) S_10 1 rfl)) (oneAll (ownO.one (Sep.at (o := ownO (kF .f32) 40 v16 x6.2.2.2.2) S_10 2 rfl)) rfl))))) (Sep.at (o := boxO bb3 [(.int .i64 0), (.int .i64 0), (.bool false), (.slice none 0 0), (.slice none 0 0)]) S_10 0 rfl) rfl rfl) (Sep.at (o := boxO bb3 [(.int .i64 0), (.int .i64 0), (.bool false), (.slice none 0 0), (.slice none 0 0)]) S_10 0 rfl)) ?_
      rintro _ hp22 ⟨rfl, MT_10, T_10⟩
      have S_11 : Sep [] h0.size hp21 ([boxO bb3 [(.int .i64 0), (.int .i64 0), (.bool false), (.slice none 0 0), (.slice none 0 0)]] ++ [ownO (kF .f32) 40 v15 x6.2.2.2.1, ownO (kF .f32) 40 v16 x6.2.2.2.2, boxO bb2 [u1_0, u1_1, u1_2], boxO bb1 [(.int .i64 a0_0), (.int .i64 a0_1), (.bool a0_2), u0_3, u0_4]]) := Sep.sel S_10 [0, 1, 2, 3, 4] (by decide)
      have X_11 : Mod [] h0 hp22 := Mod.step (A := [boxO bb3 [(.int .i64 0), (.int .i64 0), (.bool false), (.slice none 0 0), (.slice none 0 0)]]) (L := [ownO (kF .f32) 40 v15 x6.2.2.2.1, ownO (kF .f32) 40 v16 x6.2.2.2.2, boxO bb2 [u1_0, u1_1, u1_2], boxO bb1 [(.int .i64 a0_0), (.int .i64 a0_1), (.bool a0_2), u0_3, u0_4]]) X_10 S_11 MT_10
      have S_12 : Sep [] h0.size hp22 [boxO bb3 [(.int .i64 x6.1), (.int .i64 x6.2.1), (.bool x6.2.2.1), v15, v16], ownO (kF .f32) 40 v15 x6.2.2.2.1, ownO (kF .f32) 40 v16 x6.2.2.2.2, boxO bb2 [u1_0, u1_1, u1_2], boxO bb1 [(.int .i64 a0_0), (.int .i64 a0_1), (.bool a0_2), u0_3, u0_4]] := Sep.step (A := [boxO bb3 [(.int .i64 0), (.int .i64 0), (.bool false), (.slice none 0 0), (.slice none 0 0)]]) (L := [ownO (kF .f32) 40 v15 x6.2.2.2.1, ownO (kF .f32) 40 v16 x6.2.2.2.2, boxO bb2 [u1_0, u1_1, u1_2], boxO bb1 [(.int .i64 a0_0), (.int .i64 a0_1), (.bool a0_2), u0_3, u0_4]]) S_11 (Mod.size X_10) MT_10 T_10
      refine RL.nil ?_
      refine thnN ?_
      refine W.seq ?_
      obtain ⟨x7, hx7, hp⟩ := Option.bind_eq_some_iff.1 hp
      refine W.region ?_
      refine RL.opD (by decide) (opv_loadA (us := [u1_0, u1_1, u1_2]) rfl Try.agg49 Try.size49 rfl (Sep.at (o := boxO bb2 [u1_0, u1_1, u1_2]) S_12 3 rfl) rfl rfl) ?_
      refine RL.op _ (by decide) (opv_call (cap := []) (laws_toField_ok _ _ _ (SL.up (SL.mod g1_0 X_11 (Nat.le_refl _) nob) (Nat.le_trans (Nat.le_refl _) (Mod.size X_11))) _ _ (SL.up (SL.mod g1_1 X_11 (Nat.le_refl _) nob) (Nat.le_trans (Nat.le_refl _) (Mod.size X_11))) _ _ (SL.up (SL.mod g1_2 X_11 (Nat.le_refl _) nob) (Nat.le_trans (Nat.le_refl _) (Mod.size X_11))) _ hx7) rfl rfl ⟨rfl, trivial⟩ Try.func35 rfl rfl) ?_
      rintro _ hp23 ⟨v17, v18, v19, rfl, MT_11, T_11⟩
      have X_12 : Mod [] h0 hp23 := Mod.step (A := []) (L := [boxO bb3 [(.int .i64 x6.1), (.int .i64 x6.2.1), (.bool x6.2.2.1), v15, v16], ownO (kF .f32) 40 v15 x6.2.2.2.1, ownO (kF .f32) 40 v16 x6.2.2.2.2, boxO bb2 [u1_0, u1_1, u1_2], boxO bb1 [(.int .i64 a0_0), (.int .i64 a0_1), (.bool a0_2), u0_3, u0_4]]) X_11 S_12 MT_11
      have S_13 : Sep [] h0.size hp23 [ownO (kF .f32) 40 v17 x7.1, ownO (kF .f32) 40 v18 x7.2.1, ownO (kF .f32) 40 v19 x7.2.2, boxO bb3 [(.int .i64 x6.1), (.int .i64 x6.2.1), (.bool x6.2.2.1), v15, v16], ownO (kF .f32) 40 v15 x6.2.2.2.1, ownO (kF .f32) 40 v16 x6.2.2.2.2, boxO bb2 [u1_0, u1_1, u1_2], boxO bb1 [(.int .i64 a0_0), (.int .i64 a0_1), (.bool a0_2), u0_3, u0_4]] := Sep.step (A := []) (L := [boxO bb3 [(.int .i64 x6.1), (.int .i64 x6.2.1), (.bool x6.2.2.1), v15, v16], ownO (kF .f32) 40 v15 x6.2.2.2.1, ownO (kF .f32) 40 v16 x6.2.2.2.2, boxO bb2 [u1_0, u1_1, u1_2], boxO bb1 [(.int .i64 a0_0), (.int .i64 a0_1), (.bool a0_2), u0_3, u0_4]]) S_12 (Mod.size X_11) MT_11 T_11
      refine RL.op _ (by decide) (opS_boxed (opv_alloc (cs := [(.slice none 0 0), (.slice none 0 0), (.slice none 0 0)]) rfl Try.zero53 rfl)) ?_
      rintro _ hp24 ⟨bb4, rfl, MT_12, T_12⟩
      have X_13 : Mod [] h0 hp24 := Mod.step (A := []) (L := [ownO (kF .f32) 40 v17 x7.1, ownO (kF .f32) 40 v18 x7.2.1, ownO (kF .f32) 40 v19 x7.2.2, boxO bb3 [(.int .i64 x6.1), (.int .i64 x6.2.1), (.bool x6.2.2.1), v15, v16], ownO (kF .f32) 40 v15 x6.2.2.2.1, ownO (kF .f32) 40 v16 x6.2.2.2.2, boxO bb2 [u1_0, u1_1, u1_2], boxO bb1 [(.int .i64 a0_0), (.int .i64 a0_1), (.bool a0_2), u0_3, u0_4]]) X_12 S_13 MT_12
      have S_14 : Sep [] h0.size hp24 [boxO bb4 [(.slice none 0 0), (.slice none 0 0), (.slice none 0 0)], ownO (kF .f32) 40 v17 x7.1, ownO (kF .f32) 40 v18 x7.2.1, ownO (kF .f32) 40 v19 x7.2.2, boxO bb3 [(.int .i64 x6.1), (.int .i64 x6.2.1), (.bool x6.2.2.1), v15, v16], ownO (kF .f32) 40 v15 x6.2.2.2.1, ownO (kF .f32) 40 v16 x6.2.2.2.2, boxO bb2 [u1_0, u1_1, u1_2], boxO bb1 [(.int .i64 a0_0), (.int .i64 a0_1), (.bool a0_2), u0_3, u0_4]] := Sep.step (A := []) (L := [ownO (kF .f32) 40 v17 x7.1, ownO (kF .f32) 40 v18 x7.2.1, ownO (kF .f32) 40 v19 x7.2.2, boxO bb3 [(.int .i64 x6.1), (.int .i64 x6.2.1), (.bool x6.2.2.1), v15, v16], ownO (kF .f32) 40 v15 x6.2.2.2.1, ownO (kF .f32) 40 v16 x6.2.2.2.2, boxO bb2 [u1_0, u1_1, u1_2], boxO bb1 [(.int .i64 a0_0), (.int .i64 a0_1), (.bool a0_2), u0_3, u0_4]]) S_13 (Mod.size X_12) MT_12 T_12
      refine RL.op0 _ (opS_stored (cs := [(.slice none 0 0), (.slice none 0 0), (.slice none 0 0)]) (cs' := [v17, v18, v19]) (opv_storeA (us := [v17, v18, v19]) rfl Try.size53 rfl rfl (oneAll (ownO.one (Sep.at (o := ownO (kF .f32) 40 v17 x7.1) S_14 1 rfl)) (oneAll (ownO.one (Sep.at (o := ownO (kF .f32) 40 v18 x7.2.1) S_14 2 rfl)) (oneAll (ownO.one (Sep.at (o := ownO (kF .f32) 40 v19 x7.2.2) S_14 3 rfl)) rfl))) (Sep.at (o := boxO bb4 [(.slice none 0 0), (.slice none 0 0), (.slice none 0 0)]) S_14 0 rfl) rfl rfl) (Sep.at (o := boxO bb4 [(.slice none 0 0), (.slice none 0 0), (.slice none 0 0)]) S_14 0 rfl)) ?_
      rintro _ hp25 ⟨rfl, MT_13, T_13⟩
      have S_15 : Sep [] h0.size hp24 ([boxO bb4 [(.slice none 0 0), (.slice none 0 0), (.slice none 0 0)]] ++ [ownO (kF .f32) 40 v17 x7.1, ownO (kF .f32) 40 v18 x7.2.1, ownO (kF .f32) 40 v19 x7.2.2, boxO bb3 [(.int .i64 x6.1), (.int .i64 x6.2.1), (.bool x6.2.2.1), v15, v16], ownO (kF .f32) 40 v15 x6.2.2.2.1, ownO (kF .f32) 40 v16 x6.2.2.2.2, boxO bb2 [u1_0, u1_1, u1_2], boxO bb1 [(.int .i64 a0_0), (.int .i64 a0_1), (.bool a0_2), u0_3, u0_4]]) := Sep.sel S_14 [0, 1, 2, 3, 4, 5, 6, 7, 8] (by decide)
      have X_14 : Mod [] h0 hp25 := Mod.step (A := [boxO bb4 [(.slice none 0 0), (.slice none 0 0), (.slice none 0 0)]]) (L := [ownO (kF .f32) 40 v17 x7.1, ownO (kF .f32) 40 v18 x7.2.1, ownO (kF .f32) 40 v19 x7.2.2, boxO bb3 [(.int .i64 x6.1), (.int .i64 x6.2.1), (.bool x6.2.2.1), v15, v16], ownO (kF .f32) 40 v15 x6.2.2.2.1, ownO (kF .f32) 40 v16 x6.2.2.2.2, boxO bb2 [u1_0, u1_1, u1_2], boxO bb1 [(.int .i64 a0_0), (.int .i64 a0_1), (.bool a0_2), u0_3, u0_4]]) X_13 S_15 MT_13
      have S_16 : Sep [] h0.size hp25 [boxO bb4 [v17, v18, v19], ownO (kF .f32) 40 v17 x7.1, ownO (kF .f32) 40 v18 x7.2.1, ownO (kF .f32) 40 v19 x7.2.2, boxO bb3 [(.int .i64 x6.1), (.int .i64 x6.2.1), (.bool x6.2.2.1), v15, v16], ownO (kF .f32) 40 v15 x6.2.2.2.1, ownO (kF .f32) 40 v16 x6.2.2.2.2, boxO bb2 [u1_0, u1_1, u1_2], boxO bb1 [(.int .i64 a0_0), (.int .i64 a0_1), (.bool a0_2), u0_3, u0_4]] := Sep.step (A := [boxO bb4 [(.slice none 0 0), (.slice none 0 0), (.slice none 0 0)]]) (L := [ownO (kF .f32) 40 v17 x7.1, ownO (kF .f32) 40 v18 x7.2.1, ownO (kF .f32) 40 v19 x7.2.2, boxO bb3 [(.int .i64 x6.1), (.int .i64 x6.2.1), (.bool x6.2.2.1), v15, v16], ownO (kF .f32) 40 v15 x6.2.2.2.1, ownO (kF .f32) 40 v16 x6.2.2.2.2, boxO bb2 [u1_0, u1_1, u1_2], boxO bb1 [(.int .i64 a0_0), (.int .i64 a0_1), (.bool a0_2), u0_3, u0_4]]) S_15 (Mod.size X_13) MT_13 T_13
      refine RL.nil ?_
      refine thnN ?_
      refine W.seq ?_
      obtain ⟨x8, hx8, hp⟩ := Option.bind_eq_some_iff.1 hp
      refine W.region ?_
      refine RL.opD (by decide) (opv_loadA (us := [(.int .i64 x6.1), (.int .i64 x6.2.1), (.bool x6.2.2.1), v15, v16]) rfl Try.agg29 Try.size29 rfl (Sep.at (o := boxO bb3 [(.int .i64 x6.1), (.int .i64 x6.2.1), (.bool x6.2.2.1), v15, v16]) S_16 4 rfl) rfl rfl) ?_
      refine RL.opD (by decide) (opv_loadA (us := [v17, v18, v19]) rfl Try.agg53 Try.size53 rfl (Sep.at (o := boxO bb4 [v17, v18, v19]) S_16 0 rfl) rfl rfl) ?_
      refine RL.opD (by decide) (opv_move rfl rfl) ?_
      refine RL.op _ (by decide) (opv_call (cap := []) (impl_FluxThrough_ok _ _ _ _ _ _ (ownO.read (Sep.at (o := ownO (kF .f32) 40 v15 x6.2.2.2.1) S_16 5 rfl)) _ _ (ownO.read (Sep.at (o := ownO (kF .f32) 40 v16 x6.2.2.2.2) S_16 6 rfl)) _ _ (ownO.read (Sep.at (o := ownO (kF .f32) 40 v17 x7.1) S_16 1 rfl)) _ _ (ownO.read (Sep.at (o := ownO (kF .f32) 40 v18 x7.2.1) S_16 2 rfl)) _ _ (ownO.read (Sep.at (o := ownO (kF .f32) 40 v19 x7.2.2) S_16 3 rfl)) _ _ hx8) rfl rfl ⟨rfl, rfl, rfl, trivial⟩ Try.func36 rfl rfl) ?_
      rintro _ hp26 ⟨v20, rfl, fv20, MT_14, T_14⟩
      have X_15 : Mod [] h0 hp26 := Mod.step (A := []) (L := [boxO bb4 [v17, v18, v19], ownO (kF .f32) 40 v17 x7.1, ownO (kF .f32) 40 v18 x7.2.1, ownO (kF .f32) 40 v19 x7.2.2, boxO bb3 [(.int .i64 x6.1), (.int .i64 x6.2.1), (.bool x6.2.2.1), v15, v16], ownO (kF .f32) 40 v15 x6.2.2.2.1, ownO (kF .f32) 40 v16 x6.2.2.2.2, boxO bb2 [u1_0, u1_1, u1_2], boxO bb1 [(.int .i64 a0_0), (.int .i64 a0_1), (.bool a0_2), u0_3, u0_4]]) X_14 S_16 MT_14
      have S_17 : Sep [] h0.size hp26 [boxO bb4 [v17, v18, v19], ownO (kF .f32) 40 v17 x7.1, ownO (kF .f32) 40 v18 x7.2.1, ownO (kF .f32) 40 v19 x7.2.2, boxO bb3 [(.int .i64 x6.1), (.int .i64 x6.2.1), (.bool x6.2.2.1), v15, v16], ownO (kF .f32) 40 v15 x6.2.2.2.1, ownO (kF .f32) 40 v16 x6.2.2.2.2, boxO bb2 [u1_0, u1_1, u1_2], boxO bb1 [(.int .i64 a0_0), (.int .i64 a0_1), (.bool a0_2), u0_3, u0_4]] := Sep.step (A := []) (L := [boxO bb4 [v17, v18, v19], ownO (kF .f32) 40 v17 x7.1, ownO (kF .f32) 40 v18 x7.2.1, ownO (kF .f32) 40 v19 x7.2.2, boxO bb3 [(.int .i64 x6.1), (.int .i64 x6.2.1), (.bool x6.2.2.1), v15, v16], ownO (kF .f32) 40 v15 x6.2.2.2.1, ownO (kF .f32) 40 v16 x6.2.2.2.2, boxO bb2 [u1_0, u1_1, u1_2], boxO bb1 [(.int .i64 a0_0), (.int .i64 a0_1), (.bool a0_2), u0_3, u0_4]]) S_16 (Mod.size X_14) MT_14 T_14
      refine RL.opD (by decide) (opv_move rfl rfl) ?_
      refine RL.opD (by decide) (opv_extract rfl rfl rfl) ?_
      refine RL.opD (by decide) (opv_extract rfl rfl rfl) ?_
      refine RL.opD (by decide) (opv_assign rfl rfl) ?_
      refine RL.opD (by decide) (opv_assign rfl rfl) ?_
      refine RL.nil ?_
      refine thnN ?_
      refine W.seq ?_
      refine W.seq ?_
      obtain ⟨x9, hy1, hp⟩ := Option.bind_eq_some_iff.1 hp
      refine W.cut (fun φ' h' => Fr.sub [(0, (.agg (List.toArray (α := Value) [(.int .i64 a0_0), (.int .i64 a0_1), (.bool a0_2), u0_3, u0_4]))), (1, (.agg (List.toArray (α := Value) [u1_0, u1_1, u1_2]))), (2, (.int .i64 a2)), (3, (.pointer (some ⟨bb1, 0, none⟩))), (4, (.pointer (some ⟨bb2, 0, none⟩))), (6, (.bool false)), (7, (.int .i64 x2)), (18, (.bool (decide (x1 < 0)))), (23, (.bool (decide (x2 < 0)))), (8, v8), (9, (.bool x5.2)), (10, (.pointer (some ⟨bb3, 0, none⟩))), (11, (.pointer (some ⟨bb4, 0, none⟩))), (12, v20), (13, (.bool x8.2)), (54, (.bool x9))] φ' ∧ hp26 = h') ?_ ?_
      · obtain ⟨x10, hx10, hy1⟩ := Option.bind_eq_some_iff.1 hy1
        by_cases c3 : (!x10) = true
        · rw [if_pos c3] at hy1
          refine W.region ?_
          refine RL.opD (by decide) (opv_move rfl rfl) ?_
          refine RL.opF (by decide) (opv_widen rfl (by rw [Try.underlying40]; rfl) Try.underlying56 rfl fv20) ?_
          intro v21 fv21
          refine RL.opD (by decide) (opv_move rfl rfl) ?_
          refine RL.opF (by decide) (opv_widen rfl (by rw [Try.underlying40]; rfl) Try.underlying56 rfl fv8) ?_
          intro v22 fv22
          refine RL.op _ (by decide) (opv_call (cap := []) (laws_sameFloat_ok _ _ _ fv21 _ _ fv22 _ hx10) rfl rfl ⟨rfl, rfl, trivial⟩ Try.func37 rfl rfl) ?_
          rintro _ _ ⟨rfl, rfl⟩
          refine RL.opD (by decide) (opv_not rfl rfl) ?_
          refine RL.opD (by decide) (opv_move rfl rfl) ?_
          refine RL.no rfl rfl (Eq.trans c3 (by decide)) (by decide) ?_
          refine RL.no rfl rfl (Eq.trans c3 (by decide)) (by decide) ?_
          refine RL.no rfl rfl (Eq.trans c3 (by decide)) (by decide) ?_
          refine RL.opD (by decide) (opv_pick rfl rfl (fun _ => rfl) (fun e => absurd (Eq.trans (Eq.symm e) c3) (by decide)) rfl) ?_
          refine RL.nil ?_
          have ey1 := Option.some.inj hy1
          subst ey1
          refine onlyN ?_
          exact ⟨⟨rfl, rfl, rfl, rfl, rfl, rfl, rfl, rfl, rfl, rfl, rfl, rfl, rfl, rfl, rfl, rfl, trivial⟩, rfl⟩
        · rw [if_neg c3] at hy1
          have c3 := eq_false_of_ne_true c3
          refine W.region ?_
          refine RL.opD (by decide) (opv_move rfl rfl) ?_
          refine RL.opF (by decide) (opv_widen rfl (by rw [Try.underlying40]; rfl) Try.underlying56 rfl fv20) ?_
          intro v21 fv21
          refine RL.opD (by decide) (opv_move rfl rfl) ?_
          refine RL.opF (by decide) (opv_widen rfl (by rw [Try.underlying40]; rfl) Try.underlying56 rfl fv8) ?_
          intro v22 fv22
          refine RL.op _ (by decide) (opv_call (cap := []) (laws_sameFloat_ok _ _ _ fv21 _ _ fv22 _ hx10) rfl rfl ⟨rfl, rfl, trivial⟩ Try.func37 rfl rfl) ?_
          rintro _ _ ⟨rfl, rfl⟩
          refine RL.opD (by decide) (opv_not rfl rfl) ?_
          refine RL.opD (by decide) (opv_move rfl rfl) ?_
          refine RL.yes _ rfl rfl c3 (by decide) (opv_move rfl rfl) ?_
          rintro _ _ ⟨rfl, rfl⟩
          refine RL.yes _ rfl rfl c3 (by decide) (opv_move rfl rfl) ?_
          rintro _ _ ⟨rfl, rfl⟩
          refine RL.yes _ rfl rfl c3 (by decide) (opv_bcmp rfl rfl Try.underlying4 rfl rfl) ?_
          rintro _ _ ⟨rfl, rfl⟩
          refine RL.opD (by decide) (opv_pick rfl rfl (fun e => absurd (Eq.trans (Eq.symm e) c3) (by decide)) (fun _ => rfl) rfl) ?_
          refine RL.nil ?_
          have ey1 := Option.some.inj hy1
          subst ey1
          refine onlyN ?_
          exact ⟨⟨rfl, rfl, rfl, rfl, rfl, rfl, rfl, rfl, rfl, rfl, rfl, rfl, rfl, rfl, rfl, rfl, trivial⟩, rfl⟩
      rintro φ' _ ⟨hs1, rfl⟩
      refine thnN ?_
      refine W.sub hs1 ?_
      by_cases c4 : x9 = true
      · rw [if_pos c4] at hp
        refine W.condT rfl c4 ?_
        refine W.seq ?_
        refine W.region ?_
        refine RL.opD (by decide) (opv_assign rfl rfl) ?_
        refine RL.nil ?_
        refine thnN ?_
        refine W.ret ?_
        refine thnR ?_
        have er := Option.some.inj hp
        subst er
        exact Rt.one rfl rfl ⟨rfl, X_15, (Sep.nil _ _ _)⟩
      · rw [if_neg c4] at hp
        have c4 := eq_false_of_ne_true c4
        refine W.condF rfl c4 ?_
        refine W.skip ?_
        refine thnN ?_
        refine W.seq ?_
        refine W.seq ?_
        obtain ⟨x11, hx11, hp⟩ := Option.bind_eq_some_iff.1 hp
        obtain ⟨x12, hx12, hp⟩ := Option.bind_eq_some_iff.1 hp
        refine W.sub (ψ := [(0, (.agg (List.toArray (α := Value) [(.int .i64 a0_0), (.int .i64 a0_1), (.bool a0_2), u0_3, u0_4]))), (1, (.agg (List.toArray (α := Value) [u1_0, u1_1, u1_2]))), (2, (.int .i64 a2)), (3, (.pointer (some ⟨bb1, 0, none⟩))), (4, (.pointer (some ⟨bb2, 0, none⟩))), (6, (.bool false)), (7, (.int .i64 x2)), (18, (.bool (decide (x1 < 0)))), (23, (.bool (decide (x2 < 0)))), (8, v8), (9, (.bool x5.2)), (10, (.pointer (some ⟨bb3, 0, none⟩))), (11, (.pointer (some ⟨bb4, 0, none⟩))), (12, v20), (13, (.bool x8.2)), (54, (.bool x9))]) ⟨rfl, rfl, rfl, rfl, rfl, rfl, rfl, rfl, rfl, rfl, rfl, rfl, rfl, rfl, rfl, rfl, trivial⟩ ?_
        refine W.regionM [fun v _ => @Eq Value (.agg (List.toArray (α := Value) [(.int .i64 x6.1), (.int .i64 x6.2.1), (.bool x6.2.2.1), v15, v16])) v, fun v _ => @Eq Value (.agg (List.toArray (α := Value) [(.int .i64 a0_0), (.int .i64 a0_1), (.bool a0_2), u0_3, u0_4])) v, fun v h => ∃ v23, ∃ v24, @Eq Value v (.agg (List.toArray (α := Value) [(.int .i64 x11.1), (.int .i64 x11.2.1), (.bool x11.2.2.1), v23, v24])) ∧ Sep [] hp26.size h [ownO (kF .f32) 40 v23 x11.2.2.2.1, ownO (kF .f32) 40 v24 x11.2.2.2.2], fun v h => @Eq Value v (.bool x12) ∧ Sep [] hp26.size h [], fun v _ => @Eq Value (.bool (!x12)) v] [none, none, some (fun u => [Value.ownBlock (vget u 3), Value.ownBlock (vget u 4)]), some (fun u => []), none] [] [[], [], [1], [0, 2], [3]] [4] Try.mixed (by decide +kernel) (by decide +kernel) rfl rfl rfl (by decide +kernel) rfl ⟨fun _ _ _ h _ => h, fun _ _ _ h _ => h, fun _ _ _ ⟨u0_, u1_, e, h⟩ x => ⟨u0_, u1_, e, h.ext x⟩, fun _ _ _ ⟨e, h⟩ x => ⟨e, h.ext x⟩, fun _ _ _ h _ => h, trivial⟩ ?_ ?_
        · refine ⟨⟨rfl, ?_⟩, ⟨rfl, ?_⟩, ⟨rfl, ?_⟩, ⟨rfl, ?_⟩, ⟨rfl, ?_⟩, trivial⟩
          · rintro hp29 E_13
            refine Dep.nil ?_
            refine GuardOK.none rfl ?_
            exact OpV.toDx (opv_loadA (us := [(.int .i64 x6.1), (.int .i64 x6.2.1), (.bool x6.2.2.1), v15, v16]) rfl Try.agg29 Try.size29 rfl (Sep.at (o := boxO bb3 [(.int .i64 x6.1), (.int .i64 x6.2.1), (.bool x6.2.2.1), v15, v16]) (Sep.ext S_17 E_13) 4 rfl) rfl rfl) rfl
          · rintro hp30 E_14
            refine Dep.nil ?_
            refine GuardOK.none rfl ?_
            exact OpV.toDx (opv_loadA (us := [(.int .i64 a0_0), (.int .i64 a0_1), (.bool a0_2), u0_3, u0_4]) rfl Try.agg24 Try.size24 rfl (Sep.at (o := boxO bb1 [(.int .i64 a0_0), (.int .i64 a0_1), (.bool a0_2), u0_3, u0_4]) (Sep.ext S_17 E_14) 8 rfl) rfl rfl) rfl
          · rintro hp31 E_15 _ rfl
            refine Dep.nil ?_
            refine GuardOK.none rfl ?_
            exact OpV.mono (opv_call (cap := []) (laws_toSheet_ok _ _ _ _ _ _ (SL.up (SL.mod g0_3 (Mod.lift X_15 E_15) (Nat.le_refl _) nob) (Nat.le_trans (Nat.le_refl _) (Mod.size (Mod.lift X_15 E_15)))) _ _ (SL.up (SL.mod g0_4 (Mod.lift X_15 E_15) (Nat.le_refl _) nob) (Nat.le_trans (Nat.le_refl _) (Mod.size (Mod.lift X_15 E_15)))) _ hx11) rfl rfl ⟨rfl, trivial⟩ Try.func20 rfl rfl) (by rintro _ _ ⟨v23, v24, rfl, M_, T_⟩; exact ⟨Mod.ext M_, ⟨v23, v24, rfl, Sep.weak T_ (Ext.size E_15)⟩, Sep.fresh T_⟩)
          · rintro hp32 E_16 _ rfl _ ⟨v23, v24, rfl, T_15⟩
            refine Dep.nil ?_
            refine GuardOK.none rfl ?_
            exact OpV.mono (opv_call (cap := []) (laws_eqSheet_ok _ _ _ _ _ _ (ownO.read (Sep.at (o := ownO (kF .f32) 40 v15 x6.2.2.2.1) (Sep.ext S_17 E_16) 5 rfl)) _ _ (ownO.read (Sep.at (o := ownO (kF .f32) 40 v16 x6.2.2.2.2) (Sep.ext S_17 E_16) 6 rfl)) _ _ _ _ _ (ownO.read (Sep.at (o := ownO (kF .f32) 40 v23 x11.2.2.2.1) T_15 0 rfl)) _ _ (ownO.read (Sep.at (o := ownO (kF .f32) 40 v24 x11.2.2.2.2) T_15 1 rfl)) _ hx12) rfl rfl ⟨rfl, rfl, trivial⟩ Try.func23 rfl rfl) (by rintro _ _ ⟨rfl, M_, T_⟩; exact ⟨Mod.ext M_, ⟨rfl, Sep.weak T_ (Ext.size E_16)⟩, Sep.fresh T_⟩)
          · rintro hp33 E_17 _ ⟨rfl, T_16⟩
            refine Dep.nil ?_
            refine GuardOK.none rfl ?_
            exact OpV.toDx (opv_not rfl rfl) rfl
        rintro hp34 E_18 _ rfl
        refine DepM.nil ?_
        intro _ LK_
        have X_18 : Mod [] h0 hp34 := Mod.lift X_15 E_18
        have S_20 : Sep [] h0.size hp34 [boxO bb4 [v17, v18, v19], ownO (kF .f32) 40 v17 x7.1, ownO (kF .f32) 40 v18 x7.2.1, ownO (kF .f32) 40 v19 x7.2.2, boxO bb3 [(.int .i64 x6.1), (.int .i64 x6.2.1), (.bool x6.2.2.1), v15, v16], ownO (kF .f32) 40 v15 x6.2.2.2.1, ownO (kF .f32) 40 v16 x6.2.2.2.2, boxO bb2 [u1_0, u1_1, u1_2], boxO bb1 [(.int .i64 a0_0), (.int .i64 a0_1), (.bool a0_2), u0_3, u0_4]] := Sep.ext S_17 E_18
        show RL _ _ _ _ [] _ _
        refine RL.nil ?_
        refine thnN ?_
        by_cases c5 : (!x12) = true
        · rw [if_pos c5] at hp
          refine W.condT rfl c5 ?_
          refine W.seq ?_
          refine W.region ?_
          refine RL.opD (by decide) (opv_assign rfl rfl) ?_
          refine RL.nil ?_
          refine thnN ?_
          refine W.ret ?_
          refine thnR ?_
          have er := Option.some.inj hp
          subst er
          exact Rt.one rfl rfl ⟨rfl, X_18, (Sep.nil _ _ _)⟩
        · rw [if_neg c5] at hp
          have c5 := eq_false_of_ne_true c5
          refine W.condF rfl c5 ?_
          refine W.skip ?_
          refine thnN ?_
          refine W.seq ?_
          refine W.seq ?_
          obtain ⟨x13, hx13, hp⟩ := Option.bind_eq_some_iff.1 hp
          obtain ⟨x14, hx14, hp⟩ := Option.bind_eq_some_iff.1 hp
          refine W.sub (ψ := [(0, (.agg (List.toArray (α := Value) [(.int .i64 a0_0), (.int .i64 a0_1), (.bool a0_2), u0_3, u0_4]))), (1, (.agg (List.toArray (α := Value) [u1_0, u1_1, u1_2]))), (2, (.int .i64 a2)), (3, (.pointer (some ⟨bb1, 0, none⟩))), (4, (.pointer (some ⟨bb2, 0, none⟩))), (6, (.bool false)), (7, (.int .i64 x2)), (18, (.bool (decide (x1 < 0)))), (23, (.bool (decide (x2 < 0)))), (8, v8), (9, (.bool x5.2)), (10, (.pointer (some ⟨bb3, 0, none⟩))), (11, (.pointer (some ⟨bb4, 0, none⟩))), (12, v20), (13, (.bool x8.2)), (54, (.bool x9)), (59, (.bool (!x12)))]) ⟨rfl, rfl, rfl, rfl, rfl, rfl, rfl, rfl, rfl, rfl, rfl, rfl, rfl, rfl, rfl, rfl, rfl, trivial⟩ ?_
          refine W.regionM [fun v _ => @Eq Value (.agg (List.toArray (α := Value) [v17, v18, v19])) v, fun v _ => @Eq Value (.agg (List.toArray (α := Value) [u1_0, u1_1, u1_2])) v, fun v h => ∃ v27, ∃ v28, ∃ v29, @Eq Value v (.agg (List.toArray (α := Value) [v27, v28, v29])) ∧ Sep [] hp34.size h [ownO (kF .f32) 40 v27 x13.1, ownO (kF .f32) 40 v28 x13.2.1, ownO (kF .f32) 40 v29 x13.2.2], fun v h => @Eq Value v (.bool x14) ∧ Sep [] hp34.size h [], fun v _ => @Eq Value (.bool (!x14)) v] [none, none, some (fun u => [Value.ownBlock (vget u 0), Value.ownBlock (vget u 1), Value.ownBlock (vget u 2)]), some (fun u => []), none] [] [[], [], [1], [0, 2], [3]] [4] Try.mixed (by decide +kernel) (by decide +kernel) rfl rfl rfl (by decide +kernel) rfl ⟨fun _ _ _ h _ => h, fun _ _ _ h _ => h, fun _ _ _ ⟨u0_, u1_, u2_, e, h⟩ x => ⟨u0_, u1_, u2_, e, h.ext x⟩, fun _ _ _ ⟨e, h⟩ x => ⟨e, h.ext x⟩, fun _ _ _ h _ => h, trivial⟩ ?_ ?_
          · refine ⟨⟨rfl, ?_⟩, ⟨rfl, ?_⟩, ⟨rfl, ?_⟩, ⟨rfl, ?_⟩, ⟨rfl, ?_⟩, trivial⟩
            · rintro hp37 E_19
              refine Dep.nil ?_
              refine GuardOK.none rfl ?_
              exact OpV.toDx (opv_loadA (us := [v17, v18, v19]) rfl Try.agg53 Try.size53 rfl (Sep.at (o := boxO bb4 [v17, v18, v19]) (Sep.ext S_20 E_19) 0 rfl) rfl rfl) rfl
            · rintro hp38 E_20
              refine Dep.nil ?_
              refine GuardOK.none rfl ?_
              exact OpV.toDx (opv_loadA (us := [u1_0, u1_1, u1_2]) rfl Try.agg49 Try.size49 rfl (Sep.at (o := boxO bb2 [u1_0, u1_1, u1_2]) (Sep.ext S_20 E_20) 7 rfl) rfl rfl) rfl
            · rintro hp39 E_21 _ rfl
              refine Dep.nil ?_
              refine GuardOK.none rfl ?_
              exact OpV.mono (opv_call (cap := []) (laws_toField_ok _ _ _ (SL.up (SL.mod g1_0 (Mod.lift X_18 E_21) (Nat.le_refl _) nob) (Nat.le_trans (Nat.le_refl _) (Mod.size (Mod.lift X_18 E_21)))) _ _ (SL.up (SL.mod g1_1 (Mod.lift X_18 E_21) (Nat.le_refl _) nob) (Nat.le_trans (Nat.le_refl _) (Mod.size (Mod.lift X_18 E_21)))) _ _ (SL.up (SL.mod g1_2 (Mod.lift X_18 E_21) (Nat.le_refl _) nob) (Nat.le_trans (Nat.le_refl _) (Mod.size (Mod.lift X_18 E_21)))) _ hx13) rfl rfl ⟨rfl, trivial⟩ Try.func35 rfl rfl) (by rintro _ _ ⟨v27, v28, v29, rfl, M_, T_⟩; exact ⟨Mod.ext M_, ⟨v27, v28, v29, rfl, Sep.weak T_ (Ext.size E_21)⟩, Sep.fresh T_⟩)
            · rintro hp40 E_22 _ rfl _ ⟨v27, v28, v29, rfl, T_17⟩
              refine Dep.nil ?_
              refine GuardOK.none rfl ?_
              exact OpV.mono (opv_call (cap := []) (laws_eqField_ok _ _ _ (ownO.read (Sep.at (o := ownO (kF .f32) 40 v17 x7.1) (Sep.ext S_20 E_22) 1 rfl)) _ _ (ownO.read (Sep.at (o := ownO (kF .f32) 40 v18 x7.2.1) (Sep.ext S_20 E_22) 2 rfl)) _ _ (ownO.read (Sep.at (o := ownO (kF .f32) 40 v19 x7.2.2) (Sep.ext S_20 E_22) 3 rfl)) _ _ (ownO.read (Sep.at (o := ownO (kF .f32) 40 v27 x13.1) T_17 0 rfl)) _ _ (ownO.read (Sep.at (o := ownO (kF .f32) 40 v28 x13.2.1) T_17 1 rfl)) _ _ (ownO.read (Sep.at (o := ownO (kF .f32) 40 v29 x13.2.2) T_17 2 rfl)) _ hx14) rfl rfl ⟨rfl, rfl, trivial⟩ Try.func38 rfl rfl) (by rintro _ _ ⟨rfl, M_, T_⟩; exact ⟨Mod.ext M_, ⟨rfl, Sep.weak T_ (Ext.size E_22)⟩, Sep.fresh T_⟩)
            · rintro hp41 E_23 _ ⟨rfl, T_18⟩
              refine Dep.nil ?_
              refine GuardOK.none rfl ?_
              exact OpV.toDx (opv_not rfl rfl) rfl
          rintro hp42 E_24 _ rfl
          refine DepM.nil ?_
          intro _ LK_
          have X_21 : Mod [] h0 hp42 := Mod.lift X_18 E_24
          have S_23 : Sep [] h0.size hp42 [boxO bb4 [v17, v18, v19], ownO (kF .f32) 40 v17 x7.1, ownO (kF .f32) 40 v18 x7.2.1, ownO (kF .f32) 40 v19 x7.2.2, boxO bb3 [(.int .i64 x6.1), (.int .i64 x6.2.1), (.bool x6.2.2.1), v15, v16], ownO (kF .f32) 40 v15 x6.2.2.2.1, ownO (kF .f32) 40 v16 x6.2.2.2.2, boxO bb2 [u1_0, u1_1, u1_2], boxO bb1 [(.int .i64 a0_0), (.int .i64 a0_1), (.bool a0_2), u0_3, u0_4]] := Sep.ext S_20 E_24
          show RL _ _ _ _ [] _ _
          refine RL.nil ?_
          refine thnN ?_
          by_cases c6 : (!x14) = true
          · rw [if_pos c6] at hp
            refine W.condT rfl c6 ?_
            refine W.seq ?_
            refine W.region ?_
            refine RL.opD (by decide) (opv_assign rfl rfl) ?_
            refine RL.nil ?_
            refine thnN ?_
            refine W.ret ?_
            refine thnR ?_
            have er := Option.some.inj hp
            subst er
            exact Rt.one rfl rfl ⟨rfl, X_21, (Sep.nil _ _ _)⟩
          · rw [if_neg c6] at hp
            have c6 := eq_false_of_ne_true c6
            refine W.condF rfl c6 ?_
            refine W.skip ?_
            refine thnN ?_
            refine W.seq ?_
            refine W.region ?_
            refine RL.opD (by decide) (opv_assign rfl rfl) ?_
            refine RL.nil ?_
            refine thnN ?_
            refine W.ret ?_
            have er := Option.some.inj hp
            subst er
            exact Rt.one rfl rfl ⟨rfl, X_21, (Sep.nil _ _ _)⟩

end Go.H
