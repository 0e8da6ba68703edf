/- Functions of the program: what each computes, as a plain function, and that the call comes to it. Written by a program (wip/gen). -/
import Derived.Test.YtohfgnjmgipehaaPSheet
import Derived.Test.YtohfgnjmgipehaaBase16
import Derived.Test.YtohfgnjmgipehaaProg
import Derived.KernelRfl
set_option linter.unusedVariables false
namespace Go.H
open Go Go.Proofs

theorem _root_.Go.Proofs.Try.isinfo40 : (Try.prog.info? 40).isSome = true := by kernel_rfl

noncomputable def spec_WindowOf.s0 (a0 : Int) (a1 : Int) (x4 : List (Option Nat)) (x5 : Int) : Option (((List (Option Nat)) × Int) ⊕ (Int × Bool × (List (Option Nat)))) :=
  (if (decide (x5 < a1)) = true then (((if (a0 == 0) = true then (if x4.length + [(some 1065353216)].length ≤ 1000000000 then some (x4 ++ [(some 1065353216)]) else none) else (((if (a0 == 1) = true then ((spec_l00Min (IntKind.wrap .i64 (x5 + 1)) (IntKind.wrap .i64 (a1 - x5))).bind fun (x11 : Int) => (if x4.length + [fop .quo .f32 (fop .mul .f32 (some 1073741824) (fofi .f32 x11)) (fofi .f32 (IntKind.wrap .i64 (a1 + 1)))].length ≤ 1000000000 then some (x4 ++ [fop .quo .f32 (fop .mul .f32 (some 1073741824) (fofi .f32 x11)) (fofi .f32 (IntKind.wrap .i64 (a1 + 1)))]) else none)) else ((spec_l01Sine (fop .add .f32 (some 1048576000) (fop .quo .f32 (fofi .f32 (IntKind.wrap .i64 (x5 + 1))) (fofi .f32 (IntKind.wrap .i64 (a1 + 1)))))).bind fun (x12 : Option Nat) => (if x4.length + [fop .sub .f32 (some 1056964608) (fop .mul .f32 (some 1056964608) x12)].length ≤ 1000000000 then some (x4 ++ [fop .sub .f32 (some 1056964608) (fop .mul .f32 (some 1056964608) x12)]) else none))) : Option (List (Option Nat))).bind fun (x10 : List (Option Nat)) => some x10)) : Option (List (Option Nat))).bind fun (x9 : List (Option Nat)) => some (.inl (x9, IntKind.wrap .i64 (x5 + 1)))) else some (.inr (x5, decide (x5 < a1), x4)))

noncomputable def spec_WindowOf (a0 : Int) (a1 : Int) : Option ((List (Option Nat)) × Bool) :=
  ((((spec_l00In a0 0 2).bind fun (x2 : Bool) => (if (!x2) = true then some true else ((spec_l06Count a1).bind fun (x3 : Bool) => some (!x3)))) : Option Bool).bind fun (x1 : Bool) => (if x1 = true then some (([] : List (Option Nat)), false) else ((loopF (fun (s : ((List (Option Nat)) × Int)) => spec_WindowOf.s0 a0 a1 s.1 s.2) (([] : List (Option Nat)), 0)).bind fun (⟨x6, x7, x8⟩ : (Int × Bool × (List (Option Nat)))) => some (x8, true))))

noncomputable def impl_windowAt (a0 : Int) (a1 : Int) (a2 : Int) : Option (Option Nat) :=
  (if (a0 == 0) = true then some (some 1065353216) else (if (a0 == 1) = true then some (fop .quo .f32 (fop .mul .f32 (some 1073741824) (fofi .f32 (imin (IntKind.wrap .i64 (a2 + 1)) (IntKind.wrap .i64 (a1 - a2))))) (fofi .f32 (IntKind.wrap .i64 (a1 + 1)))) else ((impl_SineTurns (fop .add .f32 (some 1048576000) (fop .quo .f32 (fofi .f32 (IntKind.wrap .i64 (a2 + 1))) (fofi .f32 (IntKind.wrap .i64 (a1 + 1)))))).bind fun (x1 : Option Nat) => some (fop .sub .f32 (some 1056964608) (fop .quo .f32 x1 (some 1073741824))))))

noncomputable def impl_WindowOf.s0 (a0 : Int) (a1 : Int) (x4 : List (Option Nat)) (x5 : Int) : Option (((List (Option Nat)) × Int) ⊕ (Int × Bool × (List (Option Nat)))) :=
  (if (decide (x5 < a1)) = true then ((impl_windowAt a0 a1 x5).bind fun (x9 : Option Nat) => (if x4.length + [x9].length ≤ 1000000000 then some (.inl (x4 ++ [x9], IntKind.wrap .i64 (x5 + 1))) else none)) else some (.inr (x5, decide (x5 < a1), x4)))

noncomputable def impl_WindowOf (a0 : Int) (a1 : Int) : Option ((List (Option Nat)) × Bool) :=
  ((((impl_within a0 0 2).bind fun (x2 : Bool) => (if (!x2) = true then some true else ((impl_within a1 1 64).bind fun (x3 : Bool) => some (!x3)))) : Option Bool).bind fun (x1 : Bool) => (if x1 = true then some (([] : List (Option Nat)), false) else ((loopF (fun (s : ((List (Option Nat)) × Int)) => impl_WindowOf.s0 a0 a1 s.1 s.2) (([] : List (Option Nat)), 0)).bind fun (⟨x6, x7, x8⟩ : (Int × Bool × (List (Option Nat)))) => some (x8, true))))

noncomputable def laws_FnExactWindowOf (a0 : Int) (a1 : Int) : Option Bool :=
  ((spec_WindowOf a0 a1).bind fun (x1 : ((List (Option Nat)) × Bool)) => ((impl_WindowOf a0 a1).bind fun (x2 : ((List (Option Nat)) × Bool)) => ((((laws_eqFloat32S x2.1 x1.1).bind fun (x4 : Bool) => (if (!x4) = true then some true else some (x2.2 != x1.2))) : Option Bool).bind fun (x3 : Bool) => (if x3 = true then some false else ((laws_markFloat32S x2.1 1).bind fun (x5 : (Int × (List (Option Nat)))) => ((laws_heldFloat32S x5.2 1).bind fun (x6 : Int) => (if (decide (x6 < 0)) = true then some false else (if (x6 != x5.1) = true then some false else ((impl_WindowOf a0 a1).bind fun (x7 : ((List (Option Nat)) × Bool)) => ((((laws_eqFloat32S x7.1 x1.1).bind fun (x9 : Bool) => (if (!x9) = true then some true else some (x7.2 != x1.2))) : Option Bool).bind fun (x8 : Bool) => (if x8 = true then some false else ((laws_heldFloat32S x5.2 1).bind fun (x10 : Int) => (if (decide (x10 < 0)) = true then some false else (if (x10 != x5.1) = true then some false else some true))))))))))))))

set_option maxRecDepth 20000 in
theorem spec_WindowOf_ok (h0 : Heap) (a0 : Int) (a1 : Int) (r : ((List (Option Nat)) × Bool)) (hp : spec_WindowOf a0 a1 = some r) : CallsH Try.prog 24 ([(.int .i64 a0), (.int .i64 a1)].toArray ++ [].toArray) h0 (fun v h' => ∃ w0, v = (.tuple (List.toArray (α := Value) [w0, (.bool r.2)])) ∧ Mod [] h0 h' ∧ Sep [] h0.size h' [ownO (kF .f32) 40 w0 r.1]) := by
  unfold spec_WindowOf at hp
  refine callsH_of_W (l := [(.int .i64 a0), (.int .i64 a1)]) (cap := []) 62 Try.func24 rfl rfl rfl ?_
  refine W.seq ?_
  refine W.region ?_
  refine RL.opD (by decide) (opv_assign rfl rfl) ?_
  have S_1 : Sep [] h0.size h0 [ownO (kF .f32) 40 (.slice none 0 0) ([] : List (Option Nat))] := Sep.addNil (Sep.nil [] h0.size h0)
  refine RL.opD (by decide) (opv_assign rfl rfl) ?_
  refine RL.nil ?_
  refine thnN ?_
  refine W.seq ?_
  refine W.seq ?_
  obtain ⟨x1, hy1, hp⟩ := Option.bind_eq_some_iff.1 hp
  refine W.cut (fun φ' h' => Fr.sub [(0, (.int .i64 a0)), (1, (.int .i64 a1)), (4, (.slice none 0 0)), (5, (.bool false)), (16, (.bool x1))] φ' ∧ h0 = h') ?_ ?_
  · obtain ⟨x2, hx2, hy1⟩ := Option.bind_eq_some_iff.1 hy1
    by_cases c1 : (!x2) = true
    · rw [if_pos c1] at hy1
      refine W.region ?_
      refine RL.opD (by decide) (opv_move rfl rfl) ?_
      refine RL.op _ (by decide) (opv_call (cap := []) (spec_l00In_ok _ _ _ _ _ hx2) rfl rfl ⟨rfl, rfl, rfl, trivial⟩ Try.func78 rfl rfl) ?_
      rintro _ _ ⟨rfl, rfl⟩
      refine RL.opD (by decide) (opv_not rfl rfl) ?_
      refine RL.opD (by decide) (opv_move rfl rfl) ?_
      refine RL.no rfl rfl (Eq.trans c1 (by decide)) (by decide) ?_
      refine RL.no rfl rfl (Eq.trans c1 (by decide)) (by decide) ?_
      refine RL.no rfl rfl (Eq.trans c1 (by decide)) (by decide) ?_
      refine RL.opD (by decide) (opv_pick rfl rfl (fun _ => rfl) (fun e => absurd (Eq.trans (Eq.symm e) c1) (by decide)) rfl) ?_
      refine RL.nil ?_
      have ey1 := Option.some.inj hy1
      subst ey1
      refine onlyN ?_
      exact ⟨⟨rfl, rfl, rfl, rfl, rfl, trivial⟩, rfl⟩
    · rw [if_neg c1] at hy1
      have c1 := eq_false_of_ne_true c1
      obtain ⟨x3, hx3, hy1⟩ := Option.bind_eq_some_iff.1 hy1
      refine W.region ?_
      refine RL.opD (by decide) (opv_move rfl rfl) ?_
      refine RL.op _ (by decide) (opv_call (cap := []) (spec_l00In_ok _ _ _ _ _ hx2) rfl rfl ⟨rfl, rfl, rfl, trivial⟩ Try.func78 rfl rfl) ?_
      rintro _ _ ⟨rfl, rfl⟩
      refine RL.opD (by decide) (opv_not rfl rfl) ?_
      refine RL.opD (by decide) (opv_move rfl rfl) ?_
      refine RL.yes _ rfl rfl c1 (by decide) (opv_move rfl rfl) ?_
      rintro _ _ ⟨rfl, rfl⟩
      refine RL.yes _ rfl rfl c1 (by decide) (opv_call (cap := []) (spec_l06Count_ok _ _ _ hx3) rfl rfl ⟨rfl, trivial⟩ Try.func79 rfl rfl) ?_
      rintro _ _ ⟨rfl, rfl⟩
      refine RL.yes _ rfl rfl c1 (by decide) (opv_not rfl rfl) ?_
      rintro _ _ ⟨rfl, rfl⟩
      refine RL.opD (by decide) (opv_pick rfl rfl (fun e => absurd (Eq.trans (Eq.symm e) c1) (by decide)) (fun _ => rfl) rfl) ?_
      refine RL.nil ?_
      have ey1 := Option.some.inj hy1
      subst ey1
      refine onlyN ?_
      exact ⟨⟨rfl, rfl, rfl, rfl, rfl, trivial⟩, rfl⟩
  rintro φ' _ ⟨hs1, rfl⟩
  refine thnN ?_
  refine W.sub hs1 ?_
  by_cases c2 : x1 = true
  · rw [if_pos c2] at hp
    refine W.condT rfl c2 ?_
    refine W.seq ?_
    refine W.region ?_
    refine RL.opD (by decide) (opv_assign rfl rfl) ?_
    have S_2 : Sep [] h0.size h0 [ownO (kF .f32) 40 (.slice none 0 0) ([] : List (Option Nat)), ownO (kF .f32) 40 (.slice none 0 0) ([] : List (Option Nat))] := Sep.addNil S_1
    refine RL.opD (by decide) (opv_assign rfl rfl) ?_
    refine RL.nil ?_
    refine thnN ?_
    refine W.ret ?_
    refine thnR ?_
    have er := Option.some.inj hp
    subst er
    exact Rt.two rfl rfl rfl ⟨(.slice none 0 0), rfl, (Mod.refl [] h0), (Sep.sel S_2 [0] (by decide))⟩
  · rw [if_neg c2] at hp
    have c2 := eq_false_of_ne_true c2
    refine W.condF rfl c2 ?_
    refine W.skip ?_
    refine thnN ?_
    refine W.seq ?_
    refine W.region ?_
    refine RL.op _ (by decide) (opS_lit0 (K := (kF .f32)) rfl Try.underlying22 Try.isinfo40) ?_
    rintro v1 hp1 ⟨MT_1, T_1⟩
    have X_1 : Mod [] h0 hp1 := Mod.step (A := []) (L := [ownO (kF .f32) 40 (.slice none 0 0) ([] : List (Option Nat))]) (Mod.refl [] h0) S_1 MT_1
    have S_3 : Sep [] h0.size hp1 [ownO (kF .f32) 40 v1 ([] : List (Option Nat)), ownO (kF .f32) 40 (.slice none 0 0) ([] : List (Option Nat))] := Sep.step (A := []) (L := [ownO (kF .f32) 40 (.slice none 0 0) ([] : List (Option Nat))]) S_1 (Mod.size (Mod.refl [] h0)) MT_1 T_1
    refine RL.opD (by decide) (opv_assign rfl rfl) ?_
    refine RL.nil ?_
    refine thnN ?_
    refine W.seq ?_
    refine W.seq ?_
    refine W.region ?_
    refine RL.opD (by decide) (opv_assign rfl rfl) ?_
    refine RL.nil ?_
    refine thnN ?_
    obtain ⟨y2, hy2, hp⟩ := Option.bind_eq_some_iff.1 hp
    refine W.cut (fun φ' h' => ∃ x6, ∃ x7, ∃ x8, ∃ v3, y2 = (x6, x7, x8) ∧ Fr.sub [(0, (.int .i64 a0)), (1, (.int .i64 a1)), (4, (.slice none 0 0)), (5, (.bool false)), (16, (.bool x1)), (7, (.int .i64 x6)), (20, (.bool x7)), (6, v3)] φ' ∧ Mod [] h0 h' ∧ Sep [] h0.size h' [ownO (kF .f32) 40 (.slice none 0 0) ([] : List (Option Nat)), ownO (kF .f32) 40 v3 x8]) ?_ ?_
    · refine W.block ?_
      refine W.loopS (fun (s : ((List (Option Nat)) × Int)) φ' h' => ∃ v2, Fr.sub [(0, (.int .i64 a0)), (1, (.int .i64 a1)), (4, (.slice none 0 0)), (5, (.bool false)), (16, (.bool x1)), (6, v2), (7, (.int .i64 s.2))] φ' ∧ Mod [] h0 h' ∧ Sep [] h0.size h' [ownO (kF .f32) 40 v2 s.1, ownO (kF .f32) 40 (.slice none 0 0) ([] : List (Option Nat))]) hy2 ⟨v1, ⟨rfl, rfl, rfl, rfl, rfl, rfl, rfl, trivial⟩, X_1, (Sep.sel S_3 [0, 1] (by decide))⟩ ?_
      rintro ⟨x4, x5⟩ φ' hp2 o1 ⟨v2, hs2, X_2, S_4⟩ ho1 hy1
      have hs2 : Fr.sub [(0, (.int .i64 a0)), (1, (.int .i64 a1)), (4, (.slice none 0 0)), (5, (.bool false)), (16, (.bool x1)), (6, v2), (7, (.int .i64 x5))] φ' := hs2
      have S_4 : Sep [] h0.size hp2 [ownO (kF .f32) 40 v2 x4, ownO (kF .f32) 40 (.slice none 0 0) ([] : List (Option Nat))] := S_4
      have ho1 : spec_WindowOf.s0 a0 a1 x4 x5 = some o1 := ho1
      unfold spec_WindowOf.s0 at ho1
      refine W.sub hs2 ?_
      refine W.seq ?_
      refine W.seq ?_
      refine W.region ?_
      refine RL.opD (by decide) (opv_move rfl rfl) ?_
      refine RL.opD (by decide) (opv_move rfl rfl) ?_
      refine RL.opD (by decide) (opv_icmp rfl rfl rfl rfl) ?_
      refine RL.nil ?_
      refine thnN ?_
      by_cases c3 : (decide (x5 < a1)) = true
      · rw [if_pos c3] at ho1
        refine W.condT rfl c3 ?_
        refine W.skip ?_
        refine thnN ?_
        refine W.seq ?_
        refine W.block ?_
        refine W.seq ?_
        refine W.region ?_
        refine RL.opD (by decide) (opv_move rfl rfl) ?_
        refine RL.nil ?_
        refine thnN ?_
        refine W.block ?_
        refine W.seq ?_
        refine W.region ?_
        refine RL.opD (by decide) (opv_icmp rfl rfl rfl rfl) ?_
        refine RL.opD (by decide) (opv_assign rfl rfl) ?_
        refine RL.nil ?_
        refine thnN ?_
        obtain ⟨x9, hy3, ho1⟩ := Option.bind_eq_some_iff.1 ho1
        refine W.cut (fun φ' h' => ∃ v4, Fr.sub [(0, (.int .i64 a0)), (1, (.int .i64 a1)), (4, (.slice none 0 0)), (5, (.bool false)), (16, (.bool x1)), (7, (.int .i64 x5)), (20, (.bool (decide (x5 < a1)))), (23, (.int .i64 a0)), (39, (.bool (a0 == 0))), (6, v4)] φ' ∧ Mod [] h0 h' ∧ Sep [] h0.size h' [ownO (kF .f32) 40 (.slice none 0 0) ([] : List (Option Nat)), ownO (kF .f32) 40 v4 x9]) ?_ ?_
        · by_cases c4 : (a0 == 0) = true
          · rw [if_pos c4] at hy3
            refine W.condT rfl c4 ?_
            obtain ⟨c5, hy3⟩ := of_ite hy3
            refine W.region ?_
            refine RL.opD (by decide) (opv_move rfl rfl) ?_
            refine RL.op _ (by decide) (opS_lit1 (K := (kF .f32)) (z := (some 1065353216)) rfl Try.underlying22 Try.einfo40 rfl rfl rfl rfl ⟨_, rfl, (isF_lit .f32 1065353216 (by decide) (by decide))⟩) ?_
            rintro v5 hp3 ⟨MT_2, T_2⟩
            have X_3 : Mod [] h0 hp3 := Mod.step (A := []) (L := [ownO (kF .f32) 40 v2 x4, ownO (kF .f32) 40 (.slice none 0 0) ([] : List (Option Nat))]) X_2 S_4 MT_2
            have S_5 : Sep [] h0.size hp3 [ownO (kF .f32) 40 v5 [(some 1065353216)], ownO (kF .f32) 40 v2 x4, ownO (kF .f32) 40 (.slice none 0 0) ([] : List (Option Nat))] := Sep.step (A := []) (L := [ownO (kF .f32) 40 v2 x4, ownO (kF .f32) 40 (.slice none 0 0) ([] : List (Option Nat))]) S_4 (Mod.size X_2) MT_2 T_2
            refine RL.op _ (by decide) (opS_append (K := (kF .f32)) rfl Try.underlying22 Try.einfo40 rfl rfl rfl rfl (Sep.at (o := ownO (kF .f32) 40 v2 x4) S_5 1 rfl) (ownO.read (Sep.at (o := ownO (kF .f32) 40 v5 [(some 1065353216)]) S_5 0 rfl)) (by decide) (by decide) c5) ?_
            rintro v6 hp4 ⟨MT_3, T_3⟩
            have S_6 : Sep [] h0.size hp3 ([ownO (kF .f32) 40 v2 x4] ++ [ownO (kF .f32) 40 v5 [(some 1065353216)], ownO (kF .f32) 40 (.slice none 0 0) ([] : List (Option Nat))]) := Sep.sel S_5 [1, 0, 2] (by decide)
            have X_4 : Mod [] h0 hp4 := Mod.step (A := [ownO (kF .f32) 40 v2 x4]) (L := [ownO (kF .f32) 40 v5 [(some 1065353216)], ownO (kF .f32) 40 (.slice none 0 0) ([] : List (Option Nat))]) X_3 S_6 MT_3
            have S_7 : Sep [] h0.size hp4 [ownO (kF .f32) 40 v6 (x4 ++ [(some 1065353216)]), ownO (kF .f32) 40 v5 [(some 1065353216)], ownO (kF .f32) 40 (.slice none 0 0) ([] : List (Option Nat))] := Sep.step (A := [ownO (kF .f32) 40 v2 x4]) (L := [ownO (kF .f32) 40 v5 [(some 1065353216)], ownO (kF .f32) 40 (.slice none 0 0) ([] : List (Option Nat))]) S_6 (Mod.size X_3) MT_3 T_3
            refine RL.opD (by decide) (opv_assign rfl rfl) ?_
            refine RL.nil ?_
            have ey3 := Option.some.inj hy3
            subst ey3
            refine onlyN ?_
            exact ⟨v6, ⟨rfl, rfl, rfl, rfl, rfl, rfl, rfl, rfl, rfl, rfl, trivial⟩, X_4, (Sep.sel S_7 [2, 0] (by decide))⟩
          · rw [if_neg c4] at hy3
            have c4 := eq_false_of_ne_true c4
            refine W.condF rfl c4 ?_
            refine W.seq ?_
            refine W.region ?_
            refine RL.opD (by decide) (opv_icmp rfl rfl rfl rfl) ?_
            refine RL.opD (by decide) (opv_assign rfl rfl) ?_
            refine RL.nil ?_
            refine thnN ?_
            obtain ⟨x10, hy4, hy3⟩ := Option.bind_eq_some_iff.1 hy3
            refine W.cut (fun φ' h' => ∃ v7, Fr.sub [(0, (.int .i64 a0)), (1, (.int .i64 a1)), (4, (.slice none 0 0)), (5, (.bool false)), (16, (.bool x1)), (7, (.int .i64 x5)), (20, (.bool (decide (x5 < a1)))), (23, (.int .i64 a0)), (39, (.bool (a0 == 0))), (44, (.bool (a0 == 1))), (6, v7)] φ' ∧ Mod [] h0 h' ∧ Sep [] h0.size h' [ownO (kF .f32) 40 (.slice none 0 0) ([] : List (Option Nat)), ownO (kF .f32) 40 v7 x10]) ?_ ?_
            · by_cases c6 : (a0 == 1) = true
              · rw [if_pos c6] at hy4
                refine W.condT rfl c6 ?_
                obtain ⟨x11, hx11, hy4⟩ := Option.bind_eq_some_iff.1 hy4
                obtain ⟨c7, hy4⟩ := of_ite hy4
                refine W.region ?_
                refine RL.opD (by decide) (opv_move rfl rfl) ?_
                refine RL.opD (by decide) (opv_move rfl rfl) ?_
                refine RL.opD (by decide) (opv_add rfl rfl rfl) ?_
                refine RL.opD (by decide) (opv_move rfl rfl) ?_
                refine RL.opD (by decide) (opv_move rfl rfl) ?_
                refine RL.opD (by decide) (opv_sub rfl rfl rfl) ?_
                refine RL.op _ (by decide) (opv_call (cap := []) (spec_l00Min_ok _ _ _ _ hx11) rfl rfl ⟨rfl, rfl, trivial⟩ Try.func80 rfl rfl) ?_
                rintro _ _ ⟨rfl, rfl⟩
                refine RL.opF (by decide) (opv_i2f rfl (by rw [Try.underlying2]; rfl) Try.underlying40 rfl) ?_
                intro v8 fv8
                refine RL.opF (by decide) (opv_fop rfl rfl rfl rfl (isF_lit .f32 1073741824 (by decide) (by decide)) fv8) ?_
                intro v9 fv9
                refine RL.opD (by decide) (opv_move rfl rfl) ?_
                refine RL.opD (by decide) (opv_add rfl rfl rfl) ?_
                refine RL.opF (by decide) (opv_i2f rfl (by rw [Try.underlying2]; rfl) Try.underlying40 rfl) ?_
                intro v10 fv10
                refine RL.opF (by decide) (opv_fop rfl rfl rfl rfl fv9 fv10) ?_
                intro v11 fv11
                refine RL.op _ (by decide) (opS_lit1 (K := (kF .f32)) (z := (fop .quo .f32 (fop .mul .f32 (some 1073741824) (fofi .f32 x11)) (fofi .f32 (IntKind.wrap .i64 (a1 + 1))))) rfl Try.underlying22 Try.einfo40 rfl rfl rfl rfl ⟨_, rfl, fv11⟩) ?_
                rintro v12 hp5 ⟨MT_4, T_4⟩
                have X_5 : Mod [] h0 hp5 := Mod.step (A := []) (L := [ownO (kF .f32) 40 v2 x4, ownO (kF .f32) 40 (.slice none 0 0) ([] : List (Option Nat))]) X_2 S_4 MT_4
                have S_8 : Sep [] h0.size hp5 [ownO (kF .f32) 40 v12 [fop .quo .f32 (fop .mul .f32 (some 1073741824) (fofi .f32 x11)) (fofi .f32 (IntKind.wrap .i64 (a1 + 1)))], ownO (kF .f32) 40 v2 x4, ownO (kF .f32) 40 (.slice none 0 0) ([] : List (Option Nat))] := Sep.step (A := []) (L := [ownO (kF .f32) 40 v2 x4, ownO (kF .f32) 40 (.slice none 0 0) ([] : List (Option Nat))]) S_4 (Mod.size X_2) MT_4 T_4
                refine RL.op _ (by decide) (opS_append (K := (kF .f32)) rfl Try.underlying22 Try.einfo40 rfl rfl rfl rfl (Sep.at (o := ownO (kF .f32) 40 v2 x4) S_8 1 rfl) (ownO.read (Sep.at (o := ownO (kF .f32) 40 v12 [fop .quo .f32 (fop .mul .f32 (some 1073741824) (fofi .f32 x11)) (fofi .f32 (IntKind.wrap .i64 (a1 + 1)))]) S_8 0 rfl)) (by decide) (by decide) c7) ?_
                rintro v13 hp6 ⟨MT_5, T_5⟩
                have S_9 : Sep [] h0.size hp5 ([ownO (kF .f32) 40 v2 x4] ++ [ownO (kF .f32) 40 v12 [fop .quo .f32 (fop .mul .f32 (some 1073741824) (fofi .f32 x11)) (fofi .f32 (IntKind.wrap .i64 (a1 + 1)))], ownO (kF .f32) 40 (.slice none 0 0) ([] : List (Option Nat))]) := Sep.sel S_8 [1, 0, 2] (by decide)
                have X_6 : Mod [] h0 hp6 := Mod.step (A := [ownO (kF .f32) 40 v2 x4]) (L := [ownO (kF .f32) 40 v12 [fop .quo .f32 (fop .mul .f32 (some 1073741824) (fofi .f32 x11)) (fofi .f32 (IntKind.wrap .i64 (a1 + 1)))], ownO (kF .f32) 40 (.slice none 0 0) ([] : List (Option Nat))]) X_5 S_9 MT_5
                have S_10 : Sep [] h0.size hp6 [ownO (kF .f32) 40 v13 (x4 ++ [fop .quo .f32 (fop .mul .f32 (some 1073741824) (fofi .f32 x11)) (fofi .f32 (IntKind.wrap .i64 (a1 + 1)))]), ownO (kF .f32) 40 v12 [fop .quo .f32 (fop .mul .f32 (some 1073741824) (fofi .f32 x11)) (fofi .f32 (IntKind.wrap .i64 (a1 + 1)))], ownO (kF .f32) 40 (.slice none 0 0) ([] : List (Option Nat))] := Sep.step (A := [ownO (kF .f32) 40 v2 x4]) (L := [ownO (kF .f32) 40 v12 [fop .quo .f32 (fop .mul .f32 (some 1073741824) (fofi .f32 x11)) (fofi .f32 (IntKind.wrap .i64 (a1 + 1)))], ownO (kF .f32) 40 (.slice none 0 0) ([] : List (Option Nat))]) S_9 (Mod.size X_5) MT_5 T_5
                refine RL.opD (by decide) (opv_assign rfl rfl) ?_
                refine RL.nil ?_
                have ey4 := Option.some.inj hy4
                subst ey4
                refine onlyN ?_
                exact ⟨v13, ⟨rfl, rfl, rfl, rfl, rfl, rfl, rfl, rfl, rfl, rfl, rfl, trivial⟩, X_6, (Sep.sel S_10 [2, 0] (by decide))⟩
              · rw [if_neg c6] at hy4
                have c6 := eq_false_of_ne_true c6
                refine W.condF rfl c6 ?_
                refine W.seq ?_
                refine W.region ?_
                refine RL.opD (by decide) (opv_move rfl rfl) ?_
                refine RL.opD (by decide) (opv_add rfl rfl rfl) ?_
                refine RL.opF (by decide) (opv_i2f rfl (by rw [Try.underlying2]; rfl) Try.underlying40 rfl) ?_
                intro v14 fv14
                refine RL.opD (by decide) (opv_move rfl rfl) ?_
                refine RL.opD (by decide) (opv_add rfl rfl rfl) ?_
                refine RL.opF (by decide) (opv_i2f rfl (by rw [Try.underlying2]; rfl) Try.underlying40 rfl) ?_
                intro v15 fv15
                refine RL.opF (by decide) (opv_fop rfl rfl rfl rfl fv14 fv15) ?_
                intro v16 fv16
                refine RL.opD (by decide) (opv_assign rfl rfl) ?_
                refine RL.nil ?_
                refine thnN ?_
                obtain ⟨x12, hx12, hy4⟩ := Option.bind_eq_some_iff.1 hy4
                obtain ⟨c8, hy4⟩ := of_ite hy4
                refine W.region ?_
                refine RL.opD (by decide) (opv_move rfl rfl) ?_
                refine RL.opD (by decide) (opv_move rfl rfl) ?_
                refine RL.opF (by decide) (opv_fop rfl rfl rfl rfl (isF_lit .f32 1048576000 (by decide) (by decide)) fv16) ?_
                intro v17 fv17
                refine RL.op _ (by decide) (opv_call (cap := []) (spec_l01Sine_ok _ _ _ fv17 _ hx12) rfl rfl ⟨rfl, trivial⟩ Try.func81 rfl rfl) ?_
                rintro v18 _ ⟨fv18, rfl⟩
                refine RL.opF (by decide) (opv_fop rfl rfl rfl rfl (isF_lit .f32 1056964608 (by decide) (by decide)) fv18) ?_
                intro v19 fv19
                refine RL.opF (by decide) (opv_fop rfl rfl rfl rfl (isF_lit .f32 1056964608 (by decide) (by decide)) fv19) ?_
                intro v20 fv20
                refine RL.op _ (by decide) (opS_lit1 (K := (kF .f32)) (z := (fop .sub .f32 (some 1056964608) (fop .mul .f32 (some 1056964608) x12))) rfl Try.underlying22 Try.einfo40 rfl rfl rfl rfl ⟨_, rfl, fv20⟩) ?_
                rintro v21 hp7 ⟨MT_6, T_6⟩
                have X_7 : Mod [] h0 hp7 := Mod.step (A := []) (L := [ownO (kF .f32) 40 v2 x4, ownO (kF .f32) 40 (.slice none 0 0) ([] : List (Option Nat))]) X_2 S_4 MT_6
                have S_11 : Sep [] h0.size hp7 [ownO (kF .f32) 40 v21 [fop .sub .f32 (some 1056964608) (fop .mul .f32 (some 1056964608) x12)], ownO (kF .f32) 40 v2 x4, ownO (kF .f32) 40 (.slice none 0 0) ([] : List (Option Nat))] := Sep.step (A := []) (L := [ownO (kF .f32) 40 v2 x4, ownO (kF .f32) 40 (.slice none 0 0) ([] : List (Option Nat))]) S_4 (Mod.size X_2) MT_6 T_6
                refine RL.op _ (by decide) (opS_append (K := (kF .f32)) rfl Try.underlying22 Try.einfo40 rfl rfl rfl rfl (Sep.at (o := ownO (kF .f32) 40 v2 x4) S_11 1 rfl) (ownO.read (Sep.at (o := ownO (kF .f32) 40 v21 [fop .sub .f32 (some 1056964608) (fop .mul .f32 (some 1056964608) x12)]) S_11 0 rfl)) (by decide) (by decide) c8) ?_
                rintro v22 hp8 ⟨MT_7, T_7⟩
                have S_12 : Sep [] h0.size hp7 ([ownO (kF .f32) 40 v2 x4] ++ [ownO (kF .f32) 40 v21 [fop .sub .f32 (some 1056964608) (fop .mul .f32 (some 1056964608) x12)], ownO (kF .f32) 40 (.slice none 0 0) ([] : List (Option Nat))]) := Sep.sel S_11 [1, 0, 2] (by decide)
                have X_8 : Mod [] h0 hp8 := Mod.step (A := [ownO (kF .f32) 40 v2 x4]) (L := [ownO (kF .f32) 40 v21 [fop .sub .f32 (some 1056964608) (fop .mul .f32 (some 1056964608) x12)], ownO (kF .f32) 40 (.slice none 0 0) ([] : List (Option Nat))]) X_7 S_12 MT_7
                have S_13 : Sep [] h0.size hp8 [ownO (kF .f32) 40 v22 (x4 ++ [fop .sub .f32 (some 1056964608) (fop .mul .f32 (some 1056964608) x12)]), ownO (kF .f32) 40 v21 [fop .sub .f32 (some 1056964608) (fop .mul .f32 (some 1056964608) x12)], ownO (kF .f32) 40 (.slice none 0 0) ([] : List (Option Nat))] := Sep.step (A := [ownO (kF .f32) 40 v2 x4]) (L := [ownO (kF .f32) 40 v21 [fop .sub .f32 (some 1056964608) (fop .mul .f32 (some 1056964608) x12)], ownO (kF .f32) 40 (.slice none 0 0) ([] : List (Option Nat))]) S_12 (Mod.size X_7) MT_7 T_7
                refine RL.opD (by decide) (opv_assign rfl rfl) ?_
                refine RL.nil ?_
                have ey4 := Option.some.inj hy4
                subst ey4
                refine onlyN ?_
                exact ⟨v22, ⟨rfl, rfl, rfl, rfl, rfl, rfl, rfl, rfl, rfl, rfl, rfl, trivial⟩, X_8, (Sep.sel S_13 [2, 0] (by decide))⟩
            rintro φ' hp9 ⟨v7, hs5, X_9, S_14⟩
            have ey3 := Option.some.inj hy3
            subst ey3
            refine onlyN ?_
            exact ⟨v7, (Fr.sub_trans ⟨rfl, rfl, rfl, rfl, rfl, rfl, rfl, rfl, rfl, rfl, trivial⟩ hs5), X_9, (Sep.sel S_14 [0, 1] (by decide))⟩
        rintro φ' hp10 ⟨v4, hs4, X_10, S_15⟩
        refine blkN ?_
        refine blkN ?_
        refine thnN ?_
        refine W.sub hs4 ?_
        refine W.region ?_
        refine RL.opD (by decide) (opv_move rfl rfl) ?_
        refine RL.opD (by decide) (opv_add rfl rfl rfl) ?_
        refine RL.opD (by decide) (opv_assign rfl rfl) ?_
        refine RL.nil ?_
        have eo1 := Option.some.inj ho1
        subst eo1
        refine rndN (s' := (x9, IntKind.wrap .i64 (x5 + 1))) rfl ?_
        exact ⟨v4, ⟨rfl, rfl, rfl, rfl, rfl, rfl, rfl, trivial⟩, X_10, (Sep.sel S_15 [1, 0] (by decide))⟩
      · rw [if_neg c3] at ho1
        have c3 := eq_false_of_ne_true c3
        refine W.condF rfl c3 ?_
        refine W.exit ?_
        refine thnX ?_
        refine rndX ?_
        refine blkI ?_
        have eo1 := Option.some.inj ho1
        subst eo1
        have ey2 := hy1 _ rfl
        subst ey2
        refine onlyN ?_
        exact ⟨x5, decide (x5 < a1), x4, v2, rfl, ⟨rfl, rfl, rfl, rfl, rfl, rfl, rfl, rfl, trivial⟩, X_2, (Sep.sel S_4 [1, 0] (by decide))⟩
    rintro φ' hp11 ⟨x6, x7, x8, v3, rfl, hs3, X_11, S_16⟩
    try dsimp only at hp
    refine thnN ?_
    refine W.sub hs3 ?_
    refine W.seq ?_
    refine W.region ?_
    refine RL.opD (by decide) (opv_move rfl rfl) ?_
    refine RL.opD (by decide) (opv_assign rfl rfl) ?_
    refine RL.opD (by decide) (opv_assign rfl rfl) ?_
    refine RL.nil ?_
    refine thnN ?_
    refine W.ret ?_
    have er := Option.some.inj hp
    subst er
    exact Rt.two rfl rfl rfl ⟨v3, rfl, X_11, (Sep.sel S_16 [1] (by decide))⟩

set_option maxRecDepth 20000 in
theorem impl_windowAt_ok (h0 : Heap) (a0 : Int) (a1 : Int) (a2 : Int) (r : Option Nat) (hp : impl_windowAt a0 a1 a2 = some r) : CallsH Try.prog 82 ([(.int .i64 a0), (.int .i64 a1), (.int .i64 a2)].toArray ++ [].toArray) h0 (fun v h' => IsF .f32 v r ∧ h0 = h') := by
  unfold impl_windowAt at hp
  refine callsH_of_W (l := [(.int .i64 a0), (.int .i64 a1), (.int .i64 a2)]) (cap := []) 37 Try.func82 rfl rfl rfl ?_
  refine W.seq ?_
  refine W.region ?_
  refine RL.opD (by decide) (opv_assign rfl rfl) ?_
  refine RL.nil ?_
  refine thnN ?_
  refine W.seq ?_
  refine W.seq ?_
  refine W.region ?_
  refine RL.opD (by decide) (opv_move rfl rfl) ?_
  refine RL.nil ?_
  refine thnN ?_
  refine W.block ?_
  refine W.seq ?_
  refine W.region ?_
  refine RL.opD (by decide) (opv_icmp rfl rfl rfl rfl) ?_
  refine RL.opD (by decide) (opv_assign rfl rfl) ?_
  refine RL.nil ?_
  refine thnN ?_
  by_cases c1 : (a0 == 0) = true
  · rw [if_pos c1] at hp
    refine W.condT rfl c1 ?_
    refine W.seq ?_
    refine W.region ?_
    refine RL.opD (by decide) (opv_assign rfl rfl) ?_
    refine RL.nil ?_
    refine thnN ?_
    refine W.ret ?_
    refine blkR ?_
    refine thnR ?_
    have er := Option.some.inj hp
    subst er
    exact Rt.one rfl rfl ⟨(isF_lit .f32 1065353216 (by decide) (by decide)), rfl⟩
  · rw [if_neg c1] at hp
    have c1 := eq_false_of_ne_true c1
    refine W.condF rfl c1 ?_
    refine W.seq ?_
    refine W.region ?_
    refine RL.opD (by decide) (opv_icmp rfl rfl rfl rfl) ?_
    refine RL.opD (by decide) (opv_assign rfl rfl) ?_
    refine RL.nil ?_
    refine thnN ?_
    by_cases c2 : (a0 == 1) = true
    · rw [if_pos c2] at hp
      refine W.condT rfl c2 ?_
      refine W.seq ?_
      refine W.region ?_
      refine RL.opD (by decide) (opv_move rfl rfl) ?_
      refine RL.opD (by decide) (opv_add rfl rfl rfl) ?_
      refine RL.opD (by decide) (opv_move rfl rfl) ?_
      refine RL.opD (by decide) (opv_move rfl rfl) ?_
      refine RL.opD (by decide) (opv_sub rfl rfl rfl) ?_
      refine RL.opD (by decide) (opv_min2 rfl rfl rfl) ?_
      refine RL.opF (by decide) (opv_i2f rfl (by rw [Try.underlying2]; rfl) Try.underlying40 rfl) ?_
      intro v1 fv1
      refine RL.opF (by decide) (opv_fop rfl rfl rfl rfl (isF_lit .f32 1073741824 (by decide) (by decide)) fv1) ?_
      intro v2 fv2
      refine RL.opD (by decide) (opv_move rfl rfl) ?_
      refine RL.opD (by decide) (opv_add rfl rfl rfl) ?_
      refine RL.opF (by decide) (opv_i2f rfl (by rw [Try.underlying2]; rfl) Try.underlying40 rfl) ?_
      intro v3 fv3
      refine RL.opF (by decide) (opv_fop rfl rfl rfl rfl fv2 fv3) ?_
      intro v4 fv4
      refine RL.opD (by decide) (opv_assign rfl rfl) ?_
      refine RL.nil ?_
      refine thnN ?_
      refine W.ret ?_
      refine blkR ?_
      refine thnR ?_
      have er := Option.some.inj hp
      subst er
      exact Rt.one rfl rfl ⟨fv4, rfl⟩
    · rw [if_neg c2] at hp
      have c2 := eq_false_of_ne_true c2
      refine W.condF rfl c2 ?_
      refine W.skip ?_
      refine blkN ?_
      refine thnN ?_
      refine W.seq ?_
      obtain ⟨x1, hx1, hp⟩ := Option.bind_eq_some_iff.1 hp
      refine W.region ?_
      refine RL.opD (by decide) (opv_move rfl rfl) ?_
      refine RL.opD (by decide) (opv_add rfl rfl rfl) ?_
      refine RL.opF (by decide) (opv_i2f rfl (by rw [Try.underlying2]; rfl) Try.underlying40 rfl) ?_
      intro v5 fv5
      refine RL.opD (by decide) (opv_move rfl rfl) ?_
      refine RL.opD (by decide) (opv_add rfl rfl rfl) ?_
      refine RL.opF (by decide) (opv_i2f rfl (by rw [Try.underlying2]; rfl) Try.underlying40 rfl) ?_
      intro v6 fv6
      refine RL.opF (by decide) (opv_fop rfl rfl rfl rfl fv5 fv6) ?_
      intro v7 fv7
      refine RL.opF (by decide) (opv_fop rfl rfl rfl rfl (isF_lit .f32 1048576000 (by decide) (by decide)) fv7) ?_
      intro v8 fv8
      refine RL.op _ (by decide) (opv_call (cap := []) (impl_SineTurns_ok _ _ _ fv8 _ hx1) rfl rfl ⟨rfl, trivial⟩ Try.func139 rfl rfl) ?_
      rintro v9 _ ⟨fv9, rfl⟩
      refine RL.opF (by decide) (opv_fop rfl rfl rfl rfl fv9 (isF_lit .f32 1073741824 (by decide) (by decide))) ?_
      intro v10 fv10
      refine RL.opD (by decide) (opv_assign rfl rfl) ?_
      refine RL.nil ?_
      refine thnN ?_
      refine W.seq ?_
      refine W.region ?_
      refine RL.opD (by decide) (opv_move rfl rfl) ?_
      refine RL.opF (by decide) (opv_fop rfl rfl rfl rfl (isF_lit .f32 1056964608 (by decide) (by decide)) fv10) ?_
      intro v11 fv11
      refine RL.opD (by decide) (opv_assign rfl rfl) ?_
      refine RL.nil ?_
      refine thnN ?_
      refine W.ret ?_
      have er := Option.some.inj hp
      subst er
      exact Rt.one rfl rfl ⟨fv11, rfl⟩

set_option maxRecDepth 20000 in
theorem impl_WindowOf_ok (h0 : Heap) (a0 : Int) (a1 : Int) (r : ((List (Option Nat)) × Bool)) (hp : impl_WindowOf a0 a1 = some r) : CallsH Try.prog 25 ([(.int .i64 a0), (.int .i64 a1)].toArray ++ [].toArray) h0 (fun v h' => ∃ w0, v = (.tuple (List.toArray (α := Value) [w0, (.bool r.2)])) ∧ Mod [] h0 h' ∧ Sep [] h0.size h' [ownO (kF .f32) 40 w0 r.1]) := by
  unfold impl_WindowOf at hp
  refine callsH_of_W (l := [(.int .i64 a0), (.int .i64 a1)]) (cap := []) 30 Try.func25 rfl rfl rfl ?_
  refine W.seq ?_
  refine W.region ?_
  refine RL.opD (by decide) (opv_assign rfl rfl) ?_
  have S_1 : Sep [] h0.size h0 [ownO (kF .f32) 40 (.slice none 0 0) ([] : List (Option Nat))] := Sep.addNil (Sep.nil [] h0.size h0)
  refine RL.opD (by decide) (opv_assign rfl rfl) ?_
  refine RL.nil ?_
  refine thnN ?_
  refine W.seq ?_
  refine W.seq ?_
  obtain ⟨x1, hy1, hp⟩ := Option.bind_eq_some_iff.1 hp
  refine W.cut (fun φ' h' => Fr.sub [(0, (.int .i64 a0)), (1, (.int .i64 a1)), (4, (.slice none 0 0)), (5, (.bool false)), (15, (.bool x1))] φ' ∧ h0 = h') ?_ ?_
  · obtain ⟨x2, hx2, hy1⟩ := Option.bind_eq_some_iff.1 hy1
    by_cases c1 : (!x2) = true
    · rw [if_pos c1] at hy1
      refine W.region ?_
      refine RL.opD (by decide) (opv_move rfl rfl) ?_
      refine RL.op _ (by decide) (opv_call (cap := []) (impl_within_ok _ _ _ _ _ hx2) rfl rfl ⟨rfl, rfl, rfl, trivial⟩ Try.func77 rfl rfl) ?_
      rintro _ _ ⟨rfl, rfl⟩
      refine RL.opD (by decide) (opv_not rfl rfl) ?_
      refine RL.opD (by decide) (opv_move rfl rfl) ?_
      refine RL.no rfl rfl (Eq.trans c1 (by decide)) (by decide) ?_
      refine RL.no rfl rfl (Eq.trans c1 (by decide)) (by decide) ?_
      refine RL.no rfl rfl (Eq.trans c1 (by decide)) (by decide) ?_
      refine RL.opD (by decide) (opv_pick rfl rfl (fun _ => rfl) (fun e => absurd (Eq.trans (Eq.symm e) c1) (by decide)) rfl) ?_
      refine RL.nil ?_
      have ey1 := Option.some.inj hy1
      subst ey1
      refine onlyN ?_
      exact ⟨⟨rfl, rfl, rfl, rfl, rfl, trivial⟩, rfl⟩
    · rw [if_neg c1] at hy1
      have c1 := eq_false_of_ne_true c1
      obtain ⟨x3, hx3, hy1⟩ := Option.bind_eq_some_iff.1 hy1
      refine W.region ?_
      refine RL.opD (by decide) (opv_move rfl rfl) ?_
      refine RL.op _ (by decide) (opv_call (cap := []) (impl_within_ok _ _ _ _ _ hx2) rfl rfl ⟨rfl, rfl, rfl, trivial⟩ Try.func77 rfl rfl) ?_
      rintro _ _ ⟨rfl, rfl⟩
      refine RL.opD (by decide) (opv_not rfl rfl) ?_
      refine RL.opD (by decide) (opv_move rfl rfl) ?_
      refine RL.yes _ rfl rfl c1 (by decide) (opv_move rfl rfl) ?_
      rintro _ _ ⟨rfl, rfl⟩
      refine RL.yes _ rfl rfl c1 (by decide) (opv_call (cap := []) (impl_within_ok _ _ _ _ _ hx3) rfl rfl ⟨rfl, rfl, rfl, trivial⟩ Try.func77 rfl rfl) ?_
      rintro _ _ ⟨rfl, rfl⟩
      refine RL.yes _ rfl rfl c1 (by decide) (opv_not rfl rfl) ?_
      rintro _ _ ⟨rfl, rfl⟩
      refine RL.opD (by decide) (opv_pick rfl rfl (fun e => absurd (Eq.trans (Eq.symm e) c1) (by decide)) (fun _ => rfl) rfl) ?_
      refine RL.nil ?_
      have ey1 := Option.some.inj hy1
      subst ey1
      refine onlyN ?_
      exact ⟨⟨rfl, rfl, rfl, rfl, rfl, trivial⟩, rfl⟩
  rintro φ' _ ⟨hs1, rfl⟩
  refine thnN ?_
  refine W.sub hs1 ?_
  by_cases c2 : x1 = true
  · rw [if_pos c2] at hp
    refine W.condT rfl c2 ?_
    refine W.seq ?_
    refine W.region ?_
    refine RL.opD (by decide) (opv_assign rfl rfl) ?_
    have S_2 : Sep [] h0.size h0 [ownO (kF .f32) 40 (.slice none 0 0) ([] : List (Option Nat)), ownO (kF .f32) 40 (.slice none 0 0) ([] : List (Option Nat))] := Sep.addNil S_1
    refine RL.opD (by decide) (opv_assign rfl rfl) ?_
    refine RL.nil ?_
    refine thnN ?_
    refine W.ret ?_
    refine thnR ?_
    have er := Option.some.inj hp
    subst er
    exact Rt.two rfl rfl rfl ⟨(.slice none 0 0), rfl, (Mod.refl [] h0), (Sep.sel S_2 [0] (by decide))⟩
  · rw [if_neg c2] at hp
    have c2 := eq_false_of_ne_true c2
    refine W.condF rfl c2 ?_
    refine W.skip ?_
    refine thnN ?_
    refine W.seq ?_
    refine W.region ?_
    refine RL.op _ (by decide) (opS_lit0 (K := (kF .f32)) rfl Try.underlying22 Try.isinfo40) ?_
    rintro v1 hp1 ⟨MT_1, T_1⟩
    have X_1 : Mod [] h0 hp1 := Mod.step (A := []) (L := [ownO (kF .f32) 40 (.slice none 0 0) ([] : List (Option Nat))]) (Mod.refl [] h0) S_1 MT_1
    have S_3 : Sep [] h0.size hp1 [ownO (kF .f32) 40 v1 ([] : List (Option Nat)), ownO (kF .f32) 40 (.slice none 0 0) ([] : List (Option Nat))] := Sep.step (A := []) (L := [ownO (kF .f32) 40 (.slice none 0 0) ([] : List (Option Nat))]) S_1 (Mod.size (Mod.refl [] h0)) MT_1 T_1
    refine RL.opD (by decide) (opv_assign rfl rfl) ?_
    refine RL.nil ?_
    refine thnN ?_
    refine W.seq ?_
    refine W.seq ?_
    refine W.region ?_
    refine RL.opD (by decide) (opv_move rfl rfl) ?_
    refine RL.opD (by decide) (opv_move rfl rfl) ?_
    refine RL.nil ?_
    refine thnN ?_
    obtain ⟨y2, hy2, hp⟩ := Option.bind_eq_some_iff.1 hp
    refine W.cut (fun φ' h' => ∃ x6, ∃ x7, ∃ x8, ∃ v3, y2 = (x6, x7, x8) ∧ Fr.sub [(0, (.int .i64 a0)), (1, (.int .i64 a1)), (4, (.slice none 0 0)), (5, (.bool false)), (15, (.bool x1)), (17, (.int .i64 a1)), (18, (.int .i64 x6)), (19, (.bool x7)), (6, v3)] φ' ∧ Mod [] h0 h' ∧ Sep [] h0.size h' [ownO (kF .f32) 40 (.slice none 0 0) ([] : List (Option Nat)), ownO (kF .f32) 40 v3 x8]) ?_ ?_
    · refine W.block ?_
      refine W.loopS (fun (s : ((List (Option Nat)) × Int)) φ' h' => ∃ v2, Fr.sub [(0, (.int .i64 a0)), (1, (.int .i64 a1)), (4, (.slice none 0 0)), (5, (.bool false)), (15, (.bool x1)), (17, (.int .i64 a1)), (6, v2), (18, (.int .i64 s.2))] φ' ∧ Mod [] h0 h' ∧ Sep [] h0.size h' [ownO (kF .f32) 40 v2 s.1, ownO (kF .f32) 40 (.slice none 0 0) ([] : List (Option Nat))]) hy2 ⟨v1, ⟨rfl, rfl, rfl, rfl, rfl, rfl, rfl, rfl, trivial⟩, X_1, (Sep.sel S_3 [0, 1] (by decide))⟩ ?_
      rintro ⟨x4, x5⟩ φ' hp2 o1 ⟨v2, hs2, X_2, S_4⟩ ho1 hy1
      have hs2 : Fr.sub [(0, (.int .i64 a0)), (1, (.int .i64 a1)), (4, (.slice none 0 0)), (5, (.bool false)), (15, (.bool x1)), (17, (.int .i64 a1)), (6, v2), (18, (.int .i64 x5))] φ' := hs2
      have S_4 : Sep [] h0.size hp2 [ownO (kF .f32) 40 v2 x4, ownO (kF .f32) 40 (.slice none 0 0) ([] : List (Option Nat))] := S_4
      have ho1 : impl_WindowOf.s0 a0 a1 x4 x5 = some o1 := ho1
      unfold impl_WindowOf.s0 at ho1
      refine W.sub hs2 ?_
      refine W.seq ?_
      refine W.region ?_
      refine RL.opD (by decide) (opv_icmp rfl rfl rfl rfl) ?_
      refine RL.nil ?_
      refine thnN ?_
      refine W.seq ?_
      by_cases c3 : (decide (x5 < a1)) = true
      · rw [if_pos c3] at ho1
        refine W.condT rfl c3 ?_
        refine W.skip ?_
        refine thnN ?_
        refine W.seq ?_
        refine W.block ?_
        refine W.seq ?_
        refine W.region ?_
        refine RL.opD (by decide) (opv_move rfl rfl) ?_
        refine RL.opD (by decide) (opv_assign rfl rfl) ?_
        refine RL.nil ?_
        refine thnN ?_
        obtain ⟨x9, hx9, ho1⟩ := Option.bind_eq_some_iff.1 ho1
        obtain ⟨c4, ho1⟩ := of_ite ho1
        refine W.region ?_
        refine RL.opD (by decide) (opv_move rfl rfl) ?_
        refine RL.opD (by decide) (opv_move rfl rfl) ?_
        refine RL.opD (by decide) (opv_move rfl rfl) ?_
        refine RL.opD (by decide) (opv_move rfl rfl) ?_
        refine RL.op _ (by decide) (opv_call (cap := []) (impl_windowAt_ok _ _ _ _ _ hx9) rfl rfl ⟨rfl, rfl, rfl, trivial⟩ Try.func82 rfl rfl) ?_
        rintro v4 _ ⟨fv4, rfl⟩
        refine RL.op _ (by decide) (opS_lit1 (K := (kF .f32)) (z := x9) rfl Try.underlying22 Try.einfo40 rfl rfl rfl rfl ⟨_, rfl, fv4⟩) ?_
        rintro v5 hp3 ⟨MT_2, T_2⟩
        have X_3 : Mod [] h0 hp3 := Mod.step (A := []) (L := [ownO (kF .f32) 40 v2 x4, ownO (kF .f32) 40 (.slice none 0 0) ([] : List (Option Nat))]) X_2 S_4 MT_2
        have S_5 : Sep [] h0.size hp3 [ownO (kF .f32) 40 v5 [x9], ownO (kF .f32) 40 v2 x4, ownO (kF .f32) 40 (.slice none 0 0) ([] : List (Option Nat))] := Sep.step (A := []) (L := [ownO (kF .f32) 40 v2 x4, ownO (kF .f32) 40 (.slice none 0 0) ([] : List (Option Nat))]) S_4 (Mod.size X_2) MT_2 T_2
        refine RL.op _ (by decide) (opS_append (K := (kF .f32)) rfl Try.underlying22 Try.einfo40 rfl rfl rfl rfl (Sep.at (o := ownO (kF .f32) 40 v2 x4) S_5 1 rfl) (ownO.read (Sep.at (o := ownO (kF .f32) 40 v5 [x9]) S_5 0 rfl)) (by decide) (by decide) c4) ?_
        rintro v6 hp4 ⟨MT_3, T_3⟩
        have S_6 : Sep [] h0.size hp3 ([ownO (kF .f32) 40 v2 x4] ++ [ownO (kF .f32) 40 v5 [x9], ownO (kF .f32) 40 (.slice none 0 0) ([] : List (Option Nat))]) := Sep.sel S_5 [1, 0, 2] (by decide)
        have X_4 : Mod [] h0 hp4 := Mod.step (A := [ownO (kF .f32) 40 v2 x4]) (L := [ownO (kF .f32) 40 v5 [x9], ownO (kF .f32) 40 (.slice none 0 0) ([] : List (Option Nat))]) X_3 S_6 MT_3
        have S_7 : Sep [] h0.size hp4 [ownO (kF .f32) 40 v6 (x4 ++ [x9]), ownO (kF .f32) 40 v5 [x9], ownO (kF .f32) 40 (.slice none 0 0) ([] : List (Option Nat))] := Sep.step (A := [ownO (kF .f32) 40 v2 x4]) (L := [ownO (kF .f32) 40 v5 [x9], ownO (kF .f32) 40 (.slice none 0 0) ([] : List (Option Nat))]) S_6 (Mod.size X_3) MT_3 T_3
        refine RL.opD (by decide) (opv_assign rfl rfl) ?_
        refine RL.nil ?_
        refine blkN ?_
        refine thnN ?_
        refine W.region ?_
        refine RL.opD (by decide) (opv_add rfl rfl rfl) ?_
        refine RL.opD (by decide) (opv_move rfl rfl) ?_
        refine RL.nil ?_
        have eo1 := Option.some.inj ho1
        subst eo1
        refine rndN (s' := (x4 ++ [x9], IntKind.wrap .i64 (x5 + 1))) rfl ?_
        exact ⟨v6, ⟨rfl, rfl, rfl, rfl, rfl, rfl, rfl, rfl, trivial⟩, X_4, (Sep.sel S_7 [0, 2] (by decide))⟩
      · rw [if_neg c3] at ho1
        have c3 := eq_false_of_ne_true c3
        refine W.condF rfl c3 ?_
        refine W.exit ?_
        refine thnX ?_
        refine rndX ?_
        refine blkI ?_
        have eo1 := Option.some.inj ho1
        subst eo1
        have ey2 := hy1 _ rfl
        subst ey2
        refine onlyN ?_
        exact ⟨x5, decide (x5 < a1), x4, v2, rfl, ⟨rfl, rfl, rfl, rfl, rfl, rfl, rfl, rfl, rfl, trivial⟩, X_2, (Sep.sel S_4 [1, 0] (by decide))⟩
    rintro φ' hp5 ⟨x6, x7, x8, v3, rfl, hs3, X_5, S_8⟩
    try dsimp only at hp
    refine thnN ?_
    refine W.sub hs3 ?_
    refine W.seq ?_
    refine W.region ?_
    refine RL.opD (by decide) (opv_move rfl rfl) ?_
    refine RL.opD (by decide) (opv_assign rfl rfl) ?_
    refine RL.opD (by decide) (opv_assign rfl rfl) ?_
    refine RL.nil ?_
    refine thnN ?_
    refine W.ret ?_
    have er := Option.some.inj hp
    subst er
    exact Rt.two rfl rfl rfl ⟨v3, rfl, X_5, (Sep.sel S_8 [1] (by decide))⟩

set_option maxRecDepth 20000 in
theorem laws_FnExactWindowOf_ok (h0 : Heap) (a0 : Int) (a1 : Int) (r : Bool) (hp : laws_FnExactWindowOf a0 a1 = some r) : CallsH Try.prog 4 ([(.int .i64 a0), (.int .i64 a1)].toArray ++ [].toArray) h0 (fun v h' => v = (.bool r) ∧ Mod [] h0 h' ∧ Sep [] h0.size h' []) := by
  unfold laws_FnExactWindowOf at hp
  refine callsH_of_W (l := [(.int .i64 a0), (.int .i64 a1)]) (cap := []) 68 Try.func4 rfl rfl rfl ?_
  refine W.seq ?_
  refine W.region ?_
  refine RL.opD (by decide) (opv_assign rfl rfl) ?_
  refine RL.nil ?_
  refine thnN ?_
  refine W.seq ?_
  obtain ⟨x1, hx1, hp⟩ := Option.bind_eq_some_iff.1 hp
  refine W.region ?_
  refine RL.opD (by decide) (opv_move rfl rfl) ?_
  refine RL.opD (by decide) (opv_move rfl rfl) ?_
  refine RL.op _ (by decide) (opv_call (cap := []) (spec_WindowOf_ok _ _ _ _ hx1) rfl rfl ⟨rfl, rfl, trivial⟩ Try.func24 rfl rfl) ?_
  rintro _ hp1 ⟨v1, rfl, MT_1, T_1⟩
  have X_1 : Mod [] h0 hp1 := Mod.step (A := []) (L := []) (Mod.refl [] h0) (Sep.nil [] h0.size h0) MT_1
  have S_1 : Sep [] h0.size hp1 [ownO (kF .f32) 40 v1 x1.1] := Sep.step (A := []) (L := []) (Sep.nil [] h0.size h0) (Mod.size (Mod.refl [] h0)) MT_1 T_1
  refine RL.opD (by decide) (opv_move rfl rfl) ?_
  refine RL.opD (by decide) (opv_extract rfl rfl rfl) ?_
  refine RL.opD (by decide) (opv_extract rfl rfl rfl) ?_
  refine RL.opD (by decide) (opv_assign rfl rfl) ?_
  refine RL.opD (by decide) (opv_assign rfl rfl) ?_
  refine RL.nil ?_
  refine thnN ?_
  refine W.seq ?_
  obtain ⟨x2, hx2, hp⟩ := Option.bind_eq_some_iff.1 hp
  refine W.region ?_
  refine RL.opD (by decide) (opv_move rfl rfl) ?_
  refine RL.opD (by decide) (opv_move rfl rfl) ?_
  refine RL.op _ (by decide) (opv_call (cap := []) (impl_WindowOf_ok _ _ _ _ hx2) rfl rfl ⟨rfl, rfl, trivial⟩ Try.func25 rfl rfl) ?_
  rintro _ hp2 ⟨v2, rfl, MT_2, T_2⟩
  have X_2 : Mod [] h0 hp2 := Mod.step (A := []) (L := [ownO (kF .f32) 40 v1 x1.1]) X_1 S_1 MT_2
  have S_2 : Sep [] h0.size hp2 [ownO (kF .f32) 40 v2 x2.1, ownO (kF .f32) 40 v1 x1.1] := Sep.step (A := []) (L := [ownO (kF .f32) 40 v1 x1.1]) S_1 (Mod.size X_1) MT_2 T_2
  refine RL.opD (by decide) (opv_move rfl rfl) ?_
  refine RL.opD (by decide) (opv_extract rfl rfl rfl) ?_
  refine RL.opD (by decide) (opv_extract rfl rfl rfl) ?_
  refine RL.opD (by decide) (opv_assign rfl rfl) ?_
  refine RL.opD (by decide) (opv_assign rfl rfl) ?_
  refine RL.nil ?_
  refine thnN ?_
  refine W.seq ?_
  refine W.seq ?_
  obtain ⟨x3, hy1, hp⟩ := Option.bind_eq_some_iff.1 hp
  refine W.cut (fun φ' h' => Fr.sub [(0, (.int .i64 a0)), (1, (.int .i64 a1)), (4, (.bool false)), (5, v1), (6, (.bool x1.2)), (7, v2), (8, (.bool x2.2)), (33, (.bool x3))] φ' ∧ hp2 = h') ?_ ?_
  · obtain ⟨x4, hx4, hy1⟩ := Option.bind_eq_some_iff.1 hy1
    by_cases c1 : (!x4) = true
    · rw [if_pos c1] at hy1
      refine W.region ?_
      refine RL.opD (by decide) (opv_move rfl rfl) ?_
      refine RL.opD (by decide) (opv_move rfl rfl) ?_
      refine RL.op _ (by decide) (opv_call (cap := []) (laws_eqFloat32S_ok _ _ _ (ownO.read (Sep.at (o := ownO (kF .f32) 40 v2 x2.1) S_2 0 rfl)) _ _ (ownO.read (Sep.at (o := ownO (kF .f32) 40 v1 x1.1) S_2 1 rfl)) _ hx4) rfl rfl ⟨rfl, rfl, trivial⟩ Try.func26 rfl rfl) ?_
      rintro _ _ ⟨rfl, rfl⟩
      refine RL.opD (by decide) (opv_not rfl rfl) ?_
      refine RL.opD (by decide) (opv_move rfl rfl) ?_
      refine RL.no rfl rfl (Eq.trans c1 (by decide)) (by decide) ?_
      refine RL.no rfl rfl (Eq.trans c1 (by decide)) (by decide) ?_
      refine RL.no rfl rfl (Eq.trans c1 (by decide)) (by decide) ?_
      refine RL.opD (by decide) (opv_pick rfl rfl (fun _ => rfl) (fun e => absurd (Eq.trans (Eq.symm e) c1) (by decide)) rfl) ?_
      refine RL.nil ?_
      have ey1 := Option.some.inj hy1
      subst ey1
      refine onlyN ?_
      exact ⟨⟨rfl, rfl, rfl, rfl, rfl, rfl, rfl, rfl, trivial⟩, rfl⟩
    · rw [if_neg c1] at hy1
      have c1 := eq_false_of_ne_true c1
      refine W.region ?_
      refine RL.opD (by decide) (opv_move rfl rfl) ?_
      refine RL.opD (by decide) (opv_move rfl rfl) ?_
      refine RL.op _ (by decide) (opv_call (cap := []) (laws_eqFloat32S_ok _ _ _ (ownO.read (Sep.at (o := ownO (kF .f32) 40 v2 x2.1) S_2 0 rfl)) _ _ (ownO.read (Sep.at (o := ownO (kF .f32) 40 v1 x1.1) S_2 1 rfl)) _ hx4) rfl rfl ⟨rfl, rfl, trivial⟩ Try.func26 rfl rfl) ?_
      rintro _ _ ⟨rfl, rfl⟩
      refine RL.opD (by decide) (opv_not rfl rfl) ?_
      refine RL.opD (by decide) (opv_move rfl rfl) ?_
      refine RL.yes _ rfl rfl c1 (by decide) (opv_move rfl rfl) ?_
      rintro _ _ ⟨rfl, rfl⟩
      refine RL.yes _ rfl rfl c1 (by decide) (opv_move rfl rfl) ?_
      rintro _ _ ⟨rfl, rfl⟩
      refine RL.yes _ rfl rfl c1 (by decide) (opv_bcmp rfl rfl Try.underlying4 rfl rfl) ?_
      rintro _ _ ⟨rfl, rfl⟩
      refine RL.opD (by decide) (opv_pick rfl rfl (fun e => absurd (Eq.trans (Eq.symm e) c1) (by decide)) (fun _ => rfl) rfl) ?_
      refine RL.nil ?_
      have ey1 := Option.some.inj hy1
      subst ey1
      refine onlyN ?_
      exact ⟨⟨rfl, rfl, rfl, rfl, rfl, rfl, rfl, rfl, trivial⟩, rfl⟩
  rintro φ' _ ⟨hs1, rfl⟩
  refine thnN ?_
  refine W.sub hs1 ?_
  by_cases c2 : x3 = true
  · rw [if_pos c2] at hp
    refine W.condT rfl c2 ?_
    refine W.seq ?_
    refine W.region ?_
    refine RL.opD (by decide) (opv_assign rfl rfl) ?_
    refine RL.nil ?_
    refine thnN ?_
    refine W.ret ?_
    refine thnR ?_
    have er := Option.some.inj hp
    subst er
    exact Rt.one rfl rfl ⟨rfl, X_2, (Sep.nil _ _ _)⟩
  · rw [if_neg c2] at hp
    have c2 := eq_false_of_ne_true c2
    refine W.condF rfl c2 ?_
    refine W.skip ?_
    refine thnN ?_
    refine W.seq ?_
    refine W.region ?_
    refine RL.opD (by decide) (opv_assign rfl rfl) ?_
    refine RL.nil ?_
    refine thnN ?_
    refine W.seq ?_
    obtain ⟨x5, hx5, hp⟩ := Option.bind_eq_some_iff.1 hp
    refine W.region ?_
    refine RL.opD (by decide) (opv_move rfl rfl) ?_
    refine RL.opD (by decide) (opv_move rfl rfl) ?_
    have S_4 : Sep [] h0.size hp2 [ownO (kF .f32) 40 v2 x2.1] := Sep.sel S_2 [0] (by decide)
    have S_3 : Sep [v2.ownBlock] hp2.size hp2 [ownO (kF .f32) 40 v2 x2.1] := Sep.own S_4 _
    refine RL.op _ (by decide) (opv_call (cap := []) (laws_markFloat32S_ok _ h0.size (Nat.le_trans (Nat.le_refl _) (Mod.size X_2)) _ _ _ S_3 (Sep.ge (L := [ownO (kF .f32) 40 v2 x2.1]) S_4 (Nat.le_refl _) nob) _ hx5) rfl rfl ⟨rfl, rfl, trivial⟩ Try.func27 rfl rfl) ?_
    rintro _ hp3 ⟨rfl, MT_3, T_3⟩
    have S_5 : Sep [] h0.size hp2 ([ownO (kF .f32) 40 v2 x2.1] ++ [ownO (kF .f32) 40 v1 x1.1]) := Sep.sel S_2 [0, 1] (by decide)
    have X_3 : Mod [] h0 hp3 := Mod.step (A := [ownO (kF .f32) 40 v2 x2.1]) (L := [ownO (kF .f32) 40 v1 x1.1]) X_2 S_5 MT_3
    have S_6 : Sep [] h0.size hp3 [ownO (kF .f32) 40 v2 x5.2, ownO (kF .f32) 40 v1 x1.1] := Sep.step (A := [ownO (kF .f32) 40 v2 x2.1]) (L := [ownO (kF .f32) 40 v1 x1.1]) S_5 (Mod.size X_2) MT_3 T_3
    refine RL.opD (by decide) (opv_assign rfl rfl) ?_
    refine RL.nil ?_
    refine thnN ?_
    refine W.seq ?_
    refine W.region ?_
    refine RL.opD (by decide) (opv_assign rfl rfl) ?_
    refine RL.nil ?_
    refine thnN ?_
    refine W.seq ?_
    obtain ⟨x6, hx6, hp⟩ := Option.bind_eq_some_iff.1 hp
    refine W.region ?_
    refine RL.opD (by decide) (opv_move rfl rfl) ?_
    refine RL.opD (by decide) (opv_move rfl rfl) ?_
    refine RL.op _ (by decide) (opv_call (cap := []) (laws_heldFloat32S_ok _ _ _ (ownO.read (Sep.at (o := ownO (kF .f32) 40 v2 x5.2) S_6 0 rfl)) _ _ hx6) rfl rfl ⟨rfl, rfl, trivial⟩ Try.func28 rfl rfl) ?_
    rintro _ _ ⟨rfl, rfl⟩
    refine RL.opD (by decide) (opv_assign rfl rfl) ?_
    refine RL.nil ?_
    refine thnN ?_
    refine W.seq ?_
    refine W.seq ?_
    refine W.region ?_
    refine RL.opD (by decide) (opv_move rfl rfl) ?_
    refine RL.opD (by decide) (opv_icmp rfl rfl rfl rfl) ?_
    refine RL.nil ?_
    refine thnN ?_
    by_cases c3 : (decide (x6 < 0)) = true
    · rw [if_pos c3] at hp
      refine W.condT rfl c3 ?_
      refine W.seq ?_
      refine W.region ?_
      refine RL.opD (by decide) (opv_assign rfl rfl) ?_
      refine RL.nil ?_
      refine thnN ?_
      refine W.ret ?_
      refine thnR ?_
      have er := Option.some.inj hp
      subst er
      exact Rt.one rfl rfl ⟨rfl, X_3, (Sep.nil _ _ _)⟩
    · rw [if_neg c3] at hp
      have c3 := eq_false_of_ne_true c3
      refine W.condF rfl c3 ?_
      refine W.skip ?_
      refine thnN ?_
      refine W.seq ?_
      refine W.seq ?_
      refine W.region ?_
      refine RL.opD (by decide) (opv_move rfl rfl) ?_
      refine RL.opD (by decide) (opv_move rfl rfl) ?_
      refine RL.opD (by decide) (opv_icmp rfl rfl rfl rfl) ?_
      refine RL.nil ?_
      refine thnN ?_
      by_cases c4 : (x6 != x5.1) = true
      · rw [if_pos c4] at hp
        refine W.condT rfl c4 ?_
        refine W.seq ?_
        refine W.region ?_
        refine RL.opD (by decide) (opv_assign rfl rfl) ?_
        refine RL.nil ?_
        refine thnN ?_
        refine W.ret ?_
        refine thnR ?_
        have er := Option.some.inj hp
        subst er
        exact Rt.one rfl rfl ⟨rfl, X_3, (Sep.nil _ _ _)⟩
      · rw [if_neg c4] at hp
        have c4 := eq_false_of_ne_true c4
        refine W.condF rfl c4 ?_
        refine W.skip ?_
        refine thnN ?_
        refine W.seq ?_
        obtain ⟨x7, hx7, hp⟩ := Option.bind_eq_some_iff.1 hp
        refine W.region ?_
        refine RL.opD (by decide) (opv_move rfl rfl) ?_
        refine RL.opD (by decide) (opv_move rfl rfl) ?_
        refine RL.op _ (by decide) (opv_call (cap := []) (impl_WindowOf_ok _ _ _ _ hx7) rfl rfl ⟨rfl, rfl, trivial⟩ Try.func25 rfl rfl) ?_
        rintro _ hp4 ⟨v3, rfl, MT_4, T_4⟩
        have X_4 : Mod [] h0 hp4 := Mod.step (A := []) (L := [ownO (kF .f32) 40 v2 x5.2, ownO (kF .f32) 40 v1 x1.1]) X_3 S_6 MT_4
        have S_7 : Sep [] h0.size hp4 [ownO (kF .f32) 40 v3 x7.1, ownO (kF .f32) 40 v2 x5.2, ownO (kF .f32) 40 v1 x1.1] := Sep.step (A := []) (L := [ownO (kF .f32) 40 v2 x5.2, ownO (kF .f32) 40 v1 x1.1]) S_6 (Mod.size X_3) MT_4 T_4
        refine RL.opD (by decide) (opv_move rfl rfl) ?_
        refine RL.opD (by decide) (opv_extract rfl rfl rfl) ?_
        refine RL.opD (by decide) (opv_extract rfl rfl rfl) ?_
        refine RL.opD (by decide) (opv_assign rfl rfl) ?_
        refine RL.opD (by decide) (opv_assign rfl rfl) ?_
        refine RL.nil ?_
        refine thnN ?_
        refine W.seq ?_
        refine W.seq ?_
        obtain ⟨x8, hy2, hp⟩ := Option.bind_eq_some_iff.1 hp
        refine W.cut (fun φ' h' => Fr.sub [(0, (.int .i64 a0)), (1, (.int .i64 a1)), (4, (.bool false)), (5, v1), (6, (.bool x1.2)), (7, v2), (8, (.bool x2.2)), (33, (.bool x3)), (9, (.int .i64 x5.1)), (10, (.int .i64 x6)), (41, (.bool (decide (x6 < 0)))), (44, (.bool (x6 != x5.1))), (11, v3), (12, (.bool x7.2)), (59, (.bool x8))] φ' ∧ hp4 = h') ?_ ?_
        · obtain ⟨x9, hx9, hy2⟩ := Option.bind_eq_some_iff.1 hy2
          by_cases c5 : (!x9) = true
          · rw [if_pos c5] at hy2
            refine W.region ?_
            refine RL.opD (by decide) (opv_move rfl rfl) ?_
            refine RL.opD (by decide) (opv_move rfl rfl) ?_
            refine RL.op _ (by decide) (opv_call (cap := []) (laws_eqFloat32S_ok _ _ _ (ownO.read (Sep.at (o := ownO (kF .f32) 40 v3 x7.1) S_7 0 rfl)) _ _ (ownO.read (Sep.at (o := ownO (kF .f32) 40 v1 x1.1) S_7 2 rfl)) _ hx9) rfl rfl ⟨rfl, rfl, trivial⟩ Try.func26 rfl rfl) ?_
            rintro _ _ ⟨rfl, rfl⟩
            refine RL.opD (by decide) (opv_not rfl rfl) ?_
            refine RL.opD (by decide) (opv_move rfl rfl) ?_
            refine RL.no rfl rfl (Eq.trans c5 (by decide)) (by decide) ?_
            refine RL.no rfl rfl (Eq.trans c5 (by decide)) (by decide) ?_
            refine RL.no rfl rfl (Eq.trans c5 (by decide)) (by decide) ?_
            refine RL.opD (by decide) (opv_pick rfl rfl (fun _ => rfl) (fun e => absurd (Eq.trans (Eq.symm e) c5) (by decide)) rfl) ?_
            refine RL.nil ?_
            have ey2 := Option.some.inj hy2
            subst ey2
            refine onlyN ?_
            exact ⟨⟨rfl, rfl, rfl, rfl, rfl, rfl, rfl, rfl, rfl, rfl, rfl, rfl, rfl, rfl, rfl, trivial⟩, rfl⟩
          · rw [if_neg c5] at hy2
            have c5 := eq_false_of_ne_true c5
            refine W.region ?_
            refine RL.opD (by decide) (opv_move rfl rfl) ?_
            refine RL.opD (by decide) (opv_move rfl rfl) ?_
            refine RL.op _ (by decide) (opv_call (cap := []) (laws_eqFloat32S_ok _ _ _ (ownO.read (Sep.at (o := ownO (kF .f32) 40 v3 x7.1) S_7 0 rfl)) _ _ (ownO.read (Sep.at (o := ownO (kF .f32) 40 v1 x1.1) S_7 2 rfl)) _ hx9) rfl rfl ⟨rfl, rfl, trivial⟩ Try.func26 rfl rfl) ?_
            rintro _ _ ⟨rfl, rfl⟩
            refine RL.opD (by decide) (opv_not rfl rfl) ?_
            refine RL.opD (by decide) (opv_move rfl rfl) ?_
            refine RL.yes _ rfl rfl c5 (by decide) (opv_move rfl rfl) ?_
            rintro _ _ ⟨rfl, rfl⟩
            refine RL.yes _ rfl rfl c5 (by decide) (opv_move rfl rfl) ?_
            rintro _ _ ⟨rfl, rfl⟩
            refine RL.yes _ rfl rfl c5 (by decide) (opv_bcmp rfl rfl Try.underlying4 rfl rfl) ?_
            rintro _ _ ⟨rfl, rfl⟩
            refine RL.opD (by decide) (opv_pick rfl rfl (fun e => absurd (Eq.trans (Eq.symm e) c5) (by decide)) (fun _ => rfl) rfl) ?_
            refine RL.nil ?_
            have ey2 := Option.some.inj hy2
            subst ey2
            refine onlyN ?_
            exact ⟨⟨rfl, rfl, rfl, rfl, rfl, rfl, rfl, rfl, rfl, rfl, rfl, rfl, rfl, rfl, rfl, trivial⟩, rfl⟩
        rintro φ' _ ⟨hs2, rfl⟩
        refine thnN ?_
        refine W.sub hs2 ?_
        by_cases c6 : x8 = true
        · rw [if_pos c6] at hp
          refine W.condT rfl c6 ?_
          refine W.seq ?_
          refine W.region ?_
          refine RL.opD (by decide) (opv_assign rfl rfl) ?_
          refine RL.nil ?_
          refine thnN ?_
          refine W.ret ?_
          refine thnR ?_
          have er := Option.some.inj hp
          subst er
          exact Rt.one rfl rfl ⟨rfl, X_4, (Sep.nil _ _ _)⟩
        · rw [if_neg c6] at hp
          have c6 := eq_false_of_ne_true c6
          refine W.condF rfl c6 ?_
          refine W.skip ?_
          refine thnN ?_
          refine W.seq ?_
          refine W.region ?_
          refine RL.opD (by decide) (opv_assign rfl rfl) ?_
          refine RL.nil ?_
          refine thnN ?_
          refine W.seq ?_
          obtain ⟨x10, hx10, hp⟩ := Option.bind_eq_some_iff.1 hp
          refine W.region ?_
          refine RL.opD (by decide) (opv_move rfl rfl) ?_
          refine RL.opD (by decide) (opv_move rfl rfl) ?_
          refine RL.op _ (by decide) (opv_call (cap := []) (laws_heldFloat32S_ok _ _ _ (ownO.read (Sep.at (o := ownO (kF .f32) 40 v2 x5.2) S_7 1 rfl)) _ _ hx10) rfl rfl ⟨rfl, rfl, trivial⟩ Try.func28 rfl rfl) ?_
          rintro _ _ ⟨rfl, rfl⟩
          refine RL.opD (by decide) (opv_assign rfl rfl) ?_
          refine RL.nil ?_
          refine thnN ?_
          refine W.seq ?_
          refine W.seq ?_
          refine W.region ?_
          refine RL.opD (by decide) (opv_move rfl rfl) ?_
          refine RL.opD (by decide) (opv_icmp rfl rfl rfl rfl) ?_
          refine RL.nil ?_
          refine thnN ?_
          by_cases c7 : (decide (x10 < 0)) = true
          · rw [if_pos c7] at hp
            refine W.condT rfl c7 ?_
            refine W.seq ?_
            refine W.region ?_
            refine RL.opD (by decide) (opv_assign rfl rfl) ?_
            refine RL.nil ?_
            refine thnN ?_
            refine W.ret ?_
            refine thnR ?_
            have er := Option.some.inj hp
            subst er
            exact Rt.one rfl rfl ⟨rfl, X_4, (Sep.nil _ _ _)⟩
          · rw [if_neg c7] at hp
            have c7 := eq_false_of_ne_true c7
            refine W.condF rfl c7 ?_
            refine W.skip ?_
            refine thnN ?_
            refine W.seq ?_
            refine W.seq ?_
            refine W.region ?_
            refine RL.opD (by decide) (opv_move rfl rfl) ?_
            refine RL.opD (by decide) (opv_move rfl rfl) ?_
            refine RL.opD (by decide) (opv_icmp rfl rfl rfl rfl) ?_
            refine RL.nil ?_
            refine thnN ?_
            by_cases c8 : (x10 != x5.1) = true
            · rw [if_pos c8] at hp
              refine W.condT rfl c8 ?_
              refine W.seq ?_
              refine W.region ?_
              refine RL.opD (by decide) (opv_assign rfl rfl) ?_
              refine RL.nil ?_
              refine thnN ?_
              refine W.ret ?_
              refine thnR ?_
              have er := Option.some.inj hp
              subst er
              exact Rt.one rfl rfl ⟨rfl, X_4, (Sep.nil _ _ _)⟩
            · rw [if_neg c8] at hp
              have c8 := eq_false_of_ne_true c8
              refine W.condF rfl c8 ?_
              refine W.skip ?_
              refine thnN ?_
              refine W.seq ?_
              refine W.region ?_
              refine RL.opD (by decide) (opv_assign rfl rfl) ?_
              refine RL.nil ?_
              refine thnN ?_
              refine W.ret ?_
              have er := Option.some.inj hp
              subst er
              exact Rt.one rfl rfl ⟨rfl, X_4, (Sep.nil _ _ _)⟩

end Go.H
