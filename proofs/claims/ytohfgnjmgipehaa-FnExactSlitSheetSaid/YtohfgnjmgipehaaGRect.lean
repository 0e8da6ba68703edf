/- Functions of the program: what each computes, as a plain function, and that the call comes to it. Written by a program (wip/gen). -/
import Derived.Test.YtohfgnjmgipehaaPGrid
import Derived.Test.YtohfgnjmgipehaaBase17
import Derived.Test.YtohfgnjmgipehaaProg
import Derived.KernelRfl
set_option linter.unusedVariables false
namespace Go.H
open Go Go.Proofs



noncomputable def impl_IsRect (a0_0 : Int) (a0_1 : Int) (a0_2 : Bool) (a0_3 : List (Option Nat)) (a0_4 : List (Option Nat)) (a1_0 : Int) (a1_1 : Int) (a1_2 : Int) (a1_3 : Int) : Option Bool :=
  ((((impl_isValidCell a0_0 a0_1 a0_2 a0_3 a0_4 a1_0 a1_1).bind fun (x2 : Bool) => (if x2 = true then ((impl_within a1_2 1 (IntKind.wrap .i64 (a0_0 - a1_0))).bind fun (x3 : Bool) => (if x3 = true then ((impl_within a1_3 1 (IntKind.wrap .i64 (a0_1 - a1_1))).bind fun (x4 : Bool) => some x4) else some false)) else some false)) : Option Bool).bind fun (x1 : Bool) => some x1)

noncomputable def spec_l05Rect (a0_0 : Int) (a0_1 : Int) (a0_2 : Bool) (a0_3 : List (Option Nat)) (a0_4 : List (Option Nat)) (a1_0 : Int) (a1_1 : Int) (a1_2 : Int) (a1_3 : Int) : Option Bool :=
  ((((spec_l02Cell a0_0 a0_1 a0_2 a0_3 a0_4 a1_0 a1_1).bind fun (x2 : Bool) => (if x2 = true then ((spec_l00In a1_2 1 (IntKind.wrap .i64 (a0_0 - a1_0))).bind fun (x3 : Bool) => (if x3 = true then ((spec_l00In a1_3 1 (IntKind.wrap .i64 (a0_1 - a1_1))).bind fun (x4 : Bool) => some x4) else some false)) else some false)) : Option Bool).bind fun (x1 : Bool) => some x1)

noncomputable def spec_l05In (a0_0 : Int) (a0_1 : Int) (a0_2 : Int) (a0_3 : Int) (a1 : Int) (a2 : Int) : Option Bool :=
  ((((spec_l00In a1 a0_0 (IntKind.wrap .i64 ((IntKind.wrap .i64 (a0_0 + a0_2)) - 1))).bind fun (x2 : Bool) => (if x2 = true then ((spec_l00In a2 a0_1 (IntKind.wrap .i64 ((IntKind.wrap .i64 (a0_1 + a0_3)) - 1))).bind fun (x3 : Bool) => some x3) else some false)) : Option Bool).bind fun (x1 : Bool) => some x1)

noncomputable def spec_l05Depth (a0_0 : Int) (a0_1 : Int) (a0_2 : Bool) (a0_3 : List (Option Nat)) (a0_4 : List (Option Nat)) (a1 : Int) : Option Int :=
  (if a0_0 = 0 then none else (if a0_0 = 0 then none else ((spec_l00Min (Int.tmod a1 a0_0) (IntKind.wrap .i64 ((IntKind.wrap .i64 (a0_0 - 1)) - (Int.tmod a1 a0_0)))).bind fun (x1 : Int) => ((spec_l00Min (IntKind.wrap .i64 (Int.tdiv a1 a0_0)) (IntKind.wrap .i64 ((IntKind.wrap .i64 (a0_1 - 1)) - (IntKind.wrap .i64 (Int.tdiv a1 a0_0))))).bind fun (x2 : Int) => ((spec_l00Min x1 x2).bind fun (x3 : Int) => some x3)))))

noncomputable def spec_l05Share (a0 : Option Nat) (a1 : Option Nat) : Option Bool :=
  (((if (fcmp .geq .f32 a0 (some 0)) = true then some (fcmp .leq .f32 a0 a1) else some false) : Option Bool).bind fun (x1 : Bool) => some x1)

noncomputable def impl_isShare (a0 : Option Nat) : Option Bool :=
  (((if (fcmp .geq .f32 a0 (some 0)) = true then some (fcmp .leq .f32 a0 (some 1065353216)) else some false) : Option Bool).bind fun (x1 : Bool) => some x1)

noncomputable def impl_isWidth (a0 : Int) : Option Bool :=
  ((impl_within a0 1 16).bind fun (x1 : Bool) => some x1)

noncomputable def impl_Sheet_depth (a0_0 : Int) (a0_1 : Int) (a0_2 : Bool) (a0_3 : List (Option Nat)) (a0_4 : List (Option Nat)) (a1 : Int) (a2 : Int) : Option Int :=
  some (imin (imin (imin a1 a2) (IntKind.wrap .i64 ((IntKind.wrap .i64 (a0_0 - 1)) - a1))) (IntKind.wrap .i64 ((IntKind.wrap .i64 (a0_1 - 1)) - a2)))

noncomputable def impl_Rect_has (a0_0 : Int) (a0_1 : Int) (a0_2 : Int) (a0_3 : Int) (a1 : Int) (a2 : Int) : Option Bool :=
  ((((impl_within a1 a0_0 (IntKind.wrap .i64 ((IntKind.wrap .i64 (a0_0 + a0_2)) - 1))).bind fun (x2 : Bool) => (if x2 = true then ((impl_within a2 a0_1 (IntKind.wrap .i64 ((IntKind.wrap .i64 (a0_1 + a0_3)) - 1))).bind fun (x3 : Bool) => some x3) else some false)) : Option Bool).bind fun (x1 : Bool) => some x1)

noncomputable def impl_copySheet (a0_0 : Int) (a0_1 : Int) (a0_2 : Bool) (a0_3 : List (Option Nat)) (a0_4 : List (Option Nat)) : Option (Int × Int × Bool × (List (Option Nat)) × (List (Option Nat))) :=
  ((impl_copyOf a0_3).bind fun (x1 : List (Option Nat)) => ((impl_copyOf a0_4).bind fun (x2 : List (Option Nat)) => some (a0_0, a0_1, a0_2, x1, x2)))

noncomputable def spec_l05Own (a0_0 : Int) (a0_1 : Int) (a0_2 : Bool) (a0_3 : List (Option Nat)) (a0_4 : List (Option Nat)) : Option (Int × Int × Bool × (List (Option Nat)) × (List (Option Nat))) :=
  (if ([] : List (Option Nat)).length + a0_3.length ≤ 1000000000 then (if ([] : List (Option Nat)).length + a0_4.length ≤ 1000000000 then some (a0_0, a0_1, a0_2, ([] : List (Option Nat)) ++ a0_3, ([] : List (Option Nat)) ++ a0_4) else none) else none)

set_option maxRecDepth 20000 in
theorem impl_IsRect_ok (h0 : Heap) (a0_0 : Int) (a0_1 : Int) (a0_2 : Bool) (u0_3 : Value) (a0_3 : List (Option Nat)) (g0_3 : SL (kF .f32) h0.size h0 u0_3 a0_3) (u0_4 : Value) (a0_4 : List (Option Nat)) (g0_4 : SL (kF .f32) h0.size h0 u0_4 a0_4) (a1_0 : Int) (a1_1 : Int) (a1_2 : Int) (a1_3 : Int) (r : Bool) (hp : impl_IsRect a0_0 a0_1 a0_2 a0_3 a0_4 a1_0 a1_1 a1_2 a1_3 = some r) : CallsH Try.prog 108 ([(.agg (List.toArray (α := Value) [(.int .i64 a0_0), (.int .i64 a0_1), (.bool a0_2), u0_3, u0_4])), (.agg (List.toArray (α := Value) [(.int .i64 a1_0), (.int .i64 a1_1), (.int .i64 a1_2), (.int .i64 a1_3)]))].toArray ++ [].toArray) h0 (fun v h' => v = (.bool r) ∧ Mod [] h0 h' ∧ Sep [] h0.size h' []) := by
  unfold impl_IsRect at hp
  refine callsH_of_W (l := [(.agg (List.toArray (α := Value) [(.int .i64 a0_0), (.int .i64 a0_1), (.bool a0_2), u0_3, u0_4])), (.agg (List.toArray (α := Value) [(.int .i64 a1_0), (.int .i64 a1_1), (.int .i64 a1_2), (.int .i64 a1_3)]))]) (cap := []) 31 Try.func108 rfl rfl rfl ?_
  refine W.seq ?_
  refine W.region ?_
  refine RL.op _ (by decide) (opS_boxed (opv_boxA (cs := [(.int .i64 a0_0), (.int .i64 a0_1), (.bool a0_2), u0_3, u0_4]) rfl rfl)) ?_
  rintro _ hp1 ⟨bb1, rfl, MT_1, T_1⟩
  have X_1 : Mod [] h0 hp1 := Mod.step (A := []) (L := []) (Mod.refl [] h0) (Sep.nil [] h0.size h0) MT_1
  have S_1 : Sep [] h0.size hp1 [boxO bb1 [(.int .i64 a0_0), (.int .i64 a0_1), (.bool a0_2), u0_3, u0_4]] := Sep.step (A := []) (L := []) (Sep.nil [] h0.size h0) (Mod.size (Mod.refl [] h0)) MT_1 T_1
  refine RL.op _ (by decide) (opS_boxed (opv_boxA (cs := [(.int .i64 a1_0), (.int .i64 a1_1), (.int .i64 a1_2), (.int .i64 a1_3)]) rfl rfl)) ?_
  rintro _ hp2 ⟨bb2, rfl, MT_2, T_2⟩
  have X_2 : Mod [] h0 hp2 := Mod.step (A := []) (L := [boxO bb1 [(.int .i64 a0_0), (.int .i64 a0_1), (.bool a0_2), u0_3, u0_4]]) X_1 S_1 MT_2
  have S_2 : Sep [] h0.size hp2 [boxO bb2 [(.int .i64 a1_0), (.int .i64 a1_1), (.int .i64 a1_2), (.int .i64 a1_3)], boxO bb1 [(.int .i64 a0_0), (.int .i64 a0_1), (.bool a0_2), u0_3, u0_4]] := Sep.step (A := []) (L := [boxO bb1 [(.int .i64 a0_0), (.int .i64 a0_1), (.bool a0_2), u0_3, u0_4]]) S_1 (Mod.size X_1) MT_2 T_2
  refine RL.opD (by decide) (opv_assign rfl rfl) ?_
  refine RL.nil ?_
  refine thnN ?_
  refine W.seq ?_
  obtain ⟨x1, hy1, hp⟩ := Option.bind_eq_some_iff.1 hp
  refine W.cut (fun φ' h' => Fr.sub [(0, (.agg (List.toArray (α := Value) [(.int .i64 a0_0), (.int .i64 a0_1), (.bool a0_2), u0_3, u0_4]))), (1, (.agg (List.toArray (α := Value) [(.int .i64 a1_0), (.int .i64 a1_1), (.int .i64 a1_2), (.int .i64 a1_3)]))), (2, (.pointer (some ⟨bb1, 0, none⟩))), (3, (.pointer (some ⟨bb2, 0, none⟩))), (4, (.bool x1))] φ' ∧ Mod [] h0 h' ∧ Sep [] h0.size h' [boxO bb2 [(.int .i64 a1_0), (.int .i64 a1_1), (.int .i64 a1_2), (.int .i64 a1_3)], boxO bb1 [(.int .i64 a0_0), (.int .i64 a0_1), (.bool a0_2), u0_3, u0_4]]) ?_ ?_
  · obtain ⟨x2, hx2, hy1⟩ := Option.bind_eq_some_iff.1 hy1
    by_cases c1 : x2 = true
    · rw [if_pos c1] at hy1
      obtain ⟨x3, hx3, hy1⟩ := Option.bind_eq_some_iff.1 hy1
      by_cases c2 : x3 = true
      · rw [if_pos c2] at hy1
        obtain ⟨x4, hx4, hy1⟩ := Option.bind_eq_some_iff.1 hy1
        refine W.region ?_
        refine RL.opD (by decide) (opv_loadA (us := [(.int .i64 a0_0), (.int .i64 a0_1), (.bool a0_2), u0_3, u0_4]) rfl Try.agg29 Try.size29 rfl (Sep.at (o := boxO bb1 [(.int .i64 a0_0), (.int .i64 a0_1), (.bool a0_2), u0_3, u0_4]) S_2 1 rfl) rfl rfl) ?_
        refine RL.opD (by decide) (opv_fieldAddr rfl Try.fo79_0 rfl) ?_
        refine RL.opD (by decide) (opv_loadB rfl Try.one2 rfl (Sep.at (o := boxO bb2 [(.int .i64 a1_0), (.int .i64 a1_1), (.int .i64 a1_2), (.int .i64 a1_3)]) S_2 0 rfl) rfl) ?_
        refine RL.opD (by decide) (opv_fieldAddr rfl Try.fo79_1 rfl) ?_
        refine RL.opD (by decide) (opv_loadB rfl Try.one2 rfl (Sep.at (o := boxO bb2 [(.int .i64 a1_0), (.int .i64 a1_1), (.int .i64 a1_2), (.int .i64 a1_3)]) S_2 0 rfl) rfl) ?_
        refine RL.op _ (by decide) (opv_call (cap := []) (impl_isValidCell_ok _ _ _ _ _ _ (SL.up (SL.mod g0_3 X_2 (Nat.le_refl _) nob) (Nat.le_trans (Nat.le_refl _) (Mod.size X_2))) _ _ (SL.up (SL.mod g0_4 X_2 (Nat.le_refl _) nob) (Nat.le_trans (Nat.le_refl _) (Mod.size X_2))) _ _ _ hx2) rfl rfl ⟨rfl, rfl, rfl, trivial⟩ Try.func118 rfl rfl) ?_
        rintro _ hp3 ⟨rfl, MT_3, T_3⟩
        have X_3 : Mod [] h0 hp3 := Mod.step (A := []) (L := [boxO bb2 [(.int .i64 a1_0), (.int .i64 a1_1), (.int .i64 a1_2), (.int .i64 a1_3)], boxO bb1 [(.int .i64 a0_0), (.int .i64 a0_1), (.bool a0_2), u0_3, u0_4]]) X_2 S_2 MT_3
        have S_3 : Sep [] h0.size hp3 [boxO bb2 [(.int .i64 a1_0), (.int .i64 a1_1), (.int .i64 a1_2), (.int .i64 a1_3)], boxO bb1 [(.int .i64 a0_0), (.int .i64 a0_1), (.bool a0_2), u0_3, u0_4]] := Sep.step (A := []) (L := [boxO bb2 [(.int .i64 a1_0), (.int .i64 a1_1), (.int .i64 a1_2), (.int .i64 a1_3)], boxO bb1 [(.int .i64 a0_0), (.int .i64 a0_1), (.bool a0_2), u0_3, u0_4]]) S_2 (Mod.size X_2) MT_3 T_3
        refine RL.opD (by decide) (opv_move rfl rfl) ?_
        refine RL.yes _ rfl rfl c1 (by decide) (opv_fieldAddr rfl Try.fo79_2 rfl) ?_
        rintro _ _ ⟨rfl, rfl⟩
        refine RL.yes _ rfl rfl c1 (by decide) (opv_loadB rfl Try.one2 rfl (Sep.at (o := boxO bb2 [(.int .i64 a1_0), (.int .i64 a1_1), (.int .i64 a1_2), (.int .i64 a1_3)]) S_3 0 rfl) rfl) ?_
        rintro _ _ ⟨rfl, rfl⟩
        refine RL.yes _ rfl rfl c1 (by decide) (opv_fieldAddr rfl Try.fo29_0 rfl) ?_
        rintro _ _ ⟨rfl, rfl⟩
        refine RL.yes _ rfl rfl c1 (by decide) (opv_loadB rfl Try.one2 rfl (Sep.at (o := boxO bb1 [(.int .i64 a0_0), (.int .i64 a0_1), (.bool a0_2), u0_3, u0_4]) S_3 1 rfl) rfl) ?_
        rintro _ _ ⟨rfl, rfl⟩
        refine RL.yes _ rfl rfl c1 (by decide) (opv_fieldAddr rfl Try.fo79_0 rfl) ?_
        rintro _ _ ⟨rfl, rfl⟩
        refine RL.yes _ rfl rfl c1 (by decide) (opv_loadB rfl Try.one2 rfl (Sep.at (o := boxO bb2 [(.int .i64 a1_0), (.int .i64 a1_1), (.int .i64 a1_2), (.int .i64 a1_3)]) S_3 0 rfl) rfl) ?_
        rintro _ _ ⟨rfl, rfl⟩
        refine RL.yes _ rfl rfl c1 (by decide) (opv_sub rfl rfl rfl) ?_
        rintro _ _ ⟨rfl, rfl⟩
        refine RL.yes _ rfl rfl c1 (by decide) (opv_call (cap := []) (impl_within_ok _ _ _ _ _ hx3) rfl rfl ⟨rfl, rfl, rfl, trivial⟩ Try.func77 rfl rfl) ?_
        rintro _ _ ⟨rfl, rfl⟩
        refine RL.opD (by decide) (opv_pick rfl rfl (fun _ => rfl) (fun e => absurd (Eq.trans (Eq.symm e) c1) (by decide)) rfl) ?_
        refine RL.opD (by decide) (opv_move rfl rfl) ?_
        refine RL.yes _ rfl rfl c2 (by decide) (opv_fieldAddr rfl Try.fo79_3 rfl) ?_
        rintro _ _ ⟨rfl, rfl⟩
        refine RL.yes _ rfl rfl c2 (by decide) (opv_loadB rfl Try.one2 rfl (Sep.at (o := boxO bb2 [(.int .i64 a1_0), (.int .i64 a1_1), (.int .i64 a1_2), (.int .i64 a1_3)]) S_3 0 rfl) rfl) ?_
        rintro _ _ ⟨rfl, rfl⟩
        refine RL.yes _ rfl rfl c2 (by decide) (opv_fieldAddr rfl Try.fo29_1 rfl) ?_
        rintro _ _ ⟨rfl, rfl⟩
        refine RL.yes _ rfl rfl c2 (by decide) (opv_loadB rfl Try.one2 rfl (Sep.at (o := boxO bb1 [(.int .i64 a0_0), (.int .i64 a0_1), (.bool a0_2), u0_3, u0_4]) S_3 1 rfl) rfl) ?_
        rintro _ _ ⟨rfl, rfl⟩
        refine RL.yes _ rfl rfl c2 (by decide) (opv_fieldAddr rfl Try.fo79_1 rfl) ?_
        rintro _ _ ⟨rfl, rfl⟩
        refine RL.yes _ rfl rfl c2 (by decide) (opv_loadB rfl Try.one2 rfl (Sep.at (o := boxO bb2 [(.int .i64 a1_0), (.int .i64 a1_1), (.int .i64 a1_2), (.int .i64 a1_3)]) S_3 0 rfl) rfl) ?_
        rintro _ _ ⟨rfl, rfl⟩
        refine RL.yes _ rfl rfl c2 (by decide) (opv_sub rfl rfl rfl) ?_
        rintro _ _ ⟨rfl, rfl⟩
        refine RL.yes _ rfl rfl c2 (by decide) (opv_call (cap := []) (impl_within_ok _ _ _ _ _ hx4) rfl rfl ⟨rfl, rfl, rfl, trivial⟩ Try.func77 rfl rfl) ?_
        rintro _ _ ⟨rfl, rfl⟩
        refine RL.opD (by decide) (opv_pick rfl rfl (fun _ => rfl) (fun e => absurd (Eq.trans (Eq.symm e) c2) (by decide)) rfl) ?_
        refine RL.opD (by decide) (opv_assign rfl rfl) ?_
        refine RL.nil ?_
        have ey1 := Option.some.inj hy1
        subst ey1
        refine onlyN ?_
        exact ⟨⟨rfl, rfl, rfl, rfl, rfl, trivial⟩, X_3, (Sep.sel S_3 [0, 1] (by decide))⟩
      · rw [if_neg c2] at hy1
        have c2 := eq_false_of_ne_true c2
        refine W.region ?_
        refine RL.opD (by decide) (opv_loadA (us := [(.int .i64 a0_0), (.int .i64 a0_1), (.bool a0_2), u0_3, u0_4]) rfl Try.agg29 Try.size29 rfl (Sep.at (o := boxO bb1 [(.int .i64 a0_0), (.int .i64 a0_1), (.bool a0_2), u0_3, u0_4]) S_2 1 rfl) rfl rfl) ?_
        refine RL.opD (by decide) (opv_fieldAddr rfl Try.fo79_0 rfl) ?_
        refine RL.opD (by decide) (opv_loadB rfl Try.one2 rfl (Sep.at (o := boxO bb2 [(.int .i64 a1_0), (.int .i64 a1_1), (.int .i64 a1_2), (.int .i64 a1_3)]) S_2 0 rfl) rfl) ?_
        refine RL.opD (by decide) (opv_fieldAddr rfl Try.fo79_1 rfl) ?_
        refine RL.opD (by decide) (opv_loadB rfl Try.one2 rfl (Sep.at (o := boxO bb2 [(.int .i64 a1_0), (.int .i64 a1_1), (.int .i64 a1_2), (.int .i64 a1_3)]) S_2 0 rfl) rfl) ?_
        refine RL.op _ (by decide) (opv_call (cap := []) (impl_isValidCell_ok _ _ _ _ _ _ (SL.up (SL.mod g0_3 X_2 (Nat.le_refl _) nob) (Nat.le_trans (Nat.le_refl _) (Mod.size X_2))) _ _ (SL.up (SL.mod g0_4 X_2 (Nat.le_refl _) nob) (Nat.le_trans (Nat.le_refl _) (Mod.size X_2))) _ _ _ hx2) rfl rfl ⟨rfl, rfl, rfl, trivial⟩ Try.func118 rfl rfl) ?_
        rintro _ hp3 ⟨rfl, MT_3, T_3⟩
        have X_3 : Mod [] h0 hp3 := Mod.step (A := []) (L := [boxO bb2 [(.int .i64 a1_0), (.int .i64 a1_1), (.int .i64 a1_2), (.int .i64 a1_3)], boxO bb1 [(.int .i64 a0_0), (.int .i64 a0_1), (.bool a0_2), u0_3, u0_4]]) X_2 S_2 MT_3
        have S_3 : Sep [] h0.size hp3 [boxO bb2 [(.int .i64 a1_0), (.int .i64 a1_1), (.int .i64 a1_2), (.int .i64 a1_3)], boxO bb1 [(.int .i64 a0_0), (.int .i64 a0_1), (.bool a0_2), u0_3, u0_4]] := Sep.step (A := []) (L := [boxO bb2 [(.int .i64 a1_0), (.int .i64 a1_1), (.int .i64 a1_2), (.int .i64 a1_3)], boxO bb1 [(.int .i64 a0_0), (.int .i64 a0_1), (.bool a0_2), u0_3, u0_4]]) S_2 (Mod.size X_2) MT_3 T_3
        refine RL.opD (by decide) (opv_move rfl rfl) ?_
        refine RL.yes _ rfl rfl c1 (by decide) (opv_fieldAddr rfl Try.fo79_2 rfl) ?_
        rintro _ _ ⟨rfl, rfl⟩
        refine RL.yes _ rfl rfl c1 (by decide) (opv_loadB rfl Try.one2 rfl (Sep.at (o := boxO bb2 [(.int .i64 a1_0), (.int .i64 a1_1), (.int .i64 a1_2), (.int .i64 a1_3)]) S_3 0 rfl) rfl) ?_
        rintro _ _ ⟨rfl, rfl⟩
        refine RL.yes _ rfl rfl c1 (by decide) (opv_fieldAddr rfl Try.fo29_0 rfl) ?_
        rintro _ _ ⟨rfl, rfl⟩
        refine RL.yes _ rfl rfl c1 (by decide) (opv_loadB rfl Try.one2 rfl (Sep.at (o := boxO bb1 [(.int .i64 a0_0), (.int .i64 a0_1), (.bool a0_2), u0_3, u0_4]) S_3 1 rfl) rfl) ?_
        rintro _ _ ⟨rfl, rfl⟩
        refine RL.yes _ rfl rfl c1 (by decide) (opv_fieldAddr rfl Try.fo79_0 rfl) ?_
        rintro _ _ ⟨rfl, rfl⟩
        refine RL.yes _ rfl rfl c1 (by decide) (opv_loadB rfl Try.one2 rfl (Sep.at (o := boxO bb2 [(.int .i64 a1_0), (.int .i64 a1_1), (.int .i64 a1_2), (.int .i64 a1_3)]) S_3 0 rfl) rfl) ?_
        rintro _ _ ⟨rfl, rfl⟩
        refine RL.yes _ rfl rfl c1 (by decide) (opv_sub rfl rfl rfl) ?_
        rintro _ _ ⟨rfl, rfl⟩
        refine RL.yes _ rfl rfl c1 (by decide) (opv_call (cap := []) (impl_within_ok _ _ _ _ _ hx3) rfl rfl ⟨rfl, rfl, rfl, trivial⟩ Try.func77 rfl rfl) ?_
        rintro _ _ ⟨rfl, rfl⟩
        refine RL.opD (by decide) (opv_pick rfl rfl (fun _ => rfl) (fun e => absurd (Eq.trans (Eq.symm e) c1) (by decide)) rfl) ?_
        refine RL.opD (by decide) (opv_move rfl rfl) ?_
        refine RL.no rfl rfl (Eq.trans c2 (by decide)) (by decide) ?_
        refine RL.no rfl rfl (Eq.trans c2 (by decide)) (by decide) ?_
        refine RL.no rfl rfl (Eq.trans c2 (by decide)) (by decide) ?_
        refine RL.no rfl rfl (Eq.trans c2 (by decide)) (by decide) ?_
        refine RL.no rfl rfl (Eq.trans c2 (by decide)) (by decide) ?_
        refine RL.no rfl rfl (Eq.trans c2 (by decide)) (by decide) ?_
        refine RL.no rfl rfl (Eq.trans c2 (by decide)) (by decide) ?_
        refine RL.no rfl rfl (Eq.trans c2 (by decide)) (by decide) ?_
        refine RL.opD (by decide) (opv_pick rfl rfl (fun e => absurd (Eq.trans (Eq.symm e) c2) (by decide)) (fun _ => rfl) rfl) ?_
        refine RL.opD (by decide) (opv_assign rfl rfl) ?_
        refine RL.nil ?_
        have ey1 := Option.some.inj hy1
        subst ey1
        refine onlyN ?_
        exact ⟨⟨rfl, rfl, rfl, rfl, rfl, trivial⟩, X_3, (Sep.sel S_3 [0, 1] (by decide))⟩
    · rw [if_neg c1] at hy1
      have c1 := eq_false_of_ne_true c1
      refine W.region ?_
      refine RL.opD (by decide) (opv_loadA (us := [(.int .i64 a0_0), (.int .i64 a0_1), (.bool a0_2), u0_3, u0_4]) rfl Try.agg29 Try.size29 rfl (Sep.at (o := boxO bb1 [(.int .i64 a0_0), (.int .i64 a0_1), (.bool a0_2), u0_3, u0_4]) S_2 1 rfl) rfl rfl) ?_
      refine RL.opD (by decide) (opv_fieldAddr rfl Try.fo79_0 rfl) ?_
      refine RL.opD (by decide) (opv_loadB rfl Try.one2 rfl (Sep.at (o := boxO bb2 [(.int .i64 a1_0), (.int .i64 a1_1), (.int .i64 a1_2), (.int .i64 a1_3)]) S_2 0 rfl) rfl) ?_
      refine RL.opD (by decide) (opv_fieldAddr rfl Try.fo79_1 rfl) ?_
      refine RL.opD (by decide) (opv_loadB rfl Try.one2 rfl (Sep.at (o := boxO bb2 [(.int .i64 a1_0), (.int .i64 a1_1), (.int .i64 a1_2), (.int .i64 a1_3)]) S_2 0 rfl) rfl) ?_
      refine RL.op _ (by decide) (opv_call (cap := []) (impl_isValidCell_ok _ _ _ _ _ _ (SL.up (SL.mod g0_3 X_2 (Nat.le_refl _) nob) (Nat.le_trans (Nat.le_refl _) (Mod.size X_2))) _ _ (SL.up (SL.mod g0_4 X_2 (Nat.le_refl _) nob) (Nat.le_trans (Nat.le_refl _) (Mod.size X_2))) _ _ _ hx2) rfl rfl ⟨rfl, rfl, rfl, trivial⟩ Try.func118 rfl rfl) ?_
      rintro _ hp3 ⟨rfl, MT_3, T_3⟩
      have X_3 : Mod [] h0 hp3 := Mod.step (A := []) (L := [boxO bb2 [(.int .i64 a1_0), (.int .i64 a1_1), (.int .i64 a1_2), (.int .i64 a1_3)], boxO bb1 [(.int .i64 a0_0), (.int .i64 a0_1), (.bool a0_2), u0_3, u0_4]]) X_2 S_2 MT_3
      have S_3 : Sep [] h0.size hp3 [boxO bb2 [(.int .i64 a1_0), (.int .i64 a1_1), (.int .i64 a1_2), (.int .i64 a1_3)], boxO bb1 [(.int .i64 a0_0), (.int .i64 a0_1), (.bool a0_2), u0_3, u0_4]] := Sep.step (A := []) (L := [boxO bb2 [(.int .i64 a1_0), (.int .i64 a1_1), (.int .i64 a1_2), (.int .i64 a1_3)], boxO bb1 [(.int .i64 a0_0), (.int .i64 a0_1), (.bool a0_2), u0_3, u0_4]]) S_2 (Mod.size X_2) MT_3 T_3
      refine RL.opD (by decide) (opv_move rfl rfl) ?_
      refine RL.no rfl rfl (Eq.trans c1 (by decide)) (by decide) ?_
      refine RL.no rfl rfl (Eq.trans c1 (by decide)) (by decide) ?_
      refine RL.no rfl rfl (Eq.trans c1 (by decide)) (by decide) ?_
      refine RL.no rfl rfl (Eq.trans c1 (by decide)) (by decide) ?_
      refine RL.no rfl rfl (Eq.trans c1 (by decide)) (by decide) ?_
      refine RL.no rfl rfl (Eq.trans c1 (by decide)) (by decide) ?_
      refine RL.no rfl rfl (Eq.trans c1 (by decide)) (by decide) ?_
      refine RL.no rfl rfl (Eq.trans c1 (by decide)) (by decide) ?_
      refine RL.opD (by decide) (opv_pick rfl rfl (fun e => absurd (Eq.trans (Eq.symm e) c1) (by decide)) (fun _ => rfl) rfl) ?_
      refine RL.opD (by decide) (opv_move rfl rfl) ?_
      refine RL.no rfl rfl (Eq.trans rfl (by decide)) (by decide) ?_
      refine RL.no rfl rfl (Eq.trans rfl (by decide)) (by decide) ?_
      refine RL.no rfl rfl (Eq.trans rfl (by decide)) (by decide) ?_
      refine RL.no rfl rfl (Eq.trans rfl (by decide)) (by decide) ?_
      refine RL.no rfl rfl (Eq.trans rfl (by decide)) (by decide) ?_
      refine RL.no rfl rfl (Eq.trans rfl (by decide)) (by decide) ?_
      refine RL.no rfl rfl (Eq.trans rfl (by decide)) (by decide) ?_
      refine RL.no rfl rfl (Eq.trans rfl (by decide)) (by decide) ?_
      refine RL.opD (by decide) (opv_pick rfl rfl (fun e => absurd (Eq.trans (Eq.symm e) rfl) (by decide)) (fun _ => rfl) rfl) ?_
      refine RL.opD (by decide) (opv_assign rfl rfl) ?_
      refine RL.nil ?_
      have ey1 := Option.some.inj hy1
      subst ey1
      refine onlyN ?_
      exact ⟨⟨rfl, rfl, rfl, rfl, rfl, trivial⟩, X_3, (Sep.sel S_3 [0, 1] (by decide))⟩
  rintro φ' hp4 ⟨hs1, X_4, S_4⟩
  refine thnN ?_
  refine W.sub hs1 ?_
  refine W.ret ?_
  have er := Option.some.inj hp
  subst er
  exact Rt.one rfl rfl ⟨rfl, X_4, (Sep.nil _ _ _)⟩

set_option maxRecDepth 20000 in
theorem spec_l05Rect_ok (h0 : Heap) (b0 : Nat) (a0_0 : Int) (a0_1 : Int) (a0_2 : Bool) (u0_3 : Value) (a0_3 : List (Option Nat)) (g0_3 : SL (kF .f32) h0.size h0 u0_3 a0_3) (u0_4 : Value) (a0_4 : List (Option Nat)) (g0_4 : SL (kF .f32) h0.size h0 u0_4 a0_4) (G0 : Bx h0 b0 [(.int .i64 a0_0), (.int .i64 a0_1), (.bool a0_2), u0_3, u0_4]) (b1 : Nat) (a1_0 : Int) (a1_1 : Int) (a1_2 : Int) (a1_3 : Int) (G1 : Bx h0 b1 [(.int .i64 a1_0), (.int .i64 a1_1), (.int .i64 a1_2), (.int .i64 a1_3)]) (r : Bool) (hp : spec_l05Rect a0_0 a0_1 a0_2 a0_3 a0_4 a1_0 a1_1 a1_2 a1_3 = some r) : CallsH Try.prog 105 ([(.pointer (some ⟨b0, 0, none⟩)), (.pointer (some ⟨b1, 0, none⟩))].toArray ++ [].toArray) h0 (fun v h' => v = (.bool r) ∧ h0 = h') := by
  unfold spec_l05Rect at hp
  refine callsH_of_W (l := [(.pointer (some ⟨b0, 0, none⟩)), (.pointer (some ⟨b1, 0, none⟩))]) (cap := []) 47 Try.func105 rfl rfl rfl ?_
  refine W.seq ?_
  refine W.region ?_
  refine RL.opD (by decide) (opv_assign rfl rfl) ?_
  refine RL.nil ?_
  refine thnN ?_
  refine W.seq ?_
  obtain ⟨x1, hy1, hp⟩ := Option.bind_eq_some_iff.1 hp
  refine W.cut (fun φ' h' => Fr.sub [(0, (.pointer (some ⟨b0, 0, none⟩))), (1, (.pointer (some ⟨b1, 0, none⟩))), (4, (.bool x1))] φ' ∧ h0 = h') ?_ ?_
  · obtain ⟨x2, hx2, hy1⟩ := Option.bind_eq_some_iff.1 hy1
    by_cases c1 : x2 = true
    · rw [if_pos c1] at hy1
      obtain ⟨x3, hx3, hy1⟩ := Option.bind_eq_some_iff.1 hy1
      by_cases c2 : x3 = true
      · rw [if_pos c2] at hy1
        obtain ⟨x4, hx4, hy1⟩ := Option.bind_eq_some_iff.1 hy1
        refine W.sub (ψ := [(0, (.pointer (some ⟨b0, 0, none⟩))), (1, (.pointer (some ⟨b1, 0, none⟩)))]) ⟨rfl, rfl, trivial⟩ ?_
        refine W.regionP [fun v _ => @Eq Value (.pointer (some ⟨b0, 0, none⟩)) v, fun v _ => @Eq Value (.pointer (some ⟨b1, 0, none⟩)) v, fun v _ => @Eq Value (.pointer (some ⟨b1, 0, none⟩)) v, fun v _ => @Eq Value (.pointer (some ⟨b1, 0, none⟩)) v, fun v _ => @Eq Value (.int .i64 a1_0) v, fun v _ => @Eq Value (.pointer (some ⟨b1, 0, none⟩)) v, fun v _ => @Eq Value (.pointer (some ⟨b1, 0, none⟩)) v, fun v _ => @Eq Value (.pointer (some ⟨b1, 1, none⟩)) v, fun v _ => @Eq Value (.int .i64 a1_1) v, fun v _ => @Eq Value (.bool x2) v, fun v _ => @Eq Value (.bool x2) v, fun v _ => @Eq Value (.pointer (some ⟨b1, 0, none⟩)) v, fun v _ => @Eq Value (.pointer (some ⟨b1, 0, none⟩)) v, fun v _ => @Eq Value (.pointer (some ⟨b1, 2, none⟩)) v, fun v _ => @Eq Value (.int .i64 a1_2) v, fun v _ => @Eq Value (.pointer (some ⟨b0, 0, none⟩)) v, fun v _ => @Eq Value (.pointer (some ⟨b0, 0, none⟩)) v, fun v _ => @Eq Value (.pointer (some ⟨b0, 0, none⟩)) v, fun v _ => @Eq Value (.int .i64 a0_0) v, fun v _ => @Eq Value (.pointer (some ⟨b1, 0, none⟩)) v, fun v _ => @Eq Value (.pointer (some ⟨b1, 0, none⟩)) v, fun v _ => @Eq Value (.pointer (some ⟨b1, 0, none⟩)) v, fun v _ => @Eq Value (.int .i64 a1_0) v, fun v _ => @Eq Value (.int .i64 (IntKind.wrap .i64 (a0_0 - a1_0))) v, fun v _ => @Eq Value (.bool x3) v, fun v _ => @Eq Value (.bool x3) v, fun v _ => @Eq Value (.bool x3) v, fun v _ => @Eq Value (.pointer (some ⟨b1, 0, none⟩)) v, fun v _ => @Eq Value (.pointer (some ⟨b1, 0, none⟩)) v, fun v _ => @Eq Value (.pointer (some ⟨b1, 3, none⟩)) v, fun v _ => @Eq Value (.int .i64 a1_3) v, fun v _ => @Eq Value (.pointer (some ⟨b0, 0, none⟩)) v, fun v _ => @Eq Value (.pointer (some ⟨b0, 0, none⟩)) v, fun v _ => @Eq Value (.pointer (some ⟨b0, 1, none⟩)) v, fun v _ => @Eq Value (.int .i64 a0_1) v, fun v _ => @Eq Value (.pointer (some ⟨b1, 0, none⟩)) v, fun v _ => @Eq Value (.pointer (some ⟨b1, 0, none⟩)) v, fun v _ => @Eq Value (.pointer (some ⟨b1, 1, none⟩)) v, fun v _ => @Eq Value (.int .i64 a1_1) v, fun v _ => @Eq Value (.int .i64 (IntKind.wrap .i64 (a0_1 - a1_1))) v, fun v _ => @Eq Value (.bool x4) v, fun v _ => @Eq Value (.bool x4) v, fun v _ => @Eq Value (.bool x4) v] [[], [], [1], [2], [3], [], [5], [6], [7], [0, 4, 8], [9], [10], [11, 10], [12, 10], [13, 10], [10], [15, 10], [16, 10], [17, 10], [10], [19, 10], [20, 10], [21, 10], [18, 22, 10], [14, 23, 10], [10, 24], [25], [26], [27, 26], [28, 26], [29, 26], [26], [31, 26], [32, 26], [33, 26], [26], [35, 26], [36, 26], [37, 26], [34, 38, 26], [30, 39, 26], [26, 40], [41]] [42] Try.mixed (by decide +kernel) (by decide +kernel) rfl rfl rfl ?_ ?_
        · refine ⟨⟨rfl, ?_⟩, ⟨rfl, ?_⟩, ⟨rfl, ?_⟩, ⟨rfl, ?_⟩, ⟨rfl, ?_⟩, ⟨rfl, ?_⟩, ⟨rfl, ?_⟩, ⟨rfl, ?_⟩, ⟨rfl, ?_⟩, ⟨rfl, ?_⟩, ⟨rfl, ?_⟩, ⟨rfl, ?_⟩, ⟨rfl, ?_⟩, ⟨rfl, ?_⟩, ⟨rfl, ?_⟩, ⟨rfl, ?_⟩, ⟨rfl, ?_⟩, ⟨rfl, ?_⟩, ⟨rfl, ?_⟩, ⟨rfl, ?_⟩, ⟨rfl, ?_⟩, ⟨rfl, ?_⟩, ⟨rfl, ?_⟩, ⟨rfl, ?_⟩, ⟨rfl, ?_⟩, ⟨rfl, ?_⟩, ⟨rfl, ?_⟩, ⟨rfl, ?_⟩, ⟨rfl, ?_⟩, ⟨rfl, ?_⟩, ⟨rfl, ?_⟩, ⟨rfl, ?_⟩, ⟨rfl, ?_⟩, ⟨rfl, ?_⟩, ⟨rfl, ?_⟩, ⟨rfl, ?_⟩, ⟨rfl, ?_⟩, ⟨rfl, ?_⟩, ⟨rfl, ?_⟩, ⟨rfl, ?_⟩, ⟨rfl, ?_⟩, ⟨rfl, ?_⟩, ⟨rfl, ?_⟩, trivial⟩
          · rintro _ rfl
            refine Dep.nil ?_
            refine GuardOK.none rfl ?_
            exact OpV.toD (opv_move rfl rfl) rfl
          · rintro _ rfl
            refine Dep.nil ?_
            refine GuardOK.none rfl ?_
            exact OpV.toD (opv_move rfl rfl) rfl
          · rintro _ rfl _ rfl
            refine Dep.nil ?_
            refine GuardOK.none rfl ?_
            exact OpV.toD (opv_nilCheck rfl rfl) rfl
          · rintro _ rfl _ rfl
            refine Dep.nil ?_
            refine GuardOK.none rfl ?_
            exact OpV.toD (opv_fieldAddr rfl Try.fo79_0 rfl) rfl
          · rintro _ rfl _ rfl
            refine Dep.nil ?_
            refine GuardOK.none rfl ?_
            exact OpV.toD (opv_loadB rfl Try.one2 rfl G1 rfl) rfl
          · rintro _ rfl
            refine Dep.nil ?_
            refine GuardOK.none rfl ?_
            exact OpV.toD (opv_move rfl rfl) rfl
          · rintro _ rfl _ rfl
            refine Dep.nil ?_
            refine GuardOK.none rfl ?_
            exact OpV.toD (opv_nilCheck rfl rfl) rfl
          · rintro _ rfl _ rfl
            refine Dep.nil ?_
            refine GuardOK.none rfl ?_
            exact OpV.toD (opv_fieldAddr rfl Try.fo79_1 rfl) rfl
          · rintro _ rfl _ rfl
            refine Dep.nil ?_
            refine GuardOK.none rfl ?_
            exact OpV.toD (opv_loadB rfl Try.one2 rfl G1 rfl) rfl
          · rintro _ rfl _ rfl _ rfl _ rfl
            refine Dep.nil ?_
            refine GuardOK.none rfl ?_
            exact OpV.mono (opv_call (cap := []) (spec_l02Cell_ok _ _ _ _ _ _ _ g0_3 _ _ g0_4 G0 _ _ _ hx2) rfl rfl ⟨rfl, rfl, rfl, trivial⟩ Try.func146 rfl rfl) (by rintro _ _ ⟨rfl, rfl⟩; exact ⟨rfl, rfl⟩)
          · rintro _ rfl _ rfl
            refine Dep.nil ?_
            refine GuardOK.none rfl ?_
            exact OpV.toD (opv_move rfl rfl) rfl
          · rintro _ rfl _ rfl
            refine Dep.nil ?_
            refine GuardOK.some rfl rfl rfl c1 ?_
            exact OpV.toD (opv_move rfl rfl) rfl
          · rintro _ rfl _ rfl _ rfl
            refine Dep.nil ?_
            refine GuardOK.some rfl rfl rfl c1 ?_
            exact OpV.toD (opv_nilCheck rfl rfl) rfl
          · rintro _ rfl _ rfl _ rfl
            refine Dep.nil ?_
            refine GuardOK.some rfl rfl rfl c1 ?_
            exact OpV.toD (opv_fieldAddr rfl Try.fo79_2 rfl) rfl
          · rintro _ rfl _ rfl _ rfl
            refine Dep.nil ?_
            refine GuardOK.some rfl rfl rfl c1 ?_
            exact OpV.toD (opv_loadB rfl Try.one2 rfl G1 rfl) rfl
          · rintro _ rfl _ rfl
            refine Dep.nil ?_
            refine GuardOK.some rfl rfl rfl c1 ?_
            exact OpV.toD (opv_move rfl rfl) rfl
          · rintro _ rfl _ rfl _ rfl
            refine Dep.nil ?_
            refine GuardOK.some rfl rfl rfl c1 ?_
            exact OpV.toD (opv_nilCheck rfl rfl) rfl
          · rintro _ rfl _ rfl _ rfl
            refine Dep.nil ?_
            refine GuardOK.some rfl rfl rfl c1 ?_
            exact OpV.toD (opv_fieldAddr rfl Try.fo29_0 rfl) rfl
          · rintro _ rfl _ rfl _ rfl
            refine Dep.nil ?_
            refine GuardOK.some rfl rfl rfl c1 ?_
            exact OpV.toD (opv_loadB rfl Try.one2 rfl G0 rfl) rfl
          · rintro _ rfl _ rfl
            refine Dep.nil ?_
            refine GuardOK.some rfl rfl rfl c1 ?_
            exact OpV.toD (opv_move rfl rfl) rfl
          · rintro _ rfl _ rfl _ rfl
            refine Dep.nil ?_
            refine GuardOK.some rfl rfl rfl c1 ?_
            exact OpV.toD (opv_nilCheck rfl rfl) rfl
          · rintro _ rfl _ rfl _ rfl
            refine Dep.nil ?_
            refine GuardOK.some rfl rfl rfl c1 ?_
            exact OpV.toD (opv_fieldAddr rfl Try.fo79_0 rfl) rfl
          · rintro _ rfl _ rfl _ rfl
            refine Dep.nil ?_
            refine GuardOK.some rfl rfl rfl c1 ?_
            exact OpV.toD (opv_loadB rfl Try.one2 rfl G1 rfl) rfl
          · rintro _ rfl _ rfl _ rfl _ rfl
            refine Dep.nil ?_
            refine GuardOK.some rfl rfl rfl c1 ?_
            exact OpV.toD (opv_sub rfl rfl rfl) rfl
          · rintro _ rfl _ rfl _ rfl _ rfl
            refine Dep.nil ?_
            refine GuardOK.some rfl rfl rfl c1 ?_
            exact OpV.mono (opv_call (cap := []) (spec_l00In_ok _ _ _ _ _ hx3) rfl rfl ⟨rfl, rfl, rfl, trivial⟩ Try.func78 rfl rfl) (by rintro _ _ ⟨rfl, rfl⟩; exact ⟨rfl, rfl⟩)
          · rintro _ rfl _ rfl _ rfl
            refine Dep.nil ?_
            refine GuardOK.none rfl ?_
            exact OpV.toD (opv_pick rfl rfl (fun _ => rfl) (fun e => absurd (Eq.trans (Eq.symm e) c1) (by decide)) rfl) rfl
          · rintro _ rfl _ rfl
            refine Dep.nil ?_
            refine GuardOK.none rfl ?_
            exact OpV.toD (opv_move rfl rfl) rfl
          · rintro _ rfl _ rfl
            refine Dep.nil ?_
            refine GuardOK.some rfl rfl rfl c2 ?_
            exact OpV.toD (opv_move rfl rfl) rfl
          · rintro _ rfl _ rfl _ rfl
            refine Dep.nil ?_
            refine GuardOK.some rfl rfl rfl c2 ?_
            exact OpV.toD (opv_nilCheck rfl rfl) rfl
          · rintro _ rfl _ rfl _ rfl
            refine Dep.nil ?_
            refine GuardOK.some rfl rfl rfl c2 ?_
            exact OpV.toD (opv_fieldAddr rfl Try.fo79_3 rfl) rfl
          · rintro _ rfl _ rfl _ rfl
            refine Dep.nil ?_
            refine GuardOK.some rfl rfl rfl c2 ?_
            exact OpV.toD (opv_loadB rfl Try.one2 rfl G1 rfl) rfl
          · rintro _ rfl _ rfl
            refine Dep.nil ?_
            refine GuardOK.some rfl rfl rfl c2 ?_
            exact OpV.toD (opv_move rfl rfl) rfl
          · rintro _ rfl _ rfl _ rfl
            refine Dep.nil ?_
            refine GuardOK.some rfl rfl rfl c2 ?_
            exact OpV.toD (opv_nilCheck rfl rfl) rfl
          · rintro _ rfl _ rfl _ rfl
            refine Dep.nil ?_
            refine GuardOK.some rfl rfl rfl c2 ?_
            exact OpV.toD (opv_fieldAddr rfl Try.fo29_1 rfl) rfl
          · rintro _ rfl _ rfl _ rfl
            refine Dep.nil ?_
            refine GuardOK.some rfl rfl rfl c2 ?_
            exact OpV.toD (opv_loadB rfl Try.one2 rfl G0 rfl) rfl
          · rintro _ rfl _ rfl
            refine Dep.nil ?_
            refine GuardOK.some rfl rfl rfl c2 ?_
            exact OpV.toD (opv_move rfl rfl) rfl
          · rintro _ rfl _ rfl _ rfl
            refine Dep.nil ?_
            refine GuardOK.some rfl rfl rfl c2 ?_
            exact OpV.toD (opv_nilCheck rfl rfl) rfl
          · rintro _ rfl _ rfl _ rfl
            refine Dep.nil ?_
            refine GuardOK.some rfl rfl rfl c2 ?_
            exact OpV.toD (opv_fieldAddr rfl Try.fo79_1 rfl) rfl
          · rintro _ rfl _ rfl _ rfl
            refine Dep.nil ?_
            refine GuardOK.some rfl rfl rfl c2 ?_
            exact OpV.toD (opv_loadB rfl Try.one2 rfl G1 rfl) rfl
          · rintro _ rfl _ rfl _ rfl _ rfl
            refine Dep.nil ?_
            refine GuardOK.some rfl rfl rfl c2 ?_
            exact OpV.toD (opv_sub rfl rfl rfl) rfl
          · rintro _ rfl _ rfl _ rfl _ rfl
            refine Dep.nil ?_
            refine GuardOK.some rfl rfl rfl c2 ?_
            exact OpV.mono (opv_call (cap := []) (spec_l00In_ok _ _ _ _ _ hx4) rfl rfl ⟨rfl, rfl, rfl, trivial⟩ Try.func78 rfl rfl) (by rintro _ _ ⟨rfl, rfl⟩; exact ⟨rfl, rfl⟩)
          · rintro _ rfl _ rfl _ rfl
            refine Dep.nil ?_
            refine GuardOK.none rfl ?_
            exact OpV.toD (opv_pick rfl rfl (fun _ => rfl) (fun e => absurd (Eq.trans (Eq.symm e) c2) (by decide)) rfl) rfl
          · rintro _ rfl _ rfl
            refine Dep.nil ?_
            refine GuardOK.none rfl ?_
            exact OpV.toD (opv_assign rfl rfl) rfl
        rintro _ rfl
        refine Dep.nil ?_
        show RL _ _ _ _ [] _ _
        refine RL.nil ?_
        have ey1 := Option.some.inj hy1
        subst ey1
        refine onlyN ?_
        exact ⟨⟨rfl, rfl, rfl, trivial⟩, rfl⟩
      · rw [if_neg c2] at hy1
        have c2 := eq_false_of_ne_true c2
        refine W.sub (ψ := [(0, (.pointer (some ⟨b0, 0, none⟩))), (1, (.pointer (some ⟨b1, 0, none⟩)))]) ⟨rfl, rfl, trivial⟩ ?_
        refine W.regionP [fun v _ => @Eq Value (.pointer (some ⟨b0, 0, none⟩)) v, fun v _ => @Eq Value (.pointer (some ⟨b1, 0, none⟩)) v, fun v _ => @Eq Value (.pointer (some ⟨b1, 0, none⟩)) v, fun v _ => @Eq Value (.pointer (some ⟨b1, 0, none⟩)) v, fun v _ => @Eq Value (.int .i64 a1_0) v, fun v _ => @Eq Value (.pointer (some ⟨b1, 0, none⟩)) v, fun v _ => @Eq Value (.pointer (some ⟨b1, 0, none⟩)) v, fun v _ => @Eq Value (.pointer (some ⟨b1, 1, none⟩)) v, fun v _ => @Eq Value (.int .i64 a1_1) v, fun v _ => @Eq Value (.bool x2) v, fun v _ => @Eq Value (.bool x2) v, fun v _ => @Eq Value (.pointer (some ⟨b1, 0, none⟩)) v, fun v _ => @Eq Value (.pointer (some ⟨b1, 0, none⟩)) v, fun v _ => @Eq Value (.pointer (some ⟨b1, 2, none⟩)) v, fun v _ => @Eq Value (.int .i64 a1_2) v, fun v _ => @Eq Value (.pointer (some ⟨b0, 0, none⟩)) v, fun v _ => @Eq Value (.pointer (some ⟨b0, 0, none⟩)) v, fun v _ => @Eq Value (.pointer (some ⟨b0, 0, none⟩)) v, fun v _ => @Eq Value (.int .i64 a0_0) v, fun v _ => @Eq Value (.pointer (some ⟨b1, 0, none⟩)) v, fun v _ => @Eq Value (.pointer (some ⟨b1, 0, none⟩)) v, fun v _ => @Eq Value (.pointer (some ⟨b1, 0, none⟩)) v, fun v _ => @Eq Value (.int .i64 a1_0) v, fun v _ => @Eq Value (.int .i64 (IntKind.wrap .i64 (a0_0 - a1_0))) v, fun v _ => @Eq Value (.bool x3) v, fun v _ => @Eq Value (.bool x3) v, fun v _ => @Eq Value (.bool x3) v, fun v _ => @Eq Value undef v, fun v _ => @Eq Value undef v, fun v _ => @Eq Value undef v, fun v _ => @Eq Value undef v, fun v _ => @Eq Value undef v, fun v _ => @Eq Value undef v, fun v _ => @Eq Value undef v, fun v _ => @Eq Value undef v, fun v _ => @Eq Value undef v, fun v _ => @Eq Value undef v, fun v _ => @Eq Value undef v, fun v _ => @Eq Value undef v, fun v _ => @Eq Value undef v, fun v _ => @Eq Value undef v, fun v _ => @Eq Value (.bool false) v, fun v _ => @Eq Value (.bool false) v] [[], [], [1], [2], [3], [], [5], [6], [7], [0, 4, 8], [9], [10], [11, 10], [12, 10], [13, 10], [10], [15, 10], [16, 10], [17, 10], [10], [19, 10], [20, 10], [21, 10], [18, 22, 10], [14, 23, 10], [10, 24], [25], [26], [26], [26], [26], [26], [26], [26], [26], [26], [26], [26], [26], [26], [26], [26], [41]] [42] Try.mixed (by decide +kernel) (by decide +kernel) rfl rfl rfl ?_ ?_
        · refine ⟨⟨rfl, ?_⟩, ⟨rfl, ?_⟩, ⟨rfl, ?_⟩, ⟨rfl, ?_⟩, ⟨rfl, ?_⟩, ⟨rfl, ?_⟩, ⟨rfl, ?_⟩, ⟨rfl, ?_⟩, ⟨rfl, ?_⟩, ⟨rfl, ?_⟩, ⟨rfl, ?_⟩, ⟨rfl, ?_⟩, ⟨rfl, ?_⟩, ⟨rfl, ?_⟩, ⟨rfl, ?_⟩, ⟨rfl, ?_⟩, ⟨rfl, ?_⟩, ⟨rfl, ?_⟩, ⟨rfl, ?_⟩, ⟨rfl, ?_⟩, ⟨rfl, ?_⟩, ⟨rfl, ?_⟩, ⟨rfl, ?_⟩, ⟨rfl, ?_⟩, ⟨rfl, ?_⟩, ⟨rfl, ?_⟩, ⟨rfl, ?_⟩, ⟨rfl, ?_⟩, ⟨rfl, ?_⟩, ⟨rfl, ?_⟩, ⟨rfl, ?_⟩, ⟨rfl, ?_⟩, ⟨rfl, ?_⟩, ⟨rfl, ?_⟩, ⟨rfl, ?_⟩, ⟨rfl, ?_⟩, ⟨rfl, ?_⟩, ⟨rfl, ?_⟩, ⟨rfl, ?_⟩, ⟨rfl, ?_⟩, ⟨rfl, ?_⟩, ⟨rfl, ?_⟩, ⟨rfl, ?_⟩, trivial⟩
          · rintro _ rfl
            refine Dep.nil ?_
            refine GuardOK.none rfl ?_
            exact OpV.toD (opv_move rfl rfl) rfl
          · rintro _ rfl
            refine Dep.nil ?_
            refine GuardOK.none rfl ?_
            exact OpV.toD (opv_move rfl rfl) rfl
          · rintro _ rfl _ rfl
            refine Dep.nil ?_
            refine GuardOK.none rfl ?_
            exact OpV.toD (opv_nilCheck rfl rfl) rfl
          · rintro _ rfl _ rfl
            refine Dep.nil ?_
            refine GuardOK.none rfl ?_
            exact OpV.toD (opv_fieldAddr rfl Try.fo79_0 rfl) rfl
          · rintro _ rfl _ rfl
            refine Dep.nil ?_
            refine GuardOK.none rfl ?_
            exact OpV.toD (opv_loadB rfl Try.one2 rfl G1 rfl) rfl
          · rintro _ rfl
            refine Dep.nil ?_
            refine GuardOK.none rfl ?_
            exact OpV.toD (opv_move rfl rfl) rfl
          · rintro _ rfl _ rfl
            refine Dep.nil ?_
            refine GuardOK.none rfl ?_
            exact OpV.toD (opv_nilCheck rfl rfl) rfl
          · rintro _ rfl _ rfl
            refine Dep.nil ?_
            refine GuardOK.none rfl ?_
            exact OpV.toD (opv_fieldAddr rfl Try.fo79_1 rfl) rfl
          · rintro _ rfl _ rfl
            refine Dep.nil ?_
            refine GuardOK.none rfl ?_
            exact OpV.toD (opv_loadB rfl Try.one2 rfl G1 rfl) rfl
          · rintro _ rfl _ rfl _ rfl _ rfl
            refine Dep.nil ?_
            refine GuardOK.none rfl ?_
            exact OpV.mono (opv_call (cap := []) (spec_l02Cell_ok _ _ _ _ _ _ _ g0_3 _ _ g0_4 G0 _ _ _ hx2) rfl rfl ⟨rfl, rfl, rfl, trivial⟩ Try.func146 rfl rfl) (by rintro _ _ ⟨rfl, rfl⟩; exact ⟨rfl, rfl⟩)
          · rintro _ rfl _ rfl
            refine Dep.nil ?_
            refine GuardOK.none rfl ?_
            exact OpV.toD (opv_move rfl rfl) rfl
          · rintro _ rfl _ rfl
            refine Dep.nil ?_
            refine GuardOK.some rfl rfl rfl c1 ?_
            exact OpV.toD (opv_move rfl rfl) rfl
          · rintro _ rfl _ rfl _ rfl
            refine Dep.nil ?_
            refine GuardOK.some rfl rfl rfl c1 ?_
            exact OpV.toD (opv_nilCheck rfl rfl) rfl
          · rintro _ rfl _ rfl _ rfl
            refine Dep.nil ?_
            refine GuardOK.some rfl rfl rfl c1 ?_
            exact OpV.toD (opv_fieldAddr rfl Try.fo79_2 rfl) rfl
          · rintro _ rfl _ rfl _ rfl
            refine Dep.nil ?_
            refine GuardOK.some rfl rfl rfl c1 ?_
            exact OpV.toD (opv_loadB rfl Try.one2 rfl G1 rfl) rfl
          · rintro _ rfl _ rfl
            refine Dep.nil ?_
            refine GuardOK.some rfl rfl rfl c1 ?_
            exact OpV.toD (opv_move rfl rfl) rfl
          · rintro _ rfl _ rfl _ rfl
            refine Dep.nil ?_
            refine GuardOK.some rfl rfl rfl c1 ?_
            exact OpV.toD (opv_nilCheck rfl rfl) rfl
          · rintro _ rfl _ rfl _ rfl
            refine Dep.nil ?_
            refine GuardOK.some rfl rfl rfl c1 ?_
            exact OpV.toD (opv_fieldAddr rfl Try.fo29_0 rfl) rfl
          · rintro _ rfl _ rfl _ rfl
            refine Dep.nil ?_
            refine GuardOK.some rfl rfl rfl c1 ?_
            exact OpV.toD (opv_loadB rfl Try.one2 rfl G0 rfl) rfl
          · rintro _ rfl _ rfl
            refine Dep.nil ?_
            refine GuardOK.some rfl rfl rfl c1 ?_
            exact OpV.toD (opv_move rfl rfl) rfl
          · rintro _ rfl _ rfl _ rfl
            refine Dep.nil ?_
            refine GuardOK.some rfl rfl rfl c1 ?_
            exact OpV.toD (opv_nilCheck rfl rfl) rfl
          · rintro _ rfl _ rfl _ rfl
            refine Dep.nil ?_
            refine GuardOK.some rfl rfl rfl c1 ?_
            exact OpV.toD (opv_fieldAddr rfl Try.fo79_0 rfl) rfl
          · rintro _ rfl _ rfl _ rfl
            refine Dep.nil ?_
            refine GuardOK.some rfl rfl rfl c1 ?_
            exact OpV.toD (opv_loadB rfl Try.one2 rfl G1 rfl) rfl
          · rintro _ rfl _ rfl _ rfl _ rfl
            refine Dep.nil ?_
            refine GuardOK.some rfl rfl rfl c1 ?_
            exact OpV.toD (opv_sub rfl rfl rfl) rfl
          · rintro _ rfl _ rfl _ rfl _ rfl
            refine Dep.nil ?_
            refine GuardOK.some rfl rfl rfl c1 ?_
            exact OpV.mono (opv_call (cap := []) (spec_l00In_ok _ _ _ _ _ hx3) rfl rfl ⟨rfl, rfl, rfl, trivial⟩ Try.func78 rfl rfl) (by rintro _ _ ⟨rfl, rfl⟩; exact ⟨rfl, rfl⟩)
          · rintro _ rfl _ rfl _ rfl
            refine Dep.nil ?_
            refine GuardOK.none rfl ?_
            exact OpV.toD (opv_pick rfl rfl (fun _ => rfl) (fun e => absurd (Eq.trans (Eq.symm e) c1) (by decide)) rfl) rfl
          · rintro _ rfl _ rfl
            refine Dep.nil ?_
            refine GuardOK.none rfl ?_
            exact OpV.toD (opv_move rfl rfl) rfl
          · rintro _ rfl _ rfl
            refine Dep.nil ?_
            refine GuardOK.pass rfl rfl rfl (Eq.trans c2 (by decide)) ⟨rfl, rfl⟩
          · rintro _ rfl _ rfl
            refine Dep.nil ?_
            refine GuardOK.pass rfl rfl rfl (Eq.trans c2 (by decide)) ⟨rfl, rfl⟩
          · rintro _ rfl _ rfl
            refine Dep.nil ?_
            refine GuardOK.pass rfl rfl rfl (Eq.trans c2 (by decide)) ⟨rfl, rfl⟩
          · rintro _ rfl _ rfl
            refine Dep.nil ?_
            refine GuardOK.pass rfl rfl rfl (Eq.trans c2 (by decide)) ⟨rfl, rfl⟩
          · rintro _ rfl _ rfl
            refine Dep.nil ?_
            refine GuardOK.pass rfl rfl rfl (Eq.trans c2 (by decide)) ⟨rfl, rfl⟩
          · rintro _ rfl _ rfl
            refine Dep.nil ?_
            refine GuardOK.pass rfl rfl rfl (Eq.trans c2 (by decide)) ⟨rfl, rfl⟩
          · rintro _ rfl _ rfl
            refine Dep.nil ?_
            refine GuardOK.pass rfl rfl rfl (Eq.trans c2 (by decide)) ⟨rfl, rfl⟩
          · rintro _ rfl _ rfl
            refine Dep.nil ?_
            refine GuardOK.pass rfl rfl rfl (Eq.trans c2 (by decide)) ⟨rfl, rfl⟩
          · rintro _ rfl _ rfl
            refine Dep.nil ?_
            refine GuardOK.pass rfl rfl rfl (Eq.trans c2 (by decide)) ⟨rfl, rfl⟩
          · rintro _ rfl _ rfl
            refine Dep.nil ?_
            refine GuardOK.pass rfl rfl rfl (Eq.trans c2 (by decide)) ⟨rfl, rfl⟩
          · rintro _ rfl _ rfl
            refine Dep.nil ?_
            refine GuardOK.pass rfl rfl rfl (Eq.trans c2 (by decide)) ⟨rfl, rfl⟩
          · rintro _ rfl _ rfl
            refine Dep.nil ?_
            refine GuardOK.pass rfl rfl rfl (Eq.trans c2 (by decide)) ⟨rfl, rfl⟩
          · rintro _ rfl _ rfl
            refine Dep.nil ?_
            refine GuardOK.pass rfl rfl rfl (Eq.trans c2 (by decide)) ⟨rfl, rfl⟩
          · rintro _ rfl _ rfl
            refine Dep.nil ?_
            refine GuardOK.pass rfl rfl rfl (Eq.trans c2 (by decide)) ⟨rfl, rfl⟩
          · rintro _ rfl _ rfl
            refine Dep.nil ?_
            refine GuardOK.none rfl ?_
            exact OpV.toD (opv_pick rfl rfl (fun e => absurd (Eq.trans (Eq.symm e) c2) (by decide)) (fun _ => rfl) rfl) rfl
          · rintro _ rfl _ rfl
            refine Dep.nil ?_
            refine GuardOK.none rfl ?_
            exact OpV.toD (opv_assign rfl rfl) rfl
        rintro _ rfl
        refine Dep.nil ?_
        show RL _ _ _ _ [] _ _
        refine RL.nil ?_
        have ey1 := Option.some.inj hy1
        subst ey1
        refine onlyN ?_
        exact ⟨⟨rfl, rfl, rfl, trivial⟩, rfl⟩
    · rw [if_neg c1] at hy1
      have c1 := eq_false_of_ne_true c1
      refine W.sub (ψ := [(0, (.pointer (some ⟨b0, 0, none⟩))), (1, (.pointer (some ⟨b1, 0, none⟩)))]) ⟨rfl, rfl, trivial⟩ ?_
      refine W.regionP [fun v _ => @Eq Value (.pointer (some ⟨b0, 0, none⟩)) v, fun v _ => @Eq Value (.pointer (some ⟨b1, 0, none⟩)) v, fun v _ => @Eq Value (.pointer (some ⟨b1, 0, none⟩)) v, fun v _ => @Eq Value (.pointer (some ⟨b1, 0, none⟩)) v, fun v _ => @Eq Value (.int .i64 a1_0) v, fun v _ => @Eq Value (.pointer (some ⟨b1, 0, none⟩)) v, fun v _ => @Eq Value (.pointer (some ⟨b1, 0, none⟩)) v, fun v _ => @Eq Value (.pointer (some ⟨b1, 1, none⟩)) v, fun v _ => @Eq Value (.int .i64 a1_1) v, fun v _ => @Eq Value (.bool x2) v, fun v _ => @Eq Value (.bool x2) v, fun v _ => @Eq Value undef v, fun v _ => @Eq Value undef v, fun v _ => @Eq Value undef v, fun v _ => @Eq Value undef v, fun v _ => @Eq Value undef v, fun v _ => @Eq Value undef v, fun v _ => @Eq Value undef v, fun v _ => @Eq Value undef v, fun v _ => @Eq Value undef v, fun v _ => @Eq Value undef v, fun v _ => @Eq Value undef v, fun v _ => @Eq Value undef v, fun v _ => @Eq Value undef v, fun v _ => @Eq Value undef v, fun v _ => @Eq Value (.bool false) v, fun v _ => @Eq Value (.bool false) v, fun v _ => @Eq Value undef v, fun v _ => @Eq Value undef v, fun v _ => @Eq Value undef v, fun v _ => @Eq Value undef v, fun v _ => @Eq Value undef v, fun v _ => @Eq Value undef v, fun v _ => @Eq Value undef v, fun v _ => @Eq Value undef v, fun v _ => @Eq Value undef v, fun v _ => @Eq Value undef v, fun v _ => @Eq Value undef v, fun v _ => @Eq Value undef v, fun v _ => @Eq Value undef v, fun v _ => @Eq Value undef v, fun v _ => @Eq Value (.bool false) v, fun v _ => @Eq Value (.bool false) v] [[], [], [1], [2], [3], [], [5], [6], [7], [0, 4, 8], [9], [10], [10], [10], [10], [10], [10], [10], [10], [10], [10], [10], [10], [10], [10], [10], [25], [26], [26], [26], [26], [26], [26], [26], [26], [26], [26], [26], [26], [26], [26], [26], [41]] [42] Try.mixed (by decide +kernel) (by decide +kernel) rfl rfl rfl ?_ ?_
      · refine ⟨⟨rfl, ?_⟩, ⟨rfl, ?_⟩, ⟨rfl, ?_⟩, ⟨rfl, ?_⟩, ⟨rfl, ?_⟩, ⟨rfl, ?_⟩, ⟨rfl, ?_⟩, ⟨rfl, ?_⟩, ⟨rfl, ?_⟩, ⟨rfl, ?_⟩, ⟨rfl, ?_⟩, ⟨rfl, ?_⟩, ⟨rfl, ?_⟩, ⟨rfl, ?_⟩, ⟨rfl, ?_⟩, ⟨rfl, ?_⟩, ⟨rfl, ?_⟩, ⟨rfl, ?_⟩, ⟨rfl, ?_⟩, ⟨rfl, ?_⟩, ⟨rfl, ?_⟩, ⟨rfl, ?_⟩, ⟨rfl, ?_⟩, ⟨rfl, ?_⟩, ⟨rfl, ?_⟩, ⟨rfl, ?_⟩, ⟨rfl, ?_⟩, ⟨rfl, ?_⟩, ⟨rfl, ?_⟩, ⟨rfl, ?_⟩, ⟨rfl, ?_⟩, ⟨rfl, ?_⟩, ⟨rfl, ?_⟩, ⟨rfl, ?_⟩, ⟨rfl, ?_⟩, ⟨rfl, ?_⟩, ⟨rfl, ?_⟩, ⟨rfl, ?_⟩, ⟨rfl, ?_⟩, ⟨rfl, ?_⟩, ⟨rfl, ?_⟩, ⟨rfl, ?_⟩, ⟨rfl, ?_⟩, trivial⟩
        · rintro _ rfl
          refine Dep.nil ?_
          refine GuardOK.none rfl ?_
          exact OpV.toD (opv_move rfl rfl) rfl
        · rintro _ rfl
          refine Dep.nil ?_
          refine GuardOK.none rfl ?_
          exact OpV.toD (opv_move rfl rfl) rfl
        · rintro _ rfl _ rfl
          refine Dep.nil ?_
          refine GuardOK.none rfl ?_
          exact OpV.toD (opv_nilCheck rfl rfl) rfl
        · rintro _ rfl _ rfl
          refine Dep.nil ?_
          refine GuardOK.none rfl ?_
          exact OpV.toD (opv_fieldAddr rfl Try.fo79_0 rfl) rfl
        · rintro _ rfl _ rfl
          refine Dep.nil ?_
          refine GuardOK.none rfl ?_
          exact OpV.toD (opv_loadB rfl Try.one2 rfl G1 rfl) rfl
        · rintro _ rfl
          refine Dep.nil ?_
          refine GuardOK.none rfl ?_
          exact OpV.toD (opv_move rfl rfl) rfl
        · rintro _ rfl _ rfl
          refine Dep.nil ?_
          refine GuardOK.none rfl ?_
          exact OpV.toD (opv_nilCheck rfl rfl) rfl
        · rintro _ rfl _ rfl
          refine Dep.nil ?_
          refine GuardOK.none rfl ?_
          exact OpV.toD (opv_fieldAddr rfl Try.fo79_1 rfl) rfl
        · rintro _ rfl _ rfl
          refine Dep.nil ?_
          refine GuardOK.none rfl ?_
          exact OpV.toD (opv_loadB rfl Try.one2 rfl G1 rfl) rfl
        · rintro _ rfl _ rfl _ rfl _ rfl
          refine Dep.nil ?_
          refine GuardOK.none rfl ?_
          exact OpV.mono (opv_call (cap := []) (spec_l02Cell_ok _ _ _ _ _ _ _ g0_3 _ _ g0_4 G0 _ _ _ hx2) rfl rfl ⟨rfl, rfl, rfl, trivial⟩ Try.func146 rfl rfl) (by rintro _ _ ⟨rfl, rfl⟩; exact ⟨rfl, rfl⟩)
        · rintro _ rfl _ rfl
          refine Dep.nil ?_
          refine GuardOK.none rfl ?_
          exact OpV.toD (opv_move rfl rfl) rfl
        · rintro _ rfl _ rfl
          refine Dep.nil ?_
          refine GuardOK.pass rfl rfl rfl (Eq.trans c1 (by decide)) ⟨rfl, rfl⟩
        · rintro _ rfl _ rfl
          refine Dep.nil ?_
          refine GuardOK.pass rfl rfl rfl (Eq.trans c1 (by decide)) ⟨rfl, rfl⟩
        · rintro _ rfl _ rfl
          refine Dep.nil ?_
          refine GuardOK.pass rfl rfl rfl (Eq.trans c1 (by decide)) ⟨rfl, rfl⟩
        · rintro _ rfl _ rfl
          refine Dep.nil ?_
          refine GuardOK.pass rfl rfl rfl (Eq.trans c1 (by decide)) ⟨rfl, rfl⟩
        · rintro _ rfl _ rfl
          refine Dep.nil ?_
          refine GuardOK.pass rfl rfl rfl (Eq.trans c1 (by decide)) ⟨rfl, rfl⟩
        · rintro _ rfl _ rfl
          refine Dep.nil ?_
          refine GuardOK.pass rfl rfl rfl (Eq.trans c1 (by decide)) ⟨rfl, rfl⟩
        · rintro _ rfl _ rfl
          refine Dep.nil ?_
          refine GuardOK.pass rfl rfl rfl (Eq.trans c1 (by decide)) ⟨rfl, rfl⟩
        · rintro _ rfl _ rfl
          refine Dep.nil ?_
          refine GuardOK.pass rfl rfl rfl (Eq.trans c1 (by decide)) ⟨rfl, rfl⟩
        · rintro _ rfl _ rfl
          refine Dep.nil ?_
          refine GuardOK.pass rfl rfl rfl (Eq.trans c1 (by decide)) ⟨rfl, rfl⟩
        · rintro _ rfl _ rfl
          refine Dep.nil ?_
          refine GuardOK.pass rfl rfl rfl (Eq.trans c1 (by decide)) ⟨rfl, rfl⟩
        · rintro _ rfl _ rfl
          refine Dep.nil ?_
          refine GuardOK.pass rfl rfl rfl (Eq.trans c1 (by decide)) ⟨rfl, rfl⟩
        · rintro _ rfl _ rfl
          refine Dep.nil ?_
          refine GuardOK.pass rfl rfl rfl (Eq.trans c1 (by decide)) ⟨rfl, rfl⟩
        · rintro _ rfl _ rfl
          refine Dep.nil ?_
          refine GuardOK.pass rfl rfl rfl (Eq.trans c1 (by decide)) ⟨rfl, rfl⟩
        · rintro _ rfl _ rfl
          refine Dep.nil ?_
          refine GuardOK.pass rfl rfl rfl (Eq.trans c1 (by decide)) ⟨rfl, rfl⟩
        · rintro _ rfl _ rfl
          refine Dep.nil ?_
          refine GuardOK.none rfl ?_
          exact OpV.toD (opv_pick rfl rfl (fun e => absurd (Eq.trans (Eq.symm e) c1) (by decide)) (fun _ => rfl) rfl) rfl
        · rintro _ rfl _ rfl
          refine Dep.nil ?_
          refine GuardOK.none rfl ?_
          exact OpV.toD (opv_move rfl rfl) rfl
        · rintro _ rfl _ rfl
          refine Dep.nil ?_
          refine GuardOK.pass rfl rfl rfl (Eq.trans rfl (by decide)) ⟨rfl, rfl⟩
        · rintro _ rfl _ rfl
          refine Dep.nil ?_
          refine GuardOK.pass rfl rfl rfl (Eq.trans rfl (by decide)) ⟨rfl, rfl⟩
        · rintro _ rfl _ rfl
          refine Dep.nil ?_
          refine GuardOK.pass rfl rfl rfl (Eq.trans rfl (by decide)) ⟨rfl, rfl⟩
        · rintro _ rfl _ rfl
          refine Dep.nil ?_
          refine GuardOK.pass rfl rfl rfl (Eq.trans rfl (by decide)) ⟨rfl, rfl⟩
        · rintro _ rfl _ rfl
          refine Dep.nil ?_
          refine GuardOK.pass rfl rfl rfl (Eq.trans rfl (by decide)) ⟨rfl, rfl⟩
        · rintro _ rfl _ rfl
          refine Dep.nil ?_
          refine GuardOK.pass rfl rfl rfl (Eq.trans rfl (by decide)) ⟨rfl, rfl⟩
        · rintro _ rfl _ rfl
          refine Dep.nil ?_
          refine GuardOK.pass rfl rfl rfl (Eq.trans rfl (by decide)) ⟨rfl, rfl⟩
        · rintro _ rfl _ rfl
          refine Dep.nil ?_
          refine GuardOK.pass rfl rfl rfl (Eq.trans rfl (by decide)) ⟨rfl, rfl⟩
        · rintro _ rfl _ rfl
          refine Dep.nil ?_
          refine GuardOK.pass rfl rfl rfl (Eq.trans rfl (by decide)) ⟨rfl, rfl⟩
        · rintro _ rfl _ rfl
          refine Dep.nil ?_
          refine GuardOK.pass rfl rfl rfl (Eq.trans rfl (by decide)) ⟨rfl, rfl⟩
        · rintro _ rfl _ rfl
          refine Dep.nil ?_
          refine GuardOK.pass rfl rfl rfl (Eq.trans rfl (by decide)) ⟨rfl, rfl⟩
        · rintro _ rfl _ rfl
          refine Dep.nil ?_
          refine GuardOK.pass rfl rfl rfl (Eq.trans rfl (by decide)) ⟨rfl, rfl⟩
        · rintro _ rfl _ rfl
          refine Dep.nil ?_
          refine GuardOK.pass rfl rfl rfl (Eq.trans rfl (by decide)) ⟨rfl, rfl⟩
        · rintro _ rfl _ rfl
          refine Dep.nil ?_
          refine GuardOK.pass rfl rfl rfl (Eq.trans rfl (by decide)) ⟨rfl, rfl⟩
        · rintro _ rfl _ rfl
          refine Dep.nil ?_
          refine GuardOK.none rfl ?_
          exact OpV.toD (opv_pick rfl rfl (fun e => absurd (Eq.trans (Eq.symm e) rfl) (by decide)) (fun _ => rfl) rfl) rfl
        · rintro _ rfl _ rfl
          refine Dep.nil ?_
          refine GuardOK.none rfl ?_
          exact OpV.toD (opv_assign rfl rfl) rfl
      rintro _ rfl
      refine Dep.nil ?_
      show RL _ _ _ _ [] _ _
      refine RL.nil ?_
      have ey1 := Option.some.inj hy1
      subst ey1
      refine onlyN ?_
      exact ⟨⟨rfl, rfl, rfl, trivial⟩, rfl⟩
  rintro φ' _ ⟨hs1, rfl⟩
  refine thnN ?_
  refine W.sub hs1 ?_
  refine W.ret ?_
  have er := Option.some.inj hp
  subst er
  exact Rt.one rfl rfl ⟨rfl, rfl⟩

set_option maxRecDepth 20000 in
theorem spec_l05In_ok (h0 : Heap) (b0 : Nat) (a0_0 : Int) (a0_1 : Int) (a0_2 : Int) (a0_3 : Int) (G0 : Bx h0 b0 [(.int .i64 a0_0), (.int .i64 a0_1), (.int .i64 a0_2), (.int .i64 a0_3)]) (a1 : Int) (a2 : Int) (r : Bool) (hp : spec_l05In a0_0 a0_1 a0_2 a0_3 a1 a2 = some r) : CallsH Try.prog 107 ([(.pointer (some ⟨b0, 0, none⟩)), (.int .i64 a1), (.int .i64 a2)].toArray ++ [].toArray) h0 (fun v h' => v = (.bool r) ∧ h0 = h') := by
  unfold spec_l05In at hp
  refine callsH_of_W (l := [(.pointer (some ⟨b0, 0, none⟩)), (.int .i64 a1), (.int .i64 a2)]) (cap := []) 41 Try.func107 rfl rfl rfl ?_
  refine W.seq ?_
  refine W.region ?_
  refine RL.opD (by decide) (opv_assign rfl rfl) ?_
  refine RL.nil ?_
  refine thnN ?_
  refine W.seq ?_
  obtain ⟨x1, hy1, hp⟩ := Option.bind_eq_some_iff.1 hp
  refine W.cut (fun φ' h' => Fr.sub [(0, (.pointer (some ⟨b0, 0, none⟩))), (1, (.int .i64 a1)), (2, (.int .i64 a2)), (6, (.bool x1))] φ' ∧ h0 = h') ?_ ?_
  · obtain ⟨x2, hx2, hy1⟩ := Option.bind_eq_some_iff.1 hy1
    by_cases c1 : x2 = true
    · rw [if_pos c1] at hy1
      obtain ⟨x3, hx3, hy1⟩ := Option.bind_eq_some_iff.1 hy1
      refine W.sub (ψ := [(0, (.pointer (some ⟨b0, 0, none⟩))), (1, (.int .i64 a1)), (2, (.int .i64 a2))]) ⟨rfl, rfl, rfl, trivial⟩ ?_
      refine W.regionP [fun v _ => @Eq Value (.int .i64 a1) v, fun v _ => @Eq Value (.pointer (some ⟨b0, 0, none⟩)) v, fun v _ => @Eq Value (.pointer (some ⟨b0, 0, none⟩)) v, fun v _ => @Eq Value (.pointer (some ⟨b0, 0, none⟩)) v, fun v _ => @Eq Value (.int .i64 a0_0) v, fun v _ => @Eq Value (.pointer (some ⟨b0, 0, none⟩)) v, fun v _ => @Eq Value (.pointer (some ⟨b0, 0, none⟩)) v, fun v _ => @Eq Value (.pointer (some ⟨b0, 0, none⟩)) v, fun v _ => @Eq Value (.int .i64 a0_0) v, fun v _ => @Eq Value (.pointer (some ⟨b0, 0, none⟩)) v, fun v _ => @Eq Value (.pointer (some ⟨b0, 0, none⟩)) v, fun v _ => @Eq Value (.pointer (some ⟨b0, 2, none⟩)) v, fun v _ => @Eq Value (.int .i64 a0_2) v, fun v _ => @Eq Value (.int .i64 (IntKind.wrap .i64 (a0_0 + a0_2))) v, fun v _ => @Eq Value (.int .i64 (IntKind.wrap .i64 ((IntKind.wrap .i64 (a0_0 + a0_2)) - 1))) v, fun v _ => @Eq Value (.bool x2) v, fun v _ => @Eq Value (.bool x2) v, fun v _ => @Eq Value (.int .i64 a2) v, fun v _ => @Eq Value (.pointer (some ⟨b0, 0, none⟩)) v, fun v _ => @Eq Value (.pointer (some ⟨b0, 0, none⟩)) v, fun v _ => @Eq Value (.pointer (some ⟨b0, 1, none⟩)) v, fun v _ => @Eq Value (.int .i64 a0_1) v, fun v _ => @Eq Value (.pointer (some ⟨b0, 0, none⟩)) v, fun v _ => @Eq Value (.pointer (some ⟨b0, 0, none⟩)) v, fun v _ => @Eq Value (.pointer (some ⟨b0, 1, none⟩)) v, fun v _ => @Eq Value (.int .i64 a0_1) v, fun v _ => @Eq Value (.pointer (some ⟨b0, 0, none⟩)) v, fun v _ => @Eq Value (.pointer (some ⟨b0, 0, none⟩)) v, fun v _ => @Eq Value (.pointer (some ⟨b0, 3, none⟩)) v, fun v _ => @Eq Value (.int .i64 a0_3) v, fun v _ => @Eq Value (.int .i64 (IntKind.wrap .i64 (a0_1 + a0_3))) v, fun v _ => @Eq Value (.int .i64 (IntKind.wrap .i64 ((IntKind.wrap .i64 (a0_1 + a0_3)) - 1))) v, fun v _ => @Eq Value (.bool x3) v, fun v _ => @Eq Value (.bool x3) v, fun v _ => @Eq Value (.bool x3) v] [[], [], [1], [2], [3], [], [5], [6], [7], [], [9], [10], [11], [8, 12], [13], [0, 4, 14], [15], [16], [16], [18, 16], [19, 16], [20, 16], [16], [22, 16], [23, 16], [24, 16], [16], [26, 16], [27, 16], [28, 16], [25, 29, 16], [30, 16], [17, 21, 31, 16], [16, 32], [33]] [34] Try.mixed (by decide +kernel) (by decide +kernel) rfl rfl rfl ?_ ?_
      · refine ⟨⟨rfl, ?_⟩, ⟨rfl, ?_⟩, ⟨rfl, ?_⟩, ⟨rfl, ?_⟩, ⟨rfl, ?_⟩, ⟨rfl, ?_⟩, ⟨rfl, ?_⟩, ⟨rfl, ?_⟩, ⟨rfl, ?_⟩, ⟨rfl, ?_⟩, ⟨rfl, ?_⟩, ⟨rfl, ?_⟩, ⟨rfl, ?_⟩, ⟨rfl, ?_⟩, ⟨rfl, ?_⟩, ⟨rfl, ?_⟩, ⟨rfl, ?_⟩, ⟨rfl, ?_⟩, ⟨rfl, ?_⟩, ⟨rfl, ?_⟩, ⟨rfl, ?_⟩, ⟨rfl, ?_⟩, ⟨rfl, ?_⟩, ⟨rfl, ?_⟩, ⟨rfl, ?_⟩, ⟨rfl, ?_⟩, ⟨rfl, ?_⟩, ⟨rfl, ?_⟩, ⟨rfl, ?_⟩, ⟨rfl, ?_⟩, ⟨rfl, ?_⟩, ⟨rfl, ?_⟩, ⟨rfl, ?_⟩, ⟨rfl, ?_⟩, ⟨rfl, ?_⟩, trivial⟩
        · rintro _ rfl
          refine Dep.nil ?_
          refine GuardOK.none rfl ?_
          exact OpV.toD (opv_move rfl rfl) rfl
        · rintro _ rfl
          refine Dep.nil ?_
          refine GuardOK.none rfl ?_
          exact OpV.toD (opv_move rfl rfl) rfl
        · rintro _ rfl _ rfl
          refine Dep.nil ?_
          refine GuardOK.none rfl ?_
          exact OpV.toD (opv_nilCheck rfl rfl) rfl
        · rintro _ rfl _ rfl
          refine Dep.nil ?_
          refine GuardOK.none rfl ?_
          exact OpV.toD (opv_fieldAddr rfl Try.fo79_0 rfl) rfl
        · rintro _ rfl _ rfl
          refine Dep.nil ?_
          refine GuardOK.none rfl ?_
          exact OpV.toD (opv_loadB rfl Try.one2 rfl G0 rfl) rfl
        · rintro _ rfl
          refine Dep.nil ?_
          refine GuardOK.none rfl ?_
          exact OpV.toD (opv_move rfl rfl) rfl
        · rintro _ rfl _ rfl
          refine Dep.nil ?_
          refine GuardOK.none rfl ?_
          exact OpV.toD (opv_nilCheck rfl rfl) rfl
        · rintro _ rfl _ rfl
          refine Dep.nil ?_
          refine GuardOK.none rfl ?_
          exact OpV.toD (opv_fieldAddr rfl Try.fo79_0 rfl) rfl
        · rintro _ rfl _ rfl
          refine Dep.nil ?_
          refine GuardOK.none rfl ?_
          exact OpV.toD (opv_loadB rfl Try.one2 rfl G0 rfl) rfl
        · rintro _ rfl
          refine Dep.nil ?_
          refine GuardOK.none rfl ?_
          exact OpV.toD (opv_move rfl rfl) rfl
        · rintro _ rfl _ rfl
          refine Dep.nil ?_
          refine GuardOK.none rfl ?_
          exact OpV.toD (opv_nilCheck rfl rfl) rfl
        · rintro _ rfl _ rfl
          refine Dep.nil ?_
          refine GuardOK.none rfl ?_
          exact OpV.toD (opv_fieldAddr rfl Try.fo79_2 rfl) rfl
        · rintro _ rfl _ rfl
          refine Dep.nil ?_
          refine GuardOK.none rfl ?_
          exact OpV.toD (opv_loadB rfl Try.one2 rfl G0 rfl) rfl
        · rintro _ rfl _ rfl _ rfl
          refine Dep.nil ?_
          refine GuardOK.none rfl ?_
          exact OpV.toD (opv_add rfl rfl rfl) rfl
        · rintro _ rfl _ rfl
          refine Dep.nil ?_
          refine GuardOK.none rfl ?_
          exact OpV.toD (opv_sub rfl rfl rfl) rfl
        · rintro _ rfl _ rfl _ rfl _ rfl
          refine Dep.nil ?_
          refine GuardOK.none rfl ?_
          exact OpV.mono (opv_call (cap := []) (spec_l00In_ok _ _ _ _ _ hx2) rfl rfl ⟨rfl, rfl, rfl, trivial⟩ Try.func78 rfl rfl) (by rintro _ _ ⟨rfl, rfl⟩; exact ⟨rfl, rfl⟩)
        · rintro _ rfl _ rfl
          refine Dep.nil ?_
          refine GuardOK.none rfl ?_
          exact OpV.toD (opv_move rfl rfl) rfl
        · rintro _ rfl _ rfl
          refine Dep.nil ?_
          refine GuardOK.some rfl rfl rfl c1 ?_
          exact OpV.toD (opv_move rfl rfl) rfl
        · rintro _ rfl _ rfl
          refine Dep.nil ?_
          refine GuardOK.some rfl rfl rfl c1 ?_
          exact OpV.toD (opv_move rfl rfl) rfl
        · rintro _ rfl _ rfl _ rfl
          refine Dep.nil ?_
          refine GuardOK.some rfl rfl rfl c1 ?_
          exact OpV.toD (opv_nilCheck rfl rfl) rfl
        · rintro _ rfl _ rfl _ rfl
          refine Dep.nil ?_
          refine GuardOK.some rfl rfl rfl c1 ?_
          exact OpV.toD (opv_fieldAddr rfl Try.fo79_1 rfl) rfl
        · rintro _ rfl _ rfl _ rfl
          refine Dep.nil ?_
          refine GuardOK.some rfl rfl rfl c1 ?_
          exact OpV.toD (opv_loadB rfl Try.one2 rfl G0 rfl) rfl
        · rintro _ rfl _ rfl
          refine Dep.nil ?_
          refine GuardOK.some rfl rfl rfl c1 ?_
          exact OpV.toD (opv_move rfl rfl) rfl
        · rintro _ rfl _ rfl _ rfl
          refine Dep.nil ?_
          refine GuardOK.some rfl rfl rfl c1 ?_
          exact OpV.toD (opv_nilCheck rfl rfl) rfl
        · rintro _ rfl _ rfl _ rfl
          refine Dep.nil ?_
          refine GuardOK.some rfl rfl rfl c1 ?_
          exact OpV.toD (opv_fieldAddr rfl Try.fo79_1 rfl) rfl
        · rintro _ rfl _ rfl _ rfl
          refine Dep.nil ?_
          refine GuardOK.some rfl rfl rfl c1 ?_
          exact OpV.toD (opv_loadB rfl Try.one2 rfl G0 rfl) rfl
        · rintro _ rfl _ rfl
          refine Dep.nil ?_
          refine GuardOK.some rfl rfl rfl c1 ?_
          exact OpV.toD (opv_move rfl rfl) rfl
        · rintro _ rfl _ rfl _ rfl
          refine Dep.nil ?_
          refine GuardOK.some rfl rfl rfl c1 ?_
          exact OpV.toD (opv_nilCheck rfl rfl) rfl
        · rintro _ rfl _ rfl _ rfl
          refine Dep.nil ?_
          refine GuardOK.some rfl rfl rfl c1 ?_
          exact OpV.toD (opv_fieldAddr rfl Try.fo79_3 rfl) rfl
        · rintro _ rfl _ rfl _ rfl
          refine Dep.nil ?_
          refine GuardOK.some rfl rfl rfl c1 ?_
          exact OpV.toD (opv_loadB rfl Try.one2 rfl G0 rfl) rfl
        · rintro _ rfl _ rfl _ rfl _ rfl
          refine Dep.nil ?_
          refine GuardOK.some rfl rfl rfl c1 ?_
          exact OpV.toD (opv_add rfl rfl rfl) rfl
        · rintro _ rfl _ rfl _ rfl
          refine Dep.nil ?_
          refine GuardOK.some rfl rfl rfl c1 ?_
          exact OpV.toD (opv_sub rfl rfl rfl) rfl
        · rintro _ rfl _ rfl _ rfl _ rfl _ rfl
          refine Dep.nil ?_
          refine GuardOK.some rfl rfl rfl c1 ?_
          exact OpV.mono (opv_call (cap := []) (spec_l00In_ok _ _ _ _ _ hx3) rfl rfl ⟨rfl, rfl, rfl, trivial⟩ Try.func78 rfl rfl) (by rintro _ _ ⟨rfl, rfl⟩; exact ⟨rfl, rfl⟩)
        · rintro _ rfl _ rfl _ rfl
          refine Dep.nil ?_
          refine GuardOK.none rfl ?_
          exact OpV.toD (opv_pick rfl rfl (fun _ => rfl) (fun e => absurd (Eq.trans (Eq.symm e) c1) (by decide)) rfl) rfl
        · rintro _ rfl _ rfl
          refine Dep.nil ?_
          refine GuardOK.none rfl ?_
          exact OpV.toD (opv_assign rfl rfl) rfl
      rintro _ rfl
      refine Dep.nil ?_
      show RL _ _ _ _ [] _ _
      refine RL.nil ?_
      have ey1 := Option.some.inj hy1
      subst ey1
      refine onlyN ?_
      exact ⟨⟨rfl, rfl, rfl, rfl, trivial⟩, rfl⟩
    · rw [if_neg c1] at hy1
      have c1 := eq_false_of_ne_true c1
      refine W.sub (ψ := [(0, (.pointer (some ⟨b0, 0, none⟩))), (1, (.int .i64 a1)), (2, (.int .i64 a2))]) ⟨rfl, rfl, rfl, trivial⟩ ?_
      refine W.regionP [fun v _ => @Eq Value (.int .i64 a1) v, fun v _ => @Eq Value (.pointer (some ⟨b0, 0, none⟩)) v, fun v _ => @Eq Value (.pointer (some ⟨b0, 0, none⟩)) v, fun v _ => @Eq Value (.pointer (some ⟨b0, 0, none⟩)) v, fun v _ => @Eq Value (.int .i64 a0_0) v, fun v _ => @Eq Value (.pointer (some ⟨b0, 0, none⟩)) v, fun v _ => @Eq Value (.pointer (some ⟨b0, 0, none⟩)) v, fun v _ => @Eq Value (.pointer (some ⟨b0, 0, none⟩)) v, fun v _ => @Eq Value (.int .i64 a0_0) v, fun v _ => @Eq Value (.pointer (some ⟨b0, 0, none⟩)) v, fun v _ => @Eq Value (.pointer (some ⟨b0, 0, none⟩)) v, fun v _ => @Eq Value (.pointer (some ⟨b0, 2, none⟩)) v, fun v _ => @Eq Value (.int .i64 a0_2) v, fun v _ => @Eq Value (.int .i64 (IntKind.wrap .i64 (a0_0 + a0_2))) v, fun v _ => @Eq Value (.int .i64 (IntKind.wrap .i64 ((IntKind.wrap .i64 (a0_0 + a0_2)) - 1))) v, fun v _ => @Eq Value (.bool x2) v, fun v _ => @Eq Value (.bool x2) v, fun v _ => @Eq Value undef v, fun v _ => @Eq Value undef v, fun v _ => @Eq Value undef v, fun v _ => @Eq Value undef v, fun v _ => @Eq Value undef v, fun v _ => @Eq Value undef v, fun v _ => @Eq Value undef v, fun v _ => @Eq Value undef v, fun v _ => @Eq Value undef v, fun v _ => @Eq Value undef v, fun v _ => @Eq Value undef v, fun v _ => @Eq Value undef v, fun v _ => @Eq Value undef v, fun v _ => @Eq Value undef v, fun v _ => @Eq Value undef v, fun v _ => @Eq Value undef v, fun v _ => @Eq Value (.bool false) v, fun v _ => @Eq Value (.bool false) v] [[], [], [1], [2], [3], [], [5], [6], [7], [], [9], [10], [11], [8, 12], [13], [0, 4, 14], [15], [16], [16], [16], [16], [16], [16], [16], [16], [16], [16], [16], [16], [16], [16], [16], [16], [16], [33]] [34] Try.mixed (by decide +kernel) (by decide +kernel) rfl rfl rfl ?_ ?_
      · refine ⟨⟨rfl, ?_⟩, ⟨rfl, ?_⟩, ⟨rfl, ?_⟩, ⟨rfl, ?_⟩, ⟨rfl, ?_⟩, ⟨rfl, ?_⟩, ⟨rfl, ?_⟩, ⟨rfl, ?_⟩, ⟨rfl, ?_⟩, ⟨rfl, ?_⟩, ⟨rfl, ?_⟩, ⟨rfl, ?_⟩, ⟨rfl, ?_⟩, ⟨rfl, ?_⟩, ⟨rfl, ?_⟩, ⟨rfl, ?_⟩, ⟨rfl, ?_⟩, ⟨rfl, ?_⟩, ⟨rfl, ?_⟩, ⟨rfl, ?_⟩, ⟨rfl, ?_⟩, ⟨rfl, ?_⟩, ⟨rfl, ?_⟩, ⟨rfl, ?_⟩, ⟨rfl, ?_⟩, ⟨rfl, ?_⟩, ⟨rfl, ?_⟩, ⟨rfl, ?_⟩, ⟨rfl, ?_⟩, ⟨rfl, ?_⟩, ⟨rfl, ?_⟩, ⟨rfl, ?_⟩, ⟨rfl, ?_⟩, ⟨rfl, ?_⟩, ⟨rfl, ?_⟩, trivial⟩
        · rintro _ rfl
          refine Dep.nil ?_
          refine GuardOK.none rfl ?_
          exact OpV.toD (opv_move rfl rfl) rfl
        · rintro _ rfl
          refine Dep.nil ?_
          refine GuardOK.none rfl ?_
          exact OpV.toD (opv_move rfl rfl) rfl
        · rintro _ rfl _ rfl
          refine Dep.nil ?_
          refine GuardOK.none rfl ?_
          exact OpV.toD (opv_nilCheck rfl rfl) rfl
        · rintro _ rfl _ rfl
          refine Dep.nil ?_
          refine GuardOK.none rfl ?_
          exact OpV.toD (opv_fieldAddr rfl Try.fo79_0 rfl) rfl
        · rintro _ rfl _ rfl
          refine Dep.nil ?_
          refine GuardOK.none rfl ?_
          exact OpV.toD (opv_loadB rfl Try.one2 rfl G0 rfl) rfl
        · rintro _ rfl
          refine Dep.nil ?_
          refine GuardOK.none rfl ?_
          exact OpV.toD (opv_move rfl rfl) rfl
        · rintro _ rfl _ rfl
          refine Dep.nil ?_
          refine GuardOK.none rfl ?_
          exact OpV.toD (opv_nilCheck rfl rfl) rfl
        · rintro _ rfl _ rfl
          refine Dep.nil ?_
          refine GuardOK.none rfl ?_
          exact OpV.toD (opv_fieldAddr rfl Try.fo79_0 rfl) rfl
        · rintro _ rfl _ rfl
          refine Dep.nil ?_
          refine GuardOK.none rfl ?_
          exact OpV.toD (opv_loadB rfl Try.one2 rfl G0 rfl) rfl
        · rintro _ rfl
          refine Dep.nil ?_
          refine GuardOK.none rfl ?_
          exact OpV.toD (opv_move rfl rfl) rfl
        · rintro _ rfl _ rfl
          refine Dep.nil ?_
          refine GuardOK.none rfl ?_
          exact OpV.toD (opv_nilCheck rfl rfl) rfl
        · rintro _ rfl _ rfl
          refine Dep.nil ?_
          refine GuardOK.none rfl ?_
          exact OpV.toD (opv_fieldAddr rfl Try.fo79_2 rfl) rfl
        · rintro _ rfl _ rfl
          refine Dep.nil ?_
          refine GuardOK.none rfl ?_
          exact OpV.toD (opv_loadB rfl Try.one2 rfl G0 rfl) rfl
        · rintro _ rfl _ rfl _ rfl
          refine Dep.nil ?_
          refine GuardOK.none rfl ?_
          exact OpV.toD (opv_add rfl rfl rfl) rfl
        · rintro _ rfl _ rfl
          refine Dep.nil ?_
          refine GuardOK.none rfl ?_
          exact OpV.toD (opv_sub rfl rfl rfl) rfl
        · rintro _ rfl _ rfl _ rfl _ rfl
          refine Dep.nil ?_
          refine GuardOK.none rfl ?_
          exact OpV.mono (opv_call (cap := []) (spec_l00In_ok _ _ _ _ _ hx2) rfl rfl ⟨rfl, rfl, rfl, trivial⟩ Try.func78 rfl rfl) (by rintro _ _ ⟨rfl, rfl⟩; exact ⟨rfl, rfl⟩)
        · rintro _ rfl _ rfl
          refine Dep.nil ?_
          refine GuardOK.none rfl ?_
          exact OpV.toD (opv_move rfl rfl) rfl
        · rintro _ rfl _ rfl
          refine Dep.nil ?_
          refine GuardOK.pass rfl rfl rfl (Eq.trans c1 (by decide)) ⟨rfl, rfl⟩
        · rintro _ rfl _ rfl
          refine Dep.nil ?_
          refine GuardOK.pass rfl rfl rfl (Eq.trans c1 (by decide)) ⟨rfl, rfl⟩
        · rintro _ rfl _ rfl
          refine Dep.nil ?_
          refine GuardOK.pass rfl rfl rfl (Eq.trans c1 (by decide)) ⟨rfl, rfl⟩
        · rintro _ rfl _ rfl
          refine Dep.nil ?_
          refine GuardOK.pass rfl rfl rfl (Eq.trans c1 (by decide)) ⟨rfl, rfl⟩
        · rintro _ rfl _ rfl
          refine Dep.nil ?_
          refine GuardOK.pass rfl rfl rfl (Eq.trans c1 (by decide)) ⟨rfl, rfl⟩
        · rintro _ rfl _ rfl
          refine Dep.nil ?_
          refine GuardOK.pass rfl rfl rfl (Eq.trans c1 (by decide)) ⟨rfl, rfl⟩
        · rintro _ rfl _ rfl
          refine Dep.nil ?_
          refine GuardOK.pass rfl rfl rfl (Eq.trans c1 (by decide)) ⟨rfl, rfl⟩
        · rintro _ rfl _ rfl
          refine Dep.nil ?_
          refine GuardOK.pass rfl rfl rfl (Eq.trans c1 (by decide)) ⟨rfl, rfl⟩
        · rintro _ rfl _ rfl
          refine Dep.nil ?_
          refine GuardOK.pass rfl rfl rfl (Eq.trans c1 (by decide)) ⟨rfl, rfl⟩
        · rintro _ rfl _ rfl
          refine Dep.nil ?_
          refine GuardOK.pass rfl rfl rfl (Eq.trans c1 (by decide)) ⟨rfl, rfl⟩
        · rintro _ rfl _ rfl
          refine Dep.nil ?_
          refine GuardOK.pass rfl rfl rfl (Eq.trans c1 (by decide)) ⟨rfl, rfl⟩
        · rintro _ rfl _ rfl
          refine Dep.nil ?_
          refine GuardOK.pass rfl rfl rfl (Eq.trans c1 (by decide)) ⟨rfl, rfl⟩
        · rintro _ rfl _ rfl
          refine Dep.nil ?_
          refine GuardOK.pass rfl rfl rfl (Eq.trans c1 (by decide)) ⟨rfl, rfl⟩
        · rintro _ rfl _ rfl
          refine Dep.nil ?_
          refine GuardOK.pass rfl rfl rfl (Eq.trans c1 (by decide)) ⟨rfl, rfl⟩
        · rintro _ rfl _ rfl
          refine Dep.nil ?_
          refine GuardOK.pass rfl rfl rfl (Eq.trans c1 (by decide)) ⟨rfl, rfl⟩
        · rintro _ rfl _ rfl
          refine Dep.nil ?_
          refine GuardOK.pass rfl rfl rfl (Eq.trans c1 (by decide)) ⟨rfl, rfl⟩
        · rintro _ rfl _ rfl
          refine Dep.nil ?_
          refine GuardOK.none rfl ?_
          exact OpV.toD (opv_pick rfl rfl (fun e => absurd (Eq.trans (Eq.symm e) c1) (by decide)) (fun _ => rfl) rfl) rfl
        · rintro _ rfl _ rfl
          refine Dep.nil ?_
          refine GuardOK.none rfl ?_
          exact OpV.toD (opv_assign rfl rfl) rfl
      rintro _ rfl
      refine Dep.nil ?_
      show RL _ _ _ _ [] _ _
      refine RL.nil ?_
      have ey1 := Option.some.inj hy1
      subst ey1
      refine onlyN ?_
      exact ⟨⟨rfl, rfl, rfl, rfl, trivial⟩, rfl⟩
  rintro φ' _ ⟨hs1, rfl⟩
  refine thnN ?_
  refine W.sub hs1 ?_
  refine W.ret ?_
  have er := Option.some.inj hp
  subst er
  exact Rt.one rfl rfl ⟨rfl, rfl⟩

set_option maxRecDepth 20000 in
theorem spec_l05Depth_ok (h0 : Heap) (b0 : Nat) (a0_0 : Int) (a0_1 : Int) (a0_2 : Bool) (u0_3 : Value) (a0_3 : List (Option Nat)) (g0_3 : SL (kF .f32) h0.size h0 u0_3 a0_3) (u0_4 : Value) (a0_4 : List (Option Nat)) (g0_4 : SL (kF .f32) h0.size h0 u0_4 a0_4) (G0 : Bx h0 b0 [(.int .i64 a0_0), (.int .i64 a0_1), (.bool a0_2), u0_3, u0_4]) (a1 : Int) (r : Int) (hp : spec_l05Depth a0_0 a0_1 a0_2 a0_3 a0_4 a1 = some r) : CallsH Try.prog 112 ([(.pointer (some ⟨b0, 0, none⟩)), (.int .i64 a1)].toArray ++ [].toArray) h0 (fun v h' => v = (.int .i64 r) ∧ h0 = h') := by
  unfold spec_l05Depth at hp
  refine callsH_of_W (l := [(.pointer (some ⟨b0, 0, none⟩)), (.int .i64 a1)]) (cap := []) 38 Try.func112 rfl rfl rfl ?_
  refine W.seq ?_
  refine W.region ?_
  refine RL.opD (by decide) (opv_assign rfl rfl) ?_
  refine RL.nil ?_
  refine thnN ?_
  refine W.seq ?_
  by_cases nc1 : a0_0 = 0
  · rw [if_pos nc1] at hp; cases hp
  rw [if_neg nc1] at hp
  have c1 : a0_0 ≠ 0 := nc1
  refine W.region ?_
  refine RL.opD (by decide) (opv_move rfl rfl) ?_
  refine RL.opD (by decide) (opv_move rfl rfl) ?_
  refine RL.opD (by decide) (opv_nilCheck rfl rfl) ?_
  refine RL.opD (by decide) (opv_fieldAddr rfl Try.fo29_0 rfl) ?_
  refine RL.opD (by decide) (opv_loadB rfl Try.one2 rfl G0 rfl) ?_
  refine RL.opD (by decide) (opv_rem rfl c1 rfl rfl) ?_
  refine RL.opD (by decide) (opv_assign rfl rfl) ?_
  refine RL.nil ?_
  refine thnN ?_
  refine W.seq ?_
  by_cases nc2 : a0_0 = 0
  · rw [if_pos nc2] at hp; cases hp
  rw [if_neg nc2] at hp
  have c2 : a0_0 ≠ 0 := nc2
  refine W.region ?_
  refine RL.opD (by decide) (opv_move rfl rfl) ?_
  refine RL.opD (by decide) (opv_move rfl rfl) ?_
  refine RL.opD (by decide) (opv_nilCheck rfl rfl) ?_
  refine RL.opD (by decide) (opv_fieldAddr rfl Try.fo29_0 rfl) ?_
  refine RL.opD (by decide) (opv_loadB rfl Try.one2 rfl G0 rfl) ?_
  refine RL.opD (by decide) (opv_quo rfl c2 rfl rfl) ?_
  refine RL.opD (by decide) (opv_assign rfl rfl) ?_
  refine RL.nil ?_
  refine thnN ?_
  refine W.seq ?_
  obtain ⟨x1, hx1, hp⟩ := Option.bind_eq_some_iff.1 hp
  obtain ⟨x2, hx2, hp⟩ := Option.bind_eq_some_iff.1 hp
  obtain ⟨x3, hx3, hp⟩ := Option.bind_eq_some_iff.1 hp
  refine W.sub (ψ := [(0, (.pointer (some ⟨b0, 0, none⟩))), (1, (.int .i64 a1)), (5, (.int .i64 (Int.tmod a1 a0_0))), (6, (.int .i64 (IntKind.wrap .i64 (Int.tdiv a1 a0_0))))]) ⟨rfl, rfl, rfl, rfl, trivial⟩ ?_
  refine W.regionP [fun v _ => @Eq Value (.int .i64 (Int.tmod a1 a0_0)) v, fun v _ => @Eq Value (.pointer (some ⟨b0, 0, none⟩)) v, fun v _ => @Eq Value (.pointer (some ⟨b0, 0, none⟩)) v, fun v _ => @Eq Value (.pointer (some ⟨b0, 0, none⟩)) v, fun v _ => @Eq Value (.int .i64 a0_0) v, fun v _ => @Eq Value (.int .i64 (IntKind.wrap .i64 (a0_0 - 1))) v, fun v _ => @Eq Value (.int .i64 (Int.tmod a1 a0_0)) v, fun v _ => @Eq Value (.int .i64 (IntKind.wrap .i64 ((IntKind.wrap .i64 (a0_0 - 1)) - (Int.tmod a1 a0_0)))) v, fun v _ => @Eq Value (.int .i64 x1) v, fun v _ => @Eq Value (.int .i64 (IntKind.wrap .i64 (Int.tdiv a1 a0_0))) v, fun v _ => @Eq Value (.pointer (some ⟨b0, 0, none⟩)) v, fun v _ => @Eq Value (.pointer (some ⟨b0, 0, none⟩)) v, fun v _ => @Eq Value (.pointer (some ⟨b0, 1, none⟩)) v, fun v _ => @Eq Value (.int .i64 a0_1) v, fun v _ => @Eq Value (.int .i64 (IntKind.wrap .i64 (a0_1 - 1))) v, fun v _ => @Eq Value (.int .i64 (IntKind.wrap .i64 (Int.tdiv a1 a0_0))) v, fun v _ => @Eq Value (.int .i64 (IntKind.wrap .i64 ((IntKind.wrap .i64 (a0_1 - 1)) - (IntKind.wrap .i64 (Int.tdiv a1 a0_0))))) v, fun v _ => @Eq Value (.int .i64 x2) v, fun v _ => @Eq Value (.int .i64 x3) v, fun v _ => @Eq Value (.int .i64 x3) v] [[], [], [1], [2], [3], [4], [], [5, 6], [0, 7], [], [], [10], [11], [12], [13], [], [14, 15], [9, 16], [8, 17], [18]] [19] Try.mixed (by decide +kernel) (by decide +kernel) rfl rfl rfl ?_ ?_
  · refine ⟨⟨rfl, ?_⟩, ⟨rfl, ?_⟩, ⟨rfl, ?_⟩, ⟨rfl, ?_⟩, ⟨rfl, ?_⟩, ⟨rfl, ?_⟩, ⟨rfl, ?_⟩, ⟨rfl, ?_⟩, ⟨rfl, ?_⟩, ⟨rfl, ?_⟩, ⟨rfl, ?_⟩, ⟨rfl, ?_⟩, ⟨rfl, ?_⟩, ⟨rfl, ?_⟩, ⟨rfl, ?_⟩, ⟨rfl, ?_⟩, ⟨rfl, ?_⟩, ⟨rfl, ?_⟩, ⟨rfl, ?_⟩, ⟨rfl, ?_⟩, trivial⟩
    · rintro _ rfl
      refine Dep.nil ?_
      refine GuardOK.none rfl ?_
      exact OpV.toD (opv_move rfl rfl) rfl
    · rintro _ rfl
      refine Dep.nil ?_
      refine GuardOK.none rfl ?_
      exact OpV.toD (opv_move rfl rfl) rfl
    · rintro _ rfl _ rfl
      refine Dep.nil ?_
      refine GuardOK.none rfl ?_
      exact OpV.toD (opv_nilCheck rfl rfl) rfl
    · rintro _ rfl _ rfl
      refine Dep.nil ?_
      refine GuardOK.none rfl ?_
      exact OpV.toD (opv_fieldAddr rfl Try.fo29_0 rfl) rfl
    · rintro _ rfl _ rfl
      refine Dep.nil ?_
      refine GuardOK.none rfl ?_
      exact OpV.toD (opv_loadB rfl Try.one2 rfl G0 rfl) rfl
    · rintro _ rfl _ rfl
      refine Dep.nil ?_
      refine GuardOK.none rfl ?_
      exact OpV.toD (opv_sub rfl rfl rfl) rfl
    · rintro _ rfl
      refine Dep.nil ?_
      refine GuardOK.none rfl ?_
      exact OpV.toD (opv_move rfl rfl) rfl
    · rintro _ rfl _ rfl _ rfl
      refine Dep.nil ?_
      refine GuardOK.none rfl ?_
      exact OpV.toD (opv_sub rfl rfl rfl) rfl
    · rintro _ rfl _ rfl _ rfl
      refine Dep.nil ?_
      refine GuardOK.none rfl ?_
      exact OpV.mono (opv_call (cap := []) (spec_l00Min_ok _ _ _ _ hx1) rfl rfl ⟨rfl, rfl, trivial⟩ Try.func80 rfl rfl) (by rintro _ _ ⟨rfl, rfl⟩; exact ⟨rfl, rfl⟩)
    · rintro _ rfl
      refine Dep.nil ?_
      refine GuardOK.none rfl ?_
      exact OpV.toD (opv_move rfl rfl) rfl
    · rintro _ rfl
      refine Dep.nil ?_
      refine GuardOK.none rfl ?_
      exact OpV.toD (opv_move rfl rfl) rfl
    · rintro _ rfl _ rfl
      refine Dep.nil ?_
      refine GuardOK.none rfl ?_
      exact OpV.toD (opv_nilCheck rfl rfl) rfl
    · rintro _ rfl _ rfl
      refine Dep.nil ?_
      refine GuardOK.none rfl ?_
      exact OpV.toD (opv_fieldAddr rfl Try.fo29_1 rfl) rfl
    · rintro _ rfl _ rfl
      refine Dep.nil ?_
      refine GuardOK.none rfl ?_
      exact OpV.toD (opv_loadB rfl Try.one2 rfl G0 rfl) rfl
    · rintro _ rfl _ rfl
      refine Dep.nil ?_
      refine GuardOK.none rfl ?_
      exact OpV.toD (opv_sub rfl rfl rfl) rfl
    · rintro _ rfl
      refine Dep.nil ?_
      refine GuardOK.none rfl ?_
      exact OpV.toD (opv_move rfl rfl) rfl
    · rintro _ rfl _ rfl _ rfl
      refine Dep.nil ?_
      refine GuardOK.none rfl ?_
      exact OpV.toD (opv_sub rfl rfl rfl) rfl
    · rintro _ rfl _ rfl _ rfl
      refine Dep.nil ?_
      refine GuardOK.none rfl ?_
      exact OpV.mono (opv_call (cap := []) (spec_l00Min_ok _ _ _ _ hx2) rfl rfl ⟨rfl, rfl, trivial⟩ Try.func80 rfl rfl) (by rintro _ _ ⟨rfl, rfl⟩; exact ⟨rfl, rfl⟩)
    · rintro _ rfl _ rfl _ rfl
      refine Dep.nil ?_
      refine GuardOK.none rfl ?_
      exact OpV.mono (opv_call (cap := []) (spec_l00Min_ok _ _ _ _ hx3) rfl rfl ⟨rfl, rfl, trivial⟩ Try.func80 rfl rfl) (by rintro _ _ ⟨rfl, rfl⟩; exact ⟨rfl, rfl⟩)
    · rintro _ rfl _ rfl
      refine Dep.nil ?_
      refine GuardOK.none rfl ?_
      exact OpV.toD (opv_assign rfl rfl) rfl
  rintro _ rfl
  refine Dep.nil ?_
  show RL _ _ _ _ [] _ _
  refine RL.nil ?_
  refine thnN ?_
  refine W.ret ?_
  have er := Option.some.inj hp
  subst er
  exact Rt.one rfl rfl ⟨rfl, rfl⟩

set_option maxRecDepth 20000 in
theorem spec_l05Share_ok (h0 : Heap) (u0 : Value) (a0 : Option Nat) (g0 : IsF .f32 u0 a0) (u1 : Value) (a1 : Option Nat) (g1 : IsF .f32 u1 a1) (r : Bool) (hp : spec_l05Share a0 a1 = some r) : CallsH Try.prog 106 ([u0, u1].toArray ++ [].toArray) h0 (fun v h' => v = (.bool r) ∧ h0 = h') := by
  unfold spec_l05Share at hp
  refine callsH_of_W (l := [u0, u1]) (cap := []) 12 Try.func106 rfl rfl rfl ?_
  refine W.seq ?_
  refine W.region ?_
  refine RL.opD (by decide) (opv_assign rfl rfl) ?_
  refine RL.nil ?_
  refine thnN ?_
  refine W.seq ?_
  obtain ⟨x1, hy1, hp⟩ := Option.bind_eq_some_iff.1 hp
  refine W.cut (fun φ' h' => Fr.sub [(0, u0), (1, u1), (4, (.bool x1))] φ' ∧ h0 = h') ?_ ?_
  · by_cases c1 : (fcmp .geq .f32 a0 (some 0)) = true
    · rw [if_pos c1] at hy1
      refine W.region ?_
      refine RL.opD (by decide) (opv_move rfl rfl) ?_
      refine RL.opD (by decide) (opv_fcmp rfl rfl rfl rfl g0 (isF_lit .f32 0 (by decide) (by decide))) ?_
      refine RL.opD (by decide) (opv_move rfl rfl) ?_
      refine RL.yes _ rfl rfl c1 (by decide) (opv_move rfl rfl) ?_
      rintro _ _ ⟨rfl, rfl⟩
      refine RL.yes _ rfl rfl c1 (by decide) (opv_move rfl rfl) ?_
      rintro _ _ ⟨rfl, rfl⟩
      refine RL.yes _ rfl rfl c1 (by decide) (opv_fcmp rfl rfl rfl rfl g0 g1) ?_
      rintro _ _ ⟨rfl, rfl⟩
      refine RL.opD (by decide) (opv_pick rfl rfl (fun _ => rfl) (fun e => absurd (Eq.trans (Eq.symm e) c1) (by decide)) rfl) ?_
      refine RL.opD (by decide) (opv_assign rfl rfl) ?_
      refine RL.nil ?_
      have ey1 := Option.some.inj hy1
      subst ey1
      refine onlyN ?_
      exact ⟨⟨rfl, rfl, rfl, trivial⟩, rfl⟩
    · rw [if_neg c1] at hy1
      have c1 := eq_false_of_ne_true c1
      refine W.region ?_
      refine RL.opD (by decide) (opv_move rfl rfl) ?_
      refine RL.opD (by decide) (opv_fcmp rfl rfl rfl rfl g0 (isF_lit .f32 0 (by decide) (by decide))) ?_
      refine RL.opD (by decide) (opv_move rfl rfl) ?_
      refine RL.no rfl rfl (Eq.trans c1 (by decide)) (by decide) ?_
      refine RL.no rfl rfl (Eq.trans c1 (by decide)) (by decide) ?_
      refine RL.no rfl rfl (Eq.trans c1 (by decide)) (by decide) ?_
      refine RL.opD (by decide) (opv_pick rfl rfl (fun e => absurd (Eq.trans (Eq.symm e) c1) (by decide)) (fun _ => rfl) rfl) ?_
      refine RL.opD (by decide) (opv_assign rfl rfl) ?_
      refine RL.nil ?_
      have ey1 := Option.some.inj hy1
      subst ey1
      refine onlyN ?_
      exact ⟨⟨rfl, rfl, rfl, trivial⟩, rfl⟩
  rintro φ' _ ⟨hs1, rfl⟩
  refine thnN ?_
  refine W.sub hs1 ?_
  refine W.ret ?_
  have er := Option.some.inj hp
  subst er
  exact Rt.one rfl rfl ⟨rfl, rfl⟩

set_option maxRecDepth 20000 in
theorem impl_isShare_ok (h0 : Heap) (u0 : Value) (a0 : Option Nat) (g0 : IsF .f32 u0 a0) (r : Bool) (hp : impl_isShare a0 = some r) : CallsH Try.prog 109 ([u0].toArray ++ [].toArray) h0 (fun v h' => v = (.bool r) ∧ h0 = h') := by
  unfold impl_isShare at hp
  refine callsH_of_W (l := [u0]) (cap := []) 9 Try.func109 rfl rfl rfl ?_
  refine W.seq ?_
  refine W.region ?_
  refine RL.opD (by decide) (opv_assign rfl rfl) ?_
  refine RL.nil ?_
  refine thnN ?_
  refine W.seq ?_
  obtain ⟨x1, hy1, hp⟩ := Option.bind_eq_some_iff.1 hp
  refine W.cut (fun φ' h' => Fr.sub [(0, u0), (2, (.bool x1))] φ' ∧ h0 = h') ?_ ?_
  · by_cases c1 : (fcmp .geq .f32 a0 (some 0)) = true
    · rw [if_pos c1] at hy1
      refine W.region ?_
      refine RL.opD (by decide) (opv_move rfl rfl) ?_
      refine RL.opD (by decide) (opv_fcmp rfl rfl rfl rfl g0 (isF_lit .f32 0 (by decide) (by decide))) ?_
      refine RL.opD (by decide) (opv_move rfl rfl) ?_
      refine RL.yes _ rfl rfl c1 (by decide) (opv_move rfl rfl) ?_
      rintro _ _ ⟨rfl, rfl⟩
      refine RL.yes _ rfl rfl c1 (by decide) (opv_fcmp rfl rfl rfl rfl g0 (isF_lit .f32 1065353216 (by decide) (by decide))) ?_
      rintro _ _ ⟨rfl, rfl⟩
      refine RL.opD (by decide) (opv_pick rfl rfl (fun _ => rfl) (fun e => absurd (Eq.trans (Eq.symm e) c1) (by decide)) rfl) ?_
      refine RL.opD (by decide) (opv_assign rfl rfl) ?_
      refine RL.nil ?_
      have ey1 := Option.some.inj hy1
      subst ey1
      refine onlyN ?_
      exact ⟨⟨rfl, rfl, trivial⟩, rfl⟩
    · rw [if_neg c1] at hy1
      have c1 := eq_false_of_ne_true c1
      refine W.region ?_
      refine RL.opD (by decide) (opv_move rfl rfl) ?_
      refine RL.opD (by decide) (opv_fcmp rfl rfl rfl rfl g0 (isF_lit .f32 0 (by decide) (by decide))) ?_
      refine RL.opD (by decide) (opv_move rfl rfl) ?_
      refine RL.no rfl rfl (Eq.trans c1 (by decide)) (by decide) ?_
      refine RL.no rfl rfl (Eq.trans c1 (by decide)) (by decide) ?_
      refine RL.opD (by decide) (opv_pick rfl rfl (fun e => absurd (Eq.trans (Eq.symm e) c1) (by decide)) (fun _ => rfl) rfl) ?_
      refine RL.opD (by decide) (opv_assign rfl rfl) ?_
      refine RL.nil ?_
      have ey1 := Option.some.inj hy1
      subst ey1
      refine onlyN ?_
      exact ⟨⟨rfl, rfl, trivial⟩, rfl⟩
  rintro φ' _ ⟨hs1, rfl⟩
  refine thnN ?_
  refine W.sub hs1 ?_
  refine W.ret ?_
  have er := Option.some.inj hp
  subst er
  exact Rt.one rfl rfl ⟨rfl, rfl⟩

set_option maxRecDepth 20000 in
theorem impl_isWidth_ok (h0 : Heap) (a0 : Int) (r : Bool) (hp : impl_isWidth a0 = some r) : CallsH Try.prog 113 ([(.int .i64 a0)].toArray ++ [].toArray) h0 (fun v h' => v = (.bool r) ∧ h0 = h') := by
  unfold impl_isWidth at hp
  refine callsH_of_W (l := [(.int .i64 a0)]) (cap := []) 5 Try.func113 rfl rfl rfl ?_
  refine W.seq ?_
  refine W.region ?_
  refine RL.opD (by decide) (opv_assign rfl rfl) ?_
  refine RL.nil ?_
  refine thnN ?_
  refine W.seq ?_
  obtain ⟨x1, hx1, hp⟩ := Option.bind_eq_some_iff.1 hp
  refine W.region ?_
  refine RL.opD (by decide) (opv_move rfl rfl) ?_
  refine RL.op _ (by decide) (opv_call (cap := []) (impl_within_ok _ _ _ _ _ hx1) rfl rfl ⟨rfl, rfl, rfl, trivial⟩ Try.func77 rfl rfl) ?_
  rintro _ _ ⟨rfl, rfl⟩
  refine RL.opD (by decide) (opv_assign rfl rfl) ?_
  refine RL.nil ?_
  refine thnN ?_
  refine W.ret ?_
  have er := Option.some.inj hp
  subst er
  exact Rt.one rfl rfl ⟨rfl, rfl⟩

set_option maxRecDepth 20000 in
theorem impl_Sheet_depth_ok (h0 : Heap) (a0_0 : Int) (a0_1 : Int) (a0_2 : Bool) (u0_3 : Value) (a0_3 : List (Option Nat)) (g0_3 : SL (kF .f32) h0.size h0 u0_3 a0_3) (u0_4 : Value) (a0_4 : List (Option Nat)) (g0_4 : SL (kF .f32) h0.size h0 u0_4 a0_4) (a1 : Int) (a2 : Int) (r : Int) (hp : impl_Sheet_depth a0_0 a0_1 a0_2 a0_3 a0_4 a1 a2 = some r) : CallsH Try.prog 115 ([(.agg (List.toArray (α := Value) [(.int .i64 a0_0), (.int .i64 a0_1), (.bool a0_2), u0_3, u0_4])), (.int .i64 a1), (.int .i64 a2)].toArray ++ [].toArray) h0 (fun v h' => v = (.int .i64 r) ∧ Mod [] h0 h' ∧ Sep [] h0.size h' []) := by
  unfold impl_Sheet_depth at hp
  refine callsH_of_W (l := [(.agg (List.toArray (α := Value) [(.int .i64 a0_0), (.int .i64 a0_1), (.bool a0_2), u0_3, u0_4])), (.int .i64 a1), (.int .i64 a2)]) (cap := []) 20 Try.func115 rfl rfl rfl ?_
  refine W.seq ?_
  refine W.region ?_
  refine RL.op _ (by decide) (opS_boxed (opv_boxA (cs := [(.int .i64 a0_0), (.int .i64 a0_1), (.bool a0_2), u0_3, u0_4]) rfl rfl)) ?_
  rintro _ hp1 ⟨bb1, rfl, MT_1, T_1⟩
  have X_1 : Mod [] h0 hp1 := Mod.step (A := []) (L := []) (Mod.refl [] h0) (Sep.nil [] h0.size h0) MT_1
  have S_1 : Sep [] h0.size hp1 [boxO bb1 [(.int .i64 a0_0), (.int .i64 a0_1), (.bool a0_2), u0_3, u0_4]] := Sep.step (A := []) (L := []) (Sep.nil [] h0.size h0) (Mod.size (Mod.refl [] h0)) MT_1 T_1
  refine RL.opD (by decide) (opv_assign rfl rfl) ?_
  refine RL.nil ?_
  refine thnN ?_
  refine W.seq ?_
  refine W.region ?_
  refine RL.opD (by decide) (opv_move rfl rfl) ?_
  refine RL.opD (by decide) (opv_move rfl rfl) ?_
  refine RL.opD (by decide) (opv_fieldAddr rfl Try.fo29_0 rfl) ?_
  refine RL.opD (by decide) (opv_loadB rfl Try.one2 rfl (Sep.at (o := boxO bb1 [(.int .i64 a0_0), (.int .i64 a0_1), (.bool a0_2), u0_3, u0_4]) S_1 0 rfl) rfl) ?_
  refine RL.opD (by decide) (opv_sub rfl rfl rfl) ?_
  refine RL.opD (by decide) (opv_move rfl rfl) ?_
  refine RL.opD (by decide) (opv_sub rfl rfl rfl) ?_
  refine RL.opD (by decide) (opv_fieldAddr rfl Try.fo29_1 rfl) ?_
  refine RL.opD (by decide) (opv_loadB rfl Try.one2 rfl (Sep.at (o := boxO bb1 [(.int .i64 a0_0), (.int .i64 a0_1), (.bool a0_2), u0_3, u0_4]) S_1 0 rfl) rfl) ?_
  refine RL.opD (by decide) (opv_sub rfl rfl rfl) ?_
  refine RL.opD (by decide) (opv_move rfl rfl) ?_
  refine RL.opD (by decide) (opv_sub rfl rfl rfl) ?_
  refine RL.opD (by decide) (opv_min4 rfl rfl rfl rfl rfl) ?_
  refine RL.opD (by decide) (opv_assign rfl rfl) ?_
  refine RL.nil ?_
  refine thnN ?_
  refine W.ret ?_
  have er := Option.some.inj hp
  subst er
  exact Rt.one rfl rfl ⟨rfl, X_1, (Sep.nil _ _ _)⟩

set_option maxRecDepth 20000 in
theorem impl_Rect_has_ok (h0 : Heap) (a0_0 : Int) (a0_1 : Int) (a0_2 : Int) (a0_3 : Int) (a1 : Int) (a2 : Int) (r : Bool) (hp : impl_Rect_has a0_0 a0_1 a0_2 a0_3 a1 a2 = some r) : CallsH Try.prog 111 ([(.agg (List.toArray (α := Value) [(.int .i64 a0_0), (.int .i64 a0_1), (.int .i64 a0_2), (.int .i64 a0_3)])), (.int .i64 a1), (.int .i64 a2)].toArray ++ [].toArray) h0 (fun v h' => v = (.bool r) ∧ Mod [] h0 h' ∧ Sep [] h0.size h' []) := by
  unfold impl_Rect_has at hp
  refine callsH_of_W (l := [(.agg (List.toArray (α := Value) [(.int .i64 a0_0), (.int .i64 a0_1), (.int .i64 a0_2), (.int .i64 a0_3)])), (.int .i64 a1), (.int .i64 a2)]) (cap := []) 29 Try.func111 rfl rfl rfl ?_
  refine W.seq ?_
  refine W.region ?_
  refine RL.op _ (by decide) (opS_boxed (opv_boxA (cs := [(.int .i64 a0_0), (.int .i64 a0_1), (.int .i64 a0_2), (.int .i64 a0_3)]) rfl rfl)) ?_
  rintro _ hp1 ⟨bb1, rfl, MT_1, T_1⟩
  have X_1 : Mod [] h0 hp1 := Mod.step (A := []) (L := []) (Mod.refl [] h0) (Sep.nil [] h0.size h0) MT_1
  have S_1 : Sep [] h0.size hp1 [boxO bb1 [(.int .i64 a0_0), (.int .i64 a0_1), (.int .i64 a0_2), (.int .i64 a0_3)]] := Sep.step (A := []) (L := []) (Sep.nil [] h0.size h0) (Mod.size (Mod.refl [] h0)) MT_1 T_1
  refine RL.opD (by decide) (opv_assign rfl rfl) ?_
  refine RL.nil ?_
  refine thnN ?_
  refine W.seq ?_
  obtain ⟨x1, hy1, hp⟩ := Option.bind_eq_some_iff.1 hp
  refine W.cut (fun φ' h' => Fr.sub [(0, (.agg (List.toArray (α := Value) [(.int .i64 a0_0), (.int .i64 a0_1), (.int .i64 a0_2), (.int .i64 a0_3)]))), (1, (.int .i64 a1)), (2, (.int .i64 a2)), (3, (.pointer (some ⟨bb1, 0, none⟩))), (6, (.bool x1))] φ' ∧ hp1 = h') ?_ ?_
  · obtain ⟨x2, hx2, hy1⟩ := Option.bind_eq_some_iff.1 hy1
    by_cases c1 : x2 = true
    · rw [if_pos c1] at hy1
      obtain ⟨x3, hx3, hy1⟩ := Option.bind_eq_some_iff.1 hy1
      refine W.region ?_
      refine RL.opD (by decide) (opv_move rfl rfl) ?_
      refine RL.opD (by decide) (opv_fieldAddr rfl Try.fo79_0 rfl) ?_
      refine RL.opD (by decide) (opv_loadB rfl Try.one2 rfl (Sep.at (o := boxO bb1 [(.int .i64 a0_0), (.int .i64 a0_1), (.int .i64 a0_2), (.int .i64 a0_3)]) S_1 0 rfl) rfl) ?_
      refine RL.opD (by decide) (opv_fieldAddr rfl Try.fo79_0 rfl) ?_
      refine RL.opD (by decide) (opv_loadB rfl Try.one2 rfl (Sep.at (o := boxO bb1 [(.int .i64 a0_0), (.int .i64 a0_1), (.int .i64 a0_2), (.int .i64 a0_3)]) S_1 0 rfl) rfl) ?_
      refine RL.opD (by decide) (opv_fieldAddr rfl Try.fo79_2 rfl) ?_
      refine RL.opD (by decide) (opv_loadB rfl Try.one2 rfl (Sep.at (o := boxO bb1 [(.int .i64 a0_0), (.int .i64 a0_1), (.int .i64 a0_2), (.int .i64 a0_3)]) S_1 0 rfl) rfl) ?_
      refine RL.opD (by decide) (opv_add rfl rfl rfl) ?_
      refine RL.opD (by decide) (opv_sub rfl rfl rfl) ?_
      refine RL.op _ (by decide) (opv_call (cap := []) (impl_within_ok _ _ _ _ _ hx2) rfl rfl ⟨rfl, rfl, rfl, trivial⟩ Try.func77 rfl rfl) ?_
      rintro _ _ ⟨rfl, rfl⟩
      refine RL.opD (by decide) (opv_move rfl rfl) ?_
      refine RL.yes _ rfl rfl c1 (by decide) (opv_move rfl rfl) ?_
      rintro _ _ ⟨rfl, rfl⟩
      refine RL.yes _ rfl rfl c1 (by decide) (opv_fieldAddr rfl Try.fo79_1 rfl) ?_
      rintro _ _ ⟨rfl, rfl⟩
      refine RL.yes _ rfl rfl c1 (by decide) (opv_loadB rfl Try.one2 rfl (Sep.at (o := boxO bb1 [(.int .i64 a0_0), (.int .i64 a0_1), (.int .i64 a0_2), (.int .i64 a0_3)]) S_1 0 rfl) rfl) ?_
      rintro _ _ ⟨rfl, rfl⟩
      refine RL.yes _ rfl rfl c1 (by decide) (opv_fieldAddr rfl Try.fo79_1 rfl) ?_
      rintro _ _ ⟨rfl, rfl⟩
      refine RL.yes _ rfl rfl c1 (by decide) (opv_loadB rfl Try.one2 rfl (Sep.at (o := boxO bb1 [(.int .i64 a0_0), (.int .i64 a0_1), (.int .i64 a0_2), (.int .i64 a0_3)]) S_1 0 rfl) rfl) ?_
      rintro _ _ ⟨rfl, rfl⟩
      refine RL.yes _ rfl rfl c1 (by decide) (opv_fieldAddr rfl Try.fo79_3 rfl) ?_
      rintro _ _ ⟨rfl, rfl⟩
      refine RL.yes _ rfl rfl c1 (by decide) (opv_loadB rfl Try.one2 rfl (Sep.at (o := boxO bb1 [(.int .i64 a0_0), (.int .i64 a0_1), (.int .i64 a0_2), (.int .i64 a0_3)]) S_1 0 rfl) rfl) ?_
      rintro _ _ ⟨rfl, rfl⟩
      refine RL.yes _ rfl rfl c1 (by decide) (opv_add rfl rfl rfl) ?_
      rintro _ _ ⟨rfl, rfl⟩
      refine RL.yes _ rfl rfl c1 (by decide) (opv_sub rfl rfl rfl) ?_
      rintro _ _ ⟨rfl, rfl⟩
      refine RL.yes _ rfl rfl c1 (by decide) (opv_call (cap := []) (impl_within_ok _ _ _ _ _ hx3) rfl rfl ⟨rfl, rfl, rfl, trivial⟩ Try.func77 rfl rfl) ?_
      rintro _ _ ⟨rfl, rfl⟩
      refine RL.opD (by decide) (opv_pick rfl rfl (fun _ => rfl) (fun e => absurd (Eq.trans (Eq.symm e) c1) (by decide)) rfl) ?_
      refine RL.opD (by decide) (opv_assign rfl rfl) ?_
      refine RL.nil ?_
      have ey1 := Option.some.inj hy1
      subst ey1
      refine onlyN ?_
      exact ⟨⟨rfl, rfl, rfl, rfl, rfl, trivial⟩, rfl⟩
    · rw [if_neg c1] at hy1
      have c1 := eq_false_of_ne_true c1
      refine W.region ?_
      refine RL.opD (by decide) (opv_move rfl rfl) ?_
      refine RL.opD (by decide) (opv_fieldAddr rfl Try.fo79_0 rfl) ?_
      refine RL.opD (by decide) (opv_loadB rfl Try.one2 rfl (Sep.at (o := boxO bb1 [(.int .i64 a0_0), (.int .i64 a0_1), (.int .i64 a0_2), (.int .i64 a0_3)]) S_1 0 rfl) rfl) ?_
      refine RL.opD (by decide) (opv_fieldAddr rfl Try.fo79_0 rfl) ?_
      refine RL.opD (by decide) (opv_loadB rfl Try.one2 rfl (Sep.at (o := boxO bb1 [(.int .i64 a0_0), (.int .i64 a0_1), (.int .i64 a0_2), (.int .i64 a0_3)]) S_1 0 rfl) rfl) ?_
      refine RL.opD (by decide) (opv_fieldAddr rfl Try.fo79_2 rfl) ?_
      refine RL.opD (by decide) (opv_loadB rfl Try.one2 rfl (Sep.at (o := boxO bb1 [(.int .i64 a0_0), (.int .i64 a0_1), (.int .i64 a0_2), (.int .i64 a0_3)]) S_1 0 rfl) rfl) ?_
      refine RL.opD (by decide) (opv_add rfl rfl rfl) ?_
      refine RL.opD (by decide) (opv_sub rfl rfl rfl) ?_
      refine RL.op _ (by decide) (opv_call (cap := []) (impl_within_ok _ _ _ _ _ hx2) rfl rfl ⟨rfl, rfl, rfl, trivial⟩ Try.func77 rfl rfl) ?_
      rintro _ _ ⟨rfl, rfl⟩
      refine RL.opD (by decide) (opv_move rfl rfl) ?_
      refine RL.no rfl rfl (Eq.trans c1 (by decide)) (by decide) ?_
      refine RL.no rfl rfl (Eq.trans c1 (by decide)) (by decide) ?_
      refine RL.no rfl rfl (Eq.trans c1 (by decide)) (by decide) ?_
      refine RL.no rfl rfl (Eq.trans c1 (by decide)) (by decide) ?_
      refine RL.no rfl rfl (Eq.trans c1 (by decide)) (by decide) ?_
      refine RL.no rfl rfl (Eq.trans c1 (by decide)) (by decide) ?_
      refine RL.no rfl rfl (Eq.trans c1 (by decide)) (by decide) ?_
      refine RL.no rfl rfl (Eq.trans c1 (by decide)) (by decide) ?_
      refine RL.no rfl rfl (Eq.trans c1 (by decide)) (by decide) ?_
      refine RL.no rfl rfl (Eq.trans c1 (by decide)) (by decide) ?_
      refine RL.opD (by decide) (opv_pick rfl rfl (fun e => absurd (Eq.trans (Eq.symm e) c1) (by decide)) (fun _ => rfl) rfl) ?_
      refine RL.opD (by decide) (opv_assign rfl rfl) ?_
      refine RL.nil ?_
      have ey1 := Option.some.inj hy1
      subst ey1
      refine onlyN ?_
      exact ⟨⟨rfl, rfl, rfl, rfl, rfl, trivial⟩, rfl⟩
  rintro φ' _ ⟨hs1, rfl⟩
  refine thnN ?_
  refine W.sub hs1 ?_
  refine W.ret ?_
  have er := Option.some.inj hp
  subst er
  exact Rt.one rfl rfl ⟨rfl, X_1, (Sep.nil _ _ _)⟩

set_option maxRecDepth 20000 in
theorem impl_copySheet_ok (h0 : Heap) (a0_0 : Int) (a0_1 : Int) (a0_2 : Bool) (u0_3 : Value) (a0_3 : List (Option Nat)) (g0_3 : SL (kF .f32) h0.size h0 u0_3 a0_3) (u0_4 : Value) (a0_4 : List (Option Nat)) (g0_4 : SL (kF .f32) h0.size h0 u0_4 a0_4) (r : (Int × Int × Bool × (List (Option Nat)) × (List (Option Nat)))) (hp : impl_copySheet a0_0 a0_1 a0_2 a0_3 a0_4 = some r) : CallsH Try.prog 98 ([(.agg (List.toArray (α := Value) [(.int .i64 a0_0), (.int .i64 a0_1), (.bool a0_2), u0_3, u0_4]))].toArray ++ [].toArray) h0 (fun v h' => ∃ w3, ∃ w4, v = (.agg (List.toArray (α := Value) [(.int .i64 r.1), (.int .i64 r.2.1), (.bool r.2.2.1), w3, w4])) ∧ Mod [] h0 h' ∧ Sep [] h0.size h' [ownO (kF .f32) 40 w3 r.2.2.2.1, ownO (kF .f32) 40 w4 r.2.2.2.2]) := by
  unfold impl_copySheet at hp
  refine callsH_of_W (l := [(.agg (List.toArray (α := Value) [(.int .i64 a0_0), (.int .i64 a0_1), (.bool a0_2), u0_3, u0_4]))]) (cap := []) 12 Try.func98 rfl rfl rfl ?_
  refine W.seq ?_
  refine W.region ?_
  refine RL.op _ (by decide) (opS_boxed (opv_boxA (cs := [(.int .i64 a0_0), (.int .i64 a0_1), (.bool a0_2), u0_3, u0_4]) rfl rfl)) ?_
  rintro _ hp1 ⟨bb1, rfl, MT_1, T_1⟩
  have X_1 : Mod [] h0 hp1 := Mod.step (A := []) (L := []) (Mod.refl [] h0) (Sep.nil [] h0.size h0) MT_1
  have S_1 : Sep [] h0.size hp1 [boxO bb1 [(.int .i64 a0_0), (.int .i64 a0_1), (.bool a0_2), u0_3, u0_4]] := Sep.step (A := []) (L := []) (Sep.nil [] h0.size h0) (Mod.size (Mod.refl [] h0)) MT_1 T_1
  refine RL.op _ (by decide) (opS_boxed (opv_alloc (cs := [(.int .i64 0), (.int .i64 0), (.bool false), (.slice none 0 0), (.slice none 0 0)]) rfl Try.zero29 rfl)) ?_
  rintro _ hp2 ⟨bb2, rfl, MT_2, T_2⟩
  have X_2 : Mod [] h0 hp2 := Mod.step (A := []) (L := [boxO bb1 [(.int .i64 a0_0), (.int .i64 a0_1), (.bool a0_2), u0_3, u0_4]]) X_1 S_1 MT_2
  have S_2 : Sep [] h0.size hp2 [boxO bb2 [(.int .i64 0), (.int .i64 0), (.bool false), (.slice none 0 0), (.slice none 0 0)], boxO bb1 [(.int .i64 a0_0), (.int .i64 a0_1), (.bool a0_2), u0_3, u0_4]] := Sep.step (A := []) (L := [boxO bb1 [(.int .i64 a0_0), (.int .i64 a0_1), (.bool a0_2), u0_3, u0_4]]) S_1 (Mod.size X_1) MT_2 T_2
  refine RL.nil ?_
  refine thnN ?_
  refine W.seq ?_
  obtain ⟨x1, hx1, hp⟩ := Option.bind_eq_some_iff.1 hp
  obtain ⟨x2, hx2, hp⟩ := Option.bind_eq_some_iff.1 hp
  refine W.sub (ψ := [(0, (.agg (List.toArray (α := Value) [(.int .i64 a0_0), (.int .i64 a0_1), (.bool a0_2), u0_3, u0_4]))), (1, (.pointer (some ⟨bb1, 0, none⟩))), (2, (.pointer (some ⟨bb2, 0, none⟩)))]) ⟨rfl, rfl, rfl, trivial⟩ ?_
  refine W.regionM [fun v _ => @Eq Value (.pointer (some ⟨bb1, 3, none⟩)) v, fun v _ => @Eq Value u0_3 v, fun v1 h => Sep [] hp2.size h [ownO (kF .f32) 40 v1 x1], fun v _ => @Eq Value (.pointer (some ⟨bb1, 4, none⟩)) v, fun v _ => @Eq Value u0_4 v, fun v2 h => Sep [] hp2.size h [ownO (kF .f32) 40 v2 x2], fun v _ => @Eq Value (.pointer (some ⟨bb1, 3, none⟩)) v] [none, none, some (fun u => [Value.ownBlock u]), none, none, some (fun u => [Value.ownBlock u]), none] [] [[], [0], [1], [], [3], [4], []] [2, 5, 6] Try.mixed (by decide +kernel) (by decide +kernel) rfl rfl rfl (by decide +kernel) rfl ⟨fun _ _ _ h _ => h, fun _ _ _ h _ => h, fun _ _ _ h x => h.ext x, fun _ _ _ h _ => h, fun _ _ _ h _ => h, fun _ _ _ h x => h.ext x, fun _ _ _ h _ => h, trivial⟩ ?_ ?_
  · refine ⟨⟨rfl, ?_⟩, ⟨rfl, ?_⟩, ⟨rfl, ?_⟩, ⟨rfl, ?_⟩, ⟨rfl, ?_⟩, ⟨rfl, ?_⟩, ⟨rfl, ?_⟩, trivial⟩
    · rintro hp7 E_1
      refine Dep.nil ?_
      refine GuardOK.none rfl ?_
      exact OpV.toDx (opv_fieldAddr rfl Try.fo29_3 rfl) rfl
    · rintro hp8 E_2 _ rfl
      refine Dep.nil ?_
      refine GuardOK.none rfl ?_
      exact OpV.toDx (opv_loadB rfl Try.one22 rfl (Sep.at (o := boxO bb1 [(.int .i64 a0_0), (.int .i64 a0_1), (.bool a0_2), u0_3, u0_4]) (Sep.ext S_2 E_2) 1 rfl) rfl) rfl
    · rintro hp9 E_3 _ rfl
      refine Dep.nil ?_
      refine GuardOK.none rfl ?_
      exact OpV.mono (opv_call (cap := []) (impl_copyOf_ok _ _ _ (SL.up (SL.mod g0_3 (Mod.lift X_2 E_3) (Nat.le_refl _) nob) (Nat.le_trans (Nat.le_refl _) (Mod.size (Mod.lift X_2 E_3)))) _ hx1) rfl rfl ⟨rfl, trivial⟩ Try.func145 rfl rfl) (by rintro _ _ ⟨M_, T_⟩; exact ⟨Mod.ext M_, Sep.weak T_ (Ext.size E_3), Sep.fresh T_⟩)
    · rintro hp10 E_4
      refine Dep.nil ?_
      refine GuardOK.none rfl ?_
      exact OpV.toDx (opv_fieldAddr rfl Try.fo29_4 rfl) rfl
    · rintro hp11 E_5 _ rfl
      refine Dep.nil ?_
      refine GuardOK.none rfl ?_
      exact OpV.toDx (opv_loadB rfl Try.one22 rfl (Sep.at (o := boxO bb1 [(.int .i64 a0_0), (.int .i64 a0_1), (.bool a0_2), u0_3, u0_4]) (Sep.ext S_2 E_5) 1 rfl) rfl) rfl
    · rintro hp12 E_6 _ rfl
      refine Dep.nil ?_
      refine GuardOK.none rfl ?_
      exact OpV.mono (opv_call (cap := []) (impl_copyOf_ok _ _ _ (SL.up (SL.mod g0_4 (Mod.lift X_2 E_6) (Nat.le_refl _) nob) (Nat.le_trans (Nat.le_refl _) (Mod.size (Mod.lift X_2 E_6)))) _ hx2) rfl rfl ⟨rfl, trivial⟩ Try.func145 rfl rfl) (by rintro _ _ ⟨M_, T_⟩; exact ⟨Mod.ext M_, Sep.weak T_ (Ext.size E_6), Sep.fresh T_⟩)
    · rintro hp13 E_7
      refine Dep.nil ?_
      refine GuardOK.none rfl ?_
      exact OpV.toDx (opv_fieldAddr rfl Try.fo29_3 rfl) rfl
  rintro hp14 E_8 v1 T_3 v2 T_4 _ rfl
  refine DepM.nil ?_
  intro PW_1 LK_
  have X_7 : Mod [] h0 hp14 := Mod.lift X_2 E_8
  have S_9 : Sep [] h0.size hp14 [ownO (kF .f32) 40 v1 x1, ownO (kF .f32) 40 v2 x2, boxO bb2 [(.int .i64 0), (.int .i64 0), (.bool false), (.slice none 0 0), (.slice none 0 0)], boxO bb1 [(.int .i64 a0_0), (.int .i64 a0_1), (.bool a0_2), u0_3, u0_4]] := Sep.join S_2 (Mod.size X_2) (Ext.mod E_8 []) (Sep.both T_3 T_4 (Apt.symm (Apt.of PW_1 1 2 rfl rfl (by decide))))
  show RL _ _ _ _ (_ :: _) _ _
  refine RL.op0 _ (opS_stored (cs := [(.int .i64 a0_0), (.int .i64 a0_1), (.bool a0_2), u0_3, u0_4]) (cs' := [(.int .i64 a0_0), (.int .i64 a0_1), (.bool a0_2), v1, u0_4]) (opv_storeB (k := 3) (cs := [(.int .i64 a0_0), (.int .i64 a0_1), (.bool a0_2), u0_3, u0_4]) rfl Try.size22 rfl rfl (ownO.one (Sep.at (o := ownO (kF .f32) 40 v1 x1) S_9 0 rfl)) (Sep.at (o := boxO bb1 [(.int .i64 a0_0), (.int .i64 a0_1), (.bool a0_2), u0_3, u0_4]) S_9 3 rfl) (Nat.le_of_ble_eq_true rfl)) (Sep.at (o := boxO bb1 [(.int .i64 a0_0), (.int .i64 a0_1), (.bool a0_2), u0_3, u0_4]) S_9 3 rfl)) ?_
  rintro _ hp15 ⟨rfl, MT_7, T_7⟩
  have S_10 : Sep [] h0.size hp14 ([boxO bb1 [(.int .i64 a0_0), (.int .i64 a0_1), (.bool a0_2), u0_3, u0_4]] ++ [ownO (kF .f32) 40 v1 x1, ownO (kF .f32) 40 v2 x2, boxO bb2 [(.int .i64 0), (.int .i64 0), (.bool false), (.slice none 0 0), (.slice none 0 0)]]) := Sep.sel S_9 [3, 0, 1, 2] (by decide)
  have X_8 : Mod [] h0 hp15 := Mod.step (A := [boxO bb1 [(.int .i64 a0_0), (.int .i64 a0_1), (.bool a0_2), u0_3, u0_4]]) (L := [ownO (kF .f32) 40 v1 x1, ownO (kF .f32) 40 v2 x2, boxO bb2 [(.int .i64 0), (.int .i64 0), (.bool false), (.slice none 0 0), (.slice none 0 0)]]) X_7 S_10 MT_7
  have S_11 : Sep [] h0.size hp15 [boxO bb1 [(.int .i64 a0_0), (.int .i64 a0_1), (.bool a0_2), v1, u0_4], ownO (kF .f32) 40 v1 x1, ownO (kF .f32) 40 v2 x2, boxO bb2 [(.int .i64 0), (.int .i64 0), (.bool false), (.slice none 0 0), (.slice none 0 0)]] := Sep.step (A := [boxO bb1 [(.int .i64 a0_0), (.int .i64 a0_1), (.bool a0_2), u0_3, u0_4]]) (L := [ownO (kF .f32) 40 v1 x1, ownO (kF .f32) 40 v2 x2, boxO bb2 [(.int .i64 0), (.int .i64 0), (.bool false), (.slice none 0 0), (.slice none 0 0)]]) S_10 (Mod.size X_7) MT_7 T_7
  refine RL.opD (by decide) (opv_fieldAddr rfl Try.fo29_4 rfl) ?_
  refine RL.op0 _ (opS_stored (cs := [(.int .i64 a0_0), (.int .i64 a0_1), (.bool a0_2), v1, u0_4]) (cs' := [(.int .i64 a0_0), (.int .i64 a0_1), (.bool a0_2), v1, v2]) (opv_storeB (k := 4) (cs := [(.int .i64 a0_0), (.int .i64 a0_1), (.bool a0_2), v1, u0_4]) rfl Try.size22 rfl rfl (ownO.one (Sep.at (o := ownO (kF .f32) 40 v2 x2) S_11 2 rfl)) (Sep.at (o := boxO bb1 [(.int .i64 a0_0), (.int .i64 a0_1), (.bool a0_2), v1, u0_4]) S_11 0 rfl) (Nat.le_of_ble_eq_true rfl)) (Sep.at (o := boxO bb1 [(.int .i64 a0_0), (.int .i64 a0_1), (.bool a0_2), v1, u0_4]) S_11 0 rfl)) ?_
  rintro _ hp16 ⟨rfl, MT_8, T_8⟩
  have S_12 : Sep [] h0.size hp15 ([boxO bb1 [(.int .i64 a0_0), (.int .i64 a0_1), (.bool a0_2), v1, u0_4]] ++ [ownO (kF .f32) 40 v1 x1, ownO (kF .f32) 40 v2 x2, boxO bb2 [(.int .i64 0), (.int .i64 0), (.bool false), (.slice none 0 0), (.slice none 0 0)]]) := Sep.sel S_11 [0, 1, 2, 3] (by decide)
  have X_9 : Mod [] h0 hp16 := Mod.step (A := [boxO bb1 [(.int .i64 a0_0), (.int .i64 a0_1), (.bool a0_2), v1, u0_4]]) (L := [ownO (kF .f32) 40 v1 x1, ownO (kF .f32) 40 v2 x2, boxO bb2 [(.int .i64 0), (.int .i64 0), (.bool false), (.slice none 0 0), (.slice none 0 0)]]) X_8 S_12 MT_8
  have S_13 : Sep [] h0.size hp16 [boxO bb1 [(.int .i64 a0_0), (.int .i64 a0_1), (.bool a0_2), v1, v2], ownO (kF .f32) 40 v1 x1, ownO (kF .f32) 40 v2 x2, boxO bb2 [(.int .i64 0), (.int .i64 0), (.bool false), (.slice none 0 0), (.slice none 0 0)]] := Sep.step (A := [boxO bb1 [(.int .i64 a0_0), (.int .i64 a0_1), (.bool a0_2), v1, u0_4]]) (L := [ownO (kF .f32) 40 v1 x1, ownO (kF .f32) 40 v2 x2, boxO bb2 [(.int .i64 0), (.int .i64 0), (.bool false), (.slice none 0 0), (.slice none 0 0)]]) S_12 (Mod.size X_8) MT_8 T_8
  refine RL.nil ?_
  refine thnN ?_
  refine W.seq ?_
  refine W.region ?_
  refine RL.opD (by decide) (opv_loadA (us := [(.int .i64 a0_0), (.int .i64 a0_1), (.bool a0_2), v1, v2]) rfl Try.agg29 Try.size29 rfl (Sep.at (o := boxO bb1 [(.int .i64 a0_0), (.int .i64 a0_1), (.bool a0_2), v1, v2]) S_13 0 rfl) rfl rfl) ?_
  refine RL.op0 _ (opS_stored (cs := [(.int .i64 0), (.int .i64 0), (.bool false), (.slice none 0 0), (.slice none 0 0)]) (cs' := [(.int .i64 a0_0), (.int .i64 a0_1), (.bool a0_2), v1, v2]) (opv_storeA (us := [(.int .i64 a0_0), (.int .i64 a0_1), (.bool a0_2), v1, v2]) rfl Try.size29 rfl rfl (oneAll rfl (oneAll rfl (oneAll rfl (oneAll (ownO.one (Sep.at (o := ownO (kF .f32) 40 v1 x1) S_13 1 rfl)) (oneAll (ownO.one (Sep.at (o := ownO (kF .f32) 40 v2 x2) S_13 2 rfl)) rfl))))) (Sep.at (o := boxO bb2 [(.int .i64 0), (.int .i64 0), (.bool false), (.slice none 0 0), (.slice none 0 0)]) S_13 3 rfl) rfl rfl) (Sep.at (o := boxO bb2 [(.int .i64 0), (.int .i64 0), (.bool false), (.slice none 0 0), (.slice none 0 0)]) S_13 3 rfl)) ?_
  rintro _ hp17 ⟨rfl, MT_9, T_9⟩
  have S_14 : Sep [] h0.size hp16 ([boxO bb2 [(.int .i64 0), (.int .i64 0), (.bool false), (.slice none 0 0), (.slice none 0 0)]] ++ [boxO bb1 [(.int .i64 a0_0), (.int .i64 a0_1), (.bool a0_2), v1, v2], ownO (kF .f32) 40 v1 x1, ownO (kF .f32) 40 v2 x2]) := Sep.sel S_13 [3, 0, 1, 2] (by decide)
  have X_10 : Mod [] h0 hp17 := Mod.step (A := [boxO bb2 [(.int .i64 0), (.int .i64 0), (.bool false), (.slice none 0 0), (.slice none 0 0)]]) (L := [boxO bb1 [(.int .i64 a0_0), (.int .i64 a0_1), (.bool a0_2), v1, v2], ownO (kF .f32) 40 v1 x1, ownO (kF .f32) 40 v2 x2]) X_9 S_14 MT_9
  have S_15 : Sep [] h0.size hp17 [boxO bb2 [(.int .i64 a0_0), (.int .i64 a0_1), (.bool a0_2), v1, v2], boxO bb1 [(.int .i64 a0_0), (.int .i64 a0_1), (.bool a0_2), v1, v2], ownO (kF .f32) 40 v1 x1, ownO (kF .f32) 40 v2 x2] := Sep.step (A := [boxO bb2 [(.int .i64 0), (.int .i64 0), (.bool false), (.slice none 0 0), (.slice none 0 0)]]) (L := [boxO bb1 [(.int .i64 a0_0), (.int .i64 a0_1), (.bool a0_2), v1, v2], ownO (kF .f32) 40 v1 x1, ownO (kF .f32) 40 v2 x2]) S_14 (Mod.size X_9) MT_9 T_9
  refine RL.nil ?_
  refine thnN ?_
  refine W.ret ?_
  have er := Option.some.inj hp
  subst er
  exact Rt.cell1 rfl rfl Try.agg29 Try.size29 (Sep.at (o := boxO bb2 [(.int .i64 a0_0), (.int .i64 a0_1), (.bool a0_2), v1, v2]) S_15 0 rfl) rfl ⟨v1, v2, rfl, X_10, (Sep.sel S_15 [2, 3] (by decide))⟩

set_option maxRecDepth 20000 in
theorem spec_l05Own_ok (h0 : Heap) (b0 : Nat) (a0_0 : Int) (a0_1 : Int) (a0_2 : Bool) (u0_3 : Value) (a0_3 : List (Option Nat)) (g0_3 : SL (kF .f32) h0.size h0 u0_3 a0_3) (u0_4 : Value) (a0_4 : List (Option Nat)) (g0_4 : SL (kF .f32) h0.size h0 u0_4 a0_4) (G0 : Bx h0 b0 [(.int .i64 a0_0), (.int .i64 a0_1), (.bool a0_2), u0_3, u0_4]) (r : (Int × Int × Bool × (List (Option Nat)) × (List (Option Nat)))) (hp : spec_l05Own a0_0 a0_1 a0_2 a0_3 a0_4 = some r) : CallsH Try.prog 97 ([(.pointer (some ⟨b0, 0, none⟩))].toArray ++ [].toArray) h0 (fun v h' => ∃ w3, ∃ w4, v = (.agg (List.toArray (α := Value) [(.int .i64 r.1), (.int .i64 r.2.1), (.bool r.2.2.1), w3, w4])) ∧ Mod [] h0 h' ∧ Sep [] h0.size h' [ownO (kF .f32) 40 w3 r.2.2.2.1, ownO (kF .f32) 40 w4 r.2.2.2.2]) := by
  unfold spec_l05Own at hp
  refine callsH_of_W (l := [(.pointer (some ⟨b0, 0, none⟩))]) (cap := []) 22 Try.func97 rfl rfl rfl ?_
  refine W.seq ?_
  refine W.region ?_
  refine RL.op _ (by decide) (opS_boxed (opv_alloc (cs := [(.int .i64 0), (.int .i64 0), (.bool false), (.slice none 0 0), (.slice none 0 0)]) rfl Try.zero29 rfl)) ?_
  rintro _ hp1 ⟨bb1, rfl, MT_1, T_1⟩
  have X_1 : Mod [] h0 hp1 := Mod.step (A := []) (L := []) (Mod.refl [] h0) (Sep.nil [] h0.size h0) MT_1
  have S_1 : Sep [] h0.size hp1 [boxO bb1 [(.int .i64 0), (.int .i64 0), (.bool false), (.slice none 0 0), (.slice none 0 0)]] := Sep.step (A := []) (L := []) (Sep.nil [] h0.size h0) (Mod.size (Mod.refl [] h0)) MT_1 T_1
  refine RL.nil ?_
  refine thnN ?_
  refine W.seq ?_
  refine W.region ?_
  refine RL.opD (by decide) (opv_move rfl rfl) ?_
  refine RL.opD (by decide) (opv_nilCheck rfl rfl) ?_
  refine RL.opD (by decide) (opv_loadA (us := [(.int .i64 a0_0), (.int .i64 a0_1), (.bool a0_2), u0_3, u0_4]) rfl Try.agg29 Try.size29 rfl (Bx.mod G0 X_1 nobB) rfl rfl) ?_
  refine RL.op _ (by decide) (opS_boxed (opv_alloc (cs := [(.int .i64 0), (.int .i64 0), (.bool false), (.slice none 0 0), (.slice none 0 0)]) rfl Try.zero29 rfl)) ?_
  rintro _ hp2 ⟨bb2, rfl, MT_2, T_2⟩
  have X_2 : Mod [] h0 hp2 := Mod.step (A := []) (L := [boxO bb1 [(.int .i64 0), (.int .i64 0), (.bool false), (.slice none 0 0), (.slice none 0 0)]]) X_1 S_1 MT_2
  have S_2 : Sep [] h0.size hp2 [boxO bb2 [(.int .i64 0), (.int .i64 0), (.bool false), (.slice none 0 0), (.slice none 0 0)], boxO bb1 [(.int .i64 0), (.int .i64 0), (.bool false), (.slice none 0 0), (.slice none 0 0)]] := Sep.step (A := []) (L := [boxO bb1 [(.int .i64 0), (.int .i64 0), (.bool false), (.slice none 0 0), (.slice none 0 0)]]) S_1 (Mod.size X_1) MT_2 T_2
  refine RL.op0 _ (opS_stored (cs := [(.int .i64 0), (.int .i64 0), (.bool false), (.slice none 0 0), (.slice none 0 0)]) (cs' := [(.int .i64 a0_0), (.int .i64 a0_1), (.bool a0_2), u0_3, u0_4]) (opv_storeA (us := [(.int .i64 a0_0), (.int .i64 a0_1), (.bool a0_2), u0_3, u0_4]) rfl Try.size29 rfl rfl (oneAll rfl (oneAll rfl (oneAll rfl (oneAll (SL.one g0_3) (oneAll (SL.one g0_4) rfl))))) (Sep.at (o := boxO bb2 [(.int .i64 0), (.int .i64 0), (.bool false), (.slice none 0 0), (.slice none 0 0)]) S_2 0 rfl) rfl rfl) (Sep.at (o := boxO bb2 [(.int .i64 0), (.int .i64 0), (.bool false), (.slice none 0 0), (.slice none 0 0)]) S_2 0 rfl)) ?_
  rintro _ hp3 ⟨rfl, MT_3, T_3⟩
  have S_3 : Sep [] h0.size hp2 ([boxO bb2 [(.int .i64 0), (.int .i64 0), (.bool false), (.slice none 0 0), (.slice none 0 0)]] ++ [boxO bb1 [(.int .i64 0), (.int .i64 0), (.bool false), (.slice none 0 0), (.slice none 0 0)]]) := Sep.sel S_2 [0, 1] (by decide)
  have X_3 : Mod [] h0 hp3 := Mod.step (A := [boxO bb2 [(.int .i64 0), (.int .i64 0), (.bool false), (.slice none 0 0), (.slice none 0 0)]]) (L := [boxO bb1 [(.int .i64 0), (.int .i64 0), (.bool false), (.slice none 0 0), (.slice none 0 0)]]) X_2 S_3 MT_3
  have S_4 : Sep [] h0.size hp3 [boxO bb2 [(.int .i64 a0_0), (.int .i64 a0_1), (.bool a0_2), u0_3, u0_4], boxO bb1 [(.int .i64 0), (.int .i64 0), (.bool false), (.slice none 0 0), (.slice none 0 0)]] := Sep.step (A := [boxO bb2 [(.int .i64 0), (.int .i64 0), (.bool false), (.slice none 0 0), (.slice none 0 0)]]) (L := [boxO bb1 [(.int .i64 0), (.int .i64 0), (.bool false), (.slice none 0 0), (.slice none 0 0)]]) S_3 (Mod.size X_2) MT_3 T_3
  refine RL.nil ?_
  refine thnN ?_
  refine W.seq ?_
  obtain ⟨c1, hp⟩ := of_ite hp
  refine W.region ?_
  refine RL.op _ (by decide) (opS_lit0 (K := (kF .f32)) rfl Try.underlying22 Try.isinfo40) ?_
  rintro v1 hp4 ⟨MT_4, T_4⟩
  have X_4 : Mod [] h0 hp4 := Mod.step (A := []) (L := [boxO bb2 [(.int .i64 a0_0), (.int .i64 a0_1), (.bool a0_2), u0_3, u0_4], boxO bb1 [(.int .i64 0), (.int .i64 0), (.bool false), (.slice none 0 0), (.slice none 0 0)]]) X_3 S_4 MT_4
  have S_5 : Sep [] h0.size hp4 [ownO (kF .f32) 40 v1 ([] : List (Option Nat)), boxO bb2 [(.int .i64 a0_0), (.int .i64 a0_1), (.bool a0_2), u0_3, u0_4], boxO bb1 [(.int .i64 0), (.int .i64 0), (.bool false), (.slice none 0 0), (.slice none 0 0)]] := Sep.step (A := []) (L := [boxO bb2 [(.int .i64 a0_0), (.int .i64 a0_1), (.bool a0_2), u0_3, u0_4], boxO bb1 [(.int .i64 0), (.int .i64 0), (.bool false), (.slice none 0 0), (.slice none 0 0)]]) S_4 (Mod.size X_3) MT_4 T_4
  refine RL.opD (by decide) (opv_move rfl rfl) ?_
  refine RL.opD (by decide) (opv_nilCheck rfl rfl) ?_
  refine RL.opD (by decide) (opv_fieldAddr rfl Try.fo29_3 rfl) ?_
  refine RL.opD (by decide) (opv_loadB rfl Try.one22 rfl (Bx.mod G0 X_4 nobB) rfl) ?_
  refine RL.op _ (by decide) (opS_append (K := (kF .f32)) rfl Try.underlying22 Try.einfo40 rfl rfl rfl rfl (Sep.at (o := ownO (kF .f32) 40 v1 ([] : List (Option Nat))) S_5 0 rfl) (SL.mod g0_3 X_4 (Nat.le_refl _) nob) (by decide) (by decide) c1) ?_
  rintro v2 hp5 ⟨MT_5, T_5⟩
  have S_6 : Sep [] h0.size hp4 ([ownO (kF .f32) 40 v1 ([] : List (Option Nat))] ++ [boxO bb2 [(.int .i64 a0_0), (.int .i64 a0_1), (.bool a0_2), u0_3, u0_4], boxO bb1 [(.int .i64 0), (.int .i64 0), (.bool false), (.slice none 0 0), (.slice none 0 0)]]) := Sep.sel S_5 [0, 1, 2] (by decide)
  have X_5 : Mod [] h0 hp5 := Mod.step (A := [ownO (kF .f32) 40 v1 ([] : List (Option Nat))]) (L := [boxO bb2 [(.int .i64 a0_0), (.int .i64 a0_1), (.bool a0_2), u0_3, u0_4], boxO bb1 [(.int .i64 0), (.int .i64 0), (.bool false), (.slice none 0 0), (.slice none 0 0)]]) X_4 S_6 MT_5
  have S_7 : Sep [] h0.size hp5 [ownO (kF .f32) 40 v2 (([] : List (Option Nat)) ++ a0_3), boxO bb2 [(.int .i64 a0_0), (.int .i64 a0_1), (.bool a0_2), u0_3, u0_4], boxO bb1 [(.int .i64 0), (.int .i64 0), (.bool false), (.slice none 0 0), (.slice none 0 0)]] := Sep.step (A := [ownO (kF .f32) 40 v1 ([] : List (Option Nat))]) (L := [boxO bb2 [(.int .i64 a0_0), (.int .i64 a0_1), (.bool a0_2), u0_3, u0_4], boxO bb1 [(.int .i64 0), (.int .i64 0), (.bool false), (.slice none 0 0), (.slice none 0 0)]]) S_6 (Mod.size X_4) MT_5 T_5
  refine RL.opD (by decide) (opv_fieldAddr rfl Try.fo29_3 rfl) ?_
  refine RL.op0 _ (opS_stored (cs := [(.int .i64 a0_0), (.int .i64 a0_1), (.bool a0_2), u0_3, u0_4]) (cs' := [(.int .i64 a0_0), (.int .i64 a0_1), (.bool a0_2), v2, u0_4]) (opv_storeB (k := 3) (cs := [(.int .i64 a0_0), (.int .i64 a0_1), (.bool a0_2), u0_3, u0_4]) rfl Try.size22 rfl rfl (ownO.one (Sep.at (o := ownO (kF .f32) 40 v2 (([] : List (Option Nat)) ++ a0_3)) S_7 0 rfl)) (Sep.at (o := boxO bb2 [(.int .i64 a0_0), (.int .i64 a0_1), (.bool a0_2), u0_3, u0_4]) S_7 1 rfl) (Nat.le_of_ble_eq_true rfl)) (Sep.at (o := boxO bb2 [(.int .i64 a0_0), (.int .i64 a0_1), (.bool a0_2), u0_3, u0_4]) S_7 1 rfl)) ?_
  rintro _ hp6 ⟨rfl, MT_6, T_6⟩
  have S_8 : Sep [] h0.size hp5 ([boxO bb2 [(.int .i64 a0_0), (.int .i64 a0_1), (.bool a0_2), u0_3, u0_4]] ++ [ownO (kF .f32) 40 v2 (([] : List (Option Nat)) ++ a0_3), boxO bb1 [(.int .i64 0), (.int .i64 0), (.bool false), (.slice none 0 0), (.slice none 0 0)]]) := Sep.sel S_7 [1, 0, 2] (by decide)
  have X_6 : Mod [] h0 hp6 := Mod.step (A := [boxO bb2 [(.int .i64 a0_0), (.int .i64 a0_1), (.bool a0_2), u0_3, u0_4]]) (L := [ownO (kF .f32) 40 v2 (([] : List (Option Nat)) ++ a0_3), boxO bb1 [(.int .i64 0), (.int .i64 0), (.bool false), (.slice none 0 0), (.slice none 0 0)]]) X_5 S_8 MT_6
  have S_9 : Sep [] h0.size hp6 [boxO bb2 [(.int .i64 a0_0), (.int .i64 a0_1), (.bool a0_2), v2, u0_4], ownO (kF .f32) 40 v2 (([] : List (Option Nat)) ++ a0_3), boxO bb1 [(.int .i64 0), (.int .i64 0), (.bool false), (.slice none 0 0), (.slice none 0 0)]] := Sep.step (A := [boxO bb2 [(.int .i64 a0_0), (.int .i64 a0_1), (.bool a0_2), u0_3, u0_4]]) (L := [ownO (kF .f32) 40 v2 (([] : List (Option Nat)) ++ a0_3), boxO bb1 [(.int .i64 0), (.int .i64 0), (.bool false), (.slice none 0 0), (.slice none 0 0)]]) S_8 (Mod.size X_5) MT_6 T_6
  refine RL.nil ?_
  refine thnN ?_
  refine W.seq ?_
  obtain ⟨c2, hp⟩ := of_ite hp
  refine W.region ?_
  refine RL.op _ (by decide) (opS_lit0 (K := (kF .f32)) rfl Try.underlying22 Try.isinfo40) ?_
  rintro v3 hp7 ⟨MT_7, T_7⟩
  have X_7 : Mod [] h0 hp7 := Mod.step (A := []) (L := [boxO bb2 [(.int .i64 a0_0), (.int .i64 a0_1), (.bool a0_2), v2, u0_4], ownO (kF .f32) 40 v2 (([] : List (Option Nat)) ++ a0_3), boxO bb1 [(.int .i64 0), (.int .i64 0), (.bool false), (.slice none 0 0), (.slice none 0 0)]]) X_6 S_9 MT_7
  have S_10 : Sep [] h0.size hp7 [ownO (kF .f32) 40 v3 ([] : List (Option Nat)), boxO bb2 [(.int .i64 a0_0), (.int .i64 a0_1), (.bool a0_2), v2, u0_4], ownO (kF .f32) 40 v2 (([] : List (Option Nat)) ++ a0_3), boxO bb1 [(.int .i64 0), (.int .i64 0), (.bool false), (.slice none 0 0), (.slice none 0 0)]] := Sep.step (A := []) (L := [boxO bb2 [(.int .i64 a0_0), (.int .i64 a0_1), (.bool a0_2), v2, u0_4], ownO (kF .f32) 40 v2 (([] : List (Option Nat)) ++ a0_3), boxO bb1 [(.int .i64 0), (.int .i64 0), (.bool false), (.slice none 0 0), (.slice none 0 0)]]) S_9 (Mod.size X_6) MT_7 T_7
  refine RL.opD (by decide) (opv_move rfl rfl) ?_
  refine RL.opD (by decide) (opv_nilCheck rfl rfl) ?_
  refine RL.opD (by decide) (opv_fieldAddr rfl Try.fo29_4 rfl) ?_
  refine RL.opD (by decide) (opv_loadB rfl Try.one22 rfl (Bx.mod G0 X_7 nobB) rfl) ?_
  refine RL.op _ (by decide) (opS_append (K := (kF .f32)) rfl Try.underlying22 Try.einfo40 rfl rfl rfl rfl (Sep.at (o := ownO (kF .f32) 40 v3 ([] : List (Option Nat))) S_10 0 rfl) (SL.mod g0_4 X_7 (Nat.le_refl _) nob) (by decide) (by decide) c2) ?_
  rintro v4 hp8 ⟨MT_8, T_8⟩
  have S_11 : Sep [] h0.size hp7 ([ownO (kF .f32) 40 v3 ([] : List (Option Nat))] ++ [boxO bb2 [(.int .i64 a0_0), (.int .i64 a0_1), (.bool a0_2), v2, u0_4], ownO (kF .f32) 40 v2 (([] : List (Option Nat)) ++ a0_3), boxO bb1 [(.int .i64 0), (.int .i64 0), (.bool false), (.slice none 0 0), (.slice none 0 0)]]) := Sep.sel S_10 [0, 1, 2, 3] (by decide)
  have X_8 : Mod [] h0 hp8 := Mod.step (A := [ownO (kF .f32) 40 v3 ([] : List (Option Nat))]) (L := [boxO bb2 [(.int .i64 a0_0), (.int .i64 a0_1), (.bool a0_2), v2, u0_4], ownO (kF .f32) 40 v2 (([] : List (Option Nat)) ++ a0_3), boxO bb1 [(.int .i64 0), (.int .i64 0), (.bool false), (.slice none 0 0), (.slice none 0 0)]]) X_7 S_11 MT_8
  have S_12 : Sep [] h0.size hp8 [ownO (kF .f32) 40 v4 (([] : List (Option Nat)) ++ a0_4), boxO bb2 [(.int .i64 a0_0), (.int .i64 a0_1), (.bool a0_2), v2, u0_4], ownO (kF .f32) 40 v2 (([] : List (Option Nat)) ++ a0_3), boxO bb1 [(.int .i64 0), (.int .i64 0), (.bool false), (.slice none 0 0), (.slice none 0 0)]] := Sep.step (A := [ownO (kF .f32) 40 v3 ([] : List (Option Nat))]) (L := [boxO bb2 [(.int .i64 a0_0), (.int .i64 a0_1), (.bool a0_2), v2, u0_4], ownO (kF .f32) 40 v2 (([] : List (Option Nat)) ++ a0_3), boxO bb1 [(.int .i64 0), (.int .i64 0), (.bool false), (.slice none 0 0), (.slice none 0 0)]]) S_11 (Mod.size X_7) MT_8 T_8
  refine RL.opD (by decide) (opv_fieldAddr rfl Try.fo29_4 rfl) ?_
  refine RL.op0 _ (opS_stored (cs := [(.int .i64 a0_0), (.int .i64 a0_1), (.bool a0_2), v2, u0_4]) (cs' := [(.int .i64 a0_0), (.int .i64 a0_1), (.bool a0_2), v2, v4]) (opv_storeB (k := 4) (cs := [(.int .i64 a0_0), (.int .i64 a0_1), (.bool a0_2), v2, u0_4]) rfl Try.size22 rfl rfl (ownO.one (Sep.at (o := ownO (kF .f32) 40 v4 (([] : List (Option Nat)) ++ a0_4)) S_12 0 rfl)) (Sep.at (o := boxO bb2 [(.int .i64 a0_0), (.int .i64 a0_1), (.bool a0_2), v2, u0_4]) S_12 1 rfl) (Nat.le_of_ble_eq_true rfl)) (Sep.at (o := boxO bb2 [(.int .i64 a0_0), (.int .i64 a0_1), (.bool a0_2), v2, u0_4]) S_12 1 rfl)) ?_
  rintro _ hp9 ⟨rfl, MT_9, T_9⟩
  have S_13 : Sep [] h0.size hp8 ([boxO bb2 [(.int .i64 a0_0), (.int .i64 a0_1), (.bool a0_2), v2, u0_4]] ++ [ownO (kF .f32) 40 v4 (([] : List (Option Nat)) ++ a0_4), ownO (kF .f32) 40 v2 (([] : List (Option Nat)) ++ a0_3), boxO bb1 [(.int .i64 0), (.int .i64 0), (.bool false), (.slice none 0 0), (.slice none 0 0)]]) := Sep.sel S_12 [1, 0, 2, 3] (by decide)
  have X_9 : Mod [] h0 hp9 := Mod.step (A := [boxO bb2 [(.int .i64 a0_0), (.int .i64 a0_1), (.bool a0_2), v2, u0_4]]) (L := [ownO (kF .f32) 40 v4 (([] : List (Option Nat)) ++ a0_4), ownO (kF .f32) 40 v2 (([] : List (Option Nat)) ++ a0_3), boxO bb1 [(.int .i64 0), (.int .i64 0), (.bool false), (.slice none 0 0), (.slice none 0 0)]]) X_8 S_13 MT_9
  have S_14 : Sep [] h0.size hp9 [boxO bb2 [(.int .i64 a0_0), (.int .i64 a0_1), (.bool a0_2), v2, v4], ownO (kF .f32) 40 v4 (([] : List (Option Nat)) ++ a0_4), ownO (kF .f32) 40 v2 (([] : List (Option Nat)) ++ a0_3), boxO bb1 [(.int .i64 0), (.int .i64 0), (.bool false), (.slice none 0 0), (.slice none 0 0)]] := Sep.step (A := [boxO bb2 [(.int .i64 a0_0), (.int .i64 a0_1), (.bool a0_2), v2, u0_4]]) (L := [ownO (kF .f32) 40 v4 (([] : List (Option Nat)) ++ a0_4), ownO (kF .f32) 40 v2 (([] : List (Option Nat)) ++ a0_3), boxO bb1 [(.int .i64 0), (.int .i64 0), (.bool false), (.slice none 0 0), (.slice none 0 0)]]) S_13 (Mod.size X_8) MT_9 T_9
  refine RL.nil ?_
  refine thnN ?_
  refine W.seq ?_
  refine W.region ?_
  refine RL.opD (by decide) (opv_loadA (us := [(.int .i64 a0_0), (.int .i64 a0_1), (.bool a0_2), v2, v4]) rfl Try.agg29 Try.size29 rfl (Sep.at (o := boxO bb2 [(.int .i64 a0_0), (.int .i64 a0_1), (.bool a0_2), v2, v4]) S_14 0 rfl) rfl rfl) ?_
  refine RL.op0 _ (opS_stored (cs := [(.int .i64 0), (.int .i64 0), (.bool false), (.slice none 0 0), (.slice none 0 0)]) (cs' := [(.int .i64 a0_0), (.int .i64 a0_1), (.bool a0_2), v2, v4]) (opv_storeA (us := [(.int .i64 a0_0), (.int .i64 a0_1), (.bool a0_2), v2, v4]) rfl Try.size29 rfl rfl (oneAll rfl (oneAll rfl (oneAll rfl (oneAll (ownO.one (Sep.at (o := ownO (kF .f32) 40 v2 (([] : List (Option Nat)) ++ a0_3)) S_14 2 rfl)) (oneAll (ownO.one (Sep.at (o := ownO (kF .f32) 40 v4 (([] : List (Option Nat)) ++ a0_4)) S_14 1 rfl)) rfl))))) (Sep.at (o := boxO bb1 [(.int .i64 0), (.int .i64 0), (.bool false), (.slice none 0 0), (.slice none 0 0)]) S_14 3 rfl) rfl rfl) (Sep.at (o := boxO bb1 [(.int .i64 0), (.int .i64 0), (.bool false), (.slice none 0 0), (.slice none 0 0)]) S_14 3 rfl)) ?_
  rintro _ hp10 ⟨rfl, MT_10, T_10⟩
  have S_15 : Sep [] h0.size hp9 ([boxO bb1 [(.int .i64 0), (.int .i64 0), (.bool false), (.slice none 0 0), (.slice none 0 0)]] ++ [boxO bb2 [(.int .i64 a0_0), (.int .i64 a0_1), (.bool a0_2), v2, v4], ownO (kF .f32) 40 v4 (([] : List (Option Nat)) ++ a0_4), ownO (kF .f32) 40 v2 (([] : List (Option Nat)) ++ a0_3)]) := Sep.sel S_14 [3, 0, 1, 2] (by decide)
  have X_10 : Mod [] h0 hp10 := Mod.step (A := [boxO bb1 [(.int .i64 0), (.int .i64 0), (.bool false), (.slice none 0 0), (.slice none 0 0)]]) (L := [boxO bb2 [(.int .i64 a0_0), (.int .i64 a0_1), (.bool a0_2), v2, v4], ownO (kF .f32) 40 v4 (([] : List (Option Nat)) ++ a0_4), ownO (kF .f32) 40 v2 (([] : List (Option Nat)) ++ a0_3)]) X_9 S_15 MT_10
  have S_16 : Sep [] h0.size hp10 [boxO bb1 [(.int .i64 a0_0), (.int .i64 a0_1), (.bool a0_2), v2, v4], boxO bb2 [(.int .i64 a0_0), (.int .i64 a0_1), (.bool a0_2), v2, v4], ownO (kF .f32) 40 v4 (([] : List (Option Nat)) ++ a0_4), ownO (kF .f32) 40 v2 (([] : List (Option Nat)) ++ a0_3)] := Sep.step (A := [boxO bb1 [(.int .i64 0), (.int .i64 0), (.bool false), (.slice none 0 0), (.slice none 0 0)]]) (L := [boxO bb2 [(.int .i64 a0_0), (.int .i64 a0_1), (.bool a0_2), v2, v4], ownO (kF .f32) 40 v4 (([] : List (Option Nat)) ++ a0_4), ownO (kF .f32) 40 v2 (([] : List (Option Nat)) ++ a0_3)]) S_15 (Mod.size X_9) MT_10 T_10
  refine RL.nil ?_
  refine thnN ?_
  refine W.ret ?_
  have er := Option.some.inj hp
  subst er
  exact Rt.cell1 rfl rfl Try.agg29 Try.size29 (Sep.at (o := boxO bb1 [(.int .i64 a0_0), (.int .i64 a0_1), (.bool a0_2), v2, v4]) S_16 0 rfl) rfl ⟨v2, v4, rfl, X_10, (Sep.sel S_16 [3, 2] (by decide))⟩

end Go.H
