/- Functions of the program: what each computes, as a plain function, and that the call comes to it. Written by a program (wip/gen). -/
import Derived.Test.YthccgmjanoeohaaGBase
import Derived.Test.YthccgmjanoeohaaGSheet
import Derived.Test.YthccgmjanoeohaaGField
import Derived.Test.YthccgmjanoeohaaBase23
import Derived.Test.YthccgmjanoeohaaProg
import Derived.KernelRfl
set_option linter.unusedVariables false
namespace Go.H
open Go Go.Proofs



noncomputable def impl_newValue (a0_0 : Int) (a0_1 : Int) (a0_2 : Bool) (a0_3 : List (Option Nat)) (a0_4 : List (Option Nat)) (a1_0 : List (Option Nat)) (a1_1 : List (Option Nat)) (a1_2 : List (Option Nat)) (a2 : Int) (a3 : Int) : Option (Option Nat) :=
 ((impl_Sheet_at a0_0 a0_1 a0_2 a0_3 a0_4 a2 a3).bind fun (x1 : Int) => ((idx a1_2 x1).bind fun (x2 : Option Nat) => ((impl_Sheet_at a0_0 a0_1 a0_2 a0_3 a0_4 (IntKind.wrap .i64 (a2 - 1)) a3).bind fun (x3 : Int) => ((idx a1_2 x3).bind fun (x4 : Option Nat) => ((idx a1_1 x1).bind fun (x5 : Option Nat) => ((impl_Sheet_at a0_0 a0_1 a0_2 a0_3 a0_4 a2 (IntKind.wrap .i64 (a3 - 1))).bind fun (x6 : Int) => ((idx a1_1 x6).bind fun (x7 : Option Nat) => ((idx a1_0 x1).bind fun (x8 : Option Nat) => ((idx a0_4 x1).bind fun (x9 : Option Nat) => ((idx a0_3 x1).bind fun (x10 : Option Nat) => some (fop .add .f32 (fop .mul .f32 x8 (fop .sub .f32 (some 1065353216) x9)) (fop .mul .f32 x10 (fop .sub .f32 (fop .sub .f32 x2 x4) (fop .sub .f32 x5 x7))))))))))))))

noncomputable def impl_halfStep_o.s1 (a0_0 : Int) (a0_1 : Int) (a0_2 : Bool) (a0_3 : List (Option Nat)) (a0_4 : List (Option Nat)) (a1_0 : List (Option Nat)) (x1 : Int) (x8 : Int) (x9 : List (Option Nat)) (x10 : List (Option Nat)) : Option ((Int × (List (Option Nat)) × (List (Option Nat))) ⊕ (Int × Bool × (List (Option Nat)) × (List (Option Nat)))) :=
 (if (decide (x8 < a0_0)) = true then ((impl_Sheet_at a0_0 a0_1 a0_2 a0_3 a0_4 x8 x1).bind fun (x15 : Int) => (((if a0_2 = true then some true else some (decide (x1 < (IntKind.wrap .i64 (a0_1 - 1))))) : Option Bool).bind fun (x16 : Bool) => (((if x16 = true then ((idx x9 x15).bind fun (x18 : Option Nat) => ((impl_Sheet_at a0_0 a0_1 a0_2 a0_3 a0_4 x8 (IntKind.wrap .i64 (x1 + 1))).bind fun (x19 : Int) => ((idx a1_0 x19).bind fun (x20 : Option Nat) => ((idx a1_0 x15).bind fun (x21 : Option Nat) => ((idx x9 x15).bind fun (x22 : Option Nat) => ((setF x9 x15 (fop .sub .f32 x18 (fop .mul .f32 (some 1056964608) (fop .sub .f32 x20 x21)))).bind fun (x23 : List (Option Nat)) => some x23)))))) else some x9) : Option (List (Option Nat))).bind fun (x17 : List (Option Nat)) => (((if a0_2 = true then some true else some (decide (x8 < (IntKind.wrap .i64 (a0_0 - 1))))) : Option Bool).bind fun (x24 : Bool) => (((if x24 = true then ((idx x10 x15).bind fun (x26 : Option Nat) => ((impl_Sheet_at a0_0 a0_1 a0_2 a0_3 a0_4 (IntKind.wrap .i64 (x8 + 1)) x1).bind fun (x27 : Int) => ((idx a1_0 x27).bind fun (x28 : Option Nat) => ((idx a1_0 x15).bind fun (x29 : Option Nat) => ((idx x10 x15).bind fun (x30 : Option Nat) => ((setF x10 x15 (fop .add .f32 x26 (fop .mul .f32 (some 1056964608) (fop .sub .f32 x28 x29)))).bind fun (x31 : List (Option Nat)) => some x31)))))) else some x10) : Option (List (Option Nat))).bind fun (x25 : List (Option Nat)) => some (.inl (IntKind.wrap .i64 (x8 + 1), x17, x25))))))) else some (.inr (x8, decide (x8 < a0_0), x9, x10)))

noncomputable def impl_halfStep_o.s0 (a0_0 : Int) (a0_1 : Int) (a0_2 : Bool) (a0_3 : List (Option Nat)) (a0_4 : List (Option Nat)) (a1_0 : List (Option Nat)) (x1 : Int) (x2 : List (Option Nat)) (x3 : List (Option Nat)) : Option ((Int × (List (Option Nat)) × (List (Option Nat))) ⊕ (Int × Bool × (List (Option Nat)) × (List (Option Nat)))) :=
 (if (decide (x1 < a0_1)) = true then ((loopF (fun (s : (Int × (List (Option Nat)) × (List (Option Nat)))) => impl_halfStep_o.s1 a0_0 a0_1 a0_2 a0_3 a0_4 a1_0 x1 s.1 s.2.1 s.2.2) (0, x2, x3)).bind fun (⟨x11, x12, x13, x14⟩ : (Int × Bool × (List (Option Nat)) × (List (Option Nat)))) => some (.inl (IntKind.wrap .i64 (x1 + 1), x13, x14))) else some (.inr (x1, decide (x1 < a0_1), x2, x3)))

noncomputable def impl_halfStep_o (a0_0 : Int) (a0_1 : Int) (a0_2 : Bool) (a0_3 : List (Option Nat)) (a0_4 : List (Option Nat)) (a1_0 : List (Option Nat)) (a1_1 : List (Option Nat)) (a1_2 : List (Option Nat)) : Option ((List (Option Nat)) × (List (Option Nat)) × (List (Option Nat))) :=
 ((loopF (fun (s : (Int × (List (Option Nat)) × (List (Option Nat)))) => impl_halfStep_o.s0 a0_0 a0_1 a0_2 a0_3 a0_4 a1_0 s.1 s.2.1 s.2.2) (0, a1_1, a1_2)).bind fun (⟨x4, x5, x6, x7⟩ : (Int × Bool × (List (Option Nat)) × (List (Option Nat)))) => some (a1_0, x6, x7))

noncomputable def impl_stepped.s1 (a0_0 : Int) (a0_1 : Int) (a0_2 : Bool) (a0_3 : List (Option Nat)) (a0_4 : List (Option Nat)) (x2 : ((List (Option Nat)) × (List (Option Nat)) × (List (Option Nat)))) (x3 : Int) (x8 : Int) (x9 : List (Option Nat)) : Option ((Int × (List (Option Nat))) ⊕ (Int × Bool × (List (Option Nat)))) :=
 (if (decide (x8 < a0_0)) = true then ((impl_Sheet_isBorder a0_0 a0_1 a0_2 a0_3 a0_4 x8 x3).bind fun (x13 : Bool) => (((if (!x13) = true then ((impl_Sheet_at a0_0 a0_1 a0_2 a0_3 a0_4 x8 x3).bind fun (x15 : Int) => ((impl_newValue a0_0 a0_1 a0_2 a0_3 a0_4 x9 x2.2.1 x2.2.2 x8 x3).bind fun (x16 : Option Nat) => ((idx x9 x15).bind fun (x17 : Option Nat) => ((setF x9 x15 x16).bind fun (x18 : List (Option Nat)) => some x18)))) else some x9) : Option (List (Option Nat))).bind fun (x14 : List (Option Nat)) => some (.inl (IntKind.wrap .i64 (x8 + 1), x14)))) else some (.inr (x8, decide (x8 < a0_0), x9)))

noncomputable def impl_stepped.s0 (a0_0 : Int) (a0_1 : Int) (a0_2 : Bool) (a0_3 : List (Option Nat)) (a0_4 : List (Option Nat)) (x2 : ((List (Option Nat)) × (List (Option Nat)) × (List (Option Nat)))) (x3 : Int) (x4 : List (Option Nat)) : Option ((Int × (List (Option Nat))) ⊕ (Int × Bool × (List (Option Nat)))) :=
 (if (decide (x3 < a0_1)) = true then ((loopF (fun (s : (Int × (List (Option Nat)))) => impl_stepped.s1 a0_0 a0_1 a0_2 a0_3 a0_4 x2 x3 s.1 s.2) (0, x4)).bind fun (⟨x10, x11, x12⟩ : (Int × Bool × (List (Option Nat)))) => some (.inl (IntKind.wrap .i64 (x3 + 1), x12))) else some (.inr (x3, decide (x3 < a0_1), x4)))

noncomputable def impl_stepped (a0_0 : Int) (a0_1 : Int) (a0_2 : Bool) (a0_3 : List (Option Nat)) (a0_4 : List (Option Nat)) (a1_0 : List (Option Nat)) (a1_1 : List (Option Nat)) (a1_2 : List (Option Nat)) : Option ((List (Option Nat)) × (List (Option Nat)) × (List (Option Nat))) :=
 ((impl_copyField a1_0 a1_1 a1_2).bind fun (x1 : ((List (Option Nat)) × (List (Option Nat)) × (List (Option Nat)))) => ((impl_halfStep_o a0_0 a0_1 a0_2 a0_3 a0_4 x1.1 x1.2.1 x1.2.2).bind fun (x2 : ((List (Option Nat)) × (List (Option Nat)) × (List (Option Nat)))) => ((loopF (fun (s : (Int × (List (Option Nat)))) => impl_stepped.s0 a0_0 a0_1 a0_2 a0_3 a0_4 x2 s.1 s.2) (0, x2.1)).bind fun (⟨x5, x6, x7⟩ : (Int × Bool × (List (Option Nat)))) => some (x7, x2.2.1, x2.2.2))))

set_option maxRecDepth 20000 in
theorem impl_newValue_ok (h0 : Heap) (a0_0 : Int) (a0_1 : Int) (a0_2 : Bool) (u0_3 : Value) (a0_3 : List (Option Nat)) (g0_3 : SL (kF .f32) h0.size h0 u0_3 a0_3) (u0_4 : Value) (a0_4 : List (Option Nat)) (g0_4 : SL (kF .f32) h0.size h0 u0_4 a0_4) (u1_0 : Value) (a1_0 : List (Option Nat)) (g1_0 : SL (kF .f32) h0.size h0 u1_0 a1_0) (u1_1 : Value) (a1_1 : List (Option Nat)) (g1_1 : SL (kF .f32) h0.size h0 u1_1 a1_1) (u1_2 : Value) (a1_2 : List (Option Nat)) (g1_2 : SL (kF .f32) h0.size h0 u1_2 a1_2) (a2 : Int) (a3 : Int) (r : Option Nat) (hp : impl_newValue a0_0 a0_1 a0_2 a0_3 a0_4 a1_0 a1_1 a1_2 a2 a3 = some r) : CallsH Try.prog 147 ([(.agg (List.toArray (α := Value) [(.int .i64 a0_0), (.int .i64 a0_1), (.bool a0_2), u0_3, u0_4])), (.agg (List.toArray (α := Value) [u1_0, u1_1, u1_2])), (.int .i64 a2), (.int .i64 a3)].toArray ++ [].toArray) h0 (fun v h' => IsF .f32 v r ∧ Mod [] h0 h' ∧ Sep [] h0.size h' []) := by
 unfold impl_newValue at hp
 refine callsH_of_W (l := [(.agg (List.toArray (α := Value) [(.int .i64 a0_0), (.int .i64 a0_1), (.bool a0_2), u0_3, u0_4])), (.agg (List.toArray (α := Value) [u1_0, u1_1, u1_2])), (.int .i64 a2), (.int .i64 a3)]) (cap := []) 66 Try.func147 rfl rfl rfl ?_
 refine W.seq ?_
 refine W.region ?_
 refine RL.op _ (by decide) (opS_boxed (opv_boxA (cs := [(.int .i64 a0_0), (.int .i64 a0_1), (.bool a0_2), u0_3, u0_4]) rfl rfl)) ?_
 rintro _ hp1 ⟨bb1, rfl, MT_1, T_1⟩
 obtain ⟨X_1, S_1⟩ := Sep.turn0 (Mod.refl [] h0) (Sep.nil [] h0.size h0) MT_1 T_1
 refine RL.op _ (by decide) (opS_boxed (opv_boxA (cs := [u1_0, u1_1, u1_2]) rfl rfl)) ?_
 rintro _ hp2 ⟨bb2, rfl, MT_2, T_2⟩
 obtain ⟨X_2, S_2⟩ := Sep.turn0 X_1 S_1 MT_2 T_2
 refine RL.opD (by decide) (opv_assign rfl rfl) ?_
 refine RL.nil ?_
 refine thnN ?_
 refine W.seq ?_
 obtain ⟨x1, hx1, hp⟩ := Option.bind_eq_some_iff.1 hp
 refine W.region ?_
 refine RL.opD (by decide) (opv_loadA (us := [(.int .i64 a0_0), (.int .i64 a0_1), (.bool a0_2), u0_3, u0_4]) rfl Try.agg31 Try.size31 rfl (Sep.at (o := boxO bb1 [(.int .i64 a0_0), (.int .i64 a0_1), (.bool a0_2), u0_3, u0_4]) S_2 1 rfl) rfl rfl) ?_
 refine RL.opD (by decide) (opv_move rfl rfl) ?_
 refine RL.opD (by decide) (opv_move rfl rfl) ?_
 refine RL.op _ (by decide) (opv_call (cap := []) (impl_Sheet_at_ok _ _ _ _ _ _ (SL.up (SL.mod g0_3 X_2 (Nat.le_refl _) nob) (Nat.le_trans (Nat.le_refl _) (Mod.size X_2))) _ _ (SL.up (SL.mod g0_4 X_2 (Nat.le_refl _) nob) (Nat.le_trans (Nat.le_refl _) (Mod.size X_2))) _ _ _ hx1) rfl rfl ⟨rfl, rfl, rfl, trivial⟩ Try.func118 rfl rfl) ?_
 rintro _ hp3 ⟨rfl, MT_3, T_3⟩
 obtain ⟨X_3, S_3⟩ := Sep.turn0 X_2 S_2 MT_3 T_3
 refine RL.opD (by decide) (opv_assign rfl rfl) ?_
 refine RL.nil ?_
 refine thnN ?_
 refine W.seq ?_
 obtain ⟨x2, hx2, hp⟩ := Option.bind_eq_some_iff.1 hp
 obtain ⟨x3, hx3, hp⟩ := Option.bind_eq_some_iff.1 hp
 obtain ⟨x4, hx4, hp⟩ := Option.bind_eq_some_iff.1 hp
 obtain ⟨x5, hx5, hp⟩ := Option.bind_eq_some_iff.1 hp
 obtain ⟨x6, hx6, hp⟩ := Option.bind_eq_some_iff.1 hp
 obtain ⟨x7, hx7, hp⟩ := Option.bind_eq_some_iff.1 hp
 refine W.sub (ψ := [(0, (.agg (List.toArray (α := Value) [(.int .i64 a0_0), (.int .i64 a0_1), (.bool a0_2), u0_3, u0_4]))), (1, (.agg (List.toArray (α := Value) [u1_0, u1_1, u1_2]))), (2, (.int .i64 a2)), (3, (.int .i64 a3)), (4, (.pointer (some ⟨bb1, 0, none⟩))), (5, (.pointer (some ⟨bb2, 0, none⟩))), (8, (.float .f32 0)), (9, (.int .i64 x1))]) ⟨rfl, rfl, rfl, rfl, rfl, rfl, rfl, rfl, trivial⟩ ?_
 refine W.regionM [fun v _ => @Eq Value (.pointer (some ⟨bb2, 2, none⟩)) v, fun v _ => @Eq Value u1_2 v, fun v _ => @Eq Value (.int .i64 x1) v, fun v _ => PtI 1 v u1_2 (Int.toNat x1), fun v _ => IsF .f32 v x2, fun v _ => @Eq Value (.pointer (some ⟨bb2, 2, none⟩)) v, fun v _ => @Eq Value u1_2 v, fun v _ => @Eq Value (.agg (List.toArray (α := Value) [(.int .i64 a0_0), (.int .i64 a0_1), (.bool a0_2), u0_3, u0_4])) v, fun v _ => @Eq Value (.int .i64 a2) v, fun v _ => @Eq Value (.int .i64 (IntKind.wrap .i64 (a2 - 1))) v, fun v _ => @Eq Value (.int .i64 a3) v, fun v h => @Eq Value v (.int .i64 x3) ∧ Sep [] hp3.size h [], fun v _ => PtI 1 v u1_2 (Int.toNat x3), fun v _ => IsF .f32 v x4, fun v _ => IsF .f32 v (fop .sub .f32 x2 x4), fun v _ => @Eq Value (.pointer (some ⟨bb2, 1, none⟩)) v, fun v _ => @Eq Value u1_1 v, fun v _ => @Eq Value (.int .i64 x1) v, fun v _ => PtI 1 v u1_1 (Int.toNat x1), fun v _ => IsF .f32 v x5, fun v _ => @Eq Value (.pointer (some ⟨bb2, 1, none⟩)) v, fun v _ => @Eq Value u1_1 v, fun v _ => @Eq Value (.agg (List.toArray (α := Value) [(.int .i64 a0_0), (.int .i64 a0_1), (.bool a0_2), u0_3, u0_4])) v, fun v _ => @Eq Value (.int .i64 a2) v, fun v _ => @Eq Value (.int .i64 a3) v, fun v _ => @Eq Value (.int .i64 (IntKind.wrap .i64 (a3 - 1))) v, fun v h => @Eq Value v (.int .i64 x6) ∧ Sep [] hp3.size h [], fun v _ => PtI 1 v u1_1 (Int.toNat x6), fun v _ => IsF .f32 v x7, fun v _ => IsF .f32 v (fop .sub .f32 x5 x7), fun v _ => IsF .f32 v (fop .sub .f32 (fop .sub .f32 x2 x4) (fop .sub .f32 x5 x7)), fun v _ => IsF .f32 v (fop .sub .f32 (fop .sub .f32 x2 x4) (fop .sub .f32 x5 x7))] [none, none, none, none, none, none, none, none, none, none, none, some (fun u => []), none, none, none, none, none, none, none, none, none, none, none, none, none, none, some (fun u => []), none, none, none, none, none] [] [[], [0], [], [1, 2], [3], [], [5], [], [], [8], [], [7, 9, 10], [6, 11], [12], [4, 13], [], [15], [], [16, 17], [18], [], [20], [], [], [], [24], [22, 23, 25], [21, 26], [27], [19, 28], [14, 29], [30]] [31] Try.mixed (by decide +kernel) (by decide +kernel) rfl rfl rfl (by decide +kernel) rfl ⟨fun _ _ _ h _ => h, fun _ _ _ h _ => h, fun _ _ _ h _ => h, fun _ _ _ h _ => h, fun _ _ _ h _ => h, fun _ _ _ h _ => h, fun _ _ _ h _ => h, fun _ _ _ h _ => h, fun _ _ _ h _ => h, fun _ _ _ h _ => h, fun _ _ _ h _ => h, fun _ _ _ ⟨e, h⟩ x => ⟨e, h.ext x⟩, fun _ _ _ h _ => h, fun _ _ _ h _ => h, fun _ _ _ h _ => h, fun _ _ _ h _ => h, fun _ _ _ h _ => h, fun _ _ _ h _ => h, fun _ _ _ h _ => h, fun _ _ _ h _ => h, fun _ _ _ h _ => h, fun _ _ _ h _ => h, fun _ _ _ h _ => h, fun _ _ _ h _ => h, fun _ _ _ h _ => h, fun _ _ _ h _ => h, fun _ _ _ ⟨e, h⟩ x => ⟨e, h.ext x⟩, fun _ _ _ h _ => h, fun _ _ _ h _ => h, fun _ _ _ h _ => h, fun _ _ _ h _ => h, fun _ _ _ h _ => h, trivial⟩ ?_ ?_
 ·refine ⟨⟨rfl, ?_⟩, ⟨rfl, ?_⟩, ⟨rfl, ?_⟩, ⟨rfl, ?_⟩, ⟨rfl, ?_⟩, ⟨rfl, ?_⟩, ⟨rfl, ?_⟩, ⟨rfl, ?_⟩, ⟨rfl, ?_⟩, ⟨rfl, ?_⟩, ⟨rfl, ?_⟩, ⟨rfl, ?_⟩, ⟨rfl, ?_⟩, ⟨rfl, ?_⟩, ⟨rfl, ?_⟩, ⟨rfl, ?_⟩, ⟨rfl, ?_⟩, ⟨rfl, ?_⟩, ⟨rfl, ?_⟩, ⟨rfl, ?_⟩, ⟨rfl, ?_⟩, ⟨rfl, ?_⟩, ⟨rfl, ?_⟩, ⟨rfl, ?_⟩, ⟨rfl, ?_⟩, ⟨rfl, ?_⟩, ⟨rfl, ?_⟩, ⟨rfl, ?_⟩, ⟨rfl, ?_⟩, ⟨rfl, ?_⟩, ⟨rfl, ?_⟩, ⟨rfl, ?_⟩, trivial⟩
  ·rintro hp6 E_1
   refine Dep.nil ?_
   refine GuardOK.none rfl ?_
   exact OpV.toDx (opv_fieldAddr rfl Try.fo28_2 rfl) rfl
  ·rintro hp7 E_2 _ rfl
   refine Dep.nil ?_
   refine GuardOK.none rfl ?_
   exact OpV.toDx (opv_loadB rfl Try.one22 rfl (Sep.at (o := boxO bb2 [u1_0, u1_1, u1_2]) (Sep.ext S_3 E_2) 0 rfl) rfl) rfl
  ·rintro hp8 E_3
   refine Dep.nil ?_
   refine GuardOK.none rfl ?_
   exact OpV.toDx (opv_move rfl rfl) rfl
  ·rintro hp9 E_4 _ rfl _ rfl
   refine Dep.nil ?_
   refine GuardOK.none rfl ?_
   exact OpV.toSx (opv_index rfl Try.underlying22 (by rw [Try.size25]; rfl) rfl rfl (SL.mod g1_2 (Mod.lift X_3 E_4) (Nat.le_refl _) nob) hx2) (fun _ h => h)
  ·rintro hp10 E_5 v1 fv1
   refine Dep.nil ?_
   refine GuardOK.none rfl ?_
   exact OpV.toSx (opv_loadF rfl Try.one25 rfl fv1 (SL.mod g1_2 (Mod.lift X_3 E_5) (Nat.le_refl _) nob) hx2) (fun _ h => h)
  ·rintro hp11 E_6
   refine Dep.nil ?_
   refine GuardOK.none rfl ?_
   exact OpV.toDx (opv_fieldAddr rfl Try.fo28_2 rfl) rfl
  ·rintro hp12 E_7 _ rfl
   refine Dep.nil ?_
   refine GuardOK.none rfl ?_
   exact OpV.toDx (opv_loadB rfl Try.one22 rfl (Sep.at (o := boxO bb2 [u1_0, u1_1, u1_2]) (Sep.ext S_3 E_7) 0 rfl) rfl) rfl
  ·rintro hp13 E_8
   refine Dep.nil ?_
   refine GuardOK.none rfl ?_
   exact OpV.toDx (opv_loadA (us := [(.int .i64 a0_0), (.int .i64 a0_1), (.bool a0_2), u0_3, u0_4]) rfl Try.agg31 Try.size31 rfl (Sep.at (o := boxO bb1 [(.int .i64 a0_0), (.int .i64 a0_1), (.bool a0_2), u0_3, u0_4]) (Sep.ext S_3 E_8) 1 rfl) rfl rfl) rfl
  ·rintro hp14 E_9
   refine Dep.nil ?_
   refine GuardOK.none rfl ?_
   exact OpV.toDx (opv_move rfl rfl) rfl
  ·rintro hp15 E_10 _ rfl
   refine Dep.nil ?_
   refine GuardOK.none rfl ?_
   exact OpV.toDx (opv_sub rfl rfl rfl) rfl
  ·rintro hp16 E_11
   refine Dep.nil ?_
   refine GuardOK.none rfl ?_
   exact OpV.toDx (opv_move rfl rfl) rfl
  ·rintro hp17 E_12 _ rfl _ rfl _ rfl
   refine Dep.nil ?_
   refine GuardOK.none rfl ?_
   exact OpV.mono (opv_call (cap := []) (impl_Sheet_at_ok _ _ _ _ _ _ (SL.up (SL.mod g0_3 (Mod.lift X_3 E_12) (Nat.le_refl _) nob) (Nat.le_trans (Nat.le_refl _) (Mod.size (Mod.lift X_3 E_12)))) _ _ (SL.up (SL.mod g0_4 (Mod.lift X_3 E_12) (Nat.le_refl _) nob) (Nat.le_trans (Nat.le_refl _) (Mod.size (Mod.lift X_3 E_12)))) _ _ _ hx3) rfl rfl ⟨rfl, rfl, rfl, trivial⟩ Try.func118 rfl rfl) (by rintro _ _ ⟨rfl, M_, T_⟩; exact ⟨Mod.ext M_, ⟨rfl, Sep.weak T_ (Ext.size E_12)⟩, Sep.fresh T_⟩)
  ·rintro hp18 E_13 _ rfl _ ⟨rfl, T_4⟩
   refine Dep.nil ?_
   refine GuardOK.none rfl ?_
   exact OpV.toSx (opv_index rfl Try.underlying22 (by rw [Try.size25]; rfl) rfl rfl (SL.mod g1_2 (Mod.lift X_3 E_13) (Nat.le_refl _) nob) hx4) (fun _ h => h)
  ·rintro hp19 E_14 v3 fv3
   refine Dep.nil ?_
   refine GuardOK.none rfl ?_
   exact OpV.toSx (opv_loadF rfl Try.one25 rfl fv3 (SL.mod g1_2 (Mod.lift X_3 E_14) (Nat.le_refl _) nob) hx4) (fun _ h => h)
  ·rintro hp20 E_15 v2 fv2 v4 fv4
   refine Dep.nil ?_
   refine GuardOK.none rfl ?_
   exact OpV.toSx (opv_fop rfl rfl rfl rfl fv2 fv4) (fun _ h => h)
  ·rintro hp21 E_16
   refine Dep.nil ?_
   refine GuardOK.none rfl ?_
   exact OpV.toDx (opv_fieldAddr rfl Try.fo28_1 rfl) rfl
  ·rintro hp22 E_17 _ rfl
   refine Dep.nil ?_
   refine GuardOK.none rfl ?_
   exact OpV.toDx (opv_loadB rfl Try.one22 rfl (Sep.at (o := boxO bb2 [u1_0, u1_1, u1_2]) (Sep.ext S_3 E_17) 0 rfl) rfl) rfl
  ·rintro hp23 E_18
   refine Dep.nil ?_
   refine GuardOK.none rfl ?_
   exact OpV.toDx (opv_move rfl rfl) rfl
  ·rintro hp24 E_19 _ rfl _ rfl
   refine Dep.nil ?_
   refine GuardOK.none rfl ?_
   exact OpV.toSx (opv_index rfl Try.underlying22 (by rw [Try.size25]; rfl) rfl rfl (SL.mod g1_1 (Mod.lift X_3 E_19) (Nat.le_refl _) nob) hx5) (fun _ h => h)
  ·rintro hp25 E_20 v6 fv6
   refine Dep.nil ?_
   refine GuardOK.none rfl ?_
   exact OpV.toSx (opv_loadF rfl Try.one25 rfl fv6 (SL.mod g1_1 (Mod.lift X_3 E_20) (Nat.le_refl _) nob) hx5) (fun _ h => h)
  ·rintro hp26 E_21
   refine Dep.nil ?_
   refine GuardOK.none rfl ?_
   exact OpV.toDx (opv_fieldAddr rfl Try.fo28_1 rfl) rfl
  ·rintro hp27 E_22 _ rfl
   refine Dep.nil ?_
   refine GuardOK.none rfl ?_
   exact OpV.toDx (opv_loadB rfl Try.one22 rfl (Sep.at (o := boxO bb2 [u1_0, u1_1, u1_2]) (Sep.ext S_3 E_22) 0 rfl) rfl) rfl
  ·rintro hp28 E_23
   refine Dep.nil ?_
   refine GuardOK.none rfl ?_
   exact OpV.toDx (opv_loadA (us := [(.int .i64 a0_0), (.int .i64 a0_1), (.bool a0_2), u0_3, u0_4]) rfl Try.agg31 Try.size31 rfl (Sep.at (o := boxO bb1 [(.int .i64 a0_0), (.int .i64 a0_1), (.bool a0_2), u0_3, u0_4]) (Sep.ext S_3 E_23) 1 rfl) rfl rfl) rfl
  ·rintro hp29 E_24
   refine Dep.nil ?_
   refine GuardOK.none rfl ?_
   exact OpV.toDx (opv_move rfl rfl) rfl
  ·rintro hp30 E_25
   refine Dep.nil ?_
   refine GuardOK.none rfl ?_
   exact OpV.toDx (opv_move rfl rfl) rfl
  ·rintro hp31 E_26 _ rfl
   refine Dep.nil ?_
   refine GuardOK.none rfl ?_
   exact OpV.toDx (opv_sub rfl rfl rfl) rfl
  ·rintro hp32 E_27 _ rfl _ rfl _ rfl
   refine Dep.nil ?_
   refine GuardOK.none rfl ?_
   exact OpV.mono (opv_call (cap := []) (impl_Sheet_at_ok _ _ _ _ _ _ (SL.up (SL.mod g0_3 (Mod.lift X_3 E_27) (Nat.le_refl _) nob) (Nat.le_trans (Nat.le_refl _) (Mod.size (Mod.lift X_3 E_27)))) _ _ (SL.up (SL.mod g0_4 (Mod.lift X_3 E_27) (Nat.le_refl _) nob) (Nat.le_trans (Nat.le_refl _) (Mod.size (Mod.lift X_3 E_27)))) _ _ _ hx6) rfl rfl ⟨rfl, rfl, rfl, trivial⟩ Try.func118 rfl rfl) (by rintro _ _ ⟨rfl, M_, T_⟩; exact ⟨Mod.ext M_, ⟨rfl, Sep.weak T_ (Ext.size E_27)⟩, Sep.fresh T_⟩)
  ·rintro hp33 E_28 _ rfl _ ⟨rfl, T_5⟩
   refine Dep.nil ?_
   refine GuardOK.none rfl ?_
   exact OpV.toSx (opv_index rfl Try.underlying22 (by rw [Try.size25]; rfl) rfl rfl (SL.mod g1_1 (Mod.lift X_3 E_28) (Nat.le_refl _) nob) hx7) (fun _ h => h)
  ·rintro hp34 E_29 v8 fv8
   refine Dep.nil ?_
   refine GuardOK.none rfl ?_
   exact OpV.toSx (opv_loadF rfl Try.one25 rfl fv8 (SL.mod g1_1 (Mod.lift X_3 E_29) (Nat.le_refl _) nob) hx7) (fun _ h => h)
  ·rintro hp35 E_30 v7 fv7 v9 fv9
   refine Dep.nil ?_
   refine GuardOK.none rfl ?_
   exact OpV.toSx (opv_fop rfl rfl rfl rfl fv7 fv9) (fun _ h => h)
  ·rintro hp36 E_31 v5 fv5 v10 fv10
   refine Dep.nil ?_
   refine GuardOK.none rfl ?_
   exact OpV.toSx (opv_fop rfl rfl rfl rfl fv5 fv10) (fun _ h => h)
  ·rintro hp37 E_32 v11 fv11
   refine Dep.nil ?_
   refine GuardOK.none rfl ?_
   exact OpV.toDx (opv_assign rfl rfl) fv11
 rintro hp38 E_33 v12 fv12
 refine DepM.nil ?_
 intro _ LK_
 have X_6 := Mod.lift X_3 E_33
 have S_6 := Sep.ext S_3 E_33
 show RL _ _ _ _ [] _ _
 refine RL.nil ?_
 refine thnN ?_
 refine W.seq ?_
 obtain ⟨x8, hx8, hp⟩ := Option.bind_eq_some_iff.1 hp
 obtain ⟨x9, hx9, hp⟩ := Option.bind_eq_some_iff.1 hp
 obtain ⟨x10, hx10, hp⟩ := Option.bind_eq_some_iff.1 hp
 refine W.sub (ψ := [(0, (.agg (List.toArray (α := Value) [(.int .i64 a0_0), (.int .i64 a0_1), (.bool a0_2), u0_3, u0_4]))), (1, (.agg (List.toArray (α := Value) [u1_0, u1_1, u1_2]))), (2, (.int .i64 a2)), (3, (.int .i64 a3)), (4, (.pointer (some ⟨bb1, 0, none⟩))), (5, (.pointer (some ⟨bb2, 0, none⟩))), (9, (.int .i64 x1)), (10, v12)]) ⟨rfl, rfl, rfl, rfl, rfl, rfl, rfl, rfl, trivial⟩ ?_
 refine W.regionP [fun v _ => @Eq Value (.pointer (some ⟨bb2, 0, none⟩)) v, fun v _ => @Eq Value u1_0 v, fun v _ => @Eq Value (.int .i64 x1) v, fun v _ => PtI 1 v u1_0 (Int.toNat x1), fun v _ => IsF .f32 v x8, fun v _ => @Eq Value (.pointer (some ⟨bb1, 4, none⟩)) v, fun v _ => @Eq Value u0_4 v, fun v _ => @Eq Value (.int .i64 x1) v, fun v _ => PtI 1 v u0_4 (Int.toNat x1), fun v _ => IsF .f32 v x9, fun v _ => IsF .f32 v (fop .sub .f32 (some 1065353216) x9), fun v _ => IsF .f32 v (fop .mul .f32 x8 (fop .sub .f32 (some 1065353216) x9)), fun v _ => @Eq Value (.pointer (some ⟨bb1, 3, none⟩)) v, fun v _ => @Eq Value u0_3 v, fun v _ => @Eq Value (.int .i64 x1) v, fun v _ => PtI 1 v u0_3 (Int.toNat x1), fun v _ => IsF .f32 v x10, fun v _ => IsF .f32 v (fop .sub .f32 (fop .sub .f32 x2 x4) (fop .sub .f32 x5 x7)), fun v _ => IsF .f32 v (fop .mul .f32 x10 (fop .sub .f32 (fop .sub .f32 x2 x4) (fop .sub .f32 x5 x7))), fun v _ => IsF .f32 v (fop .add .f32 (fop .mul .f32 x8 (fop .sub .f32 (some 1065353216) x9)) (fop .mul .f32 x10 (fop .sub .f32 (fop .sub .f32 x2 x4) (fop .sub .f32 x5 x7)))), fun v _ => IsF .f32 v (fop .add .f32 (fop .mul .f32 x8 (fop .sub .f32 (some 1065353216) x9)) (fop .mul .f32 x10 (fop .sub .f32 (fop .sub .f32 x2 x4) (fop .sub .f32 x5 x7))))] [[], [0], [], [1, 2], [3], [], [5], [], [6, 7], [8], [9], [4, 10], [], [12], [], [13, 14], [15], [], [16, 17], [11, 18], [19]] [20] Try.mixed (by decide +kernel) (by decide +kernel) rfl rfl rfl ?_ ?_
 ·refine ⟨⟨rfl, ?_⟩, ⟨rfl, ?_⟩, ⟨rfl, ?_⟩, ⟨rfl, ?_⟩, ⟨rfl, ?_⟩, ⟨rfl, ?_⟩, ⟨rfl, ?_⟩, ⟨rfl, ?_⟩, ⟨rfl, ?_⟩, ⟨rfl, ?_⟩, ⟨rfl, ?_⟩, ⟨rfl, ?_⟩, ⟨rfl, ?_⟩, ⟨rfl, ?_⟩, ⟨rfl, ?_⟩, ⟨rfl, ?_⟩, ⟨rfl, ?_⟩, ⟨rfl, ?_⟩, ⟨rfl, ?_⟩, ⟨rfl, ?_⟩, ⟨rfl, ?_⟩, trivial⟩
  ·rintro _ rfl
   refine Dep.nil ?_
   refine GuardOK.none rfl ?_
   exact OpV.toD (opv_fieldAddr rfl Try.fo28_0 rfl) rfl
  ·rintro _ rfl _ rfl
   refine Dep.nil ?_
   refine GuardOK.none rfl ?_
   exact OpV.toD (opv_loadB rfl Try.one22 rfl (Sep.at (o := boxO bb2 [u1_0, u1_1, u1_2]) S_6 0 rfl) rfl) rfl
  ·rintro _ rfl
   refine Dep.nil ?_
   refine GuardOK.none rfl ?_
   exact OpV.toD (opv_move rfl rfl) rfl
  ·rintro _ rfl _ rfl _ rfl
   refine Dep.nil ?_
   refine GuardOK.none rfl ?_
   exact OpV.toS (opv_index rfl Try.underlying22 (by rw [Try.size25]; rfl) rfl rfl (SL.mod g1_0 X_6 (Nat.le_refl _) nob) hx8) (fun _ h => h)
  ·rintro _ rfl v13 fv13
   refine Dep.nil ?_
   refine GuardOK.none rfl ?_
   exact OpV.toS (opv_loadF rfl Try.one25 rfl fv13 (SL.mod g1_0 X_6 (Nat.le_refl _) nob) hx8) (fun _ h => h)
  ·rintro _ rfl
   refine Dep.nil ?_
   refine GuardOK.none rfl ?_
   exact OpV.toD (opv_fieldAddr rfl Try.fo31_4 rfl) rfl
  ·rintro _ rfl _ rfl
   refine Dep.nil ?_
   refine GuardOK.none rfl ?_
   exact OpV.toD (opv_loadB rfl Try.one22 rfl (Sep.at (o := boxO bb1 [(.int .i64 a0_0), (.int .i64 a0_1), (.bool a0_2), u0_3, u0_4]) S_6 1 rfl) rfl) rfl
  ·rintro _ rfl
   refine Dep.nil ?_
   refine GuardOK.none rfl ?_
   exact OpV.toD (opv_move rfl rfl) rfl
  ·rintro _ rfl _ rfl _ rfl
   refine Dep.nil ?_
   refine GuardOK.none rfl ?_
   exact OpV.toS (opv_index rfl Try.underlying22 (by rw [Try.size25]; rfl) rfl rfl (SL.mod g0_4 X_6 (Nat.le_refl _) nob) hx9) (fun _ h => h)
  ·rintro _ rfl v15 fv15
   refine Dep.nil ?_
   refine GuardOK.none rfl ?_
   exact OpV.toS (opv_loadF rfl Try.one25 rfl fv15 (SL.mod g0_4 X_6 (Nat.le_refl _) nob) hx9) (fun _ h => h)
  ·rintro _ rfl v16 fv16
   refine Dep.nil ?_
   refine GuardOK.none rfl ?_
   exact OpV.toS (opv_fop rfl rfl rfl rfl (isF_lit .f32 1065353216 (by decide) (by decide)) fv16) (fun _ h => h)
  ·rintro _ rfl v14 fv14 v17 fv17
   refine Dep.nil ?_
   refine GuardOK.none rfl ?_
   exact OpV.toS (opv_fop rfl rfl rfl rfl fv14 fv17) (fun _ h => h)
  ·rintro _ rfl
   refine Dep.nil ?_
   refine GuardOK.none rfl ?_
   exact OpV.toD (opv_fieldAddr rfl Try.fo31_3 rfl) rfl
  ·rintro _ rfl _ rfl
   refine Dep.nil ?_
   refine GuardOK.none rfl ?_
   exact OpV.toD (opv_loadB rfl Try.one22 rfl (Sep.at (o := boxO bb1 [(.int .i64 a0_0), (.int .i64 a0_1), (.bool a0_2), u0_3, u0_4]) S_6 1 rfl) rfl) rfl
  ·rintro _ rfl
   refine Dep.nil ?_
   refine GuardOK.none rfl ?_
   exact OpV.toD (opv_move rfl rfl) rfl
  ·rintro _ rfl _ rfl _ rfl
   refine Dep.nil ?_
   refine GuardOK.none rfl ?_
   exact OpV.toS (opv_index rfl Try.underlying22 (by rw [Try.size25]; rfl) rfl rfl (SL.mod g0_3 X_6 (Nat.le_refl _) nob) hx10) (fun _ h => h)
  ·rintro _ rfl v19 fv19
   refine Dep.nil ?_
   refine GuardOK.none rfl ?_
   exact OpV.toS (opv_loadF rfl Try.one25 rfl fv19 (SL.mod g0_3 X_6 (Nat.le_refl _) nob) hx10) (fun _ h => h)
  ·rintro _ rfl
   refine Dep.nil ?_
   refine GuardOK.none rfl ?_
   exact OpV.toD (opv_move rfl rfl) fv12
  ·rintro _ rfl v20 fv20 v21 fv21
   refine Dep.nil ?_
   refine GuardOK.none rfl ?_
   exact OpV.toS (opv_fop rfl rfl rfl rfl fv20 fv21) (fun _ h => h)
  ·rintro _ rfl v18 fv18 v22 fv22
   refine Dep.nil ?_
   refine GuardOK.none rfl ?_
   exact OpV.toS (opv_fop rfl rfl rfl rfl fv18 fv22) (fun _ h => h)
  ·rintro _ rfl v23 fv23
   refine Dep.nil ?_
   refine GuardOK.none rfl ?_
   exact OpV.toD (opv_assign rfl rfl) fv23
 rintro v24 fv24
 refine Dep.nil ?_
 show RL _ _ _ _ [] _ _
 refine RL.nil ?_
 refine thnN ?_
 refine W.ret ?_
 have er := Option.some.inj hp
 subst er
 exact Rt.one rfl rfl ⟨fv24, X_6, (Sep.nil _ _ _)⟩

set_option maxRecDepth 20000 in
theorem impl_halfStep_o_ok (h0 : Heap) (lo : Nat) (hlo : lo ≤ h0.size) (a0_0 : Int) (a0_1 : Int) (a0_2 : Bool) (u0_3 : Value) (a0_3 : List (Option Nat)) (g0_3 : SL (kF .f32) lo h0 u0_3 a0_3) (u0_4 : Value) (a0_4 : List (Option Nat)) (g0_4 : SL (kF .f32) lo h0 u0_4 a0_4) (b1 : Nat) (u1_0 : Value) (a1_0 : List (Option Nat)) (u1_1 : Value) (a1_1 : List (Option Nat)) (u1_2 : Value) (a1_2 : List (Option Nat)) (S0 : Sep [some b1, u1_0.ownBlock, u1_1.ownBlock, u1_2.ownBlock] h0.size h0 [boxO b1 [u1_0, u1_1, u1_2], ownO (kF .f32) 25 u1_0 a1_0, ownO (kF .f32) 25 u1_1 a1_1, ownO (kF .f32) 25 u1_2 a1_2]) (hB : ∀ b, some b ∈ [some b1, u1_0.ownBlock, u1_1.ownBlock, u1_2.ownBlock] → lo ≤ b) (r : ((List (Option Nat)) × (List (Option Nat)) × (List (Option Nat)))) (hp : impl_halfStep_o a0_0 a0_1 a0_2 a0_3 a0_4 a1_0 a1_1 a1_2 = some r) : CallsH Try.prog 146 ([(.agg (List.toArray (α := Value) [(.int .i64 a0_0), (.int .i64 a0_1), (.bool a0_2), u0_3, u0_4])), (.pointer (some ⟨b1, 0, none⟩))].toArray ++ [].toArray) h0 (fun v h' => v = (.tuple (List.toArray (α := Value) [])) ∧ Mod [some b1, u1_0.ownBlock, u1_1.ownBlock, u1_2.ownBlock] h0 h' ∧ Sep [some b1, u1_0.ownBlock, u1_1.ownBlock, u1_2.ownBlock] h0.size h' [boxO b1 [u1_0, u1_1, u1_2], ownO (kF .f32) 25 u1_0 r.1, ownO (kF .f32) 25 u1_1 r.2.1, ownO (kF .f32) 25 u1_2 r.2.2]) := by
 unfold impl_halfStep_o at hp
 refine callsH_of_W (l := [(.agg (List.toArray (α := Value) [(.int .i64 a0_0), (.int .i64 a0_1), (.bool a0_2), u0_3, u0_4])), (.pointer (some ⟨b1, 0, none⟩))]) (cap := []) 109 Try.func146 rfl rfl rfl ?_
 refine W.seq ?_
 refine W.region ?_
 refine RL.op _ (by decide) (opS_boxed (opv_boxA (cs := [(.int .i64 a0_0), (.int .i64 a0_1), (.bool a0_2), u0_3, u0_4]) rfl rfl)) ?_
 rintro _ hp1 ⟨bb1, rfl, MT_1, T_1⟩
 obtain ⟨X_1, S_1⟩ := Sep.turn0 (Mod.refl [some b1, u1_0.ownBlock, u1_1.ownBlock, u1_2.ownBlock] h0) S0 MT_1 T_1
 refine RL.nil ?_
 refine thnN ?_
 refine W.seq ?_
 refine W.region ?_
 refine RL.opD (by decide) (opv_fieldAddr rfl Try.fo31_1 rfl) ?_
 refine RL.opD (by decide) (opv_loadB rfl Try.one2 rfl (Sep.at (o := boxO bb1 [(.int .i64 a0_0), (.int .i64 a0_1), (.bool a0_2), u0_3, u0_4]) S_1 0 rfl) rfl) ?_
 refine RL.opD (by decide) (opv_move rfl rfl) ?_
 refine RL.nil ?_
 refine thnN ?_
 obtain ⟨y1, hy1, hp⟩ := Option.bind_eq_some_iff.1 hp
 refine W.cut (fun φ' h' => ∃ x4, ∃ x5, ∃ x6, ∃ x7, y1 = (x4, x5, x6, x7) ∧ Fr.sub [(0, (.agg (List.toArray (α := Value) [(.int .i64 a0_0), (.int .i64 a0_1), (.bool a0_2), u0_3, u0_4]))), (1, (.pointer (some ⟨b1, 0, none⟩))), (2, (.pointer (some ⟨bb1, 0, none⟩))), (8, (.int .i64 a0_1)), (9, (.int .i64 x4)), (10, (.bool x5))] φ' ∧ Mod [some b1, u1_0.ownBlock, u1_1.ownBlock, u1_2.ownBlock] h0 h' ∧ Sep [some b1, u1_0.ownBlock, u1_1.ownBlock, u1_2.ownBlock] h0.size h' [boxO bb1 [(.int .i64 a0_0), (.int .i64 a0_1), (.bool a0_2), u0_3, u0_4], boxO b1 [u1_0, u1_1, u1_2], ownO (kF .f32) 25 u1_0 a1_0, ownO (kF .f32) 25 u1_1 x6, ownO (kF .f32) 25 u1_2 x7]) ?_ ?_
 ·refine W.block ?_
  refine W.loopS (fun (s : (Int × (List (Option Nat)) × (List (Option Nat)))) φ' h' => Fr.sub [(0, (.agg (List.toArray (α := Value) [(.int .i64 a0_0), (.int .i64 a0_1), (.bool a0_2), u0_3, u0_4]))), (1, (.pointer (some ⟨b1, 0, none⟩))), (2, (.pointer (some ⟨bb1, 0, none⟩))), (8, (.int .i64 a0_1)), (9, (.int .i64 s.1))] φ' ∧ Mod [some b1, u1_0.ownBlock, u1_1.ownBlock, u1_2.ownBlock] h0 h' ∧ Sep [some b1, u1_0.ownBlock, u1_1.ownBlock, u1_2.ownBlock] h0.size h' [boxO bb1 [(.int .i64 a0_0), (.int .i64 a0_1), (.bool a0_2), u0_3, u0_4], boxO b1 [u1_0, u1_1, u1_2], ownO (kF .f32) 25 u1_0 a1_0, ownO (kF .f32) 25 u1_1 s.2.1, ownO (kF .f32) 25 u1_2 s.2.2]) hy1 ⟨⟨rfl, rfl, rfl, rfl, rfl, trivial⟩, X_1, (Sep.sel S_1 [0, 1, 2, 3, 4] (by decide))⟩ ?_
  rintro ⟨x1, x2, x3⟩ φ' hp2 o1 ⟨hs1, X_2, S_2⟩ ho1 hy1
  have hs1 : Fr.sub [(0, (.agg (List.toArray (α := Value) [(.int .i64 a0_0), (.int .i64 a0_1), (.bool a0_2), u0_3, u0_4]))), (1, (.pointer (some ⟨b1, 0, none⟩))), (2, (.pointer (some ⟨bb1, 0, none⟩))), (8, (.int .i64 a0_1)), (9, (.int .i64 x1))] φ' := hs1
  have S_2 : Sep [some b1, u1_0.ownBlock, u1_1.ownBlock, u1_2.ownBlock] h0.size hp2 [boxO bb1 [(.int .i64 a0_0), (.int .i64 a0_1), (.bool a0_2), u0_3, u0_4], boxO b1 [u1_0, u1_1, u1_2], ownO (kF .f32) 25 u1_0 a1_0, ownO (kF .f32) 25 u1_1 x2, ownO (kF .f32) 25 u1_2 x3] := S_2
  have ho1 : impl_halfStep_o.s0 a0_0 a0_1 a0_2 a0_3 a0_4 a1_0 x1 x2 x3 = some o1 := ho1
  unfold impl_halfStep_o.s0 at ho1
  refine W.sub hs1 ?_
  refine W.seq ?_
  refine W.region ?_
  refine RL.opD (by decide) (opv_icmp rfl rfl rfl rfl) ?_
  refine RL.nil ?_
  refine thnN ?_
  refine W.seq ?_
  by_cases c1 : (decide (x1 < a0_1)) = true
  ·rw [if_pos c1] at ho1
   refine W.condT rfl c1 ?_
   refine W.skip ?_
   refine thnN ?_
   refine W.seq ?_
   refine W.block ?_
   refine W.seq ?_
   refine W.region ?_
   refine RL.opD (by decide) (opv_move rfl rfl) ?_
   refine RL.opD (by decide) (opv_assign rfl rfl) ?_
   refine RL.nil ?_
   refine thnN ?_
   refine W.seq ?_
   refine W.region ?_
   refine RL.opD (by decide) (opv_fieldAddr rfl Try.fo31_0 rfl) ?_
   refine RL.opD (by decide) (opv_loadB rfl Try.one2 rfl (Sep.at (o := boxO bb1 [(.int .i64 a0_0), (.int .i64 a0_1), (.bool a0_2), u0_3, u0_4]) S_2 0 rfl) rfl) ?_
   refine RL.opD (by decide) (opv_move rfl rfl) ?_
   refine RL.nil ?_
   refine thnN ?_
   obtain ⟨y2, hy2, ho1⟩ := Option.bind_eq_some_iff.1 ho1
   refine W.cut (fun φ' h' => ∃ x11, ∃ x12, ∃ x13, ∃ x14, y2 = (x11, x12, x13, x14) ∧ Fr.sub [(0, (.agg (List.toArray (α := Value) [(.int .i64 a0_0), (.int .i64 a0_1), (.bool a0_2), u0_3, u0_4]))), (1, (.pointer (some ⟨b1, 0, none⟩))), (2, (.pointer (some ⟨bb1, 0, none⟩))), (8, (.int .i64 a0_1)), (9, (.int .i64 x1)), (10, (.bool (decide (x1 < a0_1)))), (4, (.int .i64 x1)), (13, (.int .i64 a0_0)), (14, (.int .i64 x11)), (15, (.bool x12))] φ' ∧ Mod [some b1, u1_0.ownBlock, u1_1.ownBlock, u1_2.ownBlock] h0 h' ∧ Sep [some b1, u1_0.ownBlock, u1_1.ownBlock, u1_2.ownBlock] h0.size h' [boxO bb1 [(.int .i64 a0_0), (.int .i64 a0_1), (.bool a0_2), u0_3, u0_4], boxO b1 [u1_0, u1_1, u1_2], ownO (kF .f32) 25 u1_0 a1_0, ownO (kF .f32) 25 u1_1 x13, ownO (kF .f32) 25 u1_2 x14]) ?_ ?_
   ·refine W.block ?_
    refine W.loopS (fun (s : (Int × (List (Option Nat)) × (List (Option Nat)))) φ' h' => Fr.sub [(0, (.agg (List.toArray (α := Value) [(.int .i64 a0_0), (.int .i64 a0_1), (.bool a0_2), u0_3, u0_4]))), (1, (.pointer (some ⟨b1, 0, none⟩))), (2, (.pointer (some ⟨bb1, 0, none⟩))), (8, (.int .i64 a0_1)), (9, (.int .i64 x1)), (10, (.bool (decide (x1 < a0_1)))), (4, (.int .i64 x1)), (13, (.int .i64 a0_0)), (14, (.int .i64 s.1))] φ' ∧ Mod [some b1, u1_0.ownBlock, u1_1.ownBlock, u1_2.ownBlock] h0 h' ∧ Sep [some b1, u1_0.ownBlock, u1_1.ownBlock, u1_2.ownBlock] h0.size h' [boxO bb1 [(.int .i64 a0_0), (.int .i64 a0_1), (.bool a0_2), u0_3, u0_4], boxO b1 [u1_0, u1_1, u1_2], ownO (kF .f32) 25 u1_0 a1_0, ownO (kF .f32) 25 u1_1 s.2.1, ownO (kF .f32) 25 u1_2 s.2.2]) hy2 ⟨⟨rfl, rfl, rfl, rfl, rfl, rfl, rfl, rfl, rfl, trivial⟩, X_2, (Sep.sel S_2 [0, 1, 2, 3, 4] (by decide))⟩ ?_
    rintro ⟨x8, x9, x10⟩ φ' hp3 o2 ⟨hs3, X_3, S_3⟩ ho2 hy2
    have hs3 : Fr.sub [(0, (.agg (List.toArray (α := Value) [(.int .i64 a0_0), (.int .i64 a0_1), (.bool a0_2), u0_3, u0_4]))), (1, (.pointer (some ⟨b1, 0, none⟩))), (2, (.pointer (some ⟨bb1, 0, none⟩))), (8, (.int .i64 a0_1)), (9, (.int .i64 x1)), (10, (.bool (decide (x1 < a0_1)))), (4, (.int .i64 x1)), (13, (.int .i64 a0_0)), (14, (.int .i64 x8))] φ' := hs3
    have S_3 : Sep [some b1, u1_0.ownBlock, u1_1.ownBlock, u1_2.ownBlock] h0.size hp3 [boxO bb1 [(.int .i64 a0_0), (.int .i64 a0_1), (.bool a0_2), u0_3, u0_4], boxO b1 [u1_0, u1_1, u1_2], ownO (kF .f32) 25 u1_0 a1_0, ownO (kF .f32) 25 u1_1 x9, ownO (kF .f32) 25 u1_2 x10] := S_3
    have ho2 : impl_halfStep_o.s1 a0_0 a0_1 a0_2 a0_3 a0_4 a1_0 x1 x8 x9 x10 = some o2 := ho2
    unfold impl_halfStep_o.s1 at ho2
    refine W.sub hs3 ?_
    refine W.seq ?_
    refine W.region ?_
    refine RL.opD (by decide) (opv_icmp rfl rfl rfl rfl) ?_
    refine RL.nil ?_
    refine thnN ?_
    refine W.seq ?_
    by_cases c2 : (decide (x8 < a0_0)) = true
    ·rw [if_pos c2] at ho2
     refine W.condT rfl c2 ?_
     refine W.skip ?_
     refine thnN ?_
     refine W.seq ?_
     refine W.block ?_
     refine W.seq ?_
     refine W.region ?_
     refine RL.opD (by decide) (opv_move rfl rfl) ?_
     refine RL.opD (by decide) (opv_assign rfl rfl) ?_
     refine RL.nil ?_
     refine thnN ?_
     refine W.seq ?_
     obtain ⟨x15, hx15, ho2⟩ := Option.bind_eq_some_iff.1 ho2
     refine W.region ?_
     refine RL.opD (by decide) (opv_loadA (us := [(.int .i64 a0_0), (.int .i64 a0_1), (.bool a0_2), u0_3, u0_4]) rfl Try.agg31 Try.size31 rfl (Sep.at (o := boxO bb1 [(.int .i64 a0_0), (.int .i64 a0_1), (.bool a0_2), u0_3, u0_4]) S_3 0 rfl) rfl rfl) ?_
     refine RL.opD (by decide) (opv_move rfl rfl) ?_
     refine RL.opD (by decide) (opv_move rfl rfl) ?_
     refine RL.op _ (by decide) (opv_call (cap := []) (impl_Sheet_at_ok _ _ _ _ _ _ (SL.up (SL.mod g0_3 X_3 hlo hB) (Nat.le_trans hlo (Mod.size X_3))) _ _ (SL.up (SL.mod g0_4 X_3 hlo hB) (Nat.le_trans hlo (Mod.size X_3))) _ _ _ hx15) rfl rfl ⟨rfl, rfl, rfl, trivial⟩ Try.func118 rfl rfl) ?_
     rintro _ hp4 ⟨rfl, MT_2, T_2⟩
     obtain ⟨X_4, S_4⟩ := Sep.turn0 X_3 S_3 MT_2 T_2
     refine RL.opD (by decide) (opv_assign rfl rfl) ?_
     refine RL.nil ?_
     refine thnN ?_
     refine W.seq ?_
     refine W.seq ?_
     obtain ⟨x16, hy3, ho2⟩ := Option.bind_eq_some_iff.1 ho2
     refine W.cut (fun φ' h' => Fr.sub [(0, (.agg (List.toArray (α := Value) [(.int .i64 a0_0), (.int .i64 a0_1), (.bool a0_2), u0_3, u0_4]))), (1, (.pointer (some ⟨b1, 0, none⟩))), (2, (.pointer (some ⟨bb1, 0, none⟩))), (8, (.int .i64 a0_1)), (9, (.int .i64 x1)), (10, (.bool (decide (x1 < a0_1)))), (4, (.int .i64 x1)), (13, (.int .i64 a0_0)), (14, (.int .i64 x8)), (15, (.bool (decide (x8 < a0_0)))), (5, (.int .i64 x8)), (6, (.int .i64 x15)), (29, (.bool x16))] φ' ∧ hp4 = h') ?_ ?_
     ·by_cases c3 : a0_2 = true
      ·rw [if_pos c3] at hy3
       refine W.region ?_
       refine RL.opD (by decide) (opv_fieldAddr rfl Try.fo31_2 rfl) ?_
       refine RL.opD (by decide) (opv_loadB rfl Try.one4 rfl (Sep.at (o := boxO bb1 [(.int .i64 a0_0), (.int .i64 a0_1), (.bool a0_2), u0_3, u0_4]) S_4 0 rfl) rfl) ?_
       refine RL.opD (by decide) (opv_move rfl rfl) ?_
       refine RL.noT rfl rfl c3 (by decide) ?_
       refine RL.noT rfl rfl c3 (by decide) ?_
       refine RL.noT rfl rfl c3 (by decide) ?_
       refine RL.noT rfl rfl c3 (by decide) ?_
       refine RL.noT rfl rfl c3 (by decide) ?_
       refine RL.opD (by decide) (opv_pick rfl rfl (fun _ => rfl) (fun e => absurd (Eq.trans (Eq.symm e) c3) (by decide)) rfl) ?_
       refine RL.nil ?_
       have ey3 := Option.some.inj hy3
       subst ey3
       refine onlyN ?_
       exact ⟨⟨rfl, rfl, rfl, rfl, rfl, rfl, rfl, rfl, rfl, rfl, rfl, rfl, rfl, trivial⟩, rfl⟩
      ·rw [if_neg c3] at hy3
       have c3 := eq_false_of_ne_true c3
       refine W.region ?_
       refine RL.opD (by decide) (opv_fieldAddr rfl Try.fo31_2 rfl) ?_
       refine RL.opD (by decide) (opv_loadB rfl Try.one4 rfl (Sep.at (o := boxO bb1 [(.int .i64 a0_0), (.int .i64 a0_1), (.bool a0_2), u0_3, u0_4]) S_4 0 rfl) rfl) ?_
       refine RL.opD (by decide) (opv_move rfl rfl) ?_
       refine RL.yesD rfl rfl c3 (by decide) (opv_move rfl rfl) ?_
       refine RL.yesD rfl rfl c3 (by decide) (opv_fieldAddr rfl Try.fo31_1 rfl) ?_
       refine RL.yesD rfl rfl c3 (by decide) (opv_loadB rfl Try.one2 rfl (Sep.at (o := boxO bb1 [(.int .i64 a0_0), (.int .i64 a0_1), (.bool a0_2), u0_3, u0_4]) S_4 0 rfl) rfl) ?_
       refine RL.yesD rfl rfl c3 (by decide) (opv_sub rfl rfl rfl) ?_
       refine RL.yesD rfl rfl c3 (by decide) (opv_icmp rfl rfl rfl rfl) ?_
       refine RL.opD (by decide) (opv_pick rfl rfl (fun e => absurd (Eq.trans (Eq.symm e) c3) (by decide)) (fun _ => rfl) rfl) ?_
       refine RL.nil ?_
       have ey3 := Option.some.inj hy3
       subst ey3
       refine onlyN ?_
       exact ⟨⟨rfl, rfl, rfl, rfl, rfl, rfl, rfl, rfl, rfl, rfl, rfl, rfl, rfl, trivial⟩, rfl⟩
     rintro φ' _ ⟨hs5, rfl⟩
     refine thnN ?_
     refine W.sub hs5 ?_
     obtain ⟨x17, hy4, ho2⟩ := Option.bind_eq_some_iff.1 ho2
     refine W.cut (fun φ' h' => Fr.sub [(0, (.agg (List.toArray (α := Value) [(.int .i64 a0_0), (.int .i64 a0_1), (.bool a0_2), u0_3, u0_4]))), (1, (.pointer (some ⟨b1, 0, none⟩))), (2, (.pointer (some ⟨bb1, 0, none⟩))), (8, (.int .i64 a0_1)), (9, (.int .i64 x1)), (10, (.bool (decide (x1 < a0_1)))), (4, (.int .i64 x1)), (13, (.int .i64 a0_0)), (14, (.int .i64 x8)), (15, (.bool (decide (x8 < a0_0)))), (5, (.int .i64 x8)), (6, (.int .i64 x15)), (29, (.bool x16))] φ' ∧ Mod [some b1, u1_0.ownBlock, u1_1.ownBlock, u1_2.ownBlock] h0 h' ∧ Sep [some b1, u1_0.ownBlock, u1_1.ownBlock, u1_2.ownBlock] h0.size h' [boxO bb1 [(.int .i64 a0_0), (.int .i64 a0_1), (.bool a0_2), u0_3, u0_4], boxO b1 [u1_0, u1_1, u1_2], ownO (kF .f32) 25 u1_0 a1_0, ownO (kF .f32) 25 u1_1 x17, ownO (kF .f32) 25 u1_2 x10]) ?_ ?_
     ·by_cases c4 : x16 = true
      ·rw [if_pos c4] at hy4
       refine W.condT rfl c4 ?_
       obtain ⟨x18, hx18, hy4⟩ := Option.bind_eq_some_iff.1 hy4
       obtain ⟨x19, hx19, hy4⟩ := Option.bind_eq_some_iff.1 hy4
       obtain ⟨x20, hx20, hy4⟩ := Option.bind_eq_some_iff.1 hy4
       obtain ⟨x21, hx21, hy4⟩ := Option.bind_eq_some_iff.1 hy4
       obtain ⟨x22, hx22, hy4⟩ := Option.bind_eq_some_iff.1 hy4
       obtain ⟨x23, hx23, hy4⟩ := Option.bind_eq_some_iff.1 hy4
       refine W.sub (ψ := [(0, (.agg (List.toArray (α := Value) [(.int .i64 a0_0), (.int .i64 a0_1), (.bool a0_2), u0_3, u0_4]))), (1, (.pointer (some ⟨b1, 0, none⟩))), (2, (.pointer (some ⟨bb1, 0, none⟩))), (8, (.int .i64 a0_1)), (9, (.int .i64 x1)), (10, (.bool (decide (x1 < a0_1)))), (4, (.int .i64 x1)), (13, (.int .i64 a0_0)), (14, (.int .i64 x8)), (15, (.bool (decide (x8 < a0_0)))), (5, (.int .i64 x8)), (6, (.int .i64 x15)), (29, (.bool x16))]) ⟨rfl, rfl, rfl, rfl, rfl, rfl, rfl, rfl, rfl, rfl, rfl, rfl, rfl, trivial⟩ ?_
       refine W.regionS [fun v _ => @Eq Value (.pointer (some ⟨b1, 0, none⟩)) v, fun v _ => @Eq Value (.pointer (some ⟨b1, 0, none⟩)) v, fun v _ => @Eq Value (.pointer (some ⟨b1, 1, none⟩)) v, fun v _ => @Eq Value u1_1 v, fun v _ => @Eq Value (.int .i64 x15) v, fun v _ => @Eq Value (.pointer (some ⟨b1, 0, none⟩)) v, fun v _ => @Eq Value (.pointer (some ⟨b1, 0, none⟩)) v, fun v _ => @Eq Value (.pointer (some ⟨b1, 1, none⟩)) v, fun v _ => @Eq Value u1_1 v, fun v _ => @Eq Value (.int .i64 x15) v, fun v _ => PtI 1 v u1_1 (Int.toNat x15), fun v _ => IsF .f32 v x18, fun v _ => @Eq Value (.pointer (some ⟨b1, 0, none⟩)) v, fun v _ => @Eq Value (.pointer (some ⟨b1, 0, none⟩)) v, fun v _ => @Eq Value (.pointer (some ⟨b1, 0, none⟩)) v, fun v _ => @Eq Value u1_0 v, fun v _ => @Eq Value (.agg (List.toArray (α := Value) [(.int .i64 a0_0), (.int .i64 a0_1), (.bool a0_2), u0_3, u0_4])) v, fun v _ => @Eq Value (.int .i64 x8) v, fun v _ => @Eq Value (.int .i64 x1) v, fun v _ => @Eq Value (.int .i64 (IntKind.wrap .i64 (x1 + 1))) v, fun v h => @Eq Value v (.int .i64 x19) ∧ Sep [] hp4.size h [], fun v _ => PtI 1 v u1_0 (Int.toNat x19), fun v _ => IsF .f32 v x20, fun v _ => @Eq Value (.pointer (some ⟨b1, 0, none⟩)) v, fun v _ => @Eq Value (.pointer (some ⟨b1, 0, none⟩)) v, fun v _ => @Eq Value (.pointer (some ⟨b1, 0, none⟩)) v, fun v _ => @Eq Value u1_0 v, fun v _ => @Eq Value (.int .i64 x15) v, fun v _ => PtI 1 v u1_0 (Int.toNat x15), fun v _ => IsF .f32 v x21, fun v _ => IsF .f32 v (fop .sub .f32 x20 x21), fun v _ => IsF .f32 v (fop .mul .f32 (some 1056964608) (fop .sub .f32 x20 x21)), fun v _ => IsF .f32 v (fop .sub .f32 x18 (fop .mul .f32 (some 1056964608) (fop .sub .f32 x20 x21))), fun v _ => PtI 1 v u1_1 (Int.toNat x15)] [[], [0], [1], [2], [], [], [5], [6], [7], [], [8, 9], [10], [], [12], [13], [14], [], [], [], [18], [16, 17, 19], [15, 20], [21], [], [23], [24], [25], [], [26, 27], [28], [22, 29], [30], [11, 31], [3, 4]] [32, 33] Try.mixed (by decide +kernel) (by decide +kernel) rfl rfl rfl ⟨fun _ _ _ h _ => h, fun _ _ _ h _ => h, fun _ _ _ h _ => h, fun _ _ _ h _ => h, fun _ _ _ h _ => h, fun _ _ _ h _ => h, fun _ _ _ h _ => h, fun _ _ _ h _ => h, fun _ _ _ h _ => h, fun _ _ _ h _ => h, fun _ _ _ h _ => h, fun _ _ _ h _ => h, fun _ _ _ h _ => h, fun _ _ _ h _ => h, fun _ _ _ h _ => h, fun _ _ _ h _ => h, fun _ _ _ h _ => h, fun _ _ _ h _ => h, fun _ _ _ h _ => h, fun _ _ _ h _ => h, fun _ _ _ ⟨e, h⟩ x => ⟨e, h.ext x⟩, fun _ _ _ h _ => h, fun _ _ _ h _ => h, fun _ _ _ h _ => h, fun _ _ _ h _ => h, fun _ _ _ h _ => h, fun _ _ _ h _ => h, fun _ _ _ h _ => h, fun _ _ _ h _ => h, fun _ _ _ h _ => h, fun _ _ _ h _ => h, fun _ _ _ h _ => h, fun _ _ _ h _ => h, fun _ _ _ h _ => h, trivial⟩ ?_ ?_
       ·refine ⟨⟨rfl, ?_⟩, ⟨rfl, ?_⟩, ⟨rfl, ?_⟩, ⟨rfl, ?_⟩, ⟨rfl, ?_⟩, ⟨rfl, ?_⟩, ⟨rfl, ?_⟩, ⟨rfl, ?_⟩, ⟨rfl, ?_⟩, ⟨rfl, ?_⟩, ⟨rfl, ?_⟩, ⟨rfl, ?_⟩, ⟨rfl, ?_⟩, ⟨rfl, ?_⟩, ⟨rfl, ?_⟩, ⟨rfl, ?_⟩, ⟨rfl, ?_⟩, ⟨rfl, ?_⟩, ⟨rfl, ?_⟩, ⟨rfl, ?_⟩, ⟨rfl, ?_⟩, ⟨rfl, ?_⟩, ⟨rfl, ?_⟩, ⟨rfl, ?_⟩, ⟨rfl, ?_⟩, ⟨rfl, ?_⟩, ⟨rfl, ?_⟩, ⟨rfl, ?_⟩, ⟨rfl, ?_⟩, ⟨rfl, ?_⟩, ⟨rfl, ?_⟩, ⟨rfl, ?_⟩, ⟨rfl, ?_⟩, ⟨rfl, ?_⟩, trivial⟩
        ·rintro hp7 E_1
         refine Dep.nil ?_
         refine GuardOK.none rfl ?_
         exact OpV.toDx (opv_move rfl rfl) rfl
        ·rintro hp8 E_2 _ rfl
         refine Dep.nil ?_
         refine GuardOK.none rfl ?_
         exact OpV.toDx (opv_nilCheck rfl rfl) rfl
        ·rintro hp9 E_3 _ rfl
         refine Dep.nil ?_
         refine GuardOK.none rfl ?_
         exact OpV.toDx (opv_fieldAddr rfl Try.fo28_1 rfl) rfl
        ·rintro hp10 E_4 _ rfl
         refine Dep.nil ?_
         refine GuardOK.none rfl ?_
         exact OpV.toDx (opv_loadB rfl Try.one22 rfl (Sep.at (o := boxO b1 [u1_0, u1_1, u1_2]) (Sep.ext S_4 E_4) 1 rfl) rfl) rfl
        ·rintro hp11 E_5
         refine Dep.nil ?_
         refine GuardOK.none rfl ?_
         exact OpV.toDx (opv_move rfl rfl) rfl
        ·rintro hp12 E_6
         refine Dep.nil ?_
         refine GuardOK.none rfl ?_
         exact OpV.toDx (opv_move rfl rfl) rfl
        ·rintro hp13 E_7 _ rfl
         refine Dep.nil ?_
         refine GuardOK.none rfl ?_
         exact OpV.toDx (opv_nilCheck rfl rfl) rfl
        ·rintro hp14 E_8 _ rfl
         refine Dep.nil ?_
         refine GuardOK.none rfl ?_
         exact OpV.toDx (opv_fieldAddr rfl Try.fo28_1 rfl) rfl
        ·rintro hp15 E_9 _ rfl
         refine Dep.nil ?_
         refine GuardOK.none rfl ?_
         exact OpV.toDx (opv_loadB rfl Try.one22 rfl (Sep.at (o := boxO b1 [u1_0, u1_1, u1_2]) (Sep.ext S_4 E_9) 1 rfl) rfl) rfl
        ·rintro hp16 E_10
         refine Dep.nil ?_
         refine GuardOK.none rfl ?_
         exact OpV.toDx (opv_move rfl rfl) rfl
        ·rintro hp17 E_11 _ rfl _ rfl
         refine Dep.nil ?_
         refine GuardOK.none rfl ?_
         exact OpV.toSx (opv_index rfl Try.underlying22 (by rw [Try.size25]; rfl) rfl rfl (ownO.read (Sep.at (o := ownO (kF .f32) 25 u1_1 x9) (Sep.ext S_4 E_11) 3 rfl)) hx18) (fun _ h => h)
        ·rintro hp18 E_12 v1 fv1
         refine Dep.nil ?_
         refine GuardOK.none rfl ?_
         exact OpV.toSx (opv_loadF rfl Try.one25 rfl fv1 (ownO.read (Sep.at (o := ownO (kF .f32) 25 u1_1 x9) (Sep.ext S_4 E_12) 3 rfl)) hx18) (fun _ h => h)
        ·rintro hp19 E_13
         refine Dep.nil ?_
         refine GuardOK.none rfl ?_
         exact OpV.toDx (opv_move rfl rfl) rfl
        ·rintro hp20 E_14 _ rfl
         refine Dep.nil ?_
         refine GuardOK.none rfl ?_
         exact OpV.toDx (opv_nilCheck rfl rfl) rfl
        ·rintro hp21 E_15 _ rfl
         refine Dep.nil ?_
         refine GuardOK.none rfl ?_
         exact OpV.toDx (opv_fieldAddr rfl Try.fo28_0 rfl) rfl
        ·rintro hp22 E_16 _ rfl
         refine Dep.nil ?_
         refine GuardOK.none rfl ?_
         exact OpV.toDx (opv_loadB rfl Try.one22 rfl (Sep.at (o := boxO b1 [u1_0, u1_1, u1_2]) (Sep.ext S_4 E_16) 1 rfl) rfl) rfl
        ·rintro hp23 E_17
         refine Dep.nil ?_
         refine GuardOK.none rfl ?_
         exact OpV.toDx (opv_loadA (us := [(.int .i64 a0_0), (.int .i64 a0_1), (.bool a0_2), u0_3, u0_4]) rfl Try.agg31 Try.size31 rfl (Sep.at (o := boxO bb1 [(.int .i64 a0_0), (.int .i64 a0_1), (.bool a0_2), u0_3, u0_4]) (Sep.ext S_4 E_17) 0 rfl) rfl rfl) rfl
        ·rintro hp24 E_18
         refine Dep.nil ?_
         refine GuardOK.none rfl ?_
         exact OpV.toDx (opv_move rfl rfl) rfl
        ·rintro hp25 E_19
         refine Dep.nil ?_
         refine GuardOK.none rfl ?_
         exact OpV.toDx (opv_move rfl rfl) rfl
        ·rintro hp26 E_20 _ rfl
         refine Dep.nil ?_
         refine GuardOK.none rfl ?_
         exact OpV.toDx (opv_add rfl rfl rfl) rfl
        ·rintro hp27 E_21 _ rfl _ rfl _ rfl
         refine Dep.nil ?_
         refine GuardOK.none rfl ?_
         exact OpV.mono (opv_call (cap := []) (impl_Sheet_at_ok _ _ _ _ _ _ (SL.up (SL.mod g0_3 (Mod.lift X_4 E_21) hlo hB) (Nat.le_trans hlo (Mod.size (Mod.lift X_4 E_21)))) _ _ (SL.up (SL.mod g0_4 (Mod.lift X_4 E_21) hlo hB) (Nat.le_trans hlo (Mod.size (Mod.lift X_4 E_21)))) _ _ _ hx19) rfl rfl ⟨rfl, rfl, rfl, trivial⟩ Try.func118 rfl rfl) (by rintro _ _ ⟨rfl, M_, T_⟩; exact ⟨Mod.ext M_, rfl, Sep.weak T_ (Ext.size E_21)⟩)
        ·rintro hp28 E_22 _ rfl _ ⟨rfl, T_3⟩
         refine Dep.nil ?_
         refine GuardOK.none rfl ?_
         exact OpV.toSx (opv_index rfl Try.underlying22 (by rw [Try.size25]; rfl) rfl rfl (ownO.read (Sep.at (o := ownO (kF .f32) 25 u1_0 a1_0) (Sep.ext S_4 E_22) 2 rfl)) hx20) (fun _ h => h)
        ·rintro hp29 E_23 v3 fv3
         refine Dep.nil ?_
         refine GuardOK.none rfl ?_
         exact OpV.toSx (opv_loadF rfl Try.one25 rfl fv3 (ownO.read (Sep.at (o := ownO (kF .f32) 25 u1_0 a1_0) (Sep.ext S_4 E_23) 2 rfl)) hx20) (fun _ h => h)
        ·rintro hp30 E_24
         refine Dep.nil ?_
         refine GuardOK.none rfl ?_
         exact OpV.toDx (opv_move rfl rfl) rfl
        ·rintro hp31 E_25 _ rfl
         refine Dep.nil ?_
         refine GuardOK.none rfl ?_
         exact OpV.toDx (opv_nilCheck rfl rfl) rfl
        ·rintro hp32 E_26 _ rfl
         refine Dep.nil ?_
         refine GuardOK.none rfl ?_
         exact OpV.toDx (opv_fieldAddr rfl Try.fo28_0 rfl) rfl
        ·rintro hp33 E_27 _ rfl
         refine Dep.nil ?_
         refine GuardOK.none rfl ?_
         exact OpV.toDx (opv_loadB rfl Try.one22 rfl (Sep.at (o := boxO b1 [u1_0, u1_1, u1_2]) (Sep.ext S_4 E_27) 1 rfl) rfl) rfl
        ·rintro hp34 E_28
         refine Dep.nil ?_
         refine GuardOK.none rfl ?_
         exact OpV.toDx (opv_move rfl rfl) rfl
        ·rintro hp35 E_29 _ rfl _ rfl
         refine Dep.nil ?_
         refine GuardOK.none rfl ?_
         exact OpV.toSx (opv_index rfl Try.underlying22 (by rw [Try.size25]; rfl) rfl rfl (ownO.read (Sep.at (o := ownO (kF .f32) 25 u1_0 a1_0) (Sep.ext S_4 E_29) 2 rfl)) hx21) (fun _ h => h)
        ·rintro hp36 E_30 v5 fv5
         refine Dep.nil ?_
         refine GuardOK.none rfl ?_
         exact OpV.toSx (opv_loadF rfl Try.one25 rfl fv5 (ownO.read (Sep.at (o := ownO (kF .f32) 25 u1_0 a1_0) (Sep.ext S_4 E_30) 2 rfl)) hx21) (fun _ h => h)
        ·rintro hp37 E_31 v4 fv4 v6 fv6
         refine Dep.nil ?_
         refine GuardOK.none rfl ?_
         exact OpV.toSx (opv_fop rfl rfl rfl rfl fv4 fv6) (fun _ h => h)
        ·rintro hp38 E_32 v7 fv7
         refine Dep.nil ?_
         refine GuardOK.none rfl ?_
         exact OpV.toSx (opv_fop rfl rfl rfl rfl (isF_lit .f32 1056964608 (by decide) (by decide)) fv7) (fun _ h => h)
        ·rintro hp39 E_33 v2 fv2 v8 fv8
         refine Dep.nil ?_
         refine GuardOK.none rfl ?_
         exact OpV.toSx (opv_fop rfl rfl rfl rfl fv2 fv8) (fun _ h => h)
        ·rintro hp40 E_34 _ rfl _ rfl
         refine Dep.nil ?_
         refine GuardOK.none rfl ?_
         exact OpV.toSx (opv_index rfl Try.underlying22 (by rw [Try.size25]; rfl) rfl rfl (ownO.read (Sep.at (o := ownO (kF .f32) 25 u1_1 x9) (Sep.ext S_4 E_34) 3 rfl)) hx22) (fun _ h => h)
       rintro hp41 E_35 v9 fv9 v10 fv10
       have X_7 := Mod.lift X_4 E_35
       have S_8 := Sep.ext S_4 E_35
       refine Dep.nil ?_
       show RL _ _ _ _ (_ :: _) _ _
       refine RL.op0 _ (opS_storeE (K := (kF .f32)) rfl Try.size25 rfl rfl fv10 rfl ⟨_, rfl, fv9⟩ hx23 (Sep.at (o := ownO (kF .f32) 25 u1_1 x9) S_8 3 rfl)) ?_
       rintro _ hp42 ⟨rfl, MT_5, T_5⟩
       have S_9 : Sep [some b1, u1_0.ownBlock, u1_1.ownBlock, u1_2.ownBlock] h0.size hp41 ([ownO (kF .f32) 25 u1_1 x9] ++ [boxO bb1 [(.int .i64 a0_0), (.int .i64 a0_1), (.bool a0_2), u0_3, u0_4], boxO b1 [u1_0, u1_1, u1_2], ownO (kF .f32) 25 u1_0 a1_0, ownO (kF .f32) 25 u1_2 x10]) := Sep.sel S_8 [3, 0, 1, 2, 4] (by decide)
       obtain ⟨X_8, S_10⟩ := Sep.turn X_7 S_9 MT_5 T_5
       refine RL.nil ?_
       have ey4 := Option.some.inj hy4
       subst ey4
       refine onlyN ?_
       exact ⟨⟨rfl, rfl, rfl, rfl, rfl, rfl, rfl, rfl, rfl, rfl, rfl, rfl, rfl, trivial⟩, X_8, (Sep.sel S_10 [1, 2, 3, 0, 4] (by decide))⟩
      ·rw [if_neg c4] at hy4
       have c4 := eq_false_of_ne_true c4
       refine W.condF rfl c4 ?_
       refine W.skip ?_
       have ey4 := Option.some.inj hy4
       subst ey4
       refine onlyN ?_
       exact ⟨⟨rfl, rfl, rfl, rfl, rfl, rfl, rfl, rfl, rfl, rfl, rfl, rfl, rfl, trivial⟩, X_4, (Sep.sel S_4 [0, 1, 2, 3, 4] (by decide))⟩
     rintro φ' hp43 ⟨hs6, X_9, S_11⟩
     refine thnN ?_
     refine W.sub hs6 ?_
     refine W.seq ?_
     obtain ⟨x24, hy5, ho2⟩ := Option.bind_eq_some_iff.1 ho2
     refine W.cut (fun φ' h' => Fr.sub [(0, (.agg (List.toArray (α := Value) [(.int .i64 a0_0), (.int .i64 a0_1), (.bool a0_2), u0_3, u0_4]))), (1, (.pointer (some ⟨b1, 0, none⟩))), (2, (.pointer (some ⟨bb1, 0, none⟩))), (8, (.int .i64 a0_1)), (9, (.int .i64 x1)), (10, (.bool (decide (x1 < a0_1)))), (4, (.int .i64 x1)), (13, (.int .i64 a0_0)), (14, (.int .i64 x8)), (15, (.bool (decide (x8 < a0_0)))), (5, (.int .i64 x8)), (6, (.int .i64 x15)), (29, (.bool x16)), (72, (.bool x24))] φ' ∧ hp43 = h') ?_ ?_
     ·by_cases c5 : a0_2 = true
      ·rw [if_pos c5] at hy5
       refine W.region ?_
       refine RL.opD (by decide) (opv_fieldAddr rfl Try.fo31_2 rfl) ?_
       refine RL.opD (by decide) (opv_loadB rfl Try.one4 rfl (Sep.at (o := boxO bb1 [(.int .i64 a0_0), (.int .i64 a0_1), (.bool a0_2), u0_3, u0_4]) S_11 0 rfl) rfl) ?_
       refine RL.opD (by decide) (opv_move rfl rfl) ?_
       refine RL.noT rfl rfl c5 (by decide) ?_
       refine RL.noT rfl rfl c5 (by decide) ?_
       refine RL.noT rfl rfl c5 (by decide) ?_
       refine RL.noT rfl rfl c5 (by decide) ?_
       refine RL.noT rfl rfl c5 (by decide) ?_
       refine RL.opD (by decide) (opv_pick rfl rfl (fun _ => rfl) (fun e => absurd (Eq.trans (Eq.symm e) c5) (by decide)) rfl) ?_
       refine RL.nil ?_
       have ey5 := Option.some.inj hy5
       subst ey5
       refine onlyN ?_
       exact ⟨⟨rfl, rfl, rfl, rfl, rfl, rfl, rfl, rfl, rfl, rfl, rfl, rfl, rfl, rfl, trivial⟩, rfl⟩
      ·rw [if_neg c5] at hy5
       have c5 := eq_false_of_ne_true c5
       refine W.region ?_
       refine RL.opD (by decide) (opv_fieldAddr rfl Try.fo31_2 rfl) ?_
       refine RL.opD (by decide) (opv_loadB rfl Try.one4 rfl (Sep.at (o := boxO bb1 [(.int .i64 a0_0), (.int .i64 a0_1), (.bool a0_2), u0_3, u0_4]) S_11 0 rfl) rfl) ?_
       refine RL.opD (by decide) (opv_move rfl rfl) ?_
       refine RL.yesD rfl rfl c5 (by decide) (opv_move rfl rfl) ?_
       refine RL.yesD rfl rfl c5 (by decide) (opv_fieldAddr rfl Try.fo31_0 rfl) ?_
       refine RL.yesD rfl rfl c5 (by decide) (opv_loadB rfl Try.one2 rfl (Sep.at (o := boxO bb1 [(.int .i64 a0_0), (.int .i64 a0_1), (.bool a0_2), u0_3, u0_4]) S_11 0 rfl) rfl) ?_
       refine RL.yesD rfl rfl c5 (by decide) (opv_sub rfl rfl rfl) ?_
       refine RL.yesD rfl rfl c5 (by decide) (opv_icmp rfl rfl rfl rfl) ?_
       refine RL.opD (by decide) (opv_pick rfl rfl (fun e => absurd (Eq.trans (Eq.symm e) c5) (by decide)) (fun _ => rfl) rfl) ?_
       refine RL.nil ?_
       have ey5 := Option.some.inj hy5
       subst ey5
       refine onlyN ?_
       exact ⟨⟨rfl, rfl, rfl, rfl, rfl, rfl, rfl, rfl, rfl, rfl, rfl, rfl, rfl, rfl, trivial⟩, rfl⟩
     rintro φ' _ ⟨hs7, rfl⟩
     refine thnN ?_
     refine W.sub hs7 ?_
     obtain ⟨x25, hy6, ho2⟩ := Option.bind_eq_some_iff.1 ho2
     refine W.cut (fun φ' h' => Fr.sub [(0, (.agg (List.toArray (α := Value) [(.int .i64 a0_0), (.int .i64 a0_1), (.bool a0_2), u0_3, u0_4]))), (1, (.pointer (some ⟨b1, 0, none⟩))), (2, (.pointer (some ⟨bb1, 0, none⟩))), (8, (.int .i64 a0_1)), (9, (.int .i64 x1)), (10, (.bool (decide (x1 < a0_1)))), (4, (.int .i64 x1)), (13, (.int .i64 a0_0)), (14, (.int .i64 x8)), (15, (.bool (decide (x8 < a0_0)))), (5, (.int .i64 x8)), (6, (.int .i64 x15)), (29, (.bool x16)), (72, (.bool x24))] φ' ∧ Mod [some b1, u1_0.ownBlock, u1_1.ownBlock, u1_2.ownBlock] h0 h' ∧ Sep [some b1, u1_0.ownBlock, u1_1.ownBlock, u1_2.ownBlock] h0.size h' [boxO bb1 [(.int .i64 a0_0), (.int .i64 a0_1), (.bool a0_2), u0_3, u0_4], boxO b1 [u1_0, u1_1, u1_2], ownO (kF .f32) 25 u1_0 a1_0, ownO (kF .f32) 25 u1_1 x17, ownO (kF .f32) 25 u1_2 x25]) ?_ ?_
     ·by_cases c6 : x24 = true
      ·rw [if_pos c6] at hy6
       refine W.condT rfl c6 ?_
       obtain ⟨x26, hx26, hy6⟩ := Option.bind_eq_some_iff.1 hy6
       obtain ⟨x27, hx27, hy6⟩ := Option.bind_eq_some_iff.1 hy6
       obtain ⟨x28, hx28, hy6⟩ := Option.bind_eq_some_iff.1 hy6
       obtain ⟨x29, hx29, hy6⟩ := Option.bind_eq_some_iff.1 hy6
       obtain ⟨x30, hx30, hy6⟩ := Option.bind_eq_some_iff.1 hy6
       obtain ⟨x31, hx31, hy6⟩ := Option.bind_eq_some_iff.1 hy6
       refine W.sub (ψ := [(0, (.agg (List.toArray (α := Value) [(.int .i64 a0_0), (.int .i64 a0_1), (.bool a0_2), u0_3, u0_4]))), (1, (.pointer (some ⟨b1, 0, none⟩))), (2, (.pointer (some ⟨bb1, 0, none⟩))), (8, (.int .i64 a0_1)), (9, (.int .i64 x1)), (10, (.bool (decide (x1 < a0_1)))), (4, (.int .i64 x1)), (13, (.int .i64 a0_0)), (14, (.int .i64 x8)), (15, (.bool (decide (x8 < a0_0)))), (5, (.int .i64 x8)), (6, (.int .i64 x15)), (29, (.bool x16)), (72, (.bool x24))]) ⟨rfl, rfl, rfl, rfl, rfl, rfl, rfl, rfl, rfl, rfl, rfl, rfl, rfl, rfl, trivial⟩ ?_
       refine W.regionS [fun v _ => @Eq Value (.pointer (some ⟨b1, 0, none⟩)) v, fun v _ => @Eq Value (.pointer (some ⟨b1, 0, none⟩)) v, fun v _ => @Eq Value (.pointer (some ⟨b1, 2, none⟩)) v, fun v _ => @Eq Value u1_2 v, fun v _ => @Eq Value (.int .i64 x15) v, fun v _ => @Eq Value (.pointer (some ⟨b1, 0, none⟩)) v, fun v _ => @Eq Value (.pointer (some ⟨b1, 0, none⟩)) v, fun v _ => @Eq Value (.pointer (some ⟨b1, 2, none⟩)) v, fun v _ => @Eq Value u1_2 v, fun v _ => @Eq Value (.int .i64 x15) v, fun v _ => PtI 1 v u1_2 (Int.toNat x15), fun v _ => IsF .f32 v x26, fun v _ => @Eq Value (.pointer (some ⟨b1, 0, none⟩)) v, fun v _ => @Eq Value (.pointer (some ⟨b1, 0, none⟩)) v, fun v _ => @Eq Value (.pointer (some ⟨b1, 0, none⟩)) v, fun v _ => @Eq Value u1_0 v, fun v _ => @Eq Value (.agg (List.toArray (α := Value) [(.int .i64 a0_0), (.int .i64 a0_1), (.bool a0_2), u0_3, u0_4])) v, fun v _ => @Eq Value (.int .i64 x8) v, fun v _ => @Eq Value (.int .i64 (IntKind.wrap .i64 (x8 + 1))) v, fun v _ => @Eq Value (.int .i64 x1) v, fun v h => @Eq Value v (.int .i64 x27) ∧ Sep [] hp43.size h [], fun v _ => PtI 1 v u1_0 (Int.toNat x27), fun v _ => IsF .f32 v x28, fun v _ => @Eq Value (.pointer (some ⟨b1, 0, none⟩)) v, fun v _ => @Eq Value (.pointer (some ⟨b1, 0, none⟩)) v, fun v _ => @Eq Value (.pointer (some ⟨b1, 0, none⟩)) v, fun v _ => @Eq Value u1_0 v, fun v _ => @Eq Value (.int .i64 x15) v, fun v _ => PtI 1 v u1_0 (Int.toNat x15), fun v _ => IsF .f32 v x29, fun v _ => IsF .f32 v (fop .sub .f32 x28 x29), fun v _ => IsF .f32 v (fop .mul .f32 (some 1056964608) (fop .sub .f32 x28 x29)), fun v _ => IsF .f32 v (fop .add .f32 x26 (fop .mul .f32 (some 1056964608) (fop .sub .f32 x28 x29))), fun v _ => PtI 1 v u1_2 (Int.toNat x15)] [[], [0], [1], [2], [], [], [5], [6], [7], [], [8, 9], [10], [], [12], [13], [14], [], [], [17], [], [16, 18, 19], [15, 20], [21], [], [23], [24], [25], [], [26, 27], [28], [22, 29], [30], [11, 31], [3, 4]] [32, 33] Try.mixed (by decide +kernel) (by decide +kernel) rfl rfl rfl ⟨fun _ _ _ h _ => h, fun _ _ _ h _ => h, fun _ _ _ h _ => h, fun _ _ _ h _ => h, fun _ _ _ h _ => h, fun _ _ _ h _ => h, fun _ _ _ h _ => h, fun _ _ _ h _ => h, fun _ _ _ h _ => h, fun _ _ _ h _ => h, fun _ _ _ h _ => h, fun _ _ _ h _ => h, fun _ _ _ h _ => h, fun _ _ _ h _ => h, fun _ _ _ h _ => h, fun _ _ _ h _ => h, fun _ _ _ h _ => h, fun _ _ _ h _ => h, fun _ _ _ h _ => h, fun _ _ _ h _ => h, fun _ _ _ ⟨e, h⟩ x => ⟨e, h.ext x⟩, fun _ _ _ h _ => h, fun _ _ _ h _ => h, fun _ _ _ h _ => h, fun _ _ _ h _ => h, fun _ _ _ h _ => h, fun _ _ _ h _ => h, fun _ _ _ h _ => h, fun _ _ _ h _ => h, fun _ _ _ h _ => h, fun _ _ _ h _ => h, fun _ _ _ h _ => h, fun _ _ _ h _ => h, fun _ _ _ h _ => h, trivial⟩ ?_ ?_
       ·refine ⟨⟨rfl, ?_⟩, ⟨rfl, ?_⟩, ⟨rfl, ?_⟩, ⟨rfl, ?_⟩, ⟨rfl, ?_⟩, ⟨rfl, ?_⟩, ⟨rfl, ?_⟩, ⟨rfl, ?_⟩, ⟨rfl, ?_⟩, ⟨rfl, ?_⟩, ⟨rfl, ?_⟩, ⟨rfl, ?_⟩, ⟨rfl, ?_⟩, ⟨rfl, ?_⟩, ⟨rfl, ?_⟩, ⟨rfl, ?_⟩, ⟨rfl, ?_⟩, ⟨rfl, ?_⟩, ⟨rfl, ?_⟩, ⟨rfl, ?_⟩, ⟨rfl, ?_⟩, ⟨rfl, ?_⟩, ⟨rfl, ?_⟩, ⟨rfl, ?_⟩, ⟨rfl, ?_⟩, ⟨rfl, ?_⟩, ⟨rfl, ?_⟩, ⟨rfl, ?_⟩, ⟨rfl, ?_⟩, ⟨rfl, ?_⟩, ⟨rfl, ?_⟩, ⟨rfl, ?_⟩, ⟨rfl, ?_⟩, ⟨rfl, ?_⟩, trivial⟩
        ·rintro hp46 E_36
         refine Dep.nil ?_
         refine GuardOK.none rfl ?_
         exact OpV.toDx (opv_move rfl rfl) rfl
        ·rintro hp47 E_37 _ rfl
         refine Dep.nil ?_
         refine GuardOK.none rfl ?_
         exact OpV.toDx (opv_nilCheck rfl rfl) rfl
        ·rintro hp48 E_38 _ rfl
         refine Dep.nil ?_
         refine GuardOK.none rfl ?_
         exact OpV.toDx (opv_fieldAddr rfl Try.fo28_2 rfl) rfl
        ·rintro hp49 E_39 _ rfl
         refine Dep.nil ?_
         refine GuardOK.none rfl ?_
         exact OpV.toDx (opv_loadB rfl Try.one22 rfl (Sep.at (o := boxO b1 [u1_0, u1_1, u1_2]) (Sep.ext S_11 E_39) 1 rfl) rfl) rfl
        ·rintro hp50 E_40
         refine Dep.nil ?_
         refine GuardOK.none rfl ?_
         exact OpV.toDx (opv_move rfl rfl) rfl
        ·rintro hp51 E_41
         refine Dep.nil ?_
         refine GuardOK.none rfl ?_
         exact OpV.toDx (opv_move rfl rfl) rfl
        ·rintro hp52 E_42 _ rfl
         refine Dep.nil ?_
         refine GuardOK.none rfl ?_
         exact OpV.toDx (opv_nilCheck rfl rfl) rfl
        ·rintro hp53 E_43 _ rfl
         refine Dep.nil ?_
         refine GuardOK.none rfl ?_
         exact OpV.toDx (opv_fieldAddr rfl Try.fo28_2 rfl) rfl
        ·rintro hp54 E_44 _ rfl
         refine Dep.nil ?_
         refine GuardOK.none rfl ?_
         exact OpV.toDx (opv_loadB rfl Try.one22 rfl (Sep.at (o := boxO b1 [u1_0, u1_1, u1_2]) (Sep.ext S_11 E_44) 1 rfl) rfl) rfl
        ·rintro hp55 E_45
         refine Dep.nil ?_
         refine GuardOK.none rfl ?_
         exact OpV.toDx (opv_move rfl rfl) rfl
        ·rintro hp56 E_46 _ rfl _ rfl
         refine Dep.nil ?_
         refine GuardOK.none rfl ?_
         exact OpV.toSx (opv_index rfl Try.underlying22 (by rw [Try.size25]; rfl) rfl rfl (ownO.read (Sep.at (o := ownO (kF .f32) 25 u1_2 x10) (Sep.ext S_11 E_46) 4 rfl)) hx26) (fun _ h => h)
        ·rintro hp57 E_47 v11 fv11
         refine Dep.nil ?_
         refine GuardOK.none rfl ?_
         exact OpV.toSx (opv_loadF rfl Try.one25 rfl fv11 (ownO.read (Sep.at (o := ownO (kF .f32) 25 u1_2 x10) (Sep.ext S_11 E_47) 4 rfl)) hx26) (fun _ h => h)
        ·rintro hp58 E_48
         refine Dep.nil ?_
         refine GuardOK.none rfl ?_
         exact OpV.toDx (opv_move rfl rfl) rfl
        ·rintro hp59 E_49 _ rfl
         refine Dep.nil ?_
         refine GuardOK.none rfl ?_
         exact OpV.toDx (opv_nilCheck rfl rfl) rfl
        ·rintro hp60 E_50 _ rfl
         refine Dep.nil ?_
         refine GuardOK.none rfl ?_
         exact OpV.toDx (opv_fieldAddr rfl Try.fo28_0 rfl) rfl
        ·rintro hp61 E_51 _ rfl
         refine Dep.nil ?_
         refine GuardOK.none rfl ?_
         exact OpV.toDx (opv_loadB rfl Try.one22 rfl (Sep.at (o := boxO b1 [u1_0, u1_1, u1_2]) (Sep.ext S_11 E_51) 1 rfl) rfl) rfl
        ·rintro hp62 E_52
         refine Dep.nil ?_
         refine GuardOK.none rfl ?_
         exact OpV.toDx (opv_loadA (us := [(.int .i64 a0_0), (.int .i64 a0_1), (.bool a0_2), u0_3, u0_4]) rfl Try.agg31 Try.size31 rfl (Sep.at (o := boxO bb1 [(.int .i64 a0_0), (.int .i64 a0_1), (.bool a0_2), u0_3, u0_4]) (Sep.ext S_11 E_52) 0 rfl) rfl rfl) rfl
        ·rintro hp63 E_53
         refine Dep.nil ?_
         refine GuardOK.none rfl ?_
         exact OpV.toDx (opv_move rfl rfl) rfl
        ·rintro hp64 E_54 _ rfl
         refine Dep.nil ?_
         refine GuardOK.none rfl ?_
         exact OpV.toDx (opv_add rfl rfl rfl) rfl
        ·rintro hp65 E_55
         refine Dep.nil ?_
         refine GuardOK.none rfl ?_
         exact OpV.toDx (opv_move rfl rfl) rfl
        ·rintro hp66 E_56 _ rfl _ rfl _ rfl
         refine Dep.nil ?_
         refine GuardOK.none rfl ?_
         exact OpV.mono (opv_call (cap := []) (impl_Sheet_at_ok _ _ _ _ _ _ (SL.up (SL.mod g0_3 (Mod.lift X_9 E_56) hlo hB) (Nat.le_trans hlo (Mod.size (Mod.lift X_9 E_56)))) _ _ (SL.up (SL.mod g0_4 (Mod.lift X_9 E_56) hlo hB) (Nat.le_trans hlo (Mod.size (Mod.lift X_9 E_56)))) _ _ _ hx27) rfl rfl ⟨rfl, rfl, rfl, trivial⟩ Try.func118 rfl rfl) (by rintro _ _ ⟨rfl, M_, T_⟩; exact ⟨Mod.ext M_, rfl, Sep.weak T_ (Ext.size E_56)⟩)
        ·rintro hp67 E_57 _ rfl _ ⟨rfl, T_6⟩
         refine Dep.nil ?_
         refine GuardOK.none rfl ?_
         exact OpV.toSx (opv_index rfl Try.underlying22 (by rw [Try.size25]; rfl) rfl rfl (ownO.read (Sep.at (o := ownO (kF .f32) 25 u1_0 a1_0) (Sep.ext S_11 E_57) 2 rfl)) hx28) (fun _ h => h)
        ·rintro hp68 E_58 v13 fv13
         refine Dep.nil ?_
         refine GuardOK.none rfl ?_
         exact OpV.toSx (opv_loadF rfl Try.one25 rfl fv13 (ownO.read (Sep.at (o := ownO (kF .f32) 25 u1_0 a1_0) (Sep.ext S_11 E_58) 2 rfl)) hx28) (fun _ h => h)
        ·rintro hp69 E_59
         refine Dep.nil ?_
         refine GuardOK.none rfl ?_
         exact OpV.toDx (opv_move rfl rfl) rfl
        ·rintro hp70 E_60 _ rfl
         refine Dep.nil ?_
         refine GuardOK.none rfl ?_
         exact OpV.toDx (opv_nilCheck rfl rfl) rfl
        ·rintro hp71 E_61 _ rfl
         refine Dep.nil ?_
         refine GuardOK.none rfl ?_
         exact OpV.toDx (opv_fieldAddr rfl Try.fo28_0 rfl) rfl
        ·rintro hp72 E_62 _ rfl
         refine Dep.nil ?_
         refine GuardOK.none rfl ?_
         exact OpV.toDx (opv_loadB rfl Try.one22 rfl (Sep.at (o := boxO b1 [u1_0, u1_1, u1_2]) (Sep.ext S_11 E_62) 1 rfl) rfl) rfl
        ·rintro hp73 E_63
         refine Dep.nil ?_
         refine GuardOK.none rfl ?_
         exact OpV.toDx (opv_move rfl rfl) rfl
        ·rintro hp74 E_64 _ rfl _ rfl
         refine Dep.nil ?_
         refine GuardOK.none rfl ?_
         exact OpV.toSx (opv_index rfl Try.underlying22 (by rw [Try.size25]; rfl) rfl rfl (ownO.read (Sep.at (o := ownO (kF .f32) 25 u1_0 a1_0) (Sep.ext S_11 E_64) 2 rfl)) hx29) (fun _ h => h)
        ·rintro hp75 E_65 v15 fv15
         refine Dep.nil ?_
         refine GuardOK.none rfl ?_
         exact OpV.toSx (opv_loadF rfl Try.one25 rfl fv15 (ownO.read (Sep.at (o := ownO (kF .f32) 25 u1_0 a1_0) (Sep.ext S_11 E_65) 2 rfl)) hx29) (fun _ h => h)
        ·rintro hp76 E_66 v14 fv14 v16 fv16
         refine Dep.nil ?_
         refine GuardOK.none rfl ?_
         exact OpV.toSx (opv_fop rfl rfl rfl rfl fv14 fv16) (fun _ h => h)
        ·rintro hp77 E_67 v17 fv17
         refine Dep.nil ?_
         refine GuardOK.none rfl ?_
         exact OpV.toSx (opv_fop rfl rfl rfl rfl (isF_lit .f32 1056964608 (by decide) (by decide)) fv17) (fun _ h => h)
        ·rintro hp78 E_68 v12 fv12 v18 fv18
         refine Dep.nil ?_
         refine GuardOK.none rfl ?_
         exact OpV.toSx (opv_fop rfl rfl rfl rfl fv12 fv18) (fun _ h => h)
        ·rintro hp79 E_69 _ rfl _ rfl
         refine Dep.nil ?_
         refine GuardOK.none rfl ?_
         exact OpV.toSx (opv_index rfl Try.underlying22 (by rw [Try.size25]; rfl) rfl rfl (ownO.read (Sep.at (o := ownO (kF .f32) 25 u1_2 x10) (Sep.ext S_11 E_69) 4 rfl)) hx30) (fun _ h => h)
       rintro hp80 E_70 v19 fv19 v20 fv20
       have X_12 := Mod.lift X_9 E_70
       have S_15 := Sep.ext S_11 E_70
       refine Dep.nil ?_
       show RL _ _ _ _ (_ :: _) _ _
       refine RL.op0 _ (opS_storeE (K := (kF .f32)) rfl Try.size25 rfl rfl fv20 rfl ⟨_, rfl, fv19⟩ hx31 (Sep.at (o := ownO (kF .f32) 25 u1_2 x10) S_15 4 rfl)) ?_
       rintro _ hp81 ⟨rfl, MT_8, T_8⟩
       have S_16 : Sep [some b1, u1_0.ownBlock, u1_1.ownBlock, u1_2.ownBlock] h0.size hp80 ([ownO (kF .f32) 25 u1_2 x10] ++ [boxO bb1 [(.int .i64 a0_0), (.int .i64 a0_1), (.bool a0_2), u0_3, u0_4], boxO b1 [u1_0, u1_1, u1_2], ownO (kF .f32) 25 u1_0 a1_0, ownO (kF .f32) 25 u1_1 x17]) := Sep.sel S_15 [4, 0, 1, 2, 3] (by decide)
       obtain ⟨X_13, S_17⟩ := Sep.turn X_12 S_16 MT_8 T_8
       refine RL.nil ?_
       have ey6 := Option.some.inj hy6
       subst ey6
       refine onlyN ?_
       exact ⟨⟨rfl, rfl, rfl, rfl, rfl, rfl, rfl, rfl, rfl, rfl, rfl, rfl, rfl, rfl, trivial⟩, X_13, (Sep.sel S_17 [1, 2, 3, 4, 0] (by decide))⟩
      ·rw [if_neg c6] at hy6
       have c6 := eq_false_of_ne_true c6
       refine W.condF rfl c6 ?_
       refine W.skip ?_
       have ey6 := Option.some.inj hy6
       subst ey6
       refine onlyN ?_
       exact ⟨⟨rfl, rfl, rfl, rfl, rfl, rfl, rfl, rfl, rfl, rfl, rfl, rfl, rfl, rfl, trivial⟩, X_9, (Sep.sel S_11 [0, 1, 2, 3, 4] (by decide))⟩
     rintro φ' hp82 ⟨hs8, X_14, S_18⟩
     refine blkN ?_
     refine thnN ?_
     refine W.sub hs8 ?_
     refine W.region ?_
     refine RL.opD (by decide) (opv_add rfl rfl rfl) ?_
     refine RL.opD (by decide) (opv_move rfl rfl) ?_
     refine RL.nil ?_
     have eo2 := Option.some.inj ho2
     subst eo2
     refine rndN (s' := (IntKind.wrap .i64 (x8 + 1), x17, x25)) rfl ?_
     exact ⟨⟨rfl, rfl, rfl, rfl, rfl, rfl, rfl, rfl, rfl, trivial⟩, X_14, (Sep.sel S_18 [0, 1, 2, 3, 4] (by decide))⟩
    ·rw [if_neg c2] at ho2
     have c2 := eq_false_of_ne_true c2
     refine W.condF rfl c2 ?_
     refine W.exit ?_
     refine thnX ?_
     refine rndX ?_
     refine blkI ?_
     have eo2 := Option.some.inj ho2
     subst eo2
     have ey2 := hy2 _ rfl
     subst ey2
     refine onlyN ?_
     exact ⟨x8, decide (x8 < a0_0), x9, x10, rfl, ⟨rfl, rfl, rfl, rfl, rfl, rfl, rfl, rfl, rfl, rfl, trivial⟩, X_3, (Sep.sel S_3 [0, 1, 2, 3, 4] (by decide))⟩
   rintro φ' hp83 ⟨x11, x12, x13, x14, rfl, hs4, X_15, S_19⟩
   try dsimp only at ho1
   refine blkN ?_
   refine thnN ?_
   refine W.sub hs4 ?_
   refine W.region ?_
   refine RL.opD (by decide) (opv_add rfl rfl rfl) ?_
   refine RL.opD (by decide) (opv_move rfl rfl) ?_
   refine RL.nil ?_
   have eo1 := Option.some.inj ho1
   subst eo1
   refine rndN (s' := (IntKind.wrap .i64 (x1 + 1), x13, x14)) rfl ?_
   exact ⟨⟨rfl, rfl, rfl, rfl, rfl, trivial⟩, X_15, (Sep.sel S_19 [0, 1, 2, 3, 4] (by decide))⟩
  ·rw [if_neg c1] at ho1
   have c1 := eq_false_of_ne_true c1
   refine W.condF rfl c1 ?_
   refine W.exit ?_
   refine thnX ?_
   refine rndX ?_
   refine blkI ?_
   have eo1 := Option.some.inj ho1
   subst eo1
   have ey1 := hy1 _ rfl
   subst ey1
   refine onlyN ?_
   exact ⟨x1, decide (x1 < a0_1), x2, x3, rfl, ⟨rfl, rfl, rfl, rfl, rfl, rfl, trivial⟩, X_2, (Sep.sel S_2 [0, 1, 2, 3, 4] (by decide))⟩
 rintro φ' hp84 ⟨x4, x5, x6, x7, rfl, hs2, X_16, S_20⟩
 try dsimp only at hp
 have er := Option.some.inj hp
 subst er
 exact Rt.none' rfl ⟨rfl, X_16, (Sep.sel S_20 [1, 2, 3, 4] (by decide))⟩

set_option maxRecDepth 20000 in
theorem impl_stepped_ok (h0 : Heap) (a0_0 : Int) (a0_1 : Int) (a0_2 : Bool) (u0_3 : Value) (a0_3 : List (Option Nat)) (g0_3 : SL (kF .f32) h0.size h0 u0_3 a0_3) (u0_4 : Value) (a0_4 : List (Option Nat)) (g0_4 : SL (kF .f32) h0.size h0 u0_4 a0_4) (u1_0 : Value) (a1_0 : List (Option Nat)) (g1_0 : SL (kF .f32) h0.size h0 u1_0 a1_0) (u1_1 : Value) (a1_1 : List (Option Nat)) (g1_1 : SL (kF .f32) h0.size h0 u1_1 a1_1) (u1_2 : Value) (a1_2 : List (Option Nat)) (g1_2 : SL (kF .f32) h0.size h0 u1_2 a1_2) (r : ((List (Option Nat)) × (List (Option Nat)) × (List (Option Nat)))) (hp : impl_stepped a0_0 a0_1 a0_2 a0_3 a0_4 a1_0 a1_1 a1_2 = some r) : CallsH Try.prog 87 ([(.agg (List.toArray (α := Value) [(.int .i64 a0_0), (.int .i64 a0_1), (.bool a0_2), u0_3, u0_4])), (.agg (List.toArray (α := Value) [u1_0, u1_1, u1_2]))].toArray ++ [].toArray) h0 (fun v h' => ∃ w0, ∃ w1, ∃ w2, v = (.agg (List.toArray (α := Value) [w0, w1, w2])) ∧ Mod [] h0 h' ∧ Sep [] h0.size h' [ownO (kF .f32) 25 w0 r.1, ownO (kF .f32) 25 w1 r.2.1, ownO (kF .f32) 25 w2 r.2.2]) := by
 unfold impl_stepped at hp
 refine callsH_of_W (l := [(.agg (List.toArray (α := Value) [(.int .i64 a0_0), (.int .i64 a0_1), (.bool a0_2), u0_3, u0_4])), (.agg (List.toArray (α := Value) [u1_0, u1_1, u1_2]))]) (cap := []) 42 Try.func87 rfl rfl rfl ?_
 refine W.seq ?_
 refine W.region ?_
 refine RL.op _ (by decide) (opS_boxed (opv_boxA (cs := [(.int .i64 a0_0), (.int .i64 a0_1), (.bool a0_2), u0_3, u0_4]) rfl rfl)) ?_
 rintro _ hp1 ⟨bb1, rfl, MT_1, T_1⟩
 obtain ⟨X_1, S_1⟩ := Sep.turn0 (Mod.refl [] h0) (Sep.nil [] h0.size h0) MT_1 T_1
 refine RL.op _ (by decide) (opS_boxed (opv_boxA (cs := [u1_0, u1_1, u1_2]) rfl rfl)) ?_
 rintro _ hp2 ⟨bb2, rfl, MT_2, T_2⟩
 obtain ⟨X_2, S_2⟩ := Sep.turn0 X_1 S_1 MT_2 T_2
 refine RL.op _ (by decide) (opS_boxed (opv_alloc (cs := [(.slice none 0 0), (.slice none 0 0), (.slice none 0 0)]) rfl Try.zero28 rfl)) ?_
 rintro _ hp3 ⟨bb3, rfl, MT_3, T_3⟩
 obtain ⟨X_3, S_3⟩ := Sep.turn0 X_2 S_2 MT_3 T_3
 refine RL.nil ?_
 refine thnN ?_
 refine W.seq ?_
 obtain ⟨x1, hx1, hp⟩ := Option.bind_eq_some_iff.1 hp
 refine W.region ?_
 refine RL.opD (by decide) (opv_loadA (us := [u1_0, u1_1, u1_2]) rfl Try.agg28 Try.size28 rfl (Sep.at (o := boxO bb2 [u1_0, u1_1, u1_2]) S_3 1 rfl) rfl rfl) ?_
 refine RL.op _ (by decide) (opv_call (cap := []) (impl_copyField_ok _ _ _ (SL.up (SL.mod g1_0 X_3 (Nat.le_refl _) nob) (Nat.le_trans (Nat.le_refl _) (Mod.size X_3))) _ _ (SL.up (SL.mod g1_1 X_3 (Nat.le_refl _) nob) (Nat.le_trans (Nat.le_refl _) (Mod.size X_3))) _ _ (SL.up (SL.mod g1_2 X_3 (Nat.le_refl _) nob) (Nat.le_trans (Nat.le_refl _) (Mod.size X_3))) _ hx1) rfl rfl ⟨rfl, trivial⟩ Try.func112 rfl rfl) ?_
 rintro _ hp4 ⟨v1, v2, v3, rfl, MT_4, T_4⟩
 obtain ⟨X_4, S_4⟩ := Sep.turn0 X_3 S_3 MT_4 T_4
 refine RL.op _ (by decide) (opS_boxed (opv_alloc (cs := [(.slice none 0 0), (.slice none 0 0), (.slice none 0 0)]) rfl Try.zero28 rfl)) ?_
 rintro _ hp5 ⟨bb4, rfl, MT_5, T_5⟩
 obtain ⟨X_5, S_5⟩ := Sep.turn0 X_4 S_4 MT_5 T_5
 refine RL.op0 _ (opS_stored (cs := [(.slice none 0 0), (.slice none 0 0), (.slice none 0 0)]) (cs' := [v1, v2, v3]) (opv_storeA (us := [v1, v2, v3]) rfl Try.size28 rfl rfl (oneAll (ownO.one (Sep.at (o := ownO (kF .f32) 25 v1 x1.1) S_5 1 rfl)) (oneAll (ownO.one (Sep.at (o := ownO (kF .f32) 25 v2 x1.2.1) S_5 2 rfl)) (oneAll (ownO.one (Sep.at (o := ownO (kF .f32) 25 v3 x1.2.2) S_5 3 rfl)) rfl))) (Sep.at (o := boxO bb4 [(.slice none 0 0), (.slice none 0 0), (.slice none 0 0)]) S_5 0 rfl) rfl rfl) (Sep.at (o := boxO bb4 [(.slice none 0 0), (.slice none 0 0), (.slice none 0 0)]) S_5 0 rfl)) ?_
 rintro _ hp6 ⟨rfl, MT_6, T_6⟩
 have S_6 : Sep [] h0.size hp5 ([boxO bb4 [(.slice none 0 0), (.slice none 0 0), (.slice none 0 0)]] ++ [ownO (kF .f32) 25 v1 x1.1, ownO (kF .f32) 25 v2 x1.2.1, ownO (kF .f32) 25 v3 x1.2.2, boxO bb3 [(.slice none 0 0), (.slice none 0 0), (.slice none 0 0)], boxO bb2 [u1_0, u1_1, u1_2], boxO bb1 [(.int .i64 a0_0), (.int .i64 a0_1), (.bool a0_2), u0_3, u0_4]]) := Sep.sel S_5 [0, 1, 2, 3, 4, 5, 6] (by decide)
 obtain ⟨X_6, S_7⟩ := Sep.turn X_5 S_6 MT_6 T_6
 refine RL.nil ?_
 refine thnN ?_
 refine W.seq ?_
 obtain ⟨x2, hx2, hp⟩ := Option.bind_eq_some_iff.1 hp
 refine W.region ?_
 refine RL.opD (by decide) (opv_loadA (us := [(.int .i64 a0_0), (.int .i64 a0_1), (.bool a0_2), u0_3, u0_4]) rfl Try.agg31 Try.size31 rfl (Sep.at (o := boxO bb1 [(.int .i64 a0_0), (.int .i64 a0_1), (.bool a0_2), u0_3, u0_4]) S_7 6 rfl) rfl rfl) ?_
 have S_9 : Sep [] h0.size hp6 [boxO bb4 [v1, v2, v3], ownO (kF .f32) 25 v1 x1.1, ownO (kF .f32) 25 v2 x1.2.1, ownO (kF .f32) 25 v3 x1.2.2] := Sep.sel S_7 [0, 1, 2, 3] (by decide)
 have S_8 : Sep [some bb4, v1.ownBlock, v2.ownBlock, v3.ownBlock] hp6.size hp6 [boxO bb4 [v1, v2, v3], ownO (kF .f32) 25 v1 x1.1, ownO (kF .f32) 25 v2 x1.2.1, ownO (kF .f32) 25 v3 x1.2.2] := Sep.own S_9 _
 refine RL.op _ (by decide) (opv_call (cap := []) (impl_halfStep_o_ok _ h0.size (Nat.le_trans (Nat.le_refl _) (Mod.size X_6)) _ _ _ _ _ (SL.mod g0_3 X_6 (Nat.le_refl _) nob) _ _ (SL.mod g0_4 X_6 (Nat.le_refl _) nob) _ _ _ _ _ _ _ S_8 (Sep.ge (L := [boxO bb4 [v1, v2, v3], ownO (kF .f32) 25 v1 x1.1, ownO (kF .f32) 25 v2 x1.2.1, ownO (kF .f32) 25 v3 x1.2.2]) S_9 (Nat.le_refl _) nob) _ hx2) rfl rfl ⟨rfl, rfl, trivial⟩ Try.func146 rfl rfl) ?_
 rintro _ hp7 ⟨rfl, MT_7, T_7⟩
 have S_10 : Sep [] h0.size hp6 ([boxO bb4 [v1, v2, v3], ownO (kF .f32) 25 v1 x1.1, ownO (kF .f32) 25 v2 x1.2.1, ownO (kF .f32) 25 v3 x1.2.2] ++ [boxO bb3 [(.slice none 0 0), (.slice none 0 0), (.slice none 0 0)], boxO bb2 [u1_0, u1_1, u1_2], boxO bb1 [(.int .i64 a0_0), (.int .i64 a0_1), (.bool a0_2), u0_3, u0_4]]) := Sep.sel S_7 [0, 1, 2, 3, 4, 5, 6] (by decide)
 obtain ⟨X_7, S_11⟩ := Sep.turn X_6 S_10 MT_7 T_7
 refine RL.nil ?_
 refine thnN ?_
 refine W.seq ?_
 refine W.seq ?_
 refine W.region ?_
 refine RL.opD (by decide) (opv_fieldAddr rfl Try.fo31_1 rfl) ?_
 refine RL.opD (by decide) (opv_loadB rfl Try.one2 rfl (Sep.at (o := boxO bb1 [(.int .i64 a0_0), (.int .i64 a0_1), (.bool a0_2), u0_3, u0_4]) S_11 6 rfl) rfl) ?_
 refine RL.opD (by decide) (opv_move rfl rfl) ?_
 refine RL.nil ?_
 refine thnN ?_
 obtain ⟨y1, hy1, hp⟩ := Option.bind_eq_some_iff.1 hp
 refine W.cut (fun φ' h' => ∃ x5, ∃ x6, ∃ x7, y1 = (x5, x6, x7) ∧ Fr.sub [(0, (.agg (List.toArray (α := Value) [(.int .i64 a0_0), (.int .i64 a0_1), (.bool a0_2), u0_3, u0_4]))), (1, (.agg (List.toArray (α := Value) [u1_0, u1_1, u1_2]))), (2, (.pointer (some ⟨bb1, 0, none⟩))), (3, (.pointer (some ⟨bb2, 0, none⟩))), (4, (.pointer (some ⟨bb3, 0, none⟩))), (5, (.pointer (some ⟨bb4, 0, none⟩))), (13, (.int .i64 a0_1)), (14, (.int .i64 x5)), (15, (.bool x6))] φ' ∧ Mod [] h0 h' ∧ Sep [] h0.size h' [boxO bb4 [v1, v2, v3], ownO (kF .f32) 25 v1 x7, ownO (kF .f32) 25 v2 x2.2.1, ownO (kF .f32) 25 v3 x2.2.2, boxO bb3 [(.slice none 0 0), (.slice none 0 0), (.slice none 0 0)], boxO bb2 [u1_0, u1_1, u1_2], boxO bb1 [(.int .i64 a0_0), (.int .i64 a0_1), (.bool a0_2), u0_3, u0_4]]) ?_ ?_
 ·refine W.block ?_
  refine W.loopS (fun (s : (Int × (List (Option Nat)))) φ' h' => Fr.sub [(0, (.agg (List.toArray (α := Value) [(.int .i64 a0_0), (.int .i64 a0_1), (.bool a0_2), u0_3, u0_4]))), (1, (.agg (List.toArray (α := Value) [u1_0, u1_1, u1_2]))), (2, (.pointer (some ⟨bb1, 0, none⟩))), (3, (.pointer (some ⟨bb2, 0, none⟩))), (4, (.pointer (some ⟨bb3, 0, none⟩))), (5, (.pointer (some ⟨bb4, 0, none⟩))), (13, (.int .i64 a0_1)), (14, (.int .i64 s.1))] φ' ∧ Mod [] h0 h' ∧ Sep [] h0.size h' [boxO bb4 [v1, v2, v3], ownO (kF .f32) 25 v1 s.2, ownO (kF .f32) 25 v2 x2.2.1, ownO (kF .f32) 25 v3 x2.2.2, boxO bb3 [(.slice none 0 0), (.slice none 0 0), (.slice none 0 0)], boxO bb2 [u1_0, u1_1, u1_2], boxO bb1 [(.int .i64 a0_0), (.int .i64 a0_1), (.bool a0_2), u0_3, u0_4]]) hy1 ⟨⟨rfl, rfl, rfl, rfl, rfl, rfl, rfl, rfl, trivial⟩, X_7, (Sep.sel S_11 [0, 1, 2, 3, 4, 5, 6] (by decide))⟩ ?_
  rintro ⟨x3, x4⟩ φ' hp8 o1 ⟨hs1, X_8, S_12⟩ ho1 hy1
  have hs1 : Fr.sub [(0, (.agg (List.toArray (α := Value) [(.int .i64 a0_0), (.int .i64 a0_1), (.bool a0_2), u0_3, u0_4]))), (1, (.agg (List.toArray (α := Value) [u1_0, u1_1, u1_2]))), (2, (.pointer (some ⟨bb1, 0, none⟩))), (3, (.pointer (some ⟨bb2, 0, none⟩))), (4, (.pointer (some ⟨bb3, 0, none⟩))), (5, (.pointer (some ⟨bb4, 0, none⟩))), (13, (.int .i64 a0_1)), (14, (.int .i64 x3))] φ' := hs1
  have S_12 : Sep [] h0.size hp8 [boxO bb4 [v1, v2, v3], ownO (kF .f32) 25 v1 x4, ownO (kF .f32) 25 v2 x2.2.1, ownO (kF .f32) 25 v3 x2.2.2, boxO bb3 [(.slice none 0 0), (.slice none 0 0), (.slice none 0 0)], boxO bb2 [u1_0, u1_1, u1_2], boxO bb1 [(.int .i64 a0_0), (.int .i64 a0_1), (.bool a0_2), u0_3, u0_4]] := S_12
  have ho1 : impl_stepped.s0 a0_0 a0_1 a0_2 a0_3 a0_4 x2 x3 x4 = some o1 := ho1
  unfold impl_stepped.s0 at ho1
  refine W.sub hs1 ?_
  refine W.seq ?_
  refine W.region ?_
  refine RL.opD (by decide) (opv_icmp rfl rfl rfl rfl) ?_
  refine RL.nil ?_
  refine thnN ?_
  refine W.seq ?_
  by_cases c1 : (decide (x3 < a0_1)) = true
  ·rw [if_pos c1] at ho1
   refine W.condT rfl c1 ?_
   refine W.skip ?_
   refine thnN ?_
   refine W.seq ?_
   refine W.block ?_
   refine W.seq ?_
   refine W.region ?_
   refine RL.opD (by decide) (opv_move rfl rfl) ?_
   refine RL.opD (by decide) (opv_assign rfl rfl) ?_
   refine RL.nil ?_
   refine thnN ?_
   refine W.seq ?_
   refine W.region ?_
   refine RL.opD (by decide) (opv_fieldAddr rfl Try.fo31_0 rfl) ?_
   refine RL.opD (by decide) (opv_loadB rfl Try.one2 rfl (Sep.at (o := boxO bb1 [(.int .i64 a0_0), (.int .i64 a0_1), (.bool a0_2), u0_3, u0_4]) S_12 6 rfl) rfl) ?_
   refine RL.opD (by decide) (opv_move rfl rfl) ?_
   refine RL.nil ?_
   refine thnN ?_
   obtain ⟨y2, hy2, ho1⟩ := Option.bind_eq_some_iff.1 ho1
   refine W.cut (fun φ' h' => ∃ x10, ∃ x11, ∃ x12, y2 = (x10, x11, x12) ∧ Fr.sub [(0, (.agg (List.toArray (α := Value) [(.int .i64 a0_0), (.int .i64 a0_1), (.bool a0_2), u0_3, u0_4]))), (1, (.agg (List.toArray (α := Value) [u1_0, u1_1, u1_2]))), (2, (.pointer (some ⟨bb1, 0, none⟩))), (3, (.pointer (some ⟨bb2, 0, none⟩))), (4, (.pointer (some ⟨bb3, 0, none⟩))), (5, (.pointer (some ⟨bb4, 0, none⟩))), (13, (.int .i64 a0_1)), (14, (.int .i64 x3)), (15, (.bool (decide (x3 < a0_1)))), (6, (.int .i64 x3)), (18, (.int .i64 a0_0)), (19, (.int .i64 x10)), (20, (.bool x11))] φ' ∧ Mod [] h0 h' ∧ Sep [] h0.size h' [boxO bb4 [v1, v2, v3], ownO (kF .f32) 25 v1 x12, ownO (kF .f32) 25 v2 x2.2.1, ownO (kF .f32) 25 v3 x2.2.2, boxO bb3 [(.slice none 0 0), (.slice none 0 0), (.slice none 0 0)], boxO bb2 [u1_0, u1_1, u1_2], boxO bb1 [(.int .i64 a0_0), (.int .i64 a0_1), (.bool a0_2), u0_3, u0_4]]) ?_ ?_
   ·refine W.block ?_
    refine W.loopS (fun (s : (Int × (List (Option Nat)))) φ' h' => Fr.sub [(0, (.agg (List.toArray (α := Value) [(.int .i64 a0_0), (.int .i64 a0_1), (.bool a0_2), u0_3, u0_4]))), (1, (.agg (List.toArray (α := Value) [u1_0, u1_1, u1_2]))), (2, (.pointer (some ⟨bb1, 0, none⟩))), (3, (.pointer (some ⟨bb2, 0, none⟩))), (4, (.pointer (some ⟨bb3, 0, none⟩))), (5, (.pointer (some ⟨bb4, 0, none⟩))), (13, (.int .i64 a0_1)), (14, (.int .i64 x3)), (15, (.bool (decide (x3 < a0_1)))), (6, (.int .i64 x3)), (18, (.int .i64 a0_0)), (19, (.int .i64 s.1))] φ' ∧ Mod [] h0 h' ∧ Sep [] h0.size h' [boxO bb4 [v1, v2, v3], ownO (kF .f32) 25 v1 s.2, ownO (kF .f32) 25 v2 x2.2.1, ownO (kF .f32) 25 v3 x2.2.2, boxO bb3 [(.slice none 0 0), (.slice none 0 0), (.slice none 0 0)], boxO bb2 [u1_0, u1_1, u1_2], boxO bb1 [(.int .i64 a0_0), (.int .i64 a0_1), (.bool a0_2), u0_3, u0_4]]) hy2 ⟨⟨rfl, rfl, rfl, rfl, rfl, rfl, rfl, rfl, rfl, rfl, rfl, rfl, trivial⟩, X_8, (Sep.sel S_12 [0, 1, 2, 3, 4, 5, 6] (by decide))⟩ ?_
    rintro ⟨x8, x9⟩ φ' hp9 o2 ⟨hs3, X_9, S_13⟩ ho2 hy2
    have hs3 : Fr.sub [(0, (.agg (List.toArray (α := Value) [(.int .i64 a0_0), (.int .i64 a0_1), (.bool a0_2), u0_3, u0_4]))), (1, (.agg (List.toArray (α := Value) [u1_0, u1_1, u1_2]))), (2, (.pointer (some ⟨bb1, 0, none⟩))), (3, (.pointer (some ⟨bb2, 0, none⟩))), (4, (.pointer (some ⟨bb3, 0, none⟩))), (5, (.pointer (some ⟨bb4, 0, none⟩))), (13, (.int .i64 a0_1)), (14, (.int .i64 x3)), (15, (.bool (decide (x3 < a0_1)))), (6, (.int .i64 x3)), (18, (.int .i64 a0_0)), (19, (.int .i64 x8))] φ' := hs3
    have S_13 : Sep [] h0.size hp9 [boxO bb4 [v1, v2, v3], ownO (kF .f32) 25 v1 x9, ownO (kF .f32) 25 v2 x2.2.1, ownO (kF .f32) 25 v3 x2.2.2, boxO bb3 [(.slice none 0 0), (.slice none 0 0), (.slice none 0 0)], boxO bb2 [u1_0, u1_1, u1_2], boxO bb1 [(.int .i64 a0_0), (.int .i64 a0_1), (.bool a0_2), u0_3, u0_4]] := S_13
    have ho2 : impl_stepped.s1 a0_0 a0_1 a0_2 a0_3 a0_4 x2 x3 x8 x9 = some o2 := ho2
    unfold impl_stepped.s1 at ho2
    refine W.sub hs3 ?_
    refine W.seq ?_
    refine W.region ?_
    refine RL.opD (by decide) (opv_icmp rfl rfl rfl rfl) ?_
    refine RL.nil ?_
    refine thnN ?_
    refine W.seq ?_
    by_cases c2 : (decide (x8 < a0_0)) = true
    ·rw [if_pos c2] at ho2
     refine W.condT rfl c2 ?_
     refine W.skip ?_
     refine thnN ?_
     refine W.seq ?_
     refine W.block ?_
     refine W.seq ?_
     refine W.region ?_
     refine RL.opD (by decide) (opv_move rfl rfl) ?_
     refine RL.opD (by decide) (opv_assign rfl rfl) ?_
     refine RL.nil ?_
     refine thnN ?_
     refine W.seq ?_
     obtain ⟨x13, hx13, ho2⟩ := Option.bind_eq_some_iff.1 ho2
     refine W.region ?_
     refine RL.opD (by decide) (opv_loadA (us := [(.int .i64 a0_0), (.int .i64 a0_1), (.bool a0_2), u0_3, u0_4]) rfl Try.agg31 Try.size31 rfl (Sep.at (o := boxO bb1 [(.int .i64 a0_0), (.int .i64 a0_1), (.bool a0_2), u0_3, u0_4]) S_13 6 rfl) rfl rfl) ?_
     refine RL.opD (by decide) (opv_move rfl rfl) ?_
     refine RL.opD (by decide) (opv_move rfl rfl) ?_
     refine RL.op _ (by decide) (opv_call (cap := []) (impl_Sheet_isBorder_ok _ _ _ _ _ _ (SL.up (SL.mod g0_3 X_9 (Nat.le_refl _) nob) (Nat.le_trans (Nat.le_refl _) (Mod.size X_9))) _ _ (SL.up (SL.mod g0_4 X_9 (Nat.le_refl _) nob) (Nat.le_trans (Nat.le_refl _) (Mod.size X_9))) _ _ _ hx13) rfl rfl ⟨rfl, rfl, rfl, trivial⟩ Try.func122 rfl rfl) ?_
     rintro _ hp10 ⟨rfl, MT_8, T_8⟩
     obtain ⟨X_10, S_14⟩ := Sep.turn0 X_9 S_13 MT_8 T_8
     refine RL.opD (by decide) (opv_not rfl rfl) ?_
     refine RL.nil ?_
     refine thnN ?_
     obtain ⟨x14, hy3, ho2⟩ := Option.bind_eq_some_iff.1 ho2
     refine W.cut (fun φ' h' => Fr.sub [(0, (.agg (List.toArray (α := Value) [(.int .i64 a0_0), (.int .i64 a0_1), (.bool a0_2), u0_3, u0_4]))), (1, (.agg (List.toArray (α := Value) [u1_0, u1_1, u1_2]))), (2, (.pointer (some ⟨bb1, 0, none⟩))), (3, (.pointer (some ⟨bb2, 0, none⟩))), (4, (.pointer (some ⟨bb3, 0, none⟩))), (5, (.pointer (some ⟨bb4, 0, none⟩))), (13, (.int .i64 a0_1)), (14, (.int .i64 x3)), (15, (.bool (decide (x3 < a0_1)))), (6, (.int .i64 x3)), (18, (.int .i64 a0_0)), (19, (.int .i64 x8)), (20, (.bool (decide (x8 < a0_0)))), (7, (.int .i64 x8)), (26, (.bool (!x13)))] φ' ∧ Mod [] h0 h' ∧ Sep [] h0.size h' [boxO bb4 [v1, v2, v3], ownO (kF .f32) 25 v1 x14, ownO (kF .f32) 25 v2 x2.2.1, ownO (kF .f32) 25 v3 x2.2.2, boxO bb3 [(.slice none 0 0), (.slice none 0 0), (.slice none 0 0)], boxO bb2 [u1_0, u1_1, u1_2], boxO bb1 [(.int .i64 a0_0), (.int .i64 a0_1), (.bool a0_2), u0_3, u0_4]]) ?_ ?_
     ·by_cases c3 : (!x13) = true
      ·rw [if_pos c3] at hy3
       refine W.condT rfl c3 ?_
       obtain ⟨x15, hx15, hy3⟩ := Option.bind_eq_some_iff.1 hy3
       obtain ⟨x16, hx16, hy3⟩ := Option.bind_eq_some_iff.1 hy3
       obtain ⟨x17, hx17, hy3⟩ := Option.bind_eq_some_iff.1 hy3
       obtain ⟨x18, hx18, hy3⟩ := Option.bind_eq_some_iff.1 hy3
       refine W.sub (ψ := [(0, (.agg (List.toArray (α := Value) [(.int .i64 a0_0), (.int .i64 a0_1), (.bool a0_2), u0_3, u0_4]))), (1, (.agg (List.toArray (α := Value) [u1_0, u1_1, u1_2]))), (2, (.pointer (some ⟨bb1, 0, none⟩))), (3, (.pointer (some ⟨bb2, 0, none⟩))), (4, (.pointer (some ⟨bb3, 0, none⟩))), (5, (.pointer (some ⟨bb4, 0, none⟩))), (13, (.int .i64 a0_1)), (14, (.int .i64 x3)), (15, (.bool (decide (x3 < a0_1)))), (6, (.int .i64 x3)), (18, (.int .i64 a0_0)), (19, (.int .i64 x8)), (20, (.bool (decide (x8 < a0_0)))), (7, (.int .i64 x8)), (26, (.bool (!x13)))]) ⟨rfl, rfl, rfl, rfl, rfl, rfl, rfl, rfl, rfl, rfl, rfl, rfl, rfl, rfl, rfl, trivial⟩ ?_
       refine W.regionM [fun v _ => @Eq Value (.pointer (some ⟨bb4, 0, none⟩)) v, fun v _ => @Eq Value v1 v, fun v _ => @Eq Value (.agg (List.toArray (α := Value) [(.int .i64 a0_0), (.int .i64 a0_1), (.bool a0_2), u0_3, u0_4])) v, fun v _ => @Eq Value (.int .i64 x8) v, fun v _ => @Eq Value (.int .i64 x3) v, fun v h => @Eq Value v (.int .i64 x15) ∧ Sep [] hp10.size h [], fun v _ => @Eq Value (.agg (List.toArray (α := Value) [(.int .i64 a0_0), (.int .i64 a0_1), (.bool a0_2), u0_3, u0_4])) v, fun v _ => @Eq Value (.agg (List.toArray (α := Value) [v1, v2, v3])) v, fun v _ => @Eq Value (.int .i64 x8) v, fun v _ => @Eq Value (.int .i64 x3) v, fun v4 h => IsF .f32 v4 x16 ∧ Sep [] hp10.size h [], fun v _ => PtI 1 v v1 (Int.toNat x15)] [none, none, none, none, none, some (fun u => []), none, none, none, none, some (fun u => []), none] [] [[], [0], [], [], [], [2, 3, 4], [], [], [], [], [6, 7, 8, 9], [1, 5]] [10, 11] Try.mixed (by decide +kernel) (by decide +kernel) rfl rfl rfl (by decide +kernel) rfl ⟨fun _ _ _ h _ => h, fun _ _ _ h _ => h, fun _ _ _ h _ => h, fun _ _ _ h _ => h, fun _ _ _ h _ => h, fun _ _ _ ⟨e, h⟩ x => ⟨e, h.ext x⟩, fun _ _ _ h _ => h, fun _ _ _ h _ => h, fun _ _ _ h _ => h, fun _ _ _ h _ => h, fun _ _ _ ⟨f, h⟩ x => ⟨f, h.ext x⟩, fun _ _ _ h _ => h, trivial⟩ ?_ ?_
       ·refine ⟨⟨rfl, ?_⟩, ⟨rfl, ?_⟩, ⟨rfl, ?_⟩, ⟨rfl, ?_⟩, ⟨rfl, ?_⟩, ⟨rfl, ?_⟩, ⟨rfl, ?_⟩, ⟨rfl, ?_⟩, ⟨rfl, ?_⟩, ⟨rfl, ?_⟩, ⟨rfl, ?_⟩, ⟨rfl, ?_⟩, trivial⟩
        ·rintro hp14 E_1
         refine Dep.nil ?_
         refine GuardOK.none rfl ?_
         exact OpV.toDx (opv_fieldAddr rfl Try.fo28_0 rfl) rfl
        ·rintro hp15 E_2 _ rfl
         refine Dep.nil ?_
         refine GuardOK.none rfl ?_
         exact OpV.toDx (opv_loadB rfl Try.one22 rfl (Sep.at (o := boxO bb4 [v1, v2, v3]) (Sep.ext S_14 E_2) 0 rfl) rfl) rfl
        ·rintro hp16 E_3
         refine Dep.nil ?_
         refine GuardOK.none rfl ?_
         exact OpV.toDx (opv_loadA (us := [(.int .i64 a0_0), (.int .i64 a0_1), (.bool a0_2), u0_3, u0_4]) rfl Try.agg31 Try.size31 rfl (Sep.at (o := boxO bb1 [(.int .i64 a0_0), (.int .i64 a0_1), (.bool a0_2), u0_3, u0_4]) (Sep.ext S_14 E_3) 6 rfl) rfl rfl) rfl
        ·rintro hp17 E_4
         refine Dep.nil ?_
         refine GuardOK.none rfl ?_
         exact OpV.toDx (opv_move rfl rfl) rfl
        ·rintro hp18 E_5
         refine Dep.nil ?_
         refine GuardOK.none rfl ?_
         exact OpV.toDx (opv_move rfl rfl) rfl
        ·rintro hp19 E_6 _ rfl _ rfl _ rfl
         refine Dep.nil ?_
         refine GuardOK.none rfl ?_
         exact OpV.mono (opv_call (cap := []) (impl_Sheet_at_ok _ _ _ _ _ _ (SL.up (SL.mod g0_3 (Mod.lift X_10 E_6) (Nat.le_refl _) nob) (Nat.le_trans (Nat.le_refl _) (Mod.size (Mod.lift X_10 E_6)))) _ _ (SL.up (SL.mod g0_4 (Mod.lift X_10 E_6) (Nat.le_refl _) nob) (Nat.le_trans (Nat.le_refl _) (Mod.size (Mod.lift X_10 E_6)))) _ _ _ hx15) rfl rfl ⟨rfl, rfl, rfl, trivial⟩ Try.func118 rfl rfl) (by rintro _ _ ⟨rfl, M_, T_⟩; exact ⟨Mod.ext M_, ⟨rfl, Sep.weak T_ (Ext.size E_6)⟩, Sep.fresh T_⟩)
        ·rintro hp20 E_7
         refine Dep.nil ?_
         refine GuardOK.none rfl ?_
         exact OpV.toDx (opv_loadA (us := [(.int .i64 a0_0), (.int .i64 a0_1), (.bool a0_2), u0_3, u0_4]) rfl Try.agg31 Try.size31 rfl (Sep.at (o := boxO bb1 [(.int .i64 a0_0), (.int .i64 a0_1), (.bool a0_2), u0_3, u0_4]) (Sep.ext S_14 E_7) 6 rfl) rfl rfl) rfl
        ·rintro hp21 E_8
         refine Dep.nil ?_
         refine GuardOK.none rfl ?_
         exact OpV.toDx (opv_loadA (us := [v1, v2, v3]) rfl Try.agg28 Try.size28 rfl (Sep.at (o := boxO bb4 [v1, v2, v3]) (Sep.ext S_14 E_8) 0 rfl) rfl rfl) rfl
        ·rintro hp22 E_9
         refine Dep.nil ?_
         refine GuardOK.none rfl ?_
         exact OpV.toDx (opv_move rfl rfl) rfl
        ·rintro hp23 E_10
         refine Dep.nil ?_
         refine GuardOK.none rfl ?_
         exact OpV.toDx (opv_move rfl rfl) rfl
        ·rintro hp24 E_11 _ rfl _ rfl _ rfl _ rfl
         refine Dep.nil ?_
         refine GuardOK.none rfl ?_
         exact OpV.mono (opv_call (cap := []) (impl_newValue_ok _ _ _ _ _ _ (SL.up (SL.mod g0_3 (Mod.lift X_10 E_11) (Nat.le_refl _) nob) (Nat.le_trans (Nat.le_refl _) (Mod.size (Mod.lift X_10 E_11)))) _ _ (SL.up (SL.mod g0_4 (Mod.lift X_10 E_11) (Nat.le_refl _) nob) (Nat.le_trans (Nat.le_refl _) (Mod.size (Mod.lift X_10 E_11)))) _ _ (ownO.read (Sep.at (o := ownO (kF .f32) 25 v1 x9) (Sep.ext S_14 E_11) 1 rfl)) _ _ (ownO.read (Sep.at (o := ownO (kF .f32) 25 v2 x2.2.1) (Sep.ext S_14 E_11) 2 rfl)) _ _ (ownO.read (Sep.at (o := ownO (kF .f32) 25 v3 x2.2.2) (Sep.ext S_14 E_11) 3 rfl)) _ _ _ hx16) rfl rfl ⟨rfl, rfl, rfl, rfl, trivial⟩ Try.func147 rfl rfl) (by rintro _ _ ⟨fv4, M_, T_⟩; exact ⟨Mod.ext M_, ⟨fv4, Sep.weak T_ (Ext.size E_11)⟩, Sep.fresh T_⟩)
        ·rintro hp25 E_12 _ rfl _ ⟨rfl, T_9⟩
         refine Dep.nil ?_
         refine GuardOK.none rfl ?_
         exact OpV.toSx (opv_index rfl Try.underlying22 (by rw [Try.size25]; rfl) rfl rfl (ownO.read (Sep.at (o := ownO (kF .f32) 25 v1 x9) (Sep.ext S_14 E_12) 1 rfl)) hx17) (fun _ h => h)
       rintro hp26 E_13 v4 ⟨fv4, T_10⟩ v5 fv5
       refine DepM.nil ?_
       intro PW_1 LK_
       have X_14 := Mod.lift X_10 E_13
       have S_19 := Sep.join S_14 (Mod.size X_10) (Ext.mod E_13 []) T_10
       show RL _ _ _ _ (_ :: _) _ _
       refine RL.op0 _ (opS_storeE (K := (kF .f32)) rfl Try.size25 rfl rfl fv5 rfl ⟨_, rfl, fv4⟩ hx18 (Sep.at (o := ownO (kF .f32) 25 v1 x9) S_19 1 rfl)) ?_
       rintro _ hp27 ⟨rfl, MT_12, T_12⟩
       have S_20 : Sep [] h0.size hp26 ([ownO (kF .f32) 25 v1 x9] ++ [boxO bb4 [v1, v2, v3], ownO (kF .f32) 25 v2 x2.2.1, ownO (kF .f32) 25 v3 x2.2.2, boxO bb3 [(.slice none 0 0), (.slice none 0 0), (.slice none 0 0)], boxO bb2 [u1_0, u1_1, u1_2], boxO bb1 [(.int .i64 a0_0), (.int .i64 a0_1), (.bool a0_2), u0_3, u0_4]]) := Sep.sel S_19 [1, 0, 2, 3, 4, 5, 6] (by decide)
       obtain ⟨X_15, S_21⟩ := Sep.turn X_14 S_20 MT_12 T_12
       refine RL.nil ?_
       have ey3 := Option.some.inj hy3
       subst ey3
       refine onlyN ?_
       exact ⟨⟨rfl, rfl, rfl, rfl, rfl, rfl, rfl, rfl, rfl, rfl, rfl, rfl, rfl, rfl, rfl, trivial⟩, X_15, (Sep.sel S_21 [1, 0, 2, 3, 4, 5, 6] (by decide))⟩
      ·rw [if_neg c3] at hy3
       have c3 := eq_false_of_ne_true c3
       refine W.condF rfl c3 ?_
       refine W.skip ?_
       have ey3 := Option.some.inj hy3
       subst ey3
       refine onlyN ?_
       exact ⟨⟨rfl, rfl, rfl, rfl, rfl, rfl, rfl, rfl, rfl, rfl, rfl, rfl, rfl, rfl, rfl, trivial⟩, X_10, (Sep.sel S_14 [0, 1, 2, 3, 4, 5, 6] (by decide))⟩
     rintro φ' hp28 ⟨hs5, X_16, S_22⟩
     refine blkN ?_
     refine thnN ?_
     refine W.sub hs5 ?_
     refine W.region ?_
     refine RL.opD (by decide) (opv_add rfl rfl rfl) ?_
     refine RL.opD (by decide) (opv_move rfl rfl) ?_
     refine RL.nil ?_
     have eo2 := Option.some.inj ho2
     subst eo2
     refine rndN (s' := (IntKind.wrap .i64 (x8 + 1), x14)) rfl ?_
     exact ⟨⟨rfl, rfl, rfl, rfl, rfl, rfl, rfl, rfl, rfl, rfl, rfl, rfl, trivial⟩, X_16, (Sep.sel S_22 [0, 1, 2, 3, 4, 5, 6] (by decide))⟩
    ·rw [if_neg c2] at ho2
     have c2 := eq_false_of_ne_true c2
     refine W.condF rfl c2 ?_
     refine W.exit ?_
     refine thnX ?_
     refine rndX ?_
     refine blkI ?_
     have eo2 := Option.some.inj ho2
     subst eo2
     have ey2 := hy2 _ rfl
     subst ey2
     refine onlyN ?_
     exact ⟨x8, decide (x8 < a0_0), x9, rfl, ⟨rfl, rfl, rfl, rfl, rfl, rfl, rfl, rfl, rfl, rfl, rfl, rfl, rfl, trivial⟩, X_9, (Sep.sel S_13 [0, 1, 2, 3, 4, 5, 6] (by decide))⟩
   rintro φ' hp29 ⟨x10, x11, x12, rfl, hs4, X_17, S_23⟩
   try dsimp only at ho1
   refine blkN ?_
   refine thnN ?_
   refine W.sub hs4 ?_
   refine W.region ?_
   refine RL.opD (by decide) (opv_add rfl rfl rfl) ?_
   refine RL.opD (by decide) (opv_move rfl rfl) ?_
   refine RL.nil ?_
   have eo1 := Option.some.inj ho1
   subst eo1
   refine rndN (s' := (IntKind.wrap .i64 (x3 + 1), x12)) rfl ?_
   exact ⟨⟨rfl, rfl, rfl, rfl, rfl, rfl, rfl, rfl, trivial⟩, X_17, (Sep.sel S_23 [0, 1, 2, 3, 4, 5, 6] (by decide))⟩
  ·rw [if_neg c1] at ho1
   have c1 := eq_false_of_ne_true c1
   refine W.condF rfl c1 ?_
   refine W.exit ?_
   refine thnX ?_
   refine rndX ?_
   refine blkI ?_
   have eo1 := Option.some.inj ho1
   subst eo1
   have ey1 := hy1 _ rfl
   subst ey1
   refine onlyN ?_
   exact ⟨x3, decide (x3 < a0_1), x4, rfl, ⟨rfl, rfl, rfl, rfl, rfl, rfl, rfl, rfl, rfl, trivial⟩, X_8, (Sep.sel S_12 [0, 1, 2, 3, 4, 5, 6] (by decide))⟩
 rintro φ' hp30 ⟨x5, x6, x7, rfl, hs2, X_18, S_24⟩
 try dsimp only at hp
 refine thnN ?_
 refine W.sub hs2 ?_
 refine W.seq ?_
 refine W.region ?_
 refine RL.opD (by decide) (opv_loadA (us := [v1, v2, v3]) rfl Try.agg28 Try.size28 rfl (Sep.at (o := boxO bb4 [v1, v2, v3]) S_24 0 rfl) rfl rfl) ?_
 refine RL.op0 _ (opS_stored (cs := [(.slice none 0 0), (.slice none 0 0), (.slice none 0 0)]) (cs' := [v1, v2, v3]) (opv_storeA (us := [v1, v2, v3]) rfl Try.size28 rfl rfl (oneAll (ownO.one (Sep.at (o := ownO (kF .f32) 25 v1 x7) S_24 1 rfl)) (oneAll (ownO.one (Sep.at (o := ownO (kF .f32) 25 v2 x2.2.1) S_24 2 rfl)) (oneAll (ownO.one (Sep.at (o := ownO (kF .f32) 25 v3 x2.2.2) S_24 3 rfl)) rfl))) (Sep.at (o := boxO bb3 [(.slice none 0 0), (.slice none 0 0), (.slice none 0 0)]) S_24 4 rfl) rfl rfl) (Sep.at (o := boxO bb3 [(.slice none 0 0), (.slice none 0 0), (.slice none 0 0)]) S_24 4 rfl)) ?_
 rintro _ hp31 ⟨rfl, MT_13, T_13⟩
 have S_25 : Sep [] h0.size hp30 ([boxO bb3 [(.slice none 0 0), (.slice none 0 0), (.slice none 0 0)]] ++ [boxO bb4 [v1, v2, v3], ownO (kF .f32) 25 v1 x7, ownO (kF .f32) 25 v2 x2.2.1, ownO (kF .f32) 25 v3 x2.2.2, boxO bb2 [u1_0, u1_1, u1_2], boxO bb1 [(.int .i64 a0_0), (.int .i64 a0_1), (.bool a0_2), u0_3, u0_4]]) := Sep.sel S_24 [4, 0, 1, 2, 3, 5, 6] (by decide)
 obtain ⟨X_19, S_26⟩ := Sep.turn X_18 S_25 MT_13 T_13
 refine RL.nil ?_
 refine thnN ?_
 refine W.ret ?_
 have er := Option.some.inj hp
 subst er
 exact Rt.cell1 rfl rfl Try.agg28 Try.size28 (Sep.at (o := boxO bb3 [v1, v2, v3]) S_26 0 rfl) rfl ⟨v1, v2, v3, rfl, X_19, (Sep.sel S_26 [2, 3, 4] (by decide))⟩

end Go.H
