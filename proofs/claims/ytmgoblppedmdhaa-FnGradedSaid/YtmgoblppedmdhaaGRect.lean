/- Functions of the program: what each computes, as a plain function, and that the call comes to it. Written by a program (wip/gen). -/
import Derived.Test.YtmgoblppedmdhaaGMax
import Derived.Test.YtmgoblppedmdhaaGBase
import Derived.Test.YtmgoblppedmdhaaGSheet
import Derived.Test.YtmgoblppedmdhaaGField
import Derived.Test.YtmgoblppedmdhaaLib2
import Derived.Test.YtmgoblppedmdhaaProg
import Derived.KernelRfl
set_option linter.unusedVariables false
namespace Go.H
open Go Go.Proofs



noncomputable def impl_isShare (a0 : Option Nat) : Option Bool :=
 (((if (fcmp .geq .f32 a0 (some 0)) = true then some (fcmp .leq .f32 a0 (some 1065353216)) else some false) : Option Bool).bind fun (x1 : Bool) => some x1)

noncomputable def impl_isWidth (a0 : Int) : Option Bool :=
 ((impl_within a0 1 16).bind fun (x1 : Bool) => some x1)

noncomputable def impl_Sheet_depth (a0_0 : Int) (a0_1 : Int) (a0_2 : Bool) (a0_3 : List (Option Nat)) (a0_4 : List (Option Nat)) (a1 : Int) (a2 : Int) : Option Int :=
 some (imin (imin (imin a1 a2) (IntKind.wrap .i64 ((IntKind.wrap .i64 (a0_0 - 1)) - a1))) (IntKind.wrap .i64 ((IntKind.wrap .i64 (a0_1 - 1)) - a2)))

noncomputable def impl_copySheet (a0_0 : Int) (a0_1 : Int) (a0_2 : Bool) (a0_3 : List (Option Nat)) (a0_4 : List (Option Nat)) : Option (Int × Int × Bool × (List (Option Nat)) × (List (Option Nat))) :=
 ((impl_copyOf a0_3).bind fun (x1 : List (Option Nat)) => ((impl_copyOf a0_4).bind fun (x2 : List (Option Nat)) => some (a0_0, a0_1, a0_2, x1, x2)))

set_option maxRecDepth 20000 in
theorem impl_isShare_ok (h0 : Heap) (u0 : Value) (a0 : Option Nat) (g0 : IsF .f32 u0 a0) (r : Bool) (hp : impl_isShare a0 = some r) : CallsH Try.prog 99 ([u0].toArray ++ [].toArray) h0 (fun v h' => v = (.bool r) ∧ h0 = h') := by
 unfold impl_isShare at hp
 refine callsH_of_W (l := [u0]) (cap := []) 9 Try.func99 rfl rfl rfl ?_
 refine W.seq ?_
 refine W.region ?_
 refine RL.opD (by decide) (opv_assign rfl rfl) ?_
 refine RL.nil ?_
 refine thnN ?_
 refine W.seq ?_
 obtain ⟨x1, hy1, hp⟩ := Option.bind_eq_some_iff.1 hp
 refine W.cut (fun φ' h' => Fr.sub [(0, u0), (2, (.bool x1))] φ' ∧ h0 = h') ?_ ?_
 ·refine W.region ?_
  refine RL.opD (by decide) (opv_move rfl rfl) ?_
  refine RL.opD (by decide) (opv_fcmp rfl rfl rfl rfl g0 (isF_lit .f32 0 (by decide) (by decide))) ?_
  refine RL.opD (by decide) (opv_move rfl rfl) ?_
  by_cases c1 : (fcmp .geq .f32 a0 (some 0)) = true
  ·rw [if_pos c1] at hy1
   refine RL.yesD rfl rfl c1 (by decide) (opv_move rfl rfl) ?_
   refine RL.yesD rfl rfl c1 (by decide) (opv_fcmp rfl rfl rfl rfl g0 (isF_lit .f32 1065353216 (by decide) (by decide))) ?_
   refine RL.opD (by decide) (opv_pick rfl rfl (fun _ => rfl) (fun e => absurd (Eq.trans (Eq.symm e) c1) (by decide)) rfl) ?_
   refine RL.opD (by decide) (opv_assign rfl rfl) ?_
   refine RL.nil ?_
   have ey1 := Option.some.inj hy1
   subst ey1
   refine onlyN ?_
   exact ⟨⟨rfl, rfl, trivial⟩, rfl⟩
  ·rw [if_neg c1] at hy1
   have c1 := eq_false_of_ne_true c1
   refine RL.noF rfl rfl c1 (by decide) ?_
   refine RL.noF rfl rfl c1 (by decide) ?_
   refine RL.opD (by decide) (opv_pick rfl rfl (fun e => absurd (Eq.trans (Eq.symm e) c1) (by decide)) (fun _ => rfl) rfl) ?_
   refine RL.opD (by decide) (opv_assign rfl rfl) ?_
   refine RL.nil ?_
   have ey1 := Option.some.inj hy1
   subst ey1
   refine onlyN ?_
   exact ⟨⟨rfl, rfl, trivial⟩, rfl⟩
 rintro φ' _ ⟨hs1, rfl⟩
 refine thnN ?_
 refine W.sub hs1 ?_
 refine W.ret ?_
 have er := Option.some.inj hp
 subst er
 exact Rt.one rfl rfl ⟨rfl, rfl⟩

set_option maxRecDepth 20000 in
theorem impl_isWidth_ok (h0 : Heap) (a0 : Int) (r : Bool) (hp : impl_isWidth a0 = some r) : CallsH Try.prog 98 ([(.int .i64 a0)].toArray ++ [].toArray) h0 (fun v h' => v = (.bool r) ∧ h0 = h') := by
 unfold impl_isWidth at hp
 refine callsH_of_W (l := [(.int .i64 a0)]) (cap := []) 5 Try.func98 rfl rfl rfl ?_
 refine W.seq ?_
 refine W.region ?_
 refine RL.opD (by decide) (opv_assign rfl rfl) ?_
 refine RL.nil ?_
 refine thnN ?_
 refine W.seq ?_
 refine W.region ?_
 refine RL.opD (by decide) (opv_move rfl rfl) ?_
 obtain ⟨x1, hx1, hp⟩ := Option.bind_eq_some_iff.1 hp
 refine RL.op _ (by decide) (opv_call (cap := []) (impl_within_ok _ _ _ _ _ hx1) rfl rfl ⟨rfl, rfl, rfl, trivial⟩ Try.func71 rfl rfl) ?_
 rintro _ _ ⟨rfl, rfl⟩
 refine RL.opD (by decide) (opv_assign rfl rfl) ?_
 refine RL.nil ?_
 refine thnN ?_
 refine W.ret ?_
 have er := Option.some.inj hp
 subst er
 exact Rt.one rfl rfl ⟨rfl, rfl⟩

set_option maxRecDepth 20000 in
theorem impl_Sheet_depth_ok (h0 : Heap) (a0_0 : Int) (a0_1 : Int) (a0_2 : Bool) (u0_3 : Value) (a0_3 : List (Option Nat)) (g0_3 : SL (kF .f32) h0.size h0 u0_3 a0_3) (u0_4 : Value) (a0_4 : List (Option Nat)) (g0_4 : SL (kF .f32) h0.size h0 u0_4 a0_4) (a1 : Int) (a2 : Int) (r : Int) (hp : impl_Sheet_depth a0_0 a0_1 a0_2 a0_3 a0_4 a1 a2 = some r) : CallsH Try.prog 103 ([(.agg (List.toArray (α := Value) [(.int .i64 a0_0), (.int .i64 a0_1), (.bool a0_2), u0_3, u0_4])), (.int .i64 a1), (.int .i64 a2)].toArray ++ [].toArray) h0 (fun v h' => v = (.int .i64 r) ∧ Mod [] h0 h' ∧ Sep [] h0.size h' []) := by
 unfold impl_Sheet_depth at hp
 refine callsH_of_W (l := [(.agg (List.toArray (α := Value) [(.int .i64 a0_0), (.int .i64 a0_1), (.bool a0_2), u0_3, u0_4])), (.int .i64 a1), (.int .i64 a2)]) (cap := []) 20 Try.func103 rfl rfl rfl ?_
 refine W.seq ?_
 refine W.region ?_
 refine RL.op _ (by decide) (opS_boxed (opv_boxA (cs := [(.int .i64 a0_0), (.int .i64 a0_1), (.bool a0_2), u0_3, u0_4]) rfl rfl)) ?_
 rintro _ hp1 ⟨bb1, rfl, MT_1, T_1⟩
 obtain ⟨X_1, S_1⟩ := Sep.turn0 (Mod.refl [] h0) (Sep.nil [] h0.size h0) MT_1 T_1
 refine RL.opD (by decide) (opv_assign rfl rfl) ?_
 refine RL.nil ?_
 refine thnN ?_
 refine W.seq ?_
 refine W.region ?_
 refine RL.opD (by decide) (opv_move rfl rfl) ?_
 refine RL.opD (by decide) (opv_move rfl rfl) ?_
 refine RL.opD (by decide) (opv_fieldAddr rfl Try.fo33_0 rfl) ?_
 refine RL.opD (by decide) (opv_loadB rfl Try.one2 rfl (Sep.at (o := boxO bb1 [(.int .i64 a0_0), (.int .i64 a0_1), (.bool a0_2), u0_3, u0_4]) S_1 0 rfl) rfl) ?_
 refine RL.opD (by decide) (opv_sub rfl rfl rfl) ?_
 refine RL.opD (by decide) (opv_move rfl rfl) ?_
 refine RL.opD (by decide) (opv_sub rfl rfl rfl) ?_
 refine RL.opD (by decide) (opv_fieldAddr rfl Try.fo33_1 rfl) ?_
 refine RL.opD (by decide) (opv_loadB rfl Try.one2 rfl (Sep.at (o := boxO bb1 [(.int .i64 a0_0), (.int .i64 a0_1), (.bool a0_2), u0_3, u0_4]) S_1 0 rfl) rfl) ?_
 refine RL.opD (by decide) (opv_sub rfl rfl rfl) ?_
 refine RL.opD (by decide) (opv_move rfl rfl) ?_
 refine RL.opD (by decide) (opv_sub rfl rfl rfl) ?_
 refine RL.opD (by decide) (opv_min4 rfl rfl rfl rfl rfl) ?_
 refine RL.opD (by decide) (opv_assign rfl rfl) ?_
 refine RL.nil ?_
 refine thnN ?_
 refine W.ret ?_
 have er := Option.some.inj hp
 subst er
 exact Rt.one rfl rfl ⟨rfl, X_1, (Sep.nil _ _ _)⟩

set_option maxRecDepth 20000 in
theorem impl_copySheet_ok (h0 : Heap) (a0_0 : Int) (a0_1 : Int) (a0_2 : Bool) (u0_3 : Value) (a0_3 : List (Option Nat)) (g0_3 : SL (kF .f32) h0.size h0 u0_3 a0_3) (u0_4 : Value) (a0_4 : List (Option Nat)) (g0_4 : SL (kF .f32) h0.size h0 u0_4 a0_4) (r : (Int × Int × Bool × (List (Option Nat)) × (List (Option Nat)))) (hp : impl_copySheet a0_0 a0_1 a0_2 a0_3 a0_4 = some r) : CallsH Try.prog 100 ([(.agg (List.toArray (α := Value) [(.int .i64 a0_0), (.int .i64 a0_1), (.bool a0_2), u0_3, u0_4]))].toArray ++ [].toArray) h0 (fun v h' => ∃ w3, ∃ w4, v = (.agg (List.toArray (α := Value) [(.int .i64 r.1), (.int .i64 r.2.1), (.bool r.2.2.1), w3, w4])) ∧ Mod [] h0 h' ∧ Sep [] h0.size h' [ownO (kF .f32) 29 w3 r.2.2.2.1, ownO (kF .f32) 29 w4 r.2.2.2.2]) := by
 unfold impl_copySheet at hp
 refine callsH_of_W (l := [(.agg (List.toArray (α := Value) [(.int .i64 a0_0), (.int .i64 a0_1), (.bool a0_2), u0_3, u0_4]))]) (cap := []) 12 Try.func100 rfl rfl rfl ?_
 refine W.seq ?_
 refine W.region ?_
 refine RL.op _ (by decide) (opS_boxed (opv_boxA (cs := [(.int .i64 a0_0), (.int .i64 a0_1), (.bool a0_2), u0_3, u0_4]) rfl rfl)) ?_
 rintro _ hp1 ⟨bb1, rfl, MT_1, T_1⟩
 obtain ⟨X_1, S_1⟩ := Sep.turn0 (Mod.refl [] h0) (Sep.nil [] h0.size h0) MT_1 T_1
 refine RL.op _ (by decide) (opS_boxed (opv_alloc (cs := [(.int .i64 0), (.int .i64 0), (.bool false), (.slice none 0 0), (.slice none 0 0)]) rfl Try.zero33 rfl)) ?_
 rintro _ hp2 ⟨bb2, rfl, MT_2, T_2⟩
 obtain ⟨X_2, S_2⟩ := Sep.turn0 X_1 S_1 MT_2 T_2
 refine RL.nil ?_
 refine thnN ?_
 refine W.seq ?_
 obtain ⟨x1, hx1, hp⟩ := Option.bind_eq_some_iff.1 hp
 obtain ⟨x2, hx2, hp⟩ := Option.bind_eq_some_iff.1 hp
 refine W.sub (ψ := [(0, (.agg (List.toArray (α := Value) [(.int .i64 a0_0), (.int .i64 a0_1), (.bool a0_2), u0_3, u0_4]))), (1, (.pointer (some ⟨bb1, 0, none⟩))), (2, (.pointer (some ⟨bb2, 0, none⟩)))]) ⟨rfl, rfl, rfl, trivial⟩ ?_
 refine W.regionM [fun v _ => @Eq Value (.pointer (some ⟨bb1, 3, none⟩)) v, fun v _ => @Eq Value u0_3 v, fun v1 h => Sep [] hp2.size h [ownO (kF .f32) 29 v1 x1], fun v _ => @Eq Value (.pointer (some ⟨bb1, 4, none⟩)) v, fun v _ => @Eq Value u0_4 v, fun v2 h => Sep [] hp2.size h [ownO (kF .f32) 29 v2 x2], fun v _ => @Eq Value (.pointer (some ⟨bb1, 3, none⟩)) v] [none, none, some (fun u => [Value.ownBlock u]), none, none, some (fun u => [Value.ownBlock u]), none] [] [[], [0], [1], [], [3], [4], []] [2, 5, 6] Try.mixed (by decide +kernel) (by decide +kernel) rfl rfl rfl (by decide +kernel) rfl ⟨fun _ _ _ h _ => h, fun _ _ _ h _ => h, fun _ _ _ h x => h.ext x, fun _ _ _ h _ => h, fun _ _ _ h _ => h, fun _ _ _ h x => h.ext x, fun _ _ _ h _ => h, trivial⟩ ?_ ?_
 ·refine ⟨⟨rfl, ?_⟩, ⟨rfl, ?_⟩, ⟨rfl, ?_⟩, ⟨rfl, ?_⟩, ⟨rfl, ?_⟩, ⟨rfl, ?_⟩, ⟨rfl, ?_⟩, trivial⟩
  ·rintro hp7 E_1
   refine Dep.nil ?_
   refine GuardOK.none rfl ?_
   exact OpV.toDx (opv_fieldAddr rfl Try.fo33_3 rfl) rfl
  ·rintro hp8 E_2 _ rfl
   refine Dep.nil ?_
   refine GuardOK.none rfl ?_
   exact OpV.toDx (opv_loadB rfl Try.one25 rfl (Sep.at (o := boxO bb1 [(.int .i64 a0_0), (.int .i64 a0_1), (.bool a0_2), u0_3, u0_4]) (Sep.ext S_2 E_2) 1 rfl) rfl) rfl
  ·rintro hp9 E_3 _ rfl
   refine Dep.nil ?_
   refine GuardOK.none rfl ?_
   exact OpV.mono (opv_call (cap := []) (impl_copyOf_ok _ _ _ (SL.up (SL.mod g0_3 (Mod.lift X_2 E_3) (Nat.le_refl _) nob) (Nat.le_trans (Nat.le_refl _) (Mod.size (Mod.lift X_2 E_3)))) _ hx1) rfl rfl ⟨rfl, trivial⟩ Try.func139 rfl rfl) (by rintro _ _ ⟨M_, T_⟩; exact ⟨Mod.ext M_, Sep.weak T_ (Ext.size E_3), Sep.fresh T_⟩)
  ·rintro hp10 E_4
   refine Dep.nil ?_
   refine GuardOK.none rfl ?_
   exact OpV.toDx (opv_fieldAddr rfl Try.fo33_4 rfl) rfl
  ·rintro hp11 E_5 _ rfl
   refine Dep.nil ?_
   refine GuardOK.none rfl ?_
   exact OpV.toDx (opv_loadB rfl Try.one25 rfl (Sep.at (o := boxO bb1 [(.int .i64 a0_0), (.int .i64 a0_1), (.bool a0_2), u0_3, u0_4]) (Sep.ext S_2 E_5) 1 rfl) rfl) rfl
  ·rintro hp12 E_6 _ rfl
   refine Dep.nil ?_
   refine GuardOK.none rfl ?_
   exact OpV.mono (opv_call (cap := []) (impl_copyOf_ok _ _ _ (SL.up (SL.mod g0_4 (Mod.lift X_2 E_6) (Nat.le_refl _) nob) (Nat.le_trans (Nat.le_refl _) (Mod.size (Mod.lift X_2 E_6)))) _ hx2) rfl rfl ⟨rfl, trivial⟩ Try.func139 rfl rfl) (by rintro _ _ ⟨M_, T_⟩; exact ⟨Mod.ext M_, Sep.weak T_ (Ext.size E_6), Sep.fresh T_⟩)
  ·rintro hp13 E_7
   refine Dep.nil ?_
   refine GuardOK.none rfl ?_
   exact OpV.toDx (opv_fieldAddr rfl Try.fo33_3 rfl) rfl
 rintro hp14 E_8 v1 T_3 v2 T_4 _ rfl
 refine DepM.nil ?_
 intro PW_1 LK_
 have X_7 := Mod.lift X_2 E_8
 have S_9 := Sep.join S_2 (Mod.size X_2) (Ext.mod E_8 []) (Sep.both T_3 T_4 (Apt.symm (Apt.of PW_1 1 2 rfl rfl (by decide))))
 show RL _ _ _ _ (_ :: _) _ _
 refine RL.op0 _ (opS_stored (cs := [(.int .i64 a0_0), (.int .i64 a0_1), (.bool a0_2), u0_3, u0_4]) (cs' := [(.int .i64 a0_0), (.int .i64 a0_1), (.bool a0_2), v1, u0_4]) (opv_storeB (k := 3) (cs := [(.int .i64 a0_0), (.int .i64 a0_1), (.bool a0_2), u0_3, u0_4]) rfl Try.size25 rfl rfl (ownO.one (Sep.at (o := ownO (kF .f32) 29 v1 x1) S_9 0 rfl)) (Sep.at (o := boxO bb1 [(.int .i64 a0_0), (.int .i64 a0_1), (.bool a0_2), u0_3, u0_4]) S_9 3 rfl) (Nat.le_of_ble_eq_true rfl)) (Sep.at (o := boxO bb1 [(.int .i64 a0_0), (.int .i64 a0_1), (.bool a0_2), u0_3, u0_4]) S_9 3 rfl)) ?_
 rintro _ hp15 ⟨rfl, MT_7, T_7⟩
 have S_10 : Sep [] h0.size hp14 ([boxO bb1 [(.int .i64 a0_0), (.int .i64 a0_1), (.bool a0_2), u0_3, u0_4]] ++ [ownO (kF .f32) 29 v1 x1, ownO (kF .f32) 29 v2 x2, boxO bb2 [(.int .i64 0), (.int .i64 0), (.bool false), (.slice none 0 0), (.slice none 0 0)]]) := Sep.sel S_9 [3, 0, 1, 2] (by decide)
 obtain ⟨X_8, S_11⟩ := Sep.turn X_7 S_10 MT_7 T_7
 refine RL.opD (by decide) (opv_fieldAddr rfl Try.fo33_4 rfl) ?_
 refine RL.op0 _ (opS_stored (cs := [(.int .i64 a0_0), (.int .i64 a0_1), (.bool a0_2), v1, u0_4]) (cs' := [(.int .i64 a0_0), (.int .i64 a0_1), (.bool a0_2), v1, v2]) (opv_storeB (k := 4) (cs := [(.int .i64 a0_0), (.int .i64 a0_1), (.bool a0_2), v1, u0_4]) rfl Try.size25 rfl rfl (ownO.one (Sep.at (o := ownO (kF .f32) 29 v2 x2) S_11 2 rfl)) (Sep.at (o := boxO bb1 [(.int .i64 a0_0), (.int .i64 a0_1), (.bool a0_2), v1, u0_4]) S_11 0 rfl) (Nat.le_of_ble_eq_true rfl)) (Sep.at (o := boxO bb1 [(.int .i64 a0_0), (.int .i64 a0_1), (.bool a0_2), v1, u0_4]) S_11 0 rfl)) ?_
 rintro _ hp16 ⟨rfl, MT_8, T_8⟩
 have S_12 : Sep [] h0.size hp15 ([boxO bb1 [(.int .i64 a0_0), (.int .i64 a0_1), (.bool a0_2), v1, u0_4]] ++ [ownO (kF .f32) 29 v1 x1, ownO (kF .f32) 29 v2 x2, boxO bb2 [(.int .i64 0), (.int .i64 0), (.bool false), (.slice none 0 0), (.slice none 0 0)]]) := Sep.sel S_11 [0, 1, 2, 3] (by decide)
 obtain ⟨X_9, S_13⟩ := Sep.turn X_8 S_12 MT_8 T_8
 refine RL.nil ?_
 refine thnN ?_
 refine W.seq ?_
 refine W.region ?_
 refine RL.opD (by decide) (opv_loadA (us := [(.int .i64 a0_0), (.int .i64 a0_1), (.bool a0_2), v1, v2]) rfl Try.agg33 Try.size33 rfl (Sep.at (o := boxO bb1 [(.int .i64 a0_0), (.int .i64 a0_1), (.bool a0_2), v1, v2]) S_13 0 rfl) rfl rfl) ?_
 refine RL.op0 _ (opS_stored (cs := [(.int .i64 0), (.int .i64 0), (.bool false), (.slice none 0 0), (.slice none 0 0)]) (cs' := [(.int .i64 a0_0), (.int .i64 a0_1), (.bool a0_2), v1, v2]) (opv_storeA (us := [(.int .i64 a0_0), (.int .i64 a0_1), (.bool a0_2), v1, v2]) rfl Try.size33 rfl rfl (oneAll rfl (oneAll rfl (oneAll rfl (oneAll (ownO.one (Sep.at (o := ownO (kF .f32) 29 v1 x1) S_13 1 rfl)) (oneAll (ownO.one (Sep.at (o := ownO (kF .f32) 29 v2 x2) S_13 2 rfl)) rfl))))) (Sep.at (o := boxO bb2 [(.int .i64 0), (.int .i64 0), (.bool false), (.slice none 0 0), (.slice none 0 0)]) S_13 3 rfl) rfl rfl) (Sep.at (o := boxO bb2 [(.int .i64 0), (.int .i64 0), (.bool false), (.slice none 0 0), (.slice none 0 0)]) S_13 3 rfl)) ?_
 rintro _ hp17 ⟨rfl, MT_9, T_9⟩
 have S_14 : Sep [] h0.size hp16 ([boxO bb2 [(.int .i64 0), (.int .i64 0), (.bool false), (.slice none 0 0), (.slice none 0 0)]] ++ [boxO bb1 [(.int .i64 a0_0), (.int .i64 a0_1), (.bool a0_2), v1, v2], ownO (kF .f32) 29 v1 x1, ownO (kF .f32) 29 v2 x2]) := Sep.sel S_13 [3, 0, 1, 2] (by decide)
 obtain ⟨X_10, S_15⟩ := Sep.turn X_9 S_14 MT_9 T_9
 refine RL.nil ?_
 refine thnN ?_
 refine W.ret ?_
 have er := Option.some.inj hp
 subst er
 exact Rt.cell1 rfl rfl Try.agg33 Try.size33 (Sep.at (o := boxO bb2 [(.int .i64 a0_0), (.int .i64 a0_1), (.bool a0_2), v1, v2]) S_15 0 rfl) rfl ⟨v1, v2, rfl, X_10, (Sep.sel S_15 [2, 3] (by decide))⟩

end Go.H
