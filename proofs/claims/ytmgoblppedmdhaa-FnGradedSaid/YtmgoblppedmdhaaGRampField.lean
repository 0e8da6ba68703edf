/- Functions of the program: what each computes, as a plain function, and that the call comes to it. Written by a program (wip/gen). -/
import Derived.Test.YtmgoblppedmdhaaGMax
import Derived.Test.YtmgoblppedmdhaaGBase
import Derived.Test.YtmgoblppedmdhaaGSheet
import Derived.Test.YtmgoblppedmdhaaGField
import Derived.Test.YtmgoblppedmdhaaGRect
import Derived.Test.YtmgoblppedmdhaaLib2
import Derived.Test.YtmgoblppedmdhaaProg
import Derived.KernelRfl
set_option linter.unusedVariables false
namespace Go.H
open Go Go.Proofs



noncomputable def impl_RampField_1_2 (a0 : Int) (a1 : Int) (a2 : Int) (ae0_0 : Int) (ae0_1 : Int) (ae0_2 : Bool) (ae0_3 : List (Option Nat)) (ae0_4 : List (Option Nat)) (ae1_0 : Int) (ae2_0 : List (Option Nat)) (ae2_1 : List (Option Nat)) (ae2_2 : List (Option Nat)) : Option (Int × Int × Bool × Int × (List (Option Nat)) × (List (Option Nat)) × (List (Option Nat))) :=
 ((impl_Sheet_depth ae0_0 ae0_1 ae0_2 ae0_3 ae0_4 a0 a1).bind fun (x1 : Int) => (((if (decide (x1 < ae1_0)) = true then ((idx ae2_0 a2).bind fun (x3 : Option Nat) => ((idx ae2_0 a2).bind fun (x4 : Option Nat) => ((setF ae2_0 a2 (fop .mul .f32 x3 (fop .quo .f32 (fofi .f32 x1) (fofi .f32 ae1_0)))).bind fun (x5 : List (Option Nat)) => some x5))) else some ae2_0) : Option (List (Option Nat))).bind fun (x2 : List (Option Nat)) => some (ae0_0, ae0_1, ae0_2, ae1_0, x2, ae2_1, ae2_2)))

noncomputable def impl_Sheet_each__impl_RampField_1.s1 (a0_0 : Int) (a0_1 : Int) (a0_2 : Bool) (a0_3 : List (Option Nat)) (a0_4 : List (Option Nat)) (ae0_3 : List (Option Nat)) (ae0_4 : List (Option Nat)) (x1 : Int) (x18 : Int) (x19 : Int) (x20 : Int) (x21 : Bool) (x22 : Int) (x23 : List (Option Nat)) (x24 : List (Option Nat)) (x25 : List (Option Nat)) : Option ((Int × Int × Int × Bool × Int × (List (Option Nat)) × (List (Option Nat)) × (List (Option Nat))) ⊕ (Int × Bool × Int × Int × Bool × Int × (List (Option Nat)) × (List (Option Nat)) × (List (Option Nat)))) :=
 (if (decide (x18 < a0_0)) = true then ((impl_Sheet_at a0_0 a0_1 a0_2 a0_3 a0_4 x18 x1).bind fun (x35 : Int) => ((impl_RampField_1_2 x18 x1 x35 x19 x20 x21 ae0_3 ae0_4 x22 x23 x24 x25).bind fun (x36 : (Int × Int × Bool × Int × (List (Option Nat)) × (List (Option Nat)) × (List (Option Nat)))) => some (.inl (IntKind.wrap .i64 (x18 + 1), x36.1, x36.2.1, x36.2.2.1, x36.2.2.2.1, x36.2.2.2.2.1, x36.2.2.2.2.2.1, x36.2.2.2.2.2.2)))) else some (.inr (x18, decide (x18 < a0_0), x19, x20, x21, x22, x23, x24, x25)))

noncomputable def impl_Sheet_each__impl_RampField_1.s0 (a0_0 : Int) (a0_1 : Int) (a0_2 : Bool) (a0_3 : List (Option Nat)) (a0_4 : List (Option Nat)) (ae0_3 : List (Option Nat)) (ae0_4 : List (Option Nat)) (x1 : Int) (x2 : Int) (x3 : Int) (x4 : Bool) (x5 : Int) (x6 : List (Option Nat)) (x7 : List (Option Nat)) (x8 : List (Option Nat)) : Option ((Int × Int × Int × Bool × Int × (List (Option Nat)) × (List (Option Nat)) × (List (Option Nat))) ⊕ (Int × Bool × Int × Int × Bool × Int × (List (Option Nat)) × (List (Option Nat)) × (List (Option Nat)))) :=
 (if (decide (x1 < a0_1)) = true then ((loopF (fun (s : (Int × Int × Int × Bool × Int × (List (Option Nat)) × (List (Option Nat)) × (List (Option Nat)))) => impl_Sheet_each__impl_RampField_1.s1 a0_0 a0_1 a0_2 a0_3 a0_4 ae0_3 ae0_4 x1 s.1 s.2.1 s.2.2.1 s.2.2.2.1 s.2.2.2.2.1 s.2.2.2.2.2.1 s.2.2.2.2.2.2.1 s.2.2.2.2.2.2.2) (0, x2, x3, x4, x5, x6, x7, x8)).bind fun (⟨x26, x27, x28, x29, x30, x31, x32, x33, x34⟩ : (Int × Bool × Int × Int × Bool × Int × (List (Option Nat)) × (List (Option Nat)) × (List (Option Nat)))) => some (.inl (IntKind.wrap .i64 (x1 + 1), x28, x29, x30, x31, x32, x33, x34))) else some (.inr (x1, decide (x1 < a0_1), x2, x3, x4, x5, x6, x7, x8)))

noncomputable def impl_Sheet_each__impl_RampField_1 (a0_0 : Int) (a0_1 : Int) (a0_2 : Bool) (a0_3 : List (Option Nat)) (a0_4 : List (Option Nat)) (ae0_0 : Int) (ae0_1 : Int) (ae0_2 : Bool) (ae0_3 : List (Option Nat)) (ae0_4 : List (Option Nat)) (ae1_0 : Int) (ae2_0 : List (Option Nat)) (ae2_1 : List (Option Nat)) (ae2_2 : List (Option Nat)) : Option (Int × Int × Bool × Int × (List (Option Nat)) × (List (Option Nat)) × (List (Option Nat))) :=
 ((loopF (fun (s : (Int × Int × Int × Bool × Int × (List (Option Nat)) × (List (Option Nat)) × (List (Option Nat)))) => impl_Sheet_each__impl_RampField_1.s0 a0_0 a0_1 a0_2 a0_3 a0_4 ae0_3 ae0_4 s.1 s.2.1 s.2.2.1 s.2.2.2.1 s.2.2.2.2.1 s.2.2.2.2.2.1 s.2.2.2.2.2.2.1 s.2.2.2.2.2.2.2) (0, ae0_0, ae0_1, ae0_2, ae1_0, ae2_0, ae2_1, ae2_2)).bind fun (⟨x9, x10, x11, x12, x13, x14, x15, x16, x17⟩ : (Int × Bool × Int × Int × Bool × Int × (List (Option Nat)) × (List (Option Nat)) × (List (Option Nat)))) => some (x11, x12, x13, x14, x15, x16, x17))

noncomputable def impl_RampField (a0_0 : Int) (a0_1 : Int) (a0_2 : Bool) (a0_3 : List (Option Nat)) (a0_4 : List (Option Nat)) (a1_0 : List (Option Nat)) (a1_1 : List (Option Nat)) (a1_2 : List (Option Nat)) (a2 : Int) : Option ((List (Option Nat)) × (List (Option Nat)) × (List (Option Nat)) × Bool) :=
 ((((impl_IsField a0_0 a0_1 a0_2 a0_3 a0_4 a1_0 a1_1 a1_2).bind fun (x2 : Bool) => (if (!x2) = true then some true else ((impl_isWidth a2).bind fun (x3 : Bool) => some (!x3)))) : Option Bool).bind fun (x1 : Bool) => (if x1 = true then some (([] : List (Option Nat)), ([] : List (Option Nat)), ([] : List (Option Nat)), false) else ((impl_copyField a1_0 a1_1 a1_2).bind fun (x4 : ((List (Option Nat)) × (List (Option Nat)) × (List (Option Nat)))) => ((impl_Sheet_each__impl_RampField_1 a0_0 a0_1 a0_2 a0_3 a0_4 a0_0 a0_1 a0_2 a0_3 a0_4 a2 x4.1 x4.2.1 x4.2.2).bind fun (x5 : (Int × Int × Bool × Int × (List (Option Nat)) × (List (Option Nat)) × (List (Option Nat)))) => ((impl_validField x5.1 x5.2.1 x5.2.2.1 a0_3 a0_4 x5.2.2.2.2.1 x5.2.2.2.2.2.1 x5.2.2.2.2.2.2).bind fun (x6 : ((List (Option Nat)) × (List (Option Nat)) × (List (Option Nat)) × Bool)) => some (x6.1, x6.2.1, x6.2.2.1, x6.2.2.2))))))

set_option maxRecDepth 20000 in
theorem impl_RampField_1_2_ok (h0 : Heap) (lo : Nat) (hlo : lo ≤ h0.size) (a0 : Int) (a1 : Int) (a2 : Int) (be0 : Nat) (ae0_0 : Int) (ae0_1 : Int) (ae0_2 : Bool) (ue0_3 : Value) (ae0_3 : List (Option Nat)) (ge0_3 : SL (kF .f32) lo h0 ue0_3 ae0_3) (ue0_4 : Value) (ae0_4 : List (Option Nat)) (ge0_4 : SL (kF .f32) lo h0 ue0_4 ae0_4) (be1 : Nat) (ae1_0 : Int) (be2 : Nat) (ue2_0 : Value) (ae2_0 : List (Option Nat)) (ue2_1 : Value) (ae2_1 : List (Option Nat)) (ue2_2 : Value) (ae2_2 : List (Option Nat)) (S0 : Sep [some be0, some be1, some be2, ue2_0.ownBlock, ue2_1.ownBlock, ue2_2.ownBlock] h0.size h0 [boxO be0 [(.int .i64 ae0_0), (.int .i64 ae0_1), (.bool ae0_2), ue0_3, ue0_4], boxO be1 [(.int .i64 ae1_0)], boxO be2 [ue2_0, ue2_1, ue2_2], ownO (kF .f32) 29 ue2_0 ae2_0, ownO (kF .f32) 29 ue2_1 ae2_1, ownO (kF .f32) 29 ue2_2 ae2_2]) (hB : ∀ b, some b ∈ [some be0, some be1, some be2, ue2_0.ownBlock, ue2_1.ownBlock, ue2_2.ownBlock] → lo ≤ b) (r : (Int × Int × Bool × Int × (List (Option Nat)) × (List (Option Nat)) × (List (Option Nat)))) (hp : impl_RampField_1_2 a0 a1 a2 ae0_0 ae0_1 ae0_2 ae0_3 ae0_4 ae1_0 ae2_0 ae2_1 ae2_2 = some r) : CallsH Try.prog 104 ([(.int .i64 a0), (.int .i64 a1), (.int .i64 a2)].toArray ++ [(.pointer (some ⟨be0, 0, none⟩)), (.pointer (some ⟨be1, 0, none⟩)), (.pointer (some ⟨be2, 0, none⟩))].toArray) h0 (fun v h' => v = (.tuple (List.toArray (α := Value) [])) ∧ Mod [some be0, some be1, some be2, ue2_0.ownBlock, ue2_1.ownBlock, ue2_2.ownBlock] h0 h' ∧ Sep [some be0, some be1, some be2, ue2_0.ownBlock, ue2_1.ownBlock, ue2_2.ownBlock] h0.size h' [boxO be0 [(.int .i64 r.1), (.int .i64 r.2.1), (.bool r.2.2.1), ue0_3, ue0_4], boxO be1 [(.int .i64 r.2.2.2.1)], boxO be2 [ue2_0, ue2_1, ue2_2], ownO (kF .f32) 29 ue2_0 r.2.2.2.2.1, ownO (kF .f32) 29 ue2_1 r.2.2.2.2.2.1, ownO (kF .f32) 29 ue2_2 r.2.2.2.2.2.2]) := by
 unfold impl_RampField_1_2 at hp
 refine callsH_of_W (l := [(.int .i64 a0), (.int .i64 a1), (.int .i64 a2)]) (cap := [(.pointer (some ⟨be0, 0, none⟩)), (.pointer (some ⟨be1, 0, none⟩)), (.pointer (some ⟨be2, 0, none⟩))]) 29 Try.func104 rfl rfl rfl ?_
 refine W.seq ?_
 refine W.region ?_
 refine RL.opD (by decide) (opv_loadA (us := [(.int .i64 ae0_0), (.int .i64 ae0_1), (.bool ae0_2), ue0_3, ue0_4]) rfl Try.agg33 Try.size33 rfl (Sep.at (o := boxO be0 [(.int .i64 ae0_0), (.int .i64 ae0_1), (.bool ae0_2), ue0_3, ue0_4]) S0 0 rfl) rfl rfl) ?_
 refine RL.opD (by decide) (opv_move rfl rfl) ?_
 refine RL.opD (by decide) (opv_move rfl rfl) ?_
 obtain ⟨x1, hx1, hp⟩ := Option.bind_eq_some_iff.1 hp
 refine RL.op _ (by decide) (opv_call (cap := []) (impl_Sheet_depth_ok _ _ _ _ _ _ (SL.up ge0_3 hlo) _ _ (SL.up ge0_4 hlo) _ _ _ hx1) rfl rfl ⟨rfl, rfl, rfl, trivial⟩ Try.func103 rfl rfl) ?_
 rintro _ hp1 ⟨rfl, MT_1, T_1⟩
 obtain ⟨X_1, S_1⟩ := Sep.turn0 (Mod.refl [some be0, some be1, some be2, ue2_0.ownBlock, ue2_1.ownBlock, ue2_2.ownBlock] h0) S0 MT_1 T_1
 refine RL.opD (by decide) (opv_assign rfl rfl) ?_
 refine RL.nil ?_
 refine thnN ?_
 refine W.seq ?_
 refine W.region ?_
 refine RL.opD (by decide) (opv_move rfl rfl) ?_
 refine RL.opD (by decide) (opv_loadB rfl Try.one2 rfl (Sep.at (o := boxO be1 [(.int .i64 ae1_0)]) S_1 1 rfl) rfl) ?_
 refine RL.opD (by decide) (opv_icmp rfl rfl rfl rfl) ?_
 refine RL.nil ?_
 refine thnN ?_
 obtain ⟨x2, hy1, hp⟩ := Option.bind_eq_some_iff.1 hp
 refine W.cut (fun φ' h' => Fr.sub [(0, (.int .i64 a0)), (1, (.int .i64 a1)), (2, (.int .i64 a2)), (3, (.pointer (some ⟨be0, 0, none⟩))), (4, (.pointer (some ⟨be1, 0, none⟩))), (5, (.pointer (some ⟨be2, 0, none⟩))), (9, (.int .i64 x1)), (16, (.bool (decide (x1 < ae1_0))))] φ' ∧ Mod [some be0, some be1, some be2, ue2_0.ownBlock, ue2_1.ownBlock, ue2_2.ownBlock] h0 h' ∧ Sep [some be0, some be1, some be2, ue2_0.ownBlock, ue2_1.ownBlock, ue2_2.ownBlock] h0.size h' [boxO be0 [(.int .i64 ae0_0), (.int .i64 ae0_1), (.bool ae0_2), ue0_3, ue0_4], boxO be1 [(.int .i64 ae1_0)], boxO be2 [ue2_0, ue2_1, ue2_2], ownO (kF .f32) 29 ue2_0 x2, ownO (kF .f32) 29 ue2_1 ae2_1, ownO (kF .f32) 29 ue2_2 ae2_2]) ?_ ?_
 ·by_cases c1 : (decide (x1 < ae1_0)) = true
  ·rw [if_pos c1] at hy1
   refine W.condT rfl c1 ?_
   obtain ⟨x3, hx3, hy1⟩ := Option.bind_eq_some_iff.1 hy1
   obtain ⟨x4, hx4, hy1⟩ := Option.bind_eq_some_iff.1 hy1
   obtain ⟨x5, hx5, hy1⟩ := Option.bind_eq_some_iff.1 hy1
   refine W.sub (ψ := [(0, (.int .i64 a0)), (1, (.int .i64 a1)), (2, (.int .i64 a2)), (3, (.pointer (some ⟨be0, 0, none⟩))), (4, (.pointer (some ⟨be1, 0, none⟩))), (5, (.pointer (some ⟨be2, 0, none⟩))), (9, (.int .i64 x1)), (16, (.bool (decide (x1 < ae1_0))))]) ⟨rfl, rfl, rfl, rfl, rfl, rfl, rfl, rfl, trivial⟩ ?_
   refine W.regionP [fun v _ => @Eq Value (.pointer (some ⟨be2, 0, none⟩)) v, fun v _ => @Eq Value ue2_0 v, fun v _ => @Eq Value (.int .i64 a2) v, fun v _ => PtI 1 v ue2_0 (Int.toNat a2), fun v _ => IsF .f32 v x3, fun v _ => @Eq Value (.int .i64 x1) v, fun v _ => IsF .f32 v (fofi .f32 x1), fun v _ => @Eq Value (.int .i64 ae1_0) v, fun v _ => IsF .f32 v (fofi .f32 ae1_0), fun v _ => IsF .f32 v (fop .quo .f32 (fofi .f32 x1) (fofi .f32 ae1_0)), fun v _ => IsF .f32 v (fop .mul .f32 x3 (fop .quo .f32 (fofi .f32 x1) (fofi .f32 ae1_0))), fun v _ => PtI 1 v ue2_0 (Int.toNat a2)] [[], [0], [], [1, 2], [3], [], [5], [], [7], [6, 8], [4, 9], [1, 2]] [10, 11] Try.mixed (by decide +kernel) (by decide +kernel) rfl rfl rfl ?_ ?_
   ·refine ⟨⟨rfl, ?_⟩, ⟨rfl, ?_⟩, ⟨rfl, ?_⟩, ⟨rfl, ?_⟩, ⟨rfl, ?_⟩, ⟨rfl, ?_⟩, ⟨rfl, ?_⟩, ⟨rfl, ?_⟩, ⟨rfl, ?_⟩, ⟨rfl, ?_⟩, ⟨rfl, ?_⟩, ⟨rfl, ?_⟩, trivial⟩
    ·rintro _ rfl
     refine Dep.nil ?_
     refine GuardOK.none rfl ?_
     exact OpV.toD (opv_fieldAddr rfl Try.fo37_0 rfl) rfl
    ·rintro _ rfl _ rfl
     refine Dep.nil ?_
     refine GuardOK.none rfl ?_
     exact OpV.toD (opv_loadB rfl Try.one25 rfl (Sep.at (o := boxO be2 [ue2_0, ue2_1, ue2_2]) S_1 2 rfl) rfl) rfl
    ·rintro _ rfl
     refine Dep.nil ?_
     refine GuardOK.none rfl ?_
     exact OpV.toD (opv_move rfl rfl) rfl
    ·rintro _ rfl _ rfl _ rfl
     refine Dep.nil ?_
     refine GuardOK.none rfl ?_
     exact OpV.toS (opv_index rfl Try.underlying25 (by rw [Try.size29]; rfl) rfl rfl (ownO.read (Sep.at (o := ownO (kF .f32) 29 ue2_0 ae2_0) S_1 3 rfl)) hx3) (fun _ h => h)
    ·rintro _ rfl v1 fv1
     refine Dep.nil ?_
     refine GuardOK.none rfl ?_
     exact OpV.toS (opv_loadF rfl Try.one29 rfl fv1 (ownO.read (Sep.at (o := ownO (kF .f32) 29 ue2_0 ae2_0) S_1 3 rfl)) hx3) (fun _ h => h)
    ·rintro _ rfl
     refine Dep.nil ?_
     refine GuardOK.none rfl ?_
     exact OpV.toD (opv_move rfl rfl) rfl
    ·rintro _ rfl _ rfl
     refine Dep.nil ?_
     refine GuardOK.none rfl ?_
     exact OpV.toS (opv_i2f rfl (by rw [Try.underlying2]; rfl) Try.underlying29 rfl) (fun _ h => h)
    ·rintro _ rfl
     refine Dep.nil ?_
     refine GuardOK.none rfl ?_
     exact OpV.toD (opv_loadB rfl Try.one2 rfl (Sep.at (o := boxO be1 [(.int .i64 ae1_0)]) S_1 1 rfl) rfl) rfl
    ·rintro _ rfl _ rfl
     refine Dep.nil ?_
     refine GuardOK.none rfl ?_
     exact OpV.toS (opv_i2f rfl (by rw [Try.underlying2]; rfl) Try.underlying29 rfl) (fun _ h => h)
    ·rintro _ rfl v3 fv3 v4 fv4
     refine Dep.nil ?_
     refine GuardOK.none rfl ?_
     exact OpV.toS (opv_fop rfl rfl rfl rfl fv3 fv4) (fun _ h => h)
    ·rintro _ rfl v2 fv2 v5 fv5
     refine Dep.nil ?_
     refine GuardOK.none rfl ?_
     exact OpV.toS (opv_fop rfl rfl rfl rfl fv2 fv5) (fun _ h => h)
    ·rintro _ rfl _ rfl _ rfl
     refine Dep.nil ?_
     refine GuardOK.none rfl ?_
     exact OpV.toS (opv_index rfl Try.underlying25 (by rw [Try.size29]; rfl) rfl rfl (ownO.read (Sep.at (o := ownO (kF .f32) 29 ue2_0 ae2_0) S_1 3 rfl)) hx4) (fun _ h => h)
   rintro v6 fv6 v7 fv7
   refine Dep.nil ?_
   show RL _ _ _ _ (_ :: _) _ _
   refine RL.op0 _ (opS_storeE (K := (kF .f32)) rfl Try.size29 rfl rfl fv7 rfl ⟨_, rfl, fv6⟩ hx5 (Sep.at (o := ownO (kF .f32) 29 ue2_0 ae2_0) S_1 3 rfl)) ?_
   rintro _ hp3 ⟨rfl, MT_3, T_3⟩
   have S_4 : Sep [some be0, some be1, some be2, ue2_0.ownBlock, ue2_1.ownBlock, ue2_2.ownBlock] h0.size hp1 ([ownO (kF .f32) 29 ue2_0 ae2_0] ++ [boxO be0 [(.int .i64 ae0_0), (.int .i64 ae0_1), (.bool ae0_2), ue0_3, ue0_4], boxO be1 [(.int .i64 ae1_0)], boxO be2 [ue2_0, ue2_1, ue2_2], ownO (kF .f32) 29 ue2_1 ae2_1, ownO (kF .f32) 29 ue2_2 ae2_2]) := Sep.sel S_1 [3, 0, 1, 2, 4, 5] (by decide)
   obtain ⟨X_3, S_5⟩ := Sep.turn X_1 S_4 MT_3 T_3
   refine RL.nil ?_
   have ey1 := Option.some.inj hy1
   subst ey1
   refine onlyN ?_
   exact ⟨⟨rfl, rfl, rfl, rfl, rfl, rfl, rfl, rfl, trivial⟩, X_3, (Sep.sel S_5 [1, 2, 3, 0, 4, 5] (by decide))⟩
  ·rw [if_neg c1] at hy1
   have c1 := eq_false_of_ne_true c1
   refine W.condF rfl c1 ?_
   refine W.skip ?_
   have ey1 := Option.some.inj hy1
   subst ey1
   refine onlyN ?_
   exact ⟨⟨rfl, rfl, rfl, rfl, rfl, rfl, rfl, rfl, trivial⟩, X_1, (Sep.sel S_1 [0, 1, 2, 3, 4, 5] (by decide))⟩
 rintro φ' hp4 ⟨hs1, X_4, S_6⟩
 have er := Option.some.inj hp
 subst er
 exact Rt.none' rfl ⟨rfl, X_4, (Sep.sel S_6 [0, 1, 2, 3, 4, 5] (by decide))⟩

set_option maxRecDepth 20000 in
theorem impl_Sheet_each__impl_RampField_1_ok (h0 : Heap) (lo : Nat) (hlo : lo ≤ h0.size) (a0_0 : Int) (a0_1 : Int) (a0_2 : Bool) (u0_3 : Value) (a0_3 : List (Option Nat)) (g0_3 : SL (kF .f32) lo h0 u0_3 a0_3) (u0_4 : Value) (a0_4 : List (Option Nat)) (g0_4 : SL (kF .f32) lo h0 u0_4 a0_4) (be0 : Nat) (ae0_0 : Int) (ae0_1 : Int) (ae0_2 : Bool) (ue0_3 : Value) (ae0_3 : List (Option Nat)) (ge0_3 : SL (kF .f32) lo h0 ue0_3 ae0_3) (ue0_4 : Value) (ae0_4 : List (Option Nat)) (ge0_4 : SL (kF .f32) lo h0 ue0_4 ae0_4) (be1 : Nat) (ae1_0 : Int) (be2 : Nat) (ue2_0 : Value) (ae2_0 : List (Option Nat)) (ue2_1 : Value) (ae2_1 : List (Option Nat)) (ue2_2 : Value) (ae2_2 : List (Option Nat)) (S0 : Sep [some be0, some be1, some be2, ue2_0.ownBlock, ue2_1.ownBlock, ue2_2.ownBlock] h0.size h0 [boxO be0 [(.int .i64 ae0_0), (.int .i64 ae0_1), (.bool ae0_2), ue0_3, ue0_4], boxO be1 [(.int .i64 ae1_0)], boxO be2 [ue2_0, ue2_1, ue2_2], ownO (kF .f32) 29 ue2_0 ae2_0, ownO (kF .f32) 29 ue2_1 ae2_1, ownO (kF .f32) 29 ue2_2 ae2_2]) (hB : ∀ b, some b ∈ [some be0, some be1, some be2, ue2_0.ownBlock, ue2_1.ownBlock, ue2_2.ownBlock] → lo ≤ b) (r : (Int × Int × Bool × Int × (List (Option Nat)) × (List (Option Nat)) × (List (Option Nat)))) (hp : impl_Sheet_each__impl_RampField_1 a0_0 a0_1 a0_2 a0_3 a0_4 ae0_0 ae0_1 ae0_2 ae0_3 ae0_4 ae1_0 ae2_0 ae2_1 ae2_2 = some r) : CallsH Try.prog 101 ([(.agg (List.toArray (α := Value) [(.int .i64 a0_0), (.int .i64 a0_1), (.bool a0_2), u0_3, u0_4])), (.func (.func 104) #[] (List.toArray (α := Value) [(.pointer (some ⟨be0, 0, none⟩)), (.pointer (some ⟨be1, 0, none⟩)), (.pointer (some ⟨be2, 0, none⟩))]))].toArray ++ [].toArray) h0 (fun v h' => v = (.tuple (List.toArray (α := Value) [])) ∧ Mod [some be0, some be1, some be2, ue2_0.ownBlock, ue2_1.ownBlock, ue2_2.ownBlock] h0 h' ∧ Sep [some be0, some be1, some be2, ue2_0.ownBlock, ue2_1.ownBlock, ue2_2.ownBlock] h0.size h' [boxO be0 [(.int .i64 r.1), (.int .i64 r.2.1), (.bool r.2.2.1), ue0_3, ue0_4], boxO be1 [(.int .i64 r.2.2.2.1)], boxO be2 [ue2_0, ue2_1, ue2_2], ownO (kF .f32) 29 ue2_0 r.2.2.2.2.1, ownO (kF .f32) 29 ue2_1 r.2.2.2.2.2.1, ownO (kF .f32) 29 ue2_2 r.2.2.2.2.2.2]) := by
 unfold impl_Sheet_each__impl_RampField_1 at hp
 refine callsH_of_W (l := [(.agg (List.toArray (α := Value) [(.int .i64 a0_0), (.int .i64 a0_1), (.bool a0_2), u0_3, u0_4])), (.func (.func 104) #[] (List.toArray (α := Value) [(.pointer (some ⟨be0, 0, none⟩)), (.pointer (some ⟨be1, 0, none⟩)), (.pointer (some ⟨be2, 0, none⟩))]))]) (cap := []) 26 Try.func101 rfl rfl rfl ?_
 refine W.seq ?_
 refine W.region ?_
 refine RL.op _ (by decide) (opS_boxed (opv_boxA (cs := [(.int .i64 a0_0), (.int .i64 a0_1), (.bool a0_2), u0_3, u0_4]) rfl rfl)) ?_
 rintro _ hp1 ⟨bb1, rfl, MT_1, T_1⟩
 obtain ⟨X_1, S_1⟩ := Sep.turn0 (Mod.refl [some be0, some be1, some be2, ue2_0.ownBlock, ue2_1.ownBlock, ue2_2.ownBlock] h0) S0 MT_1 T_1
 refine RL.nil ?_
 refine thnN ?_
 refine W.seq ?_
 refine W.region ?_
 refine RL.opD (by decide) (opv_fieldAddr rfl Try.fo33_1 rfl) ?_
 refine RL.opD (by decide) (opv_loadB rfl Try.one2 rfl (Sep.at (o := boxO bb1 [(.int .i64 a0_0), (.int .i64 a0_1), (.bool a0_2), u0_3, u0_4]) S_1 0 rfl) rfl) ?_
 refine RL.opD (by decide) (opv_move rfl rfl) ?_
 refine RL.nil ?_
 refine thnN ?_
 obtain ⟨y1, hy1, hp⟩ := Option.bind_eq_some_iff.1 hp
 refine W.cut (fun φ' h' => ∃ x9, ∃ x10, ∃ x11, ∃ x12, ∃ x13, ∃ x14, ∃ x15, ∃ x16, ∃ x17, y1 = (x9, x10, x11, x12, x13, x14, x15, x16, x17) ∧ Fr.sub [(0, (.agg (List.toArray (α := Value) [(.int .i64 a0_0), (.int .i64 a0_1), (.bool a0_2), u0_3, u0_4]))), (1, (.func (.func 104) #[] (List.toArray (α := Value) [(.pointer (some ⟨be0, 0, none⟩)), (.pointer (some ⟨be1, 0, none⟩)), (.pointer (some ⟨be2, 0, none⟩))]))), (2, (.pointer (some ⟨bb1, 0, none⟩))), (7, (.int .i64 a0_1)), (8, (.int .i64 x9)), (9, (.bool x10))] φ' ∧ Mod [some be0, some be1, some be2, ue2_0.ownBlock, ue2_1.ownBlock, ue2_2.ownBlock] h0 h' ∧ Sep [some be0, some be1, some be2, ue2_0.ownBlock, ue2_1.ownBlock, ue2_2.ownBlock] h0.size h' [boxO bb1 [(.int .i64 a0_0), (.int .i64 a0_1), (.bool a0_2), u0_3, u0_4], boxO be0 [(.int .i64 x11), (.int .i64 x12), (.bool x13), ue0_3, ue0_4], boxO be1 [(.int .i64 x14)], boxO be2 [ue2_0, ue2_1, ue2_2], ownO (kF .f32) 29 ue2_0 x15, ownO (kF .f32) 29 ue2_1 x16, ownO (kF .f32) 29 ue2_2 x17]) ?_ ?_
 ·refine W.block ?_
  refine W.loopS (fun (s : (Int × Int × Int × Bool × Int × (List (Option Nat)) × (List (Option Nat)) × (List (Option Nat)))) φ' h' => Fr.sub [(0, (.agg (List.toArray (α := Value) [(.int .i64 a0_0), (.int .i64 a0_1), (.bool a0_2), u0_3, u0_4]))), (1, (.func (.func 104) #[] (List.toArray (α := Value) [(.pointer (some ⟨be0, 0, none⟩)), (.pointer (some ⟨be1, 0, none⟩)), (.pointer (some ⟨be2, 0, none⟩))]))), (2, (.pointer (some ⟨bb1, 0, none⟩))), (7, (.int .i64 a0_1)), (8, (.int .i64 s.1))] φ' ∧ Mod [some be0, some be1, some be2, ue2_0.ownBlock, ue2_1.ownBlock, ue2_2.ownBlock] h0 h' ∧ Sep [some be0, some be1, some be2, ue2_0.ownBlock, ue2_1.ownBlock, ue2_2.ownBlock] h0.size h' [boxO bb1 [(.int .i64 a0_0), (.int .i64 a0_1), (.bool a0_2), u0_3, u0_4], boxO be0 [(.int .i64 s.2.1), (.int .i64 s.2.2.1), (.bool s.2.2.2.1), ue0_3, ue0_4], boxO be1 [(.int .i64 s.2.2.2.2.1)], boxO be2 [ue2_0, ue2_1, ue2_2], ownO (kF .f32) 29 ue2_0 s.2.2.2.2.2.1, ownO (kF .f32) 29 ue2_1 s.2.2.2.2.2.2.1, ownO (kF .f32) 29 ue2_2 s.2.2.2.2.2.2.2]) hy1 ⟨⟨rfl, rfl, rfl, rfl, rfl, trivial⟩, X_1, (Sep.sel S_1 [0, 1, 2, 3, 4, 5, 6] (by decide))⟩ ?_
  rintro ⟨x1, x2, x3, x4, x5, x6, x7, x8⟩ φ' hp2 o1 ⟨hs1, X_2, S_2⟩ ho1 hy1
  have hs1 : Fr.sub [(0, (.agg (List.toArray (α := Value) [(.int .i64 a0_0), (.int .i64 a0_1), (.bool a0_2), u0_3, u0_4]))), (1, (.func (.func 104) #[] (List.toArray (α := Value) [(.pointer (some ⟨be0, 0, none⟩)), (.pointer (some ⟨be1, 0, none⟩)), (.pointer (some ⟨be2, 0, none⟩))]))), (2, (.pointer (some ⟨bb1, 0, none⟩))), (7, (.int .i64 a0_1)), (8, (.int .i64 x1))] φ' := hs1
  have S_2 : Sep [some be0, some be1, some be2, ue2_0.ownBlock, ue2_1.ownBlock, ue2_2.ownBlock] h0.size hp2 [boxO bb1 [(.int .i64 a0_0), (.int .i64 a0_1), (.bool a0_2), u0_3, u0_4], boxO be0 [(.int .i64 x2), (.int .i64 x3), (.bool x4), ue0_3, ue0_4], boxO be1 [(.int .i64 x5)], boxO be2 [ue2_0, ue2_1, ue2_2], ownO (kF .f32) 29 ue2_0 x6, ownO (kF .f32) 29 ue2_1 x7, ownO (kF .f32) 29 ue2_2 x8] := S_2
  have ho1 : impl_Sheet_each__impl_RampField_1.s0 a0_0 a0_1 a0_2 a0_3 a0_4 ae0_3 ae0_4 x1 x2 x3 x4 x5 x6 x7 x8 = some o1 := ho1
  unfold impl_Sheet_each__impl_RampField_1.s0 at ho1
  refine W.sub hs1 ?_
  refine W.seq ?_
  refine W.region ?_
  refine RL.opD (by decide) (opv_icmp rfl rfl rfl rfl) ?_
  refine RL.nil ?_
  refine thnN ?_
  refine W.seq ?_
  by_cases c1 : (decide (x1 < a0_1)) = true
  ·rw [if_pos c1] at ho1
   refine W.condT rfl c1 ?_
   refine W.skip ?_
   refine thnN ?_
   refine W.seq ?_
   refine W.block ?_
   refine W.seq ?_
   refine W.region ?_
   refine RL.opD (by decide) (opv_move rfl rfl) ?_
   refine RL.opD (by decide) (opv_assign rfl rfl) ?_
   refine RL.nil ?_
   refine thnN ?_
   refine W.seq ?_
   refine W.region ?_
   refine RL.opD (by decide) (opv_fieldAddr rfl Try.fo33_0 rfl) ?_
   refine RL.opD (by decide) (opv_loadB rfl Try.one2 rfl (Sep.at (o := boxO bb1 [(.int .i64 a0_0), (.int .i64 a0_1), (.bool a0_2), u0_3, u0_4]) S_2 0 rfl) rfl) ?_
   refine RL.opD (by decide) (opv_move rfl rfl) ?_
   refine RL.nil ?_
   refine thnN ?_
   obtain ⟨y2, hy2, ho1⟩ := Option.bind_eq_some_iff.1 ho1
   refine W.cut (fun φ' h' => ∃ x26, ∃ x27, ∃ x28, ∃ x29, ∃ x30, ∃ x31, ∃ x32, ∃ x33, ∃ x34, y2 = (x26, x27, x28, x29, x30, x31, x32, x33, x34) ∧ Fr.sub [(0, (.agg (List.toArray (α := Value) [(.int .i64 a0_0), (.int .i64 a0_1), (.bool a0_2), u0_3, u0_4]))), (1, (.func (.func 104) #[] (List.toArray (α := Value) [(.pointer (some ⟨be0, 0, none⟩)), (.pointer (some ⟨be1, 0, none⟩)), (.pointer (some ⟨be2, 0, none⟩))]))), (2, (.pointer (some ⟨bb1, 0, none⟩))), (7, (.int .i64 a0_1)), (8, (.int .i64 x1)), (9, (.bool (decide (x1 < a0_1)))), (4, (.int .i64 x1)), (12, (.int .i64 a0_0)), (13, (.int .i64 x26)), (14, (.bool x27))] φ' ∧ Mod [some be0, some be1, some be2, ue2_0.ownBlock, ue2_1.ownBlock, ue2_2.ownBlock] h0 h' ∧ Sep [some be0, some be1, some be2, ue2_0.ownBlock, ue2_1.ownBlock, ue2_2.ownBlock] h0.size h' [boxO bb1 [(.int .i64 a0_0), (.int .i64 a0_1), (.bool a0_2), u0_3, u0_4], boxO be0 [(.int .i64 x28), (.int .i64 x29), (.bool x30), ue0_3, ue0_4], boxO be1 [(.int .i64 x31)], boxO be2 [ue2_0, ue2_1, ue2_2], ownO (kF .f32) 29 ue2_0 x32, ownO (kF .f32) 29 ue2_1 x33, ownO (kF .f32) 29 ue2_2 x34]) ?_ ?_
   ·refine W.block ?_
    refine W.loopS (fun (s : (Int × Int × Int × Bool × Int × (List (Option Nat)) × (List (Option Nat)) × (List (Option Nat)))) φ' h' => Fr.sub [(0, (.agg (List.toArray (α := Value) [(.int .i64 a0_0), (.int .i64 a0_1), (.bool a0_2), u0_3, u0_4]))), (1, (.func (.func 104) #[] (List.toArray (α := Value) [(.pointer (some ⟨be0, 0, none⟩)), (.pointer (some ⟨be1, 0, none⟩)), (.pointer (some ⟨be2, 0, none⟩))]))), (2, (.pointer (some ⟨bb1, 0, none⟩))), (7, (.int .i64 a0_1)), (8, (.int .i64 x1)), (9, (.bool (decide (x1 < a0_1)))), (4, (.int .i64 x1)), (12, (.int .i64 a0_0)), (13, (.int .i64 s.1))] φ' ∧ Mod [some be0, some be1, some be2, ue2_0.ownBlock, ue2_1.ownBlock, ue2_2.ownBlock] h0 h' ∧ Sep [some be0, some be1, some be2, ue2_0.ownBlock, ue2_1.ownBlock, ue2_2.ownBlock] h0.size h' [boxO bb1 [(.int .i64 a0_0), (.int .i64 a0_1), (.bool a0_2), u0_3, u0_4], boxO be0 [(.int .i64 s.2.1), (.int .i64 s.2.2.1), (.bool s.2.2.2.1), ue0_3, ue0_4], boxO be1 [(.int .i64 s.2.2.2.2.1)], boxO be2 [ue2_0, ue2_1, ue2_2], ownO (kF .f32) 29 ue2_0 s.2.2.2.2.2.1, ownO (kF .f32) 29 ue2_1 s.2.2.2.2.2.2.1, ownO (kF .f32) 29 ue2_2 s.2.2.2.2.2.2.2]) hy2 ⟨⟨rfl, rfl, rfl, rfl, rfl, rfl, rfl, rfl, rfl, trivial⟩, X_2, (Sep.sel S_2 [0, 1, 2, 3, 4, 5, 6] (by decide))⟩ ?_
    rintro ⟨x18, x19, x20, x21, x22, x23, x24, x25⟩ φ' hp3 o2 ⟨hs3, X_3, S_3⟩ ho2 hy2
    have hs3 : Fr.sub [(0, (.agg (List.toArray (α := Value) [(.int .i64 a0_0), (.int .i64 a0_1), (.bool a0_2), u0_3, u0_4]))), (1, (.func (.func 104) #[] (List.toArray (α := Value) [(.pointer (some ⟨be0, 0, none⟩)), (.pointer (some ⟨be1, 0, none⟩)), (.pointer (some ⟨be2, 0, none⟩))]))), (2, (.pointer (some ⟨bb1, 0, none⟩))), (7, (.int .i64 a0_1)), (8, (.int .i64 x1)), (9, (.bool (decide (x1 < a0_1)))), (4, (.int .i64 x1)), (12, (.int .i64 a0_0)), (13, (.int .i64 x18))] φ' := hs3
    have S_3 : Sep [some be0, some be1, some be2, ue2_0.ownBlock, ue2_1.ownBlock, ue2_2.ownBlock] h0.size hp3 [boxO bb1 [(.int .i64 a0_0), (.int .i64 a0_1), (.bool a0_2), u0_3, u0_4], boxO be0 [(.int .i64 x19), (.int .i64 x20), (.bool x21), ue0_3, ue0_4], boxO be1 [(.int .i64 x22)], boxO be2 [ue2_0, ue2_1, ue2_2], ownO (kF .f32) 29 ue2_0 x23, ownO (kF .f32) 29 ue2_1 x24, ownO (kF .f32) 29 ue2_2 x25] := S_3
    have ho2 : impl_Sheet_each__impl_RampField_1.s1 a0_0 a0_1 a0_2 a0_3 a0_4 ae0_3 ae0_4 x1 x18 x19 x20 x21 x22 x23 x24 x25 = some o2 := ho2
    unfold impl_Sheet_each__impl_RampField_1.s1 at ho2
    refine W.sub hs3 ?_
    refine W.seq ?_
    refine W.region ?_
    refine RL.opD (by decide) (opv_icmp rfl rfl rfl rfl) ?_
    refine RL.nil ?_
    refine thnN ?_
    refine W.seq ?_
    by_cases c2 : (decide (x18 < a0_0)) = true
    ·rw [if_pos c2] at ho2
     refine W.condT rfl c2 ?_
     refine W.skip ?_
     refine thnN ?_
     refine W.seq ?_
     refine W.block ?_
     refine W.seq ?_
     refine W.region ?_
     refine RL.opD (by decide) (opv_move rfl rfl) ?_
     refine RL.opD (by decide) (opv_assign rfl rfl) ?_
     refine RL.nil ?_
     refine thnN ?_
     refine W.region ?_
     refine RL.opD (by decide) (opv_move rfl rfl) ?_
     refine RL.opD (by decide) (opv_move rfl rfl) ?_
     refine RL.opD (by decide) (opv_move rfl rfl) ?_
     refine RL.opD (by decide) (opv_loadA (us := [(.int .i64 a0_0), (.int .i64 a0_1), (.bool a0_2), u0_3, u0_4]) rfl Try.agg33 Try.size33 rfl (Sep.at (o := boxO bb1 [(.int .i64 a0_0), (.int .i64 a0_1), (.bool a0_2), u0_3, u0_4]) S_3 0 rfl) rfl rfl) ?_
     refine RL.opD (by decide) (opv_move rfl rfl) ?_
     refine RL.opD (by decide) (opv_move rfl rfl) ?_
     obtain ⟨x35, hx35, ho2⟩ := Option.bind_eq_some_iff.1 ho2
     refine RL.op _ (by decide) (opv_call (cap := []) (impl_Sheet_at_ok _ _ _ _ _ _ (SL.up (SL.mod g0_3 X_3 hlo hB) (Nat.le_trans hlo (Mod.size X_3))) _ _ (SL.up (SL.mod g0_4 X_3 hlo hB) (Nat.le_trans hlo (Mod.size X_3))) _ _ _ hx35) rfl rfl ⟨rfl, rfl, rfl, trivial⟩ Try.func108 rfl rfl) ?_
     rintro _ hp4 ⟨rfl, MT_2, T_2⟩
     obtain ⟨X_4, S_4⟩ := Sep.turn0 X_3 S_3 MT_2 T_2
     obtain ⟨x36, hx36, ho2⟩ := Option.bind_eq_some_iff.1 ho2
     have S_6 : Sep [some be0, some be1, some be2, ue2_0.ownBlock, ue2_1.ownBlock, ue2_2.ownBlock] h0.size hp4 [boxO be0 [(.int .i64 x19), (.int .i64 x20), (.bool x21), ue0_3, ue0_4], boxO be1 [(.int .i64 x22)], boxO be2 [ue2_0, ue2_1, ue2_2], ownO (kF .f32) 29 ue2_0 x23, ownO (kF .f32) 29 ue2_1 x24, ownO (kF .f32) 29 ue2_2 x25] := Sep.sel S_4 [1, 2, 3, 4, 5, 6] (by decide)
     have S_5 : Sep [some be0, some be1, some be2, ue2_0.ownBlock, ue2_1.ownBlock, ue2_2.ownBlock] hp4.size hp4 [boxO be0 [(.int .i64 x19), (.int .i64 x20), (.bool x21), ue0_3, ue0_4], boxO be1 [(.int .i64 x22)], boxO be2 [ue2_0, ue2_1, ue2_2], ownO (kF .f32) 29 ue2_0 x23, ownO (kF .f32) 29 ue2_1 x24, ownO (kF .f32) 29 ue2_2 x25] := Sep.own S_6 _
     refine RL.op _ (by decide) (opv_call (cap := [(.pointer (some ⟨be0, 0, none⟩)), (.pointer (some ⟨be1, 0, none⟩)), (.pointer (some ⟨be2, 0, none⟩))]) (impl_RampField_1_2_ok _ lo (Nat.le_trans hlo (Mod.size X_4)) _ _ _ _ _ _ _ _ _ (SL.mod ge0_3 X_4 hlo hB) _ _ (SL.mod ge0_4 X_4 hlo hB) _ _ _ _ _ _ _ _ _ S_5 (Sep.ge (L := [boxO be0 [(.int .i64 x19), (.int .i64 x20), (.bool x21), ue0_3, ue0_4], boxO be1 [(.int .i64 x22)], boxO be2 [ue2_0, ue2_1, ue2_2], ownO (kF .f32) 29 ue2_0 x23, ownO (kF .f32) 29 ue2_1 x24, ownO (kF .f32) 29 ue2_2 x25]) S_6 hlo hB) _ hx36) rfl rfl ⟨rfl, rfl, rfl, trivial⟩ Try.func104 rfl rfl) ?_
     rintro _ hp5 ⟨rfl, MT_3, T_3⟩
     have S_7 : Sep [some be0, some be1, some be2, ue2_0.ownBlock, ue2_1.ownBlock, ue2_2.ownBlock] h0.size hp4 ([boxO be0 [(.int .i64 x19), (.int .i64 x20), (.bool x21), ue0_3, ue0_4], boxO be1 [(.int .i64 x22)], boxO be2 [ue2_0, ue2_1, ue2_2], ownO (kF .f32) 29 ue2_0 x23, ownO (kF .f32) 29 ue2_1 x24, ownO (kF .f32) 29 ue2_2 x25] ++ [boxO bb1 [(.int .i64 a0_0), (.int .i64 a0_1), (.bool a0_2), u0_3, u0_4]]) := Sep.sel S_4 [1, 2, 3, 4, 5, 6, 0] (by decide)
     obtain ⟨X_5, S_8⟩ := Sep.turn X_4 S_7 MT_3 T_3
     refine RL.nil ?_
     refine blkN ?_
     refine thnN ?_
     refine W.region ?_
     refine RL.opD (by decide) (opv_add rfl rfl rfl) ?_
     refine RL.opD (by decide) (opv_move rfl rfl) ?_
     refine RL.nil ?_
     have eo2 := Option.some.inj ho2
     subst eo2
     refine rndN (s' := (IntKind.wrap .i64 (x18 + 1), x36.1, x36.2.1, x36.2.2.1, x36.2.2.2.1, x36.2.2.2.2.1, x36.2.2.2.2.2.1, x36.2.2.2.2.2.2)) rfl ?_
     exact ⟨⟨rfl, rfl, rfl, rfl, rfl, rfl, rfl, rfl, rfl, trivial⟩, X_5, (Sep.sel S_8 [6, 0, 1, 2, 3, 4, 5] (by decide))⟩
    ·rw [if_neg c2] at ho2
     have c2 := eq_false_of_ne_true c2
     refine W.condF rfl c2 ?_
     refine W.exit ?_
     refine thnX ?_
     refine rndX ?_
     refine blkI ?_
     have eo2 := Option.some.inj ho2
     subst eo2
     have ey2 := hy2 _ rfl
     subst ey2
     refine onlyN ?_
     exact ⟨x18, decide (x18 < a0_0), x19, x20, x21, x22, x23, x24, x25, rfl, ⟨rfl, rfl, rfl, rfl, rfl, rfl, rfl, rfl, rfl, rfl, trivial⟩, X_3, (Sep.sel S_3 [0, 1, 2, 3, 4, 5, 6] (by decide))⟩
   rintro φ' hp6 ⟨x26, x27, x28, x29, x30, x31, x32, x33, x34, rfl, hs4, X_6, S_9⟩
   try dsimp only at ho1
   refine blkN ?_
   refine thnN ?_
   refine W.sub hs4 ?_
   refine W.region ?_
   refine RL.opD (by decide) (opv_add rfl rfl rfl) ?_
   refine RL.opD (by decide) (opv_move rfl rfl) ?_
   refine RL.nil ?_
   have eo1 := Option.some.inj ho1
   subst eo1
   refine rndN (s' := (IntKind.wrap .i64 (x1 + 1), x28, x29, x30, x31, x32, x33, x34)) rfl ?_
   exact ⟨⟨rfl, rfl, rfl, rfl, rfl, trivial⟩, X_6, (Sep.sel S_9 [0, 1, 2, 3, 4, 5, 6] (by decide))⟩
  ·rw [if_neg c1] at ho1
   have c1 := eq_false_of_ne_true c1
   refine W.condF rfl c1 ?_
   refine W.exit ?_
   refine thnX ?_
   refine rndX ?_
   refine blkI ?_
   have eo1 := Option.some.inj ho1
   subst eo1
   have ey1 := hy1 _ rfl
   subst ey1
   refine onlyN ?_
   exact ⟨x1, decide (x1 < a0_1), x2, x3, x4, x5, x6, x7, x8, rfl, ⟨rfl, rfl, rfl, rfl, rfl, rfl, trivial⟩, X_2, (Sep.sel S_2 [0, 1, 2, 3, 4, 5, 6] (by decide))⟩
 rintro φ' hp7 ⟨x9, x10, x11, x12, x13, x14, x15, x16, x17, rfl, hs2, X_7, S_10⟩
 try dsimp only at hp
 have er := Option.some.inj hp
 subst er
 exact Rt.none' rfl ⟨rfl, X_7, (Sep.sel S_10 [1, 2, 3, 4, 5, 6] (by decide))⟩

set_option maxRecDepth 20000 in
theorem impl_RampField_ok (h0 : Heap) (a0_0 : Int) (a0_1 : Int) (a0_2 : Bool) (u0_3 : Value) (a0_3 : List (Option Nat)) (g0_3 : SL (kF .f32) h0.size h0 u0_3 a0_3) (u0_4 : Value) (a0_4 : List (Option Nat)) (g0_4 : SL (kF .f32) h0.size h0 u0_4 a0_4) (u1_0 : Value) (a1_0 : List (Option Nat)) (g1_0 : SL (kF .f32) h0.size h0 u1_0 a1_0) (u1_1 : Value) (a1_1 : List (Option Nat)) (g1_1 : SL (kF .f32) h0.size h0 u1_1 a1_1) (u1_2 : Value) (a1_2 : List (Option Nat)) (g1_2 : SL (kF .f32) h0.size h0 u1_2 a1_2) (a2 : Int) (r : ((List (Option Nat)) × (List (Option Nat)) × (List (Option Nat)) × Bool)) (hp : impl_RampField a0_0 a0_1 a0_2 a0_3 a0_4 a1_0 a1_1 a1_2 a2 = some r) : CallsH Try.prog 41 ([(.agg (List.toArray (α := Value) [(.int .i64 a0_0), (.int .i64 a0_1), (.bool a0_2), u0_3, u0_4])), (.agg (List.toArray (α := Value) [u1_0, u1_1, u1_2])), (.int .i64 a2)].toArray ++ [].toArray) h0 (fun v h' => ∃ w0, ∃ w1, ∃ w2, v = (.tuple (List.toArray (α := Value) [(.agg (List.toArray (α := Value) [w0, w1, w2])), (.bool r.2.2.2)])) ∧ Mod [] h0 h' ∧ Sep [] h0.size h' [ownO (kF .f32) 29 w0 r.1, ownO (kF .f32) 29 w1 r.2.1, ownO (kF .f32) 29 w2 r.2.2.1]) := by
 unfold impl_RampField at hp
 refine callsH_of_W (l := [(.agg (List.toArray (α := Value) [(.int .i64 a0_0), (.int .i64 a0_1), (.bool a0_2), u0_3, u0_4])), (.agg (List.toArray (α := Value) [u1_0, u1_1, u1_2])), (.int .i64 a2)]) (cap := []) 29 Try.func41 rfl rfl rfl ?_
 refine W.seq ?_
 refine W.region ?_
 refine RL.op _ (by decide) (opS_boxed (opv_boxA (cs := [(.int .i64 a0_0), (.int .i64 a0_1), (.bool a0_2), u0_3, u0_4]) rfl rfl)) ?_
 rintro _ hp1 ⟨bb1, rfl, MT_1, T_1⟩
 obtain ⟨X_1, S_1⟩ := Sep.turn0 (Mod.refl [] h0) (Sep.nil [] h0.size h0) MT_1 T_1
 refine RL.op _ (by decide) (opS_boxed (opv_boxA (cs := [u1_0, u1_1, u1_2]) rfl rfl)) ?_
 rintro _ hp2 ⟨bb2, rfl, MT_2, T_2⟩
 obtain ⟨X_2, S_2⟩ := Sep.turn0 X_1 S_1 MT_2 T_2
 refine RL.op _ (by decide) (opS_boxed (opv_box1 rfl rfl rfl)) ?_
 rintro _ hp3 ⟨bb3, rfl, MT_3, T_3⟩
 obtain ⟨X_3, S_3⟩ := Sep.turn0 X_2 S_2 MT_3 T_3
 refine RL.op _ (by decide) (opS_boxed (opv_alloc (cs := [(.slice none 0 0), (.slice none 0 0), (.slice none 0 0)]) rfl Try.zero37 rfl)) ?_
 rintro _ hp4 ⟨bb4, rfl, MT_4, T_4⟩
 obtain ⟨X_4, S_4⟩ := Sep.turn0 X_3 S_3 MT_4 T_4
 refine RL.opD (by decide) (opv_assign rfl rfl) ?_
 refine RL.nil ?_
 refine thnN ?_
 refine W.seq ?_
 refine W.seq ?_
 obtain ⟨x1, hy1, hp⟩ := Option.bind_eq_some_iff.1 hp
 refine W.cut (fun φ' h' => Fr.sub [(0, (.agg (List.toArray (α := Value) [(.int .i64 a0_0), (.int .i64 a0_1), (.bool a0_2), u0_3, u0_4]))), (1, (.agg (List.toArray (α := Value) [u1_0, u1_1, u1_2]))), (2, (.int .i64 a2)), (3, (.pointer (some ⟨bb1, 0, none⟩))), (4, (.pointer (some ⟨bb2, 0, none⟩))), (5, (.pointer (some ⟨bb3, 0, none⟩))), (6, (.pointer (some ⟨bb4, 0, none⟩))), (7, (.bool false)), (17, (.bool x1))] φ' ∧ Mod [] h0 h' ∧ Sep [] h0.size h' [boxO bb4 [(.slice none 0 0), (.slice none 0 0), (.slice none 0 0)], boxO bb3 [(.int .i64 a2)], boxO bb2 [u1_0, u1_1, u1_2], boxO bb1 [(.int .i64 a0_0), (.int .i64 a0_1), (.bool a0_2), u0_3, u0_4]]) ?_ ?_
 ·refine W.region ?_
  refine RL.opD (by decide) (opv_loadA (us := [(.int .i64 a0_0), (.int .i64 a0_1), (.bool a0_2), u0_3, u0_4]) rfl Try.agg33 Try.size33 rfl (Sep.at (o := boxO bb1 [(.int .i64 a0_0), (.int .i64 a0_1), (.bool a0_2), u0_3, u0_4]) S_4 3 rfl) rfl rfl) ?_
  refine RL.opD (by decide) (opv_loadA (us := [u1_0, u1_1, u1_2]) rfl Try.agg37 Try.size37 rfl (Sep.at (o := boxO bb2 [u1_0, u1_1, u1_2]) S_4 2 rfl) rfl rfl) ?_
  obtain ⟨x2, hx2, hy1⟩ := Option.bind_eq_some_iff.1 hy1
  refine RL.op _ (by decide) (opv_call (cap := []) (impl_IsField_ok _ _ _ _ _ _ (SL.up (SL.mod g0_3 X_4 (Nat.le_refl _) nob) (Nat.le_trans (Nat.le_refl _) (Mod.size X_4))) _ _ (SL.up (SL.mod g0_4 X_4 (Nat.le_refl _) nob) (Nat.le_trans (Nat.le_refl _) (Mod.size X_4))) _ _ (SL.up (SL.mod g1_0 X_4 (Nat.le_refl _) nob) (Nat.le_trans (Nat.le_refl _) (Mod.size X_4))) _ _ (SL.up (SL.mod g1_1 X_4 (Nat.le_refl _) nob) (Nat.le_trans (Nat.le_refl _) (Mod.size X_4))) _ _ (SL.up (SL.mod g1_2 X_4 (Nat.le_refl _) nob) (Nat.le_trans (Nat.le_refl _) (Mod.size X_4))) _ hx2) rfl rfl ⟨rfl, rfl, trivial⟩ Try.func46 rfl rfl) ?_
  rintro _ hp5 ⟨rfl, MT_5, T_5⟩
  obtain ⟨X_5, S_5⟩ := Sep.turn0 X_4 S_4 MT_5 T_5
  refine RL.opD (by decide) (opv_not rfl rfl) ?_
  refine RL.opD (by decide) (opv_move rfl rfl) ?_
  by_cases c1 : (!x2) = true
  ·rw [if_pos c1] at hy1
   refine RL.noT rfl rfl c1 (by decide) ?_
   refine RL.noT rfl rfl c1 (by decide) ?_
   refine RL.noT rfl rfl c1 (by decide) ?_
   refine RL.opD (by decide) (opv_pick rfl rfl (fun _ => rfl) (fun e => absurd (Eq.trans (Eq.symm e) c1) (by decide)) rfl) ?_
   refine RL.nil ?_
   have ey1 := Option.some.inj hy1
   subst ey1
   refine onlyN ?_
   exact ⟨⟨rfl, rfl, rfl, rfl, rfl, rfl, rfl, rfl, rfl, trivial⟩, X_5, (Sep.sel S_5 [0, 1, 2, 3] (by decide))⟩
  ·rw [if_neg c1] at hy1
   have c1 := eq_false_of_ne_true c1
   refine RL.yesD rfl rfl c1 (by decide) (opv_loadB rfl Try.one2 rfl (Sep.at (o := boxO bb3 [(.int .i64 a2)]) S_5 1 rfl) rfl) ?_
   obtain ⟨x3, hx3, hy1⟩ := Option.bind_eq_some_iff.1 hy1
   refine RL.yes _ rfl rfl c1 (by decide) (opv_call (cap := []) (impl_isWidth_ok _ _ _ hx3) rfl rfl ⟨rfl, trivial⟩ Try.func98 rfl rfl) ?_
   rintro _ _ ⟨rfl, rfl⟩
   refine RL.yesD rfl rfl c1 (by decide) (opv_not rfl rfl) ?_
   refine RL.opD (by decide) (opv_pick rfl rfl (fun e => absurd (Eq.trans (Eq.symm e) c1) (by decide)) (fun _ => rfl) rfl) ?_
   refine RL.nil ?_
   have ey1 := Option.some.inj hy1
   subst ey1
   refine onlyN ?_
   exact ⟨⟨rfl, rfl, rfl, rfl, rfl, rfl, rfl, rfl, rfl, trivial⟩, X_5, (Sep.sel S_5 [0, 1, 2, 3] (by decide))⟩
 rintro φ' hp6 ⟨hs1, X_6, S_6⟩
 refine thnN ?_
 refine W.sub hs1 ?_
 by_cases c2 : x1 = true
 ·rw [if_pos c2] at hp
  refine W.condT rfl c2 ?_
  refine W.seq ?_
  refine W.region ?_
  refine RL.opD (by decide) (opv_build (cs := [(.slice none 0 0), (.slice none 0 0), (.slice none 0 0)]) [] [] rfl Try.bd37 trivial rfl) ?_
  refine RL.op0 _ (opS_stored (cs := [(.slice none 0 0), (.slice none 0 0), (.slice none 0 0)]) (cs' := [(.slice none 0 0), (.slice none 0 0), (.slice none 0 0)]) (opv_storeA (us := [(.slice none 0 0), (.slice none 0 0), (.slice none 0 0)]) rfl Try.size37 rfl rfl (oneAll rfl (oneAll rfl (oneAll rfl rfl))) (Sep.at (o := boxO bb4 [(.slice none 0 0), (.slice none 0 0), (.slice none 0 0)]) S_6 0 rfl) rfl rfl) (Sep.at (o := boxO bb4 [(.slice none 0 0), (.slice none 0 0), (.slice none 0 0)]) S_6 0 rfl)) ?_
  rintro _ hp7 ⟨rfl, MT_6, T_6⟩
  have S_7 : Sep [] h0.size hp6 ([boxO bb4 [(.slice none 0 0), (.slice none 0 0), (.slice none 0 0)]] ++ [boxO bb3 [(.int .i64 a2)], boxO bb2 [u1_0, u1_1, u1_2], boxO bb1 [(.int .i64 a0_0), (.int .i64 a0_1), (.bool a0_2), u0_3, u0_4]]) := Sep.sel S_6 [0, 1, 2, 3] (by decide)
  obtain ⟨X_7, S_8⟩ := Sep.turn X_6 S_7 MT_6 T_6
  refine RL.opD (by decide) (opv_assign rfl rfl) ?_
  refine RL.nil ?_
  refine thnN ?_
  refine W.ret ?_
  refine thnR ?_
  have S_9 : Sep [] h0.size hp7 [ownO (kF .f32) 29 (.slice none 0 0) ([] : List (Option Nat)), boxO bb4 [(.slice none 0 0), (.slice none 0 0), (.slice none 0 0)], boxO bb3 [(.int .i64 a2)], boxO bb2 [u1_0, u1_1, u1_2], boxO bb1 [(.int .i64 a0_0), (.int .i64 a0_1), (.bool a0_2), u0_3, u0_4]] := Sep.addNil S_8
  have S_10 : Sep [] h0.size hp7 [ownO (kF .f32) 29 (.slice none 0 0) ([] : List (Option Nat)), ownO (kF .f32) 29 (.slice none 0 0) ([] : List (Option Nat)), boxO bb4 [(.slice none 0 0), (.slice none 0 0), (.slice none 0 0)], boxO bb3 [(.int .i64 a2)], boxO bb2 [u1_0, u1_1, u1_2], boxO bb1 [(.int .i64 a0_0), (.int .i64 a0_1), (.bool a0_2), u0_3, u0_4]] := Sep.addNil S_9
  have S_11 : Sep [] h0.size hp7 [ownO (kF .f32) 29 (.slice none 0 0) ([] : List (Option Nat)), ownO (kF .f32) 29 (.slice none 0 0) ([] : List (Option Nat)), ownO (kF .f32) 29 (.slice none 0 0) ([] : List (Option Nat)), boxO bb4 [(.slice none 0 0), (.slice none 0 0), (.slice none 0 0)], boxO bb3 [(.int .i64 a2)], boxO bb2 [u1_0, u1_1, u1_2], boxO bb1 [(.int .i64 a0_0), (.int .i64 a0_1), (.bool a0_2), u0_3, u0_4]] := Sep.addNil S_10
  have er := Option.some.inj hp
  subst er
  exact Rt.cellA rfl rfl rfl Try.agg37 Try.size37 (Sep.at (o := boxO bb4 [(.slice none 0 0), (.slice none 0 0), (.slice none 0 0)]) S_11 3 rfl) rfl ⟨(.slice none 0 0), (.slice none 0 0), (.slice none 0 0), rfl, X_7, (Sep.sel S_11 [2, 1, 0] (by decide))⟩
 ·rw [if_neg c2] at hp
  have c2 := eq_false_of_ne_true c2
  refine W.condF rfl c2 ?_
  refine W.skip ?_
  refine thnN ?_
  refine W.seq ?_
  refine W.region ?_
  refine RL.opD (by decide) (opv_loadA (us := [u1_0, u1_1, u1_2]) rfl Try.agg37 Try.size37 rfl (Sep.at (o := boxO bb2 [u1_0, u1_1, u1_2]) S_6 2 rfl) rfl rfl) ?_
  obtain ⟨x4, hx4, hp⟩ := Option.bind_eq_some_iff.1 hp
  refine RL.op _ (by decide) (opv_call (cap := []) (impl_copyField_ok _ _ _ (SL.up (SL.mod g1_0 X_6 (Nat.le_refl _) nob) (Nat.le_trans (Nat.le_refl _) (Mod.size X_6))) _ _ (SL.up (SL.mod g1_1 X_6 (Nat.le_refl _) nob) (Nat.le_trans (Nat.le_refl _) (Mod.size X_6))) _ _ (SL.up (SL.mod g1_2 X_6 (Nat.le_refl _) nob) (Nat.le_trans (Nat.le_refl _) (Mod.size X_6))) _ hx4) rfl rfl ⟨rfl, trivial⟩ Try.func78 rfl rfl) ?_
  rintro _ hp8 ⟨v1, v2, v3, rfl, MT_7, T_7⟩
  obtain ⟨X_8, S_12⟩ := Sep.turn0 X_6 S_6 MT_7 T_7
  refine RL.op _ (by decide) (opS_boxed (opv_alloc (cs := [(.slice none 0 0), (.slice none 0 0), (.slice none 0 0)]) rfl Try.zero37 rfl)) ?_
  rintro _ hp9 ⟨bb5, rfl, MT_8, T_8⟩
  obtain ⟨X_9, S_13⟩ := Sep.turn0 X_8 S_12 MT_8 T_8
  refine RL.op0 _ (opS_stored (cs := [(.slice none 0 0), (.slice none 0 0), (.slice none 0 0)]) (cs' := [v1, v2, v3]) (opv_storeA (us := [v1, v2, v3]) rfl Try.size37 rfl rfl (oneAll (ownO.one (Sep.at (o := ownO (kF .f32) 29 v1 x4.1) S_13 1 rfl)) (oneAll (ownO.one (Sep.at (o := ownO (kF .f32) 29 v2 x4.2.1) S_13 2 rfl)) (oneAll (ownO.one (Sep.at (o := ownO (kF .f32) 29 v3 x4.2.2) S_13 3 rfl)) rfl))) (Sep.at (o := boxO bb5 [(.slice none 0 0), (.slice none 0 0), (.slice none 0 0)]) S_13 0 rfl) rfl rfl) (Sep.at (o := boxO bb5 [(.slice none 0 0), (.slice none 0 0), (.slice none 0 0)]) S_13 0 rfl)) ?_
  rintro _ hp10 ⟨rfl, MT_9, T_9⟩
  have S_14 : Sep [] h0.size hp9 ([boxO bb5 [(.slice none 0 0), (.slice none 0 0), (.slice none 0 0)]] ++ [ownO (kF .f32) 29 v1 x4.1, ownO (kF .f32) 29 v2 x4.2.1, ownO (kF .f32) 29 v3 x4.2.2, boxO bb4 [(.slice none 0 0), (.slice none 0 0), (.slice none 0 0)], boxO bb3 [(.int .i64 a2)], boxO bb2 [u1_0, u1_1, u1_2], boxO bb1 [(.int .i64 a0_0), (.int .i64 a0_1), (.bool a0_2), u0_3, u0_4]]) := Sep.sel S_13 [0, 1, 2, 3, 4, 5, 6, 7] (by decide)
  obtain ⟨X_10, S_15⟩ := Sep.turn X_9 S_14 MT_9 T_9
  refine RL.nil ?_
  refine thnN ?_
  refine W.seq ?_
  refine W.region ?_
  refine RL.opD (by decide) (opv_loadA (us := [(.int .i64 a0_0), (.int .i64 a0_1), (.bool a0_2), u0_3, u0_4]) rfl Try.agg33 Try.size33 rfl (Sep.at (o := boxO bb1 [(.int .i64 a0_0), (.int .i64 a0_1), (.bool a0_2), u0_3, u0_4]) S_15 7 rfl) rfl rfl) ?_
  refine RL.opD (by decide) (opv_makeFunc (vs := [(.pointer (some ⟨bb1, 0, none⟩)), (.pointer (some ⟨bb3, 0, none⟩)), (.pointer (some ⟨bb5, 0, none⟩))]) rfl ⟨rfl, rfl, rfl, trivial⟩) ?_
  obtain ⟨x5, hx5, hp⟩ := Option.bind_eq_some_iff.1 hp
  have S_17 : Sep [] h0.size hp10 [boxO bb1 [(.int .i64 a0_0), (.int .i64 a0_1), (.bool a0_2), u0_3, u0_4], boxO bb3 [(.int .i64 a2)], boxO bb5 [v1, v2, v3], ownO (kF .f32) 29 v1 x4.1, ownO (kF .f32) 29 v2 x4.2.1, ownO (kF .f32) 29 v3 x4.2.2] := Sep.sel S_15 [7, 5, 0, 1, 2, 3] (by decide)
  have S_16 : Sep [some bb1, some bb3, some bb5, v1.ownBlock, v2.ownBlock, v3.ownBlock] hp10.size hp10 [boxO bb1 [(.int .i64 a0_0), (.int .i64 a0_1), (.bool a0_2), u0_3, u0_4], boxO bb3 [(.int .i64 a2)], boxO bb5 [v1, v2, v3], ownO (kF .f32) 29 v1 x4.1, ownO (kF .f32) 29 v2 x4.2.1, ownO (kF .f32) 29 v3 x4.2.2] := Sep.own S_17 _
  refine RL.op _ (by decide) (opv_call (cap := []) (impl_Sheet_each__impl_RampField_1_ok _ h0.size (Nat.le_trans (Nat.le_refl _) (Mod.size X_10)) _ _ _ _ _ (SL.mod g0_3 X_10 (Nat.le_refl _) nob) _ _ (SL.mod g0_4 X_10 (Nat.le_refl _) nob) _ _ _ _ _ _ (SL.mod g0_3 X_10 (Nat.le_refl _) nob) _ _ (SL.mod g0_4 X_10 (Nat.le_refl _) nob) _ _ _ _ _ _ _ _ _ S_16 (Sep.ge (L := [boxO bb1 [(.int .i64 a0_0), (.int .i64 a0_1), (.bool a0_2), u0_3, u0_4], boxO bb3 [(.int .i64 a2)], boxO bb5 [v1, v2, v3], ownO (kF .f32) 29 v1 x4.1, ownO (kF .f32) 29 v2 x4.2.1, ownO (kF .f32) 29 v3 x4.2.2]) S_17 (Nat.le_refl _) nob) _ hx5) rfl rfl ⟨rfl, rfl, trivial⟩ Try.func101 rfl rfl) ?_
  rintro _ hp11 ⟨rfl, MT_10, T_10⟩
  have S_18 : Sep [] h0.size hp10 ([boxO bb1 [(.int .i64 a0_0), (.int .i64 a0_1), (.bool a0_2), u0_3, u0_4], boxO bb3 [(.int .i64 a2)], boxO bb5 [v1, v2, v3], ownO (kF .f32) 29 v1 x4.1, ownO (kF .f32) 29 v2 x4.2.1, ownO (kF .f32) 29 v3 x4.2.2] ++ [boxO bb4 [(.slice none 0 0), (.slice none 0 0), (.slice none 0 0)], boxO bb2 [u1_0, u1_1, u1_2]]) := Sep.sel S_15 [7, 5, 0, 1, 2, 3, 4, 6] (by decide)
  obtain ⟨X_11, S_19⟩ := Sep.turn X_10 S_18 MT_10 T_10
  refine RL.nil ?_
  refine thnN ?_
  refine W.seq ?_
  refine W.region ?_
  refine RL.opD (by decide) (opv_loadA (us := [(.int .i64 x5.1), (.int .i64 x5.2.1), (.bool x5.2.2.1), u0_3, u0_4]) rfl Try.agg33 Try.size33 rfl (Sep.at (o := boxO bb1 [(.int .i64 x5.1), (.int .i64 x5.2.1), (.bool x5.2.2.1), u0_3, u0_4]) S_19 0 rfl) rfl rfl) ?_
  refine RL.opD (by decide) (opv_loadA (us := [v1, v2, v3]) rfl Try.agg37 Try.size37 rfl (Sep.at (o := boxO bb5 [v1, v2, v3]) S_19 2 rfl) rfl rfl) ?_
  obtain ⟨x6, hx6, hp⟩ := Option.bind_eq_some_iff.1 hp
  have S_21 : Sep [] h0.size hp11 [ownO (kF .f32) 29 v1 x5.2.2.2.2.1, ownO (kF .f32) 29 v2 x5.2.2.2.2.2.1, ownO (kF .f32) 29 v3 x5.2.2.2.2.2.2] := Sep.sel S_19 [3, 4, 5] (by decide)
  have S_20 : Sep [v1.ownBlock, v2.ownBlock, v3.ownBlock] hp11.size hp11 [ownO (kF .f32) 29 v1 x5.2.2.2.2.1, ownO (kF .f32) 29 v2 x5.2.2.2.2.2.1, ownO (kF .f32) 29 v3 x5.2.2.2.2.2.2] := Sep.own S_21 _
  refine RL.op _ (by decide) (opv_call (cap := []) (impl_validField_ok _ h0.size (Nat.le_trans (Nat.le_refl _) (Mod.size X_11)) _ _ _ _ _ (SL.mod g0_3 X_11 (Nat.le_refl _) nob) _ _ (SL.mod g0_4 X_11 (Nat.le_refl _) nob) _ _ _ _ _ _ S_20 (Sep.ge (L := [ownO (kF .f32) 29 v1 x5.2.2.2.2.1, ownO (kF .f32) 29 v2 x5.2.2.2.2.2.1, ownO (kF .f32) 29 v3 x5.2.2.2.2.2.2]) S_21 (Nat.le_refl _) nob) _ hx6) rfl rfl ⟨rfl, rfl, trivial⟩ Try.func79 rfl rfl) ?_
  rintro _ hp12 ⟨v4, v5, v6, rfl, MT_11, T_11⟩
  have S_22 : Sep [] h0.size hp11 ([ownO (kF .f32) 29 v1 x5.2.2.2.2.1, ownO (kF .f32) 29 v2 x5.2.2.2.2.2.1, ownO (kF .f32) 29 v3 x5.2.2.2.2.2.2] ++ [boxO bb1 [(.int .i64 x5.1), (.int .i64 x5.2.1), (.bool x5.2.2.1), u0_3, u0_4], boxO bb3 [(.int .i64 x5.2.2.2.1)], boxO bb5 [v1, v2, v3], boxO bb4 [(.slice none 0 0), (.slice none 0 0), (.slice none 0 0)], boxO bb2 [u1_0, u1_1, u1_2]]) := Sep.sel S_19 [3, 4, 5, 0, 1, 2, 6, 7] (by decide)
  obtain ⟨X_12, S_23⟩ := Sep.turn X_11 S_22 MT_11 T_11
  refine RL.opD (by decide) (opv_extract rfl rfl rfl) ?_
  refine RL.opD (by decide) (opv_extract rfl rfl rfl) ?_
  refine RL.op0 _ (opS_stored (cs := [(.slice none 0 0), (.slice none 0 0), (.slice none 0 0)]) (cs' := [v4, v5, v6]) (opv_storeA (us := [v4, v5, v6]) rfl Try.size37 rfl rfl (oneAll (ownO.one (Sep.at (o := ownO (kF .f32) 29 v4 x6.1) S_23 0 rfl)) (oneAll (ownO.one (Sep.at (o := ownO (kF .f32) 29 v5 x6.2.1) S_23 1 rfl)) (oneAll (ownO.one (Sep.at (o := ownO (kF .f32) 29 v6 x6.2.2.1) S_23 2 rfl)) rfl))) (Sep.at (o := boxO bb4 [(.slice none 0 0), (.slice none 0 0), (.slice none 0 0)]) S_23 6 rfl) rfl rfl) (Sep.at (o := boxO bb4 [(.slice none 0 0), (.slice none 0 0), (.slice none 0 0)]) S_23 6 rfl)) ?_
  rintro _ hp13 ⟨rfl, MT_12, T_12⟩
  have S_24 : Sep [] h0.size hp12 ([boxO bb4 [(.slice none 0 0), (.slice none 0 0), (.slice none 0 0)]] ++ [ownO (kF .f32) 29 v4 x6.1, ownO (kF .f32) 29 v5 x6.2.1, ownO (kF .f32) 29 v6 x6.2.2.1, boxO bb1 [(.int .i64 x5.1), (.int .i64 x5.2.1), (.bool x5.2.2.1), u0_3, u0_4], boxO bb3 [(.int .i64 x5.2.2.2.1)], boxO bb5 [v1, v2, v3], boxO bb2 [u1_0, u1_1, u1_2]]) := Sep.sel S_23 [6, 0, 1, 2, 3, 4, 5, 7] (by decide)
  obtain ⟨X_13, S_25⟩ := Sep.turn X_12 S_24 MT_12 T_12
  refine RL.opD (by decide) (opv_assign rfl rfl) ?_
  refine RL.nil ?_
  refine thnN ?_
  refine W.ret ?_
  have er := Option.some.inj hp
  subst er
  exact Rt.cellA rfl rfl rfl Try.agg37 Try.size37 (Sep.at (o := boxO bb4 [v4, v5, v6]) S_25 0 rfl) rfl ⟨v4, v5, v6, rfl, X_13, (Sep.sel S_25 [1, 2, 3] (by decide))⟩

end Go.H
