/- Functions of the program: what each computes, as a plain function, and that the call comes to it. Written by a program (wip/gen). -/
import Derived.Test.YtmgoblppedmdhaaGMax
import Derived.Test.YtmgoblppedmdhaaGBase
import Derived.Test.YtmgoblppedmdhaaGSheet
import Derived.Test.YtmgoblppedmdhaaGField
import Derived.Test.YtmgoblppedmdhaaGRect
import Derived.Test.YtmgoblppedmdhaaLib2
import Derived.Test.YtmgoblppedmdhaaProg
import Derived.KernelRfl
set_option linter.unusedVariables false
namespace Go.H
open Go Go.Proofs



noncomputable def impl_GradeLosses_1_2 (a0 : Int) (a1 : Int) (a2 : Int) (ae0_0 : Int) (ae0_1 : Int) (ae0_2 : Bool) (ae0_3 : List (Option Nat)) (ae0_4 : List (Option Nat)) (ae1_0 : Int) (ae2_0 : Int) (ae2_1 : Int) (ae2_2 : Bool) (ae2_3 : List (Option Nat)) (ae2_4 : List (Option Nat)) (ae3_0 : Option Nat) : Option (Int × Int × Bool × Int × Int × Int × Bool × (List (Option Nat)) × (List (Option Nat)) × (Option Nat)) :=
 ((impl_Sheet_depth ae0_0 ae0_1 ae0_2 ae0_3 ae0_4 a0 a1).bind fun (x1 : Int) => (((if (decide (x1 < ae1_0)) = true then ((idx ae2_4 a2).bind fun (x3 : Option Nat) => (((if (fcmp .gtr .f32 (fop .add .f32 x3 (fop .mul .f32 ae3_0 (fop .mul .f32 (fop .quo .f32 (fofi .f32 (IntKind.wrap .i64 (ae1_0 - x1))) (fofi .f32 ae1_0)) (fop .quo .f32 (fofi .f32 (IntKind.wrap .i64 (ae1_0 - x1))) (fofi .f32 ae1_0))))) (some 1065353216)) = true then some (some 1065353216) else some (fop .add .f32 x3 (fop .mul .f32 ae3_0 (fop .mul .f32 (fop .quo .f32 (fofi .f32 (IntKind.wrap .i64 (ae1_0 - x1))) (fofi .f32 ae1_0)) (fop .quo .f32 (fofi .f32 (IntKind.wrap .i64 (ae1_0 - x1))) (fofi .f32 ae1_0)))))) : Option (Option Nat)).bind fun (x4 : Option Nat) => ((idx ae2_4 a2).bind fun (x5 : Option Nat) => ((setF ae2_4 a2 x4).bind fun (x6 : List (Option Nat)) => some x6)))) else some ae2_4) : Option (List (Option Nat))).bind fun (x2 : List (Option Nat)) => some (ae0_0, ae0_1, ae0_2, ae1_0, ae2_0, ae2_1, ae2_2, ae2_3, x2, ae3_0)))

noncomputable def impl_Sheet_each__impl_GradeLosses_1.s1 (a0_0 : Int) (a0_1 : Int) (a0_2 : Bool) (a0_3 : List (Option Nat)) (a0_4 : List (Option Nat)) (ae0_3 : List (Option Nat)) (ae0_4 : List (Option Nat)) (x1 : Int) (x24 : Int) (x25 : Int) (x26 : Int) (x27 : Bool) (x28 : Int) (x29 : Int) (x30 : Int) (x31 : Bool) (x32 : List (Option Nat)) (x33 : List (Option Nat)) (x34 : Option Nat) : Option ((Int × Int × Int × Bool × Int × Int × Int × Bool × (List (Option Nat)) × (List (Option Nat)) × (Option Nat)) ⊕ (Int × Bool × Int × Int × Bool × Int × Int × Int × Bool × (List (Option Nat)) × (List (Option Nat)) × (Option Nat))) :=
 (if (decide (x24 < a0_0)) = true then ((impl_Sheet_at a0_0 a0_1 a0_2 a0_3 a0_4 x24 x1).bind fun (x47 : Int) => ((impl_GradeLosses_1_2 x24 x1 x47 x25 x26 x27 ae0_3 ae0_4 x28 x29 x30 x31 x32 x33 x34).bind fun (x48 : (Int × Int × Bool × Int × Int × Int × Bool × (List (Option Nat)) × (List (Option Nat)) × (Option Nat))) => some (.inl (IntKind.wrap .i64 (x24 + 1), x48.1, x48.2.1, x48.2.2.1, x48.2.2.2.1, x48.2.2.2.2.1, x48.2.2.2.2.2.1, x48.2.2.2.2.2.2.1, x48.2.2.2.2.2.2.2.1, x48.2.2.2.2.2.2.2.2.1, x48.2.2.2.2.2.2.2.2.2)))) else some (.inr (x24, decide (x24 < a0_0), x25, x26, x27, x28, x29, x30, x31, x32, x33, x34)))

noncomputable def impl_Sheet_each__impl_GradeLosses_1.s0 (a0_0 : Int) (a0_1 : Int) (a0_2 : Bool) (a0_3 : List (Option Nat)) (a0_4 : List (Option Nat)) (ae0_3 : List (Option Nat)) (ae0_4 : List (Option Nat)) (x1 : Int) (x2 : Int) (x3 : Int) (x4 : Bool) (x5 : Int) (x6 : Int) (x7 : Int) (x8 : Bool) (x9 : List (Option Nat)) (x10 : List (Option Nat)) (x11 : Option Nat) : Option ((Int × Int × Int × Bool × Int × Int × Int × Bool × (List (Option Nat)) × (List (Option Nat)) × (Option Nat)) ⊕ (Int × Bool × Int × Int × Bool × Int × Int × Int × Bool × (List (Option Nat)) × (List (Option Nat)) × (Option Nat))) :=
 (if (decide (x1 < a0_1)) = true then ((loopF (fun (s : (Int × Int × Int × Bool × Int × Int × Int × Bool × (List (Option Nat)) × (List (Option Nat)) × (Option Nat))) => impl_Sheet_each__impl_GradeLosses_1.s1 a0_0 a0_1 a0_2 a0_3 a0_4 ae0_3 ae0_4 x1 s.1 s.2.1 s.2.2.1 s.2.2.2.1 s.2.2.2.2.1 s.2.2.2.2.2.1 s.2.2.2.2.2.2.1 s.2.2.2.2.2.2.2.1 s.2.2.2.2.2.2.2.2.1 s.2.2.2.2.2.2.2.2.2.1 s.2.2.2.2.2.2.2.2.2.2) (0, x2, x3, x4, x5, x6, x7, x8, x9, x10, x11)).bind fun (⟨x35, x36, x37, x38, x39, x40, x41, x42, x43, x44, x45, x46⟩ : (Int × Bool × Int × Int × Bool × Int × Int × Int × Bool × (List (Option Nat)) × (List (Option Nat)) × (Option Nat))) => some (.inl (IntKind.wrap .i64 (x1 + 1), x37, x38, x39, x40, x41, x42, x43, x44, x45, x46))) else some (.inr (x1, decide (x1 < a0_1), x2, x3, x4, x5, x6, x7, x8, x9, x10, x11)))

noncomputable def impl_Sheet_each__impl_GradeLosses_1 (a0_0 : Int) (a0_1 : Int) (a0_2 : Bool) (a0_3 : List (Option Nat)) (a0_4 : List (Option Nat)) (ae0_0 : Int) (ae0_1 : Int) (ae0_2 : Bool) (ae0_3 : List (Option Nat)) (ae0_4 : List (Option Nat)) (ae1_0 : Int) (ae2_0 : Int) (ae2_1 : Int) (ae2_2 : Bool) (ae2_3 : List (Option Nat)) (ae2_4 : List (Option Nat)) (ae3_0 : Option Nat) : Option (Int × Int × Bool × Int × Int × Int × Bool × (List (Option Nat)) × (List (Option Nat)) × (Option Nat)) :=
 ((loopF (fun (s : (Int × Int × Int × Bool × Int × Int × Int × Bool × (List (Option Nat)) × (List (Option Nat)) × (Option Nat))) => impl_Sheet_each__impl_GradeLosses_1.s0 a0_0 a0_1 a0_2 a0_3 a0_4 ae0_3 ae0_4 s.1 s.2.1 s.2.2.1 s.2.2.2.1 s.2.2.2.2.1 s.2.2.2.2.2.1 s.2.2.2.2.2.2.1 s.2.2.2.2.2.2.2.1 s.2.2.2.2.2.2.2.2.1 s.2.2.2.2.2.2.2.2.2.1 s.2.2.2.2.2.2.2.2.2.2) (0, ae0_0, ae0_1, ae0_2, ae1_0, ae2_0, ae2_1, ae2_2, ae2_3, ae2_4, ae3_0)).bind fun (⟨x12, x13, x14, x15, x16, x17, x18, x19, x20, x21, x22, x23⟩ : (Int × Bool × Int × Int × Bool × Int × Int × Int × Bool × (List (Option Nat)) × (List (Option Nat)) × (Option Nat))) => some (x14, x15, x16, x17, x18, x19, x20, x21, x22, x23))

noncomputable def impl_GradeLosses (a0_0 : Int) (a0_1 : Int) (a0_2 : Bool) (a0_3 : List (Option Nat)) (a0_4 : List (Option Nat)) (a1 : Int) (a2 : Option Nat) : Option (Int × Int × Bool × (List (Option Nat)) × (List (Option Nat)) × Bool) :=
 ((((impl_ValidSheet a0_0 a0_1 a0_2 a0_3 a0_4).bind fun (x2 : Bool) => (if (!x2) = true then some true else ((impl_isWidth a1).bind fun (x3 : Bool) => (if (!x3) = true then some true else ((impl_isShare a2).bind fun (x4 : Bool) => some (!x4)))))) : Option Bool).bind fun (x1 : Bool) => (if x1 = true then some (0, 0, false, ([] : List (Option Nat)), ([] : List (Option Nat)), false) else ((impl_copySheet a0_0 a0_1 a0_2 a0_3 a0_4).bind fun (x5 : (Int × Int × Bool × (List (Option Nat)) × (List (Option Nat)))) => ((impl_Sheet_each__impl_GradeLosses_1 a0_0 a0_1 a0_2 a0_3 a0_4 a0_0 a0_1 a0_2 a0_3 a0_4 a1 x5.1 x5.2.1 x5.2.2.1 x5.2.2.2.1 x5.2.2.2.2 a2).bind fun (x6 : (Int × Int × Bool × Int × Int × Int × Bool × (List (Option Nat)) × (List (Option Nat)) × (Option Nat))) => some (x6.2.2.2.2.1, x6.2.2.2.2.2.1, x6.2.2.2.2.2.2.1, x6.2.2.2.2.2.2.2.1, x6.2.2.2.2.2.2.2.2.1, true)))))

set_option maxRecDepth 20000 in
theorem impl_GradeLosses_1_2_ok (h0 : Heap) (lo : Nat) (hlo : lo ≤ h0.size) (a0 : Int) (a1 : Int) (a2 : Int) (be0 : Nat) (ae0_0 : Int) (ae0_1 : Int) (ae0_2 : Bool) (ue0_3 : Value) (ae0_3 : List (Option Nat)) (ge0_3 : SL (kF .f32) lo h0 ue0_3 ae0_3) (ue0_4 : Value) (ae0_4 : List (Option Nat)) (ge0_4 : SL (kF .f32) lo h0 ue0_4 ae0_4) (be1 : Nat) (ae1_0 : Int) (be2 : Nat) (ae2_0 : Int) (ae2_1 : Int) (ae2_2 : Bool) (ue2_3 : Value) (ae2_3 : List (Option Nat)) (ue2_4 : Value) (ae2_4 : List (Option Nat)) (be3 : Nat) (ue3_0 : Value) (ae3_0 : Option Nat) (ge3_0 : IsF .f32 ue3_0 ae3_0) (S0 : Sep [some be0, some be1, some be2, ue2_3.ownBlock, ue2_4.ownBlock, some be3] h0.size h0 [boxO be0 [(.int .i64 ae0_0), (.int .i64 ae0_1), (.bool ae0_2), ue0_3, ue0_4], boxO be1 [(.int .i64 ae1_0)], boxO be2 [(.int .i64 ae2_0), (.int .i64 ae2_1), (.bool ae2_2), ue2_3, ue2_4], ownO (kF .f32) 29 ue2_3 ae2_3, ownO (kF .f32) 29 ue2_4 ae2_4, boxO be3 [ue3_0]]) (hB : ∀ b, some b ∈ [some be0, some be1, some be2, ue2_3.ownBlock, ue2_4.ownBlock, some be3] → lo ≤ b) (r : (Int × Int × Bool × Int × Int × Int × Bool × (List (Option Nat)) × (List (Option Nat)) × (Option Nat))) (hp : impl_GradeLosses_1_2 a0 a1 a2 ae0_0 ae0_1 ae0_2 ae0_3 ae0_4 ae1_0 ae2_0 ae2_1 ae2_2 ae2_3 ae2_4 ae3_0 = some r) : CallsH Try.prog 102 ([(.int .i64 a0), (.int .i64 a1), (.int .i64 a2)].toArray ++ [(.pointer (some ⟨be0, 0, none⟩)), (.pointer (some ⟨be1, 0, none⟩)), (.pointer (some ⟨be2, 0, none⟩)), (.pointer (some ⟨be3, 0, none⟩))].toArray) h0 (fun v h' => ∃ w9, v = (.tuple (List.toArray (α := Value) [])) ∧ IsF .f32 w9 r.2.2.2.2.2.2.2.2.2 ∧ Mod [some be0, some be1, some be2, ue2_3.ownBlock, ue2_4.ownBlock, some be3] h0 h' ∧ Sep [some be0, some be1, some be2, ue2_3.ownBlock, ue2_4.ownBlock, some be3] h0.size h' [boxO be0 [(.int .i64 r.1), (.int .i64 r.2.1), (.bool r.2.2.1), ue0_3, ue0_4], boxO be1 [(.int .i64 r.2.2.2.1)], boxO be2 [(.int .i64 r.2.2.2.2.1), (.int .i64 r.2.2.2.2.2.1), (.bool r.2.2.2.2.2.2.1), ue2_3, ue2_4], ownO (kF .f32) 29 ue2_3 r.2.2.2.2.2.2.2.1, ownO (kF .f32) 29 ue2_4 r.2.2.2.2.2.2.2.2.1, boxO be3 [w9]]) := by
 unfold impl_GradeLosses_1_2 at hp
 refine callsH_of_W (l := [(.int .i64 a0), (.int .i64 a1), (.int .i64 a2)]) (cap := [(.pointer (some ⟨be0, 0, none⟩)), (.pointer (some ⟨be1, 0, none⟩)), (.pointer (some ⟨be2, 0, none⟩)), (.pointer (some ⟨be3, 0, none⟩))]) 45 Try.func102 rfl rfl rfl ?_
 refine W.seq ?_
 refine W.region ?_
 refine RL.opD (by decide) (opv_loadA (us := [(.int .i64 ae0_0), (.int .i64 ae0_1), (.bool ae0_2), ue0_3, ue0_4]) rfl Try.agg33 Try.size33 rfl (Sep.at (o := boxO be0 [(.int .i64 ae0_0), (.int .i64 ae0_1), (.bool ae0_2), ue0_3, ue0_4]) S0 0 rfl) rfl rfl) ?_
 refine RL.opD (by decide) (opv_move rfl rfl) ?_
 refine RL.opD (by decide) (opv_move rfl rfl) ?_
 obtain ⟨x1, hx1, hp⟩ := Option.bind_eq_some_iff.1 hp
 refine RL.op _ (by decide) (opv_call (cap := []) (impl_Sheet_depth_ok _ _ _ _ _ _ (SL.up ge0_3 hlo) _ _ (SL.up ge0_4 hlo) _ _ _ hx1) rfl rfl ⟨rfl, rfl, rfl, trivial⟩ Try.func103 rfl rfl) ?_
 rintro _ hp1 ⟨rfl, MT_1, T_1⟩
 obtain ⟨X_1, S_1⟩ := Sep.turn0 (Mod.refl [some be0, some be1, some be2, ue2_3.ownBlock, ue2_4.ownBlock, some be3] h0) S0 MT_1 T_1
 refine RL.opD (by decide) (opv_assign rfl rfl) ?_
 refine RL.nil ?_
 refine thnN ?_
 refine W.seq ?_
 refine W.region ?_
 refine RL.opD (by decide) (opv_move rfl rfl) ?_
 refine RL.opD (by decide) (opv_loadB rfl Try.one2 rfl (Sep.at (o := boxO be1 [(.int .i64 ae1_0)]) S_1 1 rfl) rfl) ?_
 refine RL.opD (by decide) (opv_icmp rfl rfl rfl rfl) ?_
 refine RL.nil ?_
 refine thnN ?_
 obtain ⟨x2, hy1, hp⟩ := Option.bind_eq_some_iff.1 hp
 refine W.cut (fun φ' h' => Fr.sub [(0, (.int .i64 a0)), (1, (.int .i64 a1)), (2, (.int .i64 a2)), (3, (.pointer (some ⟨be0, 0, none⟩))), (4, (.pointer (some ⟨be1, 0, none⟩))), (5, (.pointer (some ⟨be2, 0, none⟩))), (6, (.pointer (some ⟨be3, 0, none⟩))), (10, (.int .i64 x1)), (19, (.bool (decide (x1 < ae1_0))))] φ' ∧ Mod [some be0, some be1, some be2, ue2_3.ownBlock, ue2_4.ownBlock, some be3] h0 h' ∧ Sep [some be0, some be1, some be2, ue2_3.ownBlock, ue2_4.ownBlock, some be3] h0.size h' [boxO be0 [(.int .i64 ae0_0), (.int .i64 ae0_1), (.bool ae0_2), ue0_3, ue0_4], boxO be1 [(.int .i64 ae1_0)], boxO be2 [(.int .i64 ae2_0), (.int .i64 ae2_1), (.bool ae2_2), ue2_3, ue2_4], ownO (kF .f32) 29 ue2_3 ae2_3, ownO (kF .f32) 29 ue2_4 x2, boxO be3 [ue3_0]]) ?_ ?_
 ·by_cases c1 : (decide (x1 < ae1_0)) = true
  ·rw [if_pos c1] at hy1
   refine W.condT rfl c1 ?_
   refine W.seq ?_
   refine W.region ?_
   refine RL.opD (by decide) (opv_loadB rfl Try.one2 rfl (Sep.at (o := boxO be1 [(.int .i64 ae1_0)]) S_1 1 rfl) rfl) ?_
   refine RL.opD (by decide) (opv_move rfl rfl) ?_
   refine RL.opD (by decide) (opv_sub rfl rfl rfl) ?_
   refine RL.opF (by decide) (opv_i2f rfl (by rw [Try.underlying2]; rfl) Try.underlying29 rfl) ?_
   intro v1 fv1
   refine RL.opD (by decide) (opv_loadB rfl Try.one2 rfl (Sep.at (o := boxO be1 [(.int .i64 ae1_0)]) S_1 1 rfl) rfl) ?_
   refine RL.opF (by decide) (opv_i2f rfl (by rw [Try.underlying2]; rfl) Try.underlying29 rfl) ?_
   intro v2 fv2
   refine RL.opF (by decide) (opv_fop rfl rfl rfl rfl fv1 fv2) ?_
   intro v3 fv3
   refine RL.opD (by decide) (opv_assign rfl rfl) ?_
   refine RL.nil ?_
   refine thnN ?_
   refine W.seq ?_
   obtain ⟨x3, hx3, hy1⟩ := Option.bind_eq_some_iff.1 hy1
   refine W.sub (ψ := [(0, (.int .i64 a0)), (1, (.int .i64 a1)), (2, (.int .i64 a2)), (3, (.pointer (some ⟨be0, 0, none⟩))), (4, (.pointer (some ⟨be1, 0, none⟩))), (5, (.pointer (some ⟨be2, 0, none⟩))), (6, (.pointer (some ⟨be3, 0, none⟩))), (10, (.int .i64 x1)), (19, (.bool (decide (x1 < ae1_0)))), (11, v3)]) ⟨rfl, rfl, rfl, rfl, rfl, rfl, rfl, rfl, rfl, rfl, trivial⟩ ?_
   refine W.regionP [fun v _ => @Eq Value (.pointer (some ⟨be2, 4, none⟩)) v, fun v _ => @Eq Value ue2_4 v, fun v _ => @Eq Value (.int .i64 a2) v, fun v _ => PtI 1 v ue2_4 (Int.toNat a2), fun v _ => IsF .f32 v x3, fun v _ => IsF .f32 v ae3_0, fun v _ => IsF .f32 v (fop .quo .f32 (fofi .f32 (IntKind.wrap .i64 (ae1_0 - x1))) (fofi .f32 ae1_0)), fun v _ => IsF .f32 v (fop .quo .f32 (fofi .f32 (IntKind.wrap .i64 (ae1_0 - x1))) (fofi .f32 ae1_0)), fun v _ => IsF .f32 v (fop .mul .f32 (fop .quo .f32 (fofi .f32 (IntKind.wrap .i64 (ae1_0 - x1))) (fofi .f32 ae1_0)) (fop .quo .f32 (fofi .f32 (IntKind.wrap .i64 (ae1_0 - x1))) (fofi .f32 ae1_0))), fun v _ => IsF .f32 v (fop .mul .f32 ae3_0 (fop .mul .f32 (fop .quo .f32 (fofi .f32 (IntKind.wrap .i64 (ae1_0 - x1))) (fofi .f32 ae1_0)) (fop .quo .f32 (fofi .f32 (IntKind.wrap .i64 (ae1_0 - x1))) (fofi .f32 ae1_0)))), fun v _ => IsF .f32 v (fop .add .f32 x3 (fop .mul .f32 ae3_0 (fop .mul .f32 (fop .quo .f32 (fofi .f32 (IntKind.wrap .i64 (ae1_0 - x1))) (fofi .f32 ae1_0)) (fop .quo .f32 (fofi .f32 (IntKind.wrap .i64 (ae1_0 - x1))) (fofi .f32 ae1_0))))), fun v _ => IsF .f32 v (fop .add .f32 x3 (fop .mul .f32 ae3_0 (fop .mul .f32 (fop .quo .f32 (fofi .f32 (IntKind.wrap .i64 (ae1_0 - x1))) (fofi .f32 ae1_0)) (fop .quo .f32 (fofi .f32 (IntKind.wrap .i64 (ae1_0 - x1))) (fofi .f32 ae1_0)))))] [[], [0], [], [1, 2], [3], [], [], [], [6, 7], [5, 8], [4, 9], [10]] [11] Try.mixed (by decide +kernel) (by decide +kernel) rfl rfl rfl ?_ ?_
   ·refine ⟨⟨rfl, ?_⟩, ⟨rfl, ?_⟩, ⟨rfl, ?_⟩, ⟨rfl, ?_⟩, ⟨rfl, ?_⟩, ⟨rfl, ?_⟩, ⟨rfl, ?_⟩, ⟨rfl, ?_⟩, ⟨rfl, ?_⟩, ⟨rfl, ?_⟩, ⟨rfl, ?_⟩, ⟨rfl, ?_⟩, trivial⟩
    ·rintro _ rfl
     refine Dep.nil ?_
     refine GuardOK.none rfl ?_
     exact OpV.toD (opv_fieldAddr rfl Try.fo33_4 rfl) rfl
    ·rintro _ rfl _ rfl
     refine Dep.nil ?_
     refine GuardOK.none rfl ?_
     exact OpV.toD (opv_loadB rfl Try.one25 rfl (Sep.at (o := boxO be2 [(.int .i64 ae2_0), (.int .i64 ae2_1), (.bool ae2_2), ue2_3, ue2_4]) S_1 2 rfl) rfl) rfl
    ·rintro _ rfl
     refine Dep.nil ?_
     refine GuardOK.none rfl ?_
     exact OpV.toD (opv_move rfl rfl) rfl
    ·rintro _ rfl _ rfl _ rfl
     refine Dep.nil ?_
     refine GuardOK.none rfl ?_
     exact OpV.toS (opv_index rfl Try.underlying25 (by rw [Try.size29]; rfl) rfl rfl (ownO.read (Sep.at (o := ownO (kF .f32) 29 ue2_4 ae2_4) S_1 4 rfl)) hx3) (fun _ h => h)
    ·rintro _ rfl v4 fv4
     refine Dep.nil ?_
     refine GuardOK.none rfl ?_
     exact OpV.toS (opv_loadF rfl Try.one29 rfl fv4 (ownO.read (Sep.at (o := ownO (kF .f32) 29 ue2_4 ae2_4) S_1 4 rfl)) hx3) (fun _ h => h)
    ·rintro _ rfl
     refine Dep.nil ?_
     refine GuardOK.none rfl ?_
     exact OpV.toD (opv_loadB rfl Try.one29 rfl (Sep.at (o := boxO be3 [ue3_0]) S_1 5 rfl) rfl) ge3_0
    ·rintro _ rfl
     refine Dep.nil ?_
     refine GuardOK.none rfl ?_
     exact OpV.toD (opv_move rfl rfl) fv3
    ·rintro _ rfl
     refine Dep.nil ?_
     refine GuardOK.none rfl ?_
     exact OpV.toD (opv_move rfl rfl) fv3
    ·rintro _ rfl v7 fv7 v8 fv8
     refine Dep.nil ?_
     refine GuardOK.none rfl ?_
     exact OpV.toS (opv_fop rfl rfl rfl rfl fv7 fv8) (fun _ h => h)
    ·rintro _ rfl v6 fv6 v9 fv9
     refine Dep.nil ?_
     refine GuardOK.none rfl ?_
     exact OpV.toS (opv_fop rfl rfl rfl rfl fv6 fv9) (fun _ h => h)
    ·rintro _ rfl v5 fv5 v10 fv10
     refine Dep.nil ?_
     refine GuardOK.none rfl ?_
     exact OpV.toS (opv_fop rfl rfl rfl rfl fv5 fv10) (fun _ h => h)
    ·rintro _ rfl v11 fv11
     refine Dep.nil ?_
     refine GuardOK.none rfl ?_
     exact OpV.toD (opv_assign rfl rfl) fv11
   rintro v12 fv12
   refine Dep.nil ?_
   show RL _ _ _ _ [] _ _
   refine RL.nil ?_
   refine thnN ?_
   refine W.seq ?_
   refine W.seq ?_
   refine W.region ?_
   refine RL.opD (by decide) (opv_move rfl rfl) ?_
   refine RL.opD (by decide) (opv_fcmp rfl rfl rfl rfl fv12 (isF_lit .f32 1065353216 (by decide) (by decide))) ?_
   refine RL.nil ?_
   refine thnN ?_
   obtain ⟨x4, hy2, hy1⟩ := Option.bind_eq_some_iff.1 hy1
   refine W.cut (fun φ' h' => ∃ v13, Fr.sub [(0, (.int .i64 a0)), (1, (.int .i64 a1)), (2, (.int .i64 a2)), (3, (.pointer (some ⟨be0, 0, none⟩))), (4, (.pointer (some ⟨be1, 0, none⟩))), (5, (.pointer (some ⟨be2, 0, none⟩))), (6, (.pointer (some ⟨be3, 0, none⟩))), (10, (.int .i64 x1)), (19, (.bool (decide (x1 < ae1_0)))), (11, v3), (39, (.bool (fcmp .gtr .f32 (fop .add .f32 x3 (fop .mul .f32 ae3_0 (fop .mul .f32 (fop .quo .f32 (fofi .f32 (IntKind.wrap .i64 (ae1_0 - x1))) (fofi .f32 ae1_0)) (fop .quo .f32 (fofi .f32 (IntKind.wrap .i64 (ae1_0 - x1))) (fofi .f32 ae1_0))))) (some 1065353216)))), (12, v13)] φ' ∧ IsF .f32 v13 x4 ∧ hp1 = h') ?_ ?_
   ·by_cases c2 : (fcmp .gtr .f32 (fop .add .f32 x3 (fop .mul .f32 ae3_0 (fop .mul .f32 (fop .quo .f32 (fofi .f32 (IntKind.wrap .i64 (ae1_0 - x1))) (fofi .f32 ae1_0)) (fop .quo .f32 (fofi .f32 (IntKind.wrap .i64 (ae1_0 - x1))) (fofi .f32 ae1_0))))) (some 1065353216)) = true
    ·rw [if_pos c2] at hy2
     refine W.condT rfl c2 ?_
     refine W.region ?_
     refine RL.opD (by decide) (opv_assign rfl rfl) ?_
     refine RL.nil ?_
     have ey2 := Option.some.inj hy2
     subst ey2
     refine onlyN ?_
     exact ⟨(.float .f32 1065353216), ⟨rfl, rfl, rfl, rfl, rfl, rfl, rfl, rfl, rfl, rfl, rfl, rfl, trivial⟩, (isF_lit .f32 1065353216 (by decide) (by decide)), rfl⟩
    ·rw [if_neg c2] at hy2
     have c2 := eq_false_of_ne_true c2
     refine W.condF rfl c2 ?_
     refine W.skip ?_
     have ey2 := Option.some.inj hy2
     subst ey2
     refine onlyN ?_
     exact ⟨v12, ⟨rfl, rfl, rfl, rfl, rfl, rfl, rfl, rfl, rfl, rfl, rfl, rfl, trivial⟩, fv12, rfl⟩
   rintro φ' _ ⟨v13, hs2, fv13, rfl⟩
   refine thnN ?_
   refine W.sub hs2 ?_
   refine W.region ?_
   refine RL.opD (by decide) (opv_fieldAddr rfl Try.fo33_4 rfl) ?_
   refine RL.opD (by decide) (opv_loadB rfl Try.one25 rfl (Sep.at (o := boxO be2 [(.int .i64 ae2_0), (.int .i64 ae2_1), (.bool ae2_2), ue2_3, ue2_4]) S_1 2 rfl) rfl) ?_
   refine RL.opD (by decide) (opv_move rfl rfl) ?_
   refine RL.opD (by decide) (opv_move rfl rfl) ?_
   obtain ⟨x5, hx5, hy1⟩ := Option.bind_eq_some_iff.1 hy1
   refine RL.op _ (by decide) (opv_index rfl Try.underlying25 (by rw [Try.size29]; rfl) rfl rfl (ownO.read (Sep.at (o := ownO (kF .f32) 29 ue2_4 ae2_4) S_1 4 rfl)) hx5) ?_
   rintro v14 _ ⟨fv14, rfl⟩
   obtain ⟨x6, hx6, hy1⟩ := Option.bind_eq_some_iff.1 hy1
   refine RL.op0 _ (opS_storeE (K := (kF .f32)) rfl Try.size29 rfl rfl fv14 rfl ⟨_, rfl, fv13⟩ hx6 (Sep.at (o := ownO (kF .f32) 29 ue2_4 ae2_4) S_1 4 rfl)) ?_
   rintro _ hp2 ⟨rfl, MT_2, T_2⟩
   have S_2 : Sep [some be0, some be1, some be2, ue2_3.ownBlock, ue2_4.ownBlock, some be3] h0.size hp1 ([ownO (kF .f32) 29 ue2_4 ae2_4] ++ [boxO be0 [(.int .i64 ae0_0), (.int .i64 ae0_1), (.bool ae0_2), ue0_3, ue0_4], boxO be1 [(.int .i64 ae1_0)], boxO be2 [(.int .i64 ae2_0), (.int .i64 ae2_1), (.bool ae2_2), ue2_3, ue2_4], ownO (kF .f32) 29 ue2_3 ae2_3, boxO be3 [ue3_0]]) := Sep.sel S_1 [4, 0, 1, 2, 3, 5] (by decide)
   obtain ⟨X_2, S_3⟩ := Sep.turn X_1 S_2 MT_2 T_2
   refine RL.nil ?_
   have ey1 := Option.some.inj hy1
   subst ey1
   refine onlyN ?_
   exact ⟨⟨rfl, rfl, rfl, rfl, rfl, rfl, rfl, rfl, rfl, trivial⟩, X_2, (Sep.sel S_3 [1, 2, 3, 4, 0, 5] (by decide))⟩
  ·rw [if_neg c1] at hy1
   have c1 := eq_false_of_ne_true c1
   refine W.condF rfl c1 ?_
   refine W.skip ?_
   have ey1 := Option.some.inj hy1
   subst ey1
   refine onlyN ?_
   exact ⟨⟨rfl, rfl, rfl, rfl, rfl, rfl, rfl, rfl, rfl, trivial⟩, X_1, (Sep.sel S_1 [0, 1, 2, 3, 4, 5] (by decide))⟩
 rintro φ' hp3 ⟨hs1, X_3, S_4⟩
 have er := Option.some.inj hp
 subst er
 exact Rt.none' rfl ⟨ue3_0, rfl, ge3_0, X_3, (Sep.sel S_4 [0, 1, 2, 3, 4, 5] (by decide))⟩

set_option maxRecDepth 20000 in
theorem impl_Sheet_each__impl_GradeLosses_1_ok (h0 : Heap) (lo : Nat) (hlo : lo ≤ h0.size) (a0_0 : Int) (a0_1 : Int) (a0_2 : Bool) (u0_3 : Value) (a0_3 : List (Option Nat)) (g0_3 : SL (kF .f32) lo h0 u0_3 a0_3) (u0_4 : Value) (a0_4 : List (Option Nat)) (g0_4 : SL (kF .f32) lo h0 u0_4 a0_4) (be0 : Nat) (ae0_0 : Int) (ae0_1 : Int) (ae0_2 : Bool) (ue0_3 : Value) (ae0_3 : List (Option Nat)) (ge0_3 : SL (kF .f32) lo h0 ue0_3 ae0_3) (ue0_4 : Value) (ae0_4 : List (Option Nat)) (ge0_4 : SL (kF .f32) lo h0 ue0_4 ae0_4) (be1 : Nat) (ae1_0 : Int) (be2 : Nat) (ae2_0 : Int) (ae2_1 : Int) (ae2_2 : Bool) (ue2_3 : Value) (ae2_3 : List (Option Nat)) (ue2_4 : Value) (ae2_4 : List (Option Nat)) (be3 : Nat) (ue3_0 : Value) (ae3_0 : Option Nat) (ge3_0 : IsF .f32 ue3_0 ae3_0) (S0 : Sep [some be0, some be1, some be2, ue2_3.ownBlock, ue2_4.ownBlock, some be3] h0.size h0 [boxO be0 [(.int .i64 ae0_0), (.int .i64 ae0_1), (.bool ae0_2), ue0_3, ue0_4], boxO be1 [(.int .i64 ae1_0)], boxO be2 [(.int .i64 ae2_0), (.int .i64 ae2_1), (.bool ae2_2), ue2_3, ue2_4], ownO (kF .f32) 29 ue2_3 ae2_3, ownO (kF .f32) 29 ue2_4 ae2_4, boxO be3 [ue3_0]]) (hB : ∀ b, some b ∈ [some be0, some be1, some be2, ue2_3.ownBlock, ue2_4.ownBlock, some be3] → lo ≤ b) (r : (Int × Int × Bool × Int × Int × Int × Bool × (List (Option Nat)) × (List (Option Nat)) × (Option Nat))) (hp : impl_Sheet_each__impl_GradeLosses_1 a0_0 a0_1 a0_2 a0_3 a0_4 ae0_0 ae0_1 ae0_2 ae0_3 ae0_4 ae1_0 ae2_0 ae2_1 ae2_2 ae2_3 ae2_4 ae3_0 = some r) : CallsH Try.prog 101 ([(.agg (List.toArray (α := Value) [(.int .i64 a0_0), (.int .i64 a0_1), (.bool a0_2), u0_3, u0_4])), (.func (.func 102) #[] (List.toArray (α := Value) [(.pointer (some ⟨be0, 0, none⟩)), (.pointer (some ⟨be1, 0, none⟩)), (.pointer (some ⟨be2, 0, none⟩)), (.pointer (some ⟨be3, 0, none⟩))]))].toArray ++ [].toArray) h0 (fun v h' => ∃ w9, v = (.tuple (List.toArray (α := Value) [])) ∧ IsF .f32 w9 r.2.2.2.2.2.2.2.2.2 ∧ Mod [some be0, some be1, some be2, ue2_3.ownBlock, ue2_4.ownBlock, some be3] h0 h' ∧ Sep [some be0, some be1, some be2, ue2_3.ownBlock, ue2_4.ownBlock, some be3] h0.size h' [boxO be0 [(.int .i64 r.1), (.int .i64 r.2.1), (.bool r.2.2.1), ue0_3, ue0_4], boxO be1 [(.int .i64 r.2.2.2.1)], boxO be2 [(.int .i64 r.2.2.2.2.1), (.int .i64 r.2.2.2.2.2.1), (.bool r.2.2.2.2.2.2.1), ue2_3, ue2_4], ownO (kF .f32) 29 ue2_3 r.2.2.2.2.2.2.2.1, ownO (kF .f32) 29 ue2_4 r.2.2.2.2.2.2.2.2.1, boxO be3 [w9]]) := by
 unfold impl_Sheet_each__impl_GradeLosses_1 at hp
 refine callsH_of_W (l := [(.agg (List.toArray (α := Value) [(.int .i64 a0_0), (.int .i64 a0_1), (.bool a0_2), u0_3, u0_4])), (.func (.func 102) #[] (List.toArray (α := Value) [(.pointer (some ⟨be0, 0, none⟩)), (.pointer (some ⟨be1, 0, none⟩)), (.pointer (some ⟨be2, 0, none⟩)), (.pointer (some ⟨be3, 0, none⟩))]))]) (cap := []) 26 Try.func101 rfl rfl rfl ?_
 refine W.seq ?_
 refine W.region ?_
 refine RL.op _ (by decide) (opS_boxed (opv_boxA (cs := [(.int .i64 a0_0), (.int .i64 a0_1), (.bool a0_2), u0_3, u0_4]) rfl rfl)) ?_
 rintro _ hp1 ⟨bb1, rfl, MT_1, T_1⟩
 obtain ⟨X_1, S_1⟩ := Sep.turn0 (Mod.refl [some be0, some be1, some be2, ue2_3.ownBlock, ue2_4.ownBlock, some be3] h0) S0 MT_1 T_1
 refine RL.nil ?_
 refine thnN ?_
 refine W.seq ?_
 refine W.region ?_
 refine RL.opD (by decide) (opv_fieldAddr rfl Try.fo33_1 rfl) ?_
 refine RL.opD (by decide) (opv_loadB rfl Try.one2 rfl (Sep.at (o := boxO bb1 [(.int .i64 a0_0), (.int .i64 a0_1), (.bool a0_2), u0_3, u0_4]) S_1 0 rfl) rfl) ?_
 refine RL.opD (by decide) (opv_move rfl rfl) ?_
 refine RL.nil ?_
 refine thnN ?_
 obtain ⟨y1, hy1, hp⟩ := Option.bind_eq_some_iff.1 hp
 refine W.cut (fun φ' h' => ∃ x12, ∃ x13, ∃ x14, ∃ x15, ∃ x16, ∃ x17, ∃ x18, ∃ x19, ∃ x20, ∃ x21, ∃ x22, ∃ x23, ∃ v2, y1 = (x12, x13, x14, x15, x16, x17, x18, x19, x20, x21, x22, x23) ∧ Fr.sub [(0, (.agg (List.toArray (α := Value) [(.int .i64 a0_0), (.int .i64 a0_1), (.bool a0_2), u0_3, u0_4]))), (1, (.func (.func 102) #[] (List.toArray (α := Value) [(.pointer (some ⟨be0, 0, none⟩)), (.pointer (some ⟨be1, 0, none⟩)), (.pointer (some ⟨be2, 0, none⟩)), (.pointer (some ⟨be3, 0, none⟩))]))), (2, (.pointer (some ⟨bb1, 0, none⟩))), (7, (.int .i64 a0_1)), (8, (.int .i64 x12)), (9, (.bool x13))] φ' ∧ IsF .f32 v2 x23 ∧ Mod [some be0, some be1, some be2, ue2_3.ownBlock, ue2_4.ownBlock, some be3] h0 h' ∧ Sep [some be0, some be1, some be2, ue2_3.ownBlock, ue2_4.ownBlock, some be3] h0.size h' [boxO bb1 [(.int .i64 a0_0), (.int .i64 a0_1), (.bool a0_2), u0_3, u0_4], boxO be0 [(.int .i64 x14), (.int .i64 x15), (.bool x16), ue0_3, ue0_4], boxO be1 [(.int .i64 x17)], boxO be2 [(.int .i64 x18), (.int .i64 x19), (.bool x20), ue2_3, ue2_4], ownO (kF .f32) 29 ue2_3 x21, ownO (kF .f32) 29 ue2_4 x22, boxO be3 [v2]]) ?_ ?_
 ·refine W.block ?_
  refine W.loopS (fun (s : (Int × Int × Int × Bool × Int × Int × Int × Bool × (List (Option Nat)) × (List (Option Nat)) × (Option Nat))) φ' h' => ∃ v1, Fr.sub [(0, (.agg (List.toArray (α := Value) [(.int .i64 a0_0), (.int .i64 a0_1), (.bool a0_2), u0_3, u0_4]))), (1, (.func (.func 102) #[] (List.toArray (α := Value) [(.pointer (some ⟨be0, 0, none⟩)), (.pointer (some ⟨be1, 0, none⟩)), (.pointer (some ⟨be2, 0, none⟩)), (.pointer (some ⟨be3, 0, none⟩))]))), (2, (.pointer (some ⟨bb1, 0, none⟩))), (7, (.int .i64 a0_1)), (8, (.int .i64 s.1))] φ' ∧ IsF .f32 v1 s.2.2.2.2.2.2.2.2.2.2 ∧ Mod [some be0, some be1, some be2, ue2_3.ownBlock, ue2_4.ownBlock, some be3] h0 h' ∧ Sep [some be0, some be1, some be2, ue2_3.ownBlock, ue2_4.ownBlock, some be3] h0.size h' [boxO bb1 [(.int .i64 a0_0), (.int .i64 a0_1), (.bool a0_2), u0_3, u0_4], boxO be0 [(.int .i64 s.2.1), (.int .i64 s.2.2.1), (.bool s.2.2.2.1), ue0_3, ue0_4], boxO be1 [(.int .i64 s.2.2.2.2.1)], boxO be2 [(.int .i64 s.2.2.2.2.2.1), (.int .i64 s.2.2.2.2.2.2.1), (.bool s.2.2.2.2.2.2.2.1), ue2_3, ue2_4], ownO (kF .f32) 29 ue2_3 s.2.2.2.2.2.2.2.2.1, ownO (kF .f32) 29 ue2_4 s.2.2.2.2.2.2.2.2.2.1, boxO be3 [v1]]) hy1 ⟨ue3_0, ⟨rfl, rfl, rfl, rfl, rfl, trivial⟩, ge3_0, X_1, (Sep.sel S_1 [0, 1, 2, 3, 4, 5, 6] (by decide))⟩ ?_
  rintro ⟨x1, x2, x3, x4, x5, x6, x7, x8, x9, x10, x11⟩ φ' hp2 o1 ⟨v1, hs1, fv1, X_2, S_2⟩ ho1 hy1
  have hs1 : Fr.sub [(0, (.agg (List.toArray (α := Value) [(.int .i64 a0_0), (.int .i64 a0_1), (.bool a0_2), u0_3, u0_4]))), (1, (.func (.func 102) #[] (List.toArray (α := Value) [(.pointer (some ⟨be0, 0, none⟩)), (.pointer (some ⟨be1, 0, none⟩)), (.pointer (some ⟨be2, 0, none⟩)), (.pointer (some ⟨be3, 0, none⟩))]))), (2, (.pointer (some ⟨bb1, 0, none⟩))), (7, (.int .i64 a0_1)), (8, (.int .i64 x1))] φ' := hs1
  have fv1 : IsF .f32 v1 x11 := fv1
  have S_2 : Sep [some be0, some be1, some be2, ue2_3.ownBlock, ue2_4.ownBlock, some be3] h0.size hp2 [boxO bb1 [(.int .i64 a0_0), (.int .i64 a0_1), (.bool a0_2), u0_3, u0_4], boxO be0 [(.int .i64 x2), (.int .i64 x3), (.bool x4), ue0_3, ue0_4], boxO be1 [(.int .i64 x5)], boxO be2 [(.int .i64 x6), (.int .i64 x7), (.bool x8), ue2_3, ue2_4], ownO (kF .f32) 29 ue2_3 x9, ownO (kF .f32) 29 ue2_4 x10, boxO be3 [v1]] := S_2
  have ho1 : impl_Sheet_each__impl_GradeLosses_1.s0 a0_0 a0_1 a0_2 a0_3 a0_4 ae0_3 ae0_4 x1 x2 x3 x4 x5 x6 x7 x8 x9 x10 x11 = some o1 := ho1
  unfold impl_Sheet_each__impl_GradeLosses_1.s0 at ho1
  refine W.sub hs1 ?_
  refine W.seq ?_
  refine W.region ?_
  refine RL.opD (by decide) (opv_icmp rfl rfl rfl rfl) ?_
  refine RL.nil ?_
  refine thnN ?_
  refine W.seq ?_
  by_cases c1 : (decide (x1 < a0_1)) = true
  ·rw [if_pos c1] at ho1
   refine W.condT rfl c1 ?_
   refine W.skip ?_
   refine thnN ?_
   refine W.seq ?_
   refine W.block ?_
   refine W.seq ?_
   refine W.region ?_
   refine RL.opD (by decide) (opv_move rfl rfl) ?_
   refine RL.opD (by decide) (opv_assign rfl rfl) ?_
   refine RL.nil ?_
   refine thnN ?_
   refine W.seq ?_
   refine W.region ?_
   refine RL.opD (by decide) (opv_fieldAddr rfl Try.fo33_0 rfl) ?_
   refine RL.opD (by decide) (opv_loadB rfl Try.one2 rfl (Sep.at (o := boxO bb1 [(.int .i64 a0_0), (.int .i64 a0_1), (.bool a0_2), u0_3, u0_4]) S_2 0 rfl) rfl) ?_
   refine RL.opD (by decide) (opv_move rfl rfl) ?_
   refine RL.nil ?_
   refine thnN ?_
   obtain ⟨y2, hy2, ho1⟩ := Option.bind_eq_some_iff.1 ho1
   refine W.cut (fun φ' h' => ∃ x35, ∃ x36, ∃ x37, ∃ x38, ∃ x39, ∃ x40, ∃ x41, ∃ x42, ∃ x43, ∃ x44, ∃ x45, ∃ x46, ∃ v4, y2 = (x35, x36, x37, x38, x39, x40, x41, x42, x43, x44, x45, x46) ∧ Fr.sub [(0, (.agg (List.toArray (α := Value) [(.int .i64 a0_0), (.int .i64 a0_1), (.bool a0_2), u0_3, u0_4]))), (1, (.func (.func 102) #[] (List.toArray (α := Value) [(.pointer (some ⟨be0, 0, none⟩)), (.pointer (some ⟨be1, 0, none⟩)), (.pointer (some ⟨be2, 0, none⟩)), (.pointer (some ⟨be3, 0, none⟩))]))), (2, (.pointer (some ⟨bb1, 0, none⟩))), (7, (.int .i64 a0_1)), (8, (.int .i64 x1)), (9, (.bool (decide (x1 < a0_1)))), (4, (.int .i64 x1)), (12, (.int .i64 a0_0)), (13, (.int .i64 x35)), (14, (.bool x36))] φ' ∧ IsF .f32 v4 x46 ∧ Mod [some be0, some be1, some be2, ue2_3.ownBlock, ue2_4.ownBlock, some be3] h0 h' ∧ Sep [some be0, some be1, some be2, ue2_3.ownBlock, ue2_4.ownBlock, some be3] h0.size h' [boxO bb1 [(.int .i64 a0_0), (.int .i64 a0_1), (.bool a0_2), u0_3, u0_4], boxO be0 [(.int .i64 x37), (.int .i64 x38), (.bool x39), ue0_3, ue0_4], boxO be1 [(.int .i64 x40)], boxO be2 [(.int .i64 x41), (.int .i64 x42), (.bool x43), ue2_3, ue2_4], ownO (kF .f32) 29 ue2_3 x44, ownO (kF .f32) 29 ue2_4 x45, boxO be3 [v4]]) ?_ ?_
   ·refine W.block ?_
    refine W.loopS (fun (s : (Int × Int × Int × Bool × Int × Int × Int × Bool × (List (Option Nat)) × (List (Option Nat)) × (Option Nat))) φ' h' => ∃ v3, Fr.sub [(0, (.agg (List.toArray (α := Value) [(.int .i64 a0_0), (.int .i64 a0_1), (.bool a0_2), u0_3, u0_4]))), (1, (.func (.func 102) #[] (List.toArray (α := Value) [(.pointer (some ⟨be0, 0, none⟩)), (.pointer (some ⟨be1, 0, none⟩)), (.pointer (some ⟨be2, 0, none⟩)), (.pointer (some ⟨be3, 0, none⟩))]))), (2, (.pointer (some ⟨bb1, 0, none⟩))), (7, (.int .i64 a0_1)), (8, (.int .i64 x1)), (9, (.bool (decide (x1 < a0_1)))), (4, (.int .i64 x1)), (12, (.int .i64 a0_0)), (13, (.int .i64 s.1))] φ' ∧ IsF .f32 v3 s.2.2.2.2.2.2.2.2.2.2 ∧ Mod [some be0, some be1, some be2, ue2_3.ownBlock, ue2_4.ownBlock, some be3] h0 h' ∧ Sep [some be0, some be1, some be2, ue2_3.ownBlock, ue2_4.ownBlock, some be3] h0.size h' [boxO bb1 [(.int .i64 a0_0), (.int .i64 a0_1), (.bool a0_2), u0_3, u0_4], boxO be0 [(.int .i64 s.2.1), (.int .i64 s.2.2.1), (.bool s.2.2.2.1), ue0_3, ue0_4], boxO be1 [(.int .i64 s.2.2.2.2.1)], boxO be2 [(.int .i64 s.2.2.2.2.2.1), (.int .i64 s.2.2.2.2.2.2.1), (.bool s.2.2.2.2.2.2.2.1), ue2_3, ue2_4], ownO (kF .f32) 29 ue2_3 s.2.2.2.2.2.2.2.2.1, ownO (kF .f32) 29 ue2_4 s.2.2.2.2.2.2.2.2.2.1, boxO be3 [v3]]) hy2 ⟨v1, ⟨rfl, rfl, rfl, rfl, rfl, rfl, rfl, rfl, rfl, trivial⟩, fv1, X_2, (Sep.sel S_2 [0, 1, 2, 3, 4, 5, 6] (by decide))⟩ ?_
    rintro ⟨x24, x25, x26, x27, x28, x29, x30, x31, x32, x33, x34⟩ φ' hp3 o2 ⟨v3, hs3, fv3, X_3, S_3⟩ ho2 hy2
    have hs3 : Fr.sub [(0, (.agg (List.toArray (α := Value) [(.int .i64 a0_0), (.int .i64 a0_1), (.bool a0_2), u0_3, u0_4]))), (1, (.func (.func 102) #[] (List.toArray (α := Value) [(.pointer (some ⟨be0, 0, none⟩)), (.pointer (some ⟨be1, 0, none⟩)), (.pointer (some ⟨be2, 0, none⟩)), (.pointer (some ⟨be3, 0, none⟩))]))), (2, (.pointer (some ⟨bb1, 0, none⟩))), (7, (.int .i64 a0_1)), (8, (.int .i64 x1)), (9, (.bool (decide (x1 < a0_1)))), (4, (.int .i64 x1)), (12, (.int .i64 a0_0)), (13, (.int .i64 x24))] φ' := hs3
    have fv3 : IsF .f32 v3 x34 := fv3
    have S_3 : Sep [some be0, some be1, some be2, ue2_3.ownBlock, ue2_4.ownBlock, some be3] h0.size hp3 [boxO bb1 [(.int .i64 a0_0), (.int .i64 a0_1), (.bool a0_2), u0_3, u0_4], boxO be0 [(.int .i64 x25), (.int .i64 x26), (.bool x27), ue0_3, ue0_4], boxO be1 [(.int .i64 x28)], boxO be2 [(.int .i64 x29), (.int .i64 x30), (.bool x31), ue2_3, ue2_4], ownO (kF .f32) 29 ue2_3 x32, ownO (kF .f32) 29 ue2_4 x33, boxO be3 [v3]] := S_3
    have ho2 : impl_Sheet_each__impl_GradeLosses_1.s1 a0_0 a0_1 a0_2 a0_3 a0_4 ae0_3 ae0_4 x1 x24 x25 x26 x27 x28 x29 x30 x31 x32 x33 x34 = some o2 := ho2
    unfold impl_Sheet_each__impl_GradeLosses_1.s1 at ho2
    refine W.sub hs3 ?_
    refine W.seq ?_
    refine W.region ?_
    refine RL.opD (by decide) (opv_icmp rfl rfl rfl rfl) ?_
    refine RL.nil ?_
    refine thnN ?_
    refine W.seq ?_
    by_cases c2 : (decide (x24 < a0_0)) = true
    ·rw [if_pos c2] at ho2
     refine W.condT rfl c2 ?_
     refine W.skip ?_
     refine thnN ?_
     refine W.seq ?_
     refine W.block ?_
     refine W.seq ?_
     refine W.region ?_
     refine RL.opD (by decide) (opv_move rfl rfl) ?_
     refine RL.opD (by decide) (opv_assign rfl rfl) ?_
     refine RL.nil ?_
     refine thnN ?_
     refine W.region ?_
     refine RL.opD (by decide) (opv_move rfl rfl) ?_
     refine RL.opD (by decide) (opv_move rfl rfl) ?_
     refine RL.opD (by decide) (opv_move rfl rfl) ?_
     refine RL.opD (by decide) (opv_loadA (us := [(.int .i64 a0_0), (.int .i64 a0_1), (.bool a0_2), u0_3, u0_4]) rfl Try.agg33 Try.size33 rfl (Sep.at (o := boxO bb1 [(.int .i64 a0_0), (.int .i64 a0_1), (.bool a0_2), u0_3, u0_4]) S_3 0 rfl) rfl rfl) ?_
     refine RL.opD (by decide) (opv_move rfl rfl) ?_
     refine RL.opD (by decide) (opv_move rfl rfl) ?_
     obtain ⟨x47, hx47, ho2⟩ := Option.bind_eq_some_iff.1 ho2
     refine RL.op _ (by decide) (opv_call (cap := []) (impl_Sheet_at_ok _ _ _ _ _ _ (SL.up (SL.mod g0_3 X_3 hlo hB) (Nat.le_trans hlo (Mod.size X_3))) _ _ (SL.up (SL.mod g0_4 X_3 hlo hB) (Nat.le_trans hlo (Mod.size X_3))) _ _ _ hx47) rfl rfl ⟨rfl, rfl, rfl, trivial⟩ Try.func108 rfl rfl) ?_
     rintro _ hp4 ⟨rfl, MT_2, T_2⟩
     obtain ⟨X_4, S_4⟩ := Sep.turn0 X_3 S_3 MT_2 T_2
     obtain ⟨x48, hx48, ho2⟩ := Option.bind_eq_some_iff.1 ho2
     have S_6 : Sep [some be0, some be1, some be2, ue2_3.ownBlock, ue2_4.ownBlock, some be3] h0.size hp4 [boxO be0 [(.int .i64 x25), (.int .i64 x26), (.bool x27), ue0_3, ue0_4], boxO be1 [(.int .i64 x28)], boxO be2 [(.int .i64 x29), (.int .i64 x30), (.bool x31), ue2_3, ue2_4], ownO (kF .f32) 29 ue2_3 x32, ownO (kF .f32) 29 ue2_4 x33, boxO be3 [v3]] := Sep.sel S_4 [1, 2, 3, 4, 5, 6] (by decide)
     have S_5 : Sep [some be0, some be1, some be2, ue2_3.ownBlock, ue2_4.ownBlock, some be3] hp4.size hp4 [boxO be0 [(.int .i64 x25), (.int .i64 x26), (.bool x27), ue0_3, ue0_4], boxO be1 [(.int .i64 x28)], boxO be2 [(.int .i64 x29), (.int .i64 x30), (.bool x31), ue2_3, ue2_4], ownO (kF .f32) 29 ue2_3 x32, ownO (kF .f32) 29 ue2_4 x33, boxO be3 [v3]] := Sep.own S_6 _
     refine RL.op _ (by decide) (opv_call (cap := [(.pointer (some ⟨be0, 0, none⟩)), (.pointer (some ⟨be1, 0, none⟩)), (.pointer (some ⟨be2, 0, none⟩)), (.pointer (some ⟨be3, 0, none⟩))]) (impl_GradeLosses_1_2_ok _ lo (Nat.le_trans hlo (Mod.size X_4)) _ _ _ _ _ _ _ _ _ (SL.mod ge0_3 X_4 hlo hB) _ _ (SL.mod ge0_4 X_4 hlo hB) _ _ _ _ _ _ _ _ _ _ _ _ _ fv3 S_5 (Sep.ge (L := [boxO be0 [(.int .i64 x25), (.int .i64 x26), (.bool x27), ue0_3, ue0_4], boxO be1 [(.int .i64 x28)], boxO be2 [(.int .i64 x29), (.int .i64 x30), (.bool x31), ue2_3, ue2_4], ownO (kF .f32) 29 ue2_3 x32, ownO (kF .f32) 29 ue2_4 x33, boxO be3 [v3]]) S_6 hlo hB) _ hx48) rfl rfl ⟨rfl, rfl, rfl, trivial⟩ Try.func102 rfl rfl) ?_
     rintro _ hp5 ⟨v5, rfl, fv5, MT_3, T_3⟩
     have S_7 : Sep [some be0, some be1, some be2, ue2_3.ownBlock, ue2_4.ownBlock, some be3] h0.size hp4 ([boxO be0 [(.int .i64 x25), (.int .i64 x26), (.bool x27), ue0_3, ue0_4], boxO be1 [(.int .i64 x28)], boxO be2 [(.int .i64 x29), (.int .i64 x30), (.bool x31), ue2_3, ue2_4], ownO (kF .f32) 29 ue2_3 x32, ownO (kF .f32) 29 ue2_4 x33, boxO be3 [v3]] ++ [boxO bb1 [(.int .i64 a0_0), (.int .i64 a0_1), (.bool a0_2), u0_3, u0_4]]) := Sep.sel S_4 [1, 2, 3, 4, 5, 6, 0] (by decide)
     obtain ⟨X_5, S_8⟩ := Sep.turn X_4 S_7 MT_3 T_3
     refine RL.nil ?_
     refine blkN ?_
     refine thnN ?_
     refine W.region ?_
     refine RL.opD (by decide) (opv_add rfl rfl rfl) ?_
     refine RL.opD (by decide) (opv_move rfl rfl) ?_
     refine RL.nil ?_
     have eo2 := Option.some.inj ho2
     subst eo2
     refine rndN (s' := (IntKind.wrap .i64 (x24 + 1), x48.1, x48.2.1, x48.2.2.1, x48.2.2.2.1, x48.2.2.2.2.1, x48.2.2.2.2.2.1, x48.2.2.2.2.2.2.1, x48.2.2.2.2.2.2.2.1, x48.2.2.2.2.2.2.2.2.1, x48.2.2.2.2.2.2.2.2.2)) rfl ?_
     exact ⟨v5, ⟨rfl, rfl, rfl, rfl, rfl, rfl, rfl, rfl, rfl, trivial⟩, fv5, X_5, (Sep.sel S_8 [6, 0, 1, 2, 3, 4, 5] (by decide))⟩
    ·rw [if_neg c2] at ho2
     have c2 := eq_false_of_ne_true c2
     refine W.condF rfl c2 ?_
     refine W.exit ?_
     refine thnX ?_
     refine rndX ?_
     refine blkI ?_
     have eo2 := Option.some.inj ho2
     subst eo2
     have ey2 := hy2 _ rfl
     subst ey2
     refine onlyN ?_
     exact ⟨x24, decide (x24 < a0_0), x25, x26, x27, x28, x29, x30, x31, x32, x33, x34, v3, rfl, ⟨rfl, rfl, rfl, rfl, rfl, rfl, rfl, rfl, rfl, rfl, trivial⟩, fv3, X_3, (Sep.sel S_3 [0, 1, 2, 3, 4, 5, 6] (by decide))⟩
   rintro φ' hp6 ⟨x35, x36, x37, x38, x39, x40, x41, x42, x43, x44, x45, x46, v4, rfl, hs4, fv4, X_6, S_9⟩
   try dsimp only at ho1
   refine blkN ?_
   refine thnN ?_
   refine W.sub hs4 ?_
   refine W.region ?_
   refine RL.opD (by decide) (opv_add rfl rfl rfl) ?_
   refine RL.opD (by decide) (opv_move rfl rfl) ?_
   refine RL.nil ?_
   have eo1 := Option.some.inj ho1
   subst eo1
   refine rndN (s' := (IntKind.wrap .i64 (x1 + 1), x37, x38, x39, x40, x41, x42, x43, x44, x45, x46)) rfl ?_
   exact ⟨v4, ⟨rfl, rfl, rfl, rfl, rfl, trivial⟩, fv4, X_6, (Sep.sel S_9 [0, 1, 2, 3, 4, 5, 6] (by decide))⟩
  ·rw [if_neg c1] at ho1
   have c1 := eq_false_of_ne_true c1
   refine W.condF rfl c1 ?_
   refine W.exit ?_
   refine thnX ?_
   refine rndX ?_
   refine blkI ?_
   have eo1 := Option.some.inj ho1
   subst eo1
   have ey1 := hy1 _ rfl
   subst ey1
   refine onlyN ?_
   exact ⟨x1, decide (x1 < a0_1), x2, x3, x4, x5, x6, x7, x8, x9, x10, x11, v1, rfl, ⟨rfl, rfl, rfl, rfl, rfl, rfl, trivial⟩, fv1, X_2, (Sep.sel S_2 [0, 1, 2, 3, 4, 5, 6] (by decide))⟩
 rintro φ' hp7 ⟨x12, x13, x14, x15, x16, x17, x18, x19, x20, x21, x22, x23, v2, rfl, hs2, fv2, X_7, S_10⟩
 try dsimp only at hp
 have er := Option.some.inj hp
 subst er
 exact Rt.none' rfl ⟨v2, rfl, fv2, X_7, (Sep.sel S_10 [1, 2, 3, 4, 5, 6] (by decide))⟩

set_option maxRecDepth 20000 in
theorem impl_GradeLosses_ok (h0 : Heap) (a0_0 : Int) (a0_1 : Int) (a0_2 : Bool) (u0_3 : Value) (a0_3 : List (Option Nat)) (g0_3 : SL (kF .f32) h0.size h0 u0_3 a0_3) (u0_4 : Value) (a0_4 : List (Option Nat)) (g0_4 : SL (kF .f32) h0.size h0 u0_4 a0_4) (a1 : Int) (u2 : Value) (a2 : Option Nat) (g2 : IsF .f32 u2 a2) (r : (Int × Int × Bool × (List (Option Nat)) × (List (Option Nat)) × Bool)) (hp : impl_GradeLosses a0_0 a0_1 a0_2 a0_3 a0_4 a1 a2 = some r) : CallsH Try.prog 40 ([(.agg (List.toArray (α := Value) [(.int .i64 a0_0), (.int .i64 a0_1), (.bool a0_2), u0_3, u0_4])), (.int .i64 a1), u2].toArray ++ [].toArray) h0 (fun v h' => ∃ w3, ∃ w4, v = (.tuple (List.toArray (α := Value) [(.agg (List.toArray (α := Value) [(.int .i64 r.1), (.int .i64 r.2.1), (.bool r.2.2.1), w3, w4])), (.bool r.2.2.2.2.2)])) ∧ Mod [] h0 h' ∧ Sep [] h0.size h' [ownO (kF .f32) 29 w3 r.2.2.2.1, ownO (kF .f32) 29 w4 r.2.2.2.2.1]) := by
 unfold impl_GradeLosses at hp
 refine callsH_of_W (l := [(.agg (List.toArray (α := Value) [(.int .i64 a0_0), (.int .i64 a0_1), (.bool a0_2), u0_3, u0_4])), (.int .i64 a1), u2]) (cap := []) 29 Try.func40 rfl rfl rfl ?_
 refine W.seq ?_
 refine W.region ?_
 refine RL.op _ (by decide) (opS_boxed (opv_boxA (cs := [(.int .i64 a0_0), (.int .i64 a0_1), (.bool a0_2), u0_3, u0_4]) rfl rfl)) ?_
 rintro _ hp1 ⟨bb1, rfl, MT_1, T_1⟩
 obtain ⟨X_1, S_1⟩ := Sep.turn0 (Mod.refl [] h0) (Sep.nil [] h0.size h0) MT_1 T_1
 refine RL.op _ (by decide) (opS_boxed (opv_box1 rfl rfl rfl)) ?_
 rintro _ hp2 ⟨bb2, rfl, MT_2, T_2⟩
 obtain ⟨X_2, S_2⟩ := Sep.turn0 X_1 S_1 MT_2 T_2
 refine RL.op _ (by decide) (opS_boxed (opv_box1 rfl rfl (IsF.one g2))) ?_
 rintro _ hp3 ⟨bb3, rfl, MT_3, T_3⟩
 obtain ⟨X_3, S_3⟩ := Sep.turn0 X_2 S_2 MT_3 T_3
 refine RL.op _ (by decide) (opS_boxed (opv_alloc (cs := [(.int .i64 0), (.int .i64 0), (.bool false), (.slice none 0 0), (.slice none 0 0)]) rfl Try.zero33 rfl)) ?_
 rintro _ hp4 ⟨bb4, rfl, MT_4, T_4⟩
 obtain ⟨X_4, S_4⟩ := Sep.turn0 X_3 S_3 MT_4 T_4
 refine RL.opD (by decide) (opv_assign rfl rfl) ?_
 refine RL.nil ?_
 refine thnN ?_
 refine W.seq ?_
 refine W.seq ?_
 obtain ⟨x1, hy1, hp⟩ := Option.bind_eq_some_iff.1 hp
 refine W.cut (fun φ' h' => Fr.sub [(0, (.agg (List.toArray (α := Value) [(.int .i64 a0_0), (.int .i64 a0_1), (.bool a0_2), u0_3, u0_4]))), (1, (.int .i64 a1)), (2, u2), (3, (.pointer (some ⟨bb1, 0, none⟩))), (4, (.pointer (some ⟨bb2, 0, none⟩))), (5, (.pointer (some ⟨bb3, 0, none⟩))), (6, (.pointer (some ⟨bb4, 0, none⟩))), (7, (.bool false)), (21, (.bool x1))] φ' ∧ Mod [] h0 h' ∧ Sep [] h0.size h' [boxO bb4 [(.int .i64 0), (.int .i64 0), (.bool false), (.slice none 0 0), (.slice none 0 0)], boxO bb3 [u2], boxO bb2 [(.int .i64 a1)], boxO bb1 [(.int .i64 a0_0), (.int .i64 a0_1), (.bool a0_2), u0_3, u0_4]]) ?_ ?_
 ·refine W.region ?_
  refine RL.opD (by decide) (opv_loadA (us := [(.int .i64 a0_0), (.int .i64 a0_1), (.bool a0_2), u0_3, u0_4]) rfl Try.agg33 Try.size33 rfl (Sep.at (o := boxO bb1 [(.int .i64 a0_0), (.int .i64 a0_1), (.bool a0_2), u0_3, u0_4]) S_4 3 rfl) rfl rfl) ?_
  obtain ⟨x2, hx2, hy1⟩ := Option.bind_eq_some_iff.1 hy1
  refine RL.op _ (by decide) (opv_call (cap := []) (impl_ValidSheet_ok _ _ _ _ _ _ (SL.up (SL.mod g0_3 X_4 (Nat.le_refl _) nob) (Nat.le_trans (Nat.le_refl _) (Mod.size X_4))) _ _ (SL.up (SL.mod g0_4 X_4 (Nat.le_refl _) nob) (Nat.le_trans (Nat.le_refl _) (Mod.size X_4))) _ hx2) rfl rfl ⟨rfl, trivial⟩ Try.func45 rfl rfl) ?_
  rintro _ hp5 ⟨rfl, MT_5, T_5⟩
  obtain ⟨X_5, S_5⟩ := Sep.turn0 X_4 S_4 MT_5 T_5
  refine RL.opD (by decide) (opv_not rfl rfl) ?_
  refine RL.opD (by decide) (opv_move rfl rfl) ?_
  by_cases c1 : (!x2) = true
  ·rw [if_pos c1] at hy1
   refine RL.noT rfl rfl c1 (by decide) ?_
   refine RL.noT rfl rfl c1 (by decide) ?_
   refine RL.noT rfl rfl c1 (by decide) ?_
   refine RL.opD (by decide) (opv_pick rfl rfl (fun _ => rfl) (fun e => absurd (Eq.trans (Eq.symm e) c1) (by decide)) rfl) ?_
   refine RL.opD (by decide) (opv_move rfl rfl) ?_
   refine RL.noT rfl rfl rfl (by decide) ?_
   refine RL.noT rfl rfl rfl (by decide) ?_
   refine RL.noT rfl rfl rfl (by decide) ?_
   refine RL.opD (by decide) (opv_pick rfl rfl (fun _ => rfl) (fun e => absurd (Eq.trans (Eq.symm e) rfl) (by decide)) rfl) ?_
   refine RL.nil ?_
   have ey1 := Option.some.inj hy1
   subst ey1
   refine onlyN ?_
   exact ⟨⟨rfl, rfl, rfl, rfl, rfl, rfl, rfl, rfl, rfl, trivial⟩, X_5, (Sep.sel S_5 [0, 1, 2, 3] (by decide))⟩
  ·rw [if_neg c1] at hy1
   have c1 := eq_false_of_ne_true c1
   refine RL.yesD rfl rfl c1 (by decide) (opv_loadB rfl Try.one2 rfl (Sep.at (o := boxO bb2 [(.int .i64 a1)]) S_5 2 rfl) rfl) ?_
   obtain ⟨x3, hx3, hy1⟩ := Option.bind_eq_some_iff.1 hy1
   refine RL.yes _ rfl rfl c1 (by decide) (opv_call (cap := []) (impl_isWidth_ok _ _ _ hx3) rfl rfl ⟨rfl, trivial⟩ Try.func98 rfl rfl) ?_
   rintro _ _ ⟨rfl, rfl⟩
   refine RL.yesD rfl rfl c1 (by decide) (opv_not rfl rfl) ?_
   refine RL.opD (by decide) (opv_pick rfl rfl (fun e => absurd (Eq.trans (Eq.symm e) c1) (by decide)) (fun _ => rfl) rfl) ?_
   refine RL.opD (by decide) (opv_move rfl rfl) ?_
   by_cases c2 : (!x3) = true
   ·rw [if_pos c2] at hy1
    refine RL.noT rfl rfl c2 (by decide) ?_
    refine RL.noT rfl rfl c2 (by decide) ?_
    refine RL.noT rfl rfl c2 (by decide) ?_
    refine RL.opD (by decide) (opv_pick rfl rfl (fun _ => rfl) (fun e => absurd (Eq.trans (Eq.symm e) c2) (by decide)) rfl) ?_
    refine RL.nil ?_
    have ey1 := Option.some.inj hy1
    subst ey1
    refine onlyN ?_
    exact ⟨⟨rfl, rfl, rfl, rfl, rfl, rfl, rfl, rfl, rfl, trivial⟩, X_5, (Sep.sel S_5 [0, 1, 2, 3] (by decide))⟩
   ·rw [if_neg c2] at hy1
    have c2 := eq_false_of_ne_true c2
    refine RL.yesD rfl rfl c2 (by decide) (opv_loadB rfl Try.one29 rfl (Sep.at (o := boxO bb3 [u2]) S_5 1 rfl) rfl) ?_
    obtain ⟨x4, hx4, hy1⟩ := Option.bind_eq_some_iff.1 hy1
    refine RL.yes _ rfl rfl c2 (by decide) (opv_call (cap := []) (impl_isShare_ok _ _ _ g2 _ hx4) rfl rfl ⟨rfl, trivial⟩ Try.func99 rfl rfl) ?_
    rintro _ _ ⟨rfl, rfl⟩
    refine RL.yesD rfl rfl c2 (by decide) (opv_not rfl rfl) ?_
    refine RL.opD (by decide) (opv_pick rfl rfl (fun e => absurd (Eq.trans (Eq.symm e) c2) (by decide)) (fun _ => rfl) rfl) ?_
    refine RL.nil ?_
    have ey1 := Option.some.inj hy1
    subst ey1
    refine onlyN ?_
    exact ⟨⟨rfl, rfl, rfl, rfl, rfl, rfl, rfl, rfl, rfl, trivial⟩, X_5, (Sep.sel S_5 [0, 1, 2, 3] (by decide))⟩
 rintro φ' hp6 ⟨hs1, X_6, S_6⟩
 refine thnN ?_
 refine W.sub hs1 ?_
 by_cases c3 : x1 = true
 ·rw [if_pos c3] at hp
  refine W.condT rfl c3 ?_
  refine W.seq ?_
  refine W.region ?_
  refine RL.opD (by decide) (opv_build (cs := [(.int .i64 0), (.int .i64 0), (.bool false), (.slice none 0 0), (.slice none 0 0)]) [] [] rfl Try.bd33 trivial rfl) ?_
  refine RL.op0 _ (opS_stored (cs := [(.int .i64 0), (.int .i64 0), (.bool false), (.slice none 0 0), (.slice none 0 0)]) (cs' := [(.int .i64 0), (.int .i64 0), (.bool false), (.slice none 0 0), (.slice none 0 0)]) (opv_storeA (us := [(.int .i64 0), (.int .i64 0), (.bool false), (.slice none 0 0), (.slice none 0 0)]) rfl Try.size33 rfl rfl (oneAll rfl (oneAll rfl (oneAll rfl (oneAll rfl (oneAll rfl rfl))))) (Sep.at (o := boxO bb4 [(.int .i64 0), (.int .i64 0), (.bool false), (.slice none 0 0), (.slice none 0 0)]) S_6 0 rfl) rfl rfl) (Sep.at (o := boxO bb4 [(.int .i64 0), (.int .i64 0), (.bool false), (.slice none 0 0), (.slice none 0 0)]) S_6 0 rfl)) ?_
  rintro _ hp7 ⟨rfl, MT_6, T_6⟩
  have S_7 : Sep [] h0.size hp6 ([boxO bb4 [(.int .i64 0), (.int .i64 0), (.bool false), (.slice none 0 0), (.slice none 0 0)]] ++ [boxO bb3 [u2], boxO bb2 [(.int .i64 a1)], boxO bb1 [(.int .i64 a0_0), (.int .i64 a0_1), (.bool a0_2), u0_3, u0_4]]) := Sep.sel S_6 [0, 1, 2, 3] (by decide)
  obtain ⟨X_7, S_8⟩ := Sep.turn X_6 S_7 MT_6 T_6
  refine RL.opD (by decide) (opv_assign rfl rfl) ?_
  refine RL.nil ?_
  refine thnN ?_
  refine W.ret ?_
  refine thnR ?_
  have S_9 : Sep [] h0.size hp7 [ownO (kF .f32) 29 (.slice none 0 0) ([] : List (Option Nat)), boxO bb4 [(.int .i64 0), (.int .i64 0), (.bool false), (.slice none 0 0), (.slice none 0 0)], boxO bb3 [u2], boxO bb2 [(.int .i64 a1)], boxO bb1 [(.int .i64 a0_0), (.int .i64 a0_1), (.bool a0_2), u0_3, u0_4]] := Sep.addNil S_8
  have S_10 : Sep [] h0.size hp7 [ownO (kF .f32) 29 (.slice none 0 0) ([] : List (Option Nat)), ownO (kF .f32) 29 (.slice none 0 0) ([] : List (Option Nat)), boxO bb4 [(.int .i64 0), (.int .i64 0), (.bool false), (.slice none 0 0), (.slice none 0 0)], boxO bb3 [u2], boxO bb2 [(.int .i64 a1)], boxO bb1 [(.int .i64 a0_0), (.int .i64 a0_1), (.bool a0_2), u0_3, u0_4]] := Sep.addNil S_9
  have er := Option.some.inj hp
  subst er
  exact Rt.cellA rfl rfl rfl Try.agg33 Try.size33 (Sep.at (o := boxO bb4 [(.int .i64 0), (.int .i64 0), (.bool false), (.slice none 0 0), (.slice none 0 0)]) S_10 2 rfl) rfl ⟨(.slice none 0 0), (.slice none 0 0), rfl, X_7, (Sep.sel S_10 [1, 0] (by decide))⟩
 ·rw [if_neg c3] at hp
  have c3 := eq_false_of_ne_true c3
  refine W.condF rfl c3 ?_
  refine W.skip ?_
  refine thnN ?_
  refine W.seq ?_
  refine W.region ?_
  refine RL.opD (by decide) (opv_loadA (us := [(.int .i64 a0_0), (.int .i64 a0_1), (.bool a0_2), u0_3, u0_4]) rfl Try.agg33 Try.size33 rfl (Sep.at (o := boxO bb1 [(.int .i64 a0_0), (.int .i64 a0_1), (.bool a0_2), u0_3, u0_4]) S_6 3 rfl) rfl rfl) ?_
  obtain ⟨x5, hx5, hp⟩ := Option.bind_eq_some_iff.1 hp
  refine RL.op _ (by decide) (opv_call (cap := []) (impl_copySheet_ok _ _ _ _ _ _ (SL.up (SL.mod g0_3 X_6 (Nat.le_refl _) nob) (Nat.le_trans (Nat.le_refl _) (Mod.size X_6))) _ _ (SL.up (SL.mod g0_4 X_6 (Nat.le_refl _) nob) (Nat.le_trans (Nat.le_refl _) (Mod.size X_6))) _ hx5) rfl rfl ⟨rfl, trivial⟩ Try.func100 rfl rfl) ?_
  rintro _ hp8 ⟨v1, v2, rfl, MT_7, T_7⟩
  obtain ⟨X_8, S_11⟩ := Sep.turn0 X_6 S_6 MT_7 T_7
  refine RL.op _ (by decide) (opS_boxed (opv_alloc (cs := [(.int .i64 0), (.int .i64 0), (.bool false), (.slice none 0 0), (.slice none 0 0)]) rfl Try.zero33 rfl)) ?_
  rintro _ hp9 ⟨bb5, rfl, MT_8, T_8⟩
  obtain ⟨X_9, S_12⟩ := Sep.turn0 X_8 S_11 MT_8 T_8
  refine RL.op0 _ (opS_stored (cs := [(.int .i64 0), (.int .i64 0), (.bool false), (.slice none 0 0), (.slice none 0 0)]) (cs' := [(.int .i64 x5.1), (.int .i64 x5.2.1), (.bool x5.2.2.1), v1, v2]) (opv_storeA (us := [(.int .i64 x5.1), (.int .i64 x5.2.1), (.bool x5.2.2.1), v1, v2]) rfl Try.size33 rfl rfl (oneAll rfl (oneAll rfl (oneAll rfl (oneAll (ownO.one (Sep.at (o := ownO (kF .f32) 29 v1 x5.2.2.2.1) S_12 1 rfl)) (oneAll (ownO.one (Sep.at (o := ownO (kF .f32) 29 v2 x5.2.2.2.2) S_12 2 rfl)) rfl))))) (Sep.at (o := boxO bb5 [(.int .i64 0), (.int .i64 0), (.bool false), (.slice none 0 0), (.slice none 0 0)]) S_12 0 rfl) rfl rfl) (Sep.at (o := boxO bb5 [(.int .i64 0), (.int .i64 0), (.bool false), (.slice none 0 0), (.slice none 0 0)]) S_12 0 rfl)) ?_
  rintro _ hp10 ⟨rfl, MT_9, T_9⟩
  have S_13 : Sep [] h0.size hp9 ([boxO bb5 [(.int .i64 0), (.int .i64 0), (.bool false), (.slice none 0 0), (.slice none 0 0)]] ++ [ownO (kF .f32) 29 v1 x5.2.2.2.1, ownO (kF .f32) 29 v2 x5.2.2.2.2, boxO bb4 [(.int .i64 0), (.int .i64 0), (.bool false), (.slice none 0 0), (.slice none 0 0)], boxO bb3 [u2], boxO bb2 [(.int .i64 a1)], boxO bb1 [(.int .i64 a0_0), (.int .i64 a0_1), (.bool a0_2), u0_3, u0_4]]) := Sep.sel S_12 [0, 1, 2, 3, 4, 5, 6] (by decide)
  obtain ⟨X_10, S_14⟩ := Sep.turn X_9 S_13 MT_9 T_9
  refine RL.nil ?_
  refine thnN ?_
  refine W.seq ?_
  refine W.region ?_
  refine RL.opD (by decide) (opv_loadA (us := [(.int .i64 a0_0), (.int .i64 a0_1), (.bool a0_2), u0_3, u0_4]) rfl Try.agg33 Try.size33 rfl (Sep.at (o := boxO bb1 [(.int .i64 a0_0), (.int .i64 a0_1), (.bool a0_2), u0_3, u0_4]) S_14 6 rfl) rfl rfl) ?_
  refine RL.opD (by decide) (opv_makeFunc (vs := [(.pointer (some ⟨bb1, 0, none⟩)), (.pointer (some ⟨bb2, 0, none⟩)), (.pointer (some ⟨bb5, 0, none⟩)), (.pointer (some ⟨bb3, 0, none⟩))]) rfl ⟨rfl, rfl, rfl, rfl, trivial⟩) ?_
  obtain ⟨x6, hx6, hp⟩ := Option.bind_eq_some_iff.1 hp
  have S_16 : Sep [] h0.size hp10 [boxO bb1 [(.int .i64 a0_0), (.int .i64 a0_1), (.bool a0_2), u0_3, u0_4], boxO bb2 [(.int .i64 a1)], boxO bb5 [(.int .i64 x5.1), (.int .i64 x5.2.1), (.bool x5.2.2.1), v1, v2], ownO (kF .f32) 29 v1 x5.2.2.2.1, ownO (kF .f32) 29 v2 x5.2.2.2.2, boxO bb3 [u2]] := Sep.sel S_14 [6, 5, 0, 1, 2, 4] (by decide)
  have S_15 : Sep [some bb1, some bb2, some bb5, v1.ownBlock, v2.ownBlock, some bb3] hp10.size hp10 [boxO bb1 [(.int .i64 a0_0), (.int .i64 a0_1), (.bool a0_2), u0_3, u0_4], boxO bb2 [(.int .i64 a1)], boxO bb5 [(.int .i64 x5.1), (.int .i64 x5.2.1), (.bool x5.2.2.1), v1, v2], ownO (kF .f32) 29 v1 x5.2.2.2.1, ownO (kF .f32) 29 v2 x5.2.2.2.2, boxO bb3 [u2]] := Sep.own S_16 _
  refine RL.op _ (by decide) (opv_call (cap := []) (impl_Sheet_each__impl_GradeLosses_1_ok _ h0.size (Nat.le_trans (Nat.le_refl _) (Mod.size X_10)) _ _ _ _ _ (SL.mod g0_3 X_10 (Nat.le_refl _) nob) _ _ (SL.mod g0_4 X_10 (Nat.le_refl _) nob) _ _ _ _ _ _ (SL.mod g0_3 X_10 (Nat.le_refl _) nob) _ _ (SL.mod g0_4 X_10 (Nat.le_refl _) nob) _ _ _ _ _ _ _ _ _ _ _ _ _ g2 S_15 (Sep.ge (L := [boxO bb1 [(.int .i64 a0_0), (.int .i64 a0_1), (.bool a0_2), u0_3, u0_4], boxO bb2 [(.int .i64 a1)], boxO bb5 [(.int .i64 x5.1), (.int .i64 x5.2.1), (.bool x5.2.2.1), v1, v2], ownO (kF .f32) 29 v1 x5.2.2.2.1, ownO (kF .f32) 29 v2 x5.2.2.2.2, boxO bb3 [u2]]) S_16 (Nat.le_refl _) nob) _ hx6) rfl rfl ⟨rfl, rfl, trivial⟩ Try.func101 rfl rfl) ?_
  rintro _ hp11 ⟨v3, rfl, fv3, MT_10, T_10⟩
  have S_17 : Sep [] h0.size hp10 ([boxO bb1 [(.int .i64 a0_0), (.int .i64 a0_1), (.bool a0_2), u0_3, u0_4], boxO bb2 [(.int .i64 a1)], boxO bb5 [(.int .i64 x5.1), (.int .i64 x5.2.1), (.bool x5.2.2.1), v1, v2], ownO (kF .f32) 29 v1 x5.2.2.2.1, ownO (kF .f32) 29 v2 x5.2.2.2.2, boxO bb3 [u2]] ++ [boxO bb4 [(.int .i64 0), (.int .i64 0), (.bool false), (.slice none 0 0), (.slice none 0 0)]]) := Sep.sel S_14 [6, 5, 0, 1, 2, 4, 3] (by decide)
  obtain ⟨X_11, S_18⟩ := Sep.turn X_10 S_17 MT_10 T_10
  refine RL.nil ?_
  refine thnN ?_
  refine W.seq ?_
  refine W.region ?_
  refine RL.opD (by decide) (opv_loadA (us := [(.int .i64 x6.2.2.2.2.1), (.int .i64 x6.2.2.2.2.2.1), (.bool x6.2.2.2.2.2.2.1), v1, v2]) rfl Try.agg33 Try.size33 rfl (Sep.at (o := boxO bb5 [(.int .i64 x6.2.2.2.2.1), (.int .i64 x6.2.2.2.2.2.1), (.bool x6.2.2.2.2.2.2.1), v1, v2]) S_18 2 rfl) rfl rfl) ?_
  refine RL.op0 _ (opS_stored (cs := [(.int .i64 0), (.int .i64 0), (.bool false), (.slice none 0 0), (.slice none 0 0)]) (cs' := [(.int .i64 x6.2.2.2.2.1), (.int .i64 x6.2.2.2.2.2.1), (.bool x6.2.2.2.2.2.2.1), v1, v2]) (opv_storeA (us := [(.int .i64 x6.2.2.2.2.1), (.int .i64 x6.2.2.2.2.2.1), (.bool x6.2.2.2.2.2.2.1), v1, v2]) rfl Try.size33 rfl rfl (oneAll rfl (oneAll rfl (oneAll rfl (oneAll (ownO.one (Sep.at (o := ownO (kF .f32) 29 v1 x6.2.2.2.2.2.2.2.1) S_18 3 rfl)) (oneAll (ownO.one (Sep.at (o := ownO (kF .f32) 29 v2 x6.2.2.2.2.2.2.2.2.1) S_18 4 rfl)) rfl))))) (Sep.at (o := boxO bb4 [(.int .i64 0), (.int .i64 0), (.bool false), (.slice none 0 0), (.slice none 0 0)]) S_18 6 rfl) rfl rfl) (Sep.at (o := boxO bb4 [(.int .i64 0), (.int .i64 0), (.bool false), (.slice none 0 0), (.slice none 0 0)]) S_18 6 rfl)) ?_
  rintro _ hp12 ⟨rfl, MT_11, T_11⟩
  have S_19 : Sep [] h0.size hp11 ([boxO bb4 [(.int .i64 0), (.int .i64 0), (.bool false), (.slice none 0 0), (.slice none 0 0)]] ++ [boxO bb1 [(.int .i64 x6.1), (.int .i64 x6.2.1), (.bool x6.2.2.1), u0_3, u0_4], boxO bb2 [(.int .i64 x6.2.2.2.1)], boxO bb5 [(.int .i64 x6.2.2.2.2.1), (.int .i64 x6.2.2.2.2.2.1), (.bool x6.2.2.2.2.2.2.1), v1, v2], ownO (kF .f32) 29 v1 x6.2.2.2.2.2.2.2.1, ownO (kF .f32) 29 v2 x6.2.2.2.2.2.2.2.2.1, boxO bb3 [v3]]) := Sep.sel S_18 [6, 0, 1, 2, 3, 4, 5] (by decide)
  obtain ⟨X_12, S_20⟩ := Sep.turn X_11 S_19 MT_11 T_11
  refine RL.opD (by decide) (opv_assign rfl rfl) ?_
  refine RL.nil ?_
  refine thnN ?_
  refine W.ret ?_
  have er := Option.some.inj hp
  subst er
  exact Rt.cellA rfl rfl rfl Try.agg33 Try.size33 (Sep.at (o := boxO bb4 [(.int .i64 x6.2.2.2.2.1), (.int .i64 x6.2.2.2.2.2.1), (.bool x6.2.2.2.2.2.2.1), v1, v2]) S_20 0 rfl) rfl ⟨v1, v2, rfl, X_12, (Sep.sel S_20 [4, 5] (by decide))⟩

end Go.H
