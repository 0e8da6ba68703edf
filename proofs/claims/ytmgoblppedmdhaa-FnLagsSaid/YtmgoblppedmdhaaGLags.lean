/- Functions of the program: what each computes, as a plain function, and that the call comes to it. Written by a program (wip/gen). -/
import Derived.Test.YtmgoblppedmdhaaGBase
import Derived.Test.YtmgoblppedmdhaaGSheet
import Derived.Test.YtmgoblppedmdhaaGSrc
import Derived.Test.YtmgoblppedmdhaaGRec
import Derived.Test.YtmgoblppedmdhaaLibB
import Derived.Test.YtmgoblppedmdhaaProg
import Derived.KernelRfl
set_option linter.unusedVariables false
namespace Go.H
open Go Go.Proofs



noncomputable def impl_correlation.s0 (a0 : List (Option Nat)) (a1 : List (Option Nat)) (a2 : Int) (x1 : Option Nat) (x2 : Int) : Option (((Option Nat) × Int) ⊕ ((Option Nat) × Int × Bool)) :=
 (if (decide (x2 < (a0.length : Int))) = true then ((idx a0 x2).bind fun (x6 : Option Nat) => ((impl_within (IntKind.wrap .i64 (x2 + a2)) 0 (IntKind.wrap .i64 ((a1.length : Int) - 1))).bind fun (x7 : Bool) => (((if x7 = true then ((idx a1 (IntKind.wrap .i64 (x2 + a2))).bind fun (x9 : Option Nat) => some (fop .add .f64 x1 (fop .mul .f64 (wid x6) (wid x9)))) else some x1) : Option (Option Nat)).bind fun (x8 : Option Nat) => some (.inl (x8, IntKind.wrap .i64 (x2 + 1)))))) else some (.inr (x1, x2, decide (x2 < (a0.length : Int)))))

noncomputable def impl_correlation (a0 : List (Option Nat)) (a1 : List (Option Nat)) (a2 : Int) : Option (Option Nat) :=
 ((loopF (fun (s : ((Option Nat) × Int)) => impl_correlation.s0 a0 a1 a2 s.1 s.2) ((some 0), 0)).bind fun (⟨x3, x4, x5⟩ : ((Option Nat) × Int × Bool)) => ((fcv .f64 .f32 x3).bind fun (x10 : Option Nat) => some x10))

noncomputable def impl_LagOf.s0 (a0 : List (Option Nat)) (a1 : List (Option Nat)) (a2 : Int) (x5 : Int) (x6 : Option Nat) (x7 : Bool) (x8 : Int) : Option ((Int × (Option Nat) × Bool × Int) ⊕ (Int × (Option Nat) × Bool × Int × Bool)) :=
 (if (decide (x8 ≤ a2)) = true then ((impl_correlation a0 a1 x8).bind fun (x14 : Option Nat) => (((if (fcmp .eql .f32 x14 x14) = true then (if (!x7) = true then some true else some (fcmp .gtr .f32 x14 x6)) else some false) : Option Bool).bind fun (x15 : Bool) => (((if x15 = true then some (x8, x14, true) else some (x5, x6, x7)) : Option (Int × (Option Nat) × Bool)).bind fun (⟨x16, x17, x18⟩ : (Int × (Option Nat) × Bool)) => some (.inl (x16, x17, x18, IntKind.wrap .i64 (x8 + 1)))))) else some (.inr (x5, x6, x7, x8, decide (x8 ≤ a2))))

noncomputable def impl_LagOf (a0 : List (Option Nat)) (a1 : List (Option Nat)) (a2 : Int) : Option (Int × Bool) :=
 ((((impl_isRecord_float32 a0).bind fun (x2 : Bool) => (if (!x2) = true then some true else ((impl_isRecord_float32 a1).bind fun (x3 : Bool) => (if (!x3) = true then some true else ((impl_within a2 0 64).bind fun (x4 : Bool) => some (!x4)))))) : Option Bool).bind fun (x1 : Bool) => (if x1 = true then some (0, false) else ((loopF (fun (s : (Int × (Option Nat) × Bool × Int)) => impl_LagOf.s0 a0 a1 a2 s.1 s.2.1 s.2.2.1 s.2.2.2) (0, (some 0), false, IntKind.wrap .i64 (0 - a2))).bind fun (⟨x9, x10, x11, x12, x13⟩ : (Int × (Option Nat) × Bool × Int × Bool)) => some (x9, x11))))

noncomputable def impl_CorrelationAt (a0 : List (Option Nat)) (a1 : List (Option Nat)) (a2 : Int) : Option ((Option Nat) × Bool) :=
 ((((impl_isRecord_float32 a0).bind fun (x2 : Bool) => (if (!x2) = true then some true else ((impl_isRecord_float32 a1).bind fun (x3 : Bool) => (if (!x3) = true then some true else ((impl_within a2 (-64) 64).bind fun (x4 : Bool) => some (!x4)))))) : Option Bool).bind fun (x1 : Bool) => (if x1 = true then some ((some 0), false) else ((impl_correlation a0 a1 a2).bind fun (x5 : Option Nat) => some (x5, true))))

noncomputable def laws_FnLags.s0 (x2 : Int) (x3 : List (Option Nat)) (x6 : Bool) (x7 : Int) : Option ((Bool × Int) ⊕ (Bool × Int × Bool)) :=
 (if (decide (x7 < (IntKind.wrap .i64 (1 + x2)))) = true then (((if x6 = true then ((idx x3 x7).bind fun (x12 : Option Nat) => some (fcmp .eql .f32 x12 (some 0))) else some false) : Option Bool).bind fun (x11 : Bool) => some (.inl (x11, IntKind.wrap .i64 (x7 + 1)))) else some (.inr (x6, x7, decide (x7 < (IntKind.wrap .i64 (1 + x2))))))

noncomputable def laws_FnLags (a0 : List (Int)) (a1 : List (Int)) : Option Bool :=
 ((laws_r8Long a0 a1).bind fun (x1 : Bool) => (if x1 = true then some true else ((laws_r8At a1 40 8).bind fun (x2 : Int) => ((spec_R8Record a0 (IntKind.wrap .i64 (1 + x2))).bind fun (x3 : List (Option Nat)) => ((laws_r8At a1 41 8).bind fun (x4 : Int) => (if 0 ≤ x4 ∧ x4 ≤ 1000000000 then (if (List.replicate (Int.toNat x4) (some 0)).length + x3.length ≤ 1000000000 then ((impl_LagOf x3 ((List.replicate (Int.toNat x4) (some 0)) ++ x3) 8).bind fun (x5 : (Int × Bool)) => ((loopF (fun (s : (Bool × Int)) => laws_FnLags.s0 x2 x3 s.1 s.2) (true, 0)).bind fun (⟨x8, x9, x10⟩ : (Bool × Int × Bool)) => ((laws_r8At a1 42 17).bind fun (x13 : Int) => ((impl_CorrelationAt x3 ((List.replicate (Int.toNat x4) (some 0)) ++ x3) (IntKind.wrap .i64 (x13 - 8))).bind fun (x14 : ((Option Nat) × Bool)) => ((impl_CorrelationAt ((List.replicate (Int.toNat x4) (some 0)) ++ x3) x3 (IntKind.wrap .i64 (0 - (IntKind.wrap .i64 (x13 - 8))))).bind fun (x15 : ((Option Nat) × Bool)) => (((if x5.2 = true then (if x14.2 = true then (if x15.2 = true then (if (fcmp .eql .f32 x14.1 x15.1) = true then (if x8 = true then (if (x5.1 == (-8)) = true then some true else (if (!x8) = true then some (x5.1 == x4) else some false)) else (if (!x8) = true then some (x5.1 == x4) else some false)) else some false) else some false) else some false) else some false) : Option Bool).bind fun (x16 : Bool) => some x16)))))) else none) else none))))))

set_option maxRecDepth 20000 in
theorem impl_correlation_ok (h0 : Heap) (u0 : Value) (a0 : List (Option Nat)) (g0 : SL (kF .f32) h0.size h0 u0 a0) (u1 : Value) (a1 : List (Option Nat)) (g1 : SL (kF .f32) h0.size h0 u1 a1) (a2 : Int) (r : Option Nat) (hp : impl_correlation a0 a1 a2 = some r) : CallsH Try.prog 72 ([u0, u1, (.int .i64 a2)].toArray ++ [].toArray) h0 (fun v h' => IsF .f32 v r ∧ h0 = h') := by
 unfold impl_correlation at hp
 refine callsH_of_W (l := [u0, u1, (.int .i64 a2)]) (cap := []) 39 Try.func72 rfl rfl rfl ?_
 refine W.seq ?_
 refine W.region ?_
 refine RL.opD (by decide) (opv_assign rfl rfl) ?_
 refine RL.nil ?_
 refine thnN ?_
 refine W.seq ?_
 refine W.region ?_
 refine RL.opD (by decide) (opv_assign rfl rfl) ?_
 refine RL.nil ?_
 refine thnN ?_
 refine W.seq ?_
 refine W.seq ?_
 refine W.region ?_
 refine RL.opD (by decide) (opv_move rfl rfl) ?_
 refine RL.opD (by decide) (opv_len rfl Try.underlying25 rfl g0) ?_
 refine RL.opD (by decide) (opv_move rfl rfl) ?_
 refine RL.nil ?_
 refine thnN ?_
 obtain ⟨y1, hy1, hp⟩ := Option.bind_eq_some_iff.1 hp
 refine W.cut (fun φ' h' => ∃ x3, ∃ x4, ∃ x5, ∃ v2, y1 = (x3, x4, x5) ∧ Fr.sub [(0, u0), (1, u1), (2, (.int .i64 a2)), (6, (.float .f32 0)), (11, u0), (12, (.int .i64 (a0.length : Int))), (7, v2), (13, (.int .i64 x4)), (14, (.bool x5))] φ' ∧ IsF .f64 v2 x3 ∧ h0 = h') ?_ ?_
 ·refine W.block ?_
  refine W.loopS (fun (s : ((Option Nat) × Int)) φ' h' => ∃ v1, Fr.sub [(0, u0), (1, u1), (2, (.int .i64 a2)), (6, (.float .f32 0)), (11, u0), (12, (.int .i64 (a0.length : Int))), (7, v1), (13, (.int .i64 s.2))] φ' ∧ IsF .f64 v1 s.1 ∧ h0 = h') hy1 ⟨(.float .f64 0), ⟨rfl, rfl, rfl, rfl, rfl, rfl, rfl, rfl, trivial⟩, (isF_lit .f64 0 (by decide) (by decide)), rfl⟩ ?_
  rintro ⟨x1, x2⟩ φ' _ o1 ⟨v1, hs1, fv1, rfl⟩ ho1 hy1
  have hs1 : Fr.sub [(0, u0), (1, u1), (2, (.int .i64 a2)), (6, (.float .f32 0)), (11, u0), (12, (.int .i64 (a0.length : Int))), (7, v1), (13, (.int .i64 x2))] φ' := hs1
  have fv1 : IsF .f64 v1 x1 := fv1
  have ho1 : impl_correlation.s0 a0 a1 a2 x1 x2 = some o1 := ho1
  unfold impl_correlation.s0 at ho1
  refine W.sub hs1 ?_
  refine W.seq ?_
  refine W.region ?_
  refine RL.opD (by decide) (opv_icmp rfl rfl rfl rfl) ?_
  refine RL.nil ?_
  refine thnN ?_
  refine W.seq ?_
  by_cases c1 : (decide (x2 < (a0.length : Int))) = true
  ·rw [if_pos c1] at ho1
   refine W.condT rfl c1 ?_
   refine W.skip ?_
   refine thnN ?_
   refine W.seq ?_
   refine W.block ?_
   refine W.seq ?_
   refine W.region ?_
   refine RL.opD (by decide) (opv_move rfl rfl) ?_
   obtain ⟨x6, hx6, ho1⟩ := Option.bind_eq_some_iff.1 ho1
   refine RL.op _ (by decide) (opv_index rfl Try.underlying25 (by rw [Try.size29]; rfl) rfl rfl g0 hx6) ?_
   rintro v3 _ ⟨fv3, rfl⟩
   refine RL.opF (by decide) (opv_loadF rfl Try.one29 rfl fv3 g0 hx6) ?_
   intro v4 fv4
   refine RL.opD (by decide) (opv_assign rfl rfl) ?_
   refine RL.opD (by decide) (opv_assign rfl rfl) ?_
   refine RL.nil ?_
   refine thnN ?_
   refine W.seq ?_
   refine W.region ?_
   refine RL.opD (by decide) (opv_move rfl rfl) ?_
   refine RL.opD (by decide) (opv_move rfl rfl) ?_
   refine RL.opD (by decide) (opv_add rfl rfl rfl) ?_
   refine RL.opD (by decide) (opv_assign rfl rfl) ?_
   refine RL.nil ?_
   refine thnN ?_
   refine W.seq ?_
   refine W.region ?_
   refine RL.opD (by decide) (opv_move rfl rfl) ?_
   refine RL.opD (by decide) (opv_move rfl rfl) ?_
   refine RL.opD (by decide) (opv_len rfl Try.underlying25 rfl g1) ?_
   refine RL.opD (by decide) (opv_sub rfl rfl rfl) ?_
   obtain ⟨x7, hx7, ho1⟩ := Option.bind_eq_some_iff.1 ho1
   refine RL.op _ (by decide) (opv_call (cap := []) (impl_within_ok _ _ _ _ _ hx7) rfl rfl ⟨rfl, rfl, rfl, trivial⟩ Try.func71 rfl rfl) ?_
   rintro _ _ ⟨rfl, rfl⟩
   refine RL.nil ?_
   refine thnN ?_
   obtain ⟨x8, hy2, ho1⟩ := Option.bind_eq_some_iff.1 ho1
   refine W.cut (fun φ' h' => ∃ v5, Fr.sub [(0, u0), (1, u1), (2, (.int .i64 a2)), (6, (.float .f32 0)), (11, u0), (12, (.int .i64 (a0.length : Int))), (13, (.int .i64 x2)), (14, (.bool (decide (x2 < (a0.length : Int))))), (8, (.int .i64 x2)), (9, v4), (10, (.int .i64 (IntKind.wrap .i64 (x2 + a2)))), (25, (.bool x7)), (7, v5)] φ' ∧ IsF .f64 v5 x8 ∧ h0 = h') ?_ ?_
   ·by_cases c2 : x7 = true
    ·rw [if_pos c2] at hy2
     refine W.condT rfl c2 ?_
     refine W.region ?_
     refine RL.opD (by decide) (opv_move rfl rfl) ?_
     refine RL.opD (by decide) (opv_move rfl rfl) ?_
     refine RL.opF (by decide) (opv_widen rfl (by rw [Try.underlying29]; rfl) Try.underlying43 rfl fv4) ?_
     intro v6 fv6
     refine RL.opD (by decide) (opv_move rfl rfl) ?_
     refine RL.opD (by decide) (opv_move rfl rfl) ?_
     obtain ⟨x9, hx9, hy2⟩ := Option.bind_eq_some_iff.1 hy2
     refine RL.op _ (by decide) (opv_index rfl Try.underlying25 (by rw [Try.size29]; rfl) rfl rfl g1 hx9) ?_
     rintro v7 _ ⟨fv7, rfl⟩
     refine RL.opF (by decide) (opv_loadF rfl Try.one29 rfl fv7 g1 hx9) ?_
     intro v8 fv8
     refine RL.opF (by decide) (opv_widen rfl (by rw [Try.underlying29]; rfl) Try.underlying43 rfl fv8) ?_
     intro v9 fv9
     refine RL.opF (by decide) (opv_fop rfl rfl rfl rfl fv6 fv9) ?_
     intro v10 fv10
     refine RL.opF (by decide) (opv_fop rfl rfl rfl rfl fv1 fv10) ?_
     intro v11 fv11
     refine RL.opD (by decide) (opv_assign rfl rfl) ?_
     refine RL.nil ?_
     have ey2 := Option.some.inj hy2
     subst ey2
     refine onlyN ?_
     exact ⟨v11, ⟨rfl, rfl, rfl, rfl, rfl, rfl, rfl, rfl, rfl, rfl, rfl, rfl, rfl, trivial⟩, fv11, rfl⟩
    ·rw [if_neg c2] at hy2
     have c2 := eq_false_of_ne_true c2
     refine W.condF rfl c2 ?_
     refine W.skip ?_
     have ey2 := Option.some.inj hy2
     subst ey2
     refine onlyN ?_
     exact ⟨v1, ⟨rfl, rfl, rfl, rfl, rfl, rfl, rfl, rfl, rfl, rfl, rfl, rfl, rfl, trivial⟩, fv1, rfl⟩
   rintro φ' _ ⟨v5, hs3, fv5, rfl⟩
   refine blkN ?_
   refine thnN ?_
   refine W.sub hs3 ?_
   refine W.region ?_
   refine RL.opD (by decide) (opv_add rfl rfl rfl) ?_
   refine RL.opD (by decide) (opv_move rfl rfl) ?_
   refine RL.nil ?_
   have eo1 := Option.some.inj ho1
   subst eo1
   refine rndN (s' := (x8, IntKind.wrap .i64 (x2 + 1))) rfl ?_
   exact ⟨v5, ⟨rfl, rfl, rfl, rfl, rfl, rfl, rfl, rfl, trivial⟩, fv5, rfl⟩
  ·rw [if_neg c1] at ho1
   have c1 := eq_false_of_ne_true c1
   refine W.condF rfl c1 ?_
   refine W.exit ?_
   refine thnX ?_
   refine rndX ?_
   refine blkI ?_
   have eo1 := Option.some.inj ho1
   subst eo1
   have ey1 := hy1 _ rfl
   subst ey1
   refine onlyN ?_
   exact ⟨x1, x2, decide (x2 < (a0.length : Int)), v1, rfl, ⟨rfl, rfl, rfl, rfl, rfl, rfl, rfl, rfl, rfl, trivial⟩, fv1, rfl⟩
 rintro φ' _ ⟨x3, x4, x5, v2, rfl, hs2, fv2, rfl⟩
 try dsimp only at hp
 refine thnN ?_
 refine W.sub hs2 ?_
 refine W.seq ?_
 refine W.region ?_
 refine RL.opD (by decide) (opv_move rfl rfl) ?_
 obtain ⟨x10, hx10, hp⟩ := Option.bind_eq_some_iff.1 hp
 refine RL.opF (by decide) (opv_f2f rfl (by rw [Try.underlying43]; rfl) Try.underlying29 (by decide) rfl fv2 hx10) ?_
 intro v12 fv12
 refine RL.opD (by decide) (opv_assign rfl rfl) ?_
 refine RL.nil ?_
 refine thnN ?_
 refine W.ret ?_
 have er := Option.some.inj hp
 subst er
 exact Rt.one rfl rfl ⟨fv12, rfl⟩

set_option maxHeartbeats 4000000 in
set_option maxRecDepth 20000 in
theorem impl_LagOf_ok (h0 : Heap) (u0 : Value) (a0 : List (Option Nat)) (g0 : SL (kF .f32) h0.size h0 u0 a0) (u1 : Value) (a1 : List (Option Nat)) (g1 : SL (kF .f32) h0.size h0 u1 a1) (a2 : Int) (r : (Int × Bool)) (hp : impl_LagOf a0 a1 a2 = some r) : CallsH Try.prog 14 ([u0, u1, (.int .i64 a2)].toArray ++ [].toArray) h0 (fun v h' => v = (.tuple (List.toArray (α := Value) [(.int .i64 r.1), (.bool r.2)])) ∧ h0 = h') := by
 unfold impl_LagOf at hp
 refine callsH_of_W (l := [u0, u1, (.int .i64 a2)]) (cap := []) 53 Try.func14 rfl rfl rfl ?_
 refine W.seq ?_
 refine W.region ?_
 refine RL.opD (by decide) (opv_assign rfl rfl) ?_
 refine RL.opD (by decide) (opv_assign rfl rfl) ?_
 refine RL.nil ?_
 refine thnN ?_
 refine W.seq ?_
 refine W.seq ?_
 obtain ⟨x1, hy1, hp⟩ := Option.bind_eq_some_iff.1 hp
 refine W.cut (fun φ' h' => Fr.sub [(0, u0), (1, u1), (2, (.int .i64 a2)), (6, (.int .i64 0)), (7, (.bool false)), (25, (.bool x1))] φ' ∧ h0 = h') ?_ ?_
 ·refine W.region ?_
  refine RL.opD (by decide) (opv_move rfl rfl) ?_
  obtain ⟨x2, hx2, hy1⟩ := Option.bind_eq_some_iff.1 hy1
  refine RL.op _ (by decide) (opv_call (cap := []) (impl_isRecord_float32_ok _ _ _ g0 _ hx2) rfl rfl ⟨rfl, trivial⟩ Try.func70 rfl rfl) ?_
  rintro _ _ ⟨rfl, rfl⟩
  refine RL.opD (by decide) (opv_not rfl rfl) ?_
  refine RL.opD (by decide) (opv_move rfl rfl) ?_
  by_cases c1 : (!x2) = true
  ·rw [if_pos c1] at hy1
   refine RL.noT rfl rfl c1 (by decide) ?_
   refine RL.noT rfl rfl c1 (by decide) ?_
   refine RL.noT rfl rfl c1 (by decide) ?_
   refine RL.opD (by decide) (opv_pick rfl rfl (fun _ => rfl) (fun e => absurd (Eq.trans (Eq.symm e) c1) (by decide)) rfl) ?_
   refine RL.opD (by decide) (opv_move rfl rfl) ?_
   refine RL.noT rfl rfl rfl (by decide) ?_
   refine RL.noT rfl rfl rfl (by decide) ?_
   refine RL.noT rfl rfl rfl (by decide) ?_
   refine RL.opD (by decide) (opv_pick rfl rfl (fun _ => rfl) (fun e => absurd (Eq.trans (Eq.symm e) rfl) (by decide)) rfl) ?_
   refine RL.nil ?_
   have ey1 := Option.some.inj hy1
   subst ey1
   refine onlyN ?_
   exact ⟨⟨rfl, rfl, rfl, rfl, rfl, rfl, trivial⟩, rfl⟩
  ·rw [if_neg c1] at hy1
   have c1 := eq_false_of_ne_true c1
   refine RL.yesD rfl rfl c1 (by decide) (opv_move rfl rfl) ?_
   obtain ⟨x3, hx3, hy1⟩ := Option.bind_eq_some_iff.1 hy1
   refine RL.yes _ rfl rfl c1 (by decide) (opv_call (cap := []) (impl_isRecord_float32_ok _ _ _ g1 _ hx3) rfl rfl ⟨rfl, trivial⟩ Try.func70 rfl rfl) ?_
   rintro _ _ ⟨rfl, rfl⟩
   refine RL.yesD rfl rfl c1 (by decide) (opv_not rfl rfl) ?_
   refine RL.opD (by decide) (opv_pick rfl rfl (fun e => absurd (Eq.trans (Eq.symm e) c1) (by decide)) (fun _ => rfl) rfl) ?_
   refine RL.opD (by decide) (opv_move rfl rfl) ?_
   by_cases c2 : (!x3) = true
   ·rw [if_pos c2] at hy1
    refine RL.noT rfl rfl c2 (by decide) ?_
    refine RL.noT rfl rfl c2 (by decide) ?_
    refine RL.noT rfl rfl c2 (by decide) ?_
    refine RL.opD (by decide) (opv_pick rfl rfl (fun _ => rfl) (fun e => absurd (Eq.trans (Eq.symm e) c2) (by decide)) rfl) ?_
    refine RL.nil ?_
    have ey1 := Option.some.inj hy1
    subst ey1
    refine onlyN ?_
    exact ⟨⟨rfl, rfl, rfl, rfl, rfl, rfl, trivial⟩, rfl⟩
   ·rw [if_neg c2] at hy1
    have c2 := eq_false_of_ne_true c2
    refine RL.yesD rfl rfl c2 (by decide) (opv_move rfl rfl) ?_
    obtain ⟨x4, hx4, hy1⟩ := Option.bind_eq_some_iff.1 hy1
    refine RL.yes _ rfl rfl c2 (by decide) (opv_call (cap := []) (impl_within_ok _ _ _ _ _ hx4) rfl rfl ⟨rfl, rfl, rfl, trivial⟩ Try.func71 rfl rfl) ?_
    rintro _ _ ⟨rfl, rfl⟩
    refine RL.yesD rfl rfl c2 (by decide) (opv_not rfl rfl) ?_
    refine RL.opD (by decide) (opv_pick rfl rfl (fun e => absurd (Eq.trans (Eq.symm e) c2) (by decide)) (fun _ => rfl) rfl) ?_
    refine RL.nil ?_
    have ey1 := Option.some.inj hy1
    subst ey1
    refine onlyN ?_
    exact ⟨⟨rfl, rfl, rfl, rfl, rfl, rfl, trivial⟩, rfl⟩
 rintro φ' _ ⟨hs1, rfl⟩
 refine thnN ?_
 refine W.sub hs1 ?_
 by_cases c3 : x1 = true
 ·rw [if_pos c3] at hp
  refine W.condT rfl c3 ?_
  refine W.seq ?_
  refine W.region ?_
  refine RL.opD (by decide) (opv_assign rfl rfl) ?_
  refine RL.opD (by decide) (opv_assign rfl rfl) ?_
  refine RL.nil ?_
  refine thnN ?_
  refine W.ret ?_
  refine thnR ?_
  have er := Option.some.inj hp
  subst er
  exact Rt.two rfl rfl rfl ⟨rfl, rfl⟩
 ·rw [if_neg c3] at hp
  have c3 := eq_false_of_ne_true c3
  refine W.condF rfl c3 ?_
  refine W.skip ?_
  refine thnN ?_
  refine W.seq ?_
  refine W.region ?_
  refine RL.opD (by decide) (opv_assign rfl rfl) ?_
  refine RL.opD (by decide) (opv_assign rfl rfl) ?_
  refine RL.opD (by decide) (opv_assign rfl rfl) ?_
  refine RL.nil ?_
  refine thnN ?_
  refine W.seq ?_
  refine W.seq ?_
  refine W.region ?_
  refine RL.opD (by decide) (opv_move rfl rfl) ?_
  refine RL.opD (by decide) (opv_ineg rfl rfl) ?_
  refine RL.opD (by decide) (opv_assign rfl rfl) ?_
  refine RL.nil ?_
  refine thnN ?_
  obtain ⟨y2, hy2, hp⟩ := Option.bind_eq_some_iff.1 hp
  refine W.cut (fun φ' h' => ∃ x9, ∃ x10, ∃ x11, ∃ x12, ∃ x13, ∃ v2, y2 = (x9, x10, x11, x12, x13) ∧ Fr.sub [(0, u0), (1, u1), (2, (.int .i64 a2)), (6, (.int .i64 0)), (7, (.bool false)), (25, (.bool x1)), (8, (.int .i64 x9)), (9, v2), (10, (.bool x11)), (11, (.int .i64 x12)), (30, (.bool x13))] φ' ∧ IsF .f32 v2 x10 ∧ h0 = h') ?_ ?_
  ·refine W.block ?_
   refine W.loopS (fun (s : (Int × (Option Nat) × Bool × Int)) φ' h' => ∃ v1, Fr.sub [(0, u0), (1, u1), (2, (.int .i64 a2)), (6, (.int .i64 0)), (7, (.bool false)), (25, (.bool x1)), (8, (.int .i64 s.1)), (9, v1), (10, (.bool s.2.2.1)), (11, (.int .i64 s.2.2.2))] φ' ∧ IsF .f32 v1 s.2.1 ∧ h0 = h') hy2 ⟨(.float .f32 0), ⟨rfl, rfl, rfl, rfl, rfl, rfl, rfl, rfl, rfl, rfl, trivial⟩, (isF_lit .f32 0 (by decide) (by decide)), rfl⟩ ?_
   rintro ⟨x5, x6, x7, x8⟩ φ' _ o1 ⟨v1, hs2, fv1, rfl⟩ ho1 hy1
   have hs2 : Fr.sub [(0, u0), (1, u1), (2, (.int .i64 a2)), (6, (.int .i64 0)), (7, (.bool false)), (25, (.bool x1)), (8, (.int .i64 x5)), (9, v1), (10, (.bool x7)), (11, (.int .i64 x8))] φ' := hs2
   have fv1 : IsF .f32 v1 x6 := fv1
   have ho1 : impl_LagOf.s0 a0 a1 a2 x5 x6 x7 x8 = some o1 := ho1
   unfold impl_LagOf.s0 at ho1
   refine W.sub hs2 ?_
   refine W.seq ?_
   refine W.seq ?_
   refine W.region ?_
   refine RL.opD (by decide) (opv_move rfl rfl) ?_
   refine RL.opD (by decide) (opv_move rfl rfl) ?_
   refine RL.opD (by decide) (opv_icmp rfl rfl rfl rfl) ?_
   refine RL.nil ?_
   refine thnN ?_
   by_cases c4 : (decide (x8 ≤ a2)) = true
   ·rw [if_pos c4] at ho1
    refine W.condT rfl c4 ?_
    refine W.skip ?_
    refine thnN ?_
    refine W.seq ?_
    refine W.block ?_
    refine W.seq ?_
    refine W.region ?_
    refine RL.opD (by decide) (opv_move rfl rfl) ?_
    refine RL.opD (by decide) (opv_move rfl rfl) ?_
    refine RL.opD (by decide) (opv_move rfl rfl) ?_
    obtain ⟨x14, hx14, ho1⟩ := Option.bind_eq_some_iff.1 ho1
    refine RL.op _ (by decide) (opv_call (cap := []) (impl_correlation_ok _ _ _ g0 _ _ g1 _ _ hx14) rfl rfl ⟨rfl, rfl, rfl, trivial⟩ Try.func72 rfl rfl) ?_
    rintro v3 _ ⟨fv3, rfl⟩
    refine RL.opD (by decide) (opv_assign rfl rfl) ?_
    refine RL.nil ?_
    refine thnN ?_
    refine W.seq ?_
    obtain ⟨x15, hy3, ho1⟩ := Option.bind_eq_some_iff.1 ho1
    refine W.cut (fun φ' h' => Fr.sub [(0, u0), (1, u1), (2, (.int .i64 a2)), (6, (.int .i64 0)), (7, (.bool false)), (25, (.bool x1)), (8, (.int .i64 x5)), (9, v1), (10, (.bool x7)), (11, (.int .i64 x8)), (30, (.bool (decide (x8 ≤ a2)))), (12, v3), (48, (.bool x15))] φ' ∧ h0 = h') ?_ ?_
    ·refine W.region ?_
     refine RL.opD (by decide) (opv_move rfl rfl) ?_
     refine RL.opD (by decide) (opv_move rfl rfl) ?_
     refine RL.opD (by decide) (opv_fcmp rfl rfl rfl rfl fv3 fv3) ?_
     refine RL.opD (by decide) (opv_move rfl rfl) ?_
     by_cases c5 : (fcmp .eql .f32 x14 x14) = true
     ·rw [if_pos c5] at hy3
      refine RL.yesD rfl rfl c5 (by decide) (opv_move rfl rfl) ?_
      refine RL.yesD rfl rfl c5 (by decide) (opv_not rfl rfl) ?_
      refine RL.yesD rfl rfl c5 (by decide) (opv_move rfl rfl) ?_
      by_cases c6 : (!x7) = true
      ·rw [if_pos c6] at hy3
       refine RL.noT rfl rfl c6 (by decide) ?_
       refine RL.noT rfl rfl c6 (by decide) ?_
       refine RL.noT rfl rfl c6 (by decide) ?_
       refine RL.yesD rfl rfl c5 (by decide) (opv_pick rfl rfl (fun _ => rfl) (fun e => absurd (Eq.trans (Eq.symm e) c6) (by decide)) rfl) ?_
       refine RL.opD (by decide) (opv_pick rfl rfl (fun _ => rfl) (fun e => absurd (Eq.trans (Eq.symm e) c5) (by decide)) rfl) ?_
       refine RL.nil ?_
       have ey3 := Option.some.inj hy3
       subst ey3
       refine onlyN ?_
       exact ⟨⟨rfl, rfl, rfl, rfl, rfl, rfl, rfl, rfl, rfl, rfl, rfl, rfl, rfl, trivial⟩, rfl⟩
      ·rw [if_neg c6] at hy3
       have c6 := eq_false_of_ne_true c6
       refine RL.yesD rfl rfl c6 (by decide) (opv_move rfl rfl) ?_
       refine RL.yesD rfl rfl c6 (by decide) (opv_move rfl rfl) ?_
       refine RL.yesD rfl rfl c6 (by decide) (opv_fcmp rfl rfl rfl rfl fv3 fv1) ?_
       refine RL.yesD rfl rfl c5 (by decide) (opv_pick rfl rfl (fun e => absurd (Eq.trans (Eq.symm e) c6) (by decide)) (fun _ => rfl) rfl) ?_
       refine RL.opD (by decide) (opv_pick rfl rfl (fun _ => rfl) (fun e => absurd (Eq.trans (Eq.symm e) c5) (by decide)) rfl) ?_
       refine RL.nil ?_
       have ey3 := Option.some.inj hy3
       subst ey3
       refine onlyN ?_
       exact ⟨⟨rfl, rfl, rfl, rfl, rfl, rfl, rfl, rfl, rfl, rfl, rfl, rfl, rfl, trivial⟩, rfl⟩
     ·rw [if_neg c5] at hy3
      have c5 := eq_false_of_ne_true c5
      refine RL.noF rfl rfl c5 (by decide) ?_
      refine RL.noF rfl rfl c5 (by decide) ?_
      refine RL.noF rfl rfl c5 (by decide) ?_
      refine RL.noU rfl rfl (by decide) ?_
      refine RL.noU rfl rfl (by decide) ?_
      refine RL.noU rfl rfl (by decide) ?_
      refine RL.noF rfl rfl c5 (by decide) ?_
      refine RL.opD (by decide) (opv_pick rfl rfl (fun e => absurd (Eq.trans (Eq.symm e) c5) (by decide)) (fun _ => rfl) rfl) ?_
      refine RL.nil ?_
      have ey3 := Option.some.inj hy3
      subst ey3
      refine onlyN ?_
      exact ⟨⟨rfl, rfl, rfl, rfl, rfl, rfl, rfl, rfl, rfl, rfl, rfl, rfl, rfl, trivial⟩, rfl⟩
    rintro φ' _ ⟨hs4, rfl⟩
    refine thnN ?_
    refine W.sub hs4 ?_
    obtain ⟨⟨x16, x17, x18⟩, hy4, ho1⟩ := Option.bind_eq_some_iff.1 ho1
    try dsimp only at ho1
    refine W.cut (fun φ' h' => ∃ v4, Fr.sub [(0, u0), (1, u1), (2, (.int .i64 a2)), (6, (.int .i64 0)), (7, (.bool false)), (25, (.bool x1)), (11, (.int .i64 x8)), (30, (.bool (decide (x8 ≤ a2)))), (12, v3), (48, (.bool x15)), (8, (.int .i64 x16)), (9, v4), (10, (.bool x18))] φ' ∧ IsF .f32 v4 x17 ∧ h0 = h') ?_ ?_
    ·by_cases c7 : x15 = true
     ·rw [if_pos c7] at hy4
      refine W.condT rfl c7 ?_
      refine W.region ?_
      refine RL.opD (by decide) (opv_move rfl rfl) ?_
      refine RL.opD (by decide) (opv_move rfl rfl) ?_
      refine RL.opD (by decide) (opv_assign rfl rfl) ?_
      refine RL.opD (by decide) (opv_assign rfl rfl) ?_
      refine RL.opD (by decide) (opv_assign rfl rfl) ?_
      refine RL.nil ?_
      have ey4 := Option.some.inj hy4
      simp only [Prod.mk.injEq] at ey4
      obtain ⟨rfl, rfl, rfl⟩ := ey4
      refine onlyN ?_
      exact ⟨v3, ⟨rfl, rfl, rfl, rfl, rfl, rfl, rfl, rfl, rfl, rfl, rfl, rfl, rfl, trivial⟩, fv3, rfl⟩
     ·rw [if_neg c7] at hy4
      have c7 := eq_false_of_ne_true c7
      refine W.condF rfl c7 ?_
      refine W.skip ?_
      have ey4 := Option.some.inj hy4
      simp only [Prod.mk.injEq] at ey4
      obtain ⟨rfl, rfl, rfl⟩ := ey4
      refine onlyN ?_
      exact ⟨v1, ⟨rfl, rfl, rfl, rfl, rfl, rfl, rfl, rfl, rfl, rfl, rfl, rfl, rfl, trivial⟩, fv1, rfl⟩
    rintro φ' _ ⟨v4, hs5, fv4, rfl⟩
    refine blkN ?_
    refine thnN ?_
    refine W.sub hs5 ?_
    refine W.region ?_
    refine RL.opD (by decide) (opv_move rfl rfl) ?_
    refine RL.opD (by decide) (opv_add rfl rfl rfl) ?_
    refine RL.opD (by decide) (opv_assign rfl rfl) ?_
    refine RL.nil ?_
    have eo1 := Option.some.inj ho1
    subst eo1
    refine rndN (s' := (x16, x17, x18, IntKind.wrap .i64 (x8 + 1))) rfl ?_
    exact ⟨v4, ⟨rfl, rfl, rfl, rfl, rfl, rfl, rfl, rfl, rfl, rfl, trivial⟩, fv4, rfl⟩
   ·rw [if_neg c4] at ho1
    have c4 := eq_false_of_ne_true c4
    refine W.condF rfl c4 ?_
    refine W.exit ?_
    refine thnX ?_
    refine rndX ?_
    refine blkI ?_
    have eo1 := Option.some.inj ho1
    subst eo1
    have ey2 := hy1 _ rfl
    subst ey2
    refine onlyN ?_
    exact ⟨x5, x6, x7, x8, decide (x8 ≤ a2), v1, rfl, ⟨rfl, rfl, rfl, rfl, rfl, rfl, rfl, rfl, rfl, rfl, rfl, trivial⟩, fv1, rfl⟩
  rintro φ' _ ⟨x9, x10, x11, x12, x13, v2, rfl, hs3, fv2, rfl⟩
  try dsimp only at hp
  refine thnN ?_
  refine W.sub hs3 ?_
  refine W.seq ?_
  refine W.region ?_
  refine RL.opD (by decide) (opv_move rfl rfl) ?_
  refine RL.opD (by decide) (opv_move rfl rfl) ?_
  refine RL.opD (by decide) (opv_assign rfl rfl) ?_
  refine RL.opD (by decide) (opv_assign rfl rfl) ?_
  refine RL.nil ?_
  refine thnN ?_
  refine W.ret ?_
  have er := Option.some.inj hp
  subst er
  exact Rt.two rfl rfl rfl ⟨rfl, rfl⟩

set_option maxRecDepth 20000 in
theorem impl_CorrelationAt_ok (h0 : Heap) (u0 : Value) (a0 : List (Option Nat)) (g0 : SL (kF .f32) h0.size h0 u0 a0) (u1 : Value) (a1 : List (Option Nat)) (g1 : SL (kF .f32) h0.size h0 u1 a1) (a2 : Int) (r : ((Option Nat) × Bool)) (hp : impl_CorrelationAt a0 a1 a2 = some r) : CallsH Try.prog 15 ([u0, u1, (.int .i64 a2)].toArray ++ [].toArray) h0 (fun v h' => ∃ w0, v = (.tuple (List.toArray (α := Value) [w0, (.bool r.2)])) ∧ IsF .f32 w0 r.1 ∧ h0 = h') := by
 unfold impl_CorrelationAt at hp
 refine callsH_of_W (l := [u0, u1, (.int .i64 a2)]) (cap := []) 25 Try.func15 rfl rfl rfl ?_
 refine W.seq ?_
 refine W.region ?_
 refine RL.opD (by decide) (opv_assign rfl rfl) ?_
 refine RL.opD (by decide) (opv_assign rfl rfl) ?_
 refine RL.nil ?_
 refine thnN ?_
 refine W.seq ?_
 refine W.seq ?_
 obtain ⟨x1, hy1, hp⟩ := Option.bind_eq_some_iff.1 hp
 refine W.cut (fun φ' h' => Fr.sub [(0, u0), (1, u1), (2, (.int .i64 a2)), (6, (.float .f32 0)), (7, (.bool false)), (20, (.bool x1))] φ' ∧ h0 = h') ?_ ?_
 ·refine W.region ?_
  refine RL.opD (by decide) (opv_move rfl rfl) ?_
  obtain ⟨x2, hx2, hy1⟩ := Option.bind_eq_some_iff.1 hy1
  refine RL.op _ (by decide) (opv_call (cap := []) (impl_isRecord_float32_ok _ _ _ g0 _ hx2) rfl rfl ⟨rfl, trivial⟩ Try.func70 rfl rfl) ?_
  rintro _ _ ⟨rfl, rfl⟩
  refine RL.opD (by decide) (opv_not rfl rfl) ?_
  refine RL.opD (by decide) (opv_move rfl rfl) ?_
  by_cases c1 : (!x2) = true
  ·rw [if_pos c1] at hy1
   refine RL.noT rfl rfl c1 (by decide) ?_
   refine RL.noT rfl rfl c1 (by decide) ?_
   refine RL.noT rfl rfl c1 (by decide) ?_
   refine RL.opD (by decide) (opv_pick rfl rfl (fun _ => rfl) (fun e => absurd (Eq.trans (Eq.symm e) c1) (by decide)) rfl) ?_
   refine RL.opD (by decide) (opv_move rfl rfl) ?_
   refine RL.noT rfl rfl rfl (by decide) ?_
   refine RL.noT rfl rfl rfl (by decide) ?_
   refine RL.noT rfl rfl rfl (by decide) ?_
   refine RL.opD (by decide) (opv_pick rfl rfl (fun _ => rfl) (fun e => absurd (Eq.trans (Eq.symm e) rfl) (by decide)) rfl) ?_
   refine RL.nil ?_
   have ey1 := Option.some.inj hy1
   subst ey1
   refine onlyN ?_
   exact ⟨⟨rfl, rfl, rfl, rfl, rfl, rfl, trivial⟩, rfl⟩
  ·rw [if_neg c1] at hy1
   have c1 := eq_false_of_ne_true c1
   refine RL.yesD rfl rfl c1 (by decide) (opv_move rfl rfl) ?_
   obtain ⟨x3, hx3, hy1⟩ := Option.bind_eq_some_iff.1 hy1
   refine RL.yes _ rfl rfl c1 (by decide) (opv_call (cap := []) (impl_isRecord_float32_ok _ _ _ g1 _ hx3) rfl rfl ⟨rfl, trivial⟩ Try.func70 rfl rfl) ?_
   rintro _ _ ⟨rfl, rfl⟩
   refine RL.yesD rfl rfl c1 (by decide) (opv_not rfl rfl) ?_
   refine RL.opD (by decide) (opv_pick rfl rfl (fun e => absurd (Eq.trans (Eq.symm e) c1) (by decide)) (fun _ => rfl) rfl) ?_
   refine RL.opD (by decide) (opv_move rfl rfl) ?_
   by_cases c2 : (!x3) = true
   ·rw [if_pos c2] at hy1
    refine RL.noT rfl rfl c2 (by decide) ?_
    refine RL.noT rfl rfl c2 (by decide) ?_
    refine RL.noT rfl rfl c2 (by decide) ?_
    refine RL.opD (by decide) (opv_pick rfl rfl (fun _ => rfl) (fun e => absurd (Eq.trans (Eq.symm e) c2) (by decide)) rfl) ?_
    refine RL.nil ?_
    have ey1 := Option.some.inj hy1
    subst ey1
    refine onlyN ?_
    exact ⟨⟨rfl, rfl, rfl, rfl, rfl, rfl, trivial⟩, rfl⟩
   ·rw [if_neg c2] at hy1
    have c2 := eq_false_of_ne_true c2
    refine RL.yesD rfl rfl c2 (by decide) (opv_move rfl rfl) ?_
    obtain ⟨x4, hx4, hy1⟩ := Option.bind_eq_some_iff.1 hy1
    refine RL.yes _ rfl rfl c2 (by decide) (opv_call (cap := []) (impl_within_ok _ _ _ _ _ hx4) rfl rfl ⟨rfl, rfl, rfl, trivial⟩ Try.func71 rfl rfl) ?_
    rintro _ _ ⟨rfl, rfl⟩
    refine RL.yesD rfl rfl c2 (by decide) (opv_not rfl rfl) ?_
    refine RL.opD (by decide) (opv_pick rfl rfl (fun e => absurd (Eq.trans (Eq.symm e) c2) (by decide)) (fun _ => rfl) rfl) ?_
    refine RL.nil ?_
    have ey1 := Option.some.inj hy1
    subst ey1
    refine onlyN ?_
    exact ⟨⟨rfl, rfl, rfl, rfl, rfl, rfl, trivial⟩, rfl⟩
 rintro φ' _ ⟨hs1, rfl⟩
 refine thnN ?_
 refine W.sub hs1 ?_
 by_cases c3 : x1 = true
 ·rw [if_pos c3] at hp
  refine W.condT rfl c3 ?_
  refine W.seq ?_
  refine W.region ?_
  refine RL.opD (by decide) (opv_assign rfl rfl) ?_
  refine RL.opD (by decide) (opv_assign rfl rfl) ?_
  refine RL.nil ?_
  refine thnN ?_
  refine W.ret ?_
  refine thnR ?_
  have er := Option.some.inj hp
  subst er
  exact Rt.two rfl rfl rfl ⟨(.float .f32 0), rfl, (isF_lit .f32 0 (by decide) (by decide)), rfl⟩
 ·rw [if_neg c3] at hp
  have c3 := eq_false_of_ne_true c3
  refine W.condF rfl c3 ?_
  refine W.skip ?_
  refine thnN ?_
  refine W.seq ?_
  refine W.region ?_
  refine RL.opD (by decide) (opv_move rfl rfl) ?_
  refine RL.opD (by decide) (opv_move rfl rfl) ?_
  refine RL.opD (by decide) (opv_move rfl rfl) ?_
  obtain ⟨x5, hx5, hp⟩ := Option.bind_eq_some_iff.1 hp
  refine RL.op _ (by decide) (opv_call (cap := []) (impl_correlation_ok _ _ _ g0 _ _ g1 _ _ hx5) rfl rfl ⟨rfl, rfl, rfl, trivial⟩ Try.func72 rfl rfl) ?_
  rintro v1 _ ⟨fv1, rfl⟩
  refine RL.opD (by decide) (opv_assign rfl rfl) ?_
  refine RL.opD (by decide) (opv_assign rfl rfl) ?_
  refine RL.nil ?_
  refine thnN ?_
  refine W.ret ?_
  have er := Option.some.inj hp
  subst er
  exact Rt.two rfl rfl rfl ⟨v1, rfl, fv1, rfl⟩

set_option maxHeartbeats 4000000 in
set_option maxRecDepth 20000 in
theorem laws_FnLags_ok (h0 : Heap) (u0 : Value) (a0 : List (Int)) (g0 : SL (kI .u8) h0.size h0 u0 a0) (u1 : Value) (a1 : List (Int)) (g1 : SL (kI .u8) h0.size h0 u1 a1) (r : Bool) (hp : laws_FnLags a0 a1 = some r) : CallsH Try.prog 3 ([u0, u1].toArray ++ [].toArray) h0 (fun v h' => v = (.bool r) ∧ Mod [] h0 h' ∧ Sep [] h0.size h' []) := by
 unfold laws_FnLags at hp
 refine callsH_of_W (l := [u0, u1]) (cap := []) 98 Try.func3 rfl rfl rfl ?_
 refine W.seq ?_
 refine W.region ?_
 refine RL.opD (by decide) (opv_assign rfl rfl) ?_
 refine RL.nil ?_
 refine thnN ?_
 refine W.seq ?_
 refine W.seq ?_
 refine W.region ?_
 refine RL.opD (by decide) (opv_move rfl rfl) ?_
 refine RL.opD (by decide) (opv_move rfl rfl) ?_
 obtain ⟨x1, hx1, hp⟩ := Option.bind_eq_some_iff.1 hp
 refine RL.op _ (by decide) (opv_call (cap := []) (laws_r8Long_ok _ _ _ g0 _ _ g1 _ hx1) rfl rfl ⟨rfl, rfl, trivial⟩ Try.func11 rfl rfl) ?_
 rintro _ _ ⟨rfl, rfl⟩
 refine RL.nil ?_
 refine thnN ?_
 by_cases c1 : x1 = true
 ·rw [if_pos c1] at hp
  refine W.condT rfl c1 ?_
  refine W.seq ?_
  refine W.region ?_
  refine RL.opD (by decide) (opv_assign rfl rfl) ?_
  refine RL.nil ?_
  refine thnN ?_
  refine W.ret ?_
  refine thnR ?_
  have er := Option.some.inj hp
  subst er
  exact Rt.one rfl rfl ⟨rfl, (Mod.refl [] h0), (Sep.nil _ _ _)⟩
 ·rw [if_neg c1] at hp
  have c1 := eq_false_of_ne_true c1
  refine W.condF rfl c1 ?_
  refine W.skip ?_
  refine thnN ?_
  refine W.seq ?_
  refine W.region ?_
  refine RL.opD (by decide) (opv_move rfl rfl) ?_
  obtain ⟨x2, hx2, hp⟩ := Option.bind_eq_some_iff.1 hp
  refine RL.op _ (by decide) (opv_call (cap := []) (laws_r8At_ok _ _ _ g1 _ _ _ hx2) rfl rfl ⟨rfl, rfl, rfl, trivial⟩ Try.func12 rfl rfl) ?_
  rintro _ _ ⟨rfl, rfl⟩
  refine RL.opD (by decide) (opv_add rfl rfl rfl) ?_
  refine RL.opD (by decide) (opv_assign rfl rfl) ?_
  refine RL.nil ?_
  refine thnN ?_
  refine W.seq ?_
  refine W.region ?_
  refine RL.opD (by decide) (opv_move rfl rfl) ?_
  refine RL.opD (by decide) (opv_move rfl rfl) ?_
  obtain ⟨x3, hx3, hp⟩ := Option.bind_eq_some_iff.1 hp
  refine RL.op _ (by decide) (opv_call (cap := []) (spec_R8Record_ok _ _ _ g0 _ _ hx3) rfl rfl ⟨rfl, rfl, trivial⟩ Try.func13 rfl rfl) ?_
  rintro v1 hp1 ⟨MT_1, T_1⟩
  obtain ⟨X_1, S_1⟩ := Sep.turn0 (Mod.refl [] h0) (Sep.nil [] h0.size h0) MT_1 T_1
  refine RL.opD (by decide) (opv_assign rfl rfl) ?_
  refine RL.nil ?_
  refine thnN ?_
  refine W.seq ?_
  refine W.region ?_
  refine RL.opD (by decide) (opv_move rfl rfl) ?_
  obtain ⟨x4, hx4, hp⟩ := Option.bind_eq_some_iff.1 hp
  refine RL.op _ (by decide) (opv_call (cap := []) (laws_r8At_ok _ _ _ (SL.up (SL.mod g1 X_1 (Nat.le_refl _) nob) (Nat.le_trans (Nat.le_refl _) (Mod.size X_1))) _ _ _ hx4) rfl rfl ⟨rfl, rfl, rfl, trivial⟩ Try.func12 rfl rfl) ?_
  rintro _ _ ⟨rfl, rfl⟩
  refine RL.opD (by decide) (opv_assign rfl rfl) ?_
  refine RL.nil ?_
  refine thnN ?_
  refine W.seq ?_
  refine W.region ?_
  refine RL.opD (by decide) (opv_move rfl rfl) ?_
  obtain ⟨c2, hp⟩ := of_ite hp
  refine RL.op _ (by decide) (opS_make (K := (kF .f32)) (zx := (some 0)) rfl Try.underlying25 Try.einfo29 rfl rfl ⟨_, rfl, (isF_lit .f32 0 (by decide) (by decide))⟩ rfl rfl (by decide) c2) ?_
  rintro v2 hp2 ⟨MT_2, T_2⟩
  obtain ⟨X_2, S_2⟩ := Sep.turn0 X_1 S_1 MT_2 T_2
  refine RL.opD (by decide) (opv_move rfl rfl) ?_
  obtain ⟨c3, hp⟩ := of_ite hp
  refine RL.op _ (by decide) (opS_append (K := (kF .f32)) rfl Try.underlying25 Try.einfo29 rfl rfl rfl rfl (Sep.at (o := ownO (kF .f32) 29 v2 (List.replicate (Int.toNat x4) (some 0))) S_2 0 rfl) (ownO.read (Sep.at (o := ownO (kF .f32) 29 v1 x3) S_2 1 rfl)) (by decide) (by decide) c3) ?_
  rintro v3 hp3 ⟨MT_3, T_3⟩
  have S_3 : Sep [] h0.size hp2 ([ownO (kF .f32) 29 v2 (List.replicate (Int.toNat x4) (some 0))] ++ [ownO (kF .f32) 29 v1 x3]) := Sep.sel S_2 [0, 1] (by decide)
  obtain ⟨X_3, S_4⟩ := Sep.turn X_2 S_3 MT_3 T_3
  refine RL.opD (by decide) (opv_assign rfl rfl) ?_
  refine RL.nil ?_
  refine thnN ?_
  refine W.seq ?_
  refine W.region ?_
  refine RL.opD (by decide) (opv_move rfl rfl) ?_
  refine RL.opD (by decide) (opv_move rfl rfl) ?_
  obtain ⟨x5, hx5, hp⟩ := Option.bind_eq_some_iff.1 hp
  refine RL.op _ (by decide) (opv_call (cap := []) (impl_LagOf_ok _ _ _ (ownO.read (Sep.at (o := ownO (kF .f32) 29 v1 x3) S_4 1 rfl)) _ _ (ownO.read (Sep.at (o := ownO (kF .f32) 29 v3 ((List.replicate (Int.toNat x4) (some 0)) ++ x3)) S_4 0 rfl)) _ _ hx5) rfl rfl ⟨rfl, rfl, rfl, trivial⟩ Try.func14 rfl rfl) ?_
  rintro _ _ ⟨rfl, rfl⟩
  refine RL.opD (by decide) (opv_move rfl rfl) ?_
  refine RL.opD (by decide) (opv_extract rfl rfl rfl) ?_
  refine RL.opD (by decide) (opv_extract rfl rfl rfl) ?_
  refine RL.opD (by decide) (opv_assign rfl rfl) ?_
  refine RL.opD (by decide) (opv_assign rfl rfl) ?_
  refine RL.nil ?_
  refine thnN ?_
  refine W.seq ?_
  refine W.region ?_
  refine RL.opD (by decide) (opv_assign rfl rfl) ?_
  refine RL.nil ?_
  refine thnN ?_
  refine W.seq ?_
  refine W.seq ?_
  refine W.region ?_
  refine RL.opD (by decide) (opv_assign rfl rfl) ?_
  refine RL.nil ?_
  refine thnN ?_
  obtain ⟨y1, hy1, hp⟩ := Option.bind_eq_some_iff.1 hp
  refine W.cut (fun φ' h' => ∃ x8, ∃ x9, ∃ x10, y1 = (x8, x9, x10) ∧ Fr.sub [(0, u0), (1, u1), (4, (.bool false)), (20, (.bool x1)), (5, (.int .i64 (IntKind.wrap .i64 (1 + x2)))), (6, v1), (7, (.int .i64 x4)), (8, v3), (9, (.int .i64 x5.1)), (10, (.bool x5.2)), (11, (.bool x8)), (12, (.int .i64 x9)), (41, (.bool x10))] φ' ∧ hp3 = h') ?_ ?_
  ·refine W.block ?_
   refine W.loopS (fun (s : (Bool × Int)) φ' h' => Fr.sub [(0, u0), (1, u1), (4, (.bool false)), (20, (.bool x1)), (5, (.int .i64 (IntKind.wrap .i64 (1 + x2)))), (6, v1), (7, (.int .i64 x4)), (8, v3), (9, (.int .i64 x5.1)), (10, (.bool x5.2)), (11, (.bool s.1)), (12, (.int .i64 s.2))] φ' ∧ hp3 = h') hy1 ⟨⟨rfl, rfl, rfl, rfl, rfl, rfl, rfl, rfl, rfl, rfl, rfl, rfl, trivial⟩, rfl⟩ ?_
   rintro ⟨x6, x7⟩ φ' _ o1 ⟨hs1, rfl⟩ ho1 hy1
   have hs1 : Fr.sub [(0, u0), (1, u1), (4, (.bool false)), (20, (.bool x1)), (5, (.int .i64 (IntKind.wrap .i64 (1 + x2)))), (6, v1), (7, (.int .i64 x4)), (8, v3), (9, (.int .i64 x5.1)), (10, (.bool x5.2)), (11, (.bool x6)), (12, (.int .i64 x7))] φ' := hs1
   have ho1 : laws_FnLags.s0 x2 x3 x6 x7 = some o1 := ho1
   unfold laws_FnLags.s0 at ho1
   refine W.sub hs1 ?_
   refine W.seq ?_
   refine W.seq ?_
   refine W.region ?_
   refine RL.opD (by decide) (opv_move rfl rfl) ?_
   refine RL.opD (by decide) (opv_move rfl rfl) ?_
   refine RL.opD (by decide) (opv_icmp rfl rfl rfl rfl) ?_
   refine RL.nil ?_
   refine thnN ?_
   by_cases c4 : (decide (x7 < (IntKind.wrap .i64 (1 + x2)))) = true
   ·rw [if_pos c4] at ho1
    refine W.condT rfl c4 ?_
    refine W.skip ?_
    refine thnN ?_
    refine W.seq ?_
    refine W.block ?_
    obtain ⟨x11, hy2, ho1⟩ := Option.bind_eq_some_iff.1 ho1
    refine W.cut (fun φ' h' => Fr.sub [(0, u0), (1, u1), (4, (.bool false)), (20, (.bool x1)), (5, (.int .i64 (IntKind.wrap .i64 (1 + x2)))), (6, v1), (7, (.int .i64 x4)), (8, v3), (9, (.int .i64 x5.1)), (10, (.bool x5.2)), (12, (.int .i64 x7)), (41, (.bool (decide (x7 < (IntKind.wrap .i64 (1 + x2)))))), (11, (.bool x11))] φ' ∧ hp3 = h') ?_ ?_
    ·refine W.region ?_
     refine RL.opD (by decide) (opv_move rfl rfl) ?_
     refine RL.opD (by decide) (opv_move rfl rfl) ?_
     by_cases c5 : x6 = true
     ·rw [if_pos c5] at hy2
      refine RL.yesD rfl rfl c5 (by decide) (opv_move rfl rfl) ?_
      refine RL.yesD rfl rfl c5 (by decide) (opv_move rfl rfl) ?_
      obtain ⟨x12, hx12, hy2⟩ := Option.bind_eq_some_iff.1 hy2
      refine RL.yes _ rfl rfl c5 (by decide) (opv_index rfl Try.underlying25 (by rw [Try.size29]; rfl) rfl rfl (ownO.read (Sep.at (o := ownO (kF .f32) 29 v1 x3) S_4 1 rfl)) hx12) ?_
      rintro v4 _ ⟨fv4, rfl⟩
      refine RL.yes _ rfl rfl c5 (by decide) (opv_loadF rfl Try.one29 rfl fv4 (ownO.read (Sep.at (o := ownO (kF .f32) 29 v1 x3) S_4 1 rfl)) hx12) ?_
      rintro v5 _ ⟨fv5, rfl⟩
      refine RL.yesD rfl rfl c5 (by decide) (opv_fcmp rfl rfl rfl rfl fv5 (isF_lit .f32 0 (by decide) (by decide))) ?_
      refine RL.opD (by decide) (opv_pick rfl rfl (fun _ => rfl) (fun e => absurd (Eq.trans (Eq.symm e) c5) (by decide)) rfl) ?_
      refine RL.opD (by decide) (opv_assign rfl rfl) ?_
      refine RL.nil ?_
      have ey2 := Option.some.inj hy2
      subst ey2
      refine onlyN ?_
      exact ⟨⟨rfl, rfl, rfl, rfl, rfl, rfl, rfl, rfl, rfl, rfl, rfl, rfl, rfl, trivial⟩, rfl⟩
     ·rw [if_neg c5] at hy2
      have c5 := eq_false_of_ne_true c5
      refine RL.noF rfl rfl c5 (by decide) ?_
      refine RL.noF rfl rfl c5 (by decide) ?_
      refine RL.noF rfl rfl c5 (by decide) ?_
      refine RL.noF rfl rfl c5 (by decide) ?_
      refine RL.noF rfl rfl c5 (by decide) ?_
      refine RL.opD (by decide) (opv_pick rfl rfl (fun e => absurd (Eq.trans (Eq.symm e) c5) (by decide)) (fun _ => rfl) rfl) ?_
      refine RL.opD (by decide) (opv_assign rfl rfl) ?_
      refine RL.nil ?_
      have ey2 := Option.some.inj hy2
      subst ey2
      refine onlyN ?_
      exact ⟨⟨rfl, rfl, rfl, rfl, rfl, rfl, rfl, rfl, rfl, rfl, rfl, rfl, rfl, trivial⟩, rfl⟩
    rintro φ' _ ⟨hs3, rfl⟩
    refine blkN ?_
    refine thnN ?_
    refine W.sub hs3 ?_
    refine W.region ?_
    refine RL.opD (by decide) (opv_move rfl rfl) ?_
    refine RL.opD (by decide) (opv_add rfl rfl rfl) ?_
    refine RL.opD (by decide) (opv_assign rfl rfl) ?_
    refine RL.nil ?_
    have eo1 := Option.some.inj ho1
    subst eo1
    refine rndN (s' := (x11, IntKind.wrap .i64 (x7 + 1))) rfl ?_
    exact ⟨⟨rfl, rfl, rfl, rfl, rfl, rfl, rfl, rfl, rfl, rfl, rfl, rfl, trivial⟩, rfl⟩
   ·rw [if_neg c4] at ho1
    have c4 := eq_false_of_ne_true c4
    refine W.condF rfl c4 ?_
    refine W.exit ?_
    refine thnX ?_
    refine rndX ?_
    refine blkI ?_
    have eo1 := Option.some.inj ho1
    subst eo1
    have ey1 := hy1 _ rfl
    subst ey1
    refine onlyN ?_
    exact ⟨x6, x7, decide (x7 < (IntKind.wrap .i64 (1 + x2))), rfl, ⟨rfl, rfl, rfl, rfl, rfl, rfl, rfl, rfl, rfl, rfl, rfl, rfl, rfl, trivial⟩, rfl⟩
  rintro φ' _ ⟨x8, x9, x10, rfl, hs2, rfl⟩
  try dsimp only at hp
  refine thnN ?_
  refine W.sub hs2 ?_
  refine W.seq ?_
  refine W.region ?_
  refine RL.opD (by decide) (opv_move rfl rfl) ?_
  obtain ⟨x13, hx13, hp⟩ := Option.bind_eq_some_iff.1 hp
  refine RL.op _ (by decide) (opv_call (cap := []) (laws_r8At_ok _ _ _ (SL.up (SL.mod g1 X_3 (Nat.le_refl _) nob) (Nat.le_trans (Nat.le_refl _) (Mod.size X_3))) _ _ _ hx13) rfl rfl ⟨rfl, rfl, rfl, trivial⟩ Try.func12 rfl rfl) ?_
  rintro _ _ ⟨rfl, rfl⟩
  refine RL.opD (by decide) (opv_sub rfl rfl rfl) ?_
  refine RL.opD (by decide) (opv_assign rfl rfl) ?_
  refine RL.nil ?_
  refine thnN ?_
  refine W.seq ?_
  refine W.region ?_
  refine RL.opD (by decide) (opv_move rfl rfl) ?_
  refine RL.opD (by decide) (opv_move rfl rfl) ?_
  refine RL.opD (by decide) (opv_move rfl rfl) ?_
  obtain ⟨x14, hx14, hp⟩ := Option.bind_eq_some_iff.1 hp
  refine RL.op _ (by decide) (opv_call (cap := []) (impl_CorrelationAt_ok _ _ _ (ownO.read (Sep.at (o := ownO (kF .f32) 29 v1 x3) S_4 1 rfl)) _ _ (ownO.read (Sep.at (o := ownO (kF .f32) 29 v3 ((List.replicate (Int.toNat x4) (some 0)) ++ x3)) S_4 0 rfl)) _ _ hx14) rfl rfl ⟨rfl, rfl, rfl, trivial⟩ Try.func15 rfl rfl) ?_
  rintro _ _ ⟨v6, rfl, fv6, rfl⟩
  refine RL.opD (by decide) (opv_move rfl rfl) ?_
  refine RL.opD (by decide) (opv_extract rfl rfl rfl) ?_
  refine RL.opD (by decide) (opv_extract rfl rfl rfl) ?_
  refine RL.opD (by decide) (opv_assign rfl rfl) ?_
  refine RL.opD (by decide) (opv_assign rfl rfl) ?_
  refine RL.nil ?_
  refine thnN ?_
  refine W.seq ?_
  refine W.region ?_
  refine RL.opD (by decide) (opv_move rfl rfl) ?_
  refine RL.opD (by decide) (opv_move rfl rfl) ?_
  refine RL.opD (by decide) (opv_move rfl rfl) ?_
  refine RL.opD (by decide) (opv_ineg rfl rfl) ?_
  obtain ⟨x15, hx15, hp⟩ := Option.bind_eq_some_iff.1 hp
  refine RL.op _ (by decide) (opv_call (cap := []) (impl_CorrelationAt_ok _ _ _ (ownO.read (Sep.at (o := ownO (kF .f32) 29 v3 ((List.replicate (Int.toNat x4) (some 0)) ++ x3)) S_4 0 rfl)) _ _ (ownO.read (Sep.at (o := ownO (kF .f32) 29 v1 x3) S_4 1 rfl)) _ _ hx15) rfl rfl ⟨rfl, rfl, rfl, trivial⟩ Try.func15 rfl rfl) ?_
  rintro _ _ ⟨v7, rfl, fv7, rfl⟩
  refine RL.opD (by decide) (opv_move rfl rfl) ?_
  refine RL.opD (by decide) (opv_extract rfl rfl rfl) ?_
  refine RL.opD (by decide) (opv_extract rfl rfl rfl) ?_
  refine RL.opD (by decide) (opv_assign rfl rfl) ?_
  refine RL.opD (by decide) (opv_assign rfl rfl) ?_
  refine RL.nil ?_
  refine thnN ?_
  refine W.seq ?_
  obtain ⟨x16, hy3, hp⟩ := Option.bind_eq_some_iff.1 hp
  refine W.cut (fun φ' h' => Fr.sub [(0, u0), (1, u1), (20, (.bool x1)), (5, (.int .i64 (IntKind.wrap .i64 (1 + x2)))), (6, v1), (7, (.int .i64 x4)), (8, v3), (9, (.int .i64 x5.1)), (10, (.bool x5.2)), (11, (.bool x8)), (12, (.int .i64 x9)), (41, (.bool x10)), (13, (.int .i64 (IntKind.wrap .i64 (x13 - 8)))), (14, v6), (15, (.bool x14.2)), (16, v7), (17, (.bool x15.2)), (4, (.bool x16))] φ' ∧ hp3 = h') ?_ ?_
  ·refine W.region ?_
   refine RL.opD (by decide) (opv_move rfl rfl) ?_
   refine RL.opD (by decide) (opv_move rfl rfl) ?_
   by_cases c6 : x5.2 = true
   ·rw [if_pos c6] at hy3
    refine RL.yesD rfl rfl c6 (by decide) (opv_move rfl rfl) ?_
    refine RL.opD (by decide) (opv_pick rfl rfl (fun _ => rfl) (fun e => absurd (Eq.trans (Eq.symm e) c6) (by decide)) rfl) ?_
    refine RL.opD (by decide) (opv_move rfl rfl) ?_
    by_cases c7 : x14.2 = true
    ·rw [if_pos c7] at hy3
     refine RL.yesD rfl rfl c7 (by decide) (opv_move rfl rfl) ?_
     refine RL.opD (by decide) (opv_pick rfl rfl (fun _ => rfl) (fun e => absurd (Eq.trans (Eq.symm e) c7) (by decide)) rfl) ?_
     refine RL.opD (by decide) (opv_move rfl rfl) ?_
     by_cases c8 : x15.2 = true
     ·rw [if_pos c8] at hy3
      refine RL.yesD rfl rfl c8 (by decide) (opv_move rfl rfl) ?_
      refine RL.yesD rfl rfl c8 (by decide) (opv_move rfl rfl) ?_
      refine RL.yesD rfl rfl c8 (by decide) (opv_fcmp rfl rfl rfl rfl fv6 fv7) ?_
      refine RL.opD (by decide) (opv_pick rfl rfl (fun _ => rfl) (fun e => absurd (Eq.trans (Eq.symm e) c8) (by decide)) rfl) ?_
      refine RL.opD (by decide) (opv_move rfl rfl) ?_
      by_cases c9 : (fcmp .eql .f32 x14.1 x15.1) = true
      ·rw [if_pos c9] at hy3
       refine RL.yesD rfl rfl c9 (by decide) (opv_move rfl rfl) ?_
       refine RL.yesD rfl rfl c9 (by decide) (opv_move rfl rfl) ?_
       by_cases c10 : x8 = true
       ·rw [if_pos c10] at hy3
        refine RL.yesD rfl rfl c10 (by decide) (opv_move rfl rfl) ?_
        refine RL.yesD rfl rfl c10 (by decide) (opv_icmp rfl rfl rfl rfl) ?_
        refine RL.yesD rfl rfl c9 (by decide) (opv_pick rfl rfl (fun _ => rfl) (fun e => absurd (Eq.trans (Eq.symm e) c10) (by decide)) rfl) ?_
        refine RL.yesD rfl rfl c9 (by decide) (opv_move rfl rfl) ?_
        by_cases c11 : (x5.1 == (-8)) = true
        ·rw [if_pos c11] at hy3
         refine RL.noT rfl rfl c11 (by decide) ?_
         refine RL.noT rfl rfl c11 (by decide) ?_
         refine RL.noT rfl rfl c11 (by decide) ?_
         refine RL.noU rfl rfl (by decide) ?_
         refine RL.noU rfl rfl (by decide) ?_
         refine RL.noU rfl rfl (by decide) ?_
         refine RL.noT rfl rfl c11 (by decide) ?_
         refine RL.yesD rfl rfl c9 (by decide) (opv_pick rfl rfl (fun _ => rfl) (fun e => absurd (Eq.trans (Eq.symm e) c11) (by decide)) rfl) ?_
         refine RL.opD (by decide) (opv_pick rfl rfl (fun _ => rfl) (fun e => absurd (Eq.trans (Eq.symm e) c9) (by decide)) rfl) ?_
         refine RL.opD (by decide) (opv_assign rfl rfl) ?_
         refine RL.nil ?_
         have ey3 := Option.some.inj hy3
         subst ey3
         refine onlyN ?_
         exact ⟨⟨rfl, rfl, rfl, rfl, rfl, rfl, rfl, rfl, rfl, rfl, rfl, rfl, rfl, rfl, rfl, rfl, rfl, rfl, trivial⟩, rfl⟩
        ·rw [if_neg c11] at hy3
         have c11 := eq_false_of_ne_true c11
         refine RL.yesD rfl rfl c11 (by decide) (opv_move rfl rfl) ?_
         refine RL.yesD rfl rfl c11 (by decide) (opv_not rfl rfl) ?_
         refine RL.yesD rfl rfl c11 (by decide) (opv_move rfl rfl) ?_
         by_cases c12 : (!x8) = true
         ·rw [if_pos c12] at hy3
          refine RL.yesD rfl rfl c12 (by decide) (opv_move rfl rfl) ?_
          refine RL.yesD rfl rfl c12 (by decide) (opv_move rfl rfl) ?_
          refine RL.yesD rfl rfl c12 (by decide) (opv_icmp rfl rfl rfl rfl) ?_
          refine RL.yesD rfl rfl c11 (by decide) (opv_pick rfl rfl (fun _ => rfl) (fun e => absurd (Eq.trans (Eq.symm e) c12) (by decide)) rfl) ?_
          refine RL.yesD rfl rfl c9 (by decide) (opv_pick rfl rfl (fun e => absurd (Eq.trans (Eq.symm e) c11) (by decide)) (fun _ => rfl) rfl) ?_
          refine RL.opD (by decide) (opv_pick rfl rfl (fun _ => rfl) (fun e => absurd (Eq.trans (Eq.symm e) c9) (by decide)) rfl) ?_
          refine RL.opD (by decide) (opv_assign rfl rfl) ?_
          refine RL.nil ?_
          have ey3 := Option.some.inj hy3
          subst ey3
          refine onlyN ?_
          exact ⟨⟨rfl, rfl, rfl, rfl, rfl, rfl, rfl, rfl, rfl, rfl, rfl, rfl, rfl, rfl, rfl, rfl, rfl, rfl, trivial⟩, rfl⟩
         ·rw [if_neg c12] at hy3
          have c12 := eq_false_of_ne_true c12
          refine RL.noF rfl rfl c12 (by decide) ?_
          refine RL.noF rfl rfl c12 (by decide) ?_
          refine RL.noF rfl rfl c12 (by decide) ?_
          refine RL.yesD rfl rfl c11 (by decide) (opv_pick rfl rfl (fun e => absurd (Eq.trans (Eq.symm e) c12) (by decide)) (fun _ => rfl) rfl) ?_
          refine RL.yesD rfl rfl c9 (by decide) (opv_pick rfl rfl (fun e => absurd (Eq.trans (Eq.symm e) c11) (by decide)) (fun _ => rfl) rfl) ?_
          refine RL.opD (by decide) (opv_pick rfl rfl (fun _ => rfl) (fun e => absurd (Eq.trans (Eq.symm e) c9) (by decide)) rfl) ?_
          refine RL.opD (by decide) (opv_assign rfl rfl) ?_
          refine RL.nil ?_
          have ey3 := Option.some.inj hy3
          subst ey3
          refine onlyN ?_
          exact ⟨⟨rfl, rfl, rfl, rfl, rfl, rfl, rfl, rfl, rfl, rfl, rfl, rfl, rfl, rfl, rfl, rfl, rfl, rfl, trivial⟩, rfl⟩
       ·rw [if_neg c10] at hy3
        have c10 := eq_false_of_ne_true c10
        refine RL.noF rfl rfl c10 (by decide) ?_
        refine RL.noF rfl rfl c10 (by decide) ?_
        refine RL.yesD rfl rfl c9 (by decide) (opv_pick rfl rfl (fun e => absurd (Eq.trans (Eq.symm e) c10) (by decide)) (fun _ => rfl) rfl) ?_
        refine RL.yesD rfl rfl c9 (by decide) (opv_move rfl rfl) ?_
        refine RL.yesD rfl rfl rfl (by decide) (opv_move rfl rfl) ?_
        refine RL.yesD rfl rfl rfl (by decide) (opv_not rfl rfl) ?_
        refine RL.yesD rfl rfl rfl (by decide) (opv_move rfl rfl) ?_
        by_cases c13 : (!x8) = true
        ·rw [if_pos c13] at hy3
         refine RL.yesD rfl rfl c13 (by decide) (opv_move rfl rfl) ?_
         refine RL.yesD rfl rfl c13 (by decide) (opv_move rfl rfl) ?_
         refine RL.yesD rfl rfl c13 (by decide) (opv_icmp rfl rfl rfl rfl) ?_
         refine RL.yesD rfl rfl rfl (by decide) (opv_pick rfl rfl (fun _ => rfl) (fun e => absurd (Eq.trans (Eq.symm e) c13) (by decide)) rfl) ?_
         refine RL.yesD rfl rfl c9 (by decide) (opv_pick rfl rfl (fun e => absurd (Eq.trans (Eq.symm e) rfl) (by decide)) (fun _ => rfl) rfl) ?_
         refine RL.opD (by decide) (opv_pick rfl rfl (fun _ => rfl) (fun e => absurd (Eq.trans (Eq.symm e) c9) (by decide)) rfl) ?_
         refine RL.opD (by decide) (opv_assign rfl rfl) ?_
         refine RL.nil ?_
         have ey3 := Option.some.inj hy3
         subst ey3
         refine onlyN ?_
         exact ⟨⟨rfl, rfl, rfl, rfl, rfl, rfl, rfl, rfl, rfl, rfl, rfl, rfl, rfl, rfl, rfl, rfl, rfl, rfl, trivial⟩, rfl⟩
        ·rw [if_neg c13] at hy3
         have c13 := eq_false_of_ne_true c13
         refine RL.noF rfl rfl c13 (by decide) ?_
         refine RL.noF rfl rfl c13 (by decide) ?_
         refine RL.noF rfl rfl c13 (by decide) ?_
         refine RL.yesD rfl rfl rfl (by decide) (opv_pick rfl rfl (fun e => absurd (Eq.trans (Eq.symm e) c13) (by decide)) (fun _ => rfl) rfl) ?_
         refine RL.yesD rfl rfl c9 (by decide) (opv_pick rfl rfl (fun e => absurd (Eq.trans (Eq.symm e) rfl) (by decide)) (fun _ => rfl) rfl) ?_
         refine RL.opD (by decide) (opv_pick rfl rfl (fun _ => rfl) (fun e => absurd (Eq.trans (Eq.symm e) c9) (by decide)) rfl) ?_
         refine RL.opD (by decide) (opv_assign rfl rfl) ?_
         refine RL.nil ?_
         have ey3 := Option.some.inj hy3
         subst ey3
         refine onlyN ?_
         exact ⟨⟨rfl, rfl, rfl, rfl, rfl, rfl, rfl, rfl, rfl, rfl, rfl, rfl, rfl, rfl, rfl, rfl, rfl, rfl, trivial⟩, rfl⟩
      ·rw [if_neg c9] at hy3
       have c9 := eq_false_of_ne_true c9
       refine RL.noF rfl rfl c9 (by decide) ?_
       refine RL.noF rfl rfl c9 (by decide) ?_
       refine RL.noU rfl rfl (by decide) ?_
       refine RL.noU rfl rfl (by decide) ?_
       refine RL.noF rfl rfl c9 (by decide) ?_
       refine RL.noF rfl rfl c9 (by decide) ?_
       refine RL.noU rfl rfl (by decide) ?_
       refine RL.noU rfl rfl (by decide) ?_
       refine RL.noU rfl rfl (by decide) ?_
       refine RL.noU rfl rfl (by decide) ?_
       refine RL.noU rfl rfl (by decide) ?_
       refine RL.noU rfl rfl (by decide) ?_
       refine RL.noU rfl rfl (by decide) ?_
       refine RL.noF rfl rfl c9 (by decide) ?_
       refine RL.opD (by decide) (opv_pick rfl rfl (fun e => absurd (Eq.trans (Eq.symm e) c9) (by decide)) (fun _ => rfl) rfl) ?_
       refine RL.opD (by decide) (opv_assign rfl rfl) ?_
       refine RL.nil ?_
       have ey3 := Option.some.inj hy3
       subst ey3
       refine onlyN ?_
       exact ⟨⟨rfl, rfl, rfl, rfl, rfl, rfl, rfl, rfl, rfl, rfl, rfl, rfl, rfl, rfl, rfl, rfl, rfl, rfl, trivial⟩, rfl⟩
     ·rw [if_neg c8] at hy3
      have c8 := eq_false_of_ne_true c8
      refine RL.noF rfl rfl c8 (by decide) ?_
      refine RL.noF rfl rfl c8 (by decide) ?_
      refine RL.noF rfl rfl c8 (by decide) ?_
      refine RL.opD (by decide) (opv_pick rfl rfl (fun e => absurd (Eq.trans (Eq.symm e) c8) (by decide)) (fun _ => rfl) rfl) ?_
      refine RL.opD (by decide) (opv_move rfl rfl) ?_
      refine RL.noF rfl rfl rfl (by decide) ?_
      refine RL.noF rfl rfl rfl (by decide) ?_
      refine RL.noU rfl rfl (by decide) ?_
      refine RL.noU rfl rfl (by decide) ?_
      refine RL.noF rfl rfl rfl (by decide) ?_
      refine RL.noF rfl rfl rfl (by decide) ?_
      refine RL.noU rfl rfl (by decide) ?_
      refine RL.noU rfl rfl (by decide) ?_
      refine RL.noU rfl rfl (by decide) ?_
      refine RL.noU rfl rfl (by decide) ?_
      refine RL.noU rfl rfl (by decide) ?_
      refine RL.noU rfl rfl (by decide) ?_
      refine RL.noU rfl rfl (by decide) ?_
      refine RL.noF rfl rfl rfl (by decide) ?_
      refine RL.opD (by decide) (opv_pick rfl rfl (fun e => absurd (Eq.trans (Eq.symm e) rfl) (by decide)) (fun _ => rfl) rfl) ?_
      refine RL.opD (by decide) (opv_assign rfl rfl) ?_
      refine RL.nil ?_
      have ey3 := Option.some.inj hy3
      subst ey3
      refine onlyN ?_
      exact ⟨⟨rfl, rfl, rfl, rfl, rfl, rfl, rfl, rfl, rfl, rfl, rfl, rfl, rfl, rfl, rfl, rfl, rfl, rfl, trivial⟩, rfl⟩
    ·rw [if_neg c7] at hy3
     have c7 := eq_false_of_ne_true c7
     refine RL.noF rfl rfl c7 (by decide) ?_
     refine RL.opD (by decide) (opv_pick rfl rfl (fun e => absurd (Eq.trans (Eq.symm e) c7) (by decide)) (fun _ => rfl) rfl) ?_
     refine RL.opD (by decide) (opv_move rfl rfl) ?_
     refine RL.noF rfl rfl rfl (by decide) ?_
     refine RL.noF rfl rfl rfl (by decide) ?_
     refine RL.noF rfl rfl rfl (by decide) ?_
     refine RL.opD (by decide) (opv_pick rfl rfl (fun e => absurd (Eq.trans (Eq.symm e) rfl) (by decide)) (fun _ => rfl) rfl) ?_
     refine RL.opD (by decide) (opv_move rfl rfl) ?_
     refine RL.noF rfl rfl rfl (by decide) ?_
     refine RL.noF rfl rfl rfl (by decide) ?_
     refine RL.noU rfl rfl (by decide) ?_
     refine RL.noU rfl rfl (by decide) ?_
     refine RL.noF rfl rfl rfl (by decide) ?_
     refine RL.noF rfl rfl rfl (by decide) ?_
     refine RL.noU rfl rfl (by decide) ?_
     refine RL.noU rfl rfl (by decide) ?_
     refine RL.noU rfl rfl (by decide) ?_
     refine RL.noU rfl rfl (by decide) ?_
     refine RL.noU rfl rfl (by decide) ?_
     refine RL.noU rfl rfl (by decide) ?_
     refine RL.noU rfl rfl (by decide) ?_
     refine RL.noF rfl rfl rfl (by decide) ?_
     refine RL.opD (by decide) (opv_pick rfl rfl (fun e => absurd (Eq.trans (Eq.symm e) rfl) (by decide)) (fun _ => rfl) rfl) ?_
     refine RL.opD (by decide) (opv_assign rfl rfl) ?_
     refine RL.nil ?_
     have ey3 := Option.some.inj hy3
     subst ey3
     refine onlyN ?_
     exact ⟨⟨rfl, rfl, rfl, rfl, rfl, rfl, rfl, rfl, rfl, rfl, rfl, rfl, rfl, rfl, rfl, rfl, rfl, rfl, trivial⟩, rfl⟩
   ·rw [if_neg c6] at hy3
    have c6 := eq_false_of_ne_true c6
    refine RL.noF rfl rfl c6 (by decide) ?_
    refine RL.opD (by decide) (opv_pick rfl rfl (fun e => absurd (Eq.trans (Eq.symm e) c6) (by decide)) (fun _ => rfl) rfl) ?_
    refine RL.opD (by decide) (opv_move rfl rfl) ?_
    refine RL.noF rfl rfl rfl (by decide) ?_
    refine RL.opD (by decide) (opv_pick rfl rfl (fun e => absurd (Eq.trans (Eq.symm e) rfl) (by decide)) (fun _ => rfl) rfl) ?_
    refine RL.opD (by decide) (opv_move rfl rfl) ?_
    refine RL.noF rfl rfl rfl (by decide) ?_
    refine RL.noF rfl rfl rfl (by decide) ?_
    refine RL.noF rfl rfl rfl (by decide) ?_
    refine RL.opD (by decide) (opv_pick rfl rfl (fun e => absurd (Eq.trans (Eq.symm e) rfl) (by decide)) (fun _ => rfl) rfl) ?_
    refine RL.opD (by decide) (opv_move rfl rfl) ?_
    refine RL.noF rfl rfl rfl (by decide) ?_
    refine RL.noF rfl rfl rfl (by decide) ?_
    refine RL.noU rfl rfl (by decide) ?_
    refine RL.noU rfl rfl (by decide) ?_
    refine RL.noF rfl rfl rfl (by decide) ?_
    refine RL.noF rfl rfl rfl (by decide) ?_
    refine RL.noU rfl rfl (by decide) ?_
    refine RL.noU rfl rfl (by decide) ?_
    refine RL.noU rfl rfl (by decide) ?_
    refine RL.noU rfl rfl (by decide) ?_
    refine RL.noU rfl rfl (by decide) ?_
    refine RL.noU rfl rfl (by decide) ?_
    refine RL.noU rfl rfl (by decide) ?_
    refine RL.noF rfl rfl rfl (by decide) ?_
    refine RL.opD (by decide) (opv_pick rfl rfl (fun e => absurd (Eq.trans (Eq.symm e) rfl) (by decide)) (fun _ => rfl) rfl) ?_
    refine RL.opD (by decide) (opv_assign rfl rfl) ?_
    refine RL.nil ?_
    have ey3 := Option.some.inj hy3
    subst ey3
    refine onlyN ?_
    exact ⟨⟨rfl, rfl, rfl, rfl, rfl, rfl, rfl, rfl, rfl, rfl, rfl, rfl, rfl, rfl, rfl, rfl, rfl, rfl, trivial⟩, rfl⟩
  rintro φ' _ ⟨hs4, rfl⟩
  refine thnN ?_
  refine W.sub hs4 ?_
  refine W.ret ?_
  have er := Option.some.inj hp
  subst er
  exact Rt.one rfl rfl ⟨rfl, X_3, (Sep.nil _ _ _)⟩

end Go.H
