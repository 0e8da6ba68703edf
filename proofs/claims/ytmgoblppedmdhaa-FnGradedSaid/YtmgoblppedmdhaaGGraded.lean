/- Functions of the program: what each computes, as a plain function, and that the call comes to it. Written by a program (wip/gen). -/
import Derived.Test.YtmgoblppedmdhaaGDraw
import Derived.Test.YtmgoblppedmdhaaGGradeLosses
import Derived.Test.YtmgoblppedmdhaaGRampField
import Derived.Test.YtmgoblppedmdhaaGChannelSheet
import Derived.Test.YtmgoblppedmdhaaGStillCells
import Derived.Test.YtmgoblppedmdhaaGSlitSheet
import Derived.Test.YtmgoblppedmdhaaGMax
import Derived.Test.YtmgoblppedmdhaaGBase
import Derived.Test.YtmgoblppedmdhaaGSheet
import Derived.Test.YtmgoblppedmdhaaGField
import Derived.Test.YtmgoblppedmdhaaGRect
import Derived.Test.YtmgoblppedmdhaaLib2
import Derived.Test.YtmgoblppedmdhaaProg
import Derived.KernelRfl
set_option linter.unusedVariables false
namespace Go.H
open Go Go.Proofs



noncomputable def laws_b10Long (a0 : List (Int)) (a1 : List (Int)) : Option Bool :=
 (((if (decide ((a0.length : Int) > 1048576)) = true then some true else some (decide ((a1.length : Int) > 1048576))) : Option Bool).bind fun (x1 : Bool) => some x1)

noncomputable def laws_b10At (a0 : List (Int)) (a1 : Int) (a2 : Int) : Option Int :=
 (if (decide (a2 ≤ 1)) = true then some 0 else (if (decide (a1 < (a0.length : Int))) = true then ((idx a0 a1).bind fun (x1 : Int) => (if a2 = 0 then none else some (Int.tmod (IntKind.wrap .i64 x1) a2))) else (if a2 = 0 then none else some (Int.tmod (IntKind.wrap .i64 ((IntKind.wrap .i64 (a1 * 37)) + 11)) a2))))

noncomputable def impl_DepthOf (a0_0 : Int) (a0_1 : Int) (a0_2 : Bool) (a0_3 : List (Option Nat)) (a0_4 : List (Option Nat)) (a1 : Int) (a2 : Int) : Option (Int × Bool) :=
 ((impl_isValidCell a0_0 a0_1 a0_2 a0_3 a0_4 a1 a2).bind fun (x1 : Bool) => (if (!x1) = true then some (0, false) else ((impl_Sheet_depth a0_0 a0_1 a0_2 a0_3 a0_4 a1 a2).bind fun (x2 : Int) => some (x2, true))))

noncomputable def spec_l01Bits (a0 : Option Nat) : Option Int :=
 (if (fcmp .neq .f32 a0 a0) = true then some 2143289344 else ((fbits a0).bind fun (x1 : Int) => some (IntKind.wrap .i64 x1)))

noncomputable def spec_l01Same (a0 : Option Nat) (a1 : Option Nat) : Option Bool :=
 ((spec_l01Bits a0).bind fun (x1 : Int) => ((spec_l01Bits a1).bind fun (x2 : Int) => some (x1 == x2)))

noncomputable def spec_SameNumber (a0 : Option Nat) (a1 : Option Nat) : Option Bool :=
 ((spec_l01Same a0 a1).bind fun (x1 : Bool) => some x1)

noncomputable def laws_FnGraded.s1 (x11 : ((List (Int)) × Bool)) (x20 : Int) (x44 : Bool) (x45 : Int) : Option ((Bool × Int) ⊕ (Bool × Int × Bool)) :=
 (if (decide (x45 < (x11.1.length : Int))) = true then (((if x44 = true then some true else ((idx x11.1 x45).bind fun (x50 : Int) => some (x50 == x20))) : Option Bool).bind fun (x49 : Bool) => some (.inl (x49, IntKind.wrap .i64 (x45 + 1)))) else some (.inr (x44, x45, decide (x45 < (x11.1.length : Int)))))

noncomputable def laws_FnGraded.s0 (x2 : (Int × Int × Bool × (List (Option Nat)) × (List (Option Nat)))) (x3 : ((List (Option Nat)) × (List (Option Nat)) × (List (Option Nat)))) (x4 : Int) (x6 : (Int × Int × Bool × (List (Option Nat)) × (List (Option Nat)) × Bool)) (x7 : ((List (Option Nat)) × (List (Option Nat)) × (List (Option Nat)) × Bool)) (x8 : Int) (x9 : Int) (x10 : (Int × Int × Bool × (List (Option Nat)) × (List (Option Nat)) × Bool)) (x11 : ((List (Int)) × Bool)) (x12 : Int) (x13 : (Int × Int × Bool × (List (Option Nat)) × (List (Option Nat)) × Bool)) (x19 : Bool) (x20 : Int) : Option ((Bool × Int) ⊕ ((Bool × Int × Bool) ⊕ Bool)) :=
 (if (decide (x20 < (x2.2.2.2.1.length : Int))) = true then (if x2.1 = 0 then none else (if x2.1 = 0 then none else ((impl_DepthOf x2.1 x2.2.1 x2.2.2.1 x2.2.2.2.1 x2.2.2.2.2 (Int.tmod x20 x2.1) (IntKind.wrap .i64 (Int.tdiv x20 x2.1))).bind fun (x24 : (Int × Bool)) => (((if (!x24.2) = true then some true else ((idx x6.2.2.2.2.1 x20).bind fun (x26 : Option Nat) => ((idx x2.2.2.2.2 x20).bind fun (x27 : Option Nat) => (if (fcmp .lss .f32 x26 x27) = true then some true else (if (decide (x24.1 ≥ (IntKind.wrap .i64 (1 + x4)))) = true then ((idx x6.2.2.2.2.1 x20).bind fun (x28 : Option Nat) => ((idx x2.2.2.2.2 x20).bind fun (x29 : Option Nat) => ((spec_SameNumber x28 x29).bind fun (x30 : Bool) => (if (!x30) = true then some true else ((idx x7.1 x20).bind fun (x31 : Option Nat) => ((idx x3.1 x20).bind fun (x32 : Option Nat) => ((spec_SameNumber x31 x32).bind fun (x33 : Bool) => some (!x33)))))))) else some false))))) : Option Bool).bind fun (x25 : Bool) => (if x25 = true then some (.inr (.inr false)) else ((((idx x7.1 x20).bind fun (x35 : Option Nat) => ((idx x3.1 x20).bind fun (x36 : Option Nat) => (if (fcmp .gtr .f32 x35 x36) = true then ((idx x7.1 x20).bind fun (x37 : Option Nat) => (if (fcmp .gtr .f32 x37 (some 0)) = true then some true else ((idx x7.1 x20).bind fun (x38 : Option Nat) => ((idx x3.1 x20).bind fun (x39 : Option Nat) => (if (fcmp .lss .f32 x38 x39) = true then ((idx x7.1 x20).bind fun (x40 : Option Nat) => some (fcmp .lss .f32 x40 (some 0))) else some false))))) else ((idx x7.1 x20).bind fun (x41 : Option Nat) => ((idx x3.1 x20).bind fun (x42 : Option Nat) => (if (fcmp .lss .f32 x41 x42) = true then ((idx x7.1 x20).bind fun (x43 : Option Nat) => some (fcmp .lss .f32 x43 (some 0))) else some false)))))) : Option Bool).bind fun (x34 : Bool) => (if x34 = true then some (.inr (.inr false)) else ((loopF (fun (s : (Bool × Int)) => laws_FnGraded.s1 x11 x20 s.1 s.2) (false, 0)).bind fun (⟨x46, x47, x48⟩ : (Bool × Int × Bool)) => ((((idx x10.2.2.2.1 x20).bind fun (x52 : Option Nat) => (if (x46 != (fcmp .eql .f32 x52 (some 0))) = true then some true else (if (decide ((IntKind.wrap .i64 (Int.tdiv x20 x2.1)) < x8)) = true then (if (!x46) = true then some true else (if (decide ((IntKind.wrap .i64 (Int.tdiv x20 x2.1)) ≥ x8)) = true then (if (decide ((IntKind.wrap .i64 (Int.tdiv x20 x2.1)) ≤ (IntKind.wrap .i64 (x8 + x9)))) = true then ((idx x10.2.2.2.1 x20).bind fun (x53 : Option Nat) => ((idx x2.2.2.2.1 x20).bind fun (x54 : Option Nat) => ((spec_SameNumber x53 x54).bind fun (x55 : Bool) => some (!x55)))) else some false) else some false)) else (if (decide ((IntKind.wrap .i64 (Int.tdiv x20 x2.1)) > (IntKind.wrap .i64 (x8 + x9)))) = true then (if (!x46) = true then some true else (if (decide ((IntKind.wrap .i64 (Int.tdiv x20 x2.1)) ≥ x8)) = true then (if (decide ((IntKind.wrap .i64 (Int.tdiv x20 x2.1)) ≤ (IntKind.wrap .i64 (x8 + x9)))) = true then ((idx x10.2.2.2.1 x20).bind fun (x56 : Option Nat) => ((idx x2.2.2.2.1 x20).bind fun (x57 : Option Nat) => ((spec_SameNumber x56 x57).bind fun (x58 : Bool) => some (!x58)))) else some false) else some false)) else (if (decide ((IntKind.wrap .i64 (Int.tdiv x20 x2.1)) ≥ x8)) = true then (if (decide ((IntKind.wrap .i64 (Int.tdiv x20 x2.1)) ≤ (IntKind.wrap .i64 (x8 + x9)))) = true then ((idx x10.2.2.2.1 x20).bind fun (x59 : Option Nat) => ((idx x2.2.2.2.1 x20).bind fun (x60 : Option Nat) => ((spec_SameNumber x59 x60).bind fun (x61 : Bool) => some (!x61)))) else some false) else some false))))) : Option Bool).bind fun (x51 : Bool) => (if x51 = true then some (.inr (.inr false)) else (((if ((Int.tmod x20 x2.1) == x12) = true then (if ((IntKind.wrap .i64 (Int.tdiv x20 x2.1)) != x8) = true then ((idx x13.2.2.2.1 x20).bind fun (x63 : Option Nat) => (if (fcmp .neq .f32 x63 (some 0)) = true then some true else (if ((Int.tmod x20 x2.1) != x12) = true then ((idx x13.2.2.2.1 x20).bind fun (x64 : Option Nat) => ((idx x2.2.2.2.1 x20).bind fun (x65 : Option Nat) => ((spec_SameNumber x64 x65).bind fun (x66 : Bool) => some (!x66)))) else (if ((IntKind.wrap .i64 (Int.tdiv x20 x2.1)) == x8) = true then ((idx x13.2.2.2.1 x20).bind fun (x67 : Option Nat) => ((idx x2.2.2.2.1 x20).bind fun (x68 : Option Nat) => ((spec_SameNumber x67 x68).bind fun (x69 : Bool) => some (!x69)))) else some false)))) else (if ((Int.tmod x20 x2.1) != x12) = true then ((idx x13.2.2.2.1 x20).bind fun (x70 : Option Nat) => ((idx x2.2.2.2.1 x20).bind fun (x71 : Option Nat) => ((spec_SameNumber x70 x71).bind fun (x72 : Bool) => some (!x72)))) else (if ((IntKind.wrap .i64 (Int.tdiv x20 x2.1)) == x8) = true then ((idx x13.2.2.2.1 x20).bind fun (x73 : Option Nat) => ((idx x2.2.2.2.1 x20).bind fun (x74 : Option Nat) => ((spec_SameNumber x73 x74).bind fun (x75 : Bool) => some (!x75)))) else some false))) else (if ((Int.tmod x20 x2.1) != x12) = true then ((idx x13.2.2.2.1 x20).bind fun (x76 : Option Nat) => ((idx x2.2.2.2.1 x20).bind fun (x77 : Option Nat) => ((spec_SameNumber x76 x77).bind fun (x78 : Bool) => some (!x78)))) else (if ((IntKind.wrap .i64 (Int.tdiv x20 x2.1)) == x8) = true then ((idx x13.2.2.2.1 x20).bind fun (x79 : Option Nat) => ((idx x2.2.2.2.1 x20).bind fun (x80 : Option Nat) => ((spec_SameNumber x79 x80).bind fun (x81 : Bool) => some (!x81)))) else some false))) : Option Bool).bind fun (x62 : Bool) => (if x62 = true then some (.inr (.inr false)) else some (.inl (x19, IntKind.wrap .i64 (x20 + 1))))))))))))))) else some (.inr (.inl (x19, x20, decide (x20 < (x2.2.2.2.1.length : Int))))))

noncomputable def laws_FnGraded (a0 : List (Int)) (a1 : List (Int)) : Option Bool :=
 ((laws_b10Long a0 a1).bind fun (x1 : Bool) => (if x1 = true then some true else ((spec_B10Sheet a0).bind fun (x2 : (Int × Int × Bool × (List (Option Nat)) × (List (Option Nat)))) => ((spec_B10Field a1 x2.1 x2.2.1 x2.2.2.1 x2.2.2.2.1 x2.2.2.2.2).bind fun (x3 : ((List (Option Nat)) × (List (Option Nat)) × (List (Option Nat)))) => ((laws_b10At a1 0 4).bind fun (x4 : Int) => ((laws_b10At a1 1 9).bind fun (x5 : Int) => ((impl_GradeLosses x2.1 x2.2.1 x2.2.2.1 x2.2.2.2.1 x2.2.2.2.2 (IntKind.wrap .i64 (1 + x4)) (fop .quo .f32 (fofi .f32 x5) (some 1090519040))).bind fun (x6 : (Int × Int × Bool × (List (Option Nat)) × (List (Option Nat)) × Bool)) => ((impl_RampField x2.1 x2.2.1 x2.2.2.1 x2.2.2.2.1 x2.2.2.2.2 x3.1 x3.2.1 x3.2.2 (IntKind.wrap .i64 (1 + x4))).bind fun (x7 : ((List (Option Nat)) × (List (Option Nat)) × (List (Option Nat)) × Bool)) => ((laws_b10At a1 2 x2.2.1).bind fun (x8 : Int) => ((laws_b10At a1 3 (IntKind.wrap .i64 (x2.2.1 - x8))).bind fun (x9 : Int) => ((impl_ChannelSheet x2.1 x2.2.1 x2.2.2.1 x2.2.2.2.1 x2.2.2.2.2 x8 (IntKind.wrap .i64 (x8 + x9))).bind fun (x10 : (Int × Int × Bool × (List (Option Nat)) × (List (Option Nat)) × Bool)) => ((impl_StillCells x10.1 x10.2.1 x10.2.2.1 x10.2.2.2.1 x10.2.2.2.2.1).bind fun (x11 : ((List (Int)) × Bool)) => ((laws_b10At a1 4 x2.1).bind fun (x12 : Int) => ((impl_SlitSheet x2.1 x2.2.1 x2.2.2.1 x2.2.2.2.1 x2.2.2.2.2 x12 [x8]).bind fun (x13 : (Int × Int × Bool × (List (Option Nat)) × (List (Option Nat)) × Bool)) => (((if (!x6.2.2.2.2.2) = true then some true else (if (!x7.2.2.2) = true then some true else (if (!x10.2.2.2.2.2) = true then some true else (if (!x11.2) = true then some true else (if (!x13.2.2.2.2.2) = true then some true else ((impl_ValidSheet x6.1 x6.2.1 x6.2.2.1 x6.2.2.2.1 x6.2.2.2.2.1).bind fun (x15 : Bool) => (if (!x15) = true then some true else ((impl_IsField x2.1 x2.2.1 x2.2.2.1 x2.2.2.2.1 x2.2.2.2.2 x7.1 x7.2.1 x7.2.2.1).bind fun (x16 : Bool) => (if (!x16) = true then some true else ((impl_ValidSheet x10.1 x10.2.1 x10.2.2.1 x10.2.2.2.1 x10.2.2.2.2.1).bind fun (x17 : Bool) => (if (!x17) = true then some true else ((impl_ValidSheet x13.1 x13.2.1 x13.2.2.1 x13.2.2.2.1 x13.2.2.2.2.1).bind fun (x18 : Bool) => some (!x18))))))))))))) : Option Bool).bind fun (x14 : Bool) => (if x14 = true then some false else ((loopF (fun (s : (Bool × Int)) => laws_FnGraded.s0 x2 x3 x4 x6 x7 x8 x9 x10 x11 x12 x13 s.1 s.2) (false, 0)).bind fun (y2 : ((Bool × Int × Bool) ⊕ Bool)) => match y2 with | .inl (x21, x22, x23) => some true | .inr r1 => some r1)))))))))))))))))

set_option maxRecDepth 20000 in
theorem laws_b10Long_ok (h0 : Heap) (u0 : Value) (a0 : List (Int)) (g0 : SL (kI .u8) h0.size h0 u0 a0) (u1 : Value) (a1 : List (Int)) (g1 : SL (kI .u8) h0.size h0 u1 a1) (r : Bool) (hp : laws_b10Long a0 a1 = some r) : CallsH Try.prog 36 ([u0, u1].toArray ++ [].toArray) h0 (fun v h' => v = (.bool r) ∧ h0 = h') := by
 unfold laws_b10Long at hp
 refine callsH_of_W (l := [u0, u1]) (cap := []) 13 Try.func36 rfl rfl rfl ?_
 refine W.seq ?_
 refine W.region ?_
 refine RL.opD (by decide) (opv_assign rfl rfl) ?_
 refine RL.nil ?_
 refine thnN ?_
 refine W.seq ?_
 obtain ⟨x1, hy1, hp⟩ := Option.bind_eq_some_iff.1 hp
 refine W.cut (fun φ' h' => Fr.sub [(0, u0), (1, u1), (4, (.bool x1))] φ' ∧ h0 = h') ?_ ?_
 ·refine W.region ?_
  refine RL.opD (by decide) (opv_move rfl rfl) ?_
  refine RL.opD (by decide) (opv_len rfl Try.underlying22 rfl g0) ?_
  refine RL.opD (by decide) (opv_icmp rfl rfl rfl rfl) ?_
  refine RL.opD (by decide) (opv_move rfl rfl) ?_
  by_cases c1 : (decide ((a0.length : Int) > 1048576)) = true
  ·rw [if_pos c1] at hy1
   refine RL.noT rfl rfl c1 (by decide) ?_
   refine RL.noT rfl rfl c1 (by decide) ?_
   refine RL.noT rfl rfl c1 (by decide) ?_
   refine RL.opD (by decide) (opv_pick rfl rfl (fun _ => rfl) (fun e => absurd (Eq.trans (Eq.symm e) c1) (by decide)) rfl) ?_
   refine RL.opD (by decide) (opv_assign rfl rfl) ?_
   refine RL.nil ?_
   have ey1 := Option.some.inj hy1
   subst ey1
   refine onlyN ?_
   exact ⟨⟨rfl, rfl, rfl, trivial⟩, rfl⟩
  ·rw [if_neg c1] at hy1
   have c1 := eq_false_of_ne_true c1
   refine RL.yesD rfl rfl c1 (by decide) (opv_move rfl rfl) ?_
   refine RL.yesD rfl rfl c1 (by decide) (opv_len rfl Try.underlying22 rfl g1) ?_
   refine RL.yesD rfl rfl c1 (by decide) (opv_icmp rfl rfl rfl rfl) ?_
   refine RL.opD (by decide) (opv_pick rfl rfl (fun e => absurd (Eq.trans (Eq.symm e) c1) (by decide)) (fun _ => rfl) rfl) ?_
   refine RL.opD (by decide) (opv_assign rfl rfl) ?_
   refine RL.nil ?_
   have ey1 := Option.some.inj hy1
   subst ey1
   refine onlyN ?_
   exact ⟨⟨rfl, rfl, rfl, trivial⟩, rfl⟩
 rintro φ' _ ⟨hs1, rfl⟩
 refine thnN ?_
 refine W.sub hs1 ?_
 refine W.ret ?_
 have er := Option.some.inj hp
 subst er
 exact Rt.one rfl rfl ⟨rfl, rfl⟩

set_option maxRecDepth 20000 in
theorem laws_b10At_ok (h0 : Heap) (u0 : Value) (a0 : List (Int)) (g0 : SL (kI .u8) h0.size h0 u0 a0) (a1 : Int) (a2 : Int) (r : Int) (hp : laws_b10At a0 a1 a2 = some r) : CallsH Try.prog 39 ([u0, (.int .i64 a1), (.int .i64 a2)].toArray ++ [].toArray) h0 (fun v h' => v = (.int .i64 r) ∧ h0 = h') := by
 unfold laws_b10At at hp
 refine callsH_of_W (l := [u0, (.int .i64 a1), (.int .i64 a2)]) (cap := []) 25 Try.func39 rfl rfl rfl ?_
 refine W.seq ?_
 refine W.region ?_
 refine RL.opD (by decide) (opv_assign rfl rfl) ?_
 refine RL.nil ?_
 refine thnN ?_
 refine W.seq ?_
 refine W.seq ?_
 refine W.region ?_
 refine RL.opD (by decide) (opv_move rfl rfl) ?_
 refine RL.opD (by decide) (opv_icmp rfl rfl rfl rfl) ?_
 refine RL.nil ?_
 refine thnN ?_
 by_cases c1 : (decide (a2 ≤ 1)) = true
 ·rw [if_pos c1] at hp
  refine W.condT rfl c1 ?_
  refine W.seq ?_
  refine W.region ?_
  refine RL.opD (by decide) (opv_assign rfl rfl) ?_
  refine RL.nil ?_
  refine thnN ?_
  refine W.ret ?_
  refine thnR ?_
  have er := Option.some.inj hp
  subst er
  exact Rt.one rfl rfl ⟨rfl, rfl⟩
 ·rw [if_neg c1] at hp
  have c1 := eq_false_of_ne_true c1
  refine W.condF rfl c1 ?_
  refine W.skip ?_
  refine thnN ?_
  refine W.seq ?_
  refine W.seq ?_
  refine W.region ?_
  refine RL.opD (by decide) (opv_move rfl rfl) ?_
  refine RL.opD (by decide) (opv_move rfl rfl) ?_
  refine RL.opD (by decide) (opv_len rfl Try.underlying22 rfl g0) ?_
  refine RL.opD (by decide) (opv_icmp rfl rfl rfl rfl) ?_
  refine RL.nil ?_
  refine thnN ?_
  by_cases c2 : (decide (a1 < (a0.length : Int))) = true
  ·rw [if_pos c2] at hp
   refine W.condT rfl c2 ?_
   refine W.seq ?_
   refine W.region ?_
   refine RL.opD (by decide) (opv_move rfl rfl) ?_
   refine RL.opD (by decide) (opv_move rfl rfl) ?_
   obtain ⟨x1, hx1, hp⟩ := Option.bind_eq_some_iff.1 hp
   refine RL.op _ (by decide) (opv_index rfl Try.underlying22 (by rw [Try.size5]; rfl) rfl rfl g0 hx1) ?_
   rintro v1 _ ⟨fv1, rfl⟩
   refine RL.opD (by decide) (opv_loadI rfl Try.one5 rfl fv1 g0 hx1) ?_
   refine RL.opD (by decide) (opv_i2i rfl (by rw [Try.underlying5]; rfl) Try.underlying2 rfl) ?_
   refine RL.opD (by decide) (opv_move rfl rfl) ?_
   by_cases nc3 : a2 = 0
   ·rw [if_pos nc3] at hp; cases hp
   rw [if_neg nc3] at hp
   have c3 : a2 ≠ 0 := nc3
   refine RL.opD (by decide) (opv_rem rfl c3 rfl rfl) ?_
   refine RL.opD (by decide) (opv_assign rfl rfl) ?_
   refine RL.nil ?_
   refine thnN ?_
   refine W.ret ?_
   refine thnR ?_
   have er := Option.some.inj hp
   subst er
   exact Rt.one rfl rfl ⟨rfl, rfl⟩
  ·rw [if_neg c2] at hp
   have c2 := eq_false_of_ne_true c2
   refine W.condF rfl c2 ?_
   refine W.skip ?_
   refine thnN ?_
   refine W.seq ?_
   refine W.region ?_
   refine RL.opD (by decide) (opv_move rfl rfl) ?_
   refine RL.opD (by decide) (opv_mul rfl rfl rfl) ?_
   refine RL.opD (by decide) (opv_add rfl rfl rfl) ?_
   refine RL.opD (by decide) (opv_move rfl rfl) ?_
   by_cases nc4 : a2 = 0
   ·rw [if_pos nc4] at hp; cases hp
   rw [if_neg nc4] at hp
   have c4 : a2 ≠ 0 := nc4
   refine RL.opD (by decide) (opv_rem rfl c4 rfl rfl) ?_
   refine RL.opD (by decide) (opv_assign rfl rfl) ?_
   refine RL.nil ?_
   refine thnN ?_
   refine W.ret ?_
   have er := Option.some.inj hp
   subst er
   exact Rt.one rfl rfl ⟨rfl, rfl⟩

set_option maxRecDepth 20000 in
theorem impl_DepthOf_ok (h0 : Heap) (a0_0 : Int) (a0_1 : Int) (a0_2 : Bool) (u0_3 : Value) (a0_3 : List (Option Nat)) (g0_3 : SL (kF .f32) h0.size h0 u0_3 a0_3) (u0_4 : Value) (a0_4 : List (Option Nat)) (g0_4 : SL (kF .f32) h0.size h0 u0_4 a0_4) (a1 : Int) (a2 : Int) (r : (Int × Bool)) (hp : impl_DepthOf a0_0 a0_1 a0_2 a0_3 a0_4 a1 a2 = some r) : CallsH Try.prog 47 ([(.agg (List.toArray (α := Value) [(.int .i64 a0_0), (.int .i64 a0_1), (.bool a0_2), u0_3, u0_4])), (.int .i64 a1), (.int .i64 a2)].toArray ++ [].toArray) h0 (fun v h' => v = (.tuple (List.toArray (α := Value) [(.int .i64 r.1), (.bool r.2)])) ∧ Mod [] h0 h' ∧ Sep [] h0.size h' []) := by
 unfold impl_DepthOf at hp
 refine callsH_of_W (l := [(.agg (List.toArray (α := Value) [(.int .i64 a0_0), (.int .i64 a0_1), (.bool a0_2), u0_3, u0_4])), (.int .i64 a1), (.int .i64 a2)]) (cap := []) 17 Try.func47 rfl rfl rfl ?_
 refine W.seq ?_
 refine W.region ?_
 refine RL.op _ (by decide) (opS_boxed (opv_boxA (cs := [(.int .i64 a0_0), (.int .i64 a0_1), (.bool a0_2), u0_3, u0_4]) rfl rfl)) ?_
 rintro _ hp1 ⟨bb1, rfl, MT_1, T_1⟩
 obtain ⟨X_1, S_1⟩ := Sep.turn0 (Mod.refl [] h0) (Sep.nil [] h0.size h0) MT_1 T_1
 refine RL.opD (by decide) (opv_assign rfl rfl) ?_
 refine RL.opD (by decide) (opv_assign rfl rfl) ?_
 refine RL.nil ?_
 refine thnN ?_
 refine W.seq ?_
 refine W.seq ?_
 refine W.region ?_
 refine RL.opD (by decide) (opv_loadA (us := [(.int .i64 a0_0), (.int .i64 a0_1), (.bool a0_2), u0_3, u0_4]) rfl Try.agg33 Try.size33 rfl (Sep.at (o := boxO bb1 [(.int .i64 a0_0), (.int .i64 a0_1), (.bool a0_2), u0_3, u0_4]) S_1 0 rfl) rfl rfl) ?_
 refine RL.opD (by decide) (opv_move rfl rfl) ?_
 refine RL.opD (by decide) (opv_move rfl rfl) ?_
 obtain ⟨x1, hx1, hp⟩ := Option.bind_eq_some_iff.1 hp
 refine RL.op _ (by decide) (opv_call (cap := []) (impl_isValidCell_ok _ _ _ _ _ _ (SL.up (SL.mod g0_3 X_1 (Nat.le_refl _) nob) (Nat.le_trans (Nat.le_refl _) (Mod.size X_1))) _ _ (SL.up (SL.mod g0_4 X_1 (Nat.le_refl _) nob) (Nat.le_trans (Nat.le_refl _) (Mod.size X_1))) _ _ _ hx1) rfl rfl ⟨rfl, rfl, rfl, trivial⟩ Try.func109 rfl rfl) ?_
 rintro _ hp2 ⟨rfl, MT_2, T_2⟩
 obtain ⟨X_2, S_2⟩ := Sep.turn0 X_1 S_1 MT_2 T_2
 refine RL.opD (by decide) (opv_not rfl rfl) ?_
 refine RL.nil ?_
 refine thnN ?_
 by_cases c1 : (!x1) = true
 ·rw [if_pos c1] at hp
  refine W.condT rfl c1 ?_
  refine W.seq ?_
  refine W.region ?_
  refine RL.opD (by decide) (opv_assign rfl rfl) ?_
  refine RL.opD (by decide) (opv_assign rfl rfl) ?_
  refine RL.nil ?_
  refine thnN ?_
  refine W.ret ?_
  refine thnR ?_
  have er := Option.some.inj hp
  subst er
  exact Rt.two rfl rfl rfl ⟨rfl, X_2, (Sep.nil _ _ _)⟩
 ·rw [if_neg c1] at hp
  have c1 := eq_false_of_ne_true c1
  refine W.condF rfl c1 ?_
  refine W.skip ?_
  refine thnN ?_
  refine W.seq ?_
  refine W.region ?_
  refine RL.opD (by decide) (opv_loadA (us := [(.int .i64 a0_0), (.int .i64 a0_1), (.bool a0_2), u0_3, u0_4]) rfl Try.agg33 Try.size33 rfl (Sep.at (o := boxO bb1 [(.int .i64 a0_0), (.int .i64 a0_1), (.bool a0_2), u0_3, u0_4]) S_2 0 rfl) rfl rfl) ?_
  refine RL.opD (by decide) (opv_move rfl rfl) ?_
  refine RL.opD (by decide) (opv_move rfl rfl) ?_
  obtain ⟨x2, hx2, hp⟩ := Option.bind_eq_some_iff.1 hp
  refine RL.op _ (by decide) (opv_call (cap := []) (impl_Sheet_depth_ok _ _ _ _ _ _ (SL.up (SL.mod g0_3 X_2 (Nat.le_refl _) nob) (Nat.le_trans (Nat.le_refl _) (Mod.size X_2))) _ _ (SL.up (SL.mod g0_4 X_2 (Nat.le_refl _) nob) (Nat.le_trans (Nat.le_refl _) (Mod.size X_2))) _ _ _ hx2) rfl rfl ⟨rfl, rfl, rfl, trivial⟩ Try.func103 rfl rfl) ?_
  rintro _ hp3 ⟨rfl, MT_3, T_3⟩
  obtain ⟨X_3, S_3⟩ := Sep.turn0 X_2 S_2 MT_3 T_3
  refine RL.opD (by decide) (opv_assign rfl rfl) ?_
  refine RL.opD (by decide) (opv_assign rfl rfl) ?_
  refine RL.nil ?_
  refine thnN ?_
  refine W.ret ?_
  have er := Option.some.inj hp
  subst er
  exact Rt.two rfl rfl rfl ⟨rfl, X_3, (Sep.nil _ _ _)⟩

set_option maxRecDepth 20000 in
theorem spec_l01Bits_ok (h0 : Heap) (u0 : Value) (a0 : Option Nat) (g0 : IsF .f32 u0 a0) (r : Int) (hp : spec_l01Bits a0 = some r) : CallsH Try.prog 157 ([u0].toArray ++ [].toArray) h0 (fun v h' => v = (.int .i64 r) ∧ h0 = h') := by
 unfold spec_l01Bits at hp
 refine callsH_of_W (l := [u0]) (cap := []) 9 Try.func157 rfl rfl rfl ?_
 refine W.seq ?_
 refine W.region ?_
 refine RL.opD (by decide) (opv_assign rfl rfl) ?_
 refine RL.nil ?_
 refine thnN ?_
 refine W.seq ?_
 refine W.seq ?_
 refine W.region ?_
 refine RL.opD (by decide) (opv_move rfl rfl) ?_
 refine RL.opD (by decide) (opv_move rfl rfl) ?_
 refine RL.opD (by decide) (opv_fcmp rfl rfl rfl rfl g0 g0) ?_
 refine RL.nil ?_
 refine thnN ?_
 by_cases c1 : (fcmp .neq .f32 a0 a0) = true
 ·rw [if_pos c1] at hp
  refine W.condT rfl c1 ?_
  refine W.seq ?_
  refine W.region ?_
  refine RL.opD (by decide) (opv_assign rfl rfl) ?_
  refine RL.nil ?_
  refine thnN ?_
  refine W.ret ?_
  refine thnR ?_
  have er := Option.some.inj hp
  subst er
  exact Rt.one rfl rfl ⟨rfl, rfl⟩
 ·rw [if_neg c1] at hp
  have c1 := eq_false_of_ne_true c1
  refine W.condF rfl c1 ?_
  refine W.skip ?_
  refine thnN ?_
  refine W.seq ?_
  refine W.region ?_
  refine RL.opD (by decide) (opv_move rfl rfl) ?_
  obtain ⟨x1, hx1, hp⟩ := Option.bind_eq_some_iff.1 hp
  refine RL.opD (by decide) (opv_ext (vs := [u0]) rfl rfl ⟨rfl, trivial⟩ Try.func173 rfl rfl rfl rfl (fun w => bits32_run g0 hx1 w)) ?_
  refine RL.opD (by decide) (opv_i2i rfl (by rw [Try.underlying184]; rfl) Try.underlying2 rfl) ?_
  refine RL.opD (by decide) (opv_assign rfl rfl) ?_
  refine RL.nil ?_
  refine thnN ?_
  refine W.ret ?_
  have er := Option.some.inj hp
  subst er
  exact Rt.one rfl rfl ⟨rfl, rfl⟩

set_option maxRecDepth 20000 in
theorem spec_l01Same_ok (h0 : Heap) (u0 : Value) (a0 : Option Nat) (g0 : IsF .f32 u0 a0) (u1 : Value) (a1 : Option Nat) (g1 : IsF .f32 u1 a1) (r : Bool) (hp : spec_l01Same a0 a1 = some r) : CallsH Try.prog 113 ([u0, u1].toArray ++ [].toArray) h0 (fun v h' => v = (.bool r) ∧ h0 = h') := by
 unfold spec_l01Same at hp
 refine callsH_of_W (l := [u0, u1]) (cap := []) 10 Try.func113 rfl rfl rfl ?_
 refine W.seq ?_
 refine W.region ?_
 refine RL.opD (by decide) (opv_assign rfl rfl) ?_
 refine RL.nil ?_
 refine thnN ?_
 refine W.seq ?_
 refine W.region ?_
 refine RL.opD (by decide) (opv_move rfl rfl) ?_
 obtain ⟨x1, hx1, hp⟩ := Option.bind_eq_some_iff.1 hp
 refine RL.op _ (by decide) (opv_call (cap := []) (spec_l01Bits_ok _ _ _ g0 _ hx1) rfl rfl ⟨rfl, trivial⟩ Try.func157 rfl rfl) ?_
 rintro _ _ ⟨rfl, rfl⟩
 refine RL.opD (by decide) (opv_move rfl rfl) ?_
 obtain ⟨x2, hx2, hp⟩ := Option.bind_eq_some_iff.1 hp
 refine RL.op _ (by decide) (opv_call (cap := []) (spec_l01Bits_ok _ _ _ g1 _ hx2) rfl rfl ⟨rfl, trivial⟩ Try.func157 rfl rfl) ?_
 rintro _ _ ⟨rfl, rfl⟩
 refine RL.opD (by decide) (opv_icmp rfl rfl rfl rfl) ?_
 refine RL.opD (by decide) (opv_assign rfl rfl) ?_
 refine RL.nil ?_
 refine thnN ?_
 refine W.ret ?_
 have er := Option.some.inj hp
 subst er
 exact Rt.one rfl rfl ⟨rfl, rfl⟩

set_option maxRecDepth 20000 in
theorem spec_SameNumber_ok (h0 : Heap) (u0 : Value) (a0 : Option Nat) (g0 : IsF .f32 u0 a0) (u1 : Value) (a1 : Option Nat) (g1 : IsF .f32 u1 a1) (r : Bool) (hp : spec_SameNumber a0 a1 = some r) : CallsH Try.prog 48 ([u0, u1].toArray ++ [].toArray) h0 (fun v h' => v = (.bool r) ∧ h0 = h') := by
 unfold spec_SameNumber at hp
 refine callsH_of_W (l := [u0, u1]) (cap := []) 8 Try.func48 rfl rfl rfl ?_
 refine W.seq ?_
 refine W.region ?_
 refine RL.opD (by decide) (opv_assign rfl rfl) ?_
 refine RL.nil ?_
 refine thnN ?_
 refine W.seq ?_
 refine W.region ?_
 refine RL.opD (by decide) (opv_move rfl rfl) ?_
 refine RL.opD (by decide) (opv_move rfl rfl) ?_
 obtain ⟨x1, hx1, hp⟩ := Option.bind_eq_some_iff.1 hp
 refine RL.op _ (by decide) (opv_call (cap := []) (spec_l01Same_ok _ _ _ g0 _ _ g1 _ hx1) rfl rfl ⟨rfl, rfl, trivial⟩ Try.func113 rfl rfl) ?_
 rintro _ _ ⟨rfl, rfl⟩
 refine RL.opD (by decide) (opv_assign rfl rfl) ?_
 refine RL.nil ?_
 refine thnN ?_
 refine W.ret ?_
 have er := Option.some.inj hp
 subst er
 exact Rt.one rfl rfl ⟨rfl, rfl⟩

set_option maxHeartbeats 4000000 in
set_option maxRecDepth 20000 in
theorem laws_FnGraded_ok (h0 : Heap) (u0 : Value) (a0 : List (Int)) (g0 : SL (kI .u8) h0.size h0 u0 a0) (u1 : Value) (a1 : List (Int)) (g1 : SL (kI .u8) h0.size h0 u1 a1) (r : Bool) (hp : laws_FnGraded a0 a1 = some r) : CallsH Try.prog 7 ([u0, u1].toArray ++ [].toArray) h0 (fun v h' => v = (.bool r) ∧ Mod [] h0 h' ∧ Sep [] h0.size h' []) := by
 unfold laws_FnGraded at hp
 refine callsH_of_W (l := [u0, u1]) (cap := []) 347 Try.func7 rfl rfl rfl ?_
 refine W.seq ?_
 refine W.region ?_
 refine RL.opD (by decide) (opv_assign rfl rfl) ?_
 refine RL.nil ?_
 refine thnN ?_
 refine W.seq ?_
 refine W.seq ?_
 refine W.region ?_
 refine RL.opD (by decide) (opv_move rfl rfl) ?_
 refine RL.opD (by decide) (opv_move rfl rfl) ?_
 obtain ⟨x1, hx1, hp⟩ := Option.bind_eq_some_iff.1 hp
 refine RL.op _ (by decide) (opv_call (cap := []) (laws_b10Long_ok _ _ _ g0 _ _ g1 _ hx1) rfl rfl ⟨rfl, rfl, trivial⟩ Try.func36 rfl rfl) ?_
 rintro _ _ ⟨rfl, rfl⟩
 refine RL.nil ?_
 refine thnN ?_
 by_cases c1 : x1 = true
 ·rw [if_pos c1] at hp
  refine W.condT rfl c1 ?_
  refine W.seq ?_
  refine W.region ?_
  refine RL.opD (by decide) (opv_assign rfl rfl) ?_
  refine RL.nil ?_
  refine thnN ?_
  refine W.ret ?_
  refine thnR ?_
  have er := Option.some.inj hp
  subst er
  exact Rt.one rfl rfl ⟨rfl, (Mod.refl [] h0), (Sep.nil _ _ _)⟩
 ·rw [if_neg c1] at hp
  have c1 := eq_false_of_ne_true c1
  refine W.condF rfl c1 ?_
  refine W.skip ?_
  refine thnN ?_
  refine W.seq ?_
  refine W.region ?_
  refine RL.opD (by decide) (opv_move rfl rfl) ?_
  obtain ⟨x2, hx2, hp⟩ := Option.bind_eq_some_iff.1 hp
  refine RL.op _ (by decide) (opv_call (cap := []) (spec_B10Sheet_ok _ _ _ g0 _ hx2) rfl rfl ⟨rfl, trivial⟩ Try.func37 rfl rfl) ?_
  rintro _ hp1 ⟨v1, v2, rfl, MT_1, T_1⟩
  obtain ⟨X_1, S_1⟩ := Sep.turn0 (Mod.refl [] h0) (Sep.nil [] h0.size h0) MT_1 T_1
  refine RL.op _ (by decide) (opS_boxed (opv_alloc (cs := [(.int .i64 0), (.int .i64 0), (.bool false), (.slice none 0 0), (.slice none 0 0)]) rfl Try.zero33 rfl)) ?_
  rintro _ hp2 ⟨bb1, rfl, MT_2, T_2⟩
  obtain ⟨X_2, S_2⟩ := Sep.turn0 X_1 S_1 MT_2 T_2
  refine RL.op0 _ (opS_stored (cs := [(.int .i64 0), (.int .i64 0), (.bool false), (.slice none 0 0), (.slice none 0 0)]) (cs' := [(.int .i64 x2.1), (.int .i64 x2.2.1), (.bool x2.2.2.1), v1, v2]) (opv_storeA (us := [(.int .i64 x2.1), (.int .i64 x2.2.1), (.bool x2.2.2.1), v1, v2]) rfl Try.size33 rfl rfl (oneAll rfl (oneAll rfl (oneAll rfl (oneAll (ownO.one (Sep.at (o := ownO (kF .f32) 29 v1 x2.2.2.2.1) S_2 1 rfl)) (oneAll (ownO.one (Sep.at (o := ownO (kF .f32) 29 v2 x2.2.2.2.2) S_2 2 rfl)) rfl))))) (Sep.at (o := boxO bb1 [(.int .i64 0), (.int .i64 0), (.bool false), (.slice none 0 0), (.slice none 0 0)]) S_2 0 rfl) rfl rfl) (Sep.at (o := boxO bb1 [(.int .i64 0), (.int .i64 0), (.bool false), (.slice none 0 0), (.slice none 0 0)]) S_2 0 rfl)) ?_
  rintro _ hp3 ⟨rfl, MT_3, T_3⟩
  have S_3 : Sep [] h0.size hp2 ([boxO bb1 [(.int .i64 0), (.int .i64 0), (.bool false), (.slice none 0 0), (.slice none 0 0)]] ++ [ownO (kF .f32) 29 v1 x2.2.2.2.1, ownO (kF .f32) 29 v2 x2.2.2.2.2]) := Sep.sel S_2 [0, 1, 2] (by decide)
  obtain ⟨X_3, S_4⟩ := Sep.turn X_2 S_3 MT_3 T_3
  refine RL.nil ?_
  refine thnN ?_
  refine W.seq ?_
  refine W.region ?_
  refine RL.opD (by decide) (opv_move rfl rfl) ?_
  refine RL.opD (by decide) (opv_loadA (us := [(.int .i64 x2.1), (.int .i64 x2.2.1), (.bool x2.2.2.1), v1, v2]) rfl Try.agg33 Try.size33 rfl (Sep.at (o := boxO bb1 [(.int .i64 x2.1), (.int .i64 x2.2.1), (.bool x2.2.2.1), v1, v2]) S_4 0 rfl) rfl rfl) ?_
  obtain ⟨x3, hx3, hp⟩ := Option.bind_eq_some_iff.1 hp
  refine RL.op _ (by decide) (opv_call (cap := []) (spec_B10Field_ok _ _ _ (SL.up (SL.mod g1 X_3 (Nat.le_refl _) nob) (Nat.le_trans (Nat.le_refl _) (Mod.size X_3))) _ _ _ _ _ (ownO.read (Sep.at (o := ownO (kF .f32) 29 v1 x2.2.2.2.1) S_4 1 rfl)) _ _ (ownO.read (Sep.at (o := ownO (kF .f32) 29 v2 x2.2.2.2.2) S_4 2 rfl)) _ hx3) rfl rfl ⟨rfl, rfl, trivial⟩ Try.func38 rfl rfl) ?_
  rintro _ hp4 ⟨v3, v4, v5, rfl, MT_4, T_4⟩
  obtain ⟨X_4, S_5⟩ := Sep.turn0 X_3 S_4 MT_4 T_4
  refine RL.op _ (by decide) (opS_boxed (opv_alloc (cs := [(.slice none 0 0), (.slice none 0 0), (.slice none 0 0)]) rfl Try.zero37 rfl)) ?_
  rintro _ hp5 ⟨bb2, rfl, MT_5, T_5⟩
  obtain ⟨X_5, S_6⟩ := Sep.turn0 X_4 S_5 MT_5 T_5
  refine RL.op0 _ (opS_stored (cs := [(.slice none 0 0), (.slice none 0 0), (.slice none 0 0)]) (cs' := [v3, v4, v5]) (opv_storeA (us := [v3, v4, v5]) rfl Try.size37 rfl rfl (oneAll (ownO.one (Sep.at (o := ownO (kF .f32) 29 v3 x3.1) S_6 1 rfl)) (oneAll (ownO.one (Sep.at (o := ownO (kF .f32) 29 v4 x3.2.1) S_6 2 rfl)) (oneAll (ownO.one (Sep.at (o := ownO (kF .f32) 29 v5 x3.2.2) S_6 3 rfl)) rfl))) (Sep.at (o := boxO bb2 [(.slice none 0 0), (.slice none 0 0), (.slice none 0 0)]) S_6 0 rfl) rfl rfl) (Sep.at (o := boxO bb2 [(.slice none 0 0), (.slice none 0 0), (.slice none 0 0)]) S_6 0 rfl)) ?_
  rintro _ hp6 ⟨rfl, MT_6, T_6⟩
  have S_7 : Sep [] h0.size hp5 ([boxO bb2 [(.slice none 0 0), (.slice none 0 0), (.slice none 0 0)]] ++ [ownO (kF .f32) 29 v3 x3.1, ownO (kF .f32) 29 v4 x3.2.1, ownO (kF .f32) 29 v5 x3.2.2, boxO bb1 [(.int .i64 x2.1), (.int .i64 x2.2.1), (.bool x2.2.2.1), v1, v2], ownO (kF .f32) 29 v1 x2.2.2.2.1, ownO (kF .f32) 29 v2 x2.2.2.2.2]) := Sep.sel S_6 [0, 1, 2, 3, 4, 5, 6] (by decide)
  obtain ⟨X_6, S_8⟩ := Sep.turn X_5 S_7 MT_6 T_6
  refine RL.nil ?_
  refine thnN ?_
  refine W.seq ?_
  refine W.region ?_
  refine RL.opD (by decide) (opv_move rfl rfl) ?_
  obtain ⟨x4, hx4, hp⟩ := Option.bind_eq_some_iff.1 hp
  refine RL.op _ (by decide) (opv_call (cap := []) (laws_b10At_ok _ _ _ (SL.up (SL.mod g1 X_6 (Nat.le_refl _) nob) (Nat.le_trans (Nat.le_refl _) (Mod.size X_6))) _ _ _ hx4) rfl rfl ⟨rfl, rfl, rfl, trivial⟩ Try.func39 rfl rfl) ?_
  rintro _ _ ⟨rfl, rfl⟩
  refine RL.opD (by decide) (opv_add rfl rfl rfl) ?_
  refine RL.opD (by decide) (opv_assign rfl rfl) ?_
  refine RL.nil ?_
  refine thnN ?_
  refine W.seq ?_
  obtain ⟨x5, hx5, hp⟩ := Option.bind_eq_some_iff.1 hp
  obtain ⟨x6, hx6, hp⟩ := Option.bind_eq_some_iff.1 hp
  refine W.sub (ψ := [(0, u0), (1, u1), (4, (.bool false)), (30, (.bool x1)), (5, (.pointer (some ⟨bb1, 0, none⟩))), (6, (.pointer (some ⟨bb2, 0, none⟩))), (7, (.int .i64 (IntKind.wrap .i64 (1 + x4))))]) ⟨rfl, rfl, rfl, rfl, rfl, rfl, rfl, trivial⟩ ?_
  refine W.regionL [fun v _ => @Eq Value (.agg (List.toArray (α := Value) [(.int .i64 x2.1), (.int .i64 x2.2.1), (.bool x2.2.2.1), v1, v2])) v, fun v _ => @Eq Value (.int .i64 (IntKind.wrap .i64 (1 + x4))) v, fun v _ => @Eq Value u1 v, fun v _ => @Eq Value (.int .i64 x5) v, fun v _ => IsF .f32 v (fofi .f32 x5), fun v _ => IsF .f32 v (fop .quo .f32 (fofi .f32 x5) (some 1090519040)), fun v h => ∃ v8, ∃ v9, @Eq Value v (.tuple (List.toArray (α := Value) [(.agg (List.toArray (α := Value) [(.int .i64 x6.1), (.int .i64 x6.2.1), (.bool x6.2.2.1), v8, v9])), (.bool x6.2.2.2.2.2)])) ∧ Sep [] hp6.size h [ownO (kF .f32) 29 v8 x6.2.2.2.1, ownO (kF .f32) 29 v9 x6.2.2.2.2.1], fun v h => ∃ v8, ∃ v9, @Eq Value v (.tuple (List.toArray (α := Value) [(.agg (List.toArray (α := Value) [(.int .i64 x6.1), (.int .i64 x6.2.1), (.bool x6.2.2.1), v8, v9])), (.bool x6.2.2.2.2.2)])) ∧ Sep [] hp6.size h [ownO (kF .f32) 29 v8 x6.2.2.2.1, ownO (kF .f32) 29 v9 x6.2.2.2.2.1], fun v h => ∃ v8, ∃ v9, @Eq Value v (.agg (List.toArray (α := Value) [(.int .i64 x6.1), (.int .i64 x6.2.1), (.bool x6.2.2.1), v8, v9])) ∧ Sep [] hp6.size h [ownO (kF .f32) 29 v8 x6.2.2.2.1, ownO (kF .f32) 29 v9 x6.2.2.2.2.1], fun v _ => @Eq Value (.bool x6.2.2.2.2.2) v, fun v h => ∃ b, @Eq Value v (.pointer (some ⟨b, 0, none⟩)) ∧ Sep [] hp6.size h [boxO b [(.int .i64 0), (.int .i64 0), (.bool false), (.slice none 0 0), (.slice none 0 0)]]] [none, none, none, none, none, none, some (fun u => [Value.ownBlock (vget (vget u 0) 3), Value.ownBlock (vget (vget u 0) 4)]), none, none, none, some (fun u => [ptrB u])] [none, none, none, none, none, none, none, some (46, fun u => u), some (39, fun u => vget u 0)] [9] [[], [], [], [2], [3], [4], [0, 1, 5], [6], [7], [7], []] [6, 7, 8, 9, 10] Try.mixed (by decide +kernel) (by decide +kernel) (fun _ _ _ h => h) rfl rfl rfl (by decide +kernel) rfl ⟨fun _ _ _ h _ => h, fun _ _ _ h _ => h, fun _ _ _ h _ => h, fun _ _ _ h _ => h, fun _ _ _ h _ => h, fun _ _ _ h _ => h, fun _ _ _ ⟨u0_, u1_, e, h⟩ x => ⟨u0_, u1_, e, h.ext x⟩, fun _ _ _ ⟨u0_, u1_, e, h⟩ x => ⟨u0_, u1_, e, h.ext x⟩, fun _ _ _ ⟨u0_, u1_, e, h⟩ x => ⟨u0_, u1_, e, h.ext x⟩, fun _ _ _ h _ => h, fun _ _ _ ⟨b, e, h⟩ x => ⟨b, e, h.ext x⟩, trivial⟩ ?_ (.cons ?_ (.nil)) ?_
  ·refine ⟨⟨rfl, ?_⟩, ⟨rfl, ?_⟩, ⟨rfl, ?_⟩, ⟨rfl, ?_⟩, ⟨rfl, ?_⟩, ⟨rfl, ?_⟩, ⟨rfl, ?_⟩, ⟨rfl, ?_⟩, ⟨rfl, ?_⟩, ⟨rfl, ?_⟩, ⟨rfl, ?_⟩, trivial⟩
   ·rintro hp10 E_1
    refine Dep.nil ?_
    refine GuardOK.none rfl ?_
    exact OpV.toDx (opv_loadA (us := [(.int .i64 x2.1), (.int .i64 x2.2.1), (.bool x2.2.2.1), v1, v2]) rfl Try.agg33 Try.size33 rfl (Sep.at (o := boxO bb1 [(.int .i64 x2.1), (.int .i64 x2.2.1), (.bool x2.2.2.1), v1, v2]) (Sep.ext S_8 E_1) 4 rfl) rfl rfl) rfl
   ·rintro hp11 E_2
    refine Dep.nil ?_
    refine GuardOK.none rfl ?_
    exact OpV.toDx (opv_move rfl rfl) rfl
   ·rintro hp12 E_3
    refine Dep.nil ?_
    refine GuardOK.none rfl ?_
    exact OpV.toDx (opv_move rfl rfl) rfl
   ·rintro hp13 E_4 _ rfl
    refine Dep.nil ?_
    refine GuardOK.none rfl ?_
    exact OpV.mono (opv_call (cap := []) (laws_b10At_ok _ _ _ (SL.up (SL.mod g1 (Mod.lift X_6 E_4) (Nat.le_refl _) nob) (Nat.le_trans (Nat.le_refl _) (Mod.size (Mod.lift X_6 E_4)))) _ _ _ hx5) rfl rfl ⟨rfl, rfl, rfl, trivial⟩ Try.func39 rfl rfl) (by rintro _ _ ⟨rfl, rfl⟩; exact ⟨Ext.refl _, rfl⟩)
   ·rintro hp14 E_5 _ rfl
    refine Dep.nil ?_
    refine GuardOK.none rfl ?_
    exact OpV.toSx (opv_i2f rfl (by rw [Try.underlying2]; rfl) Try.underlying29 rfl) (fun _ h => h)
   ·rintro hp15 E_6 v6 fv6
    refine Dep.nil ?_
    refine GuardOK.none rfl ?_
    exact OpV.toSx (opv_fop rfl rfl rfl rfl fv6 (isF_lit .f32 1090519040 (by decide) (by decide))) (fun _ h => h)
   ·rintro hp16 E_7 _ rfl _ rfl v7 fv7
    refine Dep.nil ?_
    refine GuardOK.none rfl ?_
    exact OpV.mono (opv_call (cap := []) (impl_GradeLosses_ok _ _ _ _ _ _ (ownO.read (Sep.at (o := ownO (kF .f32) 29 v1 x2.2.2.2.1) (Sep.ext S_8 E_7) 5 rfl)) _ _ (ownO.read (Sep.at (o := ownO (kF .f32) 29 v2 x2.2.2.2.2) (Sep.ext S_8 E_7) 6 rfl)) _ _ _ fv7 _ hx6) rfl rfl ⟨rfl, rfl, rfl, trivial⟩ Try.func40 rfl rfl) (by rintro _ _ ⟨v8, v9, rfl, M_, T_⟩; exact ⟨Mod.ext M_, ⟨v8, v9, rfl, Sep.weak T_ (Ext.size E_7)⟩, Sep.fresh T_⟩)
   ·rintro hp17 E_8 _ ⟨v8, v9, rfl, T_7⟩
    refine Dep.nil ?_
    refine GuardOK.none rfl ?_
    exact OpV.mono (opv_move rfl rfl) (by rintro _ _ ⟨rfl, rfl⟩; exact ⟨⟨Ext.refl _, v8, v9, rfl, T_7⟩, _, rfl, rfl⟩)
   ·rintro hp18 E_9 _ ⟨v8, v9, rfl, T_7⟩
    refine Dep.nil ?_
    refine GuardOK.none rfl ?_
    exact OpV.mono (opv_extract rfl rfl rfl) (by rintro _ _ ⟨rfl, rfl⟩; exact ⟨⟨Ext.refl _, v8, v9, rfl, T_7⟩, _, rfl, rfl⟩)
   ·rintro hp19 E_10 _ ⟨v8, v9, rfl, T_7⟩
    refine Dep.nil ?_
    refine GuardOK.none rfl ?_
    exact OpV.toDx (opv_extract rfl rfl rfl) rfl
   ·rintro hp20 E_11
    refine Dep.nil ?_
    refine GuardOK.none rfl ?_
    exact OpV.mono (opS_boxed (opv_alloc (cs := [(.int .i64 0), (.int .i64 0), (.bool false), (.slice none 0 0), (.slice none 0 0)]) rfl Try.zero33 rfl)) (by rintro _ _ ⟨b_, rfl, M_, T_⟩; exact ⟨Mod.ext M_, ⟨b_, rfl, Sep.weak T_ (Ext.size E_11)⟩, Sep.fresh T_⟩)
  ·refine ⟨[7], _, rfl, rfl, rfl, rfl, ?_⟩
   rintro hp21 E_12 _ ⟨v8, v9, rfl, T_7⟩
   refine Dep.nil ?_
   exact ⟨_, opy_extract rfl rfl rfl, ⟨Ext.refl _, rfl⟩⟩
  rintro hp22 E_13 _ ⟨v8, v9, rfl, T_7⟩ z7_ _ z8_ _ _ rfl _ ⟨bb3, rfl, T_8⟩
  refine DepM.nil ?_
  intro PW_1 LK_
  have ez7_ : z7_ = (.tuple (List.toArray (α := Value) [(.agg (List.toArray (α := Value) [(.int .i64 x6.1), (.int .i64 x6.2.1), (.bool x6.2.2.1), v8, v9])), (.bool x6.2.2.2.2.2)])) := LK_ 7 _ _ _ _ _ (by decide) rfl rfl rfl rfl
  subst z7_
  have ez8_ : z8_ = (.agg (List.toArray (α := Value) [(.int .i64 x6.1), (.int .i64 x6.2.1), (.bool x6.2.2.1), v8, v9])) := LK_ 8 _ _ _ _ _ (by decide) rfl rfl rfl rfl
  subst z8_
  have X_10 := Mod.lift X_6 E_13
  have S_13 := Sep.join S_8 (Mod.size X_6) (Ext.mod E_13 []) (Sep.both T_7 T_8 (Apt.symm (Apt.of PW_1 0 4 rfl rfl (by decide))))
  show RL _ _ _ _ (_ :: _) _ _
  refine RL.op0 _ (opS_stored (cs := [(.int .i64 0), (.int .i64 0), (.bool false), (.slice none 0 0), (.slice none 0 0)]) (cs' := [(.int .i64 x6.1), (.int .i64 x6.2.1), (.bool x6.2.2.1), v8, v9]) (opv_storeA (us := [(.int .i64 x6.1), (.int .i64 x6.2.1), (.bool x6.2.2.1), v8, v9]) rfl Try.size33 rfl rfl (oneAll rfl (oneAll rfl (oneAll rfl (oneAll (ownO.one (Sep.at (o := ownO (kF .f32) 29 v8 x6.2.2.2.1) S_13 0 rfl)) (oneAll (ownO.one (Sep.at (o := ownO (kF .f32) 29 v9 x6.2.2.2.2.1) S_13 1 rfl)) rfl))))) (Sep.at (o := boxO bb3 [(.int .i64 0), (.int .i64 0), (.bool false), (.slice none 0 0), (.slice none 0 0)]) S_13 2 rfl) rfl rfl) (Sep.at (o := boxO bb3 [(.int .i64 0), (.int .i64 0), (.bool false), (.slice none 0 0), (.slice none 0 0)]) S_13 2 rfl)) ?_
  rintro _ hp23 ⟨rfl, MT_10, T_10⟩
  have S_14 : Sep [] h0.size hp22 ([boxO bb3 [(.int .i64 0), (.int .i64 0), (.bool false), (.slice none 0 0), (.slice none 0 0)]] ++ [ownO (kF .f32) 29 v8 x6.2.2.2.1, ownO (kF .f32) 29 v9 x6.2.2.2.2.1, boxO bb2 [v3, v4, v5], ownO (kF .f32) 29 v3 x3.1, ownO (kF .f32) 29 v4 x3.2.1, ownO (kF .f32) 29 v5 x3.2.2, boxO bb1 [(.int .i64 x2.1), (.int .i64 x2.2.1), (.bool x2.2.2.1), v1, v2], ownO (kF .f32) 29 v1 x2.2.2.2.1, ownO (kF .f32) 29 v2 x2.2.2.2.2]) := Sep.sel S_13 [2, 0, 1, 3, 4, 5, 6, 7, 8, 9] (by decide)
  obtain ⟨X_11, S_15⟩ := Sep.turn X_10 S_14 MT_10 T_10
  refine RL.opD (by decide) (opv_assign rfl rfl) ?_
  refine RL.nil ?_
  refine thnN ?_
  refine W.seq ?_
  refine W.region ?_
  refine RL.opD (by decide) (opv_loadA (us := [(.int .i64 x2.1), (.int .i64 x2.2.1), (.bool x2.2.2.1), v1, v2]) rfl Try.agg33 Try.size33 rfl (Sep.at (o := boxO bb1 [(.int .i64 x2.1), (.int .i64 x2.2.1), (.bool x2.2.2.1), v1, v2]) S_15 7 rfl) rfl rfl) ?_
  refine RL.opD (by decide) (opv_loadA (us := [v3, v4, v5]) rfl Try.agg37 Try.size37 rfl (Sep.at (o := boxO bb2 [v3, v4, v5]) S_15 3 rfl) rfl rfl) ?_
  refine RL.opD (by decide) (opv_move rfl rfl) ?_
  obtain ⟨x7, hx7, hp⟩ := Option.bind_eq_some_iff.1 hp
  refine RL.op _ (by decide) (opv_call (cap := []) (impl_RampField_ok _ _ _ _ _ _ (ownO.read (Sep.at (o := ownO (kF .f32) 29 v1 x2.2.2.2.1) S_15 8 rfl)) _ _ (ownO.read (Sep.at (o := ownO (kF .f32) 29 v2 x2.2.2.2.2) S_15 9 rfl)) _ _ (ownO.read (Sep.at (o := ownO (kF .f32) 29 v3 x3.1) S_15 4 rfl)) _ _ (ownO.read (Sep.at (o := ownO (kF .f32) 29 v4 x3.2.1) S_15 5 rfl)) _ _ (ownO.read (Sep.at (o := ownO (kF .f32) 29 v5 x3.2.2) S_15 6 rfl)) _ _ hx7) rfl rfl ⟨rfl, rfl, rfl, trivial⟩ Try.func41 rfl rfl) ?_
  rintro _ hp24 ⟨v12, v13, v14, rfl, MT_11, T_11⟩
  obtain ⟨X_12, S_16⟩ := Sep.turn0 X_11 S_15 MT_11 T_11
  refine RL.opD (by decide) (opv_move rfl rfl) ?_
  refine RL.opD (by decide) (opv_extract rfl rfl rfl) ?_
  refine RL.opD (by decide) (opv_extract rfl rfl rfl) ?_
  refine RL.op _ (by decide) (opS_boxed (opv_alloc (cs := [(.slice none 0 0), (.slice none 0 0), (.slice none 0 0)]) rfl Try.zero37 rfl)) ?_
  rintro _ hp25 ⟨bb4, rfl, MT_12, T_12⟩
  obtain ⟨X_13, S_17⟩ := Sep.turn0 X_12 S_16 MT_12 T_12
  refine RL.op0 _ (opS_stored (cs := [(.slice none 0 0), (.slice none 0 0), (.slice none 0 0)]) (cs' := [v12, v13, v14]) (opv_storeA (us := [v12, v13, v14]) rfl Try.size37 rfl rfl (oneAll (ownO.one (Sep.at (o := ownO (kF .f32) 29 v12 x7.1) S_17 1 rfl)) (oneAll (ownO.one (Sep.at (o := ownO (kF .f32) 29 v13 x7.2.1) S_17 2 rfl)) (oneAll (ownO.one (Sep.at (o := ownO (kF .f32) 29 v14 x7.2.2.1) S_17 3 rfl)) rfl))) (Sep.at (o := boxO bb4 [(.slice none 0 0), (.slice none 0 0), (.slice none 0 0)]) S_17 0 rfl) rfl rfl) (Sep.at (o := boxO bb4 [(.slice none 0 0), (.slice none 0 0), (.slice none 0 0)]) S_17 0 rfl)) ?_
  rintro _ hp26 ⟨rfl, MT_13, T_13⟩
  have S_18 : Sep [] h0.size hp25 ([boxO bb4 [(.slice none 0 0), (.slice none 0 0), (.slice none 0 0)]] ++ [ownO (kF .f32) 29 v12 x7.1, ownO (kF .f32) 29 v13 x7.2.1, ownO (kF .f32) 29 v14 x7.2.2.1, boxO bb3 [(.int .i64 x6.1), (.int .i64 x6.2.1), (.bool x6.2.2.1), v8, v9], ownO (kF .f32) 29 v8 x6.2.2.2.1, ownO (kF .f32) 29 v9 x6.2.2.2.2.1, boxO bb2 [v3, v4, v5], ownO (kF .f32) 29 v3 x3.1, ownO (kF .f32) 29 v4 x3.2.1, ownO (kF .f32) 29 v5 x3.2.2, boxO bb1 [(.int .i64 x2.1), (.int .i64 x2.2.1), (.bool x2.2.2.1), v1, v2], ownO (kF .f32) 29 v1 x2.2.2.2.1, ownO (kF .f32) 29 v2 x2.2.2.2.2]) := Sep.sel S_17 [0, 1, 2, 3, 4, 5, 6, 7, 8, 9, 10, 11, 12, 13] (by decide)
  obtain ⟨X_14, S_19⟩ := Sep.turn X_13 S_18 MT_13 T_13
  refine RL.opD (by decide) (opv_assign rfl rfl) ?_
  refine RL.nil ?_
  refine thnN ?_
  refine W.seq ?_
  refine W.region ?_
  refine RL.opD (by decide) (opv_move rfl rfl) ?_
  refine RL.opD (by decide) (opv_fieldAddr rfl Try.fo33_1 rfl) ?_
  refine RL.opD (by decide) (opv_loadB rfl Try.one2 rfl (Sep.at (o := boxO bb1 [(.int .i64 x2.1), (.int .i64 x2.2.1), (.bool x2.2.2.1), v1, v2]) S_19 11 rfl) rfl) ?_
  obtain ⟨x8, hx8, hp⟩ := Option.bind_eq_some_iff.1 hp
  refine RL.op _ (by decide) (opv_call (cap := []) (laws_b10At_ok _ _ _ (SL.up (SL.mod g1 X_14 (Nat.le_refl _) nob) (Nat.le_trans (Nat.le_refl _) (Mod.size X_14))) _ _ _ hx8) rfl rfl ⟨rfl, rfl, rfl, trivial⟩ Try.func39 rfl rfl) ?_
  rintro _ _ ⟨rfl, rfl⟩
  refine RL.opD (by decide) (opv_assign rfl rfl) ?_
  refine RL.nil ?_
  refine thnN ?_
  refine W.seq ?_
  refine W.region ?_
  refine RL.opD (by decide) (opv_move rfl rfl) ?_
  refine RL.opD (by decide) (opv_move rfl rfl) ?_
  refine RL.opD (by decide) (opv_fieldAddr rfl Try.fo33_1 rfl) ?_
  refine RL.opD (by decide) (opv_loadB rfl Try.one2 rfl (Sep.at (o := boxO bb1 [(.int .i64 x2.1), (.int .i64 x2.2.1), (.bool x2.2.2.1), v1, v2]) S_19 11 rfl) rfl) ?_
  refine RL.opD (by decide) (opv_move rfl rfl) ?_
  refine RL.opD (by decide) (opv_sub rfl rfl rfl) ?_
  obtain ⟨x9, hx9, hp⟩ := Option.bind_eq_some_iff.1 hp
  refine RL.op _ (by decide) (opv_call (cap := []) (laws_b10At_ok _ _ _ (SL.up (SL.mod g1 X_14 (Nat.le_refl _) nob) (Nat.le_trans (Nat.le_refl _) (Mod.size X_14))) _ _ _ hx9) rfl rfl ⟨rfl, rfl, rfl, trivial⟩ Try.func39 rfl rfl) ?_
  rintro _ _ ⟨rfl, rfl⟩
  refine RL.opD (by decide) (opv_add rfl rfl rfl) ?_
  refine RL.opD (by decide) (opv_assign rfl rfl) ?_
  refine RL.nil ?_
  refine thnN ?_
  refine W.seq ?_
  refine W.region ?_
  refine RL.opD (by decide) (opv_loadA (us := [(.int .i64 x2.1), (.int .i64 x2.2.1), (.bool x2.2.2.1), v1, v2]) rfl Try.agg33 Try.size33 rfl (Sep.at (o := boxO bb1 [(.int .i64 x2.1), (.int .i64 x2.2.1), (.bool x2.2.2.1), v1, v2]) S_19 11 rfl) rfl rfl) ?_
  refine RL.opD (by decide) (opv_move rfl rfl) ?_
  refine RL.opD (by decide) (opv_move rfl rfl) ?_
  obtain ⟨x10, hx10, hp⟩ := Option.bind_eq_some_iff.1 hp
  refine RL.op _ (by decide) (opv_call (cap := []) (impl_ChannelSheet_ok _ _ _ _ _ _ (ownO.read (Sep.at (o := ownO (kF .f32) 29 v1 x2.2.2.2.1) S_19 12 rfl)) _ _ (ownO.read (Sep.at (o := ownO (kF .f32) 29 v2 x2.2.2.2.2) S_19 13 rfl)) _ _ _ hx10) rfl rfl ⟨rfl, rfl, rfl, trivial⟩ Try.func42 rfl rfl) ?_
  rintro _ hp27 ⟨v15, v16, rfl, MT_14, T_14⟩
  obtain ⟨X_15, S_20⟩ := Sep.turn0 X_14 S_19 MT_14 T_14
  refine RL.opD (by decide) (opv_move rfl rfl) ?_
  refine RL.opD (by decide) (opv_extract rfl rfl rfl) ?_
  refine RL.opD (by decide) (opv_extract rfl rfl rfl) ?_
  refine RL.op _ (by decide) (opS_boxed (opv_alloc (cs := [(.int .i64 0), (.int .i64 0), (.bool false), (.slice none 0 0), (.slice none 0 0)]) rfl Try.zero33 rfl)) ?_
  rintro _ hp28 ⟨bb5, rfl, MT_15, T_15⟩
  obtain ⟨X_16, S_21⟩ := Sep.turn0 X_15 S_20 MT_15 T_15
  refine RL.op0 _ (opS_stored (cs := [(.int .i64 0), (.int .i64 0), (.bool false), (.slice none 0 0), (.slice none 0 0)]) (cs' := [(.int .i64 x10.1), (.int .i64 x10.2.1), (.bool x10.2.2.1), v15, v16]) (opv_storeA (us := [(.int .i64 x10.1), (.int .i64 x10.2.1), (.bool x10.2.2.1), v15, v16]) rfl Try.size33 rfl rfl (oneAll rfl (oneAll rfl (oneAll rfl (oneAll (ownO.one (Sep.at (o := ownO (kF .f32) 29 v15 x10.2.2.2.1) S_21 1 rfl)) (oneAll (ownO.one (Sep.at (o := ownO (kF .f32) 29 v16 x10.2.2.2.2.1) S_21 2 rfl)) rfl))))) (Sep.at (o := boxO bb5 [(.int .i64 0), (.int .i64 0), (.bool false), (.slice none 0 0), (.slice none 0 0)]) S_21 0 rfl) rfl rfl) (Sep.at (o := boxO bb5 [(.int .i64 0), (.int .i64 0), (.bool false), (.slice none 0 0), (.slice none 0 0)]) S_21 0 rfl)) ?_
  rintro _ hp29 ⟨rfl, MT_16, T_16⟩
  have S_22 : Sep [] h0.size hp28 ([boxO bb5 [(.int .i64 0), (.int .i64 0), (.bool false), (.slice none 0 0), (.slice none 0 0)]] ++ [ownO (kF .f32) 29 v15 x10.2.2.2.1, ownO (kF .f32) 29 v16 x10.2.2.2.2.1, boxO bb4 [v12, v13, v14], ownO (kF .f32) 29 v12 x7.1, ownO (kF .f32) 29 v13 x7.2.1, ownO (kF .f32) 29 v14 x7.2.2.1, boxO bb3 [(.int .i64 x6.1), (.int .i64 x6.2.1), (.bool x6.2.2.1), v8, v9], ownO (kF .f32) 29 v8 x6.2.2.2.1, ownO (kF .f32) 29 v9 x6.2.2.2.2.1, boxO bb2 [v3, v4, v5], ownO (kF .f32) 29 v3 x3.1, ownO (kF .f32) 29 v4 x3.2.1, ownO (kF .f32) 29 v5 x3.2.2, boxO bb1 [(.int .i64 x2.1), (.int .i64 x2.2.1), (.bool x2.2.2.1), v1, v2], ownO (kF .f32) 29 v1 x2.2.2.2.1, ownO (kF .f32) 29 v2 x2.2.2.2.2]) := Sep.sel S_21 [0, 1, 2, 3, 4, 5, 6, 7, 8, 9, 10, 11, 12, 13, 14, 15, 16] (by decide)
  obtain ⟨X_17, S_23⟩ := Sep.turn X_16 S_22 MT_16 T_16
  refine RL.opD (by decide) (opv_assign rfl rfl) ?_
  refine RL.nil ?_
  refine thnN ?_
  refine W.seq ?_
  refine W.region ?_
  refine RL.opD (by decide) (opv_loadA (us := [(.int .i64 x10.1), (.int .i64 x10.2.1), (.bool x10.2.2.1), v15, v16]) rfl Try.agg33 Try.size33 rfl (Sep.at (o := boxO bb5 [(.int .i64 x10.1), (.int .i64 x10.2.1), (.bool x10.2.2.1), v15, v16]) S_23 0 rfl) rfl rfl) ?_
  obtain ⟨x11, hx11, hp⟩ := Option.bind_eq_some_iff.1 hp
  refine RL.op _ (by decide) (opv_call (cap := []) (impl_StillCells_ok _ _ _ _ _ _ (ownO.read (Sep.at (o := ownO (kF .f32) 29 v15 x10.2.2.2.1) S_23 1 rfl)) _ _ (ownO.read (Sep.at (o := ownO (kF .f32) 29 v16 x10.2.2.2.2.1) S_23 2 rfl)) _ hx11) rfl rfl ⟨rfl, trivial⟩ Try.func43 rfl rfl) ?_
  rintro _ hp30 ⟨v17, rfl, MT_17, T_17⟩
  obtain ⟨X_18, S_24⟩ := Sep.turn0 X_17 S_23 MT_17 T_17
  refine RL.opD (by decide) (opv_move rfl rfl) ?_
  refine RL.opD (by decide) (opv_extract rfl rfl rfl) ?_
  refine RL.opD (by decide) (opv_extract rfl rfl rfl) ?_
  refine RL.opD (by decide) (opv_assign rfl rfl) ?_
  refine RL.opD (by decide) (opv_assign rfl rfl) ?_
  refine RL.nil ?_
  refine thnN ?_
  refine W.seq ?_
  refine W.region ?_
  refine RL.opD (by decide) (opv_move rfl rfl) ?_
  refine RL.opD (by decide) (opv_fieldAddr rfl Try.fo33_0 rfl) ?_
  refine RL.opD (by decide) (opv_loadB rfl Try.one2 rfl (Sep.at (o := boxO bb1 [(.int .i64 x2.1), (.int .i64 x2.2.1), (.bool x2.2.2.1), v1, v2]) S_24 15 rfl) rfl) ?_
  obtain ⟨x12, hx12, hp⟩ := Option.bind_eq_some_iff.1 hp
  refine RL.op _ (by decide) (opv_call (cap := []) (laws_b10At_ok _ _ _ (SL.up (SL.mod g1 X_18 (Nat.le_refl _) nob) (Nat.le_trans (Nat.le_refl _) (Mod.size X_18))) _ _ _ hx12) rfl rfl ⟨rfl, rfl, rfl, trivial⟩ Try.func39 rfl rfl) ?_
  rintro _ _ ⟨rfl, rfl⟩
  refine RL.opD (by decide) (opv_assign rfl rfl) ?_
  refine RL.nil ?_
  refine thnN ?_
  refine W.seq ?_
  refine W.region ?_
  refine RL.opD (by decide) (opv_loadA (us := [(.int .i64 x2.1), (.int .i64 x2.2.1), (.bool x2.2.2.1), v1, v2]) rfl Try.agg33 Try.size33 rfl (Sep.at (o := boxO bb1 [(.int .i64 x2.1), (.int .i64 x2.2.1), (.bool x2.2.2.1), v1, v2]) S_24 15 rfl) rfl rfl) ?_
  refine RL.opD (by decide) (opv_move rfl rfl) ?_
  refine RL.opD (by decide) (opv_move rfl rfl) ?_
  refine RL.op _ (by decide) (opS_lit1 (K := (kI .i64)) (z := x8) rfl Try.underlying71 Try.einfo2 rfl rfl rfl rfl rfl) ?_
  rintro v18 hp31 ⟨MT_18, T_18⟩
  obtain ⟨X_19, S_25⟩ := Sep.turn0 X_18 S_24 MT_18 T_18
  obtain ⟨x13, hx13, hp⟩ := Option.bind_eq_some_iff.1 hp
  refine RL.op _ (by decide) (opv_call (cap := []) (impl_SlitSheet_ok _ _ _ _ _ _ (ownO.read (Sep.at (o := ownO (kF .f32) 29 v1 x2.2.2.2.1) S_25 17 rfl)) _ _ (ownO.read (Sep.at (o := ownO (kF .f32) 29 v2 x2.2.2.2.2) S_25 18 rfl)) _ _ _ (ownO.read (Sep.at (o := ownO (kI .i64) 2 v18 [x8]) S_25 0 rfl)) _ hx13) rfl rfl ⟨rfl, rfl, rfl, trivial⟩ Try.func44 rfl rfl) ?_
  rintro _ hp32 ⟨v19, v20, rfl, MT_19, T_19⟩
  obtain ⟨X_20, S_26⟩ := Sep.turn0 X_19 S_25 MT_19 T_19
  refine RL.opD (by decide) (opv_move rfl rfl) ?_
  refine RL.opD (by decide) (opv_extract rfl rfl rfl) ?_
  refine RL.opD (by decide) (opv_extract rfl rfl rfl) ?_
  refine RL.op _ (by decide) (opS_boxed (opv_alloc (cs := [(.int .i64 0), (.int .i64 0), (.bool false), (.slice none 0 0), (.slice none 0 0)]) rfl Try.zero33 rfl)) ?_
  rintro _ hp33 ⟨bb6, rfl, MT_20, T_20⟩
  obtain ⟨X_21, S_27⟩ := Sep.turn0 X_20 S_26 MT_20 T_20
  refine RL.op0 _ (opS_stored (cs := [(.int .i64 0), (.int .i64 0), (.bool false), (.slice none 0 0), (.slice none 0 0)]) (cs' := [(.int .i64 x13.1), (.int .i64 x13.2.1), (.bool x13.2.2.1), v19, v20]) (opv_storeA (us := [(.int .i64 x13.1), (.int .i64 x13.2.1), (.bool x13.2.2.1), v19, v20]) rfl Try.size33 rfl rfl (oneAll rfl (oneAll rfl (oneAll rfl (oneAll (ownO.one (Sep.at (o := ownO (kF .f32) 29 v19 x13.2.2.2.1) S_27 1 rfl)) (oneAll (ownO.one (Sep.at (o := ownO (kF .f32) 29 v20 x13.2.2.2.2.1) S_27 2 rfl)) rfl))))) (Sep.at (o := boxO bb6 [(.int .i64 0), (.int .i64 0), (.bool false), (.slice none 0 0), (.slice none 0 0)]) S_27 0 rfl) rfl rfl) (Sep.at (o := boxO bb6 [(.int .i64 0), (.int .i64 0), (.bool false), (.slice none 0 0), (.slice none 0 0)]) S_27 0 rfl)) ?_
  rintro _ hp34 ⟨rfl, MT_21, T_21⟩
  have S_28 : Sep [] h0.size hp33 ([boxO bb6 [(.int .i64 0), (.int .i64 0), (.bool false), (.slice none 0 0), (.slice none 0 0)]] ++ [ownO (kF .f32) 29 v19 x13.2.2.2.1, ownO (kF .f32) 29 v20 x13.2.2.2.2.1, ownO (kI .i64) 2 v18 [x8], ownO (kI .i64) 2 v17 x11.1, boxO bb5 [(.int .i64 x10.1), (.int .i64 x10.2.1), (.bool x10.2.2.1), v15, v16], ownO (kF .f32) 29 v15 x10.2.2.2.1, ownO (kF .f32) 29 v16 x10.2.2.2.2.1, boxO bb4 [v12, v13, v14], ownO (kF .f32) 29 v12 x7.1, ownO (kF .f32) 29 v13 x7.2.1, ownO (kF .f32) 29 v14 x7.2.2.1, boxO bb3 [(.int .i64 x6.1), (.int .i64 x6.2.1), (.bool x6.2.2.1), v8, v9], ownO (kF .f32) 29 v8 x6.2.2.2.1, ownO (kF .f32) 29 v9 x6.2.2.2.2.1, boxO bb2 [v3, v4, v5], ownO (kF .f32) 29 v3 x3.1, ownO (kF .f32) 29 v4 x3.2.1, ownO (kF .f32) 29 v5 x3.2.2, boxO bb1 [(.int .i64 x2.1), (.int .i64 x2.2.1), (.bool x2.2.2.1), v1, v2], ownO (kF .f32) 29 v1 x2.2.2.2.1, ownO (kF .f32) 29 v2 x2.2.2.2.2]) := Sep.sel S_27 [0, 1, 2, 3, 4, 5, 6, 7, 8, 9, 10, 11, 12, 13, 14, 15, 16, 17, 18, 19, 20, 21] (by decide)
  obtain ⟨X_22, S_29⟩ := Sep.turn X_21 S_28 MT_21 T_21
  refine RL.opD (by decide) (opv_assign rfl rfl) ?_
  refine RL.nil ?_
  refine thnN ?_
  refine W.seq ?_
  refine W.seq ?_
  obtain ⟨x14, hy1, hp⟩ := Option.bind_eq_some_iff.1 hp
  refine W.cut (fun φ' h' => Fr.sub [(0, u0), (1, u1), (4, (.bool false)), (30, (.bool x1)), (5, (.pointer (some ⟨bb1, 0, none⟩))), (6, (.pointer (some ⟨bb2, 0, none⟩))), (7, (.int .i64 (IntKind.wrap .i64 (1 + x4)))), (8, (.pointer (some ⟨bb3, 0, none⟩))), (9, (.bool x6.2.2.2.2.2)), (10, (.pointer (some ⟨bb4, 0, none⟩))), (11, (.bool x7.2.2.2)), (12, (.int .i64 x8)), (13, (.int .i64 (IntKind.wrap .i64 (x8 + x9)))), (14, (.pointer (some ⟨bb5, 0, none⟩))), (15, (.bool x10.2.2.2.2.2)), (16, v17), (17, (.bool x11.2)), (18, (.int .i64 x12)), (19, (.pointer (some ⟨bb6, 0, none⟩))), (20, (.bool x13.2.2.2.2.2)), (130, (.bool x14))] φ' ∧ Mod [] h0 h' ∧ Sep [] h0.size h' [boxO bb6 [(.int .i64 x13.1), (.int .i64 x13.2.1), (.bool x13.2.2.1), v19, v20], ownO (kF .f32) 29 v19 x13.2.2.2.1, ownO (kF .f32) 29 v20 x13.2.2.2.2.1, ownO (kI .i64) 2 v18 [x8], ownO (kI .i64) 2 v17 x11.1, boxO bb5 [(.int .i64 x10.1), (.int .i64 x10.2.1), (.bool x10.2.2.1), v15, v16], ownO (kF .f32) 29 v15 x10.2.2.2.1, ownO (kF .f32) 29 v16 x10.2.2.2.2.1, boxO bb4 [v12, v13, v14], ownO (kF .f32) 29 v12 x7.1, ownO (kF .f32) 29 v13 x7.2.1, ownO (kF .f32) 29 v14 x7.2.2.1, boxO bb3 [(.int .i64 x6.1), (.int .i64 x6.2.1), (.bool x6.2.2.1), v8, v9], ownO (kF .f32) 29 v8 x6.2.2.2.1, ownO (kF .f32) 29 v9 x6.2.2.2.2.1, boxO bb2 [v3, v4, v5], ownO (kF .f32) 29 v3 x3.1, ownO (kF .f32) 29 v4 x3.2.1, ownO (kF .f32) 29 v5 x3.2.2, boxO bb1 [(.int .i64 x2.1), (.int .i64 x2.2.1), (.bool x2.2.2.1), v1, v2], ownO (kF .f32) 29 v1 x2.2.2.2.1, ownO (kF .f32) 29 v2 x2.2.2.2.2]) ?_ ?_
  ·refine W.region ?_
   refine RL.opD (by decide) (opv_move rfl rfl) ?_
   refine RL.opD (by decide) (opv_not rfl rfl) ?_
   refine RL.opD (by decide) (opv_move rfl rfl) ?_
   by_cases c2 : (!x6.2.2.2.2.2) = true
   ·rw [if_pos c2] at hy1
    refine RL.noT rfl rfl c2 (by decide) ?_
    refine RL.noT rfl rfl c2 (by decide) ?_
    refine RL.opD (by decide) (opv_pick rfl rfl (fun _ => rfl) (fun e => absurd (Eq.trans (Eq.symm e) c2) (by decide)) rfl) ?_
    refine RL.opD (by decide) (opv_move rfl rfl) ?_
    refine RL.noT rfl rfl rfl (by decide) ?_
    refine RL.noT rfl rfl rfl (by decide) ?_
    refine RL.opD (by decide) (opv_pick rfl rfl (fun _ => rfl) (fun e => absurd (Eq.trans (Eq.symm e) rfl) (by decide)) rfl) ?_
    refine RL.opD (by decide) (opv_move rfl rfl) ?_
    refine RL.noT rfl rfl rfl (by decide) ?_
    refine RL.noT rfl rfl rfl (by decide) ?_
    refine RL.opD (by decide) (opv_pick rfl rfl (fun _ => rfl) (fun e => absurd (Eq.trans (Eq.symm e) rfl) (by decide)) rfl) ?_
    refine RL.opD (by decide) (opv_move rfl rfl) ?_
    refine RL.noT rfl rfl rfl (by decide) ?_
    refine RL.noT rfl rfl rfl (by decide) ?_
    refine RL.opD (by decide) (opv_pick rfl rfl (fun _ => rfl) (fun e => absurd (Eq.trans (Eq.symm e) rfl) (by decide)) rfl) ?_
    refine RL.opD (by decide) (opv_move rfl rfl) ?_
    refine RL.noT rfl rfl rfl (by decide) ?_
    refine RL.noT rfl rfl rfl (by decide) ?_
    refine RL.noT rfl rfl rfl (by decide) ?_
    refine RL.opD (by decide) (opv_pick rfl rfl (fun _ => rfl) (fun e => absurd (Eq.trans (Eq.symm e) rfl) (by decide)) rfl) ?_
    refine RL.opD (by decide) (opv_move rfl rfl) ?_
    refine RL.noT rfl rfl rfl (by decide) ?_
    refine RL.noT rfl rfl rfl (by decide) ?_
    refine RL.noT rfl rfl rfl (by decide) ?_
    refine RL.noT rfl rfl rfl (by decide) ?_
    refine RL.opD (by decide) (opv_pick rfl rfl (fun _ => rfl) (fun e => absurd (Eq.trans (Eq.symm e) rfl) (by decide)) rfl) ?_
    refine RL.opD (by decide) (opv_move rfl rfl) ?_
    refine RL.noT rfl rfl rfl (by decide) ?_
    refine RL.noT rfl rfl rfl (by decide) ?_
    refine RL.noT rfl rfl rfl (by decide) ?_
    refine RL.opD (by decide) (opv_pick rfl rfl (fun _ => rfl) (fun e => absurd (Eq.trans (Eq.symm e) rfl) (by decide)) rfl) ?_
    refine RL.opD (by decide) (opv_move rfl rfl) ?_
    refine RL.noT rfl rfl rfl (by decide) ?_
    refine RL.noT rfl rfl rfl (by decide) ?_
    refine RL.noT rfl rfl rfl (by decide) ?_
    refine RL.opD (by decide) (opv_pick rfl rfl (fun _ => rfl) (fun e => absurd (Eq.trans (Eq.symm e) rfl) (by decide)) rfl) ?_
    refine RL.nil ?_
    have ey1 := Option.some.inj hy1
    subst ey1
    refine onlyN ?_
    exact ⟨⟨rfl, rfl, rfl, rfl, rfl, rfl, rfl, rfl, rfl, rfl, rfl, rfl, rfl, rfl, rfl, rfl, rfl, rfl, rfl, rfl, rfl, trivial⟩, X_22, (Sep.sel S_29 [0, 1, 2, 3, 4, 5, 6, 7, 8, 9, 10, 11, 12, 13, 14, 15, 16, 17, 18, 19, 20, 21] (by decide))⟩
   ·rw [if_neg c2] at hy1
    have c2 := eq_false_of_ne_true c2
    refine RL.yesD rfl rfl c2 (by decide) (opv_move rfl rfl) ?_
    refine RL.yesD rfl rfl c2 (by decide) (opv_not rfl rfl) ?_
    refine RL.opD (by decide) (opv_pick rfl rfl (fun e => absurd (Eq.trans (Eq.symm e) c2) (by decide)) (fun _ => rfl) rfl) ?_
    refine RL.opD (by decide) (opv_move rfl rfl) ?_
    by_cases c3 : (!x7.2.2.2) = true
    ·rw [if_pos c3] at hy1
     refine RL.noT rfl rfl c3 (by decide) ?_
     refine RL.noT rfl rfl c3 (by decide) ?_
     refine RL.opD (by decide) (opv_pick rfl rfl (fun _ => rfl) (fun e => absurd (Eq.trans (Eq.symm e) c3) (by decide)) rfl) ?_
     refine RL.opD (by decide) (opv_move rfl rfl) ?_
     refine RL.noT rfl rfl rfl (by decide) ?_
     refine RL.noT rfl rfl rfl (by decide) ?_
     refine RL.opD (by decide) (opv_pick rfl rfl (fun _ => rfl) (fun e => absurd (Eq.trans (Eq.symm e) rfl) (by decide)) rfl) ?_
     refine RL.opD (by decide) (opv_move rfl rfl) ?_
     refine RL.noT rfl rfl rfl (by decide) ?_
     refine RL.noT rfl rfl rfl (by decide) ?_
     refine RL.opD (by decide) (opv_pick rfl rfl (fun _ => rfl) (fun e => absurd (Eq.trans (Eq.symm e) rfl) (by decide)) rfl) ?_
     refine RL.opD (by decide) (opv_move rfl rfl) ?_
     refine RL.noT rfl rfl rfl (by decide) ?_
     refine RL.noT rfl rfl rfl (by decide) ?_
     refine RL.noT rfl rfl rfl (by decide) ?_
     refine RL.opD (by decide) (opv_pick rfl rfl (fun _ => rfl) (fun e => absurd (Eq.trans (Eq.symm e) rfl) (by decide)) rfl) ?_
     refine RL.opD (by decide) (opv_move rfl rfl) ?_
     refine RL.noT rfl rfl rfl (by decide) ?_
     refine RL.noT rfl rfl rfl (by decide) ?_
     refine RL.noT rfl rfl rfl (by decide) ?_
     refine RL.noT rfl rfl rfl (by decide) ?_
     refine RL.opD (by decide) (opv_pick rfl rfl (fun _ => rfl) (fun e => absurd (Eq.trans (Eq.symm e) rfl) (by decide)) rfl) ?_
     refine RL.opD (by decide) (opv_move rfl rfl) ?_
     refine RL.noT rfl rfl rfl (by decide) ?_
     refine RL.noT rfl rfl rfl (by decide) ?_
     refine RL.noT rfl rfl rfl (by decide) ?_
     refine RL.opD (by decide) (opv_pick rfl rfl (fun _ => rfl) (fun e => absurd (Eq.trans (Eq.symm e) rfl) (by decide)) rfl) ?_
     refine RL.opD (by decide) (opv_move rfl rfl) ?_
     refine RL.noT rfl rfl rfl (by decide) ?_
     refine RL.noT rfl rfl rfl (by decide) ?_
     refine RL.noT rfl rfl rfl (by decide) ?_
     refine RL.opD (by decide) (opv_pick rfl rfl (fun _ => rfl) (fun e => absurd (Eq.trans (Eq.symm e) rfl) (by decide)) rfl) ?_
     refine RL.nil ?_
     have ey1 := Option.some.inj hy1
     subst ey1
     refine onlyN ?_
     exact ⟨⟨rfl, rfl, rfl, rfl, rfl, rfl, rfl, rfl, rfl, rfl, rfl, rfl, rfl, rfl, rfl, rfl, rfl, rfl, rfl, rfl, rfl, trivial⟩, X_22, (Sep.sel S_29 [0, 1, 2, 3, 4, 5, 6, 7, 8, 9, 10, 11, 12, 13, 14, 15, 16, 17, 18, 19, 20, 21] (by decide))⟩
    ·rw [if_neg c3] at hy1
     have c3 := eq_false_of_ne_true c3
     refine RL.yesD rfl rfl c3 (by decide) (opv_move rfl rfl) ?_
     refine RL.yesD rfl rfl c3 (by decide) (opv_not rfl rfl) ?_
     refine RL.opD (by decide) (opv_pick rfl rfl (fun e => absurd (Eq.trans (Eq.symm e) c3) (by decide)) (fun _ => rfl) rfl) ?_
     refine RL.opD (by decide) (opv_move rfl rfl) ?_
     by_cases c4 : (!x10.2.2.2.2.2) = true
     ·rw [if_pos c4] at hy1
      refine RL.noT rfl rfl c4 (by decide) ?_
      refine RL.noT rfl rfl c4 (by decide) ?_
      refine RL.opD (by decide) (opv_pick rfl rfl (fun _ => rfl) (fun e => absurd (Eq.trans (Eq.symm e) c4) (by decide)) rfl) ?_
      refine RL.opD (by decide) (opv_move rfl rfl) ?_
      refine RL.noT rfl rfl rfl (by decide) ?_
      refine RL.noT rfl rfl rfl (by decide) ?_
      refine RL.opD (by decide) (opv_pick rfl rfl (fun _ => rfl) (fun e => absurd (Eq.trans (Eq.symm e) rfl) (by decide)) rfl) ?_
      refine RL.opD (by decide) (opv_move rfl rfl) ?_
      refine RL.noT rfl rfl rfl (by decide) ?_
      refine RL.noT rfl rfl rfl (by decide) ?_
      refine RL.noT rfl rfl rfl (by decide) ?_
      refine RL.opD (by decide) (opv_pick rfl rfl (fun _ => rfl) (fun e => absurd (Eq.trans (Eq.symm e) rfl) (by decide)) rfl) ?_
      refine RL.opD (by decide) (opv_move rfl rfl) ?_
      refine RL.noT rfl rfl rfl (by decide) ?_
      refine RL.noT rfl rfl rfl (by decide) ?_
      refine RL.noT rfl rfl rfl (by decide) ?_
      refine RL.noT rfl rfl rfl (by decide) ?_
      refine RL.opD (by decide) (opv_pick rfl rfl (fun _ => rfl) (fun e => absurd (Eq.trans (Eq.symm e) rfl) (by decide)) rfl) ?_
      refine RL.opD (by decide) (opv_move rfl rfl) ?_
      refine RL.noT rfl rfl rfl (by decide) ?_
      refine RL.noT rfl rfl rfl (by decide) ?_
      refine RL.noT rfl rfl rfl (by decide) ?_
      refine RL.opD (by decide) (opv_pick rfl rfl (fun _ => rfl) (fun e => absurd (Eq.trans (Eq.symm e) rfl) (by decide)) rfl) ?_
      refine RL.opD (by decide) (opv_move rfl rfl) ?_
      refine RL.noT rfl rfl rfl (by decide) ?_
      refine RL.noT rfl rfl rfl (by decide) ?_
      refine RL.noT rfl rfl rfl (by decide) ?_
      refine RL.opD (by decide) (opv_pick rfl rfl (fun _ => rfl) (fun e => absurd (Eq.trans (Eq.symm e) rfl) (by decide)) rfl) ?_
      refine RL.nil ?_
      have ey1 := Option.some.inj hy1
      subst ey1
      refine onlyN ?_
      exact ⟨⟨rfl, rfl, rfl, rfl, rfl, rfl, rfl, rfl, rfl, rfl, rfl, rfl, rfl, rfl, rfl, rfl, rfl, rfl, rfl, rfl, rfl, trivial⟩, X_22, (Sep.sel S_29 [0, 1, 2, 3, 4, 5, 6, 7, 8, 9, 10, 11, 12, 13, 14, 15, 16, 17, 18, 19, 20, 21] (by decide))⟩
     ·rw [if_neg c4] at hy1
      have c4 := eq_false_of_ne_true c4
      refine RL.yesD rfl rfl c4 (by decide) (opv_move rfl rfl) ?_
      refine RL.yesD rfl rfl c4 (by decide) (opv_not rfl rfl) ?_
      refine RL.opD (by decide) (opv_pick rfl rfl (fun e => absurd (Eq.trans (Eq.symm e) c4) (by decide)) (fun _ => rfl) rfl) ?_
      refine RL.opD (by decide) (opv_move rfl rfl) ?_
      by_cases c5 : (!x11.2) = true
      ·rw [if_pos c5] at hy1
       refine RL.noT rfl rfl c5 (by decide) ?_
       refine RL.noT rfl rfl c5 (by decide) ?_
       refine RL.opD (by decide) (opv_pick rfl rfl (fun _ => rfl) (fun e => absurd (Eq.trans (Eq.symm e) c5) (by decide)) rfl) ?_
       refine RL.opD (by decide) (opv_move rfl rfl) ?_
       refine RL.noT rfl rfl rfl (by decide) ?_
       refine RL.noT rfl rfl rfl (by decide) ?_
       refine RL.noT rfl rfl rfl (by decide) ?_
       refine RL.opD (by decide) (opv_pick rfl rfl (fun _ => rfl) (fun e => absurd (Eq.trans (Eq.symm e) rfl) (by decide)) rfl) ?_
       refine RL.opD (by decide) (opv_move rfl rfl) ?_
       refine RL.noT rfl rfl rfl (by decide) ?_
       refine RL.noT rfl rfl rfl (by decide) ?_
       refine RL.noT rfl rfl rfl (by decide) ?_
       refine RL.noT rfl rfl rfl (by decide) ?_
       refine RL.opD (by decide) (opv_pick rfl rfl (fun _ => rfl) (fun e => absurd (Eq.trans (Eq.symm e) rfl) (by decide)) rfl) ?_
       refine RL.opD (by decide) (opv_move rfl rfl) ?_
       refine RL.noT rfl rfl rfl (by decide) ?_
       refine RL.noT rfl rfl rfl (by decide) ?_
       refine RL.noT rfl rfl rfl (by decide) ?_
       refine RL.opD (by decide) (opv_pick rfl rfl (fun _ => rfl) (fun e => absurd (Eq.trans (Eq.symm e) rfl) (by decide)) rfl) ?_
       refine RL.opD (by decide) (opv_move rfl rfl) ?_
       refine RL.noT rfl rfl rfl (by decide) ?_
       refine RL.noT rfl rfl rfl (by decide) ?_
       refine RL.noT rfl rfl rfl (by decide) ?_
       refine RL.opD (by decide) (opv_pick rfl rfl (fun _ => rfl) (fun e => absurd (Eq.trans (Eq.symm e) rfl) (by decide)) rfl) ?_
       refine RL.nil ?_
       have ey1 := Option.some.inj hy1
       subst ey1
       refine onlyN ?_
       exact ⟨⟨rfl, rfl, rfl, rfl, rfl, rfl, rfl, rfl, rfl, rfl, rfl, rfl, rfl, rfl, rfl, rfl, rfl, rfl, rfl, rfl, rfl, trivial⟩, X_22, (Sep.sel S_29 [0, 1, 2, 3, 4, 5, 6, 7, 8, 9, 10, 11, 12, 13, 14, 15, 16, 17, 18, 19, 20, 21] (by decide))⟩
      ·rw [if_neg c5] at hy1
       have c5 := eq_false_of_ne_true c5
       refine RL.yesD rfl rfl c5 (by decide) (opv_move rfl rfl) ?_
       refine RL.yesD rfl rfl c5 (by decide) (opv_not rfl rfl) ?_
       refine RL.opD (by decide) (opv_pick rfl rfl (fun e => absurd (Eq.trans (Eq.symm e) c5) (by decide)) (fun _ => rfl) rfl) ?_
       refine RL.opD (by decide) (opv_move rfl rfl) ?_
       by_cases c6 : (!x13.2.2.2.2.2) = true
       ·rw [if_pos c6] at hy1
        refine RL.noT rfl rfl c6 (by decide) ?_
        refine RL.noT rfl rfl c6 (by decide) ?_
        refine RL.noT rfl rfl c6 (by decide) ?_
        refine RL.opD (by decide) (opv_pick rfl rfl (fun _ => rfl) (fun e => absurd (Eq.trans (Eq.symm e) c6) (by decide)) rfl) ?_
        refine RL.opD (by decide) (opv_move rfl rfl) ?_
        refine RL.noT rfl rfl rfl (by decide) ?_
        refine RL.noT rfl rfl rfl (by decide) ?_
        refine RL.noT rfl rfl rfl (by decide) ?_
        refine RL.noT rfl rfl rfl (by decide) ?_
        refine RL.opD (by decide) (opv_pick rfl rfl (fun _ => rfl) (fun e => absurd (Eq.trans (Eq.symm e) rfl) (by decide)) rfl) ?_
        refine RL.opD (by decide) (opv_move rfl rfl) ?_
        refine RL.noT rfl rfl rfl (by decide) ?_
        refine RL.noT rfl rfl rfl (by decide) ?_
        refine RL.noT rfl rfl rfl (by decide) ?_
        refine RL.opD (by decide) (opv_pick rfl rfl (fun _ => rfl) (fun e => absurd (Eq.trans (Eq.symm e) rfl) (by decide)) rfl) ?_
        refine RL.opD (by decide) (opv_move rfl rfl) ?_
        refine RL.noT rfl rfl rfl (by decide) ?_
        refine RL.noT rfl rfl rfl (by decide) ?_
        refine RL.noT rfl rfl rfl (by decide) ?_
        refine RL.opD (by decide) (opv_pick rfl rfl (fun _ => rfl) (fun e => absurd (Eq.trans (Eq.symm e) rfl) (by decide)) rfl) ?_
        refine RL.nil ?_
        have ey1 := Option.some.inj hy1
        subst ey1
        refine onlyN ?_
        exact ⟨⟨rfl, rfl, rfl, rfl, rfl, rfl, rfl, rfl, rfl, rfl, rfl, rfl, rfl, rfl, rfl, rfl, rfl, rfl, rfl, rfl, rfl, trivial⟩, X_22, (Sep.sel S_29 [0, 1, 2, 3, 4, 5, 6, 7, 8, 9, 10, 11, 12, 13, 14, 15, 16, 17, 18, 19, 20, 21] (by decide))⟩
       ·rw [if_neg c6] at hy1
        have c6 := eq_false_of_ne_true c6
        refine RL.yesD rfl rfl c6 (by decide) (opv_loadA (us := [(.int .i64 x6.1), (.int .i64 x6.2.1), (.bool x6.2.2.1), v8, v9]) rfl Try.agg33 Try.size33 rfl (Sep.at (o := boxO bb3 [(.int .i64 x6.1), (.int .i64 x6.2.1), (.bool x6.2.2.1), v8, v9]) S_29 12 rfl) rfl rfl) ?_
        obtain ⟨x15, hx15, hy1⟩ := Option.bind_eq_some_iff.1 hy1
        refine RL.yes _ rfl rfl c6 (by decide) (opv_call (cap := []) (impl_ValidSheet_ok _ _ _ _ _ _ (ownO.read (Sep.at (o := ownO (kF .f32) 29 v8 x6.2.2.2.1) S_29 13 rfl)) _ _ (ownO.read (Sep.at (o := ownO (kF .f32) 29 v9 x6.2.2.2.2.1) S_29 14 rfl)) _ hx15) rfl rfl ⟨rfl, trivial⟩ Try.func45 rfl rfl) ?_
        rintro _ hp35 ⟨rfl, MT_22, T_22⟩
        obtain ⟨X_23, S_30⟩ := Sep.turn0 X_22 S_29 MT_22 T_22
        refine RL.yesD rfl rfl c6 (by decide) (opv_not rfl rfl) ?_
        refine RL.opD (by decide) (opv_pick rfl rfl (fun e => absurd (Eq.trans (Eq.symm e) c6) (by decide)) (fun _ => rfl) rfl) ?_
        refine RL.opD (by decide) (opv_move rfl rfl) ?_
        by_cases c7 : (!x15) = true
        ·rw [if_pos c7] at hy1
         refine RL.noT rfl rfl c7 (by decide) ?_
         refine RL.noT rfl rfl c7 (by decide) ?_
         refine RL.noT rfl rfl c7 (by decide) ?_
         refine RL.noT rfl rfl c7 (by decide) ?_
         refine RL.opD (by decide) (opv_pick rfl rfl (fun _ => rfl) (fun e => absurd (Eq.trans (Eq.symm e) c7) (by decide)) rfl) ?_
         refine RL.opD (by decide) (opv_move rfl rfl) ?_
         refine RL.noT rfl rfl rfl (by decide) ?_
         refine RL.noT rfl rfl rfl (by decide) ?_
         refine RL.noT rfl rfl rfl (by decide) ?_
         refine RL.opD (by decide) (opv_pick rfl rfl (fun _ => rfl) (fun e => absurd (Eq.trans (Eq.symm e) rfl) (by decide)) rfl) ?_
         refine RL.opD (by decide) (opv_move rfl rfl) ?_
         refine RL.noT rfl rfl rfl (by decide) ?_
         refine RL.noT rfl rfl rfl (by decide) ?_
         refine RL.noT rfl rfl rfl (by decide) ?_
         refine RL.opD (by decide) (opv_pick rfl rfl (fun _ => rfl) (fun e => absurd (Eq.trans (Eq.symm e) rfl) (by decide)) rfl) ?_
         refine RL.nil ?_
         have ey1 := Option.some.inj hy1
         subst ey1
         refine onlyN ?_
         exact ⟨⟨rfl, rfl, rfl, rfl, rfl, rfl, rfl, rfl, rfl, rfl, rfl, rfl, rfl, rfl, rfl, rfl, rfl, rfl, rfl, rfl, rfl, trivial⟩, X_23, (Sep.sel S_30 [0, 1, 2, 3, 4, 5, 6, 7, 8, 9, 10, 11, 12, 13, 14, 15, 16, 17, 18, 19, 20, 21] (by decide))⟩
        ·rw [if_neg c7] at hy1
         have c7 := eq_false_of_ne_true c7
         refine RL.yesD rfl rfl c7 (by decide) (opv_loadA (us := [(.int .i64 x2.1), (.int .i64 x2.2.1), (.bool x2.2.2.1), v1, v2]) rfl Try.agg33 Try.size33 rfl (Sep.at (o := boxO bb1 [(.int .i64 x2.1), (.int .i64 x2.2.1), (.bool x2.2.2.1), v1, v2]) S_30 19 rfl) rfl rfl) ?_
         refine RL.yesD rfl rfl c7 (by decide) (opv_loadA (us := [v12, v13, v14]) rfl Try.agg37 Try.size37 rfl (Sep.at (o := boxO bb4 [v12, v13, v14]) S_30 8 rfl) rfl rfl) ?_
         obtain ⟨x16, hx16, hy1⟩ := Option.bind_eq_some_iff.1 hy1
         refine RL.yes _ rfl rfl c7 (by decide) (opv_call (cap := []) (impl_IsField_ok _ _ _ _ _ _ (ownO.read (Sep.at (o := ownO (kF .f32) 29 v1 x2.2.2.2.1) S_30 20 rfl)) _ _ (ownO.read (Sep.at (o := ownO (kF .f32) 29 v2 x2.2.2.2.2) S_30 21 rfl)) _ _ (ownO.read (Sep.at (o := ownO (kF .f32) 29 v12 x7.1) S_30 9 rfl)) _ _ (ownO.read (Sep.at (o := ownO (kF .f32) 29 v13 x7.2.1) S_30 10 rfl)) _ _ (ownO.read (Sep.at (o := ownO (kF .f32) 29 v14 x7.2.2.1) S_30 11 rfl)) _ hx16) rfl rfl ⟨rfl, rfl, trivial⟩ Try.func46 rfl rfl) ?_
         rintro _ hp36 ⟨rfl, MT_23, T_23⟩
         obtain ⟨X_24, S_31⟩ := Sep.turn0 X_23 S_30 MT_23 T_23
         refine RL.yesD rfl rfl c7 (by decide) (opv_not rfl rfl) ?_
         refine RL.opD (by decide) (opv_pick rfl rfl (fun e => absurd (Eq.trans (Eq.symm e) c7) (by decide)) (fun _ => rfl) rfl) ?_
         refine RL.opD (by decide) (opv_move rfl rfl) ?_
         by_cases c8 : (!x16) = true
         ·rw [if_pos c8] at hy1
          refine RL.noT rfl rfl c8 (by decide) ?_
          refine RL.noT rfl rfl c8 (by decide) ?_
          refine RL.noT rfl rfl c8 (by decide) ?_
          refine RL.opD (by decide) (opv_pick rfl rfl (fun _ => rfl) (fun e => absurd (Eq.trans (Eq.symm e) c8) (by decide)) rfl) ?_
          refine RL.opD (by decide) (opv_move rfl rfl) ?_
          refine RL.noT rfl rfl rfl (by decide) ?_
          refine RL.noT rfl rfl rfl (by decide) ?_
          refine RL.noT rfl rfl rfl (by decide) ?_
          refine RL.opD (by decide) (opv_pick rfl rfl (fun _ => rfl) (fun e => absurd (Eq.trans (Eq.symm e) rfl) (by decide)) rfl) ?_
          refine RL.nil ?_
          have ey1 := Option.some.inj hy1
          subst ey1
          refine onlyN ?_
          exact ⟨⟨rfl, rfl, rfl, rfl, rfl, rfl, rfl, rfl, rfl, rfl, rfl, rfl, rfl, rfl, rfl, rfl, rfl, rfl, rfl, rfl, rfl, trivial⟩, X_24, (Sep.sel S_31 [0, 1, 2, 3, 4, 5, 6, 7, 8, 9, 10, 11, 12, 13, 14, 15, 16, 17, 18, 19, 20, 21] (by decide))⟩
         ·rw [if_neg c8] at hy1
          have c8 := eq_false_of_ne_true c8
          refine RL.yesD rfl rfl c8 (by decide) (opv_loadA (us := [(.int .i64 x10.1), (.int .i64 x10.2.1), (.bool x10.2.2.1), v15, v16]) rfl Try.agg33 Try.size33 rfl (Sep.at (o := boxO bb5 [(.int .i64 x10.1), (.int .i64 x10.2.1), (.bool x10.2.2.1), v15, v16]) S_31 5 rfl) rfl rfl) ?_
          obtain ⟨x17, hx17, hy1⟩ := Option.bind_eq_some_iff.1 hy1
          refine RL.yes _ rfl rfl c8 (by decide) (opv_call (cap := []) (impl_ValidSheet_ok _ _ _ _ _ _ (ownO.read (Sep.at (o := ownO (kF .f32) 29 v15 x10.2.2.2.1) S_31 6 rfl)) _ _ (ownO.read (Sep.at (o := ownO (kF .f32) 29 v16 x10.2.2.2.2.1) S_31 7 rfl)) _ hx17) rfl rfl ⟨rfl, trivial⟩ Try.func45 rfl rfl) ?_
          rintro _ hp37 ⟨rfl, MT_24, T_24⟩
          obtain ⟨X_25, S_32⟩ := Sep.turn0 X_24 S_31 MT_24 T_24
          refine RL.yesD rfl rfl c8 (by decide) (opv_not rfl rfl) ?_
          refine RL.opD (by decide) (opv_pick rfl rfl (fun e => absurd (Eq.trans (Eq.symm e) c8) (by decide)) (fun _ => rfl) rfl) ?_
          refine RL.opD (by decide) (opv_move rfl rfl) ?_
          by_cases c9 : (!x17) = true
          ·rw [if_pos c9] at hy1
           refine RL.noT rfl rfl c9 (by decide) ?_
           refine RL.noT rfl rfl c9 (by decide) ?_
           refine RL.noT rfl rfl c9 (by decide) ?_
           refine RL.opD (by decide) (opv_pick rfl rfl (fun _ => rfl) (fun e => absurd (Eq.trans (Eq.symm e) c9) (by decide)) rfl) ?_
           refine RL.nil ?_
           have ey1 := Option.some.inj hy1
           subst ey1
           refine onlyN ?_
           exact ⟨⟨rfl, rfl, rfl, rfl, rfl, rfl, rfl, rfl, rfl, rfl, rfl, rfl, rfl, rfl, rfl, rfl, rfl, rfl, rfl, rfl, rfl, trivial⟩, X_25, (Sep.sel S_32 [0, 1, 2, 3, 4, 5, 6, 7, 8, 9, 10, 11, 12, 13, 14, 15, 16, 17, 18, 19, 20, 21] (by decide))⟩
          ·rw [if_neg c9] at hy1
           have c9 := eq_false_of_ne_true c9
           refine RL.yesD rfl rfl c9 (by decide) (opv_loadA (us := [(.int .i64 x13.1), (.int .i64 x13.2.1), (.bool x13.2.2.1), v19, v20]) rfl Try.agg33 Try.size33 rfl (Sep.at (o := boxO bb6 [(.int .i64 x13.1), (.int .i64 x13.2.1), (.bool x13.2.2.1), v19, v20]) S_32 0 rfl) rfl rfl) ?_
           obtain ⟨x18, hx18, hy1⟩ := Option.bind_eq_some_iff.1 hy1
           refine RL.yes _ rfl rfl c9 (by decide) (opv_call (cap := []) (impl_ValidSheet_ok _ _ _ _ _ _ (ownO.read (Sep.at (o := ownO (kF .f32) 29 v19 x13.2.2.2.1) S_32 1 rfl)) _ _ (ownO.read (Sep.at (o := ownO (kF .f32) 29 v20 x13.2.2.2.2.1) S_32 2 rfl)) _ hx18) rfl rfl ⟨rfl, trivial⟩ Try.func45 rfl rfl) ?_
           rintro _ hp38 ⟨rfl, MT_25, T_25⟩
           obtain ⟨X_26, S_33⟩ := Sep.turn0 X_25 S_32 MT_25 T_25
           refine RL.yesD rfl rfl c9 (by decide) (opv_not rfl rfl) ?_
           refine RL.opD (by decide) (opv_pick rfl rfl (fun e => absurd (Eq.trans (Eq.symm e) c9) (by decide)) (fun _ => rfl) rfl) ?_
           refine RL.nil ?_
           have ey1 := Option.some.inj hy1
           subst ey1
           refine onlyN ?_
           exact ⟨⟨rfl, rfl, rfl, rfl, rfl, rfl, rfl, rfl, rfl, rfl, rfl, rfl, rfl, rfl, rfl, rfl, rfl, rfl, rfl, rfl, rfl, trivial⟩, X_26, (Sep.sel S_33 [0, 1, 2, 3, 4, 5, 6, 7, 8, 9, 10, 11, 12, 13, 14, 15, 16, 17, 18, 19, 20, 21] (by decide))⟩
  rintro φ' hp39 ⟨hs1, X_27, S_34⟩
  refine thnN ?_
  refine W.sub hs1 ?_
  by_cases c10 : x14 = true
  ·rw [if_pos c10] at hp
   refine W.condT rfl c10 ?_
   refine W.seq ?_
   refine W.region ?_
   refine RL.opD (by decide) (opv_assign rfl rfl) ?_
   refine RL.nil ?_
   refine thnN ?_
   refine W.ret ?_
   refine thnR ?_
   have er := Option.some.inj hp
   subst er
   exact Rt.one rfl rfl ⟨rfl, X_27, (Sep.nil _ _ _)⟩
  ·rw [if_neg c10] at hp
   have c10 := eq_false_of_ne_true c10
   refine W.condF rfl c10 ?_
   refine W.skip ?_
   refine thnN ?_
   refine W.seq ?_
   refine W.seq ?_
   refine W.region ?_
   refine RL.opD (by decide) (opv_fieldAddr rfl Try.fo33_3 rfl) ?_
   refine RL.opD (by decide) (opv_loadB rfl Try.one25 rfl (Sep.at (o := boxO bb1 [(.int .i64 x2.1), (.int .i64 x2.2.1), (.bool x2.2.2.1), v1, v2]) S_34 19 rfl) rfl) ?_
   refine RL.opD (by decide) (opv_len rfl Try.underlying25 rfl (ownO.read (Sep.at (o := ownO (kF .f32) 29 v1 x2.2.2.2.1) S_34 20 rfl))) ?_
   refine RL.opD (by decide) (opv_move rfl rfl) ?_
   refine RL.nil ?_
   refine thnN ?_
   obtain ⟨y2, hy2, hp⟩ := Option.bind_eq_some_iff.1 hp
   refine W.cut (fun φ' h' => ∃ x21, ∃ x22, ∃ x23, y2 = .inl (x21, x22, x23) ∧ Fr.sub [(0, u0), (1, u1), (30, (.bool x1)), (5, (.pointer (some ⟨bb1, 0, none⟩))), (6, (.pointer (some ⟨bb2, 0, none⟩))), (7, (.int .i64 (IntKind.wrap .i64 (1 + x4)))), (8, (.pointer (some ⟨bb3, 0, none⟩))), (9, (.bool x6.2.2.2.2.2)), (10, (.pointer (some ⟨bb4, 0, none⟩))), (11, (.bool x7.2.2.2)), (12, (.int .i64 x8)), (13, (.int .i64 (IntKind.wrap .i64 (x8 + x9)))), (14, (.pointer (some ⟨bb5, 0, none⟩))), (15, (.bool x10.2.2.2.2.2)), (16, v17), (17, (.bool x11.2)), (18, (.int .i64 x12)), (19, (.pointer (some ⟨bb6, 0, none⟩))), (20, (.bool x13.2.2.2.2.2)), (130, (.bool x14)), (133, (.int .i64 (x2.2.2.2.1.length : Int))), (4, (.bool x21)), (134, (.int .i64 x22)), (135, (.bool x23))] φ' ∧ Mod [] h0 h' ∧ Sep [] h0.size h' [boxO bb6 [(.int .i64 x13.1), (.int .i64 x13.2.1), (.bool x13.2.2.1), v19, v20], ownO (kF .f32) 29 v19 x13.2.2.2.1, ownO (kF .f32) 29 v20 x13.2.2.2.2.1, ownO (kI .i64) 2 v18 [x8], ownO (kI .i64) 2 v17 x11.1, boxO bb5 [(.int .i64 x10.1), (.int .i64 x10.2.1), (.bool x10.2.2.1), v15, v16], ownO (kF .f32) 29 v15 x10.2.2.2.1, ownO (kF .f32) 29 v16 x10.2.2.2.2.1, boxO bb4 [v12, v13, v14], ownO (kF .f32) 29 v12 x7.1, ownO (kF .f32) 29 v13 x7.2.1, ownO (kF .f32) 29 v14 x7.2.2.1, boxO bb3 [(.int .i64 x6.1), (.int .i64 x6.2.1), (.bool x6.2.2.1), v8, v9], ownO (kF .f32) 29 v8 x6.2.2.2.1, ownO (kF .f32) 29 v9 x6.2.2.2.2.1, boxO bb2 [v3, v4, v5], ownO (kF .f32) 29 v3 x3.1, ownO (kF .f32) 29 v4 x3.2.1, ownO (kF .f32) 29 v5 x3.2.2, boxO bb1 [(.int .i64 x2.1), (.int .i64 x2.2.1), (.bool x2.2.2.1), v1, v2], ownO (kF .f32) 29 v1 x2.2.2.2.1, ownO (kF .f32) 29 v2 x2.2.2.2.2]) ?_ ?_
   ·refine W.block ?_
    refine W.loopS (fun (s : (Bool × Int)) φ' h' => Fr.sub [(0, u0), (1, u1), (30, (.bool x1)), (5, (.pointer (some ⟨bb1, 0, none⟩))), (6, (.pointer (some ⟨bb2, 0, none⟩))), (7, (.int .i64 (IntKind.wrap .i64 (1 + x4)))), (8, (.pointer (some ⟨bb3, 0, none⟩))), (9, (.bool x6.2.2.2.2.2)), (10, (.pointer (some ⟨bb4, 0, none⟩))), (11, (.bool x7.2.2.2)), (12, (.int .i64 x8)), (13, (.int .i64 (IntKind.wrap .i64 (x8 + x9)))), (14, (.pointer (some ⟨bb5, 0, none⟩))), (15, (.bool x10.2.2.2.2.2)), (16, v17), (17, (.bool x11.2)), (18, (.int .i64 x12)), (19, (.pointer (some ⟨bb6, 0, none⟩))), (20, (.bool x13.2.2.2.2.2)), (130, (.bool x14)), (133, (.int .i64 (x2.2.2.2.1.length : Int))), (4, (.bool s.1)), (134, (.int .i64 s.2))] φ' ∧ Mod [] h0 h' ∧ Sep [] h0.size h' [boxO bb6 [(.int .i64 x13.1), (.int .i64 x13.2.1), (.bool x13.2.2.1), v19, v20], ownO (kF .f32) 29 v19 x13.2.2.2.1, ownO (kF .f32) 29 v20 x13.2.2.2.2.1, ownO (kI .i64) 2 v18 [x8], ownO (kI .i64) 2 v17 x11.1, boxO bb5 [(.int .i64 x10.1), (.int .i64 x10.2.1), (.bool x10.2.2.1), v15, v16], ownO (kF .f32) 29 v15 x10.2.2.2.1, ownO (kF .f32) 29 v16 x10.2.2.2.2.1, boxO bb4 [v12, v13, v14], ownO (kF .f32) 29 v12 x7.1, ownO (kF .f32) 29 v13 x7.2.1, ownO (kF .f32) 29 v14 x7.2.2.1, boxO bb3 [(.int .i64 x6.1), (.int .i64 x6.2.1), (.bool x6.2.2.1), v8, v9], ownO (kF .f32) 29 v8 x6.2.2.2.1, ownO (kF .f32) 29 v9 x6.2.2.2.2.1, boxO bb2 [v3, v4, v5], ownO (kF .f32) 29 v3 x3.1, ownO (kF .f32) 29 v4 x3.2.1, ownO (kF .f32) 29 v5 x3.2.2, boxO bb1 [(.int .i64 x2.1), (.int .i64 x2.2.1), (.bool x2.2.2.1), v1, v2], ownO (kF .f32) 29 v1 x2.2.2.2.1, ownO (kF .f32) 29 v2 x2.2.2.2.2]) hy2 ⟨⟨rfl, rfl, rfl, rfl, rfl, rfl, rfl, rfl, rfl, rfl, rfl, rfl, rfl, rfl, rfl, rfl, rfl, rfl, rfl, rfl, rfl, rfl, rfl, trivial⟩, X_27, (Sep.sel S_34 [0, 1, 2, 3, 4, 5, 6, 7, 8, 9, 10, 11, 12, 13, 14, 15, 16, 17, 18, 19, 20, 21] (by decide))⟩ ?_
    rintro ⟨x19, x20⟩ φ' hp40 o1 ⟨hs2, X_28, S_35⟩ ho1 hy1
    have hs2 : Fr.sub [(0, u0), (1, u1), (30, (.bool x1)), (5, (.pointer (some ⟨bb1, 0, none⟩))), (6, (.pointer (some ⟨bb2, 0, none⟩))), (7, (.int .i64 (IntKind.wrap .i64 (1 + x4)))), (8, (.pointer (some ⟨bb3, 0, none⟩))), (9, (.bool x6.2.2.2.2.2)), (10, (.pointer (some ⟨bb4, 0, none⟩))), (11, (.bool x7.2.2.2)), (12, (.int .i64 x8)), (13, (.int .i64 (IntKind.wrap .i64 (x8 + x9)))), (14, (.pointer (some ⟨bb5, 0, none⟩))), (15, (.bool x10.2.2.2.2.2)), (16, v17), (17, (.bool x11.2)), (18, (.int .i64 x12)), (19, (.pointer (some ⟨bb6, 0, none⟩))), (20, (.bool x13.2.2.2.2.2)), (130, (.bool x14)), (133, (.int .i64 (x2.2.2.2.1.length : Int))), (4, (.bool x19)), (134, (.int .i64 x20))] φ' := hs2
    have S_35 : Sep [] h0.size hp40 [boxO bb6 [(.int .i64 x13.1), (.int .i64 x13.2.1), (.bool x13.2.2.1), v19, v20], ownO (kF .f32) 29 v19 x13.2.2.2.1, ownO (kF .f32) 29 v20 x13.2.2.2.2.1, ownO (kI .i64) 2 v18 [x8], ownO (kI .i64) 2 v17 x11.1, boxO bb5 [(.int .i64 x10.1), (.int .i64 x10.2.1), (.bool x10.2.2.1), v15, v16], ownO (kF .f32) 29 v15 x10.2.2.2.1, ownO (kF .f32) 29 v16 x10.2.2.2.2.1, boxO bb4 [v12, v13, v14], ownO (kF .f32) 29 v12 x7.1, ownO (kF .f32) 29 v13 x7.2.1, ownO (kF .f32) 29 v14 x7.2.2.1, boxO bb3 [(.int .i64 x6.1), (.int .i64 x6.2.1), (.bool x6.2.2.1), v8, v9], ownO (kF .f32) 29 v8 x6.2.2.2.1, ownO (kF .f32) 29 v9 x6.2.2.2.2.1, boxO bb2 [v3, v4, v5], ownO (kF .f32) 29 v3 x3.1, ownO (kF .f32) 29 v4 x3.2.1, ownO (kF .f32) 29 v5 x3.2.2, boxO bb1 [(.int .i64 x2.1), (.int .i64 x2.2.1), (.bool x2.2.2.1), v1, v2], ownO (kF .f32) 29 v1 x2.2.2.2.1, ownO (kF .f32) 29 v2 x2.2.2.2.2] := S_35
    have ho1 : laws_FnGraded.s0 x2 x3 x4 x6 x7 x8 x9 x10 x11 x12 x13 x19 x20 = some o1 := ho1
    unfold laws_FnGraded.s0 at ho1
    refine W.sub hs2 ?_
    refine W.seq ?_
    refine W.region ?_
    refine RL.opD (by decide) (opv_icmp rfl rfl rfl rfl) ?_
    refine RL.nil ?_
    refine thnN ?_
    refine W.seq ?_
    by_cases c11 : (decide (x20 < (x2.2.2.2.1.length : Int))) = true
    ·rw [if_pos c11] at ho1
     refine W.condT rfl c11 ?_
     refine W.skip ?_
     refine thnN ?_
     refine W.seq ?_
     refine W.block ?_
     refine W.seq ?_
     refine W.region ?_
     refine RL.opD (by decide) (opv_move rfl rfl) ?_
     refine RL.opD (by decide) (opv_assign rfl rfl) ?_
     refine RL.nil ?_
     refine thnN ?_
     refine W.seq ?_
     refine W.region ?_
     refine RL.opD (by decide) (opv_move rfl rfl) ?_
     refine RL.opD (by decide) (opv_fieldAddr rfl Try.fo33_0 rfl) ?_
     refine RL.opD (by decide) (opv_loadB rfl Try.one2 rfl (Sep.at (o := boxO bb1 [(.int .i64 x2.1), (.int .i64 x2.2.1), (.bool x2.2.2.1), v1, v2]) S_35 19 rfl) rfl) ?_
     by_cases nc12 : x2.1 = 0
     ·rw [if_pos nc12] at ho1; cases ho1
     rw [if_neg nc12] at ho1
     have c12 : x2.1 ≠ 0 := nc12
     refine RL.opD (by decide) (opv_rem rfl c12 rfl rfl) ?_
     refine RL.opD (by decide) (opv_assign rfl rfl) ?_
     refine RL.nil ?_
     refine thnN ?_
     refine W.seq ?_
     refine W.region ?_
     refine RL.opD (by decide) (opv_move rfl rfl) ?_
     refine RL.opD (by decide) (opv_fieldAddr rfl Try.fo33_0 rfl) ?_
     refine RL.opD (by decide) (opv_loadB rfl Try.one2 rfl (Sep.at (o := boxO bb1 [(.int .i64 x2.1), (.int .i64 x2.2.1), (.bool x2.2.2.1), v1, v2]) S_35 19 rfl) rfl) ?_
     by_cases nc13 : x2.1 = 0
     ·rw [if_pos nc13] at ho1; cases ho1
     rw [if_neg nc13] at ho1
     have c13 : x2.1 ≠ 0 := nc13
     refine RL.opD (by decide) (opv_quo rfl c13 rfl rfl) ?_
     refine RL.opD (by decide) (opv_assign rfl rfl) ?_
     refine RL.nil ?_
     refine thnN ?_
     refine W.seq ?_
     refine W.region ?_
     refine RL.opD (by decide) (opv_loadA (us := [(.int .i64 x2.1), (.int .i64 x2.2.1), (.bool x2.2.2.1), v1, v2]) rfl Try.agg33 Try.size33 rfl (Sep.at (o := boxO bb1 [(.int .i64 x2.1), (.int .i64 x2.2.1), (.bool x2.2.2.1), v1, v2]) S_35 19 rfl) rfl rfl) ?_
     refine RL.opD (by decide) (opv_move rfl rfl) ?_
     refine RL.opD (by decide) (opv_move rfl rfl) ?_
     obtain ⟨x24, hx24, ho1⟩ := Option.bind_eq_some_iff.1 ho1
     refine RL.op _ (by decide) (opv_call (cap := []) (impl_DepthOf_ok _ _ _ _ _ _ (ownO.read (Sep.at (o := ownO (kF .f32) 29 v1 x2.2.2.2.1) S_35 20 rfl)) _ _ (ownO.read (Sep.at (o := ownO (kF .f32) 29 v2 x2.2.2.2.2) S_35 21 rfl)) _ _ _ hx24) rfl rfl ⟨rfl, rfl, rfl, trivial⟩ Try.func47 rfl rfl) ?_
     rintro _ hp41 ⟨rfl, MT_26, T_26⟩
     obtain ⟨X_29, S_36⟩ := Sep.turn0 X_28 S_35 MT_26 T_26
     refine RL.opD (by decide) (opv_move rfl rfl) ?_
     refine RL.opD (by decide) (opv_extract rfl rfl rfl) ?_
     refine RL.opD (by decide) (opv_extract rfl rfl rfl) ?_
     refine RL.opD (by decide) (opv_assign rfl rfl) ?_
     refine RL.opD (by decide) (opv_assign rfl rfl) ?_
     refine RL.nil ?_
     refine thnN ?_
     refine W.seq ?_
     refine W.seq ?_
     obtain ⟨x25, hy3, ho1⟩ := Option.bind_eq_some_iff.1 ho1
     refine W.cut (fun φ' h' => Fr.sub [(0, u0), (1, u1), (30, (.bool x1)), (5, (.pointer (some ⟨bb1, 0, none⟩))), (6, (.pointer (some ⟨bb2, 0, none⟩))), (7, (.int .i64 (IntKind.wrap .i64 (1 + x4)))), (8, (.pointer (some ⟨bb3, 0, none⟩))), (9, (.bool x6.2.2.2.2.2)), (10, (.pointer (some ⟨bb4, 0, none⟩))), (11, (.bool x7.2.2.2)), (12, (.int .i64 x8)), (13, (.int .i64 (IntKind.wrap .i64 (x8 + x9)))), (14, (.pointer (some ⟨bb5, 0, none⟩))), (15, (.bool x10.2.2.2.2.2)), (16, v17), (17, (.bool x11.2)), (18, (.int .i64 x12)), (19, (.pointer (some ⟨bb6, 0, none⟩))), (20, (.bool x13.2.2.2.2.2)), (130, (.bool x14)), (133, (.int .i64 (x2.2.2.2.1.length : Int))), (4, (.bool x19)), (134, (.int .i64 x20)), (135, (.bool (decide (x20 < (x2.2.2.2.1.length : Int))))), (21, (.int .i64 x20)), (22, (.int .i64 (Int.tmod x20 x2.1))), (23, (.int .i64 (IntKind.wrap .i64 (Int.tdiv x20 x2.1)))), (24, (.int .i64 x24.1)), (25, (.bool x24.2)), (204, (.bool x25))] φ' ∧ hp41 = h') ?_ ?_
     ·refine W.regionH 53 rfl Try.mixed ?_
      refine HK.d 0 rfl rfl rfl (by decide) (by decide +kernel) (fun _ _ _ h => h) (opx_move rfl rfl) ?_
      refine HK.d 1 rfl rfl rfl (by decide) (by decide +kernel) (fun _ _ _ h => h) (opx_not rfl rfl) ?_
      refine HK.d 2 rfl rfl rfl (by decide) (by decide +kernel) (fun _ _ _ h => h) (opx_move rfl rfl) ?_
      by_cases c14 : (!x24.2) = true
      ·rw [if_pos c14] at hy3
       refine HK.n 3 rfl rfl rfl rfl rfl c14 (by decide) (by decide +kernel) (fun _ _ _ h => h) ?_
       refine HK.n 4 rfl rfl rfl rfl rfl c14 (by decide) (by decide +kernel) (fun _ _ _ h => h) ?_
       refine HK.n 5 rfl rfl rfl rfl rfl c14 (by decide) (by decide +kernel) (fun _ _ _ h => h) ?_
       refine HK.n 6 rfl rfl rfl rfl rfl c14 (by decide) (by decide +kernel) (fun _ _ _ h => h) ?_
       refine HK.n 7 rfl rfl rfl rfl rfl c14 (by decide) (by decide +kernel) (fun _ _ _ h => h) ?_
       refine HK.n 8 rfl rfl rfl rfl rfl c14 (by decide) (by decide +kernel) (fun _ _ _ h => h) ?_
       refine HK.n 9 rfl rfl rfl rfl rfl c14 (by decide) (by decide +kernel) (fun _ _ _ h => h) ?_
       refine HK.n 10 rfl rfl rfl rfl rfl c14 (by decide) (by decide +kernel) (fun _ _ _ h => h) ?_
       refine HK.n 11 rfl rfl rfl rfl rfl c14 (by decide) (by decide +kernel) (fun _ _ _ h => h) ?_
       refine HK.n 12 rfl rfl rfl rfl rfl c14 (by decide) (by decide +kernel) (fun _ _ _ h => h) ?_
       refine HK.n 13 rfl rfl rfl rfl rfl c14 (by decide) (by decide +kernel) (fun _ _ _ h => h) ?_
       refine HK.d 14 rfl rfl rfl (by decide) (by decide +kernel) (fun _ _ _ h => h) (opx_pick rfl rfl (fun _ => rfl) (fun e => absurd (Eq.trans (Eq.symm e) c14) (by decide)) rfl) ?_
       refine HK.d 15 rfl rfl rfl (by decide) (by decide +kernel) (fun _ _ _ h => h) (opx_move rfl rfl) ?_
       refine HK.n 16 rfl rfl rfl rfl rfl rfl (by decide) (by decide +kernel) (fun _ _ _ h => h) ?_
       refine HK.n 17 rfl rfl rfl rfl rfl rfl (by decide) (by decide +kernel) (fun _ _ _ h => h) ?_
       refine HK.n 18 rfl rfl rfl rfl rfl rfl (by decide) (by decide +kernel) (fun _ _ _ h => h) ?_
       refine HK.n 19 rfl rfl rfl rfl rfl rfl (by decide) (by decide +kernel) (fun _ _ _ h => h) ?_
       refine HK.u 20 rfl rfl rfl rfl rfl (by decide) (by decide +kernel) (fun _ _ _ h => h) ?_
       refine HK.u 21 rfl rfl rfl rfl rfl (by decide) (by decide +kernel) (fun _ _ _ h => h) ?_
       refine HK.u 22 rfl rfl rfl rfl rfl (by decide) (by decide +kernel) (fun _ _ _ h => h) ?_
       refine HK.u 23 rfl rfl rfl rfl rfl (by decide) (by decide +kernel) (fun _ _ _ h => h) ?_
       refine HK.u 24 rfl rfl rfl rfl rfl (by decide) (by decide +kernel) (fun _ _ _ h => h) ?_
       refine HK.u 25 rfl rfl rfl rfl rfl (by decide) (by decide +kernel) (fun _ _ _ h => h) ?_
       refine HK.u 26 rfl rfl rfl rfl rfl (by decide) (by decide +kernel) (fun _ _ _ h => h) ?_
       refine HK.u 27 rfl rfl rfl rfl rfl (by decide) (by decide +kernel) (fun _ _ _ h => h) ?_
       refine HK.u 28 rfl rfl rfl rfl rfl (by decide) (by decide +kernel) (fun _ _ _ h => h) ?_
       refine HK.u 29 rfl rfl rfl rfl rfl (by decide) (by decide +kernel) (fun _ _ _ h => h) ?_
       refine HK.u 30 rfl rfl rfl rfl rfl (by decide) (by decide +kernel) (fun _ _ _ h => h) ?_
       refine HK.u 31 rfl rfl rfl rfl rfl (by decide) (by decide +kernel) (fun _ _ _ h => h) ?_
       refine HK.n 32 rfl rfl rfl rfl rfl rfl (by decide) (by decide +kernel) (fun _ _ _ h => h) ?_
       refine HK.d 33 rfl rfl rfl (by decide) (by decide +kernel) (fun _ _ _ h => h) (opx_pick rfl rfl (fun _ => rfl) (fun e => absurd (Eq.trans (Eq.symm e) rfl) (by decide)) rfl) ?_
       refine HK.d 34 rfl rfl rfl (by decide) (by decide +kernel) (fun _ _ _ h => h) (opx_move rfl rfl) ?_
       refine HK.n 35 rfl rfl rfl rfl rfl rfl (by decide) (by decide +kernel) (fun _ _ _ h => h) ?_
       refine HK.n 36 rfl rfl rfl rfl rfl rfl (by decide) (by decide +kernel) (fun _ _ _ h => h) ?_
       refine HK.n 37 rfl rfl rfl rfl rfl rfl (by decide) (by decide +kernel) (fun _ _ _ h => h) ?_
       refine HK.n 38 rfl rfl rfl rfl rfl rfl (by decide) (by decide +kernel) (fun _ _ _ h => h) ?_
       refine HK.u 39 rfl rfl rfl rfl rfl (by decide) (by decide +kernel) (fun _ _ _ h => h) ?_
       refine HK.u 40 rfl rfl rfl rfl rfl (by decide) (by decide +kernel) (fun _ _ _ h => h) ?_
       refine HK.u 41 rfl rfl rfl rfl rfl (by decide) (by decide +kernel) (fun _ _ _ h => h) ?_
       refine HK.u 42 rfl rfl rfl rfl rfl (by decide) (by decide +kernel) (fun _ _ _ h => h) ?_
       refine HK.u 43 rfl rfl rfl rfl rfl (by decide) (by decide +kernel) (fun _ _ _ h => h) ?_
       refine HK.u 44 rfl rfl rfl rfl rfl (by decide) (by decide +kernel) (fun _ _ _ h => h) ?_
       refine HK.u 45 rfl rfl rfl rfl rfl (by decide) (by decide +kernel) (fun _ _ _ h => h) ?_
       refine HK.u 46 rfl rfl rfl rfl rfl (by decide) (by decide +kernel) (fun _ _ _ h => h) ?_
       refine HK.u 47 rfl rfl rfl rfl rfl (by decide) (by decide +kernel) (fun _ _ _ h => h) ?_
       refine HK.u 48 rfl rfl rfl rfl rfl (by decide) (by decide +kernel) (fun _ _ _ h => h) ?_
       refine HK.u 49 rfl rfl rfl rfl rfl (by decide) (by decide +kernel) (fun _ _ _ h => h) ?_
       refine HK.u 50 rfl rfl rfl rfl rfl (by decide) (by decide +kernel) (fun _ _ _ h => h) ?_
       refine HK.n 51 rfl rfl rfl rfl rfl rfl (by decide) (by decide +kernel) (fun _ _ _ h => h) ?_
       refine HK.d 52 rfl rfl rfl (by decide) (by decide +kernel) (fun _ _ _ h => h) (opx_pick rfl rfl (fun _ => rfl) (fun e => absurd (Eq.trans (Eq.symm e) rfl) (by decide)) rfl) ?_
       refine HK.done (by decide +kernel) ?_
       have ey3 := Option.some.inj hy3
       subst ey3
       refine onlyN ?_
       exact ⟨⟨rfl, rfl, rfl, rfl, rfl, rfl, rfl, rfl, rfl, rfl, rfl, rfl, rfl, rfl, rfl, rfl, rfl, rfl, rfl, rfl, rfl, rfl, rfl, rfl, rfl, rfl, rfl, rfl, rfl, rfl, trivial⟩, rfl⟩
      ·rw [if_neg c14] at hy3
       have c14 := eq_false_of_ne_true c14
       refine HK.y 3 rfl rfl rfl rfl rfl c14 (by decide) (by decide +kernel) (fun _ _ _ h => h) (opx_fieldAddr rfl Try.fo33_4 rfl) ?_
       refine HK.y 4 rfl rfl rfl rfl rfl c14 (by decide) (by decide +kernel) (fun _ _ _ h => h) (opx_loadB rfl Try.one25 rfl (Sep.at (o := boxO bb3 [(.int .i64 x6.1), (.int .i64 x6.2.1), (.bool x6.2.2.1), v8, v9]) S_36 12 rfl) rfl) ?_
       refine HK.y 5 rfl rfl rfl rfl rfl c14 (by decide) (by decide +kernel) (fun _ _ _ h => h) (opx_move rfl rfl) ?_
       obtain ⟨x26, hx26, hy3⟩ := Option.bind_eq_some_iff.1 hy3
       refine HK.yf 6 rfl rfl rfl rfl rfl c14 (by decide) (by decide +kernel) (fun _ _ _ h => h) (opx_indexP rfl Try.underlying25 (by rw [Try.size29]; rfl) rfl rfl (ownO.read (Sep.at (o := ownO (kF .f32) 29 v9 x6.2.2.2.2.1) S_36 14 rfl)) hx26) ?_
       intro v21 fv21
       refine HK.yf 7 rfl rfl rfl rfl rfl c14 (by decide) (by decide +kernel) (fun _ _ _ h => h) (opx_loadF rfl Try.one29 rfl fv21 (ownO.read (Sep.at (o := ownO (kF .f32) 29 v9 x6.2.2.2.2.1) S_36 14 rfl)) hx26) ?_
       intro v22 fv22
       refine HK.y 8 rfl rfl rfl rfl rfl c14 (by decide) (by decide +kernel) (fun _ _ _ h => h) (opx_fieldAddr rfl Try.fo33_4 rfl) ?_
       refine HK.y 9 rfl rfl rfl rfl rfl c14 (by decide) (by decide +kernel) (fun _ _ _ h => h) (opx_loadB rfl Try.one25 rfl (Sep.at (o := boxO bb1 [(.int .i64 x2.1), (.int .i64 x2.2.1), (.bool x2.2.2.1), v1, v2]) S_36 19 rfl) rfl) ?_
       refine HK.y 10 rfl rfl rfl rfl rfl c14 (by decide) (by decide +kernel) (fun _ _ _ h => h) (opx_move rfl rfl) ?_
       obtain ⟨x27, hx27, hy3⟩ := Option.bind_eq_some_iff.1 hy3
       refine HK.yf 11 rfl rfl rfl rfl rfl c14 (by decide) (by decide +kernel) (fun _ _ _ h => h) (opx_indexP rfl Try.underlying25 (by rw [Try.size29]; rfl) rfl rfl (ownO.read (Sep.at (o := ownO (kF .f32) 29 v2 x2.2.2.2.2) S_36 21 rfl)) hx27) ?_
       intro v23 fv23
       refine HK.yf 12 rfl rfl rfl rfl rfl c14 (by decide) (by decide +kernel) (fun _ _ _ h => h) (opx_loadF rfl Try.one29 rfl fv23 (ownO.read (Sep.at (o := ownO (kF .f32) 29 v2 x2.2.2.2.2) S_36 21 rfl)) hx27) ?_
       intro v24 fv24
       refine HK.y 13 rfl rfl rfl rfl rfl c14 (by decide) (by decide +kernel) (fun _ _ _ h => h) (opx_fcmp rfl rfl rfl rfl fv22 fv24) ?_
       refine HK.d 14 rfl rfl rfl (by decide) (by decide +kernel) (fun _ _ _ h => h) (opx_pick rfl rfl (fun e => absurd (Eq.trans (Eq.symm e) c14) (by decide)) (fun _ => rfl) rfl) ?_
       refine HK.d 15 rfl rfl rfl (by decide) (by decide +kernel) (fun _ _ _ h => h) (opx_move rfl rfl) ?_
       by_cases c15 : (fcmp .lss .f32 x26 x27) = true
       ·rw [if_pos c15] at hy3
        refine HK.n 16 rfl rfl rfl rfl rfl c15 (by decide) (by decide +kernel) (fun _ _ _ h => h) ?_
        refine HK.n 17 rfl rfl rfl rfl rfl c15 (by decide) (by decide +kernel) (fun _ _ _ h => h) ?_
        refine HK.n 18 rfl rfl rfl rfl rfl c15 (by decide) (by decide +kernel) (fun _ _ _ h => h) ?_
        refine HK.n 19 rfl rfl rfl rfl rfl c15 (by decide) (by decide +kernel) (fun _ _ _ h => h) ?_
        refine HK.u 20 rfl rfl rfl rfl rfl (by decide) (by decide +kernel) (fun _ _ _ h => h) ?_
        refine HK.u 21 rfl rfl rfl rfl rfl (by decide) (by decide +kernel) (fun _ _ _ h => h) ?_
        refine HK.u 22 rfl rfl rfl rfl rfl (by decide) (by decide +kernel) (fun _ _ _ h => h) ?_
        refine HK.u 23 rfl rfl rfl rfl rfl (by decide) (by decide +kernel) (fun _ _ _ h => h) ?_
        refine HK.u 24 rfl rfl rfl rfl rfl (by decide) (by decide +kernel) (fun _ _ _ h => h) ?_
        refine HK.u 25 rfl rfl rfl rfl rfl (by decide) (by decide +kernel) (fun _ _ _ h => h) ?_
        refine HK.u 26 rfl rfl rfl rfl rfl (by decide) (by decide +kernel) (fun _ _ _ h => h) ?_
        refine HK.u 27 rfl rfl rfl rfl rfl (by decide) (by decide +kernel) (fun _ _ _ h => h) ?_
        refine HK.u 28 rfl rfl rfl rfl rfl (by decide) (by decide +kernel) (fun _ _ _ h => h) ?_
        refine HK.u 29 rfl rfl rfl rfl rfl (by decide) (by decide +kernel) (fun _ _ _ h => h) ?_
        refine HK.u 30 rfl rfl rfl rfl rfl (by decide) (by decide +kernel) (fun _ _ _ h => h) ?_
        refine HK.u 31 rfl rfl rfl rfl rfl (by decide) (by decide +kernel) (fun _ _ _ h => h) ?_
        refine HK.n 32 rfl rfl rfl rfl rfl c15 (by decide) (by decide +kernel) (fun _ _ _ h => h) ?_
        refine HK.d 33 rfl rfl rfl (by decide) (by decide +kernel) (fun _ _ _ h => h) (opx_pick rfl rfl (fun _ => rfl) (fun e => absurd (Eq.trans (Eq.symm e) c15) (by decide)) rfl) ?_
        refine HK.d 34 rfl rfl rfl (by decide) (by decide +kernel) (fun _ _ _ h => h) (opx_move rfl rfl) ?_
        refine HK.n 35 rfl rfl rfl rfl rfl rfl (by decide) (by decide +kernel) (fun _ _ _ h => h) ?_
        refine HK.n 36 rfl rfl rfl rfl rfl rfl (by decide) (by decide +kernel) (fun _ _ _ h => h) ?_
        refine HK.n 37 rfl rfl rfl rfl rfl rfl (by decide) (by decide +kernel) (fun _ _ _ h => h) ?_
        refine HK.n 38 rfl rfl rfl rfl rfl rfl (by decide) (by decide +kernel) (fun _ _ _ h => h) ?_
        refine HK.u 39 rfl rfl rfl rfl rfl (by decide) (by decide +kernel) (fun _ _ _ h => h) ?_
        refine HK.u 40 rfl rfl rfl rfl rfl (by decide) (by decide +kernel) (fun _ _ _ h => h) ?_
        refine HK.u 41 rfl rfl rfl rfl rfl (by decide) (by decide +kernel) (fun _ _ _ h => h) ?_
        refine HK.u 42 rfl rfl rfl rfl rfl (by decide) (by decide +kernel) (fun _ _ _ h => h) ?_
        refine HK.u 43 rfl rfl rfl rfl rfl (by decide) (by decide +kernel) (fun _ _ _ h => h) ?_
        refine HK.u 44 rfl rfl rfl rfl rfl (by decide) (by decide +kernel) (fun _ _ _ h => h) ?_
        refine HK.u 45 rfl rfl rfl rfl rfl (by decide) (by decide +kernel) (fun _ _ _ h => h) ?_
        refine HK.u 46 rfl rfl rfl rfl rfl (by decide) (by decide +kernel) (fun _ _ _ h => h) ?_
        refine HK.u 47 rfl rfl rfl rfl rfl (by decide) (by decide +kernel) (fun _ _ _ h => h) ?_
        refine HK.u 48 rfl rfl rfl rfl rfl (by decide) (by decide +kernel) (fun _ _ _ h => h) ?_
        refine HK.u 49 rfl rfl rfl rfl rfl (by decide) (by decide +kernel) (fun _ _ _ h => h) ?_
        refine HK.u 50 rfl rfl rfl rfl rfl (by decide) (by decide +kernel) (fun _ _ _ h => h) ?_
        refine HK.n 51 rfl rfl rfl rfl rfl rfl (by decide) (by decide +kernel) (fun _ _ _ h => h) ?_
        refine HK.d 52 rfl rfl rfl (by decide) (by decide +kernel) (fun _ _ _ h => h) (opx_pick rfl rfl (fun _ => rfl) (fun e => absurd (Eq.trans (Eq.symm e) rfl) (by decide)) rfl) ?_
        refine HK.done (by decide +kernel) ?_
        have ey3 := Option.some.inj hy3
        subst ey3
        refine onlyN ?_
        exact ⟨⟨rfl, rfl, rfl, rfl, rfl, rfl, rfl, rfl, rfl, rfl, rfl, rfl, rfl, rfl, rfl, rfl, rfl, rfl, rfl, rfl, rfl, rfl, rfl, rfl, rfl, rfl, rfl, rfl, rfl, rfl, trivial⟩, rfl⟩
       ·rw [if_neg c15] at hy3
        have c15 := eq_false_of_ne_true c15
        refine HK.y 16 rfl rfl rfl rfl rfl c15 (by decide) (by decide +kernel) (fun _ _ _ h => h) (opx_move rfl rfl) ?_
        refine HK.y 17 rfl rfl rfl rfl rfl c15 (by decide) (by decide +kernel) (fun _ _ _ h => h) (opx_move rfl rfl) ?_
        refine HK.y 18 rfl rfl rfl rfl rfl c15 (by decide) (by decide +kernel) (fun _ _ _ h => h) (opx_icmp rfl rfl rfl rfl) ?_
        refine HK.y 19 rfl rfl rfl rfl rfl c15 (by decide) (by decide +kernel) (fun _ _ _ h => h) (opx_move rfl rfl) ?_
        by_cases c16 : (decide (x24.1 ≥ (IntKind.wrap .i64 (1 + x4)))) = true
        ·rw [if_pos c16] at hy3
         refine HK.y 20 rfl rfl rfl rfl rfl c16 (by decide) (by decide +kernel) (fun _ _ _ h => h) (opx_fieldAddr rfl Try.fo33_4 rfl) ?_
         refine HK.y 21 rfl rfl rfl rfl rfl c16 (by decide) (by decide +kernel) (fun _ _ _ h => h) (opx_loadB rfl Try.one25 rfl (Sep.at (o := boxO bb3 [(.int .i64 x6.1), (.int .i64 x6.2.1), (.bool x6.2.2.1), v8, v9]) S_36 12 rfl) rfl) ?_
         refine HK.y 22 rfl rfl rfl rfl rfl c16 (by decide) (by decide +kernel) (fun _ _ _ h => h) (opx_move rfl rfl) ?_
         obtain ⟨x28, hx28, hy3⟩ := Option.bind_eq_some_iff.1 hy3
         refine HK.yf 23 rfl rfl rfl rfl rfl c16 (by decide) (by decide +kernel) (fun _ _ _ h => h) (opx_indexP rfl Try.underlying25 (by rw [Try.size29]; rfl) rfl rfl (ownO.read (Sep.at (o := ownO (kF .f32) 29 v9 x6.2.2.2.2.1) S_36 14 rfl)) hx28) ?_
         intro v25 fv25
         refine HK.yf 24 rfl rfl rfl rfl rfl c16 (by decide) (by decide +kernel) (fun _ _ _ h => h) (opx_loadF rfl Try.one29 rfl fv25 (ownO.read (Sep.at (o := ownO (kF .f32) 29 v9 x6.2.2.2.2.1) S_36 14 rfl)) hx28) ?_
         intro v26 fv26
         refine HK.y 25 rfl rfl rfl rfl rfl c16 (by decide) (by decide +kernel) (fun _ _ _ h => h) (opx_fieldAddr rfl Try.fo33_4 rfl) ?_
         refine HK.y 26 rfl rfl rfl rfl rfl c16 (by decide) (by decide +kernel) (fun _ _ _ h => h) (opx_loadB rfl Try.one25 rfl (Sep.at (o := boxO bb1 [(.int .i64 x2.1), (.int .i64 x2.2.1), (.bool x2.2.2.1), v1, v2]) S_36 19 rfl) rfl) ?_
         refine HK.y 27 rfl rfl rfl rfl rfl c16 (by decide) (by decide +kernel) (fun _ _ _ h => h) (opx_move rfl rfl) ?_
         obtain ⟨x29, hx29, hy3⟩ := Option.bind_eq_some_iff.1 hy3
         refine HK.yf 28 rfl rfl rfl rfl rfl c16 (by decide) (by decide +kernel) (fun _ _ _ h => h) (opx_indexP rfl Try.underlying25 (by rw [Try.size29]; rfl) rfl rfl (ownO.read (Sep.at (o := ownO (kF .f32) 29 v2 x2.2.2.2.2) S_36 21 rfl)) hx29) ?_
         intro v27 fv27
         refine HK.yf 29 rfl rfl rfl rfl rfl c16 (by decide) (by decide +kernel) (fun _ _ _ h => h) (opx_loadF rfl Try.one29 rfl fv27 (ownO.read (Sep.at (o := ownO (kF .f32) 29 v2 x2.2.2.2.2) S_36 21 rfl)) hx29) ?_
         intro v28 fv28
         obtain ⟨x30, hx30, hy3⟩ := Option.bind_eq_some_iff.1 hy3
         refine HK.sy 30 _ rfl rfl rfl rfl rfl c16 (by decide) (by decide +kernel) (opv_call (cap := []) (spec_SameNumber_ok _ _ _ fv26 _ _ fv28 _ hx30) rfl rfl ⟨rfl, rfl, trivial⟩ Try.func48 rfl rfl) ?_
         rintro _ _ ⟨rfl, rfl⟩
         refine ⟨rfl, ?_⟩
         refine HK.y 31 rfl rfl rfl rfl rfl c16 (by decide) (by decide +kernel) (fun _ _ _ h => h) (opx_not rfl rfl) ?_
         refine HK.y 32 rfl rfl rfl rfl rfl c15 (by decide) (by decide +kernel) (fun _ _ _ h => h) (opx_pick rfl rfl (fun _ => rfl) (fun e => absurd (Eq.trans (Eq.symm e) c16) (by decide)) rfl) ?_
         refine HK.d 33 rfl rfl rfl (by decide) (by decide +kernel) (fun _ _ _ h => h) (opx_pick rfl rfl (fun e => absurd (Eq.trans (Eq.symm e) c15) (by decide)) (fun _ => rfl) rfl) ?_
         refine HK.d 34 rfl rfl rfl (by decide) (by decide +kernel) (fun _ _ _ h => h) (opx_move rfl rfl) ?_
         by_cases c17 : (!x30) = true
         ·rw [if_pos c17] at hy3
          refine HK.n 35 rfl rfl rfl rfl rfl c17 (by decide) (by decide +kernel) (fun _ _ _ h => h) ?_
          refine HK.n 36 rfl rfl rfl rfl rfl c17 (by decide) (by decide +kernel) (fun _ _ _ h => h) ?_
          refine HK.n 37 rfl rfl rfl rfl rfl c17 (by decide) (by decide +kernel) (fun _ _ _ h => h) ?_
          refine HK.n 38 rfl rfl rfl rfl rfl c17 (by decide) (by decide +kernel) (fun _ _ _ h => h) ?_
          refine HK.u 39 rfl rfl rfl rfl rfl (by decide) (by decide +kernel) (fun _ _ _ h => h) ?_
          refine HK.u 40 rfl rfl rfl rfl rfl (by decide) (by decide +kernel) (fun _ _ _ h => h) ?_
          refine HK.u 41 rfl rfl rfl rfl rfl (by decide) (by decide +kernel) (fun _ _ _ h => h) ?_
          refine HK.u 42 rfl rfl rfl rfl rfl (by decide) (by decide +kernel) (fun _ _ _ h => h) ?_
          refine HK.u 43 rfl rfl rfl rfl rfl (by decide) (by decide +kernel) (fun _ _ _ h => h) ?_
          refine HK.u 44 rfl rfl rfl rfl rfl (by decide) (by decide +kernel) (fun _ _ _ h => h) ?_
          refine HK.u 45 rfl rfl rfl rfl rfl (by decide) (by decide +kernel) (fun _ _ _ h => h) ?_
          refine HK.u 46 rfl rfl rfl rfl rfl (by decide) (by decide +kernel) (fun _ _ _ h => h) ?_
          refine HK.u 47 rfl rfl rfl rfl rfl (by decide) (by decide +kernel) (fun _ _ _ h => h) ?_
          refine HK.u 48 rfl rfl rfl rfl rfl (by decide) (by decide +kernel) (fun _ _ _ h => h) ?_
          refine HK.u 49 rfl rfl rfl rfl rfl (by decide) (by decide +kernel) (fun _ _ _ h => h) ?_
          refine HK.u 50 rfl rfl rfl rfl rfl (by decide) (by decide +kernel) (fun _ _ _ h => h) ?_
          refine HK.n 51 rfl rfl rfl rfl rfl c17 (by decide) (by decide +kernel) (fun _ _ _ h => h) ?_
          refine HK.d 52 rfl rfl rfl (by decide) (by decide +kernel) (fun _ _ _ h => h) (opx_pick rfl rfl (fun _ => rfl) (fun e => absurd (Eq.trans (Eq.symm e) c17) (by decide)) rfl) ?_
          refine HK.done (by decide +kernel) ?_
          have ey3 := Option.some.inj hy3
          subst ey3
          refine onlyN ?_
          exact ⟨⟨rfl, rfl, rfl, rfl, rfl, rfl, rfl, rfl, rfl, rfl, rfl, rfl, rfl, rfl, rfl, rfl, rfl, rfl, rfl, rfl, rfl, rfl, rfl, rfl, rfl, rfl, rfl, rfl, rfl, rfl, trivial⟩, rfl⟩
         ·rw [if_neg c17] at hy3
          have c17 := eq_false_of_ne_true c17
          refine HK.y 35 rfl rfl rfl rfl rfl c17 (by decide) (by decide +kernel) (fun _ _ _ h => h) (opx_move rfl rfl) ?_
          refine HK.y 36 rfl rfl rfl rfl rfl c17 (by decide) (by decide +kernel) (fun _ _ _ h => h) (opx_move rfl rfl) ?_
          refine HK.y 37 rfl rfl rfl rfl rfl c17 (by decide) (by decide +kernel) (fun _ _ _ h => h) (opx_icmp rfl rfl rfl rfl) ?_
          refine HK.y 38 rfl rfl rfl rfl rfl c17 (by decide) (by decide +kernel) (fun _ _ _ h => h) (opx_move rfl rfl) ?_
          refine HK.y 39 rfl rfl rfl rfl rfl c16 (by decide) (by decide +kernel) (fun _ _ _ h => h) (opx_fieldAddr rfl Try.fo37_0 rfl) ?_
          refine HK.y 40 rfl rfl rfl rfl rfl c16 (by decide) (by decide +kernel) (fun _ _ _ h => h) (opx_loadB rfl Try.one25 rfl (Sep.at (o := boxO bb4 [v12, v13, v14]) S_36 8 rfl) rfl) ?_
          refine HK.y 41 rfl rfl rfl rfl rfl c16 (by decide) (by decide +kernel) (fun _ _ _ h => h) (opx_move rfl rfl) ?_
          obtain ⟨x31, hx31, hy3⟩ := Option.bind_eq_some_iff.1 hy3
          refine HK.yf 42 rfl rfl rfl rfl rfl c16 (by decide) (by decide +kernel) (fun _ _ _ h => h) (opx_indexP rfl Try.underlying25 (by rw [Try.size29]; rfl) rfl rfl (ownO.read (Sep.at (o := ownO (kF .f32) 29 v12 x7.1) S_36 9 rfl)) hx31) ?_
          intro v29 fv29
          refine HK.yf 43 rfl rfl rfl rfl rfl c16 (by decide) (by decide +kernel) (fun _ _ _ h => h) (opx_loadF rfl Try.one29 rfl fv29 (ownO.read (Sep.at (o := ownO (kF .f32) 29 v12 x7.1) S_36 9 rfl)) hx31) ?_
          intro v30 fv30
          refine HK.y 44 rfl rfl rfl rfl rfl c16 (by decide) (by decide +kernel) (fun _ _ _ h => h) (opx_fieldAddr rfl Try.fo37_0 rfl) ?_
          refine HK.y 45 rfl rfl rfl rfl rfl c16 (by decide) (by decide +kernel) (fun _ _ _ h => h) (opx_loadB rfl Try.one25 rfl (Sep.at (o := boxO bb2 [v3, v4, v5]) S_36 15 rfl) rfl) ?_
          refine HK.y 46 rfl rfl rfl rfl rfl c16 (by decide) (by decide +kernel) (fun _ _ _ h => h) (opx_move rfl rfl) ?_
          obtain ⟨x32, hx32, hy3⟩ := Option.bind_eq_some_iff.1 hy3
          refine HK.yf 47 rfl rfl rfl rfl rfl c16 (by decide) (by decide +kernel) (fun _ _ _ h => h) (opx_indexP rfl Try.underlying25 (by rw [Try.size29]; rfl) rfl rfl (ownO.read (Sep.at (o := ownO (kF .f32) 29 v3 x3.1) S_36 16 rfl)) hx32) ?_
          intro v31 fv31
          refine HK.yf 48 rfl rfl rfl rfl rfl c16 (by decide) (by decide +kernel) (fun _ _ _ h => h) (opx_loadF rfl Try.one29 rfl fv31 (ownO.read (Sep.at (o := ownO (kF .f32) 29 v3 x3.1) S_36 16 rfl)) hx32) ?_
          intro v32 fv32
          obtain ⟨x33, hx33, hy3⟩ := Option.bind_eq_some_iff.1 hy3
          refine HK.sy 49 _ rfl rfl rfl rfl rfl c16 (by decide) (by decide +kernel) (opv_call (cap := []) (spec_SameNumber_ok _ _ _ fv30 _ _ fv32 _ hx33) rfl rfl ⟨rfl, rfl, trivial⟩ Try.func48 rfl rfl) ?_
          rintro _ _ ⟨rfl, rfl⟩
          refine ⟨rfl, ?_⟩
          refine HK.y 50 rfl rfl rfl rfl rfl c16 (by decide) (by decide +kernel) (fun _ _ _ h => h) (opx_not rfl rfl) ?_
          refine HK.y 51 rfl rfl rfl rfl rfl c17 (by decide) (by decide +kernel) (fun _ _ _ h => h) (opx_pick rfl rfl (fun _ => rfl) (fun e => absurd (Eq.trans (Eq.symm e) c16) (by decide)) rfl) ?_
          refine HK.d 52 rfl rfl rfl (by decide) (by decide +kernel) (fun _ _ _ h => h) (opx_pick rfl rfl (fun e => absurd (Eq.trans (Eq.symm e) c17) (by decide)) (fun _ => rfl) rfl) ?_
          refine HK.done (by decide +kernel) ?_
          have ey3 := Option.some.inj hy3
          subst ey3
          refine onlyN ?_
          exact ⟨⟨rfl, rfl, rfl, rfl, rfl, rfl, rfl, rfl, rfl, rfl, rfl, rfl, rfl, rfl, rfl, rfl, rfl, rfl, rfl, rfl, rfl, rfl, rfl, rfl, rfl, rfl, rfl, rfl, rfl, rfl, trivial⟩, rfl⟩
        ·rw [if_neg c16] at hy3
         have c16 := eq_false_of_ne_true c16
         refine HK.n 20 rfl rfl rfl rfl rfl c16 (by decide) (by decide +kernel) (fun _ _ _ h => h) ?_
         refine HK.n 21 rfl rfl rfl rfl rfl c16 (by decide) (by decide +kernel) (fun _ _ _ h => h) ?_
         refine HK.n 22 rfl rfl rfl rfl rfl c16 (by decide) (by decide +kernel) (fun _ _ _ h => h) ?_
         refine HK.n 23 rfl rfl rfl rfl rfl c16 (by decide) (by decide +kernel) (fun _ _ _ h => h) ?_
         refine HK.n 24 rfl rfl rfl rfl rfl c16 (by decide) (by decide +kernel) (fun _ _ _ h => h) ?_
         refine HK.n 25 rfl rfl rfl rfl rfl c16 (by decide) (by decide +kernel) (fun _ _ _ h => h) ?_
         refine HK.n 26 rfl rfl rfl rfl rfl c16 (by decide) (by decide +kernel) (fun _ _ _ h => h) ?_
         refine HK.n 27 rfl rfl rfl rfl rfl c16 (by decide) (by decide +kernel) (fun _ _ _ h => h) ?_
         refine HK.n 28 rfl rfl rfl rfl rfl c16 (by decide) (by decide +kernel) (fun _ _ _ h => h) ?_
         refine HK.n 29 rfl rfl rfl rfl rfl c16 (by decide) (by decide +kernel) (fun _ _ _ h => h) ?_
         refine HK.n 30 rfl rfl rfl rfl rfl c16 (by decide) (by decide +kernel) (fun _ _ _ h => h) ?_
         refine HK.n 31 rfl rfl rfl rfl rfl c16 (by decide) (by decide +kernel) (fun _ _ _ h => h) ?_
         refine HK.y 32 rfl rfl rfl rfl rfl c15 (by decide) (by decide +kernel) (fun _ _ _ h => h) (opx_pick rfl rfl (fun e => absurd (Eq.trans (Eq.symm e) c16) (by decide)) (fun _ => rfl) rfl) ?_
         refine HK.d 33 rfl rfl rfl (by decide) (by decide +kernel) (fun _ _ _ h => h) (opx_pick rfl rfl (fun e => absurd (Eq.trans (Eq.symm e) c15) (by decide)) (fun _ => rfl) rfl) ?_
         refine HK.d 34 rfl rfl rfl (by decide) (by decide +kernel) (fun _ _ _ h => h) (opx_move rfl rfl) ?_
         refine HK.y 35 rfl rfl rfl rfl rfl rfl (by decide) (by decide +kernel) (fun _ _ _ h => h) (opx_move rfl rfl) ?_
         refine HK.y 36 rfl rfl rfl rfl rfl rfl (by decide) (by decide +kernel) (fun _ _ _ h => h) (opx_move rfl rfl) ?_
         refine HK.y 37 rfl rfl rfl rfl rfl rfl (by decide) (by decide +kernel) (fun _ _ _ h => h) (opx_icmp rfl rfl rfl rfl) ?_
         refine HK.y 38 rfl rfl rfl rfl rfl rfl (by decide) (by decide +kernel) (fun _ _ _ h => h) (opx_move rfl rfl) ?_
         refine HK.n 39 rfl rfl rfl rfl rfl c16 (by decide) (by decide +kernel) (fun _ _ _ h => h) ?_
         refine HK.n 40 rfl rfl rfl rfl rfl c16 (by decide) (by decide +kernel) (fun _ _ _ h => h) ?_
         refine HK.n 41 rfl rfl rfl rfl rfl c16 (by decide) (by decide +kernel) (fun _ _ _ h => h) ?_
         refine HK.n 42 rfl rfl rfl rfl rfl c16 (by decide) (by decide +kernel) (fun _ _ _ h => h) ?_
         refine HK.n 43 rfl rfl rfl rfl rfl c16 (by decide) (by decide +kernel) (fun _ _ _ h => h) ?_
         refine HK.n 44 rfl rfl rfl rfl rfl c16 (by decide) (by decide +kernel) (fun _ _ _ h => h) ?_
         refine HK.n 45 rfl rfl rfl rfl rfl c16 (by decide) (by decide +kernel) (fun _ _ _ h => h) ?_
         refine HK.n 46 rfl rfl rfl rfl rfl c16 (by decide) (by decide +kernel) (fun _ _ _ h => h) ?_
         refine HK.n 47 rfl rfl rfl rfl rfl c16 (by decide) (by decide +kernel) (fun _ _ _ h => h) ?_
         refine HK.n 48 rfl rfl rfl rfl rfl c16 (by decide) (by decide +kernel) (fun _ _ _ h => h) ?_
         refine HK.n 49 rfl rfl rfl rfl rfl c16 (by decide) (by decide +kernel) (fun _ _ _ h => h) ?_
         refine HK.n 50 rfl rfl rfl rfl rfl c16 (by decide) (by decide +kernel) (fun _ _ _ h => h) ?_
         refine HK.y 51 rfl rfl rfl rfl rfl rfl (by decide) (by decide +kernel) (fun _ _ _ h => h) (opx_pick rfl rfl (fun e => absurd (Eq.trans (Eq.symm e) c16) (by decide)) (fun _ => rfl) rfl) ?_
         refine HK.d 52 rfl rfl rfl (by decide) (by decide +kernel) (fun _ _ _ h => h) (opx_pick rfl rfl (fun e => absurd (Eq.trans (Eq.symm e) rfl) (by decide)) (fun _ => rfl) rfl) ?_
         refine HK.done (by decide +kernel) ?_
         have ey3 := Option.some.inj hy3
         subst ey3
         refine onlyN ?_
         exact ⟨⟨rfl, rfl, rfl, rfl, rfl, rfl, rfl, rfl, rfl, rfl, rfl, rfl, rfl, rfl, rfl, rfl, rfl, rfl, rfl, rfl, rfl, rfl, rfl, rfl, rfl, rfl, rfl, rfl, rfl, rfl, trivial⟩, rfl⟩
     rintro φ' _ ⟨hs4, rfl⟩
     refine thnN ?_
     refine W.sub hs4 ?_
     by_cases c18 : x25 = true
     ·rw [if_pos c18] at ho1
      refine W.condT rfl c18 ?_
      refine W.seq ?_
      refine W.region ?_
      refine RL.opD (by decide) (opv_assign rfl rfl) ?_
      refine RL.nil ?_
      refine thnN ?_
      refine W.ret ?_
      refine thnR ?_
      refine blkR ?_
      refine thnR ?_
      have eo1 := Option.some.inj ho1
      subst eo1
      have ey2 := hy1 _ rfl
      subst ey2
      try dsimp only at hp
      refine rndR ?_
      refine blkR ?_
      refine onlyR ?_
      refine thnR ?_
      have er := Option.some.inj hp
      subst er
      exact Rt.one rfl rfl ⟨rfl, X_29, (Sep.nil _ _ _)⟩
     ·rw [if_neg c18] at ho1
      have c18 := eq_false_of_ne_true c18
      refine W.condF rfl c18 ?_
      refine W.skip ?_
      refine thnN ?_
      refine W.seq ?_
      refine W.seq ?_
      obtain ⟨x34, hy4, ho1⟩ := Option.bind_eq_some_iff.1 ho1
      refine W.cut (fun φ' h' => Fr.sub [(0, u0), (1, u1), (30, (.bool x1)), (5, (.pointer (some ⟨bb1, 0, none⟩))), (6, (.pointer (some ⟨bb2, 0, none⟩))), (7, (.int .i64 (IntKind.wrap .i64 (1 + x4)))), (8, (.pointer (some ⟨bb3, 0, none⟩))), (9, (.bool x6.2.2.2.2.2)), (10, (.pointer (some ⟨bb4, 0, none⟩))), (11, (.bool x7.2.2.2)), (12, (.int .i64 x8)), (13, (.int .i64 (IntKind.wrap .i64 (x8 + x9)))), (14, (.pointer (some ⟨bb5, 0, none⟩))), (15, (.bool x10.2.2.2.2.2)), (16, v17), (17, (.bool x11.2)), (18, (.int .i64 x12)), (19, (.pointer (some ⟨bb6, 0, none⟩))), (20, (.bool x13.2.2.2.2.2)), (130, (.bool x14)), (133, (.int .i64 (x2.2.2.2.1.length : Int))), (4, (.bool x19)), (134, (.int .i64 x20)), (135, (.bool (decide (x20 < (x2.2.2.2.1.length : Int))))), (21, (.int .i64 x20)), (22, (.int .i64 (Int.tmod x20 x2.1))), (23, (.int .i64 (IntKind.wrap .i64 (Int.tdiv x20 x2.1)))), (24, (.int .i64 x24.1)), (25, (.bool x24.2)), (204, (.bool x25)), (244, (.bool x34))] φ' ∧ hp41 = h') ?_ ?_
      ·refine W.regionH 40 rfl Try.mixed ?_
       refine HK.d 0 rfl rfl rfl (by decide) (by decide +kernel) (fun _ _ _ h => h) (opx_fieldAddr rfl Try.fo37_0 rfl) ?_
       refine HK.d 1 rfl rfl rfl (by decide) (by decide +kernel) (fun _ _ _ h => h) (opx_loadB rfl Try.one25 rfl (Sep.at (o := boxO bb4 [v12, v13, v14]) S_36 8 rfl) rfl) ?_
       refine HK.d 2 rfl rfl rfl (by decide) (by decide +kernel) (fun _ _ _ h => h) (opx_move rfl rfl) ?_
       obtain ⟨x35, hx35, hy4⟩ := Option.bind_eq_some_iff.1 hy4
       refine HK.f 3 rfl rfl rfl (by decide) (by decide +kernel) (fun _ _ _ h => h) (opx_indexP rfl Try.underlying25 (by rw [Try.size29]; rfl) rfl rfl (ownO.read (Sep.at (o := ownO (kF .f32) 29 v12 x7.1) S_36 9 rfl)) hx35) ?_
       intro v33 fv33
       refine HK.f 4 rfl rfl rfl (by decide) (by decide +kernel) (fun _ _ _ h => h) (opx_loadF rfl Try.one29 rfl fv33 (ownO.read (Sep.at (o := ownO (kF .f32) 29 v12 x7.1) S_36 9 rfl)) hx35) ?_
       intro v34 fv34
       refine HK.d 5 rfl rfl rfl (by decide) (by decide +kernel) (fun _ _ _ h => h) (opx_fieldAddr rfl Try.fo37_0 rfl) ?_
       refine HK.d 6 rfl rfl rfl (by decide) (by decide +kernel) (fun _ _ _ h => h) (opx_loadB rfl Try.one25 rfl (Sep.at (o := boxO bb2 [v3, v4, v5]) S_36 15 rfl) rfl) ?_
       refine HK.d 7 rfl rfl rfl (by decide) (by decide +kernel) (fun _ _ _ h => h) (opx_move rfl rfl) ?_
       obtain ⟨x36, hx36, hy4⟩ := Option.bind_eq_some_iff.1 hy4
       refine HK.f 8 rfl rfl rfl (by decide) (by decide +kernel) (fun _ _ _ h => h) (opx_indexP rfl Try.underlying25 (by rw [Try.size29]; rfl) rfl rfl (ownO.read (Sep.at (o := ownO (kF .f32) 29 v3 x3.1) S_36 16 rfl)) hx36) ?_
       intro v35 fv35
       refine HK.f 9 rfl rfl rfl (by decide) (by decide +kernel) (fun _ _ _ h => h) (opx_loadF rfl Try.one29 rfl fv35 (ownO.read (Sep.at (o := ownO (kF .f32) 29 v3 x3.1) S_36 16 rfl)) hx36) ?_
       intro v36 fv36
       refine HK.d 10 rfl rfl rfl (by decide) (by decide +kernel) (fun _ _ _ h => h) (opx_fcmp rfl rfl rfl rfl fv34 fv36) ?_
       refine HK.d 11 rfl rfl rfl (by decide) (by decide +kernel) (fun _ _ _ h => h) (opx_move rfl rfl) ?_
       by_cases c19 : (fcmp .gtr .f32 x35 x36) = true
       ·rw [if_pos c19] at hy4
        refine HK.y 12 rfl rfl rfl rfl rfl c19 (by decide) (by decide +kernel) (fun _ _ _ h => h) (opx_fieldAddr rfl Try.fo37_0 rfl) ?_
        refine HK.y 13 rfl rfl rfl rfl rfl c19 (by decide) (by decide +kernel) (fun _ _ _ h => h) (opx_loadB rfl Try.one25 rfl (Sep.at (o := boxO bb4 [v12, v13, v14]) S_36 8 rfl) rfl) ?_
        refine HK.y 14 rfl rfl rfl rfl rfl c19 (by decide) (by decide +kernel) (fun _ _ _ h => h) (opx_move rfl rfl) ?_
        obtain ⟨x37, hx37, hy4⟩ := Option.bind_eq_some_iff.1 hy4
        refine HK.yf 15 rfl rfl rfl rfl rfl c19 (by decide) (by decide +kernel) (fun _ _ _ h => h) (opx_indexP rfl Try.underlying25 (by rw [Try.size29]; rfl) rfl rfl (ownO.read (Sep.at (o := ownO (kF .f32) 29 v12 x7.1) S_36 9 rfl)) hx37) ?_
        intro v37 fv37
        refine HK.yf 16 rfl rfl rfl rfl rfl c19 (by decide) (by decide +kernel) (fun _ _ _ h => h) (opx_loadF rfl Try.one29 rfl fv37 (ownO.read (Sep.at (o := ownO (kF .f32) 29 v12 x7.1) S_36 9 rfl)) hx37) ?_
        intro v38 fv38
        refine HK.y 17 rfl rfl rfl rfl rfl c19 (by decide) (by decide +kernel) (fun _ _ _ h => h) (opx_fcmp rfl rfl rfl rfl fv38 (isF_lit .f32 0 (by decide) (by decide))) ?_
        refine HK.d 18 rfl rfl rfl (by decide) (by decide +kernel) (fun _ _ _ h => h) (opx_pick rfl rfl (fun _ => rfl) (fun e => absurd (Eq.trans (Eq.symm e) c19) (by decide)) rfl) ?_
        refine HK.d 19 rfl rfl rfl (by decide) (by decide +kernel) (fun _ _ _ h => h) (opx_move rfl rfl) ?_
        by_cases c20 : (fcmp .gtr .f32 x37 (some 0)) = true
        ·rw [if_pos c20] at hy4
         refine HK.n 20 rfl rfl rfl rfl rfl c20 (by decide) (by decide +kernel) (fun _ _ _ h => h) ?_
         refine HK.n 21 rfl rfl rfl rfl rfl c20 (by decide) (by decide +kernel) (fun _ _ _ h => h) ?_
         refine HK.n 22 rfl rfl rfl rfl rfl c20 (by decide) (by decide +kernel) (fun _ _ _ h => h) ?_
         refine HK.n 23 rfl rfl rfl rfl rfl c20 (by decide) (by decide +kernel) (fun _ _ _ h => h) ?_
         refine HK.n 24 rfl rfl rfl rfl rfl c20 (by decide) (by decide +kernel) (fun _ _ _ h => h) ?_
         refine HK.n 25 rfl rfl rfl rfl rfl c20 (by decide) (by decide +kernel) (fun _ _ _ h => h) ?_
         refine HK.n 26 rfl rfl rfl rfl rfl c20 (by decide) (by decide +kernel) (fun _ _ _ h => h) ?_
         refine HK.n 27 rfl rfl rfl rfl rfl c20 (by decide) (by decide +kernel) (fun _ _ _ h => h) ?_
         refine HK.n 28 rfl rfl rfl rfl rfl c20 (by decide) (by decide +kernel) (fun _ _ _ h => h) ?_
         refine HK.n 29 rfl rfl rfl rfl rfl c20 (by decide) (by decide +kernel) (fun _ _ _ h => h) ?_
         refine HK.n 30 rfl rfl rfl rfl rfl c20 (by decide) (by decide +kernel) (fun _ _ _ h => h) ?_
         refine HK.n 31 rfl rfl rfl rfl rfl c20 (by decide) (by decide +kernel) (fun _ _ _ h => h) ?_
         refine HK.u 32 rfl rfl rfl rfl rfl (by decide) (by decide +kernel) (fun _ _ _ h => h) ?_
         refine HK.u 33 rfl rfl rfl rfl rfl (by decide) (by decide +kernel) (fun _ _ _ h => h) ?_
         refine HK.u 34 rfl rfl rfl rfl rfl (by decide) (by decide +kernel) (fun _ _ _ h => h) ?_
         refine HK.u 35 rfl rfl rfl rfl rfl (by decide) (by decide +kernel) (fun _ _ _ h => h) ?_
         refine HK.u 36 rfl rfl rfl rfl rfl (by decide) (by decide +kernel) (fun _ _ _ h => h) ?_
         refine HK.u 37 rfl rfl rfl rfl rfl (by decide) (by decide +kernel) (fun _ _ _ h => h) ?_
         refine HK.n 38 rfl rfl rfl rfl rfl c20 (by decide) (by decide +kernel) (fun _ _ _ h => h) ?_
         refine HK.d 39 rfl rfl rfl (by decide) (by decide +kernel) (fun _ _ _ h => h) (opx_pick rfl rfl (fun _ => rfl) (fun e => absurd (Eq.trans (Eq.symm e) c20) (by decide)) rfl) ?_
         refine HK.done (by decide +kernel) ?_
         have ey4 := Option.some.inj hy4
         subst ey4
         refine onlyN ?_
         exact ⟨⟨rfl, rfl, rfl, rfl, rfl, rfl, rfl, rfl, rfl, rfl, rfl, rfl, rfl, rfl, rfl, rfl, rfl, rfl, rfl, rfl, rfl, rfl, rfl, rfl, rfl, rfl, rfl, rfl, rfl, rfl, rfl, trivial⟩, rfl⟩
        ·rw [if_neg c20] at hy4
         have c20 := eq_false_of_ne_true c20
         refine HK.y 20 rfl rfl rfl rfl rfl c20 (by decide) (by decide +kernel) (fun _ _ _ h => h) (opx_fieldAddr rfl Try.fo37_0 rfl) ?_
         refine HK.y 21 rfl rfl rfl rfl rfl c20 (by decide) (by decide +kernel) (fun _ _ _ h => h) (opx_loadB rfl Try.one25 rfl (Sep.at (o := boxO bb4 [v12, v13, v14]) S_36 8 rfl) rfl) ?_
         refine HK.y 22 rfl rfl rfl rfl rfl c20 (by decide) (by decide +kernel) (fun _ _ _ h => h) (opx_move rfl rfl) ?_
         obtain ⟨x38, hx38, hy4⟩ := Option.bind_eq_some_iff.1 hy4
         refine HK.yf 23 rfl rfl rfl rfl rfl c20 (by decide) (by decide +kernel) (fun _ _ _ h => h) (opx_indexP rfl Try.underlying25 (by rw [Try.size29]; rfl) rfl rfl (ownO.read (Sep.at (o := ownO (kF .f32) 29 v12 x7.1) S_36 9 rfl)) hx38) ?_
         intro v39 fv39
         refine HK.yf 24 rfl rfl rfl rfl rfl c20 (by decide) (by decide +kernel) (fun _ _ _ h => h) (opx_loadF rfl Try.one29 rfl fv39 (ownO.read (Sep.at (o := ownO (kF .f32) 29 v12 x7.1) S_36 9 rfl)) hx38) ?_
         intro v40 fv40
         refine HK.y 25 rfl rfl rfl rfl rfl c20 (by decide) (by decide +kernel) (fun _ _ _ h => h) (opx_fieldAddr rfl Try.fo37_0 rfl) ?_
         refine HK.y 26 rfl rfl rfl rfl rfl c20 (by decide) (by decide +kernel) (fun _ _ _ h => h) (opx_loadB rfl Try.one25 rfl (Sep.at (o := boxO bb2 [v3, v4, v5]) S_36 15 rfl) rfl) ?_
         refine HK.y 27 rfl rfl rfl rfl rfl c20 (by decide) (by decide +kernel) (fun _ _ _ h => h) (opx_move rfl rfl) ?_
         obtain ⟨x39, hx39, hy4⟩ := Option.bind_eq_some_iff.1 hy4
         refine HK.yf 28 rfl rfl rfl rfl rfl c20 (by decide) (by decide +kernel) (fun _ _ _ h => h) (opx_indexP rfl Try.underlying25 (by rw [Try.size29]; rfl) rfl rfl (ownO.read (Sep.at (o := ownO (kF .f32) 29 v3 x3.1) S_36 16 rfl)) hx39) ?_
         intro v41 fv41
         refine HK.yf 29 rfl rfl rfl rfl rfl c20 (by decide) (by decide +kernel) (fun _ _ _ h => h) (opx_loadF rfl Try.one29 rfl fv41 (ownO.read (Sep.at (o := ownO (kF .f32) 29 v3 x3.1) S_36 16 rfl)) hx39) ?_
         intro v42 fv42
         refine HK.y 30 rfl rfl rfl rfl rfl c20 (by decide) (by decide +kernel) (fun _ _ _ h => h) (opx_fcmp rfl rfl rfl rfl fv40 fv42) ?_
         refine HK.y 31 rfl rfl rfl rfl rfl c20 (by decide) (by decide +kernel) (fun _ _ _ h => h) (opx_move rfl rfl) ?_
         by_cases c21 : (fcmp .lss .f32 x38 x39) = true
         ·rw [if_pos c21] at hy4
          refine HK.y 32 rfl rfl rfl rfl rfl c21 (by decide) (by decide +kernel) (fun _ _ _ h => h) (opx_fieldAddr rfl Try.fo37_0 rfl) ?_
          refine HK.y 33 rfl rfl rfl rfl rfl c21 (by decide) (by decide +kernel) (fun _ _ _ h => h) (opx_loadB rfl Try.one25 rfl (Sep.at (o := boxO bb4 [v12, v13, v14]) S_36 8 rfl) rfl) ?_
          refine HK.y 34 rfl rfl rfl rfl rfl c21 (by decide) (by decide +kernel) (fun _ _ _ h => h) (opx_move rfl rfl) ?_
          obtain ⟨x40, hx40, hy4⟩ := Option.bind_eq_some_iff.1 hy4
          refine HK.yf 35 rfl rfl rfl rfl rfl c21 (by decide) (by decide +kernel) (fun _ _ _ h => h) (opx_indexP rfl Try.underlying25 (by rw [Try.size29]; rfl) rfl rfl (ownO.read (Sep.at (o := ownO (kF .f32) 29 v12 x7.1) S_36 9 rfl)) hx40) ?_
          intro v43 fv43
          refine HK.yf 36 rfl rfl rfl rfl rfl c21 (by decide) (by decide +kernel) (fun _ _ _ h => h) (opx_loadF rfl Try.one29 rfl fv43 (ownO.read (Sep.at (o := ownO (kF .f32) 29 v12 x7.1) S_36 9 rfl)) hx40) ?_
          intro v44 fv44
          refine HK.y 37 rfl rfl rfl rfl rfl c21 (by decide) (by decide +kernel) (fun _ _ _ h => h) (opx_fcmp rfl rfl rfl rfl fv44 (isF_lit .f32 0 (by decide) (by decide))) ?_
          refine HK.y 38 rfl rfl rfl rfl rfl c20 (by decide) (by decide +kernel) (fun _ _ _ h => h) (opx_pick rfl rfl (fun _ => rfl) (fun e => absurd (Eq.trans (Eq.symm e) c21) (by decide)) rfl) ?_
          refine HK.d 39 rfl rfl rfl (by decide) (by decide +kernel) (fun _ _ _ h => h) (opx_pick rfl rfl (fun e => absurd (Eq.trans (Eq.symm e) c20) (by decide)) (fun _ => rfl) rfl) ?_
          refine HK.done (by decide +kernel) ?_
          have ey4 := Option.some.inj hy4
          subst ey4
          refine onlyN ?_
          exact ⟨⟨rfl, rfl, rfl, rfl, rfl, rfl, rfl, rfl, rfl, rfl, rfl, rfl, rfl, rfl, rfl, rfl, rfl, rfl, rfl, rfl, rfl, rfl, rfl, rfl, rfl, rfl, rfl, rfl, rfl, rfl, rfl, trivial⟩, rfl⟩
         ·rw [if_neg c21] at hy4
          have c21 := eq_false_of_ne_true c21
          refine HK.n 32 rfl rfl rfl rfl rfl c21 (by decide) (by decide +kernel) (fun _ _ _ h => h) ?_
          refine HK.n 33 rfl rfl rfl rfl rfl c21 (by decide) (by decide +kernel) (fun _ _ _ h => h) ?_
          refine HK.n 34 rfl rfl rfl rfl rfl c21 (by decide) (by decide +kernel) (fun _ _ _ h => h) ?_
          refine HK.n 35 rfl rfl rfl rfl rfl c21 (by decide) (by decide +kernel) (fun _ _ _ h => h) ?_
          refine HK.n 36 rfl rfl rfl rfl rfl c21 (by decide) (by decide +kernel) (fun _ _ _ h => h) ?_
          refine HK.n 37 rfl rfl rfl rfl rfl c21 (by decide) (by decide +kernel) (fun _ _ _ h => h) ?_
          refine HK.y 38 rfl rfl rfl rfl rfl c20 (by decide) (by decide +kernel) (fun _ _ _ h => h) (opx_pick rfl rfl (fun e => absurd (Eq.trans (Eq.symm e) c21) (by decide)) (fun _ => rfl) rfl) ?_
          refine HK.d 39 rfl rfl rfl (by decide) (by decide +kernel) (fun _ _ _ h => h) (opx_pick rfl rfl (fun e => absurd (Eq.trans (Eq.symm e) c20) (by decide)) (fun _ => rfl) rfl) ?_
          refine HK.done (by decide +kernel) ?_
          have ey4 := Option.some.inj hy4
          subst ey4
          refine onlyN ?_
          exact ⟨⟨rfl, rfl, rfl, rfl, rfl, rfl, rfl, rfl, rfl, rfl, rfl, rfl, rfl, rfl, rfl, rfl, rfl, rfl, rfl, rfl, rfl, rfl, rfl, rfl, rfl, rfl, rfl, rfl, rfl, rfl, rfl, trivial⟩, rfl⟩
       ·rw [if_neg c19] at hy4
        have c19 := eq_false_of_ne_true c19
        refine HK.n 12 rfl rfl rfl rfl rfl c19 (by decide) (by decide +kernel) (fun _ _ _ h => h) ?_
        refine HK.n 13 rfl rfl rfl rfl rfl c19 (by decide) (by decide +kernel) (fun _ _ _ h => h) ?_
        refine HK.n 14 rfl rfl rfl rfl rfl c19 (by decide) (by decide +kernel) (fun _ _ _ h => h) ?_
        refine HK.n 15 rfl rfl rfl rfl rfl c19 (by decide) (by decide +kernel) (fun _ _ _ h => h) ?_
        refine HK.n 16 rfl rfl rfl rfl rfl c19 (by decide) (by decide +kernel) (fun _ _ _ h => h) ?_
        refine HK.n 17 rfl rfl rfl rfl rfl c19 (by decide) (by decide +kernel) (fun _ _ _ h => h) ?_
        refine HK.d 18 rfl rfl rfl (by decide) (by decide +kernel) (fun _ _ _ h => h) (opx_pick rfl rfl (fun e => absurd (Eq.trans (Eq.symm e) c19) (by decide)) (fun _ => rfl) rfl) ?_
        refine HK.d 19 rfl rfl rfl (by decide) (by decide +kernel) (fun _ _ _ h => h) (opx_move rfl rfl) ?_
        refine HK.y 20 rfl rfl rfl rfl rfl rfl (by decide) (by decide +kernel) (fun _ _ _ h => h) (opx_fieldAddr rfl Try.fo37_0 rfl) ?_
        refine HK.y 21 rfl rfl rfl rfl rfl rfl (by decide) (by decide +kernel) (fun _ _ _ h => h) (opx_loadB rfl Try.one25 rfl (Sep.at (o := boxO bb4 [v12, v13, v14]) S_36 8 rfl) rfl) ?_
        refine HK.y 22 rfl rfl rfl rfl rfl rfl (by decide) (by decide +kernel) (fun _ _ _ h => h) (opx_move rfl rfl) ?_
        obtain ⟨x41, hx41, hy4⟩ := Option.bind_eq_some_iff.1 hy4
        refine HK.yf 23 rfl rfl rfl rfl rfl rfl (by decide) (by decide +kernel) (fun _ _ _ h => h) (opx_indexP rfl Try.underlying25 (by rw [Try.size29]; rfl) rfl rfl (ownO.read (Sep.at (o := ownO (kF .f32) 29 v12 x7.1) S_36 9 rfl)) hx41) ?_
        intro v45 fv45
        refine HK.yf 24 rfl rfl rfl rfl rfl rfl (by decide) (by decide +kernel) (fun _ _ _ h => h) (opx_loadF rfl Try.one29 rfl fv45 (ownO.read (Sep.at (o := ownO (kF .f32) 29 v12 x7.1) S_36 9 rfl)) hx41) ?_
        intro v46 fv46
        refine HK.y 25 rfl rfl rfl rfl rfl rfl (by decide) (by decide +kernel) (fun _ _ _ h => h) (opx_fieldAddr rfl Try.fo37_0 rfl) ?_
        refine HK.y 26 rfl rfl rfl rfl rfl rfl (by decide) (by decide +kernel) (fun _ _ _ h => h) (opx_loadB rfl Try.one25 rfl (Sep.at (o := boxO bb2 [v3, v4, v5]) S_36 15 rfl) rfl) ?_
        refine HK.y 27 rfl rfl rfl rfl rfl rfl (by decide) (by decide +kernel) (fun _ _ _ h => h) (opx_move rfl rfl) ?_
        obtain ⟨x42, hx42, hy4⟩ := Option.bind_eq_some_iff.1 hy4
        refine HK.yf 28 rfl rfl rfl rfl rfl rfl (by decide) (by decide +kernel) (fun _ _ _ h => h) (opx_indexP rfl Try.underlying25 (by rw [Try.size29]; rfl) rfl rfl (ownO.read (Sep.at (o := ownO (kF .f32) 29 v3 x3.1) S_36 16 rfl)) hx42) ?_
        intro v47 fv47
        refine HK.yf 29 rfl rfl rfl rfl rfl rfl (by decide) (by decide +kernel) (fun _ _ _ h => h) (opx_loadF rfl Try.one29 rfl fv47 (ownO.read (Sep.at (o := ownO (kF .f32) 29 v3 x3.1) S_36 16 rfl)) hx42) ?_
        intro v48 fv48
        refine HK.y 30 rfl rfl rfl rfl rfl rfl (by decide) (by decide +kernel) (fun _ _ _ h => h) (opx_fcmp rfl rfl rfl rfl fv46 fv48) ?_
        refine HK.y 31 rfl rfl rfl rfl rfl rfl (by decide) (by decide +kernel) (fun _ _ _ h => h) (opx_move rfl rfl) ?_
        by_cases c22 : (fcmp .lss .f32 x41 x42) = true
        ·rw [if_pos c22] at hy4
         refine HK.y 32 rfl rfl rfl rfl rfl c22 (by decide) (by decide +kernel) (fun _ _ _ h => h) (opx_fieldAddr rfl Try.fo37_0 rfl) ?_
         refine HK.y 33 rfl rfl rfl rfl rfl c22 (by decide) (by decide +kernel) (fun _ _ _ h => h) (opx_loadB rfl Try.one25 rfl (Sep.at (o := boxO bb4 [v12, v13, v14]) S_36 8 rfl) rfl) ?_
         refine HK.y 34 rfl rfl rfl rfl rfl c22 (by decide) (by decide +kernel) (fun _ _ _ h => h) (opx_move rfl rfl) ?_
         obtain ⟨x43, hx43, hy4⟩ := Option.bind_eq_some_iff.1 hy4
         refine HK.yf 35 rfl rfl rfl rfl rfl c22 (by decide) (by decide +kernel) (fun _ _ _ h => h) (opx_indexP rfl Try.underlying25 (by rw [Try.size29]; rfl) rfl rfl (ownO.read (Sep.at (o := ownO (kF .f32) 29 v12 x7.1) S_36 9 rfl)) hx43) ?_
         intro v49 fv49
         refine HK.yf 36 rfl rfl rfl rfl rfl c22 (by decide) (by decide +kernel) (fun _ _ _ h => h) (opx_loadF rfl Try.one29 rfl fv49 (ownO.read (Sep.at (o := ownO (kF .f32) 29 v12 x7.1) S_36 9 rfl)) hx43) ?_
         intro v50 fv50
         refine HK.y 37 rfl rfl rfl rfl rfl c22 (by decide) (by decide +kernel) (fun _ _ _ h => h) (opx_fcmp rfl rfl rfl rfl fv50 (isF_lit .f32 0 (by decide) (by decide))) ?_
         refine HK.y 38 rfl rfl rfl rfl rfl rfl (by decide) (by decide +kernel) (fun _ _ _ h => h) (opx_pick rfl rfl (fun _ => rfl) (fun e => absurd (Eq.trans (Eq.symm e) c22) (by decide)) rfl) ?_
         refine HK.d 39 rfl rfl rfl (by decide) (by decide +kernel) (fun _ _ _ h => h) (opx_pick rfl rfl (fun e => absurd (Eq.trans (Eq.symm e) rfl) (by decide)) (fun _ => rfl) rfl) ?_
         refine HK.done (by decide +kernel) ?_
         have ey4 := Option.some.inj hy4
         subst ey4
         refine onlyN ?_
         exact ⟨⟨rfl, rfl, rfl, rfl, rfl, rfl, rfl, rfl, rfl, rfl, rfl, rfl, rfl, rfl, rfl, rfl, rfl, rfl, rfl, rfl, rfl, rfl, rfl, rfl, rfl, rfl, rfl, rfl, rfl, rfl, rfl, trivial⟩, rfl⟩
        ·rw [if_neg c22] at hy4
         have c22 := eq_false_of_ne_true c22
         refine HK.n 32 rfl rfl rfl rfl rfl c22 (by decide) (by decide +kernel) (fun _ _ _ h => h) ?_
         refine HK.n 33 rfl rfl rfl rfl rfl c22 (by decide) (by decide +kernel) (fun _ _ _ h => h) ?_
         refine HK.n 34 rfl rfl rfl rfl rfl c22 (by decide) (by decide +kernel) (fun _ _ _ h => h) ?_
         refine HK.n 35 rfl rfl rfl rfl rfl c22 (by decide) (by decide +kernel) (fun _ _ _ h => h) ?_
         refine HK.n 36 rfl rfl rfl rfl rfl c22 (by decide) (by decide +kernel) (fun _ _ _ h => h) ?_
         refine HK.n 37 rfl rfl rfl rfl rfl c22 (by decide) (by decide +kernel) (fun _ _ _ h => h) ?_
         refine HK.y 38 rfl rfl rfl rfl rfl rfl (by decide) (by decide +kernel) (fun _ _ _ h => h) (opx_pick rfl rfl (fun e => absurd (Eq.trans (Eq.symm e) c22) (by decide)) (fun _ => rfl) rfl) ?_
         refine HK.d 39 rfl rfl rfl (by decide) (by decide +kernel) (fun _ _ _ h => h) (opx_pick rfl rfl (fun e => absurd (Eq.trans (Eq.symm e) rfl) (by decide)) (fun _ => rfl) rfl) ?_
         refine HK.done (by decide +kernel) ?_
         have ey4 := Option.some.inj hy4
         subst ey4
         refine onlyN ?_
         exact ⟨⟨rfl, rfl, rfl, rfl, rfl, rfl, rfl, rfl, rfl, rfl, rfl, rfl, rfl, rfl, rfl, rfl, rfl, rfl, rfl, rfl, rfl, rfl, rfl, rfl, rfl, rfl, rfl, rfl, rfl, rfl, rfl, trivial⟩, rfl⟩
      rintro φ' _ ⟨hs5, rfl⟩
      refine thnN ?_
      refine W.sub hs5 ?_
      by_cases c23 : x34 = true
      ·rw [if_pos c23] at ho1
       refine W.condT rfl c23 ?_
       refine W.seq ?_
       refine W.region ?_
       refine RL.opD (by decide) (opv_assign rfl rfl) ?_
       refine RL.nil ?_
       refine thnN ?_
       refine W.ret ?_
       refine thnR ?_
       refine blkR ?_
       refine thnR ?_
       have eo1 := Option.some.inj ho1
       subst eo1
       have ey2 := hy1 _ rfl
       subst ey2
       try dsimp only at hp
       refine rndR ?_
       refine blkR ?_
       refine onlyR ?_
       refine thnR ?_
       have er := Option.some.inj hp
       subst er
       exact Rt.one rfl rfl ⟨rfl, X_29, (Sep.nil _ _ _)⟩
      ·rw [if_neg c23] at ho1
       have c23 := eq_false_of_ne_true c23
       refine W.condF rfl c23 ?_
       refine W.skip ?_
       refine thnN ?_
       refine W.seq ?_
       refine W.region ?_
       refine RL.opD (by decide) (opv_assign rfl rfl) ?_
       refine RL.nil ?_
       refine thnN ?_
       refine W.seq ?_
       refine W.seq ?_
       refine W.region ?_
       refine RL.opD (by decide) (opv_move rfl rfl) ?_
       refine RL.opD (by decide) (opv_len rfl Try.underlying71 rfl (ownO.read (Sep.at (o := ownO (kI .i64) 2 v17 x11.1) S_36 4 rfl))) ?_
       refine RL.opD (by decide) (opv_move rfl rfl) ?_
       refine RL.nil ?_
       refine thnN ?_
       obtain ⟨y5, hy5, ho1⟩ := Option.bind_eq_some_iff.1 ho1
       refine W.cut (fun φ' h' => ∃ x46, ∃ x47, ∃ x48, y5 = (x46, x47, x48) ∧ Fr.sub [(0, u0), (1, u1), (30, (.bool x1)), (5, (.pointer (some ⟨bb1, 0, none⟩))), (6, (.pointer (some ⟨bb2, 0, none⟩))), (7, (.int .i64 (IntKind.wrap .i64 (1 + x4)))), (8, (.pointer (some ⟨bb3, 0, none⟩))), (9, (.bool x6.2.2.2.2.2)), (10, (.pointer (some ⟨bb4, 0, none⟩))), (11, (.bool x7.2.2.2)), (12, (.int .i64 x8)), (13, (.int .i64 (IntKind.wrap .i64 (x8 + x9)))), (14, (.pointer (some ⟨bb5, 0, none⟩))), (15, (.bool x10.2.2.2.2.2)), (16, v17), (17, (.bool x11.2)), (18, (.int .i64 x12)), (19, (.pointer (some ⟨bb6, 0, none⟩))), (20, (.bool x13.2.2.2.2.2)), (130, (.bool x14)), (133, (.int .i64 (x2.2.2.2.1.length : Int))), (4, (.bool x19)), (134, (.int .i64 x20)), (135, (.bool (decide (x20 < (x2.2.2.2.1.length : Int))))), (21, (.int .i64 x20)), (22, (.int .i64 (Int.tmod x20 x2.1))), (23, (.int .i64 (IntKind.wrap .i64 (Int.tdiv x20 x2.1)))), (24, (.int .i64 x24.1)), (25, (.bool x24.2)), (204, (.bool x25)), (244, (.bool x34)), (246, (.int .i64 (x11.1.length : Int))), (26, (.bool x46)), (247, (.int .i64 x47)), (248, (.bool x48))] φ' ∧ hp41 = h') ?_ ?_
       ·refine W.block ?_
        refine W.loopS (fun (s : (Bool × Int)) φ' h' => Fr.sub [(0, u0), (1, u1), (30, (.bool x1)), (5, (.pointer (some ⟨bb1, 0, none⟩))), (6, (.pointer (some ⟨bb2, 0, none⟩))), (7, (.int .i64 (IntKind.wrap .i64 (1 + x4)))), (8, (.pointer (some ⟨bb3, 0, none⟩))), (9, (.bool x6.2.2.2.2.2)), (10, (.pointer (some ⟨bb4, 0, none⟩))), (11, (.bool x7.2.2.2)), (12, (.int .i64 x8)), (13, (.int .i64 (IntKind.wrap .i64 (x8 + x9)))), (14, (.pointer (some ⟨bb5, 0, none⟩))), (15, (.bool x10.2.2.2.2.2)), (16, v17), (17, (.bool x11.2)), (18, (.int .i64 x12)), (19, (.pointer (some ⟨bb6, 0, none⟩))), (20, (.bool x13.2.2.2.2.2)), (130, (.bool x14)), (133, (.int .i64 (x2.2.2.2.1.length : Int))), (4, (.bool x19)), (134, (.int .i64 x20)), (135, (.bool (decide (x20 < (x2.2.2.2.1.length : Int))))), (21, (.int .i64 x20)), (22, (.int .i64 (Int.tmod x20 x2.1))), (23, (.int .i64 (IntKind.wrap .i64 (Int.tdiv x20 x2.1)))), (24, (.int .i64 x24.1)), (25, (.bool x24.2)), (204, (.bool x25)), (244, (.bool x34)), (246, (.int .i64 (x11.1.length : Int))), (26, (.bool s.1)), (247, (.int .i64 s.2))] φ' ∧ hp41 = h') hy5 ⟨⟨rfl, rfl, rfl, rfl, rfl, rfl, rfl, rfl, rfl, rfl, rfl, rfl, rfl, rfl, rfl, rfl, rfl, rfl, rfl, rfl, rfl, rfl, rfl, rfl, rfl, rfl, rfl, rfl, rfl, rfl, rfl, rfl, rfl, rfl, trivial⟩, rfl⟩ ?_
        rintro ⟨x44, x45⟩ φ' _ o2 ⟨hs6, rfl⟩ ho2 hy2
        have hs6 : Fr.sub [(0, u0), (1, u1), (30, (.bool x1)), (5, (.pointer (some ⟨bb1, 0, none⟩))), (6, (.pointer (some ⟨bb2, 0, none⟩))), (7, (.int .i64 (IntKind.wrap .i64 (1 + x4)))), (8, (.pointer (some ⟨bb3, 0, none⟩))), (9, (.bool x6.2.2.2.2.2)), (10, (.pointer (some ⟨bb4, 0, none⟩))), (11, (.bool x7.2.2.2)), (12, (.int .i64 x8)), (13, (.int .i64 (IntKind.wrap .i64 (x8 + x9)))), (14, (.pointer (some ⟨bb5, 0, none⟩))), (15, (.bool x10.2.2.2.2.2)), (16, v17), (17, (.bool x11.2)), (18, (.int .i64 x12)), (19, (.pointer (some ⟨bb6, 0, none⟩))), (20, (.bool x13.2.2.2.2.2)), (130, (.bool x14)), (133, (.int .i64 (x2.2.2.2.1.length : Int))), (4, (.bool x19)), (134, (.int .i64 x20)), (135, (.bool (decide (x20 < (x2.2.2.2.1.length : Int))))), (21, (.int .i64 x20)), (22, (.int .i64 (Int.tmod x20 x2.1))), (23, (.int .i64 (IntKind.wrap .i64 (Int.tdiv x20 x2.1)))), (24, (.int .i64 x24.1)), (25, (.bool x24.2)), (204, (.bool x25)), (244, (.bool x34)), (246, (.int .i64 (x11.1.length : Int))), (26, (.bool x44)), (247, (.int .i64 x45))] φ' := hs6
        have ho2 : laws_FnGraded.s1 x11 x20 x44 x45 = some o2 := ho2
        unfold laws_FnGraded.s1 at ho2
        refine W.sub hs6 ?_
        refine W.seq ?_
        refine W.region ?_
        refine RL.opD (by decide) (opv_icmp rfl rfl rfl rfl) ?_
        refine RL.nil ?_
        refine thnN ?_
        refine W.seq ?_
        by_cases c24 : (decide (x45 < (x11.1.length : Int))) = true
        ·rw [if_pos c24] at ho2
         refine W.condT rfl c24 ?_
         refine W.skip ?_
         refine thnN ?_
         refine W.seq ?_
         refine W.block ?_
         refine W.seq ?_
         refine W.region ?_
         refine RL.opD (by decide) (opv_move rfl rfl) ?_
         refine RL.opD (by decide) (opv_assign rfl rfl) ?_
         refine RL.nil ?_
         refine thnN ?_
         obtain ⟨x49, hy6, ho2⟩ := Option.bind_eq_some_iff.1 ho2
         refine W.cut (fun φ' h' => Fr.sub [(0, u0), (1, u1), (30, (.bool x1)), (5, (.pointer (some ⟨bb1, 0, none⟩))), (6, (.pointer (some ⟨bb2, 0, none⟩))), (7, (.int .i64 (IntKind.wrap .i64 (1 + x4)))), (8, (.pointer (some ⟨bb3, 0, none⟩))), (9, (.bool x6.2.2.2.2.2)), (10, (.pointer (some ⟨bb4, 0, none⟩))), (11, (.bool x7.2.2.2)), (12, (.int .i64 x8)), (13, (.int .i64 (IntKind.wrap .i64 (x8 + x9)))), (14, (.pointer (some ⟨bb5, 0, none⟩))), (15, (.bool x10.2.2.2.2.2)), (16, v17), (17, (.bool x11.2)), (18, (.int .i64 x12)), (19, (.pointer (some ⟨bb6, 0, none⟩))), (20, (.bool x13.2.2.2.2.2)), (130, (.bool x14)), (133, (.int .i64 (x2.2.2.2.1.length : Int))), (4, (.bool x19)), (134, (.int .i64 x20)), (135, (.bool (decide (x20 < (x2.2.2.2.1.length : Int))))), (21, (.int .i64 x20)), (22, (.int .i64 (Int.tmod x20 x2.1))), (23, (.int .i64 (IntKind.wrap .i64 (Int.tdiv x20 x2.1)))), (24, (.int .i64 x24.1)), (25, (.bool x24.2)), (204, (.bool x25)), (244, (.bool x34)), (246, (.int .i64 (x11.1.length : Int))), (247, (.int .i64 x45)), (248, (.bool (decide (x45 < (x11.1.length : Int))))), (27, (.int .i64 x45)), (26, (.bool x49))] φ' ∧ hp41 = h') ?_ ?_
         ·refine W.region ?_
          refine RL.opD (by decide) (opv_move rfl rfl) ?_
          refine RL.opD (by decide) (opv_move rfl rfl) ?_
          by_cases c25 : x44 = true
          ·rw [if_pos c25] at hy6
           refine RL.noT rfl rfl c25 (by decide) ?_
           refine RL.noT rfl rfl c25 (by decide) ?_
           refine RL.noT rfl rfl c25 (by decide) ?_
           refine RL.noT rfl rfl c25 (by decide) ?_
           refine RL.noT rfl rfl c25 (by decide) ?_
           refine RL.noT rfl rfl c25 (by decide) ?_
           refine RL.opD (by decide) (opv_pick rfl rfl (fun _ => rfl) (fun e => absurd (Eq.trans (Eq.symm e) c25) (by decide)) rfl) ?_
           refine RL.opD (by decide) (opv_assign rfl rfl) ?_
           refine RL.nil ?_
           have ey6 := Option.some.inj hy6
           subst ey6
           refine onlyN ?_
           exact ⟨⟨rfl, rfl, rfl, rfl, rfl, rfl, rfl, rfl, rfl, rfl, rfl, rfl, rfl, rfl, rfl, rfl, rfl, rfl, rfl, rfl, rfl, rfl, rfl, rfl, rfl, rfl, rfl, rfl, rfl, rfl, rfl, rfl, rfl, rfl, rfl, rfl, trivial⟩, rfl⟩
          ·rw [if_neg c25] at hy6
           have c25 := eq_false_of_ne_true c25
           refine RL.yesD rfl rfl c25 (by decide) (opv_move rfl rfl) ?_
           refine RL.yesD rfl rfl c25 (by decide) (opv_move rfl rfl) ?_
           obtain ⟨x50, hx50, hy6⟩ := Option.bind_eq_some_iff.1 hy6
           refine RL.yes _ rfl rfl c25 (by decide) (opv_index rfl Try.underlying71 (by rw [Try.size2]; rfl) rfl rfl (ownO.read (Sep.at (o := ownO (kI .i64) 2 v17 x11.1) S_36 4 rfl)) hx50) ?_
           rintro v51 _ ⟨fv51, rfl⟩
           refine RL.yesD rfl rfl c25 (by decide) (opv_loadI rfl Try.one2 rfl fv51 (ownO.read (Sep.at (o := ownO (kI .i64) 2 v17 x11.1) S_36 4 rfl)) hx50) ?_
           refine RL.yesD rfl rfl c25 (by decide) (opv_move rfl rfl) ?_
           refine RL.yesD rfl rfl c25 (by decide) (opv_icmp rfl rfl rfl rfl) ?_
           refine RL.opD (by decide) (opv_pick rfl rfl (fun e => absurd (Eq.trans (Eq.symm e) c25) (by decide)) (fun _ => rfl) rfl) ?_
           refine RL.opD (by decide) (opv_assign rfl rfl) ?_
           refine RL.nil ?_
           have ey6 := Option.some.inj hy6
           subst ey6
           refine onlyN ?_
           exact ⟨⟨rfl, rfl, rfl, rfl, rfl, rfl, rfl, rfl, rfl, rfl, rfl, rfl, rfl, rfl, rfl, rfl, rfl, rfl, rfl, rfl, rfl, rfl, rfl, rfl, rfl, rfl, rfl, rfl, rfl, rfl, rfl, rfl, rfl, rfl, rfl, rfl, trivial⟩, rfl⟩
         rintro φ' _ ⟨hs8, rfl⟩
         refine blkN ?_
         refine thnN ?_
         refine W.sub hs8 ?_
         refine W.region ?_
         refine RL.opD (by decide) (opv_add rfl rfl rfl) ?_
         refine RL.opD (by decide) (opv_move rfl rfl) ?_
         refine RL.nil ?_
         have eo2 := Option.some.inj ho2
         subst eo2
         refine rndN (s' := (x49, IntKind.wrap .i64 (x45 + 1))) rfl ?_
         exact ⟨⟨rfl, rfl, rfl, rfl, rfl, rfl, rfl, rfl, rfl, rfl, rfl, rfl, rfl, rfl, rfl, rfl, rfl, rfl, rfl, rfl, rfl, rfl, rfl, rfl, rfl, rfl, rfl, rfl, rfl, rfl, rfl, rfl, rfl, rfl, trivial⟩, rfl⟩
        ·rw [if_neg c24] at ho2
         have c24 := eq_false_of_ne_true c24
         refine W.condF rfl c24 ?_
         refine W.exit ?_
         refine thnX ?_
         refine rndX ?_
         refine blkI ?_
         have eo2 := Option.some.inj ho2
         subst eo2
         have ey5 := hy2 _ rfl
         subst ey5
         refine onlyN ?_
         exact ⟨x44, x45, decide (x45 < (x11.1.length : Int)), rfl, ⟨rfl, rfl, rfl, rfl, rfl, rfl, rfl, rfl, rfl, rfl, rfl, rfl, rfl, rfl, rfl, rfl, rfl, rfl, rfl, rfl, rfl, rfl, rfl, rfl, rfl, rfl, rfl, rfl, rfl, rfl, rfl, rfl, rfl, rfl, rfl, trivial⟩, rfl⟩
       rintro φ' _ ⟨x46, x47, x48, rfl, hs7, rfl⟩
       try dsimp only at ho1
       refine thnN ?_
       refine W.sub hs7 ?_
       refine W.seq ?_
       refine W.seq ?_
       obtain ⟨x51, hy7, ho1⟩ := Option.bind_eq_some_iff.1 ho1
       refine W.cut (fun φ' h' => Fr.sub [(0, u0), (1, u1), (30, (.bool x1)), (5, (.pointer (some ⟨bb1, 0, none⟩))), (6, (.pointer (some ⟨bb2, 0, none⟩))), (7, (.int .i64 (IntKind.wrap .i64 (1 + x4)))), (8, (.pointer (some ⟨bb3, 0, none⟩))), (9, (.bool x6.2.2.2.2.2)), (10, (.pointer (some ⟨bb4, 0, none⟩))), (11, (.bool x7.2.2.2)), (12, (.int .i64 x8)), (13, (.int .i64 (IntKind.wrap .i64 (x8 + x9)))), (14, (.pointer (some ⟨bb5, 0, none⟩))), (15, (.bool x10.2.2.2.2.2)), (16, v17), (17, (.bool x11.2)), (18, (.int .i64 x12)), (19, (.pointer (some ⟨bb6, 0, none⟩))), (20, (.bool x13.2.2.2.2.2)), (130, (.bool x14)), (133, (.int .i64 (x2.2.2.2.1.length : Int))), (4, (.bool x19)), (134, (.int .i64 x20)), (135, (.bool (decide (x20 < (x2.2.2.2.1.length : Int))))), (21, (.int .i64 x20)), (22, (.int .i64 (Int.tmod x20 x2.1))), (23, (.int .i64 (IntKind.wrap .i64 (Int.tdiv x20 x2.1)))), (24, (.int .i64 x24.1)), (25, (.bool x24.2)), (204, (.bool x25)), (244, (.bool x34)), (246, (.int .i64 (x11.1.length : Int))), (26, (.bool x46)), (247, (.int .i64 x47)), (248, (.bool x48)), (305, (.bool x51))] φ' ∧ hp41 = h') ?_ ?_
       ·refine W.regionH 46 rfl Try.mixed ?_
        refine HK.d 0 rfl rfl rfl (by decide) (by decide +kernel) (fun _ _ _ h => h) (opx_move rfl rfl) ?_
        refine HK.d 1 rfl rfl rfl (by decide) (by decide +kernel) (fun _ _ _ h => h) (opx_fieldAddr rfl Try.fo33_3 rfl) ?_
        refine HK.d 2 rfl rfl rfl (by decide) (by decide +kernel) (fun _ _ _ h => h) (opx_loadB rfl Try.one25 rfl (Sep.at (o := boxO bb5 [(.int .i64 x10.1), (.int .i64 x10.2.1), (.bool x10.2.2.1), v15, v16]) S_36 5 rfl) rfl) ?_
        refine HK.d 3 rfl rfl rfl (by decide) (by decide +kernel) (fun _ _ _ h => h) (opx_move rfl rfl) ?_
        obtain ⟨x52, hx52, hy7⟩ := Option.bind_eq_some_iff.1 hy7
        refine HK.f 4 rfl rfl rfl (by decide) (by decide +kernel) (fun _ _ _ h => h) (opx_indexP rfl Try.underlying25 (by rw [Try.size29]; rfl) rfl rfl (ownO.read (Sep.at (o := ownO (kF .f32) 29 v15 x10.2.2.2.1) S_36 6 rfl)) hx52) ?_
        intro v52 fv52
        refine HK.f 5 rfl rfl rfl (by decide) (by decide +kernel) (fun _ _ _ h => h) (opx_loadF rfl Try.one29 rfl fv52 (ownO.read (Sep.at (o := ownO (kF .f32) 29 v15 x10.2.2.2.1) S_36 6 rfl)) hx52) ?_
        intro v53 fv53
        refine HK.d 6 rfl rfl rfl (by decide) (by decide +kernel) (fun _ _ _ h => h) (opx_fcmp rfl rfl rfl rfl fv53 (isF_lit .f32 0 (by decide) (by decide))) ?_
        refine HK.d 7 rfl rfl rfl (by decide) (by decide +kernel) (fun _ _ _ h => h) (opx_bcmp rfl rfl Try.underlying4 rfl rfl) ?_
        refine HK.d 8 rfl rfl rfl (by decide) (by decide +kernel) (fun _ _ _ h => h) (opx_move rfl rfl) ?_
        by_cases c26 : (x46 != (fcmp .eql .f32 x52 (some 0))) = true
        ·rw [if_pos c26] at hy7
         refine HK.n 9 rfl rfl rfl rfl rfl c26 (by decide) (by decide +kernel) (fun _ _ _ h => h) ?_
         refine HK.n 10 rfl rfl rfl rfl rfl c26 (by decide) (by decide +kernel) (fun _ _ _ h => h) ?_
         refine HK.n 11 rfl rfl rfl rfl rfl c26 (by decide) (by decide +kernel) (fun _ _ _ h => h) ?_
         refine HK.n 12 rfl rfl rfl rfl rfl c26 (by decide) (by decide +kernel) (fun _ _ _ h => h) ?_
         refine HK.u 13 rfl rfl rfl rfl rfl (by decide) (by decide +kernel) (fun _ _ _ h => h) ?_
         refine HK.u 14 rfl rfl rfl rfl rfl (by decide) (by decide +kernel) (fun _ _ _ h => h) ?_
         refine HK.u 15 rfl rfl rfl rfl rfl (by decide) (by decide +kernel) (fun _ _ _ h => h) ?_
         refine HK.n 16 rfl rfl rfl rfl rfl c26 (by decide) (by decide +kernel) (fun _ _ _ h => h) ?_
         refine HK.n 17 rfl rfl rfl rfl rfl c26 (by decide) (by decide +kernel) (fun _ _ _ h => h) ?_
         refine HK.u 18 rfl rfl rfl rfl rfl (by decide) (by decide +kernel) (fun _ _ _ h => h) ?_
         refine HK.u 19 rfl rfl rfl rfl rfl (by decide) (by decide +kernel) (fun _ _ _ h => h) ?_
         refine HK.n 20 rfl rfl rfl rfl rfl c26 (by decide) (by decide +kernel) (fun _ _ _ h => h) ?_
         refine HK.d 21 rfl rfl rfl (by decide) (by decide +kernel) (fun _ _ _ h => h) (opx_pick rfl rfl (fun _ => rfl) (fun e => absurd (Eq.trans (Eq.symm e) c26) (by decide)) rfl) ?_
         refine HK.d 22 rfl rfl rfl (by decide) (by decide +kernel) (fun _ _ _ h => h) (opx_move rfl rfl) ?_
         refine HK.n 23 rfl rfl rfl rfl rfl rfl (by decide) (by decide +kernel) (fun _ _ _ h => h) ?_
         refine HK.n 24 rfl rfl rfl rfl rfl rfl (by decide) (by decide +kernel) (fun _ _ _ h => h) ?_
         refine HK.n 25 rfl rfl rfl rfl rfl rfl (by decide) (by decide +kernel) (fun _ _ _ h => h) ?_
         refine HK.n 26 rfl rfl rfl rfl rfl rfl (by decide) (by decide +kernel) (fun _ _ _ h => h) ?_
         refine HK.u 27 rfl rfl rfl rfl rfl (by decide) (by decide +kernel) (fun _ _ _ h => h) ?_
         refine HK.u 28 rfl rfl rfl rfl rfl (by decide) (by decide +kernel) (fun _ _ _ h => h) ?_
         refine HK.u 29 rfl rfl rfl rfl rfl (by decide) (by decide +kernel) (fun _ _ _ h => h) ?_
         refine HK.n 30 rfl rfl rfl rfl rfl rfl (by decide) (by decide +kernel) (fun _ _ _ h => h) ?_
         refine HK.n 31 rfl rfl rfl rfl rfl rfl (by decide) (by decide +kernel) (fun _ _ _ h => h) ?_
         refine HK.u 32 rfl rfl rfl rfl rfl (by decide) (by decide +kernel) (fun _ _ _ h => h) ?_
         refine HK.u 33 rfl rfl rfl rfl rfl (by decide) (by decide +kernel) (fun _ _ _ h => h) ?_
         refine HK.u 34 rfl rfl rfl rfl rfl (by decide) (by decide +kernel) (fun _ _ _ h => h) ?_
         refine HK.u 35 rfl rfl rfl rfl rfl (by decide) (by decide +kernel) (fun _ _ _ h => h) ?_
         refine HK.u 36 rfl rfl rfl rfl rfl (by decide) (by decide +kernel) (fun _ _ _ h => h) ?_
         refine HK.u 37 rfl rfl rfl rfl rfl (by decide) (by decide +kernel) (fun _ _ _ h => h) ?_
         refine HK.u 38 rfl rfl rfl rfl rfl (by decide) (by decide +kernel) (fun _ _ _ h => h) ?_
         refine HK.u 39 rfl rfl rfl rfl rfl (by decide) (by decide +kernel) (fun _ _ _ h => h) ?_
         refine HK.u 40 rfl rfl rfl rfl rfl (by decide) (by decide +kernel) (fun _ _ _ h => h) ?_
         refine HK.u 41 rfl rfl rfl rfl rfl (by decide) (by decide +kernel) (fun _ _ _ h => h) ?_
         refine HK.u 42 rfl rfl rfl rfl rfl (by decide) (by decide +kernel) (fun _ _ _ h => h) ?_
         refine HK.u 43 rfl rfl rfl rfl rfl (by decide) (by decide +kernel) (fun _ _ _ h => h) ?_
         refine HK.n 44 rfl rfl rfl rfl rfl rfl (by decide) (by decide +kernel) (fun _ _ _ h => h) ?_
         refine HK.d 45 rfl rfl rfl (by decide) (by decide +kernel) (fun _ _ _ h => h) (opx_pick rfl rfl (fun _ => rfl) (fun e => absurd (Eq.trans (Eq.symm e) rfl) (by decide)) rfl) ?_
         refine HK.done (by decide +kernel) ?_
         have ey7 := Option.some.inj hy7
         subst ey7
         refine onlyN ?_
         exact ⟨⟨rfl, rfl, rfl, rfl, rfl, rfl, rfl, rfl, rfl, rfl, rfl, rfl, rfl, rfl, rfl, rfl, rfl, rfl, rfl, rfl, rfl, rfl, rfl, rfl, rfl, rfl, rfl, rfl, rfl, rfl, rfl, rfl, rfl, rfl, rfl, rfl, trivial⟩, rfl⟩
        ·rw [if_neg c26] at hy7
         have c26 := eq_false_of_ne_true c26
         refine HK.y 9 rfl rfl rfl rfl rfl c26 (by decide) (by decide +kernel) (fun _ _ _ h => h) (opx_move rfl rfl) ?_
         refine HK.y 10 rfl rfl rfl rfl rfl c26 (by decide) (by decide +kernel) (fun _ _ _ h => h) (opx_move rfl rfl) ?_
         refine HK.y 11 rfl rfl rfl rfl rfl c26 (by decide) (by decide +kernel) (fun _ _ _ h => h) (opx_icmp rfl rfl rfl rfl) ?_
         refine HK.y 12 rfl rfl rfl rfl rfl c26 (by decide) (by decide +kernel) (fun _ _ _ h => h) (opx_move rfl rfl) ?_
         by_cases c27 : (decide ((IntKind.wrap .i64 (Int.tdiv x20 x2.1)) < x8)) = true
         ·rw [if_pos c27] at hy7
          refine HK.n 13 rfl rfl rfl rfl rfl c27 (by decide) (by decide +kernel) (fun _ _ _ h => h) ?_
          refine HK.n 14 rfl rfl rfl rfl rfl c27 (by decide) (by decide +kernel) (fun _ _ _ h => h) ?_
          refine HK.n 15 rfl rfl rfl rfl rfl c27 (by decide) (by decide +kernel) (fun _ _ _ h => h) ?_
          refine HK.y 16 rfl rfl rfl rfl rfl c26 (by decide) (by decide +kernel) (fun _ _ _ h => h) (opx_pick rfl rfl (fun _ => rfl) (fun e => absurd (Eq.trans (Eq.symm e) c27) (by decide)) rfl) ?_
          refine HK.y 17 rfl rfl rfl rfl rfl c26 (by decide) (by decide +kernel) (fun _ _ _ h => h) (opx_move rfl rfl) ?_
          refine HK.y 18 rfl rfl rfl rfl rfl rfl (by decide) (by decide +kernel) (fun _ _ _ h => h) (opx_move rfl rfl) ?_
          refine HK.y 19 rfl rfl rfl rfl rfl rfl (by decide) (by decide +kernel) (fun _ _ _ h => h) (opx_not rfl rfl) ?_
          refine HK.y 20 rfl rfl rfl rfl rfl c26 (by decide) (by decide +kernel) (fun _ _ _ h => h) (opx_pick rfl rfl (fun _ => rfl) (fun e => absurd (Eq.trans (Eq.symm e) rfl) (by decide)) rfl) ?_
          refine HK.d 21 rfl rfl rfl (by decide) (by decide +kernel) (fun _ _ _ h => h) (opx_pick rfl rfl (fun e => absurd (Eq.trans (Eq.symm e) c26) (by decide)) (fun _ => rfl) rfl) ?_
          refine HK.d 22 rfl rfl rfl (by decide) (by decide +kernel) (fun _ _ _ h => h) (opx_move rfl rfl) ?_
          by_cases c28 : (!x46) = true
          ·rw [if_pos c28] at hy7
           refine HK.n 23 rfl rfl rfl rfl rfl c28 (by decide) (by decide +kernel) (fun _ _ _ h => h) ?_
           refine HK.n 24 rfl rfl rfl rfl rfl c28 (by decide) (by decide +kernel) (fun _ _ _ h => h) ?_
           refine HK.n 25 rfl rfl rfl rfl rfl c28 (by decide) (by decide +kernel) (fun _ _ _ h => h) ?_
           refine HK.n 26 rfl rfl rfl rfl rfl c28 (by decide) (by decide +kernel) (fun _ _ _ h => h) ?_
           refine HK.u 27 rfl rfl rfl rfl rfl (by decide) (by decide +kernel) (fun _ _ _ h => h) ?_
           refine HK.u 28 rfl rfl rfl rfl rfl (by decide) (by decide +kernel) (fun _ _ _ h => h) ?_
           refine HK.u 29 rfl rfl rfl rfl rfl (by decide) (by decide +kernel) (fun _ _ _ h => h) ?_
           refine HK.n 30 rfl rfl rfl rfl rfl c28 (by decide) (by decide +kernel) (fun _ _ _ h => h) ?_
           refine HK.n 31 rfl rfl rfl rfl rfl c28 (by decide) (by decide +kernel) (fun _ _ _ h => h) ?_
           refine HK.u 32 rfl rfl rfl rfl rfl (by decide) (by decide +kernel) (fun _ _ _ h => h) ?_
           refine HK.u 33 rfl rfl rfl rfl rfl (by decide) (by decide +kernel) (fun _ _ _ h => h) ?_
           refine HK.u 34 rfl rfl rfl rfl rfl (by decide) (by decide +kernel) (fun _ _ _ h => h) ?_
           refine HK.u 35 rfl rfl rfl rfl rfl (by decide) (by decide +kernel) (fun _ _ _ h => h) ?_
           refine HK.u 36 rfl rfl rfl rfl rfl (by decide) (by decide +kernel) (fun _ _ _ h => h) ?_
           refine HK.u 37 rfl rfl rfl rfl rfl (by decide) (by decide +kernel) (fun _ _ _ h => h) ?_
           refine HK.u 38 rfl rfl rfl rfl rfl (by decide) (by decide +kernel) (fun _ _ _ h => h) ?_
           refine HK.u 39 rfl rfl rfl rfl rfl (by decide) (by decide +kernel) (fun _ _ _ h => h) ?_
           refine HK.u 40 rfl rfl rfl rfl rfl (by decide) (by decide +kernel) (fun _ _ _ h => h) ?_
           refine HK.u 41 rfl rfl rfl rfl rfl (by decide) (by decide +kernel) (fun _ _ _ h => h) ?_
           refine HK.u 42 rfl rfl rfl rfl rfl (by decide) (by decide +kernel) (fun _ _ _ h => h) ?_
           refine HK.u 43 rfl rfl rfl rfl rfl (by decide) (by decide +kernel) (fun _ _ _ h => h) ?_
           refine HK.n 44 rfl rfl rfl rfl rfl c28 (by decide) (by decide +kernel) (fun _ _ _ h => h) ?_
           refine HK.d 45 rfl rfl rfl (by decide) (by decide +kernel) (fun _ _ _ h => h) (opx_pick rfl rfl (fun _ => rfl) (fun e => absurd (Eq.trans (Eq.symm e) c28) (by decide)) rfl) ?_
           refine HK.done (by decide +kernel) ?_
           have ey7 := Option.some.inj hy7
           subst ey7
           refine onlyN ?_
           exact ⟨⟨rfl, rfl, rfl, rfl, rfl, rfl, rfl, rfl, rfl, rfl, rfl, rfl, rfl, rfl, rfl, rfl, rfl, rfl, rfl, rfl, rfl, rfl, rfl, rfl, rfl, rfl, rfl, rfl, rfl, rfl, rfl, rfl, rfl, rfl, rfl, rfl, trivial⟩, rfl⟩
          ·rw [if_neg c28] at hy7
           have c28 := eq_false_of_ne_true c28
           refine HK.y 23 rfl rfl rfl rfl rfl c28 (by decide) (by decide +kernel) (fun _ _ _ h => h) (opx_move rfl rfl) ?_
           refine HK.y 24 rfl rfl rfl rfl rfl c28 (by decide) (by decide +kernel) (fun _ _ _ h => h) (opx_move rfl rfl) ?_
           refine HK.y 25 rfl rfl rfl rfl rfl c28 (by decide) (by decide +kernel) (fun _ _ _ h => h) (opx_icmp rfl rfl rfl rfl) ?_
           refine HK.y 26 rfl rfl rfl rfl rfl c28 (by decide) (by decide +kernel) (fun _ _ _ h => h) (opx_move rfl rfl) ?_
           by_cases c29 : (decide ((IntKind.wrap .i64 (Int.tdiv x20 x2.1)) ≥ x8)) = true
           ·rw [if_pos c29] at hy7
            refine HK.y 27 rfl rfl rfl rfl rfl c29 (by decide) (by decide +kernel) (fun _ _ _ h => h) (opx_move rfl rfl) ?_
            refine HK.y 28 rfl rfl rfl rfl rfl c29 (by decide) (by decide +kernel) (fun _ _ _ h => h) (opx_move rfl rfl) ?_
            refine HK.y 29 rfl rfl rfl rfl rfl c29 (by decide) (by decide +kernel) (fun _ _ _ h => h) (opx_icmp rfl rfl rfl rfl) ?_
            refine HK.y 30 rfl rfl rfl rfl rfl c28 (by decide) (by decide +kernel) (fun _ _ _ h => h) (opx_pick rfl rfl (fun _ => rfl) (fun e => absurd (Eq.trans (Eq.symm e) c29) (by decide)) rfl) ?_
            refine HK.y 31 rfl rfl rfl rfl rfl c28 (by decide) (by decide +kernel) (fun _ _ _ h => h) (opx_move rfl rfl) ?_
            by_cases c30 : (decide ((IntKind.wrap .i64 (Int.tdiv x20 x2.1)) ≤ (IntKind.wrap .i64 (x8 + x9)))) = true
            ·rw [if_pos c30] at hy7
             refine HK.y 32 rfl rfl rfl rfl rfl c30 (by decide) (by decide +kernel) (fun _ _ _ h => h) (opx_fieldAddr rfl Try.fo33_3 rfl) ?_
             refine HK.y 33 rfl rfl rfl rfl rfl c30 (by decide) (by decide +kernel) (fun _ _ _ h => h) (opx_loadB rfl Try.one25 rfl (Sep.at (o := boxO bb5 [(.int .i64 x10.1), (.int .i64 x10.2.1), (.bool x10.2.2.1), v15, v16]) S_36 5 rfl) rfl) ?_
             refine HK.y 34 rfl rfl rfl rfl rfl c30 (by decide) (by decide +kernel) (fun _ _ _ h => h) (opx_move rfl rfl) ?_
             obtain ⟨x53, hx53, hy7⟩ := Option.bind_eq_some_iff.1 hy7
             refine HK.yf 35 rfl rfl rfl rfl rfl c30 (by decide) (by decide +kernel) (fun _ _ _ h => h) (opx_indexP rfl Try.underlying25 (by rw [Try.size29]; rfl) rfl rfl (ownO.read (Sep.at (o := ownO (kF .f32) 29 v15 x10.2.2.2.1) S_36 6 rfl)) hx53) ?_
             intro v54 fv54
             refine HK.yf 36 rfl rfl rfl rfl rfl c30 (by decide) (by decide +kernel) (fun _ _ _ h => h) (opx_loadF rfl Try.one29 rfl fv54 (ownO.read (Sep.at (o := ownO (kF .f32) 29 v15 x10.2.2.2.1) S_36 6 rfl)) hx53) ?_
             intro v55 fv55
             refine HK.y 37 rfl rfl rfl rfl rfl c30 (by decide) (by decide +kernel) (fun _ _ _ h => h) (opx_fieldAddr rfl Try.fo33_3 rfl) ?_
             refine HK.y 38 rfl rfl rfl rfl rfl c30 (by decide) (by decide +kernel) (fun _ _ _ h => h) (opx_loadB rfl Try.one25 rfl (Sep.at (o := boxO bb1 [(.int .i64 x2.1), (.int .i64 x2.2.1), (.bool x2.2.2.1), v1, v2]) S_36 19 rfl) rfl) ?_
             refine HK.y 39 rfl rfl rfl rfl rfl c30 (by decide) (by decide +kernel) (fun _ _ _ h => h) (opx_move rfl rfl) ?_
             obtain ⟨x54, hx54, hy7⟩ := Option.bind_eq_some_iff.1 hy7
             refine HK.yf 40 rfl rfl rfl rfl rfl c30 (by decide) (by decide +kernel) (fun _ _ _ h => h) (opx_indexP rfl Try.underlying25 (by rw [Try.size29]; rfl) rfl rfl (ownO.read (Sep.at (o := ownO (kF .f32) 29 v1 x2.2.2.2.1) S_36 20 rfl)) hx54) ?_
             intro v56 fv56
             refine HK.yf 41 rfl rfl rfl rfl rfl c30 (by decide) (by decide +kernel) (fun _ _ _ h => h) (opx_loadF rfl Try.one29 rfl fv56 (ownO.read (Sep.at (o := ownO (kF .f32) 29 v1 x2.2.2.2.1) S_36 20 rfl)) hx54) ?_
             intro v57 fv57
             obtain ⟨x55, hx55, hy7⟩ := Option.bind_eq_some_iff.1 hy7
             refine HK.sy 42 _ rfl rfl rfl rfl rfl c30 (by decide) (by decide +kernel) (opv_call (cap := []) (spec_SameNumber_ok _ _ _ fv55 _ _ fv57 _ hx55) rfl rfl ⟨rfl, rfl, trivial⟩ Try.func48 rfl rfl) ?_
             rintro _ _ ⟨rfl, rfl⟩
             refine ⟨rfl, ?_⟩
             refine HK.y 43 rfl rfl rfl rfl rfl c30 (by decide) (by decide +kernel) (fun _ _ _ h => h) (opx_not rfl rfl) ?_
             refine HK.y 44 rfl rfl rfl rfl rfl c28 (by decide) (by decide +kernel) (fun _ _ _ h => h) (opx_pick rfl rfl (fun _ => rfl) (fun e => absurd (Eq.trans (Eq.symm e) c30) (by decide)) rfl) ?_
             refine HK.d 45 rfl rfl rfl (by decide) (by decide +kernel) (fun _ _ _ h => h) (opx_pick rfl rfl (fun e => absurd (Eq.trans (Eq.symm e) c28) (by decide)) (fun _ => rfl) rfl) ?_
             refine HK.done (by decide +kernel) ?_
             have ey7 := Option.some.inj hy7
             subst ey7
             refine onlyN ?_
             exact ⟨⟨rfl, rfl, rfl, rfl, rfl, rfl, rfl, rfl, rfl, rfl, rfl, rfl, rfl, rfl, rfl, rfl, rfl, rfl, rfl, rfl, rfl, rfl, rfl, rfl, rfl, rfl, rfl, rfl, rfl, rfl, rfl, rfl, rfl, rfl, rfl, rfl, trivial⟩, rfl⟩
            ·rw [if_neg c30] at hy7
             have c30 := eq_false_of_ne_true c30
             refine HK.n 32 rfl rfl rfl rfl rfl c30 (by decide) (by decide +kernel) (fun _ _ _ h => h) ?_
             refine HK.n 33 rfl rfl rfl rfl rfl c30 (by decide) (by decide +kernel) (fun _ _ _ h => h) ?_
             refine HK.n 34 rfl rfl rfl rfl rfl c30 (by decide) (by decide +kernel) (fun _ _ _ h => h) ?_
             refine HK.n 35 rfl rfl rfl rfl rfl c30 (by decide) (by decide +kernel) (fun _ _ _ h => h) ?_
             refine HK.n 36 rfl rfl rfl rfl rfl c30 (by decide) (by decide +kernel) (fun _ _ _ h => h) ?_
             refine HK.n 37 rfl rfl rfl rfl rfl c30 (by decide) (by decide +kernel) (fun _ _ _ h => h) ?_
             refine HK.n 38 rfl rfl rfl rfl rfl c30 (by decide) (by decide +kernel) (fun _ _ _ h => h) ?_
             refine HK.n 39 rfl rfl rfl rfl rfl c30 (by decide) (by decide +kernel) (fun _ _ _ h => h) ?_
             refine HK.n 40 rfl rfl rfl rfl rfl c30 (by decide) (by decide +kernel) (fun _ _ _ h => h) ?_
             refine HK.n 41 rfl rfl rfl rfl rfl c30 (by decide) (by decide +kernel) (fun _ _ _ h => h) ?_
             refine HK.n 42 rfl rfl rfl rfl rfl c30 (by decide) (by decide +kernel) (fun _ _ _ h => h) ?_
             refine HK.n 43 rfl rfl rfl rfl rfl c30 (by decide) (by decide +kernel) (fun _ _ _ h => h) ?_
             refine HK.y 44 rfl rfl rfl rfl rfl c28 (by decide) (by decide +kernel) (fun _ _ _ h => h) (opx_pick rfl rfl (fun e => absurd (Eq.trans (Eq.symm e) c30) (by decide)) (fun _ => rfl) rfl) ?_
             refine HK.d 45 rfl rfl rfl (by decide) (by decide +kernel) (fun _ _ _ h => h) (opx_pick rfl rfl (fun e => absurd (Eq.trans (Eq.symm e) c28) (by decide)) (fun _ => rfl) rfl) ?_
             refine HK.done (by decide +kernel) ?_
             have ey7 := Option.some.inj hy7
             subst ey7
             refine onlyN ?_
             exact ⟨⟨rfl, rfl, rfl, rfl, rfl, rfl, rfl, rfl, rfl, rfl, rfl, rfl, rfl, rfl, rfl, rfl, rfl, rfl, rfl, rfl, rfl, rfl, rfl, rfl, rfl, rfl, rfl, rfl, rfl, rfl, rfl, rfl, rfl, rfl, rfl, rfl, trivial⟩, rfl⟩
           ·rw [if_neg c29] at hy7
            have c29 := eq_false_of_ne_true c29
            refine HK.n 27 rfl rfl rfl rfl rfl c29 (by decide) (by decide +kernel) (fun _ _ _ h => h) ?_
            refine HK.n 28 rfl rfl rfl rfl rfl c29 (by decide) (by decide +kernel) (fun _ _ _ h => h) ?_
            refine HK.n 29 rfl rfl rfl rfl rfl c29 (by decide) (by decide +kernel) (fun _ _ _ h => h) ?_
            refine HK.y 30 rfl rfl rfl rfl rfl c28 (by decide) (by decide +kernel) (fun _ _ _ h => h) (opx_pick rfl rfl (fun e => absurd (Eq.trans (Eq.symm e) c29) (by decide)) (fun _ => rfl) rfl) ?_
            refine HK.y 31 rfl rfl rfl rfl rfl c28 (by decide) (by decide +kernel) (fun _ _ _ h => h) (opx_move rfl rfl) ?_
            refine HK.n 32 rfl rfl rfl rfl rfl rfl (by decide) (by decide +kernel) (fun _ _ _ h => h) ?_
            refine HK.n 33 rfl rfl rfl rfl rfl rfl (by decide) (by decide +kernel) (fun _ _ _ h => h) ?_
            refine HK.n 34 rfl rfl rfl rfl rfl rfl (by decide) (by decide +kernel) (fun _ _ _ h => h) ?_
            refine HK.n 35 rfl rfl rfl rfl rfl rfl (by decide) (by decide +kernel) (fun _ _ _ h => h) ?_
            refine HK.n 36 rfl rfl rfl rfl rfl rfl (by decide) (by decide +kernel) (fun _ _ _ h => h) ?_
            refine HK.n 37 rfl rfl rfl rfl rfl rfl (by decide) (by decide +kernel) (fun _ _ _ h => h) ?_
            refine HK.n 38 rfl rfl rfl rfl rfl rfl (by decide) (by decide +kernel) (fun _ _ _ h => h) ?_
            refine HK.n 39 rfl rfl rfl rfl rfl rfl (by decide) (by decide +kernel) (fun _ _ _ h => h) ?_
            refine HK.n 40 rfl rfl rfl rfl rfl rfl (by decide) (by decide +kernel) (fun _ _ _ h => h) ?_
            refine HK.n 41 rfl rfl rfl rfl rfl rfl (by decide) (by decide +kernel) (fun _ _ _ h => h) ?_
            refine HK.n 42 rfl rfl rfl rfl rfl rfl (by decide) (by decide +kernel) (fun _ _ _ h => h) ?_
            refine HK.n 43 rfl rfl rfl rfl rfl rfl (by decide) (by decide +kernel) (fun _ _ _ h => h) ?_
            refine HK.y 44 rfl rfl rfl rfl rfl c28 (by decide) (by decide +kernel) (fun _ _ _ h => h) (opx_pick rfl rfl (fun e => absurd (Eq.trans (Eq.symm e) rfl) (by decide)) (fun _ => rfl) rfl) ?_
            refine HK.d 45 rfl rfl rfl (by decide) (by decide +kernel) (fun _ _ _ h => h) (opx_pick rfl rfl (fun e => absurd (Eq.trans (Eq.symm e) c28) (by decide)) (fun _ => rfl) rfl) ?_
            refine HK.done (by decide +kernel) ?_
            have ey7 := Option.some.inj hy7
            subst ey7
            refine onlyN ?_
            exact ⟨⟨rfl, rfl, rfl, rfl, rfl, rfl, rfl, rfl, rfl, rfl, rfl, rfl, rfl, rfl, rfl, rfl, rfl, rfl, rfl, rfl, rfl, rfl, rfl, rfl, rfl, rfl, rfl, rfl, rfl, rfl, rfl, rfl, rfl, rfl, rfl, rfl, trivial⟩, rfl⟩
         ·rw [if_neg c27] at hy7
          have c27 := eq_false_of_ne_true c27
          refine HK.y 13 rfl rfl rfl rfl rfl c27 (by decide) (by decide +kernel) (fun _ _ _ h => h) (opx_move rfl rfl) ?_
          refine HK.y 14 rfl rfl rfl rfl rfl c27 (by decide) (by decide +kernel) (fun _ _ _ h => h) (opx_move rfl rfl) ?_
          refine HK.y 15 rfl rfl rfl rfl rfl c27 (by decide) (by decide +kernel) (fun _ _ _ h => h) (opx_icmp rfl rfl rfl rfl) ?_
          refine HK.y 16 rfl rfl rfl rfl rfl c26 (by decide) (by decide +kernel) (fun _ _ _ h => h) (opx_pick rfl rfl (fun e => absurd (Eq.trans (Eq.symm e) c27) (by decide)) (fun _ => rfl) rfl) ?_
          refine HK.y 17 rfl rfl rfl rfl rfl c26 (by decide) (by decide +kernel) (fun _ _ _ h => h) (opx_move rfl rfl) ?_
          by_cases c31 : (decide ((IntKind.wrap .i64 (Int.tdiv x20 x2.1)) > (IntKind.wrap .i64 (x8 + x9)))) = true
          ·rw [if_pos c31] at hy7
           refine HK.y 18 rfl rfl rfl rfl rfl c31 (by decide) (by decide +kernel) (fun _ _ _ h => h) (opx_move rfl rfl) ?_
           refine HK.y 19 rfl rfl rfl rfl rfl c31 (by decide) (by decide +kernel) (fun _ _ _ h => h) (opx_not rfl rfl) ?_
           refine HK.y 20 rfl rfl rfl rfl rfl c26 (by decide) (by decide +kernel) (fun _ _ _ h => h) (opx_pick rfl rfl (fun _ => rfl) (fun e => absurd (Eq.trans (Eq.symm e) c31) (by decide)) rfl) ?_
           refine HK.d 21 rfl rfl rfl (by decide) (by decide +kernel) (fun _ _ _ h => h) (opx_pick rfl rfl (fun e => absurd (Eq.trans (Eq.symm e) c26) (by decide)) (fun _ => rfl) rfl) ?_
           refine HK.d 22 rfl rfl rfl (by decide) (by decide +kernel) (fun _ _ _ h => h) (opx_move rfl rfl) ?_
           by_cases c32 : (!x46) = true
           ·rw [if_pos c32] at hy7
            refine HK.n 23 rfl rfl rfl rfl rfl c32 (by decide) (by decide +kernel) (fun _ _ _ h => h) ?_
            refine HK.n 24 rfl rfl rfl rfl rfl c32 (by decide) (by decide +kernel) (fun _ _ _ h => h) ?_
            refine HK.n 25 rfl rfl rfl rfl rfl c32 (by decide) (by decide +kernel) (fun _ _ _ h => h) ?_
            refine HK.n 26 rfl rfl rfl rfl rfl c32 (by decide) (by decide +kernel) (fun _ _ _ h => h) ?_
            refine HK.u 27 rfl rfl rfl rfl rfl (by decide) (by decide +kernel) (fun _ _ _ h => h) ?_
            refine HK.u 28 rfl rfl rfl rfl rfl (by decide) (by decide +kernel) (fun _ _ _ h => h) ?_
            refine HK.u 29 rfl rfl rfl rfl rfl (by decide) (by decide +kernel) (fun _ _ _ h => h) ?_
            refine HK.n 30 rfl rfl rfl rfl rfl c32 (by decide) (by decide +kernel) (fun _ _ _ h => h) ?_
            refine HK.n 31 rfl rfl rfl rfl rfl c32 (by decide) (by decide +kernel) (fun _ _ _ h => h) ?_
            refine HK.u 32 rfl rfl rfl rfl rfl (by decide) (by decide +kernel) (fun _ _ _ h => h) ?_
            refine HK.u 33 rfl rfl rfl rfl rfl (by decide) (by decide +kernel) (fun _ _ _ h => h) ?_
            refine HK.u 34 rfl rfl rfl rfl rfl (by decide) (by decide +kernel) (fun _ _ _ h => h) ?_
            refine HK.u 35 rfl rfl rfl rfl rfl (by decide) (by decide +kernel) (fun _ _ _ h => h) ?_
            refine HK.u 36 rfl rfl rfl rfl rfl (by decide) (by decide +kernel) (fun _ _ _ h => h) ?_
            refine HK.u 37 rfl rfl rfl rfl rfl (by decide) (by decide +kernel) (fun _ _ _ h => h) ?_
            refine HK.u 38 rfl rfl rfl rfl rfl (by decide) (by decide +kernel) (fun _ _ _ h => h) ?_
            refine HK.u 39 rfl rfl rfl rfl rfl (by decide) (by decide +kernel) (fun _ _ _ h => h) ?_
            refine HK.u 40 rfl rfl rfl rfl rfl (by decide) (by decide +kernel) (fun _ _ _ h => h) ?_
            refine HK.u 41 rfl rfl rfl rfl rfl (by decide) (by decide +kernel) (fun _ _ _ h => h) ?_
            refine HK.u 42 rfl rfl rfl rfl rfl (by decide) (by decide +kernel) (fun _ _ _ h => h) ?_
            refine HK.u 43 rfl rfl rfl rfl rfl (by decide) (by decide +kernel) (fun _ _ _ h => h) ?_
            refine HK.n 44 rfl rfl rfl rfl rfl c32 (by decide) (by decide +kernel) (fun _ _ _ h => h) ?_
            refine HK.d 45 rfl rfl rfl (by decide) (by decide +kernel) (fun _ _ _ h => h) (opx_pick rfl rfl (fun _ => rfl) (fun e => absurd (Eq.trans (Eq.symm e) c32) (by decide)) rfl) ?_
            refine HK.done (by decide +kernel) ?_
            have ey7 := Option.some.inj hy7
            subst ey7
            refine onlyN ?_
            exact ⟨⟨rfl, rfl, rfl, rfl, rfl, rfl, rfl, rfl, rfl, rfl, rfl, rfl, rfl, rfl, rfl, rfl, rfl, rfl, rfl, rfl, rfl, rfl, rfl, rfl, rfl, rfl, rfl, rfl, rfl, rfl, rfl, rfl, rfl, rfl, rfl, rfl, trivial⟩, rfl⟩
           ·rw [if_neg c32] at hy7
            have c32 := eq_false_of_ne_true c32
            refine HK.y 23 rfl rfl rfl rfl rfl c32 (by decide) (by decide +kernel) (fun _ _ _ h => h) (opx_move rfl rfl) ?_
            refine HK.y 24 rfl rfl rfl rfl rfl c32 (by decide) (by decide +kernel) (fun _ _ _ h => h) (opx_move rfl rfl) ?_
            refine HK.y 25 rfl rfl rfl rfl rfl c32 (by decide) (by decide +kernel) (fun _ _ _ h => h) (opx_icmp rfl rfl rfl rfl) ?_
            refine HK.y 26 rfl rfl rfl rfl rfl c32 (by decide) (by decide +kernel) (fun _ _ _ h => h) (opx_move rfl rfl) ?_
            by_cases c33 : (decide ((IntKind.wrap .i64 (Int.tdiv x20 x2.1)) ≥ x8)) = true
            ·rw [if_pos c33] at hy7
             refine HK.y 27 rfl rfl rfl rfl rfl c33 (by decide) (by decide +kernel) (fun _ _ _ h => h) (opx_move rfl rfl) ?_
             refine HK.y 28 rfl rfl rfl rfl rfl c33 (by decide) (by decide +kernel) (fun _ _ _ h => h) (opx_move rfl rfl) ?_
             refine HK.y 29 rfl rfl rfl rfl rfl c33 (by decide) (by decide +kernel) (fun _ _ _ h => h) (opx_icmp rfl rfl rfl rfl) ?_
             refine HK.y 30 rfl rfl rfl rfl rfl c32 (by decide) (by decide +kernel) (fun _ _ _ h => h) (opx_pick rfl rfl (fun _ => rfl) (fun e => absurd (Eq.trans (Eq.symm e) c33) (by decide)) rfl) ?_
             refine HK.y 31 rfl rfl rfl rfl rfl c32 (by decide) (by decide +kernel) (fun _ _ _ h => h) (opx_move rfl rfl) ?_
             by_cases c34 : (decide ((IntKind.wrap .i64 (Int.tdiv x20 x2.1)) ≤ (IntKind.wrap .i64 (x8 + x9)))) = true
             ·rw [if_pos c34] at hy7
              refine HK.y 32 rfl rfl rfl rfl rfl c34 (by decide) (by decide +kernel) (fun _ _ _ h => h) (opx_fieldAddr rfl Try.fo33_3 rfl) ?_
              refine HK.y 33 rfl rfl rfl rfl rfl c34 (by decide) (by decide +kernel) (fun _ _ _ h => h) (opx_loadB rfl Try.one25 rfl (Sep.at (o := boxO bb5 [(.int .i64 x10.1), (.int .i64 x10.2.1), (.bool x10.2.2.1), v15, v16]) S_36 5 rfl) rfl) ?_
              refine HK.y 34 rfl rfl rfl rfl rfl c34 (by decide) (by decide +kernel) (fun _ _ _ h => h) (opx_move rfl rfl) ?_
              obtain ⟨x56, hx56, hy7⟩ := Option.bind_eq_some_iff.1 hy7
              refine HK.yf 35 rfl rfl rfl rfl rfl c34 (by decide) (by decide +kernel) (fun _ _ _ h => h) (opx_indexP rfl Try.underlying25 (by rw [Try.size29]; rfl) rfl rfl (ownO.read (Sep.at (o := ownO (kF .f32) 29 v15 x10.2.2.2.1) S_36 6 rfl)) hx56) ?_
              intro v58 fv58
              refine HK.yf 36 rfl rfl rfl rfl rfl c34 (by decide) (by decide +kernel) (fun _ _ _ h => h) (opx_loadF rfl Try.one29 rfl fv58 (ownO.read (Sep.at (o := ownO (kF .f32) 29 v15 x10.2.2.2.1) S_36 6 rfl)) hx56) ?_
              intro v59 fv59
              refine HK.y 37 rfl rfl rfl rfl rfl c34 (by decide) (by decide +kernel) (fun _ _ _ h => h) (opx_fieldAddr rfl Try.fo33_3 rfl) ?_
              refine HK.y 38 rfl rfl rfl rfl rfl c34 (by decide) (by decide +kernel) (fun _ _ _ h => h) (opx_loadB rfl Try.one25 rfl (Sep.at (o := boxO bb1 [(.int .i64 x2.1), (.int .i64 x2.2.1), (.bool x2.2.2.1), v1, v2]) S_36 19 rfl) rfl) ?_
              refine HK.y 39 rfl rfl rfl rfl rfl c34 (by decide) (by decide +kernel) (fun _ _ _ h => h) (opx_move rfl rfl) ?_
              obtain ⟨x57, hx57, hy7⟩ := Option.bind_eq_some_iff.1 hy7
              refine HK.yf 40 rfl rfl rfl rfl rfl c34 (by decide) (by decide +kernel) (fun _ _ _ h => h) (opx_indexP rfl Try.underlying25 (by rw [Try.size29]; rfl) rfl rfl (ownO.read (Sep.at (o := ownO (kF .f32) 29 v1 x2.2.2.2.1) S_36 20 rfl)) hx57) ?_
              intro v60 fv60
              refine HK.yf 41 rfl rfl rfl rfl rfl c34 (by decide) (by decide +kernel) (fun _ _ _ h => h) (opx_loadF rfl Try.one29 rfl fv60 (ownO.read (Sep.at (o := ownO (kF .f32) 29 v1 x2.2.2.2.1) S_36 20 rfl)) hx57) ?_
              intro v61 fv61
              obtain ⟨x58, hx58, hy7⟩ := Option.bind_eq_some_iff.1 hy7
              refine HK.sy 42 _ rfl rfl rfl rfl rfl c34 (by decide) (by decide +kernel) (opv_call (cap := []) (spec_SameNumber_ok _ _ _ fv59 _ _ fv61 _ hx58) rfl rfl ⟨rfl, rfl, trivial⟩ Try.func48 rfl rfl) ?_
              rintro _ _ ⟨rfl, rfl⟩
              refine ⟨rfl, ?_⟩
              refine HK.y 43 rfl rfl rfl rfl rfl c34 (by decide) (by decide +kernel) (fun _ _ _ h => h) (opx_not rfl rfl) ?_
              refine HK.y 44 rfl rfl rfl rfl rfl c32 (by decide) (by decide +kernel) (fun _ _ _ h => h) (opx_pick rfl rfl (fun _ => rfl) (fun e => absurd (Eq.trans (Eq.symm e) c34) (by decide)) rfl) ?_
              refine HK.d 45 rfl rfl rfl (by decide) (by decide +kernel) (fun _ _ _ h => h) (opx_pick rfl rfl (fun e => absurd (Eq.trans (Eq.symm e) c32) (by decide)) (fun _ => rfl) rfl) ?_
              refine HK.done (by decide +kernel) ?_
              have ey7 := Option.some.inj hy7
              subst ey7
              refine onlyN ?_
              exact ⟨⟨rfl, rfl, rfl, rfl, rfl, rfl, rfl, rfl, rfl, rfl, rfl, rfl, rfl, rfl, rfl, rfl, rfl, rfl, rfl, rfl, rfl, rfl, rfl, rfl, rfl, rfl, rfl, rfl, rfl, rfl, rfl, rfl, rfl, rfl, rfl, rfl, trivial⟩, rfl⟩
             ·rw [if_neg c34] at hy7
              have c34 := eq_false_of_ne_true c34
              refine HK.n 32 rfl rfl rfl rfl rfl c34 (by decide) (by decide +kernel) (fun _ _ _ h => h) ?_
              refine HK.n 33 rfl rfl rfl rfl rfl c34 (by decide) (by decide +kernel) (fun _ _ _ h => h) ?_
              refine HK.n 34 rfl rfl rfl rfl rfl c34 (by decide) (by decide +kernel) (fun _ _ _ h => h) ?_
              refine HK.n 35 rfl rfl rfl rfl rfl c34 (by decide) (by decide +kernel) (fun _ _ _ h => h) ?_
              refine HK.n 36 rfl rfl rfl rfl rfl c34 (by decide) (by decide +kernel) (fun _ _ _ h => h) ?_
              refine HK.n 37 rfl rfl rfl rfl rfl c34 (by decide) (by decide +kernel) (fun _ _ _ h => h) ?_
              refine HK.n 38 rfl rfl rfl rfl rfl c34 (by decide) (by decide +kernel) (fun _ _ _ h => h) ?_
              refine HK.n 39 rfl rfl rfl rfl rfl c34 (by decide) (by decide +kernel) (fun _ _ _ h => h) ?_
              refine HK.n 40 rfl rfl rfl rfl rfl c34 (by decide) (by decide +kernel) (fun _ _ _ h => h) ?_
              refine HK.n 41 rfl rfl rfl rfl rfl c34 (by decide) (by decide +kernel) (fun _ _ _ h => h) ?_
              refine HK.n 42 rfl rfl rfl rfl rfl c34 (by decide) (by decide +kernel) (fun _ _ _ h => h) ?_
              refine HK.n 43 rfl rfl rfl rfl rfl c34 (by decide) (by decide +kernel) (fun _ _ _ h => h) ?_
              refine HK.y 44 rfl rfl rfl rfl rfl c32 (by decide) (by decide +kernel) (fun _ _ _ h => h) (opx_pick rfl rfl (fun e => absurd (Eq.trans (Eq.symm e) c34) (by decide)) (fun _ => rfl) rfl) ?_
              refine HK.d 45 rfl rfl rfl (by decide) (by decide +kernel) (fun _ _ _ h => h) (opx_pick rfl rfl (fun e => absurd (Eq.trans (Eq.symm e) c32) (by decide)) (fun _ => rfl) rfl) ?_
              refine HK.done (by decide +kernel) ?_
              have ey7 := Option.some.inj hy7
              subst ey7
              refine onlyN ?_
              exact ⟨⟨rfl, rfl, rfl, rfl, rfl, rfl, rfl, rfl, rfl, rfl, rfl, rfl, rfl, rfl, rfl, rfl, rfl, rfl, rfl, rfl, rfl, rfl, rfl, rfl, rfl, rfl, rfl, rfl, rfl, rfl, rfl, rfl, rfl, rfl, rfl, rfl, trivial⟩, rfl⟩
            ·rw [if_neg c33] at hy7
             have c33 := eq_false_of_ne_true c33
             refine HK.n 27 rfl rfl rfl rfl rfl c33 (by decide) (by decide +kernel) (fun _ _ _ h => h) ?_
             refine HK.n 28 rfl rfl rfl rfl rfl c33 (by decide) (by decide +kernel) (fun _ _ _ h => h) ?_
             refine HK.n 29 rfl rfl rfl rfl rfl c33 (by decide) (by decide +kernel) (fun _ _ _ h => h) ?_
             refine HK.y 30 rfl rfl rfl rfl rfl c32 (by decide) (by decide +kernel) (fun _ _ _ h => h) (opx_pick rfl rfl (fun e => absurd (Eq.trans (Eq.symm e) c33) (by decide)) (fun _ => rfl) rfl) ?_
             refine HK.y 31 rfl rfl rfl rfl rfl c32 (by decide) (by decide +kernel) (fun _ _ _ h => h) (opx_move rfl rfl) ?_
             refine HK.n 32 rfl rfl rfl rfl rfl rfl (by decide) (by decide +kernel) (fun _ _ _ h => h) ?_
             refine HK.n 33 rfl rfl rfl rfl rfl rfl (by decide) (by decide +kernel) (fun _ _ _ h => h) ?_
             refine HK.n 34 rfl rfl rfl rfl rfl rfl (by decide) (by decide +kernel) (fun _ _ _ h => h) ?_
             refine HK.n 35 rfl rfl rfl rfl rfl rfl (by decide) (by decide +kernel) (fun _ _ _ h => h) ?_
             refine HK.n 36 rfl rfl rfl rfl rfl rfl (by decide) (by decide +kernel) (fun _ _ _ h => h) ?_
             refine HK.n 37 rfl rfl rfl rfl rfl rfl (by decide) (by decide +kernel) (fun _ _ _ h => h) ?_
             refine HK.n 38 rfl rfl rfl rfl rfl rfl (by decide) (by decide +kernel) (fun _ _ _ h => h) ?_
             refine HK.n 39 rfl rfl rfl rfl rfl rfl (by decide) (by decide +kernel) (fun _ _ _ h => h) ?_
             refine HK.n 40 rfl rfl rfl rfl rfl rfl (by decide) (by decide +kernel) (fun _ _ _ h => h) ?_
             refine HK.n 41 rfl rfl rfl rfl rfl rfl (by decide) (by decide +kernel) (fun _ _ _ h => h) ?_
             refine HK.n 42 rfl rfl rfl rfl rfl rfl (by decide) (by decide +kernel) (fun _ _ _ h => h) ?_
             refine HK.n 43 rfl rfl rfl rfl rfl rfl (by decide) (by decide +kernel) (fun _ _ _ h => h) ?_
             refine HK.y 44 rfl rfl rfl rfl rfl c32 (by decide) (by decide +kernel) (fun _ _ _ h => h) (opx_pick rfl rfl (fun e => absurd (Eq.trans (Eq.symm e) rfl) (by decide)) (fun _ => rfl) rfl) ?_
             refine HK.d 45 rfl rfl rfl (by decide) (by decide +kernel) (fun _ _ _ h => h) (opx_pick rfl rfl (fun e => absurd (Eq.trans (Eq.symm e) c32) (by decide)) (fun _ => rfl) rfl) ?_
             refine HK.done (by decide +kernel) ?_
             have ey7 := Option.some.inj hy7
             subst ey7
             refine onlyN ?_
             exact ⟨⟨rfl, rfl, rfl, rfl, rfl, rfl, rfl, rfl, rfl, rfl, rfl, rfl, rfl, rfl, rfl, rfl, rfl, rfl, rfl, rfl, rfl, rfl, rfl, rfl, rfl, rfl, rfl, rfl, rfl, rfl, rfl, rfl, rfl, rfl, rfl, rfl, trivial⟩, rfl⟩
          ·rw [if_neg c31] at hy7
           have c31 := eq_false_of_ne_true c31
           refine HK.n 18 rfl rfl rfl rfl rfl c31 (by decide) (by decide +kernel) (fun _ _ _ h => h) ?_
           refine HK.n 19 rfl rfl rfl rfl rfl c31 (by decide) (by decide +kernel) (fun _ _ _ h => h) ?_
           refine HK.y 20 rfl rfl rfl rfl rfl c26 (by decide) (by decide +kernel) (fun _ _ _ h => h) (opx_pick rfl rfl (fun e => absurd (Eq.trans (Eq.symm e) c31) (by decide)) (fun _ => rfl) rfl) ?_
           refine HK.d 21 rfl rfl rfl (by decide) (by decide +kernel) (fun _ _ _ h => h) (opx_pick rfl rfl (fun e => absurd (Eq.trans (Eq.symm e) c26) (by decide)) (fun _ => rfl) rfl) ?_
           refine HK.d 22 rfl rfl rfl (by decide) (by decide +kernel) (fun _ _ _ h => h) (opx_move rfl rfl) ?_
           refine HK.y 23 rfl rfl rfl rfl rfl rfl (by decide) (by decide +kernel) (fun _ _ _ h => h) (opx_move rfl rfl) ?_
           refine HK.y 24 rfl rfl rfl rfl rfl rfl (by decide) (by decide +kernel) (fun _ _ _ h => h) (opx_move rfl rfl) ?_
           refine HK.y 25 rfl rfl rfl rfl rfl rfl (by decide) (by decide +kernel) (fun _ _ _ h => h) (opx_icmp rfl rfl rfl rfl) ?_
           refine HK.y 26 rfl rfl rfl rfl rfl rfl (by decide) (by decide +kernel) (fun _ _ _ h => h) (opx_move rfl rfl) ?_
           by_cases c35 : (decide ((IntKind.wrap .i64 (Int.tdiv x20 x2.1)) ≥ x8)) = true
           ·rw [if_pos c35] at hy7
            refine HK.y 27 rfl rfl rfl rfl rfl c35 (by decide) (by decide +kernel) (fun _ _ _ h => h) (opx_move rfl rfl) ?_
            refine HK.y 28 rfl rfl rfl rfl rfl c35 (by decide) (by decide +kernel) (fun _ _ _ h => h) (opx_move rfl rfl) ?_
            refine HK.y 29 rfl rfl rfl rfl rfl c35 (by decide) (by decide +kernel) (fun _ _ _ h => h) (opx_icmp rfl rfl rfl rfl) ?_
            refine HK.y 30 rfl rfl rfl rfl rfl rfl (by decide) (by decide +kernel) (fun _ _ _ h => h) (opx_pick rfl rfl (fun _ => rfl) (fun e => absurd (Eq.trans (Eq.symm e) c35) (by decide)) rfl) ?_
            refine HK.y 31 rfl rfl rfl rfl rfl rfl (by decide) (by decide +kernel) (fun _ _ _ h => h) (opx_move rfl rfl) ?_
            by_cases c36 : (decide ((IntKind.wrap .i64 (Int.tdiv x20 x2.1)) ≤ (IntKind.wrap .i64 (x8 + x9)))) = true
            ·rw [if_pos c36] at hy7
             refine HK.y 32 rfl rfl rfl rfl rfl c36 (by decide) (by decide +kernel) (fun _ _ _ h => h) (opx_fieldAddr rfl Try.fo33_3 rfl) ?_
             refine HK.y 33 rfl rfl rfl rfl rfl c36 (by decide) (by decide +kernel) (fun _ _ _ h => h) (opx_loadB rfl Try.one25 rfl (Sep.at (o := boxO bb5 [(.int .i64 x10.1), (.int .i64 x10.2.1), (.bool x10.2.2.1), v15, v16]) S_36 5 rfl) rfl) ?_
             refine HK.y 34 rfl rfl rfl rfl rfl c36 (by decide) (by decide +kernel) (fun _ _ _ h => h) (opx_move rfl rfl) ?_
             obtain ⟨x59, hx59, hy7⟩ := Option.bind_eq_some_iff.1 hy7
             refine HK.yf 35 rfl rfl rfl rfl rfl c36 (by decide) (by decide +kernel) (fun _ _ _ h => h) (opx_indexP rfl Try.underlying25 (by rw [Try.size29]; rfl) rfl rfl (ownO.read (Sep.at (o := ownO (kF .f32) 29 v15 x10.2.2.2.1) S_36 6 rfl)) hx59) ?_
             intro v62 fv62
             refine HK.yf 36 rfl rfl rfl rfl rfl c36 (by decide) (by decide +kernel) (fun _ _ _ h => h) (opx_loadF rfl Try.one29 rfl fv62 (ownO.read (Sep.at (o := ownO (kF .f32) 29 v15 x10.2.2.2.1) S_36 6 rfl)) hx59) ?_
             intro v63 fv63
             refine HK.y 37 rfl rfl rfl rfl rfl c36 (by decide) (by decide +kernel) (fun _ _ _ h => h) (opx_fieldAddr rfl Try.fo33_3 rfl) ?_
             refine HK.y 38 rfl rfl rfl rfl rfl c36 (by decide) (by decide +kernel) (fun _ _ _ h => h) (opx_loadB rfl Try.one25 rfl (Sep.at (o := boxO bb1 [(.int .i64 x2.1), (.int .i64 x2.2.1), (.bool x2.2.2.1), v1, v2]) S_36 19 rfl) rfl) ?_
             refine HK.y 39 rfl rfl rfl rfl rfl c36 (by decide) (by decide +kernel) (fun _ _ _ h => h) (opx_move rfl rfl) ?_
             obtain ⟨x60, hx60, hy7⟩ := Option.bind_eq_some_iff.1 hy7
             refine HK.yf 40 rfl rfl rfl rfl rfl c36 (by decide) (by decide +kernel) (fun _ _ _ h => h) (opx_indexP rfl Try.underlying25 (by rw [Try.size29]; rfl) rfl rfl (ownO.read (Sep.at (o := ownO (kF .f32) 29 v1 x2.2.2.2.1) S_36 20 rfl)) hx60) ?_
             intro v64 fv64
             refine HK.yf 41 rfl rfl rfl rfl rfl c36 (by decide) (by decide +kernel) (fun _ _ _ h => h) (opx_loadF rfl Try.one29 rfl fv64 (ownO.read (Sep.at (o := ownO (kF .f32) 29 v1 x2.2.2.2.1) S_36 20 rfl)) hx60) ?_
             intro v65 fv65
             obtain ⟨x61, hx61, hy7⟩ := Option.bind_eq_some_iff.1 hy7
             refine HK.sy 42 _ rfl rfl rfl rfl rfl c36 (by decide) (by decide +kernel) (opv_call (cap := []) (spec_SameNumber_ok _ _ _ fv63 _ _ fv65 _ hx61) rfl rfl ⟨rfl, rfl, trivial⟩ Try.func48 rfl rfl) ?_
             rintro _ _ ⟨rfl, rfl⟩
             refine ⟨rfl, ?_⟩
             refine HK.y 43 rfl rfl rfl rfl rfl c36 (by decide) (by decide +kernel) (fun _ _ _ h => h) (opx_not rfl rfl) ?_
             refine HK.y 44 rfl rfl rfl rfl rfl rfl (by decide) (by decide +kernel) (fun _ _ _ h => h) (opx_pick rfl rfl (fun _ => rfl) (fun e => absurd (Eq.trans (Eq.symm e) c36) (by decide)) rfl) ?_
             refine HK.d 45 rfl rfl rfl (by decide) (by decide +kernel) (fun _ _ _ h => h) (opx_pick rfl rfl (fun e => absurd (Eq.trans (Eq.symm e) rfl) (by decide)) (fun _ => rfl) rfl) ?_
             refine HK.done (by decide +kernel) ?_
             have ey7 := Option.some.inj hy7
             subst ey7
             refine onlyN ?_
             exact ⟨⟨rfl, rfl, rfl, rfl, rfl, rfl, rfl, rfl, rfl, rfl, rfl, rfl, rfl, rfl, rfl, rfl, rfl, rfl, rfl, rfl, rfl, rfl, rfl, rfl, rfl, rfl, rfl, rfl, rfl, rfl, rfl, rfl, rfl, rfl, rfl, rfl, trivial⟩, rfl⟩
            ·rw [if_neg c36] at hy7
             have c36 := eq_false_of_ne_true c36
             refine HK.n 32 rfl rfl rfl rfl rfl c36 (by decide) (by decide +kernel) (fun _ _ _ h => h) ?_
             refine HK.n 33 rfl rfl rfl rfl rfl c36 (by decide) (by decide +kernel) (fun _ _ _ h => h) ?_
             refine HK.n 34 rfl rfl rfl rfl rfl c36 (by decide) (by decide +kernel) (fun _ _ _ h => h) ?_
             refine HK.n 35 rfl rfl rfl rfl rfl c36 (by decide) (by decide +kernel) (fun _ _ _ h => h) ?_
             refine HK.n 36 rfl rfl rfl rfl rfl c36 (by decide) (by decide +kernel) (fun _ _ _ h => h) ?_
             refine HK.n 37 rfl rfl rfl rfl rfl c36 (by decide) (by decide +kernel) (fun _ _ _ h => h) ?_
             refine HK.n 38 rfl rfl rfl rfl rfl c36 (by decide) (by decide +kernel) (fun _ _ _ h => h) ?_
             refine HK.n 39 rfl rfl rfl rfl rfl c36 (by decide) (by decide +kernel) (fun _ _ _ h => h) ?_
             refine HK.n 40 rfl rfl rfl rfl rfl c36 (by decide) (by decide +kernel) (fun _ _ _ h => h) ?_
             refine HK.n 41 rfl rfl rfl rfl rfl c36 (by decide) (by decide +kernel) (fun _ _ _ h => h) ?_
             refine HK.n 42 rfl rfl rfl rfl rfl c36 (by decide) (by decide +kernel) (fun _ _ _ h => h) ?_
             refine HK.n 43 rfl rfl rfl rfl rfl c36 (by decide) (by decide +kernel) (fun _ _ _ h => h) ?_
             refine HK.y 44 rfl rfl rfl rfl rfl rfl (by decide) (by decide +kernel) (fun _ _ _ h => h) (opx_pick rfl rfl (fun e => absurd (Eq.trans (Eq.symm e) c36) (by decide)) (fun _ => rfl) rfl) ?_
             refine HK.d 45 rfl rfl rfl (by decide) (by decide +kernel) (fun _ _ _ h => h) (opx_pick rfl rfl (fun e => absurd (Eq.trans (Eq.symm e) rfl) (by decide)) (fun _ => rfl) rfl) ?_
             refine HK.done (by decide +kernel) ?_
             have ey7 := Option.some.inj hy7
             subst ey7
             refine onlyN ?_
             exact ⟨⟨rfl, rfl, rfl, rfl, rfl, rfl, rfl, rfl, rfl, rfl, rfl, rfl, rfl, rfl, rfl, rfl, rfl, rfl, rfl, rfl, rfl, rfl, rfl, rfl, rfl, rfl, rfl, rfl, rfl, rfl, rfl, rfl, rfl, rfl, rfl, rfl, trivial⟩, rfl⟩
           ·rw [if_neg c35] at hy7
            have c35 := eq_false_of_ne_true c35
            refine HK.n 27 rfl rfl rfl rfl rfl c35 (by decide) (by decide +kernel) (fun _ _ _ h => h) ?_
            refine HK.n 28 rfl rfl rfl rfl rfl c35 (by decide) (by decide +kernel) (fun _ _ _ h => h) ?_
            refine HK.n 29 rfl rfl rfl rfl rfl c35 (by decide) (by decide +kernel) (fun _ _ _ h => h) ?_
            refine HK.y 30 rfl rfl rfl rfl rfl rfl (by decide) (by decide +kernel) (fun _ _ _ h => h) (opx_pick rfl rfl (fun e => absurd (Eq.trans (Eq.symm e) c35) (by decide)) (fun _ => rfl) rfl) ?_
            refine HK.y 31 rfl rfl rfl rfl rfl rfl (by decide) (by decide +kernel) (fun _ _ _ h => h) (opx_move rfl rfl) ?_
            refine HK.n 32 rfl rfl rfl rfl rfl rfl (by decide) (by decide +kernel) (fun _ _ _ h => h) ?_
            refine HK.n 33 rfl rfl rfl rfl rfl rfl (by decide) (by decide +kernel) (fun _ _ _ h => h) ?_
            refine HK.n 34 rfl rfl rfl rfl rfl rfl (by decide) (by decide +kernel) (fun _ _ _ h => h) ?_
            refine HK.n 35 rfl rfl rfl rfl rfl rfl (by decide) (by decide +kernel) (fun _ _ _ h => h) ?_
            refine HK.n 36 rfl rfl rfl rfl rfl rfl (by decide) (by decide +kernel) (fun _ _ _ h => h) ?_
            refine HK.n 37 rfl rfl rfl rfl rfl rfl (by decide) (by decide +kernel) (fun _ _ _ h => h) ?_
            refine HK.n 38 rfl rfl rfl rfl rfl rfl (by decide) (by decide +kernel) (fun _ _ _ h => h) ?_
            refine HK.n 39 rfl rfl rfl rfl rfl rfl (by decide) (by decide +kernel) (fun _ _ _ h => h) ?_
            refine HK.n 40 rfl rfl rfl rfl rfl rfl (by decide) (by decide +kernel) (fun _ _ _ h => h) ?_
            refine HK.n 41 rfl rfl rfl rfl rfl rfl (by decide) (by decide +kernel) (fun _ _ _ h => h) ?_
            refine HK.n 42 rfl rfl rfl rfl rfl rfl (by decide) (by decide +kernel) (fun _ _ _ h => h) ?_
            refine HK.n 43 rfl rfl rfl rfl rfl rfl (by decide) (by decide +kernel) (fun _ _ _ h => h) ?_
            refine HK.y 44 rfl rfl rfl rfl rfl rfl (by decide) (by decide +kernel) (fun _ _ _ h => h) (opx_pick rfl rfl (fun e => absurd (Eq.trans (Eq.symm e) rfl) (by decide)) (fun _ => rfl) rfl) ?_
            refine HK.d 45 rfl rfl rfl (by decide) (by decide +kernel) (fun _ _ _ h => h) (opx_pick rfl rfl (fun e => absurd (Eq.trans (Eq.symm e) rfl) (by decide)) (fun _ => rfl) rfl) ?_
            refine HK.done (by decide +kernel) ?_
            have ey7 := Option.some.inj hy7
            subst ey7
            refine onlyN ?_
            exact ⟨⟨rfl, rfl, rfl, rfl, rfl, rfl, rfl, rfl, rfl, rfl, rfl, rfl, rfl, rfl, rfl, rfl, rfl, rfl, rfl, rfl, rfl, rfl, rfl, rfl, rfl, rfl, rfl, rfl, rfl, rfl, rfl, rfl, rfl, rfl, rfl, rfl, trivial⟩, rfl⟩
       rintro φ' _ ⟨hs9, rfl⟩
       refine thnN ?_
       refine W.sub hs9 ?_
       by_cases c37 : x51 = true
       ·rw [if_pos c37] at ho1
        refine W.condT rfl c37 ?_
        refine W.seq ?_
        refine W.region ?_
        refine RL.opD (by decide) (opv_assign rfl rfl) ?_
        refine RL.nil ?_
        refine thnN ?_
        refine W.ret ?_
        refine thnR ?_
        refine blkR ?_
        refine thnR ?_
        have eo1 := Option.some.inj ho1
        subst eo1
        have ey2 := hy1 _ rfl
        subst ey2
        try dsimp only at hp
        refine rndR ?_
        refine blkR ?_
        refine onlyR ?_
        refine thnR ?_
        have er := Option.some.inj hp
        subst er
        exact Rt.one rfl rfl ⟨rfl, X_29, (Sep.nil _ _ _)⟩
       ·rw [if_neg c37] at ho1
        have c37 := eq_false_of_ne_true c37
        refine W.condF rfl c37 ?_
        refine W.skip ?_
        refine thnN ?_
        refine W.seq ?_
        obtain ⟨x62, hy8, ho1⟩ := Option.bind_eq_some_iff.1 ho1
        refine W.cut (fun φ' h' => Fr.sub [(0, u0), (1, u1), (30, (.bool x1)), (5, (.pointer (some ⟨bb1, 0, none⟩))), (6, (.pointer (some ⟨bb2, 0, none⟩))), (7, (.int .i64 (IntKind.wrap .i64 (1 + x4)))), (8, (.pointer (some ⟨bb3, 0, none⟩))), (9, (.bool x6.2.2.2.2.2)), (10, (.pointer (some ⟨bb4, 0, none⟩))), (11, (.bool x7.2.2.2)), (12, (.int .i64 x8)), (13, (.int .i64 (IntKind.wrap .i64 (x8 + x9)))), (14, (.pointer (some ⟨bb5, 0, none⟩))), (15, (.bool x10.2.2.2.2.2)), (16, v17), (17, (.bool x11.2)), (18, (.int .i64 x12)), (19, (.pointer (some ⟨bb6, 0, none⟩))), (20, (.bool x13.2.2.2.2.2)), (130, (.bool x14)), (133, (.int .i64 (x2.2.2.2.1.length : Int))), (4, (.bool x19)), (134, (.int .i64 x20)), (135, (.bool (decide (x20 < (x2.2.2.2.1.length : Int))))), (21, (.int .i64 x20)), (22, (.int .i64 (Int.tmod x20 x2.1))), (23, (.int .i64 (IntKind.wrap .i64 (Int.tdiv x20 x2.1)))), (24, (.int .i64 x24.1)), (25, (.bool x24.2)), (204, (.bool x25)), (244, (.bool x34)), (246, (.int .i64 (x11.1.length : Int))), (26, (.bool x46)), (247, (.int .i64 x47)), (248, (.bool x48)), (305, (.bool x51)), (345, (.bool x62))] φ' ∧ hp41 = h') ?_ ?_
        ·refine W.regionH 40 rfl Try.mixed ?_
         refine HK.d 0 rfl rfl rfl (by decide) (by decide +kernel) (fun _ _ _ h => h) (opx_move rfl rfl) ?_
         refine HK.d 1 rfl rfl rfl (by decide) (by decide +kernel) (fun _ _ _ h => h) (opx_move rfl rfl) ?_
         refine HK.d 2 rfl rfl rfl (by decide) (by decide +kernel) (fun _ _ _ h => h) (opx_icmp rfl rfl rfl rfl) ?_
         refine HK.d 3 rfl rfl rfl (by decide) (by decide +kernel) (fun _ _ _ h => h) (opx_move rfl rfl) ?_
         by_cases c38 : ((Int.tmod x20 x2.1) == x12) = true
         ·rw [if_pos c38] at hy8
          refine HK.y 4 rfl rfl rfl rfl rfl c38 (by decide) (by decide +kernel) (fun _ _ _ h => h) (opx_move rfl rfl) ?_
          refine HK.y 5 rfl rfl rfl rfl rfl c38 (by decide) (by decide +kernel) (fun _ _ _ h => h) (opx_move rfl rfl) ?_
          refine HK.y 6 rfl rfl rfl rfl rfl c38 (by decide) (by decide +kernel) (fun _ _ _ h => h) (opx_icmp rfl rfl rfl rfl) ?_
          refine HK.d 7 rfl rfl rfl (by decide) (by decide +kernel) (fun _ _ _ h => h) (opx_pick rfl rfl (fun _ => rfl) (fun e => absurd (Eq.trans (Eq.symm e) c38) (by decide)) rfl) ?_
          refine HK.d 8 rfl rfl rfl (by decide) (by decide +kernel) (fun _ _ _ h => h) (opx_move rfl rfl) ?_
          by_cases c39 : ((IntKind.wrap .i64 (Int.tdiv x20 x2.1)) != x8) = true
          ·rw [if_pos c39] at hy8
           refine HK.y 9 rfl rfl rfl rfl rfl c39 (by decide) (by decide +kernel) (fun _ _ _ h => h) (opx_fieldAddr rfl Try.fo33_3 rfl) ?_
           refine HK.y 10 rfl rfl rfl rfl rfl c39 (by decide) (by decide +kernel) (fun _ _ _ h => h) (opx_loadB rfl Try.one25 rfl (Sep.at (o := boxO bb6 [(.int .i64 x13.1), (.int .i64 x13.2.1), (.bool x13.2.2.1), v19, v20]) S_36 0 rfl) rfl) ?_
           refine HK.y 11 rfl rfl rfl rfl rfl c39 (by decide) (by decide +kernel) (fun _ _ _ h => h) (opx_move rfl rfl) ?_
           obtain ⟨x63, hx63, hy8⟩ := Option.bind_eq_some_iff.1 hy8
           refine HK.yf 12 rfl rfl rfl rfl rfl c39 (by decide) (by decide +kernel) (fun _ _ _ h => h) (opx_indexP rfl Try.underlying25 (by rw [Try.size29]; rfl) rfl rfl (ownO.read (Sep.at (o := ownO (kF .f32) 29 v19 x13.2.2.2.1) S_36 1 rfl)) hx63) ?_
           intro v66 fv66
           refine HK.yf 13 rfl rfl rfl rfl rfl c39 (by decide) (by decide +kernel) (fun _ _ _ h => h) (opx_loadF rfl Try.one29 rfl fv66 (ownO.read (Sep.at (o := ownO (kF .f32) 29 v19 x13.2.2.2.1) S_36 1 rfl)) hx63) ?_
           intro v67 fv67
           refine HK.y 14 rfl rfl rfl rfl rfl c39 (by decide) (by decide +kernel) (fun _ _ _ h => h) (opx_fcmp rfl rfl rfl rfl fv67 (isF_lit .f32 0 (by decide) (by decide))) ?_
           refine HK.d 15 rfl rfl rfl (by decide) (by decide +kernel) (fun _ _ _ h => h) (opx_pick rfl rfl (fun _ => rfl) (fun e => absurd (Eq.trans (Eq.symm e) c39) (by decide)) rfl) ?_
           refine HK.d 16 rfl rfl rfl (by decide) (by decide +kernel) (fun _ _ _ h => h) (opx_move rfl rfl) ?_
           by_cases c40 : (fcmp .neq .f32 x63 (some 0)) = true
           ·rw [if_pos c40] at hy8
            refine HK.n 17 rfl rfl rfl rfl rfl c40 (by decide) (by decide +kernel) (fun _ _ _ h => h) ?_
            refine HK.n 18 rfl rfl rfl rfl rfl c40 (by decide) (by decide +kernel) (fun _ _ _ h => h) ?_
            refine HK.n 19 rfl rfl rfl rfl rfl c40 (by decide) (by decide +kernel) (fun _ _ _ h => h) ?_
            refine HK.n 20 rfl rfl rfl rfl rfl c40 (by decide) (by decide +kernel) (fun _ _ _ h => h) ?_
            refine HK.u 21 rfl rfl rfl rfl rfl (by decide) (by decide +kernel) (fun _ _ _ h => h) ?_
            refine HK.u 22 rfl rfl rfl rfl rfl (by decide) (by decide +kernel) (fun _ _ _ h => h) ?_
            refine HK.u 23 rfl rfl rfl rfl rfl (by decide) (by decide +kernel) (fun _ _ _ h => h) ?_
            refine HK.n 24 rfl rfl rfl rfl rfl c40 (by decide) (by decide +kernel) (fun _ _ _ h => h) ?_
            refine HK.n 25 rfl rfl rfl rfl rfl c40 (by decide) (by decide +kernel) (fun _ _ _ h => h) ?_
            refine HK.u 26 rfl rfl rfl rfl rfl (by decide) (by decide +kernel) (fun _ _ _ h => h) ?_
            refine HK.u 27 rfl rfl rfl rfl rfl (by decide) (by decide +kernel) (fun _ _ _ h => h) ?_
            refine HK.u 28 rfl rfl rfl rfl rfl (by decide) (by decide +kernel) (fun _ _ _ h => h) ?_
            refine HK.u 29 rfl rfl rfl rfl rfl (by decide) (by decide +kernel) (fun _ _ _ h => h) ?_
            refine HK.u 30 rfl rfl rfl rfl rfl (by decide) (by decide +kernel) (fun _ _ _ h => h) ?_
            refine HK.u 31 rfl rfl rfl rfl rfl (by decide) (by decide +kernel) (fun _ _ _ h => h) ?_
            refine HK.u 32 rfl rfl rfl rfl rfl (by decide) (by decide +kernel) (fun _ _ _ h => h) ?_
            refine HK.u 33 rfl rfl rfl rfl rfl (by decide) (by decide +kernel) (fun _ _ _ h => h) ?_
            refine HK.u 34 rfl rfl rfl rfl rfl (by decide) (by decide +kernel) (fun _ _ _ h => h) ?_
            refine HK.u 35 rfl rfl rfl rfl rfl (by decide) (by decide +kernel) (fun _ _ _ h => h) ?_
            refine HK.u 36 rfl rfl rfl rfl rfl (by decide) (by decide +kernel) (fun _ _ _ h => h) ?_
            refine HK.u 37 rfl rfl rfl rfl rfl (by decide) (by decide +kernel) (fun _ _ _ h => h) ?_
            refine HK.n 38 rfl rfl rfl rfl rfl c40 (by decide) (by decide +kernel) (fun _ _ _ h => h) ?_
            refine HK.d 39 rfl rfl rfl (by decide) (by decide +kernel) (fun _ _ _ h => h) (opx_pick rfl rfl (fun _ => rfl) (fun e => absurd (Eq.trans (Eq.symm e) c40) (by decide)) rfl) ?_
            refine HK.done (by decide +kernel) ?_
            have ey8 := Option.some.inj hy8
            subst ey8
            refine onlyN ?_
            exact ⟨⟨rfl, rfl, rfl, rfl, rfl, rfl, rfl, rfl, rfl, rfl, rfl, rfl, rfl, rfl, rfl, rfl, rfl, rfl, rfl, rfl, rfl, rfl, rfl, rfl, rfl, rfl, rfl, rfl, rfl, rfl, rfl, rfl, rfl, rfl, rfl, rfl, rfl, trivial⟩, rfl⟩
           ·rw [if_neg c40] at hy8
            have c40 := eq_false_of_ne_true c40
            refine HK.y 17 rfl rfl rfl rfl rfl c40 (by decide) (by decide +kernel) (fun _ _ _ h => h) (opx_move rfl rfl) ?_
            refine HK.y 18 rfl rfl rfl rfl rfl c40 (by decide) (by decide +kernel) (fun _ _ _ h => h) (opx_move rfl rfl) ?_
            refine HK.y 19 rfl rfl rfl rfl rfl c40 (by decide) (by decide +kernel) (fun _ _ _ h => h) (opx_icmp rfl rfl rfl rfl) ?_
            refine HK.y 20 rfl rfl rfl rfl rfl c40 (by decide) (by decide +kernel) (fun _ _ _ h => h) (opx_move rfl rfl) ?_
            by_cases c41 : ((Int.tmod x20 x2.1) != x12) = true
            ·rw [if_pos c41] at hy8
             refine HK.n 21 rfl rfl rfl rfl rfl c41 (by decide) (by decide +kernel) (fun _ _ _ h => h) ?_
             refine HK.n 22 rfl rfl rfl rfl rfl c41 (by decide) (by decide +kernel) (fun _ _ _ h => h) ?_
             refine HK.n 23 rfl rfl rfl rfl rfl c41 (by decide) (by decide +kernel) (fun _ _ _ h => h) ?_
             refine HK.y 24 rfl rfl rfl rfl rfl c40 (by decide) (by decide +kernel) (fun _ _ _ h => h) (opx_pick rfl rfl (fun _ => rfl) (fun e => absurd (Eq.trans (Eq.symm e) c41) (by decide)) rfl) ?_
             refine HK.y 25 rfl rfl rfl rfl rfl c40 (by decide) (by decide +kernel) (fun _ _ _ h => h) (opx_move rfl rfl) ?_
             refine HK.y 26 rfl rfl rfl rfl rfl rfl (by decide) (by decide +kernel) (fun _ _ _ h => h) (opx_fieldAddr rfl Try.fo33_3 rfl) ?_
             refine HK.y 27 rfl rfl rfl rfl rfl rfl (by decide) (by decide +kernel) (fun _ _ _ h => h) (opx_loadB rfl Try.one25 rfl (Sep.at (o := boxO bb6 [(.int .i64 x13.1), (.int .i64 x13.2.1), (.bool x13.2.2.1), v19, v20]) S_36 0 rfl) rfl) ?_
             refine HK.y 28 rfl rfl rfl rfl rfl rfl (by decide) (by decide +kernel) (fun _ _ _ h => h) (opx_move rfl rfl) ?_
             obtain ⟨x64, hx64, hy8⟩ := Option.bind_eq_some_iff.1 hy8
             refine HK.yf 29 rfl rfl rfl rfl rfl rfl (by decide) (by decide +kernel) (fun _ _ _ h => h) (opx_indexP rfl Try.underlying25 (by rw [Try.size29]; rfl) rfl rfl (ownO.read (Sep.at (o := ownO (kF .f32) 29 v19 x13.2.2.2.1) S_36 1 rfl)) hx64) ?_
             intro v68 fv68
             refine HK.yf 30 rfl rfl rfl rfl rfl rfl (by decide) (by decide +kernel) (fun _ _ _ h => h) (opx_loadF rfl Try.one29 rfl fv68 (ownO.read (Sep.at (o := ownO (kF .f32) 29 v19 x13.2.2.2.1) S_36 1 rfl)) hx64) ?_
             intro v69 fv69
             refine HK.y 31 rfl rfl rfl rfl rfl rfl (by decide) (by decide +kernel) (fun _ _ _ h => h) (opx_fieldAddr rfl Try.fo33_3 rfl) ?_
             refine HK.y 32 rfl rfl rfl rfl rfl rfl (by decide) (by decide +kernel) (fun _ _ _ h => h) (opx_loadB rfl Try.one25 rfl (Sep.at (o := boxO bb1 [(.int .i64 x2.1), (.int .i64 x2.2.1), (.bool x2.2.2.1), v1, v2]) S_36 19 rfl) rfl) ?_
             refine HK.y 33 rfl rfl rfl rfl rfl rfl (by decide) (by decide +kernel) (fun _ _ _ h => h) (opx_move rfl rfl) ?_
             obtain ⟨x65, hx65, hy8⟩ := Option.bind_eq_some_iff.1 hy8
             refine HK.yf 34 rfl rfl rfl rfl rfl rfl (by decide) (by decide +kernel) (fun _ _ _ h => h) (opx_indexP rfl Try.underlying25 (by rw [Try.size29]; rfl) rfl rfl (ownO.read (Sep.at (o := ownO (kF .f32) 29 v1 x2.2.2.2.1) S_36 20 rfl)) hx65) ?_
             intro v70 fv70
             refine HK.yf 35 rfl rfl rfl rfl rfl rfl (by decide) (by decide +kernel) (fun _ _ _ h => h) (opx_loadF rfl Try.one29 rfl fv70 (ownO.read (Sep.at (o := ownO (kF .f32) 29 v1 x2.2.2.2.1) S_36 20 rfl)) hx65) ?_
             intro v71 fv71
             obtain ⟨x66, hx66, hy8⟩ := Option.bind_eq_some_iff.1 hy8
             refine HK.sy 36 _ rfl rfl rfl rfl rfl rfl (by decide) (by decide +kernel) (opv_call (cap := []) (spec_SameNumber_ok _ _ _ fv69 _ _ fv71 _ hx66) rfl rfl ⟨rfl, rfl, trivial⟩ Try.func48 rfl rfl) ?_
             rintro _ _ ⟨rfl, rfl⟩
             refine ⟨rfl, ?_⟩
             refine HK.y 37 rfl rfl rfl rfl rfl rfl (by decide) (by decide +kernel) (fun _ _ _ h => h) (opx_not rfl rfl) ?_
             refine HK.y 38 rfl rfl rfl rfl rfl c40 (by decide) (by decide +kernel) (fun _ _ _ h => h) (opx_pick rfl rfl (fun _ => rfl) (fun e => absurd (Eq.trans (Eq.symm e) rfl) (by decide)) rfl) ?_
             refine HK.d 39 rfl rfl rfl (by decide) (by decide +kernel) (fun _ _ _ h => h) (opx_pick rfl rfl (fun e => absurd (Eq.trans (Eq.symm e) c40) (by decide)) (fun _ => rfl) rfl) ?_
             refine HK.done (by decide +kernel) ?_
             have ey8 := Option.some.inj hy8
             subst ey8
             refine onlyN ?_
             exact ⟨⟨rfl, rfl, rfl, rfl, rfl, rfl, rfl, rfl, rfl, rfl, rfl, rfl, rfl, rfl, rfl, rfl, rfl, rfl, rfl, rfl, rfl, rfl, rfl, rfl, rfl, rfl, rfl, rfl, rfl, rfl, rfl, rfl, rfl, rfl, rfl, rfl, rfl, trivial⟩, rfl⟩
            ·rw [if_neg c41] at hy8
             have c41 := eq_false_of_ne_true c41
             refine HK.y 21 rfl rfl rfl rfl rfl c41 (by decide) (by decide +kernel) (fun _ _ _ h => h) (opx_move rfl rfl) ?_
             refine HK.y 22 rfl rfl rfl rfl rfl c41 (by decide) (by decide +kernel) (fun _ _ _ h => h) (opx_move rfl rfl) ?_
             refine HK.y 23 rfl rfl rfl rfl rfl c41 (by decide) (by decide +kernel) (fun _ _ _ h => h) (opx_icmp rfl rfl rfl rfl) ?_
             refine HK.y 24 rfl rfl rfl rfl rfl c40 (by decide) (by decide +kernel) (fun _ _ _ h => h) (opx_pick rfl rfl (fun e => absurd (Eq.trans (Eq.symm e) c41) (by decide)) (fun _ => rfl) rfl) ?_
             refine HK.y 25 rfl rfl rfl rfl rfl c40 (by decide) (by decide +kernel) (fun _ _ _ h => h) (opx_move rfl rfl) ?_
             by_cases c42 : ((IntKind.wrap .i64 (Int.tdiv x20 x2.1)) == x8) = true
             ·rw [if_pos c42] at hy8
              refine HK.y 26 rfl rfl rfl rfl rfl c42 (by decide) (by decide +kernel) (fun _ _ _ h => h) (opx_fieldAddr rfl Try.fo33_3 rfl) ?_
              refine HK.y 27 rfl rfl rfl rfl rfl c42 (by decide) (by decide +kernel) (fun _ _ _ h => h) (opx_loadB rfl Try.one25 rfl (Sep.at (o := boxO bb6 [(.int .i64 x13.1), (.int .i64 x13.2.1), (.bool x13.2.2.1), v19, v20]) S_36 0 rfl) rfl) ?_
              refine HK.y 28 rfl rfl rfl rfl rfl c42 (by decide) (by decide +kernel) (fun _ _ _ h => h) (opx_move rfl rfl) ?_
              obtain ⟨x67, hx67, hy8⟩ := Option.bind_eq_some_iff.1 hy8
              refine HK.yf 29 rfl rfl rfl rfl rfl c42 (by decide) (by decide +kernel) (fun _ _ _ h => h) (opx_indexP rfl Try.underlying25 (by rw [Try.size29]; rfl) rfl rfl (ownO.read (Sep.at (o := ownO (kF .f32) 29 v19 x13.2.2.2.1) S_36 1 rfl)) hx67) ?_
              intro v72 fv72
              refine HK.yf 30 rfl rfl rfl rfl rfl c42 (by decide) (by decide +kernel) (fun _ _ _ h => h) (opx_loadF rfl Try.one29 rfl fv72 (ownO.read (Sep.at (o := ownO (kF .f32) 29 v19 x13.2.2.2.1) S_36 1 rfl)) hx67) ?_
              intro v73 fv73
              refine HK.y 31 rfl rfl rfl rfl rfl c42 (by decide) (by decide +kernel) (fun _ _ _ h => h) (opx_fieldAddr rfl Try.fo33_3 rfl) ?_
              refine HK.y 32 rfl rfl rfl rfl rfl c42 (by decide) (by decide +kernel) (fun _ _ _ h => h) (opx_loadB rfl Try.one25 rfl (Sep.at (o := boxO bb1 [(.int .i64 x2.1), (.int .i64 x2.2.1), (.bool x2.2.2.1), v1, v2]) S_36 19 rfl) rfl) ?_
              refine HK.y 33 rfl rfl rfl rfl rfl c42 (by decide) (by decide +kernel) (fun _ _ _ h => h) (opx_move rfl rfl) ?_
              obtain ⟨x68, hx68, hy8⟩ := Option.bind_eq_some_iff.1 hy8
              refine HK.yf 34 rfl rfl rfl rfl rfl c42 (by decide) (by decide +kernel) (fun _ _ _ h => h) (opx_indexP rfl Try.underlying25 (by rw [Try.size29]; rfl) rfl rfl (ownO.read (Sep.at (o := ownO (kF .f32) 29 v1 x2.2.2.2.1) S_36 20 rfl)) hx68) ?_
              intro v74 fv74
              refine HK.yf 35 rfl rfl rfl rfl rfl c42 (by decide) (by decide +kernel) (fun _ _ _ h => h) (opx_loadF rfl Try.one29 rfl fv74 (ownO.read (Sep.at (o := ownO (kF .f32) 29 v1 x2.2.2.2.1) S_36 20 rfl)) hx68) ?_
              intro v75 fv75
              obtain ⟨x69, hx69, hy8⟩ := Option.bind_eq_some_iff.1 hy8
              refine HK.sy 36 _ rfl rfl rfl rfl rfl c42 (by decide) (by decide +kernel) (opv_call (cap := []) (spec_SameNumber_ok _ _ _ fv73 _ _ fv75 _ hx69) rfl rfl ⟨rfl, rfl, trivial⟩ Try.func48 rfl rfl) ?_
              rintro _ _ ⟨rfl, rfl⟩
              refine ⟨rfl, ?_⟩
              refine HK.y 37 rfl rfl rfl rfl rfl c42 (by decide) (by decide +kernel) (fun _ _ _ h => h) (opx_not rfl rfl) ?_
              refine HK.y 38 rfl rfl rfl rfl rfl c40 (by decide) (by decide +kernel) (fun _ _ _ h => h) (opx_pick rfl rfl (fun _ => rfl) (fun e => absurd (Eq.trans (Eq.symm e) c42) (by decide)) rfl) ?_
              refine HK.d 39 rfl rfl rfl (by decide) (by decide +kernel) (fun _ _ _ h => h) (opx_pick rfl rfl (fun e => absurd (Eq.trans (Eq.symm e) c40) (by decide)) (fun _ => rfl) rfl) ?_
              refine HK.done (by decide +kernel) ?_
              have ey8 := Option.some.inj hy8
              subst ey8
              refine onlyN ?_
              exact ⟨⟨rfl, rfl, rfl, rfl, rfl, rfl, rfl, rfl, rfl, rfl, rfl, rfl, rfl, rfl, rfl, rfl, rfl, rfl, rfl, rfl, rfl, rfl, rfl, rfl, rfl, rfl, rfl, rfl, rfl, rfl, rfl, rfl, rfl, rfl, rfl, rfl, rfl, trivial⟩, rfl⟩
             ·rw [if_neg c42] at hy8
              have c42 := eq_false_of_ne_true c42
              refine HK.n 26 rfl rfl rfl rfl rfl c42 (by decide) (by decide +kernel) (fun _ _ _ h => h) ?_
              refine HK.n 27 rfl rfl rfl rfl rfl c42 (by decide) (by decide +kernel) (fun _ _ _ h => h) ?_
              refine HK.n 28 rfl rfl rfl rfl rfl c42 (by decide) (by decide +kernel) (fun _ _ _ h => h) ?_
              refine HK.n 29 rfl rfl rfl rfl rfl c42 (by decide) (by decide +kernel) (fun _ _ _ h => h) ?_
              refine HK.n 30 rfl rfl rfl rfl rfl c42 (by decide) (by decide +kernel) (fun _ _ _ h => h) ?_
              refine HK.n 31 rfl rfl rfl rfl rfl c42 (by decide) (by decide +kernel) (fun _ _ _ h => h) ?_
              refine HK.n 32 rfl rfl rfl rfl rfl c42 (by decide) (by decide +kernel) (fun _ _ _ h => h) ?_
              refine HK.n 33 rfl rfl rfl rfl rfl c42 (by decide) (by decide +kernel) (fun _ _ _ h => h) ?_
              refine HK.n 34 rfl rfl rfl rfl rfl c42 (by decide) (by decide +kernel) (fun _ _ _ h => h) ?_
              refine HK.n 35 rfl rfl rfl rfl rfl c42 (by decide) (by decide +kernel) (fun _ _ _ h => h) ?_
              refine HK.n 36 rfl rfl rfl rfl rfl c42 (by decide) (by decide +kernel) (fun _ _ _ h => h) ?_
              refine HK.n 37 rfl rfl rfl rfl rfl c42 (by decide) (by decide +kernel) (fun _ _ _ h => h) ?_
              refine HK.y 38 rfl rfl rfl rfl rfl c40 (by decide) (by decide +kernel) (fun _ _ _ h => h) (opx_pick rfl rfl (fun e => absurd (Eq.trans (Eq.symm e) c42) (by decide)) (fun _ => rfl) rfl) ?_
              refine HK.d 39 rfl rfl rfl (by decide) (by decide +kernel) (fun _ _ _ h => h) (opx_pick rfl rfl (fun e => absurd (Eq.trans (Eq.symm e) c40) (by decide)) (fun _ => rfl) rfl) ?_
              refine HK.done (by decide +kernel) ?_
              have ey8 := Option.some.inj hy8
              subst ey8
              refine onlyN ?_
              exact ⟨⟨rfl, rfl, rfl, rfl, rfl, rfl, rfl, rfl, rfl, rfl, rfl, rfl, rfl, rfl, rfl, rfl, rfl, rfl, rfl, rfl, rfl, rfl, rfl, rfl, rfl, rfl, rfl, rfl, rfl, rfl, rfl, rfl, rfl, rfl, rfl, rfl, rfl, trivial⟩, rfl⟩
          ·rw [if_neg c39] at hy8
           have c39 := eq_false_of_ne_true c39
           refine HK.n 9 rfl rfl rfl rfl rfl c39 (by decide) (by decide +kernel) (fun _ _ _ h => h) ?_
           refine HK.n 10 rfl rfl rfl rfl rfl c39 (by decide) (by decide +kernel) (fun _ _ _ h => h) ?_
           refine HK.n 11 rfl rfl rfl rfl rfl c39 (by decide) (by decide +kernel) (fun _ _ _ h => h) ?_
           refine HK.n 12 rfl rfl rfl rfl rfl c39 (by decide) (by decide +kernel) (fun _ _ _ h => h) ?_
           refine HK.n 13 rfl rfl rfl rfl rfl c39 (by decide) (by decide +kernel) (fun _ _ _ h => h) ?_
           refine HK.n 14 rfl rfl rfl rfl rfl c39 (by decide) (by decide +kernel) (fun _ _ _ h => h) ?_
           refine HK.d 15 rfl rfl rfl (by decide) (by decide +kernel) (fun _ _ _ h => h) (opx_pick rfl rfl (fun e => absurd (Eq.trans (Eq.symm e) c39) (by decide)) (fun _ => rfl) rfl) ?_
           refine HK.d 16 rfl rfl rfl (by decide) (by decide +kernel) (fun _ _ _ h => h) (opx_move rfl rfl) ?_
           refine HK.y 17 rfl rfl rfl rfl rfl rfl (by decide) (by decide +kernel) (fun _ _ _ h => h) (opx_move rfl rfl) ?_
           refine HK.y 18 rfl rfl rfl rfl rfl rfl (by decide) (by decide +kernel) (fun _ _ _ h => h) (opx_move rfl rfl) ?_
           refine HK.y 19 rfl rfl rfl rfl rfl rfl (by decide) (by decide +kernel) (fun _ _ _ h => h) (opx_icmp rfl rfl rfl rfl) ?_
           refine HK.y 20 rfl rfl rfl rfl rfl rfl (by decide) (by decide +kernel) (fun _ _ _ h => h) (opx_move rfl rfl) ?_
           by_cases c43 : ((Int.tmod x20 x2.1) != x12) = true
           ·rw [if_pos c43] at hy8
            refine HK.n 21 rfl rfl rfl rfl rfl c43 (by decide) (by decide +kernel) (fun _ _ _ h => h) ?_
            refine HK.n 22 rfl rfl rfl rfl rfl c43 (by decide) (by decide +kernel) (fun _ _ _ h => h) ?_
            refine HK.n 23 rfl rfl rfl rfl rfl c43 (by decide) (by decide +kernel) (fun _ _ _ h => h) ?_
            refine HK.y 24 rfl rfl rfl rfl rfl rfl (by decide) (by decide +kernel) (fun _ _ _ h => h) (opx_pick rfl rfl (fun _ => rfl) (fun e => absurd (Eq.trans (Eq.symm e) c43) (by decide)) rfl) ?_
            refine HK.y 25 rfl rfl rfl rfl rfl rfl (by decide) (by decide +kernel) (fun _ _ _ h => h) (opx_move rfl rfl) ?_
            refine HK.y 26 rfl rfl rfl rfl rfl rfl (by decide) (by decide +kernel) (fun _ _ _ h => h) (opx_fieldAddr rfl Try.fo33_3 rfl) ?_
            refine HK.y 27 rfl rfl rfl rfl rfl rfl (by decide) (by decide +kernel) (fun _ _ _ h => h) (opx_loadB rfl Try.one25 rfl (Sep.at (o := boxO bb6 [(.int .i64 x13.1), (.int .i64 x13.2.1), (.bool x13.2.2.1), v19, v20]) S_36 0 rfl) rfl) ?_
            refine HK.y 28 rfl rfl rfl rfl rfl rfl (by decide) (by decide +kernel) (fun _ _ _ h => h) (opx_move rfl rfl) ?_
            obtain ⟨x70, hx70, hy8⟩ := Option.bind_eq_some_iff.1 hy8
            refine HK.yf 29 rfl rfl rfl rfl rfl rfl (by decide) (by decide +kernel) (fun _ _ _ h => h) (opx_indexP rfl Try.underlying25 (by rw [Try.size29]; rfl) rfl rfl (ownO.read (Sep.at (o := ownO (kF .f32) 29 v19 x13.2.2.2.1) S_36 1 rfl)) hx70) ?_
            intro v76 fv76
            refine HK.yf 30 rfl rfl rfl rfl rfl rfl (by decide) (by decide +kernel) (fun _ _ _ h => h) (opx_loadF rfl Try.one29 rfl fv76 (ownO.read (Sep.at (o := ownO (kF .f32) 29 v19 x13.2.2.2.1) S_36 1 rfl)) hx70) ?_
            intro v77 fv77
            refine HK.y 31 rfl rfl rfl rfl rfl rfl (by decide) (by decide +kernel) (fun _ _ _ h => h) (opx_fieldAddr rfl Try.fo33_3 rfl) ?_
            refine HK.y 32 rfl rfl rfl rfl rfl rfl (by decide) (by decide +kernel) (fun _ _ _ h => h) (opx_loadB rfl Try.one25 rfl (Sep.at (o := boxO bb1 [(.int .i64 x2.1), (.int .i64 x2.2.1), (.bool x2.2.2.1), v1, v2]) S_36 19 rfl) rfl) ?_
            refine HK.y 33 rfl rfl rfl rfl rfl rfl (by decide) (by decide +kernel) (fun _ _ _ h => h) (opx_move rfl rfl) ?_
            obtain ⟨x71, hx71, hy8⟩ := Option.bind_eq_some_iff.1 hy8
            refine HK.yf 34 rfl rfl rfl rfl rfl rfl (by decide) (by decide +kernel) (fun _ _ _ h => h) (opx_indexP rfl Try.underlying25 (by rw [Try.size29]; rfl) rfl rfl (ownO.read (Sep.at (o := ownO (kF .f32) 29 v1 x2.2.2.2.1) S_36 20 rfl)) hx71) ?_
            intro v78 fv78
            refine HK.yf 35 rfl rfl rfl rfl rfl rfl (by decide) (by decide +kernel) (fun _ _ _ h => h) (opx_loadF rfl Try.one29 rfl fv78 (ownO.read (Sep.at (o := ownO (kF .f32) 29 v1 x2.2.2.2.1) S_36 20 rfl)) hx71) ?_
            intro v79 fv79
            obtain ⟨x72, hx72, hy8⟩ := Option.bind_eq_some_iff.1 hy8
            refine HK.sy 36 _ rfl rfl rfl rfl rfl rfl (by decide) (by decide +kernel) (opv_call (cap := []) (spec_SameNumber_ok _ _ _ fv77 _ _ fv79 _ hx72) rfl rfl ⟨rfl, rfl, trivial⟩ Try.func48 rfl rfl) ?_
            rintro _ _ ⟨rfl, rfl⟩
            refine ⟨rfl, ?_⟩
            refine HK.y 37 rfl rfl rfl rfl rfl rfl (by decide) (by decide +kernel) (fun _ _ _ h => h) (opx_not rfl rfl) ?_
            refine HK.y 38 rfl rfl rfl rfl rfl rfl (by decide) (by decide +kernel) (fun _ _ _ h => h) (opx_pick rfl rfl (fun _ => rfl) (fun e => absurd (Eq.trans (Eq.symm e) rfl) (by decide)) rfl) ?_
            refine HK.d 39 rfl rfl rfl (by decide) (by decide +kernel) (fun _ _ _ h => h) (opx_pick rfl rfl (fun e => absurd (Eq.trans (Eq.symm e) rfl) (by decide)) (fun _ => rfl) rfl) ?_
            refine HK.done (by decide +kernel) ?_
            have ey8 := Option.some.inj hy8
            subst ey8
            refine onlyN ?_
            exact ⟨⟨rfl, rfl, rfl, rfl, rfl, rfl, rfl, rfl, rfl, rfl, rfl, rfl, rfl, rfl, rfl, rfl, rfl, rfl, rfl, rfl, rfl, rfl, rfl, rfl, rfl, rfl, rfl, rfl, rfl, rfl, rfl, rfl, rfl, rfl, rfl, rfl, rfl, trivial⟩, rfl⟩
           ·rw [if_neg c43] at hy8
            have c43 := eq_false_of_ne_true c43
            refine HK.y 21 rfl rfl rfl rfl rfl c43 (by decide) (by decide +kernel) (fun _ _ _ h => h) (opx_move rfl rfl) ?_
            refine HK.y 22 rfl rfl rfl rfl rfl c43 (by decide) (by decide +kernel) (fun _ _ _ h => h) (opx_move rfl rfl) ?_
            refine HK.y 23 rfl rfl rfl rfl rfl c43 (by decide) (by decide +kernel) (fun _ _ _ h => h) (opx_icmp rfl rfl rfl rfl) ?_
            refine HK.y 24 rfl rfl rfl rfl rfl rfl (by decide) (by decide +kernel) (fun _ _ _ h => h) (opx_pick rfl rfl (fun e => absurd (Eq.trans (Eq.symm e) c43) (by decide)) (fun _ => rfl) rfl) ?_
            refine HK.y 25 rfl rfl rfl rfl rfl rfl (by decide) (by decide +kernel) (fun _ _ _ h => h) (opx_move rfl rfl) ?_
            by_cases c44 : ((IntKind.wrap .i64 (Int.tdiv x20 x2.1)) == x8) = true
            ·rw [if_pos c44] at hy8
             refine HK.y 26 rfl rfl rfl rfl rfl c44 (by decide) (by decide +kernel) (fun _ _ _ h => h) (opx_fieldAddr rfl Try.fo33_3 rfl) ?_
             refine HK.y 27 rfl rfl rfl rfl rfl c44 (by decide) (by decide +kernel) (fun _ _ _ h => h) (opx_loadB rfl Try.one25 rfl (Sep.at (o := boxO bb6 [(.int .i64 x13.1), (.int .i64 x13.2.1), (.bool x13.2.2.1), v19, v20]) S_36 0 rfl) rfl) ?_
             refine HK.y 28 rfl rfl rfl rfl rfl c44 (by decide) (by decide +kernel) (fun _ _ _ h => h) (opx_move rfl rfl) ?_
             obtain ⟨x73, hx73, hy8⟩ := Option.bind_eq_some_iff.1 hy8
             refine HK.yf 29 rfl rfl rfl rfl rfl c44 (by decide) (by decide +kernel) (fun _ _ _ h => h) (opx_indexP rfl Try.underlying25 (by rw [Try.size29]; rfl) rfl rfl (ownO.read (Sep.at (o := ownO (kF .f32) 29 v19 x13.2.2.2.1) S_36 1 rfl)) hx73) ?_
             intro v80 fv80
             refine HK.yf 30 rfl rfl rfl rfl rfl c44 (by decide) (by decide +kernel) (fun _ _ _ h => h) (opx_loadF rfl Try.one29 rfl fv80 (ownO.read (Sep.at (o := ownO (kF .f32) 29 v19 x13.2.2.2.1) S_36 1 rfl)) hx73) ?_
             intro v81 fv81
             refine HK.y 31 rfl rfl rfl rfl rfl c44 (by decide) (by decide +kernel) (fun _ _ _ h => h) (opx_fieldAddr rfl Try.fo33_3 rfl) ?_
             refine HK.y 32 rfl rfl rfl rfl rfl c44 (by decide) (by decide +kernel) (fun _ _ _ h => h) (opx_loadB rfl Try.one25 rfl (Sep.at (o := boxO bb1 [(.int .i64 x2.1), (.int .i64 x2.2.1), (.bool x2.2.2.1), v1, v2]) S_36 19 rfl) rfl) ?_
             refine HK.y 33 rfl rfl rfl rfl rfl c44 (by decide) (by decide +kernel) (fun _ _ _ h => h) (opx_move rfl rfl) ?_
             obtain ⟨x74, hx74, hy8⟩ := Option.bind_eq_some_iff.1 hy8
             refine HK.yf 34 rfl rfl rfl rfl rfl c44 (by decide) (by decide +kernel) (fun _ _ _ h => h) (opx_indexP rfl Try.underlying25 (by rw [Try.size29]; rfl) rfl rfl (ownO.read (Sep.at (o := ownO (kF .f32) 29 v1 x2.2.2.2.1) S_36 20 rfl)) hx74) ?_
             intro v82 fv82
             refine HK.yf 35 rfl rfl rfl rfl rfl c44 (by decide) (by decide +kernel) (fun _ _ _ h => h) (opx_loadF rfl Try.one29 rfl fv82 (ownO.read (Sep.at (o := ownO (kF .f32) 29 v1 x2.2.2.2.1) S_36 20 rfl)) hx74) ?_
             intro v83 fv83
             obtain ⟨x75, hx75, hy8⟩ := Option.bind_eq_some_iff.1 hy8
             refine HK.sy 36 _ rfl rfl rfl rfl rfl c44 (by decide) (by decide +kernel) (opv_call (cap := []) (spec_SameNumber_ok _ _ _ fv81 _ _ fv83 _ hx75) rfl rfl ⟨rfl, rfl, trivial⟩ Try.func48 rfl rfl) ?_
             rintro _ _ ⟨rfl, rfl⟩
             refine ⟨rfl, ?_⟩
             refine HK.y 37 rfl rfl rfl rfl rfl c44 (by decide) (by decide +kernel) (fun _ _ _ h => h) (opx_not rfl rfl) ?_
             refine HK.y 38 rfl rfl rfl rfl rfl rfl (by decide) (by decide +kernel) (fun _ _ _ h => h) (opx_pick rfl rfl (fun _ => rfl) (fun e => absurd (Eq.trans (Eq.symm e) c44) (by decide)) rfl) ?_
             refine HK.d 39 rfl rfl rfl (by decide) (by decide +kernel) (fun _ _ _ h => h) (opx_pick rfl rfl (fun e => absurd (Eq.trans (Eq.symm e) rfl) (by decide)) (fun _ => rfl) rfl) ?_
             refine HK.done (by decide +kernel) ?_
             have ey8 := Option.some.inj hy8
             subst ey8
             refine onlyN ?_
             exact ⟨⟨rfl, rfl, rfl, rfl, rfl, rfl, rfl, rfl, rfl, rfl, rfl, rfl, rfl, rfl, rfl, rfl, rfl, rfl, rfl, rfl, rfl, rfl, rfl, rfl, rfl, rfl, rfl, rfl, rfl, rfl, rfl, rfl, rfl, rfl, rfl, rfl, rfl, trivial⟩, rfl⟩
            ·rw [if_neg c44] at hy8
             have c44 := eq_false_of_ne_true c44
             refine HK.n 26 rfl rfl rfl rfl rfl c44 (by decide) (by decide +kernel) (fun _ _ _ h => h) ?_
             refine HK.n 27 rfl rfl rfl rfl rfl c44 (by decide) (by decide +kernel) (fun _ _ _ h => h) ?_
             refine HK.n 28 rfl rfl rfl rfl rfl c44 (by decide) (by decide +kernel) (fun _ _ _ h => h) ?_
             refine HK.n 29 rfl rfl rfl rfl rfl c44 (by decide) (by decide +kernel) (fun _ _ _ h => h) ?_
             refine HK.n 30 rfl rfl rfl rfl rfl c44 (by decide) (by decide +kernel) (fun _ _ _ h => h) ?_
             refine HK.n 31 rfl rfl rfl rfl rfl c44 (by decide) (by decide +kernel) (fun _ _ _ h => h) ?_
             refine HK.n 32 rfl rfl rfl rfl rfl c44 (by decide) (by decide +kernel) (fun _ _ _ h => h) ?_
             refine HK.n 33 rfl rfl rfl rfl rfl c44 (by decide) (by decide +kernel) (fun _ _ _ h => h) ?_
             refine HK.n 34 rfl rfl rfl rfl rfl c44 (by decide) (by decide +kernel) (fun _ _ _ h => h) ?_
             refine HK.n 35 rfl rfl rfl rfl rfl c44 (by decide) (by decide +kernel) (fun _ _ _ h => h) ?_
             refine HK.n 36 rfl rfl rfl rfl rfl c44 (by decide) (by decide +kernel) (fun _ _ _ h => h) ?_
             refine HK.n 37 rfl rfl rfl rfl rfl c44 (by decide) (by decide +kernel) (fun _ _ _ h => h) ?_
             refine HK.y 38 rfl rfl rfl rfl rfl rfl (by decide) (by decide +kernel) (fun _ _ _ h => h) (opx_pick rfl rfl (fun e => absurd (Eq.trans (Eq.symm e) c44) (by decide)) (fun _ => rfl) rfl) ?_
             refine HK.d 39 rfl rfl rfl (by decide) (by decide +kernel) (fun _ _ _ h => h) (opx_pick rfl rfl (fun e => absurd (Eq.trans (Eq.symm e) rfl) (by decide)) (fun _ => rfl) rfl) ?_
             refine HK.done (by decide +kernel) ?_
             have ey8 := Option.some.inj hy8
             subst ey8
             refine onlyN ?_
             exact ⟨⟨rfl, rfl, rfl, rfl, rfl, rfl, rfl, rfl, rfl, rfl, rfl, rfl, rfl, rfl, rfl, rfl, rfl, rfl, rfl, rfl, rfl, rfl, rfl, rfl, rfl, rfl, rfl, rfl, rfl, rfl, rfl, rfl, rfl, rfl, rfl, rfl, rfl, trivial⟩, rfl⟩
         ·rw [if_neg c38] at hy8
          have c38 := eq_false_of_ne_true c38
          refine HK.n 4 rfl rfl rfl rfl rfl c38 (by decide) (by decide +kernel) (fun _ _ _ h => h) ?_
          refine HK.n 5 rfl rfl rfl rfl rfl c38 (by decide) (by decide +kernel) (fun _ _ _ h => h) ?_
          refine HK.n 6 rfl rfl rfl rfl rfl c38 (by decide) (by decide +kernel) (fun _ _ _ h => h) ?_
          refine HK.d 7 rfl rfl rfl (by decide) (by decide +kernel) (fun _ _ _ h => h) (opx_pick rfl rfl (fun e => absurd (Eq.trans (Eq.symm e) c38) (by decide)) (fun _ => rfl) rfl) ?_
          refine HK.d 8 rfl rfl rfl (by decide) (by decide +kernel) (fun _ _ _ h => h) (opx_move rfl rfl) ?_
          refine HK.n 9 rfl rfl rfl rfl rfl rfl (by decide) (by decide +kernel) (fun _ _ _ h => h) ?_
          refine HK.n 10 rfl rfl rfl rfl rfl rfl (by decide) (by decide +kernel) (fun _ _ _ h => h) ?_
          refine HK.n 11 rfl rfl rfl rfl rfl rfl (by decide) (by decide +kernel) (fun _ _ _ h => h) ?_
          refine HK.n 12 rfl rfl rfl rfl rfl rfl (by decide) (by decide +kernel) (fun _ _ _ h => h) ?_
          refine HK.n 13 rfl rfl rfl rfl rfl rfl (by decide) (by decide +kernel) (fun _ _ _ h => h) ?_
          refine HK.n 14 rfl rfl rfl rfl rfl rfl (by decide) (by decide +kernel) (fun _ _ _ h => h) ?_
          refine HK.d 15 rfl rfl rfl (by decide) (by decide +kernel) (fun _ _ _ h => h) (opx_pick rfl rfl (fun e => absurd (Eq.trans (Eq.symm e) rfl) (by decide)) (fun _ => rfl) rfl) ?_
          refine HK.d 16 rfl rfl rfl (by decide) (by decide +kernel) (fun _ _ _ h => h) (opx_move rfl rfl) ?_
          refine HK.y 17 rfl rfl rfl rfl rfl rfl (by decide) (by decide +kernel) (fun _ _ _ h => h) (opx_move rfl rfl) ?_
          refine HK.y 18 rfl rfl rfl rfl rfl rfl (by decide) (by decide +kernel) (fun _ _ _ h => h) (opx_move rfl rfl) ?_
          refine HK.y 19 rfl rfl rfl rfl rfl rfl (by decide) (by decide +kernel) (fun _ _ _ h => h) (opx_icmp rfl rfl rfl rfl) ?_
          refine HK.y 20 rfl rfl rfl rfl rfl rfl (by decide) (by decide +kernel) (fun _ _ _ h => h) (opx_move rfl rfl) ?_
          by_cases c45 : ((Int.tmod x20 x2.1) != x12) = true
          ·rw [if_pos c45] at hy8
           refine HK.n 21 rfl rfl rfl rfl rfl c45 (by decide) (by decide +kernel) (fun _ _ _ h => h) ?_
           refine HK.n 22 rfl rfl rfl rfl rfl c45 (by decide) (by decide +kernel) (fun _ _ _ h => h) ?_
           refine HK.n 23 rfl rfl rfl rfl rfl c45 (by decide) (by decide +kernel) (fun _ _ _ h => h) ?_
           refine HK.y 24 rfl rfl rfl rfl rfl rfl (by decide) (by decide +kernel) (fun _ _ _ h => h) (opx_pick rfl rfl (fun _ => rfl) (fun e => absurd (Eq.trans (Eq.symm e) c45) (by decide)) rfl) ?_
           refine HK.y 25 rfl rfl rfl rfl rfl rfl (by decide) (by decide +kernel) (fun _ _ _ h => h) (opx_move rfl rfl) ?_
           refine HK.y 26 rfl rfl rfl rfl rfl rfl (by decide) (by decide +kernel) (fun _ _ _ h => h) (opx_fieldAddr rfl Try.fo33_3 rfl) ?_
           refine HK.y 27 rfl rfl rfl rfl rfl rfl (by decide) (by decide +kernel) (fun _ _ _ h => h) (opx_loadB rfl Try.one25 rfl (Sep.at (o := boxO bb6 [(.int .i64 x13.1), (.int .i64 x13.2.1), (.bool x13.2.2.1), v19, v20]) S_36 0 rfl) rfl) ?_
           refine HK.y 28 rfl rfl rfl rfl rfl rfl (by decide) (by decide +kernel) (fun _ _ _ h => h) (opx_move rfl rfl) ?_
           obtain ⟨x76, hx76, hy8⟩ := Option.bind_eq_some_iff.1 hy8
           refine HK.yf 29 rfl rfl rfl rfl rfl rfl (by decide) (by decide +kernel) (fun _ _ _ h => h) (opx_indexP rfl Try.underlying25 (by rw [Try.size29]; rfl) rfl rfl (ownO.read (Sep.at (o := ownO (kF .f32) 29 v19 x13.2.2.2.1) S_36 1 rfl)) hx76) ?_
           intro v84 fv84
           refine HK.yf 30 rfl rfl rfl rfl rfl rfl (by decide) (by decide +kernel) (fun _ _ _ h => h) (opx_loadF rfl Try.one29 rfl fv84 (ownO.read (Sep.at (o := ownO (kF .f32) 29 v19 x13.2.2.2.1) S_36 1 rfl)) hx76) ?_
           intro v85 fv85
           refine HK.y 31 rfl rfl rfl rfl rfl rfl (by decide) (by decide +kernel) (fun _ _ _ h => h) (opx_fieldAddr rfl Try.fo33_3 rfl) ?_
           refine HK.y 32 rfl rfl rfl rfl rfl rfl (by decide) (by decide +kernel) (fun _ _ _ h => h) (opx_loadB rfl Try.one25 rfl (Sep.at (o := boxO bb1 [(.int .i64 x2.1), (.int .i64 x2.2.1), (.bool x2.2.2.1), v1, v2]) S_36 19 rfl) rfl) ?_
           refine HK.y 33 rfl rfl rfl rfl rfl rfl (by decide) (by decide +kernel) (fun _ _ _ h => h) (opx_move rfl rfl) ?_
           obtain ⟨x77, hx77, hy8⟩ := Option.bind_eq_some_iff.1 hy8
           refine HK.yf 34 rfl rfl rfl rfl rfl rfl (by decide) (by decide +kernel) (fun _ _ _ h => h) (opx_indexP rfl Try.underlying25 (by rw [Try.size29]; rfl) rfl rfl (ownO.read (Sep.at (o := ownO (kF .f32) 29 v1 x2.2.2.2.1) S_36 20 rfl)) hx77) ?_
           intro v86 fv86
           refine HK.yf 35 rfl rfl rfl rfl rfl rfl (by decide) (by decide +kernel) (fun _ _ _ h => h) (opx_loadF rfl Try.one29 rfl fv86 (ownO.read (Sep.at (o := ownO (kF .f32) 29 v1 x2.2.2.2.1) S_36 20 rfl)) hx77) ?_
           intro v87 fv87
           obtain ⟨x78, hx78, hy8⟩ := Option.bind_eq_some_iff.1 hy8
           refine HK.sy 36 _ rfl rfl rfl rfl rfl rfl (by decide) (by decide +kernel) (opv_call (cap := []) (spec_SameNumber_ok _ _ _ fv85 _ _ fv87 _ hx78) rfl rfl ⟨rfl, rfl, trivial⟩ Try.func48 rfl rfl) ?_
           rintro _ _ ⟨rfl, rfl⟩
           refine ⟨rfl, ?_⟩
           refine HK.y 37 rfl rfl rfl rfl rfl rfl (by decide) (by decide +kernel) (fun _ _ _ h => h) (opx_not rfl rfl) ?_
           refine HK.y 38 rfl rfl rfl rfl rfl rfl (by decide) (by decide +kernel) (fun _ _ _ h => h) (opx_pick rfl rfl (fun _ => rfl) (fun e => absurd (Eq.trans (Eq.symm e) rfl) (by decide)) rfl) ?_
           refine HK.d 39 rfl rfl rfl (by decide) (by decide +kernel) (fun _ _ _ h => h) (opx_pick rfl rfl (fun e => absurd (Eq.trans (Eq.symm e) rfl) (by decide)) (fun _ => rfl) rfl) ?_
           refine HK.done (by decide +kernel) ?_
           have ey8 := Option.some.inj hy8
           subst ey8
           refine onlyN ?_
           exact ⟨⟨rfl, rfl, rfl, rfl, rfl, rfl, rfl, rfl, rfl, rfl, rfl, rfl, rfl, rfl, rfl, rfl, rfl, rfl, rfl, rfl, rfl, rfl, rfl, rfl, rfl, rfl, rfl, rfl, rfl, rfl, rfl, rfl, rfl, rfl, rfl, rfl, rfl, trivial⟩, rfl⟩
          ·rw [if_neg c45] at hy8
           have c45 := eq_false_of_ne_true c45
           refine HK.y 21 rfl rfl rfl rfl rfl c45 (by decide) (by decide +kernel) (fun _ _ _ h => h) (opx_move rfl rfl) ?_
           refine HK.y 22 rfl rfl rfl rfl rfl c45 (by decide) (by decide +kernel) (fun _ _ _ h => h) (opx_move rfl rfl) ?_
           refine HK.y 23 rfl rfl rfl rfl rfl c45 (by decide) (by decide +kernel) (fun _ _ _ h => h) (opx_icmp rfl rfl rfl rfl) ?_
           refine HK.y 24 rfl rfl rfl rfl rfl rfl (by decide) (by decide +kernel) (fun _ _ _ h => h) (opx_pick rfl rfl (fun e => absurd (Eq.trans (Eq.symm e) c45) (by decide)) (fun _ => rfl) rfl) ?_
           refine HK.y 25 rfl rfl rfl rfl rfl rfl (by decide) (by decide +kernel) (fun _ _ _ h => h) (opx_move rfl rfl) ?_
           by_cases c46 : ((IntKind.wrap .i64 (Int.tdiv x20 x2.1)) == x8) = true
           ·rw [if_pos c46] at hy8
            refine HK.y 26 rfl rfl rfl rfl rfl c46 (by decide) (by decide +kernel) (fun _ _ _ h => h) (opx_fieldAddr rfl Try.fo33_3 rfl) ?_
            refine HK.y 27 rfl rfl rfl rfl rfl c46 (by decide) (by decide +kernel) (fun _ _ _ h => h) (opx_loadB rfl Try.one25 rfl (Sep.at (o := boxO bb6 [(.int .i64 x13.1), (.int .i64 x13.2.1), (.bool x13.2.2.1), v19, v20]) S_36 0 rfl) rfl) ?_
            refine HK.y 28 rfl rfl rfl rfl rfl c46 (by decide) (by decide +kernel) (fun _ _ _ h => h) (opx_move rfl rfl) ?_
            obtain ⟨x79, hx79, hy8⟩ := Option.bind_eq_some_iff.1 hy8
            refine HK.yf 29 rfl rfl rfl rfl rfl c46 (by decide) (by decide +kernel) (fun _ _ _ h => h) (opx_indexP rfl Try.underlying25 (by rw [Try.size29]; rfl) rfl rfl (ownO.read (Sep.at (o := ownO (kF .f32) 29 v19 x13.2.2.2.1) S_36 1 rfl)) hx79) ?_
            intro v88 fv88
            refine HK.yf 30 rfl rfl rfl rfl rfl c46 (by decide) (by decide +kernel) (fun _ _ _ h => h) (opx_loadF rfl Try.one29 rfl fv88 (ownO.read (Sep.at (o := ownO (kF .f32) 29 v19 x13.2.2.2.1) S_36 1 rfl)) hx79) ?_
            intro v89 fv89
            refine HK.y 31 rfl rfl rfl rfl rfl c46 (by decide) (by decide +kernel) (fun _ _ _ h => h) (opx_fieldAddr rfl Try.fo33_3 rfl) ?_
            refine HK.y 32 rfl rfl rfl rfl rfl c46 (by decide) (by decide +kernel) (fun _ _ _ h => h) (opx_loadB rfl Try.one25 rfl (Sep.at (o := boxO bb1 [(.int .i64 x2.1), (.int .i64 x2.2.1), (.bool x2.2.2.1), v1, v2]) S_36 19 rfl) rfl) ?_
            refine HK.y 33 rfl rfl rfl rfl rfl c46 (by decide) (by decide +kernel) (fun _ _ _ h => h) (opx_move rfl rfl) ?_
            obtain ⟨x80, hx80, hy8⟩ := Option.bind_eq_some_iff.1 hy8
            refine HK.yf 34 rfl rfl rfl rfl rfl c46 (by decide) (by decide +kernel) (fun _ _ _ h => h) (opx_indexP rfl Try.underlying25 (by rw [Try.size29]; rfl) rfl rfl (ownO.read (Sep.at (o := ownO (kF .f32) 29 v1 x2.2.2.2.1) S_36 20 rfl)) hx80) ?_
            intro v90 fv90
            refine HK.yf 35 rfl rfl rfl rfl rfl c46 (by decide) (by decide +kernel) (fun _ _ _ h => h) (opx_loadF rfl Try.one29 rfl fv90 (ownO.read (Sep.at (o := ownO (kF .f32) 29 v1 x2.2.2.2.1) S_36 20 rfl)) hx80) ?_
            intro v91 fv91
            obtain ⟨x81, hx81, hy8⟩ := Option.bind_eq_some_iff.1 hy8
            refine HK.sy 36 _ rfl rfl rfl rfl rfl c46 (by decide) (by decide +kernel) (opv_call (cap := []) (spec_SameNumber_ok _ _ _ fv89 _ _ fv91 _ hx81) rfl rfl ⟨rfl, rfl, trivial⟩ Try.func48 rfl rfl) ?_
            rintro _ _ ⟨rfl, rfl⟩
            refine ⟨rfl, ?_⟩
            refine HK.y 37 rfl rfl rfl rfl rfl c46 (by decide) (by decide +kernel) (fun _ _ _ h => h) (opx_not rfl rfl) ?_
            refine HK.y 38 rfl rfl rfl rfl rfl rfl (by decide) (by decide +kernel) (fun _ _ _ h => h) (opx_pick rfl rfl (fun _ => rfl) (fun e => absurd (Eq.trans (Eq.symm e) c46) (by decide)) rfl) ?_
            refine HK.d 39 rfl rfl rfl (by decide) (by decide +kernel) (fun _ _ _ h => h) (opx_pick rfl rfl (fun e => absurd (Eq.trans (Eq.symm e) rfl) (by decide)) (fun _ => rfl) rfl) ?_
            refine HK.done (by decide +kernel) ?_
            have ey8 := Option.some.inj hy8
            subst ey8
            refine onlyN ?_
            exact ⟨⟨rfl, rfl, rfl, rfl, rfl, rfl, rfl, rfl, rfl, rfl, rfl, rfl, rfl, rfl, rfl, rfl, rfl, rfl, rfl, rfl, rfl, rfl, rfl, rfl, rfl, rfl, rfl, rfl, rfl, rfl, rfl, rfl, rfl, rfl, rfl, rfl, rfl, trivial⟩, rfl⟩
           ·rw [if_neg c46] at hy8
            have c46 := eq_false_of_ne_true c46
            refine HK.n 26 rfl rfl rfl rfl rfl c46 (by decide) (by decide +kernel) (fun _ _ _ h => h) ?_
            refine HK.n 27 rfl rfl rfl rfl rfl c46 (by decide) (by decide +kernel) (fun _ _ _ h => h) ?_
            refine HK.n 28 rfl rfl rfl rfl rfl c46 (by decide) (by decide +kernel) (fun _ _ _ h => h) ?_
            refine HK.n 29 rfl rfl rfl rfl rfl c46 (by decide) (by decide +kernel) (fun _ _ _ h => h) ?_
            refine HK.n 30 rfl rfl rfl rfl rfl c46 (by decide) (by decide +kernel) (fun _ _ _ h => h) ?_
            refine HK.n 31 rfl rfl rfl rfl rfl c46 (by decide) (by decide +kernel) (fun _ _ _ h => h) ?_
            refine HK.n 32 rfl rfl rfl rfl rfl c46 (by decide) (by decide +kernel) (fun _ _ _ h => h) ?_
            refine HK.n 33 rfl rfl rfl rfl rfl c46 (by decide) (by decide +kernel) (fun _ _ _ h => h) ?_
            refine HK.n 34 rfl rfl rfl rfl rfl c46 (by decide) (by decide +kernel) (fun _ _ _ h => h) ?_
            refine HK.n 35 rfl rfl rfl rfl rfl c46 (by decide) (by decide +kernel) (fun _ _ _ h => h) ?_
            refine HK.n 36 rfl rfl rfl rfl rfl c46 (by decide) (by decide +kernel) (fun _ _ _ h => h) ?_
            refine HK.n 37 rfl rfl rfl rfl rfl c46 (by decide) (by decide +kernel) (fun _ _ _ h => h) ?_
            refine HK.y 38 rfl rfl rfl rfl rfl rfl (by decide) (by decide +kernel) (fun _ _ _ h => h) (opx_pick rfl rfl (fun e => absurd (Eq.trans (Eq.symm e) c46) (by decide)) (fun _ => rfl) rfl) ?_
            refine HK.d 39 rfl rfl rfl (by decide) (by decide +kernel) (fun _ _ _ h => h) (opx_pick rfl rfl (fun e => absurd (Eq.trans (Eq.symm e) rfl) (by decide)) (fun _ => rfl) rfl) ?_
            refine HK.done (by decide +kernel) ?_
            have ey8 := Option.some.inj hy8
            subst ey8
            refine onlyN ?_
            exact ⟨⟨rfl, rfl, rfl, rfl, rfl, rfl, rfl, rfl, rfl, rfl, rfl, rfl, rfl, rfl, rfl, rfl, rfl, rfl, rfl, rfl, rfl, rfl, rfl, rfl, rfl, rfl, rfl, rfl, rfl, rfl, rfl, rfl, rfl, rfl, rfl, rfl, rfl, trivial⟩, rfl⟩
        rintro φ' _ ⟨hs10, rfl⟩
        refine thnN ?_
        refine W.sub hs10 ?_
        by_cases c47 : x62 = true
        ·rw [if_pos c47] at ho1
         refine W.condT rfl c47 ?_
         refine W.seq ?_
         refine W.region ?_
         refine RL.opD (by decide) (opv_assign rfl rfl) ?_
         refine RL.nil ?_
         refine thnN ?_
         refine W.ret ?_
         refine blkR ?_
         refine thnR ?_
         have eo1 := Option.some.inj ho1
         subst eo1
         have ey2 := hy1 _ rfl
         subst ey2
         try dsimp only at hp
         refine rndR ?_
         refine blkR ?_
         refine onlyR ?_
         refine thnR ?_
         have er := Option.some.inj hp
         subst er
         exact Rt.one rfl rfl ⟨rfl, X_29, (Sep.nil _ _ _)⟩
        ·rw [if_neg c47] at ho1
         have c47 := eq_false_of_ne_true c47
         refine W.condF rfl c47 ?_
         refine W.skip ?_
         refine blkN ?_
         refine thnN ?_
         refine W.region ?_
         refine RL.opD (by decide) (opv_add rfl rfl rfl) ?_
         refine RL.opD (by decide) (opv_move rfl rfl) ?_
         refine RL.nil ?_
         have eo1 := Option.some.inj ho1
         subst eo1
         refine rndN (s' := (x19, IntKind.wrap .i64 (x20 + 1))) rfl ?_
         exact ⟨⟨rfl, rfl, rfl, rfl, rfl, rfl, rfl, rfl, rfl, rfl, rfl, rfl, rfl, rfl, rfl, rfl, rfl, rfl, rfl, rfl, rfl, rfl, rfl, trivial⟩, X_29, (Sep.sel S_36 [0, 1, 2, 3, 4, 5, 6, 7, 8, 9, 10, 11, 12, 13, 14, 15, 16, 17, 18, 19, 20, 21] (by decide))⟩
    ·rw [if_neg c11] at ho1
     have c11 := eq_false_of_ne_true c11
     refine W.condF rfl c11 ?_
     refine W.exit ?_
     refine thnX ?_
     refine rndX ?_
     refine blkI ?_
     have eo1 := Option.some.inj ho1
     subst eo1
     have ey2 := hy1 _ rfl
     subst ey2
     refine onlyN ?_
     exact ⟨x19, x20, decide (x20 < (x2.2.2.2.1.length : Int)), rfl, ⟨rfl, rfl, rfl, rfl, rfl, rfl, rfl, rfl, rfl, rfl, rfl, rfl, rfl, rfl, rfl, rfl, rfl, rfl, rfl, rfl, rfl, rfl, rfl, rfl, trivial⟩, X_28, (Sep.sel S_35 [0, 1, 2, 3, 4, 5, 6, 7, 8, 9, 10, 11, 12, 13, 14, 15, 16, 17, 18, 19, 20, 21] (by decide))⟩
   rintro φ' hp42 ⟨x21, x22, x23, rfl, hs3, X_30, S_37⟩
   try dsimp only at hp
   refine thnN ?_
   refine W.sub hs3 ?_
   refine W.seq ?_
   refine W.region ?_
   refine RL.opD (by decide) (opv_assign rfl rfl) ?_
   refine RL.nil ?_
   refine thnN ?_
   refine W.ret ?_
   have er := Option.some.inj hp
   subst er
   exact Rt.one rfl rfl ⟨rfl, X_30, (Sep.nil _ _ _)⟩

end Go.H
