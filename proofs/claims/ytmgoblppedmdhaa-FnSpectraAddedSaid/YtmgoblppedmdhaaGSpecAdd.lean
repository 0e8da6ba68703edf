/- Functions of the program: what each computes, as a plain function, and that the call comes to it. Written by a program (wip/gen). -/
import Derived.Test.YtmgoblppedmdhaaGBase
import Derived.Test.YtmgoblppedmdhaaGSheet
import Derived.Test.YtmgoblppedmdhaaGSrc
import Derived.Test.YtmgoblppedmdhaaGRec
import Derived.Test.YtmgoblppedmdhaaGTrig
import Derived.Test.YtmgoblppedmdhaaGSpec
import Derived.Test.YtmgoblppedmdhaaLibB
import Derived.Test.YtmgoblppedmdhaaProg
import Derived.KernelRfl
set_option linter.unusedVariables false
namespace Go.H
open Go Go.Proofs



noncomputable def math_Signbit (a0 : Option Nat) : Option Bool :=
 fsign a0

noncomputable def impl_SameNumber (a0 : Option Nat) (a1 : Option Nat) : Option Bool :=
 (((if (fcmp .neq .f32 a0 a0) = true then some true else some (fcmp .neq .f32 a1 a1)) : Option Bool).bind fun (x1 : Bool) => (if x1 = true then (((if (fcmp .neq .f32 a0 a0) = true then some (fcmp .neq .f32 a1 a1) else some false) : Option Bool).bind fun (x2 : Bool) => some x2) else (((if (fcmp .eql .f32 a0 a1) = true then ((math_Signbit (wid a0)).bind fun (x4 : Bool) => ((math_Signbit (wid a1)).bind fun (x5 : Bool) => some (x4 == x5))) else some false) : Option Bool).bind fun (x3 : Bool) => some x3)))

noncomputable def impl_SameComplex (a0 : (Option Nat × Option Nat)) (a1 : (Option Nat × Option Nat)) : Option Bool :=
 ((((impl_SameNumber a0.1 a1.1).bind fun (x2 : Bool) => (if x2 = true then ((impl_SameNumber a0.2 a1.2).bind fun (x3 : Bool) => some x3) else some false)) : Option Bool).bind fun (x1 : Bool) => some x1)

noncomputable def impl_isRecord_complex64 (a0 : List ((Option Nat × Option Nat))) : Option Bool :=
 ((impl_within (a0.length : Int) 1 64).bind fun (x1 : Bool) => some x1)

noncomputable def impl_times (a0 : Option Nat) (a1 : Option Nat) (a2 : Option Nat) (a3 : Option Nat) : Option ((Option Nat) × (Option Nat)) :=
 some (fop .sub .f64 (fop .mul .f64 a0 a2) (fop .mul .f64 a1 a3), fop .add .f64 (fop .mul .f64 a0 a3) (fop .mul .f64 a1 a2))

noncomputable def impl_QuotientOf (a0 : (Option Nat × Option Nat)) (a1 : (Option Nat × Option Nat)) : Option (Option Nat × Option Nat) :=
 ((impl_parts a0).bind fun (x1 : ((Option Nat) × (Option Nat))) => ((impl_parts a1).bind fun (x2 : ((Option Nat) × (Option Nat))) => ((impl_times x1.1 x1.2 x2.1 (fneg .f64 x2.2)).bind fun (x3 : ((Option Nat) × (Option Nat))) => ((impl_power a1).bind fun (x4 : Option Nat) => ((fcv .f64 .f32 (fop .quo .f64 x3.1 x4)).bind fun (x5 : Option Nat) => ((fcv .f64 .f32 (fop .quo .f64 x3.2 x4)).bind fun (x6 : Option Nat) => some (x5, x6)))))))

noncomputable def impl_TransferOf.s0 (a0 : List ((Option Nat × Option Nat))) (a1 : List ((Option Nat × Option Nat))) (x3 : List ((Option Nat × Option Nat))) (x4 : Int) : Option (((List ((Option Nat × Option Nat))) × Int) ⊕ (Int × Bool × (List ((Option Nat × Option Nat))))) :=
 (if (decide (x4 < (a0.length : Int))) = true then ((idx a0 x4).bind fun (x8 : (Option Nat × Option Nat)) => ((idx a1 x4).bind fun (x9 : (Option Nat × Option Nat)) => ((impl_QuotientOf x8 x9).bind fun (x10 : (Option Nat × Option Nat)) => (if x3.length + [x10].length ≤ 1000000000 then some (.inl (x3 ++ [x10], IntKind.wrap .i64 (x4 + 1))) else none)))) else some (.inr (x4, decide (x4 < (a0.length : Int)), x3)))

noncomputable def impl_TransferOf (a0 : List ((Option Nat × Option Nat))) (a1 : List ((Option Nat × Option Nat))) : Option ((List ((Option Nat × Option Nat))) × Bool) :=
 ((((impl_isRecord_complex64 a0).bind fun (x2 : Bool) => (if (!x2) = true then some true else some ((a1.length : Int) != (a0.length : Int)))) : Option Bool).bind fun (x1 : Bool) => (if x1 = true then some (([] : List ((Option Nat × Option Nat))), false) else ((loopF (fun (s : ((List ((Option Nat × Option Nat))) × Int)) => impl_TransferOf.s0 a0 a1 s.1 s.2) (([] : List ((Option Nat × Option Nat))), 0)).bind fun (⟨x5, x6, x7⟩ : (Int × Bool × (List ((Option Nat × Option Nat))))) => some (x7, true))))

noncomputable def impl_CutSpectrum.s0 (a0 : List ((Option Nat × Option Nat))) (a1 : Int) (a2 : Int) (x5 : Int) (x6 : List ((Option Nat × Option Nat))) : Option ((Int × (List ((Option Nat × Option Nat)))) ⊕ (Int × Bool × (List ((Option Nat × Option Nat))))) :=
 (if (decide (x5 < (a0.length : Int))) = true then ((idx a0 x5).bind fun (x10 : (Option Nat × Option Nat)) => ((((impl_within x5 a1 a2).bind fun (x12 : Bool) => (if x12 = true then some true else ((impl_within (IntKind.wrap .i64 ((a0.length : Int) - x5)) a1 a2).bind fun (x13 : Bool) => some x13))) : Option Bool).bind fun (x11 : Bool) => (((if x11 = true then ((idx x6 x5).bind fun (x15 : (Option Nat × Option Nat)) => ((setF x6 x5 x10).bind fun (x16 : List ((Option Nat × Option Nat))) => some x16)) else some x6) : Option (List ((Option Nat × Option Nat)))).bind fun (x14 : List ((Option Nat × Option Nat))) => some (.inl (IntKind.wrap .i64 (x5 + 1), x14))))) else some (.inr (x5, decide (x5 < (a0.length : Int)), x6)))

noncomputable def impl_CutSpectrum (a0 : List ((Option Nat × Option Nat))) (a1 : Int) (a2 : Int) : Option ((List ((Option Nat × Option Nat))) × Bool) :=
 ((((impl_isRecord_complex64 a0).bind fun (x2 : Bool) => (if (!x2) = true then some true else ((impl_within a1 0 a2).bind fun (x3 : Bool) => (if (!x3) = true then some true else ((impl_within a2 0 (IntKind.wrap .i64 (Int.tdiv (a0.length : Int) 2))).bind fun (x4 : Bool) => some (!x4)))))) : Option Bool).bind fun (x1 : Bool) => (if x1 = true then some (([] : List ((Option Nat × Option Nat))), false) else (if 0 ≤ (a0.length : Int) ∧ (a0.length : Int) ≤ 1000000000 then ((loopF (fun (s : (Int × (List ((Option Nat × Option Nat))))) => impl_CutSpectrum.s0 a0 a1 a2 s.1 s.2) (0, List.replicate (Int.toNat (a0.length : Int)) (some 0, some 0))).bind fun (⟨x7, x8, x9⟩ : (Int × Bool × (List ((Option Nat × Option Nat))))) => some (x9, true)) else none)))

noncomputable def laws_FnSpectraAdded.s1 (x2 : Int) (x12 : ((List ((Option Nat × Option Nat))) × Bool)) (x13 : ((List ((Option Nat × Option Nat))) × Bool)) (x14 : ((List ((Option Nat × Option Nat))) × Bool)) (x15 : ((List ((Option Nat × Option Nat))) × Bool)) (x16 : Int) (x17 : ((List ((Option Nat × Option Nat))) × Bool)) (x19 : Bool) (x20 : Int) : Option ((Bool × Int) ⊕ ((Bool × Int × Bool) ⊕ Bool)) :=
 (if (decide (x20 < (IntKind.wrap .i64 (1 + x2)))) = true then ((((idx x14.1 x20).bind fun (x25 : (Option Nat × Option Nat)) => ((idx x12.1 x20).bind fun (x26 : (Option Nat × Option Nat)) => ((idx x13.1 x20).bind fun (x27 : (Option Nat × Option Nat)) => ((laws_r8Apart x25 (cop .add .f32 x26 x27)).bind fun (x28 : Option Nat) => (if (fcmp .gtr .f64 x28 (some 4562254508917369340)) = true then some true else ((idx x14.1 x20).bind fun (x29 : (Option Nat × Option Nat)) => ((impl_PowerOf x29).bind fun (x30 : Option Nat) => (if (fcmp .gtr .f32 x30 (some 1008981770)) = true then ((idx x15.1 x20).bind fun (x31 : (Option Nat × Option Nat)) => ((laws_r8Apart x31 (some 1065353216, some 0)).bind fun (x32 : Option Nat) => some (fcmp .gtr .f64 x32 (some 4562254508917369340)))) else some false)))))))) : Option Bool).bind fun (x24 : Bool) => (if x24 = true then some (.inr (.inr false)) else (((if (decide (x20 ≥ x16)) = true then (if (decide (x20 ≤ (IntKind.wrap .i64 (Int.tdiv (IntKind.wrap .i64 (1 + x2)) 2)))) = true then some true else (if (decide ((IntKind.wrap .i64 ((IntKind.wrap .i64 (1 + x2)) - x20)) ≥ x16)) = true then some (decide ((IntKind.wrap .i64 ((IntKind.wrap .i64 (1 + x2)) - x20)) ≤ (IntKind.wrap .i64 (Int.tdiv (IntKind.wrap .i64 (1 + x2)) 2)))) else some false)) else (if (decide ((IntKind.wrap .i64 ((IntKind.wrap .i64 (1 + x2)) - x20)) ≥ x16)) = true then some (decide ((IntKind.wrap .i64 ((IntKind.wrap .i64 (1 + x2)) - x20)) ≤ (IntKind.wrap .i64 (Int.tdiv (IntKind.wrap .i64 (1 + x2)) 2)))) else some false)) : Option Bool).bind fun (x33 : Bool) => (((if x33 = true then ((idx x17.1 x20).bind fun (x35 : (Option Nat × Option Nat)) => ((idx x14.1 x20).bind fun (x36 : (Option Nat × Option Nat)) => ((impl_SameComplex x35 x36).bind fun (x37 : Bool) => (if (!x37) = true then some true else (if (!x33) = true then ((idx x17.1 x20).bind fun (x38 : (Option Nat × Option Nat)) => some (ccmp .neq .f32 x38 (some 0, some 0))) else some false))))) else (if (!x33) = true then ((idx x17.1 x20).bind fun (x39 : (Option Nat × Option Nat)) => some (ccmp .neq .f32 x39 (some 0, some 0))) else some false)) : Option Bool).bind fun (x34 : Bool) => (if x34 = true then some (.inr (.inr false)) else some (.inl (x19, IntKind.wrap .i64 (x20 + 1)))))))) else some (.inr (.inl (x19, x20, decide (x20 < (IntKind.wrap .i64 (1 + x2)))))))

noncomputable def laws_FnSpectraAdded.s0 (x2 : Int) (x3 : List (Option Nat)) (x4 : List (Option Nat)) (x5 : List (Option Nat)) (x6 : Int) : Option (((List (Option Nat)) × Int) ⊕ (Int × Bool × (List (Option Nat)))) :=
 (if (decide (x6 < (IntKind.wrap .i64 (1 + x2)))) = true then ((idx x3 x6).bind fun (x10 : Option Nat) => ((idx x4 x6).bind fun (x11 : Option Nat) => (if x5.length + [fop .add .f32 x10 x11].length ≤ 1000000000 then some (.inl (x5 ++ [fop .add .f32 x10 x11], IntKind.wrap .i64 (x6 + 1))) else none))) else some (.inr (x6, decide (x6 < (IntKind.wrap .i64 (1 + x2))), x5)))

noncomputable def laws_FnSpectraAdded (a0 : List (Int)) (a1 : List (Int)) : Option Bool :=
 ((laws_r8Long a0 a1).bind fun (x1 : Bool) => (if x1 = true then some true else ((laws_r8At a1 40 10).bind fun (x2 : Int) => ((spec_R8Record a0 (IntKind.wrap .i64 (1 + x2))).bind fun (x3 : List (Option Nat)) => ((spec_R8Record a1 (IntKind.wrap .i64 (1 + x2))).bind fun (x4 : List (Option Nat)) => ((loopF (fun (s : ((List (Option Nat)) × Int)) => laws_FnSpectraAdded.s0 x2 x3 x4 s.1 s.2) (([] : List (Option Nat)), 0)).bind fun (⟨x7, x8, x9⟩ : (Int × Bool × (List (Option Nat)))) => ((impl_SpectrumOf x3).bind fun (x12 : ((List ((Option Nat × Option Nat))) × Bool)) => ((impl_SpectrumOf x4).bind fun (x13 : ((List ((Option Nat × Option Nat))) × Bool)) => ((impl_SpectrumOf x9).bind fun (x14 : ((List ((Option Nat × Option Nat))) × Bool)) => ((impl_TransferOf x14.1 x14.1).bind fun (x15 : ((List ((Option Nat × Option Nat))) × Bool)) => ((laws_r8At a1 41 (IntKind.wrap .i64 ((IntKind.wrap .i64 (Int.tdiv (IntKind.wrap .i64 (1 + x2)) 2)) + 1))).bind fun (x16 : Int) => ((impl_CutSpectrum x14.1 x16 (IntKind.wrap .i64 (Int.tdiv (IntKind.wrap .i64 (1 + x2)) 2))).bind fun (x17 : ((List ((Option Nat × Option Nat))) × Bool)) => (((if (!x12.2) = true then some true else (if (!x13.2) = true then some true else (if (!x14.2) = true then some true else (if (!x15.2) = true then some true else (if (!x17.2) = true then some true else (if ((x14.1.length : Int) != (IntKind.wrap .i64 (1 + x2))) = true then some true else (if ((x15.1.length : Int) != (IntKind.wrap .i64 (1 + x2))) = true then some true else some ((x17.1.length : Int) != (IntKind.wrap .i64 (1 + x2)))))))))) : Option Bool).bind fun (x18 : Bool) => (if x18 = true then some false else ((loopF (fun (s : (Bool × Int)) => laws_FnSpectraAdded.s1 x2 x12 x13 x14 x15 x16 x17 s.1 s.2) (false, 0)).bind fun (y3 : ((Bool × Int × Bool) ⊕ Bool)) => match y3 with | .inl (x21, x22, x23) => some true | .inr r1 => some r1)))))))))))))))

set_option maxRecDepth 20000 in
theorem math_Signbit_ok (h0 : Heap) (u0 : Value) (a0 : Option Nat) (g0 : IsF .f64 u0 a0) (r : Bool) (hp : math_Signbit a0 = some r) : CallsH Try.prog 88 ([u0].toArray ++ [].toArray) h0 (fun v h' => v = (.bool r) ∧ h0 = h') := by
 unfold math_Signbit at hp
 obtain ⟨b0, rfl, hb0, hc0⟩ := g0
 have g0 : IsF .f64 (.float .f64 b0) a0 := ⟨b0, rfl, hb0, hc0⟩
 refine callsH_of_W (l := [(.float .f64 b0)]) (cap := []) 7 Try.func88 rfl rfl rfl ?_
 refine W.seq ?_
 refine W.region ?_
 refine RL.opD (by decide) (opv_assign rfl rfl) ?_
 refine RL.nil ?_
 refine thnN ?_
 refine W.seq ?_
 refine W.region ?_
 refine RL.opD (by decide) (opv_move rfl rfl) ?_
 refine RL.opD (by decide) (opv_ext (vs := [(.float .f64 b0)]) rfl rfl ⟨rfl, trivial⟩ Try.func143 rfl rfl rfl rfl (fun w => raw_bits_run b0 w)) ?_
 refine RL.opD (by decide) (opv_i2i rfl (by rw [Try.underlying154]; rfl) Try.underlying2 rfl) ?_
 refine RL.opD (by decide) (opv_icmp rfl rfl rfl rfl) ?_
 refine RL.opD (by decide) (opv_assign rfl rfl) ?_
 refine RL.nil ?_
 refine thnN ?_
 refine W.ret ?_
 have er := raw_sign hb0 hc0 hp
 subst er
 exact Rt.one rfl rfl ⟨rfl, rfl⟩

set_option maxRecDepth 20000 in
theorem impl_SameNumber_ok (h0 : Heap) (u0 : Value) (a0 : Option Nat) (g0 : IsF .f32 u0 a0) (u1 : Value) (a1 : Option Nat) (g1 : IsF .f32 u1 a1) (r : Bool) (hp : impl_SameNumber a0 a1 = some r) : CallsH Try.prog 30 ([u0, u1].toArray ++ [].toArray) h0 (fun v h' => v = (.bool r) ∧ h0 = h') := by
 unfold impl_SameNumber at hp
 refine callsH_of_W (l := [u0, u1]) (cap := []) 33 Try.func30 rfl rfl rfl ?_
 refine W.seq ?_
 refine W.region ?_
 refine RL.opD (by decide) (opv_assign rfl rfl) ?_
 refine RL.nil ?_
 refine thnN ?_
 refine W.seq ?_
 refine W.seq ?_
 obtain ⟨x1, hy1, hp⟩ := Option.bind_eq_some_iff.1 hp
 refine W.cut (fun φ' h' => Fr.sub [(0, u0), (1, u1), (4, (.bool false)), (12, (.bool x1))] φ' ∧ h0 = h') ?_ ?_
 ·refine W.region ?_
  refine RL.opD (by decide) (opv_move rfl rfl) ?_
  refine RL.opD (by decide) (opv_move rfl rfl) ?_
  refine RL.opD (by decide) (opv_fcmp rfl rfl rfl rfl g0 g0) ?_
  refine RL.opD (by decide) (opv_move rfl rfl) ?_
  by_cases c1 : (fcmp .neq .f32 a0 a0) = true
  ·rw [if_pos c1] at hy1
   refine RL.noT rfl rfl c1 (by decide) ?_
   refine RL.noT rfl rfl c1 (by decide) ?_
   refine RL.noT rfl rfl c1 (by decide) ?_
   refine RL.opD (by decide) (opv_pick rfl rfl (fun _ => rfl) (fun e => absurd (Eq.trans (Eq.symm e) c1) (by decide)) rfl) ?_
   refine RL.nil ?_
   have ey1 := Option.some.inj hy1
   subst ey1
   refine onlyN ?_
   exact ⟨⟨rfl, rfl, rfl, rfl, trivial⟩, rfl⟩
  ·rw [if_neg c1] at hy1
   have c1 := eq_false_of_ne_true c1
   refine RL.yesD rfl rfl c1 (by decide) (opv_move rfl rfl) ?_
   refine RL.yesD rfl rfl c1 (by decide) (opv_move rfl rfl) ?_
   refine RL.yesD rfl rfl c1 (by decide) (opv_fcmp rfl rfl rfl rfl g1 g1) ?_
   refine RL.opD (by decide) (opv_pick rfl rfl (fun e => absurd (Eq.trans (Eq.symm e) c1) (by decide)) (fun _ => rfl) rfl) ?_
   refine RL.nil ?_
   have ey1 := Option.some.inj hy1
   subst ey1
   refine onlyN ?_
   exact ⟨⟨rfl, rfl, rfl, rfl, trivial⟩, rfl⟩
 rintro φ' _ ⟨hs1, rfl⟩
 refine thnN ?_
 refine W.sub hs1 ?_
 by_cases c2 : x1 = true
 ·rw [if_pos c2] at hp
  refine W.condT rfl c2 ?_
  refine W.seq ?_
  obtain ⟨x2, hy2, hp⟩ := Option.bind_eq_some_iff.1 hp
  refine W.cut (fun φ' h' => Fr.sub [(0, u0), (1, u1), (12, (.bool x1)), (4, (.bool x2))] φ' ∧ h0 = h') ?_ ?_
  ·refine W.region ?_
   refine RL.opD (by decide) (opv_move rfl rfl) ?_
   refine RL.opD (by decide) (opv_move rfl rfl) ?_
   refine RL.opD (by decide) (opv_fcmp rfl rfl rfl rfl g0 g0) ?_
   refine RL.opD (by decide) (opv_move rfl rfl) ?_
   by_cases c3 : (fcmp .neq .f32 a0 a0) = true
   ·rw [if_pos c3] at hy2
    refine RL.yesD rfl rfl c3 (by decide) (opv_move rfl rfl) ?_
    refine RL.yesD rfl rfl c3 (by decide) (opv_move rfl rfl) ?_
    refine RL.yesD rfl rfl c3 (by decide) (opv_fcmp rfl rfl rfl rfl g1 g1) ?_
    refine RL.opD (by decide) (opv_pick rfl rfl (fun _ => rfl) (fun e => absurd (Eq.trans (Eq.symm e) c3) (by decide)) rfl) ?_
    refine RL.opD (by decide) (opv_assign rfl rfl) ?_
    refine RL.nil ?_
    have ey2 := Option.some.inj hy2
    subst ey2
    refine onlyN ?_
    exact ⟨⟨rfl, rfl, rfl, rfl, trivial⟩, rfl⟩
   ·rw [if_neg c3] at hy2
    have c3 := eq_false_of_ne_true c3
    refine RL.noF rfl rfl c3 (by decide) ?_
    refine RL.noF rfl rfl c3 (by decide) ?_
    refine RL.noF rfl rfl c3 (by decide) ?_
    refine RL.opD (by decide) (opv_pick rfl rfl (fun e => absurd (Eq.trans (Eq.symm e) c3) (by decide)) (fun _ => rfl) rfl) ?_
    refine RL.opD (by decide) (opv_assign rfl rfl) ?_
    refine RL.nil ?_
    have ey2 := Option.some.inj hy2
    subst ey2
    refine onlyN ?_
    exact ⟨⟨rfl, rfl, rfl, rfl, trivial⟩, rfl⟩
  rintro φ' _ ⟨hs2, rfl⟩
  refine thnN ?_
  refine W.sub hs2 ?_
  refine W.ret ?_
  refine thnR ?_
  have er := Option.some.inj hp
  subst er
  exact Rt.one rfl rfl ⟨rfl, rfl⟩
 ·rw [if_neg c2] at hp
  have c2 := eq_false_of_ne_true c2
  refine W.condF rfl c2 ?_
  refine W.skip ?_
  refine thnN ?_
  refine W.seq ?_
  obtain ⟨x3, hy3, hp⟩ := Option.bind_eq_some_iff.1 hp
  refine W.cut (fun φ' h' => Fr.sub [(0, u0), (1, u1), (12, (.bool x1)), (4, (.bool x3))] φ' ∧ h0 = h') ?_ ?_
  ·refine W.region ?_
   refine RL.opD (by decide) (opv_move rfl rfl) ?_
   refine RL.opD (by decide) (opv_move rfl rfl) ?_
   refine RL.opD (by decide) (opv_fcmp rfl rfl rfl rfl g0 g1) ?_
   refine RL.opD (by decide) (opv_move rfl rfl) ?_
   by_cases c4 : (fcmp .eql .f32 a0 a1) = true
   ·rw [if_pos c4] at hy3
    refine RL.yesD rfl rfl c4 (by decide) (opv_move rfl rfl) ?_
    refine RL.yes _ rfl rfl c4 (by decide) (opv_widen rfl (by rw [Try.underlying29]; rfl) Try.underlying43 rfl g0) ?_
    rintro v1 _ ⟨fv1, rfl⟩
    obtain ⟨x4, hx4, hy3⟩ := Option.bind_eq_some_iff.1 hy3
    refine RL.yes _ rfl rfl c4 (by decide) (opv_call (cap := []) (math_Signbit_ok _ _ _ fv1 _ hx4) rfl rfl ⟨rfl, trivial⟩ Try.func88 rfl rfl) ?_
    rintro _ _ ⟨rfl, rfl⟩
    refine RL.yesD rfl rfl c4 (by decide) (opv_move rfl rfl) ?_
    refine RL.yes _ rfl rfl c4 (by decide) (opv_widen rfl (by rw [Try.underlying29]; rfl) Try.underlying43 rfl g1) ?_
    rintro v2 _ ⟨fv2, rfl⟩
    obtain ⟨x5, hx5, hy3⟩ := Option.bind_eq_some_iff.1 hy3
    refine RL.yes _ rfl rfl c4 (by decide) (opv_call (cap := []) (math_Signbit_ok _ _ _ fv2 _ hx5) rfl rfl ⟨rfl, trivial⟩ Try.func88 rfl rfl) ?_
    rintro _ _ ⟨rfl, rfl⟩
    refine RL.yesD rfl rfl c4 (by decide) (opv_bcmp rfl rfl Try.underlying4 rfl rfl) ?_
    refine RL.opD (by decide) (opv_pick rfl rfl (fun _ => rfl) (fun e => absurd (Eq.trans (Eq.symm e) c4) (by decide)) rfl) ?_
    refine RL.opD (by decide) (opv_assign rfl rfl) ?_
    refine RL.nil ?_
    have ey3 := Option.some.inj hy3
    subst ey3
    refine onlyN ?_
    exact ⟨⟨rfl, rfl, rfl, rfl, trivial⟩, rfl⟩
   ·rw [if_neg c4] at hy3
    have c4 := eq_false_of_ne_true c4
    refine RL.noF rfl rfl c4 (by decide) ?_
    refine RL.noF rfl rfl c4 (by decide) ?_
    refine RL.noF rfl rfl c4 (by decide) ?_
    refine RL.noF rfl rfl c4 (by decide) ?_
    refine RL.noF rfl rfl c4 (by decide) ?_
    refine RL.noF rfl rfl c4 (by decide) ?_
    refine RL.noF rfl rfl c4 (by decide) ?_
    refine RL.opD (by decide) (opv_pick rfl rfl (fun e => absurd (Eq.trans (Eq.symm e) c4) (by decide)) (fun _ => rfl) rfl) ?_
    refine RL.opD (by decide) (opv_assign rfl rfl) ?_
    refine RL.nil ?_
    have ey3 := Option.some.inj hy3
    subst ey3
    refine onlyN ?_
    exact ⟨⟨rfl, rfl, rfl, rfl, trivial⟩, rfl⟩
  rintro φ' _ ⟨hs3, rfl⟩
  refine thnN ?_
  refine W.sub hs3 ?_
  refine W.ret ?_
  have er := Option.some.inj hp
  subst er
  exact Rt.one rfl rfl ⟨rfl, rfl⟩

set_option maxRecDepth 20000 in
theorem impl_SameComplex_ok (h0 : Heap) (u0 : Value) (a0 : (Option Nat × Option Nat)) (g0 : IsC .f32 u0 a0) (u1 : Value) (a1 : (Option Nat × Option Nat)) (g1 : IsC .f32 u1 a1) (r : Bool) (hp : impl_SameComplex a0 a1 = some r) : CallsH Try.prog 27 ([u0, u1].toArray ++ [].toArray) h0 (fun v h' => v = (.bool r) ∧ h0 = h') := by
 unfold impl_SameComplex at hp
 refine callsH_of_W (l := [u0, u1]) (cap := []) 17 Try.func27 rfl rfl rfl ?_
 refine W.seq ?_
 refine W.region ?_
 refine RL.opD (by decide) (opv_assign rfl rfl) ?_
 refine RL.nil ?_
 refine thnN ?_
 refine W.seq ?_
 obtain ⟨x1, hy1, hp⟩ := Option.bind_eq_some_iff.1 hp
 refine W.cut (fun φ' h' => Fr.sub [(0, u0), (1, u1), (4, (.bool x1))] φ' ∧ h0 = h') ?_ ?_
 ·refine W.region ?_
  refine RL.opD (by decide) (opv_move rfl rfl) ?_
  refine RL.opF (by decide) (opv_real rfl rfl g0) ?_
  intro v1 fv1
  refine RL.opD (by decide) (opv_move rfl rfl) ?_
  refine RL.opF (by decide) (opv_real rfl rfl g1) ?_
  intro v2 fv2
  obtain ⟨x2, hx2, hy1⟩ := Option.bind_eq_some_iff.1 hy1
  refine RL.op _ (by decide) (opv_call (cap := []) (impl_SameNumber_ok _ _ _ fv1 _ _ fv2 _ hx2) rfl rfl ⟨rfl, rfl, trivial⟩ Try.func30 rfl rfl) ?_
  rintro _ _ ⟨rfl, rfl⟩
  refine RL.opD (by decide) (opv_move rfl rfl) ?_
  by_cases c1 : x2 = true
  ·rw [if_pos c1] at hy1
   refine RL.yesD rfl rfl c1 (by decide) (opv_move rfl rfl) ?_
   refine RL.yes _ rfl rfl c1 (by decide) (opv_imag rfl rfl g0) ?_
   rintro v3 _ ⟨fv3, rfl⟩
   refine RL.yesD rfl rfl c1 (by decide) (opv_move rfl rfl) ?_
   refine RL.yes _ rfl rfl c1 (by decide) (opv_imag rfl rfl g1) ?_
   rintro v4 _ ⟨fv4, rfl⟩
   obtain ⟨x3, hx3, hy1⟩ := Option.bind_eq_some_iff.1 hy1
   refine RL.yes _ rfl rfl c1 (by decide) (opv_call (cap := []) (impl_SameNumber_ok _ _ _ fv3 _ _ fv4 _ hx3) rfl rfl ⟨rfl, rfl, trivial⟩ Try.func30 rfl rfl) ?_
   rintro _ _ ⟨rfl, rfl⟩
   refine RL.opD (by decide) (opv_pick rfl rfl (fun _ => rfl) (fun e => absurd (Eq.trans (Eq.symm e) c1) (by decide)) rfl) ?_
   refine RL.opD (by decide) (opv_assign rfl rfl) ?_
   refine RL.nil ?_
   have ey1 := Option.some.inj hy1
   subst ey1
   refine onlyN ?_
   exact ⟨⟨rfl, rfl, rfl, trivial⟩, rfl⟩
  ·rw [if_neg c1] at hy1
   have c1 := eq_false_of_ne_true c1
   refine RL.noF rfl rfl c1 (by decide) ?_
   refine RL.noF rfl rfl c1 (by decide) ?_
   refine RL.noF rfl rfl c1 (by decide) ?_
   refine RL.noF rfl rfl c1 (by decide) ?_
   refine RL.noF rfl rfl c1 (by decide) ?_
   refine RL.opD (by decide) (opv_pick rfl rfl (fun e => absurd (Eq.trans (Eq.symm e) c1) (by decide)) (fun _ => rfl) rfl) ?_
   refine RL.opD (by decide) (opv_assign rfl rfl) ?_
   refine RL.nil ?_
   have ey1 := Option.some.inj hy1
   subst ey1
   refine onlyN ?_
   exact ⟨⟨rfl, rfl, rfl, trivial⟩, rfl⟩
 rintro φ' _ ⟨hs1, rfl⟩
 refine thnN ?_
 refine W.sub hs1 ?_
 refine W.ret ?_
 have er := Option.some.inj hp
 subst er
 exact Rt.one rfl rfl ⟨rfl, rfl⟩

set_option maxRecDepth 20000 in
theorem impl_isRecord_complex64_ok (h0 : Heap) (u0 : Value) (a0 : List ((Option Nat × Option Nat))) (g0 : SL (kC .f32) h0.size h0 u0 a0) (r : Bool) (hp : impl_isRecord_complex64 a0 = some r) : CallsH Try.prog 92 ([u0].toArray ++ [].toArray) h0 (fun v h' => v = (.bool r) ∧ h0 = h') := by
 unfold impl_isRecord_complex64 at hp
 refine callsH_of_W (l := [u0]) (cap := []) 6 Try.func92 rfl rfl rfl ?_
 refine W.seq ?_
 refine W.region ?_
 refine RL.opD (by decide) (opv_assign rfl rfl) ?_
 refine RL.nil ?_
 refine thnN ?_
 refine W.seq ?_
 refine W.region ?_
 refine RL.opD (by decide) (opv_move rfl rfl) ?_
 refine RL.opD (by decide) (opv_len rfl Try.underlying59 rfl g0) ?_
 obtain ⟨x1, hx1, hp⟩ := Option.bind_eq_some_iff.1 hp
 refine RL.op _ (by decide) (opv_call (cap := []) (impl_within_ok _ _ _ _ _ hx1) rfl rfl ⟨rfl, rfl, rfl, trivial⟩ Try.func71 rfl rfl) ?_
 rintro _ _ ⟨rfl, rfl⟩
 refine RL.opD (by decide) (opv_assign rfl rfl) ?_
 refine RL.nil ?_
 refine thnN ?_
 refine W.ret ?_
 have er := Option.some.inj hp
 subst er
 exact Rt.one rfl rfl ⟨rfl, rfl⟩

set_option maxRecDepth 20000 in
theorem impl_times_ok (h0 : Heap) (u0 : Value) (a0 : Option Nat) (g0 : IsF .f64 u0 a0) (u1 : Value) (a1 : Option Nat) (g1 : IsF .f64 u1 a1) (u2 : Value) (a2 : Option Nat) (g2 : IsF .f64 u2 a2) (u3 : Value) (a3 : Option Nat) (g3 : IsF .f64 u3 a3) (r : ((Option Nat) × (Option Nat))) (hp : impl_times a0 a1 a2 a3 = some r) : CallsH Try.prog 150 ([u0, u1, u2, u3].toArray ++ [].toArray) h0 (fun v h' => ∃ w0, ∃ w1, v = (.tuple (List.toArray (α := Value) [w0, w1])) ∧ IsF .f64 w0 r.1 ∧ IsF .f64 w1 r.2 ∧ h0 = h') := by
 unfold impl_times at hp
 refine callsH_of_W (l := [u0, u1, u2, u3]) (cap := []) 24 Try.func150 rfl rfl rfl ?_
 refine W.seq ?_
 refine W.region ?_
 refine RL.opD (by decide) (opv_assign rfl rfl) ?_
 refine RL.opD (by decide) (opv_assign rfl rfl) ?_
 refine RL.nil ?_
 refine thnN ?_
 refine W.seq ?_
 refine W.region ?_
 refine RL.opD (by decide) (opv_move rfl rfl) ?_
 refine RL.opD (by decide) (opv_move rfl rfl) ?_
 refine RL.opF (by decide) (opv_fop rfl rfl rfl rfl g0 g2) ?_
 intro v1 fv1
 refine RL.opD (by decide) (opv_move rfl rfl) ?_
 refine RL.opD (by decide) (opv_move rfl rfl) ?_
 refine RL.opF (by decide) (opv_fop rfl rfl rfl rfl g1 g3) ?_
 intro v2 fv2
 refine RL.opF (by decide) (opv_fop rfl rfl rfl rfl fv1 fv2) ?_
 intro v3 fv3
 refine RL.opD (by decide) (opv_move rfl rfl) ?_
 refine RL.opD (by decide) (opv_move rfl rfl) ?_
 refine RL.opF (by decide) (opv_fop rfl rfl rfl rfl g0 g3) ?_
 intro v4 fv4
 refine RL.opD (by decide) (opv_move rfl rfl) ?_
 refine RL.opD (by decide) (opv_move rfl rfl) ?_
 refine RL.opF (by decide) (opv_fop rfl rfl rfl rfl g1 g2) ?_
 intro v5 fv5
 refine RL.opF (by decide) (opv_fop rfl rfl rfl rfl fv4 fv5) ?_
 intro v6 fv6
 refine RL.opD (by decide) (opv_assign rfl rfl) ?_
 refine RL.opD (by decide) (opv_assign rfl rfl) ?_
 refine RL.nil ?_
 refine thnN ?_
 refine W.ret ?_
 have er := Option.some.inj hp
 subst er
 exact Rt.two rfl rfl rfl ⟨v3, v6, rfl, fv3, fv6, rfl⟩

set_option maxRecDepth 20000 in
theorem impl_QuotientOf_ok (h0 : Heap) (u0 : Value) (a0 : (Option Nat × Option Nat)) (g0 : IsC .f32 u0 a0) (u1 : Value) (a1 : (Option Nat × Option Nat)) (g1 : IsC .f32 u1 a1) (r : (Option Nat × Option Nat)) (hp : impl_QuotientOf a0 a1 = some r) : CallsH Try.prog 93 ([u0, u1].toArray ++ [].toArray) h0 (fun v h' => IsC .f32 v r ∧ h0 = h') := by
 unfold impl_QuotientOf at hp
 refine callsH_of_W (l := [u0, u1]) (cap := []) 42 Try.func93 rfl rfl rfl ?_
 refine W.seq ?_
 refine W.region ?_
 refine RL.opD (by decide) (opv_assign rfl rfl) ?_
 refine RL.nil ?_
 refine thnN ?_
 refine W.seq ?_
 refine W.region ?_
 refine RL.opD (by decide) (opv_move rfl rfl) ?_
 obtain ⟨x1, hx1, hp⟩ := Option.bind_eq_some_iff.1 hp
 refine RL.op _ (by decide) (opv_call (cap := []) (impl_parts_ok _ _ _ g0 _ hx1) rfl rfl ⟨rfl, trivial⟩ Try.func149 rfl rfl) ?_
 rintro _ _ ⟨v1, v2, rfl, fv1, fv2, rfl⟩
 refine RL.opD (by decide) (opv_move rfl rfl) ?_
 refine RL.opD (by decide) (opv_extract rfl rfl rfl) ?_
 refine RL.opD (by decide) (opv_extract rfl rfl rfl) ?_
 refine RL.opD (by decide) (opv_assign rfl rfl) ?_
 refine RL.opD (by decide) (opv_assign rfl rfl) ?_
 refine RL.nil ?_
 refine thnN ?_
 refine W.seq ?_
 refine W.region ?_
 refine RL.opD (by decide) (opv_move rfl rfl) ?_
 obtain ⟨x2, hx2, hp⟩ := Option.bind_eq_some_iff.1 hp
 refine RL.op _ (by decide) (opv_call (cap := []) (impl_parts_ok _ _ _ g1 _ hx2) rfl rfl ⟨rfl, trivial⟩ Try.func149 rfl rfl) ?_
 rintro _ _ ⟨v3, v4, rfl, fv3, fv4, rfl⟩
 refine RL.opD (by decide) (opv_move rfl rfl) ?_
 refine RL.opD (by decide) (opv_extract rfl rfl rfl) ?_
 refine RL.opD (by decide) (opv_extract rfl rfl rfl) ?_
 refine RL.opD (by decide) (opv_assign rfl rfl) ?_
 refine RL.opD (by decide) (opv_assign rfl rfl) ?_
 refine RL.nil ?_
 refine thnN ?_
 refine W.seq ?_
 refine W.region ?_
 refine RL.opD (by decide) (opv_move rfl rfl) ?_
 refine RL.opD (by decide) (opv_move rfl rfl) ?_
 refine RL.opD (by decide) (opv_move rfl rfl) ?_
 refine RL.opD (by decide) (opv_move rfl rfl) ?_
 refine RL.opF (by decide) (opv_fneg rfl rfl fv4) ?_
 intro v5 fv5
 obtain ⟨x3, hx3, hp⟩ := Option.bind_eq_some_iff.1 hp
 refine RL.op _ (by decide) (opv_call (cap := []) (impl_times_ok _ _ _ fv1 _ _ fv2 _ _ fv3 _ _ fv5 _ hx3) rfl rfl ⟨rfl, rfl, rfl, rfl, trivial⟩ Try.func150 rfl rfl) ?_
 rintro _ _ ⟨v6, v7, rfl, fv6, fv7, rfl⟩
 refine RL.opD (by decide) (opv_move rfl rfl) ?_
 refine RL.opD (by decide) (opv_extract rfl rfl rfl) ?_
 refine RL.opD (by decide) (opv_extract rfl rfl rfl) ?_
 refine RL.opD (by decide) (opv_assign rfl rfl) ?_
 refine RL.opD (by decide) (opv_assign rfl rfl) ?_
 refine RL.nil ?_
 refine thnN ?_
 refine W.seq ?_
 refine W.region ?_
 refine RL.opD (by decide) (opv_move rfl rfl) ?_
 obtain ⟨x4, hx4, hp⟩ := Option.bind_eq_some_iff.1 hp
 refine RL.op _ (by decide) (opv_call (cap := []) (impl_power_ok _ _ _ g1 _ hx4) rfl rfl ⟨rfl, trivial⟩ Try.func95 rfl rfl) ?_
 rintro v8 _ ⟨fv8, rfl⟩
 refine RL.opD (by decide) (opv_assign rfl rfl) ?_
 refine RL.nil ?_
 refine thnN ?_
 refine W.seq ?_
 refine W.region ?_
 refine RL.opD (by decide) (opv_move rfl rfl) ?_
 refine RL.opD (by decide) (opv_move rfl rfl) ?_
 refine RL.opF (by decide) (opv_fop rfl rfl rfl rfl fv6 fv8) ?_
 intro v9 fv9
 obtain ⟨x5, hx5, hp⟩ := Option.bind_eq_some_iff.1 hp
 refine RL.opF (by decide) (opv_f2f rfl (by rw [Try.underlying43]; rfl) Try.underlying29 (by decide) rfl fv9 hx5) ?_
 intro v10 fv10
 refine RL.opD (by decide) (opv_move rfl rfl) ?_
 refine RL.opD (by decide) (opv_move rfl rfl) ?_
 refine RL.opF (by decide) (opv_fop rfl rfl rfl rfl fv7 fv8) ?_
 intro v11 fv11
 obtain ⟨x6, hx6, hp⟩ := Option.bind_eq_some_iff.1 hp
 refine RL.opF (by decide) (opv_f2f rfl (by rw [Try.underlying43]; rfl) Try.underlying29 (by decide) rfl fv11 hx6) ?_
 intro v12 fv12
 refine RL.op _ (by decide) (opv_complex rfl rfl rfl fv10 fv12) ?_
 rintro v13 _ ⟨fv13, rfl⟩
 refine RL.opD (by decide) (opv_assign rfl rfl) ?_
 refine RL.nil ?_
 refine thnN ?_
 refine W.ret ?_
 have er := Option.some.inj hp
 subst er
 exact Rt.one rfl rfl ⟨fv13, rfl⟩

set_option maxRecDepth 20000 in
theorem impl_TransferOf_ok (h0 : Heap) (u0 : Value) (a0 : List ((Option Nat × Option Nat))) (g0 : SL (kC .f32) h0.size h0 u0 a0) (u1 : Value) (a1 : List ((Option Nat × Option Nat))) (g1 : SL (kC .f32) h0.size h0 u1 a1) (r : ((List ((Option Nat × Option Nat))) × Bool)) (hp : impl_TransferOf a0 a1 = some r) : CallsH Try.prog 32 ([u0, u1].toArray ++ [].toArray) h0 (fun v h' => ∃ w0, v = (.tuple (List.toArray (α := Value) [w0, (.bool r.2)])) ∧ Mod [] h0 h' ∧ Sep [] h0.size h' [ownO (kC .f32) 45 w0 r.1]) := by
 unfold impl_TransferOf at hp
 refine callsH_of_W (l := [u0, u1]) (cap := []) 38 Try.func32 rfl rfl rfl ?_
 refine W.seq ?_
 refine W.region ?_
 refine RL.opD (by decide) (opv_assign rfl rfl) ?_
 have S_1 : Sep [] h0.size h0 [ownO (kC .f32) 45 (.slice none 0 0) ([] : List ((Option Nat × Option Nat)))] := Sep.addNil (Sep.nil [] h0.size h0)
 refine RL.opD (by decide) (opv_assign rfl rfl) ?_
 refine RL.nil ?_
 refine thnN ?_
 refine W.seq ?_
 refine W.seq ?_
 obtain ⟨x1, hy1, hp⟩ := Option.bind_eq_some_iff.1 hp
 refine W.cut (fun φ' h' => Fr.sub [(0, u0), (1, u1), (4, (.slice none 0 0)), (5, (.bool false)), (18, (.bool x1))] φ' ∧ h0 = h') ?_ ?_
 ·refine W.region ?_
  refine RL.opD (by decide) (opv_move rfl rfl) ?_
  obtain ⟨x2, hx2, hy1⟩ := Option.bind_eq_some_iff.1 hy1
  refine RL.op _ (by decide) (opv_call (cap := []) (impl_isRecord_complex64_ok _ _ _ g0 _ hx2) rfl rfl ⟨rfl, trivial⟩ Try.func92 rfl rfl) ?_
  rintro _ _ ⟨rfl, rfl⟩
  refine RL.opD (by decide) (opv_not rfl rfl) ?_
  refine RL.opD (by decide) (opv_move rfl rfl) ?_
  by_cases c1 : (!x2) = true
  ·rw [if_pos c1] at hy1
   refine RL.noT rfl rfl c1 (by decide) ?_
   refine RL.noT rfl rfl c1 (by decide) ?_
   refine RL.noT rfl rfl c1 (by decide) ?_
   refine RL.noT rfl rfl c1 (by decide) ?_
   refine RL.noT rfl rfl c1 (by decide) ?_
   refine RL.opD (by decide) (opv_pick rfl rfl (fun _ => rfl) (fun e => absurd (Eq.trans (Eq.symm e) c1) (by decide)) rfl) ?_
   refine RL.nil ?_
   have ey1 := Option.some.inj hy1
   subst ey1
   refine onlyN ?_
   exact ⟨⟨rfl, rfl, rfl, rfl, rfl, trivial⟩, rfl⟩
  ·rw [if_neg c1] at hy1
   have c1 := eq_false_of_ne_true c1
   refine RL.yesD rfl rfl c1 (by decide) (opv_move rfl rfl) ?_
   refine RL.yesD rfl rfl c1 (by decide) (opv_len rfl Try.underlying59 rfl g1) ?_
   refine RL.yesD rfl rfl c1 (by decide) (opv_move rfl rfl) ?_
   refine RL.yesD rfl rfl c1 (by decide) (opv_len rfl Try.underlying59 rfl g0) ?_
   refine RL.yesD rfl rfl c1 (by decide) (opv_icmp rfl rfl rfl rfl) ?_
   refine RL.opD (by decide) (opv_pick rfl rfl (fun e => absurd (Eq.trans (Eq.symm e) c1) (by decide)) (fun _ => rfl) rfl) ?_
   refine RL.nil ?_
   have ey1 := Option.some.inj hy1
   subst ey1
   refine onlyN ?_
   exact ⟨⟨rfl, rfl, rfl, rfl, rfl, trivial⟩, rfl⟩
 rintro φ' _ ⟨hs1, rfl⟩
 refine thnN ?_
 refine W.sub hs1 ?_
 by_cases c2 : x1 = true
 ·rw [if_pos c2] at hp
  refine W.condT rfl c2 ?_
  refine W.seq ?_
  refine W.region ?_
  refine RL.opD (by decide) (opv_assign rfl rfl) ?_
  have S_2 : Sep [] h0.size h0 [ownO (kC .f32) 45 (.slice none 0 0) ([] : List ((Option Nat × Option Nat))), ownO (kC .f32) 45 (.slice none 0 0) ([] : List ((Option Nat × Option Nat)))] := Sep.addNil S_1
  refine RL.opD (by decide) (opv_assign rfl rfl) ?_
  refine RL.nil ?_
  refine thnN ?_
  refine W.ret ?_
  refine thnR ?_
  have er := Option.some.inj hp
  subst er
  exact Rt.two rfl rfl rfl ⟨(.slice none 0 0), rfl, (Mod.refl [] h0), (Sep.sel S_2 [0] (by decide))⟩
 ·rw [if_neg c2] at hp
  have c2 := eq_false_of_ne_true c2
  refine W.condF rfl c2 ?_
  refine W.skip ?_
  refine thnN ?_
  refine W.seq ?_
  refine W.region ?_
  refine RL.op _ (by decide) (opS_lit0 (K := (kC .f32)) rfl Try.underlying59 Try.isinfo45) ?_
  rintro v1 hp1 ⟨MT_1, T_1⟩
  obtain ⟨X_1, S_3⟩ := Sep.turn0 (Mod.refl [] h0) S_1 MT_1 T_1
  refine RL.opD (by decide) (opv_assign rfl rfl) ?_
  refine RL.nil ?_
  refine thnN ?_
  refine W.seq ?_
  refine W.seq ?_
  refine W.region ?_
  refine RL.opD (by decide) (opv_move rfl rfl) ?_
  refine RL.opD (by decide) (opv_len rfl Try.underlying59 rfl (SL.mod g0 X_1 (Nat.le_refl _) nob)) ?_
  refine RL.opD (by decide) (opv_move rfl rfl) ?_
  refine RL.nil ?_
  refine thnN ?_
  obtain ⟨y2, hy2, hp⟩ := Option.bind_eq_some_iff.1 hp
  refine W.cut (fun φ' h' => ∃ x5, ∃ x6, ∃ x7, ∃ v3, y2 = (x5, x6, x7) ∧ Fr.sub [(0, u0), (1, u1), (4, (.slice none 0 0)), (5, (.bool false)), (18, (.bool x1)), (20, u0), (21, (.int .i64 (a0.length : Int))), (22, (.int .i64 x5)), (23, (.bool x6)), (6, v3)] φ' ∧ Mod [] h0 h' ∧ Sep [] h0.size h' [ownO (kC .f32) 45 (.slice none 0 0) ([] : List ((Option Nat × Option Nat))), ownO (kC .f32) 45 v3 x7]) ?_ ?_
  ·refine W.block ?_
   refine W.loopS (fun (s : ((List ((Option Nat × Option Nat))) × Int)) φ' h' => ∃ v2, Fr.sub [(0, u0), (1, u1), (4, (.slice none 0 0)), (5, (.bool false)), (18, (.bool x1)), (20, u0), (21, (.int .i64 (a0.length : Int))), (6, v2), (22, (.int .i64 s.2))] φ' ∧ Mod [] h0 h' ∧ Sep [] h0.size h' [ownO (kC .f32) 45 v2 s.1, ownO (kC .f32) 45 (.slice none 0 0) ([] : List ((Option Nat × Option Nat)))]) hy2 ⟨v1, ⟨rfl, rfl, rfl, rfl, rfl, rfl, rfl, rfl, rfl, trivial⟩, X_1, (Sep.sel S_3 [0, 1] (by decide))⟩ ?_
   rintro ⟨x3, x4⟩ φ' hp2 o1 ⟨v2, hs2, X_2, S_4⟩ ho1 hy1
   have hs2 : Fr.sub [(0, u0), (1, u1), (4, (.slice none 0 0)), (5, (.bool false)), (18, (.bool x1)), (20, u0), (21, (.int .i64 (a0.length : Int))), (6, v2), (22, (.int .i64 x4))] φ' := hs2
   have S_4 : Sep [] h0.size hp2 [ownO (kC .f32) 45 v2 x3, ownO (kC .f32) 45 (.slice none 0 0) ([] : List ((Option Nat × Option Nat)))] := S_4
   have ho1 : impl_TransferOf.s0 a0 a1 x3 x4 = some o1 := ho1
   unfold impl_TransferOf.s0 at ho1
   refine W.sub hs2 ?_
   refine W.seq ?_
   refine W.region ?_
   refine RL.opD (by decide) (opv_icmp rfl rfl rfl rfl) ?_
   refine RL.nil ?_
   refine thnN ?_
   refine W.seq ?_
   by_cases c3 : (decide (x4 < (a0.length : Int))) = true
   ·rw [if_pos c3] at ho1
    refine W.condT rfl c3 ?_
    refine W.skip ?_
    refine thnN ?_
    refine W.seq ?_
    refine W.block ?_
    refine W.seq ?_
    refine W.region ?_
    refine RL.opD (by decide) (opv_move rfl rfl) ?_
    obtain ⟨x8, hx8, ho1⟩ := Option.bind_eq_some_iff.1 ho1
    refine RL.op _ (by decide) (opv_index rfl Try.underlying59 (by rw [Try.size45]; rfl) rfl rfl (SL.mod g0 X_2 (Nat.le_refl _) nob) hx8) ?_
    rintro v4 _ ⟨fv4, rfl⟩
    refine RL.op _ (by decide) (opv_loadC rfl Try.one45 rfl fv4 (SL.mod g0 X_2 (Nat.le_refl _) nob) hx8) ?_
    rintro v5 _ ⟨fv5, rfl⟩
    refine RL.opD (by decide) (opv_assign rfl rfl) ?_
    refine RL.opD (by decide) (opv_assign rfl rfl) ?_
    refine RL.nil ?_
    refine thnN ?_
    refine W.region ?_
    refine RL.opD (by decide) (opv_move rfl rfl) ?_
    refine RL.opD (by decide) (opv_move rfl rfl) ?_
    refine RL.opD (by decide) (opv_move rfl rfl) ?_
    refine RL.opD (by decide) (opv_move rfl rfl) ?_
    obtain ⟨x9, hx9, ho1⟩ := Option.bind_eq_some_iff.1 ho1
    refine RL.op _ (by decide) (opv_index rfl Try.underlying59 (by rw [Try.size45]; rfl) rfl rfl (SL.mod g1 X_2 (Nat.le_refl _) nob) hx9) ?_
    rintro v6 _ ⟨fv6, rfl⟩
    refine RL.op _ (by decide) (opv_loadC rfl Try.one45 rfl fv6 (SL.mod g1 X_2 (Nat.le_refl _) nob) hx9) ?_
    rintro v7 _ ⟨fv7, rfl⟩
    obtain ⟨x10, hx10, ho1⟩ := Option.bind_eq_some_iff.1 ho1
    refine RL.op _ (by decide) (opv_call (cap := []) (impl_QuotientOf_ok _ _ _ fv5 _ _ fv7 _ hx10) rfl rfl ⟨rfl, rfl, trivial⟩ Try.func93 rfl rfl) ?_
    rintro v8 _ ⟨fv8, rfl⟩
    refine RL.op _ (by decide) (opS_lit1 (K := (kC .f32)) (z := x10) rfl Try.underlying59 Try.einfo45 rfl rfl rfl rfl ⟨_, rfl, fv8⟩) ?_
    rintro v9 hp3 ⟨MT_2, T_2⟩
    obtain ⟨X_3, S_5⟩ := Sep.turn0 X_2 S_4 MT_2 T_2
    obtain ⟨c4, ho1⟩ := of_ite ho1
    refine RL.op _ (by decide) (opS_append (K := (kC .f32)) rfl Try.underlying59 Try.einfo45 rfl rfl rfl rfl (Sep.at (o := ownO (kC .f32) 45 v2 x3) S_5 1 rfl) (ownO.read (Sep.at (o := ownO (kC .f32) 45 v9 [x10]) S_5 0 rfl)) (by decide) (by decide) c4) ?_
    rintro v10 hp4 ⟨MT_3, T_3⟩
    have S_6 : Sep [] h0.size hp3 ([ownO (kC .f32) 45 v2 x3] ++ [ownO (kC .f32) 45 v9 [x10], ownO (kC .f32) 45 (.slice none 0 0) ([] : List ((Option Nat × Option Nat)))]) := Sep.sel S_5 [1, 0, 2] (by decide)
    obtain ⟨X_4, S_7⟩ := Sep.turn X_3 S_6 MT_3 T_3
    refine RL.opD (by decide) (opv_assign rfl rfl) ?_
    refine RL.nil ?_
    refine blkN ?_
    refine thnN ?_
    refine W.region ?_
    refine RL.opD (by decide) (opv_add rfl rfl rfl) ?_
    refine RL.opD (by decide) (opv_move rfl rfl) ?_
    refine RL.nil ?_
    have eo1 := Option.some.inj ho1
    subst eo1
    refine rndN (s' := (x3 ++ [x10], IntKind.wrap .i64 (x4 + 1))) rfl ?_
    exact ⟨v10, ⟨rfl, rfl, rfl, rfl, rfl, rfl, rfl, rfl, rfl, trivial⟩, X_4, (Sep.sel S_7 [0, 2] (by decide))⟩
   ·rw [if_neg c3] at ho1
    have c3 := eq_false_of_ne_true c3
    refine W.condF rfl c3 ?_
    refine W.exit ?_
    refine thnX ?_
    refine rndX ?_
    refine blkI ?_
    have eo1 := Option.some.inj ho1
    subst eo1
    have ey2 := hy1 _ rfl
    subst ey2
    refine onlyN ?_
    exact ⟨x4, decide (x4 < (a0.length : Int)), x3, v2, rfl, ⟨rfl, rfl, rfl, rfl, rfl, rfl, rfl, rfl, rfl, rfl, trivial⟩, X_2, (Sep.sel S_4 [1, 0] (by decide))⟩
  rintro φ' hp5 ⟨x5, x6, x7, v3, rfl, hs3, X_5, S_8⟩
  try dsimp only at hp
  refine thnN ?_
  refine W.sub hs3 ?_
  refine W.seq ?_
  refine W.region ?_
  refine RL.opD (by decide) (opv_move rfl rfl) ?_
  refine RL.opD (by decide) (opv_assign rfl rfl) ?_
  refine RL.opD (by decide) (opv_assign rfl rfl) ?_
  refine RL.nil ?_
  refine thnN ?_
  refine W.ret ?_
  have er := Option.some.inj hp
  subst er
  exact Rt.two rfl rfl rfl ⟨v3, rfl, X_5, (Sep.sel S_8 [1] (by decide))⟩

set_option maxHeartbeats 4000000 in
set_option maxRecDepth 20000 in
theorem impl_CutSpectrum_ok (h0 : Heap) (u0 : Value) (a0 : List ((Option Nat × Option Nat))) (g0 : SL (kC .f32) h0.size h0 u0 a0) (a1 : Int) (a2 : Int) (r : ((List ((Option Nat × Option Nat))) × Bool)) (hp : impl_CutSpectrum a0 a1 a2 = some r) : CallsH Try.prog 33 ([u0, (.int .i64 a1), (.int .i64 a2)].toArray ++ [].toArray) h0 (fun v h' => ∃ w0, v = (.tuple (List.toArray (α := Value) [w0, (.bool r.2)])) ∧ Mod [] h0 h' ∧ Sep [] h0.size h' [ownO (kC .f32) 45 w0 r.1]) := by
 unfold impl_CutSpectrum at hp
 refine callsH_of_W (l := [u0, (.int .i64 a1), (.int .i64 a2)]) (cap := []) 57 Try.func33 rfl rfl rfl ?_
 refine W.seq ?_
 refine W.region ?_
 refine RL.opD (by decide) (opv_assign rfl rfl) ?_
 have S_1 : Sep [] h0.size h0 [ownO (kC .f32) 45 (.slice none 0 0) ([] : List ((Option Nat × Option Nat)))] := Sep.addNil (Sep.nil [] h0.size h0)
 refine RL.opD (by decide) (opv_assign rfl rfl) ?_
 refine RL.nil ?_
 refine thnN ?_
 refine W.seq ?_
 refine W.region ?_
 refine RL.opD (by decide) (opv_move rfl rfl) ?_
 refine RL.opD (by decide) (opv_len rfl Try.underlying59 rfl g0) ?_
 refine RL.opD (by decide) (opv_assign rfl rfl) ?_
 refine RL.nil ?_
 refine thnN ?_
 refine W.seq ?_
 refine W.seq ?_
 obtain ⟨x1, hy1, hp⟩ := Option.bind_eq_some_iff.1 hp
 refine W.cut (fun φ' h' => Fr.sub [(0, u0), (1, (.int .i64 a1)), (2, (.int .i64 a2)), (6, (.slice none 0 0)), (7, (.bool false)), (8, (.int .i64 (a0.length : Int))), (29, (.bool x1))] φ' ∧ h0 = h') ?_ ?_
 ·refine W.region ?_
  refine RL.opD (by decide) (opv_move rfl rfl) ?_
  obtain ⟨x2, hx2, hy1⟩ := Option.bind_eq_some_iff.1 hy1
  refine RL.op _ (by decide) (opv_call (cap := []) (impl_isRecord_complex64_ok _ _ _ g0 _ hx2) rfl rfl ⟨rfl, trivial⟩ Try.func92 rfl rfl) ?_
  rintro _ _ ⟨rfl, rfl⟩
  refine RL.opD (by decide) (opv_not rfl rfl) ?_
  refine RL.opD (by decide) (opv_move rfl rfl) ?_
  by_cases c1 : (!x2) = true
  ·rw [if_pos c1] at hy1
   refine RL.noT rfl rfl c1 (by decide) ?_
   refine RL.noT rfl rfl c1 (by decide) ?_
   refine RL.noT rfl rfl c1 (by decide) ?_
   refine RL.noT rfl rfl c1 (by decide) ?_
   refine RL.opD (by decide) (opv_pick rfl rfl (fun _ => rfl) (fun e => absurd (Eq.trans (Eq.symm e) c1) (by decide)) rfl) ?_
   refine RL.opD (by decide) (opv_move rfl rfl) ?_
   refine RL.noT rfl rfl rfl (by decide) ?_
   refine RL.noT rfl rfl rfl (by decide) ?_
   refine RL.noT rfl rfl rfl (by decide) ?_
   refine RL.noT rfl rfl rfl (by decide) ?_
   refine RL.noT rfl rfl rfl (by decide) ?_
   refine RL.opD (by decide) (opv_pick rfl rfl (fun _ => rfl) (fun e => absurd (Eq.trans (Eq.symm e) rfl) (by decide)) rfl) ?_
   refine RL.nil ?_
   have ey1 := Option.some.inj hy1
   subst ey1
   refine onlyN ?_
   exact ⟨⟨rfl, rfl, rfl, rfl, rfl, rfl, rfl, trivial⟩, rfl⟩
  ·rw [if_neg c1] at hy1
   have c1 := eq_false_of_ne_true c1
   refine RL.yesD rfl rfl c1 (by decide) (opv_move rfl rfl) ?_
   refine RL.yesD rfl rfl c1 (by decide) (opv_move rfl rfl) ?_
   obtain ⟨x3, hx3, hy1⟩ := Option.bind_eq_some_iff.1 hy1
   refine RL.yes _ rfl rfl c1 (by decide) (opv_call (cap := []) (impl_within_ok _ _ _ _ _ hx3) rfl rfl ⟨rfl, rfl, rfl, trivial⟩ Try.func71 rfl rfl) ?_
   rintro _ _ ⟨rfl, rfl⟩
   refine RL.yesD rfl rfl c1 (by decide) (opv_not rfl rfl) ?_
   refine RL.opD (by decide) (opv_pick rfl rfl (fun e => absurd (Eq.trans (Eq.symm e) c1) (by decide)) (fun _ => rfl) rfl) ?_
   refine RL.opD (by decide) (opv_move rfl rfl) ?_
   by_cases c2 : (!x3) = true
   ·rw [if_pos c2] at hy1
    refine RL.noT rfl rfl c2 (by decide) ?_
    refine RL.noT rfl rfl c2 (by decide) ?_
    refine RL.noT rfl rfl c2 (by decide) ?_
    refine RL.noT rfl rfl c2 (by decide) ?_
    refine RL.noT rfl rfl c2 (by decide) ?_
    refine RL.opD (by decide) (opv_pick rfl rfl (fun _ => rfl) (fun e => absurd (Eq.trans (Eq.symm e) c2) (by decide)) rfl) ?_
    refine RL.nil ?_
    have ey1 := Option.some.inj hy1
    subst ey1
    refine onlyN ?_
    exact ⟨⟨rfl, rfl, rfl, rfl, rfl, rfl, rfl, trivial⟩, rfl⟩
   ·rw [if_neg c2] at hy1
    have c2 := eq_false_of_ne_true c2
    refine RL.yesD rfl rfl c2 (by decide) (opv_move rfl rfl) ?_
    refine RL.yesD rfl rfl c2 (by decide) (opv_move rfl rfl) ?_
    refine RL.yesD rfl rfl c2 (by decide) (opv_quo rfl (by decide) rfl rfl) ?_
    obtain ⟨x4, hx4, hy1⟩ := Option.bind_eq_some_iff.1 hy1
    refine RL.yes _ rfl rfl c2 (by decide) (opv_call (cap := []) (impl_within_ok _ _ _ _ _ hx4) rfl rfl ⟨rfl, rfl, rfl, trivial⟩ Try.func71 rfl rfl) ?_
    rintro _ _ ⟨rfl, rfl⟩
    refine RL.yesD rfl rfl c2 (by decide) (opv_not rfl rfl) ?_
    refine RL.opD (by decide) (opv_pick rfl rfl (fun e => absurd (Eq.trans (Eq.symm e) c2) (by decide)) (fun _ => rfl) rfl) ?_
    refine RL.nil ?_
    have ey1 := Option.some.inj hy1
    subst ey1
    refine onlyN ?_
    exact ⟨⟨rfl, rfl, rfl, rfl, rfl, rfl, rfl, trivial⟩, rfl⟩
 rintro φ' _ ⟨hs1, rfl⟩
 refine thnN ?_
 refine W.sub hs1 ?_
 by_cases c3 : x1 = true
 ·rw [if_pos c3] at hp
  refine W.condT rfl c3 ?_
  refine W.seq ?_
  refine W.region ?_
  refine RL.opD (by decide) (opv_assign rfl rfl) ?_
  have S_2 : Sep [] h0.size h0 [ownO (kC .f32) 45 (.slice none 0 0) ([] : List ((Option Nat × Option Nat))), ownO (kC .f32) 45 (.slice none 0 0) ([] : List ((Option Nat × Option Nat)))] := Sep.addNil S_1
  refine RL.opD (by decide) (opv_assign rfl rfl) ?_
  refine RL.nil ?_
  refine thnN ?_
  refine W.ret ?_
  refine thnR ?_
  have er := Option.some.inj hp
  subst er
  exact Rt.two rfl rfl rfl ⟨(.slice none 0 0), rfl, (Mod.refl [] h0), (Sep.sel S_2 [0] (by decide))⟩
 ·rw [if_neg c3] at hp
  have c3 := eq_false_of_ne_true c3
  refine W.condF rfl c3 ?_
  refine W.skip ?_
  refine thnN ?_
  refine W.seq ?_
  refine W.region ?_
  refine RL.opD (by decide) (opv_move rfl rfl) ?_
  obtain ⟨c4, hp⟩ := of_ite hp
  refine RL.op _ (by decide) (opS_make (K := (kC .f32)) (zx := (some 0, some 0)) rfl Try.underlying59 Try.einfo45 rfl rfl ⟨_, rfl, (isC_lit .f32 0 0 (by decide) (by decide) (by decide) (by decide))⟩ rfl rfl (by decide) c4) ?_
  rintro v1 hp1 ⟨MT_1, T_1⟩
  obtain ⟨X_1, S_3⟩ := Sep.turn0 (Mod.refl [] h0) S_1 MT_1 T_1
  refine RL.opD (by decide) (opv_assign rfl rfl) ?_
  refine RL.nil ?_
  refine thnN ?_
  refine W.seq ?_
  refine W.seq ?_
  refine W.region ?_
  refine RL.opD (by decide) (opv_move rfl rfl) ?_
  refine RL.opD (by decide) (opv_len rfl Try.underlying59 rfl (SL.mod g0 X_1 (Nat.le_refl _) nob)) ?_
  refine RL.opD (by decide) (opv_move rfl rfl) ?_
  refine RL.nil ?_
  refine thnN ?_
  obtain ⟨y2, hy2, hp⟩ := Option.bind_eq_some_iff.1 hp
  refine W.cut (fun φ' h' => ∃ x7, ∃ x8, ∃ x9, y2 = (x7, x8, x9) ∧ Fr.sub [(0, u0), (1, (.int .i64 a1)), (2, (.int .i64 a2)), (6, (.slice none 0 0)), (7, (.bool false)), (8, (.int .i64 (a0.length : Int))), (29, (.bool x1)), (9, v1), (32, u0), (33, (.int .i64 (a0.length : Int))), (34, (.int .i64 x7)), (35, (.bool x8))] φ' ∧ Mod [] h0 h' ∧ Sep [] h0.size h' [ownO (kC .f32) 45 v1 x9, ownO (kC .f32) 45 (.slice none 0 0) ([] : List ((Option Nat × Option Nat)))]) ?_ ?_
  ·refine W.block ?_
   refine W.loopS (fun (s : (Int × (List ((Option Nat × Option Nat))))) φ' h' => Fr.sub [(0, u0), (1, (.int .i64 a1)), (2, (.int .i64 a2)), (6, (.slice none 0 0)), (7, (.bool false)), (8, (.int .i64 (a0.length : Int))), (29, (.bool x1)), (9, v1), (32, u0), (33, (.int .i64 (a0.length : Int))), (34, (.int .i64 s.1))] φ' ∧ Mod [] h0 h' ∧ Sep [] h0.size h' [ownO (kC .f32) 45 v1 s.2, ownO (kC .f32) 45 (.slice none 0 0) ([] : List ((Option Nat × Option Nat)))]) hy2 ⟨⟨rfl, rfl, rfl, rfl, rfl, rfl, rfl, rfl, rfl, rfl, rfl, trivial⟩, X_1, (Sep.sel S_3 [0, 1] (by decide))⟩ ?_
   rintro ⟨x5, x6⟩ φ' hp2 o1 ⟨hs2, X_2, S_4⟩ ho1 hy1
   have hs2 : Fr.sub [(0, u0), (1, (.int .i64 a1)), (2, (.int .i64 a2)), (6, (.slice none 0 0)), (7, (.bool false)), (8, (.int .i64 (a0.length : Int))), (29, (.bool x1)), (9, v1), (32, u0), (33, (.int .i64 (a0.length : Int))), (34, (.int .i64 x5))] φ' := hs2
   have S_4 : Sep [] h0.size hp2 [ownO (kC .f32) 45 v1 x6, ownO (kC .f32) 45 (.slice none 0 0) ([] : List ((Option Nat × Option Nat)))] := S_4
   have ho1 : impl_CutSpectrum.s0 a0 a1 a2 x5 x6 = some o1 := ho1
   unfold impl_CutSpectrum.s0 at ho1
   refine W.sub hs2 ?_
   refine W.seq ?_
   refine W.region ?_
   refine RL.opD (by decide) (opv_icmp rfl rfl rfl rfl) ?_
   refine RL.nil ?_
   refine thnN ?_
   refine W.seq ?_
   by_cases c5 : (decide (x5 < (a0.length : Int))) = true
   ·rw [if_pos c5] at ho1
    refine W.condT rfl c5 ?_
    refine W.skip ?_
    refine thnN ?_
    refine W.seq ?_
    refine W.block ?_
    refine W.seq ?_
    refine W.region ?_
    refine RL.opD (by decide) (opv_move rfl rfl) ?_
    obtain ⟨x10, hx10, ho1⟩ := Option.bind_eq_some_iff.1 ho1
    refine RL.op _ (by decide) (opv_index rfl Try.underlying59 (by rw [Try.size45]; rfl) rfl rfl (SL.mod g0 X_2 (Nat.le_refl _) nob) hx10) ?_
    rintro v2 _ ⟨fv2, rfl⟩
    refine RL.op _ (by decide) (opv_loadC rfl Try.one45 rfl fv2 (SL.mod g0 X_2 (Nat.le_refl _) nob) hx10) ?_
    rintro v3 _ ⟨fv3, rfl⟩
    refine RL.opD (by decide) (opv_assign rfl rfl) ?_
    refine RL.opD (by decide) (opv_assign rfl rfl) ?_
    refine RL.nil ?_
    refine thnN ?_
    refine W.seq ?_
    obtain ⟨x11, hy3, ho1⟩ := Option.bind_eq_some_iff.1 ho1
    refine W.cut (fun φ' h' => Fr.sub [(0, u0), (1, (.int .i64 a1)), (2, (.int .i64 a2)), (6, (.slice none 0 0)), (7, (.bool false)), (8, (.int .i64 (a0.length : Int))), (29, (.bool x1)), (9, v1), (32, u0), (33, (.int .i64 (a0.length : Int))), (34, (.int .i64 x5)), (35, (.bool (decide (x5 < (a0.length : Int))))), (10, (.int .i64 x5)), (11, v3), (50, (.bool x11))] φ' ∧ hp2 = h') ?_ ?_
    ·refine W.region ?_
     refine RL.opD (by decide) (opv_move rfl rfl) ?_
     refine RL.opD (by decide) (opv_move rfl rfl) ?_
     refine RL.opD (by decide) (opv_move rfl rfl) ?_
     obtain ⟨x12, hx12, hy3⟩ := Option.bind_eq_some_iff.1 hy3
     refine RL.op _ (by decide) (opv_call (cap := []) (impl_within_ok _ _ _ _ _ hx12) rfl rfl ⟨rfl, rfl, rfl, trivial⟩ Try.func71 rfl rfl) ?_
     rintro _ _ ⟨rfl, rfl⟩
     refine RL.opD (by decide) (opv_move rfl rfl) ?_
     by_cases c6 : x12 = true
     ·rw [if_pos c6] at hy3
      refine RL.noT rfl rfl c6 (by decide) ?_
      refine RL.noT rfl rfl c6 (by decide) ?_
      refine RL.noT rfl rfl c6 (by decide) ?_
      refine RL.noT rfl rfl c6 (by decide) ?_
      refine RL.noT rfl rfl c6 (by decide) ?_
      refine RL.noT rfl rfl c6 (by decide) ?_
      refine RL.opD (by decide) (opv_pick rfl rfl (fun _ => rfl) (fun e => absurd (Eq.trans (Eq.symm e) c6) (by decide)) rfl) ?_
      refine RL.nil ?_
      have ey3 := Option.some.inj hy3
      subst ey3
      refine onlyN ?_
      exact ⟨⟨rfl, rfl, rfl, rfl, rfl, rfl, rfl, rfl, rfl, rfl, rfl, rfl, rfl, rfl, rfl, trivial⟩, rfl⟩
     ·rw [if_neg c6] at hy3
      have c6 := eq_false_of_ne_true c6
      refine RL.yesD rfl rfl c6 (by decide) (opv_move rfl rfl) ?_
      refine RL.yesD rfl rfl c6 (by decide) (opv_move rfl rfl) ?_
      refine RL.yesD rfl rfl c6 (by decide) (opv_sub rfl rfl rfl) ?_
      refine RL.yesD rfl rfl c6 (by decide) (opv_move rfl rfl) ?_
      refine RL.yesD rfl rfl c6 (by decide) (opv_move rfl rfl) ?_
      obtain ⟨x13, hx13, hy3⟩ := Option.bind_eq_some_iff.1 hy3
      refine RL.yes _ rfl rfl c6 (by decide) (opv_call (cap := []) (impl_within_ok _ _ _ _ _ hx13) rfl rfl ⟨rfl, rfl, rfl, trivial⟩ Try.func71 rfl rfl) ?_
      rintro _ _ ⟨rfl, rfl⟩
      refine RL.opD (by decide) (opv_pick rfl rfl (fun e => absurd (Eq.trans (Eq.symm e) c6) (by decide)) (fun _ => rfl) rfl) ?_
      refine RL.nil ?_
      have ey3 := Option.some.inj hy3
      subst ey3
      refine onlyN ?_
      exact ⟨⟨rfl, rfl, rfl, rfl, rfl, rfl, rfl, rfl, rfl, rfl, rfl, rfl, rfl, rfl, rfl, trivial⟩, rfl⟩
    rintro φ' _ ⟨hs4, rfl⟩
    refine thnN ?_
    refine W.sub hs4 ?_
    obtain ⟨x14, hy4, ho1⟩ := Option.bind_eq_some_iff.1 ho1
    refine W.cut (fun φ' h' => Fr.sub [(0, u0), (1, (.int .i64 a1)), (2, (.int .i64 a2)), (6, (.slice none 0 0)), (7, (.bool false)), (8, (.int .i64 (a0.length : Int))), (29, (.bool x1)), (9, v1), (32, u0), (33, (.int .i64 (a0.length : Int))), (34, (.int .i64 x5)), (35, (.bool (decide (x5 < (a0.length : Int))))), (10, (.int .i64 x5)), (11, v3), (50, (.bool x11))] φ' ∧ Mod [] h0 h' ∧ Sep [] h0.size h' [ownO (kC .f32) 45 v1 x14, ownO (kC .f32) 45 (.slice none 0 0) ([] : List ((Option Nat × Option Nat)))]) ?_ ?_
    ·by_cases c7 : x11 = true
     ·rw [if_pos c7] at hy4
      refine W.condT rfl c7 ?_
      refine W.region ?_
      refine RL.opD (by decide) (opv_move rfl rfl) ?_
      refine RL.opD (by decide) (opv_move rfl rfl) ?_
      refine RL.opD (by decide) (opv_move rfl rfl) ?_
      obtain ⟨x15, hx15, hy4⟩ := Option.bind_eq_some_iff.1 hy4
      refine RL.op _ (by decide) (opv_index rfl Try.underlying59 (by rw [Try.size45]; rfl) rfl rfl (ownO.read (Sep.at (o := ownO (kC .f32) 45 v1 x6) S_4 0 rfl)) hx15) ?_
      rintro v4 _ ⟨fv4, rfl⟩
      obtain ⟨x16, hx16, hy4⟩ := Option.bind_eq_some_iff.1 hy4
      refine RL.op0 _ (opS_storeE (K := (kC .f32)) rfl Try.size45 rfl rfl fv4 rfl ⟨_, rfl, fv3⟩ hx16 (Sep.at (o := ownO (kC .f32) 45 v1 x6) S_4 0 rfl)) ?_
      rintro _ hp3 ⟨rfl, MT_2, T_2⟩
      have S_5 : Sep [] h0.size hp2 ([ownO (kC .f32) 45 v1 x6] ++ [ownO (kC .f32) 45 (.slice none 0 0) ([] : List ((Option Nat × Option Nat)))]) := Sep.sel S_4 [0, 1] (by decide)
      obtain ⟨X_3, S_6⟩ := Sep.turn X_2 S_5 MT_2 T_2
      refine RL.nil ?_
      have ey4 := Option.some.inj hy4
      subst ey4
      refine onlyN ?_
      exact ⟨⟨rfl, rfl, rfl, rfl, rfl, rfl, rfl, rfl, rfl, rfl, rfl, rfl, rfl, rfl, rfl, trivial⟩, X_3, (Sep.sel S_6 [0, 1] (by decide))⟩
     ·rw [if_neg c7] at hy4
      have c7 := eq_false_of_ne_true c7
      refine W.condF rfl c7 ?_
      refine W.skip ?_
      have ey4 := Option.some.inj hy4
      subst ey4
      refine onlyN ?_
      exact ⟨⟨rfl, rfl, rfl, rfl, rfl, rfl, rfl, rfl, rfl, rfl, rfl, rfl, rfl, rfl, rfl, trivial⟩, X_2, (Sep.sel S_4 [0, 1] (by decide))⟩
    rintro φ' hp4 ⟨hs5, X_4, S_7⟩
    refine blkN ?_
    refine thnN ?_
    refine W.sub hs5 ?_
    refine W.region ?_
    refine RL.opD (by decide) (opv_add rfl rfl rfl) ?_
    refine RL.opD (by decide) (opv_move rfl rfl) ?_
    refine RL.nil ?_
    have eo1 := Option.some.inj ho1
    subst eo1
    refine rndN (s' := (IntKind.wrap .i64 (x5 + 1), x14)) rfl ?_
    exact ⟨⟨rfl, rfl, rfl, rfl, rfl, rfl, rfl, rfl, rfl, rfl, rfl, trivial⟩, X_4, (Sep.sel S_7 [0, 1] (by decide))⟩
   ·rw [if_neg c5] at ho1
    have c5 := eq_false_of_ne_true c5
    refine W.condF rfl c5 ?_
    refine W.exit ?_
    refine thnX ?_
    refine rndX ?_
    refine blkI ?_
    have eo1 := Option.some.inj ho1
    subst eo1
    have ey2 := hy1 _ rfl
    subst ey2
    refine onlyN ?_
    exact ⟨x5, decide (x5 < (a0.length : Int)), x6, rfl, ⟨rfl, rfl, rfl, rfl, rfl, rfl, rfl, rfl, rfl, rfl, rfl, rfl, trivial⟩, X_2, (Sep.sel S_4 [0, 1] (by decide))⟩
  rintro φ' hp5 ⟨x7, x8, x9, rfl, hs3, X_5, S_8⟩
  try dsimp only at hp
  refine thnN ?_
  refine W.sub hs3 ?_
  refine W.seq ?_
  refine W.region ?_
  refine RL.opD (by decide) (opv_move rfl rfl) ?_
  refine RL.opD (by decide) (opv_assign rfl rfl) ?_
  refine RL.opD (by decide) (opv_assign rfl rfl) ?_
  refine RL.nil ?_
  refine thnN ?_
  refine W.ret ?_
  have er := Option.some.inj hp
  subst er
  exact Rt.two rfl rfl rfl ⟨v1, rfl, X_5, (Sep.sel S_8 [0] (by decide))⟩

set_option maxHeartbeats 4000000 in
set_option maxRecDepth 20000 in
theorem laws_FnSpectraAdded_ok (h0 : Heap) (u0 : Value) (a0 : List (Int)) (g0 : SL (kI .u8) h0.size h0 u0 a0) (u1 : Value) (a1 : List (Int)) (g1 : SL (kI .u8) h0.size h0 u1 a1) (r : Bool) (hp : laws_FnSpectraAdded a0 a1 = some r) : CallsH Try.prog 6 ([u0, u1].toArray ++ [].toArray) h0 (fun v h' => v = (.bool r) ∧ Mod [] h0 h' ∧ Sep [] h0.size h' []) := by
 unfold laws_FnSpectraAdded at hp
 refine callsH_of_W (l := [u0, u1]) (cap := []) 207 Try.func6 rfl rfl rfl ?_
 refine W.seq ?_
 refine W.region ?_
 refine RL.opD (by decide) (opv_assign rfl rfl) ?_
 refine RL.nil ?_
 refine thnN ?_
 refine W.seq ?_
 refine W.seq ?_
 refine W.region ?_
 refine RL.opD (by decide) (opv_move rfl rfl) ?_
 refine RL.opD (by decide) (opv_move rfl rfl) ?_
 obtain ⟨x1, hx1, hp⟩ := Option.bind_eq_some_iff.1 hp
 refine RL.op _ (by decide) (opv_call (cap := []) (laws_r8Long_ok _ _ _ g0 _ _ g1 _ hx1) rfl rfl ⟨rfl, rfl, trivial⟩ Try.func11 rfl rfl) ?_
 rintro _ _ ⟨rfl, rfl⟩
 refine RL.nil ?_
 refine thnN ?_
 by_cases c1 : x1 = true
 ·rw [if_pos c1] at hp
  refine W.condT rfl c1 ?_
  refine W.seq ?_
  refine W.region ?_
  refine RL.opD (by decide) (opv_assign rfl rfl) ?_
  refine RL.nil ?_
  refine thnN ?_
  refine W.ret ?_
  refine thnR ?_
  have er := Option.some.inj hp
  subst er
  exact Rt.one rfl rfl ⟨rfl, (Mod.refl [] h0), (Sep.nil _ _ _)⟩
 ·rw [if_neg c1] at hp
  have c1 := eq_false_of_ne_true c1
  refine W.condF rfl c1 ?_
  refine W.skip ?_
  refine thnN ?_
  refine W.seq ?_
  refine W.region ?_
  refine RL.opD (by decide) (opv_move rfl rfl) ?_
  obtain ⟨x2, hx2, hp⟩ := Option.bind_eq_some_iff.1 hp
  refine RL.op _ (by decide) (opv_call (cap := []) (laws_r8At_ok _ _ _ g1 _ _ _ hx2) rfl rfl ⟨rfl, rfl, rfl, trivial⟩ Try.func12 rfl rfl) ?_
  rintro _ _ ⟨rfl, rfl⟩
  refine RL.opD (by decide) (opv_add rfl rfl rfl) ?_
  refine RL.opD (by decide) (opv_assign rfl rfl) ?_
  refine RL.nil ?_
  refine thnN ?_
  refine W.seq ?_
  refine W.region ?_
  refine RL.opD (by decide) (opv_move rfl rfl) ?_
  refine RL.opD (by decide) (opv_move rfl rfl) ?_
  obtain ⟨x3, hx3, hp⟩ := Option.bind_eq_some_iff.1 hp
  refine RL.op _ (by decide) (opv_call (cap := []) (spec_R8Record_ok _ _ _ g0 _ _ hx3) rfl rfl ⟨rfl, rfl, trivial⟩ Try.func13 rfl rfl) ?_
  rintro v1 hp1 ⟨MT_1, T_1⟩
  obtain ⟨X_1, S_1⟩ := Sep.turn0 (Mod.refl [] h0) (Sep.nil [] h0.size h0) MT_1 T_1
  refine RL.opD (by decide) (opv_assign rfl rfl) ?_
  refine RL.nil ?_
  refine thnN ?_
  refine W.seq ?_
  refine W.region ?_
  refine RL.opD (by decide) (opv_move rfl rfl) ?_
  refine RL.opD (by decide) (opv_move rfl rfl) ?_
  obtain ⟨x4, hx4, hp⟩ := Option.bind_eq_some_iff.1 hp
  refine RL.op _ (by decide) (opv_call (cap := []) (spec_R8Record_ok _ _ _ (SL.up (SL.mod g1 X_1 (Nat.le_refl _) nob) (Nat.le_trans (Nat.le_refl _) (Mod.size X_1))) _ _ hx4) rfl rfl ⟨rfl, rfl, trivial⟩ Try.func13 rfl rfl) ?_
  rintro v2 hp2 ⟨MT_2, T_2⟩
  obtain ⟨X_2, S_2⟩ := Sep.turn0 X_1 S_1 MT_2 T_2
  refine RL.opD (by decide) (opv_assign rfl rfl) ?_
  refine RL.nil ?_
  refine thnN ?_
  refine W.seq ?_
  refine W.region ?_
  refine RL.op _ (by decide) (opS_lit0 (K := (kF .f32)) rfl Try.underlying25 Try.isinfo29) ?_
  rintro v3 hp3 ⟨MT_3, T_3⟩
  obtain ⟨X_3, S_3⟩ := Sep.turn0 X_2 S_2 MT_3 T_3
  refine RL.opD (by decide) (opv_assign rfl rfl) ?_
  refine RL.nil ?_
  refine thnN ?_
  refine W.seq ?_
  refine W.seq ?_
  refine W.region ?_
  refine RL.opD (by decide) (opv_assign rfl rfl) ?_
  refine RL.nil ?_
  refine thnN ?_
  obtain ⟨y1, hy1, hp⟩ := Option.bind_eq_some_iff.1 hp
  refine W.cut (fun φ' h' => ∃ x7, ∃ x8, ∃ x9, ∃ v5, y1 = (x7, x8, x9) ∧ Fr.sub [(0, u0), (1, u1), (4, (.bool false)), (25, (.bool x1)), (5, (.int .i64 (IntKind.wrap .i64 (1 + x2)))), (6, v1), (7, v2), (9, (.int .i64 x7)), (38, (.bool x8)), (8, v5)] φ' ∧ Mod [] h0 h' ∧ Sep [] h0.size h' [ownO (kF .f32) 29 v2 x4, ownO (kF .f32) 29 v1 x3, ownO (kF .f32) 29 v5 x9]) ?_ ?_
  ·refine W.block ?_
   refine W.loopS (fun (s : ((List (Option Nat)) × Int)) φ' h' => ∃ v4, Fr.sub [(0, u0), (1, u1), (4, (.bool false)), (25, (.bool x1)), (5, (.int .i64 (IntKind.wrap .i64 (1 + x2)))), (6, v1), (7, v2), (8, v4), (9, (.int .i64 s.2))] φ' ∧ Mod [] h0 h' ∧ Sep [] h0.size h' [ownO (kF .f32) 29 v4 s.1, ownO (kF .f32) 29 v2 x4, ownO (kF .f32) 29 v1 x3]) hy1 ⟨v3, ⟨rfl, rfl, rfl, rfl, rfl, rfl, rfl, rfl, rfl, trivial⟩, X_3, (Sep.sel S_3 [0, 1, 2] (by decide))⟩ ?_
   rintro ⟨x5, x6⟩ φ' hp4 o1 ⟨v4, hs1, X_4, S_4⟩ ho1 hy1
   have hs1 : Fr.sub [(0, u0), (1, u1), (4, (.bool false)), (25, (.bool x1)), (5, (.int .i64 (IntKind.wrap .i64 (1 + x2)))), (6, v1), (7, v2), (8, v4), (9, (.int .i64 x6))] φ' := hs1
   have S_4 : Sep [] h0.size hp4 [ownO (kF .f32) 29 v4 x5, ownO (kF .f32) 29 v2 x4, ownO (kF .f32) 29 v1 x3] := S_4
   have ho1 : laws_FnSpectraAdded.s0 x2 x3 x4 x5 x6 = some o1 := ho1
   unfold laws_FnSpectraAdded.s0 at ho1
   refine W.sub hs1 ?_
   refine W.seq ?_
   refine W.seq ?_
   refine W.region ?_
   refine RL.opD (by decide) (opv_move rfl rfl) ?_
   refine RL.opD (by decide) (opv_move rfl rfl) ?_
   refine RL.opD (by decide) (opv_icmp rfl rfl rfl rfl) ?_
   refine RL.nil ?_
   refine thnN ?_
   by_cases c2 : (decide (x6 < (IntKind.wrap .i64 (1 + x2)))) = true
   ·rw [if_pos c2] at ho1
    refine W.condT rfl c2 ?_
    refine W.skip ?_
    refine thnN ?_
    refine W.seq ?_
    refine W.block ?_
    obtain ⟨x10, hx10, ho1⟩ := Option.bind_eq_some_iff.1 ho1
    obtain ⟨x11, hx11, ho1⟩ := Option.bind_eq_some_iff.1 ho1
    obtain ⟨c3, ho1⟩ := of_ite ho1
    refine W.sub (ψ := [(0, u0), (1, u1), (4, (.bool false)), (25, (.bool x1)), (5, (.int .i64 (IntKind.wrap .i64 (1 + x2)))), (6, v1), (7, v2), (8, v4), (9, (.int .i64 x6)), (38, (.bool (decide (x6 < (IntKind.wrap .i64 (1 + x2))))))]) ⟨rfl, rfl, rfl, rfl, rfl, rfl, rfl, rfl, rfl, rfl, trivial⟩ ?_
    refine W.regionS [fun v _ => @Eq Value v4 v, fun v _ => @Eq Value v1 v, fun v _ => @Eq Value (.int .i64 x6) v, fun v _ => PtI 1 v v1 (Int.toNat x6), fun v _ => IsF .f32 v x10, fun v _ => @Eq Value v2 v, fun v _ => @Eq Value (.int .i64 x6) v, fun v _ => PtI 1 v v2 (Int.toNat x6), fun v _ => IsF .f32 v x11, fun v _ => IsF .f32 v (fop .add .f32 x10 x11), fun v h => Sep [] hp4.size h [ownO (kF .f32) 29 v [fop .add .f32 x10 x11]]] [[], [], [], [1, 2], [3], [], [], [5, 6], [7], [4, 8], [9]] [0, 10] Try.mixed (by decide +kernel) (by decide +kernel) rfl rfl rfl ⟨fun _ _ _ h _ => h, fun _ _ _ h _ => h, fun _ _ _ h _ => h, fun _ _ _ h _ => h, fun _ _ _ h _ => h, fun _ _ _ h _ => h, fun _ _ _ h _ => h, fun _ _ _ h _ => h, fun _ _ _ h _ => h, fun _ _ _ h _ => h, fun _ _ _ h x => h.ext x, trivial⟩ ?_ ?_
    ·refine ⟨⟨rfl, ?_⟩, ⟨rfl, ?_⟩, ⟨rfl, ?_⟩, ⟨rfl, ?_⟩, ⟨rfl, ?_⟩, ⟨rfl, ?_⟩, ⟨rfl, ?_⟩, ⟨rfl, ?_⟩, ⟨rfl, ?_⟩, ⟨rfl, ?_⟩, ⟨rfl, ?_⟩, trivial⟩
     ·rintro hp7 E_1
      refine Dep.nil ?_
      refine GuardOK.none rfl ?_
      exact OpV.toDx (opv_move rfl rfl) rfl
     ·rintro hp8 E_2
      refine Dep.nil ?_
      refine GuardOK.none rfl ?_
      exact OpV.toDx (opv_move rfl rfl) rfl
     ·rintro hp9 E_3
      refine Dep.nil ?_
      refine GuardOK.none rfl ?_
      exact OpV.toDx (opv_move rfl rfl) rfl
     ·rintro hp10 E_4 _ rfl _ rfl
      refine Dep.nil ?_
      refine GuardOK.none rfl ?_
      exact OpV.toSx (opv_index rfl Try.underlying25 (by rw [Try.size29]; rfl) rfl rfl (ownO.read (Sep.at (o := ownO (kF .f32) 29 v1 x3) (Sep.ext S_4 E_4) 2 rfl)) hx10) (fun _ h => h)
     ·rintro hp11 E_5 v6 fv6
      refine Dep.nil ?_
      refine GuardOK.none rfl ?_
      exact OpV.toSx (opv_loadF rfl Try.one29 rfl fv6 (ownO.read (Sep.at (o := ownO (kF .f32) 29 v1 x3) (Sep.ext S_4 E_5) 2 rfl)) hx10) (fun _ h => h)
     ·rintro hp12 E_6
      refine Dep.nil ?_
      refine GuardOK.none rfl ?_
      exact OpV.toDx (opv_move rfl rfl) rfl
     ·rintro hp13 E_7
      refine Dep.nil ?_
      refine GuardOK.none rfl ?_
      exact OpV.toDx (opv_move rfl rfl) rfl
     ·rintro hp14 E_8 _ rfl _ rfl
      refine Dep.nil ?_
      refine GuardOK.none rfl ?_
      exact OpV.toSx (opv_index rfl Try.underlying25 (by rw [Try.size29]; rfl) rfl rfl (ownO.read (Sep.at (o := ownO (kF .f32) 29 v2 x4) (Sep.ext S_4 E_8) 1 rfl)) hx11) (fun _ h => h)
     ·rintro hp15 E_9 v8 fv8
      refine Dep.nil ?_
      refine GuardOK.none rfl ?_
      exact OpV.toSx (opv_loadF rfl Try.one29 rfl fv8 (ownO.read (Sep.at (o := ownO (kF .f32) 29 v2 x4) (Sep.ext S_4 E_9) 1 rfl)) hx11) (fun _ h => h)
     ·rintro hp16 E_10 v7 fv7 v9 fv9
      refine Dep.nil ?_
      refine GuardOK.none rfl ?_
      exact OpV.toSx (opv_fop rfl rfl rfl rfl fv7 fv9) (fun _ h => h)
     ·rintro hp17 E_11 v10 fv10
      refine Dep.nil ?_
      refine GuardOK.none rfl ?_
      exact OpV.mono (opS_lit1 (K := (kF .f32)) (z := (fop .add .f32 x10 x11)) rfl Try.underlying25 Try.einfo29 rfl rfl rfl rfl ⟨_, rfl, fv10⟩) (by rintro _ _ ⟨M_, T_⟩; exact ⟨Mod.ext M_, Sep.weak T_ (Ext.size E_11)⟩)
    rintro hp18 E_12 _ rfl v11 T_4
    have X_7 := Mod.lift X_4 E_12
    have S_8 := Sep.join S_4 (Mod.size X_4) (Ext.mod E_12 []) T_4
    refine Dep.nil ?_
    show RL _ _ _ _ (_ :: _) _ _
    refine RL.op _ (by decide) (opS_append (K := (kF .f32)) rfl Try.underlying25 Try.einfo29 rfl rfl rfl rfl (Sep.at (o := ownO (kF .f32) 29 v4 x5) S_8 1 rfl) (ownO.read (Sep.at (o := ownO (kF .f32) 29 v11 [fop .add .f32 x10 x11]) S_8 0 rfl)) (by decide) (by decide) c3) ?_
    rintro v13 hp19 ⟨MT_6, T_6⟩
    have S_9 : Sep [] h0.size hp18 ([ownO (kF .f32) 29 v4 x5] ++ [ownO (kF .f32) 29 v11 [fop .add .f32 x10 x11], ownO (kF .f32) 29 v2 x4, ownO (kF .f32) 29 v1 x3]) := Sep.sel S_8 [1, 0, 2, 3] (by decide)
    obtain ⟨X_8, S_10⟩ := Sep.turn X_7 S_9 MT_6 T_6
    refine RL.opD (by decide) (opv_assign rfl rfl) ?_
    refine RL.nil ?_
    refine blkN ?_
    refine thnN ?_
    refine W.region ?_
    refine RL.opD (by decide) (opv_move rfl rfl) ?_
    refine RL.opD (by decide) (opv_add rfl rfl rfl) ?_
    refine RL.opD (by decide) (opv_assign rfl rfl) ?_
    refine RL.nil ?_
    have eo1 := Option.some.inj ho1
    subst eo1
    refine rndN (s' := (x5 ++ [fop .add .f32 x10 x11], IntKind.wrap .i64 (x6 + 1))) rfl ?_
    exact ⟨v13, ⟨rfl, rfl, rfl, rfl, rfl, rfl, rfl, rfl, rfl, trivial⟩, X_8, (Sep.sel S_10 [0, 2, 3] (by decide))⟩
   ·rw [if_neg c2] at ho1
    have c2 := eq_false_of_ne_true c2
    refine W.condF rfl c2 ?_
    refine W.exit ?_
    refine thnX ?_
    refine rndX ?_
    refine blkI ?_
    have eo1 := Option.some.inj ho1
    subst eo1
    have ey1 := hy1 _ rfl
    subst ey1
    refine onlyN ?_
    exact ⟨x6, decide (x6 < (IntKind.wrap .i64 (1 + x2))), x5, v4, rfl, ⟨rfl, rfl, rfl, rfl, rfl, rfl, rfl, rfl, rfl, rfl, trivial⟩, X_4, (Sep.sel S_4 [1, 2, 0] (by decide))⟩
  rintro φ' hp20 ⟨x7, x8, x9, v5, rfl, hs2, X_9, S_11⟩
  try dsimp only at hp
  refine thnN ?_
  refine W.sub hs2 ?_
  refine W.seq ?_
  refine W.region ?_
  refine RL.opD (by decide) (opv_move rfl rfl) ?_
  obtain ⟨x12, hx12, hp⟩ := Option.bind_eq_some_iff.1 hp
  refine RL.op _ (by decide) (opv_call (cap := []) (impl_SpectrumOf_ok _ _ _ (ownO.read (Sep.at (o := ownO (kF .f32) 29 v1 x3) S_11 1 rfl)) _ hx12) rfl rfl ⟨rfl, trivial⟩ Try.func31 rfl rfl) ?_
  rintro _ hp21 ⟨v14, rfl, MT_7, T_7⟩
  obtain ⟨X_10, S_12⟩ := Sep.turn0 X_9 S_11 MT_7 T_7
  refine RL.opD (by decide) (opv_move rfl rfl) ?_
  refine RL.opD (by decide) (opv_extract rfl rfl rfl) ?_
  refine RL.opD (by decide) (opv_extract rfl rfl rfl) ?_
  refine RL.opD (by decide) (opv_assign rfl rfl) ?_
  refine RL.opD (by decide) (opv_assign rfl rfl) ?_
  refine RL.nil ?_
  refine thnN ?_
  refine W.seq ?_
  refine W.region ?_
  refine RL.opD (by decide) (opv_move rfl rfl) ?_
  obtain ⟨x13, hx13, hp⟩ := Option.bind_eq_some_iff.1 hp
  refine RL.op _ (by decide) (opv_call (cap := []) (impl_SpectrumOf_ok _ _ _ (ownO.read (Sep.at (o := ownO (kF .f32) 29 v2 x4) S_12 1 rfl)) _ hx13) rfl rfl ⟨rfl, trivial⟩ Try.func31 rfl rfl) ?_
  rintro _ hp22 ⟨v15, rfl, MT_8, T_8⟩
  obtain ⟨X_11, S_13⟩ := Sep.turn0 X_10 S_12 MT_8 T_8
  refine RL.opD (by decide) (opv_move rfl rfl) ?_
  refine RL.opD (by decide) (opv_extract rfl rfl rfl) ?_
  refine RL.opD (by decide) (opv_extract rfl rfl rfl) ?_
  refine RL.opD (by decide) (opv_assign rfl rfl) ?_
  refine RL.opD (by decide) (opv_assign rfl rfl) ?_
  refine RL.nil ?_
  refine thnN ?_
  refine W.seq ?_
  refine W.region ?_
  refine RL.opD (by decide) (opv_move rfl rfl) ?_
  obtain ⟨x14, hx14, hp⟩ := Option.bind_eq_some_iff.1 hp
  refine RL.op _ (by decide) (opv_call (cap := []) (impl_SpectrumOf_ok _ _ _ (ownO.read (Sep.at (o := ownO (kF .f32) 29 v5 x9) S_13 4 rfl)) _ hx14) rfl rfl ⟨rfl, trivial⟩ Try.func31 rfl rfl) ?_
  rintro _ hp23 ⟨v16, rfl, MT_9, T_9⟩
  obtain ⟨X_12, S_14⟩ := Sep.turn0 X_11 S_13 MT_9 T_9
  refine RL.opD (by decide) (opv_move rfl rfl) ?_
  refine RL.opD (by decide) (opv_extract rfl rfl rfl) ?_
  refine RL.opD (by decide) (opv_extract rfl rfl rfl) ?_
  refine RL.opD (by decide) (opv_assign rfl rfl) ?_
  refine RL.opD (by decide) (opv_assign rfl rfl) ?_
  refine RL.nil ?_
  refine thnN ?_
  refine W.seq ?_
  refine W.region ?_
  refine RL.opD (by decide) (opv_move rfl rfl) ?_
  refine RL.opD (by decide) (opv_move rfl rfl) ?_
  obtain ⟨x15, hx15, hp⟩ := Option.bind_eq_some_iff.1 hp
  refine RL.op _ (by decide) (opv_call (cap := []) (impl_TransferOf_ok _ _ _ (ownO.read (Sep.at (o := ownO (kC .f32) 45 v16 x14.1) S_14 0 rfl)) _ _ (ownO.read (Sep.at (o := ownO (kC .f32) 45 v16 x14.1) S_14 0 rfl)) _ hx15) rfl rfl ⟨rfl, rfl, trivial⟩ Try.func32 rfl rfl) ?_
  rintro _ hp24 ⟨v17, rfl, MT_10, T_10⟩
  obtain ⟨X_13, S_15⟩ := Sep.turn0 X_12 S_14 MT_10 T_10
  refine RL.opD (by decide) (opv_move rfl rfl) ?_
  refine RL.opD (by decide) (opv_extract rfl rfl rfl) ?_
  refine RL.opD (by decide) (opv_extract rfl rfl rfl) ?_
  refine RL.opD (by decide) (opv_assign rfl rfl) ?_
  refine RL.opD (by decide) (opv_assign rfl rfl) ?_
  refine RL.nil ?_
  refine thnN ?_
  refine W.seq ?_
  refine W.region ?_
  refine RL.opD (by decide) (opv_move rfl rfl) ?_
  refine RL.opD (by decide) (opv_move rfl rfl) ?_
  refine RL.opD (by decide) (opv_quo rfl (by decide) rfl rfl) ?_
  refine RL.opD (by decide) (opv_add rfl rfl rfl) ?_
  obtain ⟨x16, hx16, hp⟩ := Option.bind_eq_some_iff.1 hp
  refine RL.op _ (by decide) (opv_call (cap := []) (laws_r8At_ok _ _ _ (SL.up (SL.mod g1 X_13 (Nat.le_refl _) nob) (Nat.le_trans (Nat.le_refl _) (Mod.size X_13))) _ _ _ hx16) rfl rfl ⟨rfl, rfl, rfl, trivial⟩ Try.func12 rfl rfl) ?_
  rintro _ _ ⟨rfl, rfl⟩
  refine RL.opD (by decide) (opv_assign rfl rfl) ?_
  refine RL.nil ?_
  refine thnN ?_
  refine W.seq ?_
  refine W.region ?_
  refine RL.opD (by decide) (opv_move rfl rfl) ?_
  refine RL.opD (by decide) (opv_move rfl rfl) ?_
  refine RL.opD (by decide) (opv_move rfl rfl) ?_
  refine RL.opD (by decide) (opv_quo rfl (by decide) rfl rfl) ?_
  obtain ⟨x17, hx17, hp⟩ := Option.bind_eq_some_iff.1 hp
  refine RL.op _ (by decide) (opv_call (cap := []) (impl_CutSpectrum_ok _ _ _ (ownO.read (Sep.at (o := ownO (kC .f32) 45 v16 x14.1) S_15 1 rfl)) _ _ _ hx17) rfl rfl ⟨rfl, rfl, rfl, trivial⟩ Try.func33 rfl rfl) ?_
  rintro _ hp25 ⟨v18, rfl, MT_11, T_11⟩
  obtain ⟨X_14, S_16⟩ := Sep.turn0 X_13 S_15 MT_11 T_11
  refine RL.opD (by decide) (opv_move rfl rfl) ?_
  refine RL.opD (by decide) (opv_extract rfl rfl rfl) ?_
  refine RL.opD (by decide) (opv_extract rfl rfl rfl) ?_
  refine RL.opD (by decide) (opv_assign rfl rfl) ?_
  refine RL.opD (by decide) (opv_assign rfl rfl) ?_
  refine RL.nil ?_
  refine thnN ?_
  refine W.seq ?_
  refine W.seq ?_
  obtain ⟨x18, hy2, hp⟩ := Option.bind_eq_some_iff.1 hp
  refine W.cut (fun φ' h' => Fr.sub [(0, u0), (1, u1), (4, (.bool false)), (25, (.bool x1)), (5, (.int .i64 (IntKind.wrap .i64 (1 + x2)))), (6, v1), (7, v2), (9, (.int .i64 x7)), (38, (.bool x8)), (8, v5), (10, v14), (11, (.bool x12.2)), (12, v15), (13, (.bool x13.2)), (14, v16), (15, (.bool x14.2)), (16, v17), (17, (.bool x15.2)), (18, (.int .i64 x16)), (19, v18), (20, (.bool x17.2)), (122, (.bool x18))] φ' ∧ hp25 = h') ?_ ?_
  ·refine W.region ?_
   refine RL.opD (by decide) (opv_move rfl rfl) ?_
   refine RL.opD (by decide) (opv_not rfl rfl) ?_
   refine RL.opD (by decide) (opv_move rfl rfl) ?_
   by_cases c4 : (!x12.2) = true
   ·rw [if_pos c4] at hy2
    refine RL.noT rfl rfl c4 (by decide) ?_
    refine RL.noT rfl rfl c4 (by decide) ?_
    refine RL.opD (by decide) (opv_pick rfl rfl (fun _ => rfl) (fun e => absurd (Eq.trans (Eq.symm e) c4) (by decide)) rfl) ?_
    refine RL.opD (by decide) (opv_move rfl rfl) ?_
    refine RL.noT rfl rfl rfl (by decide) ?_
    refine RL.noT rfl rfl rfl (by decide) ?_
    refine RL.opD (by decide) (opv_pick rfl rfl (fun _ => rfl) (fun e => absurd (Eq.trans (Eq.symm e) rfl) (by decide)) rfl) ?_
    refine RL.opD (by decide) (opv_move rfl rfl) ?_
    refine RL.noT rfl rfl rfl (by decide) ?_
    refine RL.noT rfl rfl rfl (by decide) ?_
    refine RL.opD (by decide) (opv_pick rfl rfl (fun _ => rfl) (fun e => absurd (Eq.trans (Eq.symm e) rfl) (by decide)) rfl) ?_
    refine RL.opD (by decide) (opv_move rfl rfl) ?_
    refine RL.noT rfl rfl rfl (by decide) ?_
    refine RL.noT rfl rfl rfl (by decide) ?_
    refine RL.opD (by decide) (opv_pick rfl rfl (fun _ => rfl) (fun e => absurd (Eq.trans (Eq.symm e) rfl) (by decide)) rfl) ?_
    refine RL.opD (by decide) (opv_move rfl rfl) ?_
    refine RL.noT rfl rfl rfl (by decide) ?_
    refine RL.noT rfl rfl rfl (by decide) ?_
    refine RL.noT rfl rfl rfl (by decide) ?_
    refine RL.noT rfl rfl rfl (by decide) ?_
    refine RL.opD (by decide) (opv_pick rfl rfl (fun _ => rfl) (fun e => absurd (Eq.trans (Eq.symm e) rfl) (by decide)) rfl) ?_
    refine RL.opD (by decide) (opv_move rfl rfl) ?_
    refine RL.noT rfl rfl rfl (by decide) ?_
    refine RL.noT rfl rfl rfl (by decide) ?_
    refine RL.noT rfl rfl rfl (by decide) ?_
    refine RL.noT rfl rfl rfl (by decide) ?_
    refine RL.opD (by decide) (opv_pick rfl rfl (fun _ => rfl) (fun e => absurd (Eq.trans (Eq.symm e) rfl) (by decide)) rfl) ?_
    refine RL.opD (by decide) (opv_move rfl rfl) ?_
    refine RL.noT rfl rfl rfl (by decide) ?_
    refine RL.noT rfl rfl rfl (by decide) ?_
    refine RL.noT rfl rfl rfl (by decide) ?_
    refine RL.noT rfl rfl rfl (by decide) ?_
    refine RL.opD (by decide) (opv_pick rfl rfl (fun _ => rfl) (fun e => absurd (Eq.trans (Eq.symm e) rfl) (by decide)) rfl) ?_
    refine RL.nil ?_
    have ey2 := Option.some.inj hy2
    subst ey2
    refine onlyN ?_
    exact ⟨⟨rfl, rfl, rfl, rfl, rfl, rfl, rfl, rfl, rfl, rfl, rfl, rfl, rfl, rfl, rfl, rfl, rfl, rfl, rfl, rfl, rfl, rfl, trivial⟩, rfl⟩
   ·rw [if_neg c4] at hy2
    have c4 := eq_false_of_ne_true c4
    refine RL.yesD rfl rfl c4 (by decide) (opv_move rfl rfl) ?_
    refine RL.yesD rfl rfl c4 (by decide) (opv_not rfl rfl) ?_
    refine RL.opD (by decide) (opv_pick rfl rfl (fun e => absurd (Eq.trans (Eq.symm e) c4) (by decide)) (fun _ => rfl) rfl) ?_
    refine RL.opD (by decide) (opv_move rfl rfl) ?_
    by_cases c5 : (!x13.2) = true
    ·rw [if_pos c5] at hy2
     refine RL.noT rfl rfl c5 (by decide) ?_
     refine RL.noT rfl rfl c5 (by decide) ?_
     refine RL.opD (by decide) (opv_pick rfl rfl (fun _ => rfl) (fun e => absurd (Eq.trans (Eq.symm e) c5) (by decide)) rfl) ?_
     refine RL.opD (by decide) (opv_move rfl rfl) ?_
     refine RL.noT rfl rfl rfl (by decide) ?_
     refine RL.noT rfl rfl rfl (by decide) ?_
     refine RL.opD (by decide) (opv_pick rfl rfl (fun _ => rfl) (fun e => absurd (Eq.trans (Eq.symm e) rfl) (by decide)) rfl) ?_
     refine RL.opD (by decide) (opv_move rfl rfl) ?_
     refine RL.noT rfl rfl rfl (by decide) ?_
     refine RL.noT rfl rfl rfl (by decide) ?_
     refine RL.opD (by decide) (opv_pick rfl rfl (fun _ => rfl) (fun e => absurd (Eq.trans (Eq.symm e) rfl) (by decide)) rfl) ?_
     refine RL.opD (by decide) (opv_move rfl rfl) ?_
     refine RL.noT rfl rfl rfl (by decide) ?_
     refine RL.noT rfl rfl rfl (by decide) ?_
     refine RL.noT rfl rfl rfl (by decide) ?_
     refine RL.noT rfl rfl rfl (by decide) ?_
     refine RL.opD (by decide) (opv_pick rfl rfl (fun _ => rfl) (fun e => absurd (Eq.trans (Eq.symm e) rfl) (by decide)) rfl) ?_
     refine RL.opD (by decide) (opv_move rfl rfl) ?_
     refine RL.noT rfl rfl rfl (by decide) ?_
     refine RL.noT rfl rfl rfl (by decide) ?_
     refine RL.noT rfl rfl rfl (by decide) ?_
     refine RL.noT rfl rfl rfl (by decide) ?_
     refine RL.opD (by decide) (opv_pick rfl rfl (fun _ => rfl) (fun e => absurd (Eq.trans (Eq.symm e) rfl) (by decide)) rfl) ?_
     refine RL.opD (by decide) (opv_move rfl rfl) ?_
     refine RL.noT rfl rfl rfl (by decide) ?_
     refine RL.noT rfl rfl rfl (by decide) ?_
     refine RL.noT rfl rfl rfl (by decide) ?_
     refine RL.noT rfl rfl rfl (by decide) ?_
     refine RL.opD (by decide) (opv_pick rfl rfl (fun _ => rfl) (fun e => absurd (Eq.trans (Eq.symm e) rfl) (by decide)) rfl) ?_
     refine RL.nil ?_
     have ey2 := Option.some.inj hy2
     subst ey2
     refine onlyN ?_
     exact ⟨⟨rfl, rfl, rfl, rfl, rfl, rfl, rfl, rfl, rfl, rfl, rfl, rfl, rfl, rfl, rfl, rfl, rfl, rfl, rfl, rfl, rfl, rfl, trivial⟩, rfl⟩
    ·rw [if_neg c5] at hy2
     have c5 := eq_false_of_ne_true c5
     refine RL.yesD rfl rfl c5 (by decide) (opv_move rfl rfl) ?_
     refine RL.yesD rfl rfl c5 (by decide) (opv_not rfl rfl) ?_
     refine RL.opD (by decide) (opv_pick rfl rfl (fun e => absurd (Eq.trans (Eq.symm e) c5) (by decide)) (fun _ => rfl) rfl) ?_
     refine RL.opD (by decide) (opv_move rfl rfl) ?_
     by_cases c6 : (!x14.2) = true
     ·rw [if_pos c6] at hy2
      refine RL.noT rfl rfl c6 (by decide) ?_
      refine RL.noT rfl rfl c6 (by decide) ?_
      refine RL.opD (by decide) (opv_pick rfl rfl (fun _ => rfl) (fun e => absurd (Eq.trans (Eq.symm e) c6) (by decide)) rfl) ?_
      refine RL.opD (by decide) (opv_move rfl rfl) ?_
      refine RL.noT rfl rfl rfl (by decide) ?_
      refine RL.noT rfl rfl rfl (by decide) ?_
      refine RL.opD (by decide) (opv_pick rfl rfl (fun _ => rfl) (fun e => absurd (Eq.trans (Eq.symm e) rfl) (by decide)) rfl) ?_
      refine RL.opD (by decide) (opv_move rfl rfl) ?_
      refine RL.noT rfl rfl rfl (by decide) ?_
      refine RL.noT rfl rfl rfl (by decide) ?_
      refine RL.noT rfl rfl rfl (by decide) ?_
      refine RL.noT rfl rfl rfl (by decide) ?_
      refine RL.opD (by decide) (opv_pick rfl rfl (fun _ => rfl) (fun e => absurd (Eq.trans (Eq.symm e) rfl) (by decide)) rfl) ?_
      refine RL.opD (by decide) (opv_move rfl rfl) ?_
      refine RL.noT rfl rfl rfl (by decide) ?_
      refine RL.noT rfl rfl rfl (by decide) ?_
      refine RL.noT rfl rfl rfl (by decide) ?_
      refine RL.noT rfl rfl rfl (by decide) ?_
      refine RL.opD (by decide) (opv_pick rfl rfl (fun _ => rfl) (fun e => absurd (Eq.trans (Eq.symm e) rfl) (by decide)) rfl) ?_
      refine RL.opD (by decide) (opv_move rfl rfl) ?_
      refine RL.noT rfl rfl rfl (by decide) ?_
      refine RL.noT rfl rfl rfl (by decide) ?_
      refine RL.noT rfl rfl rfl (by decide) ?_
      refine RL.noT rfl rfl rfl (by decide) ?_
      refine RL.opD (by decide) (opv_pick rfl rfl (fun _ => rfl) (fun e => absurd (Eq.trans (Eq.symm e) rfl) (by decide)) rfl) ?_
      refine RL.nil ?_
      have ey2 := Option.some.inj hy2
      subst ey2
      refine onlyN ?_
      exact ⟨⟨rfl, rfl, rfl, rfl, rfl, rfl, rfl, rfl, rfl, rfl, rfl, rfl, rfl, rfl, rfl, rfl, rfl, rfl, rfl, rfl, rfl, rfl, trivial⟩, rfl⟩
     ·rw [if_neg c6] at hy2
      have c6 := eq_false_of_ne_true c6
      refine RL.yesD rfl rfl c6 (by decide) (opv_move rfl rfl) ?_
      refine RL.yesD rfl rfl c6 (by decide) (opv_not rfl rfl) ?_
      refine RL.opD (by decide) (opv_pick rfl rfl (fun e => absurd (Eq.trans (Eq.symm e) c6) (by decide)) (fun _ => rfl) rfl) ?_
      refine RL.opD (by decide) (opv_move rfl rfl) ?_
      by_cases c7 : (!x15.2) = true
      ·rw [if_pos c7] at hy2
       refine RL.noT rfl rfl c7 (by decide) ?_
       refine RL.noT rfl rfl c7 (by decide) ?_
       refine RL.opD (by decide) (opv_pick rfl rfl (fun _ => rfl) (fun e => absurd (Eq.trans (Eq.symm e) c7) (by decide)) rfl) ?_
       refine RL.opD (by decide) (opv_move rfl rfl) ?_
       refine RL.noT rfl rfl rfl (by decide) ?_
       refine RL.noT rfl rfl rfl (by decide) ?_
       refine RL.noT rfl rfl rfl (by decide) ?_
       refine RL.noT rfl rfl rfl (by decide) ?_
       refine RL.opD (by decide) (opv_pick rfl rfl (fun _ => rfl) (fun e => absurd (Eq.trans (Eq.symm e) rfl) (by decide)) rfl) ?_
       refine RL.opD (by decide) (opv_move rfl rfl) ?_
       refine RL.noT rfl rfl rfl (by decide) ?_
       refine RL.noT rfl rfl rfl (by decide) ?_
       refine RL.noT rfl rfl rfl (by decide) ?_
       refine RL.noT rfl rfl rfl (by decide) ?_
       refine RL.opD (by decide) (opv_pick rfl rfl (fun _ => rfl) (fun e => absurd (Eq.trans (Eq.symm e) rfl) (by decide)) rfl) ?_
       refine RL.opD (by decide) (opv_move rfl rfl) ?_
       refine RL.noT rfl rfl rfl (by decide) ?_
       refine RL.noT rfl rfl rfl (by decide) ?_
       refine RL.noT rfl rfl rfl (by decide) ?_
       refine RL.noT rfl rfl rfl (by decide) ?_
       refine RL.opD (by decide) (opv_pick rfl rfl (fun _ => rfl) (fun e => absurd (Eq.trans (Eq.symm e) rfl) (by decide)) rfl) ?_
       refine RL.nil ?_
       have ey2 := Option.some.inj hy2
       subst ey2
       refine onlyN ?_
       exact ⟨⟨rfl, rfl, rfl, rfl, rfl, rfl, rfl, rfl, rfl, rfl, rfl, rfl, rfl, rfl, rfl, rfl, rfl, rfl, rfl, rfl, rfl, rfl, trivial⟩, rfl⟩
      ·rw [if_neg c7] at hy2
       have c7 := eq_false_of_ne_true c7
       refine RL.yesD rfl rfl c7 (by decide) (opv_move rfl rfl) ?_
       refine RL.yesD rfl rfl c7 (by decide) (opv_not rfl rfl) ?_
       refine RL.opD (by decide) (opv_pick rfl rfl (fun e => absurd (Eq.trans (Eq.symm e) c7) (by decide)) (fun _ => rfl) rfl) ?_
       refine RL.opD (by decide) (opv_move rfl rfl) ?_
       by_cases c8 : (!x17.2) = true
       ·rw [if_pos c8] at hy2
        refine RL.noT rfl rfl c8 (by decide) ?_
        refine RL.noT rfl rfl c8 (by decide) ?_
        refine RL.noT rfl rfl c8 (by decide) ?_
        refine RL.noT rfl rfl c8 (by decide) ?_
        refine RL.opD (by decide) (opv_pick rfl rfl (fun _ => rfl) (fun e => absurd (Eq.trans (Eq.symm e) c8) (by decide)) rfl) ?_
        refine RL.opD (by decide) (opv_move rfl rfl) ?_
        refine RL.noT rfl rfl rfl (by decide) ?_
        refine RL.noT rfl rfl rfl (by decide) ?_
        refine RL.noT rfl rfl rfl (by decide) ?_
        refine RL.noT rfl rfl rfl (by decide) ?_
        refine RL.opD (by decide) (opv_pick rfl rfl (fun _ => rfl) (fun e => absurd (Eq.trans (Eq.symm e) rfl) (by decide)) rfl) ?_
        refine RL.opD (by decide) (opv_move rfl rfl) ?_
        refine RL.noT rfl rfl rfl (by decide) ?_
        refine RL.noT rfl rfl rfl (by decide) ?_
        refine RL.noT rfl rfl rfl (by decide) ?_
        refine RL.noT rfl rfl rfl (by decide) ?_
        refine RL.opD (by decide) (opv_pick rfl rfl (fun _ => rfl) (fun e => absurd (Eq.trans (Eq.symm e) rfl) (by decide)) rfl) ?_
        refine RL.nil ?_
        have ey2 := Option.some.inj hy2
        subst ey2
        refine onlyN ?_
        exact ⟨⟨rfl, rfl, rfl, rfl, rfl, rfl, rfl, rfl, rfl, rfl, rfl, rfl, rfl, rfl, rfl, rfl, rfl, rfl, rfl, rfl, rfl, rfl, trivial⟩, rfl⟩
       ·rw [if_neg c8] at hy2
        have c8 := eq_false_of_ne_true c8
        refine RL.yesD rfl rfl c8 (by decide) (opv_move rfl rfl) ?_
        refine RL.yesD rfl rfl c8 (by decide) (opv_len rfl Try.underlying59 rfl (ownO.read (Sep.at (o := ownO (kC .f32) 45 v16 x14.1) S_16 2 rfl))) ?_
        refine RL.yesD rfl rfl c8 (by decide) (opv_move rfl rfl) ?_
        refine RL.yesD rfl rfl c8 (by decide) (opv_icmp rfl rfl rfl rfl) ?_
        refine RL.opD (by decide) (opv_pick rfl rfl (fun e => absurd (Eq.trans (Eq.symm e) c8) (by decide)) (fun _ => rfl) rfl) ?_
        refine RL.opD (by decide) (opv_move rfl rfl) ?_
        by_cases c9 : ((x14.1.length : Int) != (IntKind.wrap .i64 (1 + x2))) = true
        ·rw [if_pos c9] at hy2
         refine RL.noT rfl rfl c9 (by decide) ?_
         refine RL.noT rfl rfl c9 (by decide) ?_
         refine RL.noT rfl rfl c9 (by decide) ?_
         refine RL.noT rfl rfl c9 (by decide) ?_
         refine RL.opD (by decide) (opv_pick rfl rfl (fun _ => rfl) (fun e => absurd (Eq.trans (Eq.symm e) c9) (by decide)) rfl) ?_
         refine RL.opD (by decide) (opv_move rfl rfl) ?_
         refine RL.noT rfl rfl rfl (by decide) ?_
         refine RL.noT rfl rfl rfl (by decide) ?_
         refine RL.noT rfl rfl rfl (by decide) ?_
         refine RL.noT rfl rfl rfl (by decide) ?_
         refine RL.opD (by decide) (opv_pick rfl rfl (fun _ => rfl) (fun e => absurd (Eq.trans (Eq.symm e) rfl) (by decide)) rfl) ?_
         refine RL.nil ?_
         have ey2 := Option.some.inj hy2
         subst ey2
         refine onlyN ?_
         exact ⟨⟨rfl, rfl, rfl, rfl, rfl, rfl, rfl, rfl, rfl, rfl, rfl, rfl, rfl, rfl, rfl, rfl, rfl, rfl, rfl, rfl, rfl, rfl, trivial⟩, rfl⟩
        ·rw [if_neg c9] at hy2
         have c9 := eq_false_of_ne_true c9
         refine RL.yesD rfl rfl c9 (by decide) (opv_move rfl rfl) ?_
         refine RL.yesD rfl rfl c9 (by decide) (opv_len rfl Try.underlying59 rfl (ownO.read (Sep.at (o := ownO (kC .f32) 45 v17 x15.1) S_16 1 rfl))) ?_
         refine RL.yesD rfl rfl c9 (by decide) (opv_move rfl rfl) ?_
         refine RL.yesD rfl rfl c9 (by decide) (opv_icmp rfl rfl rfl rfl) ?_
         refine RL.opD (by decide) (opv_pick rfl rfl (fun e => absurd (Eq.trans (Eq.symm e) c9) (by decide)) (fun _ => rfl) rfl) ?_
         refine RL.opD (by decide) (opv_move rfl rfl) ?_
         by_cases c10 : ((x15.1.length : Int) != (IntKind.wrap .i64 (1 + x2))) = true
         ·rw [if_pos c10] at hy2
          refine RL.noT rfl rfl c10 (by decide) ?_
          refine RL.noT rfl rfl c10 (by decide) ?_
          refine RL.noT rfl rfl c10 (by decide) ?_
          refine RL.noT rfl rfl c10 (by decide) ?_
          refine RL.opD (by decide) (opv_pick rfl rfl (fun _ => rfl) (fun e => absurd (Eq.trans (Eq.symm e) c10) (by decide)) rfl) ?_
          refine RL.nil ?_
          have ey2 := Option.some.inj hy2
          subst ey2
          refine onlyN ?_
          exact ⟨⟨rfl, rfl, rfl, rfl, rfl, rfl, rfl, rfl, rfl, rfl, rfl, rfl, rfl, rfl, rfl, rfl, rfl, rfl, rfl, rfl, rfl, rfl, trivial⟩, rfl⟩
         ·rw [if_neg c10] at hy2
          have c10 := eq_false_of_ne_true c10
          refine RL.yesD rfl rfl c10 (by decide) (opv_move rfl rfl) ?_
          refine RL.yesD rfl rfl c10 (by decide) (opv_len rfl Try.underlying59 rfl (ownO.read (Sep.at (o := ownO (kC .f32) 45 v18 x17.1) S_16 0 rfl))) ?_
          refine RL.yesD rfl rfl c10 (by decide) (opv_move rfl rfl) ?_
          refine RL.yesD rfl rfl c10 (by decide) (opv_icmp rfl rfl rfl rfl) ?_
          refine RL.opD (by decide) (opv_pick rfl rfl (fun e => absurd (Eq.trans (Eq.symm e) c10) (by decide)) (fun _ => rfl) rfl) ?_
          refine RL.nil ?_
          have ey2 := Option.some.inj hy2
          subst ey2
          refine onlyN ?_
          exact ⟨⟨rfl, rfl, rfl, rfl, rfl, rfl, rfl, rfl, rfl, rfl, rfl, rfl, rfl, rfl, rfl, rfl, rfl, rfl, rfl, rfl, rfl, rfl, trivial⟩, rfl⟩
  rintro φ' _ ⟨hs3, rfl⟩
  refine thnN ?_
  refine W.sub hs3 ?_
  by_cases c11 : x18 = true
  ·rw [if_pos c11] at hp
   refine W.condT rfl c11 ?_
   refine W.seq ?_
   refine W.region ?_
   refine RL.opD (by decide) (opv_assign rfl rfl) ?_
   refine RL.nil ?_
   refine thnN ?_
   refine W.ret ?_
   refine thnR ?_
   have er := Option.some.inj hp
   subst er
   exact Rt.one rfl rfl ⟨rfl, X_14, (Sep.nil _ _ _)⟩
  ·rw [if_neg c11] at hp
   have c11 := eq_false_of_ne_true c11
   refine W.condF rfl c11 ?_
   refine W.skip ?_
   refine thnN ?_
   refine W.seq ?_
   refine W.seq ?_
   refine W.region ?_
   refine RL.opD (by decide) (opv_assign rfl rfl) ?_
   refine RL.nil ?_
   refine thnN ?_
   obtain ⟨y3, hy3, hp⟩ := Option.bind_eq_some_iff.1 hp
   refine W.cut (fun φ' h' => ∃ x21, ∃ x22, ∃ x23, y3 = .inl (x21, x22, x23) ∧ Fr.sub [(0, u0), (1, u1), (25, (.bool x1)), (5, (.int .i64 (IntKind.wrap .i64 (1 + x2)))), (6, v1), (7, v2), (9, (.int .i64 x7)), (38, (.bool x8)), (8, v5), (10, v14), (11, (.bool x12.2)), (12, v15), (13, (.bool x13.2)), (14, v16), (15, (.bool x14.2)), (16, v17), (17, (.bool x15.2)), (18, (.int .i64 x16)), (19, v18), (20, (.bool x17.2)), (122, (.bool x18)), (4, (.bool x21)), (21, (.int .i64 x22)), (125, (.bool x23))] φ' ∧ hp25 = h') ?_ ?_
   ·refine W.block ?_
    refine W.loopS (fun (s : (Bool × Int)) φ' h' => Fr.sub [(0, u0), (1, u1), (25, (.bool x1)), (5, (.int .i64 (IntKind.wrap .i64 (1 + x2)))), (6, v1), (7, v2), (9, (.int .i64 x7)), (38, (.bool x8)), (8, v5), (10, v14), (11, (.bool x12.2)), (12, v15), (13, (.bool x13.2)), (14, v16), (15, (.bool x14.2)), (16, v17), (17, (.bool x15.2)), (18, (.int .i64 x16)), (19, v18), (20, (.bool x17.2)), (122, (.bool x18)), (4, (.bool s.1)), (21, (.int .i64 s.2))] φ' ∧ hp25 = h') hy3 ⟨⟨rfl, rfl, rfl, rfl, rfl, rfl, rfl, rfl, rfl, rfl, rfl, rfl, rfl, rfl, rfl, rfl, rfl, rfl, rfl, rfl, rfl, rfl, rfl, trivial⟩, rfl⟩ ?_
    rintro ⟨x19, x20⟩ φ' _ o2 ⟨hs4, rfl⟩ ho2 hy2
    have hs4 : Fr.sub [(0, u0), (1, u1), (25, (.bool x1)), (5, (.int .i64 (IntKind.wrap .i64 (1 + x2)))), (6, v1), (7, v2), (9, (.int .i64 x7)), (38, (.bool x8)), (8, v5), (10, v14), (11, (.bool x12.2)), (12, v15), (13, (.bool x13.2)), (14, v16), (15, (.bool x14.2)), (16, v17), (17, (.bool x15.2)), (18, (.int .i64 x16)), (19, v18), (20, (.bool x17.2)), (122, (.bool x18)), (4, (.bool x19)), (21, (.int .i64 x20))] φ' := hs4
    have ho2 : laws_FnSpectraAdded.s1 x2 x12 x13 x14 x15 x16 x17 x19 x20 = some o2 := ho2
    unfold laws_FnSpectraAdded.s1 at ho2
    refine W.sub hs4 ?_
    refine W.seq ?_
    refine W.seq ?_
    refine W.region ?_
    refine RL.opD (by decide) (opv_move rfl rfl) ?_
    refine RL.opD (by decide) (opv_move rfl rfl) ?_
    refine RL.opD (by decide) (opv_icmp rfl rfl rfl rfl) ?_
    refine RL.nil ?_
    refine thnN ?_
    by_cases c12 : (decide (x20 < (IntKind.wrap .i64 (1 + x2)))) = true
    ·rw [if_pos c12] at ho2
     refine W.condT rfl c12 ?_
     refine W.skip ?_
     refine thnN ?_
     refine W.seq ?_
     refine W.block ?_
     refine W.seq ?_
     refine W.seq ?_
     obtain ⟨x24, hy4, ho2⟩ := Option.bind_eq_some_iff.1 ho2
     refine W.cut (fun φ' h' => Fr.sub [(0, u0), (1, u1), (25, (.bool x1)), (5, (.int .i64 (IntKind.wrap .i64 (1 + x2)))), (6, v1), (7, v2), (9, (.int .i64 x7)), (38, (.bool x8)), (8, v5), (10, v14), (11, (.bool x12.2)), (12, v15), (13, (.bool x13.2)), (14, v16), (15, (.bool x14.2)), (16, v17), (17, (.bool x15.2)), (18, (.int .i64 x16)), (19, v18), (20, (.bool x17.2)), (122, (.bool x18)), (4, (.bool x19)), (21, (.int .i64 x20)), (125, (.bool (decide (x20 < (IntKind.wrap .i64 (1 + x2)))))), (158, (.bool x24))] φ' ∧ hp25 = h') ?_ ?_
     ·obtain ⟨x25, hx25, hy4⟩ := Option.bind_eq_some_iff.1 hy4
      obtain ⟨x26, hx26, hy4⟩ := Option.bind_eq_some_iff.1 hy4
      obtain ⟨x27, hx27, hy4⟩ := Option.bind_eq_some_iff.1 hy4
      obtain ⟨x28, hx28, hy4⟩ := Option.bind_eq_some_iff.1 hy4
      by_cases c13 : (fcmp .gtr .f64 x28 (some 4562254508917369340)) = true
      ·rw [if_pos c13] at hy4
       refine W.sub (ψ := [(0, u0), (1, u1), (25, (.bool x1)), (5, (.int .i64 (IntKind.wrap .i64 (1 + x2)))), (6, v1), (7, v2), (9, (.int .i64 x7)), (38, (.bool x8)), (8, v5), (10, v14), (11, (.bool x12.2)), (12, v15), (13, (.bool x13.2)), (14, v16), (15, (.bool x14.2)), (16, v17), (17, (.bool x15.2)), (18, (.int .i64 x16)), (19, v18), (20, (.bool x17.2)), (122, (.bool x18)), (4, (.bool x19)), (21, (.int .i64 x20)), (125, (.bool (decide (x20 < (IntKind.wrap .i64 (1 + x2))))))]) ⟨rfl, rfl, rfl, rfl, rfl, rfl, rfl, rfl, rfl, rfl, rfl, rfl, rfl, rfl, rfl, rfl, rfl, rfl, rfl, rfl, rfl, rfl, rfl, rfl, trivial⟩ ?_
       refine W.regionP [fun v _ => @Eq Value v16 v, fun v _ => @Eq Value (.int .i64 x20) v, fun v _ => PtI 1 v v16 (Int.toNat x20), fun v _ => IsC .f32 v x25, fun v _ => @Eq Value v14 v, fun v _ => @Eq Value (.int .i64 x20) v, fun v _ => PtI 1 v v14 (Int.toNat x20), fun v _ => IsC .f32 v x26, fun v _ => @Eq Value v15 v, fun v _ => @Eq Value (.int .i64 x20) v, fun v _ => PtI 1 v v15 (Int.toNat x20), fun v _ => IsC .f32 v x27, fun v _ => IsC .f32 v (cop .add .f32 x26 x27), fun v _ => IsF .f64 v x28, fun v _ => @Eq Value (.bool (fcmp .gtr .f64 x28 (some 4562254508917369340))) v, fun v _ => @Eq Value (.bool (fcmp .gtr .f64 x28 (some 4562254508917369340))) v, fun v _ => @Eq Value undef v, fun v _ => @Eq Value undef v, fun v _ => @Eq Value undef v, fun v _ => @Eq Value undef v, fun v _ => @Eq Value undef v, fun v _ => @Eq Value undef v, fun v _ => @Eq Value undef v, fun v _ => @Eq Value undef v, fun v _ => @Eq Value undef v, fun v _ => @Eq Value undef v, fun v _ => @Eq Value undef v, fun v _ => @Eq Value undef v, fun v _ => @Eq Value undef v, fun v _ => @Eq Value undef v, fun v _ => @Eq Value (.bool true) v] [[], [], [0, 1], [2], [], [], [4, 5], [6], [], [], [8, 9], [10], [7, 11], [3, 12], [13], [14], [15], [15], [15], [15], [15], [15], [15], [22], [22], [22], [22], [22], [22], [15], [15]] [30] Try.mixed (by decide +kernel) (by decide +kernel) rfl rfl rfl ?_ ?_
       ·refine ⟨⟨rfl, ?_⟩, ⟨rfl, ?_⟩, ⟨rfl, ?_⟩, ⟨rfl, ?_⟩, ⟨rfl, ?_⟩, ⟨rfl, ?_⟩, ⟨rfl, ?_⟩, ⟨rfl, ?_⟩, ⟨rfl, ?_⟩, ⟨rfl, ?_⟩, ⟨rfl, ?_⟩, ⟨rfl, ?_⟩, ⟨rfl, ?_⟩, ⟨rfl, ?_⟩, ⟨rfl, ?_⟩, ⟨rfl, ?_⟩, ⟨rfl, ?_⟩, ⟨rfl, ?_⟩, ⟨rfl, ?_⟩, ⟨rfl, ?_⟩, ⟨rfl, ?_⟩, ⟨rfl, ?_⟩, ⟨rfl, ?_⟩, ⟨rfl, ?_⟩, ⟨rfl, ?_⟩, ⟨rfl, ?_⟩, ⟨rfl, ?_⟩, ⟨rfl, ?_⟩, ⟨rfl, ?_⟩, ⟨rfl, ?_⟩, ⟨rfl, ?_⟩, trivial⟩
        ·rintro _ rfl
         refine Dep.nil ?_
         refine GuardOK.none rfl ?_
         exact OpV.toD (opv_move rfl rfl) rfl
        ·rintro _ rfl
         refine Dep.nil ?_
         refine GuardOK.none rfl ?_
         exact OpV.toD (opv_move rfl rfl) rfl
        ·rintro _ rfl _ rfl _ rfl
         refine Dep.nil ?_
         refine GuardOK.none rfl ?_
         exact OpV.toS (opv_index rfl Try.underlying59 (by rw [Try.size45]; rfl) rfl rfl (ownO.read (Sep.at (o := ownO (kC .f32) 45 v16 x14.1) S_16 2 rfl)) hx25) (fun _ h => h)
        ·rintro _ rfl v19 fv19
         refine Dep.nil ?_
         refine GuardOK.none rfl ?_
         exact OpV.toS (opv_loadC rfl Try.one45 rfl fv19 (ownO.read (Sep.at (o := ownO (kC .f32) 45 v16 x14.1) S_16 2 rfl)) hx25) (fun _ h => h)
        ·rintro _ rfl
         refine Dep.nil ?_
         refine GuardOK.none rfl ?_
         exact OpV.toD (opv_move rfl rfl) rfl
        ·rintro _ rfl
         refine Dep.nil ?_
         refine GuardOK.none rfl ?_
         exact OpV.toD (opv_move rfl rfl) rfl
        ·rintro _ rfl _ rfl _ rfl
         refine Dep.nil ?_
         refine GuardOK.none rfl ?_
         exact OpV.toS (opv_index rfl Try.underlying59 (by rw [Try.size45]; rfl) rfl rfl (ownO.read (Sep.at (o := ownO (kC .f32) 45 v14 x12.1) S_16 4 rfl)) hx26) (fun _ h => h)
        ·rintro _ rfl v21 fv21
         refine Dep.nil ?_
         refine GuardOK.none rfl ?_
         exact OpV.toS (opv_loadC rfl Try.one45 rfl fv21 (ownO.read (Sep.at (o := ownO (kC .f32) 45 v14 x12.1) S_16 4 rfl)) hx26) (fun _ h => h)
        ·rintro _ rfl
         refine Dep.nil ?_
         refine GuardOK.none rfl ?_
         exact OpV.toD (opv_move rfl rfl) rfl
        ·rintro _ rfl
         refine Dep.nil ?_
         refine GuardOK.none rfl ?_
         exact OpV.toD (opv_move rfl rfl) rfl
        ·rintro _ rfl _ rfl _ rfl
         refine Dep.nil ?_
         refine GuardOK.none rfl ?_
         exact OpV.toS (opv_index rfl Try.underlying59 (by rw [Try.size45]; rfl) rfl rfl (ownO.read (Sep.at (o := ownO (kC .f32) 45 v15 x13.1) S_16 3 rfl)) hx27) (fun _ h => h)
        ·rintro _ rfl v23 fv23
         refine Dep.nil ?_
         refine GuardOK.none rfl ?_
         exact OpV.toS (opv_loadC rfl Try.one45 rfl fv23 (ownO.read (Sep.at (o := ownO (kC .f32) 45 v15 x13.1) S_16 3 rfl)) hx27) (fun _ h => h)
        ·rintro _ rfl v22 fv22 v24 fv24
         refine Dep.nil ?_
         refine GuardOK.none rfl ?_
         exact OpV.toS (opv_cop rfl rfl rfl rfl fv22 fv24) (fun _ h => h)
        ·rintro _ rfl v20 fv20 v25 fv25
         refine Dep.nil ?_
         refine GuardOK.none rfl ?_
         exact OpV.mono (opv_call (cap := []) (laws_r8Apart_ok _ _ _ fv20 _ _ fv25 _ hx28) rfl rfl ⟨rfl, rfl, trivial⟩ Try.func34 rfl rfl) (by rintro v26 _ ⟨fv26, rfl⟩; exact ⟨rfl, fv26⟩)
        ·rintro _ rfl v26 fv26
         refine Dep.nil ?_
         refine GuardOK.none rfl ?_
         exact OpV.toD (opv_fcmp rfl rfl rfl rfl fv26 (isF_lit .f64 4562254508917369340 (by decide) (by decide))) rfl
        ·rintro _ rfl _ rfl
         refine Dep.nil ?_
         refine GuardOK.none rfl ?_
         exact OpV.toD (opv_move rfl rfl) rfl
        ·rintro _ rfl _ rfl
         refine Dep.nil ?_
         refine GuardOK.pass rfl rfl rfl (Eq.trans c13 (by decide)) ⟨rfl, rfl⟩
        ·rintro _ rfl _ rfl
         refine Dep.nil ?_
         refine GuardOK.pass rfl rfl rfl (Eq.trans c13 (by decide)) ⟨rfl, rfl⟩
        ·rintro _ rfl _ rfl
         refine Dep.nil ?_
         refine GuardOK.pass rfl rfl rfl (Eq.trans c13 (by decide)) ⟨rfl, rfl⟩
        ·rintro _ rfl _ rfl
         refine Dep.nil ?_
         refine GuardOK.pass rfl rfl rfl (Eq.trans c13 (by decide)) ⟨rfl, rfl⟩
        ·rintro _ rfl _ rfl
         refine Dep.nil ?_
         refine GuardOK.pass rfl rfl rfl (Eq.trans c13 (by decide)) ⟨rfl, rfl⟩
        ·rintro _ rfl _ rfl
         refine Dep.nil ?_
         refine GuardOK.pass rfl rfl rfl (Eq.trans c13 (by decide)) ⟨rfl, rfl⟩
        ·rintro _ rfl _ rfl
         refine Dep.nil ?_
         refine GuardOK.pass rfl rfl rfl (Eq.trans c13 (by decide)) ⟨rfl, rfl⟩
        ·rintro _ rfl _ rfl
         refine Dep.nil ?_
         refine GuardOK.passU rfl rfl rfl ⟨rfl, rfl⟩
        ·rintro _ rfl _ rfl
         refine Dep.nil ?_
         refine GuardOK.passU rfl rfl rfl ⟨rfl, rfl⟩
        ·rintro _ rfl _ rfl
         refine Dep.nil ?_
         refine GuardOK.passU rfl rfl rfl ⟨rfl, rfl⟩
        ·rintro _ rfl _ rfl
         refine Dep.nil ?_
         refine GuardOK.passU rfl rfl rfl ⟨rfl, rfl⟩
        ·rintro _ rfl _ rfl
         refine Dep.nil ?_
         refine GuardOK.passU rfl rfl rfl ⟨rfl, rfl⟩
        ·rintro _ rfl _ rfl
         refine Dep.nil ?_
         refine GuardOK.passU rfl rfl rfl ⟨rfl, rfl⟩
        ·rintro _ rfl _ rfl
         refine Dep.nil ?_
         refine GuardOK.pass rfl rfl rfl (Eq.trans c13 (by decide)) ⟨rfl, rfl⟩
        ·rintro _ rfl _ rfl
         refine Dep.nil ?_
         refine GuardOK.none rfl ?_
         exact OpV.toD (opv_pick rfl rfl (fun _ => rfl) (fun e => absurd (Eq.trans (Eq.symm e) c13) (by decide)) rfl) rfl
       rintro _ rfl
       refine Dep.nil ?_
       show RL _ _ _ _ [] _ _
       refine RL.nil ?_
       have ey4 := Option.some.inj hy4
       subst ey4
       refine onlyN ?_
       exact ⟨⟨rfl, rfl, rfl, rfl, rfl, rfl, rfl, rfl, rfl, rfl, rfl, rfl, rfl, rfl, rfl, rfl, rfl, rfl, rfl, rfl, rfl, rfl, rfl, rfl, rfl, trivial⟩, rfl⟩
      ·rw [if_neg c13] at hy4
       have c13 := eq_false_of_ne_true c13
       obtain ⟨x29, hx29, hy4⟩ := Option.bind_eq_some_iff.1 hy4
       obtain ⟨x30, hx30, hy4⟩ := Option.bind_eq_some_iff.1 hy4
       by_cases c14 : (fcmp .gtr .f32 x30 (some 1008981770)) = true
       ·rw [if_pos c14] at hy4
        obtain ⟨x31, hx31, hy4⟩ := Option.bind_eq_some_iff.1 hy4
        obtain ⟨x32, hx32, hy4⟩ := Option.bind_eq_some_iff.1 hy4
        refine W.sub (ψ := [(0, u0), (1, u1), (25, (.bool x1)), (5, (.int .i64 (IntKind.wrap .i64 (1 + x2)))), (6, v1), (7, v2), (9, (.int .i64 x7)), (38, (.bool x8)), (8, v5), (10, v14), (11, (.bool x12.2)), (12, v15), (13, (.bool x13.2)), (14, v16), (15, (.bool x14.2)), (16, v17), (17, (.bool x15.2)), (18, (.int .i64 x16)), (19, v18), (20, (.bool x17.2)), (122, (.bool x18)), (4, (.bool x19)), (21, (.int .i64 x20)), (125, (.bool (decide (x20 < (IntKind.wrap .i64 (1 + x2))))))]) ⟨rfl, rfl, rfl, rfl, rfl, rfl, rfl, rfl, rfl, rfl, rfl, rfl, rfl, rfl, rfl, rfl, rfl, rfl, rfl, rfl, rfl, rfl, rfl, rfl, trivial⟩ ?_
        refine W.regionP [fun v _ => @Eq Value v16 v, fun v _ => @Eq Value (.int .i64 x20) v, fun v _ => PtI 1 v v16 (Int.toNat x20), fun v _ => IsC .f32 v x25, fun v _ => @Eq Value v14 v, fun v _ => @Eq Value (.int .i64 x20) v, fun v _ => PtI 1 v v14 (Int.toNat x20), fun v _ => IsC .f32 v x26, fun v _ => @Eq Value v15 v, fun v _ => @Eq Value (.int .i64 x20) v, fun v _ => PtI 1 v v15 (Int.toNat x20), fun v _ => IsC .f32 v x27, fun v _ => IsC .f32 v (cop .add .f32 x26 x27), fun v _ => IsF .f64 v x28, fun v _ => @Eq Value (.bool (fcmp .gtr .f64 x28 (some 4562254508917369340))) v, fun v _ => @Eq Value (.bool (fcmp .gtr .f64 x28 (some 4562254508917369340))) v, fun v _ => @Eq Value v16 v, fun v _ => @Eq Value (.int .i64 x20) v, fun v _ => PtI 1 v v16 (Int.toNat x20), fun v _ => IsC .f32 v x29, fun v _ => IsF .f32 v x30, fun v _ => @Eq Value (.bool (fcmp .gtr .f32 x30 (some 1008981770))) v, fun v _ => @Eq Value (.bool (fcmp .gtr .f32 x30 (some 1008981770))) v, fun v _ => @Eq Value v17 v, fun v _ => @Eq Value (.int .i64 x20) v, fun v _ => PtI 1 v v17 (Int.toNat x20), fun v _ => IsC .f32 v x31, fun v _ => IsF .f64 v x32, fun v _ => @Eq Value (.bool (fcmp .gtr .f64 x32 (some 4562254508917369340))) v, fun v _ => @Eq Value (.bool (fcmp .gtr .f64 x32 (some 4562254508917369340))) v, fun v _ => @Eq Value (.bool (fcmp .gtr .f64 x32 (some 4562254508917369340))) v] [[], [], [0, 1], [2], [], [], [4, 5], [6], [], [], [8, 9], [10], [7, 11], [3, 12], [13], [14], [15], [15], [16, 17, 15], [18, 15], [19, 15], [20, 15], [21, 15], [22], [22], [23, 24, 22], [25, 22], [26, 22], [27, 22], [22, 28, 15], [15, 29]] [30] Try.mixed (by decide +kernel) (by decide +kernel) rfl rfl rfl ?_ ?_
        ·refine ⟨⟨rfl, ?_⟩, ⟨rfl, ?_⟩, ⟨rfl, ?_⟩, ⟨rfl, ?_⟩, ⟨rfl, ?_⟩, ⟨rfl, ?_⟩, ⟨rfl, ?_⟩, ⟨rfl, ?_⟩, ⟨rfl, ?_⟩, ⟨rfl, ?_⟩, ⟨rfl, ?_⟩, ⟨rfl, ?_⟩, ⟨rfl, ?_⟩, ⟨rfl, ?_⟩, ⟨rfl, ?_⟩, ⟨rfl, ?_⟩, ⟨rfl, ?_⟩, ⟨rfl, ?_⟩, ⟨rfl, ?_⟩, ⟨rfl, ?_⟩, ⟨rfl, ?_⟩, ⟨rfl, ?_⟩, ⟨rfl, ?_⟩, ⟨rfl, ?_⟩, ⟨rfl, ?_⟩, ⟨rfl, ?_⟩, ⟨rfl, ?_⟩, ⟨rfl, ?_⟩, ⟨rfl, ?_⟩, ⟨rfl, ?_⟩, ⟨rfl, ?_⟩, trivial⟩
         ·rintro _ rfl
          refine Dep.nil ?_
          refine GuardOK.none rfl ?_
          exact OpV.toD (opv_move rfl rfl) rfl
         ·rintro _ rfl
          refine Dep.nil ?_
          refine GuardOK.none rfl ?_
          exact OpV.toD (opv_move rfl rfl) rfl
         ·rintro _ rfl _ rfl _ rfl
          refine Dep.nil ?_
          refine GuardOK.none rfl ?_
          exact OpV.toS (opv_index rfl Try.underlying59 (by rw [Try.size45]; rfl) rfl rfl (ownO.read (Sep.at (o := ownO (kC .f32) 45 v16 x14.1) S_16 2 rfl)) hx25) (fun _ h => h)
         ·rintro _ rfl v19 fv19
          refine Dep.nil ?_
          refine GuardOK.none rfl ?_
          exact OpV.toS (opv_loadC rfl Try.one45 rfl fv19 (ownO.read (Sep.at (o := ownO (kC .f32) 45 v16 x14.1) S_16 2 rfl)) hx25) (fun _ h => h)
         ·rintro _ rfl
          refine Dep.nil ?_
          refine GuardOK.none rfl ?_
          exact OpV.toD (opv_move rfl rfl) rfl
         ·rintro _ rfl
          refine Dep.nil ?_
          refine GuardOK.none rfl ?_
          exact OpV.toD (opv_move rfl rfl) rfl
         ·rintro _ rfl _ rfl _ rfl
          refine Dep.nil ?_
          refine GuardOK.none rfl ?_
          exact OpV.toS (opv_index rfl Try.underlying59 (by rw [Try.size45]; rfl) rfl rfl (ownO.read (Sep.at (o := ownO (kC .f32) 45 v14 x12.1) S_16 4 rfl)) hx26) (fun _ h => h)
         ·rintro _ rfl v21 fv21
          refine Dep.nil ?_
          refine GuardOK.none rfl ?_
          exact OpV.toS (opv_loadC rfl Try.one45 rfl fv21 (ownO.read (Sep.at (o := ownO (kC .f32) 45 v14 x12.1) S_16 4 rfl)) hx26) (fun _ h => h)
         ·rintro _ rfl
          refine Dep.nil ?_
          refine GuardOK.none rfl ?_
          exact OpV.toD (opv_move rfl rfl) rfl
         ·rintro _ rfl
          refine Dep.nil ?_
          refine GuardOK.none rfl ?_
          exact OpV.toD (opv_move rfl rfl) rfl
         ·rintro _ rfl _ rfl _ rfl
          refine Dep.nil ?_
          refine GuardOK.none rfl ?_
          exact OpV.toS (opv_index rfl Try.underlying59 (by rw [Try.size45]; rfl) rfl rfl (ownO.read (Sep.at (o := ownO (kC .f32) 45 v15 x13.1) S_16 3 rfl)) hx27) (fun _ h => h)
         ·rintro _ rfl v23 fv23
          refine Dep.nil ?_
          refine GuardOK.none rfl ?_
          exact OpV.toS (opv_loadC rfl Try.one45 rfl fv23 (ownO.read (Sep.at (o := ownO (kC .f32) 45 v15 x13.1) S_16 3 rfl)) hx27) (fun _ h => h)
         ·rintro _ rfl v22 fv22 v24 fv24
          refine Dep.nil ?_
          refine GuardOK.none rfl ?_
          exact OpV.toS (opv_cop rfl rfl rfl rfl fv22 fv24) (fun _ h => h)
         ·rintro _ rfl v20 fv20 v25 fv25
          refine Dep.nil ?_
          refine GuardOK.none rfl ?_
          exact OpV.mono (opv_call (cap := []) (laws_r8Apart_ok _ _ _ fv20 _ _ fv25 _ hx28) rfl rfl ⟨rfl, rfl, trivial⟩ Try.func34 rfl rfl) (by rintro v26 _ ⟨fv26, rfl⟩; exact ⟨rfl, fv26⟩)
         ·rintro _ rfl v26 fv26
          refine Dep.nil ?_
          refine GuardOK.none rfl ?_
          exact OpV.toD (opv_fcmp rfl rfl rfl rfl fv26 (isF_lit .f64 4562254508917369340 (by decide) (by decide))) rfl
         ·rintro _ rfl _ rfl
          refine Dep.nil ?_
          refine GuardOK.none rfl ?_
          exact OpV.toD (opv_move rfl rfl) rfl
         ·rintro _ rfl _ rfl
          refine Dep.nil ?_
          refine GuardOK.some rfl rfl rfl c13 ?_
          exact OpV.toD (opv_move rfl rfl) rfl
         ·rintro _ rfl _ rfl
          refine Dep.nil ?_
          refine GuardOK.some rfl rfl rfl c13 ?_
          exact OpV.toD (opv_move rfl rfl) rfl
         ·rintro _ rfl _ rfl _ rfl _ rfl
          refine Dep.nil ?_
          refine GuardOK.some rfl rfl rfl c13 ?_
          exact OpV.toS (opv_index rfl Try.underlying59 (by rw [Try.size45]; rfl) rfl rfl (ownO.read (Sep.at (o := ownO (kC .f32) 45 v16 x14.1) S_16 2 rfl)) hx29) (fun _ h => h)
         ·rintro _ rfl v27 fv27 _ rfl
          refine Dep.nil ?_
          refine GuardOK.some rfl rfl rfl c13 ?_
          exact OpV.toS (opv_loadC rfl Try.one45 rfl fv27 (ownO.read (Sep.at (o := ownO (kC .f32) 45 v16 x14.1) S_16 2 rfl)) hx29) (fun _ h => h)
         ·rintro _ rfl v28 fv28 _ rfl
          refine Dep.nil ?_
          refine GuardOK.some rfl rfl rfl c13 ?_
          exact OpV.mono (opv_call (cap := []) (impl_PowerOf_ok _ _ _ fv28 _ hx30) rfl rfl ⟨rfl, trivial⟩ Try.func35 rfl rfl) (by rintro v29 _ ⟨fv29, rfl⟩; exact ⟨rfl, fv29⟩)
         ·rintro _ rfl v29 fv29 _ rfl
          refine Dep.nil ?_
          refine GuardOK.some rfl rfl rfl c13 ?_
          exact OpV.toD (opv_fcmp rfl rfl rfl rfl fv29 (isF_lit .f32 1008981770 (by decide) (by decide))) rfl
         ·rintro _ rfl _ rfl _ rfl
          refine Dep.nil ?_
          refine GuardOK.some rfl rfl rfl c13 ?_
          exact OpV.toD (opv_move rfl rfl) rfl
         ·rintro _ rfl _ rfl
          refine Dep.nil ?_
          refine GuardOK.some rfl rfl rfl c14 ?_
          exact OpV.toD (opv_move rfl rfl) rfl
         ·rintro _ rfl _ rfl
          refine Dep.nil ?_
          refine GuardOK.some rfl rfl rfl c14 ?_
          exact OpV.toD (opv_move rfl rfl) rfl
         ·rintro _ rfl _ rfl _ rfl _ rfl
          refine Dep.nil ?_
          refine GuardOK.some rfl rfl rfl c14 ?_
          exact OpV.toS (opv_index rfl Try.underlying59 (by rw [Try.size45]; rfl) rfl rfl (ownO.read (Sep.at (o := ownO (kC .f32) 45 v17 x15.1) S_16 1 rfl)) hx31) (fun _ h => h)
         ·rintro _ rfl v30 fv30 _ rfl
          refine Dep.nil ?_
          refine GuardOK.some rfl rfl rfl c14 ?_
          exact OpV.toS (opv_loadC rfl Try.one45 rfl fv30 (ownO.read (Sep.at (o := ownO (kC .f32) 45 v17 x15.1) S_16 1 rfl)) hx31) (fun _ h => h)
         ·rintro _ rfl v31 fv31 _ rfl
          refine Dep.nil ?_
          refine GuardOK.some rfl rfl rfl c14 ?_
          exact OpV.mono (opv_call (cap := []) (laws_r8Apart_ok _ _ _ fv31 _ _ (isC_lit .f32 1065353216 0 (by decide) (by decide) (by decide) (by decide)) _ hx32) rfl rfl ⟨rfl, rfl, trivial⟩ Try.func34 rfl rfl) (by rintro v32 _ ⟨fv32, rfl⟩; exact ⟨rfl, fv32⟩)
         ·rintro _ rfl v32 fv32 _ rfl
          refine Dep.nil ?_
          refine GuardOK.some rfl rfl rfl c14 ?_
          exact OpV.toD (opv_fcmp rfl rfl rfl rfl fv32 (isF_lit .f64 4562254508917369340 (by decide) (by decide))) rfl
         ·rintro _ rfl _ rfl _ rfl _ rfl
          refine Dep.nil ?_
          refine GuardOK.some rfl rfl rfl c13 ?_
          exact OpV.toD (opv_pick rfl rfl (fun _ => rfl) (fun e => absurd (Eq.trans (Eq.symm e) c14) (by decide)) rfl) rfl
         ·rintro _ rfl _ rfl _ rfl
          refine Dep.nil ?_
          refine GuardOK.none rfl ?_
          exact OpV.toD (opv_pick rfl rfl (fun e => absurd (Eq.trans (Eq.symm e) c13) (by decide)) (fun _ => rfl) rfl) rfl
        rintro _ rfl
        refine Dep.nil ?_
        show RL _ _ _ _ [] _ _
        refine RL.nil ?_
        have ey4 := Option.some.inj hy4
        subst ey4
        refine onlyN ?_
        exact ⟨⟨rfl, rfl, rfl, rfl, rfl, rfl, rfl, rfl, rfl, rfl, rfl, rfl, rfl, rfl, rfl, rfl, rfl, rfl, rfl, rfl, rfl, rfl, rfl, rfl, rfl, trivial⟩, rfl⟩
       ·rw [if_neg c14] at hy4
        have c14 := eq_false_of_ne_true c14
        refine W.sub (ψ := [(0, u0), (1, u1), (25, (.bool x1)), (5, (.int .i64 (IntKind.wrap .i64 (1 + x2)))), (6, v1), (7, v2), (9, (.int .i64 x7)), (38, (.bool x8)), (8, v5), (10, v14), (11, (.bool x12.2)), (12, v15), (13, (.bool x13.2)), (14, v16), (15, (.bool x14.2)), (16, v17), (17, (.bool x15.2)), (18, (.int .i64 x16)), (19, v18), (20, (.bool x17.2)), (122, (.bool x18)), (4, (.bool x19)), (21, (.int .i64 x20)), (125, (.bool (decide (x20 < (IntKind.wrap .i64 (1 + x2))))))]) ⟨rfl, rfl, rfl, rfl, rfl, rfl, rfl, rfl, rfl, rfl, rfl, rfl, rfl, rfl, rfl, rfl, rfl, rfl, rfl, rfl, rfl, rfl, rfl, rfl, trivial⟩ ?_
        refine W.regionP [fun v _ => @Eq Value v16 v, fun v _ => @Eq Value (.int .i64 x20) v, fun v _ => PtI 1 v v16 (Int.toNat x20), fun v _ => IsC .f32 v x25, fun v _ => @Eq Value v14 v, fun v _ => @Eq Value (.int .i64 x20) v, fun v _ => PtI 1 v v14 (Int.toNat x20), fun v _ => IsC .f32 v x26, fun v _ => @Eq Value v15 v, fun v _ => @Eq Value (.int .i64 x20) v, fun v _ => PtI 1 v v15 (Int.toNat x20), fun v _ => IsC .f32 v x27, fun v _ => IsC .f32 v (cop .add .f32 x26 x27), fun v _ => IsF .f64 v x28, fun v _ => @Eq Value (.bool (fcmp .gtr .f64 x28 (some 4562254508917369340))) v, fun v _ => @Eq Value (.bool (fcmp .gtr .f64 x28 (some 4562254508917369340))) v, fun v _ => @Eq Value v16 v, fun v _ => @Eq Value (.int .i64 x20) v, fun v _ => PtI 1 v v16 (Int.toNat x20), fun v _ => IsC .f32 v x29, fun v _ => IsF .f32 v x30, fun v _ => @Eq Value (.bool (fcmp .gtr .f32 x30 (some 1008981770))) v, fun v _ => @Eq Value (.bool (fcmp .gtr .f32 x30 (some 1008981770))) v, fun v _ => @Eq Value undef v, fun v _ => @Eq Value undef v, fun v _ => @Eq Value undef v, fun v _ => @Eq Value undef v, fun v _ => @Eq Value undef v, fun v _ => @Eq Value undef v, fun v _ => @Eq Value (.bool false) v, fun v _ => @Eq Value (.bool false) v] [[], [], [0, 1], [2], [], [], [4, 5], [6], [], [], [8, 9], [10], [7, 11], [3, 12], [13], [14], [15], [15], [16, 17, 15], [18, 15], [19, 15], [20, 15], [21, 15], [22], [22], [22], [22], [22], [22], [22, 15], [15, 29]] [30] Try.mixed (by decide +kernel) (by decide +kernel) rfl rfl rfl ?_ ?_
        ·refine ⟨⟨rfl, ?_⟩, ⟨rfl, ?_⟩, ⟨rfl, ?_⟩, ⟨rfl, ?_⟩, ⟨rfl, ?_⟩, ⟨rfl, ?_⟩, ⟨rfl, ?_⟩, ⟨rfl, ?_⟩, ⟨rfl, ?_⟩, ⟨rfl, ?_⟩, ⟨rfl, ?_⟩, ⟨rfl, ?_⟩, ⟨rfl, ?_⟩, ⟨rfl, ?_⟩, ⟨rfl, ?_⟩, ⟨rfl, ?_⟩, ⟨rfl, ?_⟩, ⟨rfl, ?_⟩, ⟨rfl, ?_⟩, ⟨rfl, ?_⟩, ⟨rfl, ?_⟩, ⟨rfl, ?_⟩, ⟨rfl, ?_⟩, ⟨rfl, ?_⟩, ⟨rfl, ?_⟩, ⟨rfl, ?_⟩, ⟨rfl, ?_⟩, ⟨rfl, ?_⟩, ⟨rfl, ?_⟩, ⟨rfl, ?_⟩, ⟨rfl, ?_⟩, trivial⟩
         ·rintro _ rfl
          refine Dep.nil ?_
          refine GuardOK.none rfl ?_
          exact OpV.toD (opv_move rfl rfl) rfl
         ·rintro _ rfl
          refine Dep.nil ?_
          refine GuardOK.none rfl ?_
          exact OpV.toD (opv_move rfl rfl) rfl
         ·rintro _ rfl _ rfl _ rfl
          refine Dep.nil ?_
          refine GuardOK.none rfl ?_
          exact OpV.toS (opv_index rfl Try.underlying59 (by rw [Try.size45]; rfl) rfl rfl (ownO.read (Sep.at (o := ownO (kC .f32) 45 v16 x14.1) S_16 2 rfl)) hx25) (fun _ h => h)
         ·rintro _ rfl v19 fv19
          refine Dep.nil ?_
          refine GuardOK.none rfl ?_
          exact OpV.toS (opv_loadC rfl Try.one45 rfl fv19 (ownO.read (Sep.at (o := ownO (kC .f32) 45 v16 x14.1) S_16 2 rfl)) hx25) (fun _ h => h)
         ·rintro _ rfl
          refine Dep.nil ?_
          refine GuardOK.none rfl ?_
          exact OpV.toD (opv_move rfl rfl) rfl
         ·rintro _ rfl
          refine Dep.nil ?_
          refine GuardOK.none rfl ?_
          exact OpV.toD (opv_move rfl rfl) rfl
         ·rintro _ rfl _ rfl _ rfl
          refine Dep.nil ?_
          refine GuardOK.none rfl ?_
          exact OpV.toS (opv_index rfl Try.underlying59 (by rw [Try.size45]; rfl) rfl rfl (ownO.read (Sep.at (o := ownO (kC .f32) 45 v14 x12.1) S_16 4 rfl)) hx26) (fun _ h => h)
         ·rintro _ rfl v21 fv21
          refine Dep.nil ?_
          refine GuardOK.none rfl ?_
          exact OpV.toS (opv_loadC rfl Try.one45 rfl fv21 (ownO.read (Sep.at (o := ownO (kC .f32) 45 v14 x12.1) S_16 4 rfl)) hx26) (fun _ h => h)
         ·rintro _ rfl
          refine Dep.nil ?_
          refine GuardOK.none rfl ?_
          exact OpV.toD (opv_move rfl rfl) rfl
         ·rintro _ rfl
          refine Dep.nil ?_
          refine GuardOK.none rfl ?_
          exact OpV.toD (opv_move rfl rfl) rfl
         ·rintro _ rfl _ rfl _ rfl
          refine Dep.nil ?_
          refine GuardOK.none rfl ?_
          exact OpV.toS (opv_index rfl Try.underlying59 (by rw [Try.size45]; rfl) rfl rfl (ownO.read (Sep.at (o := ownO (kC .f32) 45 v15 x13.1) S_16 3 rfl)) hx27) (fun _ h => h)
         ·rintro _ rfl v23 fv23
          refine Dep.nil ?_
          refine GuardOK.none rfl ?_
          exact OpV.toS (opv_loadC rfl Try.one45 rfl fv23 (ownO.read (Sep.at (o := ownO (kC .f32) 45 v15 x13.1) S_16 3 rfl)) hx27) (fun _ h => h)
         ·rintro _ rfl v22 fv22 v24 fv24
          refine Dep.nil ?_
          refine GuardOK.none rfl ?_
          exact OpV.toS (opv_cop rfl rfl rfl rfl fv22 fv24) (fun _ h => h)
         ·rintro _ rfl v20 fv20 v25 fv25
          refine Dep.nil ?_
          refine GuardOK.none rfl ?_
          exact OpV.mono (opv_call (cap := []) (laws_r8Apart_ok _ _ _ fv20 _ _ fv25 _ hx28) rfl rfl ⟨rfl, rfl, trivial⟩ Try.func34 rfl rfl) (by rintro v26 _ ⟨fv26, rfl⟩; exact ⟨rfl, fv26⟩)
         ·rintro _ rfl v26 fv26
          refine Dep.nil ?_
          refine GuardOK.none rfl ?_
          exact OpV.toD (opv_fcmp rfl rfl rfl rfl fv26 (isF_lit .f64 4562254508917369340 (by decide) (by decide))) rfl
         ·rintro _ rfl _ rfl
          refine Dep.nil ?_
          refine GuardOK.none rfl ?_
          exact OpV.toD (opv_move rfl rfl) rfl
         ·rintro _ rfl _ rfl
          refine Dep.nil ?_
          refine GuardOK.some rfl rfl rfl c13 ?_
          exact OpV.toD (opv_move rfl rfl) rfl
         ·rintro _ rfl _ rfl
          refine Dep.nil ?_
          refine GuardOK.some rfl rfl rfl c13 ?_
          exact OpV.toD (opv_move rfl rfl) rfl
         ·rintro _ rfl _ rfl _ rfl _ rfl
          refine Dep.nil ?_
          refine GuardOK.some rfl rfl rfl c13 ?_
          exact OpV.toS (opv_index rfl Try.underlying59 (by rw [Try.size45]; rfl) rfl rfl (ownO.read (Sep.at (o := ownO (kC .f32) 45 v16 x14.1) S_16 2 rfl)) hx29) (fun _ h => h)
         ·rintro _ rfl v27 fv27 _ rfl
          refine Dep.nil ?_
          refine GuardOK.some rfl rfl rfl c13 ?_
          exact OpV.toS (opv_loadC rfl Try.one45 rfl fv27 (ownO.read (Sep.at (o := ownO (kC .f32) 45 v16 x14.1) S_16 2 rfl)) hx29) (fun _ h => h)
         ·rintro _ rfl v28 fv28 _ rfl
          refine Dep.nil ?_
          refine GuardOK.some rfl rfl rfl c13 ?_
          exact OpV.mono (opv_call (cap := []) (impl_PowerOf_ok _ _ _ fv28 _ hx30) rfl rfl ⟨rfl, trivial⟩ Try.func35 rfl rfl) (by rintro v29 _ ⟨fv29, rfl⟩; exact ⟨rfl, fv29⟩)
         ·rintro _ rfl v29 fv29 _ rfl
          refine Dep.nil ?_
          refine GuardOK.some rfl rfl rfl c13 ?_
          exact OpV.toD (opv_fcmp rfl rfl rfl rfl fv29 (isF_lit .f32 1008981770 (by decide) (by decide))) rfl
         ·rintro _ rfl _ rfl _ rfl
          refine Dep.nil ?_
          refine GuardOK.some rfl rfl rfl c13 ?_
          exact OpV.toD (opv_move rfl rfl) rfl
         ·rintro _ rfl _ rfl
          refine Dep.nil ?_
          refine GuardOK.pass rfl rfl rfl (Eq.trans c14 (by decide)) ⟨rfl, rfl⟩
         ·rintro _ rfl _ rfl
          refine Dep.nil ?_
          refine GuardOK.pass rfl rfl rfl (Eq.trans c14 (by decide)) ⟨rfl, rfl⟩
         ·rintro _ rfl _ rfl
          refine Dep.nil ?_
          refine GuardOK.pass rfl rfl rfl (Eq.trans c14 (by decide)) ⟨rfl, rfl⟩
         ·rintro _ rfl _ rfl
          refine Dep.nil ?_
          refine GuardOK.pass rfl rfl rfl (Eq.trans c14 (by decide)) ⟨rfl, rfl⟩
         ·rintro _ rfl _ rfl
          refine Dep.nil ?_
          refine GuardOK.pass rfl rfl rfl (Eq.trans c14 (by decide)) ⟨rfl, rfl⟩
         ·rintro _ rfl _ rfl
          refine Dep.nil ?_
          refine GuardOK.pass rfl rfl rfl (Eq.trans c14 (by decide)) ⟨rfl, rfl⟩
         ·rintro _ rfl _ rfl _ rfl
          refine Dep.nil ?_
          refine GuardOK.some rfl rfl rfl c13 ?_
          exact OpV.toD (opv_pick rfl rfl (fun e => absurd (Eq.trans (Eq.symm e) c14) (by decide)) (fun _ => rfl) rfl) rfl
         ·rintro _ rfl _ rfl _ rfl
          refine Dep.nil ?_
          refine GuardOK.none rfl ?_
          exact OpV.toD (opv_pick rfl rfl (fun e => absurd (Eq.trans (Eq.symm e) c13) (by decide)) (fun _ => rfl) rfl) rfl
        rintro _ rfl
        refine Dep.nil ?_
        show RL _ _ _ _ [] _ _
        refine RL.nil ?_
        have ey4 := Option.some.inj hy4
        subst ey4
        refine onlyN ?_
        exact ⟨⟨rfl, rfl, rfl, rfl, rfl, rfl, rfl, rfl, rfl, rfl, rfl, rfl, rfl, rfl, rfl, rfl, rfl, rfl, rfl, rfl, rfl, rfl, rfl, rfl, rfl, trivial⟩, rfl⟩
     rintro φ' _ ⟨hs6, rfl⟩
     refine thnN ?_
     refine W.sub hs6 ?_
     by_cases c15 : x24 = true
     ·rw [if_pos c15] at ho2
      refine W.condT rfl c15 ?_
      refine W.seq ?_
      refine W.region ?_
      refine RL.opD (by decide) (opv_assign rfl rfl) ?_
      refine RL.nil ?_
      refine thnN ?_
      refine W.ret ?_
      refine thnR ?_
      refine blkR ?_
      refine thnR ?_
      have eo2 := Option.some.inj ho2
      subst eo2
      have ey3 := hy2 _ rfl
      subst ey3
      try dsimp only at hp
      refine rndR ?_
      refine blkR ?_
      refine onlyR ?_
      refine thnR ?_
      have er := Option.some.inj hp
      subst er
      exact Rt.one rfl rfl ⟨rfl, X_14, (Sep.nil _ _ _)⟩
     ·rw [if_neg c15] at ho2
      have c15 := eq_false_of_ne_true c15
      refine W.condF rfl c15 ?_
      refine W.skip ?_
      refine thnN ?_
      refine W.seq ?_
      obtain ⟨x33, hy5, ho2⟩ := Option.bind_eq_some_iff.1 ho2
      refine W.cut (fun φ' h' => Fr.sub [(0, u0), (1, u1), (25, (.bool x1)), (5, (.int .i64 (IntKind.wrap .i64 (1 + x2)))), (6, v1), (7, v2), (9, (.int .i64 x7)), (38, (.bool x8)), (8, v5), (10, v14), (11, (.bool x12.2)), (12, v15), (13, (.bool x13.2)), (14, v16), (15, (.bool x14.2)), (16, v17), (17, (.bool x15.2)), (18, (.int .i64 x16)), (19, v18), (20, (.bool x17.2)), (122, (.bool x18)), (4, (.bool x19)), (21, (.int .i64 x20)), (125, (.bool (decide (x20 < (IntKind.wrap .i64 (1 + x2)))))), (158, (.bool x24)), (22, (.bool x33))] φ' ∧ hp25 = h') ?_ ?_
      ·refine W.region ?_
       refine RL.opD (by decide) (opv_move rfl rfl) ?_
       refine RL.opD (by decide) (opv_move rfl rfl) ?_
       refine RL.opD (by decide) (opv_icmp rfl rfl rfl rfl) ?_
       refine RL.opD (by decide) (opv_move rfl rfl) ?_
       by_cases c16 : (decide (x20 ≥ x16)) = true
       ·rw [if_pos c16] at hy5
        refine RL.yesD rfl rfl c16 (by decide) (opv_move rfl rfl) ?_
        refine RL.yesD rfl rfl c16 (by decide) (opv_move rfl rfl) ?_
        refine RL.yesD rfl rfl c16 (by decide) (opv_quo rfl (by decide) rfl rfl) ?_
        refine RL.yesD rfl rfl c16 (by decide) (opv_icmp rfl rfl rfl rfl) ?_
        refine RL.opD (by decide) (opv_pick rfl rfl (fun _ => rfl) (fun e => absurd (Eq.trans (Eq.symm e) c16) (by decide)) rfl) ?_
        refine RL.opD (by decide) (opv_move rfl rfl) ?_
        by_cases c17 : (decide (x20 ≤ (IntKind.wrap .i64 (Int.tdiv (IntKind.wrap .i64 (1 + x2)) 2)))) = true
        ·rw [if_pos c17] at hy5
         refine RL.noT rfl rfl c17 (by decide) ?_
         refine RL.noT rfl rfl c17 (by decide) ?_
         refine RL.noT rfl rfl c17 (by decide) ?_
         refine RL.noT rfl rfl c17 (by decide) ?_
         refine RL.noT rfl rfl c17 (by decide) ?_
         refine RL.noT rfl rfl c17 (by decide) ?_
         refine RL.noU rfl rfl (by decide) ?_
         refine RL.noU rfl rfl (by decide) ?_
         refine RL.noU rfl rfl (by decide) ?_
         refine RL.noU rfl rfl (by decide) ?_
         refine RL.noU rfl rfl (by decide) ?_
         refine RL.noU rfl rfl (by decide) ?_
         refine RL.noT rfl rfl c17 (by decide) ?_
         refine RL.opD (by decide) (opv_pick rfl rfl (fun _ => rfl) (fun e => absurd (Eq.trans (Eq.symm e) c17) (by decide)) rfl) ?_
         refine RL.opD (by decide) (opv_assign rfl rfl) ?_
         refine RL.nil ?_
         have ey5 := Option.some.inj hy5
         subst ey5
         refine onlyN ?_
         exact ⟨⟨rfl, rfl, rfl, rfl, rfl, rfl, rfl, rfl, rfl, rfl, rfl, rfl, rfl, rfl, rfl, rfl, rfl, rfl, rfl, rfl, rfl, rfl, rfl, rfl, rfl, rfl, trivial⟩, rfl⟩
        ·rw [if_neg c17] at hy5
         have c17 := eq_false_of_ne_true c17
         refine RL.yesD rfl rfl c17 (by decide) (opv_move rfl rfl) ?_
         refine RL.yesD rfl rfl c17 (by decide) (opv_move rfl rfl) ?_
         refine RL.yesD rfl rfl c17 (by decide) (opv_sub rfl rfl rfl) ?_
         refine RL.yesD rfl rfl c17 (by decide) (opv_move rfl rfl) ?_
         refine RL.yesD rfl rfl c17 (by decide) (opv_icmp rfl rfl rfl rfl) ?_
         refine RL.yesD rfl rfl c17 (by decide) (opv_move rfl rfl) ?_
         by_cases c18 : (decide ((IntKind.wrap .i64 ((IntKind.wrap .i64 (1 + x2)) - x20)) ≥ x16)) = true
         ·rw [if_pos c18] at hy5
          refine RL.yesD rfl rfl c18 (by decide) (opv_move rfl rfl) ?_
          refine RL.yesD rfl rfl c18 (by decide) (opv_move rfl rfl) ?_
          refine RL.yesD rfl rfl c18 (by decide) (opv_sub rfl rfl rfl) ?_
          refine RL.yesD rfl rfl c18 (by decide) (opv_move rfl rfl) ?_
          refine RL.yesD rfl rfl c18 (by decide) (opv_quo rfl (by decide) rfl rfl) ?_
          refine RL.yesD rfl rfl c18 (by decide) (opv_icmp rfl rfl rfl rfl) ?_
          refine RL.yesD rfl rfl c17 (by decide) (opv_pick rfl rfl (fun _ => rfl) (fun e => absurd (Eq.trans (Eq.symm e) c18) (by decide)) rfl) ?_
          refine RL.opD (by decide) (opv_pick rfl rfl (fun e => absurd (Eq.trans (Eq.symm e) c17) (by decide)) (fun _ => rfl) rfl) ?_
          refine RL.opD (by decide) (opv_assign rfl rfl) ?_
          refine RL.nil ?_
          have ey5 := Option.some.inj hy5
          subst ey5
          refine onlyN ?_
          exact ⟨⟨rfl, rfl, rfl, rfl, rfl, rfl, rfl, rfl, rfl, rfl, rfl, rfl, rfl, rfl, rfl, rfl, rfl, rfl, rfl, rfl, rfl, rfl, rfl, rfl, rfl, rfl, trivial⟩, rfl⟩
         ·rw [if_neg c18] at hy5
          have c18 := eq_false_of_ne_true c18
          refine RL.noF rfl rfl c18 (by decide) ?_
          refine RL.noF rfl rfl c18 (by decide) ?_
          refine RL.noF rfl rfl c18 (by decide) ?_
          refine RL.noF rfl rfl c18 (by decide) ?_
          refine RL.noF rfl rfl c18 (by decide) ?_
          refine RL.noF rfl rfl c18 (by decide) ?_
          refine RL.yesD rfl rfl c17 (by decide) (opv_pick rfl rfl (fun e => absurd (Eq.trans (Eq.symm e) c18) (by decide)) (fun _ => rfl) rfl) ?_
          refine RL.opD (by decide) (opv_pick rfl rfl (fun e => absurd (Eq.trans (Eq.symm e) c17) (by decide)) (fun _ => rfl) rfl) ?_
          refine RL.opD (by decide) (opv_assign rfl rfl) ?_
          refine RL.nil ?_
          have ey5 := Option.some.inj hy5
          subst ey5
          refine onlyN ?_
          exact ⟨⟨rfl, rfl, rfl, rfl, rfl, rfl, rfl, rfl, rfl, rfl, rfl, rfl, rfl, rfl, rfl, rfl, rfl, rfl, rfl, rfl, rfl, rfl, rfl, rfl, rfl, rfl, trivial⟩, rfl⟩
       ·rw [if_neg c16] at hy5
        have c16 := eq_false_of_ne_true c16
        refine RL.noF rfl rfl c16 (by decide) ?_
        refine RL.noF rfl rfl c16 (by decide) ?_
        refine RL.noF rfl rfl c16 (by decide) ?_
        refine RL.noF rfl rfl c16 (by decide) ?_
        refine RL.opD (by decide) (opv_pick rfl rfl (fun e => absurd (Eq.trans (Eq.symm e) c16) (by decide)) (fun _ => rfl) rfl) ?_
        refine RL.opD (by decide) (opv_move rfl rfl) ?_
        refine RL.yesD rfl rfl rfl (by decide) (opv_move rfl rfl) ?_
        refine RL.yesD rfl rfl rfl (by decide) (opv_move rfl rfl) ?_
        refine RL.yesD rfl rfl rfl (by decide) (opv_sub rfl rfl rfl) ?_
        refine RL.yesD rfl rfl rfl (by decide) (opv_move rfl rfl) ?_
        refine RL.yesD rfl rfl rfl (by decide) (opv_icmp rfl rfl rfl rfl) ?_
        refine RL.yesD rfl rfl rfl (by decide) (opv_move rfl rfl) ?_
        by_cases c19 : (decide ((IntKind.wrap .i64 ((IntKind.wrap .i64 (1 + x2)) - x20)) ≥ x16)) = true
        ·rw [if_pos c19] at hy5
         refine RL.yesD rfl rfl c19 (by decide) (opv_move rfl rfl) ?_
         refine RL.yesD rfl rfl c19 (by decide) (opv_move rfl rfl) ?_
         refine RL.yesD rfl rfl c19 (by decide) (opv_sub rfl rfl rfl) ?_
         refine RL.yesD rfl rfl c19 (by decide) (opv_move rfl rfl) ?_
         refine RL.yesD rfl rfl c19 (by decide) (opv_quo rfl (by decide) rfl rfl) ?_
         refine RL.yesD rfl rfl c19 (by decide) (opv_icmp rfl rfl rfl rfl) ?_
         refine RL.yesD rfl rfl rfl (by decide) (opv_pick rfl rfl (fun _ => rfl) (fun e => absurd (Eq.trans (Eq.symm e) c19) (by decide)) rfl) ?_
         refine RL.opD (by decide) (opv_pick rfl rfl (fun e => absurd (Eq.trans (Eq.symm e) rfl) (by decide)) (fun _ => rfl) rfl) ?_
         refine RL.opD (by decide) (opv_assign rfl rfl) ?_
         refine RL.nil ?_
         have ey5 := Option.some.inj hy5
         subst ey5
         refine onlyN ?_
         exact ⟨⟨rfl, rfl, rfl, rfl, rfl, rfl, rfl, rfl, rfl, rfl, rfl, rfl, rfl, rfl, rfl, rfl, rfl, rfl, rfl, rfl, rfl, rfl, rfl, rfl, rfl, rfl, trivial⟩, rfl⟩
        ·rw [if_neg c19] at hy5
         have c19 := eq_false_of_ne_true c19
         refine RL.noF rfl rfl c19 (by decide) ?_
         refine RL.noF rfl rfl c19 (by decide) ?_
         refine RL.noF rfl rfl c19 (by decide) ?_
         refine RL.noF rfl rfl c19 (by decide) ?_
         refine RL.noF rfl rfl c19 (by decide) ?_
         refine RL.noF rfl rfl c19 (by decide) ?_
         refine RL.yesD rfl rfl rfl (by decide) (opv_pick rfl rfl (fun e => absurd (Eq.trans (Eq.symm e) c19) (by decide)) (fun _ => rfl) rfl) ?_
         refine RL.opD (by decide) (opv_pick rfl rfl (fun e => absurd (Eq.trans (Eq.symm e) rfl) (by decide)) (fun _ => rfl) rfl) ?_
         refine RL.opD (by decide) (opv_assign rfl rfl) ?_
         refine RL.nil ?_
         have ey5 := Option.some.inj hy5
         subst ey5
         refine onlyN ?_
         exact ⟨⟨rfl, rfl, rfl, rfl, rfl, rfl, rfl, rfl, rfl, rfl, rfl, rfl, rfl, rfl, rfl, rfl, rfl, rfl, rfl, rfl, rfl, rfl, rfl, rfl, rfl, rfl, trivial⟩, rfl⟩
      rintro φ' _ ⟨hs7, rfl⟩
      refine thnN ?_
      refine W.sub hs7 ?_
      refine W.seq ?_
      obtain ⟨x34, hy6, ho2⟩ := Option.bind_eq_some_iff.1 ho2
      refine W.cut (fun φ' h' => Fr.sub [(0, u0), (1, u1), (25, (.bool x1)), (5, (.int .i64 (IntKind.wrap .i64 (1 + x2)))), (6, v1), (7, v2), (9, (.int .i64 x7)), (38, (.bool x8)), (8, v5), (10, v14), (11, (.bool x12.2)), (12, v15), (13, (.bool x13.2)), (14, v16), (15, (.bool x14.2)), (16, v17), (17, (.bool x15.2)), (18, (.int .i64 x16)), (19, v18), (20, (.bool x17.2)), (122, (.bool x18)), (4, (.bool x19)), (21, (.int .i64 x20)), (125, (.bool (decide (x20 < (IntKind.wrap .i64 (1 + x2)))))), (158, (.bool x24)), (22, (.bool x33)), (206, (.bool x34))] φ' ∧ hp25 = h') ?_ ?_
      ·by_cases c20 : x33 = true
       ·rw [if_pos c20] at hy6
        obtain ⟨x35, hx35, hy6⟩ := Option.bind_eq_some_iff.1 hy6
        obtain ⟨x36, hx36, hy6⟩ := Option.bind_eq_some_iff.1 hy6
        obtain ⟨x37, hx37, hy6⟩ := Option.bind_eq_some_iff.1 hy6
        by_cases c21 : (!x37) = true
        ·rw [if_pos c21] at hy6
         refine W.sub (ψ := [(0, u0), (1, u1), (25, (.bool x1)), (5, (.int .i64 (IntKind.wrap .i64 (1 + x2)))), (6, v1), (7, v2), (9, (.int .i64 x7)), (38, (.bool x8)), (8, v5), (10, v14), (11, (.bool x12.2)), (12, v15), (13, (.bool x13.2)), (14, v16), (15, (.bool x14.2)), (16, v17), (17, (.bool x15.2)), (18, (.int .i64 x16)), (19, v18), (20, (.bool x17.2)), (122, (.bool x18)), (4, (.bool x19)), (21, (.int .i64 x20)), (125, (.bool (decide (x20 < (IntKind.wrap .i64 (1 + x2)))))), (158, (.bool x24)), (22, (.bool x33))]) ⟨rfl, rfl, rfl, rfl, rfl, rfl, rfl, rfl, rfl, rfl, rfl, rfl, rfl, rfl, rfl, rfl, rfl, rfl, rfl, rfl, rfl, rfl, rfl, rfl, rfl, rfl, trivial⟩ ?_
         refine W.regionP [fun v _ => @Eq Value (.bool x33) v, fun v _ => @Eq Value (.bool x33) v, fun v _ => @Eq Value v18 v, fun v _ => @Eq Value (.int .i64 x20) v, fun v _ => PtI 1 v v18 (Int.toNat x20), fun v _ => IsC .f32 v x35, fun v _ => @Eq Value v16 v, fun v _ => @Eq Value (.int .i64 x20) v, fun v _ => PtI 1 v v16 (Int.toNat x20), fun v _ => IsC .f32 v x36, fun v _ => @Eq Value (.bool x37) v, fun v _ => @Eq Value (.bool (!x37)) v, fun v _ => @Eq Value (.bool (!x37)) v, fun v _ => @Eq Value (.bool (!x37)) v, fun v _ => @Eq Value undef v, fun v _ => @Eq Value undef v, fun v _ => @Eq Value undef v, fun v _ => @Eq Value undef v, fun v _ => @Eq Value undef v, fun v _ => @Eq Value undef v, fun v _ => @Eq Value undef v, fun v _ => @Eq Value undef v, fun v _ => @Eq Value undef v, fun v _ => @Eq Value (.bool true) v] [[], [0], [1], [1], [2, 3, 1], [4, 1], [1], [1], [6, 7, 1], [8, 1], [5, 9, 1], [10, 1], [1, 11], [12], [13], [13], [13], [16], [16], [16], [16], [16], [13], [13]] [23] Try.mixed (by decide +kernel) (by decide +kernel) rfl rfl rfl ?_ ?_
         ·refine ⟨⟨rfl, ?_⟩, ⟨rfl, ?_⟩, ⟨rfl, ?_⟩, ⟨rfl, ?_⟩, ⟨rfl, ?_⟩, ⟨rfl, ?_⟩, ⟨rfl, ?_⟩, ⟨rfl, ?_⟩, ⟨rfl, ?_⟩, ⟨rfl, ?_⟩, ⟨rfl, ?_⟩, ⟨rfl, ?_⟩, ⟨rfl, ?_⟩, ⟨rfl, ?_⟩, ⟨rfl, ?_⟩, ⟨rfl, ?_⟩, ⟨rfl, ?_⟩, ⟨rfl, ?_⟩, ⟨rfl, ?_⟩, ⟨rfl, ?_⟩, ⟨rfl, ?_⟩, ⟨rfl, ?_⟩, ⟨rfl, ?_⟩, ⟨rfl, ?_⟩, trivial⟩
          ·rintro _ rfl
           refine Dep.nil ?_
           refine GuardOK.none rfl ?_
           exact OpV.toD (opv_move rfl rfl) rfl
          ·rintro _ rfl _ rfl
           refine Dep.nil ?_
           refine GuardOK.none rfl ?_
           exact OpV.toD (opv_move rfl rfl) rfl
          ·rintro _ rfl _ rfl
           refine Dep.nil ?_
           refine GuardOK.some rfl rfl rfl c20 ?_
           exact OpV.toD (opv_move rfl rfl) rfl
          ·rintro _ rfl _ rfl
           refine Dep.nil ?_
           refine GuardOK.some rfl rfl rfl c20 ?_
           exact OpV.toD (opv_move rfl rfl) rfl
          ·rintro _ rfl _ rfl _ rfl _ rfl
           refine Dep.nil ?_
           refine GuardOK.some rfl rfl rfl c20 ?_
           exact OpV.toS (opv_index rfl Try.underlying59 (by rw [Try.size45]; rfl) rfl rfl (ownO.read (Sep.at (o := ownO (kC .f32) 45 v18 x17.1) S_16 0 rfl)) hx35) (fun _ h => h)
          ·rintro _ rfl v33 fv33 _ rfl
           refine Dep.nil ?_
           refine GuardOK.some rfl rfl rfl c20 ?_
           exact OpV.toS (opv_loadC rfl Try.one45 rfl fv33 (ownO.read (Sep.at (o := ownO (kC .f32) 45 v18 x17.1) S_16 0 rfl)) hx35) (fun _ h => h)
          ·rintro _ rfl _ rfl
           refine Dep.nil ?_
           refine GuardOK.some rfl rfl rfl c20 ?_
           exact OpV.toD (opv_move rfl rfl) rfl
          ·rintro _ rfl _ rfl
           refine Dep.nil ?_
           refine GuardOK.some rfl rfl rfl c20 ?_
           exact OpV.toD (opv_move rfl rfl) rfl
          ·rintro _ rfl _ rfl _ rfl _ rfl
           refine Dep.nil ?_
           refine GuardOK.some rfl rfl rfl c20 ?_
           exact OpV.toS (opv_index rfl Try.underlying59 (by rw [Try.size45]; rfl) rfl rfl (ownO.read (Sep.at (o := ownO (kC .f32) 45 v16 x14.1) S_16 2 rfl)) hx36) (fun _ h => h)
          ·rintro _ rfl v35 fv35 _ rfl
           refine Dep.nil ?_
           refine GuardOK.some rfl rfl rfl c20 ?_
           exact OpV.toS (opv_loadC rfl Try.one45 rfl fv35 (ownO.read (Sep.at (o := ownO (kC .f32) 45 v16 x14.1) S_16 2 rfl)) hx36) (fun _ h => h)
          ·rintro _ rfl v34 fv34 v36 fv36 _ rfl
           refine Dep.nil ?_
           refine GuardOK.some rfl rfl rfl c20 ?_
           exact OpV.mono (opv_call (cap := []) (impl_SameComplex_ok _ _ _ fv34 _ _ fv36 _ hx37) rfl rfl ⟨rfl, rfl, trivial⟩ Try.func27 rfl rfl) (by rintro _ _ ⟨rfl, rfl⟩; exact ⟨rfl, rfl⟩)
          ·rintro _ rfl _ rfl _ rfl
           refine Dep.nil ?_
           refine GuardOK.some rfl rfl rfl c20 ?_
           exact OpV.toD (opv_not rfl rfl) rfl
          ·rintro _ rfl _ rfl _ rfl
           refine Dep.nil ?_
           refine GuardOK.none rfl ?_
           exact OpV.toD (opv_pick rfl rfl (fun _ => rfl) (fun e => absurd (Eq.trans (Eq.symm e) c20) (by decide)) rfl) rfl
          ·rintro _ rfl _ rfl
           refine Dep.nil ?_
           refine GuardOK.none rfl ?_
           exact OpV.toD (opv_move rfl rfl) rfl
          ·rintro _ rfl _ rfl
           refine Dep.nil ?_
           refine GuardOK.pass rfl rfl rfl (Eq.trans c21 (by decide)) ⟨rfl, rfl⟩
          ·rintro _ rfl _ rfl
           refine Dep.nil ?_
           refine GuardOK.pass rfl rfl rfl (Eq.trans c21 (by decide)) ⟨rfl, rfl⟩
          ·rintro _ rfl _ rfl
           refine Dep.nil ?_
           refine GuardOK.pass rfl rfl rfl (Eq.trans c21 (by decide)) ⟨rfl, rfl⟩
          ·rintro _ rfl _ rfl
           refine Dep.nil ?_
           refine GuardOK.passU rfl rfl rfl ⟨rfl, rfl⟩
          ·rintro _ rfl _ rfl
           refine Dep.nil ?_
           refine GuardOK.passU rfl rfl rfl ⟨rfl, rfl⟩
          ·rintro _ rfl _ rfl
           refine Dep.nil ?_
           refine GuardOK.passU rfl rfl rfl ⟨rfl, rfl⟩
          ·rintro _ rfl _ rfl
           refine Dep.nil ?_
           refine GuardOK.passU rfl rfl rfl ⟨rfl, rfl⟩
          ·rintro _ rfl _ rfl
           refine Dep.nil ?_
           refine GuardOK.passU rfl rfl rfl ⟨rfl, rfl⟩
          ·rintro _ rfl _ rfl
           refine Dep.nil ?_
           refine GuardOK.pass rfl rfl rfl (Eq.trans c21 (by decide)) ⟨rfl, rfl⟩
          ·rintro _ rfl _ rfl
           refine Dep.nil ?_
           refine GuardOK.none rfl ?_
           exact OpV.toD (opv_pick rfl rfl (fun _ => rfl) (fun e => absurd (Eq.trans (Eq.symm e) c21) (by decide)) rfl) rfl
         rintro _ rfl
         refine Dep.nil ?_
         show RL _ _ _ _ [] _ _
         refine RL.nil ?_
         have ey6 := Option.some.inj hy6
         subst ey6
         refine onlyN ?_
         exact ⟨⟨rfl, rfl, rfl, rfl, rfl, rfl, rfl, rfl, rfl, rfl, rfl, rfl, rfl, rfl, rfl, rfl, rfl, rfl, rfl, rfl, rfl, rfl, rfl, rfl, rfl, rfl, rfl, trivial⟩, rfl⟩
        ·rw [if_neg c21] at hy6
         have c21 := eq_false_of_ne_true c21
         by_cases c22 : (!x33) = true
         ·rw [if_pos c22] at hy6
          obtain ⟨x38, hx38, hy6⟩ := Option.bind_eq_some_iff.1 hy6
          refine W.sub (ψ := [(0, u0), (1, u1), (25, (.bool x1)), (5, (.int .i64 (IntKind.wrap .i64 (1 + x2)))), (6, v1), (7, v2), (9, (.int .i64 x7)), (38, (.bool x8)), (8, v5), (10, v14), (11, (.bool x12.2)), (12, v15), (13, (.bool x13.2)), (14, v16), (15, (.bool x14.2)), (16, v17), (17, (.bool x15.2)), (18, (.int .i64 x16)), (19, v18), (20, (.bool x17.2)), (122, (.bool x18)), (4, (.bool x19)), (21, (.int .i64 x20)), (125, (.bool (decide (x20 < (IntKind.wrap .i64 (1 + x2)))))), (158, (.bool x24)), (22, (.bool x33))]) ⟨rfl, rfl, rfl, rfl, rfl, rfl, rfl, rfl, rfl, rfl, rfl, rfl, rfl, rfl, rfl, rfl, rfl, rfl, rfl, rfl, rfl, rfl, rfl, rfl, rfl, rfl, trivial⟩ ?_
          refine W.regionP [fun v _ => @Eq Value (.bool x33) v, fun v _ => @Eq Value (.bool x33) v, fun v _ => @Eq Value v18 v, fun v _ => @Eq Value (.int .i64 x20) v, fun v _ => PtI 1 v v18 (Int.toNat x20), fun v _ => IsC .f32 v x35, fun v _ => @Eq Value v16 v, fun v _ => @Eq Value (.int .i64 x20) v, fun v _ => PtI 1 v v16 (Int.toNat x20), fun v _ => IsC .f32 v x36, fun v _ => @Eq Value (.bool x37) v, fun v _ => @Eq Value (.bool (!x37)) v, fun v _ => @Eq Value (.bool (!x37)) v, fun v _ => @Eq Value (.bool (!x37)) v, fun v _ => @Eq Value (.bool x33) v, fun v _ => @Eq Value (.bool (!x33)) v, fun v _ => @Eq Value (.bool (!x33)) v, fun v _ => @Eq Value v18 v, fun v _ => @Eq Value (.int .i64 x20) v, fun v _ => PtI 1 v v18 (Int.toNat x20), fun v _ => IsC .f32 v x38, fun v _ => @Eq Value (.bool (ccmp .neq .f32 x38 (some 0, some 0))) v, fun v _ => @Eq Value (.bool (ccmp .neq .f32 x38 (some 0, some 0))) v, fun v _ => @Eq Value (.bool (ccmp .neq .f32 x38 (some 0, some 0))) v] [[], [0], [1], [1], [2, 3, 1], [4, 1], [1], [1], [6, 7, 1], [8, 1], [5, 9, 1], [10, 1], [1, 11], [12], [13], [14, 13], [15, 13], [16], [16], [17, 18, 16], [19, 16], [20, 16], [16, 21, 13], [13, 22]] [23] Try.mixed (by decide +kernel) (by decide +kernel) rfl rfl rfl ?_ ?_
          ·refine ⟨⟨rfl, ?_⟩, ⟨rfl, ?_⟩, ⟨rfl, ?_⟩, ⟨rfl, ?_⟩, ⟨rfl, ?_⟩, ⟨rfl, ?_⟩, ⟨rfl, ?_⟩, ⟨rfl, ?_⟩, ⟨rfl, ?_⟩, ⟨rfl, ?_⟩, ⟨rfl, ?_⟩, ⟨rfl, ?_⟩, ⟨rfl, ?_⟩, ⟨rfl, ?_⟩, ⟨rfl, ?_⟩, ⟨rfl, ?_⟩, ⟨rfl, ?_⟩, ⟨rfl, ?_⟩, ⟨rfl, ?_⟩, ⟨rfl, ?_⟩, ⟨rfl, ?_⟩, ⟨rfl, ?_⟩, ⟨rfl, ?_⟩, ⟨rfl, ?_⟩, trivial⟩
           ·rintro _ rfl
            refine Dep.nil ?_
            refine GuardOK.none rfl ?_
            exact OpV.toD (opv_move rfl rfl) rfl
           ·rintro _ rfl _ rfl
            refine Dep.nil ?_
            refine GuardOK.none rfl ?_
            exact OpV.toD (opv_move rfl rfl) rfl
           ·rintro _ rfl _ rfl
            refine Dep.nil ?_
            refine GuardOK.some rfl rfl rfl c20 ?_
            exact OpV.toD (opv_move rfl rfl) rfl
           ·rintro _ rfl _ rfl
            refine Dep.nil ?_
            refine GuardOK.some rfl rfl rfl c20 ?_
            exact OpV.toD (opv_move rfl rfl) rfl
           ·rintro _ rfl _ rfl _ rfl _ rfl
            refine Dep.nil ?_
            refine GuardOK.some rfl rfl rfl c20 ?_
            exact OpV.toS (opv_index rfl Try.underlying59 (by rw [Try.size45]; rfl) rfl rfl (ownO.read (Sep.at (o := ownO (kC .f32) 45 v18 x17.1) S_16 0 rfl)) hx35) (fun _ h => h)
           ·rintro _ rfl v33 fv33 _ rfl
            refine Dep.nil ?_
            refine GuardOK.some rfl rfl rfl c20 ?_
            exact OpV.toS (opv_loadC rfl Try.one45 rfl fv33 (ownO.read (Sep.at (o := ownO (kC .f32) 45 v18 x17.1) S_16 0 rfl)) hx35) (fun _ h => h)
           ·rintro _ rfl _ rfl
            refine Dep.nil ?_
            refine GuardOK.some rfl rfl rfl c20 ?_
            exact OpV.toD (opv_move rfl rfl) rfl
           ·rintro _ rfl _ rfl
            refine Dep.nil ?_
            refine GuardOK.some rfl rfl rfl c20 ?_
            exact OpV.toD (opv_move rfl rfl) rfl
           ·rintro _ rfl _ rfl _ rfl _ rfl
            refine Dep.nil ?_
            refine GuardOK.some rfl rfl rfl c20 ?_
            exact OpV.toS (opv_index rfl Try.underlying59 (by rw [Try.size45]; rfl) rfl rfl (ownO.read (Sep.at (o := ownO (kC .f32) 45 v16 x14.1) S_16 2 rfl)) hx36) (fun _ h => h)
           ·rintro _ rfl v35 fv35 _ rfl
            refine Dep.nil ?_
            refine GuardOK.some rfl rfl rfl c20 ?_
            exact OpV.toS (opv_loadC rfl Try.one45 rfl fv35 (ownO.read (Sep.at (o := ownO (kC .f32) 45 v16 x14.1) S_16 2 rfl)) hx36) (fun _ h => h)
           ·rintro _ rfl v34 fv34 v36 fv36 _ rfl
            refine Dep.nil ?_
            refine GuardOK.some rfl rfl rfl c20 ?_
            exact OpV.mono (opv_call (cap := []) (impl_SameComplex_ok _ _ _ fv34 _ _ fv36 _ hx37) rfl rfl ⟨rfl, rfl, trivial⟩ Try.func27 rfl rfl) (by rintro _ _ ⟨rfl, rfl⟩; exact ⟨rfl, rfl⟩)
           ·rintro _ rfl _ rfl _ rfl
            refine Dep.nil ?_
            refine GuardOK.some rfl rfl rfl c20 ?_
            exact OpV.toD (opv_not rfl rfl) rfl
           ·rintro _ rfl _ rfl _ rfl
            refine Dep.nil ?_
            refine GuardOK.none rfl ?_
            exact OpV.toD (opv_pick rfl rfl (fun _ => rfl) (fun e => absurd (Eq.trans (Eq.symm e) c20) (by decide)) rfl) rfl
           ·rintro _ rfl _ rfl
            refine Dep.nil ?_
            refine GuardOK.none rfl ?_
            exact OpV.toD (opv_move rfl rfl) rfl
           ·rintro _ rfl _ rfl
            refine Dep.nil ?_
            refine GuardOK.some rfl rfl rfl c21 ?_
            exact OpV.toD (opv_move rfl rfl) rfl
           ·rintro _ rfl _ rfl _ rfl
            refine Dep.nil ?_
            refine GuardOK.some rfl rfl rfl c21 ?_
            exact OpV.toD (opv_not rfl rfl) rfl
           ·rintro _ rfl _ rfl _ rfl
            refine Dep.nil ?_
            refine GuardOK.some rfl rfl rfl c21 ?_
            exact OpV.toD (opv_move rfl rfl) rfl
           ·rintro _ rfl _ rfl
            refine Dep.nil ?_
            refine GuardOK.some rfl rfl rfl c22 ?_
            exact OpV.toD (opv_move rfl rfl) rfl
           ·rintro _ rfl _ rfl
            refine Dep.nil ?_
            refine GuardOK.some rfl rfl rfl c22 ?_
            exact OpV.toD (opv_move rfl rfl) rfl
           ·rintro _ rfl _ rfl _ rfl _ rfl
            refine Dep.nil ?_
            refine GuardOK.some rfl rfl rfl c22 ?_
            exact OpV.toS (opv_index rfl Try.underlying59 (by rw [Try.size45]; rfl) rfl rfl (ownO.read (Sep.at (o := ownO (kC .f32) 45 v18 x17.1) S_16 0 rfl)) hx38) (fun _ h => h)
           ·rintro _ rfl v37 fv37 _ rfl
            refine Dep.nil ?_
            refine GuardOK.some rfl rfl rfl c22 ?_
            exact OpV.toS (opv_loadC rfl Try.one45 rfl fv37 (ownO.read (Sep.at (o := ownO (kC .f32) 45 v18 x17.1) S_16 0 rfl)) hx38) (fun _ h => h)
           ·rintro _ rfl v38 fv38 _ rfl
            refine Dep.nil ?_
            refine GuardOK.some rfl rfl rfl c22 ?_
            exact OpV.toD (opv_ccmp rfl rfl rfl rfl fv38 (isC_lit .f32 0 0 (by decide) (by decide) (by decide) (by decide))) rfl
           ·rintro _ rfl _ rfl _ rfl _ rfl
            refine Dep.nil ?_
            refine GuardOK.some rfl rfl rfl c21 ?_
            exact OpV.toD (opv_pick rfl rfl (fun _ => rfl) (fun e => absurd (Eq.trans (Eq.symm e) c22) (by decide)) rfl) rfl
           ·rintro _ rfl _ rfl _ rfl
            refine Dep.nil ?_
            refine GuardOK.none rfl ?_
            exact OpV.toD (opv_pick rfl rfl (fun e => absurd (Eq.trans (Eq.symm e) c21) (by decide)) (fun _ => rfl) rfl) rfl
          rintro _ rfl
          refine Dep.nil ?_
          show RL _ _ _ _ [] _ _
          refine RL.nil ?_
          have ey6 := Option.some.inj hy6
          subst ey6
          refine onlyN ?_
          exact ⟨⟨rfl, rfl, rfl, rfl, rfl, rfl, rfl, rfl, rfl, rfl, rfl, rfl, rfl, rfl, rfl, rfl, rfl, rfl, rfl, rfl, rfl, rfl, rfl, rfl, rfl, rfl, rfl, trivial⟩, rfl⟩
         ·rw [if_neg c22] at hy6
          have c22 := eq_false_of_ne_true c22
          refine W.sub (ψ := [(0, u0), (1, u1), (25, (.bool x1)), (5, (.int .i64 (IntKind.wrap .i64 (1 + x2)))), (6, v1), (7, v2), (9, (.int .i64 x7)), (38, (.bool x8)), (8, v5), (10, v14), (11, (.bool x12.2)), (12, v15), (13, (.bool x13.2)), (14, v16), (15, (.bool x14.2)), (16, v17), (17, (.bool x15.2)), (18, (.int .i64 x16)), (19, v18), (20, (.bool x17.2)), (122, (.bool x18)), (4, (.bool x19)), (21, (.int .i64 x20)), (125, (.bool (decide (x20 < (IntKind.wrap .i64 (1 + x2)))))), (158, (.bool x24)), (22, (.bool x33))]) ⟨rfl, rfl, rfl, rfl, rfl, rfl, rfl, rfl, rfl, rfl, rfl, rfl, rfl, rfl, rfl, rfl, rfl, rfl, rfl, rfl, rfl, rfl, rfl, rfl, rfl, rfl, trivial⟩ ?_
          refine W.regionP [fun v _ => @Eq Value (.bool x33) v, fun v _ => @Eq Value (.bool x33) v, fun v _ => @Eq Value v18 v, fun v _ => @Eq Value (.int .i64 x20) v, fun v _ => PtI 1 v v18 (Int.toNat x20), fun v _ => IsC .f32 v x35, fun v _ => @Eq Value v16 v, fun v _ => @Eq Value (.int .i64 x20) v, fun v _ => PtI 1 v v16 (Int.toNat x20), fun v _ => IsC .f32 v x36, fun v _ => @Eq Value (.bool x37) v, fun v _ => @Eq Value (.bool (!x37)) v, fun v _ => @Eq Value (.bool (!x37)) v, fun v _ => @Eq Value (.bool (!x37)) v, fun v _ => @Eq Value (.bool x33) v, fun v _ => @Eq Value (.bool (!x33)) v, fun v _ => @Eq Value (.bool (!x33)) v, fun v _ => @Eq Value undef v, fun v _ => @Eq Value undef v, fun v _ => @Eq Value undef v, fun v _ => @Eq Value undef v, fun v _ => @Eq Value undef v, fun v _ => @Eq Value (.bool false) v, fun v _ => @Eq Value (.bool false) v] [[], [0], [1], [1], [2, 3, 1], [4, 1], [1], [1], [6, 7, 1], [8, 1], [5, 9, 1], [10, 1], [1, 11], [12], [13], [14, 13], [15, 13], [16], [16], [16], [16], [16], [16, 13], [13, 22]] [23] Try.mixed (by decide +kernel) (by decide +kernel) rfl rfl rfl ?_ ?_
          ·refine ⟨⟨rfl, ?_⟩, ⟨rfl, ?_⟩, ⟨rfl, ?_⟩, ⟨rfl, ?_⟩, ⟨rfl, ?_⟩, ⟨rfl, ?_⟩, ⟨rfl, ?_⟩, ⟨rfl, ?_⟩, ⟨rfl, ?_⟩, ⟨rfl, ?_⟩, ⟨rfl, ?_⟩, ⟨rfl, ?_⟩, ⟨rfl, ?_⟩, ⟨rfl, ?_⟩, ⟨rfl, ?_⟩, ⟨rfl, ?_⟩, ⟨rfl, ?_⟩, ⟨rfl, ?_⟩, ⟨rfl, ?_⟩, ⟨rfl, ?_⟩, ⟨rfl, ?_⟩, ⟨rfl, ?_⟩, ⟨rfl, ?_⟩, ⟨rfl, ?_⟩, trivial⟩
           ·rintro _ rfl
            refine Dep.nil ?_
            refine GuardOK.none rfl ?_
            exact OpV.toD (opv_move rfl rfl) rfl
           ·rintro _ rfl _ rfl
            refine Dep.nil ?_
            refine GuardOK.none rfl ?_
            exact OpV.toD (opv_move rfl rfl) rfl
           ·rintro _ rfl _ rfl
            refine Dep.nil ?_
            refine GuardOK.some rfl rfl rfl c20 ?_
            exact OpV.toD (opv_move rfl rfl) rfl
           ·rintro _ rfl _ rfl
            refine Dep.nil ?_
            refine GuardOK.some rfl rfl rfl c20 ?_
            exact OpV.toD (opv_move rfl rfl) rfl
           ·rintro _ rfl _ rfl _ rfl _ rfl
            refine Dep.nil ?_
            refine GuardOK.some rfl rfl rfl c20 ?_
            exact OpV.toS (opv_index rfl Try.underlying59 (by rw [Try.size45]; rfl) rfl rfl (ownO.read (Sep.at (o := ownO (kC .f32) 45 v18 x17.1) S_16 0 rfl)) hx35) (fun _ h => h)
           ·rintro _ rfl v33 fv33 _ rfl
            refine Dep.nil ?_
            refine GuardOK.some rfl rfl rfl c20 ?_
            exact OpV.toS (opv_loadC rfl Try.one45 rfl fv33 (ownO.read (Sep.at (o := ownO (kC .f32) 45 v18 x17.1) S_16 0 rfl)) hx35) (fun _ h => h)
           ·rintro _ rfl _ rfl
            refine Dep.nil ?_
            refine GuardOK.some rfl rfl rfl c20 ?_
            exact OpV.toD (opv_move rfl rfl) rfl
           ·rintro _ rfl _ rfl
            refine Dep.nil ?_
            refine GuardOK.some rfl rfl rfl c20 ?_
            exact OpV.toD (opv_move rfl rfl) rfl
           ·rintro _ rfl _ rfl _ rfl _ rfl
            refine Dep.nil ?_
            refine GuardOK.some rfl rfl rfl c20 ?_
            exact OpV.toS (opv_index rfl Try.underlying59 (by rw [Try.size45]; rfl) rfl rfl (ownO.read (Sep.at (o := ownO (kC .f32) 45 v16 x14.1) S_16 2 rfl)) hx36) (fun _ h => h)
           ·rintro _ rfl v35 fv35 _ rfl
            refine Dep.nil ?_
            refine GuardOK.some rfl rfl rfl c20 ?_
            exact OpV.toS (opv_loadC rfl Try.one45 rfl fv35 (ownO.read (Sep.at (o := ownO (kC .f32) 45 v16 x14.1) S_16 2 rfl)) hx36) (fun _ h => h)
           ·rintro _ rfl v34 fv34 v36 fv36 _ rfl
            refine Dep.nil ?_
            refine GuardOK.some rfl rfl rfl c20 ?_
            exact OpV.mono (opv_call (cap := []) (impl_SameComplex_ok _ _ _ fv34 _ _ fv36 _ hx37) rfl rfl ⟨rfl, rfl, trivial⟩ Try.func27 rfl rfl) (by rintro _ _ ⟨rfl, rfl⟩; exact ⟨rfl, rfl⟩)
           ·rintro _ rfl _ rfl _ rfl
            refine Dep.nil ?_
            refine GuardOK.some rfl rfl rfl c20 ?_
            exact OpV.toD (opv_not rfl rfl) rfl
           ·rintro _ rfl _ rfl _ rfl
            refine Dep.nil ?_
            refine GuardOK.none rfl ?_
            exact OpV.toD (opv_pick rfl rfl (fun _ => rfl) (fun e => absurd (Eq.trans (Eq.symm e) c20) (by decide)) rfl) rfl
           ·rintro _ rfl _ rfl
            refine Dep.nil ?_
            refine GuardOK.none rfl ?_
            exact OpV.toD (opv_move rfl rfl) rfl
           ·rintro _ rfl _ rfl
            refine Dep.nil ?_
            refine GuardOK.some rfl rfl rfl c21 ?_
            exact OpV.toD (opv_move rfl rfl) rfl
           ·rintro _ rfl _ rfl _ rfl
            refine Dep.nil ?_
            refine GuardOK.some rfl rfl rfl c21 ?_
            exact OpV.toD (opv_not rfl rfl) rfl
           ·rintro _ rfl _ rfl _ rfl
            refine Dep.nil ?_
            refine GuardOK.some rfl rfl rfl c21 ?_
            exact OpV.toD (opv_move rfl rfl) rfl
           ·rintro _ rfl _ rfl
            refine Dep.nil ?_
            refine GuardOK.pass rfl rfl rfl (Eq.trans c22 (by decide)) ⟨rfl, rfl⟩
           ·rintro _ rfl _ rfl
            refine Dep.nil ?_
            refine GuardOK.pass rfl rfl rfl (Eq.trans c22 (by decide)) ⟨rfl, rfl⟩
           ·rintro _ rfl _ rfl
            refine Dep.nil ?_
            refine GuardOK.pass rfl rfl rfl (Eq.trans c22 (by decide)) ⟨rfl, rfl⟩
           ·rintro _ rfl _ rfl
            refine Dep.nil ?_
            refine GuardOK.pass rfl rfl rfl (Eq.trans c22 (by decide)) ⟨rfl, rfl⟩
           ·rintro _ rfl _ rfl
            refine Dep.nil ?_
            refine GuardOK.pass rfl rfl rfl (Eq.trans c22 (by decide)) ⟨rfl, rfl⟩
           ·rintro _ rfl _ rfl _ rfl
            refine Dep.nil ?_
            refine GuardOK.some rfl rfl rfl c21 ?_
            exact OpV.toD (opv_pick rfl rfl (fun e => absurd (Eq.trans (Eq.symm e) c22) (by decide)) (fun _ => rfl) rfl) rfl
           ·rintro _ rfl _ rfl _ rfl
            refine Dep.nil ?_
            refine GuardOK.none rfl ?_
            exact OpV.toD (opv_pick rfl rfl (fun e => absurd (Eq.trans (Eq.symm e) c21) (by decide)) (fun _ => rfl) rfl) rfl
          rintro _ rfl
          refine Dep.nil ?_
          show RL _ _ _ _ [] _ _
          refine RL.nil ?_
          have ey6 := Option.some.inj hy6
          subst ey6
          refine onlyN ?_
          exact ⟨⟨rfl, rfl, rfl, rfl, rfl, rfl, rfl, rfl, rfl, rfl, rfl, rfl, rfl, rfl, rfl, rfl, rfl, rfl, rfl, rfl, rfl, rfl, rfl, rfl, rfl, rfl, rfl, trivial⟩, rfl⟩
       ·rw [if_neg c20] at hy6
        have c20 := eq_false_of_ne_true c20
        by_cases c23 : (!x33) = true
        ·rw [if_pos c23] at hy6
         obtain ⟨x39, hx39, hy6⟩ := Option.bind_eq_some_iff.1 hy6
         refine W.sub (ψ := [(0, u0), (1, u1), (25, (.bool x1)), (5, (.int .i64 (IntKind.wrap .i64 (1 + x2)))), (6, v1), (7, v2), (9, (.int .i64 x7)), (38, (.bool x8)), (8, v5), (10, v14), (11, (.bool x12.2)), (12, v15), (13, (.bool x13.2)), (14, v16), (15, (.bool x14.2)), (16, v17), (17, (.bool x15.2)), (18, (.int .i64 x16)), (19, v18), (20, (.bool x17.2)), (122, (.bool x18)), (4, (.bool x19)), (21, (.int .i64 x20)), (125, (.bool (decide (x20 < (IntKind.wrap .i64 (1 + x2)))))), (158, (.bool x24)), (22, (.bool x33))]) ⟨rfl, rfl, rfl, rfl, rfl, rfl, rfl, rfl, rfl, rfl, rfl, rfl, rfl, rfl, rfl, rfl, rfl, rfl, rfl, rfl, rfl, rfl, rfl, rfl, rfl, rfl, trivial⟩ ?_
         refine W.regionP [fun v _ => @Eq Value (.bool x33) v, fun v _ => @Eq Value (.bool x33) v, fun v _ => @Eq Value undef v, fun v _ => @Eq Value undef v, fun v _ => @Eq Value undef v, fun v _ => @Eq Value undef v, fun v _ => @Eq Value undef v, fun v _ => @Eq Value undef v, fun v _ => @Eq Value undef v, fun v _ => @Eq Value undef v, fun v _ => @Eq Value undef v, fun v _ => @Eq Value undef v, fun v _ => @Eq Value (.bool false) v, fun v _ => @Eq Value (.bool false) v, fun v _ => @Eq Value (.bool x33) v, fun v _ => @Eq Value (.bool (!x33)) v, fun v _ => @Eq Value (.bool (!x33)) v, fun v _ => @Eq Value v18 v, fun v _ => @Eq Value (.int .i64 x20) v, fun v _ => PtI 1 v v18 (Int.toNat x20), fun v _ => IsC .f32 v x39, fun v _ => @Eq Value (.bool (ccmp .neq .f32 x39 (some 0, some 0))) v, fun v _ => @Eq Value (.bool (ccmp .neq .f32 x39 (some 0, some 0))) v, fun v _ => @Eq Value (.bool (ccmp .neq .f32 x39 (some 0, some 0))) v] [[], [0], [1], [1], [1], [1], [1], [1], [1], [1], [1], [1], [1], [12], [13], [14, 13], [15, 13], [16], [16], [17, 18, 16], [19, 16], [20, 16], [16, 21, 13], [13, 22]] [23] Try.mixed (by decide +kernel) (by decide +kernel) rfl rfl rfl ?_ ?_
         ·refine ⟨⟨rfl, ?_⟩, ⟨rfl, ?_⟩, ⟨rfl, ?_⟩, ⟨rfl, ?_⟩, ⟨rfl, ?_⟩, ⟨rfl, ?_⟩, ⟨rfl, ?_⟩, ⟨rfl, ?_⟩, ⟨rfl, ?_⟩, ⟨rfl, ?_⟩, ⟨rfl, ?_⟩, ⟨rfl, ?_⟩, ⟨rfl, ?_⟩, ⟨rfl, ?_⟩, ⟨rfl, ?_⟩, ⟨rfl, ?_⟩, ⟨rfl, ?_⟩, ⟨rfl, ?_⟩, ⟨rfl, ?_⟩, ⟨rfl, ?_⟩, ⟨rfl, ?_⟩, ⟨rfl, ?_⟩, ⟨rfl, ?_⟩, ⟨rfl, ?_⟩, trivial⟩
          ·rintro _ rfl
           refine Dep.nil ?_
           refine GuardOK.none rfl ?_
           exact OpV.toD (opv_move rfl rfl) rfl
          ·rintro _ rfl _ rfl
           refine Dep.nil ?_
           refine GuardOK.none rfl ?_
           exact OpV.toD (opv_move rfl rfl) rfl
          ·rintro _ rfl _ rfl
           refine Dep.nil ?_
           refine GuardOK.pass rfl rfl rfl (Eq.trans c20 (by decide)) ⟨rfl, rfl⟩
          ·rintro _ rfl _ rfl
           refine Dep.nil ?_
           refine GuardOK.pass rfl rfl rfl (Eq.trans c20 (by decide)) ⟨rfl, rfl⟩
          ·rintro _ rfl _ rfl
           refine Dep.nil ?_
           refine GuardOK.pass rfl rfl rfl (Eq.trans c20 (by decide)) ⟨rfl, rfl⟩
          ·rintro _ rfl _ rfl
           refine Dep.nil ?_
           refine GuardOK.pass rfl rfl rfl (Eq.trans c20 (by decide)) ⟨rfl, rfl⟩
          ·rintro _ rfl _ rfl
           refine Dep.nil ?_
           refine GuardOK.pass rfl rfl rfl (Eq.trans c20 (by decide)) ⟨rfl, rfl⟩
          ·rintro _ rfl _ rfl
           refine Dep.nil ?_
           refine GuardOK.pass rfl rfl rfl (Eq.trans c20 (by decide)) ⟨rfl, rfl⟩
          ·rintro _ rfl _ rfl
           refine Dep.nil ?_
           refine GuardOK.pass rfl rfl rfl (Eq.trans c20 (by decide)) ⟨rfl, rfl⟩
          ·rintro _ rfl _ rfl
           refine Dep.nil ?_
           refine GuardOK.pass rfl rfl rfl (Eq.trans c20 (by decide)) ⟨rfl, rfl⟩
          ·rintro _ rfl _ rfl
           refine Dep.nil ?_
           refine GuardOK.pass rfl rfl rfl (Eq.trans c20 (by decide)) ⟨rfl, rfl⟩
          ·rintro _ rfl _ rfl
           refine Dep.nil ?_
           refine GuardOK.pass rfl rfl rfl (Eq.trans c20 (by decide)) ⟨rfl, rfl⟩
          ·rintro _ rfl _ rfl
           refine Dep.nil ?_
           refine GuardOK.none rfl ?_
           exact OpV.toD (opv_pick rfl rfl (fun e => absurd (Eq.trans (Eq.symm e) c20) (by decide)) (fun _ => rfl) rfl) rfl
          ·rintro _ rfl _ rfl
           refine Dep.nil ?_
           refine GuardOK.none rfl ?_
           exact OpV.toD (opv_move rfl rfl) rfl
          ·rintro _ rfl _ rfl
           refine Dep.nil ?_
           refine GuardOK.some rfl rfl rfl rfl ?_
           exact OpV.toD (opv_move rfl rfl) rfl
          ·rintro _ rfl _ rfl _ rfl
           refine Dep.nil ?_
           refine GuardOK.some rfl rfl rfl rfl ?_
           exact OpV.toD (opv_not rfl rfl) rfl
          ·rintro _ rfl _ rfl _ rfl
           refine Dep.nil ?_
           refine GuardOK.some rfl rfl rfl rfl ?_
           exact OpV.toD (opv_move rfl rfl) rfl
          ·rintro _ rfl _ rfl
           refine Dep.nil ?_
           refine GuardOK.some rfl rfl rfl c23 ?_
           exact OpV.toD (opv_move rfl rfl) rfl
          ·rintro _ rfl _ rfl
           refine Dep.nil ?_
           refine GuardOK.some rfl rfl rfl c23 ?_
           exact OpV.toD (opv_move rfl rfl) rfl
          ·rintro _ rfl _ rfl _ rfl _ rfl
           refine Dep.nil ?_
           refine GuardOK.some rfl rfl rfl c23 ?_
           exact OpV.toS (opv_index rfl Try.underlying59 (by rw [Try.size45]; rfl) rfl rfl (ownO.read (Sep.at (o := ownO (kC .f32) 45 v18 x17.1) S_16 0 rfl)) hx39) (fun _ h => h)
          ·rintro _ rfl v39 fv39 _ rfl
           refine Dep.nil ?_
           refine GuardOK.some rfl rfl rfl c23 ?_
           exact OpV.toS (opv_loadC rfl Try.one45 rfl fv39 (ownO.read (Sep.at (o := ownO (kC .f32) 45 v18 x17.1) S_16 0 rfl)) hx39) (fun _ h => h)
          ·rintro _ rfl v40 fv40 _ rfl
           refine Dep.nil ?_
           refine GuardOK.some rfl rfl rfl c23 ?_
           exact OpV.toD (opv_ccmp rfl rfl rfl rfl fv40 (isC_lit .f32 0 0 (by decide) (by decide) (by decide) (by decide))) rfl
          ·rintro _ rfl _ rfl _ rfl _ rfl
           refine Dep.nil ?_
           refine GuardOK.some rfl rfl rfl rfl ?_
           exact OpV.toD (opv_pick rfl rfl (fun _ => rfl) (fun e => absurd (Eq.trans (Eq.symm e) c23) (by decide)) rfl) rfl
          ·rintro _ rfl _ rfl _ rfl
           refine Dep.nil ?_
           refine GuardOK.none rfl ?_
           exact OpV.toD (opv_pick rfl rfl (fun e => absurd (Eq.trans (Eq.symm e) rfl) (by decide)) (fun _ => rfl) rfl) rfl
         rintro _ rfl
         refine Dep.nil ?_
         show RL _ _ _ _ [] _ _
         refine RL.nil ?_
         have ey6 := Option.some.inj hy6
         subst ey6
         refine onlyN ?_
         exact ⟨⟨rfl, rfl, rfl, rfl, rfl, rfl, rfl, rfl, rfl, rfl, rfl, rfl, rfl, rfl, rfl, rfl, rfl, rfl, rfl, rfl, rfl, rfl, rfl, rfl, rfl, rfl, rfl, trivial⟩, rfl⟩
        ·rw [if_neg c23] at hy6
         have c23 := eq_false_of_ne_true c23
         refine W.sub (ψ := [(0, u0), (1, u1), (25, (.bool x1)), (5, (.int .i64 (IntKind.wrap .i64 (1 + x2)))), (6, v1), (7, v2), (9, (.int .i64 x7)), (38, (.bool x8)), (8, v5), (10, v14), (11, (.bool x12.2)), (12, v15), (13, (.bool x13.2)), (14, v16), (15, (.bool x14.2)), (16, v17), (17, (.bool x15.2)), (18, (.int .i64 x16)), (19, v18), (20, (.bool x17.2)), (122, (.bool x18)), (4, (.bool x19)), (21, (.int .i64 x20)), (125, (.bool (decide (x20 < (IntKind.wrap .i64 (1 + x2)))))), (158, (.bool x24)), (22, (.bool x33))]) ⟨rfl, rfl, rfl, rfl, rfl, rfl, rfl, rfl, rfl, rfl, rfl, rfl, rfl, rfl, rfl, rfl, rfl, rfl, rfl, rfl, rfl, rfl, rfl, rfl, rfl, rfl, trivial⟩ ?_
         refine W.regionP [fun v _ => @Eq Value (.bool x33) v, fun v _ => @Eq Value (.bool x33) v, fun v _ => @Eq Value undef v, fun v _ => @Eq Value undef v, fun v _ => @Eq Value undef v, fun v _ => @Eq Value undef v, fun v _ => @Eq Value undef v, fun v _ => @Eq Value undef v, fun v _ => @Eq Value undef v, fun v _ => @Eq Value undef v, fun v _ => @Eq Value undef v, fun v _ => @Eq Value undef v, fun v _ => @Eq Value (.bool false) v, fun v _ => @Eq Value (.bool false) v, fun v _ => @Eq Value (.bool x33) v, fun v _ => @Eq Value (.bool (!x33)) v, fun v _ => @Eq Value (.bool (!x33)) v, fun v _ => @Eq Value undef v, fun v _ => @Eq Value undef v, fun v _ => @Eq Value undef v, fun v _ => @Eq Value undef v, fun v _ => @Eq Value undef v, fun v _ => @Eq Value (.bool false) v, fun v _ => @Eq Value (.bool false) v] [[], [0], [1], [1], [1], [1], [1], [1], [1], [1], [1], [1], [1], [12], [13], [14, 13], [15, 13], [16], [16], [16], [16], [16], [16, 13], [13, 22]] [23] Try.mixed (by decide +kernel) (by decide +kernel) rfl rfl rfl ?_ ?_
         ·refine ⟨⟨rfl, ?_⟩, ⟨rfl, ?_⟩, ⟨rfl, ?_⟩, ⟨rfl, ?_⟩, ⟨rfl, ?_⟩, ⟨rfl, ?_⟩, ⟨rfl, ?_⟩, ⟨rfl, ?_⟩, ⟨rfl, ?_⟩, ⟨rfl, ?_⟩, ⟨rfl, ?_⟩, ⟨rfl, ?_⟩, ⟨rfl, ?_⟩, ⟨rfl, ?_⟩, ⟨rfl, ?_⟩, ⟨rfl, ?_⟩, ⟨rfl, ?_⟩, ⟨rfl, ?_⟩, ⟨rfl, ?_⟩, ⟨rfl, ?_⟩, ⟨rfl, ?_⟩, ⟨rfl, ?_⟩, ⟨rfl, ?_⟩, ⟨rfl, ?_⟩, trivial⟩
          ·rintro _ rfl
           refine Dep.nil ?_
           refine GuardOK.none rfl ?_
           exact OpV.toD (opv_move rfl rfl) rfl
          ·rintro _ rfl _ rfl
           refine Dep.nil ?_
           refine GuardOK.none rfl ?_
           exact OpV.toD (opv_move rfl rfl) rfl
          ·rintro _ rfl _ rfl
           refine Dep.nil ?_
           refine GuardOK.pass rfl rfl rfl (Eq.trans c20 (by decide)) ⟨rfl, rfl⟩
          ·rintro _ rfl _ rfl
           refine Dep.nil ?_
           refine GuardOK.pass rfl rfl rfl (Eq.trans c20 (by decide)) ⟨rfl, rfl⟩
          ·rintro _ rfl _ rfl
           refine Dep.nil ?_
           refine GuardOK.pass rfl rfl rfl (Eq.trans c20 (by decide)) ⟨rfl, rfl⟩
          ·rintro _ rfl _ rfl
           refine Dep.nil ?_
           refine GuardOK.pass rfl rfl rfl (Eq.trans c20 (by decide)) ⟨rfl, rfl⟩
          ·rintro _ rfl _ rfl
           refine Dep.nil ?_
           refine GuardOK.pass rfl rfl rfl (Eq.trans c20 (by decide)) ⟨rfl, rfl⟩
          ·rintro _ rfl _ rfl
           refine Dep.nil ?_
           refine GuardOK.pass rfl rfl rfl (Eq.trans c20 (by decide)) ⟨rfl, rfl⟩
          ·rintro _ rfl _ rfl
           refine Dep.nil ?_
           refine GuardOK.pass rfl rfl rfl (Eq.trans c20 (by decide)) ⟨rfl, rfl⟩
          ·rintro _ rfl _ rfl
           refine Dep.nil ?_
           refine GuardOK.pass rfl rfl rfl (Eq.trans c20 (by decide)) ⟨rfl, rfl⟩
          ·rintro _ rfl _ rfl
           refine Dep.nil ?_
           refine GuardOK.pass rfl rfl rfl (Eq.trans c20 (by decide)) ⟨rfl, rfl⟩
          ·rintro _ rfl _ rfl
           refine Dep.nil ?_
           refine GuardOK.pass rfl rfl rfl (Eq.trans c20 (by decide)) ⟨rfl, rfl⟩
          ·rintro _ rfl _ rfl
           refine Dep.nil ?_
           refine GuardOK.none rfl ?_
           exact OpV.toD (opv_pick rfl rfl (fun e => absurd (Eq.trans (Eq.symm e) c20) (by decide)) (fun _ => rfl) rfl) rfl
          ·rintro _ rfl _ rfl
           refine Dep.nil ?_
           refine GuardOK.none rfl ?_
           exact OpV.toD (opv_move rfl rfl) rfl
          ·rintro _ rfl _ rfl
           refine Dep.nil ?_
           refine GuardOK.some rfl rfl rfl rfl ?_
           exact OpV.toD (opv_move rfl rfl) rfl
          ·rintro _ rfl _ rfl _ rfl
           refine Dep.nil ?_
           refine GuardOK.some rfl rfl rfl rfl ?_
           exact OpV.toD (opv_not rfl rfl) rfl
          ·rintro _ rfl _ rfl _ rfl
           refine Dep.nil ?_
           refine GuardOK.some rfl rfl rfl rfl ?_
           exact OpV.toD (opv_move rfl rfl) rfl
          ·rintro _ rfl _ rfl
           refine Dep.nil ?_
           refine GuardOK.pass rfl rfl rfl (Eq.trans c23 (by decide)) ⟨rfl, rfl⟩
          ·rintro _ rfl _ rfl
           refine Dep.nil ?_
           refine GuardOK.pass rfl rfl rfl (Eq.trans c23 (by decide)) ⟨rfl, rfl⟩
          ·rintro _ rfl _ rfl
           refine Dep.nil ?_
           refine GuardOK.pass rfl rfl rfl (Eq.trans c23 (by decide)) ⟨rfl, rfl⟩
          ·rintro _ rfl _ rfl
           refine Dep.nil ?_
           refine GuardOK.pass rfl rfl rfl (Eq.trans c23 (by decide)) ⟨rfl, rfl⟩
          ·rintro _ rfl _ rfl
           refine Dep.nil ?_
           refine GuardOK.pass rfl rfl rfl (Eq.trans c23 (by decide)) ⟨rfl, rfl⟩
          ·rintro _ rfl _ rfl _ rfl
           refine Dep.nil ?_
           refine GuardOK.some rfl rfl rfl rfl ?_
           exact OpV.toD (opv_pick rfl rfl (fun e => absurd (Eq.trans (Eq.symm e) c23) (by decide)) (fun _ => rfl) rfl) rfl
          ·rintro _ rfl _ rfl _ rfl
           refine Dep.nil ?_
           refine GuardOK.none rfl ?_
           exact OpV.toD (opv_pick rfl rfl (fun e => absurd (Eq.trans (Eq.symm e) rfl) (by decide)) (fun _ => rfl) rfl) rfl
         rintro _ rfl
         refine Dep.nil ?_
         show RL _ _ _ _ [] _ _
         refine RL.nil ?_
         have ey6 := Option.some.inj hy6
         subst ey6
         refine onlyN ?_
         exact ⟨⟨rfl, rfl, rfl, rfl, rfl, rfl, rfl, rfl, rfl, rfl, rfl, rfl, rfl, rfl, rfl, rfl, rfl, rfl, rfl, rfl, rfl, rfl, rfl, rfl, rfl, rfl, rfl, trivial⟩, rfl⟩
      rintro φ' _ ⟨hs8, rfl⟩
      refine thnN ?_
      refine W.sub hs8 ?_
      by_cases c24 : x34 = true
      ·rw [if_pos c24] at ho2
       refine W.condT rfl c24 ?_
       refine W.seq ?_
       refine W.region ?_
       refine RL.opD (by decide) (opv_assign rfl rfl) ?_
       refine RL.nil ?_
       refine thnN ?_
       refine W.ret ?_
       refine blkR ?_
       refine thnR ?_
       have eo2 := Option.some.inj ho2
       subst eo2
       have ey3 := hy2 _ rfl
       subst ey3
       try dsimp only at hp
       refine rndR ?_
       refine blkR ?_
       refine onlyR ?_
       refine thnR ?_
       have er := Option.some.inj hp
       subst er
       exact Rt.one rfl rfl ⟨rfl, X_14, (Sep.nil _ _ _)⟩
      ·rw [if_neg c24] at ho2
       have c24 := eq_false_of_ne_true c24
       refine W.condF rfl c24 ?_
       refine W.skip ?_
       refine blkN ?_
       refine thnN ?_
       refine W.region ?_
       refine RL.opD (by decide) (opv_move rfl rfl) ?_
       refine RL.opD (by decide) (opv_add rfl rfl rfl) ?_
       refine RL.opD (by decide) (opv_assign rfl rfl) ?_
       refine RL.nil ?_
       have eo2 := Option.some.inj ho2
       subst eo2
       refine rndN (s' := (x19, IntKind.wrap .i64 (x20 + 1))) rfl ?_
       exact ⟨⟨rfl, rfl, rfl, rfl, rfl, rfl, rfl, rfl, rfl, rfl, rfl, rfl, rfl, rfl, rfl, rfl, rfl, rfl, rfl, rfl, rfl, rfl, rfl, trivial⟩, rfl⟩
    ·rw [if_neg c12] at ho2
     have c12 := eq_false_of_ne_true c12
     refine W.condF rfl c12 ?_
     refine W.exit ?_
     refine thnX ?_
     refine rndX ?_
     refine blkI ?_
     have eo2 := Option.some.inj ho2
     subst eo2
     have ey3 := hy2 _ rfl
     subst ey3
     refine onlyN ?_
     exact ⟨x19, x20, decide (x20 < (IntKind.wrap .i64 (1 + x2))), rfl, ⟨rfl, rfl, rfl, rfl, rfl, rfl, rfl, rfl, rfl, rfl, rfl, rfl, rfl, rfl, rfl, rfl, rfl, rfl, rfl, rfl, rfl, rfl, rfl, rfl, trivial⟩, rfl⟩
   rintro φ' _ ⟨x21, x22, x23, rfl, hs5, rfl⟩
   try dsimp only at hp
   refine thnN ?_
   refine W.sub hs5 ?_
   refine W.seq ?_
   refine W.region ?_
   refine RL.opD (by decide) (opv_assign rfl rfl) ?_
   refine RL.nil ?_
   refine thnN ?_
   refine W.ret ?_
   have er := Option.some.inj hp
   subst er
   exact Rt.one rfl rfl ⟨rfl, X_14, (Sep.nil _ _ _)⟩

end Go.H
