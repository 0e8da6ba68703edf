/- Functions of the program: what each computes, as a plain function, and that the call comes to it. Written by a program (wip/gen). -/
import Derived.Test.YtohfgnjmgipehaaPGrid
import Derived.Test.YtohfgnjmgipehaaPPhasor
import Derived.Test.YtohfgnjmgipehaaBase18
import Derived.Test.YtohfgnjmgipehaaProg
import Derived.KernelRfl
set_option linter.unusedVariables false
namespace Go.H
open Go Go.Proofs



noncomputable def spec_l01Scale (a0 : (Option Nat × Option Nat)) (a1 : Option Nat) : Option (Option Nat × Option Nat) :=
  some (fop .mul .f32 a0.1 a1, fop .mul .f32 a0.2 a1)

noncomputable def spec_l06Term (a0 : Option Nat) (a1 : Int) (a2 : Option Nat) : Option (Option Nat × Option Nat) :=
  ((spec_l01Phasor (fneg .f64 (fop .mul .f64 (fofi .f64 a1) (wid a2)))).bind fun (x1 : (Option Nat × Option Nat)) => ((spec_l01Scale x1 a0).bind fun (x2 : (Option Nat × Option Nat)) => some x2))

noncomputable def spec_BinOf.s0 (a0 : List (Option Nat)) (a1 : Option Nat) (x4 : (Option Nat × Option Nat)) (x5 : Int) : Option (((Option Nat × Option Nat) × Int) ⊕ ((Option Nat × Option Nat) × Int × Bool)) :=
  (if (decide (x5 < (a0.length : Int))) = true then ((idx a0 x5).bind fun (x9 : Option Nat) => ((spec_l06Term x9 x5 a1).bind fun (x10 : (Option Nat × Option Nat)) => some (.inl (cop .add .f32 x4 x10, IntKind.wrap .i64 (x5 + 1))))) else some (.inr (x4, x5, decide (x5 < (a0.length : Int)))))

noncomputable def spec_BinOf (a0 : List (Option Nat)) (a1 : Option Nat) : Option ((Option Nat × Option Nat) × Bool) :=
  ((((spec_l06Is a0).bind fun (x2 : Bool) => (if (!x2) = true then some true else ((spec_l01Finite a1).bind fun (x3 : Bool) => some (!x3)))) : Option Bool).bind fun (x1 : Bool) => (if x1 = true then some ((some 0, some 0), false) else ((loopF (fun (s : ((Option Nat × Option Nat) × Int)) => spec_BinOf.s0 a0 a1 s.1 s.2) ((some 0, some 0), 0)).bind fun (⟨x6, x7, x8⟩ : ((Option Nat × Option Nat) × Int × Bool)) => some (x6, true))))

noncomputable def impl_add (a0 : (Option Nat × Option Nat)) (a1 : (Option Nat × Option Nat)) : Option (Option Nat × Option Nat) :=
  some (fop .add .f32 a0.1 a1.1, fop .add .f32 a0.2 a1.2)

noncomputable def impl_ScaleComplex (a0 : (Option Nat × Option Nat)) (a1 : Option Nat) : Option (Option Nat × Option Nat) :=
  some (fop .mul .f32 a0.1 a1, fop .mul .f32 a0.2 a1)

noncomputable def impl_term (a0 : Option Nat) (a1 : Int) (a2 : Option Nat) : Option (Option Nat × Option Nat) :=
  ((impl_PhasorOf (fneg .f64 (fop .mul .f64 (fofi .f64 a1) (wid a2)))).bind fun (x1 : (Option Nat × Option Nat)) => ((impl_ScaleComplex x1 a0).bind fun (x2 : (Option Nat × Option Nat)) => some x2))

noncomputable def impl_BinOf.s0 (a0 : List (Option Nat)) (a1 : Option Nat) (x4 : (Option Nat × Option Nat)) (x5 : Int) : Option (((Option Nat × Option Nat) × Int) ⊕ ((Option Nat × Option Nat) × Int × Bool)) :=
  (if (decide (x5 < (a0.length : Int))) = true then ((idx a0 x5).bind fun (x9 : Option Nat) => ((impl_term x9 x5 a1).bind fun (x10 : (Option Nat × Option Nat)) => ((impl_add x4 x10).bind fun (x11 : (Option Nat × Option Nat)) => some (.inl (x11, IntKind.wrap .i64 (x5 + 1)))))) else some (.inr (x4, x5, decide (x5 < (a0.length : Int)))))

noncomputable def impl_BinOf (a0 : List (Option Nat)) (a1 : Option Nat) : Option ((Option Nat × Option Nat) × Bool) :=
  ((((impl_isRecord_float32 a0).bind fun (x2 : Bool) => (if (!x2) = true then some true else ((impl_IsFinite a1).bind fun (x3 : Bool) => some (!x3)))) : Option Bool).bind fun (x1 : Bool) => (if x1 = true then some ((some 0, some 0), false) else ((loopF (fun (s : ((Option Nat × Option Nat) × Int)) => impl_BinOf.s0 a0 a1 s.1 s.2) ((some 0, some 0), 0)).bind fun (⟨x6, x7, x8⟩ : ((Option Nat × Option Nat) × Int × Bool)) => some (x6, true))))

noncomputable def laws_FnExactBinOf (a0 : List (Option Nat)) (a1 : Option Nat) : Option Bool :=
  (if (decide ((a0.length : Int) > 1048576)) = true then some true else ((laws_toFloat32S a0).bind fun (x1 : List (Option Nat)) => ((spec_BinOf x1 a1).bind fun (x2 : ((Option Nat × Option Nat) × Bool)) => ((laws_toFloat32S a0).bind fun (x3 : List (Option Nat)) => ((impl_BinOf x3 a1).bind fun (x4 : ((Option Nat × Option Nat) × Bool)) => ((((laws_sameComplex (cwid x4.1) (cwid x2.1)).bind fun (x6 : Bool) => (if (!x6) = true then some true else some (x4.2 != x2.2))) : Option Bool).bind fun (x5 : Bool) => (if x5 = true then some false else ((laws_toFloat32S a0).bind fun (x7 : List (Option Nat)) => ((laws_eqFloat32S x3 x7).bind fun (x8 : Bool) => (if (!x8) = true then some false else some true))))))))))

set_option maxRecDepth 20000 in
theorem spec_l01Scale_ok (h0 : Heap) (u0 : Value) (a0 : (Option Nat × Option Nat)) (g0 : IsC .f32 u0 a0) (u1 : Value) (a1 : Option Nat) (g1 : IsF .f32 u1 a1) (r : (Option Nat × Option Nat)) (hp : spec_l01Scale a0 a1 = some r) : CallsH Try.prog 140 ([u0, u1].toArray ++ [].toArray) h0 (fun v h' => IsC .f32 v r ∧ h0 = h') := by
  unfold spec_l01Scale at hp
  refine callsH_of_W (l := [u0, u1]) (cap := []) 14 Try.func140 rfl rfl rfl ?_
  refine W.seq ?_
  refine W.region ?_
  refine RL.opD (by decide) (opv_assign rfl rfl) ?_
  refine RL.nil ?_
  refine thnN ?_
  refine W.seq ?_
  refine W.region ?_
  refine RL.opD (by decide) (opv_move rfl rfl) ?_
  refine RL.opF (by decide) (opv_real rfl rfl g0) ?_
  intro v1 fv1
  refine RL.opD (by decide) (opv_move rfl rfl) ?_
  refine RL.opF (by decide) (opv_fop rfl rfl rfl rfl fv1 g1) ?_
  intro v2 fv2
  refine RL.opD (by decide) (opv_move rfl rfl) ?_
  refine RL.opF (by decide) (opv_imag rfl rfl g0) ?_
  intro v3 fv3
  refine RL.opD (by decide) (opv_move rfl rfl) ?_
  refine RL.opF (by decide) (opv_fop rfl rfl rfl rfl fv3 g1) ?_
  intro v4 fv4
  refine RL.op _ (by decide) (opv_complex rfl rfl rfl fv2 fv4) ?_
  rintro v5 _ ⟨fv5, rfl⟩
  refine RL.opD (by decide) (opv_assign rfl rfl) ?_
  refine RL.nil ?_
  refine thnN ?_
  refine W.ret ?_
  have er := Option.some.inj hp
  subst er
  exact Rt.one rfl rfl ⟨fv5, rfl⟩

set_option maxRecDepth 20000 in
theorem spec_l06Term_ok (h0 : Heap) (u0 : Value) (a0 : Option Nat) (g0 : IsF .f32 u0 a0) (a1 : Int) (u2 : Value) (a2 : Option Nat) (g2 : IsF .f32 u2 a2) (r : (Option Nat × Option Nat)) (hp : spec_l06Term a0 a1 a2 = some r) : CallsH Try.prog 85 ([u0, (.int .i64 a1), u2].toArray ++ [].toArray) h0 (fun v h' => IsC .f32 v r ∧ h0 = h') := by
  unfold spec_l06Term at hp
  refine callsH_of_W (l := [u0, (.int .i64 a1), u2]) (cap := []) 16 Try.func85 rfl rfl rfl ?_
  refine W.seq ?_
  refine W.region ?_
  refine RL.opD (by decide) (opv_assign rfl rfl) ?_
  refine RL.nil ?_
  refine thnN ?_
  refine W.seq ?_
  obtain ⟨x1, hx1, hp⟩ := Option.bind_eq_some_iff.1 hp
  obtain ⟨x2, hx2, hp⟩ := Option.bind_eq_some_iff.1 hp
  refine W.region ?_
  refine RL.opD (by decide) (opv_move rfl rfl) ?_
  refine RL.opF (by decide) (opv_i2f rfl (by rw [Try.underlying2]; rfl) Try.underlying56 rfl) ?_
  intro v1 fv1
  refine RL.opD (by decide) (opv_move rfl rfl) ?_
  refine RL.opF (by decide) (opv_widen rfl (by rw [Try.underlying40]; rfl) Try.underlying56 rfl g2) ?_
  intro v2 fv2
  refine RL.opF (by decide) (opv_fop rfl rfl rfl rfl fv1 fv2) ?_
  intro v3 fv3
  refine RL.opF (by decide) (opv_fneg rfl rfl fv3) ?_
  intro v4 fv4
  refine RL.op _ (by decide) (opv_call (cap := []) (spec_l01Phasor_ok _ _ _ fv4 _ hx1) rfl rfl ⟨rfl, trivial⟩ Try.func141 rfl rfl) ?_
  rintro v5 _ ⟨fv5, rfl⟩
  refine RL.opD (by decide) (opv_move rfl rfl) ?_
  refine RL.op _ (by decide) (opv_call (cap := []) (spec_l01Scale_ok _ _ _ fv5 _ _ g0 _ hx2) rfl rfl ⟨rfl, rfl, trivial⟩ Try.func140 rfl rfl) ?_
  rintro v6 _ ⟨fv6, rfl⟩
  refine RL.opD (by decide) (opv_assign rfl rfl) ?_
  refine RL.nil ?_
  refine thnN ?_
  refine W.ret ?_
  have er := Option.some.inj hp
  subst er
  exact Rt.one rfl rfl ⟨fv6, rfl⟩

set_option maxRecDepth 20000 in
theorem spec_BinOf_ok (h0 : Heap) (u0 : Value) (a0 : List (Option Nat)) (g0 : SL (kF .f32) h0.size h0 u0 a0) (u1 : Value) (a1 : Option Nat) (g1 : IsF .f32 u1 a1) (r : ((Option Nat × Option Nat) × Bool)) (hp : spec_BinOf a0 a1 = some r) : CallsH Try.prog 29 ([u0, u1].toArray ++ [].toArray) h0 (fun v h' => ∃ w0, v = (.tuple (List.toArray (α := Value) [w0, (.bool r.2)])) ∧ IsC .f32 w0 r.1 ∧ h0 = h') := by
  unfold spec_BinOf at hp
  refine callsH_of_W (l := [u0, u1]) (cap := []) 32 Try.func29 rfl rfl rfl ?_
  refine W.seq ?_
  refine W.region ?_
  refine RL.opD (by decide) (opv_assign rfl rfl) ?_
  refine RL.opD (by decide) (opv_assign rfl rfl) ?_
  refine RL.nil ?_
  refine thnN ?_
  refine W.seq ?_
  refine W.seq ?_
  obtain ⟨x1, hy1, hp⟩ := Option.bind_eq_some_iff.1 hp
  refine W.cut (fun φ' h' => Fr.sub [(0, u0), (1, u1), (4, (.complex .f32 0 0)), (5, (.bool false)), (15, (.bool x1))] φ' ∧ h0 = h') ?_ ?_
  · obtain ⟨x2, hx2, hy1⟩ := Option.bind_eq_some_iff.1 hy1
    by_cases c1 : (!x2) = true
    · rw [if_pos c1] at hy1
      refine W.region ?_
      refine RL.opD (by decide) (opv_move rfl rfl) ?_
      refine RL.op _ (by decide) (opv_call (cap := []) (spec_l06Is_ok _ _ _ g0 _ hx2) rfl rfl ⟨rfl, trivial⟩ Try.func83 rfl rfl) ?_
      rintro _ _ ⟨rfl, rfl⟩
      refine RL.opD (by decide) (opv_not rfl rfl) ?_
      refine RL.opD (by decide) (opv_move rfl rfl) ?_
      refine RL.no rfl rfl (Eq.trans c1 (by decide)) (by decide) ?_
      refine RL.no rfl rfl (Eq.trans c1 (by decide)) (by decide) ?_
      refine RL.no rfl rfl (Eq.trans c1 (by decide)) (by decide) ?_
      refine RL.opD (by decide) (opv_pick rfl rfl (fun _ => rfl) (fun e => absurd (Eq.trans (Eq.symm e) c1) (by decide)) rfl) ?_
      refine RL.nil ?_
      have ey1 := Option.some.inj hy1
      subst ey1
      refine onlyN ?_
      exact ⟨⟨rfl, rfl, rfl, rfl, rfl, trivial⟩, rfl⟩
    · rw [if_neg c1] at hy1
      have c1 := eq_false_of_ne_true c1
      obtain ⟨x3, hx3, hy1⟩ := Option.bind_eq_some_iff.1 hy1
      refine W.region ?_
      refine RL.opD (by decide) (opv_move rfl rfl) ?_
      refine RL.op _ (by decide) (opv_call (cap := []) (spec_l06Is_ok _ _ _ g0 _ hx2) rfl rfl ⟨rfl, trivial⟩ Try.func83 rfl rfl) ?_
      rintro _ _ ⟨rfl, rfl⟩
      refine RL.opD (by decide) (opv_not rfl rfl) ?_
      refine RL.opD (by decide) (opv_move rfl rfl) ?_
      refine RL.yes _ rfl rfl c1 (by decide) (opv_move rfl rfl) ?_
      rintro _ _ ⟨rfl, rfl⟩
      refine RL.yes _ rfl rfl c1 (by decide) (opv_call (cap := []) (spec_l01Finite_ok _ _ _ g1 _ hx3) rfl rfl ⟨rfl, trivial⟩ Try.func84 rfl rfl) ?_
      rintro _ _ ⟨rfl, rfl⟩
      refine RL.yes _ rfl rfl c1 (by decide) (opv_not rfl rfl) ?_
      rintro _ _ ⟨rfl, rfl⟩
      refine RL.opD (by decide) (opv_pick rfl rfl (fun e => absurd (Eq.trans (Eq.symm e) c1) (by decide)) (fun _ => rfl) rfl) ?_
      refine RL.nil ?_
      have ey1 := Option.some.inj hy1
      subst ey1
      refine onlyN ?_
      exact ⟨⟨rfl, rfl, rfl, rfl, rfl, trivial⟩, rfl⟩
  rintro φ' _ ⟨hs1, rfl⟩
  refine thnN ?_
  refine W.sub hs1 ?_
  by_cases c2 : x1 = true
  · rw [if_pos c2] at hp
    refine W.condT rfl c2 ?_
    refine W.seq ?_
    refine W.region ?_
    refine RL.opD (by decide) (opv_assign rfl rfl) ?_
    refine RL.opD (by decide) (opv_assign rfl rfl) ?_
    refine RL.nil ?_
    refine thnN ?_
    refine W.ret ?_
    refine thnR ?_
    have er := Option.some.inj hp
    subst er
    exact Rt.two rfl rfl rfl ⟨(.complex .f32 0 0), rfl, (isC_lit .f32 0 0 (by decide) (by decide) (by decide) (by decide)), rfl⟩
  · rw [if_neg c2] at hp
    have c2 := eq_false_of_ne_true c2
    refine W.condF rfl c2 ?_
    refine W.skip ?_
    refine thnN ?_
    refine W.seq ?_
    refine W.region ?_
    refine RL.opD (by decide) (opv_assign rfl rfl) ?_
    refine RL.nil ?_
    refine thnN ?_
    refine W.seq ?_
    refine W.seq ?_
    refine W.region ?_
    refine RL.opD (by decide) (opv_assign rfl rfl) ?_
    refine RL.nil ?_
    refine thnN ?_
    obtain ⟨y2, hy2, hp⟩ := Option.bind_eq_some_iff.1 hp
    refine W.cut (fun φ' h' => ∃ x6, ∃ x7, ∃ x8, ∃ v2, y2 = (x6, x7, x8) ∧ Fr.sub [(0, u0), (1, u1), (4, (.complex .f32 0 0)), (5, (.bool false)), (15, (.bool x1)), (6, v2), (7, (.int .i64 x7)), (19, (.bool x8))] φ' ∧ IsC .f32 v2 x6 ∧ h0 = h') ?_ ?_
    · refine W.block ?_
      refine W.loopS (fun (s : ((Option Nat × Option Nat) × Int)) φ' h' => ∃ v1, Fr.sub [(0, u0), (1, u1), (4, (.complex .f32 0 0)), (5, (.bool false)), (15, (.bool x1)), (6, v1), (7, (.int .i64 s.2))] φ' ∧ IsC .f32 v1 s.1 ∧ h0 = h') hy2 ⟨(.complex .f32 0 0), ⟨rfl, rfl, rfl, rfl, rfl, rfl, rfl, trivial⟩, (isC_lit .f32 0 0 (by decide) (by decide) (by decide) (by decide)), rfl⟩ ?_
      rintro ⟨x4, x5⟩ φ' _ o1 ⟨v1, hs2, fv1, rfl⟩ ho1 hy1
      have hs2 : Fr.sub [(0, u0), (1, u1), (4, (.complex .f32 0 0)), (5, (.bool false)), (15, (.bool x1)), (6, v1), (7, (.int .i64 x5))] φ' := hs2
      have fv1 : IsC .f32 v1 x4 := fv1
      have ho1 : spec_BinOf.s0 a0 a1 x4 x5 = some o1 := ho1
      unfold spec_BinOf.s0 at ho1
      refine W.sub hs2 ?_
      refine W.seq ?_
      refine W.seq ?_
      refine W.region ?_
      refine RL.opD (by decide) (opv_move rfl rfl) ?_
      refine RL.opD (by decide) (opv_move rfl rfl) ?_
      refine RL.opD (by decide) (opv_len rfl Try.underlying22 rfl g0) ?_
      refine RL.opD (by decide) (opv_icmp rfl rfl rfl rfl) ?_
      refine RL.nil ?_
      refine thnN ?_
      by_cases c3 : (decide (x5 < (a0.length : Int))) = true
      · rw [if_pos c3] at ho1
        refine W.condT rfl c3 ?_
        refine W.skip ?_
        refine thnN ?_
        refine W.seq ?_
        refine W.block ?_
        obtain ⟨x9, hx9, ho1⟩ := Option.bind_eq_some_iff.1 ho1
        obtain ⟨x10, hx10, ho1⟩ := Option.bind_eq_some_iff.1 ho1
        refine W.region ?_
        refine RL.opD (by decide) (opv_move rfl rfl) ?_
        refine RL.opD (by decide) (opv_move rfl rfl) ?_
        refine RL.opD (by decide) (opv_move rfl rfl) ?_
        refine RL.op _ (by decide) (opv_index rfl Try.underlying22 (by rw [Try.size40]; rfl) rfl rfl g0 hx9) ?_
        rintro v3 _ ⟨fv3, rfl⟩
        refine RL.opF (by decide) (opv_loadF rfl Try.one40 rfl fv3 g0 hx9) ?_
        intro v4 fv4
        refine RL.opD (by decide) (opv_move rfl rfl) ?_
        refine RL.opD (by decide) (opv_move rfl rfl) ?_
        refine RL.op _ (by decide) (opv_call (cap := []) (spec_l06Term_ok _ _ _ fv4 _ _ _ g1 _ hx10) rfl rfl ⟨rfl, rfl, rfl, trivial⟩ Try.func85 rfl rfl) ?_
        rintro v5 _ ⟨fv5, rfl⟩
        refine RL.op _ (by decide) (opv_cop rfl rfl rfl rfl fv1 fv5) ?_
        rintro v6 _ ⟨fv6, rfl⟩
        refine RL.opD (by decide) (opv_assign rfl rfl) ?_
        refine RL.nil ?_
        refine blkN ?_
        refine thnN ?_
        refine W.region ?_
        refine RL.opD (by decide) (opv_move rfl rfl) ?_
        refine RL.opD (by decide) (opv_add rfl rfl rfl) ?_
        refine RL.opD (by decide) (opv_assign rfl rfl) ?_
        refine RL.nil ?_
        have eo1 := Option.some.inj ho1
        subst eo1
        refine rndN (s' := (cop .add .f32 x4 x10, IntKind.wrap .i64 (x5 + 1))) rfl ?_
        exact ⟨v6, ⟨rfl, rfl, rfl, rfl, rfl, rfl, rfl, trivial⟩, fv6, rfl⟩
      · rw [if_neg c3] at ho1
        have c3 := eq_false_of_ne_true c3
        refine W.condF rfl c3 ?_
        refine W.exit ?_
        refine thnX ?_
        refine rndX ?_
        refine blkI ?_
        have eo1 := Option.some.inj ho1
        subst eo1
        have ey2 := hy1 _ rfl
        subst ey2
        refine onlyN ?_
        exact ⟨x4, x5, decide (x5 < (a0.length : Int)), v1, rfl, ⟨rfl, rfl, rfl, rfl, rfl, rfl, rfl, rfl, trivial⟩, fv1, rfl⟩
    rintro φ' _ ⟨x6, x7, x8, v2, rfl, hs3, fv2, rfl⟩
    try dsimp only at hp
    refine thnN ?_
    refine W.sub hs3 ?_
    refine W.seq ?_
    refine W.region ?_
    refine RL.opD (by decide) (opv_move rfl rfl) ?_
    refine RL.opD (by decide) (opv_assign rfl rfl) ?_
    refine RL.opD (by decide) (opv_assign rfl rfl) ?_
    refine RL.nil ?_
    refine thnN ?_
    refine W.ret ?_
    have er := Option.some.inj hp
    subst er
    exact Rt.two rfl rfl rfl ⟨v2, rfl, fv2, rfl⟩

set_option maxRecDepth 20000 in
theorem impl_add_ok (h0 : Heap) (u0 : Value) (a0 : (Option Nat × Option Nat)) (g0 : IsC .f32 u0 a0) (u1 : Value) (a1 : (Option Nat × Option Nat)) (g1 : IsC .f32 u1 a1) (r : (Option Nat × Option Nat)) (hp : impl_add a0 a1 = some r) : CallsH Try.prog 88 ([u0, u1].toArray ++ [].toArray) h0 (fun v h' => IsC .f32 v r ∧ h0 = h') := by
  unfold impl_add at hp
  refine callsH_of_W (l := [u0, u1]) (cap := []) 16 Try.func88 rfl rfl rfl ?_
  refine W.seq ?_
  refine W.region ?_
  refine RL.opD (by decide) (opv_assign rfl rfl) ?_
  refine RL.nil ?_
  refine thnN ?_
  refine W.seq ?_
  refine W.region ?_
  refine RL.opD (by decide) (opv_move rfl rfl) ?_
  refine RL.opF (by decide) (opv_real rfl rfl g0) ?_
  intro v1 fv1
  refine RL.opD (by decide) (opv_move rfl rfl) ?_
  refine RL.opF (by decide) (opv_real rfl rfl g1) ?_
  intro v2 fv2
  refine RL.opF (by decide) (opv_fop rfl rfl rfl rfl fv1 fv2) ?_
  intro v3 fv3
  refine RL.opD (by decide) (opv_move rfl rfl) ?_
  refine RL.opF (by decide) (opv_imag rfl rfl g0) ?_
  intro v4 fv4
  refine RL.opD (by decide) (opv_move rfl rfl) ?_
  refine RL.opF (by decide) (opv_imag rfl rfl g1) ?_
  intro v5 fv5
  refine RL.opF (by decide) (opv_fop rfl rfl rfl rfl fv4 fv5) ?_
  intro v6 fv6
  refine RL.op _ (by decide) (opv_complex rfl rfl rfl fv3 fv6) ?_
  rintro v7 _ ⟨fv7, rfl⟩
  refine RL.opD (by decide) (opv_assign rfl rfl) ?_
  refine RL.nil ?_
  refine thnN ?_
  refine W.ret ?_
  have er := Option.some.inj hp
  subst er
  exact Rt.one rfl rfl ⟨fv7, rfl⟩

set_option maxRecDepth 20000 in
theorem impl_ScaleComplex_ok (h0 : Heap) (u0 : Value) (a0 : (Option Nat × Option Nat)) (g0 : IsC .f32 u0 a0) (u1 : Value) (a1 : Option Nat) (g1 : IsF .f32 u1 a1) (r : (Option Nat × Option Nat)) (hp : impl_ScaleComplex a0 a1 = some r) : CallsH Try.prog 142 ([u0, u1].toArray ++ [].toArray) h0 (fun v h' => IsC .f32 v r ∧ h0 = h') := by
  unfold impl_ScaleComplex at hp
  refine callsH_of_W (l := [u0, u1]) (cap := []) 14 Try.func142 rfl rfl rfl ?_
  refine W.seq ?_
  refine W.region ?_
  refine RL.opD (by decide) (opv_assign rfl rfl) ?_
  refine RL.nil ?_
  refine thnN ?_
  refine W.seq ?_
  refine W.region ?_
  refine RL.opD (by decide) (opv_move rfl rfl) ?_
  refine RL.opF (by decide) (opv_real rfl rfl g0) ?_
  intro v1 fv1
  refine RL.opD (by decide) (opv_move rfl rfl) ?_
  refine RL.opF (by decide) (opv_fop rfl rfl rfl rfl fv1 g1) ?_
  intro v2 fv2
  refine RL.opD (by decide) (opv_move rfl rfl) ?_
  refine RL.opF (by decide) (opv_imag rfl rfl g0) ?_
  intro v3 fv3
  refine RL.opD (by decide) (opv_move rfl rfl) ?_
  refine RL.opF (by decide) (opv_fop rfl rfl rfl rfl fv3 g1) ?_
  intro v4 fv4
  refine RL.op _ (by decide) (opv_complex rfl rfl rfl fv2 fv4) ?_
  rintro v5 _ ⟨fv5, rfl⟩
  refine RL.opD (by decide) (opv_assign rfl rfl) ?_
  refine RL.nil ?_
  refine thnN ?_
  refine W.ret ?_
  have er := Option.some.inj hp
  subst er
  exact Rt.one rfl rfl ⟨fv5, rfl⟩

set_option maxRecDepth 20000 in
theorem impl_term_ok (h0 : Heap) (u0 : Value) (a0 : Option Nat) (g0 : IsF .f32 u0 a0) (a1 : Int) (u2 : Value) (a2 : Option Nat) (g2 : IsF .f32 u2 a2) (r : (Option Nat × Option Nat)) (hp : impl_term a0 a1 a2 = some r) : CallsH Try.prog 89 ([u0, (.int .i64 a1), u2].toArray ++ [].toArray) h0 (fun v h' => IsC .f32 v r ∧ h0 = h') := by
  unfold impl_term at hp
  refine callsH_of_W (l := [u0, (.int .i64 a1), u2]) (cap := []) 16 Try.func89 rfl rfl rfl ?_
  refine W.seq ?_
  refine W.region ?_
  refine RL.opD (by decide) (opv_assign rfl rfl) ?_
  refine RL.nil ?_
  refine thnN ?_
  refine W.seq ?_
  obtain ⟨x1, hx1, hp⟩ := Option.bind_eq_some_iff.1 hp
  obtain ⟨x2, hx2, hp⟩ := Option.bind_eq_some_iff.1 hp
  refine W.region ?_
  refine RL.opD (by decide) (opv_move rfl rfl) ?_
  refine RL.opF (by decide) (opv_i2f rfl (by rw [Try.underlying2]; rfl) Try.underlying56 rfl) ?_
  intro v1 fv1
  refine RL.opD (by decide) (opv_move rfl rfl) ?_
  refine RL.opF (by decide) (opv_widen rfl (by rw [Try.underlying40]; rfl) Try.underlying56 rfl g2) ?_
  intro v2 fv2
  refine RL.opF (by decide) (opv_fop rfl rfl rfl rfl fv1 fv2) ?_
  intro v3 fv3
  refine RL.opF (by decide) (opv_fneg rfl rfl fv3) ?_
  intro v4 fv4
  refine RL.op _ (by decide) (opv_call (cap := []) (impl_PhasorOf_ok _ _ _ fv4 _ hx1) rfl rfl ⟨rfl, trivial⟩ Try.func143 rfl rfl) ?_
  rintro v5 _ ⟨fv5, rfl⟩
  refine RL.opD (by decide) (opv_move rfl rfl) ?_
  refine RL.op _ (by decide) (opv_call (cap := []) (impl_ScaleComplex_ok _ _ _ fv5 _ _ g0 _ hx2) rfl rfl ⟨rfl, rfl, trivial⟩ Try.func142 rfl rfl) ?_
  rintro v6 _ ⟨fv6, rfl⟩
  refine RL.opD (by decide) (opv_assign rfl rfl) ?_
  refine RL.nil ?_
  refine thnN ?_
  refine W.ret ?_
  have er := Option.some.inj hp
  subst er
  exact Rt.one rfl rfl ⟨fv6, rfl⟩

set_option maxRecDepth 20000 in
theorem impl_BinOf_ok (h0 : Heap) (u0 : Value) (a0 : List (Option Nat)) (g0 : SL (kF .f32) h0.size h0 u0 a0) (u1 : Value) (a1 : Option Nat) (g1 : IsF .f32 u1 a1) (r : ((Option Nat × Option Nat) × Bool)) (hp : impl_BinOf a0 a1 = some r) : CallsH Try.prog 31 ([u0, u1].toArray ++ [].toArray) h0 (fun v h' => ∃ w0, v = (.tuple (List.toArray (α := Value) [w0, (.bool r.2)])) ∧ IsC .f32 w0 r.1 ∧ h0 = h') := by
  unfold impl_BinOf at hp
  refine callsH_of_W (l := [u0, u1]) (cap := []) 32 Try.func31 rfl rfl rfl ?_
  refine W.seq ?_
  refine W.region ?_
  refine RL.opD (by decide) (opv_assign rfl rfl) ?_
  refine RL.opD (by decide) (opv_assign rfl rfl) ?_
  refine RL.nil ?_
  refine thnN ?_
  refine W.seq ?_
  refine W.seq ?_
  obtain ⟨x1, hy1, hp⟩ := Option.bind_eq_some_iff.1 hp
  refine W.cut (fun φ' h' => Fr.sub [(0, u0), (1, u1), (4, (.complex .f32 0 0)), (5, (.bool false)), (16, (.bool x1))] φ' ∧ h0 = h') ?_ ?_
  · obtain ⟨x2, hx2, hy1⟩ := Option.bind_eq_some_iff.1 hy1
    by_cases c1 : (!x2) = true
    · rw [if_pos c1] at hy1
      refine W.region ?_
      refine RL.opD (by decide) (opv_move rfl rfl) ?_
      refine RL.op _ (by decide) (opv_call (cap := []) (impl_isRecord_float32_ok _ _ _ g0 _ hx2) rfl rfl ⟨rfl, trivial⟩ Try.func86 rfl rfl) ?_
      rintro _ _ ⟨rfl, rfl⟩
      refine RL.opD (by decide) (opv_not rfl rfl) ?_
      refine RL.opD (by decide) (opv_move rfl rfl) ?_
      refine RL.no rfl rfl (Eq.trans c1 (by decide)) (by decide) ?_
      refine RL.no rfl rfl (Eq.trans c1 (by decide)) (by decide) ?_
      refine RL.no rfl rfl (Eq.trans c1 (by decide)) (by decide) ?_
      refine RL.opD (by decide) (opv_pick rfl rfl (fun _ => rfl) (fun e => absurd (Eq.trans (Eq.symm e) c1) (by decide)) rfl) ?_
      refine RL.nil ?_
      have ey1 := Option.some.inj hy1
      subst ey1
      refine onlyN ?_
      exact ⟨⟨rfl, rfl, rfl, rfl, rfl, trivial⟩, rfl⟩
    · rw [if_neg c1] at hy1
      have c1 := eq_false_of_ne_true c1
      obtain ⟨x3, hx3, hy1⟩ := Option.bind_eq_some_iff.1 hy1
      refine W.region ?_
      refine RL.opD (by decide) (opv_move rfl rfl) ?_
      refine RL.op _ (by decide) (opv_call (cap := []) (impl_isRecord_float32_ok _ _ _ g0 _ hx2) rfl rfl ⟨rfl, trivial⟩ Try.func86 rfl rfl) ?_
      rintro _ _ ⟨rfl, rfl⟩
      refine RL.opD (by decide) (opv_not rfl rfl) ?_
      refine RL.opD (by decide) (opv_move rfl rfl) ?_
      refine RL.yes _ rfl rfl c1 (by decide) (opv_move rfl rfl) ?_
      rintro _ _ ⟨rfl, rfl⟩
      refine RL.yes _ rfl rfl c1 (by decide) (opv_call (cap := []) (impl_IsFinite_ok _ _ _ g1 _ hx3) rfl rfl ⟨rfl, trivial⟩ Try.func87 rfl rfl) ?_
      rintro _ _ ⟨rfl, rfl⟩
      refine RL.yes _ rfl rfl c1 (by decide) (opv_not rfl rfl) ?_
      rintro _ _ ⟨rfl, rfl⟩
      refine RL.opD (by decide) (opv_pick rfl rfl (fun e => absurd (Eq.trans (Eq.symm e) c1) (by decide)) (fun _ => rfl) rfl) ?_
      refine RL.nil ?_
      have ey1 := Option.some.inj hy1
      subst ey1
      refine onlyN ?_
      exact ⟨⟨rfl, rfl, rfl, rfl, rfl, trivial⟩, rfl⟩
  rintro φ' _ ⟨hs1, rfl⟩
  refine thnN ?_
  refine W.sub hs1 ?_
  by_cases c2 : x1 = true
  · rw [if_pos c2] at hp
    refine W.condT rfl c2 ?_
    refine W.seq ?_
    refine W.region ?_
    refine RL.opD (by decide) (opv_assign rfl rfl) ?_
    refine RL.opD (by decide) (opv_assign rfl rfl) ?_
    refine RL.nil ?_
    refine thnN ?_
    refine W.ret ?_
    refine thnR ?_
    have er := Option.some.inj hp
    subst er
    exact Rt.two rfl rfl rfl ⟨(.complex .f32 0 0), rfl, (isC_lit .f32 0 0 (by decide) (by decide) (by decide) (by decide)), rfl⟩
  · rw [if_neg c2] at hp
    have c2 := eq_false_of_ne_true c2
    refine W.condF rfl c2 ?_
    refine W.skip ?_
    refine thnN ?_
    refine W.seq ?_
    refine W.region ?_
    refine RL.opD (by decide) (opv_assign rfl rfl) ?_
    refine RL.nil ?_
    refine thnN ?_
    refine W.seq ?_
    refine W.seq ?_
    refine W.region ?_
    refine RL.opD (by decide) (opv_move rfl rfl) ?_
    refine RL.opD (by decide) (opv_len rfl Try.underlying22 rfl g0) ?_
    refine RL.opD (by decide) (opv_move rfl rfl) ?_
    refine RL.nil ?_
    refine thnN ?_
    obtain ⟨y2, hy2, hp⟩ := Option.bind_eq_some_iff.1 hp
    refine W.cut (fun φ' h' => ∃ x6, ∃ x7, ∃ x8, ∃ v2, y2 = (x6, x7, x8) ∧ Fr.sub [(0, u0), (1, u1), (4, (.complex .f32 0 0)), (5, (.bool false)), (16, (.bool x1)), (17, u0), (18, (.int .i64 (a0.length : Int))), (6, v2), (19, (.int .i64 x7)), (20, (.bool x8))] φ' ∧ IsC .f32 v2 x6 ∧ h0 = h') ?_ ?_
    · refine W.block ?_
      refine W.loopS (fun (s : ((Option Nat × Option Nat) × Int)) φ' h' => ∃ v1, Fr.sub [(0, u0), (1, u1), (4, (.complex .f32 0 0)), (5, (.bool false)), (16, (.bool x1)), (17, u0), (18, (.int .i64 (a0.length : Int))), (6, v1), (19, (.int .i64 s.2))] φ' ∧ IsC .f32 v1 s.1 ∧ h0 = h') hy2 ⟨(.complex .f32 0 0), ⟨rfl, rfl, rfl, rfl, rfl, rfl, rfl, rfl, rfl, trivial⟩, (isC_lit .f32 0 0 (by decide) (by decide) (by decide) (by decide)), rfl⟩ ?_
      rintro ⟨x4, x5⟩ φ' _ o1 ⟨v1, hs2, fv1, rfl⟩ ho1 hy1
      have hs2 : Fr.sub [(0, u0), (1, u1), (4, (.complex .f32 0 0)), (5, (.bool false)), (16, (.bool x1)), (17, u0), (18, (.int .i64 (a0.length : Int))), (6, v1), (19, (.int .i64 x5))] φ' := hs2
      have fv1 : IsC .f32 v1 x4 := fv1
      have ho1 : impl_BinOf.s0 a0 a1 x4 x5 = some o1 := ho1
      unfold impl_BinOf.s0 at ho1
      refine W.sub hs2 ?_
      refine W.seq ?_
      refine W.region ?_
      refine RL.opD (by decide) (opv_icmp rfl rfl rfl rfl) ?_
      refine RL.nil ?_
      refine thnN ?_
      refine W.seq ?_
      by_cases c3 : (decide (x5 < (a0.length : Int))) = true
      · rw [if_pos c3] at ho1
        refine W.condT rfl c3 ?_
        refine W.skip ?_
        refine thnN ?_
        refine W.seq ?_
        refine W.block ?_
        refine W.seq ?_
        obtain ⟨x9, hx9, ho1⟩ := Option.bind_eq_some_iff.1 ho1
        refine W.region ?_
        refine RL.opD (by decide) (opv_move rfl rfl) ?_
        refine RL.op _ (by decide) (opv_index rfl Try.underlying22 (by rw [Try.size40]; rfl) rfl rfl g0 hx9) ?_
        rintro v3 _ ⟨fv3, rfl⟩
        refine RL.opF (by decide) (opv_loadF rfl Try.one40 rfl fv3 g0 hx9) ?_
        intro v4 fv4
        refine RL.opD (by decide) (opv_assign rfl rfl) ?_
        refine RL.opD (by decide) (opv_assign rfl rfl) ?_
        refine RL.nil ?_
        refine thnN ?_
        obtain ⟨x10, hx10, ho1⟩ := Option.bind_eq_some_iff.1 ho1
        obtain ⟨x11, hx11, ho1⟩ := Option.bind_eq_some_iff.1 ho1
        refine W.region ?_
        refine RL.opD (by decide) (opv_move rfl rfl) ?_
        refine RL.opD (by decide) (opv_move rfl rfl) ?_
        refine RL.opD (by decide) (opv_move rfl rfl) ?_
        refine RL.opD (by decide) (opv_move rfl rfl) ?_
        refine RL.op _ (by decide) (opv_call (cap := []) (impl_term_ok _ _ _ fv4 _ _ _ g1 _ hx10) rfl rfl ⟨rfl, rfl, rfl, trivial⟩ Try.func89 rfl rfl) ?_
        rintro v5 _ ⟨fv5, rfl⟩
        refine RL.op _ (by decide) (opv_call (cap := []) (impl_add_ok _ _ _ fv1 _ _ fv5 _ hx11) rfl rfl ⟨rfl, rfl, trivial⟩ Try.func88 rfl rfl) ?_
        rintro v6 _ ⟨fv6, rfl⟩
        refine RL.opD (by decide) (opv_assign rfl rfl) ?_
        refine RL.nil ?_
        refine blkN ?_
        refine thnN ?_
        refine W.region ?_
        refine RL.opD (by decide) (opv_add rfl rfl rfl) ?_
        refine RL.opD (by decide) (opv_move rfl rfl) ?_
        refine RL.nil ?_
        have eo1 := Option.some.inj ho1
        subst eo1
        refine rndN (s' := (x11, IntKind.wrap .i64 (x5 + 1))) rfl ?_
        exact ⟨v6, ⟨rfl, rfl, rfl, rfl, rfl, rfl, rfl, rfl, rfl, trivial⟩, fv6, rfl⟩
      · rw [if_neg c3] at ho1
        have c3 := eq_false_of_ne_true c3
        refine W.condF rfl c3 ?_
        refine W.exit ?_
        refine thnX ?_
        refine rndX ?_
        refine blkI ?_
        have eo1 := Option.some.inj ho1
        subst eo1
        have ey2 := hy1 _ rfl
        subst ey2
        refine onlyN ?_
        exact ⟨x4, x5, decide (x5 < (a0.length : Int)), v1, rfl, ⟨rfl, rfl, rfl, rfl, rfl, rfl, rfl, rfl, rfl, rfl, trivial⟩, fv1, rfl⟩
    rintro φ' _ ⟨x6, x7, x8, v2, rfl, hs3, fv2, rfl⟩
    try dsimp only at hp
    refine thnN ?_
    refine W.sub hs3 ?_
    refine W.seq ?_
    refine W.region ?_
    refine RL.opD (by decide) (opv_move rfl rfl) ?_
    refine RL.opD (by decide) (opv_assign rfl rfl) ?_
    refine RL.opD (by decide) (opv_assign rfl rfl) ?_
    refine RL.nil ?_
    refine thnN ?_
    refine W.ret ?_
    have er := Option.some.inj hp
    subst er
    exact Rt.two rfl rfl rfl ⟨v2, rfl, fv2, rfl⟩

set_option maxRecDepth 20000 in
theorem laws_FnExactBinOf_ok (h0 : Heap) (u0 : Value) (a0 : List (Option Nat)) (g0 : SL (kF .f32) h0.size h0 u0 a0) (u1 : Value) (a1 : Option Nat) (g1 : IsF .f32 u1 a1) (r : Bool) (hp : laws_FnExactBinOf a0 a1 = some r) : CallsH Try.prog 5 ([u0, u1].toArray ++ [].toArray) h0 (fun v h' => v = (.bool r) ∧ Mod [] h0 h' ∧ Sep [] h0.size h' []) := by
  unfold laws_FnExactBinOf at hp
  refine callsH_of_W (l := [u0, u1]) (cap := []) 44 Try.func5 rfl rfl rfl ?_
  refine W.seq ?_
  refine W.region ?_
  refine RL.opD (by decide) (opv_assign rfl rfl) ?_
  refine RL.nil ?_
  refine thnN ?_
  refine W.seq ?_
  refine W.seq ?_
  refine W.region ?_
  refine RL.opD (by decide) (opv_move rfl rfl) ?_
  refine RL.opD (by decide) (opv_len rfl Try.underlying22 rfl g0) ?_
  refine RL.opD (by decide) (opv_icmp rfl rfl rfl rfl) ?_
  refine RL.nil ?_
  refine thnN ?_
  by_cases c1 : (decide ((a0.length : Int) > 1048576)) = true
  · rw [if_pos c1] at hp
    refine W.condT rfl c1 ?_
    refine W.seq ?_
    refine W.region ?_
    refine RL.opD (by decide) (opv_assign rfl rfl) ?_
    refine RL.nil ?_
    refine thnN ?_
    refine W.ret ?_
    refine thnR ?_
    have er := Option.some.inj hp
    subst er
    exact Rt.one rfl rfl ⟨rfl, (Mod.refl [] h0), (Sep.nil _ _ _)⟩
  · rw [if_neg c1] at hp
    have c1 := eq_false_of_ne_true c1
    refine W.condF rfl c1 ?_
    refine W.skip ?_
    refine thnN ?_
    refine W.seq ?_
    obtain ⟨x1, hx1, hp⟩ := Option.bind_eq_some_iff.1 hp
    obtain ⟨x2, hx2, hp⟩ := Option.bind_eq_some_iff.1 hp
    refine W.region ?_
    refine RL.opD (by decide) (opv_move rfl rfl) ?_
    refine RL.op _ (by decide) (opv_call (cap := []) (laws_toFloat32S_ok _ _ _ g0 _ hx1) rfl rfl ⟨rfl, trivial⟩ Try.func30 rfl rfl) ?_
    rintro v1 hp1 ⟨MT_1, T_1⟩
    have X_1 : Mod [] h0 hp1 := Mod.step (A := []) (L := []) (Mod.refl [] h0) (Sep.nil [] h0.size h0) MT_1
    have S_1 : Sep [] h0.size hp1 [ownO (kF .f32) 40 v1 x1] := Sep.step (A := []) (L := []) (Sep.nil [] h0.size h0) (Mod.size (Mod.refl [] h0)) MT_1 T_1
    refine RL.opD (by decide) (opv_move rfl rfl) ?_
    refine RL.op _ (by decide) (opv_call (cap := []) (spec_BinOf_ok _ _ _ (ownO.read (Sep.at (o := ownO (kF .f32) 40 v1 x1) S_1 0 rfl)) _ _ g1 _ hx2) rfl rfl ⟨rfl, rfl, trivial⟩ Try.func29 rfl rfl) ?_
    rintro _ _ ⟨v2, rfl, fv2, rfl⟩
    refine RL.opD (by decide) (opv_move rfl rfl) ?_
    refine RL.opD (by decide) (opv_extract rfl rfl rfl) ?_
    refine RL.opD (by decide) (opv_extract rfl rfl rfl) ?_
    refine RL.opD (by decide) (opv_assign rfl rfl) ?_
    refine RL.opD (by decide) (opv_assign rfl rfl) ?_
    refine RL.nil ?_
    refine thnN ?_
    refine W.seq ?_
    obtain ⟨x3, hx3, hp⟩ := Option.bind_eq_some_iff.1 hp
    refine W.region ?_
    refine RL.opD (by decide) (opv_move rfl rfl) ?_
    refine RL.op _ (by decide) (opv_call (cap := []) (laws_toFloat32S_ok _ _ _ (SL.up (SL.mod g0 X_1 (Nat.le_refl _) nob) (Nat.le_trans (Nat.le_refl _) (Mod.size X_1))) _ hx3) rfl rfl ⟨rfl, trivial⟩ Try.func30 rfl rfl) ?_
    rintro v3 hp2 ⟨MT_2, T_2⟩
    have X_2 : Mod [] h0 hp2 := Mod.step (A := []) (L := [ownO (kF .f32) 40 v1 x1]) X_1 S_1 MT_2
    have S_2 : Sep [] h0.size hp2 [ownO (kF .f32) 40 v3 x3, ownO (kF .f32) 40 v1 x1] := Sep.step (A := []) (L := [ownO (kF .f32) 40 v1 x1]) S_1 (Mod.size X_1) MT_2 T_2
    refine RL.opD (by decide) (opv_assign rfl rfl) ?_
    refine RL.nil ?_
    refine thnN ?_
    refine W.seq ?_
    obtain ⟨x4, hx4, hp⟩ := Option.bind_eq_some_iff.1 hp
    refine W.region ?_
    refine RL.opD (by decide) (opv_move rfl rfl) ?_
    refine RL.opD (by decide) (opv_move rfl rfl) ?_
    refine RL.op _ (by decide) (opv_call (cap := []) (impl_BinOf_ok _ _ _ (ownO.read (Sep.at (o := ownO (kF .f32) 40 v3 x3) S_2 0 rfl)) _ _ g1 _ hx4) rfl rfl ⟨rfl, rfl, trivial⟩ Try.func31 rfl rfl) ?_
    rintro _ _ ⟨v4, rfl, fv4, rfl⟩
    refine RL.opD (by decide) (opv_move rfl rfl) ?_
    refine RL.opD (by decide) (opv_extract rfl rfl rfl) ?_
    refine RL.opD (by decide) (opv_extract rfl rfl rfl) ?_
    refine RL.opD (by decide) (opv_assign rfl rfl) ?_
    refine RL.opD (by decide) (opv_assign rfl rfl) ?_
    refine RL.nil ?_
    refine thnN ?_
    refine W.seq ?_
    refine W.seq ?_
    obtain ⟨x5, hy1, hp⟩ := Option.bind_eq_some_iff.1 hp
    refine W.cut (fun φ' h' => Fr.sub [(0, u0), (1, u1), (4, (.bool false)), (12, (.bool (decide ((a0.length : Int) > 1048576)))), (5, v2), (6, (.bool x2.2)), (7, v3), (8, v4), (9, (.bool x4.2)), (38, (.bool x5))] φ' ∧ hp2 = h') ?_ ?_
    · obtain ⟨x6, hx6, hy1⟩ := Option.bind_eq_some_iff.1 hy1
      by_cases c2 : (!x6) = true
      · rw [if_pos c2] at hy1
        refine W.region ?_
        refine RL.opD (by decide) (opv_move rfl rfl) ?_
        refine RL.op _ (by decide) (opv_cwiden rfl (by rw [Try.underlying41]; rfl) Try.underlying46 rfl fv4) ?_
        rintro v5 _ ⟨fv5, rfl⟩
        refine RL.opD (by decide) (opv_move rfl rfl) ?_
        refine RL.op _ (by decide) (opv_cwiden rfl (by rw [Try.underlying41]; rfl) Try.underlying46 rfl fv2) ?_
        rintro v6 _ ⟨fv6, rfl⟩
        refine RL.op _ (by decide) (opv_call (cap := []) (laws_sameComplex_ok _ _ _ fv5 _ _ fv6 _ hx6) rfl rfl ⟨rfl, rfl, trivial⟩ Try.func32 rfl rfl) ?_
        rintro _ _ ⟨rfl, rfl⟩
        refine RL.opD (by decide) (opv_not rfl rfl) ?_
        refine RL.opD (by decide) (opv_move rfl rfl) ?_
        refine RL.no rfl rfl (Eq.trans c2 (by decide)) (by decide) ?_
        refine RL.no rfl rfl (Eq.trans c2 (by decide)) (by decide) ?_
        refine RL.no rfl rfl (Eq.trans c2 (by decide)) (by decide) ?_
        refine RL.opD (by decide) (opv_pick rfl rfl (fun _ => rfl) (fun e => absurd (Eq.trans (Eq.symm e) c2) (by decide)) rfl) ?_
        refine RL.nil ?_
        have ey1 := Option.some.inj hy1
        subst ey1
        refine onlyN ?_
        exact ⟨⟨rfl, rfl, rfl, rfl, rfl, rfl, rfl, rfl, rfl, rfl, trivial⟩, rfl⟩
      · rw [if_neg c2] at hy1
        have c2 := eq_false_of_ne_true c2
        refine W.region ?_
        refine RL.opD (by decide) (opv_move rfl rfl) ?_
        refine RL.op _ (by decide) (opv_cwiden rfl (by rw [Try.underlying41]; rfl) Try.underlying46 rfl fv4) ?_
        rintro v5 _ ⟨fv5, rfl⟩
        refine RL.opD (by decide) (opv_move rfl rfl) ?_
        refine RL.op _ (by decide) (opv_cwiden rfl (by rw [Try.underlying41]; rfl) Try.underlying46 rfl fv2) ?_
        rintro v6 _ ⟨fv6, rfl⟩
        refine RL.op _ (by decide) (opv_call (cap := []) (laws_sameComplex_ok _ _ _ fv5 _ _ fv6 _ hx6) rfl rfl ⟨rfl, rfl, trivial⟩ Try.func32 rfl rfl) ?_
        rintro _ _ ⟨rfl, rfl⟩
        refine RL.opD (by decide) (opv_not rfl rfl) ?_
        refine RL.opD (by decide) (opv_move rfl rfl) ?_
        refine RL.yes _ rfl rfl c2 (by decide) (opv_move rfl rfl) ?_
        rintro _ _ ⟨rfl, rfl⟩
        refine RL.yes _ rfl rfl c2 (by decide) (opv_move rfl rfl) ?_
        rintro _ _ ⟨rfl, rfl⟩
        refine RL.yes _ rfl rfl c2 (by decide) (opv_bcmp rfl rfl Try.underlying4 rfl rfl) ?_
        rintro _ _ ⟨rfl, rfl⟩
        refine RL.opD (by decide) (opv_pick rfl rfl (fun e => absurd (Eq.trans (Eq.symm e) c2) (by decide)) (fun _ => rfl) rfl) ?_
        refine RL.nil ?_
        have ey1 := Option.some.inj hy1
        subst ey1
        refine onlyN ?_
        exact ⟨⟨rfl, rfl, rfl, rfl, rfl, rfl, rfl, rfl, rfl, rfl, trivial⟩, rfl⟩
    rintro φ' _ ⟨hs1, rfl⟩
    refine thnN ?_
    refine W.sub hs1 ?_
    by_cases c3 : x5 = true
    · rw [if_pos c3] at hp
      refine W.condT rfl c3 ?_
      refine W.seq ?_
      refine W.region ?_
      refine RL.opD (by decide) (opv_assign rfl rfl) ?_
      refine RL.nil ?_
      refine thnN ?_
      refine W.ret ?_
      refine thnR ?_
      have er := Option.some.inj hp
      subst er
      exact Rt.one rfl rfl ⟨rfl, X_2, (Sep.nil _ _ _)⟩
    · rw [if_neg c3] at hp
      have c3 := eq_false_of_ne_true c3
      refine W.condF rfl c3 ?_
      refine W.skip ?_
      refine thnN ?_
      refine W.seq ?_
      refine W.seq ?_
      obtain ⟨x7, hx7, hp⟩ := Option.bind_eq_some_iff.1 hp
      obtain ⟨x8, hx8, hp⟩ := Option.bind_eq_some_iff.1 hp
      refine W.region ?_
      refine RL.opD (by decide) (opv_move rfl rfl) ?_
      refine RL.opD (by decide) (opv_move rfl rfl) ?_
      refine RL.op _ (by decide) (opv_call (cap := []) (laws_toFloat32S_ok _ _ _ (SL.up (SL.mod g0 X_2 (Nat.le_refl _) nob) (Nat.le_trans (Nat.le_refl _) (Mod.size X_2))) _ hx7) rfl rfl ⟨rfl, trivial⟩ Try.func30 rfl rfl) ?_
      rintro v7 hp3 ⟨MT_3, T_3⟩
      have X_3 : Mod [] h0 hp3 := Mod.step (A := []) (L := [ownO (kF .f32) 40 v3 x3, ownO (kF .f32) 40 v1 x1]) X_2 S_2 MT_3
      have S_3 : Sep [] h0.size hp3 [ownO (kF .f32) 40 v7 x7, ownO (kF .f32) 40 v3 x3, ownO (kF .f32) 40 v1 x1] := Sep.step (A := []) (L := [ownO (kF .f32) 40 v3 x3, ownO (kF .f32) 40 v1 x1]) S_2 (Mod.size X_2) MT_3 T_3
      refine RL.op _ (by decide) (opv_call (cap := []) (laws_eqFloat32S_ok _ _ _ (ownO.read (Sep.at (o := ownO (kF .f32) 40 v3 x3) S_3 1 rfl)) _ _ (ownO.read (Sep.at (o := ownO (kF .f32) 40 v7 x7) S_3 0 rfl)) _ hx8) rfl rfl ⟨rfl, rfl, trivial⟩ Try.func26 rfl rfl) ?_
      rintro _ _ ⟨rfl, rfl⟩
      refine RL.opD (by decide) (opv_not rfl rfl) ?_
      refine RL.nil ?_
      refine thnN ?_
      by_cases c4 : (!x8) = true
      · rw [if_pos c4] at hp
        refine W.condT rfl c4 ?_
        refine W.seq ?_
        refine W.region ?_
        refine RL.opD (by decide) (opv_assign rfl rfl) ?_
        refine RL.nil ?_
        refine thnN ?_
        refine W.ret ?_
        refine thnR ?_
        have er := Option.some.inj hp
        subst er
        exact Rt.one rfl rfl ⟨rfl, X_3, (Sep.nil _ _ _)⟩
      · rw [if_neg c4] at hp
        have c4 := eq_false_of_ne_true c4
        refine W.condF rfl c4 ?_
        refine W.skip ?_
        refine thnN ?_
        refine W.seq ?_
        refine W.region ?_
        refine RL.opD (by decide) (opv_assign rfl rfl) ?_
        refine RL.nil ?_
        refine thnN ?_
        refine W.ret ?_
        have er := Option.some.inj hp
        subst er
        exact Rt.one rfl rfl ⟨rfl, X_3, (Sep.nil _ _ _)⟩

end Go.H
