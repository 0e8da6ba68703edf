/- Functions of the program: what each computes, as a plain function, and that the call comes to it. Written by a program (wip/gen). -/
import Derived.Test.YthccgmjanoeohaaPGrid
import Derived.Test.YthccgmjanoeohaaPPhasor
import Derived.Test.YthccgmjanoeohaaBase21
import Derived.Test.YthccgmjanoeohaaProg
import Derived.KernelRfl
set_option linter.unusedVariables false
namespace Go.H
open Go Go.Proofs



noncomputable def spec_l01Scale (a0 : (Option Nat × Option Nat)) (a1 : Option Nat) : Option (Option Nat × Option Nat) :=
  some (fop .mul .f32 a0.1 a1, fop .mul .f32 a0.2 a1)

noncomputable def spec_SpectrumOf.s1 (a0 : List (Option Nat)) (x3 : Int) (x7 : (Option Nat × Option Nat)) (x8 : Int) : Option (((Option Nat × Option Nat) × Int) ⊕ ((Option Nat × Option Nat) × Int × Bool)) :=
  (if (decide (x8 < (a0.length : Int))) = true then (if (a0.length : Int) = 0 then none else ((spec_l01Phasor (fneg .f64 (fop .quo .f64 (fofi .f64 (Int.tmod (IntKind.wrap .i64 (x8 * x3)) (a0.length : Int))) (fofi .f64 (a0.length : Int))))).bind fun (x12 : (Option Nat × Option Nat)) => ((idx a0 x8).bind fun (x13 : Option Nat) => ((spec_l01Scale x12 x13).bind fun (x14 : (Option Nat × Option Nat)) => some (.inl (cop .add .f32 x7 x14, IntKind.wrap .i64 (x8 + 1))))))) else some (.inr (x7, x8, decide (x8 < (a0.length : Int)))))

noncomputable def spec_SpectrumOf.s0 (a0 : List (Option Nat)) (x2 : List ((Option Nat × Option Nat))) (x3 : Int) : Option (((List ((Option Nat × Option Nat))) × Int) ⊕ (Int × Bool × (List ((Option Nat × Option Nat))))) :=
  (if (decide (x3 < (a0.length : Int))) = true then ((loopF (fun (s : ((Option Nat × Option Nat) × Int)) => spec_SpectrumOf.s1 a0 x3 s.1 s.2) ((some 0, some 0), 0)).bind fun (⟨x9, x10, x11⟩ : ((Option Nat × Option Nat) × Int × Bool)) => (if x2.length + [x9].length ≤ 1000000000 then some (.inl (x2 ++ [x9], IntKind.wrap .i64 (x3 + 1))) else none)) else some (.inr (x3, decide (x3 < (a0.length : Int)), x2)))

noncomputable def spec_SpectrumOf (a0 : List (Option Nat)) : Option ((List ((Option Nat × Option Nat))) × Bool) :=
  ((spec_l06Is a0).bind fun (x1 : Bool) => (if (!x1) = true then some (([] : List ((Option Nat × Option Nat))), false) else ((loopF (fun (s : ((List ((Option Nat × Option Nat))) × Int)) => spec_SpectrumOf.s0 a0 s.1 s.2) (([] : List ((Option Nat × Option Nat))), 0)).bind fun (⟨x4, x5, x6⟩ : (Int × Bool × (List ((Option Nat × Option Nat))))) => some (x6, true))))

noncomputable def impl_add (a0 : (Option Nat × Option Nat)) (a1 : (Option Nat × Option Nat)) : Option (Option Nat × Option Nat) :=
  some (fop .add .f32 a0.1 a1.1, fop .add .f32 a0.2 a1.2)

noncomputable def impl_ScaleComplex (a0 : (Option Nat × Option Nat)) (a1 : Option Nat) : Option (Option Nat × Option Nat) :=
  some (fop .mul .f32 a0.1 a1, fop .mul .f32 a0.2 a1)

noncomputable def impl_share (a0 : Int) (a1 : Int) (a2 : Int) : Option (Option Nat) :=
  (if a2 = 0 then none else some (fop .quo .f64 (fofi .f64 (Int.tmod (IntKind.wrap .i64 (a0 * a1)) a2)) (fofi .f64 a2)))

noncomputable def impl_SpectrumOf.s1 (a0 : List (Option Nat)) (x3 : Int) (x7 : (Option Nat × Option Nat)) (x8 : Int) : Option (((Option Nat × Option Nat) × Int) ⊕ ((Option Nat × Option Nat) × Int × Bool)) :=
  (if (decide (x8 < (a0.length : Int))) = true then ((idx a0 x8).bind fun (x12 : Option Nat) => ((impl_share x8 x3 (a0.length : Int)).bind fun (x13 : Option Nat) => ((impl_PhasorOf (fneg .f64 x13)).bind fun (x14 : (Option Nat × Option Nat)) => ((impl_ScaleComplex x14 x12).bind fun (x15 : (Option Nat × Option Nat)) => ((impl_add x7 x15).bind fun (x16 : (Option Nat × Option Nat)) => some (.inl (x16, IntKind.wrap .i64 (x8 + 1)))))))) else some (.inr (x7, x8, decide (x8 < (a0.length : Int)))))

noncomputable def impl_SpectrumOf.s0 (a0 : List (Option Nat)) (x2 : List ((Option Nat × Option Nat))) (x3 : Int) : Option (((List ((Option Nat × Option Nat))) × Int) ⊕ (Int × Bool × (List ((Option Nat × Option Nat))))) :=
  (if (decide (x3 < (a0.length : Int))) = true then ((loopF (fun (s : ((Option Nat × Option Nat) × Int)) => impl_SpectrumOf.s1 a0 x3 s.1 s.2) ((some 0, some 0), 0)).bind fun (⟨x9, x10, x11⟩ : ((Option Nat × Option Nat) × Int × Bool)) => (if x2.length + [x9].length ≤ 1000000000 then some (.inl (x2 ++ [x9], IntKind.wrap .i64 (x3 + 1))) else none)) else some (.inr (x3, decide (x3 < (a0.length : Int)), x2)))

noncomputable def impl_SpectrumOf (a0 : List (Option Nat)) : Option ((List ((Option Nat × Option Nat))) × Bool) :=
  ((impl_isRecord_float32 a0).bind fun (x1 : Bool) => (if (!x1) = true then some (([] : List ((Option Nat × Option Nat))), false) else ((loopF (fun (s : ((List ((Option Nat × Option Nat))) × Int)) => impl_SpectrumOf.s0 a0 s.1 s.2) (([] : List ((Option Nat × Option Nat))), 0)).bind fun (⟨x4, x5, x6⟩ : (Int × Bool × (List ((Option Nat × Option Nat))))) => some (x6, true))))

noncomputable def laws_eqComplex64S.s0 (a0 : List ((Option Nat × Option Nat))) (a1 : List ((Option Nat × Option Nat))) (x1 : Bool) (x2 : Int) : Option ((Bool × Int) ⊕ ((Bool × Int × Bool) ⊕ Bool)) :=
  (if (decide (x2 < (a0.length : Int))) = true then ((idx a0 x2).bind fun (x6 : (Option Nat × Option Nat)) => ((idx a1 x2).bind fun (x7 : (Option Nat × Option Nat)) => ((laws_sameComplex (cwid x6) (cwid x7)).bind fun (x8 : Bool) => (if (!x8) = true then some (.inr (.inr false)) else some (.inl (x1, IntKind.wrap .i64 (x2 + 1))))))) else some (.inr (.inl (x1, x2, decide (x2 < (a0.length : Int))))))

noncomputable def laws_eqComplex64S (a0 : List ((Option Nat × Option Nat))) (a1 : List ((Option Nat × Option Nat))) : Option Bool :=
  (if ((a0.length : Int) != (a1.length : Int)) = true then some false else ((loopF (fun (s : (Bool × Int)) => laws_eqComplex64S.s0 a0 a1 s.1 s.2) (false, 0)).bind fun (y1 : ((Bool × Int × Bool) ⊕ Bool)) => match y1 with | .inl (x3, x4, x5) => some true | .inr r1 => some r1))

noncomputable def laws_markComplex64S.s0 (x1 : Int) (x2 : Int) (x3 : List ((Option Nat × Option Nat))) : Option ((Int × Int × (List ((Option Nat × Option Nat)))) ⊕ (Int × Int × Bool × (List ((Option Nat × Option Nat))))) :=
  (if (decide (x2 < (x3.length : Int))) = true then ((fcv .f64 .f32 (fofi .f64 x1, (some 4607182418800017408)).1).bind fun (x8 : Option Nat) => ((fcv .f64 .f32 (fofi .f64 x1, (some 4607182418800017408)).2).bind fun (x9 : Option Nat) => ((idx x3 x2).bind fun (x10 : (Option Nat × Option Nat)) => ((setF x3 x2 (x8, x9)).bind fun (x11 : List ((Option Nat × Option Nat))) => some (.inl (IntKind.wrap .i64 (x1 + 1), IntKind.wrap .i64 (x2 + 1), x11)))))) else some (.inr (x1, x2, decide (x2 < (x3.length : Int)), x3)))

noncomputable def laws_markComplex64S (a0 : List ((Option Nat × Option Nat))) (a1 : Int) : Option (Int × (List ((Option Nat × Option Nat)))) :=
  ((loopF (fun (s : (Int × Int × (List ((Option Nat × Option Nat))))) => laws_markComplex64S.s0 s.1 s.2.1 s.2.2) (a1, 0, a0)).bind fun (⟨x4, x5, x6, x7⟩ : (Int × Int × Bool × (List ((Option Nat × Option Nat))))) => some (x4, x7))

noncomputable def laws_heldComplex64S.s0 (a0 : List ((Option Nat × Option Nat))) (x1 : Int) (x2 : Int) (x3 : Int) : Option ((Int × Int × Int) ⊕ ((Int × Int × Int × Bool) ⊕ Int)) :=
  (if (decide (x3 < (a0.length : Int))) = true then ((idx a0 x3).bind fun (x8 : (Option Nat × Option Nat)) => ((fcv .f64 .f32 (fofi .f64 x1, (some 4607182418800017408)).1).bind fun (x9 : Option Nat) => ((fcv .f64 .f32 (fofi .f64 x1, (some 4607182418800017408)).2).bind fun (x10 : Option Nat) => (if (ccmp .neq .f32 x8 (x9, x10)) = true then some (.inr (.inr (-1))) else some (.inl (IntKind.wrap .i64 (x1 + 1), x2, IntKind.wrap .i64 (x3 + 1))))))) else some (.inr (.inl (x1, x2, x3, decide (x3 < (a0.length : Int))))))

noncomputable def laws_heldComplex64S (a0 : List ((Option Nat × Option Nat))) (a1 : Int) : Option Int :=
  ((loopF (fun (s : (Int × Int × Int)) => laws_heldComplex64S.s0 a0 s.1 s.2.1 s.2.2) (a1, 0, 0)).bind fun (y1 : ((Int × Int × Int × Bool) ⊕ Int)) => match y1 with | .inl (x4, x5, x6, x7) => some x4 | .inr r1 => some r1)

noncomputable def laws_FnExactSpectrumOf (a0 : List (Option Nat)) : Option Bool :=
  (if (decide ((a0.length : Int) > 1048576)) = true then some true else ((laws_toFloat32S a0).bind fun (x1 : List (Option Nat)) => ((spec_SpectrumOf x1).bind fun (x2 : ((List ((Option Nat × Option Nat))) × Bool)) => ((laws_toFloat32S a0).bind fun (x3 : List (Option Nat)) => ((impl_SpectrumOf x3).bind fun (x4 : ((List ((Option Nat × Option Nat))) × Bool)) => ((((laws_eqComplex64S x4.1 x2.1).bind fun (x6 : Bool) => (if (!x6) = true then some true else some (x4.2 != x2.2))) : Option Bool).bind fun (x5 : Bool) => (if x5 = true then some false else ((laws_toFloat32S a0).bind fun (x7 : List (Option Nat)) => ((laws_eqFloat32S x3 x7).bind fun (x8 : Bool) => (if (!x8) = true then some false else ((laws_markFloat32S x3 1).bind fun (x9 : (Int × (List (Option Nat)))) => (((if (decide (x9.1 < 0)) = true then some true else ((laws_eqComplex64S x4.1 x2.1).bind fun (x11 : Bool) => (if (!x11) = true then some true else some (x4.2 != x2.2)))) : Option Bool).bind fun (x10 : Bool) => (if x10 = true then some false else ((laws_markComplex64S x4.1 1).bind fun (x12 : (Int × (List ((Option Nat × Option Nat))))) => ((laws_heldComplex64S x12.2 1).bind fun (x13 : Int) => (if (decide (x13 < 0)) = true then some false else (if (x13 != x12.1) = true then some false else ((laws_toFloat32S a0).bind fun (x14 : List (Option Nat)) => ((impl_SpectrumOf x14).bind fun (x15 : ((List ((Option Nat × Option Nat))) × Bool)) => ((((laws_eqComplex64S x15.1 x2.1).bind fun (x17 : Bool) => (if (!x17) = true then some true else some (x15.2 != x2.2))) : Option Bool).bind fun (x16 : Bool) => (if x16 = true then some false else ((laws_heldComplex64S x12.2 1).bind fun (x18 : Int) => (if (decide (x18 < 0)) = true then some false else (if (x18 != x12.1) = true then some false else some true))))))))))))))))))))))))

set_option maxRecDepth 20000 in
theorem spec_l01Scale_ok (h0 : Heap) (u0 : Value) (a0 : (Option Nat × Option Nat)) (g0 : IsC .f32 u0 a0) (u1 : Value) (a1 : Option Nat) (g1 : IsF .f32 u1 a1) (r : (Option Nat × Option Nat)) (hp : spec_l01Scale a0 a1 = some r) : CallsH Try.prog 91 ([u0, u1].toArray ++ [].toArray) h0 (fun v h' => IsC .f32 v r ∧ h0 = h') := by
  unfold spec_l01Scale at hp
  refine callsH_of_W (l := [u0, u1]) (cap := []) 14 Try.func91 rfl rfl rfl ?_
  refine W.seq ?_
  refine W.region ?_
  refine RL.opD (by decide) (opv_assign rfl rfl) ?_
  refine RL.nil ?_
  refine thnN ?_
  refine W.seq ?_
  refine W.region ?_
  refine RL.opD (by decide) (opv_move rfl rfl) ?_
  refine RL.opF (by decide) (opv_real rfl rfl g0) ?_
  intro v1 fv1
  refine RL.opD (by decide) (opv_move rfl rfl) ?_
  refine RL.opF (by decide) (opv_fop rfl rfl rfl rfl fv1 g1) ?_
  intro v2 fv2
  refine RL.opD (by decide) (opv_move rfl rfl) ?_
  refine RL.opF (by decide) (opv_imag rfl rfl g0) ?_
  intro v3 fv3
  refine RL.opD (by decide) (opv_move rfl rfl) ?_
  refine RL.opF (by decide) (opv_fop rfl rfl rfl rfl fv3 g1) ?_
  intro v4 fv4
  refine RL.op _ (by decide) (opv_complex rfl rfl rfl fv2 fv4) ?_
  rintro v5 _ ⟨fv5, rfl⟩
  refine RL.opD (by decide) (opv_assign rfl rfl) ?_
  refine RL.nil ?_
  refine thnN ?_
  refine W.ret ?_
  have er := Option.some.inj hp
  subst er
  exact Rt.one rfl rfl ⟨fv5, rfl⟩

set_option maxRecDepth 20000 in
theorem spec_SpectrumOf_ok (h0 : Heap) (u0 : Value) (a0 : List (Option Nat)) (g0 : SL (kF .f32) h0.size h0 u0 a0) (r : ((List ((Option Nat × Option Nat))) × Bool)) (hp : spec_SpectrumOf a0 = some r) : CallsH Try.prog 38 ([u0].toArray ++ [].toArray) h0 (fun v h' => ∃ w0, v = (.tuple (List.toArray (α := Value) [w0, (.bool r.2)])) ∧ Mod [] h0 h' ∧ Sep [] h0.size h' [ownO (kC .f32) 116 w0 r.1]) := by
  unfold spec_SpectrumOf at hp
  refine callsH_of_W (l := [u0]) (cap := []) 48 Try.func38 rfl rfl rfl ?_
  refine W.seq ?_
  refine W.region ?_
  refine RL.opD (by decide) (opv_assign rfl rfl) ?_
  have S_1 : Sep [] h0.size h0 [ownO (kC .f32) 116 (.slice none 0 0) ([] : List ((Option Nat × Option Nat)))] := Sep.addNil (Sep.nil [] h0.size h0)
  refine RL.opD (by decide) (opv_assign rfl rfl) ?_
  refine RL.nil ?_
  refine thnN ?_
  refine W.seq ?_
  refine W.seq ?_
  obtain ⟨x1, hx1, hp⟩ := Option.bind_eq_some_iff.1 hp
  refine W.region ?_
  refine RL.opD (by decide) (opv_move rfl rfl) ?_
  refine RL.op _ (by decide) (opv_call (cap := []) (spec_l06Is_ok _ _ _ g0 _ hx1) rfl rfl ⟨rfl, trivial⟩ Try.func90 rfl rfl) ?_
  rintro _ _ ⟨rfl, rfl⟩
  refine RL.opD (by decide) (opv_not rfl rfl) ?_
  refine RL.nil ?_
  refine thnN ?_
  by_cases c1 : (!x1) = true
  · rw [if_pos c1] at hp
    refine W.condT rfl c1 ?_
    refine W.seq ?_
    refine W.region ?_
    refine RL.opD (by decide) (opv_assign rfl rfl) ?_
    have S_2 : Sep [] h0.size h0 [ownO (kC .f32) 116 (.slice none 0 0) ([] : List ((Option Nat × Option Nat))), ownO (kC .f32) 116 (.slice none 0 0) ([] : List ((Option Nat × Option Nat)))] := Sep.addNil S_1
    refine RL.opD (by decide) (opv_assign rfl rfl) ?_
    refine RL.nil ?_
    refine thnN ?_
    refine W.ret ?_
    refine thnR ?_
    have er := Option.some.inj hp
    subst er
    exact Rt.two rfl rfl rfl ⟨(.slice none 0 0), rfl, (Mod.refl [] h0), (Sep.sel S_2 [0] (by decide))⟩
  · rw [if_neg c1] at hp
    have c1 := eq_false_of_ne_true c1
    refine W.condF rfl c1 ?_
    refine W.skip ?_
    refine thnN ?_
    refine W.seq ?_
    refine W.region ?_
    refine RL.opD (by decide) (opv_move rfl rfl) ?_
    refine RL.opD (by decide) (opv_len rfl Try.underlying22 rfl g0) ?_
    refine RL.opD (by decide) (opv_assign rfl rfl) ?_
    refine RL.nil ?_
    refine thnN ?_
    refine W.seq ?_
    refine W.region ?_
    refine RL.op _ (by decide) (opS_lit0 (K := (kC .f32)) rfl Try.underlying61 Try.isinfo116) ?_
    rintro v1 hp1 ⟨MT_1, T_1⟩
    have X_1 : Mod [] h0 hp1 := Mod.step (A := []) (L := [ownO (kC .f32) 116 (.slice none 0 0) ([] : List ((Option Nat × Option Nat)))]) (Mod.refl [] h0) S_1 MT_1
    have S_3 : Sep [] h0.size hp1 [ownO (kC .f32) 116 v1 ([] : List ((Option Nat × Option Nat))), ownO (kC .f32) 116 (.slice none 0 0) ([] : List ((Option Nat × Option Nat)))] := Sep.step (A := []) (L := [ownO (kC .f32) 116 (.slice none 0 0) ([] : List ((Option Nat × Option Nat)))]) S_1 (Mod.size (Mod.refl [] h0)) MT_1 T_1
    refine RL.opD (by decide) (opv_assign rfl rfl) ?_
    refine RL.nil ?_
    refine thnN ?_
    refine W.seq ?_
    refine W.seq ?_
    refine W.region ?_
    refine RL.opD (by decide) (opv_assign rfl rfl) ?_
    refine RL.nil ?_
    refine thnN ?_
    obtain ⟨y1, hy1, hp⟩ := Option.bind_eq_some_iff.1 hp
    refine W.cut (fun φ' h' => ∃ x4, ∃ x5, ∃ x6, ∃ v3, y1 = (x4, x5, x6) ∧ Fr.sub [(0, u0), (2, (.slice none 0 0)), (3, (.bool false)), (11, (.bool (!x1))), (4, (.int .i64 (a0.length : Int))), (6, (.int .i64 x4)), (17, (.bool x5)), (5, v3)] φ' ∧ Mod [] h0 h' ∧ Sep [] h0.size h' [ownO (kC .f32) 116 (.slice none 0 0) ([] : List ((Option Nat × Option Nat))), ownO (kC .f32) 116 v3 x6]) ?_ ?_
    · refine W.block ?_
      refine W.loopS (fun (s : ((List ((Option Nat × Option Nat))) × Int)) φ' h' => ∃ v2, Fr.sub [(0, u0), (2, (.slice none 0 0)), (3, (.bool false)), (11, (.bool (!x1))), (4, (.int .i64 (a0.length : Int))), (5, v2), (6, (.int .i64 s.2))] φ' ∧ Mod [] h0 h' ∧ Sep [] h0.size h' [ownO (kC .f32) 116 v2 s.1, ownO (kC .f32) 116 (.slice none 0 0) ([] : List ((Option Nat × Option Nat)))]) hy1 ⟨v1, ⟨rfl, rfl, rfl, rfl, rfl, rfl, rfl, trivial⟩, X_1, (Sep.sel S_3 [0, 1] (by decide))⟩ ?_
      rintro ⟨x2, x3⟩ φ' hp2 o1 ⟨v2, hs1, X_2, S_4⟩ ho1 hy1
      have hs1 : Fr.sub [(0, u0), (2, (.slice none 0 0)), (3, (.bool false)), (11, (.bool (!x1))), (4, (.int .i64 (a0.length : Int))), (5, v2), (6, (.int .i64 x3))] φ' := hs1
      have S_4 : Sep [] h0.size hp2 [ownO (kC .f32) 116 v2 x2, ownO (kC .f32) 116 (.slice none 0 0) ([] : List ((Option Nat × Option Nat)))] := S_4
      have ho1 : spec_SpectrumOf.s0 a0 x2 x3 = some o1 := ho1
      unfold spec_SpectrumOf.s0 at ho1
      refine W.sub hs1 ?_
      refine W.seq ?_
      refine W.seq ?_
      refine W.region ?_
      refine RL.opD (by decide) (opv_move rfl rfl) ?_
      refine RL.opD (by decide) (opv_move rfl rfl) ?_
      refine RL.opD (by decide) (opv_icmp rfl rfl rfl rfl) ?_
      refine RL.nil ?_
      refine thnN ?_
      by_cases c2 : (decide (x3 < (a0.length : Int))) = true
      · rw [if_pos c2] at ho1
        refine W.condT rfl c2 ?_
        refine W.skip ?_
        refine thnN ?_
        refine W.seq ?_
        refine W.block ?_
        refine W.seq ?_
        refine W.region ?_
        refine RL.opD (by decide) (opv_assign rfl rfl) ?_
        refine RL.nil ?_
        refine thnN ?_
        refine W.seq ?_
        refine W.seq ?_
        refine W.region ?_
        refine RL.opD (by decide) (opv_assign rfl rfl) ?_
        refine RL.nil ?_
        refine thnN ?_
        obtain ⟨y2, hy2, ho1⟩ := Option.bind_eq_some_iff.1 ho1
        refine W.cut (fun φ' h' => ∃ x9, ∃ x10, ∃ x11, ∃ v5, y2 = (x9, x10, x11) ∧ Fr.sub [(0, u0), (2, (.slice none 0 0)), (3, (.bool false)), (11, (.bool (!x1))), (4, (.int .i64 (a0.length : Int))), (5, v2), (6, (.int .i64 x3)), (17, (.bool (decide (x3 < (a0.length : Int))))), (7, v5), (8, (.int .i64 x10)), (22, (.bool x11))] φ' ∧ IsC .f32 v5 x9 ∧ hp2 = h') ?_ ?_
        · refine W.block ?_
          refine W.loopS (fun (s : ((Option Nat × Option Nat) × Int)) φ' h' => ∃ v4, Fr.sub [(0, u0), (2, (.slice none 0 0)), (3, (.bool false)), (11, (.bool (!x1))), (4, (.int .i64 (a0.length : Int))), (5, v2), (6, (.int .i64 x3)), (17, (.bool (decide (x3 < (a0.length : Int))))), (7, v4), (8, (.int .i64 s.2))] φ' ∧ IsC .f32 v4 s.1 ∧ hp2 = h') hy2 ⟨(.complex .f32 0 0), ⟨rfl, rfl, rfl, rfl, rfl, rfl, rfl, rfl, rfl, rfl, trivial⟩, (isC_lit .f32 0 0 (by decide) (by decide) (by decide) (by decide)), rfl⟩ ?_
          rintro ⟨x7, x8⟩ φ' _ o2 ⟨v4, hs3, fv4, rfl⟩ ho2 hy2
          have hs3 : Fr.sub [(0, u0), (2, (.slice none 0 0)), (3, (.bool false)), (11, (.bool (!x1))), (4, (.int .i64 (a0.length : Int))), (5, v2), (6, (.int .i64 x3)), (17, (.bool (decide (x3 < (a0.length : Int))))), (7, v4), (8, (.int .i64 x8))] φ' := hs3
          have fv4 : IsC .f32 v4 x7 := fv4
          have ho2 : spec_SpectrumOf.s1 a0 x3 x7 x8 = some o2 := ho2
          unfold spec_SpectrumOf.s1 at ho2
          refine W.sub hs3 ?_
          refine W.seq ?_
          refine W.seq ?_
          refine W.region ?_
          refine RL.opD (by decide) (opv_move rfl rfl) ?_
          refine RL.opD (by decide) (opv_move rfl rfl) ?_
          refine RL.opD (by decide) (opv_icmp rfl rfl rfl rfl) ?_
          refine RL.nil ?_
          refine thnN ?_
          by_cases c3 : (decide (x8 < (a0.length : Int))) = true
          · rw [if_pos c3] at ho2
            refine W.condT rfl c3 ?_
            refine W.skip ?_
            refine thnN ?_
            refine W.seq ?_
            refine W.block ?_
            by_cases nc4 : (a0.length : Int) = 0
            · rw [if_pos nc4] at ho2; cases ho2
            rw [if_neg nc4] at ho2
            have c4 : (a0.length : Int) ≠ 0 := nc4
            obtain ⟨x12, hx12, ho2⟩ := Option.bind_eq_some_iff.1 ho2
            obtain ⟨x13, hx13, ho2⟩ := Option.bind_eq_some_iff.1 ho2
            obtain ⟨x14, hx14, ho2⟩ := Option.bind_eq_some_iff.1 ho2
            refine W.sub (ψ := [(0, u0), (2, (.slice none 0 0)), (3, (.bool false)), (11, (.bool (!x1))), (4, (.int .i64 (a0.length : Int))), (5, v2), (6, (.int .i64 x3)), (17, (.bool (decide (x3 < (a0.length : Int))))), (7, v4), (8, (.int .i64 x8)), (22, (.bool (decide (x8 < (a0.length : Int)))))]) ⟨rfl, rfl, rfl, rfl, rfl, rfl, rfl, rfl, rfl, rfl, rfl, trivial⟩ ?_
            refine W.regionP [fun v _ => IsC .f32 v x7, fun v _ => @Eq Value (.int .i64 x8) v, fun v _ => @Eq Value (.int .i64 x3) v, fun v _ => @Eq Value (.int .i64 (IntKind.wrap .i64 (x8 * x3))) v, fun v _ => @Eq Value (.int .i64 (a0.length : Int)) v, fun v _ => @Eq Value (.int .i64 (Int.tmod (IntKind.wrap .i64 (x8 * x3)) (a0.length : Int))) v, fun v _ => IsF .f64 v (fofi .f64 (Int.tmod (IntKind.wrap .i64 (x8 * x3)) (a0.length : Int))), fun v _ => @Eq Value (.int .i64 (a0.length : Int)) v, fun v _ => IsF .f64 v (fofi .f64 (a0.length : Int)), fun v _ => IsF .f64 v (fop .quo .f64 (fofi .f64 (Int.tmod (IntKind.wrap .i64 (x8 * x3)) (a0.length : Int))) (fofi .f64 (a0.length : Int))), fun v _ => IsF .f64 v (fneg .f64 (fop .quo .f64 (fofi .f64 (Int.tmod (IntKind.wrap .i64 (x8 * x3)) (a0.length : Int))) (fofi .f64 (a0.length : Int)))), fun v _ => IsC .f32 v x12, fun v _ => @Eq Value u0 v, fun v _ => @Eq Value (.int .i64 x8) v, fun v _ => PtI 1 v u0 (Int.toNat x8), fun v _ => IsF .f32 v x13, fun v _ => IsC .f32 v x14, fun v _ => IsC .f32 v (cop .add .f32 x7 x14)] [[], [], [], [1, 2], [], [3, 4], [5], [], [7], [6, 8], [9], [10], [], [], [12, 13], [14], [11, 15], [0, 16]] [17] Try.mixed (by decide +kernel) (by decide +kernel) rfl rfl rfl ?_ ?_
            · refine ⟨⟨rfl, ?_⟩, ⟨rfl, ?_⟩, ⟨rfl, ?_⟩, ⟨rfl, ?_⟩, ⟨rfl, ?_⟩, ⟨rfl, ?_⟩, ⟨rfl, ?_⟩, ⟨rfl, ?_⟩, ⟨rfl, ?_⟩, ⟨rfl, ?_⟩, ⟨rfl, ?_⟩, ⟨rfl, ?_⟩, ⟨rfl, ?_⟩, ⟨rfl, ?_⟩, ⟨rfl, ?_⟩, ⟨rfl, ?_⟩, ⟨rfl, ?_⟩, ⟨rfl, ?_⟩, trivial⟩
              · rintro _ rfl
                refine Dep.nil ?_
                refine GuardOK.none rfl ?_
                exact OpV.toD (opv_move rfl rfl) fv4
              · rintro _ rfl
                refine Dep.nil ?_
                refine GuardOK.none rfl ?_
                exact OpV.toD (opv_move rfl rfl) rfl
              · rintro _ rfl
                refine Dep.nil ?_
                refine GuardOK.none rfl ?_
                exact OpV.toD (opv_move rfl rfl) rfl
              · rintro _ rfl _ rfl _ rfl
                refine Dep.nil ?_
                refine GuardOK.none rfl ?_
                exact OpV.toD (opv_mul rfl rfl rfl) rfl
              · rintro _ rfl
                refine Dep.nil ?_
                refine GuardOK.none rfl ?_
                exact OpV.toD (opv_move rfl rfl) rfl
              · rintro _ rfl _ rfl _ rfl
                refine Dep.nil ?_
                refine GuardOK.none rfl ?_
                exact OpV.toD (opv_rem rfl c4 rfl rfl) rfl
              · rintro _ rfl _ rfl
                refine Dep.nil ?_
                refine GuardOK.none rfl ?_
                exact OpV.toS (opv_i2f rfl (by rw [Try.underlying2]; rfl) Try.underlying119 rfl) (fun _ h => h)
              · rintro _ rfl
                refine Dep.nil ?_
                refine GuardOK.none rfl ?_
                exact OpV.toD (opv_move rfl rfl) rfl
              · rintro _ rfl _ rfl
                refine Dep.nil ?_
                refine GuardOK.none rfl ?_
                exact OpV.toS (opv_i2f rfl (by rw [Try.underlying2]; rfl) Try.underlying119 rfl) (fun _ h => h)
              · rintro _ rfl v7 fv7 v8 fv8
                refine Dep.nil ?_
                refine GuardOK.none rfl ?_
                exact OpV.toS (opv_fop rfl rfl rfl rfl fv7 fv8) (fun _ h => h)
              · rintro _ rfl v9 fv9
                refine Dep.nil ?_
                refine GuardOK.none rfl ?_
                exact OpV.toS (opv_fneg rfl rfl fv9) (fun _ h => h)
              · rintro _ rfl v10 fv10
                refine Dep.nil ?_
                refine GuardOK.none rfl ?_
                exact OpV.mono (opv_call (cap := []) (spec_l01Phasor_ok _ _ _ fv10 _ hx12) rfl rfl ⟨rfl, trivial⟩ Try.func92 rfl rfl) (by rintro v11 _ ⟨fv11, rfl⟩; exact ⟨rfl, fv11⟩)
              · rintro _ rfl
                refine Dep.nil ?_
                refine GuardOK.none rfl ?_
                exact OpV.toD (opv_move rfl rfl) rfl
              · rintro _ rfl
                refine Dep.nil ?_
                refine GuardOK.none rfl ?_
                exact OpV.toD (opv_move rfl rfl) rfl
              · rintro _ rfl _ rfl _ rfl
                refine Dep.nil ?_
                refine GuardOK.none rfl ?_
                exact OpV.toS (opv_index rfl Try.underlying22 (by rw [Try.size25]; rfl) rfl rfl (SL.mod g0 X_2 (Nat.le_refl _) nob) hx13) (fun _ h => h)
              · rintro _ rfl v12 fv12
                refine Dep.nil ?_
                refine GuardOK.none rfl ?_
                exact OpV.toS (opv_loadF rfl Try.one25 rfl fv12 (SL.mod g0 X_2 (Nat.le_refl _) nob) hx13) (fun _ h => h)
              · rintro _ rfl v11 fv11 v13 fv13
                refine Dep.nil ?_
                refine GuardOK.none rfl ?_
                exact OpV.mono (opv_call (cap := []) (spec_l01Scale_ok _ _ _ fv11 _ _ fv13 _ hx14) rfl rfl ⟨rfl, rfl, trivial⟩ Try.func91 rfl rfl) (by rintro v14 _ ⟨fv14, rfl⟩; exact ⟨rfl, fv14⟩)
              · rintro _ rfl v6 fv6 v14 fv14
                refine Dep.nil ?_
                refine GuardOK.none rfl ?_
                exact OpV.toS (opv_cop rfl rfl rfl rfl fv6 fv14) (fun _ h => h)
            rintro v15 fv15
            refine Dep.nil ?_
            show RL _ _ _ _ (_ :: _) _ _
            refine RL.opD (by decide) (opv_assign rfl rfl) ?_
            refine RL.nil ?_
            refine blkN ?_
            refine thnN ?_
            refine W.region ?_
            refine RL.opD (by decide) (opv_move rfl rfl) ?_
            refine RL.opD (by decide) (opv_add rfl rfl rfl) ?_
            refine RL.opD (by decide) (opv_assign rfl rfl) ?_
            refine RL.nil ?_
            have eo2 := Option.some.inj ho2
            subst eo2
            refine rndN (s' := (cop .add .f32 x7 x14, IntKind.wrap .i64 (x8 + 1))) rfl ?_
            exact ⟨v15, ⟨rfl, rfl, rfl, rfl, rfl, rfl, rfl, rfl, rfl, rfl, trivial⟩, fv15, rfl⟩
          · rw [if_neg c3] at ho2
            have c3 := eq_false_of_ne_true c3
            refine W.condF rfl c3 ?_
            refine W.exit ?_
            refine thnX ?_
            refine rndX ?_
            refine blkI ?_
            have eo2 := Option.some.inj ho2
            subst eo2
            have ey2 := hy2 _ rfl
            subst ey2
            refine onlyN ?_
            exact ⟨x7, x8, decide (x8 < (a0.length : Int)), v4, rfl, ⟨rfl, rfl, rfl, rfl, rfl, rfl, rfl, rfl, rfl, rfl, rfl, trivial⟩, fv4, rfl⟩
        rintro φ' _ ⟨x9, x10, x11, v5, rfl, hs4, fv5, rfl⟩
        try dsimp only at ho1
        refine thnN ?_
        refine W.sub hs4 ?_
        obtain ⟨c5, ho1⟩ := of_ite ho1
        refine W.region ?_
        refine RL.opD (by decide) (opv_move rfl rfl) ?_
        refine RL.opD (by decide) (opv_move rfl rfl) ?_
        refine RL.op _ (by decide) (opS_lit1 (K := (kC .f32)) (z := x9) rfl Try.underlying61 Try.einfo116 rfl rfl rfl rfl ⟨_, rfl, fv5⟩) ?_
        rintro v17 hp3 ⟨MT_2, T_2⟩
        have X_3 : Mod [] h0 hp3 := Mod.step (A := []) (L := [ownO (kC .f32) 116 v2 x2, ownO (kC .f32) 116 (.slice none 0 0) ([] : List ((Option Nat × Option Nat)))]) X_2 S_4 MT_2
        have S_5 : Sep [] h0.size hp3 [ownO (kC .f32) 116 v17 [x9], ownO (kC .f32) 116 v2 x2, ownO (kC .f32) 116 (.slice none 0 0) ([] : List ((Option Nat × Option Nat)))] := Sep.step (A := []) (L := [ownO (kC .f32) 116 v2 x2, ownO (kC .f32) 116 (.slice none 0 0) ([] : List ((Option Nat × Option Nat)))]) S_4 (Mod.size X_2) MT_2 T_2
        refine RL.op _ (by decide) (opS_append (K := (kC .f32)) rfl Try.underlying61 Try.einfo116 rfl rfl rfl rfl (Sep.at (o := ownO (kC .f32) 116 v2 x2) S_5 1 rfl) (ownO.read (Sep.at (o := ownO (kC .f32) 116 v17 [x9]) S_5 0 rfl)) (by decide) (by decide) c5) ?_
        rintro v18 hp4 ⟨MT_3, T_3⟩
        have S_6 : Sep [] h0.size hp3 ([ownO (kC .f32) 116 v2 x2] ++ [ownO (kC .f32) 116 v17 [x9], ownO (kC .f32) 116 (.slice none 0 0) ([] : List ((Option Nat × Option Nat)))]) := Sep.sel S_5 [1, 0, 2] (by decide)
        have X_4 : Mod [] h0 hp4 := Mod.step (A := [ownO (kC .f32) 116 v2 x2]) (L := [ownO (kC .f32) 116 v17 [x9], ownO (kC .f32) 116 (.slice none 0 0) ([] : List ((Option Nat × Option Nat)))]) X_3 S_6 MT_3
        have S_7 : Sep [] h0.size hp4 [ownO (kC .f32) 116 v18 (x2 ++ [x9]), ownO (kC .f32) 116 v17 [x9], ownO (kC .f32) 116 (.slice none 0 0) ([] : List ((Option Nat × Option Nat)))] := Sep.step (A := [ownO (kC .f32) 116 v2 x2]) (L := [ownO (kC .f32) 116 v17 [x9], ownO (kC .f32) 116 (.slice none 0 0) ([] : List ((Option Nat × Option Nat)))]) S_6 (Mod.size X_3) MT_3 T_3
        refine RL.opD (by decide) (opv_assign rfl rfl) ?_
        refine RL.nil ?_
        refine blkN ?_
        refine thnN ?_
        refine W.region ?_
        refine RL.opD (by decide) (opv_move rfl rfl) ?_
        refine RL.opD (by decide) (opv_add rfl rfl rfl) ?_
        refine RL.opD (by decide) (opv_assign rfl rfl) ?_
        refine RL.nil ?_
        have eo1 := Option.some.inj ho1
        subst eo1
        refine rndN (s' := (x2 ++ [x9], IntKind.wrap .i64 (x3 + 1))) rfl ?_
        exact ⟨v18, ⟨rfl, rfl, rfl, rfl, rfl, rfl, rfl, trivial⟩, X_4, (Sep.sel S_7 [0, 2] (by decide))⟩
      · rw [if_neg c2] at ho1
        have c2 := eq_false_of_ne_true c2
        refine W.condF rfl c2 ?_
        refine W.exit ?_
        refine thnX ?_
        refine rndX ?_
        refine blkI ?_
        have eo1 := Option.some.inj ho1
        subst eo1
        have ey1 := hy1 _ rfl
        subst ey1
        refine onlyN ?_
        exact ⟨x3, decide (x3 < (a0.length : Int)), x2, v2, rfl, ⟨rfl, rfl, rfl, rfl, rfl, rfl, rfl, rfl, trivial⟩, X_2, (Sep.sel S_4 [1, 0] (by decide))⟩
    rintro φ' hp5 ⟨x4, x5, x6, v3, rfl, hs2, X_5, S_8⟩
    try dsimp only at hp
    refine thnN ?_
    refine W.sub hs2 ?_
    refine W.seq ?_
    refine W.region ?_
    refine RL.opD (by decide) (opv_move rfl rfl) ?_
    refine RL.opD (by decide) (opv_assign rfl rfl) ?_
    refine RL.opD (by decide) (opv_assign rfl rfl) ?_
    refine RL.nil ?_
    refine thnN ?_
    refine W.ret ?_
    have er := Option.some.inj hp
    subst er
    exact Rt.two rfl rfl rfl ⟨v3, rfl, X_5, (Sep.sel S_8 [1] (by decide))⟩

set_option maxRecDepth 20000 in
theorem impl_add_ok (h0 : Heap) (u0 : Value) (a0 : (Option Nat × Option Nat)) (g0 : IsC .f32 u0 a0) (u1 : Value) (a1 : (Option Nat × Option Nat)) (g1 : IsC .f32 u1 a1) (r : (Option Nat × Option Nat)) (hp : impl_add a0 a1 = some r) : CallsH Try.prog 94 ([u0, u1].toArray ++ [].toArray) h0 (fun v h' => IsC .f32 v r ∧ h0 = h') := by
  unfold impl_add at hp
  refine callsH_of_W (l := [u0, u1]) (cap := []) 16 Try.func94 rfl rfl rfl ?_
  refine W.seq ?_
  refine W.region ?_
  refine RL.opD (by decide) (opv_assign rfl rfl) ?_
  refine RL.nil ?_
  refine thnN ?_
  refine W.seq ?_
  refine W.region ?_
  refine RL.opD (by decide) (opv_move rfl rfl) ?_
  refine RL.opF (by decide) (opv_real rfl rfl g0) ?_
  intro v1 fv1
  refine RL.opD (by decide) (opv_move rfl rfl) ?_
  refine RL.opF (by decide) (opv_real rfl rfl g1) ?_
  intro v2 fv2
  refine RL.opF (by decide) (opv_fop rfl rfl rfl rfl fv1 fv2) ?_
  intro v3 fv3
  refine RL.opD (by decide) (opv_move rfl rfl) ?_
  refine RL.opF (by decide) (opv_imag rfl rfl g0) ?_
  intro v4 fv4
  refine RL.opD (by decide) (opv_move rfl rfl) ?_
  refine RL.opF (by decide) (opv_imag rfl rfl g1) ?_
  intro v5 fv5
  refine RL.opF (by decide) (opv_fop rfl rfl rfl rfl fv4 fv5) ?_
  intro v6 fv6
  refine RL.op _ (by decide) (opv_complex rfl rfl rfl fv3 fv6) ?_
  rintro v7 _ ⟨fv7, rfl⟩
  refine RL.opD (by decide) (opv_assign rfl rfl) ?_
  refine RL.nil ?_
  refine thnN ?_
  refine W.ret ?_
  have er := Option.some.inj hp
  subst er
  exact Rt.one rfl rfl ⟨fv7, rfl⟩

set_option maxRecDepth 20000 in
theorem impl_ScaleComplex_ok (h0 : Heap) (u0 : Value) (a0 : (Option Nat × Option Nat)) (g0 : IsC .f32 u0 a0) (u1 : Value) (a1 : Option Nat) (g1 : IsF .f32 u1 a1) (r : (Option Nat × Option Nat)) (hp : impl_ScaleComplex a0 a1 = some r) : CallsH Try.prog 95 ([u0, u1].toArray ++ [].toArray) h0 (fun v h' => IsC .f32 v r ∧ h0 = h') := by
  unfold impl_ScaleComplex at hp
  refine callsH_of_W (l := [u0, u1]) (cap := []) 14 Try.func95 rfl rfl rfl ?_
  refine W.seq ?_
  refine W.region ?_
  refine RL.opD (by decide) (opv_assign rfl rfl) ?_
  refine RL.nil ?_
  refine thnN ?_
  refine W.seq ?_
  refine W.region ?_
  refine RL.opD (by decide) (opv_move rfl rfl) ?_
  refine RL.opF (by decide) (opv_real rfl rfl g0) ?_
  intro v1 fv1
  refine RL.opD (by decide) (opv_move rfl rfl) ?_
  refine RL.opF (by decide) (opv_fop rfl rfl rfl rfl fv1 g1) ?_
  intro v2 fv2
  refine RL.opD (by decide) (opv_move rfl rfl) ?_
  refine RL.opF (by decide) (opv_imag rfl rfl g0) ?_
  intro v3 fv3
  refine RL.opD (by decide) (opv_move rfl rfl) ?_
  refine RL.opF (by decide) (opv_fop rfl rfl rfl rfl fv3 g1) ?_
  intro v4 fv4
  refine RL.op _ (by decide) (opv_complex rfl rfl rfl fv2 fv4) ?_
  rintro v5 _ ⟨fv5, rfl⟩
  refine RL.opD (by decide) (opv_assign rfl rfl) ?_
  refine RL.nil ?_
  refine thnN ?_
  refine W.ret ?_
  have er := Option.some.inj hp
  subst er
  exact Rt.one rfl rfl ⟨fv5, rfl⟩

set_option maxRecDepth 20000 in
theorem impl_share_ok (h0 : Heap) (a0 : Int) (a1 : Int) (a2 : Int) (r : Option Nat) (hp : impl_share a0 a1 a2 = some r) : CallsH Try.prog 97 ([(.int .i64 a0), (.int .i64 a1), (.int .i64 a2)].toArray ++ [].toArray) h0 (fun v h' => IsF .f64 v r ∧ h0 = h') := by
  unfold impl_share at hp
  refine callsH_of_W (l := [(.int .i64 a0), (.int .i64 a1), (.int .i64 a2)]) (cap := []) 16 Try.func97 rfl rfl rfl ?_
  refine W.seq ?_
  refine W.region ?_
  refine RL.opD (by decide) (opv_assign rfl rfl) ?_
  refine RL.nil ?_
  refine thnN ?_
  refine W.seq ?_
  by_cases nc1 : a2 = 0
  · rw [if_pos nc1] at hp; cases hp
  rw [if_neg nc1] at hp
  have c1 : a2 ≠ 0 := nc1
  refine W.region ?_
  refine RL.opD (by decide) (opv_move rfl rfl) ?_
  refine RL.opD (by decide) (opv_move rfl rfl) ?_
  refine RL.opD (by decide) (opv_mul rfl rfl rfl) ?_
  refine RL.opD (by decide) (opv_move rfl rfl) ?_
  refine RL.opD (by decide) (opv_rem rfl c1 rfl rfl) ?_
  refine RL.opF (by decide) (opv_i2f rfl (by rw [Try.underlying3]; rfl) Try.underlying119 rfl) ?_
  intro v1 fv1
  refine RL.opD (by decide) (opv_move rfl rfl) ?_
  refine RL.opF (by decide) (opv_i2f rfl (by rw [Try.underlying3]; rfl) Try.underlying119 rfl) ?_
  intro v2 fv2
  refine RL.opF (by decide) (opv_fop rfl rfl rfl rfl fv1 fv2) ?_
  intro v3 fv3
  refine RL.opD (by decide) (opv_assign rfl rfl) ?_
  refine RL.nil ?_
  refine thnN ?_
  refine W.ret ?_
  have er := Option.some.inj hp
  subst er
  exact Rt.one rfl rfl ⟨fv3, rfl⟩

set_option maxRecDepth 20000 in
theorem impl_SpectrumOf_ok (h0 : Heap) (u0 : Value) (a0 : List (Option Nat)) (g0 : SL (kF .f32) h0.size h0 u0 a0) (r : ((List ((Option Nat × Option Nat))) × Bool)) (hp : impl_SpectrumOf a0 = some r) : CallsH Try.prog 40 ([u0].toArray ++ [].toArray) h0 (fun v h' => ∃ w0, v = (.tuple (List.toArray (α := Value) [w0, (.bool r.2)])) ∧ Mod [] h0 h' ∧ Sep [] h0.size h' [ownO (kC .f32) 116 w0 r.1]) := by
  unfold impl_SpectrumOf at hp
  refine callsH_of_W (l := [u0]) (cap := []) 44 Try.func40 rfl rfl rfl ?_
  refine W.seq ?_
  refine W.region ?_
  refine RL.opD (by decide) (opv_assign rfl rfl) ?_
  have S_1 : Sep [] h0.size h0 [ownO (kC .f32) 116 (.slice none 0 0) ([] : List ((Option Nat × Option Nat)))] := Sep.addNil (Sep.nil [] h0.size h0)
  refine RL.opD (by decide) (opv_assign rfl rfl) ?_
  refine RL.nil ?_
  refine thnN ?_
  refine W.seq ?_
  refine W.seq ?_
  obtain ⟨x1, hx1, hp⟩ := Option.bind_eq_some_iff.1 hp
  refine W.region ?_
  refine RL.opD (by decide) (opv_move rfl rfl) ?_
  refine RL.op _ (by decide) (opv_call (cap := []) (impl_isRecord_float32_ok _ _ _ g0 _ hx1) rfl rfl ⟨rfl, trivial⟩ Try.func93 rfl rfl) ?_
  rintro _ _ ⟨rfl, rfl⟩
  refine RL.opD (by decide) (opv_not rfl rfl) ?_
  refine RL.nil ?_
  refine thnN ?_
  by_cases c1 : (!x1) = true
  · rw [if_pos c1] at hp
    refine W.condT rfl c1 ?_
    refine W.seq ?_
    refine W.region ?_
    refine RL.opD (by decide) (opv_assign rfl rfl) ?_
    have S_2 : Sep [] h0.size h0 [ownO (kC .f32) 116 (.slice none 0 0) ([] : List ((Option Nat × Option Nat))), ownO (kC .f32) 116 (.slice none 0 0) ([] : List ((Option Nat × Option Nat)))] := Sep.addNil S_1
    refine RL.opD (by decide) (opv_assign rfl rfl) ?_
    refine RL.nil ?_
    refine thnN ?_
    refine W.ret ?_
    refine thnR ?_
    have er := Option.some.inj hp
    subst er
    exact Rt.two rfl rfl rfl ⟨(.slice none 0 0), rfl, (Mod.refl [] h0), (Sep.sel S_2 [0] (by decide))⟩
  · rw [if_neg c1] at hp
    have c1 := eq_false_of_ne_true c1
    refine W.condF rfl c1 ?_
    refine W.skip ?_
    refine thnN ?_
    refine W.seq ?_
    refine W.region ?_
    refine RL.op _ (by decide) (opS_lit0 (K := (kC .f32)) rfl Try.underlying61 Try.isinfo116) ?_
    rintro v1 hp1 ⟨MT_1, T_1⟩
    have X_1 : Mod [] h0 hp1 := Mod.step (A := []) (L := [ownO (kC .f32) 116 (.slice none 0 0) ([] : List ((Option Nat × Option Nat)))]) (Mod.refl [] h0) S_1 MT_1
    have S_3 : Sep [] h0.size hp1 [ownO (kC .f32) 116 v1 ([] : List ((Option Nat × Option Nat))), ownO (kC .f32) 116 (.slice none 0 0) ([] : List ((Option Nat × Option Nat)))] := Sep.step (A := []) (L := [ownO (kC .f32) 116 (.slice none 0 0) ([] : List ((Option Nat × Option Nat)))]) S_1 (Mod.size (Mod.refl [] h0)) MT_1 T_1
    refine RL.opD (by decide) (opv_move rfl rfl) ?_
    refine RL.opD (by decide) (opv_len rfl Try.underlying22 rfl (SL.mod g0 X_1 (Nat.le_refl _) nob)) ?_
    refine RL.opD (by decide) (opv_assign rfl rfl) ?_
    refine RL.opD (by decide) (opv_assign rfl rfl) ?_
    refine RL.nil ?_
    refine thnN ?_
    refine W.seq ?_
    refine W.seq ?_
    refine W.region ?_
    refine RL.opD (by decide) (opv_move rfl rfl) ?_
    refine RL.opD (by decide) (opv_move rfl rfl) ?_
    refine RL.nil ?_
    refine thnN ?_
    obtain ⟨y1, hy1, hp⟩ := Option.bind_eq_some_iff.1 hp
    refine W.cut (fun φ' h' => ∃ x4, ∃ x5, ∃ x6, ∃ v3, y1 = (x4, x5, x6) ∧ Fr.sub [(0, u0), (2, (.slice none 0 0)), (3, (.bool false)), (12, (.bool (!x1))), (5, (.int .i64 (a0.length : Int))), (16, (.int .i64 (a0.length : Int))), (17, (.int .i64 x4)), (18, (.bool x5)), (4, v3)] φ' ∧ Mod [] h0 h' ∧ Sep [] h0.size h' [ownO (kC .f32) 116 (.slice none 0 0) ([] : List ((Option Nat × Option Nat))), ownO (kC .f32) 116 v3 x6]) ?_ ?_
    · refine W.block ?_
      refine W.loopS (fun (s : ((List ((Option Nat × Option Nat))) × Int)) φ' h' => ∃ v2, Fr.sub [(0, u0), (2, (.slice none 0 0)), (3, (.bool false)), (12, (.bool (!x1))), (5, (.int .i64 (a0.length : Int))), (16, (.int .i64 (a0.length : Int))), (4, v2), (17, (.int .i64 s.2))] φ' ∧ Mod [] h0 h' ∧ Sep [] h0.size h' [ownO (kC .f32) 116 v2 s.1, ownO (kC .f32) 116 (.slice none 0 0) ([] : List ((Option Nat × Option Nat)))]) hy1 ⟨v1, ⟨rfl, rfl, rfl, rfl, rfl, rfl, rfl, rfl, trivial⟩, X_1, (Sep.sel S_3 [0, 1] (by decide))⟩ ?_
      rintro ⟨x2, x3⟩ φ' hp2 o1 ⟨v2, hs1, X_2, S_4⟩ ho1 hy1
      have hs1 : Fr.sub [(0, u0), (2, (.slice none 0 0)), (3, (.bool false)), (12, (.bool (!x1))), (5, (.int .i64 (a0.length : Int))), (16, (.int .i64 (a0.length : Int))), (4, v2), (17, (.int .i64 x3))] φ' := hs1
      have S_4 : Sep [] h0.size hp2 [ownO (kC .f32) 116 v2 x2, ownO (kC .f32) 116 (.slice none 0 0) ([] : List ((Option Nat × Option Nat)))] := S_4
      have ho1 : impl_SpectrumOf.s0 a0 x2 x3 = some o1 := ho1
      unfold impl_SpectrumOf.s0 at ho1
      refine W.sub hs1 ?_
      refine W.seq ?_
      refine W.region ?_
      refine RL.opD (by decide) (opv_icmp rfl rfl rfl rfl) ?_
      refine RL.nil ?_
      refine thnN ?_
      refine W.seq ?_
      by_cases c2 : (decide (x3 < (a0.length : Int))) = true
      · rw [if_pos c2] at ho1
        refine W.condT rfl c2 ?_
        refine W.skip ?_
        refine thnN ?_
        refine W.seq ?_
        refine W.block ?_
        refine W.seq ?_
        refine W.region ?_
        refine RL.opD (by decide) (opv_move rfl rfl) ?_
        refine RL.opD (by decide) (opv_assign rfl rfl) ?_
        refine RL.nil ?_
        refine thnN ?_
        refine W.seq ?_
        refine W.region ?_
        refine RL.opD (by decide) (opv_assign rfl rfl) ?_
        refine RL.nil ?_
        refine thnN ?_
        refine W.seq ?_
        refine W.seq ?_
        refine W.region ?_
        refine RL.opD (by decide) (opv_move rfl rfl) ?_
        refine RL.opD (by decide) (opv_len rfl Try.underlying22 rfl (SL.mod g0 X_2 (Nat.le_refl _) nob)) ?_
        refine RL.opD (by decide) (opv_move rfl rfl) ?_
        refine RL.nil ?_
        refine thnN ?_
        obtain ⟨y2, hy2, ho1⟩ := Option.bind_eq_some_iff.1 ho1
        refine W.cut (fun φ' h' => ∃ x9, ∃ x10, ∃ x11, ∃ v5, y2 = (x9, x10, x11) ∧ Fr.sub [(0, u0), (2, (.slice none 0 0)), (3, (.bool false)), (12, (.bool (!x1))), (5, (.int .i64 (a0.length : Int))), (16, (.int .i64 (a0.length : Int))), (4, v2), (17, (.int .i64 x3)), (18, (.bool (decide (x3 < (a0.length : Int))))), (6, (.int .i64 x3)), (20, u0), (21, (.int .i64 (a0.length : Int))), (7, v5), (22, (.int .i64 x10)), (23, (.bool x11))] φ' ∧ IsC .f32 v5 x9 ∧ hp2 = h') ?_ ?_
        · refine W.block ?_
          refine W.loopS (fun (s : ((Option Nat × Option Nat) × Int)) φ' h' => ∃ v4, Fr.sub [(0, u0), (2, (.slice none 0 0)), (3, (.bool false)), (12, (.bool (!x1))), (5, (.int .i64 (a0.length : Int))), (16, (.int .i64 (a0.length : Int))), (4, v2), (17, (.int .i64 x3)), (18, (.bool (decide (x3 < (a0.length : Int))))), (6, (.int .i64 x3)), (20, u0), (21, (.int .i64 (a0.length : Int))), (7, v4), (22, (.int .i64 s.2))] φ' ∧ IsC .f32 v4 s.1 ∧ hp2 = h') hy2 ⟨(.complex .f32 0 0), ⟨rfl, rfl, rfl, rfl, rfl, rfl, rfl, rfl, rfl, rfl, rfl, rfl, rfl, rfl, trivial⟩, (isC_lit .f32 0 0 (by decide) (by decide) (by decide) (by decide)), rfl⟩ ?_
          rintro ⟨x7, x8⟩ φ' _ o2 ⟨v4, hs3, fv4, rfl⟩ ho2 hy2
          have hs3 : Fr.sub [(0, u0), (2, (.slice none 0 0)), (3, (.bool false)), (12, (.bool (!x1))), (5, (.int .i64 (a0.length : Int))), (16, (.int .i64 (a0.length : Int))), (4, v2), (17, (.int .i64 x3)), (18, (.bool (decide (x3 < (a0.length : Int))))), (6, (.int .i64 x3)), (20, u0), (21, (.int .i64 (a0.length : Int))), (7, v4), (22, (.int .i64 x8))] φ' := hs3
          have fv4 : IsC .f32 v4 x7 := fv4
          have ho2 : impl_SpectrumOf.s1 a0 x3 x7 x8 = some o2 := ho2
          unfold impl_SpectrumOf.s1 at ho2
          refine W.sub hs3 ?_
          refine W.seq ?_
          refine W.region ?_
          refine RL.opD (by decide) (opv_icmp rfl rfl rfl rfl) ?_
          refine RL.nil ?_
          refine thnN ?_
          refine W.seq ?_
          by_cases c3 : (decide (x8 < (a0.length : Int))) = true
          · rw [if_pos c3] at ho2
            refine W.condT rfl c3 ?_
            refine W.skip ?_
            refine thnN ?_
            refine W.seq ?_
            refine W.block ?_
            refine W.seq ?_
            obtain ⟨x12, hx12, ho2⟩ := Option.bind_eq_some_iff.1 ho2
            refine W.region ?_
            refine RL.opD (by decide) (opv_move rfl rfl) ?_
            refine RL.op _ (by decide) (opv_index rfl Try.underlying22 (by rw [Try.size25]; rfl) rfl rfl (SL.mod g0 X_2 (Nat.le_refl _) nob) hx12) ?_
            rintro v6 _ ⟨fv6, rfl⟩
            refine RL.opF (by decide) (opv_loadF rfl Try.one25 rfl fv6 (SL.mod g0 X_2 (Nat.le_refl _) nob) hx12) ?_
            intro v7 fv7
            refine RL.opD (by decide) (opv_assign rfl rfl) ?_
            refine RL.opD (by decide) (opv_assign rfl rfl) ?_
            refine RL.nil ?_
            refine thnN ?_
            obtain ⟨x13, hx13, ho2⟩ := Option.bind_eq_some_iff.1 ho2
            obtain ⟨x14, hx14, ho2⟩ := Option.bind_eq_some_iff.1 ho2
            obtain ⟨x15, hx15, ho2⟩ := Option.bind_eq_some_iff.1 ho2
            obtain ⟨x16, hx16, ho2⟩ := Option.bind_eq_some_iff.1 ho2
            refine W.region ?_
            refine RL.opD (by decide) (opv_move rfl rfl) ?_
            refine RL.opD (by decide) (opv_move rfl rfl) ?_
            refine RL.opD (by decide) (opv_move rfl rfl) ?_
            refine RL.opD (by decide) (opv_move rfl rfl) ?_
            refine RL.op _ (by decide) (opv_call (cap := []) (impl_share_ok _ _ _ _ _ hx13) rfl rfl ⟨rfl, rfl, rfl, trivial⟩ Try.func97 rfl rfl) ?_
            rintro v8 _ ⟨fv8, rfl⟩
            refine RL.opF (by decide) (opv_fneg rfl rfl fv8) ?_
            intro v9 fv9
            refine RL.op _ (by decide) (opv_call (cap := []) (impl_PhasorOf_ok _ _ _ fv9 _ hx14) rfl rfl ⟨rfl, trivial⟩ Try.func96 rfl rfl) ?_
            rintro v10 _ ⟨fv10, rfl⟩
            refine RL.opD (by decide) (opv_move rfl rfl) ?_
            refine RL.op _ (by decide) (opv_call (cap := []) (impl_ScaleComplex_ok _ _ _ fv10 _ _ fv7 _ hx15) rfl rfl ⟨rfl, rfl, trivial⟩ Try.func95 rfl rfl) ?_
            rintro v11 _ ⟨fv11, rfl⟩
            refine RL.op _ (by decide) (opv_call (cap := []) (impl_add_ok _ _ _ fv4 _ _ fv11 _ hx16) rfl rfl ⟨rfl, rfl, trivial⟩ Try.func94 rfl rfl) ?_
            rintro v12 _ ⟨fv12, rfl⟩
            refine RL.opD (by decide) (opv_assign rfl rfl) ?_
            refine RL.nil ?_
            refine blkN ?_
            refine thnN ?_
            refine W.region ?_
            refine RL.opD (by decide) (opv_add rfl rfl rfl) ?_
            refine RL.opD (by decide) (opv_move rfl rfl) ?_
            refine RL.nil ?_
            have eo2 := Option.some.inj ho2
            subst eo2
            refine rndN (s' := (x16, IntKind.wrap .i64 (x8 + 1))) rfl ?_
            exact ⟨v12, ⟨rfl, rfl, rfl, rfl, rfl, rfl, rfl, rfl, rfl, rfl, rfl, rfl, rfl, rfl, trivial⟩, fv12, rfl⟩
          · rw [if_neg c3] at ho2
            have c3 := eq_false_of_ne_true c3
            refine W.condF rfl c3 ?_
            refine W.exit ?_
            refine thnX ?_
            refine rndX ?_
            refine blkI ?_
            have eo2 := Option.some.inj ho2
            subst eo2
            have ey2 := hy2 _ rfl
            subst ey2
            refine onlyN ?_
            exact ⟨x7, x8, decide (x8 < (a0.length : Int)), v4, rfl, ⟨rfl, rfl, rfl, rfl, rfl, rfl, rfl, rfl, rfl, rfl, rfl, rfl, rfl, rfl, rfl, trivial⟩, fv4, rfl⟩
        rintro φ' _ ⟨x9, x10, x11, v5, rfl, hs4, fv5, rfl⟩
        try dsimp only at ho1
        refine thnN ?_
        refine W.sub hs4 ?_
        obtain ⟨c4, ho1⟩ := of_ite ho1
        refine W.region ?_
        refine RL.opD (by decide) (opv_move rfl rfl) ?_
        refine RL.opD (by decide) (opv_move rfl rfl) ?_
        refine RL.op _ (by decide) (opS_lit1 (K := (kC .f32)) (z := x9) rfl Try.underlying61 Try.einfo116 rfl rfl rfl rfl ⟨_, rfl, fv5⟩) ?_
        rintro v13 hp3 ⟨MT_2, T_2⟩
        have X_3 : Mod [] h0 hp3 := Mod.step (A := []) (L := [ownO (kC .f32) 116 v2 x2, ownO (kC .f32) 116 (.slice none 0 0) ([] : List ((Option Nat × Option Nat)))]) X_2 S_4 MT_2
        have S_5 : Sep [] h0.size hp3 [ownO (kC .f32) 116 v13 [x9], ownO (kC .f32) 116 v2 x2, ownO (kC .f32) 116 (.slice none 0 0) ([] : List ((Option Nat × Option Nat)))] := Sep.step (A := []) (L := [ownO (kC .f32) 116 v2 x2, ownO (kC .f32) 116 (.slice none 0 0) ([] : List ((Option Nat × Option Nat)))]) S_4 (Mod.size X_2) MT_2 T_2
        refine RL.op _ (by decide) (opS_append (K := (kC .f32)) rfl Try.underlying61 Try.einfo116 rfl rfl rfl rfl (Sep.at (o := ownO (kC .f32) 116 v2 x2) S_5 1 rfl) (ownO.read (Sep.at (o := ownO (kC .f32) 116 v13 [x9]) S_5 0 rfl)) (by decide) (by decide) c4) ?_
        rintro v14 hp4 ⟨MT_3, T_3⟩
        have S_6 : Sep [] h0.size hp3 ([ownO (kC .f32) 116 v2 x2] ++ [ownO (kC .f32) 116 v13 [x9], ownO (kC .f32) 116 (.slice none 0 0) ([] : List ((Option Nat × Option Nat)))]) := Sep.sel S_5 [1, 0, 2] (by decide)
        have X_4 : Mod [] h0 hp4 := Mod.step (A := [ownO (kC .f32) 116 v2 x2]) (L := [ownO (kC .f32) 116 v13 [x9], ownO (kC .f32) 116 (.slice none 0 0) ([] : List ((Option Nat × Option Nat)))]) X_3 S_6 MT_3
        have S_7 : Sep [] h0.size hp4 [ownO (kC .f32) 116 v14 (x2 ++ [x9]), ownO (kC .f32) 116 v13 [x9], ownO (kC .f32) 116 (.slice none 0 0) ([] : List ((Option Nat × Option Nat)))] := Sep.step (A := [ownO (kC .f32) 116 v2 x2]) (L := [ownO (kC .f32) 116 v13 [x9], ownO (kC .f32) 116 (.slice none 0 0) ([] : List ((Option Nat × Option Nat)))]) S_6 (Mod.size X_3) MT_3 T_3
        refine RL.opD (by decide) (opv_assign rfl rfl) ?_
        refine RL.nil ?_
        refine blkN ?_
        refine thnN ?_
        refine W.region ?_
        refine RL.opD (by decide) (opv_add rfl rfl rfl) ?_
        refine RL.opD (by decide) (opv_move rfl rfl) ?_
        refine RL.nil ?_
        have eo1 := Option.some.inj ho1
        subst eo1
        refine rndN (s' := (x2 ++ [x9], IntKind.wrap .i64 (x3 + 1))) rfl ?_
        exact ⟨v14, ⟨rfl, rfl, rfl, rfl, rfl, rfl, rfl, rfl, trivial⟩, X_4, (Sep.sel S_7 [0, 2] (by decide))⟩
      · rw [if_neg c2] at ho1
        have c2 := eq_false_of_ne_true c2
        refine W.condF rfl c2 ?_
        refine W.exit ?_
        refine thnX ?_
        refine rndX ?_
        refine blkI ?_
        have eo1 := Option.some.inj ho1
        subst eo1
        have ey1 := hy1 _ rfl
        subst ey1
        refine onlyN ?_
        exact ⟨x3, decide (x3 < (a0.length : Int)), x2, v2, rfl, ⟨rfl, rfl, rfl, rfl, rfl, rfl, rfl, rfl, rfl, trivial⟩, X_2, (Sep.sel S_4 [1, 0] (by decide))⟩
    rintro φ' hp5 ⟨x4, x5, x6, v3, rfl, hs2, X_5, S_8⟩
    try dsimp only at hp
    refine thnN ?_
    refine W.sub hs2 ?_
    refine W.seq ?_
    refine W.region ?_
    refine RL.opD (by decide) (opv_move rfl rfl) ?_
    refine RL.opD (by decide) (opv_assign rfl rfl) ?_
    refine RL.opD (by decide) (opv_assign rfl rfl) ?_
    refine RL.nil ?_
    refine thnN ?_
    refine W.ret ?_
    have er := Option.some.inj hp
    subst er
    exact Rt.two rfl rfl rfl ⟨v3, rfl, X_5, (Sep.sel S_8 [1] (by decide))⟩

set_option maxRecDepth 20000 in
theorem laws_eqComplex64S_ok (h0 : Heap) (u0 : Value) (a0 : List ((Option Nat × Option Nat))) (g0 : SL (kC .f32) h0.size h0 u0 a0) (u1 : Value) (a1 : List ((Option Nat × Option Nat))) (g1 : SL (kC .f32) h0.size h0 u1 a1) (r : Bool) (hp : laws_eqComplex64S a0 a1 = some r) : CallsH Try.prog 41 ([u0, u1].toArray ++ [].toArray) h0 (fun v h' => v = (.bool r) ∧ h0 = h') := by
  unfold laws_eqComplex64S at hp
  refine callsH_of_W (l := [u0, u1]) (cap := []) 29 Try.func41 rfl rfl rfl ?_
  refine W.seq ?_
  refine W.region ?_
  refine RL.opD (by decide) (opv_assign rfl rfl) ?_
  refine RL.nil ?_
  refine thnN ?_
  refine W.seq ?_
  refine W.seq ?_
  refine W.region ?_
  refine RL.opD (by decide) (opv_move rfl rfl) ?_
  refine RL.opD (by decide) (opv_len rfl Try.underlying61 rfl g0) ?_
  refine RL.opD (by decide) (opv_move rfl rfl) ?_
  refine RL.opD (by decide) (opv_len rfl Try.underlying61 rfl g1) ?_
  refine RL.opD (by decide) (opv_icmp rfl rfl rfl rfl) ?_
  refine RL.nil ?_
  refine thnN ?_
  by_cases c1 : ((a0.length : Int) != (a1.length : Int)) = true
  · rw [if_pos c1] at hp
    refine W.condT rfl c1 ?_
    refine W.seq ?_
    refine W.region ?_
    refine RL.opD (by decide) (opv_assign rfl rfl) ?_
    refine RL.nil ?_
    refine thnN ?_
    refine W.ret ?_
    refine thnR ?_
    have er := Option.some.inj hp
    subst er
    exact Rt.one rfl rfl ⟨rfl, rfl⟩
  · rw [if_neg c1] at hp
    have c1 := eq_false_of_ne_true c1
    refine W.condF rfl c1 ?_
    refine W.skip ?_
    refine thnN ?_
    refine W.seq ?_
    refine W.seq ?_
    refine W.region ?_
    refine RL.opD (by decide) (opv_assign rfl rfl) ?_
    refine RL.nil ?_
    refine thnN ?_
    obtain ⟨y1, hy1, hp⟩ := Option.bind_eq_some_iff.1 hp
    refine W.cut (fun φ' h' => ∃ x3, ∃ x4, ∃ x5, y1 = .inl (x3, x4, x5) ∧ Fr.sub [(0, u0), (1, u1), (10, (.bool ((a0.length : Int) != (a1.length : Int)))), (4, (.bool x3)), (5, (.int .i64 x4)), (14, (.bool x5))] φ' ∧ h0 = h') ?_ ?_
    · refine W.block ?_
      refine W.loopS (fun (s : (Bool × Int)) φ' h' => Fr.sub [(0, u0), (1, u1), (10, (.bool ((a0.length : Int) != (a1.length : Int)))), (4, (.bool s.1)), (5, (.int .i64 s.2))] φ' ∧ h0 = h') hy1 ⟨⟨rfl, rfl, rfl, rfl, rfl, trivial⟩, rfl⟩ ?_
      rintro ⟨x1, x2⟩ φ' _ o1 ⟨hs1, rfl⟩ ho1 hy1
      have hs1 : Fr.sub [(0, u0), (1, u1), (10, (.bool ((a0.length : Int) != (a1.length : Int)))), (4, (.bool x1)), (5, (.int .i64 x2))] φ' := hs1
      have ho1 : laws_eqComplex64S.s0 a0 a1 x1 x2 = some o1 := ho1
      unfold laws_eqComplex64S.s0 at ho1
      refine W.sub hs1 ?_
      refine W.seq ?_
      refine W.seq ?_
      refine W.region ?_
      refine RL.opD (by decide) (opv_move rfl rfl) ?_
      refine RL.opD (by decide) (opv_move rfl rfl) ?_
      refine RL.opD (by decide) (opv_len rfl Try.underlying61 rfl g0) ?_
      refine RL.opD (by decide) (opv_icmp rfl rfl rfl rfl) ?_
      refine RL.nil ?_
      refine thnN ?_
      by_cases c2 : (decide (x2 < (a0.length : Int))) = true
      · rw [if_pos c2] at ho1
        refine W.condT rfl c2 ?_
        refine W.skip ?_
        refine thnN ?_
        refine W.seq ?_
        refine W.block ?_
        refine W.seq ?_
        obtain ⟨x6, hx6, ho1⟩ := Option.bind_eq_some_iff.1 ho1
        obtain ⟨x7, hx7, ho1⟩ := Option.bind_eq_some_iff.1 ho1
        obtain ⟨x8, hx8, ho1⟩ := Option.bind_eq_some_iff.1 ho1
        refine W.sub (ψ := [(0, u0), (1, u1), (10, (.bool ((a0.length : Int) != (a1.length : Int)))), (4, (.bool x1)), (5, (.int .i64 x2)), (14, (.bool (decide (x2 < (a0.length : Int)))))]) ⟨rfl, rfl, rfl, rfl, rfl, rfl, trivial⟩ ?_
        refine W.regionP [fun v _ => @Eq Value u0 v, fun v _ => @Eq Value (.int .i64 x2) v, fun v _ => PtI 1 v u0 (Int.toNat x2), fun v _ => IsC .f32 v x6, fun v _ => IsC .f64 v (cwid x6), fun v _ => @Eq Value u1 v, fun v _ => @Eq Value (.int .i64 x2) v, fun v _ => PtI 1 v u1 (Int.toNat x2), fun v _ => IsC .f32 v x7, fun v _ => IsC .f64 v (cwid x7), fun v _ => @Eq Value (.bool x8) v, fun v _ => @Eq Value (.bool (!x8)) v] [[], [], [0, 1], [2], [3], [], [], [5, 6], [7], [8], [4, 9], [10]] [11] Try.mixed (by decide +kernel) (by decide +kernel) rfl rfl rfl ?_ ?_
        · refine ⟨⟨rfl, ?_⟩, ⟨rfl, ?_⟩, ⟨rfl, ?_⟩, ⟨rfl, ?_⟩, ⟨rfl, ?_⟩, ⟨rfl, ?_⟩, ⟨rfl, ?_⟩, ⟨rfl, ?_⟩, ⟨rfl, ?_⟩, ⟨rfl, ?_⟩, ⟨rfl, ?_⟩, ⟨rfl, ?_⟩, trivial⟩
          · rintro _ rfl
            refine Dep.nil ?_
            refine GuardOK.none rfl ?_
            exact OpV.toD (opv_move rfl rfl) rfl
          · rintro _ rfl
            refine Dep.nil ?_
            refine GuardOK.none rfl ?_
            exact OpV.toD (opv_move rfl rfl) rfl
          · rintro _ rfl _ rfl _ rfl
            refine Dep.nil ?_
            refine GuardOK.none rfl ?_
            exact OpV.toS (opv_index rfl Try.underlying61 (by rw [Try.size116]; rfl) rfl rfl g0 hx6) (fun _ h => h)
          · rintro _ rfl v1 fv1
            refine Dep.nil ?_
            refine GuardOK.none rfl ?_
            exact OpV.toS (opv_loadC rfl Try.one116 rfl fv1 g0 hx6) (fun _ h => h)
          · rintro _ rfl v2 fv2
            refine Dep.nil ?_
            refine GuardOK.none rfl ?_
            exact OpV.toS (opv_cwiden rfl (by rw [Try.underlying116]; rfl) Try.underlying123 rfl fv2) (fun _ h => h)
          · rintro _ rfl
            refine Dep.nil ?_
            refine GuardOK.none rfl ?_
            exact OpV.toD (opv_move rfl rfl) rfl
          · rintro _ rfl
            refine Dep.nil ?_
            refine GuardOK.none rfl ?_
            exact OpV.toD (opv_move rfl rfl) rfl
          · rintro _ rfl _ rfl _ rfl
            refine Dep.nil ?_
            refine GuardOK.none rfl ?_
            exact OpV.toS (opv_index rfl Try.underlying61 (by rw [Try.size116]; rfl) rfl rfl g1 hx7) (fun _ h => h)
          · rintro _ rfl v4 fv4
            refine Dep.nil ?_
            refine GuardOK.none rfl ?_
            exact OpV.toS (opv_loadC rfl Try.one116 rfl fv4 g1 hx7) (fun _ h => h)
          · rintro _ rfl v5 fv5
            refine Dep.nil ?_
            refine GuardOK.none rfl ?_
            exact OpV.toS (opv_cwiden rfl (by rw [Try.underlying116]; rfl) Try.underlying123 rfl fv5) (fun _ h => h)
          · rintro _ rfl v3 fv3 v6 fv6
            refine Dep.nil ?_
            refine GuardOK.none rfl ?_
            exact OpV.mono (opv_call (cap := []) (laws_sameComplex_ok _ _ _ fv3 _ _ fv6 _ hx8) rfl rfl ⟨rfl, rfl, trivial⟩ Try.func98 rfl rfl) (by rintro _ _ ⟨rfl, rfl⟩; exact ⟨rfl, rfl⟩)
          · rintro _ rfl _ rfl
            refine Dep.nil ?_
            refine GuardOK.none rfl ?_
            exact OpV.toD (opv_not rfl rfl) rfl
        rintro _ rfl
        refine Dep.nil ?_
        show RL _ _ _ _ [] _ _
        refine RL.nil ?_
        refine thnN ?_
        by_cases c3 : (!x8) = true
        · rw [if_pos c3] at ho1
          refine W.condT rfl c3 ?_
          refine W.seq ?_
          refine W.region ?_
          refine RL.opD (by decide) (opv_assign rfl rfl) ?_
          refine RL.nil ?_
          refine thnN ?_
          refine W.ret ?_
          refine blkR ?_
          refine thnR ?_
          have eo1 := Option.some.inj ho1
          subst eo1
          have ey1 := hy1 _ rfl
          subst ey1
          try dsimp only at hp
          refine rndR ?_
          refine blkR ?_
          refine onlyR ?_
          refine thnR ?_
          have er := Option.some.inj hp
          subst er
          exact Rt.one rfl rfl ⟨rfl, rfl⟩
        · rw [if_neg c3] at ho1
          have c3 := eq_false_of_ne_true c3
          refine W.condF rfl c3 ?_
          refine W.skip ?_
          refine blkN ?_
          refine thnN ?_
          refine W.region ?_
          refine RL.opD (by decide) (opv_move rfl rfl) ?_
          refine RL.opD (by decide) (opv_add rfl rfl rfl) ?_
          refine RL.opD (by decide) (opv_assign rfl rfl) ?_
          refine RL.nil ?_
          have eo1 := Option.some.inj ho1
          subst eo1
          refine rndN (s' := (x1, IntKind.wrap .i64 (x2 + 1))) rfl ?_
          exact ⟨⟨rfl, rfl, rfl, rfl, rfl, trivial⟩, rfl⟩
      · rw [if_neg c2] at ho1
        have c2 := eq_false_of_ne_true c2
        refine W.condF rfl c2 ?_
        refine W.exit ?_
        refine thnX ?_
        refine rndX ?_
        refine blkI ?_
        have eo1 := Option.some.inj ho1
        subst eo1
        have ey1 := hy1 _ rfl
        subst ey1
        refine onlyN ?_
        exact ⟨x1, x2, decide (x2 < (a0.length : Int)), rfl, ⟨rfl, rfl, rfl, rfl, rfl, rfl, trivial⟩, rfl⟩
    rintro φ' _ ⟨x3, x4, x5, rfl, hs2, rfl⟩
    try dsimp only at hp
    refine thnN ?_
    refine W.sub hs2 ?_
    refine W.seq ?_
    refine W.region ?_
    refine RL.opD (by decide) (opv_assign rfl rfl) ?_
    refine RL.nil ?_
    refine thnN ?_
    refine W.ret ?_
    have er := Option.some.inj hp
    subst er
    exact Rt.one rfl rfl ⟨rfl, rfl⟩

set_option maxRecDepth 20000 in
theorem laws_markComplex64S_ok (h0 : Heap) (lo : Nat) (hlo : lo ≤ h0.size) (u0 : Value) (a0 : List ((Option Nat × Option Nat))) (a1 : Int) (S0 : Sep [u0.ownBlock] h0.size h0 [ownO (kC .f32) 116 u0 a0]) (hB : ∀ b, some b ∈ [u0.ownBlock] → lo ≤ b) (r : (Int × (List ((Option Nat × Option Nat))))) (hp : laws_markComplex64S a0 a1 = some r) : CallsH Try.prog 44 ([u0, (.int .i64 a1)].toArray ++ [].toArray) h0 (fun v h' => v = (.int .i64 r.1) ∧ Mod [u0.ownBlock] h0 h' ∧ Sep [u0.ownBlock] h0.size h' [ownO (kC .f32) 116 u0 r.2]) := by
  unfold laws_markComplex64S at hp
  refine callsH_of_W (l := [u0, (.int .i64 a1)]) (cap := []) 22 Try.func44 rfl rfl rfl ?_
  refine W.seq ?_
  refine W.region ?_
  refine RL.opD (by decide) (opv_assign rfl rfl) ?_
  refine RL.nil ?_
  refine thnN ?_
  refine W.seq ?_
  refine W.seq ?_
  refine W.region ?_
  refine RL.opD (by decide) (opv_assign rfl rfl) ?_
  refine RL.nil ?_
  refine thnN ?_
  obtain ⟨y1, hy1, hp⟩ := Option.bind_eq_some_iff.1 hp
  refine W.cut (fun φ' h' => ∃ x4, ∃ x5, ∃ x6, ∃ x7, y1 = (x4, x5, x6, x7) ∧ Fr.sub [(0, u0), (4, (.int .i64 0)), (1, (.int .i64 x4)), (5, (.int .i64 x5)), (9, (.bool x6))] φ' ∧ Mod [u0.ownBlock] h0 h' ∧ Sep [u0.ownBlock] h0.size h' [ownO (kC .f32) 116 u0 x7]) ?_ ?_
  · refine W.block ?_
    refine W.loopS (fun (s : (Int × Int × (List ((Option Nat × Option Nat))))) φ' h' => Fr.sub [(0, u0), (4, (.int .i64 0)), (1, (.int .i64 s.1)), (5, (.int .i64 s.2.1))] φ' ∧ Mod [u0.ownBlock] h0 h' ∧ Sep [u0.ownBlock] h0.size h' [ownO (kC .f32) 116 u0 s.2.2]) hy1 ⟨⟨rfl, rfl, rfl, rfl, trivial⟩, (Mod.refl [u0.ownBlock] h0), (Sep.sel S0 [0] (by decide))⟩ ?_
    rintro ⟨x1, x2, x3⟩ φ' hp1 o1 ⟨hs1, X_1, S_1⟩ ho1 hy1
    have hs1 : Fr.sub [(0, u0), (4, (.int .i64 0)), (1, (.int .i64 x1)), (5, (.int .i64 x2))] φ' := hs1
    have S_1 : Sep [u0.ownBlock] h0.size hp1 [ownO (kC .f32) 116 u0 x3] := S_1
    have ho1 : laws_markComplex64S.s0 x1 x2 x3 = some o1 := ho1
    unfold laws_markComplex64S.s0 at ho1
    refine W.sub hs1 ?_
    refine W.seq ?_
    refine W.seq ?_
    refine W.region ?_
    refine RL.opD (by decide) (opv_move rfl rfl) ?_
    refine RL.opD (by decide) (opv_move rfl rfl) ?_
    refine RL.opD (by decide) (opv_len rfl Try.underlying61 rfl (ownO.read (Sep.at (o := ownO (kC .f32) 116 u0 x3) S_1 0 rfl))) ?_
    refine RL.opD (by decide) (opv_icmp rfl rfl rfl rfl) ?_
    refine RL.nil ?_
    refine thnN ?_
    by_cases c1 : (decide (x2 < (x3.length : Int))) = true
    · rw [if_pos c1] at ho1
      refine W.condT rfl c1 ?_
      refine W.skip ?_
      refine thnN ?_
      refine W.seq ?_
      refine W.block ?_
      refine W.seq ?_
      obtain ⟨x8, hx8, ho1⟩ := Option.bind_eq_some_iff.1 ho1
      obtain ⟨x9, hx9, ho1⟩ := Option.bind_eq_some_iff.1 ho1
      obtain ⟨x10, hx10, ho1⟩ := Option.bind_eq_some_iff.1 ho1
      obtain ⟨x11, hx11, ho1⟩ := Option.bind_eq_some_iff.1 ho1
      refine W.region ?_
      refine RL.opD (by decide) (opv_move rfl rfl) ?_
      refine RL.opD (by decide) (opv_move rfl rfl) ?_
      refine RL.opD (by decide) (opv_move rfl rfl) ?_
      refine RL.opF (by decide) (opv_i2f rfl (by rw [Try.underlying3]; rfl) Try.underlying119 rfl) ?_
      intro v1 fv1
      refine RL.op _ (by decide) (opv_complex rfl rfl rfl fv1 (isF_lit .f64 4607182418800017408 (by decide) (by decide))) ?_
      rintro v2 _ ⟨fv2, rfl⟩
      refine RL.op _ (by decide) (opv_cnarrow rfl (by rw [Try.underlying123]; rfl) Try.underlying116 rfl fv2 hx8 hx9) ?_
      rintro v3 _ ⟨fv3, rfl⟩
      refine RL.op _ (by decide) (opv_index rfl Try.underlying61 (by rw [Try.size116]; rfl) rfl rfl (ownO.read (Sep.at (o := ownO (kC .f32) 116 u0 x3) S_1 0 rfl)) hx10) ?_
      rintro v4 _ ⟨fv4, rfl⟩
      refine RL.op0 _ (opS_storeE (K := (kC .f32)) rfl Try.size116 rfl rfl fv4 rfl ⟨_, rfl, fv3⟩ hx11 (Sep.at (o := ownO (kC .f32) 116 u0 x3) S_1 0 rfl)) ?_
      rintro _ hp2 ⟨rfl, MT_1, T_1⟩
      have S_2 : Sep [u0.ownBlock] h0.size hp1 ([ownO (kC .f32) 116 u0 x3] ++ []) := Sep.sel S_1 [0] (by decide)
      have X_2 : Mod [u0.ownBlock] h0 hp2 := Mod.step (A := [ownO (kC .f32) 116 u0 x3]) (L := []) X_1 S_2 MT_1
      have S_3 : Sep [u0.ownBlock] h0.size hp2 [ownO (kC .f32) 116 u0 x11] := Sep.step (A := [ownO (kC .f32) 116 u0 x3]) (L := []) S_2 (Mod.size X_1) MT_1 T_1
      refine RL.nil ?_
      refine thnN ?_
      refine W.region ?_
      refine RL.opD (by decide) (opv_move rfl rfl) ?_
      refine RL.opD (by decide) (opv_add rfl rfl rfl) ?_
      refine RL.opD (by decide) (opv_assign rfl rfl) ?_
      refine RL.nil ?_
      refine blkN ?_
      refine thnN ?_
      refine W.region ?_
      refine RL.opD (by decide) (opv_move rfl rfl) ?_
      refine RL.opD (by decide) (opv_add rfl rfl rfl) ?_
      refine RL.opD (by decide) (opv_assign rfl rfl) ?_
      refine RL.nil ?_
      have eo1 := Option.some.inj ho1
      subst eo1
      refine rndN (s' := (IntKind.wrap .i64 (x1 + 1), IntKind.wrap .i64 (x2 + 1), x11)) rfl ?_
      exact ⟨⟨rfl, rfl, rfl, rfl, trivial⟩, X_2, (Sep.sel S_3 [0] (by decide))⟩
    · rw [if_neg c1] at ho1
      have c1 := eq_false_of_ne_true c1
      refine W.condF rfl c1 ?_
      refine W.exit ?_
      refine thnX ?_
      refine rndX ?_
      refine blkI ?_
      have eo1 := Option.some.inj ho1
      subst eo1
      have ey1 := hy1 _ rfl
      subst ey1
      refine onlyN ?_
      exact ⟨x1, x2, decide (x2 < (x3.length : Int)), x3, rfl, ⟨rfl, rfl, rfl, rfl, rfl, trivial⟩, X_1, (Sep.sel S_1 [0] (by decide))⟩
  rintro φ' hp3 ⟨x4, x5, x6, x7, rfl, hs2, X_3, S_4⟩
  try dsimp only at hp
  refine thnN ?_
  refine W.sub hs2 ?_
  refine W.seq ?_
  refine W.region ?_
  refine RL.opD (by decide) (opv_move rfl rfl) ?_
  refine RL.opD (by decide) (opv_assign rfl rfl) ?_
  refine RL.nil ?_
  refine thnN ?_
  refine W.ret ?_
  have er := Option.some.inj hp
  subst er
  exact Rt.one rfl rfl ⟨rfl, X_3, (Sep.sel S_4 [0] (by decide))⟩

set_option maxRecDepth 20000 in
theorem laws_heldComplex64S_ok (h0 : Heap) (u0 : Value) (a0 : List ((Option Nat × Option Nat))) (g0 : SL (kC .f32) h0.size h0 u0 a0) (a1 : Int) (r : Int) (hp : laws_heldComplex64S a0 a1 = some r) : CallsH Try.prog 45 ([u0, (.int .i64 a1)].toArray ++ [].toArray) h0 (fun v h' => v = (.int .i64 r) ∧ h0 = h') := by
  unfold laws_heldComplex64S at hp
  refine callsH_of_W (l := [u0, (.int .i64 a1)]) (cap := []) 24 Try.func45 rfl rfl rfl ?_
  refine W.seq ?_
  refine W.region ?_
  refine RL.opD (by decide) (opv_assign rfl rfl) ?_
  refine RL.nil ?_
  refine thnN ?_
  refine W.seq ?_
  refine W.seq ?_
  refine W.region ?_
  refine RL.opD (by decide) (opv_assign rfl rfl) ?_
  refine RL.nil ?_
  refine thnN ?_
  obtain ⟨y1, hy1, hp⟩ := Option.bind_eq_some_iff.1 hp
  refine W.cut (fun φ' h' => ∃ x4, ∃ x5, ∃ x6, ∃ x7, y1 = .inl (x4, x5, x6, x7) ∧ Fr.sub [(0, u0), (1, (.int .i64 x4)), (4, (.int .i64 x5)), (5, (.int .i64 x6)), (9, (.bool x7))] φ' ∧ h0 = h') ?_ ?_
  · refine W.block ?_
    refine W.loopS (fun (s : (Int × Int × Int)) φ' h' => Fr.sub [(0, u0), (1, (.int .i64 s.1)), (4, (.int .i64 s.2.1)), (5, (.int .i64 s.2.2))] φ' ∧ h0 = h') hy1 ⟨⟨rfl, rfl, rfl, rfl, trivial⟩, rfl⟩ ?_
    rintro ⟨x1, x2, x3⟩ φ' _ o1 ⟨hs1, rfl⟩ ho1 hy1
    have hs1 : Fr.sub [(0, u0), (1, (.int .i64 x1)), (4, (.int .i64 x2)), (5, (.int .i64 x3))] φ' := hs1
    have ho1 : laws_heldComplex64S.s0 a0 x1 x2 x3 = some o1 := ho1
    unfold laws_heldComplex64S.s0 at ho1
    refine W.sub hs1 ?_
    refine W.seq ?_
    refine W.seq ?_
    refine W.region ?_
    refine RL.opD (by decide) (opv_move rfl rfl) ?_
    refine RL.opD (by decide) (opv_move rfl rfl) ?_
    refine RL.opD (by decide) (opv_len rfl Try.underlying61 rfl g0) ?_
    refine RL.opD (by decide) (opv_icmp rfl rfl rfl rfl) ?_
    refine RL.nil ?_
    refine thnN ?_
    by_cases c1 : (decide (x3 < (a0.length : Int))) = true
    · rw [if_pos c1] at ho1
      refine W.condT rfl c1 ?_
      refine W.skip ?_
      refine thnN ?_
      refine W.seq ?_
      refine W.block ?_
      refine W.seq ?_
      refine W.seq ?_
      obtain ⟨x8, hx8, ho1⟩ := Option.bind_eq_some_iff.1 ho1
      obtain ⟨x9, hx9, ho1⟩ := Option.bind_eq_some_iff.1 ho1
      obtain ⟨x10, hx10, ho1⟩ := Option.bind_eq_some_iff.1 ho1
      refine W.region ?_
      refine RL.opD (by decide) (opv_move rfl rfl) ?_
      refine RL.opD (by decide) (opv_move rfl rfl) ?_
      refine RL.op _ (by decide) (opv_index rfl Try.underlying61 (by rw [Try.size116]; rfl) rfl rfl g0 hx8) ?_
      rintro v1 _ ⟨fv1, rfl⟩
      refine RL.op _ (by decide) (opv_loadC rfl Try.one116 rfl fv1 g0 hx8) ?_
      rintro v2 _ ⟨fv2, rfl⟩
      refine RL.opD (by decide) (opv_move rfl rfl) ?_
      refine RL.opF (by decide) (opv_i2f rfl (by rw [Try.underlying3]; rfl) Try.underlying119 rfl) ?_
      intro v3 fv3
      refine RL.op _ (by decide) (opv_complex rfl rfl rfl fv3 (isF_lit .f64 4607182418800017408 (by decide) (by decide))) ?_
      rintro v4 _ ⟨fv4, rfl⟩
      refine RL.op _ (by decide) (opv_cnarrow rfl (by rw [Try.underlying123]; rfl) Try.underlying116 rfl fv4 hx9 hx10) ?_
      rintro v5 _ ⟨fv5, rfl⟩
      refine RL.opD (by decide) (opv_ccmp rfl rfl rfl rfl fv2 fv5) ?_
      refine RL.nil ?_
      refine thnN ?_
      by_cases c2 : (ccmp .neq .f32 x8 (x9, x10)) = true
      · rw [if_pos c2] at ho1
        refine W.condT rfl c2 ?_
        refine W.seq ?_
        refine W.region ?_
        refine RL.opD (by decide) (opv_assign rfl rfl) ?_
        refine RL.nil ?_
        refine thnN ?_
        refine W.ret ?_
        refine thnR ?_
        refine blkR ?_
        refine thnR ?_
        have eo1 := Option.some.inj ho1
        subst eo1
        have ey1 := hy1 _ rfl
        subst ey1
        try dsimp only at hp
        refine rndR ?_
        refine blkR ?_
        refine onlyR ?_
        refine thnR ?_
        have er := Option.some.inj hp
        subst er
        exact Rt.one rfl rfl ⟨rfl, rfl⟩
      · rw [if_neg c2] at ho1
        have c2 := eq_false_of_ne_true c2
        refine W.condF rfl c2 ?_
        refine W.skip ?_
        refine thnN ?_
        refine W.region ?_
        refine RL.opD (by decide) (opv_move rfl rfl) ?_
        refine RL.opD (by decide) (opv_add rfl rfl rfl) ?_
        refine RL.opD (by decide) (opv_assign rfl rfl) ?_
        refine RL.nil ?_
        refine blkN ?_
        refine thnN ?_
        refine W.region ?_
        refine RL.opD (by decide) (opv_move rfl rfl) ?_
        refine RL.opD (by decide) (opv_add rfl rfl rfl) ?_
        refine RL.opD (by decide) (opv_assign rfl rfl) ?_
        refine RL.nil ?_
        have eo1 := Option.some.inj ho1
        subst eo1
        refine rndN (s' := (IntKind.wrap .i64 (x1 + 1), x2, IntKind.wrap .i64 (x3 + 1))) rfl ?_
        exact ⟨⟨rfl, rfl, rfl, rfl, trivial⟩, rfl⟩
    · rw [if_neg c1] at ho1
      have c1 := eq_false_of_ne_true c1
      refine W.condF rfl c1 ?_
      refine W.exit ?_
      refine thnX ?_
      refine rndX ?_
      refine blkI ?_
      have eo1 := Option.some.inj ho1
      subst eo1
      have ey1 := hy1 _ rfl
      subst ey1
      refine onlyN ?_
      exact ⟨x1, x2, x3, decide (x3 < (a0.length : Int)), rfl, ⟨rfl, rfl, rfl, rfl, rfl, trivial⟩, rfl⟩
  rintro φ' _ ⟨x4, x5, x6, x7, rfl, hs2, rfl⟩
  try dsimp only at hp
  refine thnN ?_
  refine W.sub hs2 ?_
  refine W.seq ?_
  refine W.region ?_
  refine RL.opD (by decide) (opv_move rfl rfl) ?_
  refine RL.opD (by decide) (opv_assign rfl rfl) ?_
  refine RL.nil ?_
  refine thnN ?_
  refine W.ret ?_
  have er := Option.some.inj hp
  subst er
  exact Rt.one rfl rfl ⟨rfl, rfl⟩

set_option maxRecDepth 20000 in
theorem laws_FnExactSpectrumOf_ok (h0 : Heap) (u0 : Value) (a0 : List (Option Nat)) (g0 : SL (kF .f32) h0.size h0 u0 a0) (r : Bool) (hp : laws_FnExactSpectrumOf a0 = some r) : CallsH Try.prog 8 ([u0].toArray ++ [].toArray) h0 (fun v h' => v = (.bool r) ∧ Mod [] h0 h' ∧ Sep [] h0.size h' []) := by
  unfold laws_FnExactSpectrumOf at hp
  refine callsH_of_W (l := [u0]) (cap := []) 93 Try.func8 rfl rfl rfl ?_
  refine W.seq ?_
  refine W.region ?_
  refine RL.opD (by decide) (opv_assign rfl rfl) ?_
  refine RL.nil ?_
  refine thnN ?_
  refine W.seq ?_
  refine W.seq ?_
  refine W.region ?_
  refine RL.opD (by decide) (opv_move rfl rfl) ?_
  refine RL.opD (by decide) (opv_len rfl Try.underlying22 rfl g0) ?_
  refine RL.opD (by decide) (opv_icmp rfl rfl rfl rfl) ?_
  refine RL.nil ?_
  refine thnN ?_
  by_cases c1 : (decide ((a0.length : Int) > 1048576)) = true
  · rw [if_pos c1] at hp
    refine W.condT rfl c1 ?_
    refine W.seq ?_
    refine W.region ?_
    refine RL.opD (by decide) (opv_assign rfl rfl) ?_
    refine RL.nil ?_
    refine thnN ?_
    refine W.ret ?_
    refine thnR ?_
    have er := Option.some.inj hp
    subst er
    exact Rt.one rfl rfl ⟨rfl, (Mod.refl [] h0), (Sep.nil _ _ _)⟩
  · rw [if_neg c1] at hp
    have c1 := eq_false_of_ne_true c1
    refine W.condF rfl c1 ?_
    refine W.skip ?_
    refine thnN ?_
    refine W.seq ?_
    obtain ⟨x1, hx1, hp⟩ := Option.bind_eq_some_iff.1 hp
    obtain ⟨x2, hx2, hp⟩ := Option.bind_eq_some_iff.1 hp
    refine W.region ?_
    refine RL.opD (by decide) (opv_move rfl rfl) ?_
    refine RL.op _ (by decide) (opv_call (cap := []) (laws_toFloat32S_ok _ _ _ g0 _ hx1) rfl rfl ⟨rfl, trivial⟩ Try.func39 rfl rfl) ?_
    rintro v1 hp1 ⟨MT_1, T_1⟩
    have X_1 : Mod [] h0 hp1 := Mod.step (A := []) (L := []) (Mod.refl [] h0) (Sep.nil [] h0.size h0) MT_1
    have S_1 : Sep [] h0.size hp1 [ownO (kF .f32) 25 v1 x1] := Sep.step (A := []) (L := []) (Sep.nil [] h0.size h0) (Mod.size (Mod.refl [] h0)) MT_1 T_1
    refine RL.op _ (by decide) (opv_call (cap := []) (spec_SpectrumOf_ok _ _ _ (ownO.read (Sep.at (o := ownO (kF .f32) 25 v1 x1) S_1 0 rfl)) _ hx2) rfl rfl ⟨rfl, trivial⟩ Try.func38 rfl rfl) ?_
    rintro _ hp2 ⟨v2, rfl, MT_2, T_2⟩
    have X_2 : Mod [] h0 hp2 := Mod.step (A := []) (L := [ownO (kF .f32) 25 v1 x1]) X_1 S_1 MT_2
    have S_2 : Sep [] h0.size hp2 [ownO (kC .f32) 116 v2 x2.1, ownO (kF .f32) 25 v1 x1] := Sep.step (A := []) (L := [ownO (kF .f32) 25 v1 x1]) S_1 (Mod.size X_1) MT_2 T_2
    refine RL.opD (by decide) (opv_move rfl rfl) ?_
    refine RL.opD (by decide) (opv_extract rfl rfl rfl) ?_
    refine RL.opD (by decide) (opv_extract rfl rfl rfl) ?_
    refine RL.opD (by decide) (opv_assign rfl rfl) ?_
    refine RL.opD (by decide) (opv_assign rfl rfl) ?_
    refine RL.nil ?_
    refine thnN ?_
    refine W.seq ?_
    obtain ⟨x3, hx3, hp⟩ := Option.bind_eq_some_iff.1 hp
    refine W.region ?_
    refine RL.opD (by decide) (opv_move rfl rfl) ?_
    refine RL.op _ (by decide) (opv_call (cap := []) (laws_toFloat32S_ok _ _ _ (SL.up (SL.mod g0 X_2 (Nat.le_refl _) nob) (Nat.le_trans (Nat.le_refl _) (Mod.size X_2))) _ hx3) rfl rfl ⟨rfl, trivial⟩ Try.func39 rfl rfl) ?_
    rintro v3 hp3 ⟨MT_3, T_3⟩
    have X_3 : Mod [] h0 hp3 := Mod.step (A := []) (L := [ownO (kC .f32) 116 v2 x2.1, ownO (kF .f32) 25 v1 x1]) X_2 S_2 MT_3
    have S_3 : Sep [] h0.size hp3 [ownO (kF .f32) 25 v3 x3, ownO (kC .f32) 116 v2 x2.1, ownO (kF .f32) 25 v1 x1] := Sep.step (A := []) (L := [ownO (kC .f32) 116 v2 x2.1, ownO (kF .f32) 25 v1 x1]) S_2 (Mod.size X_2) MT_3 T_3
    refine RL.opD (by decide) (opv_assign rfl rfl) ?_
    refine RL.nil ?_
    refine thnN ?_
    refine W.seq ?_
    obtain ⟨x4, hx4, hp⟩ := Option.bind_eq_some_iff.1 hp
    refine W.region ?_
    refine RL.opD (by decide) (opv_move rfl rfl) ?_
    refine RL.op _ (by decide) (opv_call (cap := []) (impl_SpectrumOf_ok _ _ _ (ownO.read (Sep.at (o := ownO (kF .f32) 25 v3 x3) S_3 0 rfl)) _ hx4) rfl rfl ⟨rfl, trivial⟩ Try.func40 rfl rfl) ?_
    rintro _ hp4 ⟨v4, rfl, MT_4, T_4⟩
    have X_4 : Mod [] h0 hp4 := Mod.step (A := []) (L := [ownO (kF .f32) 25 v3 x3, ownO (kC .f32) 116 v2 x2.1, ownO (kF .f32) 25 v1 x1]) X_3 S_3 MT_4
    have S_4 : Sep [] h0.size hp4 [ownO (kC .f32) 116 v4 x4.1, ownO (kF .f32) 25 v3 x3, ownO (kC .f32) 116 v2 x2.1, ownO (kF .f32) 25 v1 x1] := Sep.step (A := []) (L := [ownO (kF .f32) 25 v3 x3, ownO (kC .f32) 116 v2 x2.1, ownO (kF .f32) 25 v1 x1]) S_3 (Mod.size X_3) MT_4 T_4
    refine RL.opD (by decide) (opv_move rfl rfl) ?_
    refine RL.opD (by decide) (opv_extract rfl rfl rfl) ?_
    refine RL.opD (by decide) (opv_extract rfl rfl rfl) ?_
    refine RL.opD (by decide) (opv_assign rfl rfl) ?_
    refine RL.opD (by decide) (opv_assign rfl rfl) ?_
    refine RL.nil ?_
    refine thnN ?_
    refine W.seq ?_
    refine W.seq ?_
    obtain ⟨x5, hy1, hp⟩ := Option.bind_eq_some_iff.1 hp
    refine W.cut (fun φ' h' => Fr.sub [(0, u0), (2, (.bool false)), (15, (.bool (decide ((a0.length : Int) > 1048576)))), (3, v2), (4, (.bool x2.2)), (5, v3), (6, v4), (7, (.bool x4.2)), (37, (.bool x5))] φ' ∧ hp4 = h') ?_ ?_
    · obtain ⟨x6, hx6, hy1⟩ := Option.bind_eq_some_iff.1 hy1
      by_cases c2 : (!x6) = true
      · rw [if_pos c2] at hy1
        refine W.region ?_
        refine RL.opD (by decide) (opv_move rfl rfl) ?_
        refine RL.opD (by decide) (opv_move rfl rfl) ?_
        refine RL.op _ (by decide) (opv_call (cap := []) (laws_eqComplex64S_ok _ _ _ (ownO.read (Sep.at (o := ownO (kC .f32) 116 v4 x4.1) S_4 0 rfl)) _ _ (ownO.read (Sep.at (o := ownO (kC .f32) 116 v2 x2.1) S_4 2 rfl)) _ hx6) rfl rfl ⟨rfl, rfl, trivial⟩ Try.func41 rfl rfl) ?_
        rintro _ _ ⟨rfl, rfl⟩
        refine RL.opD (by decide) (opv_not rfl rfl) ?_
        refine RL.opD (by decide) (opv_move rfl rfl) ?_
        refine RL.no rfl rfl (Eq.trans c2 (by decide)) (by decide) ?_
        refine RL.no rfl rfl (Eq.trans c2 (by decide)) (by decide) ?_
        refine RL.no rfl rfl (Eq.trans c2 (by decide)) (by decide) ?_
        refine RL.opD (by decide) (opv_pick rfl rfl (fun _ => rfl) (fun e => absurd (Eq.trans (Eq.symm e) c2) (by decide)) rfl) ?_
        refine RL.nil ?_
        have ey1 := Option.some.inj hy1
        subst ey1
        refine onlyN ?_
        exact ⟨⟨rfl, rfl, rfl, rfl, rfl, rfl, rfl, rfl, rfl, trivial⟩, rfl⟩
      · rw [if_neg c2] at hy1
        have c2 := eq_false_of_ne_true c2
        refine W.region ?_
        refine RL.opD (by decide) (opv_move rfl rfl) ?_
        refine RL.opD (by decide) (opv_move rfl rfl) ?_
        refine RL.op _ (by decide) (opv_call (cap := []) (laws_eqComplex64S_ok _ _ _ (ownO.read (Sep.at (o := ownO (kC .f32) 116 v4 x4.1) S_4 0 rfl)) _ _ (ownO.read (Sep.at (o := ownO (kC .f32) 116 v2 x2.1) S_4 2 rfl)) _ hx6) rfl rfl ⟨rfl, rfl, trivial⟩ Try.func41 rfl rfl) ?_
        rintro _ _ ⟨rfl, rfl⟩
        refine RL.opD (by decide) (opv_not rfl rfl) ?_
        refine RL.opD (by decide) (opv_move rfl rfl) ?_
        refine RL.yes _ rfl rfl c2 (by decide) (opv_move rfl rfl) ?_
        rintro _ _ ⟨rfl, rfl⟩
        refine RL.yes _ rfl rfl c2 (by decide) (opv_move rfl rfl) ?_
        rintro _ _ ⟨rfl, rfl⟩
        refine RL.yes _ rfl rfl c2 (by decide) (opv_bcmp rfl rfl Try.underlying4 rfl rfl) ?_
        rintro _ _ ⟨rfl, rfl⟩
        refine RL.opD (by decide) (opv_pick rfl rfl (fun e => absurd (Eq.trans (Eq.symm e) c2) (by decide)) (fun _ => rfl) rfl) ?_
        refine RL.nil ?_
        have ey1 := Option.some.inj hy1
        subst ey1
        refine onlyN ?_
        exact ⟨⟨rfl, rfl, rfl, rfl, rfl, rfl, rfl, rfl, rfl, trivial⟩, rfl⟩
    rintro φ' _ ⟨hs1, rfl⟩
    refine thnN ?_
    refine W.sub hs1 ?_
    by_cases c3 : x5 = true
    · rw [if_pos c3] at hp
      refine W.condT rfl c3 ?_
      refine W.seq ?_
      refine W.region ?_
      refine RL.opD (by decide) (opv_assign rfl rfl) ?_
      refine RL.nil ?_
      refine thnN ?_
      refine W.ret ?_
      refine thnR ?_
      have er := Option.some.inj hp
      subst er
      exact Rt.one rfl rfl ⟨rfl, X_4, (Sep.nil _ _ _)⟩
    · rw [if_neg c3] at hp
      have c3 := eq_false_of_ne_true c3
      refine W.condF rfl c3 ?_
      refine W.skip ?_
      refine thnN ?_
      refine W.seq ?_
      refine W.seq ?_
      obtain ⟨x7, hx7, hp⟩ := Option.bind_eq_some_iff.1 hp
      obtain ⟨x8, hx8, hp⟩ := Option.bind_eq_some_iff.1 hp
      refine W.region ?_
      refine RL.opD (by decide) (opv_move rfl rfl) ?_
      refine RL.opD (by decide) (opv_move rfl rfl) ?_
      refine RL.op _ (by decide) (opv_call (cap := []) (laws_toFloat32S_ok _ _ _ (SL.up (SL.mod g0 X_4 (Nat.le_refl _) nob) (Nat.le_trans (Nat.le_refl _) (Mod.size X_4))) _ hx7) rfl rfl ⟨rfl, trivial⟩ Try.func39 rfl rfl) ?_
      rintro v5 hp5 ⟨MT_5, T_5⟩
      have X_5 : Mod [] h0 hp5 := Mod.step (A := []) (L := [ownO (kC .f32) 116 v4 x4.1, ownO (kF .f32) 25 v3 x3, ownO (kC .f32) 116 v2 x2.1, ownO (kF .f32) 25 v1 x1]) X_4 S_4 MT_5
      have S_5 : Sep [] h0.size hp5 [ownO (kF .f32) 25 v5 x7, ownO (kC .f32) 116 v4 x4.1, ownO (kF .f32) 25 v3 x3, ownO (kC .f32) 116 v2 x2.1, ownO (kF .f32) 25 v1 x1] := Sep.step (A := []) (L := [ownO (kC .f32) 116 v4 x4.1, ownO (kF .f32) 25 v3 x3, ownO (kC .f32) 116 v2 x2.1, ownO (kF .f32) 25 v1 x1]) S_4 (Mod.size X_4) MT_5 T_5
      refine RL.op _ (by decide) (opv_call (cap := []) (laws_eqFloat32S_ok _ _ _ (ownO.read (Sep.at (o := ownO (kF .f32) 25 v3 x3) S_5 2 rfl)) _ _ (ownO.read (Sep.at (o := ownO (kF .f32) 25 v5 x7) S_5 0 rfl)) _ hx8) rfl rfl ⟨rfl, rfl, trivial⟩ Try.func42 rfl rfl) ?_
      rintro _ _ ⟨rfl, rfl⟩
      refine RL.opD (by decide) (opv_not rfl rfl) ?_
      refine RL.nil ?_
      refine thnN ?_
      by_cases c4 : (!x8) = true
      · rw [if_pos c4] at hp
        refine W.condT rfl c4 ?_
        refine W.seq ?_
        refine W.region ?_
        refine RL.opD (by decide) (opv_assign rfl rfl) ?_
        refine RL.nil ?_
        refine thnN ?_
        refine W.ret ?_
        refine thnR ?_
        have er := Option.some.inj hp
        subst er
        exact Rt.one rfl rfl ⟨rfl, X_5, (Sep.nil _ _ _)⟩
      · rw [if_neg c4] at hp
        have c4 := eq_false_of_ne_true c4
        refine W.condF rfl c4 ?_
        refine W.skip ?_
        refine thnN ?_
        refine W.seq ?_
        refine W.region ?_
        refine RL.opD (by decide) (opv_assign rfl rfl) ?_
        refine RL.nil ?_
        refine thnN ?_
        refine W.seq ?_
        obtain ⟨x9, hx9, hp⟩ := Option.bind_eq_some_iff.1 hp
        refine W.region ?_
        refine RL.opD (by decide) (opv_move rfl rfl) ?_
        refine RL.opD (by decide) (opv_move rfl rfl) ?_
        have S_7 : Sep [] h0.size hp5 [ownO (kF .f32) 25 v3 x3] := Sep.sel S_5 [2] (by decide)
        have S_6 : Sep [v3.ownBlock] hp5.size hp5 [ownO (kF .f32) 25 v3 x3] := Sep.own S_7 _
        refine RL.op _ (by decide) (opv_call (cap := []) (laws_markFloat32S_ok _ h0.size (Nat.le_trans (Nat.le_refl _) (Mod.size X_5)) _ _ _ S_6 (Sep.ge (L := [ownO (kF .f32) 25 v3 x3]) S_7 (Nat.le_refl _) nob) _ hx9) rfl rfl ⟨rfl, rfl, trivial⟩ Try.func43 rfl rfl) ?_
        rintro _ hp6 ⟨rfl, MT_6, T_6⟩
        have S_8 : Sep [] h0.size hp5 ([ownO (kF .f32) 25 v3 x3] ++ [ownO (kF .f32) 25 v5 x7, ownO (kC .f32) 116 v4 x4.1, ownO (kC .f32) 116 v2 x2.1, ownO (kF .f32) 25 v1 x1]) := Sep.sel S_5 [2, 0, 1, 3, 4] (by decide)
        have X_6 : Mod [] h0 hp6 := Mod.step (A := [ownO (kF .f32) 25 v3 x3]) (L := [ownO (kF .f32) 25 v5 x7, ownO (kC .f32) 116 v4 x4.1, ownO (kC .f32) 116 v2 x2.1, ownO (kF .f32) 25 v1 x1]) X_5 S_8 MT_6
        have S_9 : Sep [] h0.size hp6 [ownO (kF .f32) 25 v3 x9.2, ownO (kF .f32) 25 v5 x7, ownO (kC .f32) 116 v4 x4.1, ownO (kC .f32) 116 v2 x2.1, ownO (kF .f32) 25 v1 x1] := Sep.step (A := [ownO (kF .f32) 25 v3 x3]) (L := [ownO (kF .f32) 25 v5 x7, ownO (kC .f32) 116 v4 x4.1, ownO (kC .f32) 116 v2 x2.1, ownO (kF .f32) 25 v1 x1]) S_8 (Mod.size X_5) MT_6 T_6
        refine RL.opD (by decide) (opv_assign rfl rfl) ?_
        refine RL.nil ?_
        refine thnN ?_
        refine W.seq ?_
        refine W.seq ?_
        obtain ⟨x10, hy2, hp⟩ := Option.bind_eq_some_iff.1 hp
        refine W.cut (fun φ' h' => Fr.sub [(0, u0), (2, (.bool false)), (15, (.bool (decide ((a0.length : Int) > 1048576)))), (3, v2), (4, (.bool x2.2)), (5, v3), (6, v4), (7, (.bool x4.2)), (37, (.bool x5)), (42, (.bool (!x8))), (8, (.int .i64 x9.1)), (58, (.bool x10))] φ' ∧ hp6 = h') ?_ ?_
        · by_cases c5 : (decide (x9.1 < 0)) = true
          · rw [if_pos c5] at hy2
            refine W.region ?_
            refine RL.opD (by decide) (opv_move rfl rfl) ?_
            refine RL.opD (by decide) (opv_icmp rfl rfl rfl rfl) ?_
            refine RL.opD (by decide) (opv_move rfl rfl) ?_
            refine RL.no rfl rfl (Eq.trans c5 (by decide)) (by decide) ?_
            refine RL.no rfl rfl (Eq.trans c5 (by decide)) (by decide) ?_
            refine RL.no rfl rfl (Eq.trans c5 (by decide)) (by decide) ?_
            refine RL.no rfl rfl (Eq.trans c5 (by decide)) (by decide) ?_
            refine RL.opD (by decide) (opv_pick rfl rfl (fun _ => rfl) (fun e => absurd (Eq.trans (Eq.symm e) c5) (by decide)) rfl) ?_
            refine RL.opD (by decide) (opv_move rfl rfl) ?_
            refine RL.no rfl rfl (Eq.trans rfl (by decide)) (by decide) ?_
            refine RL.no rfl rfl (Eq.trans rfl (by decide)) (by decide) ?_
            refine RL.no rfl rfl (Eq.trans rfl (by decide)) (by decide) ?_
            refine RL.opD (by decide) (opv_pick rfl rfl (fun _ => rfl) (fun e => absurd (Eq.trans (Eq.symm e) rfl) (by decide)) rfl) ?_
            refine RL.nil ?_
            have ey2 := Option.some.inj hy2
            subst ey2
            refine onlyN ?_
            exact ⟨⟨rfl, rfl, rfl, rfl, rfl, rfl, rfl, rfl, rfl, rfl, rfl, rfl, trivial⟩, rfl⟩
          · rw [if_neg c5] at hy2
            have c5 := eq_false_of_ne_true c5
            obtain ⟨x11, hx11, hy2⟩ := Option.bind_eq_some_iff.1 hy2
            by_cases c6 : (!x11) = true
            · rw [if_pos c6] at hy2
              refine W.region ?_
              refine RL.opD (by decide) (opv_move rfl rfl) ?_
              refine RL.opD (by decide) (opv_icmp rfl rfl rfl rfl) ?_
              refine RL.opD (by decide) (opv_move rfl rfl) ?_
              refine RL.yes _ rfl rfl c5 (by decide) (opv_move rfl rfl) ?_
              rintro _ _ ⟨rfl, rfl⟩
              refine RL.yes _ rfl rfl c5 (by decide) (opv_move rfl rfl) ?_
              rintro _ _ ⟨rfl, rfl⟩
              refine RL.yes _ rfl rfl c5 (by decide) (opv_call (cap := []) (laws_eqComplex64S_ok _ _ _ (ownO.read (Sep.at (o := ownO (kC .f32) 116 v4 x4.1) S_9 2 rfl)) _ _ (ownO.read (Sep.at (o := ownO (kC .f32) 116 v2 x2.1) S_9 3 rfl)) _ hx11) rfl rfl ⟨rfl, rfl, trivial⟩ Try.func41 rfl rfl) ?_
              rintro _ _ ⟨rfl, rfl⟩
              refine RL.yes _ rfl rfl c5 (by decide) (opv_not rfl rfl) ?_
              rintro _ _ ⟨rfl, rfl⟩
              refine RL.opD (by decide) (opv_pick rfl rfl (fun e => absurd (Eq.trans (Eq.symm e) c5) (by decide)) (fun _ => rfl) rfl) ?_
              refine RL.opD (by decide) (opv_move rfl rfl) ?_
              refine RL.no rfl rfl (Eq.trans c6 (by decide)) (by decide) ?_
              refine RL.no rfl rfl (Eq.trans c6 (by decide)) (by decide) ?_
              refine RL.no rfl rfl (Eq.trans c6 (by decide)) (by decide) ?_
              refine RL.opD (by decide) (opv_pick rfl rfl (fun _ => rfl) (fun e => absurd (Eq.trans (Eq.symm e) c6) (by decide)) rfl) ?_
              refine RL.nil ?_
              have ey2 := Option.some.inj hy2
              subst ey2
              refine onlyN ?_
              exact ⟨⟨rfl, rfl, rfl, rfl, rfl, rfl, rfl, rfl, rfl, rfl, rfl, rfl, trivial⟩, rfl⟩
            · rw [if_neg c6] at hy2
              have c6 := eq_false_of_ne_true c6
              refine W.region ?_
              refine RL.opD (by decide) (opv_move rfl rfl) ?_
              refine RL.opD (by decide) (opv_icmp rfl rfl rfl rfl) ?_
              refine RL.opD (by decide) (opv_move rfl rfl) ?_
              refine RL.yes _ rfl rfl c5 (by decide) (opv_move rfl rfl) ?_
              rintro _ _ ⟨rfl, rfl⟩
              refine RL.yes _ rfl rfl c5 (by decide) (opv_move rfl rfl) ?_
              rintro _ _ ⟨rfl, rfl⟩
              refine RL.yes _ rfl rfl c5 (by decide) (opv_call (cap := []) (laws_eqComplex64S_ok _ _ _ (ownO.read (Sep.at (o := ownO (kC .f32) 116 v4 x4.1) S_9 2 rfl)) _ _ (ownO.read (Sep.at (o := ownO (kC .f32) 116 v2 x2.1) S_9 3 rfl)) _ hx11) rfl rfl ⟨rfl, rfl, trivial⟩ Try.func41 rfl rfl) ?_
              rintro _ _ ⟨rfl, rfl⟩
              refine RL.yes _ rfl rfl c5 (by decide) (opv_not rfl rfl) ?_
              rintro _ _ ⟨rfl, rfl⟩
              refine RL.opD (by decide) (opv_pick rfl rfl (fun e => absurd (Eq.trans (Eq.symm e) c5) (by decide)) (fun _ => rfl) rfl) ?_
              refine RL.opD (by decide) (opv_move rfl rfl) ?_
              refine RL.yes _ rfl rfl c6 (by decide) (opv_move rfl rfl) ?_
              rintro _ _ ⟨rfl, rfl⟩
              refine RL.yes _ rfl rfl c6 (by decide) (opv_move rfl rfl) ?_
              rintro _ _ ⟨rfl, rfl⟩
              refine RL.yes _ rfl rfl c6 (by decide) (opv_bcmp rfl rfl Try.underlying4 rfl rfl) ?_
              rintro _ _ ⟨rfl, rfl⟩
              refine RL.opD (by decide) (opv_pick rfl rfl (fun e => absurd (Eq.trans (Eq.symm e) c6) (by decide)) (fun _ => rfl) rfl) ?_
              refine RL.nil ?_
              have ey2 := Option.some.inj hy2
              subst ey2
              refine onlyN ?_
              exact ⟨⟨rfl, rfl, rfl, rfl, rfl, rfl, rfl, rfl, rfl, rfl, rfl, rfl, trivial⟩, rfl⟩
        rintro φ' _ ⟨hs2, rfl⟩
        refine thnN ?_
        refine W.sub hs2 ?_
        by_cases c7 : x10 = true
        · rw [if_pos c7] at hp
          refine W.condT rfl c7 ?_
          refine W.seq ?_
          refine W.region ?_
          refine RL.opD (by decide) (opv_assign rfl rfl) ?_
          refine RL.nil ?_
          refine thnN ?_
          refine W.ret ?_
          refine thnR ?_
          have er := Option.some.inj hp
          subst er
          exact Rt.one rfl rfl ⟨rfl, X_6, (Sep.nil _ _ _)⟩
        · rw [if_neg c7] at hp
          have c7 := eq_false_of_ne_true c7
          refine W.condF rfl c7 ?_
          refine W.skip ?_
          refine thnN ?_
          refine W.seq ?_
          refine W.region ?_
          refine RL.opD (by decide) (opv_assign rfl rfl) ?_
          refine RL.nil ?_
          refine thnN ?_
          refine W.seq ?_
          obtain ⟨x12, hx12, hp⟩ := Option.bind_eq_some_iff.1 hp
          refine W.region ?_
          refine RL.opD (by decide) (opv_move rfl rfl) ?_
          refine RL.opD (by decide) (opv_move rfl rfl) ?_
          have S_11 : Sep [] h0.size hp6 [ownO (kC .f32) 116 v4 x4.1] := Sep.sel S_9 [2] (by decide)
          have S_10 : Sep [v4.ownBlock] hp6.size hp6 [ownO (kC .f32) 116 v4 x4.1] := Sep.own S_11 _
          refine RL.op _ (by decide) (opv_call (cap := []) (laws_markComplex64S_ok _ h0.size (Nat.le_trans (Nat.le_refl _) (Mod.size X_6)) _ _ _ S_10 (Sep.ge (L := [ownO (kC .f32) 116 v4 x4.1]) S_11 (Nat.le_refl _) nob) _ hx12) rfl rfl ⟨rfl, rfl, trivial⟩ Try.func44 rfl rfl) ?_
          rintro _ hp7 ⟨rfl, MT_7, T_7⟩
          have S_12 : Sep [] h0.size hp6 ([ownO (kC .f32) 116 v4 x4.1] ++ [ownO (kF .f32) 25 v3 x9.2, ownO (kF .f32) 25 v5 x7, ownO (kC .f32) 116 v2 x2.1, ownO (kF .f32) 25 v1 x1]) := Sep.sel S_9 [2, 0, 1, 3, 4] (by decide)
          have X_7 : Mod [] h0 hp7 := Mod.step (A := [ownO (kC .f32) 116 v4 x4.1]) (L := [ownO (kF .f32) 25 v3 x9.2, ownO (kF .f32) 25 v5 x7, ownO (kC .f32) 116 v2 x2.1, ownO (kF .f32) 25 v1 x1]) X_6 S_12 MT_7
          have S_13 : Sep [] h0.size hp7 [ownO (kC .f32) 116 v4 x12.2, ownO (kF .f32) 25 v3 x9.2, ownO (kF .f32) 25 v5 x7, ownO (kC .f32) 116 v2 x2.1, ownO (kF .f32) 25 v1 x1] := Sep.step (A := [ownO (kC .f32) 116 v4 x4.1]) (L := [ownO (kF .f32) 25 v3 x9.2, ownO (kF .f32) 25 v5 x7, ownO (kC .f32) 116 v2 x2.1, ownO (kF .f32) 25 v1 x1]) S_12 (Mod.size X_6) MT_7 T_7
          refine RL.opD (by decide) (opv_assign rfl rfl) ?_
          refine RL.nil ?_
          refine thnN ?_
          refine W.seq ?_
          refine W.region ?_
          refine RL.opD (by decide) (opv_assign rfl rfl) ?_
          refine RL.nil ?_
          refine thnN ?_
          refine W.seq ?_
          obtain ⟨x13, hx13, hp⟩ := Option.bind_eq_some_iff.1 hp
          refine W.region ?_
          refine RL.opD (by decide) (opv_move rfl rfl) ?_
          refine RL.opD (by decide) (opv_move rfl rfl) ?_
          refine RL.op _ (by decide) (opv_call (cap := []) (laws_heldComplex64S_ok _ _ _ (ownO.read (Sep.at (o := ownO (kC .f32) 116 v4 x12.2) S_13 0 rfl)) _ _ hx13) rfl rfl ⟨rfl, rfl, trivial⟩ Try.func45 rfl rfl) ?_
          rintro _ _ ⟨rfl, rfl⟩
          refine RL.opD (by decide) (opv_assign rfl rfl) ?_
          refine RL.nil ?_
          refine thnN ?_
          refine W.seq ?_
          refine W.seq ?_
          refine W.region ?_
          refine RL.opD (by decide) (opv_move rfl rfl) ?_
          refine RL.opD (by decide) (opv_icmp rfl rfl rfl rfl) ?_
          refine RL.nil ?_
          refine thnN ?_
          by_cases c8 : (decide (x13 < 0)) = true
          · rw [if_pos c8] at hp
            refine W.condT rfl c8 ?_
            refine W.seq ?_
            refine W.region ?_
            refine RL.opD (by decide) (opv_assign rfl rfl) ?_
            refine RL.nil ?_
            refine thnN ?_
            refine W.ret ?_
            refine thnR ?_
            have er := Option.some.inj hp
            subst er
            exact Rt.one rfl rfl ⟨rfl, X_7, (Sep.nil _ _ _)⟩
          · rw [if_neg c8] at hp
            have c8 := eq_false_of_ne_true c8
            refine W.condF rfl c8 ?_
            refine W.skip ?_
            refine thnN ?_
            refine W.seq ?_
            refine W.seq ?_
            refine W.region ?_
            refine RL.opD (by decide) (opv_move rfl rfl) ?_
            refine RL.opD (by decide) (opv_move rfl rfl) ?_
            refine RL.opD (by decide) (opv_icmp rfl rfl rfl rfl) ?_
            refine RL.nil ?_
            refine thnN ?_
            by_cases c9 : (x13 != x12.1) = true
            · rw [if_pos c9] at hp
              refine W.condT rfl c9 ?_
              refine W.seq ?_
              refine W.region ?_
              refine RL.opD (by decide) (opv_assign rfl rfl) ?_
              refine RL.nil ?_
              refine thnN ?_
              refine W.ret ?_
              refine thnR ?_
              have er := Option.some.inj hp
              subst er
              exact Rt.one rfl rfl ⟨rfl, X_7, (Sep.nil _ _ _)⟩
            · rw [if_neg c9] at hp
              have c9 := eq_false_of_ne_true c9
              refine W.condF rfl c9 ?_
              refine W.skip ?_
              refine thnN ?_
              refine W.seq ?_
              obtain ⟨x14, hx14, hp⟩ := Option.bind_eq_some_iff.1 hp
              obtain ⟨x15, hx15, hp⟩ := Option.bind_eq_some_iff.1 hp
              refine W.region ?_
              refine RL.opD (by decide) (opv_move rfl rfl) ?_
              refine RL.op _ (by decide) (opv_call (cap := []) (laws_toFloat32S_ok _ _ _ (SL.up (SL.mod g0 X_7 (Nat.le_refl _) nob) (Nat.le_trans (Nat.le_refl _) (Mod.size X_7))) _ hx14) rfl rfl ⟨rfl, trivial⟩ Try.func39 rfl rfl) ?_
              rintro v6 hp8 ⟨MT_8, T_8⟩
              have X_8 : Mod [] h0 hp8 := Mod.step (A := []) (L := [ownO (kC .f32) 116 v4 x12.2, ownO (kF .f32) 25 v3 x9.2, ownO (kF .f32) 25 v5 x7, ownO (kC .f32) 116 v2 x2.1, ownO (kF .f32) 25 v1 x1]) X_7 S_13 MT_8
              have S_14 : Sep [] h0.size hp8 [ownO (kF .f32) 25 v6 x14, ownO (kC .f32) 116 v4 x12.2, ownO (kF .f32) 25 v3 x9.2, ownO (kF .f32) 25 v5 x7, ownO (kC .f32) 116 v2 x2.1, ownO (kF .f32) 25 v1 x1] := Sep.step (A := []) (L := [ownO (kC .f32) 116 v4 x12.2, ownO (kF .f32) 25 v3 x9.2, ownO (kF .f32) 25 v5 x7, ownO (kC .f32) 116 v2 x2.1, ownO (kF .f32) 25 v1 x1]) S_13 (Mod.size X_7) MT_8 T_8
              refine RL.op _ (by decide) (opv_call (cap := []) (impl_SpectrumOf_ok _ _ _ (ownO.read (Sep.at (o := ownO (kF .f32) 25 v6 x14) S_14 0 rfl)) _ hx15) rfl rfl ⟨rfl, trivial⟩ Try.func40 rfl rfl) ?_
              rintro _ hp9 ⟨v7, rfl, MT_9, T_9⟩
              have X_9 : Mod [] h0 hp9 := Mod.step (A := []) (L := [ownO (kF .f32) 25 v6 x14, ownO (kC .f32) 116 v4 x12.2, ownO (kF .f32) 25 v3 x9.2, ownO (kF .f32) 25 v5 x7, ownO (kC .f32) 116 v2 x2.1, ownO (kF .f32) 25 v1 x1]) X_8 S_14 MT_9
              have S_15 : Sep [] h0.size hp9 [ownO (kC .f32) 116 v7 x15.1, ownO (kF .f32) 25 v6 x14, ownO (kC .f32) 116 v4 x12.2, ownO (kF .f32) 25 v3 x9.2, ownO (kF .f32) 25 v5 x7, ownO (kC .f32) 116 v2 x2.1, ownO (kF .f32) 25 v1 x1] := Sep.step (A := []) (L := [ownO (kF .f32) 25 v6 x14, ownO (kC .f32) 116 v4 x12.2, ownO (kF .f32) 25 v3 x9.2, ownO (kF .f32) 25 v5 x7, ownO (kC .f32) 116 v2 x2.1, ownO (kF .f32) 25 v1 x1]) S_14 (Mod.size X_8) MT_9 T_9
              refine RL.opD (by decide) (opv_move rfl rfl) ?_
              refine RL.opD (by decide) (opv_extract rfl rfl rfl) ?_
              refine RL.opD (by decide) (opv_extract rfl rfl rfl) ?_
              refine RL.opD (by decide) (opv_assign rfl rfl) ?_
              refine RL.opD (by decide) (opv_assign rfl rfl) ?_
              refine RL.nil ?_
              refine thnN ?_
              refine W.seq ?_
              refine W.seq ?_
              obtain ⟨x16, hy3, hp⟩ := Option.bind_eq_some_iff.1 hp
              refine W.cut (fun φ' h' => Fr.sub [(0, u0), (2, (.bool false)), (15, (.bool (decide ((a0.length : Int) > 1048576)))), (3, v2), (4, (.bool x2.2)), (5, v3), (6, v4), (7, (.bool x4.2)), (37, (.bool x5)), (42, (.bool (!x8))), (8, (.int .i64 x9.1)), (58, (.bool x10)), (9, (.int .i64 x12.1)), (10, (.int .i64 x13)), (66, (.bool (decide (x13 < 0)))), (69, (.bool (x13 != x12.1))), (11, v7), (12, (.bool x15.2)), (84, (.bool x16))] φ' ∧ hp9 = h') ?_ ?_
              · obtain ⟨x17, hx17, hy3⟩ := Option.bind_eq_some_iff.1 hy3
                by_cases c10 : (!x17) = true
                · rw [if_pos c10] at hy3
                  refine W.region ?_
                  refine RL.opD (by decide) (opv_move rfl rfl) ?_
                  refine RL.opD (by decide) (opv_move rfl rfl) ?_
                  refine RL.op _ (by decide) (opv_call (cap := []) (laws_eqComplex64S_ok _ _ _ (ownO.read (Sep.at (o := ownO (kC .f32) 116 v7 x15.1) S_15 0 rfl)) _ _ (ownO.read (Sep.at (o := ownO (kC .f32) 116 v2 x2.1) S_15 5 rfl)) _ hx17) rfl rfl ⟨rfl, rfl, trivial⟩ Try.func41 rfl rfl) ?_
                  rintro _ _ ⟨rfl, rfl⟩
                  refine RL.opD (by decide) (opv_not rfl rfl) ?_
                  refine RL.opD (by decide) (opv_move rfl rfl) ?_
                  refine RL.no rfl rfl (Eq.trans c10 (by decide)) (by decide) ?_
                  refine RL.no rfl rfl (Eq.trans c10 (by decide)) (by decide) ?_
                  refine RL.no rfl rfl (Eq.trans c10 (by decide)) (by decide) ?_
                  refine RL.opD (by decide) (opv_pick rfl rfl (fun _ => rfl) (fun e => absurd (Eq.trans (Eq.symm e) c10) (by decide)) rfl) ?_
                  refine RL.nil ?_
                  have ey3 := Option.some.inj hy3
                  subst ey3
                  refine onlyN ?_
                  exact ⟨⟨rfl, rfl, rfl, rfl, rfl, rfl, rfl, rfl, rfl, rfl, rfl, rfl, rfl, rfl, rfl, rfl, rfl, rfl, rfl, trivial⟩, rfl⟩
                · rw [if_neg c10] at hy3
                  have c10 := eq_false_of_ne_true c10
                  refine W.region ?_
                  refine RL.opD (by decide) (opv_move rfl rfl) ?_
                  refine RL.opD (by decide) (opv_move rfl rfl) ?_
                  refine RL.op _ (by decide) (opv_call (cap := []) (laws_eqComplex64S_ok _ _ _ (ownO.read (Sep.at (o := ownO (kC .f32) 116 v7 x15.1) S_15 0 rfl)) _ _ (ownO.read (Sep.at (o := ownO (kC .f32) 116 v2 x2.1) S_15 5 rfl)) _ hx17) rfl rfl ⟨rfl, rfl, trivial⟩ Try.func41 rfl rfl) ?_
                  rintro _ _ ⟨rfl, rfl⟩
                  refine RL.opD (by decide) (opv_not rfl rfl) ?_
                  refine RL.opD (by decide) (opv_move rfl rfl) ?_
                  refine RL.yes _ rfl rfl c10 (by decide) (opv_move rfl rfl) ?_
                  rintro _ _ ⟨rfl, rfl⟩
                  refine RL.yes _ rfl rfl c10 (by decide) (opv_move rfl rfl) ?_
                  rintro _ _ ⟨rfl, rfl⟩
                  refine RL.yes _ rfl rfl c10 (by decide) (opv_bcmp rfl rfl Try.underlying4 rfl rfl) ?_
                  rintro _ _ ⟨rfl, rfl⟩
                  refine RL.opD (by decide) (opv_pick rfl rfl (fun e => absurd (Eq.trans (Eq.symm e) c10) (by decide)) (fun _ => rfl) rfl) ?_
                  refine RL.nil ?_
                  have ey3 := Option.some.inj hy3
                  subst ey3
                  refine onlyN ?_
                  exact ⟨⟨rfl, rfl, rfl, rfl, rfl, rfl, rfl, rfl, rfl, rfl, rfl, rfl, rfl, rfl, rfl, rfl, rfl, rfl, rfl, trivial⟩, rfl⟩
              rintro φ' _ ⟨hs3, rfl⟩
              refine thnN ?_
              refine W.sub hs3 ?_
              by_cases c11 : x16 = true
              · rw [if_pos c11] at hp
                refine W.condT rfl c11 ?_
                refine W.seq ?_
                refine W.region ?_
                refine RL.opD (by decide) (opv_assign rfl rfl) ?_
                refine RL.nil ?_
                refine thnN ?_
                refine W.ret ?_
                refine thnR ?_
                have er := Option.some.inj hp
                subst er
                exact Rt.one rfl rfl ⟨rfl, X_9, (Sep.nil _ _ _)⟩
              · rw [if_neg c11] at hp
                have c11 := eq_false_of_ne_true c11
                refine W.condF rfl c11 ?_
                refine W.skip ?_
                refine thnN ?_
                refine W.seq ?_
                refine W.region ?_
                refine RL.opD (by decide) (opv_assign rfl rfl) ?_
                refine RL.nil ?_
                refine thnN ?_
                refine W.seq ?_
                obtain ⟨x18, hx18, hp⟩ := Option.bind_eq_some_iff.1 hp
                refine W.region ?_
                refine RL.opD (by decide) (opv_move rfl rfl) ?_
                refine RL.opD (by decide) (opv_move rfl rfl) ?_
                refine RL.op _ (by decide) (opv_call (cap := []) (laws_heldComplex64S_ok _ _ _ (ownO.read (Sep.at (o := ownO (kC .f32) 116 v4 x12.2) S_15 2 rfl)) _ _ hx18) rfl rfl ⟨rfl, rfl, trivial⟩ Try.func45 rfl rfl) ?_
                rintro _ _ ⟨rfl, rfl⟩
                refine RL.opD (by decide) (opv_assign rfl rfl) ?_
                refine RL.nil ?_
                refine thnN ?_
                refine W.seq ?_
                refine W.seq ?_
                refine W.region ?_
                refine RL.opD (by decide) (opv_move rfl rfl) ?_
                refine RL.opD (by decide) (opv_icmp rfl rfl rfl rfl) ?_
                refine RL.nil ?_
                refine thnN ?_
                by_cases c12 : (decide (x18 < 0)) = true
                · rw [if_pos c12] at hp
                  refine W.condT rfl c12 ?_
                  refine W.seq ?_
                  refine W.region ?_
                  refine RL.opD (by decide) (opv_assign rfl rfl) ?_
                  refine RL.nil ?_
                  refine thnN ?_
                  refine W.ret ?_
                  refine thnR ?_
                  have er := Option.some.inj hp
                  subst er
                  exact Rt.one rfl rfl ⟨rfl, X_9, (Sep.nil _ _ _)⟩
                · rw [if_neg c12] at hp
                  have c12 := eq_false_of_ne_true c12
                  refine W.condF rfl c12 ?_
                  refine W.skip ?_
                  refine thnN ?_
                  refine W.seq ?_
                  refine W.seq ?_
                  refine W.region ?_
                  refine RL.opD (by decide) (opv_move rfl rfl) ?_
                  refine RL.opD (by decide) (opv_move rfl rfl) ?_
                  refine RL.opD (by decide) (opv_icmp rfl rfl rfl rfl) ?_
                  refine RL.nil ?_
                  refine thnN ?_
                  by_cases c13 : (x18 != x12.1) = true
                  · rw [if_pos c13] at hp
                    refine W.condT rfl c13 ?_
                    refine W.seq ?_
                    refine W.region ?_
                    refine RL.opD (by decide) (opv_assign rfl rfl) ?_
                    refine RL.nil ?_
                    refine thnN ?_
                    refine W.ret ?_
                    refine thnR ?_
                    have er := Option.some.inj hp
                    subst er
                    exact Rt.one rfl rfl ⟨rfl, X_9, (Sep.nil _ _ _)⟩
                  · rw [if_neg c13] at hp
                    have c13 := eq_false_of_ne_true c13
                    refine W.condF rfl c13 ?_
                    refine W.skip ?_
                    refine thnN ?_
                    refine W.seq ?_
                    refine W.region ?_
                    refine RL.opD (by decide) (opv_assign rfl rfl) ?_
                    refine RL.nil ?_
                    refine thnN ?_
                    refine W.ret ?_
                    have er := Option.some.inj hp
                    subst er
                    exact Rt.one rfl rfl ⟨rfl, X_9, (Sep.nil _ _ _)⟩

end Go.H
