/- Functions of the program: what each computes, as a plain function, and that the call comes to it. Written by a program (wip/gen). -/
import Derived.Test.YtohfgnjmgipehaaPGrid
import Derived.Test.YtohfgnjmgipehaaBase19
import Derived.Test.YtohfgnjmgipehaaProg
import Derived.KernelRfl
set_option linter.unusedVariables false
namespace Go.H
open Go Go.Proofs

theorem _root_.Go.Proofs.Try.einfo31 : elemInfo Try.prog 31 = some ((.agg [(.int .i64 0), (.int .i64 0)].toArray), 2, 16) := by kernel_rfl

noncomputable def spec_l07Strips.s0 (a0 : Int) (a1 : Int) (x1 : List ((Int × Int))) (x2 : Int) (x3 : Int) : Option (((List ((Int × Int))) × Int × Int) ⊕ (Int × Int × Bool × (List ((Int × Int))))) :=
  (if (decide (x3 < a1)) = true then (if a1 = 0 then none else (if a1 = 0 then none else (((if (decide (x3 < (Int.tmod a0 a1))) = true then some (IntKind.wrap .i64 ((IntKind.wrap .i64 (Int.tdiv a0 a1)) + 1)) else some (IntKind.wrap .i64 (Int.tdiv a0 a1))) : Option Int).bind fun (x8 : Int) => (((if (decide (x8 > 0)) = true then (if x1.length + [(x2, x8)].length ≤ 1000000000 then some (x1 ++ [(x2, x8)]) else none) else some x1) : Option (List ((Int × Int)))).bind fun (x9 : List ((Int × Int))) => some (.inl (x9, IntKind.wrap .i64 (x2 + x8), IntKind.wrap .i64 (x3 + 1))))))) else some (.inr (x2, x3, decide (x3 < a1), x1)))

noncomputable def spec_l07Strips (a0 : Int) (a1 : Int) : Option (List ((Int × Int))) :=
  ((loopF (fun (s : ((List ((Int × Int))) × Int × Int)) => spec_l07Strips.s0 a0 a1 s.1 s.2.1 s.2.2) (([] : List ((Int × Int))), 0, 0)).bind fun (⟨x4, x5, x6, x7⟩ : (Int × Int × Bool × (List ((Int × Int))))) => some x7)

noncomputable def spec_StripsOf (a0_0 : Int) (a0_1 : Int) (a0_2 : Bool) (a0_3 : List (Option Nat)) (a0_4 : List (Option Nat)) (a1 : Int) : Option ((List ((Int × Int))) × Bool) :=
  ((((spec_l02Is a0_0 a0_1 a0_2 a0_3 a0_4).bind fun (x2 : Bool) => (if (!x2) = true then some true else ((spec_l00In a1 1 8).bind fun (x3 : Bool) => some (!x3)))) : Option Bool).bind fun (x1 : Bool) => (if x1 = true then some (([] : List ((Int × Int))), false) else ((spec_l07Strips a0_1 a1).bind fun (x4 : List ((Int × Int))) => some (x4, true))))

noncomputable def impl_areWorkers (a0 : Int) : Option Bool :=
  ((impl_within a0 1 8).bind fun (x1 : Bool) => some x1)

noncomputable def impl_stripsOf.s0 (a0_1 : Int) (a1 : Int) (x1 : List ((Int × Int))) (x2 : Int) (x3 : Int) : Option (((List ((Int × Int))) × Int × Int) ⊕ (Int × Int × Bool × (List ((Int × Int))))) :=
  (if (decide (x3 < a1)) = true then (if a1 = 0 then none else (if a1 = 0 then none else (((if (decide (x3 < (Int.tmod a0_1 a1))) = true then some (IntKind.wrap .i64 ((IntKind.wrap .i64 (Int.tdiv a0_1 a1)) + 1)) else some (IntKind.wrap .i64 (Int.tdiv a0_1 a1))) : Option Int).bind fun (x8 : Int) => (((if (decide (x8 > 0)) = true then (if x1.length + [(x2, x8)].length ≤ 1000000000 then some (x1 ++ [(x2, x8)]) else none) else some x1) : Option (List ((Int × Int)))).bind fun (x9 : List ((Int × Int))) => some (.inl (x9, IntKind.wrap .i64 (x2 + x8), IntKind.wrap .i64 (x3 + 1))))))) else some (.inr (x2, x3, decide (x3 < a1), x1)))

noncomputable def impl_stripsOf (a0_0 : Int) (a0_1 : Int) (a0_2 : Bool) (a0_3 : List (Option Nat)) (a0_4 : List (Option Nat)) (a1 : Int) : Option (List ((Int × Int))) :=
  ((loopF (fun (s : ((List ((Int × Int))) × Int × Int)) => impl_stripsOf.s0 a0_1 a1 s.1 s.2.1 s.2.2) (([] : List ((Int × Int))), 0, 0)).bind fun (⟨x4, x5, x6, x7⟩ : (Int × Int × Bool × (List ((Int × Int))))) => some x7)

noncomputable def impl_StripsOf (a0_0 : Int) (a0_1 : Int) (a0_2 : Bool) (a0_3 : List (Option Nat)) (a0_4 : List (Option Nat)) (a1 : Int) : Option ((List ((Int × Int))) × Bool) :=
  ((((impl_ValidSheet a0_0 a0_1 a0_2 a0_3 a0_4).bind fun (x2 : Bool) => (if (!x2) = true then some true else ((impl_areWorkers a1).bind fun (x3 : Bool) => some (!x3)))) : Option Bool).bind fun (x1 : Bool) => (if x1 = true then some (([] : List ((Int × Int))), false) else ((impl_stripsOf a0_0 a0_1 a0_2 a0_3 a0_4 a1).bind fun (x4 : List ((Int × Int))) => some (x4, true))))

noncomputable def laws_eqStripS.s0 (a0 : List ((Int × Int))) (a1 : List ((Int × Int))) (x1 : Bool) (x2 : Int) : Option ((Bool × Int) ⊕ ((Bool × Int × Bool) ⊕ Bool)) :=
  (if (decide (x2 < (a0.length : Int))) = true then ((idx a0 x2).bind fun (x6 : (Int × Int)) => ((idx a1 x2).bind fun (x7 : (Int × Int)) => ((laws_eqStrip x6.1 x6.2 x7.1 x7.2).bind fun (x8 : Bool) => (if (!x8) = true then some (.inr (.inr false)) else some (.inl (x1, IntKind.wrap .i64 (x2 + 1))))))) else some (.inr (.inl (x1, x2, decide (x2 < (a0.length : Int))))))

noncomputable def laws_eqStripS (a0 : List ((Int × Int))) (a1 : List ((Int × Int))) : Option Bool :=
  (if ((a0.length : Int) != (a1.length : Int)) = true then some false else ((loopF (fun (s : (Bool × Int)) => laws_eqStripS.s0 a0 a1 s.1 s.2) (false, 0)).bind fun (y1 : ((Bool × Int × Bool) ⊕ Bool)) => match y1 with | .inl (x3, x4, x5) => some true | .inr r1 => some r1))

noncomputable def laws_markStripS.s0 (x1 : Int) (x2 : Int) (x3 : List ((Int × Int))) : Option ((Int × Int × (List ((Int × Int)))) ⊕ (Int × Int × Bool × (List ((Int × Int))))) :=
  (if (decide (x2 < (x3.length : Int))) = true then ((idx x3 x2).bind fun (x8 : (Int × Int)) => ((idx x3 x2).bind fun (x9 : (Int × Int)) => ((setF x3 x2 (x1, x9.2)).bind fun (x10 : List ((Int × Int))) => ((idx x10 x2).bind fun (x11 : (Int × Int)) => ((idx x10 x2).bind fun (x12 : (Int × Int)) => ((setF x10 x2 (x12.1, IntKind.wrap .i64 (x1 + 1))).bind fun (x13 : List ((Int × Int))) => some (.inl (IntKind.wrap .i64 ((IntKind.wrap .i64 (x1 + 1)) + 1), IntKind.wrap .i64 (x2 + 1), x13)))))))) else some (.inr (x1, x2, decide (x2 < (x3.length : Int)), x3)))

noncomputable def laws_markStripS (a0 : List ((Int × Int))) (a1 : Int) : Option (Int × (List ((Int × Int)))) :=
  ((loopF (fun (s : (Int × Int × (List ((Int × Int))))) => laws_markStripS.s0 s.1 s.2.1 s.2.2) (a1, 0, a0)).bind fun (⟨x4, x5, x6, x7⟩ : (Int × Int × Bool × (List ((Int × Int))))) => some (x4, x7))

noncomputable def laws_heldStripS.s0 (a0 : List ((Int × Int))) (x1 : Int) (x2 : Int) (x3 : Int) : Option ((Int × Int × Int) ⊕ ((Int × Int × Int × Bool) ⊕ Int)) :=
  (if (decide (x3 < (a0.length : Int))) = true then ((idx a0 x3).bind fun (x8 : (Int × Int)) => (if (x8.1 != x1) = true then some (.inr (.inr (-1))) else ((idx a0 x3).bind fun (x9 : (Int × Int)) => (if (x9.2 != (IntKind.wrap .i64 (x1 + 1))) = true then some (.inr (.inr (-1))) else some (.inl (IntKind.wrap .i64 ((IntKind.wrap .i64 (x1 + 1)) + 1), x2, IntKind.wrap .i64 (x3 + 1))))))) else some (.inr (.inl (x1, x2, x3, decide (x3 < (a0.length : Int))))))

noncomputable def laws_heldStripS (a0 : List ((Int × Int))) (a1 : Int) : Option Int :=
  ((loopF (fun (s : (Int × Int × Int)) => laws_heldStripS.s0 a0 s.1 s.2.1 s.2.2) (a1, 0, 0)).bind fun (y1 : ((Int × Int × Int × Bool) ⊕ Int)) => match y1 with | .inl (x4, x5, x6, x7) => some x4 | .inr r1 => some r1)

noncomputable def laws_FnExactStripsOf (a0_0 : Int) (a0_1 : Int) (a0_2 : Bool) (a0_3 : List (Option Nat)) (a0_4 : List (Option Nat)) (a1 : Int) : Option Bool :=
  ((laws_szSheet a0_0 a0_1 a0_2 a0_3 a0_4 1048576).bind fun (x1 : Int) => (if (decide (x1 < 0)) = true then some true else ((laws_toSheet a0_0 a0_1 a0_2 a0_3 a0_4).bind fun (x2 : (Int × Int × Bool × (List (Option Nat)) × (List (Option Nat)))) => ((spec_StripsOf x2.1 x2.2.1 x2.2.2.1 x2.2.2.2.1 x2.2.2.2.2 a1).bind fun (x3 : ((List ((Int × Int))) × Bool)) => ((laws_toSheet a0_0 a0_1 a0_2 a0_3 a0_4).bind fun (x4 : (Int × Int × Bool × (List (Option Nat)) × (List (Option Nat)))) => ((impl_StripsOf x4.1 x4.2.1 x4.2.2.1 x4.2.2.2.1 x4.2.2.2.2 a1).bind fun (x5 : ((List ((Int × Int))) × Bool)) => ((((laws_eqStripS x5.1 x3.1).bind fun (x7 : Bool) => (if (!x7) = true then some true else some (x5.2 != x3.2))) : Option Bool).bind fun (x6 : Bool) => (if x6 = true then some false else ((laws_toSheet a0_0 a0_1 a0_2 a0_3 a0_4).bind fun (x8 : (Int × Int × Bool × (List (Option Nat)) × (List (Option Nat)))) => ((laws_eqSheet x4.1 x4.2.1 x4.2.2.1 x4.2.2.2.1 x4.2.2.2.2 x8.1 x8.2.1 x8.2.2.1 x8.2.2.2.1 x8.2.2.2.2).bind fun (x9 : Bool) => (if (!x9) = true then some false else ((laws_markSheet x4.1 x4.2.1 x4.2.2.1 x4.2.2.2.1 x4.2.2.2.2 1).bind fun (x10 : (Int × (List (Option Nat)) × (List (Option Nat)))) => (((if (decide (x10.1 < 0)) = true then some true else ((laws_eqStripS x5.1 x3.1).bind fun (x12 : Bool) => (if (!x12) = true then some true else some (x5.2 != x3.2)))) : Option Bool).bind fun (x11 : Bool) => (if x11 = true then some false else ((laws_markStripS x5.1 1).bind fun (x13 : (Int × (List ((Int × Int))))) => ((laws_heldStripS x13.2 1).bind fun (x14 : Int) => (if (decide (x14 < 0)) = true then some false else (if (x14 != x13.1) = true then some false else ((laws_toSheet a0_0 a0_1 a0_2 a0_3 a0_4).bind fun (x15 : (Int × Int × Bool × (List (Option Nat)) × (List (Option Nat)))) => ((impl_StripsOf x15.1 x15.2.1 x15.2.2.1 x15.2.2.2.1 x15.2.2.2.2 a1).bind fun (x16 : ((List ((Int × Int))) × Bool)) => ((((laws_eqStripS x16.1 x3.1).bind fun (x18 : Bool) => (if (!x18) = true then some true else some (x16.2 != x3.2))) : Option Bool).bind fun (x17 : Bool) => (if x17 = true then some false else ((laws_heldStripS x13.2 1).bind fun (x19 : Int) => (if (decide (x19 < 0)) = true then some false else (if (x19 != x13.1) = true then some false else some true)))))))))))))))))))))))))

set_option maxRecDepth 20000 in
theorem spec_l07Strips_ok (h0 : Heap) (a0 : Int) (a1 : Int) (r : List ((Int × Int))) (hp : spec_l07Strips a0 a1 = some r) : CallsH Try.prog 101 ([(.int .i64 a0), (.int .i64 a1)].toArray ++ [].toArray) h0 (fun v h' => Mod [] h0 h' ∧ Sep [] h0.size h' [ownO (kII .i64) 31 v r]) := by
  unfold spec_l07Strips at hp
  refine callsH_of_W (l := [(.int .i64 a0), (.int .i64 a1)]) (cap := []) 37 Try.func101 rfl rfl rfl ?_
  refine W.seq ?_
  refine W.region ?_
  refine RL.opD (by decide) (opv_assign rfl rfl) ?_
  have S_1 : Sep [] h0.size h0 [ownO (kII .i64) 31 (.slice none 0 0) ([] : List ((Int × Int)))] := Sep.addNil (Sep.nil [] h0.size h0)
  refine RL.nil ?_
  refine thnN ?_
  refine W.seq ?_
  refine W.region ?_
  refine RL.op _ (by decide) (opS_lit0 (K := (kII .i64)) rfl Try.underlying70 Try.isinfo31) ?_
  rintro v1 hp1 ⟨MT_1, T_1⟩
  have X_1 : Mod [] h0 hp1 := Mod.step (A := []) (L := [ownO (kII .i64) 31 (.slice none 0 0) ([] : List ((Int × Int)))]) (Mod.refl [] h0) S_1 MT_1
  have S_2 : Sep [] h0.size hp1 [ownO (kII .i64) 31 v1 ([] : List ((Int × Int))), ownO (kII .i64) 31 (.slice none 0 0) ([] : List ((Int × Int)))] := Sep.step (A := []) (L := [ownO (kII .i64) 31 (.slice none 0 0) ([] : List ((Int × Int)))]) S_1 (Mod.size (Mod.refl [] h0)) MT_1 T_1
  refine RL.opD (by decide) (opv_assign rfl rfl) ?_
  refine RL.nil ?_
  refine thnN ?_
  refine W.seq ?_
  refine W.region ?_
  refine RL.opD (by decide) (opv_assign rfl rfl) ?_
  refine RL.nil ?_
  refine thnN ?_
  refine W.seq ?_
  refine W.seq ?_
  refine W.region ?_
  refine RL.opD (by decide) (opv_assign rfl rfl) ?_
  refine RL.nil ?_
  refine thnN ?_
  obtain ⟨y1, hy1, hp⟩ := Option.bind_eq_some_iff.1 hp
  refine W.cut (fun φ' h' => ∃ x4, ∃ x5, ∃ x6, ∃ x7, ∃ v3, y1 = (x4, x5, x6, x7) ∧ Fr.sub [(0, (.int .i64 a0)), (1, (.int .i64 a1)), (4, (.slice none 0 0)), (6, (.int .i64 x4)), (7, (.int .i64 x5)), (12, (.bool x6)), (5, v3)] φ' ∧ Mod [] h0 h' ∧ Sep [] h0.size h' [ownO (kII .i64) 31 (.slice none 0 0) ([] : List ((Int × Int))), ownO (kII .i64) 31 v3 x7]) ?_ ?_
  · refine W.block ?_
    refine W.loopS (fun (s : ((List ((Int × Int))) × Int × Int)) φ' h' => ∃ v2, Fr.sub [(0, (.int .i64 a0)), (1, (.int .i64 a1)), (4, (.slice none 0 0)), (5, v2), (6, (.int .i64 s.2.1)), (7, (.int .i64 s.2.2))] φ' ∧ Mod [] h0 h' ∧ Sep [] h0.size h' [ownO (kII .i64) 31 v2 s.1, ownO (kII .i64) 31 (.slice none 0 0) ([] : List ((Int × Int)))]) hy1 ⟨v1, ⟨rfl, rfl, rfl, rfl, rfl, rfl, trivial⟩, X_1, (Sep.sel S_2 [0, 1] (by decide))⟩ ?_
    rintro ⟨x1, x2, x3⟩ φ' hp2 o1 ⟨v2, hs1, X_2, S_3⟩ ho1 hy1
    have hs1 : Fr.sub [(0, (.int .i64 a0)), (1, (.int .i64 a1)), (4, (.slice none 0 0)), (5, v2), (6, (.int .i64 x2)), (7, (.int .i64 x3))] φ' := hs1
    have S_3 : Sep [] h0.size hp2 [ownO (kII .i64) 31 v2 x1, ownO (kII .i64) 31 (.slice none 0 0) ([] : List ((Int × Int)))] := S_3
    have ho1 : spec_l07Strips.s0 a0 a1 x1 x2 x3 = some o1 := ho1
    unfold spec_l07Strips.s0 at ho1
    refine W.sub hs1 ?_
    refine W.seq ?_
    refine W.seq ?_
    refine W.region ?_
    refine RL.opD (by decide) (opv_move rfl rfl) ?_
    refine RL.opD (by decide) (opv_move rfl rfl) ?_
    refine RL.opD (by decide) (opv_icmp rfl rfl rfl rfl) ?_
    refine RL.nil ?_
    refine thnN ?_
    by_cases c1 : (decide (x3 < a1)) = true
    · rw [if_pos c1] at ho1
      refine W.condT rfl c1 ?_
      refine W.skip ?_
      refine thnN ?_
      refine W.seq ?_
      refine W.block ?_
      refine W.seq ?_
      by_cases nc2 : a1 = 0
      · rw [if_pos nc2] at ho1; cases ho1
      rw [if_neg nc2] at ho1
      have c2 : a1 ≠ 0 := nc2
      refine W.region ?_
      refine RL.opD (by decide) (opv_move rfl rfl) ?_
      refine RL.opD (by decide) (opv_move rfl rfl) ?_
      refine RL.opD (by decide) (opv_quo rfl c2 rfl rfl) ?_
      refine RL.opD (by decide) (opv_assign rfl rfl) ?_
      refine RL.nil ?_
      refine thnN ?_
      refine W.seq ?_
      refine W.seq ?_
      by_cases nc3 : a1 = 0
      · rw [if_pos nc3] at ho1; cases ho1
      rw [if_neg nc3] at ho1
      have c3 : a1 ≠ 0 := nc3
      refine W.region ?_
      refine RL.opD (by decide) (opv_move rfl rfl) ?_
      refine RL.opD (by decide) (opv_move rfl rfl) ?_
      refine RL.opD (by decide) (opv_move rfl rfl) ?_
      refine RL.opD (by decide) (opv_rem rfl c3 rfl rfl) ?_
      refine RL.opD (by decide) (opv_icmp rfl rfl rfl rfl) ?_
      refine RL.nil ?_
      refine thnN ?_
      obtain ⟨x8, hy2, ho1⟩ := Option.bind_eq_some_iff.1 ho1
      refine W.cut (fun φ' h' => Fr.sub [(0, (.int .i64 a0)), (1, (.int .i64 a1)), (4, (.slice none 0 0)), (5, v2), (6, (.int .i64 x2)), (7, (.int .i64 x3)), (12, (.bool (decide (x3 < a1)))), (22, (.bool (decide (x3 < (Int.tmod a0 a1))))), (8, (.int .i64 x8))] φ' ∧ hp2 = h') ?_ ?_
      · by_cases c4 : (decide (x3 < (Int.tmod a0 a1))) = true
        · rw [if_pos c4] at hy2
          refine W.condT rfl c4 ?_
          refine W.region ?_
          refine RL.opD (by decide) (opv_move rfl rfl) ?_
          refine RL.opD (by decide) (opv_add rfl rfl rfl) ?_
          refine RL.opD (by decide) (opv_assign rfl rfl) ?_
          refine RL.nil ?_
          have ey2 := Option.some.inj hy2
          subst ey2
          refine onlyN ?_
          exact ⟨⟨rfl, rfl, rfl, rfl, rfl, rfl, rfl, rfl, rfl, trivial⟩, rfl⟩
        · rw [if_neg c4] at hy2
          have c4 := eq_false_of_ne_true c4
          refine W.condF rfl c4 ?_
          refine W.skip ?_
          have ey2 := Option.some.inj hy2
          subst ey2
          refine onlyN ?_
          exact ⟨⟨rfl, rfl, rfl, rfl, rfl, rfl, rfl, rfl, rfl, trivial⟩, rfl⟩
      rintro φ' _ ⟨hs3, rfl⟩
      refine thnN ?_
      refine W.sub hs3 ?_
      refine W.seq ?_
      refine W.seq ?_
      refine W.region ?_
      refine RL.opD (by decide) (opv_move rfl rfl) ?_
      refine RL.opD (by decide) (opv_icmp rfl rfl rfl rfl) ?_
      refine RL.nil ?_
      refine thnN ?_
      obtain ⟨x9, hy3, ho1⟩ := Option.bind_eq_some_iff.1 ho1
      refine W.cut (fun φ' h' => ∃ v4, Fr.sub [(0, (.int .i64 a0)), (1, (.int .i64 a1)), (4, (.slice none 0 0)), (6, (.int .i64 x2)), (7, (.int .i64 x3)), (12, (.bool (decide (x3 < a1)))), (22, (.bool (decide (x3 < (Int.tmod a0 a1))))), (8, (.int .i64 x8)), (26, (.bool (decide (x8 > 0)))), (5, v4)] φ' ∧ Mod [] h0 h' ∧ Sep [] h0.size h' [ownO (kII .i64) 31 (.slice none 0 0) ([] : List ((Int × Int))), ownO (kII .i64) 31 v4 x9]) ?_ ?_
      · by_cases c5 : (decide (x8 > 0)) = true
        · rw [if_pos c5] at hy3
          refine W.condT rfl c5 ?_
          obtain ⟨c6, hy3⟩ := of_ite hy3
          refine W.region ?_
          refine RL.opD (by decide) (opv_move rfl rfl) ?_
          refine RL.opD (by decide) (opv_move rfl rfl) ?_
          refine RL.opD (by decide) (opv_move rfl rfl) ?_
          refine RL.opD (by decide) (opv_build (cs := [(.int .i64 x2), (.int .i64 x8)]) [(0, [(.int .i64 x2)]), (1, [(.int .i64 x8)])] [(0, (.int .i64 x2)), (1, (.int .i64 x8))] rfl Try.bd31 ⟨⟨rfl, rfl, rfl, cells1 rfl⟩, ⟨rfl, rfl, rfl, cells1 rfl⟩, trivial⟩ rfl) ?_
          refine RL.op _ (by decide) (opS_litW (K := (kII .i64)) (us := [(.int .i64 x2), (.int .i64 x8)]) (z := (x2, x8)) rfl Try.underlying70 Try.einfo31 rfl rfl rfl rfl rfl rfl) ?_
          rintro v5 hp3 ⟨MT_2, T_2⟩
          have X_3 : Mod [] h0 hp3 := Mod.step (A := []) (L := [ownO (kII .i64) 31 v2 x1, ownO (kII .i64) 31 (.slice none 0 0) ([] : List ((Int × Int)))]) X_2 S_3 MT_2
          have S_4 : Sep [] h0.size hp3 [ownO (kII .i64) 31 v5 [(x2, x8)], ownO (kII .i64) 31 v2 x1, ownO (kII .i64) 31 (.slice none 0 0) ([] : List ((Int × Int)))] := Sep.step (A := []) (L := [ownO (kII .i64) 31 v2 x1, ownO (kII .i64) 31 (.slice none 0 0) ([] : List ((Int × Int)))]) S_3 (Mod.size X_2) MT_2 T_2
          refine RL.op _ (by decide) (opS_append (K := (kII .i64)) rfl Try.underlying70 Try.einfo31 rfl rfl rfl rfl (Sep.at (o := ownO (kII .i64) 31 v2 x1) S_4 1 rfl) (ownO.read (Sep.at (o := ownO (kII .i64) 31 v5 [(x2, x8)]) S_4 0 rfl)) (by decide) (by decide) c6) ?_
          rintro v6 hp4 ⟨MT_3, T_3⟩
          have S_5 : Sep [] h0.size hp3 ([ownO (kII .i64) 31 v2 x1] ++ [ownO (kII .i64) 31 v5 [(x2, x8)], ownO (kII .i64) 31 (.slice none 0 0) ([] : List ((Int × Int)))]) := Sep.sel S_4 [1, 0, 2] (by decide)
          have X_4 : Mod [] h0 hp4 := Mod.step (A := [ownO (kII .i64) 31 v2 x1]) (L := [ownO (kII .i64) 31 v5 [(x2, x8)], ownO (kII .i64) 31 (.slice none 0 0) ([] : List ((Int × Int)))]) X_3 S_5 MT_3
          have S_6 : Sep [] h0.size hp4 [ownO (kII .i64) 31 v6 (x1 ++ [(x2, x8)]), ownO (kII .i64) 31 v5 [(x2, x8)], ownO (kII .i64) 31 (.slice none 0 0) ([] : List ((Int × Int)))] := Sep.step (A := [ownO (kII .i64) 31 v2 x1]) (L := [ownO (kII .i64) 31 v5 [(x2, x8)], ownO (kII .i64) 31 (.slice none 0 0) ([] : List ((Int × Int)))]) S_5 (Mod.size X_3) MT_3 T_3
          refine RL.opD (by decide) (opv_assign rfl rfl) ?_
          refine RL.nil ?_
          have ey3 := Option.some.inj hy3
          subst ey3
          refine onlyN ?_
          exact ⟨v6, ⟨rfl, rfl, rfl, rfl, rfl, rfl, rfl, rfl, rfl, rfl, trivial⟩, X_4, (Sep.sel S_6 [2, 0] (by decide))⟩
        · rw [if_neg c5] at hy3
          have c5 := eq_false_of_ne_true c5
          refine W.condF rfl c5 ?_
          refine W.skip ?_
          have ey3 := Option.some.inj hy3
          subst ey3
          refine onlyN ?_
          exact ⟨v2, ⟨rfl, rfl, rfl, rfl, rfl, rfl, rfl, rfl, rfl, rfl, trivial⟩, X_2, (Sep.sel S_3 [1, 0] (by decide))⟩
      rintro φ' hp5 ⟨v4, hs4, X_5, S_7⟩
      refine thnN ?_
      refine W.sub hs4 ?_
      refine W.region ?_
      refine RL.opD (by decide) (opv_move rfl rfl) ?_
      refine RL.opD (by decide) (opv_move rfl rfl) ?_
      refine RL.opD (by decide) (opv_add rfl rfl rfl) ?_
      refine RL.opD (by decide) (opv_assign rfl rfl) ?_
      refine RL.nil ?_
      refine blkN ?_
      refine thnN ?_
      refine W.region ?_
      refine RL.opD (by decide) (opv_move rfl rfl) ?_
      refine RL.opD (by decide) (opv_add rfl rfl rfl) ?_
      refine RL.opD (by decide) (opv_assign rfl rfl) ?_
      refine RL.nil ?_
      have eo1 := Option.some.inj ho1
      subst eo1
      refine rndN (s' := (x9, IntKind.wrap .i64 (x2 + x8), IntKind.wrap .i64 (x3 + 1))) rfl ?_
      exact ⟨v4, ⟨rfl, rfl, rfl, rfl, rfl, rfl, trivial⟩, X_5, (Sep.sel S_7 [1, 0] (by decide))⟩
    · rw [if_neg c1] at ho1
      have c1 := eq_false_of_ne_true c1
      refine W.condF rfl c1 ?_
      refine W.exit ?_
      refine thnX ?_
      refine rndX ?_
      refine blkI ?_
      have eo1 := Option.some.inj ho1
      subst eo1
      have ey1 := hy1 _ rfl
      subst ey1
      refine onlyN ?_
      exact ⟨x2, x3, decide (x3 < a1), x1, v2, rfl, ⟨rfl, rfl, rfl, rfl, rfl, rfl, rfl, trivial⟩, X_2, (Sep.sel S_3 [1, 0] (by decide))⟩
  rintro φ' hp6 ⟨x4, x5, x6, x7, v3, rfl, hs2, X_6, S_8⟩
  try dsimp only at hp
  refine thnN ?_
  refine W.sub hs2 ?_
  refine W.seq ?_
  refine W.region ?_
  refine RL.opD (by decide) (opv_move rfl rfl) ?_
  refine RL.opD (by decide) (opv_assign rfl rfl) ?_
  refine RL.nil ?_
  refine thnN ?_
  refine W.ret ?_
  have er := Option.some.inj hp
  subst er
  exact Rt.one rfl rfl ⟨X_6, (Sep.sel S_8 [1] (by decide))⟩

set_option maxRecDepth 20000 in
theorem spec_StripsOf_ok (h0 : Heap) (a0_0 : Int) (a0_1 : Int) (a0_2 : Bool) (u0_3 : Value) (a0_3 : List (Option Nat)) (g0_3 : SL (kF .f32) h0.size h0 u0_3 a0_3) (u0_4 : Value) (a0_4 : List (Option Nat)) (g0_4 : SL (kF .f32) h0.size h0 u0_4 a0_4) (a1 : Int) (r : ((List ((Int × Int))) × Bool)) (hp : spec_StripsOf a0_0 a0_1 a0_2 a0_3 a0_4 a1 = some r) : CallsH Try.prog 50 ([(.agg (List.toArray (α := Value) [(.int .i64 a0_0), (.int .i64 a0_1), (.bool a0_2), u0_3, u0_4])), (.int .i64 a1)].toArray ++ [].toArray) h0 (fun v h' => ∃ w0, v = (.tuple (List.toArray (α := Value) [w0, (.bool r.2)])) ∧ Mod [] h0 h' ∧ Sep [] h0.size h' [ownO (kII .i64) 31 w0 r.1]) := by
  unfold spec_StripsOf at hp
  refine callsH_of_W (l := [(.agg (List.toArray (α := Value) [(.int .i64 a0_0), (.int .i64 a0_1), (.bool a0_2), u0_3, u0_4])), (.int .i64 a1)]) (cap := []) 17 Try.func50 rfl rfl rfl ?_
  refine W.seq ?_
  refine W.region ?_
  refine RL.op _ (by decide) (opS_boxed (opv_boxA (cs := [(.int .i64 a0_0), (.int .i64 a0_1), (.bool a0_2), u0_3, u0_4]) rfl rfl)) ?_
  rintro _ hp1 ⟨bb1, rfl, MT_1, T_1⟩
  have X_1 : Mod [] h0 hp1 := Mod.step (A := []) (L := []) (Mod.refl [] h0) (Sep.nil [] h0.size h0) MT_1
  have S_1 : Sep [] h0.size hp1 [boxO bb1 [(.int .i64 a0_0), (.int .i64 a0_1), (.bool a0_2), u0_3, u0_4]] := Sep.step (A := []) (L := []) (Sep.nil [] h0.size h0) (Mod.size (Mod.refl [] h0)) MT_1 T_1
  refine RL.opD (by decide) (opv_assign rfl rfl) ?_
  have S_2 : Sep [] h0.size hp1 [ownO (kII .i64) 31 (.slice none 0 0) ([] : List ((Int × Int))), boxO bb1 [(.int .i64 a0_0), (.int .i64 a0_1), (.bool a0_2), u0_3, u0_4]] := Sep.addNil S_1
  refine RL.opD (by decide) (opv_assign rfl rfl) ?_
  refine RL.nil ?_
  refine thnN ?_
  refine W.seq ?_
  refine W.seq ?_
  obtain ⟨x1, hy1, hp⟩ := Option.bind_eq_some_iff.1 hp
  refine W.cut (fun φ' h' => Fr.sub [(0, (.agg (List.toArray (α := Value) [(.int .i64 a0_0), (.int .i64 a0_1), (.bool a0_2), u0_3, u0_4]))), (1, (.int .i64 a1)), (2, (.pointer (some ⟨bb1, 0, none⟩))), (4, (.slice none 0 0)), (5, (.bool false)), (12, (.bool x1))] φ' ∧ hp1 = h') ?_ ?_
  · obtain ⟨x2, hx2, hy1⟩ := Option.bind_eq_some_iff.1 hy1
    by_cases c1 : (!x2) = true
    · rw [if_pos c1] at hy1
      refine W.region ?_
      refine RL.op _ (by decide) (opv_call (cap := []) (spec_l02Is_ok _ _ _ _ _ _ _ (SL.up (SL.mod g0_3 X_1 (Nat.le_refl _) nob) (Nat.le_trans (Nat.le_refl _) (Mod.size X_1))) _ _ (SL.up (SL.mod g0_4 X_1 (Nat.le_refl _) nob) (Nat.le_trans (Nat.le_refl _) (Mod.size X_1))) (Sep.at (o := boxO bb1 [(.int .i64 a0_0), (.int .i64 a0_1), (.bool a0_2), u0_3, u0_4]) S_2 1 rfl) _ hx2) rfl rfl ⟨rfl, trivial⟩ Try.func74 rfl rfl) ?_
      rintro _ _ ⟨rfl, rfl⟩
      refine RL.opD (by decide) (opv_not rfl rfl) ?_
      refine RL.opD (by decide) (opv_move rfl rfl) ?_
      refine RL.no rfl rfl (Eq.trans c1 (by decide)) (by decide) ?_
      refine RL.no rfl rfl (Eq.trans c1 (by decide)) (by decide) ?_
      refine RL.no rfl rfl (Eq.trans c1 (by decide)) (by decide) ?_
      refine RL.opD (by decide) (opv_pick rfl rfl (fun _ => rfl) (fun e => absurd (Eq.trans (Eq.symm e) c1) (by decide)) rfl) ?_
      refine RL.nil ?_
      have ey1 := Option.some.inj hy1
      subst ey1
      refine onlyN ?_
      exact ⟨⟨rfl, rfl, rfl, rfl, rfl, rfl, trivial⟩, rfl⟩
    · rw [if_neg c1] at hy1
      have c1 := eq_false_of_ne_true c1
      obtain ⟨x3, hx3, hy1⟩ := Option.bind_eq_some_iff.1 hy1
      refine W.region ?_
      refine RL.op _ (by decide) (opv_call (cap := []) (spec_l02Is_ok _ _ _ _ _ _ _ (SL.up (SL.mod g0_3 X_1 (Nat.le_refl _) nob) (Nat.le_trans (Nat.le_refl _) (Mod.size X_1))) _ _ (SL.up (SL.mod g0_4 X_1 (Nat.le_refl _) nob) (Nat.le_trans (Nat.le_refl _) (Mod.size X_1))) (Sep.at (o := boxO bb1 [(.int .i64 a0_0), (.int .i64 a0_1), (.bool a0_2), u0_3, u0_4]) S_2 1 rfl) _ hx2) rfl rfl ⟨rfl, trivial⟩ Try.func74 rfl rfl) ?_
      rintro _ _ ⟨rfl, rfl⟩
      refine RL.opD (by decide) (opv_not rfl rfl) ?_
      refine RL.opD (by decide) (opv_move rfl rfl) ?_
      refine RL.yes _ rfl rfl c1 (by decide) (opv_move rfl rfl) ?_
      rintro _ _ ⟨rfl, rfl⟩
      refine RL.yes _ rfl rfl c1 (by decide) (opv_call (cap := []) (spec_l00In_ok _ _ _ _ _ hx3) rfl rfl ⟨rfl, rfl, rfl, trivial⟩ Try.func78 rfl rfl) ?_
      rintro _ _ ⟨rfl, rfl⟩
      refine RL.yes _ rfl rfl c1 (by decide) (opv_not rfl rfl) ?_
      rintro _ _ ⟨rfl, rfl⟩
      refine RL.opD (by decide) (opv_pick rfl rfl (fun e => absurd (Eq.trans (Eq.symm e) c1) (by decide)) (fun _ => rfl) rfl) ?_
      refine RL.nil ?_
      have ey1 := Option.some.inj hy1
      subst ey1
      refine onlyN ?_
      exact ⟨⟨rfl, rfl, rfl, rfl, rfl, rfl, trivial⟩, rfl⟩
  rintro φ' _ ⟨hs1, rfl⟩
  refine thnN ?_
  refine W.sub hs1 ?_
  by_cases c2 : x1 = true
  · rw [if_pos c2] at hp
    refine W.condT rfl c2 ?_
    refine W.seq ?_
    refine W.region ?_
    refine RL.opD (by decide) (opv_assign rfl rfl) ?_
    have S_3 : Sep [] h0.size hp1 [ownO (kII .i64) 31 (.slice none 0 0) ([] : List ((Int × Int))), ownO (kII .i64) 31 (.slice none 0 0) ([] : List ((Int × Int))), boxO bb1 [(.int .i64 a0_0), (.int .i64 a0_1), (.bool a0_2), u0_3, u0_4]] := Sep.addNil S_2
    refine RL.opD (by decide) (opv_assign rfl rfl) ?_
    refine RL.nil ?_
    refine thnN ?_
    refine W.ret ?_
    refine thnR ?_
    have er := Option.some.inj hp
    subst er
    exact Rt.two rfl rfl rfl ⟨(.slice none 0 0), rfl, X_1, (Sep.sel S_3 [0] (by decide))⟩
  · rw [if_neg c2] at hp
    have c2 := eq_false_of_ne_true c2
    refine W.condF rfl c2 ?_
    refine W.skip ?_
    refine thnN ?_
    refine W.seq ?_
    obtain ⟨x4, hx4, hp⟩ := Option.bind_eq_some_iff.1 hp
    refine W.region ?_
    refine RL.opD (by decide) (opv_fieldAddr rfl Try.fo29_1 rfl) ?_
    refine RL.opD (by decide) (opv_loadB rfl Try.one2 rfl (Sep.at (o := boxO bb1 [(.int .i64 a0_0), (.int .i64 a0_1), (.bool a0_2), u0_3, u0_4]) S_2 1 rfl) rfl) ?_
    refine RL.opD (by decide) (opv_move rfl rfl) ?_
    refine RL.op _ (by decide) (opv_call (cap := []) (spec_l07Strips_ok _ _ _ _ hx4) rfl rfl ⟨rfl, rfl, trivial⟩ Try.func101 rfl rfl) ?_
    rintro v1 hp2 ⟨MT_2, T_2⟩
    have X_2 : Mod [] h0 hp2 := Mod.step (A := []) (L := [ownO (kII .i64) 31 (.slice none 0 0) ([] : List ((Int × Int))), boxO bb1 [(.int .i64 a0_0), (.int .i64 a0_1), (.bool a0_2), u0_3, u0_4]]) X_1 S_2 MT_2
    have S_4 : Sep [] h0.size hp2 [ownO (kII .i64) 31 v1 x4, ownO (kII .i64) 31 (.slice none 0 0) ([] : List ((Int × Int))), boxO bb1 [(.int .i64 a0_0), (.int .i64 a0_1), (.bool a0_2), u0_3, u0_4]] := Sep.step (A := []) (L := [ownO (kII .i64) 31 (.slice none 0 0) ([] : List ((Int × Int))), boxO bb1 [(.int .i64 a0_0), (.int .i64 a0_1), (.bool a0_2), u0_3, u0_4]]) S_2 (Mod.size X_1) MT_2 T_2
    refine RL.opD (by decide) (opv_assign rfl rfl) ?_
    refine RL.opD (by decide) (opv_assign rfl rfl) ?_
    refine RL.nil ?_
    refine thnN ?_
    refine W.ret ?_
    have er := Option.some.inj hp
    subst er
    exact Rt.two rfl rfl rfl ⟨v1, rfl, X_2, (Sep.sel S_4 [0] (by decide))⟩

set_option maxRecDepth 20000 in
theorem impl_areWorkers_ok (h0 : Heap) (a0 : Int) (r : Bool) (hp : impl_areWorkers a0 = some r) : CallsH Try.prog 102 ([(.int .i64 a0)].toArray ++ [].toArray) h0 (fun v h' => v = (.bool r) ∧ h0 = h') := by
  unfold impl_areWorkers at hp
  refine callsH_of_W (l := [(.int .i64 a0)]) (cap := []) 5 Try.func102 rfl rfl rfl ?_
  refine W.seq ?_
  refine W.region ?_
  refine RL.opD (by decide) (opv_assign rfl rfl) ?_
  refine RL.nil ?_
  refine thnN ?_
  refine W.seq ?_
  obtain ⟨x1, hx1, hp⟩ := Option.bind_eq_some_iff.1 hp
  refine W.region ?_
  refine RL.opD (by decide) (opv_move rfl rfl) ?_
  refine RL.op _ (by decide) (opv_call (cap := []) (impl_within_ok _ _ _ _ _ hx1) rfl rfl ⟨rfl, rfl, rfl, trivial⟩ Try.func77 rfl rfl) ?_
  rintro _ _ ⟨rfl, rfl⟩
  refine RL.opD (by decide) (opv_assign rfl rfl) ?_
  refine RL.nil ?_
  refine thnN ?_
  refine W.ret ?_
  have er := Option.some.inj hp
  subst er
  exact Rt.one rfl rfl ⟨rfl, rfl⟩

set_option maxRecDepth 20000 in
theorem impl_stripsOf_ok (h0 : Heap) (a0_0 : Int) (a0_1 : Int) (a0_2 : Bool) (u0_3 : Value) (a0_3 : List (Option Nat)) (g0_3 : SL (kF .f32) h0.size h0 u0_3 a0_3) (u0_4 : Value) (a0_4 : List (Option Nat)) (g0_4 : SL (kF .f32) h0.size h0 u0_4 a0_4) (a1 : Int) (r : List ((Int × Int))) (hp : impl_stripsOf a0_0 a0_1 a0_2 a0_3 a0_4 a1 = some r) : CallsH Try.prog 103 ([(.agg (List.toArray (α := Value) [(.int .i64 a0_0), (.int .i64 a0_1), (.bool a0_2), u0_3, u0_4])), (.int .i64 a1)].toArray ++ [].toArray) h0 (fun v h' => Mod [] h0 h' ∧ Sep [] h0.size h' [ownO (kII .i64) 31 v r]) := by
  unfold impl_stripsOf at hp
  refine callsH_of_W (l := [(.agg (List.toArray (α := Value) [(.int .i64 a0_0), (.int .i64 a0_1), (.bool a0_2), u0_3, u0_4])), (.int .i64 a1)]) (cap := []) 39 Try.func103 rfl rfl rfl ?_
  refine W.seq ?_
  refine W.region ?_
  refine RL.op _ (by decide) (opS_boxed (opv_boxA (cs := [(.int .i64 a0_0), (.int .i64 a0_1), (.bool a0_2), u0_3, u0_4]) rfl rfl)) ?_
  rintro _ hp1 ⟨bb1, rfl, MT_1, T_1⟩
  have X_1 : Mod [] h0 hp1 := Mod.step (A := []) (L := []) (Mod.refl [] h0) (Sep.nil [] h0.size h0) MT_1
  have S_1 : Sep [] h0.size hp1 [boxO bb1 [(.int .i64 a0_0), (.int .i64 a0_1), (.bool a0_2), u0_3, u0_4]] := Sep.step (A := []) (L := []) (Sep.nil [] h0.size h0) (Mod.size (Mod.refl [] h0)) MT_1 T_1
  refine RL.opD (by decide) (opv_assign rfl rfl) ?_
  have S_2 : Sep [] h0.size hp1 [ownO (kII .i64) 31 (.slice none 0 0) ([] : List ((Int × Int))), boxO bb1 [(.int .i64 a0_0), (.int .i64 a0_1), (.bool a0_2), u0_3, u0_4]] := Sep.addNil S_1
  refine RL.nil ?_
  refine thnN ?_
  refine W.seq ?_
  refine W.region ?_
  refine RL.op _ (by decide) (opS_lit0 (K := (kII .i64)) rfl Try.underlying70 Try.isinfo31) ?_
  rintro v1 hp2 ⟨MT_2, T_2⟩
  have X_2 : Mod [] h0 hp2 := Mod.step (A := []) (L := [ownO (kII .i64) 31 (.slice none 0 0) ([] : List ((Int × Int))), boxO bb1 [(.int .i64 a0_0), (.int .i64 a0_1), (.bool a0_2), u0_3, u0_4]]) X_1 S_2 MT_2
  have S_3 : Sep [] h0.size hp2 [ownO (kII .i64) 31 v1 ([] : List ((Int × Int))), ownO (kII .i64) 31 (.slice none 0 0) ([] : List ((Int × Int))), boxO bb1 [(.int .i64 a0_0), (.int .i64 a0_1), (.bool a0_2), u0_3, u0_4]] := Sep.step (A := []) (L := [ownO (kII .i64) 31 (.slice none 0 0) ([] : List ((Int × Int))), boxO bb1 [(.int .i64 a0_0), (.int .i64 a0_1), (.bool a0_2), u0_3, u0_4]]) S_2 (Mod.size X_1) MT_2 T_2
  refine RL.opD (by decide) (opv_assign rfl rfl) ?_
  refine RL.opD (by decide) (opv_assign rfl rfl) ?_
  refine RL.nil ?_
  refine thnN ?_
  refine W.seq ?_
  refine W.seq ?_
  refine W.region ?_
  refine RL.opD (by decide) (opv_move rfl rfl) ?_
  refine RL.opD (by decide) (opv_move rfl rfl) ?_
  refine RL.nil ?_
  refine thnN ?_
  obtain ⟨y1, hy1, hp⟩ := Option.bind_eq_some_iff.1 hp
  refine W.cut (fun φ' h' => ∃ x4, ∃ x5, ∃ x6, ∃ x7, ∃ v3, y1 = (x4, x5, x6, x7) ∧ Fr.sub [(0, (.agg (List.toArray (α := Value) [(.int .i64 a0_0), (.int .i64 a0_1), (.bool a0_2), u0_3, u0_4]))), (1, (.int .i64 a1)), (2, (.pointer (some ⟨bb1, 0, none⟩))), (4, (.slice none 0 0)), (10, (.int .i64 a1)), (6, (.int .i64 x4)), (11, (.int .i64 x5)), (12, (.bool x6)), (5, v3)] φ' ∧ Mod [] h0 h' ∧ Sep [] h0.size h' [ownO (kII .i64) 31 (.slice none 0 0) ([] : List ((Int × Int))), boxO bb1 [(.int .i64 a0_0), (.int .i64 a0_1), (.bool a0_2), u0_3, u0_4], ownO (kII .i64) 31 v3 x7]) ?_ ?_
  · refine W.block ?_
    refine W.loopS (fun (s : ((List ((Int × Int))) × Int × Int)) φ' h' => ∃ v2, Fr.sub [(0, (.agg (List.toArray (α := Value) [(.int .i64 a0_0), (.int .i64 a0_1), (.bool a0_2), u0_3, u0_4]))), (1, (.int .i64 a1)), (2, (.pointer (some ⟨bb1, 0, none⟩))), (4, (.slice none 0 0)), (10, (.int .i64 a1)), (5, v2), (6, (.int .i64 s.2.1)), (11, (.int .i64 s.2.2))] φ' ∧ Mod [] h0 h' ∧ Sep [] h0.size h' [ownO (kII .i64) 31 v2 s.1, ownO (kII .i64) 31 (.slice none 0 0) ([] : List ((Int × Int))), boxO bb1 [(.int .i64 a0_0), (.int .i64 a0_1), (.bool a0_2), u0_3, u0_4]]) hy1 ⟨v1, ⟨rfl, rfl, rfl, rfl, rfl, rfl, rfl, rfl, trivial⟩, X_2, (Sep.sel S_3 [0, 1, 2] (by decide))⟩ ?_
    rintro ⟨x1, x2, x3⟩ φ' hp3 o1 ⟨v2, hs1, X_3, S_4⟩ ho1 hy1
    have hs1 : Fr.sub [(0, (.agg (List.toArray (α := Value) [(.int .i64 a0_0), (.int .i64 a0_1), (.bool a0_2), u0_3, u0_4]))), (1, (.int .i64 a1)), (2, (.pointer (some ⟨bb1, 0, none⟩))), (4, (.slice none 0 0)), (10, (.int .i64 a1)), (5, v2), (6, (.int .i64 x2)), (11, (.int .i64 x3))] φ' := hs1
    have S_4 : Sep [] h0.size hp3 [ownO (kII .i64) 31 v2 x1, ownO (kII .i64) 31 (.slice none 0 0) ([] : List ((Int × Int))), boxO bb1 [(.int .i64 a0_0), (.int .i64 a0_1), (.bool a0_2), u0_3, u0_4]] := S_4
    have ho1 : impl_stripsOf.s0 a0_1 a1 x1 x2 x3 = some o1 := ho1
    unfold impl_stripsOf.s0 at ho1
    refine W.sub hs1 ?_
    refine W.seq ?_
    refine W.region ?_
    refine RL.opD (by decide) (opv_icmp rfl rfl rfl rfl) ?_
    refine RL.nil ?_
    refine thnN ?_
    refine W.seq ?_
    by_cases c1 : (decide (x3 < a1)) = true
    · rw [if_pos c1] at ho1
      refine W.condT rfl c1 ?_
      refine W.skip ?_
      refine thnN ?_
      refine W.seq ?_
      refine W.block ?_
      refine W.seq ?_
      refine W.region ?_
      refine RL.opD (by decide) (opv_move rfl rfl) ?_
      refine RL.opD (by decide) (opv_assign rfl rfl) ?_
      refine RL.nil ?_
      refine thnN ?_
      refine W.seq ?_
      by_cases nc2 : a1 = 0
      · rw [if_pos nc2] at ho1; cases ho1
      rw [if_neg nc2] at ho1
      have c2 : a1 ≠ 0 := nc2
      refine W.region ?_
      refine RL.opD (by decide) (opv_fieldAddr rfl Try.fo29_1 rfl) ?_
      refine RL.opD (by decide) (opv_loadB rfl Try.one2 rfl (Sep.at (o := boxO bb1 [(.int .i64 a0_0), (.int .i64 a0_1), (.bool a0_2), u0_3, u0_4]) S_4 2 rfl) rfl) ?_
      refine RL.opD (by decide) (opv_move rfl rfl) ?_
      refine RL.opD (by decide) (opv_quo rfl c2 rfl rfl) ?_
      refine RL.opD (by decide) (opv_assign rfl rfl) ?_
      refine RL.nil ?_
      refine thnN ?_
      refine W.seq ?_
      refine W.seq ?_
      by_cases nc3 : a1 = 0
      · rw [if_pos nc3] at ho1; cases ho1
      rw [if_neg nc3] at ho1
      have c3 : a1 ≠ 0 := nc3
      refine W.region ?_
      refine RL.opD (by decide) (opv_move rfl rfl) ?_
      refine RL.opD (by decide) (opv_fieldAddr rfl Try.fo29_1 rfl) ?_
      refine RL.opD (by decide) (opv_loadB rfl Try.one2 rfl (Sep.at (o := boxO bb1 [(.int .i64 a0_0), (.int .i64 a0_1), (.bool a0_2), u0_3, u0_4]) S_4 2 rfl) rfl) ?_
      refine RL.opD (by decide) (opv_move rfl rfl) ?_
      refine RL.opD (by decide) (opv_rem rfl c3 rfl rfl) ?_
      refine RL.opD (by decide) (opv_icmp rfl rfl rfl rfl) ?_
      refine RL.nil ?_
      refine thnN ?_
      obtain ⟨x8, hy2, ho1⟩ := Option.bind_eq_some_iff.1 ho1
      refine W.cut (fun φ' h' => Fr.sub [(0, (.agg (List.toArray (α := Value) [(.int .i64 a0_0), (.int .i64 a0_1), (.bool a0_2), u0_3, u0_4]))), (1, (.int .i64 a1)), (2, (.pointer (some ⟨bb1, 0, none⟩))), (4, (.slice none 0 0)), (10, (.int .i64 a1)), (5, v2), (6, (.int .i64 x2)), (11, (.int .i64 x3)), (12, (.bool (decide (x3 < a1)))), (7, (.int .i64 x3)), (23, (.bool (decide (x3 < (Int.tmod a0_1 a1))))), (8, (.int .i64 x8))] φ' ∧ hp3 = h') ?_ ?_
      · by_cases c4 : (decide (x3 < (Int.tmod a0_1 a1))) = true
        · rw [if_pos c4] at hy2
          refine W.condT rfl c4 ?_
          refine W.region ?_
          refine RL.opD (by decide) (opv_move rfl rfl) ?_
          refine RL.opD (by decide) (opv_add rfl rfl rfl) ?_
          refine RL.opD (by decide) (opv_assign rfl rfl) ?_
          refine RL.nil ?_
          have ey2 := Option.some.inj hy2
          subst ey2
          refine onlyN ?_
          exact ⟨⟨rfl, rfl, rfl, rfl, rfl, rfl, rfl, rfl, rfl, rfl, rfl, rfl, trivial⟩, rfl⟩
        · rw [if_neg c4] at hy2
          have c4 := eq_false_of_ne_true c4
          refine W.condF rfl c4 ?_
          refine W.skip ?_
          have ey2 := Option.some.inj hy2
          subst ey2
          refine onlyN ?_
          exact ⟨⟨rfl, rfl, rfl, rfl, rfl, rfl, rfl, rfl, rfl, rfl, rfl, rfl, trivial⟩, rfl⟩
      rintro φ' _ ⟨hs3, rfl⟩
      refine thnN ?_
      refine W.sub hs3 ?_
      refine W.seq ?_
      refine W.seq ?_
      refine W.region ?_
      refine RL.opD (by decide) (opv_move rfl rfl) ?_
      refine RL.opD (by decide) (opv_icmp rfl rfl rfl rfl) ?_
      refine RL.nil ?_
      refine thnN ?_
      obtain ⟨x9, hy3, ho1⟩ := Option.bind_eq_some_iff.1 ho1
      refine W.cut (fun φ' h' => ∃ v4, Fr.sub [(0, (.agg (List.toArray (α := Value) [(.int .i64 a0_0), (.int .i64 a0_1), (.bool a0_2), u0_3, u0_4]))), (1, (.int .i64 a1)), (2, (.pointer (some ⟨bb1, 0, none⟩))), (4, (.slice none 0 0)), (10, (.int .i64 a1)), (6, (.int .i64 x2)), (11, (.int .i64 x3)), (12, (.bool (decide (x3 < a1)))), (7, (.int .i64 x3)), (23, (.bool (decide (x3 < (Int.tmod a0_1 a1))))), (8, (.int .i64 x8)), (27, (.bool (decide (x8 > 0)))), (5, v4)] φ' ∧ Mod [] h0 h' ∧ Sep [] h0.size h' [ownO (kII .i64) 31 (.slice none 0 0) ([] : List ((Int × Int))), boxO bb1 [(.int .i64 a0_0), (.int .i64 a0_1), (.bool a0_2), u0_3, u0_4], ownO (kII .i64) 31 v4 x9]) ?_ ?_
      · by_cases c5 : (decide (x8 > 0)) = true
        · rw [if_pos c5] at hy3
          refine W.condT rfl c5 ?_
          obtain ⟨c6, hy3⟩ := of_ite hy3
          refine W.region ?_
          refine RL.opD (by decide) (opv_move rfl rfl) ?_
          refine RL.opD (by decide) (opv_move rfl rfl) ?_
          refine RL.opD (by decide) (opv_move rfl rfl) ?_
          refine RL.opD (by decide) (opv_build (cs := [(.int .i64 x2), (.int .i64 x8)]) [(0, [(.int .i64 x2)]), (1, [(.int .i64 x8)])] [(0, (.int .i64 x2)), (1, (.int .i64 x8))] rfl Try.bd31 ⟨⟨rfl, rfl, rfl, cells1 rfl⟩, ⟨rfl, rfl, rfl, cells1 rfl⟩, trivial⟩ rfl) ?_
          refine RL.op _ (by decide) (opS_litW (K := (kII .i64)) (us := [(.int .i64 x2), (.int .i64 x8)]) (z := (x2, x8)) rfl Try.underlying70 Try.einfo31 rfl rfl rfl rfl rfl rfl) ?_
          rintro v5 hp4 ⟨MT_3, T_3⟩
          have X_4 : Mod [] h0 hp4 := Mod.step (A := []) (L := [ownO (kII .i64) 31 v2 x1, ownO (kII .i64) 31 (.slice none 0 0) ([] : List ((Int × Int))), boxO bb1 [(.int .i64 a0_0), (.int .i64 a0_1), (.bool a0_2), u0_3, u0_4]]) X_3 S_4 MT_3
          have S_5 : Sep [] h0.size hp4 [ownO (kII .i64) 31 v5 [(x2, x8)], ownO (kII .i64) 31 v2 x1, ownO (kII .i64) 31 (.slice none 0 0) ([] : List ((Int × Int))), boxO bb1 [(.int .i64 a0_0), (.int .i64 a0_1), (.bool a0_2), u0_3, u0_4]] := Sep.step (A := []) (L := [ownO (kII .i64) 31 v2 x1, ownO (kII .i64) 31 (.slice none 0 0) ([] : List ((Int × Int))), boxO bb1 [(.int .i64 a0_0), (.int .i64 a0_1), (.bool a0_2), u0_3, u0_4]]) S_4 (Mod.size X_3) MT_3 T_3
          refine RL.op _ (by decide) (opS_append (K := (kII .i64)) rfl Try.underlying70 Try.einfo31 rfl rfl rfl rfl (Sep.at (o := ownO (kII .i64) 31 v2 x1) S_5 1 rfl) (ownO.read (Sep.at (o := ownO (kII .i64) 31 v5 [(x2, x8)]) S_5 0 rfl)) (by decide) (by decide) c6) ?_
          rintro v6 hp5 ⟨MT_4, T_4⟩
          have S_6 : Sep [] h0.size hp4 ([ownO (kII .i64) 31 v2 x1] ++ [ownO (kII .i64) 31 v5 [(x2, x8)], ownO (kII .i64) 31 (.slice none 0 0) ([] : List ((Int × Int))), boxO bb1 [(.int .i64 a0_0), (.int .i64 a0_1), (.bool a0_2), u0_3, u0_4]]) := Sep.sel S_5 [1, 0, 2, 3] (by decide)
          have X_5 : Mod [] h0 hp5 := Mod.step (A := [ownO (kII .i64) 31 v2 x1]) (L := [ownO (kII .i64) 31 v5 [(x2, x8)], ownO (kII .i64) 31 (.slice none 0 0) ([] : List ((Int × Int))), boxO bb1 [(.int .i64 a0_0), (.int .i64 a0_1), (.bool a0_2), u0_3, u0_4]]) X_4 S_6 MT_4
          have S_7 : Sep [] h0.size hp5 [ownO (kII .i64) 31 v6 (x1 ++ [(x2, x8)]), ownO (kII .i64) 31 v5 [(x2, x8)], ownO (kII .i64) 31 (.slice none 0 0) ([] : List ((Int × Int))), boxO bb1 [(.int .i64 a0_0), (.int .i64 a0_1), (.bool a0_2), u0_3, u0_4]] := Sep.step (A := [ownO (kII .i64) 31 v2 x1]) (L := [ownO (kII .i64) 31 v5 [(x2, x8)], ownO (kII .i64) 31 (.slice none 0 0) ([] : List ((Int × Int))), boxO bb1 [(.int .i64 a0_0), (.int .i64 a0_1), (.bool a0_2), u0_3, u0_4]]) S_6 (Mod.size X_4) MT_4 T_4
          refine RL.opD (by decide) (opv_assign rfl rfl) ?_
          refine RL.nil ?_
          have ey3 := Option.some.inj hy3
          subst ey3
          refine onlyN ?_
          exact ⟨v6, ⟨rfl, rfl, rfl, rfl, rfl, rfl, rfl, rfl, rfl, rfl, rfl, rfl, rfl, trivial⟩, X_5, (Sep.sel S_7 [2, 3, 0] (by decide))⟩
        · rw [if_neg c5] at hy3
          have c5 := eq_false_of_ne_true c5
          refine W.condF rfl c5 ?_
          refine W.skip ?_
          have ey3 := Option.some.inj hy3
          subst ey3
          refine onlyN ?_
          exact ⟨v2, ⟨rfl, rfl, rfl, rfl, rfl, rfl, rfl, rfl, rfl, rfl, rfl, rfl, rfl, trivial⟩, X_3, (Sep.sel S_4 [1, 2, 0] (by decide))⟩
      rintro φ' hp6 ⟨v4, hs4, X_6, S_8⟩
      refine thnN ?_
      refine W.sub hs4 ?_
      refine W.region ?_
      refine RL.opD (by decide) (opv_move rfl rfl) ?_
      refine RL.opD (by decide) (opv_move rfl rfl) ?_
      refine RL.opD (by decide) (opv_add rfl rfl rfl) ?_
      refine RL.opD (by decide) (opv_assign rfl rfl) ?_
      refine RL.nil ?_
      refine blkN ?_
      refine thnN ?_
      refine W.region ?_
      refine RL.opD (by decide) (opv_add rfl rfl rfl) ?_
      refine RL.opD (by decide) (opv_move rfl rfl) ?_
      refine RL.nil ?_
      have eo1 := Option.some.inj ho1
      subst eo1
      refine rndN (s' := (x9, IntKind.wrap .i64 (x2 + x8), IntKind.wrap .i64 (x3 + 1))) rfl ?_
      exact ⟨v4, ⟨rfl, rfl, rfl, rfl, rfl, rfl, rfl, rfl, trivial⟩, X_6, (Sep.sel S_8 [2, 0, 1] (by decide))⟩
    · rw [if_neg c1] at ho1
      have c1 := eq_false_of_ne_true c1
      refine W.condF rfl c1 ?_
      refine W.exit ?_
      refine thnX ?_
      refine rndX ?_
      refine blkI ?_
      have eo1 := Option.some.inj ho1
      subst eo1
      have ey1 := hy1 _ rfl
      subst ey1
      refine onlyN ?_
      exact ⟨x2, x3, decide (x3 < a1), x1, v2, rfl, ⟨rfl, rfl, rfl, rfl, rfl, rfl, rfl, rfl, rfl, trivial⟩, X_3, (Sep.sel S_4 [1, 2, 0] (by decide))⟩
  rintro φ' hp7 ⟨x4, x5, x6, x7, v3, rfl, hs2, X_7, S_9⟩
  try dsimp only at hp
  refine thnN ?_
  refine W.sub hs2 ?_
  refine W.seq ?_
  refine W.region ?_
  refine RL.opD (by decide) (opv_move rfl rfl) ?_
  refine RL.opD (by decide) (opv_assign rfl rfl) ?_
  refine RL.nil ?_
  refine thnN ?_
  refine W.ret ?_
  have er := Option.some.inj hp
  subst er
  exact Rt.one rfl rfl ⟨X_7, (Sep.sel S_9 [2] (by decide))⟩

set_option maxRecDepth 20000 in
theorem impl_StripsOf_ok (h0 : Heap) (a0_0 : Int) (a0_1 : Int) (a0_2 : Bool) (u0_3 : Value) (a0_3 : List (Option Nat)) (g0_3 : SL (kF .f32) h0.size h0 u0_3 a0_3) (u0_4 : Value) (a0_4 : List (Option Nat)) (g0_4 : SL (kF .f32) h0.size h0 u0_4 a0_4) (a1 : Int) (r : ((List ((Int × Int))) × Bool)) (hp : impl_StripsOf a0_0 a0_1 a0_2 a0_3 a0_4 a1 = some r) : CallsH Try.prog 51 ([(.agg (List.toArray (α := Value) [(.int .i64 a0_0), (.int .i64 a0_1), (.bool a0_2), u0_3, u0_4])), (.int .i64 a1)].toArray ++ [].toArray) h0 (fun v h' => ∃ w0, v = (.tuple (List.toArray (α := Value) [w0, (.bool r.2)])) ∧ Mod [] h0 h' ∧ Sep [] h0.size h' [ownO (kII .i64) 31 w0 r.1]) := by
  unfold impl_StripsOf at hp
  refine callsH_of_W (l := [(.agg (List.toArray (α := Value) [(.int .i64 a0_0), (.int .i64 a0_1), (.bool a0_2), u0_3, u0_4])), (.int .i64 a1)]) (cap := []) 17 Try.func51 rfl rfl rfl ?_
  refine W.seq ?_
  refine W.region ?_
  refine RL.op _ (by decide) (opS_boxed (opv_boxA (cs := [(.int .i64 a0_0), (.int .i64 a0_1), (.bool a0_2), u0_3, u0_4]) rfl rfl)) ?_
  rintro _ hp1 ⟨bb1, rfl, MT_1, T_1⟩
  have X_1 : Mod [] h0 hp1 := Mod.step (A := []) (L := []) (Mod.refl [] h0) (Sep.nil [] h0.size h0) MT_1
  have S_1 : Sep [] h0.size hp1 [boxO bb1 [(.int .i64 a0_0), (.int .i64 a0_1), (.bool a0_2), u0_3, u0_4]] := Sep.step (A := []) (L := []) (Sep.nil [] h0.size h0) (Mod.size (Mod.refl [] h0)) MT_1 T_1
  refine RL.opD (by decide) (opv_assign rfl rfl) ?_
  have S_2 : Sep [] h0.size hp1 [ownO (kII .i64) 31 (.slice none 0 0) ([] : List ((Int × Int))), boxO bb1 [(.int .i64 a0_0), (.int .i64 a0_1), (.bool a0_2), u0_3, u0_4]] := Sep.addNil S_1
  refine RL.opD (by decide) (opv_assign rfl rfl) ?_
  refine RL.nil ?_
  refine thnN ?_
  refine W.seq ?_
  refine W.seq ?_
  obtain ⟨x1, hy1, hp⟩ := Option.bind_eq_some_iff.1 hp
  refine W.cut (fun φ' h' => Fr.sub [(0, (.agg (List.toArray (α := Value) [(.int .i64 a0_0), (.int .i64 a0_1), (.bool a0_2), u0_3, u0_4]))), (1, (.int .i64 a1)), (2, (.pointer (some ⟨bb1, 0, none⟩))), (4, (.slice none 0 0)), (5, (.bool false)), (13, (.bool x1))] φ' ∧ Mod [] h0 h' ∧ Sep [] h0.size h' [ownO (kII .i64) 31 (.slice none 0 0) ([] : List ((Int × Int))), boxO bb1 [(.int .i64 a0_0), (.int .i64 a0_1), (.bool a0_2), u0_3, u0_4]]) ?_ ?_
  · obtain ⟨x2, hx2, hy1⟩ := Option.bind_eq_some_iff.1 hy1
    by_cases c1 : (!x2) = true
    · rw [if_pos c1] at hy1
      refine W.region ?_
      refine RL.opD (by decide) (opv_loadA (us := [(.int .i64 a0_0), (.int .i64 a0_1), (.bool a0_2), u0_3, u0_4]) rfl Try.agg29 Try.size29 rfl (Sep.at (o := boxO bb1 [(.int .i64 a0_0), (.int .i64 a0_1), (.bool a0_2), u0_3, u0_4]) S_2 1 rfl) rfl rfl) ?_
      refine RL.op _ (by decide) (opv_call (cap := []) (impl_ValidSheet_ok _ _ _ _ _ _ (SL.up (SL.mod g0_3 X_1 (Nat.le_refl _) nob) (Nat.le_trans (Nat.le_refl _) (Mod.size X_1))) _ _ (SL.up (SL.mod g0_4 X_1 (Nat.le_refl _) nob) (Nat.le_trans (Nat.le_refl _) (Mod.size X_1))) _ hx2) rfl rfl ⟨rfl, trivial⟩ Try.func76 rfl rfl) ?_
      rintro _ hp2 ⟨rfl, MT_2, T_2⟩
      have X_2 : Mod [] h0 hp2 := Mod.step (A := []) (L := [ownO (kII .i64) 31 (.slice none 0 0) ([] : List ((Int × Int))), boxO bb1 [(.int .i64 a0_0), (.int .i64 a0_1), (.bool a0_2), u0_3, u0_4]]) X_1 S_2 MT_2
      have S_3 : Sep [] h0.size hp2 [ownO (kII .i64) 31 (.slice none 0 0) ([] : List ((Int × Int))), boxO bb1 [(.int .i64 a0_0), (.int .i64 a0_1), (.bool a0_2), u0_3, u0_4]] := Sep.step (A := []) (L := [ownO (kII .i64) 31 (.slice none 0 0) ([] : List ((Int × Int))), boxO bb1 [(.int .i64 a0_0), (.int .i64 a0_1), (.bool a0_2), u0_3, u0_4]]) S_2 (Mod.size X_1) MT_2 T_2
      refine RL.opD (by decide) (opv_not rfl rfl) ?_
      refine RL.opD (by decide) (opv_move rfl rfl) ?_
      refine RL.no rfl rfl (Eq.trans c1 (by decide)) (by decide) ?_
      refine RL.no rfl rfl (Eq.trans c1 (by decide)) (by decide) ?_
      refine RL.no rfl rfl (Eq.trans c1 (by decide)) (by decide) ?_
      refine RL.opD (by decide) (opv_pick rfl rfl (fun _ => rfl) (fun e => absurd (Eq.trans (Eq.symm e) c1) (by decide)) rfl) ?_
      refine RL.nil ?_
      have ey1 := Option.some.inj hy1
      subst ey1
      refine onlyN ?_
      exact ⟨⟨rfl, rfl, rfl, rfl, rfl, rfl, trivial⟩, X_2, (Sep.sel S_3 [0, 1] (by decide))⟩
    · rw [if_neg c1] at hy1
      have c1 := eq_false_of_ne_true c1
      obtain ⟨x3, hx3, hy1⟩ := Option.bind_eq_some_iff.1 hy1
      refine W.region ?_
      refine RL.opD (by decide) (opv_loadA (us := [(.int .i64 a0_0), (.int .i64 a0_1), (.bool a0_2), u0_3, u0_4]) rfl Try.agg29 Try.size29 rfl (Sep.at (o := boxO bb1 [(.int .i64 a0_0), (.int .i64 a0_1), (.bool a0_2), u0_3, u0_4]) S_2 1 rfl) rfl rfl) ?_
      refine RL.op _ (by decide) (opv_call (cap := []) (impl_ValidSheet_ok _ _ _ _ _ _ (SL.up (SL.mod g0_3 X_1 (Nat.le_refl _) nob) (Nat.le_trans (Nat.le_refl _) (Mod.size X_1))) _ _ (SL.up (SL.mod g0_4 X_1 (Nat.le_refl _) nob) (Nat.le_trans (Nat.le_refl _) (Mod.size X_1))) _ hx2) rfl rfl ⟨rfl, trivial⟩ Try.func76 rfl rfl) ?_
      rintro _ hp2 ⟨rfl, MT_2, T_2⟩
      have X_2 : Mod [] h0 hp2 := Mod.step (A := []) (L := [ownO (kII .i64) 31 (.slice none 0 0) ([] : List ((Int × Int))), boxO bb1 [(.int .i64 a0_0), (.int .i64 a0_1), (.bool a0_2), u0_3, u0_4]]) X_1 S_2 MT_2
      have S_3 : Sep [] h0.size hp2 [ownO (kII .i64) 31 (.slice none 0 0) ([] : List ((Int × Int))), boxO bb1 [(.int .i64 a0_0), (.int .i64 a0_1), (.bool a0_2), u0_3, u0_4]] := Sep.step (A := []) (L := [ownO (kII .i64) 31 (.slice none 0 0) ([] : List ((Int × Int))), boxO bb1 [(.int .i64 a0_0), (.int .i64 a0_1), (.bool a0_2), u0_3, u0_4]]) S_2 (Mod.size X_1) MT_2 T_2
      refine RL.opD (by decide) (opv_not rfl rfl) ?_
      refine RL.opD (by decide) (opv_move rfl rfl) ?_
      refine RL.yes _ rfl rfl c1 (by decide) (opv_move rfl rfl) ?_
      rintro _ _ ⟨rfl, rfl⟩
      refine RL.yes _ rfl rfl c1 (by decide) (opv_call (cap := []) (impl_areWorkers_ok _ _ _ hx3) rfl rfl ⟨rfl, trivial⟩ Try.func102 rfl rfl) ?_
      rintro _ _ ⟨rfl, rfl⟩
      refine RL.yes _ rfl rfl c1 (by decide) (opv_not rfl rfl) ?_
      rintro _ _ ⟨rfl, rfl⟩
      refine RL.opD (by decide) (opv_pick rfl rfl (fun e => absurd (Eq.trans (Eq.symm e) c1) (by decide)) (fun _ => rfl) rfl) ?_
      refine RL.nil ?_
      have ey1 := Option.some.inj hy1
      subst ey1
      refine onlyN ?_
      exact ⟨⟨rfl, rfl, rfl, rfl, rfl, rfl, trivial⟩, X_2, (Sep.sel S_3 [0, 1] (by decide))⟩
  rintro φ' hp3 ⟨hs1, X_3, S_4⟩
  refine thnN ?_
  refine W.sub hs1 ?_
  by_cases c2 : x1 = true
  · rw [if_pos c2] at hp
    refine W.condT rfl c2 ?_
    refine W.seq ?_
    refine W.region ?_
    refine RL.opD (by decide) (opv_assign rfl rfl) ?_
    have S_5 : Sep [] h0.size hp3 [ownO (kII .i64) 31 (.slice none 0 0) ([] : List ((Int × Int))), ownO (kII .i64) 31 (.slice none 0 0) ([] : List ((Int × Int))), boxO bb1 [(.int .i64 a0_0), (.int .i64 a0_1), (.bool a0_2), u0_3, u0_4]] := Sep.addNil S_4
    refine RL.opD (by decide) (opv_assign rfl rfl) ?_
    refine RL.nil ?_
    refine thnN ?_
    refine W.ret ?_
    refine thnR ?_
    have er := Option.some.inj hp
    subst er
    exact Rt.two rfl rfl rfl ⟨(.slice none 0 0), rfl, X_3, (Sep.sel S_5 [0] (by decide))⟩
  · rw [if_neg c2] at hp
    have c2 := eq_false_of_ne_true c2
    refine W.condF rfl c2 ?_
    refine W.skip ?_
    refine thnN ?_
    refine W.seq ?_
    obtain ⟨x4, hx4, hp⟩ := Option.bind_eq_some_iff.1 hp
    refine W.region ?_
    refine RL.opD (by decide) (opv_loadA (us := [(.int .i64 a0_0), (.int .i64 a0_1), (.bool a0_2), u0_3, u0_4]) rfl Try.agg29 Try.size29 rfl (Sep.at (o := boxO bb1 [(.int .i64 a0_0), (.int .i64 a0_1), (.bool a0_2), u0_3, u0_4]) S_4 1 rfl) rfl rfl) ?_
    refine RL.opD (by decide) (opv_move rfl rfl) ?_
    refine RL.op _ (by decide) (opv_call (cap := []) (impl_stripsOf_ok _ _ _ _ _ _ (SL.up (SL.mod g0_3 X_3 (Nat.le_refl _) nob) (Nat.le_trans (Nat.le_refl _) (Mod.size X_3))) _ _ (SL.up (SL.mod g0_4 X_3 (Nat.le_refl _) nob) (Nat.le_trans (Nat.le_refl _) (Mod.size X_3))) _ _ hx4) rfl rfl ⟨rfl, rfl, trivial⟩ Try.func103 rfl rfl) ?_
    rintro v1 hp4 ⟨MT_3, T_3⟩
    have X_4 : Mod [] h0 hp4 := Mod.step (A := []) (L := [ownO (kII .i64) 31 (.slice none 0 0) ([] : List ((Int × Int))), boxO bb1 [(.int .i64 a0_0), (.int .i64 a0_1), (.bool a0_2), u0_3, u0_4]]) X_3 S_4 MT_3
    have S_6 : Sep [] h0.size hp4 [ownO (kII .i64) 31 v1 x4, ownO (kII .i64) 31 (.slice none 0 0) ([] : List ((Int × Int))), boxO bb1 [(.int .i64 a0_0), (.int .i64 a0_1), (.bool a0_2), u0_3, u0_4]] := Sep.step (A := []) (L := [ownO (kII .i64) 31 (.slice none 0 0) ([] : List ((Int × Int))), boxO bb1 [(.int .i64 a0_0), (.int .i64 a0_1), (.bool a0_2), u0_3, u0_4]]) S_4 (Mod.size X_3) MT_3 T_3
    refine RL.opD (by decide) (opv_assign rfl rfl) ?_
    refine RL.opD (by decide) (opv_assign rfl rfl) ?_
    refine RL.nil ?_
    refine thnN ?_
    refine W.ret ?_
    have er := Option.some.inj hp
    subst er
    exact Rt.two rfl rfl rfl ⟨v1, rfl, X_4, (Sep.sel S_6 [0] (by decide))⟩

set_option maxRecDepth 20000 in
theorem laws_eqStripS_ok (h0 : Heap) (u0 : Value) (a0 : List ((Int × Int))) (g0 : SL (kII .i64) h0.size h0 u0 a0) (u1 : Value) (a1 : List ((Int × Int))) (g1 : SL (kII .i64) h0.size h0 u1 a1) (r : Bool) (hp : laws_eqStripS a0 a1 = some r) : CallsH Try.prog 52 ([u0, u1].toArray ++ [].toArray) h0 (fun v h' => v = (.bool r) ∧ Mod [] h0 h' ∧ Sep [] h0.size h' []) := by
  unfold laws_eqStripS at hp
  refine callsH_of_W (l := [u0, u1]) (cap := []) 27 Try.func52 rfl rfl rfl ?_
  refine W.seq ?_
  refine W.region ?_
  refine RL.opD (by decide) (opv_assign rfl rfl) ?_
  refine RL.nil ?_
  refine thnN ?_
  refine W.seq ?_
  refine W.seq ?_
  refine W.region ?_
  refine RL.opD (by decide) (opv_move rfl rfl) ?_
  refine RL.opD (by decide) (opv_len rfl Try.underlying70 rfl g0) ?_
  refine RL.opD (by decide) (opv_move rfl rfl) ?_
  refine RL.opD (by decide) (opv_len rfl Try.underlying70 rfl g1) ?_
  refine RL.opD (by decide) (opv_icmp rfl rfl rfl rfl) ?_
  refine RL.nil ?_
  refine thnN ?_
  by_cases c1 : ((a0.length : Int) != (a1.length : Int)) = true
  · rw [if_pos c1] at hp
    refine W.condT rfl c1 ?_
    refine W.seq ?_
    refine W.region ?_
    refine RL.opD (by decide) (opv_assign rfl rfl) ?_
    refine RL.nil ?_
    refine thnN ?_
    refine W.ret ?_
    refine thnR ?_
    have er := Option.some.inj hp
    subst er
    exact Rt.one rfl rfl ⟨rfl, (Mod.refl [] h0), (Sep.nil _ _ _)⟩
  · rw [if_neg c1] at hp
    have c1 := eq_false_of_ne_true c1
    refine W.condF rfl c1 ?_
    refine W.skip ?_
    refine thnN ?_
    refine W.seq ?_
    refine W.seq ?_
    refine W.region ?_
    refine RL.opD (by decide) (opv_assign rfl rfl) ?_
    refine RL.nil ?_
    refine thnN ?_
    obtain ⟨y1, hy1, hp⟩ := Option.bind_eq_some_iff.1 hp
    refine W.cut (fun φ' h' => ∃ x3, ∃ x4, ∃ x5, y1 = .inl (x3, x4, x5) ∧ Fr.sub [(0, u0), (1, u1), (10, (.bool ((a0.length : Int) != (a1.length : Int)))), (4, (.bool x3)), (5, (.int .i64 x4)), (14, (.bool x5))] φ' ∧ Mod [] h0 h' ∧ Sep [] h0.size h' []) ?_ ?_
    · refine W.block ?_
      refine W.loopS (fun (s : (Bool × Int)) φ' h' => Fr.sub [(0, u0), (1, u1), (10, (.bool ((a0.length : Int) != (a1.length : Int)))), (4, (.bool s.1)), (5, (.int .i64 s.2))] φ' ∧ Mod [] h0 h' ∧ Sep [] h0.size h' []) hy1 ⟨⟨rfl, rfl, rfl, rfl, rfl, trivial⟩, (Mod.refl [] h0), (Sep.nil _ _ _)⟩ ?_
      rintro ⟨x1, x2⟩ φ' hp1 o1 ⟨hs1, X_1, S_1⟩ ho1 hy1
      have hs1 : Fr.sub [(0, u0), (1, u1), (10, (.bool ((a0.length : Int) != (a1.length : Int)))), (4, (.bool x1)), (5, (.int .i64 x2))] φ' := hs1
      have S_1 : Sep [] h0.size hp1 [] := S_1
      have ho1 : laws_eqStripS.s0 a0 a1 x1 x2 = some o1 := ho1
      unfold laws_eqStripS.s0 at ho1
      refine W.sub hs1 ?_
      refine W.seq ?_
      refine W.seq ?_
      refine W.region ?_
      refine RL.opD (by decide) (opv_move rfl rfl) ?_
      refine RL.opD (by decide) (opv_move rfl rfl) ?_
      refine RL.opD (by decide) (opv_len rfl Try.underlying70 rfl (SL.mod g0 X_1 (Nat.le_refl _) nob)) ?_
      refine RL.opD (by decide) (opv_icmp rfl rfl rfl rfl) ?_
      refine RL.nil ?_
      refine thnN ?_
      by_cases c2 : (decide (x2 < (a0.length : Int))) = true
      · rw [if_pos c2] at ho1
        refine W.condT rfl c2 ?_
        refine W.skip ?_
        refine thnN ?_
        refine W.seq ?_
        refine W.block ?_
        refine W.seq ?_
        obtain ⟨x6, hx6, ho1⟩ := Option.bind_eq_some_iff.1 ho1
        obtain ⟨x7, hx7, ho1⟩ := Option.bind_eq_some_iff.1 ho1
        obtain ⟨x8, hx8, ho1⟩ := Option.bind_eq_some_iff.1 ho1
        refine W.sub (ψ := [(0, u0), (1, u1), (10, (.bool ((a0.length : Int) != (a1.length : Int)))), (4, (.bool x1)), (5, (.int .i64 x2)), (14, (.bool (decide (x2 < (a0.length : Int)))))]) ⟨rfl, rfl, rfl, rfl, rfl, rfl, trivial⟩ ?_
        refine W.regionS [fun v _ => @Eq Value u0 v, fun v _ => @Eq Value (.int .i64 x2) v, fun v _ => PtI 2 v u0 (Int.toNat x2), fun v _ => @Eq Value (.agg (List.toArray (α := Value) [(.int .i64 x6.1), (.int .i64 x6.2)])) v, fun v _ => @Eq Value u1 v, fun v _ => @Eq Value (.int .i64 x2) v, fun v _ => PtI 2 v u1 (Int.toNat x2), fun v _ => @Eq Value (.agg (List.toArray (α := Value) [(.int .i64 x7.1), (.int .i64 x7.2)])) v, fun v h => @Eq Value v (.bool x8) ∧ Sep [] hp1.size h [], fun v _ => @Eq Value (.bool (!x8)) v] [[], [], [0, 1], [2], [], [], [4, 5], [6], [3, 7], [8]] [9] Try.mixed (by decide +kernel) (by decide +kernel) rfl rfl rfl ⟨fun _ _ _ h _ => h, fun _ _ _ h _ => h, fun _ _ _ h _ => h, fun _ _ _ h _ => h, fun _ _ _ h _ => h, fun _ _ _ h _ => h, fun _ _ _ h _ => h, fun _ _ _ h _ => h, fun _ _ _ ⟨e, h⟩ x => ⟨e, h.ext x⟩, fun _ _ _ h _ => h, trivial⟩ ?_ ?_
        · refine ⟨⟨rfl, ?_⟩, ⟨rfl, ?_⟩, ⟨rfl, ?_⟩, ⟨rfl, ?_⟩, ⟨rfl, ?_⟩, ⟨rfl, ?_⟩, ⟨rfl, ?_⟩, ⟨rfl, ?_⟩, ⟨rfl, ?_⟩, ⟨rfl, ?_⟩, trivial⟩
          · rintro hp3 E_1
            refine Dep.nil ?_
            refine GuardOK.none rfl ?_
            exact OpV.toDx (opv_move rfl rfl) rfl
          · rintro hp4 E_2
            refine Dep.nil ?_
            refine GuardOK.none rfl ?_
            exact OpV.toDx (opv_move rfl rfl) rfl
          · rintro hp5 E_3 _ rfl _ rfl
            refine Dep.nil ?_
            refine GuardOK.none rfl ?_
            exact OpV.toSx (opv_index rfl Try.underlying70 (by rw [Try.size31]; rfl) rfl rfl (SL.mod g0 (Mod.lift X_1 E_3) (Nat.le_refl _) nob) hx6) (fun _ h => h)
          · rintro hp6 E_4 v1 fv1
            refine Dep.nil ?_
            refine GuardOK.none rfl ?_
            exact OpV.toDx (opv_loadWhole (K := (kII .i64)) rfl Try.agg31 (by rw [Try.size31]; rfl) rfl fv1 (SL.mod g0 (Mod.lift X_1 E_4) (Nat.le_refl _) nob) (idx_some hx6).2.2 kII_all) rfl
          · rintro hp7 E_5
            refine Dep.nil ?_
            refine GuardOK.none rfl ?_
            exact OpV.toDx (opv_move rfl rfl) rfl
          · rintro hp8 E_6
            refine Dep.nil ?_
            refine GuardOK.none rfl ?_
            exact OpV.toDx (opv_move rfl rfl) rfl
          · rintro hp9 E_7 _ rfl _ rfl
            refine Dep.nil ?_
            refine GuardOK.none rfl ?_
            exact OpV.toSx (opv_index rfl Try.underlying70 (by rw [Try.size31]; rfl) rfl rfl (SL.mod g1 (Mod.lift X_1 E_7) (Nat.le_refl _) nob) hx7) (fun _ h => h)
          · rintro hp10 E_8 v2 fv2
            refine Dep.nil ?_
            refine GuardOK.none rfl ?_
            exact OpV.toDx (opv_loadWhole (K := (kII .i64)) rfl Try.agg31 (by rw [Try.size31]; rfl) rfl fv2 (SL.mod g1 (Mod.lift X_1 E_8) (Nat.le_refl _) nob) (idx_some hx7).2.2 kII_all) rfl
          · rintro hp11 E_9 _ rfl _ rfl
            refine Dep.nil ?_
            refine GuardOK.none rfl ?_
            exact OpV.mono (opv_call (cap := []) (laws_eqStrip_ok _ _ _ _ _ _ hx8) rfl rfl ⟨rfl, rfl, trivial⟩ Try.func104 rfl rfl) (by rintro _ _ ⟨rfl, M_, T_⟩; exact ⟨Mod.ext M_, rfl, Sep.weak T_ (Ext.size E_9)⟩)
          · rintro hp12 E_10 _ ⟨rfl, T_1⟩
            refine Dep.nil ?_
            refine GuardOK.none rfl ?_
            exact OpV.toDx (opv_not rfl rfl) rfl
        rintro hp13 E_11 _ rfl
        have X_3 : Mod [] h0 hp13 := Mod.lift X_1 E_11
        have S_3 : Sep [] h0.size hp13 [] := Sep.ext S_1 E_11
        refine Dep.nil ?_
        show RL _ _ _ _ [] _ _
        refine RL.nil ?_
        refine thnN ?_
        by_cases c3 : (!x8) = true
        · rw [if_pos c3] at ho1
          refine W.condT rfl c3 ?_
          refine W.seq ?_
          refine W.region ?_
          refine RL.opD (by decide) (opv_assign rfl rfl) ?_
          refine RL.nil ?_
          refine thnN ?_
          refine W.ret ?_
          refine blkR ?_
          refine thnR ?_
          have eo1 := Option.some.inj ho1
          subst eo1
          have ey1 := hy1 _ rfl
          subst ey1
          try dsimp only at hp
          refine rndR ?_
          refine blkR ?_
          refine onlyR ?_
          refine thnR ?_
          have er := Option.some.inj hp
          subst er
          exact Rt.one rfl rfl ⟨rfl, X_3, (Sep.nil _ _ _)⟩
        · rw [if_neg c3] at ho1
          have c3 := eq_false_of_ne_true c3
          refine W.condF rfl c3 ?_
          refine W.skip ?_
          refine blkN ?_
          refine thnN ?_
          refine W.region ?_
          refine RL.opD (by decide) (opv_move rfl rfl) ?_
          refine RL.opD (by decide) (opv_add rfl rfl rfl) ?_
          refine RL.opD (by decide) (opv_assign rfl rfl) ?_
          refine RL.nil ?_
          have eo1 := Option.some.inj ho1
          subst eo1
          refine rndN (s' := (x1, IntKind.wrap .i64 (x2 + 1))) rfl ?_
          exact ⟨⟨rfl, rfl, rfl, rfl, rfl, trivial⟩, X_3, (Sep.nil _ _ _)⟩
      · rw [if_neg c2] at ho1
        have c2 := eq_false_of_ne_true c2
        refine W.condF rfl c2 ?_
        refine W.exit ?_
        refine thnX ?_
        refine rndX ?_
        refine blkI ?_
        have eo1 := Option.some.inj ho1
        subst eo1
        have ey1 := hy1 _ rfl
        subst ey1
        refine onlyN ?_
        exact ⟨x1, x2, decide (x2 < (a0.length : Int)), rfl, ⟨rfl, rfl, rfl, rfl, rfl, rfl, trivial⟩, X_1, (Sep.nil _ _ _)⟩
    rintro φ' hp14 ⟨x3, x4, x5, rfl, hs2, X_4, S_4⟩
    try dsimp only at hp
    refine thnN ?_
    refine W.sub hs2 ?_
    refine W.seq ?_
    refine W.region ?_
    refine RL.opD (by decide) (opv_assign rfl rfl) ?_
    refine RL.nil ?_
    refine thnN ?_
    refine W.ret ?_
    have er := Option.some.inj hp
    subst er
    exact Rt.one rfl rfl ⟨rfl, X_4, (Sep.nil _ _ _)⟩

set_option maxRecDepth 20000 in
theorem laws_markStripS_ok (h0 : Heap) (lo : Nat) (hlo : lo ≤ h0.size) (u0 : Value) (a0 : List ((Int × Int))) (a1 : Int) (S0 : Sep [u0.ownBlock] h0.size h0 [ownO (kII .i64) 31 u0 a0]) (hB : ∀ b, some b ∈ [u0.ownBlock] → lo ≤ b) (r : (Int × (List ((Int × Int))))) (hp : laws_markStripS a0 a1 = some r) : CallsH Try.prog 53 ([u0, (.int .i64 a1)].toArray ++ [].toArray) h0 (fun v h' => v = (.int .i64 r.1) ∧ Mod [u0.ownBlock] h0 h' ∧ Sep [u0.ownBlock] h0.size h' [ownO (kII .i64) 31 u0 r.2]) := by
  unfold laws_markStripS at hp
  refine callsH_of_W (l := [u0, (.int .i64 a1)]) (cap := []) 27 Try.func53 rfl rfl rfl ?_
  refine W.seq ?_
  refine W.region ?_
  refine RL.opD (by decide) (opv_assign rfl rfl) ?_
  refine RL.nil ?_
  refine thnN ?_
  refine W.seq ?_
  refine W.seq ?_
  refine W.region ?_
  refine RL.opD (by decide) (opv_assign rfl rfl) ?_
  refine RL.nil ?_
  refine thnN ?_
  obtain ⟨y1, hy1, hp⟩ := Option.bind_eq_some_iff.1 hp
  refine W.cut (fun φ' h' => ∃ x4, ∃ x5, ∃ x6, ∃ x7, y1 = (x4, x5, x6, x7) ∧ Fr.sub [(0, u0), (4, (.int .i64 0)), (1, (.int .i64 x4)), (5, (.int .i64 x5)), (9, (.bool x6))] φ' ∧ Mod [u0.ownBlock] h0 h' ∧ Sep [u0.ownBlock] h0.size h' [ownO (kII .i64) 31 u0 x7]) ?_ ?_
  · refine W.block ?_
    refine W.loopS (fun (s : (Int × Int × (List ((Int × Int))))) φ' h' => Fr.sub [(0, u0), (4, (.int .i64 0)), (1, (.int .i64 s.1)), (5, (.int .i64 s.2.1))] φ' ∧ Mod [u0.ownBlock] h0 h' ∧ Sep [u0.ownBlock] h0.size h' [ownO (kII .i64) 31 u0 s.2.2]) hy1 ⟨⟨rfl, rfl, rfl, rfl, trivial⟩, (Mod.refl [u0.ownBlock] h0), (Sep.sel S0 [0] (by decide))⟩ ?_
    rintro ⟨x1, x2, x3⟩ φ' hp1 o1 ⟨hs1, X_1, S_1⟩ ho1 hy1
    have hs1 : Fr.sub [(0, u0), (4, (.int .i64 0)), (1, (.int .i64 x1)), (5, (.int .i64 x2))] φ' := hs1
    have S_1 : Sep [u0.ownBlock] h0.size hp1 [ownO (kII .i64) 31 u0 x3] := S_1
    have ho1 : laws_markStripS.s0 x1 x2 x3 = some o1 := ho1
    unfold laws_markStripS.s0 at ho1
    refine W.sub hs1 ?_
    refine W.seq ?_
    refine W.seq ?_
    refine W.region ?_
    refine RL.opD (by decide) (opv_move rfl rfl) ?_
    refine RL.opD (by decide) (opv_move rfl rfl) ?_
    refine RL.opD (by decide) (opv_len rfl Try.underlying70 rfl (ownO.read (Sep.at (o := ownO (kII .i64) 31 u0 x3) S_1 0 rfl))) ?_
    refine RL.opD (by decide) (opv_icmp rfl rfl rfl rfl) ?_
    refine RL.nil ?_
    refine thnN ?_
    by_cases c1 : (decide (x2 < (x3.length : Int))) = true
    · rw [if_pos c1] at ho1
      refine W.condT rfl c1 ?_
      refine W.skip ?_
      refine thnN ?_
      refine W.seq ?_
      refine W.block ?_
      refine W.seq ?_
      obtain ⟨x8, hx8, ho1⟩ := Option.bind_eq_some_iff.1 ho1
      obtain ⟨x9, hx9, ho1⟩ := Option.bind_eq_some_iff.1 ho1
      obtain ⟨x10, hx10, ho1⟩ := Option.bind_eq_some_iff.1 ho1
      refine W.region ?_
      refine RL.opD (by decide) (opv_move rfl rfl) ?_
      refine RL.opD (by decide) (opv_move rfl rfl) ?_
      refine RL.opD (by decide) (opv_move rfl rfl) ?_
      refine RL.op _ (by decide) (opv_index rfl Try.underlying70 (by rw [Try.size31]; rfl) rfl rfl (ownO.read (Sep.at (o := ownO (kII .i64) 31 u0 x3) S_1 0 rfl)) hx8) ?_
      rintro v1 _ ⟨fv1, rfl⟩
      refine RL.op _ (by decide) (opv_fieldE (K := (kII .i64)) rfl Try.fo31_0 rfl fv1 (ownO.read (Sep.at (o := ownO (kII .i64) 31 u0 x3) S_1 0 rfl)) (idx_some hx8).2.1) ?_
      rintro v2 _ ⟨fv2, rfl⟩
      refine RL.op0 _ (opS_storePart (K := (kII .i64)) (off := 0) rfl Try.size2 rfl fv2 rfl rfl hx9 rfl kII_set0 hx10 (Sep.at (o := ownO (kII .i64) 31 u0 x3) S_1 0 rfl)) ?_
      rintro _ hp2 ⟨rfl, MT_1, T_1⟩
      have S_2 : Sep [u0.ownBlock] h0.size hp1 ([ownO (kII .i64) 31 u0 x3] ++ []) := Sep.sel S_1 [0] (by decide)
      have X_2 : Mod [u0.ownBlock] h0 hp2 := Mod.step (A := [ownO (kII .i64) 31 u0 x3]) (L := []) X_1 S_2 MT_1
      have S_3 : Sep [u0.ownBlock] h0.size hp2 [ownO (kII .i64) 31 u0 x10] := Sep.step (A := [ownO (kII .i64) 31 u0 x3]) (L := []) S_2 (Mod.size X_1) MT_1 T_1
      refine RL.nil ?_
      refine thnN ?_
      refine W.seq ?_
      refine W.region ?_
      refine RL.opD (by decide) (opv_move rfl rfl) ?_
      refine RL.opD (by decide) (opv_add rfl rfl rfl) ?_
      refine RL.opD (by decide) (opv_assign rfl rfl) ?_
      refine RL.nil ?_
      refine thnN ?_
      refine W.seq ?_
      obtain ⟨x11, hx11, ho1⟩ := Option.bind_eq_some_iff.1 ho1
      obtain ⟨x12, hx12, ho1⟩ := Option.bind_eq_some_iff.1 ho1
      obtain ⟨x13, hx13, ho1⟩ := Option.bind_eq_some_iff.1 ho1
      refine W.region ?_
      refine RL.opD (by decide) (opv_move rfl rfl) ?_
      refine RL.opD (by decide) (opv_move rfl rfl) ?_
      refine RL.opD (by decide) (opv_move rfl rfl) ?_
      refine RL.op _ (by decide) (opv_index rfl Try.underlying70 (by rw [Try.size31]; rfl) rfl rfl (ownO.read (Sep.at (o := ownO (kII .i64) 31 u0 x10) S_3 0 rfl)) hx11) ?_
      rintro v3 _ ⟨fv3, rfl⟩
      refine RL.op _ (by decide) (opv_fieldE (K := (kII .i64)) rfl Try.fo31_1 rfl fv3 (ownO.read (Sep.at (o := ownO (kII .i64) 31 u0 x10) S_3 0 rfl)) (idx_some hx11).2.1) ?_
      rintro v4 _ ⟨fv4, rfl⟩
      refine RL.op0 _ (opS_storePart (K := (kII .i64)) (off := 1) rfl Try.size2 rfl fv4 rfl rfl hx12 rfl kII_set1 hx13 (Sep.at (o := ownO (kII .i64) 31 u0 x10) S_3 0 rfl)) ?_
      rintro _ hp3 ⟨rfl, MT_2, T_2⟩
      have S_4 : Sep [u0.ownBlock] h0.size hp2 ([ownO (kII .i64) 31 u0 x10] ++ []) := Sep.sel S_3 [0] (by decide)
      have X_3 : Mod [u0.ownBlock] h0 hp3 := Mod.step (A := [ownO (kII .i64) 31 u0 x10]) (L := []) X_2 S_4 MT_2
      have S_5 : Sep [u0.ownBlock] h0.size hp3 [ownO (kII .i64) 31 u0 x13] := Sep.step (A := [ownO (kII .i64) 31 u0 x10]) (L := []) S_4 (Mod.size X_2) MT_2 T_2
      refine RL.nil ?_
      refine thnN ?_
      refine W.region ?_
      refine RL.opD (by decide) (opv_move rfl rfl) ?_
      refine RL.opD (by decide) (opv_add rfl rfl rfl) ?_
      refine RL.opD (by decide) (opv_assign rfl rfl) ?_
      refine RL.nil ?_
      refine blkN ?_
      refine thnN ?_
      refine W.region ?_
      refine RL.opD (by decide) (opv_move rfl rfl) ?_
      refine RL.opD (by decide) (opv_add rfl rfl rfl) ?_
      refine RL.opD (by decide) (opv_assign rfl rfl) ?_
      refine RL.nil ?_
      have eo1 := Option.some.inj ho1
      subst eo1
      refine rndN (s' := (IntKind.wrap .i64 ((IntKind.wrap .i64 (x1 + 1)) + 1), IntKind.wrap .i64 (x2 + 1), x13)) rfl ?_
      exact ⟨⟨rfl, rfl, rfl, rfl, trivial⟩, X_3, (Sep.sel S_5 [0] (by decide))⟩
    · rw [if_neg c1] at ho1
      have c1 := eq_false_of_ne_true c1
      refine W.condF rfl c1 ?_
      refine W.exit ?_
      refine thnX ?_
      refine rndX ?_
      refine blkI ?_
      have eo1 := Option.some.inj ho1
      subst eo1
      have ey1 := hy1 _ rfl
      subst ey1
      refine onlyN ?_
      exact ⟨x1, x2, decide (x2 < (x3.length : Int)), x3, rfl, ⟨rfl, rfl, rfl, rfl, rfl, trivial⟩, X_1, (Sep.sel S_1 [0] (by decide))⟩
  rintro φ' hp4 ⟨x4, x5, x6, x7, rfl, hs2, X_4, S_6⟩
  try dsimp only at hp
  refine thnN ?_
  refine W.sub hs2 ?_
  refine W.seq ?_
  refine W.region ?_
  refine RL.opD (by decide) (opv_move rfl rfl) ?_
  refine RL.opD (by decide) (opv_assign rfl rfl) ?_
  refine RL.nil ?_
  refine thnN ?_
  refine W.ret ?_
  have er := Option.some.inj hp
  subst er
  exact Rt.one rfl rfl ⟨rfl, X_4, (Sep.sel S_6 [0] (by decide))⟩

set_option maxRecDepth 20000 in
theorem laws_heldStripS_ok (h0 : Heap) (u0 : Value) (a0 : List ((Int × Int))) (g0 : SL (kII .i64) h0.size h0 u0 a0) (a1 : Int) (r : Int) (hp : laws_heldStripS a0 a1 = some r) : CallsH Try.prog 54 ([u0, (.int .i64 a1)].toArray ++ [].toArray) h0 (fun v h' => v = (.int .i64 r) ∧ h0 = h') := by
  unfold laws_heldStripS at hp
  refine callsH_of_W (l := [u0, (.int .i64 a1)]) (cap := []) 31 Try.func54 rfl rfl rfl ?_
  refine W.seq ?_
  refine W.region ?_
  refine RL.opD (by decide) (opv_assign rfl rfl) ?_
  refine RL.nil ?_
  refine thnN ?_
  refine W.seq ?_
  refine W.seq ?_
  refine W.region ?_
  refine RL.opD (by decide) (opv_assign rfl rfl) ?_
  refine RL.nil ?_
  refine thnN ?_
  obtain ⟨y1, hy1, hp⟩ := Option.bind_eq_some_iff.1 hp
  refine W.cut (fun φ' h' => ∃ x4, ∃ x5, ∃ x6, ∃ x7, y1 = .inl (x4, x5, x6, x7) ∧ Fr.sub [(0, u0), (1, (.int .i64 x4)), (4, (.int .i64 x5)), (5, (.int .i64 x6)), (9, (.bool x7))] φ' ∧ h0 = h') ?_ ?_
  · refine W.block ?_
    refine W.loopS (fun (s : (Int × Int × Int)) φ' h' => Fr.sub [(0, u0), (1, (.int .i64 s.1)), (4, (.int .i64 s.2.1)), (5, (.int .i64 s.2.2))] φ' ∧ h0 = h') hy1 ⟨⟨rfl, rfl, rfl, rfl, trivial⟩, rfl⟩ ?_
    rintro ⟨x1, x2, x3⟩ φ' _ o1 ⟨hs1, rfl⟩ ho1 hy1
    have hs1 : Fr.sub [(0, u0), (1, (.int .i64 x1)), (4, (.int .i64 x2)), (5, (.int .i64 x3))] φ' := hs1
    have ho1 : laws_heldStripS.s0 a0 x1 x2 x3 = some o1 := ho1
    unfold laws_heldStripS.s0 at ho1
    refine W.sub hs1 ?_
    refine W.seq ?_
    refine W.seq ?_
    refine W.region ?_
    refine RL.opD (by decide) (opv_move rfl rfl) ?_
    refine RL.opD (by decide) (opv_move rfl rfl) ?_
    refine RL.opD (by decide) (opv_len rfl Try.underlying70 rfl g0) ?_
    refine RL.opD (by decide) (opv_icmp rfl rfl rfl rfl) ?_
    refine RL.nil ?_
    refine thnN ?_
    by_cases c1 : (decide (x3 < (a0.length : Int))) = true
    · rw [if_pos c1] at ho1
      refine W.condT rfl c1 ?_
      refine W.skip ?_
      refine thnN ?_
      refine W.seq ?_
      refine W.block ?_
      refine W.seq ?_
      refine W.seq ?_
      obtain ⟨x8, hx8, ho1⟩ := Option.bind_eq_some_iff.1 ho1
      refine W.region ?_
      refine RL.opD (by decide) (opv_move rfl rfl) ?_
      refine RL.opD (by decide) (opv_move rfl rfl) ?_
      refine RL.op _ (by decide) (opv_index rfl Try.underlying70 (by rw [Try.size31]; rfl) rfl rfl g0 hx8) ?_
      rintro v1 _ ⟨fv1, rfl⟩
      refine RL.op _ (by decide) (opv_fieldE (K := (kII .i64)) rfl Try.fo31_0 rfl fv1 g0 (idx_some hx8).2.1) ?_
      rintro v2 _ ⟨fv2, rfl⟩
      refine RL.opD (by decide) (opv_loadPart (K := (kII .i64)) (off := 0) rfl Try.one2 rfl fv2 g0 (idx_some hx8).2.2 kII_get0) ?_
      refine RL.opD (by decide) (opv_move rfl rfl) ?_
      refine RL.opD (by decide) (opv_icmp rfl rfl rfl rfl) ?_
      refine RL.nil ?_
      refine thnN ?_
      by_cases c2 : (x8.1 != x1) = true
      · rw [if_pos c2] at ho1
        refine W.condT rfl c2 ?_
        refine W.seq ?_
        refine W.region ?_
        refine RL.opD (by decide) (opv_assign rfl rfl) ?_
        refine RL.nil ?_
        refine thnN ?_
        refine W.ret ?_
        refine thnR ?_
        refine blkR ?_
        refine thnR ?_
        have eo1 := Option.some.inj ho1
        subst eo1
        have ey1 := hy1 _ rfl
        subst ey1
        try dsimp only at hp
        refine rndR ?_
        refine blkR ?_
        refine onlyR ?_
        refine thnR ?_
        have er := Option.some.inj hp
        subst er
        exact Rt.one rfl rfl ⟨rfl, rfl⟩
      · rw [if_neg c2] at ho1
        have c2 := eq_false_of_ne_true c2
        refine W.condF rfl c2 ?_
        refine W.skip ?_
        refine thnN ?_
        refine W.seq ?_
        refine W.region ?_
        refine RL.opD (by decide) (opv_move rfl rfl) ?_
        refine RL.opD (by decide) (opv_add rfl rfl rfl) ?_
        refine RL.opD (by decide) (opv_assign rfl rfl) ?_
        refine RL.nil ?_
        refine thnN ?_
        refine W.seq ?_
        refine W.seq ?_
        obtain ⟨x9, hx9, ho1⟩ := Option.bind_eq_some_iff.1 ho1
        refine W.region ?_
        refine RL.opD (by decide) (opv_move rfl rfl) ?_
        refine RL.opD (by decide) (opv_move rfl rfl) ?_
        refine RL.op _ (by decide) (opv_index rfl Try.underlying70 (by rw [Try.size31]; rfl) rfl rfl g0 hx9) ?_
        rintro v3 _ ⟨fv3, rfl⟩
        refine RL.op _ (by decide) (opv_fieldE (K := (kII .i64)) rfl Try.fo31_1 rfl fv3 g0 (idx_some hx9).2.1) ?_
        rintro v4 _ ⟨fv4, rfl⟩
        refine RL.opD (by decide) (opv_loadPart (K := (kII .i64)) (off := 1) rfl Try.one2 rfl fv4 g0 (idx_some hx9).2.2 kII_get1) ?_
        refine RL.opD (by decide) (opv_move rfl rfl) ?_
        refine RL.opD (by decide) (opv_icmp rfl rfl rfl rfl) ?_
        refine RL.nil ?_
        refine thnN ?_
        by_cases c3 : (x9.2 != (IntKind.wrap .i64 (x1 + 1))) = true
        · rw [if_pos c3] at ho1
          refine W.condT rfl c3 ?_
          refine W.seq ?_
          refine W.region ?_
          refine RL.opD (by decide) (opv_assign rfl rfl) ?_
          refine RL.nil ?_
          refine thnN ?_
          refine W.ret ?_
          refine thnR ?_
          refine blkR ?_
          refine thnR ?_
          have eo1 := Option.some.inj ho1
          subst eo1
          have ey1 := hy1 _ rfl
          subst ey1
          try dsimp only at hp
          refine rndR ?_
          refine blkR ?_
          refine onlyR ?_
          refine thnR ?_
          have er := Option.some.inj hp
          subst er
          exact Rt.one rfl rfl ⟨rfl, rfl⟩
        · rw [if_neg c3] at ho1
          have c3 := eq_false_of_ne_true c3
          refine W.condF rfl c3 ?_
          refine W.skip ?_
          refine thnN ?_
          refine W.region ?_
          refine RL.opD (by decide) (opv_move rfl rfl) ?_
          refine RL.opD (by decide) (opv_add rfl rfl rfl) ?_
          refine RL.opD (by decide) (opv_assign rfl rfl) ?_
          refine RL.nil ?_
          refine blkN ?_
          refine thnN ?_
          refine W.region ?_
          refine RL.opD (by decide) (opv_move rfl rfl) ?_
          refine RL.opD (by decide) (opv_add rfl rfl rfl) ?_
          refine RL.opD (by decide) (opv_assign rfl rfl) ?_
          refine RL.nil ?_
          have eo1 := Option.some.inj ho1
          subst eo1
          refine rndN (s' := (IntKind.wrap .i64 ((IntKind.wrap .i64 (x1 + 1)) + 1), x2, IntKind.wrap .i64 (x3 + 1))) rfl ?_
          exact ⟨⟨rfl, rfl, rfl, rfl, trivial⟩, rfl⟩
    · rw [if_neg c1] at ho1
      have c1 := eq_false_of_ne_true c1
      refine W.condF rfl c1 ?_
      refine W.exit ?_
      refine thnX ?_
      refine rndX ?_
      refine blkI ?_
      have eo1 := Option.some.inj ho1
      subst eo1
      have ey1 := hy1 _ rfl
      subst ey1
      refine onlyN ?_
      exact ⟨x1, x2, x3, decide (x3 < (a0.length : Int)), rfl, ⟨rfl, rfl, rfl, rfl, rfl, trivial⟩, rfl⟩
  rintro φ' _ ⟨x4, x5, x6, x7, rfl, hs2, rfl⟩
  try dsimp only at hp
  refine thnN ?_
  refine W.sub hs2 ?_
  refine W.seq ?_
  refine W.region ?_
  refine RL.opD (by decide) (opv_move rfl rfl) ?_
  refine RL.opD (by decide) (opv_assign rfl rfl) ?_
  refine RL.nil ?_
  refine thnN ?_
  refine W.ret ?_
  have er := Option.some.inj hp
  subst er
  exact Rt.one rfl rfl ⟨rfl, rfl⟩

set_option maxRecDepth 20000 in
theorem laws_FnExactStripsOf_ok (h0 : Heap) (a0_0 : Int) (a0_1 : Int) (a0_2 : Bool) (u0_3 : Value) (a0_3 : List (Option Nat)) (g0_3 : SL (kF .f32) h0.size h0 u0_3 a0_3) (u0_4 : Value) (a0_4 : List (Option Nat)) (g0_4 : SL (kF .f32) h0.size h0 u0_4 a0_4) (a1 : Int) (r : Bool) (hp : laws_FnExactStripsOf a0_0 a0_1 a0_2 a0_3 a0_4 a1 = some r) : CallsH Try.prog 10 ([(.agg (List.toArray (α := Value) [(.int .i64 a0_0), (.int .i64 a0_1), (.bool a0_2), u0_3, u0_4])), (.int .i64 a1)].toArray ++ [].toArray) h0 (fun v h' => v = (.bool r) ∧ Mod [] h0 h' ∧ Sep [] h0.size h' []) := by
  unfold laws_FnExactStripsOf at hp
  refine callsH_of_W (l := [(.agg (List.toArray (α := Value) [(.int .i64 a0_0), (.int .i64 a0_1), (.bool a0_2), u0_3, u0_4])), (.int .i64 a1)]) (cap := []) 101 Try.func10 rfl rfl rfl ?_
  refine W.seq ?_
  refine W.region ?_
  refine RL.op _ (by decide) (opS_boxed (opv_boxA (cs := [(.int .i64 a0_0), (.int .i64 a0_1), (.bool a0_2), u0_3, u0_4]) rfl rfl)) ?_
  rintro _ hp1 ⟨bb1, rfl, MT_1, T_1⟩
  have X_1 : Mod [] h0 hp1 := Mod.step (A := []) (L := []) (Mod.refl [] h0) (Sep.nil [] h0.size h0) MT_1
  have S_1 : Sep [] h0.size hp1 [boxO bb1 [(.int .i64 a0_0), (.int .i64 a0_1), (.bool a0_2), u0_3, u0_4]] := Sep.step (A := []) (L := []) (Sep.nil [] h0.size h0) (Mod.size (Mod.refl [] h0)) MT_1 T_1
  refine RL.opD (by decide) (opv_assign rfl rfl) ?_
  refine RL.nil ?_
  refine thnN ?_
  refine W.seq ?_
  refine W.region ?_
  refine RL.opD (by decide) (opv_assign rfl rfl) ?_
  refine RL.nil ?_
  refine thnN ?_
  refine W.seq ?_
  obtain ⟨x1, hx1, hp⟩ := Option.bind_eq_some_iff.1 hp
  refine W.region ?_
  refine RL.opD (by decide) (opv_loadA (us := [(.int .i64 a0_0), (.int .i64 a0_1), (.bool a0_2), u0_3, u0_4]) rfl Try.agg24 Try.size24 rfl (Sep.at (o := boxO bb1 [(.int .i64 a0_0), (.int .i64 a0_1), (.bool a0_2), u0_3, u0_4]) S_1 0 rfl) rfl rfl) ?_
  refine RL.opD (by decide) (opv_move rfl rfl) ?_
  refine RL.op _ (by decide) (opv_call (cap := []) (laws_szSheet_ok _ _ _ _ _ _ (SL.up (SL.mod g0_3 X_1 (Nat.le_refl _) nob) (Nat.le_trans (Nat.le_refl _) (Mod.size X_1))) _ _ (SL.up (SL.mod g0_4 X_1 (Nat.le_refl _) nob) (Nat.le_trans (Nat.le_refl _) (Mod.size X_1))) _ _ hx1) rfl rfl ⟨rfl, rfl, trivial⟩ Try.func18 rfl rfl) ?_
  rintro _ hp2 ⟨rfl, MT_2, T_2⟩
  have X_2 : Mod [] h0 hp2 := Mod.step (A := []) (L := [boxO bb1 [(.int .i64 a0_0), (.int .i64 a0_1), (.bool a0_2), u0_3, u0_4]]) X_1 S_1 MT_2
  have S_2 : Sep [] h0.size hp2 [boxO bb1 [(.int .i64 a0_0), (.int .i64 a0_1), (.bool a0_2), u0_3, u0_4]] := Sep.step (A := []) (L := [boxO bb1 [(.int .i64 a0_0), (.int .i64 a0_1), (.bool a0_2), u0_3, u0_4]]) S_1 (Mod.size X_1) MT_2 T_2
  refine RL.opD (by decide) (opv_assign rfl rfl) ?_
  refine RL.nil ?_
  refine thnN ?_
  refine W.seq ?_
  refine W.seq ?_
  refine W.region ?_
  refine RL.opD (by decide) (opv_move rfl rfl) ?_
  refine RL.opD (by decide) (opv_icmp rfl rfl rfl rfl) ?_
  refine RL.nil ?_
  refine thnN ?_
  by_cases c1 : (decide (x1 < 0)) = true
  · rw [if_pos c1] at hp
    refine W.condT rfl c1 ?_
    refine W.seq ?_
    refine W.region ?_
    refine RL.opD (by decide) (opv_assign rfl rfl) ?_
    refine RL.nil ?_
    refine thnN ?_
    refine W.ret ?_
    refine thnR ?_
    have er := Option.some.inj hp
    subst er
    exact Rt.one rfl rfl ⟨rfl, X_2, (Sep.nil _ _ _)⟩
  · rw [if_neg c1] at hp
    have c1 := eq_false_of_ne_true c1
    refine W.condF rfl c1 ?_
    refine W.skip ?_
    refine thnN ?_
    refine W.seq ?_
    obtain ⟨x2, hx2, hp⟩ := Option.bind_eq_some_iff.1 hp
    obtain ⟨x3, hx3, hp⟩ := Option.bind_eq_some_iff.1 hp
    refine W.region ?_
    refine RL.opD (by decide) (opv_loadA (us := [(.int .i64 a0_0), (.int .i64 a0_1), (.bool a0_2), u0_3, u0_4]) rfl Try.agg24 Try.size24 rfl (Sep.at (o := boxO bb1 [(.int .i64 a0_0), (.int .i64 a0_1), (.bool a0_2), u0_3, u0_4]) S_2 0 rfl) rfl rfl) ?_
    refine RL.op _ (by decide) (opv_call (cap := []) (laws_toSheet_ok _ _ _ _ _ _ (SL.up (SL.mod g0_3 X_2 (Nat.le_refl _) nob) (Nat.le_trans (Nat.le_refl _) (Mod.size X_2))) _ _ (SL.up (SL.mod g0_4 X_2 (Nat.le_refl _) nob) (Nat.le_trans (Nat.le_refl _) (Mod.size X_2))) _ hx2) rfl rfl ⟨rfl, trivial⟩ Try.func20 rfl rfl) ?_
    rintro _ hp3 ⟨v1, v2, rfl, MT_3, T_3⟩
    have X_3 : Mod [] h0 hp3 := Mod.step (A := []) (L := [boxO bb1 [(.int .i64 a0_0), (.int .i64 a0_1), (.bool a0_2), u0_3, u0_4]]) X_2 S_2 MT_3
    have S_3 : Sep [] h0.size hp3 [ownO (kF .f32) 40 v1 x2.2.2.2.1, ownO (kF .f32) 40 v2 x2.2.2.2.2, boxO bb1 [(.int .i64 a0_0), (.int .i64 a0_1), (.bool a0_2), u0_3, u0_4]] := Sep.step (A := []) (L := [boxO bb1 [(.int .i64 a0_0), (.int .i64 a0_1), (.bool a0_2), u0_3, u0_4]]) S_2 (Mod.size X_2) MT_3 T_3
    refine RL.opD (by decide) (opv_move rfl rfl) ?_
    refine RL.op _ (by decide) (opv_call (cap := []) (spec_StripsOf_ok _ _ _ _ _ _ (ownO.read (Sep.at (o := ownO (kF .f32) 40 v1 x2.2.2.2.1) S_3 0 rfl)) _ _ (ownO.read (Sep.at (o := ownO (kF .f32) 40 v2 x2.2.2.2.2) S_3 1 rfl)) _ _ hx3) rfl rfl ⟨rfl, rfl, trivial⟩ Try.func50 rfl rfl) ?_
    rintro _ hp4 ⟨v3, rfl, MT_4, T_4⟩
    have X_4 : Mod [] h0 hp4 := Mod.step (A := []) (L := [ownO (kF .f32) 40 v1 x2.2.2.2.1, ownO (kF .f32) 40 v2 x2.2.2.2.2, boxO bb1 [(.int .i64 a0_0), (.int .i64 a0_1), (.bool a0_2), u0_3, u0_4]]) X_3 S_3 MT_4
    have S_4 : Sep [] h0.size hp4 [ownO (kII .i64) 31 v3 x3.1, ownO (kF .f32) 40 v1 x2.2.2.2.1, ownO (kF .f32) 40 v2 x2.2.2.2.2, boxO bb1 [(.int .i64 a0_0), (.int .i64 a0_1), (.bool a0_2), u0_3, u0_4]] := Sep.step (A := []) (L := [ownO (kF .f32) 40 v1 x2.2.2.2.1, ownO (kF .f32) 40 v2 x2.2.2.2.2, boxO bb1 [(.int .i64 a0_0), (.int .i64 a0_1), (.bool a0_2), u0_3, u0_4]]) S_3 (Mod.size X_3) MT_4 T_4
    refine RL.opD (by decide) (opv_move rfl rfl) ?_
    refine RL.opD (by decide) (opv_extract rfl rfl rfl) ?_
    refine RL.opD (by decide) (opv_extract rfl rfl rfl) ?_
    refine RL.opD (by decide) (opv_assign rfl rfl) ?_
    refine RL.opD (by decide) (opv_assign rfl rfl) ?_
    refine RL.nil ?_
    refine thnN ?_
    refine W.seq ?_
    obtain ⟨x4, hx4, hp⟩ := Option.bind_eq_some_iff.1 hp
    refine W.region ?_
    refine RL.opD (by decide) (opv_loadA (us := [(.int .i64 a0_0), (.int .i64 a0_1), (.bool a0_2), u0_3, u0_4]) rfl Try.agg24 Try.size24 rfl (Sep.at (o := boxO bb1 [(.int .i64 a0_0), (.int .i64 a0_1), (.bool a0_2), u0_3, u0_4]) S_4 3 rfl) rfl rfl) ?_
    refine RL.op _ (by decide) (opv_call (cap := []) (laws_toSheet_ok _ _ _ _ _ _ (SL.up (SL.mod g0_3 X_4 (Nat.le_refl _) nob) (Nat.le_trans (Nat.le_refl _) (Mod.size X_4))) _ _ (SL.up (SL.mod g0_4 X_4 (Nat.le_refl _) nob) (Nat.le_trans (Nat.le_refl _) (Mod.size X_4))) _ hx4) rfl rfl ⟨rfl, trivial⟩ Try.func20 rfl rfl) ?_
    rintro _ hp5 ⟨v4, v5, rfl, MT_5, T_5⟩
    have X_5 : Mod [] h0 hp5 := Mod.step (A := []) (L := [ownO (kII .i64) 31 v3 x3.1, ownO (kF .f32) 40 v1 x2.2.2.2.1, ownO (kF .f32) 40 v2 x2.2.2.2.2, boxO bb1 [(.int .i64 a0_0), (.int .i64 a0_1), (.bool a0_2), u0_3, u0_4]]) X_4 S_4 MT_5
    have S_5 : Sep [] h0.size hp5 [ownO (kF .f32) 40 v4 x4.2.2.2.1, ownO (kF .f32) 40 v5 x4.2.2.2.2, ownO (kII .i64) 31 v3 x3.1, ownO (kF .f32) 40 v1 x2.2.2.2.1, ownO (kF .f32) 40 v2 x2.2.2.2.2, boxO bb1 [(.int .i64 a0_0), (.int .i64 a0_1), (.bool a0_2), u0_3, u0_4]] := Sep.step (A := []) (L := [ownO (kII .i64) 31 v3 x3.1, ownO (kF .f32) 40 v1 x2.2.2.2.1, ownO (kF .f32) 40 v2 x2.2.2.2.2, boxO bb1 [(.int .i64 a0_0), (.int .i64 a0_1), (.bool a0_2), u0_3, u0_4]]) S_4 (Mod.size X_4) MT_5 T_5
    refine RL.op _ (by decide) (opS_boxed (opv_alloc (cs := [(.int .i64 0), (.int .i64 0), (.bool false), (.slice none 0 0), (.slice none 0 0)]) rfl Try.zero29 rfl)) ?_
    rintro _ hp6 ⟨bb2, rfl, MT_6, T_6⟩
    have X_6 : Mod [] h0 hp6 := Mod.step (A := []) (L := [ownO (kF .f32) 40 v4 x4.2.2.2.1, ownO (kF .f32) 40 v5 x4.2.2.2.2, ownO (kII .i64) 31 v3 x3.1, ownO (kF .f32) 40 v1 x2.2.2.2.1, ownO (kF .f32) 40 v2 x2.2.2.2.2, boxO bb1 [(.int .i64 a0_0), (.int .i64 a0_1), (.bool a0_2), u0_3, u0_4]]) X_5 S_5 MT_6
    have S_6 : Sep [] h0.size hp6 [boxO bb2 [(.int .i64 0), (.int .i64 0), (.bool false), (.slice none 0 0), (.slice none 0 0)], ownO (kF .f32) 40 v4 x4.2.2.2.1, ownO (kF .f32) 40 v5 x4.2.2.2.2, ownO (kII .i64) 31 v3 x3.1, ownO (kF .f32) 40 v1 x2.2.2.2.1, ownO (kF .f32) 40 v2 x2.2.2.2.2, boxO bb1 [(.int .i64 a0_0), (.int .i64 a0_1), (.bool a0_2), u0_3, u0_4]] := Sep.step (A := []) (L := [ownO (kF .f32) 40 v4 x4.2.2.2.1, ownO (kF .f32) 40 v5 x4.2.2.2.2, ownO (kII .i64) 31 v3 x3.1, ownO (kF .f32) 40 v1 x2.2.2.2.1, ownO (kF .f32) 40 v2 x2.2.2.2.2, boxO bb1 [(.int .i64 a0_0), (.int .i64 a0_1), (.bool a0_2), u0_3, u0_4]]) S_5 (Mod.size X_5) MT_6 T_6
    refine RL.op0 _ (opS_stored (cs := [(.int .i64 0), (.int .i64 0), (.bool false), (.slice none 0 0), (.slice none 0 0)]) (cs' := [(.int .i64 x4.1), (.int .i64 x4.2.1), (.bool x4.2.2.1), v4, v5]) (opv_storeA (us := [(.int .i64 x4.1), (.int .i64 x4.2.1), (.bool x4.2.2.1), v4, v5]) rfl Try.size29 rfl rfl (oneAll rfl (oneAll rfl (oneAll rfl (oneAll (ownO.one (Sep.at (o := ownO (kF .f32) 40 v4 x4.2.2.2.1) S_6 1 rfl)) (oneAll (ownO.one (Sep.at (o := ownO (kF .f32) 40 v5 x4.2.2.2.2) S_6 2 rfl)) rfl))))) (Sep.at (o := boxO bb2 [(.int .i64 0), (.int .i64 0), (.bool false), (.slice none 0 0), (.slice none 0 0)]) S_6 0 rfl) rfl rfl) (Sep.at (o := boxO bb2 [(.int .i64 0), (.int .i64 0), (.bool false), (.slice none 0 0), (.slice none 0 0)]) S_6 0 rfl)) ?_
    rintro _ hp7 ⟨rfl, MT_7, T_7⟩
    have S_7 : Sep [] h0.size hp6 ([boxO bb2 [(.int .i64 0), (.int .i64 0), (.bool false), (.slice none 0 0), (.slice none 0 0)]] ++ [ownO (kF .f32) 40 v4 x4.2.2.2.1, ownO (kF .f32) 40 v5 x4.2.2.2.2, ownO (kII .i64) 31 v3 x3.1, ownO (kF .f32) 40 v1 x2.2.2.2.1, ownO (kF .f32) 40 v2 x2.2.2.2.2, boxO bb1 [(.int .i64 a0_0), (.int .i64 a0_1), (.bool a0_2), u0_3, u0_4]]) := Sep.sel S_6 [0, 1, 2, 3, 4, 5, 6] (by decide)
    have X_7 : Mod [] h0 hp7 := Mod.step (A := [boxO bb2 [(.int .i64 0), (.int .i64 0), (.bool false), (.slice none 0 0), (.slice none 0 0)]]) (L := [ownO (kF .f32) 40 v4 x4.2.2.2.1, ownO (kF .f32) 40 v5 x4.2.2.2.2, ownO (kII .i64) 31 v3 x3.1, ownO (kF .f32) 40 v1 x2.2.2.2.1, ownO (kF .f32) 40 v2 x2.2.2.2.2, boxO bb1 [(.int .i64 a0_0), (.int .i64 a0_1), (.bool a0_2), u0_3, u0_4]]) X_6 S_7 MT_7
    have S_8 : Sep [] h0.size hp7 [boxO bb2 [(.int .i64 x4.1), (.int .i64 x4.2.1), (.bool x4.2.2.1), v4, v5], ownO (kF .f32) 40 v4 x4.2.2.2.1, ownO (kF .f32) 40 v5 x4.2.2.2.2, ownO (kII .i64) 31 v3 x3.1, ownO (kF .f32) 40 v1 x2.2.2.2.1, ownO (kF .f32) 40 v2 x2.2.2.2.2, boxO bb1 [(.int .i64 a0_0), (.int .i64 a0_1), (.bool a0_2), u0_3, u0_4]] := Sep.step (A := [boxO bb2 [(.int .i64 0), (.int .i64 0), (.bool false), (.slice none 0 0), (.slice none 0 0)]]) (L := [ownO (kF .f32) 40 v4 x4.2.2.2.1, ownO (kF .f32) 40 v5 x4.2.2.2.2, ownO (kII .i64) 31 v3 x3.1, ownO (kF .f32) 40 v1 x2.2.2.2.1, ownO (kF .f32) 40 v2 x2.2.2.2.2, boxO bb1 [(.int .i64 a0_0), (.int .i64 a0_1), (.bool a0_2), u0_3, u0_4]]) S_7 (Mod.size X_6) MT_7 T_7
    refine RL.nil ?_
    refine thnN ?_
    refine W.seq ?_
    obtain ⟨x5, hx5, hp⟩ := Option.bind_eq_some_iff.1 hp
    refine W.region ?_
    refine RL.opD (by decide) (opv_loadA (us := [(.int .i64 x4.1), (.int .i64 x4.2.1), (.bool x4.2.2.1), v4, v5]) rfl Try.agg29 Try.size29 rfl (Sep.at (o := boxO bb2 [(.int .i64 x4.1), (.int .i64 x4.2.1), (.bool x4.2.2.1), v4, v5]) S_8 0 rfl) rfl rfl) ?_
    refine RL.opD (by decide) (opv_move rfl rfl) ?_
    refine RL.op _ (by decide) (opv_call (cap := []) (impl_StripsOf_ok _ _ _ _ _ _ (ownO.read (Sep.at (o := ownO (kF .f32) 40 v4 x4.2.2.2.1) S_8 1 rfl)) _ _ (ownO.read (Sep.at (o := ownO (kF .f32) 40 v5 x4.2.2.2.2) S_8 2 rfl)) _ _ hx5) rfl rfl ⟨rfl, rfl, trivial⟩ Try.func51 rfl rfl) ?_
    rintro _ hp8 ⟨v6, rfl, MT_8, T_8⟩
    have X_8 : Mod [] h0 hp8 := Mod.step (A := []) (L := [boxO bb2 [(.int .i64 x4.1), (.int .i64 x4.2.1), (.bool x4.2.2.1), v4, v5], ownO (kF .f32) 40 v4 x4.2.2.2.1, ownO (kF .f32) 40 v5 x4.2.2.2.2, ownO (kII .i64) 31 v3 x3.1, ownO (kF .f32) 40 v1 x2.2.2.2.1, ownO (kF .f32) 40 v2 x2.2.2.2.2, boxO bb1 [(.int .i64 a0_0), (.int .i64 a0_1), (.bool a0_2), u0_3, u0_4]]) X_7 S_8 MT_8
    have S_9 : Sep [] h0.size hp8 [ownO (kII .i64) 31 v6 x5.1, boxO bb2 [(.int .i64 x4.1), (.int .i64 x4.2.1), (.bool x4.2.2.1), v4, v5], ownO (kF .f32) 40 v4 x4.2.2.2.1, ownO (kF .f32) 40 v5 x4.2.2.2.2, ownO (kII .i64) 31 v3 x3.1, ownO (kF .f32) 40 v1 x2.2.2.2.1, ownO (kF .f32) 40 v2 x2.2.2.2.2, boxO bb1 [(.int .i64 a0_0), (.int .i64 a0_1), (.bool a0_2), u0_3, u0_4]] := Sep.step (A := []) (L := [boxO bb2 [(.int .i64 x4.1), (.int .i64 x4.2.1), (.bool x4.2.2.1), v4, v5], ownO (kF .f32) 40 v4 x4.2.2.2.1, ownO (kF .f32) 40 v5 x4.2.2.2.2, ownO (kII .i64) 31 v3 x3.1, ownO (kF .f32) 40 v1 x2.2.2.2.1, ownO (kF .f32) 40 v2 x2.2.2.2.2, boxO bb1 [(.int .i64 a0_0), (.int .i64 a0_1), (.bool a0_2), u0_3, u0_4]]) S_8 (Mod.size X_7) MT_8 T_8
    refine RL.opD (by decide) (opv_move rfl rfl) ?_
    refine RL.opD (by decide) (opv_extract rfl rfl rfl) ?_
    refine RL.opD (by decide) (opv_extract rfl rfl rfl) ?_
    refine RL.opD (by decide) (opv_assign rfl rfl) ?_
    refine RL.opD (by decide) (opv_assign rfl rfl) ?_
    refine RL.nil ?_
    refine thnN ?_
    refine W.seq ?_
    refine W.seq ?_
    obtain ⟨x6, hy1, hp⟩ := Option.bind_eq_some_iff.1 hp
    refine W.cut (fun φ' h' => Fr.sub [(0, (.agg (List.toArray (α := Value) [(.int .i64 a0_0), (.int .i64 a0_1), (.bool a0_2), u0_3, u0_4]))), (1, (.int .i64 a1)), (2, (.pointer (some ⟨bb1, 0, none⟩))), (4, (.bool false)), (5, (.int .i64 x1)), (20, (.bool (decide (x1 < 0)))), (6, v3), (7, (.bool x3.2)), (8, (.pointer (some ⟨bb2, 0, none⟩))), (9, v6), (10, (.bool x5.2)), (44, (.bool x6))] φ' ∧ Mod [] h0 h' ∧ Sep [] h0.size h' [ownO (kII .i64) 31 v6 x5.1, boxO bb2 [(.int .i64 x4.1), (.int .i64 x4.2.1), (.bool x4.2.2.1), v4, v5], ownO (kF .f32) 40 v4 x4.2.2.2.1, ownO (kF .f32) 40 v5 x4.2.2.2.2, ownO (kII .i64) 31 v3 x3.1, ownO (kF .f32) 40 v1 x2.2.2.2.1, ownO (kF .f32) 40 v2 x2.2.2.2.2, boxO bb1 [(.int .i64 a0_0), (.int .i64 a0_1), (.bool a0_2), u0_3, u0_4]]) ?_ ?_
    · obtain ⟨x7, hx7, hy1⟩ := Option.bind_eq_some_iff.1 hy1
      by_cases c2 : (!x7) = true
      · rw [if_pos c2] at hy1
        refine W.region ?_
        refine RL.opD (by decide) (opv_move rfl rfl) ?_
        refine RL.opD (by decide) (opv_move rfl rfl) ?_
        refine RL.op _ (by decide) (opv_call (cap := []) (laws_eqStripS_ok _ _ _ (ownO.read (Sep.at (o := ownO (kII .i64) 31 v6 x5.1) S_9 0 rfl)) _ _ (ownO.read (Sep.at (o := ownO (kII .i64) 31 v3 x3.1) S_9 4 rfl)) _ hx7) rfl rfl ⟨rfl, rfl, trivial⟩ Try.func52 rfl rfl) ?_
        rintro _ hp9 ⟨rfl, MT_9, T_9⟩
        have X_9 : Mod [] h0 hp9 := Mod.step (A := []) (L := [ownO (kII .i64) 31 v6 x5.1, boxO bb2 [(.int .i64 x4.1), (.int .i64 x4.2.1), (.bool x4.2.2.1), v4, v5], ownO (kF .f32) 40 v4 x4.2.2.2.1, ownO (kF .f32) 40 v5 x4.2.2.2.2, ownO (kII .i64) 31 v3 x3.1, ownO (kF .f32) 40 v1 x2.2.2.2.1, ownO (kF .f32) 40 v2 x2.2.2.2.2, boxO bb1 [(.int .i64 a0_0), (.int .i64 a0_1), (.bool a0_2), u0_3, u0_4]]) X_8 S_9 MT_9
        have S_10 : Sep [] h0.size hp9 [ownO (kII .i64) 31 v6 x5.1, boxO bb2 [(.int .i64 x4.1), (.int .i64 x4.2.1), (.bool x4.2.2.1), v4, v5], ownO (kF .f32) 40 v4 x4.2.2.2.1, ownO (kF .f32) 40 v5 x4.2.2.2.2, ownO (kII .i64) 31 v3 x3.1, ownO (kF .f32) 40 v1 x2.2.2.2.1, ownO (kF .f32) 40 v2 x2.2.2.2.2, boxO bb1 [(.int .i64 a0_0), (.int .i64 a0_1), (.bool a0_2), u0_3, u0_4]] := Sep.step (A := []) (L := [ownO (kII .i64) 31 v6 x5.1, boxO bb2 [(.int .i64 x4.1), (.int .i64 x4.2.1), (.bool x4.2.2.1), v4, v5], ownO (kF .f32) 40 v4 x4.2.2.2.1, ownO (kF .f32) 40 v5 x4.2.2.2.2, ownO (kII .i64) 31 v3 x3.1, ownO (kF .f32) 40 v1 x2.2.2.2.1, ownO (kF .f32) 40 v2 x2.2.2.2.2, boxO bb1 [(.int .i64 a0_0), (.int .i64 a0_1), (.bool a0_2), u0_3, u0_4]]) S_9 (Mod.size X_8) MT_9 T_9
        refine RL.opD (by decide) (opv_not rfl rfl) ?_
        refine RL.opD (by decide) (opv_move rfl rfl) ?_
        refine RL.no rfl rfl (Eq.trans c2 (by decide)) (by decide) ?_
        refine RL.no rfl rfl (Eq.trans c2 (by decide)) (by decide) ?_
        refine RL.no rfl rfl (Eq.trans c2 (by decide)) (by decide) ?_
        refine RL.opD (by decide) (opv_pick rfl rfl (fun _ => rfl) (fun e => absurd (Eq.trans (Eq.symm e) c2) (by decide)) rfl) ?_
        refine RL.nil ?_
        have ey1 := Option.some.inj hy1
        subst ey1
        refine onlyN ?_
        exact ⟨⟨rfl, rfl, rfl, rfl, rfl, rfl, rfl, rfl, rfl, rfl, rfl, rfl, trivial⟩, X_9, (Sep.sel S_10 [0, 1, 2, 3, 4, 5, 6, 7] (by decide))⟩
      · rw [if_neg c2] at hy1
        have c2 := eq_false_of_ne_true c2
        refine W.region ?_
        refine RL.opD (by decide) (opv_move rfl rfl) ?_
        refine RL.opD (by decide) (opv_move rfl rfl) ?_
        refine RL.op _ (by decide) (opv_call (cap := []) (laws_eqStripS_ok _ _ _ (ownO.read (Sep.at (o := ownO (kII .i64) 31 v6 x5.1) S_9 0 rfl)) _ _ (ownO.read (Sep.at (o := ownO (kII .i64) 31 v3 x3.1) S_9 4 rfl)) _ hx7) rfl rfl ⟨rfl, rfl, trivial⟩ Try.func52 rfl rfl) ?_
        rintro _ hp9 ⟨rfl, MT_9, T_9⟩
        have X_9 : Mod [] h0 hp9 := Mod.step (A := []) (L := [ownO (kII .i64) 31 v6 x5.1, boxO bb2 [(.int .i64 x4.1), (.int .i64 x4.2.1), (.bool x4.2.2.1), v4, v5], ownO (kF .f32) 40 v4 x4.2.2.2.1, ownO (kF .f32) 40 v5 x4.2.2.2.2, ownO (kII .i64) 31 v3 x3.1, ownO (kF .f32) 40 v1 x2.2.2.2.1, ownO (kF .f32) 40 v2 x2.2.2.2.2, boxO bb1 [(.int .i64 a0_0), (.int .i64 a0_1), (.bool a0_2), u0_3, u0_4]]) X_8 S_9 MT_9
        have S_10 : Sep [] h0.size hp9 [ownO (kII .i64) 31 v6 x5.1, boxO bb2 [(.int .i64 x4.1), (.int .i64 x4.2.1), (.bool x4.2.2.1), v4, v5], ownO (kF .f32) 40 v4 x4.2.2.2.1, ownO (kF .f32) 40 v5 x4.2.2.2.2, ownO (kII .i64) 31 v3 x3.1, ownO (kF .f32) 40 v1 x2.2.2.2.1, ownO (kF .f32) 40 v2 x2.2.2.2.2, boxO bb1 [(.int .i64 a0_0), (.int .i64 a0_1), (.bool a0_2), u0_3, u0_4]] := Sep.step (A := []) (L := [ownO (kII .i64) 31 v6 x5.1, boxO bb2 [(.int .i64 x4.1), (.int .i64 x4.2.1), (.bool x4.2.2.1), v4, v5], ownO (kF .f32) 40 v4 x4.2.2.2.1, ownO (kF .f32) 40 v5 x4.2.2.2.2, ownO (kII .i64) 31 v3 x3.1, ownO (kF .f32) 40 v1 x2.2.2.2.1, ownO (kF .f32) 40 v2 x2.2.2.2.2, boxO bb1 [(.int .i64 a0_0), (.int .i64 a0_1), (.bool a0_2), u0_3, u0_4]]) S_9 (Mod.size X_8) MT_9 T_9
        refine RL.opD (by decide) (opv_not rfl rfl) ?_
        refine RL.opD (by decide) (opv_move rfl rfl) ?_
        refine RL.yes _ rfl rfl c2 (by decide) (opv_move rfl rfl) ?_
        rintro _ _ ⟨rfl, rfl⟩
        refine RL.yes _ rfl rfl c2 (by decide) (opv_move rfl rfl) ?_
        rintro _ _ ⟨rfl, rfl⟩
        refine RL.yes _ rfl rfl c2 (by decide) (opv_bcmp rfl rfl Try.underlying4 rfl rfl) ?_
        rintro _ _ ⟨rfl, rfl⟩
        refine RL.opD (by decide) (opv_pick rfl rfl (fun e => absurd (Eq.trans (Eq.symm e) c2) (by decide)) (fun _ => rfl) rfl) ?_
        refine RL.nil ?_
        have ey1 := Option.some.inj hy1
        subst ey1
        refine onlyN ?_
        exact ⟨⟨rfl, rfl, rfl, rfl, rfl, rfl, rfl, rfl, rfl, rfl, rfl, rfl, trivial⟩, X_9, (Sep.sel S_10 [0, 1, 2, 3, 4, 5, 6, 7] (by decide))⟩
    rintro φ' hp10 ⟨hs1, X_10, S_11⟩
    refine thnN ?_
    refine W.sub hs1 ?_
    by_cases c3 : x6 = true
    · rw [if_pos c3] at hp
      refine W.condT rfl c3 ?_
      refine W.seq ?_
      refine W.region ?_
      refine RL.opD (by decide) (opv_assign rfl rfl) ?_
      refine RL.nil ?_
      refine thnN ?_
      refine W.ret ?_
      refine thnR ?_
      have er := Option.some.inj hp
      subst er
      exact Rt.one rfl rfl ⟨rfl, X_10, (Sep.nil _ _ _)⟩
    · rw [if_neg c3] at hp
      have c3 := eq_false_of_ne_true c3
      refine W.condF rfl c3 ?_
      refine W.skip ?_
      refine thnN ?_
      refine W.seq ?_
      refine W.seq ?_
      obtain ⟨x8, hx8, hp⟩ := Option.bind_eq_some_iff.1 hp
      obtain ⟨x9, hx9, hp⟩ := Option.bind_eq_some_iff.1 hp
      refine W.sub (ψ := [(0, (.agg (List.toArray (α := Value) [(.int .i64 a0_0), (.int .i64 a0_1), (.bool a0_2), u0_3, u0_4]))), (1, (.int .i64 a1)), (2, (.pointer (some ⟨bb1, 0, none⟩))), (4, (.bool false)), (5, (.int .i64 x1)), (20, (.bool (decide (x1 < 0)))), (6, v3), (7, (.bool x3.2)), (8, (.pointer (some ⟨bb2, 0, none⟩))), (9, v6), (10, (.bool x5.2)), (44, (.bool x6))]) ⟨rfl, rfl, rfl, rfl, rfl, rfl, rfl, rfl, rfl, rfl, rfl, rfl, trivial⟩ ?_
      refine W.regionM [fun v _ => @Eq Value (.agg (List.toArray (α := Value) [(.int .i64 x4.1), (.int .i64 x4.2.1), (.bool x4.2.2.1), v4, v5])) v, fun v _ => @Eq Value (.agg (List.toArray (α := Value) [(.int .i64 a0_0), (.int .i64 a0_1), (.bool a0_2), u0_3, u0_4])) v, fun v h => ∃ v7, ∃ v8, @Eq Value v (.agg (List.toArray (α := Value) [(.int .i64 x8.1), (.int .i64 x8.2.1), (.bool x8.2.2.1), v7, v8])) ∧ Sep [] hp10.size h [ownO (kF .f32) 40 v7 x8.2.2.2.1, ownO (kF .f32) 40 v8 x8.2.2.2.2], fun v h => @Eq Value v (.bool x9) ∧ Sep [] hp10.size h [], fun v _ => @Eq Value (.bool (!x9)) v] [none, none, some (fun u => [Value.ownBlock (vget u 3), Value.ownBlock (vget u 4)]), some (fun u => []), none] [] [[], [], [1], [0, 2], [3]] [4] Try.mixed (by decide +kernel) (by decide +kernel) rfl rfl rfl (by decide +kernel) rfl ⟨fun _ _ _ h _ => h, fun _ _ _ h _ => h, fun _ _ _ ⟨u0_, u1_, e, h⟩ x => ⟨u0_, u1_, e, h.ext x⟩, fun _ _ _ ⟨e, h⟩ x => ⟨e, h.ext x⟩, fun _ _ _ h _ => h, trivial⟩ ?_ ?_
      · refine ⟨⟨rfl, ?_⟩, ⟨rfl, ?_⟩, ⟨rfl, ?_⟩, ⟨rfl, ?_⟩, ⟨rfl, ?_⟩, trivial⟩
        · rintro hp13 E_1
          refine Dep.nil ?_
          refine GuardOK.none rfl ?_
          exact OpV.toDx (opv_loadA (us := [(.int .i64 x4.1), (.int .i64 x4.2.1), (.bool x4.2.2.1), v4, v5]) rfl Try.agg29 Try.size29 rfl (Sep.at (o := boxO bb2 [(.int .i64 x4.1), (.int .i64 x4.2.1), (.bool x4.2.2.1), v4, v5]) (Sep.ext S_11 E_1) 1 rfl) rfl rfl) rfl
        · rintro hp14 E_2
          refine Dep.nil ?_
          refine GuardOK.none rfl ?_
          exact OpV.toDx (opv_loadA (us := [(.int .i64 a0_0), (.int .i64 a0_1), (.bool a0_2), u0_3, u0_4]) rfl Try.agg24 Try.size24 rfl (Sep.at (o := boxO bb1 [(.int .i64 a0_0), (.int .i64 a0_1), (.bool a0_2), u0_3, u0_4]) (Sep.ext S_11 E_2) 7 rfl) rfl rfl) rfl
        · rintro hp15 E_3 _ rfl
          refine Dep.nil ?_
          refine GuardOK.none rfl ?_
          exact OpV.mono (opv_call (cap := []) (laws_toSheet_ok _ _ _ _ _ _ (SL.up (SL.mod g0_3 (Mod.lift X_10 E_3) (Nat.le_refl _) nob) (Nat.le_trans (Nat.le_refl _) (Mod.size (Mod.lift X_10 E_3)))) _ _ (SL.up (SL.mod g0_4 (Mod.lift X_10 E_3) (Nat.le_refl _) nob) (Nat.le_trans (Nat.le_refl _) (Mod.size (Mod.lift X_10 E_3)))) _ hx8) rfl rfl ⟨rfl, trivial⟩ Try.func20 rfl rfl) (by rintro _ _ ⟨v7, v8, rfl, M_, T_⟩; exact ⟨Mod.ext M_, ⟨v7, v8, rfl, Sep.weak T_ (Ext.size E_3)⟩, Sep.fresh T_⟩)
        · rintro hp16 E_4 _ rfl _ ⟨v7, v8, rfl, T_10⟩
          refine Dep.nil ?_
          refine GuardOK.none rfl ?_
          exact OpV.mono (opv_call (cap := []) (laws_eqSheet_ok _ _ _ _ _ _ (ownO.read (Sep.at (o := ownO (kF .f32) 40 v4 x4.2.2.2.1) (Sep.ext S_11 E_4) 2 rfl)) _ _ (ownO.read (Sep.at (o := ownO (kF .f32) 40 v5 x4.2.2.2.2) (Sep.ext S_11 E_4) 3 rfl)) _ _ _ _ _ (ownO.read (Sep.at (o := ownO (kF .f32) 40 v7 x8.2.2.2.1) T_10 0 rfl)) _ _ (ownO.read (Sep.at (o := ownO (kF .f32) 40 v8 x8.2.2.2.2) T_10 1 rfl)) _ hx9) rfl rfl ⟨rfl, rfl, trivial⟩ Try.func23 rfl rfl) (by rintro _ _ ⟨rfl, M_, T_⟩; exact ⟨Mod.ext M_, ⟨rfl, Sep.weak T_ (Ext.size E_4)⟩, Sep.fresh T_⟩)
        · rintro hp17 E_5 _ ⟨rfl, T_11⟩
          refine Dep.nil ?_
          refine GuardOK.none rfl ?_
          exact OpV.toDx (opv_not rfl rfl) rfl
      rintro hp18 E_6 _ rfl
      refine DepM.nil ?_
      intro _ LK_
      have X_13 : Mod [] h0 hp18 := Mod.lift X_10 E_6
      have S_14 : Sep [] h0.size hp18 [ownO (kII .i64) 31 v6 x5.1, boxO bb2 [(.int .i64 x4.1), (.int .i64 x4.2.1), (.bool x4.2.2.1), v4, v5], ownO (kF .f32) 40 v4 x4.2.2.2.1, ownO (kF .f32) 40 v5 x4.2.2.2.2, ownO (kII .i64) 31 v3 x3.1, ownO (kF .f32) 40 v1 x2.2.2.2.1, ownO (kF .f32) 40 v2 x2.2.2.2.2, boxO bb1 [(.int .i64 a0_0), (.int .i64 a0_1), (.bool a0_2), u0_3, u0_4]] := Sep.ext S_11 E_6
      show RL _ _ _ _ [] _ _
      refine RL.nil ?_
      refine thnN ?_
      by_cases c4 : (!x9) = true
      · rw [if_pos c4] at hp
        refine W.condT rfl c4 ?_
        refine W.seq ?_
        refine W.region ?_
        refine RL.opD (by decide) (opv_assign rfl rfl) ?_
        refine RL.nil ?_
        refine thnN ?_
        refine W.ret ?_
        refine thnR ?_
        have er := Option.some.inj hp
        subst er
        exact Rt.one rfl rfl ⟨rfl, X_13, (Sep.nil _ _ _)⟩
      · rw [if_neg c4] at hp
        have c4 := eq_false_of_ne_true c4
        refine W.condF rfl c4 ?_
        refine W.skip ?_
        refine thnN ?_
        refine W.seq ?_
        refine W.region ?_
        refine RL.opD (by decide) (opv_assign rfl rfl) ?_
        refine RL.nil ?_
        refine thnN ?_
        refine W.seq ?_
        obtain ⟨x10, hx10, hp⟩ := Option.bind_eq_some_iff.1 hp
        refine W.region ?_
        refine RL.opD (by decide) (opv_loadA (us := [(.int .i64 x4.1), (.int .i64 x4.2.1), (.bool x4.2.2.1), v4, v5]) rfl Try.agg29 Try.size29 rfl (Sep.at (o := boxO bb2 [(.int .i64 x4.1), (.int .i64 x4.2.1), (.bool x4.2.2.1), v4, v5]) S_14 1 rfl) rfl rfl) ?_
        refine RL.opD (by decide) (opv_move rfl rfl) ?_
        have S_16 : Sep [] h0.size hp18 [ownO (kF .f32) 40 v4 x4.2.2.2.1, ownO (kF .f32) 40 v5 x4.2.2.2.2] := Sep.sel S_14 [2, 3] (by decide)
        have S_15 : Sep [v4.ownBlock, v5.ownBlock] hp18.size hp18 [ownO (kF .f32) 40 v4 x4.2.2.2.1, ownO (kF .f32) 40 v5 x4.2.2.2.2] := Sep.own S_16 _
        refine RL.op _ (by decide) (opv_call (cap := []) (laws_markSheet_ok _ h0.size (Nat.le_trans (Nat.le_refl _) (Mod.size X_13)) _ _ _ _ _ _ _ _ S_15 (Sep.ge (L := [ownO (kF .f32) 40 v4 x4.2.2.2.1, ownO (kF .f32) 40 v5 x4.2.2.2.2]) S_16 (Nat.le_refl _) nob) _ hx10) rfl rfl ⟨rfl, rfl, trivial⟩ Try.func44 rfl rfl) ?_
        rintro _ hp19 ⟨rfl, MT_12, T_12⟩
        have S_17 : Sep [] h0.size hp18 ([ownO (kF .f32) 40 v4 x4.2.2.2.1, ownO (kF .f32) 40 v5 x4.2.2.2.2] ++ [ownO (kII .i64) 31 v6 x5.1, boxO bb2 [(.int .i64 x4.1), (.int .i64 x4.2.1), (.bool x4.2.2.1), v4, v5], ownO (kII .i64) 31 v3 x3.1, ownO (kF .f32) 40 v1 x2.2.2.2.1, ownO (kF .f32) 40 v2 x2.2.2.2.2, boxO bb1 [(.int .i64 a0_0), (.int .i64 a0_1), (.bool a0_2), u0_3, u0_4]]) := Sep.sel S_14 [2, 3, 0, 1, 4, 5, 6, 7] (by decide)
        have X_14 : Mod [] h0 hp19 := Mod.step (A := [ownO (kF .f32) 40 v4 x4.2.2.2.1, ownO (kF .f32) 40 v5 x4.2.2.2.2]) (L := [ownO (kII .i64) 31 v6 x5.1, boxO bb2 [(.int .i64 x4.1), (.int .i64 x4.2.1), (.bool x4.2.2.1), v4, v5], ownO (kII .i64) 31 v3 x3.1, ownO (kF .f32) 40 v1 x2.2.2.2.1, ownO (kF .f32) 40 v2 x2.2.2.2.2, boxO bb1 [(.int .i64 a0_0), (.int .i64 a0_1), (.bool a0_2), u0_3, u0_4]]) X_13 S_17 MT_12
        have S_18 : Sep [] h0.size hp19 [ownO (kF .f32) 40 v4 x10.2.1, ownO (kF .f32) 40 v5 x10.2.2, ownO (kII .i64) 31 v6 x5.1, boxO bb2 [(.int .i64 x4.1), (.int .i64 x4.2.1), (.bool x4.2.2.1), v4, v5], ownO (kII .i64) 31 v3 x3.1, ownO (kF .f32) 40 v1 x2.2.2.2.1, ownO (kF .f32) 40 v2 x2.2.2.2.2, boxO bb1 [(.int .i64 a0_0), (.int .i64 a0_1), (.bool a0_2), u0_3, u0_4]] := Sep.step (A := [ownO (kF .f32) 40 v4 x4.2.2.2.1, ownO (kF .f32) 40 v5 x4.2.2.2.2]) (L := [ownO (kII .i64) 31 v6 x5.1, boxO bb2 [(.int .i64 x4.1), (.int .i64 x4.2.1), (.bool x4.2.2.1), v4, v5], ownO (kII .i64) 31 v3 x3.1, ownO (kF .f32) 40 v1 x2.2.2.2.1, ownO (kF .f32) 40 v2 x2.2.2.2.2, boxO bb1 [(.int .i64 a0_0), (.int .i64 a0_1), (.bool a0_2), u0_3, u0_4]]) S_17 (Mod.size X_13) MT_12 T_12
        refine RL.opD (by decide) (opv_assign rfl rfl) ?_
        refine RL.nil ?_
        refine thnN ?_
        refine W.seq ?_
        refine W.seq ?_
        obtain ⟨x11, hy2, hp⟩ := Option.bind_eq_some_iff.1 hp
        refine W.cut (fun φ' h' => Fr.sub [(0, (.agg (List.toArray (α := Value) [(.int .i64 a0_0), (.int .i64 a0_1), (.bool a0_2), u0_3, u0_4]))), (1, (.int .i64 a1)), (2, (.pointer (some ⟨bb1, 0, none⟩))), (4, (.bool false)), (5, (.int .i64 x1)), (20, (.bool (decide (x1 < 0)))), (6, v3), (7, (.bool x3.2)), (8, (.pointer (some ⟨bb2, 0, none⟩))), (9, v6), (10, (.bool x5.2)), (44, (.bool x6)), (49, (.bool (!x9))), (11, (.int .i64 x10.1)), (65, (.bool x11))] φ' ∧ Mod [] h0 h' ∧ Sep [] h0.size h' [ownO (kF .f32) 40 v4 x10.2.1, ownO (kF .f32) 40 v5 x10.2.2, ownO (kII .i64) 31 v6 x5.1, boxO bb2 [(.int .i64 x4.1), (.int .i64 x4.2.1), (.bool x4.2.2.1), v4, v5], ownO (kII .i64) 31 v3 x3.1, ownO (kF .f32) 40 v1 x2.2.2.2.1, ownO (kF .f32) 40 v2 x2.2.2.2.2, boxO bb1 [(.int .i64 a0_0), (.int .i64 a0_1), (.bool a0_2), u0_3, u0_4]]) ?_ ?_
        · by_cases c5 : (decide (x10.1 < 0)) = true
          · rw [if_pos c5] at hy2
            refine W.region ?_
            refine RL.opD (by decide) (opv_move rfl rfl) ?_
            refine RL.opD (by decide) (opv_icmp rfl rfl rfl rfl) ?_
            refine RL.opD (by decide) (opv_move rfl rfl) ?_
            refine RL.no rfl rfl (Eq.trans c5 (by decide)) (by decide) ?_
            refine RL.no rfl rfl (Eq.trans c5 (by decide)) (by decide) ?_
            refine RL.no rfl rfl (Eq.trans c5 (by decide)) (by decide) ?_
            refine RL.no rfl rfl (Eq.trans c5 (by decide)) (by decide) ?_
            refine RL.opD (by decide) (opv_pick rfl rfl (fun _ => rfl) (fun e => absurd (Eq.trans (Eq.symm e) c5) (by decide)) rfl) ?_
            refine RL.opD (by decide) (opv_move rfl rfl) ?_
            refine RL.no rfl rfl (Eq.trans rfl (by decide)) (by decide) ?_
            refine RL.no rfl rfl (Eq.trans rfl (by decide)) (by decide) ?_
            refine RL.no rfl rfl (Eq.trans rfl (by decide)) (by decide) ?_
            refine RL.opD (by decide) (opv_pick rfl rfl (fun _ => rfl) (fun e => absurd (Eq.trans (Eq.symm e) rfl) (by decide)) rfl) ?_
            refine RL.nil ?_
            have ey2 := Option.some.inj hy2
            subst ey2
            refine onlyN ?_
            exact ⟨⟨rfl, rfl, rfl, rfl, rfl, rfl, rfl, rfl, rfl, rfl, rfl, rfl, rfl, rfl, rfl, trivial⟩, X_14, (Sep.sel S_18 [0, 1, 2, 3, 4, 5, 6, 7] (by decide))⟩
          · rw [if_neg c5] at hy2
            have c5 := eq_false_of_ne_true c5
            obtain ⟨x12, hx12, hy2⟩ := Option.bind_eq_some_iff.1 hy2
            by_cases c6 : (!x12) = true
            · rw [if_pos c6] at hy2
              refine W.region ?_
              refine RL.opD (by decide) (opv_move rfl rfl) ?_
              refine RL.opD (by decide) (opv_icmp rfl rfl rfl rfl) ?_
              refine RL.opD (by decide) (opv_move rfl rfl) ?_
              refine RL.yes _ rfl rfl c5 (by decide) (opv_move rfl rfl) ?_
              rintro _ _ ⟨rfl, rfl⟩
              refine RL.yes _ rfl rfl c5 (by decide) (opv_move rfl rfl) ?_
              rintro _ _ ⟨rfl, rfl⟩
              refine RL.yes _ rfl rfl c5 (by decide) (opv_call (cap := []) (laws_eqStripS_ok _ _ _ (ownO.read (Sep.at (o := ownO (kII .i64) 31 v6 x5.1) S_18 2 rfl)) _ _ (ownO.read (Sep.at (o := ownO (kII .i64) 31 v3 x3.1) S_18 4 rfl)) _ hx12) rfl rfl ⟨rfl, rfl, trivial⟩ Try.func52 rfl rfl) ?_
              rintro _ hp20 ⟨rfl, MT_13, T_13⟩
              have X_15 : Mod [] h0 hp20 := Mod.step (A := []) (L := [ownO (kF .f32) 40 v4 x10.2.1, ownO (kF .f32) 40 v5 x10.2.2, ownO (kII .i64) 31 v6 x5.1, boxO bb2 [(.int .i64 x4.1), (.int .i64 x4.2.1), (.bool x4.2.2.1), v4, v5], ownO (kII .i64) 31 v3 x3.1, ownO (kF .f32) 40 v1 x2.2.2.2.1, ownO (kF .f32) 40 v2 x2.2.2.2.2, boxO bb1 [(.int .i64 a0_0), (.int .i64 a0_1), (.bool a0_2), u0_3, u0_4]]) X_14 S_18 MT_13
              have S_19 : Sep [] h0.size hp20 [ownO (kF .f32) 40 v4 x10.2.1, ownO (kF .f32) 40 v5 x10.2.2, ownO (kII .i64) 31 v6 x5.1, boxO bb2 [(.int .i64 x4.1), (.int .i64 x4.2.1), (.bool x4.2.2.1), v4, v5], ownO (kII .i64) 31 v3 x3.1, ownO (kF .f32) 40 v1 x2.2.2.2.1, ownO (kF .f32) 40 v2 x2.2.2.2.2, boxO bb1 [(.int .i64 a0_0), (.int .i64 a0_1), (.bool a0_2), u0_3, u0_4]] := Sep.step (A := []) (L := [ownO (kF .f32) 40 v4 x10.2.1, ownO (kF .f32) 40 v5 x10.2.2, ownO (kII .i64) 31 v6 x5.1, boxO bb2 [(.int .i64 x4.1), (.int .i64 x4.2.1), (.bool x4.2.2.1), v4, v5], ownO (kII .i64) 31 v3 x3.1, ownO (kF .f32) 40 v1 x2.2.2.2.1, ownO (kF .f32) 40 v2 x2.2.2.2.2, boxO bb1 [(.int .i64 a0_0), (.int .i64 a0_1), (.bool a0_2), u0_3, u0_4]]) S_18 (Mod.size X_14) MT_13 T_13
              refine RL.yes _ rfl rfl c5 (by decide) (opv_not rfl rfl) ?_
              rintro _ _ ⟨rfl, rfl⟩
              refine RL.opD (by decide) (opv_pick rfl rfl (fun e => absurd (Eq.trans (Eq.symm e) c5) (by decide)) (fun _ => rfl) rfl) ?_
              refine RL.opD (by decide) (opv_move rfl rfl) ?_
              refine RL.no rfl rfl (Eq.trans c6 (by decide)) (by decide) ?_
              refine RL.no rfl rfl (Eq.trans c6 (by decide)) (by decide) ?_
              refine RL.no rfl rfl (Eq.trans c6 (by decide)) (by decide) ?_
              refine RL.opD (by decide) (opv_pick rfl rfl (fun _ => rfl) (fun e => absurd (Eq.trans (Eq.symm e) c6) (by decide)) rfl) ?_
              refine RL.nil ?_
              have ey2 := Option.some.inj hy2
              subst ey2
              refine onlyN ?_
              exact ⟨⟨rfl, rfl, rfl, rfl, rfl, rfl, rfl, rfl, rfl, rfl, rfl, rfl, rfl, rfl, rfl, trivial⟩, X_15, (Sep.sel S_19 [0, 1, 2, 3, 4, 5, 6, 7] (by decide))⟩
            · rw [if_neg c6] at hy2
              have c6 := eq_false_of_ne_true c6
              refine W.region ?_
              refine RL.opD (by decide) (opv_move rfl rfl) ?_
              refine RL.opD (by decide) (opv_icmp rfl rfl rfl rfl) ?_
              refine RL.opD (by decide) (opv_move rfl rfl) ?_
              refine RL.yes _ rfl rfl c5 (by decide) (opv_move rfl rfl) ?_
              rintro _ _ ⟨rfl, rfl⟩
              refine RL.yes _ rfl rfl c5 (by decide) (opv_move rfl rfl) ?_
              rintro _ _ ⟨rfl, rfl⟩
              refine RL.yes _ rfl rfl c5 (by decide) (opv_call (cap := []) (laws_eqStripS_ok _ _ _ (ownO.read (Sep.at (o := ownO (kII .i64) 31 v6 x5.1) S_18 2 rfl)) _ _ (ownO.read (Sep.at (o := ownO (kII .i64) 31 v3 x3.1) S_18 4 rfl)) _ hx12) rfl rfl ⟨rfl, rfl, trivial⟩ Try.func52 rfl rfl) ?_
              rintro _ hp20 ⟨rfl, MT_13, T_13⟩
              have X_15 : Mod [] h0 hp20 := Mod.step (A := []) (L := [ownO (kF .f32) 40 v4 x10.2.1, ownO (kF .f32) 40 v5 x10.2.2, ownO (kII .i64) 31 v6 x5.1, boxO bb2 [(.int .i64 x4.1), (.int .i64 x4.2.1), (.bool x4.2.2.1), v4, v5], ownO (kII .i64) 31 v3 x3.1, ownO (kF .f32) 40 v1 x2.2.2.2.1, ownO (kF .f32) 40 v2 x2.2.2.2.2, boxO bb1 [(.int .i64 a0_0), (.int .i64 a0_1), (.bool a0_2), u0_3, u0_4]]) X_14 S_18 MT_13
              have S_19 : Sep [] h0.size hp20 [ownO (kF .f32) 40 v4 x10.2.1, ownO (kF .f32) 40 v5 x10.2.2, ownO (kII .i64) 31 v6 x5.1, boxO bb2 [(.int .i64 x4.1), (.int .i64 x4.2.1), (.bool x4.2.2.1), v4, v5], ownO (kII .i64) 31 v3 x3.1, ownO (kF .f32) 40 v1 x2.2.2.2.1, ownO (kF .f32) 40 v2 x2.2.2.2.2, boxO bb1 [(.int .i64 a0_0), (.int .i64 a0_1), (.bool a0_2), u0_3, u0_4]] := Sep.step (A := []) (L := [ownO (kF .f32) 40 v4 x10.2.1, ownO (kF .f32) 40 v5 x10.2.2, ownO (kII .i64) 31 v6 x5.1, boxO bb2 [(.int .i64 x4.1), (.int .i64 x4.2.1), (.bool x4.2.2.1), v4, v5], ownO (kII .i64) 31 v3 x3.1, ownO (kF .f32) 40 v1 x2.2.2.2.1, ownO (kF .f32) 40 v2 x2.2.2.2.2, boxO bb1 [(.int .i64 a0_0), (.int .i64 a0_1), (.bool a0_2), u0_3, u0_4]]) S_18 (Mod.size X_14) MT_13 T_13
              refine RL.yes _ rfl rfl c5 (by decide) (opv_not rfl rfl) ?_
              rintro _ _ ⟨rfl, rfl⟩
              refine RL.opD (by decide) (opv_pick rfl rfl (fun e => absurd (Eq.trans (Eq.symm e) c5) (by decide)) (fun _ => rfl) rfl) ?_
              refine RL.opD (by decide) (opv_move rfl rfl) ?_
              refine RL.yes _ rfl rfl c6 (by decide) (opv_move rfl rfl) ?_
              rintro _ _ ⟨rfl, rfl⟩
              refine RL.yes _ rfl rfl c6 (by decide) (opv_move rfl rfl) ?_
              rintro _ _ ⟨rfl, rfl⟩
              refine RL.yes _ rfl rfl c6 (by decide) (opv_bcmp rfl rfl Try.underlying4 rfl rfl) ?_
              rintro _ _ ⟨rfl, rfl⟩
              refine RL.opD (by decide) (opv_pick rfl rfl (fun e => absurd (Eq.trans (Eq.symm e) c6) (by decide)) (fun _ => rfl) rfl) ?_
              refine RL.nil ?_
              have ey2 := Option.some.inj hy2
              subst ey2
              refine onlyN ?_
              exact ⟨⟨rfl, rfl, rfl, rfl, rfl, rfl, rfl, rfl, rfl, rfl, rfl, rfl, rfl, rfl, rfl, trivial⟩, X_15, (Sep.sel S_19 [0, 1, 2, 3, 4, 5, 6, 7] (by decide))⟩
        rintro φ' hp21 ⟨hs2, X_16, S_20⟩
        refine thnN ?_
        refine W.sub hs2 ?_
        by_cases c7 : x11 = true
        · rw [if_pos c7] at hp
          refine W.condT rfl c7 ?_
          refine W.seq ?_
          refine W.region ?_
          refine RL.opD (by decide) (opv_assign rfl rfl) ?_
          refine RL.nil ?_
          refine thnN ?_
          refine W.ret ?_
          refine thnR ?_
          have er := Option.some.inj hp
          subst er
          exact Rt.one rfl rfl ⟨rfl, X_16, (Sep.nil _ _ _)⟩
        · rw [if_neg c7] at hp
          have c7 := eq_false_of_ne_true c7
          refine W.condF rfl c7 ?_
          refine W.skip ?_
          refine thnN ?_
          refine W.seq ?_
          refine W.region ?_
          refine RL.opD (by decide) (opv_assign rfl rfl) ?_
          refine RL.nil ?_
          refine thnN ?_
          refine W.seq ?_
          obtain ⟨x13, hx13, hp⟩ := Option.bind_eq_some_iff.1 hp
          refine W.region ?_
          refine RL.opD (by decide) (opv_move rfl rfl) ?_
          refine RL.opD (by decide) (opv_move rfl rfl) ?_
          have S_22 : Sep [] h0.size hp21 [ownO (kII .i64) 31 v6 x5.1] := Sep.sel S_20 [2] (by decide)
          have S_21 : Sep [v6.ownBlock] hp21.size hp21 [ownO (kII .i64) 31 v6 x5.1] := Sep.own S_22 _
          refine RL.op _ (by decide) (opv_call (cap := []) (laws_markStripS_ok _ h0.size (Nat.le_trans (Nat.le_refl _) (Mod.size X_16)) _ _ _ S_21 (Sep.ge (L := [ownO (kII .i64) 31 v6 x5.1]) S_22 (Nat.le_refl _) nob) _ hx13) rfl rfl ⟨rfl, rfl, trivial⟩ Try.func53 rfl rfl) ?_
          rintro _ hp22 ⟨rfl, MT_14, T_14⟩
          have S_23 : Sep [] h0.size hp21 ([ownO (kII .i64) 31 v6 x5.1] ++ [ownO (kF .f32) 40 v4 x10.2.1, ownO (kF .f32) 40 v5 x10.2.2, boxO bb2 [(.int .i64 x4.1), (.int .i64 x4.2.1), (.bool x4.2.2.1), v4, v5], ownO (kII .i64) 31 v3 x3.1, ownO (kF .f32) 40 v1 x2.2.2.2.1, ownO (kF .f32) 40 v2 x2.2.2.2.2, boxO bb1 [(.int .i64 a0_0), (.int .i64 a0_1), (.bool a0_2), u0_3, u0_4]]) := Sep.sel S_20 [2, 0, 1, 3, 4, 5, 6, 7] (by decide)
          have X_17 : Mod [] h0 hp22 := Mod.step (A := [ownO (kII .i64) 31 v6 x5.1]) (L := [ownO (kF .f32) 40 v4 x10.2.1, ownO (kF .f32) 40 v5 x10.2.2, boxO bb2 [(.int .i64 x4.1), (.int .i64 x4.2.1), (.bool x4.2.2.1), v4, v5], ownO (kII .i64) 31 v3 x3.1, ownO (kF .f32) 40 v1 x2.2.2.2.1, ownO (kF .f32) 40 v2 x2.2.2.2.2, boxO bb1 [(.int .i64 a0_0), (.int .i64 a0_1), (.bool a0_2), u0_3, u0_4]]) X_16 S_23 MT_14
          have S_24 : Sep [] h0.size hp22 [ownO (kII .i64) 31 v6 x13.2, ownO (kF .f32) 40 v4 x10.2.1, ownO (kF .f32) 40 v5 x10.2.2, boxO bb2 [(.int .i64 x4.1), (.int .i64 x4.2.1), (.bool x4.2.2.1), v4, v5], ownO (kII .i64) 31 v3 x3.1, ownO (kF .f32) 40 v1 x2.2.2.2.1, ownO (kF .f32) 40 v2 x2.2.2.2.2, boxO bb1 [(.int .i64 a0_0), (.int .i64 a0_1), (.bool a0_2), u0_3, u0_4]] := Sep.step (A := [ownO (kII .i64) 31 v6 x5.1]) (L := [ownO (kF .f32) 40 v4 x10.2.1, ownO (kF .f32) 40 v5 x10.2.2, boxO bb2 [(.int .i64 x4.1), (.int .i64 x4.2.1), (.bool x4.2.2.1), v4, v5], ownO (kII .i64) 31 v3 x3.1, ownO (kF .f32) 40 v1 x2.2.2.2.1, ownO (kF .f32) 40 v2 x2.2.2.2.2, boxO bb1 [(.int .i64 a0_0), (.int .i64 a0_1), (.bool a0_2), u0_3, u0_4]]) S_23 (Mod.size X_16) MT_14 T_14
          refine RL.opD (by decide) (opv_assign rfl rfl) ?_
          refine RL.nil ?_
          refine thnN ?_
          refine W.seq ?_
          refine W.region ?_
          refine RL.opD (by decide) (opv_assign rfl rfl) ?_
          refine RL.nil ?_
          refine thnN ?_
          refine W.seq ?_
          obtain ⟨x14, hx14, hp⟩ := Option.bind_eq_some_iff.1 hp
          refine W.region ?_
          refine RL.opD (by decide) (opv_move rfl rfl) ?_
          refine RL.opD (by decide) (opv_move rfl rfl) ?_
          refine RL.op _ (by decide) (opv_call (cap := []) (laws_heldStripS_ok _ _ _ (ownO.read (Sep.at (o := ownO (kII .i64) 31 v6 x13.2) S_24 0 rfl)) _ _ hx14) rfl rfl ⟨rfl, rfl, trivial⟩ Try.func54 rfl rfl) ?_
          rintro _ _ ⟨rfl, rfl⟩
          refine RL.opD (by decide) (opv_assign rfl rfl) ?_
          refine RL.nil ?_
          refine thnN ?_
          refine W.seq ?_
          refine W.seq ?_
          refine W.region ?_
          refine RL.opD (by decide) (opv_move rfl rfl) ?_
          refine RL.opD (by decide) (opv_icmp rfl rfl rfl rfl) ?_
          refine RL.nil ?_
          refine thnN ?_
          by_cases c8 : (decide (x14 < 0)) = true
          · rw [if_pos c8] at hp
            refine W.condT rfl c8 ?_
            refine W.seq ?_
            refine W.region ?_
            refine RL.opD (by decide) (opv_assign rfl rfl) ?_
            refine RL.nil ?_
            refine thnN ?_
            refine W.ret ?_
            refine thnR ?_
            have er := Option.some.inj hp
            subst er
            exact Rt.one rfl rfl ⟨rfl, X_17, (Sep.nil _ _ _)⟩
          · rw [if_neg c8] at hp
            have c8 := eq_false_of_ne_true c8
            refine W.condF rfl c8 ?_
            refine W.skip ?_
            refine thnN ?_
            refine W.seq ?_
            refine W.seq ?_
            refine W.region ?_
            refine RL.opD (by decide) (opv_move rfl rfl) ?_
            refine RL.opD (by decide) (opv_move rfl rfl) ?_
            refine RL.opD (by decide) (opv_icmp rfl rfl rfl rfl) ?_
            refine RL.nil ?_
            refine thnN ?_
            by_cases c9 : (x14 != x13.1) = true
            · rw [if_pos c9] at hp
              refine W.condT rfl c9 ?_
              refine W.seq ?_
              refine W.region ?_
              refine RL.opD (by decide) (opv_assign rfl rfl) ?_
              refine RL.nil ?_
              refine thnN ?_
              refine W.ret ?_
              refine thnR ?_
              have er := Option.some.inj hp
              subst er
              exact Rt.one rfl rfl ⟨rfl, X_17, (Sep.nil _ _ _)⟩
            · rw [if_neg c9] at hp
              have c9 := eq_false_of_ne_true c9
              refine W.condF rfl c9 ?_
              refine W.skip ?_
              refine thnN ?_
              refine W.seq ?_
              obtain ⟨x15, hx15, hp⟩ := Option.bind_eq_some_iff.1 hp
              obtain ⟨x16, hx16, hp⟩ := Option.bind_eq_some_iff.1 hp
              refine W.region ?_
              refine RL.opD (by decide) (opv_loadA (us := [(.int .i64 a0_0), (.int .i64 a0_1), (.bool a0_2), u0_3, u0_4]) rfl Try.agg24 Try.size24 rfl (Sep.at (o := boxO bb1 [(.int .i64 a0_0), (.int .i64 a0_1), (.bool a0_2), u0_3, u0_4]) S_24 7 rfl) rfl rfl) ?_
              refine RL.op _ (by decide) (opv_call (cap := []) (laws_toSheet_ok _ _ _ _ _ _ (SL.up (SL.mod g0_3 X_17 (Nat.le_refl _) nob) (Nat.le_trans (Nat.le_refl _) (Mod.size X_17))) _ _ (SL.up (SL.mod g0_4 X_17 (Nat.le_refl _) nob) (Nat.le_trans (Nat.le_refl _) (Mod.size X_17))) _ hx15) rfl rfl ⟨rfl, trivial⟩ Try.func20 rfl rfl) ?_
              rintro _ hp23 ⟨v11, v12, rfl, MT_15, T_15⟩
              have X_18 : Mod [] h0 hp23 := Mod.step (A := []) (L := [ownO (kII .i64) 31 v6 x13.2, ownO (kF .f32) 40 v4 x10.2.1, ownO (kF .f32) 40 v5 x10.2.2, boxO bb2 [(.int .i64 x4.1), (.int .i64 x4.2.1), (.bool x4.2.2.1), v4, v5], ownO (kII .i64) 31 v3 x3.1, ownO (kF .f32) 40 v1 x2.2.2.2.1, ownO (kF .f32) 40 v2 x2.2.2.2.2, boxO bb1 [(.int .i64 a0_0), (.int .i64 a0_1), (.bool a0_2), u0_3, u0_4]]) X_17 S_24 MT_15
              have S_25 : Sep [] h0.size hp23 [ownO (kF .f32) 40 v11 x15.2.2.2.1, ownO (kF .f32) 40 v12 x15.2.2.2.2, ownO (kII .i64) 31 v6 x13.2, ownO (kF .f32) 40 v4 x10.2.1, ownO (kF .f32) 40 v5 x10.2.2, boxO bb2 [(.int .i64 x4.1), (.int .i64 x4.2.1), (.bool x4.2.2.1), v4, v5], ownO (kII .i64) 31 v3 x3.1, ownO (kF .f32) 40 v1 x2.2.2.2.1, ownO (kF .f32) 40 v2 x2.2.2.2.2, boxO bb1 [(.int .i64 a0_0), (.int .i64 a0_1), (.bool a0_2), u0_3, u0_4]] := Sep.step (A := []) (L := [ownO (kII .i64) 31 v6 x13.2, ownO (kF .f32) 40 v4 x10.2.1, ownO (kF .f32) 40 v5 x10.2.2, boxO bb2 [(.int .i64 x4.1), (.int .i64 x4.2.1), (.bool x4.2.2.1), v4, v5], ownO (kII .i64) 31 v3 x3.1, ownO (kF .f32) 40 v1 x2.2.2.2.1, ownO (kF .f32) 40 v2 x2.2.2.2.2, boxO bb1 [(.int .i64 a0_0), (.int .i64 a0_1), (.bool a0_2), u0_3, u0_4]]) S_24 (Mod.size X_17) MT_15 T_15
              refine RL.opD (by decide) (opv_move rfl rfl) ?_
              refine RL.op _ (by decide) (opv_call (cap := []) (impl_StripsOf_ok _ _ _ _ _ _ (ownO.read (Sep.at (o := ownO (kF .f32) 40 v11 x15.2.2.2.1) S_25 0 rfl)) _ _ (ownO.read (Sep.at (o := ownO (kF .f32) 40 v12 x15.2.2.2.2) S_25 1 rfl)) _ _ hx16) rfl rfl ⟨rfl, rfl, trivial⟩ Try.func51 rfl rfl) ?_
              rintro _ hp24 ⟨v13, rfl, MT_16, T_16⟩
              have X_19 : Mod [] h0 hp24 := Mod.step (A := []) (L := [ownO (kF .f32) 40 v11 x15.2.2.2.1, ownO (kF .f32) 40 v12 x15.2.2.2.2, ownO (kII .i64) 31 v6 x13.2, ownO (kF .f32) 40 v4 x10.2.1, ownO (kF .f32) 40 v5 x10.2.2, boxO bb2 [(.int .i64 x4.1), (.int .i64 x4.2.1), (.bool x4.2.2.1), v4, v5], ownO (kII .i64) 31 v3 x3.1, ownO (kF .f32) 40 v1 x2.2.2.2.1, ownO (kF .f32) 40 v2 x2.2.2.2.2, boxO bb1 [(.int .i64 a0_0), (.int .i64 a0_1), (.bool a0_2), u0_3, u0_4]]) X_18 S_25 MT_16
              have S_26 : Sep [] h0.size hp24 [ownO (kII .i64) 31 v13 x16.1, ownO (kF .f32) 40 v11 x15.2.2.2.1, ownO (kF .f32) 40 v12 x15.2.2.2.2, ownO (kII .i64) 31 v6 x13.2, ownO (kF .f32) 40 v4 x10.2.1, ownO (kF .f32) 40 v5 x10.2.2, boxO bb2 [(.int .i64 x4.1), (.int .i64 x4.2.1), (.bool x4.2.2.1), v4, v5], ownO (kII .i64) 31 v3 x3.1, ownO (kF .f32) 40 v1 x2.2.2.2.1, ownO (kF .f32) 40 v2 x2.2.2.2.2, boxO bb1 [(.int .i64 a0_0), (.int .i64 a0_1), (.bool a0_2), u0_3, u0_4]] := Sep.step (A := []) (L := [ownO (kF .f32) 40 v11 x15.2.2.2.1, ownO (kF .f32) 40 v12 x15.2.2.2.2, ownO (kII .i64) 31 v6 x13.2, ownO (kF .f32) 40 v4 x10.2.1, ownO (kF .f32) 40 v5 x10.2.2, boxO bb2 [(.int .i64 x4.1), (.int .i64 x4.2.1), (.bool x4.2.2.1), v4, v5], ownO (kII .i64) 31 v3 x3.1, ownO (kF .f32) 40 v1 x2.2.2.2.1, ownO (kF .f32) 40 v2 x2.2.2.2.2, boxO bb1 [(.int .i64 a0_0), (.int .i64 a0_1), (.bool a0_2), u0_3, u0_4]]) S_25 (Mod.size X_18) MT_16 T_16
              refine RL.opD (by decide) (opv_move rfl rfl) ?_
              refine RL.opD (by decide) (opv_extract rfl rfl rfl) ?_
              refine RL.opD (by decide) (opv_extract rfl rfl rfl) ?_
              refine RL.opD (by decide) (opv_assign rfl rfl) ?_
              refine RL.opD (by decide) (opv_assign rfl rfl) ?_
              refine RL.nil ?_
              refine thnN ?_
              refine W.seq ?_
              refine W.seq ?_
              obtain ⟨x17, hy3, hp⟩ := Option.bind_eq_some_iff.1 hp
              refine W.cut (fun φ' h' => Fr.sub [(0, (.agg (List.toArray (α := Value) [(.int .i64 a0_0), (.int .i64 a0_1), (.bool a0_2), u0_3, u0_4]))), (1, (.int .i64 a1)), (2, (.pointer (some ⟨bb1, 0, none⟩))), (4, (.bool false)), (5, (.int .i64 x1)), (20, (.bool (decide (x1 < 0)))), (6, v3), (7, (.bool x3.2)), (8, (.pointer (some ⟨bb2, 0, none⟩))), (9, v6), (10, (.bool x5.2)), (44, (.bool x6)), (49, (.bool (!x9))), (11, (.int .i64 x10.1)), (65, (.bool x11)), (12, (.int .i64 x13.1)), (13, (.int .i64 x14)), (73, (.bool (decide (x14 < 0)))), (76, (.bool (x14 != x13.1))), (14, v13), (15, (.bool x16.2)), (92, (.bool x17))] φ' ∧ Mod [] h0 h' ∧ Sep [] h0.size h' [ownO (kII .i64) 31 v13 x16.1, ownO (kF .f32) 40 v11 x15.2.2.2.1, ownO (kF .f32) 40 v12 x15.2.2.2.2, ownO (kII .i64) 31 v6 x13.2, ownO (kF .f32) 40 v4 x10.2.1, ownO (kF .f32) 40 v5 x10.2.2, boxO bb2 [(.int .i64 x4.1), (.int .i64 x4.2.1), (.bool x4.2.2.1), v4, v5], ownO (kII .i64) 31 v3 x3.1, ownO (kF .f32) 40 v1 x2.2.2.2.1, ownO (kF .f32) 40 v2 x2.2.2.2.2, boxO bb1 [(.int .i64 a0_0), (.int .i64 a0_1), (.bool a0_2), u0_3, u0_4]]) ?_ ?_
              · obtain ⟨x18, hx18, hy3⟩ := Option.bind_eq_some_iff.1 hy3
                by_cases c10 : (!x18) = true
                · rw [if_pos c10] at hy3
                  refine W.region ?_
                  refine RL.opD (by decide) (opv_move rfl rfl) ?_
                  refine RL.opD (by decide) (opv_move rfl rfl) ?_
                  refine RL.op _ (by decide) (opv_call (cap := []) (laws_eqStripS_ok _ _ _ (ownO.read (Sep.at (o := ownO (kII .i64) 31 v13 x16.1) S_26 0 rfl)) _ _ (ownO.read (Sep.at (o := ownO (kII .i64) 31 v3 x3.1) S_26 7 rfl)) _ hx18) rfl rfl ⟨rfl, rfl, trivial⟩ Try.func52 rfl rfl) ?_
                  rintro _ hp25 ⟨rfl, MT_17, T_17⟩
                  have X_20 : Mod [] h0 hp25 := Mod.step (A := []) (L := [ownO (kII .i64) 31 v13 x16.1, ownO (kF .f32) 40 v11 x15.2.2.2.1, ownO (kF .f32) 40 v12 x15.2.2.2.2, ownO (kII .i64) 31 v6 x13.2, ownO (kF .f32) 40 v4 x10.2.1, ownO (kF .f32) 40 v5 x10.2.2, boxO bb2 [(.int .i64 x4.1), (.int .i64 x4.2.1), (.bool x4.2.2.1), v4, v5], ownO (kII .i64) 31 v3 x3.1, ownO (kF .f32) 40 v1 x2.2.2.2.1, ownO (kF .f32) 40 v2 x2.2.2.2.2, boxO bb1 [(.int .i64 a0_0), (.int .i64 a0_1), (.bool a0_2), u0_3, u0_4]]) X_19 S_26 MT_17
                  have S_27 : Sep [] h0.size hp25 [ownO (kII .i64) 31 v13 x16.1, ownO (kF .f32) 40 v11 x15.2.2.2.1, ownO (kF .f32) 40 v12 x15.2.2.2.2, ownO (kII .i64) 31 v6 x13.2, ownO (kF .f32) 40 v4 x10.2.1, ownO (kF .f32) 40 v5 x10.2.2, boxO bb2 [(.int .i64 x4.1), (.int .i64 x4.2.1), (.bool x4.2.2.1), v4, v5], ownO (kII .i64) 31 v3 x3.1, ownO (kF .f32) 40 v1 x2.2.2.2.1, ownO (kF .f32) 40 v2 x2.2.2.2.2, boxO bb1 [(.int .i64 a0_0), (.int .i64 a0_1), (.bool a0_2), u0_3, u0_4]] := Sep.step (A := []) (L := [ownO (kII .i64) 31 v13 x16.1, ownO (kF .f32) 40 v11 x15.2.2.2.1, ownO (kF .f32) 40 v12 x15.2.2.2.2, ownO (kII .i64) 31 v6 x13.2, ownO (kF .f32) 40 v4 x10.2.1, ownO (kF .f32) 40 v5 x10.2.2, boxO bb2 [(.int .i64 x4.1), (.int .i64 x4.2.1), (.bool x4.2.2.1), v4, v5], ownO (kII .i64) 31 v3 x3.1, ownO (kF .f32) 40 v1 x2.2.2.2.1, ownO (kF .f32) 40 v2 x2.2.2.2.2, boxO bb1 [(.int .i64 a0_0), (.int .i64 a0_1), (.bool a0_2), u0_3, u0_4]]) S_26 (Mod.size X_19) MT_17 T_17
                  refine RL.opD (by decide) (opv_not rfl rfl) ?_
                  refine RL.opD (by decide) (opv_move rfl rfl) ?_
                  refine RL.no rfl rfl (Eq.trans c10 (by decide)) (by decide) ?_
                  refine RL.no rfl rfl (Eq.trans c10 (by decide)) (by decide) ?_
                  refine RL.no rfl rfl (Eq.trans c10 (by decide)) (by decide) ?_
                  refine RL.opD (by decide) (opv_pick rfl rfl (fun _ => rfl) (fun e => absurd (Eq.trans (Eq.symm e) c10) (by decide)) rfl) ?_
                  refine RL.nil ?_
                  have ey3 := Option.some.inj hy3
                  subst ey3
                  refine onlyN ?_
                  exact ⟨⟨rfl, rfl, rfl, rfl, rfl, rfl, rfl, rfl, rfl, rfl, rfl, rfl, rfl, rfl, rfl, rfl, rfl, rfl, rfl, rfl, rfl, rfl, trivial⟩, X_20, (Sep.sel S_27 [0, 1, 2, 3, 4, 5, 6, 7, 8, 9, 10] (by decide))⟩
                · rw [if_neg c10] at hy3
                  have c10 := eq_false_of_ne_true c10
                  refine W.region ?_
                  refine RL.opD (by decide) (opv_move rfl rfl) ?_
                  refine RL.opD (by decide) (opv_move rfl rfl) ?_
                  refine RL.op _ (by decide) (opv_call (cap := []) (laws_eqStripS_ok _ _ _ (ownO.read (Sep.at (o := ownO (kII .i64) 31 v13 x16.1) S_26 0 rfl)) _ _ (ownO.read (Sep.at (o := ownO (kII .i64) 31 v3 x3.1) S_26 7 rfl)) _ hx18) rfl rfl ⟨rfl, rfl, trivial⟩ Try.func52 rfl rfl) ?_
                  rintro _ hp25 ⟨rfl, MT_17, T_17⟩
                  have X_20 : Mod [] h0 hp25 := Mod.step (A := []) (L := [ownO (kII .i64) 31 v13 x16.1, ownO (kF .f32) 40 v11 x15.2.2.2.1, ownO (kF .f32) 40 v12 x15.2.2.2.2, ownO (kII .i64) 31 v6 x13.2, ownO (kF .f32) 40 v4 x10.2.1, ownO (kF .f32) 40 v5 x10.2.2, boxO bb2 [(.int .i64 x4.1), (.int .i64 x4.2.1), (.bool x4.2.2.1), v4, v5], ownO (kII .i64) 31 v3 x3.1, ownO (kF .f32) 40 v1 x2.2.2.2.1, ownO (kF .f32) 40 v2 x2.2.2.2.2, boxO bb1 [(.int .i64 a0_0), (.int .i64 a0_1), (.bool a0_2), u0_3, u0_4]]) X_19 S_26 MT_17
                  have S_27 : Sep [] h0.size hp25 [ownO (kII .i64) 31 v13 x16.1, ownO (kF .f32) 40 v11 x15.2.2.2.1, ownO (kF .f32) 40 v12 x15.2.2.2.2, ownO (kII .i64) 31 v6 x13.2, ownO (kF .f32) 40 v4 x10.2.1, ownO (kF .f32) 40 v5 x10.2.2, boxO bb2 [(.int .i64 x4.1), (.int .i64 x4.2.1), (.bool x4.2.2.1), v4, v5], ownO (kII .i64) 31 v3 x3.1, ownO (kF .f32) 40 v1 x2.2.2.2.1, ownO (kF .f32) 40 v2 x2.2.2.2.2, boxO bb1 [(.int .i64 a0_0), (.int .i64 a0_1), (.bool a0_2), u0_3, u0_4]] := Sep.step (A := []) (L := [ownO (kII .i64) 31 v13 x16.1, ownO (kF .f32) 40 v11 x15.2.2.2.1, ownO (kF .f32) 40 v12 x15.2.2.2.2, ownO (kII .i64) 31 v6 x13.2, ownO (kF .f32) 40 v4 x10.2.1, ownO (kF .f32) 40 v5 x10.2.2, boxO bb2 [(.int .i64 x4.1), (.int .i64 x4.2.1), (.bool x4.2.2.1), v4, v5], ownO (kII .i64) 31 v3 x3.1, ownO (kF .f32) 40 v1 x2.2.2.2.1, ownO (kF .f32) 40 v2 x2.2.2.2.2, boxO bb1 [(.int .i64 a0_0), (.int .i64 a0_1), (.bool a0_2), u0_3, u0_4]]) S_26 (Mod.size X_19) MT_17 T_17
                  refine RL.opD (by decide) (opv_not rfl rfl) ?_
                  refine RL.opD (by decide) (opv_move rfl rfl) ?_
                  refine RL.yes _ rfl rfl c10 (by decide) (opv_move rfl rfl) ?_
                  rintro _ _ ⟨rfl, rfl⟩
                  refine RL.yes _ rfl rfl c10 (by decide) (opv_move rfl rfl) ?_
                  rintro _ _ ⟨rfl, rfl⟩
                  refine RL.yes _ rfl rfl c10 (by decide) (opv_bcmp rfl rfl Try.underlying4 rfl rfl) ?_
                  rintro _ _ ⟨rfl, rfl⟩
                  refine RL.opD (by decide) (opv_pick rfl rfl (fun e => absurd (Eq.trans (Eq.symm e) c10) (by decide)) (fun _ => rfl) rfl) ?_
                  refine RL.nil ?_
                  have ey3 := Option.some.inj hy3
                  subst ey3
                  refine onlyN ?_
                  exact ⟨⟨rfl, rfl, rfl, rfl, rfl, rfl, rfl, rfl, rfl, rfl, rfl, rfl, rfl, rfl, rfl, rfl, rfl, rfl, rfl, rfl, rfl, rfl, trivial⟩, X_20, (Sep.sel S_27 [0, 1, 2, 3, 4, 5, 6, 7, 8, 9, 10] (by decide))⟩
              rintro φ' hp26 ⟨hs3, X_21, S_28⟩
              refine thnN ?_
              refine W.sub hs3 ?_
              by_cases c11 : x17 = true
              · rw [if_pos c11] at hp
                refine W.condT rfl c11 ?_
                refine W.seq ?_
                refine W.region ?_
                refine RL.opD (by decide) (opv_assign rfl rfl) ?_
                refine RL.nil ?_
                refine thnN ?_
                refine W.ret ?_
                refine thnR ?_
                have er := Option.some.inj hp
                subst er
                exact Rt.one rfl rfl ⟨rfl, X_21, (Sep.nil _ _ _)⟩
              · rw [if_neg c11] at hp
                have c11 := eq_false_of_ne_true c11
                refine W.condF rfl c11 ?_
                refine W.skip ?_
                refine thnN ?_
                refine W.seq ?_
                refine W.region ?_
                refine RL.opD (by decide) (opv_assign rfl rfl) ?_
                refine RL.nil ?_
                refine thnN ?_
                refine W.seq ?_
                obtain ⟨x19, hx19, hp⟩ := Option.bind_eq_some_iff.1 hp
                refine W.region ?_
                refine RL.opD (by decide) (opv_move rfl rfl) ?_
                refine RL.opD (by decide) (opv_move rfl rfl) ?_
                refine RL.op _ (by decide) (opv_call (cap := []) (laws_heldStripS_ok _ _ _ (ownO.read (Sep.at (o := ownO (kII .i64) 31 v6 x13.2) S_28 3 rfl)) _ _ hx19) rfl rfl ⟨rfl, rfl, trivial⟩ Try.func54 rfl rfl) ?_
                rintro _ _ ⟨rfl, rfl⟩
                refine RL.opD (by decide) (opv_assign rfl rfl) ?_
                refine RL.nil ?_
                refine thnN ?_
                refine W.seq ?_
                refine W.seq ?_
                refine W.region ?_
                refine RL.opD (by decide) (opv_move rfl rfl) ?_
                refine RL.opD (by decide) (opv_icmp rfl rfl rfl rfl) ?_
                refine RL.nil ?_
                refine thnN ?_
                by_cases c12 : (decide (x19 < 0)) = true
                · rw [if_pos c12] at hp
                  refine W.condT rfl c12 ?_
                  refine W.seq ?_
                  refine W.region ?_
                  refine RL.opD (by decide) (opv_assign rfl rfl) ?_
                  refine RL.nil ?_
                  refine thnN ?_
                  refine W.ret ?_
                  refine thnR ?_
                  have er := Option.some.inj hp
                  subst er
                  exact Rt.one rfl rfl ⟨rfl, X_21, (Sep.nil _ _ _)⟩
                · rw [if_neg c12] at hp
                  have c12 := eq_false_of_ne_true c12
                  refine W.condF rfl c12 ?_
                  refine W.skip ?_
                  refine thnN ?_
                  refine W.seq ?_
                  refine W.seq ?_
                  refine W.region ?_
                  refine RL.opD (by decide) (opv_move rfl rfl) ?_
                  refine RL.opD (by decide) (opv_move rfl rfl) ?_
                  refine RL.opD (by decide) (opv_icmp rfl rfl rfl rfl) ?_
                  refine RL.nil ?_
                  refine thnN ?_
                  by_cases c13 : (x19 != x13.1) = true
                  · rw [if_pos c13] at hp
                    refine W.condT rfl c13 ?_
                    refine W.seq ?_
                    refine W.region ?_
                    refine RL.opD (by decide) (opv_assign rfl rfl) ?_
                    refine RL.nil ?_
                    refine thnN ?_
                    refine W.ret ?_
                    refine thnR ?_
                    have er := Option.some.inj hp
                    subst er
                    exact Rt.one rfl rfl ⟨rfl, X_21, (Sep.nil _ _ _)⟩
                  · rw [if_neg c13] at hp
                    have c13 := eq_false_of_ne_true c13
                    refine W.condF rfl c13 ?_
                    refine W.skip ?_
                    refine thnN ?_
                    refine W.seq ?_
                    refine W.region ?_
                    refine RL.opD (by decide) (opv_assign rfl rfl) ?_
                    refine RL.nil ?_
                    refine thnN ?_
                    refine W.ret ?_
                    have er := Option.some.inj hp
                    subst er
                    exact Rt.one rfl rfl ⟨rfl, X_21, (Sep.nil _ _ _)⟩

end Go.H
