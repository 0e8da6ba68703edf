/- Functions of the program: what each computes, as a plain function, and that the call comes to it. Written by a program (wip/gen). -/
import Derived.Test.YtohfgnjmgipehaaPRect
import Derived.Test.YtohfgnjmgipehaaBase21
import Derived.Test.YtohfgnjmgipehaaProg
import Derived.KernelRfl
set_option linter.unusedVariables false
namespace Go.H
open Go Go.Proofs

theorem _root_.Go.Proofs.Try.one132 : oneCellT Try.prog 132 = true := by kernel_rfl
theorem _root_.Go.Proofs.Try.size132 : (Try.prog.info? 132).map (·.size) = some 1 := by kernel_rfl
theorem _root_.Go.Proofs.Try.zero132 : (Try.prog.info? 132).bind (·.zero) = some (.map none) := by kernel_rfl
theorem _root_.Go.Proofs.Try.zero4 : (Try.prog.info? 4).bind (·.zero) = some (.bool false) := by kernel_rfl

noncomputable def spec_l00Rises.s0 (a0 : List (Int)) (a1 : Int) (a2 : Int) (x1 : Bool) (x2 : Int) : Option ((Bool × Int) ⊕ ((Bool × Int × Bool) ⊕ Bool)) :=
  (if (decide (x2 < (a0.length : Int))) = true then ((((idx a0 x2).bind fun (x7 : Int) => ((spec_l00In x7 a1 a2).bind fun (x8 : Bool) => (if (!x8) = true then some true else (if (decide (x2 > 0)) = true then ((idx a0 (IntKind.wrap .i64 (x2 - 1))).bind fun (x9 : Int) => ((idx a0 x2).bind fun (x10 : Int) => some (decide (x9 ≥ x10)))) else some false)))) : Option Bool).bind fun (x6 : Bool) => (if x6 = true then some (.inr (.inr false)) else some (.inl (x1, IntKind.wrap .i64 (x2 + 1))))) else some (.inr (.inl (x1, x2, decide (x2 < (a0.length : Int))))))

noncomputable def spec_l00Rises (a0 : List (Int)) (a1 : Int) (a2 : Int) : Option Bool :=
  ((loopF (fun (s : (Bool × Int)) => spec_l00Rises.s0 a0 a1 a2 s.1 s.2) (false, 0)).bind fun (y1 : ((Bool × Int × Bool) ⊕ Bool)) => match y1 with | .inl (x3, x4, x5) => some true | .inr r1 => some r1)

noncomputable def spec_l00Has.s0 (a0 : List (Int)) (a1 : Int) (x1 : Bool) (x2 : Int) : Option ((Bool × Int) ⊕ ((Bool × Int × Bool) ⊕ Bool)) :=
  (if (decide (x2 < (a0.length : Int))) = true then ((idx a0 x2).bind fun (x6 : Int) => (if (x6 == a1) = true then some (.inr (.inr true)) else some (.inl (x1, IntKind.wrap .i64 (x2 + 1))))) else some (.inr (.inl (x1, x2, decide (x2 < (a0.length : Int))))))

noncomputable def spec_l00Has (a0 : List (Int)) (a1 : Int) : Option Bool :=
  ((loopF (fun (s : (Bool × Int)) => spec_l00Has.s0 a0 a1 s.1 s.2) (false, 0)).bind fun (y1 : ((Bool × Int × Bool) ⊕ Bool)) => match y1 with | .inl (x3, x4, x5) => some false | .inr r1 => some r1)

noncomputable def spec_SlitSheet.s0 (a0_0 : Int) (a0_1 : Int) (a1 : Int) (a2 : List (Int)) (x6 : Int) (x7 : List (Option Nat)) : Option ((Int × (List (Option Nat))) ⊕ (Int × Bool × (List (Option Nat)))) :=
  (if (decide (x6 < a0_1)) = true then ((spec_l00Has a2 x6).bind fun (x11 : Bool) => (((if (!x11) = true then ((idx x7 (IntKind.wrap .i64 (a1 + (IntKind.wrap .i64 (a0_0 * x6))))).bind fun (x13 : Option Nat) => ((setF x7 (IntKind.wrap .i64 (a1 + (IntKind.wrap .i64 (a0_0 * x6)))) (some 0)).bind fun (x14 : List (Option Nat)) => some x14)) else some x7) : Option (List (Option Nat))).bind fun (x12 : List (Option Nat)) => some (.inl (IntKind.wrap .i64 (x6 + 1), x12)))) else some (.inr (x6, decide (x6 < a0_1), x7)))

noncomputable def spec_SlitSheet (a0_0 : Int) (a0_1 : Int) (a0_2 : Bool) (a0_3 : List (Option Nat)) (a0_4 : List (Option Nat)) (a1 : Int) (a2 : List (Int)) : Option (Int × Int × Bool × (List (Option Nat)) × (List (Option Nat)) × Bool) :=
  ((((spec_l02Is a0_0 a0_1 a0_2 a0_3 a0_4).bind fun (x2 : Bool) => (if (!x2) = true then some true else ((spec_l00In a1 0 (IntKind.wrap .i64 (a0_0 - 1))).bind fun (x3 : Bool) => (if (!x3) = true then some true else (if (decide ((a2.length : Int) > 8)) = true then some true else ((spec_l00Rises a2 0 (IntKind.wrap .i64 (a0_1 - 1))).bind fun (x4 : Bool) => some (!x4))))))) : Option Bool).bind fun (x1 : Bool) => (if x1 = true then some (0, 0, false, ([] : List (Option Nat)), ([] : List (Option Nat)), false) else ((spec_l05Own a0_0 a0_1 a0_2 a0_3 a0_4).bind fun (x5 : (Int × Int × Bool × (List (Option Nat)) × (List (Option Nat)))) => ((loopF (fun (s : (Int × (List (Option Nat)))) => spec_SlitSheet.s0 a0_0 a0_1 a1 a2 s.1 s.2) (0, x5.2.2.2.1)).bind fun (⟨x8, x9, x10⟩ : (Int × Bool × (List (Option Nat)))) => some (x5.1, x5.2.1, x5.2.2.1, x10, x5.2.2.2.2, true)))))

noncomputable def impl_SlitSheet_1 (a0 : Int) (a1 : Int) (a2 : Int) (ae0_0 : Int) (ae1_0 : List (Int × Bool)) (ae2_0 : Int) (ae2_1 : Int) (ae2_2 : Bool) (ae2_3 : List (Option Nat)) (ae2_4 : List (Option Nat)) : Option (Int × (List (Int × Bool)) × Int × Int × Bool × (List (Option Nat)) × (List (Option Nat))) :=
  (((if (a0 == ae0_0) = true then some (!(mapGet ae1_0 a1)) else some false) : Option Bool).bind fun (x1 : Bool) => (((if x1 = true then ((idx ae2_3 a2).bind fun (x3 : Option Nat) => ((setF ae2_3 a2 (some 0)).bind fun (x4 : List (Option Nat)) => some x4)) else some ae2_3) : Option (List (Option Nat))).bind fun (x2 : List (Option Nat)) => some (ae0_0, ae1_0, ae2_0, ae2_1, ae2_2, x2, ae2_4)))

noncomputable def impl_Sheet_each__impl_SlitSheet_1.s1 (a0_0 : Int) (a0_1 : Int) (a0_2 : Bool) (a0_3 : List (Option Nat)) (a0_4 : List (Option Nat)) (x1 : Int) (x18 : Int) (x19 : Int) (x20 : List (Int × Bool)) (x21 : Int) (x22 : Int) (x23 : Bool) (x24 : List (Option Nat)) (x25 : List (Option Nat)) : Option ((Int × Int × (List (Int × Bool)) × Int × Int × Bool × (List (Option Nat)) × (List (Option Nat))) ⊕ (Int × Bool × Int × (List (Int × Bool)) × Int × Int × Bool × (List (Option Nat)) × (List (Option Nat)))) :=
  (if (decide (x18 < a0_0)) = true then ((impl_Sheet_at a0_0 a0_1 a0_2 a0_3 a0_4 x18 x1).bind fun (x35 : Int) => ((impl_SlitSheet_1 x18 x1 x35 x19 x20 x21 x22 x23 x24 x25).bind fun (x36 : (Int × (List (Int × Bool)) × Int × Int × Bool × (List (Option Nat)) × (List (Option Nat)))) => some (.inl (IntKind.wrap .i64 (x18 + 1), x36.1, x36.2.1, x36.2.2.1, x36.2.2.2.1, x36.2.2.2.2.1, x36.2.2.2.2.2.1, x36.2.2.2.2.2.2)))) else some (.inr (x18, decide (x18 < a0_0), x19, x20, x21, x22, x23, x24, x25)))

noncomputable def impl_Sheet_each__impl_SlitSheet_1.s0 (a0_0 : Int) (a0_1 : Int) (a0_2 : Bool) (a0_3 : List (Option Nat)) (a0_4 : List (Option Nat)) (x1 : Int) (x2 : Int) (x3 : List (Int × Bool)) (x4 : Int) (x5 : Int) (x6 : Bool) (x7 : List (Option Nat)) (x8 : List (Option Nat)) : Option ((Int × Int × (List (Int × Bool)) × Int × Int × Bool × (List (Option Nat)) × (List (Option Nat))) ⊕ (Int × Bool × Int × (List (Int × Bool)) × Int × Int × Bool × (List (Option Nat)) × (List (Option Nat)))) :=
  (if (decide (x1 < a0_1)) = true then ((loopF (fun (s : (Int × Int × (List (Int × Bool)) × Int × Int × Bool × (List (Option Nat)) × (List (Option Nat)))) => impl_Sheet_each__impl_SlitSheet_1.s1 a0_0 a0_1 a0_2 a0_3 a0_4 x1 s.1 s.2.1 s.2.2.1 s.2.2.2.1 s.2.2.2.2.1 s.2.2.2.2.2.1 s.2.2.2.2.2.2.1 s.2.2.2.2.2.2.2) (0, x2, x3, x4, x5, x6, x7, x8)).bind fun (⟨x26, x27, x28, x29, x30, x31, x32, x33, x34⟩ : (Int × Bool × Int × (List (Int × Bool)) × Int × Int × Bool × (List (Option Nat)) × (List (Option Nat)))) => some (.inl (IntKind.wrap .i64 (x1 + 1), x28, x29, x30, x31, x32, x33, x34))) else some (.inr (x1, decide (x1 < a0_1), x2, x3, x4, x5, x6, x7, x8)))

noncomputable def impl_Sheet_each__impl_SlitSheet_1 (a0_0 : Int) (a0_1 : Int) (a0_2 : Bool) (a0_3 : List (Option Nat)) (a0_4 : List (Option Nat)) (ae0_0 : Int) (ae1_0 : List (Int × Bool)) (ae2_0 : Int) (ae2_1 : Int) (ae2_2 : Bool) (ae2_3 : List (Option Nat)) (ae2_4 : List (Option Nat)) : Option (Int × (List (Int × Bool)) × Int × Int × Bool × (List (Option Nat)) × (List (Option Nat))) :=
  ((loopF (fun (s : (Int × Int × (List (Int × Bool)) × Int × Int × Bool × (List (Option Nat)) × (List (Option Nat)))) => impl_Sheet_each__impl_SlitSheet_1.s0 a0_0 a0_1 a0_2 a0_3 a0_4 s.1 s.2.1 s.2.2.1 s.2.2.2.1 s.2.2.2.2.1 s.2.2.2.2.2.1 s.2.2.2.2.2.2.1 s.2.2.2.2.2.2.2) (0, ae0_0, ae1_0, ae2_0, ae2_1, ae2_2, ae2_3, ae2_4)).bind fun (⟨x9, x10, x11, x12, x13, x14, x15, x16, x17⟩ : (Int × Bool × Int × (List (Int × Bool)) × Int × Int × Bool × (List (Option Nat)) × (List (Option Nat)))) => some (x11, x12, x13, x14, x15, x16, x17))

noncomputable def impl_SlitSheet.s0 (a0_1 : Int) (a2 : List (Int)) (x3 : Bool) (x4 : Int) (x5 : Int) (x6 : List (Int × Bool)) : Option ((Bool × Int × Int × (List (Int × Bool))) ⊕ ((Bool × Int × Int × Bool × (List (Int × Bool))) ⊕ (Int × Int × Bool × (List (Option Nat)) × (List (Option Nat)) × Bool))) :=
  (if (decide (x5 < (a2.length : Int))) = true then ((idx a2 x5).bind fun (x12 : Int) => ((impl_within x12 (IntKind.wrap .i64 (x4 + 1)) (IntKind.wrap .i64 (a0_1 - 1))).bind fun (x13 : Bool) => (if (!x13) = true then some (.inr (.inr (0, 0, false, ([] : List (Option Nat)), ([] : List (Option Nat)), false))) else (if (x6.all fun p => p.1 != x12) = true then some (.inl (x3, x12, IntKind.wrap .i64 (x5 + 1), x6 ++ [(x12, true)])) else none)))) else some (.inr (.inl (x3, x4, x5, decide (x5 < (a2.length : Int)), x6))))

noncomputable def impl_SlitSheet (a0_0 : Int) (a0_1 : Int) (a0_2 : Bool) (a0_3 : List (Option Nat)) (a0_4 : List (Option Nat)) (a1 : Int) (a2 : List (Int)) : Option (Int × Int × Bool × (List (Option Nat)) × (List (Option Nat)) × Bool) :=
  ((((impl_isValidCell a0_0 a0_1 a0_2 a0_3 a0_4 a1 0).bind fun (x2 : Bool) => (if (!x2) = true then some true else some (decide ((a2.length : Int) > 8)))) : Option Bool).bind fun (x1 : Bool) => (if x1 = true then some (0, 0, false, ([] : List (Option Nat)), ([] : List (Option Nat)), false) else ((loopF (fun (s : (Bool × Int × Int × (List (Int × Bool)))) => impl_SlitSheet.s0 a0_1 a2 s.1 s.2.1 s.2.2.1 s.2.2.2) (false, (-1), 0, ([] : List (Int × Bool)))).bind fun (y2 : ((Bool × Int × Int × Bool × (List (Int × Bool))) ⊕ (Int × Int × Bool × (List (Option Nat)) × (List (Option Nat)) × Bool))) => match y2 with | .inl (x7, x8, x9, x10, x11) => ((impl_copySheet a0_0 a0_1 a0_2 a0_3 a0_4).bind fun (x14 : (Int × Int × Bool × (List (Option Nat)) × (List (Option Nat)))) => ((impl_Sheet_each__impl_SlitSheet_1 a0_0 a0_1 a0_2 a0_3 a0_4 a1 x11 x14.1 x14.2.1 x14.2.2.1 x14.2.2.2.1 x14.2.2.2.2).bind fun (x15 : (Int × (List (Int × Bool)) × Int × Int × Bool × (List (Option Nat)) × (List (Option Nat)))) => some (x15.2.2.1, x15.2.2.2.1, x15.2.2.2.2.1, x15.2.2.2.2.2.1, x15.2.2.2.2.2.2, true))) | .inr r1 => some r1)))

noncomputable def laws_FnExactSlitSheet (a0_0 : Int) (a0_1 : Int) (a0_2 : Bool) (a0_3 : List (Option Nat)) (a0_4 : List (Option Nat)) (a1 : Int) (a2 : List (Int)) : Option Bool :=
  (if (decide ((a2.length : Int) > 1048576)) = true then some true else ((laws_szSheet a0_0 a0_1 a0_2 a0_3 a0_4 1048576).bind fun (x1 : Int) => (if (decide (x1 < 0)) = true then some true else ((laws_toSheet a0_0 a0_1 a0_2 a0_3 a0_4).bind fun (x2 : (Int × Int × Bool × (List (Option Nat)) × (List (Option Nat)))) => ((laws_toInt64S a2).bind fun (x3 : List (Int)) => ((spec_SlitSheet x2.1 x2.2.1 x2.2.2.1 x2.2.2.2.1 x2.2.2.2.2 a1 x3).bind fun (x4 : (Int × Int × Bool × (List (Option Nat)) × (List (Option Nat)) × Bool)) => ((laws_toSheet a0_0 a0_1 a0_2 a0_3 a0_4).bind fun (x5 : (Int × Int × Bool × (List (Option Nat)) × (List (Option Nat)))) => ((laws_toInt64S a2).bind fun (x6 : List (Int)) => ((impl_SlitSheet x5.1 x5.2.1 x5.2.2.1 x5.2.2.2.1 x5.2.2.2.2 a1 x6).bind fun (x7 : (Int × Int × Bool × (List (Option Nat)) × (List (Option Nat)) × Bool)) => ((((laws_eqSheet x7.1 x7.2.1 x7.2.2.1 x7.2.2.2.1 x7.2.2.2.2.1 x4.1 x4.2.1 x4.2.2.1 x4.2.2.2.1 x4.2.2.2.2.1).bind fun (x9 : Bool) => (if (!x9) = true then some true else some (x7.2.2.2.2.2 != x4.2.2.2.2.2))) : Option Bool).bind fun (x8 : Bool) => (if x8 = true then some false else ((laws_toSheet a0_0 a0_1 a0_2 a0_3 a0_4).bind fun (x10 : (Int × Int × Bool × (List (Option Nat)) × (List (Option Nat)))) => ((laws_eqSheet x5.1 x5.2.1 x5.2.2.1 x5.2.2.2.1 x5.2.2.2.2 x10.1 x10.2.1 x10.2.2.1 x10.2.2.2.1 x10.2.2.2.2).bind fun (x11 : Bool) => (if (!x11) = true then some false else ((laws_toInt64S a2).bind fun (x12 : List (Int)) => ((laws_eqInt64S x6 x12).bind fun (x13 : Bool) => (if (!x13) = true then some false else ((laws_markSheet x5.1 x5.2.1 x5.2.2.1 x5.2.2.2.1 x5.2.2.2.2 1).bind fun (x14 : (Int × (List (Option Nat)) × (List (Option Nat)))) => ((laws_markInt64S x6 x14.1).bind fun (x15 : (Int × (List (Int)))) => (((if (decide (x15.1 < 0)) = true then some true else ((laws_eqSheet x7.1 x7.2.1 x7.2.2.1 x7.2.2.2.1 x7.2.2.2.2.1 x4.1 x4.2.1 x4.2.2.1 x4.2.2.2.1 x4.2.2.2.2.1).bind fun (x17 : Bool) => (if (!x17) = true then some true else some (x7.2.2.2.2.2 != x4.2.2.2.2.2)))) : Option Bool).bind fun (x16 : Bool) => (if x16 = true then some false else ((laws_markSheet x7.1 x7.2.1 x7.2.2.1 x7.2.2.2.1 x7.2.2.2.2.1 1).bind fun (x18 : (Int × (List (Option Nat)) × (List (Option Nat)))) => ((laws_heldSheet x7.1 x7.2.1 x7.2.2.1 x18.2.1 x18.2.2 1).bind fun (x19 : Int) => (if (decide (x19 < 0)) = true then some false else (if (x19 != x18.1) = true then some false else ((laws_toSheet a0_0 a0_1 a0_2 a0_3 a0_4).bind fun (x20 : (Int × Int × Bool × (List (Option Nat)) × (List (Option Nat)))) => ((laws_toInt64S a2).bind fun (x21 : List (Int)) => ((impl_SlitSheet x20.1 x20.2.1 x20.2.2.1 x20.2.2.2.1 x20.2.2.2.2 a1 x21).bind fun (x22 : (Int × Int × Bool × (List (Option Nat)) × (List (Option Nat)) × Bool)) => ((((laws_eqSheet x22.1 x22.2.1 x22.2.2.1 x22.2.2.2.1 x22.2.2.2.2.1 x4.1 x4.2.1 x4.2.2.1 x4.2.2.2.1 x4.2.2.2.2.1).bind fun (x24 : Bool) => (if (!x24) = true then some true else some (x22.2.2.2.2.2 != x4.2.2.2.2.2))) : Option Bool).bind fun (x23 : Bool) => (if x23 = true then some false else ((laws_heldSheet x7.1 x7.2.1 x7.2.2.1 x18.2.1 x18.2.2 1).bind fun (x25 : Int) => (if (decide (x25 < 0)) = true then some false else (if (x25 != x18.1) = true then some false else some true)))))))))))))))))))))))))))))))))

set_option maxRecDepth 20000 in
theorem spec_l00Rises_ok (h0 : Heap) (u0 : Value) (a0 : List (Int)) (g0 : SL (kI .i64) h0.size h0 u0 a0) (a1 : Int) (a2 : Int) (r : Bool) (hp : spec_l00Rises a0 a1 a2 = some r) : CallsH Try.prog 116 ([u0, (.int .i64 a1), (.int .i64 a2)].toArray ++ [].toArray) h0 (fun v h' => v = (.bool r) ∧ h0 = h') := by
  unfold spec_l00Rises at hp
  refine callsH_of_W (l := [u0, (.int .i64 a1), (.int .i64 a2)]) (cap := []) 38 Try.func116 rfl rfl rfl ?_
  refine W.seq ?_
  refine W.region ?_
  refine RL.opD (by decide) (opv_assign rfl rfl) ?_
  refine RL.nil ?_
  refine thnN ?_
  refine W.seq ?_
  refine W.seq ?_
  refine W.region ?_
  refine RL.opD (by decide) (opv_assign rfl rfl) ?_
  refine RL.nil ?_
  refine thnN ?_
  obtain ⟨y1, hy1, hp⟩ := Option.bind_eq_some_iff.1 hp
  refine W.cut (fun φ' h' => ∃ x3, ∃ x4, ∃ x5, y1 = .inl (x3, x4, x5) ∧ Fr.sub [(0, u0), (1, (.int .i64 a1)), (2, (.int .i64 a2)), (6, (.bool x3)), (7, (.int .i64 x4)), (11, (.bool x5))] φ' ∧ h0 = h') ?_ ?_
  · refine W.block ?_
    refine W.loopS (fun (s : (Bool × Int)) φ' h' => Fr.sub [(0, u0), (1, (.int .i64 a1)), (2, (.int .i64 a2)), (6, (.bool s.1)), (7, (.int .i64 s.2))] φ' ∧ h0 = h') hy1 ⟨⟨rfl, rfl, rfl, rfl, rfl, trivial⟩, rfl⟩ ?_
    rintro ⟨x1, x2⟩ φ' _ o1 ⟨hs1, rfl⟩ ho1 hy1
    have hs1 : Fr.sub [(0, u0), (1, (.int .i64 a1)), (2, (.int .i64 a2)), (6, (.bool x1)), (7, (.int .i64 x2))] φ' := hs1
    have ho1 : spec_l00Rises.s0 a0 a1 a2 x1 x2 = some o1 := ho1
    unfold spec_l00Rises.s0 at ho1
    refine W.sub hs1 ?_
    refine W.seq ?_
    refine W.seq ?_
    refine W.region ?_
    refine RL.opD (by decide) (opv_move rfl rfl) ?_
    refine RL.opD (by decide) (opv_move rfl rfl) ?_
    refine RL.opD (by decide) (opv_len rfl Try.underlying60 rfl g0) ?_
    refine RL.opD (by decide) (opv_icmp rfl rfl rfl rfl) ?_
    refine RL.nil ?_
    refine thnN ?_
    by_cases c1 : (decide (x2 < (a0.length : Int))) = true
    · rw [if_pos c1] at ho1
      refine W.condT rfl c1 ?_
      refine W.skip ?_
      refine thnN ?_
      refine W.seq ?_
      refine W.block ?_
      refine W.seq ?_
      obtain ⟨x6, hy2, ho1⟩ := Option.bind_eq_some_iff.1 ho1
      refine W.cut (fun φ' h' => Fr.sub [(0, u0), (1, (.int .i64 a1)), (2, (.int .i64 a2)), (6, (.bool x1)), (7, (.int .i64 x2)), (11, (.bool (decide (x2 < (a0.length : Int))))), (37, (.bool x6))] φ' ∧ h0 = h') ?_ ?_
      · obtain ⟨x7, hx7, hy2⟩ := Option.bind_eq_some_iff.1 hy2
        obtain ⟨x8, hx8, hy2⟩ := Option.bind_eq_some_iff.1 hy2
        by_cases c2 : (!x8) = true
        · rw [if_pos c2] at hy2
          refine W.sub (ψ := [(0, u0), (1, (.int .i64 a1)), (2, (.int .i64 a2)), (6, (.bool x1)), (7, (.int .i64 x2)), (11, (.bool (decide (x2 < (a0.length : Int)))))]) ⟨rfl, rfl, rfl, rfl, rfl, rfl, trivial⟩ ?_
          refine W.regionP [fun v _ => @Eq Value u0 v, fun v _ => @Eq Value (.int .i64 x2) v, fun v _ => PtI 1 v u0 (Int.toNat x2), fun v _ => @Eq Value (.int .i64 x7) v, fun v _ => @Eq Value (.int .i64 a1) v, fun v _ => @Eq Value (.int .i64 a2) v, fun v _ => @Eq Value (.bool x8) v, fun v _ => @Eq Value (.bool (!x8)) v, fun v _ => @Eq Value (.bool (!x8)) v, fun v _ => @Eq Value undef v, fun v _ => @Eq Value undef v, fun v _ => @Eq Value undef v, fun v _ => @Eq Value undef v, fun v _ => @Eq Value undef v, fun v _ => @Eq Value undef v, fun v _ => @Eq Value undef v, fun v _ => @Eq Value undef v, fun v _ => @Eq Value undef v, fun v _ => @Eq Value undef v, fun v _ => @Eq Value undef v, fun v _ => @Eq Value undef v, fun v _ => @Eq Value undef v, fun v _ => @Eq Value undef v, fun v _ => @Eq Value (.bool true) v] [[], [], [0, 1], [2], [], [], [3, 4, 5], [6], [7], [8], [8], [8], [11], [11], [11], [11], [11], [11], [11], [11], [11], [11], [8], [8]] [23] Try.mixed (by decide +kernel) (by decide +kernel) rfl rfl rfl ?_ ?_
          · refine ⟨⟨rfl, ?_⟩, ⟨rfl, ?_⟩, ⟨rfl, ?_⟩, ⟨rfl, ?_⟩, ⟨rfl, ?_⟩, ⟨rfl, ?_⟩, ⟨rfl, ?_⟩, ⟨rfl, ?_⟩, ⟨rfl, ?_⟩, ⟨rfl, ?_⟩, ⟨rfl, ?_⟩, ⟨rfl, ?_⟩, ⟨rfl, ?_⟩, ⟨rfl, ?_⟩, ⟨rfl, ?_⟩, ⟨rfl, ?_⟩, ⟨rfl, ?_⟩, ⟨rfl, ?_⟩, ⟨rfl, ?_⟩, ⟨rfl, ?_⟩, ⟨rfl, ?_⟩, ⟨rfl, ?_⟩, ⟨rfl, ?_⟩, ⟨rfl, ?_⟩, trivial⟩
            · rintro _ rfl
              refine Dep.nil ?_
              refine GuardOK.none rfl ?_
              exact OpV.toD (opv_move rfl rfl) rfl
            · rintro _ rfl
              refine Dep.nil ?_
              refine GuardOK.none rfl ?_
              exact OpV.toD (opv_move rfl rfl) rfl
            · rintro _ rfl _ rfl _ rfl
              refine Dep.nil ?_
              refine GuardOK.none rfl ?_
              exact OpV.toS (opv_index rfl Try.underlying60 (by rw [Try.size2]; rfl) rfl rfl g0 hx7) (fun _ h => h)
            · rintro _ rfl v1 fv1
              refine Dep.nil ?_
              refine GuardOK.none rfl ?_
              exact OpV.toD (opv_loadI rfl Try.one2 rfl fv1 g0 hx7) rfl
            · rintro _ rfl
              refine Dep.nil ?_
              refine GuardOK.none rfl ?_
              exact OpV.toD (opv_move rfl rfl) rfl
            · rintro _ rfl
              refine Dep.nil ?_
              refine GuardOK.none rfl ?_
              exact OpV.toD (opv_move rfl rfl) rfl
            · rintro _ rfl _ rfl _ rfl _ rfl
              refine Dep.nil ?_
              refine GuardOK.none rfl ?_
              exact OpV.mono (opv_call (cap := []) (spec_l00In_ok _ _ _ _ _ hx8) rfl rfl ⟨rfl, rfl, rfl, trivial⟩ Try.func78 rfl rfl) (by rintro _ _ ⟨rfl, rfl⟩; exact ⟨rfl, rfl⟩)
            · rintro _ rfl _ rfl
              refine Dep.nil ?_
              refine GuardOK.none rfl ?_
              exact OpV.toD (opv_not rfl rfl) rfl
            · rintro _ rfl _ rfl
              refine Dep.nil ?_
              refine GuardOK.none rfl ?_
              exact OpV.toD (opv_move rfl rfl) rfl
            · rintro _ rfl _ rfl
              refine Dep.nil ?_
              refine GuardOK.pass rfl rfl rfl (Eq.trans c2 (by decide)) ⟨rfl, rfl⟩
            · rintro _ rfl _ rfl
              refine Dep.nil ?_
              refine GuardOK.pass rfl rfl rfl (Eq.trans c2 (by decide)) ⟨rfl, rfl⟩
            · rintro _ rfl _ rfl
              refine Dep.nil ?_
              refine GuardOK.pass rfl rfl rfl (Eq.trans c2 (by decide)) ⟨rfl, rfl⟩
            · rintro _ rfl _ rfl
              refine Dep.nil ?_
              refine GuardOK.passU rfl rfl rfl ⟨rfl, rfl⟩
            · rintro _ rfl _ rfl
              refine Dep.nil ?_
              refine GuardOK.passU rfl rfl rfl ⟨rfl, rfl⟩
            · rintro _ rfl _ rfl
              refine Dep.nil ?_
              refine GuardOK.passU rfl rfl rfl ⟨rfl, rfl⟩
            · rintro _ rfl _ rfl
              refine Dep.nil ?_
              refine GuardOK.passU rfl rfl rfl ⟨rfl, rfl⟩
            · rintro _ rfl _ rfl
              refine Dep.nil ?_
              refine GuardOK.passU rfl rfl rfl ⟨rfl, rfl⟩
            · rintro _ rfl _ rfl
              refine Dep.nil ?_
              refine GuardOK.passU rfl rfl rfl ⟨rfl, rfl⟩
            · rintro _ rfl _ rfl
              refine Dep.nil ?_
              refine GuardOK.passU rfl rfl rfl ⟨rfl, rfl⟩
            · rintro _ rfl _ rfl
              refine Dep.nil ?_
              refine GuardOK.passU rfl rfl rfl ⟨rfl, rfl⟩
            · rintro _ rfl _ rfl
              refine Dep.nil ?_
              refine GuardOK.passU rfl rfl rfl ⟨rfl, rfl⟩
            · rintro _ rfl _ rfl
              refine Dep.nil ?_
              refine GuardOK.passU rfl rfl rfl ⟨rfl, rfl⟩
            · rintro _ rfl _ rfl
              refine Dep.nil ?_
              refine GuardOK.pass rfl rfl rfl (Eq.trans c2 (by decide)) ⟨rfl, rfl⟩
            · rintro _ rfl _ rfl
              refine Dep.nil ?_
              refine GuardOK.none rfl ?_
              exact OpV.toD (opv_pick rfl rfl (fun _ => rfl) (fun e => absurd (Eq.trans (Eq.symm e) c2) (by decide)) rfl) rfl
          rintro _ rfl
          refine Dep.nil ?_
          show RL _ _ _ _ [] _ _
          refine RL.nil ?_
          have ey2 := Option.some.inj hy2
          subst ey2
          refine onlyN ?_
          exact ⟨⟨rfl, rfl, rfl, rfl, rfl, rfl, rfl, trivial⟩, rfl⟩
        · rw [if_neg c2] at hy2
          have c2 := eq_false_of_ne_true c2
          by_cases c3 : (decide (x2 > 0)) = true
          · rw [if_pos c3] at hy2
            obtain ⟨x9, hx9, hy2⟩ := Option.bind_eq_some_iff.1 hy2
            obtain ⟨x10, hx10, hy2⟩ := Option.bind_eq_some_iff.1 hy2
            refine W.sub (ψ := [(0, u0), (1, (.int .i64 a1)), (2, (.int .i64 a2)), (6, (.bool x1)), (7, (.int .i64 x2)), (11, (.bool (decide (x2 < (a0.length : Int)))))]) ⟨rfl, rfl, rfl, rfl, rfl, rfl, trivial⟩ ?_
            refine W.regionP [fun v _ => @Eq Value u0 v, fun v _ => @Eq Value (.int .i64 x2) v, fun v _ => PtI 1 v u0 (Int.toNat x2), fun v _ => @Eq Value (.int .i64 x7) v, fun v _ => @Eq Value (.int .i64 a1) v, fun v _ => @Eq Value (.int .i64 a2) v, fun v _ => @Eq Value (.bool x8) v, fun v _ => @Eq Value (.bool (!x8)) v, fun v _ => @Eq Value (.bool (!x8)) v, fun v _ => @Eq Value (.int .i64 x2) v, fun v _ => @Eq Value (.bool (decide (x2 > 0))) v, fun v _ => @Eq Value (.bool (decide (x2 > 0))) v, fun v _ => @Eq Value u0 v, fun v _ => @Eq Value (.int .i64 x2) v, fun v _ => @Eq Value (.int .i64 (IntKind.wrap .i64 (x2 - 1))) v, fun v _ => PtI 1 v u0 (Int.toNat (IntKind.wrap .i64 (x2 - 1))), fun v _ => @Eq Value (.int .i64 x9) v, fun v _ => @Eq Value u0 v, fun v _ => @Eq Value (.int .i64 x2) v, fun v _ => PtI 1 v u0 (Int.toNat x2), fun v _ => @Eq Value (.int .i64 x10) v, fun v _ => @Eq Value (.bool (decide (x9 ≥ x10))) v, fun v _ => @Eq Value (.bool (decide (x9 ≥ x10))) v, fun v _ => @Eq Value (.bool (decide (x9 ≥ x10))) v] [[], [], [0, 1], [2], [], [], [3, 4, 5], [6], [7], [8], [9, 8], [10, 8], [11], [11], [13, 11], [12, 14, 11], [15, 11], [11], [11], [17, 18, 11], [19, 11], [16, 20, 11], [11, 21, 8], [8, 22]] [23] Try.mixed (by decide +kernel) (by decide +kernel) rfl rfl rfl ?_ ?_
            · refine ⟨⟨rfl, ?_⟩, ⟨rfl, ?_⟩, ⟨rfl, ?_⟩, ⟨rfl, ?_⟩, ⟨rfl, ?_⟩, ⟨rfl, ?_⟩, ⟨rfl, ?_⟩, ⟨rfl, ?_⟩, ⟨rfl, ?_⟩, ⟨rfl, ?_⟩, ⟨rfl, ?_⟩, ⟨rfl, ?_⟩, ⟨rfl, ?_⟩, ⟨rfl, ?_⟩, ⟨rfl, ?_⟩, ⟨rfl, ?_⟩, ⟨rfl, ?_⟩, ⟨rfl, ?_⟩, ⟨rfl, ?_⟩, ⟨rfl, ?_⟩, ⟨rfl, ?_⟩, ⟨rfl, ?_⟩, ⟨rfl, ?_⟩, ⟨rfl, ?_⟩, trivial⟩
              · rintro _ rfl
                refine Dep.nil ?_
                refine GuardOK.none rfl ?_
                exact OpV.toD (opv_move rfl rfl) rfl
              · rintro _ rfl
                refine Dep.nil ?_
                refine GuardOK.none rfl ?_
                exact OpV.toD (opv_move rfl rfl) rfl
              · rintro _ rfl _ rfl _ rfl
                refine Dep.nil ?_
                refine GuardOK.none rfl ?_
                exact OpV.toS (opv_index rfl Try.underlying60 (by rw [Try.size2]; rfl) rfl rfl g0 hx7) (fun _ h => h)
              · rintro _ rfl v1 fv1
                refine Dep.nil ?_
                refine GuardOK.none rfl ?_
                exact OpV.toD (opv_loadI rfl Try.one2 rfl fv1 g0 hx7) rfl
              · rintro _ rfl
                refine Dep.nil ?_
                refine GuardOK.none rfl ?_
                exact OpV.toD (opv_move rfl rfl) rfl
              · rintro _ rfl
                refine Dep.nil ?_
                refine GuardOK.none rfl ?_
                exact OpV.toD (opv_move rfl rfl) rfl
              · rintro _ rfl _ rfl _ rfl _ rfl
                refine Dep.nil ?_
                refine GuardOK.none rfl ?_
                exact OpV.mono (opv_call (cap := []) (spec_l00In_ok _ _ _ _ _ hx8) rfl rfl ⟨rfl, rfl, rfl, trivial⟩ Try.func78 rfl rfl) (by rintro _ _ ⟨rfl, rfl⟩; exact ⟨rfl, rfl⟩)
              · rintro _ rfl _ rfl
                refine Dep.nil ?_
                refine GuardOK.none rfl ?_
                exact OpV.toD (opv_not rfl rfl) rfl
              · rintro _ rfl _ rfl
                refine Dep.nil ?_
                refine GuardOK.none rfl ?_
                exact OpV.toD (opv_move rfl rfl) rfl
              · rintro _ rfl _ rfl
                refine Dep.nil ?_
                refine GuardOK.some rfl rfl rfl c2 ?_
                exact OpV.toD (opv_move rfl rfl) rfl
              · rintro _ rfl _ rfl _ rfl
                refine Dep.nil ?_
                refine GuardOK.some rfl rfl rfl c2 ?_
                exact OpV.toD (opv_icmp rfl rfl rfl rfl) rfl
              · rintro _ rfl _ rfl _ rfl
                refine Dep.nil ?_
                refine GuardOK.some rfl rfl rfl c2 ?_
                exact OpV.toD (opv_move rfl rfl) rfl
              · rintro _ rfl _ rfl
                refine Dep.nil ?_
                refine GuardOK.some rfl rfl rfl c3 ?_
                exact OpV.toD (opv_move rfl rfl) rfl
              · rintro _ rfl _ rfl
                refine Dep.nil ?_
                refine GuardOK.some rfl rfl rfl c3 ?_
                exact OpV.toD (opv_move rfl rfl) rfl
              · rintro _ rfl _ rfl _ rfl
                refine Dep.nil ?_
                refine GuardOK.some rfl rfl rfl c3 ?_
                exact OpV.toD (opv_sub rfl rfl rfl) rfl
              · rintro _ rfl _ rfl _ rfl _ rfl
                refine Dep.nil ?_
                refine GuardOK.some rfl rfl rfl c3 ?_
                exact OpV.toS (opv_index rfl Try.underlying60 (by rw [Try.size2]; rfl) rfl rfl g0 hx9) (fun _ h => h)
              · rintro _ rfl v2 fv2 _ rfl
                refine Dep.nil ?_
                refine GuardOK.some rfl rfl rfl c3 ?_
                exact OpV.toD (opv_loadI rfl Try.one2 rfl fv2 g0 hx9) rfl
              · rintro _ rfl _ rfl
                refine Dep.nil ?_
                refine GuardOK.some rfl rfl rfl c3 ?_
                exact OpV.toD (opv_move rfl rfl) rfl
              · rintro _ rfl _ rfl
                refine Dep.nil ?_
                refine GuardOK.some rfl rfl rfl c3 ?_
                exact OpV.toD (opv_move rfl rfl) rfl
              · rintro _ rfl _ rfl _ rfl _ rfl
                refine Dep.nil ?_
                refine GuardOK.some rfl rfl rfl c3 ?_
                exact OpV.toS (opv_index rfl Try.underlying60 (by rw [Try.size2]; rfl) rfl rfl g0 hx10) (fun _ h => h)
              · rintro _ rfl v3 fv3 _ rfl
                refine Dep.nil ?_
                refine GuardOK.some rfl rfl rfl c3 ?_
                exact OpV.toD (opv_loadI rfl Try.one2 rfl fv3 g0 hx10) rfl
              · rintro _ rfl _ rfl _ rfl _ rfl
                refine Dep.nil ?_
                refine GuardOK.some rfl rfl rfl c3 ?_
                exact OpV.toD (opv_icmp rfl rfl rfl rfl) rfl
              · rintro _ rfl _ rfl _ rfl _ rfl
                refine Dep.nil ?_
                refine GuardOK.some rfl rfl rfl c2 ?_
                exact OpV.toD (opv_pick rfl rfl (fun _ => rfl) (fun e => absurd (Eq.trans (Eq.symm e) c3) (by decide)) rfl) rfl
              · rintro _ rfl _ rfl _ rfl
                refine Dep.nil ?_
                refine GuardOK.none rfl ?_
                exact OpV.toD (opv_pick rfl rfl (fun e => absurd (Eq.trans (Eq.symm e) c2) (by decide)) (fun _ => rfl) rfl) rfl
            rintro _ rfl
            refine Dep.nil ?_
            show RL _ _ _ _ [] _ _
            refine RL.nil ?_
            have ey2 := Option.some.inj hy2
            subst ey2
            refine onlyN ?_
            exact ⟨⟨rfl, rfl, rfl, rfl, rfl, rfl, rfl, trivial⟩, rfl⟩
          · rw [if_neg c3] at hy2
            have c3 := eq_false_of_ne_true c3
            refine W.sub (ψ := [(0, u0), (1, (.int .i64 a1)), (2, (.int .i64 a2)), (6, (.bool x1)), (7, (.int .i64 x2)), (11, (.bool (decide (x2 < (a0.length : Int)))))]) ⟨rfl, rfl, rfl, rfl, rfl, rfl, trivial⟩ ?_
            refine W.regionP [fun v _ => @Eq Value u0 v, fun v _ => @Eq Value (.int .i64 x2) v, fun v _ => PtI 1 v u0 (Int.toNat x2), fun v _ => @Eq Value (.int .i64 x7) v, fun v _ => @Eq Value (.int .i64 a1) v, fun v _ => @Eq Value (.int .i64 a2) v, fun v _ => @Eq Value (.bool x8) v, fun v _ => @Eq Value (.bool (!x8)) v, fun v _ => @Eq Value (.bool (!x8)) v, fun v _ => @Eq Value (.int .i64 x2) v, fun v _ => @Eq Value (.bool (decide (x2 > 0))) v, fun v _ => @Eq Value (.bool (decide (x2 > 0))) v, fun v _ => @Eq Value undef v, fun v _ => @Eq Value undef v, fun v _ => @Eq Value undef v, fun v _ => @Eq Value undef v, fun v _ => @Eq Value undef v, fun v _ => @Eq Value undef v, fun v _ => @Eq Value undef v, fun v _ => @Eq Value undef v, fun v _ => @Eq Value undef v, fun v _ => @Eq Value undef v, fun v _ => @Eq Value (.bool false) v, fun v _ => @Eq Value (.bool false) v] [[], [], [0, 1], [2], [], [], [3, 4, 5], [6], [7], [8], [9, 8], [10, 8], [11], [11], [11], [11], [11], [11], [11], [11], [11], [11], [11, 8], [8, 22]] [23] Try.mixed (by decide +kernel) (by decide +kernel) rfl rfl rfl ?_ ?_
            · refine ⟨⟨rfl, ?_⟩, ⟨rfl, ?_⟩, ⟨rfl, ?_⟩, ⟨rfl, ?_⟩, ⟨rfl, ?_⟩, ⟨rfl, ?_⟩, ⟨rfl, ?_⟩, ⟨rfl, ?_⟩, ⟨rfl, ?_⟩, ⟨rfl, ?_⟩, ⟨rfl, ?_⟩, ⟨rfl, ?_⟩, ⟨rfl, ?_⟩, ⟨rfl, ?_⟩, ⟨rfl, ?_⟩, ⟨rfl, ?_⟩, ⟨rfl, ?_⟩, ⟨rfl, ?_⟩, ⟨rfl, ?_⟩, ⟨rfl, ?_⟩, ⟨rfl, ?_⟩, ⟨rfl, ?_⟩, ⟨rfl, ?_⟩, ⟨rfl, ?_⟩, trivial⟩
              · rintro _ rfl
                refine Dep.nil ?_
                refine GuardOK.none rfl ?_
                exact OpV.toD (opv_move rfl rfl) rfl
              · rintro _ rfl
                refine Dep.nil ?_
                refine GuardOK.none rfl ?_
                exact OpV.toD (opv_move rfl rfl) rfl
              · rintro _ rfl _ rfl _ rfl
                refine Dep.nil ?_
                refine GuardOK.none rfl ?_
                exact OpV.toS (opv_index rfl Try.underlying60 (by rw [Try.size2]; rfl) rfl rfl g0 hx7) (fun _ h => h)
              · rintro _ rfl v1 fv1
                refine Dep.nil ?_
                refine GuardOK.none rfl ?_
                exact OpV.toD (opv_loadI rfl Try.one2 rfl fv1 g0 hx7) rfl
              · rintro _ rfl
                refine Dep.nil ?_
                refine GuardOK.none rfl ?_
                exact OpV.toD (opv_move rfl rfl) rfl
              · rintro _ rfl
                refine Dep.nil ?_
                refine GuardOK.none rfl ?_
                exact OpV.toD (opv_move rfl rfl) rfl
              · rintro _ rfl _ rfl _ rfl _ rfl
                refine Dep.nil ?_
                refine GuardOK.none rfl ?_
                exact OpV.mono (opv_call (cap := []) (spec_l00In_ok _ _ _ _ _ hx8) rfl rfl ⟨rfl, rfl, rfl, trivial⟩ Try.func78 rfl rfl) (by rintro _ _ ⟨rfl, rfl⟩; exact ⟨rfl, rfl⟩)
              · rintro _ rfl _ rfl
                refine Dep.nil ?_
                refine GuardOK.none rfl ?_
                exact OpV.toD (opv_not rfl rfl) rfl
              · rintro _ rfl _ rfl
                refine Dep.nil ?_
                refine GuardOK.none rfl ?_
                exact OpV.toD (opv_move rfl rfl) rfl
              · rintro _ rfl _ rfl
                refine Dep.nil ?_
                refine GuardOK.some rfl rfl rfl c2 ?_
                exact OpV.toD (opv_move rfl rfl) rfl
              · rintro _ rfl _ rfl _ rfl
                refine Dep.nil ?_
                refine GuardOK.some rfl rfl rfl c2 ?_
                exact OpV.toD (opv_icmp rfl rfl rfl rfl) rfl
              · rintro _ rfl _ rfl _ rfl
                refine Dep.nil ?_
                refine GuardOK.some rfl rfl rfl c2 ?_
                exact OpV.toD (opv_move rfl rfl) rfl
              · rintro _ rfl _ rfl
                refine Dep.nil ?_
                refine GuardOK.pass rfl rfl rfl (Eq.trans c3 (by decide)) ⟨rfl, rfl⟩
              · rintro _ rfl _ rfl
                refine Dep.nil ?_
                refine GuardOK.pass rfl rfl rfl (Eq.trans c3 (by decide)) ⟨rfl, rfl⟩
              · rintro _ rfl _ rfl
                refine Dep.nil ?_
                refine GuardOK.pass rfl rfl rfl (Eq.trans c3 (by decide)) ⟨rfl, rfl⟩
              · rintro _ rfl _ rfl
                refine Dep.nil ?_
                refine GuardOK.pass rfl rfl rfl (Eq.trans c3 (by decide)) ⟨rfl, rfl⟩
              · rintro _ rfl _ rfl
                refine Dep.nil ?_
                refine GuardOK.pass rfl rfl rfl (Eq.trans c3 (by decide)) ⟨rfl, rfl⟩
              · rintro _ rfl _ rfl
                refine Dep.nil ?_
                refine GuardOK.pass rfl rfl rfl (Eq.trans c3 (by decide)) ⟨rfl, rfl⟩
              · rintro _ rfl _ rfl
                refine Dep.nil ?_
                refine GuardOK.pass rfl rfl rfl (Eq.trans c3 (by decide)) ⟨rfl, rfl⟩
              · rintro _ rfl _ rfl
                refine Dep.nil ?_
                refine GuardOK.pass rfl rfl rfl (Eq.trans c3 (by decide)) ⟨rfl, rfl⟩
              · rintro _ rfl _ rfl
                refine Dep.nil ?_
                refine GuardOK.pass rfl rfl rfl (Eq.trans c3 (by decide)) ⟨rfl, rfl⟩
              · rintro _ rfl _ rfl
                refine Dep.nil ?_
                refine GuardOK.pass rfl rfl rfl (Eq.trans c3 (by decide)) ⟨rfl, rfl⟩
              · rintro _ rfl _ rfl _ rfl
                refine Dep.nil ?_
                refine GuardOK.some rfl rfl rfl c2 ?_
                exact OpV.toD (opv_pick rfl rfl (fun e => absurd (Eq.trans (Eq.symm e) c3) (by decide)) (fun _ => rfl) rfl) rfl
              · rintro _ rfl _ rfl _ rfl
                refine Dep.nil ?_
                refine GuardOK.none rfl ?_
                exact OpV.toD (opv_pick rfl rfl (fun e => absurd (Eq.trans (Eq.symm e) c2) (by decide)) (fun _ => rfl) rfl) rfl
            rintro _ rfl
            refine Dep.nil ?_
            show RL _ _ _ _ [] _ _
            refine RL.nil ?_
            have ey2 := Option.some.inj hy2
            subst ey2
            refine onlyN ?_
            exact ⟨⟨rfl, rfl, rfl, rfl, rfl, rfl, rfl, trivial⟩, rfl⟩
      rintro φ' _ ⟨hs3, rfl⟩
      refine thnN ?_
      refine W.sub hs3 ?_
      by_cases c4 : x6 = true
      · rw [if_pos c4] at ho1
        refine W.condT rfl c4 ?_
        refine W.seq ?_
        refine W.region ?_
        refine RL.opD (by decide) (opv_assign rfl rfl) ?_
        refine RL.nil ?_
        refine thnN ?_
        refine W.ret ?_
        refine blkR ?_
        refine thnR ?_
        have eo1 := Option.some.inj ho1
        subst eo1
        have ey1 := hy1 _ rfl
        subst ey1
        try dsimp only at hp
        refine rndR ?_
        refine blkR ?_
        refine onlyR ?_
        refine thnR ?_
        have er := Option.some.inj hp
        subst er
        exact Rt.one rfl rfl ⟨rfl, rfl⟩
      · rw [if_neg c4] at ho1
        have c4 := eq_false_of_ne_true c4
        refine W.condF rfl c4 ?_
        refine W.skip ?_
        refine blkN ?_
        refine thnN ?_
        refine W.region ?_
        refine RL.opD (by decide) (opv_move rfl rfl) ?_
        refine RL.opD (by decide) (opv_add rfl rfl rfl) ?_
        refine RL.opD (by decide) (opv_assign rfl rfl) ?_
        refine RL.nil ?_
        have eo1 := Option.some.inj ho1
        subst eo1
        refine rndN (s' := (x1, IntKind.wrap .i64 (x2 + 1))) rfl ?_
        exact ⟨⟨rfl, rfl, rfl, rfl, rfl, trivial⟩, rfl⟩
    · rw [if_neg c1] at ho1
      have c1 := eq_false_of_ne_true c1
      refine W.condF rfl c1 ?_
      refine W.exit ?_
      refine thnX ?_
      refine rndX ?_
      refine blkI ?_
      have eo1 := Option.some.inj ho1
      subst eo1
      have ey1 := hy1 _ rfl
      subst ey1
      refine onlyN ?_
      exact ⟨x1, x2, decide (x2 < (a0.length : Int)), rfl, ⟨rfl, rfl, rfl, rfl, rfl, rfl, trivial⟩, rfl⟩
  rintro φ' _ ⟨x3, x4, x5, rfl, hs2, rfl⟩
  try dsimp only at hp
  refine thnN ?_
  refine W.sub hs2 ?_
  refine W.seq ?_
  refine W.region ?_
  refine RL.opD (by decide) (opv_assign rfl rfl) ?_
  refine RL.nil ?_
  refine thnN ?_
  refine W.ret ?_
  have er := Option.some.inj hp
  subst er
  exact Rt.one rfl rfl ⟨rfl, rfl⟩

set_option maxRecDepth 20000 in
theorem spec_l00Has_ok (h0 : Heap) (u0 : Value) (a0 : List (Int)) (g0 : SL (kI .i64) h0.size h0 u0 a0) (a1 : Int) (r : Bool) (hp : spec_l00Has a0 a1 = some r) : CallsH Try.prog 117 ([u0, (.int .i64 a1)].toArray ++ [].toArray) h0 (fun v h' => v = (.bool r) ∧ h0 = h') := by
  unfold spec_l00Has at hp
  refine callsH_of_W (l := [u0, (.int .i64 a1)]) (cap := []) 18 Try.func117 rfl rfl rfl ?_
  refine W.seq ?_
  refine W.region ?_
  refine RL.opD (by decide) (opv_assign rfl rfl) ?_
  refine RL.nil ?_
  refine thnN ?_
  refine W.seq ?_
  refine W.seq ?_
  refine W.region ?_
  refine RL.opD (by decide) (opv_assign rfl rfl) ?_
  refine RL.nil ?_
  refine thnN ?_
  obtain ⟨y1, hy1, hp⟩ := Option.bind_eq_some_iff.1 hp
  refine W.cut (fun φ' h' => ∃ x3, ∃ x4, ∃ x5, y1 = .inl (x3, x4, x5) ∧ Fr.sub [(0, u0), (1, (.int .i64 a1)), (4, (.bool x3)), (5, (.int .i64 x4)), (9, (.bool x5))] φ' ∧ h0 = h') ?_ ?_
  · refine W.block ?_
    refine W.loopS (fun (s : (Bool × Int)) φ' h' => Fr.sub [(0, u0), (1, (.int .i64 a1)), (4, (.bool s.1)), (5, (.int .i64 s.2))] φ' ∧ h0 = h') hy1 ⟨⟨rfl, rfl, rfl, rfl, trivial⟩, rfl⟩ ?_
    rintro ⟨x1, x2⟩ φ' _ o1 ⟨hs1, rfl⟩ ho1 hy1
    have hs1 : Fr.sub [(0, u0), (1, (.int .i64 a1)), (4, (.bool x1)), (5, (.int .i64 x2))] φ' := hs1
    have ho1 : spec_l00Has.s0 a0 a1 x1 x2 = some o1 := ho1
    unfold spec_l00Has.s0 at ho1
    refine W.sub hs1 ?_
    refine W.seq ?_
    refine W.seq ?_
    refine W.region ?_
    refine RL.opD (by decide) (opv_move rfl rfl) ?_
    refine RL.opD (by decide) (opv_move rfl rfl) ?_
    refine RL.opD (by decide) (opv_len rfl Try.underlying60 rfl g0) ?_
    refine RL.opD (by decide) (opv_icmp rfl rfl rfl rfl) ?_
    refine RL.nil ?_
    refine thnN ?_
    by_cases c1 : (decide (x2 < (a0.length : Int))) = true
    · rw [if_pos c1] at ho1
      refine W.condT rfl c1 ?_
      refine W.skip ?_
      refine thnN ?_
      refine W.seq ?_
      refine W.block ?_
      refine W.seq ?_
      obtain ⟨x6, hx6, ho1⟩ := Option.bind_eq_some_iff.1 ho1
      refine W.region ?_
      refine RL.opD (by decide) (opv_move rfl rfl) ?_
      refine RL.opD (by decide) (opv_move rfl rfl) ?_
      refine RL.op _ (by decide) (opv_index rfl Try.underlying60 (by rw [Try.size2]; rfl) rfl rfl g0 hx6) ?_
      rintro v1 _ ⟨fv1, rfl⟩
      refine RL.opD (by decide) (opv_loadI rfl Try.one2 rfl fv1 g0 hx6) ?_
      refine RL.opD (by decide) (opv_move rfl rfl) ?_
      refine RL.opD (by decide) (opv_icmp rfl rfl rfl rfl) ?_
      refine RL.nil ?_
      refine thnN ?_
      by_cases c2 : (x6 == a1) = true
      · rw [if_pos c2] at ho1
        refine W.condT rfl c2 ?_
        refine W.seq ?_
        refine W.region ?_
        refine RL.opD (by decide) (opv_assign rfl rfl) ?_
        refine RL.nil ?_
        refine thnN ?_
        refine W.ret ?_
        refine blkR ?_
        refine thnR ?_
        have eo1 := Option.some.inj ho1
        subst eo1
        have ey1 := hy1 _ rfl
        subst ey1
        try dsimp only at hp
        refine rndR ?_
        refine blkR ?_
        refine onlyR ?_
        refine thnR ?_
        have er := Option.some.inj hp
        subst er
        exact Rt.one rfl rfl ⟨rfl, rfl⟩
      · rw [if_neg c2] at ho1
        have c2 := eq_false_of_ne_true c2
        refine W.condF rfl c2 ?_
        refine W.skip ?_
        refine blkN ?_
        refine thnN ?_
        refine W.region ?_
        refine RL.opD (by decide) (opv_move rfl rfl) ?_
        refine RL.opD (by decide) (opv_add rfl rfl rfl) ?_
        refine RL.opD (by decide) (opv_assign rfl rfl) ?_
        refine RL.nil ?_
        have eo1 := Option.some.inj ho1
        subst eo1
        refine rndN (s' := (x1, IntKind.wrap .i64 (x2 + 1))) rfl ?_
        exact ⟨⟨rfl, rfl, rfl, rfl, trivial⟩, rfl⟩
    · rw [if_neg c1] at ho1
      have c1 := eq_false_of_ne_true c1
      refine W.condF rfl c1 ?_
      refine W.exit ?_
      refine thnX ?_
      refine rndX ?_
      refine blkI ?_
      have eo1 := Option.some.inj ho1
      subst eo1
      have ey1 := hy1 _ rfl
      subst ey1
      refine onlyN ?_
      exact ⟨x1, x2, decide (x2 < (a0.length : Int)), rfl, ⟨rfl, rfl, rfl, rfl, rfl, trivial⟩, rfl⟩
  rintro φ' _ ⟨x3, x4, x5, rfl, hs2, rfl⟩
  try dsimp only at hp
  refine thnN ?_
  refine W.sub hs2 ?_
  refine W.seq ?_
  refine W.region ?_
  refine RL.opD (by decide) (opv_assign rfl rfl) ?_
  refine RL.nil ?_
  refine thnN ?_
  refine W.ret ?_
  have er := Option.some.inj hp
  subst er
  exact Rt.one rfl rfl ⟨rfl, rfl⟩

set_option maxRecDepth 20000 in
theorem spec_SlitSheet_ok (h0 : Heap) (a0_0 : Int) (a0_1 : Int) (a0_2 : Bool) (u0_3 : Value) (a0_3 : List (Option Nat)) (g0_3 : SL (kF .f32) h0.size h0 u0_3 a0_3) (u0_4 : Value) (a0_4 : List (Option Nat)) (g0_4 : SL (kF .f32) h0.size h0 u0_4 a0_4) (a1 : Int) (u2 : Value) (a2 : List (Int)) (g2 : SL (kI .i64) h0.size h0 u2 a2) (r : (Int × Int × Bool × (List (Option Nat)) × (List (Option Nat)) × Bool)) (hp : spec_SlitSheet a0_0 a0_1 a0_2 a0_3 a0_4 a1 a2 = some r) : CallsH Try.prog 60 ([(.agg (List.toArray (α := Value) [(.int .i64 a0_0), (.int .i64 a0_1), (.bool a0_2), u0_3, u0_4])), (.int .i64 a1), u2].toArray ++ [].toArray) h0 (fun v h' => ∃ w3, ∃ w4, v = (.tuple (List.toArray (α := Value) [(.agg (List.toArray (α := Value) [(.int .i64 r.1), (.int .i64 r.2.1), (.bool r.2.2.1), w3, w4])), (.bool r.2.2.2.2.2)])) ∧ Mod [] h0 h' ∧ Sep [] h0.size h' [ownO (kF .f32) 40 w3 r.2.2.2.1, ownO (kF .f32) 40 w4 r.2.2.2.2.1]) := by
  unfold spec_SlitSheet at hp
  refine callsH_of_W (l := [(.agg (List.toArray (α := Value) [(.int .i64 a0_0), (.int .i64 a0_1), (.bool a0_2), u0_3, u0_4])), (.int .i64 a1), u2]) (cap := []) 55 Try.func60 rfl rfl rfl ?_
  refine W.seq ?_
  refine W.region ?_
  refine RL.op _ (by decide) (opS_boxed (opv_boxA (cs := [(.int .i64 a0_0), (.int .i64 a0_1), (.bool a0_2), u0_3, u0_4]) rfl rfl)) ?_
  rintro _ hp1 ⟨bb1, rfl, MT_1, T_1⟩
  have X_1 : Mod [] h0 hp1 := Mod.step (A := []) (L := []) (Mod.refl [] h0) (Sep.nil [] h0.size h0) MT_1
  have S_1 : Sep [] h0.size hp1 [boxO bb1 [(.int .i64 a0_0), (.int .i64 a0_1), (.bool a0_2), u0_3, u0_4]] := Sep.step (A := []) (L := []) (Sep.nil [] h0.size h0) (Mod.size (Mod.refl [] h0)) MT_1 T_1
  refine RL.op _ (by decide) (opS_boxed (opv_alloc (cs := [(.int .i64 0), (.int .i64 0), (.bool false), (.slice none 0 0), (.slice none 0 0)]) rfl Try.zero29 rfl)) ?_
  rintro _ hp2 ⟨bb2, rfl, MT_2, T_2⟩
  have X_2 : Mod [] h0 hp2 := Mod.step (A := []) (L := [boxO bb1 [(.int .i64 a0_0), (.int .i64 a0_1), (.bool a0_2), u0_3, u0_4]]) X_1 S_1 MT_2
  have S_2 : Sep [] h0.size hp2 [boxO bb2 [(.int .i64 0), (.int .i64 0), (.bool false), (.slice none 0 0), (.slice none 0 0)], boxO bb1 [(.int .i64 a0_0), (.int .i64 a0_1), (.bool a0_2), u0_3, u0_4]] := Sep.step (A := []) (L := [boxO bb1 [(.int .i64 a0_0), (.int .i64 a0_1), (.bool a0_2), u0_3, u0_4]]) S_1 (Mod.size X_1) MT_2 T_2
  refine RL.opD (by decide) (opv_assign rfl rfl) ?_
  refine RL.nil ?_
  refine thnN ?_
  refine W.seq ?_
  refine W.seq ?_
  obtain ⟨x1, hy1, hp⟩ := Option.bind_eq_some_iff.1 hp
  refine W.cut (fun φ' h' => Fr.sub [(0, (.agg (List.toArray (α := Value) [(.int .i64 a0_0), (.int .i64 a0_1), (.bool a0_2), u0_3, u0_4]))), (1, (.int .i64 a1)), (2, u2), (3, (.pointer (some ⟨bb1, 0, none⟩))), (6, (.pointer (some ⟨bb2, 0, none⟩))), (7, (.bool false)), (32, (.bool x1))] φ' ∧ hp2 = h') ?_ ?_
  · obtain ⟨x2, hx2, hy1⟩ := Option.bind_eq_some_iff.1 hy1
    by_cases c1 : (!x2) = true
    · rw [if_pos c1] at hy1
      refine W.region ?_
      refine RL.op _ (by decide) (opv_call (cap := []) (spec_l02Is_ok _ _ _ _ _ _ _ (SL.up (SL.mod g0_3 X_2 (Nat.le_refl _) nob) (Nat.le_trans (Nat.le_refl _) (Mod.size X_2))) _ _ (SL.up (SL.mod g0_4 X_2 (Nat.le_refl _) nob) (Nat.le_trans (Nat.le_refl _) (Mod.size X_2))) (Sep.at (o := boxO bb1 [(.int .i64 a0_0), (.int .i64 a0_1), (.bool a0_2), u0_3, u0_4]) S_2 1 rfl) _ hx2) rfl rfl ⟨rfl, trivial⟩ Try.func74 rfl rfl) ?_
      rintro _ _ ⟨rfl, rfl⟩
      refine RL.opD (by decide) (opv_not rfl rfl) ?_
      refine RL.opD (by decide) (opv_move rfl rfl) ?_
      refine RL.no rfl rfl (Eq.trans c1 (by decide)) (by decide) ?_
      refine RL.no rfl rfl (Eq.trans c1 (by decide)) (by decide) ?_
      refine RL.no rfl rfl (Eq.trans c1 (by decide)) (by decide) ?_
      refine RL.no rfl rfl (Eq.trans c1 (by decide)) (by decide) ?_
      refine RL.no rfl rfl (Eq.trans c1 (by decide)) (by decide) ?_
      refine RL.no rfl rfl (Eq.trans c1 (by decide)) (by decide) ?_
      refine RL.opD (by decide) (opv_pick rfl rfl (fun _ => rfl) (fun e => absurd (Eq.trans (Eq.symm e) c1) (by decide)) rfl) ?_
      refine RL.opD (by decide) (opv_move rfl rfl) ?_
      refine RL.no rfl rfl (Eq.trans rfl (by decide)) (by decide) ?_
      refine RL.no rfl rfl (Eq.trans rfl (by decide)) (by decide) ?_
      refine RL.no rfl rfl (Eq.trans rfl (by decide)) (by decide) ?_
      refine RL.opD (by decide) (opv_pick rfl rfl (fun _ => rfl) (fun e => absurd (Eq.trans (Eq.symm e) rfl) (by decide)) rfl) ?_
      refine RL.opD (by decide) (opv_move rfl rfl) ?_
      refine RL.no rfl rfl (Eq.trans rfl (by decide)) (by decide) ?_
      refine RL.no rfl rfl (Eq.trans rfl (by decide)) (by decide) ?_
      refine RL.no rfl rfl (Eq.trans rfl (by decide)) (by decide) ?_
      refine RL.no rfl rfl (Eq.trans rfl (by decide)) (by decide) ?_
      refine RL.no rfl rfl (Eq.trans rfl (by decide)) (by decide) ?_
      refine RL.no rfl rfl (Eq.trans rfl (by decide)) (by decide) ?_
      refine RL.opD (by decide) (opv_pick rfl rfl (fun _ => rfl) (fun e => absurd (Eq.trans (Eq.symm e) rfl) (by decide)) rfl) ?_
      refine RL.nil ?_
      have ey1 := Option.some.inj hy1
      subst ey1
      refine onlyN ?_
      exact ⟨⟨rfl, rfl, rfl, rfl, rfl, rfl, rfl, trivial⟩, rfl⟩
    · rw [if_neg c1] at hy1
      have c1 := eq_false_of_ne_true c1
      obtain ⟨x3, hx3, hy1⟩ := Option.bind_eq_some_iff.1 hy1
      by_cases c2 : (!x3) = true
      · rw [if_pos c2] at hy1
        refine W.region ?_
        refine RL.op _ (by decide) (opv_call (cap := []) (spec_l02Is_ok _ _ _ _ _ _ _ (SL.up (SL.mod g0_3 X_2 (Nat.le_refl _) nob) (Nat.le_trans (Nat.le_refl _) (Mod.size X_2))) _ _ (SL.up (SL.mod g0_4 X_2 (Nat.le_refl _) nob) (Nat.le_trans (Nat.le_refl _) (Mod.size X_2))) (Sep.at (o := boxO bb1 [(.int .i64 a0_0), (.int .i64 a0_1), (.bool a0_2), u0_3, u0_4]) S_2 1 rfl) _ hx2) rfl rfl ⟨rfl, trivial⟩ Try.func74 rfl rfl) ?_
        rintro _ _ ⟨rfl, rfl⟩
        refine RL.opD (by decide) (opv_not rfl rfl) ?_
        refine RL.opD (by decide) (opv_move rfl rfl) ?_
        refine RL.yes _ rfl rfl c1 (by decide) (opv_move rfl rfl) ?_
        rintro _ _ ⟨rfl, rfl⟩
        refine RL.yes _ rfl rfl c1 (by decide) (opv_fieldAddr rfl Try.fo29_0 rfl) ?_
        rintro _ _ ⟨rfl, rfl⟩
        refine RL.yes _ rfl rfl c1 (by decide) (opv_loadB rfl Try.one2 rfl (Sep.at (o := boxO bb1 [(.int .i64 a0_0), (.int .i64 a0_1), (.bool a0_2), u0_3, u0_4]) S_2 1 rfl) rfl) ?_
        rintro _ _ ⟨rfl, rfl⟩
        refine RL.yes _ rfl rfl c1 (by decide) (opv_sub rfl rfl rfl) ?_
        rintro _ _ ⟨rfl, rfl⟩
        refine RL.yes _ rfl rfl c1 (by decide) (opv_call (cap := []) (spec_l00In_ok _ _ _ _ _ hx3) rfl rfl ⟨rfl, rfl, rfl, trivial⟩ Try.func78 rfl rfl) ?_
        rintro _ _ ⟨rfl, rfl⟩
        refine RL.yes _ rfl rfl c1 (by decide) (opv_not rfl rfl) ?_
        rintro _ _ ⟨rfl, rfl⟩
        refine RL.opD (by decide) (opv_pick rfl rfl (fun e => absurd (Eq.trans (Eq.symm e) c1) (by decide)) (fun _ => rfl) rfl) ?_
        refine RL.opD (by decide) (opv_move rfl rfl) ?_
        refine RL.no rfl rfl (Eq.trans c2 (by decide)) (by decide) ?_
        refine RL.no rfl rfl (Eq.trans c2 (by decide)) (by decide) ?_
        refine RL.no rfl rfl (Eq.trans c2 (by decide)) (by decide) ?_
        refine RL.opD (by decide) (opv_pick rfl rfl (fun _ => rfl) (fun e => absurd (Eq.trans (Eq.symm e) c2) (by decide)) rfl) ?_
        refine RL.opD (by decide) (opv_move rfl rfl) ?_
        refine RL.no rfl rfl (Eq.trans rfl (by decide)) (by decide) ?_
        refine RL.no rfl rfl (Eq.trans rfl (by decide)) (by decide) ?_
        refine RL.no rfl rfl (Eq.trans rfl (by decide)) (by decide) ?_
        refine RL.no rfl rfl (Eq.trans rfl (by decide)) (by decide) ?_
        refine RL.no rfl rfl (Eq.trans rfl (by decide)) (by decide) ?_
        refine RL.no rfl rfl (Eq.trans rfl (by decide)) (by decide) ?_
        refine RL.opD (by decide) (opv_pick rfl rfl (fun _ => rfl) (fun e => absurd (Eq.trans (Eq.symm e) rfl) (by decide)) rfl) ?_
        refine RL.nil ?_
        have ey1 := Option.some.inj hy1
        subst ey1
        refine onlyN ?_
        exact ⟨⟨rfl, rfl, rfl, rfl, rfl, rfl, rfl, trivial⟩, rfl⟩
      · rw [if_neg c2] at hy1
        have c2 := eq_false_of_ne_true c2
        by_cases c3 : (decide ((a2.length : Int) > 8)) = true
        · rw [if_pos c3] at hy1
          refine W.region ?_
          refine RL.op _ (by decide) (opv_call (cap := []) (spec_l02Is_ok _ _ _ _ _ _ _ (SL.up (SL.mod g0_3 X_2 (Nat.le_refl _) nob) (Nat.le_trans (Nat.le_refl _) (Mod.size X_2))) _ _ (SL.up (SL.mod g0_4 X_2 (Nat.le_refl _) nob) (Nat.le_trans (Nat.le_refl _) (Mod.size X_2))) (Sep.at (o := boxO bb1 [(.int .i64 a0_0), (.int .i64 a0_1), (.bool a0_2), u0_3, u0_4]) S_2 1 rfl) _ hx2) rfl rfl ⟨rfl, trivial⟩ Try.func74 rfl rfl) ?_
          rintro _ _ ⟨rfl, rfl⟩
          refine RL.opD (by decide) (opv_not rfl rfl) ?_
          refine RL.opD (by decide) (opv_move rfl rfl) ?_
          refine RL.yes _ rfl rfl c1 (by decide) (opv_move rfl rfl) ?_
          rintro _ _ ⟨rfl, rfl⟩
          refine RL.yes _ rfl rfl c1 (by decide) (opv_fieldAddr rfl Try.fo29_0 rfl) ?_
          rintro _ _ ⟨rfl, rfl⟩
          refine RL.yes _ rfl rfl c1 (by decide) (opv_loadB rfl Try.one2 rfl (Sep.at (o := boxO bb1 [(.int .i64 a0_0), (.int .i64 a0_1), (.bool a0_2), u0_3, u0_4]) S_2 1 rfl) rfl) ?_
          rintro _ _ ⟨rfl, rfl⟩
          refine RL.yes _ rfl rfl c1 (by decide) (opv_sub rfl rfl rfl) ?_
          rintro _ _ ⟨rfl, rfl⟩
          refine RL.yes _ rfl rfl c1 (by decide) (opv_call (cap := []) (spec_l00In_ok _ _ _ _ _ hx3) rfl rfl ⟨rfl, rfl, rfl, trivial⟩ Try.func78 rfl rfl) ?_
          rintro _ _ ⟨rfl, rfl⟩
          refine RL.yes _ rfl rfl c1 (by decide) (opv_not rfl rfl) ?_
          rintro _ _ ⟨rfl, rfl⟩
          refine RL.opD (by decide) (opv_pick rfl rfl (fun e => absurd (Eq.trans (Eq.symm e) c1) (by decide)) (fun _ => rfl) rfl) ?_
          refine RL.opD (by decide) (opv_move rfl rfl) ?_
          refine RL.yes _ rfl rfl c2 (by decide) (opv_move rfl rfl) ?_
          rintro _ _ ⟨rfl, rfl⟩
          refine RL.yes _ rfl rfl c2 (by decide) (opv_len rfl Try.underlying60 rfl (SL.mod g2 X_2 (Nat.le_refl _) nob)) ?_
          rintro _ _ ⟨rfl, rfl⟩
          refine RL.yes _ rfl rfl c2 (by decide) (opv_icmp rfl rfl rfl rfl) ?_
          rintro _ _ ⟨rfl, rfl⟩
          refine RL.opD (by decide) (opv_pick rfl rfl (fun e => absurd (Eq.trans (Eq.symm e) c2) (by decide)) (fun _ => rfl) rfl) ?_
          refine RL.opD (by decide) (opv_move rfl rfl) ?_
          refine RL.no rfl rfl (Eq.trans c3 (by decide)) (by decide) ?_
          refine RL.no rfl rfl (Eq.trans c3 (by decide)) (by decide) ?_
          refine RL.no rfl rfl (Eq.trans c3 (by decide)) (by decide) ?_
          refine RL.no rfl rfl (Eq.trans c3 (by decide)) (by decide) ?_
          refine RL.no rfl rfl (Eq.trans c3 (by decide)) (by decide) ?_
          refine RL.no rfl rfl (Eq.trans c3 (by decide)) (by decide) ?_
          refine RL.opD (by decide) (opv_pick rfl rfl (fun _ => rfl) (fun e => absurd (Eq.trans (Eq.symm e) c3) (by decide)) rfl) ?_
          refine RL.nil ?_
          have ey1 := Option.some.inj hy1
          subst ey1
          refine onlyN ?_
          exact ⟨⟨rfl, rfl, rfl, rfl, rfl, rfl, rfl, trivial⟩, rfl⟩
        · rw [if_neg c3] at hy1
          have c3 := eq_false_of_ne_true c3
          obtain ⟨x4, hx4, hy1⟩ := Option.bind_eq_some_iff.1 hy1
          refine W.region ?_
          refine RL.op _ (by decide) (opv_call (cap := []) (spec_l02Is_ok _ _ _ _ _ _ _ (SL.up (SL.mod g0_3 X_2 (Nat.le_refl _) nob) (Nat.le_trans (Nat.le_refl _) (Mod.size X_2))) _ _ (SL.up (SL.mod g0_4 X_2 (Nat.le_refl _) nob) (Nat.le_trans (Nat.le_refl _) (Mod.size X_2))) (Sep.at (o := boxO bb1 [(.int .i64 a0_0), (.int .i64 a0_1), (.bool a0_2), u0_3, u0_4]) S_2 1 rfl) _ hx2) rfl rfl ⟨rfl, trivial⟩ Try.func74 rfl rfl) ?_
          rintro _ _ ⟨rfl, rfl⟩
          refine RL.opD (by decide) (opv_not rfl rfl) ?_
          refine RL.opD (by decide) (opv_move rfl rfl) ?_
          refine RL.yes _ rfl rfl c1 (by decide) (opv_move rfl rfl) ?_
          rintro _ _ ⟨rfl, rfl⟩
          refine RL.yes _ rfl rfl c1 (by decide) (opv_fieldAddr rfl Try.fo29_0 rfl) ?_
          rintro _ _ ⟨rfl, rfl⟩
          refine RL.yes _ rfl rfl c1 (by decide) (opv_loadB rfl Try.one2 rfl (Sep.at (o := boxO bb1 [(.int .i64 a0_0), (.int .i64 a0_1), (.bool a0_2), u0_3, u0_4]) S_2 1 rfl) rfl) ?_
          rintro _ _ ⟨rfl, rfl⟩
          refine RL.yes _ rfl rfl c1 (by decide) (opv_sub rfl rfl rfl) ?_
          rintro _ _ ⟨rfl, rfl⟩
          refine RL.yes _ rfl rfl c1 (by decide) (opv_call (cap := []) (spec_l00In_ok _ _ _ _ _ hx3) rfl rfl ⟨rfl, rfl, rfl, trivial⟩ Try.func78 rfl rfl) ?_
          rintro _ _ ⟨rfl, rfl⟩
          refine RL.yes _ rfl rfl c1 (by decide) (opv_not rfl rfl) ?_
          rintro _ _ ⟨rfl, rfl⟩
          refine RL.opD (by decide) (opv_pick rfl rfl (fun e => absurd (Eq.trans (Eq.symm e) c1) (by decide)) (fun _ => rfl) rfl) ?_
          refine RL.opD (by decide) (opv_move rfl rfl) ?_
          refine RL.yes _ rfl rfl c2 (by decide) (opv_move rfl rfl) ?_
          rintro _ _ ⟨rfl, rfl⟩
          refine RL.yes _ rfl rfl c2 (by decide) (opv_len rfl Try.underlying60 rfl (SL.mod g2 X_2 (Nat.le_refl _) nob)) ?_
          rintro _ _ ⟨rfl, rfl⟩
          refine RL.yes _ rfl rfl c2 (by decide) (opv_icmp rfl rfl rfl rfl) ?_
          rintro _ _ ⟨rfl, rfl⟩
          refine RL.opD (by decide) (opv_pick rfl rfl (fun e => absurd (Eq.trans (Eq.symm e) c2) (by decide)) (fun _ => rfl) rfl) ?_
          refine RL.opD (by decide) (opv_move rfl rfl) ?_
          refine RL.yes _ rfl rfl c3 (by decide) (opv_move rfl rfl) ?_
          rintro _ _ ⟨rfl, rfl⟩
          refine RL.yes _ rfl rfl c3 (by decide) (opv_fieldAddr rfl Try.fo29_1 rfl) ?_
          rintro _ _ ⟨rfl, rfl⟩
          refine RL.yes _ rfl rfl c3 (by decide) (opv_loadB rfl Try.one2 rfl (Sep.at (o := boxO bb1 [(.int .i64 a0_0), (.int .i64 a0_1), (.bool a0_2), u0_3, u0_4]) S_2 1 rfl) rfl) ?_
          rintro _ _ ⟨rfl, rfl⟩
          refine RL.yes _ rfl rfl c3 (by decide) (opv_sub rfl rfl rfl) ?_
          rintro _ _ ⟨rfl, rfl⟩
          refine RL.yes _ rfl rfl c3 (by decide) (opv_call (cap := []) (spec_l00Rises_ok _ _ _ (SL.up (SL.mod g2 X_2 (Nat.le_refl _) nob) (Nat.le_trans (Nat.le_refl _) (Mod.size X_2))) _ _ _ hx4) rfl rfl ⟨rfl, rfl, rfl, trivial⟩ Try.func116 rfl rfl) ?_
          rintro _ _ ⟨rfl, rfl⟩
          refine RL.yes _ rfl rfl c3 (by decide) (opv_not rfl rfl) ?_
          rintro _ _ ⟨rfl, rfl⟩
          refine RL.opD (by decide) (opv_pick rfl rfl (fun e => absurd (Eq.trans (Eq.symm e) c3) (by decide)) (fun _ => rfl) rfl) ?_
          refine RL.nil ?_
          have ey1 := Option.some.inj hy1
          subst ey1
          refine onlyN ?_
          exact ⟨⟨rfl, rfl, rfl, rfl, rfl, rfl, rfl, trivial⟩, rfl⟩
  rintro φ' _ ⟨hs1, rfl⟩
  refine thnN ?_
  refine W.sub hs1 ?_
  by_cases c4 : x1 = true
  · rw [if_pos c4] at hp
    refine W.condT rfl c4 ?_
    refine W.seq ?_
    refine W.region ?_
    refine RL.opD (by decide) (opv_build (cs := [(.int .i64 0), (.int .i64 0), (.bool false), (.slice none 0 0), (.slice none 0 0)]) [] [] rfl Try.bd29 trivial rfl) ?_
    refine RL.op0 _ (opS_stored (cs := [(.int .i64 0), (.int .i64 0), (.bool false), (.slice none 0 0), (.slice none 0 0)]) (cs' := [(.int .i64 0), (.int .i64 0), (.bool false), (.slice none 0 0), (.slice none 0 0)]) (opv_storeA (us := [(.int .i64 0), (.int .i64 0), (.bool false), (.slice none 0 0), (.slice none 0 0)]) rfl Try.size29 rfl rfl (oneAll rfl (oneAll rfl (oneAll rfl (oneAll rfl (oneAll rfl rfl))))) (Sep.at (o := boxO bb2 [(.int .i64 0), (.int .i64 0), (.bool false), (.slice none 0 0), (.slice none 0 0)]) S_2 0 rfl) rfl rfl) (Sep.at (o := boxO bb2 [(.int .i64 0), (.int .i64 0), (.bool false), (.slice none 0 0), (.slice none 0 0)]) S_2 0 rfl)) ?_
    rintro _ hp3 ⟨rfl, MT_3, T_3⟩
    have S_3 : Sep [] h0.size hp2 ([boxO bb2 [(.int .i64 0), (.int .i64 0), (.bool false), (.slice none 0 0), (.slice none 0 0)]] ++ [boxO bb1 [(.int .i64 a0_0), (.int .i64 a0_1), (.bool a0_2), u0_3, u0_4]]) := Sep.sel S_2 [0, 1] (by decide)
    have X_3 : Mod [] h0 hp3 := Mod.step (A := [boxO bb2 [(.int .i64 0), (.int .i64 0), (.bool false), (.slice none 0 0), (.slice none 0 0)]]) (L := [boxO bb1 [(.int .i64 a0_0), (.int .i64 a0_1), (.bool a0_2), u0_3, u0_4]]) X_2 S_3 MT_3
    have S_4 : Sep [] h0.size hp3 [boxO bb2 [(.int .i64 0), (.int .i64 0), (.bool false), (.slice none 0 0), (.slice none 0 0)], boxO bb1 [(.int .i64 a0_0), (.int .i64 a0_1), (.bool a0_2), u0_3, u0_4]] := Sep.step (A := [boxO bb2 [(.int .i64 0), (.int .i64 0), (.bool false), (.slice none 0 0), (.slice none 0 0)]]) (L := [boxO bb1 [(.int .i64 a0_0), (.int .i64 a0_1), (.bool a0_2), u0_3, u0_4]]) S_3 (Mod.size X_2) MT_3 T_3
    refine RL.opD (by decide) (opv_assign rfl rfl) ?_
    refine RL.nil ?_
    refine thnN ?_
    refine W.ret ?_
    refine thnR ?_
    have S_5 : Sep [] h0.size hp3 [ownO (kF .f32) 40 (.slice none 0 0) ([] : List (Option Nat)), boxO bb2 [(.int .i64 0), (.int .i64 0), (.bool false), (.slice none 0 0), (.slice none 0 0)], boxO bb1 [(.int .i64 a0_0), (.int .i64 a0_1), (.bool a0_2), u0_3, u0_4]] := Sep.addNil S_4
    have S_6 : Sep [] h0.size hp3 [ownO (kF .f32) 40 (.slice none 0 0) ([] : List (Option Nat)), ownO (kF .f32) 40 (.slice none 0 0) ([] : List (Option Nat)), boxO bb2 [(.int .i64 0), (.int .i64 0), (.bool false), (.slice none 0 0), (.slice none 0 0)], boxO bb1 [(.int .i64 a0_0), (.int .i64 a0_1), (.bool a0_2), u0_3, u0_4]] := Sep.addNil S_5
    have er := Option.some.inj hp
    subst er
    exact Rt.cellA rfl rfl rfl Try.agg29 Try.size29 (Sep.at (o := boxO bb2 [(.int .i64 0), (.int .i64 0), (.bool false), (.slice none 0 0), (.slice none 0 0)]) S_6 2 rfl) rfl ⟨(.slice none 0 0), (.slice none 0 0), rfl, X_3, (Sep.sel S_6 [1, 0] (by decide))⟩
  · rw [if_neg c4] at hp
    have c4 := eq_false_of_ne_true c4
    refine W.condF rfl c4 ?_
    refine W.skip ?_
    refine thnN ?_
    refine W.seq ?_
    obtain ⟨x5, hx5, hp⟩ := Option.bind_eq_some_iff.1 hp
    refine W.region ?_
    refine RL.op _ (by decide) (opv_call (cap := []) (spec_l05Own_ok _ _ _ _ _ _ _ (SL.up (SL.mod g0_3 X_2 (Nat.le_refl _) nob) (Nat.le_trans (Nat.le_refl _) (Mod.size X_2))) _ _ (SL.up (SL.mod g0_4 X_2 (Nat.le_refl _) nob) (Nat.le_trans (Nat.le_refl _) (Mod.size X_2))) (Sep.at (o := boxO bb1 [(.int .i64 a0_0), (.int .i64 a0_1), (.bool a0_2), u0_3, u0_4]) S_2 1 rfl) _ hx5) rfl rfl ⟨rfl, trivial⟩ Try.func97 rfl rfl) ?_
    rintro _ hp4 ⟨v1, v2, rfl, MT_4, T_4⟩
    have X_4 : Mod [] h0 hp4 := Mod.step (A := []) (L := [boxO bb2 [(.int .i64 0), (.int .i64 0), (.bool false), (.slice none 0 0), (.slice none 0 0)], boxO bb1 [(.int .i64 a0_0), (.int .i64 a0_1), (.bool a0_2), u0_3, u0_4]]) X_2 S_2 MT_4
    have S_7 : Sep [] h0.size hp4 [ownO (kF .f32) 40 v1 x5.2.2.2.1, ownO (kF .f32) 40 v2 x5.2.2.2.2, boxO bb2 [(.int .i64 0), (.int .i64 0), (.bool false), (.slice none 0 0), (.slice none 0 0)], boxO bb1 [(.int .i64 a0_0), (.int .i64 a0_1), (.bool a0_2), u0_3, u0_4]] := Sep.step (A := []) (L := [boxO bb2 [(.int .i64 0), (.int .i64 0), (.bool false), (.slice none 0 0), (.slice none 0 0)], boxO bb1 [(.int .i64 a0_0), (.int .i64 a0_1), (.bool a0_2), u0_3, u0_4]]) S_2 (Mod.size X_2) MT_4 T_4
    refine RL.op _ (by decide) (opS_boxed (opv_alloc (cs := [(.int .i64 0), (.int .i64 0), (.bool false), (.slice none 0 0), (.slice none 0 0)]) rfl Try.zero29 rfl)) ?_
    rintro _ hp5 ⟨bb3, rfl, MT_5, T_5⟩
    have X_5 : Mod [] h0 hp5 := Mod.step (A := []) (L := [ownO (kF .f32) 40 v1 x5.2.2.2.1, ownO (kF .f32) 40 v2 x5.2.2.2.2, boxO bb2 [(.int .i64 0), (.int .i64 0), (.bool false), (.slice none 0 0), (.slice none 0 0)], boxO bb1 [(.int .i64 a0_0), (.int .i64 a0_1), (.bool a0_2), u0_3, u0_4]]) X_4 S_7 MT_5
    have S_8 : Sep [] h0.size hp5 [boxO bb3 [(.int .i64 0), (.int .i64 0), (.bool false), (.slice none 0 0), (.slice none 0 0)], ownO (kF .f32) 40 v1 x5.2.2.2.1, ownO (kF .f32) 40 v2 x5.2.2.2.2, boxO bb2 [(.int .i64 0), (.int .i64 0), (.bool false), (.slice none 0 0), (.slice none 0 0)], boxO bb1 [(.int .i64 a0_0), (.int .i64 a0_1), (.bool a0_2), u0_3, u0_4]] := Sep.step (A := []) (L := [ownO (kF .f32) 40 v1 x5.2.2.2.1, ownO (kF .f32) 40 v2 x5.2.2.2.2, boxO bb2 [(.int .i64 0), (.int .i64 0), (.bool false), (.slice none 0 0), (.slice none 0 0)], boxO bb1 [(.int .i64 a0_0), (.int .i64 a0_1), (.bool a0_2), u0_3, u0_4]]) S_7 (Mod.size X_4) MT_5 T_5
    refine RL.op0 _ (opS_stored (cs := [(.int .i64 0), (.int .i64 0), (.bool false), (.slice none 0 0), (.slice none 0 0)]) (cs' := [(.int .i64 x5.1), (.int .i64 x5.2.1), (.bool x5.2.2.1), v1, v2]) (opv_storeA (us := [(.int .i64 x5.1), (.int .i64 x5.2.1), (.bool x5.2.2.1), v1, v2]) rfl Try.size29 rfl rfl (oneAll rfl (oneAll rfl (oneAll rfl (oneAll (ownO.one (Sep.at (o := ownO (kF .f32) 40 v1 x5.2.2.2.1) S_8 1 rfl)) (oneAll (ownO.one (Sep.at (o := ownO (kF .f32) 40 v2 x5.2.2.2.2) S_8 2 rfl)) rfl))))) (Sep.at (o := boxO bb3 [(.int .i64 0), (.int .i64 0), (.bool false), (.slice none 0 0), (.slice none 0 0)]) S_8 0 rfl) rfl rfl) (Sep.at (o := boxO bb3 [(.int .i64 0), (.int .i64 0), (.bool false), (.slice none 0 0), (.slice none 0 0)]) S_8 0 rfl)) ?_
    rintro _ hp6 ⟨rfl, MT_6, T_6⟩
    have S_9 : Sep [] h0.size hp5 ([boxO bb3 [(.int .i64 0), (.int .i64 0), (.bool false), (.slice none 0 0), (.slice none 0 0)]] ++ [ownO (kF .f32) 40 v1 x5.2.2.2.1, ownO (kF .f32) 40 v2 x5.2.2.2.2, boxO bb2 [(.int .i64 0), (.int .i64 0), (.bool false), (.slice none 0 0), (.slice none 0 0)], boxO bb1 [(.int .i64 a0_0), (.int .i64 a0_1), (.bool a0_2), u0_3, u0_4]]) := Sep.sel S_8 [0, 1, 2, 3, 4] (by decide)
    have X_6 : Mod [] h0 hp6 := Mod.step (A := [boxO bb3 [(.int .i64 0), (.int .i64 0), (.bool false), (.slice none 0 0), (.slice none 0 0)]]) (L := [ownO (kF .f32) 40 v1 x5.2.2.2.1, ownO (kF .f32) 40 v2 x5.2.2.2.2, boxO bb2 [(.int .i64 0), (.int .i64 0), (.bool false), (.slice none 0 0), (.slice none 0 0)], boxO bb1 [(.int .i64 a0_0), (.int .i64 a0_1), (.bool a0_2), u0_3, u0_4]]) X_5 S_9 MT_6
    have S_10 : Sep [] h0.size hp6 [boxO bb3 [(.int .i64 x5.1), (.int .i64 x5.2.1), (.bool x5.2.2.1), v1, v2], ownO (kF .f32) 40 v1 x5.2.2.2.1, ownO (kF .f32) 40 v2 x5.2.2.2.2, boxO bb2 [(.int .i64 0), (.int .i64 0), (.bool false), (.slice none 0 0), (.slice none 0 0)], boxO bb1 [(.int .i64 a0_0), (.int .i64 a0_1), (.bool a0_2), u0_3, u0_4]] := Sep.step (A := [boxO bb3 [(.int .i64 0), (.int .i64 0), (.bool false), (.slice none 0 0), (.slice none 0 0)]]) (L := [ownO (kF .f32) 40 v1 x5.2.2.2.1, ownO (kF .f32) 40 v2 x5.2.2.2.2, boxO bb2 [(.int .i64 0), (.int .i64 0), (.bool false), (.slice none 0 0), (.slice none 0 0)], boxO bb1 [(.int .i64 a0_0), (.int .i64 a0_1), (.bool a0_2), u0_3, u0_4]]) S_9 (Mod.size X_5) MT_6 T_6
    refine RL.nil ?_
    refine thnN ?_
    refine W.seq ?_
    refine W.seq ?_
    refine W.region ?_
    refine RL.opD (by decide) (opv_assign rfl rfl) ?_
    refine RL.nil ?_
    refine thnN ?_
    obtain ⟨y2, hy2, hp⟩ := Option.bind_eq_some_iff.1 hp
    refine W.cut (fun φ' h' => ∃ x8, ∃ x9, ∃ x10, y2 = (x8, x9, x10) ∧ Fr.sub [(0, (.agg (List.toArray (α := Value) [(.int .i64 a0_0), (.int .i64 a0_1), (.bool a0_2), u0_3, u0_4]))), (1, (.int .i64 a1)), (2, u2), (3, (.pointer (some ⟨bb1, 0, none⟩))), (6, (.pointer (some ⟨bb2, 0, none⟩))), (7, (.bool false)), (32, (.bool x1)), (8, (.pointer (some ⟨bb3, 0, none⟩))), (9, (.int .i64 x8)), (38, (.bool x9))] φ' ∧ Mod [] h0 h' ∧ Sep [] h0.size h' [boxO bb3 [(.int .i64 x5.1), (.int .i64 x5.2.1), (.bool x5.2.2.1), v1, v2], ownO (kF .f32) 40 v1 x10, ownO (kF .f32) 40 v2 x5.2.2.2.2, boxO bb2 [(.int .i64 0), (.int .i64 0), (.bool false), (.slice none 0 0), (.slice none 0 0)], boxO bb1 [(.int .i64 a0_0), (.int .i64 a0_1), (.bool a0_2), u0_3, u0_4]]) ?_ ?_
    · refine W.block ?_
      refine W.loopS (fun (s : (Int × (List (Option Nat)))) φ' h' => Fr.sub [(0, (.agg (List.toArray (α := Value) [(.int .i64 a0_0), (.int .i64 a0_1), (.bool a0_2), u0_3, u0_4]))), (1, (.int .i64 a1)), (2, u2), (3, (.pointer (some ⟨bb1, 0, none⟩))), (6, (.pointer (some ⟨bb2, 0, none⟩))), (7, (.bool false)), (32, (.bool x1)), (8, (.pointer (some ⟨bb3, 0, none⟩))), (9, (.int .i64 s.1))] φ' ∧ Mod [] h0 h' ∧ Sep [] h0.size h' [boxO bb3 [(.int .i64 x5.1), (.int .i64 x5.2.1), (.bool x5.2.2.1), v1, v2], ownO (kF .f32) 40 v1 s.2, ownO (kF .f32) 40 v2 x5.2.2.2.2, boxO bb2 [(.int .i64 0), (.int .i64 0), (.bool false), (.slice none 0 0), (.slice none 0 0)], boxO bb1 [(.int .i64 a0_0), (.int .i64 a0_1), (.bool a0_2), u0_3, u0_4]]) hy2 ⟨⟨rfl, rfl, rfl, rfl, rfl, rfl, rfl, rfl, rfl, trivial⟩, X_6, (Sep.sel S_10 [0, 1, 2, 3, 4] (by decide))⟩ ?_
      rintro ⟨x6, x7⟩ φ' hp7 o1 ⟨hs2, X_7, S_11⟩ ho1 hy1
      have hs2 : Fr.sub [(0, (.agg (List.toArray (α := Value) [(.int .i64 a0_0), (.int .i64 a0_1), (.bool a0_2), u0_3, u0_4]))), (1, (.int .i64 a1)), (2, u2), (3, (.pointer (some ⟨bb1, 0, none⟩))), (6, (.pointer (some ⟨bb2, 0, none⟩))), (7, (.bool false)), (32, (.bool x1)), (8, (.pointer (some ⟨bb3, 0, none⟩))), (9, (.int .i64 x6))] φ' := hs2
      have S_11 : Sep [] h0.size hp7 [boxO bb3 [(.int .i64 x5.1), (.int .i64 x5.2.1), (.bool x5.2.2.1), v1, v2], ownO (kF .f32) 40 v1 x7, ownO (kF .f32) 40 v2 x5.2.2.2.2, boxO bb2 [(.int .i64 0), (.int .i64 0), (.bool false), (.slice none 0 0), (.slice none 0 0)], boxO bb1 [(.int .i64 a0_0), (.int .i64 a0_1), (.bool a0_2), u0_3, u0_4]] := S_11
      have ho1 : spec_SlitSheet.s0 a0_0 a0_1 a1 a2 x6 x7 = some o1 := ho1
      unfold spec_SlitSheet.s0 at ho1
      refine W.sub hs2 ?_
      refine W.seq ?_
      refine W.seq ?_
      refine W.region ?_
      refine RL.opD (by decide) (opv_move rfl rfl) ?_
      refine RL.opD (by decide) (opv_fieldAddr rfl Try.fo29_1 rfl) ?_
      refine RL.opD (by decide) (opv_loadB rfl Try.one2 rfl (Sep.at (o := boxO bb1 [(.int .i64 a0_0), (.int .i64 a0_1), (.bool a0_2), u0_3, u0_4]) S_11 4 rfl) rfl) ?_
      refine RL.opD (by decide) (opv_icmp rfl rfl rfl rfl) ?_
      refine RL.nil ?_
      refine thnN ?_
      by_cases c5 : (decide (x6 < a0_1)) = true
      · rw [if_pos c5] at ho1
        refine W.condT rfl c5 ?_
        refine W.skip ?_
        refine thnN ?_
        refine W.seq ?_
        refine W.block ?_
        refine W.seq ?_
        obtain ⟨x11, hx11, ho1⟩ := Option.bind_eq_some_iff.1 ho1
        refine W.region ?_
        refine RL.opD (by decide) (opv_move rfl rfl) ?_
        refine RL.opD (by decide) (opv_move rfl rfl) ?_
        refine RL.op _ (by decide) (opv_call (cap := []) (spec_l00Has_ok _ _ _ (SL.up (SL.mod g2 X_7 (Nat.le_refl _) nob) (Nat.le_trans (Nat.le_refl _) (Mod.size X_7))) _ _ hx11) rfl rfl ⟨rfl, rfl, trivial⟩ Try.func117 rfl rfl) ?_
        rintro _ _ ⟨rfl, rfl⟩
        refine RL.opD (by decide) (opv_not rfl rfl) ?_
        refine RL.nil ?_
        refine thnN ?_
        obtain ⟨x12, hy3, ho1⟩ := Option.bind_eq_some_iff.1 ho1
        refine W.cut (fun φ' h' => Fr.sub [(0, (.agg (List.toArray (α := Value) [(.int .i64 a0_0), (.int .i64 a0_1), (.bool a0_2), u0_3, u0_4]))), (1, (.int .i64 a1)), (2, u2), (3, (.pointer (some ⟨bb1, 0, none⟩))), (6, (.pointer (some ⟨bb2, 0, none⟩))), (7, (.bool false)), (32, (.bool x1)), (8, (.pointer (some ⟨bb3, 0, none⟩))), (9, (.int .i64 x6)), (38, (.bool (decide (x6 < a0_1)))), (44, (.bool (!x11)))] φ' ∧ Mod [] h0 h' ∧ Sep [] h0.size h' [boxO bb3 [(.int .i64 x5.1), (.int .i64 x5.2.1), (.bool x5.2.2.1), v1, v2], ownO (kF .f32) 40 v1 x12, ownO (kF .f32) 40 v2 x5.2.2.2.2, boxO bb2 [(.int .i64 0), (.int .i64 0), (.bool false), (.slice none 0 0), (.slice none 0 0)], boxO bb1 [(.int .i64 a0_0), (.int .i64 a0_1), (.bool a0_2), u0_3, u0_4]]) ?_ ?_
        · by_cases c6 : (!x11) = true
          · rw [if_pos c6] at hy3
            refine W.condT rfl c6 ?_
            obtain ⟨x13, hx13, hy3⟩ := Option.bind_eq_some_iff.1 hy3
            obtain ⟨x14, hx14, hy3⟩ := Option.bind_eq_some_iff.1 hy3
            refine W.region ?_
            refine RL.opD (by decide) (opv_fieldAddr rfl Try.fo29_3 rfl) ?_
            refine RL.opD (by decide) (opv_loadB rfl Try.one22 rfl (Sep.at (o := boxO bb3 [(.int .i64 x5.1), (.int .i64 x5.2.1), (.bool x5.2.2.1), v1, v2]) S_11 0 rfl) rfl) ?_
            refine RL.opD (by decide) (opv_move rfl rfl) ?_
            refine RL.opD (by decide) (opv_fieldAddr rfl Try.fo29_0 rfl) ?_
            refine RL.opD (by decide) (opv_loadB rfl Try.one2 rfl (Sep.at (o := boxO bb1 [(.int .i64 a0_0), (.int .i64 a0_1), (.bool a0_2), u0_3, u0_4]) S_11 4 rfl) rfl) ?_
            refine RL.opD (by decide) (opv_move rfl rfl) ?_
            refine RL.opD (by decide) (opv_mul rfl rfl rfl) ?_
            refine RL.opD (by decide) (opv_add rfl rfl rfl) ?_
            refine RL.op _ (by decide) (opv_index rfl Try.underlying22 (by rw [Try.size40]; rfl) rfl rfl (ownO.read (Sep.at (o := ownO (kF .f32) 40 v1 x7) S_11 1 rfl)) hx13) ?_
            rintro v3 _ ⟨fv3, rfl⟩
            refine RL.op0 _ (opS_storeE (K := (kF .f32)) rfl Try.size40 rfl rfl fv3 rfl ⟨_, rfl, (isF_lit .f32 0 (by decide) (by decide))⟩ hx14 (Sep.at (o := ownO (kF .f32) 40 v1 x7) S_11 1 rfl)) ?_
            rintro _ hp8 ⟨rfl, MT_7, T_7⟩
            have S_12 : Sep [] h0.size hp7 ([ownO (kF .f32) 40 v1 x7] ++ [boxO bb3 [(.int .i64 x5.1), (.int .i64 x5.2.1), (.bool x5.2.2.1), v1, v2], ownO (kF .f32) 40 v2 x5.2.2.2.2, boxO bb2 [(.int .i64 0), (.int .i64 0), (.bool false), (.slice none 0 0), (.slice none 0 0)], boxO bb1 [(.int .i64 a0_0), (.int .i64 a0_1), (.bool a0_2), u0_3, u0_4]]) := Sep.sel S_11 [1, 0, 2, 3, 4] (by decide)
            have X_8 : Mod [] h0 hp8 := Mod.step (A := [ownO (kF .f32) 40 v1 x7]) (L := [boxO bb3 [(.int .i64 x5.1), (.int .i64 x5.2.1), (.bool x5.2.2.1), v1, v2], ownO (kF .f32) 40 v2 x5.2.2.2.2, boxO bb2 [(.int .i64 0), (.int .i64 0), (.bool false), (.slice none 0 0), (.slice none 0 0)], boxO bb1 [(.int .i64 a0_0), (.int .i64 a0_1), (.bool a0_2), u0_3, u0_4]]) X_7 S_12 MT_7
            have S_13 : Sep [] h0.size hp8 [ownO (kF .f32) 40 v1 x14, boxO bb3 [(.int .i64 x5.1), (.int .i64 x5.2.1), (.bool x5.2.2.1), v1, v2], ownO (kF .f32) 40 v2 x5.2.2.2.2, boxO bb2 [(.int .i64 0), (.int .i64 0), (.bool false), (.slice none 0 0), (.slice none 0 0)], boxO bb1 [(.int .i64 a0_0), (.int .i64 a0_1), (.bool a0_2), u0_3, u0_4]] := Sep.step (A := [ownO (kF .f32) 40 v1 x7]) (L := [boxO bb3 [(.int .i64 x5.1), (.int .i64 x5.2.1), (.bool x5.2.2.1), v1, v2], ownO (kF .f32) 40 v2 x5.2.2.2.2, boxO bb2 [(.int .i64 0), (.int .i64 0), (.bool false), (.slice none 0 0), (.slice none 0 0)], boxO bb1 [(.int .i64 a0_0), (.int .i64 a0_1), (.bool a0_2), u0_3, u0_4]]) S_12 (Mod.size X_7) MT_7 T_7
            refine RL.nil ?_
            have ey3 := Option.some.inj hy3
            subst ey3
            refine onlyN ?_
            exact ⟨⟨rfl, rfl, rfl, rfl, rfl, rfl, rfl, rfl, rfl, rfl, rfl, trivial⟩, X_8, (Sep.sel S_13 [1, 0, 2, 3, 4] (by decide))⟩
          · rw [if_neg c6] at hy3
            have c6 := eq_false_of_ne_true c6
            refine W.condF rfl c6 ?_
            refine W.skip ?_
            have ey3 := Option.some.inj hy3
            subst ey3
            refine onlyN ?_
            exact ⟨⟨rfl, rfl, rfl, rfl, rfl, rfl, rfl, rfl, rfl, rfl, rfl, trivial⟩, X_7, (Sep.sel S_11 [0, 1, 2, 3, 4] (by decide))⟩
        rintro φ' hp9 ⟨hs4, X_9, S_14⟩
        refine blkN ?_
        refine thnN ?_
        refine W.sub hs4 ?_
        refine W.region ?_
        refine RL.opD (by decide) (opv_move rfl rfl) ?_
        refine RL.opD (by decide) (opv_add rfl rfl rfl) ?_
        refine RL.opD (by decide) (opv_assign rfl rfl) ?_
        refine RL.nil ?_
        have eo1 := Option.some.inj ho1
        subst eo1
        refine rndN (s' := (IntKind.wrap .i64 (x6 + 1), x12)) rfl ?_
        exact ⟨⟨rfl, rfl, rfl, rfl, rfl, rfl, rfl, rfl, rfl, trivial⟩, X_9, (Sep.sel S_14 [0, 1, 2, 3, 4] (by decide))⟩
      · rw [if_neg c5] at ho1
        have c5 := eq_false_of_ne_true c5
        refine W.condF rfl c5 ?_
        refine W.exit ?_
        refine thnX ?_
        refine rndX ?_
        refine blkI ?_
        have eo1 := Option.some.inj ho1
        subst eo1
        have ey2 := hy1 _ rfl
        subst ey2
        refine onlyN ?_
        exact ⟨x6, decide (x6 < a0_1), x7, rfl, ⟨rfl, rfl, rfl, rfl, rfl, rfl, rfl, rfl, rfl, rfl, trivial⟩, X_7, (Sep.sel S_11 [0, 1, 2, 3, 4] (by decide))⟩
    rintro φ' hp10 ⟨x8, x9, x10, rfl, hs3, X_10, S_15⟩
    try dsimp only at hp
    refine thnN ?_
    refine W.sub hs3 ?_
    refine W.seq ?_
    refine W.region ?_
    refine RL.opD (by decide) (opv_loadA (us := [(.int .i64 x5.1), (.int .i64 x5.2.1), (.bool x5.2.2.1), v1, v2]) rfl Try.agg29 Try.size29 rfl (Sep.at (o := boxO bb3 [(.int .i64 x5.1), (.int .i64 x5.2.1), (.bool x5.2.2.1), v1, v2]) S_15 0 rfl) rfl rfl) ?_
    refine RL.op0 _ (opS_stored (cs := [(.int .i64 0), (.int .i64 0), (.bool false), (.slice none 0 0), (.slice none 0 0)]) (cs' := [(.int .i64 x5.1), (.int .i64 x5.2.1), (.bool x5.2.2.1), v1, v2]) (opv_storeA (us := [(.int .i64 x5.1), (.int .i64 x5.2.1), (.bool x5.2.2.1), v1, v2]) rfl Try.size29 rfl rfl (oneAll rfl (oneAll rfl (oneAll rfl (oneAll (ownO.one (Sep.at (o := ownO (kF .f32) 40 v1 x10) S_15 1 rfl)) (oneAll (ownO.one (Sep.at (o := ownO (kF .f32) 40 v2 x5.2.2.2.2) S_15 2 rfl)) rfl))))) (Sep.at (o := boxO bb2 [(.int .i64 0), (.int .i64 0), (.bool false), (.slice none 0 0), (.slice none 0 0)]) S_15 3 rfl) rfl rfl) (Sep.at (o := boxO bb2 [(.int .i64 0), (.int .i64 0), (.bool false), (.slice none 0 0), (.slice none 0 0)]) S_15 3 rfl)) ?_
    rintro _ hp11 ⟨rfl, MT_8, T_8⟩
    have S_16 : Sep [] h0.size hp10 ([boxO bb2 [(.int .i64 0), (.int .i64 0), (.bool false), (.slice none 0 0), (.slice none 0 0)]] ++ [boxO bb3 [(.int .i64 x5.1), (.int .i64 x5.2.1), (.bool x5.2.2.1), v1, v2], ownO (kF .f32) 40 v1 x10, ownO (kF .f32) 40 v2 x5.2.2.2.2, boxO bb1 [(.int .i64 a0_0), (.int .i64 a0_1), (.bool a0_2), u0_3, u0_4]]) := Sep.sel S_15 [3, 0, 1, 2, 4] (by decide)
    have X_11 : Mod [] h0 hp11 := Mod.step (A := [boxO bb2 [(.int .i64 0), (.int .i64 0), (.bool false), (.slice none 0 0), (.slice none 0 0)]]) (L := [boxO bb3 [(.int .i64 x5.1), (.int .i64 x5.2.1), (.bool x5.2.2.1), v1, v2], ownO (kF .f32) 40 v1 x10, ownO (kF .f32) 40 v2 x5.2.2.2.2, boxO bb1 [(.int .i64 a0_0), (.int .i64 a0_1), (.bool a0_2), u0_3, u0_4]]) X_10 S_16 MT_8
    have S_17 : Sep [] h0.size hp11 [boxO bb2 [(.int .i64 x5.1), (.int .i64 x5.2.1), (.bool x5.2.2.1), v1, v2], boxO bb3 [(.int .i64 x5.1), (.int .i64 x5.2.1), (.bool x5.2.2.1), v1, v2], ownO (kF .f32) 40 v1 x10, ownO (kF .f32) 40 v2 x5.2.2.2.2, boxO bb1 [(.int .i64 a0_0), (.int .i64 a0_1), (.bool a0_2), u0_3, u0_4]] := Sep.step (A := [boxO bb2 [(.int .i64 0), (.int .i64 0), (.bool false), (.slice none 0 0), (.slice none 0 0)]]) (L := [boxO bb3 [(.int .i64 x5.1), (.int .i64 x5.2.1), (.bool x5.2.2.1), v1, v2], ownO (kF .f32) 40 v1 x10, ownO (kF .f32) 40 v2 x5.2.2.2.2, boxO bb1 [(.int .i64 a0_0), (.int .i64 a0_1), (.bool a0_2), u0_3, u0_4]]) S_16 (Mod.size X_10) MT_8 T_8
    refine RL.opD (by decide) (opv_assign rfl rfl) ?_
    refine RL.nil ?_
    refine thnN ?_
    refine W.ret ?_
    have er := Option.some.inj hp
    subst er
    exact Rt.cellA rfl rfl rfl Try.agg29 Try.size29 (Sep.at (o := boxO bb2 [(.int .i64 x5.1), (.int .i64 x5.2.1), (.bool x5.2.2.1), v1, v2]) S_17 0 rfl) rfl ⟨v1, v2, rfl, X_11, (Sep.sel S_17 [2, 3] (by decide))⟩

set_option maxRecDepth 20000 in
theorem impl_SlitSheet_1_ok (h0 : Heap) (lo : Nat) (hlo : lo ≤ h0.size) (a0 : Int) (a1 : Int) (a2 : Int) (be0 : Nat) (ae0_0 : Int) (be1 : Nat) (re1_0 : Nat) (ae1_0 : List (Int × Bool)) (be2 : Nat) (ae2_0 : Int) (ae2_1 : Int) (ae2_2 : Bool) (ue2_3 : Value) (ae2_3 : List (Option Nat)) (ue2_4 : Value) (ae2_4 : List (Option Nat)) (S0 : Sep [some be0, some be1, some re1_0, some be2, ue2_3.ownBlock, ue2_4.ownBlock] h0.size h0 [boxO be0 [(.int .i64 ae0_0)], boxO be1 [(.map (some re1_0))], mapO re1_0 ae1_0, boxO be2 [(.int .i64 ae2_0), (.int .i64 ae2_1), (.bool ae2_2), ue2_3, ue2_4], ownO (kF .f32) 40 ue2_3 ae2_3, ownO (kF .f32) 40 ue2_4 ae2_4]) (hB : ∀ b, some b ∈ [some be0, some be1, some re1_0, some be2, ue2_3.ownBlock, ue2_4.ownBlock] → lo ≤ b) (r : (Int × (List (Int × Bool)) × Int × Int × Bool × (List (Option Nat)) × (List (Option Nat)))) (hp : impl_SlitSheet_1 a0 a1 a2 ae0_0 ae1_0 ae2_0 ae2_1 ae2_2 ae2_3 ae2_4 = some r) : CallsH Try.prog 119 ([(.int .i64 a0), (.int .i64 a1), (.int .i64 a2)].toArray ++ [(.pointer (some ⟨be0, 0, none⟩)), (.pointer (some ⟨be1, 0, none⟩)), (.pointer (some ⟨be2, 0, none⟩))].toArray) h0 (fun v h' => v = (.tuple (List.toArray (α := Value) [])) ∧ Mod [some be0, some be1, some re1_0, some be2, ue2_3.ownBlock, ue2_4.ownBlock] h0 h' ∧ Sep [some be0, some be1, some re1_0, some be2, ue2_3.ownBlock, ue2_4.ownBlock] h0.size h' [boxO be0 [(.int .i64 r.1)], boxO be1 [(.map (some re1_0))], mapO re1_0 r.2.1, boxO be2 [(.int .i64 r.2.2.1), (.int .i64 r.2.2.2.1), (.bool r.2.2.2.2.1), ue2_3, ue2_4], ownO (kF .f32) 40 ue2_3 r.2.2.2.2.2.1, ownO (kF .f32) 40 ue2_4 r.2.2.2.2.2.2]) := by
  unfold impl_SlitSheet_1 at hp
  refine callsH_of_W (l := [(.int .i64 a0), (.int .i64 a1), (.int .i64 a2)]) (cap := [(.pointer (some ⟨be0, 0, none⟩)), (.pointer (some ⟨be1, 0, none⟩)), (.pointer (some ⟨be2, 0, none⟩))]) 22 Try.func119 rfl rfl rfl ?_
  refine W.seq ?_
  obtain ⟨x1, hy1, hp⟩ := Option.bind_eq_some_iff.1 hp
  refine W.cut (fun φ' h' => Fr.sub [(0, (.int .i64 a0)), (1, (.int .i64 a1)), (2, (.int .i64 a2)), (3, (.pointer (some ⟨be0, 0, none⟩))), (4, (.pointer (some ⟨be1, 0, none⟩))), (5, (.pointer (some ⟨be2, 0, none⟩))), (17, (.bool x1))] φ' ∧ h0 = h') ?_ ?_
  · by_cases c1 : (a0 == ae0_0) = true
    · rw [if_pos c1] at hy1
      refine W.region ?_
      refine RL.opD (by decide) (opv_move rfl rfl) ?_
      refine RL.opD (by decide) (opv_loadB rfl Try.one2 rfl (Sep.at (o := boxO be0 [(.int .i64 ae0_0)]) S0 0 rfl) rfl) ?_
      refine RL.opD (by decide) (opv_icmp rfl rfl rfl rfl) ?_
      refine RL.opD (by decide) (opv_move rfl rfl) ?_
      refine RL.yes _ rfl rfl c1 (by decide) (opv_loadB rfl Try.one132 rfl (Sep.at (o := boxO be1 [(.map (some re1_0))]) S0 1 rfl) rfl) ?_
      rintro _ _ ⟨rfl, rfl⟩
      refine RL.yes _ rfl rfl c1 (by decide) (opv_move rfl rfl) ?_
      rintro _ _ ⟨rfl, rfl⟩
      refine RL.yes _ rfl rfl c1 (by decide) (opv_lookup rfl Try.underlying132 Try.underlying2 Try.zero4 rfl rfl (Sep.at (o := mapO re1_0 ae1_0) S0 2 rfl)) ?_
      rintro _ _ ⟨rfl, rfl⟩
      refine RL.yes _ rfl rfl c1 (by decide) (opv_not rfl rfl) ?_
      rintro _ _ ⟨rfl, rfl⟩
      refine RL.opD (by decide) (opv_pick rfl rfl (fun _ => rfl) (fun e => absurd (Eq.trans (Eq.symm e) c1) (by decide)) rfl) ?_
      refine RL.nil ?_
      have ey1 := Option.some.inj hy1
      subst ey1
      refine onlyN ?_
      exact ⟨⟨rfl, rfl, rfl, rfl, rfl, rfl, rfl, trivial⟩, rfl⟩
    · rw [if_neg c1] at hy1
      have c1 := eq_false_of_ne_true c1
      refine W.region ?_
      refine RL.opD (by decide) (opv_move rfl rfl) ?_
      refine RL.opD (by decide) (opv_loadB rfl Try.one2 rfl (Sep.at (o := boxO be0 [(.int .i64 ae0_0)]) S0 0 rfl) rfl) ?_
      refine RL.opD (by decide) (opv_icmp rfl rfl rfl rfl) ?_
      refine RL.opD (by decide) (opv_move rfl rfl) ?_
      refine RL.no rfl rfl (Eq.trans c1 (by decide)) (by decide) ?_
      refine RL.no rfl rfl (Eq.trans c1 (by decide)) (by decide) ?_
      refine RL.no rfl rfl (Eq.trans c1 (by decide)) (by decide) ?_
      refine RL.no rfl rfl (Eq.trans c1 (by decide)) (by decide) ?_
      refine RL.opD (by decide) (opv_pick rfl rfl (fun e => absurd (Eq.trans (Eq.symm e) c1) (by decide)) (fun _ => rfl) rfl) ?_
      refine RL.nil ?_
      have ey1 := Option.some.inj hy1
      subst ey1
      refine onlyN ?_
      exact ⟨⟨rfl, rfl, rfl, rfl, rfl, rfl, rfl, trivial⟩, rfl⟩
  rintro φ' _ ⟨hs1, rfl⟩
  refine thnN ?_
  refine W.sub hs1 ?_
  obtain ⟨x2, hy2, hp⟩ := Option.bind_eq_some_iff.1 hp
  refine W.cut (fun φ' h' => Fr.sub [(0, (.int .i64 a0)), (1, (.int .i64 a1)), (2, (.int .i64 a2)), (3, (.pointer (some ⟨be0, 0, none⟩))), (4, (.pointer (some ⟨be1, 0, none⟩))), (5, (.pointer (some ⟨be2, 0, none⟩))), (17, (.bool x1))] φ' ∧ Mod [some be0, some be1, some re1_0, some be2, ue2_3.ownBlock, ue2_4.ownBlock] h0 h' ∧ Sep [some be0, some be1, some re1_0, some be2, ue2_3.ownBlock, ue2_4.ownBlock] h0.size h' [boxO be0 [(.int .i64 ae0_0)], boxO be1 [(.map (some re1_0))], mapO re1_0 ae1_0, boxO be2 [(.int .i64 ae2_0), (.int .i64 ae2_1), (.bool ae2_2), ue2_3, ue2_4], ownO (kF .f32) 40 ue2_3 x2, ownO (kF .f32) 40 ue2_4 ae2_4]) ?_ ?_
  · by_cases c2 : x1 = true
    · rw [if_pos c2] at hy2
      refine W.condT rfl c2 ?_
      obtain ⟨x3, hx3, hy2⟩ := Option.bind_eq_some_iff.1 hy2
      obtain ⟨x4, hx4, hy2⟩ := Option.bind_eq_some_iff.1 hy2
      refine W.region ?_
      refine RL.opD (by decide) (opv_fieldAddr rfl Try.fo29_3 rfl) ?_
      refine RL.opD (by decide) (opv_loadB rfl Try.one22 rfl (Sep.at (o := boxO be2 [(.int .i64 ae2_0), (.int .i64 ae2_1), (.bool ae2_2), ue2_3, ue2_4]) S0 3 rfl) rfl) ?_
      refine RL.opD (by decide) (opv_move rfl rfl) ?_
      refine RL.op _ (by decide) (opv_index rfl Try.underlying22 (by rw [Try.size40]; rfl) rfl rfl (ownO.read (Sep.at (o := ownO (kF .f32) 40 ue2_3 ae2_3) S0 4 rfl)) hx3) ?_
      rintro v1 _ ⟨fv1, rfl⟩
      refine RL.op0 _ (opS_storeE (K := (kF .f32)) rfl Try.size40 rfl rfl fv1 rfl ⟨_, rfl, (isF_lit .f32 0 (by decide) (by decide))⟩ hx4 (Sep.at (o := ownO (kF .f32) 40 ue2_3 ae2_3) S0 4 rfl)) ?_
      rintro _ hp1 ⟨rfl, MT_1, T_1⟩
      have S_1 : Sep [some be0, some be1, some re1_0, some be2, ue2_3.ownBlock, ue2_4.ownBlock] h0.size h0 ([ownO (kF .f32) 40 ue2_3 ae2_3] ++ [boxO be0 [(.int .i64 ae0_0)], boxO be1 [(.map (some re1_0))], mapO re1_0 ae1_0, boxO be2 [(.int .i64 ae2_0), (.int .i64 ae2_1), (.bool ae2_2), ue2_3, ue2_4], ownO (kF .f32) 40 ue2_4 ae2_4]) := Sep.sel S0 [4, 0, 1, 2, 3, 5] (by decide)
      have X_1 : Mod [some be0, some be1, some re1_0, some be2, ue2_3.ownBlock, ue2_4.ownBlock] h0 hp1 := Mod.step (A := [ownO (kF .f32) 40 ue2_3 ae2_3]) (L := [boxO be0 [(.int .i64 ae0_0)], boxO be1 [(.map (some re1_0))], mapO re1_0 ae1_0, boxO be2 [(.int .i64 ae2_0), (.int .i64 ae2_1), (.bool ae2_2), ue2_3, ue2_4], ownO (kF .f32) 40 ue2_4 ae2_4]) (Mod.refl [some be0, some be1, some re1_0, some be2, ue2_3.ownBlock, ue2_4.ownBlock] h0) S_1 MT_1
      have S_2 : Sep [some be0, some be1, some re1_0, some be2, ue2_3.ownBlock, ue2_4.ownBlock] h0.size hp1 [ownO (kF .f32) 40 ue2_3 x4, boxO be0 [(.int .i64 ae0_0)], boxO be1 [(.map (some re1_0))], mapO re1_0 ae1_0, boxO be2 [(.int .i64 ae2_0), (.int .i64 ae2_1), (.bool ae2_2), ue2_3, ue2_4], ownO (kF .f32) 40 ue2_4 ae2_4] := Sep.step (A := [ownO (kF .f32) 40 ue2_3 ae2_3]) (L := [boxO be0 [(.int .i64 ae0_0)], boxO be1 [(.map (some re1_0))], mapO re1_0 ae1_0, boxO be2 [(.int .i64 ae2_0), (.int .i64 ae2_1), (.bool ae2_2), ue2_3, ue2_4], ownO (kF .f32) 40 ue2_4 ae2_4]) S_1 (Mod.size (Mod.refl [some be0, some be1, some re1_0, some be2, ue2_3.ownBlock, ue2_4.ownBlock] h0)) MT_1 T_1
      refine RL.nil ?_
      have ey2 := Option.some.inj hy2
      subst ey2
      refine onlyN ?_
      exact ⟨⟨rfl, rfl, rfl, rfl, rfl, rfl, rfl, trivial⟩, X_1, (Sep.sel S_2 [1, 2, 3, 4, 0, 5] (by decide))⟩
    · rw [if_neg c2] at hy2
      have c2 := eq_false_of_ne_true c2
      refine W.condF rfl c2 ?_
      refine W.skip ?_
      have ey2 := Option.some.inj hy2
      subst ey2
      refine onlyN ?_
      exact ⟨⟨rfl, rfl, rfl, rfl, rfl, rfl, rfl, trivial⟩, (Mod.refl [some be0, some be1, some re1_0, some be2, ue2_3.ownBlock, ue2_4.ownBlock] h0), (Sep.sel S0 [0, 1, 2, 3, 4, 5] (by decide))⟩
  rintro φ' hp2 ⟨hs2, X_2, S_3⟩
  have er := Option.some.inj hp
  subst er
  exact Rt.none' rfl ⟨rfl, X_2, (Sep.sel S_3 [0, 1, 2, 3, 4, 5] (by decide))⟩

set_option maxRecDepth 20000 in
theorem impl_Sheet_each__impl_SlitSheet_1_ok (h0 : Heap) (lo : Nat) (hlo : lo ≤ h0.size) (a0_0 : Int) (a0_1 : Int) (a0_2 : Bool) (u0_3 : Value) (a0_3 : List (Option Nat)) (g0_3 : SL (kF .f32) lo h0 u0_3 a0_3) (u0_4 : Value) (a0_4 : List (Option Nat)) (g0_4 : SL (kF .f32) lo h0 u0_4 a0_4) (be0 : Nat) (ae0_0 : Int) (be1 : Nat) (re1_0 : Nat) (ae1_0 : List (Int × Bool)) (be2 : Nat) (ae2_0 : Int) (ae2_1 : Int) (ae2_2 : Bool) (ue2_3 : Value) (ae2_3 : List (Option Nat)) (ue2_4 : Value) (ae2_4 : List (Option Nat)) (S0 : Sep [some be0, some be1, some re1_0, some be2, ue2_3.ownBlock, ue2_4.ownBlock] h0.size h0 [boxO be0 [(.int .i64 ae0_0)], boxO be1 [(.map (some re1_0))], mapO re1_0 ae1_0, boxO be2 [(.int .i64 ae2_0), (.int .i64 ae2_1), (.bool ae2_2), ue2_3, ue2_4], ownO (kF .f32) 40 ue2_3 ae2_3, ownO (kF .f32) 40 ue2_4 ae2_4]) (hB : ∀ b, some b ∈ [some be0, some be1, some re1_0, some be2, ue2_3.ownBlock, ue2_4.ownBlock] → lo ≤ b) (r : (Int × (List (Int × Bool)) × Int × Int × Bool × (List (Option Nat)) × (List (Option Nat)))) (hp : impl_Sheet_each__impl_SlitSheet_1 a0_0 a0_1 a0_2 a0_3 a0_4 ae0_0 ae1_0 ae2_0 ae2_1 ae2_2 ae2_3 ae2_4 = some r) : CallsH Try.prog 99 ([(.agg (List.toArray (α := Value) [(.int .i64 a0_0), (.int .i64 a0_1), (.bool a0_2), u0_3, u0_4])), (.func (.func 119) #[] [(.pointer (some ⟨be0, 0, none⟩)), (.pointer (some ⟨be1, 0, none⟩)), (.pointer (some ⟨be2, 0, none⟩))].toArray)].toArray ++ [].toArray) h0 (fun v h' => v = (.tuple (List.toArray (α := Value) [])) ∧ Mod [some be0, some be1, some re1_0, some be2, ue2_3.ownBlock, ue2_4.ownBlock] h0 h' ∧ Sep [some be0, some be1, some re1_0, some be2, ue2_3.ownBlock, ue2_4.ownBlock] h0.size h' [boxO be0 [(.int .i64 r.1)], boxO be1 [(.map (some re1_0))], mapO re1_0 r.2.1, boxO be2 [(.int .i64 r.2.2.1), (.int .i64 r.2.2.2.1), (.bool r.2.2.2.2.1), ue2_3, ue2_4], ownO (kF .f32) 40 ue2_3 r.2.2.2.2.2.1, ownO (kF .f32) 40 ue2_4 r.2.2.2.2.2.2]) := by
  unfold impl_Sheet_each__impl_SlitSheet_1 at hp
  refine callsH_of_W (l := [(.agg (List.toArray (α := Value) [(.int .i64 a0_0), (.int .i64 a0_1), (.bool a0_2), u0_3, u0_4])), (.func (.func 119) #[] [(.pointer (some ⟨be0, 0, none⟩)), (.pointer (some ⟨be1, 0, none⟩)), (.pointer (some ⟨be2, 0, none⟩))].toArray)]) (cap := []) 26 Try.func99 rfl rfl rfl ?_
  refine W.seq ?_
  refine W.region ?_
  refine RL.op _ (by decide) (opS_boxed (opv_boxA (cs := [(.int .i64 a0_0), (.int .i64 a0_1), (.bool a0_2), u0_3, u0_4]) rfl rfl)) ?_
  rintro _ hp1 ⟨bb1, rfl, MT_1, T_1⟩
  have X_1 : Mod [some be0, some be1, some re1_0, some be2, ue2_3.ownBlock, ue2_4.ownBlock] h0 hp1 := Mod.step (A := []) (L := [boxO be0 [(.int .i64 ae0_0)], boxO be1 [(.map (some re1_0))], mapO re1_0 ae1_0, boxO be2 [(.int .i64 ae2_0), (.int .i64 ae2_1), (.bool ae2_2), ue2_3, ue2_4], ownO (kF .f32) 40 ue2_3 ae2_3, ownO (kF .f32) 40 ue2_4 ae2_4]) (Mod.refl [some be0, some be1, some re1_0, some be2, ue2_3.ownBlock, ue2_4.ownBlock] h0) S0 MT_1
  have S_1 : Sep [some be0, some be1, some re1_0, some be2, ue2_3.ownBlock, ue2_4.ownBlock] h0.size hp1 [boxO bb1 [(.int .i64 a0_0), (.int .i64 a0_1), (.bool a0_2), u0_3, u0_4], boxO be0 [(.int .i64 ae0_0)], boxO be1 [(.map (some re1_0))], mapO re1_0 ae1_0, boxO be2 [(.int .i64 ae2_0), (.int .i64 ae2_1), (.bool ae2_2), ue2_3, ue2_4], ownO (kF .f32) 40 ue2_3 ae2_3, ownO (kF .f32) 40 ue2_4 ae2_4] := Sep.step (A := []) (L := [boxO be0 [(.int .i64 ae0_0)], boxO be1 [(.map (some re1_0))], mapO re1_0 ae1_0, boxO be2 [(.int .i64 ae2_0), (.int .i64 ae2_1), (.bool ae2_2), ue2_3, ue2_4], ownO (kF .f32) 40 ue2_3 ae2_3, ownO (kF .f32) 40 ue2_4 ae2_4]) S0 (Mod.size (Mod.refl [some be0, some be1, some re1_0, some be2, ue2_3.ownBlock, ue2_4.ownBlock] h0)) MT_1 T_1
  refine RL.nil ?_
  refine thnN ?_
  refine W.seq ?_
  refine W.region ?_
  refine RL.opD (by decide) (opv_fieldAddr rfl Try.fo29_1 rfl) ?_
  refine RL.opD (by decide) (opv_loadB rfl Try.one2 rfl (Sep.at (o := boxO bb1 [(.int .i64 a0_0), (.int .i64 a0_1), (.bool a0_2), u0_3, u0_4]) S_1 0 rfl) rfl) ?_
  refine RL.opD (by decide) (opv_move rfl rfl) ?_
  refine RL.nil ?_
  refine thnN ?_
  obtain ⟨y1, hy1, hp⟩ := Option.bind_eq_some_iff.1 hp
  refine W.cut (fun φ' h' => ∃ x9, ∃ x10, ∃ x11, ∃ x12, ∃ x13, ∃ x14, ∃ x15, ∃ x16, ∃ x17, y1 = (x9, x10, x11, x12, x13, x14, x15, x16, x17) ∧ Fr.sub [(0, (.agg (List.toArray (α := Value) [(.int .i64 a0_0), (.int .i64 a0_1), (.bool a0_2), u0_3, u0_4]))), (1, (.func (.func 119) #[] [(.pointer (some ⟨be0, 0, none⟩)), (.pointer (some ⟨be1, 0, none⟩)), (.pointer (some ⟨be2, 0, none⟩))].toArray)), (2, (.pointer (some ⟨bb1, 0, none⟩))), (7, (.int .i64 a0_1)), (8, (.int .i64 x9)), (9, (.bool x10))] φ' ∧ Mod [some be0, some be1, some re1_0, some be2, ue2_3.ownBlock, ue2_4.ownBlock] h0 h' ∧ Sep [some be0, some be1, some re1_0, some be2, ue2_3.ownBlock, ue2_4.ownBlock] h0.size h' [boxO bb1 [(.int .i64 a0_0), (.int .i64 a0_1), (.bool a0_2), u0_3, u0_4], boxO be0 [(.int .i64 x11)], boxO be1 [(.map (some re1_0))], mapO re1_0 x12, boxO be2 [(.int .i64 x13), (.int .i64 x14), (.bool x15), ue2_3, ue2_4], ownO (kF .f32) 40 ue2_3 x16, ownO (kF .f32) 40 ue2_4 x17]) ?_ ?_
  · refine W.block ?_
    refine W.loopS (fun (s : (Int × Int × (List (Int × Bool)) × Int × Int × Bool × (List (Option Nat)) × (List (Option Nat)))) φ' h' => Fr.sub [(0, (.agg (List.toArray (α := Value) [(.int .i64 a0_0), (.int .i64 a0_1), (.bool a0_2), u0_3, u0_4]))), (1, (.func (.func 119) #[] [(.pointer (some ⟨be0, 0, none⟩)), (.pointer (some ⟨be1, 0, none⟩)), (.pointer (some ⟨be2, 0, none⟩))].toArray)), (2, (.pointer (some ⟨bb1, 0, none⟩))), (7, (.int .i64 a0_1)), (8, (.int .i64 s.1))] φ' ∧ Mod [some be0, some be1, some re1_0, some be2, ue2_3.ownBlock, ue2_4.ownBlock] h0 h' ∧ Sep [some be0, some be1, some re1_0, some be2, ue2_3.ownBlock, ue2_4.ownBlock] h0.size h' [boxO bb1 [(.int .i64 a0_0), (.int .i64 a0_1), (.bool a0_2), u0_3, u0_4], boxO be0 [(.int .i64 s.2.1)], boxO be1 [(.map (some re1_0))], mapO re1_0 s.2.2.1, boxO be2 [(.int .i64 s.2.2.2.1), (.int .i64 s.2.2.2.2.1), (.bool s.2.2.2.2.2.1), ue2_3, ue2_4], ownO (kF .f32) 40 ue2_3 s.2.2.2.2.2.2.1, ownO (kF .f32) 40 ue2_4 s.2.2.2.2.2.2.2]) hy1 ⟨⟨rfl, rfl, rfl, rfl, rfl, trivial⟩, X_1, (Sep.sel S_1 [0, 1, 2, 3, 4, 5, 6] (by decide))⟩ ?_
    rintro ⟨x1, x2, x3, x4, x5, x6, x7, x8⟩ φ' hp2 o1 ⟨hs1, X_2, S_2⟩ ho1 hy1
    have hs1 : Fr.sub [(0, (.agg (List.toArray (α := Value) [(.int .i64 a0_0), (.int .i64 a0_1), (.bool a0_2), u0_3, u0_4]))), (1, (.func (.func 119) #[] [(.pointer (some ⟨be0, 0, none⟩)), (.pointer (some ⟨be1, 0, none⟩)), (.pointer (some ⟨be2, 0, none⟩))].toArray)), (2, (.pointer (some ⟨bb1, 0, none⟩))), (7, (.int .i64 a0_1)), (8, (.int .i64 x1))] φ' := hs1
    have S_2 : Sep [some be0, some be1, some re1_0, some be2, ue2_3.ownBlock, ue2_4.ownBlock] h0.size hp2 [boxO bb1 [(.int .i64 a0_0), (.int .i64 a0_1), (.bool a0_2), u0_3, u0_4], boxO be0 [(.int .i64 x2)], boxO be1 [(.map (some re1_0))], mapO re1_0 x3, boxO be2 [(.int .i64 x4), (.int .i64 x5), (.bool x6), ue2_3, ue2_4], ownO (kF .f32) 40 ue2_3 x7, ownO (kF .f32) 40 ue2_4 x8] := S_2
    have ho1 : impl_Sheet_each__impl_SlitSheet_1.s0 a0_0 a0_1 a0_2 a0_3 a0_4 x1 x2 x3 x4 x5 x6 x7 x8 = some o1 := ho1
    unfold impl_Sheet_each__impl_SlitSheet_1.s0 at ho1
    refine W.sub hs1 ?_
    refine W.seq ?_
    refine W.region ?_
    refine RL.opD (by decide) (opv_icmp rfl rfl rfl rfl) ?_
    refine RL.nil ?_
    refine thnN ?_
    refine W.seq ?_
    by_cases c1 : (decide (x1 < a0_1)) = true
    · rw [if_pos c1] at ho1
      refine W.condT rfl c1 ?_
      refine W.skip ?_
      refine thnN ?_
      refine W.seq ?_
      refine W.block ?_
      refine W.seq ?_
      refine W.region ?_
      refine RL.opD (by decide) (opv_move rfl rfl) ?_
      refine RL.opD (by decide) (opv_assign rfl rfl) ?_
      refine RL.nil ?_
      refine thnN ?_
      refine W.seq ?_
      refine W.region ?_
      refine RL.opD (by decide) (opv_fieldAddr rfl Try.fo29_0 rfl) ?_
      refine RL.opD (by decide) (opv_loadB rfl Try.one2 rfl (Sep.at (o := boxO bb1 [(.int .i64 a0_0), (.int .i64 a0_1), (.bool a0_2), u0_3, u0_4]) S_2 0 rfl) rfl) ?_
      refine RL.opD (by decide) (opv_move rfl rfl) ?_
      refine RL.nil ?_
      refine thnN ?_
      obtain ⟨y2, hy2, ho1⟩ := Option.bind_eq_some_iff.1 ho1
      refine W.cut (fun φ' h' => ∃ x26, ∃ x27, ∃ x28, ∃ x29, ∃ x30, ∃ x31, ∃ x32, ∃ x33, ∃ x34, y2 = (x26, x27, x28, x29, x30, x31, x32, x33, x34) ∧ Fr.sub [(0, (.agg (List.toArray (α := Value) [(.int .i64 a0_0), (.int .i64 a0_1), (.bool a0_2), u0_3, u0_4]))), (1, (.func (.func 119) #[] [(.pointer (some ⟨be0, 0, none⟩)), (.pointer (some ⟨be1, 0, none⟩)), (.pointer (some ⟨be2, 0, none⟩))].toArray)), (2, (.pointer (some ⟨bb1, 0, none⟩))), (7, (.int .i64 a0_1)), (8, (.int .i64 x1)), (9, (.bool (decide (x1 < a0_1)))), (4, (.int .i64 x1)), (12, (.int .i64 a0_0)), (13, (.int .i64 x26)), (14, (.bool x27))] φ' ∧ Mod [some be0, some be1, some re1_0, some be2, ue2_3.ownBlock, ue2_4.ownBlock] h0 h' ∧ Sep [some be0, some be1, some re1_0, some be2, ue2_3.ownBlock, ue2_4.ownBlock] h0.size h' [boxO bb1 [(.int .i64 a0_0), (.int .i64 a0_1), (.bool a0_2), u0_3, u0_4], boxO be0 [(.int .i64 x28)], boxO be1 [(.map (some re1_0))], mapO re1_0 x29, boxO be2 [(.int .i64 x30), (.int .i64 x31), (.bool x32), ue2_3, ue2_4], ownO (kF .f32) 40 ue2_3 x33, ownO (kF .f32) 40 ue2_4 x34]) ?_ ?_
      · refine W.block ?_
        refine W.loopS (fun (s : (Int × Int × (List (Int × Bool)) × Int × Int × Bool × (List (Option Nat)) × (List (Option Nat)))) φ' h' => Fr.sub [(0, (.agg (List.toArray (α := Value) [(.int .i64 a0_0), (.int .i64 a0_1), (.bool a0_2), u0_3, u0_4]))), (1, (.func (.func 119) #[] [(.pointer (some ⟨be0, 0, none⟩)), (.pointer (some ⟨be1, 0, none⟩)), (.pointer (some ⟨be2, 0, none⟩))].toArray)), (2, (.pointer (some ⟨bb1, 0, none⟩))), (7, (.int .i64 a0_1)), (8, (.int .i64 x1)), (9, (.bool (decide (x1 < a0_1)))), (4, (.int .i64 x1)), (12, (.int .i64 a0_0)), (13, (.int .i64 s.1))] φ' ∧ Mod [some be0, some be1, some re1_0, some be2, ue2_3.ownBlock, ue2_4.ownBlock] h0 h' ∧ Sep [some be0, some be1, some re1_0, some be2, ue2_3.ownBlock, ue2_4.ownBlock] h0.size h' [boxO bb1 [(.int .i64 a0_0), (.int .i64 a0_1), (.bool a0_2), u0_3, u0_4], boxO be0 [(.int .i64 s.2.1)], boxO be1 [(.map (some re1_0))], mapO re1_0 s.2.2.1, boxO be2 [(.int .i64 s.2.2.2.1), (.int .i64 s.2.2.2.2.1), (.bool s.2.2.2.2.2.1), ue2_3, ue2_4], ownO (kF .f32) 40 ue2_3 s.2.2.2.2.2.2.1, ownO (kF .f32) 40 ue2_4 s.2.2.2.2.2.2.2]) hy2 ⟨⟨rfl, rfl, rfl, rfl, rfl, rfl, rfl, rfl, rfl, trivial⟩, X_2, (Sep.sel S_2 [0, 1, 2, 3, 4, 5, 6] (by decide))⟩ ?_
        rintro ⟨x18, x19, x20, x21, x22, x23, x24, x25⟩ φ' hp3 o2 ⟨hs3, X_3, S_3⟩ ho2 hy2
        have hs3 : Fr.sub [(0, (.agg (List.toArray (α := Value) [(.int .i64 a0_0), (.int .i64 a0_1), (.bool a0_2), u0_3, u0_4]))), (1, (.func (.func 119) #[] [(.pointer (some ⟨be0, 0, none⟩)), (.pointer (some ⟨be1, 0, none⟩)), (.pointer (some ⟨be2, 0, none⟩))].toArray)), (2, (.pointer (some ⟨bb1, 0, none⟩))), (7, (.int .i64 a0_1)), (8, (.int .i64 x1)), (9, (.bool (decide (x1 < a0_1)))), (4, (.int .i64 x1)), (12, (.int .i64 a0_0)), (13, (.int .i64 x18))] φ' := hs3
        have S_3 : Sep [some be0, some be1, some re1_0, some be2, ue2_3.ownBlock, ue2_4.ownBlock] h0.size hp3 [boxO bb1 [(.int .i64 a0_0), (.int .i64 a0_1), (.bool a0_2), u0_3, u0_4], boxO be0 [(.int .i64 x19)], boxO be1 [(.map (some re1_0))], mapO re1_0 x20, boxO be2 [(.int .i64 x21), (.int .i64 x22), (.bool x23), ue2_3, ue2_4], ownO (kF .f32) 40 ue2_3 x24, ownO (kF .f32) 40 ue2_4 x25] := S_3
        have ho2 : impl_Sheet_each__impl_SlitSheet_1.s1 a0_0 a0_1 a0_2 a0_3 a0_4 x1 x18 x19 x20 x21 x22 x23 x24 x25 = some o2 := ho2
        unfold impl_Sheet_each__impl_SlitSheet_1.s1 at ho2
        refine W.sub hs3 ?_
        refine W.seq ?_
        refine W.region ?_
        refine RL.opD (by decide) (opv_icmp rfl rfl rfl rfl) ?_
        refine RL.nil ?_
        refine thnN ?_
        refine W.seq ?_
        by_cases c2 : (decide (x18 < a0_0)) = true
        · rw [if_pos c2] at ho2
          refine W.condT rfl c2 ?_
          refine W.skip ?_
          refine thnN ?_
          refine W.seq ?_
          refine W.block ?_
          refine W.seq ?_
          refine W.region ?_
          refine RL.opD (by decide) (opv_move rfl rfl) ?_
          refine RL.opD (by decide) (opv_assign rfl rfl) ?_
          refine RL.nil ?_
          refine thnN ?_
          obtain ⟨x35, hx35, ho2⟩ := Option.bind_eq_some_iff.1 ho2
          obtain ⟨x36, hx36, ho2⟩ := Option.bind_eq_some_iff.1 ho2
          refine W.region ?_
          refine RL.opD (by decide) (opv_move rfl rfl) ?_
          refine RL.opD (by decide) (opv_move rfl rfl) ?_
          refine RL.opD (by decide) (opv_move rfl rfl) ?_
          refine RL.opD (by decide) (opv_loadA (us := [(.int .i64 a0_0), (.int .i64 a0_1), (.bool a0_2), u0_3, u0_4]) rfl Try.agg29 Try.size29 rfl (Sep.at (o := boxO bb1 [(.int .i64 a0_0), (.int .i64 a0_1), (.bool a0_2), u0_3, u0_4]) S_3 0 rfl) rfl rfl) ?_
          refine RL.opD (by decide) (opv_move rfl rfl) ?_
          refine RL.opD (by decide) (opv_move rfl rfl) ?_
          refine RL.op _ (by decide) (opv_call (cap := []) (impl_Sheet_at_ok _ _ _ _ _ _ (SL.up (SL.mod g0_3 X_3 hlo hB) (Nat.le_trans hlo (Mod.size X_3))) _ _ (SL.up (SL.mod g0_4 X_3 hlo hB) (Nat.le_trans hlo (Mod.size X_3))) _ _ _ hx35) rfl rfl ⟨rfl, rfl, rfl, trivial⟩ Try.func92 rfl rfl) ?_
          rintro _ hp4 ⟨rfl, MT_2, T_2⟩
          have X_4 : Mod [some be0, some be1, some re1_0, some be2, ue2_3.ownBlock, ue2_4.ownBlock] h0 hp4 := Mod.step (A := []) (L := [boxO bb1 [(.int .i64 a0_0), (.int .i64 a0_1), (.bool a0_2), u0_3, u0_4], boxO be0 [(.int .i64 x19)], boxO be1 [(.map (some re1_0))], mapO re1_0 x20, boxO be2 [(.int .i64 x21), (.int .i64 x22), (.bool x23), ue2_3, ue2_4], ownO (kF .f32) 40 ue2_3 x24, ownO (kF .f32) 40 ue2_4 x25]) X_3 S_3 MT_2
          have S_4 : Sep [some be0, some be1, some re1_0, some be2, ue2_3.ownBlock, ue2_4.ownBlock] h0.size hp4 [boxO bb1 [(.int .i64 a0_0), (.int .i64 a0_1), (.bool a0_2), u0_3, u0_4], boxO be0 [(.int .i64 x19)], boxO be1 [(.map (some re1_0))], mapO re1_0 x20, boxO be2 [(.int .i64 x21), (.int .i64 x22), (.bool x23), ue2_3, ue2_4], ownO (kF .f32) 40 ue2_3 x24, ownO (kF .f32) 40 ue2_4 x25] := Sep.step (A := []) (L := [boxO bb1 [(.int .i64 a0_0), (.int .i64 a0_1), (.bool a0_2), u0_3, u0_4], boxO be0 [(.int .i64 x19)], boxO be1 [(.map (some re1_0))], mapO re1_0 x20, boxO be2 [(.int .i64 x21), (.int .i64 x22), (.bool x23), ue2_3, ue2_4], ownO (kF .f32) 40 ue2_3 x24, ownO (kF .f32) 40 ue2_4 x25]) S_3 (Mod.size X_3) MT_2 T_2
          have S_6 : Sep [some be0, some be1, some re1_0, some be2, ue2_3.ownBlock, ue2_4.ownBlock] h0.size hp4 [boxO be0 [(.int .i64 x19)], boxO be1 [(.map (some re1_0))], mapO re1_0 x20, boxO be2 [(.int .i64 x21), (.int .i64 x22), (.bool x23), ue2_3, ue2_4], ownO (kF .f32) 40 ue2_3 x24, ownO (kF .f32) 40 ue2_4 x25] := Sep.sel S_4 [1, 2, 3, 4, 5, 6] (by decide)
          have S_5 : Sep [some be0, some be1, some re1_0, some be2, ue2_3.ownBlock, ue2_4.ownBlock] hp4.size hp4 [boxO be0 [(.int .i64 x19)], boxO be1 [(.map (some re1_0))], mapO re1_0 x20, boxO be2 [(.int .i64 x21), (.int .i64 x22), (.bool x23), ue2_3, ue2_4], ownO (kF .f32) 40 ue2_3 x24, ownO (kF .f32) 40 ue2_4 x25] := Sep.own S_6 _
          refine RL.op _ (by decide) (opv_call (cap := [(.pointer (some ⟨be0, 0, none⟩)), (.pointer (some ⟨be1, 0, none⟩)), (.pointer (some ⟨be2, 0, none⟩))]) (impl_SlitSheet_1_ok _ lo (Nat.le_trans hlo (Mod.size X_4)) _ _ _ _ _ _ _ _ _ _ _ _ _ _ _ _ S_5 (Sep.ge (L := [boxO be0 [(.int .i64 x19)], boxO be1 [(.map (some re1_0))], mapO re1_0 x20, boxO be2 [(.int .i64 x21), (.int .i64 x22), (.bool x23), ue2_3, ue2_4], ownO (kF .f32) 40 ue2_3 x24, ownO (kF .f32) 40 ue2_4 x25]) S_6 hlo hB) _ hx36) rfl rfl ⟨rfl, rfl, rfl, trivial⟩ Try.func119 rfl rfl) ?_
          rintro _ hp5 ⟨rfl, MT_3, T_3⟩
          have S_7 : Sep [some be0, some be1, some re1_0, some be2, ue2_3.ownBlock, ue2_4.ownBlock] h0.size hp4 ([boxO be0 [(.int .i64 x19)], boxO be1 [(.map (some re1_0))], mapO re1_0 x20, boxO be2 [(.int .i64 x21), (.int .i64 x22), (.bool x23), ue2_3, ue2_4], ownO (kF .f32) 40 ue2_3 x24, ownO (kF .f32) 40 ue2_4 x25] ++ [boxO bb1 [(.int .i64 a0_0), (.int .i64 a0_1), (.bool a0_2), u0_3, u0_4]]) := Sep.sel S_4 [1, 2, 3, 4, 5, 6, 0] (by decide)
          have X_5 : Mod [some be0, some be1, some re1_0, some be2, ue2_3.ownBlock, ue2_4.ownBlock] h0 hp5 := Mod.step (A := [boxO be0 [(.int .i64 x19)], boxO be1 [(.map (some re1_0))], mapO re1_0 x20, boxO be2 [(.int .i64 x21), (.int .i64 x22), (.bool x23), ue2_3, ue2_4], ownO (kF .f32) 40 ue2_3 x24, ownO (kF .f32) 40 ue2_4 x25]) (L := [boxO bb1 [(.int .i64 a0_0), (.int .i64 a0_1), (.bool a0_2), u0_3, u0_4]]) X_4 S_7 MT_3
          have S_8 : Sep [some be0, some be1, some re1_0, some be2, ue2_3.ownBlock, ue2_4.ownBlock] h0.size hp5 [boxO be0 [(.int .i64 x36.1)], boxO be1 [(.map (some re1_0))], mapO re1_0 x36.2.1, boxO be2 [(.int .i64 x36.2.2.1), (.int .i64 x36.2.2.2.1), (.bool x36.2.2.2.2.1), ue2_3, ue2_4], ownO (kF .f32) 40 ue2_3 x36.2.2.2.2.2.1, ownO (kF .f32) 40 ue2_4 x36.2.2.2.2.2.2, boxO bb1 [(.int .i64 a0_0), (.int .i64 a0_1), (.bool a0_2), u0_3, u0_4]] := Sep.step (A := [boxO be0 [(.int .i64 x19)], boxO be1 [(.map (some re1_0))], mapO re1_0 x20, boxO be2 [(.int .i64 x21), (.int .i64 x22), (.bool x23), ue2_3, ue2_4], ownO (kF .f32) 40 ue2_3 x24, ownO (kF .f32) 40 ue2_4 x25]) (L := [boxO bb1 [(.int .i64 a0_0), (.int .i64 a0_1), (.bool a0_2), u0_3, u0_4]]) S_7 (Mod.size X_4) MT_3 T_3
          refine RL.nil ?_
          refine blkN ?_
          refine thnN ?_
          refine W.region ?_
          refine RL.opD (by decide) (opv_add rfl rfl rfl) ?_
          refine RL.opD (by decide) (opv_move rfl rfl) ?_
          refine RL.nil ?_
          have eo2 := Option.some.inj ho2
          subst eo2
          refine rndN (s' := (IntKind.wrap .i64 (x18 + 1), x36.1, x36.2.1, x36.2.2.1, x36.2.2.2.1, x36.2.2.2.2.1, x36.2.2.2.2.2.1, x36.2.2.2.2.2.2)) rfl ?_
          exact ⟨⟨rfl, rfl, rfl, rfl, rfl, rfl, rfl, rfl, rfl, trivial⟩, X_5, (Sep.sel S_8 [6, 0, 1, 2, 3, 4, 5] (by decide))⟩
        · rw [if_neg c2] at ho2
          have c2 := eq_false_of_ne_true c2
          refine W.condF rfl c2 ?_
          refine W.exit ?_
          refine thnX ?_
          refine rndX ?_
          refine blkI ?_
          have eo2 := Option.some.inj ho2
          subst eo2
          have ey2 := hy2 _ rfl
          subst ey2
          refine onlyN ?_
          exact ⟨x18, decide (x18 < a0_0), x19, x20, x21, x22, x23, x24, x25, rfl, ⟨rfl, rfl, rfl, rfl, rfl, rfl, rfl, rfl, rfl, rfl, trivial⟩, X_3, (Sep.sel S_3 [0, 1, 2, 3, 4, 5, 6] (by decide))⟩
      rintro φ' hp6 ⟨x26, x27, x28, x29, x30, x31, x32, x33, x34, rfl, hs4, X_6, S_9⟩
      try dsimp only at ho1
      refine blkN ?_
      refine thnN ?_
      refine W.sub hs4 ?_
      refine W.region ?_
      refine RL.opD (by decide) (opv_add rfl rfl rfl) ?_
      refine RL.opD (by decide) (opv_move rfl rfl) ?_
      refine RL.nil ?_
      have eo1 := Option.some.inj ho1
      subst eo1
      refine rndN (s' := (IntKind.wrap .i64 (x1 + 1), x28, x29, x30, x31, x32, x33, x34)) rfl ?_
      exact ⟨⟨rfl, rfl, rfl, rfl, rfl, trivial⟩, X_6, (Sep.sel S_9 [0, 1, 2, 3, 4, 5, 6] (by decide))⟩
    · rw [if_neg c1] at ho1
      have c1 := eq_false_of_ne_true c1
      refine W.condF rfl c1 ?_
      refine W.exit ?_
      refine thnX ?_
      refine rndX ?_
      refine blkI ?_
      have eo1 := Option.some.inj ho1
      subst eo1
      have ey1 := hy1 _ rfl
      subst ey1
      refine onlyN ?_
      exact ⟨x1, decide (x1 < a0_1), x2, x3, x4, x5, x6, x7, x8, rfl, ⟨rfl, rfl, rfl, rfl, rfl, rfl, trivial⟩, X_2, (Sep.sel S_2 [0, 1, 2, 3, 4, 5, 6] (by decide))⟩
  rintro φ' hp7 ⟨x9, x10, x11, x12, x13, x14, x15, x16, x17, rfl, hs2, X_7, S_10⟩
  try dsimp only at hp
  have er := Option.some.inj hp
  subst er
  exact Rt.none' rfl ⟨rfl, X_7, (Sep.sel S_10 [1, 2, 3, 4, 5, 6] (by decide))⟩

set_option maxRecDepth 20000 in
theorem impl_SlitSheet_ok (h0 : Heap) (a0_0 : Int) (a0_1 : Int) (a0_2 : Bool) (u0_3 : Value) (a0_3 : List (Option Nat)) (g0_3 : SL (kF .f32) h0.size h0 u0_3 a0_3) (u0_4 : Value) (a0_4 : List (Option Nat)) (g0_4 : SL (kF .f32) h0.size h0 u0_4 a0_4) (a1 : Int) (u2 : Value) (a2 : List (Int)) (g2 : SL (kI .i64) h0.size h0 u2 a2) (r : (Int × Int × Bool × (List (Option Nat)) × (List (Option Nat)) × Bool)) (hp : impl_SlitSheet a0_0 a0_1 a0_2 a0_3 a0_4 a1 a2 = some r) : CallsH Try.prog 62 ([(.agg (List.toArray (α := Value) [(.int .i64 a0_0), (.int .i64 a0_1), (.bool a0_2), u0_3, u0_4])), (.int .i64 a1), u2].toArray ++ [].toArray) h0 (fun v h' => ∃ w3, ∃ w4, v = (.tuple (List.toArray (α := Value) [(.agg (List.toArray (α := Value) [(.int .i64 r.1), (.int .i64 r.2.1), (.bool r.2.2.1), w3, w4])), (.bool r.2.2.2.2.2)])) ∧ Mod [] h0 h' ∧ Sep [] h0.size h' [ownO (kF .f32) 40 w3 r.2.2.2.1, ownO (kF .f32) 40 w4 r.2.2.2.2.1]) := by
  unfold impl_SlitSheet at hp
  refine callsH_of_W (l := [(.agg (List.toArray (α := Value) [(.int .i64 a0_0), (.int .i64 a0_1), (.bool a0_2), u0_3, u0_4])), (.int .i64 a1), u2]) (cap := []) 49 Try.func62 rfl rfl rfl ?_
  refine W.seq ?_
  refine W.region ?_
  refine RL.op _ (by decide) (opS_boxed (opv_boxA (cs := [(.int .i64 a0_0), (.int .i64 a0_1), (.bool a0_2), u0_3, u0_4]) rfl rfl)) ?_
  rintro _ hp1 ⟨bb1, rfl, MT_1, T_1⟩
  have X_1 : Mod [] h0 hp1 := Mod.step (A := []) (L := []) (Mod.refl [] h0) (Sep.nil [] h0.size h0) MT_1
  have S_1 : Sep [] h0.size hp1 [boxO bb1 [(.int .i64 a0_0), (.int .i64 a0_1), (.bool a0_2), u0_3, u0_4]] := Sep.step (A := []) (L := []) (Sep.nil [] h0.size h0) (Mod.size (Mod.refl [] h0)) MT_1 T_1
  refine RL.op _ (by decide) (opS_boxed (opv_box1 rfl rfl rfl)) ?_
  rintro _ hp2 ⟨bb2, rfl, MT_2, T_2⟩
  have X_2 : Mod [] h0 hp2 := Mod.step (A := []) (L := [boxO bb1 [(.int .i64 a0_0), (.int .i64 a0_1), (.bool a0_2), u0_3, u0_4]]) X_1 S_1 MT_2
  have S_2 : Sep [] h0.size hp2 [boxO bb2 [(.int .i64 a1)], boxO bb1 [(.int .i64 a0_0), (.int .i64 a0_1), (.bool a0_2), u0_3, u0_4]] := Sep.step (A := []) (L := [boxO bb1 [(.int .i64 a0_0), (.int .i64 a0_1), (.bool a0_2), u0_3, u0_4]]) S_1 (Mod.size X_1) MT_2 T_2
  refine RL.op _ (by decide) (opS_boxed (opv_alloc (cs := [(.int .i64 0), (.int .i64 0), (.bool false), (.slice none 0 0), (.slice none 0 0)]) rfl Try.zero29 rfl)) ?_
  rintro _ hp3 ⟨bb3, rfl, MT_3, T_3⟩
  have X_3 : Mod [] h0 hp3 := Mod.step (A := []) (L := [boxO bb2 [(.int .i64 a1)], boxO bb1 [(.int .i64 a0_0), (.int .i64 a0_1), (.bool a0_2), u0_3, u0_4]]) X_2 S_2 MT_3
  have S_3 : Sep [] h0.size hp3 [boxO bb3 [(.int .i64 0), (.int .i64 0), (.bool false), (.slice none 0 0), (.slice none 0 0)], boxO bb2 [(.int .i64 a1)], boxO bb1 [(.int .i64 a0_0), (.int .i64 a0_1), (.bool a0_2), u0_3, u0_4]] := Sep.step (A := []) (L := [boxO bb2 [(.int .i64 a1)], boxO bb1 [(.int .i64 a0_0), (.int .i64 a0_1), (.bool a0_2), u0_3, u0_4]]) S_2 (Mod.size X_2) MT_3 T_3
  refine RL.opD (by decide) (opv_assign rfl rfl) ?_
  refine RL.nil ?_
  refine thnN ?_
  refine W.seq ?_
  refine W.seq ?_
  obtain ⟨x1, hy1, hp⟩ := Option.bind_eq_some_iff.1 hp
  refine W.cut (fun φ' h' => Fr.sub [(0, (.agg (List.toArray (α := Value) [(.int .i64 a0_0), (.int .i64 a0_1), (.bool a0_2), u0_3, u0_4]))), (1, (.int .i64 a1)), (2, u2), (3, (.pointer (some ⟨bb1, 0, none⟩))), (4, (.pointer (some ⟨bb2, 0, none⟩))), (6, (.pointer (some ⟨bb3, 0, none⟩))), (7, (.bool false)), (21, (.bool x1))] φ' ∧ Mod [] h0 h' ∧ Sep [] h0.size h' [boxO bb3 [(.int .i64 0), (.int .i64 0), (.bool false), (.slice none 0 0), (.slice none 0 0)], boxO bb2 [(.int .i64 a1)], boxO bb1 [(.int .i64 a0_0), (.int .i64 a0_1), (.bool a0_2), u0_3, u0_4]]) ?_ ?_
  · obtain ⟨x2, hx2, hy1⟩ := Option.bind_eq_some_iff.1 hy1
    by_cases c1 : (!x2) = true
    · rw [if_pos c1] at hy1
      refine W.region ?_
      refine RL.opD (by decide) (opv_loadA (us := [(.int .i64 a0_0), (.int .i64 a0_1), (.bool a0_2), u0_3, u0_4]) rfl Try.agg29 Try.size29 rfl (Sep.at (o := boxO bb1 [(.int .i64 a0_0), (.int .i64 a0_1), (.bool a0_2), u0_3, u0_4]) S_3 2 rfl) rfl rfl) ?_
      refine RL.opD (by decide) (opv_loadB rfl Try.one2 rfl (Sep.at (o := boxO bb2 [(.int .i64 a1)]) S_3 1 rfl) rfl) ?_
      refine RL.op _ (by decide) (opv_call (cap := []) (impl_isValidCell_ok _ _ _ _ _ _ (SL.up (SL.mod g0_3 X_3 (Nat.le_refl _) nob) (Nat.le_trans (Nat.le_refl _) (Mod.size X_3))) _ _ (SL.up (SL.mod g0_4 X_3 (Nat.le_refl _) nob) (Nat.le_trans (Nat.le_refl _) (Mod.size X_3))) _ _ _ hx2) rfl rfl ⟨rfl, rfl, rfl, trivial⟩ Try.func118 rfl rfl) ?_
      rintro _ hp4 ⟨rfl, MT_4, T_4⟩
      have X_4 : Mod [] h0 hp4 := Mod.step (A := []) (L := [boxO bb3 [(.int .i64 0), (.int .i64 0), (.bool false), (.slice none 0 0), (.slice none 0 0)], boxO bb2 [(.int .i64 a1)], boxO bb1 [(.int .i64 a0_0), (.int .i64 a0_1), (.bool a0_2), u0_3, u0_4]]) X_3 S_3 MT_4
      have S_4 : Sep [] h0.size hp4 [boxO bb3 [(.int .i64 0), (.int .i64 0), (.bool false), (.slice none 0 0), (.slice none 0 0)], boxO bb2 [(.int .i64 a1)], boxO bb1 [(.int .i64 a0_0), (.int .i64 a0_1), (.bool a0_2), u0_3, u0_4]] := Sep.step (A := []) (L := [boxO bb3 [(.int .i64 0), (.int .i64 0), (.bool false), (.slice none 0 0), (.slice none 0 0)], boxO bb2 [(.int .i64 a1)], boxO bb1 [(.int .i64 a0_0), (.int .i64 a0_1), (.bool a0_2), u0_3, u0_4]]) S_3 (Mod.size X_3) MT_4 T_4
      refine RL.opD (by decide) (opv_not rfl rfl) ?_
      refine RL.opD (by decide) (opv_move rfl rfl) ?_
      refine RL.no rfl rfl (Eq.trans c1 (by decide)) (by decide) ?_
      refine RL.no rfl rfl (Eq.trans c1 (by decide)) (by decide) ?_
      refine RL.no rfl rfl (Eq.trans c1 (by decide)) (by decide) ?_
      refine RL.opD (by decide) (opv_pick rfl rfl (fun _ => rfl) (fun e => absurd (Eq.trans (Eq.symm e) c1) (by decide)) rfl) ?_
      refine RL.nil ?_
      have ey1 := Option.some.inj hy1
      subst ey1
      refine onlyN ?_
      exact ⟨⟨rfl, rfl, rfl, rfl, rfl, rfl, rfl, rfl, trivial⟩, X_4, (Sep.sel S_4 [0, 1, 2] (by decide))⟩
    · rw [if_neg c1] at hy1
      have c1 := eq_false_of_ne_true c1
      refine W.region ?_
      refine RL.opD (by decide) (opv_loadA (us := [(.int .i64 a0_0), (.int .i64 a0_1), (.bool a0_2), u0_3, u0_4]) rfl Try.agg29 Try.size29 rfl (Sep.at (o := boxO bb1 [(.int .i64 a0_0), (.int .i64 a0_1), (.bool a0_2), u0_3, u0_4]) S_3 2 rfl) rfl rfl) ?_
      refine RL.opD (by decide) (opv_loadB rfl Try.one2 rfl (Sep.at (o := boxO bb2 [(.int .i64 a1)]) S_3 1 rfl) rfl) ?_
      refine RL.op _ (by decide) (opv_call (cap := []) (impl_isValidCell_ok _ _ _ _ _ _ (SL.up (SL.mod g0_3 X_3 (Nat.le_refl _) nob) (Nat.le_trans (Nat.le_refl _) (Mod.size X_3))) _ _ (SL.up (SL.mod g0_4 X_3 (Nat.le_refl _) nob) (Nat.le_trans (Nat.le_refl _) (Mod.size X_3))) _ _ _ hx2) rfl rfl ⟨rfl, rfl, rfl, trivial⟩ Try.func118 rfl rfl) ?_
      rintro _ hp4 ⟨rfl, MT_4, T_4⟩
      have X_4 : Mod [] h0 hp4 := Mod.step (A := []) (L := [boxO bb3 [(.int .i64 0), (.int .i64 0), (.bool false), (.slice none 0 0), (.slice none 0 0)], boxO bb2 [(.int .i64 a1)], boxO bb1 [(.int .i64 a0_0), (.int .i64 a0_1), (.bool a0_2), u0_3, u0_4]]) X_3 S_3 MT_4
      have S_4 : Sep [] h0.size hp4 [boxO bb3 [(.int .i64 0), (.int .i64 0), (.bool false), (.slice none 0 0), (.slice none 0 0)], boxO bb2 [(.int .i64 a1)], boxO bb1 [(.int .i64 a0_0), (.int .i64 a0_1), (.bool a0_2), u0_3, u0_4]] := Sep.step (A := []) (L := [boxO bb3 [(.int .i64 0), (.int .i64 0), (.bool false), (.slice none 0 0), (.slice none 0 0)], boxO bb2 [(.int .i64 a1)], boxO bb1 [(.int .i64 a0_0), (.int .i64 a0_1), (.bool a0_2), u0_3, u0_4]]) S_3 (Mod.size X_3) MT_4 T_4
      refine RL.opD (by decide) (opv_not rfl rfl) ?_
      refine RL.opD (by decide) (opv_move rfl rfl) ?_
      refine RL.yes _ rfl rfl c1 (by decide) (opv_move rfl rfl) ?_
      rintro _ _ ⟨rfl, rfl⟩
      refine RL.yes _ rfl rfl c1 (by decide) (opv_len rfl Try.underlying60 rfl (SL.mod g2 X_4 (Nat.le_refl _) nob)) ?_
      rintro _ _ ⟨rfl, rfl⟩
      refine RL.yes _ rfl rfl c1 (by decide) (opv_icmp rfl rfl rfl rfl) ?_
      rintro _ _ ⟨rfl, rfl⟩
      refine RL.opD (by decide) (opv_pick rfl rfl (fun e => absurd (Eq.trans (Eq.symm e) c1) (by decide)) (fun _ => rfl) rfl) ?_
      refine RL.nil ?_
      have ey1 := Option.some.inj hy1
      subst ey1
      refine onlyN ?_
      exact ⟨⟨rfl, rfl, rfl, rfl, rfl, rfl, rfl, rfl, trivial⟩, X_4, (Sep.sel S_4 [0, 1, 2] (by decide))⟩
  rintro φ' hp5 ⟨hs1, X_5, S_5⟩
  refine thnN ?_
  refine W.sub hs1 ?_
  by_cases c2 : x1 = true
  · rw [if_pos c2] at hp
    refine W.condT rfl c2 ?_
    refine W.seq ?_
    refine W.region ?_
    refine RL.opD (by decide) (opv_build (cs := [(.int .i64 0), (.int .i64 0), (.bool false), (.slice none 0 0), (.slice none 0 0)]) [] [] rfl Try.bd29 trivial rfl) ?_
    refine RL.op0 _ (opS_stored (cs := [(.int .i64 0), (.int .i64 0), (.bool false), (.slice none 0 0), (.slice none 0 0)]) (cs' := [(.int .i64 0), (.int .i64 0), (.bool false), (.slice none 0 0), (.slice none 0 0)]) (opv_storeA (us := [(.int .i64 0), (.int .i64 0), (.bool false), (.slice none 0 0), (.slice none 0 0)]) rfl Try.size29 rfl rfl (oneAll rfl (oneAll rfl (oneAll rfl (oneAll rfl (oneAll rfl rfl))))) (Sep.at (o := boxO bb3 [(.int .i64 0), (.int .i64 0), (.bool false), (.slice none 0 0), (.slice none 0 0)]) S_5 0 rfl) rfl rfl) (Sep.at (o := boxO bb3 [(.int .i64 0), (.int .i64 0), (.bool false), (.slice none 0 0), (.slice none 0 0)]) S_5 0 rfl)) ?_
    rintro _ hp6 ⟨rfl, MT_5, T_5⟩
    have S_6 : Sep [] h0.size hp5 ([boxO bb3 [(.int .i64 0), (.int .i64 0), (.bool false), (.slice none 0 0), (.slice none 0 0)]] ++ [boxO bb2 [(.int .i64 a1)], boxO bb1 [(.int .i64 a0_0), (.int .i64 a0_1), (.bool a0_2), u0_3, u0_4]]) := Sep.sel S_5 [0, 1, 2] (by decide)
    have X_6 : Mod [] h0 hp6 := Mod.step (A := [boxO bb3 [(.int .i64 0), (.int .i64 0), (.bool false), (.slice none 0 0), (.slice none 0 0)]]) (L := [boxO bb2 [(.int .i64 a1)], boxO bb1 [(.int .i64 a0_0), (.int .i64 a0_1), (.bool a0_2), u0_3, u0_4]]) X_5 S_6 MT_5
    have S_7 : Sep [] h0.size hp6 [boxO bb3 [(.int .i64 0), (.int .i64 0), (.bool false), (.slice none 0 0), (.slice none 0 0)], boxO bb2 [(.int .i64 a1)], boxO bb1 [(.int .i64 a0_0), (.int .i64 a0_1), (.bool a0_2), u0_3, u0_4]] := Sep.step (A := [boxO bb3 [(.int .i64 0), (.int .i64 0), (.bool false), (.slice none 0 0), (.slice none 0 0)]]) (L := [boxO bb2 [(.int .i64 a1)], boxO bb1 [(.int .i64 a0_0), (.int .i64 a0_1), (.bool a0_2), u0_3, u0_4]]) S_6 (Mod.size X_5) MT_5 T_5
    refine RL.opD (by decide) (opv_assign rfl rfl) ?_
    refine RL.nil ?_
    refine thnN ?_
    refine W.ret ?_
    refine thnR ?_
    have S_8 : Sep [] h0.size hp6 [ownO (kF .f32) 40 (.slice none 0 0) ([] : List (Option Nat)), boxO bb3 [(.int .i64 0), (.int .i64 0), (.bool false), (.slice none 0 0), (.slice none 0 0)], boxO bb2 [(.int .i64 a1)], boxO bb1 [(.int .i64 a0_0), (.int .i64 a0_1), (.bool a0_2), u0_3, u0_4]] := Sep.addNil S_7
    have S_9 : Sep [] h0.size hp6 [ownO (kF .f32) 40 (.slice none 0 0) ([] : List (Option Nat)), ownO (kF .f32) 40 (.slice none 0 0) ([] : List (Option Nat)), boxO bb3 [(.int .i64 0), (.int .i64 0), (.bool false), (.slice none 0 0), (.slice none 0 0)], boxO bb2 [(.int .i64 a1)], boxO bb1 [(.int .i64 a0_0), (.int .i64 a0_1), (.bool a0_2), u0_3, u0_4]] := Sep.addNil S_8
    have er := Option.some.inj hp
    subst er
    exact Rt.cellA rfl rfl rfl Try.agg29 Try.size29 (Sep.at (o := boxO bb3 [(.int .i64 0), (.int .i64 0), (.bool false), (.slice none 0 0), (.slice none 0 0)]) S_9 2 rfl) rfl ⟨(.slice none 0 0), (.slice none 0 0), rfl, X_6, (Sep.sel S_9 [1, 0] (by decide))⟩
  · rw [if_neg c2] at hp
    have c2 := eq_false_of_ne_true c2
    refine W.condF rfl c2 ?_
    refine W.skip ?_
    refine thnN ?_
    refine W.seq ?_
    refine W.region ?_
    refine RL.op _ (by decide) (opS_makeMap rfl) ?_
    rintro _ hp7 ⟨rm1, rfl, MT_6, T_6⟩
    have X_7 : Mod [] h0 hp7 := Mod.step (A := []) (L := [boxO bb3 [(.int .i64 0), (.int .i64 0), (.bool false), (.slice none 0 0), (.slice none 0 0)], boxO bb2 [(.int .i64 a1)], boxO bb1 [(.int .i64 a0_0), (.int .i64 a0_1), (.bool a0_2), u0_3, u0_4]]) X_5 S_5 MT_6
    have S_10 : Sep [] h0.size hp7 [mapO rm1 ([] : List (Int × Bool)), boxO bb3 [(.int .i64 0), (.int .i64 0), (.bool false), (.slice none 0 0), (.slice none 0 0)], boxO bb2 [(.int .i64 a1)], boxO bb1 [(.int .i64 a0_0), (.int .i64 a0_1), (.bool a0_2), u0_3, u0_4]] := Sep.step (A := []) (L := [boxO bb3 [(.int .i64 0), (.int .i64 0), (.bool false), (.slice none 0 0), (.slice none 0 0)], boxO bb2 [(.int .i64 a1)], boxO bb1 [(.int .i64 a0_0), (.int .i64 a0_1), (.bool a0_2), u0_3, u0_4]]) S_5 (Mod.size X_5) MT_6 T_6
    refine RL.op _ (by decide) (opS_boxed (opv_alloc (cs := [(.map none)]) rfl Try.zero132 rfl)) ?_
    rintro _ hp8 ⟨bb4, rfl, MT_7, T_7⟩
    have X_8 : Mod [] h0 hp8 := Mod.step (A := []) (L := [mapO rm1 ([] : List (Int × Bool)), boxO bb3 [(.int .i64 0), (.int .i64 0), (.bool false), (.slice none 0 0), (.slice none 0 0)], boxO bb2 [(.int .i64 a1)], boxO bb1 [(.int .i64 a0_0), (.int .i64 a0_1), (.bool a0_2), u0_3, u0_4]]) X_7 S_10 MT_7
    have S_11 : Sep [] h0.size hp8 [boxO bb4 [(.map none)], mapO rm1 ([] : List (Int × Bool)), boxO bb3 [(.int .i64 0), (.int .i64 0), (.bool false), (.slice none 0 0), (.slice none 0 0)], boxO bb2 [(.int .i64 a1)], boxO bb1 [(.int .i64 a0_0), (.int .i64 a0_1), (.bool a0_2), u0_3, u0_4]] := Sep.step (A := []) (L := [mapO rm1 ([] : List (Int × Bool)), boxO bb3 [(.int .i64 0), (.int .i64 0), (.bool false), (.slice none 0 0), (.slice none 0 0)], boxO bb2 [(.int .i64 a1)], boxO bb1 [(.int .i64 a0_0), (.int .i64 a0_1), (.bool a0_2), u0_3, u0_4]]) S_10 (Mod.size X_7) MT_7 T_7
    refine RL.op0 _ (opS_stored (cs := [(.map none)]) (cs' := [(.map (some rm1))]) (opv_storeB (k := 0) (cs := [(.map none)]) rfl Try.size132 rfl rfl rfl (Sep.at (o := boxO bb4 [(.map none)]) S_11 0 rfl) (Nat.le_of_ble_eq_true rfl)) (Sep.at (o := boxO bb4 [(.map none)]) S_11 0 rfl)) ?_
    rintro _ hp9 ⟨rfl, MT_8, T_8⟩
    have S_12 : Sep [] h0.size hp8 ([boxO bb4 [(.map none)]] ++ [mapO rm1 ([] : List (Int × Bool)), boxO bb3 [(.int .i64 0), (.int .i64 0), (.bool false), (.slice none 0 0), (.slice none 0 0)], boxO bb2 [(.int .i64 a1)], boxO bb1 [(.int .i64 a0_0), (.int .i64 a0_1), (.bool a0_2), u0_3, u0_4]]) := Sep.sel S_11 [0, 1, 2, 3, 4] (by decide)
    have X_9 : Mod [] h0 hp9 := Mod.step (A := [boxO bb4 [(.map none)]]) (L := [mapO rm1 ([] : List (Int × Bool)), boxO bb3 [(.int .i64 0), (.int .i64 0), (.bool false), (.slice none 0 0), (.slice none 0 0)], boxO bb2 [(.int .i64 a1)], boxO bb1 [(.int .i64 a0_0), (.int .i64 a0_1), (.bool a0_2), u0_3, u0_4]]) X_8 S_12 MT_8
    have S_13 : Sep [] h0.size hp9 [boxO bb4 [(.map (some rm1))], mapO rm1 ([] : List (Int × Bool)), boxO bb3 [(.int .i64 0), (.int .i64 0), (.bool false), (.slice none 0 0), (.slice none 0 0)], boxO bb2 [(.int .i64 a1)], boxO bb1 [(.int .i64 a0_0), (.int .i64 a0_1), (.bool a0_2), u0_3, u0_4]] := Sep.step (A := [boxO bb4 [(.map none)]]) (L := [mapO rm1 ([] : List (Int × Bool)), boxO bb3 [(.int .i64 0), (.int .i64 0), (.bool false), (.slice none 0 0), (.slice none 0 0)], boxO bb2 [(.int .i64 a1)], boxO bb1 [(.int .i64 a0_0), (.int .i64 a0_1), (.bool a0_2), u0_3, u0_4]]) S_12 (Mod.size X_8) MT_8 T_8
    refine RL.nil ?_
    refine thnN ?_
    refine W.seq ?_
    refine W.region ?_
    refine RL.opD (by decide) (opv_assign rfl rfl) ?_
    refine RL.nil ?_
    refine thnN ?_
    refine W.seq ?_
    refine W.seq ?_
    refine W.region ?_
    refine RL.opD (by decide) (opv_move rfl rfl) ?_
    refine RL.opD (by decide) (opv_len rfl Try.underlying60 rfl (SL.mod g2 X_9 (Nat.le_refl _) nob)) ?_
    refine RL.opD (by decide) (opv_move rfl rfl) ?_
    refine RL.nil ?_
    refine thnN ?_
    obtain ⟨y2, hy2, hp⟩ := Option.bind_eq_some_iff.1 hp
    refine W.cut (fun φ' h' => ∃ x7, ∃ x8, ∃ x9, ∃ x10, ∃ x11, y2 = .inl (x7, x8, x9, x10, x11) ∧ Fr.sub [(0, (.agg (List.toArray (α := Value) [(.int .i64 a0_0), (.int .i64 a0_1), (.bool a0_2), u0_3, u0_4]))), (1, (.int .i64 a1)), (2, u2), (3, (.pointer (some ⟨bb1, 0, none⟩))), (4, (.pointer (some ⟨bb2, 0, none⟩))), (6, (.pointer (some ⟨bb3, 0, none⟩))), (21, (.bool x1)), (8, (.pointer (some ⟨bb4, 0, none⟩))), (24, u2), (25, (.int .i64 (a2.length : Int))), (7, (.bool x7)), (9, (.int .i64 x8)), (26, (.int .i64 x9)), (27, (.bool x10))] φ' ∧ Mod [] h0 h' ∧ Sep [] h0.size h' [boxO bb4 [(.map (some rm1))], mapO rm1 x11, boxO bb3 [(.int .i64 0), (.int .i64 0), (.bool false), (.slice none 0 0), (.slice none 0 0)], boxO bb2 [(.int .i64 a1)], boxO bb1 [(.int .i64 a0_0), (.int .i64 a0_1), (.bool a0_2), u0_3, u0_4]]) ?_ ?_
    · refine W.block ?_
      refine W.loopS (fun (s : (Bool × Int × Int × (List (Int × Bool)))) φ' h' => Fr.sub [(0, (.agg (List.toArray (α := Value) [(.int .i64 a0_0), (.int .i64 a0_1), (.bool a0_2), u0_3, u0_4]))), (1, (.int .i64 a1)), (2, u2), (3, (.pointer (some ⟨bb1, 0, none⟩))), (4, (.pointer (some ⟨bb2, 0, none⟩))), (6, (.pointer (some ⟨bb3, 0, none⟩))), (21, (.bool x1)), (8, (.pointer (some ⟨bb4, 0, none⟩))), (24, u2), (25, (.int .i64 (a2.length : Int))), (7, (.bool s.1)), (9, (.int .i64 s.2.1)), (26, (.int .i64 s.2.2.1))] φ' ∧ Mod [] h0 h' ∧ Sep [] h0.size h' [boxO bb4 [(.map (some rm1))], mapO rm1 s.2.2.2, boxO bb3 [(.int .i64 0), (.int .i64 0), (.bool false), (.slice none 0 0), (.slice none 0 0)], boxO bb2 [(.int .i64 a1)], boxO bb1 [(.int .i64 a0_0), (.int .i64 a0_1), (.bool a0_2), u0_3, u0_4]]) hy2 ⟨⟨rfl, rfl, rfl, rfl, rfl, rfl, rfl, rfl, rfl, rfl, rfl, rfl, rfl, trivial⟩, X_9, (Sep.sel S_13 [0, 1, 2, 3, 4] (by decide))⟩ ?_
      rintro ⟨x3, x4, x5, x6⟩ φ' hp10 o1 ⟨hs2, X_10, S_14⟩ ho1 hy1
      have hs2 : Fr.sub [(0, (.agg (List.toArray (α := Value) [(.int .i64 a0_0), (.int .i64 a0_1), (.bool a0_2), u0_3, u0_4]))), (1, (.int .i64 a1)), (2, u2), (3, (.pointer (some ⟨bb1, 0, none⟩))), (4, (.pointer (some ⟨bb2, 0, none⟩))), (6, (.pointer (some ⟨bb3, 0, none⟩))), (21, (.bool x1)), (8, (.pointer (some ⟨bb4, 0, none⟩))), (24, u2), (25, (.int .i64 (a2.length : Int))), (7, (.bool x3)), (9, (.int .i64 x4)), (26, (.int .i64 x5))] φ' := hs2
      have S_14 : Sep [] h0.size hp10 [boxO bb4 [(.map (some rm1))], mapO rm1 x6, boxO bb3 [(.int .i64 0), (.int .i64 0), (.bool false), (.slice none 0 0), (.slice none 0 0)], boxO bb2 [(.int .i64 a1)], boxO bb1 [(.int .i64 a0_0), (.int .i64 a0_1), (.bool a0_2), u0_3, u0_4]] := S_14
      have ho1 : impl_SlitSheet.s0 a0_1 a2 x3 x4 x5 x6 = some o1 := ho1
      unfold impl_SlitSheet.s0 at ho1
      refine W.sub hs2 ?_
      refine W.seq ?_
      refine W.region ?_
      refine RL.opD (by decide) (opv_icmp rfl rfl rfl rfl) ?_
      refine RL.nil ?_
      refine thnN ?_
      refine W.seq ?_
      by_cases c3 : (decide (x5 < (a2.length : Int))) = true
      · rw [if_pos c3] at ho1
        refine W.condT rfl c3 ?_
        refine W.skip ?_
        refine thnN ?_
        refine W.seq ?_
        refine W.block ?_
        refine W.seq ?_
        obtain ⟨x12, hx12, ho1⟩ := Option.bind_eq_some_iff.1 ho1
        refine W.region ?_
        refine RL.op _ (by decide) (opv_index rfl Try.underlying60 (by rw [Try.size2]; rfl) rfl rfl (SL.mod g2 X_10 (Nat.le_refl _) nob) hx12) ?_
        rintro v1 _ ⟨fv1, rfl⟩
        refine RL.opD (by decide) (opv_loadI rfl Try.one2 rfl fv1 (SL.mod g2 X_10 (Nat.le_refl _) nob) hx12) ?_
        refine RL.opD (by decide) (opv_assign rfl rfl) ?_
        refine RL.nil ?_
        refine thnN ?_
        refine W.seq ?_
        refine W.seq ?_
        obtain ⟨x13, hx13, ho1⟩ := Option.bind_eq_some_iff.1 ho1
        refine W.region ?_
        refine RL.opD (by decide) (opv_move rfl rfl) ?_
        refine RL.opD (by decide) (opv_move rfl rfl) ?_
        refine RL.opD (by decide) (opv_add rfl rfl rfl) ?_
        refine RL.opD (by decide) (opv_fieldAddr rfl Try.fo29_1 rfl) ?_
        refine RL.opD (by decide) (opv_loadB rfl Try.one2 rfl (Sep.at (o := boxO bb1 [(.int .i64 a0_0), (.int .i64 a0_1), (.bool a0_2), u0_3, u0_4]) S_14 4 rfl) rfl) ?_
        refine RL.opD (by decide) (opv_sub rfl rfl rfl) ?_
        refine RL.op _ (by decide) (opv_call (cap := []) (impl_within_ok _ _ _ _ _ hx13) rfl rfl ⟨rfl, rfl, rfl, trivial⟩ Try.func77 rfl rfl) ?_
        rintro _ _ ⟨rfl, rfl⟩
        refine RL.opD (by decide) (opv_not rfl rfl) ?_
        refine RL.nil ?_
        refine thnN ?_
        by_cases c4 : (!x13) = true
        · rw [if_pos c4] at ho1
          refine W.condT rfl c4 ?_
          refine W.seq ?_
          refine W.region ?_
          refine RL.opD (by decide) (opv_build (cs := [(.int .i64 0), (.int .i64 0), (.bool false), (.slice none 0 0), (.slice none 0 0)]) [] [] rfl Try.bd29 trivial rfl) ?_
          refine RL.op0 _ (opS_stored (cs := [(.int .i64 0), (.int .i64 0), (.bool false), (.slice none 0 0), (.slice none 0 0)]) (cs' := [(.int .i64 0), (.int .i64 0), (.bool false), (.slice none 0 0), (.slice none 0 0)]) (opv_storeA (us := [(.int .i64 0), (.int .i64 0), (.bool false), (.slice none 0 0), (.slice none 0 0)]) rfl Try.size29 rfl rfl (oneAll rfl (oneAll rfl (oneAll rfl (oneAll rfl (oneAll rfl rfl))))) (Sep.at (o := boxO bb3 [(.int .i64 0), (.int .i64 0), (.bool false), (.slice none 0 0), (.slice none 0 0)]) S_14 2 rfl) rfl rfl) (Sep.at (o := boxO bb3 [(.int .i64 0), (.int .i64 0), (.bool false), (.slice none 0 0), (.slice none 0 0)]) S_14 2 rfl)) ?_
          rintro _ hp11 ⟨rfl, MT_9, T_9⟩
          have S_15 : Sep [] h0.size hp10 ([boxO bb3 [(.int .i64 0), (.int .i64 0), (.bool false), (.slice none 0 0), (.slice none 0 0)]] ++ [boxO bb4 [(.map (some rm1))], mapO rm1 x6, boxO bb2 [(.int .i64 a1)], boxO bb1 [(.int .i64 a0_0), (.int .i64 a0_1), (.bool a0_2), u0_3, u0_4]]) := Sep.sel S_14 [2, 0, 1, 3, 4] (by decide)
          have X_11 : Mod [] h0 hp11 := Mod.step (A := [boxO bb3 [(.int .i64 0), (.int .i64 0), (.bool false), (.slice none 0 0), (.slice none 0 0)]]) (L := [boxO bb4 [(.map (some rm1))], mapO rm1 x6, boxO bb2 [(.int .i64 a1)], boxO bb1 [(.int .i64 a0_0), (.int .i64 a0_1), (.bool a0_2), u0_3, u0_4]]) X_10 S_15 MT_9
          have S_16 : Sep [] h0.size hp11 [boxO bb3 [(.int .i64 0), (.int .i64 0), (.bool false), (.slice none 0 0), (.slice none 0 0)], boxO bb4 [(.map (some rm1))], mapO rm1 x6, boxO bb2 [(.int .i64 a1)], boxO bb1 [(.int .i64 a0_0), (.int .i64 a0_1), (.bool a0_2), u0_3, u0_4]] := Sep.step (A := [boxO bb3 [(.int .i64 0), (.int .i64 0), (.bool false), (.slice none 0 0), (.slice none 0 0)]]) (L := [boxO bb4 [(.map (some rm1))], mapO rm1 x6, boxO bb2 [(.int .i64 a1)], boxO bb1 [(.int .i64 a0_0), (.int .i64 a0_1), (.bool a0_2), u0_3, u0_4]]) S_15 (Mod.size X_10) MT_9 T_9
          refine RL.opD (by decide) (opv_assign rfl rfl) ?_
          refine RL.nil ?_
          refine thnN ?_
          refine W.ret ?_
          refine thnR ?_
          refine blkR ?_
          refine thnR ?_
          have eo1 := Option.some.inj ho1
          subst eo1
          have ey2 := hy1 _ rfl
          subst ey2
          try dsimp only at hp
          refine rndR ?_
          refine blkR ?_
          refine onlyR ?_
          refine thnR ?_
          have S_17 : Sep [] h0.size hp11 [ownO (kF .f32) 40 (.slice none 0 0) ([] : List (Option Nat)), boxO bb3 [(.int .i64 0), (.int .i64 0), (.bool false), (.slice none 0 0), (.slice none 0 0)], boxO bb4 [(.map (some rm1))], mapO rm1 x6, boxO bb2 [(.int .i64 a1)], boxO bb1 [(.int .i64 a0_0), (.int .i64 a0_1), (.bool a0_2), u0_3, u0_4]] := Sep.addNil S_16
          have S_18 : Sep [] h0.size hp11 [ownO (kF .f32) 40 (.slice none 0 0) ([] : List (Option Nat)), ownO (kF .f32) 40 (.slice none 0 0) ([] : List (Option Nat)), boxO bb3 [(.int .i64 0), (.int .i64 0), (.bool false), (.slice none 0 0), (.slice none 0 0)], boxO bb4 [(.map (some rm1))], mapO rm1 x6, boxO bb2 [(.int .i64 a1)], boxO bb1 [(.int .i64 a0_0), (.int .i64 a0_1), (.bool a0_2), u0_3, u0_4]] := Sep.addNil S_17
          have er := Option.some.inj hp
          subst er
          exact Rt.cellA rfl rfl rfl Try.agg29 Try.size29 (Sep.at (o := boxO bb3 [(.int .i64 0), (.int .i64 0), (.bool false), (.slice none 0 0), (.slice none 0 0)]) S_18 2 rfl) rfl ⟨(.slice none 0 0), (.slice none 0 0), rfl, X_11, (Sep.sel S_18 [1, 0] (by decide))⟩
        · rw [if_neg c4] at ho1
          have c4 := eq_false_of_ne_true c4
          refine W.condF rfl c4 ?_
          refine W.skip ?_
          refine thnN ?_
          obtain ⟨c5, ho1⟩ := of_ite ho1
          refine W.region ?_
          refine RL.opD (by decide) (opv_loadB rfl Try.one132 rfl (Sep.at (o := boxO bb4 [(.map (some rm1))]) S_14 0 rfl) rfl) ?_
          refine RL.opD (by decide) (opv_move rfl rfl) ?_
          refine RL.opD (by decide) (opv_move rfl rfl) ?_
          refine RL.op0 _ (opS_mapUpdate rfl Try.underlying132 Try.underlying2 rfl rfl rfl c5 (Sep.at (o := mapO rm1 x6) S_14 1 rfl)) ?_
          rintro _ hp12 ⟨rfl, MT_10, T_10⟩
          have S_19 : Sep [] h0.size hp10 ([mapO rm1 x6] ++ [boxO bb4 [(.map (some rm1))], boxO bb3 [(.int .i64 0), (.int .i64 0), (.bool false), (.slice none 0 0), (.slice none 0 0)], boxO bb2 [(.int .i64 a1)], boxO bb1 [(.int .i64 a0_0), (.int .i64 a0_1), (.bool a0_2), u0_3, u0_4]]) := Sep.sel S_14 [1, 0, 2, 3, 4] (by decide)
          have X_12 : Mod [] h0 hp12 := Mod.step (A := [mapO rm1 x6]) (L := [boxO bb4 [(.map (some rm1))], boxO bb3 [(.int .i64 0), (.int .i64 0), (.bool false), (.slice none 0 0), (.slice none 0 0)], boxO bb2 [(.int .i64 a1)], boxO bb1 [(.int .i64 a0_0), (.int .i64 a0_1), (.bool a0_2), u0_3, u0_4]]) X_10 S_19 MT_10
          have S_20 : Sep [] h0.size hp12 [mapO rm1 (x6 ++ [(x12, true)]), boxO bb4 [(.map (some rm1))], boxO bb3 [(.int .i64 0), (.int .i64 0), (.bool false), (.slice none 0 0), (.slice none 0 0)], boxO bb2 [(.int .i64 a1)], boxO bb1 [(.int .i64 a0_0), (.int .i64 a0_1), (.bool a0_2), u0_3, u0_4]] := Sep.step (A := [mapO rm1 x6]) (L := [boxO bb4 [(.map (some rm1))], boxO bb3 [(.int .i64 0), (.int .i64 0), (.bool false), (.slice none 0 0), (.slice none 0 0)], boxO bb2 [(.int .i64 a1)], boxO bb1 [(.int .i64 a0_0), (.int .i64 a0_1), (.bool a0_2), u0_3, u0_4]]) S_19 (Mod.size X_10) MT_10 T_10
          refine RL.opD (by decide) (opv_assign rfl rfl) ?_
          refine RL.nil ?_
          refine blkN ?_
          refine thnN ?_
          refine W.region ?_
          refine RL.opD (by decide) (opv_add rfl rfl rfl) ?_
          refine RL.opD (by decide) (opv_move rfl rfl) ?_
          refine RL.nil ?_
          have eo1 := Option.some.inj ho1
          subst eo1
          refine rndN (s' := (x3, x12, IntKind.wrap .i64 (x5 + 1), x6 ++ [(x12, true)])) rfl ?_
          exact ⟨⟨rfl, rfl, rfl, rfl, rfl, rfl, rfl, rfl, rfl, rfl, rfl, rfl, rfl, trivial⟩, X_12, (Sep.sel S_20 [1, 0, 2, 3, 4] (by decide))⟩
      · rw [if_neg c3] at ho1
        have c3 := eq_false_of_ne_true c3
        refine W.condF rfl c3 ?_
        refine W.exit ?_
        refine thnX ?_
        refine rndX ?_
        refine blkI ?_
        have eo1 := Option.some.inj ho1
        subst eo1
        have ey2 := hy1 _ rfl
        subst ey2
        refine onlyN ?_
        exact ⟨x3, x4, x5, decide (x5 < (a2.length : Int)), x6, rfl, ⟨rfl, rfl, rfl, rfl, rfl, rfl, rfl, rfl, rfl, rfl, rfl, rfl, rfl, rfl, trivial⟩, X_10, (Sep.sel S_14 [0, 1, 2, 3, 4] (by decide))⟩
    rintro φ' hp13 ⟨x7, x8, x9, x10, x11, rfl, hs3, X_13, S_21⟩
    try dsimp only at hp
    refine thnN ?_
    refine W.sub hs3 ?_
    refine W.seq ?_
    obtain ⟨x14, hx14, hp⟩ := Option.bind_eq_some_iff.1 hp
    refine W.region ?_
    refine RL.opD (by decide) (opv_loadA (us := [(.int .i64 a0_0), (.int .i64 a0_1), (.bool a0_2), u0_3, u0_4]) rfl Try.agg29 Try.size29 rfl (Sep.at (o := boxO bb1 [(.int .i64 a0_0), (.int .i64 a0_1), (.bool a0_2), u0_3, u0_4]) S_21 4 rfl) rfl rfl) ?_
    refine RL.op _ (by decide) (opv_call (cap := []) (impl_copySheet_ok _ _ _ _ _ _ (SL.up (SL.mod g0_3 X_13 (Nat.le_refl _) nob) (Nat.le_trans (Nat.le_refl _) (Mod.size X_13))) _ _ (SL.up (SL.mod g0_4 X_13 (Nat.le_refl _) nob) (Nat.le_trans (Nat.le_refl _) (Mod.size X_13))) _ hx14) rfl rfl ⟨rfl, trivial⟩ Try.func98 rfl rfl) ?_
    rintro _ hp14 ⟨v2, v3, rfl, MT_11, T_11⟩
    have X_14 : Mod [] h0 hp14 := Mod.step (A := []) (L := [boxO bb4 [(.map (some rm1))], mapO rm1 x11, boxO bb3 [(.int .i64 0), (.int .i64 0), (.bool false), (.slice none 0 0), (.slice none 0 0)], boxO bb2 [(.int .i64 a1)], boxO bb1 [(.int .i64 a0_0), (.int .i64 a0_1), (.bool a0_2), u0_3, u0_4]]) X_13 S_21 MT_11
    have S_22 : Sep [] h0.size hp14 [ownO (kF .f32) 40 v2 x14.2.2.2.1, ownO (kF .f32) 40 v3 x14.2.2.2.2, boxO bb4 [(.map (some rm1))], mapO rm1 x11, boxO bb3 [(.int .i64 0), (.int .i64 0), (.bool false), (.slice none 0 0), (.slice none 0 0)], boxO bb2 [(.int .i64 a1)], boxO bb1 [(.int .i64 a0_0), (.int .i64 a0_1), (.bool a0_2), u0_3, u0_4]] := Sep.step (A := []) (L := [boxO bb4 [(.map (some rm1))], mapO rm1 x11, boxO bb3 [(.int .i64 0), (.int .i64 0), (.bool false), (.slice none 0 0), (.slice none 0 0)], boxO bb2 [(.int .i64 a1)], boxO bb1 [(.int .i64 a0_0), (.int .i64 a0_1), (.bool a0_2), u0_3, u0_4]]) S_21 (Mod.size X_13) MT_11 T_11
    refine RL.op _ (by decide) (opS_boxed (opv_alloc (cs := [(.int .i64 0), (.int .i64 0), (.bool false), (.slice none 0 0), (.slice none 0 0)]) rfl Try.zero29 rfl)) ?_
    rintro _ hp15 ⟨bb5, rfl, MT_12, T_12⟩
    have X_15 : Mod [] h0 hp15 := Mod.step (A := []) (L := [ownO (kF .f32) 40 v2 x14.2.2.2.1, ownO (kF .f32) 40 v3 x14.2.2.2.2, boxO bb4 [(.map (some rm1))], mapO rm1 x11, boxO bb3 [(.int .i64 0), (.int .i64 0), (.bool false), (.slice none 0 0), (.slice none 0 0)], boxO bb2 [(.int .i64 a1)], boxO bb1 [(.int .i64 a0_0), (.int .i64 a0_1), (.bool a0_2), u0_3, u0_4]]) X_14 S_22 MT_12
    have S_23 : Sep [] h0.size hp15 [boxO bb5 [(.int .i64 0), (.int .i64 0), (.bool false), (.slice none 0 0), (.slice none 0 0)], ownO (kF .f32) 40 v2 x14.2.2.2.1, ownO (kF .f32) 40 v3 x14.2.2.2.2, boxO bb4 [(.map (some rm1))], mapO rm1 x11, boxO bb3 [(.int .i64 0), (.int .i64 0), (.bool false), (.slice none 0 0), (.slice none 0 0)], boxO bb2 [(.int .i64 a1)], boxO bb1 [(.int .i64 a0_0), (.int .i64 a0_1), (.bool a0_2), u0_3, u0_4]] := Sep.step (A := []) (L := [ownO (kF .f32) 40 v2 x14.2.2.2.1, ownO (kF .f32) 40 v3 x14.2.2.2.2, boxO bb4 [(.map (some rm1))], mapO rm1 x11, boxO bb3 [(.int .i64 0), (.int .i64 0), (.bool false), (.slice none 0 0), (.slice none 0 0)], boxO bb2 [(.int .i64 a1)], boxO bb1 [(.int .i64 a0_0), (.int .i64 a0_1), (.bool a0_2), u0_3, u0_4]]) S_22 (Mod.size X_14) MT_12 T_12
    refine RL.op0 _ (opS_stored (cs := [(.int .i64 0), (.int .i64 0), (.bool false), (.slice none 0 0), (.slice none 0 0)]) (cs' := [(.int .i64 x14.1), (.int .i64 x14.2.1), (.bool x14.2.2.1), v2, v3]) (opv_storeA (us := [(.int .i64 x14.1), (.int .i64 x14.2.1), (.bool x14.2.2.1), v2, v3]) rfl Try.size29 rfl rfl (oneAll rfl (oneAll rfl (oneAll rfl (oneAll (ownO.one (Sep.at (o := ownO (kF .f32) 40 v2 x14.2.2.2.1) S_23 1 rfl)) (oneAll (ownO.one (Sep.at (o := ownO (kF .f32) 40 v3 x14.2.2.2.2) S_23 2 rfl)) rfl))))) (Sep.at (o := boxO bb5 [(.int .i64 0), (.int .i64 0), (.bool false), (.slice none 0 0), (.slice none 0 0)]) S_23 0 rfl) rfl rfl) (Sep.at (o := boxO bb5 [(.int .i64 0), (.int .i64 0), (.bool false), (.slice none 0 0), (.slice none 0 0)]) S_23 0 rfl)) ?_
    rintro _ hp16 ⟨rfl, MT_13, T_13⟩
    have S_24 : Sep [] h0.size hp15 ([boxO bb5 [(.int .i64 0), (.int .i64 0), (.bool false), (.slice none 0 0), (.slice none 0 0)]] ++ [ownO (kF .f32) 40 v2 x14.2.2.2.1, ownO (kF .f32) 40 v3 x14.2.2.2.2, boxO bb4 [(.map (some rm1))], mapO rm1 x11, boxO bb3 [(.int .i64 0), (.int .i64 0), (.bool false), (.slice none 0 0), (.slice none 0 0)], boxO bb2 [(.int .i64 a1)], boxO bb1 [(.int .i64 a0_0), (.int .i64 a0_1), (.bool a0_2), u0_3, u0_4]]) := Sep.sel S_23 [0, 1, 2, 3, 4, 5, 6, 7] (by decide)
    have X_16 : Mod [] h0 hp16 := Mod.step (A := [boxO bb5 [(.int .i64 0), (.int .i64 0), (.bool false), (.slice none 0 0), (.slice none 0 0)]]) (L := [ownO (kF .f32) 40 v2 x14.2.2.2.1, ownO (kF .f32) 40 v3 x14.2.2.2.2, boxO bb4 [(.map (some rm1))], mapO rm1 x11, boxO bb3 [(.int .i64 0), (.int .i64 0), (.bool false), (.slice none 0 0), (.slice none 0 0)], boxO bb2 [(.int .i64 a1)], boxO bb1 [(.int .i64 a0_0), (.int .i64 a0_1), (.bool a0_2), u0_3, u0_4]]) X_15 S_24 MT_13
    have S_25 : Sep [] h0.size hp16 [boxO bb5 [(.int .i64 x14.1), (.int .i64 x14.2.1), (.bool x14.2.2.1), v2, v3], ownO (kF .f32) 40 v2 x14.2.2.2.1, ownO (kF .f32) 40 v3 x14.2.2.2.2, boxO bb4 [(.map (some rm1))], mapO rm1 x11, boxO bb3 [(.int .i64 0), (.int .i64 0), (.bool false), (.slice none 0 0), (.slice none 0 0)], boxO bb2 [(.int .i64 a1)], boxO bb1 [(.int .i64 a0_0), (.int .i64 a0_1), (.bool a0_2), u0_3, u0_4]] := Sep.step (A := [boxO bb5 [(.int .i64 0), (.int .i64 0), (.bool false), (.slice none 0 0), (.slice none 0 0)]]) (L := [ownO (kF .f32) 40 v2 x14.2.2.2.1, ownO (kF .f32) 40 v3 x14.2.2.2.2, boxO bb4 [(.map (some rm1))], mapO rm1 x11, boxO bb3 [(.int .i64 0), (.int .i64 0), (.bool false), (.slice none 0 0), (.slice none 0 0)], boxO bb2 [(.int .i64 a1)], boxO bb1 [(.int .i64 a0_0), (.int .i64 a0_1), (.bool a0_2), u0_3, u0_4]]) S_24 (Mod.size X_15) MT_13 T_13
    refine RL.nil ?_
    refine thnN ?_
    refine W.seq ?_
    obtain ⟨x15, hx15, hp⟩ := Option.bind_eq_some_iff.1 hp
    refine W.region ?_
    refine RL.opD (by decide) (opv_loadA (us := [(.int .i64 a0_0), (.int .i64 a0_1), (.bool a0_2), u0_3, u0_4]) rfl Try.agg29 Try.size29 rfl (Sep.at (o := boxO bb1 [(.int .i64 a0_0), (.int .i64 a0_1), (.bool a0_2), u0_3, u0_4]) S_25 7 rfl) rfl rfl) ?_
    refine RL.opD (by decide) (opv_makeFunc (vs := [(.pointer (some ⟨bb2, 0, none⟩)), (.pointer (some ⟨bb4, 0, none⟩)), (.pointer (some ⟨bb5, 0, none⟩))]) rfl ⟨rfl, rfl, rfl, trivial⟩) ?_
    have S_27 : Sep [] h0.size hp16 [boxO bb2 [(.int .i64 a1)], boxO bb4 [(.map (some rm1))], mapO rm1 x11, boxO bb5 [(.int .i64 x14.1), (.int .i64 x14.2.1), (.bool x14.2.2.1), v2, v3], ownO (kF .f32) 40 v2 x14.2.2.2.1, ownO (kF .f32) 40 v3 x14.2.2.2.2] := Sep.sel S_25 [6, 3, 4, 0, 1, 2] (by decide)
    have S_26 : Sep [some bb2, some bb4, some rm1, some bb5, v2.ownBlock, v3.ownBlock] hp16.size hp16 [boxO bb2 [(.int .i64 a1)], boxO bb4 [(.map (some rm1))], mapO rm1 x11, boxO bb5 [(.int .i64 x14.1), (.int .i64 x14.2.1), (.bool x14.2.2.1), v2, v3], ownO (kF .f32) 40 v2 x14.2.2.2.1, ownO (kF .f32) 40 v3 x14.2.2.2.2] := Sep.own S_27 _
    refine RL.op _ (by decide) (opv_call (cap := []) (impl_Sheet_each__impl_SlitSheet_1_ok _ h0.size (Nat.le_trans (Nat.le_refl _) (Mod.size X_16)) _ _ _ _ _ (SL.mod g0_3 X_16 (Nat.le_refl _) nob) _ _ (SL.mod g0_4 X_16 (Nat.le_refl _) nob) _ _ _ _ _ _ _ _ _ _ _ _ _ S_26 (Sep.ge (L := [boxO bb2 [(.int .i64 a1)], boxO bb4 [(.map (some rm1))], mapO rm1 x11, boxO bb5 [(.int .i64 x14.1), (.int .i64 x14.2.1), (.bool x14.2.2.1), v2, v3], ownO (kF .f32) 40 v2 x14.2.2.2.1, ownO (kF .f32) 40 v3 x14.2.2.2.2]) S_27 (Nat.le_refl _) nob) _ hx15) rfl rfl ⟨rfl, rfl, trivial⟩ Try.func99 rfl rfl) ?_
    rintro _ hp17 ⟨rfl, MT_14, T_14⟩
    have S_28 : Sep [] h0.size hp16 ([boxO bb2 [(.int .i64 a1)], boxO bb4 [(.map (some rm1))], mapO rm1 x11, boxO bb5 [(.int .i64 x14.1), (.int .i64 x14.2.1), (.bool x14.2.2.1), v2, v3], ownO (kF .f32) 40 v2 x14.2.2.2.1, ownO (kF .f32) 40 v3 x14.2.2.2.2] ++ [boxO bb3 [(.int .i64 0), (.int .i64 0), (.bool false), (.slice none 0 0), (.slice none 0 0)], boxO bb1 [(.int .i64 a0_0), (.int .i64 a0_1), (.bool a0_2), u0_3, u0_4]]) := Sep.sel S_25 [6, 3, 4, 0, 1, 2, 5, 7] (by decide)
    have X_17 : Mod [] h0 hp17 := Mod.step (A := [boxO bb2 [(.int .i64 a1)], boxO bb4 [(.map (some rm1))], mapO rm1 x11, boxO bb5 [(.int .i64 x14.1), (.int .i64 x14.2.1), (.bool x14.2.2.1), v2, v3], ownO (kF .f32) 40 v2 x14.2.2.2.1, ownO (kF .f32) 40 v3 x14.2.2.2.2]) (L := [boxO bb3 [(.int .i64 0), (.int .i64 0), (.bool false), (.slice none 0 0), (.slice none 0 0)], boxO bb1 [(.int .i64 a0_0), (.int .i64 a0_1), (.bool a0_2), u0_3, u0_4]]) X_16 S_28 MT_14
    have S_29 : Sep [] h0.size hp17 [boxO bb2 [(.int .i64 x15.1)], boxO bb4 [(.map (some rm1))], mapO rm1 x15.2.1, boxO bb5 [(.int .i64 x15.2.2.1), (.int .i64 x15.2.2.2.1), (.bool x15.2.2.2.2.1), v2, v3], ownO (kF .f32) 40 v2 x15.2.2.2.2.2.1, ownO (kF .f32) 40 v3 x15.2.2.2.2.2.2, boxO bb3 [(.int .i64 0), (.int .i64 0), (.bool false), (.slice none 0 0), (.slice none 0 0)], boxO bb1 [(.int .i64 a0_0), (.int .i64 a0_1), (.bool a0_2), u0_3, u0_4]] := Sep.step (A := [boxO bb2 [(.int .i64 a1)], boxO bb4 [(.map (some rm1))], mapO rm1 x11, boxO bb5 [(.int .i64 x14.1), (.int .i64 x14.2.1), (.bool x14.2.2.1), v2, v3], ownO (kF .f32) 40 v2 x14.2.2.2.1, ownO (kF .f32) 40 v3 x14.2.2.2.2]) (L := [boxO bb3 [(.int .i64 0), (.int .i64 0), (.bool false), (.slice none 0 0), (.slice none 0 0)], boxO bb1 [(.int .i64 a0_0), (.int .i64 a0_1), (.bool a0_2), u0_3, u0_4]]) S_28 (Mod.size X_16) MT_14 T_14
    refine RL.nil ?_
    refine thnN ?_
    refine W.seq ?_
    refine W.region ?_
    refine RL.opD (by decide) (opv_loadA (us := [(.int .i64 x15.2.2.1), (.int .i64 x15.2.2.2.1), (.bool x15.2.2.2.2.1), v2, v3]) rfl Try.agg29 Try.size29 rfl (Sep.at (o := boxO bb5 [(.int .i64 x15.2.2.1), (.int .i64 x15.2.2.2.1), (.bool x15.2.2.2.2.1), v2, v3]) S_29 3 rfl) rfl rfl) ?_
    refine RL.op0 _ (opS_stored (cs := [(.int .i64 0), (.int .i64 0), (.bool false), (.slice none 0 0), (.slice none 0 0)]) (cs' := [(.int .i64 x15.2.2.1), (.int .i64 x15.2.2.2.1), (.bool x15.2.2.2.2.1), v2, v3]) (opv_storeA (us := [(.int .i64 x15.2.2.1), (.int .i64 x15.2.2.2.1), (.bool x15.2.2.2.2.1), v2, v3]) rfl Try.size29 rfl rfl (oneAll rfl (oneAll rfl (oneAll rfl (oneAll (ownO.one (Sep.at (o := ownO (kF .f32) 40 v2 x15.2.2.2.2.2.1) S_29 4 rfl)) (oneAll (ownO.one (Sep.at (o := ownO (kF .f32) 40 v3 x15.2.2.2.2.2.2) S_29 5 rfl)) rfl))))) (Sep.at (o := boxO bb3 [(.int .i64 0), (.int .i64 0), (.bool false), (.slice none 0 0), (.slice none 0 0)]) S_29 6 rfl) rfl rfl) (Sep.at (o := boxO bb3 [(.int .i64 0), (.int .i64 0), (.bool false), (.slice none 0 0), (.slice none 0 0)]) S_29 6 rfl)) ?_
    rintro _ hp18 ⟨rfl, MT_15, T_15⟩
    have S_30 : Sep [] h0.size hp17 ([boxO bb3 [(.int .i64 0), (.int .i64 0), (.bool false), (.slice none 0 0), (.slice none 0 0)]] ++ [boxO bb2 [(.int .i64 x15.1)], boxO bb4 [(.map (some rm1))], mapO rm1 x15.2.1, boxO bb5 [(.int .i64 x15.2.2.1), (.int .i64 x15.2.2.2.1), (.bool x15.2.2.2.2.1), v2, v3], ownO (kF .f32) 40 v2 x15.2.2.2.2.2.1, ownO (kF .f32) 40 v3 x15.2.2.2.2.2.2, boxO bb1 [(.int .i64 a0_0), (.int .i64 a0_1), (.bool a0_2), u0_3, u0_4]]) := Sep.sel S_29 [6, 0, 1, 2, 3, 4, 5, 7] (by decide)
    have X_18 : Mod [] h0 hp18 := Mod.step (A := [boxO bb3 [(.int .i64 0), (.int .i64 0), (.bool false), (.slice none 0 0), (.slice none 0 0)]]) (L := [boxO bb2 [(.int .i64 x15.1)], boxO bb4 [(.map (some rm1))], mapO rm1 x15.2.1, boxO bb5 [(.int .i64 x15.2.2.1), (.int .i64 x15.2.2.2.1), (.bool x15.2.2.2.2.1), v2, v3], ownO (kF .f32) 40 v2 x15.2.2.2.2.2.1, ownO (kF .f32) 40 v3 x15.2.2.2.2.2.2, boxO bb1 [(.int .i64 a0_0), (.int .i64 a0_1), (.bool a0_2), u0_3, u0_4]]) X_17 S_30 MT_15
    have S_31 : Sep [] h0.size hp18 [boxO bb3 [(.int .i64 x15.2.2.1), (.int .i64 x15.2.2.2.1), (.bool x15.2.2.2.2.1), v2, v3], boxO bb2 [(.int .i64 x15.1)], boxO bb4 [(.map (some rm1))], mapO rm1 x15.2.1, boxO bb5 [(.int .i64 x15.2.2.1), (.int .i64 x15.2.2.2.1), (.bool x15.2.2.2.2.1), v2, v3], ownO (kF .f32) 40 v2 x15.2.2.2.2.2.1, ownO (kF .f32) 40 v3 x15.2.2.2.2.2.2, boxO bb1 [(.int .i64 a0_0), (.int .i64 a0_1), (.bool a0_2), u0_3, u0_4]] := Sep.step (A := [boxO bb3 [(.int .i64 0), (.int .i64 0), (.bool false), (.slice none 0 0), (.slice none 0 0)]]) (L := [boxO bb2 [(.int .i64 x15.1)], boxO bb4 [(.map (some rm1))], mapO rm1 x15.2.1, boxO bb5 [(.int .i64 x15.2.2.1), (.int .i64 x15.2.2.2.1), (.bool x15.2.2.2.2.1), v2, v3], ownO (kF .f32) 40 v2 x15.2.2.2.2.2.1, ownO (kF .f32) 40 v3 x15.2.2.2.2.2.2, boxO bb1 [(.int .i64 a0_0), (.int .i64 a0_1), (.bool a0_2), u0_3, u0_4]]) S_30 (Mod.size X_17) MT_15 T_15
    refine RL.opD (by decide) (opv_assign rfl rfl) ?_
    refine RL.nil ?_
    refine thnN ?_
    refine W.ret ?_
    have er := Option.some.inj hp
    subst er
    exact Rt.cellA rfl rfl rfl Try.agg29 Try.size29 (Sep.at (o := boxO bb3 [(.int .i64 x15.2.2.1), (.int .i64 x15.2.2.2.1), (.bool x15.2.2.2.2.1), v2, v3]) S_31 0 rfl) rfl ⟨v2, v3, rfl, X_18, (Sep.sel S_31 [5, 6] (by decide))⟩

set_option maxRecDepth 20000 in
theorem laws_FnExactSlitSheet_ok (h0 : Heap) (a0_0 : Int) (a0_1 : Int) (a0_2 : Bool) (u0_3 : Value) (a0_3 : List (Option Nat)) (g0_3 : SL (kF .f32) h0.size h0 u0_3 a0_3) (u0_4 : Value) (a0_4 : List (Option Nat)) (g0_4 : SL (kF .f32) h0.size h0 u0_4 a0_4) (a1 : Int) (u2 : Value) (a2 : List (Int)) (g2 : SL (kI .i64) h0.size h0 u2 a2) (r : Bool) (hp : laws_FnExactSlitSheet a0_0 a0_1 a0_2 a0_3 a0_4 a1 a2 = some r) : CallsH Try.prog 13 ([(.agg (List.toArray (α := Value) [(.int .i64 a0_0), (.int .i64 a0_1), (.bool a0_2), u0_3, u0_4])), (.int .i64 a1), u2].toArray ++ [].toArray) h0 (fun v h' => v = (.bool r) ∧ Mod [] h0 h' ∧ Sep [] h0.size h' []) := by
  unfold laws_FnExactSlitSheet at hp
  refine callsH_of_W (l := [(.agg (List.toArray (α := Value) [(.int .i64 a0_0), (.int .i64 a0_1), (.bool a0_2), u0_3, u0_4])), (.int .i64 a1), u2]) (cap := []) 122 Try.func13 rfl rfl rfl ?_
  refine W.seq ?_
  refine W.region ?_
  refine RL.op _ (by decide) (opS_boxed (opv_boxA (cs := [(.int .i64 a0_0), (.int .i64 a0_1), (.bool a0_2), u0_3, u0_4]) rfl rfl)) ?_
  rintro _ hp1 ⟨bb1, rfl, MT_1, T_1⟩
  have X_1 : Mod [] h0 hp1 := Mod.step (A := []) (L := []) (Mod.refl [] h0) (Sep.nil [] h0.size h0) MT_1
  have S_1 : Sep [] h0.size hp1 [boxO bb1 [(.int .i64 a0_0), (.int .i64 a0_1), (.bool a0_2), u0_3, u0_4]] := Sep.step (A := []) (L := []) (Sep.nil [] h0.size h0) (Mod.size (Mod.refl [] h0)) MT_1 T_1
  refine RL.opD (by decide) (opv_assign rfl rfl) ?_
  refine RL.nil ?_
  refine thnN ?_
  refine W.seq ?_
  refine W.seq ?_
  refine W.region ?_
  refine RL.opD (by decide) (opv_move rfl rfl) ?_
  refine RL.opD (by decide) (opv_len rfl Try.underlying60 rfl (SL.mod g2 X_1 (Nat.le_refl _) nob)) ?_
  refine RL.opD (by decide) (opv_icmp rfl rfl rfl rfl) ?_
  refine RL.nil ?_
  refine thnN ?_
  by_cases c1 : (decide ((a2.length : Int) > 1048576)) = true
  · rw [if_pos c1] at hp
    refine W.condT rfl c1 ?_
    refine W.seq ?_
    refine W.region ?_
    refine RL.opD (by decide) (opv_assign rfl rfl) ?_
    refine RL.nil ?_
    refine thnN ?_
    refine W.ret ?_
    refine thnR ?_
    have er := Option.some.inj hp
    subst er
    exact Rt.one rfl rfl ⟨rfl, X_1, (Sep.nil _ _ _)⟩
  · rw [if_neg c1] at hp
    have c1 := eq_false_of_ne_true c1
    refine W.condF rfl c1 ?_
    refine W.skip ?_
    refine thnN ?_
    refine W.seq ?_
    refine W.region ?_
    refine RL.opD (by decide) (opv_assign rfl rfl) ?_
    refine RL.nil ?_
    refine thnN ?_
    refine W.seq ?_
    obtain ⟨x1, hx1, hp⟩ := Option.bind_eq_some_iff.1 hp
    refine W.region ?_
    refine RL.opD (by decide) (opv_loadA (us := [(.int .i64 a0_0), (.int .i64 a0_1), (.bool a0_2), u0_3, u0_4]) rfl Try.agg24 Try.size24 rfl (Sep.at (o := boxO bb1 [(.int .i64 a0_0), (.int .i64 a0_1), (.bool a0_2), u0_3, u0_4]) S_1 0 rfl) rfl rfl) ?_
    refine RL.opD (by decide) (opv_move rfl rfl) ?_
    refine RL.op _ (by decide) (opv_call (cap := []) (laws_szSheet_ok _ _ _ _ _ _ (SL.up (SL.mod g0_3 X_1 (Nat.le_refl _) nob) (Nat.le_trans (Nat.le_refl _) (Mod.size X_1))) _ _ (SL.up (SL.mod g0_4 X_1 (Nat.le_refl _) nob) (Nat.le_trans (Nat.le_refl _) (Mod.size X_1))) _ _ hx1) rfl rfl ⟨rfl, rfl, trivial⟩ Try.func18 rfl rfl) ?_
    rintro _ hp2 ⟨rfl, MT_2, T_2⟩
    have X_2 : Mod [] h0 hp2 := Mod.step (A := []) (L := [boxO bb1 [(.int .i64 a0_0), (.int .i64 a0_1), (.bool a0_2), u0_3, u0_4]]) X_1 S_1 MT_2
    have S_2 : Sep [] h0.size hp2 [boxO bb1 [(.int .i64 a0_0), (.int .i64 a0_1), (.bool a0_2), u0_3, u0_4]] := Sep.step (A := []) (L := [boxO bb1 [(.int .i64 a0_0), (.int .i64 a0_1), (.bool a0_2), u0_3, u0_4]]) S_1 (Mod.size X_1) MT_2 T_2
    refine RL.opD (by decide) (opv_assign rfl rfl) ?_
    refine RL.nil ?_
    refine thnN ?_
    refine W.seq ?_
    refine W.seq ?_
    refine W.region ?_
    refine RL.opD (by decide) (opv_move rfl rfl) ?_
    refine RL.opD (by decide) (opv_icmp rfl rfl rfl rfl) ?_
    refine RL.nil ?_
    refine thnN ?_
    by_cases c2 : (decide (x1 < 0)) = true
    · rw [if_pos c2] at hp
      refine W.condT rfl c2 ?_
      refine W.seq ?_
      refine W.region ?_
      refine RL.opD (by decide) (opv_assign rfl rfl) ?_
      refine RL.nil ?_
      refine thnN ?_
      refine W.ret ?_
      refine thnR ?_
      have er := Option.some.inj hp
      subst er
      exact Rt.one rfl rfl ⟨rfl, X_2, (Sep.nil _ _ _)⟩
    · rw [if_neg c2] at hp
      have c2 := eq_false_of_ne_true c2
      refine W.condF rfl c2 ?_
      refine W.skip ?_
      refine thnN ?_
      refine W.seq ?_
      obtain ⟨x2, hx2, hp⟩ := Option.bind_eq_some_iff.1 hp
      obtain ⟨x3, hx3, hp⟩ := Option.bind_eq_some_iff.1 hp
      obtain ⟨x4, hx4, hp⟩ := Option.bind_eq_some_iff.1 hp
      refine W.region ?_
      refine RL.opD (by decide) (opv_loadA (us := [(.int .i64 a0_0), (.int .i64 a0_1), (.bool a0_2), u0_3, u0_4]) rfl Try.agg24 Try.size24 rfl (Sep.at (o := boxO bb1 [(.int .i64 a0_0), (.int .i64 a0_1), (.bool a0_2), u0_3, u0_4]) S_2 0 rfl) rfl rfl) ?_
      refine RL.op _ (by decide) (opv_call (cap := []) (laws_toSheet_ok _ _ _ _ _ _ (SL.up (SL.mod g0_3 X_2 (Nat.le_refl _) nob) (Nat.le_trans (Nat.le_refl _) (Mod.size X_2))) _ _ (SL.up (SL.mod g0_4 X_2 (Nat.le_refl _) nob) (Nat.le_trans (Nat.le_refl _) (Mod.size X_2))) _ hx2) rfl rfl ⟨rfl, trivial⟩ Try.func20 rfl rfl) ?_
      rintro _ hp3 ⟨v1, v2, rfl, MT_3, T_3⟩
      have X_3 : Mod [] h0 hp3 := Mod.step (A := []) (L := [boxO bb1 [(.int .i64 a0_0), (.int .i64 a0_1), (.bool a0_2), u0_3, u0_4]]) X_2 S_2 MT_3
      have S_3 : Sep [] h0.size hp3 [ownO (kF .f32) 40 v1 x2.2.2.2.1, ownO (kF .f32) 40 v2 x2.2.2.2.2, boxO bb1 [(.int .i64 a0_0), (.int .i64 a0_1), (.bool a0_2), u0_3, u0_4]] := Sep.step (A := []) (L := [boxO bb1 [(.int .i64 a0_0), (.int .i64 a0_1), (.bool a0_2), u0_3, u0_4]]) S_2 (Mod.size X_2) MT_3 T_3
      refine RL.opD (by decide) (opv_move rfl rfl) ?_
      refine RL.opD (by decide) (opv_move rfl rfl) ?_
      refine RL.op _ (by decide) (opv_call (cap := []) (laws_toInt64S_ok _ _ _ (SL.up (SL.mod g2 X_3 (Nat.le_refl _) nob) (Nat.le_trans (Nat.le_refl _) (Mod.size X_3))) _ hx3) rfl rfl ⟨rfl, trivial⟩ Try.func61 rfl rfl) ?_
      rintro v3 hp4 ⟨MT_4, T_4⟩
      have X_4 : Mod [] h0 hp4 := Mod.step (A := []) (L := [ownO (kF .f32) 40 v1 x2.2.2.2.1, ownO (kF .f32) 40 v2 x2.2.2.2.2, boxO bb1 [(.int .i64 a0_0), (.int .i64 a0_1), (.bool a0_2), u0_3, u0_4]]) X_3 S_3 MT_4
      have S_4 : Sep [] h0.size hp4 [ownO (kI .i64) 2 v3 x3, ownO (kF .f32) 40 v1 x2.2.2.2.1, ownO (kF .f32) 40 v2 x2.2.2.2.2, boxO bb1 [(.int .i64 a0_0), (.int .i64 a0_1), (.bool a0_2), u0_3, u0_4]] := Sep.step (A := []) (L := [ownO (kF .f32) 40 v1 x2.2.2.2.1, ownO (kF .f32) 40 v2 x2.2.2.2.2, boxO bb1 [(.int .i64 a0_0), (.int .i64 a0_1), (.bool a0_2), u0_3, u0_4]]) S_3 (Mod.size X_3) MT_4 T_4
      refine RL.op _ (by decide) (opv_call (cap := []) (spec_SlitSheet_ok _ _ _ _ _ _ (ownO.read (Sep.at (o := ownO (kF .f32) 40 v1 x2.2.2.2.1) S_4 1 rfl)) _ _ (ownO.read (Sep.at (o := ownO (kF .f32) 40 v2 x2.2.2.2.2) S_4 2 rfl)) _ _ _ (ownO.read (Sep.at (o := ownO (kI .i64) 2 v3 x3) S_4 0 rfl)) _ hx4) rfl rfl ⟨rfl, rfl, rfl, trivial⟩ Try.func60 rfl rfl) ?_
      rintro _ hp5 ⟨v4, v5, rfl, MT_5, T_5⟩
      have X_5 : Mod [] h0 hp5 := Mod.step (A := []) (L := [ownO (kI .i64) 2 v3 x3, ownO (kF .f32) 40 v1 x2.2.2.2.1, ownO (kF .f32) 40 v2 x2.2.2.2.2, boxO bb1 [(.int .i64 a0_0), (.int .i64 a0_1), (.bool a0_2), u0_3, u0_4]]) X_4 S_4 MT_5
      have S_5 : Sep [] h0.size hp5 [ownO (kF .f32) 40 v4 x4.2.2.2.1, ownO (kF .f32) 40 v5 x4.2.2.2.2.1, ownO (kI .i64) 2 v3 x3, ownO (kF .f32) 40 v1 x2.2.2.2.1, ownO (kF .f32) 40 v2 x2.2.2.2.2, boxO bb1 [(.int .i64 a0_0), (.int .i64 a0_1), (.bool a0_2), u0_3, u0_4]] := Sep.step (A := []) (L := [ownO (kI .i64) 2 v3 x3, ownO (kF .f32) 40 v1 x2.2.2.2.1, ownO (kF .f32) 40 v2 x2.2.2.2.2, boxO bb1 [(.int .i64 a0_0), (.int .i64 a0_1), (.bool a0_2), u0_3, u0_4]]) S_4 (Mod.size X_4) MT_5 T_5
      refine RL.opD (by decide) (opv_move rfl rfl) ?_
      refine RL.opD (by decide) (opv_extract rfl rfl rfl) ?_
      refine RL.opD (by decide) (opv_extract rfl rfl rfl) ?_
      refine RL.op _ (by decide) (opS_boxed (opv_alloc (cs := [(.int .i64 0), (.int .i64 0), (.bool false), (.slice none 0 0), (.slice none 0 0)]) rfl Try.zero29 rfl)) ?_
      rintro _ hp6 ⟨bb2, rfl, MT_6, T_6⟩
      have X_6 : Mod [] h0 hp6 := Mod.step (A := []) (L := [ownO (kF .f32) 40 v4 x4.2.2.2.1, ownO (kF .f32) 40 v5 x4.2.2.2.2.1, ownO (kI .i64) 2 v3 x3, ownO (kF .f32) 40 v1 x2.2.2.2.1, ownO (kF .f32) 40 v2 x2.2.2.2.2, boxO bb1 [(.int .i64 a0_0), (.int .i64 a0_1), (.bool a0_2), u0_3, u0_4]]) X_5 S_5 MT_6
      have S_6 : Sep [] h0.size hp6 [boxO bb2 [(.int .i64 0), (.int .i64 0), (.bool false), (.slice none 0 0), (.slice none 0 0)], ownO (kF .f32) 40 v4 x4.2.2.2.1, ownO (kF .f32) 40 v5 x4.2.2.2.2.1, ownO (kI .i64) 2 v3 x3, ownO (kF .f32) 40 v1 x2.2.2.2.1, ownO (kF .f32) 40 v2 x2.2.2.2.2, boxO bb1 [(.int .i64 a0_0), (.int .i64 a0_1), (.bool a0_2), u0_3, u0_4]] := Sep.step (A := []) (L := [ownO (kF .f32) 40 v4 x4.2.2.2.1, ownO (kF .f32) 40 v5 x4.2.2.2.2.1, ownO (kI .i64) 2 v3 x3, ownO (kF .f32) 40 v1 x2.2.2.2.1, ownO (kF .f32) 40 v2 x2.2.2.2.2, boxO bb1 [(.int .i64 a0_0), (.int .i64 a0_1), (.bool a0_2), u0_3, u0_4]]) S_5 (Mod.size X_5) MT_6 T_6
      refine RL.op0 _ (opS_stored (cs := [(.int .i64 0), (.int .i64 0), (.bool false), (.slice none 0 0), (.slice none 0 0)]) (cs' := [(.int .i64 x4.1), (.int .i64 x4.2.1), (.bool x4.2.2.1), v4, v5]) (opv_storeA (us := [(.int .i64 x4.1), (.int .i64 x4.2.1), (.bool x4.2.2.1), v4, v5]) rfl Try.size29 rfl rfl (oneAll rfl (oneAll rfl (oneAll rfl (oneAll (ownO.one (Sep.at (o := ownO (kF .f32) 40 v4 x4.2.2.2.1) S_6 1 rfl)) (oneAll (ownO.one (Sep.at (o := ownO (kF .f32) 40 v5 x4.2.2.2.2.1) S_6 2 rfl)) rfl))))) (Sep.at (o := boxO bb2 [(.int .i64 0), (.int .i64 0), (.bool false), (.slice none 0 0), (.slice none 0 0)]) S_6 0 rfl) rfl rfl) (Sep.at (o := boxO bb2 [(.int .i64 0), (.int .i64 0), (.bool false), (.slice none 0 0), (.slice none 0 0)]) S_6 0 rfl)) ?_
      rintro _ hp7 ⟨rfl, MT_7, T_7⟩
      have S_7 : Sep [] h0.size hp6 ([boxO bb2 [(.int .i64 0), (.int .i64 0), (.bool false), (.slice none 0 0), (.slice none 0 0)]] ++ [ownO (kF .f32) 40 v4 x4.2.2.2.1, ownO (kF .f32) 40 v5 x4.2.2.2.2.1, ownO (kI .i64) 2 v3 x3, ownO (kF .f32) 40 v1 x2.2.2.2.1, ownO (kF .f32) 40 v2 x2.2.2.2.2, boxO bb1 [(.int .i64 a0_0), (.int .i64 a0_1), (.bool a0_2), u0_3, u0_4]]) := Sep.sel S_6 [0, 1, 2, 3, 4, 5, 6] (by decide)
      have X_7 : Mod [] h0 hp7 := Mod.step (A := [boxO bb2 [(.int .i64 0), (.int .i64 0), (.bool false), (.slice none 0 0), (.slice none 0 0)]]) (L := [ownO (kF .f32) 40 v4 x4.2.2.2.1, ownO (kF .f32) 40 v5 x4.2.2.2.2.1, ownO (kI .i64) 2 v3 x3, ownO (kF .f32) 40 v1 x2.2.2.2.1, ownO (kF .f32) 40 v2 x2.2.2.2.2, boxO bb1 [(.int .i64 a0_0), (.int .i64 a0_1), (.bool a0_2), u0_3, u0_4]]) X_6 S_7 MT_7
      have S_8 : Sep [] h0.size hp7 [boxO bb2 [(.int .i64 x4.1), (.int .i64 x4.2.1), (.bool x4.2.2.1), v4, v5], ownO (kF .f32) 40 v4 x4.2.2.2.1, ownO (kF .f32) 40 v5 x4.2.2.2.2.1, ownO (kI .i64) 2 v3 x3, ownO (kF .f32) 40 v1 x2.2.2.2.1, ownO (kF .f32) 40 v2 x2.2.2.2.2, boxO bb1 [(.int .i64 a0_0), (.int .i64 a0_1), (.bool a0_2), u0_3, u0_4]] := Sep.step (A := [boxO bb2 [(.int .i64 0), (.int .i64 0), (.bool false), (.slice none 0 0), (.slice none 0 0)]]) (L := [ownO (kF .f32) 40 v4 x4.2.2.2.1, ownO (kF .f32) 40 v5 x4.2.2.2.2.1, ownO (kI .i64) 2 v3 x3, ownO (kF .f32) 40 v1 x2.2.2.2.1, ownO (kF .f32) 40 v2 x2.2.2.2.2, boxO bb1 [(.int .i64 a0_0), (.int .i64 a0_1), (.bool a0_2), u0_3, u0_4]]) S_7 (Mod.size X_6) MT_7 T_7
      refine RL.opD (by decide) (opv_assign rfl rfl) ?_
      refine RL.nil ?_
      refine thnN ?_
      refine W.seq ?_
      obtain ⟨x5, hx5, hp⟩ := Option.bind_eq_some_iff.1 hp
      refine W.region ?_
      refine RL.opD (by decide) (opv_loadA (us := [(.int .i64 a0_0), (.int .i64 a0_1), (.bool a0_2), u0_3, u0_4]) rfl Try.agg24 Try.size24 rfl (Sep.at (o := boxO bb1 [(.int .i64 a0_0), (.int .i64 a0_1), (.bool a0_2), u0_3, u0_4]) S_8 6 rfl) rfl rfl) ?_
      refine RL.op _ (by decide) (opv_call (cap := []) (laws_toSheet_ok _ _ _ _ _ _ (SL.up (SL.mod g0_3 X_7 (Nat.le_refl _) nob) (Nat.le_trans (Nat.le_refl _) (Mod.size X_7))) _ _ (SL.up (SL.mod g0_4 X_7 (Nat.le_refl _) nob) (Nat.le_trans (Nat.le_refl _) (Mod.size X_7))) _ hx5) rfl rfl ⟨rfl, trivial⟩ Try.func20 rfl rfl) ?_
      rintro _ hp8 ⟨v6, v7, rfl, MT_8, T_8⟩
      have X_8 : Mod [] h0 hp8 := Mod.step (A := []) (L := [boxO bb2 [(.int .i64 x4.1), (.int .i64 x4.2.1), (.bool x4.2.2.1), v4, v5], ownO (kF .f32) 40 v4 x4.2.2.2.1, ownO (kF .f32) 40 v5 x4.2.2.2.2.1, ownO (kI .i64) 2 v3 x3, ownO (kF .f32) 40 v1 x2.2.2.2.1, ownO (kF .f32) 40 v2 x2.2.2.2.2, boxO bb1 [(.int .i64 a0_0), (.int .i64 a0_1), (.bool a0_2), u0_3, u0_4]]) X_7 S_8 MT_8
      have S_9 : Sep [] h0.size hp8 [ownO (kF .f32) 40 v6 x5.2.2.2.1, ownO (kF .f32) 40 v7 x5.2.2.2.2, boxO bb2 [(.int .i64 x4.1), (.int .i64 x4.2.1), (.bool x4.2.2.1), v4, v5], ownO (kF .f32) 40 v4 x4.2.2.2.1, ownO (kF .f32) 40 v5 x4.2.2.2.2.1, ownO (kI .i64) 2 v3 x3, ownO (kF .f32) 40 v1 x2.2.2.2.1, ownO (kF .f32) 40 v2 x2.2.2.2.2, boxO bb1 [(.int .i64 a0_0), (.int .i64 a0_1), (.bool a0_2), u0_3, u0_4]] := Sep.step (A := []) (L := [boxO bb2 [(.int .i64 x4.1), (.int .i64 x4.2.1), (.bool x4.2.2.1), v4, v5], ownO (kF .f32) 40 v4 x4.2.2.2.1, ownO (kF .f32) 40 v5 x4.2.2.2.2.1, ownO (kI .i64) 2 v3 x3, ownO (kF .f32) 40 v1 x2.2.2.2.1, ownO (kF .f32) 40 v2 x2.2.2.2.2, boxO bb1 [(.int .i64 a0_0), (.int .i64 a0_1), (.bool a0_2), u0_3, u0_4]]) S_8 (Mod.size X_7) MT_8 T_8
      refine RL.op _ (by decide) (opS_boxed (opv_alloc (cs := [(.int .i64 0), (.int .i64 0), (.bool false), (.slice none 0 0), (.slice none 0 0)]) rfl Try.zero29 rfl)) ?_
      rintro _ hp9 ⟨bb3, rfl, MT_9, T_9⟩
      have X_9 : Mod [] h0 hp9 := Mod.step (A := []) (L := [ownO (kF .f32) 40 v6 x5.2.2.2.1, ownO (kF .f32) 40 v7 x5.2.2.2.2, boxO bb2 [(.int .i64 x4.1), (.int .i64 x4.2.1), (.bool x4.2.2.1), v4, v5], ownO (kF .f32) 40 v4 x4.2.2.2.1, ownO (kF .f32) 40 v5 x4.2.2.2.2.1, ownO (kI .i64) 2 v3 x3, ownO (kF .f32) 40 v1 x2.2.2.2.1, ownO (kF .f32) 40 v2 x2.2.2.2.2, boxO bb1 [(.int .i64 a0_0), (.int .i64 a0_1), (.bool a0_2), u0_3, u0_4]]) X_8 S_9 MT_9
      have S_10 : Sep [] h0.size hp9 [boxO bb3 [(.int .i64 0), (.int .i64 0), (.bool false), (.slice none 0 0), (.slice none 0 0)], ownO (kF .f32) 40 v6 x5.2.2.2.1, ownO (kF .f32) 40 v7 x5.2.2.2.2, boxO bb2 [(.int .i64 x4.1), (.int .i64 x4.2.1), (.bool x4.2.2.1), v4, v5], ownO (kF .f32) 40 v4 x4.2.2.2.1, ownO (kF .f32) 40 v5 x4.2.2.2.2.1, ownO (kI .i64) 2 v3 x3, ownO (kF .f32) 40 v1 x2.2.2.2.1, ownO (kF .f32) 40 v2 x2.2.2.2.2, boxO bb1 [(.int .i64 a0_0), (.int .i64 a0_1), (.bool a0_2), u0_3, u0_4]] := Sep.step (A := []) (L := [ownO (kF .f32) 40 v6 x5.2.2.2.1, ownO (kF .f32) 40 v7 x5.2.2.2.2, boxO bb2 [(.int .i64 x4.1), (.int .i64 x4.2.1), (.bool x4.2.2.1), v4, v5], ownO (kF .f32) 40 v4 x4.2.2.2.1, ownO (kF .f32) 40 v5 x4.2.2.2.2.1, ownO (kI .i64) 2 v3 x3, ownO (kF .f32) 40 v1 x2.2.2.2.1, ownO (kF .f32) 40 v2 x2.2.2.2.2, boxO bb1 [(.int .i64 a0_0), (.int .i64 a0_1), (.bool a0_2), u0_3, u0_4]]) S_9 (Mod.size X_8) MT_9 T_9
      refine RL.op0 _ (opS_stored (cs := [(.int .i64 0), (.int .i64 0), (.bool false), (.slice none 0 0), (.slice none 0 0)]) (cs' := [(.int .i64 x5.1), (.int .i64 x5.2.1), (.bool x5.2.2.1), v6, v7]) (opv_storeA (us := [(.int .i64 x5.1), (.int .i64 x5.2.1), (.bool x5.2.2.1), v6, v7]) rfl Try.size29 rfl rfl (oneAll rfl (oneAll rfl (oneAll rfl (oneAll (ownO.one (Sep.at (o := ownO (kF .f32) 40 v6 x5.2.2.2.1) S_10 1 rfl)) (oneAll (ownO.one (Sep.at (o := ownO (kF .f32) 40 v7 x5.2.2.2.2) S_10 2 rfl)) rfl))))) (Sep.at (o := boxO bb3 [(.int .i64 0), (.int .i64 0), (.bool false), (.slice none 0 0), (.slice none 0 0)]) S_10 0 rfl) rfl rfl) (Sep.at (o := boxO bb3 [(.int .i64 0), (.int .i64 0), (.bool false), (.slice none 0 0), (.slice none 0 0)]) S_10 0 rfl)) ?_
      rintro _ hp10 ⟨rfl, MT_10, T_10⟩
      have S_11 : Sep [] h0.size hp9 ([boxO bb3 [(.int .i64 0), (.int .i64 0), (.bool false), (.slice none 0 0), (.slice none 0 0)]] ++ [ownO (kF .f32) 40 v6 x5.2.2.2.1, ownO (kF .f32) 40 v7 x5.2.2.2.2, boxO bb2 [(.int .i64 x4.1), (.int .i64 x4.2.1), (.bool x4.2.2.1), v4, v5], ownO (kF .f32) 40 v4 x4.2.2.2.1, ownO (kF .f32) 40 v5 x4.2.2.2.2.1, ownO (kI .i64) 2 v3 x3, ownO (kF .f32) 40 v1 x2.2.2.2.1, ownO (kF .f32) 40 v2 x2.2.2.2.2, boxO bb1 [(.int .i64 a0_0), (.int .i64 a0_1), (.bool a0_2), u0_3, u0_4]]) := Sep.sel S_10 [0, 1, 2, 3, 4, 5, 6, 7, 8, 9] (by decide)
      have X_10 : Mod [] h0 hp10 := Mod.step (A := [boxO bb3 [(.int .i64 0), (.int .i64 0), (.bool false), (.slice none 0 0), (.slice none 0 0)]]) (L := [ownO (kF .f32) 40 v6 x5.2.2.2.1, ownO (kF .f32) 40 v7 x5.2.2.2.2, boxO bb2 [(.int .i64 x4.1), (.int .i64 x4.2.1), (.bool x4.2.2.1), v4, v5], ownO (kF .f32) 40 v4 x4.2.2.2.1, ownO (kF .f32) 40 v5 x4.2.2.2.2.1, ownO (kI .i64) 2 v3 x3, ownO (kF .f32) 40 v1 x2.2.2.2.1, ownO (kF .f32) 40 v2 x2.2.2.2.2, boxO bb1 [(.int .i64 a0_0), (.int .i64 a0_1), (.bool a0_2), u0_3, u0_4]]) X_9 S_11 MT_10
      have S_12 : Sep [] h0.size hp10 [boxO bb3 [(.int .i64 x5.1), (.int .i64 x5.2.1), (.bool x5.2.2.1), v6, v7], ownO (kF .f32) 40 v6 x5.2.2.2.1, ownO (kF .f32) 40 v7 x5.2.2.2.2, boxO bb2 [(.int .i64 x4.1), (.int .i64 x4.2.1), (.bool x4.2.2.1), v4, v5], ownO (kF .f32) 40 v4 x4.2.2.2.1, ownO (kF .f32) 40 v5 x4.2.2.2.2.1, ownO (kI .i64) 2 v3 x3, ownO (kF .f32) 40 v1 x2.2.2.2.1, ownO (kF .f32) 40 v2 x2.2.2.2.2, boxO bb1 [(.int .i64 a0_0), (.int .i64 a0_1), (.bool a0_2), u0_3, u0_4]] := Sep.step (A := [boxO bb3 [(.int .i64 0), (.int .i64 0), (.bool false), (.slice none 0 0), (.slice none 0 0)]]) (L := [ownO (kF .f32) 40 v6 x5.2.2.2.1, ownO (kF .f32) 40 v7 x5.2.2.2.2, boxO bb2 [(.int .i64 x4.1), (.int .i64 x4.2.1), (.bool x4.2.2.1), v4, v5], ownO (kF .f32) 40 v4 x4.2.2.2.1, ownO (kF .f32) 40 v5 x4.2.2.2.2.1, ownO (kI .i64) 2 v3 x3, ownO (kF .f32) 40 v1 x2.2.2.2.1, ownO (kF .f32) 40 v2 x2.2.2.2.2, boxO bb1 [(.int .i64 a0_0), (.int .i64 a0_1), (.bool a0_2), u0_3, u0_4]]) S_11 (Mod.size X_9) MT_10 T_10
      refine RL.nil ?_
      refine thnN ?_
      refine W.seq ?_
      obtain ⟨x6, hx6, hp⟩ := Option.bind_eq_some_iff.1 hp
      refine W.region ?_
      refine RL.opD (by decide) (opv_move rfl rfl) ?_
      refine RL.op _ (by decide) (opv_call (cap := []) (laws_toInt64S_ok _ _ _ (SL.up (SL.mod g2 X_10 (Nat.le_refl _) nob) (Nat.le_trans (Nat.le_refl _) (Mod.size X_10))) _ hx6) rfl rfl ⟨rfl, trivial⟩ Try.func61 rfl rfl) ?_
      rintro v8 hp11 ⟨MT_11, T_11⟩
      have X_11 : Mod [] h0 hp11 := Mod.step (A := []) (L := [boxO bb3 [(.int .i64 x5.1), (.int .i64 x5.2.1), (.bool x5.2.2.1), v6, v7], ownO (kF .f32) 40 v6 x5.2.2.2.1, ownO (kF .f32) 40 v7 x5.2.2.2.2, boxO bb2 [(.int .i64 x4.1), (.int .i64 x4.2.1), (.bool x4.2.2.1), v4, v5], ownO (kF .f32) 40 v4 x4.2.2.2.1, ownO (kF .f32) 40 v5 x4.2.2.2.2.1, ownO (kI .i64) 2 v3 x3, ownO (kF .f32) 40 v1 x2.2.2.2.1, ownO (kF .f32) 40 v2 x2.2.2.2.2, boxO bb1 [(.int .i64 a0_0), (.int .i64 a0_1), (.bool a0_2), u0_3, u0_4]]) X_10 S_12 MT_11
      have S_13 : Sep [] h0.size hp11 [ownO (kI .i64) 2 v8 x6, boxO bb3 [(.int .i64 x5.1), (.int .i64 x5.2.1), (.bool x5.2.2.1), v6, v7], ownO (kF .f32) 40 v6 x5.2.2.2.1, ownO (kF .f32) 40 v7 x5.2.2.2.2, boxO bb2 [(.int .i64 x4.1), (.int .i64 x4.2.1), (.bool x4.2.2.1), v4, v5], ownO (kF .f32) 40 v4 x4.2.2.2.1, ownO (kF .f32) 40 v5 x4.2.2.2.2.1, ownO (kI .i64) 2 v3 x3, ownO (kF .f32) 40 v1 x2.2.2.2.1, ownO (kF .f32) 40 v2 x2.2.2.2.2, boxO bb1 [(.int .i64 a0_0), (.int .i64 a0_1), (.bool a0_2), u0_3, u0_4]] := Sep.step (A := []) (L := [boxO bb3 [(.int .i64 x5.1), (.int .i64 x5.2.1), (.bool x5.2.2.1), v6, v7], ownO (kF .f32) 40 v6 x5.2.2.2.1, ownO (kF .f32) 40 v7 x5.2.2.2.2, boxO bb2 [(.int .i64 x4.1), (.int .i64 x4.2.1), (.bool x4.2.2.1), v4, v5], ownO (kF .f32) 40 v4 x4.2.2.2.1, ownO (kF .f32) 40 v5 x4.2.2.2.2.1, ownO (kI .i64) 2 v3 x3, ownO (kF .f32) 40 v1 x2.2.2.2.1, ownO (kF .f32) 40 v2 x2.2.2.2.2, boxO bb1 [(.int .i64 a0_0), (.int .i64 a0_1), (.bool a0_2), u0_3, u0_4]]) S_12 (Mod.size X_10) MT_11 T_11
      refine RL.opD (by decide) (opv_assign rfl rfl) ?_
      refine RL.nil ?_
      refine thnN ?_
      refine W.seq ?_
      obtain ⟨x7, hx7, hp⟩ := Option.bind_eq_some_iff.1 hp
      refine W.region ?_
      refine RL.opD (by decide) (opv_loadA (us := [(.int .i64 x5.1), (.int .i64 x5.2.1), (.bool x5.2.2.1), v6, v7]) rfl Try.agg29 Try.size29 rfl (Sep.at (o := boxO bb3 [(.int .i64 x5.1), (.int .i64 x5.2.1), (.bool x5.2.2.1), v6, v7]) S_13 1 rfl) rfl rfl) ?_
      refine RL.opD (by decide) (opv_move rfl rfl) ?_
      refine RL.opD (by decide) (opv_move rfl rfl) ?_
      refine RL.op _ (by decide) (opv_call (cap := []) (impl_SlitSheet_ok _ _ _ _ _ _ (ownO.read (Sep.at (o := ownO (kF .f32) 40 v6 x5.2.2.2.1) S_13 2 rfl)) _ _ (ownO.read (Sep.at (o := ownO (kF .f32) 40 v7 x5.2.2.2.2) S_13 3 rfl)) _ _ _ (ownO.read (Sep.at (o := ownO (kI .i64) 2 v8 x6) S_13 0 rfl)) _ hx7) rfl rfl ⟨rfl, rfl, rfl, trivial⟩ Try.func62 rfl rfl) ?_
      rintro _ hp12 ⟨v9, v10, rfl, MT_12, T_12⟩
      have X_12 : Mod [] h0 hp12 := Mod.step (A := []) (L := [ownO (kI .i64) 2 v8 x6, boxO bb3 [(.int .i64 x5.1), (.int .i64 x5.2.1), (.bool x5.2.2.1), v6, v7], ownO (kF .f32) 40 v6 x5.2.2.2.1, ownO (kF .f32) 40 v7 x5.2.2.2.2, boxO bb2 [(.int .i64 x4.1), (.int .i64 x4.2.1), (.bool x4.2.2.1), v4, v5], ownO (kF .f32) 40 v4 x4.2.2.2.1, ownO (kF .f32) 40 v5 x4.2.2.2.2.1, ownO (kI .i64) 2 v3 x3, ownO (kF .f32) 40 v1 x2.2.2.2.1, ownO (kF .f32) 40 v2 x2.2.2.2.2, boxO bb1 [(.int .i64 a0_0), (.int .i64 a0_1), (.bool a0_2), u0_3, u0_4]]) X_11 S_13 MT_12
      have S_14 : Sep [] h0.size hp12 [ownO (kF .f32) 40 v9 x7.2.2.2.1, ownO (kF .f32) 40 v10 x7.2.2.2.2.1, ownO (kI .i64) 2 v8 x6, boxO bb3 [(.int .i64 x5.1), (.int .i64 x5.2.1), (.bool x5.2.2.1), v6, v7], ownO (kF .f32) 40 v6 x5.2.2.2.1, ownO (kF .f32) 40 v7 x5.2.2.2.2, boxO bb2 [(.int .i64 x4.1), (.int .i64 x4.2.1), (.bool x4.2.2.1), v4, v5], ownO (kF .f32) 40 v4 x4.2.2.2.1, ownO (kF .f32) 40 v5 x4.2.2.2.2.1, ownO (kI .i64) 2 v3 x3, ownO (kF .f32) 40 v1 x2.2.2.2.1, ownO (kF .f32) 40 v2 x2.2.2.2.2, boxO bb1 [(.int .i64 a0_0), (.int .i64 a0_1), (.bool a0_2), u0_3, u0_4]] := Sep.step (A := []) (L := [ownO (kI .i64) 2 v8 x6, boxO bb3 [(.int .i64 x5.1), (.int .i64 x5.2.1), (.bool x5.2.2.1), v6, v7], ownO (kF .f32) 40 v6 x5.2.2.2.1, ownO (kF .f32) 40 v7 x5.2.2.2.2, boxO bb2 [(.int .i64 x4.1), (.int .i64 x4.2.1), (.bool x4.2.2.1), v4, v5], ownO (kF .f32) 40 v4 x4.2.2.2.1, ownO (kF .f32) 40 v5 x4.2.2.2.2.1, ownO (kI .i64) 2 v3 x3, ownO (kF .f32) 40 v1 x2.2.2.2.1, ownO (kF .f32) 40 v2 x2.2.2.2.2, boxO bb1 [(.int .i64 a0_0), (.int .i64 a0_1), (.bool a0_2), u0_3, u0_4]]) S_13 (Mod.size X_11) MT_12 T_12
      refine RL.opD (by decide) (opv_move rfl rfl) ?_
      refine RL.opD (by decide) (opv_extract rfl rfl rfl) ?_
      refine RL.opD (by decide) (opv_extract rfl rfl rfl) ?_
      refine RL.op _ (by decide) (opS_boxed (opv_alloc (cs := [(.int .i64 0), (.int .i64 0), (.bool false), (.slice none 0 0), (.slice none 0 0)]) rfl Try.zero29 rfl)) ?_
      rintro _ hp13 ⟨bb4, rfl, MT_13, T_13⟩
      have X_13 : Mod [] h0 hp13 := Mod.step (A := []) (L := [ownO (kF .f32) 40 v9 x7.2.2.2.1, ownO (kF .f32) 40 v10 x7.2.2.2.2.1, ownO (kI .i64) 2 v8 x6, boxO bb3 [(.int .i64 x5.1), (.int .i64 x5.2.1), (.bool x5.2.2.1), v6, v7], ownO (kF .f32) 40 v6 x5.2.2.2.1, ownO (kF .f32) 40 v7 x5.2.2.2.2, boxO bb2 [(.int .i64 x4.1), (.int .i64 x4.2.1), (.bool x4.2.2.1), v4, v5], ownO (kF .f32) 40 v4 x4.2.2.2.1, ownO (kF .f32) 40 v5 x4.2.2.2.2.1, ownO (kI .i64) 2 v3 x3, ownO (kF .f32) 40 v1 x2.2.2.2.1, ownO (kF .f32) 40 v2 x2.2.2.2.2, boxO bb1 [(.int .i64 a0_0), (.int .i64 a0_1), (.bool a0_2), u0_3, u0_4]]) X_12 S_14 MT_13
      have S_15 : Sep [] h0.size hp13 [boxO bb4 [(.int .i64 0), (.int .i64 0), (.bool false), (.slice none 0 0), (.slice none 0 0)], ownO (kF .f32) 40 v9 x7.2.2.2.1, ownO (kF .f32) 40 v10 x7.2.2.2.2.1, ownO (kI .i64) 2 v8 x6, boxO bb3 [(.int .i64 x5.1), (.int .i64 x5.2.1), (.bool x5.2.2.1), v6, v7], ownO (kF .f32) 40 v6 x5.2.2.2.1, ownO (kF .f32) 40 v7 x5.2.2.2.2, boxO bb2 [(.int .i64 x4.1), (.int .i64 x4.2.1), (.bool x4.2.2.1), v4, v5], ownO (kF .f32) 40 v4 x4.2.2.2.1, ownO (kF .f32) 40 v5 x4.2.2.2.2.1, ownO (kI .i64) 2 v3 x3, ownO (kF .f32) 40 v1 x2.2.2.2.1, ownO (kF .f32) 40 v2 x2.2.2.2.2, boxO bb1 [(.int .i64 a0_0), (.int .i64 a0_1), (.bool a0_2), u0_3, u0_4]] := Sep.step (A := []) (L := [ownO (kF .f32) 40 v9 x7.2.2.2.1, ownO (kF .f32) 40 v10 x7.2.2.2.2.1, ownO (kI .i64) 2 v8 x6, boxO bb3 [(.int .i64 x5.1), (.int .i64 x5.2.1), (.bool x5.2.2.1), v6, v7], ownO (kF .f32) 40 v6 x5.2.2.2.1, ownO (kF .f32) 40 v7 x5.2.2.2.2, boxO bb2 [(.int .i64 x4.1), (.int .i64 x4.2.1), (.bool x4.2.2.1), v4, v5], ownO (kF .f32) 40 v4 x4.2.2.2.1, ownO (kF .f32) 40 v5 x4.2.2.2.2.1, ownO (kI .i64) 2 v3 x3, ownO (kF .f32) 40 v1 x2.2.2.2.1, ownO (kF .f32) 40 v2 x2.2.2.2.2, boxO bb1 [(.int .i64 a0_0), (.int .i64 a0_1), (.bool a0_2), u0_3, u0_4]]) S_14 (Mod.size X_12) MT_13 T_13
      refine RL.op0 _ (opS_stored (cs := [(.int .i64 0), (.int .i64 0), (.bool false), (.slice none 0 0), (.slice none 0 0)]) (cs' := [(.int .i64 x7.1), (.int .i64 x7.2.1), (.bool x7.2.2.1), v9, v10]) (opv_storeA (us := [(.int .i64 x7.1), (.int .i64 x7.2.1), (.bool x7.2.2.1), v9, v10]) rfl Try.size29 rfl rfl (oneAll rfl (oneAll rfl (oneAll rfl (oneAll (ownO.one (Sep.at (o := ownO (kF .f32) 40 v9 x7.2.2.2.1) S_15 1 rfl)) (oneAll (ownO.one (Sep.at (o := ownO (kF .f32) 40 v10 x7.2.2.2.2.1) S_15 2 rfl)) rfl))))) (Sep.at (o := boxO bb4 [(.int .i64 0), (.int .i64 0), (.bool false), (.slice none 0 0), (.slice none 0 0)]) S_15 0 rfl) rfl rfl) (Sep.at (o := boxO bb4 [(.int .i64 0), (.int .i64 0), (.bool false), (.slice none 0 0), (.slice none 0 0)]) S_15 0 rfl)) ?_
      rintro _ hp14 ⟨rfl, MT_14, T_14⟩
      have S_16 : Sep [] h0.size hp13 ([boxO bb4 [(.int .i64 0), (.int .i64 0), (.bool false), (.slice none 0 0), (.slice none 0 0)]] ++ [ownO (kF .f32) 40 v9 x7.2.2.2.1, ownO (kF .f32) 40 v10 x7.2.2.2.2.1, ownO (kI .i64) 2 v8 x6, boxO bb3 [(.int .i64 x5.1), (.int .i64 x5.2.1), (.bool x5.2.2.1), v6, v7], ownO (kF .f32) 40 v6 x5.2.2.2.1, ownO (kF .f32) 40 v7 x5.2.2.2.2, boxO bb2 [(.int .i64 x4.1), (.int .i64 x4.2.1), (.bool x4.2.2.1), v4, v5], ownO (kF .f32) 40 v4 x4.2.2.2.1, ownO (kF .f32) 40 v5 x4.2.2.2.2.1, ownO (kI .i64) 2 v3 x3, ownO (kF .f32) 40 v1 x2.2.2.2.1, ownO (kF .f32) 40 v2 x2.2.2.2.2, boxO bb1 [(.int .i64 a0_0), (.int .i64 a0_1), (.bool a0_2), u0_3, u0_4]]) := Sep.sel S_15 [0, 1, 2, 3, 4, 5, 6, 7, 8, 9, 10, 11, 12, 13] (by decide)
      have X_14 : Mod [] h0 hp14 := Mod.step (A := [boxO bb4 [(.int .i64 0), (.int .i64 0), (.bool false), (.slice none 0 0), (.slice none 0 0)]]) (L := [ownO (kF .f32) 40 v9 x7.2.2.2.1, ownO (kF .f32) 40 v10 x7.2.2.2.2.1, ownO (kI .i64) 2 v8 x6, boxO bb3 [(.int .i64 x5.1), (.int .i64 x5.2.1), (.bool x5.2.2.1), v6, v7], ownO (kF .f32) 40 v6 x5.2.2.2.1, ownO (kF .f32) 40 v7 x5.2.2.2.2, boxO bb2 [(.int .i64 x4.1), (.int .i64 x4.2.1), (.bool x4.2.2.1), v4, v5], ownO (kF .f32) 40 v4 x4.2.2.2.1, ownO (kF .f32) 40 v5 x4.2.2.2.2.1, ownO (kI .i64) 2 v3 x3, ownO (kF .f32) 40 v1 x2.2.2.2.1, ownO (kF .f32) 40 v2 x2.2.2.2.2, boxO bb1 [(.int .i64 a0_0), (.int .i64 a0_1), (.bool a0_2), u0_3, u0_4]]) X_13 S_16 MT_14
      have S_17 : Sep [] h0.size hp14 [boxO bb4 [(.int .i64 x7.1), (.int .i64 x7.2.1), (.bool x7.2.2.1), v9, v10], ownO (kF .f32) 40 v9 x7.2.2.2.1, ownO (kF .f32) 40 v10 x7.2.2.2.2.1, ownO (kI .i64) 2 v8 x6, boxO bb3 [(.int .i64 x5.1), (.int .i64 x5.2.1), (.bool x5.2.2.1), v6, v7], ownO (kF .f32) 40 v6 x5.2.2.2.1, ownO (kF .f32) 40 v7 x5.2.2.2.2, boxO bb2 [(.int .i64 x4.1), (.int .i64 x4.2.1), (.bool x4.2.2.1), v4, v5], ownO (kF .f32) 40 v4 x4.2.2.2.1, ownO (kF .f32) 40 v5 x4.2.2.2.2.1, ownO (kI .i64) 2 v3 x3, ownO (kF .f32) 40 v1 x2.2.2.2.1, ownO (kF .f32) 40 v2 x2.2.2.2.2, boxO bb1 [(.int .i64 a0_0), (.int .i64 a0_1), (.bool a0_2), u0_3, u0_4]] := Sep.step (A := [boxO bb4 [(.int .i64 0), (.int .i64 0), (.bool false), (.slice none 0 0), (.slice none 0 0)]]) (L := [ownO (kF .f32) 40 v9 x7.2.2.2.1, ownO (kF .f32) 40 v10 x7.2.2.2.2.1, ownO (kI .i64) 2 v8 x6, boxO bb3 [(.int .i64 x5.1), (.int .i64 x5.2.1), (.bool x5.2.2.1), v6, v7], ownO (kF .f32) 40 v6 x5.2.2.2.1, ownO (kF .f32) 40 v7 x5.2.2.2.2, boxO bb2 [(.int .i64 x4.1), (.int .i64 x4.2.1), (.bool x4.2.2.1), v4, v5], ownO (kF .f32) 40 v4 x4.2.2.2.1, ownO (kF .f32) 40 v5 x4.2.2.2.2.1, ownO (kI .i64) 2 v3 x3, ownO (kF .f32) 40 v1 x2.2.2.2.1, ownO (kF .f32) 40 v2 x2.2.2.2.2, boxO bb1 [(.int .i64 a0_0), (.int .i64 a0_1), (.bool a0_2), u0_3, u0_4]]) S_16 (Mod.size X_13) MT_14 T_14
      refine RL.opD (by decide) (opv_assign rfl rfl) ?_
      refine RL.nil ?_
      refine thnN ?_
      refine W.seq ?_
      refine W.seq ?_
      obtain ⟨x8, hy1, hp⟩ := Option.bind_eq_some_iff.1 hp
      refine W.cut (fun φ' h' => Fr.sub [(0, (.agg (List.toArray (α := Value) [(.int .i64 a0_0), (.int .i64 a0_1), (.bool a0_2), u0_3, u0_4]))), (1, (.int .i64 a1)), (2, u2), (3, (.pointer (some ⟨bb1, 0, none⟩))), (6, (.bool false)), (21, (.bool (decide ((a2.length : Int) > 1048576)))), (7, (.int .i64 x1)), (26, (.bool (decide (x1 < 0)))), (8, (.pointer (some ⟨bb2, 0, none⟩))), (9, (.bool x4.2.2.2.2.2)), (10, (.pointer (some ⟨bb3, 0, none⟩))), (11, v8), (12, (.pointer (some ⟨bb4, 0, none⟩))), (13, (.bool x7.2.2.2.2.2)), (55, (.bool x8))] φ' ∧ Mod [] h0 h' ∧ Sep [] h0.size h' [boxO bb4 [(.int .i64 x7.1), (.int .i64 x7.2.1), (.bool x7.2.2.1), v9, v10], ownO (kF .f32) 40 v9 x7.2.2.2.1, ownO (kF .f32) 40 v10 x7.2.2.2.2.1, ownO (kI .i64) 2 v8 x6, boxO bb3 [(.int .i64 x5.1), (.int .i64 x5.2.1), (.bool x5.2.2.1), v6, v7], ownO (kF .f32) 40 v6 x5.2.2.2.1, ownO (kF .f32) 40 v7 x5.2.2.2.2, boxO bb2 [(.int .i64 x4.1), (.int .i64 x4.2.1), (.bool x4.2.2.1), v4, v5], ownO (kF .f32) 40 v4 x4.2.2.2.1, ownO (kF .f32) 40 v5 x4.2.2.2.2.1, ownO (kI .i64) 2 v3 x3, ownO (kF .f32) 40 v1 x2.2.2.2.1, ownO (kF .f32) 40 v2 x2.2.2.2.2, boxO bb1 [(.int .i64 a0_0), (.int .i64 a0_1), (.bool a0_2), u0_3, u0_4]]) ?_ ?_
      · obtain ⟨x9, hx9, hy1⟩ := Option.bind_eq_some_iff.1 hy1
        by_cases c3 : (!x9) = true
        · rw [if_pos c3] at hy1
          refine W.region ?_
          refine RL.opD (by decide) (opv_loadA (us := [(.int .i64 x7.1), (.int .i64 x7.2.1), (.bool x7.2.2.1), v9, v10]) rfl Try.agg29 Try.size29 rfl (Sep.at (o := boxO bb4 [(.int .i64 x7.1), (.int .i64 x7.2.1), (.bool x7.2.2.1), v9, v10]) S_17 0 rfl) rfl rfl) ?_
          refine RL.opD (by decide) (opv_loadA (us := [(.int .i64 x4.1), (.int .i64 x4.2.1), (.bool x4.2.2.1), v4, v5]) rfl Try.agg29 Try.size29 rfl (Sep.at (o := boxO bb2 [(.int .i64 x4.1), (.int .i64 x4.2.1), (.bool x4.2.2.1), v4, v5]) S_17 7 rfl) rfl rfl) ?_
          refine RL.op _ (by decide) (opv_call (cap := []) (laws_eqSheet_ok _ _ _ _ _ _ (ownO.read (Sep.at (o := ownO (kF .f32) 40 v9 x7.2.2.2.1) S_17 1 rfl)) _ _ (ownO.read (Sep.at (o := ownO (kF .f32) 40 v10 x7.2.2.2.2.1) S_17 2 rfl)) _ _ _ _ _ (ownO.read (Sep.at (o := ownO (kF .f32) 40 v4 x4.2.2.2.1) S_17 8 rfl)) _ _ (ownO.read (Sep.at (o := ownO (kF .f32) 40 v5 x4.2.2.2.2.1) S_17 9 rfl)) _ hx9) rfl rfl ⟨rfl, rfl, trivial⟩ Try.func23 rfl rfl) ?_
          rintro _ hp15 ⟨rfl, MT_15, T_15⟩
          have X_15 : Mod [] h0 hp15 := Mod.step (A := []) (L := [boxO bb4 [(.int .i64 x7.1), (.int .i64 x7.2.1), (.bool x7.2.2.1), v9, v10], ownO (kF .f32) 40 v9 x7.2.2.2.1, ownO (kF .f32) 40 v10 x7.2.2.2.2.1, ownO (kI .i64) 2 v8 x6, boxO bb3 [(.int .i64 x5.1), (.int .i64 x5.2.1), (.bool x5.2.2.1), v6, v7], ownO (kF .f32) 40 v6 x5.2.2.2.1, ownO (kF .f32) 40 v7 x5.2.2.2.2, boxO bb2 [(.int .i64 x4.1), (.int .i64 x4.2.1), (.bool x4.2.2.1), v4, v5], ownO (kF .f32) 40 v4 x4.2.2.2.1, ownO (kF .f32) 40 v5 x4.2.2.2.2.1, ownO (kI .i64) 2 v3 x3, ownO (kF .f32) 40 v1 x2.2.2.2.1, ownO (kF .f32) 40 v2 x2.2.2.2.2, boxO bb1 [(.int .i64 a0_0), (.int .i64 a0_1), (.bool a0_2), u0_3, u0_4]]) X_14 S_17 MT_15
          have S_18 : Sep [] h0.size hp15 [boxO bb4 [(.int .i64 x7.1), (.int .i64 x7.2.1), (.bool x7.2.2.1), v9, v10], ownO (kF .f32) 40 v9 x7.2.2.2.1, ownO (kF .f32) 40 v10 x7.2.2.2.2.1, ownO (kI .i64) 2 v8 x6, boxO bb3 [(.int .i64 x5.1), (.int .i64 x5.2.1), (.bool x5.2.2.1), v6, v7], ownO (kF .f32) 40 v6 x5.2.2.2.1, ownO (kF .f32) 40 v7 x5.2.2.2.2, boxO bb2 [(.int .i64 x4.1), (.int .i64 x4.2.1), (.bool x4.2.2.1), v4, v5], ownO (kF .f32) 40 v4 x4.2.2.2.1, ownO (kF .f32) 40 v5 x4.2.2.2.2.1, ownO (kI .i64) 2 v3 x3, ownO (kF .f32) 40 v1 x2.2.2.2.1, ownO (kF .f32) 40 v2 x2.2.2.2.2, boxO bb1 [(.int .i64 a0_0), (.int .i64 a0_1), (.bool a0_2), u0_3, u0_4]] := Sep.step (A := []) (L := [boxO bb4 [(.int .i64 x7.1), (.int .i64 x7.2.1), (.bool x7.2.2.1), v9, v10], ownO (kF .f32) 40 v9 x7.2.2.2.1, ownO (kF .f32) 40 v10 x7.2.2.2.2.1, ownO (kI .i64) 2 v8 x6, boxO bb3 [(.int .i64 x5.1), (.int .i64 x5.2.1), (.bool x5.2.2.1), v6, v7], ownO (kF .f32) 40 v6 x5.2.2.2.1, ownO (kF .f32) 40 v7 x5.2.2.2.2, boxO bb2 [(.int .i64 x4.1), (.int .i64 x4.2.1), (.bool x4.2.2.1), v4, v5], ownO (kF .f32) 40 v4 x4.2.2.2.1, ownO (kF .f32) 40 v5 x4.2.2.2.2.1, ownO (kI .i64) 2 v3 x3, ownO (kF .f32) 40 v1 x2.2.2.2.1, ownO (kF .f32) 40 v2 x2.2.2.2.2, boxO bb1 [(.int .i64 a0_0), (.int .i64 a0_1), (.bool a0_2), u0_3, u0_4]]) S_17 (Mod.size X_14) MT_15 T_15
          refine RL.opD (by decide) (opv_not rfl rfl) ?_
          refine RL.opD (by decide) (opv_move rfl rfl) ?_
          refine RL.no rfl rfl (Eq.trans c3 (by decide)) (by decide) ?_
          refine RL.no rfl rfl (Eq.trans c3 (by decide)) (by decide) ?_
          refine RL.no rfl rfl (Eq.trans c3 (by decide)) (by decide) ?_
          refine RL.opD (by decide) (opv_pick rfl rfl (fun _ => rfl) (fun e => absurd (Eq.trans (Eq.symm e) c3) (by decide)) rfl) ?_
          refine RL.nil ?_
          have ey1 := Option.some.inj hy1
          subst ey1
          refine onlyN ?_
          exact ⟨⟨rfl, rfl, rfl, rfl, rfl, rfl, rfl, rfl, rfl, rfl, rfl, rfl, rfl, rfl, rfl, trivial⟩, X_15, (Sep.sel S_18 [0, 1, 2, 3, 4, 5, 6, 7, 8, 9, 10, 11, 12, 13] (by decide))⟩
        · rw [if_neg c3] at hy1
          have c3 := eq_false_of_ne_true c3
          refine W.region ?_
          refine RL.opD (by decide) (opv_loadA (us := [(.int .i64 x7.1), (.int .i64 x7.2.1), (.bool x7.2.2.1), v9, v10]) rfl Try.agg29 Try.size29 rfl (Sep.at (o := boxO bb4 [(.int .i64 x7.1), (.int .i64 x7.2.1), (.bool x7.2.2.1), v9, v10]) S_17 0 rfl) rfl rfl) ?_
          refine RL.opD (by decide) (opv_loadA (us := [(.int .i64 x4.1), (.int .i64 x4.2.1), (.bool x4.2.2.1), v4, v5]) rfl Try.agg29 Try.size29 rfl (Sep.at (o := boxO bb2 [(.int .i64 x4.1), (.int .i64 x4.2.1), (.bool x4.2.2.1), v4, v5]) S_17 7 rfl) rfl rfl) ?_
          refine RL.op _ (by decide) (opv_call (cap := []) (laws_eqSheet_ok _ _ _ _ _ _ (ownO.read (Sep.at (o := ownO (kF .f32) 40 v9 x7.2.2.2.1) S_17 1 rfl)) _ _ (ownO.read (Sep.at (o := ownO (kF .f32) 40 v10 x7.2.2.2.2.1) S_17 2 rfl)) _ _ _ _ _ (ownO.read (Sep.at (o := ownO (kF .f32) 40 v4 x4.2.2.2.1) S_17 8 rfl)) _ _ (ownO.read (Sep.at (o := ownO (kF .f32) 40 v5 x4.2.2.2.2.1) S_17 9 rfl)) _ hx9) rfl rfl ⟨rfl, rfl, trivial⟩ Try.func23 rfl rfl) ?_
          rintro _ hp15 ⟨rfl, MT_15, T_15⟩
          have X_15 : Mod [] h0 hp15 := Mod.step (A := []) (L := [boxO bb4 [(.int .i64 x7.1), (.int .i64 x7.2.1), (.bool x7.2.2.1), v9, v10], ownO (kF .f32) 40 v9 x7.2.2.2.1, ownO (kF .f32) 40 v10 x7.2.2.2.2.1, ownO (kI .i64) 2 v8 x6, boxO bb3 [(.int .i64 x5.1), (.int .i64 x5.2.1), (.bool x5.2.2.1), v6, v7], ownO (kF .f32) 40 v6 x5.2.2.2.1, ownO (kF .f32) 40 v7 x5.2.2.2.2, boxO bb2 [(.int .i64 x4.1), (.int .i64 x4.2.1), (.bool x4.2.2.1), v4, v5], ownO (kF .f32) 40 v4 x4.2.2.2.1, ownO (kF .f32) 40 v5 x4.2.2.2.2.1, ownO (kI .i64) 2 v3 x3, ownO (kF .f32) 40 v1 x2.2.2.2.1, ownO (kF .f32) 40 v2 x2.2.2.2.2, boxO bb1 [(.int .i64 a0_0), (.int .i64 a0_1), (.bool a0_2), u0_3, u0_4]]) X_14 S_17 MT_15
          have S_18 : Sep [] h0.size hp15 [boxO bb4 [(.int .i64 x7.1), (.int .i64 x7.2.1), (.bool x7.2.2.1), v9, v10], ownO (kF .f32) 40 v9 x7.2.2.2.1, ownO (kF .f32) 40 v10 x7.2.2.2.2.1, ownO (kI .i64) 2 v8 x6, boxO bb3 [(.int .i64 x5.1), (.int .i64 x5.2.1), (.bool x5.2.2.1), v6, v7], ownO (kF .f32) 40 v6 x5.2.2.2.1, ownO (kF .f32) 40 v7 x5.2.2.2.2, boxO bb2 [(.int .i64 x4.1), (.int .i64 x4.2.1), (.bool x4.2.2.1), v4, v5], ownO (kF .f32) 40 v4 x4.2.2.2.1, ownO (kF .f32) 40 v5 x4.2.2.2.2.1, ownO (kI .i64) 2 v3 x3, ownO (kF .f32) 40 v1 x2.2.2.2.1, ownO (kF .f32) 40 v2 x2.2.2.2.2, boxO bb1 [(.int .i64 a0_0), (.int .i64 a0_1), (.bool a0_2), u0_3, u0_4]] := Sep.step (A := []) (L := [boxO bb4 [(.int .i64 x7.1), (.int .i64 x7.2.1), (.bool x7.2.2.1), v9, v10], ownO (kF .f32) 40 v9 x7.2.2.2.1, ownO (kF .f32) 40 v10 x7.2.2.2.2.1, ownO (kI .i64) 2 v8 x6, boxO bb3 [(.int .i64 x5.1), (.int .i64 x5.2.1), (.bool x5.2.2.1), v6, v7], ownO (kF .f32) 40 v6 x5.2.2.2.1, ownO (kF .f32) 40 v7 x5.2.2.2.2, boxO bb2 [(.int .i64 x4.1), (.int .i64 x4.2.1), (.bool x4.2.2.1), v4, v5], ownO (kF .f32) 40 v4 x4.2.2.2.1, ownO (kF .f32) 40 v5 x4.2.2.2.2.1, ownO (kI .i64) 2 v3 x3, ownO (kF .f32) 40 v1 x2.2.2.2.1, ownO (kF .f32) 40 v2 x2.2.2.2.2, boxO bb1 [(.int .i64 a0_0), (.int .i64 a0_1), (.bool a0_2), u0_3, u0_4]]) S_17 (Mod.size X_14) MT_15 T_15
          refine RL.opD (by decide) (opv_not rfl rfl) ?_
          refine RL.opD (by decide) (opv_move rfl rfl) ?_
          refine RL.yes _ rfl rfl c3 (by decide) (opv_move rfl rfl) ?_
          rintro _ _ ⟨rfl, rfl⟩
          refine RL.yes _ rfl rfl c3 (by decide) (opv_move rfl rfl) ?_
          rintro _ _ ⟨rfl, rfl⟩
          refine RL.yes _ rfl rfl c3 (by decide) (opv_bcmp rfl rfl Try.underlying4 rfl rfl) ?_
          rintro _ _ ⟨rfl, rfl⟩
          refine RL.opD (by decide) (opv_pick rfl rfl (fun e => absurd (Eq.trans (Eq.symm e) c3) (by decide)) (fun _ => rfl) rfl) ?_
          refine RL.nil ?_
          have ey1 := Option.some.inj hy1
          subst ey1
          refine onlyN ?_
          exact ⟨⟨rfl, rfl, rfl, rfl, rfl, rfl, rfl, rfl, rfl, rfl, rfl, rfl, rfl, rfl, rfl, trivial⟩, X_15, (Sep.sel S_18 [0, 1, 2, 3, 4, 5, 6, 7, 8, 9, 10, 11, 12, 13] (by decide))⟩
      rintro φ' hp16 ⟨hs1, X_16, S_19⟩
      refine thnN ?_
      refine W.sub hs1 ?_
      by_cases c4 : x8 = true
      · rw [if_pos c4] at hp
        refine W.condT rfl c4 ?_
        refine W.seq ?_
        refine W.region ?_
        refine RL.opD (by decide) (opv_assign rfl rfl) ?_
        refine RL.nil ?_
        refine thnN ?_
        refine W.ret ?_
        refine thnR ?_
        have er := Option.some.inj hp
        subst er
        exact Rt.one rfl rfl ⟨rfl, X_16, (Sep.nil _ _ _)⟩
      · rw [if_neg c4] at hp
        have c4 := eq_false_of_ne_true c4
        refine W.condF rfl c4 ?_
        refine W.skip ?_
        refine thnN ?_
        refine W.seq ?_
        refine W.seq ?_
        obtain ⟨x10, hx10, hp⟩ := Option.bind_eq_some_iff.1 hp
        obtain ⟨x11, hx11, hp⟩ := Option.bind_eq_some_iff.1 hp
        refine W.sub (ψ := [(0, (.agg (List.toArray (α := Value) [(.int .i64 a0_0), (.int .i64 a0_1), (.bool a0_2), u0_3, u0_4]))), (1, (.int .i64 a1)), (2, u2), (3, (.pointer (some ⟨bb1, 0, none⟩))), (6, (.bool false)), (21, (.bool (decide ((a2.length : Int) > 1048576)))), (7, (.int .i64 x1)), (26, (.bool (decide (x1 < 0)))), (8, (.pointer (some ⟨bb2, 0, none⟩))), (9, (.bool x4.2.2.2.2.2)), (10, (.pointer (some ⟨bb3, 0, none⟩))), (11, v8), (12, (.pointer (some ⟨bb4, 0, none⟩))), (13, (.bool x7.2.2.2.2.2)), (55, (.bool x8))]) ⟨rfl, rfl, rfl, rfl, rfl, rfl, rfl, rfl, rfl, rfl, rfl, rfl, rfl, rfl, rfl, trivial⟩ ?_
        refine W.regionM [fun v _ => @Eq Value (.agg (List.toArray (α := Value) [(.int .i64 x5.1), (.int .i64 x5.2.1), (.bool x5.2.2.1), v6, v7])) v, fun v _ => @Eq Value (.agg (List.toArray (α := Value) [(.int .i64 a0_0), (.int .i64 a0_1), (.bool a0_2), u0_3, u0_4])) v, fun v h => ∃ v11, ∃ v12, @Eq Value v (.agg (List.toArray (α := Value) [(.int .i64 x10.1), (.int .i64 x10.2.1), (.bool x10.2.2.1), v11, v12])) ∧ Sep [] hp16.size h [ownO (kF .f32) 40 v11 x10.2.2.2.1, ownO (kF .f32) 40 v12 x10.2.2.2.2], fun v h => @Eq Value v (.bool x11) ∧ Sep [] hp16.size h [], fun v _ => @Eq Value (.bool (!x11)) v] [none, none, some (fun u => [Value.ownBlock (vget u 3), Value.ownBlock (vget u 4)]), some (fun u => []), none] [] [[], [], [1], [0, 2], [3]] [4] Try.mixed (by decide +kernel) (by decide +kernel) rfl rfl rfl (by decide +kernel) rfl ⟨fun _ _ _ h _ => h, fun _ _ _ h _ => h, fun _ _ _ ⟨u0_, u1_, e, h⟩ x => ⟨u0_, u1_, e, h.ext x⟩, fun _ _ _ ⟨e, h⟩ x => ⟨e, h.ext x⟩, fun _ _ _ h _ => h, trivial⟩ ?_ ?_
        · refine ⟨⟨rfl, ?_⟩, ⟨rfl, ?_⟩, ⟨rfl, ?_⟩, ⟨rfl, ?_⟩, ⟨rfl, ?_⟩, trivial⟩
          · rintro hp19 E_1
            refine Dep.nil ?_
            refine GuardOK.none rfl ?_
            exact OpV.toDx (opv_loadA (us := [(.int .i64 x5.1), (.int .i64 x5.2.1), (.bool x5.2.2.1), v6, v7]) rfl Try.agg29 Try.size29 rfl (Sep.at (o := boxO bb3 [(.int .i64 x5.1), (.int .i64 x5.2.1), (.bool x5.2.2.1), v6, v7]) (Sep.ext S_19 E_1) 4 rfl) rfl rfl) rfl
          · rintro hp20 E_2
            refine Dep.nil ?_
            refine GuardOK.none rfl ?_
            exact OpV.toDx (opv_loadA (us := [(.int .i64 a0_0), (.int .i64 a0_1), (.bool a0_2), u0_3, u0_4]) rfl Try.agg24 Try.size24 rfl (Sep.at (o := boxO bb1 [(.int .i64 a0_0), (.int .i64 a0_1), (.bool a0_2), u0_3, u0_4]) (Sep.ext S_19 E_2) 13 rfl) rfl rfl) rfl
          · rintro hp21 E_3 _ rfl
            refine Dep.nil ?_
            refine GuardOK.none rfl ?_
            exact OpV.mono (opv_call (cap := []) (laws_toSheet_ok _ _ _ _ _ _ (SL.up (SL.mod g0_3 (Mod.lift X_16 E_3) (Nat.le_refl _) nob) (Nat.le_trans (Nat.le_refl _) (Mod.size (Mod.lift X_16 E_3)))) _ _ (SL.up (SL.mod g0_4 (Mod.lift X_16 E_3) (Nat.le_refl _) nob) (Nat.le_trans (Nat.le_refl _) (Mod.size (Mod.lift X_16 E_3)))) _ hx10) rfl rfl ⟨rfl, trivial⟩ Try.func20 rfl rfl) (by rintro _ _ ⟨v11, v12, rfl, M_, T_⟩; exact ⟨Mod.ext M_, ⟨v11, v12, rfl, Sep.weak T_ (Ext.size E_3)⟩, Sep.fresh T_⟩)
          · rintro hp22 E_4 _ rfl _ ⟨v11, v12, rfl, T_16⟩
            refine Dep.nil ?_
            refine GuardOK.none rfl ?_
            exact OpV.mono (opv_call (cap := []) (laws_eqSheet_ok _ _ _ _ _ _ (ownO.read (Sep.at (o := ownO (kF .f32) 40 v6 x5.2.2.2.1) (Sep.ext S_19 E_4) 5 rfl)) _ _ (ownO.read (Sep.at (o := ownO (kF .f32) 40 v7 x5.2.2.2.2) (Sep.ext S_19 E_4) 6 rfl)) _ _ _ _ _ (ownO.read (Sep.at (o := ownO (kF .f32) 40 v11 x10.2.2.2.1) T_16 0 rfl)) _ _ (ownO.read (Sep.at (o := ownO (kF .f32) 40 v12 x10.2.2.2.2) T_16 1 rfl)) _ hx11) rfl rfl ⟨rfl, rfl, trivial⟩ Try.func23 rfl rfl) (by rintro _ _ ⟨rfl, M_, T_⟩; exact ⟨Mod.ext M_, ⟨rfl, Sep.weak T_ (Ext.size E_4)⟩, Sep.fresh T_⟩)
          · rintro hp23 E_5 _ ⟨rfl, T_17⟩
            refine Dep.nil ?_
            refine GuardOK.none rfl ?_
            exact OpV.toDx (opv_not rfl rfl) rfl
        rintro hp24 E_6 _ rfl
        refine DepM.nil ?_
        intro _ LK_
        have X_19 : Mod [] h0 hp24 := Mod.lift X_16 E_6
        have S_22 : Sep [] h0.size hp24 [boxO bb4 [(.int .i64 x7.1), (.int .i64 x7.2.1), (.bool x7.2.2.1), v9, v10], ownO (kF .f32) 40 v9 x7.2.2.2.1, ownO (kF .f32) 40 v10 x7.2.2.2.2.1, ownO (kI .i64) 2 v8 x6, boxO bb3 [(.int .i64 x5.1), (.int .i64 x5.2.1), (.bool x5.2.2.1), v6, v7], ownO (kF .f32) 40 v6 x5.2.2.2.1, ownO (kF .f32) 40 v7 x5.2.2.2.2, boxO bb2 [(.int .i64 x4.1), (.int .i64 x4.2.1), (.bool x4.2.2.1), v4, v5], ownO (kF .f32) 40 v4 x4.2.2.2.1, ownO (kF .f32) 40 v5 x4.2.2.2.2.1, ownO (kI .i64) 2 v3 x3, ownO (kF .f32) 40 v1 x2.2.2.2.1, ownO (kF .f32) 40 v2 x2.2.2.2.2, boxO bb1 [(.int .i64 a0_0), (.int .i64 a0_1), (.bool a0_2), u0_3, u0_4]] := Sep.ext S_19 E_6
        show RL _ _ _ _ [] _ _
        refine RL.nil ?_
        refine thnN ?_
        by_cases c5 : (!x11) = true
        · rw [if_pos c5] at hp
          refine W.condT rfl c5 ?_
          refine W.seq ?_
          refine W.region ?_
          refine RL.opD (by decide) (opv_assign rfl rfl) ?_
          refine RL.nil ?_
          refine thnN ?_
          refine W.ret ?_
          refine thnR ?_
          have er := Option.some.inj hp
          subst er
          exact Rt.one rfl rfl ⟨rfl, X_19, (Sep.nil _ _ _)⟩
        · rw [if_neg c5] at hp
          have c5 := eq_false_of_ne_true c5
          refine W.condF rfl c5 ?_
          refine W.skip ?_
          refine thnN ?_
          refine W.seq ?_
          refine W.seq ?_
          obtain ⟨x12, hx12, hp⟩ := Option.bind_eq_some_iff.1 hp
          obtain ⟨x13, hx13, hp⟩ := Option.bind_eq_some_iff.1 hp
          refine W.region ?_
          refine RL.opD (by decide) (opv_move rfl rfl) ?_
          refine RL.opD (by decide) (opv_move rfl rfl) ?_
          refine RL.op _ (by decide) (opv_call (cap := []) (laws_toInt64S_ok _ _ _ (SL.up (SL.mod g2 X_19 (Nat.le_refl _) nob) (Nat.le_trans (Nat.le_refl _) (Mod.size X_19))) _ hx12) rfl rfl ⟨rfl, trivial⟩ Try.func61 rfl rfl) ?_
          rintro v15 hp25 ⟨MT_18, T_18⟩
          have X_20 : Mod [] h0 hp25 := Mod.step (A := []) (L := [boxO bb4 [(.int .i64 x7.1), (.int .i64 x7.2.1), (.bool x7.2.2.1), v9, v10], ownO (kF .f32) 40 v9 x7.2.2.2.1, ownO (kF .f32) 40 v10 x7.2.2.2.2.1, ownO (kI .i64) 2 v8 x6, boxO bb3 [(.int .i64 x5.1), (.int .i64 x5.2.1), (.bool x5.2.2.1), v6, v7], ownO (kF .f32) 40 v6 x5.2.2.2.1, ownO (kF .f32) 40 v7 x5.2.2.2.2, boxO bb2 [(.int .i64 x4.1), (.int .i64 x4.2.1), (.bool x4.2.2.1), v4, v5], ownO (kF .f32) 40 v4 x4.2.2.2.1, ownO (kF .f32) 40 v5 x4.2.2.2.2.1, ownO (kI .i64) 2 v3 x3, ownO (kF .f32) 40 v1 x2.2.2.2.1, ownO (kF .f32) 40 v2 x2.2.2.2.2, boxO bb1 [(.int .i64 a0_0), (.int .i64 a0_1), (.bool a0_2), u0_3, u0_4]]) X_19 S_22 MT_18
          have S_23 : Sep [] h0.size hp25 [ownO (kI .i64) 2 v15 x12, boxO bb4 [(.int .i64 x7.1), (.int .i64 x7.2.1), (.bool x7.2.2.1), v9, v10], ownO (kF .f32) 40 v9 x7.2.2.2.1, ownO (kF .f32) 40 v10 x7.2.2.2.2.1, ownO (kI .i64) 2 v8 x6, boxO bb3 [(.int .i64 x5.1), (.int .i64 x5.2.1), (.bool x5.2.2.1), v6, v7], ownO (kF .f32) 40 v6 x5.2.2.2.1, ownO (kF .f32) 40 v7 x5.2.2.2.2, boxO bb2 [(.int .i64 x4.1), (.int .i64 x4.2.1), (.bool x4.2.2.1), v4, v5], ownO (kF .f32) 40 v4 x4.2.2.2.1, ownO (kF .f32) 40 v5 x4.2.2.2.2.1, ownO (kI .i64) 2 v3 x3, ownO (kF .f32) 40 v1 x2.2.2.2.1, ownO (kF .f32) 40 v2 x2.2.2.2.2, boxO bb1 [(.int .i64 a0_0), (.int .i64 a0_1), (.bool a0_2), u0_3, u0_4]] := Sep.step (A := []) (L := [boxO bb4 [(.int .i64 x7.1), (.int .i64 x7.2.1), (.bool x7.2.2.1), v9, v10], ownO (kF .f32) 40 v9 x7.2.2.2.1, ownO (kF .f32) 40 v10 x7.2.2.2.2.1, ownO (kI .i64) 2 v8 x6, boxO bb3 [(.int .i64 x5.1), (.int .i64 x5.2.1), (.bool x5.2.2.1), v6, v7], ownO (kF .f32) 40 v6 x5.2.2.2.1, ownO (kF .f32) 40 v7 x5.2.2.2.2, boxO bb2 [(.int .i64 x4.1), (.int .i64 x4.2.1), (.bool x4.2.2.1), v4, v5], ownO (kF .f32) 40 v4 x4.2.2.2.1, ownO (kF .f32) 40 v5 x4.2.2.2.2.1, ownO (kI .i64) 2 v3 x3, ownO (kF .f32) 40 v1 x2.2.2.2.1, ownO (kF .f32) 40 v2 x2.2.2.2.2, boxO bb1 [(.int .i64 a0_0), (.int .i64 a0_1), (.bool a0_2), u0_3, u0_4]]) S_22 (Mod.size X_19) MT_18 T_18
          refine RL.op _ (by decide) (opv_call (cap := []) (laws_eqInt64S_ok _ _ _ (ownO.read (Sep.at (o := ownO (kI .i64) 2 v8 x6) S_23 4 rfl)) _ _ (ownO.read (Sep.at (o := ownO (kI .i64) 2 v15 x12) S_23 0 rfl)) _ hx13) rfl rfl ⟨rfl, rfl, trivial⟩ Try.func43 rfl rfl) ?_
          rintro _ _ ⟨rfl, rfl⟩
          refine RL.opD (by decide) (opv_not rfl rfl) ?_
          refine RL.nil ?_
          refine thnN ?_
          by_cases c6 : (!x13) = true
          · rw [if_pos c6] at hp
            refine W.condT rfl c6 ?_
            refine W.seq ?_
            refine W.region ?_
            refine RL.opD (by decide) (opv_assign rfl rfl) ?_
            refine RL.nil ?_
            refine thnN ?_
            refine W.ret ?_
            refine thnR ?_
            have er := Option.some.inj hp
            subst er
            exact Rt.one rfl rfl ⟨rfl, X_20, (Sep.nil _ _ _)⟩
          · rw [if_neg c6] at hp
            have c6 := eq_false_of_ne_true c6
            refine W.condF rfl c6 ?_
            refine W.skip ?_
            refine thnN ?_
            refine W.seq ?_
            refine W.region ?_
            refine RL.opD (by decide) (opv_assign rfl rfl) ?_
            refine RL.nil ?_
            refine thnN ?_
            refine W.seq ?_
            obtain ⟨x14, hx14, hp⟩ := Option.bind_eq_some_iff.1 hp
            refine W.region ?_
            refine RL.opD (by decide) (opv_loadA (us := [(.int .i64 x5.1), (.int .i64 x5.2.1), (.bool x5.2.2.1), v6, v7]) rfl Try.agg29 Try.size29 rfl (Sep.at (o := boxO bb3 [(.int .i64 x5.1), (.int .i64 x5.2.1), (.bool x5.2.2.1), v6, v7]) S_23 5 rfl) rfl rfl) ?_
            refine RL.opD (by decide) (opv_move rfl rfl) ?_
            have S_25 : Sep [] h0.size hp25 [ownO (kF .f32) 40 v6 x5.2.2.2.1, ownO (kF .f32) 40 v7 x5.2.2.2.2] := Sep.sel S_23 [6, 7] (by decide)
            have S_24 : Sep [v6.ownBlock, v7.ownBlock] hp25.size hp25 [ownO (kF .f32) 40 v6 x5.2.2.2.1, ownO (kF .f32) 40 v7 x5.2.2.2.2] := Sep.own S_25 _
            refine RL.op _ (by decide) (opv_call (cap := []) (laws_markSheet_ok _ h0.size (Nat.le_trans (Nat.le_refl _) (Mod.size X_20)) _ _ _ _ _ _ _ _ S_24 (Sep.ge (L := [ownO (kF .f32) 40 v6 x5.2.2.2.1, ownO (kF .f32) 40 v7 x5.2.2.2.2]) S_25 (Nat.le_refl _) nob) _ hx14) rfl rfl ⟨rfl, rfl, trivial⟩ Try.func44 rfl rfl) ?_
            rintro _ hp26 ⟨rfl, MT_19, T_19⟩
            have S_26 : Sep [] h0.size hp25 ([ownO (kF .f32) 40 v6 x5.2.2.2.1, ownO (kF .f32) 40 v7 x5.2.2.2.2] ++ [ownO (kI .i64) 2 v15 x12, boxO bb4 [(.int .i64 x7.1), (.int .i64 x7.2.1), (.bool x7.2.2.1), v9, v10], ownO (kF .f32) 40 v9 x7.2.2.2.1, ownO (kF .f32) 40 v10 x7.2.2.2.2.1, ownO (kI .i64) 2 v8 x6, boxO bb3 [(.int .i64 x5.1), (.int .i64 x5.2.1), (.bool x5.2.2.1), v6, v7], boxO bb2 [(.int .i64 x4.1), (.int .i64 x4.2.1), (.bool x4.2.2.1), v4, v5], ownO (kF .f32) 40 v4 x4.2.2.2.1, ownO (kF .f32) 40 v5 x4.2.2.2.2.1, ownO (kI .i64) 2 v3 x3, ownO (kF .f32) 40 v1 x2.2.2.2.1, ownO (kF .f32) 40 v2 x2.2.2.2.2, boxO bb1 [(.int .i64 a0_0), (.int .i64 a0_1), (.bool a0_2), u0_3, u0_4]]) := Sep.sel S_23 [6, 7, 0, 1, 2, 3, 4, 5, 8, 9, 10, 11, 12, 13, 14] (by decide)
            have X_21 : Mod [] h0 hp26 := Mod.step (A := [ownO (kF .f32) 40 v6 x5.2.2.2.1, ownO (kF .f32) 40 v7 x5.2.2.2.2]) (L := [ownO (kI .i64) 2 v15 x12, boxO bb4 [(.int .i64 x7.1), (.int .i64 x7.2.1), (.bool x7.2.2.1), v9, v10], ownO (kF .f32) 40 v9 x7.2.2.2.1, ownO (kF .f32) 40 v10 x7.2.2.2.2.1, ownO (kI .i64) 2 v8 x6, boxO bb3 [(.int .i64 x5.1), (.int .i64 x5.2.1), (.bool x5.2.2.1), v6, v7], boxO bb2 [(.int .i64 x4.1), (.int .i64 x4.2.1), (.bool x4.2.2.1), v4, v5], ownO (kF .f32) 40 v4 x4.2.2.2.1, ownO (kF .f32) 40 v5 x4.2.2.2.2.1, ownO (kI .i64) 2 v3 x3, ownO (kF .f32) 40 v1 x2.2.2.2.1, ownO (kF .f32) 40 v2 x2.2.2.2.2, boxO bb1 [(.int .i64 a0_0), (.int .i64 a0_1), (.bool a0_2), u0_3, u0_4]]) X_20 S_26 MT_19
            have S_27 : Sep [] h0.size hp26 [ownO (kF .f32) 40 v6 x14.2.1, ownO (kF .f32) 40 v7 x14.2.2, ownO (kI .i64) 2 v15 x12, boxO bb4 [(.int .i64 x7.1), (.int .i64 x7.2.1), (.bool x7.2.2.1), v9, v10], ownO (kF .f32) 40 v9 x7.2.2.2.1, ownO (kF .f32) 40 v10 x7.2.2.2.2.1, ownO (kI .i64) 2 v8 x6, boxO bb3 [(.int .i64 x5.1), (.int .i64 x5.2.1), (.bool x5.2.2.1), v6, v7], boxO bb2 [(.int .i64 x4.1), (.int .i64 x4.2.1), (.bool x4.2.2.1), v4, v5], ownO (kF .f32) 40 v4 x4.2.2.2.1, ownO (kF .f32) 40 v5 x4.2.2.2.2.1, ownO (kI .i64) 2 v3 x3, ownO (kF .f32) 40 v1 x2.2.2.2.1, ownO (kF .f32) 40 v2 x2.2.2.2.2, boxO bb1 [(.int .i64 a0_0), (.int .i64 a0_1), (.bool a0_2), u0_3, u0_4]] := Sep.step (A := [ownO (kF .f32) 40 v6 x5.2.2.2.1, ownO (kF .f32) 40 v7 x5.2.2.2.2]) (L := [ownO (kI .i64) 2 v15 x12, boxO bb4 [(.int .i64 x7.1), (.int .i64 x7.2.1), (.bool x7.2.2.1), v9, v10], ownO (kF .f32) 40 v9 x7.2.2.2.1, ownO (kF .f32) 40 v10 x7.2.2.2.2.1, ownO (kI .i64) 2 v8 x6, boxO bb3 [(.int .i64 x5.1), (.int .i64 x5.2.1), (.bool x5.2.2.1), v6, v7], boxO bb2 [(.int .i64 x4.1), (.int .i64 x4.2.1), (.bool x4.2.2.1), v4, v5], ownO (kF .f32) 40 v4 x4.2.2.2.1, ownO (kF .f32) 40 v5 x4.2.2.2.2.1, ownO (kI .i64) 2 v3 x3, ownO (kF .f32) 40 v1 x2.2.2.2.1, ownO (kF .f32) 40 v2 x2.2.2.2.2, boxO bb1 [(.int .i64 a0_0), (.int .i64 a0_1), (.bool a0_2), u0_3, u0_4]]) S_26 (Mod.size X_20) MT_19 T_19
            refine RL.opD (by decide) (opv_assign rfl rfl) ?_
            refine RL.nil ?_
            refine thnN ?_
            refine W.seq ?_
            obtain ⟨x15, hx15, hp⟩ := Option.bind_eq_some_iff.1 hp
            refine W.region ?_
            refine RL.opD (by decide) (opv_move rfl rfl) ?_
            refine RL.opD (by decide) (opv_move rfl rfl) ?_
            have S_29 : Sep [] h0.size hp26 [ownO (kI .i64) 2 v8 x6] := Sep.sel S_27 [6] (by decide)
            have S_28 : Sep [v8.ownBlock] hp26.size hp26 [ownO (kI .i64) 2 v8 x6] := Sep.own S_29 _
            refine RL.op _ (by decide) (opv_call (cap := []) (laws_markInt64S_ok _ h0.size (Nat.le_trans (Nat.le_refl _) (Mod.size X_21)) _ _ _ S_28 (Sep.ge (L := [ownO (kI .i64) 2 v8 x6]) S_29 (Nat.le_refl _) nob) _ hx15) rfl rfl ⟨rfl, rfl, trivial⟩ Try.func45 rfl rfl) ?_
            rintro _ hp27 ⟨rfl, MT_20, T_20⟩
            have S_30 : Sep [] h0.size hp26 ([ownO (kI .i64) 2 v8 x6] ++ [ownO (kF .f32) 40 v6 x14.2.1, ownO (kF .f32) 40 v7 x14.2.2, ownO (kI .i64) 2 v15 x12, boxO bb4 [(.int .i64 x7.1), (.int .i64 x7.2.1), (.bool x7.2.2.1), v9, v10], ownO (kF .f32) 40 v9 x7.2.2.2.1, ownO (kF .f32) 40 v10 x7.2.2.2.2.1, boxO bb3 [(.int .i64 x5.1), (.int .i64 x5.2.1), (.bool x5.2.2.1), v6, v7], boxO bb2 [(.int .i64 x4.1), (.int .i64 x4.2.1), (.bool x4.2.2.1), v4, v5], ownO (kF .f32) 40 v4 x4.2.2.2.1, ownO (kF .f32) 40 v5 x4.2.2.2.2.1, ownO (kI .i64) 2 v3 x3, ownO (kF .f32) 40 v1 x2.2.2.2.1, ownO (kF .f32) 40 v2 x2.2.2.2.2, boxO bb1 [(.int .i64 a0_0), (.int .i64 a0_1), (.bool a0_2), u0_3, u0_4]]) := Sep.sel S_27 [6, 0, 1, 2, 3, 4, 5, 7, 8, 9, 10, 11, 12, 13, 14] (by decide)
            have X_22 : Mod [] h0 hp27 := Mod.step (A := [ownO (kI .i64) 2 v8 x6]) (L := [ownO (kF .f32) 40 v6 x14.2.1, ownO (kF .f32) 40 v7 x14.2.2, ownO (kI .i64) 2 v15 x12, boxO bb4 [(.int .i64 x7.1), (.int .i64 x7.2.1), (.bool x7.2.2.1), v9, v10], ownO (kF .f32) 40 v9 x7.2.2.2.1, ownO (kF .f32) 40 v10 x7.2.2.2.2.1, boxO bb3 [(.int .i64 x5.1), (.int .i64 x5.2.1), (.bool x5.2.2.1), v6, v7], boxO bb2 [(.int .i64 x4.1), (.int .i64 x4.2.1), (.bool x4.2.2.1), v4, v5], ownO (kF .f32) 40 v4 x4.2.2.2.1, ownO (kF .f32) 40 v5 x4.2.2.2.2.1, ownO (kI .i64) 2 v3 x3, ownO (kF .f32) 40 v1 x2.2.2.2.1, ownO (kF .f32) 40 v2 x2.2.2.2.2, boxO bb1 [(.int .i64 a0_0), (.int .i64 a0_1), (.bool a0_2), u0_3, u0_4]]) X_21 S_30 MT_20
            have S_31 : Sep [] h0.size hp27 [ownO (kI .i64) 2 v8 x15.2, ownO (kF .f32) 40 v6 x14.2.1, ownO (kF .f32) 40 v7 x14.2.2, ownO (kI .i64) 2 v15 x12, boxO bb4 [(.int .i64 x7.1), (.int .i64 x7.2.1), (.bool x7.2.2.1), v9, v10], ownO (kF .f32) 40 v9 x7.2.2.2.1, ownO (kF .f32) 40 v10 x7.2.2.2.2.1, boxO bb3 [(.int .i64 x5.1), (.int .i64 x5.2.1), (.bool x5.2.2.1), v6, v7], boxO bb2 [(.int .i64 x4.1), (.int .i64 x4.2.1), (.bool x4.2.2.1), v4, v5], ownO (kF .f32) 40 v4 x4.2.2.2.1, ownO (kF .f32) 40 v5 x4.2.2.2.2.1, ownO (kI .i64) 2 v3 x3, ownO (kF .f32) 40 v1 x2.2.2.2.1, ownO (kF .f32) 40 v2 x2.2.2.2.2, boxO bb1 [(.int .i64 a0_0), (.int .i64 a0_1), (.bool a0_2), u0_3, u0_4]] := Sep.step (A := [ownO (kI .i64) 2 v8 x6]) (L := [ownO (kF .f32) 40 v6 x14.2.1, ownO (kF .f32) 40 v7 x14.2.2, ownO (kI .i64) 2 v15 x12, boxO bb4 [(.int .i64 x7.1), (.int .i64 x7.2.1), (.bool x7.2.2.1), v9, v10], ownO (kF .f32) 40 v9 x7.2.2.2.1, ownO (kF .f32) 40 v10 x7.2.2.2.2.1, boxO bb3 [(.int .i64 x5.1), (.int .i64 x5.2.1), (.bool x5.2.2.1), v6, v7], boxO bb2 [(.int .i64 x4.1), (.int .i64 x4.2.1), (.bool x4.2.2.1), v4, v5], ownO (kF .f32) 40 v4 x4.2.2.2.1, ownO (kF .f32) 40 v5 x4.2.2.2.2.1, ownO (kI .i64) 2 v3 x3, ownO (kF .f32) 40 v1 x2.2.2.2.1, ownO (kF .f32) 40 v2 x2.2.2.2.2, boxO bb1 [(.int .i64 a0_0), (.int .i64 a0_1), (.bool a0_2), u0_3, u0_4]]) S_30 (Mod.size X_21) MT_20 T_20
            refine RL.opD (by decide) (opv_assign rfl rfl) ?_
            refine RL.nil ?_
            refine thnN ?_
            refine W.seq ?_
            refine W.seq ?_
            obtain ⟨x16, hy2, hp⟩ := Option.bind_eq_some_iff.1 hp
            refine W.cut (fun φ' h' => Fr.sub [(0, (.agg (List.toArray (α := Value) [(.int .i64 a0_0), (.int .i64 a0_1), (.bool a0_2), u0_3, u0_4]))), (1, (.int .i64 a1)), (2, u2), (3, (.pointer (some ⟨bb1, 0, none⟩))), (6, (.bool false)), (21, (.bool (decide ((a2.length : Int) > 1048576)))), (7, (.int .i64 x1)), (26, (.bool (decide (x1 < 0)))), (8, (.pointer (some ⟨bb2, 0, none⟩))), (9, (.bool x4.2.2.2.2.2)), (10, (.pointer (some ⟨bb3, 0, none⟩))), (11, v8), (12, (.pointer (some ⟨bb4, 0, none⟩))), (13, (.bool x7.2.2.2.2.2)), (55, (.bool x8)), (60, (.bool (!x11))), (65, (.bool (!x13))), (14, (.int .i64 x15.1)), (84, (.bool x16))] φ' ∧ Mod [] h0 h' ∧ Sep [] h0.size h' [ownO (kI .i64) 2 v8 x15.2, ownO (kF .f32) 40 v6 x14.2.1, ownO (kF .f32) 40 v7 x14.2.2, ownO (kI .i64) 2 v15 x12, boxO bb4 [(.int .i64 x7.1), (.int .i64 x7.2.1), (.bool x7.2.2.1), v9, v10], ownO (kF .f32) 40 v9 x7.2.2.2.1, ownO (kF .f32) 40 v10 x7.2.2.2.2.1, boxO bb3 [(.int .i64 x5.1), (.int .i64 x5.2.1), (.bool x5.2.2.1), v6, v7], boxO bb2 [(.int .i64 x4.1), (.int .i64 x4.2.1), (.bool x4.2.2.1), v4, v5], ownO (kF .f32) 40 v4 x4.2.2.2.1, ownO (kF .f32) 40 v5 x4.2.2.2.2.1, ownO (kI .i64) 2 v3 x3, ownO (kF .f32) 40 v1 x2.2.2.2.1, ownO (kF .f32) 40 v2 x2.2.2.2.2, boxO bb1 [(.int .i64 a0_0), (.int .i64 a0_1), (.bool a0_2), u0_3, u0_4]]) ?_ ?_
            · by_cases c7 : (decide (x15.1 < 0)) = true
              · rw [if_pos c7] at hy2
                refine W.region ?_
                refine RL.opD (by decide) (opv_move rfl rfl) ?_
                refine RL.opD (by decide) (opv_icmp rfl rfl rfl rfl) ?_
                refine RL.opD (by decide) (opv_move rfl rfl) ?_
                refine RL.no rfl rfl (Eq.trans c7 (by decide)) (by decide) ?_
                refine RL.no rfl rfl (Eq.trans c7 (by decide)) (by decide) ?_
                refine RL.no rfl rfl (Eq.trans c7 (by decide)) (by decide) ?_
                refine RL.no rfl rfl (Eq.trans c7 (by decide)) (by decide) ?_
                refine RL.opD (by decide) (opv_pick rfl rfl (fun _ => rfl) (fun e => absurd (Eq.trans (Eq.symm e) c7) (by decide)) rfl) ?_
                refine RL.opD (by decide) (opv_move rfl rfl) ?_
                refine RL.no rfl rfl (Eq.trans rfl (by decide)) (by decide) ?_
                refine RL.no rfl rfl (Eq.trans rfl (by decide)) (by decide) ?_
                refine RL.no rfl rfl (Eq.trans rfl (by decide)) (by decide) ?_
                refine RL.opD (by decide) (opv_pick rfl rfl (fun _ => rfl) (fun e => absurd (Eq.trans (Eq.symm e) rfl) (by decide)) rfl) ?_
                refine RL.nil ?_
                have ey2 := Option.some.inj hy2
                subst ey2
                refine onlyN ?_
                exact ⟨⟨rfl, rfl, rfl, rfl, rfl, rfl, rfl, rfl, rfl, rfl, rfl, rfl, rfl, rfl, rfl, rfl, rfl, rfl, rfl, trivial⟩, X_22, (Sep.sel S_31 [0, 1, 2, 3, 4, 5, 6, 7, 8, 9, 10, 11, 12, 13, 14] (by decide))⟩
              · rw [if_neg c7] at hy2
                have c7 := eq_false_of_ne_true c7
                obtain ⟨x17, hx17, hy2⟩ := Option.bind_eq_some_iff.1 hy2
                by_cases c8 : (!x17) = true
                · rw [if_pos c8] at hy2
                  refine W.region ?_
                  refine RL.opD (by decide) (opv_move rfl rfl) ?_
                  refine RL.opD (by decide) (opv_icmp rfl rfl rfl rfl) ?_
                  refine RL.opD (by decide) (opv_move rfl rfl) ?_
                  refine RL.yes _ rfl rfl c7 (by decide) (opv_loadA (us := [(.int .i64 x7.1), (.int .i64 x7.2.1), (.bool x7.2.2.1), v9, v10]) rfl Try.agg29 Try.size29 rfl (Sep.at (o := boxO bb4 [(.int .i64 x7.1), (.int .i64 x7.2.1), (.bool x7.2.2.1), v9, v10]) S_31 4 rfl) rfl rfl) ?_
                  rintro _ _ ⟨rfl, rfl⟩
                  refine RL.yes _ rfl rfl c7 (by decide) (opv_loadA (us := [(.int .i64 x4.1), (.int .i64 x4.2.1), (.bool x4.2.2.1), v4, v5]) rfl Try.agg29 Try.size29 rfl (Sep.at (o := boxO bb2 [(.int .i64 x4.1), (.int .i64 x4.2.1), (.bool x4.2.2.1), v4, v5]) S_31 8 rfl) rfl rfl) ?_
                  rintro _ _ ⟨rfl, rfl⟩
                  refine RL.yes _ rfl rfl c7 (by decide) (opv_call (cap := []) (laws_eqSheet_ok _ _ _ _ _ _ (ownO.read (Sep.at (o := ownO (kF .f32) 40 v9 x7.2.2.2.1) S_31 5 rfl)) _ _ (ownO.read (Sep.at (o := ownO (kF .f32) 40 v10 x7.2.2.2.2.1) S_31 6 rfl)) _ _ _ _ _ (ownO.read (Sep.at (o := ownO (kF .f32) 40 v4 x4.2.2.2.1) S_31 9 rfl)) _ _ (ownO.read (Sep.at (o := ownO (kF .f32) 40 v5 x4.2.2.2.2.1) S_31 10 rfl)) _ hx17) rfl rfl ⟨rfl, rfl, trivial⟩ Try.func23 rfl rfl) ?_
                  rintro _ hp28 ⟨rfl, MT_21, T_21⟩
                  have X_23 : Mod [] h0 hp28 := Mod.step (A := []) (L := [ownO (kI .i64) 2 v8 x15.2, ownO (kF .f32) 40 v6 x14.2.1, ownO (kF .f32) 40 v7 x14.2.2, ownO (kI .i64) 2 v15 x12, boxO bb4 [(.int .i64 x7.1), (.int .i64 x7.2.1), (.bool x7.2.2.1), v9, v10], ownO (kF .f32) 40 v9 x7.2.2.2.1, ownO (kF .f32) 40 v10 x7.2.2.2.2.1, boxO bb3 [(.int .i64 x5.1), (.int .i64 x5.2.1), (.bool x5.2.2.1), v6, v7], boxO bb2 [(.int .i64 x4.1), (.int .i64 x4.2.1), (.bool x4.2.2.1), v4, v5], ownO (kF .f32) 40 v4 x4.2.2.2.1, ownO (kF .f32) 40 v5 x4.2.2.2.2.1, ownO (kI .i64) 2 v3 x3, ownO (kF .f32) 40 v1 x2.2.2.2.1, ownO (kF .f32) 40 v2 x2.2.2.2.2, boxO bb1 [(.int .i64 a0_0), (.int .i64 a0_1), (.bool a0_2), u0_3, u0_4]]) X_22 S_31 MT_21
                  have S_32 : Sep [] h0.size hp28 [ownO (kI .i64) 2 v8 x15.2, ownO (kF .f32) 40 v6 x14.2.1, ownO (kF .f32) 40 v7 x14.2.2, ownO (kI .i64) 2 v15 x12, boxO bb4 [(.int .i64 x7.1), (.int .i64 x7.2.1), (.bool x7.2.2.1), v9, v10], ownO (kF .f32) 40 v9 x7.2.2.2.1, ownO (kF .f32) 40 v10 x7.2.2.2.2.1, boxO bb3 [(.int .i64 x5.1), (.int .i64 x5.2.1), (.bool x5.2.2.1), v6, v7], boxO bb2 [(.int .i64 x4.1), (.int .i64 x4.2.1), (.bool x4.2.2.1), v4, v5], ownO (kF .f32) 40 v4 x4.2.2.2.1, ownO (kF .f32) 40 v5 x4.2.2.2.2.1, ownO (kI .i64) 2 v3 x3, ownO (kF .f32) 40 v1 x2.2.2.2.1, ownO (kF .f32) 40 v2 x2.2.2.2.2, boxO bb1 [(.int .i64 a0_0), (.int .i64 a0_1), (.bool a0_2), u0_3, u0_4]] := Sep.step (A := []) (L := [ownO (kI .i64) 2 v8 x15.2, ownO (kF .f32) 40 v6 x14.2.1, ownO (kF .f32) 40 v7 x14.2.2, ownO (kI .i64) 2 v15 x12, boxO bb4 [(.int .i64 x7.1), (.int .i64 x7.2.1), (.bool x7.2.2.1), v9, v10], ownO (kF .f32) 40 v9 x7.2.2.2.1, ownO (kF .f32) 40 v10 x7.2.2.2.2.1, boxO bb3 [(.int .i64 x5.1), (.int .i64 x5.2.1), (.bool x5.2.2.1), v6, v7], boxO bb2 [(.int .i64 x4.1), (.int .i64 x4.2.1), (.bool x4.2.2.1), v4, v5], ownO (kF .f32) 40 v4 x4.2.2.2.1, ownO (kF .f32) 40 v5 x4.2.2.2.2.1, ownO (kI .i64) 2 v3 x3, ownO (kF .f32) 40 v1 x2.2.2.2.1, ownO (kF .f32) 40 v2 x2.2.2.2.2, boxO bb1 [(.int .i64 a0_0), (.int .i64 a0_1), (.bool a0_2), u0_3, u0_4]]) S_31 (Mod.size X_22) MT_21 T_21
                  refine RL.yes _ rfl rfl c7 (by decide) (opv_not rfl rfl) ?_
                  rintro _ _ ⟨rfl, rfl⟩
                  refine RL.opD (by decide) (opv_pick rfl rfl (fun e => absurd (Eq.trans (Eq.symm e) c7) (by decide)) (fun _ => rfl) rfl) ?_
                  refine RL.opD (by decide) (opv_move rfl rfl) ?_
                  refine RL.no rfl rfl (Eq.trans c8 (by decide)) (by decide) ?_
                  refine RL.no rfl rfl (Eq.trans c8 (by decide)) (by decide) ?_
                  refine RL.no rfl rfl (Eq.trans c8 (by decide)) (by decide) ?_
                  refine RL.opD (by decide) (opv_pick rfl rfl (fun _ => rfl) (fun e => absurd (Eq.trans (Eq.symm e) c8) (by decide)) rfl) ?_
                  refine RL.nil ?_
                  have ey2 := Option.some.inj hy2
                  subst ey2
                  refine onlyN ?_
                  exact ⟨⟨rfl, rfl, rfl, rfl, rfl, rfl, rfl, rfl, rfl, rfl, rfl, rfl, rfl, rfl, rfl, rfl, rfl, rfl, rfl, trivial⟩, X_23, (Sep.sel S_32 [0, 1, 2, 3, 4, 5, 6, 7, 8, 9, 10, 11, 12, 13, 14] (by decide))⟩
                · rw [if_neg c8] at hy2
                  have c8 := eq_false_of_ne_true c8
                  refine W.region ?_
                  refine RL.opD (by decide) (opv_move rfl rfl) ?_
                  refine RL.opD (by decide) (opv_icmp rfl rfl rfl rfl) ?_
                  refine RL.opD (by decide) (opv_move rfl rfl) ?_
                  refine RL.yes _ rfl rfl c7 (by decide) (opv_loadA (us := [(.int .i64 x7.1), (.int .i64 x7.2.1), (.bool x7.2.2.1), v9, v10]) rfl Try.agg29 Try.size29 rfl (Sep.at (o := boxO bb4 [(.int .i64 x7.1), (.int .i64 x7.2.1), (.bool x7.2.2.1), v9, v10]) S_31 4 rfl) rfl rfl) ?_
                  rintro _ _ ⟨rfl, rfl⟩
                  refine RL.yes _ rfl rfl c7 (by decide) (opv_loadA (us := [(.int .i64 x4.1), (.int .i64 x4.2.1), (.bool x4.2.2.1), v4, v5]) rfl Try.agg29 Try.size29 rfl (Sep.at (o := boxO bb2 [(.int .i64 x4.1), (.int .i64 x4.2.1), (.bool x4.2.2.1), v4, v5]) S_31 8 rfl) rfl rfl) ?_
                  rintro _ _ ⟨rfl, rfl⟩
                  refine RL.yes _ rfl rfl c7 (by decide) (opv_call (cap := []) (laws_eqSheet_ok _ _ _ _ _ _ (ownO.read (Sep.at (o := ownO (kF .f32) 40 v9 x7.2.2.2.1) S_31 5 rfl)) _ _ (ownO.read (Sep.at (o := ownO (kF .f32) 40 v10 x7.2.2.2.2.1) S_31 6 rfl)) _ _ _ _ _ (ownO.read (Sep.at (o := ownO (kF .f32) 40 v4 x4.2.2.2.1) S_31 9 rfl)) _ _ (ownO.read (Sep.at (o := ownO (kF .f32) 40 v5 x4.2.2.2.2.1) S_31 10 rfl)) _ hx17) rfl rfl ⟨rfl, rfl, trivial⟩ Try.func23 rfl rfl) ?_
                  rintro _ hp28 ⟨rfl, MT_21, T_21⟩
                  have X_23 : Mod [] h0 hp28 := Mod.step (A := []) (L := [ownO (kI .i64) 2 v8 x15.2, ownO (kF .f32) 40 v6 x14.2.1, ownO (kF .f32) 40 v7 x14.2.2, ownO (kI .i64) 2 v15 x12, boxO bb4 [(.int .i64 x7.1), (.int .i64 x7.2.1), (.bool x7.2.2.1), v9, v10], ownO (kF .f32) 40 v9 x7.2.2.2.1, ownO (kF .f32) 40 v10 x7.2.2.2.2.1, boxO bb3 [(.int .i64 x5.1), (.int .i64 x5.2.1), (.bool x5.2.2.1), v6, v7], boxO bb2 [(.int .i64 x4.1), (.int .i64 x4.2.1), (.bool x4.2.2.1), v4, v5], ownO (kF .f32) 40 v4 x4.2.2.2.1, ownO (kF .f32) 40 v5 x4.2.2.2.2.1, ownO (kI .i64) 2 v3 x3, ownO (kF .f32) 40 v1 x2.2.2.2.1, ownO (kF .f32) 40 v2 x2.2.2.2.2, boxO bb1 [(.int .i64 a0_0), (.int .i64 a0_1), (.bool a0_2), u0_3, u0_4]]) X_22 S_31 MT_21
                  have S_32 : Sep [] h0.size hp28 [ownO (kI .i64) 2 v8 x15.2, ownO (kF .f32) 40 v6 x14.2.1, ownO (kF .f32) 40 v7 x14.2.2, ownO (kI .i64) 2 v15 x12, boxO bb4 [(.int .i64 x7.1), (.int .i64 x7.2.1), (.bool x7.2.2.1), v9, v10], ownO (kF .f32) 40 v9 x7.2.2.2.1, ownO (kF .f32) 40 v10 x7.2.2.2.2.1, boxO bb3 [(.int .i64 x5.1), (.int .i64 x5.2.1), (.bool x5.2.2.1), v6, v7], boxO bb2 [(.int .i64 x4.1), (.int .i64 x4.2.1), (.bool x4.2.2.1), v4, v5], ownO (kF .f32) 40 v4 x4.2.2.2.1, ownO (kF .f32) 40 v5 x4.2.2.2.2.1, ownO (kI .i64) 2 v3 x3, ownO (kF .f32) 40 v1 x2.2.2.2.1, ownO (kF .f32) 40 v2 x2.2.2.2.2, boxO bb1 [(.int .i64 a0_0), (.int .i64 a0_1), (.bool a0_2), u0_3, u0_4]] := Sep.step (A := []) (L := [ownO (kI .i64) 2 v8 x15.2, ownO (kF .f32) 40 v6 x14.2.1, ownO (kF .f32) 40 v7 x14.2.2, ownO (kI .i64) 2 v15 x12, boxO bb4 [(.int .i64 x7.1), (.int .i64 x7.2.1), (.bool x7.2.2.1), v9, v10], ownO (kF .f32) 40 v9 x7.2.2.2.1, ownO (kF .f32) 40 v10 x7.2.2.2.2.1, boxO bb3 [(.int .i64 x5.1), (.int .i64 x5.2.1), (.bool x5.2.2.1), v6, v7], boxO bb2 [(.int .i64 x4.1), (.int .i64 x4.2.1), (.bool x4.2.2.1), v4, v5], ownO (kF .f32) 40 v4 x4.2.2.2.1, ownO (kF .f32) 40 v5 x4.2.2.2.2.1, ownO (kI .i64) 2 v3 x3, ownO (kF .f32) 40 v1 x2.2.2.2.1, ownO (kF .f32) 40 v2 x2.2.2.2.2, boxO bb1 [(.int .i64 a0_0), (.int .i64 a0_1), (.bool a0_2), u0_3, u0_4]]) S_31 (Mod.size X_22) MT_21 T_21
                  refine RL.yes _ rfl rfl c7 (by decide) (opv_not rfl rfl) ?_
                  rintro _ _ ⟨rfl, rfl⟩
                  refine RL.opD (by decide) (opv_pick rfl rfl (fun e => absurd (Eq.trans (Eq.symm e) c7) (by decide)) (fun _ => rfl) rfl) ?_
                  refine RL.opD (by decide) (opv_move rfl rfl) ?_
                  refine RL.yes _ rfl rfl c8 (by decide) (opv_move rfl rfl) ?_
                  rintro _ _ ⟨rfl, rfl⟩
                  refine RL.yes _ rfl rfl c8 (by decide) (opv_move rfl rfl) ?_
                  rintro _ _ ⟨rfl, rfl⟩
                  refine RL.yes _ rfl rfl c8 (by decide) (opv_bcmp rfl rfl Try.underlying4 rfl rfl) ?_
                  rintro _ _ ⟨rfl, rfl⟩
                  refine RL.opD (by decide) (opv_pick rfl rfl (fun e => absurd (Eq.trans (Eq.symm e) c8) (by decide)) (fun _ => rfl) rfl) ?_
                  refine RL.nil ?_
                  have ey2 := Option.some.inj hy2
                  subst ey2
                  refine onlyN ?_
                  exact ⟨⟨rfl, rfl, rfl, rfl, rfl, rfl, rfl, rfl, rfl, rfl, rfl, rfl, rfl, rfl, rfl, rfl, rfl, rfl, rfl, trivial⟩, X_23, (Sep.sel S_32 [0, 1, 2, 3, 4, 5, 6, 7, 8, 9, 10, 11, 12, 13, 14] (by decide))⟩
            rintro φ' hp29 ⟨hs2, X_24, S_33⟩
            refine thnN ?_
            refine W.sub hs2 ?_
            by_cases c9 : x16 = true
            · rw [if_pos c9] at hp
              refine W.condT rfl c9 ?_
              refine W.seq ?_
              refine W.region ?_
              refine RL.opD (by decide) (opv_assign rfl rfl) ?_
              refine RL.nil ?_
              refine thnN ?_
              refine W.ret ?_
              refine thnR ?_
              have er := Option.some.inj hp
              subst er
              exact Rt.one rfl rfl ⟨rfl, X_24, (Sep.nil _ _ _)⟩
            · rw [if_neg c9] at hp
              have c9 := eq_false_of_ne_true c9
              refine W.condF rfl c9 ?_
              refine W.skip ?_
              refine thnN ?_
              refine W.seq ?_
              refine W.region ?_
              refine RL.opD (by decide) (opv_assign rfl rfl) ?_
              refine RL.nil ?_
              refine thnN ?_
              refine W.seq ?_
              obtain ⟨x18, hx18, hp⟩ := Option.bind_eq_some_iff.1 hp
              refine W.region ?_
              refine RL.opD (by decide) (opv_loadA (us := [(.int .i64 x7.1), (.int .i64 x7.2.1), (.bool x7.2.2.1), v9, v10]) rfl Try.agg29 Try.size29 rfl (Sep.at (o := boxO bb4 [(.int .i64 x7.1), (.int .i64 x7.2.1), (.bool x7.2.2.1), v9, v10]) S_33 4 rfl) rfl rfl) ?_
              refine RL.opD (by decide) (opv_move rfl rfl) ?_
              have S_35 : Sep [] h0.size hp29 [ownO (kF .f32) 40 v9 x7.2.2.2.1, ownO (kF .f32) 40 v10 x7.2.2.2.2.1] := Sep.sel S_33 [5, 6] (by decide)
              have S_34 : Sep [v9.ownBlock, v10.ownBlock] hp29.size hp29 [ownO (kF .f32) 40 v9 x7.2.2.2.1, ownO (kF .f32) 40 v10 x7.2.2.2.2.1] := Sep.own S_35 _
              refine RL.op _ (by decide) (opv_call (cap := []) (laws_markSheet_ok _ h0.size (Nat.le_trans (Nat.le_refl _) (Mod.size X_24)) _ _ _ _ _ _ _ _ S_34 (Sep.ge (L := [ownO (kF .f32) 40 v9 x7.2.2.2.1, ownO (kF .f32) 40 v10 x7.2.2.2.2.1]) S_35 (Nat.le_refl _) nob) _ hx18) rfl rfl ⟨rfl, rfl, trivial⟩ Try.func44 rfl rfl) ?_
              rintro _ hp30 ⟨rfl, MT_22, T_22⟩
              have S_36 : Sep [] h0.size hp29 ([ownO (kF .f32) 40 v9 x7.2.2.2.1, ownO (kF .f32) 40 v10 x7.2.2.2.2.1] ++ [ownO (kI .i64) 2 v8 x15.2, ownO (kF .f32) 40 v6 x14.2.1, ownO (kF .f32) 40 v7 x14.2.2, ownO (kI .i64) 2 v15 x12, boxO bb4 [(.int .i64 x7.1), (.int .i64 x7.2.1), (.bool x7.2.2.1), v9, v10], boxO bb3 [(.int .i64 x5.1), (.int .i64 x5.2.1), (.bool x5.2.2.1), v6, v7], boxO bb2 [(.int .i64 x4.1), (.int .i64 x4.2.1), (.bool x4.2.2.1), v4, v5], ownO (kF .f32) 40 v4 x4.2.2.2.1, ownO (kF .f32) 40 v5 x4.2.2.2.2.1, ownO (kI .i64) 2 v3 x3, ownO (kF .f32) 40 v1 x2.2.2.2.1, ownO (kF .f32) 40 v2 x2.2.2.2.2, boxO bb1 [(.int .i64 a0_0), (.int .i64 a0_1), (.bool a0_2), u0_3, u0_4]]) := Sep.sel S_33 [5, 6, 0, 1, 2, 3, 4, 7, 8, 9, 10, 11, 12, 13, 14] (by decide)
              have X_25 : Mod [] h0 hp30 := Mod.step (A := [ownO (kF .f32) 40 v9 x7.2.2.2.1, ownO (kF .f32) 40 v10 x7.2.2.2.2.1]) (L := [ownO (kI .i64) 2 v8 x15.2, ownO (kF .f32) 40 v6 x14.2.1, ownO (kF .f32) 40 v7 x14.2.2, ownO (kI .i64) 2 v15 x12, boxO bb4 [(.int .i64 x7.1), (.int .i64 x7.2.1), (.bool x7.2.2.1), v9, v10], boxO bb3 [(.int .i64 x5.1), (.int .i64 x5.2.1), (.bool x5.2.2.1), v6, v7], boxO bb2 [(.int .i64 x4.1), (.int .i64 x4.2.1), (.bool x4.2.2.1), v4, v5], ownO (kF .f32) 40 v4 x4.2.2.2.1, ownO (kF .f32) 40 v5 x4.2.2.2.2.1, ownO (kI .i64) 2 v3 x3, ownO (kF .f32) 40 v1 x2.2.2.2.1, ownO (kF .f32) 40 v2 x2.2.2.2.2, boxO bb1 [(.int .i64 a0_0), (.int .i64 a0_1), (.bool a0_2), u0_3, u0_4]]) X_24 S_36 MT_22
              have S_37 : Sep [] h0.size hp30 [ownO (kF .f32) 40 v9 x18.2.1, ownO (kF .f32) 40 v10 x18.2.2, ownO (kI .i64) 2 v8 x15.2, ownO (kF .f32) 40 v6 x14.2.1, ownO (kF .f32) 40 v7 x14.2.2, ownO (kI .i64) 2 v15 x12, boxO bb4 [(.int .i64 x7.1), (.int .i64 x7.2.1), (.bool x7.2.2.1), v9, v10], boxO bb3 [(.int .i64 x5.1), (.int .i64 x5.2.1), (.bool x5.2.2.1), v6, v7], boxO bb2 [(.int .i64 x4.1), (.int .i64 x4.2.1), (.bool x4.2.2.1), v4, v5], ownO (kF .f32) 40 v4 x4.2.2.2.1, ownO (kF .f32) 40 v5 x4.2.2.2.2.1, ownO (kI .i64) 2 v3 x3, ownO (kF .f32) 40 v1 x2.2.2.2.1, ownO (kF .f32) 40 v2 x2.2.2.2.2, boxO bb1 [(.int .i64 a0_0), (.int .i64 a0_1), (.bool a0_2), u0_3, u0_4]] := Sep.step (A := [ownO (kF .f32) 40 v9 x7.2.2.2.1, ownO (kF .f32) 40 v10 x7.2.2.2.2.1]) (L := [ownO (kI .i64) 2 v8 x15.2, ownO (kF .f32) 40 v6 x14.2.1, ownO (kF .f32) 40 v7 x14.2.2, ownO (kI .i64) 2 v15 x12, boxO bb4 [(.int .i64 x7.1), (.int .i64 x7.2.1), (.bool x7.2.2.1), v9, v10], boxO bb3 [(.int .i64 x5.1), (.int .i64 x5.2.1), (.bool x5.2.2.1), v6, v7], boxO bb2 [(.int .i64 x4.1), (.int .i64 x4.2.1), (.bool x4.2.2.1), v4, v5], ownO (kF .f32) 40 v4 x4.2.2.2.1, ownO (kF .f32) 40 v5 x4.2.2.2.2.1, ownO (kI .i64) 2 v3 x3, ownO (kF .f32) 40 v1 x2.2.2.2.1, ownO (kF .f32) 40 v2 x2.2.2.2.2, boxO bb1 [(.int .i64 a0_0), (.int .i64 a0_1), (.bool a0_2), u0_3, u0_4]]) S_36 (Mod.size X_24) MT_22 T_22
              refine RL.opD (by decide) (opv_assign rfl rfl) ?_
              refine RL.nil ?_
              refine thnN ?_
              refine W.seq ?_
              refine W.region ?_
              refine RL.opD (by decide) (opv_assign rfl rfl) ?_
              refine RL.nil ?_
              refine thnN ?_
              refine W.seq ?_
              obtain ⟨x19, hx19, hp⟩ := Option.bind_eq_some_iff.1 hp
              refine W.region ?_
              refine RL.opD (by decide) (opv_loadA (us := [(.int .i64 x7.1), (.int .i64 x7.2.1), (.bool x7.2.2.1), v9, v10]) rfl Try.agg29 Try.size29 rfl (Sep.at (o := boxO bb4 [(.int .i64 x7.1), (.int .i64 x7.2.1), (.bool x7.2.2.1), v9, v10]) S_37 6 rfl) rfl rfl) ?_
              refine RL.opD (by decide) (opv_move rfl rfl) ?_
              refine RL.op _ (by decide) (opv_call (cap := []) (laws_heldSheet_ok _ _ _ _ _ _ (ownO.read (Sep.at (o := ownO (kF .f32) 40 v9 x18.2.1) S_37 0 rfl)) _ _ (ownO.read (Sep.at (o := ownO (kF .f32) 40 v10 x18.2.2) S_37 1 rfl)) _ _ hx19) rfl rfl ⟨rfl, rfl, trivial⟩ Try.func49 rfl rfl) ?_
              rintro _ hp31 ⟨rfl, MT_23, T_23⟩
              have X_26 : Mod [] h0 hp31 := Mod.step (A := []) (L := [ownO (kF .f32) 40 v9 x18.2.1, ownO (kF .f32) 40 v10 x18.2.2, ownO (kI .i64) 2 v8 x15.2, ownO (kF .f32) 40 v6 x14.2.1, ownO (kF .f32) 40 v7 x14.2.2, ownO (kI .i64) 2 v15 x12, boxO bb4 [(.int .i64 x7.1), (.int .i64 x7.2.1), (.bool x7.2.2.1), v9, v10], boxO bb3 [(.int .i64 x5.1), (.int .i64 x5.2.1), (.bool x5.2.2.1), v6, v7], boxO bb2 [(.int .i64 x4.1), (.int .i64 x4.2.1), (.bool x4.2.2.1), v4, v5], ownO (kF .f32) 40 v4 x4.2.2.2.1, ownO (kF .f32) 40 v5 x4.2.2.2.2.1, ownO (kI .i64) 2 v3 x3, ownO (kF .f32) 40 v1 x2.2.2.2.1, ownO (kF .f32) 40 v2 x2.2.2.2.2, boxO bb1 [(.int .i64 a0_0), (.int .i64 a0_1), (.bool a0_2), u0_3, u0_4]]) X_25 S_37 MT_23
              have S_38 : Sep [] h0.size hp31 [ownO (kF .f32) 40 v9 x18.2.1, ownO (kF .f32) 40 v10 x18.2.2, ownO (kI .i64) 2 v8 x15.2, ownO (kF .f32) 40 v6 x14.2.1, ownO (kF .f32) 40 v7 x14.2.2, ownO (kI .i64) 2 v15 x12, boxO bb4 [(.int .i64 x7.1), (.int .i64 x7.2.1), (.bool x7.2.2.1), v9, v10], boxO bb3 [(.int .i64 x5.1), (.int .i64 x5.2.1), (.bool x5.2.2.1), v6, v7], boxO bb2 [(.int .i64 x4.1), (.int .i64 x4.2.1), (.bool x4.2.2.1), v4, v5], ownO (kF .f32) 40 v4 x4.2.2.2.1, ownO (kF .f32) 40 v5 x4.2.2.2.2.1, ownO (kI .i64) 2 v3 x3, ownO (kF .f32) 40 v1 x2.2.2.2.1, ownO (kF .f32) 40 v2 x2.2.2.2.2, boxO bb1 [(.int .i64 a0_0), (.int .i64 a0_1), (.bool a0_2), u0_3, u0_4]] := Sep.step (A := []) (L := [ownO (kF .f32) 40 v9 x18.2.1, ownO (kF .f32) 40 v10 x18.2.2, ownO (kI .i64) 2 v8 x15.2, ownO (kF .f32) 40 v6 x14.2.1, ownO (kF .f32) 40 v7 x14.2.2, ownO (kI .i64) 2 v15 x12, boxO bb4 [(.int .i64 x7.1), (.int .i64 x7.2.1), (.bool x7.2.2.1), v9, v10], boxO bb3 [(.int .i64 x5.1), (.int .i64 x5.2.1), (.bool x5.2.2.1), v6, v7], boxO bb2 [(.int .i64 x4.1), (.int .i64 x4.2.1), (.bool x4.2.2.1), v4, v5], ownO (kF .f32) 40 v4 x4.2.2.2.1, ownO (kF .f32) 40 v5 x4.2.2.2.2.1, ownO (kI .i64) 2 v3 x3, ownO (kF .f32) 40 v1 x2.2.2.2.1, ownO (kF .f32) 40 v2 x2.2.2.2.2, boxO bb1 [(.int .i64 a0_0), (.int .i64 a0_1), (.bool a0_2), u0_3, u0_4]]) S_37 (Mod.size X_25) MT_23 T_23
              refine RL.opD (by decide) (opv_assign rfl rfl) ?_
              refine RL.nil ?_
              refine thnN ?_
              refine W.seq ?_
              refine W.seq ?_
              refine W.region ?_
              refine RL.opD (by decide) (opv_move rfl rfl) ?_
              refine RL.opD (by decide) (opv_icmp rfl rfl rfl rfl) ?_
              refine RL.nil ?_
              refine thnN ?_
              by_cases c10 : (decide (x19 < 0)) = true
              · rw [if_pos c10] at hp
                refine W.condT rfl c10 ?_
                refine W.seq ?_
                refine W.region ?_
                refine RL.opD (by decide) (opv_assign rfl rfl) ?_
                refine RL.nil ?_
                refine thnN ?_
                refine W.ret ?_
                refine thnR ?_
                have er := Option.some.inj hp
                subst er
                exact Rt.one rfl rfl ⟨rfl, X_26, (Sep.nil _ _ _)⟩
              · rw [if_neg c10] at hp
                have c10 := eq_false_of_ne_true c10
                refine W.condF rfl c10 ?_
                refine W.skip ?_
                refine thnN ?_
                refine W.seq ?_
                refine W.seq ?_
                refine W.region ?_
                refine RL.opD (by decide) (opv_move rfl rfl) ?_
                refine RL.opD (by decide) (opv_move rfl rfl) ?_
                refine RL.opD (by decide) (opv_icmp rfl rfl rfl rfl) ?_
                refine RL.nil ?_
                refine thnN ?_
                by_cases c11 : (x19 != x18.1) = true
                · rw [if_pos c11] at hp
                  refine W.condT rfl c11 ?_
                  refine W.seq ?_
                  refine W.region ?_
                  refine RL.opD (by decide) (opv_assign rfl rfl) ?_
                  refine RL.nil ?_
                  refine thnN ?_
                  refine W.ret ?_
                  refine thnR ?_
                  have er := Option.some.inj hp
                  subst er
                  exact Rt.one rfl rfl ⟨rfl, X_26, (Sep.nil _ _ _)⟩
                · rw [if_neg c11] at hp
                  have c11 := eq_false_of_ne_true c11
                  refine W.condF rfl c11 ?_
                  refine W.skip ?_
                  refine thnN ?_
                  refine W.seq ?_
                  obtain ⟨x20, hx20, hp⟩ := Option.bind_eq_some_iff.1 hp
                  obtain ⟨x21, hx21, hp⟩ := Option.bind_eq_some_iff.1 hp
                  obtain ⟨x22, hx22, hp⟩ := Option.bind_eq_some_iff.1 hp
                  refine W.region ?_
                  refine RL.opD (by decide) (opv_loadA (us := [(.int .i64 a0_0), (.int .i64 a0_1), (.bool a0_2), u0_3, u0_4]) rfl Try.agg24 Try.size24 rfl (Sep.at (o := boxO bb1 [(.int .i64 a0_0), (.int .i64 a0_1), (.bool a0_2), u0_3, u0_4]) S_38 14 rfl) rfl rfl) ?_
                  refine RL.op _ (by decide) (opv_call (cap := []) (laws_toSheet_ok _ _ _ _ _ _ (SL.up (SL.mod g0_3 X_26 (Nat.le_refl _) nob) (Nat.le_trans (Nat.le_refl _) (Mod.size X_26))) _ _ (SL.up (SL.mod g0_4 X_26 (Nat.le_refl _) nob) (Nat.le_trans (Nat.le_refl _) (Mod.size X_26))) _ hx20) rfl rfl ⟨rfl, trivial⟩ Try.func20 rfl rfl) ?_
                  rintro _ hp32 ⟨v16, v17, rfl, MT_24, T_24⟩
                  have X_27 : Mod [] h0 hp32 := Mod.step (A := []) (L := [ownO (kF .f32) 40 v9 x18.2.1, ownO (kF .f32) 40 v10 x18.2.2, ownO (kI .i64) 2 v8 x15.2, ownO (kF .f32) 40 v6 x14.2.1, ownO (kF .f32) 40 v7 x14.2.2, ownO (kI .i64) 2 v15 x12, boxO bb4 [(.int .i64 x7.1), (.int .i64 x7.2.1), (.bool x7.2.2.1), v9, v10], boxO bb3 [(.int .i64 x5.1), (.int .i64 x5.2.1), (.bool x5.2.2.1), v6, v7], boxO bb2 [(.int .i64 x4.1), (.int .i64 x4.2.1), (.bool x4.2.2.1), v4, v5], ownO (kF .f32) 40 v4 x4.2.2.2.1, ownO (kF .f32) 40 v5 x4.2.2.2.2.1, ownO (kI .i64) 2 v3 x3, ownO (kF .f32) 40 v1 x2.2.2.2.1, ownO (kF .f32) 40 v2 x2.2.2.2.2, boxO bb1 [(.int .i64 a0_0), (.int .i64 a0_1), (.bool a0_2), u0_3, u0_4]]) X_26 S_38 MT_24
                  have S_39 : Sep [] h0.size hp32 [ownO (kF .f32) 40 v16 x20.2.2.2.1, ownO (kF .f32) 40 v17 x20.2.2.2.2, ownO (kF .f32) 40 v9 x18.2.1, ownO (kF .f32) 40 v10 x18.2.2, ownO (kI .i64) 2 v8 x15.2, ownO (kF .f32) 40 v6 x14.2.1, ownO (kF .f32) 40 v7 x14.2.2, ownO (kI .i64) 2 v15 x12, boxO bb4 [(.int .i64 x7.1), (.int .i64 x7.2.1), (.bool x7.2.2.1), v9, v10], boxO bb3 [(.int .i64 x5.1), (.int .i64 x5.2.1), (.bool x5.2.2.1), v6, v7], boxO bb2 [(.int .i64 x4.1), (.int .i64 x4.2.1), (.bool x4.2.2.1), v4, v5], ownO (kF .f32) 40 v4 x4.2.2.2.1, ownO (kF .f32) 40 v5 x4.2.2.2.2.1, ownO (kI .i64) 2 v3 x3, ownO (kF .f32) 40 v1 x2.2.2.2.1, ownO (kF .f32) 40 v2 x2.2.2.2.2, boxO bb1 [(.int .i64 a0_0), (.int .i64 a0_1), (.bool a0_2), u0_3, u0_4]] := Sep.step (A := []) (L := [ownO (kF .f32) 40 v9 x18.2.1, ownO (kF .f32) 40 v10 x18.2.2, ownO (kI .i64) 2 v8 x15.2, ownO (kF .f32) 40 v6 x14.2.1, ownO (kF .f32) 40 v7 x14.2.2, ownO (kI .i64) 2 v15 x12, boxO bb4 [(.int .i64 x7.1), (.int .i64 x7.2.1), (.bool x7.2.2.1), v9, v10], boxO bb3 [(.int .i64 x5.1), (.int .i64 x5.2.1), (.bool x5.2.2.1), v6, v7], boxO bb2 [(.int .i64 x4.1), (.int .i64 x4.2.1), (.bool x4.2.2.1), v4, v5], ownO (kF .f32) 40 v4 x4.2.2.2.1, ownO (kF .f32) 40 v5 x4.2.2.2.2.1, ownO (kI .i64) 2 v3 x3, ownO (kF .f32) 40 v1 x2.2.2.2.1, ownO (kF .f32) 40 v2 x2.2.2.2.2, boxO bb1 [(.int .i64 a0_0), (.int .i64 a0_1), (.bool a0_2), u0_3, u0_4]]) S_38 (Mod.size X_26) MT_24 T_24
                  refine RL.opD (by decide) (opv_move rfl rfl) ?_
                  refine RL.opD (by decide) (opv_move rfl rfl) ?_
                  refine RL.op _ (by decide) (opv_call (cap := []) (laws_toInt64S_ok _ _ _ (SL.up (SL.mod g2 X_27 (Nat.le_refl _) nob) (Nat.le_trans (Nat.le_refl _) (Mod.size X_27))) _ hx21) rfl rfl ⟨rfl, trivial⟩ Try.func61 rfl rfl) ?_
                  rintro v18 hp33 ⟨MT_25, T_25⟩
                  have X_28 : Mod [] h0 hp33 := Mod.step (A := []) (L := [ownO (kF .f32) 40 v16 x20.2.2.2.1, ownO (kF .f32) 40 v17 x20.2.2.2.2, ownO (kF .f32) 40 v9 x18.2.1, ownO (kF .f32) 40 v10 x18.2.2, ownO (kI .i64) 2 v8 x15.2, ownO (kF .f32) 40 v6 x14.2.1, ownO (kF .f32) 40 v7 x14.2.2, ownO (kI .i64) 2 v15 x12, boxO bb4 [(.int .i64 x7.1), (.int .i64 x7.2.1), (.bool x7.2.2.1), v9, v10], boxO bb3 [(.int .i64 x5.1), (.int .i64 x5.2.1), (.bool x5.2.2.1), v6, v7], boxO bb2 [(.int .i64 x4.1), (.int .i64 x4.2.1), (.bool x4.2.2.1), v4, v5], ownO (kF .f32) 40 v4 x4.2.2.2.1, ownO (kF .f32) 40 v5 x4.2.2.2.2.1, ownO (kI .i64) 2 v3 x3, ownO (kF .f32) 40 v1 x2.2.2.2.1, ownO (kF .f32) 40 v2 x2.2.2.2.2, boxO bb1 [(.int .i64 a0_0), (.int .i64 a0_1), (.bool a0_2), u0_3, u0_4]]) X_27 S_39 MT_25
                  have S_40 : Sep [] h0.size hp33 [ownO (kI .i64) 2 v18 x21, ownO (kF .f32) 40 v16 x20.2.2.2.1, ownO (kF .f32) 40 v17 x20.2.2.2.2, ownO (kF .f32) 40 v9 x18.2.1, ownO (kF .f32) 40 v10 x18.2.2, ownO (kI .i64) 2 v8 x15.2, ownO (kF .f32) 40 v6 x14.2.1, ownO (kF .f32) 40 v7 x14.2.2, ownO (kI .i64) 2 v15 x12, boxO bb4 [(.int .i64 x7.1), (.int .i64 x7.2.1), (.bool x7.2.2.1), v9, v10], boxO bb3 [(.int .i64 x5.1), (.int .i64 x5.2.1), (.bool x5.2.2.1), v6, v7], boxO bb2 [(.int .i64 x4.1), (.int .i64 x4.2.1), (.bool x4.2.2.1), v4, v5], ownO (kF .f32) 40 v4 x4.2.2.2.1, ownO (kF .f32) 40 v5 x4.2.2.2.2.1, ownO (kI .i64) 2 v3 x3, ownO (kF .f32) 40 v1 x2.2.2.2.1, ownO (kF .f32) 40 v2 x2.2.2.2.2, boxO bb1 [(.int .i64 a0_0), (.int .i64 a0_1), (.bool a0_2), u0_3, u0_4]] := Sep.step (A := []) (L := [ownO (kF .f32) 40 v16 x20.2.2.2.1, ownO (kF .f32) 40 v17 x20.2.2.2.2, ownO (kF .f32) 40 v9 x18.2.1, ownO (kF .f32) 40 v10 x18.2.2, ownO (kI .i64) 2 v8 x15.2, ownO (kF .f32) 40 v6 x14.2.1, ownO (kF .f32) 40 v7 x14.2.2, ownO (kI .i64) 2 v15 x12, boxO bb4 [(.int .i64 x7.1), (.int .i64 x7.2.1), (.bool x7.2.2.1), v9, v10], boxO bb3 [(.int .i64 x5.1), (.int .i64 x5.2.1), (.bool x5.2.2.1), v6, v7], boxO bb2 [(.int .i64 x4.1), (.int .i64 x4.2.1), (.bool x4.2.2.1), v4, v5], ownO (kF .f32) 40 v4 x4.2.2.2.1, ownO (kF .f32) 40 v5 x4.2.2.2.2.1, ownO (kI .i64) 2 v3 x3, ownO (kF .f32) 40 v1 x2.2.2.2.1, ownO (kF .f32) 40 v2 x2.2.2.2.2, boxO bb1 [(.int .i64 a0_0), (.int .i64 a0_1), (.bool a0_2), u0_3, u0_4]]) S_39 (Mod.size X_27) MT_25 T_25
                  refine RL.op _ (by decide) (opv_call (cap := []) (impl_SlitSheet_ok _ _ _ _ _ _ (ownO.read (Sep.at (o := ownO (kF .f32) 40 v16 x20.2.2.2.1) S_40 1 rfl)) _ _ (ownO.read (Sep.at (o := ownO (kF .f32) 40 v17 x20.2.2.2.2) S_40 2 rfl)) _ _ _ (ownO.read (Sep.at (o := ownO (kI .i64) 2 v18 x21) S_40 0 rfl)) _ hx22) rfl rfl ⟨rfl, rfl, rfl, trivial⟩ Try.func62 rfl rfl) ?_
                  rintro _ hp34 ⟨v19, v20, rfl, MT_26, T_26⟩
                  have X_29 : Mod [] h0 hp34 := Mod.step (A := []) (L := [ownO (kI .i64) 2 v18 x21, ownO (kF .f32) 40 v16 x20.2.2.2.1, ownO (kF .f32) 40 v17 x20.2.2.2.2, ownO (kF .f32) 40 v9 x18.2.1, ownO (kF .f32) 40 v10 x18.2.2, ownO (kI .i64) 2 v8 x15.2, ownO (kF .f32) 40 v6 x14.2.1, ownO (kF .f32) 40 v7 x14.2.2, ownO (kI .i64) 2 v15 x12, boxO bb4 [(.int .i64 x7.1), (.int .i64 x7.2.1), (.bool x7.2.2.1), v9, v10], boxO bb3 [(.int .i64 x5.1), (.int .i64 x5.2.1), (.bool x5.2.2.1), v6, v7], boxO bb2 [(.int .i64 x4.1), (.int .i64 x4.2.1), (.bool x4.2.2.1), v4, v5], ownO (kF .f32) 40 v4 x4.2.2.2.1, ownO (kF .f32) 40 v5 x4.2.2.2.2.1, ownO (kI .i64) 2 v3 x3, ownO (kF .f32) 40 v1 x2.2.2.2.1, ownO (kF .f32) 40 v2 x2.2.2.2.2, boxO bb1 [(.int .i64 a0_0), (.int .i64 a0_1), (.bool a0_2), u0_3, u0_4]]) X_28 S_40 MT_26
                  have S_41 : Sep [] h0.size hp34 [ownO (kF .f32) 40 v19 x22.2.2.2.1, ownO (kF .f32) 40 v20 x22.2.2.2.2.1, ownO (kI .i64) 2 v18 x21, ownO (kF .f32) 40 v16 x20.2.2.2.1, ownO (kF .f32) 40 v17 x20.2.2.2.2, ownO (kF .f32) 40 v9 x18.2.1, ownO (kF .f32) 40 v10 x18.2.2, ownO (kI .i64) 2 v8 x15.2, ownO (kF .f32) 40 v6 x14.2.1, ownO (kF .f32) 40 v7 x14.2.2, ownO (kI .i64) 2 v15 x12, boxO bb4 [(.int .i64 x7.1), (.int .i64 x7.2.1), (.bool x7.2.2.1), v9, v10], boxO bb3 [(.int .i64 x5.1), (.int .i64 x5.2.1), (.bool x5.2.2.1), v6, v7], boxO bb2 [(.int .i64 x4.1), (.int .i64 x4.2.1), (.bool x4.2.2.1), v4, v5], ownO (kF .f32) 40 v4 x4.2.2.2.1, ownO (kF .f32) 40 v5 x4.2.2.2.2.1, ownO (kI .i64) 2 v3 x3, ownO (kF .f32) 40 v1 x2.2.2.2.1, ownO (kF .f32) 40 v2 x2.2.2.2.2, boxO bb1 [(.int .i64 a0_0), (.int .i64 a0_1), (.bool a0_2), u0_3, u0_4]] := Sep.step (A := []) (L := [ownO (kI .i64) 2 v18 x21, ownO (kF .f32) 40 v16 x20.2.2.2.1, ownO (kF .f32) 40 v17 x20.2.2.2.2, ownO (kF .f32) 40 v9 x18.2.1, ownO (kF .f32) 40 v10 x18.2.2, ownO (kI .i64) 2 v8 x15.2, ownO (kF .f32) 40 v6 x14.2.1, ownO (kF .f32) 40 v7 x14.2.2, ownO (kI .i64) 2 v15 x12, boxO bb4 [(.int .i64 x7.1), (.int .i64 x7.2.1), (.bool x7.2.2.1), v9, v10], boxO bb3 [(.int .i64 x5.1), (.int .i64 x5.2.1), (.bool x5.2.2.1), v6, v7], boxO bb2 [(.int .i64 x4.1), (.int .i64 x4.2.1), (.bool x4.2.2.1), v4, v5], ownO (kF .f32) 40 v4 x4.2.2.2.1, ownO (kF .f32) 40 v5 x4.2.2.2.2.1, ownO (kI .i64) 2 v3 x3, ownO (kF .f32) 40 v1 x2.2.2.2.1, ownO (kF .f32) 40 v2 x2.2.2.2.2, boxO bb1 [(.int .i64 a0_0), (.int .i64 a0_1), (.bool a0_2), u0_3, u0_4]]) S_40 (Mod.size X_28) MT_26 T_26
                  refine RL.opD (by decide) (opv_move rfl rfl) ?_
                  refine RL.opD (by decide) (opv_extract rfl rfl rfl) ?_
                  refine RL.opD (by decide) (opv_extract rfl rfl rfl) ?_
                  refine RL.op _ (by decide) (opS_boxed (opv_alloc (cs := [(.int .i64 0), (.int .i64 0), (.bool false), (.slice none 0 0), (.slice none 0 0)]) rfl Try.zero29 rfl)) ?_
                  rintro _ hp35 ⟨bb5, rfl, MT_27, T_27⟩
                  have X_30 : Mod [] h0 hp35 := Mod.step (A := []) (L := [ownO (kF .f32) 40 v19 x22.2.2.2.1, ownO (kF .f32) 40 v20 x22.2.2.2.2.1, ownO (kI .i64) 2 v18 x21, ownO (kF .f32) 40 v16 x20.2.2.2.1, ownO (kF .f32) 40 v17 x20.2.2.2.2, ownO (kF .f32) 40 v9 x18.2.1, ownO (kF .f32) 40 v10 x18.2.2, ownO (kI .i64) 2 v8 x15.2, ownO (kF .f32) 40 v6 x14.2.1, ownO (kF .f32) 40 v7 x14.2.2, ownO (kI .i64) 2 v15 x12, boxO bb4 [(.int .i64 x7.1), (.int .i64 x7.2.1), (.bool x7.2.2.1), v9, v10], boxO bb3 [(.int .i64 x5.1), (.int .i64 x5.2.1), (.bool x5.2.2.1), v6, v7], boxO bb2 [(.int .i64 x4.1), (.int .i64 x4.2.1), (.bool x4.2.2.1), v4, v5], ownO (kF .f32) 40 v4 x4.2.2.2.1, ownO (kF .f32) 40 v5 x4.2.2.2.2.1, ownO (kI .i64) 2 v3 x3, ownO (kF .f32) 40 v1 x2.2.2.2.1, ownO (kF .f32) 40 v2 x2.2.2.2.2, boxO bb1 [(.int .i64 a0_0), (.int .i64 a0_1), (.bool a0_2), u0_3, u0_4]]) X_29 S_41 MT_27
                  have S_42 : Sep [] h0.size hp35 [boxO bb5 [(.int .i64 0), (.int .i64 0), (.bool false), (.slice none 0 0), (.slice none 0 0)], ownO (kF .f32) 40 v19 x22.2.2.2.1, ownO (kF .f32) 40 v20 x22.2.2.2.2.1, ownO (kI .i64) 2 v18 x21, ownO (kF .f32) 40 v16 x20.2.2.2.1, ownO (kF .f32) 40 v17 x20.2.2.2.2, ownO (kF .f32) 40 v9 x18.2.1, ownO (kF .f32) 40 v10 x18.2.2, ownO (kI .i64) 2 v8 x15.2, ownO (kF .f32) 40 v6 x14.2.1, ownO (kF .f32) 40 v7 x14.2.2, ownO (kI .i64) 2 v15 x12, boxO bb4 [(.int .i64 x7.1), (.int .i64 x7.2.1), (.bool x7.2.2.1), v9, v10], boxO bb3 [(.int .i64 x5.1), (.int .i64 x5.2.1), (.bool x5.2.2.1), v6, v7], boxO bb2 [(.int .i64 x4.1), (.int .i64 x4.2.1), (.bool x4.2.2.1), v4, v5], ownO (kF .f32) 40 v4 x4.2.2.2.1, ownO (kF .f32) 40 v5 x4.2.2.2.2.1, ownO (kI .i64) 2 v3 x3, ownO (kF .f32) 40 v1 x2.2.2.2.1, ownO (kF .f32) 40 v2 x2.2.2.2.2, boxO bb1 [(.int .i64 a0_0), (.int .i64 a0_1), (.bool a0_2), u0_3, u0_4]] := Sep.step (A := []) (L := [ownO (kF .f32) 40 v19 x22.2.2.2.1, ownO (kF .f32) 40 v20 x22.2.2.2.2.1, ownO (kI .i64) 2 v18 x21, ownO (kF .f32) 40 v16 x20.2.2.2.1, ownO (kF .f32) 40 v17 x20.2.2.2.2, ownO (kF .f32) 40 v9 x18.2.1, ownO (kF .f32) 40 v10 x18.2.2, ownO (kI .i64) 2 v8 x15.2, ownO (kF .f32) 40 v6 x14.2.1, ownO (kF .f32) 40 v7 x14.2.2, ownO (kI .i64) 2 v15 x12, boxO bb4 [(.int .i64 x7.1), (.int .i64 x7.2.1), (.bool x7.2.2.1), v9, v10], boxO bb3 [(.int .i64 x5.1), (.int .i64 x5.2.1), (.bool x5.2.2.1), v6, v7], boxO bb2 [(.int .i64 x4.1), (.int .i64 x4.2.1), (.bool x4.2.2.1), v4, v5], ownO (kF .f32) 40 v4 x4.2.2.2.1, ownO (kF .f32) 40 v5 x4.2.2.2.2.1, ownO (kI .i64) 2 v3 x3, ownO (kF .f32) 40 v1 x2.2.2.2.1, ownO (kF .f32) 40 v2 x2.2.2.2.2, boxO bb1 [(.int .i64 a0_0), (.int .i64 a0_1), (.bool a0_2), u0_3, u0_4]]) S_41 (Mod.size X_29) MT_27 T_27
                  refine RL.op0 _ (opS_stored (cs := [(.int .i64 0), (.int .i64 0), (.bool false), (.slice none 0 0), (.slice none 0 0)]) (cs' := [(.int .i64 x22.1), (.int .i64 x22.2.1), (.bool x22.2.2.1), v19, v20]) (opv_storeA (us := [(.int .i64 x22.1), (.int .i64 x22.2.1), (.bool x22.2.2.1), v19, v20]) rfl Try.size29 rfl rfl (oneAll rfl (oneAll rfl (oneAll rfl (oneAll (ownO.one (Sep.at (o := ownO (kF .f32) 40 v19 x22.2.2.2.1) S_42 1 rfl)) (oneAll (ownO.one (Sep.at (o := ownO (kF .f32) 40 v20 x22.2.2.2.2.1) S_42 2 rfl)) rfl))))) (Sep.at (o := boxO bb5 [(.int .i64 0), (.int .i64 0), (.bool false), (.slice none 0 0), (.slice none 0 0)]) S_42 0 rfl) rfl rfl) (Sep.at (o := boxO bb5 [(.int .i64 0), (.int .i64 0), (.bool false), (.slice none 0 0), (.slice none 0 0)]) S_42 0 rfl)) ?_
                  rintro _ hp36 ⟨rfl, MT_28, T_28⟩
                  have S_43 : Sep [] h0.size hp35 ([boxO bb5 [(.int .i64 0), (.int .i64 0), (.bool false), (.slice none 0 0), (.slice none 0 0)]] ++ [ownO (kF .f32) 40 v19 x22.2.2.2.1, ownO (kF .f32) 40 v20 x22.2.2.2.2.1, ownO (kI .i64) 2 v18 x21, ownO (kF .f32) 40 v16 x20.2.2.2.1, ownO (kF .f32) 40 v17 x20.2.2.2.2, ownO (kF .f32) 40 v9 x18.2.1, ownO (kF .f32) 40 v10 x18.2.2, ownO (kI .i64) 2 v8 x15.2, ownO (kF .f32) 40 v6 x14.2.1, ownO (kF .f32) 40 v7 x14.2.2, ownO (kI .i64) 2 v15 x12, boxO bb4 [(.int .i64 x7.1), (.int .i64 x7.2.1), (.bool x7.2.2.1), v9, v10], boxO bb3 [(.int .i64 x5.1), (.int .i64 x5.2.1), (.bool x5.2.2.1), v6, v7], boxO bb2 [(.int .i64 x4.1), (.int .i64 x4.2.1), (.bool x4.2.2.1), v4, v5], ownO (kF .f32) 40 v4 x4.2.2.2.1, ownO (kF .f32) 40 v5 x4.2.2.2.2.1, ownO (kI .i64) 2 v3 x3, ownO (kF .f32) 40 v1 x2.2.2.2.1, ownO (kF .f32) 40 v2 x2.2.2.2.2, boxO bb1 [(.int .i64 a0_0), (.int .i64 a0_1), (.bool a0_2), u0_3, u0_4]]) := Sep.sel S_42 [0, 1, 2, 3, 4, 5, 6, 7, 8, 9, 10, 11, 12, 13, 14, 15, 16, 17, 18, 19, 20] (by decide)
                  have X_31 : Mod [] h0 hp36 := Mod.step (A := [boxO bb5 [(.int .i64 0), (.int .i64 0), (.bool false), (.slice none 0 0), (.slice none 0 0)]]) (L := [ownO (kF .f32) 40 v19 x22.2.2.2.1, ownO (kF .f32) 40 v20 x22.2.2.2.2.1, ownO (kI .i64) 2 v18 x21, ownO (kF .f32) 40 v16 x20.2.2.2.1, ownO (kF .f32) 40 v17 x20.2.2.2.2, ownO (kF .f32) 40 v9 x18.2.1, ownO (kF .f32) 40 v10 x18.2.2, ownO (kI .i64) 2 v8 x15.2, ownO (kF .f32) 40 v6 x14.2.1, ownO (kF .f32) 40 v7 x14.2.2, ownO (kI .i64) 2 v15 x12, boxO bb4 [(.int .i64 x7.1), (.int .i64 x7.2.1), (.bool x7.2.2.1), v9, v10], boxO bb3 [(.int .i64 x5.1), (.int .i64 x5.2.1), (.bool x5.2.2.1), v6, v7], boxO bb2 [(.int .i64 x4.1), (.int .i64 x4.2.1), (.bool x4.2.2.1), v4, v5], ownO (kF .f32) 40 v4 x4.2.2.2.1, ownO (kF .f32) 40 v5 x4.2.2.2.2.1, ownO (kI .i64) 2 v3 x3, ownO (kF .f32) 40 v1 x2.2.2.2.1, ownO (kF .f32) 40 v2 x2.2.2.2.2, boxO bb1 [(.int .i64 a0_0), (.int .i64 a0_1), (.bool a0_2), u0_3, u0_4]]) X_30 S_43 MT_28
                  have S_44 : Sep [] h0.size hp36 [boxO bb5 [(.int .i64 x22.1), (.int .i64 x22.2.1), (.bool x22.2.2.1), v19, v20], ownO (kF .f32) 40 v19 x22.2.2.2.1, ownO (kF .f32) 40 v20 x22.2.2.2.2.1, ownO (kI .i64) 2 v18 x21, ownO (kF .f32) 40 v16 x20.2.2.2.1, ownO (kF .f32) 40 v17 x20.2.2.2.2, ownO (kF .f32) 40 v9 x18.2.1, ownO (kF .f32) 40 v10 x18.2.2, ownO (kI .i64) 2 v8 x15.2, ownO (kF .f32) 40 v6 x14.2.1, ownO (kF .f32) 40 v7 x14.2.2, ownO (kI .i64) 2 v15 x12, boxO bb4 [(.int .i64 x7.1), (.int .i64 x7.2.1), (.bool x7.2.2.1), v9, v10], boxO bb3 [(.int .i64 x5.1), (.int .i64 x5.2.1), (.bool x5.2.2.1), v6, v7], boxO bb2 [(.int .i64 x4.1), (.int .i64 x4.2.1), (.bool x4.2.2.1), v4, v5], ownO (kF .f32) 40 v4 x4.2.2.2.1, ownO (kF .f32) 40 v5 x4.2.2.2.2.1, ownO (kI .i64) 2 v3 x3, ownO (kF .f32) 40 v1 x2.2.2.2.1, ownO (kF .f32) 40 v2 x2.2.2.2.2, boxO bb1 [(.int .i64 a0_0), (.int .i64 a0_1), (.bool a0_2), u0_3, u0_4]] := Sep.step (A := [boxO bb5 [(.int .i64 0), (.int .i64 0), (.bool false), (.slice none 0 0), (.slice none 0 0)]]) (L := [ownO (kF .f32) 40 v19 x22.2.2.2.1, ownO (kF .f32) 40 v20 x22.2.2.2.2.1, ownO (kI .i64) 2 v18 x21, ownO (kF .f32) 40 v16 x20.2.2.2.1, ownO (kF .f32) 40 v17 x20.2.2.2.2, ownO (kF .f32) 40 v9 x18.2.1, ownO (kF .f32) 40 v10 x18.2.2, ownO (kI .i64) 2 v8 x15.2, ownO (kF .f32) 40 v6 x14.2.1, ownO (kF .f32) 40 v7 x14.2.2, ownO (kI .i64) 2 v15 x12, boxO bb4 [(.int .i64 x7.1), (.int .i64 x7.2.1), (.bool x7.2.2.1), v9, v10], boxO bb3 [(.int .i64 x5.1), (.int .i64 x5.2.1), (.bool x5.2.2.1), v6, v7], boxO bb2 [(.int .i64 x4.1), (.int .i64 x4.2.1), (.bool x4.2.2.1), v4, v5], ownO (kF .f32) 40 v4 x4.2.2.2.1, ownO (kF .f32) 40 v5 x4.2.2.2.2.1, ownO (kI .i64) 2 v3 x3, ownO (kF .f32) 40 v1 x2.2.2.2.1, ownO (kF .f32) 40 v2 x2.2.2.2.2, boxO bb1 [(.int .i64 a0_0), (.int .i64 a0_1), (.bool a0_2), u0_3, u0_4]]) S_43 (Mod.size X_30) MT_28 T_28
                  refine RL.opD (by decide) (opv_assign rfl rfl) ?_
                  refine RL.nil ?_
                  refine thnN ?_
                  refine W.seq ?_
                  refine W.seq ?_
                  obtain ⟨x23, hy3, hp⟩ := Option.bind_eq_some_iff.1 hp
                  refine W.cut (fun φ' h' => Fr.sub [(0, (.agg (List.toArray (α := Value) [(.int .i64 a0_0), (.int .i64 a0_1), (.bool a0_2), u0_3, u0_4]))), (1, (.int .i64 a1)), (2, u2), (3, (.pointer (some ⟨bb1, 0, none⟩))), (6, (.bool false)), (21, (.bool (decide ((a2.length : Int) > 1048576)))), (7, (.int .i64 x1)), (26, (.bool (decide (x1 < 0)))), (8, (.pointer (some ⟨bb2, 0, none⟩))), (9, (.bool x4.2.2.2.2.2)), (10, (.pointer (some ⟨bb3, 0, none⟩))), (11, v8), (12, (.pointer (some ⟨bb4, 0, none⟩))), (13, (.bool x7.2.2.2.2.2)), (55, (.bool x8)), (60, (.bool (!x11))), (65, (.bool (!x13))), (14, (.int .i64 x15.1)), (84, (.bool x16)), (15, (.int .i64 x18.1)), (16, (.int .i64 x19)), (92, (.bool (decide (x19 < 0)))), (95, (.bool (x19 != x18.1))), (17, (.pointer (some ⟨bb5, 0, none⟩))), (18, (.bool x22.2.2.2.2.2)), (113, (.bool x23))] φ' ∧ Mod [] h0 h' ∧ Sep [] h0.size h' [boxO bb5 [(.int .i64 x22.1), (.int .i64 x22.2.1), (.bool x22.2.2.1), v19, v20], ownO (kF .f32) 40 v19 x22.2.2.2.1, ownO (kF .f32) 40 v20 x22.2.2.2.2.1, ownO (kI .i64) 2 v18 x21, ownO (kF .f32) 40 v16 x20.2.2.2.1, ownO (kF .f32) 40 v17 x20.2.2.2.2, ownO (kF .f32) 40 v9 x18.2.1, ownO (kF .f32) 40 v10 x18.2.2, ownO (kI .i64) 2 v8 x15.2, ownO (kF .f32) 40 v6 x14.2.1, ownO (kF .f32) 40 v7 x14.2.2, ownO (kI .i64) 2 v15 x12, boxO bb4 [(.int .i64 x7.1), (.int .i64 x7.2.1), (.bool x7.2.2.1), v9, v10], boxO bb3 [(.int .i64 x5.1), (.int .i64 x5.2.1), (.bool x5.2.2.1), v6, v7], boxO bb2 [(.int .i64 x4.1), (.int .i64 x4.2.1), (.bool x4.2.2.1), v4, v5], ownO (kF .f32) 40 v4 x4.2.2.2.1, ownO (kF .f32) 40 v5 x4.2.2.2.2.1, ownO (kI .i64) 2 v3 x3, ownO (kF .f32) 40 v1 x2.2.2.2.1, ownO (kF .f32) 40 v2 x2.2.2.2.2, boxO bb1 [(.int .i64 a0_0), (.int .i64 a0_1), (.bool a0_2), u0_3, u0_4]]) ?_ ?_
                  · obtain ⟨x24, hx24, hy3⟩ := Option.bind_eq_some_iff.1 hy3
                    by_cases c12 : (!x24) = true
                    · rw [if_pos c12] at hy3
                      refine W.region ?_
                      refine RL.opD (by decide) (opv_loadA (us := [(.int .i64 x22.1), (.int .i64 x22.2.1), (.bool x22.2.2.1), v19, v20]) rfl Try.agg29 Try.size29 rfl (Sep.at (o := boxO bb5 [(.int .i64 x22.1), (.int .i64 x22.2.1), (.bool x22.2.2.1), v19, v20]) S_44 0 rfl) rfl rfl) ?_
                      refine RL.opD (by decide) (opv_loadA (us := [(.int .i64 x4.1), (.int .i64 x4.2.1), (.bool x4.2.2.1), v4, v5]) rfl Try.agg29 Try.size29 rfl (Sep.at (o := boxO bb2 [(.int .i64 x4.1), (.int .i64 x4.2.1), (.bool x4.2.2.1), v4, v5]) S_44 14 rfl) rfl rfl) ?_
                      refine RL.op _ (by decide) (opv_call (cap := []) (laws_eqSheet_ok _ _ _ _ _ _ (ownO.read (Sep.at (o := ownO (kF .f32) 40 v19 x22.2.2.2.1) S_44 1 rfl)) _ _ (ownO.read (Sep.at (o := ownO (kF .f32) 40 v20 x22.2.2.2.2.1) S_44 2 rfl)) _ _ _ _ _ (ownO.read (Sep.at (o := ownO (kF .f32) 40 v4 x4.2.2.2.1) S_44 15 rfl)) _ _ (ownO.read (Sep.at (o := ownO (kF .f32) 40 v5 x4.2.2.2.2.1) S_44 16 rfl)) _ hx24) rfl rfl ⟨rfl, rfl, trivial⟩ Try.func23 rfl rfl) ?_
                      rintro _ hp37 ⟨rfl, MT_29, T_29⟩
                      have X_32 : Mod [] h0 hp37 := Mod.step (A := []) (L := [boxO bb5 [(.int .i64 x22.1), (.int .i64 x22.2.1), (.bool x22.2.2.1), v19, v20], ownO (kF .f32) 40 v19 x22.2.2.2.1, ownO (kF .f32) 40 v20 x22.2.2.2.2.1, ownO (kI .i64) 2 v18 x21, ownO (kF .f32) 40 v16 x20.2.2.2.1, ownO (kF .f32) 40 v17 x20.2.2.2.2, ownO (kF .f32) 40 v9 x18.2.1, ownO (kF .f32) 40 v10 x18.2.2, ownO (kI .i64) 2 v8 x15.2, ownO (kF .f32) 40 v6 x14.2.1, ownO (kF .f32) 40 v7 x14.2.2, ownO (kI .i64) 2 v15 x12, boxO bb4 [(.int .i64 x7.1), (.int .i64 x7.2.1), (.bool x7.2.2.1), v9, v10], boxO bb3 [(.int .i64 x5.1), (.int .i64 x5.2.1), (.bool x5.2.2.1), v6, v7], boxO bb2 [(.int .i64 x4.1), (.int .i64 x4.2.1), (.bool x4.2.2.1), v4, v5], ownO (kF .f32) 40 v4 x4.2.2.2.1, ownO (kF .f32) 40 v5 x4.2.2.2.2.1, ownO (kI .i64) 2 v3 x3, ownO (kF .f32) 40 v1 x2.2.2.2.1, ownO (kF .f32) 40 v2 x2.2.2.2.2, boxO bb1 [(.int .i64 a0_0), (.int .i64 a0_1), (.bool a0_2), u0_3, u0_4]]) X_31 S_44 MT_29
                      have S_45 : Sep [] h0.size hp37 [boxO bb5 [(.int .i64 x22.1), (.int .i64 x22.2.1), (.bool x22.2.2.1), v19, v20], ownO (kF .f32) 40 v19 x22.2.2.2.1, ownO (kF .f32) 40 v20 x22.2.2.2.2.1, ownO (kI .i64) 2 v18 x21, ownO (kF .f32) 40 v16 x20.2.2.2.1, ownO (kF .f32) 40 v17 x20.2.2.2.2, ownO (kF .f32) 40 v9 x18.2.1, ownO (kF .f32) 40 v10 x18.2.2, ownO (kI .i64) 2 v8 x15.2, ownO (kF .f32) 40 v6 x14.2.1, ownO (kF .f32) 40 v7 x14.2.2, ownO (kI .i64) 2 v15 x12, boxO bb4 [(.int .i64 x7.1), (.int .i64 x7.2.1), (.bool x7.2.2.1), v9, v10], boxO bb3 [(.int .i64 x5.1), (.int .i64 x5.2.1), (.bool x5.2.2.1), v6, v7], boxO bb2 [(.int .i64 x4.1), (.int .i64 x4.2.1), (.bool x4.2.2.1), v4, v5], ownO (kF .f32) 40 v4 x4.2.2.2.1, ownO (kF .f32) 40 v5 x4.2.2.2.2.1, ownO (kI .i64) 2 v3 x3, ownO (kF .f32) 40 v1 x2.2.2.2.1, ownO (kF .f32) 40 v2 x2.2.2.2.2, boxO bb1 [(.int .i64 a0_0), (.int .i64 a0_1), (.bool a0_2), u0_3, u0_4]] := Sep.step (A := []) (L := [boxO bb5 [(.int .i64 x22.1), (.int .i64 x22.2.1), (.bool x22.2.2.1), v19, v20], ownO (kF .f32) 40 v19 x22.2.2.2.1, ownO (kF .f32) 40 v20 x22.2.2.2.2.1, ownO (kI .i64) 2 v18 x21, ownO (kF .f32) 40 v16 x20.2.2.2.1, ownO (kF .f32) 40 v17 x20.2.2.2.2, ownO (kF .f32) 40 v9 x18.2.1, ownO (kF .f32) 40 v10 x18.2.2, ownO (kI .i64) 2 v8 x15.2, ownO (kF .f32) 40 v6 x14.2.1, ownO (kF .f32) 40 v7 x14.2.2, ownO (kI .i64) 2 v15 x12, boxO bb4 [(.int .i64 x7.1), (.int .i64 x7.2.1), (.bool x7.2.2.1), v9, v10], boxO bb3 [(.int .i64 x5.1), (.int .i64 x5.2.1), (.bool x5.2.2.1), v6, v7], boxO bb2 [(.int .i64 x4.1), (.int .i64 x4.2.1), (.bool x4.2.2.1), v4, v5], ownO (kF .f32) 40 v4 x4.2.2.2.1, ownO (kF .f32) 40 v5 x4.2.2.2.2.1, ownO (kI .i64) 2 v3 x3, ownO (kF .f32) 40 v1 x2.2.2.2.1, ownO (kF .f32) 40 v2 x2.2.2.2.2, boxO bb1 [(.int .i64 a0_0), (.int .i64 a0_1), (.bool a0_2), u0_3, u0_4]]) S_44 (Mod.size X_31) MT_29 T_29
                      refine RL.opD (by decide) (opv_not rfl rfl) ?_
                      refine RL.opD (by decide) (opv_move rfl rfl) ?_
                      refine RL.no rfl rfl (Eq.trans c12 (by decide)) (by decide) ?_
                      refine RL.no rfl rfl (Eq.trans c12 (by decide)) (by decide) ?_
                      refine RL.no rfl rfl (Eq.trans c12 (by decide)) (by decide) ?_
                      refine RL.opD (by decide) (opv_pick rfl rfl (fun _ => rfl) (fun e => absurd (Eq.trans (Eq.symm e) c12) (by decide)) rfl) ?_
                      refine RL.nil ?_
                      have ey3 := Option.some.inj hy3
                      subst ey3
                      refine onlyN ?_
                      exact ⟨⟨rfl, rfl, rfl, rfl, rfl, rfl, rfl, rfl, rfl, rfl, rfl, rfl, rfl, rfl, rfl, rfl, rfl, rfl, rfl, rfl, rfl, rfl, rfl, rfl, rfl, rfl, trivial⟩, X_32, (Sep.sel S_45 [0, 1, 2, 3, 4, 5, 6, 7, 8, 9, 10, 11, 12, 13, 14, 15, 16, 17, 18, 19, 20] (by decide))⟩
                    · rw [if_neg c12] at hy3
                      have c12 := eq_false_of_ne_true c12
                      refine W.region ?_
                      refine RL.opD (by decide) (opv_loadA (us := [(.int .i64 x22.1), (.int .i64 x22.2.1), (.bool x22.2.2.1), v19, v20]) rfl Try.agg29 Try.size29 rfl (Sep.at (o := boxO bb5 [(.int .i64 x22.1), (.int .i64 x22.2.1), (.bool x22.2.2.1), v19, v20]) S_44 0 rfl) rfl rfl) ?_
                      refine RL.opD (by decide) (opv_loadA (us := [(.int .i64 x4.1), (.int .i64 x4.2.1), (.bool x4.2.2.1), v4, v5]) rfl Try.agg29 Try.size29 rfl (Sep.at (o := boxO bb2 [(.int .i64 x4.1), (.int .i64 x4.2.1), (.bool x4.2.2.1), v4, v5]) S_44 14 rfl) rfl rfl) ?_
                      refine RL.op _ (by decide) (opv_call (cap := []) (laws_eqSheet_ok _ _ _ _ _ _ (ownO.read (Sep.at (o := ownO (kF .f32) 40 v19 x22.2.2.2.1) S_44 1 rfl)) _ _ (ownO.read (Sep.at (o := ownO (kF .f32) 40 v20 x22.2.2.2.2.1) S_44 2 rfl)) _ _ _ _ _ (ownO.read (Sep.at (o := ownO (kF .f32) 40 v4 x4.2.2.2.1) S_44 15 rfl)) _ _ (ownO.read (Sep.at (o := ownO (kF .f32) 40 v5 x4.2.2.2.2.1) S_44 16 rfl)) _ hx24) rfl rfl ⟨rfl, rfl, trivial⟩ Try.func23 rfl rfl) ?_
                      rintro _ hp37 ⟨rfl, MT_29, T_29⟩
                      have X_32 : Mod [] h0 hp37 := Mod.step (A := []) (L := [boxO bb5 [(.int .i64 x22.1), (.int .i64 x22.2.1), (.bool x22.2.2.1), v19, v20], ownO (kF .f32) 40 v19 x22.2.2.2.1, ownO (kF .f32) 40 v20 x22.2.2.2.2.1, ownO (kI .i64) 2 v18 x21, ownO (kF .f32) 40 v16 x20.2.2.2.1, ownO (kF .f32) 40 v17 x20.2.2.2.2, ownO (kF .f32) 40 v9 x18.2.1, ownO (kF .f32) 40 v10 x18.2.2, ownO (kI .i64) 2 v8 x15.2, ownO (kF .f32) 40 v6 x14.2.1, ownO (kF .f32) 40 v7 x14.2.2, ownO (kI .i64) 2 v15 x12, boxO bb4 [(.int .i64 x7.1), (.int .i64 x7.2.1), (.bool x7.2.2.1), v9, v10], boxO bb3 [(.int .i64 x5.1), (.int .i64 x5.2.1), (.bool x5.2.2.1), v6, v7], boxO bb2 [(.int .i64 x4.1), (.int .i64 x4.2.1), (.bool x4.2.2.1), v4, v5], ownO (kF .f32) 40 v4 x4.2.2.2.1, ownO (kF .f32) 40 v5 x4.2.2.2.2.1, ownO (kI .i64) 2 v3 x3, ownO (kF .f32) 40 v1 x2.2.2.2.1, ownO (kF .f32) 40 v2 x2.2.2.2.2, boxO bb1 [(.int .i64 a0_0), (.int .i64 a0_1), (.bool a0_2), u0_3, u0_4]]) X_31 S_44 MT_29
                      have S_45 : Sep [] h0.size hp37 [boxO bb5 [(.int .i64 x22.1), (.int .i64 x22.2.1), (.bool x22.2.2.1), v19, v20], ownO (kF .f32) 40 v19 x22.2.2.2.1, ownO (kF .f32) 40 v20 x22.2.2.2.2.1, ownO (kI .i64) 2 v18 x21, ownO (kF .f32) 40 v16 x20.2.2.2.1, ownO (kF .f32) 40 v17 x20.2.2.2.2, ownO (kF .f32) 40 v9 x18.2.1, ownO (kF .f32) 40 v10 x18.2.2, ownO (kI .i64) 2 v8 x15.2, ownO (kF .f32) 40 v6 x14.2.1, ownO (kF .f32) 40 v7 x14.2.2, ownO (kI .i64) 2 v15 x12, boxO bb4 [(.int .i64 x7.1), (.int .i64 x7.2.1), (.bool x7.2.2.1), v9, v10], boxO bb3 [(.int .i64 x5.1), (.int .i64 x5.2.1), (.bool x5.2.2.1), v6, v7], boxO bb2 [(.int .i64 x4.1), (.int .i64 x4.2.1), (.bool x4.2.2.1), v4, v5], ownO (kF .f32) 40 v4 x4.2.2.2.1, ownO (kF .f32) 40 v5 x4.2.2.2.2.1, ownO (kI .i64) 2 v3 x3, ownO (kF .f32) 40 v1 x2.2.2.2.1, ownO (kF .f32) 40 v2 x2.2.2.2.2, boxO bb1 [(.int .i64 a0_0), (.int .i64 a0_1), (.bool a0_2), u0_3, u0_4]] := Sep.step (A := []) (L := [boxO bb5 [(.int .i64 x22.1), (.int .i64 x22.2.1), (.bool x22.2.2.1), v19, v20], ownO (kF .f32) 40 v19 x22.2.2.2.1, ownO (kF .f32) 40 v20 x22.2.2.2.2.1, ownO (kI .i64) 2 v18 x21, ownO (kF .f32) 40 v16 x20.2.2.2.1, ownO (kF .f32) 40 v17 x20.2.2.2.2, ownO (kF .f32) 40 v9 x18.2.1, ownO (kF .f32) 40 v10 x18.2.2, ownO (kI .i64) 2 v8 x15.2, ownO (kF .f32) 40 v6 x14.2.1, ownO (kF .f32) 40 v7 x14.2.2, ownO (kI .i64) 2 v15 x12, boxO bb4 [(.int .i64 x7.1), (.int .i64 x7.2.1), (.bool x7.2.2.1), v9, v10], boxO bb3 [(.int .i64 x5.1), (.int .i64 x5.2.1), (.bool x5.2.2.1), v6, v7], boxO bb2 [(.int .i64 x4.1), (.int .i64 x4.2.1), (.bool x4.2.2.1), v4, v5], ownO (kF .f32) 40 v4 x4.2.2.2.1, ownO (kF .f32) 40 v5 x4.2.2.2.2.1, ownO (kI .i64) 2 v3 x3, ownO (kF .f32) 40 v1 x2.2.2.2.1, ownO (kF .f32) 40 v2 x2.2.2.2.2, boxO bb1 [(.int .i64 a0_0), (.int .i64 a0_1), (.bool a0_2), u0_3, u0_4]]) S_44 (Mod.size X_31) MT_29 T_29
                      refine RL.opD (by decide) (opv_not rfl rfl) ?_
                      refine RL.opD (by decide) (opv_move rfl rfl) ?_
                      refine RL.yes _ rfl rfl c12 (by decide) (opv_move rfl rfl) ?_
                      rintro _ _ ⟨rfl, rfl⟩
                      refine RL.yes _ rfl rfl c12 (by decide) (opv_move rfl rfl) ?_
                      rintro _ _ ⟨rfl, rfl⟩
                      refine RL.yes _ rfl rfl c12 (by decide) (opv_bcmp rfl rfl Try.underlying4 rfl rfl) ?_
                      rintro _ _ ⟨rfl, rfl⟩
                      refine RL.opD (by decide) (opv_pick rfl rfl (fun e => absurd (Eq.trans (Eq.symm e) c12) (by decide)) (fun _ => rfl) rfl) ?_
                      refine RL.nil ?_
                      have ey3 := Option.some.inj hy3
                      subst ey3
                      refine onlyN ?_
                      exact ⟨⟨rfl, rfl, rfl, rfl, rfl, rfl, rfl, rfl, rfl, rfl, rfl, rfl, rfl, rfl, rfl, rfl, rfl, rfl, rfl, rfl, rfl, rfl, rfl, rfl, rfl, rfl, trivial⟩, X_32, (Sep.sel S_45 [0, 1, 2, 3, 4, 5, 6, 7, 8, 9, 10, 11, 12, 13, 14, 15, 16, 17, 18, 19, 20] (by decide))⟩
                  rintro φ' hp38 ⟨hs3, X_33, S_46⟩
                  refine thnN ?_
                  refine W.sub hs3 ?_
                  by_cases c13 : x23 = true
                  · rw [if_pos c13] at hp
                    refine W.condT rfl c13 ?_
                    refine W.seq ?_
                    refine W.region ?_
                    refine RL.opD (by decide) (opv_assign rfl rfl) ?_
                    refine RL.nil ?_
                    refine thnN ?_
                    refine W.ret ?_
                    refine thnR ?_
                    have er := Option.some.inj hp
                    subst er
                    exact Rt.one rfl rfl ⟨rfl, X_33, (Sep.nil _ _ _)⟩
                  · rw [if_neg c13] at hp
                    have c13 := eq_false_of_ne_true c13
                    refine W.condF rfl c13 ?_
                    refine W.skip ?_
                    refine thnN ?_
                    refine W.seq ?_
                    refine W.region ?_
                    refine RL.opD (by decide) (opv_assign rfl rfl) ?_
                    refine RL.nil ?_
                    refine thnN ?_
                    refine W.seq ?_
                    obtain ⟨x25, hx25, hp⟩ := Option.bind_eq_some_iff.1 hp
                    refine W.region ?_
                    refine RL.opD (by decide) (opv_loadA (us := [(.int .i64 x7.1), (.int .i64 x7.2.1), (.bool x7.2.2.1), v9, v10]) rfl Try.agg29 Try.size29 rfl (Sep.at (o := boxO bb4 [(.int .i64 x7.1), (.int .i64 x7.2.1), (.bool x7.2.2.1), v9, v10]) S_46 12 rfl) rfl rfl) ?_
                    refine RL.opD (by decide) (opv_move rfl rfl) ?_
                    refine RL.op _ (by decide) (opv_call (cap := []) (laws_heldSheet_ok _ _ _ _ _ _ (ownO.read (Sep.at (o := ownO (kF .f32) 40 v9 x18.2.1) S_46 6 rfl)) _ _ (ownO.read (Sep.at (o := ownO (kF .f32) 40 v10 x18.2.2) S_46 7 rfl)) _ _ hx25) rfl rfl ⟨rfl, rfl, trivial⟩ Try.func49 rfl rfl) ?_
                    rintro _ hp39 ⟨rfl, MT_30, T_30⟩
                    have X_34 : Mod [] h0 hp39 := Mod.step (A := []) (L := [boxO bb5 [(.int .i64 x22.1), (.int .i64 x22.2.1), (.bool x22.2.2.1), v19, v20], ownO (kF .f32) 40 v19 x22.2.2.2.1, ownO (kF .f32) 40 v20 x22.2.2.2.2.1, ownO (kI .i64) 2 v18 x21, ownO (kF .f32) 40 v16 x20.2.2.2.1, ownO (kF .f32) 40 v17 x20.2.2.2.2, ownO (kF .f32) 40 v9 x18.2.1, ownO (kF .f32) 40 v10 x18.2.2, ownO (kI .i64) 2 v8 x15.2, ownO (kF .f32) 40 v6 x14.2.1, ownO (kF .f32) 40 v7 x14.2.2, ownO (kI .i64) 2 v15 x12, boxO bb4 [(.int .i64 x7.1), (.int .i64 x7.2.1), (.bool x7.2.2.1), v9, v10], boxO bb3 [(.int .i64 x5.1), (.int .i64 x5.2.1), (.bool x5.2.2.1), v6, v7], boxO bb2 [(.int .i64 x4.1), (.int .i64 x4.2.1), (.bool x4.2.2.1), v4, v5], ownO (kF .f32) 40 v4 x4.2.2.2.1, ownO (kF .f32) 40 v5 x4.2.2.2.2.1, ownO (kI .i64) 2 v3 x3, ownO (kF .f32) 40 v1 x2.2.2.2.1, ownO (kF .f32) 40 v2 x2.2.2.2.2, boxO bb1 [(.int .i64 a0_0), (.int .i64 a0_1), (.bool a0_2), u0_3, u0_4]]) X_33 S_46 MT_30
                    have S_47 : Sep [] h0.size hp39 [boxO bb5 [(.int .i64 x22.1), (.int .i64 x22.2.1), (.bool x22.2.2.1), v19, v20], ownO (kF .f32) 40 v19 x22.2.2.2.1, ownO (kF .f32) 40 v20 x22.2.2.2.2.1, ownO (kI .i64) 2 v18 x21, ownO (kF .f32) 40 v16 x20.2.2.2.1, ownO (kF .f32) 40 v17 x20.2.2.2.2, ownO (kF .f32) 40 v9 x18.2.1, ownO (kF .f32) 40 v10 x18.2.2, ownO (kI .i64) 2 v8 x15.2, ownO (kF .f32) 40 v6 x14.2.1, ownO (kF .f32) 40 v7 x14.2.2, ownO (kI .i64) 2 v15 x12, boxO bb4 [(.int .i64 x7.1), (.int .i64 x7.2.1), (.bool x7.2.2.1), v9, v10], boxO bb3 [(.int .i64 x5.1), (.int .i64 x5.2.1), (.bool x5.2.2.1), v6, v7], boxO bb2 [(.int .i64 x4.1), (.int .i64 x4.2.1), (.bool x4.2.2.1), v4, v5], ownO (kF .f32) 40 v4 x4.2.2.2.1, ownO (kF .f32) 40 v5 x4.2.2.2.2.1, ownO (kI .i64) 2 v3 x3, ownO (kF .f32) 40 v1 x2.2.2.2.1, ownO (kF .f32) 40 v2 x2.2.2.2.2, boxO bb1 [(.int .i64 a0_0), (.int .i64 a0_1), (.bool a0_2), u0_3, u0_4]] := Sep.step (A := []) (L := [boxO bb5 [(.int .i64 x22.1), (.int .i64 x22.2.1), (.bool x22.2.2.1), v19, v20], ownO (kF .f32) 40 v19 x22.2.2.2.1, ownO (kF .f32) 40 v20 x22.2.2.2.2.1, ownO (kI .i64) 2 v18 x21, ownO (kF .f32) 40 v16 x20.2.2.2.1, ownO (kF .f32) 40 v17 x20.2.2.2.2, ownO (kF .f32) 40 v9 x18.2.1, ownO (kF .f32) 40 v10 x18.2.2, ownO (kI .i64) 2 v8 x15.2, ownO (kF .f32) 40 v6 x14.2.1, ownO (kF .f32) 40 v7 x14.2.2, ownO (kI .i64) 2 v15 x12, boxO bb4 [(.int .i64 x7.1), (.int .i64 x7.2.1), (.bool x7.2.2.1), v9, v10], boxO bb3 [(.int .i64 x5.1), (.int .i64 x5.2.1), (.bool x5.2.2.1), v6, v7], boxO bb2 [(.int .i64 x4.1), (.int .i64 x4.2.1), (.bool x4.2.2.1), v4, v5], ownO (kF .f32) 40 v4 x4.2.2.2.1, ownO (kF .f32) 40 v5 x4.2.2.2.2.1, ownO (kI .i64) 2 v3 x3, ownO (kF .f32) 40 v1 x2.2.2.2.1, ownO (kF .f32) 40 v2 x2.2.2.2.2, boxO bb1 [(.int .i64 a0_0), (.int .i64 a0_1), (.bool a0_2), u0_3, u0_4]]) S_46 (Mod.size X_33) MT_30 T_30
                    refine RL.opD (by decide) (opv_assign rfl rfl) ?_
                    refine RL.nil ?_
                    refine thnN ?_
                    refine W.seq ?_
                    refine W.seq ?_
                    refine W.region ?_
                    refine RL.opD (by decide) (opv_move rfl rfl) ?_
                    refine RL.opD (by decide) (opv_icmp rfl rfl rfl rfl) ?_
                    refine RL.nil ?_
                    refine thnN ?_
                    by_cases c14 : (decide (x25 < 0)) = true
                    · rw [if_pos c14] at hp
                      refine W.condT rfl c14 ?_
                      refine W.seq ?_
                      refine W.region ?_
                      refine RL.opD (by decide) (opv_assign rfl rfl) ?_
                      refine RL.nil ?_
                      refine thnN ?_
                      refine W.ret ?_
                      refine thnR ?_
                      have er := Option.some.inj hp
                      subst er
                      exact Rt.one rfl rfl ⟨rfl, X_34, (Sep.nil _ _ _)⟩
                    · rw [if_neg c14] at hp
                      have c14 := eq_false_of_ne_true c14
                      refine W.condF rfl c14 ?_
                      refine W.skip ?_
                      refine thnN ?_
                      refine W.seq ?_
                      refine W.seq ?_
                      refine W.region ?_
                      refine RL.opD (by decide) (opv_move rfl rfl) ?_
                      refine RL.opD (by decide) (opv_move rfl rfl) ?_
                      refine RL.opD (by decide) (opv_icmp rfl rfl rfl rfl) ?_
                      refine RL.nil ?_
                      refine thnN ?_
                      by_cases c15 : (x25 != x18.1) = true
                      · rw [if_pos c15] at hp
                        refine W.condT rfl c15 ?_
                        refine W.seq ?_
                        refine W.region ?_
                        refine RL.opD (by decide) (opv_assign rfl rfl) ?_
                        refine RL.nil ?_
                        refine thnN ?_
                        refine W.ret ?_
                        refine thnR ?_
                        have er := Option.some.inj hp
                        subst er
                        exact Rt.one rfl rfl ⟨rfl, X_34, (Sep.nil _ _ _)⟩
                      · rw [if_neg c15] at hp
                        have c15 := eq_false_of_ne_true c15
                        refine W.condF rfl c15 ?_
                        refine W.skip ?_
                        refine thnN ?_
                        refine W.seq ?_
                        refine W.region ?_
                        refine RL.opD (by decide) (opv_assign rfl rfl) ?_
                        refine RL.nil ?_
                        refine thnN ?_
                        refine W.ret ?_
                        have er := Option.some.inj hp
                        subst er
                        exact Rt.one rfl rfl ⟨rfl, X_34, (Sep.nil _ _ _)⟩

end Go.H
