/- Functions of the program: what each computes, as a plain function, and that the call comes to it. Written by a program (wip/gen). -/
import Derived.Test.YtmgoblppedmdhaaGBase
import Derived.Test.YtmgoblppedmdhaaGCopy
import Derived.Test.YtmgoblppedmdhaaGSheet
import Derived.Test.YtmgoblppedmdhaaGSort
import Derived.Test.YtmgoblppedmdhaaGHalo
import Derived.Test.YtmgoblppedmdhaaGSortLL
import Derived.Test.YtmgoblppedmdhaaBase27
import Derived.Test.YtmgoblppedmdhaaProg
import Derived.KernelRfl
set_option linter.unusedVariables false
namespace Go.H
open Go Go.Proofs

theorem _root_.Go.Proofs.Try.einfo71 : elemInfo Try.prog 71 = some ((.slice none 0 0), 1, 24) := by kernel_rfl
theorem _root_.Go.Proofs.Try.isinfo71 : (Try.prog.info? 71).isSome = true := by kernel_rfl
theorem _root_.Go.Proofs.Try.one71 : oneCellT Try.prog 71 = true := by kernel_rfl
theorem _root_.Go.Proofs.Try.size71 : (Try.prog.info? 71).map (·.size) = some 1 := by kernel_rfl

noncomputable def spec_l07Strips.s0 (a0 : Int) (a1 : Int) (x1 : List ((Int × Int))) (x2 : Int) (x3 : Int) : Option (((List ((Int × Int))) × Int × Int) ⊕ (Int × Int × Bool × (List ((Int × Int))))) :=
 (if (decide (x3 < a1)) = true then (if a1 = 0 then none else (if a1 = 0 then none else (((if (decide (x3 < (Int.tmod a0 a1))) = true then some (IntKind.wrap .i64 ((IntKind.wrap .i64 (Int.tdiv a0 a1)) + 1)) else some (IntKind.wrap .i64 (Int.tdiv a0 a1))) : Option Int).bind fun (x8 : Int) => (((if (decide (x8 > 0)) = true then (if x1.length + [(x2, x8)].length ≤ 1000000000 then some (x1 ++ [(x2, x8)]) else none) else some x1) : Option (List ((Int × Int)))).bind fun (x9 : List ((Int × Int))) => some (.inl (x9, IntKind.wrap .i64 (x2 + x8), IntKind.wrap .i64 (x3 + 1))))))) else some (.inr (x2, x3, decide (x3 < a1), x1)))

noncomputable def spec_l07Strips (a0 : Int) (a1 : Int) : Option (List ((Int × Int))) :=
 ((loopF (fun (s : ((List ((Int × Int))) × Int × Int)) => spec_l07Strips.s0 a0 a1 s.1 s.2.1 s.2.2) (([] : List ((Int × Int))), 0, 0)).bind fun (⟨x4, x5, x6, x7⟩ : (Int × Int × Bool × (List ((Int × Int))))) => some x7)

noncomputable def spec_l07Halo__el.s0 (a0_1 : Int) (a0_2 : Bool) (a1 : (Int × Int)) (x1 : List (Int)) (x2 : Int) : Option (((List (Int)) × Int) ⊕ (Int × Bool × (List (Int)))) :=
 (if (decide (x2 ≤ (IntKind.wrap .i64 (a1.1 + a1.2)))) = true then (((if a0_2 = true then (if a0_1 = 0 then none else ((spec_l00Put x1 (Int.tmod (IntKind.wrap .i64 (x2 + a0_1)) a0_1)).bind fun (x7 : List (Int)) => some x7)) else ((spec_l00In x2 0 (IntKind.wrap .i64 (a0_1 - 1))).bind fun (x8 : Bool) => (((if x8 = true then ((spec_l00Put x1 x2).bind fun (x10 : List (Int)) => some x10) else some x1) : Option (List (Int))).bind fun (x9 : List (Int)) => some x9))) : Option (List (Int))).bind fun (x6 : List (Int)) => some (.inl (x6, IntKind.wrap .i64 (x2 + 1)))) else some (.inr (x2, decide (x2 ≤ (IntKind.wrap .i64 (a1.1 + a1.2))), x1)))

noncomputable def spec_l07Halo__el (a0_0 : Int) (a0_1 : Int) (a0_2 : Bool) (a0_3 : List (Option Nat)) (a0_4 : List (Option Nat)) (a1 : (Int × Int)) : Option (List (Int)) :=
 ((loopF (fun (s : ((List (Int)) × Int)) => spec_l07Halo__el.s0 a0_1 a0_2 a1 s.1 s.2) (([] : List (Int)), IntKind.wrap .i64 (a1.1 - 1))).bind fun (⟨x3, x4, x5⟩ : (Int × Bool × (List (Int)))) => some x5)

noncomputable def spec_MessagesOf.s2 (x4 : List ((Int × Int))) (x6 : Int) (x11 : Int) (x16 : List (Int)) (x17 : List (List (Int))) (x18 : Int) : Option (((List (List (Int))) × Int) ⊕ (Int × Bool × (List (List (Int))))) :=
 (if (decide (x18 < (x16.length : Int))) = true then (((if (x6 != x11) = true then ((idx x16 x18).bind fun (x23 : Int) => ((idx x4 x6).bind fun (x24 : (Int × Int)) => ((idx x4 x6).bind fun (x25 : (Int × Int)) => ((idx x4 x6).bind fun (x26 : (Int × Int)) => ((spec_l00In x23 x24.1 (IntKind.wrap .i64 ((IntKind.wrap .i64 (x25.1 + x26.2)) - 1))).bind fun (x27 : Bool) => some x27))))) else some false) : Option Bool).bind fun (x22 : Bool) => (((if x22 = true then ((idx x16 x18).bind fun (x29 : Int) => (if x17.length + [[x6, x11, x29]].length ≤ 1000000000 then some (x17 ++ [[x6, x11, x29]]) else none)) else some x17) : Option (List (List (Int)))).bind fun (x28 : List (List (Int))) => some (.inl (x28, IntKind.wrap .i64 (x18 + 1))))) else some (.inr (x18, decide (x18 < (x16.length : Int)), x17)))

noncomputable def spec_MessagesOf.s1 (a0_0 : Int) (a0_1 : Int) (a0_2 : Bool) (a0_3 : List (Option Nat)) (a0_4 : List (Option Nat)) (x4 : List ((Int × Int))) (x6 : Int) (x10 : List (List (Int))) (x11 : Int) : Option (((List (List (Int))) × Int) ⊕ (Int × Bool × (List (List (Int))))) :=
 (if (decide (x11 < (x4.length : Int))) = true then ((idx x4 x11).bind fun (x15 : (Int × Int)) => ((spec_l07Halo__el a0_0 a0_1 a0_2 a0_3 a0_4 x15).bind fun (x16 : List (Int)) => ((loopF (fun (s : ((List (List (Int))) × Int)) => spec_MessagesOf.s2 x4 x6 x11 x16 s.1 s.2) (x10, 0)).bind fun (⟨x19, x20, x21⟩ : (Int × Bool × (List (List (Int))))) => some (.inl (x21, IntKind.wrap .i64 (x11 + 1)))))) else some (.inr (x11, decide (x11 < (x4.length : Int)), x10)))

noncomputable def spec_MessagesOf.s0 (a0_0 : Int) (a0_1 : Int) (a0_2 : Bool) (a0_3 : List (Option Nat)) (a0_4 : List (Option Nat)) (x4 : List ((Int × Int))) (x5 : List (List (Int))) (x6 : Int) : Option (((List (List (Int))) × Int) ⊕ (Int × Bool × (List (List (Int))))) :=
 (if (decide (x6 < (x4.length : Int))) = true then ((loopF (fun (s : ((List (List (Int))) × Int)) => spec_MessagesOf.s1 a0_0 a0_1 a0_2 a0_3 a0_4 x4 x6 s.1 s.2) (x5, 0)).bind fun (⟨x12, x13, x14⟩ : (Int × Bool × (List (List (Int))))) => some (.inl (x14, IntKind.wrap .i64 (x6 + 1)))) else some (.inr (x6, decide (x6 < (x4.length : Int)), x5)))

noncomputable def spec_MessagesOf (a0_0 : Int) (a0_1 : Int) (a0_2 : Bool) (a0_3 : List (Option Nat)) (a0_4 : List (Option Nat)) (a1 : Int) : Option ((List (List (Int))) × Bool) :=
 ((((spec_l02Is a0_0 a0_1 a0_2 a0_3 a0_4).bind fun (x2 : Bool) => (if (!x2) = true then some true else ((spec_l00In a1 1 8).bind fun (x3 : Bool) => some (!x3)))) : Option Bool).bind fun (x1 : Bool) => (if x1 = true then some (([] : List (List (Int))), false) else ((spec_l07Strips a0_1 a1).bind fun (x4 : List ((Int × Int))) => ((loopF (fun (s : ((List (List (Int))) × Int)) => spec_MessagesOf.s0 a0_0 a0_1 a0_2 a0_3 a0_4 x4 s.1 s.2) (([] : List (List (Int))), 0)).bind fun (⟨x7, x8, x9⟩ : (Int × Bool × (List (List (Int))))) => some (x9, true)))))

noncomputable def impl_areWorkers (a0 : Int) : Option Bool :=
 ((impl_within a0 1 8).bind fun (x1 : Bool) => some x1)

noncomputable def impl_stripsOf.s0 (a0_1 : Int) (a1 : Int) (x1 : List ((Int × Int))) (x2 : Int) (x3 : Int) : Option (((List ((Int × Int))) × Int × Int) ⊕ (Int × Int × Bool × (List ((Int × Int))))) :=
 (if (decide (x3 < a1)) = true then (if a1 = 0 then none else (if a1 = 0 then none else (((if (decide (x3 < (Int.tmod a0_1 a1))) = true then some (IntKind.wrap .i64 ((IntKind.wrap .i64 (Int.tdiv a0_1 a1)) + 1)) else some (IntKind.wrap .i64 (Int.tdiv a0_1 a1))) : Option Int).bind fun (x8 : Int) => (((if (decide (x8 > 0)) = true then (if x1.length + [(x2, x8)].length ≤ 1000000000 then some (x1 ++ [(x2, x8)]) else none) else some x1) : Option (List ((Int × Int)))).bind fun (x9 : List ((Int × Int))) => some (.inl (x9, IntKind.wrap .i64 (x2 + x8), IntKind.wrap .i64 (x3 + 1))))))) else some (.inr (x2, x3, decide (x3 < a1), x1)))

noncomputable def impl_stripsOf (a0_0 : Int) (a0_1 : Int) (a0_2 : Bool) (a0_3 : List (Option Nat)) (a0_4 : List (Option Nat)) (a1 : Int) : Option (List ((Int × Int))) :=
 ((loopF (fun (s : ((List ((Int × Int))) × Int × Int)) => impl_stripsOf.s0 a0_1 a1 s.1 s.2.1 s.2.2) (([] : List ((Int × Int))), 0, 0)).bind fun (⟨x4, x5, x6, x7⟩ : (Int × Int × Bool × (List ((Int × Int))))) => some x7)

noncomputable def impl_StripsOf (a0_0 : Int) (a0_1 : Int) (a0_2 : Bool) (a0_3 : List (Option Nat)) (a0_4 : List (Option Nat)) (a1 : Int) : Option ((List ((Int × Int))) × Bool) :=
 ((((impl_ValidSheet a0_0 a0_1 a0_2 a0_3 a0_4).bind fun (x2 : Bool) => (if (!x2) = true then some true else ((impl_areWorkers a1).bind fun (x3 : Bool) => some (!x3)))) : Option Bool).bind fun (x1 : Bool) => (if x1 = true then some (([] : List ((Int × Int))), false) else ((impl_stripsOf a0_0 a0_1 a0_2 a0_3 a0_4 a1).bind fun (x4 : List ((Int × Int))) => some (x4, true))))

noncomputable def impl_MessagesOf.s2 (x1 : ((List ((Int × Int))) × Bool)) (x3 : Int) (x14 : Int) (x15 : List (List (Int))) (x16 : Int) : Option (((List (List (Int))) × Int) ⊕ (Int × Bool × (List (List (Int))))) :=
 (if (decide (x16 < (x1.1.length : Int))) = true then ((idx x1.1 x16).bind fun (x20 : (Int × Int)) => (((if (x16 != x3) = true then ((impl_within x14 x20.1 (IntKind.wrap .i64 ((IntKind.wrap .i64 (x20.1 + x20.2)) - 1))).bind fun (x22 : Bool) => some x22) else some false) : Option Bool).bind fun (x21 : Bool) => (((if x21 = true then (if x15.length + [[x16, x3, x14]].length ≤ 1000000000 then some (x15 ++ [[x16, x3, x14]]) else none) else some x15) : Option (List (List (Int)))).bind fun (x23 : List (List (Int))) => some (.inl (x23, IntKind.wrap .i64 (x16 + 1)))))) else some (.inr (x16, decide (x16 < (x1.1.length : Int)), x15)))

noncomputable def impl_MessagesOf.s1 (x1 : ((List ((Int × Int))) × Bool)) (x3 : Int) (x8 : List (Int)) (x9 : List (List (Int))) (x10 : Int) : Option (((List (List (Int))) × Int) ⊕ (Int × Bool × (List (List (Int))))) :=
 (if (decide (x10 < (x8.length : Int))) = true then ((idx x8 x10).bind fun (x14 : Int) => ((loopF (fun (s : ((List (List (Int))) × Int)) => impl_MessagesOf.s2 x1 x3 x14 s.1 s.2) (x9, 0)).bind fun (⟨x17, x18, x19⟩ : (Int × Bool × (List (List (Int))))) => some (.inl (x19, IntKind.wrap .i64 (x10 + 1))))) else some (.inr (x10, decide (x10 < (x8.length : Int)), x9)))

noncomputable def impl_MessagesOf.s0 (a0_0 : Int) (a0_1 : Int) (a0_2 : Bool) (a0_3 : List (Option Nat)) (a0_4 : List (Option Nat)) (x1 : ((List ((Int × Int))) × Bool)) (x2 : List (List (Int))) (x3 : Int) : Option (((List (List (Int))) × Int) ⊕ (Int × Bool × (List (List (Int))))) :=
 (if (decide (x3 < (x1.1.length : Int))) = true then ((idx x1.1 x3).bind fun (x7 : (Int × Int)) => ((impl_haloRows a0_0 a0_1 a0_2 a0_3 a0_4 x7.1 x7.2).bind fun (x8 : List (Int)) => ((loopF (fun (s : ((List (List (Int))) × Int)) => impl_MessagesOf.s1 x1 x3 x8 s.1 s.2) (x2, 0)).bind fun (⟨x11, x12, x13⟩ : (Int × Bool × (List (List (Int))))) => some (.inl (x13, IntKind.wrap .i64 (x3 + 1)))))) else some (.inr (x3, decide (x3 < (x1.1.length : Int)), x2)))

noncomputable def impl_MessagesOf (a0_0 : Int) (a0_1 : Int) (a0_2 : Bool) (a0_3 : List (Option Nat)) (a0_4 : List (Option Nat)) (a1 : Int) : Option ((List (List (Int))) × Bool) :=
 ((impl_StripsOf a0_0 a0_1 a0_2 a0_3 a0_4 a1).bind fun (x1 : ((List ((Int × Int))) × Bool)) => (if (!x1.2) = true then some (([] : List (List (Int))), false) else ((loopF (fun (s : ((List (List (Int))) × Int)) => impl_MessagesOf.s0 a0_0 a0_1 a0_2 a0_3 a0_4 x1 s.1 s.2) (([] : List (List (Int))), 0)).bind fun (⟨x4, x5, x6⟩ : (Int × Bool × (List (List (Int))))) => ((slices_SortFunc_LL x6).bind fun (x24 : List (List (Int))) => some (x24, true)))))

noncomputable def laws_eqInt64SS.s0 (a0 : List (List (Int))) (a1 : List (List (Int))) (x1 : Bool) (x2 : Int) : Option ((Bool × Int) ⊕ ((Bool × Int × Bool) ⊕ Bool)) :=
 (if (decide (x2 < (a0.length : Int))) = true then ((idx a0 x2).bind fun (x6 : List (Int)) => ((idx a1 x2).bind fun (x7 : List (Int)) => ((laws_eqInt64S x6 x7).bind fun (x8 : Bool) => (if (!x8) = true then some (.inr (.inr false)) else some (.inl (x1, IntKind.wrap .i64 (x2 + 1))))))) else some (.inr (.inl (x1, x2, decide (x2 < (a0.length : Int))))))

noncomputable def laws_eqInt64SS (a0 : List (List (Int))) (a1 : List (List (Int))) : Option Bool :=
 (if ((a0.length : Int) != (a1.length : Int)) = true then some false else ((loopF (fun (s : (Bool × Int)) => laws_eqInt64SS.s0 a0 a1 s.1 s.2) (false, 0)).bind fun (y1 : ((Bool × Int × Bool) ⊕ Bool)) => match y1 with | .inl (x3, x4, x5) => some true | .inr r1 => some r1))

noncomputable def laws_markInt64SS.s0 (x1 : Int) (x2 : Int) (x3 : List (List (Int))) : Option ((Int × Int × (List (List (Int)))) ⊕ (Int × Int × Bool × (List (List (Int))))) :=
 (if (decide (x2 < (x3.length : Int))) = true then ((idx x3 x2).bind fun (x8 : List (Int)) => ((laws_markInt64S x8 x1).bind fun (x9 : (Int × (List (Int)))) => some (.inl (x9.1, IntKind.wrap .i64 (x2 + 1), (List.set x3 (Int.toNat x2) x9.2))))) else some (.inr (x1, x2, decide (x2 < (x3.length : Int)), x3)))

noncomputable def laws_markInt64SS (a0 : List (List (Int))) (a1 : Int) : Option (Int × (List (List (Int)))) :=
 ((loopF (fun (s : (Int × Int × (List (List (Int))))) => laws_markInt64SS.s0 s.1 s.2.1 s.2.2) (a1, 0, a0)).bind fun (⟨x4, x5, x6, x7⟩ : (Int × Int × Bool × (List (List (Int))))) => some (x4, x7))

noncomputable def laws_heldInt64SS.s0 (a0 : List (List (Int))) (x1 : Int) (x2 : Int) (x3 : Int) : Option ((Int × Int × Int) ⊕ ((Int × Int × Int × Bool) ⊕ Int)) :=
 (if (decide (x3 < (a0.length : Int))) = true then ((idx a0 x3).bind fun (x8 : List (Int)) => ((laws_heldInt64S x8 x1).bind fun (x9 : Int) => (if (decide (x9 < 0)) = true then some (.inr (.inr (-1))) else some (.inl (x9, x2, IntKind.wrap .i64 (x3 + 1)))))) else some (.inr (.inl (x1, x2, x3, decide (x3 < (a0.length : Int))))))

noncomputable def laws_heldInt64SS (a0 : List (List (Int))) (a1 : Int) : Option Int :=
 ((loopF (fun (s : (Int × Int × Int)) => laws_heldInt64SS.s0 a0 s.1 s.2.1 s.2.2) (a1, 0, 0)).bind fun (y1 : ((Int × Int × Int × Bool) ⊕ Int)) => match y1 with | .inl (x4, x5, x6, x7) => some x4 | .inr r1 => some r1)

noncomputable def laws_FnExactMessagesOf (a0_0 : Int) (a0_1 : Int) (a0_2 : Bool) (a0_3 : List (Option Nat)) (a0_4 : List (Option Nat)) (a1 : Int) : Option Bool :=
 ((laws_szSheet a0_0 a0_1 a0_2 a0_3 a0_4 1048576).bind fun (x1 : Int) => (if (decide (x1 < 0)) = true then some true else ((laws_toSheet a0_0 a0_1 a0_2 a0_3 a0_4).bind fun (x2 : (Int × Int × Bool × (List (Option Nat)) × (List (Option Nat)))) => ((spec_MessagesOf x2.1 x2.2.1 x2.2.2.1 x2.2.2.2.1 x2.2.2.2.2 a1).bind fun (x3 : ((List (List (Int))) × Bool)) => ((laws_toSheet a0_0 a0_1 a0_2 a0_3 a0_4).bind fun (x4 : (Int × Int × Bool × (List (Option Nat)) × (List (Option Nat)))) => ((impl_MessagesOf x4.1 x4.2.1 x4.2.2.1 x4.2.2.2.1 x4.2.2.2.2 a1).bind fun (x5 : ((List (List (Int))) × Bool)) => ((((laws_eqInt64SS x5.1 x3.1).bind fun (x7 : Bool) => (if (!x7) = true then some true else some (x5.2 != x3.2))) : Option Bool).bind fun (x6 : Bool) => (if x6 = true then some false else ((laws_toSheet a0_0 a0_1 a0_2 a0_3 a0_4).bind fun (x8 : (Int × Int × Bool × (List (Option Nat)) × (List (Option Nat)))) => ((laws_eqSheet x4.1 x4.2.1 x4.2.2.1 x4.2.2.2.1 x4.2.2.2.2 x8.1 x8.2.1 x8.2.2.1 x8.2.2.2.1 x8.2.2.2.2).bind fun (x9 : Bool) => (if (!x9) = true then some false else ((laws_markSheet x4.1 x4.2.1 x4.2.2.1 x4.2.2.2.1 x4.2.2.2.2 1).bind fun (x10 : (Int × (List (Option Nat)) × (List (Option Nat)))) => (((if (decide (x10.1 < 0)) = true then some true else ((laws_eqInt64SS x5.1 x3.1).bind fun (x12 : Bool) => (if (!x12) = true then some true else some (x5.2 != x3.2)))) : Option Bool).bind fun (x11 : Bool) => (if x11 = true then some false else ((laws_markInt64SS x5.1 1).bind fun (x13 : (Int × (List (List (Int))))) => ((laws_heldInt64SS x13.2 1).bind fun (x14 : Int) => (if (decide (x14 < 0)) = true then some false else (if (x14 != x13.1) = true then some false else ((laws_toSheet a0_0 a0_1 a0_2 a0_3 a0_4).bind fun (x15 : (Int × Int × Bool × (List (Option Nat)) × (List (Option Nat)))) => ((impl_MessagesOf x15.1 x15.2.1 x15.2.2.1 x15.2.2.2.1 x15.2.2.2.2 a1).bind fun (x16 : ((List (List (Int))) × Bool)) => ((((laws_eqInt64SS x16.1 x3.1).bind fun (x18 : Bool) => (if (!x18) = true then some true else some (x16.2 != x3.2))) : Option Bool).bind fun (x17 : Bool) => (if x17 = true then some false else ((laws_heldInt64SS x13.2 1).bind fun (x19 : Int) => (if (decide (x19 < 0)) = true then some false else (if (x19 != x13.1) = true then some false else some true)))))))))))))))))))))))))

set_option maxRecDepth 20000 in
theorem spec_l07Strips_ok (h0 : Heap) (a0 : Int) (a1 : Int) (r : List ((Int × Int))) (hp : spec_l07Strips a0 a1 = some r) : CallsH Try.prog 128 ([(.int .i64 a0), (.int .i64 a1)].toArray ++ [].toArray) h0 (fun v h' => Mod [] h0 h' ∧ Sep [] h0.size h' [ownO (kII .i64) 84 v r]) := by
 unfold spec_l07Strips at hp
 refine callsH_of_W (l := [(.int .i64 a0), (.int .i64 a1)]) (cap := []) 37 Try.func128 rfl rfl rfl ?_
 refine W.seq ?_
 refine W.region ?_
 refine RL.opD (by decide) (opv_assign rfl rfl) ?_
 have S_1 : Sep [] h0.size h0 [ownO (kII .i64) 84 (.slice none 0 0) ([] : List ((Int × Int)))] := Sep.addNil (Sep.nil [] h0.size h0)
 refine RL.nil ?_
 refine thnN ?_
 refine W.seq ?_
 refine W.region ?_
 refine RL.op _ (by decide) (opS_lit0 (K := (kII .i64)) rfl Try.underlying148 Try.isinfo84) ?_
 rintro v1 hp1 ⟨MT_1, T_1⟩
 obtain ⟨X_1, S_2⟩ := Sep.turn0 (Mod.refl [] h0) S_1 MT_1 T_1
 refine RL.opD (by decide) (opv_assign rfl rfl) ?_
 refine RL.nil ?_
 refine thnN ?_
 refine W.seq ?_
 refine W.region ?_
 refine RL.opD (by decide) (opv_assign rfl rfl) ?_
 refine RL.nil ?_
 refine thnN ?_
 refine W.seq ?_
 refine W.seq ?_
 refine W.region ?_
 refine RL.opD (by decide) (opv_assign rfl rfl) ?_
 refine RL.nil ?_
 refine thnN ?_
 obtain ⟨y1, hy1, hp⟩ := Option.bind_eq_some_iff.1 hp
 refine W.cut (fun φ' h' => ∃ x4, ∃ x5, ∃ x6, ∃ x7, ∃ v3, y1 = (x4, x5, x6, x7) ∧ Fr.sub [(0, (.int .i64 a0)), (1, (.int .i64 a1)), (4, (.slice none 0 0)), (6, (.int .i64 x4)), (7, (.int .i64 x5)), (12, (.bool x6)), (5, v3)] φ' ∧ Mod [] h0 h' ∧ Sep [] h0.size h' [ownO (kII .i64) 84 (.slice none 0 0) ([] : List ((Int × Int))), ownO (kII .i64) 84 v3 x7]) ?_ ?_
 ·refine W.block ?_
  refine W.loopS (fun (s : ((List ((Int × Int))) × Int × Int)) φ' h' => ∃ v2, Fr.sub [(0, (.int .i64 a0)), (1, (.int .i64 a1)), (4, (.slice none 0 0)), (5, v2), (6, (.int .i64 s.2.1)), (7, (.int .i64 s.2.2))] φ' ∧ Mod [] h0 h' ∧ Sep [] h0.size h' [ownO (kII .i64) 84 v2 s.1, ownO (kII .i64) 84 (.slice none 0 0) ([] : List ((Int × Int)))]) hy1 ⟨v1, ⟨rfl, rfl, rfl, rfl, rfl, rfl, trivial⟩, X_1, (Sep.sel S_2 [0, 1] (by decide))⟩ ?_
  rintro ⟨x1, x2, x3⟩ φ' hp2 o1 ⟨v2, hs1, X_2, S_3⟩ ho1 hy1
  have hs1 : Fr.sub [(0, (.int .i64 a0)), (1, (.int .i64 a1)), (4, (.slice none 0 0)), (5, v2), (6, (.int .i64 x2)), (7, (.int .i64 x3))] φ' := hs1
  have S_3 : Sep [] h0.size hp2 [ownO (kII .i64) 84 v2 x1, ownO (kII .i64) 84 (.slice none 0 0) ([] : List ((Int × Int)))] := S_3
  have ho1 : spec_l07Strips.s0 a0 a1 x1 x2 x3 = some o1 := ho1
  unfold spec_l07Strips.s0 at ho1
  refine W.sub hs1 ?_
  refine W.seq ?_
  refine W.seq ?_
  refine W.region ?_
  refine RL.opD (by decide) (opv_move rfl rfl) ?_
  refine RL.opD (by decide) (opv_move rfl rfl) ?_
  refine RL.opD (by decide) (opv_icmp rfl rfl rfl rfl) ?_
  refine RL.nil ?_
  refine thnN ?_
  by_cases c1 : (decide (x3 < a1)) = true
  ·rw [if_pos c1] at ho1
   refine W.condT rfl c1 ?_
   refine W.skip ?_
   refine thnN ?_
   refine W.seq ?_
   refine W.block ?_
   refine W.seq ?_
   refine W.region ?_
   refine RL.opD (by decide) (opv_move rfl rfl) ?_
   refine RL.opD (by decide) (opv_move rfl rfl) ?_
   by_cases nc2 : a1 = 0
   ·rw [if_pos nc2] at ho1; cases ho1
   rw [if_neg nc2] at ho1
   have c2 : a1 ≠ 0 := nc2
   refine RL.opD (by decide) (opv_quo rfl c2 rfl rfl) ?_
   refine RL.opD (by decide) (opv_assign rfl rfl) ?_
   refine RL.nil ?_
   refine thnN ?_
   refine W.seq ?_
   refine W.seq ?_
   refine W.region ?_
   refine RL.opD (by decide) (opv_move rfl rfl) ?_
   refine RL.opD (by decide) (opv_move rfl rfl) ?_
   refine RL.opD (by decide) (opv_move rfl rfl) ?_
   by_cases nc3 : a1 = 0
   ·rw [if_pos nc3] at ho1; cases ho1
   rw [if_neg nc3] at ho1
   have c3 : a1 ≠ 0 := nc3
   refine RL.opD (by decide) (opv_rem rfl c3 rfl rfl) ?_
   refine RL.opD (by decide) (opv_icmp rfl rfl rfl rfl) ?_
   refine RL.nil ?_
   refine thnN ?_
   obtain ⟨x8, hy2, ho1⟩ := Option.bind_eq_some_iff.1 ho1
   refine W.cut (fun φ' h' => Fr.sub [(0, (.int .i64 a0)), (1, (.int .i64 a1)), (4, (.slice none 0 0)), (5, v2), (6, (.int .i64 x2)), (7, (.int .i64 x3)), (12, (.bool (decide (x3 < a1)))), (22, (.bool (decide (x3 < (Int.tmod a0 a1))))), (8, (.int .i64 x8))] φ' ∧ hp2 = h') ?_ ?_
   ·by_cases c4 : (decide (x3 < (Int.tmod a0 a1))) = true
    ·rw [if_pos c4] at hy2
     refine W.condT rfl c4 ?_
     refine W.region ?_
     refine RL.opD (by decide) (opv_move rfl rfl) ?_
     refine RL.opD (by decide) (opv_add rfl rfl rfl) ?_
     refine RL.opD (by decide) (opv_assign rfl rfl) ?_
     refine RL.nil ?_
     have ey2 := Option.some.inj hy2
     subst ey2
     refine onlyN ?_
     exact ⟨⟨rfl, rfl, rfl, rfl, rfl, rfl, rfl, rfl, rfl, trivial⟩, rfl⟩
    ·rw [if_neg c4] at hy2
     have c4 := eq_false_of_ne_true c4
     refine W.condF rfl c4 ?_
     refine W.skip ?_
     have ey2 := Option.some.inj hy2
     subst ey2
     refine onlyN ?_
     exact ⟨⟨rfl, rfl, rfl, rfl, rfl, rfl, rfl, rfl, rfl, trivial⟩, rfl⟩
   rintro φ' _ ⟨hs3, rfl⟩
   refine thnN ?_
   refine W.sub hs3 ?_
   refine W.seq ?_
   refine W.seq ?_
   refine W.region ?_
   refine RL.opD (by decide) (opv_move rfl rfl) ?_
   refine RL.opD (by decide) (opv_icmp rfl rfl rfl rfl) ?_
   refine RL.nil ?_
   refine thnN ?_
   obtain ⟨x9, hy3, ho1⟩ := Option.bind_eq_some_iff.1 ho1
   refine W.cut (fun φ' h' => ∃ v4, Fr.sub [(0, (.int .i64 a0)), (1, (.int .i64 a1)), (4, (.slice none 0 0)), (6, (.int .i64 x2)), (7, (.int .i64 x3)), (12, (.bool (decide (x3 < a1)))), (22, (.bool (decide (x3 < (Int.tmod a0 a1))))), (8, (.int .i64 x8)), (26, (.bool (decide (x8 > 0)))), (5, v4)] φ' ∧ Mod [] h0 h' ∧ Sep [] h0.size h' [ownO (kII .i64) 84 (.slice none 0 0) ([] : List ((Int × Int))), ownO (kII .i64) 84 v4 x9]) ?_ ?_
   ·by_cases c5 : (decide (x8 > 0)) = true
    ·rw [if_pos c5] at hy3
     refine W.condT rfl c5 ?_
     refine W.region ?_
     refine RL.opD (by decide) (opv_move rfl rfl) ?_
     refine RL.opD (by decide) (opv_move rfl rfl) ?_
     refine RL.opD (by decide) (opv_move rfl rfl) ?_
     refine RL.opD (by decide) (opv_build (cs := [(.int .i64 x2), (.int .i64 x8)]) [(0, [(.int .i64 x2)]), (1, [(.int .i64 x8)])] [(0, (.int .i64 x2)), (1, (.int .i64 x8))] rfl Try.bd84 ⟨⟨rfl, rfl, rfl, cells1 rfl⟩, ⟨rfl, rfl, rfl, cells1 rfl⟩, trivial⟩ rfl) ?_
     refine RL.op _ (by decide) (opS_litW (K := (kII .i64)) (us := [(.int .i64 x2), (.int .i64 x8)]) (z := (x2, x8)) rfl Try.underlying148 Try.einfo84 rfl rfl rfl rfl rfl rfl) ?_
     rintro v5 hp3 ⟨MT_2, T_2⟩
     obtain ⟨X_3, S_4⟩ := Sep.turn0 X_2 S_3 MT_2 T_2
     obtain ⟨c6, hy3⟩ := of_ite hy3
     refine RL.op _ (by decide) (opS_append (K := (kII .i64)) rfl Try.underlying148 Try.einfo84 rfl rfl rfl rfl (Sep.at (o := ownO (kII .i64) 84 v2 x1) S_4 1 rfl) (ownO.read (Sep.at (o := ownO (kII .i64) 84 v5 [(x2, x8)]) S_4 0 rfl)) (by decide) (by decide) c6) ?_
     rintro v6 hp4 ⟨MT_3, T_3⟩
     have S_5 : Sep [] h0.size hp3 ([ownO (kII .i64) 84 v2 x1] ++ [ownO (kII .i64) 84 v5 [(x2, x8)], ownO (kII .i64) 84 (.slice none 0 0) ([] : List ((Int × Int)))]) := Sep.sel S_4 [1, 0, 2] (by decide)
     obtain ⟨X_4, S_6⟩ := Sep.turn X_3 S_5 MT_3 T_3
     refine RL.opD (by decide) (opv_assign rfl rfl) ?_
     refine RL.nil ?_
     have ey3 := Option.some.inj hy3
     subst ey3
     refine onlyN ?_
     exact ⟨v6, ⟨rfl, rfl, rfl, rfl, rfl, rfl, rfl, rfl, rfl, rfl, trivial⟩, X_4, (Sep.sel S_6 [2, 0] (by decide))⟩
    ·rw [if_neg c5] at hy3
     have c5 := eq_false_of_ne_true c5
     refine W.condF rfl c5 ?_
     refine W.skip ?_
     have ey3 := Option.some.inj hy3
     subst ey3
     refine onlyN ?_
     exact ⟨v2, ⟨rfl, rfl, rfl, rfl, rfl, rfl, rfl, rfl, rfl, rfl, trivial⟩, X_2, (Sep.sel S_3 [1, 0] (by decide))⟩
   rintro φ' hp5 ⟨v4, hs4, X_5, S_7⟩
   refine thnN ?_
   refine W.sub hs4 ?_
   refine W.region ?_
   refine RL.opD (by decide) (opv_move rfl rfl) ?_
   refine RL.opD (by decide) (opv_move rfl rfl) ?_
   refine RL.opD (by decide) (opv_add rfl rfl rfl) ?_
   refine RL.opD (by decide) (opv_assign rfl rfl) ?_
   refine RL.nil ?_
   refine blkN ?_
   refine thnN ?_
   refine W.region ?_
   refine RL.opD (by decide) (opv_move rfl rfl) ?_
   refine RL.opD (by decide) (opv_add rfl rfl rfl) ?_
   refine RL.opD (by decide) (opv_assign rfl rfl) ?_
   refine RL.nil ?_
   have eo1 := Option.some.inj ho1
   subst eo1
   refine rndN (s' := (x9, IntKind.wrap .i64 (x2 + x8), IntKind.wrap .i64 (x3 + 1))) rfl ?_
   exact ⟨v4, ⟨rfl, rfl, rfl, rfl, rfl, rfl, trivial⟩, X_5, (Sep.sel S_7 [1, 0] (by decide))⟩
  ·rw [if_neg c1] at ho1
   have c1 := eq_false_of_ne_true c1
   refine W.condF rfl c1 ?_
   refine W.exit ?_
   refine thnX ?_
   refine rndX ?_
   refine blkI ?_
   have eo1 := Option.some.inj ho1
   subst eo1
   have ey1 := hy1 _ rfl
   subst ey1
   refine onlyN ?_
   exact ⟨x2, x3, decide (x3 < a1), x1, v2, rfl, ⟨rfl, rfl, rfl, rfl, rfl, rfl, rfl, trivial⟩, X_2, (Sep.sel S_3 [1, 0] (by decide))⟩
 rintro φ' hp6 ⟨x4, x5, x6, x7, v3, rfl, hs2, X_6, S_8⟩
 try dsimp only at hp
 refine thnN ?_
 refine W.sub hs2 ?_
 refine W.seq ?_
 refine W.region ?_
 refine RL.opD (by decide) (opv_move rfl rfl) ?_
 refine RL.opD (by decide) (opv_assign rfl rfl) ?_
 refine RL.nil ?_
 refine thnN ?_
 refine W.ret ?_
 have er := Option.some.inj hp
 subst er
 exact Rt.one rfl rfl ⟨X_6, (Sep.sel S_8 [1] (by decide))⟩

set_option maxRecDepth 20000 in
theorem spec_l07Halo__el_ok (h0 : Heap) (b0 : Nat) (a0_0 : Int) (a0_1 : Int) (a0_2 : Bool) (u0_3 : Value) (a0_3 : List (Option Nat)) (g0_3 : SL (kF .f32) h0.size h0 u0_3 a0_3) (u0_4 : Value) (a0_4 : List (Option Nat)) (g0_4 : SL (kF .f32) h0.size h0 u0_4 a0_4) (G0 : Bx h0 b0 [(.int .i64 a0_0), (.int .i64 a0_1), (.bool a0_2), u0_3, u0_4]) (u1 : Value) (uv1 : Value) (n1 : Int) (l1 : List ((Int × Int))) (a1 : (Int × Int)) (p1 : PtI 2 u1 uv1 (Int.toNat n1)) (L1 : SL (kII .i64) h0.size h0 uv1 l1) (H1 : idx l1 n1 = some a1) (r : List (Int)) (hp : spec_l07Halo__el a0_0 a0_1 a0_2 a0_3 a0_4 a1 = some r) : CallsH Try.prog 117 ([(.pointer (some ⟨b0, 0, none⟩)), u1].toArray ++ [].toArray) h0 (fun v h' => Mod [] h0 h' ∧ Sep [] h0.size h' [ownO (kI .i64) 2 v r]) := by
 unfold spec_l07Halo__el at hp
 refine callsH_of_W (l := [(.pointer (some ⟨b0, 0, none⟩)), u1]) (cap := []) 54 Try.func117 rfl rfl rfl ?_
 refine W.seq ?_
 refine W.region ?_
 refine RL.opD (by decide) (opv_assign rfl rfl) ?_
 have S_1 : Sep [] h0.size h0 [ownO (kI .i64) 2 (.slice none 0 0) ([] : List (Int))] := Sep.addNil (Sep.nil [] h0.size h0)
 refine RL.nil ?_
 refine thnN ?_
 refine W.seq ?_
 refine W.region ?_
 refine RL.op _ (by decide) (opS_lit0 (K := (kI .i64)) rfl Try.underlying71 Try.isinfo2) ?_
 rintro v1 hp1 ⟨MT_1, T_1⟩
 obtain ⟨X_1, S_2⟩ := Sep.turn0 (Mod.refl [] h0) S_1 MT_1 T_1
 refine RL.opD (by decide) (opv_assign rfl rfl) ?_
 refine RL.nil ?_
 refine thnN ?_
 refine W.seq ?_
 refine W.seq ?_
 refine W.region ?_
 refine RL.opD (by decide) (opv_move rfl rfl) ?_
 refine RL.opD (by decide) (opv_nilCheckP rfl rfl p1) ?_
 refine RL.op _ (by decide) (opv_fieldE (K := (kII .i64)) rfl Try.fo84_0 rfl p1 (SL.mod L1 X_1 (Nat.le_refl _) nob) (idx_some H1).2.1) ?_
 rintro v2 _ ⟨fv2, rfl⟩
 refine RL.opD (by decide) (opv_loadPart (K := (kII .i64)) (off := 0) rfl Try.one2 rfl fv2 (SL.mod L1 X_1 (Nat.le_refl _) nob) (idx_some H1).2.2 kII_get0) ?_
 refine RL.opD (by decide) (opv_sub rfl rfl rfl) ?_
 refine RL.opD (by decide) (opv_assign rfl rfl) ?_
 refine RL.nil ?_
 refine thnN ?_
 obtain ⟨y1, hy1, hp⟩ := Option.bind_eq_some_iff.1 hp
 refine W.cut (fun φ' h' => ∃ x3, ∃ x4, ∃ x5, ∃ v4, y1 = (x3, x4, x5) ∧ Fr.sub [(0, (.pointer (some ⟨b0, 0, none⟩))), (1, u1), (4, (.slice none 0 0)), (6, (.int .i64 x3)), (23, (.bool x4)), (5, v4)] φ' ∧ Mod [] h0 h' ∧ Sep [] h0.size h' [ownO (kI .i64) 2 (.slice none 0 0) ([] : List (Int)), ownO (kI .i64) 2 v4 x5]) ?_ ?_
 ·refine W.block ?_
  refine W.loopS (fun (s : ((List (Int)) × Int)) φ' h' => ∃ v3, Fr.sub [(0, (.pointer (some ⟨b0, 0, none⟩))), (1, u1), (4, (.slice none 0 0)), (5, v3), (6, (.int .i64 s.2))] φ' ∧ Mod [] h0 h' ∧ Sep [] h0.size h' [ownO (kI .i64) 2 v3 s.1, ownO (kI .i64) 2 (.slice none 0 0) ([] : List (Int))]) hy1 ⟨v1, ⟨rfl, rfl, rfl, rfl, rfl, trivial⟩, X_1, (Sep.sel S_2 [0, 1] (by decide))⟩ ?_
  rintro ⟨x1, x2⟩ φ' hp2 o1 ⟨v3, hs1, X_2, S_3⟩ ho1 hy1
  have hs1 : Fr.sub [(0, (.pointer (some ⟨b0, 0, none⟩))), (1, u1), (4, (.slice none 0 0)), (5, v3), (6, (.int .i64 x2))] φ' := hs1
  have S_3 : Sep [] h0.size hp2 [ownO (kI .i64) 2 v3 x1, ownO (kI .i64) 2 (.slice none 0 0) ([] : List (Int))] := S_3
  have ho1 : spec_l07Halo__el.s0 a0_1 a0_2 a1 x1 x2 = some o1 := ho1
  unfold spec_l07Halo__el.s0 at ho1
  refine W.sub hs1 ?_
  refine W.seq ?_
  refine W.seq ?_
  refine W.regionH 11 rfl Try.mixed ?_
  refine HK.d 0 rfl rfl rfl (by decide) (by decide +kernel) (fun _ _ _ h => h) (opx_move rfl rfl) ?_
  refine HK.d 1 rfl rfl rfl (by decide) (by decide +kernel) (fun _ _ _ h => h) (opx_move rfl rfl) ?_
  refine HK.d 2 rfl rfl rfl (by decide) (by decide +kernel) (fun _ _ _ h => h) (opx_nilCheckP rfl rfl p1) ?_
  refine HK.f 3 rfl rfl rfl (by decide) (by decide +kernel) (fun _ _ _ h => h) (opx_fieldE (K := (kII .i64)) rfl Try.fo84_0 rfl p1 (SL.mod L1 X_2 (Nat.le_refl _) nob) (idx_some H1).2.1) ?_
  intro v5 fv5
  refine HK.d 4 rfl rfl rfl (by decide) (by decide +kernel) (fun _ _ _ h => h) (opx_loadPart (K := (kII .i64)) (off := 0) rfl Try.one2 rfl fv5 (SL.mod L1 X_2 (Nat.le_refl _) nob) (idx_some H1).2.2 kII_get0) ?_
  refine HK.d 5 rfl rfl rfl (by decide) (by decide +kernel) (fun _ _ _ h => h) (opx_move rfl rfl) ?_
  refine HK.d 6 rfl rfl rfl (by decide) (by decide +kernel) (fun _ _ _ h => h) (opx_nilCheckP rfl rfl p1) ?_
  refine HK.f 7 rfl rfl rfl (by decide) (by decide +kernel) (fun _ _ _ h => h) (opx_fieldE (K := (kII .i64)) rfl Try.fo84_1 rfl p1 (SL.mod L1 X_2 (Nat.le_refl _) nob) (idx_some H1).2.1) ?_
  intro v6 fv6
  refine HK.d 8 rfl rfl rfl (by decide) (by decide +kernel) (fun _ _ _ h => h) (opx_loadPart (K := (kII .i64)) (off := 1) rfl Try.one2 rfl fv6 (SL.mod L1 X_2 (Nat.le_refl _) nob) (idx_some H1).2.2 kII_get1) ?_
  refine HK.d 9 rfl rfl rfl (by decide) (by decide +kernel) (fun _ _ _ h => h) (opx_add rfl rfl rfl) ?_
  refine HK.d 10 rfl rfl rfl (by decide) (by decide +kernel) (fun _ _ _ h => h) (opx_icmp rfl rfl rfl rfl) ?_
  refine HK.done (by decide +kernel) ?_
  refine thnN ?_
  by_cases c1 : (decide (x2 ≤ (IntKind.wrap .i64 (a1.1 + a1.2)))) = true
  ·rw [if_pos c1] at ho1
   refine W.condT rfl c1 ?_
   refine W.skip ?_
   refine thnN ?_
   refine W.seq ?_
   refine W.block ?_
   refine W.seq ?_
   refine W.region ?_
   refine RL.opD (by decide) (opv_move rfl rfl) ?_
   refine RL.opD (by decide) (opv_nilCheck rfl rfl) ?_
   refine RL.opD (by decide) (opv_fieldAddr rfl Try.fo33_2 rfl) ?_
   refine RL.opD (by decide) (opv_loadB rfl Try.one4 rfl (Bx.mod G0 X_2 nobB) rfl) ?_
   refine RL.nil ?_
   refine thnN ?_
   obtain ⟨x6, hy2, ho1⟩ := Option.bind_eq_some_iff.1 ho1
   refine W.cut (fun φ' h' => ∃ v7, Fr.sub [(0, (.pointer (some ⟨b0, 0, none⟩))), (1, u1), (4, (.slice none 0 0)), (6, (.int .i64 x2)), (23, (.bool (decide (x2 ≤ (IntKind.wrap .i64 (a1.1 + a1.2)))))), (29, (.bool a0_2)), (5, v7)] φ' ∧ Mod [] h0 h' ∧ Sep [] h0.size h' [ownO (kI .i64) 2 (.slice none 0 0) ([] : List (Int)), ownO (kI .i64) 2 v7 x6]) ?_ ?_
   ·by_cases c2 : a0_2 = true
    ·rw [if_pos c2] at hy2
     refine W.condT rfl c2 ?_
     by_cases nc3 : a0_1 = 0
     ·rw [if_pos nc3] at hy2; cases hy2
     rw [if_neg nc3] at hy2
     have c3 : a0_1 ≠ 0 := nc3
     obtain ⟨x7, hx7, hy2⟩ := Option.bind_eq_some_iff.1 hy2
     refine W.sub (ψ := [(0, (.pointer (some ⟨b0, 0, none⟩))), (1, u1), (4, (.slice none 0 0)), (5, v3), (6, (.int .i64 x2)), (23, (.bool (decide (x2 ≤ (IntKind.wrap .i64 (a1.1 + a1.2)))))), (29, (.bool a0_2))]) ⟨rfl, rfl, rfl, rfl, rfl, rfl, rfl, trivial⟩ ?_
     refine W.regionS [fun v _ => @Eq Value v3 v, fun v _ => @Eq Value (.int .i64 x2) v, fun v _ => @Eq Value (.pointer (some ⟨b0, 0, none⟩)) v, fun v _ => @Eq Value (.pointer (some ⟨b0, 0, none⟩)) v, fun v _ => @Eq Value (.pointer (some ⟨b0, 1, none⟩)) v, fun v _ => @Eq Value (.int .i64 a0_1) v, fun v _ => @Eq Value (.int .i64 (IntKind.wrap .i64 (x2 + a0_1))) v, fun v _ => @Eq Value (.pointer (some ⟨b0, 0, none⟩)) v, fun v _ => @Eq Value (.pointer (some ⟨b0, 0, none⟩)) v, fun v _ => @Eq Value (.pointer (some ⟨b0, 1, none⟩)) v, fun v _ => @Eq Value (.int .i64 a0_1) v, fun v _ => @Eq Value (.int .i64 (Int.tmod (IntKind.wrap .i64 (x2 + a0_1)) a0_1)) v, fun v8 h => Sep [] hp2.size h [ownO (kI .i64) 2 v8 x7]] [[], [], [], [2], [3], [4], [1, 5], [], [7], [8], [9], [6, 10], [0, 11]] [12] Try.mixed (by decide +kernel) (by decide +kernel) rfl rfl rfl ⟨fun _ _ _ h _ => h, fun _ _ _ h _ => h, fun _ _ _ h _ => h, fun _ _ _ h _ => h, fun _ _ _ h _ => h, fun _ _ _ h _ => h, fun _ _ _ h _ => h, fun _ _ _ h _ => h, fun _ _ _ h _ => h, fun _ _ _ h _ => h, fun _ _ _ h _ => h, fun _ _ _ h _ => h, fun _ _ _ h x => h.ext x, trivial⟩ ?_ ?_
     ·refine ⟨⟨rfl, ?_⟩, ⟨rfl, ?_⟩, ⟨rfl, ?_⟩, ⟨rfl, ?_⟩, ⟨rfl, ?_⟩, ⟨rfl, ?_⟩, ⟨rfl, ?_⟩, ⟨rfl, ?_⟩, ⟨rfl, ?_⟩, ⟨rfl, ?_⟩, ⟨rfl, ?_⟩, ⟨rfl, ?_⟩, ⟨rfl, ?_⟩, trivial⟩
      ·rintro hp4 E_1
       refine Dep.nil ?_
       refine GuardOK.none rfl ?_
       exact OpV.toDx (opv_move rfl rfl) rfl
      ·rintro hp5 E_2
       refine Dep.nil ?_
       refine GuardOK.none rfl ?_
       exact OpV.toDx (opv_move rfl rfl) rfl
      ·rintro hp6 E_3
       refine Dep.nil ?_
       refine GuardOK.none rfl ?_
       exact OpV.toDx (opv_move rfl rfl) rfl
      ·rintro hp7 E_4 _ rfl
       refine Dep.nil ?_
       refine GuardOK.none rfl ?_
       exact OpV.toDx (opv_nilCheck rfl rfl) rfl
      ·rintro hp8 E_5 _ rfl
       refine Dep.nil ?_
       refine GuardOK.none rfl ?_
       exact OpV.toDx (opv_fieldAddr rfl Try.fo33_1 rfl) rfl
      ·rintro hp9 E_6 _ rfl
       refine Dep.nil ?_
       refine GuardOK.none rfl ?_
       exact OpV.toDx (opv_loadB rfl Try.one2 rfl (Bx.mod G0 (Mod.lift X_2 E_6) nobB) rfl) rfl
      ·rintro hp10 E_7 _ rfl _ rfl
       refine Dep.nil ?_
       refine GuardOK.none rfl ?_
       exact OpV.toDx (opv_add rfl rfl rfl) rfl
      ·rintro hp11 E_8
       refine Dep.nil ?_
       refine GuardOK.none rfl ?_
       exact OpV.toDx (opv_move rfl rfl) rfl
      ·rintro hp12 E_9 _ rfl
       refine Dep.nil ?_
       refine GuardOK.none rfl ?_
       exact OpV.toDx (opv_nilCheck rfl rfl) rfl
      ·rintro hp13 E_10 _ rfl
       refine Dep.nil ?_
       refine GuardOK.none rfl ?_
       exact OpV.toDx (opv_fieldAddr rfl Try.fo33_1 rfl) rfl
      ·rintro hp14 E_11 _ rfl
       refine Dep.nil ?_
       refine GuardOK.none rfl ?_
       exact OpV.toDx (opv_loadB rfl Try.one2 rfl (Bx.mod G0 (Mod.lift X_2 E_11) nobB) rfl) rfl
      ·rintro hp15 E_12 _ rfl _ rfl
       refine Dep.nil ?_
       refine GuardOK.none rfl ?_
       exact OpV.toDx (opv_rem rfl c3 rfl rfl) rfl
      ·rintro hp16 E_13 _ rfl _ rfl
       refine Dep.nil ?_
       refine GuardOK.none rfl ?_
       exact OpV.mono (opv_call (cap := []) (spec_l00Put_ok _ _ _ (ownO.read (Sep.at (o := ownO (kI .i64) 2 v3 x1) (Sep.ext S_3 E_13) 0 rfl)) _ _ hx7) rfl rfl ⟨rfl, rfl, trivial⟩ Try.func159 rfl rfl) (by rintro _ _ ⟨M_, T_⟩; exact ⟨Mod.ext M_, Sep.weak T_ (Ext.size E_13)⟩)
     rintro hp17 E_14 v8 T_2
     have X_4 := Mod.lift X_2 E_14
     have S_5 := Sep.join S_3 (Mod.size X_2) (Ext.mod E_14 []) T_2
     refine Dep.nil ?_
     show RL _ _ _ _ (_ :: _) _ _
     refine RL.opD (by decide) (opv_assign rfl rfl) ?_
     refine RL.nil ?_
     have ey2 := Option.some.inj hy2
     subst ey2
     refine onlyN ?_
     exact ⟨v8, ⟨rfl, rfl, rfl, rfl, rfl, rfl, rfl, trivial⟩, X_4, (Sep.sel S_5 [2, 0] (by decide))⟩
    ·rw [if_neg c2] at hy2
     have c2 := eq_false_of_ne_true c2
     refine W.condF rfl c2 ?_
     refine W.seq ?_
     refine W.region ?_
     refine RL.opD (by decide) (opv_move rfl rfl) ?_
     refine RL.opD (by decide) (opv_move rfl rfl) ?_
     refine RL.opD (by decide) (opv_nilCheck rfl rfl) ?_
     refine RL.opD (by decide) (opv_fieldAddr rfl Try.fo33_1 rfl) ?_
     refine RL.opD (by decide) (opv_loadB rfl Try.one2 rfl (Bx.mod G0 X_2 nobB) rfl) ?_
     refine RL.opD (by decide) (opv_sub rfl rfl rfl) ?_
     obtain ⟨x8, hx8, hy2⟩ := Option.bind_eq_some_iff.1 hy2
     refine RL.op _ (by decide) (opv_call (cap := []) (spec_l00In_ok _ _ _ _ _ hx8) rfl rfl ⟨rfl, rfl, rfl, trivial⟩ Try.func127 rfl rfl) ?_
     rintro _ _ ⟨rfl, rfl⟩
     refine RL.nil ?_
     refine thnN ?_
     obtain ⟨x9, hy3, hy2⟩ := Option.bind_eq_some_iff.1 hy2
     refine W.cut (fun φ' h' => ∃ v10, Fr.sub [(0, (.pointer (some ⟨b0, 0, none⟩))), (1, u1), (4, (.slice none 0 0)), (6, (.int .i64 x2)), (23, (.bool (decide (x2 ≤ (IntKind.wrap .i64 (a1.1 + a1.2)))))), (29, (.bool a0_2)), (49, (.bool x8)), (5, v10)] φ' ∧ Mod [] h0 h' ∧ Sep [] h0.size h' [ownO (kI .i64) 2 (.slice none 0 0) ([] : List (Int)), ownO (kI .i64) 2 v10 x9]) ?_ ?_
     ·by_cases c4 : x8 = true
      ·rw [if_pos c4] at hy3
       refine W.condT rfl c4 ?_
       refine W.region ?_
       refine RL.opD (by decide) (opv_move rfl rfl) ?_
       refine RL.opD (by decide) (opv_move rfl rfl) ?_
       obtain ⟨x10, hx10, hy3⟩ := Option.bind_eq_some_iff.1 hy3
       refine RL.op _ (by decide) (opv_call (cap := []) (spec_l00Put_ok _ _ _ (ownO.read (Sep.at (o := ownO (kI .i64) 2 v3 x1) S_3 0 rfl)) _ _ hx10) rfl rfl ⟨rfl, rfl, trivial⟩ Try.func159 rfl rfl) ?_
       rintro v11 hp18 ⟨MT_3, T_3⟩
       obtain ⟨X_5, S_6⟩ := Sep.turn0 X_2 S_3 MT_3 T_3
       refine RL.opD (by decide) (opv_assign rfl rfl) ?_
       refine RL.nil ?_
       have ey3 := Option.some.inj hy3
       subst ey3
       refine onlyN ?_
       exact ⟨v11, ⟨rfl, rfl, rfl, rfl, rfl, rfl, rfl, rfl, trivial⟩, X_5, (Sep.sel S_6 [2, 0] (by decide))⟩
      ·rw [if_neg c4] at hy3
       have c4 := eq_false_of_ne_true c4
       refine W.condF rfl c4 ?_
       refine W.skip ?_
       have ey3 := Option.some.inj hy3
       subst ey3
       refine onlyN ?_
       exact ⟨v3, ⟨rfl, rfl, rfl, rfl, rfl, rfl, rfl, rfl, trivial⟩, X_2, (Sep.sel S_3 [1, 0] (by decide))⟩
     rintro φ' hp19 ⟨v10, hs4, X_6, S_7⟩
     have ey2 := Option.some.inj hy2
     subst ey2
     refine onlyN ?_
     exact ⟨v10, (Fr.sub_trans ⟨rfl, rfl, rfl, rfl, rfl, rfl, rfl, trivial⟩ hs4), X_6, (Sep.sel S_7 [0, 1] (by decide))⟩
   rintro φ' hp20 ⟨v7, hs3, X_7, S_8⟩
   refine blkN ?_
   refine thnN ?_
   refine W.sub hs3 ?_
   refine W.region ?_
   refine RL.opD (by decide) (opv_move rfl rfl) ?_
   refine RL.opD (by decide) (opv_add rfl rfl rfl) ?_
   refine RL.opD (by decide) (opv_assign rfl rfl) ?_
   refine RL.nil ?_
   have eo1 := Option.some.inj ho1
   subst eo1
   refine rndN (s' := (x6, IntKind.wrap .i64 (x2 + 1))) rfl ?_
   exact ⟨v7, ⟨rfl, rfl, rfl, rfl, rfl, trivial⟩, X_7, (Sep.sel S_8 [1, 0] (by decide))⟩
  ·rw [if_neg c1] at ho1
   have c1 := eq_false_of_ne_true c1
   refine W.condF rfl c1 ?_
   refine W.exit ?_
   refine thnX ?_
   refine rndX ?_
   refine blkI ?_
   have eo1 := Option.some.inj ho1
   subst eo1
   have ey1 := hy1 _ rfl
   subst ey1
   refine onlyN ?_
   exact ⟨x2, decide (x2 ≤ (IntKind.wrap .i64 (a1.1 + a1.2))), x1, v3, rfl, ⟨rfl, rfl, rfl, rfl, rfl, rfl, trivial⟩, X_2, (Sep.sel S_3 [1, 0] (by decide))⟩
 rintro φ' hp21 ⟨x3, x4, x5, v4, rfl, hs2, X_8, S_9⟩
 try dsimp only at hp
 refine thnN ?_
 refine W.sub hs2 ?_
 refine W.seq ?_
 refine W.region ?_
 refine RL.opD (by decide) (opv_move rfl rfl) ?_
 refine RL.opD (by decide) (opv_assign rfl rfl) ?_
 refine RL.nil ?_
 refine thnN ?_
 refine W.ret ?_
 have er := Option.some.inj hp
 subst er
 exact Rt.one rfl rfl ⟨X_8, (Sep.sel S_9 [1] (by decide))⟩

set_option maxHeartbeats 4000000 in
set_option maxRecDepth 20000 in
theorem spec_MessagesOf_ok (h0 : Heap) (a0_0 : Int) (a0_1 : Int) (a0_2 : Bool) (u0_3 : Value) (a0_3 : List (Option Nat)) (g0_3 : SL (kF .f32) h0.size h0 u0_3 a0_3) (u0_4 : Value) (a0_4 : List (Option Nat)) (g0_4 : SL (kF .f32) h0.size h0 u0_4 a0_4) (a1 : Int) (r : ((List (List (Int))) × Bool)) (hp : spec_MessagesOf a0_0 a0_1 a0_2 a0_3 a0_4 a1 = some r) : CallsH Try.prog 63 ([(.agg (List.toArray (α := Value) [(.int .i64 a0_0), (.int .i64 a0_1), (.bool a0_2), u0_3, u0_4])), (.int .i64 a1)].toArray ++ [].toArray) h0 (fun v h' => ∃ w0, v = (.tuple (List.toArray (α := Value) [(ooV w0), (.bool r.2)])) ∧ Mod [] h0 h' ∧ Sep [] h0.size h' [ooW 71 2 w0 r.1]) := by
 unfold spec_MessagesOf at hp
 refine callsH_of_W (l := [(.agg (List.toArray (α := Value) [(.int .i64 a0_0), (.int .i64 a0_1), (.bool a0_2), u0_3, u0_4])), (.int .i64 a1)]) (cap := []) 84 Try.func63 rfl rfl rfl ?_
 refine W.seq ?_
 refine W.region ?_
 refine RL.op _ (by decide) (opS_boxed (opv_boxA (cs := [(.int .i64 a0_0), (.int .i64 a0_1), (.bool a0_2), u0_3, u0_4]) rfl rfl)) ?_
 rintro _ hp1 ⟨bb1, rfl, MT_1, T_1⟩
 obtain ⟨X_1, S_1⟩ := Sep.turn0 (Mod.refl [] h0) (Sep.nil [] h0.size h0) MT_1 T_1
 refine RL.opD (by decide) (opv_assign rfl rfl) ?_
 have S_2 : Sep [] h0.size hp1 [ooW 71 2 ooNil ([] : List (List (Int))), boxO bb1 [(.int .i64 a0_0), (.int .i64 a0_1), (.bool a0_2), u0_3, u0_4]] := Sep.addNilOO S_1
 refine RL.opD (by decide) (opv_assign rfl rfl) ?_
 refine RL.nil ?_
 refine thnN ?_
 refine W.seq ?_
 refine W.seq ?_
 obtain ⟨x1, hy1, hp⟩ := Option.bind_eq_some_iff.1 hp
 refine W.cut (fun φ' h' => Fr.sub [(0, (.agg (List.toArray (α := Value) [(.int .i64 a0_0), (.int .i64 a0_1), (.bool a0_2), u0_3, u0_4]))), (1, (.int .i64 a1)), (2, (.pointer (some ⟨bb1, 0, none⟩))), (4, (.slice none 0 0)), (5, (.bool false)), (18, (.bool x1))] φ' ∧ hp1 = h') ?_ ?_
 ·refine W.region ?_
  obtain ⟨x2, hx2, hy1⟩ := Option.bind_eq_some_iff.1 hy1
  refine RL.op _ (by decide) (opv_call (cap := []) (spec_l02Is_ok _ _ _ _ _ _ _ (SL.up (SL.mod g0_3 X_1 (Nat.le_refl _) nob) (Nat.le_trans (Nat.le_refl _) (Mod.size X_1))) _ _ (SL.up (SL.mod g0_4 X_1 (Nat.le_refl _) nob) (Nat.le_trans (Nat.le_refl _) (Mod.size X_1))) (Sep.at (o := boxO bb1 [(.int .i64 a0_0), (.int .i64 a0_1), (.bool a0_2), u0_3, u0_4]) S_2 1 rfl) _ hx2) rfl rfl ⟨rfl, trivial⟩ Try.func115 rfl rfl) ?_
  rintro _ _ ⟨rfl, rfl⟩
  refine RL.opD (by decide) (opv_not rfl rfl) ?_
  refine RL.opD (by decide) (opv_move rfl rfl) ?_
  by_cases c1 : (!x2) = true
  ·rw [if_pos c1] at hy1
   refine RL.noT rfl rfl c1 (by decide) ?_
   refine RL.noT rfl rfl c1 (by decide) ?_
   refine RL.noT rfl rfl c1 (by decide) ?_
   refine RL.opD (by decide) (opv_pick rfl rfl (fun _ => rfl) (fun e => absurd (Eq.trans (Eq.symm e) c1) (by decide)) rfl) ?_
   refine RL.nil ?_
   have ey1 := Option.some.inj hy1
   subst ey1
   refine onlyN ?_
   exact ⟨⟨rfl, rfl, rfl, rfl, rfl, rfl, trivial⟩, rfl⟩
  ·rw [if_neg c1] at hy1
   have c1 := eq_false_of_ne_true c1
   refine RL.yesD rfl rfl c1 (by decide) (opv_move rfl rfl) ?_
   obtain ⟨x3, hx3, hy1⟩ := Option.bind_eq_some_iff.1 hy1
   refine RL.yes _ rfl rfl c1 (by decide) (opv_call (cap := []) (spec_l00In_ok _ _ _ _ _ hx3) rfl rfl ⟨rfl, rfl, rfl, trivial⟩ Try.func127 rfl rfl) ?_
   rintro _ _ ⟨rfl, rfl⟩
   refine RL.yesD rfl rfl c1 (by decide) (opv_not rfl rfl) ?_
   refine RL.opD (by decide) (opv_pick rfl rfl (fun e => absurd (Eq.trans (Eq.symm e) c1) (by decide)) (fun _ => rfl) rfl) ?_
   refine RL.nil ?_
   have ey1 := Option.some.inj hy1
   subst ey1
   refine onlyN ?_
   exact ⟨⟨rfl, rfl, rfl, rfl, rfl, rfl, trivial⟩, rfl⟩
 rintro φ' _ ⟨hs1, rfl⟩
 refine thnN ?_
 refine W.sub hs1 ?_
 by_cases c2 : x1 = true
 ·rw [if_pos c2] at hp
  refine W.condT rfl c2 ?_
  refine W.seq ?_
  refine W.region ?_
  refine RL.opD (by decide) (opv_assign rfl rfl) ?_
  have S_3 : Sep [] h0.size hp1 [ooW 71 2 ooNil ([] : List (List (Int))), ooW 71 2 ooNil ([] : List (List (Int))), boxO bb1 [(.int .i64 a0_0), (.int .i64 a0_1), (.bool a0_2), u0_3, u0_4]] := Sep.addNilOO S_2
  refine RL.opD (by decide) (opv_assign rfl rfl) ?_
  refine RL.nil ?_
  refine thnN ?_
  refine W.ret ?_
  refine thnR ?_
  have er := Option.some.inj hp
  subst er
  exact Rt.two rfl rfl rfl ⟨ooNil, rfl, X_1, (Sep.sel S_3 [0] (by decide))⟩
 ·rw [if_neg c2] at hp
  have c2 := eq_false_of_ne_true c2
  refine W.condF rfl c2 ?_
  refine W.skip ?_
  refine thnN ?_
  refine W.seq ?_
  refine W.region ?_
  refine RL.opD (by decide) (opv_fieldAddr rfl Try.fo33_1 rfl) ?_
  refine RL.opD (by decide) (opv_loadB rfl Try.one2 rfl (Sep.at (o := boxO bb1 [(.int .i64 a0_0), (.int .i64 a0_1), (.bool a0_2), u0_3, u0_4]) S_2 1 rfl) rfl) ?_
  refine RL.opD (by decide) (opv_move rfl rfl) ?_
  obtain ⟨x4, hx4, hp⟩ := Option.bind_eq_some_iff.1 hp
  refine RL.op _ (by decide) (opv_call (cap := []) (spec_l07Strips_ok _ _ _ _ hx4) rfl rfl ⟨rfl, rfl, trivial⟩ Try.func128 rfl rfl) ?_
  rintro v1 hp2 ⟨MT_2, T_2⟩
  obtain ⟨X_2, S_4⟩ := Sep.turn0 X_1 S_2 MT_2 T_2
  refine RL.opD (by decide) (opv_assign rfl rfl) ?_
  refine RL.nil ?_
  refine thnN ?_
  refine W.seq ?_
  refine W.region ?_
  refine RL.op _ (by decide) (opS_litOO0 (E2 := 2) rfl Try.underlying94 Try.isinfo71) ?_
  rintro v2 hp3 ⟨MT_3, T_3⟩
  obtain ⟨X_3, S_5⟩ := Sep.turn0 X_2 S_4 MT_3 T_3
  refine RL.opD (by decide) (opv_assign rfl rfl) ?_
  refine RL.nil ?_
  refine thnN ?_
  refine W.seq ?_
  refine W.seq ?_
  refine W.region ?_
  refine RL.opD (by decide) (opv_move rfl rfl) ?_
  refine RL.opD (by decide) (opv_len rfl Try.underlying148 rfl (ownO.read (Sep.at (o := ownO (kII .i64) 84 v1 x4) S_5 1 rfl))) ?_
  refine RL.opD (by decide) (opv_move rfl rfl) ?_
  refine RL.nil ?_
  refine thnN ?_
  obtain ⟨y2, hy2, hp⟩ := Option.bind_eq_some_iff.1 hp
  refine W.cut (fun φ' h' => ∃ x7, ∃ x8, ∃ x9, ∃ v4, y2 = (x7, x8, x9) ∧ Fr.sub [(0, (.agg (List.toArray (α := Value) [(.int .i64 a0_0), (.int .i64 a0_1), (.bool a0_2), u0_3, u0_4]))), (1, (.int .i64 a1)), (2, (.pointer (some ⟨bb1, 0, none⟩))), (4, (.slice none 0 0)), (5, (.bool false)), (18, (.bool x1)), (6, v1), (25, (.int .i64 (x4.length : Int))), (26, (.int .i64 x7)), (27, (.bool x8)), (7, (ooV v4))] φ' ∧ Mod [] h0 h' ∧ Sep [] h0.size h' [ownO (kII .i64) 84 v1 x4, ooW 71 2 ooNil ([] : List (List (Int))), boxO bb1 [(.int .i64 a0_0), (.int .i64 a0_1), (.bool a0_2), u0_3, u0_4], ooW 71 2 v4 x9]) ?_ ?_
  ·refine W.block ?_
   refine W.loopS (fun (s : ((List (List (Int))) × Int)) φ' h' => ∃ v3, Fr.sub [(0, (.agg (List.toArray (α := Value) [(.int .i64 a0_0), (.int .i64 a0_1), (.bool a0_2), u0_3, u0_4]))), (1, (.int .i64 a1)), (2, (.pointer (some ⟨bb1, 0, none⟩))), (4, (.slice none 0 0)), (5, (.bool false)), (18, (.bool x1)), (6, v1), (25, (.int .i64 (x4.length : Int))), (7, (ooV v3)), (26, (.int .i64 s.2))] φ' ∧ Mod [] h0 h' ∧ Sep [] h0.size h' [ooW 71 2 v3 s.1, ownO (kII .i64) 84 v1 x4, ooW 71 2 ooNil ([] : List (List (Int))), boxO bb1 [(.int .i64 a0_0), (.int .i64 a0_1), (.bool a0_2), u0_3, u0_4]]) hy2 ⟨(OO.mk v2 []), ⟨rfl, rfl, rfl, rfl, rfl, rfl, rfl, rfl, rfl, rfl, trivial⟩, X_3, (Sep.sel S_5 [0, 1, 2, 3] (by decide))⟩ ?_
   rintro ⟨x5, x6⟩ φ' hp4 o1 ⟨v3, hs2, X_4, S_6⟩ ho1 hy1
   have hs2 : Fr.sub [(0, (.agg (List.toArray (α := Value) [(.int .i64 a0_0), (.int .i64 a0_1), (.bool a0_2), u0_3, u0_4]))), (1, (.int .i64 a1)), (2, (.pointer (some ⟨bb1, 0, none⟩))), (4, (.slice none 0 0)), (5, (.bool false)), (18, (.bool x1)), (6, v1), (25, (.int .i64 (x4.length : Int))), (7, (ooV v3)), (26, (.int .i64 x6))] φ' := hs2
   have S_6 : Sep [] h0.size hp4 [ooW 71 2 v3 x5, ownO (kII .i64) 84 v1 x4, ooW 71 2 ooNil ([] : List (List (Int))), boxO bb1 [(.int .i64 a0_0), (.int .i64 a0_1), (.bool a0_2), u0_3, u0_4]] := S_6
   have ho1 : spec_MessagesOf.s0 a0_0 a0_1 a0_2 a0_3 a0_4 x4 x5 x6 = some o1 := ho1
   unfold spec_MessagesOf.s0 at ho1
   refine W.sub hs2 ?_
   refine W.seq ?_
   refine W.region ?_
   refine RL.opD (by decide) (opv_icmp rfl rfl rfl rfl) ?_
   refine RL.nil ?_
   refine thnN ?_
   refine W.seq ?_
   by_cases c3 : (decide (x6 < (x4.length : Int))) = true
   ·rw [if_pos c3] at ho1
    refine W.condT rfl c3 ?_
    refine W.skip ?_
    refine thnN ?_
    refine W.seq ?_
    refine W.block ?_
    refine W.seq ?_
    refine W.region ?_
    refine RL.opD (by decide) (opv_move rfl rfl) ?_
    refine RL.opD (by decide) (opv_assign rfl rfl) ?_
    refine RL.nil ?_
    refine thnN ?_
    refine W.seq ?_
    refine W.region ?_
    refine RL.opD (by decide) (opv_move rfl rfl) ?_
    refine RL.opD (by decide) (opv_len rfl Try.underlying148 rfl (ownO.read (Sep.at (o := ownO (kII .i64) 84 v1 x4) S_6 1 rfl))) ?_
    refine RL.opD (by decide) (opv_move rfl rfl) ?_
    refine RL.nil ?_
    refine thnN ?_
    obtain ⟨y3, hy3, ho1⟩ := Option.bind_eq_some_iff.1 ho1
    refine W.cut (fun φ' h' => ∃ x12, ∃ x13, ∃ x14, ∃ v6, y3 = (x12, x13, x14) ∧ Fr.sub [(0, (.agg (List.toArray (α := Value) [(.int .i64 a0_0), (.int .i64 a0_1), (.bool a0_2), u0_3, u0_4]))), (1, (.int .i64 a1)), (2, (.pointer (some ⟨bb1, 0, none⟩))), (4, (.slice none 0 0)), (5, (.bool false)), (18, (.bool x1)), (6, v1), (25, (.int .i64 (x4.length : Int))), (26, (.int .i64 x6)), (27, (.bool (decide (x6 < (x4.length : Int))))), (8, (.int .i64 x6)), (30, (.int .i64 (x4.length : Int))), (31, (.int .i64 x12)), (32, (.bool x13)), (7, (ooV v6))] φ' ∧ Mod [] h0 h' ∧ Sep [] h0.size h' [ownO (kII .i64) 84 v1 x4, ooW 71 2 ooNil ([] : List (List (Int))), boxO bb1 [(.int .i64 a0_0), (.int .i64 a0_1), (.bool a0_2), u0_3, u0_4], ooW 71 2 v6 x14]) ?_ ?_
    ·refine W.block ?_
     refine W.loopS (fun (s : ((List (List (Int))) × Int)) φ' h' => ∃ v5, Fr.sub [(0, (.agg (List.toArray (α := Value) [(.int .i64 a0_0), (.int .i64 a0_1), (.bool a0_2), u0_3, u0_4]))), (1, (.int .i64 a1)), (2, (.pointer (some ⟨bb1, 0, none⟩))), (4, (.slice none 0 0)), (5, (.bool false)), (18, (.bool x1)), (6, v1), (25, (.int .i64 (x4.length : Int))), (26, (.int .i64 x6)), (27, (.bool (decide (x6 < (x4.length : Int))))), (8, (.int .i64 x6)), (30, (.int .i64 (x4.length : Int))), (7, (ooV v5)), (31, (.int .i64 s.2))] φ' ∧ Mod [] h0 h' ∧ Sep [] h0.size h' [ooW 71 2 v5 s.1, ownO (kII .i64) 84 v1 x4, ooW 71 2 ooNil ([] : List (List (Int))), boxO bb1 [(.int .i64 a0_0), (.int .i64 a0_1), (.bool a0_2), u0_3, u0_4]]) hy3 ⟨v3, ⟨rfl, rfl, rfl, rfl, rfl, rfl, rfl, rfl, rfl, rfl, rfl, rfl, rfl, rfl, trivial⟩, X_4, (Sep.sel S_6 [0, 1, 2, 3] (by decide))⟩ ?_
     rintro ⟨x10, x11⟩ φ' hp5 o2 ⟨v5, hs4, X_5, S_7⟩ ho2 hy2
     have hs4 : Fr.sub [(0, (.agg (List.toArray (α := Value) [(.int .i64 a0_0), (.int .i64 a0_1), (.bool a0_2), u0_3, u0_4]))), (1, (.int .i64 a1)), (2, (.pointer (some ⟨bb1, 0, none⟩))), (4, (.slice none 0 0)), (5, (.bool false)), (18, (.bool x1)), (6, v1), (25, (.int .i64 (x4.length : Int))), (26, (.int .i64 x6)), (27, (.bool (decide (x6 < (x4.length : Int))))), (8, (.int .i64 x6)), (30, (.int .i64 (x4.length : Int))), (7, (ooV v5)), (31, (.int .i64 x11))] φ' := hs4
     have S_7 : Sep [] h0.size hp5 [ooW 71 2 v5 x10, ownO (kII .i64) 84 v1 x4, ooW 71 2 ooNil ([] : List (List (Int))), boxO bb1 [(.int .i64 a0_0), (.int .i64 a0_1), (.bool a0_2), u0_3, u0_4]] := S_7
     have ho2 : spec_MessagesOf.s1 a0_0 a0_1 a0_2 a0_3 a0_4 x4 x6 x10 x11 = some o2 := ho2
     unfold spec_MessagesOf.s1 at ho2
     refine W.sub hs4 ?_
     refine W.seq ?_
     refine W.region ?_
     refine RL.opD (by decide) (opv_icmp rfl rfl rfl rfl) ?_
     refine RL.nil ?_
     refine thnN ?_
     refine W.seq ?_
     by_cases c4 : (decide (x11 < (x4.length : Int))) = true
     ·rw [if_pos c4] at ho2
      refine W.condT rfl c4 ?_
      refine W.skip ?_
      refine thnN ?_
      refine W.seq ?_
      refine W.block ?_
      refine W.seq ?_
      refine W.region ?_
      refine RL.opD (by decide) (opv_move rfl rfl) ?_
      refine RL.opD (by decide) (opv_assign rfl rfl) ?_
      refine RL.nil ?_
      refine thnN ?_
      refine W.seq ?_
      refine W.region ?_
      refine RL.opD (by decide) (opv_move rfl rfl) ?_
      refine RL.opD (by decide) (opv_move rfl rfl) ?_
      obtain ⟨x15, hx15, ho2⟩ := Option.bind_eq_some_iff.1 ho2
      refine RL.op _ (by decide) (opv_index rfl Try.underlying148 (by rw [Try.size84]; rfl) rfl rfl (ownO.read (Sep.at (o := ownO (kII .i64) 84 v1 x4) S_7 1 rfl)) hx15) ?_
      rintro v7 _ ⟨fv7, rfl⟩
      obtain ⟨x16, hx16, ho2⟩ := Option.bind_eq_some_iff.1 ho2
      refine RL.op _ (by decide) (opv_call (cap := []) (spec_l07Halo__el_ok _ _ _ _ _ _ _ (SL.up (SL.mod g0_3 X_5 (Nat.le_refl _) nob) (Nat.le_trans (Nat.le_refl _) (Mod.size X_5))) _ _ (SL.up (SL.mod g0_4 X_5 (Nat.le_refl _) nob) (Nat.le_trans (Nat.le_refl _) (Mod.size X_5))) (Sep.at (o := boxO bb1 [(.int .i64 a0_0), (.int .i64 a0_1), (.bool a0_2), u0_3, u0_4]) S_7 3 rfl) _ _ _ _ _ fv7 (ownO.read (Sep.at (o := ownO (kII .i64) 84 v1 x4) S_7 1 rfl)) hx15 _ hx16) rfl rfl ⟨rfl, rfl, trivial⟩ Try.func117 rfl rfl) ?_
      rintro v8 hp6 ⟨MT_4, T_4⟩
      obtain ⟨X_6, S_8⟩ := Sep.turn0 X_5 S_7 MT_4 T_4
      refine RL.opD (by decide) (opv_assign rfl rfl) ?_
      refine RL.nil ?_
      refine thnN ?_
      refine W.seq ?_
      refine W.region ?_
      refine RL.opD (by decide) (opv_move rfl rfl) ?_
      refine RL.opD (by decide) (opv_len rfl Try.underlying71 rfl (ownO.read (Sep.at (o := ownO (kI .i64) 2 v8 x16) S_8 0 rfl))) ?_
      refine RL.opD (by decide) (opv_move rfl rfl) ?_
      refine RL.nil ?_
      refine thnN ?_
      obtain ⟨y4, hy4, ho2⟩ := Option.bind_eq_some_iff.1 ho2
      refine W.cut (fun φ' h' => ∃ x19, ∃ x20, ∃ x21, ∃ v10, y4 = (x19, x20, x21) ∧ Fr.sub [(0, (.agg (List.toArray (α := Value) [(.int .i64 a0_0), (.int .i64 a0_1), (.bool a0_2), u0_3, u0_4]))), (1, (.int .i64 a1)), (2, (.pointer (some ⟨bb1, 0, none⟩))), (4, (.slice none 0 0)), (5, (.bool false)), (18, (.bool x1)), (6, v1), (25, (.int .i64 (x4.length : Int))), (26, (.int .i64 x6)), (27, (.bool (decide (x6 < (x4.length : Int))))), (8, (.int .i64 x6)), (30, (.int .i64 (x4.length : Int))), (31, (.int .i64 x11)), (32, (.bool (decide (x11 < (x4.length : Int))))), (9, (.int .i64 x11)), (10, v8), (39, (.int .i64 (x16.length : Int))), (40, (.int .i64 x19)), (41, (.bool x20)), (7, (ooV v10))] φ' ∧ Mod [] h0 h' ∧ Sep [] h0.size h' [ownO (kI .i64) 2 v8 x16, ownO (kII .i64) 84 v1 x4, ooW 71 2 ooNil ([] : List (List (Int))), boxO bb1 [(.int .i64 a0_0), (.int .i64 a0_1), (.bool a0_2), u0_3, u0_4], ooW 71 2 v10 x21]) ?_ ?_
      ·refine W.block ?_
       refine W.loopS (fun (s : ((List (List (Int))) × Int)) φ' h' => ∃ v9, Fr.sub [(0, (.agg (List.toArray (α := Value) [(.int .i64 a0_0), (.int .i64 a0_1), (.bool a0_2), u0_3, u0_4]))), (1, (.int .i64 a1)), (2, (.pointer (some ⟨bb1, 0, none⟩))), (4, (.slice none 0 0)), (5, (.bool false)), (18, (.bool x1)), (6, v1), (25, (.int .i64 (x4.length : Int))), (26, (.int .i64 x6)), (27, (.bool (decide (x6 < (x4.length : Int))))), (8, (.int .i64 x6)), (30, (.int .i64 (x4.length : Int))), (31, (.int .i64 x11)), (32, (.bool (decide (x11 < (x4.length : Int))))), (9, (.int .i64 x11)), (10, v8), (39, (.int .i64 (x16.length : Int))), (7, (ooV v9)), (40, (.int .i64 s.2))] φ' ∧ Mod [] h0 h' ∧ Sep [] h0.size h' [ownO (kI .i64) 2 v8 x16, ooW 71 2 v9 s.1, ownO (kII .i64) 84 v1 x4, ooW 71 2 ooNil ([] : List (List (Int))), boxO bb1 [(.int .i64 a0_0), (.int .i64 a0_1), (.bool a0_2), u0_3, u0_4]]) hy4 ⟨v5, ⟨rfl, rfl, rfl, rfl, rfl, rfl, rfl, rfl, rfl, rfl, rfl, rfl, rfl, rfl, rfl, rfl, rfl, rfl, rfl, trivial⟩, X_6, (Sep.sel S_8 [0, 1, 2, 3, 4] (by decide))⟩ ?_
       rintro ⟨x17, x18⟩ φ' hp7 o3 ⟨v9, hs6, X_7, S_9⟩ ho3 hy3
       have hs6 : Fr.sub [(0, (.agg (List.toArray (α := Value) [(.int .i64 a0_0), (.int .i64 a0_1), (.bool a0_2), u0_3, u0_4]))), (1, (.int .i64 a1)), (2, (.pointer (some ⟨bb1, 0, none⟩))), (4, (.slice none 0 0)), (5, (.bool false)), (18, (.bool x1)), (6, v1), (25, (.int .i64 (x4.length : Int))), (26, (.int .i64 x6)), (27, (.bool (decide (x6 < (x4.length : Int))))), (8, (.int .i64 x6)), (30, (.int .i64 (x4.length : Int))), (31, (.int .i64 x11)), (32, (.bool (decide (x11 < (x4.length : Int))))), (9, (.int .i64 x11)), (10, v8), (39, (.int .i64 (x16.length : Int))), (7, (ooV v9)), (40, (.int .i64 x18))] φ' := hs6
       have S_9 : Sep [] h0.size hp7 [ownO (kI .i64) 2 v8 x16, ooW 71 2 v9 x17, ownO (kII .i64) 84 v1 x4, ooW 71 2 ooNil ([] : List (List (Int))), boxO bb1 [(.int .i64 a0_0), (.int .i64 a0_1), (.bool a0_2), u0_3, u0_4]] := S_9
       have ho3 : spec_MessagesOf.s2 x4 x6 x11 x16 x17 x18 = some o3 := ho3
       unfold spec_MessagesOf.s2 at ho3
       refine W.sub hs6 ?_
       refine W.seq ?_
       refine W.region ?_
       refine RL.opD (by decide) (opv_icmp rfl rfl rfl rfl) ?_
       refine RL.nil ?_
       refine thnN ?_
       refine W.seq ?_
       by_cases c5 : (decide (x18 < (x16.length : Int))) = true
       ·rw [if_pos c5] at ho3
        refine W.condT rfl c5 ?_
        refine W.skip ?_
        refine thnN ?_
        refine W.seq ?_
        refine W.block ?_
        refine W.seq ?_
        refine W.region ?_
        refine RL.opD (by decide) (opv_move rfl rfl) ?_
        refine RL.opD (by decide) (opv_assign rfl rfl) ?_
        refine RL.nil ?_
        refine thnN ?_
        refine W.seq ?_
        obtain ⟨x22, hy5, ho3⟩ := Option.bind_eq_some_iff.1 ho3
        refine W.cut (fun φ' h' => Fr.sub [(0, (.agg (List.toArray (α := Value) [(.int .i64 a0_0), (.int .i64 a0_1), (.bool a0_2), u0_3, u0_4]))), (1, (.int .i64 a1)), (2, (.pointer (some ⟨bb1, 0, none⟩))), (4, (.slice none 0 0)), (5, (.bool false)), (18, (.bool x1)), (6, v1), (25, (.int .i64 (x4.length : Int))), (26, (.int .i64 x6)), (27, (.bool (decide (x6 < (x4.length : Int))))), (8, (.int .i64 x6)), (30, (.int .i64 (x4.length : Int))), (31, (.int .i64 x11)), (32, (.bool (decide (x11 < (x4.length : Int))))), (9, (.int .i64 x11)), (10, v8), (39, (.int .i64 (x16.length : Int))), (7, (ooV v9)), (40, (.int .i64 x18)), (41, (.bool (decide (x18 < (x16.length : Int))))), (11, (.int .i64 x18)), (69, (.bool x22))] φ' ∧ hp7 = h') ?_ ?_
        ·refine W.regionH 27 rfl Try.mixed ?_
         refine HK.d 0 rfl rfl rfl (by decide) (by decide +kernel) (fun _ _ _ h => h) (opx_move rfl rfl) ?_
         refine HK.d 1 rfl rfl rfl (by decide) (by decide +kernel) (fun _ _ _ h => h) (opx_move rfl rfl) ?_
         refine HK.d 2 rfl rfl rfl (by decide) (by decide +kernel) (fun _ _ _ h => h) (opx_icmp rfl rfl rfl rfl) ?_
         refine HK.d 3 rfl rfl rfl (by decide) (by decide +kernel) (fun _ _ _ h => h) (opx_move rfl rfl) ?_
         by_cases c6 : (x6 != x11) = true
         ·rw [if_pos c6] at hy5
          refine HK.y 4 rfl rfl rfl rfl rfl c6 (by decide) (by decide +kernel) (fun _ _ _ h => h) (opx_move rfl rfl) ?_
          refine HK.y 5 rfl rfl rfl rfl rfl c6 (by decide) (by decide +kernel) (fun _ _ _ h => h) (opx_move rfl rfl) ?_
          obtain ⟨x23, hx23, hy5⟩ := Option.bind_eq_some_iff.1 hy5
          refine HK.yf 6 rfl rfl rfl rfl rfl c6 (by decide) (by decide +kernel) (fun _ _ _ h => h) (opx_indexP rfl Try.underlying71 (by rw [Try.size2]; rfl) rfl rfl (ownO.read (Sep.at (o := ownO (kI .i64) 2 v8 x16) S_9 0 rfl)) hx23) ?_
          intro v11 fv11
          refine HK.y 7 rfl rfl rfl rfl rfl c6 (by decide) (by decide +kernel) (fun _ _ _ h => h) (opx_loadI rfl Try.one2 rfl fv11 (ownO.read (Sep.at (o := ownO (kI .i64) 2 v8 x16) S_9 0 rfl)) hx23) ?_
          refine HK.y 8 rfl rfl rfl rfl rfl c6 (by decide) (by decide +kernel) (fun _ _ _ h => h) (opx_move rfl rfl) ?_
          refine HK.y 9 rfl rfl rfl rfl rfl c6 (by decide) (by decide +kernel) (fun _ _ _ h => h) (opx_move rfl rfl) ?_
          obtain ⟨x24, hx24, hy5⟩ := Option.bind_eq_some_iff.1 hy5
          refine HK.yf 10 rfl rfl rfl rfl rfl c6 (by decide) (by decide +kernel) (fun _ _ _ h => h) (opx_indexP rfl Try.underlying148 (by rw [Try.size84]; rfl) rfl rfl (ownO.read (Sep.at (o := ownO (kII .i64) 84 v1 x4) S_9 2 rfl)) hx24) ?_
          intro v12 fv12
          refine HK.yf 11 rfl rfl rfl rfl rfl c6 (by decide) (by decide +kernel) (fun _ _ _ h => h) (opx_fieldE (K := (kII .i64)) rfl Try.fo84_0 rfl fv12 (ownO.read (Sep.at (o := ownO (kII .i64) 84 v1 x4) S_9 2 rfl)) (idx_some hx24).2.1) ?_
          intro v13 fv13
          refine HK.y 12 rfl rfl rfl rfl rfl c6 (by decide) (by decide +kernel) (fun _ _ _ h => h) (opx_loadPart (K := (kII .i64)) (off := 0) rfl Try.one2 rfl fv13 (ownO.read (Sep.at (o := ownO (kII .i64) 84 v1 x4) S_9 2 rfl)) (idx_some hx24).2.2 kII_get0) ?_
          refine HK.y 13 rfl rfl rfl rfl rfl c6 (by decide) (by decide +kernel) (fun _ _ _ h => h) (opx_move rfl rfl) ?_
          refine HK.y 14 rfl rfl rfl rfl rfl c6 (by decide) (by decide +kernel) (fun _ _ _ h => h) (opx_move rfl rfl) ?_
          obtain ⟨x25, hx25, hy5⟩ := Option.bind_eq_some_iff.1 hy5
          refine HK.yf 15 rfl rfl rfl rfl rfl c6 (by decide) (by decide +kernel) (fun _ _ _ h => h) (opx_indexP rfl Try.underlying148 (by rw [Try.size84]; rfl) rfl rfl (ownO.read (Sep.at (o := ownO (kII .i64) 84 v1 x4) S_9 2 rfl)) hx25) ?_
          intro v14 fv14
          refine HK.yf 16 rfl rfl rfl rfl rfl c6 (by decide) (by decide +kernel) (fun _ _ _ h => h) (opx_fieldE (K := (kII .i64)) rfl Try.fo84_0 rfl fv14 (ownO.read (Sep.at (o := ownO (kII .i64) 84 v1 x4) S_9 2 rfl)) (idx_some hx25).2.1) ?_
          intro v15 fv15
          refine HK.y 17 rfl rfl rfl rfl rfl c6 (by decide) (by decide +kernel) (fun _ _ _ h => h) (opx_loadPart (K := (kII .i64)) (off := 0) rfl Try.one2 rfl fv15 (ownO.read (Sep.at (o := ownO (kII .i64) 84 v1 x4) S_9 2 rfl)) (idx_some hx25).2.2 kII_get0) ?_
          refine HK.y 18 rfl rfl rfl rfl rfl c6 (by decide) (by decide +kernel) (fun _ _ _ h => h) (opx_move rfl rfl) ?_
          refine HK.y 19 rfl rfl rfl rfl rfl c6 (by decide) (by decide +kernel) (fun _ _ _ h => h) (opx_move rfl rfl) ?_
          obtain ⟨x26, hx26, hy5⟩ := Option.bind_eq_some_iff.1 hy5
          refine HK.yf 20 rfl rfl rfl rfl rfl c6 (by decide) (by decide +kernel) (fun _ _ _ h => h) (opx_indexP rfl Try.underlying148 (by rw [Try.size84]; rfl) rfl rfl (ownO.read (Sep.at (o := ownO (kII .i64) 84 v1 x4) S_9 2 rfl)) hx26) ?_
          intro v16 fv16
          refine HK.yf 21 rfl rfl rfl rfl rfl c6 (by decide) (by decide +kernel) (fun _ _ _ h => h) (opx_fieldE (K := (kII .i64)) rfl Try.fo84_1 rfl fv16 (ownO.read (Sep.at (o := ownO (kII .i64) 84 v1 x4) S_9 2 rfl)) (idx_some hx26).2.1) ?_
          intro v17 fv17
          refine HK.y 22 rfl rfl rfl rfl rfl c6 (by decide) (by decide +kernel) (fun _ _ _ h => h) (opx_loadPart (K := (kII .i64)) (off := 1) rfl Try.one2 rfl fv17 (ownO.read (Sep.at (o := ownO (kII .i64) 84 v1 x4) S_9 2 rfl)) (idx_some hx26).2.2 kII_get1) ?_
          refine HK.y 23 rfl rfl rfl rfl rfl c6 (by decide) (by decide +kernel) (fun _ _ _ h => h) (opx_add rfl rfl rfl) ?_
          refine HK.y 24 rfl rfl rfl rfl rfl c6 (by decide) (by decide +kernel) (fun _ _ _ h => h) (opx_sub rfl rfl rfl) ?_
          obtain ⟨x27, hx27, hy5⟩ := Option.bind_eq_some_iff.1 hy5
          refine HK.sy 25 _ rfl rfl rfl rfl rfl c6 (by decide) (by decide +kernel) (opv_call (cap := []) (spec_l00In_ok _ _ _ _ _ hx27) rfl rfl ⟨rfl, rfl, rfl, trivial⟩ Try.func127 rfl rfl) ?_
          rintro _ _ ⟨rfl, rfl⟩
          refine ⟨rfl, ?_⟩
          refine HK.d 26 rfl rfl rfl (by decide) (by decide +kernel) (fun _ _ _ h => h) (opx_pick rfl rfl (fun _ => rfl) (fun e => absurd (Eq.trans (Eq.symm e) c6) (by decide)) rfl) ?_
          refine HK.done (by decide +kernel) ?_
          have ey5 := Option.some.inj hy5
          subst ey5
          refine onlyN ?_
          exact ⟨⟨rfl, rfl, rfl, rfl, rfl, rfl, rfl, rfl, rfl, rfl, rfl, rfl, rfl, rfl, rfl, rfl, rfl, rfl, rfl, rfl, rfl, rfl, trivial⟩, rfl⟩
         ·rw [if_neg c6] at hy5
          have c6 := eq_false_of_ne_true c6
          refine HK.n 4 rfl rfl rfl rfl rfl c6 (by decide) (by decide +kernel) (fun _ _ _ h => h) ?_
          refine HK.n 5 rfl rfl rfl rfl rfl c6 (by decide) (by decide +kernel) (fun _ _ _ h => h) ?_
          refine HK.n 6 rfl rfl rfl rfl rfl c6 (by decide) (by decide +kernel) (fun _ _ _ h => h) ?_
          refine HK.n 7 rfl rfl rfl rfl rfl c6 (by decide) (by decide +kernel) (fun _ _ _ h => h) ?_
          refine HK.n 8 rfl rfl rfl rfl rfl c6 (by decide) (by decide +kernel) (fun _ _ _ h => h) ?_
          refine HK.n 9 rfl rfl rfl rfl rfl c6 (by decide) (by decide +kernel) (fun _ _ _ h => h) ?_
          refine HK.n 10 rfl rfl rfl rfl rfl c6 (by decide) (by decide +kernel) (fun _ _ _ h => h) ?_
          refine HK.n 11 rfl rfl rfl rfl rfl c6 (by decide) (by decide +kernel) (fun _ _ _ h => h) ?_
          refine HK.n 12 rfl rfl rfl rfl rfl c6 (by decide) (by decide +kernel) (fun _ _ _ h => h) ?_
          refine HK.n 13 rfl rfl rfl rfl rfl c6 (by decide) (by decide +kernel) (fun _ _ _ h => h) ?_
          refine HK.n 14 rfl rfl rfl rfl rfl c6 (by decide) (by decide +kernel) (fun _ _ _ h => h) ?_
          refine HK.n 15 rfl rfl rfl rfl rfl c6 (by decide) (by decide +kernel) (fun _ _ _ h => h) ?_
          refine HK.n 16 rfl rfl rfl rfl rfl c6 (by decide) (by decide +kernel) (fun _ _ _ h => h) ?_
          refine HK.n 17 rfl rfl rfl rfl rfl c6 (by decide) (by decide +kernel) (fun _ _ _ h => h) ?_
          refine HK.n 18 rfl rfl rfl rfl rfl c6 (by decide) (by decide +kernel) (fun _ _ _ h => h) ?_
          refine HK.n 19 rfl rfl rfl rfl rfl c6 (by decide) (by decide +kernel) (fun _ _ _ h => h) ?_
          refine HK.n 20 rfl rfl rfl rfl rfl c6 (by decide) (by decide +kernel) (fun _ _ _ h => h) ?_
          refine HK.n 21 rfl rfl rfl rfl rfl c6 (by decide) (by decide +kernel) (fun _ _ _ h => h) ?_
          refine HK.n 22 rfl rfl rfl rfl rfl c6 (by decide) (by decide +kernel) (fun _ _ _ h => h) ?_
          refine HK.n 23 rfl rfl rfl rfl rfl c6 (by decide) (by decide +kernel) (fun _ _ _ h => h) ?_
          refine HK.n 24 rfl rfl rfl rfl rfl c6 (by decide) (by decide +kernel) (fun _ _ _ h => h) ?_
          refine HK.n 25 rfl rfl rfl rfl rfl c6 (by decide) (by decide +kernel) (fun _ _ _ h => h) ?_
          refine HK.d 26 rfl rfl rfl (by decide) (by decide +kernel) (fun _ _ _ h => h) (opx_pick rfl rfl (fun e => absurd (Eq.trans (Eq.symm e) c6) (by decide)) (fun _ => rfl) rfl) ?_
          refine HK.done (by decide +kernel) ?_
          have ey5 := Option.some.inj hy5
          subst ey5
          refine onlyN ?_
          exact ⟨⟨rfl, rfl, rfl, rfl, rfl, rfl, rfl, rfl, rfl, rfl, rfl, rfl, rfl, rfl, rfl, rfl, rfl, rfl, rfl, rfl, rfl, rfl, trivial⟩, rfl⟩
        rintro φ' _ ⟨hs8, rfl⟩
        refine thnN ?_
        refine W.sub hs8 ?_
        obtain ⟨x28, hy6, ho3⟩ := Option.bind_eq_some_iff.1 ho3
        refine W.cut (fun φ' h' => ∃ v18, Fr.sub [(0, (.agg (List.toArray (α := Value) [(.int .i64 a0_0), (.int .i64 a0_1), (.bool a0_2), u0_3, u0_4]))), (1, (.int .i64 a1)), (2, (.pointer (some ⟨bb1, 0, none⟩))), (4, (.slice none 0 0)), (5, (.bool false)), (18, (.bool x1)), (6, v1), (25, (.int .i64 (x4.length : Int))), (26, (.int .i64 x6)), (27, (.bool (decide (x6 < (x4.length : Int))))), (8, (.int .i64 x6)), (30, (.int .i64 (x4.length : Int))), (31, (.int .i64 x11)), (32, (.bool (decide (x11 < (x4.length : Int))))), (9, (.int .i64 x11)), (10, v8), (39, (.int .i64 (x16.length : Int))), (40, (.int .i64 x18)), (41, (.bool (decide (x18 < (x16.length : Int))))), (11, (.int .i64 x18)), (69, (.bool x22)), (7, (ooV v18))] φ' ∧ Mod [] h0 h' ∧ Sep [] h0.size h' [ownO (kI .i64) 2 v8 x16, ownO (kII .i64) 84 v1 x4, ooW 71 2 ooNil ([] : List (List (Int))), boxO bb1 [(.int .i64 a0_0), (.int .i64 a0_1), (.bool a0_2), u0_3, u0_4], ooW 71 2 v18 x28]) ?_ ?_
        ·by_cases c7 : x22 = true
         ·rw [if_pos c7] at hy6
          refine W.condT rfl c7 ?_
          refine W.region ?_
          refine RL.opD (by decide) (opv_move rfl rfl) ?_
          refine RL.opD (by decide) (opv_move rfl rfl) ?_
          refine RL.opD (by decide) (opv_move rfl rfl) ?_
          refine RL.opD (by decide) (opv_move rfl rfl) ?_
          refine RL.opD (by decide) (opv_move rfl rfl) ?_
          obtain ⟨x29, hx29, hy6⟩ := Option.bind_eq_some_iff.1 hy6
          refine RL.op _ (by decide) (opv_index rfl Try.underlying71 (by rw [Try.size2]; rfl) rfl rfl (ownO.read (Sep.at (o := ownO (kI .i64) 2 v8 x16) S_9 0 rfl)) hx29) ?_
          rintro v19 _ ⟨fv19, rfl⟩
          refine RL.opD (by decide) (opv_loadI rfl Try.one2 rfl fv19 (ownO.read (Sep.at (o := ownO (kI .i64) 2 v8 x16) S_9 0 rfl)) hx29) ?_
          refine RL.op _ (by decide) (opS_litN (K := (kI .i64)) (us := [(.int .i64 x6), (.int .i64 x11), (.int .i64 x29)]) (zs := [x6, x11, x29]) [(0, [(.int .i64 x6)]), (1, [(.int .i64 x11)]), (2, [(.int .i64 x29)])] [(0, (.int .i64 x6)), (1, (.int .i64 x11)), (2, (.int .i64 x29))] rfl Try.underlying71 Try.einfo2 rfl rfl ⟨⟨rfl, rfl, rfl, rfl⟩, ⟨rfl, rfl, rfl, rfl⟩, ⟨rfl, rfl, rfl, rfl⟩, trivial⟩ rfl rfl (RelL.ints (k := .i64) _) rfl rfl) ?_
          rintro v20 hp8 ⟨MT_5, T_5⟩
          obtain ⟨X_8, S_10⟩ := Sep.turn0 X_7 S_9 MT_5 T_5
          refine RL.op _ (by decide) (opS_litOO1 (B := []) (m := 0) (L := []) rfl Try.underlying94 Try.einfo71 rfl rfl rfl (Sep.at (o := ownO (kI .i64) 2 v20 [x6, x11, x29]) S_10 0 rfl)) ?_
          rintro v21 hp9 ⟨MT_6, T_6⟩
          have S_11 : Sep [] h0.size hp8 ([ownO (kI .i64) 2 v20 [x6, x11, x29]] ++ [ownO (kI .i64) 2 v8 x16, ooW 71 2 v9 x17, ownO (kII .i64) 84 v1 x4, ooW 71 2 ooNil ([] : List (List (Int))), boxO bb1 [(.int .i64 a0_0), (.int .i64 a0_1), (.bool a0_2), u0_3, u0_4]]) := Sep.sel S_10 [0, 1, 2, 3, 4, 5] (by decide)
          obtain ⟨X_9, S_12⟩ := Sep.turn X_8 S_11 MT_6 T_6
          obtain ⟨c8, hy6⟩ := of_ite hy6
          have S_13 : Sep [] h0.size hp9 [ooW 71 2 v9 x17, ooW 71 2 (OO.mk v21 [v20]) [[x6, x11, x29]], ownO (kI .i64) 2 v8 x16, ownO (kII .i64) 84 v1 x4, ooW 71 2 ooNil ([] : List (List (Int))), boxO bb1 [(.int .i64 a0_0), (.int .i64 a0_1), (.bool a0_2), u0_3, u0_4]] := Sep.sel S_12 [2, 0, 1, 3, 4, 5] (by decide)
          refine RL.op _ (by decide) (opS_appendOO rfl Try.underlying94 Try.einfo71 rfl rfl rfl rfl S_13 (by decide) (by decide) c8) ?_
          rintro v22 hp10 ⟨MT_7, T_7⟩
          have S_14 : Sep [] h0.size hp9 ([ooW 71 2 v9 x17, ooW 71 2 (OO.mk v21 [v20]) [[x6, x11, x29]]] ++ [ownO (kI .i64) 2 v8 x16, ownO (kII .i64) 84 v1 x4, ooW 71 2 ooNil ([] : List (List (Int))), boxO bb1 [(.int .i64 a0_0), (.int .i64 a0_1), (.bool a0_2), u0_3, u0_4]]) := Sep.sel S_12 [2, 0, 1, 3, 4, 5] (by decide)
          obtain ⟨X_10, S_15⟩ := Sep.turn X_9 S_14 MT_7 T_7
          refine RL.opD (by decide) (opv_assign rfl rfl) ?_
          refine RL.nil ?_
          have ey6 := Option.some.inj hy6
          subst ey6
          refine onlyN ?_
          exact ⟨(OO.mk v22 (OO.vs v9 ++ OO.vs (OO.mk v21 [v20]))), ⟨rfl, rfl, rfl, rfl, rfl, rfl, rfl, rfl, rfl, rfl, rfl, rfl, rfl, rfl, rfl, rfl, rfl, rfl, rfl, rfl, rfl, rfl, trivial⟩, X_10, (Sep.sel S_15 [1, 2, 3, 4, 0] (by decide))⟩
         ·rw [if_neg c7] at hy6
          have c7 := eq_false_of_ne_true c7
          refine W.condF rfl c7 ?_
          refine W.skip ?_
          have ey6 := Option.some.inj hy6
          subst ey6
          refine onlyN ?_
          exact ⟨v9, ⟨rfl, rfl, rfl, rfl, rfl, rfl, rfl, rfl, rfl, rfl, rfl, rfl, rfl, rfl, rfl, rfl, rfl, rfl, rfl, rfl, rfl, rfl, trivial⟩, X_7, (Sep.sel S_9 [0, 2, 3, 4, 1] (by decide))⟩
        rintro φ' hp11 ⟨v18, hs9, X_11, S_16⟩
        refine blkN ?_
        refine thnN ?_
        refine W.sub hs9 ?_
        refine W.region ?_
        refine RL.opD (by decide) (opv_add rfl rfl rfl) ?_
        refine RL.opD (by decide) (opv_move rfl rfl) ?_
        refine RL.nil ?_
        have eo3 := Option.some.inj ho3
        subst eo3
        refine rndN (s' := (x28, IntKind.wrap .i64 (x18 + 1))) rfl ?_
        exact ⟨v18, ⟨rfl, rfl, rfl, rfl, rfl, rfl, rfl, rfl, rfl, rfl, rfl, rfl, rfl, rfl, rfl, rfl, rfl, rfl, rfl, trivial⟩, X_11, (Sep.sel S_16 [0, 4, 1, 2, 3] (by decide))⟩
       ·rw [if_neg c5] at ho3
        have c5 := eq_false_of_ne_true c5
        refine W.condF rfl c5 ?_
        refine W.exit ?_
        refine thnX ?_
        refine rndX ?_
        refine blkI ?_
        have eo3 := Option.some.inj ho3
        subst eo3
        have ey4 := hy3 _ rfl
        subst ey4
        refine onlyN ?_
        exact ⟨x18, decide (x18 < (x16.length : Int)), x17, v9, rfl, ⟨rfl, rfl, rfl, rfl, rfl, rfl, rfl, rfl, rfl, rfl, rfl, rfl, rfl, rfl, rfl, rfl, rfl, rfl, rfl, rfl, trivial⟩, X_7, (Sep.sel S_9 [0, 2, 3, 4, 1] (by decide))⟩
      rintro φ' hp12 ⟨x19, x20, x21, v10, rfl, hs7, X_12, S_17⟩
      try dsimp only at ho2
      refine blkN ?_
      refine thnN ?_
      refine W.sub hs7 ?_
      refine W.region ?_
      refine RL.opD (by decide) (opv_add rfl rfl rfl) ?_
      refine RL.opD (by decide) (opv_move rfl rfl) ?_
      refine RL.nil ?_
      have eo2 := Option.some.inj ho2
      subst eo2
      refine rndN (s' := (x21, IntKind.wrap .i64 (x11 + 1))) rfl ?_
      exact ⟨v10, ⟨rfl, rfl, rfl, rfl, rfl, rfl, rfl, rfl, rfl, rfl, rfl, rfl, rfl, rfl, trivial⟩, X_12, (Sep.sel S_17 [4, 1, 2, 3] (by decide))⟩
     ·rw [if_neg c4] at ho2
      have c4 := eq_false_of_ne_true c4
      refine W.condF rfl c4 ?_
      refine W.exit ?_
      refine thnX ?_
      refine rndX ?_
      refine blkI ?_
      have eo2 := Option.some.inj ho2
      subst eo2
      have ey3 := hy2 _ rfl
      subst ey3
      refine onlyN ?_
      exact ⟨x11, decide (x11 < (x4.length : Int)), x10, v5, rfl, ⟨rfl, rfl, rfl, rfl, rfl, rfl, rfl, rfl, rfl, rfl, rfl, rfl, rfl, rfl, rfl, trivial⟩, X_5, (Sep.sel S_7 [1, 2, 3, 0] (by decide))⟩
    rintro φ' hp13 ⟨x12, x13, x14, v6, rfl, hs5, X_13, S_18⟩
    try dsimp only at ho1
    refine blkN ?_
    refine thnN ?_
    refine W.sub hs5 ?_
    refine W.region ?_
    refine RL.opD (by decide) (opv_add rfl rfl rfl) ?_
    refine RL.opD (by decide) (opv_move rfl rfl) ?_
    refine RL.nil ?_
    have eo1 := Option.some.inj ho1
    subst eo1
    refine rndN (s' := (x14, IntKind.wrap .i64 (x6 + 1))) rfl ?_
    exact ⟨v6, ⟨rfl, rfl, rfl, rfl, rfl, rfl, rfl, rfl, rfl, rfl, trivial⟩, X_13, (Sep.sel S_18 [3, 0, 1, 2] (by decide))⟩
   ·rw [if_neg c3] at ho1
    have c3 := eq_false_of_ne_true c3
    refine W.condF rfl c3 ?_
    refine W.exit ?_
    refine thnX ?_
    refine rndX ?_
    refine blkI ?_
    have eo1 := Option.some.inj ho1
    subst eo1
    have ey2 := hy1 _ rfl
    subst ey2
    refine onlyN ?_
    exact ⟨x6, decide (x6 < (x4.length : Int)), x5, v3, rfl, ⟨rfl, rfl, rfl, rfl, rfl, rfl, rfl, rfl, rfl, rfl, rfl, trivial⟩, X_4, (Sep.sel S_6 [1, 2, 3, 0] (by decide))⟩
  rintro φ' hp14 ⟨x7, x8, x9, v4, rfl, hs3, X_14, S_19⟩
  try dsimp only at hp
  refine thnN ?_
  refine W.sub hs3 ?_
  refine W.seq ?_
  refine W.region ?_
  refine RL.opD (by decide) (opv_move rfl rfl) ?_
  refine RL.opD (by decide) (opv_assign rfl rfl) ?_
  refine RL.opD (by decide) (opv_assign rfl rfl) ?_
  refine RL.nil ?_
  refine thnN ?_
  refine W.ret ?_
  have er := Option.some.inj hp
  subst er
  exact Rt.two rfl rfl rfl ⟨v4, rfl, X_14, (Sep.sel S_19 [3] (by decide))⟩

set_option maxRecDepth 20000 in
theorem impl_areWorkers_ok (h0 : Heap) (a0 : Int) (r : Bool) (hp : impl_areWorkers a0 = some r) : CallsH Try.prog 165 ([(.int .i64 a0)].toArray ++ [].toArray) h0 (fun v h' => v = (.bool r) ∧ h0 = h') := by
 unfold impl_areWorkers at hp
 refine callsH_of_W (l := [(.int .i64 a0)]) (cap := []) 5 Try.func165 rfl rfl rfl ?_
 refine W.seq ?_
 refine W.region ?_
 refine RL.opD (by decide) (opv_assign rfl rfl) ?_
 refine RL.nil ?_
 refine thnN ?_
 refine W.seq ?_
 refine W.region ?_
 refine RL.opD (by decide) (opv_move rfl rfl) ?_
 obtain ⟨x1, hx1, hp⟩ := Option.bind_eq_some_iff.1 hp
 refine RL.op _ (by decide) (opv_call (cap := []) (impl_within_ok _ _ _ _ _ hx1) rfl rfl ⟨rfl, rfl, rfl, trivial⟩ Try.func71 rfl rfl) ?_
 rintro _ _ ⟨rfl, rfl⟩
 refine RL.opD (by decide) (opv_assign rfl rfl) ?_
 refine RL.nil ?_
 refine thnN ?_
 refine W.ret ?_
 have er := Option.some.inj hp
 subst er
 exact Rt.one rfl rfl ⟨rfl, rfl⟩

set_option maxRecDepth 20000 in
theorem impl_stripsOf_ok (h0 : Heap) (a0_0 : Int) (a0_1 : Int) (a0_2 : Bool) (u0_3 : Value) (a0_3 : List (Option Nat)) (g0_3 : SL (kF .f32) h0.size h0 u0_3 a0_3) (u0_4 : Value) (a0_4 : List (Option Nat)) (g0_4 : SL (kF .f32) h0.size h0 u0_4 a0_4) (a1 : Int) (r : List ((Int × Int))) (hp : impl_stripsOf a0_0 a0_1 a0_2 a0_3 a0_4 a1 = some r) : CallsH Try.prog 166 ([(.agg (List.toArray (α := Value) [(.int .i64 a0_0), (.int .i64 a0_1), (.bool a0_2), u0_3, u0_4])), (.int .i64 a1)].toArray ++ [].toArray) h0 (fun v h' => Mod [] h0 h' ∧ Sep [] h0.size h' [ownO (kII .i64) 84 v r]) := by
 unfold impl_stripsOf at hp
 refine callsH_of_W (l := [(.agg (List.toArray (α := Value) [(.int .i64 a0_0), (.int .i64 a0_1), (.bool a0_2), u0_3, u0_4])), (.int .i64 a1)]) (cap := []) 39 Try.func166 rfl rfl rfl ?_
 refine W.seq ?_
 refine W.region ?_
 refine RL.op _ (by decide) (opS_boxed (opv_boxA (cs := [(.int .i64 a0_0), (.int .i64 a0_1), (.bool a0_2), u0_3, u0_4]) rfl rfl)) ?_
 rintro _ hp1 ⟨bb1, rfl, MT_1, T_1⟩
 obtain ⟨X_1, S_1⟩ := Sep.turn0 (Mod.refl [] h0) (Sep.nil [] h0.size h0) MT_1 T_1
 refine RL.opD (by decide) (opv_assign rfl rfl) ?_
 have S_2 : Sep [] h0.size hp1 [ownO (kII .i64) 84 (.slice none 0 0) ([] : List ((Int × Int))), boxO bb1 [(.int .i64 a0_0), (.int .i64 a0_1), (.bool a0_2), u0_3, u0_4]] := Sep.addNil S_1
 refine RL.nil ?_
 refine thnN ?_
 refine W.seq ?_
 refine W.region ?_
 refine RL.op _ (by decide) (opS_lit0 (K := (kII .i64)) rfl Try.underlying148 Try.isinfo84) ?_
 rintro v1 hp2 ⟨MT_2, T_2⟩
 obtain ⟨X_2, S_3⟩ := Sep.turn0 X_1 S_2 MT_2 T_2
 refine RL.opD (by decide) (opv_assign rfl rfl) ?_
 refine RL.opD (by decide) (opv_assign rfl rfl) ?_
 refine RL.nil ?_
 refine thnN ?_
 refine W.seq ?_
 refine W.seq ?_
 refine W.region ?_
 refine RL.opD (by decide) (opv_move rfl rfl) ?_
 refine RL.opD (by decide) (opv_move rfl rfl) ?_
 refine RL.nil ?_
 refine thnN ?_
 obtain ⟨y1, hy1, hp⟩ := Option.bind_eq_some_iff.1 hp
 refine W.cut (fun φ' h' => ∃ x4, ∃ x5, ∃ x6, ∃ x7, ∃ v3, y1 = (x4, x5, x6, x7) ∧ Fr.sub [(0, (.agg (List.toArray (α := Value) [(.int .i64 a0_0), (.int .i64 a0_1), (.bool a0_2), u0_3, u0_4]))), (1, (.int .i64 a1)), (2, (.pointer (some ⟨bb1, 0, none⟩))), (4, (.slice none 0 0)), (10, (.int .i64 a1)), (6, (.int .i64 x4)), (11, (.int .i64 x5)), (12, (.bool x6)), (5, v3)] φ' ∧ Mod [] h0 h' ∧ Sep [] h0.size h' [ownO (kII .i64) 84 (.slice none 0 0) ([] : List ((Int × Int))), boxO bb1 [(.int .i64 a0_0), (.int .i64 a0_1), (.bool a0_2), u0_3, u0_4], ownO (kII .i64) 84 v3 x7]) ?_ ?_
 ·refine W.block ?_
  refine W.loopS (fun (s : ((List ((Int × Int))) × Int × Int)) φ' h' => ∃ v2, Fr.sub [(0, (.agg (List.toArray (α := Value) [(.int .i64 a0_0), (.int .i64 a0_1), (.bool a0_2), u0_3, u0_4]))), (1, (.int .i64 a1)), (2, (.pointer (some ⟨bb1, 0, none⟩))), (4, (.slice none 0 0)), (10, (.int .i64 a1)), (5, v2), (6, (.int .i64 s.2.1)), (11, (.int .i64 s.2.2))] φ' ∧ Mod [] h0 h' ∧ Sep [] h0.size h' [ownO (kII .i64) 84 v2 s.1, ownO (kII .i64) 84 (.slice none 0 0) ([] : List ((Int × Int))), boxO bb1 [(.int .i64 a0_0), (.int .i64 a0_1), (.bool a0_2), u0_3, u0_4]]) hy1 ⟨v1, ⟨rfl, rfl, rfl, rfl, rfl, rfl, rfl, rfl, trivial⟩, X_2, (Sep.sel S_3 [0, 1, 2] (by decide))⟩ ?_
  rintro ⟨x1, x2, x3⟩ φ' hp3 o1 ⟨v2, hs1, X_3, S_4⟩ ho1 hy1
  have hs1 : Fr.sub [(0, (.agg (List.toArray (α := Value) [(.int .i64 a0_0), (.int .i64 a0_1), (.bool a0_2), u0_3, u0_4]))), (1, (.int .i64 a1)), (2, (.pointer (some ⟨bb1, 0, none⟩))), (4, (.slice none 0 0)), (10, (.int .i64 a1)), (5, v2), (6, (.int .i64 x2)), (11, (.int .i64 x3))] φ' := hs1
  have S_4 : Sep [] h0.size hp3 [ownO (kII .i64) 84 v2 x1, ownO (kII .i64) 84 (.slice none 0 0) ([] : List ((Int × Int))), boxO bb1 [(.int .i64 a0_0), (.int .i64 a0_1), (.bool a0_2), u0_3, u0_4]] := S_4
  have ho1 : impl_stripsOf.s0 a0_1 a1 x1 x2 x3 = some o1 := ho1
  unfold impl_stripsOf.s0 at ho1
  refine W.sub hs1 ?_
  refine W.seq ?_
  refine W.region ?_
  refine RL.opD (by decide) (opv_icmp rfl rfl rfl rfl) ?_
  refine RL.nil ?_
  refine thnN ?_
  refine W.seq ?_
  by_cases c1 : (decide (x3 < a1)) = true
  ·rw [if_pos c1] at ho1
   refine W.condT rfl c1 ?_
   refine W.skip ?_
   refine thnN ?_
   refine W.seq ?_
   refine W.block ?_
   refine W.seq ?_
   refine W.region ?_
   refine RL.opD (by decide) (opv_move rfl rfl) ?_
   refine RL.opD (by decide) (opv_assign rfl rfl) ?_
   refine RL.nil ?_
   refine thnN ?_
   refine W.seq ?_
   refine W.region ?_
   refine RL.opD (by decide) (opv_fieldAddr rfl Try.fo33_1 rfl) ?_
   refine RL.opD (by decide) (opv_loadB rfl Try.one2 rfl (Sep.at (o := boxO bb1 [(.int .i64 a0_0), (.int .i64 a0_1), (.bool a0_2), u0_3, u0_4]) S_4 2 rfl) rfl) ?_
   refine RL.opD (by decide) (opv_move rfl rfl) ?_
   by_cases nc2 : a1 = 0
   ·rw [if_pos nc2] at ho1; cases ho1
   rw [if_neg nc2] at ho1
   have c2 : a1 ≠ 0 := nc2
   refine RL.opD (by decide) (opv_quo rfl c2 rfl rfl) ?_
   refine RL.opD (by decide) (opv_assign rfl rfl) ?_
   refine RL.nil ?_
   refine thnN ?_
   refine W.seq ?_
   refine W.seq ?_
   refine W.region ?_
   refine RL.opD (by decide) (opv_move rfl rfl) ?_
   refine RL.opD (by decide) (opv_fieldAddr rfl Try.fo33_1 rfl) ?_
   refine RL.opD (by decide) (opv_loadB rfl Try.one2 rfl (Sep.at (o := boxO bb1 [(.int .i64 a0_0), (.int .i64 a0_1), (.bool a0_2), u0_3, u0_4]) S_4 2 rfl) rfl) ?_
   refine RL.opD (by decide) (opv_move rfl rfl) ?_
   by_cases nc3 : a1 = 0
   ·rw [if_pos nc3] at ho1; cases ho1
   rw [if_neg nc3] at ho1
   have c3 : a1 ≠ 0 := nc3
   refine RL.opD (by decide) (opv_rem rfl c3 rfl rfl) ?_
   refine RL.opD (by decide) (opv_icmp rfl rfl rfl rfl) ?_
   refine RL.nil ?_
   refine thnN ?_
   obtain ⟨x8, hy2, ho1⟩ := Option.bind_eq_some_iff.1 ho1
   refine W.cut (fun φ' h' => Fr.sub [(0, (.agg (List.toArray (α := Value) [(.int .i64 a0_0), (.int .i64 a0_1), (.bool a0_2), u0_3, u0_4]))), (1, (.int .i64 a1)), (2, (.pointer (some ⟨bb1, 0, none⟩))), (4, (.slice none 0 0)), (10, (.int .i64 a1)), (5, v2), (6, (.int .i64 x2)), (11, (.int .i64 x3)), (12, (.bool (decide (x3 < a1)))), (7, (.int .i64 x3)), (23, (.bool (decide (x3 < (Int.tmod a0_1 a1))))), (8, (.int .i64 x8))] φ' ∧ hp3 = h') ?_ ?_
   ·by_cases c4 : (decide (x3 < (Int.tmod a0_1 a1))) = true
    ·rw [if_pos c4] at hy2
     refine W.condT rfl c4 ?_
     refine W.region ?_
     refine RL.opD (by decide) (opv_move rfl rfl) ?_
     refine RL.opD (by decide) (opv_add rfl rfl rfl) ?_
     refine RL.opD (by decide) (opv_assign rfl rfl) ?_
     refine RL.nil ?_
     have ey2 := Option.some.inj hy2
     subst ey2
     refine onlyN ?_
     exact ⟨⟨rfl, rfl, rfl, rfl, rfl, rfl, rfl, rfl, rfl, rfl, rfl, rfl, trivial⟩, rfl⟩
    ·rw [if_neg c4] at hy2
     have c4 := eq_false_of_ne_true c4
     refine W.condF rfl c4 ?_
     refine W.skip ?_
     have ey2 := Option.some.inj hy2
     subst ey2
     refine onlyN ?_
     exact ⟨⟨rfl, rfl, rfl, rfl, rfl, rfl, rfl, rfl, rfl, rfl, rfl, rfl, trivial⟩, rfl⟩
   rintro φ' _ ⟨hs3, rfl⟩
   refine thnN ?_
   refine W.sub hs3 ?_
   refine W.seq ?_
   refine W.seq ?_
   refine W.region ?_
   refine RL.opD (by decide) (opv_move rfl rfl) ?_
   refine RL.opD (by decide) (opv_icmp rfl rfl rfl rfl) ?_
   refine RL.nil ?_
   refine thnN ?_
   obtain ⟨x9, hy3, ho1⟩ := Option.bind_eq_some_iff.1 ho1
   refine W.cut (fun φ' h' => ∃ v4, Fr.sub [(0, (.agg (List.toArray (α := Value) [(.int .i64 a0_0), (.int .i64 a0_1), (.bool a0_2), u0_3, u0_4]))), (1, (.int .i64 a1)), (2, (.pointer (some ⟨bb1, 0, none⟩))), (4, (.slice none 0 0)), (10, (.int .i64 a1)), (6, (.int .i64 x2)), (11, (.int .i64 x3)), (12, (.bool (decide (x3 < a1)))), (7, (.int .i64 x3)), (23, (.bool (decide (x3 < (Int.tmod a0_1 a1))))), (8, (.int .i64 x8)), (27, (.bool (decide (x8 > 0)))), (5, v4)] φ' ∧ Mod [] h0 h' ∧ Sep [] h0.size h' [ownO (kII .i64) 84 (.slice none 0 0) ([] : List ((Int × Int))), boxO bb1 [(.int .i64 a0_0), (.int .i64 a0_1), (.bool a0_2), u0_3, u0_4], ownO (kII .i64) 84 v4 x9]) ?_ ?_
   ·by_cases c5 : (decide (x8 > 0)) = true
    ·rw [if_pos c5] at hy3
     refine W.condT rfl c5 ?_
     refine W.region ?_
     refine RL.opD (by decide) (opv_move rfl rfl) ?_
     refine RL.opD (by decide) (opv_move rfl rfl) ?_
     refine RL.opD (by decide) (opv_move rfl rfl) ?_
     refine RL.opD (by decide) (opv_build (cs := [(.int .i64 x2), (.int .i64 x8)]) [(0, [(.int .i64 x2)]), (1, [(.int .i64 x8)])] [(0, (.int .i64 x2)), (1, (.int .i64 x8))] rfl Try.bd84 ⟨⟨rfl, rfl, rfl, cells1 rfl⟩, ⟨rfl, rfl, rfl, cells1 rfl⟩, trivial⟩ rfl) ?_
     refine RL.op _ (by decide) (opS_litW (K := (kII .i64)) (us := [(.int .i64 x2), (.int .i64 x8)]) (z := (x2, x8)) rfl Try.underlying148 Try.einfo84 rfl rfl rfl rfl rfl rfl) ?_
     rintro v5 hp4 ⟨MT_3, T_3⟩
     obtain ⟨X_4, S_5⟩ := Sep.turn0 X_3 S_4 MT_3 T_3
     obtain ⟨c6, hy3⟩ := of_ite hy3
     refine RL.op _ (by decide) (opS_append (K := (kII .i64)) rfl Try.underlying148 Try.einfo84 rfl rfl rfl rfl (Sep.at (o := ownO (kII .i64) 84 v2 x1) S_5 1 rfl) (ownO.read (Sep.at (o := ownO (kII .i64) 84 v5 [(x2, x8)]) S_5 0 rfl)) (by decide) (by decide) c6) ?_
     rintro v6 hp5 ⟨MT_4, T_4⟩
     have S_6 : Sep [] h0.size hp4 ([ownO (kII .i64) 84 v2 x1] ++ [ownO (kII .i64) 84 v5 [(x2, x8)], ownO (kII .i64) 84 (.slice none 0 0) ([] : List ((Int × Int))), boxO bb1 [(.int .i64 a0_0), (.int .i64 a0_1), (.bool a0_2), u0_3, u0_4]]) := Sep.sel S_5 [1, 0, 2, 3] (by decide)
     obtain ⟨X_5, S_7⟩ := Sep.turn X_4 S_6 MT_4 T_4
     refine RL.opD (by decide) (opv_assign rfl rfl) ?_
     refine RL.nil ?_
     have ey3 := Option.some.inj hy3
     subst ey3
     refine onlyN ?_
     exact ⟨v6, ⟨rfl, rfl, rfl, rfl, rfl, rfl, rfl, rfl, rfl, rfl, rfl, rfl, rfl, trivial⟩, X_5, (Sep.sel S_7 [2, 3, 0] (by decide))⟩
    ·rw [if_neg c5] at hy3
     have c5 := eq_false_of_ne_true c5
     refine W.condF rfl c5 ?_
     refine W.skip ?_
     have ey3 := Option.some.inj hy3
     subst ey3
     refine onlyN ?_
     exact ⟨v2, ⟨rfl, rfl, rfl, rfl, rfl, rfl, rfl, rfl, rfl, rfl, rfl, rfl, rfl, trivial⟩, X_3, (Sep.sel S_4 [1, 2, 0] (by decide))⟩
   rintro φ' hp6 ⟨v4, hs4, X_6, S_8⟩
   refine thnN ?_
   refine W.sub hs4 ?_
   refine W.region ?_
   refine RL.opD (by decide) (opv_move rfl rfl) ?_
   refine RL.opD (by decide) (opv_move rfl rfl) ?_
   refine RL.opD (by decide) (opv_add rfl rfl rfl) ?_
   refine RL.opD (by decide) (opv_assign rfl rfl) ?_
   refine RL.nil ?_
   refine blkN ?_
   refine thnN ?_
   refine W.region ?_
   refine RL.opD (by decide) (opv_add rfl rfl rfl) ?_
   refine RL.opD (by decide) (opv_move rfl rfl) ?_
   refine RL.nil ?_
   have eo1 := Option.some.inj ho1
   subst eo1
   refine rndN (s' := (x9, IntKind.wrap .i64 (x2 + x8), IntKind.wrap .i64 (x3 + 1))) rfl ?_
   exact ⟨v4, ⟨rfl, rfl, rfl, rfl, rfl, rfl, rfl, rfl, trivial⟩, X_6, (Sep.sel S_8 [2, 0, 1] (by decide))⟩
  ·rw [if_neg c1] at ho1
   have c1 := eq_false_of_ne_true c1
   refine W.condF rfl c1 ?_
   refine W.exit ?_
   refine thnX ?_
   refine rndX ?_
   refine blkI ?_
   have eo1 := Option.some.inj ho1
   subst eo1
   have ey1 := hy1 _ rfl
   subst ey1
   refine onlyN ?_
   exact ⟨x2, x3, decide (x3 < a1), x1, v2, rfl, ⟨rfl, rfl, rfl, rfl, rfl, rfl, rfl, rfl, rfl, trivial⟩, X_3, (Sep.sel S_4 [1, 2, 0] (by decide))⟩
 rintro φ' hp7 ⟨x4, x5, x6, x7, v3, rfl, hs2, X_7, S_9⟩
 try dsimp only at hp
 refine thnN ?_
 refine W.sub hs2 ?_
 refine W.seq ?_
 refine W.region ?_
 refine RL.opD (by decide) (opv_move rfl rfl) ?_
 refine RL.opD (by decide) (opv_assign rfl rfl) ?_
 refine RL.nil ?_
 refine thnN ?_
 refine W.ret ?_
 have er := Option.some.inj hp
 subst er
 exact Rt.one rfl rfl ⟨X_7, (Sep.sel S_9 [2] (by decide))⟩

set_option maxRecDepth 20000 in
theorem impl_StripsOf_ok (h0 : Heap) (a0_0 : Int) (a0_1 : Int) (a0_2 : Bool) (u0_3 : Value) (a0_3 : List (Option Nat)) (g0_3 : SL (kF .f32) h0.size h0 u0_3 a0_3) (u0_4 : Value) (a0_4 : List (Option Nat)) (g0_4 : SL (kF .f32) h0.size h0 u0_4 a0_4) (a1 : Int) (r : ((List ((Int × Int))) × Bool)) (hp : impl_StripsOf a0_0 a0_1 a0_2 a0_3 a0_4 a1 = some r) : CallsH Try.prog 129 ([(.agg (List.toArray (α := Value) [(.int .i64 a0_0), (.int .i64 a0_1), (.bool a0_2), u0_3, u0_4])), (.int .i64 a1)].toArray ++ [].toArray) h0 (fun v h' => ∃ w0, v = (.tuple (List.toArray (α := Value) [w0, (.bool r.2)])) ∧ Mod [] h0 h' ∧ Sep [] h0.size h' [ownO (kII .i64) 84 w0 r.1]) := by
 unfold impl_StripsOf at hp
 refine callsH_of_W (l := [(.agg (List.toArray (α := Value) [(.int .i64 a0_0), (.int .i64 a0_1), (.bool a0_2), u0_3, u0_4])), (.int .i64 a1)]) (cap := []) 17 Try.func129 rfl rfl rfl ?_
 refine W.seq ?_
 refine W.region ?_
 refine RL.op _ (by decide) (opS_boxed (opv_boxA (cs := [(.int .i64 a0_0), (.int .i64 a0_1), (.bool a0_2), u0_3, u0_4]) rfl rfl)) ?_
 rintro _ hp1 ⟨bb1, rfl, MT_1, T_1⟩
 obtain ⟨X_1, S_1⟩ := Sep.turn0 (Mod.refl [] h0) (Sep.nil [] h0.size h0) MT_1 T_1
 refine RL.opD (by decide) (opv_assign rfl rfl) ?_
 have S_2 : Sep [] h0.size hp1 [ownO (kII .i64) 84 (.slice none 0 0) ([] : List ((Int × Int))), boxO bb1 [(.int .i64 a0_0), (.int .i64 a0_1), (.bool a0_2), u0_3, u0_4]] := Sep.addNil S_1
 refine RL.opD (by decide) (opv_assign rfl rfl) ?_
 refine RL.nil ?_
 refine thnN ?_
 refine W.seq ?_
 refine W.seq ?_
 obtain ⟨x1, hy1, hp⟩ := Option.bind_eq_some_iff.1 hp
 refine W.cut (fun φ' h' => Fr.sub [(0, (.agg (List.toArray (α := Value) [(.int .i64 a0_0), (.int .i64 a0_1), (.bool a0_2), u0_3, u0_4]))), (1, (.int .i64 a1)), (2, (.pointer (some ⟨bb1, 0, none⟩))), (4, (.slice none 0 0)), (5, (.bool false)), (13, (.bool x1))] φ' ∧ Mod [] h0 h' ∧ Sep [] h0.size h' [ownO (kII .i64) 84 (.slice none 0 0) ([] : List ((Int × Int))), boxO bb1 [(.int .i64 a0_0), (.int .i64 a0_1), (.bool a0_2), u0_3, u0_4]]) ?_ ?_
 ·refine W.region ?_
  refine RL.opD (by decide) (opv_loadA (us := [(.int .i64 a0_0), (.int .i64 a0_1), (.bool a0_2), u0_3, u0_4]) rfl Try.agg33 Try.size33 rfl (Sep.at (o := boxO bb1 [(.int .i64 a0_0), (.int .i64 a0_1), (.bool a0_2), u0_3, u0_4]) S_2 1 rfl) rfl rfl) ?_
  obtain ⟨x2, hx2, hy1⟩ := Option.bind_eq_some_iff.1 hy1
  refine RL.op _ (by decide) (opv_call (cap := []) (impl_ValidSheet_ok _ _ _ _ _ _ (SL.up (SL.mod g0_3 X_1 (Nat.le_refl _) nob) (Nat.le_trans (Nat.le_refl _) (Mod.size X_1))) _ _ (SL.up (SL.mod g0_4 X_1 (Nat.le_refl _) nob) (Nat.le_trans (Nat.le_refl _) (Mod.size X_1))) _ hx2) rfl rfl ⟨rfl, trivial⟩ Try.func45 rfl rfl) ?_
  rintro _ hp2 ⟨rfl, MT_2, T_2⟩
  obtain ⟨X_2, S_3⟩ := Sep.turn0 X_1 S_2 MT_2 T_2
  refine RL.opD (by decide) (opv_not rfl rfl) ?_
  refine RL.opD (by decide) (opv_move rfl rfl) ?_
  by_cases c1 : (!x2) = true
  ·rw [if_pos c1] at hy1
   refine RL.noT rfl rfl c1 (by decide) ?_
   refine RL.noT rfl rfl c1 (by decide) ?_
   refine RL.noT rfl rfl c1 (by decide) ?_
   refine RL.opD (by decide) (opv_pick rfl rfl (fun _ => rfl) (fun e => absurd (Eq.trans (Eq.symm e) c1) (by decide)) rfl) ?_
   refine RL.nil ?_
   have ey1 := Option.some.inj hy1
   subst ey1
   refine onlyN ?_
   exact ⟨⟨rfl, rfl, rfl, rfl, rfl, rfl, trivial⟩, X_2, (Sep.sel S_3 [0, 1] (by decide))⟩
  ·rw [if_neg c1] at hy1
   have c1 := eq_false_of_ne_true c1
   refine RL.yesD rfl rfl c1 (by decide) (opv_move rfl rfl) ?_
   obtain ⟨x3, hx3, hy1⟩ := Option.bind_eq_some_iff.1 hy1
   refine RL.yes _ rfl rfl c1 (by decide) (opv_call (cap := []) (impl_areWorkers_ok _ _ _ hx3) rfl rfl ⟨rfl, trivial⟩ Try.func165 rfl rfl) ?_
   rintro _ _ ⟨rfl, rfl⟩
   refine RL.yesD rfl rfl c1 (by decide) (opv_not rfl rfl) ?_
   refine RL.opD (by decide) (opv_pick rfl rfl (fun e => absurd (Eq.trans (Eq.symm e) c1) (by decide)) (fun _ => rfl) rfl) ?_
   refine RL.nil ?_
   have ey1 := Option.some.inj hy1
   subst ey1
   refine onlyN ?_
   exact ⟨⟨rfl, rfl, rfl, rfl, rfl, rfl, trivial⟩, X_2, (Sep.sel S_3 [0, 1] (by decide))⟩
 rintro φ' hp3 ⟨hs1, X_3, S_4⟩
 refine thnN ?_
 refine W.sub hs1 ?_
 by_cases c2 : x1 = true
 ·rw [if_pos c2] at hp
  refine W.condT rfl c2 ?_
  refine W.seq ?_
  refine W.region ?_
  refine RL.opD (by decide) (opv_assign rfl rfl) ?_
  have S_5 : Sep [] h0.size hp3 [ownO (kII .i64) 84 (.slice none 0 0) ([] : List ((Int × Int))), ownO (kII .i64) 84 (.slice none 0 0) ([] : List ((Int × Int))), boxO bb1 [(.int .i64 a0_0), (.int .i64 a0_1), (.bool a0_2), u0_3, u0_4]] := Sep.addNil S_4
  refine RL.opD (by decide) (opv_assign rfl rfl) ?_
  refine RL.nil ?_
  refine thnN ?_
  refine W.ret ?_
  refine thnR ?_
  have er := Option.some.inj hp
  subst er
  exact Rt.two rfl rfl rfl ⟨(.slice none 0 0), rfl, X_3, (Sep.sel S_5 [0] (by decide))⟩
 ·rw [if_neg c2] at hp
  have c2 := eq_false_of_ne_true c2
  refine W.condF rfl c2 ?_
  refine W.skip ?_
  refine thnN ?_
  refine W.seq ?_
  refine W.region ?_
  refine RL.opD (by decide) (opv_loadA (us := [(.int .i64 a0_0), (.int .i64 a0_1), (.bool a0_2), u0_3, u0_4]) rfl Try.agg33 Try.size33 rfl (Sep.at (o := boxO bb1 [(.int .i64 a0_0), (.int .i64 a0_1), (.bool a0_2), u0_3, u0_4]) S_4 1 rfl) rfl rfl) ?_
  refine RL.opD (by decide) (opv_move rfl rfl) ?_
  obtain ⟨x4, hx4, hp⟩ := Option.bind_eq_some_iff.1 hp
  refine RL.op _ (by decide) (opv_call (cap := []) (impl_stripsOf_ok _ _ _ _ _ _ (SL.up (SL.mod g0_3 X_3 (Nat.le_refl _) nob) (Nat.le_trans (Nat.le_refl _) (Mod.size X_3))) _ _ (SL.up (SL.mod g0_4 X_3 (Nat.le_refl _) nob) (Nat.le_trans (Nat.le_refl _) (Mod.size X_3))) _ _ hx4) rfl rfl ⟨rfl, rfl, trivial⟩ Try.func166 rfl rfl) ?_
  rintro v1 hp4 ⟨MT_3, T_3⟩
  obtain ⟨X_4, S_6⟩ := Sep.turn0 X_3 S_4 MT_3 T_3
  refine RL.opD (by decide) (opv_assign rfl rfl) ?_
  refine RL.opD (by decide) (opv_assign rfl rfl) ?_
  refine RL.nil ?_
  refine thnN ?_
  refine W.ret ?_
  have er := Option.some.inj hp
  subst er
  exact Rt.two rfl rfl rfl ⟨v1, rfl, X_4, (Sep.sel S_6 [0] (by decide))⟩

set_option maxHeartbeats 4000000 in
set_option maxRecDepth 20000 in
theorem impl_MessagesOf_ok (h0 : Heap) (a0_0 : Int) (a0_1 : Int) (a0_2 : Bool) (u0_3 : Value) (a0_3 : List (Option Nat)) (g0_3 : SL (kF .f32) h0.size h0 u0_3 a0_3) (u0_4 : Value) (a0_4 : List (Option Nat)) (g0_4 : SL (kF .f32) h0.size h0 u0_4 a0_4) (a1 : Int) (r : ((List (List (Int))) × Bool)) (hp : impl_MessagesOf a0_0 a0_1 a0_2 a0_3 a0_4 a1 = some r) : CallsH Try.prog 64 ([(.agg (List.toArray (α := Value) [(.int .i64 a0_0), (.int .i64 a0_1), (.bool a0_2), u0_3, u0_4])), (.int .i64 a1)].toArray ++ [].toArray) h0 (fun v h' => ∃ w0, v = (.tuple (List.toArray (α := Value) [(ooV w0), (.bool r.2)])) ∧ Mod [] h0 h' ∧ Sep [] h0.size h' [ooW 71 2 w0 r.1]) := by
 unfold impl_MessagesOf at hp
 refine callsH_of_W (l := [(.agg (List.toArray (α := Value) [(.int .i64 a0_0), (.int .i64 a0_1), (.bool a0_2), u0_3, u0_4])), (.int .i64 a1)]) (cap := []) 74 Try.func64 rfl rfl rfl ?_
 refine W.seq ?_
 refine W.region ?_
 refine RL.op _ (by decide) (opS_boxed (opv_boxA (cs := [(.int .i64 a0_0), (.int .i64 a0_1), (.bool a0_2), u0_3, u0_4]) rfl rfl)) ?_
 rintro _ hp1 ⟨bb1, rfl, MT_1, T_1⟩
 obtain ⟨X_1, S_1⟩ := Sep.turn0 (Mod.refl [] h0) (Sep.nil [] h0.size h0) MT_1 T_1
 refine RL.opD (by decide) (opv_assign rfl rfl) ?_
 have S_2 : Sep [] h0.size hp1 [ooW 71 2 ooNil ([] : List (List (Int))), boxO bb1 [(.int .i64 a0_0), (.int .i64 a0_1), (.bool a0_2), u0_3, u0_4]] := Sep.addNilOO S_1
 refine RL.opD (by decide) (opv_assign rfl rfl) ?_
 refine RL.nil ?_
 refine thnN ?_
 refine W.seq ?_
 refine W.region ?_
 refine RL.opD (by decide) (opv_loadA (us := [(.int .i64 a0_0), (.int .i64 a0_1), (.bool a0_2), u0_3, u0_4]) rfl Try.agg33 Try.size33 rfl (Sep.at (o := boxO bb1 [(.int .i64 a0_0), (.int .i64 a0_1), (.bool a0_2), u0_3, u0_4]) S_2 1 rfl) rfl rfl) ?_
 refine RL.opD (by decide) (opv_move rfl rfl) ?_
 obtain ⟨x1, hx1, hp⟩ := Option.bind_eq_some_iff.1 hp
 refine RL.op _ (by decide) (opv_call (cap := []) (impl_StripsOf_ok _ _ _ _ _ _ (SL.up (SL.mod g0_3 X_1 (Nat.le_refl _) nob) (Nat.le_trans (Nat.le_refl _) (Mod.size X_1))) _ _ (SL.up (SL.mod g0_4 X_1 (Nat.le_refl _) nob) (Nat.le_trans (Nat.le_refl _) (Mod.size X_1))) _ _ hx1) rfl rfl ⟨rfl, rfl, trivial⟩ Try.func129 rfl rfl) ?_
 rintro _ hp2 ⟨v1, rfl, MT_2, T_2⟩
 obtain ⟨X_2, S_3⟩ := Sep.turn0 X_1 S_2 MT_2 T_2
 refine RL.opD (by decide) (opv_move rfl rfl) ?_
 refine RL.opD (by decide) (opv_extract rfl rfl rfl) ?_
 refine RL.opD (by decide) (opv_extract rfl rfl rfl) ?_
 refine RL.opD (by decide) (opv_assign rfl rfl) ?_
 refine RL.opD (by decide) (opv_assign rfl rfl) ?_
 refine RL.nil ?_
 refine thnN ?_
 refine W.seq ?_
 refine W.seq ?_
 refine W.region ?_
 refine RL.opD (by decide) (opv_move rfl rfl) ?_
 refine RL.opD (by decide) (opv_not rfl rfl) ?_
 refine RL.nil ?_
 refine thnN ?_
 by_cases c1 : (!x1.2) = true
 ·rw [if_pos c1] at hp
  refine W.condT rfl c1 ?_
  refine W.seq ?_
  refine W.region ?_
  refine RL.opD (by decide) (opv_assign rfl rfl) ?_
  have S_4 : Sep [] h0.size hp2 [ooW 71 2 ooNil ([] : List (List (Int))), ownO (kII .i64) 84 v1 x1.1, ooW 71 2 ooNil ([] : List (List (Int))), boxO bb1 [(.int .i64 a0_0), (.int .i64 a0_1), (.bool a0_2), u0_3, u0_4]] := Sep.addNilOO S_3
  refine RL.opD (by decide) (opv_assign rfl rfl) ?_
  refine RL.nil ?_
  refine thnN ?_
  refine W.ret ?_
  refine thnR ?_
  have er := Option.some.inj hp
  subst er
  exact Rt.two rfl rfl rfl ⟨ooNil, rfl, X_2, (Sep.sel S_4 [0] (by decide))⟩
 ·rw [if_neg c1] at hp
  have c1 := eq_false_of_ne_true c1
  refine W.condF rfl c1 ?_
  refine W.skip ?_
  refine thnN ?_
  refine W.seq ?_
  refine W.region ?_
  refine RL.op _ (by decide) (opS_litOO0 (E2 := 2) rfl Try.underlying94 Try.isinfo71) ?_
  rintro v2 hp3 ⟨MT_3, T_3⟩
  obtain ⟨X_3, S_5⟩ := Sep.turn0 X_2 S_3 MT_3 T_3
  refine RL.opD (by decide) (opv_assign rfl rfl) ?_
  refine RL.nil ?_
  refine thnN ?_
  refine W.seq ?_
  refine W.seq ?_
  refine W.region ?_
  refine RL.opD (by decide) (opv_move rfl rfl) ?_
  refine RL.opD (by decide) (opv_len rfl Try.underlying148 rfl (ownO.read (Sep.at (o := ownO (kII .i64) 84 v1 x1.1) S_5 1 rfl))) ?_
  refine RL.opD (by decide) (opv_move rfl rfl) ?_
  refine RL.nil ?_
  refine thnN ?_
  obtain ⟨y1, hy1, hp⟩ := Option.bind_eq_some_iff.1 hp
  refine W.cut (fun φ' h' => ∃ x4, ∃ x5, ∃ x6, ∃ v4, y1 = (x4, x5, x6) ∧ Fr.sub [(0, (.agg (List.toArray (α := Value) [(.int .i64 a0_0), (.int .i64 a0_1), (.bool a0_2), u0_3, u0_4]))), (1, (.int .i64 a1)), (2, (.pointer (some ⟨bb1, 0, none⟩))), (4, (.slice none 0 0)), (5, (.bool false)), (6, v1), (7, (.bool x1.2)), (22, (.bool (!x1.2))), (24, v1), (25, (.int .i64 (x1.1.length : Int))), (26, (.int .i64 x4)), (27, (.bool x5)), (8, (ooV v4))] φ' ∧ Mod [] h0 h' ∧ Sep [] h0.size h' [ownO (kII .i64) 84 v1 x1.1, ooW 71 2 ooNil ([] : List (List (Int))), boxO bb1 [(.int .i64 a0_0), (.int .i64 a0_1), (.bool a0_2), u0_3, u0_4], ooW 71 2 v4 x6]) ?_ ?_
  ·refine W.block ?_
   refine W.loopS (fun (s : ((List (List (Int))) × Int)) φ' h' => ∃ v3, Fr.sub [(0, (.agg (List.toArray (α := Value) [(.int .i64 a0_0), (.int .i64 a0_1), (.bool a0_2), u0_3, u0_4]))), (1, (.int .i64 a1)), (2, (.pointer (some ⟨bb1, 0, none⟩))), (4, (.slice none 0 0)), (5, (.bool false)), (6, v1), (7, (.bool x1.2)), (22, (.bool (!x1.2))), (24, v1), (25, (.int .i64 (x1.1.length : Int))), (8, (ooV v3)), (26, (.int .i64 s.2))] φ' ∧ Mod [] h0 h' ∧ Sep [] h0.size h' [ooW 71 2 v3 s.1, ownO (kII .i64) 84 v1 x1.1, ooW 71 2 ooNil ([] : List (List (Int))), boxO bb1 [(.int .i64 a0_0), (.int .i64 a0_1), (.bool a0_2), u0_3, u0_4]]) hy1 ⟨(OO.mk v2 []), ⟨rfl, rfl, rfl, rfl, rfl, rfl, rfl, rfl, rfl, rfl, rfl, rfl, trivial⟩, X_3, (Sep.sel S_5 [0, 1, 2, 3] (by decide))⟩ ?_
   rintro ⟨x2, x3⟩ φ' hp4 o1 ⟨v3, hs1, X_4, S_6⟩ ho1 hy1
   have hs1 : Fr.sub [(0, (.agg (List.toArray (α := Value) [(.int .i64 a0_0), (.int .i64 a0_1), (.bool a0_2), u0_3, u0_4]))), (1, (.int .i64 a1)), (2, (.pointer (some ⟨bb1, 0, none⟩))), (4, (.slice none 0 0)), (5, (.bool false)), (6, v1), (7, (.bool x1.2)), (22, (.bool (!x1.2))), (24, v1), (25, (.int .i64 (x1.1.length : Int))), (8, (ooV v3)), (26, (.int .i64 x3))] φ' := hs1
   have S_6 : Sep [] h0.size hp4 [ooW 71 2 v3 x2, ownO (kII .i64) 84 v1 x1.1, ooW 71 2 ooNil ([] : List (List (Int))), boxO bb1 [(.int .i64 a0_0), (.int .i64 a0_1), (.bool a0_2), u0_3, u0_4]] := S_6
   have ho1 : impl_MessagesOf.s0 a0_0 a0_1 a0_2 a0_3 a0_4 x1 x2 x3 = some o1 := ho1
   unfold impl_MessagesOf.s0 at ho1
   refine W.sub hs1 ?_
   refine W.seq ?_
   refine W.region ?_
   refine RL.opD (by decide) (opv_icmp rfl rfl rfl rfl) ?_
   refine RL.nil ?_
   refine thnN ?_
   refine W.seq ?_
   by_cases c2 : (decide (x3 < (x1.1.length : Int))) = true
   ·rw [if_pos c2] at ho1
    refine W.condT rfl c2 ?_
    refine W.skip ?_
    refine thnN ?_
    refine W.seq ?_
    refine W.block ?_
    refine W.seq ?_
    refine W.region ?_
    refine RL.opD (by decide) (opv_move rfl rfl) ?_
    obtain ⟨x7, hx7, ho1⟩ := Option.bind_eq_some_iff.1 ho1
    refine RL.op _ (by decide) (opv_index rfl Try.underlying148 (by rw [Try.size84]; rfl) rfl rfl (ownO.read (Sep.at (o := ownO (kII .i64) 84 v1 x1.1) S_6 1 rfl)) hx7) ?_
    rintro v5 _ ⟨fv5, rfl⟩
    refine RL.opD (by decide) (opv_loadWhole (K := (kII .i64)) rfl Try.agg84 (by rw [Try.size84]; rfl) rfl fv5 (ownO.read (Sep.at (o := ownO (kII .i64) 84 v1 x1.1) S_6 1 rfl)) (idx_some hx7).2.2 kII_all) ?_
    refine RL.op _ (by decide) (opS_boxed (opv_alloc (cs := [(.int .i64 0), (.int .i64 0)]) rfl Try.zero84 rfl)) ?_
    rintro _ hp5 ⟨bb2, rfl, MT_4, T_4⟩
    obtain ⟨X_5, S_7⟩ := Sep.turn0 X_4 S_6 MT_4 T_4
    refine RL.opD (by decide) (opv_assign rfl rfl) ?_
    refine RL.op0 _ (opS_stored (cs := [(.int .i64 0), (.int .i64 0)]) (cs' := [(.int .i64 x7.1), (.int .i64 x7.2)]) (opv_storeA (us := [(.int .i64 x7.1), (.int .i64 x7.2)]) rfl Try.size84 rfl rfl (oneAll rfl (oneAll rfl rfl)) (Sep.at (o := boxO bb2 [(.int .i64 0), (.int .i64 0)]) S_7 0 rfl) rfl rfl) (Sep.at (o := boxO bb2 [(.int .i64 0), (.int .i64 0)]) S_7 0 rfl)) ?_
    rintro _ hp6 ⟨rfl, MT_5, T_5⟩
    have S_8 : Sep [] h0.size hp5 ([boxO bb2 [(.int .i64 0), (.int .i64 0)]] ++ [ooW 71 2 v3 x2, ownO (kII .i64) 84 v1 x1.1, ooW 71 2 ooNil ([] : List (List (Int))), boxO bb1 [(.int .i64 a0_0), (.int .i64 a0_1), (.bool a0_2), u0_3, u0_4]]) := Sep.sel S_7 [0, 1, 2, 3, 4] (by decide)
    obtain ⟨X_6, S_9⟩ := Sep.turn X_5 S_8 MT_5 T_5
    refine RL.nil ?_
    refine thnN ?_
    refine W.seq ?_
    refine W.region ?_
    refine RL.opD (by decide) (opv_loadA (us := [(.int .i64 a0_0), (.int .i64 a0_1), (.bool a0_2), u0_3, u0_4]) rfl Try.agg33 Try.size33 rfl (Sep.at (o := boxO bb1 [(.int .i64 a0_0), (.int .i64 a0_1), (.bool a0_2), u0_3, u0_4]) S_9 4 rfl) rfl rfl) ?_
    refine RL.opD (by decide) (opv_loadA (us := [(.int .i64 x7.1), (.int .i64 x7.2)]) rfl Try.agg84 Try.size84 rfl (Sep.at (o := boxO bb2 [(.int .i64 x7.1), (.int .i64 x7.2)]) S_9 0 rfl) rfl rfl) ?_
    obtain ⟨x8, hx8, ho1⟩ := Option.bind_eq_some_iff.1 ho1
    refine RL.op _ (by decide) (opv_call (cap := []) (impl_haloRows_ok _ _ _ _ _ _ (SL.up (SL.mod g0_3 X_6 (Nat.le_refl _) nob) (Nat.le_trans (Nat.le_refl _) (Mod.size X_6))) _ _ (SL.up (SL.mod g0_4 X_6 (Nat.le_refl _) nob) (Nat.le_trans (Nat.le_refl _) (Mod.size X_6))) _ _ _ hx8) rfl rfl ⟨rfl, rfl, trivial⟩ Try.func120 rfl rfl) ?_
    rintro v6 hp7 ⟨MT_6, T_6⟩
    obtain ⟨X_7, S_10⟩ := Sep.turn0 X_6 S_9 MT_6 T_6
    refine RL.opD (by decide) (opv_len rfl Try.underlying71 rfl (ownO.read (Sep.at (o := ownO (kI .i64) 2 v6 x8) S_10 0 rfl))) ?_
    refine RL.opD (by decide) (opv_move rfl rfl) ?_
    refine RL.nil ?_
    refine thnN ?_
    obtain ⟨y2, hy2, ho1⟩ := Option.bind_eq_some_iff.1 ho1
    refine W.cut (fun φ' h' => ∃ x11, ∃ x12, ∃ x13, ∃ v8, y2 = (x11, x12, x13) ∧ Fr.sub [(0, (.agg (List.toArray (α := Value) [(.int .i64 a0_0), (.int .i64 a0_1), (.bool a0_2), u0_3, u0_4]))), (1, (.int .i64 a1)), (2, (.pointer (some ⟨bb1, 0, none⟩))), (4, (.slice none 0 0)), (5, (.bool false)), (6, v1), (7, (.bool x1.2)), (22, (.bool (!x1.2))), (24, v1), (25, (.int .i64 (x1.1.length : Int))), (26, (.int .i64 x3)), (27, (.bool (decide (x3 < (x1.1.length : Int))))), (10, (.pointer (some ⟨bb2, 0, none⟩))), (9, (.int .i64 x3)), (33, v6), (34, (.int .i64 (x8.length : Int))), (35, (.int .i64 x11)), (36, (.bool x12)), (8, (ooV v8))] φ' ∧ Mod [] h0 h' ∧ Sep [] h0.size h' [ownO (kI .i64) 2 v6 x8, boxO bb2 [(.int .i64 x7.1), (.int .i64 x7.2)], ownO (kII .i64) 84 v1 x1.1, ooW 71 2 ooNil ([] : List (List (Int))), boxO bb1 [(.int .i64 a0_0), (.int .i64 a0_1), (.bool a0_2), u0_3, u0_4], ooW 71 2 v8 x13]) ?_ ?_
    ·refine W.block ?_
     refine W.loopS (fun (s : ((List (List (Int))) × Int)) φ' h' => ∃ v7, Fr.sub [(0, (.agg (List.toArray (α := Value) [(.int .i64 a0_0), (.int .i64 a0_1), (.bool a0_2), u0_3, u0_4]))), (1, (.int .i64 a1)), (2, (.pointer (some ⟨bb1, 0, none⟩))), (4, (.slice none 0 0)), (5, (.bool false)), (6, v1), (7, (.bool x1.2)), (22, (.bool (!x1.2))), (24, v1), (25, (.int .i64 (x1.1.length : Int))), (26, (.int .i64 x3)), (27, (.bool (decide (x3 < (x1.1.length : Int))))), (10, (.pointer (some ⟨bb2, 0, none⟩))), (9, (.int .i64 x3)), (33, v6), (34, (.int .i64 (x8.length : Int))), (8, (ooV v7)), (35, (.int .i64 s.2))] φ' ∧ Mod [] h0 h' ∧ Sep [] h0.size h' [ownO (kI .i64) 2 v6 x8, boxO bb2 [(.int .i64 x7.1), (.int .i64 x7.2)], ooW 71 2 v7 s.1, ownO (kII .i64) 84 v1 x1.1, ooW 71 2 ooNil ([] : List (List (Int))), boxO bb1 [(.int .i64 a0_0), (.int .i64 a0_1), (.bool a0_2), u0_3, u0_4]]) hy2 ⟨v3, ⟨rfl, rfl, rfl, rfl, rfl, rfl, rfl, rfl, rfl, rfl, rfl, rfl, rfl, rfl, rfl, rfl, rfl, rfl, trivial⟩, X_7, (Sep.sel S_10 [0, 1, 2, 3, 4, 5] (by decide))⟩ ?_
     rintro ⟨x9, x10⟩ φ' hp8 o2 ⟨v7, hs3, X_8, S_11⟩ ho2 hy2
     have hs3 : Fr.sub [(0, (.agg (List.toArray (α := Value) [(.int .i64 a0_0), (.int .i64 a0_1), (.bool a0_2), u0_3, u0_4]))), (1, (.int .i64 a1)), (2, (.pointer (some ⟨bb1, 0, none⟩))), (4, (.slice none 0 0)), (5, (.bool false)), (6, v1), (7, (.bool x1.2)), (22, (.bool (!x1.2))), (24, v1), (25, (.int .i64 (x1.1.length : Int))), (26, (.int .i64 x3)), (27, (.bool (decide (x3 < (x1.1.length : Int))))), (10, (.pointer (some ⟨bb2, 0, none⟩))), (9, (.int .i64 x3)), (33, v6), (34, (.int .i64 (x8.length : Int))), (8, (ooV v7)), (35, (.int .i64 x10))] φ' := hs3
     have S_11 : Sep [] h0.size hp8 [ownO (kI .i64) 2 v6 x8, boxO bb2 [(.int .i64 x7.1), (.int .i64 x7.2)], ooW 71 2 v7 x9, ownO (kII .i64) 84 v1 x1.1, ooW 71 2 ooNil ([] : List (List (Int))), boxO bb1 [(.int .i64 a0_0), (.int .i64 a0_1), (.bool a0_2), u0_3, u0_4]] := S_11
     have ho2 : impl_MessagesOf.s1 x1 x3 x8 x9 x10 = some o2 := ho2
     unfold impl_MessagesOf.s1 at ho2
     refine W.sub hs3 ?_
     refine W.seq ?_
     refine W.region ?_
     refine RL.opD (by decide) (opv_icmp rfl rfl rfl rfl) ?_
     refine RL.nil ?_
     refine thnN ?_
     refine W.seq ?_
     by_cases c3 : (decide (x10 < (x8.length : Int))) = true
     ·rw [if_pos c3] at ho2
      refine W.condT rfl c3 ?_
      refine W.skip ?_
      refine thnN ?_
      refine W.seq ?_
      refine W.block ?_
      refine W.seq ?_
      refine W.region ?_
      obtain ⟨x14, hx14, ho2⟩ := Option.bind_eq_some_iff.1 ho2
      refine RL.op _ (by decide) (opv_index rfl Try.underlying71 (by rw [Try.size2]; rfl) rfl rfl (ownO.read (Sep.at (o := ownO (kI .i64) 2 v6 x8) S_11 0 rfl)) hx14) ?_
      rintro v9 _ ⟨fv9, rfl⟩
      refine RL.opD (by decide) (opv_loadI rfl Try.one2 rfl fv9 (ownO.read (Sep.at (o := ownO (kI .i64) 2 v6 x8) S_11 0 rfl)) hx14) ?_
      refine RL.opD (by decide) (opv_assign rfl rfl) ?_
      refine RL.nil ?_
      refine thnN ?_
      refine W.seq ?_
      refine W.region ?_
      refine RL.opD (by decide) (opv_move rfl rfl) ?_
      refine RL.opD (by decide) (opv_len rfl Try.underlying148 rfl (ownO.read (Sep.at (o := ownO (kII .i64) 84 v1 x1.1) S_11 3 rfl))) ?_
      refine RL.opD (by decide) (opv_move rfl rfl) ?_
      refine RL.nil ?_
      refine thnN ?_
      obtain ⟨y3, hy3, ho2⟩ := Option.bind_eq_some_iff.1 ho2
      refine W.cut (fun φ' h' => ∃ x17, ∃ x18, ∃ x19, ∃ v11, y3 = (x17, x18, x19) ∧ Fr.sub [(0, (.agg (List.toArray (α := Value) [(.int .i64 a0_0), (.int .i64 a0_1), (.bool a0_2), u0_3, u0_4]))), (1, (.int .i64 a1)), (2, (.pointer (some ⟨bb1, 0, none⟩))), (4, (.slice none 0 0)), (5, (.bool false)), (6, v1), (7, (.bool x1.2)), (22, (.bool (!x1.2))), (24, v1), (25, (.int .i64 (x1.1.length : Int))), (26, (.int .i64 x3)), (27, (.bool (decide (x3 < (x1.1.length : Int))))), (10, (.pointer (some ⟨bb2, 0, none⟩))), (9, (.int .i64 x3)), (33, v6), (34, (.int .i64 (x8.length : Int))), (35, (.int .i64 x10)), (36, (.bool (decide (x10 < (x8.length : Int))))), (12, (.int .i64 x14)), (39, v1), (40, (.int .i64 (x1.1.length : Int))), (41, (.int .i64 x17)), (42, (.bool x18)), (8, (ooV v11))] φ' ∧ Mod [] h0 h' ∧ Sep [] h0.size h' [ownO (kI .i64) 2 v6 x8, boxO bb2 [(.int .i64 x7.1), (.int .i64 x7.2)], ownO (kII .i64) 84 v1 x1.1, ooW 71 2 ooNil ([] : List (List (Int))), boxO bb1 [(.int .i64 a0_0), (.int .i64 a0_1), (.bool a0_2), u0_3, u0_4], ooW 71 2 v11 x19]) ?_ ?_
      ·refine W.block ?_
       refine W.loopS (fun (s : ((List (List (Int))) × Int)) φ' h' => ∃ v10, Fr.sub [(0, (.agg (List.toArray (α := Value) [(.int .i64 a0_0), (.int .i64 a0_1), (.bool a0_2), u0_3, u0_4]))), (1, (.int .i64 a1)), (2, (.pointer (some ⟨bb1, 0, none⟩))), (4, (.slice none 0 0)), (5, (.bool false)), (6, v1), (7, (.bool x1.2)), (22, (.bool (!x1.2))), (24, v1), (25, (.int .i64 (x1.1.length : Int))), (26, (.int .i64 x3)), (27, (.bool (decide (x3 < (x1.1.length : Int))))), (10, (.pointer (some ⟨bb2, 0, none⟩))), (9, (.int .i64 x3)), (33, v6), (34, (.int .i64 (x8.length : Int))), (35, (.int .i64 x10)), (36, (.bool (decide (x10 < (x8.length : Int))))), (12, (.int .i64 x14)), (39, v1), (40, (.int .i64 (x1.1.length : Int))), (8, (ooV v10)), (41, (.int .i64 s.2))] φ' ∧ Mod [] h0 h' ∧ Sep [] h0.size h' [ownO (kI .i64) 2 v6 x8, boxO bb2 [(.int .i64 x7.1), (.int .i64 x7.2)], ooW 71 2 v10 s.1, ownO (kII .i64) 84 v1 x1.1, ooW 71 2 ooNil ([] : List (List (Int))), boxO bb1 [(.int .i64 a0_0), (.int .i64 a0_1), (.bool a0_2), u0_3, u0_4]]) hy3 ⟨v7, ⟨rfl, rfl, rfl, rfl, rfl, rfl, rfl, rfl, rfl, rfl, rfl, rfl, rfl, rfl, rfl, rfl, rfl, rfl, rfl, rfl, rfl, rfl, rfl, trivial⟩, X_8, (Sep.sel S_11 [0, 1, 2, 3, 4, 5] (by decide))⟩ ?_
       rintro ⟨x15, x16⟩ φ' hp9 o3 ⟨v10, hs5, X_9, S_12⟩ ho3 hy3
       have hs5 : Fr.sub [(0, (.agg (List.toArray (α := Value) [(.int .i64 a0_0), (.int .i64 a0_1), (.bool a0_2), u0_3, u0_4]))), (1, (.int .i64 a1)), (2, (.pointer (some ⟨bb1, 0, none⟩))), (4, (.slice none 0 0)), (5, (.bool false)), (6, v1), (7, (.bool x1.2)), (22, (.bool (!x1.2))), (24, v1), (25, (.int .i64 (x1.1.length : Int))), (26, (.int .i64 x3)), (27, (.bool (decide (x3 < (x1.1.length : Int))))), (10, (.pointer (some ⟨bb2, 0, none⟩))), (9, (.int .i64 x3)), (33, v6), (34, (.int .i64 (x8.length : Int))), (35, (.int .i64 x10)), (36, (.bool (decide (x10 < (x8.length : Int))))), (12, (.int .i64 x14)), (39, v1), (40, (.int .i64 (x1.1.length : Int))), (8, (ooV v10)), (41, (.int .i64 x16))] φ' := hs5
       have S_12 : Sep [] h0.size hp9 [ownO (kI .i64) 2 v6 x8, boxO bb2 [(.int .i64 x7.1), (.int .i64 x7.2)], ooW 71 2 v10 x15, ownO (kII .i64) 84 v1 x1.1, ooW 71 2 ooNil ([] : List (List (Int))), boxO bb1 [(.int .i64 a0_0), (.int .i64 a0_1), (.bool a0_2), u0_3, u0_4]] := S_12
       have ho3 : impl_MessagesOf.s2 x1 x3 x14 x15 x16 = some o3 := ho3
       unfold impl_MessagesOf.s2 at ho3
       refine W.sub hs5 ?_
       refine W.seq ?_
       refine W.region ?_
       refine RL.opD (by decide) (opv_icmp rfl rfl rfl rfl) ?_
       refine RL.nil ?_
       refine thnN ?_
       refine W.seq ?_
       by_cases c4 : (decide (x16 < (x1.1.length : Int))) = true
       ·rw [if_pos c4] at ho3
        refine W.condT rfl c4 ?_
        refine W.skip ?_
        refine thnN ?_
        refine W.seq ?_
        refine W.block ?_
        refine W.seq ?_
        refine W.region ?_
        refine RL.opD (by decide) (opv_move rfl rfl) ?_
        obtain ⟨x20, hx20, ho3⟩ := Option.bind_eq_some_iff.1 ho3
        refine RL.op _ (by decide) (opv_index rfl Try.underlying148 (by rw [Try.size84]; rfl) rfl rfl (ownO.read (Sep.at (o := ownO (kII .i64) 84 v1 x1.1) S_12 3 rfl)) hx20) ?_
        rintro v12 _ ⟨fv12, rfl⟩
        refine RL.opD (by decide) (opv_loadWhole (K := (kII .i64)) rfl Try.agg84 (by rw [Try.size84]; rfl) rfl fv12 (ownO.read (Sep.at (o := ownO (kII .i64) 84 v1 x1.1) S_12 3 rfl)) (idx_some hx20).2.2 kII_all) ?_
        refine RL.op _ (by decide) (opS_boxed (opv_alloc (cs := [(.int .i64 0), (.int .i64 0)]) rfl Try.zero84 rfl)) ?_
        rintro _ hp10 ⟨bb3, rfl, MT_7, T_7⟩
        obtain ⟨X_10, S_13⟩ := Sep.turn0 X_9 S_12 MT_7 T_7
        refine RL.opD (by decide) (opv_assign rfl rfl) ?_
        refine RL.op0 _ (opS_stored (cs := [(.int .i64 0), (.int .i64 0)]) (cs' := [(.int .i64 x20.1), (.int .i64 x20.2)]) (opv_storeA (us := [(.int .i64 x20.1), (.int .i64 x20.2)]) rfl Try.size84 rfl rfl (oneAll rfl (oneAll rfl rfl)) (Sep.at (o := boxO bb3 [(.int .i64 0), (.int .i64 0)]) S_13 0 rfl) rfl rfl) (Sep.at (o := boxO bb3 [(.int .i64 0), (.int .i64 0)]) S_13 0 rfl)) ?_
        rintro _ hp11 ⟨rfl, MT_8, T_8⟩
        have S_14 : Sep [] h0.size hp10 ([boxO bb3 [(.int .i64 0), (.int .i64 0)]] ++ [ownO (kI .i64) 2 v6 x8, boxO bb2 [(.int .i64 x7.1), (.int .i64 x7.2)], ooW 71 2 v10 x15, ownO (kII .i64) 84 v1 x1.1, ooW 71 2 ooNil ([] : List (List (Int))), boxO bb1 [(.int .i64 a0_0), (.int .i64 a0_1), (.bool a0_2), u0_3, u0_4]]) := Sep.sel S_13 [0, 1, 2, 3, 4, 5, 6] (by decide)
        obtain ⟨X_11, S_15⟩ := Sep.turn X_10 S_14 MT_8 T_8
        refine RL.nil ?_
        refine thnN ?_
        refine W.seq ?_
        obtain ⟨x21, hy4, ho3⟩ := Option.bind_eq_some_iff.1 ho3
        refine W.cut (fun φ' h' => Fr.sub [(0, (.agg (List.toArray (α := Value) [(.int .i64 a0_0), (.int .i64 a0_1), (.bool a0_2), u0_3, u0_4]))), (1, (.int .i64 a1)), (2, (.pointer (some ⟨bb1, 0, none⟩))), (4, (.slice none 0 0)), (5, (.bool false)), (6, v1), (7, (.bool x1.2)), (22, (.bool (!x1.2))), (24, v1), (25, (.int .i64 (x1.1.length : Int))), (26, (.int .i64 x3)), (27, (.bool (decide (x3 < (x1.1.length : Int))))), (10, (.pointer (some ⟨bb2, 0, none⟩))), (9, (.int .i64 x3)), (33, v6), (34, (.int .i64 (x8.length : Int))), (35, (.int .i64 x10)), (36, (.bool (decide (x10 < (x8.length : Int))))), (12, (.int .i64 x14)), (39, v1), (40, (.int .i64 (x1.1.length : Int))), (8, (ooV v10)), (41, (.int .i64 x16)), (42, (.bool (decide (x16 < (x1.1.length : Int))))), (14, (.pointer (some ⟨bb3, 0, none⟩))), (13, (.int .i64 x16)), (60, (.bool x21))] φ' ∧ hp11 = h') ?_ ?_
        ·refine W.region ?_
         refine RL.opD (by decide) (opv_move rfl rfl) ?_
         refine RL.opD (by decide) (opv_move rfl rfl) ?_
         refine RL.opD (by decide) (opv_icmp rfl rfl rfl rfl) ?_
         refine RL.opD (by decide) (opv_move rfl rfl) ?_
         by_cases c5 : (x16 != x3) = true
         ·rw [if_pos c5] at hy4
          refine RL.yesD rfl rfl c5 (by decide) (opv_move rfl rfl) ?_
          refine RL.yesD rfl rfl c5 (by decide) (opv_fieldAddr rfl Try.fo84_0 rfl) ?_
          refine RL.yesD rfl rfl c5 (by decide) (opv_loadB rfl Try.one2 rfl (Sep.at (o := boxO bb3 [(.int .i64 x20.1), (.int .i64 x20.2)]) S_15 0 rfl) rfl) ?_
          refine RL.yesD rfl rfl c5 (by decide) (opv_fieldAddr rfl Try.fo84_0 rfl) ?_
          refine RL.yesD rfl rfl c5 (by decide) (opv_loadB rfl Try.one2 rfl (Sep.at (o := boxO bb3 [(.int .i64 x20.1), (.int .i64 x20.2)]) S_15 0 rfl) rfl) ?_
          refine RL.yesD rfl rfl c5 (by decide) (opv_fieldAddr rfl Try.fo84_1 rfl) ?_
          refine RL.yesD rfl rfl c5 (by decide) (opv_loadB rfl Try.one2 rfl (Sep.at (o := boxO bb3 [(.int .i64 x20.1), (.int .i64 x20.2)]) S_15 0 rfl) rfl) ?_
          refine RL.yesD rfl rfl c5 (by decide) (opv_add rfl rfl rfl) ?_
          refine RL.yesD rfl rfl c5 (by decide) (opv_sub rfl rfl rfl) ?_
          obtain ⟨x22, hx22, hy4⟩ := Option.bind_eq_some_iff.1 hy4
          refine RL.yes _ rfl rfl c5 (by decide) (opv_call (cap := []) (impl_within_ok _ _ _ _ _ hx22) rfl rfl ⟨rfl, rfl, rfl, trivial⟩ Try.func71 rfl rfl) ?_
          rintro _ _ ⟨rfl, rfl⟩
          refine RL.opD (by decide) (opv_pick rfl rfl (fun _ => rfl) (fun e => absurd (Eq.trans (Eq.symm e) c5) (by decide)) rfl) ?_
          refine RL.nil ?_
          have ey4 := Option.some.inj hy4
          subst ey4
          refine onlyN ?_
          exact ⟨⟨rfl, rfl, rfl, rfl, rfl, rfl, rfl, rfl, rfl, rfl, rfl, rfl, rfl, rfl, rfl, rfl, rfl, rfl, rfl, rfl, rfl, rfl, rfl, rfl, rfl, rfl, rfl, trivial⟩, rfl⟩
         ·rw [if_neg c5] at hy4
          have c5 := eq_false_of_ne_true c5
          refine RL.noF rfl rfl c5 (by decide) ?_
          refine RL.noF rfl rfl c5 (by decide) ?_
          refine RL.noF rfl rfl c5 (by decide) ?_
          refine RL.noF rfl rfl c5 (by decide) ?_
          refine RL.noF rfl rfl c5 (by decide) ?_
          refine RL.noF rfl rfl c5 (by decide) ?_
          refine RL.noF rfl rfl c5 (by decide) ?_
          refine RL.noF rfl rfl c5 (by decide) ?_
          refine RL.noF rfl rfl c5 (by decide) ?_
          refine RL.noF rfl rfl c5 (by decide) ?_
          refine RL.opD (by decide) (opv_pick rfl rfl (fun e => absurd (Eq.trans (Eq.symm e) c5) (by decide)) (fun _ => rfl) rfl) ?_
          refine RL.nil ?_
          have ey4 := Option.some.inj hy4
          subst ey4
          refine onlyN ?_
          exact ⟨⟨rfl, rfl, rfl, rfl, rfl, rfl, rfl, rfl, rfl, rfl, rfl, rfl, rfl, rfl, rfl, rfl, rfl, rfl, rfl, rfl, rfl, rfl, rfl, rfl, rfl, rfl, rfl, trivial⟩, rfl⟩
        rintro φ' _ ⟨hs7, rfl⟩
        refine thnN ?_
        refine W.sub hs7 ?_
        obtain ⟨x23, hy5, ho3⟩ := Option.bind_eq_some_iff.1 ho3
        refine W.cut (fun φ' h' => ∃ v13, Fr.sub [(0, (.agg (List.toArray (α := Value) [(.int .i64 a0_0), (.int .i64 a0_1), (.bool a0_2), u0_3, u0_4]))), (1, (.int .i64 a1)), (2, (.pointer (some ⟨bb1, 0, none⟩))), (4, (.slice none 0 0)), (5, (.bool false)), (6, v1), (7, (.bool x1.2)), (22, (.bool (!x1.2))), (24, v1), (25, (.int .i64 (x1.1.length : Int))), (26, (.int .i64 x3)), (27, (.bool (decide (x3 < (x1.1.length : Int))))), (10, (.pointer (some ⟨bb2, 0, none⟩))), (9, (.int .i64 x3)), (33, v6), (34, (.int .i64 (x8.length : Int))), (35, (.int .i64 x10)), (36, (.bool (decide (x10 < (x8.length : Int))))), (12, (.int .i64 x14)), (39, v1), (40, (.int .i64 (x1.1.length : Int))), (41, (.int .i64 x16)), (42, (.bool (decide (x16 < (x1.1.length : Int))))), (14, (.pointer (some ⟨bb3, 0, none⟩))), (13, (.int .i64 x16)), (60, (.bool x21)), (8, (ooV v13))] φ' ∧ Mod [] h0 h' ∧ Sep [] h0.size h' [boxO bb3 [(.int .i64 x20.1), (.int .i64 x20.2)], ownO (kI .i64) 2 v6 x8, boxO bb2 [(.int .i64 x7.1), (.int .i64 x7.2)], ownO (kII .i64) 84 v1 x1.1, ooW 71 2 ooNil ([] : List (List (Int))), boxO bb1 [(.int .i64 a0_0), (.int .i64 a0_1), (.bool a0_2), u0_3, u0_4], ooW 71 2 v13 x23]) ?_ ?_
        ·by_cases c6 : x21 = true
         ·rw [if_pos c6] at hy5
          refine W.condT rfl c6 ?_
          refine W.region ?_
          refine RL.opD (by decide) (opv_move rfl rfl) ?_
          refine RL.opD (by decide) (opv_move rfl rfl) ?_
          refine RL.opD (by decide) (opv_move rfl rfl) ?_
          refine RL.opD (by decide) (opv_move rfl rfl) ?_
          refine RL.op _ (by decide) (opS_litN (K := (kI .i64)) (us := [(.int .i64 x16), (.int .i64 x3), (.int .i64 x14)]) (zs := [x16, x3, x14]) [(0, [(.int .i64 x16)]), (1, [(.int .i64 x3)]), (2, [(.int .i64 x14)])] [(0, (.int .i64 x16)), (1, (.int .i64 x3)), (2, (.int .i64 x14))] rfl Try.underlying71 Try.einfo2 rfl rfl ⟨⟨rfl, rfl, rfl, rfl⟩, ⟨rfl, rfl, rfl, rfl⟩, ⟨rfl, rfl, rfl, rfl⟩, trivial⟩ rfl rfl (RelL.ints (k := .i64) _) rfl rfl) ?_
          rintro v14 hp12 ⟨MT_9, T_9⟩
          obtain ⟨X_12, S_16⟩ := Sep.turn0 X_11 S_15 MT_9 T_9
          refine RL.op _ (by decide) (opS_litOO1 (B := []) (m := 0) (L := []) rfl Try.underlying94 Try.einfo71 rfl rfl rfl (Sep.at (o := ownO (kI .i64) 2 v14 [x16, x3, x14]) S_16 0 rfl)) ?_
          rintro v15 hp13 ⟨MT_10, T_10⟩
          have S_17 : Sep [] h0.size hp12 ([ownO (kI .i64) 2 v14 [x16, x3, x14]] ++ [boxO bb3 [(.int .i64 x20.1), (.int .i64 x20.2)], ownO (kI .i64) 2 v6 x8, boxO bb2 [(.int .i64 x7.1), (.int .i64 x7.2)], ooW 71 2 v10 x15, ownO (kII .i64) 84 v1 x1.1, ooW 71 2 ooNil ([] : List (List (Int))), boxO bb1 [(.int .i64 a0_0), (.int .i64 a0_1), (.bool a0_2), u0_3, u0_4]]) := Sep.sel S_16 [0, 1, 2, 3, 4, 5, 6, 7] (by decide)
          obtain ⟨X_13, S_18⟩ := Sep.turn X_12 S_17 MT_10 T_10
          obtain ⟨c7, hy5⟩ := of_ite hy5
          have S_19 : Sep [] h0.size hp13 [ooW 71 2 v10 x15, ooW 71 2 (OO.mk v15 [v14]) [[x16, x3, x14]], boxO bb3 [(.int .i64 x20.1), (.int .i64 x20.2)], ownO (kI .i64) 2 v6 x8, boxO bb2 [(.int .i64 x7.1), (.int .i64 x7.2)], ownO (kII .i64) 84 v1 x1.1, ooW 71 2 ooNil ([] : List (List (Int))), boxO bb1 [(.int .i64 a0_0), (.int .i64 a0_1), (.bool a0_2), u0_3, u0_4]] := Sep.sel S_18 [4, 0, 1, 2, 3, 5, 6, 7] (by decide)
          refine RL.op _ (by decide) (opS_appendOO rfl Try.underlying94 Try.einfo71 rfl rfl rfl rfl S_19 (by decide) (by decide) c7) ?_
          rintro v16 hp14 ⟨MT_11, T_11⟩
          have S_20 : Sep [] h0.size hp13 ([ooW 71 2 v10 x15, ooW 71 2 (OO.mk v15 [v14]) [[x16, x3, x14]]] ++ [boxO bb3 [(.int .i64 x20.1), (.int .i64 x20.2)], ownO (kI .i64) 2 v6 x8, boxO bb2 [(.int .i64 x7.1), (.int .i64 x7.2)], ownO (kII .i64) 84 v1 x1.1, ooW 71 2 ooNil ([] : List (List (Int))), boxO bb1 [(.int .i64 a0_0), (.int .i64 a0_1), (.bool a0_2), u0_3, u0_4]]) := Sep.sel S_18 [4, 0, 1, 2, 3, 5, 6, 7] (by decide)
          obtain ⟨X_14, S_21⟩ := Sep.turn X_13 S_20 MT_11 T_11
          refine RL.opD (by decide) (opv_assign rfl rfl) ?_
          refine RL.nil ?_
          have ey5 := Option.some.inj hy5
          subst ey5
          refine onlyN ?_
          exact ⟨(OO.mk v16 (OO.vs v10 ++ OO.vs (OO.mk v15 [v14]))), ⟨rfl, rfl, rfl, rfl, rfl, rfl, rfl, rfl, rfl, rfl, rfl, rfl, rfl, rfl, rfl, rfl, rfl, rfl, rfl, rfl, rfl, rfl, rfl, rfl, rfl, rfl, rfl, trivial⟩, X_14, (Sep.sel S_21 [1, 2, 3, 4, 5, 6, 0] (by decide))⟩
         ·rw [if_neg c6] at hy5
          have c6 := eq_false_of_ne_true c6
          refine W.condF rfl c6 ?_
          refine W.skip ?_
          have ey5 := Option.some.inj hy5
          subst ey5
          refine onlyN ?_
          exact ⟨v10, ⟨rfl, rfl, rfl, rfl, rfl, rfl, rfl, rfl, rfl, rfl, rfl, rfl, rfl, rfl, rfl, rfl, rfl, rfl, rfl, rfl, rfl, rfl, rfl, rfl, rfl, rfl, rfl, trivial⟩, X_11, (Sep.sel S_15 [0, 1, 2, 4, 5, 6, 3] (by decide))⟩
        rintro φ' hp15 ⟨v13, hs8, X_15, S_22⟩
        refine blkN ?_
        refine thnN ?_
        refine W.sub hs8 ?_
        refine W.region ?_
        refine RL.opD (by decide) (opv_add rfl rfl rfl) ?_
        refine RL.opD (by decide) (opv_move rfl rfl) ?_
        refine RL.nil ?_
        have eo3 := Option.some.inj ho3
        subst eo3
        refine rndN (s' := (x23, IntKind.wrap .i64 (x16 + 1))) rfl ?_
        exact ⟨v13, ⟨rfl, rfl, rfl, rfl, rfl, rfl, rfl, rfl, rfl, rfl, rfl, rfl, rfl, rfl, rfl, rfl, rfl, rfl, rfl, rfl, rfl, rfl, rfl, trivial⟩, X_15, (Sep.sel S_22 [1, 2, 6, 3, 4, 5] (by decide))⟩
       ·rw [if_neg c4] at ho3
        have c4 := eq_false_of_ne_true c4
        refine W.condF rfl c4 ?_
        refine W.exit ?_
        refine thnX ?_
        refine rndX ?_
        refine blkI ?_
        have eo3 := Option.some.inj ho3
        subst eo3
        have ey3 := hy3 _ rfl
        subst ey3
        refine onlyN ?_
        exact ⟨x16, decide (x16 < (x1.1.length : Int)), x15, v10, rfl, ⟨rfl, rfl, rfl, rfl, rfl, rfl, rfl, rfl, rfl, rfl, rfl, rfl, rfl, rfl, rfl, rfl, rfl, rfl, rfl, rfl, rfl, rfl, rfl, rfl, trivial⟩, X_9, (Sep.sel S_12 [0, 1, 3, 4, 5, 2] (by decide))⟩
      rintro φ' hp16 ⟨x17, x18, x19, v11, rfl, hs6, X_16, S_23⟩
      try dsimp only at ho2
      refine blkN ?_
      refine thnN ?_
      refine W.sub hs6 ?_
      refine W.region ?_
      refine RL.opD (by decide) (opv_add rfl rfl rfl) ?_
      refine RL.opD (by decide) (opv_move rfl rfl) ?_
      refine RL.nil ?_
      have eo2 := Option.some.inj ho2
      subst eo2
      refine rndN (s' := (x19, IntKind.wrap .i64 (x10 + 1))) rfl ?_
      exact ⟨v11, ⟨rfl, rfl, rfl, rfl, rfl, rfl, rfl, rfl, rfl, rfl, rfl, rfl, rfl, rfl, rfl, rfl, rfl, rfl, trivial⟩, X_16, (Sep.sel S_23 [0, 1, 5, 2, 3, 4] (by decide))⟩
     ·rw [if_neg c3] at ho2
      have c3 := eq_false_of_ne_true c3
      refine W.condF rfl c3 ?_
      refine W.exit ?_
      refine thnX ?_
      refine rndX ?_
      refine blkI ?_
      have eo2 := Option.some.inj ho2
      subst eo2
      have ey2 := hy2 _ rfl
      subst ey2
      refine onlyN ?_
      exact ⟨x10, decide (x10 < (x8.length : Int)), x9, v7, rfl, ⟨rfl, rfl, rfl, rfl, rfl, rfl, rfl, rfl, rfl, rfl, rfl, rfl, rfl, rfl, rfl, rfl, rfl, rfl, rfl, trivial⟩, X_8, (Sep.sel S_11 [0, 1, 3, 4, 5, 2] (by decide))⟩
    rintro φ' hp17 ⟨x11, x12, x13, v8, rfl, hs4, X_17, S_24⟩
    try dsimp only at ho1
    refine blkN ?_
    refine thnN ?_
    refine W.sub hs4 ?_
    refine W.region ?_
    refine RL.opD (by decide) (opv_add rfl rfl rfl) ?_
    refine RL.opD (by decide) (opv_move rfl rfl) ?_
    refine RL.nil ?_
    have eo1 := Option.some.inj ho1
    subst eo1
    refine rndN (s' := (x13, IntKind.wrap .i64 (x3 + 1))) rfl ?_
    exact ⟨v8, ⟨rfl, rfl, rfl, rfl, rfl, rfl, rfl, rfl, rfl, rfl, rfl, rfl, trivial⟩, X_17, (Sep.sel S_24 [5, 2, 3, 4] (by decide))⟩
   ·rw [if_neg c2] at ho1
    have c2 := eq_false_of_ne_true c2
    refine W.condF rfl c2 ?_
    refine W.exit ?_
    refine thnX ?_
    refine rndX ?_
    refine blkI ?_
    have eo1 := Option.some.inj ho1
    subst eo1
    have ey1 := hy1 _ rfl
    subst ey1
    refine onlyN ?_
    exact ⟨x3, decide (x3 < (x1.1.length : Int)), x2, v3, rfl, ⟨rfl, rfl, rfl, rfl, rfl, rfl, rfl, rfl, rfl, rfl, rfl, rfl, rfl, trivial⟩, X_4, (Sep.sel S_6 [1, 2, 3, 0] (by decide))⟩
  rintro φ' hp18 ⟨x4, x5, x6, v4, rfl, hs2, X_18, S_25⟩
  try dsimp only at hp
  refine thnN ?_
  refine W.sub hs2 ?_
  refine W.seq ?_
  refine W.region ?_
  refine RL.opD (by decide) (opv_move rfl rfl) ?_
  obtain ⟨x24, hx24, hp⟩ := Option.bind_eq_some_iff.1 hp
  have S_27 : Sep [] h0.size hp18 [ooW 71 2 v4 x6] := Sep.sel S_25 [3] (by decide)
  have S_26 : Sep (List.flatMap (fun o : Thing => o.blks) [ooW 71 2 v4 x6]) hp18.size hp18 [ooW 71 2 v4 x6] := Sep.own S_27 _
  refine RL.op _ (by decide) (opv_call (cap := []) (slices_SortFunc_LL_ok _ v4 _ S_26 _ hx24) rfl rfl ⟨rfl, rfl, trivial⟩ Try.func130 rfl rfl) ?_
  rintro _ hp19 ⟨v17, rfl, MT_12, T_12⟩
  have S_28 : Sep [] h0.size hp18 ([ooW 71 2 v4 x6] ++ [ownO (kII .i64) 84 v1 x1.1, ooW 71 2 ooNil ([] : List (List (Int))), boxO bb1 [(.int .i64 a0_0), (.int .i64 a0_1), (.bool a0_2), u0_3, u0_4]]) := Sep.sel S_25 [3, 0, 1, 2] (by decide)
  obtain ⟨X_19, S_29⟩ := Sep.turn X_18 S_28 MT_12 T_12
  refine RL.nil ?_
  refine thnN ?_
  refine W.seq ?_
  refine W.region ?_
  refine RL.opD (by decide) (opv_move rfl rfl) ?_
  refine RL.opD (by decide) (opv_assign rfl rfl) ?_
  refine RL.opD (by decide) (opv_assign rfl rfl) ?_
  refine RL.nil ?_
  refine thnN ?_
  refine W.ret ?_
  have er := Option.some.inj hp
  subst er
  exact Rt.two rfl rfl rfl ⟨(OO.mk (ooV v4) v17), rfl, X_19, (Sep.sel S_29 [0] (by decide))⟩

set_option maxRecDepth 20000 in
theorem laws_eqInt64SS_ok (h0 : Heap) (u0 : Value) (us0 : List Value) (a0 : List (List (Int))) (g0 : SLL h0.size h0 u0 us0 a0) (u1 : Value) (us1 : List Value) (a1 : List (List (Int))) (g1 : SLL h0.size h0 u1 us1 a1) (r : Bool) (hp : laws_eqInt64SS a0 a1 = some r) : CallsH Try.prog 65 ([u0, u1].toArray ++ [].toArray) h0 (fun v h' => v = (.bool r) ∧ h0 = h') := by
 unfold laws_eqInt64SS at hp
 refine callsH_of_W (l := [u0, u1]) (cap := []) 27 Try.func65 rfl rfl rfl ?_
 refine W.seq ?_
 refine W.region ?_
 refine RL.opD (by decide) (opv_assign rfl rfl) ?_
 refine RL.nil ?_
 refine thnN ?_
 refine W.seq ?_
 refine W.seq ?_
 refine W.region ?_
 refine RL.opD (by decide) (opv_move rfl rfl) ?_
 refine RL.opD (by decide) (opv_lenOO rfl Try.underlying94 rfl g0) ?_
 refine RL.opD (by decide) (opv_move rfl rfl) ?_
 refine RL.opD (by decide) (opv_lenOO rfl Try.underlying94 rfl g1) ?_
 refine RL.opD (by decide) (opv_icmp rfl rfl rfl rfl) ?_
 refine RL.nil ?_
 refine thnN ?_
 by_cases c1 : ((a0.length : Int) != (a1.length : Int)) = true
 ·rw [if_pos c1] at hp
  refine W.condT rfl c1 ?_
  refine W.seq ?_
  refine W.region ?_
  refine RL.opD (by decide) (opv_assign rfl rfl) ?_
  refine RL.nil ?_
  refine thnN ?_
  refine W.ret ?_
  refine thnR ?_
  have er := Option.some.inj hp
  subst er
  exact Rt.one rfl rfl ⟨rfl, rfl⟩
 ·rw [if_neg c1] at hp
  have c1 := eq_false_of_ne_true c1
  refine W.condF rfl c1 ?_
  refine W.skip ?_
  refine thnN ?_
  refine W.seq ?_
  refine W.seq ?_
  refine W.region ?_
  refine RL.opD (by decide) (opv_assign rfl rfl) ?_
  refine RL.nil ?_
  refine thnN ?_
  obtain ⟨y1, hy1, hp⟩ := Option.bind_eq_some_iff.1 hp
  refine W.cut (fun φ' h' => ∃ x3, ∃ x4, ∃ x5, y1 = .inl (x3, x4, x5) ∧ Fr.sub [(0, u0), (1, u1), (10, (.bool ((a0.length : Int) != (a1.length : Int)))), (4, (.bool x3)), (5, (.int .i64 x4)), (14, (.bool x5))] φ' ∧ h0 = h') ?_ ?_
  ·refine W.block ?_
   refine W.loopS (fun (s : (Bool × Int)) φ' h' => Fr.sub [(0, u0), (1, u1), (10, (.bool ((a0.length : Int) != (a1.length : Int)))), (4, (.bool s.1)), (5, (.int .i64 s.2))] φ' ∧ h0 = h') hy1 ⟨⟨rfl, rfl, rfl, rfl, rfl, trivial⟩, rfl⟩ ?_
   rintro ⟨x1, x2⟩ φ' _ o1 ⟨hs1, rfl⟩ ho1 hy1
   have hs1 : Fr.sub [(0, u0), (1, u1), (10, (.bool ((a0.length : Int) != (a1.length : Int)))), (4, (.bool x1)), (5, (.int .i64 x2))] φ' := hs1
   have ho1 : laws_eqInt64SS.s0 a0 a1 x1 x2 = some o1 := ho1
   unfold laws_eqInt64SS.s0 at ho1
   refine W.sub hs1 ?_
   refine W.seq ?_
   refine W.seq ?_
   refine W.region ?_
   refine RL.opD (by decide) (opv_move rfl rfl) ?_
   refine RL.opD (by decide) (opv_move rfl rfl) ?_
   refine RL.opD (by decide) (opv_lenOO rfl Try.underlying94 rfl g0) ?_
   refine RL.opD (by decide) (opv_icmp rfl rfl rfl rfl) ?_
   refine RL.nil ?_
   refine thnN ?_
   by_cases c2 : (decide (x2 < (a0.length : Int))) = true
   ·rw [if_pos c2] at ho1
    refine W.condT rfl c2 ?_
    refine W.skip ?_
    refine thnN ?_
    refine W.seq ?_
    refine W.block ?_
    refine W.seq ?_
    refine W.regionH 10 rfl Try.mixed ?_
    refine HK.d 0 rfl rfl rfl (by decide) (by decide +kernel) (fun _ _ _ h => h) (opx_move rfl rfl) ?_
    refine HK.d 1 rfl rfl rfl (by decide) (by decide +kernel) (fun _ _ _ h => h) (opx_move rfl rfl) ?_
    obtain ⟨x6, hx6, ho1⟩ := Option.bind_eq_some_iff.1 ho1
    refine HK.f 2 rfl rfl rfl (by decide) (by decide +kernel) (fun _ _ _ h => h) (opx_indexOO rfl Try.underlying94 (by rw [Try.size71]; rfl) rfl rfl g0 hx6) ?_
    intro v1 fv1
    refine HK.f 3 rfl rfl rfl (by decide) (by decide +kernel) (fun _ _ _ h => h) (opx_loadOO rfl Try.one71 rfl fv1 g0 hx6) ?_
    intro v2 fv2
    refine HK.d 4 rfl rfl rfl (by decide) (by decide +kernel) (fun _ _ _ h => h) (opx_move rfl rfl) ?_
    refine HK.d 5 rfl rfl rfl (by decide) (by decide +kernel) (fun _ _ _ h => h) (opx_move rfl rfl) ?_
    obtain ⟨x7, hx7, ho1⟩ := Option.bind_eq_some_iff.1 ho1
    refine HK.f 6 rfl rfl rfl (by decide) (by decide +kernel) (fun _ _ _ h => h) (opx_indexOO rfl Try.underlying94 (by rw [Try.size71]; rfl) rfl rfl g1 hx7) ?_
    intro v3 fv3
    refine HK.f 7 rfl rfl rfl (by decide) (by decide +kernel) (fun _ _ _ h => h) (opx_loadOO rfl Try.one71 rfl fv3 g1 hx7) ?_
    intro v4 fv4
    obtain ⟨x8, hx8, ho1⟩ := Option.bind_eq_some_iff.1 ho1
    refine HK.s 8 _ rfl rfl rfl (by decide) (by decide +kernel) (opv_call (cap := []) (laws_eqInt64S_ok _ _ _ fv2.1 _ _ fv4.1 _ hx8) rfl rfl ⟨rfl, rfl, trivial⟩ Try.func54 rfl rfl) ?_
    rintro _ _ ⟨rfl, rfl⟩
    refine ⟨rfl, ?_⟩
    refine HK.d 9 rfl rfl rfl (by decide) (by decide +kernel) (fun _ _ _ h => h) (opx_not rfl rfl) ?_
    refine HK.done (by decide +kernel) ?_
    refine thnN ?_
    by_cases c3 : (!x8) = true
    ·rw [if_pos c3] at ho1
     refine W.condT rfl c3 ?_
     refine W.seq ?_
     refine W.region ?_
     refine RL.opD (by decide) (opv_assign rfl rfl) ?_
     refine RL.nil ?_
     refine thnN ?_
     refine W.ret ?_
     refine blkR ?_
     refine thnR ?_
     have eo1 := Option.some.inj ho1
     subst eo1
     have ey1 := hy1 _ rfl
     subst ey1
     try dsimp only at hp
     refine rndR ?_
     refine blkR ?_
     refine onlyR ?_
     refine thnR ?_
     have er := Option.some.inj hp
     subst er
     exact Rt.one rfl rfl ⟨rfl, rfl⟩
    ·rw [if_neg c3] at ho1
     have c3 := eq_false_of_ne_true c3
     refine W.condF rfl c3 ?_
     refine W.skip ?_
     refine blkN ?_
     refine thnN ?_
     refine W.region ?_
     refine RL.opD (by decide) (opv_move rfl rfl) ?_
     refine RL.opD (by decide) (opv_add rfl rfl rfl) ?_
     refine RL.opD (by decide) (opv_assign rfl rfl) ?_
     refine RL.nil ?_
     have eo1 := Option.some.inj ho1
     subst eo1
     refine rndN (s' := (x1, IntKind.wrap .i64 (x2 + 1))) rfl ?_
     exact ⟨⟨rfl, rfl, rfl, rfl, rfl, trivial⟩, rfl⟩
   ·rw [if_neg c2] at ho1
    have c2 := eq_false_of_ne_true c2
    refine W.condF rfl c2 ?_
    refine W.exit ?_
    refine thnX ?_
    refine rndX ?_
    refine blkI ?_
    have eo1 := Option.some.inj ho1
    subst eo1
    have ey1 := hy1 _ rfl
    subst ey1
    refine onlyN ?_
    exact ⟨x1, x2, decide (x2 < (a0.length : Int)), rfl, ⟨rfl, rfl, rfl, rfl, rfl, rfl, trivial⟩, rfl⟩
  rintro φ' _ ⟨x3, x4, x5, rfl, hs2, rfl⟩
  try dsimp only at hp
  refine thnN ?_
  refine W.sub hs2 ?_
  refine W.seq ?_
  refine W.region ?_
  refine RL.opD (by decide) (opv_assign rfl rfl) ?_
  refine RL.nil ?_
  refine thnN ?_
  refine W.ret ?_
  have er := Option.some.inj hp
  subst er
  exact Rt.one rfl rfl ⟨rfl, rfl⟩

set_option maxRecDepth 20000 in
theorem laws_markInt64SS_ok (h0 : Heap) (lo : Nat) (hlo : lo ≤ h0.size) (u0 : OO) (a0 : List (List (Int))) (a1 : Int) (S0 : Sep (List.flatMap (fun o : Thing => o.blks) [ooW 71 2 u0 a0]) h0.size h0 [ooW 71 2 u0 a0]) (hB : ∀ b, some b ∈ (List.flatMap (fun o : Thing => o.blks) [ooW 71 2 u0 a0]) → lo ≤ b) (r : (Int × (List (List (Int))))) (hp : laws_markInt64SS a0 a1 = some r) : CallsH Try.prog 66 ([(ooV u0), (.int .i64 a1)].toArray ++ [].toArray) h0 (fun v h' => v = (.int .i64 r.1) ∧ Mod (List.flatMap (fun o : Thing => o.blks) [ooW 71 2 u0 a0]) h0 h' ∧ Sep (List.flatMap (fun o : Thing => o.blks) [ooW 71 2 u0 a0]) h0.size h' [ooW 71 2 u0 r.2]) := by
 unfold laws_markInt64SS at hp
 refine callsH_of_W (l := [(ooV u0), (.int .i64 a1)]) (cap := []) 19 Try.func66 rfl rfl rfl ?_
 refine W.seq ?_
 refine W.region ?_
 refine RL.opD (by decide) (opv_assign rfl rfl) ?_
 refine RL.nil ?_
 refine thnN ?_
 refine W.seq ?_
 refine W.seq ?_
 refine W.region ?_
 refine RL.opD (by decide) (opv_assign rfl rfl) ?_
 refine RL.nil ?_
 refine thnN ?_
 obtain ⟨y1, hy1, hp⟩ := Option.bind_eq_some_iff.1 hp
 refine W.cut (fun φ' h' => ∃ x4, ∃ x5, ∃ x6, ∃ x7, y1 = (x4, x5, x6, x7) ∧ Fr.sub [(0, (ooV u0)), (4, (.int .i64 0)), (1, (.int .i64 x4)), (5, (.int .i64 x5)), (9, (.bool x6))] φ' ∧ Mod (List.flatMap (fun o : Thing => o.blks) [ooW 71 2 u0 a0]) h0 h' ∧ Sep (List.flatMap (fun o : Thing => o.blks) [ooW 71 2 u0 a0]) h0.size h' [ooW 71 2 u0 x7]) ?_ ?_
 ·refine W.block ?_
  refine W.loopS (fun (s : (Int × Int × (List (List (Int))))) φ' h' => Fr.sub [(0, (ooV u0)), (4, (.int .i64 0)), (1, (.int .i64 s.1)), (5, (.int .i64 s.2.1))] φ' ∧ Mod (List.flatMap (fun o : Thing => o.blks) [ooW 71 2 u0 a0]) h0 h' ∧ Sep (List.flatMap (fun o : Thing => o.blks) [ooW 71 2 u0 a0]) h0.size h' [ooW 71 2 u0 s.2.2]) hy1 ⟨⟨rfl, rfl, rfl, rfl, trivial⟩, (Mod.refl (List.flatMap (fun o : Thing => o.blks) [ooW 71 2 u0 a0]) h0), (Sep.sel S0 [0] (by decide))⟩ ?_
  rintro ⟨x1, x2, x3⟩ φ' hp1 o1 ⟨hs1, X_1, S_1⟩ ho1 hy1
  have hs1 : Fr.sub [(0, (ooV u0)), (4, (.int .i64 0)), (1, (.int .i64 x1)), (5, (.int .i64 x2))] φ' := hs1
  have S_1 : Sep (List.flatMap (fun o : Thing => o.blks) [ooW 71 2 u0 a0]) h0.size hp1 [ooW 71 2 u0 x3] := S_1
  have ho1 : laws_markInt64SS.s0 x1 x2 x3 = some o1 := ho1
  unfold laws_markInt64SS.s0 at ho1
  refine W.sub hs1 ?_
  refine W.seq ?_
  refine W.seq ?_
  refine W.region ?_
  refine RL.opD (by decide) (opv_move rfl rfl) ?_
  refine RL.opD (by decide) (opv_move rfl rfl) ?_
  refine RL.opD (by decide) (opv_lenOO rfl Try.underlying94 rfl (ooO.read (Sep.at (o := ooW 71 2 u0 x3) S_1 0 rfl))) ?_
  refine RL.opD (by decide) (opv_icmp rfl rfl rfl rfl) ?_
  refine RL.nil ?_
  refine thnN ?_
  by_cases c1 : (decide (x2 < (x3.length : Int))) = true
  ·rw [if_pos c1] at ho1
   refine W.condT rfl c1 ?_
   refine W.skip ?_
   refine thnN ?_
   refine W.seq ?_
   refine W.block ?_
   refine W.region ?_
   refine RL.opD (by decide) (opv_move rfl rfl) ?_
   refine RL.opD (by decide) (opv_move rfl rfl) ?_
   obtain ⟨x8, hx8, ho1⟩ := Option.bind_eq_some_iff.1 ho1
   refine RL.op _ (by decide) (opv_indexOO rfl Try.underlying94 (by rw [Try.size71]; rfl) rfl rfl (ooO.read (Sep.at (o := ooW 71 2 u0 x3) S_1 0 rfl)) hx8) ?_
   rintro v1 _ ⟨fv1, rfl⟩
   refine RL.op _ (by decide) (opv_loadOO rfl Try.one71 rfl fv1 (ooO.read (Sep.at (o := ooW 71 2 u0 x3) S_1 0 rfl)) hx8) ?_
   rintro v2 _ ⟨fv2, rfl⟩
   refine RL.opD (by decide) (opv_move rfl rfl) ?_
   obtain ⟨x9, hx9, ho1⟩ := Option.bind_eq_some_iff.1 ho1
   have S_2 : Sep (List.flatMap (fun o : Thing => o.blks) [ooW 71 2 u0 a0]) h0.size hp1 [ooW 71 2 u0 x3] := Sep.sel S_1 [0] (by decide)
   have S_3 : Sep (List.flatMap (fun o : Thing => o.blks) [ooW 71 2 u0 a0]) h0.size hp1 [ownO (kI .i64) 2 v2 x8] := Sep.innerB S_2 fv2.2 (idx_some hx8).2.2
   have S_4 : Sep [v2.ownBlock] hp1.size hp1 [ownO (kI .i64) 2 v2 x8] := Sep.own S_3 _
   refine RL.op _ (by decide) (opv_call (cap := []) (laws_markInt64S_ok _ lo (Nat.le_trans hlo (Mod.size X_1)) _ _ _ S_4 (Sep.ge (L := [ownO (kI .i64) 2 v2 x8]) S_3 hlo hB) _ hx9) rfl rfl ⟨rfl, rfl, trivial⟩ Try.func57 rfl rfl) ?_
   rintro _ hp2 ⟨rfl, MT_1, T_1⟩
   obtain ⟨MT_1, T_1⟩ := Sep.innerTurn S_2 fv2.2 (idx_some hx8).2.2 MT_1 T_1
   have S_5 : Sep (List.flatMap (fun o : Thing => o.blks) [ooW 71 2 u0 a0]) h0.size hp1 ([ooW 71 2 u0 x3] ++ []) := Sep.sel S_1 [0] (by decide)
   obtain ⟨X_2, S_6⟩ := Sep.turn X_1 S_5 MT_1 T_1
   refine RL.opD (by decide) (opv_assign rfl rfl) ?_
   refine RL.nil ?_
   refine blkN ?_
   refine thnN ?_
   refine W.region ?_
   refine RL.opD (by decide) (opv_move rfl rfl) ?_
   refine RL.opD (by decide) (opv_add rfl rfl rfl) ?_
   refine RL.opD (by decide) (opv_assign rfl rfl) ?_
   refine RL.nil ?_
   have eo1 := Option.some.inj ho1
   subst eo1
   refine rndN (s' := (x9.1, IntKind.wrap .i64 (x2 + 1), (List.set x3 (Int.toNat x2) x9.2))) rfl ?_
   exact ⟨⟨rfl, rfl, rfl, rfl, trivial⟩, X_2, (Sep.sel S_6 [0] (by decide))⟩
  ·rw [if_neg c1] at ho1
   have c1 := eq_false_of_ne_true c1
   refine W.condF rfl c1 ?_
   refine W.exit ?_
   refine thnX ?_
   refine rndX ?_
   refine blkI ?_
   have eo1 := Option.some.inj ho1
   subst eo1
   have ey1 := hy1 _ rfl
   subst ey1
   refine onlyN ?_
   exact ⟨x1, x2, decide (x2 < (x3.length : Int)), x3, rfl, ⟨rfl, rfl, rfl, rfl, rfl, trivial⟩, X_1, (Sep.sel S_1 [0] (by decide))⟩
 rintro φ' hp3 ⟨x4, x5, x6, x7, rfl, hs2, X_3, S_7⟩
 try dsimp only at hp
 refine thnN ?_
 refine W.sub hs2 ?_
 refine W.seq ?_
 refine W.region ?_
 refine RL.opD (by decide) (opv_move rfl rfl) ?_
 refine RL.opD (by decide) (opv_assign rfl rfl) ?_
 refine RL.nil ?_
 refine thnN ?_
 refine W.ret ?_
 have er := Option.some.inj hp
 subst er
 exact Rt.one rfl rfl ⟨rfl, X_3, (Sep.sel S_7 [0] (by decide))⟩

set_option maxRecDepth 20000 in
theorem laws_heldInt64SS_ok (h0 : Heap) (u0 : Value) (us0 : List Value) (a0 : List (List (Int))) (g0 : SLL h0.size h0 u0 us0 a0) (a1 : Int) (r : Int) (hp : laws_heldInt64SS a0 a1 = some r) : CallsH Try.prog 67 ([u0, (.int .i64 a1)].toArray ++ [].toArray) h0 (fun v h' => v = (.int .i64 r) ∧ h0 = h') := by
 unfold laws_heldInt64SS at hp
 refine callsH_of_W (l := [u0, (.int .i64 a1)]) (cap := []) 21 Try.func67 rfl rfl rfl ?_
 refine W.seq ?_
 refine W.region ?_
 refine RL.opD (by decide) (opv_assign rfl rfl) ?_
 refine RL.nil ?_
 refine thnN ?_
 refine W.seq ?_
 refine W.seq ?_
 refine W.region ?_
 refine RL.opD (by decide) (opv_assign rfl rfl) ?_
 refine RL.nil ?_
 refine thnN ?_
 obtain ⟨y1, hy1, hp⟩ := Option.bind_eq_some_iff.1 hp
 refine W.cut (fun φ' h' => ∃ x4, ∃ x5, ∃ x6, ∃ x7, y1 = .inl (x4, x5, x6, x7) ∧ Fr.sub [(0, u0), (1, (.int .i64 x4)), (4, (.int .i64 x5)), (5, (.int .i64 x6)), (9, (.bool x7))] φ' ∧ h0 = h') ?_ ?_
 ·refine W.block ?_
  refine W.loopS (fun (s : (Int × Int × Int)) φ' h' => Fr.sub [(0, u0), (1, (.int .i64 s.1)), (4, (.int .i64 s.2.1)), (5, (.int .i64 s.2.2))] φ' ∧ h0 = h') hy1 ⟨⟨rfl, rfl, rfl, rfl, trivial⟩, rfl⟩ ?_
  rintro ⟨x1, x2, x3⟩ φ' _ o1 ⟨hs1, rfl⟩ ho1 hy1
  have hs1 : Fr.sub [(0, u0), (1, (.int .i64 x1)), (4, (.int .i64 x2)), (5, (.int .i64 x3))] φ' := hs1
  have ho1 : laws_heldInt64SS.s0 a0 x1 x2 x3 = some o1 := ho1
  unfold laws_heldInt64SS.s0 at ho1
  refine W.sub hs1 ?_
  refine W.seq ?_
  refine W.seq ?_
  refine W.region ?_
  refine RL.opD (by decide) (opv_move rfl rfl) ?_
  refine RL.opD (by decide) (opv_move rfl rfl) ?_
  refine RL.opD (by decide) (opv_lenOO rfl Try.underlying94 rfl g0) ?_
  refine RL.opD (by decide) (opv_icmp rfl rfl rfl rfl) ?_
  refine RL.nil ?_
  refine thnN ?_
  by_cases c1 : (decide (x3 < (a0.length : Int))) = true
  ·rw [if_pos c1] at ho1
   refine W.condT rfl c1 ?_
   refine W.skip ?_
   refine thnN ?_
   refine W.seq ?_
   refine W.block ?_
   refine W.seq ?_
   refine W.region ?_
   refine RL.opD (by decide) (opv_move rfl rfl) ?_
   refine RL.opD (by decide) (opv_move rfl rfl) ?_
   obtain ⟨x8, hx8, ho1⟩ := Option.bind_eq_some_iff.1 ho1
   refine RL.op _ (by decide) (opv_indexOO rfl Try.underlying94 (by rw [Try.size71]; rfl) rfl rfl g0 hx8) ?_
   rintro v1 _ ⟨fv1, rfl⟩
   refine RL.op _ (by decide) (opv_loadOO rfl Try.one71 rfl fv1 g0 hx8) ?_
   rintro v2 _ ⟨fv2, rfl⟩
   refine RL.opD (by decide) (opv_move rfl rfl) ?_
   obtain ⟨x9, hx9, ho1⟩ := Option.bind_eq_some_iff.1 ho1
   refine RL.op _ (by decide) (opv_call (cap := []) (laws_heldInt64S_ok _ _ _ fv2.1 _ _ hx9) rfl rfl ⟨rfl, rfl, trivial⟩ Try.func58 rfl rfl) ?_
   rintro _ _ ⟨rfl, rfl⟩
   refine RL.opD (by decide) (opv_assign rfl rfl) ?_
   refine RL.nil ?_
   refine thnN ?_
   refine W.seq ?_
   refine W.region ?_
   refine RL.opD (by decide) (opv_move rfl rfl) ?_
   refine RL.opD (by decide) (opv_icmp rfl rfl rfl rfl) ?_
   refine RL.nil ?_
   refine thnN ?_
   by_cases c2 : (decide (x9 < 0)) = true
   ·rw [if_pos c2] at ho1
    refine W.condT rfl c2 ?_
    refine W.seq ?_
    refine W.region ?_
    refine RL.opD (by decide) (opv_assign rfl rfl) ?_
    refine RL.nil ?_
    refine thnN ?_
    refine W.ret ?_
    refine blkR ?_
    refine thnR ?_
    have eo1 := Option.some.inj ho1
    subst eo1
    have ey1 := hy1 _ rfl
    subst ey1
    try dsimp only at hp
    refine rndR ?_
    refine blkR ?_
    refine onlyR ?_
    refine thnR ?_
    have er := Option.some.inj hp
    subst er
    exact Rt.one rfl rfl ⟨rfl, rfl⟩
   ·rw [if_neg c2] at ho1
    have c2 := eq_false_of_ne_true c2
    refine W.condF rfl c2 ?_
    refine W.skip ?_
    refine blkN ?_
    refine thnN ?_
    refine W.region ?_
    refine RL.opD (by decide) (opv_move rfl rfl) ?_
    refine RL.opD (by decide) (opv_add rfl rfl rfl) ?_
    refine RL.opD (by decide) (opv_assign rfl rfl) ?_
    refine RL.nil ?_
    have eo1 := Option.some.inj ho1
    subst eo1
    refine rndN (s' := (x9, x2, IntKind.wrap .i64 (x3 + 1))) rfl ?_
    exact ⟨⟨rfl, rfl, rfl, rfl, trivial⟩, rfl⟩
  ·rw [if_neg c1] at ho1
   have c1 := eq_false_of_ne_true c1
   refine W.condF rfl c1 ?_
   refine W.exit ?_
   refine thnX ?_
   refine rndX ?_
   refine blkI ?_
   have eo1 := Option.some.inj ho1
   subst eo1
   have ey1 := hy1 _ rfl
   subst ey1
   refine onlyN ?_
   exact ⟨x1, x2, x3, decide (x3 < (a0.length : Int)), rfl, ⟨rfl, rfl, rfl, rfl, rfl, trivial⟩, rfl⟩
 rintro φ' _ ⟨x4, x5, x6, x7, rfl, hs2, rfl⟩
 try dsimp only at hp
 refine thnN ?_
 refine W.sub hs2 ?_
 refine W.seq ?_
 refine W.region ?_
 refine RL.opD (by decide) (opv_move rfl rfl) ?_
 refine RL.opD (by decide) (opv_assign rfl rfl) ?_
 refine RL.nil ?_
 refine thnN ?_
 refine W.ret ?_
 have er := Option.some.inj hp
 subst er
 exact Rt.one rfl rfl ⟨rfl, rfl⟩

set_option maxHeartbeats 4000000 in
set_option maxRecDepth 20000 in
theorem laws_FnExactMessagesOf_ok (h0 : Heap) (a0_0 : Int) (a0_1 : Int) (a0_2 : Bool) (u0_3 : Value) (a0_3 : List (Option Nat)) (g0_3 : SL (kF .f32) h0.size h0 u0_3 a0_3) (u0_4 : Value) (a0_4 : List (Option Nat)) (g0_4 : SL (kF .f32) h0.size h0 u0_4 a0_4) (a1 : Int) (r : Bool) (hp : laws_FnExactMessagesOf a0_0 a0_1 a0_2 a0_3 a0_4 a1 = some r) : CallsH Try.prog 10 ([(.agg (List.toArray (α := Value) [(.int .i64 a0_0), (.int .i64 a0_1), (.bool a0_2), u0_3, u0_4])), (.int .i64 a1)].toArray ++ [].toArray) h0 (fun v h' => v = (.bool r) ∧ Mod [] h0 h' ∧ Sep [] h0.size h' []) := by
 unfold laws_FnExactMessagesOf at hp
 refine callsH_of_W (l := [(.agg (List.toArray (α := Value) [(.int .i64 a0_0), (.int .i64 a0_1), (.bool a0_2), u0_3, u0_4])), (.int .i64 a1)]) (cap := []) 101 Try.func10 rfl rfl rfl ?_
 refine W.seq ?_
 refine W.region ?_
 refine RL.op _ (by decide) (opS_boxed (opv_boxA (cs := [(.int .i64 a0_0), (.int .i64 a0_1), (.bool a0_2), u0_3, u0_4]) rfl rfl)) ?_
 rintro _ hp1 ⟨bb1, rfl, MT_1, T_1⟩
 obtain ⟨X_1, S_1⟩ := Sep.turn0 (Mod.refl [] h0) (Sep.nil [] h0.size h0) MT_1 T_1
 refine RL.opD (by decide) (opv_assign rfl rfl) ?_
 refine RL.nil ?_
 refine thnN ?_
 refine W.seq ?_
 refine W.region ?_
 refine RL.opD (by decide) (opv_assign rfl rfl) ?_
 refine RL.nil ?_
 refine thnN ?_
 refine W.seq ?_
 refine W.region ?_
 refine RL.opD (by decide) (opv_loadA (us := [(.int .i64 a0_0), (.int .i64 a0_1), (.bool a0_2), u0_3, u0_4]) rfl Try.agg78 Try.size78 rfl (Sep.at (o := boxO bb1 [(.int .i64 a0_0), (.int .i64 a0_1), (.bool a0_2), u0_3, u0_4]) S_1 0 rfl) rfl rfl) ?_
 refine RL.opD (by decide) (opv_move rfl rfl) ?_
 obtain ⟨x1, hx1, hp⟩ := Option.bind_eq_some_iff.1 hp
 refine RL.op _ (by decide) (opv_call (cap := []) (laws_szSheet_ok _ _ _ _ _ _ (SL.up (SL.mod g0_3 X_1 (Nat.le_refl _) nob) (Nat.le_trans (Nat.le_refl _) (Mod.size X_1))) _ _ (SL.up (SL.mod g0_4 X_1 (Nat.le_refl _) nob) (Nat.le_trans (Nat.le_refl _) (Mod.size X_1))) _ _ hx1) rfl rfl ⟨rfl, rfl, trivial⟩ Try.func49 rfl rfl) ?_
 rintro _ hp2 ⟨rfl, MT_2, T_2⟩
 obtain ⟨X_2, S_2⟩ := Sep.turn0 X_1 S_1 MT_2 T_2
 refine RL.opD (by decide) (opv_assign rfl rfl) ?_
 refine RL.nil ?_
 refine thnN ?_
 refine W.seq ?_
 refine W.seq ?_
 refine W.region ?_
 refine RL.opD (by decide) (opv_move rfl rfl) ?_
 refine RL.opD (by decide) (opv_icmp rfl rfl rfl rfl) ?_
 refine RL.nil ?_
 refine thnN ?_
 by_cases c1 : (decide (x1 < 0)) = true
 ·rw [if_pos c1] at hp
  refine W.condT rfl c1 ?_
  refine W.seq ?_
  refine W.region ?_
  refine RL.opD (by decide) (opv_assign rfl rfl) ?_
  refine RL.nil ?_
  refine thnN ?_
  refine W.ret ?_
  refine thnR ?_
  have er := Option.some.inj hp
  subst er
  exact Rt.one rfl rfl ⟨rfl, X_2, (Sep.nil _ _ _)⟩
 ·rw [if_neg c1] at hp
  have c1 := eq_false_of_ne_true c1
  refine W.condF rfl c1 ?_
  refine W.skip ?_
  refine thnN ?_
  refine W.seq ?_
  refine W.region ?_
  refine RL.opD (by decide) (opv_loadA (us := [(.int .i64 a0_0), (.int .i64 a0_1), (.bool a0_2), u0_3, u0_4]) rfl Try.agg78 Try.size78 rfl (Sep.at (o := boxO bb1 [(.int .i64 a0_0), (.int .i64 a0_1), (.bool a0_2), u0_3, u0_4]) S_2 0 rfl) rfl rfl) ?_
  obtain ⟨x2, hx2, hp⟩ := Option.bind_eq_some_iff.1 hp
  refine RL.op _ (by decide) (opv_call (cap := []) (laws_toSheet_ok _ _ _ _ _ _ (SL.up (SL.mod g0_3 X_2 (Nat.le_refl _) nob) (Nat.le_trans (Nat.le_refl _) (Mod.size X_2))) _ _ (SL.up (SL.mod g0_4 X_2 (Nat.le_refl _) nob) (Nat.le_trans (Nat.le_refl _) (Mod.size X_2))) _ hx2) rfl rfl ⟨rfl, trivial⟩ Try.func51 rfl rfl) ?_
  rintro _ hp3 ⟨v1, v2, rfl, MT_3, T_3⟩
  obtain ⟨X_3, S_3⟩ := Sep.turn0 X_2 S_2 MT_3 T_3
  refine RL.opD (by decide) (opv_move rfl rfl) ?_
  obtain ⟨x3, hx3, hp⟩ := Option.bind_eq_some_iff.1 hp
  refine RL.op _ (by decide) (opv_call (cap := []) (spec_MessagesOf_ok _ _ _ _ _ _ (ownO.read (Sep.at (o := ownO (kF .f32) 29 v1 x2.2.2.2.1) S_3 0 rfl)) _ _ (ownO.read (Sep.at (o := ownO (kF .f32) 29 v2 x2.2.2.2.2) S_3 1 rfl)) _ _ hx3) rfl rfl ⟨rfl, rfl, trivial⟩ Try.func63 rfl rfl) ?_
  rintro _ hp4 ⟨v3, rfl, MT_4, T_4⟩
  obtain ⟨X_4, S_4⟩ := Sep.turn0 X_3 S_3 MT_4 T_4
  refine RL.opD (by decide) (opv_move rfl rfl) ?_
  refine RL.opD (by decide) (opv_extract rfl rfl rfl) ?_
  refine RL.opD (by decide) (opv_extract rfl rfl rfl) ?_
  refine RL.opD (by decide) (opv_assign rfl rfl) ?_
  refine RL.opD (by decide) (opv_assign rfl rfl) ?_
  refine RL.nil ?_
  refine thnN ?_
  refine W.seq ?_
  refine W.region ?_
  refine RL.opD (by decide) (opv_loadA (us := [(.int .i64 a0_0), (.int .i64 a0_1), (.bool a0_2), u0_3, u0_4]) rfl Try.agg78 Try.size78 rfl (Sep.at (o := boxO bb1 [(.int .i64 a0_0), (.int .i64 a0_1), (.bool a0_2), u0_3, u0_4]) S_4 3 rfl) rfl rfl) ?_
  obtain ⟨x4, hx4, hp⟩ := Option.bind_eq_some_iff.1 hp
  refine RL.op _ (by decide) (opv_call (cap := []) (laws_toSheet_ok _ _ _ _ _ _ (SL.up (SL.mod g0_3 X_4 (Nat.le_refl _) nob) (Nat.le_trans (Nat.le_refl _) (Mod.size X_4))) _ _ (SL.up (SL.mod g0_4 X_4 (Nat.le_refl _) nob) (Nat.le_trans (Nat.le_refl _) (Mod.size X_4))) _ hx4) rfl rfl ⟨rfl, trivial⟩ Try.func51 rfl rfl) ?_
  rintro _ hp5 ⟨v4, v5, rfl, MT_5, T_5⟩
  obtain ⟨X_5, S_5⟩ := Sep.turn0 X_4 S_4 MT_5 T_5
  refine RL.op _ (by decide) (opS_boxed (opv_alloc (cs := [(.int .i64 0), (.int .i64 0), (.bool false), (.slice none 0 0), (.slice none 0 0)]) rfl Try.zero33 rfl)) ?_
  rintro _ hp6 ⟨bb2, rfl, MT_6, T_6⟩
  obtain ⟨X_6, S_6⟩ := Sep.turn0 X_5 S_5 MT_6 T_6
  refine RL.op0 _ (opS_stored (cs := [(.int .i64 0), (.int .i64 0), (.bool false), (.slice none 0 0), (.slice none 0 0)]) (cs' := [(.int .i64 x4.1), (.int .i64 x4.2.1), (.bool x4.2.2.1), v4, v5]) (opv_storeA (us := [(.int .i64 x4.1), (.int .i64 x4.2.1), (.bool x4.2.2.1), v4, v5]) rfl Try.size33 rfl rfl (oneAll rfl (oneAll rfl (oneAll rfl (oneAll (ownO.one (Sep.at (o := ownO (kF .f32) 29 v4 x4.2.2.2.1) S_6 1 rfl)) (oneAll (ownO.one (Sep.at (o := ownO (kF .f32) 29 v5 x4.2.2.2.2) S_6 2 rfl)) rfl))))) (Sep.at (o := boxO bb2 [(.int .i64 0), (.int .i64 0), (.bool false), (.slice none 0 0), (.slice none 0 0)]) S_6 0 rfl) rfl rfl) (Sep.at (o := boxO bb2 [(.int .i64 0), (.int .i64 0), (.bool false), (.slice none 0 0), (.slice none 0 0)]) S_6 0 rfl)) ?_
  rintro _ hp7 ⟨rfl, MT_7, T_7⟩
  have S_7 : Sep [] h0.size hp6 ([boxO bb2 [(.int .i64 0), (.int .i64 0), (.bool false), (.slice none 0 0), (.slice none 0 0)]] ++ [ownO (kF .f32) 29 v4 x4.2.2.2.1, ownO (kF .f32) 29 v5 x4.2.2.2.2, ooW 71 2 v3 x3.1, ownO (kF .f32) 29 v1 x2.2.2.2.1, ownO (kF .f32) 29 v2 x2.2.2.2.2, boxO bb1 [(.int .i64 a0_0), (.int .i64 a0_1), (.bool a0_2), u0_3, u0_4]]) := Sep.sel S_6 [0, 1, 2, 3, 4, 5, 6] (by decide)
  obtain ⟨X_7, S_8⟩ := Sep.turn X_6 S_7 MT_7 T_7
  refine RL.nil ?_
  refine thnN ?_
  refine W.seq ?_
  refine W.region ?_
  refine RL.opD (by decide) (opv_loadA (us := [(.int .i64 x4.1), (.int .i64 x4.2.1), (.bool x4.2.2.1), v4, v5]) rfl Try.agg33 Try.size33 rfl (Sep.at (o := boxO bb2 [(.int .i64 x4.1), (.int .i64 x4.2.1), (.bool x4.2.2.1), v4, v5]) S_8 0 rfl) rfl rfl) ?_
  refine RL.opD (by decide) (opv_move rfl rfl) ?_
  obtain ⟨x5, hx5, hp⟩ := Option.bind_eq_some_iff.1 hp
  refine RL.op _ (by decide) (opv_call (cap := []) (impl_MessagesOf_ok _ _ _ _ _ _ (ownO.read (Sep.at (o := ownO (kF .f32) 29 v4 x4.2.2.2.1) S_8 1 rfl)) _ _ (ownO.read (Sep.at (o := ownO (kF .f32) 29 v5 x4.2.2.2.2) S_8 2 rfl)) _ _ hx5) rfl rfl ⟨rfl, rfl, trivial⟩ Try.func64 rfl rfl) ?_
  rintro _ hp8 ⟨v6, rfl, MT_8, T_8⟩
  obtain ⟨X_8, S_9⟩ := Sep.turn0 X_7 S_8 MT_8 T_8
  refine RL.opD (by decide) (opv_move rfl rfl) ?_
  refine RL.opD (by decide) (opv_extract rfl rfl rfl) ?_
  refine RL.opD (by decide) (opv_extract rfl rfl rfl) ?_
  refine RL.opD (by decide) (opv_assign rfl rfl) ?_
  refine RL.opD (by decide) (opv_assign rfl rfl) ?_
  refine RL.nil ?_
  refine thnN ?_
  refine W.seq ?_
  refine W.seq ?_
  obtain ⟨x6, hy1, hp⟩ := Option.bind_eq_some_iff.1 hp
  refine W.cut (fun φ' h' => Fr.sub [(0, (.agg (List.toArray (α := Value) [(.int .i64 a0_0), (.int .i64 a0_1), (.bool a0_2), u0_3, u0_4]))), (1, (.int .i64 a1)), (2, (.pointer (some ⟨bb1, 0, none⟩))), (4, (.bool false)), (5, (.int .i64 x1)), (20, (.bool (decide (x1 < 0)))), (6, (ooV v3)), (7, (.bool x3.2)), (8, (.pointer (some ⟨bb2, 0, none⟩))), (9, (ooV v6)), (10, (.bool x5.2)), (44, (.bool x6))] φ' ∧ hp8 = h') ?_ ?_
  ·refine W.region ?_
   refine RL.opD (by decide) (opv_move rfl rfl) ?_
   refine RL.opD (by decide) (opv_move rfl rfl) ?_
   obtain ⟨x7, hx7, hy1⟩ := Option.bind_eq_some_iff.1 hy1
   refine RL.op _ (by decide) (opv_call (cap := []) (laws_eqInt64SS_ok _ _ _ _ (ooO.read (Sep.at (o := ooW 71 2 v6 x5.1) S_9 0 rfl)) _ _ _ (ooO.read (Sep.at (o := ooW 71 2 v3 x3.1) S_9 4 rfl)) _ hx7) rfl rfl ⟨rfl, rfl, trivial⟩ Try.func65 rfl rfl) ?_
   rintro _ _ ⟨rfl, rfl⟩
   refine RL.opD (by decide) (opv_not rfl rfl) ?_
   refine RL.opD (by decide) (opv_move rfl rfl) ?_
   by_cases c2 : (!x7) = true
   ·rw [if_pos c2] at hy1
    refine RL.noT rfl rfl c2 (by decide) ?_
    refine RL.noT rfl rfl c2 (by decide) ?_
    refine RL.noT rfl rfl c2 (by decide) ?_
    refine RL.opD (by decide) (opv_pick rfl rfl (fun _ => rfl) (fun e => absurd (Eq.trans (Eq.symm e) c2) (by decide)) rfl) ?_
    refine RL.nil ?_
    have ey1 := Option.some.inj hy1
    subst ey1
    refine onlyN ?_
    exact ⟨⟨rfl, rfl, rfl, rfl, rfl, rfl, rfl, rfl, rfl, rfl, rfl, rfl, trivial⟩, rfl⟩
   ·rw [if_neg c2] at hy1
    have c2 := eq_false_of_ne_true c2
    refine RL.yesD rfl rfl c2 (by decide) (opv_move rfl rfl) ?_
    refine RL.yesD rfl rfl c2 (by decide) (opv_move rfl rfl) ?_
    refine RL.yesD rfl rfl c2 (by decide) (opv_bcmp rfl rfl Try.underlying4 rfl rfl) ?_
    refine RL.opD (by decide) (opv_pick rfl rfl (fun e => absurd (Eq.trans (Eq.symm e) c2) (by decide)) (fun _ => rfl) rfl) ?_
    refine RL.nil ?_
    have ey1 := Option.some.inj hy1
    subst ey1
    refine onlyN ?_
    exact ⟨⟨rfl, rfl, rfl, rfl, rfl, rfl, rfl, rfl, rfl, rfl, rfl, rfl, trivial⟩, rfl⟩
  rintro φ' _ ⟨hs1, rfl⟩
  refine thnN ?_
  refine W.sub hs1 ?_
  by_cases c3 : x6 = true
  ·rw [if_pos c3] at hp
   refine W.condT rfl c3 ?_
   refine W.seq ?_
   refine W.region ?_
   refine RL.opD (by decide) (opv_assign rfl rfl) ?_
   refine RL.nil ?_
   refine thnN ?_
   refine W.ret ?_
   refine thnR ?_
   have er := Option.some.inj hp
   subst er
   exact Rt.one rfl rfl ⟨rfl, X_8, (Sep.nil _ _ _)⟩
  ·rw [if_neg c3] at hp
   have c3 := eq_false_of_ne_true c3
   refine W.condF rfl c3 ?_
   refine W.skip ?_
   refine thnN ?_
   refine W.seq ?_
   refine W.seq ?_
   obtain ⟨x8, hx8, hp⟩ := Option.bind_eq_some_iff.1 hp
   obtain ⟨x9, hx9, hp⟩ := Option.bind_eq_some_iff.1 hp
   refine W.sub (ψ := [(0, (.agg (List.toArray (α := Value) [(.int .i64 a0_0), (.int .i64 a0_1), (.bool a0_2), u0_3, u0_4]))), (1, (.int .i64 a1)), (2, (.pointer (some ⟨bb1, 0, none⟩))), (4, (.bool false)), (5, (.int .i64 x1)), (20, (.bool (decide (x1 < 0)))), (6, (ooV v3)), (7, (.bool x3.2)), (8, (.pointer (some ⟨bb2, 0, none⟩))), (9, (ooV v6)), (10, (.bool x5.2)), (44, (.bool x6))]) ⟨rfl, rfl, rfl, rfl, rfl, rfl, rfl, rfl, rfl, rfl, rfl, rfl, trivial⟩ ?_
   refine W.regionM [fun v _ => @Eq Value (.agg (List.toArray (α := Value) [(.int .i64 x4.1), (.int .i64 x4.2.1), (.bool x4.2.2.1), v4, v5])) v, fun v _ => @Eq Value (.agg (List.toArray (α := Value) [(.int .i64 a0_0), (.int .i64 a0_1), (.bool a0_2), u0_3, u0_4])) v, fun v h => ∃ v7, ∃ v8, @Eq Value v (.agg (List.toArray (α := Value) [(.int .i64 x8.1), (.int .i64 x8.2.1), (.bool x8.2.2.1), v7, v8])) ∧ Sep [] hp8.size h [ownO (kF .f32) 29 v7 x8.2.2.2.1, ownO (kF .f32) 29 v8 x8.2.2.2.2], fun v h => @Eq Value v (.bool x9) ∧ Sep [] hp8.size h [], fun v _ => @Eq Value (.bool (!x9)) v] [none, none, some (fun u => [Value.ownBlock (vget u 3), Value.ownBlock (vget u 4)]), some (fun u => []), none] [] [[], [], [1], [0, 2], [3]] [4] Try.mixed (by decide +kernel) (by decide +kernel) rfl rfl rfl (by decide +kernel) rfl ⟨fun _ _ _ h _ => h, fun _ _ _ h _ => h, fun _ _ _ ⟨u0_, u1_, e, h⟩ x => ⟨u0_, u1_, e, h.ext x⟩, fun _ _ _ ⟨e, h⟩ x => ⟨e, h.ext x⟩, fun _ _ _ h _ => h, trivial⟩ ?_ ?_
   ·refine ⟨⟨rfl, ?_⟩, ⟨rfl, ?_⟩, ⟨rfl, ?_⟩, ⟨rfl, ?_⟩, ⟨rfl, ?_⟩, trivial⟩
    ·rintro hp11 E_1
     refine Dep.nil ?_
     refine GuardOK.none rfl ?_
     exact OpV.toDx (opv_loadA (us := [(.int .i64 x4.1), (.int .i64 x4.2.1), (.bool x4.2.2.1), v4, v5]) rfl Try.agg33 Try.size33 rfl (Sep.at (o := boxO bb2 [(.int .i64 x4.1), (.int .i64 x4.2.1), (.bool x4.2.2.1), v4, v5]) (Sep.ext S_9 E_1) 1 rfl) rfl rfl) rfl
    ·rintro hp12 E_2
     refine Dep.nil ?_
     refine GuardOK.none rfl ?_
     exact OpV.toDx (opv_loadA (us := [(.int .i64 a0_0), (.int .i64 a0_1), (.bool a0_2), u0_3, u0_4]) rfl Try.agg78 Try.size78 rfl (Sep.at (o := boxO bb1 [(.int .i64 a0_0), (.int .i64 a0_1), (.bool a0_2), u0_3, u0_4]) (Sep.ext S_9 E_2) 7 rfl) rfl rfl) rfl
    ·rintro hp13 E_3 _ rfl
     refine Dep.nil ?_
     refine GuardOK.none rfl ?_
     exact OpV.mono (opv_call (cap := []) (laws_toSheet_ok _ _ _ _ _ _ (SL.up (SL.mod g0_3 (Mod.lift X_8 E_3) (Nat.le_refl _) nob) (Nat.le_trans (Nat.le_refl _) (Mod.size (Mod.lift X_8 E_3)))) _ _ (SL.up (SL.mod g0_4 (Mod.lift X_8 E_3) (Nat.le_refl _) nob) (Nat.le_trans (Nat.le_refl _) (Mod.size (Mod.lift X_8 E_3)))) _ hx8) rfl rfl ⟨rfl, trivial⟩ Try.func51 rfl rfl) (by rintro _ _ ⟨v7, v8, rfl, M_, T_⟩; exact ⟨Mod.ext M_, ⟨v7, v8, rfl, Sep.weak T_ (Ext.size E_3)⟩, Sep.fresh T_⟩)
    ·rintro hp14 E_4 _ rfl _ ⟨v7, v8, rfl, T_9⟩
     refine Dep.nil ?_
     refine GuardOK.none rfl ?_
     exact OpV.mono (opv_call (cap := []) (laws_eqSheet_ok _ _ _ _ _ _ (ownO.read (Sep.at (o := ownO (kF .f32) 29 v4 x4.2.2.2.1) (Sep.ext S_9 E_4) 2 rfl)) _ _ (ownO.read (Sep.at (o := ownO (kF .f32) 29 v5 x4.2.2.2.2) (Sep.ext S_9 E_4) 3 rfl)) _ _ _ _ _ (ownO.read (Sep.at (o := ownO (kF .f32) 29 v7 x8.2.2.2.1) T_9 0 rfl)) _ _ (ownO.read (Sep.at (o := ownO (kF .f32) 29 v8 x8.2.2.2.2) T_9 1 rfl)) _ hx9) rfl rfl ⟨rfl, rfl, trivial⟩ Try.func55 rfl rfl) (by rintro _ _ ⟨rfl, M_, T_⟩; exact ⟨Mod.ext M_, ⟨rfl, Sep.weak T_ (Ext.size E_4)⟩, Sep.fresh T_⟩)
    ·rintro hp15 E_5 _ ⟨rfl, T_10⟩
     refine Dep.nil ?_
     refine GuardOK.none rfl ?_
     exact OpV.toDx (opv_not rfl rfl) rfl
   rintro hp16 E_6 _ rfl
   refine DepM.nil ?_
   intro _ LK_
   have X_11 := Mod.lift X_8 E_6
   have S_12 := Sep.ext S_9 E_6
   show RL _ _ _ _ [] _ _
   refine RL.nil ?_
   refine thnN ?_
   by_cases c4 : (!x9) = true
   ·rw [if_pos c4] at hp
    refine W.condT rfl c4 ?_
    refine W.seq ?_
    refine W.region ?_
    refine RL.opD (by decide) (opv_assign rfl rfl) ?_
    refine RL.nil ?_
    refine thnN ?_
    refine W.ret ?_
    refine thnR ?_
    have er := Option.some.inj hp
    subst er
    exact Rt.one rfl rfl ⟨rfl, X_11, (Sep.nil _ _ _)⟩
   ·rw [if_neg c4] at hp
    have c4 := eq_false_of_ne_true c4
    refine W.condF rfl c4 ?_
    refine W.skip ?_
    refine thnN ?_
    refine W.seq ?_
    refine W.region ?_
    refine RL.opD (by decide) (opv_assign rfl rfl) ?_
    refine RL.nil ?_
    refine thnN ?_
    refine W.seq ?_
    refine W.region ?_
    refine RL.opD (by decide) (opv_loadA (us := [(.int .i64 x4.1), (.int .i64 x4.2.1), (.bool x4.2.2.1), v4, v5]) rfl Try.agg33 Try.size33 rfl (Sep.at (o := boxO bb2 [(.int .i64 x4.1), (.int .i64 x4.2.1), (.bool x4.2.2.1), v4, v5]) S_12 1 rfl) rfl rfl) ?_
    refine RL.opD (by decide) (opv_move rfl rfl) ?_
    obtain ⟨x10, hx10, hp⟩ := Option.bind_eq_some_iff.1 hp
    have S_14 : Sep [] h0.size hp16 [ownO (kF .f32) 29 v4 x4.2.2.2.1, ownO (kF .f32) 29 v5 x4.2.2.2.2] := Sep.sel S_12 [2, 3] (by decide)
    have S_13 : Sep [v4.ownBlock, v5.ownBlock] hp16.size hp16 [ownO (kF .f32) 29 v4 x4.2.2.2.1, ownO (kF .f32) 29 v5 x4.2.2.2.2] := Sep.own S_14 _
    refine RL.op _ (by decide) (opv_call (cap := []) (laws_markSheet_ok _ h0.size (Nat.le_trans (Nat.le_refl _) (Mod.size X_11)) _ _ _ _ _ _ _ _ S_13 (Sep.ge (L := [ownO (kF .f32) 29 v4 x4.2.2.2.1, ownO (kF .f32) 29 v5 x4.2.2.2.2]) S_14 (Nat.le_refl _) nob) _ hx10) rfl rfl ⟨rfl, rfl, trivial⟩ Try.func56 rfl rfl) ?_
    rintro _ hp17 ⟨rfl, MT_11, T_11⟩
    have S_15 : Sep [] h0.size hp16 ([ownO (kF .f32) 29 v4 x4.2.2.2.1, ownO (kF .f32) 29 v5 x4.2.2.2.2] ++ [ooW 71 2 v6 x5.1, boxO bb2 [(.int .i64 x4.1), (.int .i64 x4.2.1), (.bool x4.2.2.1), v4, v5], ooW 71 2 v3 x3.1, ownO (kF .f32) 29 v1 x2.2.2.2.1, ownO (kF .f32) 29 v2 x2.2.2.2.2, boxO bb1 [(.int .i64 a0_0), (.int .i64 a0_1), (.bool a0_2), u0_3, u0_4]]) := Sep.sel S_12 [2, 3, 0, 1, 4, 5, 6, 7] (by decide)
    obtain ⟨X_12, S_16⟩ := Sep.turn X_11 S_15 MT_11 T_11
    refine RL.opD (by decide) (opv_assign rfl rfl) ?_
    refine RL.nil ?_
    refine thnN ?_
    refine W.seq ?_
    refine W.seq ?_
    obtain ⟨x11, hy2, hp⟩ := Option.bind_eq_some_iff.1 hp
    refine W.cut (fun φ' h' => Fr.sub [(0, (.agg (List.toArray (α := Value) [(.int .i64 a0_0), (.int .i64 a0_1), (.bool a0_2), u0_3, u0_4]))), (1, (.int .i64 a1)), (2, (.pointer (some ⟨bb1, 0, none⟩))), (4, (.bool false)), (5, (.int .i64 x1)), (20, (.bool (decide (x1 < 0)))), (6, (ooV v3)), (7, (.bool x3.2)), (8, (.pointer (some ⟨bb2, 0, none⟩))), (9, (ooV v6)), (10, (.bool x5.2)), (44, (.bool x6)), (49, (.bool (!x9))), (11, (.int .i64 x10.1)), (65, (.bool x11))] φ' ∧ hp17 = h') ?_ ?_
    ·refine W.region ?_
     refine RL.opD (by decide) (opv_move rfl rfl) ?_
     refine RL.opD (by decide) (opv_icmp rfl rfl rfl rfl) ?_
     refine RL.opD (by decide) (opv_move rfl rfl) ?_
     by_cases c5 : (decide (x10.1 < 0)) = true
     ·rw [if_pos c5] at hy2
      refine RL.noT rfl rfl c5 (by decide) ?_
      refine RL.noT rfl rfl c5 (by decide) ?_
      refine RL.noT rfl rfl c5 (by decide) ?_
      refine RL.noT rfl rfl c5 (by decide) ?_
      refine RL.opD (by decide) (opv_pick rfl rfl (fun _ => rfl) (fun e => absurd (Eq.trans (Eq.symm e) c5) (by decide)) rfl) ?_
      refine RL.opD (by decide) (opv_move rfl rfl) ?_
      refine RL.noT rfl rfl rfl (by decide) ?_
      refine RL.noT rfl rfl rfl (by decide) ?_
      refine RL.noT rfl rfl rfl (by decide) ?_
      refine RL.opD (by decide) (opv_pick rfl rfl (fun _ => rfl) (fun e => absurd (Eq.trans (Eq.symm e) rfl) (by decide)) rfl) ?_
      refine RL.nil ?_
      have ey2 := Option.some.inj hy2
      subst ey2
      refine onlyN ?_
      exact ⟨⟨rfl, rfl, rfl, rfl, rfl, rfl, rfl, rfl, rfl, rfl, rfl, rfl, rfl, rfl, rfl, trivial⟩, rfl⟩
     ·rw [if_neg c5] at hy2
      have c5 := eq_false_of_ne_true c5
      refine RL.yesD rfl rfl c5 (by decide) (opv_move rfl rfl) ?_
      refine RL.yesD rfl rfl c5 (by decide) (opv_move rfl rfl) ?_
      obtain ⟨x12, hx12, hy2⟩ := Option.bind_eq_some_iff.1 hy2
      refine RL.yes _ rfl rfl c5 (by decide) (opv_call (cap := []) (laws_eqInt64SS_ok _ _ _ _ (ooO.read (Sep.at (o := ooW 71 2 v6 x5.1) S_16 2 rfl)) _ _ _ (ooO.read (Sep.at (o := ooW 71 2 v3 x3.1) S_16 4 rfl)) _ hx12) rfl rfl ⟨rfl, rfl, trivial⟩ Try.func65 rfl rfl) ?_
      rintro _ _ ⟨rfl, rfl⟩
      refine RL.yesD rfl rfl c5 (by decide) (opv_not rfl rfl) ?_
      refine RL.opD (by decide) (opv_pick rfl rfl (fun e => absurd (Eq.trans (Eq.symm e) c5) (by decide)) (fun _ => rfl) rfl) ?_
      refine RL.opD (by decide) (opv_move rfl rfl) ?_
      by_cases c6 : (!x12) = true
      ·rw [if_pos c6] at hy2
       refine RL.noT rfl rfl c6 (by decide) ?_
       refine RL.noT rfl rfl c6 (by decide) ?_
       refine RL.noT rfl rfl c6 (by decide) ?_
       refine RL.opD (by decide) (opv_pick rfl rfl (fun _ => rfl) (fun e => absurd (Eq.trans (Eq.symm e) c6) (by decide)) rfl) ?_
       refine RL.nil ?_
       have ey2 := Option.some.inj hy2
       subst ey2
       refine onlyN ?_
       exact ⟨⟨rfl, rfl, rfl, rfl, rfl, rfl, rfl, rfl, rfl, rfl, rfl, rfl, rfl, rfl, rfl, trivial⟩, rfl⟩
      ·rw [if_neg c6] at hy2
       have c6 := eq_false_of_ne_true c6
       refine RL.yesD rfl rfl c6 (by decide) (opv_move rfl rfl) ?_
       refine RL.yesD rfl rfl c6 (by decide) (opv_move rfl rfl) ?_
       refine RL.yesD rfl rfl c6 (by decide) (opv_bcmp rfl rfl Try.underlying4 rfl rfl) ?_
       refine RL.opD (by decide) (opv_pick rfl rfl (fun e => absurd (Eq.trans (Eq.symm e) c6) (by decide)) (fun _ => rfl) rfl) ?_
       refine RL.nil ?_
       have ey2 := Option.some.inj hy2
       subst ey2
       refine onlyN ?_
       exact ⟨⟨rfl, rfl, rfl, rfl, rfl, rfl, rfl, rfl, rfl, rfl, rfl, rfl, rfl, rfl, rfl, trivial⟩, rfl⟩
    rintro φ' _ ⟨hs2, rfl⟩
    refine thnN ?_
    refine W.sub hs2 ?_
    by_cases c7 : x11 = true
    ·rw [if_pos c7] at hp
     refine W.condT rfl c7 ?_
     refine W.seq ?_
     refine W.region ?_
     refine RL.opD (by decide) (opv_assign rfl rfl) ?_
     refine RL.nil ?_
     refine thnN ?_
     refine W.ret ?_
     refine thnR ?_
     have er := Option.some.inj hp
     subst er
     exact Rt.one rfl rfl ⟨rfl, X_12, (Sep.nil _ _ _)⟩
    ·rw [if_neg c7] at hp
     have c7 := eq_false_of_ne_true c7
     refine W.condF rfl c7 ?_
     refine W.skip ?_
     refine thnN ?_
     refine W.seq ?_
     refine W.region ?_
     refine RL.opD (by decide) (opv_assign rfl rfl) ?_
     refine RL.nil ?_
     refine thnN ?_
     refine W.seq ?_
     refine W.region ?_
     refine RL.opD (by decide) (opv_move rfl rfl) ?_
     refine RL.opD (by decide) (opv_move rfl rfl) ?_
     obtain ⟨x13, hx13, hp⟩ := Option.bind_eq_some_iff.1 hp
     have S_18 : Sep [] h0.size hp17 [ooW 71 2 v6 x5.1] := Sep.sel S_16 [2] (by decide)
     have S_17 : Sep (List.flatMap (fun o : Thing => o.blks) [ooW 71 2 v6 x5.1]) hp17.size hp17 [ooW 71 2 v6 x5.1] := Sep.own S_18 _
     refine RL.op _ (by decide) (opv_call (cap := []) (laws_markInt64SS_ok _ h0.size (Nat.le_trans (Nat.le_refl _) (Mod.size X_12)) _ _ _ S_17 (Sep.ge (L := [ooW 71 2 v6 x5.1]) S_18 (Nat.le_refl _) nob) _ hx13) rfl rfl ⟨rfl, rfl, trivial⟩ Try.func66 rfl rfl) ?_
     rintro _ hp18 ⟨rfl, MT_12, T_12⟩
     have S_19 : Sep [] h0.size hp17 ([ooW 71 2 v6 x5.1] ++ [ownO (kF .f32) 29 v4 x10.2.1, ownO (kF .f32) 29 v5 x10.2.2, boxO bb2 [(.int .i64 x4.1), (.int .i64 x4.2.1), (.bool x4.2.2.1), v4, v5], ooW 71 2 v3 x3.1, ownO (kF .f32) 29 v1 x2.2.2.2.1, ownO (kF .f32) 29 v2 x2.2.2.2.2, boxO bb1 [(.int .i64 a0_0), (.int .i64 a0_1), (.bool a0_2), u0_3, u0_4]]) := Sep.sel S_16 [2, 0, 1, 3, 4, 5, 6, 7] (by decide)
     obtain ⟨X_13, S_20⟩ := Sep.turn X_12 S_19 MT_12 T_12
     refine RL.opD (by decide) (opv_assign rfl rfl) ?_
     refine RL.nil ?_
     refine thnN ?_
     refine W.seq ?_
     refine W.region ?_
     refine RL.opD (by decide) (opv_assign rfl rfl) ?_
     refine RL.nil ?_
     refine thnN ?_
     refine W.seq ?_
     refine W.region ?_
     refine RL.opD (by decide) (opv_move rfl rfl) ?_
     refine RL.opD (by decide) (opv_move rfl rfl) ?_
     obtain ⟨x14, hx14, hp⟩ := Option.bind_eq_some_iff.1 hp
     refine RL.op _ (by decide) (opv_call (cap := []) (laws_heldInt64SS_ok _ _ _ _ (ooO.read (Sep.at (o := ooW 71 2 v6 x13.2) S_20 0 rfl)) _ _ hx14) rfl rfl ⟨rfl, rfl, trivial⟩ Try.func67 rfl rfl) ?_
     rintro _ _ ⟨rfl, rfl⟩
     refine RL.opD (by decide) (opv_assign rfl rfl) ?_
     refine RL.nil ?_
     refine thnN ?_
     refine W.seq ?_
     refine W.seq ?_
     refine W.region ?_
     refine RL.opD (by decide) (opv_move rfl rfl) ?_
     refine RL.opD (by decide) (opv_icmp rfl rfl rfl rfl) ?_
     refine RL.nil ?_
     refine thnN ?_
     by_cases c8 : (decide (x14 < 0)) = true
     ·rw [if_pos c8] at hp
      refine W.condT rfl c8 ?_
      refine W.seq ?_
      refine W.region ?_
      refine RL.opD (by decide) (opv_assign rfl rfl) ?_
      refine RL.nil ?_
      refine thnN ?_
      refine W.ret ?_
      refine thnR ?_
      have er := Option.some.inj hp
      subst er
      exact Rt.one rfl rfl ⟨rfl, X_13, (Sep.nil _ _ _)⟩
     ·rw [if_neg c8] at hp
      have c8 := eq_false_of_ne_true c8
      refine W.condF rfl c8 ?_
      refine W.skip ?_
      refine thnN ?_
      refine W.seq ?_
      refine W.seq ?_
      refine W.region ?_
      refine RL.opD (by decide) (opv_move rfl rfl) ?_
      refine RL.opD (by decide) (opv_move rfl rfl) ?_
      refine RL.opD (by decide) (opv_icmp rfl rfl rfl rfl) ?_
      refine RL.nil ?_
      refine thnN ?_
      by_cases c9 : (x14 != x13.1) = true
      ·rw [if_pos c9] at hp
       refine W.condT rfl c9 ?_
       refine W.seq ?_
       refine W.region ?_
       refine RL.opD (by decide) (opv_assign rfl rfl) ?_
       refine RL.nil ?_
       refine thnN ?_
       refine W.ret ?_
       refine thnR ?_
       have er := Option.some.inj hp
       subst er
       exact Rt.one rfl rfl ⟨rfl, X_13, (Sep.nil _ _ _)⟩
      ·rw [if_neg c9] at hp
       have c9 := eq_false_of_ne_true c9
       refine W.condF rfl c9 ?_
       refine W.skip ?_
       refine thnN ?_
       refine W.seq ?_
       refine W.region ?_
       refine RL.opD (by decide) (opv_loadA (us := [(.int .i64 a0_0), (.int .i64 a0_1), (.bool a0_2), u0_3, u0_4]) rfl Try.agg78 Try.size78 rfl (Sep.at (o := boxO bb1 [(.int .i64 a0_0), (.int .i64 a0_1), (.bool a0_2), u0_3, u0_4]) S_20 7 rfl) rfl rfl) ?_
       obtain ⟨x15, hx15, hp⟩ := Option.bind_eq_some_iff.1 hp
       refine RL.op _ (by decide) (opv_call (cap := []) (laws_toSheet_ok _ _ _ _ _ _ (SL.up (SL.mod g0_3 X_13 (Nat.le_refl _) nob) (Nat.le_trans (Nat.le_refl _) (Mod.size X_13))) _ _ (SL.up (SL.mod g0_4 X_13 (Nat.le_refl _) nob) (Nat.le_trans (Nat.le_refl _) (Mod.size X_13))) _ hx15) rfl rfl ⟨rfl, trivial⟩ Try.func51 rfl rfl) ?_
       rintro _ hp19 ⟨v11, v12, rfl, MT_13, T_13⟩
       obtain ⟨X_14, S_21⟩ := Sep.turn0 X_13 S_20 MT_13 T_13
       refine RL.opD (by decide) (opv_move rfl rfl) ?_
       obtain ⟨x16, hx16, hp⟩ := Option.bind_eq_some_iff.1 hp
       refine RL.op _ (by decide) (opv_call (cap := []) (impl_MessagesOf_ok _ _ _ _ _ _ (ownO.read (Sep.at (o := ownO (kF .f32) 29 v11 x15.2.2.2.1) S_21 0 rfl)) _ _ (ownO.read (Sep.at (o := ownO (kF .f32) 29 v12 x15.2.2.2.2) S_21 1 rfl)) _ _ hx16) rfl rfl ⟨rfl, rfl, trivial⟩ Try.func64 rfl rfl) ?_
       rintro _ hp20 ⟨v13, rfl, MT_14, T_14⟩
       obtain ⟨X_15, S_22⟩ := Sep.turn0 X_14 S_21 MT_14 T_14
       refine RL.opD (by decide) (opv_move rfl rfl) ?_
       refine RL.opD (by decide) (opv_extract rfl rfl rfl) ?_
       refine RL.opD (by decide) (opv_extract rfl rfl rfl) ?_
       refine RL.opD (by decide) (opv_assign rfl rfl) ?_
       refine RL.opD (by decide) (opv_assign rfl rfl) ?_
       refine RL.nil ?_
       refine thnN ?_
       refine W.seq ?_
       refine W.seq ?_
       obtain ⟨x17, hy3, hp⟩ := Option.bind_eq_some_iff.1 hp
       refine W.cut (fun φ' h' => Fr.sub [(0, (.agg (List.toArray (α := Value) [(.int .i64 a0_0), (.int .i64 a0_1), (.bool a0_2), u0_3, u0_4]))), (1, (.int .i64 a1)), (2, (.pointer (some ⟨bb1, 0, none⟩))), (4, (.bool false)), (5, (.int .i64 x1)), (20, (.bool (decide (x1 < 0)))), (6, (ooV v3)), (7, (.bool x3.2)), (8, (.pointer (some ⟨bb2, 0, none⟩))), (9, (ooV v6)), (10, (.bool x5.2)), (44, (.bool x6)), (49, (.bool (!x9))), (11, (.int .i64 x10.1)), (65, (.bool x11)), (12, (.int .i64 x13.1)), (13, (.int .i64 x14)), (73, (.bool (decide (x14 < 0)))), (76, (.bool (x14 != x13.1))), (14, (ooV v13)), (15, (.bool x16.2)), (92, (.bool x17))] φ' ∧ hp20 = h') ?_ ?_
       ·refine W.region ?_
        refine RL.opD (by decide) (opv_move rfl rfl) ?_
        refine RL.opD (by decide) (opv_move rfl rfl) ?_
        obtain ⟨x18, hx18, hy3⟩ := Option.bind_eq_some_iff.1 hy3
        refine RL.op _ (by decide) (opv_call (cap := []) (laws_eqInt64SS_ok _ _ _ _ (ooO.read (Sep.at (o := ooW 71 2 v13 x16.1) S_22 0 rfl)) _ _ _ (ooO.read (Sep.at (o := ooW 71 2 v3 x3.1) S_22 7 rfl)) _ hx18) rfl rfl ⟨rfl, rfl, trivial⟩ Try.func65 rfl rfl) ?_
        rintro _ _ ⟨rfl, rfl⟩
        refine RL.opD (by decide) (opv_not rfl rfl) ?_
        refine RL.opD (by decide) (opv_move rfl rfl) ?_
        by_cases c10 : (!x18) = true
        ·rw [if_pos c10] at hy3
         refine RL.noT rfl rfl c10 (by decide) ?_
         refine RL.noT rfl rfl c10 (by decide) ?_
         refine RL.noT rfl rfl c10 (by decide) ?_
         refine RL.opD (by decide) (opv_pick rfl rfl (fun _ => rfl) (fun e => absurd (Eq.trans (Eq.symm e) c10) (by decide)) rfl) ?_
         refine RL.nil ?_
         have ey3 := Option.some.inj hy3
         subst ey3
         refine onlyN ?_
         exact ⟨⟨rfl, rfl, rfl, rfl, rfl, rfl, rfl, rfl, rfl, rfl, rfl, rfl, rfl, rfl, rfl, rfl, rfl, rfl, rfl, rfl, rfl, rfl, trivial⟩, rfl⟩
        ·rw [if_neg c10] at hy3
         have c10 := eq_false_of_ne_true c10
         refine RL.yesD rfl rfl c10 (by decide) (opv_move rfl rfl) ?_
         refine RL.yesD rfl rfl c10 (by decide) (opv_move rfl rfl) ?_
         refine RL.yesD rfl rfl c10 (by decide) (opv_bcmp rfl rfl Try.underlying4 rfl rfl) ?_
         refine RL.opD (by decide) (opv_pick rfl rfl (fun e => absurd (Eq.trans (Eq.symm e) c10) (by decide)) (fun _ => rfl) rfl) ?_
         refine RL.nil ?_
         have ey3 := Option.some.inj hy3
         subst ey3
         refine onlyN ?_
         exact ⟨⟨rfl, rfl, rfl, rfl, rfl, rfl, rfl, rfl, rfl, rfl, rfl, rfl, rfl, rfl, rfl, rfl, rfl, rfl, rfl, rfl, rfl, rfl, trivial⟩, rfl⟩
       rintro φ' _ ⟨hs3, rfl⟩
       refine thnN ?_
       refine W.sub hs3 ?_
       by_cases c11 : x17 = true
       ·rw [if_pos c11] at hp
        refine W.condT rfl c11 ?_
        refine W.seq ?_
        refine W.region ?_
        refine RL.opD (by decide) (opv_assign rfl rfl) ?_
        refine RL.nil ?_
        refine thnN ?_
        refine W.ret ?_
        refine thnR ?_
        have er := Option.some.inj hp
        subst er
        exact Rt.one rfl rfl ⟨rfl, X_15, (Sep.nil _ _ _)⟩
       ·rw [if_neg c11] at hp
        have c11 := eq_false_of_ne_true c11
        refine W.condF rfl c11 ?_
        refine W.skip ?_
        refine thnN ?_
        refine W.seq ?_
        refine W.region ?_
        refine RL.opD (by decide) (opv_assign rfl rfl) ?_
        refine RL.nil ?_
        refine thnN ?_
        refine W.seq ?_
        refine W.region ?_
        refine RL.opD (by decide) (opv_move rfl rfl) ?_
        refine RL.opD (by decide) (opv_move rfl rfl) ?_
        obtain ⟨x19, hx19, hp⟩ := Option.bind_eq_some_iff.1 hp
        refine RL.op _ (by decide) (opv_call (cap := []) (laws_heldInt64SS_ok _ _ _ _ (ooO.read (Sep.at (o := ooW 71 2 v6 x13.2) S_22 3 rfl)) _ _ hx19) rfl rfl ⟨rfl, rfl, trivial⟩ Try.func67 rfl rfl) ?_
        rintro _ _ ⟨rfl, rfl⟩
        refine RL.opD (by decide) (opv_assign rfl rfl) ?_
        refine RL.nil ?_
        refine thnN ?_
        refine W.seq ?_
        refine W.seq ?_
        refine W.region ?_
        refine RL.opD (by decide) (opv_move rfl rfl) ?_
        refine RL.opD (by decide) (opv_icmp rfl rfl rfl rfl) ?_
        refine RL.nil ?_
        refine thnN ?_
        by_cases c12 : (decide (x19 < 0)) = true
        ·rw [if_pos c12] at hp
         refine W.condT rfl c12 ?_
         refine W.seq ?_
         refine W.region ?_
         refine RL.opD (by decide) (opv_assign rfl rfl) ?_
         refine RL.nil ?_
         refine thnN ?_
         refine W.ret ?_
         refine thnR ?_
         have er := Option.some.inj hp
         subst er
         exact Rt.one rfl rfl ⟨rfl, X_15, (Sep.nil _ _ _)⟩
        ·rw [if_neg c12] at hp
         have c12 := eq_false_of_ne_true c12
         refine W.condF rfl c12 ?_
         refine W.skip ?_
         refine thnN ?_
         refine W.seq ?_
         refine W.seq ?_
         refine W.region ?_
         refine RL.opD (by decide) (opv_move rfl rfl) ?_
         refine RL.opD (by decide) (opv_move rfl rfl) ?_
         refine RL.opD (by decide) (opv_icmp rfl rfl rfl rfl) ?_
         refine RL.nil ?_
         refine thnN ?_
         by_cases c13 : (x19 != x13.1) = true
         ·rw [if_pos c13] at hp
          refine W.condT rfl c13 ?_
          refine W.seq ?_
          refine W.region ?_
          refine RL.opD (by decide) (opv_assign rfl rfl) ?_
          refine RL.nil ?_
          refine thnN ?_
          refine W.ret ?_
          refine thnR ?_
          have er := Option.some.inj hp
          subst er
          exact Rt.one rfl rfl ⟨rfl, X_15, (Sep.nil _ _ _)⟩
         ·rw [if_neg c13] at hp
          have c13 := eq_false_of_ne_true c13
          refine W.condF rfl c13 ?_
          refine W.skip ?_
          refine thnN ?_
          refine W.seq ?_
          refine W.region ?_
          refine RL.opD (by decide) (opv_assign rfl rfl) ?_
          refine RL.nil ?_
          refine thnN ?_
          refine W.ret ?_
          have er := Option.some.inj hp
          subst er
          exact Rt.one rfl rfl ⟨rfl, X_15, (Sep.nil _ _ _)⟩

end Go.H
