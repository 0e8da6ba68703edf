/- Functions of the program: what each computes, as a plain function, and that the call comes to it. Written by a program (wip/gen). -/
import Derived.Test.YtmgoblppedmdhaaGBase
import Derived.Test.YtmgoblppedmdhaaGCopy
import Derived.Test.YtmgoblppedmdhaaGSheet
import Derived.Test.YtmgoblppedmdhaaGSort
import Derived.Test.YtmgoblppedmdhaaLibB
import Derived.Test.YtmgoblppedmdhaaProg
import Derived.KernelRfl
set_option linter.unusedVariables false
namespace Go.H
open Go Go.Proofs



noncomputable def spec_l07Is (a0_0 : Int) (a0_1 : Int) (a0_2 : Bool) (a0_3 : List (Option Nat)) (a0_4 : List (Option Nat)) (a1_0 : Int) (a1_1 : Int) : Option Bool :=
 ((((spec_l00In a1_0 0 (IntKind.wrap .i64 (a0_1 - 1))).bind fun (x2 : Bool) => (if x2 = true then ((spec_l00In a1_1 1 (IntKind.wrap .i64 (a0_1 - a1_0))).bind fun (x3 : Bool) => some x3) else some false)) : Option Bool).bind fun (x1 : Bool) => some x1)

noncomputable def spec_l00Put.s0 (a0 : List (Int)) (a1 : Int) (x1 : List (Int)) (x2 : Bool) (x3 : Int) : Option (((List (Int)) × Bool × Int) ⊕ (Bool × Int × Bool × (List (Int)))) :=
 (if (decide (x3 < (a0.length : Int))) = true then (((if (!x2) = true then ((idx a0 x3).bind fun (x9 : Int) => some (decide (x9 ≥ a1))) else some false) : Option Bool).bind fun (x8 : Bool) => (((if x8 = true then ((idx a0 x3).bind fun (x12 : Int) => (((if (decide (x12 > a1)) = true then (if x1.length + [a1].length ≤ 1000000000 then some (x1 ++ [a1]) else none) else some x1) : Option (List (Int))).bind fun (x13 : List (Int)) => some (true, x13))) else some (x2, x1)) : Option (Bool × (List (Int)))).bind fun (⟨x10, x11⟩ : (Bool × (List (Int)))) => ((idx a0 x3).bind fun (x14 : Int) => (if x11.length + [x14].length ≤ 1000000000 then some (.inl (x11 ++ [x14], x10, IntKind.wrap .i64 (x3 + 1))) else none)))) else some (.inr (x2, x3, decide (x3 < (a0.length : Int)), x1)))

noncomputable def spec_l00Put (a0 : List (Int)) (a1 : Int) : Option (List (Int)) :=
 ((loopF (fun (s : ((List (Int)) × Bool × Int)) => spec_l00Put.s0 a0 a1 s.1 s.2.1 s.2.2) (([] : List (Int)), false, 0)).bind fun (⟨x4, x5, x6, x7⟩ : (Bool × Int × Bool × (List (Int)))) => (((if (!x4) = true then (if x7.length + [a1].length ≤ 1000000000 then some (x7 ++ [a1]) else none) else some x7) : Option (List (Int))).bind fun (x15 : List (Int)) => some x15))

noncomputable def spec_l07Halo.s0 (a0_1 : Int) (a0_2 : Bool) (a1_0 : Int) (a1_1 : Int) (x1 : List (Int)) (x2 : Int) : Option (((List (Int)) × Int) ⊕ (Int × Bool × (List (Int)))) :=
 (if (decide (x2 ≤ (IntKind.wrap .i64 (a1_0 + a1_1)))) = true then (((if a0_2 = true then (if a0_1 = 0 then none else ((spec_l00Put x1 (Int.tmod (IntKind.wrap .i64 (x2 + a0_1)) a0_1)).bind fun (x7 : List (Int)) => some x7)) else ((spec_l00In x2 0 (IntKind.wrap .i64 (a0_1 - 1))).bind fun (x8 : Bool) => (((if x8 = true then ((spec_l00Put x1 x2).bind fun (x10 : List (Int)) => some x10) else some x1) : Option (List (Int))).bind fun (x9 : List (Int)) => some x9))) : Option (List (Int))).bind fun (x6 : List (Int)) => some (.inl (x6, IntKind.wrap .i64 (x2 + 1)))) else some (.inr (x2, decide (x2 ≤ (IntKind.wrap .i64 (a1_0 + a1_1))), x1)))

noncomputable def spec_l07Halo (a0_0 : Int) (a0_1 : Int) (a0_2 : Bool) (a0_3 : List (Option Nat)) (a0_4 : List (Option Nat)) (a1_0 : Int) (a1_1 : Int) : Option (List (Int)) :=
 ((loopF (fun (s : ((List (Int)) × Int)) => spec_l07Halo.s0 a0_1 a0_2 a1_0 a1_1 s.1 s.2) (([] : List (Int)), IntKind.wrap .i64 (a1_0 - 1))).bind fun (⟨x3, x4, x5⟩ : (Int × Bool × (List (Int)))) => some x5)

noncomputable def spec_HaloRows (a0_0 : Int) (a0_1 : Int) (a0_2 : Bool) (a0_3 : List (Option Nat)) (a0_4 : List (Option Nat)) (a1_0 : Int) (a1_1 : Int) : Option ((List (Int)) × Bool) :=
 ((((spec_l02Is a0_0 a0_1 a0_2 a0_3 a0_4).bind fun (x2 : Bool) => (if (!x2) = true then some true else ((spec_l07Is a0_0 a0_1 a0_2 a0_3 a0_4 a1_0 a1_1).bind fun (x3 : Bool) => some (!x3)))) : Option Bool).bind fun (x1 : Bool) => (if x1 = true then some (([] : List (Int)), false) else ((spec_l07Halo a0_0 a0_1 a0_2 a0_3 a0_4 a1_0 a1_1).bind fun (x4 : List (Int)) => some (x4, true))))

noncomputable def impl_IsStrip (a0_0 : Int) (a0_1 : Int) (a0_2 : Bool) (a0_3 : List (Option Nat)) (a0_4 : List (Option Nat)) (a1_0 : Int) (a1_1 : Int) : Option Bool :=
 ((((impl_ValidSheet a0_0 a0_1 a0_2 a0_3 a0_4).bind fun (x2 : Bool) => (if x2 = true then ((impl_within a1_0 0 (IntKind.wrap .i64 (a0_1 - 1))).bind fun (x3 : Bool) => (if x3 = true then ((impl_within a1_1 1 (IntKind.wrap .i64 (a0_1 - a1_0))).bind fun (x4 : Bool) => some x4) else some false)) else some false)) : Option Bool).bind fun (x1 : Bool) => some x1)

noncomputable def impl_haloRows.s0 (a0_1 : Int) (a0_2 : Bool) (a1_0 : Int) (a1_1 : Int) (x1 : List (Int)) (x2 : Int) : Option (((List (Int)) × Int) ⊕ (Int × Bool × (List (Int)))) :=
 (if (decide (x2 ≤ (IntKind.wrap .i64 (a1_0 + a1_1)))) = true then ((impl_within x2 0 (IntKind.wrap .i64 (a0_1 - 1))).bind fun (x6 : Bool) => (((if x6 = true then (if x1.length + [x2].length ≤ 1000000000 then some (x1 ++ [x2]) else none) else (((if a0_2 = true then (if a0_1 = 0 then none else (if x1.length + [Int.tmod (IntKind.wrap .i64 (x2 + a0_1)) a0_1].length ≤ 1000000000 then some (x1 ++ [Int.tmod (IntKind.wrap .i64 (x2 + a0_1)) a0_1]) else none)) else some x1) : Option (List (Int))).bind fun (x8 : List (Int)) => some x8)) : Option (List (Int))).bind fun (x7 : List (Int)) => some (.inl (x7, IntKind.wrap .i64 (x2 + 1))))) else some (.inr (x2, decide (x2 ≤ (IntKind.wrap .i64 (a1_0 + a1_1))), x1)))

noncomputable def impl_haloRows (a0_0 : Int) (a0_1 : Int) (a0_2 : Bool) (a0_3 : List (Option Nat)) (a0_4 : List (Option Nat)) (a1_0 : Int) (a1_1 : Int) : Option (List (Int)) :=
 ((loopF (fun (s : ((List (Int)) × Int)) => impl_haloRows.s0 a0_1 a0_2 a1_0 a1_1 s.1 s.2) (([] : List (Int)), IntKind.wrap .i64 (a1_0 - 1))).bind fun (⟨x3, x4, x5⟩ : (Int × Bool × (List (Int)))) => ((slices_Sort_I x5).bind fun (x9 : List (Int)) => ((slices_Compact_I x9).bind fun (x10 : List (Int)) => some x10)))

noncomputable def impl_HaloRows (a0_0 : Int) (a0_1 : Int) (a0_2 : Bool) (a0_3 : List (Option Nat)) (a0_4 : List (Option Nat)) (a1_0 : Int) (a1_1 : Int) : Option ((List (Int)) × Bool) :=
 ((impl_IsStrip a0_0 a0_1 a0_2 a0_3 a0_4 a1_0 a1_1).bind fun (x1 : Bool) => (if (!x1) = true then some (([] : List (Int)), false) else ((impl_haloRows a0_0 a0_1 a0_2 a0_3 a0_4 a1_0 a1_1).bind fun (x2 : List (Int)) => some (x2, true))))

noncomputable def laws_FnExactHaloRows (a0_0 : Int) (a0_1 : Int) (a0_2 : Bool) (a0_3 : List (Option Nat)) (a0_4 : List (Option Nat)) (a1_0 : Int) (a1_1 : Int) : Option Bool :=
 ((laws_szSheet a0_0 a0_1 a0_2 a0_3 a0_4 1048576).bind fun (x1 : Int) => (if (decide (x1 < 0)) = true then some true else ((laws_toSheet a0_0 a0_1 a0_2 a0_3 a0_4).bind fun (x2 : (Int × Int × Bool × (List (Option Nat)) × (List (Option Nat)))) => ((laws_toStrip a1_0 a1_1).bind fun (x3 : (Int × Int)) => ((spec_HaloRows x2.1 x2.2.1 x2.2.2.1 x2.2.2.2.1 x2.2.2.2.2 x3.1 x3.2).bind fun (x4 : ((List (Int)) × Bool)) => ((laws_toSheet a0_0 a0_1 a0_2 a0_3 a0_4).bind fun (x5 : (Int × Int × Bool × (List (Option Nat)) × (List (Option Nat)))) => ((laws_toStrip a1_0 a1_1).bind fun (x6 : (Int × Int)) => ((impl_HaloRows x5.1 x5.2.1 x5.2.2.1 x5.2.2.2.1 x5.2.2.2.2 x6.1 x6.2).bind fun (x7 : ((List (Int)) × Bool)) => ((((laws_eqInt64S x7.1 x4.1).bind fun (x9 : Bool) => (if (!x9) = true then some true else some (x7.2 != x4.2))) : Option Bool).bind fun (x8 : Bool) => (if x8 = true then some false else ((laws_toSheet a0_0 a0_1 a0_2 a0_3 a0_4).bind fun (x10 : (Int × Int × Bool × (List (Option Nat)) × (List (Option Nat)))) => ((laws_eqSheet x5.1 x5.2.1 x5.2.2.1 x5.2.2.2.1 x5.2.2.2.2 x10.1 x10.2.1 x10.2.2.1 x10.2.2.2.1 x10.2.2.2.2).bind fun (x11 : Bool) => (if (!x11) = true then some false else ((laws_markSheet x5.1 x5.2.1 x5.2.2.1 x5.2.2.2.1 x5.2.2.2.2 1).bind fun (x12 : (Int × (List (Option Nat)) × (List (Option Nat)))) => (((if (decide (x12.1 < 0)) = true then some true else ((laws_eqInt64S x7.1 x4.1).bind fun (x14 : Bool) => (if (!x14) = true then some true else some (x7.2 != x4.2)))) : Option Bool).bind fun (x13 : Bool) => (if x13 = true then some false else ((laws_markInt64S x7.1 1).bind fun (x15 : (Int × (List (Int)))) => ((laws_heldInt64S x15.2 1).bind fun (x16 : Int) => (if (decide (x16 < 0)) = true then some false else (if (x16 != x15.1) = true then some false else ((laws_toSheet a0_0 a0_1 a0_2 a0_3 a0_4).bind fun (x17 : (Int × Int × Bool × (List (Option Nat)) × (List (Option Nat)))) => ((laws_toStrip a1_0 a1_1).bind fun (x18 : (Int × Int)) => ((impl_HaloRows x17.1 x17.2.1 x17.2.2.1 x17.2.2.2.1 x17.2.2.2.2 x18.1 x18.2).bind fun (x19 : ((List (Int)) × Bool)) => ((((laws_eqInt64S x19.1 x4.1).bind fun (x21 : Bool) => (if (!x21) = true then some true else some (x19.2 != x4.2))) : Option Bool).bind fun (x20 : Bool) => (if x20 = true then some false else ((laws_heldInt64S x15.2 1).bind fun (x22 : Int) => (if (decide (x22 < 0)) = true then some false else (if (x22 != x15.1) = true then some false else some true))))))))))))))))))))))))))))

set_option maxRecDepth 20000 in
theorem spec_l07Is_ok (h0 : Heap) (b0 : Nat) (a0_0 : Int) (a0_1 : Int) (a0_2 : Bool) (u0_3 : Value) (a0_3 : List (Option Nat)) (g0_3 : SL (kF .f32) h0.size h0 u0_3 a0_3) (u0_4 : Value) (a0_4 : List (Option Nat)) (g0_4 : SL (kF .f32) h0.size h0 u0_4 a0_4) (G0 : Bx h0 b0 [(.int .i64 a0_0), (.int .i64 a0_1), (.bool a0_2), u0_3, u0_4]) (b1 : Nat) (a1_0 : Int) (a1_1 : Int) (G1 : Bx h0 b1 [(.int .i64 a1_0), (.int .i64 a1_1)]) (r : Bool) (hp : spec_l07Is a0_0 a0_1 a0_2 a0_3 a0_4 a1_0 a1_1 = some r) : CallsH Try.prog 116 ([(.pointer (some ⟨b0, 0, none⟩)), (.pointer (some ⟨b1, 0, none⟩))].toArray ++ [].toArray) h0 (fun v h' => v = (.bool r) ∧ h0 = h') := by
 unfold spec_l07Is at hp
 refine callsH_of_W (l := [(.pointer (some ⟨b0, 0, none⟩)), (.pointer (some ⟨b1, 0, none⟩))]) (cap := []) 31 Try.func116 rfl rfl rfl ?_
 refine W.seq ?_
 refine W.region ?_
 refine RL.opD (by decide) (opv_assign rfl rfl) ?_
 refine RL.nil ?_
 refine thnN ?_
 refine W.seq ?_
 obtain ⟨x1, hy1, hp⟩ := Option.bind_eq_some_iff.1 hp
 refine W.cut (fun φ' h' => Fr.sub [(0, (.pointer (some ⟨b0, 0, none⟩))), (1, (.pointer (some ⟨b1, 0, none⟩))), (4, (.bool x1))] φ' ∧ h0 = h') ?_ ?_
 ·refine W.regionH 27 rfl Try.mixed ?_
  refine HK.d 0 rfl rfl rfl (by decide) (by decide +kernel) (fun _ _ _ h => h) (opx_move rfl rfl) ?_
  refine HK.d 1 rfl rfl rfl (by decide) (by decide +kernel) (fun _ _ _ h => h) (opx_nilCheck rfl rfl) ?_
  refine HK.d 2 rfl rfl rfl (by decide) (by decide +kernel) (fun _ _ _ h => h) (opx_fieldAddr rfl Try.fo84_0 rfl) ?_
  refine HK.d 3 rfl rfl rfl (by decide) (by decide +kernel) (fun _ _ _ h => h) (opx_loadB rfl Try.one2 rfl G1 rfl) ?_
  refine HK.d 4 rfl rfl rfl (by decide) (by decide +kernel) (fun _ _ _ h => h) (opx_move rfl rfl) ?_
  refine HK.d 5 rfl rfl rfl (by decide) (by decide +kernel) (fun _ _ _ h => h) (opx_nilCheck rfl rfl) ?_
  refine HK.d 6 rfl rfl rfl (by decide) (by decide +kernel) (fun _ _ _ h => h) (opx_fieldAddr rfl Try.fo33_1 rfl) ?_
  refine HK.d 7 rfl rfl rfl (by decide) (by decide +kernel) (fun _ _ _ h => h) (opx_loadB rfl Try.one2 rfl G0 rfl) ?_
  refine HK.d 8 rfl rfl rfl (by decide) (by decide +kernel) (fun _ _ _ h => h) (opx_sub rfl rfl rfl) ?_
  obtain ⟨x2, hx2, hy1⟩ := Option.bind_eq_some_iff.1 hy1
  refine HK.s 9 _ rfl rfl rfl (by decide) (by decide +kernel) (opv_call (cap := []) (spec_l00In_ok _ _ _ _ _ hx2) rfl rfl ⟨rfl, rfl, rfl, trivial⟩ Try.func127 rfl rfl) ?_
  rintro _ _ ⟨rfl, rfl⟩
  refine ⟨rfl, ?_⟩
  refine HK.d 10 rfl rfl rfl (by decide) (by decide +kernel) (fun _ _ _ h => h) (opx_move rfl rfl) ?_
  by_cases c1 : x2 = true
  ·rw [if_pos c1] at hy1
   refine HK.y 11 rfl rfl rfl rfl rfl c1 (by decide) (by decide +kernel) (fun _ _ _ h => h) (opx_move rfl rfl) ?_
   refine HK.y 12 rfl rfl rfl rfl rfl c1 (by decide) (by decide +kernel) (fun _ _ _ h => h) (opx_nilCheck rfl rfl) ?_
   refine HK.y 13 rfl rfl rfl rfl rfl c1 (by decide) (by decide +kernel) (fun _ _ _ h => h) (opx_fieldAddr rfl Try.fo84_1 rfl) ?_
   refine HK.y 14 rfl rfl rfl rfl rfl c1 (by decide) (by decide +kernel) (fun _ _ _ h => h) (opx_loadB rfl Try.one2 rfl G1 rfl) ?_
   refine HK.y 15 rfl rfl rfl rfl rfl c1 (by decide) (by decide +kernel) (fun _ _ _ h => h) (opx_move rfl rfl) ?_
   refine HK.y 16 rfl rfl rfl rfl rfl c1 (by decide) (by decide +kernel) (fun _ _ _ h => h) (opx_nilCheck rfl rfl) ?_
   refine HK.y 17 rfl rfl rfl rfl rfl c1 (by decide) (by decide +kernel) (fun _ _ _ h => h) (opx_fieldAddr rfl Try.fo33_1 rfl) ?_
   refine HK.y 18 rfl rfl rfl rfl rfl c1 (by decide) (by decide +kernel) (fun _ _ _ h => h) (opx_loadB rfl Try.one2 rfl G0 rfl) ?_
   refine HK.y 19 rfl rfl rfl rfl rfl c1 (by decide) (by decide +kernel) (fun _ _ _ h => h) (opx_move rfl rfl) ?_
   refine HK.y 20 rfl rfl rfl rfl rfl c1 (by decide) (by decide +kernel) (fun _ _ _ h => h) (opx_nilCheck rfl rfl) ?_
   refine HK.y 21 rfl rfl rfl rfl rfl c1 (by decide) (by decide +kernel) (fun _ _ _ h => h) (opx_fieldAddr rfl Try.fo84_0 rfl) ?_
   refine HK.y 22 rfl rfl rfl rfl rfl c1 (by decide) (by decide +kernel) (fun _ _ _ h => h) (opx_loadB rfl Try.one2 rfl G1 rfl) ?_
   refine HK.y 23 rfl rfl rfl rfl rfl c1 (by decide) (by decide +kernel) (fun _ _ _ h => h) (opx_sub rfl rfl rfl) ?_
   obtain ⟨x3, hx3, hy1⟩ := Option.bind_eq_some_iff.1 hy1
   refine HK.sy 24 _ rfl rfl rfl rfl rfl c1 (by decide) (by decide +kernel) (opv_call (cap := []) (spec_l00In_ok _ _ _ _ _ hx3) rfl rfl ⟨rfl, rfl, rfl, trivial⟩ Try.func127 rfl rfl) ?_
   rintro _ _ ⟨rfl, rfl⟩
   refine ⟨rfl, ?_⟩
   refine HK.d 25 rfl rfl rfl (by decide) (by decide +kernel) (fun _ _ _ h => h) (opx_pick rfl rfl (fun _ => rfl) (fun e => absurd (Eq.trans (Eq.symm e) c1) (by decide)) rfl) ?_
   refine HK.d 26 rfl rfl rfl (by decide) (by decide +kernel) (fun _ _ _ h => h) (opx_assign rfl rfl) ?_
   refine HK.done (by decide +kernel) ?_
   have ey1 := Option.some.inj hy1
   subst ey1
   refine onlyN ?_
   exact ⟨⟨rfl, rfl, rfl, trivial⟩, rfl⟩
  ·rw [if_neg c1] at hy1
   have c1 := eq_false_of_ne_true c1
   refine HK.n 11 rfl rfl rfl rfl rfl c1 (by decide) (by decide +kernel) (fun _ _ _ h => h) ?_
   refine HK.n 12 rfl rfl rfl rfl rfl c1 (by decide) (by decide +kernel) (fun _ _ _ h => h) ?_
   refine HK.n 13 rfl rfl rfl rfl rfl c1 (by decide) (by decide +kernel) (fun _ _ _ h => h) ?_
   refine HK.n 14 rfl rfl rfl rfl rfl c1 (by decide) (by decide +kernel) (fun _ _ _ h => h) ?_
   refine HK.n 15 rfl rfl rfl rfl rfl c1 (by decide) (by decide +kernel) (fun _ _ _ h => h) ?_
   refine HK.n 16 rfl rfl rfl rfl rfl c1 (by decide) (by decide +kernel) (fun _ _ _ h => h) ?_
   refine HK.n 17 rfl rfl rfl rfl rfl c1 (by decide) (by decide +kernel) (fun _ _ _ h => h) ?_
   refine HK.n 18 rfl rfl rfl rfl rfl c1 (by decide) (by decide +kernel) (fun _ _ _ h => h) ?_
   refine HK.n 19 rfl rfl rfl rfl rfl c1 (by decide) (by decide +kernel) (fun _ _ _ h => h) ?_
   refine HK.n 20 rfl rfl rfl rfl rfl c1 (by decide) (by decide +kernel) (fun _ _ _ h => h) ?_
   refine HK.n 21 rfl rfl rfl rfl rfl c1 (by decide) (by decide +kernel) (fun _ _ _ h => h) ?_
   refine HK.n 22 rfl rfl rfl rfl rfl c1 (by decide) (by decide +kernel) (fun _ _ _ h => h) ?_
   refine HK.n 23 rfl rfl rfl rfl rfl c1 (by decide) (by decide +kernel) (fun _ _ _ h => h) ?_
   refine HK.n 24 rfl rfl rfl rfl rfl c1 (by decide) (by decide +kernel) (fun _ _ _ h => h) ?_
   refine HK.d 25 rfl rfl rfl (by decide) (by decide +kernel) (fun _ _ _ h => h) (opx_pick rfl rfl (fun e => absurd (Eq.trans (Eq.symm e) c1) (by decide)) (fun _ => rfl) rfl) ?_
   refine HK.d 26 rfl rfl rfl (by decide) (by decide +kernel) (fun _ _ _ h => h) (opx_assign rfl rfl) ?_
   refine HK.done (by decide +kernel) ?_
   have ey1 := Option.some.inj hy1
   subst ey1
   refine onlyN ?_
   exact ⟨⟨rfl, rfl, rfl, trivial⟩, rfl⟩
 rintro φ' _ ⟨hs1, rfl⟩
 refine thnN ?_
 refine W.sub hs1 ?_
 refine W.ret ?_
 have er := Option.some.inj hp
 subst er
 exact Rt.one rfl rfl ⟨rfl, rfl⟩

set_option maxHeartbeats 4000000 in
set_option maxRecDepth 20000 in
theorem spec_l00Put_ok (h0 : Heap) (u0 : Value) (a0 : List (Int)) (g0 : SL (kI .i64) h0.size h0 u0 a0) (a1 : Int) (r : List (Int)) (hp : spec_l00Put a0 a1 = some r) : CallsH Try.prog 159 ([u0, (.int .i64 a1)].toArray ++ [].toArray) h0 (fun v h' => Mod [] h0 h' ∧ Sep [] h0.size h' [ownO (kI .i64) 2 v r]) := by
 unfold spec_l00Put at hp
 refine callsH_of_W (l := [u0, (.int .i64 a1)]) (cap := []) 49 Try.func159 rfl rfl rfl ?_
 refine W.seq ?_
 refine W.region ?_
 refine RL.opD (by decide) (opv_assign rfl rfl) ?_
 have S_1 : Sep [] h0.size h0 [ownO (kI .i64) 2 (.slice none 0 0) ([] : List (Int))] := Sep.addNil (Sep.nil [] h0.size h0)
 refine RL.nil ?_
 refine thnN ?_
 refine W.seq ?_
 refine W.region ?_
 refine RL.op _ (by decide) (opS_lit0 (K := (kI .i64)) rfl Try.underlying71 Try.isinfo2) ?_
 rintro v1 hp1 ⟨MT_1, T_1⟩
 obtain ⟨X_1, S_2⟩ := Sep.turn0 (Mod.refl [] h0) S_1 MT_1 T_1
 refine RL.opD (by decide) (opv_assign rfl rfl) ?_
 refine RL.nil ?_
 refine thnN ?_
 refine W.seq ?_
 refine W.region ?_
 refine RL.opD (by decide) (opv_assign rfl rfl) ?_
 refine RL.nil ?_
 refine thnN ?_
 refine W.seq ?_
 refine W.seq ?_
 refine W.region ?_
 refine RL.opD (by decide) (opv_assign rfl rfl) ?_
 refine RL.nil ?_
 refine thnN ?_
 obtain ⟨y1, hy1, hp⟩ := Option.bind_eq_some_iff.1 hp
 refine W.cut (fun φ' h' => ∃ x4, ∃ x5, ∃ x6, ∃ x7, ∃ v3, y1 = (x4, x5, x6, x7) ∧ Fr.sub [(0, u0), (1, (.int .i64 a1)), (4, (.slice none 0 0)), (6, (.bool x4)), (7, (.int .i64 x5)), (12, (.bool x6)), (5, v3)] φ' ∧ Mod [] h0 h' ∧ Sep [] h0.size h' [ownO (kI .i64) 2 (.slice none 0 0) ([] : List (Int)), ownO (kI .i64) 2 v3 x7]) ?_ ?_
 ·refine W.block ?_
  refine W.loopS (fun (s : ((List (Int)) × Bool × Int)) φ' h' => ∃ v2, Fr.sub [(0, u0), (1, (.int .i64 a1)), (4, (.slice none 0 0)), (5, v2), (6, (.bool s.2.1)), (7, (.int .i64 s.2.2))] φ' ∧ Mod [] h0 h' ∧ Sep [] h0.size h' [ownO (kI .i64) 2 v2 s.1, ownO (kI .i64) 2 (.slice none 0 0) ([] : List (Int))]) hy1 ⟨v1, ⟨rfl, rfl, rfl, rfl, rfl, rfl, trivial⟩, X_1, (Sep.sel S_2 [0, 1] (by decide))⟩ ?_
  rintro ⟨x1, x2, x3⟩ φ' hp2 o1 ⟨v2, hs1, X_2, S_3⟩ ho1 hy1
  have hs1 : Fr.sub [(0, u0), (1, (.int .i64 a1)), (4, (.slice none 0 0)), (5, v2), (6, (.bool x2)), (7, (.int .i64 x3))] φ' := hs1
  have S_3 : Sep [] h0.size hp2 [ownO (kI .i64) 2 v2 x1, ownO (kI .i64) 2 (.slice none 0 0) ([] : List (Int))] := S_3
  have ho1 : spec_l00Put.s0 a0 a1 x1 x2 x3 = some o1 := ho1
  unfold spec_l00Put.s0 at ho1
  refine W.sub hs1 ?_
  refine W.seq ?_
  refine W.seq ?_
  refine W.region ?_
  refine RL.opD (by decide) (opv_move rfl rfl) ?_
  refine RL.opD (by decide) (opv_move rfl rfl) ?_
  refine RL.opD (by decide) (opv_len rfl Try.underlying71 rfl (SL.mod g0 X_2 (Nat.le_refl _) nob)) ?_
  refine RL.opD (by decide) (opv_icmp rfl rfl rfl rfl) ?_
  refine RL.nil ?_
  refine thnN ?_
  by_cases c1 : (decide (x3 < (a0.length : Int))) = true
  ·rw [if_pos c1] at ho1
   refine W.condT rfl c1 ?_
   refine W.skip ?_
   refine thnN ?_
   refine W.seq ?_
   refine W.block ?_
   refine W.seq ?_
   refine W.seq ?_
   obtain ⟨x8, hy2, ho1⟩ := Option.bind_eq_some_iff.1 ho1
   refine W.cut (fun φ' h' => Fr.sub [(0, u0), (1, (.int .i64 a1)), (4, (.slice none 0 0)), (5, v2), (6, (.bool x2)), (7, (.int .i64 x3)), (12, (.bool (decide (x3 < (a0.length : Int))))), (24, (.bool x8))] φ' ∧ hp2 = h') ?_ ?_
   ·refine W.region ?_
    refine RL.opD (by decide) (opv_move rfl rfl) ?_
    refine RL.opD (by decide) (opv_not rfl rfl) ?_
    refine RL.opD (by decide) (opv_move rfl rfl) ?_
    by_cases c2 : (!x2) = true
    ·rw [if_pos c2] at hy2
     refine RL.yesD rfl rfl c2 (by decide) (opv_move rfl rfl) ?_
     refine RL.yesD rfl rfl c2 (by decide) (opv_move rfl rfl) ?_
     obtain ⟨x9, hx9, hy2⟩ := Option.bind_eq_some_iff.1 hy2
     refine RL.yes _ rfl rfl c2 (by decide) (opv_index rfl Try.underlying71 (by rw [Try.size2]; rfl) rfl rfl (SL.mod g0 X_2 (Nat.le_refl _) nob) hx9) ?_
     rintro v4 _ ⟨fv4, rfl⟩
     refine RL.yesD rfl rfl c2 (by decide) (opv_loadI rfl Try.one2 rfl fv4 (SL.mod g0 X_2 (Nat.le_refl _) nob) hx9) ?_
     refine RL.yesD rfl rfl c2 (by decide) (opv_move rfl rfl) ?_
     refine RL.yesD rfl rfl c2 (by decide) (opv_icmp rfl rfl rfl rfl) ?_
     refine RL.opD (by decide) (opv_pick rfl rfl (fun _ => rfl) (fun e => absurd (Eq.trans (Eq.symm e) c2) (by decide)) rfl) ?_
     refine RL.nil ?_
     have ey2 := Option.some.inj hy2
     subst ey2
     refine onlyN ?_
     exact ⟨⟨rfl, rfl, rfl, rfl, rfl, rfl, rfl, rfl, trivial⟩, rfl⟩
    ·rw [if_neg c2] at hy2
     have c2 := eq_false_of_ne_true c2
     refine RL.noF rfl rfl c2 (by decide) ?_
     refine RL.noF rfl rfl c2 (by decide) ?_
     refine RL.noF rfl rfl c2 (by decide) ?_
     refine RL.noF rfl rfl c2 (by decide) ?_
     refine RL.noF rfl rfl c2 (by decide) ?_
     refine RL.noF rfl rfl c2 (by decide) ?_
     refine RL.opD (by decide) (opv_pick rfl rfl (fun e => absurd (Eq.trans (Eq.symm e) c2) (by decide)) (fun _ => rfl) rfl) ?_
     refine RL.nil ?_
     have ey2 := Option.some.inj hy2
     subst ey2
     refine onlyN ?_
     exact ⟨⟨rfl, rfl, rfl, rfl, rfl, rfl, rfl, rfl, trivial⟩, rfl⟩
   rintro φ' _ ⟨hs3, rfl⟩
   refine thnN ?_
   refine W.sub hs3 ?_
   obtain ⟨⟨x10, x11⟩, hy3, ho1⟩ := Option.bind_eq_some_iff.1 ho1
   try dsimp only at ho1
   refine W.cut (fun φ' h' => ∃ v5, Fr.sub [(0, u0), (1, (.int .i64 a1)), (4, (.slice none 0 0)), (7, (.int .i64 x3)), (12, (.bool (decide (x3 < (a0.length : Int))))), (24, (.bool x8)), (6, (.bool x10)), (5, v5)] φ' ∧ Mod [] h0 h' ∧ Sep [] h0.size h' [ownO (kI .i64) 2 (.slice none 0 0) ([] : List (Int)), ownO (kI .i64) 2 v5 x11]) ?_ ?_
   ·by_cases c3 : x8 = true
    ·rw [if_pos c3] at hy3
     refine W.condT rfl c3 ?_
     refine W.seq ?_
     refine W.region ?_
     refine RL.opD (by decide) (opv_assign rfl rfl) ?_
     refine RL.nil ?_
     refine thnN ?_
     refine W.seq ?_
     refine W.region ?_
     refine RL.opD (by decide) (opv_move rfl rfl) ?_
     refine RL.opD (by decide) (opv_move rfl rfl) ?_
     obtain ⟨x12, hx12, hy3⟩ := Option.bind_eq_some_iff.1 hy3
     refine RL.op _ (by decide) (opv_index rfl Try.underlying71 (by rw [Try.size2]; rfl) rfl rfl (SL.mod g0 X_2 (Nat.le_refl _) nob) hx12) ?_
     rintro v6 _ ⟨fv6, rfl⟩
     refine RL.opD (by decide) (opv_loadI rfl Try.one2 rfl fv6 (SL.mod g0 X_2 (Nat.le_refl _) nob) hx12) ?_
     refine RL.opD (by decide) (opv_move rfl rfl) ?_
     refine RL.opD (by decide) (opv_icmp rfl rfl rfl rfl) ?_
     refine RL.nil ?_
     refine thnN ?_
     obtain ⟨x13, hy4, hy3⟩ := Option.bind_eq_some_iff.1 hy3
     refine W.cut (fun φ' h' => ∃ v7, Fr.sub [(0, u0), (1, (.int .i64 a1)), (4, (.slice none 0 0)), (6, (.bool true)), (7, (.int .i64 x3)), (12, (.bool (decide (x3 < (a0.length : Int))))), (24, (.bool x8)), (30, (.bool (decide (x12 > a1)))), (5, v7)] φ' ∧ Mod [] h0 h' ∧ Sep [] h0.size h' [ownO (kI .i64) 2 (.slice none 0 0) ([] : List (Int)), ownO (kI .i64) 2 v7 x13]) ?_ ?_
     ·by_cases c4 : (decide (x12 > a1)) = true
      ·rw [if_pos c4] at hy4
       refine W.condT rfl c4 ?_
       refine W.region ?_
       refine RL.opD (by decide) (opv_move rfl rfl) ?_
       refine RL.opD (by decide) (opv_move rfl rfl) ?_
       refine RL.op _ (by decide) (opS_lit1 (K := (kI .i64)) (z := a1) rfl Try.underlying71 Try.einfo2 rfl rfl rfl rfl rfl) ?_
       rintro v8 hp3 ⟨MT_2, T_2⟩
       obtain ⟨X_3, S_4⟩ := Sep.turn0 X_2 S_3 MT_2 T_2
       obtain ⟨c5, hy4⟩ := of_ite hy4
       refine RL.op _ (by decide) (opS_append (K := (kI .i64)) rfl Try.underlying71 Try.einfo2 rfl rfl rfl rfl (Sep.at (o := ownO (kI .i64) 2 v2 x1) S_4 1 rfl) (ownO.read (Sep.at (o := ownO (kI .i64) 2 v8 [a1]) S_4 0 rfl)) (by decide) (by decide) c5) ?_
       rintro v9 hp4 ⟨MT_3, T_3⟩
       have S_5 : Sep [] h0.size hp3 ([ownO (kI .i64) 2 v2 x1] ++ [ownO (kI .i64) 2 v8 [a1], ownO (kI .i64) 2 (.slice none 0 0) ([] : List (Int))]) := Sep.sel S_4 [1, 0, 2] (by decide)
       obtain ⟨X_4, S_6⟩ := Sep.turn X_3 S_5 MT_3 T_3
       refine RL.opD (by decide) (opv_assign rfl rfl) ?_
       refine RL.nil ?_
       have ey4 := Option.some.inj hy4
       subst ey4
       refine onlyN ?_
       exact ⟨v9, ⟨rfl, rfl, rfl, rfl, rfl, rfl, rfl, rfl, rfl, trivial⟩, X_4, (Sep.sel S_6 [2, 0] (by decide))⟩
      ·rw [if_neg c4] at hy4
       have c4 := eq_false_of_ne_true c4
       refine W.condF rfl c4 ?_
       refine W.skip ?_
       have ey4 := Option.some.inj hy4
       subst ey4
       refine onlyN ?_
       exact ⟨v2, ⟨rfl, rfl, rfl, rfl, rfl, rfl, rfl, rfl, rfl, trivial⟩, X_2, (Sep.sel S_3 [1, 0] (by decide))⟩
     rintro φ' hp5 ⟨v7, hs5, X_5, S_7⟩
     have ey3 := Option.some.inj hy3
     simp only [Prod.mk.injEq] at ey3
     obtain ⟨rfl, rfl⟩ := ey3
     refine onlyN ?_
     exact ⟨v7, (Fr.sub_trans ⟨rfl, rfl, rfl, rfl, rfl, rfl, rfl, rfl, trivial⟩ hs5), X_5, (Sep.sel S_7 [0, 1] (by decide))⟩
    ·rw [if_neg c3] at hy3
     have c3 := eq_false_of_ne_true c3
     refine W.condF rfl c3 ?_
     refine W.skip ?_
     have ey3 := Option.some.inj hy3
     simp only [Prod.mk.injEq] at ey3
     obtain ⟨rfl, rfl⟩ := ey3
     refine onlyN ?_
     exact ⟨v2, ⟨rfl, rfl, rfl, rfl, rfl, rfl, rfl, rfl, trivial⟩, X_2, (Sep.sel S_3 [1, 0] (by decide))⟩
   rintro φ' hp6 ⟨v5, hs4, X_6, S_8⟩
   refine thnN ?_
   refine W.sub hs4 ?_
   refine W.region ?_
   refine RL.opD (by decide) (opv_move rfl rfl) ?_
   refine RL.opD (by decide) (opv_move rfl rfl) ?_
   refine RL.opD (by decide) (opv_move rfl rfl) ?_
   obtain ⟨x14, hx14, ho1⟩ := Option.bind_eq_some_iff.1 ho1
   refine RL.op _ (by decide) (opv_index rfl Try.underlying71 (by rw [Try.size2]; rfl) rfl rfl (SL.mod g0 X_6 (Nat.le_refl _) nob) hx14) ?_
   rintro v10 _ ⟨fv10, rfl⟩
   refine RL.opD (by decide) (opv_loadI rfl Try.one2 rfl fv10 (SL.mod g0 X_6 (Nat.le_refl _) nob) hx14) ?_
   refine RL.op _ (by decide) (opS_lit1 (K := (kI .i64)) (z := x14) rfl Try.underlying71 Try.einfo2 rfl rfl rfl rfl rfl) ?_
   rintro v11 hp7 ⟨MT_4, T_4⟩
   obtain ⟨X_7, S_9⟩ := Sep.turn0 X_6 S_8 MT_4 T_4
   obtain ⟨c6, ho1⟩ := of_ite ho1
   refine RL.op _ (by decide) (opS_append (K := (kI .i64)) rfl Try.underlying71 Try.einfo2 rfl rfl rfl rfl (Sep.at (o := ownO (kI .i64) 2 v5 x11) S_9 2 rfl) (ownO.read (Sep.at (o := ownO (kI .i64) 2 v11 [x14]) S_9 0 rfl)) (by decide) (by decide) c6) ?_
   rintro v12 hp8 ⟨MT_5, T_5⟩
   have S_10 : Sep [] h0.size hp7 ([ownO (kI .i64) 2 v5 x11] ++ [ownO (kI .i64) 2 v11 [x14], ownO (kI .i64) 2 (.slice none 0 0) ([] : List (Int))]) := Sep.sel S_9 [2, 0, 1] (by decide)
   obtain ⟨X_8, S_11⟩ := Sep.turn X_7 S_10 MT_5 T_5
   refine RL.opD (by decide) (opv_assign rfl rfl) ?_
   refine RL.nil ?_
   refine blkN ?_
   refine thnN ?_
   refine W.region ?_
   refine RL.opD (by decide) (opv_move rfl rfl) ?_
   refine RL.opD (by decide) (opv_add rfl rfl rfl) ?_
   refine RL.opD (by decide) (opv_assign rfl rfl) ?_
   refine RL.nil ?_
   have eo1 := Option.some.inj ho1
   subst eo1
   refine rndN (s' := (x11 ++ [x14], x10, IntKind.wrap .i64 (x3 + 1))) rfl ?_
   exact ⟨v12, ⟨rfl, rfl, rfl, rfl, rfl, rfl, trivial⟩, X_8, (Sep.sel S_11 [0, 2] (by decide))⟩
  ·rw [if_neg c1] at ho1
   have c1 := eq_false_of_ne_true c1
   refine W.condF rfl c1 ?_
   refine W.exit ?_
   refine thnX ?_
   refine rndX ?_
   refine blkI ?_
   have eo1 := Option.some.inj ho1
   subst eo1
   have ey1 := hy1 _ rfl
   subst ey1
   refine onlyN ?_
   exact ⟨x2, x3, decide (x3 < (a0.length : Int)), x1, v2, rfl, ⟨rfl, rfl, rfl, rfl, rfl, rfl, rfl, trivial⟩, X_2, (Sep.sel S_3 [1, 0] (by decide))⟩
 rintro φ' hp9 ⟨x4, x5, x6, x7, v3, rfl, hs2, X_9, S_12⟩
 try dsimp only at hp
 refine thnN ?_
 refine W.sub hs2 ?_
 refine W.seq ?_
 refine W.seq ?_
 refine W.region ?_
 refine RL.opD (by decide) (opv_move rfl rfl) ?_
 refine RL.opD (by decide) (opv_not rfl rfl) ?_
 refine RL.nil ?_
 refine thnN ?_
 obtain ⟨x15, hy5, hp⟩ := Option.bind_eq_some_iff.1 hp
 refine W.cut (fun φ' h' => ∃ v13, Fr.sub [(0, u0), (1, (.int .i64 a1)), (4, (.slice none 0 0)), (6, (.bool x4)), (7, (.int .i64 x5)), (12, (.bool x6)), (43, (.bool (!x4))), (5, v13)] φ' ∧ Mod [] h0 h' ∧ Sep [] h0.size h' [ownO (kI .i64) 2 (.slice none 0 0) ([] : List (Int)), ownO (kI .i64) 2 v13 x15]) ?_ ?_
 ·by_cases c7 : (!x4) = true
  ·rw [if_pos c7] at hy5
   refine W.condT rfl c7 ?_
   refine W.region ?_
   refine RL.opD (by decide) (opv_move rfl rfl) ?_
   refine RL.opD (by decide) (opv_move rfl rfl) ?_
   refine RL.op _ (by decide) (opS_lit1 (K := (kI .i64)) (z := a1) rfl Try.underlying71 Try.einfo2 rfl rfl rfl rfl rfl) ?_
   rintro v14 hp10 ⟨MT_6, T_6⟩
   obtain ⟨X_10, S_13⟩ := Sep.turn0 X_9 S_12 MT_6 T_6
   obtain ⟨c8, hy5⟩ := of_ite hy5
   refine RL.op _ (by decide) (opS_append (K := (kI .i64)) rfl Try.underlying71 Try.einfo2 rfl rfl rfl rfl (Sep.at (o := ownO (kI .i64) 2 v3 x7) S_13 2 rfl) (ownO.read (Sep.at (o := ownO (kI .i64) 2 v14 [a1]) S_13 0 rfl)) (by decide) (by decide) c8) ?_
   rintro v15 hp11 ⟨MT_7, T_7⟩
   have S_14 : Sep [] h0.size hp10 ([ownO (kI .i64) 2 v3 x7] ++ [ownO (kI .i64) 2 v14 [a1], ownO (kI .i64) 2 (.slice none 0 0) ([] : List (Int))]) := Sep.sel S_13 [2, 0, 1] (by decide)
   obtain ⟨X_11, S_15⟩ := Sep.turn X_10 S_14 MT_7 T_7
   refine RL.opD (by decide) (opv_assign rfl rfl) ?_
   refine RL.nil ?_
   have ey5 := Option.some.inj hy5
   subst ey5
   refine onlyN ?_
   exact ⟨v15, ⟨rfl, rfl, rfl, rfl, rfl, rfl, rfl, rfl, trivial⟩, X_11, (Sep.sel S_15 [2, 0] (by decide))⟩
  ·rw [if_neg c7] at hy5
   have c7 := eq_false_of_ne_true c7
   refine W.condF rfl c7 ?_
   refine W.skip ?_
   have ey5 := Option.some.inj hy5
   subst ey5
   refine onlyN ?_
   exact ⟨v3, ⟨rfl, rfl, rfl, rfl, rfl, rfl, rfl, rfl, trivial⟩, X_9, (Sep.sel S_12 [0, 1] (by decide))⟩
 rintro φ' hp12 ⟨v13, hs6, X_12, S_16⟩
 refine thnN ?_
 refine W.sub hs6 ?_
 refine W.seq ?_
 refine W.region ?_
 refine RL.opD (by decide) (opv_move rfl rfl) ?_
 refine RL.opD (by decide) (opv_assign rfl rfl) ?_
 refine RL.nil ?_
 refine thnN ?_
 refine W.ret ?_
 have er := Option.some.inj hp
 subst er
 exact Rt.one rfl rfl ⟨X_12, (Sep.sel S_16 [1] (by decide))⟩

set_option maxHeartbeats 4000000 in
set_option maxRecDepth 20000 in
theorem spec_l07Halo_ok (h0 : Heap) (b0 : Nat) (a0_0 : Int) (a0_1 : Int) (a0_2 : Bool) (u0_3 : Value) (a0_3 : List (Option Nat)) (g0_3 : SL (kF .f32) h0.size h0 u0_3 a0_3) (u0_4 : Value) (a0_4 : List (Option Nat)) (g0_4 : SL (kF .f32) h0.size h0 u0_4 a0_4) (G0 : Bx h0 b0 [(.int .i64 a0_0), (.int .i64 a0_1), (.bool a0_2), u0_3, u0_4]) (b1 : Nat) (a1_0 : Int) (a1_1 : Int) (G1 : Bx h0 b1 [(.int .i64 a1_0), (.int .i64 a1_1)]) (r : List (Int)) (hp : spec_l07Halo a0_0 a0_1 a0_2 a0_3 a0_4 a1_0 a1_1 = some r) : CallsH Try.prog 117 ([(.pointer (some ⟨b0, 0, none⟩)), (.pointer (some ⟨b1, 0, none⟩))].toArray ++ [].toArray) h0 (fun v h' => Mod [] h0 h' ∧ Sep [] h0.size h' [ownO (kI .i64) 2 v r]) := by
 unfold spec_l07Halo at hp
 refine callsH_of_W (l := [(.pointer (some ⟨b0, 0, none⟩)), (.pointer (some ⟨b1, 0, none⟩))]) (cap := []) 54 Try.func117 rfl rfl rfl ?_
 refine W.seq ?_
 refine W.region ?_
 refine RL.opD (by decide) (opv_assign rfl rfl) ?_
 have S_1 : Sep [] h0.size h0 [ownO (kI .i64) 2 (.slice none 0 0) ([] : List (Int))] := Sep.addNil (Sep.nil [] h0.size h0)
 refine RL.nil ?_
 refine thnN ?_
 refine W.seq ?_
 refine W.region ?_
 refine RL.op _ (by decide) (opS_lit0 (K := (kI .i64)) rfl Try.underlying71 Try.isinfo2) ?_
 rintro v1 hp1 ⟨MT_1, T_1⟩
 obtain ⟨X_1, S_2⟩ := Sep.turn0 (Mod.refl [] h0) S_1 MT_1 T_1
 refine RL.opD (by decide) (opv_assign rfl rfl) ?_
 refine RL.nil ?_
 refine thnN ?_
 refine W.seq ?_
 refine W.seq ?_
 refine W.region ?_
 refine RL.opD (by decide) (opv_move rfl rfl) ?_
 refine RL.opD (by decide) (opv_nilCheck rfl rfl) ?_
 refine RL.opD (by decide) (opv_fieldAddr rfl Try.fo84_0 rfl) ?_
 refine RL.opD (by decide) (opv_loadB rfl Try.one2 rfl (Bx.mod G1 X_1 nobB) rfl) ?_
 refine RL.opD (by decide) (opv_sub rfl rfl rfl) ?_
 refine RL.opD (by decide) (opv_assign rfl rfl) ?_
 refine RL.nil ?_
 refine thnN ?_
 obtain ⟨y1, hy1, hp⟩ := Option.bind_eq_some_iff.1 hp
 refine W.cut (fun φ' h' => ∃ x3, ∃ x4, ∃ x5, ∃ v3, y1 = (x3, x4, x5) ∧ Fr.sub [(0, (.pointer (some ⟨b0, 0, none⟩))), (1, (.pointer (some ⟨b1, 0, none⟩))), (4, (.slice none 0 0)), (6, (.int .i64 x3)), (23, (.bool x4)), (5, v3)] φ' ∧ Mod [] h0 h' ∧ Sep [] h0.size h' [ownO (kI .i64) 2 (.slice none 0 0) ([] : List (Int)), ownO (kI .i64) 2 v3 x5]) ?_ ?_
 ·refine W.block ?_
  refine W.loopS (fun (s : ((List (Int)) × Int)) φ' h' => ∃ v2, Fr.sub [(0, (.pointer (some ⟨b0, 0, none⟩))), (1, (.pointer (some ⟨b1, 0, none⟩))), (4, (.slice none 0 0)), (5, v2), (6, (.int .i64 s.2))] φ' ∧ Mod [] h0 h' ∧ Sep [] h0.size h' [ownO (kI .i64) 2 v2 s.1, ownO (kI .i64) 2 (.slice none 0 0) ([] : List (Int))]) hy1 ⟨v1, ⟨rfl, rfl, rfl, rfl, rfl, trivial⟩, X_1, (Sep.sel S_2 [0, 1] (by decide))⟩ ?_
  rintro ⟨x1, x2⟩ φ' hp2 o1 ⟨v2, hs1, X_2, S_3⟩ ho1 hy1
  have hs1 : Fr.sub [(0, (.pointer (some ⟨b0, 0, none⟩))), (1, (.pointer (some ⟨b1, 0, none⟩))), (4, (.slice none 0 0)), (5, v2), (6, (.int .i64 x2))] φ' := hs1
  have S_3 : Sep [] h0.size hp2 [ownO (kI .i64) 2 v2 x1, ownO (kI .i64) 2 (.slice none 0 0) ([] : List (Int))] := S_3
  have ho1 : spec_l07Halo.s0 a0_1 a0_2 a1_0 a1_1 x1 x2 = some o1 := ho1
  unfold spec_l07Halo.s0 at ho1
  refine W.sub hs1 ?_
  refine W.seq ?_
  refine W.seq ?_
  refine W.sub (ψ := [(0, (.pointer (some ⟨b0, 0, none⟩))), (1, (.pointer (some ⟨b1, 0, none⟩))), (4, (.slice none 0 0)), (5, v2), (6, (.int .i64 x2))]) ⟨rfl, rfl, rfl, rfl, rfl, trivial⟩ ?_
  refine W.regionP [fun v _ => @Eq Value (.int .i64 x2) v, fun v _ => @Eq Value (.pointer (some ⟨b1, 0, none⟩)) v, fun v _ => @Eq Value (.pointer (some ⟨b1, 0, none⟩)) v, fun v _ => @Eq Value (.pointer (some ⟨b1, 0, none⟩)) v, fun v _ => @Eq Value (.int .i64 a1_0) v, fun v _ => @Eq Value (.pointer (some ⟨b1, 0, none⟩)) v, fun v _ => @Eq Value (.pointer (some ⟨b1, 0, none⟩)) v, fun v _ => @Eq Value (.pointer (some ⟨b1, 1, none⟩)) v, fun v _ => @Eq Value (.int .i64 a1_1) v, fun v _ => @Eq Value (.int .i64 (IntKind.wrap .i64 (a1_0 + a1_1))) v, fun v _ => @Eq Value (.bool (decide (x2 ≤ (IntKind.wrap .i64 (a1_0 + a1_1))))) v] [[], [], [1], [2], [3], [], [5], [6], [7], [4, 8], [0, 9]] [10] Try.mixed (by decide +kernel) (by decide +kernel) rfl rfl rfl ?_ ?_
  ·refine ⟨⟨rfl, ?_⟩, ⟨rfl, ?_⟩, ⟨rfl, ?_⟩, ⟨rfl, ?_⟩, ⟨rfl, ?_⟩, ⟨rfl, ?_⟩, ⟨rfl, ?_⟩, ⟨rfl, ?_⟩, ⟨rfl, ?_⟩, ⟨rfl, ?_⟩, ⟨rfl, ?_⟩, trivial⟩
   ·rintro _ rfl
    refine Dep.nil ?_
    refine GuardOK.none rfl ?_
    exact OpV.toD (opv_move rfl rfl) rfl
   ·rintro _ rfl
    refine Dep.nil ?_
    refine GuardOK.none rfl ?_
    exact OpV.toD (opv_move rfl rfl) rfl
   ·rintro _ rfl _ rfl
    refine Dep.nil ?_
    refine GuardOK.none rfl ?_
    exact OpV.toD (opv_nilCheck rfl rfl) rfl
   ·rintro _ rfl _ rfl
    refine Dep.nil ?_
    refine GuardOK.none rfl ?_
    exact OpV.toD (opv_fieldAddr rfl Try.fo84_0 rfl) rfl
   ·rintro _ rfl _ rfl
    refine Dep.nil ?_
    refine GuardOK.none rfl ?_
    exact OpV.toD (opv_loadB rfl Try.one2 rfl (Bx.mod G1 X_2 nobB) rfl) rfl
   ·rintro _ rfl
    refine Dep.nil ?_
    refine GuardOK.none rfl ?_
    exact OpV.toD (opv_move rfl rfl) rfl
   ·rintro _ rfl _ rfl
    refine Dep.nil ?_
    refine GuardOK.none rfl ?_
    exact OpV.toD (opv_nilCheck rfl rfl) rfl
   ·rintro _ rfl _ rfl
    refine Dep.nil ?_
    refine GuardOK.none rfl ?_
    exact OpV.toD (opv_fieldAddr rfl Try.fo84_1 rfl) rfl
   ·rintro _ rfl _ rfl
    refine Dep.nil ?_
    refine GuardOK.none rfl ?_
    exact OpV.toD (opv_loadB rfl Try.one2 rfl (Bx.mod G1 X_2 nobB) rfl) rfl
   ·rintro _ rfl _ rfl _ rfl
    refine Dep.nil ?_
    refine GuardOK.none rfl ?_
    exact OpV.toD (opv_add rfl rfl rfl) rfl
   ·rintro _ rfl _ rfl _ rfl
    refine Dep.nil ?_
    refine GuardOK.none rfl ?_
    exact OpV.toD (opv_icmp rfl rfl rfl rfl) rfl
  rintro _ rfl
  refine Dep.nil ?_
  show RL _ _ _ _ [] _ _
  refine RL.nil ?_
  refine thnN ?_
  by_cases c1 : (decide (x2 ≤ (IntKind.wrap .i64 (a1_0 + a1_1)))) = true
  ·rw [if_pos c1] at ho1
   refine W.condT rfl c1 ?_
   refine W.skip ?_
   refine thnN ?_
   refine W.seq ?_
   refine W.block ?_
   refine W.seq ?_
   refine W.region ?_
   refine RL.opD (by decide) (opv_move rfl rfl) ?_
   refine RL.opD (by decide) (opv_nilCheck rfl rfl) ?_
   refine RL.opD (by decide) (opv_fieldAddr rfl Try.fo33_2 rfl) ?_
   refine RL.opD (by decide) (opv_loadB rfl Try.one4 rfl (Bx.mod G0 X_2 nobB) rfl) ?_
   refine RL.nil ?_
   refine thnN ?_
   obtain ⟨x6, hy2, ho1⟩ := Option.bind_eq_some_iff.1 ho1
   refine W.cut (fun φ' h' => ∃ v4, Fr.sub [(0, (.pointer (some ⟨b0, 0, none⟩))), (1, (.pointer (some ⟨b1, 0, none⟩))), (4, (.slice none 0 0)), (6, (.int .i64 x2)), (23, (.bool (decide (x2 ≤ (IntKind.wrap .i64 (a1_0 + a1_1)))))), (29, (.bool a0_2)), (5, v4)] φ' ∧ Mod [] h0 h' ∧ Sep [] h0.size h' [ownO (kI .i64) 2 (.slice none 0 0) ([] : List (Int)), ownO (kI .i64) 2 v4 x6]) ?_ ?_
   ·by_cases c2 : a0_2 = true
    ·rw [if_pos c2] at hy2
     refine W.condT rfl c2 ?_
     by_cases nc3 : a0_1 = 0
     ·rw [if_pos nc3] at hy2; cases hy2
     rw [if_neg nc3] at hy2
     have c3 : a0_1 ≠ 0 := nc3
     obtain ⟨x7, hx7, hy2⟩ := Option.bind_eq_some_iff.1 hy2
     refine W.sub (ψ := [(0, (.pointer (some ⟨b0, 0, none⟩))), (1, (.pointer (some ⟨b1, 0, none⟩))), (4, (.slice none 0 0)), (5, v2), (6, (.int .i64 x2)), (23, (.bool (decide (x2 ≤ (IntKind.wrap .i64 (a1_0 + a1_1)))))), (29, (.bool a0_2))]) ⟨rfl, rfl, rfl, rfl, rfl, rfl, rfl, trivial⟩ ?_
     refine W.regionS [fun v _ => @Eq Value v2 v, fun v _ => @Eq Value (.int .i64 x2) v, fun v _ => @Eq Value (.pointer (some ⟨b0, 0, none⟩)) v, fun v _ => @Eq Value (.pointer (some ⟨b0, 0, none⟩)) v, fun v _ => @Eq Value (.pointer (some ⟨b0, 1, none⟩)) v, fun v _ => @Eq Value (.int .i64 a0_1) v, fun v _ => @Eq Value (.int .i64 (IntKind.wrap .i64 (x2 + a0_1))) v, fun v _ => @Eq Value (.pointer (some ⟨b0, 0, none⟩)) v, fun v _ => @Eq Value (.pointer (some ⟨b0, 0, none⟩)) v, fun v _ => @Eq Value (.pointer (some ⟨b0, 1, none⟩)) v, fun v _ => @Eq Value (.int .i64 a0_1) v, fun v _ => @Eq Value (.int .i64 (Int.tmod (IntKind.wrap .i64 (x2 + a0_1)) a0_1)) v, fun v5 h => Sep [] hp2.size h [ownO (kI .i64) 2 v5 x7]] [[], [], [], [2], [3], [4], [1, 5], [], [7], [8], [9], [6, 10], [0, 11]] [12] Try.mixed (by decide +kernel) (by decide +kernel) rfl rfl rfl ⟨fun _ _ _ h _ => h, fun _ _ _ h _ => h, fun _ _ _ h _ => h, fun _ _ _ h _ => h, fun _ _ _ h _ => h, fun _ _ _ h _ => h, fun _ _ _ h _ => h, fun _ _ _ h _ => h, fun _ _ _ h _ => h, fun _ _ _ h _ => h, fun _ _ _ h _ => h, fun _ _ _ h _ => h, fun _ _ _ h x => h.ext x, trivial⟩ ?_ ?_
     ·refine ⟨⟨rfl, ?_⟩, ⟨rfl, ?_⟩, ⟨rfl, ?_⟩, ⟨rfl, ?_⟩, ⟨rfl, ?_⟩, ⟨rfl, ?_⟩, ⟨rfl, ?_⟩, ⟨rfl, ?_⟩, ⟨rfl, ?_⟩, ⟨rfl, ?_⟩, ⟨rfl, ?_⟩, ⟨rfl, ?_⟩, ⟨rfl, ?_⟩, trivial⟩
      ·rintro hp4 E_1
       refine Dep.nil ?_
       refine GuardOK.none rfl ?_
       exact OpV.toDx (opv_move rfl rfl) rfl
      ·rintro hp5 E_2
       refine Dep.nil ?_
       refine GuardOK.none rfl ?_
       exact OpV.toDx (opv_move rfl rfl) rfl
      ·rintro hp6 E_3
       refine Dep.nil ?_
       refine GuardOK.none rfl ?_
       exact OpV.toDx (opv_move rfl rfl) rfl
      ·rintro hp7 E_4 _ rfl
       refine Dep.nil ?_
       refine GuardOK.none rfl ?_
       exact OpV.toDx (opv_nilCheck rfl rfl) rfl
      ·rintro hp8 E_5 _ rfl
       refine Dep.nil ?_
       refine GuardOK.none rfl ?_
       exact OpV.toDx (opv_fieldAddr rfl Try.fo33_1 rfl) rfl
      ·rintro hp9 E_6 _ rfl
       refine Dep.nil ?_
       refine GuardOK.none rfl ?_
       exact OpV.toDx (opv_loadB rfl Try.one2 rfl (Bx.mod G0 (Mod.lift X_2 E_6) nobB) rfl) rfl
      ·rintro hp10 E_7 _ rfl _ rfl
       refine Dep.nil ?_
       refine GuardOK.none rfl ?_
       exact OpV.toDx (opv_add rfl rfl rfl) rfl
      ·rintro hp11 E_8
       refine Dep.nil ?_
       refine GuardOK.none rfl ?_
       exact OpV.toDx (opv_move rfl rfl) rfl
      ·rintro hp12 E_9 _ rfl
       refine Dep.nil ?_
       refine GuardOK.none rfl ?_
       exact OpV.toDx (opv_nilCheck rfl rfl) rfl
      ·rintro hp13 E_10 _ rfl
       refine Dep.nil ?_
       refine GuardOK.none rfl ?_
       exact OpV.toDx (opv_fieldAddr rfl Try.fo33_1 rfl) rfl
      ·rintro hp14 E_11 _ rfl
       refine Dep.nil ?_
       refine GuardOK.none rfl ?_
       exact OpV.toDx (opv_loadB rfl Try.one2 rfl (Bx.mod G0 (Mod.lift X_2 E_11) nobB) rfl) rfl
      ·rintro hp15 E_12 _ rfl _ rfl
       refine Dep.nil ?_
       refine GuardOK.none rfl ?_
       exact OpV.toDx (opv_rem rfl c3 rfl rfl) rfl
      ·rintro hp16 E_13 _ rfl _ rfl
       refine Dep.nil ?_
       refine GuardOK.none rfl ?_
       exact OpV.mono (opv_call (cap := []) (spec_l00Put_ok _ _ _ (ownO.read (Sep.at (o := ownO (kI .i64) 2 v2 x1) (Sep.ext S_3 E_13) 0 rfl)) _ _ hx7) rfl rfl ⟨rfl, rfl, trivial⟩ Try.func159 rfl rfl) (by rintro _ _ ⟨M_, T_⟩; exact ⟨Mod.ext M_, Sep.weak T_ (Ext.size E_13)⟩)
     rintro hp17 E_14 v5 T_2
     have X_4 := Mod.lift X_2 E_14
     have S_5 := Sep.join S_3 (Mod.size X_2) (Ext.mod E_14 []) T_2
     refine Dep.nil ?_
     show RL _ _ _ _ (_ :: _) _ _
     refine RL.opD (by decide) (opv_assign rfl rfl) ?_
     refine RL.nil ?_
     have ey2 := Option.some.inj hy2
     subst ey2
     refine onlyN ?_
     exact ⟨v5, ⟨rfl, rfl, rfl, rfl, rfl, rfl, rfl, trivial⟩, X_4, (Sep.sel S_5 [2, 0] (by decide))⟩
    ·rw [if_neg c2] at hy2
     have c2 := eq_false_of_ne_true c2
     refine W.condF rfl c2 ?_
     refine W.seq ?_
     refine W.region ?_
     refine RL.opD (by decide) (opv_move rfl rfl) ?_
     refine RL.opD (by decide) (opv_move rfl rfl) ?_
     refine RL.opD (by decide) (opv_nilCheck rfl rfl) ?_
     refine RL.opD (by decide) (opv_fieldAddr rfl Try.fo33_1 rfl) ?_
     refine RL.opD (by decide) (opv_loadB rfl Try.one2 rfl (Bx.mod G0 X_2 nobB) rfl) ?_
     refine RL.opD (by decide) (opv_sub rfl rfl rfl) ?_
     obtain ⟨x8, hx8, hy2⟩ := Option.bind_eq_some_iff.1 hy2
     refine RL.op _ (by decide) (opv_call (cap := []) (spec_l00In_ok _ _ _ _ _ hx8) rfl rfl ⟨rfl, rfl, rfl, trivial⟩ Try.func127 rfl rfl) ?_
     rintro _ _ ⟨rfl, rfl⟩
     refine RL.nil ?_
     refine thnN ?_
     obtain ⟨x9, hy3, hy2⟩ := Option.bind_eq_some_iff.1 hy2
     refine W.cut (fun φ' h' => ∃ v7, Fr.sub [(0, (.pointer (some ⟨b0, 0, none⟩))), (1, (.pointer (some ⟨b1, 0, none⟩))), (4, (.slice none 0 0)), (6, (.int .i64 x2)), (23, (.bool (decide (x2 ≤ (IntKind.wrap .i64 (a1_0 + a1_1)))))), (29, (.bool a0_2)), (49, (.bool x8)), (5, v7)] φ' ∧ Mod [] h0 h' ∧ Sep [] h0.size h' [ownO (kI .i64) 2 (.slice none 0 0) ([] : List (Int)), ownO (kI .i64) 2 v7 x9]) ?_ ?_
     ·by_cases c4 : x8 = true
      ·rw [if_pos c4] at hy3
       refine W.condT rfl c4 ?_
       refine W.region ?_
       refine RL.opD (by decide) (opv_move rfl rfl) ?_
       refine RL.opD (by decide) (opv_move rfl rfl) ?_
       obtain ⟨x10, hx10, hy3⟩ := Option.bind_eq_some_iff.1 hy3
       refine RL.op _ (by decide) (opv_call (cap := []) (spec_l00Put_ok _ _ _ (ownO.read (Sep.at (o := ownO (kI .i64) 2 v2 x1) S_3 0 rfl)) _ _ hx10) rfl rfl ⟨rfl, rfl, trivial⟩ Try.func159 rfl rfl) ?_
       rintro v8 hp18 ⟨MT_3, T_3⟩
       obtain ⟨X_5, S_6⟩ := Sep.turn0 X_2 S_3 MT_3 T_3
       refine RL.opD (by decide) (opv_assign rfl rfl) ?_
       refine RL.nil ?_
       have ey3 := Option.some.inj hy3
       subst ey3
       refine onlyN ?_
       exact ⟨v8, ⟨rfl, rfl, rfl, rfl, rfl, rfl, rfl, rfl, trivial⟩, X_5, (Sep.sel S_6 [2, 0] (by decide))⟩
      ·rw [if_neg c4] at hy3
       have c4 := eq_false_of_ne_true c4
       refine W.condF rfl c4 ?_
       refine W.skip ?_
       have ey3 := Option.some.inj hy3
       subst ey3
       refine onlyN ?_
       exact ⟨v2, ⟨rfl, rfl, rfl, rfl, rfl, rfl, rfl, rfl, trivial⟩, X_2, (Sep.sel S_3 [1, 0] (by decide))⟩
     rintro φ' hp19 ⟨v7, hs4, X_6, S_7⟩
     have ey2 := Option.some.inj hy2
     subst ey2
     refine onlyN ?_
     exact ⟨v7, (Fr.sub_trans ⟨rfl, rfl, rfl, rfl, rfl, rfl, rfl, trivial⟩ hs4), X_6, (Sep.sel S_7 [0, 1] (by decide))⟩
   rintro φ' hp20 ⟨v4, hs3, X_7, S_8⟩
   refine blkN ?_
   refine thnN ?_
   refine W.sub hs3 ?_
   refine W.region ?_
   refine RL.opD (by decide) (opv_move rfl rfl) ?_
   refine RL.opD (by decide) (opv_add rfl rfl rfl) ?_
   refine RL.opD (by decide) (opv_assign rfl rfl) ?_
   refine RL.nil ?_
   have eo1 := Option.some.inj ho1
   subst eo1
   refine rndN (s' := (x6, IntKind.wrap .i64 (x2 + 1))) rfl ?_
   exact ⟨v4, ⟨rfl, rfl, rfl, rfl, rfl, trivial⟩, X_7, (Sep.sel S_8 [1, 0] (by decide))⟩
  ·rw [if_neg c1] at ho1
   have c1 := eq_false_of_ne_true c1
   refine W.condF rfl c1 ?_
   refine W.exit ?_
   refine thnX ?_
   refine rndX ?_
   refine blkI ?_
   have eo1 := Option.some.inj ho1
   subst eo1
   have ey1 := hy1 _ rfl
   subst ey1
   refine onlyN ?_
   exact ⟨x2, decide (x2 ≤ (IntKind.wrap .i64 (a1_0 + a1_1))), x1, v2, rfl, ⟨rfl, rfl, rfl, rfl, rfl, rfl, trivial⟩, X_2, (Sep.sel S_3 [1, 0] (by decide))⟩
 rintro φ' hp21 ⟨x3, x4, x5, v3, rfl, hs2, X_8, S_9⟩
 try dsimp only at hp
 refine thnN ?_
 refine W.sub hs2 ?_
 refine W.seq ?_
 refine W.region ?_
 refine RL.opD (by decide) (opv_move rfl rfl) ?_
 refine RL.opD (by decide) (opv_assign rfl rfl) ?_
 refine RL.nil ?_
 refine thnN ?_
 refine W.ret ?_
 have er := Option.some.inj hp
 subst er
 exact Rt.one rfl rfl ⟨X_8, (Sep.sel S_9 [1] (by decide))⟩

set_option maxRecDepth 20000 in
theorem spec_HaloRows_ok (h0 : Heap) (a0_0 : Int) (a0_1 : Int) (a0_2 : Bool) (u0_3 : Value) (a0_3 : List (Option Nat)) (g0_3 : SL (kF .f32) h0.size h0 u0_3 a0_3) (u0_4 : Value) (a0_4 : List (Option Nat)) (g0_4 : SL (kF .f32) h0.size h0 u0_4 a0_4) (a1_0 : Int) (a1_1 : Int) (r : ((List (Int)) × Bool)) (hp : spec_HaloRows a0_0 a0_1 a0_2 a0_3 a0_4 a1_0 a1_1 = some r) : CallsH Try.prog 50 ([(.agg (List.toArray (α := Value) [(.int .i64 a0_0), (.int .i64 a0_1), (.bool a0_2), u0_3, u0_4])), (.agg (List.toArray (α := Value) [(.int .i64 a1_0), (.int .i64 a1_1)]))].toArray ++ [].toArray) h0 (fun v h' => ∃ w0, v = (.tuple (List.toArray (α := Value) [w0, (.bool r.2)])) ∧ Mod [] h0 h' ∧ Sep [] h0.size h' [ownO (kI .i64) 2 w0 r.1]) := by
 unfold spec_HaloRows at hp
 refine callsH_of_W (l := [(.agg (List.toArray (α := Value) [(.int .i64 a0_0), (.int .i64 a0_1), (.bool a0_2), u0_3, u0_4])), (.agg (List.toArray (α := Value) [(.int .i64 a1_0), (.int .i64 a1_1)]))]) (cap := []) 13 Try.func50 rfl rfl rfl ?_
 refine W.seq ?_
 refine W.region ?_
 refine RL.op _ (by decide) (opS_boxed (opv_boxA (cs := [(.int .i64 a0_0), (.int .i64 a0_1), (.bool a0_2), u0_3, u0_4]) rfl rfl)) ?_
 rintro _ hp1 ⟨bb1, rfl, MT_1, T_1⟩
 obtain ⟨X_1, S_1⟩ := Sep.turn0 (Mod.refl [] h0) (Sep.nil [] h0.size h0) MT_1 T_1
 refine RL.op _ (by decide) (opS_boxed (opv_boxA (cs := [(.int .i64 a1_0), (.int .i64 a1_1)]) rfl rfl)) ?_
 rintro _ hp2 ⟨bb2, rfl, MT_2, T_2⟩
 obtain ⟨X_2, S_2⟩ := Sep.turn0 X_1 S_1 MT_2 T_2
 refine RL.opD (by decide) (opv_assign rfl rfl) ?_
 have S_3 : Sep [] h0.size hp2 [ownO (kI .i64) 2 (.slice none 0 0) ([] : List (Int)), boxO bb2 [(.int .i64 a1_0), (.int .i64 a1_1)], boxO bb1 [(.int .i64 a0_0), (.int .i64 a0_1), (.bool a0_2), u0_3, u0_4]] := Sep.addNil S_2
 refine RL.opD (by decide) (opv_assign rfl rfl) ?_
 refine RL.nil ?_
 refine thnN ?_
 refine W.seq ?_
 refine W.seq ?_
 obtain ⟨x1, hy1, hp⟩ := Option.bind_eq_some_iff.1 hp
 refine W.cut (fun φ' h' => Fr.sub [(0, (.agg (List.toArray (α := Value) [(.int .i64 a0_0), (.int .i64 a0_1), (.bool a0_2), u0_3, u0_4]))), (1, (.agg (List.toArray (α := Value) [(.int .i64 a1_0), (.int .i64 a1_1)]))), (2, (.pointer (some ⟨bb1, 0, none⟩))), (3, (.pointer (some ⟨bb2, 0, none⟩))), (4, (.slice none 0 0)), (5, (.bool false)), (11, (.bool x1))] φ' ∧ hp2 = h') ?_ ?_
 ·refine W.region ?_
  obtain ⟨x2, hx2, hy1⟩ := Option.bind_eq_some_iff.1 hy1
  refine RL.op _ (by decide) (opv_call (cap := []) (spec_l02Is_ok _ _ _ _ _ _ _ (SL.up (SL.mod g0_3 X_2 (Nat.le_refl _) nob) (Nat.le_trans (Nat.le_refl _) (Mod.size X_2))) _ _ (SL.up (SL.mod g0_4 X_2 (Nat.le_refl _) nob) (Nat.le_trans (Nat.le_refl _) (Mod.size X_2))) (Sep.at (o := boxO bb1 [(.int .i64 a0_0), (.int .i64 a0_1), (.bool a0_2), u0_3, u0_4]) S_3 2 rfl) _ hx2) rfl rfl ⟨rfl, trivial⟩ Try.func115 rfl rfl) ?_
  rintro _ _ ⟨rfl, rfl⟩
  refine RL.opD (by decide) (opv_not rfl rfl) ?_
  refine RL.opD (by decide) (opv_move rfl rfl) ?_
  by_cases c1 : (!x2) = true
  ·rw [if_pos c1] at hy1
   refine RL.noT rfl rfl c1 (by decide) ?_
   refine RL.noT rfl rfl c1 (by decide) ?_
   refine RL.opD (by decide) (opv_pick rfl rfl (fun _ => rfl) (fun e => absurd (Eq.trans (Eq.symm e) c1) (by decide)) rfl) ?_
   refine RL.nil ?_
   have ey1 := Option.some.inj hy1
   subst ey1
   refine onlyN ?_
   exact ⟨⟨rfl, rfl, rfl, rfl, rfl, rfl, rfl, trivial⟩, rfl⟩
  ·rw [if_neg c1] at hy1
   have c1 := eq_false_of_ne_true c1
   obtain ⟨x3, hx3, hy1⟩ := Option.bind_eq_some_iff.1 hy1
   refine RL.yes _ rfl rfl c1 (by decide) (opv_call (cap := []) (spec_l07Is_ok _ _ _ _ _ _ _ (SL.up (SL.mod g0_3 X_2 (Nat.le_refl _) nob) (Nat.le_trans (Nat.le_refl _) (Mod.size X_2))) _ _ (SL.up (SL.mod g0_4 X_2 (Nat.le_refl _) nob) (Nat.le_trans (Nat.le_refl _) (Mod.size X_2))) (Sep.at (o := boxO bb1 [(.int .i64 a0_0), (.int .i64 a0_1), (.bool a0_2), u0_3, u0_4]) S_3 2 rfl) _ _ _ (Sep.at (o := boxO bb2 [(.int .i64 a1_0), (.int .i64 a1_1)]) S_3 1 rfl) _ hx3) rfl rfl ⟨rfl, rfl, trivial⟩ Try.func116 rfl rfl) ?_
   rintro _ _ ⟨rfl, rfl⟩
   refine RL.yesD rfl rfl c1 (by decide) (opv_not rfl rfl) ?_
   refine RL.opD (by decide) (opv_pick rfl rfl (fun e => absurd (Eq.trans (Eq.symm e) c1) (by decide)) (fun _ => rfl) rfl) ?_
   refine RL.nil ?_
   have ey1 := Option.some.inj hy1
   subst ey1
   refine onlyN ?_
   exact ⟨⟨rfl, rfl, rfl, rfl, rfl, rfl, rfl, trivial⟩, rfl⟩
 rintro φ' _ ⟨hs1, rfl⟩
 refine thnN ?_
 refine W.sub hs1 ?_
 by_cases c2 : x1 = true
 ·rw [if_pos c2] at hp
  refine W.condT rfl c2 ?_
  refine W.seq ?_
  refine W.region ?_
  refine RL.opD (by decide) (opv_assign rfl rfl) ?_
  have S_4 : Sep [] h0.size hp2 [ownO (kI .i64) 2 (.slice none 0 0) ([] : List (Int)), ownO (kI .i64) 2 (.slice none 0 0) ([] : List (Int)), boxO bb2 [(.int .i64 a1_0), (.int .i64 a1_1)], boxO bb1 [(.int .i64 a0_0), (.int .i64 a0_1), (.bool a0_2), u0_3, u0_4]] := Sep.addNil S_3
  refine RL.opD (by decide) (opv_assign rfl rfl) ?_
  refine RL.nil ?_
  refine thnN ?_
  refine W.ret ?_
  refine thnR ?_
  have er := Option.some.inj hp
  subst er
  exact Rt.two rfl rfl rfl ⟨(.slice none 0 0), rfl, X_2, (Sep.sel S_4 [0] (by decide))⟩
 ·rw [if_neg c2] at hp
  have c2 := eq_false_of_ne_true c2
  refine W.condF rfl c2 ?_
  refine W.skip ?_
  refine thnN ?_
  refine W.seq ?_
  refine W.region ?_
  obtain ⟨x4, hx4, hp⟩ := Option.bind_eq_some_iff.1 hp
  refine RL.op _ (by decide) (opv_call (cap := []) (spec_l07Halo_ok _ _ _ _ _ _ _ (SL.up (SL.mod g0_3 X_2 (Nat.le_refl _) nob) (Nat.le_trans (Nat.le_refl _) (Mod.size X_2))) _ _ (SL.up (SL.mod g0_4 X_2 (Nat.le_refl _) nob) (Nat.le_trans (Nat.le_refl _) (Mod.size X_2))) (Sep.at (o := boxO bb1 [(.int .i64 a0_0), (.int .i64 a0_1), (.bool a0_2), u0_3, u0_4]) S_3 2 rfl) _ _ _ (Sep.at (o := boxO bb2 [(.int .i64 a1_0), (.int .i64 a1_1)]) S_3 1 rfl) _ hx4) rfl rfl ⟨rfl, rfl, trivial⟩ Try.func117 rfl rfl) ?_
  rintro v1 hp3 ⟨MT_3, T_3⟩
  obtain ⟨X_3, S_5⟩ := Sep.turn0 X_2 S_3 MT_3 T_3
  refine RL.opD (by decide) (opv_assign rfl rfl) ?_
  refine RL.opD (by decide) (opv_assign rfl rfl) ?_
  refine RL.nil ?_
  refine thnN ?_
  refine W.ret ?_
  have er := Option.some.inj hp
  subst er
  exact Rt.two rfl rfl rfl ⟨v1, rfl, X_3, (Sep.sel S_5 [0] (by decide))⟩

set_option maxRecDepth 20000 in
theorem impl_IsStrip_ok (h0 : Heap) (a0_0 : Int) (a0_1 : Int) (a0_2 : Bool) (u0_3 : Value) (a0_3 : List (Option Nat)) (g0_3 : SL (kF .f32) h0.size h0 u0_3 a0_3) (u0_4 : Value) (a0_4 : List (Option Nat)) (g0_4 : SL (kF .f32) h0.size h0 u0_4 a0_4) (a1_0 : Int) (a1_1 : Int) (r : Bool) (hp : impl_IsStrip a0_0 a0_1 a0_2 a0_3 a0_4 a1_0 a1_1 = some r) : CallsH Try.prog 119 ([(.agg (List.toArray (α := Value) [(.int .i64 a0_0), (.int .i64 a0_1), (.bool a0_2), u0_3, u0_4])), (.agg (List.toArray (α := Value) [(.int .i64 a1_0), (.int .i64 a1_1)]))].toArray ++ [].toArray) h0 (fun v h' => v = (.bool r) ∧ Mod [] h0 h' ∧ Sep [] h0.size h' []) := by
 unfold impl_IsStrip at hp
 refine callsH_of_W (l := [(.agg (List.toArray (α := Value) [(.int .i64 a0_0), (.int .i64 a0_1), (.bool a0_2), u0_3, u0_4])), (.agg (List.toArray (α := Value) [(.int .i64 a1_0), (.int .i64 a1_1)]))]) (cap := []) 25 Try.func119 rfl rfl rfl ?_
 refine W.seq ?_
 refine W.region ?_
 refine RL.op _ (by decide) (opS_boxed (opv_boxA (cs := [(.int .i64 a0_0), (.int .i64 a0_1), (.bool a0_2), u0_3, u0_4]) rfl rfl)) ?_
 rintro _ hp1 ⟨bb1, rfl, MT_1, T_1⟩
 obtain ⟨X_1, S_1⟩ := Sep.turn0 (Mod.refl [] h0) (Sep.nil [] h0.size h0) MT_1 T_1
 refine RL.op _ (by decide) (opS_boxed (opv_boxA (cs := [(.int .i64 a1_0), (.int .i64 a1_1)]) rfl rfl)) ?_
 rintro _ hp2 ⟨bb2, rfl, MT_2, T_2⟩
 obtain ⟨X_2, S_2⟩ := Sep.turn0 X_1 S_1 MT_2 T_2
 refine RL.opD (by decide) (opv_assign rfl rfl) ?_
 refine RL.nil ?_
 refine thnN ?_
 refine W.seq ?_
 obtain ⟨x1, hy1, hp⟩ := Option.bind_eq_some_iff.1 hp
 refine W.cut (fun φ' h' => Fr.sub [(0, (.agg (List.toArray (α := Value) [(.int .i64 a0_0), (.int .i64 a0_1), (.bool a0_2), u0_3, u0_4]))), (1, (.agg (List.toArray (α := Value) [(.int .i64 a1_0), (.int .i64 a1_1)]))), (2, (.pointer (some ⟨bb1, 0, none⟩))), (3, (.pointer (some ⟨bb2, 0, none⟩))), (4, (.bool x1))] φ' ∧ Mod [] h0 h' ∧ Sep [] h0.size h' [boxO bb2 [(.int .i64 a1_0), (.int .i64 a1_1)], boxO bb1 [(.int .i64 a0_0), (.int .i64 a0_1), (.bool a0_2), u0_3, u0_4]]) ?_ ?_
 ·refine W.region ?_
  refine RL.opD (by decide) (opv_loadA (us := [(.int .i64 a0_0), (.int .i64 a0_1), (.bool a0_2), u0_3, u0_4]) rfl Try.agg33 Try.size33 rfl (Sep.at (o := boxO bb1 [(.int .i64 a0_0), (.int .i64 a0_1), (.bool a0_2), u0_3, u0_4]) S_2 1 rfl) rfl rfl) ?_
  obtain ⟨x2, hx2, hy1⟩ := Option.bind_eq_some_iff.1 hy1
  refine RL.op _ (by decide) (opv_call (cap := []) (impl_ValidSheet_ok _ _ _ _ _ _ (SL.up (SL.mod g0_3 X_2 (Nat.le_refl _) nob) (Nat.le_trans (Nat.le_refl _) (Mod.size X_2))) _ _ (SL.up (SL.mod g0_4 X_2 (Nat.le_refl _) nob) (Nat.le_trans (Nat.le_refl _) (Mod.size X_2))) _ hx2) rfl rfl ⟨rfl, trivial⟩ Try.func45 rfl rfl) ?_
  rintro _ hp3 ⟨rfl, MT_3, T_3⟩
  obtain ⟨X_3, S_3⟩ := Sep.turn0 X_2 S_2 MT_3 T_3
  refine RL.opD (by decide) (opv_move rfl rfl) ?_
  by_cases c1 : x2 = true
  ·rw [if_pos c1] at hy1
   refine RL.yesD rfl rfl c1 (by decide) (opv_fieldAddr rfl Try.fo84_0 rfl) ?_
   refine RL.yesD rfl rfl c1 (by decide) (opv_loadB rfl Try.one2 rfl (Sep.at (o := boxO bb2 [(.int .i64 a1_0), (.int .i64 a1_1)]) S_3 0 rfl) rfl) ?_
   refine RL.yesD rfl rfl c1 (by decide) (opv_fieldAddr rfl Try.fo33_1 rfl) ?_
   refine RL.yesD rfl rfl c1 (by decide) (opv_loadB rfl Try.one2 rfl (Sep.at (o := boxO bb1 [(.int .i64 a0_0), (.int .i64 a0_1), (.bool a0_2), u0_3, u0_4]) S_3 1 rfl) rfl) ?_
   refine RL.yesD rfl rfl c1 (by decide) (opv_sub rfl rfl rfl) ?_
   obtain ⟨x3, hx3, hy1⟩ := Option.bind_eq_some_iff.1 hy1
   refine RL.yes _ rfl rfl c1 (by decide) (opv_call (cap := []) (impl_within_ok _ _ _ _ _ hx3) rfl rfl ⟨rfl, rfl, rfl, trivial⟩ Try.func71 rfl rfl) ?_
   rintro _ _ ⟨rfl, rfl⟩
   refine RL.opD (by decide) (opv_pick rfl rfl (fun _ => rfl) (fun e => absurd (Eq.trans (Eq.symm e) c1) (by decide)) rfl) ?_
   refine RL.opD (by decide) (opv_move rfl rfl) ?_
   by_cases c2 : x3 = true
   ·rw [if_pos c2] at hy1
    refine RL.yesD rfl rfl c2 (by decide) (opv_fieldAddr rfl Try.fo84_1 rfl) ?_
    refine RL.yesD rfl rfl c2 (by decide) (opv_loadB rfl Try.one2 rfl (Sep.at (o := boxO bb2 [(.int .i64 a1_0), (.int .i64 a1_1)]) S_3 0 rfl) rfl) ?_
    refine RL.yesD rfl rfl c2 (by decide) (opv_fieldAddr rfl Try.fo33_1 rfl) ?_
    refine RL.yesD rfl rfl c2 (by decide) (opv_loadB rfl Try.one2 rfl (Sep.at (o := boxO bb1 [(.int .i64 a0_0), (.int .i64 a0_1), (.bool a0_2), u0_3, u0_4]) S_3 1 rfl) rfl) ?_
    refine RL.yesD rfl rfl c2 (by decide) (opv_fieldAddr rfl Try.fo84_0 rfl) ?_
    refine RL.yesD rfl rfl c2 (by decide) (opv_loadB rfl Try.one2 rfl (Sep.at (o := boxO bb2 [(.int .i64 a1_0), (.int .i64 a1_1)]) S_3 0 rfl) rfl) ?_
    refine RL.yesD rfl rfl c2 (by decide) (opv_sub rfl rfl rfl) ?_
    obtain ⟨x4, hx4, hy1⟩ := Option.bind_eq_some_iff.1 hy1
    refine RL.yes _ rfl rfl c2 (by decide) (opv_call (cap := []) (impl_within_ok _ _ _ _ _ hx4) rfl rfl ⟨rfl, rfl, rfl, trivial⟩ Try.func71 rfl rfl) ?_
    rintro _ _ ⟨rfl, rfl⟩
    refine RL.opD (by decide) (opv_pick rfl rfl (fun _ => rfl) (fun e => absurd (Eq.trans (Eq.symm e) c2) (by decide)) rfl) ?_
    refine RL.opD (by decide) (opv_assign rfl rfl) ?_
    refine RL.nil ?_
    have ey1 := Option.some.inj hy1
    subst ey1
    refine onlyN ?_
    exact ⟨⟨rfl, rfl, rfl, rfl, rfl, trivial⟩, X_3, (Sep.sel S_3 [0, 1] (by decide))⟩
   ·rw [if_neg c2] at hy1
    have c2 := eq_false_of_ne_true c2
    refine RL.noF rfl rfl c2 (by decide) ?_
    refine RL.noF rfl rfl c2 (by decide) ?_
    refine RL.noF rfl rfl c2 (by decide) ?_
    refine RL.noF rfl rfl c2 (by decide) ?_
    refine RL.noF rfl rfl c2 (by decide) ?_
    refine RL.noF rfl rfl c2 (by decide) ?_
    refine RL.noF rfl rfl c2 (by decide) ?_
    refine RL.noF rfl rfl c2 (by decide) ?_
    refine RL.opD (by decide) (opv_pick rfl rfl (fun e => absurd (Eq.trans (Eq.symm e) c2) (by decide)) (fun _ => rfl) rfl) ?_
    refine RL.opD (by decide) (opv_assign rfl rfl) ?_
    refine RL.nil ?_
    have ey1 := Option.some.inj hy1
    subst ey1
    refine onlyN ?_
    exact ⟨⟨rfl, rfl, rfl, rfl, rfl, trivial⟩, X_3, (Sep.sel S_3 [0, 1] (by decide))⟩
  ·rw [if_neg c1] at hy1
   have c1 := eq_false_of_ne_true c1
   refine RL.noF rfl rfl c1 (by decide) ?_
   refine RL.noF rfl rfl c1 (by decide) ?_
   refine RL.noF rfl rfl c1 (by decide) ?_
   refine RL.noF rfl rfl c1 (by decide) ?_
   refine RL.noF rfl rfl c1 (by decide) ?_
   refine RL.noF rfl rfl c1 (by decide) ?_
   refine RL.opD (by decide) (opv_pick rfl rfl (fun e => absurd (Eq.trans (Eq.symm e) c1) (by decide)) (fun _ => rfl) rfl) ?_
   refine RL.opD (by decide) (opv_move rfl rfl) ?_
   refine RL.noF rfl rfl rfl (by decide) ?_
   refine RL.noF rfl rfl rfl (by decide) ?_
   refine RL.noF rfl rfl rfl (by decide) ?_
   refine RL.noF rfl rfl rfl (by decide) ?_
   refine RL.noF rfl rfl rfl (by decide) ?_
   refine RL.noF rfl rfl rfl (by decide) ?_
   refine RL.noF rfl rfl rfl (by decide) ?_
   refine RL.noF rfl rfl rfl (by decide) ?_
   refine RL.opD (by decide) (opv_pick rfl rfl (fun e => absurd (Eq.trans (Eq.symm e) rfl) (by decide)) (fun _ => rfl) rfl) ?_
   refine RL.opD (by decide) (opv_assign rfl rfl) ?_
   refine RL.nil ?_
   have ey1 := Option.some.inj hy1
   subst ey1
   refine onlyN ?_
   exact ⟨⟨rfl, rfl, rfl, rfl, rfl, trivial⟩, X_3, (Sep.sel S_3 [0, 1] (by decide))⟩
 rintro φ' hp4 ⟨hs1, X_4, S_4⟩
 refine thnN ?_
 refine W.sub hs1 ?_
 refine W.ret ?_
 have er := Option.some.inj hp
 subst er
 exact Rt.one rfl rfl ⟨rfl, X_4, (Sep.nil _ _ _)⟩

set_option maxRecDepth 20000 in
theorem impl_haloRows_ok (h0 : Heap) (a0_0 : Int) (a0_1 : Int) (a0_2 : Bool) (u0_3 : Value) (a0_3 : List (Option Nat)) (g0_3 : SL (kF .f32) h0.size h0 u0_3 a0_3) (u0_4 : Value) (a0_4 : List (Option Nat)) (g0_4 : SL (kF .f32) h0.size h0 u0_4 a0_4) (a1_0 : Int) (a1_1 : Int) (r : List (Int)) (hp : impl_haloRows a0_0 a0_1 a0_2 a0_3 a0_4 a1_0 a1_1 = some r) : CallsH Try.prog 120 ([(.agg (List.toArray (α := Value) [(.int .i64 a0_0), (.int .i64 a0_1), (.bool a0_2), u0_3, u0_4])), (.agg (List.toArray (α := Value) [(.int .i64 a1_0), (.int .i64 a1_1)]))].toArray ++ [].toArray) h0 (fun v h' => Mod [] h0 h' ∧ Sep [] h0.size h' [ownO (kI .i64) 2 v r]) := by
 unfold impl_haloRows at hp
 refine callsH_of_W (l := [(.agg (List.toArray (α := Value) [(.int .i64 a0_0), (.int .i64 a0_1), (.bool a0_2), u0_3, u0_4])), (.agg (List.toArray (α := Value) [(.int .i64 a1_0), (.int .i64 a1_1)]))]) (cap := []) 47 Try.func120 rfl rfl rfl ?_
 refine W.seq ?_
 refine W.region ?_
 refine RL.op _ (by decide) (opS_boxed (opv_boxA (cs := [(.int .i64 a0_0), (.int .i64 a0_1), (.bool a0_2), u0_3, u0_4]) rfl rfl)) ?_
 rintro _ hp1 ⟨bb1, rfl, MT_1, T_1⟩
 obtain ⟨X_1, S_1⟩ := Sep.turn0 (Mod.refl [] h0) (Sep.nil [] h0.size h0) MT_1 T_1
 refine RL.op _ (by decide) (opS_boxed (opv_boxA (cs := [(.int .i64 a1_0), (.int .i64 a1_1)]) rfl rfl)) ?_
 rintro _ hp2 ⟨bb2, rfl, MT_2, T_2⟩
 obtain ⟨X_2, S_2⟩ := Sep.turn0 X_1 S_1 MT_2 T_2
 refine RL.opD (by decide) (opv_assign rfl rfl) ?_
 have S_3 : Sep [] h0.size hp2 [ownO (kI .i64) 2 (.slice none 0 0) ([] : List (Int)), boxO bb2 [(.int .i64 a1_0), (.int .i64 a1_1)], boxO bb1 [(.int .i64 a0_0), (.int .i64 a0_1), (.bool a0_2), u0_3, u0_4]] := Sep.addNil S_2
 refine RL.nil ?_
 refine thnN ?_
 refine W.seq ?_
 refine W.region ?_
 refine RL.op _ (by decide) (opS_lit0 (K := (kI .i64)) rfl Try.underlying71 Try.isinfo2) ?_
 rintro v1 hp3 ⟨MT_3, T_3⟩
 obtain ⟨X_3, S_4⟩ := Sep.turn0 X_2 S_3 MT_3 T_3
 refine RL.opD (by decide) (opv_assign rfl rfl) ?_
 refine RL.nil ?_
 refine thnN ?_
 refine W.seq ?_
 refine W.seq ?_
 refine W.region ?_
 refine RL.opD (by decide) (opv_fieldAddr rfl Try.fo84_0 rfl) ?_
 refine RL.opD (by decide) (opv_loadB rfl Try.one2 rfl (Sep.at (o := boxO bb2 [(.int .i64 a1_0), (.int .i64 a1_1)]) S_4 2 rfl) rfl) ?_
 refine RL.opD (by decide) (opv_sub rfl rfl rfl) ?_
 refine RL.opD (by decide) (opv_assign rfl rfl) ?_
 refine RL.nil ?_
 refine thnN ?_
 obtain ⟨y1, hy1, hp⟩ := Option.bind_eq_some_iff.1 hp
 refine W.cut (fun φ' h' => ∃ x3, ∃ x4, ∃ x5, ∃ v3, y1 = (x3, x4, x5) ∧ Fr.sub [(0, (.agg (List.toArray (α := Value) [(.int .i64 a0_0), (.int .i64 a0_1), (.bool a0_2), u0_3, u0_4]))), (1, (.agg (List.toArray (α := Value) [(.int .i64 a1_0), (.int .i64 a1_1)]))), (2, (.pointer (some ⟨bb1, 0, none⟩))), (3, (.pointer (some ⟨bb2, 0, none⟩))), (4, (.slice none 0 0)), (6, (.int .i64 x3)), (17, (.bool x4)), (5, v3)] φ' ∧ Mod [] h0 h' ∧ Sep [] h0.size h' [ownO (kI .i64) 2 (.slice none 0 0) ([] : List (Int)), boxO bb2 [(.int .i64 a1_0), (.int .i64 a1_1)], boxO bb1 [(.int .i64 a0_0), (.int .i64 a0_1), (.bool a0_2), u0_3, u0_4], ownO (kI .i64) 2 v3 x5]) ?_ ?_
 ·refine W.block ?_
  refine W.loopS (fun (s : ((List (Int)) × Int)) φ' h' => ∃ v2, Fr.sub [(0, (.agg (List.toArray (α := Value) [(.int .i64 a0_0), (.int .i64 a0_1), (.bool a0_2), u0_3, u0_4]))), (1, (.agg (List.toArray (α := Value) [(.int .i64 a1_0), (.int .i64 a1_1)]))), (2, (.pointer (some ⟨bb1, 0, none⟩))), (3, (.pointer (some ⟨bb2, 0, none⟩))), (4, (.slice none 0 0)), (5, v2), (6, (.int .i64 s.2))] φ' ∧ Mod [] h0 h' ∧ Sep [] h0.size h' [ownO (kI .i64) 2 v2 s.1, ownO (kI .i64) 2 (.slice none 0 0) ([] : List (Int)), boxO bb2 [(.int .i64 a1_0), (.int .i64 a1_1)], boxO bb1 [(.int .i64 a0_0), (.int .i64 a0_1), (.bool a0_2), u0_3, u0_4]]) hy1 ⟨v1, ⟨rfl, rfl, rfl, rfl, rfl, rfl, rfl, trivial⟩, X_3, (Sep.sel S_4 [0, 1, 2, 3] (by decide))⟩ ?_
  rintro ⟨x1, x2⟩ φ' hp4 o1 ⟨v2, hs1, X_4, S_5⟩ ho1 hy1
  have hs1 : Fr.sub [(0, (.agg (List.toArray (α := Value) [(.int .i64 a0_0), (.int .i64 a0_1), (.bool a0_2), u0_3, u0_4]))), (1, (.agg (List.toArray (α := Value) [(.int .i64 a1_0), (.int .i64 a1_1)]))), (2, (.pointer (some ⟨bb1, 0, none⟩))), (3, (.pointer (some ⟨bb2, 0, none⟩))), (4, (.slice none 0 0)), (5, v2), (6, (.int .i64 x2))] φ' := hs1
  have S_5 : Sep [] h0.size hp4 [ownO (kI .i64) 2 v2 x1, ownO (kI .i64) 2 (.slice none 0 0) ([] : List (Int)), boxO bb2 [(.int .i64 a1_0), (.int .i64 a1_1)], boxO bb1 [(.int .i64 a0_0), (.int .i64 a0_1), (.bool a0_2), u0_3, u0_4]] := S_5
  have ho1 : impl_haloRows.s0 a0_1 a0_2 a1_0 a1_1 x1 x2 = some o1 := ho1
  unfold impl_haloRows.s0 at ho1
  refine W.sub hs1 ?_
  refine W.seq ?_
  refine W.seq ?_
  refine W.region ?_
  refine RL.opD (by decide) (opv_move rfl rfl) ?_
  refine RL.opD (by decide) (opv_fieldAddr rfl Try.fo84_0 rfl) ?_
  refine RL.opD (by decide) (opv_loadB rfl Try.one2 rfl (Sep.at (o := boxO bb2 [(.int .i64 a1_0), (.int .i64 a1_1)]) S_5 2 rfl) rfl) ?_
  refine RL.opD (by decide) (opv_fieldAddr rfl Try.fo84_1 rfl) ?_
  refine RL.opD (by decide) (opv_loadB rfl Try.one2 rfl (Sep.at (o := boxO bb2 [(.int .i64 a1_0), (.int .i64 a1_1)]) S_5 2 rfl) rfl) ?_
  refine RL.opD (by decide) (opv_add rfl rfl rfl) ?_
  refine RL.opD (by decide) (opv_icmp rfl rfl rfl rfl) ?_
  refine RL.nil ?_
  refine thnN ?_
  by_cases c1 : (decide (x2 ≤ (IntKind.wrap .i64 (a1_0 + a1_1)))) = true
  ·rw [if_pos c1] at ho1
   refine W.condT rfl c1 ?_
   refine W.skip ?_
   refine thnN ?_
   refine W.seq ?_
   refine W.block ?_
   refine W.block ?_
   refine W.seq ?_
   refine W.region ?_
   refine RL.opD (by decide) (opv_move rfl rfl) ?_
   refine RL.opD (by decide) (opv_fieldAddr rfl Try.fo33_1 rfl) ?_
   refine RL.opD (by decide) (opv_loadB rfl Try.one2 rfl (Sep.at (o := boxO bb1 [(.int .i64 a0_0), (.int .i64 a0_1), (.bool a0_2), u0_3, u0_4]) S_5 3 rfl) rfl) ?_
   refine RL.opD (by decide) (opv_sub rfl rfl rfl) ?_
   obtain ⟨x6, hx6, ho1⟩ := Option.bind_eq_some_iff.1 ho1
   refine RL.op _ (by decide) (opv_call (cap := []) (impl_within_ok _ _ _ _ _ hx6) rfl rfl ⟨rfl, rfl, rfl, trivial⟩ Try.func71 rfl rfl) ?_
   rintro _ _ ⟨rfl, rfl⟩
   refine RL.opD (by decide) (opv_assign rfl rfl) ?_
   refine RL.nil ?_
   refine thnN ?_
   obtain ⟨x7, hy2, ho1⟩ := Option.bind_eq_some_iff.1 ho1
   refine W.cut (fun φ' h' => ∃ v4, Fr.sub [(0, (.agg (List.toArray (α := Value) [(.int .i64 a0_0), (.int .i64 a0_1), (.bool a0_2), u0_3, u0_4]))), (1, (.agg (List.toArray (α := Value) [(.int .i64 a1_0), (.int .i64 a1_1)]))), (2, (.pointer (some ⟨bb1, 0, none⟩))), (3, (.pointer (some ⟨bb2, 0, none⟩))), (4, (.slice none 0 0)), (6, (.int .i64 x2)), (17, (.bool (decide (x2 ≤ (IntKind.wrap .i64 (a1_0 + a1_1)))))), (20, (.bool x6)), (5, v4)] φ' ∧ Mod [] h0 h' ∧ Sep [] h0.size h' [ownO (kI .i64) 2 (.slice none 0 0) ([] : List (Int)), boxO bb2 [(.int .i64 a1_0), (.int .i64 a1_1)], boxO bb1 [(.int .i64 a0_0), (.int .i64 a0_1), (.bool a0_2), u0_3, u0_4], ownO (kI .i64) 2 v4 x7]) ?_ ?_
   ·by_cases c2 : x6 = true
    ·rw [if_pos c2] at hy2
     refine W.condT rfl c2 ?_
     refine W.region ?_
     refine RL.opD (by decide) (opv_move rfl rfl) ?_
     refine RL.opD (by decide) (opv_move rfl rfl) ?_
     refine RL.op _ (by decide) (opS_lit1 (K := (kI .i64)) (z := x2) rfl Try.underlying71 Try.einfo2 rfl rfl rfl rfl rfl) ?_
     rintro v5 hp5 ⟨MT_4, T_4⟩
     obtain ⟨X_5, S_6⟩ := Sep.turn0 X_4 S_5 MT_4 T_4
     obtain ⟨c3, hy2⟩ := of_ite hy2
     refine RL.op _ (by decide) (opS_append (K := (kI .i64)) rfl Try.underlying71 Try.einfo2 rfl rfl rfl rfl (Sep.at (o := ownO (kI .i64) 2 v2 x1) S_6 1 rfl) (ownO.read (Sep.at (o := ownO (kI .i64) 2 v5 [x2]) S_6 0 rfl)) (by decide) (by decide) c3) ?_
     rintro v6 hp6 ⟨MT_5, T_5⟩
     have S_7 : Sep [] h0.size hp5 ([ownO (kI .i64) 2 v2 x1] ++ [ownO (kI .i64) 2 v5 [x2], ownO (kI .i64) 2 (.slice none 0 0) ([] : List (Int)), boxO bb2 [(.int .i64 a1_0), (.int .i64 a1_1)], boxO bb1 [(.int .i64 a0_0), (.int .i64 a0_1), (.bool a0_2), u0_3, u0_4]]) := Sep.sel S_6 [1, 0, 2, 3, 4] (by decide)
     obtain ⟨X_6, S_8⟩ := Sep.turn X_5 S_7 MT_5 T_5
     refine RL.opD (by decide) (opv_assign rfl rfl) ?_
     refine RL.nil ?_
     have ey2 := Option.some.inj hy2
     subst ey2
     refine onlyN ?_
     exact ⟨v6, ⟨rfl, rfl, rfl, rfl, rfl, rfl, rfl, rfl, rfl, trivial⟩, X_6, (Sep.sel S_8 [2, 3, 4, 0] (by decide))⟩
    ·rw [if_neg c2] at hy2
     have c2 := eq_false_of_ne_true c2
     refine W.condF rfl c2 ?_
     refine W.seq ?_
     refine W.region ?_
     refine RL.opD (by decide) (opv_fieldAddr rfl Try.fo33_2 rfl) ?_
     refine RL.opD (by decide) (opv_loadB rfl Try.one4 rfl (Sep.at (o := boxO bb1 [(.int .i64 a0_0), (.int .i64 a0_1), (.bool a0_2), u0_3, u0_4]) S_5 3 rfl) rfl) ?_
     refine RL.opD (by decide) (opv_assign rfl rfl) ?_
     refine RL.nil ?_
     refine thnN ?_
     obtain ⟨x8, hy3, hy2⟩ := Option.bind_eq_some_iff.1 hy2
     refine W.cut (fun φ' h' => ∃ v7, Fr.sub [(0, (.agg (List.toArray (α := Value) [(.int .i64 a0_0), (.int .i64 a0_1), (.bool a0_2), u0_3, u0_4]))), (1, (.agg (List.toArray (α := Value) [(.int .i64 a1_0), (.int .i64 a1_1)]))), (2, (.pointer (some ⟨bb1, 0, none⟩))), (3, (.pointer (some ⟨bb2, 0, none⟩))), (4, (.slice none 0 0)), (6, (.int .i64 x2)), (17, (.bool (decide (x2 ≤ (IntKind.wrap .i64 (a1_0 + a1_1)))))), (20, (.bool x6)), (30, (.bool a0_2)), (5, v7)] φ' ∧ Mod [] h0 h' ∧ Sep [] h0.size h' [ownO (kI .i64) 2 (.slice none 0 0) ([] : List (Int)), boxO bb2 [(.int .i64 a1_0), (.int .i64 a1_1)], boxO bb1 [(.int .i64 a0_0), (.int .i64 a0_1), (.bool a0_2), u0_3, u0_4], ownO (kI .i64) 2 v7 x8]) ?_ ?_
     ·by_cases c4 : a0_2 = true
      ·rw [if_pos c4] at hy3
       refine W.condT rfl c4 ?_
       refine W.region ?_
       refine RL.opD (by decide) (opv_move rfl rfl) ?_
       refine RL.opD (by decide) (opv_move rfl rfl) ?_
       refine RL.opD (by decide) (opv_fieldAddr rfl Try.fo33_1 rfl) ?_
       refine RL.opD (by decide) (opv_loadB rfl Try.one2 rfl (Sep.at (o := boxO bb1 [(.int .i64 a0_0), (.int .i64 a0_1), (.bool a0_2), u0_3, u0_4]) S_5 3 rfl) rfl) ?_
       refine RL.opD (by decide) (opv_add rfl rfl rfl) ?_
       refine RL.opD (by decide) (opv_fieldAddr rfl Try.fo33_1 rfl) ?_
       refine RL.opD (by decide) (opv_loadB rfl Try.one2 rfl (Sep.at (o := boxO bb1 [(.int .i64 a0_0), (.int .i64 a0_1), (.bool a0_2), u0_3, u0_4]) S_5 3 rfl) rfl) ?_
       by_cases nc5 : a0_1 = 0
       ·rw [if_pos nc5] at hy3; cases hy3
       rw [if_neg nc5] at hy3
       have c5 : a0_1 ≠ 0 := nc5
       refine RL.opD (by decide) (opv_rem rfl c5 rfl rfl) ?_
       refine RL.op _ (by decide) (opS_lit1 (K := (kI .i64)) (z := (Int.tmod (IntKind.wrap .i64 (x2 + a0_1)) a0_1)) rfl Try.underlying71 Try.einfo2 rfl rfl rfl rfl rfl) ?_
       rintro v8 hp7 ⟨MT_6, T_6⟩
       obtain ⟨X_7, S_9⟩ := Sep.turn0 X_4 S_5 MT_6 T_6
       obtain ⟨c6, hy3⟩ := of_ite hy3
       refine RL.op _ (by decide) (opS_append (K := (kI .i64)) rfl Try.underlying71 Try.einfo2 rfl rfl rfl rfl (Sep.at (o := ownO (kI .i64) 2 v2 x1) S_9 1 rfl) (ownO.read (Sep.at (o := ownO (kI .i64) 2 v8 [Int.tmod (IntKind.wrap .i64 (x2 + a0_1)) a0_1]) S_9 0 rfl)) (by decide) (by decide) c6) ?_
       rintro v9 hp8 ⟨MT_7, T_7⟩
       have S_10 : Sep [] h0.size hp7 ([ownO (kI .i64) 2 v2 x1] ++ [ownO (kI .i64) 2 v8 [Int.tmod (IntKind.wrap .i64 (x2 + a0_1)) a0_1], ownO (kI .i64) 2 (.slice none 0 0) ([] : List (Int)), boxO bb2 [(.int .i64 a1_0), (.int .i64 a1_1)], boxO bb1 [(.int .i64 a0_0), (.int .i64 a0_1), (.bool a0_2), u0_3, u0_4]]) := Sep.sel S_9 [1, 0, 2, 3, 4] (by decide)
       obtain ⟨X_8, S_11⟩ := Sep.turn X_7 S_10 MT_7 T_7
       refine RL.opD (by decide) (opv_assign rfl rfl) ?_
       refine RL.nil ?_
       have ey3 := Option.some.inj hy3
       subst ey3
       refine onlyN ?_
       exact ⟨v9, ⟨rfl, rfl, rfl, rfl, rfl, rfl, rfl, rfl, rfl, rfl, trivial⟩, X_8, (Sep.sel S_11 [2, 3, 4, 0] (by decide))⟩
      ·rw [if_neg c4] at hy3
       have c4 := eq_false_of_ne_true c4
       refine W.condF rfl c4 ?_
       refine W.skip ?_
       have ey3 := Option.some.inj hy3
       subst ey3
       refine onlyN ?_
       exact ⟨v2, ⟨rfl, rfl, rfl, rfl, rfl, rfl, rfl, rfl, rfl, rfl, trivial⟩, X_4, (Sep.sel S_5 [1, 2, 3, 0] (by decide))⟩
     rintro φ' hp9 ⟨v7, hs4, X_9, S_12⟩
     have ey2 := Option.some.inj hy2
     subst ey2
     refine onlyN ?_
     exact ⟨v7, (Fr.sub_trans ⟨rfl, rfl, rfl, rfl, rfl, rfl, rfl, rfl, rfl, trivial⟩ hs4), X_9, (Sep.sel S_12 [0, 1, 2, 3] (by decide))⟩
   rintro φ' hp10 ⟨v4, hs3, X_10, S_13⟩
   refine blkN ?_
   refine blkN ?_
   refine thnN ?_
   refine W.sub hs3 ?_
   refine W.region ?_
   refine RL.opD (by decide) (opv_move rfl rfl) ?_
   refine RL.opD (by decide) (opv_add rfl rfl rfl) ?_
   refine RL.opD (by decide) (opv_assign rfl rfl) ?_
   refine RL.nil ?_
   have eo1 := Option.some.inj ho1
   subst eo1
   refine rndN (s' := (x7, IntKind.wrap .i64 (x2 + 1))) rfl ?_
   exact ⟨v4, ⟨rfl, rfl, rfl, rfl, rfl, rfl, rfl, trivial⟩, X_10, (Sep.sel S_13 [3, 0, 1, 2] (by decide))⟩
  ·rw [if_neg c1] at ho1
   have c1 := eq_false_of_ne_true c1
   refine W.condF rfl c1 ?_
   refine W.exit ?_
   refine thnX ?_
   refine rndX ?_
   refine blkI ?_
   have eo1 := Option.some.inj ho1
   subst eo1
   have ey1 := hy1 _ rfl
   subst ey1
   refine onlyN ?_
   exact ⟨x2, decide (x2 ≤ (IntKind.wrap .i64 (a1_0 + a1_1))), x1, v2, rfl, ⟨rfl, rfl, rfl, rfl, rfl, rfl, rfl, rfl, trivial⟩, X_4, (Sep.sel S_5 [1, 2, 3, 0] (by decide))⟩
 rintro φ' hp11 ⟨x3, x4, x5, v3, rfl, hs2, X_11, S_14⟩
 try dsimp only at hp
 refine thnN ?_
 refine W.sub hs2 ?_
 refine W.seq ?_
 refine W.region ?_
 refine RL.opD (by decide) (opv_move rfl rfl) ?_
 obtain ⟨x9, hx9, hp⟩ := Option.bind_eq_some_iff.1 hp
 have S_16 : Sep [] h0.size hp11 [ownO (kI .i64) 2 v3 x5] := Sep.sel S_14 [3] (by decide)
 have S_15 : Sep [v3.ownBlock] hp11.size hp11 [ownO (kI .i64) 2 v3 x5] := Sep.own S_16 _
 refine RL.op _ (by decide) (opv_call (cap := []) (slices_Sort_I_ok _ h0.size (Nat.le_trans (Nat.le_refl _) (Mod.size X_11)) _ _ S_15 (Sep.ge (L := [ownO (kI .i64) 2 v3 x5]) S_16 (Nat.le_refl _) nob) _ hx9) rfl rfl ⟨rfl, trivial⟩ Try.func126 rfl rfl) ?_
 rintro _ hp12 ⟨rfl, MT_8, T_8⟩
 have S_17 : Sep [] h0.size hp11 ([ownO (kI .i64) 2 v3 x5] ++ [ownO (kI .i64) 2 (.slice none 0 0) ([] : List (Int)), boxO bb2 [(.int .i64 a1_0), (.int .i64 a1_1)], boxO bb1 [(.int .i64 a0_0), (.int .i64 a0_1), (.bool a0_2), u0_3, u0_4]]) := Sep.sel S_14 [3, 0, 1, 2] (by decide)
 obtain ⟨X_12, S_18⟩ := Sep.turn X_11 S_17 MT_8 T_8
 refine RL.nil ?_
 refine thnN ?_
 refine W.seq ?_
 refine W.region ?_
 refine RL.opD (by decide) (opv_move rfl rfl) ?_
 obtain ⟨x10, hx10, hp⟩ := Option.bind_eq_some_iff.1 hp
 have S_20 : Sep [] h0.size hp12 [ownO (kI .i64) 2 v3 x9] := Sep.sel S_18 [0] (by decide)
 have S_19 : Sep [v3.ownBlock] hp12.size hp12 [ownO (kI .i64) 2 v3 x9] := Sep.own S_20 _
 refine RL.op _ (by decide) (opv_call (cap := []) (slices_Compact_I_ok _ h0.size (Nat.le_trans (Nat.le_refl _) (Mod.size X_12)) _ _ S_19 (Sep.ge (L := [ownO (kI .i64) 2 v3 x9]) S_20 (Nat.le_refl _) nob) _ hx10) rfl rfl ⟨rfl, trivial⟩ Try.func160 rfl rfl) ?_
 rintro v10 hp13 ⟨MT_9, T_9⟩
 have S_21 : Sep [] h0.size hp12 ([ownO (kI .i64) 2 v3 x9] ++ [ownO (kI .i64) 2 (.slice none 0 0) ([] : List (Int)), boxO bb2 [(.int .i64 a1_0), (.int .i64 a1_1)], boxO bb1 [(.int .i64 a0_0), (.int .i64 a0_1), (.bool a0_2), u0_3, u0_4]]) := Sep.sel S_18 [0, 1, 2, 3] (by decide)
 obtain ⟨X_13, S_22⟩ := Sep.turn X_12 S_21 MT_9 T_9
 refine RL.opD (by decide) (opv_assign rfl rfl) ?_
 refine RL.nil ?_
 refine thnN ?_
 refine W.ret ?_
 have er := Option.some.inj hp
 subst er
 exact Rt.one rfl rfl ⟨X_13, (Sep.sel S_22 [0] (by decide))⟩

set_option maxRecDepth 20000 in
theorem impl_HaloRows_ok (h0 : Heap) (a0_0 : Int) (a0_1 : Int) (a0_2 : Bool) (u0_3 : Value) (a0_3 : List (Option Nat)) (g0_3 : SL (kF .f32) h0.size h0 u0_3 a0_3) (u0_4 : Value) (a0_4 : List (Option Nat)) (g0_4 : SL (kF .f32) h0.size h0 u0_4 a0_4) (a1_0 : Int) (a1_1 : Int) (r : ((List (Int)) × Bool)) (hp : impl_HaloRows a0_0 a0_1 a0_2 a0_3 a0_4 a1_0 a1_1 = some r) : CallsH Try.prog 53 ([(.agg (List.toArray (α := Value) [(.int .i64 a0_0), (.int .i64 a0_1), (.bool a0_2), u0_3, u0_4])), (.agg (List.toArray (α := Value) [(.int .i64 a1_0), (.int .i64 a1_1)]))].toArray ++ [].toArray) h0 (fun v h' => ∃ w0, v = (.tuple (List.toArray (α := Value) [w0, (.bool r.2)])) ∧ Mod [] h0 h' ∧ Sep [] h0.size h' [ownO (kI .i64) 2 w0 r.1]) := by
 unfold impl_HaloRows at hp
 refine callsH_of_W (l := [(.agg (List.toArray (α := Value) [(.int .i64 a0_0), (.int .i64 a0_1), (.bool a0_2), u0_3, u0_4])), (.agg (List.toArray (α := Value) [(.int .i64 a1_0), (.int .i64 a1_1)]))]) (cap := []) 13 Try.func53 rfl rfl rfl ?_
 refine W.seq ?_
 refine W.region ?_
 refine RL.op _ (by decide) (opS_boxed (opv_boxA (cs := [(.int .i64 a0_0), (.int .i64 a0_1), (.bool a0_2), u0_3, u0_4]) rfl rfl)) ?_
 rintro _ hp1 ⟨bb1, rfl, MT_1, T_1⟩
 obtain ⟨X_1, S_1⟩ := Sep.turn0 (Mod.refl [] h0) (Sep.nil [] h0.size h0) MT_1 T_1
 refine RL.op _ (by decide) (opS_boxed (opv_boxA (cs := [(.int .i64 a1_0), (.int .i64 a1_1)]) rfl rfl)) ?_
 rintro _ hp2 ⟨bb2, rfl, MT_2, T_2⟩
 obtain ⟨X_2, S_2⟩ := Sep.turn0 X_1 S_1 MT_2 T_2
 refine RL.opD (by decide) (opv_assign rfl rfl) ?_
 have S_3 : Sep [] h0.size hp2 [ownO (kI .i64) 2 (.slice none 0 0) ([] : List (Int)), boxO bb2 [(.int .i64 a1_0), (.int .i64 a1_1)], boxO bb1 [(.int .i64 a0_0), (.int .i64 a0_1), (.bool a0_2), u0_3, u0_4]] := Sep.addNil S_2
 refine RL.opD (by decide) (opv_assign rfl rfl) ?_
 refine RL.nil ?_
 refine thnN ?_
 refine W.seq ?_
 refine W.seq ?_
 refine W.region ?_
 refine RL.opD (by decide) (opv_loadA (us := [(.int .i64 a0_0), (.int .i64 a0_1), (.bool a0_2), u0_3, u0_4]) rfl Try.agg33 Try.size33 rfl (Sep.at (o := boxO bb1 [(.int .i64 a0_0), (.int .i64 a0_1), (.bool a0_2), u0_3, u0_4]) S_3 2 rfl) rfl rfl) ?_
 refine RL.opD (by decide) (opv_loadA (us := [(.int .i64 a1_0), (.int .i64 a1_1)]) rfl Try.agg84 Try.size84 rfl (Sep.at (o := boxO bb2 [(.int .i64 a1_0), (.int .i64 a1_1)]) S_3 1 rfl) rfl rfl) ?_
 obtain ⟨x1, hx1, hp⟩ := Option.bind_eq_some_iff.1 hp
 refine RL.op _ (by decide) (opv_call (cap := []) (impl_IsStrip_ok _ _ _ _ _ _ (SL.up (SL.mod g0_3 X_2 (Nat.le_refl _) nob) (Nat.le_trans (Nat.le_refl _) (Mod.size X_2))) _ _ (SL.up (SL.mod g0_4 X_2 (Nat.le_refl _) nob) (Nat.le_trans (Nat.le_refl _) (Mod.size X_2))) _ _ _ hx1) rfl rfl ⟨rfl, rfl, trivial⟩ Try.func119 rfl rfl) ?_
 rintro _ hp3 ⟨rfl, MT_3, T_3⟩
 obtain ⟨X_3, S_4⟩ := Sep.turn0 X_2 S_3 MT_3 T_3
 refine RL.opD (by decide) (opv_not rfl rfl) ?_
 refine RL.nil ?_
 refine thnN ?_
 by_cases c1 : (!x1) = true
 ·rw [if_pos c1] at hp
  refine W.condT rfl c1 ?_
  refine W.seq ?_
  refine W.region ?_
  refine RL.opD (by decide) (opv_assign rfl rfl) ?_
  have S_5 : Sep [] h0.size hp3 [ownO (kI .i64) 2 (.slice none 0 0) ([] : List (Int)), ownO (kI .i64) 2 (.slice none 0 0) ([] : List (Int)), boxO bb2 [(.int .i64 a1_0), (.int .i64 a1_1)], boxO bb1 [(.int .i64 a0_0), (.int .i64 a0_1), (.bool a0_2), u0_3, u0_4]] := Sep.addNil S_4
  refine RL.opD (by decide) (opv_assign rfl rfl) ?_
  refine RL.nil ?_
  refine thnN ?_
  refine W.ret ?_
  refine thnR ?_
  have er := Option.some.inj hp
  subst er
  exact Rt.two rfl rfl rfl ⟨(.slice none 0 0), rfl, X_3, (Sep.sel S_5 [0] (by decide))⟩
 ·rw [if_neg c1] at hp
  have c1 := eq_false_of_ne_true c1
  refine W.condF rfl c1 ?_
  refine W.skip ?_
  refine thnN ?_
  refine W.seq ?_
  refine W.region ?_
  refine RL.opD (by decide) (opv_loadA (us := [(.int .i64 a0_0), (.int .i64 a0_1), (.bool a0_2), u0_3, u0_4]) rfl Try.agg33 Try.size33 rfl (Sep.at (o := boxO bb1 [(.int .i64 a0_0), (.int .i64 a0_1), (.bool a0_2), u0_3, u0_4]) S_4 2 rfl) rfl rfl) ?_
  refine RL.opD (by decide) (opv_loadA (us := [(.int .i64 a1_0), (.int .i64 a1_1)]) rfl Try.agg84 Try.size84 rfl (Sep.at (o := boxO bb2 [(.int .i64 a1_0), (.int .i64 a1_1)]) S_4 1 rfl) rfl rfl) ?_
  obtain ⟨x2, hx2, hp⟩ := Option.bind_eq_some_iff.1 hp
  refine RL.op _ (by decide) (opv_call (cap := []) (impl_haloRows_ok _ _ _ _ _ _ (SL.up (SL.mod g0_3 X_3 (Nat.le_refl _) nob) (Nat.le_trans (Nat.le_refl _) (Mod.size X_3))) _ _ (SL.up (SL.mod g0_4 X_3 (Nat.le_refl _) nob) (Nat.le_trans (Nat.le_refl _) (Mod.size X_3))) _ _ _ hx2) rfl rfl ⟨rfl, rfl, trivial⟩ Try.func120 rfl rfl) ?_
  rintro v1 hp4 ⟨MT_4, T_4⟩
  obtain ⟨X_4, S_6⟩ := Sep.turn0 X_3 S_4 MT_4 T_4
  refine RL.opD (by decide) (opv_assign rfl rfl) ?_
  refine RL.opD (by decide) (opv_assign rfl rfl) ?_
  refine RL.nil ?_
  refine thnN ?_
  refine W.ret ?_
  have er := Option.some.inj hp
  subst er
  exact Rt.two rfl rfl rfl ⟨v1, rfl, X_4, (Sep.sel S_6 [0] (by decide))⟩

set_option maxHeartbeats 4000000 in
set_option maxRecDepth 20000 in
theorem laws_FnExactHaloRows_ok (h0 : Heap) (a0_0 : Int) (a0_1 : Int) (a0_2 : Bool) (u0_3 : Value) (a0_3 : List (Option Nat)) (g0_3 : SL (kF .f32) h0.size h0 u0_3 a0_3) (u0_4 : Value) (a0_4 : List (Option Nat)) (g0_4 : SL (kF .f32) h0.size h0 u0_4 a0_4) (a1_0 : Int) (a1_1 : Int) (r : Bool) (hp : laws_FnExactHaloRows a0_0 a0_1 a0_2 a0_3 a0_4 a1_0 a1_1 = some r) : CallsH Try.prog 8 ([(.agg (List.toArray (α := Value) [(.int .i64 a0_0), (.int .i64 a0_1), (.bool a0_2), u0_3, u0_4])), (.agg (List.toArray (α := Value) [(.int .i64 a1_0), (.int .i64 a1_1)]))].toArray ++ [].toArray) h0 (fun v h' => v = (.bool r) ∧ Mod [] h0 h' ∧ Sep [] h0.size h' []) := by
 unfold laws_FnExactHaloRows at hp
 refine callsH_of_W (l := [(.agg (List.toArray (α := Value) [(.int .i64 a0_0), (.int .i64 a0_1), (.bool a0_2), u0_3, u0_4])), (.agg (List.toArray (α := Value) [(.int .i64 a1_0), (.int .i64 a1_1)]))]) (cap := []) 104 Try.func8 rfl rfl rfl ?_
 refine W.seq ?_
 refine W.region ?_
 refine RL.op _ (by decide) (opS_boxed (opv_boxA (cs := [(.int .i64 a0_0), (.int .i64 a0_1), (.bool a0_2), u0_3, u0_4]) rfl rfl)) ?_
 rintro _ hp1 ⟨bb1, rfl, MT_1, T_1⟩
 obtain ⟨X_1, S_1⟩ := Sep.turn0 (Mod.refl [] h0) (Sep.nil [] h0.size h0) MT_1 T_1
 refine RL.op _ (by decide) (opS_boxed (opv_boxA (cs := [(.int .i64 a1_0), (.int .i64 a1_1)]) rfl rfl)) ?_
 rintro _ hp2 ⟨bb2, rfl, MT_2, T_2⟩
 obtain ⟨X_2, S_2⟩ := Sep.turn0 X_1 S_1 MT_2 T_2
 refine RL.opD (by decide) (opv_assign rfl rfl) ?_
 refine RL.nil ?_
 refine thnN ?_
 refine W.seq ?_
 refine W.region ?_
 refine RL.opD (by decide) (opv_assign rfl rfl) ?_
 refine RL.nil ?_
 refine thnN ?_
 refine W.seq ?_
 refine W.region ?_
 refine RL.opD (by decide) (opv_loadA (us := [(.int .i64 a0_0), (.int .i64 a0_1), (.bool a0_2), u0_3, u0_4]) rfl Try.agg78 Try.size78 rfl (Sep.at (o := boxO bb1 [(.int .i64 a0_0), (.int .i64 a0_1), (.bool a0_2), u0_3, u0_4]) S_2 1 rfl) rfl rfl) ?_
 refine RL.opD (by decide) (opv_move rfl rfl) ?_
 obtain ⟨x1, hx1, hp⟩ := Option.bind_eq_some_iff.1 hp
 refine RL.op _ (by decide) (opv_call (cap := []) (laws_szSheet_ok _ _ _ _ _ _ (SL.up (SL.mod g0_3 X_2 (Nat.le_refl _) nob) (Nat.le_trans (Nat.le_refl _) (Mod.size X_2))) _ _ (SL.up (SL.mod g0_4 X_2 (Nat.le_refl _) nob) (Nat.le_trans (Nat.le_refl _) (Mod.size X_2))) _ _ hx1) rfl rfl ⟨rfl, rfl, trivial⟩ Try.func49 rfl rfl) ?_
 rintro _ hp3 ⟨rfl, MT_3, T_3⟩
 obtain ⟨X_3, S_3⟩ := Sep.turn0 X_2 S_2 MT_3 T_3
 refine RL.opD (by decide) (opv_assign rfl rfl) ?_
 refine RL.nil ?_
 refine thnN ?_
 refine W.seq ?_
 refine W.seq ?_
 refine W.region ?_
 refine RL.opD (by decide) (opv_move rfl rfl) ?_
 refine RL.opD (by decide) (opv_icmp rfl rfl rfl rfl) ?_
 refine RL.nil ?_
 refine thnN ?_
 by_cases c1 : (decide (x1 < 0)) = true
 ·rw [if_pos c1] at hp
  refine W.condT rfl c1 ?_
  refine W.seq ?_
  refine W.region ?_
  refine RL.opD (by decide) (opv_assign rfl rfl) ?_
  refine RL.nil ?_
  refine thnN ?_
  refine W.ret ?_
  refine thnR ?_
  have er := Option.some.inj hp
  subst er
  exact Rt.one rfl rfl ⟨rfl, X_3, (Sep.nil _ _ _)⟩
 ·rw [if_neg c1] at hp
  have c1 := eq_false_of_ne_true c1
  refine W.condF rfl c1 ?_
  refine W.skip ?_
  refine thnN ?_
  refine W.seq ?_
  obtain ⟨x2, hx2, hp⟩ := Option.bind_eq_some_iff.1 hp
  obtain ⟨x3, hx3, hp⟩ := Option.bind_eq_some_iff.1 hp
  obtain ⟨x4, hx4, hp⟩ := Option.bind_eq_some_iff.1 hp
  refine W.sub (ψ := [(0, (.agg (List.toArray (α := Value) [(.int .i64 a0_0), (.int .i64 a0_1), (.bool a0_2), u0_3, u0_4]))), (1, (.agg (List.toArray (α := Value) [(.int .i64 a1_0), (.int .i64 a1_1)]))), (2, (.pointer (some ⟨bb1, 0, none⟩))), (3, (.pointer (some ⟨bb2, 0, none⟩))), (4, (.bool false)), (5, (.int .i64 x1)), (20, (.bool (decide (x1 < 0))))]) ⟨rfl, rfl, rfl, rfl, rfl, rfl, rfl, trivial⟩ ?_
  refine W.regionM [fun v _ => @Eq Value (.agg (List.toArray (α := Value) [(.int .i64 a0_0), (.int .i64 a0_1), (.bool a0_2), u0_3, u0_4])) v, fun v h => ∃ v1, ∃ v2, @Eq Value v (.agg (List.toArray (α := Value) [(.int .i64 x2.1), (.int .i64 x2.2.1), (.bool x2.2.2.1), v1, v2])) ∧ Sep [] hp3.size h [ownO (kF .f32) 29 v1 x2.2.2.2.1, ownO (kF .f32) 29 v2 x2.2.2.2.2], fun v _ => @Eq Value (.agg (List.toArray (α := Value) [(.int .i64 a1_0), (.int .i64 a1_1)])) v, fun v h => @Eq Value v (.agg (List.toArray (α := Value) [(.int .i64 x3.1), (.int .i64 x3.2)])) ∧ Sep [] hp3.size h [], fun v h => ∃ v3, @Eq Value v (.tuple (List.toArray (α := Value) [v3, (.bool x4.2)])) ∧ Sep [] hp3.size h [ownO (kI .i64) 2 v3 x4.1], fun v h => ∃ v3, @Eq Value v (.tuple (List.toArray (α := Value) [v3, (.bool x4.2)])) ∧ Sep [] hp3.size h [ownO (kI .i64) 2 v3 x4.1], fun v h => ∃ v3, @Eq Value v v3 ∧ Sep [] hp3.size h [ownO (kI .i64) 2 v3 x4.1], fun v _ => @Eq Value (.bool x4.2) v, fun v h => ∃ v3, @Eq Value v v3 ∧ Sep [] hp3.size h [ownO (kI .i64) 2 v3 x4.1], fun v _ => @Eq Value (.bool x4.2) v] [none, some (fun u => [Value.ownBlock (vget u 3), Value.ownBlock (vget u 4)]), none, some (fun u => []), some (fun u => [Value.ownBlock (vget u 0)]), none, none, none, none, none] [none, none, none, none, none, some (26, fun u => u), some (21, fun u => vget u 0), none, some (27, fun u => u)] [[], [0], [], [2], [1, 3], [4], [5], [5], [6], [7]] [4, 5, 6, 8, 9] Try.mixed (by decide +kernel) (by decide +kernel) rfl rfl rfl (by decide +kernel) rfl ⟨fun _ _ _ h _ => h, fun _ _ _ ⟨u0_, u1_, e, h⟩ x => ⟨u0_, u1_, e, h.ext x⟩, fun _ _ _ h _ => h, fun _ _ _ ⟨e, h⟩ x => ⟨e, h.ext x⟩, fun _ _ _ ⟨u0_, e, h⟩ x => ⟨u0_, e, h.ext x⟩, fun _ _ _ ⟨u0_, e, h⟩ x => ⟨u0_, e, h.ext x⟩, fun _ _ _ ⟨u0_, e, h⟩ x => ⟨u0_, e, h.ext x⟩, fun _ _ _ h _ => h, fun _ _ _ ⟨u0_, e, h⟩ x => ⟨u0_, e, h.ext x⟩, fun _ _ _ h _ => h, trivial⟩ ?_ ?_
  ·refine ⟨⟨rfl, ?_⟩, ⟨rfl, ?_⟩, ⟨rfl, ?_⟩, ⟨rfl, ?_⟩, ⟨rfl, ?_⟩, ⟨rfl, ?_⟩, ⟨rfl, ?_⟩, ⟨rfl, ?_⟩, ⟨rfl, ?_⟩, ⟨rfl, ?_⟩, trivial⟩
   ·rintro hp7 E_1
    refine Dep.nil ?_
    refine GuardOK.none rfl ?_
    exact OpV.toDx (opv_loadA (us := [(.int .i64 a0_0), (.int .i64 a0_1), (.bool a0_2), u0_3, u0_4]) rfl Try.agg78 Try.size78 rfl (Sep.at (o := boxO bb1 [(.int .i64 a0_0), (.int .i64 a0_1), (.bool a0_2), u0_3, u0_4]) (Sep.ext S_3 E_1) 1 rfl) rfl rfl) rfl
   ·rintro hp8 E_2 _ rfl
    refine Dep.nil ?_
    refine GuardOK.none rfl ?_
    exact OpV.mono (opv_call (cap := []) (laws_toSheet_ok _ _ _ _ _ _ (SL.up (SL.mod g0_3 (Mod.lift X_3 E_2) (Nat.le_refl _) nob) (Nat.le_trans (Nat.le_refl _) (Mod.size (Mod.lift X_3 E_2)))) _ _ (SL.up (SL.mod g0_4 (Mod.lift X_3 E_2) (Nat.le_refl _) nob) (Nat.le_trans (Nat.le_refl _) (Mod.size (Mod.lift X_3 E_2)))) _ hx2) rfl rfl ⟨rfl, trivial⟩ Try.func51 rfl rfl) (by rintro _ _ ⟨v1, v2, rfl, M_, T_⟩; exact ⟨Mod.ext M_, ⟨v1, v2, rfl, Sep.weak T_ (Ext.size E_2)⟩, Sep.fresh T_⟩)
   ·rintro hp9 E_3
    refine Dep.nil ?_
    refine GuardOK.none rfl ?_
    exact OpV.toDx (opv_loadA (us := [(.int .i64 a1_0), (.int .i64 a1_1)]) rfl Try.agg80 Try.size80 rfl (Sep.at (o := boxO bb2 [(.int .i64 a1_0), (.int .i64 a1_1)]) (Sep.ext S_3 E_3) 0 rfl) rfl rfl) rfl
   ·rintro hp10 E_4 _ rfl
    refine Dep.nil ?_
    refine GuardOK.none rfl ?_
    exact OpV.mono (opv_call (cap := []) (laws_toStrip_ok _ _ _ _ hx3) rfl rfl ⟨rfl, trivial⟩ Try.func52 rfl rfl) (by rintro _ _ ⟨rfl, M_, T_⟩; exact ⟨Mod.ext M_, ⟨rfl, Sep.weak T_ (Ext.size E_4)⟩, Sep.fresh T_⟩)
   ·rintro hp11 E_5 _ ⟨v1, v2, rfl, T_4⟩ _ ⟨rfl, T_5⟩
    refine Dep.nil ?_
    refine GuardOK.none rfl ?_
    exact OpV.mono (opv_call (cap := []) (spec_HaloRows_ok _ _ _ _ _ _ (ownO.read (Sep.at (o := ownO (kF .f32) 29 v1 x2.2.2.2.1) T_4 0 rfl)) _ _ (ownO.read (Sep.at (o := ownO (kF .f32) 29 v2 x2.2.2.2.2) T_4 1 rfl)) _ _ _ hx4) rfl rfl ⟨rfl, rfl, trivial⟩ Try.func50 rfl rfl) (by rintro _ _ ⟨v3, rfl, M_, T_⟩; exact ⟨Mod.ext M_, ⟨v3, rfl, Sep.weak T_ (Ext.size E_5)⟩, Sep.fresh T_⟩)
   ·rintro hp12 E_6 _ ⟨v3, rfl, T_6⟩
    refine Dep.nil ?_
    refine GuardOK.none rfl ?_
    exact OpV.mono (opv_move rfl rfl) (by rintro _ _ ⟨rfl, rfl⟩; exact ⟨⟨Ext.refl _, v3, rfl, T_6⟩, _, rfl, rfl⟩)
   ·rintro hp13 E_7 _ ⟨v3, rfl, T_6⟩
    refine Dep.nil ?_
    refine GuardOK.none rfl ?_
    exact OpV.mono (opv_extract rfl rfl rfl) (by rintro _ _ ⟨rfl, rfl⟩; exact ⟨⟨Ext.refl _, v3, rfl, T_6⟩, _, rfl, rfl⟩)
   ·rintro hp14 E_8 _ ⟨v3, rfl, T_6⟩
    refine Dep.nil ?_
    refine GuardOK.none rfl ?_
    exact OpV.toDx (opv_extract rfl rfl rfl) rfl
   ·rintro hp15 E_9 v3 ⟨_, rfl, T_6⟩
    refine Dep.nil ?_
    refine GuardOK.none rfl ?_
    exact OpV.mono (opv_assign rfl rfl) (by rintro _ _ ⟨rfl, rfl⟩; exact ⟨⟨Ext.refl _, v3, rfl, T_6⟩, _, rfl, rfl⟩)
   ·rintro hp16 E_10 _ rfl
    refine Dep.nil ?_
    refine GuardOK.none rfl ?_
    exact OpV.toDx (opv_assign rfl rfl) rfl
  rintro hp17 E_11 _ ⟨v3, rfl, T_6⟩ z5_ _ z6_ _ z8_ _ _ rfl
  refine DepM.nil ?_
  intro PW_1 LK_
  have ez5_ : z5_ = (.tuple (List.toArray (α := Value) [v3, (.bool x4.2)])) := LK_ 5 _ _ _ _ _ (by decide) rfl rfl rfl rfl
  subst z5_
  have ez6_ : z6_ = v3 := LK_ 6 _ _ _ _ _ (by decide) rfl rfl rfl rfl
  subst z6_
  have ez8_ : z8_ = v3 := LK_ 8 _ _ _ _ _ (by decide) rfl rfl rfl rfl
  subst z8_
  have X_7 := Mod.lift X_3 E_11
  have S_7 := Sep.join S_3 (Mod.size X_3) (Ext.mod E_11 []) T_6
  show RL _ _ _ _ [] _ _
  refine RL.nil ?_
  refine thnN ?_
  refine W.seq ?_
  refine W.region ?_
  refine RL.opD (by decide) (opv_loadA (us := [(.int .i64 a0_0), (.int .i64 a0_1), (.bool a0_2), u0_3, u0_4]) rfl Try.agg78 Try.size78 rfl (Sep.at (o := boxO bb1 [(.int .i64 a0_0), (.int .i64 a0_1), (.bool a0_2), u0_3, u0_4]) S_7 2 rfl) rfl rfl) ?_
  obtain ⟨x5, hx5, hp⟩ := Option.bind_eq_some_iff.1 hp
  refine RL.op _ (by decide) (opv_call (cap := []) (laws_toSheet_ok _ _ _ _ _ _ (SL.up (SL.mod g0_3 X_7 (Nat.le_refl _) nob) (Nat.le_trans (Nat.le_refl _) (Mod.size X_7))) _ _ (SL.up (SL.mod g0_4 X_7 (Nat.le_refl _) nob) (Nat.le_trans (Nat.le_refl _) (Mod.size X_7))) _ hx5) rfl rfl ⟨rfl, trivial⟩ Try.func51 rfl rfl) ?_
  rintro _ hp18 ⟨v7, v8, rfl, MT_7, T_7⟩
  obtain ⟨X_8, S_8⟩ := Sep.turn0 X_7 S_7 MT_7 T_7
  refine RL.op _ (by decide) (opS_boxed (opv_alloc (cs := [(.int .i64 0), (.int .i64 0), (.bool false), (.slice none 0 0), (.slice none 0 0)]) rfl Try.zero33 rfl)) ?_
  rintro _ hp19 ⟨bb3, rfl, MT_8, T_8⟩
  obtain ⟨X_9, S_9⟩ := Sep.turn0 X_8 S_8 MT_8 T_8
  refine RL.op0 _ (opS_stored (cs := [(.int .i64 0), (.int .i64 0), (.bool false), (.slice none 0 0), (.slice none 0 0)]) (cs' := [(.int .i64 x5.1), (.int .i64 x5.2.1), (.bool x5.2.2.1), v7, v8]) (opv_storeA (us := [(.int .i64 x5.1), (.int .i64 x5.2.1), (.bool x5.2.2.1), v7, v8]) rfl Try.size33 rfl rfl (oneAll rfl (oneAll rfl (oneAll rfl (oneAll (ownO.one (Sep.at (o := ownO (kF .f32) 29 v7 x5.2.2.2.1) S_9 1 rfl)) (oneAll (ownO.one (Sep.at (o := ownO (kF .f32) 29 v8 x5.2.2.2.2) S_9 2 rfl)) rfl))))) (Sep.at (o := boxO bb3 [(.int .i64 0), (.int .i64 0), (.bool false), (.slice none 0 0), (.slice none 0 0)]) S_9 0 rfl) rfl rfl) (Sep.at (o := boxO bb3 [(.int .i64 0), (.int .i64 0), (.bool false), (.slice none 0 0), (.slice none 0 0)]) S_9 0 rfl)) ?_
  rintro _ hp20 ⟨rfl, MT_9, T_9⟩
  have S_10 : Sep [] h0.size hp19 ([boxO bb3 [(.int .i64 0), (.int .i64 0), (.bool false), (.slice none 0 0), (.slice none 0 0)]] ++ [ownO (kF .f32) 29 v7 x5.2.2.2.1, ownO (kF .f32) 29 v8 x5.2.2.2.2, ownO (kI .i64) 2 v3 x4.1, boxO bb2 [(.int .i64 a1_0), (.int .i64 a1_1)], boxO bb1 [(.int .i64 a0_0), (.int .i64 a0_1), (.bool a0_2), u0_3, u0_4]]) := Sep.sel S_9 [0, 1, 2, 3, 4, 5] (by decide)
  obtain ⟨X_10, S_11⟩ := Sep.turn X_9 S_10 MT_9 T_9
  refine RL.nil ?_
  refine thnN ?_
  refine W.seq ?_
  obtain ⟨x6, hx6, hp⟩ := Option.bind_eq_some_iff.1 hp
  obtain ⟨x7, hx7, hp⟩ := Option.bind_eq_some_iff.1 hp
  refine W.sub (ψ := [(0, (.agg (List.toArray (α := Value) [(.int .i64 a0_0), (.int .i64 a0_1), (.bool a0_2), u0_3, u0_4]))), (1, (.agg (List.toArray (α := Value) [(.int .i64 a1_0), (.int .i64 a1_1)]))), (2, (.pointer (some ⟨bb1, 0, none⟩))), (3, (.pointer (some ⟨bb2, 0, none⟩))), (4, (.bool false)), (5, (.int .i64 x1)), (20, (.bool (decide (x1 < 0)))), (6, v3), (7, (.bool x4.2)), (8, (.pointer (some ⟨bb3, 0, none⟩)))]) ⟨rfl, rfl, rfl, rfl, rfl, rfl, rfl, rfl, rfl, rfl, trivial⟩ ?_
  refine W.regionM [fun v _ => @Eq Value (.agg (List.toArray (α := Value) [(.int .i64 x5.1), (.int .i64 x5.2.1), (.bool x5.2.2.1), v7, v8])) v, fun v _ => @Eq Value (.agg (List.toArray (α := Value) [(.int .i64 a1_0), (.int .i64 a1_1)])) v, fun v h => @Eq Value v (.agg (List.toArray (α := Value) [(.int .i64 x6.1), (.int .i64 x6.2)])) ∧ Sep [] hp20.size h [], fun v h => ∃ v9, @Eq Value v (.tuple (List.toArray (α := Value) [v9, (.bool x7.2)])) ∧ Sep [] hp20.size h [ownO (kI .i64) 2 v9 x7.1], fun v h => ∃ v9, @Eq Value v (.tuple (List.toArray (α := Value) [v9, (.bool x7.2)])) ∧ Sep [] hp20.size h [ownO (kI .i64) 2 v9 x7.1], fun v h => ∃ v9, @Eq Value v v9 ∧ Sep [] hp20.size h [ownO (kI .i64) 2 v9 x7.1], fun v _ => @Eq Value (.bool x7.2) v, fun v h => ∃ v9, @Eq Value v v9 ∧ Sep [] hp20.size h [ownO (kI .i64) 2 v9 x7.1], fun v _ => @Eq Value (.bool x7.2) v] [none, none, some (fun u => []), some (fun u => [Value.ownBlock (vget u 0)]), none, none, none, none, none] [none, none, none, none, some (35, fun u => u), some (31, fun u => vget u 0), none, some (36, fun u => u)] [[], [], [1], [0, 2], [3], [4], [4], [5], [6]] [3, 4, 5, 7, 8] Try.mixed (by decide +kernel) (by decide +kernel) rfl rfl rfl (by decide +kernel) rfl ⟨fun _ _ _ h _ => h, fun _ _ _ h _ => h, fun _ _ _ ⟨e, h⟩ x => ⟨e, h.ext x⟩, fun _ _ _ ⟨u0_, e, h⟩ x => ⟨u0_, e, h.ext x⟩, fun _ _ _ ⟨u0_, e, h⟩ x => ⟨u0_, e, h.ext x⟩, fun _ _ _ ⟨u0_, e, h⟩ x => ⟨u0_, e, h.ext x⟩, fun _ _ _ h _ => h, fun _ _ _ ⟨u0_, e, h⟩ x => ⟨u0_, e, h.ext x⟩, fun _ _ _ h _ => h, trivial⟩ ?_ ?_
  ·refine ⟨⟨rfl, ?_⟩, ⟨rfl, ?_⟩, ⟨rfl, ?_⟩, ⟨rfl, ?_⟩, ⟨rfl, ?_⟩, ⟨rfl, ?_⟩, ⟨rfl, ?_⟩, ⟨rfl, ?_⟩, ⟨rfl, ?_⟩, trivial⟩
   ·rintro hp23 E_12
    refine Dep.nil ?_
    refine GuardOK.none rfl ?_
    exact OpV.toDx (opv_loadA (us := [(.int .i64 x5.1), (.int .i64 x5.2.1), (.bool x5.2.2.1), v7, v8]) rfl Try.agg33 Try.size33 rfl (Sep.at (o := boxO bb3 [(.int .i64 x5.1), (.int .i64 x5.2.1), (.bool x5.2.2.1), v7, v8]) (Sep.ext S_11 E_12) 0 rfl) rfl rfl) rfl
   ·rintro hp24 E_13
    refine Dep.nil ?_
    refine GuardOK.none rfl ?_
    exact OpV.toDx (opv_loadA (us := [(.int .i64 a1_0), (.int .i64 a1_1)]) rfl Try.agg80 Try.size80 rfl (Sep.at (o := boxO bb2 [(.int .i64 a1_0), (.int .i64 a1_1)]) (Sep.ext S_11 E_13) 4 rfl) rfl rfl) rfl
   ·rintro hp25 E_14 _ rfl
    refine Dep.nil ?_
    refine GuardOK.none rfl ?_
    exact OpV.mono (opv_call (cap := []) (laws_toStrip_ok _ _ _ _ hx6) rfl rfl ⟨rfl, trivial⟩ Try.func52 rfl rfl) (by rintro _ _ ⟨rfl, M_, T_⟩; exact ⟨Mod.ext M_, ⟨rfl, Sep.weak T_ (Ext.size E_14)⟩, Sep.fresh T_⟩)
   ·rintro hp26 E_15 _ rfl _ ⟨rfl, T_10⟩
    refine Dep.nil ?_
    refine GuardOK.none rfl ?_
    exact OpV.mono (opv_call (cap := []) (impl_HaloRows_ok _ _ _ _ _ _ (ownO.read (Sep.at (o := ownO (kF .f32) 29 v7 x5.2.2.2.1) (Sep.ext S_11 E_15) 1 rfl)) _ _ (ownO.read (Sep.at (o := ownO (kF .f32) 29 v8 x5.2.2.2.2) (Sep.ext S_11 E_15) 2 rfl)) _ _ _ hx7) rfl rfl ⟨rfl, rfl, trivial⟩ Try.func53 rfl rfl) (by rintro _ _ ⟨v9, rfl, M_, T_⟩; exact ⟨Mod.ext M_, ⟨v9, rfl, Sep.weak T_ (Ext.size E_15)⟩, Sep.fresh T_⟩)
   ·rintro hp27 E_16 _ ⟨v9, rfl, T_11⟩
    refine Dep.nil ?_
    refine GuardOK.none rfl ?_
    exact OpV.mono (opv_move rfl rfl) (by rintro _ _ ⟨rfl, rfl⟩; exact ⟨⟨Ext.refl _, v9, rfl, T_11⟩, _, rfl, rfl⟩)
   ·rintro hp28 E_17 _ ⟨v9, rfl, T_11⟩
    refine Dep.nil ?_
    refine GuardOK.none rfl ?_
    exact OpV.mono (opv_extract rfl rfl rfl) (by rintro _ _ ⟨rfl, rfl⟩; exact ⟨⟨Ext.refl _, v9, rfl, T_11⟩, _, rfl, rfl⟩)
   ·rintro hp29 E_18 _ ⟨v9, rfl, T_11⟩
    refine Dep.nil ?_
    refine GuardOK.none rfl ?_
    exact OpV.toDx (opv_extract rfl rfl rfl) rfl
   ·rintro hp30 E_19 v9 ⟨_, rfl, T_11⟩
    refine Dep.nil ?_
    refine GuardOK.none rfl ?_
    exact OpV.mono (opv_assign rfl rfl) (by rintro _ _ ⟨rfl, rfl⟩; exact ⟨⟨Ext.refl _, v9, rfl, T_11⟩, _, rfl, rfl⟩)
   ·rintro hp31 E_20 _ rfl
    refine Dep.nil ?_
    refine GuardOK.none rfl ?_
    exact OpV.toDx (opv_assign rfl rfl) rfl
  rintro hp32 E_21 _ ⟨v9, rfl, T_11⟩ z4_ _ z5_ _ z7_ _ _ rfl
  refine DepM.nil ?_
  intro PW_2 LK_
  have ez4_ : z4_ = (.tuple (List.toArray (α := Value) [v9, (.bool x7.2)])) := LK_ 4 _ _ _ _ _ (by decide) rfl rfl rfl rfl
  subst z4_
  have ez5_ : z5_ = v9 := LK_ 5 _ _ _ _ _ (by decide) rfl rfl rfl rfl
  subst z5_
  have ez7_ : z7_ = v9 := LK_ 7 _ _ _ _ _ (by decide) rfl rfl rfl rfl
  subst z7_
  have X_13 := Mod.lift X_10 E_21
  have S_14 := Sep.join S_11 (Mod.size X_10) (Ext.mod E_21 []) T_11
  show RL _ _ _ _ [] _ _
  refine RL.nil ?_
  refine thnN ?_
  refine W.seq ?_
  refine W.seq ?_
  obtain ⟨x8, hy1, hp⟩ := Option.bind_eq_some_iff.1 hp
  refine W.cut (fun φ' h' => Fr.sub [(0, (.agg (List.toArray (α := Value) [(.int .i64 a0_0), (.int .i64 a0_1), (.bool a0_2), u0_3, u0_4]))), (1, (.agg (List.toArray (α := Value) [(.int .i64 a1_0), (.int .i64 a1_1)]))), (2, (.pointer (some ⟨bb1, 0, none⟩))), (3, (.pointer (some ⟨bb2, 0, none⟩))), (4, (.bool false)), (5, (.int .i64 x1)), (20, (.bool (decide (x1 < 0)))), (6, v3), (7, (.bool x4.2)), (8, (.pointer (some ⟨bb3, 0, none⟩))), (9, v9), (10, (.bool x7.2)), (46, (.bool x8))] φ' ∧ hp32 = h') ?_ ?_
  ·refine W.region ?_
   refine RL.opD (by decide) (opv_move rfl rfl) ?_
   refine RL.opD (by decide) (opv_move rfl rfl) ?_
   obtain ⟨x9, hx9, hy1⟩ := Option.bind_eq_some_iff.1 hy1
   refine RL.op _ (by decide) (opv_call (cap := []) (laws_eqInt64S_ok _ _ _ (ownO.read (Sep.at (o := ownO (kI .i64) 2 v9 x7.1) S_14 0 rfl)) _ _ (ownO.read (Sep.at (o := ownO (kI .i64) 2 v3 x4.1) S_14 4 rfl)) _ hx9) rfl rfl ⟨rfl, rfl, trivial⟩ Try.func54 rfl rfl) ?_
   rintro _ _ ⟨rfl, rfl⟩
   refine RL.opD (by decide) (opv_not rfl rfl) ?_
   refine RL.opD (by decide) (opv_move rfl rfl) ?_
   by_cases c2 : (!x9) = true
   ·rw [if_pos c2] at hy1
    refine RL.noT rfl rfl c2 (by decide) ?_
    refine RL.noT rfl rfl c2 (by decide) ?_
    refine RL.noT rfl rfl c2 (by decide) ?_
    refine RL.opD (by decide) (opv_pick rfl rfl (fun _ => rfl) (fun e => absurd (Eq.trans (Eq.symm e) c2) (by decide)) rfl) ?_
    refine RL.nil ?_
    have ey1 := Option.some.inj hy1
    subst ey1
    refine onlyN ?_
    exact ⟨⟨rfl, rfl, rfl, rfl, rfl, rfl, rfl, rfl, rfl, rfl, rfl, rfl, rfl, trivial⟩, rfl⟩
   ·rw [if_neg c2] at hy1
    have c2 := eq_false_of_ne_true c2
    refine RL.yesD rfl rfl c2 (by decide) (opv_move rfl rfl) ?_
    refine RL.yesD rfl rfl c2 (by decide) (opv_move rfl rfl) ?_
    refine RL.yesD rfl rfl c2 (by decide) (opv_bcmp rfl rfl Try.underlying4 rfl rfl) ?_
    refine RL.opD (by decide) (opv_pick rfl rfl (fun e => absurd (Eq.trans (Eq.symm e) c2) (by decide)) (fun _ => rfl) rfl) ?_
    refine RL.nil ?_
    have ey1 := Option.some.inj hy1
    subst ey1
    refine onlyN ?_
    exact ⟨⟨rfl, rfl, rfl, rfl, rfl, rfl, rfl, rfl, rfl, rfl, rfl, rfl, rfl, trivial⟩, rfl⟩
  rintro φ' _ ⟨hs1, rfl⟩
  refine thnN ?_
  refine W.sub hs1 ?_
  by_cases c3 : x8 = true
  ·rw [if_pos c3] at hp
   refine W.condT rfl c3 ?_
   refine W.seq ?_
   refine W.region ?_
   refine RL.opD (by decide) (opv_assign rfl rfl) ?_
   refine RL.nil ?_
   refine thnN ?_
   refine W.ret ?_
   refine thnR ?_
   have er := Option.some.inj hp
   subst er
   exact Rt.one rfl rfl ⟨rfl, X_13, (Sep.nil _ _ _)⟩
  ·rw [if_neg c3] at hp
   have c3 := eq_false_of_ne_true c3
   refine W.condF rfl c3 ?_
   refine W.skip ?_
   refine thnN ?_
   refine W.seq ?_
   refine W.seq ?_
   obtain ⟨x10, hx10, hp⟩ := Option.bind_eq_some_iff.1 hp
   obtain ⟨x11, hx11, hp⟩ := Option.bind_eq_some_iff.1 hp
   refine W.sub (ψ := [(0, (.agg (List.toArray (α := Value) [(.int .i64 a0_0), (.int .i64 a0_1), (.bool a0_2), u0_3, u0_4]))), (1, (.agg (List.toArray (α := Value) [(.int .i64 a1_0), (.int .i64 a1_1)]))), (2, (.pointer (some ⟨bb1, 0, none⟩))), (3, (.pointer (some ⟨bb2, 0, none⟩))), (4, (.bool false)), (5, (.int .i64 x1)), (20, (.bool (decide (x1 < 0)))), (6, v3), (7, (.bool x4.2)), (8, (.pointer (some ⟨bb3, 0, none⟩))), (9, v9), (10, (.bool x7.2)), (46, (.bool x8))]) ⟨rfl, rfl, rfl, rfl, rfl, rfl, rfl, rfl, rfl, rfl, rfl, rfl, rfl, trivial⟩ ?_
   refine W.regionM [fun v _ => @Eq Value (.agg (List.toArray (α := Value) [(.int .i64 x5.1), (.int .i64 x5.2.1), (.bool x5.2.2.1), v7, v8])) v, fun v _ => @Eq Value (.agg (List.toArray (α := Value) [(.int .i64 a0_0), (.int .i64 a0_1), (.bool a0_2), u0_3, u0_4])) v, fun v h => ∃ v11, ∃ v12, @Eq Value v (.agg (List.toArray (α := Value) [(.int .i64 x10.1), (.int .i64 x10.2.1), (.bool x10.2.2.1), v11, v12])) ∧ Sep [] hp32.size h [ownO (kF .f32) 29 v11 x10.2.2.2.1, ownO (kF .f32) 29 v12 x10.2.2.2.2], fun v h => @Eq Value v (.bool x11) ∧ Sep [] hp32.size h [], fun v _ => @Eq Value (.bool (!x11)) v] [none, none, some (fun u => [Value.ownBlock (vget u 3), Value.ownBlock (vget u 4)]), some (fun u => []), none] [] [[], [], [1], [0, 2], [3]] [4] Try.mixed (by decide +kernel) (by decide +kernel) rfl rfl rfl (by decide +kernel) rfl ⟨fun _ _ _ h _ => h, fun _ _ _ h _ => h, fun _ _ _ ⟨u0_, u1_, e, h⟩ x => ⟨u0_, u1_, e, h.ext x⟩, fun _ _ _ ⟨e, h⟩ x => ⟨e, h.ext x⟩, fun _ _ _ h _ => h, trivial⟩ ?_ ?_
   ·refine ⟨⟨rfl, ?_⟩, ⟨rfl, ?_⟩, ⟨rfl, ?_⟩, ⟨rfl, ?_⟩, ⟨rfl, ?_⟩, trivial⟩
    ·rintro hp35 E_22
     refine Dep.nil ?_
     refine GuardOK.none rfl ?_
     exact OpV.toDx (opv_loadA (us := [(.int .i64 x5.1), (.int .i64 x5.2.1), (.bool x5.2.2.1), v7, v8]) rfl Try.agg33 Try.size33 rfl (Sep.at (o := boxO bb3 [(.int .i64 x5.1), (.int .i64 x5.2.1), (.bool x5.2.2.1), v7, v8]) (Sep.ext S_14 E_22) 1 rfl) rfl rfl) rfl
    ·rintro hp36 E_23
     refine Dep.nil ?_
     refine GuardOK.none rfl ?_
     exact OpV.toDx (opv_loadA (us := [(.int .i64 a0_0), (.int .i64 a0_1), (.bool a0_2), u0_3, u0_4]) rfl Try.agg78 Try.size78 rfl (Sep.at (o := boxO bb1 [(.int .i64 a0_0), (.int .i64 a0_1), (.bool a0_2), u0_3, u0_4]) (Sep.ext S_14 E_23) 6 rfl) rfl rfl) rfl
    ·rintro hp37 E_24 _ rfl
     refine Dep.nil ?_
     refine GuardOK.none rfl ?_
     exact OpV.mono (opv_call (cap := []) (laws_toSheet_ok _ _ _ _ _ _ (SL.up (SL.mod g0_3 (Mod.lift X_13 E_24) (Nat.le_refl _) nob) (Nat.le_trans (Nat.le_refl _) (Mod.size (Mod.lift X_13 E_24)))) _ _ (SL.up (SL.mod g0_4 (Mod.lift X_13 E_24) (Nat.le_refl _) nob) (Nat.le_trans (Nat.le_refl _) (Mod.size (Mod.lift X_13 E_24)))) _ hx10) rfl rfl ⟨rfl, trivial⟩ Try.func51 rfl rfl) (by rintro _ _ ⟨v11, v12, rfl, M_, T_⟩; exact ⟨Mod.ext M_, ⟨v11, v12, rfl, Sep.weak T_ (Ext.size E_24)⟩, Sep.fresh T_⟩)
    ·rintro hp38 E_25 _ rfl _ ⟨v11, v12, rfl, T_12⟩
     refine Dep.nil ?_
     refine GuardOK.none rfl ?_
     exact OpV.mono (opv_call (cap := []) (laws_eqSheet_ok _ _ _ _ _ _ (ownO.read (Sep.at (o := ownO (kF .f32) 29 v7 x5.2.2.2.1) (Sep.ext S_14 E_25) 2 rfl)) _ _ (ownO.read (Sep.at (o := ownO (kF .f32) 29 v8 x5.2.2.2.2) (Sep.ext S_14 E_25) 3 rfl)) _ _ _ _ _ (ownO.read (Sep.at (o := ownO (kF .f32) 29 v11 x10.2.2.2.1) T_12 0 rfl)) _ _ (ownO.read (Sep.at (o := ownO (kF .f32) 29 v12 x10.2.2.2.2) T_12 1 rfl)) _ hx11) rfl rfl ⟨rfl, rfl, trivial⟩ Try.func55 rfl rfl) (by rintro _ _ ⟨rfl, M_, T_⟩; exact ⟨Mod.ext M_, ⟨rfl, Sep.weak T_ (Ext.size E_25)⟩, Sep.fresh T_⟩)
    ·rintro hp39 E_26 _ ⟨rfl, T_13⟩
     refine Dep.nil ?_
     refine GuardOK.none rfl ?_
     exact OpV.toDx (opv_not rfl rfl) rfl
   rintro hp40 E_27 _ rfl
   refine DepM.nil ?_
   intro _ LK_
   have X_16 := Mod.lift X_13 E_27
   have S_17 := Sep.ext S_14 E_27
   show RL _ _ _ _ [] _ _
   refine RL.nil ?_
   refine thnN ?_
   by_cases c4 : (!x11) = true
   ·rw [if_pos c4] at hp
    refine W.condT rfl c4 ?_
    refine W.seq ?_
    refine W.region ?_
    refine RL.opD (by decide) (opv_assign rfl rfl) ?_
    refine RL.nil ?_
    refine thnN ?_
    refine W.ret ?_
    refine thnR ?_
    have er := Option.some.inj hp
    subst er
    exact Rt.one rfl rfl ⟨rfl, X_16, (Sep.nil _ _ _)⟩
   ·rw [if_neg c4] at hp
    have c4 := eq_false_of_ne_true c4
    refine W.condF rfl c4 ?_
    refine W.skip ?_
    refine thnN ?_
    refine W.seq ?_
    refine W.region ?_
    refine RL.opD (by decide) (opv_assign rfl rfl) ?_
    refine RL.nil ?_
    refine thnN ?_
    refine W.seq ?_
    refine W.region ?_
    refine RL.opD (by decide) (opv_loadA (us := [(.int .i64 x5.1), (.int .i64 x5.2.1), (.bool x5.2.2.1), v7, v8]) rfl Try.agg33 Try.size33 rfl (Sep.at (o := boxO bb3 [(.int .i64 x5.1), (.int .i64 x5.2.1), (.bool x5.2.2.1), v7, v8]) S_17 1 rfl) rfl rfl) ?_
    refine RL.opD (by decide) (opv_move rfl rfl) ?_
    obtain ⟨x12, hx12, hp⟩ := Option.bind_eq_some_iff.1 hp
    have S_19 : Sep [] h0.size hp40 [ownO (kF .f32) 29 v7 x5.2.2.2.1, ownO (kF .f32) 29 v8 x5.2.2.2.2] := Sep.sel S_17 [2, 3] (by decide)
    have S_18 : Sep [v7.ownBlock, v8.ownBlock] hp40.size hp40 [ownO (kF .f32) 29 v7 x5.2.2.2.1, ownO (kF .f32) 29 v8 x5.2.2.2.2] := Sep.own S_19 _
    refine RL.op _ (by decide) (opv_call (cap := []) (laws_markSheet_ok _ h0.size (Nat.le_trans (Nat.le_refl _) (Mod.size X_16)) _ _ _ _ _ _ _ _ S_18 (Sep.ge (L := [ownO (kF .f32) 29 v7 x5.2.2.2.1, ownO (kF .f32) 29 v8 x5.2.2.2.2]) S_19 (Nat.le_refl _) nob) _ hx12) rfl rfl ⟨rfl, rfl, trivial⟩ Try.func56 rfl rfl) ?_
    rintro _ hp41 ⟨rfl, MT_14, T_14⟩
    have S_20 : Sep [] h0.size hp40 ([ownO (kF .f32) 29 v7 x5.2.2.2.1, ownO (kF .f32) 29 v8 x5.2.2.2.2] ++ [ownO (kI .i64) 2 v9 x7.1, boxO bb3 [(.int .i64 x5.1), (.int .i64 x5.2.1), (.bool x5.2.2.1), v7, v8], ownO (kI .i64) 2 v3 x4.1, boxO bb2 [(.int .i64 a1_0), (.int .i64 a1_1)], boxO bb1 [(.int .i64 a0_0), (.int .i64 a0_1), (.bool a0_2), u0_3, u0_4]]) := Sep.sel S_17 [2, 3, 0, 1, 4, 5, 6] (by decide)
    obtain ⟨X_17, S_21⟩ := Sep.turn X_16 S_20 MT_14 T_14
    refine RL.opD (by decide) (opv_assign rfl rfl) ?_
    refine RL.nil ?_
    refine thnN ?_
    refine W.seq ?_
    refine W.seq ?_
    obtain ⟨x13, hy2, hp⟩ := Option.bind_eq_some_iff.1 hp
    refine W.cut (fun φ' h' => Fr.sub [(0, (.agg (List.toArray (α := Value) [(.int .i64 a0_0), (.int .i64 a0_1), (.bool a0_2), u0_3, u0_4]))), (1, (.agg (List.toArray (α := Value) [(.int .i64 a1_0), (.int .i64 a1_1)]))), (2, (.pointer (some ⟨bb1, 0, none⟩))), (3, (.pointer (some ⟨bb2, 0, none⟩))), (4, (.bool false)), (5, (.int .i64 x1)), (20, (.bool (decide (x1 < 0)))), (6, v3), (7, (.bool x4.2)), (8, (.pointer (some ⟨bb3, 0, none⟩))), (9, v9), (10, (.bool x7.2)), (46, (.bool x8)), (51, (.bool (!x11))), (11, (.int .i64 x12.1)), (67, (.bool x13))] φ' ∧ hp41 = h') ?_ ?_
    ·refine W.region ?_
     refine RL.opD (by decide) (opv_move rfl rfl) ?_
     refine RL.opD (by decide) (opv_icmp rfl rfl rfl rfl) ?_
     refine RL.opD (by decide) (opv_move rfl rfl) ?_
     by_cases c5 : (decide (x12.1 < 0)) = true
     ·rw [if_pos c5] at hy2
      refine RL.noT rfl rfl c5 (by decide) ?_
      refine RL.noT rfl rfl c5 (by decide) ?_
      refine RL.noT rfl rfl c5 (by decide) ?_
      refine RL.noT rfl rfl c5 (by decide) ?_
      refine RL.opD (by decide) (opv_pick rfl rfl (fun _ => rfl) (fun e => absurd (Eq.trans (Eq.symm e) c5) (by decide)) rfl) ?_
      refine RL.opD (by decide) (opv_move rfl rfl) ?_
      refine RL.noT rfl rfl rfl (by decide) ?_
      refine RL.noT rfl rfl rfl (by decide) ?_
      refine RL.noT rfl rfl rfl (by decide) ?_
      refine RL.opD (by decide) (opv_pick rfl rfl (fun _ => rfl) (fun e => absurd (Eq.trans (Eq.symm e) rfl) (by decide)) rfl) ?_
      refine RL.nil ?_
      have ey2 := Option.some.inj hy2
      subst ey2
      refine onlyN ?_
      exact ⟨⟨rfl, rfl, rfl, rfl, rfl, rfl, rfl, rfl, rfl, rfl, rfl, rfl, rfl, rfl, rfl, rfl, trivial⟩, rfl⟩
     ·rw [if_neg c5] at hy2
      have c5 := eq_false_of_ne_true c5
      refine RL.yesD rfl rfl c5 (by decide) (opv_move rfl rfl) ?_
      refine RL.yesD rfl rfl c5 (by decide) (opv_move rfl rfl) ?_
      obtain ⟨x14, hx14, hy2⟩ := Option.bind_eq_some_iff.1 hy2
      refine RL.yes _ rfl rfl c5 (by decide) (opv_call (cap := []) (laws_eqInt64S_ok _ _ _ (ownO.read (Sep.at (o := ownO (kI .i64) 2 v9 x7.1) S_21 2 rfl)) _ _ (ownO.read (Sep.at (o := ownO (kI .i64) 2 v3 x4.1) S_21 4 rfl)) _ hx14) rfl rfl ⟨rfl, rfl, trivial⟩ Try.func54 rfl rfl) ?_
      rintro _ _ ⟨rfl, rfl⟩
      refine RL.yesD rfl rfl c5 (by decide) (opv_not rfl rfl) ?_
      refine RL.opD (by decide) (opv_pick rfl rfl (fun e => absurd (Eq.trans (Eq.symm e) c5) (by decide)) (fun _ => rfl) rfl) ?_
      refine RL.opD (by decide) (opv_move rfl rfl) ?_
      by_cases c6 : (!x14) = true
      ·rw [if_pos c6] at hy2
       refine RL.noT rfl rfl c6 (by decide) ?_
       refine RL.noT rfl rfl c6 (by decide) ?_
       refine RL.noT rfl rfl c6 (by decide) ?_
       refine RL.opD (by decide) (opv_pick rfl rfl (fun _ => rfl) (fun e => absurd (Eq.trans (Eq.symm e) c6) (by decide)) rfl) ?_
       refine RL.nil ?_
       have ey2 := Option.some.inj hy2
       subst ey2
       refine onlyN ?_
       exact ⟨⟨rfl, rfl, rfl, rfl, rfl, rfl, rfl, rfl, rfl, rfl, rfl, rfl, rfl, rfl, rfl, rfl, trivial⟩, rfl⟩
      ·rw [if_neg c6] at hy2
       have c6 := eq_false_of_ne_true c6
       refine RL.yesD rfl rfl c6 (by decide) (opv_move rfl rfl) ?_
       refine RL.yesD rfl rfl c6 (by decide) (opv_move rfl rfl) ?_
       refine RL.yesD rfl rfl c6 (by decide) (opv_bcmp rfl rfl Try.underlying4 rfl rfl) ?_
       refine RL.opD (by decide) (opv_pick rfl rfl (fun e => absurd (Eq.trans (Eq.symm e) c6) (by decide)) (fun _ => rfl) rfl) ?_
       refine RL.nil ?_
       have ey2 := Option.some.inj hy2
       subst ey2
       refine onlyN ?_
       exact ⟨⟨rfl, rfl, rfl, rfl, rfl, rfl, rfl, rfl, rfl, rfl, rfl, rfl, rfl, rfl, rfl, rfl, trivial⟩, rfl⟩
    rintro φ' _ ⟨hs2, rfl⟩
    refine thnN ?_
    refine W.sub hs2 ?_
    by_cases c7 : x13 = true
    ·rw [if_pos c7] at hp
     refine W.condT rfl c7 ?_
     refine W.seq ?_
     refine W.region ?_
     refine RL.opD (by decide) (opv_assign rfl rfl) ?_
     refine RL.nil ?_
     refine thnN ?_
     refine W.ret ?_
     refine thnR ?_
     have er := Option.some.inj hp
     subst er
     exact Rt.one rfl rfl ⟨rfl, X_17, (Sep.nil _ _ _)⟩
    ·rw [if_neg c7] at hp
     have c7 := eq_false_of_ne_true c7
     refine W.condF rfl c7 ?_
     refine W.skip ?_
     refine thnN ?_
     refine W.seq ?_
     refine W.region ?_
     refine RL.opD (by decide) (opv_assign rfl rfl) ?_
     refine RL.nil ?_
     refine thnN ?_
     refine W.seq ?_
     refine W.region ?_
     refine RL.opD (by decide) (opv_move rfl rfl) ?_
     refine RL.opD (by decide) (opv_move rfl rfl) ?_
     obtain ⟨x15, hx15, hp⟩ := Option.bind_eq_some_iff.1 hp
     have S_23 : Sep [] h0.size hp41 [ownO (kI .i64) 2 v9 x7.1] := Sep.sel S_21 [2] (by decide)
     have S_22 : Sep [v9.ownBlock] hp41.size hp41 [ownO (kI .i64) 2 v9 x7.1] := Sep.own S_23 _
     refine RL.op _ (by decide) (opv_call (cap := []) (laws_markInt64S_ok _ h0.size (Nat.le_trans (Nat.le_refl _) (Mod.size X_17)) _ _ _ S_22 (Sep.ge (L := [ownO (kI .i64) 2 v9 x7.1]) S_23 (Nat.le_refl _) nob) _ hx15) rfl rfl ⟨rfl, rfl, trivial⟩ Try.func57 rfl rfl) ?_
     rintro _ hp42 ⟨rfl, MT_15, T_15⟩
     have S_24 : Sep [] h0.size hp41 ([ownO (kI .i64) 2 v9 x7.1] ++ [ownO (kF .f32) 29 v7 x12.2.1, ownO (kF .f32) 29 v8 x12.2.2, boxO bb3 [(.int .i64 x5.1), (.int .i64 x5.2.1), (.bool x5.2.2.1), v7, v8], ownO (kI .i64) 2 v3 x4.1, boxO bb2 [(.int .i64 a1_0), (.int .i64 a1_1)], boxO bb1 [(.int .i64 a0_0), (.int .i64 a0_1), (.bool a0_2), u0_3, u0_4]]) := Sep.sel S_21 [2, 0, 1, 3, 4, 5, 6] (by decide)
     obtain ⟨X_18, S_25⟩ := Sep.turn X_17 S_24 MT_15 T_15
     refine RL.opD (by decide) (opv_assign rfl rfl) ?_
     refine RL.nil ?_
     refine thnN ?_
     refine W.seq ?_
     refine W.region ?_
     refine RL.opD (by decide) (opv_assign rfl rfl) ?_
     refine RL.nil ?_
     refine thnN ?_
     refine W.seq ?_
     refine W.region ?_
     refine RL.opD (by decide) (opv_move rfl rfl) ?_
     refine RL.opD (by decide) (opv_move rfl rfl) ?_
     obtain ⟨x16, hx16, hp⟩ := Option.bind_eq_some_iff.1 hp
     refine RL.op _ (by decide) (opv_call (cap := []) (laws_heldInt64S_ok _ _ _ (ownO.read (Sep.at (o := ownO (kI .i64) 2 v9 x15.2) S_25 0 rfl)) _ _ hx16) rfl rfl ⟨rfl, rfl, trivial⟩ Try.func58 rfl rfl) ?_
     rintro _ _ ⟨rfl, rfl⟩
     refine RL.opD (by decide) (opv_assign rfl rfl) ?_
     refine RL.nil ?_
     refine thnN ?_
     refine W.seq ?_
     refine W.seq ?_
     refine W.region ?_
     refine RL.opD (by decide) (opv_move rfl rfl) ?_
     refine RL.opD (by decide) (opv_icmp rfl rfl rfl rfl) ?_
     refine RL.nil ?_
     refine thnN ?_
     by_cases c8 : (decide (x16 < 0)) = true
     ·rw [if_pos c8] at hp
      refine W.condT rfl c8 ?_
      refine W.seq ?_
      refine W.region ?_
      refine RL.opD (by decide) (opv_assign rfl rfl) ?_
      refine RL.nil ?_
      refine thnN ?_
      refine W.ret ?_
      refine thnR ?_
      have er := Option.some.inj hp
      subst er
      exact Rt.one rfl rfl ⟨rfl, X_18, (Sep.nil _ _ _)⟩
     ·rw [if_neg c8] at hp
      have c8 := eq_false_of_ne_true c8
      refine W.condF rfl c8 ?_
      refine W.skip ?_
      refine thnN ?_
      refine W.seq ?_
      refine W.seq ?_
      refine W.region ?_
      refine RL.opD (by decide) (opv_move rfl rfl) ?_
      refine RL.opD (by decide) (opv_move rfl rfl) ?_
      refine RL.opD (by decide) (opv_icmp rfl rfl rfl rfl) ?_
      refine RL.nil ?_
      refine thnN ?_
      by_cases c9 : (x16 != x15.1) = true
      ·rw [if_pos c9] at hp
       refine W.condT rfl c9 ?_
       refine W.seq ?_
       refine W.region ?_
       refine RL.opD (by decide) (opv_assign rfl rfl) ?_
       refine RL.nil ?_
       refine thnN ?_
       refine W.ret ?_
       refine thnR ?_
       have er := Option.some.inj hp
       subst er
       exact Rt.one rfl rfl ⟨rfl, X_18, (Sep.nil _ _ _)⟩
      ·rw [if_neg c9] at hp
       have c9 := eq_false_of_ne_true c9
       refine W.condF rfl c9 ?_
       refine W.skip ?_
       refine thnN ?_
       refine W.seq ?_
       obtain ⟨x17, hx17, hp⟩ := Option.bind_eq_some_iff.1 hp
       obtain ⟨x18, hx18, hp⟩ := Option.bind_eq_some_iff.1 hp
       obtain ⟨x19, hx19, hp⟩ := Option.bind_eq_some_iff.1 hp
       refine W.sub (ψ := [(0, (.agg (List.toArray (α := Value) [(.int .i64 a0_0), (.int .i64 a0_1), (.bool a0_2), u0_3, u0_4]))), (1, (.agg (List.toArray (α := Value) [(.int .i64 a1_0), (.int .i64 a1_1)]))), (2, (.pointer (some ⟨bb1, 0, none⟩))), (3, (.pointer (some ⟨bb2, 0, none⟩))), (4, (.bool false)), (5, (.int .i64 x1)), (20, (.bool (decide (x1 < 0)))), (6, v3), (7, (.bool x4.2)), (8, (.pointer (some ⟨bb3, 0, none⟩))), (9, v9), (10, (.bool x7.2)), (46, (.bool x8)), (51, (.bool (!x11))), (11, (.int .i64 x12.1)), (67, (.bool x13)), (12, (.int .i64 x15.1)), (13, (.int .i64 x16)), (75, (.bool (decide (x16 < 0)))), (78, (.bool (x16 != x15.1)))]) ⟨rfl, rfl, rfl, rfl, rfl, rfl, rfl, rfl, rfl, rfl, rfl, rfl, rfl, rfl, rfl, rfl, rfl, rfl, rfl, rfl, trivial⟩ ?_
       refine W.regionM [fun v _ => @Eq Value (.agg (List.toArray (α := Value) [(.int .i64 a0_0), (.int .i64 a0_1), (.bool a0_2), u0_3, u0_4])) v, fun v h => ∃ v15, ∃ v16, @Eq Value v (.agg (List.toArray (α := Value) [(.int .i64 x17.1), (.int .i64 x17.2.1), (.bool x17.2.2.1), v15, v16])) ∧ Sep [] hp42.size h [ownO (kF .f32) 29 v15 x17.2.2.2.1, ownO (kF .f32) 29 v16 x17.2.2.2.2], fun v _ => @Eq Value (.agg (List.toArray (α := Value) [(.int .i64 a1_0), (.int .i64 a1_1)])) v, fun v h => @Eq Value v (.agg (List.toArray (α := Value) [(.int .i64 x18.1), (.int .i64 x18.2)])) ∧ Sep [] hp42.size h [], fun v h => ∃ v17, @Eq Value v (.tuple (List.toArray (α := Value) [v17, (.bool x19.2)])) ∧ Sep [] hp42.size h [ownO (kI .i64) 2 v17 x19.1], fun v h => ∃ v17, @Eq Value v (.tuple (List.toArray (α := Value) [v17, (.bool x19.2)])) ∧ Sep [] hp42.size h [ownO (kI .i64) 2 v17 x19.1], fun v h => ∃ v17, @Eq Value v v17 ∧ Sep [] hp42.size h [ownO (kI .i64) 2 v17 x19.1], fun v _ => @Eq Value (.bool x19.2) v, fun v h => ∃ v17, @Eq Value v v17 ∧ Sep [] hp42.size h [ownO (kI .i64) 2 v17 x19.1], fun v _ => @Eq Value (.bool x19.2) v] [none, some (fun u => [Value.ownBlock (vget u 3), Value.ownBlock (vget u 4)]), none, some (fun u => []), some (fun u => [Value.ownBlock (vget u 0)]), none, none, none, none, none] [none, none, none, none, none, some (84, fun u => u), some (79, fun u => vget u 0), none, some (85, fun u => u)] [[], [0], [], [2], [1, 3], [4], [5], [5], [6], [7]] [4, 5, 6, 8, 9] Try.mixed (by decide +kernel) (by decide +kernel) rfl rfl rfl (by decide +kernel) rfl ⟨fun _ _ _ h _ => h, fun _ _ _ ⟨u0_, u1_, e, h⟩ x => ⟨u0_, u1_, e, h.ext x⟩, fun _ _ _ h _ => h, fun _ _ _ ⟨e, h⟩ x => ⟨e, h.ext x⟩, fun _ _ _ ⟨u0_, e, h⟩ x => ⟨u0_, e, h.ext x⟩, fun _ _ _ ⟨u0_, e, h⟩ x => ⟨u0_, e, h.ext x⟩, fun _ _ _ ⟨u0_, e, h⟩ x => ⟨u0_, e, h.ext x⟩, fun _ _ _ h _ => h, fun _ _ _ ⟨u0_, e, h⟩ x => ⟨u0_, e, h.ext x⟩, fun _ _ _ h _ => h, trivial⟩ ?_ ?_
       ·refine ⟨⟨rfl, ?_⟩, ⟨rfl, ?_⟩, ⟨rfl, ?_⟩, ⟨rfl, ?_⟩, ⟨rfl, ?_⟩, ⟨rfl, ?_⟩, ⟨rfl, ?_⟩, ⟨rfl, ?_⟩, ⟨rfl, ?_⟩, ⟨rfl, ?_⟩, trivial⟩
        ·rintro hp46 E_28
         refine Dep.nil ?_
         refine GuardOK.none rfl ?_
         exact OpV.toDx (opv_loadA (us := [(.int .i64 a0_0), (.int .i64 a0_1), (.bool a0_2), u0_3, u0_4]) rfl Try.agg78 Try.size78 rfl (Sep.at (o := boxO bb1 [(.int .i64 a0_0), (.int .i64 a0_1), (.bool a0_2), u0_3, u0_4]) (Sep.ext S_25 E_28) 6 rfl) rfl rfl) rfl
        ·rintro hp47 E_29 _ rfl
         refine Dep.nil ?_
         refine GuardOK.none rfl ?_
         exact OpV.mono (opv_call (cap := []) (laws_toSheet_ok _ _ _ _ _ _ (SL.up (SL.mod g0_3 (Mod.lift X_18 E_29) (Nat.le_refl _) nob) (Nat.le_trans (Nat.le_refl _) (Mod.size (Mod.lift X_18 E_29)))) _ _ (SL.up (SL.mod g0_4 (Mod.lift X_18 E_29) (Nat.le_refl _) nob) (Nat.le_trans (Nat.le_refl _) (Mod.size (Mod.lift X_18 E_29)))) _ hx17) rfl rfl ⟨rfl, trivial⟩ Try.func51 rfl rfl) (by rintro _ _ ⟨v15, v16, rfl, M_, T_⟩; exact ⟨Mod.ext M_, ⟨v15, v16, rfl, Sep.weak T_ (Ext.size E_29)⟩, Sep.fresh T_⟩)
        ·rintro hp48 E_30
         refine Dep.nil ?_
         refine GuardOK.none rfl ?_
         exact OpV.toDx (opv_loadA (us := [(.int .i64 a1_0), (.int .i64 a1_1)]) rfl Try.agg80 Try.size80 rfl (Sep.at (o := boxO bb2 [(.int .i64 a1_0), (.int .i64 a1_1)]) (Sep.ext S_25 E_30) 5 rfl) rfl rfl) rfl
        ·rintro hp49 E_31 _ rfl
         refine Dep.nil ?_
         refine GuardOK.none rfl ?_
         exact OpV.mono (opv_call (cap := []) (laws_toStrip_ok _ _ _ _ hx18) rfl rfl ⟨rfl, trivial⟩ Try.func52 rfl rfl) (by rintro _ _ ⟨rfl, M_, T_⟩; exact ⟨Mod.ext M_, ⟨rfl, Sep.weak T_ (Ext.size E_31)⟩, Sep.fresh T_⟩)
        ·rintro hp50 E_32 _ ⟨v15, v16, rfl, T_16⟩ _ ⟨rfl, T_17⟩
         refine Dep.nil ?_
         refine GuardOK.none rfl ?_
         exact OpV.mono (opv_call (cap := []) (impl_HaloRows_ok _ _ _ _ _ _ (ownO.read (Sep.at (o := ownO (kF .f32) 29 v15 x17.2.2.2.1) T_16 0 rfl)) _ _ (ownO.read (Sep.at (o := ownO (kF .f32) 29 v16 x17.2.2.2.2) T_16 1 rfl)) _ _ _ hx19) rfl rfl ⟨rfl, rfl, trivial⟩ Try.func53 rfl rfl) (by rintro _ _ ⟨v17, rfl, M_, T_⟩; exact ⟨Mod.ext M_, ⟨v17, rfl, Sep.weak T_ (Ext.size E_32)⟩, Sep.fresh T_⟩)
        ·rintro hp51 E_33 _ ⟨v17, rfl, T_18⟩
         refine Dep.nil ?_
         refine GuardOK.none rfl ?_
         exact OpV.mono (opv_move rfl rfl) (by rintro _ _ ⟨rfl, rfl⟩; exact ⟨⟨Ext.refl _, v17, rfl, T_18⟩, _, rfl, rfl⟩)
        ·rintro hp52 E_34 _ ⟨v17, rfl, T_18⟩
         refine Dep.nil ?_
         refine GuardOK.none rfl ?_
         exact OpV.mono (opv_extract rfl rfl rfl) (by rintro _ _ ⟨rfl, rfl⟩; exact ⟨⟨Ext.refl _, v17, rfl, T_18⟩, _, rfl, rfl⟩)
        ·rintro hp53 E_35 _ ⟨v17, rfl, T_18⟩
         refine Dep.nil ?_
         refine GuardOK.none rfl ?_
         exact OpV.toDx (opv_extract rfl rfl rfl) rfl
        ·rintro hp54 E_36 v17 ⟨_, rfl, T_18⟩
         refine Dep.nil ?_
         refine GuardOK.none rfl ?_
         exact OpV.mono (opv_assign rfl rfl) (by rintro _ _ ⟨rfl, rfl⟩; exact ⟨⟨Ext.refl _, v17, rfl, T_18⟩, _, rfl, rfl⟩)
        ·rintro hp55 E_37 _ rfl
         refine Dep.nil ?_
         refine GuardOK.none rfl ?_
         exact OpV.toDx (opv_assign rfl rfl) rfl
       rintro hp56 E_38 _ ⟨v17, rfl, T_18⟩ z5_ _ z6_ _ z8_ _ _ rfl
       refine DepM.nil ?_
       intro PW_3 LK_
       have ez5_ : z5_ = (.tuple (List.toArray (α := Value) [v17, (.bool x19.2)])) := LK_ 5 _ _ _ _ _ (by decide) rfl rfl rfl rfl
       subst z5_
       have ez6_ : z6_ = v17 := LK_ 6 _ _ _ _ _ (by decide) rfl rfl rfl rfl
       subst z6_
       have ez8_ : z8_ = v17 := LK_ 8 _ _ _ _ _ (by decide) rfl rfl rfl rfl
       subst z8_
       have X_22 := Mod.lift X_18 E_38
       have S_29 := Sep.join S_25 (Mod.size X_18) (Ext.mod E_38 []) T_18
       show RL _ _ _ _ [] _ _
       refine RL.nil ?_
       refine thnN ?_
       refine W.seq ?_
       refine W.seq ?_
       obtain ⟨x20, hy3, hp⟩ := Option.bind_eq_some_iff.1 hp
       refine W.cut (fun φ' h' => Fr.sub [(0, (.agg (List.toArray (α := Value) [(.int .i64 a0_0), (.int .i64 a0_1), (.bool a0_2), u0_3, u0_4]))), (1, (.agg (List.toArray (α := Value) [(.int .i64 a1_0), (.int .i64 a1_1)]))), (2, (.pointer (some ⟨bb1, 0, none⟩))), (3, (.pointer (some ⟨bb2, 0, none⟩))), (4, (.bool false)), (5, (.int .i64 x1)), (20, (.bool (decide (x1 < 0)))), (6, v3), (7, (.bool x4.2)), (8, (.pointer (some ⟨bb3, 0, none⟩))), (9, v9), (10, (.bool x7.2)), (46, (.bool x8)), (51, (.bool (!x11))), (11, (.int .i64 x12.1)), (67, (.bool x13)), (12, (.int .i64 x15.1)), (13, (.int .i64 x16)), (75, (.bool (decide (x16 < 0)))), (78, (.bool (x16 != x15.1))), (14, v17), (15, (.bool x19.2)), (95, (.bool x20))] φ' ∧ hp56 = h') ?_ ?_
       ·refine W.region ?_
        refine RL.opD (by decide) (opv_move rfl rfl) ?_
        refine RL.opD (by decide) (opv_move rfl rfl) ?_
        obtain ⟨x21, hx21, hy3⟩ := Option.bind_eq_some_iff.1 hy3
        refine RL.op _ (by decide) (opv_call (cap := []) (laws_eqInt64S_ok _ _ _ (ownO.read (Sep.at (o := ownO (kI .i64) 2 v17 x19.1) S_29 0 rfl)) _ _ (ownO.read (Sep.at (o := ownO (kI .i64) 2 v3 x4.1) S_29 5 rfl)) _ hx21) rfl rfl ⟨rfl, rfl, trivial⟩ Try.func54 rfl rfl) ?_
        rintro _ _ ⟨rfl, rfl⟩
        refine RL.opD (by decide) (opv_not rfl rfl) ?_
        refine RL.opD (by decide) (opv_move rfl rfl) ?_
        by_cases c10 : (!x21) = true
        ·rw [if_pos c10] at hy3
         refine RL.noT rfl rfl c10 (by decide) ?_
         refine RL.noT rfl rfl c10 (by decide) ?_
         refine RL.noT rfl rfl c10 (by decide) ?_
         refine RL.opD (by decide) (opv_pick rfl rfl (fun _ => rfl) (fun e => absurd (Eq.trans (Eq.symm e) c10) (by decide)) rfl) ?_
         refine RL.nil ?_
         have ey3 := Option.some.inj hy3
         subst ey3
         refine onlyN ?_
         exact ⟨⟨rfl, rfl, rfl, rfl, rfl, rfl, rfl, rfl, rfl, rfl, rfl, rfl, rfl, rfl, rfl, rfl, rfl, rfl, rfl, rfl, rfl, rfl, rfl, trivial⟩, rfl⟩
        ·rw [if_neg c10] at hy3
         have c10 := eq_false_of_ne_true c10
         refine RL.yesD rfl rfl c10 (by decide) (opv_move rfl rfl) ?_
         refine RL.yesD rfl rfl c10 (by decide) (opv_move rfl rfl) ?_
         refine RL.yesD rfl rfl c10 (by decide) (opv_bcmp rfl rfl Try.underlying4 rfl rfl) ?_
         refine RL.opD (by decide) (opv_pick rfl rfl (fun e => absurd (Eq.trans (Eq.symm e) c10) (by decide)) (fun _ => rfl) rfl) ?_
         refine RL.nil ?_
         have ey3 := Option.some.inj hy3
         subst ey3
         refine onlyN ?_
         exact ⟨⟨rfl, rfl, rfl, rfl, rfl, rfl, rfl, rfl, rfl, rfl, rfl, rfl, rfl, rfl, rfl, rfl, rfl, rfl, rfl, rfl, rfl, rfl, rfl, trivial⟩, rfl⟩
       rintro φ' _ ⟨hs3, rfl⟩
       refine thnN ?_
       refine W.sub hs3 ?_
       by_cases c11 : x20 = true
       ·rw [if_pos c11] at hp
        refine W.condT rfl c11 ?_
        refine W.seq ?_
        refine W.region ?_
        refine RL.opD (by decide) (opv_assign rfl rfl) ?_
        refine RL.nil ?_
        refine thnN ?_
        refine W.ret ?_
        refine thnR ?_
        have er := Option.some.inj hp
        subst er
        exact Rt.one rfl rfl ⟨rfl, X_22, (Sep.nil _ _ _)⟩
       ·rw [if_neg c11] at hp
        have c11 := eq_false_of_ne_true c11
        refine W.condF rfl c11 ?_
        refine W.skip ?_
        refine thnN ?_
        refine W.seq ?_
        refine W.region ?_
        refine RL.opD (by decide) (opv_assign rfl rfl) ?_
        refine RL.nil ?_
        refine thnN ?_
        refine W.seq ?_
        refine W.region ?_
        refine RL.opD (by decide) (opv_move rfl rfl) ?_
        refine RL.opD (by decide) (opv_move rfl rfl) ?_
        obtain ⟨x22, hx22, hp⟩ := Option.bind_eq_some_iff.1 hp
        refine RL.op _ (by decide) (opv_call (cap := []) (laws_heldInt64S_ok _ _ _ (ownO.read (Sep.at (o := ownO (kI .i64) 2 v9 x15.2) S_29 1 rfl)) _ _ hx22) rfl rfl ⟨rfl, rfl, trivial⟩ Try.func58 rfl rfl) ?_
        rintro _ _ ⟨rfl, rfl⟩
        refine RL.opD (by decide) (opv_assign rfl rfl) ?_
        refine RL.nil ?_
        refine thnN ?_
        refine W.seq ?_
        refine W.seq ?_
        refine W.region ?_
        refine RL.opD (by decide) (opv_move rfl rfl) ?_
        refine RL.opD (by decide) (opv_icmp rfl rfl rfl rfl) ?_
        refine RL.nil ?_
        refine thnN ?_
        by_cases c12 : (decide (x22 < 0)) = true
        ·rw [if_pos c12] at hp
         refine W.condT rfl c12 ?_
         refine W.seq ?_
         refine W.region ?_
         refine RL.opD (by decide) (opv_assign rfl rfl) ?_
         refine RL.nil ?_
         refine thnN ?_
         refine W.ret ?_
         refine thnR ?_
         have er := Option.some.inj hp
         subst er
         exact Rt.one rfl rfl ⟨rfl, X_22, (Sep.nil _ _ _)⟩
        ·rw [if_neg c12] at hp
         have c12 := eq_false_of_ne_true c12
         refine W.condF rfl c12 ?_
         refine W.skip ?_
         refine thnN ?_
         refine W.seq ?_
         refine W.seq ?_
         refine W.region ?_
         refine RL.opD (by decide) (opv_move rfl rfl) ?_
         refine RL.opD (by decide) (opv_move rfl rfl) ?_
         refine RL.opD (by decide) (opv_icmp rfl rfl rfl rfl) ?_
         refine RL.nil ?_
         refine thnN ?_
         by_cases c13 : (x22 != x15.1) = true
         ·rw [if_pos c13] at hp
          refine W.condT rfl c13 ?_
          refine W.seq ?_
          refine W.region ?_
          refine RL.opD (by decide) (opv_assign rfl rfl) ?_
          refine RL.nil ?_
          refine thnN ?_
          refine W.ret ?_
          refine thnR ?_
          have er := Option.some.inj hp
          subst er
          exact Rt.one rfl rfl ⟨rfl, X_22, (Sep.nil _ _ _)⟩
         ·rw [if_neg c13] at hp
          have c13 := eq_false_of_ne_true c13
          refine W.condF rfl c13 ?_
          refine W.skip ?_
          refine thnN ?_
          refine W.seq ?_
          refine W.region ?_
          refine RL.opD (by decide) (opv_assign rfl rfl) ?_
          refine RL.nil ?_
          refine thnN ?_
          refine W.ret ?_
          have er := Option.some.inj hp
          subst er
          exact Rt.one rfl rfl ⟨rfl, X_22, (Sep.nil _ _ _)⟩

end Go.H
