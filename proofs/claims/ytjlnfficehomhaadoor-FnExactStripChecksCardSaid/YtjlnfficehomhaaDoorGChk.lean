/- Functions of the program: what each computes, as a plain function, and that the call comes to it. Written by a program (wip/gen). -/
import Derived.Test.YtjlnfficehomhaaDoorGBase
import Derived.Test.YtjlnfficehomhaaDoorGCopy
import Derived.Test.YtjlnfficehomhaaDoorGSheet
import Derived.Test.YtjlnfficehomhaaDoorGField
import Derived.Test.YtjlnfficehomhaaDoorBase28
import Derived.Test.YtjlnfficehomhaaDoorProg
import Derived.KernelRfl
set_option linter.unusedVariables false
namespace Go.H
open Go Go.Proofs



noncomputable def spec_l07Strips.s0 (a0 : Int) (a1 : Int) (x1 : List ((Int × Int))) (x2 : Int) (x3 : Int) : Option (((List ((Int × Int))) × Int × Int) ⊕ (Int × Int × Bool × (List ((Int × Int))))) :=
 (if (decide (x3 < a1)) = true then (if a1 = 0 then none else (if a1 = 0 then none else (((if (decide (x3 < (Int.tmod a0 a1))) = true then some (IntKind.wrap .i64 ((IntKind.wrap .i64 (Int.tdiv a0 a1)) + 1)) else some (IntKind.wrap .i64 (Int.tdiv a0 a1))) : Option Int).bind fun (x8 : Int) => (((if (decide (x8 > 0)) = true then (if x1.length + [(x2, x8)].length ≤ 1000000000 then some (x1 ++ [(x2, x8)]) else none) else some x1) : Option (List ((Int × Int)))).bind fun (x9 : List ((Int × Int))) => some (.inl (x9, IntKind.wrap .i64 (x2 + x8), IntKind.wrap .i64 (x3 + 1))))))) else some (.inr (x2, x3, decide (x3 < a1), x1)))

noncomputable def spec_l07Strips (a0 : Int) (a1 : Int) : Option (List ((Int × Int))) :=
 ((loopF (fun (s : ((List ((Int × Int))) × Int × Int)) => spec_l07Strips.s0 a0 a1 s.1 s.2.1 s.2.2) (([] : List ((Int × Int))), 0, 0)).bind fun (⟨x4, x5, x6, x7⟩ : (Int × Int × Bool × (List ((Int × Int))))) => some x7)

noncomputable def spec_l01Check.s0 (a1 : ByteArray) (x1 : Int) (x2 : Int) : Option ((Int × Int) ⊕ (Int × Int × Bool)) :=
 (if (decide (x2 < (a1.size : Int))) = true then ((sidx a1 x2).bind fun (x6 : Int) => some (.inl (Int.tmod (IntKind.wrap .i64 ((IntKind.wrap .i64 ((IntKind.wrap .i64 (677 * x1)) + (IntKind.wrap .i64 x6))) + 31)) 65003, IntKind.wrap .i64 (x2 + 1)))) else some (.inr (x1, x2, decide (x2 < (a1.size : Int)))))

noncomputable def spec_l01Check (a0 : Int) (a1 : ByteArray) : Option Int :=
 ((loopF (fun (s : (Int × Int)) => spec_l01Check.s0 a1 s.1 s.2) (a0, 0)).bind fun (⟨x3, x4, x5⟩ : (Int × Int × Bool)) => some x3)

noncomputable def spec_l01Bits (a0 : Option Nat) : Option Int :=
 (if (fcmp .neq .f32 a0 a0) = true then some 2143289344 else ((fbits a0).bind fun (x1 : Int) => some (IntKind.wrap .i64 x1)))

noncomputable def spec_l01Hex.s0 (x1 : Int) (x2 : List (Int)) (x3 : Int) : Option (((List (Int)) × Int) ⊕ (Int × Bool × (List (Int)))) :=
 (if (decide (x3 ≥ 0)) = true then (if 0 ≤ (IntKind.wrap .u64 x3) then ((sidx (⟨#[48, 49, 50, 51, 52, 53, 54, 55, 56, 57, 97, 98, 99, 100, 101, 102]⟩ : ByteArray) (bits .and .i64 (bits .shr .i64 x1 (IntKind.wrap .u64 x3)) 15)).bind fun (x7 : Int) => (if x2.length + [x7].length ≤ 1000000000 then some (.inl (x2 ++ [x7], IntKind.wrap .i64 (x3 - 4))) else none)) else none) else some (.inr (x3, decide (x3 ≥ 0), x2)))

noncomputable def spec_l01Hex (a0 : Option Nat) : Option ByteArray :=
 ((spec_l01Bits a0).bind fun (x1 : Int) => ((loopF (fun (s : ((List (Int)) × Int)) => spec_l01Hex.s0 x1 s.1 s.2) (([] : List (Int)), 28)).bind fun (⟨x4, x5, x6⟩ : (Int × Bool × (List (Int)))) => some (mkS x6)))

noncomputable def spec_l01NText.s0 (a0 : List (Option Nat)) (x3 : ByteArray) (x4 : Int) : Option ((ByteArray × Int) ⊕ (ByteArray × Int × Bool)) :=
 (if (decide (x4 < (a0.length : Int))) = true then ((idx a0 x4).bind fun (x8 : Option Nat) => ((spec_l01Hex x8).bind fun (x9 : ByteArray) => (if (⟨#[44]⟩ : ByteArray).size + x9.size ≤ 1000000000 then (if x3.size + ((⟨#[44]⟩ : ByteArray) ++ x9).size ≤ 1000000000 then some (.inl (x3 ++ ((⟨#[44]⟩ : ByteArray) ++ x9), IntKind.wrap .i64 (x4 + 1))) else none) else none))) else some (.inr (x3, x4, decide (x4 < (a0.length : Int)))))

noncomputable def spec_l01NText (a0 : List (Option Nat)) : Option ByteArray :=
 (if ((a0.length : Int) == 0) = true then some (⟨#[110, 111, 110, 101]⟩ : ByteArray) else ((idx a0 0).bind fun (x1 : Option Nat) => ((spec_l01Hex x1).bind fun (x2 : ByteArray) => ((loopF (fun (s : (ByteArray × Int)) => spec_l01NText.s0 a0 s.1 s.2) (x2, 1)).bind fun (⟨x5, x6, x7⟩ : (ByteArray × Int × Bool)) => some x5))))

noncomputable def spec_StripChecks.s1 (a0_0 : Int) (a1_0 : List (Option Nat)) (x4 : List ((Int × Int))) (x6 : Int) (x11 : Int) (x12 : Int) : Option ((Int × Int) ⊕ (Int × Int × Bool)) :=
 ((idx x4 x6).bind fun (x16 : (Int × Int)) => ((idx x4 x6).bind fun (x17 : (Int × Int)) => (if (decide (x12 < (IntKind.wrap .i64 (x16.1 + x17.2)))) = true then ((sub a1_0 (IntKind.wrap .i64 (a0_0 * x12)) (IntKind.wrap .i64 (a0_0 * (IntKind.wrap .i64 (x12 + 1))))).bind fun (x18 : List (Option Nat)) => ((spec_l01NText x18).bind fun (x19 : ByteArray) => ((spec_l01Check x11 x19).bind fun (x20 : Int) => some (.inl (x20, IntKind.wrap .i64 (x12 + 1)))))) else some (.inr (x11, x12, decide (x12 < (IntKind.wrap .i64 (x16.1 + x17.2))))))))

noncomputable def spec_StripChecks.s0 (a0_0 : Int) (a1_0 : List (Option Nat)) (x4 : List ((Int × Int))) (x5 : List (Int)) (x6 : Int) : Option (((List (Int)) × Int) ⊕ (Int × Bool × (List (Int)))) :=
 (if (decide (x6 < (x4.length : Int))) = true then ((idx x4 x6).bind fun (x10 : (Int × Int)) => ((loopF (fun (s : (Int × Int)) => spec_StripChecks.s1 a0_0 a1_0 x4 x6 s.1 s.2) (0, x10.1)).bind fun (⟨x13, x14, x15⟩ : (Int × Int × Bool)) => (if x5.length + [x13].length ≤ 1000000000 then some (.inl (x5 ++ [x13], IntKind.wrap .i64 (x6 + 1))) else none))) else some (.inr (x6, decide (x6 < (x4.length : Int)), x5)))

noncomputable def spec_StripChecks (a0_0 : Int) (a0_1 : Int) (a0_2 : Bool) (a0_3 : List (Option Nat)) (a0_4 : List (Option Nat)) (a1_0 : List (Option Nat)) (a1_1 : List (Option Nat)) (a1_2 : List (Option Nat)) (a2 : Int) : Option ((List (Int)) × Bool) :=
 ((((spec_l03Both a0_0 a0_1 a0_2 a0_3 a0_4 a1_0 a1_1 a1_2).bind fun (x2 : Bool) => (if (!x2) = true then some true else ((spec_l00In a2 1 8).bind fun (x3 : Bool) => some (!x3)))) : Option Bool).bind fun (x1 : Bool) => (if x1 = true then some (([] : List (Int)), false) else ((spec_l07Strips a0_1 a2).bind fun (x4 : List ((Int × Int))) => ((loopF (fun (s : ((List (Int)) × Int)) => spec_StripChecks.s0 a0_0 a1_0 x4 s.1 s.2) (([] : List (Int)), 0)).bind fun (⟨x7, x8, x9⟩ : (Int × Bool × (List (Int)))) => some (x9, true)))))

noncomputable def impl_CheckOf.s0 (a1 : ByteArray) (x2 : Int) (x3 : Int) : Option ((Int × Int) ⊕ (Int × Int × Bool)) :=
 (if (decide (x3 < (a1.size : Int))) = true then ((sidx a1 x3).bind fun (x7 : Int) => some (.inl (Int.tmod (IntKind.wrap .i64 ((IntKind.wrap .i64 ((IntKind.wrap .i64 (677 * x2)) + (IntKind.wrap .i64 x7))) + 31)) 65003, IntKind.wrap .i64 (x3 + 1)))) else some (.inr (x2, x3, decide (x3 < (a1.size : Int)))))

noncomputable def impl_CheckOf (a0 : Int) (a1 : ByteArray) : Option (Int × Bool) :=
 ((impl_within a0 0 65002).bind fun (x1 : Bool) => (if (!x1) = true then some (0, false) else ((loopF (fun (s : (Int × Int)) => impl_CheckOf.s0 a1 s.1 s.2) (a0, 0)).bind fun (⟨x4, x5, x6⟩ : (Int × Int × Bool)) => some (x4, true))))

noncomputable def impl_stripsOf.s0 (a0_1 : Int) (a1 : Int) (x1 : List ((Int × Int))) (x2 : Int) (x3 : Int) : Option (((List ((Int × Int))) × Int × Int) ⊕ (Int × Int × Bool × (List ((Int × Int))))) :=
 (if (decide (x3 < a1)) = true then (if a1 = 0 then none else (if a1 = 0 then none else (((if (decide (x3 < (Int.tmod a0_1 a1))) = true then some (IntKind.wrap .i64 ((IntKind.wrap .i64 (Int.tdiv a0_1 a1)) + 1)) else some (IntKind.wrap .i64 (Int.tdiv a0_1 a1))) : Option Int).bind fun (x8 : Int) => (((if (decide (x8 > 0)) = true then (if x1.length + [(x2, x8)].length ≤ 1000000000 then some (x1 ++ [(x2, x8)]) else none) else some x1) : Option (List ((Int × Int)))).bind fun (x9 : List ((Int × Int))) => some (.inl (x9, IntKind.wrap .i64 (x2 + x8), IntKind.wrap .i64 (x3 + 1))))))) else some (.inr (x2, x3, decide (x3 < a1), x1)))

noncomputable def impl_stripsOf (a0_0 : Int) (a0_1 : Int) (a0_2 : Bool) (a0_3 : List (Option Nat)) (a0_4 : List (Option Nat)) (a1 : Int) : Option (List ((Int × Int))) :=
 ((loopF (fun (s : ((List ((Int × Int))) × Int × Int)) => impl_stripsOf.s0 a0_1 a1 s.1 s.2.1 s.2.2) (([] : List ((Int × Int))), 0, 0)).bind fun (⟨x4, x5, x6, x7⟩ : (Int × Int × Bool × (List ((Int × Int))))) => some x7)

noncomputable def impl_areWorkers (a0 : Int) : Option Bool :=
 ((impl_within a0 1 8).bind fun (x1 : Bool) => some x1)

noncomputable def impl_BitsOf (a0 : Option Nat) : Option Int :=
 (if (fcmp .neq .f32 a0 a0) = true then some 2143289344 else ((fbits a0).bind fun (x1 : Int) => some (IntKind.wrap .i64 x1)))

set_option maxRecDepth 20000 in
theorem spec_l07Strips_ok (h0 : Heap) (a0 : Int) (a1 : Int) (r : List ((Int × Int))) (hp : spec_l07Strips a0 a1 = some r) : CallsH Tryd.prog 20 ([(.int .i64 a0), (.int .i64 a1)].toArray ++ [].toArray) h0 (fun v h' => Mod [] h0 h' ∧ Sep [] h0.size h' [ownO (kII .i64) 51 v r]) := by
 unfold spec_l07Strips at hp
 refine callsH_of_W (l := [(.int .i64 a0), (.int .i64 a1)]) (cap := []) 37 Tryd.func20 rfl rfl rfl ?_
 refine W.seq ?_
 refine W.region ?_
 refine RL.opD (by decide) (opv_assign rfl rfl) ?_
 have S_1 : Sep [] h0.size h0 [ownO (kII .i64) 51 (.slice none 0 0) ([] : List ((Int × Int)))] := Sep.addNil (Sep.nil [] h0.size h0)
 refine RL.nil ?_
 refine thnN ?_
 refine W.seq ?_
 refine W.region ?_
 refine RL.op _ (by decide) (opS_lit0 (K := (kII .i64)) rfl Tryd.underlying48 Tryd.isinfo51) ?_
 rintro v1 hp1 ⟨MT_1, T_1⟩
 obtain ⟨X_1, S_2⟩ := Sep.turn0 (Mod.refl [] h0) S_1 MT_1 T_1
 refine RL.opD (by decide) (opv_assign rfl rfl) ?_
 refine RL.nil ?_
 refine thnN ?_
 refine W.seq ?_
 refine W.region ?_
 refine RL.opD (by decide) (opv_assign rfl rfl) ?_
 refine RL.nil ?_
 refine thnN ?_
 refine W.seq ?_
 refine W.seq ?_
 refine W.region ?_
 refine RL.opD (by decide) (opv_assign rfl rfl) ?_
 refine RL.nil ?_
 refine thnN ?_
 obtain ⟨y1, hy1, hp⟩ := Option.bind_eq_some_iff.1 hp
 refine W.cut (fun φ' h' => ∃ x4, ∃ x5, ∃ x6, ∃ x7, ∃ v3, y1 = (x4, x5, x6, x7) ∧ Fr.sub [(0, (.int .i64 a0)), (1, (.int .i64 a1)), (4, (.slice none 0 0)), (6, (.int .i64 x4)), (7, (.int .i64 x5)), (12, (.bool x6)), (5, v3)] φ' ∧ Mod [] h0 h' ∧ Sep [] h0.size h' [ownO (kII .i64) 51 (.slice none 0 0) ([] : List ((Int × Int))), ownO (kII .i64) 51 v3 x7]) ?_ ?_
 ·refine W.block ?_
  refine W.loopS (fun (s : ((List ((Int × Int))) × Int × Int)) φ' h' => ∃ v2, Fr.sub [(0, (.int .i64 a0)), (1, (.int .i64 a1)), (4, (.slice none 0 0)), (5, v2), (6, (.int .i64 s.2.1)), (7, (.int .i64 s.2.2))] φ' ∧ Mod [] h0 h' ∧ Sep [] h0.size h' [ownO (kII .i64) 51 v2 s.1, ownO (kII .i64) 51 (.slice none 0 0) ([] : List ((Int × Int)))]) hy1 ⟨v1, ⟨rfl, rfl, rfl, rfl, rfl, rfl, trivial⟩, X_1, (Sep.sel S_2 [0, 1] (by decide))⟩ ?_
  rintro ⟨x1, x2, x3⟩ φ' hp2 o1 ⟨v2, hs1, X_2, S_3⟩ ho1 hy1
  have hs1 : Fr.sub [(0, (.int .i64 a0)), (1, (.int .i64 a1)), (4, (.slice none 0 0)), (5, v2), (6, (.int .i64 x2)), (7, (.int .i64 x3))] φ' := hs1
  have S_3 : Sep [] h0.size hp2 [ownO (kII .i64) 51 v2 x1, ownO (kII .i64) 51 (.slice none 0 0) ([] : List ((Int × Int)))] := S_3
  have ho1 : spec_l07Strips.s0 a0 a1 x1 x2 x3 = some o1 := ho1
  unfold spec_l07Strips.s0 at ho1
  refine W.sub hs1 ?_
  refine W.seq ?_
  refine W.seq ?_
  refine W.region ?_
  refine RL.opD (by decide) (opv_move rfl rfl) ?_
  refine RL.opD (by decide) (opv_move rfl rfl) ?_
  refine RL.opD (by decide) (opv_icmp rfl rfl rfl rfl) ?_
  refine RL.nil ?_
  refine thnN ?_
  by_cases c1 : (decide (x3 < a1)) = true
  ·rw [if_pos c1] at ho1
   refine W.condT rfl c1 ?_
   refine W.skip ?_
   refine thnN ?_
   refine W.seq ?_
   refine W.block ?_
   refine W.seq ?_
   refine W.region ?_
   refine RL.opD (by decide) (opv_move rfl rfl) ?_
   refine RL.opD (by decide) (opv_move rfl rfl) ?_
   by_cases nc2 : a1 = 0
   ·rw [if_pos nc2] at ho1; cases ho1
   rw [if_neg nc2] at ho1
   have c2 : a1 ≠ 0 := nc2
   refine RL.opD (by decide) (opv_quo rfl c2 rfl rfl) ?_
   refine RL.opD (by decide) (opv_assign rfl rfl) ?_
   refine RL.nil ?_
   refine thnN ?_
   refine W.seq ?_
   refine W.seq ?_
   refine W.region ?_
   refine RL.opD (by decide) (opv_move rfl rfl) ?_
   refine RL.opD (by decide) (opv_move rfl rfl) ?_
   refine RL.opD (by decide) (opv_move rfl rfl) ?_
   by_cases nc3 : a1 = 0
   ·rw [if_pos nc3] at ho1; cases ho1
   rw [if_neg nc3] at ho1
   have c3 : a1 ≠ 0 := nc3
   refine RL.opD (by decide) (opv_rem rfl c3 rfl rfl) ?_
   refine RL.opD (by decide) (opv_icmp rfl rfl rfl rfl) ?_
   refine RL.nil ?_
   refine thnN ?_
   obtain ⟨x8, hy2, ho1⟩ := Option.bind_eq_some_iff.1 ho1
   refine W.cut (fun φ' h' => Fr.sub [(0, (.int .i64 a0)), (1, (.int .i64 a1)), (4, (.slice none 0 0)), (5, v2), (6, (.int .i64 x2)), (7, (.int .i64 x3)), (12, (.bool (decide (x3 < a1)))), (22, (.bool (decide (x3 < (Int.tmod a0 a1))))), (8, (.int .i64 x8))] φ' ∧ hp2 = h') ?_ ?_
   ·by_cases c4 : (decide (x3 < (Int.tmod a0 a1))) = true
    ·rw [if_pos c4] at hy2
     refine W.condT rfl c4 ?_
     refine W.region ?_
     refine RL.opD (by decide) (opv_move rfl rfl) ?_
     refine RL.opD (by decide) (opv_add rfl rfl rfl) ?_
     refine RL.opD (by decide) (opv_assign rfl rfl) ?_
     refine RL.nil ?_
     have ey2 := Option.some.inj hy2
     subst ey2
     refine onlyN ?_
     exact ⟨⟨rfl, rfl, rfl, rfl, rfl, rfl, rfl, rfl, rfl, trivial⟩, rfl⟩
    ·rw [if_neg c4] at hy2
     have c4 := eq_false_of_ne_true c4
     refine W.condF rfl c4 ?_
     refine W.skip ?_
     have ey2 := Option.some.inj hy2
     subst ey2
     refine onlyN ?_
     exact ⟨⟨rfl, rfl, rfl, rfl, rfl, rfl, rfl, rfl, rfl, trivial⟩, rfl⟩
   rintro φ' _ ⟨hs3, rfl⟩
   refine thnN ?_
   refine W.sub hs3 ?_
   refine W.seq ?_
   refine W.seq ?_
   refine W.region ?_
   refine RL.opD (by decide) (opv_move rfl rfl) ?_
   refine RL.opD (by decide) (opv_icmp rfl rfl rfl rfl) ?_
   refine RL.nil ?_
   refine thnN ?_
   obtain ⟨x9, hy3, ho1⟩ := Option.bind_eq_some_iff.1 ho1
   refine W.cut (fun φ' h' => ∃ v4, Fr.sub [(0, (.int .i64 a0)), (1, (.int .i64 a1)), (4, (.slice none 0 0)), (6, (.int .i64 x2)), (7, (.int .i64 x3)), (12, (.bool (decide (x3 < a1)))), (22, (.bool (decide (x3 < (Int.tmod a0 a1))))), (8, (.int .i64 x8)), (26, (.bool (decide (x8 > 0)))), (5, v4)] φ' ∧ Mod [] h0 h' ∧ Sep [] h0.size h' [ownO (kII .i64) 51 (.slice none 0 0) ([] : List ((Int × Int))), ownO (kII .i64) 51 v4 x9]) ?_ ?_
   ·by_cases c5 : (decide (x8 > 0)) = true
    ·rw [if_pos c5] at hy3
     refine W.condT rfl c5 ?_
     refine W.region ?_
     refine RL.opD (by decide) (opv_move rfl rfl) ?_
     refine RL.opD (by decide) (opv_move rfl rfl) ?_
     refine RL.opD (by decide) (opv_move rfl rfl) ?_
     refine RL.opD (by decide) (opv_build (cs := [(.int .i64 x2), (.int .i64 x8)]) [(0, [(.int .i64 x2)]), (1, [(.int .i64 x8)])] [(0, (.int .i64 x2)), (1, (.int .i64 x8))] rfl Tryd.bd51 ⟨⟨rfl, rfl, rfl, cells1 rfl⟩, ⟨rfl, rfl, rfl, cells1 rfl⟩, trivial⟩ rfl) ?_
     refine RL.op _ (by decide) (opS_litW (K := (kII .i64)) (us := [(.int .i64 x2), (.int .i64 x8)]) (z := (x2, x8)) rfl Tryd.underlying48 Tryd.einfo51 rfl rfl rfl rfl rfl rfl) ?_
     rintro v5 hp3 ⟨MT_2, T_2⟩
     obtain ⟨X_3, S_4⟩ := Sep.turn0 X_2 S_3 MT_2 T_2
     obtain ⟨c6, hy3⟩ := of_ite hy3
     refine RL.op _ (by decide) (opS_append (K := (kII .i64)) rfl Tryd.underlying48 Tryd.einfo51 rfl rfl rfl rfl (Sep.at (o := ownO (kII .i64) 51 v2 x1) S_4 1 rfl) (ownO.read (Sep.at (o := ownO (kII .i64) 51 v5 [(x2, x8)]) S_4 0 rfl)) (by decide) (by decide) c6) ?_
     rintro v6 hp4 ⟨MT_3, T_3⟩
     have S_5 : Sep [] h0.size hp3 ([ownO (kII .i64) 51 v2 x1] ++ [ownO (kII .i64) 51 v5 [(x2, x8)], ownO (kII .i64) 51 (.slice none 0 0) ([] : List ((Int × Int)))]) := Sep.sel S_4 [1, 0, 2] (by decide)
     obtain ⟨X_4, S_6⟩ := Sep.turn X_3 S_5 MT_3 T_3
     refine RL.opD (by decide) (opv_assign rfl rfl) ?_
     refine RL.nil ?_
     have ey3 := Option.some.inj hy3
     subst ey3
     refine onlyN ?_
     exact ⟨v6, ⟨rfl, rfl, rfl, rfl, rfl, rfl, rfl, rfl, rfl, rfl, trivial⟩, X_4, (Sep.sel S_6 [2, 0] (by decide))⟩
    ·rw [if_neg c5] at hy3
     have c5 := eq_false_of_ne_true c5
     refine W.condF rfl c5 ?_
     refine W.skip ?_
     have ey3 := Option.some.inj hy3
     subst ey3
     refine onlyN ?_
     exact ⟨v2, ⟨rfl, rfl, rfl, rfl, rfl, rfl, rfl, rfl, rfl, rfl, trivial⟩, X_2, (Sep.sel S_3 [1, 0] (by decide))⟩
   rintro φ' hp5 ⟨v4, hs4, X_5, S_7⟩
   refine thnN ?_
   refine W.sub hs4 ?_
   refine W.region ?_
   refine RL.opD (by decide) (opv_move rfl rfl) ?_
   refine RL.opD (by decide) (opv_move rfl rfl) ?_
   refine RL.opD (by decide) (opv_add rfl rfl rfl) ?_
   refine RL.opD (by decide) (opv_assign rfl rfl) ?_
   refine RL.nil ?_
   refine blkN ?_
   refine thnN ?_
   refine W.region ?_
   refine RL.opD (by decide) (opv_move rfl rfl) ?_
   refine RL.opD (by decide) (opv_add rfl rfl rfl) ?_
   refine RL.opD (by decide) (opv_assign rfl rfl) ?_
   refine RL.nil ?_
   have eo1 := Option.some.inj ho1
   subst eo1
   refine rndN (s' := (x9, IntKind.wrap .i64 (x2 + x8), IntKind.wrap .i64 (x3 + 1))) rfl ?_
   exact ⟨v4, ⟨rfl, rfl, rfl, rfl, rfl, rfl, trivial⟩, X_5, (Sep.sel S_7 [1, 0] (by decide))⟩
  ·rw [if_neg c1] at ho1
   have c1 := eq_false_of_ne_true c1
   refine W.condF rfl c1 ?_
   refine W.exit ?_
   refine thnX ?_
   refine rndX ?_
   refine blkI ?_
   have eo1 := Option.some.inj ho1
   subst eo1
   have ey1 := hy1 _ rfl
   subst ey1
   refine onlyN ?_
   exact ⟨x2, x3, decide (x3 < a1), x1, v2, rfl, ⟨rfl, rfl, rfl, rfl, rfl, rfl, rfl, trivial⟩, X_2, (Sep.sel S_3 [1, 0] (by decide))⟩
 rintro φ' hp6 ⟨x4, x5, x6, x7, v3, rfl, hs2, X_6, S_8⟩
 try dsimp only at hp
 refine thnN ?_
 refine W.sub hs2 ?_
 refine W.seq ?_
 refine W.region ?_
 refine RL.opD (by decide) (opv_move rfl rfl) ?_
 refine RL.opD (by decide) (opv_assign rfl rfl) ?_
 refine RL.nil ?_
 refine thnN ?_
 refine W.ret ?_
 have er := Option.some.inj hp
 subst er
 exact Rt.one rfl rfl ⟨X_6, (Sep.sel S_8 [1] (by decide))⟩

set_option maxRecDepth 20000 in
theorem spec_l01Check_ok (h0 : Heap) (a0 : Int) (a1 : ByteArray) (r : Int) (hp : spec_l01Check a0 a1 = some r) : CallsH Tryd.prog 21 ([(.int .i64 a0), (.string a1)].toArray ++ [].toArray) h0 (fun v h' => v = (.int .i64 r) ∧ h0 = h') := by
 unfold spec_l01Check at hp
 refine callsH_of_W (l := [(.int .i64 a0), (.string a1)]) (cap := []) 22 Tryd.func21 rfl rfl rfl ?_
 refine W.seq ?_
 refine W.region ?_
 refine RL.opD (by decide) (opv_assign rfl rfl) ?_
 refine RL.nil ?_
 refine thnN ?_
 refine W.seq ?_
 refine W.seq ?_
 refine W.region ?_
 refine RL.opD (by decide) (opv_assign rfl rfl) ?_
 refine RL.nil ?_
 refine thnN ?_
 obtain ⟨y1, hy1, hp⟩ := Option.bind_eq_some_iff.1 hp
 refine W.cut (fun φ' h' => ∃ x3, ∃ x4, ∃ x5, y1 = (x3, x4, x5) ∧ Fr.sub [(1, (.string a1)), (4, (.int .i64 0)), (0, (.int .i64 x3)), (5, (.int .i64 x4)), (9, (.bool x5))] φ' ∧ h0 = h') ?_ ?_
 ·refine W.block ?_
  refine W.loopS (fun (s : (Int × Int)) φ' h' => Fr.sub [(1, (.string a1)), (4, (.int .i64 0)), (0, (.int .i64 s.1)), (5, (.int .i64 s.2))] φ' ∧ h0 = h') hy1 ⟨⟨rfl, rfl, rfl, rfl, trivial⟩, rfl⟩ ?_
  rintro ⟨x1, x2⟩ φ' _ o1 ⟨hs1, rfl⟩ ho1 hy1
  have hs1 : Fr.sub [(1, (.string a1)), (4, (.int .i64 0)), (0, (.int .i64 x1)), (5, (.int .i64 x2))] φ' := hs1
  have ho1 : spec_l01Check.s0 a1 x1 x2 = some o1 := ho1
  unfold spec_l01Check.s0 at ho1
  refine W.sub hs1 ?_
  refine W.seq ?_
  refine W.seq ?_
  refine W.region ?_
  refine RL.opD (by decide) (opv_move rfl rfl) ?_
  refine RL.opD (by decide) (opv_move rfl rfl) ?_
  refine RL.opD (by decide) (opv_lenS rfl Tryd.underlying9 rfl) ?_
  refine RL.opD (by decide) (opv_icmp rfl rfl rfl rfl) ?_
  refine RL.nil ?_
  refine thnN ?_
  by_cases c1 : (decide (x2 < (a1.size : Int))) = true
  ·rw [if_pos c1] at ho1
   refine W.condT rfl c1 ?_
   refine W.skip ?_
   refine thnN ?_
   refine W.seq ?_
   refine W.block ?_
   refine W.region ?_
   refine RL.opD (by decide) (opv_move rfl rfl) ?_
   refine RL.opD (by decide) (opv_mul rfl rfl rfl) ?_
   refine RL.opD (by decide) (opv_move rfl rfl) ?_
   refine RL.opD (by decide) (opv_move rfl rfl) ?_
   obtain ⟨x6, hx6, ho1⟩ := Option.bind_eq_some_iff.1 ho1
   refine RL.opD (by decide) (opv_indexS rfl Tryd.underlying9 rfl rfl hx6) ?_
   refine RL.opD (by decide) (opv_i2i rfl (by rw [Tryd.underlying5]; rfl) Tryd.underlying2 rfl) ?_
   refine RL.opD (by decide) (opv_add rfl rfl rfl) ?_
   refine RL.opD (by decide) (opv_add rfl rfl rfl) ?_
   refine RL.opD (by decide) (opv_rem rfl (by decide) rfl rfl) ?_
   refine RL.opD (by decide) (opv_assign rfl rfl) ?_
   refine RL.nil ?_
   refine blkN ?_
   refine thnN ?_
   refine W.region ?_
   refine RL.opD (by decide) (opv_move rfl rfl) ?_
   refine RL.opD (by decide) (opv_add rfl rfl rfl) ?_
   refine RL.opD (by decide) (opv_assign rfl rfl) ?_
   refine RL.nil ?_
   have eo1 := Option.some.inj ho1
   subst eo1
   refine rndN (s' := (Int.tmod (IntKind.wrap .i64 ((IntKind.wrap .i64 ((IntKind.wrap .i64 (677 * x1)) + (IntKind.wrap .i64 x6))) + 31)) 65003, IntKind.wrap .i64 (x2 + 1))) rfl ?_
   exact ⟨⟨rfl, rfl, rfl, rfl, trivial⟩, rfl⟩
  ·rw [if_neg c1] at ho1
   have c1 := eq_false_of_ne_true c1
   refine W.condF rfl c1 ?_
   refine W.exit ?_
   refine thnX ?_
   refine rndX ?_
   refine blkI ?_
   have eo1 := Option.some.inj ho1
   subst eo1
   have ey1 := hy1 _ rfl
   subst ey1
   refine onlyN ?_
   exact ⟨x1, x2, decide (x2 < (a1.size : Int)), rfl, ⟨rfl, rfl, rfl, rfl, rfl, trivial⟩, rfl⟩
 rintro φ' _ ⟨x3, x4, x5, rfl, hs2, rfl⟩
 try dsimp only at hp
 refine thnN ?_
 refine W.sub hs2 ?_
 refine W.seq ?_
 refine W.region ?_
 refine RL.opD (by decide) (opv_move rfl rfl) ?_
 refine RL.opD (by decide) (opv_assign rfl rfl) ?_
 refine RL.nil ?_
 refine thnN ?_
 refine W.ret ?_
 have er := Option.some.inj hp
 subst er
 exact Rt.one rfl rfl ⟨rfl, rfl⟩

set_option maxRecDepth 20000 in
theorem spec_l01Bits_ok (h0 : Heap) (u0 : Value) (a0 : Option Nat) (g0 : IsF .f32 u0 a0) (r : Int) (hp : spec_l01Bits a0 = some r) : CallsH Tryd.prog 42 ([u0].toArray ++ [].toArray) h0 (fun v h' => v = (.int .i64 r) ∧ h0 = h') := by
 unfold spec_l01Bits at hp
 refine callsH_of_W (l := [u0]) (cap := []) 9 Tryd.func42 rfl rfl rfl ?_
 refine W.seq ?_
 refine W.region ?_
 refine RL.opD (by decide) (opv_assign rfl rfl) ?_
 refine RL.nil ?_
 refine thnN ?_
 refine W.seq ?_
 refine W.seq ?_
 refine W.region ?_
 refine RL.opD (by decide) (opv_move rfl rfl) ?_
 refine RL.opD (by decide) (opv_move rfl rfl) ?_
 refine RL.opD (by decide) (opv_fcmp rfl rfl rfl rfl g0 g0) ?_
 refine RL.nil ?_
 refine thnN ?_
 by_cases c1 : (fcmp .neq .f32 a0 a0) = true
 ·rw [if_pos c1] at hp
  refine W.condT rfl c1 ?_
  refine W.seq ?_
  refine W.region ?_
  refine RL.opD (by decide) (opv_assign rfl rfl) ?_
  refine RL.nil ?_
  refine thnN ?_
  refine W.ret ?_
  refine thnR ?_
  have er := Option.some.inj hp
  subst er
  exact Rt.one rfl rfl ⟨rfl, rfl⟩
 ·rw [if_neg c1] at hp
  have c1 := eq_false_of_ne_true c1
  refine W.condF rfl c1 ?_
  refine W.skip ?_
  refine thnN ?_
  refine W.seq ?_
  refine W.region ?_
  refine RL.opD (by decide) (opv_move rfl rfl) ?_
  obtain ⟨x1, hx1, hp⟩ := Option.bind_eq_some_iff.1 hp
  refine RL.opD (by decide) (opv_ext (vs := [u0]) rfl rfl ⟨rfl, trivial⟩ Tryd.func48 rfl rfl rfl rfl (fun w => bits32_run g0 hx1 w)) ?_
  refine RL.opD (by decide) (opv_i2i rfl (by rw [Tryd.underlying80]; rfl) Tryd.underlying2 rfl) ?_
  refine RL.opD (by decide) (opv_assign rfl rfl) ?_
  refine RL.nil ?_
  refine thnN ?_
  refine W.ret ?_
  have er := Option.some.inj hp
  subst er
  exact Rt.one rfl rfl ⟨rfl, rfl⟩

set_option maxRecDepth 20000 in
theorem spec_l01Hex_ok (h0 : Heap) (u0 : Value) (a0 : Option Nat) (g0 : IsF .f32 u0 a0) (r : ByteArray) (hp : spec_l01Hex a0 = some r) : CallsH Tryd.prog 33 ([u0].toArray ++ [].toArray) h0 (fun v h' => v = (.string r) ∧ Mod [] h0 h' ∧ Sep [] h0.size h' []) := by
 unfold spec_l01Hex at hp
 refine callsH_of_W (l := [u0]) (cap := []) 24 Tryd.func33 rfl rfl rfl ?_
 refine W.seq ?_
 refine W.region ?_
 refine RL.opD (by decide) (opv_assign rfl rfl) ?_
 refine RL.nil ?_
 refine thnN ?_
 refine W.seq ?_
 refine W.region ?_
 refine RL.opD (by decide) (opv_move rfl rfl) ?_
 obtain ⟨x1, hx1, hp⟩ := Option.bind_eq_some_iff.1 hp
 refine RL.op _ (by decide) (opv_call (cap := []) (spec_l01Bits_ok _ _ _ g0 _ hx1) rfl rfl ⟨rfl, trivial⟩ Tryd.func42 rfl rfl) ?_
 rintro _ _ ⟨rfl, rfl⟩
 refine RL.opD (by decide) (opv_assign rfl rfl) ?_
 refine RL.nil ?_
 refine thnN ?_
 refine W.seq ?_
 refine W.region ?_
 refine RL.op _ (by decide) (opS_lit0 (K := (kI .u8)) rfl Tryd.underlying74 Tryd.isinfo5) ?_
 rintro v1 hp1 ⟨MT_1, T_1⟩
 obtain ⟨X_1, S_1⟩ := Sep.turn0 (Mod.refl [] h0) (Sep.nil [] h0.size h0) MT_1 T_1
 refine RL.opD (by decide) (opv_assign rfl rfl) ?_
 refine RL.nil ?_
 refine thnN ?_
 refine W.seq ?_
 refine W.seq ?_
 refine W.region ?_
 refine RL.opD (by decide) (opv_assign rfl rfl) ?_
 refine RL.nil ?_
 refine thnN ?_
 obtain ⟨y1, hy1, hp⟩ := Option.bind_eq_some_iff.1 hp
 refine W.cut (fun φ' h' => ∃ x4, ∃ x5, ∃ x6, ∃ v3, y1 = (x4, x5, x6) ∧ Fr.sub [(0, u0), (2, (.string (⟨#[]⟩ : ByteArray))), (3, (.int .i64 x1)), (5, (.int .i64 x4)), (10, (.bool x5)), (4, v3)] φ' ∧ Mod [] h0 h' ∧ Sep [] h0.size h' [ownO (kI .u8) 5 v3 x6]) ?_ ?_
 ·refine W.block ?_
  refine W.loopS (fun (s : ((List (Int)) × Int)) φ' h' => ∃ v2, Fr.sub [(0, u0), (2, (.string (⟨#[]⟩ : ByteArray))), (3, (.int .i64 x1)), (4, v2), (5, (.int .i64 s.2))] φ' ∧ Mod [] h0 h' ∧ Sep [] h0.size h' [ownO (kI .u8) 5 v2 s.1]) hy1 ⟨v1, ⟨rfl, rfl, rfl, rfl, rfl, trivial⟩, X_1, (Sep.sel S_1 [0] (by decide))⟩ ?_
  rintro ⟨x2, x3⟩ φ' hp2 o1 ⟨v2, hs1, X_2, S_2⟩ ho1 hy1
  have hs1 : Fr.sub [(0, u0), (2, (.string (⟨#[]⟩ : ByteArray))), (3, (.int .i64 x1)), (4, v2), (5, (.int .i64 x3))] φ' := hs1
  have S_2 : Sep [] h0.size hp2 [ownO (kI .u8) 5 v2 x2] := S_2
  have ho1 : spec_l01Hex.s0 x1 x2 x3 = some o1 := ho1
  unfold spec_l01Hex.s0 at ho1
  refine W.sub hs1 ?_
  refine W.seq ?_
  refine W.seq ?_
  refine W.region ?_
  refine RL.opD (by decide) (opv_move rfl rfl) ?_
  refine RL.opD (by decide) (opv_icmp rfl rfl rfl rfl) ?_
  refine RL.nil ?_
  refine thnN ?_
  by_cases c1 : (decide (x3 ≥ 0)) = true
  ·rw [if_pos c1] at ho1
   refine W.condT rfl c1 ?_
   refine W.skip ?_
   refine thnN ?_
   refine W.seq ?_
   refine W.block ?_
   refine W.region ?_
   refine RL.opD (by decide) (opv_move rfl rfl) ?_
   refine RL.opD (by decide) (opv_move rfl rfl) ?_
   refine RL.opD (by decide) (opv_move rfl rfl) ?_
   refine RL.opD (by decide) (opv_i2i rfl (by rw [Tryd.underlying3]; rfl) Tryd.underlying75 rfl) ?_
   obtain ⟨c2, ho1⟩ := of_ite ho1
   refine RL.opD (by decide) (opv_shift rfl rfl c2 rfl rfl) ?_
   refine RL.opD (by decide) (opv_bits rfl rfl rfl rfl) ?_
   obtain ⟨x7, hx7, ho1⟩ := Option.bind_eq_some_iff.1 ho1
   refine RL.opD (by decide) (opv_indexS rfl Tryd.underlying9 rfl rfl hx7) ?_
   refine RL.op _ (by decide) (opS_lit1 (K := (kI .u8)) (z := x7) rfl Tryd.underlying74 Tryd.einfo5 rfl rfl rfl rfl rfl) ?_
   rintro v4 hp3 ⟨MT_2, T_2⟩
   obtain ⟨X_3, S_3⟩ := Sep.turn0 X_2 S_2 MT_2 T_2
   obtain ⟨c3, ho1⟩ := of_ite ho1
   refine RL.op _ (by decide) (opS_append (K := (kI .u8)) rfl Tryd.underlying74 Tryd.einfo5 rfl rfl rfl rfl (Sep.at (o := ownO (kI .u8) 5 v2 x2) S_3 1 rfl) (ownO.read (Sep.at (o := ownO (kI .u8) 5 v4 [x7]) S_3 0 rfl)) (by decide) (by decide) c3) ?_
   rintro v5 hp4 ⟨MT_3, T_3⟩
   have S_4 : Sep [] h0.size hp3 ([ownO (kI .u8) 5 v2 x2] ++ [ownO (kI .u8) 5 v4 [x7]]) := Sep.sel S_3 [1, 0] (by decide)
   obtain ⟨X_4, S_5⟩ := Sep.turn X_3 S_4 MT_3 T_3
   refine RL.opD (by decide) (opv_assign rfl rfl) ?_
   refine RL.nil ?_
   refine blkN ?_
   refine thnN ?_
   refine W.region ?_
   refine RL.opD (by decide) (opv_move rfl rfl) ?_
   refine RL.opD (by decide) (opv_sub rfl rfl rfl) ?_
   refine RL.opD (by decide) (opv_assign rfl rfl) ?_
   refine RL.nil ?_
   have eo1 := Option.some.inj ho1
   subst eo1
   refine rndN (s' := (x2 ++ [x7], IntKind.wrap .i64 (x3 - 4))) rfl ?_
   exact ⟨v5, ⟨rfl, rfl, rfl, rfl, rfl, trivial⟩, X_4, (Sep.sel S_5 [0] (by decide))⟩
  ·rw [if_neg c1] at ho1
   have c1 := eq_false_of_ne_true c1
   refine W.condF rfl c1 ?_
   refine W.exit ?_
   refine thnX ?_
   refine rndX ?_
   refine blkI ?_
   have eo1 := Option.some.inj ho1
   subst eo1
   have ey1 := hy1 _ rfl
   subst ey1
   refine onlyN ?_
   exact ⟨x3, decide (x3 ≥ 0), x2, v2, rfl, ⟨rfl, rfl, rfl, rfl, rfl, rfl, trivial⟩, X_2, (Sep.sel S_2 [0] (by decide))⟩
 rintro φ' hp5 ⟨x4, x5, x6, v3, rfl, hs2, X_5, S_6⟩
 try dsimp only at hp
 refine thnN ?_
 refine W.sub hs2 ?_
 refine W.seq ?_
 refine W.region ?_
 refine RL.opD (by decide) (opv_move rfl rfl) ?_
 refine RL.opD (by decide) (opv_b2s rfl Tryd.underlying74 Tryd.underlying5 Tryd.underlying9 rfl (ownO.read (Sep.at (o := ownO (kI .u8) 5 v3 x6) S_6 0 rfl))) ?_
 refine RL.opD (by decide) (opv_assign rfl rfl) ?_
 refine RL.nil ?_
 refine thnN ?_
 refine W.ret ?_
 have er := Option.some.inj hp
 subst er
 exact Rt.one rfl rfl ⟨rfl, X_5, (Sep.nil _ _ _)⟩

set_option maxRecDepth 20000 in
theorem spec_l01NText_ok (h0 : Heap) (u0 : Value) (a0 : List (Option Nat)) (g0 : SL (kF .f32) h0.size h0 u0 a0) (r : ByteArray) (hp : spec_l01NText a0 = some r) : CallsH Tryd.prog 22 ([u0].toArray ++ [].toArray) h0 (fun v h' => v = (.string r) ∧ Mod [] h0 h' ∧ Sep [] h0.size h' []) := by
 unfold spec_l01NText at hp
 refine callsH_of_W (l := [u0]) (cap := []) 27 Tryd.func22 rfl rfl rfl ?_
 refine W.seq ?_
 refine W.region ?_
 refine RL.opD (by decide) (opv_assign rfl rfl) ?_
 refine RL.nil ?_
 refine thnN ?_
 refine W.seq ?_
 refine W.seq ?_
 refine W.region ?_
 refine RL.opD (by decide) (opv_move rfl rfl) ?_
 refine RL.opD (by decide) (opv_len rfl Tryd.underlying22 rfl g0) ?_
 refine RL.opD (by decide) (opv_icmp rfl rfl rfl rfl) ?_
 refine RL.nil ?_
 refine thnN ?_
 by_cases c1 : ((a0.length : Int) == 0) = true
 ·rw [if_pos c1] at hp
  refine W.condT rfl c1 ?_
  refine W.seq ?_
  refine W.region ?_
  refine RL.opD (by decide) (opv_assign rfl rfl) ?_
  refine RL.nil ?_
  refine thnN ?_
  refine W.ret ?_
  refine thnR ?_
  have er := Option.some.inj hp
  subst er
  exact Rt.one rfl rfl ⟨rfl, (Mod.refl [] h0), (Sep.nil _ _ _)⟩
 ·rw [if_neg c1] at hp
  have c1 := eq_false_of_ne_true c1
  refine W.condF rfl c1 ?_
  refine W.skip ?_
  refine thnN ?_
  refine W.seq ?_
  refine W.region ?_
  refine RL.opD (by decide) (opv_move rfl rfl) ?_
  obtain ⟨x1, hx1, hp⟩ := Option.bind_eq_some_iff.1 hp
  refine RL.op _ (by decide) (opv_index rfl Tryd.underlying22 (by rw [Tryd.size65]; rfl) rfl rfl g0 hx1) ?_
  rintro v1 _ ⟨fv1, rfl⟩
  refine RL.opF (by decide) (opv_loadF rfl Tryd.one65 rfl fv1 g0 hx1) ?_
  intro v2 fv2
  obtain ⟨x2, hx2, hp⟩ := Option.bind_eq_some_iff.1 hp
  refine RL.op _ (by decide) (opv_call (cap := []) (spec_l01Hex_ok _ _ _ fv2 _ hx2) rfl rfl ⟨rfl, trivial⟩ Tryd.func33 rfl rfl) ?_
  rintro _ hp1 ⟨rfl, MT_1, T_1⟩
  obtain ⟨X_1, S_1⟩ := Sep.turn0 (Mod.refl [] h0) (Sep.nil [] h0.size h0) MT_1 T_1
  refine RL.opD (by decide) (opv_assign rfl rfl) ?_
  refine RL.nil ?_
  refine thnN ?_
  refine W.seq ?_
  refine W.seq ?_
  refine W.region ?_
  refine RL.opD (by decide) (opv_assign rfl rfl) ?_
  refine RL.nil ?_
  refine thnN ?_
  obtain ⟨y1, hy1, hp⟩ := Option.bind_eq_some_iff.1 hp
  refine W.cut (fun φ' h' => ∃ x5, ∃ x6, ∃ x7, y1 = (x5, x6, x7) ∧ Fr.sub [(0, u0), (2, (.string (⟨#[]⟩ : ByteArray))), (7, (.bool ((a0.length : Int) == 0))), (3, (.string x5)), (4, (.int .i64 x6)), (15, (.bool x7))] φ' ∧ Mod [] h0 h' ∧ Sep [] h0.size h' []) ?_ ?_
  ·refine W.block ?_
   refine W.loopS (fun (s : (ByteArray × Int)) φ' h' => Fr.sub [(0, u0), (2, (.string (⟨#[]⟩ : ByteArray))), (7, (.bool ((a0.length : Int) == 0))), (3, (.string s.1)), (4, (.int .i64 s.2))] φ' ∧ Mod [] h0 h' ∧ Sep [] h0.size h' []) hy1 ⟨⟨rfl, rfl, rfl, rfl, rfl, trivial⟩, X_1, (Sep.nil _ _ _)⟩ ?_
   rintro ⟨x3, x4⟩ φ' hp2 o1 ⟨hs1, X_2, S_2⟩ ho1 hy1
   have hs1 : Fr.sub [(0, u0), (2, (.string (⟨#[]⟩ : ByteArray))), (7, (.bool ((a0.length : Int) == 0))), (3, (.string x3)), (4, (.int .i64 x4))] φ' := hs1
   have S_2 : Sep [] h0.size hp2 [] := S_2
   have ho1 : spec_l01NText.s0 a0 x3 x4 = some o1 := ho1
   unfold spec_l01NText.s0 at ho1
   refine W.sub hs1 ?_
   refine W.seq ?_
   refine W.seq ?_
   refine W.region ?_
   refine RL.opD (by decide) (opv_move rfl rfl) ?_
   refine RL.opD (by decide) (opv_move rfl rfl) ?_
   refine RL.opD (by decide) (opv_len rfl Tryd.underlying22 rfl (SL.mod g0 X_2 (Nat.le_refl _) nob)) ?_
   refine RL.opD (by decide) (opv_icmp rfl rfl rfl rfl) ?_
   refine RL.nil ?_
   refine thnN ?_
   by_cases c2 : (decide (x4 < (a0.length : Int))) = true
   ·rw [if_pos c2] at ho1
    refine W.condT rfl c2 ?_
    refine W.skip ?_
    refine thnN ?_
    refine W.seq ?_
    refine W.block ?_
    refine W.region ?_
    refine RL.opD (by decide) (opv_move rfl rfl) ?_
    refine RL.opD (by decide) (opv_move rfl rfl) ?_
    refine RL.opD (by decide) (opv_move rfl rfl) ?_
    obtain ⟨x8, hx8, ho1⟩ := Option.bind_eq_some_iff.1 ho1
    refine RL.op _ (by decide) (opv_index rfl Tryd.underlying22 (by rw [Tryd.size65]; rfl) rfl rfl (SL.mod g0 X_2 (Nat.le_refl _) nob) hx8) ?_
    rintro v3 _ ⟨fv3, rfl⟩
    refine RL.opF (by decide) (opv_loadF rfl Tryd.one65 rfl fv3 (SL.mod g0 X_2 (Nat.le_refl _) nob) hx8) ?_
    intro v4 fv4
    obtain ⟨x9, hx9, ho1⟩ := Option.bind_eq_some_iff.1 ho1
    refine RL.op _ (by decide) (opv_call (cap := []) (spec_l01Hex_ok _ _ _ fv4 _ hx9) rfl rfl ⟨rfl, trivial⟩ Tryd.func33 rfl rfl) ?_
    rintro _ hp3 ⟨rfl, MT_2, T_2⟩
    obtain ⟨X_3, S_3⟩ := Sep.turn0 X_2 S_2 MT_2 T_2
    obtain ⟨c3, ho1⟩ := of_ite ho1
    refine RL.opD (by decide) (opv_strAdd rfl rfl rfl c3) ?_
    obtain ⟨c4, ho1⟩ := of_ite ho1
    refine RL.opD (by decide) (opv_strAdd rfl rfl rfl c4) ?_
    refine RL.opD (by decide) (opv_assign rfl rfl) ?_
    refine RL.nil ?_
    refine blkN ?_
    refine thnN ?_
    refine W.region ?_
    refine RL.opD (by decide) (opv_move rfl rfl) ?_
    refine RL.opD (by decide) (opv_add rfl rfl rfl) ?_
    refine RL.opD (by decide) (opv_assign rfl rfl) ?_
    refine RL.nil ?_
    have eo1 := Option.some.inj ho1
    subst eo1
    refine rndN (s' := (x3 ++ ((⟨#[44]⟩ : ByteArray) ++ x9), IntKind.wrap .i64 (x4 + 1))) rfl ?_
    exact ⟨⟨rfl, rfl, rfl, rfl, rfl, trivial⟩, X_3, (Sep.nil _ _ _)⟩
   ·rw [if_neg c2] at ho1
    have c2 := eq_false_of_ne_true c2
    refine W.condF rfl c2 ?_
    refine W.exit ?_
    refine thnX ?_
    refine rndX ?_
    refine blkI ?_
    have eo1 := Option.some.inj ho1
    subst eo1
    have ey1 := hy1 _ rfl
    subst ey1
    refine onlyN ?_
    exact ⟨x3, x4, decide (x4 < (a0.length : Int)), rfl, ⟨rfl, rfl, rfl, rfl, rfl, rfl, trivial⟩, X_2, (Sep.nil _ _ _)⟩
  rintro φ' hp4 ⟨x5, x6, x7, rfl, hs2, X_4, S_4⟩
  try dsimp only at hp
  refine thnN ?_
  refine W.sub hs2 ?_
  refine W.seq ?_
  refine W.region ?_
  refine RL.opD (by decide) (opv_move rfl rfl) ?_
  refine RL.opD (by decide) (opv_assign rfl rfl) ?_
  refine RL.nil ?_
  refine thnN ?_
  refine W.ret ?_
  have er := Option.some.inj hp
  subst er
  exact Rt.one rfl rfl ⟨rfl, X_4, (Sep.nil _ _ _)⟩

set_option maxHeartbeats 4000000 in
set_option maxRecDepth 20000 in
theorem spec_StripChecks_ok (h0 : Heap) (a0_0 : Int) (a0_1 : Int) (a0_2 : Bool) (u0_3 : Value) (a0_3 : List (Option Nat)) (g0_3 : SL (kF .f32) h0.size h0 u0_3 a0_3) (u0_4 : Value) (a0_4 : List (Option Nat)) (g0_4 : SL (kF .f32) h0.size h0 u0_4 a0_4) (u1_0 : Value) (a1_0 : List (Option Nat)) (g1_0 : SL (kF .f32) h0.size h0 u1_0 a1_0) (u1_1 : Value) (a1_1 : List (Option Nat)) (g1_1 : SL (kF .f32) h0.size h0 u1_1 a1_1) (u1_2 : Value) (a1_2 : List (Option Nat)) (g1_2 : SL (kF .f32) h0.size h0 u1_2 a1_2) (a2 : Int) (r : ((List (Int)) × Bool)) (hp : spec_StripChecks a0_0 a0_1 a0_2 a0_3 a0_4 a1_0 a1_1 a1_2 a2 = some r) : CallsH Tryd.prog 6 ([(.agg (List.toArray (α := Value) [(.int .i64 a0_0), (.int .i64 a0_1), (.bool a0_2), u0_3, u0_4])), (.agg (List.toArray (α := Value) [u1_0, u1_1, u1_2])), (.int .i64 a2)].toArray ++ [].toArray) h0 (fun v h' => ∃ w0, v = (.tuple (List.toArray (α := Value) [w0, (.bool r.2)])) ∧ Mod [] h0 h' ∧ Sep [] h0.size h' [ownO (kI .i64) 2 w0 r.1]) := by
 unfold spec_StripChecks at hp
 refine callsH_of_W (l := [(.agg (List.toArray (α := Value) [(.int .i64 a0_0), (.int .i64 a0_1), (.bool a0_2), u0_3, u0_4])), (.agg (List.toArray (α := Value) [u1_0, u1_1, u1_2])), (.int .i64 a2)]) (cap := []) 71 Tryd.func6 rfl rfl rfl ?_
 refine W.seq ?_
 refine W.region ?_
 refine RL.op _ (by decide) (opS_boxed (opv_boxA (cs := [(.int .i64 a0_0), (.int .i64 a0_1), (.bool a0_2), u0_3, u0_4]) rfl rfl)) ?_
 rintro _ hp1 ⟨bb1, rfl, MT_1, T_1⟩
 obtain ⟨X_1, S_1⟩ := Sep.turn0 (Mod.refl [] h0) (Sep.nil [] h0.size h0) MT_1 T_1
 refine RL.op _ (by decide) (opS_boxed (opv_boxA (cs := [u1_0, u1_1, u1_2]) rfl rfl)) ?_
 rintro _ hp2 ⟨bb2, rfl, MT_2, T_2⟩
 obtain ⟨X_2, S_2⟩ := Sep.turn0 X_1 S_1 MT_2 T_2
 refine RL.opD (by decide) (opv_assign rfl rfl) ?_
 have S_3 : Sep [] h0.size hp2 [ownO (kI .i64) 2 (.slice none 0 0) ([] : List (Int)), boxO bb2 [u1_0, u1_1, u1_2], boxO bb1 [(.int .i64 a0_0), (.int .i64 a0_1), (.bool a0_2), u0_3, u0_4]] := Sep.addNil S_2
 refine RL.opD (by decide) (opv_assign rfl rfl) ?_
 refine RL.nil ?_
 refine thnN ?_
 refine W.seq ?_
 refine W.seq ?_
 obtain ⟨x1, hy1, hp⟩ := Option.bind_eq_some_iff.1 hp
 refine W.cut (fun φ' h' => Fr.sub [(0, (.agg (List.toArray (α := Value) [(.int .i64 a0_0), (.int .i64 a0_1), (.bool a0_2), u0_3, u0_4]))), (1, (.agg (List.toArray (α := Value) [u1_0, u1_1, u1_2]))), (2, (.int .i64 a2)), (3, (.pointer (some ⟨bb1, 0, none⟩))), (4, (.pointer (some ⟨bb2, 0, none⟩))), (6, (.slice none 0 0)), (7, (.bool false)), (19, (.bool x1))] φ' ∧ hp2 = h') ?_ ?_
 ·refine W.region ?_
  obtain ⟨x2, hx2, hy1⟩ := Option.bind_eq_some_iff.1 hy1
  refine RL.op _ (by decide) (opv_call (cap := []) (spec_l03Both_ok _ _ _ _ _ _ _ (SL.up (SL.mod g0_3 X_2 (Nat.le_refl _) nob) (Nat.le_trans (Nat.le_refl _) (Mod.size X_2))) _ _ (SL.up (SL.mod g0_4 X_2 (Nat.le_refl _) nob) (Nat.le_trans (Nat.le_refl _) (Mod.size X_2))) (Sep.at (o := boxO bb1 [(.int .i64 a0_0), (.int .i64 a0_1), (.bool a0_2), u0_3, u0_4]) S_3 2 rfl) _ _ _ (SL.up (SL.mod g1_0 X_2 (Nat.le_refl _) nob) (Nat.le_trans (Nat.le_refl _) (Mod.size X_2))) _ _ (SL.up (SL.mod g1_1 X_2 (Nat.le_refl _) nob) (Nat.le_trans (Nat.le_refl _) (Mod.size X_2))) _ _ (SL.up (SL.mod g1_2 X_2 (Nat.le_refl _) nob) (Nat.le_trans (Nat.le_refl _) (Mod.size X_2))) (Sep.at (o := boxO bb2 [u1_0, u1_1, u1_2]) S_3 1 rfl) _ hx2) rfl rfl ⟨rfl, rfl, trivial⟩ Tryd.func18 rfl rfl) ?_
  rintro _ _ ⟨rfl, rfl⟩
  refine RL.opD (by decide) (opv_not rfl rfl) ?_
  refine RL.opD (by decide) (opv_move rfl rfl) ?_
  by_cases c1 : (!x2) = true
  ·rw [if_pos c1] at hy1
   refine RL.noT rfl rfl c1 (by decide) ?_
   refine RL.noT rfl rfl c1 (by decide) ?_
   refine RL.noT rfl rfl c1 (by decide) ?_
   refine RL.opD (by decide) (opv_pick rfl rfl (fun _ => rfl) (fun e => absurd (Eq.trans (Eq.symm e) c1) (by decide)) rfl) ?_
   refine RL.nil ?_
   have ey1 := Option.some.inj hy1
   subst ey1
   refine onlyN ?_
   exact ⟨⟨rfl, rfl, rfl, rfl, rfl, rfl, rfl, rfl, trivial⟩, rfl⟩
  ·rw [if_neg c1] at hy1
   have c1 := eq_false_of_ne_true c1
   refine RL.yesD rfl rfl c1 (by decide) (opv_move rfl rfl) ?_
   obtain ⟨x3, hx3, hy1⟩ := Option.bind_eq_some_iff.1 hy1
   refine RL.yes _ rfl rfl c1 (by decide) (opv_call (cap := []) (spec_l00In_ok _ _ _ _ _ hx3) rfl rfl ⟨rfl, rfl, rfl, trivial⟩ Tryd.func19 rfl rfl) ?_
   rintro _ _ ⟨rfl, rfl⟩
   refine RL.yesD rfl rfl c1 (by decide) (opv_not rfl rfl) ?_
   refine RL.opD (by decide) (opv_pick rfl rfl (fun e => absurd (Eq.trans (Eq.symm e) c1) (by decide)) (fun _ => rfl) rfl) ?_
   refine RL.nil ?_
   have ey1 := Option.some.inj hy1
   subst ey1
   refine onlyN ?_
   exact ⟨⟨rfl, rfl, rfl, rfl, rfl, rfl, rfl, rfl, trivial⟩, rfl⟩
 rintro φ' _ ⟨hs1, rfl⟩
 refine thnN ?_
 refine W.sub hs1 ?_
 by_cases c2 : x1 = true
 ·rw [if_pos c2] at hp
  refine W.condT rfl c2 ?_
  refine W.seq ?_
  refine W.region ?_
  refine RL.opD (by decide) (opv_assign rfl rfl) ?_
  have S_4 : Sep [] h0.size hp2 [ownO (kI .i64) 2 (.slice none 0 0) ([] : List (Int)), ownO (kI .i64) 2 (.slice none 0 0) ([] : List (Int)), boxO bb2 [u1_0, u1_1, u1_2], boxO bb1 [(.int .i64 a0_0), (.int .i64 a0_1), (.bool a0_2), u0_3, u0_4]] := Sep.addNil S_3
  refine RL.opD (by decide) (opv_assign rfl rfl) ?_
  refine RL.nil ?_
  refine thnN ?_
  refine W.ret ?_
  refine thnR ?_
  have er := Option.some.inj hp
  subst er
  exact Rt.two rfl rfl rfl ⟨(.slice none 0 0), rfl, X_2, (Sep.sel S_4 [0] (by decide))⟩
 ·rw [if_neg c2] at hp
  have c2 := eq_false_of_ne_true c2
  refine W.condF rfl c2 ?_
  refine W.skip ?_
  refine thnN ?_
  refine W.seq ?_
  refine W.region ?_
  refine RL.opD (by decide) (opv_fieldAddr rfl Tryd.fo32_1 rfl) ?_
  refine RL.opD (by decide) (opv_loadB rfl Tryd.one2 rfl (Sep.at (o := boxO bb1 [(.int .i64 a0_0), (.int .i64 a0_1), (.bool a0_2), u0_3, u0_4]) S_3 2 rfl) rfl) ?_
  refine RL.opD (by decide) (opv_move rfl rfl) ?_
  obtain ⟨x4, hx4, hp⟩ := Option.bind_eq_some_iff.1 hp
  refine RL.op _ (by decide) (opv_call (cap := []) (spec_l07Strips_ok _ _ _ _ hx4) rfl rfl ⟨rfl, rfl, trivial⟩ Tryd.func20 rfl rfl) ?_
  rintro v1 hp3 ⟨MT_3, T_3⟩
  obtain ⟨X_3, S_5⟩ := Sep.turn0 X_2 S_3 MT_3 T_3
  refine RL.opD (by decide) (opv_assign rfl rfl) ?_
  refine RL.nil ?_
  refine thnN ?_
  refine W.seq ?_
  refine W.region ?_
  refine RL.op _ (by decide) (opS_lit0 (K := (kI .i64)) rfl Tryd.underlying29 Tryd.isinfo2) ?_
  rintro v2 hp4 ⟨MT_4, T_4⟩
  obtain ⟨X_4, S_6⟩ := Sep.turn0 X_3 S_5 MT_4 T_4
  refine RL.opD (by decide) (opv_assign rfl rfl) ?_
  refine RL.nil ?_
  refine thnN ?_
  refine W.seq ?_
  refine W.seq ?_
  refine W.region ?_
  refine RL.opD (by decide) (opv_move rfl rfl) ?_
  refine RL.opD (by decide) (opv_len rfl Tryd.underlying48 rfl (ownO.read (Sep.at (o := ownO (kII .i64) 51 v1 x4) S_6 1 rfl))) ?_
  refine RL.opD (by decide) (opv_move rfl rfl) ?_
  refine RL.nil ?_
  refine thnN ?_
  obtain ⟨y2, hy2, hp⟩ := Option.bind_eq_some_iff.1 hp
  refine W.cut (fun φ' h' => ∃ x7, ∃ x8, ∃ x9, ∃ v4, y2 = (x7, x8, x9) ∧ Fr.sub [(0, (.agg (List.toArray (α := Value) [(.int .i64 a0_0), (.int .i64 a0_1), (.bool a0_2), u0_3, u0_4]))), (1, (.agg (List.toArray (α := Value) [u1_0, u1_1, u1_2]))), (2, (.int .i64 a2)), (3, (.pointer (some ⟨bb1, 0, none⟩))), (4, (.pointer (some ⟨bb2, 0, none⟩))), (6, (.slice none 0 0)), (7, (.bool false)), (19, (.bool x1)), (8, v1), (26, (.int .i64 (x4.length : Int))), (27, (.int .i64 x7)), (28, (.bool x8)), (9, v4)] φ' ∧ Mod [] h0 h' ∧ Sep [] h0.size h' [ownO (kII .i64) 51 v1 x4, ownO (kI .i64) 2 (.slice none 0 0) ([] : List (Int)), boxO bb2 [u1_0, u1_1, u1_2], boxO bb1 [(.int .i64 a0_0), (.int .i64 a0_1), (.bool a0_2), u0_3, u0_4], ownO (kI .i64) 2 v4 x9]) ?_ ?_
  ·refine W.block ?_
   refine W.loopS (fun (s : ((List (Int)) × Int)) φ' h' => ∃ v3, Fr.sub [(0, (.agg (List.toArray (α := Value) [(.int .i64 a0_0), (.int .i64 a0_1), (.bool a0_2), u0_3, u0_4]))), (1, (.agg (List.toArray (α := Value) [u1_0, u1_1, u1_2]))), (2, (.int .i64 a2)), (3, (.pointer (some ⟨bb1, 0, none⟩))), (4, (.pointer (some ⟨bb2, 0, none⟩))), (6, (.slice none 0 0)), (7, (.bool false)), (19, (.bool x1)), (8, v1), (26, (.int .i64 (x4.length : Int))), (9, v3), (27, (.int .i64 s.2))] φ' ∧ Mod [] h0 h' ∧ Sep [] h0.size h' [ownO (kI .i64) 2 v3 s.1, ownO (kII .i64) 51 v1 x4, ownO (kI .i64) 2 (.slice none 0 0) ([] : List (Int)), boxO bb2 [u1_0, u1_1, u1_2], boxO bb1 [(.int .i64 a0_0), (.int .i64 a0_1), (.bool a0_2), u0_3, u0_4]]) hy2 ⟨v2, ⟨rfl, rfl, rfl, rfl, rfl, rfl, rfl, rfl, rfl, rfl, rfl, rfl, trivial⟩, X_4, (Sep.sel S_6 [0, 1, 2, 3, 4] (by decide))⟩ ?_
   rintro ⟨x5, x6⟩ φ' hp5 o1 ⟨v3, hs2, X_5, S_7⟩ ho1 hy1
   have hs2 : Fr.sub [(0, (.agg (List.toArray (α := Value) [(.int .i64 a0_0), (.int .i64 a0_1), (.bool a0_2), u0_3, u0_4]))), (1, (.agg (List.toArray (α := Value) [u1_0, u1_1, u1_2]))), (2, (.int .i64 a2)), (3, (.pointer (some ⟨bb1, 0, none⟩))), (4, (.pointer (some ⟨bb2, 0, none⟩))), (6, (.slice none 0 0)), (7, (.bool false)), (19, (.bool x1)), (8, v1), (26, (.int .i64 (x4.length : Int))), (9, v3), (27, (.int .i64 x6))] φ' := hs2
   have S_7 : Sep [] h0.size hp5 [ownO (kI .i64) 2 v3 x5, ownO (kII .i64) 51 v1 x4, ownO (kI .i64) 2 (.slice none 0 0) ([] : List (Int)), boxO bb2 [u1_0, u1_1, u1_2], boxO bb1 [(.int .i64 a0_0), (.int .i64 a0_1), (.bool a0_2), u0_3, u0_4]] := S_7
   have ho1 : spec_StripChecks.s0 a0_0 a1_0 x4 x5 x6 = some o1 := ho1
   unfold spec_StripChecks.s0 at ho1
   refine W.sub hs2 ?_
   refine W.seq ?_
   refine W.region ?_
   refine RL.opD (by decide) (opv_icmp rfl rfl rfl rfl) ?_
   refine RL.nil ?_
   refine thnN ?_
   refine W.seq ?_
   by_cases c3 : (decide (x6 < (x4.length : Int))) = true
   ·rw [if_pos c3] at ho1
    refine W.condT rfl c3 ?_
    refine W.skip ?_
    refine thnN ?_
    refine W.seq ?_
    refine W.block ?_
    refine W.seq ?_
    refine W.region ?_
    refine RL.opD (by decide) (opv_move rfl rfl) ?_
    refine RL.opD (by decide) (opv_assign rfl rfl) ?_
    refine RL.nil ?_
    refine thnN ?_
    refine W.seq ?_
    refine W.region ?_
    refine RL.opD (by decide) (opv_assign rfl rfl) ?_
    refine RL.nil ?_
    refine thnN ?_
    refine W.seq ?_
    refine W.seq ?_
    refine W.region ?_
    refine RL.opD (by decide) (opv_move rfl rfl) ?_
    refine RL.opD (by decide) (opv_move rfl rfl) ?_
    obtain ⟨x10, hx10, ho1⟩ := Option.bind_eq_some_iff.1 ho1
    refine RL.op _ (by decide) (opv_index rfl Tryd.underlying48 (by rw [Tryd.size51]; rfl) rfl rfl (ownO.read (Sep.at (o := ownO (kII .i64) 51 v1 x4) S_7 1 rfl)) hx10) ?_
    rintro v5 _ ⟨fv5, rfl⟩
    refine RL.op _ (by decide) (opv_fieldE (K := (kII .i64)) rfl Tryd.fo51_0 rfl fv5 (ownO.read (Sep.at (o := ownO (kII .i64) 51 v1 x4) S_7 1 rfl)) (idx_some hx10).2.1) ?_
    rintro v6 _ ⟨fv6, rfl⟩
    refine RL.opD (by decide) (opv_loadPart (K := (kII .i64)) (off := 0) rfl Tryd.one2 rfl fv6 (ownO.read (Sep.at (o := ownO (kII .i64) 51 v1 x4) S_7 1 rfl)) (idx_some hx10).2.2 kII_get0) ?_
    refine RL.opD (by decide) (opv_assign rfl rfl) ?_
    refine RL.nil ?_
    refine thnN ?_
    obtain ⟨y3, hy3, ho1⟩ := Option.bind_eq_some_iff.1 ho1
    refine W.cut (fun φ' h' => ∃ x13, ∃ x14, ∃ x15, y3 = (x13, x14, x15) ∧ Fr.sub [(0, (.agg (List.toArray (α := Value) [(.int .i64 a0_0), (.int .i64 a0_1), (.bool a0_2), u0_3, u0_4]))), (1, (.agg (List.toArray (α := Value) [u1_0, u1_1, u1_2]))), (2, (.int .i64 a2)), (3, (.pointer (some ⟨bb1, 0, none⟩))), (4, (.pointer (some ⟨bb2, 0, none⟩))), (6, (.slice none 0 0)), (7, (.bool false)), (19, (.bool x1)), (8, v1), (26, (.int .i64 (x4.length : Int))), (9, v3), (27, (.int .i64 x6)), (28, (.bool (decide (x6 < (x4.length : Int))))), (10, (.int .i64 x6)), (11, (.int .i64 x13)), (12, (.int .i64 x14)), (47, (.bool x15))] φ' ∧ Mod [] h0 h' ∧ Sep [] h0.size h' [ownO (kI .i64) 2 v3 x5, ownO (kII .i64) 51 v1 x4, ownO (kI .i64) 2 (.slice none 0 0) ([] : List (Int)), boxO bb2 [u1_0, u1_1, u1_2], boxO bb1 [(.int .i64 a0_0), (.int .i64 a0_1), (.bool a0_2), u0_3, u0_4]]) ?_ ?_
    ·refine W.block ?_
     refine W.loopS (fun (s : (Int × Int)) φ' h' => Fr.sub [(0, (.agg (List.toArray (α := Value) [(.int .i64 a0_0), (.int .i64 a0_1), (.bool a0_2), u0_3, u0_4]))), (1, (.agg (List.toArray (α := Value) [u1_0, u1_1, u1_2]))), (2, (.int .i64 a2)), (3, (.pointer (some ⟨bb1, 0, none⟩))), (4, (.pointer (some ⟨bb2, 0, none⟩))), (6, (.slice none 0 0)), (7, (.bool false)), (19, (.bool x1)), (8, v1), (26, (.int .i64 (x4.length : Int))), (9, v3), (27, (.int .i64 x6)), (28, (.bool (decide (x6 < (x4.length : Int))))), (10, (.int .i64 x6)), (11, (.int .i64 s.1)), (12, (.int .i64 s.2))] φ' ∧ Mod [] h0 h' ∧ Sep [] h0.size h' [ownO (kI .i64) 2 v3 x5, ownO (kII .i64) 51 v1 x4, ownO (kI .i64) 2 (.slice none 0 0) ([] : List (Int)), boxO bb2 [u1_0, u1_1, u1_2], boxO bb1 [(.int .i64 a0_0), (.int .i64 a0_1), (.bool a0_2), u0_3, u0_4]]) hy3 ⟨⟨rfl, rfl, rfl, rfl, rfl, rfl, rfl, rfl, rfl, rfl, rfl, rfl, rfl, rfl, rfl, rfl, trivial⟩, X_5, (Sep.sel S_7 [0, 1, 2, 3, 4] (by decide))⟩ ?_
     rintro ⟨x11, x12⟩ φ' hp6 o2 ⟨hs4, X_6, S_8⟩ ho2 hy2
     have hs4 : Fr.sub [(0, (.agg (List.toArray (α := Value) [(.int .i64 a0_0), (.int .i64 a0_1), (.bool a0_2), u0_3, u0_4]))), (1, (.agg (List.toArray (α := Value) [u1_0, u1_1, u1_2]))), (2, (.int .i64 a2)), (3, (.pointer (some ⟨bb1, 0, none⟩))), (4, (.pointer (some ⟨bb2, 0, none⟩))), (6, (.slice none 0 0)), (7, (.bool false)), (19, (.bool x1)), (8, v1), (26, (.int .i64 (x4.length : Int))), (9, v3), (27, (.int .i64 x6)), (28, (.bool (decide (x6 < (x4.length : Int))))), (10, (.int .i64 x6)), (11, (.int .i64 x11)), (12, (.int .i64 x12))] φ' := hs4
     have S_8 : Sep [] h0.size hp6 [ownO (kI .i64) 2 v3 x5, ownO (kII .i64) 51 v1 x4, ownO (kI .i64) 2 (.slice none 0 0) ([] : List (Int)), boxO bb2 [u1_0, u1_1, u1_2], boxO bb1 [(.int .i64 a0_0), (.int .i64 a0_1), (.bool a0_2), u0_3, u0_4]] := S_8
     have ho2 : spec_StripChecks.s1 a0_0 a1_0 x4 x6 x11 x12 = some o2 := ho2
     unfold spec_StripChecks.s1 at ho2
     refine W.sub hs4 ?_
     refine W.seq ?_
     refine W.seq ?_
     refine W.regionH 13 rfl Tryd.mixed ?_
     refine HK.d 0 rfl rfl rfl (by decide) (by decide +kernel) (fun _ _ _ h => h) (opx_move rfl rfl) ?_
     refine HK.d 1 rfl rfl rfl (by decide) (by decide +kernel) (fun _ _ _ h => h) (opx_move rfl rfl) ?_
     refine HK.d 2 rfl rfl rfl (by decide) (by decide +kernel) (fun _ _ _ h => h) (opx_move rfl rfl) ?_
     obtain ⟨x16, hx16, ho2⟩ := Option.bind_eq_some_iff.1 ho2
     refine HK.f 3 rfl rfl rfl (by decide) (by decide +kernel) (fun _ _ _ h => h) (opx_indexP rfl Tryd.underlying48 (by rw [Tryd.size51]; rfl) rfl rfl (ownO.read (Sep.at (o := ownO (kII .i64) 51 v1 x4) S_8 1 rfl)) hx16) ?_
     intro v7 fv7
     refine HK.f 4 rfl rfl rfl (by decide) (by decide +kernel) (fun _ _ _ h => h) (opx_fieldE (K := (kII .i64)) rfl Tryd.fo51_0 rfl fv7 (ownO.read (Sep.at (o := ownO (kII .i64) 51 v1 x4) S_8 1 rfl)) (idx_some hx16).2.1) ?_
     intro v8 fv8
     refine HK.d 5 rfl rfl rfl (by decide) (by decide +kernel) (fun _ _ _ h => h) (opx_loadPart (K := (kII .i64)) (off := 0) rfl Tryd.one2 rfl fv8 (ownO.read (Sep.at (o := ownO (kII .i64) 51 v1 x4) S_8 1 rfl)) (idx_some hx16).2.2 kII_get0) ?_
     refine HK.d 6 rfl rfl rfl (by decide) (by decide +kernel) (fun _ _ _ h => h) (opx_move rfl rfl) ?_
     refine HK.d 7 rfl rfl rfl (by decide) (by decide +kernel) (fun _ _ _ h => h) (opx_move rfl rfl) ?_
     obtain ⟨x17, hx17, ho2⟩ := Option.bind_eq_some_iff.1 ho2
     refine HK.f 8 rfl rfl rfl (by decide) (by decide +kernel) (fun _ _ _ h => h) (opx_indexP rfl Tryd.underlying48 (by rw [Tryd.size51]; rfl) rfl rfl (ownO.read (Sep.at (o := ownO (kII .i64) 51 v1 x4) S_8 1 rfl)) hx17) ?_
     intro v9 fv9
     refine HK.f 9 rfl rfl rfl (by decide) (by decide +kernel) (fun _ _ _ h => h) (opx_fieldE (K := (kII .i64)) rfl Tryd.fo51_1 rfl fv9 (ownO.read (Sep.at (o := ownO (kII .i64) 51 v1 x4) S_8 1 rfl)) (idx_some hx17).2.1) ?_
     intro v10 fv10
     refine HK.d 10 rfl rfl rfl (by decide) (by decide +kernel) (fun _ _ _ h => h) (opx_loadPart (K := (kII .i64)) (off := 1) rfl Tryd.one2 rfl fv10 (ownO.read (Sep.at (o := ownO (kII .i64) 51 v1 x4) S_8 1 rfl)) (idx_some hx17).2.2 kII_get1) ?_
     refine HK.d 11 rfl rfl rfl (by decide) (by decide +kernel) (fun _ _ _ h => h) (opx_add rfl rfl rfl) ?_
     refine HK.d 12 rfl rfl rfl (by decide) (by decide +kernel) (fun _ _ _ h => h) (opx_icmp rfl rfl rfl rfl) ?_
     refine HK.done (by decide +kernel) ?_
     refine thnN ?_
     by_cases c4 : (decide (x12 < (IntKind.wrap .i64 (x16.1 + x17.2)))) = true
     ·rw [if_pos c4] at ho2
      refine W.condT rfl c4 ?_
      refine W.skip ?_
      refine thnN ?_
      refine W.seq ?_
      refine W.block ?_
      refine W.region ?_
      refine RL.opD (by decide) (opv_move rfl rfl) ?_
      refine RL.opD (by decide) (opv_fieldAddr rfl Tryd.fo34_0 rfl) ?_
      refine RL.opD (by decide) (opv_loadB rfl Tryd.one22 rfl (Sep.at (o := boxO bb2 [u1_0, u1_1, u1_2]) S_8 3 rfl) rfl) ?_
      refine RL.opD (by decide) (opv_fieldAddr rfl Tryd.fo32_0 rfl) ?_
      refine RL.opD (by decide) (opv_loadB rfl Tryd.one2 rfl (Sep.at (o := boxO bb1 [(.int .i64 a0_0), (.int .i64 a0_1), (.bool a0_2), u0_3, u0_4]) S_8 4 rfl) rfl) ?_
      refine RL.opD (by decide) (opv_move rfl rfl) ?_
      refine RL.opD (by decide) (opv_mul rfl rfl rfl) ?_
      refine RL.opD (by decide) (opv_fieldAddr rfl Tryd.fo32_0 rfl) ?_
      refine RL.opD (by decide) (opv_loadB rfl Tryd.one2 rfl (Sep.at (o := boxO bb1 [(.int .i64 a0_0), (.int .i64 a0_1), (.bool a0_2), u0_3, u0_4]) S_8 4 rfl) rfl) ?_
      refine RL.opD (by decide) (opv_move rfl rfl) ?_
      refine RL.opD (by decide) (opv_add rfl rfl rfl) ?_
      refine RL.opD (by decide) (opv_mul rfl rfl rfl) ?_
      obtain ⟨x18, hx18, ho2⟩ := Option.bind_eq_some_iff.1 ho2
      refine RL.op _ (by decide) (opv_cut (K := (kF .f32)) rfl Tryd.underlying22 (by rw [Tryd.size65]; rfl) rfl (.inr ⟨_, _, rfl, rfl⟩) (.inr ⟨_, _, rfl, rfl⟩) (SL.mod g1_0 X_6 (Nat.le_refl _) nob) hx18) ?_
      rintro v11 _ ⟨fv11, rfl⟩
      have fv11 := SL.back fv11 X_6 (Nat.le_refl _) nob
      obtain ⟨x19, hx19, ho2⟩ := Option.bind_eq_some_iff.1 ho2
      refine RL.op _ (by decide) (opv_call (cap := []) (spec_l01NText_ok _ _ _ (SL.up (SL.mod fv11 X_6 (Nat.le_refl _) nob) (Nat.le_trans (Nat.le_refl _) (Mod.size X_6))) _ hx19) rfl rfl ⟨rfl, trivial⟩ Tryd.func22 rfl rfl) ?_
      rintro _ hp7 ⟨rfl, MT_5, T_5⟩
      obtain ⟨X_7, S_9⟩ := Sep.turn0 X_6 S_8 MT_5 T_5
      obtain ⟨x20, hx20, ho2⟩ := Option.bind_eq_some_iff.1 ho2
      refine RL.op _ (by decide) (opv_call (cap := []) (spec_l01Check_ok _ _ _ _ hx20) rfl rfl ⟨rfl, rfl, trivial⟩ Tryd.func21 rfl rfl) ?_
      rintro _ _ ⟨rfl, rfl⟩
      refine RL.opD (by decide) (opv_assign rfl rfl) ?_
      refine RL.nil ?_
      refine blkN ?_
      refine thnN ?_
      refine W.region ?_
      refine RL.opD (by decide) (opv_move rfl rfl) ?_
      refine RL.opD (by decide) (opv_add rfl rfl rfl) ?_
      refine RL.opD (by decide) (opv_assign rfl rfl) ?_
      refine RL.nil ?_
      have eo2 := Option.some.inj ho2
      subst eo2
      refine rndN (s' := (x20, IntKind.wrap .i64 (x12 + 1))) rfl ?_
      exact ⟨⟨rfl, rfl, rfl, rfl, rfl, rfl, rfl, rfl, rfl, rfl, rfl, rfl, rfl, rfl, rfl, rfl, trivial⟩, X_7, (Sep.sel S_9 [0, 1, 2, 3, 4] (by decide))⟩
     ·rw [if_neg c4] at ho2
      have c4 := eq_false_of_ne_true c4
      refine W.condF rfl c4 ?_
      refine W.exit ?_
      refine thnX ?_
      refine rndX ?_
      refine blkI ?_
      have eo2 := Option.some.inj ho2
      subst eo2
      have ey3 := hy2 _ rfl
      subst ey3
      refine onlyN ?_
      exact ⟨x11, x12, decide (x12 < (IntKind.wrap .i64 (x16.1 + x17.2))), rfl, ⟨rfl, rfl, rfl, rfl, rfl, rfl, rfl, rfl, rfl, rfl, rfl, rfl, rfl, rfl, rfl, rfl, rfl, trivial⟩, X_6, (Sep.sel S_8 [0, 1, 2, 3, 4] (by decide))⟩
    rintro φ' hp8 ⟨x13, x14, x15, rfl, hs5, X_8, S_10⟩
    try dsimp only at ho1
    refine thnN ?_
    refine W.sub hs5 ?_
    refine W.region ?_
    refine RL.opD (by decide) (opv_move rfl rfl) ?_
    refine RL.opD (by decide) (opv_move rfl rfl) ?_
    refine RL.op _ (by decide) (opS_lit1 (K := (kI .i64)) (z := x13) rfl Tryd.underlying29 Tryd.einfo2 rfl rfl rfl rfl rfl) ?_
    rintro v12 hp9 ⟨MT_6, T_6⟩
    obtain ⟨X_9, S_11⟩ := Sep.turn0 X_8 S_10 MT_6 T_6
    obtain ⟨c5, ho1⟩ := of_ite ho1
    refine RL.op _ (by decide) (opS_append (K := (kI .i64)) rfl Tryd.underlying29 Tryd.einfo2 rfl rfl rfl rfl (Sep.at (o := ownO (kI .i64) 2 v3 x5) S_11 1 rfl) (ownO.read (Sep.at (o := ownO (kI .i64) 2 v12 [x13]) S_11 0 rfl)) (by decide) (by decide) c5) ?_
    rintro v13 hp10 ⟨MT_7, T_7⟩
    have S_12 : Sep [] h0.size hp9 ([ownO (kI .i64) 2 v3 x5] ++ [ownO (kI .i64) 2 v12 [x13], ownO (kII .i64) 51 v1 x4, ownO (kI .i64) 2 (.slice none 0 0) ([] : List (Int)), boxO bb2 [u1_0, u1_1, u1_2], boxO bb1 [(.int .i64 a0_0), (.int .i64 a0_1), (.bool a0_2), u0_3, u0_4]]) := Sep.sel S_11 [1, 0, 2, 3, 4, 5] (by decide)
    obtain ⟨X_10, S_13⟩ := Sep.turn X_9 S_12 MT_7 T_7
    refine RL.opD (by decide) (opv_assign rfl rfl) ?_
    refine RL.nil ?_
    refine blkN ?_
    refine thnN ?_
    refine W.region ?_
    refine RL.opD (by decide) (opv_add rfl rfl rfl) ?_
    refine RL.opD (by decide) (opv_move rfl rfl) ?_
    refine RL.nil ?_
    have eo1 := Option.some.inj ho1
    subst eo1
    refine rndN (s' := (x5 ++ [x13], IntKind.wrap .i64 (x6 + 1))) rfl ?_
    exact ⟨v13, ⟨rfl, rfl, rfl, rfl, rfl, rfl, rfl, rfl, rfl, rfl, rfl, rfl, trivial⟩, X_10, (Sep.sel S_13 [0, 2, 3, 4, 5] (by decide))⟩
   ·rw [if_neg c3] at ho1
    have c3 := eq_false_of_ne_true c3
    refine W.condF rfl c3 ?_
    refine W.exit ?_
    refine thnX ?_
    refine rndX ?_
    refine blkI ?_
    have eo1 := Option.some.inj ho1
    subst eo1
    have ey2 := hy1 _ rfl
    subst ey2
    refine onlyN ?_
    exact ⟨x6, decide (x6 < (x4.length : Int)), x5, v3, rfl, ⟨rfl, rfl, rfl, rfl, rfl, rfl, rfl, rfl, rfl, rfl, rfl, rfl, rfl, trivial⟩, X_5, (Sep.sel S_7 [1, 2, 3, 4, 0] (by decide))⟩
  rintro φ' hp11 ⟨x7, x8, x9, v4, rfl, hs3, X_11, S_14⟩
  try dsimp only at hp
  refine thnN ?_
  refine W.sub hs3 ?_
  refine W.seq ?_
  refine W.region ?_
  refine RL.opD (by decide) (opv_move rfl rfl) ?_
  refine RL.opD (by decide) (opv_assign rfl rfl) ?_
  refine RL.opD (by decide) (opv_assign rfl rfl) ?_
  refine RL.nil ?_
  refine thnN ?_
  refine W.ret ?_
  have er := Option.some.inj hp
  subst er
  exact Rt.two rfl rfl rfl ⟨v4, rfl, X_11, (Sep.sel S_14 [4] (by decide))⟩

set_option maxRecDepth 20000 in
theorem impl_CheckOf_ok (h0 : Heap) (a0 : Int) (a1 : ByteArray) (r : (Int × Bool)) (hp : impl_CheckOf a0 a1 = some r) : CallsH Tryd.prog 28 ([(.int .i64 a0), (.string a1)].toArray ++ [].toArray) h0 (fun v h' => v = (.tuple (List.toArray (α := Value) [(.int .i64 r.1), (.bool r.2)])) ∧ h0 = h') := by
 unfold impl_CheckOf at hp
 refine callsH_of_W (l := [(.int .i64 a0), (.string a1)]) (cap := []) 26 Tryd.func28 rfl rfl rfl ?_
 refine W.seq ?_
 refine W.region ?_
 refine RL.opD (by decide) (opv_assign rfl rfl) ?_
 refine RL.opD (by decide) (opv_assign rfl rfl) ?_
 refine RL.nil ?_
 refine thnN ?_
 refine W.seq ?_
 refine W.seq ?_
 refine W.region ?_
 refine RL.opD (by decide) (opv_move rfl rfl) ?_
 obtain ⟨x1, hx1, hp⟩ := Option.bind_eq_some_iff.1 hp
 refine RL.op _ (by decide) (opv_call (cap := []) (impl_within_ok _ _ _ _ _ hx1) rfl rfl ⟨rfl, rfl, rfl, trivial⟩ Tryd.func36 rfl rfl) ?_
 rintro _ _ ⟨rfl, rfl⟩
 refine RL.opD (by decide) (opv_not rfl rfl) ?_
 refine RL.nil ?_
 refine thnN ?_
 by_cases c1 : (!x1) = true
 ·rw [if_pos c1] at hp
  refine W.condT rfl c1 ?_
  refine W.seq ?_
  refine W.region ?_
  refine RL.opD (by decide) (opv_assign rfl rfl) ?_
  refine RL.opD (by decide) (opv_assign rfl rfl) ?_
  refine RL.nil ?_
  refine thnN ?_
  refine W.ret ?_
  refine thnR ?_
  have er := Option.some.inj hp
  subst er
  exact Rt.two rfl rfl rfl ⟨rfl, rfl⟩
 ·rw [if_neg c1] at hp
  have c1 := eq_false_of_ne_true c1
  refine W.condF rfl c1 ?_
  refine W.skip ?_
  refine thnN ?_
  refine W.seq ?_
  refine W.seq ?_
  refine W.region ?_
  refine RL.opD (by decide) (opv_move rfl rfl) ?_
  refine RL.opD (by decide) (opv_lenS rfl Tryd.underlying9 rfl) ?_
  refine RL.opD (by decide) (opv_move rfl rfl) ?_
  refine RL.nil ?_
  refine thnN ?_
  obtain ⟨y1, hy1, hp⟩ := Option.bind_eq_some_iff.1 hp
  refine W.cut (fun φ' h' => ∃ x4, ∃ x5, ∃ x6, y1 = (x4, x5, x6) ∧ Fr.sub [(1, (.string a1)), (4, (.int .i64 0)), (5, (.bool false)), (9, (.bool (!x1))), (11, (.int .i64 (a1.size : Int))), (0, (.int .i64 x4)), (12, (.int .i64 x5)), (13, (.bool x6))] φ' ∧ h0 = h') ?_ ?_
  ·refine W.block ?_
   refine W.loopS (fun (s : (Int × Int)) φ' h' => Fr.sub [(1, (.string a1)), (4, (.int .i64 0)), (5, (.bool false)), (9, (.bool (!x1))), (11, (.int .i64 (a1.size : Int))), (0, (.int .i64 s.1)), (12, (.int .i64 s.2))] φ' ∧ h0 = h') hy1 ⟨⟨rfl, rfl, rfl, rfl, rfl, rfl, rfl, trivial⟩, rfl⟩ ?_
   rintro ⟨x2, x3⟩ φ' _ o1 ⟨hs1, rfl⟩ ho1 hy1
   have hs1 : Fr.sub [(1, (.string a1)), (4, (.int .i64 0)), (5, (.bool false)), (9, (.bool (!x1))), (11, (.int .i64 (a1.size : Int))), (0, (.int .i64 x2)), (12, (.int .i64 x3))] φ' := hs1
   have ho1 : impl_CheckOf.s0 a1 x2 x3 = some o1 := ho1
   unfold impl_CheckOf.s0 at ho1
   refine W.sub hs1 ?_
   refine W.seq ?_
   refine W.region ?_
   refine RL.opD (by decide) (opv_icmp rfl rfl rfl rfl) ?_
   refine RL.nil ?_
   refine thnN ?_
   refine W.seq ?_
   by_cases c2 : (decide (x3 < (a1.size : Int))) = true
   ·rw [if_pos c2] at ho1
    refine W.condT rfl c2 ?_
    refine W.skip ?_
    refine thnN ?_
    refine W.seq ?_
    refine W.block ?_
    refine W.seq ?_
    refine W.region ?_
    refine RL.opD (by decide) (opv_move rfl rfl) ?_
    refine RL.opD (by decide) (opv_assign rfl rfl) ?_
    refine RL.nil ?_
    refine thnN ?_
    refine W.region ?_
    refine RL.opD (by decide) (opv_move rfl rfl) ?_
    refine RL.opD (by decide) (opv_mul rfl rfl rfl) ?_
    refine RL.opD (by decide) (opv_move rfl rfl) ?_
    refine RL.opD (by decide) (opv_move rfl rfl) ?_
    obtain ⟨x7, hx7, ho1⟩ := Option.bind_eq_some_iff.1 ho1
    refine RL.opD (by decide) (opv_indexS rfl Tryd.underlying9 rfl rfl hx7) ?_
    refine RL.opD (by decide) (opv_i2i rfl (by rw [Tryd.underlying5]; rfl) Tryd.underlying2 rfl) ?_
    refine RL.opD (by decide) (opv_add rfl rfl rfl) ?_
    refine RL.opD (by decide) (opv_add rfl rfl rfl) ?_
    refine RL.opD (by decide) (opv_rem rfl (by decide) rfl rfl) ?_
    refine RL.opD (by decide) (opv_assign rfl rfl) ?_
    refine RL.nil ?_
    refine blkN ?_
    refine thnN ?_
    refine W.region ?_
    refine RL.opD (by decide) (opv_add rfl rfl rfl) ?_
    refine RL.opD (by decide) (opv_move rfl rfl) ?_
    refine RL.nil ?_
    have eo1 := Option.some.inj ho1
    subst eo1
    refine rndN (s' := (Int.tmod (IntKind.wrap .i64 ((IntKind.wrap .i64 ((IntKind.wrap .i64 (677 * x2)) + (IntKind.wrap .i64 x7))) + 31)) 65003, IntKind.wrap .i64 (x3 + 1))) rfl ?_
    exact ⟨⟨rfl, rfl, rfl, rfl, rfl, rfl, rfl, trivial⟩, rfl⟩
   ·rw [if_neg c2] at ho1
    have c2 := eq_false_of_ne_true c2
    refine W.condF rfl c2 ?_
    refine W.exit ?_
    refine thnX ?_
    refine rndX ?_
    refine blkI ?_
    have eo1 := Option.some.inj ho1
    subst eo1
    have ey1 := hy1 _ rfl
    subst ey1
    refine onlyN ?_
    exact ⟨x2, x3, decide (x3 < (a1.size : Int)), rfl, ⟨rfl, rfl, rfl, rfl, rfl, rfl, rfl, rfl, trivial⟩, rfl⟩
  rintro φ' _ ⟨x4, x5, x6, rfl, hs2, rfl⟩
  try dsimp only at hp
  refine thnN ?_
  refine W.sub hs2 ?_
  refine W.seq ?_
  refine W.region ?_
  refine RL.opD (by decide) (opv_move rfl rfl) ?_
  refine RL.opD (by decide) (opv_assign rfl rfl) ?_
  refine RL.opD (by decide) (opv_assign rfl rfl) ?_
  refine RL.nil ?_
  refine thnN ?_
  refine W.ret ?_
  have er := Option.some.inj hp
  subst er
  exact Rt.two rfl rfl rfl ⟨rfl, rfl⟩

set_option maxRecDepth 20000 in
theorem impl_stripsOf_ok (h0 : Heap) (a0_0 : Int) (a0_1 : Int) (a0_2 : Bool) (u0_3 : Value) (a0_3 : List (Option Nat)) (g0_3 : SL (kF .f32) h0.size h0 u0_3 a0_3) (u0_4 : Value) (a0_4 : List (Option Nat)) (g0_4 : SL (kF .f32) h0.size h0 u0_4 a0_4) (a1 : Int) (r : List ((Int × Int))) (hp : impl_stripsOf a0_0 a0_1 a0_2 a0_3 a0_4 a1 = some r) : CallsH Tryd.prog 26 ([(.agg (List.toArray (α := Value) [(.int .i64 a0_0), (.int .i64 a0_1), (.bool a0_2), u0_3, u0_4])), (.int .i64 a1)].toArray ++ [].toArray) h0 (fun v h' => Mod [] h0 h' ∧ Sep [] h0.size h' [ownO (kII .i64) 51 v r]) := by
 unfold impl_stripsOf at hp
 refine callsH_of_W (l := [(.agg (List.toArray (α := Value) [(.int .i64 a0_0), (.int .i64 a0_1), (.bool a0_2), u0_3, u0_4])), (.int .i64 a1)]) (cap := []) 39 Tryd.func26 rfl rfl rfl ?_
 refine W.seq ?_
 refine W.region ?_
 refine RL.op _ (by decide) (opS_boxed (opv_boxA (cs := [(.int .i64 a0_0), (.int .i64 a0_1), (.bool a0_2), u0_3, u0_4]) rfl rfl)) ?_
 rintro _ hp1 ⟨bb1, rfl, MT_1, T_1⟩
 obtain ⟨X_1, S_1⟩ := Sep.turn0 (Mod.refl [] h0) (Sep.nil [] h0.size h0) MT_1 T_1
 refine RL.opD (by decide) (opv_assign rfl rfl) ?_
 have S_2 : Sep [] h0.size hp1 [ownO (kII .i64) 51 (.slice none 0 0) ([] : List ((Int × Int))), boxO bb1 [(.int .i64 a0_0), (.int .i64 a0_1), (.bool a0_2), u0_3, u0_4]] := Sep.addNil S_1
 refine RL.nil ?_
 refine thnN ?_
 refine W.seq ?_
 refine W.region ?_
 refine RL.op _ (by decide) (opS_lit0 (K := (kII .i64)) rfl Tryd.underlying48 Tryd.isinfo51) ?_
 rintro v1 hp2 ⟨MT_2, T_2⟩
 obtain ⟨X_2, S_3⟩ := Sep.turn0 X_1 S_2 MT_2 T_2
 refine RL.opD (by decide) (opv_assign rfl rfl) ?_
 refine RL.opD (by decide) (opv_assign rfl rfl) ?_
 refine RL.nil ?_
 refine thnN ?_
 refine W.seq ?_
 refine W.seq ?_
 refine W.region ?_
 refine RL.opD (by decide) (opv_move rfl rfl) ?_
 refine RL.opD (by decide) (opv_move rfl rfl) ?_
 refine RL.nil ?_
 refine thnN ?_
 obtain ⟨y1, hy1, hp⟩ := Option.bind_eq_some_iff.1 hp
 refine W.cut (fun φ' h' => ∃ x4, ∃ x5, ∃ x6, ∃ x7, ∃ v3, y1 = (x4, x5, x6, x7) ∧ Fr.sub [(0, (.agg (List.toArray (α := Value) [(.int .i64 a0_0), (.int .i64 a0_1), (.bool a0_2), u0_3, u0_4]))), (1, (.int .i64 a1)), (2, (.pointer (some ⟨bb1, 0, none⟩))), (4, (.slice none 0 0)), (10, (.int .i64 a1)), (6, (.int .i64 x4)), (11, (.int .i64 x5)), (12, (.bool x6)), (5, v3)] φ' ∧ Mod [] h0 h' ∧ Sep [] h0.size h' [ownO (kII .i64) 51 (.slice none 0 0) ([] : List ((Int × Int))), boxO bb1 [(.int .i64 a0_0), (.int .i64 a0_1), (.bool a0_2), u0_3, u0_4], ownO (kII .i64) 51 v3 x7]) ?_ ?_
 ·refine W.block ?_
  refine W.loopS (fun (s : ((List ((Int × Int))) × Int × Int)) φ' h' => ∃ v2, Fr.sub [(0, (.agg (List.toArray (α := Value) [(.int .i64 a0_0), (.int .i64 a0_1), (.bool a0_2), u0_3, u0_4]))), (1, (.int .i64 a1)), (2, (.pointer (some ⟨bb1, 0, none⟩))), (4, (.slice none 0 0)), (10, (.int .i64 a1)), (5, v2), (6, (.int .i64 s.2.1)), (11, (.int .i64 s.2.2))] φ' ∧ Mod [] h0 h' ∧ Sep [] h0.size h' [ownO (kII .i64) 51 v2 s.1, ownO (kII .i64) 51 (.slice none 0 0) ([] : List ((Int × Int))), boxO bb1 [(.int .i64 a0_0), (.int .i64 a0_1), (.bool a0_2), u0_3, u0_4]]) hy1 ⟨v1, ⟨rfl, rfl, rfl, rfl, rfl, rfl, rfl, rfl, trivial⟩, X_2, (Sep.sel S_3 [0, 1, 2] (by decide))⟩ ?_
  rintro ⟨x1, x2, x3⟩ φ' hp3 o1 ⟨v2, hs1, X_3, S_4⟩ ho1 hy1
  have hs1 : Fr.sub [(0, (.agg (List.toArray (α := Value) [(.int .i64 a0_0), (.int .i64 a0_1), (.bool a0_2), u0_3, u0_4]))), (1, (.int .i64 a1)), (2, (.pointer (some ⟨bb1, 0, none⟩))), (4, (.slice none 0 0)), (10, (.int .i64 a1)), (5, v2), (6, (.int .i64 x2)), (11, (.int .i64 x3))] φ' := hs1
  have S_4 : Sep [] h0.size hp3 [ownO (kII .i64) 51 v2 x1, ownO (kII .i64) 51 (.slice none 0 0) ([] : List ((Int × Int))), boxO bb1 [(.int .i64 a0_0), (.int .i64 a0_1), (.bool a0_2), u0_3, u0_4]] := S_4
  have ho1 : impl_stripsOf.s0 a0_1 a1 x1 x2 x3 = some o1 := ho1
  unfold impl_stripsOf.s0 at ho1
  refine W.sub hs1 ?_
  refine W.seq ?_
  refine W.region ?_
  refine RL.opD (by decide) (opv_icmp rfl rfl rfl rfl) ?_
  refine RL.nil ?_
  refine thnN ?_
  refine W.seq ?_
  by_cases c1 : (decide (x3 < a1)) = true
  ·rw [if_pos c1] at ho1
   refine W.condT rfl c1 ?_
   refine W.skip ?_
   refine thnN ?_
   refine W.seq ?_
   refine W.block ?_
   refine W.seq ?_
   refine W.region ?_
   refine RL.opD (by decide) (opv_move rfl rfl) ?_
   refine RL.opD (by decide) (opv_assign rfl rfl) ?_
   refine RL.nil ?_
   refine thnN ?_
   refine W.seq ?_
   refine W.region ?_
   refine RL.opD (by decide) (opv_fieldAddr rfl Tryd.fo32_1 rfl) ?_
   refine RL.opD (by decide) (opv_loadB rfl Tryd.one2 rfl (Sep.at (o := boxO bb1 [(.int .i64 a0_0), (.int .i64 a0_1), (.bool a0_2), u0_3, u0_4]) S_4 2 rfl) rfl) ?_
   refine RL.opD (by decide) (opv_move rfl rfl) ?_
   by_cases nc2 : a1 = 0
   ·rw [if_pos nc2] at ho1; cases ho1
   rw [if_neg nc2] at ho1
   have c2 : a1 ≠ 0 := nc2
   refine RL.opD (by decide) (opv_quo rfl c2 rfl rfl) ?_
   refine RL.opD (by decide) (opv_assign rfl rfl) ?_
   refine RL.nil ?_
   refine thnN ?_
   refine W.seq ?_
   refine W.seq ?_
   refine W.region ?_
   refine RL.opD (by decide) (opv_move rfl rfl) ?_
   refine RL.opD (by decide) (opv_fieldAddr rfl Tryd.fo32_1 rfl) ?_
   refine RL.opD (by decide) (opv_loadB rfl Tryd.one2 rfl (Sep.at (o := boxO bb1 [(.int .i64 a0_0), (.int .i64 a0_1), (.bool a0_2), u0_3, u0_4]) S_4 2 rfl) rfl) ?_
   refine RL.opD (by decide) (opv_move rfl rfl) ?_
   by_cases nc3 : a1 = 0
   ·rw [if_pos nc3] at ho1; cases ho1
   rw [if_neg nc3] at ho1
   have c3 : a1 ≠ 0 := nc3
   refine RL.opD (by decide) (opv_rem rfl c3 rfl rfl) ?_
   refine RL.opD (by decide) (opv_icmp rfl rfl rfl rfl) ?_
   refine RL.nil ?_
   refine thnN ?_
   obtain ⟨x8, hy2, ho1⟩ := Option.bind_eq_some_iff.1 ho1
   refine W.cut (fun φ' h' => Fr.sub [(0, (.agg (List.toArray (α := Value) [(.int .i64 a0_0), (.int .i64 a0_1), (.bool a0_2), u0_3, u0_4]))), (1, (.int .i64 a1)), (2, (.pointer (some ⟨bb1, 0, none⟩))), (4, (.slice none 0 0)), (10, (.int .i64 a1)), (5, v2), (6, (.int .i64 x2)), (11, (.int .i64 x3)), (12, (.bool (decide (x3 < a1)))), (7, (.int .i64 x3)), (23, (.bool (decide (x3 < (Int.tmod a0_1 a1))))), (8, (.int .i64 x8))] φ' ∧ hp3 = h') ?_ ?_
   ·by_cases c4 : (decide (x3 < (Int.tmod a0_1 a1))) = true
    ·rw [if_pos c4] at hy2
     refine W.condT rfl c4 ?_
     refine W.region ?_
     refine RL.opD (by decide) (opv_move rfl rfl) ?_
     refine RL.opD (by decide) (opv_add rfl rfl rfl) ?_
     refine RL.opD (by decide) (opv_assign rfl rfl) ?_
     refine RL.nil ?_
     have ey2 := Option.some.inj hy2
     subst ey2
     refine onlyN ?_
     exact ⟨⟨rfl, rfl, rfl, rfl, rfl, rfl, rfl, rfl, rfl, rfl, rfl, rfl, trivial⟩, rfl⟩
    ·rw [if_neg c4] at hy2
     have c4 := eq_false_of_ne_true c4
     refine W.condF rfl c4 ?_
     refine W.skip ?_
     have ey2 := Option.some.inj hy2
     subst ey2
     refine onlyN ?_
     exact ⟨⟨rfl, rfl, rfl, rfl, rfl, rfl, rfl, rfl, rfl, rfl, rfl, rfl, trivial⟩, rfl⟩
   rintro φ' _ ⟨hs3, rfl⟩
   refine thnN ?_
   refine W.sub hs3 ?_
   refine W.seq ?_
   refine W.seq ?_
   refine W.region ?_
   refine RL.opD (by decide) (opv_move rfl rfl) ?_
   refine RL.opD (by decide) (opv_icmp rfl rfl rfl rfl) ?_
   refine RL.nil ?_
   refine thnN ?_
   obtain ⟨x9, hy3, ho1⟩ := Option.bind_eq_some_iff.1 ho1
   refine W.cut (fun φ' h' => ∃ v4, Fr.sub [(0, (.agg (List.toArray (α := Value) [(.int .i64 a0_0), (.int .i64 a0_1), (.bool a0_2), u0_3, u0_4]))), (1, (.int .i64 a1)), (2, (.pointer (some ⟨bb1, 0, none⟩))), (4, (.slice none 0 0)), (10, (.int .i64 a1)), (6, (.int .i64 x2)), (11, (.int .i64 x3)), (12, (.bool (decide (x3 < a1)))), (7, (.int .i64 x3)), (23, (.bool (decide (x3 < (Int.tmod a0_1 a1))))), (8, (.int .i64 x8)), (27, (.bool (decide (x8 > 0)))), (5, v4)] φ' ∧ Mod [] h0 h' ∧ Sep [] h0.size h' [ownO (kII .i64) 51 (.slice none 0 0) ([] : List ((Int × Int))), boxO bb1 [(.int .i64 a0_0), (.int .i64 a0_1), (.bool a0_2), u0_3, u0_4], ownO (kII .i64) 51 v4 x9]) ?_ ?_
   ·by_cases c5 : (decide (x8 > 0)) = true
    ·rw [if_pos c5] at hy3
     refine W.condT rfl c5 ?_
     refine W.region ?_
     refine RL.opD (by decide) (opv_move rfl rfl) ?_
     refine RL.opD (by decide) (opv_move rfl rfl) ?_
     refine RL.opD (by decide) (opv_move rfl rfl) ?_
     refine RL.opD (by decide) (opv_build (cs := [(.int .i64 x2), (.int .i64 x8)]) [(0, [(.int .i64 x2)]), (1, [(.int .i64 x8)])] [(0, (.int .i64 x2)), (1, (.int .i64 x8))] rfl Tryd.bd51 ⟨⟨rfl, rfl, rfl, cells1 rfl⟩, ⟨rfl, rfl, rfl, cells1 rfl⟩, trivial⟩ rfl) ?_
     refine RL.op _ (by decide) (opS_litW (K := (kII .i64)) (us := [(.int .i64 x2), (.int .i64 x8)]) (z := (x2, x8)) rfl Tryd.underlying48 Tryd.einfo51 rfl rfl rfl rfl rfl rfl) ?_
     rintro v5 hp4 ⟨MT_3, T_3⟩
     obtain ⟨X_4, S_5⟩ := Sep.turn0 X_3 S_4 MT_3 T_3
     obtain ⟨c6, hy3⟩ := of_ite hy3
     refine RL.op _ (by decide) (opS_append (K := (kII .i64)) rfl Tryd.underlying48 Tryd.einfo51 rfl rfl rfl rfl (Sep.at (o := ownO (kII .i64) 51 v2 x1) S_5 1 rfl) (ownO.read (Sep.at (o := ownO (kII .i64) 51 v5 [(x2, x8)]) S_5 0 rfl)) (by decide) (by decide) c6) ?_
     rintro v6 hp5 ⟨MT_4, T_4⟩
     have S_6 : Sep [] h0.size hp4 ([ownO (kII .i64) 51 v2 x1] ++ [ownO (kII .i64) 51 v5 [(x2, x8)], ownO (kII .i64) 51 (.slice none 0 0) ([] : List ((Int × Int))), boxO bb1 [(.int .i64 a0_0), (.int .i64 a0_1), (.bool a0_2), u0_3, u0_4]]) := Sep.sel S_5 [1, 0, 2, 3] (by decide)
     obtain ⟨X_5, S_7⟩ := Sep.turn X_4 S_6 MT_4 T_4
     refine RL.opD (by decide) (opv_assign rfl rfl) ?_
     refine RL.nil ?_
     have ey3 := Option.some.inj hy3
     subst ey3
     refine onlyN ?_
     exact ⟨v6, ⟨rfl, rfl, rfl, rfl, rfl, rfl, rfl, rfl, rfl, rfl, rfl, rfl, rfl, trivial⟩, X_5, (Sep.sel S_7 [2, 3, 0] (by decide))⟩
    ·rw [if_neg c5] at hy3
     have c5 := eq_false_of_ne_true c5
     refine W.condF rfl c5 ?_
     refine W.skip ?_
     have ey3 := Option.some.inj hy3
     subst ey3
     refine onlyN ?_
     exact ⟨v2, ⟨rfl, rfl, rfl, rfl, rfl, rfl, rfl, rfl, rfl, rfl, rfl, rfl, rfl, trivial⟩, X_3, (Sep.sel S_4 [1, 2, 0] (by decide))⟩
   rintro φ' hp6 ⟨v4, hs4, X_6, S_8⟩
   refine thnN ?_
   refine W.sub hs4 ?_
   refine W.region ?_
   refine RL.opD (by decide) (opv_move rfl rfl) ?_
   refine RL.opD (by decide) (opv_move rfl rfl) ?_
   refine RL.opD (by decide) (opv_add rfl rfl rfl) ?_
   refine RL.opD (by decide) (opv_assign rfl rfl) ?_
   refine RL.nil ?_
   refine blkN ?_
   refine thnN ?_
   refine W.region ?_
   refine RL.opD (by decide) (opv_add rfl rfl rfl) ?_
   refine RL.opD (by decide) (opv_move rfl rfl) ?_
   refine RL.nil ?_
   have eo1 := Option.some.inj ho1
   subst eo1
   refine rndN (s' := (x9, IntKind.wrap .i64 (x2 + x8), IntKind.wrap .i64 (x3 + 1))) rfl ?_
   exact ⟨v4, ⟨rfl, rfl, rfl, rfl, rfl, rfl, rfl, rfl, trivial⟩, X_6, (Sep.sel S_8 [2, 0, 1] (by decide))⟩
  ·rw [if_neg c1] at ho1
   have c1 := eq_false_of_ne_true c1
   refine W.condF rfl c1 ?_
   refine W.exit ?_
   refine thnX ?_
   refine rndX ?_
   refine blkI ?_
   have eo1 := Option.some.inj ho1
   subst eo1
   have ey1 := hy1 _ rfl
   subst ey1
   refine onlyN ?_
   exact ⟨x2, x3, decide (x3 < a1), x1, v2, rfl, ⟨rfl, rfl, rfl, rfl, rfl, rfl, rfl, rfl, rfl, trivial⟩, X_3, (Sep.sel S_4 [1, 2, 0] (by decide))⟩
 rintro φ' hp7 ⟨x4, x5, x6, x7, v3, rfl, hs2, X_7, S_9⟩
 try dsimp only at hp
 refine thnN ?_
 refine W.sub hs2 ?_
 refine W.seq ?_
 refine W.region ?_
 refine RL.opD (by decide) (opv_move rfl rfl) ?_
 refine RL.opD (by decide) (opv_assign rfl rfl) ?_
 refine RL.nil ?_
 refine thnN ?_
 refine W.ret ?_
 have er := Option.some.inj hp
 subst er
 exact Rt.one rfl rfl ⟨X_7, (Sep.sel S_9 [2] (by decide))⟩

set_option maxRecDepth 20000 in
theorem impl_areWorkers_ok (h0 : Heap) (a0 : Int) (r : Bool) (hp : impl_areWorkers a0 = some r) : CallsH Tryd.prog 25 ([(.int .i64 a0)].toArray ++ [].toArray) h0 (fun v h' => v = (.bool r) ∧ h0 = h') := by
 unfold impl_areWorkers at hp
 refine callsH_of_W (l := [(.int .i64 a0)]) (cap := []) 5 Tryd.func25 rfl rfl rfl ?_
 refine W.seq ?_
 refine W.region ?_
 refine RL.opD (by decide) (opv_assign rfl rfl) ?_
 refine RL.nil ?_
 refine thnN ?_
 refine W.seq ?_
 refine W.region ?_
 refine RL.opD (by decide) (opv_move rfl rfl) ?_
 obtain ⟨x1, hx1, hp⟩ := Option.bind_eq_some_iff.1 hp
 refine RL.op _ (by decide) (opv_call (cap := []) (impl_within_ok _ _ _ _ _ hx1) rfl rfl ⟨rfl, rfl, rfl, trivial⟩ Tryd.func36 rfl rfl) ?_
 rintro _ _ ⟨rfl, rfl⟩
 refine RL.opD (by decide) (opv_assign rfl rfl) ?_
 refine RL.nil ?_
 refine thnN ?_
 refine W.ret ?_
 have er := Option.some.inj hp
 subst er
 exact Rt.one rfl rfl ⟨rfl, rfl⟩

set_option maxRecDepth 20000 in
theorem impl_BitsOf_ok (h0 : Heap) (u0 : Value) (a0 : Option Nat) (g0 : IsF .f32 u0 a0) (r : Int) (hp : impl_BitsOf a0 = some r) : CallsH Tryd.prog 45 ([u0].toArray ++ [].toArray) h0 (fun v h' => v = (.int .i64 r) ∧ h0 = h') := by
 unfold impl_BitsOf at hp
 refine callsH_of_W (l := [u0]) (cap := []) 9 Tryd.func45 rfl rfl rfl ?_
 refine W.seq ?_
 refine W.region ?_
 refine RL.opD (by decide) (opv_assign rfl rfl) ?_
 refine RL.nil ?_
 refine thnN ?_
 refine W.seq ?_
 refine W.seq ?_
 refine W.region ?_
 refine RL.opD (by decide) (opv_move rfl rfl) ?_
 refine RL.opD (by decide) (opv_move rfl rfl) ?_
 refine RL.opD (by decide) (opv_fcmp rfl rfl rfl rfl g0 g0) ?_
 refine RL.nil ?_
 refine thnN ?_
 by_cases c1 : (fcmp .neq .f32 a0 a0) = true
 ·rw [if_pos c1] at hp
  refine W.condT rfl c1 ?_
  refine W.seq ?_
  refine W.region ?_
  refine RL.opD (by decide) (opv_assign rfl rfl) ?_
  refine RL.nil ?_
  refine thnN ?_
  refine W.ret ?_
  refine thnR ?_
  have er := Option.some.inj hp
  subst er
  exact Rt.one rfl rfl ⟨rfl, rfl⟩
 ·rw [if_neg c1] at hp
  have c1 := eq_false_of_ne_true c1
  refine W.condF rfl c1 ?_
  refine W.skip ?_
  refine thnN ?_
  refine W.seq ?_
  refine W.region ?_
  refine RL.opD (by decide) (opv_move rfl rfl) ?_
  obtain ⟨x1, hx1, hp⟩ := Option.bind_eq_some_iff.1 hp
  refine RL.opD (by decide) (opv_ext (vs := [u0]) rfl rfl ⟨rfl, trivial⟩ Tryd.func48 rfl rfl rfl rfl (fun w => bits32_run g0 hx1 w)) ?_
  refine RL.opD (by decide) (opv_i2i rfl (by rw [Tryd.underlying80]; rfl) Tryd.underlying2 rfl) ?_
  refine RL.opD (by decide) (opv_assign rfl rfl) ?_
  refine RL.nil ?_
  refine thnN ?_
  refine W.ret ?_
  have er := Option.some.inj hp
  subst er
  exact Rt.one rfl rfl ⟨rfl, rfl⟩

end Go.H
