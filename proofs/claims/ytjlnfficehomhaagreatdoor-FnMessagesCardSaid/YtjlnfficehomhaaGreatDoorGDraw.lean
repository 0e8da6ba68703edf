/- Functions of the program: what each computes, as a plain function, and that the call comes to it. Written by a program (wip/gen). -/
import Derived.Test.YtjlnfficehomhaaGreatDoorGMax
import Derived.Test.YtjlnfficehomhaaGreatDoorGBase
import Derived.Test.YtjlnfficehomhaaGreatDoorGSheet
import Derived.Test.YtjlnfficehomhaaGreatDoorGField
import Derived.Test.YtjlnfficehomhaaGreatDoorGSrc
import Derived.Test.YtjlnfficehomhaaGreatDoorGSrc2
import Derived.Test.YtjlnfficehomhaaGreatDoorLibB
import Derived.Test.YtjlnfficehomhaaGreatDoorProg
import Derived.KernelRfl
set_option linter.unusedVariables false
namespace Go.H
open Go Go.Proofs



noncomputable def spec_l02DrawOk.s0 (a0_0 : List (Int)) (x1 : (Int × Int × Int)) (x3 : (Int × Int × Int)) (x4 : (Bool × Int × Int)) (x5 : Int) (x6 : Int) (x7 : Int) (x8 : List (Option Nat)) (x9 : List (Option Nat)) : Option ((Int × Int × Int × (List (Option Nat)) × (List (Option Nat))) ⊕ (Int × Bool × Int × Int × (List (Option Nat)) × (List (Option Nat)))) :=
 (if (decide (x5 < (IntKind.wrap .i64 ((IntKind.wrap .i64 (3 + x1.1)) * (IntKind.wrap .i64 (3 + x3.1)))))) = true then (((if (!x4.1) = true then ((spec_l00Src_pick a0_0 x6 x7 9).bind fun (x20 : (Int × Int × Int)) => ((spec_l00Src_one a0_0 x20.2.1 x20.2.2 3).bind fun (x21 : (Bool × Int × Int)) => (((if x21.1 = true then ((spec_l00Src_pick a0_0 x21.2.1 x21.2.2 9).bind fun (x25 : (Int × Int × Int)) => some (fop .quo .f32 (fofi .f32 x25.1) (some 1090519040), x25.2.1, x25.2.2)) else some ((some 0), x21.2.1, x21.2.2)) : Option ((Option Nat) × Int × Int)).bind fun (⟨x22, x23, x24⟩ : ((Option Nat) × Int × Int)) => some (fop .quo .f32 (fofi .f32 x20.1) (some 1098907648), x22, x23, x24)))) else some ((some 1056964608), (some 0), x6, x7)) : Option ((Option Nat) × (Option Nat) × Int × Int)).bind fun (⟨x16, x17, x18, x19⟩ : ((Option Nat) × (Option Nat) × Int × Int)) => (if x8.length + [x16].length ≤ 1000000000 then (if x9.length + [x17].length ≤ 1000000000 then some (.inl (IntKind.wrap .i64 (x5 + 1), x18, x19, x8 ++ [x16], x9 ++ [x17])) else none) else none)) else some (.inr (x5, decide (x5 < (IntKind.wrap .i64 ((IntKind.wrap .i64 (3 + x1.1)) * (IntKind.wrap .i64 (3 + x3.1))))), x6, x7, x8, x9)))

noncomputable def spec_l02DrawOk (a0_0 : List (Int)) (a0_1 : Int) (a0_2 : Int) : Option (Int × Int × Bool × (List (Option Nat)) × (List (Option Nat)) × Int × Int) :=
 ((spec_l00Src_pick a0_0 a0_1 a0_2 4).bind fun (x1 : (Int × Int × Int)) => ((spec_l00Src_one a0_0 x1.2.1 x1.2.2 2).bind fun (x2 : (Bool × Int × Int)) => ((spec_l00Src_pick a0_0 x2.2.1 x2.2.2 4).bind fun (x3 : (Int × Int × Int)) => ((spec_l00Src_one a0_0 x3.2.1 x3.2.2 2).bind fun (x4 : (Bool × Int × Int)) => ((loopF (fun (s : (Int × Int × Int × (List (Option Nat)) × (List (Option Nat)))) => spec_l02DrawOk.s0 a0_0 x1 x3 x4 s.1 s.2.1 s.2.2.1 s.2.2.2.1 s.2.2.2.2) (0, x4.2.1, x4.2.2, ([] : List (Option Nat)), ([] : List (Option Nat)))).bind fun (⟨x10, x11, x12, x13, x14, x15⟩ : (Int × Bool × Int × Int × (List (Option Nat)) × (List (Option Nat)))) => some (IntKind.wrap .i64 (3 + x1.1), IntKind.wrap .i64 (3 + x3.1), x2.1, x14, x15, x12, x13))))))

noncomputable def spec_B10Sheet (a0 : List (Int)) : Option (Int × Int × Bool × (List (Option Nat)) × (List (Option Nat))) :=
 ((spec_l00From a0).bind fun (x1 : (Int × Int)) => ((spec_l02DrawOk a0 x1.1 x1.2).bind fun (x2 : (Int × Int × Bool × (List (Option Nat)) × (List (Option Nat)) × Int × Int)) => some (x2.1, x2.2.1, x2.2.2.1, x2.2.2.2.1, x2.2.2.2.2.1)))

noncomputable def spec_l02Zero (a0 : Int) : Option ((List (Option Nat)) × (List (Option Nat)) × (List (Option Nat))) :=
 (if 0 ≤ a0 ∧ a0 ≤ 1000000000 then (if 0 ≤ a0 ∧ a0 ≤ 1000000000 then (if 0 ≤ a0 ∧ a0 ≤ 1000000000 then some (List.replicate (Int.toNat a0) (some 0), List.replicate (Int.toNat a0) (some 0), List.replicate (Int.toNat a0) (some 0)) else none) else none) else none)

noncomputable def spec_l02DrawField.s1 (a1_0 : Int) (a1_1 : Int) (a1_2 : Bool) (a1_3 : List (Option Nat)) (a1_4 : List (Option Nat)) (x4 : Int) (x55 : Int) (x56 : List (Option Nat)) (x57 : List (Option Nat)) (x58 : List (Option Nat)) : Option ((Int × (List (Option Nat)) × (List (Option Nat)) × (List (Option Nat))) ⊕ (Int × Bool × (List (Option Nat)) × (List (Option Nat)) × (List (Option Nat)))) :=
 (if (decide (x55 < x4)) = true then (if a1_0 = 0 then none else (if a1_0 = 0 then none else ((spec_l02Border a1_0 a1_1 a1_2 a1_3 a1_4 (Int.tmod x55 a1_0) (IntKind.wrap .i64 (Int.tdiv x55 a1_0))).bind fun (x64 : Bool) => (((if x64 = true then ((idx x56 x55).bind fun (x66 : Option Nat) => ((setF x56 x55 (some 0)).bind fun (x67 : List (Option Nat)) => some x67)) else some x56) : Option (List (Option Nat))).bind fun (x65 : List (Option Nat)) => (if a1_0 = 0 then none else (((if ((IntKind.wrap .i64 (Int.tdiv x55 a1_0)) == (IntKind.wrap .i64 (a1_1 - 1))) = true then ((idx x57 x55).bind fun (x69 : Option Nat) => ((setF x57 x55 (some 0)).bind fun (x70 : List (Option Nat)) => some x70)) else some x57) : Option (List (Option Nat))).bind fun (x68 : List (Option Nat)) => (if a1_0 = 0 then none else (((if ((Int.tmod x55 a1_0) == (IntKind.wrap .i64 (a1_0 - 1))) = true then ((idx x58 x55).bind fun (x72 : Option Nat) => ((setF x58 x55 (some 0)).bind fun (x73 : List (Option Nat)) => some x73)) else some x58) : Option (List (Option Nat))).bind fun (x71 : List (Option Nat)) => some (.inl (IntKind.wrap .i64 (x55 + 1), x65, x68, x71)))))))))) else some (.inr (x55, decide (x55 < x4), x56, x57, x58)))

noncomputable def spec_l02DrawField.s0 (a0_0 : List (Int)) (x4 : Int) (x6 : (Int × Int × Int)) (x7 : Int) (x8 : Int) (x9 : Int) (x10 : List (Option Nat)) (x11 : List (Option Nat)) (x12 : List (Option Nat)) : Option ((Int × Int × Int × (List (Option Nat)) × (List (Option Nat)) × (List (Option Nat))) ⊕ (Int × Bool × Int × Int × (List (Option Nat)) × (List (Option Nat)) × (List (Option Nat)))) :=
 (if (decide (x7 < x4)) = true then (((((if (x6.1 == 0) = true then ((spec_l00Src_one a0_0 x8 x9 8).bind fun (x29 : (Bool × Int × Int)) => some (!x29.1, x29.2.1, x29.2.2)) else some (false, x8, x9)) : Option (Bool × Int × Int)).bind fun (⟨x26, x27, x28⟩ : (Bool × Int × Int)) => (if x26 = true then some (x26, x27, x28, x10, x11, x12) else ((spec_l00Src_pick a0_0 x27 x28 17).bind fun (x30 : (Int × Int × Int)) => ((idx x10 x7).bind fun (x31 : Option Nat) => ((setF x10 x7 (fop .quo .f32 (fofi .f32 (IntKind.wrap .i64 (x30.1 - 8))) (some 1082130432))).bind fun (x32 : List (Option Nat)) => (((if (decide (x6.1 > 1)) = true then ((spec_l00Src_pick a0_0 x30.2.1 x30.2.2 17).bind fun (x37 : (Int × Int × Int)) => ((idx x11 x7).bind fun (x38 : Option Nat) => ((setF x11 x7 (fop .quo .f32 (fofi .f32 (IntKind.wrap .i64 (x37.1 - 8))) (some 1082130432))).bind fun (x39 : List (Option Nat)) => ((spec_l01DrawPlain a0_0 x37.2.1 x37.2.2).bind fun (x40 : ((Option Nat) × Int × Int)) => ((idx x12 x7).bind fun (x41 : Option Nat) => ((setF x12 x7 x40.1).bind fun (x42 : List (Option Nat)) => some (x42, x40.2.1, x40.2.2, x39))))))) else some (x12, x30.2.1, x30.2.2, x11)) : Option ((List (Option Nat)) × Int × Int × (List (Option Nat)))).bind fun (⟨x33, x34, x35, x36⟩ : ((List (Option Nat)) × Int × Int × (List (Option Nat)))) => (((if (x6.1 == 3) = true then ((spec_l00Src_one a0_0 x34 x35 6).bind fun (x46 : (Bool × Int × Int)) => some (x46.1, x46.2.1, x46.2.2)) else some (false, x34, x35)) : Option (Bool × Int × Int)).bind fun (⟨x43, x44, x45⟩ : (Bool × Int × Int)) => (((if x43 = true then ((spec_l01DrawFloat a0_0 x44 x45).bind fun (x50 : ((Option Nat) × Int × Int)) => ((idx x32 x7).bind fun (x51 : Option Nat) => ((setF x32 x7 x50.1).bind fun (x52 : List (Option Nat)) => some (x52, x50.2.1, x50.2.2)))) else some (x32, x44, x45)) : Option ((List (Option Nat)) × Int × Int)).bind fun (⟨x47, x48, x49⟩ : ((List (Option Nat)) × Int × Int)) => some (x26, x48, x49, x47, x36, x33))))))))) : Option (Bool × Int × Int × (List (Option Nat)) × (List (Option Nat)) × (List (Option Nat)))).bind fun (⟨x20, x21, x22, x23, x24, x25⟩ : (Bool × Int × Int × (List (Option Nat)) × (List (Option Nat)) × (List (Option Nat)))) => some (.inl (IntKind.wrap .i64 (x7 + 1), x21, x22, x23, x24, x25))) else some (.inr (x7, decide (x7 < x4), x8, x9, x10, x11, x12)))

noncomputable def spec_l02DrawField (a0_0 : List (Int)) (a0_1 : Int) (a0_2 : Int) (a1_0 : Int) (a1_1 : Int) (a1_2 : Bool) (a1_3 : List (Option Nat)) (a1_4 : List (Option Nat)) : Option ((List (Option Nat)) × (List (Option Nat)) × (List (Option Nat)) × Int × Int × Int × Int × Bool) :=
 ((spec_l00Min 17 a1_0).bind fun (x1 : Int) => ((spec_l00Min 17 a1_1).bind fun (x2 : Int) => ((spec_l00Min 289 (IntKind.wrap .i64 (x1 * x2))).bind fun (x3 : Int) => ((spec_l00Max 0 x3).bind fun (x4 : Int) => ((spec_l02Zero x4).bind fun (x5 : ((List (Option Nat)) × (List (Option Nat)) × (List (Option Nat)))) => ((spec_l00Src_pick a0_0 a0_1 a0_2 4).bind fun (x6 : (Int × Int × Int)) => ((loopF (fun (s : (Int × Int × Int × (List (Option Nat)) × (List (Option Nat)) × (List (Option Nat)))) => spec_l02DrawField.s0 a0_0 x4 x6 s.1 s.2.1 s.2.2.1 s.2.2.2.1 s.2.2.2.2.1 s.2.2.2.2.2) (0, x6.2.1, x6.2.2, x5.1, x5.2.1, x5.2.2)).bind fun (⟨x13, x14, x15, x16, x17, x18, x19⟩ : (Int × Bool × Int × Int × (List (Option Nat)) × (List (Option Nat)) × (List (Option Nat)))) => ((((spec_l02Is a1_0 a1_1 a1_2 a1_3 a1_4).bind fun (x54 : Bool) => (if (!x54) = true then some true else some a1_2)) : Option Bool).bind fun (x53 : Bool) => (if x53 = true then some (x17, x18, x19, x15, x16, a1_0, a1_1, a1_2) else ((loopF (fun (s : (Int × (List (Option Nat)) × (List (Option Nat)) × (List (Option Nat)))) => spec_l02DrawField.s1 a1_0 a1_1 a1_2 a1_3 a1_4 x4 s.1 s.2.1 s.2.2.1 s.2.2.2) (0, x17, x18, x19)).bind fun (⟨x59, x60, x61, x62, x63⟩ : (Int × Bool × (List (Option Nat)) × (List (Option Nat)) × (List (Option Nat)))) => some (x61, x62, x63, x15, x16, a1_0, a1_1, a1_2)))))))))))

noncomputable def spec_B10Field (a0 : List (Int)) (a1_0 : Int) (a1_1 : Int) (a1_2 : Bool) (a1_3 : List (Option Nat)) (a1_4 : List (Option Nat)) : Option ((List (Option Nat)) × (List (Option Nat)) × (List (Option Nat))) :=
 ((spec_l00From a0).bind fun (x1 : (Int × Int)) => ((spec_l02DrawField a0 x1.1 x1.2 a1_0 a1_1 a1_2 a1_3 a1_4).bind fun (x2 : ((List (Option Nat)) × (List (Option Nat)) × (List (Option Nat)) × Int × Int × Int × Int × Bool)) => some (x2.1, x2.2.1, x2.2.2.1)))

set_option maxHeartbeats 4000000 in
set_option maxRecDepth 20000 in
theorem spec_l02DrawOk_ok (h0 : Heap) (lo : Nat) (hlo : lo ≤ h0.size) (b0 : Nat) (u0_0 : Value) (a0_0 : List (Int)) (g0_0 : SL (kI .u8) lo h0 u0_0 a0_0) (a0_1 : Int) (a0_2 : Int) (S0 : Sep [some b0] h0.size h0 [boxO b0 [u0_0, (.int .i64 a0_1), (.int .u64 a0_2)]]) (hB : ∀ b, some b ∈ [some b0] → lo ≤ b) (r : (Int × Int × Bool × (List (Option Nat)) × (List (Option Nat)) × Int × Int)) (hp : spec_l02DrawOk a0_0 a0_1 a0_2 = some r) : CallsH Tryz.prog 16 ([(.pointer (some ⟨b0, 0, none⟩))].toArray ++ [].toArray) h0 (fun v h' => ∃ w3, ∃ w4, v = (.agg (List.toArray (α := Value) [(.int .i64 r.1), (.int .i64 r.2.1), (.bool r.2.2.1), w3, w4])) ∧ Mod [some b0] h0 h' ∧ Sep [some b0] h0.size h' [ownO (kF .f32) 66 w3 r.2.2.2.1, ownO (kF .f32) 66 w4 r.2.2.2.2.1, boxO b0 [u0_0, (.int .i64 r.2.2.2.2.2.1), (.int .u64 r.2.2.2.2.2.2)]]) := by
 unfold spec_l02DrawOk at hp
 refine callsH_of_W (l := [(.pointer (some ⟨b0, 0, none⟩))]) (cap := []) 54 Tryz.func16 rfl rfl rfl ?_
 refine W.seq ?_
 refine W.region ?_
 refine RL.op _ (by decide) (opS_boxed (opv_alloc (cs := [(.int .i64 0), (.int .i64 0), (.bool false), (.slice none 0 0), (.slice none 0 0)]) rfl Tryz.zero26 rfl)) ?_
 rintro _ hp1 ⟨bb1, rfl, MT_1, T_1⟩
 obtain ⟨X_1, S_1⟩ := Sep.turn0 (Mod.refl [some b0] h0) S0 MT_1 T_1
 refine RL.nil ?_
 refine thnN ?_
 refine W.seq ?_
 refine W.region ?_
 refine RL.opD (by decide) (opv_move rfl rfl) ?_
 obtain ⟨x1, hx1, hp⟩ := Option.bind_eq_some_iff.1 hp
 have S_3 : Sep [some b0] h0.size hp1 [boxO b0 [u0_0, (.int .i64 a0_1), (.int .u64 a0_2)]] := Sep.sel S_1 [1] (by decide)
 have S_2 : Sep [some b0] hp1.size hp1 [boxO b0 [u0_0, (.int .i64 a0_1), (.int .u64 a0_2)]] := Sep.own S_3 _
 refine RL.op _ (by decide) (opv_call (cap := []) (spec_l00Src_pick_ok _ lo (Nat.le_trans hlo (Mod.size X_1)) _ _ _ (SL.mod g0_0 X_1 hlo hB) _ _ _ S_2 (Sep.ge (L := [boxO b0 [u0_0, (.int .i64 a0_1), (.int .u64 a0_2)]]) S_3 hlo hB) _ hx1) rfl rfl ⟨rfl, rfl, trivial⟩ Tryz.func33 rfl rfl) ?_
 rintro _ hp2 ⟨rfl, MT_2, T_2⟩
 have S_4 : Sep [some b0] h0.size hp1 ([boxO b0 [u0_0, (.int .i64 a0_1), (.int .u64 a0_2)]] ++ [boxO bb1 [(.int .i64 0), (.int .i64 0), (.bool false), (.slice none 0 0), (.slice none 0 0)]]) := Sep.sel S_1 [1, 0] (by decide)
 obtain ⟨X_2, S_5⟩ := Sep.turn X_1 S_4 MT_2 T_2
 refine RL.opD (by decide) (opv_add rfl rfl rfl) ?_
 refine RL.opD (by decide) (opv_move rfl rfl) ?_
 obtain ⟨x2, hx2, hp⟩ := Option.bind_eq_some_iff.1 hp
 have S_7 : Sep [some b0] h0.size hp2 [boxO b0 [u0_0, (.int .i64 x1.2.1), (.int .u64 x1.2.2)]] := Sep.sel S_5 [0] (by decide)
 have S_6 : Sep [some b0] hp2.size hp2 [boxO b0 [u0_0, (.int .i64 x1.2.1), (.int .u64 x1.2.2)]] := Sep.own S_7 _
 refine RL.op _ (by decide) (opv_call (cap := []) (spec_l00Src_one_ok _ lo (Nat.le_trans hlo (Mod.size X_2)) _ _ _ (SL.mod g0_0 X_2 hlo hB) _ _ _ S_6 (Sep.ge (L := [boxO b0 [u0_0, (.int .i64 x1.2.1), (.int .u64 x1.2.2)]]) S_7 hlo hB) _ hx2) rfl rfl ⟨rfl, rfl, trivial⟩ Tryz.func34 rfl rfl) ?_
 rintro _ hp3 ⟨rfl, MT_3, T_3⟩
 have S_8 : Sep [some b0] h0.size hp2 ([boxO b0 [u0_0, (.int .i64 x1.2.1), (.int .u64 x1.2.2)]] ++ [boxO bb1 [(.int .i64 0), (.int .i64 0), (.bool false), (.slice none 0 0), (.slice none 0 0)]]) := Sep.sel S_5 [0, 1] (by decide)
 obtain ⟨X_3, S_9⟩ := Sep.turn X_2 S_8 MT_3 T_3
 refine RL.opD (by decide) (opv_build (cs := [(.int .i64 (IntKind.wrap .i64 (3 + x1.1))), (.int .i64 0), (.bool x2.1), (.slice none 0 0), (.slice none 0 0)]) [(0, [(.int .i64 (IntKind.wrap .i64 (3 + x1.1)))]), (2, [(.bool x2.1)])] [(0, (.int .i64 (IntKind.wrap .i64 (3 + x1.1)))), (2, (.bool x2.1))] rfl Tryz.bd26 ⟨⟨rfl, rfl, rfl, cells1 rfl⟩, ⟨rfl, rfl, rfl, cells1 rfl⟩, trivial⟩ rfl) ?_
 refine RL.op _ (by decide) (opS_boxed (opv_alloc (cs := [(.int .i64 0), (.int .i64 0), (.bool false), (.slice none 0 0), (.slice none 0 0)]) rfl Tryz.zero26 rfl)) ?_
 rintro _ hp4 ⟨bb2, rfl, MT_4, T_4⟩
 obtain ⟨X_4, S_10⟩ := Sep.turn0 X_3 S_9 MT_4 T_4
 refine RL.op0 _ (opS_stored (cs := [(.int .i64 0), (.int .i64 0), (.bool false), (.slice none 0 0), (.slice none 0 0)]) (cs' := [(.int .i64 (IntKind.wrap .i64 (3 + x1.1))), (.int .i64 0), (.bool x2.1), (.slice none 0 0), (.slice none 0 0)]) (opv_storeA (us := [(.int .i64 (IntKind.wrap .i64 (3 + x1.1))), (.int .i64 0), (.bool x2.1), (.slice none 0 0), (.slice none 0 0)]) rfl Tryz.size26 rfl rfl (oneAll rfl (oneAll rfl (oneAll rfl (oneAll rfl (oneAll rfl rfl))))) (Sep.at (o := boxO bb2 [(.int .i64 0), (.int .i64 0), (.bool false), (.slice none 0 0), (.slice none 0 0)]) S_10 0 rfl) rfl rfl) (Sep.at (o := boxO bb2 [(.int .i64 0), (.int .i64 0), (.bool false), (.slice none 0 0), (.slice none 0 0)]) S_10 0 rfl)) ?_
 rintro _ hp5 ⟨rfl, MT_5, T_5⟩
 have S_11 : Sep [some b0] h0.size hp4 ([boxO bb2 [(.int .i64 0), (.int .i64 0), (.bool false), (.slice none 0 0), (.slice none 0 0)]] ++ [boxO b0 [u0_0, (.int .i64 x2.2.1), (.int .u64 x2.2.2)], boxO bb1 [(.int .i64 0), (.int .i64 0), (.bool false), (.slice none 0 0), (.slice none 0 0)]]) := Sep.sel S_10 [0, 1, 2] (by decide)
 obtain ⟨X_5, S_12⟩ := Sep.turn X_4 S_11 MT_5 T_5
 refine RL.nil ?_
 refine thnN ?_
 refine W.seq ?_
 refine W.region ?_
 refine RL.opD (by decide) (opv_move rfl rfl) ?_
 obtain ⟨x3, hx3, hp⟩ := Option.bind_eq_some_iff.1 hp
 have S_14 : Sep [some b0] h0.size hp5 [boxO b0 [u0_0, (.int .i64 x2.2.1), (.int .u64 x2.2.2)]] := Sep.sel S_12 [1] (by decide)
 have S_13 : Sep [some b0] hp5.size hp5 [boxO b0 [u0_0, (.int .i64 x2.2.1), (.int .u64 x2.2.2)]] := Sep.own S_14 _
 refine RL.op _ (by decide) (opv_call (cap := []) (spec_l00Src_pick_ok _ lo (Nat.le_trans hlo (Mod.size X_5)) _ _ _ (SL.mod g0_0 X_5 hlo hB) _ _ _ S_13 (Sep.ge (L := [boxO b0 [u0_0, (.int .i64 x2.2.1), (.int .u64 x2.2.2)]]) S_14 hlo hB) _ hx3) rfl rfl ⟨rfl, rfl, trivial⟩ Tryz.func33 rfl rfl) ?_
 rintro _ hp6 ⟨rfl, MT_6, T_6⟩
 have S_15 : Sep [some b0] h0.size hp5 ([boxO b0 [u0_0, (.int .i64 x2.2.1), (.int .u64 x2.2.2)]] ++ [boxO bb2 [(.int .i64 (IntKind.wrap .i64 (3 + x1.1))), (.int .i64 0), (.bool x2.1), (.slice none 0 0), (.slice none 0 0)], boxO bb1 [(.int .i64 0), (.int .i64 0), (.bool false), (.slice none 0 0), (.slice none 0 0)]]) := Sep.sel S_12 [1, 0, 2] (by decide)
 obtain ⟨X_6, S_16⟩ := Sep.turn X_5 S_15 MT_6 T_6
 refine RL.opD (by decide) (opv_add rfl rfl rfl) ?_
 refine RL.opD (by decide) (opv_fieldAddr rfl Tryz.fo26_1 rfl) ?_
 refine RL.op0 _ (opS_stored (cs := [(.int .i64 (IntKind.wrap .i64 (3 + x1.1))), (.int .i64 0), (.bool x2.1), (.slice none 0 0), (.slice none 0 0)]) (cs' := [(.int .i64 (IntKind.wrap .i64 (3 + x1.1))), (.int .i64 (IntKind.wrap .i64 (3 + x3.1))), (.bool x2.1), (.slice none 0 0), (.slice none 0 0)]) (opv_storeB (k := 1) (cs := [(.int .i64 (IntKind.wrap .i64 (3 + x1.1))), (.int .i64 0), (.bool x2.1), (.slice none 0 0), (.slice none 0 0)]) rfl Tryz.size2 rfl rfl rfl (Sep.at (o := boxO bb2 [(.int .i64 (IntKind.wrap .i64 (3 + x1.1))), (.int .i64 0), (.bool x2.1), (.slice none 0 0), (.slice none 0 0)]) S_16 1 rfl) (Nat.le_of_ble_eq_true rfl)) (Sep.at (o := boxO bb2 [(.int .i64 (IntKind.wrap .i64 (3 + x1.1))), (.int .i64 0), (.bool x2.1), (.slice none 0 0), (.slice none 0 0)]) S_16 1 rfl)) ?_
 rintro _ hp7 ⟨rfl, MT_7, T_7⟩
 have S_17 : Sep [some b0] h0.size hp6 ([boxO bb2 [(.int .i64 (IntKind.wrap .i64 (3 + x1.1))), (.int .i64 0), (.bool x2.1), (.slice none 0 0), (.slice none 0 0)]] ++ [boxO b0 [u0_0, (.int .i64 x3.2.1), (.int .u64 x3.2.2)], boxO bb1 [(.int .i64 0), (.int .i64 0), (.bool false), (.slice none 0 0), (.slice none 0 0)]]) := Sep.sel S_16 [1, 0, 2] (by decide)
 obtain ⟨X_7, S_18⟩ := Sep.turn X_6 S_17 MT_7 T_7
 refine RL.nil ?_
 refine thnN ?_
 refine W.seq ?_
 refine W.region ?_
 refine RL.opD (by decide) (opv_move rfl rfl) ?_
 obtain ⟨x4, hx4, hp⟩ := Option.bind_eq_some_iff.1 hp
 have S_20 : Sep [some b0] h0.size hp7 [boxO b0 [u0_0, (.int .i64 x3.2.1), (.int .u64 x3.2.2)]] := Sep.sel S_18 [1] (by decide)
 have S_19 : Sep [some b0] hp7.size hp7 [boxO b0 [u0_0, (.int .i64 x3.2.1), (.int .u64 x3.2.2)]] := Sep.own S_20 _
 refine RL.op _ (by decide) (opv_call (cap := []) (spec_l00Src_one_ok _ lo (Nat.le_trans hlo (Mod.size X_7)) _ _ _ (SL.mod g0_0 X_7 hlo hB) _ _ _ S_19 (Sep.ge (L := [boxO b0 [u0_0, (.int .i64 x3.2.1), (.int .u64 x3.2.2)]]) S_20 hlo hB) _ hx4) rfl rfl ⟨rfl, rfl, trivial⟩ Tryz.func34 rfl rfl) ?_
 rintro _ hp8 ⟨rfl, MT_8, T_8⟩
 have S_21 : Sep [some b0] h0.size hp7 ([boxO b0 [u0_0, (.int .i64 x3.2.1), (.int .u64 x3.2.2)]] ++ [boxO bb2 [(.int .i64 (IntKind.wrap .i64 (3 + x1.1))), (.int .i64 (IntKind.wrap .i64 (3 + x3.1))), (.bool x2.1), (.slice none 0 0), (.slice none 0 0)], boxO bb1 [(.int .i64 0), (.int .i64 0), (.bool false), (.slice none 0 0), (.slice none 0 0)]]) := Sep.sel S_18 [1, 0, 2] (by decide)
 obtain ⟨X_8, S_22⟩ := Sep.turn X_7 S_21 MT_8 T_8
 refine RL.opD (by decide) (opv_assign rfl rfl) ?_
 refine RL.nil ?_
 refine thnN ?_
 refine W.seq ?_
 refine W.seq ?_
 refine W.region ?_
 refine RL.opD (by decide) (opv_assign rfl rfl) ?_
 refine RL.nil ?_
 refine thnN ?_
 have S_23 : Sep [some b0] h0.size hp8 [ownO (kF .f32) 66 (.slice none 0 0) ([] : List (Option Nat)), boxO b0 [u0_0, (.int .i64 x4.2.1), (.int .u64 x4.2.2)], boxO bb2 [(.int .i64 (IntKind.wrap .i64 (3 + x1.1))), (.int .i64 (IntKind.wrap .i64 (3 + x3.1))), (.bool x2.1), (.slice none 0 0), (.slice none 0 0)], boxO bb1 [(.int .i64 0), (.int .i64 0), (.bool false), (.slice none 0 0), (.slice none 0 0)]] := Sep.addNil S_22
 have S_24 : Sep [some b0] h0.size hp8 [ownO (kF .f32) 66 (.slice none 0 0) ([] : List (Option Nat)), ownO (kF .f32) 66 (.slice none 0 0) ([] : List (Option Nat)), boxO b0 [u0_0, (.int .i64 x4.2.1), (.int .u64 x4.2.2)], boxO bb2 [(.int .i64 (IntKind.wrap .i64 (3 + x1.1))), (.int .i64 (IntKind.wrap .i64 (3 + x3.1))), (.bool x2.1), (.slice none 0 0), (.slice none 0 0)], boxO bb1 [(.int .i64 0), (.int .i64 0), (.bool false), (.slice none 0 0), (.slice none 0 0)]] := Sep.addNil S_23
 obtain ⟨y1, hy1, hp⟩ := Option.bind_eq_some_iff.1 hp
 refine W.cut (fun φ' h' => ∃ x10, ∃ x11, ∃ x12, ∃ x13, ∃ x14, ∃ x15, ∃ v3, ∃ v4, y1 = (x10, x11, x12, x13, x14, x15) ∧ Fr.sub [(0, (.pointer (some ⟨b0, 0, none⟩))), (2, (.pointer (some ⟨bb1, 0, none⟩))), (3, (.pointer (some ⟨bb2, 0, none⟩))), (4, (.bool x4.1)), (5, (.int .i64 x10)), (26, (.bool x11))] φ' ∧ Mod [some b0] h0 h' ∧ Sep [some b0] h0.size h' [boxO b0 [u0_0, (.int .i64 x12), (.int .u64 x13)], boxO bb2 [(.int .i64 (IntKind.wrap .i64 (3 + x1.1))), (.int .i64 (IntKind.wrap .i64 (3 + x3.1))), (.bool x2.1), v3, v4], boxO bb1 [(.int .i64 0), (.int .i64 0), (.bool false), (.slice none 0 0), (.slice none 0 0)], ownO (kF .f32) 66 v3 x14, ownO (kF .f32) 66 v4 x15]) ?_ ?_
 ·refine W.block ?_
  refine W.loopS (fun (s : (Int × Int × Int × (List (Option Nat)) × (List (Option Nat)))) φ' h' => ∃ v1, ∃ v2, Fr.sub [(0, (.pointer (some ⟨b0, 0, none⟩))), (2, (.pointer (some ⟨bb1, 0, none⟩))), (3, (.pointer (some ⟨bb2, 0, none⟩))), (4, (.bool x4.1)), (5, (.int .i64 s.1))] φ' ∧ Mod [some b0] h0 h' ∧ Sep [some b0] h0.size h' [ownO (kF .f32) 66 v2 s.2.2.2.2, ownO (kF .f32) 66 v1 s.2.2.2.1, boxO b0 [u0_0, (.int .i64 s.2.1), (.int .u64 s.2.2.1)], boxO bb2 [(.int .i64 (IntKind.wrap .i64 (3 + x1.1))), (.int .i64 (IntKind.wrap .i64 (3 + x3.1))), (.bool x2.1), v1, v2], boxO bb1 [(.int .i64 0), (.int .i64 0), (.bool false), (.slice none 0 0), (.slice none 0 0)]]) hy1 ⟨(.slice none 0 0), (.slice none 0 0), ⟨rfl, rfl, rfl, rfl, rfl, trivial⟩, X_8, (Sep.sel S_24 [0, 1, 2, 3, 4] (by decide))⟩ ?_
  rintro ⟨x5, x6, x7, x8, x9⟩ φ' hp9 o1 ⟨v1, v2, hs1, X_9, S_25⟩ ho1 hy1
  have hs1 : Fr.sub [(0, (.pointer (some ⟨b0, 0, none⟩))), (2, (.pointer (some ⟨bb1, 0, none⟩))), (3, (.pointer (some ⟨bb2, 0, none⟩))), (4, (.bool x4.1)), (5, (.int .i64 x5))] φ' := hs1
  have S_25 : Sep [some b0] h0.size hp9 [ownO (kF .f32) 66 v2 x9, ownO (kF .f32) 66 v1 x8, boxO b0 [u0_0, (.int .i64 x6), (.int .u64 x7)], boxO bb2 [(.int .i64 (IntKind.wrap .i64 (3 + x1.1))), (.int .i64 (IntKind.wrap .i64 (3 + x3.1))), (.bool x2.1), v1, v2], boxO bb1 [(.int .i64 0), (.int .i64 0), (.bool false), (.slice none 0 0), (.slice none 0 0)]] := S_25
  have ho1 : spec_l02DrawOk.s0 a0_0 x1 x3 x4 x5 x6 x7 x8 x9 = some o1 := ho1
  unfold spec_l02DrawOk.s0 at ho1
  refine W.sub hs1 ?_
  refine W.seq ?_
  refine W.seq ?_
  refine W.region ?_
  refine RL.opD (by decide) (opv_move rfl rfl) ?_
  refine RL.opD (by decide) (opv_fieldAddr rfl Tryz.fo26_0 rfl) ?_
  refine RL.opD (by decide) (opv_loadB rfl Tryz.one2 rfl (Sep.at (o := boxO bb2 [(.int .i64 (IntKind.wrap .i64 (3 + x1.1))), (.int .i64 (IntKind.wrap .i64 (3 + x3.1))), (.bool x2.1), v1, v2]) S_25 3 rfl) rfl) ?_
  refine RL.opD (by decide) (opv_fieldAddr rfl Tryz.fo26_1 rfl) ?_
  refine RL.opD (by decide) (opv_loadB rfl Tryz.one2 rfl (Sep.at (o := boxO bb2 [(.int .i64 (IntKind.wrap .i64 (3 + x1.1))), (.int .i64 (IntKind.wrap .i64 (3 + x3.1))), (.bool x2.1), v1, v2]) S_25 3 rfl) rfl) ?_
  refine RL.opD (by decide) (opv_mul rfl rfl rfl) ?_
  refine RL.opD (by decide) (opv_icmp rfl rfl rfl rfl) ?_
  refine RL.nil ?_
  refine thnN ?_
  by_cases c1 : (decide (x5 < (IntKind.wrap .i64 ((IntKind.wrap .i64 (3 + x1.1)) * (IntKind.wrap .i64 (3 + x3.1)))))) = true
  ·rw [if_pos c1] at ho1
   refine W.condT rfl c1 ?_
   refine W.skip ?_
   refine thnN ?_
   refine W.seq ?_
   refine W.block ?_
   refine W.seq ?_
   refine W.region ?_
   refine RL.opD (by decide) (opv_assign rfl rfl) ?_
   refine RL.nil ?_
   refine thnN ?_
   refine W.seq ?_
   refine W.region ?_
   refine RL.opD (by decide) (opv_assign rfl rfl) ?_
   refine RL.nil ?_
   refine thnN ?_
   refine W.seq ?_
   refine W.seq ?_
   refine W.region ?_
   refine RL.opD (by decide) (opv_move rfl rfl) ?_
   refine RL.opD (by decide) (opv_not rfl rfl) ?_
   refine RL.nil ?_
   refine thnN ?_
   obtain ⟨⟨x16, x17, x18, x19⟩, hy2, ho1⟩ := Option.bind_eq_some_iff.1 ho1
   try dsimp only at ho1
   refine W.cut (fun φ' h' => ∃ v5, ∃ v6, Fr.sub [(0, (.pointer (some ⟨b0, 0, none⟩))), (2, (.pointer (some ⟨bb1, 0, none⟩))), (3, (.pointer (some ⟨bb2, 0, none⟩))), (4, (.bool x4.1)), (5, (.int .i64 x5)), (26, (.bool (decide (x5 < (IntKind.wrap .i64 ((IntKind.wrap .i64 (3 + x1.1)) * (IntKind.wrap .i64 (3 + x3.1)))))))), (30, (.bool (!x4.1))), (6, v5), (7, v6)] φ' ∧ IsF .f32 v5 x16 ∧ IsF .f32 v6 x17 ∧ Mod [some b0] h0 h' ∧ Sep [some b0] h0.size h' [ownO (kF .f32) 66 v2 x9, ownO (kF .f32) 66 v1 x8, boxO b0 [u0_0, (.int .i64 x18), (.int .u64 x19)], boxO bb2 [(.int .i64 (IntKind.wrap .i64 (3 + x1.1))), (.int .i64 (IntKind.wrap .i64 (3 + x3.1))), (.bool x2.1), v1, v2], boxO bb1 [(.int .i64 0), (.int .i64 0), (.bool false), (.slice none 0 0), (.slice none 0 0)]]) ?_ ?_
   ·by_cases c2 : (!x4.1) = true
    ·rw [if_pos c2] at hy2
     refine W.condT rfl c2 ?_
     refine W.seq ?_
     refine W.region ?_
     refine RL.opD (by decide) (opv_move rfl rfl) ?_
     obtain ⟨x20, hx20, hy2⟩ := Option.bind_eq_some_iff.1 hy2
     have S_27 : Sep [some b0] h0.size hp9 [boxO b0 [u0_0, (.int .i64 x6), (.int .u64 x7)]] := Sep.sel S_25 [2] (by decide)
     have S_26 : Sep [some b0] hp9.size hp9 [boxO b0 [u0_0, (.int .i64 x6), (.int .u64 x7)]] := Sep.own S_27 _
     refine RL.op _ (by decide) (opv_call (cap := []) (spec_l00Src_pick_ok _ lo (Nat.le_trans hlo (Mod.size X_9)) _ _ _ (SL.mod g0_0 X_9 hlo hB) _ _ _ S_26 (Sep.ge (L := [boxO b0 [u0_0, (.int .i64 x6), (.int .u64 x7)]]) S_27 hlo hB) _ hx20) rfl rfl ⟨rfl, rfl, trivial⟩ Tryz.func33 rfl rfl) ?_
     rintro _ hp10 ⟨rfl, MT_9, T_9⟩
     have S_28 : Sep [some b0] h0.size hp9 ([boxO b0 [u0_0, (.int .i64 x6), (.int .u64 x7)]] ++ [ownO (kF .f32) 66 v2 x9, ownO (kF .f32) 66 v1 x8, boxO bb2 [(.int .i64 (IntKind.wrap .i64 (3 + x1.1))), (.int .i64 (IntKind.wrap .i64 (3 + x3.1))), (.bool x2.1), v1, v2], boxO bb1 [(.int .i64 0), (.int .i64 0), (.bool false), (.slice none 0 0), (.slice none 0 0)]]) := Sep.sel S_25 [2, 0, 1, 3, 4] (by decide)
     obtain ⟨X_10, S_29⟩ := Sep.turn X_9 S_28 MT_9 T_9
     refine RL.opF (by decide) (opv_i2f rfl (by rw [Tryz.underlying2]; rfl) Tryz.underlying66 rfl) ?_
     intro v7 fv7
     refine RL.opF (by decide) (opv_fop rfl rfl rfl rfl fv7 (isF_lit .f32 1098907648 (by decide) (by decide))) ?_
     intro v8 fv8
     refine RL.opD (by decide) (opv_assign rfl rfl) ?_
     refine RL.nil ?_
     refine thnN ?_
     refine W.seq ?_
     refine W.region ?_
     refine RL.opD (by decide) (opv_move rfl rfl) ?_
     obtain ⟨x21, hx21, hy2⟩ := Option.bind_eq_some_iff.1 hy2
     have S_31 : Sep [some b0] h0.size hp10 [boxO b0 [u0_0, (.int .i64 x20.2.1), (.int .u64 x20.2.2)]] := Sep.sel S_29 [0] (by decide)
     have S_30 : Sep [some b0] hp10.size hp10 [boxO b0 [u0_0, (.int .i64 x20.2.1), (.int .u64 x20.2.2)]] := Sep.own S_31 _
     refine RL.op _ (by decide) (opv_call (cap := []) (spec_l00Src_one_ok _ lo (Nat.le_trans hlo (Mod.size X_10)) _ _ _ (SL.mod g0_0 X_10 hlo hB) _ _ _ S_30 (Sep.ge (L := [boxO b0 [u0_0, (.int .i64 x20.2.1), (.int .u64 x20.2.2)]]) S_31 hlo hB) _ hx21) rfl rfl ⟨rfl, rfl, trivial⟩ Tryz.func34 rfl rfl) ?_
     rintro _ hp11 ⟨rfl, MT_10, T_10⟩
     have S_32 : Sep [some b0] h0.size hp10 ([boxO b0 [u0_0, (.int .i64 x20.2.1), (.int .u64 x20.2.2)]] ++ [ownO (kF .f32) 66 v2 x9, ownO (kF .f32) 66 v1 x8, boxO bb2 [(.int .i64 (IntKind.wrap .i64 (3 + x1.1))), (.int .i64 (IntKind.wrap .i64 (3 + x3.1))), (.bool x2.1), v1, v2], boxO bb1 [(.int .i64 0), (.int .i64 0), (.bool false), (.slice none 0 0), (.slice none 0 0)]]) := Sep.sel S_29 [0, 1, 2, 3, 4] (by decide)
     obtain ⟨X_11, S_33⟩ := Sep.turn X_10 S_32 MT_10 T_10
     refine RL.nil ?_
     refine thnN ?_
     obtain ⟨⟨x22, x23, x24⟩, hy3, hy2⟩ := Option.bind_eq_some_iff.1 hy2
     try dsimp only at hy2
     refine W.cut (fun φ' h' => ∃ v9, Fr.sub [(0, (.pointer (some ⟨b0, 0, none⟩))), (2, (.pointer (some ⟨bb1, 0, none⟩))), (3, (.pointer (some ⟨bb2, 0, none⟩))), (4, (.bool x4.1)), (5, (.int .i64 x5)), (26, (.bool (decide (x5 < (IntKind.wrap .i64 ((IntKind.wrap .i64 (3 + x1.1)) * (IntKind.wrap .i64 (3 + x3.1)))))))), (6, v8), (30, (.bool (!x4.1))), (36, (.bool x21.1)), (7, v9)] φ' ∧ IsF .f32 v9 x22 ∧ Mod [some b0] h0 h' ∧ Sep [some b0] h0.size h' [boxO b0 [u0_0, (.int .i64 x23), (.int .u64 x24)], ownO (kF .f32) 66 v2 x9, ownO (kF .f32) 66 v1 x8, boxO bb2 [(.int .i64 (IntKind.wrap .i64 (3 + x1.1))), (.int .i64 (IntKind.wrap .i64 (3 + x3.1))), (.bool x2.1), v1, v2], boxO bb1 [(.int .i64 0), (.int .i64 0), (.bool false), (.slice none 0 0), (.slice none 0 0)]]) ?_ ?_
     ·by_cases c3 : x21.1 = true
      ·rw [if_pos c3] at hy3
       refine W.condT rfl c3 ?_
       refine W.region ?_
       refine RL.opD (by decide) (opv_move rfl rfl) ?_
       obtain ⟨x25, hx25, hy3⟩ := Option.bind_eq_some_iff.1 hy3
       have S_35 : Sep [some b0] h0.size hp11 [boxO b0 [u0_0, (.int .i64 x21.2.1), (.int .u64 x21.2.2)]] := Sep.sel S_33 [0] (by decide)
       have S_34 : Sep [some b0] hp11.size hp11 [boxO b0 [u0_0, (.int .i64 x21.2.1), (.int .u64 x21.2.2)]] := Sep.own S_35 _
       refine RL.op _ (by decide) (opv_call (cap := []) (spec_l00Src_pick_ok _ lo (Nat.le_trans hlo (Mod.size X_11)) _ _ _ (SL.mod g0_0 X_11 hlo hB) _ _ _ S_34 (Sep.ge (L := [boxO b0 [u0_0, (.int .i64 x21.2.1), (.int .u64 x21.2.2)]]) S_35 hlo hB) _ hx25) rfl rfl ⟨rfl, rfl, trivial⟩ Tryz.func33 rfl rfl) ?_
       rintro _ hp12 ⟨rfl, MT_11, T_11⟩
       have S_36 : Sep [some b0] h0.size hp11 ([boxO b0 [u0_0, (.int .i64 x21.2.1), (.int .u64 x21.2.2)]] ++ [ownO (kF .f32) 66 v2 x9, ownO (kF .f32) 66 v1 x8, boxO bb2 [(.int .i64 (IntKind.wrap .i64 (3 + x1.1))), (.int .i64 (IntKind.wrap .i64 (3 + x3.1))), (.bool x2.1), v1, v2], boxO bb1 [(.int .i64 0), (.int .i64 0), (.bool false), (.slice none 0 0), (.slice none 0 0)]]) := Sep.sel S_33 [0, 1, 2, 3, 4] (by decide)
       obtain ⟨X_12, S_37⟩ := Sep.turn X_11 S_36 MT_11 T_11
       refine RL.opF (by decide) (opv_i2f rfl (by rw [Tryz.underlying2]; rfl) Tryz.underlying66 rfl) ?_
       intro v10 fv10
       refine RL.opF (by decide) (opv_fop rfl rfl rfl rfl fv10 (isF_lit .f32 1090519040 (by decide) (by decide))) ?_
       intro v11 fv11
       refine RL.opD (by decide) (opv_assign rfl rfl) ?_
       refine RL.nil ?_
       have ey3 := Option.some.inj hy3
       simp only [Prod.mk.injEq] at ey3
       obtain ⟨rfl, rfl, rfl⟩ := ey3
       refine onlyN ?_
       exact ⟨v11, ⟨rfl, rfl, rfl, rfl, rfl, rfl, rfl, rfl, rfl, rfl, trivial⟩, fv11, X_12, (Sep.sel S_37 [0, 1, 2, 3, 4] (by decide))⟩
      ·rw [if_neg c3] at hy3
       have c3 := eq_false_of_ne_true c3
       refine W.condF rfl c3 ?_
       refine W.skip ?_
       have ey3 := Option.some.inj hy3
       simp only [Prod.mk.injEq] at ey3
       obtain ⟨rfl, rfl, rfl⟩ := ey3
       refine onlyN ?_
       exact ⟨(.float .f32 0), ⟨rfl, rfl, rfl, rfl, rfl, rfl, rfl, rfl, rfl, rfl, trivial⟩, (isF_lit .f32 0 (by decide) (by decide)), X_11, (Sep.sel S_33 [0, 1, 2, 3, 4] (by decide))⟩
     rintro φ' hp13 ⟨v9, hs4, fv9, X_13, S_38⟩
     have ey2 := Option.some.inj hy2
     simp only [Prod.mk.injEq] at ey2
     obtain ⟨rfl, rfl, rfl, rfl⟩ := ey2
     refine onlyN ?_
     exact ⟨v8, v9, (Fr.sub_trans ⟨rfl, rfl, rfl, rfl, rfl, rfl, rfl, rfl, rfl, trivial⟩ hs4), fv8, fv9, X_13, (Sep.sel S_38 [1, 2, 0, 3, 4] (by decide))⟩
    ·rw [if_neg c2] at hy2
     have c2 := eq_false_of_ne_true c2
     refine W.condF rfl c2 ?_
     refine W.skip ?_
     have ey2 := Option.some.inj hy2
     simp only [Prod.mk.injEq] at ey2
     obtain ⟨rfl, rfl, rfl, rfl⟩ := ey2
     refine onlyN ?_
     exact ⟨(.float .f32 1056964608), (.float .f32 0), ⟨rfl, rfl, rfl, rfl, rfl, rfl, rfl, rfl, rfl, trivial⟩, (isF_lit .f32 1056964608 (by decide) (by decide)), (isF_lit .f32 0 (by decide) (by decide)), X_9, (Sep.sel S_25 [0, 1, 2, 3, 4] (by decide))⟩
   rintro φ' hp14 ⟨v5, v6, hs3, fv5, fv6, X_14, S_39⟩
   refine thnN ?_
   refine W.sub hs3 ?_
   refine W.seq ?_
   refine W.region ?_
   refine RL.opD (by decide) (opv_fieldAddr rfl Tryz.fo26_3 rfl) ?_
   refine RL.opD (by decide) (opv_loadB rfl Tryz.one24 rfl (Sep.at (o := boxO bb2 [(.int .i64 (IntKind.wrap .i64 (3 + x1.1))), (.int .i64 (IntKind.wrap .i64 (3 + x3.1))), (.bool x2.1), v1, v2]) S_39 3 rfl) rfl) ?_
   refine RL.opD (by decide) (opv_move rfl rfl) ?_
   refine RL.op _ (by decide) (opS_lit1 (K := (kF .f32)) (z := x16) rfl Tryz.underlying24 Tryz.einfo66 rfl rfl rfl rfl ⟨_, rfl, fv5⟩) ?_
   rintro v12 hp15 ⟨MT_12, T_12⟩
   obtain ⟨X_15, S_40⟩ := Sep.turn0 X_14 S_39 MT_12 T_12
   obtain ⟨c4, ho1⟩ := of_ite ho1
   refine RL.op _ (by decide) (opS_append (K := (kF .f32)) rfl Tryz.underlying24 Tryz.einfo66 rfl rfl rfl rfl (Sep.at (o := ownO (kF .f32) 66 v1 x8) S_40 2 rfl) (ownO.read (Sep.at (o := ownO (kF .f32) 66 v12 [x16]) S_40 0 rfl)) (by decide) (by decide) c4) ?_
   rintro v13 hp16 ⟨MT_13, T_13⟩
   have S_41 : Sep [some b0] h0.size hp15 ([ownO (kF .f32) 66 v1 x8] ++ [ownO (kF .f32) 66 v12 [x16], ownO (kF .f32) 66 v2 x9, boxO b0 [u0_0, (.int .i64 x18), (.int .u64 x19)], boxO bb2 [(.int .i64 (IntKind.wrap .i64 (3 + x1.1))), (.int .i64 (IntKind.wrap .i64 (3 + x3.1))), (.bool x2.1), v1, v2], boxO bb1 [(.int .i64 0), (.int .i64 0), (.bool false), (.slice none 0 0), (.slice none 0 0)]]) := Sep.sel S_40 [2, 0, 1, 3, 4, 5] (by decide)
   obtain ⟨X_16, S_42⟩ := Sep.turn X_15 S_41 MT_13 T_13
   refine RL.opD (by decide) (opv_fieldAddr rfl Tryz.fo26_3 rfl) ?_
   refine RL.op0 _ (opS_stored (cs := [(.int .i64 (IntKind.wrap .i64 (3 + x1.1))), (.int .i64 (IntKind.wrap .i64 (3 + x3.1))), (.bool x2.1), v1, v2]) (cs' := [(.int .i64 (IntKind.wrap .i64 (3 + x1.1))), (.int .i64 (IntKind.wrap .i64 (3 + x3.1))), (.bool x2.1), v13, v2]) (opv_storeB (k := 3) (cs := [(.int .i64 (IntKind.wrap .i64 (3 + x1.1))), (.int .i64 (IntKind.wrap .i64 (3 + x3.1))), (.bool x2.1), v1, v2]) rfl Tryz.size24 rfl rfl (ownO.one (Sep.at (o := ownO (kF .f32) 66 v13 (x8 ++ [x16])) S_42 0 rfl)) (Sep.at (o := boxO bb2 [(.int .i64 (IntKind.wrap .i64 (3 + x1.1))), (.int .i64 (IntKind.wrap .i64 (3 + x3.1))), (.bool x2.1), v1, v2]) S_42 4 rfl) (Nat.le_of_ble_eq_true rfl)) (Sep.at (o := boxO bb2 [(.int .i64 (IntKind.wrap .i64 (3 + x1.1))), (.int .i64 (IntKind.wrap .i64 (3 + x3.1))), (.bool x2.1), v1, v2]) S_42 4 rfl)) ?_
   rintro _ hp17 ⟨rfl, MT_14, T_14⟩
   have S_43 : Sep [some b0] h0.size hp16 ([boxO bb2 [(.int .i64 (IntKind.wrap .i64 (3 + x1.1))), (.int .i64 (IntKind.wrap .i64 (3 + x3.1))), (.bool x2.1), v1, v2]] ++ [ownO (kF .f32) 66 v13 (x8 ++ [x16]), ownO (kF .f32) 66 v12 [x16], ownO (kF .f32) 66 v2 x9, boxO b0 [u0_0, (.int .i64 x18), (.int .u64 x19)], boxO bb1 [(.int .i64 0), (.int .i64 0), (.bool false), (.slice none 0 0), (.slice none 0 0)]]) := Sep.sel S_42 [4, 0, 1, 2, 3, 5] (by decide)
   obtain ⟨X_17, S_44⟩ := Sep.turn X_16 S_43 MT_14 T_14
   refine RL.nil ?_
   refine thnN ?_
   refine W.region ?_
   refine RL.opD (by decide) (opv_fieldAddr rfl Tryz.fo26_4 rfl) ?_
   refine RL.opD (by decide) (opv_loadB rfl Tryz.one24 rfl (Sep.at (o := boxO bb2 [(.int .i64 (IntKind.wrap .i64 (3 + x1.1))), (.int .i64 (IntKind.wrap .i64 (3 + x3.1))), (.bool x2.1), v13, v2]) S_44 0 rfl) rfl) ?_
   refine RL.opD (by decide) (opv_move rfl rfl) ?_
   refine RL.op _ (by decide) (opS_lit1 (K := (kF .f32)) (z := x17) rfl Tryz.underlying24 Tryz.einfo66 rfl rfl rfl rfl ⟨_, rfl, fv6⟩) ?_
   rintro v14 hp18 ⟨MT_15, T_15⟩
   obtain ⟨X_18, S_45⟩ := Sep.turn0 X_17 S_44 MT_15 T_15
   obtain ⟨c5, ho1⟩ := of_ite ho1
   refine RL.op _ (by decide) (opS_append (K := (kF .f32)) rfl Tryz.underlying24 Tryz.einfo66 rfl rfl rfl rfl (Sep.at (o := ownO (kF .f32) 66 v2 x9) S_45 4 rfl) (ownO.read (Sep.at (o := ownO (kF .f32) 66 v14 [x17]) S_45 0 rfl)) (by decide) (by decide) c5) ?_
   rintro v15 hp19 ⟨MT_16, T_16⟩
   have S_46 : Sep [some b0] h0.size hp18 ([ownO (kF .f32) 66 v2 x9] ++ [ownO (kF .f32) 66 v14 [x17], boxO bb2 [(.int .i64 (IntKind.wrap .i64 (3 + x1.1))), (.int .i64 (IntKind.wrap .i64 (3 + x3.1))), (.bool x2.1), v13, v2], ownO (kF .f32) 66 v13 (x8 ++ [x16]), ownO (kF .f32) 66 v12 [x16], boxO b0 [u0_0, (.int .i64 x18), (.int .u64 x19)], boxO bb1 [(.int .i64 0), (.int .i64 0), (.bool false), (.slice none 0 0), (.slice none 0 0)]]) := Sep.sel S_45 [4, 0, 1, 2, 3, 5, 6] (by decide)
   obtain ⟨X_19, S_47⟩ := Sep.turn X_18 S_46 MT_16 T_16
   refine RL.opD (by decide) (opv_fieldAddr rfl Tryz.fo26_4 rfl) ?_
   refine RL.op0 _ (opS_stored (cs := [(.int .i64 (IntKind.wrap .i64 (3 + x1.1))), (.int .i64 (IntKind.wrap .i64 (3 + x3.1))), (.bool x2.1), v13, v2]) (cs' := [(.int .i64 (IntKind.wrap .i64 (3 + x1.1))), (.int .i64 (IntKind.wrap .i64 (3 + x3.1))), (.bool x2.1), v13, v15]) (opv_storeB (k := 4) (cs := [(.int .i64 (IntKind.wrap .i64 (3 + x1.1))), (.int .i64 (IntKind.wrap .i64 (3 + x3.1))), (.bool x2.1), v13, v2]) rfl Tryz.size24 rfl rfl (ownO.one (Sep.at (o := ownO (kF .f32) 66 v15 (x9 ++ [x17])) S_47 0 rfl)) (Sep.at (o := boxO bb2 [(.int .i64 (IntKind.wrap .i64 (3 + x1.1))), (.int .i64 (IntKind.wrap .i64 (3 + x3.1))), (.bool x2.1), v13, v2]) S_47 2 rfl) (Nat.le_of_ble_eq_true rfl)) (Sep.at (o := boxO bb2 [(.int .i64 (IntKind.wrap .i64 (3 + x1.1))), (.int .i64 (IntKind.wrap .i64 (3 + x3.1))), (.bool x2.1), v13, v2]) S_47 2 rfl)) ?_
   rintro _ hp20 ⟨rfl, MT_17, T_17⟩
   have S_48 : Sep [some b0] h0.size hp19 ([boxO bb2 [(.int .i64 (IntKind.wrap .i64 (3 + x1.1))), (.int .i64 (IntKind.wrap .i64 (3 + x3.1))), (.bool x2.1), v13, v2]] ++ [ownO (kF .f32) 66 v15 (x9 ++ [x17]), ownO (kF .f32) 66 v14 [x17], ownO (kF .f32) 66 v13 (x8 ++ [x16]), ownO (kF .f32) 66 v12 [x16], boxO b0 [u0_0, (.int .i64 x18), (.int .u64 x19)], boxO bb1 [(.int .i64 0), (.int .i64 0), (.bool false), (.slice none 0 0), (.slice none 0 0)]]) := Sep.sel S_47 [2, 0, 1, 3, 4, 5, 6] (by decide)
   obtain ⟨X_20, S_49⟩ := Sep.turn X_19 S_48 MT_17 T_17
   refine RL.nil ?_
   refine blkN ?_
   refine thnN ?_
   refine W.region ?_
   refine RL.opD (by decide) (opv_move rfl rfl) ?_
   refine RL.opD (by decide) (opv_add rfl rfl rfl) ?_
   refine RL.opD (by decide) (opv_assign rfl rfl) ?_
   refine RL.nil ?_
   have eo1 := Option.some.inj ho1
   subst eo1
   refine rndN (s' := (IntKind.wrap .i64 (x5 + 1), x18, x19, x8 ++ [x16], x9 ++ [x17])) rfl ?_
   exact ⟨v13, v15, ⟨rfl, rfl, rfl, rfl, rfl, trivial⟩, X_20, (Sep.sel S_49 [1, 3, 5, 0, 6] (by decide))⟩
  ·rw [if_neg c1] at ho1
   have c1 := eq_false_of_ne_true c1
   refine W.condF rfl c1 ?_
   refine W.exit ?_
   refine thnX ?_
   refine rndX ?_
   refine blkI ?_
   have eo1 := Option.some.inj ho1
   subst eo1
   have ey1 := hy1 _ rfl
   subst ey1
   refine onlyN ?_
   exact ⟨x5, decide (x5 < (IntKind.wrap .i64 ((IntKind.wrap .i64 (3 + x1.1)) * (IntKind.wrap .i64 (3 + x3.1))))), x6, x7, x8, x9, v1, v2, rfl, ⟨rfl, rfl, rfl, rfl, rfl, rfl, trivial⟩, X_9, (Sep.sel S_25 [2, 3, 4, 1, 0] (by decide))⟩
 rintro φ' hp21 ⟨x10, x11, x12, x13, x14, x15, v3, v4, rfl, hs2, X_21, S_50⟩
 try dsimp only at hp
 refine thnN ?_
 refine W.sub hs2 ?_
 refine W.seq ?_
 refine W.region ?_
 refine RL.opD (by decide) (opv_loadA (us := [(.int .i64 (IntKind.wrap .i64 (3 + x1.1))), (.int .i64 (IntKind.wrap .i64 (3 + x3.1))), (.bool x2.1), v3, v4]) rfl Tryz.agg26 Tryz.size26 rfl (Sep.at (o := boxO bb2 [(.int .i64 (IntKind.wrap .i64 (3 + x1.1))), (.int .i64 (IntKind.wrap .i64 (3 + x3.1))), (.bool x2.1), v3, v4]) S_50 1 rfl) rfl rfl) ?_
 refine RL.op0 _ (opS_stored (cs := [(.int .i64 0), (.int .i64 0), (.bool false), (.slice none 0 0), (.slice none 0 0)]) (cs' := [(.int .i64 (IntKind.wrap .i64 (3 + x1.1))), (.int .i64 (IntKind.wrap .i64 (3 + x3.1))), (.bool x2.1), v3, v4]) (opv_storeA (us := [(.int .i64 (IntKind.wrap .i64 (3 + x1.1))), (.int .i64 (IntKind.wrap .i64 (3 + x3.1))), (.bool x2.1), v3, v4]) rfl Tryz.size26 rfl rfl (oneAll rfl (oneAll rfl (oneAll rfl (oneAll (ownO.one (Sep.at (o := ownO (kF .f32) 66 v3 x14) S_50 3 rfl)) (oneAll (ownO.one (Sep.at (o := ownO (kF .f32) 66 v4 x15) S_50 4 rfl)) rfl))))) (Sep.at (o := boxO bb1 [(.int .i64 0), (.int .i64 0), (.bool false), (.slice none 0 0), (.slice none 0 0)]) S_50 2 rfl) rfl rfl) (Sep.at (o := boxO bb1 [(.int .i64 0), (.int .i64 0), (.bool false), (.slice none 0 0), (.slice none 0 0)]) S_50 2 rfl)) ?_
 rintro _ hp22 ⟨rfl, MT_18, T_18⟩
 have S_51 : Sep [some b0] h0.size hp21 ([boxO bb1 [(.int .i64 0), (.int .i64 0), (.bool false), (.slice none 0 0), (.slice none 0 0)]] ++ [boxO b0 [u0_0, (.int .i64 x12), (.int .u64 x13)], boxO bb2 [(.int .i64 (IntKind.wrap .i64 (3 + x1.1))), (.int .i64 (IntKind.wrap .i64 (3 + x3.1))), (.bool x2.1), v3, v4], ownO (kF .f32) 66 v3 x14, ownO (kF .f32) 66 v4 x15]) := Sep.sel S_50 [2, 0, 1, 3, 4] (by decide)
 obtain ⟨X_22, S_52⟩ := Sep.turn X_21 S_51 MT_18 T_18
 refine RL.nil ?_
 refine thnN ?_
 refine W.ret ?_
 have er := Option.some.inj hp
 subst er
 exact Rt.cell1 rfl rfl Tryz.agg26 Tryz.size26 (Sep.at (o := boxO bb1 [(.int .i64 (IntKind.wrap .i64 (3 + x1.1))), (.int .i64 (IntKind.wrap .i64 (3 + x3.1))), (.bool x2.1), v3, v4]) S_52 0 rfl) rfl ⟨v3, v4, rfl, X_22, (Sep.sel S_52 [3, 4, 1] (by decide))⟩

set_option maxRecDepth 20000 in
theorem spec_B10Sheet_ok (h0 : Heap) (u0 : Value) (a0 : List (Int)) (g0 : SL (kI .u8) h0.size h0 u0 a0) (r : (Int × Int × Bool × (List (Option Nat)) × (List (Option Nat)))) (hp : spec_B10Sheet a0 = some r) : CallsH Tryz.prog 5 ([u0].toArray ++ [].toArray) h0 (fun v h' => ∃ w3, ∃ w4, v = (.agg (List.toArray (α := Value) [(.int .i64 r.1), (.int .i64 r.2.1), (.bool r.2.2.1), w3, w4])) ∧ Mod [] h0 h' ∧ Sep [] h0.size h' [ownO (kF .f32) 66 w3 r.2.2.2.1, ownO (kF .f32) 66 w4 r.2.2.2.2]) := by
 unfold spec_B10Sheet at hp
 refine callsH_of_W (l := [u0]) (cap := []) 8 Tryz.func5 rfl rfl rfl ?_
 refine W.seq ?_
 refine W.region ?_
 refine RL.op _ (by decide) (opS_boxed (opv_alloc (cs := [(.int .i64 0), (.int .i64 0), (.bool false), (.slice none 0 0), (.slice none 0 0)]) rfl Tryz.zero26 rfl)) ?_
 rintro _ hp1 ⟨bb1, rfl, MT_1, T_1⟩
 obtain ⟨X_1, S_1⟩ := Sep.turn0 (Mod.refl [] h0) (Sep.nil [] h0.size h0) MT_1 T_1
 refine RL.nil ?_
 refine thnN ?_
 refine W.seq ?_
 refine W.region ?_
 refine RL.opD (by decide) (opv_move rfl rfl) ?_
 obtain ⟨x1, hx1, hp⟩ := Option.bind_eq_some_iff.1 hp
 refine RL.op _ (by decide) (opv_call (cap := []) (spec_l00From_ok _ _ _ (SL.up (SL.mod g0 X_1 (Nat.le_refl _) nob) (Nat.le_trans (Nat.le_refl _) (Mod.size X_1))) _ hx1) rfl rfl ⟨rfl, trivial⟩ Tryz.func15 rfl rfl) ?_
 rintro _ hp2 ⟨v1, rfl, MT_2, T_2⟩
 obtain ⟨X_2, S_2⟩ := Sep.turn0 X_1 S_1 MT_2 T_2
 refine RL.opD (by decide) (opv_assign rfl rfl) ?_
 refine RL.nil ?_
 refine thnN ?_
 refine W.seq ?_
 refine W.region ?_
 refine RL.opD (by decide) (opv_move rfl rfl) ?_
 obtain ⟨x2, hx2, hp⟩ := Option.bind_eq_some_iff.1 hp
 have S_4 : Sep [] h0.size hp2 [boxO v1 [u0, (.int .i64 x1.1), (.int .u64 x1.2)]] := Sep.sel S_2 [0] (by decide)
 have S_3 : Sep [some v1] hp2.size hp2 [boxO v1 [u0, (.int .i64 x1.1), (.int .u64 x1.2)]] := Sep.own S_4 _
 refine RL.op _ (by decide) (opv_call (cap := []) (spec_l02DrawOk_ok _ h0.size (Nat.le_trans (Nat.le_refl _) (Mod.size X_2)) _ _ _ (SL.mod g0 X_2 (Nat.le_refl _) nob) _ _ S_3 (Sep.ge (L := [boxO v1 [u0, (.int .i64 x1.1), (.int .u64 x1.2)]]) S_4 (Nat.le_refl _) nob) _ hx2) rfl rfl ⟨rfl, trivial⟩ Tryz.func16 rfl rfl) ?_
 rintro _ hp3 ⟨v2, v3, rfl, MT_3, T_3⟩
 have S_5 : Sep [] h0.size hp2 ([boxO v1 [u0, (.int .i64 x1.1), (.int .u64 x1.2)]] ++ [boxO bb1 [(.int .i64 0), (.int .i64 0), (.bool false), (.slice none 0 0), (.slice none 0 0)]]) := Sep.sel S_2 [0, 1] (by decide)
 obtain ⟨X_3, S_6⟩ := Sep.turn X_2 S_5 MT_3 T_3
 refine RL.op0 _ (opS_stored (cs := [(.int .i64 0), (.int .i64 0), (.bool false), (.slice none 0 0), (.slice none 0 0)]) (cs' := [(.int .i64 x2.1), (.int .i64 x2.2.1), (.bool x2.2.2.1), v2, v3]) (opv_storeA (us := [(.int .i64 x2.1), (.int .i64 x2.2.1), (.bool x2.2.2.1), v2, v3]) rfl Tryz.size26 rfl rfl (oneAll rfl (oneAll rfl (oneAll rfl (oneAll (ownO.one (Sep.at (o := ownO (kF .f32) 66 v2 x2.2.2.2.1) S_6 0 rfl)) (oneAll (ownO.one (Sep.at (o := ownO (kF .f32) 66 v3 x2.2.2.2.2.1) S_6 1 rfl)) rfl))))) (Sep.at (o := boxO bb1 [(.int .i64 0), (.int .i64 0), (.bool false), (.slice none 0 0), (.slice none 0 0)]) S_6 3 rfl) rfl rfl) (Sep.at (o := boxO bb1 [(.int .i64 0), (.int .i64 0), (.bool false), (.slice none 0 0), (.slice none 0 0)]) S_6 3 rfl)) ?_
 rintro _ hp4 ⟨rfl, MT_4, T_4⟩
 have S_7 : Sep [] h0.size hp3 ([boxO bb1 [(.int .i64 0), (.int .i64 0), (.bool false), (.slice none 0 0), (.slice none 0 0)]] ++ [ownO (kF .f32) 66 v2 x2.2.2.2.1, ownO (kF .f32) 66 v3 x2.2.2.2.2.1, boxO v1 [u0, (.int .i64 x2.2.2.2.2.2.1), (.int .u64 x2.2.2.2.2.2.2)]]) := Sep.sel S_6 [3, 0, 1, 2] (by decide)
 obtain ⟨X_4, S_8⟩ := Sep.turn X_3 S_7 MT_4 T_4
 refine RL.nil ?_
 refine thnN ?_
 refine W.ret ?_
 have er := Option.some.inj hp
 subst er
 exact Rt.cell1 rfl rfl Tryz.agg26 Tryz.size26 (Sep.at (o := boxO bb1 [(.int .i64 x2.1), (.int .i64 x2.2.1), (.bool x2.2.2.1), v2, v3]) S_8 0 rfl) rfl ⟨v2, v3, rfl, X_4, (Sep.sel S_8 [1, 2] (by decide))⟩

set_option maxRecDepth 20000 in
theorem spec_l02Zero_ok (h0 : Heap) (a0 : Int) (r : ((List (Option Nat)) × (List (Option Nat)) × (List (Option Nat)))) (hp : spec_l02Zero a0 = some r) : CallsH Tryz.prog 37 ([(.int .i64 a0)].toArray ++ [].toArray) h0 (fun v h' => ∃ w0, ∃ w1, ∃ w2, v = (.agg (List.toArray (α := Value) [w0, w1, w2])) ∧ Mod [] h0 h' ∧ Sep [] h0.size h' [ownO (kF .f32) 66 w0 r.1, ownO (kF .f32) 66 w1 r.2.1, ownO (kF .f32) 66 w2 r.2.2]) := by
 unfold spec_l02Zero at hp
 refine callsH_of_W (l := [(.int .i64 a0)]) (cap := []) 10 Tryz.func37 rfl rfl rfl ?_
 refine W.seq ?_
 refine W.region ?_
 refine RL.op _ (by decide) (opS_boxed (opv_alloc (cs := [(.slice none 0 0), (.slice none 0 0), (.slice none 0 0)]) rfl Tryz.zero29 rfl)) ?_
 rintro _ hp1 ⟨bb1, rfl, MT_1, T_1⟩
 obtain ⟨X_1, S_1⟩ := Sep.turn0 (Mod.refl [] h0) (Sep.nil [] h0.size h0) MT_1 T_1
 refine RL.nil ?_
 refine thnN ?_
 refine W.seq ?_
 obtain ⟨c1, hp⟩ := of_ite hp
 obtain ⟨c2, hp⟩ := of_ite hp
 obtain ⟨c3, hp⟩ := of_ite hp
 refine W.sub (ψ := [(0, (.int .i64 a0)), (2, (.pointer (some ⟨bb1, 0, none⟩)))]) ⟨rfl, rfl, trivial⟩ ?_
 refine W.regionM [fun v _ => @Eq Value (.int .i64 a0) v, fun v h => Sep [] hp1.size h [ownO (kF .f32) 66 v (List.replicate (Int.toNat a0) (some 0))], fun v _ => @Eq Value (.int .i64 a0) v, fun v h => Sep [] hp1.size h [ownO (kF .f32) 66 v (List.replicate (Int.toNat a0) (some 0))], fun v _ => @Eq Value (.int .i64 a0) v, fun v h => Sep [] hp1.size h [ownO (kF .f32) 66 v (List.replicate (Int.toNat a0) (some 0))]] [none, some (fun u => [u.ownBlock]), none, some (fun u => [u.ownBlock]), none, some (fun u => [u.ownBlock])] [] [[], [0], [], [2], [], [4]] [1, 3, 5] Tryz.mixed (by decide +kernel) (by decide +kernel) rfl rfl rfl (by decide +kernel) rfl ⟨fun _ _ _ h _ => h, fun _ _ _ h x => h.ext x, fun _ _ _ h _ => h, fun _ _ _ h x => h.ext x, fun _ _ _ h _ => h, fun _ _ _ h x => h.ext x, trivial⟩ ?_ ?_
 ·refine ⟨⟨rfl, ?_⟩, ⟨rfl, ?_⟩, ⟨rfl, ?_⟩, ⟨rfl, ?_⟩, ⟨rfl, ?_⟩, ⟨rfl, ?_⟩, trivial⟩
  ·rintro hp6 E_1
   refine Dep.nil ?_
   refine GuardOK.none rfl ?_
   exact OpV.toDx (opv_move rfl rfl) rfl
  ·rintro hp7 E_2 _ rfl
   refine Dep.nil ?_
   refine GuardOK.none rfl ?_
   exact OpV.mono (opS_make (K := (kF .f32)) (zx := (some 0)) rfl Tryz.underlying24 Tryz.einfo66 rfl rfl ⟨_, rfl, (isF_lit .f32 0 (by decide) (by decide))⟩ rfl rfl (by decide) c1) (by rintro _ _ ⟨M_, T_⟩; exact ⟨Mod.ext M_, Sep.weak T_ (Ext.size E_2), Sep.fresh T_⟩)
  ·rintro hp8 E_3
   refine Dep.nil ?_
   refine GuardOK.none rfl ?_
   exact OpV.toDx (opv_move rfl rfl) rfl
  ·rintro hp9 E_4 _ rfl
   refine Dep.nil ?_
   refine GuardOK.none rfl ?_
   exact OpV.mono (opS_make (K := (kF .f32)) (zx := (some 0)) rfl Tryz.underlying24 Tryz.einfo66 rfl rfl ⟨_, rfl, (isF_lit .f32 0 (by decide) (by decide))⟩ rfl rfl (by decide) c2) (by rintro _ _ ⟨M_, T_⟩; exact ⟨Mod.ext M_, Sep.weak T_ (Ext.size E_4), Sep.fresh T_⟩)
  ·rintro hp10 E_5
   refine Dep.nil ?_
   refine GuardOK.none rfl ?_
   exact OpV.toDx (opv_move rfl rfl) rfl
  ·rintro hp11 E_6 _ rfl
   refine Dep.nil ?_
   refine GuardOK.none rfl ?_
   exact OpV.mono (opS_make (K := (kF .f32)) (zx := (some 0)) rfl Tryz.underlying24 Tryz.einfo66 rfl rfl ⟨_, rfl, (isF_lit .f32 0 (by decide) (by decide))⟩ rfl rfl (by decide) c3) (by rintro _ _ ⟨M_, T_⟩; exact ⟨Mod.ext M_, Sep.weak T_ (Ext.size E_6), Sep.fresh T_⟩)
 rintro hp12 E_7 v1 T_2 v2 T_3 v3 T_4
 refine DepM.nil ?_
 intro PW_1 LK_
 have X_6 := Mod.lift X_1 E_7
 have S_7 := Sep.join S_1 (Mod.size X_1) (Ext.mod E_7 []) (Sep.both T_2 (Sep.both T_3 T_4 (Apt.symm (Apt.of PW_1 0 1 rfl rfl (by decide)))) (Apt.cat' (Apt.symm (Apt.of PW_1 1 2 rfl rfl (by decide))) (Apt.symm (Apt.of PW_1 0 2 rfl rfl (by decide)))))
 show RL _ _ _ _ (_ :: _) _ _
 refine RL.opD (by decide) (opv_build (cs := [v1, v2, v3]) [(0, [v1]), (1, [v2]), (2, [v3])] [(0, v1), (1, v2), (2, v3)] rfl Tryz.bd29 ⟨⟨rfl, rfl, rfl, cells1 (ownO.one (Sep.at (o := ownO (kF .f32) 66 v1 (List.replicate (Int.toNat a0) (some 0))) S_7 0 rfl))⟩, ⟨rfl, rfl, rfl, cells1 (ownO.one (Sep.at (o := ownO (kF .f32) 66 v2 (List.replicate (Int.toNat a0) (some 0))) S_7 1 rfl))⟩, ⟨rfl, rfl, rfl, cells1 (ownO.one (Sep.at (o := ownO (kF .f32) 66 v3 (List.replicate (Int.toNat a0) (some 0))) S_7 2 rfl))⟩, trivial⟩ rfl) ?_
 refine RL.op0 _ (opS_stored (cs := [(.slice none 0 0), (.slice none 0 0), (.slice none 0 0)]) (cs' := [v1, v2, v3]) (opv_storeA (us := [v1, v2, v3]) rfl Tryz.size29 rfl rfl (oneAll (ownO.one (Sep.at (o := ownO (kF .f32) 66 v1 (List.replicate (Int.toNat a0) (some 0))) S_7 0 rfl)) (oneAll (ownO.one (Sep.at (o := ownO (kF .f32) 66 v2 (List.replicate (Int.toNat a0) (some 0))) S_7 1 rfl)) (oneAll (ownO.one (Sep.at (o := ownO (kF .f32) 66 v3 (List.replicate (Int.toNat a0) (some 0))) S_7 2 rfl)) rfl))) (Sep.at (o := boxO bb1 [(.slice none 0 0), (.slice none 0 0), (.slice none 0 0)]) S_7 3 rfl) rfl rfl) (Sep.at (o := boxO bb1 [(.slice none 0 0), (.slice none 0 0), (.slice none 0 0)]) S_7 3 rfl)) ?_
 rintro _ hp13 ⟨rfl, MT_6, T_6⟩
 have S_8 : Sep [] h0.size hp12 ([boxO bb1 [(.slice none 0 0), (.slice none 0 0), (.slice none 0 0)]] ++ [ownO (kF .f32) 66 v1 (List.replicate (Int.toNat a0) (some 0)), ownO (kF .f32) 66 v2 (List.replicate (Int.toNat a0) (some 0)), ownO (kF .f32) 66 v3 (List.replicate (Int.toNat a0) (some 0))]) := Sep.sel S_7 [3, 0, 1, 2] (by decide)
 obtain ⟨X_7, S_9⟩ := Sep.turn X_6 S_8 MT_6 T_6
 refine RL.nil ?_
 refine thnN ?_
 refine W.ret ?_
 have er := Option.some.inj hp
 subst er
 exact Rt.cell1 rfl rfl Tryz.agg29 Tryz.size29 (Sep.at (o := boxO bb1 [v1, v2, v3]) S_9 0 rfl) rfl ⟨v1, v2, v3, rfl, X_7, (Sep.sel S_9 [1, 2, 3] (by decide))⟩

set_option maxHeartbeats 4000000 in
set_option maxRecDepth 20000 in
theorem spec_l02DrawField_ok (h0 : Heap) (lo : Nat) (hlo : lo ≤ h0.size) (b0 : Nat) (u0_0 : Value) (a0_0 : List (Int)) (g0_0 : SL (kI .u8) lo h0 u0_0 a0_0) (a0_1 : Int) (a0_2 : Int) (b1 : Nat) (a1_0 : Int) (a1_1 : Int) (a1_2 : Bool) (u1_3 : Value) (a1_3 : List (Option Nat)) (g1_3 : SL (kF .f32) lo h0 u1_3 a1_3) (u1_4 : Value) (a1_4 : List (Option Nat)) (g1_4 : SL (kF .f32) lo h0 u1_4 a1_4) (S0 : Sep [some b0, some b1] h0.size h0 [boxO b0 [u0_0, (.int .i64 a0_1), (.int .u64 a0_2)], boxO b1 [(.int .i64 a1_0), (.int .i64 a1_1), (.bool a1_2), u1_3, u1_4]]) (hB : ∀ b, some b ∈ [some b0, some b1] → lo ≤ b) (r : ((List (Option Nat)) × (List (Option Nat)) × (List (Option Nat)) × Int × Int × Int × Int × Bool)) (hp : spec_l02DrawField a0_0 a0_1 a0_2 a1_0 a1_1 a1_2 a1_3 a1_4 = some r) : CallsH Tryz.prog 17 ([(.pointer (some ⟨b0, 0, none⟩)), (.pointer (some ⟨b1, 0, none⟩))].toArray ++ [].toArray) h0 (fun v h' => ∃ w0, ∃ w1, ∃ w2, v = (.agg (List.toArray (α := Value) [w0, w1, w2])) ∧ Mod [some b0, some b1] h0 h' ∧ Sep [some b0, some b1] h0.size h' [ownO (kF .f32) 66 w0 r.1, ownO (kF .f32) 66 w1 r.2.1, ownO (kF .f32) 66 w2 r.2.2.1, boxO b0 [u0_0, (.int .i64 r.2.2.2.1), (.int .u64 r.2.2.2.2.1)], boxO b1 [(.int .i64 r.2.2.2.2.2.1), (.int .i64 r.2.2.2.2.2.2.1), (.bool r.2.2.2.2.2.2.2), u1_3, u1_4]]) := by
 unfold spec_l02DrawField at hp
 refine callsH_of_W (l := [(.pointer (some ⟨b0, 0, none⟩)), (.pointer (some ⟨b1, 0, none⟩))]) (cap := []) 143 Tryz.func17 rfl rfl rfl ?_
 refine W.seq ?_
 refine W.region ?_
 refine RL.op _ (by decide) (opS_boxed (opv_alloc (cs := [(.slice none 0 0), (.slice none 0 0), (.slice none 0 0)]) rfl Tryz.zero29 rfl)) ?_
 rintro _ hp1 ⟨bb1, rfl, MT_1, T_1⟩
 obtain ⟨X_1, S_1⟩ := Sep.turn0 (Mod.refl [some b0, some b1] h0) S0 MT_1 T_1
 refine RL.nil ?_
 refine thnN ?_
 refine W.seq ?_
 refine W.regionH 14 rfl Tryz.mixed ?_
 refine HK.d 0 rfl rfl rfl (by decide) (by decide +kernel) (fun _ _ _ h => h) (opx_move rfl rfl) ?_
 refine HK.d 1 rfl rfl rfl (by decide) (by decide +kernel) (fun _ _ _ h => h) (opx_nilCheck rfl rfl) ?_
 refine HK.d 2 rfl rfl rfl (by decide) (by decide +kernel) (fun _ _ _ h => h) (opx_fieldAddr rfl Tryz.fo26_0 rfl) ?_
 refine HK.d 3 rfl rfl rfl (by decide) (by decide +kernel) (fun _ _ _ h => h) (opx_loadB rfl Tryz.one2 rfl (Sep.at (o := boxO b1 [(.int .i64 a1_0), (.int .i64 a1_1), (.bool a1_2), u1_3, u1_4]) S_1 2 rfl) rfl) ?_
 refine HK.d 5 rfl rfl rfl (by decide) (by decide +kernel) (fun _ _ _ h => h) (opx_move rfl rfl) ?_
 refine HK.d 6 rfl rfl rfl (by decide) (by decide +kernel) (fun _ _ _ h => h) (opx_nilCheck rfl rfl) ?_
 refine HK.d 7 rfl rfl rfl (by decide) (by decide +kernel) (fun _ _ _ h => h) (opx_fieldAddr rfl Tryz.fo26_1 rfl) ?_
 refine HK.d 8 rfl rfl rfl (by decide) (by decide +kernel) (fun _ _ _ h => h) (opx_loadB rfl Tryz.one2 rfl (Sep.at (o := boxO b1 [(.int .i64 a1_0), (.int .i64 a1_1), (.bool a1_2), u1_3, u1_4]) S_1 2 rfl) rfl) ?_
 obtain ⟨x1, hx1, hp⟩ := Option.bind_eq_some_iff.1 hp
 refine HK.s 4 _ rfl rfl rfl (by decide) (by decide +kernel) (opv_call (cap := []) (spec_l00Min_ok _ _ _ _ hx1) rfl rfl ⟨rfl, rfl, trivial⟩ Tryz.func36 rfl rfl) ?_
 rintro _ _ ⟨rfl, rfl⟩
 refine ⟨rfl, ?_⟩
 obtain ⟨x2, hx2, hp⟩ := Option.bind_eq_some_iff.1 hp
 refine HK.s 9 _ rfl rfl rfl (by decide) (by decide +kernel) (opv_call (cap := []) (spec_l00Min_ok _ _ _ _ hx2) rfl rfl ⟨rfl, rfl, trivial⟩ Tryz.func36 rfl rfl) ?_
 rintro _ _ ⟨rfl, rfl⟩
 refine ⟨rfl, ?_⟩
 refine HK.d 10 rfl rfl rfl (by decide) (by decide +kernel) (fun _ _ _ h => h) (opx_mul rfl rfl rfl) ?_
 obtain ⟨x3, hx3, hp⟩ := Option.bind_eq_some_iff.1 hp
 refine HK.s 11 _ rfl rfl rfl (by decide) (by decide +kernel) (opv_call (cap := []) (spec_l00Min_ok _ _ _ _ hx3) rfl rfl ⟨rfl, rfl, trivial⟩ Tryz.func36 rfl rfl) ?_
 rintro _ _ ⟨rfl, rfl⟩
 refine ⟨rfl, ?_⟩
 obtain ⟨x4, hx4, hp⟩ := Option.bind_eq_some_iff.1 hp
 refine HK.s 12 _ rfl rfl rfl (by decide) (by decide +kernel) (opv_call (cap := []) (spec_l00Max_ok _ _ _ _ hx4) rfl rfl ⟨rfl, rfl, trivial⟩ Tryz.func35 rfl rfl) ?_
 rintro _ _ ⟨rfl, rfl⟩
 refine ⟨rfl, ?_⟩
 refine HK.d 13 rfl rfl rfl (by decide) (by decide +kernel) (fun _ _ _ h => h) (opx_assign rfl rfl) ?_
 refine HK.done (by decide +kernel) ?_
 refine thnN ?_
 refine W.seq ?_
 refine W.region ?_
 refine RL.opD (by decide) (opv_move rfl rfl) ?_
 obtain ⟨x5, hx5, hp⟩ := Option.bind_eq_some_iff.1 hp
 refine RL.op _ (by decide) (opv_call (cap := []) (spec_l02Zero_ok _ _ _ hx5) rfl rfl ⟨rfl, trivial⟩ Tryz.func37 rfl rfl) ?_
 rintro _ hp2 ⟨v1, v2, v3, rfl, MT_2, T_2⟩
 obtain ⟨X_2, S_2⟩ := Sep.turn0 X_1 S_1 MT_2 T_2
 refine RL.op _ (by decide) (opS_boxed (opv_alloc (cs := [(.slice none 0 0), (.slice none 0 0), (.slice none 0 0)]) rfl Tryz.zero29 rfl)) ?_
 rintro _ hp3 ⟨bb2, rfl, MT_3, T_3⟩
 obtain ⟨X_3, S_3⟩ := Sep.turn0 X_2 S_2 MT_3 T_3
 refine RL.op0 _ (opS_stored (cs := [(.slice none 0 0), (.slice none 0 0), (.slice none 0 0)]) (cs' := [v1, v2, v3]) (opv_storeA (us := [v1, v2, v3]) rfl Tryz.size29 rfl rfl (oneAll (ownO.one (Sep.at (o := ownO (kF .f32) 66 v1 x5.1) S_3 1 rfl)) (oneAll (ownO.one (Sep.at (o := ownO (kF .f32) 66 v2 x5.2.1) S_3 2 rfl)) (oneAll (ownO.one (Sep.at (o := ownO (kF .f32) 66 v3 x5.2.2) S_3 3 rfl)) rfl))) (Sep.at (o := boxO bb2 [(.slice none 0 0), (.slice none 0 0), (.slice none 0 0)]) S_3 0 rfl) rfl rfl) (Sep.at (o := boxO bb2 [(.slice none 0 0), (.slice none 0 0), (.slice none 0 0)]) S_3 0 rfl)) ?_
 rintro _ hp4 ⟨rfl, MT_4, T_4⟩
 have S_4 : Sep [some b0, some b1] h0.size hp3 ([boxO bb2 [(.slice none 0 0), (.slice none 0 0), (.slice none 0 0)]] ++ [ownO (kF .f32) 66 v1 x5.1, ownO (kF .f32) 66 v2 x5.2.1, ownO (kF .f32) 66 v3 x5.2.2, boxO bb1 [(.slice none 0 0), (.slice none 0 0), (.slice none 0 0)], boxO b0 [u0_0, (.int .i64 a0_1), (.int .u64 a0_2)], boxO b1 [(.int .i64 a1_0), (.int .i64 a1_1), (.bool a1_2), u1_3, u1_4]]) := Sep.sel S_3 [0, 1, 2, 3, 4, 5, 6] (by decide)
 obtain ⟨X_4, S_5⟩ := Sep.turn X_3 S_4 MT_4 T_4
 refine RL.nil ?_
 refine thnN ?_
 refine W.seq ?_
 refine W.region ?_
 refine RL.opD (by decide) (opv_move rfl rfl) ?_
 obtain ⟨x6, hx6, hp⟩ := Option.bind_eq_some_iff.1 hp
 have S_7 : Sep [some b0, some b1] h0.size hp4 [boxO b0 [u0_0, (.int .i64 a0_1), (.int .u64 a0_2)]] := Sep.sel S_5 [5] (by decide)
 have S_6 : Sep [some b0] hp4.size hp4 [boxO b0 [u0_0, (.int .i64 a0_1), (.int .u64 a0_2)]] := Sep.own S_7 _
 refine RL.op _ (by decide) (opv_call (cap := []) (spec_l00Src_pick_ok _ lo (Nat.le_trans hlo (Mod.size X_4)) _ _ _ (SL.mod g0_0 X_4 hlo hB) _ _ _ S_6 (Sep.ge (L := [boxO b0 [u0_0, (.int .i64 a0_1), (.int .u64 a0_2)]]) S_7 hlo hB) _ hx6) rfl rfl ⟨rfl, rfl, trivial⟩ Tryz.func33 rfl rfl) ?_
 rintro _ hp5 ⟨rfl, MT_5, T_5⟩
 have S_8 : Sep [some b0, some b1] h0.size hp4 ([boxO b0 [u0_0, (.int .i64 a0_1), (.int .u64 a0_2)]] ++ [boxO bb2 [v1, v2, v3], ownO (kF .f32) 66 v1 x5.1, ownO (kF .f32) 66 v2 x5.2.1, ownO (kF .f32) 66 v3 x5.2.2, boxO bb1 [(.slice none 0 0), (.slice none 0 0), (.slice none 0 0)], boxO b1 [(.int .i64 a1_0), (.int .i64 a1_1), (.bool a1_2), u1_3, u1_4]]) := Sep.sel S_5 [5, 0, 1, 2, 3, 4, 6] (by decide)
 obtain ⟨X_5, S_9⟩ := Sep.turn X_4 S_8 MT_5 T_5
 refine RL.opD (by decide) (opv_assign rfl rfl) ?_
 refine RL.nil ?_
 refine thnN ?_
 refine W.seq ?_
 refine W.seq ?_
 refine W.region ?_
 refine RL.opD (by decide) (opv_assign rfl rfl) ?_
 refine RL.nil ?_
 refine thnN ?_
 obtain ⟨y1, hy1, hp⟩ := Option.bind_eq_some_iff.1 hp
 refine W.cut (fun φ' h' => ∃ x13, ∃ x14, ∃ x15, ∃ x16, ∃ x17, ∃ x18, ∃ x19, y1 = (x13, x14, x15, x16, x17, x18, x19) ∧ Fr.sub [(0, (.pointer (some ⟨b0, 0, none⟩))), (1, (.pointer (some ⟨b1, 0, none⟩))), (4, (.pointer (some ⟨bb1, 0, none⟩))), (5, (.int .i64 x4)), (6, (.pointer (some ⟨bb2, 0, none⟩))), (7, (.int .i64 x6.1)), (8, (.int .i64 x13)), (29, (.bool x14))] φ' ∧ Mod [some b0, some b1] h0 h' ∧ Sep [some b0, some b1] h0.size h' [boxO b0 [u0_0, (.int .i64 x15), (.int .u64 x16)], boxO bb2 [v1, v2, v3], ownO (kF .f32) 66 v1 x17, ownO (kF .f32) 66 v2 x18, ownO (kF .f32) 66 v3 x19, boxO bb1 [(.slice none 0 0), (.slice none 0 0), (.slice none 0 0)], boxO b1 [(.int .i64 a1_0), (.int .i64 a1_1), (.bool a1_2), u1_3, u1_4]]) ?_ ?_
 ·refine W.block ?_
  refine W.loopS (fun (s : (Int × Int × Int × (List (Option Nat)) × (List (Option Nat)) × (List (Option Nat)))) φ' h' => Fr.sub [(0, (.pointer (some ⟨b0, 0, none⟩))), (1, (.pointer (some ⟨b1, 0, none⟩))), (4, (.pointer (some ⟨bb1, 0, none⟩))), (5, (.int .i64 x4)), (6, (.pointer (some ⟨bb2, 0, none⟩))), (7, (.int .i64 x6.1)), (8, (.int .i64 s.1))] φ' ∧ Mod [some b0, some b1] h0 h' ∧ Sep [some b0, some b1] h0.size h' [boxO b0 [u0_0, (.int .i64 s.2.1), (.int .u64 s.2.2.1)], boxO bb2 [v1, v2, v3], ownO (kF .f32) 66 v1 s.2.2.2.1, ownO (kF .f32) 66 v2 s.2.2.2.2.1, ownO (kF .f32) 66 v3 s.2.2.2.2.2, boxO bb1 [(.slice none 0 0), (.slice none 0 0), (.slice none 0 0)], boxO b1 [(.int .i64 a1_0), (.int .i64 a1_1), (.bool a1_2), u1_3, u1_4]]) hy1 ⟨⟨rfl, rfl, rfl, rfl, rfl, rfl, rfl, trivial⟩, X_5, (Sep.sel S_9 [0, 1, 2, 3, 4, 5, 6] (by decide))⟩ ?_
  rintro ⟨x7, x8, x9, x10, x11, x12⟩ φ' hp6 o1 ⟨hs1, X_6, S_10⟩ ho1 hy1
  have hs1 : Fr.sub [(0, (.pointer (some ⟨b0, 0, none⟩))), (1, (.pointer (some ⟨b1, 0, none⟩))), (4, (.pointer (some ⟨bb1, 0, none⟩))), (5, (.int .i64 x4)), (6, (.pointer (some ⟨bb2, 0, none⟩))), (7, (.int .i64 x6.1)), (8, (.int .i64 x7))] φ' := hs1
  have S_10 : Sep [some b0, some b1] h0.size hp6 [boxO b0 [u0_0, (.int .i64 x8), (.int .u64 x9)], boxO bb2 [v1, v2, v3], ownO (kF .f32) 66 v1 x10, ownO (kF .f32) 66 v2 x11, ownO (kF .f32) 66 v3 x12, boxO bb1 [(.slice none 0 0), (.slice none 0 0), (.slice none 0 0)], boxO b1 [(.int .i64 a1_0), (.int .i64 a1_1), (.bool a1_2), u1_3, u1_4]] := S_10
  have ho1 : spec_l02DrawField.s0 a0_0 x4 x6 x7 x8 x9 x10 x11 x12 = some o1 := ho1
  unfold spec_l02DrawField.s0 at ho1
  refine W.sub hs1 ?_
  refine W.seq ?_
  refine W.seq ?_
  refine W.region ?_
  refine RL.opD (by decide) (opv_move rfl rfl) ?_
  refine RL.opD (by decide) (opv_move rfl rfl) ?_
  refine RL.opD (by decide) (opv_icmp rfl rfl rfl rfl) ?_
  refine RL.nil ?_
  refine thnN ?_
  by_cases c1 : (decide (x7 < x4)) = true
  ·rw [if_pos c1] at ho1
   refine W.condT rfl c1 ?_
   refine W.skip ?_
   refine thnN ?_
   refine W.seq ?_
   obtain ⟨⟨x20, x21, x22, x23, x24, x25⟩, hy2, ho1⟩ := Option.bind_eq_some_iff.1 ho1
   try dsimp only at ho1
   refine W.cut (fun φ' h' => Fr.sub [(0, (.pointer (some ⟨b0, 0, none⟩))), (1, (.pointer (some ⟨b1, 0, none⟩))), (4, (.pointer (some ⟨bb1, 0, none⟩))), (5, (.int .i64 x4)), (6, (.pointer (some ⟨bb2, 0, none⟩))), (7, (.int .i64 x6.1)), (8, (.int .i64 x7)), (29, (.bool (decide (x7 < x4)))), (38, (.bool x20))] φ' ∧ Mod [some b0, some b1] h0 h' ∧ Sep [some b0, some b1] h0.size h' [boxO b0 [u0_0, (.int .i64 x21), (.int .u64 x22)], boxO bb2 [v1, v2, v3], ownO (kF .f32) 66 v1 x23, ownO (kF .f32) 66 v2 x24, ownO (kF .f32) 66 v3 x25, boxO bb1 [(.slice none 0 0), (.slice none 0 0), (.slice none 0 0)], boxO b1 [(.int .i64 a1_0), (.int .i64 a1_1), (.bool a1_2), u1_3, u1_4]]) ?_ ?_
   ·refine W.block ?_
    refine W.seq ?_
    refine W.seq ?_
    obtain ⟨⟨x26, x27, x28⟩, hy3, hy2⟩ := Option.bind_eq_some_iff.1 hy2
    try dsimp only at hy2
    refine W.cut (fun φ' h' => Fr.sub [(0, (.pointer (some ⟨b0, 0, none⟩))), (1, (.pointer (some ⟨b1, 0, none⟩))), (4, (.pointer (some ⟨bb1, 0, none⟩))), (5, (.int .i64 x4)), (6, (.pointer (some ⟨bb2, 0, none⟩))), (7, (.int .i64 x6.1)), (8, (.int .i64 x7)), (29, (.bool (decide (x7 < x4)))), (38, (.bool x26))] φ' ∧ Mod [some b0, some b1] h0 h' ∧ Sep [some b0, some b1] h0.size h' [boxO b0 [u0_0, (.int .i64 x27), (.int .u64 x28)], boxO bb2 [v1, v2, v3], ownO (kF .f32) 66 v1 x10, ownO (kF .f32) 66 v2 x11, ownO (kF .f32) 66 v3 x12, boxO bb1 [(.slice none 0 0), (.slice none 0 0), (.slice none 0 0)], boxO b1 [(.int .i64 a1_0), (.int .i64 a1_1), (.bool a1_2), u1_3, u1_4]]) ?_ ?_
    ·refine W.region ?_
     refine RL.opD (by decide) (opv_move rfl rfl) ?_
     refine RL.opD (by decide) (opv_icmp rfl rfl rfl rfl) ?_
     refine RL.opD (by decide) (opv_move rfl rfl) ?_
     by_cases c2 : (x6.1 == 0) = true
     ·rw [if_pos c2] at hy3
      refine RL.yesD rfl rfl c2 (by decide) (opv_move rfl rfl) ?_
      obtain ⟨x29, hx29, hy3⟩ := Option.bind_eq_some_iff.1 hy3
      have S_12 : Sep [some b0, some b1] h0.size hp6 [boxO b0 [u0_0, (.int .i64 x8), (.int .u64 x9)]] := Sep.sel S_10 [0] (by decide)
      have S_11 : Sep [some b0] hp6.size hp6 [boxO b0 [u0_0, (.int .i64 x8), (.int .u64 x9)]] := Sep.own S_12 _
      refine RL.yes _ rfl rfl c2 (by decide) (opv_call (cap := []) (spec_l00Src_one_ok _ lo (Nat.le_trans hlo (Mod.size X_6)) _ _ _ (SL.mod g0_0 X_6 hlo hB) _ _ _ S_11 (Sep.ge (L := [boxO b0 [u0_0, (.int .i64 x8), (.int .u64 x9)]]) S_12 hlo hB) _ hx29) rfl rfl ⟨rfl, rfl, trivial⟩ Tryz.func34 rfl rfl) ?_
      rintro _ hp7 ⟨rfl, MT_6, T_6⟩
      have S_13 : Sep [some b0, some b1] h0.size hp6 ([boxO b0 [u0_0, (.int .i64 x8), (.int .u64 x9)]] ++ [boxO bb2 [v1, v2, v3], ownO (kF .f32) 66 v1 x10, ownO (kF .f32) 66 v2 x11, ownO (kF .f32) 66 v3 x12, boxO bb1 [(.slice none 0 0), (.slice none 0 0), (.slice none 0 0)], boxO b1 [(.int .i64 a1_0), (.int .i64 a1_1), (.bool a1_2), u1_3, u1_4]]) := Sep.sel S_10 [0, 1, 2, 3, 4, 5, 6] (by decide)
      obtain ⟨X_7, S_14⟩ := Sep.turn X_6 S_13 MT_6 T_6
      refine RL.yesD rfl rfl c2 (by decide) (opv_not rfl rfl) ?_
      refine RL.opD (by decide) (opv_pick rfl rfl (fun _ => rfl) (fun e => absurd (Eq.trans (Eq.symm e) c2) (by decide)) rfl) ?_
      refine RL.nil ?_
      have ey3 := Option.some.inj hy3
      simp only [Prod.mk.injEq] at ey3
      obtain ⟨rfl, rfl, rfl⟩ := ey3
      refine onlyN ?_
      exact ⟨⟨rfl, rfl, rfl, rfl, rfl, rfl, rfl, rfl, rfl, trivial⟩, X_7, (Sep.sel S_14 [0, 1, 2, 3, 4, 5, 6] (by decide))⟩
     ·rw [if_neg c2] at hy3
      have c2 := eq_false_of_ne_true c2
      refine RL.noF rfl rfl c2 (by decide) ?_
      refine RL.noF rfl rfl c2 (by decide) ?_
      refine RL.noF rfl rfl c2 (by decide) ?_
      refine RL.opD (by decide) (opv_pick rfl rfl (fun e => absurd (Eq.trans (Eq.symm e) c2) (by decide)) (fun _ => rfl) rfl) ?_
      refine RL.nil ?_
      have ey3 := Option.some.inj hy3
      simp only [Prod.mk.injEq] at ey3
      obtain ⟨rfl, rfl, rfl⟩ := ey3
      refine onlyN ?_
      exact ⟨⟨rfl, rfl, rfl, rfl, rfl, rfl, rfl, rfl, rfl, trivial⟩, X_6, (Sep.sel S_10 [0, 1, 2, 3, 4, 5, 6] (by decide))⟩
    rintro φ' hp8 ⟨hs4, X_8, S_15⟩
    refine thnN ?_
    refine W.sub hs4 ?_
    by_cases c3 : x26 = true
    ·rw [if_pos c3] at hy2
     refine W.condT rfl c3 ?_
     refine W.exit ?_
     refine thnX ?_
     refine blkI ?_
     have ey2 := Option.some.inj hy2
     simp only [Prod.mk.injEq] at ey2
     obtain ⟨rfl, rfl, rfl, rfl, rfl, rfl⟩ := ey2
     refine onlyN ?_
     exact ⟨⟨rfl, rfl, rfl, rfl, rfl, rfl, rfl, rfl, rfl, trivial⟩, X_8, (Sep.sel S_15 [0, 1, 2, 3, 4, 5, 6] (by decide))⟩
    ·rw [if_neg c3] at hy2
     have c3 := eq_false_of_ne_true c3
     refine W.condF rfl c3 ?_
     refine W.skip ?_
     refine thnN ?_
     refine W.seq ?_
     obtain ⟨x30, hx30, hy2⟩ := Option.bind_eq_some_iff.1 hy2
     obtain ⟨x31, hx31, hy2⟩ := Option.bind_eq_some_iff.1 hy2
     obtain ⟨x32, hx32, hy2⟩ := Option.bind_eq_some_iff.1 hy2
     refine W.sub (ψ := [(0, (.pointer (some ⟨b0, 0, none⟩))), (1, (.pointer (some ⟨b1, 0, none⟩))), (4, (.pointer (some ⟨bb1, 0, none⟩))), (5, (.int .i64 x4)), (6, (.pointer (some ⟨bb2, 0, none⟩))), (7, (.int .i64 x6.1)), (8, (.int .i64 x7)), (29, (.bool (decide (x7 < x4)))), (38, (.bool x26))]) ⟨rfl, rfl, rfl, rfl, rfl, rfl, rfl, rfl, rfl, trivial⟩ ?_
     refine W.regionT 10 (fun h' => Bx h' bb2 [v1, v2, v3] ∧ True) rfl Tryz.mixed ⟨(Sep.at (o := boxO bb2 [v1, v2, v3]) S_15 1 rfl), trivial⟩ ?_
     refine TK.take 0 rfl rfl rfl (by decide) (by decide +kernel) (fun _ _ _ h => h) (fun h' S_ => opx_fieldAddr rfl Tryz.fo29_0 rfl) ?_
     refine TK.take 1 rfl rfl rfl (by decide) (by decide +kernel) (fun _ _ _ h => h) (fun h' S_ => opx_loadB rfl Tryz.one24 rfl S_.1 rfl) ?_
     refine TK.take 2 rfl rfl rfl (by decide) (by decide +kernel) (fun _ _ _ h => h) (fun h' S_ => opx_move rfl rfl) ?_
     refine TK.take 3 rfl rfl rfl (by decide) (by decide +kernel) (fun _ _ _ h => h) (fun h' S_ => opx_move rfl rfl) ?_
     have S_23 : Sep [some b0, some b1] h0.size hp8 [boxO b0 [u0_0, (.int .i64 x27), (.int .u64 x28)]] := Sep.sel S_15 [0] (by decide)
     have S_22 : Sep [some b0] hp8.size hp8 [boxO b0 [u0_0, (.int .i64 x27), (.int .u64 x28)]] := Sep.own S_23 _
     refine TK.stepD 4 _ rfl rfl rfl (by decide) (by decide +kernel) (opv_call (cap := []) (spec_l00Src_pick_ok _ lo (Nat.le_trans hlo (Mod.size X_8)) _ _ _ (SL.mod g0_0 X_8 hlo hB) _ _ _ S_22 (Sep.ge (L := [boxO b0 [u0_0, (.int .i64 x27), (.int .u64 x28)]]) S_23 hlo hB) _ hx30) rfl rfl ⟨rfl, rfl, trivial⟩ Tryz.func33 rfl rfl) ?_
     rintro _ hp11 ⟨rfl, MT_9, T_9⟩
     have S_24 : Sep [some b0, some b1] h0.size hp8 ([boxO b0 [u0_0, (.int .i64 x27), (.int .u64 x28)]] ++ [boxO bb2 [v1, v2, v3], ownO (kF .f32) 66 v1 x10, ownO (kF .f32) 66 v2 x11, ownO (kF .f32) 66 v3 x12, boxO bb1 [(.slice none 0 0), (.slice none 0 0), (.slice none 0 0)], boxO b1 [(.int .i64 a1_0), (.int .i64 a1_1), (.bool a1_2), u1_3, u1_4]]) := Sep.sel S_15 [0, 1, 2, 3, 4, 5, 6] (by decide)
     obtain ⟨X_11, S_25⟩ := Sep.turn X_8 S_24 MT_9 T_9
     refine ⟨⟨(Sep.at (o := boxO bb2 [v1, v2, v3]) S_25 1 rfl), trivial⟩, ?_⟩
     refine TK.take 5 rfl rfl rfl (by decide) (by decide +kernel) (fun _ _ _ h => h) (fun h' S_ => opx_sub rfl rfl rfl) ?_
     refine TK.stepD 6 _ rfl rfl rfl (by decide) (by decide +kernel) (opv_i2f rfl (by rw [Tryz.underlying2]; rfl) Tryz.underlying66 rfl) ?_
     rintro v7 _ ⟨fv7, rfl⟩
     refine ⟨⟨(Sep.at (o := boxO bb2 [v1, v2, v3]) S_25 1 rfl), trivial⟩, ?_⟩
     refine TK.stepD 7 _ rfl rfl rfl (by decide) (by decide +kernel) (opv_fop rfl rfl rfl rfl fv7 (isF_lit .f32 1082130432 (by decide) (by decide))) ?_
     rintro v8 _ ⟨fv8, rfl⟩
     refine ⟨⟨(Sep.at (o := boxO bb2 [v1, v2, v3]) S_25 1 rfl), trivial⟩, ?_⟩
     refine TK.index 8 rfl rfl rfl (by decide) (by decide +kernel) (fun _ _ _ h => h) rfl Tryz.underlying24 (by rw [Tryz.size66]; rfl) rfl rfl (ownO.read (Sep.at (o := ownO (kF .f32) 66 v1 x10) S_25 2 rfl)) hx31 ?_
     intro v9 fv9
     refine TK.step 9 _ rfl rfl rfl (by decide +kernel) (opS_storeE (K := (kF .f32)) rfl Tryz.size66 rfl rfl fv9 rfl ⟨_, rfl, fv8⟩ hx32 (Sep.at (o := ownO (kF .f32) 66 v1 x10) S_25 2 rfl)) ?_
     rintro _ hp12 ⟨rfl, MT_10, T_10⟩
     have S_26 : Sep [some b0, some b1] h0.size hp11 ([ownO (kF .f32) 66 v1 x10] ++ [boxO b0 [u0_0, (.int .i64 x30.2.1), (.int .u64 x30.2.2)], boxO bb2 [v1, v2, v3], ownO (kF .f32) 66 v2 x11, ownO (kF .f32) 66 v3 x12, boxO bb1 [(.slice none 0 0), (.slice none 0 0), (.slice none 0 0)], boxO b1 [(.int .i64 a1_0), (.int .i64 a1_1), (.bool a1_2), u1_3, u1_4]]) := Sep.sel S_25 [2, 0, 1, 3, 4, 5, 6] (by decide)
     obtain ⟨X_12, S_27⟩ := Sep.turn X_11 S_26 MT_10 T_10
     refine ⟨⟨(Sep.at (o := boxO bb2 [v1, v2, v3]) S_27 2 rfl), trivial⟩, ?_⟩
     refine TK.done (by decide +kernel) ?_
     refine thnN ?_
     refine W.seq ?_
     refine W.seq ?_
     refine W.region ?_
     refine RL.opD (by decide) (opv_move rfl rfl) ?_
     refine RL.opD (by decide) (opv_icmp rfl rfl rfl rfl) ?_
     refine RL.nil ?_
     refine thnN ?_
     obtain ⟨⟨x33, x34, x35, x36⟩, hy4, hy2⟩ := Option.bind_eq_some_iff.1 hy2
     try dsimp only at hy2
     refine W.cut (fun φ' h' => Fr.sub [(0, (.pointer (some ⟨b0, 0, none⟩))), (1, (.pointer (some ⟨b1, 0, none⟩))), (4, (.pointer (some ⟨bb1, 0, none⟩))), (5, (.int .i64 x4)), (6, (.pointer (some ⟨bb2, 0, none⟩))), (7, (.int .i64 x6.1)), (8, (.int .i64 x7)), (29, (.bool (decide (x7 < x4)))), (38, (.bool x26)), (49, (.bool (decide (x6.1 > 1))))] φ' ∧ Mod [some b0, some b1] h0 h' ∧ Sep [some b0, some b1] h0.size h' [ownO (kF .f32) 66 v1 x32, boxO b0 [u0_0, (.int .i64 x34), (.int .u64 x35)], boxO bb2 [v1, v2, v3], ownO (kF .f32) 66 v2 x36, ownO (kF .f32) 66 v3 x33, boxO bb1 [(.slice none 0 0), (.slice none 0 0), (.slice none 0 0)], boxO b1 [(.int .i64 a1_0), (.int .i64 a1_1), (.bool a1_2), u1_3, u1_4]]) ?_ ?_
     ·by_cases c4 : (decide (x6.1 > 1)) = true
      ·rw [if_pos c4] at hy4
       refine W.condT rfl c4 ?_
       refine W.seq ?_
       obtain ⟨x37, hx37, hy4⟩ := Option.bind_eq_some_iff.1 hy4
       obtain ⟨x38, hx38, hy4⟩ := Option.bind_eq_some_iff.1 hy4
       obtain ⟨x39, hx39, hy4⟩ := Option.bind_eq_some_iff.1 hy4
       refine W.sub (ψ := [(0, (.pointer (some ⟨b0, 0, none⟩))), (1, (.pointer (some ⟨b1, 0, none⟩))), (4, (.pointer (some ⟨bb1, 0, none⟩))), (5, (.int .i64 x4)), (6, (.pointer (some ⟨bb2, 0, none⟩))), (7, (.int .i64 x6.1)), (8, (.int .i64 x7)), (29, (.bool (decide (x7 < x4)))), (38, (.bool x26)), (49, (.bool (decide (x6.1 > 1))))]) ⟨rfl, rfl, rfl, rfl, rfl, rfl, rfl, rfl, rfl, rfl, trivial⟩ ?_
       refine W.regionT 10 (fun h' => Bx h' bb2 [v1, v2, v3] ∧ True) rfl Tryz.mixed ⟨(Sep.at (o := boxO bb2 [v1, v2, v3]) S_27 2 rfl), trivial⟩ ?_
       refine TK.take 0 rfl rfl rfl (by decide) (by decide +kernel) (fun _ _ _ h => h) (fun h' S_ => opx_fieldAddr rfl Tryz.fo29_1 rfl) ?_
       refine TK.take 1 rfl rfl rfl (by decide) (by decide +kernel) (fun _ _ _ h => h) (fun h' S_ => opx_loadB rfl Tryz.one24 rfl S_.1 rfl) ?_
       refine TK.take 2 rfl rfl rfl (by decide) (by decide +kernel) (fun _ _ _ h => h) (fun h' S_ => opx_move rfl rfl) ?_
       refine TK.take 3 rfl rfl rfl (by decide) (by decide +kernel) (fun _ _ _ h => h) (fun h' S_ => opx_move rfl rfl) ?_
       have S_35 : Sep [some b0, some b1] h0.size hp12 [boxO b0 [u0_0, (.int .i64 x30.2.1), (.int .u64 x30.2.2)]] := Sep.sel S_27 [1] (by decide)
       have S_34 : Sep [some b0] hp12.size hp12 [boxO b0 [u0_0, (.int .i64 x30.2.1), (.int .u64 x30.2.2)]] := Sep.own S_35 _
       refine TK.stepD 4 _ rfl rfl rfl (by decide) (by decide +kernel) (opv_call (cap := []) (spec_l00Src_pick_ok _ lo (Nat.le_trans hlo (Mod.size X_12)) _ _ _ (SL.mod g0_0 X_12 hlo hB) _ _ _ S_34 (Sep.ge (L := [boxO b0 [u0_0, (.int .i64 x30.2.1), (.int .u64 x30.2.2)]]) S_35 hlo hB) _ hx37) rfl rfl ⟨rfl, rfl, trivial⟩ Tryz.func33 rfl rfl) ?_
       rintro _ hp15 ⟨rfl, MT_13, T_13⟩
       have S_36 : Sep [some b0, some b1] h0.size hp12 ([boxO b0 [u0_0, (.int .i64 x30.2.1), (.int .u64 x30.2.2)]] ++ [ownO (kF .f32) 66 v1 x32, boxO bb2 [v1, v2, v3], ownO (kF .f32) 66 v2 x11, ownO (kF .f32) 66 v3 x12, boxO bb1 [(.slice none 0 0), (.slice none 0 0), (.slice none 0 0)], boxO b1 [(.int .i64 a1_0), (.int .i64 a1_1), (.bool a1_2), u1_3, u1_4]]) := Sep.sel S_27 [1, 0, 2, 3, 4, 5, 6] (by decide)
       obtain ⟨X_15, S_37⟩ := Sep.turn X_12 S_36 MT_13 T_13
       refine ⟨⟨(Sep.at (o := boxO bb2 [v1, v2, v3]) S_37 2 rfl), trivial⟩, ?_⟩
       refine TK.take 5 rfl rfl rfl (by decide) (by decide +kernel) (fun _ _ _ h => h) (fun h' S_ => opx_sub rfl rfl rfl) ?_
       refine TK.stepD 6 _ rfl rfl rfl (by decide) (by decide +kernel) (opv_i2f rfl (by rw [Tryz.underlying2]; rfl) Tryz.underlying66 rfl) ?_
       rintro v13 _ ⟨fv13, rfl⟩
       refine ⟨⟨(Sep.at (o := boxO bb2 [v1, v2, v3]) S_37 2 rfl), trivial⟩, ?_⟩
       refine TK.stepD 7 _ rfl rfl rfl (by decide) (by decide +kernel) (opv_fop rfl rfl rfl rfl fv13 (isF_lit .f32 1082130432 (by decide) (by decide))) ?_
       rintro v14 _ ⟨fv14, rfl⟩
       refine ⟨⟨(Sep.at (o := boxO bb2 [v1, v2, v3]) S_37 2 rfl), trivial⟩, ?_⟩
       refine TK.index 8 rfl rfl rfl (by decide) (by decide +kernel) (fun _ _ _ h => h) rfl Tryz.underlying24 (by rw [Tryz.size66]; rfl) rfl rfl (ownO.read (Sep.at (o := ownO (kF .f32) 66 v2 x11) S_37 3 rfl)) hx38 ?_
       intro v15 fv15
       refine TK.step 9 _ rfl rfl rfl (by decide +kernel) (opS_storeE (K := (kF .f32)) rfl Tryz.size66 rfl rfl fv15 rfl ⟨_, rfl, fv14⟩ hx39 (Sep.at (o := ownO (kF .f32) 66 v2 x11) S_37 3 rfl)) ?_
       rintro _ hp16 ⟨rfl, MT_14, T_14⟩
       have S_38 : Sep [some b0, some b1] h0.size hp15 ([ownO (kF .f32) 66 v2 x11] ++ [boxO b0 [u0_0, (.int .i64 x37.2.1), (.int .u64 x37.2.2)], ownO (kF .f32) 66 v1 x32, boxO bb2 [v1, v2, v3], ownO (kF .f32) 66 v3 x12, boxO bb1 [(.slice none 0 0), (.slice none 0 0), (.slice none 0 0)], boxO b1 [(.int .i64 a1_0), (.int .i64 a1_1), (.bool a1_2), u1_3, u1_4]]) := Sep.sel S_37 [3, 0, 1, 2, 4, 5, 6] (by decide)
       obtain ⟨X_16, S_39⟩ := Sep.turn X_15 S_38 MT_14 T_14
       refine ⟨⟨(Sep.at (o := boxO bb2 [v1, v2, v3]) S_39 3 rfl), trivial⟩, ?_⟩
       refine TK.done (by decide +kernel) ?_
       refine thnN ?_
       obtain ⟨x40, hx40, hy4⟩ := Option.bind_eq_some_iff.1 hy4
       obtain ⟨x41, hx41, hy4⟩ := Option.bind_eq_some_iff.1 hy4
       obtain ⟨x42, hx42, hy4⟩ := Option.bind_eq_some_iff.1 hy4
       refine W.sub (ψ := [(0, (.pointer (some ⟨b0, 0, none⟩))), (1, (.pointer (some ⟨b1, 0, none⟩))), (4, (.pointer (some ⟨bb1, 0, none⟩))), (5, (.int .i64 x4)), (6, (.pointer (some ⟨bb2, 0, none⟩))), (7, (.int .i64 x6.1)), (8, (.int .i64 x7)), (29, (.bool (decide (x7 < x4)))), (38, (.bool x26)), (49, (.bool (decide (x6.1 > 1))))]) ⟨rfl, rfl, rfl, rfl, rfl, rfl, rfl, rfl, rfl, rfl, trivial⟩ ?_
       refine W.regionT 7 (fun h' => Bx h' bb2 [v1, v2, v3] ∧ True) rfl Tryz.mixed ⟨(Sep.at (o := boxO bb2 [v1, v2, v3]) S_39 3 rfl), trivial⟩ ?_
       refine TK.take 0 rfl rfl rfl (by decide) (by decide +kernel) (fun _ _ _ h => h) (fun h' S_ => opx_fieldAddr rfl Tryz.fo29_2 rfl) ?_
       refine TK.take 1 rfl rfl rfl (by decide) (by decide +kernel) (fun _ _ _ h => h) (fun h' S_ => opx_loadB rfl Tryz.one24 rfl S_.1 rfl) ?_
       refine TK.take 2 rfl rfl rfl (by decide) (by decide +kernel) (fun _ _ _ h => h) (fun h' S_ => opx_move rfl rfl) ?_
       refine TK.take 3 rfl rfl rfl (by decide) (by decide +kernel) (fun _ _ _ h => h) (fun h' S_ => opx_move rfl rfl) ?_
       have S_47 : Sep [some b0, some b1] h0.size hp16 [boxO b0 [u0_0, (.int .i64 x37.2.1), (.int .u64 x37.2.2)]] := Sep.sel S_39 [1] (by decide)
       have S_46 : Sep [some b0] hp16.size hp16 [boxO b0 [u0_0, (.int .i64 x37.2.1), (.int .u64 x37.2.2)]] := Sep.own S_47 _
       refine TK.stepD 4 _ rfl rfl rfl (by decide) (by decide +kernel) (opv_call (cap := []) (spec_l01DrawPlain_ok _ lo (Nat.le_trans hlo (Mod.size X_16)) _ _ _ (SL.mod g0_0 X_16 hlo hB) _ _ S_46 (Sep.ge (L := [boxO b0 [u0_0, (.int .i64 x37.2.1), (.int .u64 x37.2.2)]]) S_47 hlo hB) _ hx40) rfl rfl ⟨rfl, trivial⟩ Tryz.func38 rfl rfl) ?_
       rintro v18 hp19 ⟨fv18, MT_17, T_17⟩
       have S_48 : Sep [some b0, some b1] h0.size hp16 ([boxO b0 [u0_0, (.int .i64 x37.2.1), (.int .u64 x37.2.2)]] ++ [ownO (kF .f32) 66 v2 x39, ownO (kF .f32) 66 v1 x32, boxO bb2 [v1, v2, v3], ownO (kF .f32) 66 v3 x12, boxO bb1 [(.slice none 0 0), (.slice none 0 0), (.slice none 0 0)], boxO b1 [(.int .i64 a1_0), (.int .i64 a1_1), (.bool a1_2), u1_3, u1_4]]) := Sep.sel S_39 [1, 0, 2, 3, 4, 5, 6] (by decide)
       obtain ⟨X_19, S_49⟩ := Sep.turn X_16 S_48 MT_17 T_17
       refine ⟨⟨(Sep.at (o := boxO bb2 [v1, v2, v3]) S_49 3 rfl), trivial⟩, ?_⟩
       refine TK.index 5 rfl rfl rfl (by decide) (by decide +kernel) (fun _ _ _ h => h) rfl Tryz.underlying24 (by rw [Tryz.size66]; rfl) rfl rfl (ownO.read (Sep.at (o := ownO (kF .f32) 66 v3 x12) S_49 4 rfl)) hx41 ?_
       intro v19 fv19
       refine TK.step 6 _ rfl rfl rfl (by decide +kernel) (opS_storeE (K := (kF .f32)) rfl Tryz.size66 rfl rfl fv19 rfl ⟨_, rfl, fv18⟩ hx42 (Sep.at (o := ownO (kF .f32) 66 v3 x12) S_49 4 rfl)) ?_
       rintro _ hp20 ⟨rfl, MT_18, T_18⟩
       have S_50 : Sep [some b0, some b1] h0.size hp19 ([ownO (kF .f32) 66 v3 x12] ++ [boxO b0 [u0_0, (.int .i64 x40.2.1), (.int .u64 x40.2.2)], ownO (kF .f32) 66 v2 x39, ownO (kF .f32) 66 v1 x32, boxO bb2 [v1, v2, v3], boxO bb1 [(.slice none 0 0), (.slice none 0 0), (.slice none 0 0)], boxO b1 [(.int .i64 a1_0), (.int .i64 a1_1), (.bool a1_2), u1_3, u1_4]]) := Sep.sel S_49 [4, 0, 1, 2, 3, 5, 6] (by decide)
       obtain ⟨X_20, S_51⟩ := Sep.turn X_19 S_50 MT_18 T_18
       refine ⟨⟨(Sep.at (o := boxO bb2 [v1, v2, v3]) S_51 4 rfl), trivial⟩, ?_⟩
       refine TK.done (by decide +kernel) ?_
       have ey4 := Option.some.inj hy4
       simp only [Prod.mk.injEq] at ey4
       obtain ⟨rfl, rfl, rfl, rfl⟩ := ey4
       refine onlyN ?_
       exact ⟨⟨rfl, rfl, rfl, rfl, rfl, rfl, rfl, rfl, rfl, rfl, trivial⟩, X_20, (Sep.sel S_51 [3, 1, 4, 2, 0, 5, 6] (by decide))⟩
      ·rw [if_neg c4] at hy4
       have c4 := eq_false_of_ne_true c4
       refine W.condF rfl c4 ?_
       refine W.skip ?_
       have ey4 := Option.some.inj hy4
       simp only [Prod.mk.injEq] at ey4
       obtain ⟨rfl, rfl, rfl, rfl⟩ := ey4
       refine onlyN ?_
       exact ⟨⟨rfl, rfl, rfl, rfl, rfl, rfl, rfl, rfl, rfl, rfl, trivial⟩, X_12, (Sep.sel S_27 [0, 1, 2, 3, 4, 5, 6] (by decide))⟩
     rintro φ' hp21 ⟨hs5, X_21, S_52⟩
     refine thnN ?_
     refine W.sub hs5 ?_
     refine W.seq ?_
     obtain ⟨⟨x43, x44, x45⟩, hy5, hy2⟩ := Option.bind_eq_some_iff.1 hy2
     try dsimp only at hy2
     refine W.cut (fun φ' h' => Fr.sub [(0, (.pointer (some ⟨b0, 0, none⟩))), (1, (.pointer (some ⟨b1, 0, none⟩))), (4, (.pointer (some ⟨bb1, 0, none⟩))), (5, (.int .i64 x4)), (6, (.pointer (some ⟨bb2, 0, none⟩))), (7, (.int .i64 x6.1)), (8, (.int .i64 x7)), (29, (.bool (decide (x7 < x4)))), (38, (.bool x26)), (49, (.bool (decide (x6.1 > 1)))), (70, (.bool x43))] φ' ∧ Mod [some b0, some b1] h0 h' ∧ Sep [some b0, some b1] h0.size h' [ownO (kF .f32) 66 v1 x32, boxO b0 [u0_0, (.int .i64 x44), (.int .u64 x45)], boxO bb2 [v1, v2, v3], ownO (kF .f32) 66 v2 x36, ownO (kF .f32) 66 v3 x33, boxO bb1 [(.slice none 0 0), (.slice none 0 0), (.slice none 0 0)], boxO b1 [(.int .i64 a1_0), (.int .i64 a1_1), (.bool a1_2), u1_3, u1_4]]) ?_ ?_
     ·refine W.region ?_
      refine RL.opD (by decide) (opv_move rfl rfl) ?_
      refine RL.opD (by decide) (opv_icmp rfl rfl rfl rfl) ?_
      refine RL.opD (by decide) (opv_move rfl rfl) ?_
      by_cases c5 : (x6.1 == 3) = true
      ·rw [if_pos c5] at hy5
       refine RL.yesD rfl rfl c5 (by decide) (opv_move rfl rfl) ?_
       obtain ⟨x46, hx46, hy5⟩ := Option.bind_eq_some_iff.1 hy5
       have S_54 : Sep [some b0, some b1] h0.size hp21 [boxO b0 [u0_0, (.int .i64 x34), (.int .u64 x35)]] := Sep.sel S_52 [1] (by decide)
       have S_53 : Sep [some b0] hp21.size hp21 [boxO b0 [u0_0, (.int .i64 x34), (.int .u64 x35)]] := Sep.own S_54 _
       refine RL.yes _ rfl rfl c5 (by decide) (opv_call (cap := []) (spec_l00Src_one_ok _ lo (Nat.le_trans hlo (Mod.size X_21)) _ _ _ (SL.mod g0_0 X_21 hlo hB) _ _ _ S_53 (Sep.ge (L := [boxO b0 [u0_0, (.int .i64 x34), (.int .u64 x35)]]) S_54 hlo hB) _ hx46) rfl rfl ⟨rfl, rfl, trivial⟩ Tryz.func34 rfl rfl) ?_
       rintro _ hp22 ⟨rfl, MT_19, T_19⟩
       have S_55 : Sep [some b0, some b1] h0.size hp21 ([boxO b0 [u0_0, (.int .i64 x34), (.int .u64 x35)]] ++ [ownO (kF .f32) 66 v1 x32, boxO bb2 [v1, v2, v3], ownO (kF .f32) 66 v2 x36, ownO (kF .f32) 66 v3 x33, boxO bb1 [(.slice none 0 0), (.slice none 0 0), (.slice none 0 0)], boxO b1 [(.int .i64 a1_0), (.int .i64 a1_1), (.bool a1_2), u1_3, u1_4]]) := Sep.sel S_52 [1, 0, 2, 3, 4, 5, 6] (by decide)
       obtain ⟨X_22, S_56⟩ := Sep.turn X_21 S_55 MT_19 T_19
       refine RL.opD (by decide) (opv_pick rfl rfl (fun _ => rfl) (fun e => absurd (Eq.trans (Eq.symm e) c5) (by decide)) rfl) ?_
       refine RL.nil ?_
       have ey5 := Option.some.inj hy5
       simp only [Prod.mk.injEq] at ey5
       obtain ⟨rfl, rfl, rfl⟩ := ey5
       refine onlyN ?_
       exact ⟨⟨rfl, rfl, rfl, rfl, rfl, rfl, rfl, rfl, rfl, rfl, rfl, trivial⟩, X_22, (Sep.sel S_56 [1, 0, 2, 3, 4, 5, 6] (by decide))⟩
      ·rw [if_neg c5] at hy5
       have c5 := eq_false_of_ne_true c5
       refine RL.noF rfl rfl c5 (by decide) ?_
       refine RL.noF rfl rfl c5 (by decide) ?_
       refine RL.opD (by decide) (opv_pick rfl rfl (fun e => absurd (Eq.trans (Eq.symm e) c5) (by decide)) (fun _ => rfl) rfl) ?_
       refine RL.nil ?_
       have ey5 := Option.some.inj hy5
       simp only [Prod.mk.injEq] at ey5
       obtain ⟨rfl, rfl, rfl⟩ := ey5
       refine onlyN ?_
       exact ⟨⟨rfl, rfl, rfl, rfl, rfl, rfl, rfl, rfl, rfl, rfl, rfl, trivial⟩, X_21, (Sep.sel S_52 [0, 1, 2, 3, 4, 5, 6] (by decide))⟩
     rintro φ' hp23 ⟨hs6, X_23, S_57⟩
     refine thnN ?_
     refine W.sub hs6 ?_
     obtain ⟨⟨x47, x48, x49⟩, hy6, hy2⟩ := Option.bind_eq_some_iff.1 hy2
     try dsimp only at hy2
     refine W.cut (fun φ' h' => Fr.sub [(0, (.pointer (some ⟨b0, 0, none⟩))), (1, (.pointer (some ⟨b1, 0, none⟩))), (4, (.pointer (some ⟨bb1, 0, none⟩))), (5, (.int .i64 x4)), (6, (.pointer (some ⟨bb2, 0, none⟩))), (7, (.int .i64 x6.1)), (8, (.int .i64 x7)), (29, (.bool (decide (x7 < x4)))), (38, (.bool x26)), (49, (.bool (decide (x6.1 > 1)))), (70, (.bool x43))] φ' ∧ Mod [some b0, some b1] h0 h' ∧ Sep [some b0, some b1] h0.size h' [ownO (kF .f32) 66 v1 x47, boxO b0 [u0_0, (.int .i64 x48), (.int .u64 x49)], boxO bb2 [v1, v2, v3], ownO (kF .f32) 66 v2 x36, ownO (kF .f32) 66 v3 x33, boxO bb1 [(.slice none 0 0), (.slice none 0 0), (.slice none 0 0)], boxO b1 [(.int .i64 a1_0), (.int .i64 a1_1), (.bool a1_2), u1_3, u1_4]]) ?_ ?_
     ·by_cases c6 : x43 = true
      ·rw [if_pos c6] at hy6
       refine W.condT rfl c6 ?_
       obtain ⟨x50, hx50, hy6⟩ := Option.bind_eq_some_iff.1 hy6
       obtain ⟨x51, hx51, hy6⟩ := Option.bind_eq_some_iff.1 hy6
       obtain ⟨x52, hx52, hy6⟩ := Option.bind_eq_some_iff.1 hy6
       refine W.sub (ψ := [(0, (.pointer (some ⟨b0, 0, none⟩))), (1, (.pointer (some ⟨b1, 0, none⟩))), (4, (.pointer (some ⟨bb1, 0, none⟩))), (5, (.int .i64 x4)), (6, (.pointer (some ⟨bb2, 0, none⟩))), (7, (.int .i64 x6.1)), (8, (.int .i64 x7)), (29, (.bool (decide (x7 < x4)))), (38, (.bool x26)), (49, (.bool (decide (x6.1 > 1)))), (70, (.bool x43))]) ⟨rfl, rfl, rfl, rfl, rfl, rfl, rfl, rfl, rfl, rfl, rfl, trivial⟩ ?_
       refine W.regionT 7 (fun h' => Bx h' bb2 [v1, v2, v3] ∧ True) rfl Tryz.mixed ⟨(Sep.at (o := boxO bb2 [v1, v2, v3]) S_57 2 rfl), trivial⟩ ?_
       refine TK.take 0 rfl rfl rfl (by decide) (by decide +kernel) (fun _ _ _ h => h) (fun h' S_ => opx_fieldAddr rfl Tryz.fo29_0 rfl) ?_
       refine TK.take 1 rfl rfl rfl (by decide) (by decide +kernel) (fun _ _ _ h => h) (fun h' S_ => opx_loadB rfl Tryz.one24 rfl S_.1 rfl) ?_
       refine TK.take 2 rfl rfl rfl (by decide) (by decide +kernel) (fun _ _ _ h => h) (fun h' S_ => opx_move rfl rfl) ?_
       refine TK.take 3 rfl rfl rfl (by decide) (by decide +kernel) (fun _ _ _ h => h) (fun h' S_ => opx_move rfl rfl) ?_
       have S_65 : Sep [some b0, some b1] h0.size hp23 [boxO b0 [u0_0, (.int .i64 x44), (.int .u64 x45)]] := Sep.sel S_57 [1] (by decide)
       have S_64 : Sep [some b0] hp23.size hp23 [boxO b0 [u0_0, (.int .i64 x44), (.int .u64 x45)]] := Sep.own S_65 _
       refine TK.stepD 4 _ rfl rfl rfl (by decide) (by decide +kernel) (opv_call (cap := []) (spec_l01DrawFloat_ok _ lo (Nat.le_trans hlo (Mod.size X_23)) _ _ _ (SL.mod g0_0 X_23 hlo hB) _ _ S_64 (Sep.ge (L := [boxO b0 [u0_0, (.int .i64 x44), (.int .u64 x45)]]) S_65 hlo hB) _ hx50) rfl rfl ⟨rfl, trivial⟩ Tryz.func39 rfl rfl) ?_
       rintro v22 hp26 ⟨fv22, MT_22, T_22⟩
       have S_66 : Sep [some b0, some b1] h0.size hp23 ([boxO b0 [u0_0, (.int .i64 x44), (.int .u64 x45)]] ++ [ownO (kF .f32) 66 v1 x32, boxO bb2 [v1, v2, v3], ownO (kF .f32) 66 v2 x36, ownO (kF .f32) 66 v3 x33, boxO bb1 [(.slice none 0 0), (.slice none 0 0), (.slice none 0 0)], boxO b1 [(.int .i64 a1_0), (.int .i64 a1_1), (.bool a1_2), u1_3, u1_4]]) := Sep.sel S_57 [1, 0, 2, 3, 4, 5, 6] (by decide)
       obtain ⟨X_26, S_67⟩ := Sep.turn X_23 S_66 MT_22 T_22
       refine ⟨⟨(Sep.at (o := boxO bb2 [v1, v2, v3]) S_67 2 rfl), trivial⟩, ?_⟩
       refine TK.index 5 rfl rfl rfl (by decide) (by decide +kernel) (fun _ _ _ h => h) rfl Tryz.underlying24 (by rw [Tryz.size66]; rfl) rfl rfl (ownO.read (Sep.at (o := ownO (kF .f32) 66 v1 x32) S_67 1 rfl)) hx51 ?_
       intro v23 fv23
       refine TK.step 6 _ rfl rfl rfl (by decide +kernel) (opS_storeE (K := (kF .f32)) rfl Tryz.size66 rfl rfl fv23 rfl ⟨_, rfl, fv22⟩ hx52 (Sep.at (o := ownO (kF .f32) 66 v1 x32) S_67 1 rfl)) ?_
       rintro _ hp27 ⟨rfl, MT_23, T_23⟩
       have S_68 : Sep [some b0, some b1] h0.size hp26 ([ownO (kF .f32) 66 v1 x32] ++ [boxO b0 [u0_0, (.int .i64 x50.2.1), (.int .u64 x50.2.2)], boxO bb2 [v1, v2, v3], ownO (kF .f32) 66 v2 x36, ownO (kF .f32) 66 v3 x33, boxO bb1 [(.slice none 0 0), (.slice none 0 0), (.slice none 0 0)], boxO b1 [(.int .i64 a1_0), (.int .i64 a1_1), (.bool a1_2), u1_3, u1_4]]) := Sep.sel S_67 [1, 0, 2, 3, 4, 5, 6] (by decide)
       obtain ⟨X_27, S_69⟩ := Sep.turn X_26 S_68 MT_23 T_23
       refine ⟨⟨(Sep.at (o := boxO bb2 [v1, v2, v3]) S_69 2 rfl), trivial⟩, ?_⟩
       refine TK.done (by decide +kernel) ?_
       have ey6 := Option.some.inj hy6
       simp only [Prod.mk.injEq] at ey6
       obtain ⟨rfl, rfl, rfl⟩ := ey6
       refine onlyN ?_
       exact ⟨⟨rfl, rfl, rfl, rfl, rfl, rfl, rfl, rfl, rfl, rfl, rfl, trivial⟩, X_27, (Sep.sel S_69 [0, 1, 2, 3, 4, 5, 6] (by decide))⟩
      ·rw [if_neg c6] at hy6
       have c6 := eq_false_of_ne_true c6
       refine W.condF rfl c6 ?_
       refine W.skip ?_
       have ey6 := Option.some.inj hy6
       simp only [Prod.mk.injEq] at ey6
       obtain ⟨rfl, rfl, rfl⟩ := ey6
       refine onlyN ?_
       exact ⟨⟨rfl, rfl, rfl, rfl, rfl, rfl, rfl, rfl, rfl, rfl, rfl, trivial⟩, X_23, (Sep.sel S_57 [0, 1, 2, 3, 4, 5, 6] (by decide))⟩
     rintro φ' hp28 ⟨hs7, X_28, S_70⟩
     refine blkN ?_
     have ey2 := Option.some.inj hy2
     simp only [Prod.mk.injEq] at ey2
     obtain ⟨rfl, rfl, rfl, rfl, rfl, rfl⟩ := ey2
     refine onlyN ?_
     exact ⟨(Fr.sub_trans ⟨rfl, rfl, rfl, rfl, rfl, rfl, rfl, rfl, rfl, trivial⟩ hs7), X_28, (Sep.sel S_70 [1, 2, 0, 3, 4, 5, 6] (by decide))⟩
   rintro φ' hp29 ⟨hs3, X_29, S_71⟩
   refine thnN ?_
   refine W.sub hs3 ?_
   refine W.region ?_
   refine RL.opD (by decide) (opv_move rfl rfl) ?_
   refine RL.opD (by decide) (opv_add rfl rfl rfl) ?_
   refine RL.opD (by decide) (opv_assign rfl rfl) ?_
   refine RL.nil ?_
   have eo1 := Option.some.inj ho1
   subst eo1
   refine rndN (s' := (IntKind.wrap .i64 (x7 + 1), x21, x22, x23, x24, x25)) rfl ?_
   exact ⟨⟨rfl, rfl, rfl, rfl, rfl, rfl, rfl, trivial⟩, X_29, (Sep.sel S_71 [0, 1, 2, 3, 4, 5, 6] (by decide))⟩
  ·rw [if_neg c1] at ho1
   have c1 := eq_false_of_ne_true c1
   refine W.condF rfl c1 ?_
   refine W.exit ?_
   refine thnX ?_
   refine rndX ?_
   refine blkI ?_
   have eo1 := Option.some.inj ho1
   subst eo1
   have ey1 := hy1 _ rfl
   subst ey1
   refine onlyN ?_
   exact ⟨x7, decide (x7 < x4), x8, x9, x10, x11, x12, rfl, ⟨rfl, rfl, rfl, rfl, rfl, rfl, rfl, rfl, trivial⟩, X_6, (Sep.sel S_10 [0, 1, 2, 3, 4, 5, 6] (by decide))⟩
 rintro φ' hp30 ⟨x13, x14, x15, x16, x17, x18, x19, rfl, hs2, X_30, S_72⟩
 try dsimp only at hp
 refine thnN ?_
 refine W.sub hs2 ?_
 refine W.seq ?_
 refine W.seq ?_
 obtain ⟨x53, hy7, hp⟩ := Option.bind_eq_some_iff.1 hp
 refine W.cut (fun φ' h' => Fr.sub [(0, (.pointer (some ⟨b0, 0, none⟩))), (1, (.pointer (some ⟨b1, 0, none⟩))), (4, (.pointer (some ⟨bb1, 0, none⟩))), (5, (.int .i64 x4)), (6, (.pointer (some ⟨bb2, 0, none⟩))), (7, (.int .i64 x6.1)), (8, (.int .i64 x13)), (29, (.bool x14)), (85, (.bool x53))] φ' ∧ hp30 = h') ?_ ?_
 ·refine W.region ?_
  refine RL.opD (by decide) (opv_move rfl rfl) ?_
  obtain ⟨x54, hx54, hy7⟩ := Option.bind_eq_some_iff.1 hy7
  refine RL.op _ (by decide) (opv_call (cap := []) (spec_l02Is_ok _ _ _ _ _ _ _ (SL.up (SL.mod g1_3 X_30 hlo hB) (Nat.le_trans hlo (Mod.size X_30))) _ _ (SL.up (SL.mod g1_4 X_30 hlo hB) (Nat.le_trans hlo (Mod.size X_30))) (Sep.at (o := boxO b1 [(.int .i64 a1_0), (.int .i64 a1_1), (.bool a1_2), u1_3, u1_4]) S_72 6 rfl) _ hx54) rfl rfl ⟨rfl, trivial⟩ Tryz.func40 rfl rfl) ?_
  rintro _ _ ⟨rfl, rfl⟩
  refine RL.opD (by decide) (opv_not rfl rfl) ?_
  refine RL.opD (by decide) (opv_move rfl rfl) ?_
  by_cases c7 : (!x54) = true
  ·rw [if_pos c7] at hy7
   refine RL.noT rfl rfl c7 (by decide) ?_
   refine RL.noT rfl rfl c7 (by decide) ?_
   refine RL.noT rfl rfl c7 (by decide) ?_
   refine RL.noT rfl rfl c7 (by decide) ?_
   refine RL.opD (by decide) (opv_pick rfl rfl (fun _ => rfl) (fun e => absurd (Eq.trans (Eq.symm e) c7) (by decide)) rfl) ?_
   refine RL.nil ?_
   have ey7 := Option.some.inj hy7
   subst ey7
   refine onlyN ?_
   exact ⟨⟨rfl, rfl, rfl, rfl, rfl, rfl, rfl, rfl, rfl, trivial⟩, rfl⟩
  ·rw [if_neg c7] at hy7
   have c7 := eq_false_of_ne_true c7
   refine RL.yesD rfl rfl c7 (by decide) (opv_move rfl rfl) ?_
   refine RL.yesD rfl rfl c7 (by decide) (opv_nilCheck rfl rfl) ?_
   refine RL.yesD rfl rfl c7 (by decide) (opv_fieldAddr rfl Tryz.fo26_2 rfl) ?_
   refine RL.yesD rfl rfl c7 (by decide) (opv_loadB rfl Tryz.one4 rfl (Sep.at (o := boxO b1 [(.int .i64 a1_0), (.int .i64 a1_1), (.bool a1_2), u1_3, u1_4]) S_72 6 rfl) rfl) ?_
   refine RL.opD (by decide) (opv_pick rfl rfl (fun e => absurd (Eq.trans (Eq.symm e) c7) (by decide)) (fun _ => rfl) rfl) ?_
   refine RL.nil ?_
   have ey7 := Option.some.inj hy7
   subst ey7
   refine onlyN ?_
   exact ⟨⟨rfl, rfl, rfl, rfl, rfl, rfl, rfl, rfl, rfl, trivial⟩, rfl⟩
 rintro φ' _ ⟨hs8, rfl⟩
 refine thnN ?_
 refine W.sub hs8 ?_
 by_cases c8 : x53 = true
 ·rw [if_pos c8] at hp
  refine W.condT rfl c8 ?_
  refine W.seq ?_
  refine W.region ?_
  refine RL.opD (by decide) (opv_loadA (us := [v1, v2, v3]) rfl Tryz.agg29 Tryz.size29 rfl (Sep.at (o := boxO bb2 [v1, v2, v3]) S_72 1 rfl) rfl rfl) ?_
  refine RL.op0 _ (opS_stored (cs := [(.slice none 0 0), (.slice none 0 0), (.slice none 0 0)]) (cs' := [v1, v2, v3]) (opv_storeA (us := [v1, v2, v3]) rfl Tryz.size29 rfl rfl (oneAll (ownO.one (Sep.at (o := ownO (kF .f32) 66 v1 x17) S_72 2 rfl)) (oneAll (ownO.one (Sep.at (o := ownO (kF .f32) 66 v2 x18) S_72 3 rfl)) (oneAll (ownO.one (Sep.at (o := ownO (kF .f32) 66 v3 x19) S_72 4 rfl)) rfl))) (Sep.at (o := boxO bb1 [(.slice none 0 0), (.slice none 0 0), (.slice none 0 0)]) S_72 5 rfl) rfl rfl) (Sep.at (o := boxO bb1 [(.slice none 0 0), (.slice none 0 0), (.slice none 0 0)]) S_72 5 rfl)) ?_
  rintro _ hp31 ⟨rfl, MT_24, T_24⟩
  have S_73 : Sep [some b0, some b1] h0.size hp30 ([boxO bb1 [(.slice none 0 0), (.slice none 0 0), (.slice none 0 0)]] ++ [boxO b0 [u0_0, (.int .i64 x15), (.int .u64 x16)], boxO bb2 [v1, v2, v3], ownO (kF .f32) 66 v1 x17, ownO (kF .f32) 66 v2 x18, ownO (kF .f32) 66 v3 x19, boxO b1 [(.int .i64 a1_0), (.int .i64 a1_1), (.bool a1_2), u1_3, u1_4]]) := Sep.sel S_72 [5, 0, 1, 2, 3, 4, 6] (by decide)
  obtain ⟨X_31, S_74⟩ := Sep.turn X_30 S_73 MT_24 T_24
  refine RL.nil ?_
  refine thnN ?_
  refine W.ret ?_
  refine thnR ?_
  have er := Option.some.inj hp
  subst er
  exact Rt.cell1 rfl rfl Tryz.agg29 Tryz.size29 (Sep.at (o := boxO bb1 [v1, v2, v3]) S_74 0 rfl) rfl ⟨v1, v2, v3, rfl, X_31, (Sep.sel S_74 [3, 4, 5, 1, 6] (by decide))⟩
 ·rw [if_neg c8] at hp
  have c8 := eq_false_of_ne_true c8
  refine W.condF rfl c8 ?_
  refine W.skip ?_
  refine thnN ?_
  refine W.seq ?_
  refine W.seq ?_
  refine W.region ?_
  refine RL.opD (by decide) (opv_assign rfl rfl) ?_
  refine RL.nil ?_
  refine thnN ?_
  obtain ⟨y8, hy8, hp⟩ := Option.bind_eq_some_iff.1 hp
  refine W.cut (fun φ' h' => ∃ x59, ∃ x60, ∃ x61, ∃ x62, ∃ x63, y8 = (x59, x60, x61, x62, x63) ∧ Fr.sub [(0, (.pointer (some ⟨b0, 0, none⟩))), (1, (.pointer (some ⟨b1, 0, none⟩))), (4, (.pointer (some ⟨bb1, 0, none⟩))), (5, (.int .i64 x4)), (6, (.pointer (some ⟨bb2, 0, none⟩))), (7, (.int .i64 x6.1)), (8, (.int .i64 x13)), (29, (.bool x14)), (85, (.bool x53)), (9, (.int .i64 x59)), (89, (.bool x60))] φ' ∧ Mod [some b0, some b1] h0 h' ∧ Sep [some b0, some b1] h0.size h' [boxO b0 [u0_0, (.int .i64 x15), (.int .u64 x16)], boxO bb2 [v1, v2, v3], ownO (kF .f32) 66 v1 x61, ownO (kF .f32) 66 v2 x62, ownO (kF .f32) 66 v3 x63, boxO bb1 [(.slice none 0 0), (.slice none 0 0), (.slice none 0 0)], boxO b1 [(.int .i64 a1_0), (.int .i64 a1_1), (.bool a1_2), u1_3, u1_4]]) ?_ ?_
  ·refine W.block ?_
   refine W.loopS (fun (s : (Int × (List (Option Nat)) × (List (Option Nat)) × (List (Option Nat)))) φ' h' => Fr.sub [(0, (.pointer (some ⟨b0, 0, none⟩))), (1, (.pointer (some ⟨b1, 0, none⟩))), (4, (.pointer (some ⟨bb1, 0, none⟩))), (5, (.int .i64 x4)), (6, (.pointer (some ⟨bb2, 0, none⟩))), (7, (.int .i64 x6.1)), (8, (.int .i64 x13)), (29, (.bool x14)), (85, (.bool x53)), (9, (.int .i64 s.1))] φ' ∧ Mod [some b0, some b1] h0 h' ∧ Sep [some b0, some b1] h0.size h' [boxO b0 [u0_0, (.int .i64 x15), (.int .u64 x16)], boxO bb2 [v1, v2, v3], ownO (kF .f32) 66 v1 s.2.1, ownO (kF .f32) 66 v2 s.2.2.1, ownO (kF .f32) 66 v3 s.2.2.2, boxO bb1 [(.slice none 0 0), (.slice none 0 0), (.slice none 0 0)], boxO b1 [(.int .i64 a1_0), (.int .i64 a1_1), (.bool a1_2), u1_3, u1_4]]) hy8 ⟨⟨rfl, rfl, rfl, rfl, rfl, rfl, rfl, rfl, rfl, rfl, trivial⟩, X_30, (Sep.sel S_72 [0, 1, 2, 3, 4, 5, 6] (by decide))⟩ ?_
   rintro ⟨x55, x56, x57, x58⟩ φ' hp32 o2 ⟨hs9, X_32, S_75⟩ ho2 hy2
   have hs9 : Fr.sub [(0, (.pointer (some ⟨b0, 0, none⟩))), (1, (.pointer (some ⟨b1, 0, none⟩))), (4, (.pointer (some ⟨bb1, 0, none⟩))), (5, (.int .i64 x4)), (6, (.pointer (some ⟨bb2, 0, none⟩))), (7, (.int .i64 x6.1)), (8, (.int .i64 x13)), (29, (.bool x14)), (85, (.bool x53)), (9, (.int .i64 x55))] φ' := hs9
   have S_75 : Sep [some b0, some b1] h0.size hp32 [boxO b0 [u0_0, (.int .i64 x15), (.int .u64 x16)], boxO bb2 [v1, v2, v3], ownO (kF .f32) 66 v1 x56, ownO (kF .f32) 66 v2 x57, ownO (kF .f32) 66 v3 x58, boxO bb1 [(.slice none 0 0), (.slice none 0 0), (.slice none 0 0)], boxO b1 [(.int .i64 a1_0), (.int .i64 a1_1), (.bool a1_2), u1_3, u1_4]] := S_75
   have ho2 : spec_l02DrawField.s1 a1_0 a1_1 a1_2 a1_3 a1_4 x4 x55 x56 x57 x58 = some o2 := ho2
   unfold spec_l02DrawField.s1 at ho2
   refine W.sub hs9 ?_
   refine W.seq ?_
   refine W.seq ?_
   refine W.region ?_
   refine RL.opD (by decide) (opv_move rfl rfl) ?_
   refine RL.opD (by decide) (opv_move rfl rfl) ?_
   refine RL.opD (by decide) (opv_icmp rfl rfl rfl rfl) ?_
   refine RL.nil ?_
   refine thnN ?_
   by_cases c9 : (decide (x55 < x4)) = true
   ·rw [if_pos c9] at ho2
    refine W.condT rfl c9 ?_
    refine W.skip ?_
    refine thnN ?_
    refine W.seq ?_
    refine W.block ?_
    refine W.seq ?_
    refine W.seq ?_
    refine W.regionH 14 rfl Tryz.mixed ?_
    refine HK.d 0 rfl rfl rfl (by decide) (by decide +kernel) (fun _ _ _ h => h) (opx_move rfl rfl) ?_
    refine HK.d 1 rfl rfl rfl (by decide) (by decide +kernel) (fun _ _ _ h => h) (opx_move rfl rfl) ?_
    refine HK.d 2 rfl rfl rfl (by decide) (by decide +kernel) (fun _ _ _ h => h) (opx_move rfl rfl) ?_
    refine HK.d 3 rfl rfl rfl (by decide) (by decide +kernel) (fun _ _ _ h => h) (opx_nilCheck rfl rfl) ?_
    refine HK.d 4 rfl rfl rfl (by decide) (by decide +kernel) (fun _ _ _ h => h) (opx_fieldAddr rfl Tryz.fo26_0 rfl) ?_
    refine HK.d 5 rfl rfl rfl (by decide) (by decide +kernel) (fun _ _ _ h => h) (opx_loadB rfl Tryz.one2 rfl (Sep.at (o := boxO b1 [(.int .i64 a1_0), (.int .i64 a1_1), (.bool a1_2), u1_3, u1_4]) S_75 6 rfl) rfl) ?_
    by_cases nc10 : a1_0 = 0
    ·rw [if_pos nc10] at ho2; cases ho2
    rw [if_neg nc10] at ho2
    have c10 : a1_0 ≠ 0 := nc10
    refine HK.d 6 rfl rfl rfl (by decide) (by decide +kernel) (fun _ _ _ h => h) (opx_rem rfl c10 rfl rfl) ?_
    refine HK.d 7 rfl rfl rfl (by decide) (by decide +kernel) (fun _ _ _ h => h) (opx_move rfl rfl) ?_
    refine HK.d 8 rfl rfl rfl (by decide) (by decide +kernel) (fun _ _ _ h => h) (opx_move rfl rfl) ?_
    refine HK.d 9 rfl rfl rfl (by decide) (by decide +kernel) (fun _ _ _ h => h) (opx_nilCheck rfl rfl) ?_
    refine HK.d 10 rfl rfl rfl (by decide) (by decide +kernel) (fun _ _ _ h => h) (opx_fieldAddr rfl Tryz.fo26_0 rfl) ?_
    refine HK.d 11 rfl rfl rfl (by decide) (by decide +kernel) (fun _ _ _ h => h) (opx_loadB rfl Tryz.one2 rfl (Sep.at (o := boxO b1 [(.int .i64 a1_0), (.int .i64 a1_1), (.bool a1_2), u1_3, u1_4]) S_75 6 rfl) rfl) ?_
    by_cases nc11 : a1_0 = 0
    ·rw [if_pos nc11] at ho2; cases ho2
    rw [if_neg nc11] at ho2
    have c11 : a1_0 ≠ 0 := nc11
    refine HK.d 12 rfl rfl rfl (by decide) (by decide +kernel) (fun _ _ _ h => h) (opx_quo rfl c11 rfl rfl) ?_
    obtain ⟨x64, hx64, ho2⟩ := Option.bind_eq_some_iff.1 ho2
    refine HK.s 13 _ rfl rfl rfl (by decide) (by decide +kernel) (opv_call (cap := []) (spec_l02Border_ok _ _ _ _ _ _ _ (SL.up (SL.mod g1_3 X_32 hlo hB) (Nat.le_trans hlo (Mod.size X_32))) _ _ (SL.up (SL.mod g1_4 X_32 hlo hB) (Nat.le_trans hlo (Mod.size X_32))) (Sep.at (o := boxO b1 [(.int .i64 a1_0), (.int .i64 a1_1), (.bool a1_2), u1_3, u1_4]) S_75 6 rfl) _ _ _ hx64) rfl rfl ⟨rfl, rfl, rfl, trivial⟩ Tryz.func41 rfl rfl) ?_
    rintro _ _ ⟨rfl, rfl⟩
    refine ⟨rfl, ?_⟩
    refine HK.done (by decide +kernel) ?_
    refine thnN ?_
    obtain ⟨x65, hy9, ho2⟩ := Option.bind_eq_some_iff.1 ho2
    refine W.cut (fun φ' h' => Fr.sub [(0, (.pointer (some ⟨b0, 0, none⟩))), (1, (.pointer (some ⟨b1, 0, none⟩))), (4, (.pointer (some ⟨bb1, 0, none⟩))), (5, (.int .i64 x4)), (6, (.pointer (some ⟨bb2, 0, none⟩))), (7, (.int .i64 x6.1)), (8, (.int .i64 x13)), (29, (.bool x14)), (85, (.bool x53)), (9, (.int .i64 x55)), (89, (.bool (decide (x55 < x4)))), (105, (.bool x64))] φ' ∧ Mod [some b0, some b1] h0 h' ∧ Sep [some b0, some b1] h0.size h' [boxO b0 [u0_0, (.int .i64 x15), (.int .u64 x16)], boxO bb2 [v1, v2, v3], ownO (kF .f32) 66 v1 x65, ownO (kF .f32) 66 v2 x57, ownO (kF .f32) 66 v3 x58, boxO bb1 [(.slice none 0 0), (.slice none 0 0), (.slice none 0 0)], boxO b1 [(.int .i64 a1_0), (.int .i64 a1_1), (.bool a1_2), u1_3, u1_4]]) ?_ ?_
    ·by_cases c12 : x64 = true
     ·rw [if_pos c12] at hy9
      refine W.condT rfl c12 ?_
      refine W.region ?_
      refine RL.opD (by decide) (opv_fieldAddr rfl Tryz.fo29_0 rfl) ?_
      refine RL.opD (by decide) (opv_loadB rfl Tryz.one24 rfl (Sep.at (o := boxO bb2 [v1, v2, v3]) S_75 1 rfl) rfl) ?_
      refine RL.opD (by decide) (opv_move rfl rfl) ?_
      obtain ⟨x66, hx66, hy9⟩ := Option.bind_eq_some_iff.1 hy9
      refine RL.op _ (by decide) (opv_index rfl Tryz.underlying24 (by rw [Tryz.size66]; rfl) rfl rfl (ownO.read (Sep.at (o := ownO (kF .f32) 66 v1 x56) S_75 2 rfl)) hx66) ?_
      rintro v24 _ ⟨fv24, rfl⟩
      obtain ⟨x67, hx67, hy9⟩ := Option.bind_eq_some_iff.1 hy9
      refine RL.op0 _ (opS_storeE (K := (kF .f32)) rfl Tryz.size66 rfl rfl fv24 rfl ⟨_, rfl, (isF_lit .f32 0 (by decide) (by decide))⟩ hx67 (Sep.at (o := ownO (kF .f32) 66 v1 x56) S_75 2 rfl)) ?_
      rintro _ hp33 ⟨rfl, MT_25, T_25⟩
      have S_76 : Sep [some b0, some b1] h0.size hp32 ([ownO (kF .f32) 66 v1 x56] ++ [boxO b0 [u0_0, (.int .i64 x15), (.int .u64 x16)], boxO bb2 [v1, v2, v3], ownO (kF .f32) 66 v2 x57, ownO (kF .f32) 66 v3 x58, boxO bb1 [(.slice none 0 0), (.slice none 0 0), (.slice none 0 0)], boxO b1 [(.int .i64 a1_0), (.int .i64 a1_1), (.bool a1_2), u1_3, u1_4]]) := Sep.sel S_75 [2, 0, 1, 3, 4, 5, 6] (by decide)
      obtain ⟨X_33, S_77⟩ := Sep.turn X_32 S_76 MT_25 T_25
      refine RL.nil ?_
      have ey9 := Option.some.inj hy9
      subst ey9
      refine onlyN ?_
      exact ⟨⟨rfl, rfl, rfl, rfl, rfl, rfl, rfl, rfl, rfl, rfl, rfl, rfl, trivial⟩, X_33, (Sep.sel S_77 [1, 2, 0, 3, 4, 5, 6] (by decide))⟩
     ·rw [if_neg c12] at hy9
      have c12 := eq_false_of_ne_true c12
      refine W.condF rfl c12 ?_
      refine W.skip ?_
      have ey9 := Option.some.inj hy9
      subst ey9
      refine onlyN ?_
      exact ⟨⟨rfl, rfl, rfl, rfl, rfl, rfl, rfl, rfl, rfl, rfl, rfl, rfl, trivial⟩, X_32, (Sep.sel S_75 [0, 1, 2, 3, 4, 5, 6] (by decide))⟩
    rintro φ' hp34 ⟨hs11, X_34, S_78⟩
    refine thnN ?_
    refine W.sub hs11 ?_
    refine W.seq ?_
    refine W.seq ?_
    refine W.regionH 12 rfl Tryz.mixed ?_
    refine HK.d 0 rfl rfl rfl (by decide) (by decide +kernel) (fun _ _ _ h => h) (opx_move rfl rfl) ?_
    refine HK.d 1 rfl rfl rfl (by decide) (by decide +kernel) (fun _ _ _ h => h) (opx_move rfl rfl) ?_
    refine HK.d 2 rfl rfl rfl (by decide) (by decide +kernel) (fun _ _ _ h => h) (opx_nilCheck rfl rfl) ?_
    refine HK.d 3 rfl rfl rfl (by decide) (by decide +kernel) (fun _ _ _ h => h) (opx_fieldAddr rfl Tryz.fo26_0 rfl) ?_
    refine HK.d 4 rfl rfl rfl (by decide) (by decide +kernel) (fun _ _ _ h => h) (opx_loadB rfl Tryz.one2 rfl (Sep.at (o := boxO b1 [(.int .i64 a1_0), (.int .i64 a1_1), (.bool a1_2), u1_3, u1_4]) S_78 6 rfl) rfl) ?_
    by_cases nc13 : a1_0 = 0
    ·rw [if_pos nc13] at ho2; cases ho2
    rw [if_neg nc13] at ho2
    have c13 : a1_0 ≠ 0 := nc13
    refine HK.d 5 rfl rfl rfl (by decide) (by decide +kernel) (fun _ _ _ h => h) (opx_quo rfl c13 rfl rfl) ?_
    refine HK.d 6 rfl rfl rfl (by decide) (by decide +kernel) (fun _ _ _ h => h) (opx_move rfl rfl) ?_
    refine HK.d 7 rfl rfl rfl (by decide) (by decide +kernel) (fun _ _ _ h => h) (opx_nilCheck rfl rfl) ?_
    refine HK.d 8 rfl rfl rfl (by decide) (by decide +kernel) (fun _ _ _ h => h) (opx_fieldAddr rfl Tryz.fo26_1 rfl) ?_
    refine HK.d 9 rfl rfl rfl (by decide) (by decide +kernel) (fun _ _ _ h => h) (opx_loadB rfl Tryz.one2 rfl (Sep.at (o := boxO b1 [(.int .i64 a1_0), (.int .i64 a1_1), (.bool a1_2), u1_3, u1_4]) S_78 6 rfl) rfl) ?_
    refine HK.d 10 rfl rfl rfl (by decide) (by decide +kernel) (fun _ _ _ h => h) (opx_sub rfl rfl rfl) ?_
    refine HK.d 11 rfl rfl rfl (by decide) (by decide +kernel) (fun _ _ _ h => h) (opx_icmp rfl rfl rfl rfl) ?_
    refine HK.done (by decide +kernel) ?_
    refine thnN ?_
    obtain ⟨x68, hy10, ho2⟩ := Option.bind_eq_some_iff.1 ho2
    refine W.cut (fun φ' h' => Fr.sub [(0, (.pointer (some ⟨b0, 0, none⟩))), (1, (.pointer (some ⟨b1, 0, none⟩))), (4, (.pointer (some ⟨bb1, 0, none⟩))), (5, (.int .i64 x4)), (6, (.pointer (some ⟨bb2, 0, none⟩))), (7, (.int .i64 x6.1)), (8, (.int .i64 x13)), (29, (.bool x14)), (85, (.bool x53)), (9, (.int .i64 x55)), (89, (.bool (decide (x55 < x4)))), (105, (.bool x64)), (121, (.bool ((IntKind.wrap .i64 (Int.tdiv x55 a1_0)) == (IntKind.wrap .i64 (a1_1 - 1)))))] φ' ∧ Mod [some b0, some b1] h0 h' ∧ Sep [some b0, some b1] h0.size h' [boxO b0 [u0_0, (.int .i64 x15), (.int .u64 x16)], boxO bb2 [v1, v2, v3], ownO (kF .f32) 66 v1 x65, ownO (kF .f32) 66 v2 x68, ownO (kF .f32) 66 v3 x58, boxO bb1 [(.slice none 0 0), (.slice none 0 0), (.slice none 0 0)], boxO b1 [(.int .i64 a1_0), (.int .i64 a1_1), (.bool a1_2), u1_3, u1_4]]) ?_ ?_
    ·by_cases c14 : ((IntKind.wrap .i64 (Int.tdiv x55 a1_0)) == (IntKind.wrap .i64 (a1_1 - 1))) = true
     ·rw [if_pos c14] at hy10
      refine W.condT rfl c14 ?_
      refine W.region ?_
      refine RL.opD (by decide) (opv_fieldAddr rfl Tryz.fo29_1 rfl) ?_
      refine RL.opD (by decide) (opv_loadB rfl Tryz.one24 rfl (Sep.at (o := boxO bb2 [v1, v2, v3]) S_78 1 rfl) rfl) ?_
      refine RL.opD (by decide) (opv_move rfl rfl) ?_
      obtain ⟨x69, hx69, hy10⟩ := Option.bind_eq_some_iff.1 hy10
      refine RL.op _ (by decide) (opv_index rfl Tryz.underlying24 (by rw [Tryz.size66]; rfl) rfl rfl (ownO.read (Sep.at (o := ownO (kF .f32) 66 v2 x57) S_78 3 rfl)) hx69) ?_
      rintro v25 _ ⟨fv25, rfl⟩
      obtain ⟨x70, hx70, hy10⟩ := Option.bind_eq_some_iff.1 hy10
      refine RL.op0 _ (opS_storeE (K := (kF .f32)) rfl Tryz.size66 rfl rfl fv25 rfl ⟨_, rfl, (isF_lit .f32 0 (by decide) (by decide))⟩ hx70 (Sep.at (o := ownO (kF .f32) 66 v2 x57) S_78 3 rfl)) ?_
      rintro _ hp35 ⟨rfl, MT_26, T_26⟩
      have S_79 : Sep [some b0, some b1] h0.size hp34 ([ownO (kF .f32) 66 v2 x57] ++ [boxO b0 [u0_0, (.int .i64 x15), (.int .u64 x16)], boxO bb2 [v1, v2, v3], ownO (kF .f32) 66 v1 x65, ownO (kF .f32) 66 v3 x58, boxO bb1 [(.slice none 0 0), (.slice none 0 0), (.slice none 0 0)], boxO b1 [(.int .i64 a1_0), (.int .i64 a1_1), (.bool a1_2), u1_3, u1_4]]) := Sep.sel S_78 [3, 0, 1, 2, 4, 5, 6] (by decide)
      obtain ⟨X_35, S_80⟩ := Sep.turn X_34 S_79 MT_26 T_26
      refine RL.nil ?_
      have ey10 := Option.some.inj hy10
      subst ey10
      refine onlyN ?_
      exact ⟨⟨rfl, rfl, rfl, rfl, rfl, rfl, rfl, rfl, rfl, rfl, rfl, rfl, rfl, trivial⟩, X_35, (Sep.sel S_80 [1, 2, 3, 0, 4, 5, 6] (by decide))⟩
     ·rw [if_neg c14] at hy10
      have c14 := eq_false_of_ne_true c14
      refine W.condF rfl c14 ?_
      refine W.skip ?_
      have ey10 := Option.some.inj hy10
      subst ey10
      refine onlyN ?_
      exact ⟨⟨rfl, rfl, rfl, rfl, rfl, rfl, rfl, rfl, rfl, rfl, rfl, rfl, rfl, trivial⟩, X_34, (Sep.sel S_78 [0, 1, 2, 3, 4, 5, 6] (by decide))⟩
    rintro φ' hp36 ⟨hs12, X_36, S_81⟩
    refine thnN ?_
    refine W.sub hs12 ?_
    refine W.seq ?_
    refine W.regionH 12 rfl Tryz.mixed ?_
    refine HK.d 0 rfl rfl rfl (by decide) (by decide +kernel) (fun _ _ _ h => h) (opx_move rfl rfl) ?_
    refine HK.d 1 rfl rfl rfl (by decide) (by decide +kernel) (fun _ _ _ h => h) (opx_move rfl rfl) ?_
    refine HK.d 2 rfl rfl rfl (by decide) (by decide +kernel) (fun _ _ _ h => h) (opx_nilCheck rfl rfl) ?_
    refine HK.d 3 rfl rfl rfl (by decide) (by decide +kernel) (fun _ _ _ h => h) (opx_fieldAddr rfl Tryz.fo26_0 rfl) ?_
    refine HK.d 4 rfl rfl rfl (by decide) (by decide +kernel) (fun _ _ _ h => h) (opx_loadB rfl Tryz.one2 rfl (Sep.at (o := boxO b1 [(.int .i64 a1_0), (.int .i64 a1_1), (.bool a1_2), u1_3, u1_4]) S_81 6 rfl) rfl) ?_
    by_cases nc15 : a1_0 = 0
    ·rw [if_pos nc15] at ho2; cases ho2
    rw [if_neg nc15] at ho2
    have c15 : a1_0 ≠ 0 := nc15
    refine HK.d 5 rfl rfl rfl (by decide) (by decide +kernel) (fun _ _ _ h => h) (opx_rem rfl c15 rfl rfl) ?_
    refine HK.d 6 rfl rfl rfl (by decide) (by decide +kernel) (fun _ _ _ h => h) (opx_move rfl rfl) ?_
    refine HK.d 7 rfl rfl rfl (by decide) (by decide +kernel) (fun _ _ _ h => h) (opx_nilCheck rfl rfl) ?_
    refine HK.d 8 rfl rfl rfl (by decide) (by decide +kernel) (fun _ _ _ h => h) (opx_fieldAddr rfl Tryz.fo26_0 rfl) ?_
    refine HK.d 9 rfl rfl rfl (by decide) (by decide +kernel) (fun _ _ _ h => h) (opx_loadB rfl Tryz.one2 rfl (Sep.at (o := boxO b1 [(.int .i64 a1_0), (.int .i64 a1_1), (.bool a1_2), u1_3, u1_4]) S_81 6 rfl) rfl) ?_
    refine HK.d 10 rfl rfl rfl (by decide) (by decide +kernel) (fun _ _ _ h => h) (opx_sub rfl rfl rfl) ?_
    refine HK.d 11 rfl rfl rfl (by decide) (by decide +kernel) (fun _ _ _ h => h) (opx_icmp rfl rfl rfl rfl) ?_
    refine HK.done (by decide +kernel) ?_
    refine thnN ?_
    obtain ⟨x71, hy11, ho2⟩ := Option.bind_eq_some_iff.1 ho2
    refine W.cut (fun φ' h' => Fr.sub [(0, (.pointer (some ⟨b0, 0, none⟩))), (1, (.pointer (some ⟨b1, 0, none⟩))), (4, (.pointer (some ⟨bb1, 0, none⟩))), (5, (.int .i64 x4)), (6, (.pointer (some ⟨bb2, 0, none⟩))), (7, (.int .i64 x6.1)), (8, (.int .i64 x13)), (29, (.bool x14)), (85, (.bool x53)), (9, (.int .i64 x55)), (89, (.bool (decide (x55 < x4)))), (105, (.bool x64)), (121, (.bool ((IntKind.wrap .i64 (Int.tdiv x55 a1_0)) == (IntKind.wrap .i64 (a1_1 - 1))))), (137, (.bool ((Int.tmod x55 a1_0) == (IntKind.wrap .i64 (a1_0 - 1)))))] φ' ∧ Mod [some b0, some b1] h0 h' ∧ Sep [some b0, some b1] h0.size h' [boxO b0 [u0_0, (.int .i64 x15), (.int .u64 x16)], boxO bb2 [v1, v2, v3], ownO (kF .f32) 66 v1 x65, ownO (kF .f32) 66 v2 x68, ownO (kF .f32) 66 v3 x71, boxO bb1 [(.slice none 0 0), (.slice none 0 0), (.slice none 0 0)], boxO b1 [(.int .i64 a1_0), (.int .i64 a1_1), (.bool a1_2), u1_3, u1_4]]) ?_ ?_
    ·by_cases c16 : ((Int.tmod x55 a1_0) == (IntKind.wrap .i64 (a1_0 - 1))) = true
     ·rw [if_pos c16] at hy11
      refine W.condT rfl c16 ?_
      refine W.region ?_
      refine RL.opD (by decide) (opv_fieldAddr rfl Tryz.fo29_2 rfl) ?_
      refine RL.opD (by decide) (opv_loadB rfl Tryz.one24 rfl (Sep.at (o := boxO bb2 [v1, v2, v3]) S_81 1 rfl) rfl) ?_
      refine RL.opD (by decide) (opv_move rfl rfl) ?_
      obtain ⟨x72, hx72, hy11⟩ := Option.bind_eq_some_iff.1 hy11
      refine RL.op _ (by decide) (opv_index rfl Tryz.underlying24 (by rw [Tryz.size66]; rfl) rfl rfl (ownO.read (Sep.at (o := ownO (kF .f32) 66 v3 x58) S_81 4 rfl)) hx72) ?_
      rintro v26 _ ⟨fv26, rfl⟩
      obtain ⟨x73, hx73, hy11⟩ := Option.bind_eq_some_iff.1 hy11
      refine RL.op0 _ (opS_storeE (K := (kF .f32)) rfl Tryz.size66 rfl rfl fv26 rfl ⟨_, rfl, (isF_lit .f32 0 (by decide) (by decide))⟩ hx73 (Sep.at (o := ownO (kF .f32) 66 v3 x58) S_81 4 rfl)) ?_
      rintro _ hp37 ⟨rfl, MT_27, T_27⟩
      have S_82 : Sep [some b0, some b1] h0.size hp36 ([ownO (kF .f32) 66 v3 x58] ++ [boxO b0 [u0_0, (.int .i64 x15), (.int .u64 x16)], boxO bb2 [v1, v2, v3], ownO (kF .f32) 66 v1 x65, ownO (kF .f32) 66 v2 x68, boxO bb1 [(.slice none 0 0), (.slice none 0 0), (.slice none 0 0)], boxO b1 [(.int .i64 a1_0), (.int .i64 a1_1), (.bool a1_2), u1_3, u1_4]]) := Sep.sel S_81 [4, 0, 1, 2, 3, 5, 6] (by decide)
      obtain ⟨X_37, S_83⟩ := Sep.turn X_36 S_82 MT_27 T_27
      refine RL.nil ?_
      have ey11 := Option.some.inj hy11
      subst ey11
      refine onlyN ?_
      exact ⟨⟨rfl, rfl, rfl, rfl, rfl, rfl, rfl, rfl, rfl, rfl, rfl, rfl, rfl, rfl, trivial⟩, X_37, (Sep.sel S_83 [1, 2, 3, 4, 0, 5, 6] (by decide))⟩
     ·rw [if_neg c16] at hy11
      have c16 := eq_false_of_ne_true c16
      refine W.condF rfl c16 ?_
      refine W.skip ?_
      have ey11 := Option.some.inj hy11
      subst ey11
      refine onlyN ?_
      exact ⟨⟨rfl, rfl, rfl, rfl, rfl, rfl, rfl, rfl, rfl, rfl, rfl, rfl, rfl, rfl, trivial⟩, X_36, (Sep.sel S_81 [0, 1, 2, 3, 4, 5, 6] (by decide))⟩
    rintro φ' hp38 ⟨hs13, X_38, S_84⟩
    refine blkN ?_
    refine thnN ?_
    refine W.sub hs13 ?_
    refine W.region ?_
    refine RL.opD (by decide) (opv_move rfl rfl) ?_
    refine RL.opD (by decide) (opv_add rfl rfl rfl) ?_
    refine RL.opD (by decide) (opv_assign rfl rfl) ?_
    refine RL.nil ?_
    have eo2 := Option.some.inj ho2
    subst eo2
    refine rndN (s' := (IntKind.wrap .i64 (x55 + 1), x65, x68, x71)) rfl ?_
    exact ⟨⟨rfl, rfl, rfl, rfl, rfl, rfl, rfl, rfl, rfl, rfl, trivial⟩, X_38, (Sep.sel S_84 [0, 1, 2, 3, 4, 5, 6] (by decide))⟩
   ·rw [if_neg c9] at ho2
    have c9 := eq_false_of_ne_true c9
    refine W.condF rfl c9 ?_
    refine W.exit ?_
    refine thnX ?_
    refine rndX ?_
    refine blkI ?_
    have eo2 := Option.some.inj ho2
    subst eo2
    have ey8 := hy2 _ rfl
    subst ey8
    refine onlyN ?_
    exact ⟨x55, decide (x55 < x4), x56, x57, x58, rfl, ⟨rfl, rfl, rfl, rfl, rfl, rfl, rfl, rfl, rfl, rfl, rfl, trivial⟩, X_32, (Sep.sel S_75 [0, 1, 2, 3, 4, 5, 6] (by decide))⟩
  rintro φ' hp39 ⟨x59, x60, x61, x62, x63, rfl, hs10, X_39, S_85⟩
  try dsimp only at hp
  refine thnN ?_
  refine W.sub hs10 ?_
  refine W.seq ?_
  refine W.region ?_
  refine RL.opD (by decide) (opv_loadA (us := [v1, v2, v3]) rfl Tryz.agg29 Tryz.size29 rfl (Sep.at (o := boxO bb2 [v1, v2, v3]) S_85 1 rfl) rfl rfl) ?_
  refine RL.op0 _ (opS_stored (cs := [(.slice none 0 0), (.slice none 0 0), (.slice none 0 0)]) (cs' := [v1, v2, v3]) (opv_storeA (us := [v1, v2, v3]) rfl Tryz.size29 rfl rfl (oneAll (ownO.one (Sep.at (o := ownO (kF .f32) 66 v1 x61) S_85 2 rfl)) (oneAll (ownO.one (Sep.at (o := ownO (kF .f32) 66 v2 x62) S_85 3 rfl)) (oneAll (ownO.one (Sep.at (o := ownO (kF .f32) 66 v3 x63) S_85 4 rfl)) rfl))) (Sep.at (o := boxO bb1 [(.slice none 0 0), (.slice none 0 0), (.slice none 0 0)]) S_85 5 rfl) rfl rfl) (Sep.at (o := boxO bb1 [(.slice none 0 0), (.slice none 0 0), (.slice none 0 0)]) S_85 5 rfl)) ?_
  rintro _ hp40 ⟨rfl, MT_28, T_28⟩
  have S_86 : Sep [some b0, some b1] h0.size hp39 ([boxO bb1 [(.slice none 0 0), (.slice none 0 0), (.slice none 0 0)]] ++ [boxO b0 [u0_0, (.int .i64 x15), (.int .u64 x16)], boxO bb2 [v1, v2, v3], ownO (kF .f32) 66 v1 x61, ownO (kF .f32) 66 v2 x62, ownO (kF .f32) 66 v3 x63, boxO b1 [(.int .i64 a1_0), (.int .i64 a1_1), (.bool a1_2), u1_3, u1_4]]) := Sep.sel S_85 [5, 0, 1, 2, 3, 4, 6] (by decide)
  obtain ⟨X_40, S_87⟩ := Sep.turn X_39 S_86 MT_28 T_28
  refine RL.nil ?_
  refine thnN ?_
  refine W.ret ?_
  have er := Option.some.inj hp
  subst er
  exact Rt.cell1 rfl rfl Tryz.agg29 Tryz.size29 (Sep.at (o := boxO bb1 [v1, v2, v3]) S_87 0 rfl) rfl ⟨v1, v2, v3, rfl, X_40, (Sep.sel S_87 [3, 4, 5, 1, 6] (by decide))⟩

set_option maxRecDepth 20000 in
theorem spec_B10Field_ok (h0 : Heap) (u0 : Value) (a0 : List (Int)) (g0 : SL (kI .u8) h0.size h0 u0 a0) (a1_0 : Int) (a1_1 : Int) (a1_2 : Bool) (u1_3 : Value) (a1_3 : List (Option Nat)) (g1_3 : SL (kF .f32) h0.size h0 u1_3 a1_3) (u1_4 : Value) (a1_4 : List (Option Nat)) (g1_4 : SL (kF .f32) h0.size h0 u1_4 a1_4) (r : ((List (Option Nat)) × (List (Option Nat)) × (List (Option Nat)))) (hp : spec_B10Field a0 a1_0 a1_1 a1_2 a1_3 a1_4 = some r) : CallsH Tryz.prog 6 ([u0, (.agg (List.toArray (α := Value) [(.int .i64 a1_0), (.int .i64 a1_1), (.bool a1_2), u1_3, u1_4]))].toArray ++ [].toArray) h0 (fun v h' => ∃ w0, ∃ w1, ∃ w2, v = (.agg (List.toArray (α := Value) [w0, w1, w2])) ∧ Mod [] h0 h' ∧ Sep [] h0.size h' [ownO (kF .f32) 66 w0 r.1, ownO (kF .f32) 66 w1 r.2.1, ownO (kF .f32) 66 w2 r.2.2]) := by
 unfold spec_B10Field at hp
 refine callsH_of_W (l := [u0, (.agg (List.toArray (α := Value) [(.int .i64 a1_0), (.int .i64 a1_1), (.bool a1_2), u1_3, u1_4]))]) (cap := []) 10 Tryz.func6 rfl rfl rfl ?_
 refine W.seq ?_
 refine W.region ?_
 refine RL.op _ (by decide) (opS_boxed (opv_boxA (cs := [(.int .i64 a1_0), (.int .i64 a1_1), (.bool a1_2), u1_3, u1_4]) rfl rfl)) ?_
 rintro _ hp1 ⟨bb1, rfl, MT_1, T_1⟩
 obtain ⟨X_1, S_1⟩ := Sep.turn0 (Mod.refl [] h0) (Sep.nil [] h0.size h0) MT_1 T_1
 refine RL.op _ (by decide) (opS_boxed (opv_alloc (cs := [(.slice none 0 0), (.slice none 0 0), (.slice none 0 0)]) rfl Tryz.zero29 rfl)) ?_
 rintro _ hp2 ⟨bb2, rfl, MT_2, T_2⟩
 obtain ⟨X_2, S_2⟩ := Sep.turn0 X_1 S_1 MT_2 T_2
 refine RL.nil ?_
 refine thnN ?_
 refine W.seq ?_
 refine W.region ?_
 refine RL.opD (by decide) (opv_move rfl rfl) ?_
 obtain ⟨x1, hx1, hp⟩ := Option.bind_eq_some_iff.1 hp
 refine RL.op _ (by decide) (opv_call (cap := []) (spec_l00From_ok _ _ _ (SL.up (SL.mod g0 X_2 (Nat.le_refl _) nob) (Nat.le_trans (Nat.le_refl _) (Mod.size X_2))) _ hx1) rfl rfl ⟨rfl, trivial⟩ Tryz.func15 rfl rfl) ?_
 rintro _ hp3 ⟨v1, rfl, MT_3, T_3⟩
 obtain ⟨X_3, S_3⟩ := Sep.turn0 X_2 S_2 MT_3 T_3
 refine RL.opD (by decide) (opv_assign rfl rfl) ?_
 refine RL.nil ?_
 refine thnN ?_
 refine W.seq ?_
 refine W.region ?_
 refine RL.opD (by decide) (opv_move rfl rfl) ?_
 obtain ⟨x2, hx2, hp⟩ := Option.bind_eq_some_iff.1 hp
 have S_5 : Sep [] h0.size hp3 [boxO v1 [u0, (.int .i64 x1.1), (.int .u64 x1.2)], boxO bb1 [(.int .i64 a1_0), (.int .i64 a1_1), (.bool a1_2), u1_3, u1_4]] := Sep.sel S_3 [0, 2] (by decide)
 have S_4 : Sep [some v1, some bb1] hp3.size hp3 [boxO v1 [u0, (.int .i64 x1.1), (.int .u64 x1.2)], boxO bb1 [(.int .i64 a1_0), (.int .i64 a1_1), (.bool a1_2), u1_3, u1_4]] := Sep.own S_5 _
 refine RL.op _ (by decide) (opv_call (cap := []) (spec_l02DrawField_ok _ h0.size (Nat.le_trans (Nat.le_refl _) (Mod.size X_3)) _ _ _ (SL.mod g0 X_3 (Nat.le_refl _) nob) _ _ _ _ _ _ _ _ (SL.mod g1_3 X_3 (Nat.le_refl _) nob) _ _ (SL.mod g1_4 X_3 (Nat.le_refl _) nob) S_4 (Sep.ge (L := [boxO v1 [u0, (.int .i64 x1.1), (.int .u64 x1.2)], boxO bb1 [(.int .i64 a1_0), (.int .i64 a1_1), (.bool a1_2), u1_3, u1_4]]) S_5 (Nat.le_refl _) nob) _ hx2) rfl rfl ⟨rfl, rfl, trivial⟩ Tryz.func17 rfl rfl) ?_
 rintro _ hp4 ⟨v2, v3, v4, rfl, MT_4, T_4⟩
 have S_6 : Sep [] h0.size hp3 ([boxO v1 [u0, (.int .i64 x1.1), (.int .u64 x1.2)], boxO bb1 [(.int .i64 a1_0), (.int .i64 a1_1), (.bool a1_2), u1_3, u1_4]] ++ [boxO bb2 [(.slice none 0 0), (.slice none 0 0), (.slice none 0 0)]]) := Sep.sel S_3 [0, 2, 1] (by decide)
 obtain ⟨X_4, S_7⟩ := Sep.turn X_3 S_6 MT_4 T_4
 refine RL.op0 _ (opS_stored (cs := [(.slice none 0 0), (.slice none 0 0), (.slice none 0 0)]) (cs' := [v2, v3, v4]) (opv_storeA (us := [v2, v3, v4]) rfl Tryz.size29 rfl rfl (oneAll (ownO.one (Sep.at (o := ownO (kF .f32) 66 v2 x2.1) S_7 0 rfl)) (oneAll (ownO.one (Sep.at (o := ownO (kF .f32) 66 v3 x2.2.1) S_7 1 rfl)) (oneAll (ownO.one (Sep.at (o := ownO (kF .f32) 66 v4 x2.2.2.1) S_7 2 rfl)) rfl))) (Sep.at (o := boxO bb2 [(.slice none 0 0), (.slice none 0 0), (.slice none 0 0)]) S_7 5 rfl) rfl rfl) (Sep.at (o := boxO bb2 [(.slice none 0 0), (.slice none 0 0), (.slice none 0 0)]) S_7 5 rfl)) ?_
 rintro _ hp5 ⟨rfl, MT_5, T_5⟩
 have S_8 : Sep [] h0.size hp4 ([boxO bb2 [(.slice none 0 0), (.slice none 0 0), (.slice none 0 0)]] ++ [ownO (kF .f32) 66 v2 x2.1, ownO (kF .f32) 66 v3 x2.2.1, ownO (kF .f32) 66 v4 x2.2.2.1, boxO v1 [u0, (.int .i64 x2.2.2.2.1), (.int .u64 x2.2.2.2.2.1)], boxO bb1 [(.int .i64 x2.2.2.2.2.2.1), (.int .i64 x2.2.2.2.2.2.2.1), (.bool x2.2.2.2.2.2.2.2), u1_3, u1_4]]) := Sep.sel S_7 [5, 0, 1, 2, 3, 4] (by decide)
 obtain ⟨X_5, S_9⟩ := Sep.turn X_4 S_8 MT_5 T_5
 refine RL.nil ?_
 refine thnN ?_
 refine W.ret ?_
 have er := Option.some.inj hp
 subst er
 exact Rt.cell1 rfl rfl Tryz.agg29 Tryz.size29 (Sep.at (o := boxO bb2 [v2, v3, v4]) S_9 0 rfl) rfl ⟨v2, v3, v4, rfl, X_5, (Sep.sel S_9 [1, 2, 3] (by decide))⟩

end Go.H
