/- Functions of the program: what each computes, as a plain function, and that the call comes to it. Written by a program (wip/gen). -/
import Derived.Test.YtjlnfficehomhaaGreatDoorGBase
import Derived.Test.YtjlnfficehomhaaGreatDoorLibB
import Derived.Test.YtjlnfficehomhaaGreatDoorProg
import Derived.KernelRfl
set_option linter.unusedVariables false
namespace Go.H
open Go Go.Proofs



noncomputable def spec_l00From (a0 : List (Int)) : Option (Int × Int) :=
 some (0, 0)

noncomputable def spec_l00Src_next (a0_0 : List (Int)) (a0_1 : Int) (a0_2 : Int) : Option (Int × Int × Int) :=
 (((if (decide (a0_1 < (a0_0.length : Int))) = true then ((idx a0_0 a0_1).bind fun (x2 : Int) => some (IntKind.wrap .i64 x2)) else some 0) : Option Int).bind fun (x1 : Int) => (if (decide ((IntKind.wrap .i64 (a0_1 + 1)) ≤ (a0_0.length : Int))) = true then some (x1, IntKind.wrap .i64 (a0_1 + 1), IntKind.wrap .u64 ((IntKind.wrap .u64 ((IntKind.wrap .u64 (a0_2 * 6364136223846793005)) + (IntKind.wrap .u64 x1))) + 1442695040888963407)) else some (IntKind.wrap .i64 (bits .and .u64 (bits .shr .u64 (IntKind.wrap .u64 ((IntKind.wrap .u64 ((IntKind.wrap .u64 (a0_2 * 6364136223846793005)) + (IntKind.wrap .u64 x1))) + 1442695040888963407)) 40) 255), IntKind.wrap .i64 (a0_1 + 1), IntKind.wrap .u64 ((IntKind.wrap .u64 ((IntKind.wrap .u64 (a0_2 * 6364136223846793005)) + (IntKind.wrap .u64 x1))) + 1442695040888963407))))

noncomputable def spec_l00Src_pick (a0_0 : List (Int)) (a0_1 : Int) (a0_2 : Int) (a1 : Int) : Option (Int × Int × Int) :=
 (if (decide (a1 ≤ 1)) = true then some (0, a0_1, a0_2) else ((spec_l00Src_next a0_0 a0_1 a0_2).bind fun (x1 : (Int × Int × Int)) => (((if (decide (a1 > 200)) = true then ((spec_l00Src_next a0_0 x1.2.1 x1.2.2).bind fun (x5 : (Int × Int × Int)) => some (IntKind.wrap .i64 ((IntKind.wrap .i64 (x1.1 * 256)) + x5.1), x5.2.1, x5.2.2)) else some (x1.1, x1.2.1, x1.2.2)) : Option (Int × Int × Int)).bind fun (⟨x2, x3, x4⟩ : (Int × Int × Int)) => (if a1 = 0 then none else some (Int.tmod x2 a1, x3, x4)))))

set_option maxRecDepth 20000 in
theorem spec_l00From_ok (h0 : Heap) (u0 : Value) (a0 : List (Int)) (g0 : SL (kI .u8) h0.size h0 u0 a0) (r : (Int × Int)) (hp : spec_l00From a0 = some r) : CallsH Tryz.prog 15 ([u0].toArray ++ [].toArray) h0 (fun v h' => ∃ w0, v = (.pointer (some ⟨w0, 0, none⟩)) ∧ Mod [] h0 h' ∧ Sep [] h0.size h' [boxO w0 [u0, (.int .i64 r.1), (.int .u64 r.2)]]) := by
 unfold spec_l00From at hp
 refine callsH_of_W (l := [u0]) (cap := []) 6 Tryz.func15 rfl rfl rfl ?_
 refine W.seq ?_
 refine W.region ?_
 refine RL.opD (by decide) (opv_assign rfl rfl) ?_
 refine RL.nil ?_
 refine thnN ?_
 refine W.seq ?_
 refine W.region ?_
 refine RL.opD (by decide) (opv_move rfl rfl) ?_
 refine RL.opD (by decide) (opv_build (cs := [u0, (.int .i64 0), (.int .u64 0)]) [(0, [u0])] [(0, u0)] rfl Tryz.bd72 ⟨⟨rfl, rfl, rfl, cells1 (SL.one g0)⟩, trivial⟩ rfl) ?_
 refine RL.op _ (by decide) (opS_boxed (opv_boxA (cs := [u0, (.int .i64 0), (.int .u64 0)]) rfl rfl)) ?_
 rintro _ hp1 ⟨bb1, rfl, MT_1, T_1⟩
 obtain ⟨X_1, S_1⟩ := Sep.turn0 (Mod.refl [] h0) (Sep.nil [] h0.size h0) MT_1 T_1
 refine RL.opD (by decide) (opv_assign rfl rfl) ?_
 refine RL.nil ?_
 refine thnN ?_
 refine W.ret ?_
 have er := Option.some.inj hp
 subst er
 exact Rt.one rfl rfl ⟨bb1, rfl, X_1, (Sep.sel S_1 [0] (by decide))⟩

set_option maxRecDepth 20000 in
theorem spec_l00Src_next_ok (h0 : Heap) (lo : Nat) (hlo : lo ≤ h0.size) (b0 : Nat) (u0_0 : Value) (a0_0 : List (Int)) (g0_0 : SL (kI .u8) lo h0 u0_0 a0_0) (a0_1 : Int) (a0_2 : Int) (S0 : Sep [some b0] h0.size h0 [boxO b0 [u0_0, (.int .i64 a0_1), (.int .u64 a0_2)]]) (hB : ∀ b, some b ∈ [some b0] → lo ≤ b) (r : (Int × Int × Int)) (hp : spec_l00Src_next a0_0 a0_1 a0_2 = some r) : CallsH Tryz.prog 53 ([(.pointer (some ⟨b0, 0, none⟩))].toArray ++ [].toArray) h0 (fun v h' => v = (.int .i64 r.1) ∧ Mod [some b0] h0 h' ∧ Sep [some b0] h0.size h' [boxO b0 [u0_0, (.int .i64 r.2.1), (.int .u64 r.2.2)]]) := by
 unfold spec_l00Src_next at hp
 refine callsH_of_W (l := [(.pointer (some ⟨b0, 0, none⟩))]) (cap := []) 62 Tryz.func53 rfl rfl rfl ?_
 refine W.seq ?_
 refine W.region ?_
 refine RL.opD (by decide) (opv_assign rfl rfl) ?_
 refine RL.nil ?_
 refine thnN ?_
 refine W.seq ?_
 refine W.region ?_
 refine RL.opD (by decide) (opv_assign rfl rfl) ?_
 refine RL.nil ?_
 refine thnN ?_
 refine W.seq ?_
 refine W.seq ?_
 refine W.regionH 10 rfl Tryz.mixed ?_
 refine HK.d 0 rfl rfl rfl (by decide) (by decide +kernel) (fun _ _ _ h => h) (opx_move rfl rfl) ?_
 refine HK.d 1 rfl rfl rfl (by decide) (by decide +kernel) (fun _ _ _ h => h) (opx_nilCheck rfl rfl) ?_
 refine HK.d 2 rfl rfl rfl (by decide) (by decide +kernel) (fun _ _ _ h => h) (opx_fieldAddr rfl Tryz.fo72_1 rfl) ?_
 refine HK.d 3 rfl rfl rfl (by decide) (by decide +kernel) (fun _ _ _ h => h) (opx_loadB rfl Tryz.one3 rfl (Sep.at (o := boxO b0 [u0_0, (.int .i64 a0_1), (.int .u64 a0_2)]) S0 0 rfl) rfl) ?_
 refine HK.d 4 rfl rfl rfl (by decide) (by decide +kernel) (fun _ _ _ h => h) (opx_move rfl rfl) ?_
 refine HK.d 5 rfl rfl rfl (by decide) (by decide +kernel) (fun _ _ _ h => h) (opx_nilCheck rfl rfl) ?_
 refine HK.d 6 rfl rfl rfl (by decide) (by decide +kernel) (fun _ _ _ h => h) (opx_fieldAddr rfl Tryz.fo72_0 rfl) ?_
 refine HK.d 7 rfl rfl rfl (by decide) (by decide +kernel) (fun _ _ _ h => h) (opx_loadB rfl Tryz.one22 rfl (Sep.at (o := boxO b0 [u0_0, (.int .i64 a0_1), (.int .u64 a0_2)]) S0 0 rfl) rfl) ?_
 refine HK.d 8 rfl rfl rfl (by decide) (by decide +kernel) (fun _ _ _ h => h) (opx_len rfl Tryz.underlying22 rfl g0_0) ?_
 refine HK.d 9 rfl rfl rfl (by decide) (by decide +kernel) (fun _ _ _ h => h) (opx_icmp rfl rfl rfl rfl) ?_
 refine HK.done (by decide +kernel) ?_
 refine thnN ?_
 obtain ⟨x1, hy1, hp⟩ := Option.bind_eq_some_iff.1 hp
 refine W.cut (fun φ' h' => Fr.sub [(0, (.pointer (some ⟨b0, 0, none⟩))), (2, (.int .i64 0)), (13, (.bool (decide (a0_1 < (a0_0.length : Int))))), (3, (.int .i64 x1))] φ' ∧ h0 = h') ?_ ?_
 ·by_cases c1 : (decide (a0_1 < (a0_0.length : Int))) = true
  ·rw [if_pos c1] at hy1
   refine W.condT rfl c1 ?_
   refine W.regionH 12 rfl Tryz.mixed ?_
   refine HK.d 0 rfl rfl rfl (by decide) (by decide +kernel) (fun _ _ _ h => h) (opx_move rfl rfl) ?_
   refine HK.d 1 rfl rfl rfl (by decide) (by decide +kernel) (fun _ _ _ h => h) (opx_nilCheck rfl rfl) ?_
   refine HK.d 2 rfl rfl rfl (by decide) (by decide +kernel) (fun _ _ _ h => h) (opx_fieldAddr rfl Tryz.fo72_0 rfl) ?_
   refine HK.d 3 rfl rfl rfl (by decide) (by decide +kernel) (fun _ _ _ h => h) (opx_loadB rfl Tryz.one22 rfl (Sep.at (o := boxO b0 [u0_0, (.int .i64 a0_1), (.int .u64 a0_2)]) S0 0 rfl) rfl) ?_
   refine HK.d 4 rfl rfl rfl (by decide) (by decide +kernel) (fun _ _ _ h => h) (opx_move rfl rfl) ?_
   refine HK.d 5 rfl rfl rfl (by decide) (by decide +kernel) (fun _ _ _ h => h) (opx_nilCheck rfl rfl) ?_
   refine HK.d 6 rfl rfl rfl (by decide) (by decide +kernel) (fun _ _ _ h => h) (opx_fieldAddr rfl Tryz.fo72_1 rfl) ?_
   refine HK.d 7 rfl rfl rfl (by decide) (by decide +kernel) (fun _ _ _ h => h) (opx_loadB rfl Tryz.one3 rfl (Sep.at (o := boxO b0 [u0_0, (.int .i64 a0_1), (.int .u64 a0_2)]) S0 0 rfl) rfl) ?_
   obtain ⟨x2, hx2, hy1⟩ := Option.bind_eq_some_iff.1 hy1
   refine HK.f 8 rfl rfl rfl (by decide) (by decide +kernel) (fun _ _ _ h => h) (opx_indexP rfl Tryz.underlying22 (by rw [Tryz.size5]; rfl) rfl rfl g0_0 hx2) ?_
   intro v1 fv1
   refine HK.d 9 rfl rfl rfl (by decide) (by decide +kernel) (fun _ _ _ h => h) (opx_loadI rfl Tryz.one5 rfl fv1 g0_0 hx2) ?_
   refine HK.d 10 rfl rfl rfl (by decide) (by decide +kernel) (fun _ _ _ h => h) (opx_i2i rfl (by rw [Tryz.underlying5]; rfl) Tryz.underlying3 rfl) ?_
   refine HK.d 11 rfl rfl rfl (by decide) (by decide +kernel) (fun _ _ _ h => h) (opx_assign rfl rfl) ?_
   refine HK.done (by decide +kernel) ?_
   have ey1 := Option.some.inj hy1
   subst ey1
   refine onlyN ?_
   exact ⟨⟨rfl, rfl, rfl, rfl, trivial⟩, rfl⟩
  ·rw [if_neg c1] at hy1
   have c1 := eq_false_of_ne_true c1
   refine W.condF rfl c1 ?_
   refine W.skip ?_
   have ey1 := Option.some.inj hy1
   subst ey1
   refine onlyN ?_
   exact ⟨⟨rfl, rfl, rfl, rfl, trivial⟩, rfl⟩
 rintro φ' _ ⟨hs1, rfl⟩
 refine thnN ?_
 refine W.sub hs1 ?_
 refine W.seq ?_
 refine W.region ?_
 refine RL.opD (by decide) (opv_move rfl rfl) ?_
 refine RL.opD (by decide) (opv_nilCheck rfl rfl) ?_
 refine RL.opD (by decide) (opv_fieldAddr rfl Tryz.fo72_1 rfl) ?_
 refine RL.opD (by decide) (opv_loadB rfl Tryz.one3 rfl (Sep.at (o := boxO b0 [u0_0, (.int .i64 a0_1), (.int .u64 a0_2)]) S0 0 rfl) rfl) ?_
 refine RL.opD (by decide) (opv_add rfl rfl rfl) ?_
 refine RL.opD (by decide) (opv_nilCheck rfl rfl) ?_
 refine RL.opD (by decide) (opv_fieldAddr rfl Tryz.fo72_1 rfl) ?_
 refine RL.op0 _ (opS_stored (cs := [u0_0, (.int .i64 a0_1), (.int .u64 a0_2)]) (cs' := [u0_0, (.int .i64 (IntKind.wrap .i64 (a0_1 + 1))), (.int .u64 a0_2)]) (opv_storeB (k := 1) (cs := [u0_0, (.int .i64 a0_1), (.int .u64 a0_2)]) rfl Tryz.size3 rfl rfl rfl (Sep.at (o := boxO b0 [u0_0, (.int .i64 a0_1), (.int .u64 a0_2)]) S0 0 rfl) (Nat.le_of_ble_eq_true rfl)) (Sep.at (o := boxO b0 [u0_0, (.int .i64 a0_1), (.int .u64 a0_2)]) S0 0 rfl)) ?_
 rintro _ hp1 ⟨rfl, MT_1, T_1⟩
 have S_1 : Sep [some b0] h0.size h0 ([boxO b0 [u0_0, (.int .i64 a0_1), (.int .u64 a0_2)]] ++ []) := Sep.sel S0 [0] (by decide)
 obtain ⟨X_1, S_2⟩ := Sep.turn (Mod.refl [some b0] h0) S_1 MT_1 T_1
 refine RL.nil ?_
 refine thnN ?_
 refine W.seq ?_
 refine W.region ?_
 refine RL.opD (by decide) (opv_move rfl rfl) ?_
 refine RL.opD (by decide) (opv_move rfl rfl) ?_
 refine RL.opD (by decide) (opv_nilCheck rfl rfl) ?_
 refine RL.opD (by decide) (opv_fieldAddr rfl Tryz.fo72_2 rfl) ?_
 refine RL.opD (by decide) (opv_loadB rfl Tryz.one70 rfl (Sep.at (o := boxO b0 [u0_0, (.int .i64 (IntKind.wrap .i64 (a0_1 + 1))), (.int .u64 a0_2)]) S_2 0 rfl) rfl) ?_
 refine RL.opD (by decide) (opv_mul rfl rfl rfl) ?_
 refine RL.opD (by decide) (opv_move rfl rfl) ?_
 refine RL.opD (by decide) (opv_i2i rfl (by rw [Tryz.underlying3]; rfl) Tryz.underlying70 rfl) ?_
 refine RL.opD (by decide) (opv_add rfl rfl rfl) ?_
 refine RL.opD (by decide) (opv_add rfl rfl rfl) ?_
 refine RL.opD (by decide) (opv_nilCheck rfl rfl) ?_
 refine RL.opD (by decide) (opv_fieldAddr rfl Tryz.fo72_2 rfl) ?_
 refine RL.op0 _ (opS_stored (cs := [u0_0, (.int .i64 (IntKind.wrap .i64 (a0_1 + 1))), (.int .u64 a0_2)]) (cs' := [u0_0, (.int .i64 (IntKind.wrap .i64 (a0_1 + 1))), (.int .u64 (IntKind.wrap .u64 ((IntKind.wrap .u64 ((IntKind.wrap .u64 (a0_2 * 6364136223846793005)) + (IntKind.wrap .u64 x1))) + 1442695040888963407)))]) (opv_storeB (k := 2) (cs := [u0_0, (.int .i64 (IntKind.wrap .i64 (a0_1 + 1))), (.int .u64 a0_2)]) rfl Tryz.size70 rfl rfl rfl (Sep.at (o := boxO b0 [u0_0, (.int .i64 (IntKind.wrap .i64 (a0_1 + 1))), (.int .u64 a0_2)]) S_2 0 rfl) (Nat.le_of_ble_eq_true rfl)) (Sep.at (o := boxO b0 [u0_0, (.int .i64 (IntKind.wrap .i64 (a0_1 + 1))), (.int .u64 a0_2)]) S_2 0 rfl)) ?_
 rintro _ hp2 ⟨rfl, MT_2, T_2⟩
 have S_3 : Sep [some b0] h0.size hp1 ([boxO b0 [u0_0, (.int .i64 (IntKind.wrap .i64 (a0_1 + 1))), (.int .u64 a0_2)]] ++ []) := Sep.sel S_2 [0] (by decide)
 obtain ⟨X_2, S_4⟩ := Sep.turn X_1 S_3 MT_2 T_2
 refine RL.nil ?_
 refine thnN ?_
 refine W.seq ?_
 refine W.seq ?_
 refine W.regionH 10 rfl Tryz.mixed ?_
 refine HK.d 0 rfl rfl rfl (by decide) (by decide +kernel) (fun _ _ _ h => h) (opx_move rfl rfl) ?_
 refine HK.d 1 rfl rfl rfl (by decide) (by decide +kernel) (fun _ _ _ h => h) (opx_nilCheck rfl rfl) ?_
 refine HK.d 2 rfl rfl rfl (by decide) (by decide +kernel) (fun _ _ _ h => h) (opx_fieldAddr rfl Tryz.fo72_1 rfl) ?_
 refine HK.d 3 rfl rfl rfl (by decide) (by decide +kernel) (fun _ _ _ h => h) (opx_loadB rfl Tryz.one3 rfl (Sep.at (o := boxO b0 [u0_0, (.int .i64 (IntKind.wrap .i64 (a0_1 + 1))), (.int .u64 (IntKind.wrap .u64 ((IntKind.wrap .u64 ((IntKind.wrap .u64 (a0_2 * 6364136223846793005)) + (IntKind.wrap .u64 x1))) + 1442695040888963407)))]) S_4 0 rfl) rfl) ?_
 refine HK.d 4 rfl rfl rfl (by decide) (by decide +kernel) (fun _ _ _ h => h) (opx_move rfl rfl) ?_
 refine HK.d 5 rfl rfl rfl (by decide) (by decide +kernel) (fun _ _ _ h => h) (opx_nilCheck rfl rfl) ?_
 refine HK.d 6 rfl rfl rfl (by decide) (by decide +kernel) (fun _ _ _ h => h) (opx_fieldAddr rfl Tryz.fo72_0 rfl) ?_
 refine HK.d 7 rfl rfl rfl (by decide) (by decide +kernel) (fun _ _ _ h => h) (opx_loadB rfl Tryz.one22 rfl (Sep.at (o := boxO b0 [u0_0, (.int .i64 (IntKind.wrap .i64 (a0_1 + 1))), (.int .u64 (IntKind.wrap .u64 ((IntKind.wrap .u64 ((IntKind.wrap .u64 (a0_2 * 6364136223846793005)) + (IntKind.wrap .u64 x1))) + 1442695040888963407)))]) S_4 0 rfl) rfl) ?_
 refine HK.d 8 rfl rfl rfl (by decide) (by decide +kernel) (fun _ _ _ h => h) (opx_len rfl Tryz.underlying22 rfl (SL.mod g0_0 X_2 hlo hB)) ?_
 refine HK.d 9 rfl rfl rfl (by decide) (by decide +kernel) (fun _ _ _ h => h) (opx_icmp rfl rfl rfl rfl) ?_
 refine HK.done (by decide +kernel) ?_
 refine thnN ?_
 by_cases c2 : (decide ((IntKind.wrap .i64 (a0_1 + 1)) ≤ (a0_0.length : Int))) = true
 ·rw [if_pos c2] at hp
  refine W.condT rfl c2 ?_
  refine W.seq ?_
  refine W.region ?_
  refine RL.opD (by decide) (opv_move rfl rfl) ?_
  refine RL.opD (by decide) (opv_assign rfl rfl) ?_
  refine RL.nil ?_
  refine thnN ?_
  refine W.ret ?_
  refine thnR ?_
  have er := Option.some.inj hp
  subst er
  exact Rt.one rfl rfl ⟨rfl, X_2, (Sep.sel S_4 [0] (by decide))⟩
 ·rw [if_neg c2] at hp
  have c2 := eq_false_of_ne_true c2
  refine W.condF rfl c2 ?_
  refine W.skip ?_
  refine thnN ?_
  refine W.seq ?_
  refine W.region ?_
  refine RL.opD (by decide) (opv_move rfl rfl) ?_
  refine RL.opD (by decide) (opv_nilCheck rfl rfl) ?_
  refine RL.opD (by decide) (opv_fieldAddr rfl Tryz.fo72_2 rfl) ?_
  refine RL.opD (by decide) (opv_loadB rfl Tryz.one70 rfl (Sep.at (o := boxO b0 [u0_0, (.int .i64 (IntKind.wrap .i64 (a0_1 + 1))), (.int .u64 (IntKind.wrap .u64 ((IntKind.wrap .u64 ((IntKind.wrap .u64 (a0_2 * 6364136223846793005)) + (IntKind.wrap .u64 x1))) + 1442695040888963407)))]) S_4 0 rfl) rfl) ?_
  refine RL.opD (by decide) (opv_shift rfl rfl (by decide) rfl rfl) ?_
  refine RL.opD (by decide) (opv_bits rfl rfl rfl rfl) ?_
  refine RL.opD (by decide) (opv_i2i rfl (by rw [Tryz.underlying70]; rfl) Tryz.underlying2 rfl) ?_
  refine RL.opD (by decide) (opv_assign rfl rfl) ?_
  refine RL.nil ?_
  refine thnN ?_
  refine W.ret ?_
  have er := Option.some.inj hp
  subst er
  exact Rt.one rfl rfl ⟨rfl, X_2, (Sep.sel S_4 [0] (by decide))⟩

set_option maxRecDepth 20000 in
theorem spec_l00Src_pick_ok (h0 : Heap) (lo : Nat) (hlo : lo ≤ h0.size) (b0 : Nat) (u0_0 : Value) (a0_0 : List (Int)) (g0_0 : SL (kI .u8) lo h0 u0_0 a0_0) (a0_1 : Int) (a0_2 : Int) (a1 : Int) (S0 : Sep [some b0] h0.size h0 [boxO b0 [u0_0, (.int .i64 a0_1), (.int .u64 a0_2)]]) (hB : ∀ b, some b ∈ [some b0] → lo ≤ b) (r : (Int × Int × Int)) (hp : spec_l00Src_pick a0_0 a0_1 a0_2 a1 = some r) : CallsH Tryz.prog 33 ([(.pointer (some ⟨b0, 0, none⟩)), (.int .i64 a1)].toArray ++ [].toArray) h0 (fun v h' => v = (.int .i64 r.1) ∧ Mod [some b0] h0 h' ∧ Sep [some b0] h0.size h' [boxO b0 [u0_0, (.int .i64 r.2.1), (.int .u64 r.2.2)]]) := by
 unfold spec_l00Src_pick at hp
 refine callsH_of_W (l := [(.pointer (some ⟨b0, 0, none⟩)), (.int .i64 a1)]) (cap := []) 20 Tryz.func33 rfl rfl rfl ?_
 refine W.seq ?_
 refine W.region ?_
 refine RL.opD (by decide) (opv_assign rfl rfl) ?_
 refine RL.nil ?_
 refine thnN ?_
 refine W.seq ?_
 refine W.seq ?_
 refine W.region ?_
 refine RL.opD (by decide) (opv_move rfl rfl) ?_
 refine RL.opD (by decide) (opv_icmp rfl rfl rfl rfl) ?_
 refine RL.nil ?_
 refine thnN ?_
 by_cases c1 : (decide (a1 ≤ 1)) = true
 ·rw [if_pos c1] at hp
  refine W.condT rfl c1 ?_
  refine W.seq ?_
  refine W.region ?_
  refine RL.opD (by decide) (opv_assign rfl rfl) ?_
  refine RL.nil ?_
  refine thnN ?_
  refine W.ret ?_
  refine thnR ?_
  have er := Option.some.inj hp
  subst er
  exact Rt.one rfl rfl ⟨rfl, (Mod.refl [some b0] h0), (Sep.sel S0 [0] (by decide))⟩
 ·rw [if_neg c1] at hp
  have c1 := eq_false_of_ne_true c1
  refine W.condF rfl c1 ?_
  refine W.skip ?_
  refine thnN ?_
  refine W.seq ?_
  refine W.region ?_
  refine RL.opD (by decide) (opv_move rfl rfl) ?_
  obtain ⟨x1, hx1, hp⟩ := Option.bind_eq_some_iff.1 hp
  have S_2 : Sep [some b0] h0.size h0 [boxO b0 [u0_0, (.int .i64 a0_1), (.int .u64 a0_2)]] := Sep.sel S0 [0] (by decide)
  have S_1 : Sep [some b0] h0.size h0 [boxO b0 [u0_0, (.int .i64 a0_1), (.int .u64 a0_2)]] := Sep.own S_2 _
  refine RL.op _ (by decide) (opv_call (cap := []) (spec_l00Src_next_ok _ lo hlo _ _ _ g0_0 _ _ S_1 (Sep.ge (L := [boxO b0 [u0_0, (.int .i64 a0_1), (.int .u64 a0_2)]]) S_2 hlo hB) _ hx1) rfl rfl ⟨rfl, trivial⟩ Tryz.func53 rfl rfl) ?_
  rintro _ hp1 ⟨rfl, MT_1, T_1⟩
  have S_3 : Sep [some b0] h0.size h0 ([boxO b0 [u0_0, (.int .i64 a0_1), (.int .u64 a0_2)]] ++ []) := Sep.sel S0 [0] (by decide)
  obtain ⟨X_1, S_4⟩ := Sep.turn (Mod.refl [some b0] h0) S_3 MT_1 T_1
  refine RL.opD (by decide) (opv_assign rfl rfl) ?_
  refine RL.nil ?_
  refine thnN ?_
  refine W.seq ?_
  refine W.seq ?_
  refine W.region ?_
  refine RL.opD (by decide) (opv_move rfl rfl) ?_
  refine RL.opD (by decide) (opv_icmp rfl rfl rfl rfl) ?_
  refine RL.nil ?_
  refine thnN ?_
  obtain ⟨⟨x2, x3, x4⟩, hy1, hp⟩ := Option.bind_eq_some_iff.1 hp
  try dsimp only at hp
  refine W.cut (fun φ' h' => Fr.sub [(0, (.pointer (some ⟨b0, 0, none⟩))), (1, (.int .i64 a1)), (4, (.int .i64 0)), (7, (.bool (decide (a1 ≤ 1)))), (11, (.bool (decide (a1 > 200)))), (5, (.int .i64 x2))] φ' ∧ Mod [some b0] h0 h' ∧ Sep [some b0] h0.size h' [boxO b0 [u0_0, (.int .i64 x3), (.int .u64 x4)]]) ?_ ?_
  ·by_cases c2 : (decide (a1 > 200)) = true
   ·rw [if_pos c2] at hy1
    refine W.condT rfl c2 ?_
    refine W.region ?_
    refine RL.opD (by decide) (opv_move rfl rfl) ?_
    refine RL.opD (by decide) (opv_mul rfl rfl rfl) ?_
    refine RL.opD (by decide) (opv_move rfl rfl) ?_
    obtain ⟨x5, hx5, hy1⟩ := Option.bind_eq_some_iff.1 hy1
    have S_6 : Sep [some b0] h0.size hp1 [boxO b0 [u0_0, (.int .i64 x1.2.1), (.int .u64 x1.2.2)]] := Sep.sel S_4 [0] (by decide)
    have S_5 : Sep [some b0] hp1.size hp1 [boxO b0 [u0_0, (.int .i64 x1.2.1), (.int .u64 x1.2.2)]] := Sep.own S_6 _
    refine RL.op _ (by decide) (opv_call (cap := []) (spec_l00Src_next_ok _ lo (Nat.le_trans hlo (Mod.size X_1)) _ _ _ (SL.mod g0_0 X_1 hlo hB) _ _ S_5 (Sep.ge (L := [boxO b0 [u0_0, (.int .i64 x1.2.1), (.int .u64 x1.2.2)]]) S_6 hlo hB) _ hx5) rfl rfl ⟨rfl, trivial⟩ Tryz.func53 rfl rfl) ?_
    rintro _ hp2 ⟨rfl, MT_2, T_2⟩
    have S_7 : Sep [some b0] h0.size hp1 ([boxO b0 [u0_0, (.int .i64 x1.2.1), (.int .u64 x1.2.2)]] ++ []) := Sep.sel S_4 [0] (by decide)
    obtain ⟨X_2, S_8⟩ := Sep.turn X_1 S_7 MT_2 T_2
    refine RL.opD (by decide) (opv_add rfl rfl rfl) ?_
    refine RL.opD (by decide) (opv_assign rfl rfl) ?_
    refine RL.nil ?_
    have ey1 := Option.some.inj hy1
    simp only [Prod.mk.injEq] at ey1
    obtain ⟨rfl, rfl, rfl⟩ := ey1
    refine onlyN ?_
    exact ⟨⟨rfl, rfl, rfl, rfl, rfl, rfl, trivial⟩, X_2, (Sep.sel S_8 [0] (by decide))⟩
   ·rw [if_neg c2] at hy1
    have c2 := eq_false_of_ne_true c2
    refine W.condF rfl c2 ?_
    refine W.skip ?_
    have ey1 := Option.some.inj hy1
    simp only [Prod.mk.injEq] at ey1
    obtain ⟨rfl, rfl, rfl⟩ := ey1
    refine onlyN ?_
    exact ⟨⟨rfl, rfl, rfl, rfl, rfl, rfl, trivial⟩, X_1, (Sep.sel S_4 [0] (by decide))⟩
  rintro φ' hp3 ⟨hs1, X_3, S_9⟩
  refine thnN ?_
  refine W.sub hs1 ?_
  refine W.seq ?_
  refine W.region ?_
  refine RL.opD (by decide) (opv_move rfl rfl) ?_
  refine RL.opD (by decide) (opv_move rfl rfl) ?_
  by_cases nc3 : a1 = 0
  ·rw [if_pos nc3] at hp; cases hp
  rw [if_neg nc3] at hp
  have c3 : a1 ≠ 0 := nc3
  refine RL.opD (by decide) (opv_rem rfl c3 rfl rfl) ?_
  refine RL.opD (by decide) (opv_assign rfl rfl) ?_
  refine RL.nil ?_
  refine thnN ?_
  refine W.ret ?_
  have er := Option.some.inj hp
  subst er
  exact Rt.one rfl rfl ⟨rfl, X_3, (Sep.sel S_9 [0] (by decide))⟩

end Go.H
