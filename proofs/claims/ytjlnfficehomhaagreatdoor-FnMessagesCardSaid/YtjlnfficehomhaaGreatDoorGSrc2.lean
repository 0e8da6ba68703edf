/- Functions of the program: what each computes, as a plain function, and that the call comes to it. Written by a program (wip/gen). -/
import Derived.Test.YtjlnfficehomhaaGreatDoorGBase
import Derived.Test.YtjlnfficehomhaaGreatDoorGSrc
import Derived.Test.YtjlnfficehomhaaGreatDoorLibB
import Derived.Test.YtjlnfficehomhaaGreatDoorProg
import Derived.KernelRfl
set_option linter.unusedVariables false
namespace Go.H
open Go Go.Proofs



noncomputable def spec_l00Src_one (a0_0 : List (Int)) (a0_1 : Int) (a0_2 : Int) (a1 : Int) : Option (Bool × Int × Int) :=
 ((spec_l00Src_pick a0_0 a0_1 a0_2 a1).bind fun (x1 : (Int × Int × Int)) => some (x1.1 == 0, x1.2.1, x1.2.2))

noncomputable def spec_l01DrawPlain (a0_0 : List (Int)) (a0_1 : Int) (a0_2 : Int) : Option ((Option Nat) × Int × Int) :=
 ((spec_l00Src_pick a0_0 a0_1 a0_2 129).bind fun (x1 : (Int × Int × Int)) => ((spec_l00Src_one a0_0 x1.2.1 x1.2.2 4).bind fun (x2 : (Bool × Int × Int)) => (if x2.1 = true then some (fop .quo .f32 (fofi .f32 (IntKind.wrap .i64 (x1.1 - 64))) (some 1088421888), x2.2.1, x2.2.2) else some (fop .quo .f32 (fofi .f32 (IntKind.wrap .i64 (x1.1 - 64))) (some 1098907648), x2.2.1, x2.2.2))))

noncomputable def spec_l01From (a0 : Int) : Option (Option Nat) :=
 ((ffrom .f32 (IntKind.wrap .u32 a0)).bind fun (x1 : Option Nat) => some x1)

noncomputable def spec_l00Src_among (a0_0 : List (Int)) (a0_1 : Int) (a0_2 : Int) (a1 : List (Int)) : Option (Int × Int × Int) :=
 ((spec_l00Src_pick a0_0 a0_1 a0_2 (a1.length : Int)).bind fun (x1 : (Int × Int × Int)) => ((idx a1 x1.1).bind fun (x2 : Int) => some (x2, x1.2.1, x1.2.2)))

noncomputable def spec_l00Src_among_o (a0_0 : List (Int)) (a0_1 : Int) (a0_2 : Int) (a1 : List (Int)) : Option (Int × Int × Int × (List (Int))) :=
 ((spec_l00Src_pick a0_0 a0_1 a0_2 (a1.length : Int)).bind fun (x1 : (Int × Int × Int)) => ((idx a1 x1.1).bind fun (x2 : Int) => some (x2, x1.2.1, x1.2.2, a1)))

noncomputable def spec_l01DrawFloat (a0_0 : List (Int)) (a0_1 : Int) (a0_2 : Int) : Option ((Option Nat) × Int × Int) :=
 ((spec_l00Src_one a0_0 a0_1 a0_2 12).bind fun (x1 : (Bool × Int × Int)) => (if (!x1.1) = true then ((spec_l01DrawPlain a0_0 x1.2.1 x1.2.2).bind fun (x2 : ((Option Nat) × Int × Int)) => some (x2.1, x2.2.1, x2.2.2)) else ((spec_l00Src_pick a0_0 x1.2.1 x1.2.2 4).bind fun (x3 : (Int × Int × Int)) => (if (x3.1 == 0) = true then ((spec_l00Src_among_o a0_0 x3.2.1 x3.2.2 [0, 2147483648, 2139095040, 4286578688, 2143289344, 1, 2139095039, 8388608, 8388607, 2147483649]).bind fun (x4 : (Int × Int × Int × (List (Int)))) => ((spec_l01From x4.1).bind fun (x5 : Option Nat) => some (x5, x4.2.1, x4.2.2.1))) else (if (x3.1 == 1) = true then ((spec_l00Src_pick a0_0 x3.2.1 x3.2.2 65536).bind fun (x6 : (Int × Int × Int)) => ((spec_l00Src_pick a0_0 x6.2.1 x6.2.2 65536).bind fun (x7 : (Int × Int × Int)) => ((spec_l01From (IntKind.wrap .i64 ((IntKind.wrap .i64 (x6.1 * 65536)) + x7.1))).bind fun (x8 : Option Nat) => some (x8, x7.2.1, x7.2.2)))) else (if (x3.1 == 2) = true then ((spec_l00Src_pick a0_0 x3.2.1 x3.2.2 65536).bind fun (x9 : (Int × Int × Int)) => ((spec_l01From (IntKind.wrap .i64 (x9.1 * 65536))).bind fun (x10 : Option Nat) => some (x10, x9.2.1, x9.2.2))) else ((spec_l01DrawPlain a0_0 x3.2.1 x3.2.2).bind fun (x11 : ((Option Nat) × Int × Int)) => ((spec_l00Src_among_o a0_0 x11.2.1 x11.2.2 [8388608, 2130706432, 1610612736, 536870912]).bind fun (x12 : (Int × Int × Int × (List (Int)))) => ((spec_l01From x12.1).bind fun (x13 : Option Nat) => some (fop .mul .f32 x11.1 x13, x12.2.1, x12.2.2.1))))))))))

set_option maxRecDepth 20000 in
theorem spec_l00Src_one_ok (h0 : Heap) (lo : Nat) (hlo : lo ≤ h0.size) (b0 : Nat) (u0_0 : Value) (a0_0 : List (Int)) (g0_0 : SL (kI .u8) lo h0 u0_0 a0_0) (a0_1 : Int) (a0_2 : Int) (a1 : Int) (S0 : Sep [some b0] h0.size h0 [boxO b0 [u0_0, (.int .i64 a0_1), (.int .u64 a0_2)]]) (hB : ∀ b, some b ∈ [some b0] → lo ≤ b) (r : (Bool × Int × Int)) (hp : spec_l00Src_one a0_0 a0_1 a0_2 a1 = some r) : CallsH Tryz.prog 34 ([(.pointer (some ⟨b0, 0, none⟩)), (.int .i64 a1)].toArray ++ [].toArray) h0 (fun v h' => v = (.bool r.1) ∧ Mod [some b0] h0 h' ∧ Sep [some b0] h0.size h' [boxO b0 [u0_0, (.int .i64 r.2.1), (.int .u64 r.2.2)]]) := by
 unfold spec_l00Src_one at hp
 refine callsH_of_W (l := [(.pointer (some ⟨b0, 0, none⟩)), (.int .i64 a1)]) (cap := []) 9 Tryz.func34 rfl rfl rfl ?_
 refine W.seq ?_
 refine W.region ?_
 refine RL.opD (by decide) (opv_assign rfl rfl) ?_
 refine RL.nil ?_
 refine thnN ?_
 refine W.seq ?_
 refine W.region ?_
 refine RL.opD (by decide) (opv_move rfl rfl) ?_
 refine RL.opD (by decide) (opv_move rfl rfl) ?_
 obtain ⟨x1, hx1, hp⟩ := Option.bind_eq_some_iff.1 hp
 have S_2 : Sep [some b0] h0.size h0 [boxO b0 [u0_0, (.int .i64 a0_1), (.int .u64 a0_2)]] := Sep.sel S0 [0] (by decide)
 have S_1 : Sep [some b0] h0.size h0 [boxO b0 [u0_0, (.int .i64 a0_1), (.int .u64 a0_2)]] := Sep.own S_2 _
 refine RL.op _ (by decide) (opv_call (cap := []) (spec_l00Src_pick_ok _ lo hlo _ _ _ g0_0 _ _ _ S_1 (Sep.ge (L := [boxO b0 [u0_0, (.int .i64 a0_1), (.int .u64 a0_2)]]) S_2 hlo hB) _ hx1) rfl rfl ⟨rfl, rfl, trivial⟩ Tryz.func33 rfl rfl) ?_
 rintro _ hp1 ⟨rfl, MT_1, T_1⟩
 have S_3 : Sep [some b0] h0.size h0 ([boxO b0 [u0_0, (.int .i64 a0_1), (.int .u64 a0_2)]] ++ []) := Sep.sel S0 [0] (by decide)
 obtain ⟨X_1, S_4⟩ := Sep.turn (Mod.refl [some b0] h0) S_3 MT_1 T_1
 refine RL.opD (by decide) (opv_icmp rfl rfl rfl rfl) ?_
 refine RL.opD (by decide) (opv_assign rfl rfl) ?_
 refine RL.nil ?_
 refine thnN ?_
 refine W.ret ?_
 have er := Option.some.inj hp
 subst er
 exact Rt.one rfl rfl ⟨rfl, X_1, (Sep.sel S_4 [0] (by decide))⟩

set_option maxRecDepth 20000 in
theorem spec_l01DrawPlain_ok (h0 : Heap) (lo : Nat) (hlo : lo ≤ h0.size) (b0 : Nat) (u0_0 : Value) (a0_0 : List (Int)) (g0_0 : SL (kI .u8) lo h0 u0_0 a0_0) (a0_1 : Int) (a0_2 : Int) (S0 : Sep [some b0] h0.size h0 [boxO b0 [u0_0, (.int .i64 a0_1), (.int .u64 a0_2)]]) (hB : ∀ b, some b ∈ [some b0] → lo ≤ b) (r : ((Option Nat) × Int × Int)) (hp : spec_l01DrawPlain a0_0 a0_1 a0_2 = some r) : CallsH Tryz.prog 38 ([(.pointer (some ⟨b0, 0, none⟩))].toArray ++ [].toArray) h0 (fun v h' => IsF .f32 v r.1 ∧ Mod [some b0] h0 h' ∧ Sep [some b0] h0.size h' [boxO b0 [u0_0, (.int .i64 r.2.1), (.int .u64 r.2.2)]]) := by
 unfold spec_l01DrawPlain at hp
 refine callsH_of_W (l := [(.pointer (some ⟨b0, 0, none⟩))]) (cap := []) 15 Tryz.func38 rfl rfl rfl ?_
 refine W.seq ?_
 refine W.region ?_
 refine RL.opD (by decide) (opv_assign rfl rfl) ?_
 refine RL.nil ?_
 refine thnN ?_
 refine W.seq ?_
 refine W.region ?_
 refine RL.opD (by decide) (opv_move rfl rfl) ?_
 obtain ⟨x1, hx1, hp⟩ := Option.bind_eq_some_iff.1 hp
 have S_2 : Sep [some b0] h0.size h0 [boxO b0 [u0_0, (.int .i64 a0_1), (.int .u64 a0_2)]] := Sep.sel S0 [0] (by decide)
 have S_1 : Sep [some b0] h0.size h0 [boxO b0 [u0_0, (.int .i64 a0_1), (.int .u64 a0_2)]] := Sep.own S_2 _
 refine RL.op _ (by decide) (opv_call (cap := []) (spec_l00Src_pick_ok _ lo hlo _ _ _ g0_0 _ _ _ S_1 (Sep.ge (L := [boxO b0 [u0_0, (.int .i64 a0_1), (.int .u64 a0_2)]]) S_2 hlo hB) _ hx1) rfl rfl ⟨rfl, rfl, trivial⟩ Tryz.func33 rfl rfl) ?_
 rintro _ hp1 ⟨rfl, MT_1, T_1⟩
 have S_3 : Sep [some b0] h0.size h0 ([boxO b0 [u0_0, (.int .i64 a0_1), (.int .u64 a0_2)]] ++ []) := Sep.sel S0 [0] (by decide)
 obtain ⟨X_1, S_4⟩ := Sep.turn (Mod.refl [some b0] h0) S_3 MT_1 T_1
 refine RL.opD (by decide) (opv_sub rfl rfl rfl) ?_
 refine RL.opD (by decide) (opv_assign rfl rfl) ?_
 refine RL.nil ?_
 refine thnN ?_
 refine W.seq ?_
 refine W.seq ?_
 refine W.region ?_
 refine RL.opD (by decide) (opv_move rfl rfl) ?_
 obtain ⟨x2, hx2, hp⟩ := Option.bind_eq_some_iff.1 hp
 have S_6 : Sep [some b0] h0.size hp1 [boxO b0 [u0_0, (.int .i64 x1.2.1), (.int .u64 x1.2.2)]] := Sep.sel S_4 [0] (by decide)
 have S_5 : Sep [some b0] hp1.size hp1 [boxO b0 [u0_0, (.int .i64 x1.2.1), (.int .u64 x1.2.2)]] := Sep.own S_6 _
 refine RL.op _ (by decide) (opv_call (cap := []) (spec_l00Src_one_ok _ lo (Nat.le_trans hlo (Mod.size X_1)) _ _ _ (SL.mod g0_0 X_1 hlo hB) _ _ _ S_5 (Sep.ge (L := [boxO b0 [u0_0, (.int .i64 x1.2.1), (.int .u64 x1.2.2)]]) S_6 hlo hB) _ hx2) rfl rfl ⟨rfl, rfl, trivial⟩ Tryz.func34 rfl rfl) ?_
 rintro _ hp2 ⟨rfl, MT_2, T_2⟩
 have S_7 : Sep [some b0] h0.size hp1 ([boxO b0 [u0_0, (.int .i64 x1.2.1), (.int .u64 x1.2.2)]] ++ []) := Sep.sel S_4 [0] (by decide)
 obtain ⟨X_2, S_8⟩ := Sep.turn X_1 S_7 MT_2 T_2
 refine RL.nil ?_
 refine thnN ?_
 by_cases c1 : x2.1 = true
 ·rw [if_pos c1] at hp
  refine W.condT rfl c1 ?_
  refine W.seq ?_
  refine W.region ?_
  refine RL.opD (by decide) (opv_move rfl rfl) ?_
  refine RL.opF (by decide) (opv_i2f rfl (by rw [Tryz.underlying2]; rfl) Tryz.underlying66 rfl) ?_
  intro v1 fv1
  refine RL.opF (by decide) (opv_fop rfl rfl rfl rfl fv1 (isF_lit .f32 1088421888 (by decide) (by decide))) ?_
  intro v2 fv2
  refine RL.opD (by decide) (opv_assign rfl rfl) ?_
  refine RL.nil ?_
  refine thnN ?_
  refine W.ret ?_
  refine thnR ?_
  have er := Option.some.inj hp
  subst er
  exact Rt.one rfl rfl ⟨fv2, X_2, (Sep.sel S_8 [0] (by decide))⟩
 ·rw [if_neg c1] at hp
  have c1 := eq_false_of_ne_true c1
  refine W.condF rfl c1 ?_
  refine W.skip ?_
  refine thnN ?_
  refine W.seq ?_
  refine W.region ?_
  refine RL.opD (by decide) (opv_move rfl rfl) ?_
  refine RL.opF (by decide) (opv_i2f rfl (by rw [Tryz.underlying2]; rfl) Tryz.underlying66 rfl) ?_
  intro v3 fv3
  refine RL.opF (by decide) (opv_fop rfl rfl rfl rfl fv3 (isF_lit .f32 1098907648 (by decide) (by decide))) ?_
  intro v4 fv4
  refine RL.opD (by decide) (opv_assign rfl rfl) ?_
  refine RL.nil ?_
  refine thnN ?_
  refine W.ret ?_
  have er := Option.some.inj hp
  subst er
  exact Rt.one rfl rfl ⟨fv4, X_2, (Sep.sel S_8 [0] (by decide))⟩

set_option maxRecDepth 20000 in
theorem spec_l01From_ok (h0 : Heap) (a0 : Int) (r : Option Nat) (hp : spec_l01From a0 = some r) : CallsH Tryz.prog 54 ([(.int .i64 a0)].toArray ++ [].toArray) h0 (fun v h' => IsF .f32 v r ∧ h0 = h') := by
 unfold spec_l01From at hp
 refine callsH_of_W (l := [(.int .i64 a0)]) (cap := []) 6 Tryz.func54 rfl rfl rfl ?_
 refine W.seq ?_
 refine W.region ?_
 refine RL.opD (by decide) (opv_assign rfl rfl) ?_
 refine RL.nil ?_
 refine thnN ?_
 refine W.seq ?_
 refine W.region ?_
 refine RL.opD (by decide) (opv_move rfl rfl) ?_
 refine RL.opD (by decide) (opv_i2i rfl (by rw [Tryz.underlying2]; rfl) Tryz.underlying104 rfl) ?_
 obtain ⟨x1, hx1, hp⟩ := Option.bind_eq_some_iff.1 hp
 refine RL.opF (by decide) (opv_ext (vs := [(.int .u32 (IntKind.wrap .u32 a0))]) rfl rfl ⟨rfl, trivial⟩ Tryz.func77 rfl rfl rfl rfl (fun w => from32_run hx1 w)) ?_
 intro v1 fv1
 refine RL.opD (by decide) (opv_assign rfl rfl) ?_
 refine RL.nil ?_
 refine thnN ?_
 refine W.ret ?_
 have er := Option.some.inj hp
 subst er
 exact Rt.one rfl rfl ⟨fv1, rfl⟩

set_option maxRecDepth 20000 in
theorem spec_l00Src_among_ok (h0 : Heap) (lo : Nat) (hlo : lo ≤ h0.size) (b0 : Nat) (u0_0 : Value) (a0_0 : List (Int)) (g0_0 : SL (kI .u8) lo h0 u0_0 a0_0) (a0_1 : Int) (a0_2 : Int) (u1 : Value) (a1 : List (Int)) (g1 : SL (kI .i64) lo h0 u1 a1) (S0 : Sep [some b0] h0.size h0 [boxO b0 [u0_0, (.int .i64 a0_1), (.int .u64 a0_2)]]) (hB : ∀ b, some b ∈ [some b0] → lo ≤ b) (r : (Int × Int × Int)) (hp : spec_l00Src_among a0_0 a0_1 a0_2 a1 = some r) : CallsH Tryz.prog 55 ([(.pointer (some ⟨b0, 0, none⟩)), u1].toArray ++ [].toArray) h0 (fun v h' => v = (.int .i64 r.1) ∧ Mod [some b0] h0 h' ∧ Sep [some b0] h0.size h' [boxO b0 [u0_0, (.int .i64 r.2.1), (.int .u64 r.2.2)]]) := by
 unfold spec_l00Src_among at hp
 refine callsH_of_W (l := [(.pointer (some ⟨b0, 0, none⟩)), u1]) (cap := []) 12 Tryz.func55 rfl rfl rfl ?_
 refine W.seq ?_
 refine W.region ?_
 refine RL.opD (by decide) (opv_assign rfl rfl) ?_
 refine RL.nil ?_
 refine thnN ?_
 refine W.seq ?_
 refine W.region ?_
 refine RL.opD (by decide) (opv_move rfl rfl) ?_
 refine RL.opD (by decide) (opv_move rfl rfl) ?_
 refine RL.opD (by decide) (opv_move rfl rfl) ?_
 refine RL.opD (by decide) (opv_len rfl Tryz.underlying38 rfl g1) ?_
 obtain ⟨x1, hx1, hp⟩ := Option.bind_eq_some_iff.1 hp
 have S_2 : Sep [some b0] h0.size h0 [boxO b0 [u0_0, (.int .i64 a0_1), (.int .u64 a0_2)]] := Sep.sel S0 [0] (by decide)
 have S_1 : Sep [some b0] h0.size h0 [boxO b0 [u0_0, (.int .i64 a0_1), (.int .u64 a0_2)]] := Sep.own S_2 _
 refine RL.op _ (by decide) (opv_call (cap := []) (spec_l00Src_pick_ok _ lo hlo _ _ _ g0_0 _ _ _ S_1 (Sep.ge (L := [boxO b0 [u0_0, (.int .i64 a0_1), (.int .u64 a0_2)]]) S_2 hlo hB) _ hx1) rfl rfl ⟨rfl, rfl, trivial⟩ Tryz.func33 rfl rfl) ?_
 rintro _ hp1 ⟨rfl, MT_1, T_1⟩
 have S_3 : Sep [some b0] h0.size h0 ([boxO b0 [u0_0, (.int .i64 a0_1), (.int .u64 a0_2)]] ++ []) := Sep.sel S0 [0] (by decide)
 obtain ⟨X_1, S_4⟩ := Sep.turn (Mod.refl [some b0] h0) S_3 MT_1 T_1
 obtain ⟨x2, hx2, hp⟩ := Option.bind_eq_some_iff.1 hp
 refine RL.op _ (by decide) (opv_index rfl Tryz.underlying38 (by rw [Tryz.size2]; rfl) rfl rfl (SL.mod g1 X_1 hlo hB) hx2) ?_
 rintro v1 _ ⟨fv1, rfl⟩
 refine RL.opD (by decide) (opv_loadI rfl Tryz.one2 rfl fv1 (SL.mod g1 X_1 hlo hB) hx2) ?_
 refine RL.opD (by decide) (opv_assign rfl rfl) ?_
 refine RL.nil ?_
 refine thnN ?_
 refine W.ret ?_
 have er := Option.some.inj hp
 subst er
 exact Rt.one rfl rfl ⟨rfl, X_1, (Sep.sel S_4 [0] (by decide))⟩

set_option maxRecDepth 20000 in
theorem spec_l00Src_among_o_ok (h0 : Heap) (lo : Nat) (hlo : lo ≤ h0.size) (b0 : Nat) (u0_0 : Value) (a0_0 : List (Int)) (g0_0 : SL (kI .u8) lo h0 u0_0 a0_0) (a0_1 : Int) (a0_2 : Int) (u1 : Value) (a1 : List (Int)) (S0 : Sep [some b0, u1.ownBlock] h0.size h0 [boxO b0 [u0_0, (.int .i64 a0_1), (.int .u64 a0_2)], ownO (kI .i64) 2 u1 a1]) (hB : ∀ b, some b ∈ [some b0, u1.ownBlock] → lo ≤ b) (r : (Int × Int × Int × (List (Int)))) (hp : spec_l00Src_among_o a0_0 a0_1 a0_2 a1 = some r) : CallsH Tryz.prog 55 ([(.pointer (some ⟨b0, 0, none⟩)), u1].toArray ++ [].toArray) h0 (fun v h' => v = (.int .i64 r.1) ∧ Mod [some b0, u1.ownBlock] h0 h' ∧ Sep [some b0, u1.ownBlock] h0.size h' [boxO b0 [u0_0, (.int .i64 r.2.1), (.int .u64 r.2.2.1)], ownO (kI .i64) 2 u1 r.2.2.2]) := by
 unfold spec_l00Src_among_o at hp
 refine callsH_of_W (l := [(.pointer (some ⟨b0, 0, none⟩)), u1]) (cap := []) 12 Tryz.func55 rfl rfl rfl ?_
 refine W.seq ?_
 refine W.region ?_
 refine RL.opD (by decide) (opv_assign rfl rfl) ?_
 refine RL.nil ?_
 refine thnN ?_
 refine W.seq ?_
 refine W.region ?_
 refine RL.opD (by decide) (opv_move rfl rfl) ?_
 refine RL.opD (by decide) (opv_move rfl rfl) ?_
 refine RL.opD (by decide) (opv_move rfl rfl) ?_
 refine RL.opD (by decide) (opv_len rfl Tryz.underlying38 rfl (ownO.read (Sep.at (o := ownO (kI .i64) 2 u1 a1) S0 1 rfl))) ?_
 obtain ⟨x1, hx1, hp⟩ := Option.bind_eq_some_iff.1 hp
 have S_2 : Sep [some b0, u1.ownBlock] h0.size h0 [boxO b0 [u0_0, (.int .i64 a0_1), (.int .u64 a0_2)]] := Sep.sel S0 [0] (by decide)
 have S_1 : Sep [some b0] h0.size h0 [boxO b0 [u0_0, (.int .i64 a0_1), (.int .u64 a0_2)]] := Sep.own S_2 _
 refine RL.op _ (by decide) (opv_call (cap := []) (spec_l00Src_pick_ok _ lo hlo _ _ _ g0_0 _ _ _ S_1 (Sep.ge (L := [boxO b0 [u0_0, (.int .i64 a0_1), (.int .u64 a0_2)]]) S_2 hlo hB) _ hx1) rfl rfl ⟨rfl, rfl, trivial⟩ Tryz.func33 rfl rfl) ?_
 rintro _ hp1 ⟨rfl, MT_1, T_1⟩
 have S_3 : Sep [some b0, u1.ownBlock] h0.size h0 ([boxO b0 [u0_0, (.int .i64 a0_1), (.int .u64 a0_2)]] ++ [ownO (kI .i64) 2 u1 a1]) := Sep.sel S0 [0, 1] (by decide)
 obtain ⟨X_1, S_4⟩ := Sep.turn (Mod.refl [some b0, u1.ownBlock] h0) S_3 MT_1 T_1
 obtain ⟨x2, hx2, hp⟩ := Option.bind_eq_some_iff.1 hp
 refine RL.op _ (by decide) (opv_index rfl Tryz.underlying38 (by rw [Tryz.size2]; rfl) rfl rfl (ownO.read (Sep.at (o := ownO (kI .i64) 2 u1 a1) S_4 1 rfl)) hx2) ?_
 rintro v1 _ ⟨fv1, rfl⟩
 refine RL.opD (by decide) (opv_loadI rfl Tryz.one2 rfl fv1 (ownO.read (Sep.at (o := ownO (kI .i64) 2 u1 a1) S_4 1 rfl)) hx2) ?_
 refine RL.opD (by decide) (opv_assign rfl rfl) ?_
 refine RL.nil ?_
 refine thnN ?_
 refine W.ret ?_
 have er := Option.some.inj hp
 subst er
 exact Rt.one rfl rfl ⟨rfl, X_1, (Sep.sel S_4 [0, 1] (by decide))⟩

set_option maxRecDepth 20000 in
theorem spec_l01DrawFloat_ok (h0 : Heap) (lo : Nat) (hlo : lo ≤ h0.size) (b0 : Nat) (u0_0 : Value) (a0_0 : List (Int)) (g0_0 : SL (kI .u8) lo h0 u0_0 a0_0) (a0_1 : Int) (a0_2 : Int) (S0 : Sep [some b0] h0.size h0 [boxO b0 [u0_0, (.int .i64 a0_1), (.int .u64 a0_2)]]) (hB : ∀ b, some b ∈ [some b0] → lo ≤ b) (r : ((Option Nat) × Int × Int)) (hp : spec_l01DrawFloat a0_0 a0_1 a0_2 = some r) : CallsH Tryz.prog 39 ([(.pointer (some ⟨b0, 0, none⟩))].toArray ++ [].toArray) h0 (fun v h' => IsF .f32 v r.1 ∧ Mod [some b0] h0 h' ∧ Sep [some b0] h0.size h' [boxO b0 [u0_0, (.int .i64 r.2.1), (.int .u64 r.2.2)]]) := by
 unfold spec_l01DrawFloat at hp
 refine callsH_of_W (l := [(.pointer (some ⟨b0, 0, none⟩))]) (cap := []) 40 Tryz.func39 rfl rfl rfl ?_
 refine W.seq ?_
 refine W.region ?_
 refine RL.opD (by decide) (opv_assign rfl rfl) ?_
 refine RL.nil ?_
 refine thnN ?_
 refine W.seq ?_
 refine W.seq ?_
 refine W.region ?_
 refine RL.opD (by decide) (opv_move rfl rfl) ?_
 obtain ⟨x1, hx1, hp⟩ := Option.bind_eq_some_iff.1 hp
 have S_2 : Sep [some b0] h0.size h0 [boxO b0 [u0_0, (.int .i64 a0_1), (.int .u64 a0_2)]] := Sep.sel S0 [0] (by decide)
 have S_1 : Sep [some b0] h0.size h0 [boxO b0 [u0_0, (.int .i64 a0_1), (.int .u64 a0_2)]] := Sep.own S_2 _
 refine RL.op _ (by decide) (opv_call (cap := []) (spec_l00Src_one_ok _ lo hlo _ _ _ g0_0 _ _ _ S_1 (Sep.ge (L := [boxO b0 [u0_0, (.int .i64 a0_1), (.int .u64 a0_2)]]) S_2 hlo hB) _ hx1) rfl rfl ⟨rfl, rfl, trivial⟩ Tryz.func34 rfl rfl) ?_
 rintro _ hp1 ⟨rfl, MT_1, T_1⟩
 have S_3 : Sep [some b0] h0.size h0 ([boxO b0 [u0_0, (.int .i64 a0_1), (.int .u64 a0_2)]] ++ []) := Sep.sel S0 [0] (by decide)
 obtain ⟨X_1, S_4⟩ := Sep.turn (Mod.refl [some b0] h0) S_3 MT_1 T_1
 refine RL.opD (by decide) (opv_not rfl rfl) ?_
 refine RL.nil ?_
 refine thnN ?_
 by_cases c1 : (!x1.1) = true
 ·rw [if_pos c1] at hp
  refine W.condT rfl c1 ?_
  refine W.seq ?_
  refine W.region ?_
  refine RL.opD (by decide) (opv_move rfl rfl) ?_
  obtain ⟨x2, hx2, hp⟩ := Option.bind_eq_some_iff.1 hp
  have S_6 : Sep [some b0] h0.size hp1 [boxO b0 [u0_0, (.int .i64 x1.2.1), (.int .u64 x1.2.2)]] := Sep.sel S_4 [0] (by decide)
  have S_5 : Sep [some b0] hp1.size hp1 [boxO b0 [u0_0, (.int .i64 x1.2.1), (.int .u64 x1.2.2)]] := Sep.own S_6 _
  refine RL.op _ (by decide) (opv_call (cap := []) (spec_l01DrawPlain_ok _ lo (Nat.le_trans hlo (Mod.size X_1)) _ _ _ (SL.mod g0_0 X_1 hlo hB) _ _ S_5 (Sep.ge (L := [boxO b0 [u0_0, (.int .i64 x1.2.1), (.int .u64 x1.2.2)]]) S_6 hlo hB) _ hx2) rfl rfl ⟨rfl, trivial⟩ Tryz.func38 rfl rfl) ?_
  rintro v1 hp2 ⟨fv1, MT_2, T_2⟩
  have S_7 : Sep [some b0] h0.size hp1 ([boxO b0 [u0_0, (.int .i64 x1.2.1), (.int .u64 x1.2.2)]] ++ []) := Sep.sel S_4 [0] (by decide)
  obtain ⟨X_2, S_8⟩ := Sep.turn X_1 S_7 MT_2 T_2
  refine RL.opD (by decide) (opv_assign rfl rfl) ?_
  refine RL.nil ?_
  refine thnN ?_
  refine W.ret ?_
  refine thnR ?_
  have er := Option.some.inj hp
  subst er
  exact Rt.one rfl rfl ⟨fv1, X_2, (Sep.sel S_8 [0] (by decide))⟩
 ·rw [if_neg c1] at hp
  have c1 := eq_false_of_ne_true c1
  refine W.condF rfl c1 ?_
  refine W.skip ?_
  refine thnN ?_
  refine W.seq ?_
  refine W.seq ?_
  refine W.region ?_
  refine RL.opD (by decide) (opv_move rfl rfl) ?_
  obtain ⟨x3, hx3, hp⟩ := Option.bind_eq_some_iff.1 hp
  have S_10 : Sep [some b0] h0.size hp1 [boxO b0 [u0_0, (.int .i64 x1.2.1), (.int .u64 x1.2.2)]] := Sep.sel S_4 [0] (by decide)
  have S_9 : Sep [some b0] hp1.size hp1 [boxO b0 [u0_0, (.int .i64 x1.2.1), (.int .u64 x1.2.2)]] := Sep.own S_10 _
  refine RL.op _ (by decide) (opv_call (cap := []) (spec_l00Src_pick_ok _ lo (Nat.le_trans hlo (Mod.size X_1)) _ _ _ (SL.mod g0_0 X_1 hlo hB) _ _ _ S_9 (Sep.ge (L := [boxO b0 [u0_0, (.int .i64 x1.2.1), (.int .u64 x1.2.2)]]) S_10 hlo hB) _ hx3) rfl rfl ⟨rfl, rfl, trivial⟩ Tryz.func33 rfl rfl) ?_
  rintro _ hp3 ⟨rfl, MT_3, T_3⟩
  have S_11 : Sep [some b0] h0.size hp1 ([boxO b0 [u0_0, (.int .i64 x1.2.1), (.int .u64 x1.2.2)]] ++ []) := Sep.sel S_4 [0] (by decide)
  obtain ⟨X_3, S_12⟩ := Sep.turn X_1 S_11 MT_3 T_3
  refine RL.nil ?_
  refine thnN ?_
  refine W.block ?_
  refine W.seq ?_
  refine W.region ?_
  refine RL.opD (by decide) (opv_icmp rfl rfl rfl rfl) ?_
  refine RL.opD (by decide) (opv_assign rfl rfl) ?_
  refine RL.nil ?_
  refine thnN ?_
  by_cases c2 : (x3.1 == 0) = true
  ·rw [if_pos c2] at hp
   refine W.condT rfl c2 ?_
   refine W.seq ?_
   refine W.region ?_
   refine RL.opD (by decide) (opv_move rfl rfl) ?_
   refine RL.op _ (by decide) (opS_litN (K := (kI .i64)) (us := [(.int .i64 0), (.int .i64 2147483648), (.int .i64 2139095040), (.int .i64 4286578688), (.int .i64 2143289344), (.int .i64 1), (.int .i64 2139095039), (.int .i64 8388608), (.int .i64 8388607), (.int .i64 2147483649)]) (zs := [0, 2147483648, 2139095040, 4286578688, 2143289344, 1, 2139095039, 8388608, 8388607, 2147483649]) [(0, [(.int .i64 0)]), (1, [(.int .i64 2147483648)]), (2, [(.int .i64 2139095040)]), (3, [(.int .i64 4286578688)]), (4, [(.int .i64 2143289344)]), (5, [(.int .i64 1)]), (6, [(.int .i64 2139095039)]), (7, [(.int .i64 8388608)]), (8, [(.int .i64 8388607)]), (9, [(.int .i64 2147483649)])] [(0, (.int .i64 0)), (1, (.int .i64 2147483648)), (2, (.int .i64 2139095040)), (3, (.int .i64 4286578688)), (4, (.int .i64 2143289344)), (5, (.int .i64 1)), (6, (.int .i64 2139095039)), (7, (.int .i64 8388608)), (8, (.int .i64 8388607)), (9, (.int .i64 2147483649))] rfl Tryz.underlying38 Tryz.einfo2 rfl rfl ⟨⟨rfl, rfl, rfl, rfl⟩, ⟨rfl, rfl, rfl, rfl⟩, ⟨rfl, rfl, rfl, rfl⟩, ⟨rfl, rfl, rfl, rfl⟩, ⟨rfl, rfl, rfl, rfl⟩, ⟨rfl, rfl, rfl, rfl⟩, ⟨rfl, rfl, rfl, rfl⟩, ⟨rfl, rfl, rfl, rfl⟩, ⟨rfl, rfl, rfl, rfl⟩, ⟨rfl, rfl, rfl, rfl⟩, trivial⟩ rfl rfl (RelL.ints (k := .i64) _) rfl rfl) ?_
   rintro v2 hp4 ⟨MT_4, T_4⟩
   obtain ⟨X_4, S_13⟩ := Sep.turn0 X_3 S_12 MT_4 T_4
   obtain ⟨x4, hx4, hp⟩ := Option.bind_eq_some_iff.1 hp
   have S_15 : Sep [some b0] h0.size hp4 [boxO b0 [u0_0, (.int .i64 x3.2.1), (.int .u64 x3.2.2)], ownO (kI .i64) 2 v2 [0, 2147483648, 2139095040, 4286578688, 2143289344, 1, 2139095039, 8388608, 8388607, 2147483649]] := Sep.sel S_13 [1, 0] (by decide)
   have S_14 : Sep [some b0, v2.ownBlock] hp4.size hp4 [boxO b0 [u0_0, (.int .i64 x3.2.1), (.int .u64 x3.2.2)], ownO (kI .i64) 2 v2 [0, 2147483648, 2139095040, 4286578688, 2143289344, 1, 2139095039, 8388608, 8388607, 2147483649]] := Sep.own S_15 _
   refine RL.op _ (by decide) (opv_call (cap := []) (spec_l00Src_among_o_ok _ lo (Nat.le_trans hlo (Mod.size X_4)) _ _ _ (SL.mod g0_0 X_4 hlo hB) _ _ _ _ S_14 (Sep.ge (L := [boxO b0 [u0_0, (.int .i64 x3.2.1), (.int .u64 x3.2.2)], ownO (kI .i64) 2 v2 [0, 2147483648, 2139095040, 4286578688, 2143289344, 1, 2139095039, 8388608, 8388607, 2147483649]]) S_15 hlo hB) _ hx4) rfl rfl ⟨rfl, rfl, trivial⟩ Tryz.func55 rfl rfl) ?_
   rintro _ hp5 ⟨rfl, MT_5, T_5⟩
   have S_16 : Sep [some b0] h0.size hp4 ([boxO b0 [u0_0, (.int .i64 x3.2.1), (.int .u64 x3.2.2)], ownO (kI .i64) 2 v2 [0, 2147483648, 2139095040, 4286578688, 2143289344, 1, 2139095039, 8388608, 8388607, 2147483649]] ++ []) := Sep.sel S_13 [1, 0] (by decide)
   obtain ⟨X_5, S_17⟩ := Sep.turn X_4 S_16 MT_5 T_5
   obtain ⟨x5, hx5, hp⟩ := Option.bind_eq_some_iff.1 hp
   refine RL.op _ (by decide) (opv_call (cap := []) (spec_l01From_ok _ _ _ hx5) rfl rfl ⟨rfl, trivial⟩ Tryz.func54 rfl rfl) ?_
   rintro v3 _ ⟨fv3, rfl⟩
   refine RL.opD (by decide) (opv_assign rfl rfl) ?_
   refine RL.nil ?_
   refine thnN ?_
   refine W.ret ?_
   refine blkR ?_
   refine thnR ?_
   have er := Option.some.inj hp
   subst er
   exact Rt.one rfl rfl ⟨fv3, X_5, (Sep.sel S_17 [0] (by decide))⟩
  ·rw [if_neg c2] at hp
   have c2 := eq_false_of_ne_true c2
   refine W.condF rfl c2 ?_
   refine W.seq ?_
   refine W.region ?_
   refine RL.opD (by decide) (opv_icmp rfl rfl rfl rfl) ?_
   refine RL.opD (by decide) (opv_assign rfl rfl) ?_
   refine RL.nil ?_
   refine thnN ?_
   by_cases c3 : (x3.1 == 1) = true
   ·rw [if_pos c3] at hp
    refine W.condT rfl c3 ?_
    refine W.seq ?_
    refine W.region ?_
    refine RL.opD (by decide) (opv_move rfl rfl) ?_
    obtain ⟨x6, hx6, hp⟩ := Option.bind_eq_some_iff.1 hp
    have S_19 : Sep [some b0] h0.size hp3 [boxO b0 [u0_0, (.int .i64 x3.2.1), (.int .u64 x3.2.2)]] := Sep.sel S_12 [0] (by decide)
    have S_18 : Sep [some b0] hp3.size hp3 [boxO b0 [u0_0, (.int .i64 x3.2.1), (.int .u64 x3.2.2)]] := Sep.own S_19 _
    refine RL.op _ (by decide) (opv_call (cap := []) (spec_l00Src_pick_ok _ lo (Nat.le_trans hlo (Mod.size X_3)) _ _ _ (SL.mod g0_0 X_3 hlo hB) _ _ _ S_18 (Sep.ge (L := [boxO b0 [u0_0, (.int .i64 x3.2.1), (.int .u64 x3.2.2)]]) S_19 hlo hB) _ hx6) rfl rfl ⟨rfl, rfl, trivial⟩ Tryz.func33 rfl rfl) ?_
    rintro _ hp6 ⟨rfl, MT_6, T_6⟩
    have S_20 : Sep [some b0] h0.size hp3 ([boxO b0 [u0_0, (.int .i64 x3.2.1), (.int .u64 x3.2.2)]] ++ []) := Sep.sel S_12 [0] (by decide)
    obtain ⟨X_6, S_21⟩ := Sep.turn X_3 S_20 MT_6 T_6
    refine RL.opD (by decide) (opv_mul rfl rfl rfl) ?_
    refine RL.opD (by decide) (opv_assign rfl rfl) ?_
    refine RL.nil ?_
    refine thnN ?_
    refine W.seq ?_
    refine W.region ?_
    refine RL.opD (by decide) (opv_move rfl rfl) ?_
    refine RL.opD (by decide) (opv_move rfl rfl) ?_
    obtain ⟨x7, hx7, hp⟩ := Option.bind_eq_some_iff.1 hp
    have S_23 : Sep [some b0] h0.size hp6 [boxO b0 [u0_0, (.int .i64 x6.2.1), (.int .u64 x6.2.2)]] := Sep.sel S_21 [0] (by decide)
    have S_22 : Sep [some b0] hp6.size hp6 [boxO b0 [u0_0, (.int .i64 x6.2.1), (.int .u64 x6.2.2)]] := Sep.own S_23 _
    refine RL.op _ (by decide) (opv_call (cap := []) (spec_l00Src_pick_ok _ lo (Nat.le_trans hlo (Mod.size X_6)) _ _ _ (SL.mod g0_0 X_6 hlo hB) _ _ _ S_22 (Sep.ge (L := [boxO b0 [u0_0, (.int .i64 x6.2.1), (.int .u64 x6.2.2)]]) S_23 hlo hB) _ hx7) rfl rfl ⟨rfl, rfl, trivial⟩ Tryz.func33 rfl rfl) ?_
    rintro _ hp7 ⟨rfl, MT_7, T_7⟩
    have S_24 : Sep [some b0] h0.size hp6 ([boxO b0 [u0_0, (.int .i64 x6.2.1), (.int .u64 x6.2.2)]] ++ []) := Sep.sel S_21 [0] (by decide)
    obtain ⟨X_7, S_25⟩ := Sep.turn X_6 S_24 MT_7 T_7
    refine RL.opD (by decide) (opv_add rfl rfl rfl) ?_
    obtain ⟨x8, hx8, hp⟩ := Option.bind_eq_some_iff.1 hp
    refine RL.op _ (by decide) (opv_call (cap := []) (spec_l01From_ok _ _ _ hx8) rfl rfl ⟨rfl, trivial⟩ Tryz.func54 rfl rfl) ?_
    rintro v4 _ ⟨fv4, rfl⟩
    refine RL.opD (by decide) (opv_assign rfl rfl) ?_
    refine RL.nil ?_
    refine thnN ?_
    refine W.ret ?_
    refine blkR ?_
    refine thnR ?_
    have er := Option.some.inj hp
    subst er
    exact Rt.one rfl rfl ⟨fv4, X_7, (Sep.sel S_25 [0] (by decide))⟩
   ·rw [if_neg c3] at hp
    have c3 := eq_false_of_ne_true c3
    refine W.condF rfl c3 ?_
    refine W.seq ?_
    refine W.region ?_
    refine RL.opD (by decide) (opv_icmp rfl rfl rfl rfl) ?_
    refine RL.opD (by decide) (opv_assign rfl rfl) ?_
    refine RL.nil ?_
    refine thnN ?_
    by_cases c4 : (x3.1 == 2) = true
    ·rw [if_pos c4] at hp
     refine W.condT rfl c4 ?_
     refine W.seq ?_
     refine W.region ?_
     refine RL.opD (by decide) (opv_move rfl rfl) ?_
     obtain ⟨x9, hx9, hp⟩ := Option.bind_eq_some_iff.1 hp
     have S_27 : Sep [some b0] h0.size hp3 [boxO b0 [u0_0, (.int .i64 x3.2.1), (.int .u64 x3.2.2)]] := Sep.sel S_12 [0] (by decide)
     have S_26 : Sep [some b0] hp3.size hp3 [boxO b0 [u0_0, (.int .i64 x3.2.1), (.int .u64 x3.2.2)]] := Sep.own S_27 _
     refine RL.op _ (by decide) (opv_call (cap := []) (spec_l00Src_pick_ok _ lo (Nat.le_trans hlo (Mod.size X_3)) _ _ _ (SL.mod g0_0 X_3 hlo hB) _ _ _ S_26 (Sep.ge (L := [boxO b0 [u0_0, (.int .i64 x3.2.1), (.int .u64 x3.2.2)]]) S_27 hlo hB) _ hx9) rfl rfl ⟨rfl, rfl, trivial⟩ Tryz.func33 rfl rfl) ?_
     rintro _ hp8 ⟨rfl, MT_8, T_8⟩
     have S_28 : Sep [some b0] h0.size hp3 ([boxO b0 [u0_0, (.int .i64 x3.2.1), (.int .u64 x3.2.2)]] ++ []) := Sep.sel S_12 [0] (by decide)
     obtain ⟨X_8, S_29⟩ := Sep.turn X_3 S_28 MT_8 T_8
     refine RL.opD (by decide) (opv_mul rfl rfl rfl) ?_
     obtain ⟨x10, hx10, hp⟩ := Option.bind_eq_some_iff.1 hp
     refine RL.op _ (by decide) (opv_call (cap := []) (spec_l01From_ok _ _ _ hx10) rfl rfl ⟨rfl, trivial⟩ Tryz.func54 rfl rfl) ?_
     rintro v5 _ ⟨fv5, rfl⟩
     refine RL.opD (by decide) (opv_assign rfl rfl) ?_
     refine RL.nil ?_
     refine thnN ?_
     refine W.ret ?_
     refine blkR ?_
     refine thnR ?_
     have er := Option.some.inj hp
     subst er
     exact Rt.one rfl rfl ⟨fv5, X_8, (Sep.sel S_29 [0] (by decide))⟩
    ·rw [if_neg c4] at hp
     have c4 := eq_false_of_ne_true c4
     refine W.condF rfl c4 ?_
     refine W.skip ?_
     refine blkN ?_
     refine thnN ?_
     refine W.seq ?_
     refine W.region ?_
     refine RL.opD (by decide) (opv_move rfl rfl) ?_
     obtain ⟨x11, hx11, hp⟩ := Option.bind_eq_some_iff.1 hp
     have S_31 : Sep [some b0] h0.size hp3 [boxO b0 [u0_0, (.int .i64 x3.2.1), (.int .u64 x3.2.2)]] := Sep.sel S_12 [0] (by decide)
     have S_30 : Sep [some b0] hp3.size hp3 [boxO b0 [u0_0, (.int .i64 x3.2.1), (.int .u64 x3.2.2)]] := Sep.own S_31 _
     refine RL.op _ (by decide) (opv_call (cap := []) (spec_l01DrawPlain_ok _ lo (Nat.le_trans hlo (Mod.size X_3)) _ _ _ (SL.mod g0_0 X_3 hlo hB) _ _ S_30 (Sep.ge (L := [boxO b0 [u0_0, (.int .i64 x3.2.1), (.int .u64 x3.2.2)]]) S_31 hlo hB) _ hx11) rfl rfl ⟨rfl, trivial⟩ Tryz.func38 rfl rfl) ?_
     rintro v6 hp9 ⟨fv6, MT_9, T_9⟩
     have S_32 : Sep [some b0] h0.size hp3 ([boxO b0 [u0_0, (.int .i64 x3.2.1), (.int .u64 x3.2.2)]] ++ []) := Sep.sel S_12 [0] (by decide)
     obtain ⟨X_9, S_33⟩ := Sep.turn X_3 S_32 MT_9 T_9
     refine RL.opD (by decide) (opv_move rfl rfl) ?_
     refine RL.op _ (by decide) (opS_litN (K := (kI .i64)) (us := [(.int .i64 8388608), (.int .i64 2130706432), (.int .i64 1610612736), (.int .i64 536870912)]) (zs := [8388608, 2130706432, 1610612736, 536870912]) [(0, [(.int .i64 8388608)]), (1, [(.int .i64 2130706432)]), (2, [(.int .i64 1610612736)]), (3, [(.int .i64 536870912)])] [(0, (.int .i64 8388608)), (1, (.int .i64 2130706432)), (2, (.int .i64 1610612736)), (3, (.int .i64 536870912))] rfl Tryz.underlying38 Tryz.einfo2 rfl rfl ⟨⟨rfl, rfl, rfl, rfl⟩, ⟨rfl, rfl, rfl, rfl⟩, ⟨rfl, rfl, rfl, rfl⟩, ⟨rfl, rfl, rfl, rfl⟩, trivial⟩ rfl rfl (RelL.ints (k := .i64) _) rfl rfl) ?_
     rintro v7 hp10 ⟨MT_10, T_10⟩
     obtain ⟨X_10, S_34⟩ := Sep.turn0 X_9 S_33 MT_10 T_10
     obtain ⟨x12, hx12, hp⟩ := Option.bind_eq_some_iff.1 hp
     have S_36 : Sep [some b0] h0.size hp10 [boxO b0 [u0_0, (.int .i64 x11.2.1), (.int .u64 x11.2.2)], ownO (kI .i64) 2 v7 [8388608, 2130706432, 1610612736, 536870912]] := Sep.sel S_34 [1, 0] (by decide)
     have S_35 : Sep [some b0, v7.ownBlock] hp10.size hp10 [boxO b0 [u0_0, (.int .i64 x11.2.1), (.int .u64 x11.2.2)], ownO (kI .i64) 2 v7 [8388608, 2130706432, 1610612736, 536870912]] := Sep.own S_36 _
     refine RL.op _ (by decide) (opv_call (cap := []) (spec_l00Src_among_o_ok _ lo (Nat.le_trans hlo (Mod.size X_10)) _ _ _ (SL.mod g0_0 X_10 hlo hB) _ _ _ _ S_35 (Sep.ge (L := [boxO b0 [u0_0, (.int .i64 x11.2.1), (.int .u64 x11.2.2)], ownO (kI .i64) 2 v7 [8388608, 2130706432, 1610612736, 536870912]]) S_36 hlo hB) _ hx12) rfl rfl ⟨rfl, rfl, trivial⟩ Tryz.func55 rfl rfl) ?_
     rintro _ hp11 ⟨rfl, MT_11, T_11⟩
     have S_37 : Sep [some b0] h0.size hp10 ([boxO b0 [u0_0, (.int .i64 x11.2.1), (.int .u64 x11.2.2)], ownO (kI .i64) 2 v7 [8388608, 2130706432, 1610612736, 536870912]] ++ []) := Sep.sel S_34 [1, 0] (by decide)
     obtain ⟨X_11, S_38⟩ := Sep.turn X_10 S_37 MT_11 T_11
     obtain ⟨x13, hx13, hp⟩ := Option.bind_eq_some_iff.1 hp
     refine RL.op _ (by decide) (opv_call (cap := []) (spec_l01From_ok _ _ _ hx13) rfl rfl ⟨rfl, trivial⟩ Tryz.func54 rfl rfl) ?_
     rintro v8 _ ⟨fv8, rfl⟩
     refine RL.opF (by decide) (opv_fop rfl rfl rfl rfl fv6 fv8) ?_
     intro v9 fv9
     refine RL.opD (by decide) (opv_assign rfl rfl) ?_
     refine RL.nil ?_
     refine thnN ?_
     refine W.ret ?_
     have er := Option.some.inj hp
     subst er
     exact Rt.one rfl rfl ⟨fv9, X_11, (Sep.sel S_38 [0] (by decide))⟩

end Go.H
