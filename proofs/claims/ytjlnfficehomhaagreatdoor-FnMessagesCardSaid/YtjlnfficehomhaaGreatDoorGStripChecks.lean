/- Functions of the program: what each computes, as a plain function, and that the call comes to it. Written by a program (wip/gen). -/
import Derived.Test.YtjlnfficehomhaaGreatDoorGBase
import Derived.Test.YtjlnfficehomhaaGreatDoorGSheet
import Derived.Test.YtjlnfficehomhaaGreatDoorGField
import Derived.Test.YtjlnfficehomhaaGreatDoorGMs
import Derived.Test.YtjlnfficehomhaaGreatDoorGChk
import Derived.Test.YtjlnfficehomhaaGreatDoorGFmt
import Derived.Test.YtjlnfficehomhaaGreatDoorGStr
import Derived.Test.YtjlnfficehomhaaGreatDoorLibB
import Derived.Test.YtjlnfficehomhaaGreatDoorProg
import Derived.KernelRfl
set_option linter.unusedVariables false
namespace Go.H
open Go Go.Proofs

theorem _root_.Go.Proofs.Tryz.einfo9 : elemInfo Tryz.prog 9 = some ((.string (⟨#[]⟩)), 1, 16) := by kernel_rfl

noncomputable def impl_hexOf (a0 : Option Nat) : Option ByteArray :=
 ((impl_BitsOf a0).bind fun (x1 : Int) => ((strconv_FormatInt x1 16).bind fun (x2 : ByteArray) => ((strings_Repeat (⟨#[48]⟩ : ByteArray) (IntKind.wrap .i64 (8 - (x2.size : Int)))).bind fun (x3 : ByteArray) => (if x3.size + x2.size ≤ 1000000000 then some (x3 ++ x2) else none))))

noncomputable def impl_joined (a0 : List (ByteArray)) : Option ByteArray :=
 (if ((a0.length : Int) == 0) = true then some (⟨#[110, 111, 110, 101]⟩ : ByteArray) else ((strings_Join a0 (⟨#[44]⟩ : ByteArray)).bind fun (x1 : ByteArray) => some x1))

noncomputable def impl_NumbersText.s0 (a0 : List (Option Nat)) (x1 : List (ByteArray)) (x2 : Int) : Option (((List (ByteArray)) × Int) ⊕ (Int × Bool × (List (ByteArray)))) :=
 (if (decide (x2 < (a0.length : Int))) = true then ((idx a0 x2).bind fun (x6 : Option Nat) => ((impl_hexOf x6).bind fun (x7 : ByteArray) => (if x1.length + [x7].length ≤ 1000000000 then some (.inl (x1 ++ [x7], IntKind.wrap .i64 (x2 + 1))) else none))) else some (.inr (x2, decide (x2 < (a0.length : Int)), x1)))

noncomputable def impl_NumbersText (a0 : List (Option Nat)) : Option (ByteArray × Bool) :=
 (if (decide ((a0.length : Int) > 256)) = true then some ((⟨#[]⟩ : ByteArray), false) else ((loopF (fun (s : ((List (ByteArray)) × Int)) => impl_NumbersText.s0 a0 s.1 s.2) (([] : List (ByteArray)), 0)).bind fun (⟨x3, x4, x5⟩ : (Int × Bool × (List (ByteArray)))) => ((impl_joined x5).bind fun (x8 : ByteArray) => some (x8, true))))

noncomputable def impl_StripChecks.s1 (a0_0 : Int) (a1_0 : List (Option Nat)) (x10 : (Int × Int)) (x11 : ByteArray) (x12 : Int) : Option ((ByteArray × Int) ⊕ (ByteArray × Int × Bool)) :=
 (if (decide (x12 < (IntKind.wrap .i64 (x10.1 + x10.2)))) = true then ((sub a1_0 (IntKind.wrap .i64 (x12 * a0_0)) (IntKind.wrap .i64 ((IntKind.wrap .i64 (x12 + 1)) * a0_0))).bind fun (x16 : List (Option Nat)) => ((impl_NumbersText x16).bind fun (x17 : (ByteArray × Bool)) => (if x11.size + x17.1.size ≤ 1000000000 then some (.inl (x11 ++ x17.1, IntKind.wrap .i64 (x12 + 1))) else none))) else some (.inr (x11, x12, decide (x12 < (IntKind.wrap .i64 (x10.1 + x10.2))))))

noncomputable def impl_StripChecks.s0 (a0_0 : Int) (a1_0 : List (Option Nat)) (x4 : List ((Int × Int))) (x5 : List (Int)) (x6 : Int) : Option (((List (Int)) × Int) ⊕ (Int × Bool × (List (Int)))) :=
 (if (decide (x6 < (x4.length : Int))) = true then ((idx x4 x6).bind fun (x10 : (Int × Int)) => ((loopF (fun (s : (ByteArray × Int)) => impl_StripChecks.s1 a0_0 a1_0 x10 s.1 s.2) ((⟨#[]⟩ : ByteArray), x10.1)).bind fun (⟨x13, x14, x15⟩ : (ByteArray × Int × Bool)) => ((impl_CheckOf 0 x13).bind fun (x18 : (Int × Bool)) => (if x5.length + [x18.1].length ≤ 1000000000 then some (.inl (x5 ++ [x18.1], IntKind.wrap .i64 (x6 + 1))) else none)))) else some (.inr (x6, decide (x6 < (x4.length : Int)), x5)))

noncomputable def impl_StripChecks (a0_0 : Int) (a0_1 : Int) (a0_2 : Bool) (a0_3 : List (Option Nat)) (a0_4 : List (Option Nat)) (a1_0 : List (Option Nat)) (a1_1 : List (Option Nat)) (a1_2 : List (Option Nat)) (a2 : Int) : Option ((List (Int)) × Bool) :=
 ((((impl_IsField a0_0 a0_1 a0_2 a0_3 a0_4 a1_0 a1_1 a1_2).bind fun (x2 : Bool) => (if (!x2) = true then some true else ((impl_areWorkers a2).bind fun (x3 : Bool) => some (!x3)))) : Option Bool).bind fun (x1 : Bool) => (if x1 = true then some (([] : List (Int)), false) else ((impl_stripsOf a0_0 a0_1 a0_2 a0_3 a0_4 a2).bind fun (x4 : List ((Int × Int))) => ((loopF (fun (s : ((List (Int)) × Int)) => impl_StripChecks.s0 a0_0 a1_0 x4 s.1 s.2) (([] : List (Int)), 0)).bind fun (⟨x7, x8, x9⟩ : (Int × Bool × (List (Int)))) => some (x9, true)))))

set_option maxRecDepth 20000 in
theorem impl_hexOf_ok (h0 : Heap) (GT : TabH h0) (u0 : Value) (a0 : Option Nat) (g0 : IsF .f32 u0 a0) (r : ByteArray) (hp : impl_hexOf a0 = some r) : CallsH Tryz.prog 29 ([u0].toArray ++ [].toArray) h0 (fun v h' => v = (.string r) ∧ Mod [] h0 h' ∧ Sep [] h0.size h' []) := by
 unfold impl_hexOf at hp
 refine callsH_of_W (l := [u0]) (cap := []) 13 Tryz.func29 rfl rfl rfl ?_
 refine W.seq ?_
 refine W.region ?_
 refine RL.opD (by decide) (opv_assign rfl rfl) ?_
 refine RL.nil ?_
 refine thnN ?_
 refine W.seq ?_
 refine W.region ?_
 refine RL.opD (by decide) (opv_move rfl rfl) ?_
 obtain ⟨x1, hx1, hp⟩ := Option.bind_eq_some_iff.1 hp
 refine RL.op _ (by decide) (opv_call (cap := []) (impl_BitsOf_ok _ _ _ g0 _ hx1) rfl rfl ⟨rfl, trivial⟩ Tryz.func50 rfl rfl) ?_
 rintro _ _ ⟨rfl, rfl⟩
 obtain ⟨x2, hx2, hp⟩ := Option.bind_eq_some_iff.1 hp
 refine RL.op _ (by decide) (opv_call (cap := []) (strconv_FormatInt_ok _ (TabH.mod GT (Mod.refl [] h0)) _ _ _ hx2) rfl rfl ⟨rfl, rfl, trivial⟩ Tryz.func49 rfl rfl) ?_
 rintro _ hp1 ⟨rfl, MT_1, T_1⟩
 obtain ⟨X_1, S_1⟩ := Sep.turn0 (Mod.refl [] h0) (Sep.nil [] h0.size h0) MT_1 T_1
 refine RL.opD (by decide) (opv_assign rfl rfl) ?_
 refine RL.nil ?_
 refine thnN ?_
 refine W.seq ?_
 refine W.region ?_
 refine RL.opD (by decide) (opv_move rfl rfl) ?_
 refine RL.opD (by decide) (opv_lenS rfl Tryz.underlying9 rfl) ?_
 refine RL.opD (by decide) (opv_sub rfl rfl rfl) ?_
 obtain ⟨x3, hx3, hp⟩ := Option.bind_eq_some_iff.1 hp
 refine RL.op _ (by decide) (opv_call (cap := []) (strings_Repeat_ok _ _ _ _ hx3) rfl rfl ⟨rfl, rfl, trivial⟩ Tryz.func51 rfl rfl) ?_
 rintro _ hp2 ⟨rfl, MT_2, T_2⟩
 obtain ⟨X_2, S_2⟩ := Sep.turn0 X_1 S_1 MT_2 T_2
 refine RL.opD (by decide) (opv_move rfl rfl) ?_
 obtain ⟨c1, hp⟩ := of_ite hp
 refine RL.opD (by decide) (opv_strAdd rfl rfl rfl c1) ?_
 refine RL.opD (by decide) (opv_assign rfl rfl) ?_
 refine RL.nil ?_
 refine thnN ?_
 refine W.ret ?_
 have er := Option.some.inj hp
 subst er
 exact Rt.one rfl rfl ⟨rfl, X_2, (Sep.nil _ _ _)⟩

set_option maxRecDepth 20000 in
theorem impl_joined_ok (h0 : Heap) (u0 : Value) (a0 : List (ByteArray)) (g0 : SL kS h0.size h0 u0 a0) (r : ByteArray) (hp : impl_joined a0 = some r) : CallsH Tryz.prog 30 ([u0].toArray ++ [].toArray) h0 (fun v h' => v = (.string r) ∧ Mod [] h0 h' ∧ Sep [] h0.size h' []) := by
 unfold impl_joined at hp
 refine callsH_of_W (l := [u0]) (cap := []) 8 Tryz.func30 rfl rfl rfl ?_
 refine W.seq ?_
 refine W.region ?_
 refine RL.opD (by decide) (opv_assign rfl rfl) ?_
 refine RL.nil ?_
 refine thnN ?_
 refine W.seq ?_
 refine W.seq ?_
 refine W.region ?_
 refine RL.opD (by decide) (opv_move rfl rfl) ?_
 refine RL.opD (by decide) (opv_len rfl Tryz.underlying65 rfl g0) ?_
 refine RL.opD (by decide) (opv_icmp rfl rfl rfl rfl) ?_
 refine RL.nil ?_
 refine thnN ?_
 by_cases c1 : ((a0.length : Int) == 0) = true
 ·rw [if_pos c1] at hp
  refine W.condT rfl c1 ?_
  refine W.seq ?_
  refine W.region ?_
  refine RL.opD (by decide) (opv_assign rfl rfl) ?_
  refine RL.nil ?_
  refine thnN ?_
  refine W.ret ?_
  refine thnR ?_
  have er := Option.some.inj hp
  subst er
  exact Rt.one rfl rfl ⟨rfl, (Mod.refl [] h0), (Sep.nil _ _ _)⟩
 ·rw [if_neg c1] at hp
  have c1 := eq_false_of_ne_true c1
  refine W.condF rfl c1 ?_
  refine W.skip ?_
  refine thnN ?_
  refine W.seq ?_
  refine W.region ?_
  refine RL.opD (by decide) (opv_move rfl rfl) ?_
  obtain ⟨x1, hx1, hp⟩ := Option.bind_eq_some_iff.1 hp
  refine RL.op _ (by decide) (opv_call (cap := []) (strings_Join_ok _ _ _ g0 _ _ hx1) rfl rfl ⟨rfl, rfl, trivial⟩ Tryz.func52 rfl rfl) ?_
  rintro _ hp1 ⟨rfl, MT_1, T_1⟩
  obtain ⟨X_1, S_1⟩ := Sep.turn0 (Mod.refl [] h0) (Sep.nil [] h0.size h0) MT_1 T_1
  refine RL.opD (by decide) (opv_assign rfl rfl) ?_
  refine RL.nil ?_
  refine thnN ?_
  refine W.ret ?_
  have er := Option.some.inj hp
  subst er
  exact Rt.one rfl rfl ⟨rfl, X_1, (Sep.nil _ _ _)⟩

set_option maxRecDepth 20000 in
theorem impl_NumbersText_ok (h0 : Heap) (GT : TabH h0) (u0 : Value) (a0 : List (Option Nat)) (g0 : SL (kF .f32) h0.size h0 u0 a0) (r : (ByteArray × Bool)) (hp : impl_NumbersText a0 = some r) : CallsH Tryz.prog 13 ([u0].toArray ++ [].toArray) h0 (fun v h' => v = (.tuple (List.toArray (α := Value) [(.string r.1), (.bool r.2)])) ∧ Mod [] h0 h' ∧ Sep [] h0.size h' []) := by
 unfold impl_NumbersText at hp
 refine callsH_of_W (l := [u0]) (cap := []) 25 Tryz.func13 rfl rfl rfl ?_
 refine W.seq ?_
 refine W.region ?_
 refine RL.opD (by decide) (opv_assign rfl rfl) ?_
 refine RL.opD (by decide) (opv_assign rfl rfl) ?_
 refine RL.nil ?_
 refine thnN ?_
 refine W.seq ?_
 refine W.seq ?_
 refine W.region ?_
 refine RL.opD (by decide) (opv_move rfl rfl) ?_
 refine RL.opD (by decide) (opv_len rfl Tryz.underlying24 rfl g0) ?_
 refine RL.opD (by decide) (opv_icmp rfl rfl rfl rfl) ?_
 refine RL.nil ?_
 refine thnN ?_
 by_cases c1 : (decide ((a0.length : Int) > 256)) = true
 ·rw [if_pos c1] at hp
  refine W.condT rfl c1 ?_
  refine W.seq ?_
  refine W.region ?_
  refine RL.opD (by decide) (opv_assign rfl rfl) ?_
  refine RL.opD (by decide) (opv_assign rfl rfl) ?_
  refine RL.nil ?_
  refine thnN ?_
  refine W.ret ?_
  refine thnR ?_
  have er := Option.some.inj hp
  subst er
  exact Rt.two rfl rfl rfl ⟨rfl, (Mod.refl [] h0), (Sep.nil _ _ _)⟩
 ·rw [if_neg c1] at hp
  have c1 := eq_false_of_ne_true c1
  refine W.condF rfl c1 ?_
  refine W.skip ?_
  refine thnN ?_
  refine W.seq ?_
  refine W.region ?_
  refine RL.op _ (by decide) (opS_lit0 (K := kS) rfl Tryz.underlying65 Tryz.isinfo9) ?_
  rintro v1 hp1 ⟨MT_1, T_1⟩
  obtain ⟨X_1, S_1⟩ := Sep.turn0 (Mod.refl [] h0) (Sep.nil [] h0.size h0) MT_1 T_1
  refine RL.opD (by decide) (opv_assign rfl rfl) ?_
  refine RL.nil ?_
  refine thnN ?_
  refine W.seq ?_
  refine W.seq ?_
  refine W.region ?_
  refine RL.opD (by decide) (opv_move rfl rfl) ?_
  refine RL.opD (by decide) (opv_len rfl Tryz.underlying24 rfl (SL.mod g0 X_1 (Nat.le_refl _) nob)) ?_
  refine RL.opD (by decide) (opv_move rfl rfl) ?_
  refine RL.nil ?_
  refine thnN ?_
  obtain ⟨y1, hy1, hp⟩ := Option.bind_eq_some_iff.1 hp
  refine W.cut (fun φ' h' => ∃ x3, ∃ x4, ∃ x5, ∃ v3, y1 = (x3, x4, x5) ∧ Fr.sub [(0, u0), (2, (.string (⟨#[]⟩ : ByteArray))), (3, (.bool false)), (9, (.bool (decide ((a0.length : Int) > 256)))), (11, u0), (12, (.int .i64 (a0.length : Int))), (13, (.int .i64 x3)), (14, (.bool x4)), (4, v3)] φ' ∧ Mod [] h0 h' ∧ Sep [] h0.size h' [ownO kS 9 v3 x5]) ?_ ?_
  ·refine W.block ?_
   refine W.loopS (fun (s : ((List (ByteArray)) × Int)) φ' h' => ∃ v2, Fr.sub [(0, u0), (2, (.string (⟨#[]⟩ : ByteArray))), (3, (.bool false)), (9, (.bool (decide ((a0.length : Int) > 256)))), (11, u0), (12, (.int .i64 (a0.length : Int))), (4, v2), (13, (.int .i64 s.2))] φ' ∧ Mod [] h0 h' ∧ Sep [] h0.size h' [ownO kS 9 v2 s.1]) hy1 ⟨v1, ⟨rfl, rfl, rfl, rfl, rfl, rfl, rfl, rfl, trivial⟩, X_1, (Sep.sel S_1 [0] (by decide))⟩ ?_
   rintro ⟨x1, x2⟩ φ' hp2 o1 ⟨v2, hs1, X_2, S_2⟩ ho1 hy1
   have hs1 : Fr.sub [(0, u0), (2, (.string (⟨#[]⟩ : ByteArray))), (3, (.bool false)), (9, (.bool (decide ((a0.length : Int) > 256)))), (11, u0), (12, (.int .i64 (a0.length : Int))), (4, v2), (13, (.int .i64 x2))] φ' := hs1
   have S_2 : Sep [] h0.size hp2 [ownO kS 9 v2 x1] := S_2
   have ho1 : impl_NumbersText.s0 a0 x1 x2 = some o1 := ho1
   unfold impl_NumbersText.s0 at ho1
   refine W.sub hs1 ?_
   refine W.seq ?_
   refine W.region ?_
   refine RL.opD (by decide) (opv_icmp rfl rfl rfl rfl) ?_
   refine RL.nil ?_
   refine thnN ?_
   refine W.seq ?_
   by_cases c2 : (decide (x2 < (a0.length : Int))) = true
   ·rw [if_pos c2] at ho1
    refine W.condT rfl c2 ?_
    refine W.skip ?_
    refine thnN ?_
    refine W.seq ?_
    refine W.block ?_
    refine W.seq ?_
    refine W.region ?_
    obtain ⟨x6, hx6, ho1⟩ := Option.bind_eq_some_iff.1 ho1
    refine RL.op _ (by decide) (opv_index rfl Tryz.underlying24 (by rw [Tryz.size66]; rfl) rfl rfl (SL.mod g0 X_2 (Nat.le_refl _) nob) hx6) ?_
    rintro v4 _ ⟨fv4, rfl⟩
    refine RL.opF (by decide) (opv_loadF rfl Tryz.one66 rfl fv4 (SL.mod g0 X_2 (Nat.le_refl _) nob) hx6) ?_
    intro v5 fv5
    refine RL.opD (by decide) (opv_assign rfl rfl) ?_
    refine RL.nil ?_
    refine thnN ?_
    refine W.region ?_
    refine RL.opD (by decide) (opv_move rfl rfl) ?_
    refine RL.opD (by decide) (opv_move rfl rfl) ?_
    obtain ⟨x7, hx7, ho1⟩ := Option.bind_eq_some_iff.1 ho1
    refine RL.op _ (by decide) (opv_call (cap := []) (impl_hexOf_ok _ (TabH.mod GT X_2) _ _ fv5 _ hx7) rfl rfl ⟨rfl, trivial⟩ Tryz.func29 rfl rfl) ?_
    rintro _ hp3 ⟨rfl, MT_2, T_2⟩
    obtain ⟨X_3, S_3⟩ := Sep.turn0 X_2 S_2 MT_2 T_2
    refine RL.op _ (by decide) (opS_lit1 (K := kS) (z := x7) rfl Tryz.underlying65 Tryz.einfo9 rfl rfl rfl rfl rfl) ?_
    rintro v6 hp4 ⟨MT_3, T_3⟩
    obtain ⟨X_4, S_4⟩ := Sep.turn0 X_3 S_3 MT_3 T_3
    obtain ⟨c3, ho1⟩ := of_ite ho1
    refine RL.op _ (by decide) (opS_append (K := kS) rfl Tryz.underlying65 Tryz.einfo9 rfl rfl rfl rfl (Sep.at (o := ownO kS 9 v2 x1) S_4 1 rfl) (ownO.read (Sep.at (o := ownO kS 9 v6 [x7]) S_4 0 rfl)) (by decide) (by decide) c3) ?_
    rintro v7 hp5 ⟨MT_4, T_4⟩
    have S_5 : Sep [] h0.size hp4 ([ownO kS 9 v2 x1] ++ [ownO kS 9 v6 [x7]]) := Sep.sel S_4 [1, 0] (by decide)
    obtain ⟨X_5, S_6⟩ := Sep.turn X_4 S_5 MT_4 T_4
    refine RL.opD (by decide) (opv_assign rfl rfl) ?_
    refine RL.nil ?_
    refine blkN ?_
    refine thnN ?_
    refine W.region ?_
    refine RL.opD (by decide) (opv_add rfl rfl rfl) ?_
    refine RL.opD (by decide) (opv_move rfl rfl) ?_
    refine RL.nil ?_
    have eo1 := Option.some.inj ho1
    subst eo1
    refine rndN (s' := (x1 ++ [x7], IntKind.wrap .i64 (x2 + 1))) rfl ?_
    exact ⟨v7, ⟨rfl, rfl, rfl, rfl, rfl, rfl, rfl, rfl, trivial⟩, X_5, (Sep.sel S_6 [0] (by decide))⟩
   ·rw [if_neg c2] at ho1
    have c2 := eq_false_of_ne_true c2
    refine W.condF rfl c2 ?_
    refine W.exit ?_
    refine thnX ?_
    refine rndX ?_
    refine blkI ?_
    have eo1 := Option.some.inj ho1
    subst eo1
    have ey1 := hy1 _ rfl
    subst ey1
    refine onlyN ?_
    exact ⟨x2, decide (x2 < (a0.length : Int)), x1, v2, rfl, ⟨rfl, rfl, rfl, rfl, rfl, rfl, rfl, rfl, rfl, trivial⟩, X_2, (Sep.sel S_2 [0] (by decide))⟩
  rintro φ' hp6 ⟨x3, x4, x5, v3, rfl, hs2, X_6, S_7⟩
  try dsimp only at hp
  refine thnN ?_
  refine W.sub hs2 ?_
  refine W.seq ?_
  refine W.region ?_
  refine RL.opD (by decide) (opv_move rfl rfl) ?_
  obtain ⟨x8, hx8, hp⟩ := Option.bind_eq_some_iff.1 hp
  refine RL.op _ (by decide) (opv_call (cap := []) (impl_joined_ok _ _ _ (ownO.read (Sep.at (o := ownO kS 9 v3 x5) S_7 0 rfl)) _ hx8) rfl rfl ⟨rfl, trivial⟩ Tryz.func30 rfl rfl) ?_
  rintro _ hp7 ⟨rfl, MT_5, T_5⟩
  obtain ⟨X_7, S_8⟩ := Sep.turn0 X_6 S_7 MT_5 T_5
  refine RL.opD (by decide) (opv_assign rfl rfl) ?_
  refine RL.opD (by decide) (opv_assign rfl rfl) ?_
  refine RL.nil ?_
  refine thnN ?_
  refine W.ret ?_
  have er := Option.some.inj hp
  subst er
  exact Rt.two rfl rfl rfl ⟨rfl, X_7, (Sep.nil _ _ _)⟩

set_option maxHeartbeats 4000000 in
set_option maxRecDepth 20000 in
theorem impl_StripChecks_ok (h0 : Heap) (GT : TabH h0) (a0_0 : Int) (a0_1 : Int) (a0_2 : Bool) (u0_3 : Value) (a0_3 : List (Option Nat)) (g0_3 : SL (kF .f32) h0.size h0 u0_3 a0_3) (u0_4 : Value) (a0_4 : List (Option Nat)) (g0_4 : SL (kF .f32) h0.size h0 u0_4 a0_4) (u1_0 : Value) (a1_0 : List (Option Nat)) (g1_0 : SL (kF .f32) h0.size h0 u1_0 a1_0) (u1_1 : Value) (a1_1 : List (Option Nat)) (g1_1 : SL (kF .f32) h0.size h0 u1_1 a1_1) (u1_2 : Value) (a1_2 : List (Option Nat)) (g1_2 : SL (kF .f32) h0.size h0 u1_2 a1_2) (a2 : Int) (r : ((List (Int)) × Bool)) (hp : impl_StripChecks a0_0 a0_1 a0_2 a0_3 a0_4 a1_0 a1_1 a1_2 a2 = some r) : CallsH Tryz.prog 10 ([(.agg (List.toArray (α := Value) [(.int .i64 a0_0), (.int .i64 a0_1), (.bool a0_2), u0_3, u0_4])), (.agg (List.toArray (α := Value) [u1_0, u1_1, u1_2])), (.int .i64 a2)].toArray ++ [].toArray) h0 (fun v h' => ∃ w0, v = (.tuple (List.toArray (α := Value) [w0, (.bool r.2)])) ∧ Mod [] h0 h' ∧ Sep [] h0.size h' [ownO (kI .i64) 2 w0 r.1]) := by
 unfold impl_StripChecks at hp
 refine callsH_of_W (l := [(.agg (List.toArray (α := Value) [(.int .i64 a0_0), (.int .i64 a0_1), (.bool a0_2), u0_3, u0_4])), (.agg (List.toArray (α := Value) [u1_0, u1_1, u1_2])), (.int .i64 a2)]) (cap := []) 76 Tryz.func10 rfl rfl rfl ?_
 refine W.seq ?_
 refine W.region ?_
 refine RL.op _ (by decide) (opS_boxed (opv_boxA (cs := [(.int .i64 a0_0), (.int .i64 a0_1), (.bool a0_2), u0_3, u0_4]) rfl rfl)) ?_
 rintro _ hp1 ⟨bb1, rfl, MT_1, T_1⟩
 obtain ⟨X_1, S_1⟩ := Sep.turn0 (Mod.refl [] h0) (Sep.nil [] h0.size h0) MT_1 T_1
 refine RL.op _ (by decide) (opS_boxed (opv_boxA (cs := [u1_0, u1_1, u1_2]) rfl rfl)) ?_
 rintro _ hp2 ⟨bb2, rfl, MT_2, T_2⟩
 obtain ⟨X_2, S_2⟩ := Sep.turn0 X_1 S_1 MT_2 T_2
 refine RL.opD (by decide) (opv_assign rfl rfl) ?_
 have S_3 : Sep [] h0.size hp2 [ownO (kI .i64) 2 (.slice none 0 0) ([] : List (Int)), boxO bb2 [u1_0, u1_1, u1_2], boxO bb1 [(.int .i64 a0_0), (.int .i64 a0_1), (.bool a0_2), u0_3, u0_4]] := Sep.addNil S_2
 refine RL.opD (by decide) (opv_assign rfl rfl) ?_
 refine RL.nil ?_
 refine thnN ?_
 refine W.seq ?_
 refine W.seq ?_
 obtain ⟨x1, hy1, hp⟩ := Option.bind_eq_some_iff.1 hp
 refine W.cut (fun φ' h' => Fr.sub [(0, (.agg (List.toArray (α := Value) [(.int .i64 a0_0), (.int .i64 a0_1), (.bool a0_2), u0_3, u0_4]))), (1, (.agg (List.toArray (α := Value) [u1_0, u1_1, u1_2]))), (2, (.int .i64 a2)), (3, (.pointer (some ⟨bb1, 0, none⟩))), (4, (.pointer (some ⟨bb2, 0, none⟩))), (6, (.slice none 0 0)), (7, (.bool false)), (25, (.bool x1))] φ' ∧ Mod [] h0 h' ∧ Sep [] h0.size h' [ownO (kI .i64) 2 (.slice none 0 0) ([] : List (Int)), boxO bb2 [u1_0, u1_1, u1_2], boxO bb1 [(.int .i64 a0_0), (.int .i64 a0_1), (.bool a0_2), u0_3, u0_4]]) ?_ ?_
 ·refine W.region ?_
  refine RL.opD (by decide) (opv_loadA (us := [(.int .i64 a0_0), (.int .i64 a0_1), (.bool a0_2), u0_3, u0_4]) rfl Tryz.agg26 Tryz.size26 rfl (Sep.at (o := boxO bb1 [(.int .i64 a0_0), (.int .i64 a0_1), (.bool a0_2), u0_3, u0_4]) S_3 2 rfl) rfl rfl) ?_
  refine RL.opD (by decide) (opv_loadA (us := [u1_0, u1_1, u1_2]) rfl Tryz.agg29 Tryz.size29 rfl (Sep.at (o := boxO bb2 [u1_0, u1_1, u1_2]) S_3 1 rfl) rfl rfl) ?_
  obtain ⟨x2, hx2, hy1⟩ := Option.bind_eq_some_iff.1 hy1
  refine RL.op _ (by decide) (opv_call (cap := []) (impl_IsField_ok _ _ _ _ _ _ (SL.up (SL.mod g0_3 X_2 (Nat.le_refl _) nob) (Nat.le_trans (Nat.le_refl _) (Mod.size X_2))) _ _ (SL.up (SL.mod g0_4 X_2 (Nat.le_refl _) nob) (Nat.le_trans (Nat.le_refl _) (Mod.size X_2))) _ _ (SL.up (SL.mod g1_0 X_2 (Nat.le_refl _) nob) (Nat.le_trans (Nat.le_refl _) (Mod.size X_2))) _ _ (SL.up (SL.mod g1_1 X_2 (Nat.le_refl _) nob) (Nat.le_trans (Nat.le_refl _) (Mod.size X_2))) _ _ (SL.up (SL.mod g1_2 X_2 (Nat.le_refl _) nob) (Nat.le_trans (Nat.le_refl _) (Mod.size X_2))) _ hx2) rfl rfl ⟨rfl, rfl, trivial⟩ Tryz.func25 rfl rfl) ?_
  rintro _ hp3 ⟨rfl, MT_3, T_3⟩
  obtain ⟨X_3, S_4⟩ := Sep.turn0 X_2 S_3 MT_3 T_3
  refine RL.opD (by decide) (opv_not rfl rfl) ?_
  refine RL.opD (by decide) (opv_move rfl rfl) ?_
  by_cases c1 : (!x2) = true
  ·rw [if_pos c1] at hy1
   refine RL.noT rfl rfl c1 (by decide) ?_
   refine RL.noT rfl rfl c1 (by decide) ?_
   refine RL.noT rfl rfl c1 (by decide) ?_
   refine RL.opD (by decide) (opv_pick rfl rfl (fun _ => rfl) (fun e => absurd (Eq.trans (Eq.symm e) c1) (by decide)) rfl) ?_
   refine RL.nil ?_
   have ey1 := Option.some.inj hy1
   subst ey1
   refine onlyN ?_
   exact ⟨⟨rfl, rfl, rfl, rfl, rfl, rfl, rfl, rfl, trivial⟩, X_3, (Sep.sel S_4 [0, 1, 2] (by decide))⟩
  ·rw [if_neg c1] at hy1
   have c1 := eq_false_of_ne_true c1
   refine RL.yesD rfl rfl c1 (by decide) (opv_move rfl rfl) ?_
   obtain ⟨x3, hx3, hy1⟩ := Option.bind_eq_some_iff.1 hy1
   refine RL.yes _ rfl rfl c1 (by decide) (opv_call (cap := []) (impl_areWorkers_ok _ _ _ hx3) rfl rfl ⟨rfl, trivial⟩ Tryz.func19 rfl rfl) ?_
   rintro _ _ ⟨rfl, rfl⟩
   refine RL.yesD rfl rfl c1 (by decide) (opv_not rfl rfl) ?_
   refine RL.opD (by decide) (opv_pick rfl rfl (fun e => absurd (Eq.trans (Eq.symm e) c1) (by decide)) (fun _ => rfl) rfl) ?_
   refine RL.nil ?_
   have ey1 := Option.some.inj hy1
   subst ey1
   refine onlyN ?_
   exact ⟨⟨rfl, rfl, rfl, rfl, rfl, rfl, rfl, rfl, trivial⟩, X_3, (Sep.sel S_4 [0, 1, 2] (by decide))⟩
 rintro φ' hp4 ⟨hs1, X_4, S_5⟩
 refine thnN ?_
 refine W.sub hs1 ?_
 by_cases c2 : x1 = true
 ·rw [if_pos c2] at hp
  refine W.condT rfl c2 ?_
  refine W.seq ?_
  refine W.region ?_
  refine RL.opD (by decide) (opv_assign rfl rfl) ?_
  have S_6 : Sep [] h0.size hp4 [ownO (kI .i64) 2 (.slice none 0 0) ([] : List (Int)), ownO (kI .i64) 2 (.slice none 0 0) ([] : List (Int)), boxO bb2 [u1_0, u1_1, u1_2], boxO bb1 [(.int .i64 a0_0), (.int .i64 a0_1), (.bool a0_2), u0_3, u0_4]] := Sep.addNil S_5
  refine RL.opD (by decide) (opv_assign rfl rfl) ?_
  refine RL.nil ?_
  refine thnN ?_
  refine W.ret ?_
  refine thnR ?_
  have er := Option.some.inj hp
  subst er
  exact Rt.two rfl rfl rfl ⟨(.slice none 0 0), rfl, X_4, (Sep.sel S_6 [0] (by decide))⟩
 ·rw [if_neg c2] at hp
  have c2 := eq_false_of_ne_true c2
  refine W.condF rfl c2 ?_
  refine W.skip ?_
  refine thnN ?_
  refine W.seq ?_
  refine W.region ?_
  refine RL.op _ (by decide) (opS_lit0 (K := (kI .i64)) rfl Tryz.underlying38 Tryz.isinfo2) ?_
  rintro v1 hp5 ⟨MT_4, T_4⟩
  obtain ⟨X_5, S_7⟩ := Sep.turn0 X_4 S_5 MT_4 T_4
  refine RL.opD (by decide) (opv_assign rfl rfl) ?_
  refine RL.nil ?_
  refine thnN ?_
  refine W.seq ?_
  refine W.seq ?_
  refine W.region ?_
  refine RL.opD (by decide) (opv_loadA (us := [(.int .i64 a0_0), (.int .i64 a0_1), (.bool a0_2), u0_3, u0_4]) rfl Tryz.agg26 Tryz.size26 rfl (Sep.at (o := boxO bb1 [(.int .i64 a0_0), (.int .i64 a0_1), (.bool a0_2), u0_3, u0_4]) S_7 3 rfl) rfl rfl) ?_
  refine RL.opD (by decide) (opv_move rfl rfl) ?_
  obtain ⟨x4, hx4, hp⟩ := Option.bind_eq_some_iff.1 hp
  refine RL.op _ (by decide) (opv_call (cap := []) (impl_stripsOf_ok _ _ _ _ _ _ (SL.up (SL.mod g0_3 X_5 (Nat.le_refl _) nob) (Nat.le_trans (Nat.le_refl _) (Mod.size X_5))) _ _ (SL.up (SL.mod g0_4 X_5 (Nat.le_refl _) nob) (Nat.le_trans (Nat.le_refl _) (Mod.size X_5))) _ _ hx4) rfl rfl ⟨rfl, rfl, trivial⟩ Tryz.func20 rfl rfl) ?_
  rintro v2 hp6 ⟨MT_5, T_5⟩
  obtain ⟨X_6, S_8⟩ := Sep.turn0 X_5 S_7 MT_5 T_5
  refine RL.opD (by decide) (opv_len rfl Tryz.underlying32 rfl (ownO.read (Sep.at (o := ownO (kII .i64) 43 v2 x4) S_8 0 rfl))) ?_
  refine RL.opD (by decide) (opv_move rfl rfl) ?_
  refine RL.nil ?_
  refine thnN ?_
  obtain ⟨y2, hy2, hp⟩ := Option.bind_eq_some_iff.1 hp
  refine W.cut (fun φ' h' => ∃ x7, ∃ x8, ∃ x9, ∃ v4, y2 = (x7, x8, x9) ∧ Fr.sub [(0, (.agg (List.toArray (α := Value) [(.int .i64 a0_0), (.int .i64 a0_1), (.bool a0_2), u0_3, u0_4]))), (1, (.agg (List.toArray (α := Value) [u1_0, u1_1, u1_2]))), (2, (.int .i64 a2)), (3, (.pointer (some ⟨bb1, 0, none⟩))), (4, (.pointer (some ⟨bb2, 0, none⟩))), (6, (.slice none 0 0)), (7, (.bool false)), (25, (.bool x1)), (29, v2), (30, (.int .i64 (x4.length : Int))), (31, (.int .i64 x7)), (32, (.bool x8)), (8, v4)] φ' ∧ Mod [] h0 h' ∧ Sep [] h0.size h' [ownO (kII .i64) 43 v2 x4, ownO (kI .i64) 2 (.slice none 0 0) ([] : List (Int)), boxO bb2 [u1_0, u1_1, u1_2], boxO bb1 [(.int .i64 a0_0), (.int .i64 a0_1), (.bool a0_2), u0_3, u0_4], ownO (kI .i64) 2 v4 x9]) ?_ ?_
  ·refine W.block ?_
   refine W.loopS (fun (s : ((List (Int)) × Int)) φ' h' => ∃ v3, Fr.sub [(0, (.agg (List.toArray (α := Value) [(.int .i64 a0_0), (.int .i64 a0_1), (.bool a0_2), u0_3, u0_4]))), (1, (.agg (List.toArray (α := Value) [u1_0, u1_1, u1_2]))), (2, (.int .i64 a2)), (3, (.pointer (some ⟨bb1, 0, none⟩))), (4, (.pointer (some ⟨bb2, 0, none⟩))), (6, (.slice none 0 0)), (7, (.bool false)), (25, (.bool x1)), (29, v2), (30, (.int .i64 (x4.length : Int))), (8, v3), (31, (.int .i64 s.2))] φ' ∧ Mod [] h0 h' ∧ Sep [] h0.size h' [ownO (kII .i64) 43 v2 x4, ownO (kI .i64) 2 v3 s.1, ownO (kI .i64) 2 (.slice none 0 0) ([] : List (Int)), boxO bb2 [u1_0, u1_1, u1_2], boxO bb1 [(.int .i64 a0_0), (.int .i64 a0_1), (.bool a0_2), u0_3, u0_4]]) hy2 ⟨v1, ⟨rfl, rfl, rfl, rfl, rfl, rfl, rfl, rfl, rfl, rfl, rfl, rfl, trivial⟩, X_6, (Sep.sel S_8 [0, 1, 2, 3, 4] (by decide))⟩ ?_
   rintro ⟨x5, x6⟩ φ' hp7 o1 ⟨v3, hs2, X_7, S_9⟩ ho1 hy1
   have hs2 : Fr.sub [(0, (.agg (List.toArray (α := Value) [(.int .i64 a0_0), (.int .i64 a0_1), (.bool a0_2), u0_3, u0_4]))), (1, (.agg (List.toArray (α := Value) [u1_0, u1_1, u1_2]))), (2, (.int .i64 a2)), (3, (.pointer (some ⟨bb1, 0, none⟩))), (4, (.pointer (some ⟨bb2, 0, none⟩))), (6, (.slice none 0 0)), (7, (.bool false)), (25, (.bool x1)), (29, v2), (30, (.int .i64 (x4.length : Int))), (8, v3), (31, (.int .i64 x6))] φ' := hs2
   have S_9 : Sep [] h0.size hp7 [ownO (kII .i64) 43 v2 x4, ownO (kI .i64) 2 v3 x5, ownO (kI .i64) 2 (.slice none 0 0) ([] : List (Int)), boxO bb2 [u1_0, u1_1, u1_2], boxO bb1 [(.int .i64 a0_0), (.int .i64 a0_1), (.bool a0_2), u0_3, u0_4]] := S_9
   have ho1 : impl_StripChecks.s0 a0_0 a1_0 x4 x5 x6 = some o1 := ho1
   unfold impl_StripChecks.s0 at ho1
   refine W.sub hs2 ?_
   refine W.seq ?_
   refine W.region ?_
   refine RL.opD (by decide) (opv_icmp rfl rfl rfl rfl) ?_
   refine RL.nil ?_
   refine thnN ?_
   refine W.seq ?_
   by_cases c3 : (decide (x6 < (x4.length : Int))) = true
   ·rw [if_pos c3] at ho1
    refine W.condT rfl c3 ?_
    refine W.skip ?_
    refine thnN ?_
    refine W.seq ?_
    refine W.block ?_
    refine W.seq ?_
    refine W.region ?_
    obtain ⟨x10, hx10, ho1⟩ := Option.bind_eq_some_iff.1 ho1
    refine RL.op _ (by decide) (opv_index rfl Tryz.underlying32 (by rw [Tryz.size43]; rfl) rfl rfl (ownO.read (Sep.at (o := ownO (kII .i64) 43 v2 x4) S_9 0 rfl)) hx10) ?_
    rintro v5 _ ⟨fv5, rfl⟩
    refine RL.opD (by decide) (opv_loadWhole (K := (kII .i64)) rfl Tryz.agg43 (by rw [Tryz.size43]; rfl) rfl fv5 (ownO.read (Sep.at (o := ownO (kII .i64) 43 v2 x4) S_9 0 rfl)) (idx_some hx10).2.2 kII_all) ?_
    refine RL.op _ (by decide) (opS_boxed (opv_alloc (cs := [(.int .i64 0), (.int .i64 0)]) rfl Tryz.zero43 rfl)) ?_
    rintro _ hp8 ⟨bb3, rfl, MT_6, T_6⟩
    obtain ⟨X_8, S_10⟩ := Sep.turn0 X_7 S_9 MT_6 T_6
    refine RL.op0 _ (opS_stored (cs := [(.int .i64 0), (.int .i64 0)]) (cs' := [(.int .i64 x10.1), (.int .i64 x10.2)]) (opv_storeA (us := [(.int .i64 x10.1), (.int .i64 x10.2)]) rfl Tryz.size43 rfl rfl (oneAll rfl (oneAll rfl rfl)) (Sep.at (o := boxO bb3 [(.int .i64 0), (.int .i64 0)]) S_10 0 rfl) rfl rfl) (Sep.at (o := boxO bb3 [(.int .i64 0), (.int .i64 0)]) S_10 0 rfl)) ?_
    rintro _ hp9 ⟨rfl, MT_7, T_7⟩
    have S_11 : Sep [] h0.size hp8 ([boxO bb3 [(.int .i64 0), (.int .i64 0)]] ++ [ownO (kII .i64) 43 v2 x4, ownO (kI .i64) 2 v3 x5, ownO (kI .i64) 2 (.slice none 0 0) ([] : List (Int)), boxO bb2 [u1_0, u1_1, u1_2], boxO bb1 [(.int .i64 a0_0), (.int .i64 a0_1), (.bool a0_2), u0_3, u0_4]]) := Sep.sel S_10 [0, 1, 2, 3, 4, 5] (by decide)
    obtain ⟨X_9, S_12⟩ := Sep.turn X_8 S_11 MT_7 T_7
    refine RL.nil ?_
    refine thnN ?_
    refine W.seq ?_
    refine W.region ?_
    refine RL.opD (by decide) (opv_assign rfl rfl) ?_
    refine RL.nil ?_
    refine thnN ?_
    refine W.seq ?_
    refine W.seq ?_
    refine W.region ?_
    refine RL.opD (by decide) (opv_fieldAddr rfl Tryz.fo43_0 rfl) ?_
    refine RL.opD (by decide) (opv_loadB rfl Tryz.one2 rfl (Sep.at (o := boxO bb3 [(.int .i64 x10.1), (.int .i64 x10.2)]) S_12 0 rfl) rfl) ?_
    refine RL.opD (by decide) (opv_assign rfl rfl) ?_
    refine RL.nil ?_
    refine thnN ?_
    obtain ⟨y3, hy3, ho1⟩ := Option.bind_eq_some_iff.1 ho1
    refine W.cut (fun φ' h' => ∃ x13, ∃ x14, ∃ x15, y3 = (x13, x14, x15) ∧ Fr.sub [(0, (.agg (List.toArray (α := Value) [(.int .i64 a0_0), (.int .i64 a0_1), (.bool a0_2), u0_3, u0_4]))), (1, (.agg (List.toArray (α := Value) [u1_0, u1_1, u1_2]))), (2, (.int .i64 a2)), (3, (.pointer (some ⟨bb1, 0, none⟩))), (4, (.pointer (some ⟨bb2, 0, none⟩))), (6, (.slice none 0 0)), (7, (.bool false)), (25, (.bool x1)), (29, v2), (30, (.int .i64 (x4.length : Int))), (8, v3), (31, (.int .i64 x6)), (32, (.bool (decide (x6 < (x4.length : Int))))), (10, (.pointer (some ⟨bb3, 0, none⟩))), (11, (.string x13)), (12, (.int .i64 x14)), (43, (.bool x15))] φ' ∧ Mod [] h0 h' ∧ Sep [] h0.size h' [boxO bb3 [(.int .i64 x10.1), (.int .i64 x10.2)], ownO (kII .i64) 43 v2 x4, ownO (kI .i64) 2 v3 x5, ownO (kI .i64) 2 (.slice none 0 0) ([] : List (Int)), boxO bb2 [u1_0, u1_1, u1_2], boxO bb1 [(.int .i64 a0_0), (.int .i64 a0_1), (.bool a0_2), u0_3, u0_4]]) ?_ ?_
    ·refine W.block ?_
     refine W.loopS (fun (s : (ByteArray × Int)) φ' h' => Fr.sub [(0, (.agg (List.toArray (α := Value) [(.int .i64 a0_0), (.int .i64 a0_1), (.bool a0_2), u0_3, u0_4]))), (1, (.agg (List.toArray (α := Value) [u1_0, u1_1, u1_2]))), (2, (.int .i64 a2)), (3, (.pointer (some ⟨bb1, 0, none⟩))), (4, (.pointer (some ⟨bb2, 0, none⟩))), (6, (.slice none 0 0)), (7, (.bool false)), (25, (.bool x1)), (29, v2), (30, (.int .i64 (x4.length : Int))), (8, v3), (31, (.int .i64 x6)), (32, (.bool (decide (x6 < (x4.length : Int))))), (10, (.pointer (some ⟨bb3, 0, none⟩))), (11, (.string s.1)), (12, (.int .i64 s.2))] φ' ∧ Mod [] h0 h' ∧ Sep [] h0.size h' [boxO bb3 [(.int .i64 x10.1), (.int .i64 x10.2)], ownO (kII .i64) 43 v2 x4, ownO (kI .i64) 2 v3 x5, ownO (kI .i64) 2 (.slice none 0 0) ([] : List (Int)), boxO bb2 [u1_0, u1_1, u1_2], boxO bb1 [(.int .i64 a0_0), (.int .i64 a0_1), (.bool a0_2), u0_3, u0_4]]) hy3 ⟨⟨rfl, rfl, rfl, rfl, rfl, rfl, rfl, rfl, rfl, rfl, rfl, rfl, rfl, rfl, rfl, rfl, trivial⟩, X_9, (Sep.sel S_12 [0, 1, 2, 3, 4, 5] (by decide))⟩ ?_
     rintro ⟨x11, x12⟩ φ' hp10 o2 ⟨hs4, X_10, S_13⟩ ho2 hy2
     have hs4 : Fr.sub [(0, (.agg (List.toArray (α := Value) [(.int .i64 a0_0), (.int .i64 a0_1), (.bool a0_2), u0_3, u0_4]))), (1, (.agg (List.toArray (α := Value) [u1_0, u1_1, u1_2]))), (2, (.int .i64 a2)), (3, (.pointer (some ⟨bb1, 0, none⟩))), (4, (.pointer (some ⟨bb2, 0, none⟩))), (6, (.slice none 0 0)), (7, (.bool false)), (25, (.bool x1)), (29, v2), (30, (.int .i64 (x4.length : Int))), (8, v3), (31, (.int .i64 x6)), (32, (.bool (decide (x6 < (x4.length : Int))))), (10, (.pointer (some ⟨bb3, 0, none⟩))), (11, (.string x11)), (12, (.int .i64 x12))] φ' := hs4
     have S_13 : Sep [] h0.size hp10 [boxO bb3 [(.int .i64 x10.1), (.int .i64 x10.2)], ownO (kII .i64) 43 v2 x4, ownO (kI .i64) 2 v3 x5, ownO (kI .i64) 2 (.slice none 0 0) ([] : List (Int)), boxO bb2 [u1_0, u1_1, u1_2], boxO bb1 [(.int .i64 a0_0), (.int .i64 a0_1), (.bool a0_2), u0_3, u0_4]] := S_13
     have ho2 : impl_StripChecks.s1 a0_0 a1_0 x10 x11 x12 = some o2 := ho2
     unfold impl_StripChecks.s1 at ho2
     refine W.sub hs4 ?_
     refine W.seq ?_
     refine W.seq ?_
     refine W.region ?_
     refine RL.opD (by decide) (opv_move rfl rfl) ?_
     refine RL.opD (by decide) (opv_fieldAddr rfl Tryz.fo43_0 rfl) ?_
     refine RL.opD (by decide) (opv_loadB rfl Tryz.one2 rfl (Sep.at (o := boxO bb3 [(.int .i64 x10.1), (.int .i64 x10.2)]) S_13 0 rfl) rfl) ?_
     refine RL.opD (by decide) (opv_fieldAddr rfl Tryz.fo43_1 rfl) ?_
     refine RL.opD (by decide) (opv_loadB rfl Tryz.one2 rfl (Sep.at (o := boxO bb3 [(.int .i64 x10.1), (.int .i64 x10.2)]) S_13 0 rfl) rfl) ?_
     refine RL.opD (by decide) (opv_add rfl rfl rfl) ?_
     refine RL.opD (by decide) (opv_icmp rfl rfl rfl rfl) ?_
     refine RL.nil ?_
     refine thnN ?_
     by_cases c4 : (decide (x12 < (IntKind.wrap .i64 (x10.1 + x10.2)))) = true
     ·rw [if_pos c4] at ho2
      refine W.condT rfl c4 ?_
      refine W.skip ?_
      refine thnN ?_
      refine W.seq ?_
      refine W.block ?_
      refine W.seq ?_
      refine W.region ?_
      refine RL.opD (by decide) (opv_fieldAddr rfl Tryz.fo29_0 rfl) ?_
      refine RL.opD (by decide) (opv_loadB rfl Tryz.one24 rfl (Sep.at (o := boxO bb2 [u1_0, u1_1, u1_2]) S_13 4 rfl) rfl) ?_
      refine RL.opD (by decide) (opv_move rfl rfl) ?_
      refine RL.opD (by decide) (opv_fieldAddr rfl Tryz.fo26_0 rfl) ?_
      refine RL.opD (by decide) (opv_loadB rfl Tryz.one2 rfl (Sep.at (o := boxO bb1 [(.int .i64 a0_0), (.int .i64 a0_1), (.bool a0_2), u0_3, u0_4]) S_13 5 rfl) rfl) ?_
      refine RL.opD (by decide) (opv_mul rfl rfl rfl) ?_
      refine RL.opD (by decide) (opv_move rfl rfl) ?_
      refine RL.opD (by decide) (opv_add rfl rfl rfl) ?_
      refine RL.opD (by decide) (opv_fieldAddr rfl Tryz.fo26_0 rfl) ?_
      refine RL.opD (by decide) (opv_loadB rfl Tryz.one2 rfl (Sep.at (o := boxO bb1 [(.int .i64 a0_0), (.int .i64 a0_1), (.bool a0_2), u0_3, u0_4]) S_13 5 rfl) rfl) ?_
      refine RL.opD (by decide) (opv_mul rfl rfl rfl) ?_
      obtain ⟨x16, hx16, ho2⟩ := Option.bind_eq_some_iff.1 ho2
      refine RL.op _ (by decide) (opv_cut (K := (kF .f32)) rfl Tryz.underlying24 (by rw [Tryz.size66]; rfl) rfl (.inr ⟨_, _, rfl, rfl⟩) (.inr ⟨_, _, rfl, rfl⟩) (SL.mod g1_0 X_10 (Nat.le_refl _) nob) hx16) ?_
      rintro v6 _ ⟨fv6, rfl⟩
      have fv6 := SL.back fv6 X_10 (Nat.le_refl _) nob
      obtain ⟨x17, hx17, ho2⟩ := Option.bind_eq_some_iff.1 ho2
      refine RL.op _ (by decide) (opv_call (cap := []) (impl_NumbersText_ok _ (TabH.mod GT X_10) _ _ (SL.up (SL.mod fv6 X_10 (Nat.le_refl _) nob) (Nat.le_trans (Nat.le_refl _) (Mod.size X_10))) _ hx17) rfl rfl ⟨rfl, trivial⟩ Tryz.func13 rfl rfl) ?_
      rintro _ hp11 ⟨rfl, MT_8, T_8⟩
      obtain ⟨X_11, S_14⟩ := Sep.turn0 X_10 S_13 MT_8 T_8
      refine RL.opD (by decide) (opv_move rfl rfl) ?_
      refine RL.opD (by decide) (opv_extract rfl rfl rfl) ?_
      refine RL.opD (by decide) (opv_extract rfl rfl rfl) ?_
      refine RL.opD (by decide) (opv_assign rfl rfl) ?_
      refine RL.opD (by decide) (opv_assign rfl rfl) ?_
      refine RL.nil ?_
      refine thnN ?_
      refine W.region ?_
      refine RL.opD (by decide) (opv_move rfl rfl) ?_
      refine RL.opD (by decide) (opv_move rfl rfl) ?_
      obtain ⟨c5, ho2⟩ := of_ite ho2
      refine RL.opD (by decide) (opv_strAdd rfl rfl rfl c5) ?_
      refine RL.opD (by decide) (opv_assign rfl rfl) ?_
      refine RL.nil ?_
      refine blkN ?_
      refine thnN ?_
      refine W.region ?_
      refine RL.opD (by decide) (opv_move rfl rfl) ?_
      refine RL.opD (by decide) (opv_add rfl rfl rfl) ?_
      refine RL.opD (by decide) (opv_assign rfl rfl) ?_
      refine RL.nil ?_
      have eo2 := Option.some.inj ho2
      subst eo2
      refine rndN (s' := (x11 ++ x17.1, IntKind.wrap .i64 (x12 + 1))) rfl ?_
      exact ⟨⟨rfl, rfl, rfl, rfl, rfl, rfl, rfl, rfl, rfl, rfl, rfl, rfl, rfl, rfl, rfl, rfl, trivial⟩, X_11, (Sep.sel S_14 [0, 1, 2, 3, 4, 5] (by decide))⟩
     ·rw [if_neg c4] at ho2
      have c4 := eq_false_of_ne_true c4
      refine W.condF rfl c4 ?_
      refine W.exit ?_
      refine thnX ?_
      refine rndX ?_
      refine blkI ?_
      have eo2 := Option.some.inj ho2
      subst eo2
      have ey3 := hy2 _ rfl
      subst ey3
      refine onlyN ?_
      exact ⟨x11, x12, decide (x12 < (IntKind.wrap .i64 (x10.1 + x10.2))), rfl, ⟨rfl, rfl, rfl, rfl, rfl, rfl, rfl, rfl, rfl, rfl, rfl, rfl, rfl, rfl, rfl, rfl, rfl, trivial⟩, X_10, (Sep.sel S_13 [0, 1, 2, 3, 4, 5] (by decide))⟩
    rintro φ' hp12 ⟨x13, x14, x15, rfl, hs5, X_12, S_15⟩
    try dsimp only at ho1
    refine thnN ?_
    refine W.sub hs5 ?_
    refine W.seq ?_
    refine W.region ?_
    refine RL.opD (by decide) (opv_move rfl rfl) ?_
    obtain ⟨x18, hx18, ho1⟩ := Option.bind_eq_some_iff.1 ho1
    refine RL.op _ (by decide) (opv_call (cap := []) (impl_CheckOf_ok _ _ _ _ hx18) rfl rfl ⟨rfl, rfl, trivial⟩ Tryz.func26 rfl rfl) ?_
    rintro _ _ ⟨rfl, rfl⟩
    refine RL.opD (by decide) (opv_move rfl rfl) ?_
    refine RL.opD (by decide) (opv_extract rfl rfl rfl) ?_
    refine RL.opD (by decide) (opv_extract rfl rfl rfl) ?_
    refine RL.opD (by decide) (opv_assign rfl rfl) ?_
    refine RL.opD (by decide) (opv_assign rfl rfl) ?_
    refine RL.nil ?_
    refine thnN ?_
    refine W.region ?_
    refine RL.opD (by decide) (opv_move rfl rfl) ?_
    refine RL.opD (by decide) (opv_move rfl rfl) ?_
    refine RL.op _ (by decide) (opS_lit1 (K := (kI .i64)) (z := x18.1) rfl Tryz.underlying38 Tryz.einfo2 rfl rfl rfl rfl rfl) ?_
    rintro v7 hp13 ⟨MT_9, T_9⟩
    obtain ⟨X_13, S_16⟩ := Sep.turn0 X_12 S_15 MT_9 T_9
    obtain ⟨c6, ho1⟩ := of_ite ho1
    refine RL.op _ (by decide) (opS_append (K := (kI .i64)) rfl Tryz.underlying38 Tryz.einfo2 rfl rfl rfl rfl (Sep.at (o := ownO (kI .i64) 2 v3 x5) S_16 3 rfl) (ownO.read (Sep.at (o := ownO (kI .i64) 2 v7 [x18.1]) S_16 0 rfl)) (by decide) (by decide) c6) ?_
    rintro v8 hp14 ⟨MT_10, T_10⟩
    have S_17 : Sep [] h0.size hp13 ([ownO (kI .i64) 2 v3 x5] ++ [ownO (kI .i64) 2 v7 [x18.1], boxO bb3 [(.int .i64 x10.1), (.int .i64 x10.2)], ownO (kII .i64) 43 v2 x4, ownO (kI .i64) 2 (.slice none 0 0) ([] : List (Int)), boxO bb2 [u1_0, u1_1, u1_2], boxO bb1 [(.int .i64 a0_0), (.int .i64 a0_1), (.bool a0_2), u0_3, u0_4]]) := Sep.sel S_16 [3, 0, 1, 2, 4, 5, 6] (by decide)
    obtain ⟨X_14, S_18⟩ := Sep.turn X_13 S_17 MT_10 T_10
    refine RL.opD (by decide) (opv_assign rfl rfl) ?_
    refine RL.nil ?_
    refine blkN ?_
    refine thnN ?_
    refine W.region ?_
    refine RL.opD (by decide) (opv_add rfl rfl rfl) ?_
    refine RL.opD (by decide) (opv_move rfl rfl) ?_
    refine RL.nil ?_
    have eo1 := Option.some.inj ho1
    subst eo1
    refine rndN (s' := (x5 ++ [x18.1], IntKind.wrap .i64 (x6 + 1))) rfl ?_
    exact ⟨v8, ⟨rfl, rfl, rfl, rfl, rfl, rfl, rfl, rfl, rfl, rfl, rfl, rfl, trivial⟩, X_14, (Sep.sel S_18 [3, 0, 4, 5, 6] (by decide))⟩
   ·rw [if_neg c3] at ho1
    have c3 := eq_false_of_ne_true c3
    refine W.condF rfl c3 ?_
    refine W.exit ?_
    refine thnX ?_
    refine rndX ?_
    refine blkI ?_
    have eo1 := Option.some.inj ho1
    subst eo1
    have ey2 := hy1 _ rfl
    subst ey2
    refine onlyN ?_
    exact ⟨x6, decide (x6 < (x4.length : Int)), x5, v3, rfl, ⟨rfl, rfl, rfl, rfl, rfl, rfl, rfl, rfl, rfl, rfl, rfl, rfl, rfl, trivial⟩, X_7, (Sep.sel S_9 [0, 2, 3, 4, 1] (by decide))⟩
  rintro φ' hp15 ⟨x7, x8, x9, v4, rfl, hs3, X_15, S_19⟩
  try dsimp only at hp
  refine thnN ?_
  refine W.sub hs3 ?_
  refine W.seq ?_
  refine W.region ?_
  refine RL.opD (by decide) (opv_move rfl rfl) ?_
  refine RL.opD (by decide) (opv_assign rfl rfl) ?_
  refine RL.opD (by decide) (opv_assign rfl rfl) ?_
  refine RL.nil ?_
  refine thnN ?_
  refine W.ret ?_
  have er := Option.some.inj hp
  subst er
  exact Rt.two rfl rfl rfl ⟨v4, rfl, X_15, (Sep.sel S_19 [4] (by decide))⟩

end Go.H
