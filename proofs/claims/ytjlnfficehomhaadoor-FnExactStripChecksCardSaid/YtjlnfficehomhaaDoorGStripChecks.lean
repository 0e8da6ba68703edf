/- Functions of the program: what each computes, as a plain function, and that the call comes to it. Written by a program (wip/gen). -/
import Derived.Test.YtjlnfficehomhaaDoorGBase
import Derived.Test.YtjlnfficehomhaaDoorGCopy
import Derived.Test.YtjlnfficehomhaaDoorGSheet
import Derived.Test.YtjlnfficehomhaaDoorGField
import Derived.Test.YtjlnfficehomhaaDoorGChk
import Derived.Test.YtjlnfficehomhaaDoorGFmt
import Derived.Test.YtjlnfficehomhaaDoorGStr
import Derived.Test.YtjlnfficehomhaaDoorBase28
import Derived.Test.YtjlnfficehomhaaDoorProg
import Derived.KernelRfl
set_option linter.unusedVariables false
namespace Go.H
open Go Go.Proofs

theorem _root_.Go.Proofs.Tryd.einfo9 : elemInfo Tryd.prog 9 = some ((.string (⟨#[]⟩)), 1, 16) := by kernel_rfl

noncomputable def impl_hexOf (a0 : Option Nat) : Option ByteArray :=
 ((impl_BitsOf a0).bind fun (x1 : Int) => ((strconv_FormatInt x1 16).bind fun (x2 : ByteArray) => ((strings_Repeat (⟨#[48]⟩ : ByteArray) (IntKind.wrap .i64 (8 - (x2.size : Int)))).bind fun (x3 : ByteArray) => (if x3.size + x2.size ≤ 1000000000 then some (x3 ++ x2) else none))))

noncomputable def impl_joined (a0 : List (ByteArray)) : Option ByteArray :=
 (if ((a0.length : Int) == 0) = true then some (⟨#[110, 111, 110, 101]⟩ : ByteArray) else ((strings_Join a0 (⟨#[44]⟩ : ByteArray)).bind fun (x1 : ByteArray) => some x1))

noncomputable def impl_NumbersText.s0 (a0 : List (Option Nat)) (x1 : List (ByteArray)) (x2 : Int) : Option (((List (ByteArray)) × Int) ⊕ (Int × Bool × (List (ByteArray)))) :=
 (if (decide (x2 < (a0.length : Int))) = true then ((idx a0 x2).bind fun (x6 : Option Nat) => ((impl_hexOf x6).bind fun (x7 : ByteArray) => (if x1.length + [x7].length ≤ 1000000000 then some (.inl (x1 ++ [x7], IntKind.wrap .i64 (x2 + 1))) else none))) else some (.inr (x2, decide (x2 < (a0.length : Int)), x1)))

noncomputable def impl_NumbersText (a0 : List (Option Nat)) : Option (ByteArray × Bool) :=
 (if (decide ((a0.length : Int) > 256)) = true then some ((⟨#[]⟩ : ByteArray), false) else ((loopF (fun (s : ((List (ByteArray)) × Int)) => impl_NumbersText.s0 a0 s.1 s.2) (([] : List (ByteArray)), 0)).bind fun (⟨x3, x4, x5⟩ : (Int × Bool × (List (ByteArray)))) => ((impl_joined x5).bind fun (x8 : ByteArray) => some (x8, true))))

noncomputable def impl_StripChecks.s1 (a0_0 : Int) (a1_0 : List (Option Nat)) (x10 : (Int × Int)) (x11 : ByteArray) (x12 : Int) : Option ((ByteArray × Int) ⊕ (ByteArray × Int × Bool)) :=
 (if (decide (x12 < (IntKind.wrap .i64 (x10.1 + x10.2)))) = true then ((sub a1_0 (IntKind.wrap .i64 (x12 * a0_0)) (IntKind.wrap .i64 ((IntKind.wrap .i64 (x12 + 1)) * a0_0))).bind fun (x16 : List (Option Nat)) => ((impl_NumbersText x16).bind fun (x17 : (ByteArray × Bool)) => (if x11.size + x17.1.size ≤ 1000000000 then some (.inl (x11 ++ x17.1, IntKind.wrap .i64 (x12 + 1))) else none))) else some (.inr (x11, x12, decide (x12 < (IntKind.wrap .i64 (x10.1 + x10.2))))))

noncomputable def impl_StripChecks.s0 (a0_0 : Int) (a1_0 : List (Option Nat)) (x4 : List ((Int × Int))) (x5 : List (Int)) (x6 : Int) : Option (((List (Int)) × Int) ⊕ (Int × Bool × (List (Int)))) :=
 (if (decide (x6 < (x4.length : Int))) = true then ((idx x4 x6).bind fun (x10 : (Int × Int)) => ((loopF (fun (s : (ByteArray × Int)) => impl_StripChecks.s1 a0_0 a1_0 x10 s.1 s.2) ((⟨#[]⟩ : ByteArray), x10.1)).bind fun (⟨x13, x14, x15⟩ : (ByteArray × Int × Bool)) => ((impl_CheckOf 0 x13).bind fun (x18 : (Int × Bool)) => (if x5.length + [x18.1].length ≤ 1000000000 then some (.inl (x5 ++ [x18.1], IntKind.wrap .i64 (x6 + 1))) else none)))) else some (.inr (x6, decide (x6 < (x4.length : Int)), x5)))

noncomputable def impl_StripChecks (a0_0 : Int) (a0_1 : Int) (a0_2 : Bool) (a0_3 : List (Option Nat)) (a0_4 : List (Option Nat)) (a1_0 : List (Option Nat)) (a1_1 : List (Option Nat)) (a1_2 : List (Option Nat)) (a2 : Int) : Option ((List (Int)) × Bool) :=
 ((((impl_IsField a0_0 a0_1 a0_2 a0_3 a0_4 a1_0 a1_1 a1_2).bind fun (x2 : Bool) => (if (!x2) = true then some true else ((impl_areWorkers a2).bind fun (x3 : Bool) => some (!x3)))) : Option Bool).bind fun (x1 : Bool) => (if x1 = true then some (([] : List (Int)), false) else ((impl_stripsOf a0_0 a0_1 a0_2 a0_3 a0_4 a2).bind fun (x4 : List ((Int × Int))) => ((loopF (fun (s : ((List (Int)) × Int)) => impl_StripChecks.s0 a0_0 a1_0 x4 s.1 s.2) (([] : List (Int)), 0)).bind fun (⟨x7, x8, x9⟩ : (Int × Bool × (List (Int)))) => some (x9, true)))))

noncomputable def laws_FnExactStripChecks (a0_0 : Int) (a0_1 : Int) (a0_2 : Bool) (a0_3 : List (Option Nat)) (a0_4 : List (Option Nat)) (a1_0 : List (Option Nat)) (a1_1 : List (Option Nat)) (a1_2 : List (Option Nat)) (a2 : Int) : Option Bool :=
 ((laws_szSheet a0_0 a0_1 a0_2 a0_3 a0_4 1048576).bind fun (x1 : Int) => (if (decide (x1 < 0)) = true then some true else ((laws_szField a1_0 a1_1 a1_2 x1).bind fun (x2 : Int) => (if (decide (x2 < 0)) = true then some true else ((laws_toSheet a0_0 a0_1 a0_2 a0_3 a0_4).bind fun (x3 : (Int × Int × Bool × (List (Option Nat)) × (List (Option Nat)))) => ((laws_toField a1_0 a1_1 a1_2).bind fun (x4 : ((List (Option Nat)) × (List (Option Nat)) × (List (Option Nat)))) => ((spec_StripChecks x3.1 x3.2.1 x3.2.2.1 x3.2.2.2.1 x3.2.2.2.2 x4.1 x4.2.1 x4.2.2 a2).bind fun (x5 : ((List (Int)) × Bool)) => ((laws_toSheet a0_0 a0_1 a0_2 a0_3 a0_4).bind fun (x6 : (Int × Int × Bool × (List (Option Nat)) × (List (Option Nat)))) => ((laws_toField a1_0 a1_1 a1_2).bind fun (x7 : ((List (Option Nat)) × (List (Option Nat)) × (List (Option Nat)))) => ((impl_StripChecks x6.1 x6.2.1 x6.2.2.1 x6.2.2.2.1 x6.2.2.2.2 x7.1 x7.2.1 x7.2.2 a2).bind fun (x8 : ((List (Int)) × Bool)) => ((((laws_eqInt64S x8.1 x5.1).bind fun (x10 : Bool) => (if (!x10) = true then some true else some (x8.2 != x5.2))) : Option Bool).bind fun (x9 : Bool) => (if x9 = true then some false else ((laws_toSheet a0_0 a0_1 a0_2 a0_3 a0_4).bind fun (x11 : (Int × Int × Bool × (List (Option Nat)) × (List (Option Nat)))) => ((laws_eqSheet x6.1 x6.2.1 x6.2.2.1 x6.2.2.2.1 x6.2.2.2.2 x11.1 x11.2.1 x11.2.2.1 x11.2.2.2.1 x11.2.2.2.2).bind fun (x12 : Bool) => (if (!x12) = true then some false else ((laws_toField a1_0 a1_1 a1_2).bind fun (x13 : ((List (Option Nat)) × (List (Option Nat)) × (List (Option Nat)))) => ((laws_eqField x7.1 x7.2.1 x7.2.2 x13.1 x13.2.1 x13.2.2).bind fun (x14 : Bool) => (if (!x14) = true then some false else ((laws_markSheet x6.1 x6.2.1 x6.2.2.1 x6.2.2.2.1 x6.2.2.2.2 1).bind fun (x15 : (Int × (List (Option Nat)) × (List (Option Nat)))) => ((laws_markField x7.1 x7.2.1 x7.2.2 x15.1).bind fun (x16 : (Int × (List (Option Nat)) × (List (Option Nat)) × (List (Option Nat)))) => (((if (decide (x16.1 < 0)) = true then some true else ((laws_eqInt64S x8.1 x5.1).bind fun (x18 : Bool) => (if (!x18) = true then some true else some (x8.2 != x5.2)))) : Option Bool).bind fun (x17 : Bool) => (if x17 = true then some false else ((laws_markInt64S x8.1 1).bind fun (x19 : (Int × (List (Int)))) => ((laws_heldInt64S x19.2 1).bind fun (x20 : Int) => (if (decide (x20 < 0)) = true then some false else (if (x20 != x19.1) = true then some false else ((laws_toSheet a0_0 a0_1 a0_2 a0_3 a0_4).bind fun (x21 : (Int × Int × Bool × (List (Option Nat)) × (List (Option Nat)))) => ((laws_toField a1_0 a1_1 a1_2).bind fun (x22 : ((List (Option Nat)) × (List (Option Nat)) × (List (Option Nat)))) => ((impl_StripChecks x21.1 x21.2.1 x21.2.2.1 x21.2.2.2.1 x21.2.2.2.2 x22.1 x22.2.1 x22.2.2 a2).bind fun (x23 : ((List (Int)) × Bool)) => ((((laws_eqInt64S x23.1 x5.1).bind fun (x25 : Bool) => (if (!x25) = true then some true else some (x23.2 != x5.2))) : Option Bool).bind fun (x24 : Bool) => (if x24 = true then some false else ((laws_heldInt64S x19.2 1).bind fun (x26 : Int) => (if (decide (x26 < 0)) = true then some false else (if (x26 != x19.1) = true then some false else some true))))))))))))))))))))))))))))))))))

set_option maxRecDepth 20000 in
theorem impl_hexOf_ok (h0 : Heap) (GT : TabH h0) (u0 : Value) (a0 : Option Nat) (g0 : IsF .f32 u0 a0) (r : ByteArray) (hp : impl_hexOf a0 = some r) : CallsH Tryd.prog 37 ([u0].toArray ++ [].toArray) h0 (fun v h' => v = (.string r) ∧ Mod [] h0 h' ∧ Sep [] h0.size h' []) := by
 unfold impl_hexOf at hp
 refine callsH_of_W (l := [u0]) (cap := []) 13 Tryd.func37 rfl rfl rfl ?_
 refine W.seq ?_
 refine W.region ?_
 refine RL.opD (by decide) (opv_assign rfl rfl) ?_
 refine RL.nil ?_
 refine thnN ?_
 refine W.seq ?_
 refine W.region ?_
 refine RL.opD (by decide) (opv_move rfl rfl) ?_
 obtain ⟨x1, hx1, hp⟩ := Option.bind_eq_some_iff.1 hp
 refine RL.op _ (by decide) (opv_call (cap := []) (impl_BitsOf_ok _ _ _ g0 _ hx1) rfl rfl ⟨rfl, trivial⟩ Tryd.func45 rfl rfl) ?_
 rintro _ _ ⟨rfl, rfl⟩
 obtain ⟨x2, hx2, hp⟩ := Option.bind_eq_some_iff.1 hp
 refine RL.op _ (by decide) (opv_call (cap := []) (strconv_FormatInt_ok _ (TabH.mod GT (Mod.refl [] h0)) _ _ _ hx2) rfl rfl ⟨rfl, rfl, trivial⟩ Tryd.func44 rfl rfl) ?_
 rintro _ hp1 ⟨rfl, MT_1, T_1⟩
 obtain ⟨X_1, S_1⟩ := Sep.turn0 (Mod.refl [] h0) (Sep.nil [] h0.size h0) MT_1 T_1
 refine RL.opD (by decide) (opv_assign rfl rfl) ?_
 refine RL.nil ?_
 refine thnN ?_
 refine W.seq ?_
 refine W.region ?_
 refine RL.opD (by decide) (opv_move rfl rfl) ?_
 refine RL.opD (by decide) (opv_lenS rfl Tryd.underlying9 rfl) ?_
 refine RL.opD (by decide) (opv_sub rfl rfl rfl) ?_
 obtain ⟨x3, hx3, hp⟩ := Option.bind_eq_some_iff.1 hp
 refine RL.op _ (by decide) (opv_call (cap := []) (strings_Repeat_ok _ _ _ _ hx3) rfl rfl ⟨rfl, rfl, trivial⟩ Tryd.func46 rfl rfl) ?_
 rintro _ hp2 ⟨rfl, MT_2, T_2⟩
 obtain ⟨X_2, S_2⟩ := Sep.turn0 X_1 S_1 MT_2 T_2
 refine RL.opD (by decide) (opv_move rfl rfl) ?_
 obtain ⟨c1, hp⟩ := of_ite hp
 refine RL.opD (by decide) (opv_strAdd rfl rfl rfl c1) ?_
 refine RL.opD (by decide) (opv_assign rfl rfl) ?_
 refine RL.nil ?_
 refine thnN ?_
 refine W.ret ?_
 have er := Option.some.inj hp
 subst er
 exact Rt.one rfl rfl ⟨rfl, X_2, (Sep.nil _ _ _)⟩

set_option maxRecDepth 20000 in
theorem impl_joined_ok (h0 : Heap) (u0 : Value) (a0 : List (ByteArray)) (g0 : SL kS h0.size h0 u0 a0) (r : ByteArray) (hp : impl_joined a0 = some r) : CallsH Tryd.prog 38 ([u0].toArray ++ [].toArray) h0 (fun v h' => v = (.string r) ∧ Mod [] h0 h' ∧ Sep [] h0.size h' []) := by
 unfold impl_joined at hp
 refine callsH_of_W (l := [u0]) (cap := []) 8 Tryd.func38 rfl rfl rfl ?_
 refine W.seq ?_
 refine W.region ?_
 refine RL.opD (by decide) (opv_assign rfl rfl) ?_
 refine RL.nil ?_
 refine thnN ?_
 refine W.seq ?_
 refine W.seq ?_
 refine W.region ?_
 refine RL.opD (by decide) (opv_move rfl rfl) ?_
 refine RL.opD (by decide) (opv_len rfl Tryd.underlying68 rfl g0) ?_
 refine RL.opD (by decide) (opv_icmp rfl rfl rfl rfl) ?_
 refine RL.nil ?_
 refine thnN ?_
 by_cases c1 : ((a0.length : Int) == 0) = true
 ·rw [if_pos c1] at hp
  refine W.condT rfl c1 ?_
  refine W.seq ?_
  refine W.region ?_
  refine RL.opD (by decide) (opv_assign rfl rfl) ?_
  refine RL.nil ?_
  refine thnN ?_
  refine W.ret ?_
  refine thnR ?_
  have er := Option.some.inj hp
  subst er
  exact Rt.one rfl rfl ⟨rfl, (Mod.refl [] h0), (Sep.nil _ _ _)⟩
 ·rw [if_neg c1] at hp
  have c1 := eq_false_of_ne_true c1
  refine W.condF rfl c1 ?_
  refine W.skip ?_
  refine thnN ?_
  refine W.seq ?_
  refine W.region ?_
  refine RL.opD (by decide) (opv_move rfl rfl) ?_
  obtain ⟨x1, hx1, hp⟩ := Option.bind_eq_some_iff.1 hp
  refine RL.op _ (by decide) (opv_call (cap := []) (strings_Join_ok _ _ _ g0 _ _ hx1) rfl rfl ⟨rfl, rfl, trivial⟩ Tryd.func47 rfl rfl) ?_
  rintro _ hp1 ⟨rfl, MT_1, T_1⟩
  obtain ⟨X_1, S_1⟩ := Sep.turn0 (Mod.refl [] h0) (Sep.nil [] h0.size h0) MT_1 T_1
  refine RL.opD (by decide) (opv_assign rfl rfl) ?_
  refine RL.nil ?_
  refine thnN ?_
  refine W.ret ?_
  have er := Option.some.inj hp
  subst er
  exact Rt.one rfl rfl ⟨rfl, X_1, (Sep.nil _ _ _)⟩

set_option maxRecDepth 20000 in
theorem impl_NumbersText_ok (h0 : Heap) (GT : TabH h0) (u0 : Value) (a0 : List (Option Nat)) (g0 : SL (kF .f32) h0.size h0 u0 a0) (r : (ByteArray × Bool)) (hp : impl_NumbersText a0 = some r) : CallsH Tryd.prog 27 ([u0].toArray ++ [].toArray) h0 (fun v h' => v = (.tuple (List.toArray (α := Value) [(.string r.1), (.bool r.2)])) ∧ Mod [] h0 h' ∧ Sep [] h0.size h' []) := by
 unfold impl_NumbersText at hp
 refine callsH_of_W (l := [u0]) (cap := []) 25 Tryd.func27 rfl rfl rfl ?_
 refine W.seq ?_
 refine W.region ?_
 refine RL.opD (by decide) (opv_assign rfl rfl) ?_
 refine RL.opD (by decide) (opv_assign rfl rfl) ?_
 refine RL.nil ?_
 refine thnN ?_
 refine W.seq ?_
 refine W.seq ?_
 refine W.region ?_
 refine RL.opD (by decide) (opv_move rfl rfl) ?_
 refine RL.opD (by decide) (opv_len rfl Tryd.underlying22 rfl g0) ?_
 refine RL.opD (by decide) (opv_icmp rfl rfl rfl rfl) ?_
 refine RL.nil ?_
 refine thnN ?_
 by_cases c1 : (decide ((a0.length : Int) > 256)) = true
 ·rw [if_pos c1] at hp
  refine W.condT rfl c1 ?_
  refine W.seq ?_
  refine W.region ?_
  refine RL.opD (by decide) (opv_assign rfl rfl) ?_
  refine RL.opD (by decide) (opv_assign rfl rfl) ?_
  refine RL.nil ?_
  refine thnN ?_
  refine W.ret ?_
  refine thnR ?_
  have er := Option.some.inj hp
  subst er
  exact Rt.two rfl rfl rfl ⟨rfl, (Mod.refl [] h0), (Sep.nil _ _ _)⟩
 ·rw [if_neg c1] at hp
  have c1 := eq_false_of_ne_true c1
  refine W.condF rfl c1 ?_
  refine W.skip ?_
  refine thnN ?_
  refine W.seq ?_
  refine W.region ?_
  refine RL.op _ (by decide) (opS_lit0 (K := kS) rfl Tryd.underlying68 Tryd.isinfo9) ?_
  rintro v1 hp1 ⟨MT_1, T_1⟩
  obtain ⟨X_1, S_1⟩ := Sep.turn0 (Mod.refl [] h0) (Sep.nil [] h0.size h0) MT_1 T_1
  refine RL.opD (by decide) (opv_assign rfl rfl) ?_
  refine RL.nil ?_
  refine thnN ?_
  refine W.seq ?_
  refine W.seq ?_
  refine W.region ?_
  refine RL.opD (by decide) (opv_move rfl rfl) ?_
  refine RL.opD (by decide) (opv_len rfl Tryd.underlying22 rfl (SL.mod g0 X_1 (Nat.le_refl _) nob)) ?_
  refine RL.opD (by decide) (opv_move rfl rfl) ?_
  refine RL.nil ?_
  refine thnN ?_
  obtain ⟨y1, hy1, hp⟩ := Option.bind_eq_some_iff.1 hp
  refine W.cut (fun φ' h' => ∃ x3, ∃ x4, ∃ x5, ∃ v3, y1 = (x3, x4, x5) ∧ Fr.sub [(0, u0), (2, (.string (⟨#[]⟩ : ByteArray))), (3, (.bool false)), (9, (.bool (decide ((a0.length : Int) > 256)))), (11, u0), (12, (.int .i64 (a0.length : Int))), (13, (.int .i64 x3)), (14, (.bool x4)), (4, v3)] φ' ∧ Mod [] h0 h' ∧ Sep [] h0.size h' [ownO kS 9 v3 x5]) ?_ ?_
  ·refine W.block ?_
   refine W.loopS (fun (s : ((List (ByteArray)) × Int)) φ' h' => ∃ v2, Fr.sub [(0, u0), (2, (.string (⟨#[]⟩ : ByteArray))), (3, (.bool false)), (9, (.bool (decide ((a0.length : Int) > 256)))), (11, u0), (12, (.int .i64 (a0.length : Int))), (4, v2), (13, (.int .i64 s.2))] φ' ∧ Mod [] h0 h' ∧ Sep [] h0.size h' [ownO kS 9 v2 s.1]) hy1 ⟨v1, ⟨rfl, rfl, rfl, rfl, rfl, rfl, rfl, rfl, trivial⟩, X_1, (Sep.sel S_1 [0] (by decide))⟩ ?_
   rintro ⟨x1, x2⟩ φ' hp2 o1 ⟨v2, hs1, X_2, S_2⟩ ho1 hy1
   have hs1 : Fr.sub [(0, u0), (2, (.string (⟨#[]⟩ : ByteArray))), (3, (.bool false)), (9, (.bool (decide ((a0.length : Int) > 256)))), (11, u0), (12, (.int .i64 (a0.length : Int))), (4, v2), (13, (.int .i64 x2))] φ' := hs1
   have S_2 : Sep [] h0.size hp2 [ownO kS 9 v2 x1] := S_2
   have ho1 : impl_NumbersText.s0 a0 x1 x2 = some o1 := ho1
   unfold impl_NumbersText.s0 at ho1
   refine W.sub hs1 ?_
   refine W.seq ?_
   refine W.region ?_
   refine RL.opD (by decide) (opv_icmp rfl rfl rfl rfl) ?_
   refine RL.nil ?_
   refine thnN ?_
   refine W.seq ?_
   by_cases c2 : (decide (x2 < (a0.length : Int))) = true
   ·rw [if_pos c2] at ho1
    refine W.condT rfl c2 ?_
    refine W.skip ?_
    refine thnN ?_
    refine W.seq ?_
    refine W.block ?_
    refine W.seq ?_
    refine W.region ?_
    obtain ⟨x6, hx6, ho1⟩ := Option.bind_eq_some_iff.1 ho1
    refine RL.op _ (by decide) (opv_index rfl Tryd.underlying22 (by rw [Tryd.size65]; rfl) rfl rfl (SL.mod g0 X_2 (Nat.le_refl _) nob) hx6) ?_
    rintro v4 _ ⟨fv4, rfl⟩
    refine RL.opF (by decide) (opv_loadF rfl Tryd.one65 rfl fv4 (SL.mod g0 X_2 (Nat.le_refl _) nob) hx6) ?_
    intro v5 fv5
    refine RL.opD (by decide) (opv_assign rfl rfl) ?_
    refine RL.nil ?_
    refine thnN ?_
    refine W.region ?_
    refine RL.opD (by decide) (opv_move rfl rfl) ?_
    refine RL.opD (by decide) (opv_move rfl rfl) ?_
    obtain ⟨x7, hx7, ho1⟩ := Option.bind_eq_some_iff.1 ho1
    refine RL.op _ (by decide) (opv_call (cap := []) (impl_hexOf_ok _ (TabH.mod GT X_2) _ _ fv5 _ hx7) rfl rfl ⟨rfl, trivial⟩ Tryd.func37 rfl rfl) ?_
    rintro _ hp3 ⟨rfl, MT_2, T_2⟩
    obtain ⟨X_3, S_3⟩ := Sep.turn0 X_2 S_2 MT_2 T_2
    refine RL.op _ (by decide) (opS_lit1 (K := kS) (z := x7) rfl Tryd.underlying68 Tryd.einfo9 rfl rfl rfl rfl rfl) ?_
    rintro v6 hp4 ⟨MT_3, T_3⟩
    obtain ⟨X_4, S_4⟩ := Sep.turn0 X_3 S_3 MT_3 T_3
    obtain ⟨c3, ho1⟩ := of_ite ho1
    refine RL.op _ (by decide) (opS_append (K := kS) rfl Tryd.underlying68 Tryd.einfo9 rfl rfl rfl rfl (Sep.at (o := ownO kS 9 v2 x1) S_4 1 rfl) (ownO.read (Sep.at (o := ownO kS 9 v6 [x7]) S_4 0 rfl)) (by decide) (by decide) c3) ?_
    rintro v7 hp5 ⟨MT_4, T_4⟩
    have S_5 : Sep [] h0.size hp4 ([ownO kS 9 v2 x1] ++ [ownO kS 9 v6 [x7]]) := Sep.sel S_4 [1, 0] (by decide)
    obtain ⟨X_5, S_6⟩ := Sep.turn X_4 S_5 MT_4 T_4
    refine RL.opD (by decide) (opv_assign rfl rfl) ?_
    refine RL.nil ?_
    refine blkN ?_
    refine thnN ?_
    refine W.region ?_
    refine RL.opD (by decide) (opv_add rfl rfl rfl) ?_
    refine RL.opD (by decide) (opv_move rfl rfl) ?_
    refine RL.nil ?_
    have eo1 := Option.some.inj ho1
    subst eo1
    refine rndN (s' := (x1 ++ [x7], IntKind.wrap .i64 (x2 + 1))) rfl ?_
    exact ⟨v7, ⟨rfl, rfl, rfl, rfl, rfl, rfl, rfl, rfl, trivial⟩, X_5, (Sep.sel S_6 [0] (by decide))⟩
   ·rw [if_neg c2] at ho1
    have c2 := eq_false_of_ne_true c2
    refine W.condF rfl c2 ?_
    refine W.exit ?_
    refine thnX ?_
    refine rndX ?_
    refine blkI ?_
    have eo1 := Option.some.inj ho1
    subst eo1
    have ey1 := hy1 _ rfl
    subst ey1
    refine onlyN ?_
    exact ⟨x2, decide (x2 < (a0.length : Int)), x1, v2, rfl, ⟨rfl, rfl, rfl, rfl, rfl, rfl, rfl, rfl, rfl, trivial⟩, X_2, (Sep.sel S_2 [0] (by decide))⟩
  rintro φ' hp6 ⟨x3, x4, x5, v3, rfl, hs2, X_6, S_7⟩
  try dsimp only at hp
  refine thnN ?_
  refine W.sub hs2 ?_
  refine W.seq ?_
  refine W.region ?_
  refine RL.opD (by decide) (opv_move rfl rfl) ?_
  obtain ⟨x8, hx8, hp⟩ := Option.bind_eq_some_iff.1 hp
  refine RL.op _ (by decide) (opv_call (cap := []) (impl_joined_ok _ _ _ (ownO.read (Sep.at (o := ownO kS 9 v3 x5) S_7 0 rfl)) _ hx8) rfl rfl ⟨rfl, trivial⟩ Tryd.func38 rfl rfl) ?_
  rintro _ hp7 ⟨rfl, MT_5, T_5⟩
  obtain ⟨X_7, S_8⟩ := Sep.turn0 X_6 S_7 MT_5 T_5
  refine RL.opD (by decide) (opv_assign rfl rfl) ?_
  refine RL.opD (by decide) (opv_assign rfl rfl) ?_
  refine RL.nil ?_
  refine thnN ?_
  refine W.ret ?_
  have er := Option.some.inj hp
  subst er
  exact Rt.two rfl rfl rfl ⟨rfl, X_7, (Sep.nil _ _ _)⟩

set_option maxHeartbeats 4000000 in
set_option maxRecDepth 20000 in
theorem impl_StripChecks_ok (h0 : Heap) (GT : TabH h0) (a0_0 : Int) (a0_1 : Int) (a0_2 : Bool) (u0_3 : Value) (a0_3 : List (Option Nat)) (g0_3 : SL (kF .f32) h0.size h0 u0_3 a0_3) (u0_4 : Value) (a0_4 : List (Option Nat)) (g0_4 : SL (kF .f32) h0.size h0 u0_4 a0_4) (u1_0 : Value) (a1_0 : List (Option Nat)) (g1_0 : SL (kF .f32) h0.size h0 u1_0 a1_0) (u1_1 : Value) (a1_1 : List (Option Nat)) (g1_1 : SL (kF .f32) h0.size h0 u1_1 a1_1) (u1_2 : Value) (a1_2 : List (Option Nat)) (g1_2 : SL (kF .f32) h0.size h0 u1_2 a1_2) (a2 : Int) (r : ((List (Int)) × Bool)) (hp : impl_StripChecks a0_0 a0_1 a0_2 a0_3 a0_4 a1_0 a1_1 a1_2 a2 = some r) : CallsH Tryd.prog 9 ([(.agg (List.toArray (α := Value) [(.int .i64 a0_0), (.int .i64 a0_1), (.bool a0_2), u0_3, u0_4])), (.agg (List.toArray (α := Value) [u1_0, u1_1, u1_2])), (.int .i64 a2)].toArray ++ [].toArray) h0 (fun v h' => ∃ w0, v = (.tuple (List.toArray (α := Value) [w0, (.bool r.2)])) ∧ Mod [] h0 h' ∧ Sep [] h0.size h' [ownO (kI .i64) 2 w0 r.1]) := by
 unfold impl_StripChecks at hp
 refine callsH_of_W (l := [(.agg (List.toArray (α := Value) [(.int .i64 a0_0), (.int .i64 a0_1), (.bool a0_2), u0_3, u0_4])), (.agg (List.toArray (α := Value) [u1_0, u1_1, u1_2])), (.int .i64 a2)]) (cap := []) 76 Tryd.func9 rfl rfl rfl ?_
 refine W.seq ?_
 refine W.region ?_
 refine RL.op _ (by decide) (opS_boxed (opv_boxA (cs := [(.int .i64 a0_0), (.int .i64 a0_1), (.bool a0_2), u0_3, u0_4]) rfl rfl)) ?_
 rintro _ hp1 ⟨bb1, rfl, MT_1, T_1⟩
 obtain ⟨X_1, S_1⟩ := Sep.turn0 (Mod.refl [] h0) (Sep.nil [] h0.size h0) MT_1 T_1
 refine RL.op _ (by decide) (opS_boxed (opv_boxA (cs := [u1_0, u1_1, u1_2]) rfl rfl)) ?_
 rintro _ hp2 ⟨bb2, rfl, MT_2, T_2⟩
 obtain ⟨X_2, S_2⟩ := Sep.turn0 X_1 S_1 MT_2 T_2
 refine RL.opD (by decide) (opv_assign rfl rfl) ?_
 have S_3 : Sep [] h0.size hp2 [ownO (kI .i64) 2 (.slice none 0 0) ([] : List (Int)), boxO bb2 [u1_0, u1_1, u1_2], boxO bb1 [(.int .i64 a0_0), (.int .i64 a0_1), (.bool a0_2), u0_3, u0_4]] := Sep.addNil S_2
 refine RL.opD (by decide) (opv_assign rfl rfl) ?_
 refine RL.nil ?_
 refine thnN ?_
 refine W.seq ?_
 refine W.seq ?_
 obtain ⟨x1, hy1, hp⟩ := Option.bind_eq_some_iff.1 hp
 refine W.cut (fun φ' h' => Fr.sub [(0, (.agg (List.toArray (α := Value) [(.int .i64 a0_0), (.int .i64 a0_1), (.bool a0_2), u0_3, u0_4]))), (1, (.agg (List.toArray (α := Value) [u1_0, u1_1, u1_2]))), (2, (.int .i64 a2)), (3, (.pointer (some ⟨bb1, 0, none⟩))), (4, (.pointer (some ⟨bb2, 0, none⟩))), (6, (.slice none 0 0)), (7, (.bool false)), (25, (.bool x1))] φ' ∧ Mod [] h0 h' ∧ Sep [] h0.size h' [ownO (kI .i64) 2 (.slice none 0 0) ([] : List (Int)), boxO bb2 [u1_0, u1_1, u1_2], boxO bb1 [(.int .i64 a0_0), (.int .i64 a0_1), (.bool a0_2), u0_3, u0_4]]) ?_ ?_
 ·refine W.region ?_
  refine RL.opD (by decide) (opv_loadA (us := [(.int .i64 a0_0), (.int .i64 a0_1), (.bool a0_2), u0_3, u0_4]) rfl Tryd.agg32 Tryd.size32 rfl (Sep.at (o := boxO bb1 [(.int .i64 a0_0), (.int .i64 a0_1), (.bool a0_2), u0_3, u0_4]) S_3 2 rfl) rfl rfl) ?_
  refine RL.opD (by decide) (opv_loadA (us := [u1_0, u1_1, u1_2]) rfl Tryd.agg34 Tryd.size34 rfl (Sep.at (o := boxO bb2 [u1_0, u1_1, u1_2]) S_3 1 rfl) rfl rfl) ?_
  obtain ⟨x2, hx2, hy1⟩ := Option.bind_eq_some_iff.1 hy1
  refine RL.op _ (by decide) (opv_call (cap := []) (impl_IsField_ok _ _ _ _ _ _ (SL.up (SL.mod g0_3 X_2 (Nat.le_refl _) nob) (Nat.le_trans (Nat.le_refl _) (Mod.size X_2))) _ _ (SL.up (SL.mod g0_4 X_2 (Nat.le_refl _) nob) (Nat.le_trans (Nat.le_refl _) (Mod.size X_2))) _ _ (SL.up (SL.mod g1_0 X_2 (Nat.le_refl _) nob) (Nat.le_trans (Nat.le_refl _) (Mod.size X_2))) _ _ (SL.up (SL.mod g1_1 X_2 (Nat.le_refl _) nob) (Nat.le_trans (Nat.le_refl _) (Mod.size X_2))) _ _ (SL.up (SL.mod g1_2 X_2 (Nat.le_refl _) nob) (Nat.le_trans (Nat.le_refl _) (Mod.size X_2))) _ hx2) rfl rfl ⟨rfl, rfl, trivial⟩ Tryd.func24 rfl rfl) ?_
  rintro _ hp3 ⟨rfl, MT_3, T_3⟩
  obtain ⟨X_3, S_4⟩ := Sep.turn0 X_2 S_3 MT_3 T_3
  refine RL.opD (by decide) (opv_not rfl rfl) ?_
  refine RL.opD (by decide) (opv_move rfl rfl) ?_
  by_cases c1 : (!x2) = true
  ·rw [if_pos c1] at hy1
   refine RL.noT rfl rfl c1 (by decide) ?_
   refine RL.noT rfl rfl c1 (by decide) ?_
   refine RL.noT rfl rfl c1 (by decide) ?_
   refine RL.opD (by decide) (opv_pick rfl rfl (fun _ => rfl) (fun e => absurd (Eq.trans (Eq.symm e) c1) (by decide)) rfl) ?_
   refine RL.nil ?_
   have ey1 := Option.some.inj hy1
   subst ey1
   refine onlyN ?_
   exact ⟨⟨rfl, rfl, rfl, rfl, rfl, rfl, rfl, rfl, trivial⟩, X_3, (Sep.sel S_4 [0, 1, 2] (by decide))⟩
  ·rw [if_neg c1] at hy1
   have c1 := eq_false_of_ne_true c1
   refine RL.yesD rfl rfl c1 (by decide) (opv_move rfl rfl) ?_
   obtain ⟨x3, hx3, hy1⟩ := Option.bind_eq_some_iff.1 hy1
   refine RL.yes _ rfl rfl c1 (by decide) (opv_call (cap := []) (impl_areWorkers_ok _ _ _ hx3) rfl rfl ⟨rfl, trivial⟩ Tryd.func25 rfl rfl) ?_
   rintro _ _ ⟨rfl, rfl⟩
   refine RL.yesD rfl rfl c1 (by decide) (opv_not rfl rfl) ?_
   refine RL.opD (by decide) (opv_pick rfl rfl (fun e => absurd (Eq.trans (Eq.symm e) c1) (by decide)) (fun _ => rfl) rfl) ?_
   refine RL.nil ?_
   have ey1 := Option.some.inj hy1
   subst ey1
   refine onlyN ?_
   exact ⟨⟨rfl, rfl, rfl, rfl, rfl, rfl, rfl, rfl, trivial⟩, X_3, (Sep.sel S_4 [0, 1, 2] (by decide))⟩
 rintro φ' hp4 ⟨hs1, X_4, S_5⟩
 refine thnN ?_
 refine W.sub hs1 ?_
 by_cases c2 : x1 = true
 ·rw [if_pos c2] at hp
  refine W.condT rfl c2 ?_
  refine W.seq ?_
  refine W.region ?_
  refine RL.opD (by decide) (opv_assign rfl rfl) ?_
  have S_6 : Sep [] h0.size hp4 [ownO (kI .i64) 2 (.slice none 0 0) ([] : List (Int)), ownO (kI .i64) 2 (.slice none 0 0) ([] : List (Int)), boxO bb2 [u1_0, u1_1, u1_2], boxO bb1 [(.int .i64 a0_0), (.int .i64 a0_1), (.bool a0_2), u0_3, u0_4]] := Sep.addNil S_5
  refine RL.opD (by decide) (opv_assign rfl rfl) ?_
  refine RL.nil ?_
  refine thnN ?_
  refine W.ret ?_
  refine thnR ?_
  have er := Option.some.inj hp
  subst er
  exact Rt.two rfl rfl rfl ⟨(.slice none 0 0), rfl, X_4, (Sep.sel S_6 [0] (by decide))⟩
 ·rw [if_neg c2] at hp
  have c2 := eq_false_of_ne_true c2
  refine W.condF rfl c2 ?_
  refine W.skip ?_
  refine thnN ?_
  refine W.seq ?_
  refine W.region ?_
  refine RL.op _ (by decide) (opS_lit0 (K := (kI .i64)) rfl Tryd.underlying29 Tryd.isinfo2) ?_
  rintro v1 hp5 ⟨MT_4, T_4⟩
  obtain ⟨X_5, S_7⟩ := Sep.turn0 X_4 S_5 MT_4 T_4
  refine RL.opD (by decide) (opv_assign rfl rfl) ?_
  refine RL.nil ?_
  refine thnN ?_
  refine W.seq ?_
  refine W.seq ?_
  refine W.region ?_
  refine RL.opD (by decide) (opv_loadA (us := [(.int .i64 a0_0), (.int .i64 a0_1), (.bool a0_2), u0_3, u0_4]) rfl Tryd.agg32 Tryd.size32 rfl (Sep.at (o := boxO bb1 [(.int .i64 a0_0), (.int .i64 a0_1), (.bool a0_2), u0_3, u0_4]) S_7 3 rfl) rfl rfl) ?_
  refine RL.opD (by decide) (opv_move rfl rfl) ?_
  obtain ⟨x4, hx4, hp⟩ := Option.bind_eq_some_iff.1 hp
  refine RL.op _ (by decide) (opv_call (cap := []) (impl_stripsOf_ok _ _ _ _ _ _ (SL.up (SL.mod g0_3 X_5 (Nat.le_refl _) nob) (Nat.le_trans (Nat.le_refl _) (Mod.size X_5))) _ _ (SL.up (SL.mod g0_4 X_5 (Nat.le_refl _) nob) (Nat.le_trans (Nat.le_refl _) (Mod.size X_5))) _ _ hx4) rfl rfl ⟨rfl, rfl, trivial⟩ Tryd.func26 rfl rfl) ?_
  rintro v2 hp6 ⟨MT_5, T_5⟩
  obtain ⟨X_6, S_8⟩ := Sep.turn0 X_5 S_7 MT_5 T_5
  refine RL.opD (by decide) (opv_len rfl Tryd.underlying48 rfl (ownO.read (Sep.at (o := ownO (kII .i64) 51 v2 x4) S_8 0 rfl))) ?_
  refine RL.opD (by decide) (opv_move rfl rfl) ?_
  refine RL.nil ?_
  refine thnN ?_
  obtain ⟨y2, hy2, hp⟩ := Option.bind_eq_some_iff.1 hp
  refine W.cut (fun φ' h' => ∃ x7, ∃ x8, ∃ x9, ∃ v4, y2 = (x7, x8, x9) ∧ Fr.sub [(0, (.agg (List.toArray (α := Value) [(.int .i64 a0_0), (.int .i64 a0_1), (.bool a0_2), u0_3, u0_4]))), (1, (.agg (List.toArray (α := Value) [u1_0, u1_1, u1_2]))), (2, (.int .i64 a2)), (3, (.pointer (some ⟨bb1, 0, none⟩))), (4, (.pointer (some ⟨bb2, 0, none⟩))), (6, (.slice none 0 0)), (7, (.bool false)), (25, (.bool x1)), (29, v2), (30, (.int .i64 (x4.length : Int))), (31, (.int .i64 x7)), (32, (.bool x8)), (8, v4)] φ' ∧ Mod [] h0 h' ∧ Sep [] h0.size h' [ownO (kII .i64) 51 v2 x4, ownO (kI .i64) 2 (.slice none 0 0) ([] : List (Int)), boxO bb2 [u1_0, u1_1, u1_2], boxO bb1 [(.int .i64 a0_0), (.int .i64 a0_1), (.bool a0_2), u0_3, u0_4], ownO (kI .i64) 2 v4 x9]) ?_ ?_
  ·refine W.block ?_
   refine W.loopS (fun (s : ((List (Int)) × Int)) φ' h' => ∃ v3, Fr.sub [(0, (.agg (List.toArray (α := Value) [(.int .i64 a0_0), (.int .i64 a0_1), (.bool a0_2), u0_3, u0_4]))), (1, (.agg (List.toArray (α := Value) [u1_0, u1_1, u1_2]))), (2, (.int .i64 a2)), (3, (.pointer (some ⟨bb1, 0, none⟩))), (4, (.pointer (some ⟨bb2, 0, none⟩))), (6, (.slice none 0 0)), (7, (.bool false)), (25, (.bool x1)), (29, v2), (30, (.int .i64 (x4.length : Int))), (8, v3), (31, (.int .i64 s.2))] φ' ∧ Mod [] h0 h' ∧ Sep [] h0.size h' [ownO (kII .i64) 51 v2 x4, ownO (kI .i64) 2 v3 s.1, ownO (kI .i64) 2 (.slice none 0 0) ([] : List (Int)), boxO bb2 [u1_0, u1_1, u1_2], boxO bb1 [(.int .i64 a0_0), (.int .i64 a0_1), (.bool a0_2), u0_3, u0_4]]) hy2 ⟨v1, ⟨rfl, rfl, rfl, rfl, rfl, rfl, rfl, rfl, rfl, rfl, rfl, rfl, trivial⟩, X_6, (Sep.sel S_8 [0, 1, 2, 3, 4] (by decide))⟩ ?_
   rintro ⟨x5, x6⟩ φ' hp7 o1 ⟨v3, hs2, X_7, S_9⟩ ho1 hy1
   have hs2 : Fr.sub [(0, (.agg (List.toArray (α := Value) [(.int .i64 a0_0), (.int .i64 a0_1), (.bool a0_2), u0_3, u0_4]))), (1, (.agg (List.toArray (α := Value) [u1_0, u1_1, u1_2]))), (2, (.int .i64 a2)), (3, (.pointer (some ⟨bb1, 0, none⟩))), (4, (.pointer (some ⟨bb2, 0, none⟩))), (6, (.slice none 0 0)), (7, (.bool false)), (25, (.bool x1)), (29, v2), (30, (.int .i64 (x4.length : Int))), (8, v3), (31, (.int .i64 x6))] φ' := hs2
   have S_9 : Sep [] h0.size hp7 [ownO (kII .i64) 51 v2 x4, ownO (kI .i64) 2 v3 x5, ownO (kI .i64) 2 (.slice none 0 0) ([] : List (Int)), boxO bb2 [u1_0, u1_1, u1_2], boxO bb1 [(.int .i64 a0_0), (.int .i64 a0_1), (.bool a0_2), u0_3, u0_4]] := S_9
   have ho1 : impl_StripChecks.s0 a0_0 a1_0 x4 x5 x6 = some o1 := ho1
   unfold impl_StripChecks.s0 at ho1
   refine W.sub hs2 ?_
   refine W.seq ?_
   refine W.region ?_
   refine RL.opD (by decide) (opv_icmp rfl rfl rfl rfl) ?_
   refine RL.nil ?_
   refine thnN ?_
   refine W.seq ?_
   by_cases c3 : (decide (x6 < (x4.length : Int))) = true
   ·rw [if_pos c3] at ho1
    refine W.condT rfl c3 ?_
    refine W.skip ?_
    refine thnN ?_
    refine W.seq ?_
    refine W.block ?_
    refine W.seq ?_
    refine W.region ?_
    obtain ⟨x10, hx10, ho1⟩ := Option.bind_eq_some_iff.1 ho1
    refine RL.op _ (by decide) (opv_index rfl Tryd.underlying48 (by rw [Tryd.size51]; rfl) rfl rfl (ownO.read (Sep.at (o := ownO (kII .i64) 51 v2 x4) S_9 0 rfl)) hx10) ?_
    rintro v5 _ ⟨fv5, rfl⟩
    refine RL.opD (by decide) (opv_loadWhole (K := (kII .i64)) rfl Tryd.agg51 (by rw [Tryd.size51]; rfl) rfl fv5 (ownO.read (Sep.at (o := ownO (kII .i64) 51 v2 x4) S_9 0 rfl)) (idx_some hx10).2.2 kII_all) ?_
    refine RL.op _ (by decide) (opS_boxed (opv_alloc (cs := [(.int .i64 0), (.int .i64 0)]) rfl Tryd.zero51 rfl)) ?_
    rintro _ hp8 ⟨bb3, rfl, MT_6, T_6⟩
    obtain ⟨X_8, S_10⟩ := Sep.turn0 X_7 S_9 MT_6 T_6
    refine RL.op0 _ (opS_stored (cs := [(.int .i64 0), (.int .i64 0)]) (cs' := [(.int .i64 x10.1), (.int .i64 x10.2)]) (opv_storeA (us := [(.int .i64 x10.1), (.int .i64 x10.2)]) rfl Tryd.size51 rfl rfl (oneAll rfl (oneAll rfl rfl)) (Sep.at (o := boxO bb3 [(.int .i64 0), (.int .i64 0)]) S_10 0 rfl) rfl rfl) (Sep.at (o := boxO bb3 [(.int .i64 0), (.int .i64 0)]) S_10 0 rfl)) ?_
    rintro _ hp9 ⟨rfl, MT_7, T_7⟩
    have S_11 : Sep [] h0.size hp8 ([boxO bb3 [(.int .i64 0), (.int .i64 0)]] ++ [ownO (kII .i64) 51 v2 x4, ownO (kI .i64) 2 v3 x5, ownO (kI .i64) 2 (.slice none 0 0) ([] : List (Int)), boxO bb2 [u1_0, u1_1, u1_2], boxO bb1 [(.int .i64 a0_0), (.int .i64 a0_1), (.bool a0_2), u0_3, u0_4]]) := Sep.sel S_10 [0, 1, 2, 3, 4, 5] (by decide)
    obtain ⟨X_9, S_12⟩ := Sep.turn X_8 S_11 MT_7 T_7
    refine RL.nil ?_
    refine thnN ?_
    refine W.seq ?_
    refine W.region ?_
    refine RL.opD (by decide) (opv_assign rfl rfl) ?_
    refine RL.nil ?_
    refine thnN ?_
    refine W.seq ?_
    refine W.seq ?_
    refine W.region ?_
    refine RL.opD (by decide) (opv_fieldAddr rfl Tryd.fo51_0 rfl) ?_
    refine RL.opD (by decide) (opv_loadB rfl Tryd.one2 rfl (Sep.at (o := boxO bb3 [(.int .i64 x10.1), (.int .i64 x10.2)]) S_12 0 rfl) rfl) ?_
    refine RL.opD (by decide) (opv_assign rfl rfl) ?_
    refine RL.nil ?_
    refine thnN ?_
    obtain ⟨y3, hy3, ho1⟩ := Option.bind_eq_some_iff.1 ho1
    refine W.cut (fun φ' h' => ∃ x13, ∃ x14, ∃ x15, y3 = (x13, x14, x15) ∧ Fr.sub [(0, (.agg (List.toArray (α := Value) [(.int .i64 a0_0), (.int .i64 a0_1), (.bool a0_2), u0_3, u0_4]))), (1, (.agg (List.toArray (α := Value) [u1_0, u1_1, u1_2]))), (2, (.int .i64 a2)), (3, (.pointer (some ⟨bb1, 0, none⟩))), (4, (.pointer (some ⟨bb2, 0, none⟩))), (6, (.slice none 0 0)), (7, (.bool false)), (25, (.bool x1)), (29, v2), (30, (.int .i64 (x4.length : Int))), (8, v3), (31, (.int .i64 x6)), (32, (.bool (decide (x6 < (x4.length : Int))))), (10, (.pointer (some ⟨bb3, 0, none⟩))), (11, (.string x13)), (12, (.int .i64 x14)), (43, (.bool x15))] φ' ∧ Mod [] h0 h' ∧ Sep [] h0.size h' [boxO bb3 [(.int .i64 x10.1), (.int .i64 x10.2)], ownO (kII .i64) 51 v2 x4, ownO (kI .i64) 2 v3 x5, ownO (kI .i64) 2 (.slice none 0 0) ([] : List (Int)), boxO bb2 [u1_0, u1_1, u1_2], boxO bb1 [(.int .i64 a0_0), (.int .i64 a0_1), (.bool a0_2), u0_3, u0_4]]) ?_ ?_
    ·refine W.block ?_
     refine W.loopS (fun (s : (ByteArray × Int)) φ' h' => Fr.sub [(0, (.agg (List.toArray (α := Value) [(.int .i64 a0_0), (.int .i64 a0_1), (.bool a0_2), u0_3, u0_4]))), (1, (.agg (List.toArray (α := Value) [u1_0, u1_1, u1_2]))), (2, (.int .i64 a2)), (3, (.pointer (some ⟨bb1, 0, none⟩))), (4, (.pointer (some ⟨bb2, 0, none⟩))), (6, (.slice none 0 0)), (7, (.bool false)), (25, (.bool x1)), (29, v2), (30, (.int .i64 (x4.length : Int))), (8, v3), (31, (.int .i64 x6)), (32, (.bool (decide (x6 < (x4.length : Int))))), (10, (.pointer (some ⟨bb3, 0, none⟩))), (11, (.string s.1)), (12, (.int .i64 s.2))] φ' ∧ Mod [] h0 h' ∧ Sep [] h0.size h' [boxO bb3 [(.int .i64 x10.1), (.int .i64 x10.2)], ownO (kII .i64) 51 v2 x4, ownO (kI .i64) 2 v3 x5, ownO (kI .i64) 2 (.slice none 0 0) ([] : List (Int)), boxO bb2 [u1_0, u1_1, u1_2], boxO bb1 [(.int .i64 a0_0), (.int .i64 a0_1), (.bool a0_2), u0_3, u0_4]]) hy3 ⟨⟨rfl, rfl, rfl, rfl, rfl, rfl, rfl, rfl, rfl, rfl, rfl, rfl, rfl, rfl, rfl, rfl, trivial⟩, X_9, (Sep.sel S_12 [0, 1, 2, 3, 4, 5] (by decide))⟩ ?_
     rintro ⟨x11, x12⟩ φ' hp10 o2 ⟨hs4, X_10, S_13⟩ ho2 hy2
     have hs4 : Fr.sub [(0, (.agg (List.toArray (α := Value) [(.int .i64 a0_0), (.int .i64 a0_1), (.bool a0_2), u0_3, u0_4]))), (1, (.agg (List.toArray (α := Value) [u1_0, u1_1, u1_2]))), (2, (.int .i64 a2)), (3, (.pointer (some ⟨bb1, 0, none⟩))), (4, (.pointer (some ⟨bb2, 0, none⟩))), (6, (.slice none 0 0)), (7, (.bool false)), (25, (.bool x1)), (29, v2), (30, (.int .i64 (x4.length : Int))), (8, v3), (31, (.int .i64 x6)), (32, (.bool (decide (x6 < (x4.length : Int))))), (10, (.pointer (some ⟨bb3, 0, none⟩))), (11, (.string x11)), (12, (.int .i64 x12))] φ' := hs4
     have S_13 : Sep [] h0.size hp10 [boxO bb3 [(.int .i64 x10.1), (.int .i64 x10.2)], ownO (kII .i64) 51 v2 x4, ownO (kI .i64) 2 v3 x5, ownO (kI .i64) 2 (.slice none 0 0) ([] : List (Int)), boxO bb2 [u1_0, u1_1, u1_2], boxO bb1 [(.int .i64 a0_0), (.int .i64 a0_1), (.bool a0_2), u0_3, u0_4]] := S_13
     have ho2 : impl_StripChecks.s1 a0_0 a1_0 x10 x11 x12 = some o2 := ho2
     unfold impl_StripChecks.s1 at ho2
     refine W.sub hs4 ?_
     refine W.seq ?_
     refine W.seq ?_
     refine W.region ?_
     refine RL.opD (by decide) (opv_move rfl rfl) ?_
     refine RL.opD (by decide) (opv_fieldAddr rfl Tryd.fo51_0 rfl) ?_
     refine RL.opD (by decide) (opv_loadB rfl Tryd.one2 rfl (Sep.at (o := boxO bb3 [(.int .i64 x10.1), (.int .i64 x10.2)]) S_13 0 rfl) rfl) ?_
     refine RL.opD (by decide) (opv_fieldAddr rfl Tryd.fo51_1 rfl) ?_
     refine RL.opD (by decide) (opv_loadB rfl Tryd.one2 rfl (Sep.at (o := boxO bb3 [(.int .i64 x10.1), (.int .i64 x10.2)]) S_13 0 rfl) rfl) ?_
     refine RL.opD (by decide) (opv_add rfl rfl rfl) ?_
     refine RL.opD (by decide) (opv_icmp rfl rfl rfl rfl) ?_
     refine RL.nil ?_
     refine thnN ?_
     by_cases c4 : (decide (x12 < (IntKind.wrap .i64 (x10.1 + x10.2)))) = true
     ·rw [if_pos c4] at ho2
      refine W.condT rfl c4 ?_
      refine W.skip ?_
      refine thnN ?_
      refine W.seq ?_
      refine W.block ?_
      refine W.seq ?_
      refine W.region ?_
      refine RL.opD (by decide) (opv_fieldAddr rfl Tryd.fo34_0 rfl) ?_
      refine RL.opD (by decide) (opv_loadB rfl Tryd.one22 rfl (Sep.at (o := boxO bb2 [u1_0, u1_1, u1_2]) S_13 4 rfl) rfl) ?_
      refine RL.opD (by decide) (opv_move rfl rfl) ?_
      refine RL.opD (by decide) (opv_fieldAddr rfl Tryd.fo32_0 rfl) ?_
      refine RL.opD (by decide) (opv_loadB rfl Tryd.one2 rfl (Sep.at (o := boxO bb1 [(.int .i64 a0_0), (.int .i64 a0_1), (.bool a0_2), u0_3, u0_4]) S_13 5 rfl) rfl) ?_
      refine RL.opD (by decide) (opv_mul rfl rfl rfl) ?_
      refine RL.opD (by decide) (opv_move rfl rfl) ?_
      refine RL.opD (by decide) (opv_add rfl rfl rfl) ?_
      refine RL.opD (by decide) (opv_fieldAddr rfl Tryd.fo32_0 rfl) ?_
      refine RL.opD (by decide) (opv_loadB rfl Tryd.one2 rfl (Sep.at (o := boxO bb1 [(.int .i64 a0_0), (.int .i64 a0_1), (.bool a0_2), u0_3, u0_4]) S_13 5 rfl) rfl) ?_
      refine RL.opD (by decide) (opv_mul rfl rfl rfl) ?_
      obtain ⟨x16, hx16, ho2⟩ := Option.bind_eq_some_iff.1 ho2
      refine RL.op _ (by decide) (opv_cut (K := (kF .f32)) rfl Tryd.underlying22 (by rw [Tryd.size65]; rfl) rfl (.inr ⟨_, _, rfl, rfl⟩) (.inr ⟨_, _, rfl, rfl⟩) (SL.mod g1_0 X_10 (Nat.le_refl _) nob) hx16) ?_
      rintro v6 _ ⟨fv6, rfl⟩
      have fv6 := SL.back fv6 X_10 (Nat.le_refl _) nob
      obtain ⟨x17, hx17, ho2⟩ := Option.bind_eq_some_iff.1 ho2
      refine RL.op _ (by decide) (opv_call (cap := []) (impl_NumbersText_ok _ (TabH.mod GT X_10) _ _ (SL.up (SL.mod fv6 X_10 (Nat.le_refl _) nob) (Nat.le_trans (Nat.le_refl _) (Mod.size X_10))) _ hx17) rfl rfl ⟨rfl, trivial⟩ Tryd.func27 rfl rfl) ?_
      rintro _ hp11 ⟨rfl, MT_8, T_8⟩
      obtain ⟨X_11, S_14⟩ := Sep.turn0 X_10 S_13 MT_8 T_8
      refine RL.opD (by decide) (opv_move rfl rfl) ?_
      refine RL.opD (by decide) (opv_extract rfl rfl rfl) ?_
      refine RL.opD (by decide) (opv_extract rfl rfl rfl) ?_
      refine RL.opD (by decide) (opv_assign rfl rfl) ?_
      refine RL.opD (by decide) (opv_assign rfl rfl) ?_
      refine RL.nil ?_
      refine thnN ?_
      refine W.region ?_
      refine RL.opD (by decide) (opv_move rfl rfl) ?_
      refine RL.opD (by decide) (opv_move rfl rfl) ?_
      obtain ⟨c5, ho2⟩ := of_ite ho2
      refine RL.opD (by decide) (opv_strAdd rfl rfl rfl c5) ?_
      refine RL.opD (by decide) (opv_assign rfl rfl) ?_
      refine RL.nil ?_
      refine blkN ?_
      refine thnN ?_
      refine W.region ?_
      refine RL.opD (by decide) (opv_move rfl rfl) ?_
      refine RL.opD (by decide) (opv_add rfl rfl rfl) ?_
      refine RL.opD (by decide) (opv_assign rfl rfl) ?_
      refine RL.nil ?_
      have eo2 := Option.some.inj ho2
      subst eo2
      refine rndN (s' := (x11 ++ x17.1, IntKind.wrap .i64 (x12 + 1))) rfl ?_
      exact ⟨⟨rfl, rfl, rfl, rfl, rfl, rfl, rfl, rfl, rfl, rfl, rfl, rfl, rfl, rfl, rfl, rfl, trivial⟩, X_11, (Sep.sel S_14 [0, 1, 2, 3, 4, 5] (by decide))⟩
     ·rw [if_neg c4] at ho2
      have c4 := eq_false_of_ne_true c4
      refine W.condF rfl c4 ?_
      refine W.exit ?_
      refine thnX ?_
      refine rndX ?_
      refine blkI ?_
      have eo2 := Option.some.inj ho2
      subst eo2
      have ey3 := hy2 _ rfl
      subst ey3
      refine onlyN ?_
      exact ⟨x11, x12, decide (x12 < (IntKind.wrap .i64 (x10.1 + x10.2))), rfl, ⟨rfl, rfl, rfl, rfl, rfl, rfl, rfl, rfl, rfl, rfl, rfl, rfl, rfl, rfl, rfl, rfl, rfl, trivial⟩, X_10, (Sep.sel S_13 [0, 1, 2, 3, 4, 5] (by decide))⟩
    rintro φ' hp12 ⟨x13, x14, x15, rfl, hs5, X_12, S_15⟩
    try dsimp only at ho1
    refine thnN ?_
    refine W.sub hs5 ?_
    refine W.seq ?_
    refine W.region ?_
    refine RL.opD (by decide) (opv_move rfl rfl) ?_
    obtain ⟨x18, hx18, ho1⟩ := Option.bind_eq_some_iff.1 ho1
    refine RL.op _ (by decide) (opv_call (cap := []) (impl_CheckOf_ok _ _ _ _ hx18) rfl rfl ⟨rfl, rfl, trivial⟩ Tryd.func28 rfl rfl) ?_
    rintro _ _ ⟨rfl, rfl⟩
    refine RL.opD (by decide) (opv_move rfl rfl) ?_
    refine RL.opD (by decide) (opv_extract rfl rfl rfl) ?_
    refine RL.opD (by decide) (opv_extract rfl rfl rfl) ?_
    refine RL.opD (by decide) (opv_assign rfl rfl) ?_
    refine RL.opD (by decide) (opv_assign rfl rfl) ?_
    refine RL.nil ?_
    refine thnN ?_
    refine W.region ?_
    refine RL.opD (by decide) (opv_move rfl rfl) ?_
    refine RL.opD (by decide) (opv_move rfl rfl) ?_
    refine RL.op _ (by decide) (opS_lit1 (K := (kI .i64)) (z := x18.1) rfl Tryd.underlying29 Tryd.einfo2 rfl rfl rfl rfl rfl) ?_
    rintro v7 hp13 ⟨MT_9, T_9⟩
    obtain ⟨X_13, S_16⟩ := Sep.turn0 X_12 S_15 MT_9 T_9
    obtain ⟨c6, ho1⟩ := of_ite ho1
    refine RL.op _ (by decide) (opS_append (K := (kI .i64)) rfl Tryd.underlying29 Tryd.einfo2 rfl rfl rfl rfl (Sep.at (o := ownO (kI .i64) 2 v3 x5) S_16 3 rfl) (ownO.read (Sep.at (o := ownO (kI .i64) 2 v7 [x18.1]) S_16 0 rfl)) (by decide) (by decide) c6) ?_
    rintro v8 hp14 ⟨MT_10, T_10⟩
    have S_17 : Sep [] h0.size hp13 ([ownO (kI .i64) 2 v3 x5] ++ [ownO (kI .i64) 2 v7 [x18.1], boxO bb3 [(.int .i64 x10.1), (.int .i64 x10.2)], ownO (kII .i64) 51 v2 x4, ownO (kI .i64) 2 (.slice none 0 0) ([] : List (Int)), boxO bb2 [u1_0, u1_1, u1_2], boxO bb1 [(.int .i64 a0_0), (.int .i64 a0_1), (.bool a0_2), u0_3, u0_4]]) := Sep.sel S_16 [3, 0, 1, 2, 4, 5, 6] (by decide)
    obtain ⟨X_14, S_18⟩ := Sep.turn X_13 S_17 MT_10 T_10
    refine RL.opD (by decide) (opv_assign rfl rfl) ?_
    refine RL.nil ?_
    refine blkN ?_
    refine thnN ?_
    refine W.region ?_
    refine RL.opD (by decide) (opv_add rfl rfl rfl) ?_
    refine RL.opD (by decide) (opv_move rfl rfl) ?_
    refine RL.nil ?_
    have eo1 := Option.some.inj ho1
    subst eo1
    refine rndN (s' := (x5 ++ [x18.1], IntKind.wrap .i64 (x6 + 1))) rfl ?_
    exact ⟨v8, ⟨rfl, rfl, rfl, rfl, rfl, rfl, rfl, rfl, rfl, rfl, rfl, rfl, trivial⟩, X_14, (Sep.sel S_18 [3, 0, 4, 5, 6] (by decide))⟩
   ·rw [if_neg c3] at ho1
    have c3 := eq_false_of_ne_true c3
    refine W.condF rfl c3 ?_
    refine W.exit ?_
    refine thnX ?_
    refine rndX ?_
    refine blkI ?_
    have eo1 := Option.some.inj ho1
    subst eo1
    have ey2 := hy1 _ rfl
    subst ey2
    refine onlyN ?_
    exact ⟨x6, decide (x6 < (x4.length : Int)), x5, v3, rfl, ⟨rfl, rfl, rfl, rfl, rfl, rfl, rfl, rfl, rfl, rfl, rfl, rfl, rfl, trivial⟩, X_7, (Sep.sel S_9 [0, 2, 3, 4, 1] (by decide))⟩
  rintro φ' hp15 ⟨x7, x8, x9, v4, rfl, hs3, X_15, S_19⟩
  try dsimp only at hp
  refine thnN ?_
  refine W.sub hs3 ?_
  refine W.seq ?_
  refine W.region ?_
  refine RL.opD (by decide) (opv_move rfl rfl) ?_
  refine RL.opD (by decide) (opv_assign rfl rfl) ?_
  refine RL.opD (by decide) (opv_assign rfl rfl) ?_
  refine RL.nil ?_
  refine thnN ?_
  refine W.ret ?_
  have er := Option.some.inj hp
  subst er
  exact Rt.two rfl rfl rfl ⟨v4, rfl, X_15, (Sep.sel S_19 [4] (by decide))⟩

set_option maxHeartbeats 4000000 in
set_option maxRecDepth 20000 in
theorem laws_FnExactStripChecks_ok (h0 : Heap) (GT : TabH h0) (a0_0 : Int) (a0_1 : Int) (a0_2 : Bool) (u0_3 : Value) (a0_3 : List (Option Nat)) (g0_3 : SL (kF .f32) h0.size h0 u0_3 a0_3) (u0_4 : Value) (a0_4 : List (Option Nat)) (g0_4 : SL (kF .f32) h0.size h0 u0_4 a0_4) (u1_0 : Value) (a1_0 : List (Option Nat)) (g1_0 : SL (kF .f32) h0.size h0 u1_0 a1_0) (u1_1 : Value) (a1_1 : List (Option Nat)) (g1_1 : SL (kF .f32) h0.size h0 u1_1 a1_1) (u1_2 : Value) (a1_2 : List (Option Nat)) (g1_2 : SL (kF .f32) h0.size h0 u1_2 a1_2) (a2 : Int) (r : Bool) (hp : laws_FnExactStripChecks a0_0 a0_1 a0_2 a0_3 a0_4 a1_0 a1_1 a1_2 a2 = some r) : CallsH Tryd.prog 3 ([(.agg (List.toArray (α := Value) [(.int .i64 a0_0), (.int .i64 a0_1), (.bool a0_2), u0_3, u0_4])), (.agg (List.toArray (α := Value) [u1_0, u1_1, u1_2])), (.int .i64 a2)].toArray ++ [].toArray) h0 (fun v h' => v = (.bool r) ∧ Mod [] h0 h' ∧ Sep [] h0.size h' []) := by
 unfold laws_FnExactStripChecks at hp
 refine callsH_of_W (l := [(.agg (List.toArray (α := Value) [(.int .i64 a0_0), (.int .i64 a0_1), (.bool a0_2), u0_3, u0_4])), (.agg (List.toArray (α := Value) [u1_0, u1_1, u1_2])), (.int .i64 a2)]) (cap := []) 124 Tryd.func3 rfl rfl rfl ?_
 refine W.seq ?_
 refine W.region ?_
 refine RL.op _ (by decide) (opS_boxed (opv_boxA (cs := [(.int .i64 a0_0), (.int .i64 a0_1), (.bool a0_2), u0_3, u0_4]) rfl rfl)) ?_
 rintro _ hp1 ⟨bb1, rfl, MT_1, T_1⟩
 obtain ⟨X_1, S_1⟩ := Sep.turn0 (Mod.refl [] h0) (Sep.nil [] h0.size h0) MT_1 T_1
 refine RL.op _ (by decide) (opS_boxed (opv_boxA (cs := [u1_0, u1_1, u1_2]) rfl rfl)) ?_
 rintro _ hp2 ⟨bb2, rfl, MT_2, T_2⟩
 obtain ⟨X_2, S_2⟩ := Sep.turn0 X_1 S_1 MT_2 T_2
 refine RL.opD (by decide) (opv_assign rfl rfl) ?_
 refine RL.nil ?_
 refine thnN ?_
 refine W.seq ?_
 refine W.region ?_
 refine RL.opD (by decide) (opv_assign rfl rfl) ?_
 refine RL.nil ?_
 refine thnN ?_
 refine W.seq ?_
 refine W.region ?_
 refine RL.opD (by decide) (opv_loadA (us := [(.int .i64 a0_0), (.int .i64 a0_1), (.bool a0_2), u0_3, u0_4]) rfl Tryd.agg24 Tryd.size24 rfl (Sep.at (o := boxO bb1 [(.int .i64 a0_0), (.int .i64 a0_1), (.bool a0_2), u0_3, u0_4]) S_2 1 rfl) rfl rfl) ?_
 refine RL.opD (by decide) (opv_move rfl rfl) ?_
 obtain ⟨x1, hx1, hp⟩ := Option.bind_eq_some_iff.1 hp
 refine RL.op _ (by decide) (opv_call (cap := []) (laws_szSheet_ok _ _ _ _ _ _ (SL.up (SL.mod g0_3 X_2 (Nat.le_refl _) nob) (Nat.le_trans (Nat.le_refl _) (Mod.size X_2))) _ _ (SL.up (SL.mod g0_4 X_2 (Nat.le_refl _) nob) (Nat.le_trans (Nat.le_refl _) (Mod.size X_2))) _ _ hx1) rfl rfl ⟨rfl, rfl, trivial⟩ Tryd.func4 rfl rfl) ?_
 rintro _ hp3 ⟨rfl, MT_3, T_3⟩
 obtain ⟨X_3, S_3⟩ := Sep.turn0 X_2 S_2 MT_3 T_3
 refine RL.opD (by decide) (opv_assign rfl rfl) ?_
 refine RL.nil ?_
 refine thnN ?_
 refine W.seq ?_
 refine W.seq ?_
 refine W.region ?_
 refine RL.opD (by decide) (opv_move rfl rfl) ?_
 refine RL.opD (by decide) (opv_icmp rfl rfl rfl rfl) ?_
 refine RL.nil ?_
 refine thnN ?_
 by_cases c1 : (decide (x1 < 0)) = true
 ·rw [if_pos c1] at hp
  refine W.condT rfl c1 ?_
  refine W.seq ?_
  refine W.region ?_
  refine RL.opD (by decide) (opv_assign rfl rfl) ?_
  refine RL.nil ?_
  refine thnN ?_
  refine W.ret ?_
  refine thnR ?_
  have er := Option.some.inj hp
  subst er
  exact Rt.one rfl rfl ⟨rfl, X_3, (Sep.nil _ _ _)⟩
 ·rw [if_neg c1] at hp
  have c1 := eq_false_of_ne_true c1
  refine W.condF rfl c1 ?_
  refine W.skip ?_
  refine thnN ?_
  refine W.seq ?_
  refine W.region ?_
  refine RL.opD (by decide) (opv_loadA (us := [u1_0, u1_1, u1_2]) rfl Tryd.agg26 Tryd.size26 rfl (Sep.at (o := boxO bb2 [u1_0, u1_1, u1_2]) S_3 0 rfl) rfl rfl) ?_
  refine RL.opD (by decide) (opv_move rfl rfl) ?_
  obtain ⟨x2, hx2, hp⟩ := Option.bind_eq_some_iff.1 hp
  refine RL.op _ (by decide) (opv_call (cap := []) (laws_szField_ok _ _ _ (SL.up (SL.mod g1_0 X_3 (Nat.le_refl _) nob) (Nat.le_trans (Nat.le_refl _) (Mod.size X_3))) _ _ (SL.up (SL.mod g1_1 X_3 (Nat.le_refl _) nob) (Nat.le_trans (Nat.le_refl _) (Mod.size X_3))) _ _ (SL.up (SL.mod g1_2 X_3 (Nat.le_refl _) nob) (Nat.le_trans (Nat.le_refl _) (Mod.size X_3))) _ _ hx2) rfl rfl ⟨rfl, rfl, trivial⟩ Tryd.func5 rfl rfl) ?_
  rintro _ hp4 ⟨rfl, MT_4, T_4⟩
  obtain ⟨X_4, S_4⟩ := Sep.turn0 X_3 S_3 MT_4 T_4
  refine RL.opD (by decide) (opv_assign rfl rfl) ?_
  refine RL.nil ?_
  refine thnN ?_
  refine W.seq ?_
  refine W.seq ?_
  refine W.region ?_
  refine RL.opD (by decide) (opv_move rfl rfl) ?_
  refine RL.opD (by decide) (opv_icmp rfl rfl rfl rfl) ?_
  refine RL.nil ?_
  refine thnN ?_
  by_cases c2 : (decide (x2 < 0)) = true
  ·rw [if_pos c2] at hp
   refine W.condT rfl c2 ?_
   refine W.seq ?_
   refine W.region ?_
   refine RL.opD (by decide) (opv_assign rfl rfl) ?_
   refine RL.nil ?_
   refine thnN ?_
   refine W.ret ?_
   refine thnR ?_
   have er := Option.some.inj hp
   subst er
   exact Rt.one rfl rfl ⟨rfl, X_4, (Sep.nil _ _ _)⟩
  ·rw [if_neg c2] at hp
   have c2 := eq_false_of_ne_true c2
   refine W.condF rfl c2 ?_
   refine W.skip ?_
   refine thnN ?_
   refine W.seq ?_
   obtain ⟨x3, hx3, hp⟩ := Option.bind_eq_some_iff.1 hp
   obtain ⟨x4, hx4, hp⟩ := Option.bind_eq_some_iff.1 hp
   obtain ⟨x5, hx5, hp⟩ := Option.bind_eq_some_iff.1 hp
   refine W.sub (ψ := [(0, (.agg (List.toArray (α := Value) [(.int .i64 a0_0), (.int .i64 a0_1), (.bool a0_2), u0_3, u0_4]))), (1, (.agg (List.toArray (α := Value) [u1_0, u1_1, u1_2]))), (2, (.int .i64 a2)), (3, (.pointer (some ⟨bb1, 0, none⟩))), (4, (.pointer (some ⟨bb2, 0, none⟩))), (6, (.bool false)), (7, (.int .i64 x2)), (23, (.bool (decide (x1 < 0)))), (28, (.bool (decide (x2 < 0))))]) ⟨rfl, rfl, rfl, rfl, rfl, rfl, rfl, rfl, rfl, trivial⟩ ?_
   refine W.regionM [fun v _ => @Eq Value (.agg (List.toArray (α := Value) [(.int .i64 a0_0), (.int .i64 a0_1), (.bool a0_2), u0_3, u0_4])) v, fun v h => ∃ v1, ∃ v2, @Eq Value v (.agg (List.toArray (α := Value) [(.int .i64 x3.1), (.int .i64 x3.2.1), (.bool x3.2.2.1), v1, v2])) ∧ Sep [] hp4.size h [ownO (kF .f32) 65 v1 x3.2.2.2.1, ownO (kF .f32) 65 v2 x3.2.2.2.2], fun v _ => @Eq Value (.agg (List.toArray (α := Value) [u1_0, u1_1, u1_2])) v, fun v h => ∃ v3, ∃ v4, ∃ v5, @Eq Value v (.agg (List.toArray (α := Value) [v3, v4, v5])) ∧ Sep [] hp4.size h [ownO (kF .f32) 65 v3 x4.1, ownO (kF .f32) 65 v4 x4.2.1, ownO (kF .f32) 65 v5 x4.2.2], fun v _ => @Eq Value (.int .i64 a2) v, fun v h => ∃ v6, @Eq Value v (.tuple (List.toArray (α := Value) [v6, (.bool x5.2)])) ∧ Sep [] hp4.size h [ownO (kI .i64) 2 v6 x5.1], fun v h => ∃ v6, @Eq Value v (.tuple (List.toArray (α := Value) [v6, (.bool x5.2)])) ∧ Sep [] hp4.size h [ownO (kI .i64) 2 v6 x5.1], fun v h => ∃ v6, @Eq Value v v6 ∧ Sep [] hp4.size h [ownO (kI .i64) 2 v6 x5.1], fun v _ => @Eq Value (.bool x5.2) v, fun v h => ∃ v6, @Eq Value v v6 ∧ Sep [] hp4.size h [ownO (kI .i64) 2 v6 x5.1], fun v _ => @Eq Value (.bool x5.2) v] [none, some (fun u => [Value.ownBlock (vget u 3), Value.ownBlock (vget u 4)]), none, some (fun u => [Value.ownBlock (vget u 0), Value.ownBlock (vget u 1), Value.ownBlock (vget u 2)]), none, some (fun u => [Value.ownBlock (vget u 0)]), none, none, none, none, none] [none, none, none, none, none, none, some (35, fun u => u), some (29, fun u => vget u 0), none, some (36, fun u => u)] [[], [0], [], [2], [], [1, 3, 4], [5], [6], [6], [7], [8]] [5, 6, 7, 9, 10] Tryd.mixed (by decide +kernel) (by decide +kernel) rfl rfl rfl (by decide +kernel) rfl ⟨fun _ _ _ h _ => h, fun _ _ _ ⟨u0_, u1_, e, h⟩ x => ⟨u0_, u1_, e, h.ext x⟩, fun _ _ _ h _ => h, fun _ _ _ ⟨u0_, u1_, u2_, e, h⟩ x => ⟨u0_, u1_, u2_, e, h.ext x⟩, fun _ _ _ h _ => h, fun _ _ _ ⟨u0_, e, h⟩ x => ⟨u0_, e, h.ext x⟩, fun _ _ _ ⟨u0_, e, h⟩ x => ⟨u0_, e, h.ext x⟩, fun _ _ _ ⟨u0_, e, h⟩ x => ⟨u0_, e, h.ext x⟩, fun _ _ _ h _ => h, fun _ _ _ ⟨u0_, e, h⟩ x => ⟨u0_, e, h.ext x⟩, fun _ _ _ h _ => h, trivial⟩ ?_ ?_
   ·refine ⟨⟨rfl, ?_⟩, ⟨rfl, ?_⟩, ⟨rfl, ?_⟩, ⟨rfl, ?_⟩, ⟨rfl, ?_⟩, ⟨rfl, ?_⟩, ⟨rfl, ?_⟩, ⟨rfl, ?_⟩, ⟨rfl, ?_⟩, ⟨rfl, ?_⟩, ⟨rfl, ?_⟩, trivial⟩
    ·rintro hp8 E_1
     refine Dep.nil ?_
     refine GuardOK.none rfl ?_
     exact OpV.toDx (opv_loadA (us := [(.int .i64 a0_0), (.int .i64 a0_1), (.bool a0_2), u0_3, u0_4]) rfl Tryd.agg24 Tryd.size24 rfl (Sep.at (o := boxO bb1 [(.int .i64 a0_0), (.int .i64 a0_1), (.bool a0_2), u0_3, u0_4]) (Sep.ext S_4 E_1) 1 rfl) rfl rfl) rfl
    ·rintro hp9 E_2 _ rfl
     refine Dep.nil ?_
     refine GuardOK.none rfl ?_
     exact OpV.mono (opv_call (cap := []) (laws_toSheet_ok _ _ _ _ _ _ (SL.up (SL.mod g0_3 (Mod.lift X_4 E_2) (Nat.le_refl _) nob) (Nat.le_trans (Nat.le_refl _) (Mod.size (Mod.lift X_4 E_2)))) _ _ (SL.up (SL.mod g0_4 (Mod.lift X_4 E_2) (Nat.le_refl _) nob) (Nat.le_trans (Nat.le_refl _) (Mod.size (Mod.lift X_4 E_2)))) _ hx3) rfl rfl ⟨rfl, trivial⟩ Tryd.func7 rfl rfl) (by rintro _ _ ⟨v1, v2, rfl, M_, T_⟩; exact ⟨Mod.ext M_, ⟨v1, v2, rfl, Sep.weak T_ (Ext.size E_2)⟩, Sep.fresh T_⟩)
    ·rintro hp10 E_3
     refine Dep.nil ?_
     refine GuardOK.none rfl ?_
     exact OpV.toDx (opv_loadA (us := [u1_0, u1_1, u1_2]) rfl Tryd.agg26 Tryd.size26 rfl (Sep.at (o := boxO bb2 [u1_0, u1_1, u1_2]) (Sep.ext S_4 E_3) 0 rfl) rfl rfl) rfl
    ·rintro hp11 E_4 _ rfl
     refine Dep.nil ?_
     refine GuardOK.none rfl ?_
     exact OpV.mono (opv_call (cap := []) (laws_toField_ok _ _ _ (SL.up (SL.mod g1_0 (Mod.lift X_4 E_4) (Nat.le_refl _) nob) (Nat.le_trans (Nat.le_refl _) (Mod.size (Mod.lift X_4 E_4)))) _ _ (SL.up (SL.mod g1_1 (Mod.lift X_4 E_4) (Nat.le_refl _) nob) (Nat.le_trans (Nat.le_refl _) (Mod.size (Mod.lift X_4 E_4)))) _ _ (SL.up (SL.mod g1_2 (Mod.lift X_4 E_4) (Nat.le_refl _) nob) (Nat.le_trans (Nat.le_refl _) (Mod.size (Mod.lift X_4 E_4)))) _ hx4) rfl rfl ⟨rfl, trivial⟩ Tryd.func8 rfl rfl) (by rintro _ _ ⟨v3, v4, v5, rfl, M_, T_⟩; exact ⟨Mod.ext M_, ⟨v3, v4, v5, rfl, Sep.weak T_ (Ext.size E_4)⟩, Sep.fresh T_⟩)
    ·rintro hp12 E_5
     refine Dep.nil ?_
     refine GuardOK.none rfl ?_
     exact OpV.toDx (opv_move rfl rfl) rfl
    ·rintro hp13 E_6 _ ⟨v1, v2, rfl, T_5⟩ _ ⟨v3, v4, v5, rfl, T_6⟩ _ rfl
     refine Dep.nil ?_
     refine GuardOK.none rfl ?_
     exact OpV.mono (opv_call (cap := []) (spec_StripChecks_ok _ _ _ _ _ _ (ownO.read (Sep.at (o := ownO (kF .f32) 65 v1 x3.2.2.2.1) T_5 0 rfl)) _ _ (ownO.read (Sep.at (o := ownO (kF .f32) 65 v2 x3.2.2.2.2) T_5 1 rfl)) _ _ (ownO.read (Sep.at (o := ownO (kF .f32) 65 v3 x4.1) T_6 0 rfl)) _ _ (ownO.read (Sep.at (o := ownO (kF .f32) 65 v4 x4.2.1) T_6 1 rfl)) _ _ (ownO.read (Sep.at (o := ownO (kF .f32) 65 v5 x4.2.2) T_6 2 rfl)) _ _ hx5) rfl rfl ⟨rfl, rfl, rfl, trivial⟩ Tryd.func6 rfl rfl) (by rintro _ _ ⟨v6, rfl, M_, T_⟩; exact ⟨Mod.ext M_, ⟨v6, rfl, Sep.weak T_ (Ext.size E_6)⟩, Sep.fresh T_⟩)
    ·rintro hp14 E_7 _ ⟨v6, rfl, T_7⟩
     refine Dep.nil ?_
     refine GuardOK.none rfl ?_
     exact OpV.mono (opv_move rfl rfl) (by rintro _ _ ⟨rfl, rfl⟩; exact ⟨⟨Ext.refl _, v6, rfl, T_7⟩, _, rfl, rfl⟩)
    ·rintro hp15 E_8 _ ⟨v6, rfl, T_7⟩
     refine Dep.nil ?_
     refine GuardOK.none rfl ?_
     exact OpV.mono (opv_extract rfl rfl rfl) (by rintro _ _ ⟨rfl, rfl⟩; exact ⟨⟨Ext.refl _, v6, rfl, T_7⟩, _, rfl, rfl⟩)
    ·rintro hp16 E_9 _ ⟨v6, rfl, T_7⟩
     refine Dep.nil ?_
     refine GuardOK.none rfl ?_
     exact OpV.toDx (opv_extract rfl rfl rfl) rfl
    ·rintro hp17 E_10 v6 ⟨_, rfl, T_7⟩
     refine Dep.nil ?_
     refine GuardOK.none rfl ?_
     exact OpV.mono (opv_assign rfl rfl) (by rintro _ _ ⟨rfl, rfl⟩; exact ⟨⟨Ext.refl _, v6, rfl, T_7⟩, _, rfl, rfl⟩)
    ·rintro hp18 E_11 _ rfl
     refine Dep.nil ?_
     refine GuardOK.none rfl ?_
     exact OpV.toDx (opv_assign rfl rfl) rfl
   rintro hp19 E_12 _ ⟨v6, rfl, T_7⟩ z6_ _ z7_ _ z9_ _ _ rfl
   refine DepM.nil ?_
   intro PW_1 LK_
   have ez6_ : z6_ = (.tuple (List.toArray (α := Value) [v6, (.bool x5.2)])) := LK_ 6 _ _ _ _ _ (by decide) rfl rfl rfl rfl
   subst z6_
   have ez7_ : z7_ = v6 := LK_ 7 _ _ _ _ _ (by decide) rfl rfl rfl rfl
   subst z7_
   have ez9_ : z9_ = v6 := LK_ 9 _ _ _ _ _ (by decide) rfl rfl rfl rfl
   subst z9_
   have X_8 := Mod.lift X_4 E_12
   have S_8 := Sep.join S_4 (Mod.size X_4) (Ext.mod E_12 []) T_7
   show RL _ _ _ _ [] _ _
   refine RL.nil ?_
   refine thnN ?_
   refine W.seq ?_
   refine W.region ?_
   refine RL.opD (by decide) (opv_loadA (us := [(.int .i64 a0_0), (.int .i64 a0_1), (.bool a0_2), u0_3, u0_4]) rfl Tryd.agg24 Tryd.size24 rfl (Sep.at (o := boxO bb1 [(.int .i64 a0_0), (.int .i64 a0_1), (.bool a0_2), u0_3, u0_4]) S_8 2 rfl) rfl rfl) ?_
   obtain ⟨x6, hx6, hp⟩ := Option.bind_eq_some_iff.1 hp
   refine RL.op _ (by decide) (opv_call (cap := []) (laws_toSheet_ok _ _ _ _ _ _ (SL.up (SL.mod g0_3 X_8 (Nat.le_refl _) nob) (Nat.le_trans (Nat.le_refl _) (Mod.size X_8))) _ _ (SL.up (SL.mod g0_4 X_8 (Nat.le_refl _) nob) (Nat.le_trans (Nat.le_refl _) (Mod.size X_8))) _ hx6) rfl rfl ⟨rfl, trivial⟩ Tryd.func7 rfl rfl) ?_
   rintro _ hp20 ⟨v13, v14, rfl, MT_8, T_8⟩
   obtain ⟨X_9, S_9⟩ := Sep.turn0 X_8 S_8 MT_8 T_8
   refine RL.op _ (by decide) (opS_boxed (opv_alloc (cs := [(.int .i64 0), (.int .i64 0), (.bool false), (.slice none 0 0), (.slice none 0 0)]) rfl Tryd.zero32 rfl)) ?_
   rintro _ hp21 ⟨bb3, rfl, MT_9, T_9⟩
   obtain ⟨X_10, S_10⟩ := Sep.turn0 X_9 S_9 MT_9 T_9
   refine RL.op0 _ (opS_stored (cs := [(.int .i64 0), (.int .i64 0), (.bool false), (.slice none 0 0), (.slice none 0 0)]) (cs' := [(.int .i64 x6.1), (.int .i64 x6.2.1), (.bool x6.2.2.1), v13, v14]) (opv_storeA (us := [(.int .i64 x6.1), (.int .i64 x6.2.1), (.bool x6.2.2.1), v13, v14]) rfl Tryd.size32 rfl rfl (oneAll rfl (oneAll rfl (oneAll rfl (oneAll (ownO.one (Sep.at (o := ownO (kF .f32) 65 v13 x6.2.2.2.1) S_10 1 rfl)) (oneAll (ownO.one (Sep.at (o := ownO (kF .f32) 65 v14 x6.2.2.2.2) S_10 2 rfl)) rfl))))) (Sep.at (o := boxO bb3 [(.int .i64 0), (.int .i64 0), (.bool false), (.slice none 0 0), (.slice none 0 0)]) S_10 0 rfl) rfl rfl) (Sep.at (o := boxO bb3 [(.int .i64 0), (.int .i64 0), (.bool false), (.slice none 0 0), (.slice none 0 0)]) S_10 0 rfl)) ?_
   rintro _ hp22 ⟨rfl, MT_10, T_10⟩
   have S_11 : Sep [] h0.size hp21 ([boxO bb3 [(.int .i64 0), (.int .i64 0), (.bool false), (.slice none 0 0), (.slice none 0 0)]] ++ [ownO (kF .f32) 65 v13 x6.2.2.2.1, ownO (kF .f32) 65 v14 x6.2.2.2.2, ownO (kI .i64) 2 v6 x5.1, boxO bb2 [u1_0, u1_1, u1_2], boxO bb1 [(.int .i64 a0_0), (.int .i64 a0_1), (.bool a0_2), u0_3, u0_4]]) := Sep.sel S_10 [0, 1, 2, 3, 4, 5] (by decide)
   obtain ⟨X_11, S_12⟩ := Sep.turn X_10 S_11 MT_10 T_10
   refine RL.nil ?_
   refine thnN ?_
   refine W.seq ?_
   refine W.region ?_
   refine RL.opD (by decide) (opv_loadA (us := [u1_0, u1_1, u1_2]) rfl Tryd.agg26 Tryd.size26 rfl (Sep.at (o := boxO bb2 [u1_0, u1_1, u1_2]) S_12 4 rfl) rfl rfl) ?_
   obtain ⟨x7, hx7, hp⟩ := Option.bind_eq_some_iff.1 hp
   refine RL.op _ (by decide) (opv_call (cap := []) (laws_toField_ok _ _ _ (SL.up (SL.mod g1_0 X_11 (Nat.le_refl _) nob) (Nat.le_trans (Nat.le_refl _) (Mod.size X_11))) _ _ (SL.up (SL.mod g1_1 X_11 (Nat.le_refl _) nob) (Nat.le_trans (Nat.le_refl _) (Mod.size X_11))) _ _ (SL.up (SL.mod g1_2 X_11 (Nat.le_refl _) nob) (Nat.le_trans (Nat.le_refl _) (Mod.size X_11))) _ hx7) rfl rfl ⟨rfl, trivial⟩ Tryd.func8 rfl rfl) ?_
   rintro _ hp23 ⟨v15, v16, v17, rfl, MT_11, T_11⟩
   obtain ⟨X_12, S_13⟩ := Sep.turn0 X_11 S_12 MT_11 T_11
   refine RL.op _ (by decide) (opS_boxed (opv_alloc (cs := [(.slice none 0 0), (.slice none 0 0), (.slice none 0 0)]) rfl Tryd.zero34 rfl)) ?_
   rintro _ hp24 ⟨bb4, rfl, MT_12, T_12⟩
   obtain ⟨X_13, S_14⟩ := Sep.turn0 X_12 S_13 MT_12 T_12
   refine RL.op0 _ (opS_stored (cs := [(.slice none 0 0), (.slice none 0 0), (.slice none 0 0)]) (cs' := [v15, v16, v17]) (opv_storeA (us := [v15, v16, v17]) rfl Tryd.size34 rfl rfl (oneAll (ownO.one (Sep.at (o := ownO (kF .f32) 65 v15 x7.1) S_14 1 rfl)) (oneAll (ownO.one (Sep.at (o := ownO (kF .f32) 65 v16 x7.2.1) S_14 2 rfl)) (oneAll (ownO.one (Sep.at (o := ownO (kF .f32) 65 v17 x7.2.2) S_14 3 rfl)) rfl))) (Sep.at (o := boxO bb4 [(.slice none 0 0), (.slice none 0 0), (.slice none 0 0)]) S_14 0 rfl) rfl rfl) (Sep.at (o := boxO bb4 [(.slice none 0 0), (.slice none 0 0), (.slice none 0 0)]) S_14 0 rfl)) ?_
   rintro _ hp25 ⟨rfl, MT_13, T_13⟩
   have S_15 : Sep [] h0.size hp24 ([boxO bb4 [(.slice none 0 0), (.slice none 0 0), (.slice none 0 0)]] ++ [ownO (kF .f32) 65 v15 x7.1, ownO (kF .f32) 65 v16 x7.2.1, ownO (kF .f32) 65 v17 x7.2.2, boxO bb3 [(.int .i64 x6.1), (.int .i64 x6.2.1), (.bool x6.2.2.1), v13, v14], ownO (kF .f32) 65 v13 x6.2.2.2.1, ownO (kF .f32) 65 v14 x6.2.2.2.2, ownO (kI .i64) 2 v6 x5.1, boxO bb2 [u1_0, u1_1, u1_2], boxO bb1 [(.int .i64 a0_0), (.int .i64 a0_1), (.bool a0_2), u0_3, u0_4]]) := Sep.sel S_14 [0, 1, 2, 3, 4, 5, 6, 7, 8, 9] (by decide)
   obtain ⟨X_14, S_16⟩ := Sep.turn X_13 S_15 MT_13 T_13
   refine RL.nil ?_
   refine thnN ?_
   refine W.seq ?_
   refine W.region ?_
   refine RL.opD (by decide) (opv_loadA (us := [(.int .i64 x6.1), (.int .i64 x6.2.1), (.bool x6.2.2.1), v13, v14]) rfl Tryd.agg32 Tryd.size32 rfl (Sep.at (o := boxO bb3 [(.int .i64 x6.1), (.int .i64 x6.2.1), (.bool x6.2.2.1), v13, v14]) S_16 4 rfl) rfl rfl) ?_
   refine RL.opD (by decide) (opv_loadA (us := [v15, v16, v17]) rfl Tryd.agg34 Tryd.size34 rfl (Sep.at (o := boxO bb4 [v15, v16, v17]) S_16 0 rfl) rfl rfl) ?_
   refine RL.opD (by decide) (opv_move rfl rfl) ?_
   obtain ⟨x8, hx8, hp⟩ := Option.bind_eq_some_iff.1 hp
   refine RL.op _ (by decide) (opv_call (cap := []) (impl_StripChecks_ok _ (TabH.mod GT X_14) _ _ _ _ _ (ownO.read (Sep.at (o := ownO (kF .f32) 65 v13 x6.2.2.2.1) S_16 5 rfl)) _ _ (ownO.read (Sep.at (o := ownO (kF .f32) 65 v14 x6.2.2.2.2) S_16 6 rfl)) _ _ (ownO.read (Sep.at (o := ownO (kF .f32) 65 v15 x7.1) S_16 1 rfl)) _ _ (ownO.read (Sep.at (o := ownO (kF .f32) 65 v16 x7.2.1) S_16 2 rfl)) _ _ (ownO.read (Sep.at (o := ownO (kF .f32) 65 v17 x7.2.2) S_16 3 rfl)) _ _ hx8) rfl rfl ⟨rfl, rfl, rfl, trivial⟩ Tryd.func9 rfl rfl) ?_
   rintro _ hp26 ⟨v18, rfl, MT_14, T_14⟩
   obtain ⟨X_15, S_17⟩ := Sep.turn0 X_14 S_16 MT_14 T_14
   refine RL.opD (by decide) (opv_move rfl rfl) ?_
   refine RL.opD (by decide) (opv_extract rfl rfl rfl) ?_
   refine RL.opD (by decide) (opv_extract rfl rfl rfl) ?_
   refine RL.opD (by decide) (opv_assign rfl rfl) ?_
   refine RL.opD (by decide) (opv_assign rfl rfl) ?_
   refine RL.nil ?_
   refine thnN ?_
   refine W.seq ?_
   refine W.seq ?_
   obtain ⟨x9, hy1, hp⟩ := Option.bind_eq_some_iff.1 hp
   refine W.cut (fun φ' h' => Fr.sub [(0, (.agg (List.toArray (α := Value) [(.int .i64 a0_0), (.int .i64 a0_1), (.bool a0_2), u0_3, u0_4]))), (1, (.agg (List.toArray (α := Value) [u1_0, u1_1, u1_2]))), (2, (.int .i64 a2)), (3, (.pointer (some ⟨bb1, 0, none⟩))), (4, (.pointer (some ⟨bb2, 0, none⟩))), (6, (.bool false)), (7, (.int .i64 x2)), (23, (.bool (decide (x1 < 0)))), (28, (.bool (decide (x2 < 0)))), (8, v6), (9, (.bool x5.2)), (10, (.pointer (some ⟨bb3, 0, none⟩))), (11, (.pointer (some ⟨bb4, 0, none⟩))), (12, v18), (13, (.bool x8.2)), (57, (.bool x9))] φ' ∧ hp26 = h') ?_ ?_
   ·refine W.region ?_
    refine RL.opD (by decide) (opv_move rfl rfl) ?_
    refine RL.opD (by decide) (opv_move rfl rfl) ?_
    obtain ⟨x10, hx10, hy1⟩ := Option.bind_eq_some_iff.1 hy1
    refine RL.op _ (by decide) (opv_call (cap := []) (laws_eqInt64S_ok _ _ _ (ownO.read (Sep.at (o := ownO (kI .i64) 2 v18 x8.1) S_17 0 rfl)) _ _ (ownO.read (Sep.at (o := ownO (kI .i64) 2 v6 x5.1) S_17 8 rfl)) _ hx10) rfl rfl ⟨rfl, rfl, trivial⟩ Tryd.func10 rfl rfl) ?_
    rintro _ _ ⟨rfl, rfl⟩
    refine RL.opD (by decide) (opv_not rfl rfl) ?_
    refine RL.opD (by decide) (opv_move rfl rfl) ?_
    by_cases c3 : (!x10) = true
    ·rw [if_pos c3] at hy1
     refine RL.noT rfl rfl c3 (by decide) ?_
     refine RL.noT rfl rfl c3 (by decide) ?_
     refine RL.noT rfl rfl c3 (by decide) ?_
     refine RL.opD (by decide) (opv_pick rfl rfl (fun _ => rfl) (fun e => absurd (Eq.trans (Eq.symm e) c3) (by decide)) rfl) ?_
     refine RL.nil ?_
     have ey1 := Option.some.inj hy1
     subst ey1
     refine onlyN ?_
     exact ⟨⟨rfl, rfl, rfl, rfl, rfl, rfl, rfl, rfl, rfl, rfl, rfl, rfl, rfl, rfl, rfl, rfl, trivial⟩, rfl⟩
    ·rw [if_neg c3] at hy1
     have c3 := eq_false_of_ne_true c3
     refine RL.yesD rfl rfl c3 (by decide) (opv_move rfl rfl) ?_
     refine RL.yesD rfl rfl c3 (by decide) (opv_move rfl rfl) ?_
     refine RL.yesD rfl rfl c3 (by decide) (opv_bcmp rfl rfl Tryd.underlying4 rfl rfl) ?_
     refine RL.opD (by decide) (opv_pick rfl rfl (fun e => absurd (Eq.trans (Eq.symm e) c3) (by decide)) (fun _ => rfl) rfl) ?_
     refine RL.nil ?_
     have ey1 := Option.some.inj hy1
     subst ey1
     refine onlyN ?_
     exact ⟨⟨rfl, rfl, rfl, rfl, rfl, rfl, rfl, rfl, rfl, rfl, rfl, rfl, rfl, rfl, rfl, rfl, trivial⟩, rfl⟩
   rintro φ' _ ⟨hs1, rfl⟩
   refine thnN ?_
   refine W.sub hs1 ?_
   by_cases c4 : x9 = true
   ·rw [if_pos c4] at hp
    refine W.condT rfl c4 ?_
    refine W.seq ?_
    refine W.region ?_
    refine RL.opD (by decide) (opv_assign rfl rfl) ?_
    refine RL.nil ?_
    refine thnN ?_
    refine W.ret ?_
    refine thnR ?_
    have er := Option.some.inj hp
    subst er
    exact Rt.one rfl rfl ⟨rfl, X_15, (Sep.nil _ _ _)⟩
   ·rw [if_neg c4] at hp
    have c4 := eq_false_of_ne_true c4
    refine W.condF rfl c4 ?_
    refine W.skip ?_
    refine thnN ?_
    refine W.seq ?_
    refine W.seq ?_
    obtain ⟨x11, hx11, hp⟩ := Option.bind_eq_some_iff.1 hp
    obtain ⟨x12, hx12, hp⟩ := Option.bind_eq_some_iff.1 hp
    refine W.sub (ψ := [(0, (.agg (List.toArray (α := Value) [(.int .i64 a0_0), (.int .i64 a0_1), (.bool a0_2), u0_3, u0_4]))), (1, (.agg (List.toArray (α := Value) [u1_0, u1_1, u1_2]))), (2, (.int .i64 a2)), (3, (.pointer (some ⟨bb1, 0, none⟩))), (4, (.pointer (some ⟨bb2, 0, none⟩))), (6, (.bool false)), (7, (.int .i64 x2)), (23, (.bool (decide (x1 < 0)))), (28, (.bool (decide (x2 < 0)))), (8, v6), (9, (.bool x5.2)), (10, (.pointer (some ⟨bb3, 0, none⟩))), (11, (.pointer (some ⟨bb4, 0, none⟩))), (12, v18), (13, (.bool x8.2)), (57, (.bool x9))]) ⟨rfl, rfl, rfl, rfl, rfl, rfl, rfl, rfl, rfl, rfl, rfl, rfl, rfl, rfl, rfl, rfl, trivial⟩ ?_
    refine W.regionM [fun v _ => @Eq Value (.agg (List.toArray (α := Value) [(.int .i64 x6.1), (.int .i64 x6.2.1), (.bool x6.2.2.1), v13, v14])) v, fun v _ => @Eq Value (.agg (List.toArray (α := Value) [(.int .i64 a0_0), (.int .i64 a0_1), (.bool a0_2), u0_3, u0_4])) v, fun v h => ∃ v19, ∃ v20, @Eq Value v (.agg (List.toArray (α := Value) [(.int .i64 x11.1), (.int .i64 x11.2.1), (.bool x11.2.2.1), v19, v20])) ∧ Sep [] hp26.size h [ownO (kF .f32) 65 v19 x11.2.2.2.1, ownO (kF .f32) 65 v20 x11.2.2.2.2], fun v h => @Eq Value v (.bool x12) ∧ Sep [] hp26.size h [], fun v _ => @Eq Value (.bool (!x12)) v] [none, none, some (fun u => [Value.ownBlock (vget u 3), Value.ownBlock (vget u 4)]), some (fun u => []), none] [] [[], [], [1], [0, 2], [3]] [4] Tryd.mixed (by decide +kernel) (by decide +kernel) rfl rfl rfl (by decide +kernel) rfl ⟨fun _ _ _ h _ => h, fun _ _ _ h _ => h, fun _ _ _ ⟨u0_, u1_, e, h⟩ x => ⟨u0_, u1_, e, h.ext x⟩, fun _ _ _ ⟨e, h⟩ x => ⟨e, h.ext x⟩, fun _ _ _ h _ => h, trivial⟩ ?_ ?_
    ·refine ⟨⟨rfl, ?_⟩, ⟨rfl, ?_⟩, ⟨rfl, ?_⟩, ⟨rfl, ?_⟩, ⟨rfl, ?_⟩, trivial⟩
     ·rintro hp29 E_13
      refine Dep.nil ?_
      refine GuardOK.none rfl ?_
      exact OpV.toDx (opv_loadA (us := [(.int .i64 x6.1), (.int .i64 x6.2.1), (.bool x6.2.2.1), v13, v14]) rfl Tryd.agg32 Tryd.size32 rfl (Sep.at (o := boxO bb3 [(.int .i64 x6.1), (.int .i64 x6.2.1), (.bool x6.2.2.1), v13, v14]) (Sep.ext S_17 E_13) 5 rfl) rfl rfl) rfl
     ·rintro hp30 E_14
      refine Dep.nil ?_
      refine GuardOK.none rfl ?_
      exact OpV.toDx (opv_loadA (us := [(.int .i64 a0_0), (.int .i64 a0_1), (.bool a0_2), u0_3, u0_4]) rfl Tryd.agg24 Tryd.size24 rfl (Sep.at (o := boxO bb1 [(.int .i64 a0_0), (.int .i64 a0_1), (.bool a0_2), u0_3, u0_4]) (Sep.ext S_17 E_14) 10 rfl) rfl rfl) rfl
     ·rintro hp31 E_15 _ rfl
      refine Dep.nil ?_
      refine GuardOK.none rfl ?_
      exact OpV.mono (opv_call (cap := []) (laws_toSheet_ok _ _ _ _ _ _ (SL.up (SL.mod g0_3 (Mod.lift X_15 E_15) (Nat.le_refl _) nob) (Nat.le_trans (Nat.le_refl _) (Mod.size (Mod.lift X_15 E_15)))) _ _ (SL.up (SL.mod g0_4 (Mod.lift X_15 E_15) (Nat.le_refl _) nob) (Nat.le_trans (Nat.le_refl _) (Mod.size (Mod.lift X_15 E_15)))) _ hx11) rfl rfl ⟨rfl, trivial⟩ Tryd.func7 rfl rfl) (by rintro _ _ ⟨v19, v20, rfl, M_, T_⟩; exact ⟨Mod.ext M_, ⟨v19, v20, rfl, Sep.weak T_ (Ext.size E_15)⟩, Sep.fresh T_⟩)
     ·rintro hp32 E_16 _ rfl _ ⟨v19, v20, rfl, T_15⟩
      refine Dep.nil ?_
      refine GuardOK.none rfl ?_
      exact OpV.mono (opv_call (cap := []) (laws_eqSheet_ok _ _ _ _ _ _ (ownO.read (Sep.at (o := ownO (kF .f32) 65 v13 x6.2.2.2.1) (Sep.ext S_17 E_16) 6 rfl)) _ _ (ownO.read (Sep.at (o := ownO (kF .f32) 65 v14 x6.2.2.2.2) (Sep.ext S_17 E_16) 7 rfl)) _ _ _ _ _ (ownO.read (Sep.at (o := ownO (kF .f32) 65 v19 x11.2.2.2.1) T_15 0 rfl)) _ _ (ownO.read (Sep.at (o := ownO (kF .f32) 65 v20 x11.2.2.2.2) T_15 1 rfl)) _ hx12) rfl rfl ⟨rfl, rfl, trivial⟩ Tryd.func11 rfl rfl) (by rintro _ _ ⟨rfl, M_, T_⟩; exact ⟨Mod.ext M_, ⟨rfl, Sep.weak T_ (Ext.size E_16)⟩, Sep.fresh T_⟩)
     ·rintro hp33 E_17 _ ⟨rfl, T_16⟩
      refine Dep.nil ?_
      refine GuardOK.none rfl ?_
      exact OpV.toDx (opv_not rfl rfl) rfl
    rintro hp34 E_18 _ rfl
    refine DepM.nil ?_
    intro _ LK_
    have X_18 := Mod.lift X_15 E_18
    have S_20 := Sep.ext S_17 E_18
    show RL _ _ _ _ [] _ _
    refine RL.nil ?_
    refine thnN ?_
    by_cases c5 : (!x12) = true
    ·rw [if_pos c5] at hp
     refine W.condT rfl c5 ?_
     refine W.seq ?_
     refine W.region ?_
     refine RL.opD (by decide) (opv_assign rfl rfl) ?_
     refine RL.nil ?_
     refine thnN ?_
     refine W.ret ?_
     refine thnR ?_
     have er := Option.some.inj hp
     subst er
     exact Rt.one rfl rfl ⟨rfl, X_18, (Sep.nil _ _ _)⟩
    ·rw [if_neg c5] at hp
     have c5 := eq_false_of_ne_true c5
     refine W.condF rfl c5 ?_
     refine W.skip ?_
     refine thnN ?_
     refine W.seq ?_
     refine W.seq ?_
     obtain ⟨x13, hx13, hp⟩ := Option.bind_eq_some_iff.1 hp
     obtain ⟨x14, hx14, hp⟩ := Option.bind_eq_some_iff.1 hp
     refine W.sub (ψ := [(0, (.agg (List.toArray (α := Value) [(.int .i64 a0_0), (.int .i64 a0_1), (.bool a0_2), u0_3, u0_4]))), (1, (.agg (List.toArray (α := Value) [u1_0, u1_1, u1_2]))), (2, (.int .i64 a2)), (3, (.pointer (some ⟨bb1, 0, none⟩))), (4, (.pointer (some ⟨bb2, 0, none⟩))), (6, (.bool false)), (7, (.int .i64 x2)), (23, (.bool (decide (x1 < 0)))), (28, (.bool (decide (x2 < 0)))), (8, v6), (9, (.bool x5.2)), (10, (.pointer (some ⟨bb3, 0, none⟩))), (11, (.pointer (some ⟨bb4, 0, none⟩))), (12, v18), (13, (.bool x8.2)), (57, (.bool x9)), (62, (.bool (!x12)))]) ⟨rfl, rfl, rfl, rfl, rfl, rfl, rfl, rfl, rfl, rfl, rfl, rfl, rfl, rfl, rfl, rfl, rfl, trivial⟩ ?_
     refine W.regionM [fun v _ => @Eq Value (.agg (List.toArray (α := Value) [v15, v16, v17])) v, fun v _ => @Eq Value (.agg (List.toArray (α := Value) [u1_0, u1_1, u1_2])) v, fun v h => ∃ v23, ∃ v24, ∃ v25, @Eq Value v (.agg (List.toArray (α := Value) [v23, v24, v25])) ∧ Sep [] hp34.size h [ownO (kF .f32) 65 v23 x13.1, ownO (kF .f32) 65 v24 x13.2.1, ownO (kF .f32) 65 v25 x13.2.2], fun v h => @Eq Value v (.bool x14) ∧ Sep [] hp34.size h [], fun v _ => @Eq Value (.bool (!x14)) v] [none, none, some (fun u => [Value.ownBlock (vget u 0), Value.ownBlock (vget u 1), Value.ownBlock (vget u 2)]), some (fun u => []), none] [] [[], [], [1], [0, 2], [3]] [4] Tryd.mixed (by decide +kernel) (by decide +kernel) rfl rfl rfl (by decide +kernel) rfl ⟨fun _ _ _ h _ => h, fun _ _ _ h _ => h, fun _ _ _ ⟨u0_, u1_, u2_, e, h⟩ x => ⟨u0_, u1_, u2_, e, h.ext x⟩, fun _ _ _ ⟨e, h⟩ x => ⟨e, h.ext x⟩, fun _ _ _ h _ => h, trivial⟩ ?_ ?_
     ·refine ⟨⟨rfl, ?_⟩, ⟨rfl, ?_⟩, ⟨rfl, ?_⟩, ⟨rfl, ?_⟩, ⟨rfl, ?_⟩, trivial⟩
      ·rintro hp37 E_19
       refine Dep.nil ?_
       refine GuardOK.none rfl ?_
       exact OpV.toDx (opv_loadA (us := [v15, v16, v17]) rfl Tryd.agg34 Tryd.size34 rfl (Sep.at (o := boxO bb4 [v15, v16, v17]) (Sep.ext S_20 E_19) 1 rfl) rfl rfl) rfl
      ·rintro hp38 E_20
       refine Dep.nil ?_
       refine GuardOK.none rfl ?_
       exact OpV.toDx (opv_loadA (us := [u1_0, u1_1, u1_2]) rfl Tryd.agg26 Tryd.size26 rfl (Sep.at (o := boxO bb2 [u1_0, u1_1, u1_2]) (Sep.ext S_20 E_20) 9 rfl) rfl rfl) rfl
      ·rintro hp39 E_21 _ rfl
       refine Dep.nil ?_
       refine GuardOK.none rfl ?_
       exact OpV.mono (opv_call (cap := []) (laws_toField_ok _ _ _ (SL.up (SL.mod g1_0 (Mod.lift X_18 E_21) (Nat.le_refl _) nob) (Nat.le_trans (Nat.le_refl _) (Mod.size (Mod.lift X_18 E_21)))) _ _ (SL.up (SL.mod g1_1 (Mod.lift X_18 E_21) (Nat.le_refl _) nob) (Nat.le_trans (Nat.le_refl _) (Mod.size (Mod.lift X_18 E_21)))) _ _ (SL.up (SL.mod g1_2 (Mod.lift X_18 E_21) (Nat.le_refl _) nob) (Nat.le_trans (Nat.le_refl _) (Mod.size (Mod.lift X_18 E_21)))) _ hx13) rfl rfl ⟨rfl, trivial⟩ Tryd.func8 rfl rfl) (by rintro _ _ ⟨v23, v24, v25, rfl, M_, T_⟩; exact ⟨Mod.ext M_, ⟨v23, v24, v25, rfl, Sep.weak T_ (Ext.size E_21)⟩, Sep.fresh T_⟩)
      ·rintro hp40 E_22 _ rfl _ ⟨v23, v24, v25, rfl, T_17⟩
       refine Dep.nil ?_
       refine GuardOK.none rfl ?_
       exact OpV.mono (opv_call (cap := []) (laws_eqField_ok _ _ _ (ownO.read (Sep.at (o := ownO (kF .f32) 65 v15 x7.1) (Sep.ext S_20 E_22) 2 rfl)) _ _ (ownO.read (Sep.at (o := ownO (kF .f32) 65 v16 x7.2.1) (Sep.ext S_20 E_22) 3 rfl)) _ _ (ownO.read (Sep.at (o := ownO (kF .f32) 65 v17 x7.2.2) (Sep.ext S_20 E_22) 4 rfl)) _ _ (ownO.read (Sep.at (o := ownO (kF .f32) 65 v23 x13.1) T_17 0 rfl)) _ _ (ownO.read (Sep.at (o := ownO (kF .f32) 65 v24 x13.2.1) T_17 1 rfl)) _ _ (ownO.read (Sep.at (o := ownO (kF .f32) 65 v25 x13.2.2) T_17 2 rfl)) _ hx14) rfl rfl ⟨rfl, rfl, trivial⟩ Tryd.func12 rfl rfl) (by rintro _ _ ⟨rfl, M_, T_⟩; exact ⟨Mod.ext M_, ⟨rfl, Sep.weak T_ (Ext.size E_22)⟩, Sep.fresh T_⟩)
      ·rintro hp41 E_23 _ ⟨rfl, T_18⟩
       refine Dep.nil ?_
       refine GuardOK.none rfl ?_
       exact OpV.toDx (opv_not rfl rfl) rfl
     rintro hp42 E_24 _ rfl
     refine DepM.nil ?_
     intro _ LK_
     have X_21 := Mod.lift X_18 E_24
     have S_23 := Sep.ext S_20 E_24
     show RL _ _ _ _ [] _ _
     refine RL.nil ?_
     refine thnN ?_
     by_cases c6 : (!x14) = true
     ·rw [if_pos c6] at hp
      refine W.condT rfl c6 ?_
      refine W.seq ?_
      refine W.region ?_
      refine RL.opD (by decide) (opv_assign rfl rfl) ?_
      refine RL.nil ?_
      refine thnN ?_
      refine W.ret ?_
      refine thnR ?_
      have er := Option.some.inj hp
      subst er
      exact Rt.one rfl rfl ⟨rfl, X_21, (Sep.nil _ _ _)⟩
     ·rw [if_neg c6] at hp
      have c6 := eq_false_of_ne_true c6
      refine W.condF rfl c6 ?_
      refine W.skip ?_
      refine thnN ?_
      refine W.seq ?_
      refine W.region ?_
      refine RL.opD (by decide) (opv_assign rfl rfl) ?_
      refine RL.nil ?_
      refine thnN ?_
      refine W.seq ?_
      refine W.region ?_
      refine RL.opD (by decide) (opv_loadA (us := [(.int .i64 x6.1), (.int .i64 x6.2.1), (.bool x6.2.2.1), v13, v14]) rfl Tryd.agg32 Tryd.size32 rfl (Sep.at (o := boxO bb3 [(.int .i64 x6.1), (.int .i64 x6.2.1), (.bool x6.2.2.1), v13, v14]) S_23 5 rfl) rfl rfl) ?_
      refine RL.opD (by decide) (opv_move rfl rfl) ?_
      obtain ⟨x15, hx15, hp⟩ := Option.bind_eq_some_iff.1 hp
      have S_25 : Sep [] h0.size hp42 [ownO (kF .f32) 65 v13 x6.2.2.2.1, ownO (kF .f32) 65 v14 x6.2.2.2.2] := Sep.sel S_23 [6, 7] (by decide)
      have S_24 : Sep [v13.ownBlock, v14.ownBlock] hp42.size hp42 [ownO (kF .f32) 65 v13 x6.2.2.2.1, ownO (kF .f32) 65 v14 x6.2.2.2.2] := Sep.own S_25 _
      refine RL.op _ (by decide) (opv_call (cap := []) (laws_markSheet_ok _ h0.size (Nat.le_trans (Nat.le_refl _) (Mod.size X_21)) _ _ _ _ _ _ _ _ S_24 (Sep.ge (L := [ownO (kF .f32) 65 v13 x6.2.2.2.1, ownO (kF .f32) 65 v14 x6.2.2.2.2]) S_25 (Nat.le_refl _) nob) _ hx15) rfl rfl ⟨rfl, rfl, trivial⟩ Tryd.func13 rfl rfl) ?_
      rintro _ hp43 ⟨rfl, MT_19, T_19⟩
      have S_26 : Sep [] h0.size hp42 ([ownO (kF .f32) 65 v13 x6.2.2.2.1, ownO (kF .f32) 65 v14 x6.2.2.2.2] ++ [ownO (kI .i64) 2 v18 x8.1, boxO bb4 [v15, v16, v17], ownO (kF .f32) 65 v15 x7.1, ownO (kF .f32) 65 v16 x7.2.1, ownO (kF .f32) 65 v17 x7.2.2, boxO bb3 [(.int .i64 x6.1), (.int .i64 x6.2.1), (.bool x6.2.2.1), v13, v14], ownO (kI .i64) 2 v6 x5.1, boxO bb2 [u1_0, u1_1, u1_2], boxO bb1 [(.int .i64 a0_0), (.int .i64 a0_1), (.bool a0_2), u0_3, u0_4]]) := Sep.sel S_23 [6, 7, 0, 1, 2, 3, 4, 5, 8, 9, 10] (by decide)
      obtain ⟨X_22, S_27⟩ := Sep.turn X_21 S_26 MT_19 T_19
      refine RL.opD (by decide) (opv_assign rfl rfl) ?_
      refine RL.nil ?_
      refine thnN ?_
      refine W.seq ?_
      refine W.region ?_
      refine RL.opD (by decide) (opv_loadA (us := [v15, v16, v17]) rfl Tryd.agg34 Tryd.size34 rfl (Sep.at (o := boxO bb4 [v15, v16, v17]) S_27 3 rfl) rfl rfl) ?_
      refine RL.opD (by decide) (opv_move rfl rfl) ?_
      obtain ⟨x16, hx16, hp⟩ := Option.bind_eq_some_iff.1 hp
      have S_29 : Sep [] h0.size hp43 [ownO (kF .f32) 65 v15 x7.1, ownO (kF .f32) 65 v16 x7.2.1, ownO (kF .f32) 65 v17 x7.2.2] := Sep.sel S_27 [4, 5, 6] (by decide)
      have S_28 : Sep [v15.ownBlock, v16.ownBlock, v17.ownBlock] hp43.size hp43 [ownO (kF .f32) 65 v15 x7.1, ownO (kF .f32) 65 v16 x7.2.1, ownO (kF .f32) 65 v17 x7.2.2] := Sep.own S_29 _
      refine RL.op _ (by decide) (opv_call (cap := []) (laws_markField_ok _ h0.size (Nat.le_trans (Nat.le_refl _) (Mod.size X_22)) _ _ _ _ _ _ _ S_28 (Sep.ge (L := [ownO (kF .f32) 65 v15 x7.1, ownO (kF .f32) 65 v16 x7.2.1, ownO (kF .f32) 65 v17 x7.2.2]) S_29 (Nat.le_refl _) nob) _ hx16) rfl rfl ⟨rfl, rfl, trivial⟩ Tryd.func14 rfl rfl) ?_
      rintro _ hp44 ⟨rfl, MT_20, T_20⟩
      have S_30 : Sep [] h0.size hp43 ([ownO (kF .f32) 65 v15 x7.1, ownO (kF .f32) 65 v16 x7.2.1, ownO (kF .f32) 65 v17 x7.2.2] ++ [ownO (kF .f32) 65 v13 x15.2.1, ownO (kF .f32) 65 v14 x15.2.2, ownO (kI .i64) 2 v18 x8.1, boxO bb4 [v15, v16, v17], boxO bb3 [(.int .i64 x6.1), (.int .i64 x6.2.1), (.bool x6.2.2.1), v13, v14], ownO (kI .i64) 2 v6 x5.1, boxO bb2 [u1_0, u1_1, u1_2], boxO bb1 [(.int .i64 a0_0), (.int .i64 a0_1), (.bool a0_2), u0_3, u0_4]]) := Sep.sel S_27 [4, 5, 6, 0, 1, 2, 3, 7, 8, 9, 10] (by decide)
      obtain ⟨X_23, S_31⟩ := Sep.turn X_22 S_30 MT_20 T_20
      refine RL.opD (by decide) (opv_assign rfl rfl) ?_
      refine RL.nil ?_
      refine thnN ?_
      refine W.seq ?_
      refine W.seq ?_
      obtain ⟨x17, hy2, hp⟩ := Option.bind_eq_some_iff.1 hp
      refine W.cut (fun φ' h' => Fr.sub [(0, (.agg (List.toArray (α := Value) [(.int .i64 a0_0), (.int .i64 a0_1), (.bool a0_2), u0_3, u0_4]))), (1, (.agg (List.toArray (α := Value) [u1_0, u1_1, u1_2]))), (2, (.int .i64 a2)), (3, (.pointer (some ⟨bb1, 0, none⟩))), (4, (.pointer (some ⟨bb2, 0, none⟩))), (6, (.bool false)), (7, (.int .i64 x2)), (23, (.bool (decide (x1 < 0)))), (28, (.bool (decide (x2 < 0)))), (8, v6), (9, (.bool x5.2)), (10, (.pointer (some ⟨bb3, 0, none⟩))), (11, (.pointer (some ⟨bb4, 0, none⟩))), (12, v18), (13, (.bool x8.2)), (57, (.bool x9)), (62, (.bool (!x12))), (67, (.bool (!x14))), (14, (.int .i64 x16.1)), (86, (.bool x17))] φ' ∧ hp44 = h') ?_ ?_
      ·refine W.region ?_
       refine RL.opD (by decide) (opv_move rfl rfl) ?_
       refine RL.opD (by decide) (opv_icmp rfl rfl rfl rfl) ?_
       refine RL.opD (by decide) (opv_move rfl rfl) ?_
       by_cases c7 : (decide (x16.1 < 0)) = true
       ·rw [if_pos c7] at hy2
        refine RL.noT rfl rfl c7 (by decide) ?_
        refine RL.noT rfl rfl c7 (by decide) ?_
        refine RL.noT rfl rfl c7 (by decide) ?_
        refine RL.noT rfl rfl c7 (by decide) ?_
        refine RL.opD (by decide) (opv_pick rfl rfl (fun _ => rfl) (fun e => absurd (Eq.trans (Eq.symm e) c7) (by decide)) rfl) ?_
        refine RL.opD (by decide) (opv_move rfl rfl) ?_
        refine RL.noT rfl rfl rfl (by decide) ?_
        refine RL.noT rfl rfl rfl (by decide) ?_
        refine RL.noT rfl rfl rfl (by decide) ?_
        refine RL.opD (by decide) (opv_pick rfl rfl (fun _ => rfl) (fun e => absurd (Eq.trans (Eq.symm e) rfl) (by decide)) rfl) ?_
        refine RL.nil ?_
        have ey2 := Option.some.inj hy2
        subst ey2
        refine onlyN ?_
        exact ⟨⟨rfl, rfl, rfl, rfl, rfl, rfl, rfl, rfl, rfl, rfl, rfl, rfl, rfl, rfl, rfl, rfl, rfl, rfl, rfl, rfl, trivial⟩, rfl⟩
       ·rw [if_neg c7] at hy2
        have c7 := eq_false_of_ne_true c7
        refine RL.yesD rfl rfl c7 (by decide) (opv_move rfl rfl) ?_
        refine RL.yesD rfl rfl c7 (by decide) (opv_move rfl rfl) ?_
        obtain ⟨x18, hx18, hy2⟩ := Option.bind_eq_some_iff.1 hy2
        refine RL.yes _ rfl rfl c7 (by decide) (opv_call (cap := []) (laws_eqInt64S_ok _ _ _ (ownO.read (Sep.at (o := ownO (kI .i64) 2 v18 x8.1) S_31 5 rfl)) _ _ (ownO.read (Sep.at (o := ownO (kI .i64) 2 v6 x5.1) S_31 8 rfl)) _ hx18) rfl rfl ⟨rfl, rfl, trivial⟩ Tryd.func10 rfl rfl) ?_
        rintro _ _ ⟨rfl, rfl⟩
        refine RL.yesD rfl rfl c7 (by decide) (opv_not rfl rfl) ?_
        refine RL.opD (by decide) (opv_pick rfl rfl (fun e => absurd (Eq.trans (Eq.symm e) c7) (by decide)) (fun _ => rfl) rfl) ?_
        refine RL.opD (by decide) (opv_move rfl rfl) ?_
        by_cases c8 : (!x18) = true
        ·rw [if_pos c8] at hy2
         refine RL.noT rfl rfl c8 (by decide) ?_
         refine RL.noT rfl rfl c8 (by decide) ?_
         refine RL.noT rfl rfl c8 (by decide) ?_
         refine RL.opD (by decide) (opv_pick rfl rfl (fun _ => rfl) (fun e => absurd (Eq.trans (Eq.symm e) c8) (by decide)) rfl) ?_
         refine RL.nil ?_
         have ey2 := Option.some.inj hy2
         subst ey2
         refine onlyN ?_
         exact ⟨⟨rfl, rfl, rfl, rfl, rfl, rfl, rfl, rfl, rfl, rfl, rfl, rfl, rfl, rfl, rfl, rfl, rfl, rfl, rfl, rfl, trivial⟩, rfl⟩
        ·rw [if_neg c8] at hy2
         have c8 := eq_false_of_ne_true c8
         refine RL.yesD rfl rfl c8 (by decide) (opv_move rfl rfl) ?_
         refine RL.yesD rfl rfl c8 (by decide) (opv_move rfl rfl) ?_
         refine RL.yesD rfl rfl c8 (by decide) (opv_bcmp rfl rfl Tryd.underlying4 rfl rfl) ?_
         refine RL.opD (by decide) (opv_pick rfl rfl (fun e => absurd (Eq.trans (Eq.symm e) c8) (by decide)) (fun _ => rfl) rfl) ?_
         refine RL.nil ?_
         have ey2 := Option.some.inj hy2
         subst ey2
         refine onlyN ?_
         exact ⟨⟨rfl, rfl, rfl, rfl, rfl, rfl, rfl, rfl, rfl, rfl, rfl, rfl, rfl, rfl, rfl, rfl, rfl, rfl, rfl, rfl, trivial⟩, rfl⟩
      rintro φ' _ ⟨hs2, rfl⟩
      refine thnN ?_
      refine W.sub hs2 ?_
      by_cases c9 : x17 = true
      ·rw [if_pos c9] at hp
       refine W.condT rfl c9 ?_
       refine W.seq ?_
       refine W.region ?_
       refine RL.opD (by decide) (opv_assign rfl rfl) ?_
       refine RL.nil ?_
       refine thnN ?_
       refine W.ret ?_
       refine thnR ?_
       have er := Option.some.inj hp
       subst er
       exact Rt.one rfl rfl ⟨rfl, X_23, (Sep.nil _ _ _)⟩
      ·rw [if_neg c9] at hp
       have c9 := eq_false_of_ne_true c9
       refine W.condF rfl c9 ?_
       refine W.skip ?_
       refine thnN ?_
       refine W.seq ?_
       refine W.region ?_
       refine RL.opD (by decide) (opv_assign rfl rfl) ?_
       refine RL.nil ?_
       refine thnN ?_
       refine W.seq ?_
       refine W.region ?_
       refine RL.opD (by decide) (opv_move rfl rfl) ?_
       refine RL.opD (by decide) (opv_move rfl rfl) ?_
       obtain ⟨x19, hx19, hp⟩ := Option.bind_eq_some_iff.1 hp
       have S_33 : Sep [] h0.size hp44 [ownO (kI .i64) 2 v18 x8.1] := Sep.sel S_31 [5] (by decide)
       have S_32 : Sep [v18.ownBlock] hp44.size hp44 [ownO (kI .i64) 2 v18 x8.1] := Sep.own S_33 _
       refine RL.op _ (by decide) (opv_call (cap := []) (laws_markInt64S_ok _ h0.size (Nat.le_trans (Nat.le_refl _) (Mod.size X_23)) _ _ _ S_32 (Sep.ge (L := [ownO (kI .i64) 2 v18 x8.1]) S_33 (Nat.le_refl _) nob) _ hx19) rfl rfl ⟨rfl, rfl, trivial⟩ Tryd.func15 rfl rfl) ?_
       rintro _ hp45 ⟨rfl, MT_21, T_21⟩
       have S_34 : Sep [] h0.size hp44 ([ownO (kI .i64) 2 v18 x8.1] ++ [ownO (kF .f32) 65 v15 x16.2.1, ownO (kF .f32) 65 v16 x16.2.2.1, ownO (kF .f32) 65 v17 x16.2.2.2, ownO (kF .f32) 65 v13 x15.2.1, ownO (kF .f32) 65 v14 x15.2.2, boxO bb4 [v15, v16, v17], boxO bb3 [(.int .i64 x6.1), (.int .i64 x6.2.1), (.bool x6.2.2.1), v13, v14], ownO (kI .i64) 2 v6 x5.1, boxO bb2 [u1_0, u1_1, u1_2], boxO bb1 [(.int .i64 a0_0), (.int .i64 a0_1), (.bool a0_2), u0_3, u0_4]]) := Sep.sel S_31 [5, 0, 1, 2, 3, 4, 6, 7, 8, 9, 10] (by decide)
       obtain ⟨X_24, S_35⟩ := Sep.turn X_23 S_34 MT_21 T_21
       refine RL.opD (by decide) (opv_assign rfl rfl) ?_
       refine RL.nil ?_
       refine thnN ?_
       refine W.seq ?_
       refine W.region ?_
       refine RL.opD (by decide) (opv_assign rfl rfl) ?_
       refine RL.nil ?_
       refine thnN ?_
       refine W.seq ?_
       refine W.region ?_
       refine RL.opD (by decide) (opv_move rfl rfl) ?_
       refine RL.opD (by decide) (opv_move rfl rfl) ?_
       obtain ⟨x20, hx20, hp⟩ := Option.bind_eq_some_iff.1 hp
       refine RL.op _ (by decide) (opv_call (cap := []) (laws_heldInt64S_ok _ _ _ (ownO.read (Sep.at (o := ownO (kI .i64) 2 v18 x19.2) S_35 0 rfl)) _ _ hx20) rfl rfl ⟨rfl, rfl, trivial⟩ Tryd.func16 rfl rfl) ?_
       rintro _ _ ⟨rfl, rfl⟩
       refine RL.opD (by decide) (opv_assign rfl rfl) ?_
       refine RL.nil ?_
       refine thnN ?_
       refine W.seq ?_
       refine W.seq ?_
       refine W.region ?_
       refine RL.opD (by decide) (opv_move rfl rfl) ?_
       refine RL.opD (by decide) (opv_icmp rfl rfl rfl rfl) ?_
       refine RL.nil ?_
       refine thnN ?_
       by_cases c10 : (decide (x20 < 0)) = true
       ·rw [if_pos c10] at hp
        refine W.condT rfl c10 ?_
        refine W.seq ?_
        refine W.region ?_
        refine RL.opD (by decide) (opv_assign rfl rfl) ?_
        refine RL.nil ?_
        refine thnN ?_
        refine W.ret ?_
        refine thnR ?_
        have er := Option.some.inj hp
        subst er
        exact Rt.one rfl rfl ⟨rfl, X_24, (Sep.nil _ _ _)⟩
       ·rw [if_neg c10] at hp
        have c10 := eq_false_of_ne_true c10
        refine W.condF rfl c10 ?_
        refine W.skip ?_
        refine thnN ?_
        refine W.seq ?_
        refine W.seq ?_
        refine W.region ?_
        refine RL.opD (by decide) (opv_move rfl rfl) ?_
        refine RL.opD (by decide) (opv_move rfl rfl) ?_
        refine RL.opD (by decide) (opv_icmp rfl rfl rfl rfl) ?_
        refine RL.nil ?_
        refine thnN ?_
        by_cases c11 : (x20 != x19.1) = true
        ·rw [if_pos c11] at hp
         refine W.condT rfl c11 ?_
         refine W.seq ?_
         refine W.region ?_
         refine RL.opD (by decide) (opv_assign rfl rfl) ?_
         refine RL.nil ?_
         refine thnN ?_
         refine W.ret ?_
         refine thnR ?_
         have er := Option.some.inj hp
         subst er
         exact Rt.one rfl rfl ⟨rfl, X_24, (Sep.nil _ _ _)⟩
        ·rw [if_neg c11] at hp
         have c11 := eq_false_of_ne_true c11
         refine W.condF rfl c11 ?_
         refine W.skip ?_
         refine thnN ?_
         refine W.seq ?_
         obtain ⟨x21, hx21, hp⟩ := Option.bind_eq_some_iff.1 hp
         obtain ⟨x22, hx22, hp⟩ := Option.bind_eq_some_iff.1 hp
         obtain ⟨x23, hx23, hp⟩ := Option.bind_eq_some_iff.1 hp
         refine W.sub (ψ := [(0, (.agg (List.toArray (α := Value) [(.int .i64 a0_0), (.int .i64 a0_1), (.bool a0_2), u0_3, u0_4]))), (1, (.agg (List.toArray (α := Value) [u1_0, u1_1, u1_2]))), (2, (.int .i64 a2)), (3, (.pointer (some ⟨bb1, 0, none⟩))), (4, (.pointer (some ⟨bb2, 0, none⟩))), (6, (.bool false)), (7, (.int .i64 x2)), (23, (.bool (decide (x1 < 0)))), (28, (.bool (decide (x2 < 0)))), (8, v6), (9, (.bool x5.2)), (10, (.pointer (some ⟨bb3, 0, none⟩))), (11, (.pointer (some ⟨bb4, 0, none⟩))), (12, v18), (13, (.bool x8.2)), (57, (.bool x9)), (62, (.bool (!x12))), (67, (.bool (!x14))), (14, (.int .i64 x16.1)), (86, (.bool x17)), (15, (.int .i64 x19.1)), (16, (.int .i64 x20)), (94, (.bool (decide (x20 < 0)))), (97, (.bool (x20 != x19.1)))]) ⟨rfl, rfl, rfl, rfl, rfl, rfl, rfl, rfl, rfl, rfl, rfl, rfl, rfl, rfl, rfl, rfl, rfl, rfl, rfl, rfl, rfl, rfl, rfl, rfl, trivial⟩ ?_
         refine W.regionM [fun v _ => @Eq Value (.agg (List.toArray (α := Value) [(.int .i64 a0_0), (.int .i64 a0_1), (.bool a0_2), u0_3, u0_4])) v, fun v h => ∃ v29, ∃ v30, @Eq Value v (.agg (List.toArray (α := Value) [(.int .i64 x21.1), (.int .i64 x21.2.1), (.bool x21.2.2.1), v29, v30])) ∧ Sep [] hp45.size h [ownO (kF .f32) 65 v29 x21.2.2.2.1, ownO (kF .f32) 65 v30 x21.2.2.2.2], fun v _ => @Eq Value (.agg (List.toArray (α := Value) [u1_0, u1_1, u1_2])) v, fun v h => ∃ v31, ∃ v32, ∃ v33, @Eq Value v (.agg (List.toArray (α := Value) [v31, v32, v33])) ∧ Sep [] hp45.size h [ownO (kF .f32) 65 v31 x22.1, ownO (kF .f32) 65 v32 x22.2.1, ownO (kF .f32) 65 v33 x22.2.2], fun v _ => @Eq Value (.int .i64 a2) v, fun v h => ∃ v34, @Eq Value v (.tuple (List.toArray (α := Value) [v34, (.bool x23.2)])) ∧ Sep [] hp45.size h [ownO (kI .i64) 2 v34 x23.1], fun v h => ∃ v34, @Eq Value v (.tuple (List.toArray (α := Value) [v34, (.bool x23.2)])) ∧ Sep [] hp45.size h [ownO (kI .i64) 2 v34 x23.1], fun v h => ∃ v34, @Eq Value v v34 ∧ Sep [] hp45.size h [ownO (kI .i64) 2 v34 x23.1], fun v _ => @Eq Value (.bool x23.2) v, fun v h => ∃ v34, @Eq Value v v34 ∧ Sep [] hp45.size h [ownO (kI .i64) 2 v34 x23.1], fun v _ => @Eq Value (.bool x23.2) v] [none, some (fun u => [Value.ownBlock (vget u 3), Value.ownBlock (vget u 4)]), none, some (fun u => [Value.ownBlock (vget u 0), Value.ownBlock (vget u 1), Value.ownBlock (vget u 2)]), none, some (fun u => [Value.ownBlock (vget u 0)]), none, none, none, none, none] [none, none, none, none, none, none, some (104, fun u => u), some (98, fun u => vget u 0), none, some (105, fun u => u)] [[], [0], [], [2], [], [1, 3, 4], [5], [6], [6], [7], [8]] [5, 6, 7, 9, 10] Tryd.mixed (by decide +kernel) (by decide +kernel) rfl rfl rfl (by decide +kernel) rfl ⟨fun _ _ _ h _ => h, fun _ _ _ ⟨u0_, u1_, e, h⟩ x => ⟨u0_, u1_, e, h.ext x⟩, fun _ _ _ h _ => h, fun _ _ _ ⟨u0_, u1_, u2_, e, h⟩ x => ⟨u0_, u1_, u2_, e, h.ext x⟩, fun _ _ _ h _ => h, fun _ _ _ ⟨u0_, e, h⟩ x => ⟨u0_, e, h.ext x⟩, fun _ _ _ ⟨u0_, e, h⟩ x => ⟨u0_, e, h.ext x⟩, fun _ _ _ ⟨u0_, e, h⟩ x => ⟨u0_, e, h.ext x⟩, fun _ _ _ h _ => h, fun _ _ _ ⟨u0_, e, h⟩ x => ⟨u0_, e, h.ext x⟩, fun _ _ _ h _ => h, trivial⟩ ?_ ?_
         ·refine ⟨⟨rfl, ?_⟩, ⟨rfl, ?_⟩, ⟨rfl, ?_⟩, ⟨rfl, ?_⟩, ⟨rfl, ?_⟩, ⟨rfl, ?_⟩, ⟨rfl, ?_⟩, ⟨rfl, ?_⟩, ⟨rfl, ?_⟩, ⟨rfl, ?_⟩, ⟨rfl, ?_⟩, trivial⟩
          ·rintro hp49 E_25
           refine Dep.nil ?_
           refine GuardOK.none rfl ?_
           exact OpV.toDx (opv_loadA (us := [(.int .i64 a0_0), (.int .i64 a0_1), (.bool a0_2), u0_3, u0_4]) rfl Tryd.agg24 Tryd.size24 rfl (Sep.at (o := boxO bb1 [(.int .i64 a0_0), (.int .i64 a0_1), (.bool a0_2), u0_3, u0_4]) (Sep.ext S_35 E_25) 10 rfl) rfl rfl) rfl
          ·rintro hp50 E_26 _ rfl
           refine Dep.nil ?_
           refine GuardOK.none rfl ?_
           exact OpV.mono (opv_call (cap := []) (laws_toSheet_ok _ _ _ _ _ _ (SL.up (SL.mod g0_3 (Mod.lift X_24 E_26) (Nat.le_refl _) nob) (Nat.le_trans (Nat.le_refl _) (Mod.size (Mod.lift X_24 E_26)))) _ _ (SL.up (SL.mod g0_4 (Mod.lift X_24 E_26) (Nat.le_refl _) nob) (Nat.le_trans (Nat.le_refl _) (Mod.size (Mod.lift X_24 E_26)))) _ hx21) rfl rfl ⟨rfl, trivial⟩ Tryd.func7 rfl rfl) (by rintro _ _ ⟨v29, v30, rfl, M_, T_⟩; exact ⟨Mod.ext M_, ⟨v29, v30, rfl, Sep.weak T_ (Ext.size E_26)⟩, Sep.fresh T_⟩)
          ·rintro hp51 E_27
           refine Dep.nil ?_
           refine GuardOK.none rfl ?_
           exact OpV.toDx (opv_loadA (us := [u1_0, u1_1, u1_2]) rfl Tryd.agg26 Tryd.size26 rfl (Sep.at (o := boxO bb2 [u1_0, u1_1, u1_2]) (Sep.ext S_35 E_27) 9 rfl) rfl rfl) rfl
          ·rintro hp52 E_28 _ rfl
           refine Dep.nil ?_
           refine GuardOK.none rfl ?_
           exact OpV.mono (opv_call (cap := []) (laws_toField_ok _ _ _ (SL.up (SL.mod g1_0 (Mod.lift X_24 E_28) (Nat.le_refl _) nob) (Nat.le_trans (Nat.le_refl _) (Mod.size (Mod.lift X_24 E_28)))) _ _ (SL.up (SL.mod g1_1 (Mod.lift X_24 E_28) (Nat.le_refl _) nob) (Nat.le_trans (Nat.le_refl _) (Mod.size (Mod.lift X_24 E_28)))) _ _ (SL.up (SL.mod g1_2 (Mod.lift X_24 E_28) (Nat.le_refl _) nob) (Nat.le_trans (Nat.le_refl _) (Mod.size (Mod.lift X_24 E_28)))) _ hx22) rfl rfl ⟨rfl, trivial⟩ Tryd.func8 rfl rfl) (by rintro _ _ ⟨v31, v32, v33, rfl, M_, T_⟩; exact ⟨Mod.ext M_, ⟨v31, v32, v33, rfl, Sep.weak T_ (Ext.size E_28)⟩, Sep.fresh T_⟩)
          ·rintro hp53 E_29
           refine Dep.nil ?_
           refine GuardOK.none rfl ?_
           exact OpV.toDx (opv_move rfl rfl) rfl
          ·rintro hp54 E_30 _ ⟨v29, v30, rfl, T_22⟩ _ ⟨v31, v32, v33, rfl, T_23⟩ _ rfl
           refine Dep.nil ?_
           refine GuardOK.none rfl ?_
           exact OpV.mono (opv_call (cap := []) (impl_StripChecks_ok _ (TabH.mod GT (Mod.lift X_24 E_30)) _ _ _ _ _ (ownO.read (Sep.at (o := ownO (kF .f32) 65 v29 x21.2.2.2.1) T_22 0 rfl)) _ _ (ownO.read (Sep.at (o := ownO (kF .f32) 65 v30 x21.2.2.2.2) T_22 1 rfl)) _ _ (ownO.read (Sep.at (o := ownO (kF .f32) 65 v31 x22.1) T_23 0 rfl)) _ _ (ownO.read (Sep.at (o := ownO (kF .f32) 65 v32 x22.2.1) T_23 1 rfl)) _ _ (ownO.read (Sep.at (o := ownO (kF .f32) 65 v33 x22.2.2) T_23 2 rfl)) _ _ hx23) rfl rfl ⟨rfl, rfl, rfl, trivial⟩ Tryd.func9 rfl rfl) (by rintro _ _ ⟨v34, rfl, M_, T_⟩; exact ⟨Mod.ext M_, ⟨v34, rfl, Sep.weak T_ (Ext.size E_30)⟩, Sep.fresh T_⟩)
          ·rintro hp55 E_31 _ ⟨v34, rfl, T_24⟩
           refine Dep.nil ?_
           refine GuardOK.none rfl ?_
           exact OpV.mono (opv_move rfl rfl) (by rintro _ _ ⟨rfl, rfl⟩; exact ⟨⟨Ext.refl _, v34, rfl, T_24⟩, _, rfl, rfl⟩)
          ·rintro hp56 E_32 _ ⟨v34, rfl, T_24⟩
           refine Dep.nil ?_
           refine GuardOK.none rfl ?_
           exact OpV.mono (opv_extract rfl rfl rfl) (by rintro _ _ ⟨rfl, rfl⟩; exact ⟨⟨Ext.refl _, v34, rfl, T_24⟩, _, rfl, rfl⟩)
          ·rintro hp57 E_33 _ ⟨v34, rfl, T_24⟩
           refine Dep.nil ?_
           refine GuardOK.none rfl ?_
           exact OpV.toDx (opv_extract rfl rfl rfl) rfl
          ·rintro hp58 E_34 v34 ⟨_, rfl, T_24⟩
           refine Dep.nil ?_
           refine GuardOK.none rfl ?_
           exact OpV.mono (opv_assign rfl rfl) (by rintro _ _ ⟨rfl, rfl⟩; exact ⟨⟨Ext.refl _, v34, rfl, T_24⟩, _, rfl, rfl⟩)
          ·rintro hp59 E_35 _ rfl
           refine Dep.nil ?_
           refine GuardOK.none rfl ?_
           exact OpV.toDx (opv_assign rfl rfl) rfl
         rintro hp60 E_36 _ ⟨v34, rfl, T_24⟩ z6_ _ z7_ _ z9_ _ _ rfl
         refine DepM.nil ?_
         intro PW_2 LK_
         have ez6_ : z6_ = (.tuple (List.toArray (α := Value) [v34, (.bool x23.2)])) := LK_ 6 _ _ _ _ _ (by decide) rfl rfl rfl rfl
         subst z6_
         have ez7_ : z7_ = v34 := LK_ 7 _ _ _ _ _ (by decide) rfl rfl rfl rfl
         subst z7_
         have ez9_ : z9_ = v34 := LK_ 9 _ _ _ _ _ (by decide) rfl rfl rfl rfl
         subst z9_
         have X_28 := Mod.lift X_24 E_36
         have S_39 := Sep.join S_35 (Mod.size X_24) (Ext.mod E_36 []) T_24
         show RL _ _ _ _ [] _ _
         refine RL.nil ?_
         refine thnN ?_
         refine W.seq ?_
         refine W.seq ?_
         obtain ⟨x24, hy3, hp⟩ := Option.bind_eq_some_iff.1 hp
         refine W.cut (fun φ' h' => Fr.sub [(0, (.agg (List.toArray (α := Value) [(.int .i64 a0_0), (.int .i64 a0_1), (.bool a0_2), u0_3, u0_4]))), (1, (.agg (List.toArray (α := Value) [u1_0, u1_1, u1_2]))), (2, (.int .i64 a2)), (3, (.pointer (some ⟨bb1, 0, none⟩))), (4, (.pointer (some ⟨bb2, 0, none⟩))), (6, (.bool false)), (7, (.int .i64 x2)), (23, (.bool (decide (x1 < 0)))), (28, (.bool (decide (x2 < 0)))), (8, v6), (9, (.bool x5.2)), (10, (.pointer (some ⟨bb3, 0, none⟩))), (11, (.pointer (some ⟨bb4, 0, none⟩))), (12, v18), (13, (.bool x8.2)), (57, (.bool x9)), (62, (.bool (!x12))), (67, (.bool (!x14))), (14, (.int .i64 x16.1)), (86, (.bool x17)), (15, (.int .i64 x19.1)), (16, (.int .i64 x20)), (94, (.bool (decide (x20 < 0)))), (97, (.bool (x20 != x19.1))), (17, v34), (18, (.bool x23.2)), (115, (.bool x24))] φ' ∧ hp60 = h') ?_ ?_
         ·refine W.region ?_
          refine RL.opD (by decide) (opv_move rfl rfl) ?_
          refine RL.opD (by decide) (opv_move rfl rfl) ?_
          obtain ⟨x25, hx25, hy3⟩ := Option.bind_eq_some_iff.1 hy3
          refine RL.op _ (by decide) (opv_call (cap := []) (laws_eqInt64S_ok _ _ _ (ownO.read (Sep.at (o := ownO (kI .i64) 2 v34 x23.1) S_39 0 rfl)) _ _ (ownO.read (Sep.at (o := ownO (kI .i64) 2 v6 x5.1) S_39 9 rfl)) _ hx25) rfl rfl ⟨rfl, rfl, trivial⟩ Tryd.func10 rfl rfl) ?_
          rintro _ _ ⟨rfl, rfl⟩
          refine RL.opD (by decide) (opv_not rfl rfl) ?_
          refine RL.opD (by decide) (opv_move rfl rfl) ?_
          by_cases c12 : (!x25) = true
          ·rw [if_pos c12] at hy3
           refine RL.noT rfl rfl c12 (by decide) ?_
           refine RL.noT rfl rfl c12 (by decide) ?_
           refine RL.noT rfl rfl c12 (by decide) ?_
           refine RL.opD (by decide) (opv_pick rfl rfl (fun _ => rfl) (fun e => absurd (Eq.trans (Eq.symm e) c12) (by decide)) rfl) ?_
           refine RL.nil ?_
           have ey3 := Option.some.inj hy3
           subst ey3
           refine onlyN ?_
           exact ⟨⟨rfl, rfl, rfl, rfl, rfl, rfl, rfl, rfl, rfl, rfl, rfl, rfl, rfl, rfl, rfl, rfl, rfl, rfl, rfl, rfl, rfl, rfl, rfl, rfl, rfl, rfl, rfl, trivial⟩, rfl⟩
          ·rw [if_neg c12] at hy3
           have c12 := eq_false_of_ne_true c12
           refine RL.yesD rfl rfl c12 (by decide) (opv_move rfl rfl) ?_
           refine RL.yesD rfl rfl c12 (by decide) (opv_move rfl rfl) ?_
           refine RL.yesD rfl rfl c12 (by decide) (opv_bcmp rfl rfl Tryd.underlying4 rfl rfl) ?_
           refine RL.opD (by decide) (opv_pick rfl rfl (fun e => absurd (Eq.trans (Eq.symm e) c12) (by decide)) (fun _ => rfl) rfl) ?_
           refine RL.nil ?_
           have ey3 := Option.some.inj hy3
           subst ey3
           refine onlyN ?_
           exact ⟨⟨rfl, rfl, rfl, rfl, rfl, rfl, rfl, rfl, rfl, rfl, rfl, rfl, rfl, rfl, rfl, rfl, rfl, rfl, rfl, rfl, rfl, rfl, rfl, rfl, rfl, rfl, rfl, trivial⟩, rfl⟩
         rintro φ' _ ⟨hs3, rfl⟩
         refine thnN ?_
         refine W.sub hs3 ?_
         by_cases c13 : x24 = true
         ·rw [if_pos c13] at hp
          refine W.condT rfl c13 ?_
          refine W.seq ?_
          refine W.region ?_
          refine RL.opD (by decide) (opv_assign rfl rfl) ?_
          refine RL.nil ?_
          refine thnN ?_
          refine W.ret ?_
          refine thnR ?_
          have er := Option.some.inj hp
          subst er
          exact Rt.one rfl rfl ⟨rfl, X_28, (Sep.nil _ _ _)⟩
         ·rw [if_neg c13] at hp
          have c13 := eq_false_of_ne_true c13
          refine W.condF rfl c13 ?_
          refine W.skip ?_
          refine thnN ?_
          refine W.seq ?_
          refine W.region ?_
          refine RL.opD (by decide) (opv_assign rfl rfl) ?_
          refine RL.nil ?_
          refine thnN ?_
          refine W.seq ?_
          refine W.region ?_
          refine RL.opD (by decide) (opv_move rfl rfl) ?_
          refine RL.opD (by decide) (opv_move rfl rfl) ?_
          obtain ⟨x26, hx26, hp⟩ := Option.bind_eq_some_iff.1 hp
          refine RL.op _ (by decide) (opv_call (cap := []) (laws_heldInt64S_ok _ _ _ (ownO.read (Sep.at (o := ownO (kI .i64) 2 v18 x19.2) S_39 1 rfl)) _ _ hx26) rfl rfl ⟨rfl, rfl, trivial⟩ Tryd.func16 rfl rfl) ?_
          rintro _ _ ⟨rfl, rfl⟩
          refine RL.opD (by decide) (opv_assign rfl rfl) ?_
          refine RL.nil ?_
          refine thnN ?_
          refine W.seq ?_
          refine W.seq ?_
          refine W.region ?_
          refine RL.opD (by decide) (opv_move rfl rfl) ?_
          refine RL.opD (by decide) (opv_icmp rfl rfl rfl rfl) ?_
          refine RL.nil ?_
          refine thnN ?_
          by_cases c14 : (decide (x26 < 0)) = true
          ·rw [if_pos c14] at hp
           refine W.condT rfl c14 ?_
           refine W.seq ?_
           refine W.region ?_
           refine RL.opD (by decide) (opv_assign rfl rfl) ?_
           refine RL.nil ?_
           refine thnN ?_
           refine W.ret ?_
           refine thnR ?_
           have er := Option.some.inj hp
           subst er
           exact Rt.one rfl rfl ⟨rfl, X_28, (Sep.nil _ _ _)⟩
          ·rw [if_neg c14] at hp
           have c14 := eq_false_of_ne_true c14
           refine W.condF rfl c14 ?_
           refine W.skip ?_
           refine thnN ?_
           refine W.seq ?_
           refine W.seq ?_
           refine W.region ?_
           refine RL.opD (by decide) (opv_move rfl rfl) ?_
           refine RL.opD (by decide) (opv_move rfl rfl) ?_
           refine RL.opD (by decide) (opv_icmp rfl rfl rfl rfl) ?_
           refine RL.nil ?_
           refine thnN ?_
           by_cases c15 : (x26 != x19.1) = true
           ·rw [if_pos c15] at hp
            refine W.condT rfl c15 ?_
            refine W.seq ?_
            refine W.region ?_
            refine RL.opD (by decide) (opv_assign rfl rfl) ?_
            refine RL.nil ?_
            refine thnN ?_
            refine W.ret ?_
            refine thnR ?_
            have er := Option.some.inj hp
            subst er
            exact Rt.one rfl rfl ⟨rfl, X_28, (Sep.nil _ _ _)⟩
           ·rw [if_neg c15] at hp
            have c15 := eq_false_of_ne_true c15
            refine W.condF rfl c15 ?_
            refine W.skip ?_
            refine thnN ?_
            refine W.seq ?_
            refine W.region ?_
            refine RL.opD (by decide) (opv_assign rfl rfl) ?_
            refine RL.nil ?_
            refine thnN ?_
            refine W.ret ?_
            have er := Option.some.inj hp
            subst er
            exact Rt.one rfl rfl ⟨rfl, X_28, (Sep.nil _ _ _)⟩

end Go.H
