/- Functions of the program: what each computes, as a plain function, and that the call comes to it. Written by a program (wip/gen). -/
import Derived.Test.YtjlnfficehomhaaDoorP0
import Derived.Test.YtjlnfficehomhaaDoorBase28
import Derived.Test.YtjlnfficehomhaaDoorProg
import Derived.KernelRfl
set_option linter.unusedVariables false
namespace Go.H
open Go Go.Proofs



noncomputable def laws_toFloat32S.s0 (a0 : List (Option Nat)) (x1 : Int) (x2 : List (Option Nat)) : Option ((Int × (List (Option Nat))) ⊕ (Int × Bool × (List (Option Nat)))) :=
 (if (decide (x1 < (a0.length : Int))) = true then ((idx a0 x1).bind fun (x6 : Option Nat) => ((idx x2 x1).bind fun (x7 : Option Nat) => ((setF x2 x1 x6).bind fun (x8 : List (Option Nat)) => some (.inl (IntKind.wrap .i64 (x1 + 1), x8))))) else some (.inr (x1, decide (x1 < (a0.length : Int)), x2)))

noncomputable def laws_toFloat32S (a0 : List (Option Nat)) : Option (List (Option Nat)) :=
 (if 0 ≤ (a0.length : Int) ∧ (a0.length : Int) ≤ 1000000000 then ((loopF (fun (s : (Int × (List (Option Nat)))) => laws_toFloat32S.s0 a0 s.1 s.2) (0, List.replicate (Int.toNat (a0.length : Int)) (some 0))).bind fun (⟨x3, x4, x5⟩ : (Int × Bool × (List (Option Nat)))) => some x5) else none)

noncomputable def laws_eqFloat32S.s0 (a0 : List (Option Nat)) (a1 : List (Option Nat)) (x1 : Bool) (x2 : Int) : Option ((Bool × Int) ⊕ ((Bool × Int × Bool) ⊕ Bool)) :=
 (if (decide (x2 < (a0.length : Int))) = true then ((idx a0 x2).bind fun (x6 : Option Nat) => ((idx a1 x2).bind fun (x7 : Option Nat) => ((laws_sameFloat (wid x6) (wid x7)).bind fun (x8 : Bool) => (if (!x8) = true then some (.inr (.inr false)) else some (.inl (x1, IntKind.wrap .i64 (x2 + 1))))))) else some (.inr (.inl (x1, x2, decide (x2 < (a0.length : Int))))))

noncomputable def laws_eqFloat32S (a0 : List (Option Nat)) (a1 : List (Option Nat)) : Option Bool :=
 (if ((a0.length : Int) != (a1.length : Int)) = true then some false else ((loopF (fun (s : (Bool × Int)) => laws_eqFloat32S.s0 a0 a1 s.1 s.2) (false, 0)).bind fun (y1 : ((Bool × Int × Bool) ⊕ Bool)) => match y1 with | .inl (x3, x4, x5) => some true | .inr r1 => some r1))

noncomputable def laws_markFloat32S.s0 (x1 : Int) (x2 : Int) (x3 : List (Option Nat)) : Option ((Int × Int × (List (Option Nat))) ⊕ (Int × Int × Bool × (List (Option Nat)))) :=
 (if (decide (x2 < (x3.length : Int))) = true then ((idx x3 x2).bind fun (x8 : Option Nat) => ((setF x3 x2 (fofi .f32 x1)).bind fun (x9 : List (Option Nat)) => some (.inl (IntKind.wrap .i64 (x1 + 1), IntKind.wrap .i64 (x2 + 1), x9)))) else some (.inr (x1, x2, decide (x2 < (x3.length : Int)), x3)))

noncomputable def laws_markFloat32S (a0 : List (Option Nat)) (a1 : Int) : Option (Int × (List (Option Nat))) :=
 ((loopF (fun (s : (Int × Int × (List (Option Nat)))) => laws_markFloat32S.s0 s.1 s.2.1 s.2.2) (a1, 0, a0)).bind fun (⟨x4, x5, x6, x7⟩ : (Int × Int × Bool × (List (Option Nat)))) => some (x4, x7))

noncomputable def laws_eqInt64S.s0 (a0 : List (Int)) (a1 : List (Int)) (x1 : Bool) (x2 : Int) : Option ((Bool × Int) ⊕ ((Bool × Int × Bool) ⊕ Bool)) :=
 (if (decide (x2 < (a0.length : Int))) = true then ((idx a0 x2).bind fun (x6 : Int) => ((idx a1 x2).bind fun (x7 : Int) => (if (x6 != x7) = true then some (.inr (.inr false)) else some (.inl (x1, IntKind.wrap .i64 (x2 + 1)))))) else some (.inr (.inl (x1, x2, decide (x2 < (a0.length : Int))))))

noncomputable def laws_eqInt64S (a0 : List (Int)) (a1 : List (Int)) : Option Bool :=
 (if ((a0.length : Int) != (a1.length : Int)) = true then some false else ((loopF (fun (s : (Bool × Int)) => laws_eqInt64S.s0 a0 a1 s.1 s.2) (false, 0)).bind fun (y1 : ((Bool × Int × Bool) ⊕ Bool)) => match y1 with | .inl (x3, x4, x5) => some true | .inr r1 => some r1))

noncomputable def laws_markInt64S.s0 (x1 : Int) (x2 : Int) (x3 : List (Int)) : Option ((Int × Int × (List (Int))) ⊕ (Int × Int × Bool × (List (Int)))) :=
 (if (decide (x2 < (x3.length : Int))) = true then ((idx x3 x2).bind fun (x8 : Int) => ((setF x3 x2 x1).bind fun (x9 : List (Int)) => some (.inl (IntKind.wrap .i64 (x1 + 1), IntKind.wrap .i64 (x2 + 1), x9)))) else some (.inr (x1, x2, decide (x2 < (x3.length : Int)), x3)))

noncomputable def laws_markInt64S (a0 : List (Int)) (a1 : Int) : Option (Int × (List (Int))) :=
 ((loopF (fun (s : (Int × Int × (List (Int)))) => laws_markInt64S.s0 s.1 s.2.1 s.2.2) (a1, 0, a0)).bind fun (⟨x4, x5, x6, x7⟩ : (Int × Int × Bool × (List (Int)))) => some (x4, x7))

noncomputable def laws_heldInt64S.s0 (a0 : List (Int)) (x1 : Int) (x2 : Int) (x3 : Int) : Option ((Int × Int × Int) ⊕ ((Int × Int × Int × Bool) ⊕ Int)) :=
 (if (decide (x3 < (a0.length : Int))) = true then ((idx a0 x3).bind fun (x8 : Int) => (if (x8 != x1) = true then some (.inr (.inr (-1))) else some (.inl (IntKind.wrap .i64 (x1 + 1), x2, IntKind.wrap .i64 (x3 + 1))))) else some (.inr (.inl (x1, x2, x3, decide (x3 < (a0.length : Int))))))

noncomputable def laws_heldInt64S (a0 : List (Int)) (a1 : Int) : Option Int :=
 ((loopF (fun (s : (Int × Int × Int)) => laws_heldInt64S.s0 a0 s.1 s.2.1 s.2.2) (a1, 0, 0)).bind fun (y1 : ((Int × Int × Int × Bool) ⊕ Int)) => match y1 with | .inl (x4, x5, x6, x7) => some x4 | .inr r1 => some r1)

noncomputable def laws_szFloat32S (a0 : List (Option Nat)) (a1 : Int) : Option Int :=
 (if (decide ((IntKind.wrap .i64 (a1 - (a0.length : Int))) < 0)) = true then some (-1) else some (IntKind.wrap .i64 (a1 - (a0.length : Int))))

noncomputable def laws_szSheet (a0_0 : Int) (a0_1 : Int) (a0_2 : Bool) (a0_3 : List (Option Nat)) (a0_4 : List (Option Nat)) (a1 : Int) : Option Int :=
 ((laws_szFloat32S a0_3 a1).bind fun (x1 : Int) => (if (decide (x1 < 0)) = true then some (-1) else ((laws_szFloat32S a0_4 x1).bind fun (x2 : Int) => (if (decide (x2 < 0)) = true then some (-1) else some x2))))

noncomputable def laws_szField (a0_0 : List (Option Nat)) (a0_1 : List (Option Nat)) (a0_2 : List (Option Nat)) (a1 : Int) : Option Int :=
 ((laws_szFloat32S a0_0 a1).bind fun (x1 : Int) => (if (decide (x1 < 0)) = true then some (-1) else ((laws_szFloat32S a0_1 x1).bind fun (x2 : Int) => (if (decide (x2 < 0)) = true then some (-1) else ((laws_szFloat32S a0_2 x2).bind fun (x3 : Int) => (if (decide (x3 < 0)) = true then some (-1) else some x3))))))

noncomputable def laws_toSheet (a0_0 : Int) (a0_1 : Int) (a0_2 : Bool) (a0_3 : List (Option Nat)) (a0_4 : List (Option Nat)) : Option (Int × Int × Bool × (List (Option Nat)) × (List (Option Nat))) :=
 ((laws_toFloat32S a0_3).bind fun (x1 : List (Option Nat)) => ((laws_toFloat32S a0_4).bind fun (x2 : List (Option Nat)) => some (a0_0, a0_1, a0_2, x1, x2)))

noncomputable def laws_eqSheet (a0_0 : Int) (a0_1 : Int) (a0_2 : Bool) (a0_3 : List (Option Nat)) (a0_4 : List (Option Nat)) (a1_0 : Int) (a1_1 : Int) (a1_2 : Bool) (a1_3 : List (Option Nat)) (a1_4 : List (Option Nat)) : Option Bool :=
 (if (a0_0 != a1_0) = true then some false else (if (a0_1 != a1_1) = true then some false else (if (a0_2 != a1_2) = true then some false else ((laws_eqFloat32S a0_3 a1_3).bind fun (x1 : Bool) => (if (!x1) = true then some false else ((laws_eqFloat32S a0_4 a1_4).bind fun (x2 : Bool) => (if (!x2) = true then some false else some true)))))))

noncomputable def laws_markSheet (a0_0 : Int) (a0_1 : Int) (a0_2 : Bool) (a0_3 : List (Option Nat)) (a0_4 : List (Option Nat)) (a1 : Int) : Option (Int × (List (Option Nat)) × (List (Option Nat))) :=
 ((laws_markFloat32S a0_3 a1).bind fun (x1 : (Int × (List (Option Nat)))) => ((laws_markFloat32S a0_4 x1.1).bind fun (x2 : (Int × (List (Option Nat)))) => some (x2.1, x1.2, x2.2)))

noncomputable def laws_toField (a0_0 : List (Option Nat)) (a0_1 : List (Option Nat)) (a0_2 : List (Option Nat)) : Option ((List (Option Nat)) × (List (Option Nat)) × (List (Option Nat))) :=
 ((laws_toFloat32S a0_0).bind fun (x1 : List (Option Nat)) => ((laws_toFloat32S a0_1).bind fun (x2 : List (Option Nat)) => ((laws_toFloat32S a0_2).bind fun (x3 : List (Option Nat)) => some (x1, x2, x3))))

noncomputable def laws_eqField (a0_0 : List (Option Nat)) (a0_1 : List (Option Nat)) (a0_2 : List (Option Nat)) (a1_0 : List (Option Nat)) (a1_1 : List (Option Nat)) (a1_2 : List (Option Nat)) : Option Bool :=
 ((laws_eqFloat32S a0_0 a1_0).bind fun (x1 : Bool) => (if (!x1) = true then some false else ((laws_eqFloat32S a0_1 a1_1).bind fun (x2 : Bool) => (if (!x2) = true then some false else ((laws_eqFloat32S a0_2 a1_2).bind fun (x3 : Bool) => (if (!x3) = true then some false else some true))))))

noncomputable def laws_markField (a0_0 : List (Option Nat)) (a0_1 : List (Option Nat)) (a0_2 : List (Option Nat)) (a1 : Int) : Option (Int × (List (Option Nat)) × (List (Option Nat)) × (List (Option Nat))) :=
 ((laws_markFloat32S a0_0 a1).bind fun (x1 : (Int × (List (Option Nat)))) => ((laws_markFloat32S a0_1 x1.1).bind fun (x2 : (Int × (List (Option Nat)))) => ((laws_markFloat32S a0_2 x2.1).bind fun (x3 : (Int × (List (Option Nat)))) => some (x3.1, x1.2, x2.2, x3.2))))

set_option maxRecDepth 20000 in
theorem laws_toFloat32S_ok (h0 : Heap) (u0 : Value) (a0 : List (Option Nat)) (g0 : SL (kF .f32) h0.size h0 u0 a0) (r : List (Option Nat)) (hp : laws_toFloat32S a0 = some r) : CallsH Tryd.prog 23 ([u0].toArray ++ [].toArray) h0 (fun v h' => Mod [] h0 h' ∧ Sep [] h0.size h' [ownO (kF .f32) 65 v r]) := by
 unfold laws_toFloat32S at hp
 refine callsH_of_W (l := [u0]) (cap := []) 22 Tryd.func23 rfl rfl rfl ?_
 refine W.seq ?_
 refine W.region ?_
 refine RL.opD (by decide) (opv_assign rfl rfl) ?_
 have S_1 : Sep [] h0.size h0 [ownO (kF .f32) 65 (.slice none 0 0) ([] : List (Option Nat))] := Sep.addNil (Sep.nil [] h0.size h0)
 refine RL.nil ?_
 refine thnN ?_
 refine W.seq ?_
 refine W.region ?_
 refine RL.opD (by decide) (opv_move rfl rfl) ?_
 refine RL.opD (by decide) (opv_len rfl Tryd.underlying22 rfl g0) ?_
 obtain ⟨c1, hp⟩ := of_ite hp
 refine RL.op _ (by decide) (opS_make (K := (kF .f32)) (zx := (some 0)) rfl Tryd.underlying22 Tryd.einfo65 rfl rfl ⟨_, rfl, (isF_lit .f32 0 (by decide) (by decide))⟩ rfl rfl (by decide) c1) ?_
 rintro v1 hp1 ⟨MT_1, T_1⟩
 obtain ⟨X_1, S_2⟩ := Sep.turn0 (Mod.refl [] h0) S_1 MT_1 T_1
 refine RL.opD (by decide) (opv_assign rfl rfl) ?_
 refine RL.nil ?_
 refine thnN ?_
 refine W.seq ?_
 refine W.seq ?_
 refine W.region ?_
 refine RL.opD (by decide) (opv_assign rfl rfl) ?_
 refine RL.nil ?_
 refine thnN ?_
 obtain ⟨y1, hy1, hp⟩ := Option.bind_eq_some_iff.1 hp
 refine W.cut (fun φ' h' => ∃ x3, ∃ x4, ∃ x5, y1 = (x3, x4, x5) ∧ Fr.sub [(0, u0), (2, (.slice none 0 0)), (3, v1), (4, (.int .i64 x3)), (11, (.bool x4))] φ' ∧ Mod [] h0 h' ∧ Sep [] h0.size h' [ownO (kF .f32) 65 v1 x5, ownO (kF .f32) 65 (.slice none 0 0) ([] : List (Option Nat))]) ?_ ?_
 ·refine W.block ?_
  refine W.loopS (fun (s : (Int × (List (Option Nat)))) φ' h' => Fr.sub [(0, u0), (2, (.slice none 0 0)), (3, v1), (4, (.int .i64 s.1))] φ' ∧ Mod [] h0 h' ∧ Sep [] h0.size h' [ownO (kF .f32) 65 v1 s.2, ownO (kF .f32) 65 (.slice none 0 0) ([] : List (Option Nat))]) hy1 ⟨⟨rfl, rfl, rfl, rfl, trivial⟩, X_1, (Sep.sel S_2 [0, 1] (by decide))⟩ ?_
  rintro ⟨x1, x2⟩ φ' hp2 o1 ⟨hs1, X_2, S_3⟩ ho1 hy1
  have hs1 : Fr.sub [(0, u0), (2, (.slice none 0 0)), (3, v1), (4, (.int .i64 x1))] φ' := hs1
  have S_3 : Sep [] h0.size hp2 [ownO (kF .f32) 65 v1 x2, ownO (kF .f32) 65 (.slice none 0 0) ([] : List (Option Nat))] := S_3
  have ho1 : laws_toFloat32S.s0 a0 x1 x2 = some o1 := ho1
  unfold laws_toFloat32S.s0 at ho1
  refine W.sub hs1 ?_
  refine W.seq ?_
  refine W.seq ?_
  refine W.region ?_
  refine RL.opD (by decide) (opv_move rfl rfl) ?_
  refine RL.opD (by decide) (opv_move rfl rfl) ?_
  refine RL.opD (by decide) (opv_len rfl Tryd.underlying22 rfl (SL.mod g0 X_2 (Nat.le_refl _) nob)) ?_
  refine RL.opD (by decide) (opv_icmp rfl rfl rfl rfl) ?_
  refine RL.nil ?_
  refine thnN ?_
  by_cases c2 : (decide (x1 < (a0.length : Int))) = true
  ·rw [if_pos c2] at ho1
   refine W.condT rfl c2 ?_
   refine W.skip ?_
   refine thnN ?_
   refine W.seq ?_
   refine W.block ?_
   refine W.region ?_
   refine RL.opD (by decide) (opv_move rfl rfl) ?_
   refine RL.opD (by decide) (opv_move rfl rfl) ?_
   refine RL.opD (by decide) (opv_move rfl rfl) ?_
   refine RL.opD (by decide) (opv_move rfl rfl) ?_
   obtain ⟨x6, hx6, ho1⟩ := Option.bind_eq_some_iff.1 ho1
   refine RL.op _ (by decide) (opv_index rfl Tryd.underlying22 (by rw [Tryd.size65]; rfl) rfl rfl (SL.mod g0 X_2 (Nat.le_refl _) nob) hx6) ?_
   rintro v2 _ ⟨fv2, rfl⟩
   refine RL.opF (by decide) (opv_loadF rfl Tryd.one65 rfl fv2 (SL.mod g0 X_2 (Nat.le_refl _) nob) hx6) ?_
   intro v3 fv3
   obtain ⟨x7, hx7, ho1⟩ := Option.bind_eq_some_iff.1 ho1
   refine RL.op _ (by decide) (opv_index rfl Tryd.underlying22 (by rw [Tryd.size65]; rfl) rfl rfl (ownO.read (Sep.at (o := ownO (kF .f32) 65 v1 x2) S_3 0 rfl)) hx7) ?_
   rintro v4 _ ⟨fv4, rfl⟩
   obtain ⟨x8, hx8, ho1⟩ := Option.bind_eq_some_iff.1 ho1
   refine RL.op0 _ (opS_storeE (K := (kF .f32)) rfl Tryd.size65 rfl rfl fv4 rfl ⟨_, rfl, fv3⟩ hx8 (Sep.at (o := ownO (kF .f32) 65 v1 x2) S_3 0 rfl)) ?_
   rintro _ hp3 ⟨rfl, MT_2, T_2⟩
   have S_4 : Sep [] h0.size hp2 ([ownO (kF .f32) 65 v1 x2] ++ [ownO (kF .f32) 65 (.slice none 0 0) ([] : List (Option Nat))]) := Sep.sel S_3 [0, 1] (by decide)
   obtain ⟨X_3, S_5⟩ := Sep.turn X_2 S_4 MT_2 T_2
   refine RL.nil ?_
   refine blkN ?_
   refine thnN ?_
   refine W.region ?_
   refine RL.opD (by decide) (opv_move rfl rfl) ?_
   refine RL.opD (by decide) (opv_add rfl rfl rfl) ?_
   refine RL.opD (by decide) (opv_assign rfl rfl) ?_
   refine RL.nil ?_
   have eo1 := Option.some.inj ho1
   subst eo1
   refine rndN (s' := (IntKind.wrap .i64 (x1 + 1), x8)) rfl ?_
   exact ⟨⟨rfl, rfl, rfl, rfl, trivial⟩, X_3, (Sep.sel S_5 [0, 1] (by decide))⟩
  ·rw [if_neg c2] at ho1
   have c2 := eq_false_of_ne_true c2
   refine W.condF rfl c2 ?_
   refine W.exit ?_
   refine thnX ?_
   refine rndX ?_
   refine blkI ?_
   have eo1 := Option.some.inj ho1
   subst eo1
   have ey1 := hy1 _ rfl
   subst ey1
   refine onlyN ?_
   exact ⟨x1, decide (x1 < (a0.length : Int)), x2, rfl, ⟨rfl, rfl, rfl, rfl, rfl, trivial⟩, X_2, (Sep.sel S_3 [0, 1] (by decide))⟩
 rintro φ' hp4 ⟨x3, x4, x5, rfl, hs2, X_4, S_6⟩
 try dsimp only at hp
 refine thnN ?_
 refine W.sub hs2 ?_
 refine W.seq ?_
 refine W.region ?_
 refine RL.opD (by decide) (opv_move rfl rfl) ?_
 refine RL.opD (by decide) (opv_assign rfl rfl) ?_
 refine RL.nil ?_
 refine thnN ?_
 refine W.ret ?_
 have er := Option.some.inj hp
 subst er
 exact Rt.one rfl rfl ⟨X_4, (Sep.sel S_6 [0] (by decide))⟩

set_option maxRecDepth 20000 in
theorem laws_eqFloat32S_ok (h0 : Heap) (u0 : Value) (a0 : List (Option Nat)) (g0 : SL (kF .f32) h0.size h0 u0 a0) (u1 : Value) (a1 : List (Option Nat)) (g1 : SL (kF .f32) h0.size h0 u1 a1) (r : Bool) (hp : laws_eqFloat32S a0 a1 = some r) : CallsH Tryd.prog 29 ([u0, u1].toArray ++ [].toArray) h0 (fun v h' => v = (.bool r) ∧ h0 = h') := by
 unfold laws_eqFloat32S at hp
 refine callsH_of_W (l := [u0, u1]) (cap := []) 29 Tryd.func29 rfl rfl rfl ?_
 refine W.seq ?_
 refine W.region ?_
 refine RL.opD (by decide) (opv_assign rfl rfl) ?_
 refine RL.nil ?_
 refine thnN ?_
 refine W.seq ?_
 refine W.seq ?_
 refine W.region ?_
 refine RL.opD (by decide) (opv_move rfl rfl) ?_
 refine RL.opD (by decide) (opv_len rfl Tryd.underlying22 rfl g0) ?_
 refine RL.opD (by decide) (opv_move rfl rfl) ?_
 refine RL.opD (by decide) (opv_len rfl Tryd.underlying22 rfl g1) ?_
 refine RL.opD (by decide) (opv_icmp rfl rfl rfl rfl) ?_
 refine RL.nil ?_
 refine thnN ?_
 by_cases c1 : ((a0.length : Int) != (a1.length : Int)) = true
 ·rw [if_pos c1] at hp
  refine W.condT rfl c1 ?_
  refine W.seq ?_
  refine W.region ?_
  refine RL.opD (by decide) (opv_assign rfl rfl) ?_
  refine RL.nil ?_
  refine thnN ?_
  refine W.ret ?_
  refine thnR ?_
  have er := Option.some.inj hp
  subst er
  exact Rt.one rfl rfl ⟨rfl, rfl⟩
 ·rw [if_neg c1] at hp
  have c1 := eq_false_of_ne_true c1
  refine W.condF rfl c1 ?_
  refine W.skip ?_
  refine thnN ?_
  refine W.seq ?_
  refine W.seq ?_
  refine W.region ?_
  refine RL.opD (by decide) (opv_assign rfl rfl) ?_
  refine RL.nil ?_
  refine thnN ?_
  obtain ⟨y1, hy1, hp⟩ := Option.bind_eq_some_iff.1 hp
  refine W.cut (fun φ' h' => ∃ x3, ∃ x4, ∃ x5, y1 = .inl (x3, x4, x5) ∧ Fr.sub [(0, u0), (1, u1), (10, (.bool ((a0.length : Int) != (a1.length : Int)))), (4, (.bool x3)), (5, (.int .i64 x4)), (14, (.bool x5))] φ' ∧ h0 = h') ?_ ?_
  ·refine W.block ?_
   refine W.loopS (fun (s : (Bool × Int)) φ' h' => Fr.sub [(0, u0), (1, u1), (10, (.bool ((a0.length : Int) != (a1.length : Int)))), (4, (.bool s.1)), (5, (.int .i64 s.2))] φ' ∧ h0 = h') hy1 ⟨⟨rfl, rfl, rfl, rfl, rfl, trivial⟩, rfl⟩ ?_
   rintro ⟨x1, x2⟩ φ' _ o1 ⟨hs1, rfl⟩ ho1 hy1
   have hs1 : Fr.sub [(0, u0), (1, u1), (10, (.bool ((a0.length : Int) != (a1.length : Int)))), (4, (.bool x1)), (5, (.int .i64 x2))] φ' := hs1
   have ho1 : laws_eqFloat32S.s0 a0 a1 x1 x2 = some o1 := ho1
   unfold laws_eqFloat32S.s0 at ho1
   refine W.sub hs1 ?_
   refine W.seq ?_
   refine W.seq ?_
   refine W.region ?_
   refine RL.opD (by decide) (opv_move rfl rfl) ?_
   refine RL.opD (by decide) (opv_move rfl rfl) ?_
   refine RL.opD (by decide) (opv_len rfl Tryd.underlying22 rfl g0) ?_
   refine RL.opD (by decide) (opv_icmp rfl rfl rfl rfl) ?_
   refine RL.nil ?_
   refine thnN ?_
   by_cases c2 : (decide (x2 < (a0.length : Int))) = true
   ·rw [if_pos c2] at ho1
    refine W.condT rfl c2 ?_
    refine W.skip ?_
    refine thnN ?_
    refine W.seq ?_
    refine W.block ?_
    refine W.seq ?_
    obtain ⟨x6, hx6, ho1⟩ := Option.bind_eq_some_iff.1 ho1
    obtain ⟨x7, hx7, ho1⟩ := Option.bind_eq_some_iff.1 ho1
    obtain ⟨x8, hx8, ho1⟩ := Option.bind_eq_some_iff.1 ho1
    refine W.sub (ψ := [(0, u0), (1, u1), (10, (.bool ((a0.length : Int) != (a1.length : Int)))), (4, (.bool x1)), (5, (.int .i64 x2)), (14, (.bool (decide (x2 < (a0.length : Int)))))]) ⟨rfl, rfl, rfl, rfl, rfl, rfl, trivial⟩ ?_
    refine W.regionP [fun v _ => @Eq Value u0 v, fun v _ => @Eq Value (.int .i64 x2) v, fun v _ => PtI 1 v u0 (Int.toNat x2), fun v _ => IsF .f32 v x6, fun v _ => IsF .f64 v (wid x6), fun v _ => @Eq Value u1 v, fun v _ => @Eq Value (.int .i64 x2) v, fun v _ => PtI 1 v u1 (Int.toNat x2), fun v _ => IsF .f32 v x7, fun v _ => IsF .f64 v (wid x7), fun v _ => @Eq Value (.bool x8) v, fun v _ => @Eq Value (.bool (!x8)) v] [[], [], [0, 1], [2], [3], [], [], [5, 6], [7], [8], [4, 9], [10]] [11] Tryd.mixed (by decide +kernel) (by decide +kernel) rfl rfl rfl ?_ ?_
    ·refine ⟨⟨rfl, ?_⟩, ⟨rfl, ?_⟩, ⟨rfl, ?_⟩, ⟨rfl, ?_⟩, ⟨rfl, ?_⟩, ⟨rfl, ?_⟩, ⟨rfl, ?_⟩, ⟨rfl, ?_⟩, ⟨rfl, ?_⟩, ⟨rfl, ?_⟩, ⟨rfl, ?_⟩, ⟨rfl, ?_⟩, trivial⟩
     ·rintro _ rfl
      refine Dep.nil ?_
      refine GuardOK.none rfl ?_
      exact OpV.toD (opv_move rfl rfl) rfl
     ·rintro _ rfl
      refine Dep.nil ?_
      refine GuardOK.none rfl ?_
      exact OpV.toD (opv_move rfl rfl) rfl
     ·rintro _ rfl _ rfl _ rfl
      refine Dep.nil ?_
      refine GuardOK.none rfl ?_
      exact OpV.toS (opv_index rfl Tryd.underlying22 (by rw [Tryd.size65]; rfl) rfl rfl g0 hx6) (fun _ h => h)
     ·rintro _ rfl v1 fv1
      refine Dep.nil ?_
      refine GuardOK.none rfl ?_
      exact OpV.toS (opv_loadF rfl Tryd.one65 rfl fv1 g0 hx6) (fun _ h => h)
     ·rintro _ rfl v2 fv2
      refine Dep.nil ?_
      refine GuardOK.none rfl ?_
      exact OpV.toS (opv_widen rfl (by rw [Tryd.underlying65]; rfl) Tryd.underlying71 rfl fv2) (fun _ h => h)
     ·rintro _ rfl
      refine Dep.nil ?_
      refine GuardOK.none rfl ?_
      exact OpV.toD (opv_move rfl rfl) rfl
     ·rintro _ rfl
      refine Dep.nil ?_
      refine GuardOK.none rfl ?_
      exact OpV.toD (opv_move rfl rfl) rfl
     ·rintro _ rfl _ rfl _ rfl
      refine Dep.nil ?_
      refine GuardOK.none rfl ?_
      exact OpV.toS (opv_index rfl Tryd.underlying22 (by rw [Tryd.size65]; rfl) rfl rfl g1 hx7) (fun _ h => h)
     ·rintro _ rfl v4 fv4
      refine Dep.nil ?_
      refine GuardOK.none rfl ?_
      exact OpV.toS (opv_loadF rfl Tryd.one65 rfl fv4 g1 hx7) (fun _ h => h)
     ·rintro _ rfl v5 fv5
      refine Dep.nil ?_
      refine GuardOK.none rfl ?_
      exact OpV.toS (opv_widen rfl (by rw [Tryd.underlying65]; rfl) Tryd.underlying71 rfl fv5) (fun _ h => h)
     ·rintro _ rfl v3 fv3 v6 fv6
      refine Dep.nil ?_
      refine GuardOK.none rfl ?_
      exact OpV.mono (opv_call (cap := []) (laws_sameFloat_ok _ _ _ fv3 _ _ fv6 _ hx8) rfl rfl ⟨rfl, rfl, trivial⟩ Tryd.func39 rfl rfl) (by rintro _ _ ⟨rfl, rfl⟩; exact ⟨rfl, rfl⟩)
     ·rintro _ rfl _ rfl
      refine Dep.nil ?_
      refine GuardOK.none rfl ?_
      exact OpV.toD (opv_not rfl rfl) rfl
    rintro _ rfl
    refine Dep.nil ?_
    show RL _ _ _ _ [] _ _
    refine RL.nil ?_
    refine thnN ?_
    by_cases c3 : (!x8) = true
    ·rw [if_pos c3] at ho1
     refine W.condT rfl c3 ?_
     refine W.seq ?_
     refine W.region ?_
     refine RL.opD (by decide) (opv_assign rfl rfl) ?_
     refine RL.nil ?_
     refine thnN ?_
     refine W.ret ?_
     refine blkR ?_
     refine thnR ?_
     have eo1 := Option.some.inj ho1
     subst eo1
     have ey1 := hy1 _ rfl
     subst ey1
     try dsimp only at hp
     refine rndR ?_
     refine blkR ?_
     refine onlyR ?_
     refine thnR ?_
     have er := Option.some.inj hp
     subst er
     exact Rt.one rfl rfl ⟨rfl, rfl⟩
    ·rw [if_neg c3] at ho1
     have c3 := eq_false_of_ne_true c3
     refine W.condF rfl c3 ?_
     refine W.skip ?_
     refine blkN ?_
     refine thnN ?_
     refine W.region ?_
     refine RL.opD (by decide) (opv_move rfl rfl) ?_
     refine RL.opD (by decide) (opv_add rfl rfl rfl) ?_
     refine RL.opD (by decide) (opv_assign rfl rfl) ?_
     refine RL.nil ?_
     have eo1 := Option.some.inj ho1
     subst eo1
     refine rndN (s' := (x1, IntKind.wrap .i64 (x2 + 1))) rfl ?_
     exact ⟨⟨rfl, rfl, rfl, rfl, rfl, trivial⟩, rfl⟩
   ·rw [if_neg c2] at ho1
    have c2 := eq_false_of_ne_true c2
    refine W.condF rfl c2 ?_
    refine W.exit ?_
    refine thnX ?_
    refine rndX ?_
    refine blkI ?_
    have eo1 := Option.some.inj ho1
    subst eo1
    have ey1 := hy1 _ rfl
    subst ey1
    refine onlyN ?_
    exact ⟨x1, x2, decide (x2 < (a0.length : Int)), rfl, ⟨rfl, rfl, rfl, rfl, rfl, rfl, trivial⟩, rfl⟩
  rintro φ' _ ⟨x3, x4, x5, rfl, hs2, rfl⟩
  try dsimp only at hp
  refine thnN ?_
  refine W.sub hs2 ?_
  refine W.seq ?_
  refine W.region ?_
  refine RL.opD (by decide) (opv_assign rfl rfl) ?_
  refine RL.nil ?_
  refine thnN ?_
  refine W.ret ?_
  have er := Option.some.inj hp
  subst er
  exact Rt.one rfl rfl ⟨rfl, rfl⟩

set_option maxRecDepth 20000 in
theorem laws_markFloat32S_ok (h0 : Heap) (lo : Nat) (hlo : lo ≤ h0.size) (u0 : Value) (a0 : List (Option Nat)) (a1 : Int) (S0 : Sep [u0.ownBlock] h0.size h0 [ownO (kF .f32) 65 u0 a0]) (hB : ∀ b, some b ∈ [u0.ownBlock] → lo ≤ b) (r : (Int × (List (Option Nat)))) (hp : laws_markFloat32S a0 a1 = some r) : CallsH Tryd.prog 30 ([u0, (.int .i64 a1)].toArray ++ [].toArray) h0 (fun v h' => v = (.int .i64 r.1) ∧ Mod [u0.ownBlock] h0 h' ∧ Sep [u0.ownBlock] h0.size h' [ownO (kF .f32) 65 u0 r.2]) := by
 unfold laws_markFloat32S at hp
 refine callsH_of_W (l := [u0, (.int .i64 a1)]) (cap := []) 20 Tryd.func30 rfl rfl rfl ?_
 refine W.seq ?_
 refine W.region ?_
 refine RL.opD (by decide) (opv_assign rfl rfl) ?_
 refine RL.nil ?_
 refine thnN ?_
 refine W.seq ?_
 refine W.seq ?_
 refine W.region ?_
 refine RL.opD (by decide) (opv_assign rfl rfl) ?_
 refine RL.nil ?_
 refine thnN ?_
 obtain ⟨y1, hy1, hp⟩ := Option.bind_eq_some_iff.1 hp
 refine W.cut (fun φ' h' => ∃ x4, ∃ x5, ∃ x6, ∃ x7, y1 = (x4, x5, x6, x7) ∧ Fr.sub [(0, u0), (4, (.int .i64 0)), (1, (.int .i64 x4)), (5, (.int .i64 x5)), (9, (.bool x6))] φ' ∧ Mod [u0.ownBlock] h0 h' ∧ Sep [u0.ownBlock] h0.size h' [ownO (kF .f32) 65 u0 x7]) ?_ ?_
 ·refine W.block ?_
  refine W.loopS (fun (s : (Int × Int × (List (Option Nat)))) φ' h' => Fr.sub [(0, u0), (4, (.int .i64 0)), (1, (.int .i64 s.1)), (5, (.int .i64 s.2.1))] φ' ∧ Mod [u0.ownBlock] h0 h' ∧ Sep [u0.ownBlock] h0.size h' [ownO (kF .f32) 65 u0 s.2.2]) hy1 ⟨⟨rfl, rfl, rfl, rfl, trivial⟩, (Mod.refl [u0.ownBlock] h0), (Sep.sel S0 [0] (by decide))⟩ ?_
  rintro ⟨x1, x2, x3⟩ φ' hp1 o1 ⟨hs1, X_1, S_1⟩ ho1 hy1
  have hs1 : Fr.sub [(0, u0), (4, (.int .i64 0)), (1, (.int .i64 x1)), (5, (.int .i64 x2))] φ' := hs1
  have S_1 : Sep [u0.ownBlock] h0.size hp1 [ownO (kF .f32) 65 u0 x3] := S_1
  have ho1 : laws_markFloat32S.s0 x1 x2 x3 = some o1 := ho1
  unfold laws_markFloat32S.s0 at ho1
  refine W.sub hs1 ?_
  refine W.seq ?_
  refine W.seq ?_
  refine W.region ?_
  refine RL.opD (by decide) (opv_move rfl rfl) ?_
  refine RL.opD (by decide) (opv_move rfl rfl) ?_
  refine RL.opD (by decide) (opv_len rfl Tryd.underlying22 rfl (ownO.read (Sep.at (o := ownO (kF .f32) 65 u0 x3) S_1 0 rfl))) ?_
  refine RL.opD (by decide) (opv_icmp rfl rfl rfl rfl) ?_
  refine RL.nil ?_
  refine thnN ?_
  by_cases c1 : (decide (x2 < (x3.length : Int))) = true
  ·rw [if_pos c1] at ho1
   refine W.condT rfl c1 ?_
   refine W.skip ?_
   refine thnN ?_
   refine W.seq ?_
   refine W.block ?_
   refine W.seq ?_
   refine W.region ?_
   refine RL.opD (by decide) (opv_move rfl rfl) ?_
   refine RL.opD (by decide) (opv_move rfl rfl) ?_
   refine RL.opD (by decide) (opv_move rfl rfl) ?_
   refine RL.opF (by decide) (opv_i2f rfl (by rw [Tryd.underlying3]; rfl) Tryd.underlying65 rfl) ?_
   intro v1 fv1
   obtain ⟨x8, hx8, ho1⟩ := Option.bind_eq_some_iff.1 ho1
   refine RL.op _ (by decide) (opv_index rfl Tryd.underlying22 (by rw [Tryd.size65]; rfl) rfl rfl (ownO.read (Sep.at (o := ownO (kF .f32) 65 u0 x3) S_1 0 rfl)) hx8) ?_
   rintro v2 _ ⟨fv2, rfl⟩
   obtain ⟨x9, hx9, ho1⟩ := Option.bind_eq_some_iff.1 ho1
   refine RL.op0 _ (opS_storeE (K := (kF .f32)) rfl Tryd.size65 rfl rfl fv2 rfl ⟨_, rfl, fv1⟩ hx9 (Sep.at (o := ownO (kF .f32) 65 u0 x3) S_1 0 rfl)) ?_
   rintro _ hp2 ⟨rfl, MT_1, T_1⟩
   have S_2 : Sep [u0.ownBlock] h0.size hp1 ([ownO (kF .f32) 65 u0 x3] ++ []) := Sep.sel S_1 [0] (by decide)
   obtain ⟨X_2, S_3⟩ := Sep.turn X_1 S_2 MT_1 T_1
   refine RL.nil ?_
   refine thnN ?_
   refine W.region ?_
   refine RL.opD (by decide) (opv_move rfl rfl) ?_
   refine RL.opD (by decide) (opv_add rfl rfl rfl) ?_
   refine RL.opD (by decide) (opv_assign rfl rfl) ?_
   refine RL.nil ?_
   refine blkN ?_
   refine thnN ?_
   refine W.region ?_
   refine RL.opD (by decide) (opv_move rfl rfl) ?_
   refine RL.opD (by decide) (opv_add rfl rfl rfl) ?_
   refine RL.opD (by decide) (opv_assign rfl rfl) ?_
   refine RL.nil ?_
   have eo1 := Option.some.inj ho1
   subst eo1
   refine rndN (s' := (IntKind.wrap .i64 (x1 + 1), IntKind.wrap .i64 (x2 + 1), x9)) rfl ?_
   exact ⟨⟨rfl, rfl, rfl, rfl, trivial⟩, X_2, (Sep.sel S_3 [0] (by decide))⟩
  ·rw [if_neg c1] at ho1
   have c1 := eq_false_of_ne_true c1
   refine W.condF rfl c1 ?_
   refine W.exit ?_
   refine thnX ?_
   refine rndX ?_
   refine blkI ?_
   have eo1 := Option.some.inj ho1
   subst eo1
   have ey1 := hy1 _ rfl
   subst ey1
   refine onlyN ?_
   exact ⟨x1, x2, decide (x2 < (x3.length : Int)), x3, rfl, ⟨rfl, rfl, rfl, rfl, rfl, trivial⟩, X_1, (Sep.sel S_1 [0] (by decide))⟩
 rintro φ' hp3 ⟨x4, x5, x6, x7, rfl, hs2, X_3, S_4⟩
 try dsimp only at hp
 refine thnN ?_
 refine W.sub hs2 ?_
 refine W.seq ?_
 refine W.region ?_
 refine RL.opD (by decide) (opv_move rfl rfl) ?_
 refine RL.opD (by decide) (opv_assign rfl rfl) ?_
 refine RL.nil ?_
 refine thnN ?_
 refine W.ret ?_
 have er := Option.some.inj hp
 subst er
 exact Rt.one rfl rfl ⟨rfl, X_3, (Sep.sel S_4 [0] (by decide))⟩

set_option maxRecDepth 20000 in
theorem laws_eqInt64S_ok (h0 : Heap) (u0 : Value) (a0 : List (Int)) (g0 : SL (kI .i64) h0.size h0 u0 a0) (u1 : Value) (a1 : List (Int)) (g1 : SL (kI .i64) h0.size h0 u1 a1) (r : Bool) (hp : laws_eqInt64S a0 a1 = some r) : CallsH Tryd.prog 10 ([u0, u1].toArray ++ [].toArray) h0 (fun v h' => v = (.bool r) ∧ h0 = h') := by
 unfold laws_eqInt64S at hp
 refine callsH_of_W (l := [u0, u1]) (cap := []) 26 Tryd.func10 rfl rfl rfl ?_
 refine W.seq ?_
 refine W.region ?_
 refine RL.opD (by decide) (opv_assign rfl rfl) ?_
 refine RL.nil ?_
 refine thnN ?_
 refine W.seq ?_
 refine W.seq ?_
 refine W.region ?_
 refine RL.opD (by decide) (opv_move rfl rfl) ?_
 refine RL.opD (by decide) (opv_len rfl Tryd.underlying29 rfl g0) ?_
 refine RL.opD (by decide) (opv_move rfl rfl) ?_
 refine RL.opD (by decide) (opv_len rfl Tryd.underlying29 rfl g1) ?_
 refine RL.opD (by decide) (opv_icmp rfl rfl rfl rfl) ?_
 refine RL.nil ?_
 refine thnN ?_
 by_cases c1 : ((a0.length : Int) != (a1.length : Int)) = true
 ·rw [if_pos c1] at hp
  refine W.condT rfl c1 ?_
  refine W.seq ?_
  refine W.region ?_
  refine RL.opD (by decide) (opv_assign rfl rfl) ?_
  refine RL.nil ?_
  refine thnN ?_
  refine W.ret ?_
  refine thnR ?_
  have er := Option.some.inj hp
  subst er
  exact Rt.one rfl rfl ⟨rfl, rfl⟩
 ·rw [if_neg c1] at hp
  have c1 := eq_false_of_ne_true c1
  refine W.condF rfl c1 ?_
  refine W.skip ?_
  refine thnN ?_
  refine W.seq ?_
  refine W.seq ?_
  refine W.region ?_
  refine RL.opD (by decide) (opv_assign rfl rfl) ?_
  refine RL.nil ?_
  refine thnN ?_
  obtain ⟨y1, hy1, hp⟩ := Option.bind_eq_some_iff.1 hp
  refine W.cut (fun φ' h' => ∃ x3, ∃ x4, ∃ x5, y1 = .inl (x3, x4, x5) ∧ Fr.sub [(0, u0), (1, u1), (10, (.bool ((a0.length : Int) != (a1.length : Int)))), (4, (.bool x3)), (5, (.int .i64 x4)), (14, (.bool x5))] φ' ∧ h0 = h') ?_ ?_
  ·refine W.block ?_
   refine W.loopS (fun (s : (Bool × Int)) φ' h' => Fr.sub [(0, u0), (1, u1), (10, (.bool ((a0.length : Int) != (a1.length : Int)))), (4, (.bool s.1)), (5, (.int .i64 s.2))] φ' ∧ h0 = h') hy1 ⟨⟨rfl, rfl, rfl, rfl, rfl, trivial⟩, rfl⟩ ?_
   rintro ⟨x1, x2⟩ φ' _ o1 ⟨hs1, rfl⟩ ho1 hy1
   have hs1 : Fr.sub [(0, u0), (1, u1), (10, (.bool ((a0.length : Int) != (a1.length : Int)))), (4, (.bool x1)), (5, (.int .i64 x2))] φ' := hs1
   have ho1 : laws_eqInt64S.s0 a0 a1 x1 x2 = some o1 := ho1
   unfold laws_eqInt64S.s0 at ho1
   refine W.sub hs1 ?_
   refine W.seq ?_
   refine W.seq ?_
   refine W.region ?_
   refine RL.opD (by decide) (opv_move rfl rfl) ?_
   refine RL.opD (by decide) (opv_move rfl rfl) ?_
   refine RL.opD (by decide) (opv_len rfl Tryd.underlying29 rfl g0) ?_
   refine RL.opD (by decide) (opv_icmp rfl rfl rfl rfl) ?_
   refine RL.nil ?_
   refine thnN ?_
   by_cases c2 : (decide (x2 < (a0.length : Int))) = true
   ·rw [if_pos c2] at ho1
    refine W.condT rfl c2 ?_
    refine W.skip ?_
    refine thnN ?_
    refine W.seq ?_
    refine W.block ?_
    refine W.seq ?_
    refine W.regionH 9 rfl Tryd.mixed ?_
    refine HK.d 0 rfl rfl rfl (by decide) (by decide +kernel) (fun _ _ _ h => h) (opx_move rfl rfl) ?_
    refine HK.d 1 rfl rfl rfl (by decide) (by decide +kernel) (fun _ _ _ h => h) (opx_move rfl rfl) ?_
    obtain ⟨x6, hx6, ho1⟩ := Option.bind_eq_some_iff.1 ho1
    refine HK.f 2 rfl rfl rfl (by decide) (by decide +kernel) (fun _ _ _ h => h) (opx_indexP rfl Tryd.underlying29 (by rw [Tryd.size2]; rfl) rfl rfl g0 hx6) ?_
    intro v1 fv1
    refine HK.d 3 rfl rfl rfl (by decide) (by decide +kernel) (fun _ _ _ h => h) (opx_loadI rfl Tryd.one2 rfl fv1 g0 hx6) ?_
    refine HK.d 4 rfl rfl rfl (by decide) (by decide +kernel) (fun _ _ _ h => h) (opx_move rfl rfl) ?_
    refine HK.d 5 rfl rfl rfl (by decide) (by decide +kernel) (fun _ _ _ h => h) (opx_move rfl rfl) ?_
    obtain ⟨x7, hx7, ho1⟩ := Option.bind_eq_some_iff.1 ho1
    refine HK.f 6 rfl rfl rfl (by decide) (by decide +kernel) (fun _ _ _ h => h) (opx_indexP rfl Tryd.underlying29 (by rw [Tryd.size2]; rfl) rfl rfl g1 hx7) ?_
    intro v2 fv2
    refine HK.d 7 rfl rfl rfl (by decide) (by decide +kernel) (fun _ _ _ h => h) (opx_loadI rfl Tryd.one2 rfl fv2 g1 hx7) ?_
    refine HK.d 8 rfl rfl rfl (by decide) (by decide +kernel) (fun _ _ _ h => h) (opx_icmp rfl rfl rfl rfl) ?_
    refine HK.done (by decide +kernel) ?_
    refine thnN ?_
    by_cases c3 : (x6 != x7) = true
    ·rw [if_pos c3] at ho1
     refine W.condT rfl c3 ?_
     refine W.seq ?_
     refine W.region ?_
     refine RL.opD (by decide) (opv_assign rfl rfl) ?_
     refine RL.nil ?_
     refine thnN ?_
     refine W.ret ?_
     refine blkR ?_
     refine thnR ?_
     have eo1 := Option.some.inj ho1
     subst eo1
     have ey1 := hy1 _ rfl
     subst ey1
     try dsimp only at hp
     refine rndR ?_
     refine blkR ?_
     refine onlyR ?_
     refine thnR ?_
     have er := Option.some.inj hp
     subst er
     exact Rt.one rfl rfl ⟨rfl, rfl⟩
    ·rw [if_neg c3] at ho1
     have c3 := eq_false_of_ne_true c3
     refine W.condF rfl c3 ?_
     refine W.skip ?_
     refine blkN ?_
     refine thnN ?_
     refine W.region ?_
     refine RL.opD (by decide) (opv_move rfl rfl) ?_
     refine RL.opD (by decide) (opv_add rfl rfl rfl) ?_
     refine RL.opD (by decide) (opv_assign rfl rfl) ?_
     refine RL.nil ?_
     have eo1 := Option.some.inj ho1
     subst eo1
     refine rndN (s' := (x1, IntKind.wrap .i64 (x2 + 1))) rfl ?_
     exact ⟨⟨rfl, rfl, rfl, rfl, rfl, trivial⟩, rfl⟩
   ·rw [if_neg c2] at ho1
    have c2 := eq_false_of_ne_true c2
    refine W.condF rfl c2 ?_
    refine W.exit ?_
    refine thnX ?_
    refine rndX ?_
    refine blkI ?_
    have eo1 := Option.some.inj ho1
    subst eo1
    have ey1 := hy1 _ rfl
    subst ey1
    refine onlyN ?_
    exact ⟨x1, x2, decide (x2 < (a0.length : Int)), rfl, ⟨rfl, rfl, rfl, rfl, rfl, rfl, trivial⟩, rfl⟩
  rintro φ' _ ⟨x3, x4, x5, rfl, hs2, rfl⟩
  try dsimp only at hp
  refine thnN ?_
  refine W.sub hs2 ?_
  refine W.seq ?_
  refine W.region ?_
  refine RL.opD (by decide) (opv_assign rfl rfl) ?_
  refine RL.nil ?_
  refine thnN ?_
  refine W.ret ?_
  have er := Option.some.inj hp
  subst er
  exact Rt.one rfl rfl ⟨rfl, rfl⟩

set_option maxRecDepth 20000 in
theorem laws_markInt64S_ok (h0 : Heap) (lo : Nat) (hlo : lo ≤ h0.size) (u0 : Value) (a0 : List (Int)) (a1 : Int) (S0 : Sep [u0.ownBlock] h0.size h0 [ownO (kI .i64) 2 u0 a0]) (hB : ∀ b, some b ∈ [u0.ownBlock] → lo ≤ b) (r : (Int × (List (Int)))) (hp : laws_markInt64S a0 a1 = some r) : CallsH Tryd.prog 15 ([u0, (.int .i64 a1)].toArray ++ [].toArray) h0 (fun v h' => v = (.int .i64 r.1) ∧ Mod [u0.ownBlock] h0 h' ∧ Sep [u0.ownBlock] h0.size h' [ownO (kI .i64) 2 u0 r.2]) := by
 unfold laws_markInt64S at hp
 refine callsH_of_W (l := [u0, (.int .i64 a1)]) (cap := []) 19 Tryd.func15 rfl rfl rfl ?_
 refine W.seq ?_
 refine W.region ?_
 refine RL.opD (by decide) (opv_assign rfl rfl) ?_
 refine RL.nil ?_
 refine thnN ?_
 refine W.seq ?_
 refine W.seq ?_
 refine W.region ?_
 refine RL.opD (by decide) (opv_assign rfl rfl) ?_
 refine RL.nil ?_
 refine thnN ?_
 obtain ⟨y1, hy1, hp⟩ := Option.bind_eq_some_iff.1 hp
 refine W.cut (fun φ' h' => ∃ x4, ∃ x5, ∃ x6, ∃ x7, y1 = (x4, x5, x6, x7) ∧ Fr.sub [(0, u0), (4, (.int .i64 0)), (1, (.int .i64 x4)), (5, (.int .i64 x5)), (9, (.bool x6))] φ' ∧ Mod [u0.ownBlock] h0 h' ∧ Sep [u0.ownBlock] h0.size h' [ownO (kI .i64) 2 u0 x7]) ?_ ?_
 ·refine W.block ?_
  refine W.loopS (fun (s : (Int × Int × (List (Int)))) φ' h' => Fr.sub [(0, u0), (4, (.int .i64 0)), (1, (.int .i64 s.1)), (5, (.int .i64 s.2.1))] φ' ∧ Mod [u0.ownBlock] h0 h' ∧ Sep [u0.ownBlock] h0.size h' [ownO (kI .i64) 2 u0 s.2.2]) hy1 ⟨⟨rfl, rfl, rfl, rfl, trivial⟩, (Mod.refl [u0.ownBlock] h0), (Sep.sel S0 [0] (by decide))⟩ ?_
  rintro ⟨x1, x2, x3⟩ φ' hp1 o1 ⟨hs1, X_1, S_1⟩ ho1 hy1
  have hs1 : Fr.sub [(0, u0), (4, (.int .i64 0)), (1, (.int .i64 x1)), (5, (.int .i64 x2))] φ' := hs1
  have S_1 : Sep [u0.ownBlock] h0.size hp1 [ownO (kI .i64) 2 u0 x3] := S_1
  have ho1 : laws_markInt64S.s0 x1 x2 x3 = some o1 := ho1
  unfold laws_markInt64S.s0 at ho1
  refine W.sub hs1 ?_
  refine W.seq ?_
  refine W.seq ?_
  refine W.region ?_
  refine RL.opD (by decide) (opv_move rfl rfl) ?_
  refine RL.opD (by decide) (opv_move rfl rfl) ?_
  refine RL.opD (by decide) (opv_len rfl Tryd.underlying29 rfl (ownO.read (Sep.at (o := ownO (kI .i64) 2 u0 x3) S_1 0 rfl))) ?_
  refine RL.opD (by decide) (opv_icmp rfl rfl rfl rfl) ?_
  refine RL.nil ?_
  refine thnN ?_
  by_cases c1 : (decide (x2 < (x3.length : Int))) = true
  ·rw [if_pos c1] at ho1
   refine W.condT rfl c1 ?_
   refine W.skip ?_
   refine thnN ?_
   refine W.seq ?_
   refine W.block ?_
   refine W.seq ?_
   refine W.region ?_
   refine RL.opD (by decide) (opv_move rfl rfl) ?_
   refine RL.opD (by decide) (opv_move rfl rfl) ?_
   refine RL.opD (by decide) (opv_move rfl rfl) ?_
   obtain ⟨x8, hx8, ho1⟩ := Option.bind_eq_some_iff.1 ho1
   refine RL.op _ (by decide) (opv_index rfl Tryd.underlying29 (by rw [Tryd.size2]; rfl) rfl rfl (ownO.read (Sep.at (o := ownO (kI .i64) 2 u0 x3) S_1 0 rfl)) hx8) ?_
   rintro v1 _ ⟨fv1, rfl⟩
   obtain ⟨x9, hx9, ho1⟩ := Option.bind_eq_some_iff.1 ho1
   refine RL.op0 _ (opS_storeE (K := (kI .i64)) rfl Tryd.size2 rfl rfl fv1 rfl rfl hx9 (Sep.at (o := ownO (kI .i64) 2 u0 x3) S_1 0 rfl)) ?_
   rintro _ hp2 ⟨rfl, MT_1, T_1⟩
   have S_2 : Sep [u0.ownBlock] h0.size hp1 ([ownO (kI .i64) 2 u0 x3] ++ []) := Sep.sel S_1 [0] (by decide)
   obtain ⟨X_2, S_3⟩ := Sep.turn X_1 S_2 MT_1 T_1
   refine RL.nil ?_
   refine thnN ?_
   refine W.region ?_
   refine RL.opD (by decide) (opv_move rfl rfl) ?_
   refine RL.opD (by decide) (opv_add rfl rfl rfl) ?_
   refine RL.opD (by decide) (opv_assign rfl rfl) ?_
   refine RL.nil ?_
   refine blkN ?_
   refine thnN ?_
   refine W.region ?_
   refine RL.opD (by decide) (opv_move rfl rfl) ?_
   refine RL.opD (by decide) (opv_add rfl rfl rfl) ?_
   refine RL.opD (by decide) (opv_assign rfl rfl) ?_
   refine RL.nil ?_
   have eo1 := Option.some.inj ho1
   subst eo1
   refine rndN (s' := (IntKind.wrap .i64 (x1 + 1), IntKind.wrap .i64 (x2 + 1), x9)) rfl ?_
   exact ⟨⟨rfl, rfl, rfl, rfl, trivial⟩, X_2, (Sep.sel S_3 [0] (by decide))⟩
  ·rw [if_neg c1] at ho1
   have c1 := eq_false_of_ne_true c1
   refine W.condF rfl c1 ?_
   refine W.exit ?_
   refine thnX ?_
   refine rndX ?_
   refine blkI ?_
   have eo1 := Option.some.inj ho1
   subst eo1
   have ey1 := hy1 _ rfl
   subst ey1
   refine onlyN ?_
   exact ⟨x1, x2, decide (x2 < (x3.length : Int)), x3, rfl, ⟨rfl, rfl, rfl, rfl, rfl, trivial⟩, X_1, (Sep.sel S_1 [0] (by decide))⟩
 rintro φ' hp3 ⟨x4, x5, x6, x7, rfl, hs2, X_3, S_4⟩
 try dsimp only at hp
 refine thnN ?_
 refine W.sub hs2 ?_
 refine W.seq ?_
 refine W.region ?_
 refine RL.opD (by decide) (opv_move rfl rfl) ?_
 refine RL.opD (by decide) (opv_assign rfl rfl) ?_
 refine RL.nil ?_
 refine thnN ?_
 refine W.ret ?_
 have er := Option.some.inj hp
 subst er
 exact Rt.one rfl rfl ⟨rfl, X_3, (Sep.sel S_4 [0] (by decide))⟩

set_option maxRecDepth 20000 in
theorem laws_heldInt64S_ok (h0 : Heap) (u0 : Value) (a0 : List (Int)) (g0 : SL (kI .i64) h0.size h0 u0 a0) (a1 : Int) (r : Int) (hp : laws_heldInt64S a0 a1 = some r) : CallsH Tryd.prog 16 ([u0, (.int .i64 a1)].toArray ++ [].toArray) h0 (fun v h' => v = (.int .i64 r) ∧ h0 = h') := by
 unfold laws_heldInt64S at hp
 refine callsH_of_W (l := [u0, (.int .i64 a1)]) (cap := []) 21 Tryd.func16 rfl rfl rfl ?_
 refine W.seq ?_
 refine W.region ?_
 refine RL.opD (by decide) (opv_assign rfl rfl) ?_
 refine RL.nil ?_
 refine thnN ?_
 refine W.seq ?_
 refine W.seq ?_
 refine W.region ?_
 refine RL.opD (by decide) (opv_assign rfl rfl) ?_
 refine RL.nil ?_
 refine thnN ?_
 obtain ⟨y1, hy1, hp⟩ := Option.bind_eq_some_iff.1 hp
 refine W.cut (fun φ' h' => ∃ x4, ∃ x5, ∃ x6, ∃ x7, y1 = .inl (x4, x5, x6, x7) ∧ Fr.sub [(0, u0), (1, (.int .i64 x4)), (4, (.int .i64 x5)), (5, (.int .i64 x6)), (9, (.bool x7))] φ' ∧ h0 = h') ?_ ?_
 ·refine W.block ?_
  refine W.loopS (fun (s : (Int × Int × Int)) φ' h' => Fr.sub [(0, u0), (1, (.int .i64 s.1)), (4, (.int .i64 s.2.1)), (5, (.int .i64 s.2.2))] φ' ∧ h0 = h') hy1 ⟨⟨rfl, rfl, rfl, rfl, trivial⟩, rfl⟩ ?_
  rintro ⟨x1, x2, x3⟩ φ' _ o1 ⟨hs1, rfl⟩ ho1 hy1
  have hs1 : Fr.sub [(0, u0), (1, (.int .i64 x1)), (4, (.int .i64 x2)), (5, (.int .i64 x3))] φ' := hs1
  have ho1 : laws_heldInt64S.s0 a0 x1 x2 x3 = some o1 := ho1
  unfold laws_heldInt64S.s0 at ho1
  refine W.sub hs1 ?_
  refine W.seq ?_
  refine W.seq ?_
  refine W.region ?_
  refine RL.opD (by decide) (opv_move rfl rfl) ?_
  refine RL.opD (by decide) (opv_move rfl rfl) ?_
  refine RL.opD (by decide) (opv_len rfl Tryd.underlying29 rfl g0) ?_
  refine RL.opD (by decide) (opv_icmp rfl rfl rfl rfl) ?_
  refine RL.nil ?_
  refine thnN ?_
  by_cases c1 : (decide (x3 < (a0.length : Int))) = true
  ·rw [if_pos c1] at ho1
   refine W.condT rfl c1 ?_
   refine W.skip ?_
   refine thnN ?_
   refine W.seq ?_
   refine W.block ?_
   refine W.seq ?_
   refine W.seq ?_
   refine W.region ?_
   refine RL.opD (by decide) (opv_move rfl rfl) ?_
   refine RL.opD (by decide) (opv_move rfl rfl) ?_
   obtain ⟨x8, hx8, ho1⟩ := Option.bind_eq_some_iff.1 ho1
   refine RL.op _ (by decide) (opv_index rfl Tryd.underlying29 (by rw [Tryd.size2]; rfl) rfl rfl g0 hx8) ?_
   rintro v1 _ ⟨fv1, rfl⟩
   refine RL.opD (by decide) (opv_loadI rfl Tryd.one2 rfl fv1 g0 hx8) ?_
   refine RL.opD (by decide) (opv_move rfl rfl) ?_
   refine RL.opD (by decide) (opv_icmp rfl rfl rfl rfl) ?_
   refine RL.nil ?_
   refine thnN ?_
   by_cases c2 : (x8 != x1) = true
   ·rw [if_pos c2] at ho1
    refine W.condT rfl c2 ?_
    refine W.seq ?_
    refine W.region ?_
    refine RL.opD (by decide) (opv_assign rfl rfl) ?_
    refine RL.nil ?_
    refine thnN ?_
    refine W.ret ?_
    refine thnR ?_
    refine blkR ?_
    refine thnR ?_
    have eo1 := Option.some.inj ho1
    subst eo1
    have ey1 := hy1 _ rfl
    subst ey1
    try dsimp only at hp
    refine rndR ?_
    refine blkR ?_
    refine onlyR ?_
    refine thnR ?_
    have er := Option.some.inj hp
    subst er
    exact Rt.one rfl rfl ⟨rfl, rfl⟩
   ·rw [if_neg c2] at ho1
    have c2 := eq_false_of_ne_true c2
    refine W.condF rfl c2 ?_
    refine W.skip ?_
    refine thnN ?_
    refine W.region ?_
    refine RL.opD (by decide) (opv_move rfl rfl) ?_
    refine RL.opD (by decide) (opv_add rfl rfl rfl) ?_
    refine RL.opD (by decide) (opv_assign rfl rfl) ?_
    refine RL.nil ?_
    refine blkN ?_
    refine thnN ?_
    refine W.region ?_
    refine RL.opD (by decide) (opv_move rfl rfl) ?_
    refine RL.opD (by decide) (opv_add rfl rfl rfl) ?_
    refine RL.opD (by decide) (opv_assign rfl rfl) ?_
    refine RL.nil ?_
    have eo1 := Option.some.inj ho1
    subst eo1
    refine rndN (s' := (IntKind.wrap .i64 (x1 + 1), x2, IntKind.wrap .i64 (x3 + 1))) rfl ?_
    exact ⟨⟨rfl, rfl, rfl, rfl, trivial⟩, rfl⟩
  ·rw [if_neg c1] at ho1
   have c1 := eq_false_of_ne_true c1
   refine W.condF rfl c1 ?_
   refine W.exit ?_
   refine thnX ?_
   refine rndX ?_
   refine blkI ?_
   have eo1 := Option.some.inj ho1
   subst eo1
   have ey1 := hy1 _ rfl
   subst ey1
   refine onlyN ?_
   exact ⟨x1, x2, x3, decide (x3 < (a0.length : Int)), rfl, ⟨rfl, rfl, rfl, rfl, rfl, trivial⟩, rfl⟩
 rintro φ' _ ⟨x4, x5, x6, x7, rfl, hs2, rfl⟩
 try dsimp only at hp
 refine thnN ?_
 refine W.sub hs2 ?_
 refine W.seq ?_
 refine W.region ?_
 refine RL.opD (by decide) (opv_move rfl rfl) ?_
 refine RL.opD (by decide) (opv_assign rfl rfl) ?_
 refine RL.nil ?_
 refine thnN ?_
 refine W.ret ?_
 have er := Option.some.inj hp
 subst er
 exact Rt.one rfl rfl ⟨rfl, rfl⟩

set_option maxRecDepth 20000 in
theorem laws_szFloat32S_ok (h0 : Heap) (u0 : Value) (a0 : List (Option Nat)) (g0 : SL (kF .f32) h0.size h0 u0 a0) (a1 : Int) (r : Int) (hp : laws_szFloat32S a0 a1 = some r) : CallsH Tryd.prog 17 ([u0, (.int .i64 a1)].toArray ++ [].toArray) h0 (fun v h' => v = (.int .i64 r) ∧ h0 = h') := by
 unfold laws_szFloat32S at hp
 refine callsH_of_W (l := [u0, (.int .i64 a1)]) (cap := []) 12 Tryd.func17 rfl rfl rfl ?_
 refine W.seq ?_
 refine W.region ?_
 refine RL.opD (by decide) (opv_assign rfl rfl) ?_
 refine RL.nil ?_
 refine thnN ?_
 refine W.seq ?_
 refine W.region ?_
 refine RL.opD (by decide) (opv_move rfl rfl) ?_
 refine RL.opD (by decide) (opv_move rfl rfl) ?_
 refine RL.opD (by decide) (opv_len rfl Tryd.underlying22 rfl g0) ?_
 refine RL.opD (by decide) (opv_sub rfl rfl rfl) ?_
 refine RL.opD (by decide) (opv_assign rfl rfl) ?_
 refine RL.nil ?_
 refine thnN ?_
 refine W.seq ?_
 refine W.seq ?_
 refine W.region ?_
 refine RL.opD (by decide) (opv_move rfl rfl) ?_
 refine RL.opD (by decide) (opv_icmp rfl rfl rfl rfl) ?_
 refine RL.nil ?_
 refine thnN ?_
 by_cases c1 : (decide ((IntKind.wrap .i64 (a1 - (a0.length : Int))) < 0)) = true
 ·rw [if_pos c1] at hp
  refine W.condT rfl c1 ?_
  refine W.seq ?_
  refine W.region ?_
  refine RL.opD (by decide) (opv_assign rfl rfl) ?_
  refine RL.nil ?_
  refine thnN ?_
  refine W.ret ?_
  refine thnR ?_
  have er := Option.some.inj hp
  subst er
  exact Rt.one rfl rfl ⟨rfl, rfl⟩
 ·rw [if_neg c1] at hp
  have c1 := eq_false_of_ne_true c1
  refine W.condF rfl c1 ?_
  refine W.skip ?_
  refine thnN ?_
  refine W.seq ?_
  refine W.region ?_
  refine RL.opD (by decide) (opv_move rfl rfl) ?_
  refine RL.opD (by decide) (opv_assign rfl rfl) ?_
  refine RL.nil ?_
  refine thnN ?_
  refine W.ret ?_
  have er := Option.some.inj hp
  subst er
  exact Rt.one rfl rfl ⟨rfl, rfl⟩

set_option maxRecDepth 20000 in
theorem laws_szSheet_ok (h0 : Heap) (a0_0 : Int) (a0_1 : Int) (a0_2 : Bool) (u0_3 : Value) (a0_3 : List (Option Nat)) (g0_3 : SL (kF .f32) h0.size h0 u0_3 a0_3) (u0_4 : Value) (a0_4 : List (Option Nat)) (g0_4 : SL (kF .f32) h0.size h0 u0_4 a0_4) (a1 : Int) (r : Int) (hp : laws_szSheet a0_0 a0_1 a0_2 a0_3 a0_4 a1 = some r) : CallsH Tryd.prog 4 ([(.agg (List.toArray (α := Value) [(.int .i64 a0_0), (.int .i64 a0_1), (.bool a0_2), u0_3, u0_4])), (.int .i64 a1)].toArray ++ [].toArray) h0 (fun v h' => v = (.int .i64 r) ∧ Mod [] h0 h' ∧ Sep [] h0.size h' []) := by
 unfold laws_szSheet at hp
 refine callsH_of_W (l := [(.agg (List.toArray (α := Value) [(.int .i64 a0_0), (.int .i64 a0_1), (.bool a0_2), u0_3, u0_4])), (.int .i64 a1)]) (cap := []) 18 Tryd.func4 rfl rfl rfl ?_
 refine W.seq ?_
 refine W.region ?_
 refine RL.op _ (by decide) (opS_boxed (opv_boxA (cs := [(.int .i64 a0_0), (.int .i64 a0_1), (.bool a0_2), u0_3, u0_4]) rfl rfl)) ?_
 rintro _ hp1 ⟨bb1, rfl, MT_1, T_1⟩
 obtain ⟨X_1, S_1⟩ := Sep.turn0 (Mod.refl [] h0) (Sep.nil [] h0.size h0) MT_1 T_1
 refine RL.opD (by decide) (opv_assign rfl rfl) ?_
 refine RL.nil ?_
 refine thnN ?_
 refine W.seq ?_
 refine W.region ?_
 refine RL.opD (by decide) (opv_fieldAddr rfl Tryd.fo24_3 rfl) ?_
 refine RL.opD (by decide) (opv_loadB rfl Tryd.one22 rfl (Sep.at (o := boxO bb1 [(.int .i64 a0_0), (.int .i64 a0_1), (.bool a0_2), u0_3, u0_4]) S_1 0 rfl) rfl) ?_
 refine RL.opD (by decide) (opv_move rfl rfl) ?_
 obtain ⟨x1, hx1, hp⟩ := Option.bind_eq_some_iff.1 hp
 refine RL.op _ (by decide) (opv_call (cap := []) (laws_szFloat32S_ok _ _ _ (SL.up (SL.mod g0_3 X_1 (Nat.le_refl _) nob) (Nat.le_trans (Nat.le_refl _) (Mod.size X_1))) _ _ hx1) rfl rfl ⟨rfl, rfl, trivial⟩ Tryd.func17 rfl rfl) ?_
 rintro _ _ ⟨rfl, rfl⟩
 refine RL.opD (by decide) (opv_assign rfl rfl) ?_
 refine RL.nil ?_
 refine thnN ?_
 refine W.seq ?_
 refine W.seq ?_
 refine W.region ?_
 refine RL.opD (by decide) (opv_move rfl rfl) ?_
 refine RL.opD (by decide) (opv_icmp rfl rfl rfl rfl) ?_
 refine RL.nil ?_
 refine thnN ?_
 by_cases c1 : (decide (x1 < 0)) = true
 ·rw [if_pos c1] at hp
  refine W.condT rfl c1 ?_
  refine W.seq ?_
  refine W.region ?_
  refine RL.opD (by decide) (opv_assign rfl rfl) ?_
  refine RL.nil ?_
  refine thnN ?_
  refine W.ret ?_
  refine thnR ?_
  have er := Option.some.inj hp
  subst er
  exact Rt.one rfl rfl ⟨rfl, X_1, (Sep.nil _ _ _)⟩
 ·rw [if_neg c1] at hp
  have c1 := eq_false_of_ne_true c1
  refine W.condF rfl c1 ?_
  refine W.skip ?_
  refine thnN ?_
  refine W.seq ?_
  refine W.region ?_
  refine RL.opD (by decide) (opv_fieldAddr rfl Tryd.fo24_4 rfl) ?_
  refine RL.opD (by decide) (opv_loadB rfl Tryd.one22 rfl (Sep.at (o := boxO bb1 [(.int .i64 a0_0), (.int .i64 a0_1), (.bool a0_2), u0_3, u0_4]) S_1 0 rfl) rfl) ?_
  refine RL.opD (by decide) (opv_move rfl rfl) ?_
  obtain ⟨x2, hx2, hp⟩ := Option.bind_eq_some_iff.1 hp
  refine RL.op _ (by decide) (opv_call (cap := []) (laws_szFloat32S_ok _ _ _ (SL.up (SL.mod g0_4 X_1 (Nat.le_refl _) nob) (Nat.le_trans (Nat.le_refl _) (Mod.size X_1))) _ _ hx2) rfl rfl ⟨rfl, rfl, trivial⟩ Tryd.func17 rfl rfl) ?_
  rintro _ _ ⟨rfl, rfl⟩
  refine RL.opD (by decide) (opv_assign rfl rfl) ?_
  refine RL.nil ?_
  refine thnN ?_
  refine W.seq ?_
  refine W.seq ?_
  refine W.region ?_
  refine RL.opD (by decide) (opv_move rfl rfl) ?_
  refine RL.opD (by decide) (opv_icmp rfl rfl rfl rfl) ?_
  refine RL.nil ?_
  refine thnN ?_
  by_cases c2 : (decide (x2 < 0)) = true
  ·rw [if_pos c2] at hp
   refine W.condT rfl c2 ?_
   refine W.seq ?_
   refine W.region ?_
   refine RL.opD (by decide) (opv_assign rfl rfl) ?_
   refine RL.nil ?_
   refine thnN ?_
   refine W.ret ?_
   refine thnR ?_
   have er := Option.some.inj hp
   subst er
   exact Rt.one rfl rfl ⟨rfl, X_1, (Sep.nil _ _ _)⟩
  ·rw [if_neg c2] at hp
   have c2 := eq_false_of_ne_true c2
   refine W.condF rfl c2 ?_
   refine W.skip ?_
   refine thnN ?_
   refine W.seq ?_
   refine W.region ?_
   refine RL.opD (by decide) (opv_move rfl rfl) ?_
   refine RL.opD (by decide) (opv_assign rfl rfl) ?_
   refine RL.nil ?_
   refine thnN ?_
   refine W.ret ?_
   have er := Option.some.inj hp
   subst er
   exact Rt.one rfl rfl ⟨rfl, X_1, (Sep.nil _ _ _)⟩

set_option maxRecDepth 20000 in
theorem laws_szField_ok (h0 : Heap) (u0_0 : Value) (a0_0 : List (Option Nat)) (g0_0 : SL (kF .f32) h0.size h0 u0_0 a0_0) (u0_1 : Value) (a0_1 : List (Option Nat)) (g0_1 : SL (kF .f32) h0.size h0 u0_1 a0_1) (u0_2 : Value) (a0_2 : List (Option Nat)) (g0_2 : SL (kF .f32) h0.size h0 u0_2 a0_2) (a1 : Int) (r : Int) (hp : laws_szField a0_0 a0_1 a0_2 a1 = some r) : CallsH Tryd.prog 5 ([(.agg (List.toArray (α := Value) [u0_0, u0_1, u0_2])), (.int .i64 a1)].toArray ++ [].toArray) h0 (fun v h' => v = (.int .i64 r) ∧ Mod [] h0 h' ∧ Sep [] h0.size h' []) := by
 unfold laws_szField at hp
 refine callsH_of_W (l := [(.agg (List.toArray (α := Value) [u0_0, u0_1, u0_2])), (.int .i64 a1)]) (cap := []) 24 Tryd.func5 rfl rfl rfl ?_
 refine W.seq ?_
 refine W.region ?_
 refine RL.op _ (by decide) (opS_boxed (opv_boxA (cs := [u0_0, u0_1, u0_2]) rfl rfl)) ?_
 rintro _ hp1 ⟨bb1, rfl, MT_1, T_1⟩
 obtain ⟨X_1, S_1⟩ := Sep.turn0 (Mod.refl [] h0) (Sep.nil [] h0.size h0) MT_1 T_1
 refine RL.opD (by decide) (opv_assign rfl rfl) ?_
 refine RL.nil ?_
 refine thnN ?_
 refine W.seq ?_
 refine W.region ?_
 refine RL.opD (by decide) (opv_fieldAddr rfl Tryd.fo26_0 rfl) ?_
 refine RL.opD (by decide) (opv_loadB rfl Tryd.one22 rfl (Sep.at (o := boxO bb1 [u0_0, u0_1, u0_2]) S_1 0 rfl) rfl) ?_
 refine RL.opD (by decide) (opv_move rfl rfl) ?_
 obtain ⟨x1, hx1, hp⟩ := Option.bind_eq_some_iff.1 hp
 refine RL.op _ (by decide) (opv_call (cap := []) (laws_szFloat32S_ok _ _ _ (SL.up (SL.mod g0_0 X_1 (Nat.le_refl _) nob) (Nat.le_trans (Nat.le_refl _) (Mod.size X_1))) _ _ hx1) rfl rfl ⟨rfl, rfl, trivial⟩ Tryd.func17 rfl rfl) ?_
 rintro _ _ ⟨rfl, rfl⟩
 refine RL.opD (by decide) (opv_assign rfl rfl) ?_
 refine RL.nil ?_
 refine thnN ?_
 refine W.seq ?_
 refine W.seq ?_
 refine W.region ?_
 refine RL.opD (by decide) (opv_move rfl rfl) ?_
 refine RL.opD (by decide) (opv_icmp rfl rfl rfl rfl) ?_
 refine RL.nil ?_
 refine thnN ?_
 by_cases c1 : (decide (x1 < 0)) = true
 ·rw [if_pos c1] at hp
  refine W.condT rfl c1 ?_
  refine W.seq ?_
  refine W.region ?_
  refine RL.opD (by decide) (opv_assign rfl rfl) ?_
  refine RL.nil ?_
  refine thnN ?_
  refine W.ret ?_
  refine thnR ?_
  have er := Option.some.inj hp
  subst er
  exact Rt.one rfl rfl ⟨rfl, X_1, (Sep.nil _ _ _)⟩
 ·rw [if_neg c1] at hp
  have c1 := eq_false_of_ne_true c1
  refine W.condF rfl c1 ?_
  refine W.skip ?_
  refine thnN ?_
  refine W.seq ?_
  refine W.region ?_
  refine RL.opD (by decide) (opv_fieldAddr rfl Tryd.fo26_1 rfl) ?_
  refine RL.opD (by decide) (opv_loadB rfl Tryd.one22 rfl (Sep.at (o := boxO bb1 [u0_0, u0_1, u0_2]) S_1 0 rfl) rfl) ?_
  refine RL.opD (by decide) (opv_move rfl rfl) ?_
  obtain ⟨x2, hx2, hp⟩ := Option.bind_eq_some_iff.1 hp
  refine RL.op _ (by decide) (opv_call (cap := []) (laws_szFloat32S_ok _ _ _ (SL.up (SL.mod g0_1 X_1 (Nat.le_refl _) nob) (Nat.le_trans (Nat.le_refl _) (Mod.size X_1))) _ _ hx2) rfl rfl ⟨rfl, rfl, trivial⟩ Tryd.func17 rfl rfl) ?_
  rintro _ _ ⟨rfl, rfl⟩
  refine RL.opD (by decide) (opv_assign rfl rfl) ?_
  refine RL.nil ?_
  refine thnN ?_
  refine W.seq ?_
  refine W.seq ?_
  refine W.region ?_
  refine RL.opD (by decide) (opv_move rfl rfl) ?_
  refine RL.opD (by decide) (opv_icmp rfl rfl rfl rfl) ?_
  refine RL.nil ?_
  refine thnN ?_
  by_cases c2 : (decide (x2 < 0)) = true
  ·rw [if_pos c2] at hp
   refine W.condT rfl c2 ?_
   refine W.seq ?_
   refine W.region ?_
   refine RL.opD (by decide) (opv_assign rfl rfl) ?_
   refine RL.nil ?_
   refine thnN ?_
   refine W.ret ?_
   refine thnR ?_
   have er := Option.some.inj hp
   subst er
   exact Rt.one rfl rfl ⟨rfl, X_1, (Sep.nil _ _ _)⟩
  ·rw [if_neg c2] at hp
   have c2 := eq_false_of_ne_true c2
   refine W.condF rfl c2 ?_
   refine W.skip ?_
   refine thnN ?_
   refine W.seq ?_
   refine W.region ?_
   refine RL.opD (by decide) (opv_fieldAddr rfl Tryd.fo26_2 rfl) ?_
   refine RL.opD (by decide) (opv_loadB rfl Tryd.one22 rfl (Sep.at (o := boxO bb1 [u0_0, u0_1, u0_2]) S_1 0 rfl) rfl) ?_
   refine RL.opD (by decide) (opv_move rfl rfl) ?_
   obtain ⟨x3, hx3, hp⟩ := Option.bind_eq_some_iff.1 hp
   refine RL.op _ (by decide) (opv_call (cap := []) (laws_szFloat32S_ok _ _ _ (SL.up (SL.mod g0_2 X_1 (Nat.le_refl _) nob) (Nat.le_trans (Nat.le_refl _) (Mod.size X_1))) _ _ hx3) rfl rfl ⟨rfl, rfl, trivial⟩ Tryd.func17 rfl rfl) ?_
   rintro _ _ ⟨rfl, rfl⟩
   refine RL.opD (by decide) (opv_assign rfl rfl) ?_
   refine RL.nil ?_
   refine thnN ?_
   refine W.seq ?_
   refine W.seq ?_
   refine W.region ?_
   refine RL.opD (by decide) (opv_move rfl rfl) ?_
   refine RL.opD (by decide) (opv_icmp rfl rfl rfl rfl) ?_
   refine RL.nil ?_
   refine thnN ?_
   by_cases c3 : (decide (x3 < 0)) = true
   ·rw [if_pos c3] at hp
    refine W.condT rfl c3 ?_
    refine W.seq ?_
    refine W.region ?_
    refine RL.opD (by decide) (opv_assign rfl rfl) ?_
    refine RL.nil ?_
    refine thnN ?_
    refine W.ret ?_
    refine thnR ?_
    have er := Option.some.inj hp
    subst er
    exact Rt.one rfl rfl ⟨rfl, X_1, (Sep.nil _ _ _)⟩
   ·rw [if_neg c3] at hp
    have c3 := eq_false_of_ne_true c3
    refine W.condF rfl c3 ?_
    refine W.skip ?_
    refine thnN ?_
    refine W.seq ?_
    refine W.region ?_
    refine RL.opD (by decide) (opv_move rfl rfl) ?_
    refine RL.opD (by decide) (opv_assign rfl rfl) ?_
    refine RL.nil ?_
    refine thnN ?_
    refine W.ret ?_
    have er := Option.some.inj hp
    subst er
    exact Rt.one rfl rfl ⟨rfl, X_1, (Sep.nil _ _ _)⟩

set_option maxRecDepth 20000 in
theorem laws_toSheet_ok (h0 : Heap) (a0_0 : Int) (a0_1 : Int) (a0_2 : Bool) (u0_3 : Value) (a0_3 : List (Option Nat)) (g0_3 : SL (kF .f32) h0.size h0 u0_3 a0_3) (u0_4 : Value) (a0_4 : List (Option Nat)) (g0_4 : SL (kF .f32) h0.size h0 u0_4 a0_4) (r : (Int × Int × Bool × (List (Option Nat)) × (List (Option Nat)))) (hp : laws_toSheet a0_0 a0_1 a0_2 a0_3 a0_4 = some r) : CallsH Tryd.prog 7 ([(.agg (List.toArray (α := Value) [(.int .i64 a0_0), (.int .i64 a0_1), (.bool a0_2), u0_3, u0_4]))].toArray ++ [].toArray) h0 (fun v h' => ∃ w3, ∃ w4, v = (.agg (List.toArray (α := Value) [(.int .i64 r.1), (.int .i64 r.2.1), (.bool r.2.2.1), w3, w4])) ∧ Mod [] h0 h' ∧ Sep [] h0.size h' [ownO (kF .f32) 65 w3 r.2.2.2.1, ownO (kF .f32) 65 w4 r.2.2.2.2]) := by
 unfold laws_toSheet at hp
 refine callsH_of_W (l := [(.agg (List.toArray (α := Value) [(.int .i64 a0_0), (.int .i64 a0_1), (.bool a0_2), u0_3, u0_4]))]) (cap := []) 22 Tryd.func7 rfl rfl rfl ?_
 refine W.seq ?_
 refine W.region ?_
 refine RL.op _ (by decide) (opS_boxed (opv_boxA (cs := [(.int .i64 a0_0), (.int .i64 a0_1), (.bool a0_2), u0_3, u0_4]) rfl rfl)) ?_
 rintro _ hp1 ⟨bb1, rfl, MT_1, T_1⟩
 obtain ⟨X_1, S_1⟩ := Sep.turn0 (Mod.refl [] h0) (Sep.nil [] h0.size h0) MT_1 T_1
 refine RL.op _ (by decide) (opS_boxed (opv_alloc (cs := [(.int .i64 0), (.int .i64 0), (.bool false), (.slice none 0 0), (.slice none 0 0)]) rfl Tryd.zero32 rfl)) ?_
 rintro _ hp2 ⟨bb2, rfl, MT_2, T_2⟩
 obtain ⟨X_2, S_2⟩ := Sep.turn0 X_1 S_1 MT_2 T_2
 refine RL.nil ?_
 refine thnN ?_
 refine W.seq ?_
 refine W.region ?_
 refine RL.op _ (by decide) (opS_boxed (opv_alloc (cs := [(.int .i64 0), (.int .i64 0), (.bool false), (.slice none 0 0), (.slice none 0 0)]) rfl Tryd.zero32 rfl)) ?_
 rintro _ hp3 ⟨bb3, rfl, MT_3, T_3⟩
 obtain ⟨X_3, S_3⟩ := Sep.turn0 X_2 S_2 MT_3 T_3
 refine RL.nil ?_
 refine thnN ?_
 refine W.seq ?_
 refine W.region ?_
 refine RL.opD (by decide) (opv_fieldAddr rfl Tryd.fo24_0 rfl) ?_
 refine RL.opD (by decide) (opv_loadB rfl Tryd.one2 rfl (Sep.at (o := boxO bb1 [(.int .i64 a0_0), (.int .i64 a0_1), (.bool a0_2), u0_3, u0_4]) S_3 2 rfl) rfl) ?_
 refine RL.opD (by decide) (opv_fieldAddr rfl Tryd.fo32_0 rfl) ?_
 refine RL.op0 _ (opS_stored (cs := [(.int .i64 0), (.int .i64 0), (.bool false), (.slice none 0 0), (.slice none 0 0)]) (cs' := [(.int .i64 a0_0), (.int .i64 0), (.bool false), (.slice none 0 0), (.slice none 0 0)]) (opv_storeB (k := 0) (cs := [(.int .i64 0), (.int .i64 0), (.bool false), (.slice none 0 0), (.slice none 0 0)]) rfl Tryd.size2 rfl rfl rfl (Sep.at (o := boxO bb3 [(.int .i64 0), (.int .i64 0), (.bool false), (.slice none 0 0), (.slice none 0 0)]) S_3 0 rfl) (Nat.le_of_ble_eq_true rfl)) (Sep.at (o := boxO bb3 [(.int .i64 0), (.int .i64 0), (.bool false), (.slice none 0 0), (.slice none 0 0)]) S_3 0 rfl)) ?_
 rintro _ hp4 ⟨rfl, MT_4, T_4⟩
 have S_4 : Sep [] h0.size hp3 ([boxO bb3 [(.int .i64 0), (.int .i64 0), (.bool false), (.slice none 0 0), (.slice none 0 0)]] ++ [boxO bb2 [(.int .i64 0), (.int .i64 0), (.bool false), (.slice none 0 0), (.slice none 0 0)], boxO bb1 [(.int .i64 a0_0), (.int .i64 a0_1), (.bool a0_2), u0_3, u0_4]]) := Sep.sel S_3 [0, 1, 2] (by decide)
 obtain ⟨X_4, S_5⟩ := Sep.turn X_3 S_4 MT_4 T_4
 refine RL.nil ?_
 refine thnN ?_
 refine W.seq ?_
 refine W.region ?_
 refine RL.opD (by decide) (opv_fieldAddr rfl Tryd.fo24_1 rfl) ?_
 refine RL.opD (by decide) (opv_loadB rfl Tryd.one2 rfl (Sep.at (o := boxO bb1 [(.int .i64 a0_0), (.int .i64 a0_1), (.bool a0_2), u0_3, u0_4]) S_5 2 rfl) rfl) ?_
 refine RL.opD (by decide) (opv_fieldAddr rfl Tryd.fo32_1 rfl) ?_
 refine RL.op0 _ (opS_stored (cs := [(.int .i64 a0_0), (.int .i64 0), (.bool false), (.slice none 0 0), (.slice none 0 0)]) (cs' := [(.int .i64 a0_0), (.int .i64 a0_1), (.bool false), (.slice none 0 0), (.slice none 0 0)]) (opv_storeB (k := 1) (cs := [(.int .i64 a0_0), (.int .i64 0), (.bool false), (.slice none 0 0), (.slice none 0 0)]) rfl Tryd.size2 rfl rfl rfl (Sep.at (o := boxO bb3 [(.int .i64 a0_0), (.int .i64 0), (.bool false), (.slice none 0 0), (.slice none 0 0)]) S_5 0 rfl) (Nat.le_of_ble_eq_true rfl)) (Sep.at (o := boxO bb3 [(.int .i64 a0_0), (.int .i64 0), (.bool false), (.slice none 0 0), (.slice none 0 0)]) S_5 0 rfl)) ?_
 rintro _ hp5 ⟨rfl, MT_5, T_5⟩
 have S_6 : Sep [] h0.size hp4 ([boxO bb3 [(.int .i64 a0_0), (.int .i64 0), (.bool false), (.slice none 0 0), (.slice none 0 0)]] ++ [boxO bb2 [(.int .i64 0), (.int .i64 0), (.bool false), (.slice none 0 0), (.slice none 0 0)], boxO bb1 [(.int .i64 a0_0), (.int .i64 a0_1), (.bool a0_2), u0_3, u0_4]]) := Sep.sel S_5 [0, 1, 2] (by decide)
 obtain ⟨X_5, S_7⟩ := Sep.turn X_4 S_6 MT_5 T_5
 refine RL.nil ?_
 refine thnN ?_
 refine W.seq ?_
 refine W.region ?_
 refine RL.opD (by decide) (opv_fieldAddr rfl Tryd.fo24_2 rfl) ?_
 refine RL.opD (by decide) (opv_loadB rfl Tryd.one4 rfl (Sep.at (o := boxO bb1 [(.int .i64 a0_0), (.int .i64 a0_1), (.bool a0_2), u0_3, u0_4]) S_7 2 rfl) rfl) ?_
 refine RL.opD (by decide) (opv_fieldAddr rfl Tryd.fo32_2 rfl) ?_
 refine RL.op0 _ (opS_stored (cs := [(.int .i64 a0_0), (.int .i64 a0_1), (.bool false), (.slice none 0 0), (.slice none 0 0)]) (cs' := [(.int .i64 a0_0), (.int .i64 a0_1), (.bool a0_2), (.slice none 0 0), (.slice none 0 0)]) (opv_storeB (k := 2) (cs := [(.int .i64 a0_0), (.int .i64 a0_1), (.bool false), (.slice none 0 0), (.slice none 0 0)]) rfl Tryd.size4 rfl rfl rfl (Sep.at (o := boxO bb3 [(.int .i64 a0_0), (.int .i64 a0_1), (.bool false), (.slice none 0 0), (.slice none 0 0)]) S_7 0 rfl) (Nat.le_of_ble_eq_true rfl)) (Sep.at (o := boxO bb3 [(.int .i64 a0_0), (.int .i64 a0_1), (.bool false), (.slice none 0 0), (.slice none 0 0)]) S_7 0 rfl)) ?_
 rintro _ hp6 ⟨rfl, MT_6, T_6⟩
 have S_8 : Sep [] h0.size hp5 ([boxO bb3 [(.int .i64 a0_0), (.int .i64 a0_1), (.bool false), (.slice none 0 0), (.slice none 0 0)]] ++ [boxO bb2 [(.int .i64 0), (.int .i64 0), (.bool false), (.slice none 0 0), (.slice none 0 0)], boxO bb1 [(.int .i64 a0_0), (.int .i64 a0_1), (.bool a0_2), u0_3, u0_4]]) := Sep.sel S_7 [0, 1, 2] (by decide)
 obtain ⟨X_6, S_9⟩ := Sep.turn X_5 S_8 MT_6 T_6
 refine RL.nil ?_
 refine thnN ?_
 refine W.seq ?_
 refine W.region ?_
 refine RL.opD (by decide) (opv_fieldAddr rfl Tryd.fo24_3 rfl) ?_
 refine RL.opD (by decide) (opv_loadB rfl Tryd.one22 rfl (Sep.at (o := boxO bb1 [(.int .i64 a0_0), (.int .i64 a0_1), (.bool a0_2), u0_3, u0_4]) S_9 2 rfl) rfl) ?_
 obtain ⟨x1, hx1, hp⟩ := Option.bind_eq_some_iff.1 hp
 refine RL.op _ (by decide) (opv_call (cap := []) (laws_toFloat32S_ok _ _ _ (SL.up (SL.mod g0_3 X_6 (Nat.le_refl _) nob) (Nat.le_trans (Nat.le_refl _) (Mod.size X_6))) _ hx1) rfl rfl ⟨rfl, trivial⟩ Tryd.func23 rfl rfl) ?_
 rintro v1 hp7 ⟨MT_7, T_7⟩
 obtain ⟨X_7, S_10⟩ := Sep.turn0 X_6 S_9 MT_7 T_7
 refine RL.opD (by decide) (opv_fieldAddr rfl Tryd.fo32_3 rfl) ?_
 refine RL.op0 _ (opS_stored (cs := [(.int .i64 a0_0), (.int .i64 a0_1), (.bool a0_2), (.slice none 0 0), (.slice none 0 0)]) (cs' := [(.int .i64 a0_0), (.int .i64 a0_1), (.bool a0_2), v1, (.slice none 0 0)]) (opv_storeB (k := 3) (cs := [(.int .i64 a0_0), (.int .i64 a0_1), (.bool a0_2), (.slice none 0 0), (.slice none 0 0)]) rfl Tryd.size22 rfl rfl (ownO.one (Sep.at (o := ownO (kF .f32) 65 v1 x1) S_10 0 rfl)) (Sep.at (o := boxO bb3 [(.int .i64 a0_0), (.int .i64 a0_1), (.bool a0_2), (.slice none 0 0), (.slice none 0 0)]) S_10 1 rfl) (Nat.le_of_ble_eq_true rfl)) (Sep.at (o := boxO bb3 [(.int .i64 a0_0), (.int .i64 a0_1), (.bool a0_2), (.slice none 0 0), (.slice none 0 0)]) S_10 1 rfl)) ?_
 rintro _ hp8 ⟨rfl, MT_8, T_8⟩
 have S_11 : Sep [] h0.size hp7 ([boxO bb3 [(.int .i64 a0_0), (.int .i64 a0_1), (.bool a0_2), (.slice none 0 0), (.slice none 0 0)]] ++ [ownO (kF .f32) 65 v1 x1, boxO bb2 [(.int .i64 0), (.int .i64 0), (.bool false), (.slice none 0 0), (.slice none 0 0)], boxO bb1 [(.int .i64 a0_0), (.int .i64 a0_1), (.bool a0_2), u0_3, u0_4]]) := Sep.sel S_10 [1, 0, 2, 3] (by decide)
 obtain ⟨X_8, S_12⟩ := Sep.turn X_7 S_11 MT_8 T_8
 refine RL.nil ?_
 refine thnN ?_
 refine W.seq ?_
 refine W.region ?_
 refine RL.opD (by decide) (opv_fieldAddr rfl Tryd.fo24_4 rfl) ?_
 refine RL.opD (by decide) (opv_loadB rfl Tryd.one22 rfl (Sep.at (o := boxO bb1 [(.int .i64 a0_0), (.int .i64 a0_1), (.bool a0_2), u0_3, u0_4]) S_12 3 rfl) rfl) ?_
 obtain ⟨x2, hx2, hp⟩ := Option.bind_eq_some_iff.1 hp
 refine RL.op _ (by decide) (opv_call (cap := []) (laws_toFloat32S_ok _ _ _ (SL.up (SL.mod g0_4 X_8 (Nat.le_refl _) nob) (Nat.le_trans (Nat.le_refl _) (Mod.size X_8))) _ hx2) rfl rfl ⟨rfl, trivial⟩ Tryd.func23 rfl rfl) ?_
 rintro v2 hp9 ⟨MT_9, T_9⟩
 obtain ⟨X_9, S_13⟩ := Sep.turn0 X_8 S_12 MT_9 T_9
 refine RL.opD (by decide) (opv_fieldAddr rfl Tryd.fo32_4 rfl) ?_
 refine RL.op0 _ (opS_stored (cs := [(.int .i64 a0_0), (.int .i64 a0_1), (.bool a0_2), v1, (.slice none 0 0)]) (cs' := [(.int .i64 a0_0), (.int .i64 a0_1), (.bool a0_2), v1, v2]) (opv_storeB (k := 4) (cs := [(.int .i64 a0_0), (.int .i64 a0_1), (.bool a0_2), v1, (.slice none 0 0)]) rfl Tryd.size22 rfl rfl (ownO.one (Sep.at (o := ownO (kF .f32) 65 v2 x2) S_13 0 rfl)) (Sep.at (o := boxO bb3 [(.int .i64 a0_0), (.int .i64 a0_1), (.bool a0_2), v1, (.slice none 0 0)]) S_13 1 rfl) (Nat.le_of_ble_eq_true rfl)) (Sep.at (o := boxO bb3 [(.int .i64 a0_0), (.int .i64 a0_1), (.bool a0_2), v1, (.slice none 0 0)]) S_13 1 rfl)) ?_
 rintro _ hp10 ⟨rfl, MT_10, T_10⟩
 have S_14 : Sep [] h0.size hp9 ([boxO bb3 [(.int .i64 a0_0), (.int .i64 a0_1), (.bool a0_2), v1, (.slice none 0 0)]] ++ [ownO (kF .f32) 65 v2 x2, ownO (kF .f32) 65 v1 x1, boxO bb2 [(.int .i64 0), (.int .i64 0), (.bool false), (.slice none 0 0), (.slice none 0 0)], boxO bb1 [(.int .i64 a0_0), (.int .i64 a0_1), (.bool a0_2), u0_3, u0_4]]) := Sep.sel S_13 [1, 0, 2, 3, 4] (by decide)
 obtain ⟨X_10, S_15⟩ := Sep.turn X_9 S_14 MT_10 T_10
 refine RL.nil ?_
 refine thnN ?_
 refine W.seq ?_
 refine W.region ?_
 refine RL.opD (by decide) (opv_loadA (us := [(.int .i64 a0_0), (.int .i64 a0_1), (.bool a0_2), v1, v2]) rfl Tryd.agg32 Tryd.size32 rfl (Sep.at (o := boxO bb3 [(.int .i64 a0_0), (.int .i64 a0_1), (.bool a0_2), v1, v2]) S_15 0 rfl) rfl rfl) ?_
 refine RL.op0 _ (opS_stored (cs := [(.int .i64 0), (.int .i64 0), (.bool false), (.slice none 0 0), (.slice none 0 0)]) (cs' := [(.int .i64 a0_0), (.int .i64 a0_1), (.bool a0_2), v1, v2]) (opv_storeA (us := [(.int .i64 a0_0), (.int .i64 a0_1), (.bool a0_2), v1, v2]) rfl Tryd.size32 rfl rfl (oneAll rfl (oneAll rfl (oneAll rfl (oneAll (ownO.one (Sep.at (o := ownO (kF .f32) 65 v1 x1) S_15 2 rfl)) (oneAll (ownO.one (Sep.at (o := ownO (kF .f32) 65 v2 x2) S_15 1 rfl)) rfl))))) (Sep.at (o := boxO bb2 [(.int .i64 0), (.int .i64 0), (.bool false), (.slice none 0 0), (.slice none 0 0)]) S_15 3 rfl) rfl rfl) (Sep.at (o := boxO bb2 [(.int .i64 0), (.int .i64 0), (.bool false), (.slice none 0 0), (.slice none 0 0)]) S_15 3 rfl)) ?_
 rintro _ hp11 ⟨rfl, MT_11, T_11⟩
 have S_16 : Sep [] h0.size hp10 ([boxO bb2 [(.int .i64 0), (.int .i64 0), (.bool false), (.slice none 0 0), (.slice none 0 0)]] ++ [boxO bb3 [(.int .i64 a0_0), (.int .i64 a0_1), (.bool a0_2), v1, v2], ownO (kF .f32) 65 v2 x2, ownO (kF .f32) 65 v1 x1, boxO bb1 [(.int .i64 a0_0), (.int .i64 a0_1), (.bool a0_2), u0_3, u0_4]]) := Sep.sel S_15 [3, 0, 1, 2, 4] (by decide)
 obtain ⟨X_11, S_17⟩ := Sep.turn X_10 S_16 MT_11 T_11
 refine RL.nil ?_
 refine thnN ?_
 refine W.ret ?_
 have er := Option.some.inj hp
 subst er
 exact Rt.cell1 rfl rfl Tryd.agg32 Tryd.size32 (Sep.at (o := boxO bb2 [(.int .i64 a0_0), (.int .i64 a0_1), (.bool a0_2), v1, v2]) S_17 0 rfl) rfl ⟨v1, v2, rfl, X_11, (Sep.sel S_17 [3, 2] (by decide))⟩

set_option maxRecDepth 20000 in
theorem laws_eqSheet_ok (h0 : Heap) (a0_0 : Int) (a0_1 : Int) (a0_2 : Bool) (u0_3 : Value) (a0_3 : List (Option Nat)) (g0_3 : SL (kF .f32) h0.size h0 u0_3 a0_3) (u0_4 : Value) (a0_4 : List (Option Nat)) (g0_4 : SL (kF .f32) h0.size h0 u0_4 a0_4) (a1_0 : Int) (a1_1 : Int) (a1_2 : Bool) (u1_3 : Value) (a1_3 : List (Option Nat)) (g1_3 : SL (kF .f32) h0.size h0 u1_3 a1_3) (u1_4 : Value) (a1_4 : List (Option Nat)) (g1_4 : SL (kF .f32) h0.size h0 u1_4 a1_4) (r : Bool) (hp : laws_eqSheet a0_0 a0_1 a0_2 a0_3 a0_4 a1_0 a1_1 a1_2 a1_3 a1_4 = some r) : CallsH Tryd.prog 11 ([(.agg (List.toArray (α := Value) [(.int .i64 a0_0), (.int .i64 a0_1), (.bool a0_2), u0_3, u0_4])), (.agg (List.toArray (α := Value) [(.int .i64 a1_0), (.int .i64 a1_1), (.bool a1_2), u1_3, u1_4]))].toArray ++ [].toArray) h0 (fun v h' => v = (.bool r) ∧ Mod [] h0 h' ∧ Sep [] h0.size h' []) := by
 unfold laws_eqSheet at hp
 refine callsH_of_W (l := [(.agg (List.toArray (α := Value) [(.int .i64 a0_0), (.int .i64 a0_1), (.bool a0_2), u0_3, u0_4])), (.agg (List.toArray (α := Value) [(.int .i64 a1_0), (.int .i64 a1_1), (.bool a1_2), u1_3, u1_4]))]) (cap := []) 32 Tryd.func11 rfl rfl rfl ?_
 refine W.seq ?_
 refine W.region ?_
 refine RL.op _ (by decide) (opS_boxed (opv_boxA (cs := [(.int .i64 a0_0), (.int .i64 a0_1), (.bool a0_2), u0_3, u0_4]) rfl rfl)) ?_
 rintro _ hp1 ⟨bb1, rfl, MT_1, T_1⟩
 obtain ⟨X_1, S_1⟩ := Sep.turn0 (Mod.refl [] h0) (Sep.nil [] h0.size h0) MT_1 T_1
 refine RL.op _ (by decide) (opS_boxed (opv_boxA (cs := [(.int .i64 a1_0), (.int .i64 a1_1), (.bool a1_2), u1_3, u1_4]) rfl rfl)) ?_
 rintro _ hp2 ⟨bb2, rfl, MT_2, T_2⟩
 obtain ⟨X_2, S_2⟩ := Sep.turn0 X_1 S_1 MT_2 T_2
 refine RL.opD (by decide) (opv_assign rfl rfl) ?_
 refine RL.nil ?_
 refine thnN ?_
 refine W.seq ?_
 refine W.seq ?_
 refine W.region ?_
 refine RL.opD (by decide) (opv_fieldAddr rfl Tryd.fo32_0 rfl) ?_
 refine RL.opD (by decide) (opv_loadB rfl Tryd.one2 rfl (Sep.at (o := boxO bb1 [(.int .i64 a0_0), (.int .i64 a0_1), (.bool a0_2), u0_3, u0_4]) S_2 1 rfl) rfl) ?_
 refine RL.opD (by decide) (opv_fieldAddr rfl Tryd.fo32_0 rfl) ?_
 refine RL.opD (by decide) (opv_loadB rfl Tryd.one2 rfl (Sep.at (o := boxO bb2 [(.int .i64 a1_0), (.int .i64 a1_1), (.bool a1_2), u1_3, u1_4]) S_2 0 rfl) rfl) ?_
 refine RL.opD (by decide) (opv_icmp rfl rfl rfl rfl) ?_
 refine RL.nil ?_
 refine thnN ?_
 by_cases c1 : (a0_0 != a1_0) = true
 ·rw [if_pos c1] at hp
  refine W.condT rfl c1 ?_
  refine W.seq ?_
  refine W.region ?_
  refine RL.opD (by decide) (opv_assign rfl rfl) ?_
  refine RL.nil ?_
  refine thnN ?_
  refine W.ret ?_
  refine thnR ?_
  have er := Option.some.inj hp
  subst er
  exact Rt.one rfl rfl ⟨rfl, X_2, (Sep.nil _ _ _)⟩
 ·rw [if_neg c1] at hp
  have c1 := eq_false_of_ne_true c1
  refine W.condF rfl c1 ?_
  refine W.skip ?_
  refine thnN ?_
  refine W.seq ?_
  refine W.seq ?_
  refine W.region ?_
  refine RL.opD (by decide) (opv_fieldAddr rfl Tryd.fo32_1 rfl) ?_
  refine RL.opD (by decide) (opv_loadB rfl Tryd.one2 rfl (Sep.at (o := boxO bb1 [(.int .i64 a0_0), (.int .i64 a0_1), (.bool a0_2), u0_3, u0_4]) S_2 1 rfl) rfl) ?_
  refine RL.opD (by decide) (opv_fieldAddr rfl Tryd.fo32_1 rfl) ?_
  refine RL.opD (by decide) (opv_loadB rfl Tryd.one2 rfl (Sep.at (o := boxO bb2 [(.int .i64 a1_0), (.int .i64 a1_1), (.bool a1_2), u1_3, u1_4]) S_2 0 rfl) rfl) ?_
  refine RL.opD (by decide) (opv_icmp rfl rfl rfl rfl) ?_
  refine RL.nil ?_
  refine thnN ?_
  by_cases c2 : (a0_1 != a1_1) = true
  ·rw [if_pos c2] at hp
   refine W.condT rfl c2 ?_
   refine W.seq ?_
   refine W.region ?_
   refine RL.opD (by decide) (opv_assign rfl rfl) ?_
   refine RL.nil ?_
   refine thnN ?_
   refine W.ret ?_
   refine thnR ?_
   have er := Option.some.inj hp
   subst er
   exact Rt.one rfl rfl ⟨rfl, X_2, (Sep.nil _ _ _)⟩
  ·rw [if_neg c2] at hp
   have c2 := eq_false_of_ne_true c2
   refine W.condF rfl c2 ?_
   refine W.skip ?_
   refine thnN ?_
   refine W.seq ?_
   refine W.seq ?_
   refine W.region ?_
   refine RL.opD (by decide) (opv_fieldAddr rfl Tryd.fo32_2 rfl) ?_
   refine RL.opD (by decide) (opv_loadB rfl Tryd.one4 rfl (Sep.at (o := boxO bb1 [(.int .i64 a0_0), (.int .i64 a0_1), (.bool a0_2), u0_3, u0_4]) S_2 1 rfl) rfl) ?_
   refine RL.opD (by decide) (opv_fieldAddr rfl Tryd.fo32_2 rfl) ?_
   refine RL.opD (by decide) (opv_loadB rfl Tryd.one4 rfl (Sep.at (o := boxO bb2 [(.int .i64 a1_0), (.int .i64 a1_1), (.bool a1_2), u1_3, u1_4]) S_2 0 rfl) rfl) ?_
   refine RL.opD (by decide) (opv_bcmp rfl rfl Tryd.underlying4 rfl rfl) ?_
   refine RL.nil ?_
   refine thnN ?_
   by_cases c3 : (a0_2 != a1_2) = true
   ·rw [if_pos c3] at hp
    refine W.condT rfl c3 ?_
    refine W.seq ?_
    refine W.region ?_
    refine RL.opD (by decide) (opv_assign rfl rfl) ?_
    refine RL.nil ?_
    refine thnN ?_
    refine W.ret ?_
    refine thnR ?_
    have er := Option.some.inj hp
    subst er
    exact Rt.one rfl rfl ⟨rfl, X_2, (Sep.nil _ _ _)⟩
   ·rw [if_neg c3] at hp
    have c3 := eq_false_of_ne_true c3
    refine W.condF rfl c3 ?_
    refine W.skip ?_
    refine thnN ?_
    refine W.seq ?_
    refine W.seq ?_
    refine W.region ?_
    refine RL.opD (by decide) (opv_fieldAddr rfl Tryd.fo32_3 rfl) ?_
    refine RL.opD (by decide) (opv_loadB rfl Tryd.one22 rfl (Sep.at (o := boxO bb1 [(.int .i64 a0_0), (.int .i64 a0_1), (.bool a0_2), u0_3, u0_4]) S_2 1 rfl) rfl) ?_
    refine RL.opD (by decide) (opv_fieldAddr rfl Tryd.fo32_3 rfl) ?_
    refine RL.opD (by decide) (opv_loadB rfl Tryd.one22 rfl (Sep.at (o := boxO bb2 [(.int .i64 a1_0), (.int .i64 a1_1), (.bool a1_2), u1_3, u1_4]) S_2 0 rfl) rfl) ?_
    obtain ⟨x1, hx1, hp⟩ := Option.bind_eq_some_iff.1 hp
    refine RL.op _ (by decide) (opv_call (cap := []) (laws_eqFloat32S_ok _ _ _ (SL.up (SL.mod g0_3 X_2 (Nat.le_refl _) nob) (Nat.le_trans (Nat.le_refl _) (Mod.size X_2))) _ _ (SL.up (SL.mod g1_3 X_2 (Nat.le_refl _) nob) (Nat.le_trans (Nat.le_refl _) (Mod.size X_2))) _ hx1) rfl rfl ⟨rfl, rfl, trivial⟩ Tryd.func29 rfl rfl) ?_
    rintro _ _ ⟨rfl, rfl⟩
    refine RL.opD (by decide) (opv_not rfl rfl) ?_
    refine RL.nil ?_
    refine thnN ?_
    by_cases c4 : (!x1) = true
    ·rw [if_pos c4] at hp
     refine W.condT rfl c4 ?_
     refine W.seq ?_
     refine W.region ?_
     refine RL.opD (by decide) (opv_assign rfl rfl) ?_
     refine RL.nil ?_
     refine thnN ?_
     refine W.ret ?_
     refine thnR ?_
     have er := Option.some.inj hp
     subst er
     exact Rt.one rfl rfl ⟨rfl, X_2, (Sep.nil _ _ _)⟩
    ·rw [if_neg c4] at hp
     have c4 := eq_false_of_ne_true c4
     refine W.condF rfl c4 ?_
     refine W.skip ?_
     refine thnN ?_
     refine W.seq ?_
     refine W.seq ?_
     refine W.region ?_
     refine RL.opD (by decide) (opv_fieldAddr rfl Tryd.fo32_4 rfl) ?_
     refine RL.opD (by decide) (opv_loadB rfl Tryd.one22 rfl (Sep.at (o := boxO bb1 [(.int .i64 a0_0), (.int .i64 a0_1), (.bool a0_2), u0_3, u0_4]) S_2 1 rfl) rfl) ?_
     refine RL.opD (by decide) (opv_fieldAddr rfl Tryd.fo32_4 rfl) ?_
     refine RL.opD (by decide) (opv_loadB rfl Tryd.one22 rfl (Sep.at (o := boxO bb2 [(.int .i64 a1_0), (.int .i64 a1_1), (.bool a1_2), u1_3, u1_4]) S_2 0 rfl) rfl) ?_
     obtain ⟨x2, hx2, hp⟩ := Option.bind_eq_some_iff.1 hp
     refine RL.op _ (by decide) (opv_call (cap := []) (laws_eqFloat32S_ok _ _ _ (SL.up (SL.mod g0_4 X_2 (Nat.le_refl _) nob) (Nat.le_trans (Nat.le_refl _) (Mod.size X_2))) _ _ (SL.up (SL.mod g1_4 X_2 (Nat.le_refl _) nob) (Nat.le_trans (Nat.le_refl _) (Mod.size X_2))) _ hx2) rfl rfl ⟨rfl, rfl, trivial⟩ Tryd.func29 rfl rfl) ?_
     rintro _ _ ⟨rfl, rfl⟩
     refine RL.opD (by decide) (opv_not rfl rfl) ?_
     refine RL.nil ?_
     refine thnN ?_
     by_cases c5 : (!x2) = true
     ·rw [if_pos c5] at hp
      refine W.condT rfl c5 ?_
      refine W.seq ?_
      refine W.region ?_
      refine RL.opD (by decide) (opv_assign rfl rfl) ?_
      refine RL.nil ?_
      refine thnN ?_
      refine W.ret ?_
      refine thnR ?_
      have er := Option.some.inj hp
      subst er
      exact Rt.one rfl rfl ⟨rfl, X_2, (Sep.nil _ _ _)⟩
     ·rw [if_neg c5] at hp
      have c5 := eq_false_of_ne_true c5
      refine W.condF rfl c5 ?_
      refine W.skip ?_
      refine thnN ?_
      refine W.seq ?_
      refine W.region ?_
      refine RL.opD (by decide) (opv_assign rfl rfl) ?_
      refine RL.nil ?_
      refine thnN ?_
      refine W.ret ?_
      have er := Option.some.inj hp
      subst er
      exact Rt.one rfl rfl ⟨rfl, X_2, (Sep.nil _ _ _)⟩

set_option maxRecDepth 20000 in
theorem laws_markSheet_ok (h0 : Heap) (lo : Nat) (hlo : lo ≤ h0.size) (a0_0 : Int) (a0_1 : Int) (a0_2 : Bool) (u0_3 : Value) (a0_3 : List (Option Nat)) (u0_4 : Value) (a0_4 : List (Option Nat)) (a1 : Int) (S0 : Sep [u0_3.ownBlock, u0_4.ownBlock] h0.size h0 [ownO (kF .f32) 65 u0_3 a0_3, ownO (kF .f32) 65 u0_4 a0_4]) (hB : ∀ b, some b ∈ [u0_3.ownBlock, u0_4.ownBlock] → lo ≤ b) (r : (Int × (List (Option Nat)) × (List (Option Nat)))) (hp : laws_markSheet a0_0 a0_1 a0_2 a0_3 a0_4 a1 = some r) : CallsH Tryd.prog 13 ([(.agg (List.toArray (α := Value) [(.int .i64 a0_0), (.int .i64 a0_1), (.bool a0_2), u0_3, u0_4])), (.int .i64 a1)].toArray ++ [].toArray) h0 (fun v h' => v = (.int .i64 r.1) ∧ Mod [u0_3.ownBlock, u0_4.ownBlock] h0 h' ∧ Sep [u0_3.ownBlock, u0_4.ownBlock] h0.size h' [ownO (kF .f32) 65 u0_3 r.2.1, ownO (kF .f32) 65 u0_4 r.2.2]) := by
 unfold laws_markSheet at hp
 refine callsH_of_W (l := [(.agg (List.toArray (α := Value) [(.int .i64 a0_0), (.int .i64 a0_1), (.bool a0_2), u0_3, u0_4])), (.int .i64 a1)]) (cap := []) 14 Tryd.func13 rfl rfl rfl ?_
 refine W.seq ?_
 refine W.region ?_
 refine RL.op _ (by decide) (opS_boxed (opv_boxA (cs := [(.int .i64 a0_0), (.int .i64 a0_1), (.bool a0_2), u0_3, u0_4]) rfl rfl)) ?_
 rintro _ hp1 ⟨bb1, rfl, MT_1, T_1⟩
 obtain ⟨X_1, S_1⟩ := Sep.turn0 (Mod.refl [u0_3.ownBlock, u0_4.ownBlock] h0) S0 MT_1 T_1
 refine RL.opD (by decide) (opv_assign rfl rfl) ?_
 refine RL.nil ?_
 refine thnN ?_
 refine W.seq ?_
 refine W.region ?_
 refine RL.opD (by decide) (opv_fieldAddr rfl Tryd.fo32_3 rfl) ?_
 refine RL.opD (by decide) (opv_loadB rfl Tryd.one22 rfl (Sep.at (o := boxO bb1 [(.int .i64 a0_0), (.int .i64 a0_1), (.bool a0_2), u0_3, u0_4]) S_1 0 rfl) rfl) ?_
 refine RL.opD (by decide) (opv_move rfl rfl) ?_
 obtain ⟨x1, hx1, hp⟩ := Option.bind_eq_some_iff.1 hp
 have S_3 : Sep [u0_3.ownBlock, u0_4.ownBlock] h0.size hp1 [ownO (kF .f32) 65 u0_3 a0_3] := Sep.sel S_1 [1] (by decide)
 have S_2 : Sep [u0_3.ownBlock] hp1.size hp1 [ownO (kF .f32) 65 u0_3 a0_3] := Sep.own S_3 _
 refine RL.op _ (by decide) (opv_call (cap := []) (laws_markFloat32S_ok _ lo (Nat.le_trans hlo (Mod.size X_1)) _ _ _ S_2 (Sep.ge (L := [ownO (kF .f32) 65 u0_3 a0_3]) S_3 hlo hB) _ hx1) rfl rfl ⟨rfl, rfl, trivial⟩ Tryd.func30 rfl rfl) ?_
 rintro _ hp2 ⟨rfl, MT_2, T_2⟩
 have S_4 : Sep [u0_3.ownBlock, u0_4.ownBlock] h0.size hp1 ([ownO (kF .f32) 65 u0_3 a0_3] ++ [boxO bb1 [(.int .i64 a0_0), (.int .i64 a0_1), (.bool a0_2), u0_3, u0_4], ownO (kF .f32) 65 u0_4 a0_4]) := Sep.sel S_1 [1, 0, 2] (by decide)
 obtain ⟨X_2, S_5⟩ := Sep.turn X_1 S_4 MT_2 T_2
 refine RL.opD (by decide) (opv_assign rfl rfl) ?_
 refine RL.nil ?_
 refine thnN ?_
 refine W.seq ?_
 refine W.region ?_
 refine RL.opD (by decide) (opv_fieldAddr rfl Tryd.fo32_4 rfl) ?_
 refine RL.opD (by decide) (opv_loadB rfl Tryd.one22 rfl (Sep.at (o := boxO bb1 [(.int .i64 a0_0), (.int .i64 a0_1), (.bool a0_2), u0_3, u0_4]) S_5 1 rfl) rfl) ?_
 refine RL.opD (by decide) (opv_move rfl rfl) ?_
 obtain ⟨x2, hx2, hp⟩ := Option.bind_eq_some_iff.1 hp
 have S_7 : Sep [u0_3.ownBlock, u0_4.ownBlock] h0.size hp2 [ownO (kF .f32) 65 u0_4 a0_4] := Sep.sel S_5 [2] (by decide)
 have S_6 : Sep [u0_4.ownBlock] hp2.size hp2 [ownO (kF .f32) 65 u0_4 a0_4] := Sep.own S_7 _
 refine RL.op _ (by decide) (opv_call (cap := []) (laws_markFloat32S_ok _ lo (Nat.le_trans hlo (Mod.size X_2)) _ _ _ S_6 (Sep.ge (L := [ownO (kF .f32) 65 u0_4 a0_4]) S_7 hlo hB) _ hx2) rfl rfl ⟨rfl, rfl, trivial⟩ Tryd.func30 rfl rfl) ?_
 rintro _ hp3 ⟨rfl, MT_3, T_3⟩
 have S_8 : Sep [u0_3.ownBlock, u0_4.ownBlock] h0.size hp2 ([ownO (kF .f32) 65 u0_4 a0_4] ++ [ownO (kF .f32) 65 u0_3 x1.2, boxO bb1 [(.int .i64 a0_0), (.int .i64 a0_1), (.bool a0_2), u0_3, u0_4]]) := Sep.sel S_5 [2, 0, 1] (by decide)
 obtain ⟨X_3, S_9⟩ := Sep.turn X_2 S_8 MT_3 T_3
 refine RL.opD (by decide) (opv_assign rfl rfl) ?_
 refine RL.nil ?_
 refine thnN ?_
 refine W.seq ?_
 refine W.region ?_
 refine RL.opD (by decide) (opv_move rfl rfl) ?_
 refine RL.opD (by decide) (opv_assign rfl rfl) ?_
 refine RL.nil ?_
 refine thnN ?_
 refine W.ret ?_
 have er := Option.some.inj hp
 subst er
 exact Rt.one rfl rfl ⟨rfl, X_3, (Sep.sel S_9 [1, 0] (by decide))⟩

set_option maxRecDepth 20000 in
theorem laws_toField_ok (h0 : Heap) (u0_0 : Value) (a0_0 : List (Option Nat)) (g0_0 : SL (kF .f32) h0.size h0 u0_0 a0_0) (u0_1 : Value) (a0_1 : List (Option Nat)) (g0_1 : SL (kF .f32) h0.size h0 u0_1 a0_1) (u0_2 : Value) (a0_2 : List (Option Nat)) (g0_2 : SL (kF .f32) h0.size h0 u0_2 a0_2) (r : ((List (Option Nat)) × (List (Option Nat)) × (List (Option Nat)))) (hp : laws_toField a0_0 a0_1 a0_2 = some r) : CallsH Tryd.prog 8 ([(.agg (List.toArray (α := Value) [u0_0, u0_1, u0_2]))].toArray ++ [].toArray) h0 (fun v h' => ∃ w0, ∃ w1, ∃ w2, v = (.agg (List.toArray (α := Value) [w0, w1, w2])) ∧ Mod [] h0 h' ∧ Sep [] h0.size h' [ownO (kF .f32) 65 w0 r.1, ownO (kF .f32) 65 w1 r.2.1, ownO (kF .f32) 65 w2 r.2.2]) := by
 unfold laws_toField at hp
 refine callsH_of_W (l := [(.agg (List.toArray (α := Value) [u0_0, u0_1, u0_2]))]) (cap := []) 17 Tryd.func8 rfl rfl rfl ?_
 refine W.seq ?_
 refine W.region ?_
 refine RL.op _ (by decide) (opS_boxed (opv_boxA (cs := [u0_0, u0_1, u0_2]) rfl rfl)) ?_
 rintro _ hp1 ⟨bb1, rfl, MT_1, T_1⟩
 obtain ⟨X_1, S_1⟩ := Sep.turn0 (Mod.refl [] h0) (Sep.nil [] h0.size h0) MT_1 T_1
 refine RL.op _ (by decide) (opS_boxed (opv_alloc (cs := [(.slice none 0 0), (.slice none 0 0), (.slice none 0 0)]) rfl Tryd.zero34 rfl)) ?_
 rintro _ hp2 ⟨bb2, rfl, MT_2, T_2⟩
 obtain ⟨X_2, S_2⟩ := Sep.turn0 X_1 S_1 MT_2 T_2
 refine RL.nil ?_
 refine thnN ?_
 refine W.seq ?_
 refine W.region ?_
 refine RL.op _ (by decide) (opS_boxed (opv_alloc (cs := [(.slice none 0 0), (.slice none 0 0), (.slice none 0 0)]) rfl Tryd.zero34 rfl)) ?_
 rintro _ hp3 ⟨bb3, rfl, MT_3, T_3⟩
 obtain ⟨X_3, S_3⟩ := Sep.turn0 X_2 S_2 MT_3 T_3
 refine RL.nil ?_
 refine thnN ?_
 refine W.seq ?_
 refine W.region ?_
 refine RL.opD (by decide) (opv_fieldAddr rfl Tryd.fo26_0 rfl) ?_
 refine RL.opD (by decide) (opv_loadB rfl Tryd.one22 rfl (Sep.at (o := boxO bb1 [u0_0, u0_1, u0_2]) S_3 2 rfl) rfl) ?_
 obtain ⟨x1, hx1, hp⟩ := Option.bind_eq_some_iff.1 hp
 refine RL.op _ (by decide) (opv_call (cap := []) (laws_toFloat32S_ok _ _ _ (SL.up (SL.mod g0_0 X_3 (Nat.le_refl _) nob) (Nat.le_trans (Nat.le_refl _) (Mod.size X_3))) _ hx1) rfl rfl ⟨rfl, trivial⟩ Tryd.func23 rfl rfl) ?_
 rintro v1 hp4 ⟨MT_4, T_4⟩
 obtain ⟨X_4, S_4⟩ := Sep.turn0 X_3 S_3 MT_4 T_4
 refine RL.opD (by decide) (opv_fieldAddr rfl Tryd.fo34_0 rfl) ?_
 refine RL.op0 _ (opS_stored (cs := [(.slice none 0 0), (.slice none 0 0), (.slice none 0 0)]) (cs' := [v1, (.slice none 0 0), (.slice none 0 0)]) (opv_storeB (k := 0) (cs := [(.slice none 0 0), (.slice none 0 0), (.slice none 0 0)]) rfl Tryd.size22 rfl rfl (ownO.one (Sep.at (o := ownO (kF .f32) 65 v1 x1) S_4 0 rfl)) (Sep.at (o := boxO bb3 [(.slice none 0 0), (.slice none 0 0), (.slice none 0 0)]) S_4 1 rfl) (Nat.le_of_ble_eq_true rfl)) (Sep.at (o := boxO bb3 [(.slice none 0 0), (.slice none 0 0), (.slice none 0 0)]) S_4 1 rfl)) ?_
 rintro _ hp5 ⟨rfl, MT_5, T_5⟩
 have S_5 : Sep [] h0.size hp4 ([boxO bb3 [(.slice none 0 0), (.slice none 0 0), (.slice none 0 0)]] ++ [ownO (kF .f32) 65 v1 x1, boxO bb2 [(.slice none 0 0), (.slice none 0 0), (.slice none 0 0)], boxO bb1 [u0_0, u0_1, u0_2]]) := Sep.sel S_4 [1, 0, 2, 3] (by decide)
 obtain ⟨X_5, S_6⟩ := Sep.turn X_4 S_5 MT_5 T_5
 refine RL.nil ?_
 refine thnN ?_
 refine W.seq ?_
 refine W.region ?_
 refine RL.opD (by decide) (opv_fieldAddr rfl Tryd.fo26_1 rfl) ?_
 refine RL.opD (by decide) (opv_loadB rfl Tryd.one22 rfl (Sep.at (o := boxO bb1 [u0_0, u0_1, u0_2]) S_6 3 rfl) rfl) ?_
 obtain ⟨x2, hx2, hp⟩ := Option.bind_eq_some_iff.1 hp
 refine RL.op _ (by decide) (opv_call (cap := []) (laws_toFloat32S_ok _ _ _ (SL.up (SL.mod g0_1 X_5 (Nat.le_refl _) nob) (Nat.le_trans (Nat.le_refl _) (Mod.size X_5))) _ hx2) rfl rfl ⟨rfl, trivial⟩ Tryd.func23 rfl rfl) ?_
 rintro v2 hp6 ⟨MT_6, T_6⟩
 obtain ⟨X_6, S_7⟩ := Sep.turn0 X_5 S_6 MT_6 T_6
 refine RL.opD (by decide) (opv_fieldAddr rfl Tryd.fo34_1 rfl) ?_
 refine RL.op0 _ (opS_stored (cs := [v1, (.slice none 0 0), (.slice none 0 0)]) (cs' := [v1, v2, (.slice none 0 0)]) (opv_storeB (k := 1) (cs := [v1, (.slice none 0 0), (.slice none 0 0)]) rfl Tryd.size22 rfl rfl (ownO.one (Sep.at (o := ownO (kF .f32) 65 v2 x2) S_7 0 rfl)) (Sep.at (o := boxO bb3 [v1, (.slice none 0 0), (.slice none 0 0)]) S_7 1 rfl) (Nat.le_of_ble_eq_true rfl)) (Sep.at (o := boxO bb3 [v1, (.slice none 0 0), (.slice none 0 0)]) S_7 1 rfl)) ?_
 rintro _ hp7 ⟨rfl, MT_7, T_7⟩
 have S_8 : Sep [] h0.size hp6 ([boxO bb3 [v1, (.slice none 0 0), (.slice none 0 0)]] ++ [ownO (kF .f32) 65 v2 x2, ownO (kF .f32) 65 v1 x1, boxO bb2 [(.slice none 0 0), (.slice none 0 0), (.slice none 0 0)], boxO bb1 [u0_0, u0_1, u0_2]]) := Sep.sel S_7 [1, 0, 2, 3, 4] (by decide)
 obtain ⟨X_7, S_9⟩ := Sep.turn X_6 S_8 MT_7 T_7
 refine RL.nil ?_
 refine thnN ?_
 refine W.seq ?_
 refine W.region ?_
 refine RL.opD (by decide) (opv_fieldAddr rfl Tryd.fo26_2 rfl) ?_
 refine RL.opD (by decide) (opv_loadB rfl Tryd.one22 rfl (Sep.at (o := boxO bb1 [u0_0, u0_1, u0_2]) S_9 4 rfl) rfl) ?_
 obtain ⟨x3, hx3, hp⟩ := Option.bind_eq_some_iff.1 hp
 refine RL.op _ (by decide) (opv_call (cap := []) (laws_toFloat32S_ok _ _ _ (SL.up (SL.mod g0_2 X_7 (Nat.le_refl _) nob) (Nat.le_trans (Nat.le_refl _) (Mod.size X_7))) _ hx3) rfl rfl ⟨rfl, trivial⟩ Tryd.func23 rfl rfl) ?_
 rintro v3 hp8 ⟨MT_8, T_8⟩
 obtain ⟨X_8, S_10⟩ := Sep.turn0 X_7 S_9 MT_8 T_8
 refine RL.opD (by decide) (opv_fieldAddr rfl Tryd.fo34_2 rfl) ?_
 refine RL.op0 _ (opS_stored (cs := [v1, v2, (.slice none 0 0)]) (cs' := [v1, v2, v3]) (opv_storeB (k := 2) (cs := [v1, v2, (.slice none 0 0)]) rfl Tryd.size22 rfl rfl (ownO.one (Sep.at (o := ownO (kF .f32) 65 v3 x3) S_10 0 rfl)) (Sep.at (o := boxO bb3 [v1, v2, (.slice none 0 0)]) S_10 1 rfl) (Nat.le_of_ble_eq_true rfl)) (Sep.at (o := boxO bb3 [v1, v2, (.slice none 0 0)]) S_10 1 rfl)) ?_
 rintro _ hp9 ⟨rfl, MT_9, T_9⟩
 have S_11 : Sep [] h0.size hp8 ([boxO bb3 [v1, v2, (.slice none 0 0)]] ++ [ownO (kF .f32) 65 v3 x3, ownO (kF .f32) 65 v2 x2, ownO (kF .f32) 65 v1 x1, boxO bb2 [(.slice none 0 0), (.slice none 0 0), (.slice none 0 0)], boxO bb1 [u0_0, u0_1, u0_2]]) := Sep.sel S_10 [1, 0, 2, 3, 4, 5] (by decide)
 obtain ⟨X_9, S_12⟩ := Sep.turn X_8 S_11 MT_9 T_9
 refine RL.nil ?_
 refine thnN ?_
 refine W.seq ?_
 refine W.region ?_
 refine RL.opD (by decide) (opv_loadA (us := [v1, v2, v3]) rfl Tryd.agg34 Tryd.size34 rfl (Sep.at (o := boxO bb3 [v1, v2, v3]) S_12 0 rfl) rfl rfl) ?_
 refine RL.op0 _ (opS_stored (cs := [(.slice none 0 0), (.slice none 0 0), (.slice none 0 0)]) (cs' := [v1, v2, v3]) (opv_storeA (us := [v1, v2, v3]) rfl Tryd.size34 rfl rfl (oneAll (ownO.one (Sep.at (o := ownO (kF .f32) 65 v1 x1) S_12 3 rfl)) (oneAll (ownO.one (Sep.at (o := ownO (kF .f32) 65 v2 x2) S_12 2 rfl)) (oneAll (ownO.one (Sep.at (o := ownO (kF .f32) 65 v3 x3) S_12 1 rfl)) rfl))) (Sep.at (o := boxO bb2 [(.slice none 0 0), (.slice none 0 0), (.slice none 0 0)]) S_12 4 rfl) rfl rfl) (Sep.at (o := boxO bb2 [(.slice none 0 0), (.slice none 0 0), (.slice none 0 0)]) S_12 4 rfl)) ?_
 rintro _ hp10 ⟨rfl, MT_10, T_10⟩
 have S_13 : Sep [] h0.size hp9 ([boxO bb2 [(.slice none 0 0), (.slice none 0 0), (.slice none 0 0)]] ++ [boxO bb3 [v1, v2, v3], ownO (kF .f32) 65 v3 x3, ownO (kF .f32) 65 v2 x2, ownO (kF .f32) 65 v1 x1, boxO bb1 [u0_0, u0_1, u0_2]]) := Sep.sel S_12 [4, 0, 1, 2, 3, 5] (by decide)
 obtain ⟨X_10, S_14⟩ := Sep.turn X_9 S_13 MT_10 T_10
 refine RL.nil ?_
 refine thnN ?_
 refine W.ret ?_
 have er := Option.some.inj hp
 subst er
 exact Rt.cell1 rfl rfl Tryd.agg34 Tryd.size34 (Sep.at (o := boxO bb2 [v1, v2, v3]) S_14 0 rfl) rfl ⟨v1, v2, v3, rfl, X_10, (Sep.sel S_14 [4, 3, 2] (by decide))⟩

set_option maxRecDepth 20000 in
theorem laws_eqField_ok (h0 : Heap) (u0_0 : Value) (a0_0 : List (Option Nat)) (g0_0 : SL (kF .f32) h0.size h0 u0_0 a0_0) (u0_1 : Value) (a0_1 : List (Option Nat)) (g0_1 : SL (kF .f32) h0.size h0 u0_1 a0_1) (u0_2 : Value) (a0_2 : List (Option Nat)) (g0_2 : SL (kF .f32) h0.size h0 u0_2 a0_2) (u1_0 : Value) (a1_0 : List (Option Nat)) (g1_0 : SL (kF .f32) h0.size h0 u1_0 a1_0) (u1_1 : Value) (a1_1 : List (Option Nat)) (g1_1 : SL (kF .f32) h0.size h0 u1_1 a1_1) (u1_2 : Value) (a1_2 : List (Option Nat)) (g1_2 : SL (kF .f32) h0.size h0 u1_2 a1_2) (r : Bool) (hp : laws_eqField a0_0 a0_1 a0_2 a1_0 a1_1 a1_2 = some r) : CallsH Tryd.prog 12 ([(.agg (List.toArray (α := Value) [u0_0, u0_1, u0_2])), (.agg (List.toArray (α := Value) [u1_0, u1_1, u1_2]))].toArray ++ [].toArray) h0 (fun v h' => v = (.bool r) ∧ Mod [] h0 h' ∧ Sep [] h0.size h' []) := by
 unfold laws_eqField at hp
 refine callsH_of_W (l := [(.agg (List.toArray (α := Value) [u0_0, u0_1, u0_2])), (.agg (List.toArray (α := Value) [u1_0, u1_1, u1_2]))]) (cap := []) 23 Tryd.func12 rfl rfl rfl ?_
 refine W.seq ?_
 refine W.region ?_
 refine RL.op _ (by decide) (opS_boxed (opv_boxA (cs := [u0_0, u0_1, u0_2]) rfl rfl)) ?_
 rintro _ hp1 ⟨bb1, rfl, MT_1, T_1⟩
 obtain ⟨X_1, S_1⟩ := Sep.turn0 (Mod.refl [] h0) (Sep.nil [] h0.size h0) MT_1 T_1
 refine RL.op _ (by decide) (opS_boxed (opv_boxA (cs := [u1_0, u1_1, u1_2]) rfl rfl)) ?_
 rintro _ hp2 ⟨bb2, rfl, MT_2, T_2⟩
 obtain ⟨X_2, S_2⟩ := Sep.turn0 X_1 S_1 MT_2 T_2
 refine RL.opD (by decide) (opv_assign rfl rfl) ?_
 refine RL.nil ?_
 refine thnN ?_
 refine W.seq ?_
 refine W.seq ?_
 refine W.region ?_
 refine RL.opD (by decide) (opv_fieldAddr rfl Tryd.fo34_0 rfl) ?_
 refine RL.opD (by decide) (opv_loadB rfl Tryd.one22 rfl (Sep.at (o := boxO bb1 [u0_0, u0_1, u0_2]) S_2 1 rfl) rfl) ?_
 refine RL.opD (by decide) (opv_fieldAddr rfl Tryd.fo34_0 rfl) ?_
 refine RL.opD (by decide) (opv_loadB rfl Tryd.one22 rfl (Sep.at (o := boxO bb2 [u1_0, u1_1, u1_2]) S_2 0 rfl) rfl) ?_
 obtain ⟨x1, hx1, hp⟩ := Option.bind_eq_some_iff.1 hp
 refine RL.op _ (by decide) (opv_call (cap := []) (laws_eqFloat32S_ok _ _ _ (SL.up (SL.mod g0_0 X_2 (Nat.le_refl _) nob) (Nat.le_trans (Nat.le_refl _) (Mod.size X_2))) _ _ (SL.up (SL.mod g1_0 X_2 (Nat.le_refl _) nob) (Nat.le_trans (Nat.le_refl _) (Mod.size X_2))) _ hx1) rfl rfl ⟨rfl, rfl, trivial⟩ Tryd.func29 rfl rfl) ?_
 rintro _ _ ⟨rfl, rfl⟩
 refine RL.opD (by decide) (opv_not rfl rfl) ?_
 refine RL.nil ?_
 refine thnN ?_
 by_cases c1 : (!x1) = true
 ·rw [if_pos c1] at hp
  refine W.condT rfl c1 ?_
  refine W.seq ?_
  refine W.region ?_
  refine RL.opD (by decide) (opv_assign rfl rfl) ?_
  refine RL.nil ?_
  refine thnN ?_
  refine W.ret ?_
  refine thnR ?_
  have er := Option.some.inj hp
  subst er
  exact Rt.one rfl rfl ⟨rfl, X_2, (Sep.nil _ _ _)⟩
 ·rw [if_neg c1] at hp
  have c1 := eq_false_of_ne_true c1
  refine W.condF rfl c1 ?_
  refine W.skip ?_
  refine thnN ?_
  refine W.seq ?_
  refine W.seq ?_
  refine W.region ?_
  refine RL.opD (by decide) (opv_fieldAddr rfl Tryd.fo34_1 rfl) ?_
  refine RL.opD (by decide) (opv_loadB rfl Tryd.one22 rfl (Sep.at (o := boxO bb1 [u0_0, u0_1, u0_2]) S_2 1 rfl) rfl) ?_
  refine RL.opD (by decide) (opv_fieldAddr rfl Tryd.fo34_1 rfl) ?_
  refine RL.opD (by decide) (opv_loadB rfl Tryd.one22 rfl (Sep.at (o := boxO bb2 [u1_0, u1_1, u1_2]) S_2 0 rfl) rfl) ?_
  obtain ⟨x2, hx2, hp⟩ := Option.bind_eq_some_iff.1 hp
  refine RL.op _ (by decide) (opv_call (cap := []) (laws_eqFloat32S_ok _ _ _ (SL.up (SL.mod g0_1 X_2 (Nat.le_refl _) nob) (Nat.le_trans (Nat.le_refl _) (Mod.size X_2))) _ _ (SL.up (SL.mod g1_1 X_2 (Nat.le_refl _) nob) (Nat.le_trans (Nat.le_refl _) (Mod.size X_2))) _ hx2) rfl rfl ⟨rfl, rfl, trivial⟩ Tryd.func29 rfl rfl) ?_
  rintro _ _ ⟨rfl, rfl⟩
  refine RL.opD (by decide) (opv_not rfl rfl) ?_
  refine RL.nil ?_
  refine thnN ?_
  by_cases c2 : (!x2) = true
  ·rw [if_pos c2] at hp
   refine W.condT rfl c2 ?_
   refine W.seq ?_
   refine W.region ?_
   refine RL.opD (by decide) (opv_assign rfl rfl) ?_
   refine RL.nil ?_
   refine thnN ?_
   refine W.ret ?_
   refine thnR ?_
   have er := Option.some.inj hp
   subst er
   exact Rt.one rfl rfl ⟨rfl, X_2, (Sep.nil _ _ _)⟩
  ·rw [if_neg c2] at hp
   have c2 := eq_false_of_ne_true c2
   refine W.condF rfl c2 ?_
   refine W.skip ?_
   refine thnN ?_
   refine W.seq ?_
   refine W.seq ?_
   refine W.region ?_
   refine RL.opD (by decide) (opv_fieldAddr rfl Tryd.fo34_2 rfl) ?_
   refine RL.opD (by decide) (opv_loadB rfl Tryd.one22 rfl (Sep.at (o := boxO bb1 [u0_0, u0_1, u0_2]) S_2 1 rfl) rfl) ?_
   refine RL.opD (by decide) (opv_fieldAddr rfl Tryd.fo34_2 rfl) ?_
   refine RL.opD (by decide) (opv_loadB rfl Tryd.one22 rfl (Sep.at (o := boxO bb2 [u1_0, u1_1, u1_2]) S_2 0 rfl) rfl) ?_
   obtain ⟨x3, hx3, hp⟩ := Option.bind_eq_some_iff.1 hp
   refine RL.op _ (by decide) (opv_call (cap := []) (laws_eqFloat32S_ok _ _ _ (SL.up (SL.mod g0_2 X_2 (Nat.le_refl _) nob) (Nat.le_trans (Nat.le_refl _) (Mod.size X_2))) _ _ (SL.up (SL.mod g1_2 X_2 (Nat.le_refl _) nob) (Nat.le_trans (Nat.le_refl _) (Mod.size X_2))) _ hx3) rfl rfl ⟨rfl, rfl, trivial⟩ Tryd.func29 rfl rfl) ?_
   rintro _ _ ⟨rfl, rfl⟩
   refine RL.opD (by decide) (opv_not rfl rfl) ?_
   refine RL.nil ?_
   refine thnN ?_
   by_cases c3 : (!x3) = true
   ·rw [if_pos c3] at hp
    refine W.condT rfl c3 ?_
    refine W.seq ?_
    refine W.region ?_
    refine RL.opD (by decide) (opv_assign rfl rfl) ?_
    refine RL.nil ?_
    refine thnN ?_
    refine W.ret ?_
    refine thnR ?_
    have er := Option.some.inj hp
    subst er
    exact Rt.one rfl rfl ⟨rfl, X_2, (Sep.nil _ _ _)⟩
   ·rw [if_neg c3] at hp
    have c3 := eq_false_of_ne_true c3
    refine W.condF rfl c3 ?_
    refine W.skip ?_
    refine thnN ?_
    refine W.seq ?_
    refine W.region ?_
    refine RL.opD (by decide) (opv_assign rfl rfl) ?_
    refine RL.nil ?_
    refine thnN ?_
    refine W.ret ?_
    have er := Option.some.inj hp
    subst er
    exact Rt.one rfl rfl ⟨rfl, X_2, (Sep.nil _ _ _)⟩

set_option maxRecDepth 20000 in
theorem laws_markField_ok (h0 : Heap) (lo : Nat) (hlo : lo ≤ h0.size) (u0_0 : Value) (a0_0 : List (Option Nat)) (u0_1 : Value) (a0_1 : List (Option Nat)) (u0_2 : Value) (a0_2 : List (Option Nat)) (a1 : Int) (S0 : Sep [u0_0.ownBlock, u0_1.ownBlock, u0_2.ownBlock] h0.size h0 [ownO (kF .f32) 65 u0_0 a0_0, ownO (kF .f32) 65 u0_1 a0_1, ownO (kF .f32) 65 u0_2 a0_2]) (hB : ∀ b, some b ∈ [u0_0.ownBlock, u0_1.ownBlock, u0_2.ownBlock] → lo ≤ b) (r : (Int × (List (Option Nat)) × (List (Option Nat)) × (List (Option Nat)))) (hp : laws_markField a0_0 a0_1 a0_2 a1 = some r) : CallsH Tryd.prog 14 ([(.agg (List.toArray (α := Value) [u0_0, u0_1, u0_2])), (.int .i64 a1)].toArray ++ [].toArray) h0 (fun v h' => v = (.int .i64 r.1) ∧ Mod [u0_0.ownBlock, u0_1.ownBlock, u0_2.ownBlock] h0 h' ∧ Sep [u0_0.ownBlock, u0_1.ownBlock, u0_2.ownBlock] h0.size h' [ownO (kF .f32) 65 u0_0 r.2.1, ownO (kF .f32) 65 u0_1 r.2.2.1, ownO (kF .f32) 65 u0_2 r.2.2.2]) := by
 unfold laws_markField at hp
 refine callsH_of_W (l := [(.agg (List.toArray (α := Value) [u0_0, u0_1, u0_2])), (.int .i64 a1)]) (cap := []) 18 Tryd.func14 rfl rfl rfl ?_
 refine W.seq ?_
 refine W.region ?_
 refine RL.op _ (by decide) (opS_boxed (opv_boxA (cs := [u0_0, u0_1, u0_2]) rfl rfl)) ?_
 rintro _ hp1 ⟨bb1, rfl, MT_1, T_1⟩
 obtain ⟨X_1, S_1⟩ := Sep.turn0 (Mod.refl [u0_0.ownBlock, u0_1.ownBlock, u0_2.ownBlock] h0) S0 MT_1 T_1
 refine RL.opD (by decide) (opv_assign rfl rfl) ?_
 refine RL.nil ?_
 refine thnN ?_
 refine W.seq ?_
 refine W.region ?_
 refine RL.opD (by decide) (opv_fieldAddr rfl Tryd.fo34_0 rfl) ?_
 refine RL.opD (by decide) (opv_loadB rfl Tryd.one22 rfl (Sep.at (o := boxO bb1 [u0_0, u0_1, u0_2]) S_1 0 rfl) rfl) ?_
 refine RL.opD (by decide) (opv_move rfl rfl) ?_
 obtain ⟨x1, hx1, hp⟩ := Option.bind_eq_some_iff.1 hp
 have S_3 : Sep [u0_0.ownBlock, u0_1.ownBlock, u0_2.ownBlock] h0.size hp1 [ownO (kF .f32) 65 u0_0 a0_0] := Sep.sel S_1 [1] (by decide)
 have S_2 : Sep [u0_0.ownBlock] hp1.size hp1 [ownO (kF .f32) 65 u0_0 a0_0] := Sep.own S_3 _
 refine RL.op _ (by decide) (opv_call (cap := []) (laws_markFloat32S_ok _ lo (Nat.le_trans hlo (Mod.size X_1)) _ _ _ S_2 (Sep.ge (L := [ownO (kF .f32) 65 u0_0 a0_0]) S_3 hlo hB) _ hx1) rfl rfl ⟨rfl, rfl, trivial⟩ Tryd.func30 rfl rfl) ?_
 rintro _ hp2 ⟨rfl, MT_2, T_2⟩
 have S_4 : Sep [u0_0.ownBlock, u0_1.ownBlock, u0_2.ownBlock] h0.size hp1 ([ownO (kF .f32) 65 u0_0 a0_0] ++ [boxO bb1 [u0_0, u0_1, u0_2], ownO (kF .f32) 65 u0_1 a0_1, ownO (kF .f32) 65 u0_2 a0_2]) := Sep.sel S_1 [1, 0, 2, 3] (by decide)
 obtain ⟨X_2, S_5⟩ := Sep.turn X_1 S_4 MT_2 T_2
 refine RL.opD (by decide) (opv_assign rfl rfl) ?_
 refine RL.nil ?_
 refine thnN ?_
 refine W.seq ?_
 refine W.region ?_
 refine RL.opD (by decide) (opv_fieldAddr rfl Tryd.fo34_1 rfl) ?_
 refine RL.opD (by decide) (opv_loadB rfl Tryd.one22 rfl (Sep.at (o := boxO bb1 [u0_0, u0_1, u0_2]) S_5 1 rfl) rfl) ?_
 refine RL.opD (by decide) (opv_move rfl rfl) ?_
 obtain ⟨x2, hx2, hp⟩ := Option.bind_eq_some_iff.1 hp
 have S_7 : Sep [u0_0.ownBlock, u0_1.ownBlock, u0_2.ownBlock] h0.size hp2 [ownO (kF .f32) 65 u0_1 a0_1] := Sep.sel S_5 [2] (by decide)
 have S_6 : Sep [u0_1.ownBlock] hp2.size hp2 [ownO (kF .f32) 65 u0_1 a0_1] := Sep.own S_7 _
 refine RL.op _ (by decide) (opv_call (cap := []) (laws_markFloat32S_ok _ lo (Nat.le_trans hlo (Mod.size X_2)) _ _ _ S_6 (Sep.ge (L := [ownO (kF .f32) 65 u0_1 a0_1]) S_7 hlo hB) _ hx2) rfl rfl ⟨rfl, rfl, trivial⟩ Tryd.func30 rfl rfl) ?_
 rintro _ hp3 ⟨rfl, MT_3, T_3⟩
 have S_8 : Sep [u0_0.ownBlock, u0_1.ownBlock, u0_2.ownBlock] h0.size hp2 ([ownO (kF .f32) 65 u0_1 a0_1] ++ [ownO (kF .f32) 65 u0_0 x1.2, boxO bb1 [u0_0, u0_1, u0_2], ownO (kF .f32) 65 u0_2 a0_2]) := Sep.sel S_5 [2, 0, 1, 3] (by decide)
 obtain ⟨X_3, S_9⟩ := Sep.turn X_2 S_8 MT_3 T_3
 refine RL.opD (by decide) (opv_assign rfl rfl) ?_
 refine RL.nil ?_
 refine thnN ?_
 refine W.seq ?_
 refine W.region ?_
 refine RL.opD (by decide) (opv_fieldAddr rfl Tryd.fo34_2 rfl) ?_
 refine RL.opD (by decide) (opv_loadB rfl Tryd.one22 rfl (Sep.at (o := boxO bb1 [u0_0, u0_1, u0_2]) S_9 2 rfl) rfl) ?_
 refine RL.opD (by decide) (opv_move rfl rfl) ?_
 obtain ⟨x3, hx3, hp⟩ := Option.bind_eq_some_iff.1 hp
 have S_11 : Sep [u0_0.ownBlock, u0_1.ownBlock, u0_2.ownBlock] h0.size hp3 [ownO (kF .f32) 65 u0_2 a0_2] := Sep.sel S_9 [3] (by decide)
 have S_10 : Sep [u0_2.ownBlock] hp3.size hp3 [ownO (kF .f32) 65 u0_2 a0_2] := Sep.own S_11 _
 refine RL.op _ (by decide) (opv_call (cap := []) (laws_markFloat32S_ok _ lo (Nat.le_trans hlo (Mod.size X_3)) _ _ _ S_10 (Sep.ge (L := [ownO (kF .f32) 65 u0_2 a0_2]) S_11 hlo hB) _ hx3) rfl rfl ⟨rfl, rfl, trivial⟩ Tryd.func30 rfl rfl) ?_
 rintro _ hp4 ⟨rfl, MT_4, T_4⟩
 have S_12 : Sep [u0_0.ownBlock, u0_1.ownBlock, u0_2.ownBlock] h0.size hp3 ([ownO (kF .f32) 65 u0_2 a0_2] ++ [ownO (kF .f32) 65 u0_1 x2.2, ownO (kF .f32) 65 u0_0 x1.2, boxO bb1 [u0_0, u0_1, u0_2]]) := Sep.sel S_9 [3, 0, 1, 2] (by decide)
 obtain ⟨X_4, S_13⟩ := Sep.turn X_3 S_12 MT_4 T_4
 refine RL.opD (by decide) (opv_assign rfl rfl) ?_
 refine RL.nil ?_
 refine thnN ?_
 refine W.seq ?_
 refine W.region ?_
 refine RL.opD (by decide) (opv_move rfl rfl) ?_
 refine RL.opD (by decide) (opv_assign rfl rfl) ?_
 refine RL.nil ?_
 refine thnN ?_
 refine W.ret ?_
 have er := Option.some.inj hp
 subst er
 exact Rt.one rfl rfl ⟨rfl, X_4, (Sep.sel S_13 [2, 1, 0] (by decide))⟩

end Go.H
