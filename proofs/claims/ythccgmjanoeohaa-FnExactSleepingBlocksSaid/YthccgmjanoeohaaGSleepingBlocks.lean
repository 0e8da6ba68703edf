/- Functions of the program: what each computes, as a plain function, and that the call comes to it. Written by a program (wip/gen). -/
import Derived.Test.YthccgmjanoeohaaGSleep
import Derived.Test.YthccgmjanoeohaaGBase
import Derived.Test.YthccgmjanoeohaaGCopy
import Derived.Test.YthccgmjanoeohaaGSheet
import Derived.Test.YthccgmjanoeohaaGField
import Derived.Test.YthccgmjanoeohaaBase22
import Derived.Test.YthccgmjanoeohaaProg
import Derived.KernelRfl
set_option linter.unusedVariables false
namespace Go.H
open Go Go.Proofs



noncomputable def laws_eqBoolS.s0 (a0 : List (Bool)) (a1 : List (Bool)) (x1 : Bool) (x2 : Int) : Option ((Bool × Int) ⊕ ((Bool × Int × Bool) ⊕ Bool)) :=
 (if (decide (x2 < (a0.length : Int))) = true then ((idx a0 x2).bind fun (x6 : Bool) => ((idx a1 x2).bind fun (x7 : Bool) => (if (x6 != x7) = true then some (.inr (.inr false)) else some (.inl (x1, IntKind.wrap .i64 (x2 + 1)))))) else some (.inr (.inl (x1, x2, decide (x2 < (a0.length : Int))))))

noncomputable def laws_eqBoolS (a0 : List (Bool)) (a1 : List (Bool)) : Option Bool :=
 (if ((a0.length : Int) != (a1.length : Int)) = true then some false else ((loopF (fun (s : (Bool × Int)) => laws_eqBoolS.s0 a0 a1 s.1 s.2) (false, 0)).bind fun (y1 : ((Bool × Int × Bool) ⊕ Bool)) => match y1 with | .inl (x3, x4, x5) => some true | .inr r1 => some r1))

noncomputable def laws_markBoolS.s0 (x1 : Int) (x2 : Int) (x3 : List (Bool)) : Option ((Int × Int × (List (Bool))) ⊕ (Int × Int × Bool × (List (Bool)))) :=
 (if (decide (x2 < (x3.length : Int))) = true then ((idx x3 x2).bind fun (x8 : Bool) => ((setF x3 x2 ((Int.tmod x1 3) == 0)).bind fun (x9 : List (Bool)) => some (.inl (IntKind.wrap .i64 (x1 + 1), IntKind.wrap .i64 (x2 + 1), x9)))) else some (.inr (x1, x2, decide (x2 < (x3.length : Int)), x3)))

noncomputable def laws_markBoolS (a0 : List (Bool)) (a1 : Int) : Option (Int × (List (Bool))) :=
 ((loopF (fun (s : (Int × Int × (List (Bool)))) => laws_markBoolS.s0 s.1 s.2.1 s.2.2) (a1, 0, a0)).bind fun (⟨x4, x5, x6, x7⟩ : (Int × Int × Bool × (List (Bool)))) => some (x4, x7))

noncomputable def laws_heldBoolS.s0 (a0 : List (Bool)) (x1 : Int) (x2 : Int) (x3 : Int) : Option ((Int × Int × Int) ⊕ ((Int × Int × Int × Bool) ⊕ Int)) :=
 (if (decide (x3 < (a0.length : Int))) = true then ((idx a0 x3).bind fun (x8 : Bool) => (if (x8 != ((Int.tmod x1 3) == 0)) = true then some (.inr (.inr (-1))) else some (.inl (IntKind.wrap .i64 (x1 + 1), x2, IntKind.wrap .i64 (x3 + 1))))) else some (.inr (.inl (x1, x2, x3, decide (x3 < (a0.length : Int))))))

noncomputable def laws_heldBoolS (a0 : List (Bool)) (a1 : Int) : Option Int :=
 ((loopF (fun (s : (Int × Int × Int)) => laws_heldBoolS.s0 a0 s.1 s.2.1 s.2.2) (a1, 0, 0)).bind fun (y1 : ((Int × Int × Int × Bool) ⊕ Int)) => match y1 with | .inl (x4, x5, x6, x7) => some x4 | .inr r1 => some r1)

noncomputable def laws_FnExactSleepingBlocks (a0_0 : Int) (a0_1 : Int) (a0_2 : Bool) (a0_3 : List (Option Nat)) (a0_4 : List (Option Nat)) (a1_0 : List (Option Nat)) (a1_1 : List (Option Nat)) (a1_2 : List (Option Nat)) (a2 : Int) : Option Bool :=
 ((laws_szSheet a0_0 a0_1 a0_2 a0_3 a0_4 1048576).bind fun (x1 : Int) => (if (decide (x1 < 0)) = true then some true else ((laws_szField a1_0 a1_1 a1_2 x1).bind fun (x2 : Int) => (if (decide (x2 < 0)) = true then some true else ((laws_toSheet a0_0 a0_1 a0_2 a0_3 a0_4).bind fun (x3 : (Int × Int × Bool × (List (Option Nat)) × (List (Option Nat)))) => ((laws_toField a1_0 a1_1 a1_2).bind fun (x4 : ((List (Option Nat)) × (List (Option Nat)) × (List (Option Nat)))) => ((spec_SleepingBlocks x3.1 x3.2.1 x3.2.2.1 x3.2.2.2.1 x3.2.2.2.2 x4.1 x4.2.1 x4.2.2 a2).bind fun (x5 : ((List (Bool)) × Bool)) => ((laws_toSheet a0_0 a0_1 a0_2 a0_3 a0_4).bind fun (x6 : (Int × Int × Bool × (List (Option Nat)) × (List (Option Nat)))) => ((laws_toField a1_0 a1_1 a1_2).bind fun (x7 : ((List (Option Nat)) × (List (Option Nat)) × (List (Option Nat)))) => ((impl_SleepingBlocks x6.1 x6.2.1 x6.2.2.1 x6.2.2.2.1 x6.2.2.2.2 x7.1 x7.2.1 x7.2.2 a2).bind fun (x8 : ((List (Bool)) × Bool)) => ((((laws_eqBoolS x8.1 x5.1).bind fun (x10 : Bool) => (if (!x10) = true then some true else some (x8.2 != x5.2))) : Option Bool).bind fun (x9 : Bool) => (if x9 = true then some false else ((laws_toSheet a0_0 a0_1 a0_2 a0_3 a0_4).bind fun (x11 : (Int × Int × Bool × (List (Option Nat)) × (List (Option Nat)))) => ((laws_eqSheet x6.1 x6.2.1 x6.2.2.1 x6.2.2.2.1 x6.2.2.2.2 x11.1 x11.2.1 x11.2.2.1 x11.2.2.2.1 x11.2.2.2.2).bind fun (x12 : Bool) => (if (!x12) = true then some false else ((laws_toField a1_0 a1_1 a1_2).bind fun (x13 : ((List (Option Nat)) × (List (Option Nat)) × (List (Option Nat)))) => ((laws_eqField x7.1 x7.2.1 x7.2.2 x13.1 x13.2.1 x13.2.2).bind fun (x14 : Bool) => (if (!x14) = true then some false else ((laws_markSheet x6.1 x6.2.1 x6.2.2.1 x6.2.2.2.1 x6.2.2.2.2 1).bind fun (x15 : (Int × (List (Option Nat)) × (List (Option Nat)))) => ((laws_markField x7.1 x7.2.1 x7.2.2 x15.1).bind fun (x16 : (Int × (List (Option Nat)) × (List (Option Nat)) × (List (Option Nat)))) => (((if (decide (x16.1 < 0)) = true then some true else ((laws_eqBoolS x8.1 x5.1).bind fun (x18 : Bool) => (if (!x18) = true then some true else some (x8.2 != x5.2)))) : Option Bool).bind fun (x17 : Bool) => (if x17 = true then some false else ((laws_markBoolS x8.1 1).bind fun (x19 : (Int × (List (Bool)))) => ((laws_heldBoolS x19.2 1).bind fun (x20 : Int) => (if (decide (x20 < 0)) = true then some false else (if (x20 != x19.1) = true then some false else ((laws_toSheet a0_0 a0_1 a0_2 a0_3 a0_4).bind fun (x21 : (Int × Int × Bool × (List (Option Nat)) × (List (Option Nat)))) => ((laws_toField a1_0 a1_1 a1_2).bind fun (x22 : ((List (Option Nat)) × (List (Option Nat)) × (List (Option Nat)))) => ((impl_SleepingBlocks x21.1 x21.2.1 x21.2.2.1 x21.2.2.2.1 x21.2.2.2.2 x22.1 x22.2.1 x22.2.2 a2).bind fun (x23 : ((List (Bool)) × Bool)) => ((((laws_eqBoolS x23.1 x5.1).bind fun (x25 : Bool) => (if (!x25) = true then some true else some (x23.2 != x5.2))) : Option Bool).bind fun (x24 : Bool) => (if x24 = true then some false else ((laws_heldBoolS x19.2 1).bind fun (x26 : Int) => (if (decide (x26 < 0)) = true then some false else (if (x26 != x19.1) = true then some false else some true))))))))))))))))))))))))))))))))))

set_option maxRecDepth 20000 in
theorem laws_eqBoolS_ok (h0 : Heap) (u0 : Value) (a0 : List (Bool)) (g0 : SL kB h0.size h0 u0 a0) (u1 : Value) (a1 : List (Bool)) (g1 : SL kB h0.size h0 u1 a1) (r : Bool) (hp : laws_eqBoolS a0 a1 = some r) : CallsH Try.prog 25 ([u0, u1].toArray ++ [].toArray) h0 (fun v h' => v = (.bool r) ∧ h0 = h') := by
 unfold laws_eqBoolS at hp
 refine callsH_of_W (l := [u0, u1]) (cap := []) 26 Try.func25 rfl rfl rfl ?_
 refine W.seq ?_
 refine W.region ?_
 refine RL.opD (by decide) (opv_assign rfl rfl) ?_
 refine RL.nil ?_
 refine thnN ?_
 refine W.seq ?_
 refine W.seq ?_
 refine W.region ?_
 refine RL.opD (by decide) (opv_move rfl rfl) ?_
 refine RL.opD (by decide) (opv_len rfl Try.underlying40 rfl g0) ?_
 refine RL.opD (by decide) (opv_move rfl rfl) ?_
 refine RL.opD (by decide) (opv_len rfl Try.underlying40 rfl g1) ?_
 refine RL.opD (by decide) (opv_icmp rfl rfl rfl rfl) ?_
 refine RL.nil ?_
 refine thnN ?_
 by_cases c1 : ((a0.length : Int) != (a1.length : Int)) = true
 ·rw [if_pos c1] at hp
  refine W.condT rfl c1 ?_
  refine W.seq ?_
  refine W.region ?_
  refine RL.opD (by decide) (opv_assign rfl rfl) ?_
  refine RL.nil ?_
  refine thnN ?_
  refine W.ret ?_
  refine thnR ?_
  have er := Option.some.inj hp
  subst er
  exact Rt.one rfl rfl ⟨rfl, rfl⟩
 ·rw [if_neg c1] at hp
  have c1 := eq_false_of_ne_true c1
  refine W.condF rfl c1 ?_
  refine W.skip ?_
  refine thnN ?_
  refine W.seq ?_
  refine W.seq ?_
  refine W.region ?_
  refine RL.opD (by decide) (opv_assign rfl rfl) ?_
  refine RL.nil ?_
  refine thnN ?_
  obtain ⟨y1, hy1, hp⟩ := Option.bind_eq_some_iff.1 hp
  refine W.cut (fun φ' h' => ∃ x3, ∃ x4, ∃ x5, y1 = .inl (x3, x4, x5) ∧ Fr.sub [(0, u0), (1, u1), (10, (.bool ((a0.length : Int) != (a1.length : Int)))), (4, (.bool x3)), (5, (.int .i64 x4)), (14, (.bool x5))] φ' ∧ h0 = h') ?_ ?_
  ·refine W.block ?_
   refine W.loopS (fun (s : (Bool × Int)) φ' h' => Fr.sub [(0, u0), (1, u1), (10, (.bool ((a0.length : Int) != (a1.length : Int)))), (4, (.bool s.1)), (5, (.int .i64 s.2))] φ' ∧ h0 = h') hy1 ⟨⟨rfl, rfl, rfl, rfl, rfl, trivial⟩, rfl⟩ ?_
   rintro ⟨x1, x2⟩ φ' _ o1 ⟨hs1, rfl⟩ ho1 hy1
   have hs1 : Fr.sub [(0, u0), (1, u1), (10, (.bool ((a0.length : Int) != (a1.length : Int)))), (4, (.bool x1)), (5, (.int .i64 x2))] φ' := hs1
   have ho1 : laws_eqBoolS.s0 a0 a1 x1 x2 = some o1 := ho1
   unfold laws_eqBoolS.s0 at ho1
   refine W.sub hs1 ?_
   refine W.seq ?_
   refine W.seq ?_
   refine W.region ?_
   refine RL.opD (by decide) (opv_move rfl rfl) ?_
   refine RL.opD (by decide) (opv_move rfl rfl) ?_
   refine RL.opD (by decide) (opv_len rfl Try.underlying40 rfl g0) ?_
   refine RL.opD (by decide) (opv_icmp rfl rfl rfl rfl) ?_
   refine RL.nil ?_
   refine thnN ?_
   by_cases c2 : (decide (x2 < (a0.length : Int))) = true
   ·rw [if_pos c2] at ho1
    refine W.condT rfl c2 ?_
    refine W.skip ?_
    refine thnN ?_
    refine W.seq ?_
    refine W.block ?_
    refine W.seq ?_
    obtain ⟨x6, hx6, ho1⟩ := Option.bind_eq_some_iff.1 ho1
    obtain ⟨x7, hx7, ho1⟩ := Option.bind_eq_some_iff.1 ho1
    refine W.sub (ψ := [(0, u0), (1, u1), (10, (.bool ((a0.length : Int) != (a1.length : Int)))), (4, (.bool x1)), (5, (.int .i64 x2)), (14, (.bool (decide (x2 < (a0.length : Int)))))]) ⟨rfl, rfl, rfl, rfl, rfl, rfl, trivial⟩ ?_
    refine W.regionP [fun v _ => @Eq Value u0 v, fun v _ => @Eq Value (.int .i64 x2) v, fun v _ => PtI 1 v u0 (Int.toNat x2), fun v _ => @Eq Value (.bool x6) v, fun v _ => @Eq Value u1 v, fun v _ => @Eq Value (.int .i64 x2) v, fun v _ => PtI 1 v u1 (Int.toNat x2), fun v _ => @Eq Value (.bool x7) v, fun v _ => @Eq Value (.bool (x6 != x7)) v] [[], [], [0, 1], [2], [], [], [4, 5], [6], [3, 7]] [8] Try.mixed (by decide +kernel) (by decide +kernel) rfl rfl rfl ?_ ?_
    ·refine ⟨⟨rfl, ?_⟩, ⟨rfl, ?_⟩, ⟨rfl, ?_⟩, ⟨rfl, ?_⟩, ⟨rfl, ?_⟩, ⟨rfl, ?_⟩, ⟨rfl, ?_⟩, ⟨rfl, ?_⟩, ⟨rfl, ?_⟩, trivial⟩
     ·rintro _ rfl
      refine Dep.nil ?_
      refine GuardOK.none rfl ?_
      exact OpV.toD (opv_move rfl rfl) rfl
     ·rintro _ rfl
      refine Dep.nil ?_
      refine GuardOK.none rfl ?_
      exact OpV.toD (opv_move rfl rfl) rfl
     ·rintro _ rfl _ rfl _ rfl
      refine Dep.nil ?_
      refine GuardOK.none rfl ?_
      exact OpV.toS (opv_index rfl Try.underlying40 (by rw [Try.size4]; rfl) rfl rfl g0 hx6) (fun _ h => h)
     ·rintro _ rfl v1 fv1
      refine Dep.nil ?_
      refine GuardOK.none rfl ?_
      exact OpV.toD (opv_loadBl rfl Try.one4 rfl fv1 g0 hx6) rfl
     ·rintro _ rfl
      refine Dep.nil ?_
      refine GuardOK.none rfl ?_
      exact OpV.toD (opv_move rfl rfl) rfl
     ·rintro _ rfl
      refine Dep.nil ?_
      refine GuardOK.none rfl ?_
      exact OpV.toD (opv_move rfl rfl) rfl
     ·rintro _ rfl _ rfl _ rfl
      refine Dep.nil ?_
      refine GuardOK.none rfl ?_
      exact OpV.toS (opv_index rfl Try.underlying40 (by rw [Try.size4]; rfl) rfl rfl g1 hx7) (fun _ h => h)
     ·rintro _ rfl v2 fv2
      refine Dep.nil ?_
      refine GuardOK.none rfl ?_
      exact OpV.toD (opv_loadBl rfl Try.one4 rfl fv2 g1 hx7) rfl
     ·rintro _ rfl _ rfl _ rfl
      refine Dep.nil ?_
      refine GuardOK.none rfl ?_
      exact OpV.toD (opv_bcmp rfl rfl Try.underlying4 rfl rfl) rfl
    rintro _ rfl
    refine Dep.nil ?_
    show RL _ _ _ _ [] _ _
    refine RL.nil ?_
    refine thnN ?_
    by_cases c3 : (x6 != x7) = true
    ·rw [if_pos c3] at ho1
     refine W.condT rfl c3 ?_
     refine W.seq ?_
     refine W.region ?_
     refine RL.opD (by decide) (opv_assign rfl rfl) ?_
     refine RL.nil ?_
     refine thnN ?_
     refine W.ret ?_
     refine blkR ?_
     refine thnR ?_
     have eo1 := Option.some.inj ho1
     subst eo1
     have ey1 := hy1 _ rfl
     subst ey1
     try dsimp only at hp
     refine rndR ?_
     refine blkR ?_
     refine onlyR ?_
     refine thnR ?_
     have er := Option.some.inj hp
     subst er
     exact Rt.one rfl rfl ⟨rfl, rfl⟩
    ·rw [if_neg c3] at ho1
     have c3 := eq_false_of_ne_true c3
     refine W.condF rfl c3 ?_
     refine W.skip ?_
     refine blkN ?_
     refine thnN ?_
     refine W.region ?_
     refine RL.opD (by decide) (opv_move rfl rfl) ?_
     refine RL.opD (by decide) (opv_add rfl rfl rfl) ?_
     refine RL.opD (by decide) (opv_assign rfl rfl) ?_
     refine RL.nil ?_
     have eo1 := Option.some.inj ho1
     subst eo1
     refine rndN (s' := (x1, IntKind.wrap .i64 (x2 + 1))) rfl ?_
     exact ⟨⟨rfl, rfl, rfl, rfl, rfl, trivial⟩, rfl⟩
   ·rw [if_neg c2] at ho1
    have c2 := eq_false_of_ne_true c2
    refine W.condF rfl c2 ?_
    refine W.exit ?_
    refine thnX ?_
    refine rndX ?_
    refine blkI ?_
    have eo1 := Option.some.inj ho1
    subst eo1
    have ey1 := hy1 _ rfl
    subst ey1
    refine onlyN ?_
    exact ⟨x1, x2, decide (x2 < (a0.length : Int)), rfl, ⟨rfl, rfl, rfl, rfl, rfl, rfl, trivial⟩, rfl⟩
  rintro φ' _ ⟨x3, x4, x5, rfl, hs2, rfl⟩
  try dsimp only at hp
  refine thnN ?_
  refine W.sub hs2 ?_
  refine W.seq ?_
  refine W.region ?_
  refine RL.opD (by decide) (opv_assign rfl rfl) ?_
  refine RL.nil ?_
  refine thnN ?_
  refine W.ret ?_
  have er := Option.some.inj hp
  subst er
  exact Rt.one rfl rfl ⟨rfl, rfl⟩

set_option maxRecDepth 20000 in
theorem laws_markBoolS_ok (h0 : Heap) (lo : Nat) (hlo : lo ≤ h0.size) (u0 : Value) (a0 : List (Bool)) (a1 : Int) (S0 : Sep [u0.ownBlock] h0.size h0 [ownO kB 4 u0 a0]) (hB : ∀ b, some b ∈ [u0.ownBlock] → lo ≤ b) (r : (Int × (List (Bool)))) (hp : laws_markBoolS a0 a1 = some r) : CallsH Try.prog 26 ([u0, (.int .i64 a1)].toArray ++ [].toArray) h0 (fun v h' => v = (.int .i64 r.1) ∧ Mod [u0.ownBlock] h0 h' ∧ Sep [u0.ownBlock] h0.size h' [ownO kB 4 u0 r.2]) := by
 unfold laws_markBoolS at hp
 refine callsH_of_W (l := [u0, (.int .i64 a1)]) (cap := []) 21 Try.func26 rfl rfl rfl ?_
 refine W.seq ?_
 refine W.region ?_
 refine RL.opD (by decide) (opv_assign rfl rfl) ?_
 refine RL.nil ?_
 refine thnN ?_
 refine W.seq ?_
 refine W.seq ?_
 refine W.region ?_
 refine RL.opD (by decide) (opv_assign rfl rfl) ?_
 refine RL.nil ?_
 refine thnN ?_
 obtain ⟨y1, hy1, hp⟩ := Option.bind_eq_some_iff.1 hp
 refine W.cut (fun φ' h' => ∃ x4, ∃ x5, ∃ x6, ∃ x7, y1 = (x4, x5, x6, x7) ∧ Fr.sub [(0, u0), (4, (.int .i64 0)), (1, (.int .i64 x4)), (5, (.int .i64 x5)), (9, (.bool x6))] φ' ∧ Mod [u0.ownBlock] h0 h' ∧ Sep [u0.ownBlock] h0.size h' [ownO kB 4 u0 x7]) ?_ ?_
 ·refine W.block ?_
  refine W.loopS (fun (s : (Int × Int × (List (Bool)))) φ' h' => Fr.sub [(0, u0), (4, (.int .i64 0)), (1, (.int .i64 s.1)), (5, (.int .i64 s.2.1))] φ' ∧ Mod [u0.ownBlock] h0 h' ∧ Sep [u0.ownBlock] h0.size h' [ownO kB 4 u0 s.2.2]) hy1 ⟨⟨rfl, rfl, rfl, rfl, trivial⟩, (Mod.refl [u0.ownBlock] h0), (Sep.sel S0 [0] (by decide))⟩ ?_
  rintro ⟨x1, x2, x3⟩ φ' hp1 o1 ⟨hs1, X_1, S_1⟩ ho1 hy1
  have hs1 : Fr.sub [(0, u0), (4, (.int .i64 0)), (1, (.int .i64 x1)), (5, (.int .i64 x2))] φ' := hs1
  have S_1 : Sep [u0.ownBlock] h0.size hp1 [ownO kB 4 u0 x3] := S_1
  have ho1 : laws_markBoolS.s0 x1 x2 x3 = some o1 := ho1
  unfold laws_markBoolS.s0 at ho1
  refine W.sub hs1 ?_
  refine W.seq ?_
  refine W.seq ?_
  refine W.region ?_
  refine RL.opD (by decide) (opv_move rfl rfl) ?_
  refine RL.opD (by decide) (opv_move rfl rfl) ?_
  refine RL.opD (by decide) (opv_len rfl Try.underlying40 rfl (ownO.read (Sep.at (o := ownO kB 4 u0 x3) S_1 0 rfl))) ?_
  refine RL.opD (by decide) (opv_icmp rfl rfl rfl rfl) ?_
  refine RL.nil ?_
  refine thnN ?_
  by_cases c1 : (decide (x2 < (x3.length : Int))) = true
  ·rw [if_pos c1] at ho1
   refine W.condT rfl c1 ?_
   refine W.skip ?_
   refine thnN ?_
   refine W.seq ?_
   refine W.block ?_
   refine W.seq ?_
   obtain ⟨x8, hx8, ho1⟩ := Option.bind_eq_some_iff.1 ho1
   obtain ⟨x9, hx9, ho1⟩ := Option.bind_eq_some_iff.1 ho1
   refine W.region ?_
   refine RL.opD (by decide) (opv_move rfl rfl) ?_
   refine RL.opD (by decide) (opv_move rfl rfl) ?_
   refine RL.opD (by decide) (opv_move rfl rfl) ?_
   refine RL.opD (by decide) (opv_rem rfl (by decide) rfl rfl) ?_
   refine RL.opD (by decide) (opv_icmp rfl rfl rfl rfl) ?_
   refine RL.op _ (by decide) (opv_index rfl Try.underlying40 (by rw [Try.size4]; rfl) rfl rfl (ownO.read (Sep.at (o := ownO kB 4 u0 x3) S_1 0 rfl)) hx8) ?_
   rintro v1 _ ⟨fv1, rfl⟩
   refine RL.op0 _ (opS_storeE (K := kB) rfl Try.size4 rfl rfl fv1 rfl rfl hx9 (Sep.at (o := ownO kB 4 u0 x3) S_1 0 rfl)) ?_
   rintro _ hp2 ⟨rfl, MT_1, T_1⟩
   have S_2 : Sep [u0.ownBlock] h0.size hp1 ([ownO kB 4 u0 x3] ++ []) := Sep.sel S_1 [0] (by decide)
   obtain ⟨X_2, S_3⟩ := Sep.turn X_1 S_2 MT_1 T_1
   refine RL.nil ?_
   refine thnN ?_
   refine W.region ?_
   refine RL.opD (by decide) (opv_move rfl rfl) ?_
   refine RL.opD (by decide) (opv_add rfl rfl rfl) ?_
   refine RL.opD (by decide) (opv_assign rfl rfl) ?_
   refine RL.nil ?_
   refine blkN ?_
   refine thnN ?_
   refine W.region ?_
   refine RL.opD (by decide) (opv_move rfl rfl) ?_
   refine RL.opD (by decide) (opv_add rfl rfl rfl) ?_
   refine RL.opD (by decide) (opv_assign rfl rfl) ?_
   refine RL.nil ?_
   have eo1 := Option.some.inj ho1
   subst eo1
   refine rndN (s' := (IntKind.wrap .i64 (x1 + 1), IntKind.wrap .i64 (x2 + 1), x9)) rfl ?_
   exact ⟨⟨rfl, rfl, rfl, rfl, trivial⟩, X_2, (Sep.sel S_3 [0] (by decide))⟩
  ·rw [if_neg c1] at ho1
   have c1 := eq_false_of_ne_true c1
   refine W.condF rfl c1 ?_
   refine W.exit ?_
   refine thnX ?_
   refine rndX ?_
   refine blkI ?_
   have eo1 := Option.some.inj ho1
   subst eo1
   have ey1 := hy1 _ rfl
   subst ey1
   refine onlyN ?_
   exact ⟨x1, x2, decide (x2 < (x3.length : Int)), x3, rfl, ⟨rfl, rfl, rfl, rfl, rfl, trivial⟩, X_1, (Sep.sel S_1 [0] (by decide))⟩
 rintro φ' hp3 ⟨x4, x5, x6, x7, rfl, hs2, X_3, S_4⟩
 try dsimp only at hp
 refine thnN ?_
 refine W.sub hs2 ?_
 refine W.seq ?_
 refine W.region ?_
 refine RL.opD (by decide) (opv_move rfl rfl) ?_
 refine RL.opD (by decide) (opv_assign rfl rfl) ?_
 refine RL.nil ?_
 refine thnN ?_
 refine W.ret ?_
 have er := Option.some.inj hp
 subst er
 exact Rt.one rfl rfl ⟨rfl, X_3, (Sep.sel S_4 [0] (by decide))⟩

set_option maxRecDepth 20000 in
theorem laws_heldBoolS_ok (h0 : Heap) (u0 : Value) (a0 : List (Bool)) (g0 : SL kB h0.size h0 u0 a0) (a1 : Int) (r : Int) (hp : laws_heldBoolS a0 a1 = some r) : CallsH Try.prog 27 ([u0, (.int .i64 a1)].toArray ++ [].toArray) h0 (fun v h' => v = (.int .i64 r) ∧ h0 = h') := by
 unfold laws_heldBoolS at hp
 refine callsH_of_W (l := [u0, (.int .i64 a1)]) (cap := []) 23 Try.func27 rfl rfl rfl ?_
 refine W.seq ?_
 refine W.region ?_
 refine RL.opD (by decide) (opv_assign rfl rfl) ?_
 refine RL.nil ?_
 refine thnN ?_
 refine W.seq ?_
 refine W.seq ?_
 refine W.region ?_
 refine RL.opD (by decide) (opv_assign rfl rfl) ?_
 refine RL.nil ?_
 refine thnN ?_
 obtain ⟨y1, hy1, hp⟩ := Option.bind_eq_some_iff.1 hp
 refine W.cut (fun φ' h' => ∃ x4, ∃ x5, ∃ x6, ∃ x7, y1 = .inl (x4, x5, x6, x7) ∧ Fr.sub [(0, u0), (1, (.int .i64 x4)), (4, (.int .i64 x5)), (5, (.int .i64 x6)), (9, (.bool x7))] φ' ∧ h0 = h') ?_ ?_
 ·refine W.block ?_
  refine W.loopS (fun (s : (Int × Int × Int)) φ' h' => Fr.sub [(0, u0), (1, (.int .i64 s.1)), (4, (.int .i64 s.2.1)), (5, (.int .i64 s.2.2))] φ' ∧ h0 = h') hy1 ⟨⟨rfl, rfl, rfl, rfl, trivial⟩, rfl⟩ ?_
  rintro ⟨x1, x2, x3⟩ φ' _ o1 ⟨hs1, rfl⟩ ho1 hy1
  have hs1 : Fr.sub [(0, u0), (1, (.int .i64 x1)), (4, (.int .i64 x2)), (5, (.int .i64 x3))] φ' := hs1
  have ho1 : laws_heldBoolS.s0 a0 x1 x2 x3 = some o1 := ho1
  unfold laws_heldBoolS.s0 at ho1
  refine W.sub hs1 ?_
  refine W.seq ?_
  refine W.seq ?_
  refine W.region ?_
  refine RL.opD (by decide) (opv_move rfl rfl) ?_
  refine RL.opD (by decide) (opv_move rfl rfl) ?_
  refine RL.opD (by decide) (opv_len rfl Try.underlying40 rfl g0) ?_
  refine RL.opD (by decide) (opv_icmp rfl rfl rfl rfl) ?_
  refine RL.nil ?_
  refine thnN ?_
  by_cases c1 : (decide (x3 < (a0.length : Int))) = true
  ·rw [if_pos c1] at ho1
   refine W.condT rfl c1 ?_
   refine W.skip ?_
   refine thnN ?_
   refine W.seq ?_
   refine W.block ?_
   refine W.seq ?_
   refine W.seq ?_
   obtain ⟨x8, hx8, ho1⟩ := Option.bind_eq_some_iff.1 ho1
   refine W.region ?_
   refine RL.opD (by decide) (opv_move rfl rfl) ?_
   refine RL.opD (by decide) (opv_move rfl rfl) ?_
   refine RL.op _ (by decide) (opv_index rfl Try.underlying40 (by rw [Try.size4]; rfl) rfl rfl g0 hx8) ?_
   rintro v1 _ ⟨fv1, rfl⟩
   refine RL.opD (by decide) (opv_loadBl rfl Try.one4 rfl fv1 g0 hx8) ?_
   refine RL.opD (by decide) (opv_move rfl rfl) ?_
   refine RL.opD (by decide) (opv_rem rfl (by decide) rfl rfl) ?_
   refine RL.opD (by decide) (opv_icmp rfl rfl rfl rfl) ?_
   refine RL.opD (by decide) (opv_bcmp rfl rfl Try.underlying4 rfl rfl) ?_
   refine RL.nil ?_
   refine thnN ?_
   by_cases c2 : (x8 != ((Int.tmod x1 3) == 0)) = true
   ·rw [if_pos c2] at ho1
    refine W.condT rfl c2 ?_
    refine W.seq ?_
    refine W.region ?_
    refine RL.opD (by decide) (opv_assign rfl rfl) ?_
    refine RL.nil ?_
    refine thnN ?_
    refine W.ret ?_
    refine thnR ?_
    refine blkR ?_
    refine thnR ?_
    have eo1 := Option.some.inj ho1
    subst eo1
    have ey1 := hy1 _ rfl
    subst ey1
    try dsimp only at hp
    refine rndR ?_
    refine blkR ?_
    refine onlyR ?_
    refine thnR ?_
    have er := Option.some.inj hp
    subst er
    exact Rt.one rfl rfl ⟨rfl, rfl⟩
   ·rw [if_neg c2] at ho1
    have c2 := eq_false_of_ne_true c2
    refine W.condF rfl c2 ?_
    refine W.skip ?_
    refine thnN ?_
    refine W.region ?_
    refine RL.opD (by decide) (opv_move rfl rfl) ?_
    refine RL.opD (by decide) (opv_add rfl rfl rfl) ?_
    refine RL.opD (by decide) (opv_assign rfl rfl) ?_
    refine RL.nil ?_
    refine blkN ?_
    refine thnN ?_
    refine W.region ?_
    refine RL.opD (by decide) (opv_move rfl rfl) ?_
    refine RL.opD (by decide) (opv_add rfl rfl rfl) ?_
    refine RL.opD (by decide) (opv_assign rfl rfl) ?_
    refine RL.nil ?_
    have eo1 := Option.some.inj ho1
    subst eo1
    refine rndN (s' := (IntKind.wrap .i64 (x1 + 1), x2, IntKind.wrap .i64 (x3 + 1))) rfl ?_
    exact ⟨⟨rfl, rfl, rfl, rfl, trivial⟩, rfl⟩
  ·rw [if_neg c1] at ho1
   have c1 := eq_false_of_ne_true c1
   refine W.condF rfl c1 ?_
   refine W.exit ?_
   refine thnX ?_
   refine rndX ?_
   refine blkI ?_
   have eo1 := Option.some.inj ho1
   subst eo1
   have ey1 := hy1 _ rfl
   subst ey1
   refine onlyN ?_
   exact ⟨x1, x2, x3, decide (x3 < (a0.length : Int)), rfl, ⟨rfl, rfl, rfl, rfl, rfl, trivial⟩, rfl⟩
 rintro φ' _ ⟨x4, x5, x6, x7, rfl, hs2, rfl⟩
 try dsimp only at hp
 refine thnN ?_
 refine W.sub hs2 ?_
 refine W.seq ?_
 refine W.region ?_
 refine RL.opD (by decide) (opv_move rfl rfl) ?_
 refine RL.opD (by decide) (opv_assign rfl rfl) ?_
 refine RL.nil ?_
 refine thnN ?_
 refine W.ret ?_
 have er := Option.some.inj hp
 subst er
 exact Rt.one rfl rfl ⟨rfl, rfl⟩

set_option maxRecDepth 20000 in
theorem laws_FnExactSleepingBlocks_ok (h0 : Heap) (a0_0 : Int) (a0_1 : Int) (a0_2 : Bool) (u0_3 : Value) (a0_3 : List (Option Nat)) (g0_3 : SL (kF .f32) h0.size h0 u0_3 a0_3) (u0_4 : Value) (a0_4 : List (Option Nat)) (g0_4 : SL (kF .f32) h0.size h0 u0_4 a0_4) (u1_0 : Value) (a1_0 : List (Option Nat)) (g1_0 : SL (kF .f32) h0.size h0 u1_0 a1_0) (u1_1 : Value) (a1_1 : List (Option Nat)) (g1_1 : SL (kF .f32) h0.size h0 u1_1 a1_1) (u1_2 : Value) (a1_2 : List (Option Nat)) (g1_2 : SL (kF .f32) h0.size h0 u1_2 a1_2) (a2 : Int) (r : Bool) (hp : laws_FnExactSleepingBlocks a0_0 a0_1 a0_2 a0_3 a0_4 a1_0 a1_1 a1_2 a2 = some r) : CallsH Try.prog 4 ([(.agg (List.toArray (α := Value) [(.int .i64 a0_0), (.int .i64 a0_1), (.bool a0_2), u0_3, u0_4])), (.agg (List.toArray (α := Value) [u1_0, u1_1, u1_2])), (.int .i64 a2)].toArray ++ [].toArray) h0 (fun v h' => v = (.bool r) ∧ Mod [] h0 h' ∧ Sep [] h0.size h' []) := by
 unfold laws_FnExactSleepingBlocks at hp
 refine callsH_of_W (l := [(.agg (List.toArray (α := Value) [(.int .i64 a0_0), (.int .i64 a0_1), (.bool a0_2), u0_3, u0_4])), (.agg (List.toArray (α := Value) [u1_0, u1_1, u1_2])), (.int .i64 a2)]) (cap := []) 124 Try.func4 rfl rfl rfl ?_
 refine W.seq ?_
 refine W.region ?_
 refine RL.op _ (by decide) (opS_boxed (opv_boxA (cs := [(.int .i64 a0_0), (.int .i64 a0_1), (.bool a0_2), u0_3, u0_4]) rfl rfl)) ?_
 rintro _ hp1 ⟨bb1, rfl, MT_1, T_1⟩
 obtain ⟨X_1, S_1⟩ := Sep.turn0 (Mod.refl [] h0) (Sep.nil [] h0.size h0) MT_1 T_1
 refine RL.op _ (by decide) (opS_boxed (opv_boxA (cs := [u1_0, u1_1, u1_2]) rfl rfl)) ?_
 rintro _ hp2 ⟨bb2, rfl, MT_2, T_2⟩
 obtain ⟨X_2, S_2⟩ := Sep.turn0 X_1 S_1 MT_2 T_2
 refine RL.opD (by decide) (opv_assign rfl rfl) ?_
 refine RL.nil ?_
 refine thnN ?_
 refine W.seq ?_
 refine W.region ?_
 refine RL.opD (by decide) (opv_assign rfl rfl) ?_
 refine RL.nil ?_
 refine thnN ?_
 refine W.seq ?_
 obtain ⟨x1, hx1, hp⟩ := Option.bind_eq_some_iff.1 hp
 refine W.region ?_
 refine RL.opD (by decide) (opv_loadA (us := [(.int .i64 a0_0), (.int .i64 a0_1), (.bool a0_2), u0_3, u0_4]) rfl Try.agg24 Try.size24 rfl (Sep.at (o := boxO bb1 [(.int .i64 a0_0), (.int .i64 a0_1), (.bool a0_2), u0_3, u0_4]) S_2 1 rfl) rfl rfl) ?_
 refine RL.opD (by decide) (opv_move rfl rfl) ?_
 refine RL.op _ (by decide) (opv_call (cap := []) (laws_szSheet_ok _ _ _ _ _ _ (SL.up (SL.mod g0_3 X_2 (Nat.le_refl _) nob) (Nat.le_trans (Nat.le_refl _) (Mod.size X_2))) _ _ (SL.up (SL.mod g0_4 X_2 (Nat.le_refl _) nob) (Nat.le_trans (Nat.le_refl _) (Mod.size X_2))) _ _ hx1) rfl rfl ⟨rfl, rfl, trivial⟩ Try.func12 rfl rfl) ?_
 rintro _ hp3 ⟨rfl, MT_3, T_3⟩
 obtain ⟨X_3, S_3⟩ := Sep.turn0 X_2 S_2 MT_3 T_3
 refine RL.opD (by decide) (opv_assign rfl rfl) ?_
 refine RL.nil ?_
 refine thnN ?_
 refine W.seq ?_
 refine W.seq ?_
 refine W.region ?_
 refine RL.opD (by decide) (opv_move rfl rfl) ?_
 refine RL.opD (by decide) (opv_icmp rfl rfl rfl rfl) ?_
 refine RL.nil ?_
 refine thnN ?_
 by_cases c1 : (decide (x1 < 0)) = true
 ·rw [if_pos c1] at hp
  refine W.condT rfl c1 ?_
  refine W.seq ?_
  refine W.region ?_
  refine RL.opD (by decide) (opv_assign rfl rfl) ?_
  refine RL.nil ?_
  refine thnN ?_
  refine W.ret ?_
  refine thnR ?_
  have er := Option.some.inj hp
  subst er
  exact Rt.one rfl rfl ⟨rfl, X_3, (Sep.nil _ _ _)⟩
 ·rw [if_neg c1] at hp
  have c1 := eq_false_of_ne_true c1
  refine W.condF rfl c1 ?_
  refine W.skip ?_
  refine thnN ?_
  refine W.seq ?_
  obtain ⟨x2, hx2, hp⟩ := Option.bind_eq_some_iff.1 hp
  refine W.region ?_
  refine RL.opD (by decide) (opv_loadA (us := [u1_0, u1_1, u1_2]) rfl Try.agg38 Try.size38 rfl (Sep.at (o := boxO bb2 [u1_0, u1_1, u1_2]) S_3 0 rfl) rfl rfl) ?_
  refine RL.opD (by decide) (opv_move rfl rfl) ?_
  refine RL.op _ (by decide) (opv_call (cap := []) (laws_szField_ok _ _ _ (SL.up (SL.mod g1_0 X_3 (Nat.le_refl _) nob) (Nat.le_trans (Nat.le_refl _) (Mod.size X_3))) _ _ (SL.up (SL.mod g1_1 X_3 (Nat.le_refl _) nob) (Nat.le_trans (Nat.le_refl _) (Mod.size X_3))) _ _ (SL.up (SL.mod g1_2 X_3 (Nat.le_refl _) nob) (Nat.le_trans (Nat.le_refl _) (Mod.size X_3))) _ _ hx2) rfl rfl ⟨rfl, rfl, trivial⟩ Try.func21 rfl rfl) ?_
  rintro _ hp4 ⟨rfl, MT_4, T_4⟩
  obtain ⟨X_4, S_4⟩ := Sep.turn0 X_3 S_3 MT_4 T_4
  refine RL.opD (by decide) (opv_assign rfl rfl) ?_
  refine RL.nil ?_
  refine thnN ?_
  refine W.seq ?_
  refine W.seq ?_
  refine W.region ?_
  refine RL.opD (by decide) (opv_move rfl rfl) ?_
  refine RL.opD (by decide) (opv_icmp rfl rfl rfl rfl) ?_
  refine RL.nil ?_
  refine thnN ?_
  by_cases c2 : (decide (x2 < 0)) = true
  ·rw [if_pos c2] at hp
   refine W.condT rfl c2 ?_
   refine W.seq ?_
   refine W.region ?_
   refine RL.opD (by decide) (opv_assign rfl rfl) ?_
   refine RL.nil ?_
   refine thnN ?_
   refine W.ret ?_
   refine thnR ?_
   have er := Option.some.inj hp
   subst er
   exact Rt.one rfl rfl ⟨rfl, X_4, (Sep.nil _ _ _)⟩
  ·rw [if_neg c2] at hp
   have c2 := eq_false_of_ne_true c2
   refine W.condF rfl c2 ?_
   refine W.skip ?_
   refine thnN ?_
   refine W.seq ?_
   obtain ⟨x3, hx3, hp⟩ := Option.bind_eq_some_iff.1 hp
   obtain ⟨x4, hx4, hp⟩ := Option.bind_eq_some_iff.1 hp
   obtain ⟨x5, hx5, hp⟩ := Option.bind_eq_some_iff.1 hp
   refine W.sub (ψ := [(0, (.agg (List.toArray (α := Value) [(.int .i64 a0_0), (.int .i64 a0_1), (.bool a0_2), u0_3, u0_4]))), (1, (.agg (List.toArray (α := Value) [u1_0, u1_1, u1_2]))), (2, (.int .i64 a2)), (3, (.pointer (some ⟨bb1, 0, none⟩))), (4, (.pointer (some ⟨bb2, 0, none⟩))), (6, (.bool false)), (7, (.int .i64 x2)), (23, (.bool (decide (x1 < 0)))), (28, (.bool (decide (x2 < 0))))]) ⟨rfl, rfl, rfl, rfl, rfl, rfl, rfl, rfl, rfl, trivial⟩ ?_
   refine W.regionM [fun v _ => @Eq Value (.agg (List.toArray (α := Value) [(.int .i64 a0_0), (.int .i64 a0_1), (.bool a0_2), u0_3, u0_4])) v, fun v h => ∃ v1, ∃ v2, @Eq Value v (.agg (List.toArray (α := Value) [(.int .i64 x3.1), (.int .i64 x3.2.1), (.bool x3.2.2.1), v1, v2])) ∧ Sep [] hp4.size h [ownO (kF .f32) 25 v1 x3.2.2.2.1, ownO (kF .f32) 25 v2 x3.2.2.2.2], fun v _ => @Eq Value (.agg (List.toArray (α := Value) [u1_0, u1_1, u1_2])) v, fun v h => ∃ v3, ∃ v4, ∃ v5, @Eq Value v (.agg (List.toArray (α := Value) [v3, v4, v5])) ∧ Sep [] hp4.size h [ownO (kF .f32) 25 v3 x4.1, ownO (kF .f32) 25 v4 x4.2.1, ownO (kF .f32) 25 v5 x4.2.2], fun v _ => @Eq Value (.int .i64 a2) v, fun v h => ∃ v6, @Eq Value v (.tuple (List.toArray (α := Value) [v6, (.bool x5.2)])) ∧ Sep [] hp4.size h [ownO kB 4 v6 x5.1], fun v h => ∃ v6, @Eq Value v (.tuple (List.toArray (α := Value) [v6, (.bool x5.2)])) ∧ Sep [] hp4.size h [ownO kB 4 v6 x5.1], fun v h => ∃ v6, @Eq Value v v6 ∧ Sep [] hp4.size h [ownO kB 4 v6 x5.1], fun v _ => @Eq Value (.bool x5.2) v, fun v h => ∃ v6, @Eq Value v v6 ∧ Sep [] hp4.size h [ownO kB 4 v6 x5.1], fun v _ => @Eq Value (.bool x5.2) v] [none, some (fun u => [Value.ownBlock (vget u 3), Value.ownBlock (vget u 4)]), none, some (fun u => [Value.ownBlock (vget u 0), Value.ownBlock (vget u 1), Value.ownBlock (vget u 2)]), none, some (fun u => [Value.ownBlock (vget u 0)]), none, none, none, none, none] [none, none, none, none, none, none, some (35, fun u => u), some (29, fun u => vget u 0), none, some (36, fun u => u)] [[], [0], [], [2], [], [1, 3, 4], [5], [6], [6], [7], [8]] [5, 6, 7, 9, 10] Try.mixed (by decide +kernel) (by decide +kernel) rfl rfl rfl (by decide +kernel) rfl ⟨fun _ _ _ h _ => h, fun _ _ _ ⟨u0_, u1_, e, h⟩ x => ⟨u0_, u1_, e, h.ext x⟩, fun _ _ _ h _ => h, fun _ _ _ ⟨u0_, u1_, u2_, e, h⟩ x => ⟨u0_, u1_, u2_, e, h.ext x⟩, fun _ _ _ h _ => h, fun _ _ _ ⟨u0_, e, h⟩ x => ⟨u0_, e, h.ext x⟩, fun _ _ _ ⟨u0_, e, h⟩ x => ⟨u0_, e, h.ext x⟩, fun _ _ _ ⟨u0_, e, h⟩ x => ⟨u0_, e, h.ext x⟩, fun _ _ _ h _ => h, fun _ _ _ ⟨u0_, e, h⟩ x => ⟨u0_, e, h.ext x⟩, fun _ _ _ h _ => h, trivial⟩ ?_ ?_
   ·refine ⟨⟨rfl, ?_⟩, ⟨rfl, ?_⟩, ⟨rfl, ?_⟩, ⟨rfl, ?_⟩, ⟨rfl, ?_⟩, ⟨rfl, ?_⟩, ⟨rfl, ?_⟩, ⟨rfl, ?_⟩, ⟨rfl, ?_⟩, ⟨rfl, ?_⟩, ⟨rfl, ?_⟩, trivial⟩
    ·rintro hp8 E_1
     refine Dep.nil ?_
     refine GuardOK.none rfl ?_
     exact OpV.toDx (opv_loadA (us := [(.int .i64 a0_0), (.int .i64 a0_1), (.bool a0_2), u0_3, u0_4]) rfl Try.agg24 Try.size24 rfl (Sep.at (o := boxO bb1 [(.int .i64 a0_0), (.int .i64 a0_1), (.bool a0_2), u0_3, u0_4]) (Sep.ext S_4 E_1) 1 rfl) rfl rfl) rfl
    ·rintro hp9 E_2 _ rfl
     refine Dep.nil ?_
     refine GuardOK.none rfl ?_
     exact OpV.mono (opv_call (cap := []) (laws_toSheet_ok _ _ _ _ _ _ (SL.up (SL.mod g0_3 (Mod.lift X_4 E_2) (Nat.le_refl _) nob) (Nat.le_trans (Nat.le_refl _) (Mod.size (Mod.lift X_4 E_2)))) _ _ (SL.up (SL.mod g0_4 (Mod.lift X_4 E_2) (Nat.le_refl _) nob) (Nat.le_trans (Nat.le_refl _) (Mod.size (Mod.lift X_4 E_2)))) _ hx3) rfl rfl ⟨rfl, trivial⟩ Try.func14 rfl rfl) (by rintro _ _ ⟨v1, v2, rfl, M_, T_⟩; exact ⟨Mod.ext M_, ⟨v1, v2, rfl, Sep.weak T_ (Ext.size E_2)⟩, Sep.fresh T_⟩)
    ·rintro hp10 E_3
     refine Dep.nil ?_
     refine GuardOK.none rfl ?_
     exact OpV.toDx (opv_loadA (us := [u1_0, u1_1, u1_2]) rfl Try.agg38 Try.size38 rfl (Sep.at (o := boxO bb2 [u1_0, u1_1, u1_2]) (Sep.ext S_4 E_3) 0 rfl) rfl rfl) rfl
    ·rintro hp11 E_4 _ rfl
     refine Dep.nil ?_
     refine GuardOK.none rfl ?_
     exact OpV.mono (opv_call (cap := []) (laws_toField_ok _ _ _ (SL.up (SL.mod g1_0 (Mod.lift X_4 E_4) (Nat.le_refl _) nob) (Nat.le_trans (Nat.le_refl _) (Mod.size (Mod.lift X_4 E_4)))) _ _ (SL.up (SL.mod g1_1 (Mod.lift X_4 E_4) (Nat.le_refl _) nob) (Nat.le_trans (Nat.le_refl _) (Mod.size (Mod.lift X_4 E_4)))) _ _ (SL.up (SL.mod g1_2 (Mod.lift X_4 E_4) (Nat.le_refl _) nob) (Nat.le_trans (Nat.le_refl _) (Mod.size (Mod.lift X_4 E_4)))) _ hx4) rfl rfl ⟨rfl, trivial⟩ Try.func23 rfl rfl) (by rintro _ _ ⟨v3, v4, v5, rfl, M_, T_⟩; exact ⟨Mod.ext M_, ⟨v3, v4, v5, rfl, Sep.weak T_ (Ext.size E_4)⟩, Sep.fresh T_⟩)
    ·rintro hp12 E_5
     refine Dep.nil ?_
     refine GuardOK.none rfl ?_
     exact OpV.toDx (opv_move rfl rfl) rfl
    ·rintro hp13 E_6 _ ⟨v1, v2, rfl, T_5⟩ _ ⟨v3, v4, v5, rfl, T_6⟩ _ rfl
     refine Dep.nil ?_
     refine GuardOK.none rfl ?_
     exact OpV.mono (opv_call (cap := []) (spec_SleepingBlocks_ok _ _ _ _ _ _ (ownO.read (Sep.at (o := ownO (kF .f32) 25 v1 x3.2.2.2.1) T_5 0 rfl)) _ _ (ownO.read (Sep.at (o := ownO (kF .f32) 25 v2 x3.2.2.2.2) T_5 1 rfl)) _ _ (ownO.read (Sep.at (o := ownO (kF .f32) 25 v3 x4.1) T_6 0 rfl)) _ _ (ownO.read (Sep.at (o := ownO (kF .f32) 25 v4 x4.2.1) T_6 1 rfl)) _ _ (ownO.read (Sep.at (o := ownO (kF .f32) 25 v5 x4.2.2) T_6 2 rfl)) _ _ hx5) rfl rfl ⟨rfl, rfl, rfl, trivial⟩ Try.func22 rfl rfl) (by rintro _ _ ⟨v6, rfl, M_, T_⟩; exact ⟨Mod.ext M_, ⟨v6, rfl, Sep.weak T_ (Ext.size E_6)⟩, Sep.fresh T_⟩)
    ·rintro hp14 E_7 _ ⟨v6, rfl, T_7⟩
     refine Dep.nil ?_
     refine GuardOK.none rfl ?_
     exact OpV.mono (opv_move rfl rfl) (by rintro _ _ ⟨rfl, rfl⟩; exact ⟨⟨Ext.refl _, v6, rfl, T_7⟩, _, rfl, rfl⟩)
    ·rintro hp15 E_8 _ ⟨v6, rfl, T_7⟩
     refine Dep.nil ?_
     refine GuardOK.none rfl ?_
     exact OpV.mono (opv_extract rfl rfl rfl) (by rintro _ _ ⟨rfl, rfl⟩; exact ⟨⟨Ext.refl _, v6, rfl, T_7⟩, _, rfl, rfl⟩)
    ·rintro hp16 E_9 _ ⟨v6, rfl, T_7⟩
     refine Dep.nil ?_
     refine GuardOK.none rfl ?_
     exact OpV.toDx (opv_extract rfl rfl rfl) rfl
    ·rintro hp17 E_10 v6 ⟨_, rfl, T_7⟩
     refine Dep.nil ?_
     refine GuardOK.none rfl ?_
     exact OpV.mono (opv_assign rfl rfl) (by rintro _ _ ⟨rfl, rfl⟩; exact ⟨⟨Ext.refl _, v6, rfl, T_7⟩, _, rfl, rfl⟩)
    ·rintro hp18 E_11 _ rfl
     refine Dep.nil ?_
     refine GuardOK.none rfl ?_
     exact OpV.toDx (opv_assign rfl rfl) rfl
   rintro hp19 E_12 _ ⟨v6, rfl, T_7⟩ z6_ _ z7_ _ z9_ _ _ rfl
   refine DepM.nil ?_
   intro PW_1 LK_
   have ez6_ : z6_ = (.tuple (List.toArray (α := Value) [v6, (.bool x5.2)])) := LK_ 6 _ _ _ _ _ (by decide) rfl rfl rfl rfl
   subst z6_
   have ez7_ : z7_ = v6 := LK_ 7 _ _ _ _ _ (by decide) rfl rfl rfl rfl
   subst z7_
   have ez9_ : z9_ = v6 := LK_ 9 _ _ _ _ _ (by decide) rfl rfl rfl rfl
   subst z9_
   have X_8 := Mod.lift X_4 E_12
   have S_8 := Sep.join S_4 (Mod.size X_4) (Ext.mod E_12 []) T_7
   show RL _ _ _ _ [] _ _
   refine RL.nil ?_
   refine thnN ?_
   refine W.seq ?_
   obtain ⟨x6, hx6, hp⟩ := Option.bind_eq_some_iff.1 hp
   refine W.region ?_
   refine RL.opD (by decide) (opv_loadA (us := [(.int .i64 a0_0), (.int .i64 a0_1), (.bool a0_2), u0_3, u0_4]) rfl Try.agg24 Try.size24 rfl (Sep.at (o := boxO bb1 [(.int .i64 a0_0), (.int .i64 a0_1), (.bool a0_2), u0_3, u0_4]) S_8 2 rfl) rfl rfl) ?_
   refine RL.op _ (by decide) (opv_call (cap := []) (laws_toSheet_ok _ _ _ _ _ _ (SL.up (SL.mod g0_3 X_8 (Nat.le_refl _) nob) (Nat.le_trans (Nat.le_refl _) (Mod.size X_8))) _ _ (SL.up (SL.mod g0_4 X_8 (Nat.le_refl _) nob) (Nat.le_trans (Nat.le_refl _) (Mod.size X_8))) _ hx6) rfl rfl ⟨rfl, trivial⟩ Try.func14 rfl rfl) ?_
   rintro _ hp20 ⟨v13, v14, rfl, MT_8, T_8⟩
   obtain ⟨X_9, S_9⟩ := Sep.turn0 X_8 S_8 MT_8 T_8
   refine RL.op _ (by decide) (opS_boxed (opv_alloc (cs := [(.int .i64 0), (.int .i64 0), (.bool false), (.slice none 0 0), (.slice none 0 0)]) rfl Try.zero31 rfl)) ?_
   rintro _ hp21 ⟨bb3, rfl, MT_9, T_9⟩
   obtain ⟨X_10, S_10⟩ := Sep.turn0 X_9 S_9 MT_9 T_9
   refine RL.op0 _ (opS_stored (cs := [(.int .i64 0), (.int .i64 0), (.bool false), (.slice none 0 0), (.slice none 0 0)]) (cs' := [(.int .i64 x6.1), (.int .i64 x6.2.1), (.bool x6.2.2.1), v13, v14]) (opv_storeA (us := [(.int .i64 x6.1), (.int .i64 x6.2.1), (.bool x6.2.2.1), v13, v14]) rfl Try.size31 rfl rfl (oneAll rfl (oneAll rfl (oneAll rfl (oneAll (ownO.one (Sep.at (o := ownO (kF .f32) 25 v13 x6.2.2.2.1) S_10 1 rfl)) (oneAll (ownO.one (Sep.at (o := ownO (kF .f32) 25 v14 x6.2.2.2.2) S_10 2 rfl)) rfl))))) (Sep.at (o := boxO bb3 [(.int .i64 0), (.int .i64 0), (.bool false), (.slice none 0 0), (.slice none 0 0)]) S_10 0 rfl) rfl rfl) (Sep.at (o := boxO bb3 [(.int .i64 0), (.int .i64 0), (.bool false), (.slice none 0 0), (.slice none 0 0)]) S_10 0 rfl)) ?_
   rintro _ hp22 ⟨rfl, MT_10, T_10⟩
   have S_11 : Sep [] h0.size hp21 ([boxO bb3 [(.int .i64 0), (.int .i64 0), (.bool false), (.slice none 0 0), (.slice none 0 0)]] ++ [ownO (kF .f32) 25 v13 x6.2.2.2.1, ownO (kF .f32) 25 v14 x6.2.2.2.2, ownO kB 4 v6 x5.1, boxO bb2 [u1_0, u1_1, u1_2], boxO bb1 [(.int .i64 a0_0), (.int .i64 a0_1), (.bool a0_2), u0_3, u0_4]]) := Sep.sel S_10 [0, 1, 2, 3, 4, 5] (by decide)
   obtain ⟨X_11, S_12⟩ := Sep.turn X_10 S_11 MT_10 T_10
   refine RL.nil ?_
   refine thnN ?_
   refine W.seq ?_
   obtain ⟨x7, hx7, hp⟩ := Option.bind_eq_some_iff.1 hp
   refine W.region ?_
   refine RL.opD (by decide) (opv_loadA (us := [u1_0, u1_1, u1_2]) rfl Try.agg38 Try.size38 rfl (Sep.at (o := boxO bb2 [u1_0, u1_1, u1_2]) S_12 4 rfl) rfl rfl) ?_
   refine RL.op _ (by decide) (opv_call (cap := []) (laws_toField_ok _ _ _ (SL.up (SL.mod g1_0 X_11 (Nat.le_refl _) nob) (Nat.le_trans (Nat.le_refl _) (Mod.size X_11))) _ _ (SL.up (SL.mod g1_1 X_11 (Nat.le_refl _) nob) (Nat.le_trans (Nat.le_refl _) (Mod.size X_11))) _ _ (SL.up (SL.mod g1_2 X_11 (Nat.le_refl _) nob) (Nat.le_trans (Nat.le_refl _) (Mod.size X_11))) _ hx7) rfl rfl ⟨rfl, trivial⟩ Try.func23 rfl rfl) ?_
   rintro _ hp23 ⟨v15, v16, v17, rfl, MT_11, T_11⟩
   obtain ⟨X_12, S_13⟩ := Sep.turn0 X_11 S_12 MT_11 T_11
   refine RL.op _ (by decide) (opS_boxed (opv_alloc (cs := [(.slice none 0 0), (.slice none 0 0), (.slice none 0 0)]) rfl Try.zero28 rfl)) ?_
   rintro _ hp24 ⟨bb4, rfl, MT_12, T_12⟩
   obtain ⟨X_13, S_14⟩ := Sep.turn0 X_12 S_13 MT_12 T_12
   refine RL.op0 _ (opS_stored (cs := [(.slice none 0 0), (.slice none 0 0), (.slice none 0 0)]) (cs' := [v15, v16, v17]) (opv_storeA (us := [v15, v16, v17]) rfl Try.size28 rfl rfl (oneAll (ownO.one (Sep.at (o := ownO (kF .f32) 25 v15 x7.1) S_14 1 rfl)) (oneAll (ownO.one (Sep.at (o := ownO (kF .f32) 25 v16 x7.2.1) S_14 2 rfl)) (oneAll (ownO.one (Sep.at (o := ownO (kF .f32) 25 v17 x7.2.2) S_14 3 rfl)) rfl))) (Sep.at (o := boxO bb4 [(.slice none 0 0), (.slice none 0 0), (.slice none 0 0)]) S_14 0 rfl) rfl rfl) (Sep.at (o := boxO bb4 [(.slice none 0 0), (.slice none 0 0), (.slice none 0 0)]) S_14 0 rfl)) ?_
   rintro _ hp25 ⟨rfl, MT_13, T_13⟩
   have S_15 : Sep [] h0.size hp24 ([boxO bb4 [(.slice none 0 0), (.slice none 0 0), (.slice none 0 0)]] ++ [ownO (kF .f32) 25 v15 x7.1, ownO (kF .f32) 25 v16 x7.2.1, ownO (kF .f32) 25 v17 x7.2.2, boxO bb3 [(.int .i64 x6.1), (.int .i64 x6.2.1), (.bool x6.2.2.1), v13, v14], ownO (kF .f32) 25 v13 x6.2.2.2.1, ownO (kF .f32) 25 v14 x6.2.2.2.2, ownO kB 4 v6 x5.1, boxO bb2 [u1_0, u1_1, u1_2], boxO bb1 [(.int .i64 a0_0), (.int .i64 a0_1), (.bool a0_2), u0_3, u0_4]]) := Sep.sel S_14 [0, 1, 2, 3, 4, 5, 6, 7, 8, 9] (by decide)
   obtain ⟨X_14, S_16⟩ := Sep.turn X_13 S_15 MT_13 T_13
   refine RL.nil ?_
   refine thnN ?_
   refine W.seq ?_
   obtain ⟨x8, hx8, hp⟩ := Option.bind_eq_some_iff.1 hp
   refine W.region ?_
   refine RL.opD (by decide) (opv_loadA (us := [(.int .i64 x6.1), (.int .i64 x6.2.1), (.bool x6.2.2.1), v13, v14]) rfl Try.agg31 Try.size31 rfl (Sep.at (o := boxO bb3 [(.int .i64 x6.1), (.int .i64 x6.2.1), (.bool x6.2.2.1), v13, v14]) S_16 4 rfl) rfl rfl) ?_
   refine RL.opD (by decide) (opv_loadA (us := [v15, v16, v17]) rfl Try.agg28 Try.size28 rfl (Sep.at (o := boxO bb4 [v15, v16, v17]) S_16 0 rfl) rfl rfl) ?_
   refine RL.opD (by decide) (opv_move rfl rfl) ?_
   refine RL.op _ (by decide) (opv_call (cap := []) (impl_SleepingBlocks_ok _ _ _ _ _ _ (ownO.read (Sep.at (o := ownO (kF .f32) 25 v13 x6.2.2.2.1) S_16 5 rfl)) _ _ (ownO.read (Sep.at (o := ownO (kF .f32) 25 v14 x6.2.2.2.2) S_16 6 rfl)) _ _ (ownO.read (Sep.at (o := ownO (kF .f32) 25 v15 x7.1) S_16 1 rfl)) _ _ (ownO.read (Sep.at (o := ownO (kF .f32) 25 v16 x7.2.1) S_16 2 rfl)) _ _ (ownO.read (Sep.at (o := ownO (kF .f32) 25 v17 x7.2.2) S_16 3 rfl)) _ _ hx8) rfl rfl ⟨rfl, rfl, rfl, trivial⟩ Try.func24 rfl rfl) ?_
   rintro _ hp26 ⟨v18, rfl, MT_14, T_14⟩
   obtain ⟨X_15, S_17⟩ := Sep.turn0 X_14 S_16 MT_14 T_14
   refine RL.opD (by decide) (opv_move rfl rfl) ?_
   refine RL.opD (by decide) (opv_extract rfl rfl rfl) ?_
   refine RL.opD (by decide) (opv_extract rfl rfl rfl) ?_
   refine RL.opD (by decide) (opv_assign rfl rfl) ?_
   refine RL.opD (by decide) (opv_assign rfl rfl) ?_
   refine RL.nil ?_
   refine thnN ?_
   refine W.seq ?_
   refine W.seq ?_
   obtain ⟨x9, hy1, hp⟩ := Option.bind_eq_some_iff.1 hp
   refine W.cut (fun φ' h' => Fr.sub [(0, (.agg (List.toArray (α := Value) [(.int .i64 a0_0), (.int .i64 a0_1), (.bool a0_2), u0_3, u0_4]))), (1, (.agg (List.toArray (α := Value) [u1_0, u1_1, u1_2]))), (2, (.int .i64 a2)), (3, (.pointer (some ⟨bb1, 0, none⟩))), (4, (.pointer (some ⟨bb2, 0, none⟩))), (6, (.bool false)), (7, (.int .i64 x2)), (23, (.bool (decide (x1 < 0)))), (28, (.bool (decide (x2 < 0)))), (8, v6), (9, (.bool x5.2)), (10, (.pointer (some ⟨bb3, 0, none⟩))), (11, (.pointer (some ⟨bb4, 0, none⟩))), (12, v18), (13, (.bool x8.2)), (57, (.bool x9))] φ' ∧ hp26 = h') ?_ ?_
   ·obtain ⟨x10, hx10, hy1⟩ := Option.bind_eq_some_iff.1 hy1
    by_cases c3 : (!x10) = true
    ·rw [if_pos c3] at hy1
     refine W.region ?_
     refine RL.opD (by decide) (opv_move rfl rfl) ?_
     refine RL.opD (by decide) (opv_move rfl rfl) ?_
     refine RL.op _ (by decide) (opv_call (cap := []) (laws_eqBoolS_ok _ _ _ (ownO.read (Sep.at (o := ownO kB 4 v18 x8.1) S_17 0 rfl)) _ _ (ownO.read (Sep.at (o := ownO kB 4 v6 x5.1) S_17 8 rfl)) _ hx10) rfl rfl ⟨rfl, rfl, trivial⟩ Try.func25 rfl rfl) ?_
     rintro _ _ ⟨rfl, rfl⟩
     refine RL.opD (by decide) (opv_not rfl rfl) ?_
     refine RL.opD (by decide) (opv_move rfl rfl) ?_
     refine RL.noT rfl rfl c3 (by decide) ?_
     refine RL.noT rfl rfl c3 (by decide) ?_
     refine RL.noT rfl rfl c3 (by decide) ?_
     refine RL.opD (by decide) (opv_pick rfl rfl (fun _ => rfl) (fun e => absurd (Eq.trans (Eq.symm e) c3) (by decide)) rfl) ?_
     refine RL.nil ?_
     have ey1 := Option.some.inj hy1
     subst ey1
     refine onlyN ?_
     exact ⟨⟨rfl, rfl, rfl, rfl, rfl, rfl, rfl, rfl, rfl, rfl, rfl, rfl, rfl, rfl, rfl, rfl, trivial⟩, rfl⟩
    ·rw [if_neg c3] at hy1
     have c3 := eq_false_of_ne_true c3
     refine W.region ?_
     refine RL.opD (by decide) (opv_move rfl rfl) ?_
     refine RL.opD (by decide) (opv_move rfl rfl) ?_
     refine RL.op _ (by decide) (opv_call (cap := []) (laws_eqBoolS_ok _ _ _ (ownO.read (Sep.at (o := ownO kB 4 v18 x8.1) S_17 0 rfl)) _ _ (ownO.read (Sep.at (o := ownO kB 4 v6 x5.1) S_17 8 rfl)) _ hx10) rfl rfl ⟨rfl, rfl, trivial⟩ Try.func25 rfl rfl) ?_
     rintro _ _ ⟨rfl, rfl⟩
     refine RL.opD (by decide) (opv_not rfl rfl) ?_
     refine RL.opD (by decide) (opv_move rfl rfl) ?_
     refine RL.yesD rfl rfl c3 (by decide) (opv_move rfl rfl) ?_
     refine RL.yesD rfl rfl c3 (by decide) (opv_move rfl rfl) ?_
     refine RL.yesD rfl rfl c3 (by decide) (opv_bcmp rfl rfl Try.underlying4 rfl rfl) ?_
     refine RL.opD (by decide) (opv_pick rfl rfl (fun e => absurd (Eq.trans (Eq.symm e) c3) (by decide)) (fun _ => rfl) rfl) ?_
     refine RL.nil ?_
     have ey1 := Option.some.inj hy1
     subst ey1
     refine onlyN ?_
     exact ⟨⟨rfl, rfl, rfl, rfl, rfl, rfl, rfl, rfl, rfl, rfl, rfl, rfl, rfl, rfl, rfl, rfl, trivial⟩, rfl⟩
   rintro φ' _ ⟨hs1, rfl⟩
   refine thnN ?_
   refine W.sub hs1 ?_
   by_cases c4 : x9 = true
   ·rw [if_pos c4] at hp
    refine W.condT rfl c4 ?_
    refine W.seq ?_
    refine W.region ?_
    refine RL.opD (by decide) (opv_assign rfl rfl) ?_
    refine RL.nil ?_
    refine thnN ?_
    refine W.ret ?_
    refine thnR ?_
    have er := Option.some.inj hp
    subst er
    exact Rt.one rfl rfl ⟨rfl, X_15, (Sep.nil _ _ _)⟩
   ·rw [if_neg c4] at hp
    have c4 := eq_false_of_ne_true c4
    refine W.condF rfl c4 ?_
    refine W.skip ?_
    refine thnN ?_
    refine W.seq ?_
    refine W.seq ?_
    obtain ⟨x11, hx11, hp⟩ := Option.bind_eq_some_iff.1 hp
    obtain ⟨x12, hx12, hp⟩ := Option.bind_eq_some_iff.1 hp
    refine W.sub (ψ := [(0, (.agg (List.toArray (α := Value) [(.int .i64 a0_0), (.int .i64 a0_1), (.bool a0_2), u0_3, u0_4]))), (1, (.agg (List.toArray (α := Value) [u1_0, u1_1, u1_2]))), (2, (.int .i64 a2)), (3, (.pointer (some ⟨bb1, 0, none⟩))), (4, (.pointer (some ⟨bb2, 0, none⟩))), (6, (.bool false)), (7, (.int .i64 x2)), (23, (.bool (decide (x1 < 0)))), (28, (.bool (decide (x2 < 0)))), (8, v6), (9, (.bool x5.2)), (10, (.pointer (some ⟨bb3, 0, none⟩))), (11, (.pointer (some ⟨bb4, 0, none⟩))), (12, v18), (13, (.bool x8.2)), (57, (.bool x9))]) ⟨rfl, rfl, rfl, rfl, rfl, rfl, rfl, rfl, rfl, rfl, rfl, rfl, rfl, rfl, rfl, rfl, trivial⟩ ?_
    refine W.regionM [fun v _ => @Eq Value (.agg (List.toArray (α := Value) [(.int .i64 x6.1), (.int .i64 x6.2.1), (.bool x6.2.2.1), v13, v14])) v, fun v _ => @Eq Value (.agg (List.toArray (α := Value) [(.int .i64 a0_0), (.int .i64 a0_1), (.bool a0_2), u0_3, u0_4])) v, fun v h => ∃ v19, ∃ v20, @Eq Value v (.agg (List.toArray (α := Value) [(.int .i64 x11.1), (.int .i64 x11.2.1), (.bool x11.2.2.1), v19, v20])) ∧ Sep [] hp26.size h [ownO (kF .f32) 25 v19 x11.2.2.2.1, ownO (kF .f32) 25 v20 x11.2.2.2.2], fun v h => @Eq Value v (.bool x12) ∧ Sep [] hp26.size h [], fun v _ => @Eq Value (.bool (!x12)) v] [none, none, some (fun u => [Value.ownBlock (vget u 3), Value.ownBlock (vget u 4)]), some (fun u => []), none] [] [[], [], [1], [0, 2], [3]] [4] Try.mixed (by decide +kernel) (by decide +kernel) rfl rfl rfl (by decide +kernel) rfl ⟨fun _ _ _ h _ => h, fun _ _ _ h _ => h, fun _ _ _ ⟨u0_, u1_, e, h⟩ x => ⟨u0_, u1_, e, h.ext x⟩, fun _ _ _ ⟨e, h⟩ x => ⟨e, h.ext x⟩, fun _ _ _ h _ => h, trivial⟩ ?_ ?_
    ·refine ⟨⟨rfl, ?_⟩, ⟨rfl, ?_⟩, ⟨rfl, ?_⟩, ⟨rfl, ?_⟩, ⟨rfl, ?_⟩, trivial⟩
     ·rintro hp29 E_13
      refine Dep.nil ?_
      refine GuardOK.none rfl ?_
      exact OpV.toDx (opv_loadA (us := [(.int .i64 x6.1), (.int .i64 x6.2.1), (.bool x6.2.2.1), v13, v14]) rfl Try.agg31 Try.size31 rfl (Sep.at (o := boxO bb3 [(.int .i64 x6.1), (.int .i64 x6.2.1), (.bool x6.2.2.1), v13, v14]) (Sep.ext S_17 E_13) 5 rfl) rfl rfl) rfl
     ·rintro hp30 E_14
      refine Dep.nil ?_
      refine GuardOK.none rfl ?_
      exact OpV.toDx (opv_loadA (us := [(.int .i64 a0_0), (.int .i64 a0_1), (.bool a0_2), u0_3, u0_4]) rfl Try.agg24 Try.size24 rfl (Sep.at (o := boxO bb1 [(.int .i64 a0_0), (.int .i64 a0_1), (.bool a0_2), u0_3, u0_4]) (Sep.ext S_17 E_14) 10 rfl) rfl rfl) rfl
     ·rintro hp31 E_15 _ rfl
      refine Dep.nil ?_
      refine GuardOK.none rfl ?_
      exact OpV.mono (opv_call (cap := []) (laws_toSheet_ok _ _ _ _ _ _ (SL.up (SL.mod g0_3 (Mod.lift X_15 E_15) (Nat.le_refl _) nob) (Nat.le_trans (Nat.le_refl _) (Mod.size (Mod.lift X_15 E_15)))) _ _ (SL.up (SL.mod g0_4 (Mod.lift X_15 E_15) (Nat.le_refl _) nob) (Nat.le_trans (Nat.le_refl _) (Mod.size (Mod.lift X_15 E_15)))) _ hx11) rfl rfl ⟨rfl, trivial⟩ Try.func14 rfl rfl) (by rintro _ _ ⟨v19, v20, rfl, M_, T_⟩; exact ⟨Mod.ext M_, ⟨v19, v20, rfl, Sep.weak T_ (Ext.size E_15)⟩, Sep.fresh T_⟩)
     ·rintro hp32 E_16 _ rfl _ ⟨v19, v20, rfl, T_15⟩
      refine Dep.nil ?_
      refine GuardOK.none rfl ?_
      exact OpV.mono (opv_call (cap := []) (laws_eqSheet_ok _ _ _ _ _ _ (ownO.read (Sep.at (o := ownO (kF .f32) 25 v13 x6.2.2.2.1) (Sep.ext S_17 E_16) 6 rfl)) _ _ (ownO.read (Sep.at (o := ownO (kF .f32) 25 v14 x6.2.2.2.2) (Sep.ext S_17 E_16) 7 rfl)) _ _ _ _ _ (ownO.read (Sep.at (o := ownO (kF .f32) 25 v19 x11.2.2.2.1) T_15 0 rfl)) _ _ (ownO.read (Sep.at (o := ownO (kF .f32) 25 v20 x11.2.2.2.2) T_15 1 rfl)) _ hx12) rfl rfl ⟨rfl, rfl, trivial⟩ Try.func17 rfl rfl) (by rintro _ _ ⟨rfl, M_, T_⟩; exact ⟨Mod.ext M_, ⟨rfl, Sep.weak T_ (Ext.size E_16)⟩, Sep.fresh T_⟩)
     ·rintro hp33 E_17 _ ⟨rfl, T_16⟩
      refine Dep.nil ?_
      refine GuardOK.none rfl ?_
      exact OpV.toDx (opv_not rfl rfl) rfl
    rintro hp34 E_18 _ rfl
    refine DepM.nil ?_
    intro _ LK_
    have X_18 := Mod.lift X_15 E_18
    have S_20 := Sep.ext S_17 E_18
    show RL _ _ _ _ [] _ _
    refine RL.nil ?_
    refine thnN ?_
    by_cases c5 : (!x12) = true
    ·rw [if_pos c5] at hp
     refine W.condT rfl c5 ?_
     refine W.seq ?_
     refine W.region ?_
     refine RL.opD (by decide) (opv_assign rfl rfl) ?_
     refine RL.nil ?_
     refine thnN ?_
     refine W.ret ?_
     refine thnR ?_
     have er := Option.some.inj hp
     subst er
     exact Rt.one rfl rfl ⟨rfl, X_18, (Sep.nil _ _ _)⟩
    ·rw [if_neg c5] at hp
     have c5 := eq_false_of_ne_true c5
     refine W.condF rfl c5 ?_
     refine W.skip ?_
     refine thnN ?_
     refine W.seq ?_
     refine W.seq ?_
     obtain ⟨x13, hx13, hp⟩ := Option.bind_eq_some_iff.1 hp
     obtain ⟨x14, hx14, hp⟩ := Option.bind_eq_some_iff.1 hp
     refine W.sub (ψ := [(0, (.agg (List.toArray (α := Value) [(.int .i64 a0_0), (.int .i64 a0_1), (.bool a0_2), u0_3, u0_4]))), (1, (.agg (List.toArray (α := Value) [u1_0, u1_1, u1_2]))), (2, (.int .i64 a2)), (3, (.pointer (some ⟨bb1, 0, none⟩))), (4, (.pointer (some ⟨bb2, 0, none⟩))), (6, (.bool false)), (7, (.int .i64 x2)), (23, (.bool (decide (x1 < 0)))), (28, (.bool (decide (x2 < 0)))), (8, v6), (9, (.bool x5.2)), (10, (.pointer (some ⟨bb3, 0, none⟩))), (11, (.pointer (some ⟨bb4, 0, none⟩))), (12, v18), (13, (.bool x8.2)), (57, (.bool x9)), (62, (.bool (!x12)))]) ⟨rfl, rfl, rfl, rfl, rfl, rfl, rfl, rfl, rfl, rfl, rfl, rfl, rfl, rfl, rfl, rfl, rfl, trivial⟩ ?_
     refine W.regionM [fun v _ => @Eq Value (.agg (List.toArray (α := Value) [v15, v16, v17])) v, fun v _ => @Eq Value (.agg (List.toArray (α := Value) [u1_0, u1_1, u1_2])) v, fun v h => ∃ v23, ∃ v24, ∃ v25, @Eq Value v (.agg (List.toArray (α := Value) [v23, v24, v25])) ∧ Sep [] hp34.size h [ownO (kF .f32) 25 v23 x13.1, ownO (kF .f32) 25 v24 x13.2.1, ownO (kF .f32) 25 v25 x13.2.2], fun v h => @Eq Value v (.bool x14) ∧ Sep [] hp34.size h [], fun v _ => @Eq Value (.bool (!x14)) v] [none, none, some (fun u => [Value.ownBlock (vget u 0), Value.ownBlock (vget u 1), Value.ownBlock (vget u 2)]), some (fun u => []), none] [] [[], [], [1], [0, 2], [3]] [4] Try.mixed (by decide +kernel) (by decide +kernel) rfl rfl rfl (by decide +kernel) rfl ⟨fun _ _ _ h _ => h, fun _ _ _ h _ => h, fun _ _ _ ⟨u0_, u1_, u2_, e, h⟩ x => ⟨u0_, u1_, u2_, e, h.ext x⟩, fun _ _ _ ⟨e, h⟩ x => ⟨e, h.ext x⟩, fun _ _ _ h _ => h, trivial⟩ ?_ ?_
     ·refine ⟨⟨rfl, ?_⟩, ⟨rfl, ?_⟩, ⟨rfl, ?_⟩, ⟨rfl, ?_⟩, ⟨rfl, ?_⟩, trivial⟩
      ·rintro hp37 E_19
       refine Dep.nil ?_
       refine GuardOK.none rfl ?_
       exact OpV.toDx (opv_loadA (us := [v15, v16, v17]) rfl Try.agg28 Try.size28 rfl (Sep.at (o := boxO bb4 [v15, v16, v17]) (Sep.ext S_20 E_19) 1 rfl) rfl rfl) rfl
      ·rintro hp38 E_20
       refine Dep.nil ?_
       refine GuardOK.none rfl ?_
       exact OpV.toDx (opv_loadA (us := [u1_0, u1_1, u1_2]) rfl Try.agg38 Try.size38 rfl (Sep.at (o := boxO bb2 [u1_0, u1_1, u1_2]) (Sep.ext S_20 E_20) 9 rfl) rfl rfl) rfl
      ·rintro hp39 E_21 _ rfl
       refine Dep.nil ?_
       refine GuardOK.none rfl ?_
       exact OpV.mono (opv_call (cap := []) (laws_toField_ok _ _ _ (SL.up (SL.mod g1_0 (Mod.lift X_18 E_21) (Nat.le_refl _) nob) (Nat.le_trans (Nat.le_refl _) (Mod.size (Mod.lift X_18 E_21)))) _ _ (SL.up (SL.mod g1_1 (Mod.lift X_18 E_21) (Nat.le_refl _) nob) (Nat.le_trans (Nat.le_refl _) (Mod.size (Mod.lift X_18 E_21)))) _ _ (SL.up (SL.mod g1_2 (Mod.lift X_18 E_21) (Nat.le_refl _) nob) (Nat.le_trans (Nat.le_refl _) (Mod.size (Mod.lift X_18 E_21)))) _ hx13) rfl rfl ⟨rfl, trivial⟩ Try.func23 rfl rfl) (by rintro _ _ ⟨v23, v24, v25, rfl, M_, T_⟩; exact ⟨Mod.ext M_, ⟨v23, v24, v25, rfl, Sep.weak T_ (Ext.size E_21)⟩, Sep.fresh T_⟩)
      ·rintro hp40 E_22 _ rfl _ ⟨v23, v24, v25, rfl, T_17⟩
       refine Dep.nil ?_
       refine GuardOK.none rfl ?_
       exact OpV.mono (opv_call (cap := []) (laws_eqField_ok _ _ _ (ownO.read (Sep.at (o := ownO (kF .f32) 25 v15 x7.1) (Sep.ext S_20 E_22) 2 rfl)) _ _ (ownO.read (Sep.at (o := ownO (kF .f32) 25 v16 x7.2.1) (Sep.ext S_20 E_22) 3 rfl)) _ _ (ownO.read (Sep.at (o := ownO (kF .f32) 25 v17 x7.2.2) (Sep.ext S_20 E_22) 4 rfl)) _ _ (ownO.read (Sep.at (o := ownO (kF .f32) 25 v23 x13.1) T_17 0 rfl)) _ _ (ownO.read (Sep.at (o := ownO (kF .f32) 25 v24 x13.2.1) T_17 1 rfl)) _ _ (ownO.read (Sep.at (o := ownO (kF .f32) 25 v25 x13.2.2) T_17 2 rfl)) _ hx14) rfl rfl ⟨rfl, rfl, trivial⟩ Try.func16 rfl rfl) (by rintro _ _ ⟨rfl, M_, T_⟩; exact ⟨Mod.ext M_, ⟨rfl, Sep.weak T_ (Ext.size E_22)⟩, Sep.fresh T_⟩)
      ·rintro hp41 E_23 _ ⟨rfl, T_18⟩
       refine Dep.nil ?_
       refine GuardOK.none rfl ?_
       exact OpV.toDx (opv_not rfl rfl) rfl
     rintro hp42 E_24 _ rfl
     refine DepM.nil ?_
     intro _ LK_
     have X_21 := Mod.lift X_18 E_24
     have S_23 := Sep.ext S_20 E_24
     show RL _ _ _ _ [] _ _
     refine RL.nil ?_
     refine thnN ?_
     by_cases c6 : (!x14) = true
     ·rw [if_pos c6] at hp
      refine W.condT rfl c6 ?_
      refine W.seq ?_
      refine W.region ?_
      refine RL.opD (by decide) (opv_assign rfl rfl) ?_
      refine RL.nil ?_
      refine thnN ?_
      refine W.ret ?_
      refine thnR ?_
      have er := Option.some.inj hp
      subst er
      exact Rt.one rfl rfl ⟨rfl, X_21, (Sep.nil _ _ _)⟩
     ·rw [if_neg c6] at hp
      have c6 := eq_false_of_ne_true c6
      refine W.condF rfl c6 ?_
      refine W.skip ?_
      refine thnN ?_
      refine W.seq ?_
      refine W.region ?_
      refine RL.opD (by decide) (opv_assign rfl rfl) ?_
      refine RL.nil ?_
      refine thnN ?_
      refine W.seq ?_
      obtain ⟨x15, hx15, hp⟩ := Option.bind_eq_some_iff.1 hp
      refine W.region ?_
      refine RL.opD (by decide) (opv_loadA (us := [(.int .i64 x6.1), (.int .i64 x6.2.1), (.bool x6.2.2.1), v13, v14]) rfl Try.agg31 Try.size31 rfl (Sep.at (o := boxO bb3 [(.int .i64 x6.1), (.int .i64 x6.2.1), (.bool x6.2.2.1), v13, v14]) S_23 5 rfl) rfl rfl) ?_
      refine RL.opD (by decide) (opv_move rfl rfl) ?_
      have S_25 : Sep [] h0.size hp42 [ownO (kF .f32) 25 v13 x6.2.2.2.1, ownO (kF .f32) 25 v14 x6.2.2.2.2] := Sep.sel S_23 [6, 7] (by decide)
      have S_24 : Sep [v13.ownBlock, v14.ownBlock] hp42.size hp42 [ownO (kF .f32) 25 v13 x6.2.2.2.1, ownO (kF .f32) 25 v14 x6.2.2.2.2] := Sep.own S_25 _
      refine RL.op _ (by decide) (opv_call (cap := []) (laws_markSheet_ok _ h0.size (Nat.le_trans (Nat.le_refl _) (Mod.size X_21)) _ _ _ _ _ _ _ _ S_24 (Sep.ge (L := [ownO (kF .f32) 25 v13 x6.2.2.2.1, ownO (kF .f32) 25 v14 x6.2.2.2.2]) S_25 (Nat.le_refl _) nob) _ hx15) rfl rfl ⟨rfl, rfl, trivial⟩ Try.func18 rfl rfl) ?_
      rintro _ hp43 ⟨rfl, MT_19, T_19⟩
      have S_26 : Sep [] h0.size hp42 ([ownO (kF .f32) 25 v13 x6.2.2.2.1, ownO (kF .f32) 25 v14 x6.2.2.2.2] ++ [ownO kB 4 v18 x8.1, boxO bb4 [v15, v16, v17], ownO (kF .f32) 25 v15 x7.1, ownO (kF .f32) 25 v16 x7.2.1, ownO (kF .f32) 25 v17 x7.2.2, boxO bb3 [(.int .i64 x6.1), (.int .i64 x6.2.1), (.bool x6.2.2.1), v13, v14], ownO kB 4 v6 x5.1, boxO bb2 [u1_0, u1_1, u1_2], boxO bb1 [(.int .i64 a0_0), (.int .i64 a0_1), (.bool a0_2), u0_3, u0_4]]) := Sep.sel S_23 [6, 7, 0, 1, 2, 3, 4, 5, 8, 9, 10] (by decide)
      obtain ⟨X_22, S_27⟩ := Sep.turn X_21 S_26 MT_19 T_19
      refine RL.opD (by decide) (opv_assign rfl rfl) ?_
      refine RL.nil ?_
      refine thnN ?_
      refine W.seq ?_
      obtain ⟨x16, hx16, hp⟩ := Option.bind_eq_some_iff.1 hp
      refine W.region ?_
      refine RL.opD (by decide) (opv_loadA (us := [v15, v16, v17]) rfl Try.agg28 Try.size28 rfl (Sep.at (o := boxO bb4 [v15, v16, v17]) S_27 3 rfl) rfl rfl) ?_
      refine RL.opD (by decide) (opv_move rfl rfl) ?_
      have S_29 : Sep [] h0.size hp43 [ownO (kF .f32) 25 v15 x7.1, ownO (kF .f32) 25 v16 x7.2.1, ownO (kF .f32) 25 v17 x7.2.2] := Sep.sel S_27 [4, 5, 6] (by decide)
      have S_28 : Sep [v15.ownBlock, v16.ownBlock, v17.ownBlock] hp43.size hp43 [ownO (kF .f32) 25 v15 x7.1, ownO (kF .f32) 25 v16 x7.2.1, ownO (kF .f32) 25 v17 x7.2.2] := Sep.own S_29 _
      refine RL.op _ (by decide) (opv_call (cap := []) (laws_markField_ok _ h0.size (Nat.le_trans (Nat.le_refl _) (Mod.size X_22)) _ _ _ _ _ _ _ S_28 (Sep.ge (L := [ownO (kF .f32) 25 v15 x7.1, ownO (kF .f32) 25 v16 x7.2.1, ownO (kF .f32) 25 v17 x7.2.2]) S_29 (Nat.le_refl _) nob) _ hx16) rfl rfl ⟨rfl, rfl, trivial⟩ Try.func19 rfl rfl) ?_
      rintro _ hp44 ⟨rfl, MT_20, T_20⟩
      have S_30 : Sep [] h0.size hp43 ([ownO (kF .f32) 25 v15 x7.1, ownO (kF .f32) 25 v16 x7.2.1, ownO (kF .f32) 25 v17 x7.2.2] ++ [ownO (kF .f32) 25 v13 x15.2.1, ownO (kF .f32) 25 v14 x15.2.2, ownO kB 4 v18 x8.1, boxO bb4 [v15, v16, v17], boxO bb3 [(.int .i64 x6.1), (.int .i64 x6.2.1), (.bool x6.2.2.1), v13, v14], ownO kB 4 v6 x5.1, boxO bb2 [u1_0, u1_1, u1_2], boxO bb1 [(.int .i64 a0_0), (.int .i64 a0_1), (.bool a0_2), u0_3, u0_4]]) := Sep.sel S_27 [4, 5, 6, 0, 1, 2, 3, 7, 8, 9, 10] (by decide)
      obtain ⟨X_23, S_31⟩ := Sep.turn X_22 S_30 MT_20 T_20
      refine RL.opD (by decide) (opv_assign rfl rfl) ?_
      refine RL.nil ?_
      refine thnN ?_
      refine W.seq ?_
      refine W.seq ?_
      obtain ⟨x17, hy2, hp⟩ := Option.bind_eq_some_iff.1 hp
      refine W.cut (fun φ' h' => Fr.sub [(0, (.agg (List.toArray (α := Value) [(.int .i64 a0_0), (.int .i64 a0_1), (.bool a0_2), u0_3, u0_4]))), (1, (.agg (List.toArray (α := Value) [u1_0, u1_1, u1_2]))), (2, (.int .i64 a2)), (3, (.pointer (some ⟨bb1, 0, none⟩))), (4, (.pointer (some ⟨bb2, 0, none⟩))), (6, (.bool false)), (7, (.int .i64 x2)), (23, (.bool (decide (x1 < 0)))), (28, (.bool (decide (x2 < 0)))), (8, v6), (9, (.bool x5.2)), (10, (.pointer (some ⟨bb3, 0, none⟩))), (11, (.pointer (some ⟨bb4, 0, none⟩))), (12, v18), (13, (.bool x8.2)), (57, (.bool x9)), (62, (.bool (!x12))), (67, (.bool (!x14))), (14, (.int .i64 x16.1)), (86, (.bool x17))] φ' ∧ hp44 = h') ?_ ?_
      ·by_cases c7 : (decide (x16.1 < 0)) = true
       ·rw [if_pos c7] at hy2
        refine W.region ?_
        refine RL.opD (by decide) (opv_move rfl rfl) ?_
        refine RL.opD (by decide) (opv_icmp rfl rfl rfl rfl) ?_
        refine RL.opD (by decide) (opv_move rfl rfl) ?_
        refine RL.noT rfl rfl c7 (by decide) ?_
        refine RL.noT rfl rfl c7 (by decide) ?_
        refine RL.noT rfl rfl c7 (by decide) ?_
        refine RL.noT rfl rfl c7 (by decide) ?_
        refine RL.opD (by decide) (opv_pick rfl rfl (fun _ => rfl) (fun e => absurd (Eq.trans (Eq.symm e) c7) (by decide)) rfl) ?_
        refine RL.opD (by decide) (opv_move rfl rfl) ?_
        refine RL.noT rfl rfl rfl (by decide) ?_
        refine RL.noT rfl rfl rfl (by decide) ?_
        refine RL.noT rfl rfl rfl (by decide) ?_
        refine RL.opD (by decide) (opv_pick rfl rfl (fun _ => rfl) (fun e => absurd (Eq.trans (Eq.symm e) rfl) (by decide)) rfl) ?_
        refine RL.nil ?_
        have ey2 := Option.some.inj hy2
        subst ey2
        refine onlyN ?_
        exact ⟨⟨rfl, rfl, rfl, rfl, rfl, rfl, rfl, rfl, rfl, rfl, rfl, rfl, rfl, rfl, rfl, rfl, rfl, rfl, rfl, rfl, trivial⟩, rfl⟩
       ·rw [if_neg c7] at hy2
        have c7 := eq_false_of_ne_true c7
        obtain ⟨x18, hx18, hy2⟩ := Option.bind_eq_some_iff.1 hy2
        by_cases c8 : (!x18) = true
        ·rw [if_pos c8] at hy2
         refine W.region ?_
         refine RL.opD (by decide) (opv_move rfl rfl) ?_
         refine RL.opD (by decide) (opv_icmp rfl rfl rfl rfl) ?_
         refine RL.opD (by decide) (opv_move rfl rfl) ?_
         refine RL.yesD rfl rfl c7 (by decide) (opv_move rfl rfl) ?_
         refine RL.yesD rfl rfl c7 (by decide) (opv_move rfl rfl) ?_
         refine RL.yes _ rfl rfl c7 (by decide) (opv_call (cap := []) (laws_eqBoolS_ok _ _ _ (ownO.read (Sep.at (o := ownO kB 4 v18 x8.1) S_31 5 rfl)) _ _ (ownO.read (Sep.at (o := ownO kB 4 v6 x5.1) S_31 8 rfl)) _ hx18) rfl rfl ⟨rfl, rfl, trivial⟩ Try.func25 rfl rfl) ?_
         rintro _ _ ⟨rfl, rfl⟩
         refine RL.yesD rfl rfl c7 (by decide) (opv_not rfl rfl) ?_
         refine RL.opD (by decide) (opv_pick rfl rfl (fun e => absurd (Eq.trans (Eq.symm e) c7) (by decide)) (fun _ => rfl) rfl) ?_
         refine RL.opD (by decide) (opv_move rfl rfl) ?_
         refine RL.noT rfl rfl c8 (by decide) ?_
         refine RL.noT rfl rfl c8 (by decide) ?_
         refine RL.noT rfl rfl c8 (by decide) ?_
         refine RL.opD (by decide) (opv_pick rfl rfl (fun _ => rfl) (fun e => absurd (Eq.trans (Eq.symm e) c8) (by decide)) rfl) ?_
         refine RL.nil ?_
         have ey2 := Option.some.inj hy2
         subst ey2
         refine onlyN ?_
         exact ⟨⟨rfl, rfl, rfl, rfl, rfl, rfl, rfl, rfl, rfl, rfl, rfl, rfl, rfl, rfl, rfl, rfl, rfl, rfl, rfl, rfl, trivial⟩, rfl⟩
        ·rw [if_neg c8] at hy2
         have c8 := eq_false_of_ne_true c8
         refine W.region ?_
         refine RL.opD (by decide) (opv_move rfl rfl) ?_
         refine RL.opD (by decide) (opv_icmp rfl rfl rfl rfl) ?_
         refine RL.opD (by decide) (opv_move rfl rfl) ?_
         refine RL.yesD rfl rfl c7 (by decide) (opv_move rfl rfl) ?_
         refine RL.yesD rfl rfl c7 (by decide) (opv_move rfl rfl) ?_
         refine RL.yes _ rfl rfl c7 (by decide) (opv_call (cap := []) (laws_eqBoolS_ok _ _ _ (ownO.read (Sep.at (o := ownO kB 4 v18 x8.1) S_31 5 rfl)) _ _ (ownO.read (Sep.at (o := ownO kB 4 v6 x5.1) S_31 8 rfl)) _ hx18) rfl rfl ⟨rfl, rfl, trivial⟩ Try.func25 rfl rfl) ?_
         rintro _ _ ⟨rfl, rfl⟩
         refine RL.yesD rfl rfl c7 (by decide) (opv_not rfl rfl) ?_
         refine RL.opD (by decide) (opv_pick rfl rfl (fun e => absurd (Eq.trans (Eq.symm e) c7) (by decide)) (fun _ => rfl) rfl) ?_
         refine RL.opD (by decide) (opv_move rfl rfl) ?_
         refine RL.yesD rfl rfl c8 (by decide) (opv_move rfl rfl) ?_
         refine RL.yesD rfl rfl c8 (by decide) (opv_move rfl rfl) ?_
         refine RL.yesD rfl rfl c8 (by decide) (opv_bcmp rfl rfl Try.underlying4 rfl rfl) ?_
         refine RL.opD (by decide) (opv_pick rfl rfl (fun e => absurd (Eq.trans (Eq.symm e) c8) (by decide)) (fun _ => rfl) rfl) ?_
         refine RL.nil ?_
         have ey2 := Option.some.inj hy2
         subst ey2
         refine onlyN ?_
         exact ⟨⟨rfl, rfl, rfl, rfl, rfl, rfl, rfl, rfl, rfl, rfl, rfl, rfl, rfl, rfl, rfl, rfl, rfl, rfl, rfl, rfl, trivial⟩, rfl⟩
      rintro φ' _ ⟨hs2, rfl⟩
      refine thnN ?_
      refine W.sub hs2 ?_
      by_cases c9 : x17 = true
      ·rw [if_pos c9] at hp
       refine W.condT rfl c9 ?_
       refine W.seq ?_
       refine W.region ?_
       refine RL.opD (by decide) (opv_assign rfl rfl) ?_
       refine RL.nil ?_
       refine thnN ?_
       refine W.ret ?_
       refine thnR ?_
       have er := Option.some.inj hp
       subst er
       exact Rt.one rfl rfl ⟨rfl, X_23, (Sep.nil _ _ _)⟩
      ·rw [if_neg c9] at hp
       have c9 := eq_false_of_ne_true c9
       refine W.condF rfl c9 ?_
       refine W.skip ?_
       refine thnN ?_
       refine W.seq ?_
       refine W.region ?_
       refine RL.opD (by decide) (opv_assign rfl rfl) ?_
       refine RL.nil ?_
       refine thnN ?_
       refine W.seq ?_
       obtain ⟨x19, hx19, hp⟩ := Option.bind_eq_some_iff.1 hp
       refine W.region ?_
       refine RL.opD (by decide) (opv_move rfl rfl) ?_
       refine RL.opD (by decide) (opv_move rfl rfl) ?_
       have S_33 : Sep [] h0.size hp44 [ownO kB 4 v18 x8.1] := Sep.sel S_31 [5] (by decide)
       have S_32 : Sep [v18.ownBlock] hp44.size hp44 [ownO kB 4 v18 x8.1] := Sep.own S_33 _
       refine RL.op _ (by decide) (opv_call (cap := []) (laws_markBoolS_ok _ h0.size (Nat.le_trans (Nat.le_refl _) (Mod.size X_23)) _ _ _ S_32 (Sep.ge (L := [ownO kB 4 v18 x8.1]) S_33 (Nat.le_refl _) nob) _ hx19) rfl rfl ⟨rfl, rfl, trivial⟩ Try.func26 rfl rfl) ?_
       rintro _ hp45 ⟨rfl, MT_21, T_21⟩
       have S_34 : Sep [] h0.size hp44 ([ownO kB 4 v18 x8.1] ++ [ownO (kF .f32) 25 v15 x16.2.1, ownO (kF .f32) 25 v16 x16.2.2.1, ownO (kF .f32) 25 v17 x16.2.2.2, ownO (kF .f32) 25 v13 x15.2.1, ownO (kF .f32) 25 v14 x15.2.2, boxO bb4 [v15, v16, v17], boxO bb3 [(.int .i64 x6.1), (.int .i64 x6.2.1), (.bool x6.2.2.1), v13, v14], ownO kB 4 v6 x5.1, boxO bb2 [u1_0, u1_1, u1_2], boxO bb1 [(.int .i64 a0_0), (.int .i64 a0_1), (.bool a0_2), u0_3, u0_4]]) := Sep.sel S_31 [5, 0, 1, 2, 3, 4, 6, 7, 8, 9, 10] (by decide)
       obtain ⟨X_24, S_35⟩ := Sep.turn X_23 S_34 MT_21 T_21
       refine RL.opD (by decide) (opv_assign rfl rfl) ?_
       refine RL.nil ?_
       refine thnN ?_
       refine W.seq ?_
       refine W.region ?_
       refine RL.opD (by decide) (opv_assign rfl rfl) ?_
       refine RL.nil ?_
       refine thnN ?_
       refine W.seq ?_
       obtain ⟨x20, hx20, hp⟩ := Option.bind_eq_some_iff.1 hp
       refine W.region ?_
       refine RL.opD (by decide) (opv_move rfl rfl) ?_
       refine RL.opD (by decide) (opv_move rfl rfl) ?_
       refine RL.op _ (by decide) (opv_call (cap := []) (laws_heldBoolS_ok _ _ _ (ownO.read (Sep.at (o := ownO kB 4 v18 x19.2) S_35 0 rfl)) _ _ hx20) rfl rfl ⟨rfl, rfl, trivial⟩ Try.func27 rfl rfl) ?_
       rintro _ _ ⟨rfl, rfl⟩
       refine RL.opD (by decide) (opv_assign rfl rfl) ?_
       refine RL.nil ?_
       refine thnN ?_
       refine W.seq ?_
       refine W.seq ?_
       refine W.region ?_
       refine RL.opD (by decide) (opv_move rfl rfl) ?_
       refine RL.opD (by decide) (opv_icmp rfl rfl rfl rfl) ?_
       refine RL.nil ?_
       refine thnN ?_
       by_cases c10 : (decide (x20 < 0)) = true
       ·rw [if_pos c10] at hp
        refine W.condT rfl c10 ?_
        refine W.seq ?_
        refine W.region ?_
        refine RL.opD (by decide) (opv_assign rfl rfl) ?_
        refine RL.nil ?_
        refine thnN ?_
        refine W.ret ?_
        refine thnR ?_
        have er := Option.some.inj hp
        subst er
        exact Rt.one rfl rfl ⟨rfl, X_24, (Sep.nil _ _ _)⟩
       ·rw [if_neg c10] at hp
        have c10 := eq_false_of_ne_true c10
        refine W.condF rfl c10 ?_
        refine W.skip ?_
        refine thnN ?_
        refine W.seq ?_
        refine W.seq ?_
        refine W.region ?_
        refine RL.opD (by decide) (opv_move rfl rfl) ?_
        refine RL.opD (by decide) (opv_move rfl rfl) ?_
        refine RL.opD (by decide) (opv_icmp rfl rfl rfl rfl) ?_
        refine RL.nil ?_
        refine thnN ?_
        by_cases c11 : (x20 != x19.1) = true
        ·rw [if_pos c11] at hp
         refine W.condT rfl c11 ?_
         refine W.seq ?_
         refine W.region ?_
         refine RL.opD (by decide) (opv_assign rfl rfl) ?_
         refine RL.nil ?_
         refine thnN ?_
         refine W.ret ?_
         refine thnR ?_
         have er := Option.some.inj hp
         subst er
         exact Rt.one rfl rfl ⟨rfl, X_24, (Sep.nil _ _ _)⟩
        ·rw [if_neg c11] at hp
         have c11 := eq_false_of_ne_true c11
         refine W.condF rfl c11 ?_
         refine W.skip ?_
         refine thnN ?_
         refine W.seq ?_
         obtain ⟨x21, hx21, hp⟩ := Option.bind_eq_some_iff.1 hp
         obtain ⟨x22, hx22, hp⟩ := Option.bind_eq_some_iff.1 hp
         obtain ⟨x23, hx23, hp⟩ := Option.bind_eq_some_iff.1 hp
         refine W.sub (ψ := [(0, (.agg (List.toArray (α := Value) [(.int .i64 a0_0), (.int .i64 a0_1), (.bool a0_2), u0_3, u0_4]))), (1, (.agg (List.toArray (α := Value) [u1_0, u1_1, u1_2]))), (2, (.int .i64 a2)), (3, (.pointer (some ⟨bb1, 0, none⟩))), (4, (.pointer (some ⟨bb2, 0, none⟩))), (6, (.bool false)), (7, (.int .i64 x2)), (23, (.bool (decide (x1 < 0)))), (28, (.bool (decide (x2 < 0)))), (8, v6), (9, (.bool x5.2)), (10, (.pointer (some ⟨bb3, 0, none⟩))), (11, (.pointer (some ⟨bb4, 0, none⟩))), (12, v18), (13, (.bool x8.2)), (57, (.bool x9)), (62, (.bool (!x12))), (67, (.bool (!x14))), (14, (.int .i64 x16.1)), (86, (.bool x17)), (15, (.int .i64 x19.1)), (16, (.int .i64 x20)), (94, (.bool (decide (x20 < 0)))), (97, (.bool (x20 != x19.1)))]) ⟨rfl, rfl, rfl, rfl, rfl, rfl, rfl, rfl, rfl, rfl, rfl, rfl, rfl, rfl, rfl, rfl, rfl, rfl, rfl, rfl, rfl, rfl, rfl, rfl, trivial⟩ ?_
         refine W.regionM [fun v _ => @Eq Value (.agg (List.toArray (α := Value) [(.int .i64 a0_0), (.int .i64 a0_1), (.bool a0_2), u0_3, u0_4])) v, fun v h => ∃ v29, ∃ v30, @Eq Value v (.agg (List.toArray (α := Value) [(.int .i64 x21.1), (.int .i64 x21.2.1), (.bool x21.2.2.1), v29, v30])) ∧ Sep [] hp45.size h [ownO (kF .f32) 25 v29 x21.2.2.2.1, ownO (kF .f32) 25 v30 x21.2.2.2.2], fun v _ => @Eq Value (.agg (List.toArray (α := Value) [u1_0, u1_1, u1_2])) v, fun v h => ∃ v31, ∃ v32, ∃ v33, @Eq Value v (.agg (List.toArray (α := Value) [v31, v32, v33])) ∧ Sep [] hp45.size h [ownO (kF .f32) 25 v31 x22.1, ownO (kF .f32) 25 v32 x22.2.1, ownO (kF .f32) 25 v33 x22.2.2], fun v _ => @Eq Value (.int .i64 a2) v, fun v h => ∃ v34, @Eq Value v (.tuple (List.toArray (α := Value) [v34, (.bool x23.2)])) ∧ Sep [] hp45.size h [ownO kB 4 v34 x23.1], fun v h => ∃ v34, @Eq Value v (.tuple (List.toArray (α := Value) [v34, (.bool x23.2)])) ∧ Sep [] hp45.size h [ownO kB 4 v34 x23.1], fun v h => ∃ v34, @Eq Value v v34 ∧ Sep [] hp45.size h [ownO kB 4 v34 x23.1], fun v _ => @Eq Value (.bool x23.2) v, fun v h => ∃ v34, @Eq Value v v34 ∧ Sep [] hp45.size h [ownO kB 4 v34 x23.1], fun v _ => @Eq Value (.bool x23.2) v] [none, some (fun u => [Value.ownBlock (vget u 3), Value.ownBlock (vget u 4)]), none, some (fun u => [Value.ownBlock (vget u 0), Value.ownBlock (vget u 1), Value.ownBlock (vget u 2)]), none, some (fun u => [Value.ownBlock (vget u 0)]), none, none, none, none, none] [none, none, none, none, none, none, some (104, fun u => u), some (98, fun u => vget u 0), none, some (105, fun u => u)] [[], [0], [], [2], [], [1, 3, 4], [5], [6], [6], [7], [8]] [5, 6, 7, 9, 10] Try.mixed (by decide +kernel) (by decide +kernel) rfl rfl rfl (by decide +kernel) rfl ⟨fun _ _ _ h _ => h, fun _ _ _ ⟨u0_, u1_, e, h⟩ x => ⟨u0_, u1_, e, h.ext x⟩, fun _ _ _ h _ => h, fun _ _ _ ⟨u0_, u1_, u2_, e, h⟩ x => ⟨u0_, u1_, u2_, e, h.ext x⟩, fun _ _ _ h _ => h, fun _ _ _ ⟨u0_, e, h⟩ x => ⟨u0_, e, h.ext x⟩, fun _ _ _ ⟨u0_, e, h⟩ x => ⟨u0_, e, h.ext x⟩, fun _ _ _ ⟨u0_, e, h⟩ x => ⟨u0_, e, h.ext x⟩, fun _ _ _ h _ => h, fun _ _ _ ⟨u0_, e, h⟩ x => ⟨u0_, e, h.ext x⟩, fun _ _ _ h _ => h, trivial⟩ ?_ ?_
         ·refine ⟨⟨rfl, ?_⟩, ⟨rfl, ?_⟩, ⟨rfl, ?_⟩, ⟨rfl, ?_⟩, ⟨rfl, ?_⟩, ⟨rfl, ?_⟩, ⟨rfl, ?_⟩, ⟨rfl, ?_⟩, ⟨rfl, ?_⟩, ⟨rfl, ?_⟩, ⟨rfl, ?_⟩, trivial⟩
          ·rintro hp49 E_25
           refine Dep.nil ?_
           refine GuardOK.none rfl ?_
           exact OpV.toDx (opv_loadA (us := [(.int .i64 a0_0), (.int .i64 a0_1), (.bool a0_2), u0_3, u0_4]) rfl Try.agg24 Try.size24 rfl (Sep.at (o := boxO bb1 [(.int .i64 a0_0), (.int .i64 a0_1), (.bool a0_2), u0_3, u0_4]) (Sep.ext S_35 E_25) 10 rfl) rfl rfl) rfl
          ·rintro hp50 E_26 _ rfl
           refine Dep.nil ?_
           refine GuardOK.none rfl ?_
           exact OpV.mono (opv_call (cap := []) (laws_toSheet_ok _ _ _ _ _ _ (SL.up (SL.mod g0_3 (Mod.lift X_24 E_26) (Nat.le_refl _) nob) (Nat.le_trans (Nat.le_refl _) (Mod.size (Mod.lift X_24 E_26)))) _ _ (SL.up (SL.mod g0_4 (Mod.lift X_24 E_26) (Nat.le_refl _) nob) (Nat.le_trans (Nat.le_refl _) (Mod.size (Mod.lift X_24 E_26)))) _ hx21) rfl rfl ⟨rfl, trivial⟩ Try.func14 rfl rfl) (by rintro _ _ ⟨v29, v30, rfl, M_, T_⟩; exact ⟨Mod.ext M_, ⟨v29, v30, rfl, Sep.weak T_ (Ext.size E_26)⟩, Sep.fresh T_⟩)
          ·rintro hp51 E_27
           refine Dep.nil ?_
           refine GuardOK.none rfl ?_
           exact OpV.toDx (opv_loadA (us := [u1_0, u1_1, u1_2]) rfl Try.agg38 Try.size38 rfl (Sep.at (o := boxO bb2 [u1_0, u1_1, u1_2]) (Sep.ext S_35 E_27) 9 rfl) rfl rfl) rfl
          ·rintro hp52 E_28 _ rfl
           refine Dep.nil ?_
           refine GuardOK.none rfl ?_
           exact OpV.mono (opv_call (cap := []) (laws_toField_ok _ _ _ (SL.up (SL.mod g1_0 (Mod.lift X_24 E_28) (Nat.le_refl _) nob) (Nat.le_trans (Nat.le_refl _) (Mod.size (Mod.lift X_24 E_28)))) _ _ (SL.up (SL.mod g1_1 (Mod.lift X_24 E_28) (Nat.le_refl _) nob) (Nat.le_trans (Nat.le_refl _) (Mod.size (Mod.lift X_24 E_28)))) _ _ (SL.up (SL.mod g1_2 (Mod.lift X_24 E_28) (Nat.le_refl _) nob) (Nat.le_trans (Nat.le_refl _) (Mod.size (Mod.lift X_24 E_28)))) _ hx22) rfl rfl ⟨rfl, trivial⟩ Try.func23 rfl rfl) (by rintro _ _ ⟨v31, v32, v33, rfl, M_, T_⟩; exact ⟨Mod.ext M_, ⟨v31, v32, v33, rfl, Sep.weak T_ (Ext.size E_28)⟩, Sep.fresh T_⟩)
          ·rintro hp53 E_29
           refine Dep.nil ?_
           refine GuardOK.none rfl ?_
           exact OpV.toDx (opv_move rfl rfl) rfl
          ·rintro hp54 E_30 _ ⟨v29, v30, rfl, T_22⟩ _ ⟨v31, v32, v33, rfl, T_23⟩ _ rfl
           refine Dep.nil ?_
           refine GuardOK.none rfl ?_
           exact OpV.mono (opv_call (cap := []) (impl_SleepingBlocks_ok _ _ _ _ _ _ (ownO.read (Sep.at (o := ownO (kF .f32) 25 v29 x21.2.2.2.1) T_22 0 rfl)) _ _ (ownO.read (Sep.at (o := ownO (kF .f32) 25 v30 x21.2.2.2.2) T_22 1 rfl)) _ _ (ownO.read (Sep.at (o := ownO (kF .f32) 25 v31 x22.1) T_23 0 rfl)) _ _ (ownO.read (Sep.at (o := ownO (kF .f32) 25 v32 x22.2.1) T_23 1 rfl)) _ _ (ownO.read (Sep.at (o := ownO (kF .f32) 25 v33 x22.2.2) T_23 2 rfl)) _ _ hx23) rfl rfl ⟨rfl, rfl, rfl, trivial⟩ Try.func24 rfl rfl) (by rintro _ _ ⟨v34, rfl, M_, T_⟩; exact ⟨Mod.ext M_, ⟨v34, rfl, Sep.weak T_ (Ext.size E_30)⟩, Sep.fresh T_⟩)
          ·rintro hp55 E_31 _ ⟨v34, rfl, T_24⟩
           refine Dep.nil ?_
           refine GuardOK.none rfl ?_
           exact OpV.mono (opv_move rfl rfl) (by rintro _ _ ⟨rfl, rfl⟩; exact ⟨⟨Ext.refl _, v34, rfl, T_24⟩, _, rfl, rfl⟩)
          ·rintro hp56 E_32 _ ⟨v34, rfl, T_24⟩
           refine Dep.nil ?_
           refine GuardOK.none rfl ?_
           exact OpV.mono (opv_extract rfl rfl rfl) (by rintro _ _ ⟨rfl, rfl⟩; exact ⟨⟨Ext.refl _, v34, rfl, T_24⟩, _, rfl, rfl⟩)
          ·rintro hp57 E_33 _ ⟨v34, rfl, T_24⟩
           refine Dep.nil ?_
           refine GuardOK.none rfl ?_
           exact OpV.toDx (opv_extract rfl rfl rfl) rfl
          ·rintro hp58 E_34 v34 ⟨_, rfl, T_24⟩
           refine Dep.nil ?_
           refine GuardOK.none rfl ?_
           exact OpV.mono (opv_assign rfl rfl) (by rintro _ _ ⟨rfl, rfl⟩; exact ⟨⟨Ext.refl _, v34, rfl, T_24⟩, _, rfl, rfl⟩)
          ·rintro hp59 E_35 _ rfl
           refine Dep.nil ?_
           refine GuardOK.none rfl ?_
           exact OpV.toDx (opv_assign rfl rfl) rfl
         rintro hp60 E_36 _ ⟨v34, rfl, T_24⟩ z6_ _ z7_ _ z9_ _ _ rfl
         refine DepM.nil ?_
         intro PW_2 LK_
         have ez6_ : z6_ = (.tuple (List.toArray (α := Value) [v34, (.bool x23.2)])) := LK_ 6 _ _ _ _ _ (by decide) rfl rfl rfl rfl
         subst z6_
         have ez7_ : z7_ = v34 := LK_ 7 _ _ _ _ _ (by decide) rfl rfl rfl rfl
         subst z7_
         have ez9_ : z9_ = v34 := LK_ 9 _ _ _ _ _ (by decide) rfl rfl rfl rfl
         subst z9_
         have X_28 := Mod.lift X_24 E_36
         have S_39 := Sep.join S_35 (Mod.size X_24) (Ext.mod E_36 []) T_24
         show RL _ _ _ _ [] _ _
         refine RL.nil ?_
         refine thnN ?_
         refine W.seq ?_
         refine W.seq ?_
         obtain ⟨x24, hy3, hp⟩ := Option.bind_eq_some_iff.1 hp
         refine W.cut (fun φ' h' => Fr.sub [(0, (.agg (List.toArray (α := Value) [(.int .i64 a0_0), (.int .i64 a0_1), (.bool a0_2), u0_3, u0_4]))), (1, (.agg (List.toArray (α := Value) [u1_0, u1_1, u1_2]))), (2, (.int .i64 a2)), (3, (.pointer (some ⟨bb1, 0, none⟩))), (4, (.pointer (some ⟨bb2, 0, none⟩))), (6, (.bool false)), (7, (.int .i64 x2)), (23, (.bool (decide (x1 < 0)))), (28, (.bool (decide (x2 < 0)))), (8, v6), (9, (.bool x5.2)), (10, (.pointer (some ⟨bb3, 0, none⟩))), (11, (.pointer (some ⟨bb4, 0, none⟩))), (12, v18), (13, (.bool x8.2)), (57, (.bool x9)), (62, (.bool (!x12))), (67, (.bool (!x14))), (14, (.int .i64 x16.1)), (86, (.bool x17)), (15, (.int .i64 x19.1)), (16, (.int .i64 x20)), (94, (.bool (decide (x20 < 0)))), (97, (.bool (x20 != x19.1))), (17, v34), (18, (.bool x23.2)), (115, (.bool x24))] φ' ∧ hp60 = h') ?_ ?_
         ·obtain ⟨x25, hx25, hy3⟩ := Option.bind_eq_some_iff.1 hy3
          by_cases c12 : (!x25) = true
          ·rw [if_pos c12] at hy3
           refine W.region ?_
           refine RL.opD (by decide) (opv_move rfl rfl) ?_
           refine RL.opD (by decide) (opv_move rfl rfl) ?_
           refine RL.op _ (by decide) (opv_call (cap := []) (laws_eqBoolS_ok _ _ _ (ownO.read (Sep.at (o := ownO kB 4 v34 x23.1) S_39 0 rfl)) _ _ (ownO.read (Sep.at (o := ownO kB 4 v6 x5.1) S_39 9 rfl)) _ hx25) rfl rfl ⟨rfl, rfl, trivial⟩ Try.func25 rfl rfl) ?_
           rintro _ _ ⟨rfl, rfl⟩
           refine RL.opD (by decide) (opv_not rfl rfl) ?_
           refine RL.opD (by decide) (opv_move rfl rfl) ?_
           refine RL.noT rfl rfl c12 (by decide) ?_
           refine RL.noT rfl rfl c12 (by decide) ?_
           refine RL.noT rfl rfl c12 (by decide) ?_
           refine RL.opD (by decide) (opv_pick rfl rfl (fun _ => rfl) (fun e => absurd (Eq.trans (Eq.symm e) c12) (by decide)) rfl) ?_
           refine RL.nil ?_
           have ey3 := Option.some.inj hy3
           subst ey3
           refine onlyN ?_
           exact ⟨⟨rfl, rfl, rfl, rfl, rfl, rfl, rfl, rfl, rfl, rfl, rfl, rfl, rfl, rfl, rfl, rfl, rfl, rfl, rfl, rfl, rfl, rfl, rfl, rfl, rfl, rfl, rfl, trivial⟩, rfl⟩
          ·rw [if_neg c12] at hy3
           have c12 := eq_false_of_ne_true c12
           refine W.region ?_
           refine RL.opD (by decide) (opv_move rfl rfl) ?_
           refine RL.opD (by decide) (opv_move rfl rfl) ?_
           refine RL.op _ (by decide) (opv_call (cap := []) (laws_eqBoolS_ok _ _ _ (ownO.read (Sep.at (o := ownO kB 4 v34 x23.1) S_39 0 rfl)) _ _ (ownO.read (Sep.at (o := ownO kB 4 v6 x5.1) S_39 9 rfl)) _ hx25) rfl rfl ⟨rfl, rfl, trivial⟩ Try.func25 rfl rfl) ?_
           rintro _ _ ⟨rfl, rfl⟩
           refine RL.opD (by decide) (opv_not rfl rfl) ?_
           refine RL.opD (by decide) (opv_move rfl rfl) ?_
           refine RL.yesD rfl rfl c12 (by decide) (opv_move rfl rfl) ?_
           refine RL.yesD rfl rfl c12 (by decide) (opv_move rfl rfl) ?_
           refine RL.yesD rfl rfl c12 (by decide) (opv_bcmp rfl rfl Try.underlying4 rfl rfl) ?_
           refine RL.opD (by decide) (opv_pick rfl rfl (fun e => absurd (Eq.trans (Eq.symm e) c12) (by decide)) (fun _ => rfl) rfl) ?_
           refine RL.nil ?_
           have ey3 := Option.some.inj hy3
           subst ey3
           refine onlyN ?_
           exact ⟨⟨rfl, rfl, rfl, rfl, rfl, rfl, rfl, rfl, rfl, rfl, rfl, rfl, rfl, rfl, rfl, rfl, rfl, rfl, rfl, rfl, rfl, rfl, rfl, rfl, rfl, rfl, rfl, trivial⟩, rfl⟩
         rintro φ' _ ⟨hs3, rfl⟩
         refine thnN ?_
         refine W.sub hs3 ?_
         by_cases c13 : x24 = true
         ·rw [if_pos c13] at hp
          refine W.condT rfl c13 ?_
          refine W.seq ?_
          refine W.region ?_
          refine RL.opD (by decide) (opv_assign rfl rfl) ?_
          refine RL.nil ?_
          refine thnN ?_
          refine W.ret ?_
          refine thnR ?_
          have er := Option.some.inj hp
          subst er
          exact Rt.one rfl rfl ⟨rfl, X_28, (Sep.nil _ _ _)⟩
         ·rw [if_neg c13] at hp
          have c13 := eq_false_of_ne_true c13
          refine W.condF rfl c13 ?_
          refine W.skip ?_
          refine thnN ?_
          refine W.seq ?_
          refine W.region ?_
          refine RL.opD (by decide) (opv_assign rfl rfl) ?_
          refine RL.nil ?_
          refine thnN ?_
          refine W.seq ?_
          obtain ⟨x26, hx26, hp⟩ := Option.bind_eq_some_iff.1 hp
          refine W.region ?_
          refine RL.opD (by decide) (opv_move rfl rfl) ?_
          refine RL.opD (by decide) (opv_move rfl rfl) ?_
          refine RL.op _ (by decide) (opv_call (cap := []) (laws_heldBoolS_ok _ _ _ (ownO.read (Sep.at (o := ownO kB 4 v18 x19.2) S_39 1 rfl)) _ _ hx26) rfl rfl ⟨rfl, rfl, trivial⟩ Try.func27 rfl rfl) ?_
          rintro _ _ ⟨rfl, rfl⟩
          refine RL.opD (by decide) (opv_assign rfl rfl) ?_
          refine RL.nil ?_
          refine thnN ?_
          refine W.seq ?_
          refine W.seq ?_
          refine W.region ?_
          refine RL.opD (by decide) (opv_move rfl rfl) ?_
          refine RL.opD (by decide) (opv_icmp rfl rfl rfl rfl) ?_
          refine RL.nil ?_
          refine thnN ?_
          by_cases c14 : (decide (x26 < 0)) = true
          ·rw [if_pos c14] at hp
           refine W.condT rfl c14 ?_
           refine W.seq ?_
           refine W.region ?_
           refine RL.opD (by decide) (opv_assign rfl rfl) ?_
           refine RL.nil ?_
           refine thnN ?_
           refine W.ret ?_
           refine thnR ?_
           have er := Option.some.inj hp
           subst er
           exact Rt.one rfl rfl ⟨rfl, X_28, (Sep.nil _ _ _)⟩
          ·rw [if_neg c14] at hp
           have c14 := eq_false_of_ne_true c14
           refine W.condF rfl c14 ?_
           refine W.skip ?_
           refine thnN ?_
           refine W.seq ?_
           refine W.seq ?_
           refine W.region ?_
           refine RL.opD (by decide) (opv_move rfl rfl) ?_
           refine RL.opD (by decide) (opv_move rfl rfl) ?_
           refine RL.opD (by decide) (opv_icmp rfl rfl rfl rfl) ?_
           refine RL.nil ?_
           refine thnN ?_
           by_cases c15 : (x26 != x19.1) = true
           ·rw [if_pos c15] at hp
            refine W.condT rfl c15 ?_
            refine W.seq ?_
            refine W.region ?_
            refine RL.opD (by decide) (opv_assign rfl rfl) ?_
            refine RL.nil ?_
            refine thnN ?_
            refine W.ret ?_
            refine thnR ?_
            have er := Option.some.inj hp
            subst er
            exact Rt.one rfl rfl ⟨rfl, X_28, (Sep.nil _ _ _)⟩
           ·rw [if_neg c15] at hp
            have c15 := eq_false_of_ne_true c15
            refine W.condF rfl c15 ?_
            refine W.skip ?_
            refine thnN ?_
            refine W.seq ?_
            refine W.region ?_
            refine RL.opD (by decide) (opv_assign rfl rfl) ?_
            refine RL.nil ?_
            refine thnN ?_
            refine W.ret ?_
            have er := Option.some.inj hp
            subst er
            exact Rt.one rfl rfl ⟨rfl, X_28, (Sep.nil _ _ _)⟩

end Go.H
